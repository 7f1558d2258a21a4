/- Part TyB; no condition. -/
import Derived.Test.YtfmhlfoemkjoiaaGreatTyA
set_option maxHeartbeats 40000000
set_option maxRecDepth 100000
set_option linter.unusedVariables false
set_option linter.unusedSimpArgs false
namespace Go.Px
open Go.Ax Go.Proofs
theorem ref_eChunks(n:Int)(h0:0<=n)(h1:n<=100000):PCall Tryz.prog 410 [.sc (.int .i64 n)] λv=>v=.sc (.int .i64 ((n+7) / 8)):=by
 have hq:=quo_n h0 h1;refine PCall.of (qB_ok ?_);refine sT ?_;refine⟨.sc (.int .i64 (IntKind.i64.wrap ((iwrap .i64 (isub (iwrap .i64 (iadd n 8)) 1)).tdiv 8))),.frz _ _ ?_,by rw[hq]⟩;conv=>arg 3;whnf
 exact .sc _
theorem ref_eOne'(t r:Int)(ready pin:Bool)(used:Int)(known:Bool)(snap:Tms)(got:List Bool)(hsn:TmIn snap)(hgl:got.length<9223372036854775808)(hu:-9223372036854775808<=used/\used<9223372036854775808):PCall Tryz.prog 355 [.agg [.sc (.int .u32 t),.sc (.int .u8 r),.sc (.bool ready),.sc (.bool pin),.sc (.int .i64 used),.sc (.bool known),encT snap,encG got]] λv=>∃b,v=.sc (.bool b)/\(b=true↔OneX t r ready used known snap got):=by
 have hsl:=hsn.len;refine PCall.of (qB_ok ?_);refine sT ?_;refine brec (λh1=>?_) (λh1=>?_)
 .have hz:=nz_ne h1;refine sT ?_;refine(ref_StMay t r).callG rfl λv hv=>?_;obtain⟨b,hv,hb⟩:=hv;refine⟨_,hv,?_⟩;cases b with
  | true=>
   have hid:(t=0/\r=0)\/StMay t r:=.inr (hb.1 rfl);exact jf
  | false=>
   refine sT ?_;refine⟨_,.frz _ _ (.sc _),false,rfl,⟨λh=>j7,λh=>?_⟩⟩;exfalso;exact h.1.elim hz λh=>by have:=hb.2 h;cases this
 .have hid:(t=0/\r=0)\/StMay t r:=.inl (nz_eq h1);exact jf
theorem ref_eOne(e:EnD)(hi:EnIn e):PCall Tryz.prog 355 [encEy e] λv=>∃b,v=.sc (.bool b)/\(b=true↔z41 e):=ref_eOne' _ _ _ _ _ _ _ _ hi.snap hi.got hi.used
theorem rone_at(h:Sf)(hi:SfIn h){i j:Nat}(e:j=i):PCall Tryz.prog 355 [.agg (rowEy h j)] λv=>∃b,v=.sc (.bool b)/\(b=true↔z41 (eD h i)):=by subst e;exact ref_eOne _ (hi.e j)
theorem rless_at(h:Sf){i j k:Nat}(e:j=i-1)(e2:k=i):PCall Tryz.prog 221 [encId (eD h j).t (eD h j).r,encId (eD h k).t (eD h k).r] λv=>∃b,v=.sc (.bool b)/\(b=true↔Lt (eD h (i-1)).t (eD h (i-1)).r (eD h i).t (eD h i).r):=by subst e;subst e2;exact z4u _ _ _ _
theorem ref_ShMay(h:Sf)(hi:SfIn h):PCall Tryz.prog 274 [encF h] λv=>∃b,v=.sc (.bool b)/\(b=true↔ShMay h):=by
 refine PCall.of (qB_ok ?_);have hlen:=hi.len;by_cases h65:65<h.length
 .refine sT ?_;refine LoopS.once ?_;refine sT ?_;refine⟨.sc (.bool (!ilt 65 (h.length:Int))),.frz _ _ ?_,_,rfl,?_⟩
  .exact xZ
  .exact vi
 refine sT ?_;refine LoopS.at (α:=Nat) [] 0 [0,3] (λi=>[encF h,.sc (.int .i64 i)]) (λ_=>[]) (λi=>i<=h.length/\∀j,j<i->z41 (eD h j)/\LessId h j) (λi=>h.length-i) 0 ⟨y05 _,λj hj=>absurd hj (y07 _)⟩ (λ_=>rfl) (y03 _) (y03 _) HL.nil ?_ ?_
 .exact yn
 .rintro i ⟨hil,hj⟩;by_cases h1:i<h.length
  .have e1:iwrap .i64 (iadd (i:Int) 1)=((i+1:Nat):Int):=addA;refine sT ?_;refine(rone_at h hi (i:=i) j5).callG rfl λv hv=>?_;obtain⟨b,hv,hb⟩:=hv;cases b with
   | false=>
    refine⟨_,hv,?_⟩;refine sT ?_;exact⟨_,.frz _ _ (.sc _),false,rfl,⟨λh=>j7,λhh=>by have:=hb.2 (hh.2 i h1).1;cases this⟩⟩
   | true=>
    have hone:=hb.1 rfl;refine⟨_,hv,?_⟩;by_cases h0:i=0
    .refine sT ?_;refine⟨i+1,⟨j5,λj hj'=>?_⟩,j5,y05 _,HL.nil,?_⟩
     .by_cases e:j=i
      .rw[e];exact⟨hone,.inl h0⟩
      .exact yq
     .exact xR
    .have e2:iwrap .i64 (isub (i:Int) 1)=((i-1:Nat):Int):=subA;refine sT ?_;refine(rless_at h (i:=i) j5 j5).callG rfl λv hv=>?_;obtain⟨b,hv,hb⟩:=hv;cases b with
     | false=>
      refine⟨_,hv,?_⟩;refine sT ?_;exact⟨_,.frz _ _ (.sc _),false,rfl,⟨λh=>j7,λhh=>by
       have:=hb.2 ((hh.2 i h1).2.resolve_left h0);cases this⟩⟩
     | true=>
      refine⟨_,hv,?_⟩;refine sT ?_;refine⟨i+1,⟨j5,λj hj'=>?_⟩,j5,y05 _,HL.nil,?_⟩
      .exact wW
      .exact xR
  .have hen:(!ilt 65 (h.length:Int))=true↔ShMay h:=by rw[z0D,y0n,decide_eq_false_iff_not];exact⟨λ_=>⟨j5,λj hh=>hj j j5⟩,λh=>by omega⟩
   refine sT ?_;refine⟨.sc (.bool (!ilt 65 (h.length:Int))),.frz _ _ ?_,_,rfl,hen⟩;exact xZ
theorem frz_nil0{h:PH}{x:Option Nat}{s n:Nat}{g:Nat->List PV}(h0:n=0):Frz h x (.sc (.slice none 0 0)) (.psl s n g):=by subst h0;exact .nil _ _
theorem ref_eOwn'(t r:Int)(ready pin:Bool)(used:Int)(known:Bool)(snap:Tms)(got:List Bool)(hb:Bnd ⟨t,r,ready,pin,used,known,snap,got⟩):PCall Tryz.prog 161 [.agg [.sc (.int .u32 t),.sc (.int .u8 r),.sc (.bool ready),.sc (.bool pin),.sc (.int .i64 used),.sc (.bool known),encT snap,encG got]] λv=>v=.agg [.sc (.int .u32 t),.sc (.int .u8 r),.sc (.bool ready),.sc (.bool pin),.sc (.int .i64 used),.sc (.bool known),encT snap,encG got]:=by
 have hgl:got.length<=1000000:=hb.got;have hTw:PCall Tryz.prog 41 [encT snap] λv=>v=encT snap:=ref_tmTwin snap hb.sn hb.sp;refine PCall.of (qB_ok ?_);refine sT ?_;refine hTw.callX rfl ?_;refine sT ?_;refine⟨λh0=>?_,λh0=>⟨z0f (b:=1) j5 j5,?_⟩⟩
 .refine sT ?_;refine⟨.agg [.sc (.int .u32 t),.sc (.int .u8 r),.sc (.bool ready),.sc (.bool pin),.sc (.int .i64 used),.sc (.bool known),encT snap,encG got],.frz _ _ ?_,rfl⟩;conv=>arg 3;whnf
  refine Frz.aggL ?_;conv=>arg 2;whnf
  refine .cons ?_ (.cons ?_ (.cons ?_ (.cons ?_ (.cons ?_ (.cons ?_ (.cons ?_ (.cons ?_ .nil)))))))
  .exact xZ
  .exact xZ
  .exact xZ
  .exact xZ
  .exact xZ
  .exact xZ
  .exact xD
  .conv=>arg 3;whnf
   exact frz_nil0 j5
 .refine sT ?_;refine⟨.agg [.sc (.int .u32 t),.sc (.int .u8 r),.sc (.bool ready),.sc (.bool pin),.sc (.int .i64 used),.sc (.bool known),encT snap,encG got],.frz _ _ ?_,rfl⟩;conv=>arg 3;whnf
  refine Frz.aggL ?_;conv=>arg 2;whnf
  refine .cons ?_ (.cons ?_ (.cons ?_ (.cons ?_ (.cons ?_ (.cons ?_ (.cons ?_ (.cons ?_ .nil)))))))
  .exact xZ
  .exact xZ
  .exact xZ
  .exact xZ
  .exact xZ
  .exact xZ
  .exact xD
  .conv=>arg 3;whnf
   refine Frz.sltE (et:=4) (get:=rowG got) (g:=rowG got) j8 ja rfl (λj hj=>congrArg (rowG got) (y0b j)) λj k d hc=>rowG_sc got j hc hc
theorem ref_eOwn(e:EnD)(hb:Bnd e):PCall Tryz.prog 161 [encEy e] λv=>v=encEy e:=ref_eOwn' _ _ _ _ _ _ _ _ hb
theorem rown_at(h:Sf){i j:Nat}(e:j=i)(hb:Bnd (eD h i)):PCall Tryz.prog 161 [.agg (rowEy h j)] λv=>v=encEy (eD h i):=by subst e;exact ref_eOwn _ hb
theorem ref_eTwin(h:Sf)(hl:h.length<=1000)(hb:∀i,i<h.length->Bnd (eD h i)):PCall Tryz.prog 62 [encF h] λv=>v=encF h:=by
 refine PCall.of (qB_ok ?_);refine sT ?_;refine LoopS.at (α:=Nat) [8] 1 [0,3,4] (λi=>[encF h,.sl 0 i 0 i (opn+8),.sc (.int .i64 i)]) (λi=>[.arr 8 i (rowEy h)]) (λi=>i<=h.length) (λi=>h.length-i) 0 (y05 _) (λ_=>rfl) (y00 rfl) (y00 rfl) ?_ ?_ ?_
 .exact xa
 .refine tL (tC ?_ (tC ?_ tN))
  .exact Lv.nil 0 8 (y0l ..) j6
  .exact lvA
 .intro i hil;by_cases h1:i<h.length
  .have e1:iwrap .i64 (iadd (i:Int) 1)=((i+1:Nat):Int):=addA;refine sT ?_;refine(rown_at h (i:=i) j5 (hb i h1)).callX rfl ?_;refine sT ?_;refine⟨λh=>j7,λ_=>⟨z0f (b:=80) j5 j5,?_⟩⟩;refine sT ?_;refine⟨i+1,j5,j5,y00 rfl,HL.cons rfl (LvB.arr rfl λk hk=>z0d (cat_rowF (R:=rowEy h) (i:=i) rfl k hk) rfl) HL.nil,?_⟩;refine tL (tC ?_ (tC ?_ tN))
   .exact yc
   .exact yr
  .have hie:i=h.length:=by omega
   refine sT ?_;refine⟨encF h,.frz _ _ (Frz.slE (g:=rowEy h) j8 rfl hie (λj _=>by rw[y0b]) λj k d hc=>rowN_frz j k d hc),rfl⟩
namespace I
abbrev sz:Nat:=2
abbrev f158:Nat:=263
abbrev f199:Nat:=340
abbrev f200:Nat:=341
abbrev f201:Nat:=342
abbrev f202:Nat:=343
abbrev f203:Nat:=344
abbrev f204:Nat:=345
abbrev f205:Nat:=346
abbrev f206:Nat:=347
abbrev f230:Nat:=405
abbrev f233:Nat:=406
abbrev f234:Nat:=407
abbrev f248:Nat:=432
abbrev f103:Nat:=170
variable {g:FuncId} {V:List PV->Prop} {lt:List PV->List PV->Prop}
theorem ins_sort(C:Cmp Tryz.prog g sz V lt)(n a b cap:Nat)(get:Nat->List PV)(hV:∀i,i<n->V (get i))(hab:a<=b)(hb:b<=n)(hn:n<=1099511627776):
  MCall Tryz.prog f199 sz n 0 n cap [.sc (.int .i64 a),.sc (.int .i64 b),.fn (.func g) [] []] get λ_ g'=>Turned n a b get g'/\Srt lt g' a b:=z3t
theorem sift_ok(C:Cmp Tryz.prog g sz V lt)(n first lo hi cap:Nat)(get:Nat->List PV)(hV:∀i,i<n->V (get i))(hn:n<=1099511627776)(hb:first+hi<=n)(hlo:lo<=hi)(hh:Heap lt get first hi (lo+1)):
  MCall Tryz.prog f230 sz n 0 n cap [.sc (.int .i64 lo),.sc (.int .i64 hi),.sc (.int .i64 first),.fn (.func g) [] []] get λ_ g'=>Turned n first (first+hi) get g'/\Heap lt g' first hi lo:=z4c
theorem sift_at(C:Cmp Tryz.prog g sz V lt)(n first lo hi cap:Nat)(get:Nat->List PV)(hV:∀i,i<n->V (get i))(hn:n<=1099511627776)(hb:first+hi<=n)(hlo:lo<=hi)(hh:Heap lt get first hi (lo+1)){lo' hi' first':Int}(e1:lo'=lo)(e2:hi'=hi)(e3:first'=first):
  MCall Tryz.prog f230 sz n 0 n cap [.sc (.int .i64 lo'),.sc (.int .i64 hi'),.sc (.int .i64 first'),.fn (.func g) [] []] get λ_ g'=>Turned n first (first+hi) get g'/\Heap lt g' first hi lo:=z4d
theorem heap_sort(C:Cmp Tryz.prog g sz V lt)(n a b cap:Nat)(get:Nat->List PV)(hV:∀i,i<n->V (get i))(hab:a<b)(hb:b<=n)(hn:n<=1099511627776):
  MCall Tryz.prog f200 sz n 0 n cap [.sc (.int .i64 a),.sc (.int .i64 b),.fn (.func g) [] []] get λ_ g'=>Turned n a b get g'/\Srt lt g' a b:=z31
theorem rev_range(C:Cmp Tryz.prog g sz V lt)(n a b cap:Nat)(get:Nat->List PV)(hV:∀i,i<n->V (get i))(hab:a<=b)(hb:b<=n)(hn:n<=1099511627776):
  MCall Tryz.prog f203 sz n 0 n cap [.sc (.int .i64 a),.sc (.int .i64 b),.fn (.func g) [] []] get λ_ g'=>Turned n a b get g':=z32
theorem order2_ok(C:Cmp Tryz.prog g sz V lt)(n cap i j:Nat)(get:Nat->List PV)(hV:∀i,i<n->V (get i))(hn:n<=1099511627776)(hi:i<n)(hj:j<n)(w:Int)(hw:0<=w/\w<=1000){i' j':Int}(ei:i'=i)(ej:j'=j){K:PK}
  (hk:∀(x y:Nat) (w':Int),(x=i/\y=j\/x=j/\y=i)->0<=w'->w'<=w+1->K (.tup [.sc (.int .i64 x),.sc (.int .i64 y)]) (hmk [.arr sz n get,.box [.sc (.int .i64 w')]])) :
  CallS Tryz.prog false f248 [.sl 0 n 0 n cap,.sc (.int .i64 i'),.sc (.int .i64 j'),.ptr 1 0,.fn (.func g) [] []] (hmk [.arr sz n get,.box [.sc (.int .i64 w)]]) K:=z33
theorem median_ok(C:Cmp Tryz.prog g sz V lt)(n cap i j k:Nat)(get:Nat->List PV)(hV:∀i,i<n->V (get i))(hn:n<=1099511627776)(hi:i<n)(hj:j<n)(hk':k<n)(w:Int)(hw:0<=w/\w<=900){i' j' k':Int}(ei:i'=i)(ej:j'=j)(ek:k'=k){K:PK}
  (hk:∀(x:Nat) (w':Int),(x=i\/x=j\/x=k)->0<=w'->w'<=w+3->K (.sc (.int .i64 x)) (hmk [.arr sz n get,.box [.sc (.int .i64 w')]])) :
  CallS Tryz.prog false f234 [.sl 0 n 0 n cap,.sc (.int .i64 i'),.sc (.int .i64 j'),.sc (.int .i64 k'),.ptr 1 0,.fn (.func g) [] []] (hmk [.arr sz n get,.box [.sc (.int .i64 w)]]) K:=z34
theorem medAdj_ok(C:Cmp Tryz.prog g sz V lt)(n cap i:Nat)(get:Nat->List PV)(hV:∀i,i<n->V (get i))(hn:n<=1099511627776)(hi:1<=i)(hi2:i+1<n)(w:Int)(hw:0<=w/\w<=900){i':Int}(ei:i'=i){K:PK}
  (hk:∀(x:Nat) (w':Int),(x=i-1\/x=i\/x=i+1)->0<=w'->w'<=w+3->K (.sc (.int .i64 x)) (hmk [.arr sz n get,.box [.sc (.int .i64 w')]])) :
  CallS Tryz.prog false f233 [.sl 0 n 0 n cap,.sc (.int .i64 i'),.ptr 1 0,.fn (.func g) [] []] (hmk [.arr sz n get,.box [.sc (.int .i64 w)]]) K:=z35
theorem choose_ok(C:Cmp Tryz.prog g sz V lt)(n a b cap:Nat)(get:Nat->List PV)(hV:∀i,i<n->V (get i))(hab:a+12<b)(hb:b<=n)(hn:n<=1099511627776):
  MCall Tryz.prog f202 sz n 0 n cap [.sc (.int .i64 a),.sc (.int .i64 b),.fn (.func g) [] []] get λp g'=>∃(v:Nat) (h:Int),p=.tup [.sc (.int .i64 v),.sc (.int .i64 h)]/\a<=v/\v<b/\∀i,i<n->g' i=get i:=z36
theorem break_ok(C:Cmp Tryz.prog g sz V lt)(n a b cap:Nat)(get:Nat->List PV)(hV:∀i,i<n->V (get i))(hab:a+12<b)(hb:b<=n)(hn:n<128):
  MCall Tryz.prog f201 sz n 0 n cap [.sc (.int .i64 a),.sc (.int .i64 b),.fn (.func g) [] []] get λ_ g'=>Turned n a b get g':=z3u
theorem partition_ok(C:Cmp Tryz.prog g sz V lt)(n a b pv cap:Nat)(get:Nat->List PV)(hV:∀i,i<n->V (get i))(ha:a<=pv)(hp:pv<b)(hb:b<=n)(hn:n<=1099511627776):
  MCall Tryz.prog f206 sz n 0 n cap [.sc (.int .i64 a),.sc (.int .i64 b),.sc (.int .i64 pv),.fn (.func g) [] []] get λp g'=>∃(v:Nat) (c:Bool),p=.tup [.sc (.int .i64 v),.sc (.bool c)]/\a<=v/\v<b/\Turned n a b get g'/\Parted lt g' a b v:=z1V
theorem partEq_ok(C:Cmp Tryz.prog g sz V lt)(n a b pv cap:Nat)(get:Nat->List PV)(hV:∀i,i<n->V (get i))(ha:a<=pv)(hp:pv<b)(hb:b<=n)(hn:n<=1099511627776):
  MCall Tryz.prog f205 sz n 0 n cap [.sc (.int .i64 a),.sc (.int .i64 b),.sc (.int .i64 pv),.fn (.func g) [] []] get λp g'=>∃v:Nat,p=.sc (.int .i64 v)/\a<v/\v<=b/\Turned n a b get g'/\g' a=get pv /\
   (∀p,a<=p->p<v->¬lt (g' a) (g' p))/\∀q,v<=q->q<b->lt (g' a) (g' q):=z37
theorem partial_ok(C:Cmp Tryz.prog g sz V lt)(n a b cap:Nat)(get:Nat->List PV)(hV:∀i,i<n->V (get i))(hab:a<b)(hb:b<=n)(hn:n<=1099511627776)(hP:0<a->∀q,a<=q->q<b->¬lt (get q) (get (a-1))):
  MCall Tryz.prog f204 sz n 0 n cap [.sc (.int .i64 a),.sc (.int .i64 b),.fn (.func g) [] []] get λp g'=>∃c:Bool,p=.sc (.bool c)/\Turned n a b get g'/\(c=true->Srt lt g' a b):=z2x
theorem choose_at(C:Cmp Tryz.prog g sz V lt)(n a b cap:Nat)(get:Nat->List PV)(hV:∀i,i<n->V (get i))(hab:a+12<b)(hb:b<=n)(hn:n<=1099511627776):
  MCall Tryz.prog f202 sz n 0 n cap [.sc (.int .i64 a),.sc (.int .i64 b),.fn (.func g) [] []] get λp g'=>∃x:Nat × Int,p=(λx:Nat × Int=>PV.tup [.sc (.int .i64 x.1),.sc (.int .i64 x.2)]) x/\(a<=x.1/\x.1<b/\Turned n a b get g'):=(choose_ok C n a b cap get hV hab hb hn).mono λp g' ⟨v,h,e,h1,h2,h3⟩=>⟨(v,h),e,h1,h2,(Turned.refl n a b get).congr h3⟩
theorem partial_at(C:Cmp Tryz.prog g sz V lt)(n a b cap:Nat)(get:Nat->List PV)(hV:∀i,i<n->V (get i))(hab:a<b)(hb:b<=n)(hn:n<=1099511627776)(hP:0<a->∀q,a<=q->q<b->¬lt (get q) (get (a-1))):
  MCall Tryz.prog f204 sz n 0 n cap [.sc (.int .i64 a),.sc (.int .i64 b),.fn (.func g) [] []] get λp g'=>∃x:Bool,p=(λx:Bool=>PV.sc (.bool x)) x/\(Turned n a b get g'/\(x=true->Srt lt g' a b)):=(partial_ok C n a b cap get hV hab hb hn hP).mono λp g' ⟨v,e,h1,h2⟩=>⟨v,e,h1,h2⟩
theorem partEq_at(C:Cmp Tryz.prog g sz V lt)(n a b pv cap:Nat)(get:Nat->List PV)(hV:∀i,i<n->V (get i))(ha:a<=pv)(hp:pv<b)(hb:b<=n)(hn:n<=1099511627776){pv':Int}(e:pv'=pv):
  MCall Tryz.prog f205 sz n 0 n cap [.sc (.int .i64 a),.sc (.int .i64 b),.sc (.int .i64 pv'),.fn (.func g) [] []] get λp g'=>∃x:Nat,p=(λx:Nat=>PV.sc (.int .i64 (x:Int))) x/\(a<x/\x<=b/\Turned n a b get g'/\g' a=get pv /\
   (∀p,a<=p->p<x->¬lt (g' a) (g' p))/\∀q,x<=q->q<b->lt (g' a) (g' q)):=z38
theorem partition_at(C:Cmp Tryz.prog g sz V lt)(n a b pv cap:Nat)(get:Nat->List PV)(hV:∀i,i<n->V (get i))(ha:a<=pv)(hp:pv<b)(hb:b<=n)(hn:n<=1099511627776){pv':Int}(e:pv'=pv):
  MCall Tryz.prog f206 sz n 0 n cap [.sc (.int .i64 a),.sc (.int .i64 b),.sc (.int .i64 pv'),.fn (.func g) [] []] get λp g'=>∃x:Nat × Bool,p=(λx:Nat × Bool=>PV.tup [.sc (.int .i64 (x.1:Int)),.sc (.bool x.2)]) x/\(a<=x.1/\x.1<b/\Turned n a b get g'/\Parted lt g' a b x.1):=z1W
end I
namespace I
variable {g:FuncId} {V:List PV->Prop} {lt:List PV->List PV->Prop}
theorem pdq_ok(C:Cmp Tryz.prog g sz V lt)(n cap:Nat)(hn:n<128):∀(m a b:Nat) (lim:Int) (get:Nat->List PV),b-a<=m->(∀i,i<n->V (get i))->a<=b->b<=n->0<=lim->lim<=100->(0<a->∀q,a<=q->q<b->¬lt (get q) (get (a-1))) ->
  ∀{a' b' lim':Int},a'=a->b'=b->lim'=lim->MCall Tryz.prog f158 sz n 0 n cap [.sc (.int .i64 a'),.sc (.int .i64 b'),.sc (.int .i64 lim'),.fn (.func g) [] []] get λ_ g'=>Turned n a b get g'/\Srt lt g' a b:=pdq_ok_run
theorem sort_func(C:Cmp Tryz.prog g sz V lt)(n cap:Nat)(get:Nat->List PV)(hV:∀i,i<n->V (get i))(hn:n<128):
  MCall Tryz.prog f103 sz n 0 n cap [.fn (.func g) [] []] get λ_ g'=>Turned n 0 n get g'/\Srt lt g' 0 n:=z39
end I
def VI(x:List PV):Prop:=∃t r,x=[.sc (.int .u32 t),.sc (.int .u8 r)]/\IdIn t r
def ltI(x y:List PV):Prop:=∃t r u s,x=[.sc (.int .u32 t),.sc (.int .u8 r)]/\y=[.sc (.int .u32 u),.sc (.int .u8 s)]/\Lt t r u s
theorem ltI_iff(t r u s:Int):ltI [.sc (.int .u32 t),.sc (.int .u8 r)] [.sc (.int .u32 u),.sc (.int .u8 s)]↔Lt t r u s:=by
 constructor
 .rintro⟨t',r',u',s',h1,h2,h3⟩;simp only[y1k,PV.sc.injEq,Value.int.injEq,and_true,true_and] at h1 h2;obtain⟨a,b⟩:=h1;obtain⟨c,d⟩:=h2;rw[a,b,c,d];exact h3
 .exact λh=>⟨t,r,u,s,rfl,rfl,h⟩
theorem int_less(t r u s:Int)(h1:IdIn t r)(h2:IdIn u s):PCall Tryz.prog 171 [.agg [.sc (.int .u32 t),.sc (.int .u8 r)],.agg [.sc (.int .u32 u),.sc (.int .u8 s)]] λv=>∃c:Int,v=.sc (.int .i64 c)/\(c<0↔Lt t r u s):=by
 refine PCall.of (qB_ok ?_);refine sT ?_;refine(z1J t r u s h1 h2).callG rfl λv hv=>?_;obtain⟨b,hv,hb⟩:=hv;cases b with
 | true=>
  refine⟨_,hv,?_⟩;refine sT ?_;exact⟨_,.frz _ _ (.sc _),-1,rfl,⟨λ_=>hb.1 rfl,λ_=>by decide⟩⟩
 | false=>
  refine⟨_,hv,?_⟩;refine sT ?_;exact⟨_,.frz _ _ (.sc _),1,rfl,⟨λh=>absurd h j6,λh=>by have:=hb.2 h;cases this⟩⟩
theorem idCmp:Cmp Tryz.prog 171 2 VI ltI where
 call:=by
  rintro x y ⟨t,r,rfl,h1⟩ ⟨u,s,rfl,h2⟩;refine(int_less t r u s h1 h2).mono λv ⟨c,e,hc⟩=>⟨c,e,?_⟩
  rw[ltI_iff];exact hc
 asym:=by rintro x y ⟨t,r,rfl,_⟩ ⟨u,s,rfl,_⟩ h;rw[ltI_iff] at *;unfold Lt at *;omega
 tr:=by rintro x y z ⟨t,r,rfl,_⟩ ⟨u,s,rfl,_⟩ ⟨v,w,rfl,_⟩ h1 h2;rw[ltI_iff] at *;unfold Lt at *;omega
 data:=by rintro x ⟨t,r,rfl,_⟩;rfl
 len:=by rintro x ⟨t,r,rfl,_⟩;rfl
def UpI(S:IdL):Prop:=∀i j,i<j->j<S.length->Lt (idT S i) (idR S i) (idT S j) (idR S j)
theorem sortI_is{O:IdL}{n:Nat}{g':Nat->List PV}(hn:n=O.length)(hT:Turned n 0 n (rowI O) g')(hS:Srt ltI g' 0 n)(hd:∀i j,i<n->j<n->i≠j->¬(idT O i=idT O j/\idR O i=idR O j)):
  ∃S:IdL,S.length=n/\(∀t r,InL S t r↔InL O t r)/\UpI S/\∀k,k<n->g' k=rowI S k:=by
 obtain⟨f,hf,he⟩:=hT;obtain⟨⟨g,g1,g2⟩,hout,hins⟩:=hf;have hlen:((List.range n).map λk=>O.getD (f k) (0,0)).length=n:=by simp
 have hat:∀k,k<n->((List.range n).map λk=>O.getD (f k) (0,0)).getD k (0,0)=O.getD (f k) (0,0):=λk hk=>by
  rw[y02,y0j,y1s hk];rfl
 refine⟨_,hlen,λt r=>⟨λ⟨k,h1,h2⟩=>?_,λ⟨k,h1,h2⟩=>?_⟩,λi j hij hj=>?_,λk hk=>?_⟩
 .rw[hlen] at h1;refine⟨f k,by have:=hins k (y05 _) h1;omega,?_⟩;unfold IdAt at *;rw[hat k h1] at h2;exact h2
 .have hk:g k<n:=by apply Decidable.byContradiction;intro h;have h2:=hout (g k) j5;rw[g1] at h2;omega
  refine⟨g k,by rw[hlen];exact hk,?_⟩;unfold IdAt at *;rw[hat _ hk,g1];exact h2
 .rw[hlen] at hj;have hi:i<n:=by omega
  unfold idT idR;rw[hat i hi,hat j hj];have h1:=hS i j (y05 _) hij hj;rw[he i hi,he j hj] at h1;unfold rowI at h1;rw[ltI_iff] at h1;have hne:f i≠f j:=λe=>by
   have:=g2 i;rw[e,g2 j] at this;omega
  have h2:=hd _ _ (hins i (y05 _) hi).2 (hins j (y05 _) hj).2 hne;unfold idT idR at h2;unfold Lt at *;omega
 .rw[he k hk];unfold rowI;rw[hat k hk]
def AskT(k:Kds)(i:Nat)(t r:Int):Prop:=∃c,c<i/\InL (kD k c).ids t r
def AskJ(k:Kds)(i j:Nat)(t r:Int):Prop:=AskT k i t r\/∃q,q<j/\IdAt (kD k i).ids t r q
theorem askJ_0(k:Kds)(i:Nat)(t r:Int):AskJ k i 0 t r↔AskT k i t r:=⟨λh=>h.elim id λ⟨q,h,_⟩=>absurd h (y07 _),.inl⟩
theorem askJ_end(k:Kds)(i:Nat)(t r:Int):AskJ k i (kD k i).ids.length t r↔AskT k (i+1) t r:=by
 constructor
 .rintro(⟨c,h1,h2⟩|⟨q,h1,h2⟩)
  .exact⟨c,j5,h2⟩
  .exact⟨i,j5,q,h1,h2⟩
 .rintro⟨c,h1,h2⟩;by_cases e:c=i
  .rw[e] at h2;exact .inr h2
  .exact .inl ⟨c,j5,h2⟩
theorem askJ_step{k:Kds}{i j:Nat}{W:IdL}(hW:∀t r,(t,r)∈W↔AskJ k i j t r)(t r:Int):(t,r)∈(idT (kD k i).ids j,idR (kD k i).ids j)::W↔AskJ k i (j+1) t r:=by
 rw[y0e,hW];constructor
 .rintro(h|h|⟨q,h1,h2⟩)
  .refine .inr ⟨j,j5,?_⟩;have h1:=congrArg Prod.fst h;have h2:=congrArg Prod.snd h;exact⟨h1.symm,h2.symm⟩
  .exact .inl h
  .exact .inr ⟨q,j5,h2⟩
 .rintro(h|⟨q,h1,h2⟩)
  .exact .inr (.inl h)
  .by_cases e:q=j
   .rw[e] at h2;exact .inl (y3m h2.1.symm h2.2.symm)
   .exact .inr (.inr ⟨q,j5,h2⟩)
theorem mem_InL{L:IdL}{t r:Int}:InL L t r↔(t,r)∈L:=by
 rw[List.mem_iff_getElem];constructor
 .rintro⟨k,h1,h2,h3⟩;refine⟨k,h1,?_⟩;rw[y02,y01 h1] at h2 h3;exact y3m h2 h3
 .rintro⟨k,h1,h2⟩;refine⟨k,h1,?_⟩;unfold IdAt;rw[y02,y01 h1];exact⟨congrArg Prod.fst h2,congrArg Prod.snd h2⟩
theorem selI_mem(W L:IdL)(t r:Int):InL (selI W L L.length) t r↔InL L t r/\(t,r)∈W:=by rw[mem_InL,mem_InL];unfold selI;rw[y2f,y2c,decide_eq_true_eq]
theorem selI_dist{W L:IdL}(hL:L.Nodup)(i:Nat):∀p q,p<(selI W L i).length->q<(selI W L i).length->p≠q->¬(idT (selI W L i) p=idT (selI W L i) q/\idR (selI W L i) p=idR (selI W L i) q):=by have hn:(selI W L i).Nodup:=(hL.sublist (List.take_sublist _ _)).filter _;intro p q hp hq hne ⟨h1,h2⟩;unfold idT at h1;unfold idR at h2;rw[y02,y02,y01 hp,y01 hq] at h1 h2;exact hne ((List.getElem_inj hn).1 (y3m h1 h2))
theorem secs_nodup{l:Bg}(hm:BgMay l)(hL:z0j l (liveC l)):(secs l).Nodup:=by rw[List.nodup_iff_pairwise_ne,y1g];intro i j hi hj hij e;have hl:=z0Q l;have:=secs_inj hm hL (i:=i) (k:=j) j5 j5 (by rw[y02,y02,y01 hi,y01 hj];exact e);omega
structure IsWant (l:Bg) (k:Kds) (S:IdL):Prop where
 up:UpI S
 mem:∀t r,InL S t r↔InL (secs l) t r/\AskT k k.length t r
 len:S.length<=(secs l).length
theorem LvB.mpM{N:Nat}{V:List (Nat × Nat)}{W W':IdL}{g:List Int->Option PV}(hg:g=memM W)(e:W=W'):LvB N V (.mp (some (true,[.u32,.u8])) g) (.mp (some (true,[.u32,.u8])) (memM W')):=by subst hg;subst e;exact⟨.inl rfl,λzs=>olv_memM W zs⟩
theorem frz_VI{h:PH}{x:Option Nat}{S:IdL}{j k:Nat}{c d:PV}(hc:(rowI S j)[k]?=some c)(hd:(rowI S j)[k]?=some d):Frz h x c d:=by rw[hc] at hd;cases hd;exact z2u k c hc
theorem LvB.box2{N:Nat}{V:List (Nat × Nat)}{cs:List PV}(h:cs.length=2):LvB N V (.box cs) (.box [.dead,.dead]):=by
 refine⟨h,λi c d _ hd=>?_⟩
 match i with
 | 0=>cases hd;exact .dead _
 | 1=>cases hd;exact .dead _
 | i+2=>cases hd
theorem secs_idIn{l:Bg}(hi:BgIn l)(hL:z0j l (liveC l))(hll:(liveC l).length<=l.length)(i:Nat):IdIn (idT (secs l) i) (idR (secs l) i):=by
 unfold idT idR
 match i with
 | 0=>exact⟨⟨y0k _,(by decide:(0:Int)<4294967296)⟩,⟨y0k _,(by decide:(0:Int)<256)⟩⟩
 | i+1=>rw[z3y];exact((lives_in hi hL hll).o i).id
theorem selI_sub(W L:IdL)(i j:Nat)(hj:j<(selI W L i).length):(idT (selI W L i) j,idR (selI W L i) j)∈L:=by
 have e:(idT (selI W L i) j,idR (selI W L i) j)=(selI W L i)[j]:=by unfold idT idR;rw[y02,y01 hj];rfl
 rw[e];have h:=y18 hj;unfold selI at h;exact y36 (y2c.1 h).1
theorem z4y(l:Bg)(k:Kds)(hi:BgIn l)(hn:l.length<127)(hk:KsIn k)(h20:k.length<=20)(h200:∀i,i<k.length->(kD k i).ids.length<=200):PCall Tryz.prog 66 [encB l,encK k] λv=>(BgMay l/\KMay k/\z0j l (liveC l)/\(liveC l).length<=l.length/\∃S,IsWant l k S/\v=.tup [encL S,.sc (.int .i64 0)])\/(¬(BgMay l/\KMay k)/\v=.tup [.psl 2 0 (λ_=>[]),.sc (.int .i64 8)]):=by
 refine PCall.of (qB_ok ?_);have hlen:=hi.len;refine sT ?_;refine(bag_Check l hi).callG rfl λv hv=>?_;rcases hv with ⟨hv,hm⟩|⟨hv,hm⟩
 rotate_left
 .refine⟨_,hv,?_⟩;refine sT ?_;exact⟨_,Exp.two (.nil _ _) (.sc _),.inr ⟨λh=>hm h.1,rfl⟩⟩
 refine⟨_,hv,?_⟩;refine sT ?_;refine(z3U k hk).callG rfl λv hv=>?_;rcases hv with ⟨hv,hkm⟩|⟨hv,hkm⟩
 rotate_left
 .refine⟨_,hv,?_⟩;refine sT ?_;exact⟨_,Exp.two (.nil _ _) (.sc _),.inr ⟨λh=>hkm h.2,rfl⟩⟩
 refine⟨_,hv,?_⟩;refine sT ?_;refine LoopS.at (α:=Nat × IdL) [] 1 [0,4,6,24,25,26] (λa=>[encB l,.sc (.slice none 0 0),.map 0,encK k,.sc (.int .i64 k.length),.sc (.int .i64 a.1)]) (λa=>[.mp (some (true,[.u32,.u8])) (memM a.2)]) (λa=>a.1<=k.length/\∀t r,(t,r)∈a.2↔AskT k a.1 t r) (λa=>k.length-a.1) (0,[]) ⟨y05 _,λt r=>⟨λh=>j7,λ⟨c,h,_⟩=>absurd h (y07 _)⟩⟩ (λ_=>rfl) (y00 rfl) (y00 rfl) ?_ ?_ ?_
 .exact HL.cons rfl ⟨.inr ⟨rfl,_,_,rfl,λh=>by cases h⟩,λ_=>trivial⟩ HL.nil
 .refine tL (tL (tC ?_ (tL (tL (tC ?_ tN)))))
  .exact yo
  .exact lvA
 rintro⟨i,W⟩ ⟨hil,hW⟩;have hil:i<=k.length:=hil;have hW:∀t r,(t,r)∈W↔AskT k i t r:=hW;by_cases h1:i<k.length
 .have hids:=(hk.ids i).len;have e1:iwrap .i64 (iadd (i:Int) 1)=((i+1:Nat):Int):=addA;refine sT ?_;refine LoopS.at (α:=Nat × IdL) [] 2 [0,4,6,24,25,26,31,32,33] (λa=>[encB l,.sc (.slice none 0 0),.map 0,encK k,.sc (.int .i64 k.length),.sc (.int .i64 i),encL (kD k i).ids,.sc (.int .i64 (kD k i).ids.length),.sc (.int .i64 a.1)]) (λa=>[.mp (some (true,[.u32,.u8])) (memM a.2),.box [.dead,.dead]]) (λa=>a.1<=(kD k i).ids.length/\∀t r,(t,r)∈a.2↔AskJ k i a.1 t r) (λa=>(kD k i).ids.length-a.1) (0,W) ⟨y05 _,λt r=>(hW t r).trans (askJ_0 k i t r).symm⟩ (λ_=>rfl) (y00 rfl) (y00 rfl) ?_ ?_ ?_
  .exact HL.cons rfl (LvB.mpM rfl rfl) (HL.cons rfl (LvB.box2 rfl) HL.nil)
  .refine tL (tL (tC ?_ (tL (tL (tL (tL (tL (tC ?_ tN))))))))
   .exact yo
   .exact lvA
  rintro⟨j,U⟩ ⟨hjl,hU⟩;have hjl:j<=(kD k i).ids.length:=hjl;have hU:∀t r,(t,r)∈U↔AskJ k i j t r:=hU;by_cases h2:j<(kD k i).ids.length
  .have e2:iwrap .i64 (iadd (j:Int) 1)=((j+1:Nat):Int):=addA;refine sT ?_;refine And.intro ja ?_;refine sT ?_;refine⟨(j+1,(idT (kD k i).ids j,idR (kD k i).ids j)::U),⟨h2,askJ_step hU⟩,(show (kD k i).ids.length-(j+1)<(kD k i).ids.length-j by omega),y00 rfl,HL.cons rfl (LvB.mpM rfl rfl) (HL.cons rfl (LvB.box2 rfl) HL.nil),?_⟩;refine tL (tL (tC ?_ (tL (tL (tL (tL (tL (tC ?_ tN))))))))
   .exact yo
   .exact .int e2
  .have hje:j=(kD k i).ids.length:=by omega
   have hU2:∀t r,(t,r)∈U↔AskT k (i+1) t r:=λt r=>by rw[hU,hje];exact askJ_end k i t r
   refine sT ?_;refine⟨(i+1,U),⟨h1,hU2⟩,(show k.length-(i+1)<k.length-i by omega),y00 rfl,HL.cons rfl (LvB.mpM rfl rfl) HL.nil,?_⟩;refine tL (tL (tC ?_ (tL (tL (tC ?_ tN)))))
   .exact yo
   .exact yr
 .have hie:i=k.length:=by omega
  have hW2:∀t r,(t,r)∈W↔AskT k k.length t r:=λt r=>by rw[hW,hie]
  clear hW hil;refine sT ?_;refine(home_All l hi j5).callG rfl λv hv=>?_;rcases hv with ⟨_,hL,hll,hv⟩|⟨h,_⟩
  rotate_left
  .exact absurd hm h
  have hsl:=z0Q l;have hnd:=secs_nodup hm hL;have hid:∀i,IdIn (idT (secs l) i) (idR (secs l) i):=λi=>secs_idIn hi hL hll i;have hmem:=λt r=>selI_mem W (secs l) t r;have hfin:∀S:IdL,S.length<=(secs l).length->UpI S->(∀t r,InL S t r↔InL (selI W (secs l) (secs l).length) t r)->IsWant l k S:=λS h3 h4 h5=>⟨h4,λt r=>by rw[h5,hmem,hW2],h3⟩
  have hok:∀{S:IdL} {v:PV},IsWant l k S->v=.tup [encL S,.sc (.int .i64 0)]->(BgMay l/\KMay k/\z0j l (liveC l)/\(liveC l).length<=l.length/\∃S,IsWant l k S/\v=.tup [encL S,.sc (.int .i64 0)])\/(¬(BgMay l/\KMay k)/\v=.tup [.psl 2 0 (λ_=>[]),.sc (.int .i64 8)]):=λh e=>.inl ⟨hm,hkm,hL,hll,_,h,e⟩;have xL:∃L,L=secs l:=⟨_,rfl⟩
  rcases xL with ⟨L,hLe⟩
  rw[← hLe] at hv hsl hnd hid hfin;clear hLe hmem;refine⟨_,hv,?_⟩;refine sT ?_;refine LoopS.at (α:=Nat) [2] 2 [4,6,46,47,48] (λi=>[.sl 1 (selI W L i).length 0 (selI W L i).length (opn+2),.map 0,encL L,.sc (.int .i64 L.length),.sc (.int .i64 i)]) (λi=>[.mp (some (true,[.u32,.u8])) (memM W),.arr 2 (selI W L i).length (rowI (selI W L i))]) (λi=>i<=L.length) (λi=>L.length-i) 0 (y05 _) (λ_=>rfl) (y00 rfl) (y00 rfl) ?_ ?_ ?_
  .exact HL.cons rfl (LvB.mpM rfl rfl) (HL.cons rfl (LvB.arr rfl λk hk=>absurd hk (y07 _)) HL.nil)
  .refine tC ?_ (tC ?_ (tL (tL (tC ?_ tN))))
   .exact Lv.nil 1 2 (y0l ..) j6
   .exact yo
   .exact lvA
  intro i hil;have hs1:=selI_len W L i;by_cases h2:i<L.length
  .have hst:=selI_step (W:=W) h2;have e2:iwrap .i64 (iadd (i:Int) 1)=((i+1:Nat):Int):=addA;refine sT ?_;refine And.intro ja ?_;refine sT ?_;refine orecD (d:=.sc (.int .i64 1)) (λv hv=>memM_one hv) (λhn=>?_) (λhv=>?_)
   .have hn:memM W [idT L i,idR L i]=none:=hn;have e:=hst.2 λh=>absurd hn ((memM_iff _ _ W).2 h);refine sT ?_;refine⟨i+1,j5,j5,y00 rfl,HL.cons rfl (LvB.mpM rfl rfl) (HL.cons rfl (LvB.arr (by rw[e]) λk hk=>z0d (by rw[e]) rfl) HL.nil),?_⟩;refine tC ?_ (tC ?_ (tL (tL (tC ?_ tN))))
    .exact Lv.sl' j6 (by rw[e]) (by rw[e])
    .exact yo
    .exact .int e2
   .have hv:memM W [idT L i,idR L i]=some _:=hv;have e:=hst.1 ((memM_iff _ _ W).1 (by rw[hv];simp));have el:(selI W L i).length+1=(selI W L (i+1)).length:=by rw[e];simp
    refine sT ?_;refine⟨λh=>j7,λ_=>⟨z0f (b:=8) j5 j5,?_⟩⟩;refine sT ?_;refine⟨i+1,j5,j5,y00 rfl,HL.cons rfl (LvB.mpM rfl rfl) (HL.cons rfl (LvB.arr el λk hk=>z0d (by rw[e];exact cat_rowJ rfl rfl k hk) rfl) HL.nil),?_⟩;refine tC ?_ (tC ?_ (tL (tL (tC ?_ tN))))
    .exact Lv.sl' j6 el el
    .exact yo
    .exact .int e2
  .have hie2:i=L.length:=by omega
   have hV:∀j,j<(selI W L i).length->VI (rowI (selI W L i) j):=λj hj=>by
    have h3:=(mem_InL (L:=L) (t:=idT (selI W L i) j) (r:=idR (selI W L i) j)).2 (selI_sub W L i j hj);obtain⟨q,_,h4,h5⟩:=h3;refine⟨_,_,rfl,?_⟩;have:=hid q;unfold idT idR at this;rw[h4,h5] at this;exact this
   have hd:=selI_dist (W:=W) hnd i;have hfin2:∀S:IdL,S.length=(selI W L i).length->UpI S->(∀t r,InL S t r↔InL (selI W L i) t r)->IsWant l k S:=λS h3 h4 h5=>hfin S j5 h4 λt r=>by rw[h5,hie2]
   refine sT ?_;refine(I.sort_func idCmp (selI W L i).length (opn+2) (rowI (selI W L i)) hV j5).use rfl rfl (idCmp.rowsD hV) rfl λp G hQ hR=>?_;have hsrt:=sortI_is rfl hQ.1 hQ.2 hd;rcases hsrt with ⟨S,s1,s2,s3,s4⟩
   have hw:=hfin2 S s1 s3 s2;refine sT ?_;refine⟨.tup [encL S,.sc (.int .i64 0)],Exp.two (Frz.slE (g:=rowI S) j8 rfl s1.symm (λj hj=>by rw[y0b];exact s4 j j5) λj k d hc=>frz_VI hc hc) (.sc _),hok hw rfl⟩
theorem amg_at(k:Kds)(hk:KsIn k)(t r:Int){i j:Nat}(e:j=i):PCall Tryz.prog 348 [encL (kD k j).ids,encId t r] λv=>∃b,v=.sc (.bool b)/\(b=true↔InL (kD k i).ids t r):=by subst e;exact ref_Among19 _ _ _ (hk.ids j)
theorem ref_wanted(k:Kds)(t r:Int)(hi:KsIn k):PCall Tryz.prog 265 [encK k,encId t r] λv=>∃b,v=.sc (.bool b)/\(b=true↔AskT k k.length t r):=by
 refine PCall.of (qB_ok ?_);have hlen:=hi.len;have ha:=fun {i j:Nat} (e:j=i)=>amg_at k hi t r e;unfold encId at ha ⊢;refine sT ?_;refine LoopS.at (α:=Nat) [] 1 [0,3,5] (λi=>[encK k,.ptr 0 0,.sc (.int .i64 i)]) (λ_=>[.box [.sc (.int .u32 t),.sc (.int .u8 r)]]) (λi=>i<=k.length/\∀j,j<i->¬InL (kD k j).ids t r) (λi=>k.length-i) 0 ⟨y05 _,λj h=>by omega⟩ (λ_=>rfl) (y03 _) (y03 _) ?_ ?_ ?_
 .exact xH
 .refine tL (tC ?_ (tL tN));exact yk
 .rintro i ⟨hil,hj⟩;by_cases h1:i<k.length
  .have e1:iwrap .i64 (iadd (i:Int) 1)=((i+1:Nat):Int):=addA;refine sT ?_;refine(ha (i:=i) j5).callG rfl λv hv=>?_;obtain⟨b,hv,hb⟩:=hv;cases b with
   | true=>
    refine⟨_,hv,?_⟩;refine sT ?_;exact⟨_,.frz _ _ (.sc _),true,rfl,⟨λ_=>⟨i,h1,hb.1 rfl⟩,λ_=>rfl⟩⟩
   | false=>
    have h3:¬InL (kD k i).ids t r:=λh=>by have:=hb.2 h;cases this
    refine⟨_,hv,?_⟩;exact jW
  .exact vM
def insI(W:IdL)(j:Nat)(x:Int × Int):IdL:=W.take j++x::W.drop j
theorem z3V(W:IdL){j:Nat}(x:Int × Int)(hj:j<=W.length):(insI W j x).length=W.length+1:=by unfold insI;rw[y0c,y17,y1a,y3j];omega
theorem insI_lo(W:IdL){j:Nat}(x:Int × Int)(hj:j<=W.length){n:Nat}(h:n<j):(insI W j x).getD n (0,0)=W.getD n (0,0):=by unfold insI;rw[y02,y02,y0z (by rw[y1a];omega),List.getElem?_take_of_lt h]
theorem insI_at(W:IdL){j:Nat}(x:Int × Int)(hj:j<=W.length):(insI W j x).getD j (0,0)=x:=by
 unfold insI;have e:(W.take j).length=j:=by rw[y1a];omega
 rw[y02,y0x j5,e,y19];rfl
theorem insI_hi(W:IdL){j:Nat}(x:Int × Int)(hj:j<=W.length)(n:Nat):(insI W j x).getD (j+1+n) (0,0)=W.getD (j+n) (0,0):=by
 unfold insI;have e:(W.take j).length=j:=by rw[y1a];omega
 rw[y02,y02,y0x j5,e,show j+1+n-j=n+1 by omega,y1j,y1q]
theorem insI_mem(W:IdL)(j:Nat)(x y:Int × Int):y∈insI W j x↔y=x\/y∈W:=by
 unfold insI;rw[y0s,y0e];have:y∈W↔y∈W.take j\/y∈W.drop j:=by
  conv=>lhs;rw[← y2l j W]
  rw[y0s]
 rw[this];constructor
 .rintro(h|h|h)
  .exact .inr (.inl h)
  .exact .inl h
  .exact .inr (.inr h)
 .rintro(h|h|h)
  .exact .inr (.inl h)
  .exact .inl h
  .exact .inr (.inr h)
theorem rowI_lo{W:IdL}{j:Nat}{x:Int × Int}(hj:j<=W.length){n:Nat}(h:n<j):rowI (insI W j x) n=rowI W n:=by unfold rowI;rw[insI_lo W x hj h]
theorem rowI_eq{W:IdL}{j:Nat}{x:Int × Int}(hj:j<=W.length){n:Nat}(h:n=j):rowI (insI W j x) n=[.sc (.int .u32 x.1),.sc (.int .u8 x.2)]:=by unfold rowI;rw[h,insI_at W x hj]
theorem rowI_hi{W:IdL}{j:Nat}{x:Int × Int}(hj:j<=W.length){n y:Nat}(h:n=j+1+y):rowI (insI W j x) n=rowI W (j+y):=by unfold rowI;rw[h,insI_hi W x hj]
theorem pui_1{W:IdL}{j:Nat}{o:Int × Int}(hj:j<=W.length){gx:Nat->List PV}(hg:gx 0=[.sc (.int .u32 o.1),.sc (.int .u8 o.2)])(h0:j=0){x x':Nat}(e:x'=x)(hx:x<1):gx x'=rowI (insI W j o) x:=by
 obtain rfl:x=0:=by omega
 rw[rowI_eq hj h0.symm,e,hg]
theorem pui_2{W:IdL}{j:Nat}{o:Int × Int}(hj:j<=W.length){gx h:Nat->List PV}(hg:gx 0=[.sc (.int .u32 o.1),.sc (.int .u8 o.2)])(hh:∀k,h k=rowI W (j+k))(h0:j=0){x x':Nat}(e:x'=x):catG 1 gx h x'=rowI (insI W j o) x:=by
 subst e;unfold catG;by_cases h1:x'<1
 .rw[show Nat.blt x' 1=true from y06 h1,z01];exact pui_1 hj hg h0 rfl h1
 .rw[show Nat.blt x' 1=false from z0x j5,z02,hh,rowI_hi hj (y:=x'-1) j5]
theorem pui_3{W:IdL}{j n:Nat}{o:Int × Int}(hj:j<=W.length)(hn:n=j){f gx:Nat->List PV}(hf:∀k,f k=rowI W k)(hg:gx 0=[.sc (.int .u32 o.1),.sc (.int .u8 o.2)]){x x':Nat}(e:x'=x)(hx:x<n+1):catG n f gx x'=rowI (insI W j o) x:=by
 subst e;subst hn;unfold catG;by_cases h1:x'<n
 .rw[show Nat.blt x' n=true from y06 h1,z01,hf,rowI_lo hj h1]
 .rw[show Nat.blt x' n=false from z0x j5,z02,show x'-n=0 by omega,hg,rowI_eq hj j5]
theorem pui_4{W:IdL}{j n:Nat}{o:Int × Int}(hj:j<=W.length)(hn:n=j){f gx h:Nat->List PV}(hf:∀k,f k=rowI W k)(hg:gx 0=[.sc (.int .u32 o.1),.sc (.int .u8 o.2)])(hh:∀k,h k=rowI W (j+k)){x x':Nat}(e:x'=x):catG (n+1) (catG n f gx) h x'=rowI (insI W j o) x:=by
 by_cases h1:x'<n+1
 .conv=>lhs;unfold catG
  rw[show Nat.blt x' (n+1)=true from y06 h1,z01];exact pui_3 hj hn hf hg e j5
 .conv=>lhs;unfold catG
  rw[show Nat.blt x' (n+1)=false from z0x j5,z02,hh,rowI_hi hj (y:=x'-(n+1)) j5]
structure WnI (L:IdL) (k:Kds) (i:Nat) (W:IdL):Prop where
 up:UpI W
 mem:∀t r,(t,r)∈W↔(∃j,j<i/\IdAt L t r j)/\AskT k k.length t r
 len:W.length<=i
theorem WnI.start(L:IdL)(k:Kds):WnI L k 0 []:=⟨λi j _ h=>absurd h (y07 _),λt r=>⟨λh=>j7,λ⟨⟨j,h,_⟩,_⟩=>absurd h (y07 _)⟩,y03 _⟩
theorem WnI.skip{L:IdL}{k:Kds}{i:Nat}{W:IdL}(h:WnI L k i W)(hn:¬AskT k k.length (idT L i) (idR L i)):WnI L k (i+1) W:=⟨h.up,λt r=>by
 rw[h.mem];constructor
 .rintro⟨⟨j,h1,h2⟩,h3⟩;exact⟨⟨j,j5,h2⟩,h3⟩
 .rintro⟨⟨j,h1,h2⟩,h3⟩;by_cases e:j=i
  .rw[e] at h2;have h4:idT L i=t:=h2.1;have h5:idR L i=r:=h2.2;rw[h4,h5] at hn;exact absurd h3 hn
  .exact⟨⟨j,j5,h2⟩,h3⟩,Nat.le_succ_of_le h.len⟩
theorem lt_tot{t r u s:Int}(h:¬Lt t r u s)(hn:¬(t=u/\r=s)):Lt u s t r:=by unfold Lt at *;omega
theorem lt_trn{t r u s v w:Int}(h1:Lt t r u s)(h2:Lt u s v w):Lt t r v w:=by unfold Lt at *;omega
theorem WnI.put{L:IdL}{k:Kds}{i:Nat}{W:IdL}(h:WnI L k i W)(hL:L.Nodup)(hi:i<L.length)(ha:AskT k k.length (idT L i) (idR L i)){j:Nat}(hj:j<=W.length)(hlo:∀x,x<j->Lt (idT W x) (idR W x) (idT L i) (idR L i))(hhi:j<W.length->¬Lt (idT W j) (idR W j) (idT L i) (idR L i)):WnI L k (i+1) (insI W j (idT L i,idR L i)):=by
 have hel:∀x,x<W.length->(idT W x,idR W x)∈W:=λx hx=>by
  have e:(idT W x,idR W x)=W[x]:=by unfold idT idR;rw[y02,y01 hx];rfl
  rw[e];exact y18 hx
 have hne:∀x,x<W.length->¬(idT W x=idT L i/\idR W x=idR L i):=λx hx e=>by
  obtain⟨⟨q,q1,q2⟩,_⟩:=(h.mem _ _).1 (hel x hx);have e1:L[q]' j5=L[i]:=by have a1:(L.getD q (0,0)).1=(L.getD i (0,0)).1:=q2.1.trans e.1;have a2:(L.getD q (0,0)).2=(L.getD i (0,0)).2:=q2.2.trans e.2;rw[y02,y02,y01 hi,y01 (show q<L.length by omega)] at a1 a2;exact y3m a1 a2
  have:=(List.getElem_inj hL).1 e1;omega
 have hgt:∀x,j<=x->x<W.length->Lt (idT L i) (idR L i) (idT W x) (idR W x):=λx hjx hx=>by
  have h0:=lt_tot (hhi j5) (hne j j5);by_cases e:x=j
  .rw[e];exact h0
  .exact lt_trn h0 (h.up j x j5 hx)
 refine⟨λa b hab hb=>?_,λt r=>?_,by rw[z3V W _ hj];have:=h.len;omega⟩
 .rw[z3V W _ hj] at hb;unfold idT idR;by_cases a1:a<j
  .rw[insI_lo W _ hj a1];by_cases b1:b<j
   .rw[insI_lo W _ hj b1];exact h.up a b hab j5
   .by_cases b2:b=j
    .rw[b2,insI_at W _ hj];exact hlo a a1
    .obtain⟨c,rfl⟩:∃c,b=j+1+c:=⟨b-j-1,j5⟩
     rw[insI_hi W _ hj];exact h.up a _ j5 j5
  .obtain⟨c,rfl⟩:∃c,b=j+1+c:=⟨b-j-1,j5⟩
   rw[insI_hi W _ hj];by_cases a2:a=j
   .rw[a2,insI_at W _ hj];exact hgt _ j5 j5
   .obtain⟨d,rfl⟩:∃d,a=j+1+d:=⟨a-j-1,j5⟩
    rw[insI_hi W _ hj];exact h.up _ _ j5 j5
 .rw[insI_mem,h.mem];constructor
  .rintro(e|⟨⟨q,q1,q2⟩,q3⟩)
   .have e1:=congrArg Prod.fst e;have e2:=congrArg Prod.snd e;have e1:t=idT L i:=e1;have e2:r=idR L i:=e2;rw[e1,e2];exact⟨⟨i,j5,rfl,rfl⟩,ha⟩
   .exact⟨⟨q,j5,q2⟩,q3⟩
  .rintro⟨⟨q,q1,q2⟩,q3⟩;by_cases e:q=i
   .rw[e] at q2;exact .inl (y3m q2.1.symm q2.2.symm)
   .exact .inr ⟨⟨q,j5,q2⟩,q3⟩
theorem WnI.fin{l:Bg}{k:Kds}{W:IdL}(h:WnI (secs l) k (secs l).length W):IsWant l k W:=⟨h.up,λt r=>by rw[mem_InL,h.mem];exact Iff.rfl,h.len⟩
theorem up_cons{a:Int × Int}{A:IdL}(h:UpI (a::A)):(∀x,x∈A->Lt a.1 a.2 x.1 x.2)/\UpI A:=by
 refine⟨λx hx=>?_,λi j hij hj=>?_⟩
 .obtain⟨q,hq,rfl⟩:=y1d hx;have:=h 0 (q+1) j5 (by rw[y17];omega);unfold idT idR at this;rw[y02,y02,y1j,y01 hq] at this;exact this
 .have:=h (i+1) (j+1) j5 (by rw[y17];omega);exact this
theorem up_one:∀{A B:IdL},UpI A->UpI B->(∀t r,(t,r)∈A↔(t,r)∈B)->A=B:=by
 intro A
 induction A with
 | nil=>
  intro B _ _ h;cases B with
  | nil=>rfl
  | cons b B=>exact absurd ((h b.1 b.2).2 (y0l ..)) j8
 | cons a A ih=>
  intro B hA hB h;cases B with
  | nil=>exact absurd ((h a.1 a.2).1 (y0l ..)) j8
  | cons b B=>
   obtain⟨a1,a2⟩:=up_cons hA;obtain⟨b1,b2⟩:=up_cons hB;have hab:a=b:=by
    rcases y0e.1 ((h a.1 a.2).1 (y0l ..)) with e|e
    .exact e
    .rcases y0e.1 ((h b.1 b.2).2 (y0l ..)) with f|f
     .exact f.symm
     .have h1:=b1 _ e;have h2:=a1 _ f;unfold Lt at h1 h2;omega
   subst hab;rw[ih a2 b2 λt r=>?_];constructor
   .intro hx;rcases y0e.1 ((h t r).1 (y1e _ hx)) with e|e
    .have:=a1 _ hx;rw[e] at this;unfold Lt at this;omega
    .exact e
   .intro hx;rcases y0e.1 ((h t r).2 (y1e _ hx)) with e|e
    .have:=b1 _ hx;rw[e] at this;unfold Lt at this;omega
    .exact e
theorem want_one{l:Bg}{k:Kds}{S S':IdL}(h:IsWant l k S)(h':IsWant l k S'):S=S':=up_one h.up h'.up λt r=>by
 rw[← mem_InL,← mem_InL,h.mem,h'.mem]
end Go.Px
