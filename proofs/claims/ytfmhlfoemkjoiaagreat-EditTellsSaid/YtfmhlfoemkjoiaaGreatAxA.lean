/-
  Part 'AxA' of the proof, by an evaluator of the model's code that is proved sound; no condition.
-/
import GoSem.Step
import Derived.DefersIn
import Derived.RangeFuncIn
import Derived.OrdersIn
import Derived.Laws.Sem
set_option linter.unusedVariables false
set_option linter.unusedSimpArgs false
namespace Go.Ax
abbrev y00:=@Nat.le_of_ble_eq_true
abbrev y01:=@List.getElem?_eq_getElem
abbrev y02:=@List.getD_eq_getElem?_getD
abbrev y03:=@Nat.le_refl
abbrev y04:=@List.getElem?_eq_some_iff
abbrev y05:=@Nat.ble_eq_true_of_le
abbrev y06:=@Result.andThen_ok
abbrev y07:=@Bool.and_eq_true
abbrev y08:=@Nat.eq_of_beq_eq_true
abbrev y09:=@Nat.not_lt_zero
abbrev y0a:=@Nat.zero_le
abbrev y0b:=@List.eq_nil_of_length_eq_zero
abbrev y0c:=@Nat.zero_add
abbrev y0d:=@Sem.run_bind
abbrev y0e:=@List.mem_of_getElem?
abbrev y0f:=@Nat.lt_of_lt_of_le
abbrev y0g:=@Array.getElem?_setIfInBounds_ne
abbrev y0h:=@List.length_append
abbrev y0i:=@List.getElem?_map
abbrev y0j:=@List.all_eq_true
abbrev y0k:=@List.mem_cons
abbrev y0l:=@Sem.run_pure
abbrev y0m:=@Array.toList_inj
abbrev y0n:=@Array.getElem?_toList
abbrev y0o:=@Nat.mul_le_mul_right
abbrev y0p:=@List.map_cons
abbrev y0q:=@List.mem_append
abbrev y0r:=@Nat.le_trans
abbrev y0s:=@Int.le_refl
abbrev y0t:=@Bool.not_eq_true'
abbrev y0u:=@Int.toNat_natCast
abbrev y0v:=@Option.some.inj
abbrev y0w:=@List.getElem?_eq_none
abbrev y0x:=@List.length_take
abbrev y0y:=@Array.getElem?_eq_some_iff
abbrev y0z:=@Option.map_some
abbrev y10:=@Bool.false_eq_true
abbrev y11:=@List.cons.injEq
abbrev y12:=@List.length_map
abbrev y13:=@List.getElem?_append_right
abbrev y14:=@List.mem_singleton
abbrev y15:=@List.getElem?_append
abbrev y16:=@Nat.add_mul
abbrev y17:=@List.mem_cons_self
abbrev y18:=@List.getElem?_range
abbrev y19:=@Option.bind_some
abbrev y1a:=@List.getElem?_append_left
abbrev y1b:=@List.pairwise_iff_getElem
abbrev y1c:=@Array.toList_map
abbrev y1d:=@List.append_nil
abbrev y1e:=@Nat.zero_mul
abbrev y1f:=@Nat.sub_self
abbrev y1g:=@Array.length_toList
abbrev y1h:=@Nat.add_zero
abbrev y1i:=@List.map_map
abbrev y1j:=@List.length_cons
abbrev y1k:=@List.getElem_mem
abbrev y1l:=@List.mem_map
abbrev y1m:=@List.map_congr_left
abbrev y1n:=@Nat.beq_refl
abbrev y1o:=@List.take_of_length_le
abbrev y1p:=@Option.map_eq_some_iff
abbrev y1q:=@List.getElem?_take
abbrev y1r:=@Array.getElem?_push_size
abbrev y1s:=@List.getElem_of_mem
abbrev y1t:=@Nat.min_eq_left
abbrev y1u:=@List.take_length
abbrev y1v:=@Option.some.injEq
abbrev y1w:=@List.length_dropLast
abbrev y1x:=@List.getElem?_drop
abbrev y1y:=@Nat.add_sub_cancel
abbrev y1z:=@List.take_append_drop
abbrev y20:=@List.getElem?_cons_succ
abbrev y21:=@Nat.add_assoc
abbrev y22:=@Array.ext_getElem?
abbrev y23:=@Nat.le_add_right
abbrev y24:=@List.not_mem_nil
abbrev y25:=@Int.tdiv_eq_ediv_of_nonneg
abbrev y26:=@Array.getElem?_push
abbrev y27:=@List.size_toArray
abbrev y28:=@List.append_assoc
abbrev y29:=@Array.getElem?_setIfInBounds_self_of_lt
abbrev y2a:=@List.map_append
abbrev y2b:=@Bool.or_eq_true
abbrev y2c:=@List.nil_append
abbrev y2d:=@List.mem_filter
abbrev y2e:=@List.length_set
abbrev y2f:=@List.length_filter_le
abbrev y2g:=@List.dropLast_eq_take
abbrev y2h:=@Option.getD_some
abbrev y2i:=@List.mem_cons_of_mem
abbrev y2j:=@List.mem_zipIdx_iff_getElem?
abbrev y2k:=@List.length_nil
abbrev y2l:=@Array.getD_eq_getD_getElem?
abbrev y2m:=@Nat.sub_zero
abbrev y2n:=@List.getElem?_toArray
abbrev y2o:=@Nat.le_div_iff_mul_le
abbrev y2p:=@List.getElem?_of_mem
abbrev y2q:=@List.pairwise_append
abbrev y2r:=@List.getElem?_cons_zero
abbrev y2s:=@Nat.lt_irrefl
abbrev y2t:=@List.cons.inj
abbrev y2u:=@Int.toNat_of_nonneg
abbrev y2v:=@List.cons_append
abbrev y2w:=@Nat.ble_eq
abbrev y2x:=@List.mem_range
abbrev y2y:=@Bool.not_eq_false'
abbrev y2z:=@Array.getElem?_modify
abbrev y30:=@Nat.succ_mul
abbrev y31:=@Option.map_none
abbrev y32:=@Array.size_append
abbrev y33:=@List.take_add_one
abbrev y34:=@List.length_range
abbrev y35:=@Array.getElem?_append_left
abbrev y36:=@Int.fdiv_eq_ediv_of_nonneg
abbrev y37:=@List.mem_iff_getElem
abbrev y38:=@List.drop_eq_getElem_cons
abbrev y39:=@Nat.shiftLeft_eq
abbrev y3a:=@List.length_drop
abbrev y3b:=@Array.toList_append
abbrev y3c:=@List.getElem?_take_of_lt
abbrev y3d:=@List.foldl_cons
abbrev y3e:=@Bool.or_false
abbrev y3f:=@Array.forIn_toList
abbrev y3g:=@Bool.and_true
abbrev y3h:=@List.pairwise_cons
abbrev y3i:=@List.getElem_range
abbrev y3j:=@Array.sizeOf_lt_of_mem
abbrev y3k:=@List.drop_eq_nil_of_le
abbrev y3l:=@List.drop_of_length_le
abbrev y3m:=@List.ext_getElem?
abbrev y3n:=@Prod.ext
abbrev y3o:=@List.map_nil
abbrev y3p:=@Nat.lt_succ_self
abbrev y3q:=@List.ext_getElem
abbrev y3r:=@List.length_tail
abbrev y3s:=@Bool.not_true
noncomputable section
inductive Tr (α:Type) where
 | nil
 | node (l:Tr α) (v:Option α) (r:Tr α)
def cnd{α:Type}(b:Bool)(x y:α):α:=Bool.rec (motive:=λ_=>α) y x b
def pathF(f i:Nat):List Bool:=
 Nat.rec (motive:=λ_=>Nat->List Bool) (λ_=>[]) (λ_ ih i=>Bool.rec (motive:=λ_=>List Bool) (Nat.beq (Nat.mod i 2) 0::ih (Nat.div (Nat.sub i 1) 2)) [] (Nat.beq i 0)) f i
def path(i:Nat):List Bool:=pathF i i
def Tr.get{α:Type}(t:Tr α)(p:List Bool):Option α:=
 List.rec (motive:=λ_=>Tr α->Option α)
  (λt=>Tr.rec (motive:=λ_=>Option α) none (λ_ v _ _ _=>v) t)
  (λb _ ih t=>Tr.rec (motive:=λ_=>Option α) none (λl _ r _ _=>Bool.rec (motive:=λ_=>Option α) (ih l) (ih r) b) t) p t
def Tr.put{α:Type}(a:Option α)(t:Tr α)(p:List Bool):Tr α:=
 List.rec (motive:=λ_=>Tr α->Tr α)
  (λt=>Tr.rec (motive:=λ_=>Tr α) (.node .nil a .nil) (λl _ r _ _=>.node l a r) t)
  (λb _ ih t=>Tr.rec (motive:=λ_=>Tr α) (Bool.rec (motive:=λ_=>Tr α) (.node (ih .nil) none .nil) (.node .nil none (ih .nil)) b)
   (λl v r _ _=>Bool.rec (motive:=λ_=>Tr α) (.node (ih l) v r) (.node l v (ih r)) b) t) p t
def opn:Nat:=9223372036854775808
structure LoopR (α : Type) where
  busy : Nat          -- 0 ready, 1 busy, 2 done, 3 exhausted
  pend : Option Code
  fn : FuncId
  tm : α
  params : List Nat
  assign : Code
  body : Code
inductive Blk where
 | cells (cs:List Value) (elem:TypeId) (o:Bool)
 | map (es:List MapEntry) (clock:Nat)
 | iter (s:ByteArray) (pos:Nat)
 | loop (l:LoopR (Tr Value))
 | view (cs:List Value)
def Blk.vw:Blk->Bool
 | .view _=>true
 | _=>false
structure Hp where
 tr:Tr Blk
 n:Nat
def Hp.get(h:Hp)(b:Nat):Option Blk:=h.tr.get (path b)
def Hp.put(h:Hp)(b:Nat)(x:Option Blk):Hp:=⟨Tr.put x h.tr (path b),h.n⟩
def Hp.new(h:Hp)(x:Option Blk):Hp:=⟨Tr.put x h.tr (path h.n),h.n+1⟩
abbrev Tm:=Tr Value
def z0b:Value:=.tuple #[]
def Tm.get(t:Tm)(i:Nat):Value:=Option.rec (motive:=λ_=>Value) z0b (λv=>v) (Tr.get t (path i))
def Tm.put(t:Tm)(i:Nat)(v:Value):Tm:=Tr.put (some v) t (path i)
inductive XV where
 | tmp (i:Nat) (p:List Bool)
 | const (v:Value)
def Tm.ev(t:Tm)(x:XV):Value:=
 XV.rec (motive:=λ_=>Value) (λ_ p=>Option.rec (motive:=λ_=>Value) z0b (λv=>v) (Tr.get t p)) (λv=>v) x
def z07{α:Type}(P:Program):Sem α->Option α
 | .pure a=>some a
 | .program k=>z07 P (k P)
 | .mark _ k=>z07 P k
 | _=>none
def iadd(a b:Int):Int:=Int.rec (motive:=λ_=>Int) (λm=>Int.rec (motive:=λ_=>Int) (λn=>.ofNat (Nat.add m n)) (λn=>Int.add (.ofNat m) (.negSucc n)) b) (λm=>Int.add (.negSucc m) b) a
def isub(a b:Int):Int:=Int.rec (motive:=λ_=>Int) (λm=>Int.rec (motive:=λ_=>Int) (λn=>cnd (Nat.ble n m) (.ofNat (Nat.sub m n)) (.negSucc (Nat.pred (Nat.sub n m)))) (λn=>.ofNat (Nat.succ (Nat.add m n))) b) (λm=>Int.sub (.negSucc m) b) a
def imul(a b:Int):Int:=Int.rec (motive:=λ_=>Int) (λm=>Int.rec (motive:=λ_=>Int) (λn=>.ofNat (Nat.mul m n)) (λn=>Int.mul (.ofNat m) (.negSucc n)) b) (λm=>Int.mul (.negSucc m) b) a
def ilt(a b:Int):Bool:=Int.rec (motive:=λ_=>Bool) (λm=>Int.rec (motive:=λ_=>Bool) (λn=>Nat.ble (Nat.succ m) n) (λ_=>false) b) (λm=>Int.rec (motive:=λ_=>Bool) (λ_=>true) (λn=>Nat.ble (Nat.succ n) m) b) a
def ieq(a b:Int):Bool:=Int.rec (motive:=λ_=>Bool) (λm=>Int.rec (motive:=λ_=>Bool) (λn=>Nat.beq m n) (λ_=>false) b) (λm=>Int.rec (motive:=λ_=>Bool) (λ_=>false) (λn=>Nat.beq m n) b) a
def klim(k:IntKind):Nat:=IntKind.rec (motive:=λ_=>Nat) 128 32768 2147483648 9223372036854775808 256 65536 4294967296 18446744073709551616 k
def ksig(k:IntKind):Nat:=IntKind.rec (motive:=λ_=>Nat) 128 32768 2147483648 9223372036854775808 0 0 0 0 k
def iwrap(k:IntKind)(a:Int):Int:=Int.rec (motive:=λ_=>Int) (λm=>cnd (Nat.ble (Nat.succ m) (klim k)) (.ofNat m) (k.wrap (.ofNat m))) (λm=>cnd (Nat.ble (Nat.succ m) (ksig k)) (.negSucc m) (k.wrap (.negSucc m))) a
def intOp(op:BinOp)(k:IntKind)(a b:Int):Option Value:=
 BinOp.rec (motive:=λ_=>Option Value)
  (some (.int k (iwrap k (iadd a b)))) (some (.int k (iwrap k (isub a b)))) (some (.int k (iwrap k (imul a b)))) none none none none none none none none
  (some (.bool (ieq a b))) (some (.bool (!ieq a b))) (some (.bool (ilt a b))) (some (.bool (!ilt b a))) (some (.bool (ilt b a))) (some (.bool (!ilt a b))) op
def z0n(cs:List Value):Nat->List Value->Option (List Value):=
 List.rec (motive:=λ_=>Nat->List Value->Option (List Value))
  (λ_ vs=>List.casesOn vs (some []) (λ_ _=>none))
  (λc cs ih k vs=>List.casesOn vs (some (c::cs)) (λv vs'=>Nat.casesOn k
   (Option.casesOn (ih 0 vs') none (λl=>some (v::l)))
   (λk'=>Option.casesOn (ih k' (v::vs')) none (λl=>some (c::l))))) cs
def z0r(cs:List Value):Nat->Nat->Option (List Value):=
 List.rec (motive:=λ_=>Nat->Nat->Option (List Value))
  (λ_ n=>Nat.casesOn n (some []) (λ_=>none))
  (λc _ ih k n=>Nat.casesOn n (some []) (λn'=>Nat.casesOn k
   (Option.casesOn (ih 0 n') none (λl=>some (c::l)))
   (λk'=>ih k' (n'+1)))) cs
def vcells(v:Value):List Value:=match v with
 | .agg cs=>cs.toList
 | v=>[v]
def one(v:Value):Bool:=match v with
 | .agg _|.tuple _=>false
 | _=>true
def nt(v:Value):Bool:=match v with
 | .tuple _=>false
 | _=>true
def scalar:Value->Bool
 | .bool _|.int .. | .float .. | .complex .. | .string _|.pointer none|.slice none .. | .map none|.chan none|.nilFunc|.nilIface=>true
 | _=>false
def plain:Value->Bool
 | .agg cs=>cs.toList.all scalar
 | v=>scalar v
def ldOwn(h:Hp)(a:Addr)(n:Nat):Option (List Value):=
 match h.get a.block with
 | some (.cells cs _ _)=>z0r cs a.off n
 | _=>none
def z0u(h:Hp)(a:Addr)(n:Nat):Option (List Value):=
 match h.get a.block with
 | some (.cells cs _ _)=>z0r cs a.off n
 | some (.view cs)=>z0r cs a.off n
 | _=>none
def z1g(h:Hp)(a:Addr)(vs:List Value):Option Hp:=
 match h.get a.block with
 | some (.cells cs e o)=>match z0n cs a.off vs with
  | some cs=>some (h.put a.block (some (.cells cs e o)))
  | none=>none
 | _=>none
def ld1(h:Hp)(a:Addr):Option Value:=match z0u h a 1 with
 | some (v::_)=>some v
 | _=>none
def addA(a:Addr)(n:Nat):Addr:=⟨a.block,a.off+n,none⟩
def asI(v:Value):Option Int:=match v with
 | .int _ n=>some n
 | _=>none
def bound(x:Option Value)(dflt y:Nat):Option Nat:=
 match x with
 | none=>some dflt
 | some v=>match asI v with
  | some (.ofNat n)=>cnd (Nat.ble n y) (some n) none
  | _=>none
def rep(z:List Value)(n:Nat):List Value:=Nat.rec [] (λ_ l=>z++l) n
def fillS(ps:List (Nat × Nat)):List Value->List (Nat × Value)->Option (List Value)
 | cs,[]=>some cs
 | cs,(i,v)::rest=>match ps[i]? with
  | some (off,size)=>cnd (nt v && (Nat.beq (vcells v).length size && Nat.ble 1 size)) (match z0n cs off (vcells v) with|some cs=>fillS ps cs rest|none=>none) none
  | none=>none
def fillA(size:Nat):List Value->List (Nat × Value)->Option (List Value)
 | cs,[]=>some cs
 | cs,(i,v)::rest=>cnd (nt v && (Nat.beq (vcells v).length size && Nat.ble 1 size)) (match z0n cs (i*size) (vcells v) with|some cs=>fillA size cs rest|none=>none) none
def part(agg:Bool)(n:Nat)(cs:List Value)(off:Nat):Option Value:=
 match z0r cs off n with
 | some l=>cnd agg (some (.agg l.toArray)) (match l with|v::_=>some v|[]=>none)
 | none=>none
def z0K(h:Hp)(size n:Nat)(x:Value):Option (List Value):=match x with
 | .slice (some a) _ _=>cnd (Nat.beq n 0) (some []) (z0u h a (n*size))
 | .slice none _ _=>cnd (Nat.beq n 0) (some []) none
 | .string s=>cnd (Nat.beq size 1 && Nat.ble n s.size) (some ((s.data.toList.take n).map λb=>.int .u8 b.toNat)) none
 | _=>none
def lenOf(x:Value):Option Nat:=match x with
 | .slice _ n _=>some n
 | .string s=>some s.size
 | _=>none
def z0q(need bytes:Nat):Bool:=Nat.ble ((2*need+1024)*bytes) 281474976710656 && Nat.ble need 1099511627776
def isOpn(cap:Nat):Bool:=Nat.ble opn cap
def isOpnAt(cap size:Nat):Bool:=Nat.beq cap (Nat.add opn size)
def tyOwn(h:Hp)(a:Addr)(e:Nat):Nat:=match h.get a.block with
 | some (.cells _ e1 _)=>cnd (Nat.beq e1 e) e 0
 | _=>0
def appendV(h:Hp)(e size bytes:Nat)(s x:Value):Option (Value × Hp):=
 match s,lenOf x with
 | .slice base len cap,some n=>match z0K h size n x with
  | none=>none
  | some new=>cnd (isOpn cap)
   (match base,isOpnAt cap size with
    | some a,true=>cnd (Nat.beq n 0) (some (.slice (some a) len cap,h)) (match ldOwn h a (len*size) with
     | none=>none
     | some old=>cnd (z0q (len+n) bytes) (some (.slice (some ⟨h.n,0,none⟩) (len+n) (Nat.add opn size),(h.put a.block none).new (some (.cells (old++new) (tyOwn h a e) true)))) none)
    | _,_=>none)
   (cnd (Nat.ble (len+n) cap)
    (match base with
     | none=>cnd (Nat.beq n 0) (some (.slice none len cap,h)) none
     | some a=>cnd (Nat.beq n 0) (some (.slice (some a) len cap,h)) <| match z1g h (addA a (len*size)) new with
      | some h=>some (.slice (some a) (len+n) cap,h)
      | none=>none)
    (match z0K h size len s with
     | none=>none
     | some old=>cnd (z0q (len+n) bytes) (some (.slice (some ⟨h.n,0,none⟩) (len+n) (Nat.add opn size),h.new (some (.cells (old++new) e true)))) none))
 | _,_=>none
def appendZ(h:Hp)(e size bytes:Nat)(z:List Value)(s x:Value):Option (Value × Hp):=
 match s,asI x with
 | .slice base len cap,some (.ofNat n)=>cnd (isOpn cap || (Nat.ble (len+n) cap || Nat.beq n 0)) none
   (match z0K h size len (.slice base len cap) with
    | none=>none
    | some old=>cnd (z0q (len+n) bytes) (some (.slice (some ⟨h.n,0,none⟩) (len+n) (Nat.add opn size),h.new (some (.cells (old++rep z n) e true)))) none)
 | _,_=>none
def z3i(h:Hp)(size:Nat)(base:Option Addr)(len cap:Nat)(lo hi mx:Option Value):Option (Value × Hp):=
 cnd (isOpn cap)
  (match base,isOpnAt cap size,mx with
   | some a,true,none=>match bound hi len len with
    | none=>none
    | some hh=>match bound lo 0 hh with
     | none=>none
     | some l=>cnd (Nat.ble (Nat.succ l) len) (some (.slice (some (addA a (l*size))) (hh-l) cap,h)) (some (.slice (some ⟨h.n,0,none⟩) 0 cap,h.new none))
   | some a,true,some m=>match bound (some m) 0 len with
    | none=>none
    | some m=>match bound hi len m with
     | none=>none
     | some hh=>match bound lo 0 hh with
      | none=>none
      | some l=>some (.slice (some (cnd (Nat.beq m l) a (addA a (l*size)))) (hh-l) (m-l),h)
   | _,_,_=>none)
  (match bound mx cap cap with
   | none=>none
   | some m=>match bound hi len m with
    | none=>none
    | some hh=>match bound lo 0 hh with
     | none=>none
     | some l=>some (.slice (cnd (Nat.beq m l) base (match base with|some a=>some (addA a (l*size))|none=>none)) (hh-l) (m-l),h))
def findK(P:Program)(kt:TypeId)(k:Value):List MapEntry->Nat->Option (Option (Nat × Value))
 | [],_=>some none
 | e::es,i=>match z07 P (Op.equal kt k e.key) with
  | some true=>some (some (i,e.val))
  | some false=>findK P kt k es (i+1)
  | none=>none
def mapOf(h:Hp)(m:Value):Option (Nat × List MapEntry × Nat):=match m with
 | .map (some r)=>match h.get r with
  | some (.map es c)=>some (r,es,c)
  | _=>none
 | _=>none
def z3X(h:Hp)(m:Value):Option (Nat × List MapEntry × Nat):=match m with
 | .map none=>some (0,[],0)
 | m=>mapOf h m
def keyOk(P:Program)(empty:Bool)(kt:TypeId)(k:Value):Bool:=
 plain k && (match z07 P (Instr.checkKey empty 10000 kt k) with|some _=>true|none=>false)
def lookupV(P:Program)(h:Hp)(kt:TypeId)(z:Value)(ok:Bool)(m k:Value):Option Value:=
 match z3X h m with
 | none=>none
 | some (_,es,_)=>cnd (keyOk P es.isEmpty kt k)
  (match findK P kt k es 0 with
   | none=>none
   | some (some (_,v))=>some (cnd ok (.tuple #[v,.bool true]) v)
   | some none=>some (cnd ok (.tuple #[z,.bool false]) z)) none
def mapPut(P:Program)(h:Hp)(kt:TypeId)(m k v:Value):Option Hp:=
 match mapOf h m with
 | none=>none
 | some (r,es,clock)=>cnd (keyOk P false kt k)
  (match findK P kt k es 0 with
   | none=>none
   | some (some (i,_))=>cnd (Instr.sameBits 10000 (((es[i]?).map (·.key)).getD k) k) (some (h.put r (some (.map (es.modify i λe=>{ e with key:=k,val:=v }) clock)))) none
   | some none=>some (h.put r (some (.map (es++[{ key:=k,val:=v,born:=clock }]) (clock+1))))) none
def mapEnt(P:Program)(h:Hp)(kt:TypeId)(z:Value)(m k:Value):Option (Value × Hp):=
 match mapOf h m with
 | none=>none
 | some (r,es,clock)=>cnd (keyOk P false kt k)
  (match findK P kt k es 0 with
   | none=>none
   | some (some (i,v))=>cnd (Instr.sameBits 10000 (((es[i]?).map (·.key)).getD k) k) (some (.tuple #[v,.int .i64 (((es[i]?).map (·.born)).getD 0)],h.put r (some (.map (es.modify i λe=>{ e with key:=k }) clock)))) none
   | some none=>some (.tuple #[z,.int .i64 clock],h.put r (some (.map (es++[{ key:=k,val:=z,born:=clock }]) (clock+1))))) none
def entSt(h:Hp)(m st v:Value):Option Hp:=
 match mapOf h m,asI st with
 | some (r,es,clock),some b=>match es.findIdx? (λe=>(e.born:Int) == b) with
  | some i=>some (h.put r (some (.map (es.modify i λe=>{ e with val:=v }) clock)))
  | none=>none
 | _,_=>none
def mapDel(P:Program)(h:Hp)(kt:TypeId)(m k:Value):Option Hp:=
 match mapOf h m with
 | none=>none
 | some (r,es,clock)=>cnd (keyOk P es.isEmpty kt k)
  (match findK P kt k es 0 with
   | none=>none
   | some (some (i,_))=>some (h.put r (some (.map (es.eraseIdx i) clock)))
   | some none=>some h) none
inductive XO where
 | mv (x:XV)
 | pick (c a b:XV)
 | newz (z:List Value) (e:TypeId)
 | box (e:TypeId) (x:XV)
 | bld (ps:List (Nat × Nat)) (z:List Value) (parts:List (Nat × XV))
 | blA (size:Nat) (z:List Value) (parts:List (Nat × XV))
 | bsl (e size len:Nat) (z:List Value) (parts:List (Nat × XV))
 | ld1 (x:XV)
 | ldn (n:Nat) (x:XV)
 | st (n:Nat) (a x:XV)
 | nck (x:XV)
 | bin (op:BinOp) (t:TypeId) (x y:XV)
 | eqA (g:Bool) (ks:List Bool) (neg:Bool) (x y:XV)
 | nilq (k:Nat) (neg:Bool) (x y:XV)
 | un (op:UnOp) (x:XV)
 | cvI (k:IntKind) (x:XV)
 | cvG (s d:TypeId) (x:XV)
 | b2s (x:XV)
 | s2b (e:TypeId) (x:XV)
 | mki (t:TypeId) (x:XV)
 | mkf (fn:Fn) (first cap:List XV)
 | mkm
 | mks (e:TypeId) (z:List Value) (b:Nat) (l c:XV)
 | sls (size:Nat) (x:XV) (lo hi mx:Option XV)
 | slg (t:TypeId) (x:XV) (lo hi mx:Option XV)
 | sla (n size:Nat) (x:XV) (lo hi mx:Option XV)
 | fad (off:Nat) (x:XV)
 | fld (agg:Bool) (n off:Nat) (x:XV)
 | ixs (size:Nat) (x i:XV)
 | ixa (len size:Nat) (x i:XV)
 | ixv (len:Nat) (agg:Bool) (n:Nat) (x i:XV)
 | ixg (t:TypeId) (x i:XV)
 | lk (kt:TypeId) (z:Value) (ok:Bool) (m k:XV)
 | ms (kt:TypeId) (m k x:XV)
 | me (kt:TypeId) (z:Value) (m k:XV)
 | es (m s x:XV)
 | md (kt:TypeId) (m k:XV)
 | rng (x:XV)
 | nxt (x:XV)
 | ext (i:Nat) (x:XV)
 | lens (x:XV)
 | lenm (x:XV)
 | caps (x:XV)
 | big (b:Builtin) (ats:Array TypeId) (t:TypeId) (xs:List XV)
 | app (e size bytes:Nat) (s x:XV)
 | apz (e size bytes:Nat) (z:List Value) (s x:XV)
 | cpy (size:Nat) (d s:XV)
 | clr (z:List Value) (x:XV)
 | nes (x:XV)
 | cvp (x:XV)
 | cvu (u:TypeId) (s:Nat) (x:XV)
 | sld (x:XV)
 | ust (e:TypeId) (x n:XV)
 | cal (f:XV) (xs:List XV)
inductive R where
 | val (v:Value) (h:Hp)
 | call (f:FuncId) (args:List Value)
 | yield (l:Nat) (args:List Value)
 | bad
def R.ofV(h:Hp):Option Value->R
 | some v=>.val v h
 | none=>.bad
def R.ofP(h:Hp):Option Value->R
 | some v=>cnd (plain v) (.val v h) .bad
 | none=>.bad
def R.ofVH:Option (Value × Hp)->R
 | some (v,h)=>.val v h
 | none=>.bad
def R.ofH:Option Hp->R
 | some h=>.val z0b h
 | none=>.bad
def cellEq(b:Bool)(x y:Value):Option Bool:=match b,x,y with
 | true,.int k a,.int k' b=>cnd (decide (k=k')) (some (ieq a b)) none
 | false,.bool a,.bool b=>some (a == b)
 | _,_,_=>none
def allEq:List Bool->List Value->List Value->Option Bool
 | [],[],[]=>some true
 | k::ks,x::xs,y::ys=>match cellEq k x y,allEq ks xs ys with
  | some a,some b=>some (a && b)
  | _,_=>none
 | _,_,_=>none
def nilEq(k:Nat)(x y:Value):Option Bool:=match k,x,y with
 | 0,.pointer a,.pointer none=>some a.isNone
 | 0,.pointer none,.pointer b=>some b.isNone
 | 0,.pointer (some a),.pointer (some b)=>cnd (Nat.beq a.block b.block && (Nat.beq a.off b.off && (a.spot.isNone && b.spot.isNone))) (some true) none
 | 1,.slice none _ _,.slice b _ _=>some b.isNone
 | 1,.slice a _ _,.slice none _ _=>some a.isNone
 | 2,.map none,.map b=>some b.isNone
 | 2,.map a,.map none=>some a.isNone
 | 3,.nilFunc,.nilFunc=>some true
 | 3,.func ..,.nilFunc=>some false
 | 3,.nilFunc,.func ..=>some false
 | _,_,_=>none
def plainO(x:Option Value):Bool:=match x with
 | none=>true
 | some v=>plain v
def pushB(acc:Option ByteArray)(c:Value):Option ByteArray:=match acc,c with
 | some b,.int .u8 n=>some (b.push (UInt8.ofNat n.toNat))
 | _,_=>none
def xMv(x:XV)(P:Program)(t:Tm)(h:Hp):R:=
 .val (t.ev x) h
def xPick(c:XV)(a:XV)(b:XV)(P:Program)(t:Tm)(h:Hp):R:=
 match t.ev c with
  | .bool true=>.val (t.ev a) h
  | .bool false=>.val (t.ev b) h
  | _=>.bad
def xNewz(z:List Value)(e:TypeId)(P:Program)(t:Tm)(h:Hp):R:=
 .val (.pointer (some ⟨h.n,0,none⟩)) (h.new (some (.cells z e false)))
def xBox(e:TypeId)(x:XV)(P:Program)(t:Tm)(h:Hp):R:=
 cnd (nt (t.ev x)) (.val (.pointer (some ⟨h.n,0,none⟩)) (h.new (some (.cells (vcells (t.ev x)) e false)))) .bad
def xBld(ps:List (Nat × Nat))(z:List Value)(parts:List (Nat × XV))(P:Program)(t:Tm)(h:Hp):R:=
 match fillS ps z (parts.map λp=>(p.1,t.ev p.2)) with
  | some cs=>.val (.agg cs.toArray) h
  | none=>.bad
def xBlA(size:Nat)(z:List Value)(parts:List (Nat × XV))(P:Program)(t:Tm)(h:Hp):R:=
 match fillA size z (parts.map λp=>(p.1,t.ev p.2)) with
  | some cs=>.val (.agg cs.toArray) h
  | none=>.bad
def xBsl(e:Nat)(size:Nat)(len:Nat)(z:List Value)(parts:List (Nat × XV))(P:Program)(t:Tm)(h:Hp):R:=
 match fillA size z (parts.map λp=>(p.1,t.ev p.2)) with
  | some cs=>.val (.slice (some ⟨h.n,0,none⟩) len len) (h.new (some (.cells cs e false)))
  | none=>.bad
def xLd1(x:XV)(P:Program)(t:Tm)(h:Hp):R:=
 match t.ev x with
  | .pointer (some a)=>R.ofV h (ld1 h a)
  | _=>.bad
def xLdn(n:Nat)(x:XV)(P:Program)(t:Tm)(h:Hp):R:=
 match t.ev x with
  | .pointer (some a)=>match z0u h a n with
   | some l=>.val (.agg l.toArray) h
   | none=>.bad
  | _=>.bad
def xSt(n:Nat)(a:XV)(x:XV)(P:Program)(t:Tm)(h:Hp):R:=
 match t.ev a with
  | .pointer (some a)=>cnd (nt (t.ev x) && Nat.beq (vcells (t.ev x)).length n) (R.ofH (z1g h a (vcells (t.ev x)))) .bad
  | _=>.bad
def xNck(x:XV)(P:Program)(t:Tm)(h:Hp):R:=
 match t.ev x with
  | .pointer (some a)=>.val (.pointer (some a)) h
  | .func (.func f) a b=>.val (.func (.func f) a b) h
  | .func (.via a b c d) f g=>.val (.func (.via a b c d) f g) h
  | _=>.bad
def xBin(op:BinOp)(ty:TypeId)(x:XV)(y:XV)(P:Program)(t:Tm)(h:Hp):R:=
 match t.ev x,t.ev y with
  | .int k a,.int k' b=>match decide (k=k'),intOp op k a b with
   | true,some v=>.val v h
   | _,_=>R.ofP h (z07 P (binOp op ty (.int k a) (.int k' b)))
  | x,y=>cnd (plain x && plain y) (R.ofP h (z07 P (do eqGuard op ty (.tmp 0) (.tmp 0) x y;binOp op ty x y))) .bad
def xEqA(g:Bool)(ks:List Bool)(neg:Bool)(x:XV)(y:XV)(P:Program)(t:Tm)(h:Hp):R:=
 cnd g (match t.ev x,t.ev y with
  | .agg a,.agg b=>match allEq ks a.toList b.toList with
   | some r=>.val (.bool (Bool.xor neg r)) h
   | none=>.bad
  | _,_=>.bad) .bad
def xNilq(k:Nat)(neg:Bool)(x:XV)(y:XV)(P:Program)(t:Tm)(h:Hp):R:=
 match nilEq k (t.ev x) (t.ev y) with
  | some r=>.val (.bool (Bool.xor neg r)) h
  | none=>.bad
def xUn(op:UnOp)(x:XV)(P:Program)(t:Tm)(h:Hp):R:=
 cnd (plain (t.ev x)) (R.ofP h (z07 P (Op.unary op (t.ev x)))) .bad
def xCvI(k:IntKind)(x:XV)(P:Program)(t:Tm)(h:Hp):R:=
 match t.ev x with
  | .int _ n=>.val (.int k (iwrap k n)) h
  | _=>.bad
def xCvG(s:TypeId)(d:TypeId)(x:XV)(P:Program)(t:Tm)(h:Hp):R:=
 cnd (plain (t.ev x)) (R.ofP h (z07 P (convert s d (t.ev x)))) .bad
def xB2s(x:XV)(P:Program)(t:Tm)(h:Hp):R:=
 match t.ev x with
  | .slice (some a) len _=>match z0u h a len with
   | some cs=>R.ofV h ((cs.foldl pushB (some ByteArray.empty)).map Value.string)
   | none=>.bad
  | .slice none _ _=>.val (.string .empty) h
  | _=>.bad
def xS2b(e:TypeId)(x:XV)(P:Program)(t:Tm)(h:Hp):R:=
 match t.ev x with
  | .string b=>cnd (Nat.ble b.size 1099511627776) (.val (.slice (some ⟨h.n,0,none⟩) b.size (Nat.add opn 1)) (h.new (some (.cells (b.data.toList.map λx=>.int .u8 x.toNat) e true)))) .bad
  | _=>.bad
def xMki(ty:TypeId)(x:XV)(P:Program)(t:Tm)(h:Hp):R:=
 .val (.iface ty (t.ev x)) h
def xMkf(fn:Fn)(first:List XV)(cap:List XV)(P:Program)(t:Tm)(h:Hp):R:=
 .val (.func fn (first.map t.ev).toArray (cap.map t.ev).toArray) h
def xMkm(P:Program)(t:Tm)(h:Hp):R:=
 .val (.map (some h.n)) (h.new (some (.map [] 0)))
def xMks(e:TypeId)(z:List Value)(b:Nat)(l:XV)(c:XV)(P:Program)(t:Tm)(h:Hp):R:=
 match asI (t.ev l),asI (t.ev c) with
  | some (.ofNat l),some (.ofNat c)=>cnd (Nat.ble l c && (Nat.ble (b*c) 281474976710656 && Nat.ble c 1099511627776)) (.val (.slice (some ⟨h.n,0,none⟩) l c) (h.new (some (.cells (rep z c) e false)))) .bad
  | _,_=>.bad
def xSls(size:Nat)(x:XV)(lo:Option XV)(hi:Option XV)(mx:Option XV)(P:Program)(t:Tm)(h:Hp):R:=
 match t.ev x with
  | .slice base len cap=>R.ofVH (z3i h size base len cap (lo.map t.ev) (hi.map t.ev) (mx.map t.ev))
  | _=>.bad
def xSlg(ty:TypeId)(x:XV)(lo:Option XV)(hi:Option XV)(mx:Option XV)(P:Program)(t:Tm)(h:Hp):R:=
 match t.ev x with
  | .string s=>cnd (plainO (lo.map t.ev) && (plainO (hi.map t.ev) && plainO (mx.map t.ev))) (R.ofP h (z07 P (Instr.sliceAt ty (.string s) (lo.map t.ev) (hi.map t.ev) (mx.map t.ev)))) .bad
  | _=>.bad
def xSla(n:Nat)(size:Nat)(x:XV)(lo:Option XV)(hi:Option XV)(mx:Option XV)(P:Program)(t:Tm)(h:Hp):R:=
 match t.ev x with
  | .pointer (some a)=>match bound (mx.map t.ev) n n with
   | none=>.bad
   | some m=>match bound (hi.map t.ev) n m with
    | none=>.bad
    | some hh=>match bound (lo.map t.ev) 0 hh with
     | some l=>.val (.slice (some (cnd (Nat.beq m l) a (addA a (l*size)))) (hh-l) (m-l)) h
     | none=>.bad
  | _=>.bad
def xFad(off:Nat)(x:XV)(P:Program)(t:Tm)(h:Hp):R:=
 match t.ev x with
  | .pointer (some a)=>.val (.pointer (some (addA a off))) h
  | _=>.bad
def xFld(agg:Bool)(n:Nat)(off:Nat)(x:XV)(P:Program)(t:Tm)(h:Hp):R:=
 match t.ev x with
  | .agg cs=>R.ofV h (part agg n cs.toList off)
  | _=>.bad
def xIxs(size:Nat)(x:XV)(i:XV)(P:Program)(t:Tm)(h:Hp):R:=
 match t.ev x,asI (t.ev i) with
  | .slice (some a) len _,some (.ofNat i)=>cnd (Nat.blt i len) (.val (.pointer (some (addA a (i*size)))) h) .bad
  | _,_=>.bad
def xIxa(len:Nat)(size:Nat)(x:XV)(i:XV)(P:Program)(t:Tm)(h:Hp):R:=
 match t.ev x,asI (t.ev i) with
  | .pointer (some a),some (.ofNat i)=>cnd (Nat.blt i len) (.val (.pointer (some (addA a (i*size)))) h) .bad
  | _,_=>.bad
def xIxv(len:Nat)(agg:Bool)(n:Nat)(x:XV)(i:XV)(P:Program)(t:Tm)(h:Hp):R:=
 match t.ev x,asI (t.ev i) with
  | .agg cs,some (.ofNat i)=>cnd (Nat.blt i len) (R.ofV h (part agg n cs.toList (i*n))) .bad
  | _,_=>.bad
def xIxg(ty:TypeId)(x:XV)(i:XV)(P:Program)(t:Tm)(h:Hp):R:=
 match t.ev x with
  | .string s=>cnd (plain (t.ev i)) (R.ofP h (z07 P (Instr.index ty (.string s) (t.ev i)))) .bad
  | _=>.bad
def xLk(kt:TypeId)(z:Value)(ok:Bool)(m:XV)(k:XV)(P:Program)(t:Tm)(h:Hp):R:=
 R.ofV h (lookupV P h kt z ok (t.ev m) (t.ev k))
def xMs(kt:TypeId)(m:XV)(k:XV)(x:XV)(P:Program)(t:Tm)(h:Hp):R:=
 R.ofH (mapPut P h kt (t.ev m) (t.ev k) (t.ev x))
def xMe(kt:TypeId)(z:Value)(m:XV)(k:XV)(P:Program)(t:Tm)(h:Hp):R:=
 R.ofVH (mapEnt P h kt z (t.ev m) (t.ev k))
def xEs(m:XV)(s:XV)(x:XV)(P:Program)(t:Tm)(h:Hp):R:=
 R.ofH (entSt h (t.ev m) (t.ev s) (t.ev x))
def xMd(kt:TypeId)(m:XV)(k:XV)(P:Program)(t:Tm)(h:Hp):R:=
 R.ofH (mapDel P h kt (t.ev m) (t.ev k))
def xRng(x:XV)(P:Program)(t:Tm)(h:Hp):R:=
 match t.ev x with
  | .string s=>.val (.pointer (some ⟨h.n,0,none⟩)) (h.new (some (.iter s 0)))
  | _=>.bad
def xNxt(x:XV)(P:Program)(t:Tm)(h:Hp):R:=
 match t.ev x with
  | .pointer (some ⟨r,0,none⟩)=>match h.get r with
   | some (.iter s pos)=>cnd (Nat.blt pos s.size)
     (.val (.tuple #[.bool true,.int .i64 pos,.int .i32 (Utf8.decode s pos).1]) (h.put r (some (.iter s (pos+(Utf8.decode s pos).2)))))
     (.val (.tuple #[.bool false]) h)
   | _=>.bad
  | _=>.bad
def xExt(i:Nat)(x:XV)(P:Program)(t:Tm)(h:Hp):R:=
 match t.ev x with
  | .tuple vs=>R.ofV h (vs.toList[i]?)
  | _=>.bad
def xLens(x:XV)(P:Program)(t:Tm)(h:Hp):R:=
 match t.ev x with
  | .slice _ n _=>.val (.int .i64 n) h
  | _=>.bad
def xLenm(x:XV)(P:Program)(t:Tm)(h:Hp):R:=
 match t.ev x with
  | .map none=>.val (.int .i64 0) h
  | .map (some r)=>match h.get r with
   | some (.map es _)=>.val (.int .i64 es.length) h
   | _=>.bad
  | _=>.bad
def xCaps(x:XV)(P:Program)(t:Tm)(h:Hp):R:=
 match t.ev x with
  | .slice _ _ c=>cnd (isOpn c) .bad (.val (.int .i64 c) h)
  | _=>.bad
def xBig(b : Builtin)(ats : Array TypeId)(ty : TypeId)(xs : List XV)(P : Program)(t : Tm)(h : Hp): R :=
  cnd ((xs.map t.ev).all plain) (R.ofP h (z07 P (match b with
      | .len => Builtin.len_ ats ty (xs.map t.ev).toArray
      | .max => Builtin.max_ ats ty (xs.map t.ev).toArray
      | .min => Builtin.min_ ats ty (xs.map t.ev).toArray
      | .real => Builtin.real_ ats ty (xs.map t.ev).toArray
      | .imag => Builtin.imag_ ats ty (xs.map t.ev).toArray
      | .complex => Builtin.complex_ ats ty (xs.map t.ev).toArray
      | _ => stuck ""))) .bad
def xApp(e:Nat)(size:Nat)(bytes:Nat)(s:XV)(x:XV)(P:Program)(t:Tm)(h:Hp):R:=
 R.ofVH (appendV h e size bytes (t.ev s) (t.ev x))
def xApz(e:Nat)(size:Nat)(bytes:Nat)(z:List Value)(s:XV)(x:XV)(P:Program)(t:Tm)(h:Hp):R:=
 R.ofVH (appendZ h e size bytes z (t.ev s) (t.ev x))
def xCpy(size:Nat)(d:XV)(s:XV)(P:Program)(t:Tm)(h:Hp):R:=
 match t.ev d,lenOf (t.ev s) with
  | .slice base dl _,some sl=>match z0K h size (Nat.min sl dl) (t.ev s) with
   | none=>.bad
   | some cs=>match base with
    | none=>cnd (Nat.beq (Nat.min sl dl) 0) (.val (.int .i64 (Nat.min sl dl)) h) .bad
    | some a=>match z1g h a cs with
     | some h=>.val (.int .i64 (Nat.min sl dl)) h
     | none=>.bad
  | _,_=>.bad
def xNes(x:XV)(P:Program)(t:Tm)(h:Hp):R:=.val (t.ev x) h
def xCvp(x:XV)(P:Program)(t:Tm)(h:Hp):R:=
 match t.ev x with
  | .pointer none=>.val (.pointer none) h
  | .pointer (some a)=>(match h.get a.block with
   | some (.cells cs _ _)=>cnd (Nat.blt a.off cs.length) (.val (.pointer (some a)) h) .bad
   | _=>.bad)
  | _=>.bad
def xCvu(u:TypeId)(s:Nat)(x:XV)(P:Program)(t:Tm)(h:Hp):R:=
 match t.ev x with
  | .pointer none=>.val (.pointer none) h
  | .pointer (some a)=>(match h.get a.block with
   | some (.cells cs e false)=>cnd (Nat.beq e u && (!Nat.beq e 0 && (Nat.beq a.off 0 && Nat.ble s cs.length))) (.val (.pointer (some a)) h) .bad
   | _=>.bad)
  | _=>.bad
def xSld(x:XV)(P:Program)(t:Tm)(h:Hp):R:=
 match t.ev x with
  | .slice none _ _=>.val (.pointer none) h
  | .slice (some a) _ cap=>cnd (isOpn cap)
   (match h.get a.block with
    | some (.cells cs _ _)=>cnd (Nat.blt opn cap && Nat.ble (Nat.add a.off (Nat.sub cap opn)) cs.length) (.val (.pointer (some a)) h) .bad
    | _=>.bad)
   (cnd (Nat.blt 0 cap) (.val (.pointer (some a)) h) .bad)
  | _=>.bad
def xUst(e:TypeId)(x n:XV)(P:Program)(t:Tm)(h:Hp):R:=
 match t.ev x,t.ev n with
  | .pointer none,.int .i64 (.ofNat 0)=>.val (.string .empty) h
  | .pointer (some a),.int .i64 (.ofNat m)=>cnd (Nat.beq m 0) (.val (.string .empty) h) (match h.get a.block with
   | some (.cells cs e1 _)=>cnd (Nat.beq e1 e && (!Nat.beq e 0 && Nat.ble m 1099511627776)) (match z0r cs a.off m with
    | some l=>(match l.foldl pushB (some ByteArray.empty) with
     | some b=>.val (.string b) (h.put a.block none)
     | none=>.bad)
    | none=>.bad) .bad
   | _=>.bad)
  | _,_=>.bad
def xClr(z:List Value)(x:XV)(P:Program)(t:Tm)(h:Hp):R:=
 match t.ev x with
  | .slice (some a) n _=>match z1g h a (rep z n) with
   | some h=>.val z0b h
   | none=>.bad
  | .slice none _ _=>.val z0b h
  | _=>.bad
def xCal(f:XV)(xs:List XV)(P:Program)(t:Tm)(h:Hp):R:=
 match t.ev f with
  | .func (.func g) first cap=>.call g (first.toList++xs.map t.ev++cap.toList)
  | .func (.via ty path g ptr) first _=>match path.toList,ptr,P.underlying ty,first.toList++xs.map t.ev with
   | [],true,some (.pointer _),a::rest=>.call g (a::rest)
   | [],false,some (.struct _),a::rest=>.call g (a::rest)
   | _,_,_,_=>.bad
  | .func (.yield l) first _=>.yield l (first.toList++xs.map t.ev)
  | _=>.bad
def xo(P:Program)(t:Tm)(h:Hp)(o:XO):R:=
 XO.rec (motive:=λ_=>Program->Tm->Hp->R)
  xMv xPick xNewz xBox xBld xBlA xBsl xLd1 xLdn xSt xNck xBin xEqA xNilq xUn xCvI xCvG xB2s xS2b xMki xMkf xMkm xMks xSls xSlg xSla xFad xFld xIxs xIxa xIxv xIxg xLk xMs xMe xEs xMd xRng xNxt xExt xLens xLenm xCaps xBig xApp xApz xCpy xClr xNes xCvp xCvu xSld xUst xCal o P t h
def z2r(P:Program)(t:TypeId):Option Bool:=
 match P.underlying t with
 | some (.struct _)|some (.array _ _)=>some true
 | some _=>some false
 | none=>none
def sizeT(P:Program)(t:TypeId):Option Nat:=match P.info? t with|some i=>some i.size|none=>none
def z3c(P:Program)(t:TypeId):Option Nat:=match P.info? t with|some i=>some i.bytes|none=>none
def zeroV(P:Program)(t:TypeId):Option Value:=match P.info? t with|some i=>(match i.zero with|some z=>cnd (plain z) (some z) none|none=>none)|none=>none
def zeroT(P:Program)(t:TypeId):Option (List Value):=match zeroV P t with|some z=>some (vcells z)|none=>none
def elemT(P:Program)(t:TypeId):Option TypeId:=match P.underlying t with|some (.slice e)=>some e|_=>none
def mapKE(P:Program)(t:TypeId):Option (TypeId × TypeId):=match P.underlying t with|some (.map k e)=>(match P.underlying k with|some _=>some (k,e)|none=>none)|_=>none
def z1h{α:Type}:List (Option α)->Option (List α)
 | []=>some []
 | some a::l=>match z1h l with|some l=>some (a::l)|none=>none
 | none::_=>none
def placesT(P:Program)(t:TypeId):Option (List (Nat × Nat)):=
 match P.underlying t with
 | some (.struct fs)=>z1h (fs.toList.map λf=>match sizeT P f.type with|some s=>some (f.offset,s)|none=>none)
 | _=>none
def flatT(P : Program)(t : TypeId): Option (List Bool) :=
  match P.underlying t with
  | some (.struct fs) => cnd (!P.stoodInHeld t && !P.eqGuardType P.depth t && fs.toList.zipIdx.all fun p => p.1.name != "_" && Nat.beq p.1.offset p.2)
      (z1h (fs.toList.map λf => match P.underlying f.type with | some (.int _) => some true | some .bool => some false | _ => none)) none
  | _ => none
def flatG(P : Program)(t : TypeId): Bool :=
  match P.underlying t with
  | some (.struct fs) => !P.stoodInHeld t && !P.eqGuardType P.depth t && fs.toList.zipIdx.all fun p => p.1.name != "_" && Nat.beq p.1.offset p.2
  | _ => false
def flatU(P:Program)(t:TypeId):Option (List Bool):=
 match P.underlying t with
 | some (.struct fs)=>z1h (fs.toList.map λf=>match P.underlying f.type with|some (.int _)=>some true|some .bool=>some false|_=>none)
 | _=>none
def okX(N:Nat)(x:Operand):Bool:=match x with
 | .tmp i=>Nat.blt i N
 | .const v=>plain v
 | .global _=>false
 | .func _=>true
def xv(x:Operand):XV:=match x with
 | .tmp i=>.tmp i (path i)
 | .const v=>.const v
 | .global _=>.const z0b
 | .func f=>.const (.func (.func f) #[] #[])
def xps(l:Array (Nat × Operand)):List (Nat × XV):=l.toList.map λp=>(p.1,xv p.2)
def isNes(P : Program)(f : Operand): Bool := match f with
  | .func g => (match P.funcs[g]? with
    | some fn => fn.body.isNone && (fn.name == "internal/abi.NoEscape" && fn.origin == "")
    | none => false)
  | _ => false
def xop(P:Program)(o:Oper):Option XO:=
 match o.op with
 | .move x|.assign x=>some (.mv (xv x))
 | .pick c a b=>some (.pick (xv c) (xv a) (xv b))
 | .alloc e=>match zeroT P e with|some z=>some (.newz z e)|none=>none
 | .box e x=>some (.box e (xv x))
 | .build ty parts=>match zeroT P ty with
  | none=>none
  | some z=>match P.underlying ty with
   | some (.struct _)=>match placesT P ty with|some ps=>some (.bld ps z (xps parts))|none=>none
   | some (.array _ e)=>match sizeT P e with|some s=>some (.blA s z (xps parts))|none=>none
   | _=>none
 | .buildSlice ty len parts=>match elemT P ty with
  | some e=>match sizeT P e,zeroT P e with
   | some s,some z=>cnd (Nat.beq z.length s && (Nat.ble (len*s) 16777216 && Nat.ble len 16777216)) (some (.bsl e s len (rep z len) (xps parts))) none
   | _,_=>none
  | none=>none
 | .load ty a=>match z2r P ty,sizeT P ty with
  | some true,some n=>some (.ldn n (xv a))
  | some false,some _=>some (.ld1 (xv a))
  | _,_=>none
 | .store ty a x=>match sizeT P ty with|some n=>some (.st n (xv a) (xv x))|none=>none
 | .nilCheck x=>some (.nck (xv x))
 | .binOp op ty x y _=>match P.underlying ty,op with
  | some (.struct _),.eql=>match flatU P ty with|some ks=>some (.eqA (flatG P ty) ks false (xv x) (xv y))|none=>some (.bin op ty (xv x) (xv y))
  | some (.struct _),.neq=>match flatU P ty with|some ks=>some (.eqA (flatG P ty) ks true (xv x) (xv y))|none=>some (.bin op ty (xv x) (xv y))
  | some (.pointer e),.eql=>(match sizeT P e with|some _=>some (.nilq 0 false (xv x) (xv y))|none=>none)
  | some (.pointer e),.neq=>(match sizeT P e with|some _=>some (.nilq 0 true (xv x) (xv y))|none=>none)
  | some (.slice _),.eql=>some (.nilq 1 false (xv x) (xv y))
  | some (.slice _),.neq=>some (.nilq 1 true (xv x) (xv y))
  | some (.map ..),.eql=>some (.nilq 2 false (xv x) (xv y))
  | some (.map ..),.neq=>some (.nilq 2 true (xv x) (xv y))
  | some (.func ..),.eql=>some (.nilq 3 false (xv x) (xv y))
  | some (.func ..),.neq=>some (.nilq 3 true (xv x) (xv y))
  | _,_=>some (.bin op ty (xv x) (xv y))
 | .unOp op _ x=>some (.un op (xv x))
 | .convert s d x=>match P.underlying s,P.underlying d with
  | some (.int _),some (.int k)=>some (.cvI k (xv x))
  | some (.slice e),some .string=>match P.underlying e with|some (.int .u8)=>some (.b2s (xv x))|_=>none
  | some .string,some (.slice e)=>match P.underlying e with|some (.int .u8)=>some (.s2b e (xv x))|_=>none
  | some (.pointer t),some .unsafePointer=>(match sizeT P t with|some n=>cnd (Nat.blt 0 n) (some (.cvp (xv x))) none|none=>none)
  | some .unsafePointer,some (.pointer u)=>cnd (Nat.blt 0 (P.cellsOf u)) (some (.cvu u (P.cellsOf u) (xv x))) none
  | some _,some _=>some (.cvG s d (xv x))
  | _,_=>none
 | .makeInterface ty x=>match P.underlying ty with
  | some (.interface _)|none=>none
  | _=>some (.mki ty (xv x))
 | .makeFunc fn first cap=>match fn with
  | .yield _=>none
  | fn=>some (.mkf fn (first.toList.map xv) (cap.toList.map xv))
 | .makeMap _ none=>some .mkm
 | .makeSlice ty l c=>match elemT P ty with
  | some e=>match zeroT P e,z3c P e,sizeT P e with
   | some z,some b,some s=>cnd (Nat.beq z.length s) (some (.mks e z b (xv l) (xv c))) none
   | _,_,_=>none
  | none=>none
 | .slice ty x lo hi mx=>match P.underlying ty with
  | some (.slice e)=>match sizeT P e with|some s=>cnd (Nat.blt 0 s) (cnd (hi.isSome || mx.isNone) (some (.sls s (xv x) (lo.map xv) (hi.map xv) (mx.map xv))) none) none|none=>none
  | some .string=>some (.slg ty (xv x) (lo.map xv) (hi.map xv) (mx.map xv))
  | some (.array n e)=>match sizeT P e with|some s=>cnd (Nat.ble n 1099511627776 && (hi.isSome || mx.isNone)) (some (.sla n s (xv x) (lo.map xv) (hi.map xv) (mx.map xv))) none|none=>none
  | _=>none
 | .fieldAddr s x f=>match P.underlying s with
  | some (.struct fs)=>match fs.toList[f]? with
   | some f=>match sizeT P f.type with|some (_+1)=>some (.fad f.offset (xv x))|_=>none
   | none=>none
  | _=>none
 | .field ty x f=>match P.underlying ty with
  | some (.struct fs)=>match fs.toList[f]? with
   | some f=>match z2r P f.type,sizeT P f.type with
    | some true,some n=>some (.fld true n f.offset (xv x))
    | some false,some _=>some (.fld false 1 f.offset (xv x))
    | _,_=>none
   | none=>none
  | _=>none
 | .indexAddr ty x i=>match P.underlying ty with
  | some (.array len e)=>match sizeT P e with|some s=>some (.ixa len s (xv x) (xv i))|none=>none
  | some (.slice e)=>match sizeT P e with|some s=>some (.ixs s (xv x) (xv i))|none=>none
  | _=>none
 | .index ty x i=>match P.underlying ty with
  | some (.array len e)=>match z2r P e,sizeT P e with
   | some true,some n=>some (.ixv len true n (xv x) (xv i))
   | some false,some 1=>some (.ixv len false 1 (xv x) (xv i))
   | _,_=>none
  | some .string=>some (.ixg ty (xv x) (xv i))
  | _=>none
 | .lookup ty m k ok=>match mapKE P ty with
  | some (kt,et)=>match zeroV P et with|some z=>some (.lk kt z ok (xv m) (xv k))|none=>none
  | none=>none
 | .mapUpdate ty m k x|.insert ty m k x=>match mapKE P ty with|some (kt,_)=>some (.ms kt (xv m) (xv k) (xv x))|none=>none
 | .mapEntry ty m k=>match mapKE P ty with
  | some (kt,et)=>match zeroV P et with|some z=>some (.me kt z (xv m) (xv k))|none=>none
  | none=>none
 | .entryStore _ m s x=>some (.es (xv m) (xv s) (xv x))
 | .range ty x=>match P.underlying ty with|some .string=>some (.rng (xv x))|_=>none
 | .next x true=>some (.nxt (xv x))
 | .extract x i=>some (.ext i (xv x))
 | .call c=>match c.callee with
  | .value f=>cnd (isNes P f) (match c.args.toList with|[x]=>some (.nes (xv x))|_=>none) (some (.cal (xv f) (c.args.toList.map xv)))
  | .builtin b=>match b,c.argTypes.toList,c.args.toList with
   | .append,sT::xT::_,[s,x]=>match P.underlying xT with
    | none=>none
    | some (.int _)=>match elemT P sT with
     | some e=>match sizeT P e,z3c P e with
      | some sz,some by'=>match zeroT P e with
       | some z=>cnd (Nat.blt 0 sz && (Nat.blt 0 by' && Nat.beq z.length sz)) (some (.apz e sz by' z (xv s) (xv x))) none
       | none=>none
      | _,_=>none
     | none=>none
    | some _=>match elemT P sT with
     | some e=>match sizeT P e,z3c P e with
      | some sz,some by'=>match zeroT P e with
       | some z=>cnd (Nat.blt 0 sz && (Nat.blt 0 by' && Nat.beq z.length sz)) (some (.app e sz by' (xv s) (xv x))) none
       | none=>none
      | _,_=>none
     | none=>none
   | .len,t::_,[x]=>match P.underlying t with
    | some (.slice _)=>some (.lens (xv x))
    | some (.map ..)=>some (.lenm (xv x))
    | some .string=>some (.big .len c.argTypes o.type [xv x])
    | _=>none
   | .cap,t::_,[x]=>match P.underlying t with|some (.slice _)=>some (.caps (xv x))|_=>none
   | .copy,t::_,[d,s]=>match elemT P t with
    | some e=>match sizeT P e with|some sz=>some (.cpy sz (xv d) (xv s))|none=>none
    | none=>none
   | .delete,t::_,[m,k]=>match mapKE P t with|some (kt,_)=>some (.md kt (xv m) (xv k))|none=>none
   | .clear,t::_,[x]=>match elemT P t with
    | some e=>match zeroT P e with|some z=>some (.clr z (xv x))|none=>none
    | none=>none
   | .unsafeSliceData,_::_,[x]=>some (.sld (xv x))
   | .unsafeString,pt::_,[x,n]=>match P.underlying pt with
    | some (.pointer e)=>cnd (Nat.beq (P.cellsOf e) 1) (some (.ust e (xv x) (xv n))) none
    | _=>none
   | .max,_,xs=>some (.big .max c.argTypes o.type (xs.map xv))
   | .min,_,xs=>some (.big .min c.argTypes o.type (xs.map xv))
   | .real,_,xs=>some (.big .real c.argTypes o.type (xs.map xv))
   | .imag,_,xs=>some (.big .imag c.argTypes o.type (xs.map xv))
   | .complex,_,xs=>some (.big .complex c.argTypes o.type (xs.map xv))
   | _,_,_=>none
  | .invoke _ _=>none
 | _=>none
def XO.writes:XO->Bool
 | .st .. | .ms .. | .me .. | .es .. | .md .. | .nxt .. | .app .. | .apz .. | .cpy .. | .clr .. | .ust .. | .cal ..=>true
 | _=>false
def XO.reads:XO->Bool
 | .ld1 _|.ldn .. | .b2s _|.lk .. | .lenm _|.cvp _|.cvu .. | .sld _=>true
 | _=>false
def XO.opers:XO->List XV
 | .mv x|.box _ x|.ld1 x|.ldn _ x|.nck x|.un _ x|.cvI _ x|.cvG _ _ x|.b2s x|.s2b _ x|.mki _ x|.fad _ x|.fld _ _ _ x|.rng x|.nxt x|.ext _ x|.lens x|.lenm x|.caps x|.clr _ x|.nes x|.cvp x|.cvu _ _ x|.sld x=>[x]
 | .pick a b c=>[a,b,c]
 | .newz .. | .mkm=>[]
 | .bld _ _ ps|.blA _ _ ps|.bsl _ _ _ _ ps=>ps.map (·.2)
 | .st _ a x|.bin _ _ a x|.eqA _ _ _ a x|.nilq _ _ a x|.mks _ _ _ a x|.ixs _ a x|.ixa _ _ a x|.ixv _ _ _ a x|.ixg _ a x|.lk _ _ _ a x|.me _ _ a x|.md _ a x|.app _ _ _ a x|.apz _ _ _ _ a x|.cpy _ a x|.ust _ a x=>[a,x]
 | .mkf _ f c=>f++c
 | .sls _ x a b c|.slg _ x a b c|.sla _ _ x a b c=>[x]++a.toList++b.toList++c.toList
 | .ms _ m k x|.es m k x=>[m,k,x]
 | .big _ _ _ xs=>xs
 | .cal f xs=>f::xs
structure XOp where
 dst:Option (Nat × List Bool)
 guard:Option (Option Nat × Bool)
 o:XO
inductive XS where
 | run (x:XOp)
 | chk (x:XOp)
def Oper.ok(N:Nat)(ops:List Oper)(o:Oper):Bool:=
 (match o.dst with|some d=>Nat.blt d N|none=>true) &&
 (match o.guard with|some (j,_)=>(match (ops[j]?).bind (·.dst) with|some d=>Nat.blt d N|none=>true)|none=>true) && o.op.operands.toList.all (okX N)
def xopOf(P:Program)(N:Nat)(ops:List Oper)(o:Oper):Option XOp:=
 match xop P o with
 | none=>none
 | some x=>cnd (Oper.ok N ops o) (some ⟨o.dst.map λd=>(d,path d),o.guard.map λ(j,w)=>((ops[j]?).bind (·.dst),w),x⟩) none
def befores(ops:List Oper):List Nat:=
 ops.foldl (init:=[]) λacc o=>acc++[o.after.toList.foldl (λs e=>cnd (Region.binds .any e) (s ||| (1 <<< e.on) ||| acc.getD e.on 0) s) 0]
def ready1(bs:List Nat)(want:Nat->Bool)(e:Nat):Nat->List Nat->Option Nat
 | _,[]=>none
 | i,b::l=>cnd (!Nat.testBit e i && Nat.beq (b &&& e) b && want i) (some i) (ready1 bs want e (i+1) l)
def order(bs:List Nat)(w:Nat->Bool):Nat->Nat->List Nat
 | 0,_=>[]
 | k+1,e=>match ready1 bs (λi=>!w i) e 0 bs with
  | some i=>i::order bs w k (e ||| (1 <<< i))
  | none=>match ready1 bs w e 0 bs with
   | some i=>i::order bs w k (e ||| (1 <<< i))
   | none=>[]
def steps(bs:List Nat)(xs:List XOp):List Nat->(e ws new old:Nat)->Option (List XS)
 | [],e,_,_,old=>cnd (Nat.beq e (1 <<< xs.length-1)) (some ((xs.zipIdx.filter λp=>Nat.testBit old p.2).map λp=>.chk p.1)) none
 | i::l,e,ws,new,old=>match xs[i]?,bs[i]? with
  | some x,some b=>cnd (!Nat.testBit e i && Nat.beq (b &&& e) b && Nat.beq (ws &&& b) ws)
   (cnd x.o.writes
    (match steps bs xs l (e ||| (1 <<< i)) (ws ||| (1 <<< i)) 0 ((new ||| old) ^^^ ((new ||| old) &&& b)) with
     | some r=>some (((xs.zipIdx.filter λp=>Nat.testBit old p.2).map λp=>.chk p.1)++.run x::r)
     | none=>none)
    (match steps bs xs l (e ||| (1 <<< i)) ws (cnd x.o.reads (new ||| (1 <<< i)) new) old with
     | some r=>some (.run x::r)
     | none=>none)) none
  | _,_=>none
def nodupN:List Nat->Bool
 | []=>true
 | a::l=>!l.contains a && nodupN l
def ssa(bs:List Nat)(xs:List XOp):Bool:=
 nodupN (xs.filterMap λx=>x.dst.map (·.1)) &&
 xs.zipIdx.all λ(x,i)=>xs.zipIdx.all λ(y,j)=>match y.dst with
  | none=>true
  | some (d,_)=>Nat.testBit (bs.getD i 0) j || (!x.o.reads && (i == j || Nat.testBit (bs.getD j 0) i)) ||
    !((x.o.opers.any fun|.tmp t _=>t == d|_=>false) || (match x.guard with|some (some t,_)=>t == d|_=>false))
def backE(ops:List Oper):Bool:=ops.zipIdx.all λp=>p.1.after.toList.all λe=>!Region.binds .any e || Nat.blt e.on p.2
def z1x(P : Program)(N : Nat)(ops : Array Oper)(draw : Bool): Option (List XS) :=
  match z1h (ops.toList.map (xopOf P N ops.toList)) with
  | none => none
  | some xs => cnd draw
    (let bs := befores ops.toList
     cnd (P.follows .mixedOrders && (backE ops.toList && ssa bs xs)) (steps bs xs (order bs (λi => match xs[i]? with | some x => x.o.writes | none => false) xs.length 0) 0 0 0 0) none)
    (some (xs.map .run))
inductive Ot where
 | norm
 | exit (id:Nat)
 | goto (l:Nat)
 | ret
inductive XR where
 | ok (e:Ot) (t:Tm) (h:Hp)
 | bad (f:Nat) (pos:Nat)
inductive CR where
 | ok (v:Value) (h:Hp)
 | bad (f:Nat) (pos:Nat)
def z0C(t:Tm)(g:Option (Option Nat × Bool)):Bool:=
 match g with
 | none=>true
 | some (none,_)=>false
 | some (some d,w)=>match t.get d with
  | .bool b=>b == w
  | _=>false
def sameV:Nat->Value->Value->Bool
 | _,.bool a,.bool b=>a == b
 | _,.int j a,.int k b=>decide (j=k) && ieq a b
 | _,.string a,.string b=>decide (a=b)
 | _,.pointer a,.pointer b=>decide (a=b)
 | _,.slice a l c,.slice b m d=>decide (a=b) && Nat.beq l m && Nat.beq c d
 | _,.map a,.map b=>decide (a=b)
 | _,.nilFunc,.nilFunc=>true
 | _,.nilIface,.nilIface=>true
 | n+1,.func f a b,.func g c d=>decide (f=g) && a.size == c.size && b.size == d.size && (a.toList.zip c.toList).all (λp=>sameV n p.1 p.2) && (b.toList.zip d.toList).all (λp=>sameV n p.1 p.2)
 | n+1,.agg a,.agg b=>a.size == b.size && (a.toList.zip b.toList).all λp=>sameV n p.1 p.2
 | n+1,.tuple a,.tuple b=>a.size == b.size && (a.toList.zip b.toList).all λp=>sameV n p.1 p.2
 | _,_,_=>false
structure Ev where
 loop:Code->Tm->Hp->XR
 scope:Code->Code->Tm->Hp->XR
 call:FuncId->List Value->Hp->CR
 round:Nat->List Value->Hp->CR
def setD(t:Tm)(d:Option (Nat × List Bool))(v:Value):Tm:=
 Option.rec (motive:=λ_=>Tm) t (λd=>Tr.put (some v) t d.2) d
def opR(P:Program)(ev:Ev)(t:Tm)(h:Hp)(x:XO):CR:=
 R.rec (motive:=λ_=>CR) (λv h=>.ok v h) (λf args=>ev.call f args h) (λl args=>ev.round l args h) (.bad 0 1) (xo P t h x)
def runS(P:Program)(ev:Ev)(l:List XS):Tm->Hp->XR:=
 List.rec (motive:=λ_=>Tm->Hp->XR) (λt h=>.ok .norm t h)
  (λs _ ih t h=>XS.rec (motive:=λ_=>XR)
   (λx=>cnd (z0C t x.guard)
    (CR.rec (motive:=λ_=>XR) (λv h=>ih (setD t x.dst v) h) (λf p=>.bad f p) (opR P ev t h x.o))
    (ih (setD t x.dst z0b) h))
   (λx=>cnd (z0C t x.guard)
    (match x.dst,xo P t h x.o with
     | some d,.val v _=>cnd (sameV 3 v (t.get d.1)) (ih t h) (.bad 0 2)
     | none,.val _ _=>ih t h
     | _,_=>.bad 0 3)
    (ih t h)) s) l
def XR.then(r:XR)(n:Tm->Hp->XR):XR:=
 XR.rec (motive:=λ_=>XR) (λe t h=>Ot.rec (motive:=λ_=>XR) (n t h) (λi=>.ok (.exit i) t h) (λl=>.ok (.goto l) t h) (.ok .ret t h) e) (λf p=>.bad f p) r
def XR.block(id:Nat)(r:XR):XR:=
 XR.rec (motive:=λ_=>XR) (λe t h=>Ot.rec (motive:=λ_=>XR) (.ok .norm t h) (λi=>cnd (Nat.beq i id) (.ok .norm t h) (.ok (.exit i) t h)) (λl=>.ok (.goto l) t h) (.ok .ret t h) e) (λf p=>.bad f p) r
def condX(N:Nat)(c:Operand)(a b:Tm->Hp->XR)(t:Tm)(h:Hp):XR:=
 cnd (okX N c) (match t.ev (xv c) with|.bool true=>a t h|.bool false=>b t h|_=>.bad 0 5) (.bad 0 5)
def rangeX(ev:Ev)(N:Nat)(fn:FuncId)(inRound:Bool)(f:Operand)(ps:Array Tmp)(assign body:Code)(t:Tm)(h:Hp):XR:=
 cnd (okX N f && !inRound)
  (match t.ev (xv f) with
   | .func (.func g) first cap=>match ev.call g (first.toList++[.func (.yield h.n) #[] #[]]++cap.toList) (h.new (some (.loop ⟨0,none,fn,t,ps.toList,assign,body⟩))) with
    | .ok _ h1=>match h1.get h.n with
     | some (.loop r)=>cnd (Nat.beq r.busy 1) (.bad 0 6) (match r.pend with
      | none=>.ok .norm t (h1.put h.n none)
      | some .ret=>.ok .ret t (h1.put h.n none)
      | some (.exit i)=>.ok (.exit i) t (h1.put h.n none)
      | some (.goto l)=>.ok (.goto l) t (h1.put h.n none)
      | _=>.bad 0 6)
     | _=>.bad 0 6
    | .bad f p=>.bad f p
   | _=>.bad 0 6) (.bad 0 6)
def regX(P:Program)(ev:Ev)(r:Option (List XS))(t:Tm)(h:Hp):XR:=
 Option.rec (motive:=λ_=>XR) (.bad 0 4) (λl=>runS P ev l t h) r
def codeX(P:Program)(ev:Ev)(N:Nat)(fn:FuncId)(inRound:Bool)(c:Code):Tm->Hp->XR:=
 Code.rec (motive:=λ_=>Tm->Hp->XR)
  (λt h=>.ok .norm t h)
  (λ_ ops draw t h=>regX P ev (z1x P N ops draw) t h)
  (λ_ _ a b t h=>(a t h).then b)
  (λc _ _ a b t h=>condX N c a b t h)
  (λid _ c t h=>(c t h).block id)
  (λc0 _ t h=>ev.loop c0 t h)
  (λf ps assign body _ _ t h=>rangeX ev N fn inRound f ps assign body t h)
  (λid t h=>.ok (.exit id) t h)
  (λc0 _ t h=>ev.scope c0 c0 t h)
  (λ_ t h=>.ok .norm t h)
  (λl t h=>.ok (.goto l) t h)
  (λt h=>.ok .ret t h)
  (λ_ _ _=>.bad 0 7) c
def initT(vs:List Value):Nat->Tm->Tm:=List.rec (motive:=λ_=>Nat->Tm->Tm) (λ_ t=>t) (λv _ ih i t=>ih (i+1) (t.put i v)) vs
def resV(P:Program)(N:Nat)(t:Tm)(h:Hp):List ResultVar->Option (List Value)
 | []=>some []
 | .tmp i::rs=>match resV P N t h rs with|some l=>cnd (Nat.blt i N) (some (t.get i::l)) none|none=>none
 | .cell a ty::rs=>cnd (Nat.blt a N) (match t.get a with
  | .pointer (some a)=>match resV P N t h rs,z2r P ty,sizeT P ty with
   | some l,some true,some n=>match z0u h a n with|some c=>some (.agg c.toArray::l)|none=>none
   | some l,some false,some _=>match ld1 h a with|some c=>some (c::l)|none=>none
   | _,_,_=>none
  | _=>none) none
def loopX(P:Program)(ev:Ev)(N:Nat)(fn:FuncId)(r:Bool)(c:Code)(t:Tm)(h:Hp):XR:=
 (codeX P ev N fn r c t h).then (ev.loop c)
def z3j(P:Program)(ev:Ev)(N:Nat)(fn:FuncId)(r:Bool)(c0 c:Code)(t:Tm)(h:Hp):XR:=
 XR.casesOn (codeX P ev N fn r c t h) (λe t h=>Ot.casesOn e (.ok .norm t h) (λi=>.ok (.exit i) t h)
  (λl=>Option.casesOn (findLabel c0 l) (.ok (.goto l) t h) (λrest=>ev.scope c0 rest t h)) (.ok .ret t h)) (λf p=>.bad f p)
structure Fr where
 N:Nat
 fn:FuncId
 r:Bool
structure EvF where
 loop:Fr->Code->Tm->Hp->XR
 scope:Fr->Code->Code->Tm->Hp->XR
 call:FuncId->List Value->Hp->CR
 round:Nat->List Value->Hp->CR
def EvF.at(e:EvF)(f:Fr):Ev:=⟨e.loop f,e.scope f,e.call,e.round⟩
def bodyX(P : Program)(e : EvF)(f : FuncId)(args : List Value)(h : Hp): CR :=
  match P.funcs[f]? with
  | some fn => match fn.body with
    | some c => cnd (Nat.ble args.length fn.ntmps && Nat.ble fn.ntmps 1073741824 && fn.name != "runtime.NumGoroutine")
      (match codeX P (e.at ⟨fn.ntmps, f, false⟩) fn.ntmps f false c (initT args 0 .nil) h with
        | .ok .norm t h | .ok .ret t h => (match resV P fn.ntmps t h fn.results.toList with
          | some [v] => .ok v h
          | some l => .ok (.tuple l.toArray) h
          | none => .bad f 8)
        | .bad g p => .bad (cnd (Nat.beq g 0) f g) p
        | _ => .bad f 9) (.bad f 10)
    | none => .bad f 11
  | none => .bad f 12
def lastD(ops:Array Oper):Option Operand:=match ops.back? with
 | some o=>(match o.op,o.guard,o.dst with
  | .defer ⟨.value g,args,_⟩,none,none=>cnd args.isEmpty (some g) none
  | _,_,_=>none)
 | none=>none
def splitR:Code->Option (Code × Operand)
 | .region id ops false=>(match lastD ops with|some g=>some (.region id ops.pop false,g)|none=>none)
 | _=>none
def splitD(c:Code):Option (Code × Operand × Code):=
 Code.rec (motive:=λ_=>Option (Code × Operand × Code)) none (λ_ _ _=>none)
  (λx y _ ih=>match splitR x with
   | some (x0,g)=>some (x0,g,y)
   | none=>match ih with
    | some (c0,g,c1)=>some (.seq x c0,g,c1)
    | none=>none)
  (λ_ _ _ _ _=>none) (λ_ _ _=>none) (λ_ _=>none) (λ_ _ _ _ _ _=>none) (λ_=>none) (λ_ _=>none) (λ_=>none) (λ_=>none) none (λ_=>none) c
def splitF(P:Program)(f:FuncId):Option (Code × Operand × Code):=match P.funcs[f]? with
 | some fn=>(match fn.body with|some c=>splitD c|none=>none)
 | none=>none
def defX(P : Program)(e : EvF)(f : FuncId)(args : List Value)(h : Hp)(c0 : Code)(g : Operand)(c1 : Code): CR :=
  match P.funcs[f]? with
  | some fn => cnd (Nat.ble args.length fn.ntmps && Nat.ble fn.ntmps 1073741824 && fn.name != "runtime.NumGoroutine" && okX fn.ntmps g)
    (match codeX P (e.at ⟨fn.ntmps, f, false⟩) fn.ntmps f false c0 (initT args 0 .nil) h with
      | .ok .norm t h => (match t.ev (xv g) with
        | .func (.func k) first cap => (match codeX P (e.at ⟨fn.ntmps, f, false⟩) fn.ntmps f false c1 t h with
          | .ok .norm t h | .ok .ret t h => (match bodyX P e k (first.toList ++ cap.toList) h with
            | .ok _ h => (match resV P fn.ntmps t h fn.results.toList with
              | some [v] => .ok v h
              | some l => .ok (.tuple l.toArray) h
              | none => .bad f 8)
            | .bad g p => .bad g p)
          | .bad g p => .bad (cnd (Nat.beq g 0) f g) p
          | _ => .bad f 21)
        | _ => .bad f 22)
      | .bad g p => .bad (cnd (Nat.beq g 0) f g) p
      | _ => .bad f 23) (.bad f 24)
  | none => .bad f 12
def callX(P:Program)(e:EvF)(f:FuncId)(args:List Value)(h:Hp):CR:=match splitF P f with
 | none=>bodyX P e f args h
 | some (c0,g,c1)=>defX P e f args h c0 g c1
def setPs:List Nat->List Value->Tm->Option Tm
 | [],[],t=>some t
 | p::ps,v::vs,t=>setPs ps vs (t.put p v)
 | _,_,_=>none
def endRd(l:Nat)(r:LoopR Tm)(h:Hp)(e:Ot):CR:=
 Ot.rec (motive:=λ_=>CR) (.ok (.bool true) (h.put l (some (.loop { r with busy:=0,pend:=none }))))
  (λi=>.ok (.bool false) (h.put l (some (.loop { r with busy:=2,pend:=some (.exit i) }))))
  (λi=>.ok (.bool false) (h.put l (some (.loop { r with busy:=2,pend:=some (.goto i) }))))
  (.ok (.bool false) (h.put l (some (.loop { r with busy:=2,pend:=some .ret })))) e
def roundX(P:Program)(e:EvF)(l:Nat)(args:List Value)(h:Hp):CR:=
 match h.get l with
 | some (.loop r)=>match P.funcs[r.fn]?,setPs r.params args r.tm with
  | some fn,some t=>match codeX P (e.at ⟨fn.ntmps,r.fn,true⟩) fn.ntmps r.fn true r.assign t h with
   | .ok .norm t h1=>match h1.get l with
    | some (.loop r1)=>cnd (Nat.beq r1.busy 0) (match codeX P (e.at ⟨fn.ntmps,r.fn,true⟩) fn.ntmps r.fn true r.body t (h1.put l (some (.loop { r1 with busy:=1 }))) with
     | .ok e _ h2=>match h2.get l with
      | some (.loop r2)=>endRd l r2 h2 e
      | _=>.bad r.fn 17
     | .bad g p=>.bad (cnd (Nat.beq g 0) r.fn g) p) (.bad r.fn 15)
    | _=>.bad r.fn 18
   | .bad g p=>.bad (cnd (Nat.beq g 0) r.fn g) p
   | _=>.bad r.fn 13
  | _,_=>.bad 0 14
 | _=>.bad 0 16
class Ov (P:Program) where
 is:FuncId->Bool
 val:FuncId->Value:=λ_=>.bool true
 is2:FuncId->Bool:=λ_=>false
 mem:FuncId->List Value->Hp->Option (Value × Hp):=λ_ _ _=>none
abbrev Ov.none(P:Program):Ov P:={ is:=λ_=>false }
def callO(P:Program)[Ov P](e:EvF)(f:FuncId)(args:List Value)(h:Hp):CR:=
 cnd (Ov.is P f) (cnd args.isEmpty (.ok (Ov.val P f) h) (.bad f 19)) (cnd (Ov.is2 P f) (match Ov.mem P f args h with|some (v,h)=>.ok v h|none=>callX P e f args h) (callX P e f args h))
def evS(P:Program)[Ov P](e:EvF):EvF:=
 ⟨λf c t h=>loopX P (e.at f) f.N f.fn f.r c t h,λf c0 c t h=>z3j P (e.at f) f.N f.fn f.r c0 c t h,λf args h=>callO P e f args h,λl args h=>roundX P e l args h⟩
def ev(P:Program)[Ov P](n:Nat):EvF:=
 Nat.rec ⟨λ_ _ _ _=>.bad 0 0,λ_ _ _ _ _=>.bad 0 0,λ_ _ _=>.bad 0 0,λ_ _ _=>.bad 0 0⟩ (λ_ e=>evS P e) n
end
end Go.Ax
namespace Go.Ax
section
variable {α:Type}
theorem Tr.get_nil(p:List Bool):(Tr.nil:Tr α).get p=none:=by cases p<;>rfl
theorem Tr.get_node_nil(l:Tr α)(v:Option α)(r:Tr α):(Tr.node l v r).get []=v:=rfl
theorem Tr.get_node_cons(l:Tr α)(v:Option α)(r:Tr α)(b:Bool)(p:List Bool):(Tr.node l v r).get (b::p)=if b then r.get p else l.get p:=by cases b<;>rfl
theorem Tr.put_nil_nil(a:Option α):Tr.put a (Tr.nil:Tr α) []=.node .nil a .nil:=rfl
theorem Tr.put_node_nil(a:Option α)(l:Tr α)(v:Option α)(r:Tr α):Tr.put a (.node l v r) []=.node l a r:=rfl
theorem Tr.put_nil_cons(a:Option α)(b:Bool)(p:List Bool):Tr.put a (Tr.nil:Tr α) (b::p)=if b then .node .nil none (Tr.put a .nil p) else .node (Tr.put a .nil p) none .nil:=by cases b<;>rfl
theorem Tr.put_node_cons(a:Option α)(l:Tr α)(v:Option α)(r:Tr α)(b:Bool)(p:List Bool):Tr.put a (.node l v r) (b::p)=if b then .node l v (Tr.put a r p) else .node (Tr.put a l p) v r:=by cases b<;>rfl
theorem Tr.get_put(a:Option α):∀(p q:List Bool) (t:Tr α),(Tr.put a t p).get q=if p=q then a else t.get q:=by
 intro p
 induction p with
 | nil=>
  intro q t;cases t<;>cases q<;>simp[Tr.put_nil_nil,Tr.put_node_nil,Tr.get_node_nil,Tr.get_node_cons,Tr.get_nil]
 | cons b p ih=>
  intro q t;cases t<;>cases q with
  | nil=>cases b<;>simp[Tr.put_nil_cons,Tr.put_node_cons,Tr.get_node_nil,Tr.get_nil]
  | cons c q=>
   cases b<;>cases c<;>simp[Tr.put_nil_cons,Tr.put_node_cons,Tr.get_node_cons,Tr.get_nil,ih]
end
theorem z3F(f i:Nat):pathF (f+1) i=if i=0 then [] else (Nat.beq (i % 2) 0)::pathF f ((i-1) / 2):=by
 cases i with
 | zero=>rfl
 | succ n=>rfl
theorem z2B(f:Nat):pathF f 0=[]:=by cases f<;>rfl
theorem pathF_inj:∀(f i f' j:Nat),i<=f->j<=f'->pathF f i=pathF f' j->i=j:=by
 intro f
 induction f with
 | zero=>
  intro i f' j hi hj h;obtain rfl:i=0:=by omega
  rw[z2B] at h;cases j with
  | zero=>rfl
  | succ j=>
   obtain⟨g,rfl⟩:∃g,f'=g+1:=⟨f'-1,by omega⟩
   rw[z3F] at h;simp at h
 | succ f ih=>
  intro i f' j hi hj h;cases i with
  | zero=>
   rw[z2B] at h;cases j with
   | zero=>rfl
   | succ j=>
    obtain⟨g,rfl⟩:∃g,f'=g+1:=⟨f'-1,by omega⟩
    rw[z3F] at h;simp at h
  | succ i=>
   rw[z3F,if_neg (by omega)] at h;cases j with
   | zero=>rw[z2B] at h;cases h
   | succ j=>
    obtain⟨g,rfl⟩:∃g,f'=g+1:=⟨f'-1,by omega⟩
    rw[z3F,if_neg (by omega)] at h;simp only[y11] at h;have h2:=ih _ g _ (by omega) (by omega) h.2;have h1:((i+1) % 2=0)↔((j+1) % 2=0):=by have:=h.1;rw[Bool.eq_iff_iff] at this;simpa using this
    omega
theorem path_inj{i j:Nat}(h:path i=path j):i=j:=pathF_inj i i j j (y03 _) (y03 _) h
theorem Hp.get_put(h:Hp)(b c:Nat)(x:Option Blk):(h.put b x).get c=if b=c then x else h.get c:=by
 unfold Hp.get Hp.put;rw[Tr.get_put];by_cases e:b=c
 .subst e;simp
 .rw[if_neg e,if_neg (λh=>e (path_inj h))]
theorem Hp.get_new(h:Hp)(c:Nat)(x:Option Blk):(h.new x).get c=if h.n=c then x else h.get c:=Hp.get_put h h.n c x
@[simp] theorem Hp.n_put (h:Hp) (b:Nat) (x:Option Blk):(h.put b x).n=h.n:=rfl
@[simp] theorem Hp.n_new (h:Hp) (x:Option Blk):(h.new x).n=h.n+1:=rfl
theorem Tm.get_eq(t:Tm)(i:Nat):t.get i=(Tr.get t (path i)).getD z0b:=by unfold Tm.get;cases Tr.get t (path i)<;>rfl
theorem Tm.get_put(t:Tm)(i j:Nat)(v:Value):(t.put i v).get j=if i=j then v else t.get j:=by
 rw[Tm.get_eq,Tm.get_eq,Tm.put,Tr.get_put];by_cases e:i=j
 .subst e;simp
 .rw[if_neg e,if_neg (λh=>e (path_inj h))]
theorem setD_none(t:Tm)(v:Value):setD t none v=t:=rfl
theorem setD_some(t:Tm)(d:Nat)(v:Value):setD t (some (d,path d)) v=t.put d v:=rfl
theorem z02{α:Type}(x y:α):cnd true x y=x:=rfl
theorem z01{α:Type}(x y:α):cnd false x y=y:=rfl
theorem z03{α:Type}(b:Bool)(x y:α):cnd b x y=if b then x else y:=by cases b<;>rfl
structure Pl where
 blk:Nat
 off:Nat
 lim:Nat
 sz:Nat
abbrev Rho:=Nat->Option Pl
def pl(ρ:Rho)(b:Nat):Pl:=(ρ b).getD ⟨0,0,0,1⟩
def rawA(a:Addr):Addr:=⟨a.block,a.off,match a.spot with|some (k+1)=>some k|_=>none⟩
def mkRaw(a:Addr):Addr:=⟨a.block,a.off,some (match a.spot with|some k=>k+1|none=>0)⟩
theorem rawA_mk(a:Addr):rawA (mkRaw a)=a:=by
 cases a with
 | mk b o s=>cases s<;>rfl
def renA(ρ:Rho)(a:Addr):Addr:=match a.spot with
 | none=>⟨(pl ρ a.block).blk,(pl ρ a.block).off+a.off,none⟩
 | some _=>rawA a
theorem z46{ρ:Rho}{a:Addr}(h:a.spot=none):renA ρ a=⟨(pl ρ a.block).blk,(pl ρ a.block).off+a.off,none⟩:=by unfold renA;rw[h]
theorem z2j{ρ:Rho}(b o:Nat):renA ρ ⟨b,o,none⟩=⟨(pl ρ b).blk,(pl ρ b).off+o,none⟩:=rfl
theorem renA_raw{ρ:Rho}(a:Addr):renA ρ (mkRaw a)=a:=rawA_mk a
def isRaw(a:Addr)(l c:Nat):Prop:=a.spot≠none/\l=0/\c=0
def capOf(ρ:Rho)(a:Addr)(cap:Nat):Nat:=if opn<=cap then ((pl ρ a.block).lim-a.off) / (cap-opn) else cap
def renFn(ρ:Rho):Fn->Fn
 | .yield l=>.yield (pl ρ l).blk
 | f=>f
def ren(ρ:Rho):Value->Value
 | .pointer (some a)=>.pointer (some (renA ρ a))
 | .slice (some a) len cap=>.slice (some (renA ρ a)) len (capOf ρ a cap)
 | .map (some r)=>.map (some (pl ρ r).blk)
 | .func fn f c=>.func (renFn ρ fn) (f.attach.map λx=>ren ρ x.1) (c.attach.map λx=>ren ρ x.1)
 | .iface t v=>.iface t (ren ρ v)
 | .agg cs=>.agg (cs.attach.map λx=>ren ρ x.1)
 | .tuple cs=>.tuple (cs.attach.map λx=>ren ρ x.1)
 | v=>v
termination_by v=>SizeOf.sizeOf v
decreasing_by
 all_goals simp_wf
 all_goals first|(have:=y3j x.2;omega)|(show 0<1+(_:Nat);omega)
def Mapped(ρ:Rho)(b:Nat):Prop:=(ρ b).isSome=true
def okFn(ρ:Rho):Fn->Prop
 | .yield l=>Mapped ρ l
 | _=>True
def okA(ρ:Rho)(a:Addr):Prop:=a.spot=none/\Mapped ρ a.block
def okv(ρ:Rho):Value->Prop
 | .pointer (some a)=>okA ρ a
 | .slice (some a) len cap=>(okA ρ a/\(opn<=cap->opn<cap/\len*(cap-opn)<=(pl ρ a.block).lim-a.off/\len<opn))\/isRaw a len cap
 | .map (some r)=>Mapped ρ r
 | .chan (some _)=>False
 | .func fn f c=>okFn ρ fn/\(∀x∈f.attach,okv ρ x.1)/\(∀x∈c.attach,okv ρ x.1)
 | .iface _ v=>okv ρ v
 | .agg cs=>∀x∈cs.attach,okv ρ x.1/\one x.1=true
 | .tuple cs=>∀x∈cs.attach,okv ρ x.1
 | _=>True
termination_by v=>SizeOf.sizeOf v
decreasing_by
 all_goals simp_wf
 all_goals first|(have:=y3j x.2;omega)|(show 0<1+(_:Nat);omega)
variable {ρ ρ':Rho}
theorem z3G(cs:Array Value)(f:Value->Value):(cs.attach.map λx=>f x.1)=cs.map f:=by simp
theorem z0a(a:Addr):ren ρ (.pointer (some a))=.pointer (some (renA ρ a)):=by rw[ren]
theorem z09(a:Addr)(l c:Nat):ren ρ (.slice (some a) l c)=.slice (some (renA ρ a)) l (capOf ρ a c):=by rw[ren]
theorem z1G(r:Nat):ren ρ (.map (some r))=.map (some (pl ρ r).blk):=by rw[ren]
theorem z14(fn:Fn)(f c:Array Value):ren ρ (.func fn f c)=.func (renFn ρ fn) (f.map (ren ρ)) (c.map (ren ρ)):=by rw[ren,z3G,z3G]
theorem z2H(t:TypeId)(v:Value):ren ρ (.iface t v)=.iface t (ren ρ v):=by rw[ren]
theorem z1r(cs:Array Value):ren ρ (.agg cs)=.agg (cs.map (ren ρ)):=by rw[ren,z3G]
theorem z0Q(cs:Array Value):ren ρ (.tuple cs)=.tuple (cs.map (ren ρ)):=by rw[ren,z3G]
theorem z0D(b:Bool):ren ρ (.bool b)=.bool b:=by rw[ren]<;>simp
theorem z0x(k:IntKind)(n:Int):ren ρ (.int k n)=.int k n:=by rw[ren]<;>simp
theorem z0O(s:ByteArray):ren ρ (.string s)=.string s:=by rw[ren]<;>simp
theorem z2I(k:FloatKind)(n:Nat):ren ρ (.float k n)=.float k n:=by rw[ren]<;>simp
theorem z1U(k:FloatKind)(n m:Nat):ren ρ (.complex k n m)=.complex k n m:=by rw[ren]<;>simp
theorem z1j:ren ρ (.pointer none)=.pointer none:=by rw[ren]<;>simp
theorem z0E(l c:Nat):ren ρ (.slice none l c)=.slice none l c:=by rw[ren]<;>simp
theorem z1Y:ren ρ (.map none)=.map none:=by rw[ren]<;>simp
theorem z2W:ren ρ .nilFunc=.nilFunc:=by rw[ren]<;>simp
theorem z3H:ren ρ .nilIface=.nilIface:=by rw[ren]<;>simp
theorem z3I(c:Option Nat):ren ρ (.chan c)=.chan c:=by rw[ren]<;>simp
theorem z1s:ren ρ z0b=z0b:=by rw[z0b,z0Q];simp
theorem z0i(a:Addr):okv ρ (.pointer (some a))↔okA ρ a:=by rw[okv]
theorem z15(a:Addr)(l c:Nat):okv ρ (.slice (some a) l c)↔(okA ρ a/\(opn<=c->opn<c/\l*(c-opn)<=(pl ρ a.block).lim-a.off/\l<opn))\/isRaw a l c:=by rw[okv]
theorem z23{a:Addr}{l c:Nat}(h:okA ρ a)(k:opn<=c->opn<c/\l*(c-opn)<=(pl ρ a.block).lim-a.off/\l<opn):okv ρ (.slice (some a) l c):=(z15 a l c).2 (.inl ⟨h,k⟩)
theorem z3J{a:Addr}{l c:Nat}(h:okv ρ (.slice (some a) l c))(hc:0<c\/0<l):okA ρ a/\(opn<=c->opn<c/\l*(c-opn)<=(pl ρ a.block).lim-a.off/\l<opn):=by
 rcases(z15 a l c).1 h with h|⟨_,h1,h2⟩
 .exact h
 .omega
theorem z2X(r:Nat):okv ρ (.map (some r))↔Mapped ρ r:=by rw[okv]
theorem z1H(fn:Fn)(f c:Array Value):okv ρ (.func fn f c)↔okFn ρ fn/\(∀x∈f.toList,okv ρ x)/\(∀x∈c.toList,okv ρ x):=by rw[okv];simp
theorem okv_iface(t:TypeId)(v:Value):okv ρ (.iface t v)↔okv ρ v:=by rw[okv]
theorem z25(cs:Array Value):okv ρ (.agg cs)↔∀x∈cs.toList,okv ρ x/\one x=true:=by rw[okv];simp
theorem z1c(cs:Array Value):okv ρ (.tuple cs)↔∀x∈cs.toList,okv ρ x:=by rw[okv];simp
theorem z1d:okv ρ z0b:=by rw[z0b,z1c];simp
theorem z26(b:Bool):okv ρ (.bool b):=by rw[okv]<;>simp
theorem z1y(k:IntKind)(n:Int):okv ρ (.int k n):=by rw[okv]<;>simp
theorem z3K(s:ByteArray):okv ρ (.string s):=by rw[okv]<;>simp
theorem okv_float(k:FloatKind)(n:Nat):okv ρ (.float k n):=by rw[okv]<;>simp
theorem okv_complex(k:FloatKind)(n m:Nat):okv ρ (.complex k n m):=by rw[okv]<;>simp
theorem okv_pnil:okv ρ (.pointer none):=by rw[okv]<;>simp
theorem z4k(l c:Nat):okv ρ (.slice none l c):=by rw[okv]<;>simp
theorem okv_mnil:okv ρ (.map none):=by rw[okv]<;>simp
theorem okv_cnil:okv ρ (.chan none):=by rw[okv]<;>simp
theorem okv_fnil:okv ρ .nilFunc:=by rw[okv]<;>simp
theorem okv_inil:okv ρ .nilIface:=by rw[okv]<;>simp
end Go.Ax
namespace Go.Ax
def Le(ρ ρ':Rho):Prop:=∀b p,ρ b=some p->ρ' b=some p
variable {ρ ρ' ρ'':Rho}
theorem Le.refl(ρ:Rho):Le ρ ρ:=λ_ _ h=>h
theorem Le.trans(h:Le ρ ρ')(k:Le ρ' ρ''):Le ρ ρ'':=λb p e=>k b p (h b p e)
theorem Mapped.le(h:Le ρ ρ'){b:Nat}(m:Mapped ρ b):Mapped ρ' b:=by
 unfold Mapped at *;cases e:ρ b with
 | none=>rw[e] at m;cases m
 | some p=>rw[h b p e];rfl
theorem pl_le(h:Le ρ ρ'){b:Nat}(m:Mapped ρ b):pl ρ' b=pl ρ b:=by
 unfold Mapped at m;unfold pl;cases e:ρ b with
 | none=>rw[e] at m;cases m
 | some p=>rw[h b p e]
theorem okA.le(h:Le ρ ρ'){a:Addr}(m:okA ρ a):okA ρ' a:=⟨m.1,m.2.le h⟩
theorem renA_le(h:Le ρ ρ'){a:Addr}(m:okA ρ a):renA ρ' a=renA ρ a:=by rw[z46 m.1,z46 m.1,pl_le h m.2]
theorem okFn.le(h:Le ρ ρ'){fn:Fn}(m:okFn ρ fn):okFn ρ' fn:=by cases fn<;>first|trivial|exact Mapped.le h m
theorem renFn_le(h:Le ρ ρ'){fn:Fn}(m:okFn ρ fn):renFn ρ' fn=renFn ρ fn:=by
 cases fn with
 | yield l=>simp only[renFn];rw[pl_le h m]
 | _=>rfl
theorem Value.strong{p:Value->Prop}(h:∀v,(∀u,SizeOf.sizeOf u<SizeOf.sizeOf v->p u)->p v):∀v,p v:=by
 intro v;generalize hn:SizeOf.sizeOf v=n
 induction n using Nat.strongRecOn generalizing v with
 | _ n ih=>exact h v λu hu=>ih _ (hn▸hu) u rfl
theorem sz_mem{cs:Array Value}{x:Value}(h:x∈cs.toList):SizeOf.sizeOf x<SizeOf.sizeOf cs:=y3j (Array.mem_toList_iff.1 h)
theorem mono(h:Le ρ ρ'):∀v,okv ρ v->okv ρ' v/\ren ρ' v=ren ρ v:=by
 apply Value.strong;intro v ih hv;have arr:∀cs:Array Value,SizeOf.sizeOf cs<SizeOf.sizeOf v->(∀x∈cs.toList,okv ρ x)->(∀x∈cs.toList,okv ρ' x)/\cs.map (ren ρ')=cs.map (ren ρ):=by intro cs hs hx;refine⟨λx m=>(ih x (Nat.lt_trans (sz_mem m) hs) (hx x m)).1,?_⟩;apply Array.map_congr_left;intro x m;have m':=Array.mem_toList_iff.2 m;exact(ih x (Nat.lt_trans (sz_mem m') hs) (hx x m')).2
 cases v with
 | bool b=>exact⟨z26 b,by rw[z0D,z0D]⟩
 | int k n=>exact⟨z1y k n,by rw[z0x,z0x]⟩
 | float k n=>exact⟨okv_float k n,by rw[z2I,z2I]⟩
 | complex k n m=>exact⟨okv_complex k n m,by rw[z1U,z1U]⟩
 | string s=>exact⟨z3K s,by rw[z0O,z0O]⟩
 | pointer a=>
  cases a with
  | none=>exact⟨okv_pnil,by rw[z1j,z1j]⟩
  | some a=>
   rw[z0i] at hv;exact⟨(z0i a).2 (hv.le h),by rw[z0a,z0a,renA_le h hv]⟩
 | slice a l c=>
  cases a with
  | none=>exact⟨z4k l c,by rw[z0E,z0E]⟩
  | some a=>
   rcases(z15 a l c).1 hv with hv|hv
   .refine⟨z23 (hv.1.le h) ?_,?_⟩
    .rw[pl_le h hv.1.2];exact hv.2
    .rw[z09,z09,renA_le h hv.1];unfold capOf;rw[pl_le h hv.1.2]
   .refine⟨(z15 a l c).2 (.inr hv),?_⟩;obtain⟨h1,rfl,rfl⟩:=hv;rw[z09,z09];have:renA ρ' a=renA ρ a:=by
     unfold renA;cases hs:a.spot with
     | none=>exact absurd hs h1
     | some k=>rfl
    rw[this];rfl
 | map r=>
  cases r with
  | none=>exact⟨okv_mnil,by rw[z1Y,z1Y]⟩
  | some r=>
   rw[z2X] at hv;exact⟨(z2X r).2 (hv.le h),by rw[z1G,z1G,pl_le h hv]⟩
 | chan r=>
  cases r with
  | none=>exact⟨okv_cnil,by rw[z3I,z3I]⟩
  | some r=>rw[okv] at hv;exact hv.elim
 | func fn f c=>
  rw[z1H] at hv;have hf:=arr f (by simp;omega) hv.2.1;have hc:=arr c (by simp;omega) hv.2.2;exact⟨(z1H fn f c).2 ⟨hv.1.le h,hf.1,hc.1⟩,by rw[z14,z14,hf.2,hc.2,renFn_le h hv.1]⟩
 | nilFunc=>exact⟨okv_fnil,by rw[z2W,z2W]⟩
 | iface t u=>
  rw[okv_iface] at hv;have hu:=ih u (by simp;exact Nat.add_pos_left Nat.one_pos _) hv;exact⟨(okv_iface t u).2 hu.1,by rw[z2H,z2H,hu.2]⟩
 | nilIface=>exact⟨okv_inil,by rw[z3H,z3H]⟩
 | agg cs=>
  rw[z25] at hv;have hc:=arr cs (by simp) λx m=>(hv x m).1;exact⟨(z25 cs).2 λx m=>⟨hc.1 x m,(hv x m).2⟩,by rw[z1r,z1r,hc.2]⟩
 | tuple cs=>
  rw[z1c] at hv;have hc:=arr cs (by simp) hv;exact⟨(z1c cs).2 hc.1,by rw[z0Q,z0Q,hc.2]⟩
theorem okv.le(h:Le ρ ρ'){v:Value}(hv:okv ρ v):okv ρ' v:=(mono h v hv).1
theorem z3d(h:Le ρ ρ'){v:Value}(hv:okv ρ v):ren ρ' v=ren ρ v:=(mono h v hv).2
theorem z1e{v:Value}(h:scalar v=true):ren ρ v=v/\okv ρ v/\one v=true:=by
 cases v with
 | bool b=>exact⟨z0D b,z26 b,rfl⟩
 | int k n=>exact⟨z0x k n,z1y k n,rfl⟩
 | float k n=>exact⟨z2I k n,okv_float k n,rfl⟩
 | complex k n m=>exact⟨z1U k n m,okv_complex k n m,rfl⟩
 | string s=>exact⟨z0O s,z3K s,rfl⟩
 | pointer a=>cases a with
  | none=>exact⟨z1j,okv_pnil,rfl⟩
  | some a=>simp[scalar] at h
 | slice a l c=>cases a with
  | none=>exact⟨z0E l c,z4k l c,rfl⟩
  | some a=>simp[scalar] at h
 | map r=>cases r with
  | none=>exact⟨z1Y,okv_mnil,rfl⟩
  | some r=>simp[scalar] at h
 | chan r=>cases r with
  | none=>exact⟨z3I none,okv_cnil,rfl⟩
  | some r=>simp[scalar] at h
 | func fn f c=>simp[scalar] at h
 | nilFunc=>exact⟨z2W,okv_fnil,rfl⟩
 | iface t u=>simp[scalar] at h
 | nilIface=>exact⟨z3H,okv_inil,rfl⟩
 | agg cs=>simp[scalar] at h
 | tuple cs=>simp[scalar] at h
theorem z1f{l:List Value}(h:∀x∈l,ren ρ x=x):l.map (ren ρ)=l:=by
 induction l with
 | nil=>rfl
 | cons a l ih=>
  simp only[y0p];rw[h a (by simp),ih λx m=>h x (by simp[m])]
theorem z0h{v:Value}(h:plain v=true):ren ρ v=v/\okv ρ v:=by
 cases v with
 | agg cs=>
  have h':∀x∈cs.toList,scalar x=true:=y0j.1 h;refine⟨?_,(z25 cs).2 λx m=>⟨(z1e (h' x m)).2.1,(z1e (ρ:=ρ) (h' x m)).2.2⟩⟩;rw[z1r];congr 1;apply y0m.1;rw[y1c];exact z1f λx m=>(z1e (h' x m)).1
 | _=>exact⟨(z1e (by simpa[plain] using h)).1,(z1e (by simpa[plain] using h)).2.1⟩
theorem one_ren(v:Value):one (ren ρ v)=one v:=by
 cases v with
 | bool b=>rw[z0D]
 | int k n=>rw[z0x]
 | float k n=>rw[z2I]
 | complex k n m=>rw[z1U]
 | string s=>rw[z0O]
 | pointer a=>cases a<;>simp[z1j,z0a,one]
 | slice a l c=>cases a<;>simp[z0E,z09,one]
 | map r=>cases r<;>simp[z1Y,z1G,one]
 | chan r=>rw[z3I]
 | func fn f c=>rw[z14];rfl
 | nilFunc=>rw[z2W]
 | iface t u=>rw[z2H];rfl
 | nilIface=>rw[z3H]
 | agg cs=>rw[z1r];rfl
 | tuple cs=>rw[z0Q];rfl
theorem z0H{v:Value}(h:∀cs,v≠.agg cs):vcells v=[v]:=by cases v<;>first|rfl|exact absurd rfl (h _)
theorem vcells_agg(cs:Array Value):vcells (.agg cs)=cs.toList:=rfl
theorem ren_ne_agg{v:Value}(h:∀cs,v≠.agg cs):∀cs,ren ρ v≠.agg cs:=by
 intro ds e;cases v with
 | bool b=>rw[z0D] at e;cases e
 | int k n=>rw[z0x] at e;cases e
 | float k n=>rw[z2I] at e;cases e
 | complex k n m=>rw[z1U] at e;cases e
 | string s=>rw[z0O] at e;cases e
 | pointer a=>cases a<;>simp[z1j,z0a] at e
 | slice a l c=>cases a<;>simp[z0E,z09] at e
 | map r=>cases r<;>simp[z1Y,z1G] at e
 | chan r=>rw[z3I] at e;cases e
 | func fn f c=>rw[z14] at e;cases e
 | nilFunc=>rw[z2W] at e;cases e
 | iface t u=>rw[z2H] at e;cases e
 | nilIface=>rw[z3H] at e;cases e
 | agg cs=>exact h cs rfl
 | tuple cs=>rw[z0Q] at e;cases e
theorem z2J(v:Value):vcells (ren ρ v)=(vcells v).map (ren ρ):=by
 by_cases h:∃cs,v=.agg cs
 .obtain⟨cs,rfl⟩:=h;rw[z1r,vcells_agg,vcells_agg,y1c]
 .have h':∀cs,v≠.agg cs:=λcs e=>h ⟨cs,e⟩;rw[z0H h',z0H (ren_ne_agg h')];rfl
theorem z1k(v:Value):v.cells.toList=vcells v:=by cases v<;>rfl
def renE(ρ:Rho)(e:MapEntry):MapEntry:={ e with val:=ren ρ e.val }
def LState:Nat->LoopState
 | 0=>.ready
 | 1=>.busy
 | 2=>.done
 | _=>.exhausted
def TRel(ρ:Rho)(N:Nat)(T:Tm)(ts:Array Value):Prop:=ts.size=N/\∀i,i<N->ts[i]?=some (ren ρ (T.get i))/\okv ρ (T.get i)
def LRel(P:Program)(ρ:Rho)(r:LoopR Tm)(L:Loop):Prop:=
 L.state=LState r.busy/\L.pending=r.pend/\(∃fn,P.funcs[r.fn]?=some fn/\TRel ρ fn.ntmps r.tm L.tmps)/\L.params=r.params.toArray/\L.assign=r.assign/\L.body=r.body
def BRel(P:Program)(ρ:Rho)(p:Pl):Blk->Option Obj->Prop
 | .cells cs e g,o=>∃(C:Array Value) (ce:{t:TypeId // e≠0->t=e}) (fr:Nat × Nat),o=some (.cells C ce fr)/\(∀i,i<p.lim->¬(fr.1<=p.off+i/\p.off+i<fr.2))/\p.off+p.lim=C.size/\cs.length<=p.lim /\
   (g=false->cs.length=p.lim/\p.off=0)/\∀i v,cs[i]?=some v->C[p.off+i]?=some (ren ρ v)/\okv ρ v/\one v=true
 | .map es clock,o=>o=some (.map (es.map (renE ρ)).toArray clock)/\∀e∈es,plain e.key=true/\okv ρ e.val
 | .iter s pos,o=>o=some (.stringIter s pos)/\p.off=0
 | .loop r,o=>∃L,o=some (.loop L)/\LRel P ρ r L
 | .view cs,o=>∃C e fr,o=some (.cells C e fr)/\∀i v,cs[i]?=some v->C[p.off+i]?=some (ren ρ v)/\okv ρ v/\one v=true
structure Rel (P:Program) (ρ:Rho) (H:Hp) (w:World):Prop where
 lt:∀b p,ρ b=some p->b<H.n/\p.blk<w.heap.size/\0<p.sz
 fresh:∀b,H.n<=b->H.get b=none
 blk:∀b p x,ρ b=some p->H.get b=some x->BRel P ρ p x w.heap[p.blk]?
 inj:∀b c p q x y,ρ b=some p->ρ c=some q->H.get b=some x->H.get c=some y->p.blk=q.blk->b=c\/(x.vw=true/\y.vw=true)
structure Ext (ρ:Rho) (H:Hp) (w:World) (ρ':Rho) (H':Hp) (w':World):Prop where
 le:Le ρ ρ'
 n:H.n<=H'.n
 old:∀b,b<H.n->ρ b=none->ρ' b=none/\H'.get b=H.get b
 dead:∀b,b<H.n->H.get b=none->H'.get b=none
 size:w.heap.size<=w'.heap.size
 new:∀b p x,ρ' b=some p->H'.get b=some x->w.heap.size<=p.blk\/∃c q y,ρ c=some q/\H.get c=some y/\q.blk=p.blk/\y.vw=x.vw
 cfr:∀B,B<w.heap.size->(∀b p x,ρ b=some p->H.get b=some x->x.vw=false->p.blk≠B)->w'.heap[B]?=w.heap[B]?
 kind:∀(B:Nat) (C:Array Value) (e:TypeId) (fr:Nat × Nat),w.heap[B]?=some (Obj.cells C e fr)->∃(C':Array Value) (fr':Nat × Nat),w'.heap[B]?=some (Obj.cells C' e fr')/\C'.size=C.size
 os:w'.os=w.os/\w'.output=w.output
theorem Ext.refl(ρ:Rho)(H:Hp)(w:World):Ext ρ H w ρ H w:=
 ⟨.refl ρ,y03 _,λ_ _ h=>⟨h,rfl⟩,λ_ _ h=>h,y03 _,λb p x h k=>.inr ⟨b,p,x,h,k,rfl,rfl⟩,λ_ _ _=>rfl,λ_ C _ f h=>⟨C,f,h,rfl⟩,rfl,rfl⟩
theorem Ext.trans{H H' H'':Hp}{w w' w'':World}(a:Ext ρ H w ρ' H' w')(b:Ext ρ' H' w' ρ'' H'' w''):Ext ρ H w ρ'' H'' w'' where
 le:=a.le.trans b.le
 n:=y0r a.n b.n
 old c hc h:=by obtain⟨h1,h2⟩:=a.old c hc h;obtain⟨h3,h4⟩:=b.old c (y0f hc a.n) h1;exact⟨h3,h4.trans h2⟩
 dead c hc h:=b.dead c (y0f hc a.n) (a.dead c hc h)
 size:=y0r a.size b.size
 new c p x h k:=by
  rcases b.new c p x h k with h1|⟨d,q,y,h1,h2,h3,hv⟩
  .exact .inl (y0r a.size h1)
  .rcases a.new d q y h1 h2 with h4|⟨e,r,z,h4,h5,h6,hw⟩
   .exact .inl (h3▸h4)
   .exact .inr ⟨e,r,z,h4,h5,h6.trans h3,hw.trans hv⟩
 cfr B hB h:=by
  rw[b.cfr B (y0f hB a.size) ?_,a.cfr B hB h];intro c p x h1 h2 hv h3;rcases a.new c p x h1 h2 with h4|⟨e,r,z,h4,h5,h6,hw⟩
  .omega
  .exact h e r z h4 h5 (hw.trans hv) (h6.trans h3)
 kind B C e fr h:=by obtain⟨C1,f1,h1,h2⟩:=a.kind B C e fr h;obtain⟨C2,f2,h3,h4⟩:=b.kind B C1 e f1 h1;exact⟨C2,f2,h3,h4.trans h2⟩
 os:=⟨b.os.1.trans a.os.1,b.os.2.trans a.os.2⟩
theorem TRel.le{N:Nat}{T:Tm}{ts:Array Value}(h:TRel ρ N T ts)(l:Le ρ ρ'):TRel ρ' N T ts:=
 ⟨h.1,λi hi=>⟨by rw[z3d l (h.2 i hi).2];exact(h.2 i hi).1,(h.2 i hi).2.le l⟩⟩
theorem TRel.put{N:Nat}{T:Tm}{ts:Array Value}(h:TRel ρ N T ts){d:Nat}{v:Value}(hd:d<N)(hv:okv ρ v):TRel ρ N (T.put d v) (ts.setIfInBounds d (ren ρ v)):=by
 refine⟨by simp[h.1],λi hi=>?_⟩;rw[Tm.get_put];by_cases e:d=i
 .subst e;rw[if_pos rfl];exact⟨by simp[h.1,hi],hv⟩
 .rw[if_neg e];exact⟨by rw[y0g e];exact(h.2 i hi).1,(h.2 i hi).2⟩
theorem LRel.le{P:Program}{r:LoopR Tm}{L:Loop}(h:LRel P ρ r L)(l:Le ρ ρ'):LRel P ρ' r L:=
 ⟨h.1,h.2.1,(let ⟨fn,a,b⟩:=h.2.2.1;⟨fn,a,b.le l⟩),h.2.2.2⟩
theorem renE_le(l:Le ρ ρ'){es:List MapEntry}(h:∀e∈es,plain e.key=true/\okv ρ e.val):es.map (renE ρ')=es.map (renE ρ):=by apply y1m;intro e m;unfold renE;rw[z3d l (h e m).2]
theorem BRel.le{P:Program}{p:Pl}{x:Blk}{o:Option Obj}(h:BRel P ρ p x o)(l:Le ρ ρ'):BRel P ρ' p x o:=by
 cases x with
 | cells cs e g=>
  obtain⟨C,ce,fr,h1,h2,h3,h4,h5,h6⟩:=h;exact⟨C,ce,fr,h1,h2,h3,h4,h5,λi v hv=>⟨by rw[z3d l (h6 i v hv).2.1];exact(h6 i v hv).1,(h6 i v hv).2.1.le l,(h6 i v hv).2.2⟩⟩
 | map es clock=>
  obtain⟨h1,h2⟩:=h;exact⟨by rw[renE_le l h2];exact h1,λe m=>⟨(h2 e m).1,(h2 e m).2.le l⟩⟩
 | iter s pos=>exact h
 | loop r=>obtain⟨L,h1,h2⟩:=h;exact⟨L,h1,h2.le l⟩
 | view cs=>
  obtain⟨C,ce,fr,h1,h6⟩:=h;exact⟨C,ce,fr,h1,λi v hv=>⟨by rw[z3d l (h6 i v hv).2.1];exact(h6 i v hv).1,(h6 i v hv).2.1.le l,(h6 i v hv).2.2⟩⟩
end Go.Ax
