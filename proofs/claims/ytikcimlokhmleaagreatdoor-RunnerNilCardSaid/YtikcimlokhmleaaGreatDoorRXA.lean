/-
  A small calculus of our own over the program's form: the state is the heap alone; operations with their types resolved. Definitions.
  The simplified code, made from the program's code by a function: types resolved, regions in one order. Definitions.
  The simplified operations are sound, one by one: what the model does at each.
  The simplified operations are sound, one by one, in whatever frame that knows the operands.
  The simplified operations are sound, one by one: memory, numbers, tests.
  The simplified operations are sound, one by one: pointers, structs, slices, maps, append.
  The simplified operations are sound, one by one: structs compared, slices cut, maps.
  The simplified operations are sound: append.
  The simplified operations are sound: arrays by index, cuts of arrays, shifts by a number, types asked, two interface values, panics, bytes, ranges over maps.
  What an operation reads; that the quiet ones may as well come later.
  Operations and regions, soundly: one operation, a list of them, a region that draws its order.
  Regions: the operations of a region that draws its order, done in ours.
  Regions, soundly: the operations of a region that draws its order may be done in ours.
  The predicate transformer over the simplified code, and that it is sound.
-/
import Derived.OrdersIn
import Derived.RangeFuncIn
import Derived.DefersIn
import Derived.KernelRfl
import Derived.Laws.Cells
import Derived.Laws.CopyRow
import Derived.Laws.StructEq
import Derived.Laws.Small
import Derived.Laws.MakeOwn
import Derived.Laws.AppendOwn
import Derived.Laws.BytesArg
import Derived.Lib.Builder
import Derived.Lib.UnsafeStr
import Derived.Lib.ConvBytes
import Derived.RangeFuncBox
import Derived.RangeFuncLeaves
set_option linter.unusedSimpArgs false
set_option linter.unusedVariables false
theorem Go.Ai {a b : Prop} (x : a) (y : b) : a ∧ b := ⟨x, y⟩
theorem Go.Ei {α : Sort _} {p : α → Prop} (w : α) (h : p w) : ∃ x, p x := ⟨w, h⟩
namespace Go.Sx
open Go
abbrev Heap:=Array Obj
def cell (h:Heap) (b o:Nat):Option Value:=
 match h[b]? with
 |some (.cells c _ _)=>c[o]?
 |_=>none
def Cells (h:Heap) (b o:Nat) (vs:List Value):Prop:=∀i v,vs[i]? =some v→cell h b (o+i)=some v
def Src (h:Heap) (a:Option Addr) (n:Nat) (xs:List Value):Prop:=
 match a with
 |none=>n=0
 |some ⟨b,o,none⟩=>Cells h b o xs
 |some ⟨_,_,some _⟩=>n=0
def Src0 (h:Heap) (a:Option Addr) (n:Nat) (xs:List Value):Prop:=
 match a with
 |none=>n=0
 |some ⟨b,o,none⟩=>Cells h b o xs
 |_=>False
def Blk (h:Heap) (b:Nat) (l:List Value):Prop:=∃e,h[b]? =some (.cells ⟨l⟩ e (0,0))
def MapB (h:Heap) (b:Nat) (es:List MapEntry) (clock:Nat):Prop:=h[b]? =some (.map ⟨es⟩ clock)
structure Chg (S:List Nat) (h h':Heap):Prop where
 size:h.size≤h'.size
 old:∀k,k<h.size→k∉S→h'[k]? =h[k]?
structure Grow (h h':Heap) (b:Nat) (l:List Value):Prop where
 id:b=h.size
 blk:Blk h' b l
 size:h'.size=h.size+1
 old:∀k,k<h.size→h'[k]? =h[k]?
structure GrowO (h h':Heap) (b:Nat) (o:Obj):Prop where
 id:b=h.size
 blk:h'[b]? =some o
 size:h'.size=h.size+1
 old:∀k,k<h.size→h'[k]? =h[k]?
def TyB (h:Heap) (b:Nat) (t:TypeId):Prop:=∃c k,h[b]? =some (.cells c t k)
structure Put (h h':Heap) (b:Nat) (l:List Value):Prop where
 blk:Blk h' b l
 size:h'.size=h.size
 old:∀k,k≠b→h'[k]? =h[k]?
 ty:∀t,TyB h b t→TyB h' b t
structure PutO (h h':Heap) (b:Nat) (o:Obj):Prop where
 blk:h'[b]? =some o
 size:h'.size=h.size
 old:∀k,k≠b→h'[k]? =h[k]?
def BlkW (h:Heap) (b:Nat) (l:List Value):Prop:=∃e k,h[b]? =some (.cells ⟨l⟩ e k)∧(k=(0,0)∨k=(l.length,l.length+1))
structure GrowW (h h':Heap) (b:Nat) (l:List Value):Prop where
 id:b=h.size
 blk:BlkW h' b l
 size:h'.size=h.size+1
 old:∀k,k<h.size→h'[k]? =h[k]?
structure PutW (h h':Heap) (b:Nat) (l:List Value):Prop where
 blk:BlkW h' b l
 size:h'.size=h.size
 old:∀k,k≠b→h'[k]? =h[k]?
 ty:∀t,TyB h b t→TyB h' b t
def splice:List Value→Nat→List Value→List Value
 |l,_,[]=>l
 |[],_,_::_=>[]
 |_::l,0,v::vs=>v::splice l 0 vs
 |x::l,n+1,v::vs=>x::splice l n (v::vs)
abbrev Env:=Nat→Option Value
def upd (σ:Env) (d:Option Nat) (v:Value):Env:=
 match d with
 |none=>σ
 |some d=>fun t=>bif Nat.beq t d then some v else σ t
def ev (σ:Env):Operand→Option Value
 |.tmp t=>σ t
 |.const v=>some v
 |.global g=>some (.pointer (some ⟨g,0,none⟩))
 |.func f=>some (.func (.func f) #[] #[])
def evs (σ:Env):List Operand→Option (List Value)
 |[]=>some []
 |x::xs=>match ev σ x,evs σ xs with
  |some v,some vs=>some (v::vs)
  |_,_=>none
def Sub (E σ:Env):Prop:=∀t v,E t=some v→σ t=some v
inductive Kd where
 |int (k:IntKind)|str|bool
 deriving DecidableEq
def Kd.type:Kd→TypeDesc
 |.int k=>.int k
 |.str=>.string
 |.bool=>.bool
inductive SOp where
 |mv (x:Operand)
 |pick (c a b:Operand)
 |new (z:List Value)
 |box (x:Operand)
 |build (z:List Value) (ps:List (Nat×Nat)) (xs:List Operand)
 |bslice (z:List Value) (n:Nat) (ps:List (Nat×Nat)) (xs:List Operand)
 |ld1 (x:Operand)
 |ldn (n:Nat) (x:Operand)
 |st (n:Nat) (x v:Operand)
 |nilck (x:Operand)
 |ar (op:BinOp) (x y:Operand)
 |bit (op:BinOp) (x y:Operand)
 |cmp (op:BinOp) (x y:Operand)
 |cat (x y:Operand)
 |eqp (neg:Bool) (x y:Operand)
 |eqn (kd:Nat) (neg:Bool) (x:Operand)
 |eqa (neg:Bool) (ks:List Kd) (x y:Operand)
 |un (op:UnOp) (x:Operand)
 |fa (off:Nat) (x:Operand)
 |fl1 (off:Nat) (x:Operand)
 |fln (off n:Nat) (x:Operand)
 |ixa (len size:Nat) (x i:Operand)
 |ixs (size:Nat) (x i:Operand)
 |ixc (x i:Operand)
 |slc (size:Nat) (x:Operand) (lo hi:Option Operand)
 |sls (x:Operand) (lo hi:Option Operand)
 |len (x:Operand)
 |lenm (x:Operand)
 |mks (bytes:Nat) (z:List Value) (x y:Operand)
 |mkm
 |look (kd:Kd) (zero:Value) (ok:Bool) (m k:Operand)
 |mup (kd:Kd) (m k v:Operand)
 |mdel (kd:Kd) (m k:Operand)
 |call (f:Nat) (xs:List Operand)
 |callv (x:Operand) (xs:List Operand)
 |callq (f:Nat) (xs:List Operand)
 |callvq (x:Operand) (xs:List Operand)
 |sh (k:IntKind) (left:Bool) (n:Nat) (x:Operand)
 |cmpb (neg:Bool) (x y:Operand)
 |lens (x:Operand)
 |cvs (x:Operand)
 |bstr (x:Operand)
 |quo (x y:Operand)
 |rem (x y:Operand)
 |app (size bytes:Nat) (z:List Value) (x y:Operand)
 |ext (x:Operand) (i:Nat)
 |fn (f:Nat) (first cap:List Operand)
 |cvt (k:IntKind) (x:Operand)
 |mn (x y:Operand)
 |mx (x y:Operand)
 |mki (t:TypeId) (x:Operand)
 |capc (x:Operand)
 |slc3 (size:Nat) (x:Operand) (lo:Option Operand) (hi mx:Operand)
 |cpy (size:Nat) (x y:Operand)
 |clr (z:List Value) (x:Operand)
 |appz (size bytes:Nat) (z:List Value) (x y:Operand)
 |callx (f:Nat) (xs:List Operand)
 |appn (size bytes:Nat) (z:List Value) (y:Operand)
 |ixv (n size:Nat) (x i:Operand)
 |slp (n size:Nat) (x:Operand) (lo hi:Option Operand)
 |shv (k:IntKind) (left:Bool) (x y:Operand)
 |tas (t:TypeId) (zero:Value) (ok:Bool) (x:Operand)
 |eqi (neg:Bool) (x y:Operand)
 |pan (x:Operand)
 |byts (x:Operand)
 |stb (x v:Operand)
 |cpyb (x y:Operand)
 |appb (e:TypeId) (x y:Operand)
 |rng (x:Operand)
 |nxt (x:Operand)
 |ent (x:Operand)
 |cvm (x:Operand)
 |ixw (n size:Nat) (x i:Operand)
 |clrm (x:Operand)
 |newT (t:TypeId) (z:List Value)
 |p2u (x:Operand)
 |u2p (t:TypeId) (n:Nat) (x:Operand)
 |sld (x:Operand)
 |ust (e:TypeId) (x n:Operand)
 |rngs (x:Operand)
 |nxts (x:Operand)
structure SOper where
 dst:Option Nat
 guard:Option (Nat×Bool)
 op:SOp
inductive OTree where
 |done
 |one (s:SOper) (t:OTree)
 |both (a b:OTree)
 |chk (l:List SOper) (t:OTree)
inductive SCode where
 |skip
 |ops (l:List SOper)
 |two (pre l1 l2:List SOper)
 |seq (a b:SCode)
 |cond (c:Operand) (a b:SCode)
 |block (id:Nat) (c:SCode)
 |loop (c:SCode)
 |scope (c:SCode)
 |exit (id:Nat)
 |ret
 |rangeF (g:Operand) (ps:List Nat) (assign body:SCode)
 |dfr (l:List SOper) (dst:Option Nat) (x:Operand) (args:List Operand)
 |rcv (dst:Option Nat)
 |tree (l:List Nat) (t:OTree)
 |label (l:Nat)
 |goto (l:Nat)
 |scopeG (c:SCode) (l:Nat) (rest:SCode)
def arith (op:BinOp) (k:IntKind) (a b:Int):Int:=
 match op with
 |.add=>k.wrap (a+b)
 |.sub=>k.wrap (a-b)
 |_=>k.wrap (a*b)
def bitw (op:BinOp) (k:IntKind) (a b:Int):Int:=
 let x:=BitVec.ofInt k.bits a
 let y:=BitVec.ofInt k.bits b
 match op with
 |.and=>k.wrap (x&&&y).toNat
 |.or=>k.wrap (x|||y).toNat
 |.xor=>k.wrap (x ^^^ y).toNat
 |_=>k.wrap (x&&& ~~~y).toNat
def ones (k:IntKind):Int:=if k.signed then -1 else k.max
def sless (a b:ByteArray):Bool:=Op.bytesLess a.toList b.toList
def either (p:Prop) (K:Value→Heap→Prop) (h:Heap):Prop:=(p→K (.bool true) h)∧(¬p→K (.bool false) h)
def fits:Kd→Value→Bool
 |.int k,.int k' _=>decide (k=k')
 |.str,.string _=>true
 |.bool,.bool _=>true
 |_,_=>false
def fitsAll:List Kd→List Value→Bool
 |[],[]=>true
 |k::ks,v::vs=>fits k v&&fitsAll ks vs
 |_,_=>false
def fillL (z:List Value):List (Nat×Nat)→List Value→Option (List Value)
 |(off,n)::ps,v::vs=>
  if v.cells.toList.length=n∧off+n≤z.length then fillL (splice z off v.cells.toList) ps vs else none
 |[],[]=>some z
 |_,_=>none
def nilTest:Nat→Value→Option Bool
 |0,.pointer a=>some a.isNone
 |1,.slice a _ _=>some a.isNone
 |2,.map a=>some a.isNone
 |3,.func _ _ _=>some false
 |3,.nilFunc=>some true
 |4,.nilIface=>some true
 |4,.iface _ _=>some false
 |_,_=>none
def bndOf (σ:Env) (x:Option Operand) (dflt:Nat):Option Int:=
 match x with
 |none=>some dflt
 |some x=>match ev σ x with
  |some (.int _ n)=>some n
  |_=>none
def okFn (P:Program) (f:Nat):Bool:=
 match P.funcs[f]? with
 |some fn=>fn.name != "runtime.NumGoroutine" &&fn.body.isSome
 |none=>false
def CallsH (P:Program) (f:Nat) (args:List Value) (h:Heap) (R:Ending→Heap→Prop):Prop:=
 okFn P f=true∧∀w:World,w.heap=h→Calls P f ⟨args⟩ w fun e w'=>R e w'.heap∧e≠.outgrown∧w'.os=w.os∧w'.output=w.output∧w'.tape=w.tape
def YieldH (P:Program) (l:Nat) (args:List Value) (h:Heap) (R:Ending→Heap→Prop):Prop:=
 ∀w:World,w.heap=h→∃fn tmps assign body,(Instr.yield l ⟨args⟩).run P w=.ok (.round l fn tmps assign body) w∧
  RoundIn Fence.wide 0 P l fn tmps assign body w fun e w'=>R e w'.heap∧e≠.outgrown∧w'.os=w.os∧w'.output=w.output∧w'.tape=w.tape
def Ext (h h':Heap):Prop:=∀k,k<h.size→h'[k]? =h[k]?
def after (K:Value→Heap→Prop) (Qp:List PanicEntry→Heap→Prop):Ending→Heap→Prop
 |.returned v,h=>K v h
 |.panicked ch,h=>Qp ch h
 |.outgrown,_=>False
def mfind (k:Value):List MapEntry→Nat→Option (Nat×Value)
 |[],_=>none
 |e::es,i=>if Instr.sameBits 10000 k e.key then some (i,e.val)else mfind k es (i+1)
def appIn (h:Heap) (K:Value→Heap→Prop) (size:Nat) (a:Option Addr) (n c m:Nat) (ys:List Value):Prop:=
 match a with
 |none=>K (.slice none (n+m) c) h
 |some ⟨b,o,none⟩=>∃l,Blk h b l∧o+(n+m)*size≤l.length∧∀h',Put h h' b (splice l (o+n*size) ys)→K (.slice (some ⟨b,o,none⟩) (n+m) c) h'
 |_=>False
def appP (h:Heap) (K:Value→Heap→Prop) (size bytes:Nat) (z:List Value) (a:Option Addr) (n c:Nat) (a':Option Addr) (m:Nat):Prop:=
 ∃xs ys,xs.length=n*size∧ys.length=m*size∧Src h a n xs∧Src h a' m ys∧(∀u∈ys,u.oneCell'=true)∧
  (n+m≤c→appIn h K size a n c m ys)∧
  (c<n+m→((n+m)*2+768)*bytes≤281474976710656∧
   ∀c' b h',n+m≤c'→Grow h h' b (xs++ys++(List.replicate (c'-(n+m)) z).flatten)→K (.slice (some ⟨b,0,none⟩) (n+m) c') h')
def wrP (h:Heap) (K:Heap→Prop) (a:Option Addr) (ys:List Value):Prop:=
 (ys=[]→K h)∧(ys≠[]→match a with
  |some ⟨b,o,none⟩=>∃l,Blk h b l∧o+ys.length≤l.length∧(∀u∈ys,u.oneCell'=true)∧∀h',Put h h' b (splice l o ys)→K h'
  |_=>False)
def appzP (h:Heap) (K:Value→Heap→Prop) (size bytes:Nat) (z:List Value) (a:Option Addr) (n c m:Nat):Prop:=
 ∃xs,xs.length=n*size∧Src h a n xs∧c<n+m∧((n+m)*2+768)*bytes≤281474976710656∧
  ∀c' b h',n+m≤c'→Grow h h' b (xs++(List.replicate m z).flatten++(List.replicate (c'-(n+m)) z).flatten)→K (.slice (some ⟨b,0,none⟩) (n+m) c') h'
def ExtH (P:Program) (f:Nat) (args:List Value) (h:Heap) (R:Value→Heap→Prop):Prop:=
 ∀w:World,w.heap=h→∃v w',(callFunc f ⟨args⟩).run P w=.ok (.value v) w'∧R v w'.heap∧w'.os=w.os∧w'.output=w.output∧w'.tape=w.tape
def slcR (K:Value→Heap→Prop) (h:Heap) (size:Nat) (a:Option Addr) (c:Nat) (l m:Int):Prop:=
 match a with
 |none=>K (.slice none (m-l).toNat (c-l).toNat) h
 |some ⟨b,o,none⟩=>∀o',(l<c→o'=o+l.toNat*size)→(c=l→o'=o)→K (.slice (some ⟨b,o',none⟩) (m-l).toNat (c-l).toNat) h
 |some ⟨b,o,some s⟩=>l=0∧K (.slice (some ⟨b,o,some s⟩) (m-l).toNat (c-l).toNat) h
def byteCells (s:ByteArray):List Value:=s.data.toList.map fun b=>.int .u8 b.toNat
def lenB:Value→Option Nat
 |.slice _ m _=>some m
 |.string s=>some s.size
 |_=>none
def SrcB (h:Heap) (v:Value) (n:Nat) (ys:List Value):Prop:=
 match v with
 |.slice a _ _=>ys.length=n∧Src h a n ys
 |.string s=>ys=(byteCells s).take n∧n≤s.size
 |_=>False
def wrB (h:Heap) (K:Heap→Prop) (a:Option Addr) (ys:List Value):Prop:=
 (ys=[]→K h)∧(ys≠[]→match a with
  |some ⟨b,o,none⟩=>∃l,BlkW h b l∧o+ys.length≤l.length∧(∀u∈ys,u.oneCell'=true)∧∀h',PutW h h' b (splice l o ys)→K h'
  |_=>False)
def appbP (h:Heap) (K:Value→Heap→Prop) (e:TypeId) (a:Option Addr) (n c:Nat) (v:Value) (m:Nat):Prop:=
 ∃xs ys,xs.length=n∧ys.length=m∧Src h a n xs∧SrcB h v m ys∧(∀u∈ys,u.oneCell'=true)∧
  (n+m≤c→match a with
   |none=>K (.slice none (n+m) c) h
   |some ⟨b,o,none⟩=>∃l,BlkW h b l∧o+(n+m)≤l.length∧∀h',PutW h h' b (splice l (o+n) ys)→K (.slice (some ⟨b,o,none⟩) (n+m) c) h'
   |_=>False)∧
  (c<n+m→(n+m)*2+768≤281474976710656∧
   ∀c' b h',n+m≤c'→Grow h h' b (xs++ys++List.replicate (c'-(n+m)) (.int .u8 0))→TyB h' b e→K (.slice (some ⟨b,0,none⟩) (n+m) c') h')
def kdE (P:Program) (t:TypeId):Option Kd:=
 match P.info? t with
 |some i=>match i.comparable,P.underlying t with
  |true,some (.int k)=>some (.int k)
  |true,some .string=>some .str
  |true,some .bool=>some .bool
  |_,_=>none
 |none=>none
def nxtP (h:Heap) (K:Value→Heap→Prop) (r:Nat):Prop:=
 (∃since seen last,h[r]? =some (.mapIter none since seen last)∧K (.tuple #[.bool false]) h)∨
 (∃(m since:Nat) (seen:Array Nat) (last:Nat) (es:List MapEntry) (clock:Nat),h[r]? =some (.mapIter (some m) since seen last)∧MapB h m es clock∧(∀e∈es,e.born<since)∧(seen= #[]∨es=[]∨since≤last)∧
  ((∀e∈es,seen.contains e.born=true)→K (.tuple #[.bool false]) h)∧
  (∀e∈es,seen.contains e.born=false→∀h',PutO h h' r (.mapIter (some m) since (seen.push e.born) clock)→K (.tuple #[.bool true,e.key,e.val]) h'))
def entP (h:Heap) (K:Value→Heap→Prop) (r:Nat):Prop:=
 ∃(m since:Nat) (seen:Array Nat) (last:Nat) (es:List MapEntry) (b:Nat) (e:MapEntry),h[r]? =some (.mapIter (some m) since seen last)∧MapB h m es last∧seen.back? =some b∧
  es.find? (fun e=>e.born==b)=some e∧K (.tuple #[e.key,e.val]) h
def sop (P:Program) (σ:Env) (h:Heap) (K:Value→Heap→Prop) (Qp:List PanicEntry→Heap→Prop):SOp→Prop
 |.mv x=>match ev σ x with
  |some v=>K v h
  |none=>False
 |.pick c a b=>match ev σ c,ev σ a,ev σ b with
  |some (.bool t),some x,some y=>K (bif t then x else y) h
  |_,_,_=>False
 |.new z=>∀b h',Grow h h' b z→K (.pointer (some ⟨b,0,none⟩)) h'
 |.box x=>match ev σ x with
  |some v=>∀b h',Grow h h' b v.cells.toList→K (.pointer (some ⟨b,0,none⟩)) h'
  |none=>False
 |.build z ps xs=>match evs σ xs with
  |some vs=>match fillL z ps vs with
   |some l=>K (.agg ⟨l⟩) h
   |none=>False
  |none=>False
 |.bslice z n ps xs=>match evs σ xs with
  |some vs=>match fillL z ps vs with
   |some l=>∀b h',Grow h h' b l→K (.slice (some ⟨b,0,none⟩) n n) h'
   |none=>False
  |none=>False
 |.ld1 x=>match ev σ x with
  |some (.pointer (some ⟨b,o,none⟩))=>∃v,cell h b o=some v∧K v h
  |_=>False
 |.ldn n x=>match ev σ x with
  |some (.pointer (some ⟨b,o,none⟩))=>∃vs,vs.length=n∧Cells h b o vs∧K (.agg ⟨vs⟩) h
  |_=>False
 |.st n x v=>match ev σ x,ev σ v with
  |some (.pointer (some ⟨b,o,none⟩)),some v=>
   ∃l,Blk h b l∧o+n≤l.length∧v.cells.toList.length=n∧(∀u∈v.cells.toList,u.oneCell'=true)∧∀h',Put h h' b (splice l o v.cells.toList)→K undef h'
  |_,_=>False
 |.nilck x=>match ev σ x with
  |some (.pointer (some a))=>K (.pointer (some a)) h
  |some (.func (.func f) fi c)=>K (.func (.func f) fi c) h
  |some (.func (.yield f) fi c)=>K (.func (.yield f) fi c) h
  |_=>False
 |.ar op x y=>match ev σ x,ev σ y with
  |some (.int k a),some (.int k' b)=>k=k'∧∀z,z=arith op k a b→K (.int k z) h
  |_,_=>False
 |.bit op x y=>match ev σ x,ev σ y with
  |some (.int k a),some (.int k' b)=>k=k'∧∀z,z=bitw op k a b→K (.int k z) h
  |_,_=>False
 |.cmp op x y=>match op,ev σ x,ev σ y with
  |.eql,some (.int k a),some (.int k' b)=>k=k'∧either (a=b) K h
  |.neq,some (.int k a),some (.int k' b)=>k=k'∧either (a≠b) K h
  |.lss,some (.int k a),some (.int k' b)=>k=k'∧either (a<b) K h
  |.leq,some (.int k a),some (.int k' b)=>k=k'∧either (a≤b) K h
  |.gtr,some (.int k a),some (.int k' b)=>k=k'∧either (b<a) K h
  |.geq,some (.int k a),some (.int k' b)=>k=k'∧either (b≤a) K h
  |.eql,some (.string a),some (.string b)=>either (a=b) K h
  |.neq,some (.string a),some (.string b)=>either (a≠b) K h
  |.lss,some (.string a),some (.string b)=>either (sless a b=true) K h
  |.leq,some (.string a),some (.string b)=>either (sless a b=true∨a=b) K h
  |.gtr,some (.string a),some (.string b)=>either (¬(sless a b=true∨a=b)) K h
  |.geq,some (.string a),some (.string b)=>either (¬sless a b=true) K h
  |_,_,_=>False
 |.cmpb neg x y=>match ev σ x,ev σ y with
  |some (.bool a),some (.bool b)=>(a=b→K (.bool (!neg)) h)∧(a≠b→K (.bool neg) h)
  |_,_=>False
 |.cat x y=>match ev σ x,ev σ y with
  |some (.string a),some (.string b)=>a.size+b.size<9223372036854775808∧K (.string (a++b)) h
  |_,_=>False
 |.eqp neg x y=>match ev σ x,ev σ y with
  |some (.pointer none),some (.pointer none)=>K (.bool (!neg)) h
  |some (.pointer none),some (.pointer (some _))=>K (.bool neg) h
  |some (.pointer (some _)),some (.pointer none)=>K (.bool neg) h
  |some (.pointer (some ⟨b,o,none⟩)),some (.pointer (some ⟨b',o',none⟩))=>
   (∃l,Blk h b l∧l≠[])∧(∃l,Blk h b' l∧l≠[])∧(b=b'→o=o'→K (.bool (!neg)) h)∧(¬(b=b'∧o=o')→K (.bool neg) h)
  |_,_=>False
 |.eqn kd neg x=>match ev σ x with
  |some v=>match nilTest kd v with
   |some r=>K (.bool (bif r then !neg else neg)) h
   |none=>False
  |none=>False
 |.eqa neg ks x y=>match ev σ x,ev σ y with
  |some (.agg a),some (.agg b)=>fitsAll ks a.toList=true∧fitsAll ks b.toList=true∧
   (a.toList=b.toList→K (.bool (!neg)) h)∧(a.toList≠b.toList→K (.bool neg) h)
  |_,_=>False
 |.un op x=>match op,ev σ x with
  |.not,some (.bool t)=>K (.bool (!t)) h
  |.neg,some (.int k a)=>∀z,z=k.wrap (0-a)→K (.int k z) h
  |.xor,some (.int k a)=>∀z,z=bitw .xor k (ones k) a→K (.int k z) h
  |_,_=>False
 |.fa off x=>match ev σ x with
  |some (.pointer (some ⟨b,o,none⟩))=>K (.pointer (some ⟨b,o+off,none⟩)) h
  |_=>False
 |.fl1 off x=>match ev σ x with
  |some (.agg cs)=>match cs.toList[off]? with
   |some v=>K v h
   |none=>False
  |_=>False
 |.fln off n x=>match ev σ x with
  |some (.agg cs)=>off+n≤cs.toList.length∧K (.agg ⟨(cs.toList.drop off).take n⟩) h
  |_=>False
 |.ixa len size x i=>match ev σ x,ev σ i with
  |some (.pointer (some ⟨b,o,none⟩)),some (.int _ i)=>0≤i∧i<len∧K (.pointer (some ⟨b,o+i.toNat*size,none⟩)) h
  |_,_=>False
 |.ixs size x i=>match ev σ x,ev σ i with
  |some (.slice (some ⟨b,o,none⟩) n _),some (.int _ i)=>0≤i∧i<n∧K (.pointer (some ⟨b,o+i.toNat*size,none⟩)) h
  |_,_=>False
 |.ixc x i=>match ev σ x,ev σ i with
  |some (.string s),some (.int _ i)=>∃c,0≤i∧s[i.toNat]? =some c∧K (.int .u8 c.toNat) h
  |_,_=>False
 |.slc size x lo hi=>match ev σ x with
  |some (.slice a n c)=>match bndOf σ lo 0,bndOf σ hi n with
   |some l,some m=>0≤l∧l≤m∧m≤c∧slcR K h size a c l m
   |_,_=>False
  |_=>False
 |.sls x lo hi=>match ev σ x with
  |some (.string s)=>match bndOf σ lo 0,bndOf σ hi s.size with
   |some l,some m=>0≤l∧l≤m∧m≤s.size∧K (.string (s.extract l.toNat m.toNat)) h
   |_,_=>False
  |_=>False
 |.len x=>match ev σ x with
  |some (.slice _ n _)=>K (.int .i64 n) h
  |_=>False
 |.cvs x=>match ev σ x with
  |some (.string s)=>K (.string s) h
  |_=>False
 |.bstr x=>match ev σ x with
  |some (.slice a n _)=>∃bs:List UInt8,bs.length=n∧Src0 h a n (bs.map fun b=>.int .u8 b.toNat)∧K (.string ⟨⟨bs⟩⟩) h
  |_=>False
 |.lens x=>match ev σ x with
  |some (.string s)=>K (.int .i64 s.size) h
  |_=>False
 |.lenm x=>match ev σ x with
  |some (.map none)=>K (.int .i64 0) h
  |some (.map (some r))=>∃es c,MapB h r es c∧K (.int .i64 es.length) h
  |_=>False
 |.mks bytes z x y=>match ev σ x,ev σ y with
  |some (.int .i64 n),some (.int .i64 c)=>0≤n∧n≤c∧bytes*c≤281474976710656∧c<9223372036854775808∧
   ∀b h',Grow h h' b ((List.replicate c.toNat z).flatten)→K (.slice (some ⟨b,0,none⟩) n.toNat c.toNat) h'
  |_,_=>False
 |.mkm=>∀b h',GrowO h h' b (.map #[] 0)→K (.map (some b)) h'
 |.look kd zero ok m k=>match ev σ m,ev σ k with
  |some (.map none),some k=>fits kd k=true∧K (if ok then .tuple #[zero,.bool false]else zero) h
  |some (.map (some r)),some k=>fits kd k=true∧∃es c,MapB h r es c∧(∀e∈es,fits kd e.key=true)∧
   match mfind k es 0 with
   |some (_,v)=>K (if ok then .tuple #[v,.bool true]else v) h
   |none=>K (if ok then .tuple #[zero,.bool false]else zero) h
  |_,_=>False
 |.mup kd m k v=>match ev σ m,ev σ k,ev σ v with
  |some (.map (some r)),some k,some v=>fits kd k=true∧∃es c,MapB h r es c∧(∀e∈es,fits kd e.key=true)∧
   match mfind k es 0 with
   |some (i,_)=>∀h',PutO h h' r (.map ⟨es.modify i fun e=>{e with val:=v}⟩ c)→K undef h'
   |none=>∀h',PutO h h' r (.map ⟨es++[{key:=k,val:=v,born:=c}]⟩ (c+1))→K undef h'
  |_,_,_=>False
 |.mdel kd m k=>match ev σ m,ev σ k with
  |some (.map none),some k=>fits kd k=true∧K (.tuple #[]) h
  |some (.map (some r)),some k=>fits kd k=true∧∃es c,MapB h r es c∧(∀e∈es,fits kd e.key=true)∧
   match mfind k es 0 with
   |some (i,_)=>∀h',PutO h h' r (.map ⟨es.eraseIdx i⟩ c)→K (.tuple #[]) h'
   |none=>∀h',PutO h h' r (.map ⟨es⟩ c)→K (.tuple #[]) h'
  |_,_=>False
 |.call f xs=>match evs σ xs with
  |some vs=>CallsH P f vs h (after K Qp)
  |none=>False
 |.callv x xs=>match ev σ x,evs σ xs with
  |some (.func (.func f) fi cap),some vs=>CallsH P f (fi.toList++vs++cap.toList) h (after K Qp)
  |some (.func (.yield l) fi _),some vs=>YieldH P l (fi.toList++vs) h (after K Qp)
  |_,_=>False
 |.callq f xs=>match evs σ xs with
  |some vs=>CallsH P f vs h fun e h'=>Ext h h'∧after K Qp e h'
  |none=>False
 |.callvq x xs=>match ev σ x,evs σ xs with
  |some (.func (.func f) fi cap),some vs=>CallsH P f (fi.toList++vs++cap.toList) h fun e h'=>Ext h h'∧after K Qp e h'
  |_,_=>False
 |.sh k left n x=>match ev σ x with
  |some (.int k' a)=>k'=k∧∀z,z=(bif left then k.wrap (a*2 ^ n)else a.fdiv (2 ^ n))→K (.int k z) h
  |_=>False
 |.quo x y=>match ev σ x,ev σ y with
  |some (.int k a),some (.int k' b)=>k=k'∧b≠0∧∀z,z=k.wrap (a.tdiv b)→K (.int k z) h
  |_,_=>False
 |.rem x y=>match ev σ x,ev σ y with
  |some (.int k a),some (.int k' b)=>k=k'∧b≠0∧∀z,z=a.tmod b→K (.int k z) h
  |_,_=>False
 |.app size bytes z x y=>match ev σ x,ev σ y with
  |some (.slice a n c),some (.slice a' m _)=>appP h K size bytes z a n c a' m
  |_,_=>False
 |.ext x i=>match ev σ x with
  |some (.tuple vs)=>match vs.toList[i]? with
   |some v=>K v h
   |none=>False
  |_=>False
 |.fn f first cap=>match evs σ first,evs σ cap with
  |some a,some c=>K (.func (.func f) ⟨a⟩ ⟨c⟩) h
  |_,_=>False
 |.cvt k x=>match ev σ x with
  |some (.int _ a)=>∀z,z=k.wrap a→K (.int k z) h
  |_=>False
 |.mn x y=>match ev σ x,ev σ y with
  |some (.int k a),some (.int k' b)=>k=k'∧K (.int k (min a b)) h
  |_,_=>False
 |.mx x y=>match ev σ x,ev σ y with
  |some (.int k a),some (.int k' b)=>k=k'∧K (.int k (max a b)) h
  |_,_=>False
 |.mki t x=>match ev σ x with
  |some v=>K (.iface t v) h
  |none=>False
 |.capc x=>match ev σ x with
  |some (.slice _ _ c)=>K (.int .i64 c) h
  |_=>False
 |.slc3 size x lo hi mx=>match ev σ x with
  |some (.slice a _ c)=>match bndOf σ lo 0,bndOf σ (some hi) 0,bndOf σ (some mx) 0 with
   |some l,some m,some k=>0≤l∧l≤m∧m≤k∧k≤c∧slcR K h size a k.toNat l m
   |_,_,_=>False
  |_=>False
 |.cpy size x y=>match ev σ x,ev σ y with
  |some (.slice a n _),some (.slice a' m _)=>∃ys,ys.length=min m n*size∧Src h a' (min m n) ys∧wrP h (K (.int .i64 (min m n:Nat))) a ys
  |_,_=>False
 |.clr z x=>match ev σ x with
  |some (.slice a n _)=>wrP h (K (.tuple #[])) a (List.replicate n z).flatten
  |_=>False
 |.appz size bytes z x y=>match ev σ x,ev σ y with
  |some (.slice a n c),some (.int .i64 k)=>0≤k∧k<9223372036854775808∧appzP h K size bytes z a n c k.toNat
  |_,_=>False
 |.callx f xs=>match evs σ xs with
  |some vs=>ExtH P f vs h K
  |none=>False
 |.appn size bytes z y=>match ev σ y with
  |some (.slice a' m _)=>appP h K size bytes z none 0 0 a' m
  |_=>False
 |.ixv n size x i=>match ev σ x,ev σ i with
  |some (.agg cs),some (.int _ i)=>∃v,0≤i∧i<n∧cs.toList[i.toNat*size]? =some v∧K v h
  |_,_=>False
 |.slp n size x lo hi=>match ev σ x with
  |some (.pointer (some ⟨b,o,none⟩))=>match bndOf σ lo 0,bndOf σ hi n with
   |some l,some m=>0≤l∧l≤m∧m≤n∧slcR K h size (some ⟨b,o,none⟩) n l m
   |_,_=>False
  |_=>False
 |.shv k left x y=>match ev σ x,ev σ y with
  |some (.int k' a),some (.int _ n)=>k'=k∧0≤n∧∀z,z=(bif left then k.wrap (a*2 ^ (min n.toNat k.bits))else a.fdiv (2 ^ (min n.toNat k.bits)))→K (.int k z) h
  |_,_=>False
 |.tas t zero ok x=>match ev σ x with
  |some .nilIface=>ok=true∧K (.tuple #[zero,.bool false]) h
  |some (.iface u v)=>(u=t→K (bif ok then .tuple #[v,.bool true]else v) h)∧(u≠t→ok=true∧K (.tuple #[zero,.bool false]) h)
  |_=>False
 |.eqi neg x y=>match ev σ x,ev σ y with
  |some .nilIface,some (.iface _ _)=>K (.bool neg) h
  |some (.iface _ _),some .nilIface=>K (.bool neg) h
  |some (.iface t v),some (.iface u w)=>(t≠u→K (.bool neg) h)∧
   (t=u→∃kd,kdE P t=some kd∧fits kd v=true∧fits kd w=true∧(v=w→K (.bool (!neg)) h)∧(v≠w→K (.bool neg) h))
  |_,_=>False
 |.pan x=>match ev σ x with
  |some (.iface t v)=>Qp [{v:=.iface t v,recovered:=false}] h
  |_=>False
 |.byts x=>match ev σ x with
  |some (.string s)=>∀c b h',s.size≤c→GrowW h h' b (byteCells s++List.replicate (c-s.size) (.int .u8 0))→K (.slice (some ⟨b,0,none⟩) s.size c) h'
  |_=>False
 |.stb x v=>match ev σ x,ev σ v with
  |some (.pointer (some ⟨b,o,none⟩)),some v=>∃l,BlkW h b l∧o+1≤l.length∧v.cells.toList.length=1∧(∀u∈v.cells.toList,u.oneCell'=true)∧∀h',PutW h h' b (splice l o v.cells.toList)→K undef h'
  |_,_=>False
 |.cpyb x y=>match ev σ x,ev σ y with
  |some (.slice a n _),some v=>match lenB v with
   |some m=>∃ys,ys.length=min m n∧SrcB h v (min m n) ys∧wrB h (K (.int .i64 (min m n:Nat))) a ys
   |none=>False
  |_,_=>False
 |.appb e x y=>match ev σ x,ev σ y with
  |some (.slice a n c),some v=>match lenB v with
   |some m=>appbP h K e a n c v m
   |none=>False
  |_,_=>False
 |.rng x=>match ev σ x with
  |some (.map none)=>∀b h',GrowO h h' b (.mapIter none 0 #[] 0)→K (.pointer (some ⟨b,0,none⟩)) h'
  |some (.map (some r))=>∃es c,MapB h r es c∧∀b h',GrowO h h' b (.mapIter (some r) c #[] c)→K (.pointer (some ⟨b,0,none⟩)) h'
  |_=>False
 |.nxt x=>match ev σ x with
  |some (.pointer (some ⟨r,0,none⟩))=>nxtP h K r
  |_=>False
 |.ent x=>match ev σ x with
  |some (.pointer (some ⟨r,0,none⟩))=>entP h K r
  |_=>False
 |.cvm x=>match ev σ x with
  |some (.slice (some ⟨b,o,none⟩) n c)=>∃l,BlkW h b l∧∀h',PutW h h' b l→K (.slice (some ⟨b,o,none⟩) n c) h'
  |_=>False
 |.ixw n size x i=>match ev σ x,ev σ i with
  |some (.agg cs),some (.int _ i)=>0≤i∧i<n∧i.toNat*size+size≤cs.toList.length∧K (.agg ⟨(cs.toList.drop (i.toNat*size)).take size⟩) h
  |_,_=>False
 |.clrm x=>match ev σ x with
  |some (.map none)=>K (.tuple #[]) h
  |some (.map (some r))=>∃es c,MapB h r es c∧∀h',PutO h h' r (.map ⟨[]⟩ c)→K (.tuple #[]) h'
  |_=>False
 |.newT t z=>∀b h',Grow h h' b z→TyB h' b t→K (.pointer (some ⟨b,0,none⟩)) h'
 |.p2u x=>match ev σ x with
  |some (.pointer (some ⟨b,o,none⟩))=>∃l,BlkW h b l∧o<l.length∧K (.pointer (some ⟨b,o,none⟩)) h
  |_=>False
 |.u2p t n x=>match ev σ x with
  |some (.pointer (some ⟨b,0,none⟩))=>∃l,BlkW h b l∧l.length=n∧TyB h b t∧K (.pointer (some ⟨b,0,none⟩)) h
  |_=>False
 |.sld x=>match ev σ x with
  |some (.slice none _ _)=>K (.pointer none) h
  |some (.slice (some a) _ c)=>c≠0∧K (.pointer (some a)) h
  |_=>False
 |.rngs x=>match ev σ x with
  |some (.string s)=>∀b h',GrowO h h' b (.stringIter s 0)→K (.pointer (some ⟨b,0,none⟩)) h'
  |_=>False
 |.nxts x=>match ev σ x with
  |some (.pointer (some ⟨r,0,none⟩))=>∃s pos,h[r]? =some (.stringIter s pos)∧(s.size≤pos→K (.tuple #[.bool false]) h)∧
    (pos<s.size→∀h',PutO h h' r (.stringIter s (pos+(Utf8.decode s pos).2))→K (.tuple #[.bool true,.int .i64 pos,.int .i32 (Utf8.decode s pos).1]) h')
  |_=>False
 |.ust e x n=>match ev σ x,ev σ n with
  |some (.pointer p),some (.int .i64 n)=>(n=0→K (.string ⟨#[]⟩) h)∧(n≠0→∃(b:Nat) (l:List UInt8) (tot:List Value),p=some ⟨b,0,none⟩∧n=l.length∧l.length<9223372036854775808∧BlkW h b tot∧TyB h b e∧l.length≤tot.length∧
    (∀j x,l[j]? =some x→cell h b j=some (.int .u8 x.toNat))∧∀h',h'.size=h.size→(∀k,k≠b→h'[k]? =h[k]?)→K (.string ⟨⟨l⟩⟩) h')
  |_,_=>False
def takes:Value→Bool→Bool
 |.bool true,true=>true
 |.bool false,false=>true
 |_,_=>false
def sopr (P:Program) (σ:Env) (h:Heap) (o:SOper) (K:Env→Heap→Prop) (Qp:List PanicEntry→Heap→Prop):Prop:=
 match o.guard with
 |none=>sop P σ h (fun v h'=>K (upd σ o.dst v) h') Qp o.op
 |some (g,want)=>match σ g with
  |some t=>match takes t want with
   |true=>sop P σ h (fun v h'=>K (upd σ o.dst v) h') Qp o.op
   |false=>K (upd σ o.dst undef) h
  |none=>False
def sops (P:Program) (Qp:List PanicEntry→Heap→Prop) (K:Env→Heap→Prop):List SOper→Env→Heap→Prop
 |[],σ,h=>K σ h
 |o::l,σ,h=>sopr P σ h o (sops P Qp K l) Qp
def szOf (P:Program) (t:TypeId):Option Nat:=(P.info? t).map (·.size)
def zeroOf (P:Program) (t:TypeId):Option Value:=(P.info? t).bind (·.zero)
def aggOf (P:Program) (t:TypeId):Option Bool:=
 match P.underlying t with
 |some (.struct _)|some (.array _ _)=>some true
 |some _=>some false
 |none=>none
def kdOf (P:Program) (t:TypeId):Option Kd:=
 match P.underlying t with
 |some (.int k)=>some (.int k)
 |some .string=>some .str
 |some .bool=>some .bool
 |_=>none
def isNil (kd:Nat):Operand→Bool
 |.const (.pointer none)=>Nat.beq kd 0
 |.const (.slice none _ _)=>Nat.beq kd 1
 |.const (.map none)=>Nat.beq kd 2
 |.const .nilFunc=>Nat.beq kd 3
 |.const .nilIface=>Nat.beq kd 4
 |_=>false
def eqNil (kd:Nat) (neg:Bool) (x y:Operand):Option SOp:=
 if isNil kd y then some (.eqn kd neg x)else if isNil kd x then some (.eqn kd neg y)else none
def fieldPl (P:Program):List Field→Option (List (Nat×Nat))
 |[]=>some []
 |f::r=>match szOf P f.type,fieldPl P r with
  |some n,some ps=>some ((f.offset,n)::ps)
  |_,_=>none
def placesOf (qs:List (Nat×Nat)):List (Nat×Operand)→Option (List (Nat×Nat))
 |[]=>some []
 |(i,_)::r=>match qs[i]?,placesOf qs r with
  |some p,some ps=>some (p::ps)
  |_,_=>none
def placesArr (size:Nat):List (Nat×Operand)→List (Nat×Nat)
 |[]=>[]
 |(i,_)::r=>(i*size,size)::placesArr size r
def kindsOf (P:Program):Nat→List Field→Option (List Kd)
 |_,[]=>some []
 |n,f::fs=>if f.name= "_" ∨f.offset≠n then none else
  match kdOf P f.type,kindsOf P (n+1) fs with
  |some k,some ks=>some (k::ks)
  |_,_=>none
def zeros (P:Program) (e:TypeId) (size:Nat):Option (List Value):=
 match zeroOf P e with
 |some z=>if z.cells.toList.length=size then some z.cells.toList else none
 |none=>none
def copBin (P:Program) (op:BinOp) (t:TypeId) (x y:Operand):Option SOp:=
 match op with
 |.add=>match kdOf P t with
  |some (.int _)=>some (.ar op x y)
  |some .str=>some (.cat x y)
  |_=>none
 |.sub|.mul=>match kdOf P t with
  |some (.int _)=>some (.ar op x y)
  |_=>none
 |.and|.or|.xor|.andNot=>match kdOf P t with
  |some (.int _)=>some (.bit op x y)
  |_=>none
 |.eql|.neq=>
  let neg:Bool:=match op with|.neq=>true|_=>false
  match kdOf P t with
  |some .bool=>some (.cmpb neg x y)
  |some _=>some (.cmp op x y)
  |none=>match P.underlying t with
   |some (.pointer e)=>match eqNil 0 neg x y with
    |some r=>some r
    |none=>match szOf P e with
     |some (_+1)=>some (.eqp neg x y)
     |_=>none
   |some (.slice _)=>eqNil 1 neg x y
   |some (.map _ _)=>eqNil 2 neg x y
   |some (.func _ _ _)=>eqNil 3 neg x y
   |some (.interface _)=>match eqNil 4 neg x y with
    |some r=>some r
    |none=>some (.eqi neg x y)
   |some (.struct fs)=>if P.stoodInHeld t=false∧P.eqGuardType P.depth t=false then(kindsOf P 0 fs.toList).map fun ks=>.eqa neg ks x y else none
   |_=>none
 |.shl|.shr=>match kdOf P t,y with
  |some (.int k),.const (.int _ n)=>if 0≤n∧n.toNat≤k.bits then some (.sh k (match op with|.shl=>true|_=>false) n.toNat x)else none
  |some (.int k),_=>some (.shv k (match op with|.shl=>true|_=>false) x y)
  |_,_=>none
 |.quo=>match kdOf P t with
  |some (.int _)=>some (.quo x y)
  |_=>none
 |.rem=>match kdOf P t with
  |some (.int _)=>some (.rem x y)
  |_=>none
 |.lss|.leq|.gtr|.geq=>match kdOf P t with
  |some (.int _)=>some (.cmp op x y)
  |some .str=>some (.cmp op x y)
  |_=>none
def isByte (P:Program) (e:TypeId):Bool:=
 match P.info? e with
 |some i=>(match P.underlying e with|some (.int .u8)=>true|_=>false)&&Nat.beq i.size 1&&Nat.beq i.bytes 1&&(match i.zero with|some (.int .u8 0)=>true|_=>false)
 |none=>false
def copCall (P:Program) (c:Call):Option SOp:=
 match c.callee with
 |.value (.func f)=>match P.funcs[f]? with
  |some fn=>match fn.body with
   |some _=>some (.call f c.args.toList)
   |none=>some (.callx f c.args.toList)
  |none=>none
 |.value x=>some (.callv x c.args.toList)
 |.invoke _ _=>none
 |.builtin .len=>match c.args.toList,c.argTypes.toList with
  |[x],[t]=>match P.underlying t with
   |some .string=>some (.lens x)
   |some (.slice _)=>some (.len x)
   |some (.map _ _)=>some (.lenm x)
   |_=>none
  |_,_=>none
 |.builtin .append=>match c.args.toList,c.argTypes.toList with
  |[x,y],[t,u]=>match P.underlying t,P.underlying u with
   |some (.slice e),some .string=>if isByte P e=true then some (.appb e x y)else none
   |some (.slice e),some (.slice e2)=>if isByte P e=true∧isByte P e2=true then some (.appb e x y)else match P.info? e with
    |some i=>if 1≤i.bytes then(zeros P e i.size).map fun z=>(match x with|.const (.slice none 0 0)=>.appn i.size i.bytes z y|_=>.app i.size i.bytes z x y)else none
    |none=>none
   |some (.slice e),some (.int _)=>match P.info? e with
    |some i=>if 1≤i.bytes then(zeros P e i.size).map fun z=>.appz i.size i.bytes z x y else none
    |none=>none
   |_,_=>none
  |_,_=>none
 |.builtin .cap=>match c.args.toList,c.argTypes.toList with
  |[x],[t]=>match P.underlying t with
   |some (.slice _)=>some (.capc x)
   |_=>none
  |_,_=>none
 |.builtin .copy=>match c.args.toList,c.argTypes.toList with
  |[x,y],[t,u]=>match P.underlying t,P.underlying u with
   |some (.slice e),some .string=>if isByte P e=true then some (.cpyb x y)else none
   |some (.slice e),some (.slice e2)=>if isByte P e=true∧isByte P e2=true then some (.cpyb x y)else(szOf P e).map fun n=>.cpy n x y
   |_,_=>none
  |_,_=>none
 |.builtin .clear=>match c.args.toList,c.argTypes.toList with
  |[x],[t]=>match P.underlying t with
   |some (.slice e)=>match P.info? e with
    |some i=>(zeros P e i.size).map fun z=>.clr z x
    |none=>none
   |some (.map _ _)=>some (.clrm x)
   |_=>none
  |_,_=>none
 |.builtin .delete=>match c.args.toList,c.argTypes.toList with
  |[x,y],[t,_]=>match P.underlying t with
   |some (.map k _)=>(kdOf P k).map fun kd=>.mdel kd x y
   |_=>none
  |_,_=>none
 |.builtin .unsafeSliceData=>match c.args.toList,c.argTypes.toList with
  |[x],[_]=>some (.sld x)
  |_,_=>none
 |.builtin .unsafeString=>match c.args.toList,c.argTypes.toList with
  |[x,y],[t,_]=>match P.underlying t with
   |some (.pointer e)=>if isByte P e=true∧P.cellsOf e=1 then some (.ust e x y)else none
   |_=>none
  |_,_=>none
 |.builtin .min=>match c.args.toList,c.argTypes.toList with
  |[x,y],[t,_]=>match kdOf P t with
   |some (.int _)=>some (.mn x y)
   |_=>none
  |_,_=>none
 |.builtin .max=>match c.args.toList,c.argTypes.toList with
  |[x,y],[t,_]=>match kdOf P t with
   |some (.int _)=>some (.mx x y)
   |_=>none
  |_,_=>none
 |_=>none
def isBld:List Value→Bool
 |[.pointer none,.slice none 0 0]=>true
 |_=>false
def liesOwn (P:Program) (t:TypeId):Option Nat:=
 match szOf P t with
 |some (_+1)=>match P.cellsOf t with
  |k+1=>if liesAt P P.depth t 1 0 t 1=true then some (k+1)else none
  |0=>none
 |_=>none
def okReserve:Option Operand→Bool
 |none=>true
 |some (.const (.int _ _))=>true
 |_=>false
def cop (P:Program) (o:Oper):Option SOp:=
 match o.op with
 |.move x|.assign x=>some (.mv x)
 |.pick c a b=>some (.pick c a b)
 |.alloc t=>(zeroOf P t).map fun z=>bif isBld z.cells.toList then .newT t z.cells.toList else .new z.cells.toList
 |.box _ x=>some (.box x)
 |.build t parts=>match zeroOf P t,P.underlying t with
  |some z,some (.struct fs)=>match fieldPl P fs.toList with
   |some qs=>(placesOf qs parts.toList).map fun ps=>.build z.cells.toList ps (parts.toList.map (·.2))
   |none=>none
  |some z,some (.array _ e)=>(szOf P e).map fun n=>.build z.cells.toList (placesArr n parts.toList) (parts.toList.map (·.2))
  |_,_=>none
 |.buildSlice t n parts=>match P.underlying t with
  |some (.slice e)=>match szOf P e with
   |some s=>if n*s≤65536 then(zeros P e s).map fun z=>.bslice ((List.replicate n z).flatten) n (placesArr s parts.toList) (parts.toList.map (·.2))else none
   |none=>none
  |_=>none
 |.load t x=>match aggOf P t,szOf P t with
  |some true,some n=>some (.ldn n x)
  |some false,some _=>some (.ld1 x)
  |_,_=>none
 |.store t x v=>match P.underlying t with
  |some (.int .u8)=>match szOf P t with
   |some 1=>some (.stb x v)
   |_=>none
  |_=>(szOf P t).map fun n=>.st n x v
 |.nilCheck x=>some (.nilck x)
 |.binOp op t x y _=>copBin P op t x y
 |.unOp op _ x=>match op with
  |.not|.neg|.xor=>some (.un op x)
  |_=>none
 |.convert s d x=>match P.underlying s,P.underlying d with
  |some (.int _),some (.int k)=>some (.cvt k x)
  |some .string,some .string=>some (.cvs x)
  |some (.slice e),some .string=>match P.underlying e with
   |some (.int .u8)=>some (.bstr x)
   |_=>none
  |some .string,some (.slice e)=>match P.underlying e with
   |some (.int .u8)=>some (.byts x)
   |_=>none
  |some (.slice _),some (.slice e)=>match P.underlying e with
   |some (.int .u8)=>if s=d then some (.cvm x)else none
   |_=>none
  |some (.pointer t),some .unsafePointer=>match szOf P t with
   |some (_+1)=>some (.p2u x)
   |_=>none
  |some .unsafePointer,some (.pointer t)=>(liesOwn P t).map fun n=>.u2p t n x
  |_,_=>none
 |.makeInterface t x=>match P.underlying t with
  |some (.interface _)=>none
  |some _=>some (.mki t x)
  |none=>none
 |.makeFunc (.func f) first cap=>some (.fn f first.toList cap.toList)
 |.makeMap t r=>if okReserve r=true then match P.underlying t with
   |some (.map _ _)=>some .mkm
   |_=>none
  else none
 |.makeSlice t x y=>match P.underlying t with
  |some (.slice e)=>match P.info? e with
   |some i=>(zeros P e i.size).map fun z=>.mks i.bytes z x y
   |none=>none
  |_=>none
 |.slice t x lo hi none=>match P.underlying t with
  |some .string=>some (.sls x lo hi)
  |some (.slice e)=>(szOf P e).map fun n=>.slc n x lo hi
  |some (.array n e)=>(szOf P e).map fun s=>.slp n s x lo hi
  |_=>none
 |.slice t x lo (some hi) (some mx)=>match P.underlying t with
  |some (.slice e)=>(szOf P e).map fun n=>.slc3 n x lo hi mx
  |_=>none
 |.fieldAddr t x f=>match P.underlying t with
  |some (.struct fs)=>match fs[f]? with
   |some fl=>match szOf P fl.type with
    |some (_+1)=>some (.fa fl.offset x)
    |_=>none
   |none=>none
  |_=>none
 |.field t x f=>match P.underlying t with
  |some (.struct fs)=>match fs[f]? with
   |some fl=>match aggOf P fl.type,szOf P fl.type with
    |some true,some n=>some (.fln fl.offset n x)
    |some false,some _=>some (.fl1 fl.offset x)
    |_,_=>none
   |none=>none
  |_=>none
 |.indexAddr t x i=>match P.underlying t with
  |some (.array n e)=>(szOf P e).map fun s=>.ixa n s x i
  |some (.slice e)=>(szOf P e).map fun s=>.ixs s x i
  |_=>none
 |.index t x i=>match P.underlying t with
  |some .string=>some (.ixc x i)
  |some (.array n e)=>match aggOf P e,szOf P e with
   |some false,some s=>some (.ixv n s x i)
   |some true,some s=>some (.ixw n s x i)
   |_,_=>none
  |_=>none
 |.lookup t m k ok=>match P.underlying t with
  |some (.map kt et)=>match kdOf P kt,zeroOf P et with
   |some kd,some z=>some (.look kd z ok m k)
   |_,_=>none
  |_=>none
 |.mapUpdate t m k v|.insert t m k v=>match P.underlying t with
  |some (.map kt _)=>(kdOf P kt).map fun kd=>.mup kd m k v
  |_=>none
 |.extract x i=>some (.ext x i)
 |.call c=>copCall P c
 |.panic x=>some (.pan x)
 |.range t x=>match P.underlying t with
  |some (.map _ _)=>some (.rng x)
  |some .string=>some (.rngs x)
  |_=>none
 |.next x false=>some (.nxt x)
 |.next x true=>some (.nxts x)
 |.entry x=>some (.ent x)
 |.typeAssert x _ t ok=>match P.underlying t,zeroOf P t with
  |some (.interface _),_=>none
  |some _,some z=>some (.tas t z ok x)
  |_,_=>none
 |_=>none
def coper (P:Program) (ops:Array Oper) (nt:Nat) (o:Oper):Option SOper:=
 match cop P o with
 |none=>none
 |some s=>
  match(match o.dst with|some d=>Nat.ble (d+1) nt|none=>true)with
  |false=>none
  |true=>
   match o.guard with
   |none=>some ⟨o.dst,none,s⟩
   |some (j,want)=>match(ops[j]?).bind (·.dst)with
    |some g=>if g<nt then some ⟨o.dst,some (g,want),s⟩else none
    |none=>none
def cls:SOp→Nat
 |.mv _|.pick .. |.build .. |.nilck _|.ar .. |.bit .. |.cmp .. |.cat .. |.eqn .. |.eqa .. |.un .. |.fa .. |.fl1 .. |.fln .. |.ixa .. |.ixs .. |.ixc .. |.slc .. |.sls .. |.len _|.ext .. |.fn .. |.cvt .. |.mn .. |.mx .. |.mki .. |.sh .. |.quo .. |.rem .. |.lens _|.cmpb .. |.cvs _|.capc _|.slc3 .. |.ixv .. |.slp .. |.shv .. |.tas .. |.eqi .. |.ixw .. |.sld _=>0
 |.ld1 _|.ldn .. |.lenm _|.look .. |.eqp .. |.bstr _|.ent _|.p2u _|.u2p .. =>1
 |.new _|.box _|.bslice .. |.mks .. |.mkm|.callq .. |.callvq .. |.appn .. |.byts _|.rng _|.newT .. |.rngs _=>2
 |_=>3
def opt:Option Operand→List Operand
 |none=>[]
 |some x=>[x]
def SOp.reads:SOp→List Operand
 |.mv x|.box x|.ld1 x|.ldn _ x|.nilck x|.eqn _ _ x|.un _ x|.fa _ x|.fl1 _ x|.fln _ _ x|.len x|.lenm x|.ext x _|.cvt _ x|.mki _ x|.sh _ _ _ x|.lens x|.cvs x|.bstr x|.capc x|.clr _ x|.appn _ _ _ x|.tas _ _ _ x|.pan x|.byts x|.rng x|.nxt x|.ent x|.cvm x|.clrm x|.p2u x|.u2p _ _ x|.sld x|.rngs x|.nxts x=>[x]
 |.pick c a b=>[c,a,b]
 |.new _|.mkm|.newT .. =>[]
 |.build _ _ xs|.bslice _ _ _ xs|.call _ xs|.callq _ xs|.callx _ xs=>xs
 |.st _ x v|.ar _ x v|.bit _ x v|.cmp _ x v|.cat x v|.eqp _ x v|.eqa _ _ x v|.ixa _ _ x v|.ixs _ x v|.ixc x v|.mks _ _ x v|.look _ _ _ x v|.mdel _ x v|.app _ _ _ x v|.mn x v|.mx x v|.quo x v|.rem x v|.cmpb _ x v|.cpy _ x v|.appz _ _ _ x v|.ixv _ _ x v|.shv _ _ x v|.eqi _ x v|.stb x v|.cpyb x v|.appb _ x v|.ixw _ _ x v|.ust _ x v=>[x,v]
 |.slc _ x lo hi|.sls x lo hi|.slp _ _ x lo hi=>x::(opt lo++opt hi)
 |.slc3 _ x lo hi tp=>x::(opt lo++[hi,tp])
 |.mup _ m k v=>[m,k,v]
 |.callv x xs|.callvq x xs=>x::xs
 |.fn _ a c=>a++c
def slotsOf:List Operand→List Nat
 |[]=>[]
 |.tmp t::r=>t::slotsOf r
 |_::r=>slotsOf r
def SOper.slots (o:SOper):List Nat:=
 match o.guard with
 |none=>slotsOf o.op.reads
 |some (g,_)=>g::slotsOf o.op.reads
def hasN (n:Nat):List Nat→Bool
 |[]=>false
 |m::r=>bif Nat.beq n m then true else hasN n r
def loose (x y:SOper):Bool:=
 (match x.dst with
  |some d=>!hasN d y.slots&&(match y.dst with|some e=>!Nat.beq d e|none=>true)
  |none=>true)&&
 (match y.dst with
  |some e=>!hasN e x.slots
  |none=>true)&&
 (match cls x.op with
  |0=>true
  |1=>Nat.ble (cls y.op) 2
  |_=>false)
def aheadOf (ops:Array Oper) (i:Nat):List Nat:=
 match ops[i]? with
 |some o=>(o.after.toList.filter (Region.binds .any)).map (·.on)
 |none=>[]
def aheads (ops:Array Oper):List (List Nat):=(List.range ops.size).map (aheadOf ops)
def closure (as:List (List Nat)):Nat→List Nat→List Nat→List Nat
 |0,_,acc=>acc
 |_,[],acc=>acc
 |n+1,x::r,acc=>if hasN x acc then closure as n r acc else closure as n (as.getD x []++r) (x::acc)
def removeN (n:Nat):List Nat→List Nat
 |[]=>[]
 |m::r=>bif Nat.beq n m then r else m::removeN n r
def pickQuiet (ss:List SOper) (as:List (List Nat)) (done:List Nat):List Nat→Option Nat
 |[]=>none
 |i::r=>if(as.getD i []).all (fun j=>hasN j done)&&(match ss[i]? with|some s=>Nat.ble (cls s.op) 1|none=>false)then some i else pickQuiet ss as done r
def pickAny (as:List (List Nat)) (done:List Nat):List Nat→Option Nat
 |[]=>none
 |i::r=>if(as.getD i []).all (fun j=>hasN j done)then some i else pickAny as done r
def order (ss:List SOper) (as:List (List Nat)):Nat→List Nat→List Nat→List Nat
 |0,_,_=>[]
 |n+1,done,left=>
  match(match pickQuiet ss as done left with|some i=>some i|none=>pickAny as done left)with
  |some i=>i::order ss as n (i::done) (removeN i left)
  |none=>[]
def fine1 (ss:List SOper) (cl:List (List Nat)) (x:Nat):List Nat→Bool
 |[]=>true
 |y::r=>(hasN x (cl.getD y [])||(match ss[x]?,ss[y]? with|some a,some b=>loose a b|_,_=>false))&&fine1 ss cl x r
def fine (ss:List SOper) (cl:List (List Nat)):List Nat→Bool
 |[]=>true
 |x::r=>fine1 ss cl x r&&fine ss cl r
def topoN (as:List (List Nat)):List Nat→List Nat→Bool
 |_,[]=>true
 |done,x::r=>(as.getD x []).all (fun k=>hasN k done)&&topoN as (x::done) r
def nodupN:List Nat→Bool
 |[]=>true
 |x::r=>!hasN x r&&nodupN r
def pickAll (ss:List SOper):List Nat→Option (List SOper)
 |[]=>some []
 |i::r=>match ss[i]?,pickAll ss r with
  |some s,some l=>some (s::l)
  |_,_=>none
def coperAll (P:Program) (ops:Array Oper) (nt:Nat):List Oper→Option (List SOper)
 |[]=>some []
 |o::r=>match coper P ops nt o,coperAll P ops nt r with
  |some s,some l=>some (s::l)
  |_,_=>none
def calm1 (s:SOper):SOper:=
 match s.op with
 |.call f xs=>{s with op:=.callq f xs}
 |.callv x xs=>{s with op:=.callvq x xs}
 |_=>s
def ordered (ss:List SOper) (as:List (List Nat)) (n:Nat):Option (List SOper):=
 let cl:=(List.range n).map fun i=>closure as (n*n+n) (as.getD i []) []
 let l:=order ss as n [] (List.range n)
 if l.length=n∧nodupN l=true∧l.all (fun i=>Nat.ble (i+1) n)=true∧fine ss cl l=true∧topoN as [] l=true then pickAll ss l else none
def fineX1 (ss:List SOper) (cl:List (List Nat)) (a b x:Nat):List Nat→Bool
 |[]=>true
 |y::r=>(hasN x (cl.getD y [])||(match ss[x]?,ss[y]? with|some s,some t=>loose s t|_,_=>false)||(Nat.beq x a&&(Nat.beq y b||hasN b (cl.getD y []))))&&fineX1 ss cl a b x r
def fineX (ss:List SOper) (cl:List (List Nat)) (a b:Nat):List Nat→Bool
 |[]=>true
 |x::r=>fineX1 ss cl a b x r&&fineX ss cl a b r
def hardOf (ss:List SOper) (cl:List (List Nat)) (x:Nat):List Nat→List (Nat×Nat)
 |[]=>[]
 |y::r=>if(match ss[x]?,ss[y]? with|some s,some t=>(Nat.ble 2 (cls s.op)&&Nat.ble 2 (cls t.op))||(Nat.beq 1 (cls s.op)&&Nat.beq 3 (cls t.op))||(Nat.beq 3 (cls s.op)&&Nat.beq 1 (cls t.op))|_,_=>false)&&!hasN x (cl.getD y [])&&!hasN y (cl.getD x [])then(x,y)::hardOf ss cl x r else hardOf ss cl x r
def hard (ss:List SOper) (cl:List (List Nat)):List Nat→List (Nat×Nat)
 |[]=>[]
 |x::r=>hardOf ss cl x r++hard ss cl r
def okX (ss:List SOper) (as cl:List (List Nat)) (n a b:Nat) (l:List Nat):Bool:=
 Nat.beq l.length n&&nodupN l&&l.all (fun i=>Nat.ble (i+1) n)&&fineX ss cl a b l&&topoN as [] l
def lateX (cl:List (List Nat)) (a b:Nat):List Nat→Bool
 |[]=>true
 |y::r=>(Nat.beq y b||hasN a (cl.getD y [])||hasN b (cl.getD y []))&&lateX cl a b r
def pairAt (ss:List SOper) (as cl:List (List Nat)) (n a b:Nat):Option (List SOper×List SOper×List SOper):=
 let p:=order ss as n [] ((List.range n).filter fun i=>!(Nat.beq i a)&&!(Nat.beq i b)&&!(hasN a (cl.getD i []))&&!(hasN b (cl.getD i [])))
 let rest:=(List.range n).filter fun i=>!(hasN i p)
 let r1:=order ss as n (a::p) (removeN a rest)
 let r2:=order ss as n (b::p) (removeN b rest)
 if Nat.beq a b=false∧okX ss as cl n a b (p++a::r1)=true∧okX ss as cl n b a (p++b::r2)=true∧lateX cl a b r1=true then
  match pickAll ss p,pickAll ss (a::r1),pickAll ss (b::r2)with
  |some sp,some s1,some s2=>some (sp,s1,s2)
  |_,_,_=>none
 else none
def pairIn (ss:List SOper) (as cl:List (List Nat)) (n:Nat):List (Nat×Nat)→Option (List SOper×List SOper×List SOper)
 |[]=>none
 |(a,b)::r=>match pairAt ss as cl n a b with
  |some x=>some x
  |none=>pairIn ss as cl n r
def ordered2 (ss:List SOper) (as:List (List Nat)) (n:Nat):Option (List SOper×List SOper×List SOper):=
 let cl:=(List.range n).map fun i=>closure as (n*n+n) (as.getD i []) []
 pairIn ss as cl n (hard ss cl (List.range n))
def cregion2 (P:Program) (nt:Nat) (ops:Array Oper):Option (List SOper×List SOper×List SOper):=
 match coperAll P ops nt ops.toList with
 |none=>none
 |some ss=>ordered2 (ss.map calm1) (aheads ops) ops.size
def covers (cl:List (List Nat)) (n i:Nat):Bool:=(List.range n).all fun j=>Nat.beq j i||hasN j (cl.getD i [])
def calmL (cl:List (List Nat)) (n:Nat):Nat→List SOper→List SOper
 |_,[]=>[]
 |i,s::r=>(bif covers cl n i then s else calm1 s)::calmL cl n (i+1) r
def calmed (ss:List SOper) (as:List (List Nat)) (n:Nat):List SOper:=
 calmL ((List.range n).map fun i=>closure as (n*n+n) (as.getD i []) []) n 0 ss
def cregion (P:Program) (nt:Nat) (ops:Array Oper) (draw:Bool):Option (List SOper):=
 match coperAll P ops nt ops.toList with
 |none=>none
 |some ss=>
  match draw with
  |false=>some ss
  |true=>match ordered ss (aheads ops) ops.size with
   |some l=>some l
   |none=>ordered (calmed ss (aheads ops) ops.size) (aheads ops) ops.size
def envL (x y:SOper):Bool:=
 (match x.dst with
  |some d=>!hasN d y.slots&&(match y.dst with|some e=>!Nat.beq d e|none=>true)
  |none=>true)&&
 (match y.dst with
  |some e=>!hasN e x.slots
  |none=>true)
def easyT (ss:List SOper) (cl:List (List Nat)) (listed:Array Bool) (x:Nat) (s:SOper):Nat→Bool
 |0=>true
 |y+1=>(Nat.beq y x||listed.getD y true||hasN x (cl.getD y [])||(match ss[y]? with|some t=>loose s t|none=>false))&&easyT ss cl listed x s y
def freeT (ss:List SOper) (cl:List (List Nat)) (listed:Array Bool) (x:Nat) (s:SOper):Nat→Bool
 |0=>true
 |y+1=>(Nat.beq y x||listed.getD y true||hasN x (cl.getD y [])||(match ss[y]? with|some t=>envL s t|none=>false))&&freeT ss cl listed x s y
def selfOK (s:SOper):Bool:=
 match s.dst with
 |some d=>!hasN d s.slots
 |none=>true
def noClash (s:SOper):List (Nat×SOper)→Bool
 |[]=>true
 |p::W=>(match s.dst with
  |some d=>!hasN d p.2.slots&&(match p.2.dst with|some e=>!Nat.beq d e|none=>true)
  |none=>true)&&noClash s W
def keepW (cl:List (List Nat)) (y:Nat) (s:SOper) (W:List (Nat×SOper)):List (Nat×SOper):=
 if Nat.ble (cls s.op) 1=true then W else W.filter fun p=>!hasN p.1 (cl.getD y [])
def pickT (ss:List SOper) (cl:List (List Nat)) (W:List (Nat×SOper)) (listed:Array Bool) (n:Nat):List Nat→Option (Nat×SOper)
 |[]=>none
 |x::r=>match ss[x]? with
  |some s=>if easyT ss cl listed x s n=true∧noClash s W=true then some (x,s)else pickT ss cl W listed n r
  |none=>none
def pickW (ss:List SOper) (cl:List (List Nat)) (W:List (Nat×SOper)) (listed:Array Bool) (n:Nat):List Nat→Option (Nat×SOper)
 |[]=>none
 |x::r=>match ss[x]? with
  |some s=>if Nat.ble (cls s.op) 1=true∧selfOK s=true∧freeT ss cl listed x s n=true∧noClash s W=true then some (x,s)else pickW ss cl W listed n r
  |none=>none
def mkChk (W:List (Nat×SOper)) (t:OTree):OTree:=
 match W with
 |[]=>t
 |_=>.chk (W.map (·.2)) t
def altT (f:Nat→SOper→Option OTree) (ss:List SOper):List Nat→Option OTree
 |[]=>none
 |[x]=>match ss[x]? with
  |some s=>(f x s).map (.one s)
  |none=>none
 |x::r=>match ss[x]? with
  |some s=>match f x s,altT f ss r with
   |some t,some u=>some (.both (.one s t) u)
   |_,_=>none
  |none=>none
def treeOf (ss:List SOper) (cl:List (List Nat)) (ops:Array Oper):Nat→Nat→List (Nat×SOper)→Array Bool→Option OTree
 |0,_,_,listed=>if(Region.ready .any ops listed).isEmpty=true then some .done else none
 |f+1,k,W,listed=>
  match Region.ready .any ops listed with
  |[]=>some .done
  |x::r=>match pickT ss cl W listed ops.size (x::r)with
   |some (y,s)=>(treeOf ss cl ops f k (keepW cl y s W) (listed.setIfInBounds y true)).map fun t=>.one s (mkChk (keepW cl y s W) t)
   |none=>match pickW ss cl W listed ops.size (x::r)with
    |some (y,s)=>(treeOf ss cl ops f k ((y,s)::W) (listed.setIfInBounds y true)).map (.one s)
    |none=>match k with
     |0=>none
     |k+1=>altT (fun i s=>(treeOf ss cl ops f k (keepW cl i s W) (listed.setIfInBounds i true)).map (mkChk (keepW cl i s W))) ss (x::r)
def dstsOf:List SOper→List Nat
 |[]=>[]
 |o::l=>match o.dst with
  |some d=>d::dstsOf l
  |none=>dstsOf l
def ctree (P:Program) (nt:Nat) (ops:Array Oper):Option SCode:=
 match coperAll P ops nt ops.toList with
 |none=>none
 |some ss=>(treeOf ss ((List.range ops.size).map fun i=>closure (aheads ops) (ops.size*ops.size+ops.size) ((aheads ops).getD i []) []) ops ops.size 6 [] (Array.replicate ops.size false)).map (.tree (dstsOf ss))
def flat:SCode→Bool
 |.seq a b|.cond _ a b=>flat a&&flat b
 |.block _ c|.loop c|.scope c=>flat c
 |.rangeF .. |.dfr .. |.rcv _|.goto _|.scopeG .. =>false
 |_=>true
def okDst (nt:Nat):Option Nat→Bool
 |some d=>Nat.ble (d+1) nt
 |none=>true
def cdefer (P:Program) (nt:Nat) (ops:Array Oper):Option SCode:=
 match ops.toList.getLast? with
 |some o=>match o.op,o.guard with
  |.defer c,none=>match c.callee,coperAll P ops nt (ops.toList.dropLast)with
   |.value x,some l=>if okDst nt o.dst=true then some (.dfr l o.dst x c.args.toList)else none
   |_,_=>none
  |_,_=>none
 |none=>none
def crecover (nt:Nat) (ops:Array Oper):Option SCode:=
 match ops.toList with
 |[o]=>match o.op,o.guard with
  |.call c,none=>match c.callee,c.args.toList with
   |.builtin .recover,[]=>if okDst nt o.dst=true then some (.rcv o.dst)else none
   |_,_=>none
  |_,_=>none
 |_=>none
def cregionN (P:Program) (nt:Nat) (ops:Array Oper) (draw:Bool):Option (List SOper):=
 match coperAll P ops nt ops.toList with
 |none=>none
 |some ss=>
  match draw with
  |false=>some ss
  |true=>ordered ss (aheads ops) ops.size
def cregionD (P:Program) (nt:Nat) (ops:Array Oper):Option SCode:=
 match cdefer P nt ops with
 |some s=>some s
 |none=>crecover nt ops
def cregionC (fl:Bool) (P:Program) (nt:Nat) (ops:Array Oper) (draw:Bool):Option SCode:=
 match fl with
 |true=>match cregion P nt ops draw with
  |some l=>some (.ops l)
  |none=>match draw with
   |true=>match cregion2 P nt ops with
    |some x=>some (.two x.1 x.2.1 x.2.2)
    |none=>ctree P nt ops
   |false=>cregionD P nt ops
 |false=>match cregionN P nt ops draw with
  |some l=>some (.ops l)
  |none=>match draw with
   |true=>ctree P nt ops
   |false=>cregionD P nt ops
def sfind:SCode→Nat→Option SCode
 |.seq a b,l=>match sfind a l with
  |some r=>some (.seq r b)
  |none=>sfind b l
 |.label l',l=>if l'==l then some .skip else none
 |_,_=>none
def sfirst:SCode→Option Nat
 |.seq a b=>match sfirst a with
  |some l=>some l
  |none=>sfirst b
 |.label l=>some l
 |_=>none
def stuckS:SCode:=.ops [⟨none,none,.pan (.const (.bool true))⟩]
def compC (fl:Bool) (P:Program) (nt:Nat):Code→Option SCode
 |.skip=>some .skip
 |.label l=>some (.label l)
 |.region _ ops draw=>cregionC fl P nt ops draw
 |.seq a b=>match compC fl P nt a,compC fl P nt b with
  |some x,some y=>some (.seq x y)
  |_,_=>none
 |.cond c a b=>match compC fl P nt a,compC fl P nt b with
  |some x,some y=>some (.cond c x y)
  |_,_=>none
 |.block id c=>(compC fl P nt c).map (.block id)
 |.loop c=>(compC fl P nt c).map .loop
 |.scope c=>match compC fl P nt c with
  |some sc=>match sfirst sc with
   |none=>some (.scope sc)
   |some l=>match sfind sc l with
    |some r=>some (.scopeG sc l r)
    |none=>none
  |none=>none
 |.exit id=>some (.exit id)
 |.ret=>some .ret
 |.rangeFunc g ps a b=>match compC fl P nt a,compC fl P nt b with
  |some x,some y=>if ps.toList.all (fun p=>Nat.ble (p+1) nt)=true∧flat x=true∧flat y=true then some (.rangeF g ps.toList x y)else none
  |_,_=>none
 |.goto l=>some (.goto l)
 |.refuse _=>some stuckS
abbrev comp (P:Program) (nt:Nat) (c:Code):Option SCode:=compC true P nt c
inductive SRes where
 |t (n:Nat)
 |c1 (a:Nat)
 |cn (a n:Nat)
def cres (P:Program):List ResultVar→Option (List SRes)
 |[]=>some []
 |.tmp n::r=>(cres P r).map (.t n:: ·)
 |.cell a t::r=>match aggOf P t,szOf P t,cres P r with
  |some true,some n,some l=>some (.cn a n::l)
  |some false,some _,some l=>some (.c1 a::l)
  |_,_,_=>none
variable {P:Program}
theorem addr_add (b o n:Nat):(⟨b,o,none⟩:Addr).add n=⟨b,o+n,none⟩:=by
 unfold Addr.add
 split
 ·rename_i h;subst h;rfl
 ·rfl
theorem cell_eq (w:World) (b o:Nat):w.cell? ⟨b,o,none⟩=cell w.heap b o:=by
 unfold World.cell? cell
 cases w.heap[b]? with
 |none=>rfl
 |some x=>cases x<;>rfl
theorem run_underlying' {t:TypeId} {d:TypeDesc} (h:P.underlying t=some d) (w:World):(underlying t).run P w=.ok d w:=run_underlying h w
theorem info_of_sz {t:TypeId} {n:Nat} (h:szOf P t=some n):∃i,P.info? t=some i∧i.size=n:=by
 unfold szOf at h
 cases hi:P.info? t with
 |none=>simp[hi]at h
 |some i=>simp[hi]at h;exact⟨i,rfl,h⟩
theorem run_typeInfo' {t:TypeId} {i:TypeInfo} (h:P.info? t=some i) (w:World):(typeInfo t).run P w=.ok i w:=by
 simp[typeInfo,h]
theorem run_sizeOf' {t:TypeId} {n:Nat} (h:szOf P t=some n) (w:World):(sizeOf t).run P w=.ok n w:=by
 obtain⟨i,hi,hn⟩:=info_of_sz h
 simp[sizeOf,run_typeInfo' hi,hn]
theorem run_zeroValue' {t:TypeId} {z:Value} (h:zeroOf P t=some z) (w:World):(zeroValue t).run P w=.ok z w:=by
 unfold zeroOf at h
 cases hi:P.info? t with
 |none=>simp[hi]at h
 |some i=>
  simp[hi]at h
  simp[zeroValue,run_typeInfo' hi,h]
theorem run_isAgg' {t:TypeId} {g:Bool} (h:aggOf P t=some g) (w:World):(isAgg t).run P w=.ok g w:=by
 unfold aggOf at h
 cases hu:P.underlying t with
 |none=>simp[hu]at h
 |some d=>
  simp only[hu]at h
  simp only[isAgg,Sem.run_bind,run_underlying' hu,Result.andThen_ok]
  cases d<;>simp at h<;>subst h<;>simp
theorem kdOf_under {t:TypeId} {k:Kd} (h:kdOf P t=some k):
  P.underlying t=some k.type:=by
 unfold kdOf at h
 split at h<;>simp at h<;>subst h<;>assumption
theorem run_fieldAt {t:TypeId} {fs:Array Field} {f:Nat} {fl:Field} {n:Nat} (hu:P.underlying t=some (.struct fs)) (hf:fs[f]? =some fl)
  (hs:szOf P fl.type=some (n+1)) (b o:Nat) (w:World):
  (Instr.fieldAt t (.pointer (some ⟨b,o,none⟩)) f).run P w=.ok (.pointer (some ⟨b,o+fl.offset,none⟩)) w:=by
 simp[Instr.fieldAt,run_underlying' hu,hf,Instr.sureAddr,fieldPlace,run_sizeOf' hs,addr_add]
theorem run_load_cell {h:Heap} {b o:Nat} {v:Value} (w:World) (hw:w.heap=h) (hc:cell h b o=some v):(load ⟨b,o,none⟩).run P w=.ok v w:=by
 rw[run_load,cell_eq,hw,hc]
theorem run_loadCells' {h:Heap} {b o:Nat} {vs:List Value} (w:World) (hw:w.heap=h) (hc:Cells h b o vs):(loadCells ⟨b,o,none⟩ vs.length).run P w=.ok ⟨vs⟩ w:=
 run_loadCells_list w ⟨b,o,none⟩ vs fun j v hj=>by rw[addr_add,cell_eq,hw];exact hc j v hj
theorem run_loadAt1 {t:TypeId} {h:Heap} {b o:Nat} {v:Value} (hg:aggOf P t=some false) (w:World) (hw:w.heap=h) (hc:cell h b o=some v):
  (Instr.loadAt t (.pointer (some ⟨b,o,none⟩))).run P w=.ok v w:=by
 have hl:=run_load_cell (P:=P) w hw hc
 simp[Instr.loadAt,Instr.sureAddr,loadVar,run_isAgg' hg,hl,-run_load]
theorem run_loadAtN {t:TypeId} {h:Heap} {b o n:Nat} {vs:List Value} (hg:aggOf P t=some true) (hs:szOf P t=some n) (hn:vs.length=n) (w:World) (hw:w.heap=h) (hc:Cells h b o vs):
  (Instr.loadAt t (.pointer (some ⟨b,o,none⟩))).run P w=.ok (.agg ⟨vs⟩) w:=by
 subst hn
 simp[Instr.loadAt,Instr.sureAddr,loadVar,run_isAgg' hg,run_sizeOf' hs,run_loadCells' w hw hc]
def SameB (w w':World):Prop:=w'.os=w.os∧w'.output=w.output∧w'.tape=w.tape
theorem SameB.refl (w:World):SameB w w:=⟨rfl,rfl,rfl⟩
theorem SameB.trans {a b c:World} (h:SameB a b) (k:SameB b c):SameB a c:=⟨k.1.trans h.1,k.2.1.trans h.2.1,k.2.2.trans h.2.2⟩
theorem splice_nil (l:List Value) (o:Nat):splice l o []=l:=by cases l<;>rfl
theorem splice_size:∀(l:List Value) (o:Nat) (vs:List Value),(splice l o vs).length=l.length
 |l,o,[]=>by cases l<;>rfl
 |[],_,_::_=>rfl
 |x::l,0,v::vs=>by simp[splice,splice_size l 0 vs]
 |x::l,o+1,v::vs=>by simp[splice,splice_size l o (v::vs)]
theorem setIfInBounds_list (l:List Value) (o:Nat) (v:Value):(⟨l⟩:Array Value).setIfInBounds o v=⟨l.set o v⟩:=by
 apply Array.ext'
 simp
theorem splice_cons (l:List Value) (o:Nat) (v:Value) (vs:List Value) (h:o<l.length):splice l o (v::vs)=splice (l.set o v) (o+1) vs:=by
 induction l generalizing o with
 |nil=>simp at h
 |cons x l ih=>
  cases o with
  |zero=>
   cases vs with
   |nil=>cases l<;>rfl
   |cons u us=>simp[splice]
  |succ o=>
   simp only[splice,List.set_cons_succ]
   have:=ih o (by simpa using h)
   rw[this]
   cases vs with
   |nil=>rw[splice_nil,splice_nil]
   |cons u us=>rfl
theorem run_storeCells' (b:Nat) (e:TypeId):∀(vs:List Value) (i o:Nat) (l:List Value) (w:World),w.heap[b]? =some (.cells ⟨l⟩ e (0,0))→o+i+vs.length≤l.length→(∀v∈vs,v.oneCell'=true)→
  ∃w',(storeCells ⟨b,o,none⟩ vs i).run P w=.ok () w'∧SameB w w'∧w'.heap=w.heap.setIfInBounds b (.cells ⟨splice l (o+i) vs⟩ e (0,0))
 |[],i,o,l,w,hb,_,_=>by
  refine⟨w,by simp[storeCells],SameB.refl w,?_⟩
  have hs:splice l (o+i) []=l:=by cases l<;>rfl
  rw[hs]
  apply Array.ext_getElem?
  intro k
  rw[Array.getElem?_setIfInBounds]
  split
  ·rename_i h;subst h
   have hlt:=(Array.getElem?_eq_some_iff.1 hb).1
   rw[if_pos hlt,hb]
  ·rfl
 |v::vs,i,o,l,w,hb,hl,h1=>by
  simp only[List.length_cons]at hl
  have hc:w.cell? ⟨b,o+i,none⟩=some l[o+i]:=by
   rw[cell_eq];unfold cell;rw[hb];simp
  have hf:w.frozen? ⟨b,o+i,none⟩=false:=by
   unfold World.frozen?;simp[hb]
  have hlt:=(Array.getElem?_eq_some_iff.1 hb).1
  have hset:(w.setCell ⟨b,o+i,none⟩ v).heap=w.heap.setIfInBounds b (.cells ⟨l.set (o+i) v⟩ e (0,0)):=by
   unfold World.setCell
   apply Array.ext_getElem?
   intro k
   simp only[Array.getElem?_modify,Array.getElem?_setIfInBounds]
   by_cases hk:b=k
   ·subst hk
    have:=(Array.getElem?_eq_some_iff.1 hb).2
    simp[hlt,this]
   ·simp[hk]
  have hb':(w.setCell ⟨b,o+i,none⟩ v).heap[b]? =some (.cells ⟨l.set (o+i) v⟩ e (0,0)):=by
   rw[hset];simp[hlt]
  obtain⟨w',hr,hsame,hheap⟩:=run_storeCells' b e vs (i+1) o (l.set (o+i) v) (w.setCell ⟨b,o+i,none⟩ v) hb' (by simp;omega) (fun x hx=>h1 x (by simp[hx]))
  refine⟨w',?_,⟨hsame.1,hsame.2.1,hsame.2.2⟩,?_⟩
  ·have hv:=h1 v (by simp)
   simp only[storeCells,Sem.run_bind,addr_add,run_store P w _ v .plain hv,hc,hf,Bool.false_eq_true,if_false,Result.andThen_ok]
   exact hr
  ·rw[hheap,hset,splice_cons l (o+i) v vs (by omega)]
   apply Array.ext_getElem?
   intro k
   simp only[Array.getElem?_setIfInBounds,Array.size_setIfInBounds]
   split<;>simp_all [Nat.add_assoc]
theorem put_of_set {h:Heap} {b:Nat} {l:List Value} {e:TypeId} {c:Array Value} {k:Nat×Nat} (hb:h[b]? =some (.cells c e k)):Put h (h.setIfInBounds b (.cells ⟨l⟩ e (0,0))) b l:=by
 have hlt:=(Array.getElem?_eq_some_iff.1 hb).1
 refine⟨⟨e,by simp[hlt]⟩,by simp,fun k hk=>?_,fun t ⟨c',k',ht⟩=>?_⟩
 ·rw[Array.getElem?_setIfInBounds,if_neg (fun h=>hk h.symm)]
 ·rw[hb]at ht
  simp at ht
  obtain⟨_,rfl,_⟩:=ht
  exact⟨_,_,by simp[hlt];exact⟨rfl,rfl⟩⟩
theorem putO_of_set {h:Heap} {b:Nat} {o x:Obj} (hb:h[b]? =some x):PutO h (h.setIfInBounds b o) b o:=by
 have hlt:=(Array.getElem?_eq_some_iff.1 hb).1
 refine⟨by simp[hlt],by simp,fun k hk=>?_⟩
 rw[Array.getElem?_setIfInBounds,if_neg (fun h=>hk h.symm)]
theorem grow_of_push (h:Heap) (l:List Value) (e:TypeId):Grow h (h.push (.cells ⟨l⟩ e (0,0))) h.size l:=
 ⟨rfl,⟨e,by simp⟩,by simp,fun k hk=>by rw[Array.getElem?_push,if_neg (by omega)]⟩
theorem growO_of_push (h:Heap) (o:Obj):GrowO h (h.push o) h.size o:=
 ⟨rfl,by simp,by simp,fun k hk=>by rw[Array.getElem?_push,if_neg (by omega)]⟩
def Gives (P:Program) (s:Sem Next) (w:World) (K:Value→Heap→Prop):Prop:=
 ∃v w',(s.run P w=.ok (.value v) w'∨(s.run P w=.ok .skip w'∧v=undef))∧SameB w w'∧K v w'.heap
theorem Gives.val {s:Sem Value} {w w':World} {K:Value→Heap→Prop} {v:Value} (hr:s.run P w=.ok v w') (hb:SameB w w') (hk:K v w'.heap):
  Gives P (do pure (.value (←s))) w K:=
 ⟨v,w',.inl (by simp[hr]),hb,hk⟩
theorem Gives.same {s:Sem Value} {w:World} {K:Value→Heap→Prop} {v:Value} (hr:s.run P w=.ok v w) (hk:K v w.heap):
  Gives P (do pure (.value (←s))) w K:=Gives.val hr (SameB.refl w) hk
end Go.Sx
namespace Go.Sx
open Go
variable {P:Program} {σ:Env} {ρ:Operand→Value} {w:World} {K:Value→Heap→Prop} {Qp:List PanicEntry→Heap→Prop}
def Knows (σ:Env) (ρ:Operand→Value):Prop:=∀x v,ev σ x=some v→ρ x=v
theorem Knows.list (hρ:Knows σ ρ):∀(xs:List Operand) (vs:List Value),evs σ xs=some vs→xs.map ρ=vs
 |[],vs,h=>by simp[evs]at h;simp[h]
 |x::xs,vs,h=>by
  simp only[evs]at h
  split at h
  ·rename_i v us hv hus
   simp at h;subst h
   simp[hρ x v hv,Knows.list hρ xs us hus]
  ·simp at h
theorem gives_mv {x:Operand} (hρ:Knows σ ρ) (h:sop P σ w.heap K Qp (.mv x)):Gives P (pure (.value (ρ x))) w K:=by
 simp only[sop]at h
 split at h
 ·rename_i v hv
  exact⟨v,w,.inl (by simp[hρ x v hv]),SameB.refl w,h⟩
 ·exact h.elim
theorem gives_pick {c a b:Operand} (hρ:Knows σ ρ) (h:sop P σ w.heap K Qp (.pick c a b)):
  Gives P (do pure (.value (if←asBool (ρ c)then ρ a else ρ b))) w K:=by
 simp only[sop]at h
 split at h
 ·rename_i t x y hc ha hb
  refine⟨_,w,.inl ?_,SameB.refl w,h⟩
  simp only[hρ c _ hc,hρ a _ ha,hρ b _ hb,asBool]
  cases t<;>simp
 ·exact h.elim
theorem gives_new {t:TypeId} {z:Value} (hz:zeroOf P t=some z) (h:sop P σ w.heap K Qp (.new z.cells.toList)):
  Gives P (do pure (.value (←Instr.alloc t true (.tuple #[])))) w K:=by
 simp only[sop]at h
 refine Gives.val (v:=.pointer (some ⟨w.heap.size,0,none⟩)) (w':={w with heap:=w.heap.push (.cells z.cells t)}) ?_ ⟨rfl,rfl,rfl⟩ (h _ _ (grow_of_push w.heap z.cells.toList t))
 simp[Instr.alloc,run_zeroValue' hz,newVar,newRow]
theorem gives_box {t:TypeId} {x:Operand} (hρ:Knows σ ρ) (h:sop P σ w.heap K Qp (.box x)):
  Gives P (do pure (.value (←Instr.box t (ρ x)))) w K:=by
 simp only[sop]at h
 split at h
 ·rename_i v hv
  rw[hρ x v hv]
  refine Gives.val (v:=.pointer (some ⟨w.heap.size,0,none⟩)) (w':={w with heap:=w.heap.push (.cells v.cells t)}) ?_ ⟨rfl,rfl,rfl⟩ (h _ _ (grow_of_push w.heap v.cells.toList t))
  simp[Instr.box,newVar,newRow]
 ·exact h.elim
theorem foldl_splice (off:Nat):∀(vs:List Value) (j:Nat) (z:List Value),off+j+vs.length≤z.length→
  (vs.zipIdx j).foldl (fun(cs:Array Value) (x:Value×Nat)=>cs.setIfInBounds (off+x.2) x.1) ⟨z⟩=⟨splice z (off+j) vs⟩
 |[],j,z,_=>by simp[splice_nil]
 |v::vs,j,z,h=>by
  simp only[List.length_cons]at h
  simp only[List.zipIdx_cons,List.foldl_cons,setIfInBounds_list]
  rw[foldl_splice off vs (j+1) (z.set (off+j) v) (by simp;omega),splice_cons z (off+j) v vs (by omega)]
  rfl
theorem fill_eq {place:Nat→Option (Nat×Nat)} (hρ:Knows σ ρ):∀(parts:List (Nat×Operand)) (ps:List (Nat×Nat)) (vs z l:List Value),
  parts.map (fun p=>place p.1)=ps.map some→evs σ (parts.map (·.2))=some vs→fillL z ps vs=some l→
  Instr.fill place ⟨z⟩ (parts.map fun p=>(p.1,ρ p.2))=some ⟨l⟩
 |[],ps,vs,z,l,hp,hv,hf=>by
  have h1:ps=[]:=by cases ps<;>simp at hp⊢
  simp[evs]at hv
  subst h1;subst hv
  simp[fillL]at hf
  simp[Instr.fill,hf]
 |(i,x)::parts,ps,vs,z,l,hp,hv,hf=>by
  cases ps with
  |nil=>simp at hp
  |cons p ps=>
   obtain⟨off,n⟩:=p
   simp only[List.map_cons,List.cons.injEq]at hp
   simp only[List.map_cons,evs]at hv
   split at hv
   ·rename_i v us hx hus
    simp at hv;subst hv
    simp only[fillL]at hf
    split at hf
    ·rename_i hc
     obtain⟨hc1,hc2⟩:=hc
     have ih:=fill_eq hρ parts ps us _ l hp.2 hus hf
     simp only[List.map_cons,Instr.fill,hp.1,hρ x v hx]
     have hs:v.cells.size=n:=by rw[←hc1];simp
     have hz:(⟨z⟩:Array Value).size=z.length:=rfl
     rw[if_neg (by rw[hz];simp[hs];omega)]
     have:=foldl_splice off v.cells.toList 0 z (by rw[hc1];omega)
     rw[Nat.add_zero]at this
     have e2:v.cells.zipIdx.foldl (fun(cs:Array Value) (x:Value×Nat)=>cs.setIfInBounds (off+x.2) x.1) ⟨z⟩=⟨splice z off v.cells.toList⟩:=by
      rw[←this,←Array.foldl_toList,Array.toList_zipIdx]
     exact(congrArg (fun c=>Instr.fill place c _) e2).trans ih
    ·simp at hf
   ·simp at hv
theorem placesOf_map (qs:List (Nat×Nat)):∀(parts:List (Nat×Operand)) (ps:List (Nat×Nat)),placesOf qs parts=some ps→
  parts.map (fun p=>qs[p.1]?)=ps.map some
 |[],ps,h=>by simp[placesOf]at h;subst h;rfl
 |(i,x)::parts,ps,h=>by
  simp only[placesOf]at h
  split at h
  ·rename_i p ps' hp hps
   simp at h;subst h
   simp[hp,placesOf_map qs parts ps' hps]
  ·simp at h
theorem run_listMapM_places:∀(fs:List Field) (qs:List (Nat×Nat)),fieldPl P fs=some qs→∀w:World,
  (fs.mapM fun f=>(do pure (f.offset,←sizeOf f.type):Sem (Nat×Nat))).run P w=.ok qs w
 |[],qs,h,w=>by simp[fieldPl]at h;subst h;simp
 |f::fs,qs,h,w=>by
  simp only[fieldPl]at h
  split at h
  ·rename_i n ps hn hps
   simp at h;subst h
   have ih:=run_listMapM_places fs ps hps w
   simp only[List.mapM_cons,Sem.run_bind,run_sizeOf' hn,Result.andThen_ok,Sem.run_pure]
   rw[ih];rfl
  ·simp at h
theorem run_arrMapM_places (fs:Array Field) (qs:List (Nat×Nat)) (h:fieldPl P fs.toList=some qs) (w:World):
  (fs.mapM fun f=>(do pure (f.offset,←sizeOf f.type):Sem (Nat×Nat))).run P w=.ok ⟨qs⟩ w:=by
 have e:=Array.mapM_eq_mapM_toList (m:=Sem) (f:=fun f:Field=>(do pure (f.offset,←sizeOf f.type):Sem (Nat×Nat))) (xs:=fs)
 rw[e,Sem.run_map,run_listMapM_places fs.toList qs h w]
 rfl
theorem gives_build_struct {t:TypeId} {z:Value} {fs:Array Field} {qs ps:List (Nat×Nat)} {parts:Array (Nat×Operand)} (hρ:Knows σ ρ) (hz:zeroOf P t=some z)
  (hu:P.underlying t=some (.struct fs)) (hq:fieldPl P fs.toList=some qs) (hp:placesOf qs parts.toList=some ps)
  (h:sop P σ w.heap K Qp (.build z.cells.toList ps (parts.toList.map (·.2)))):
  Gives P (do pure (.value (←Instr.build t (parts.map fun(i,x)=>(i,ρ x))))) w K:=by
 simp only[sop]at h
 split at h
 ·rename_i vs hvs
  split at h
  ·rename_i l hl
   have hf:=fill_eq (place:=fun i:Nat=>qs[i]?) hρ parts.toList ps vs z.cells.toList l (placesOf_map qs _ _ hp) hvs hl
   refine Gives.same (v:=.agg ⟨l⟩) ?_ h
   have hq':=run_arrMapM_places fs qs hq w
   have hm:(parts.map fun(i,x)=>(i,ρ x)).toList=parts.toList.map fun p=>(p.1,ρ p.2):=by simp
   simp only[Instr.build,Sem.run_bind,run_zeroValue' hz,Result.andThen_ok,run_underlying' hu,hq',hm]
   have hg:(fun i=>(⟨qs⟩:Array (Nat×Nat))[i]?)=fun i:Nat=>qs[i]? :=by funext i;simp
   rw[hg]
   have hf':Instr.fill (fun i:Nat=>qs[i]?) z.cells (parts.toList.map fun p=>(p.1,ρ p.2))=some ⟨l⟩:=hf
   rw[hf']
   rfl
  ·exact h.elim
 ·exact h.elim
theorem placesArr_map (size:Nat):∀(parts:List (Nat×Operand)),parts.map (fun p=>some (p.1*size,size))=(placesArr size parts).map some
 |[]=>rfl
 |(i,x)::parts=>by simp[placesArr,placesArr_map size parts]
theorem gives_build_array {t e:TypeId} {z:Value} {n size:Nat} {parts:Array (Nat×Operand)} (hρ:Knows σ ρ) (hz:zeroOf P t=some z)
  (hu:P.underlying t=some (.array n e)) (hs:szOf P e=some size)
  (h:sop P σ w.heap K Qp (.build z.cells.toList (placesArr size parts.toList) (parts.toList.map (·.2)))):
  Gives P (do pure (.value (←Instr.build t (parts.map fun(i,x)=>(i,ρ x))))) w K:=by
 simp only[sop]at h
 split at h
 ·rename_i vs hvs
  split at h
  ·rename_i l hl
   have hf:=fill_eq (place:=fun i=>some (i*size,size)) hρ parts.toList _ vs z.cells.toList l (placesArr_map size _) hvs hl
   refine Gives.same (v:=.agg ⟨l⟩) ?_ h
   have hm:(parts.map fun(i,x)=>(i,ρ x)).toList=parts.toList.map fun p=>(p.1,ρ p.2):=by simp
   simp only[Instr.build,Sem.run_bind,run_zeroValue' hz,Result.andThen_ok,run_underlying' hu,run_sizeOf' hs,hm]
   have hf':Instr.fill (fun i=>some (i*size,size)) z.cells (parts.toList.map fun p=>(p.1,ρ p.2))=some ⟨l⟩:=hf
   rw[hf']
   rfl
  ·exact h.elim
 ·exact h.elim
theorem range_zeros (z:Array Value) (n:Nat):((Array.range (n*z.size)).map (fun i=>z[i%z.size]!))=⟨(List.replicate n z.toList).flatten⟩:=by
 apply Array.ext'
 simp only[Array.toList_map,Array.toList_range]
 induction n with
 |zero=>simp
 |succ n ih=>
  rw[Nat.succ_mul,List.range_add,List.map_append,ih,List.replicate_succ',List.flatten_append]
  congr 1
  simp only[List.map_map,List.flatten_cons,List.flatten_nil,List.append_nil]
  apply List.ext_getElem?
  intro i
  simp only[List.getElem?_map,Array.getElem?_toList]
  by_cases hi:i<z.size
  ·simp[hi,Nat.add_mod,Nat.mod_eq_of_lt hi]
  ·simp[hi]
theorem zeros_spec {e:TypeId} {size:Nat} {z:List Value} (h:zeros P e size=some z):∃v,zeroOf P e=some v∧v.cells.toList=z∧v.cells.size=size:=by
 unfold zeros at h
 split at h
 ·rename_i v hv
  split at h
  ·rename_i hs
   simp at h
   exact⟨v,hv,h,by simpa using hs⟩
  ·simp at h
 ·simp at h
theorem gives_bslice {t e:TypeId} {n size:Nat} {z:List Value} {parts:Array (Nat×Operand)} (hρ:Knows σ ρ)
  (hu:P.underlying t=some (.slice e)) (hs:szOf P e=some size) (hn:n*size≤65536) (hz:zeros P e size=some z)
  (h:sop P σ w.heap K Qp (.bslice ((List.replicate n z).flatten) n (placesArr size parts.toList) (parts.toList.map (·.2)))):
  Gives P (do pure (.value (←Instr.buildSlice t n (parts.map fun(i,x)=>(i,ρ x))))) w K:=by
 obtain⟨zv,hzv,rfl,hzs⟩:=zeros_spec hz
 simp only[sop]at h
 split at h
 ·rename_i vs hvs
  split at h
  ·rename_i l hl
   have hf:=fill_eq (place:=fun i=>some (i*size,size)) hρ parts.toList _ vs _ l (placesArr_map size _) hvs hl
   refine Gives.val (v:=.slice (some ⟨w.heap.size,0,none⟩) n n) (w':={w with heap:=w.heap.push (.cells ⟨l⟩ e)}) ?_ ⟨rfl,rfl,rfl⟩ (h _ _ (grow_of_push w.heap l e))
   have hm:(parts.map fun(i,x)=>(i,ρ x)).toList=parts.toList.map fun p=>(p.1,ρ p.2):=by simp
   have hle:¬n*size>2 ^ 24:=by omega
   have hr:=range_zeros zv.cells n
   rw[hzs]at hr
   by_cases h0:n*size=0
   ·have hz0:(List.replicate n zv.cells.toList).flatten=[]:=by
     have q:(⟨(List.replicate n zv.cells.toList).flatten⟩:Array Value)= #[]:=by
      rw[←hr,h0,Array.range_zero'];simp
     exact congrArg Array.toList q
    rw[hz0]at hf
    have hf':Instr.fill (fun i=>some (i*size,size)) #[] (parts.toList.map fun p=>(p.1,ρ p.2))=some ⟨l⟩:=hf
    simp[Instr.buildSlice,run_underlying' hu,run_sizeOf' hs,h0,hf',newRow,Array.range_zero']
   ·simp only[Instr.buildSlice,Sem.run_bind,run_underlying' hu,Result.andThen_ok,run_sizeOf' hs,hle,if_false,h0,run_zeroValue' hzv,Sem.run_pure,hm,hzs]
    simp only[hr,hf]
    rfl
  ·exact h.elim
 ·exact h.elim
end Go.Sx
namespace Go.Sx
open Go
variable {P:Program} {σ:Env} {ρ:Operand→Value} {w:World} {K:Value→Heap→Prop} {Qp:List PanicEntry→Heap→Prop}
theorem gives_ld1 {t:TypeId} {x:Operand} (hρ:Knows σ ρ) (hg:aggOf P t=some false) (h:sop P σ w.heap K Qp (.ld1 x)):
  Gives P (do pure (.value (←Instr.loadAt t (ρ x)))) w K:=by
 simp only[sop]at h
 split at h
 ·rename_i b o hx
  obtain⟨v,hc,hk⟩:=h
  rw[hρ x _ hx]
  exact Gives.same (run_loadAt1 hg w rfl hc) hk
 ·exact h.elim
theorem gives_ldn {t:TypeId} {n:Nat} {x:Operand} (hρ:Knows σ ρ) (hg:aggOf P t=some true) (hs:szOf P t=some n) (h:sop P σ w.heap K Qp (.ldn n x)):
  Gives P (do pure (.value (←Instr.loadAt t (ρ x)))) w K:=by
 simp only[sop]at h
 split at h
 ·rename_i b o hx
  obtain⟨vs,hn,hc,hk⟩:=h
  rw[hρ x _ hx]
  exact Gives.same (run_loadAtN hg hs hn w rfl hc) hk
 ·exact h.elim
theorem gives_st {t:TypeId} {n:Nat} {x v:Operand} (hρ:Knows σ ρ) (hs:szOf P t=some n) (h:sop P σ w.heap K Qp (.st n x v)):
  Gives P (do Instr.storeAt t (ρ x) (ρ v);pure .skip) w K:=by
 simp only[sop]at h
 split at h
 ·rename_i b o v' hx hv
  obtain⟨l,⟨e,hb⟩,hfit,hn,h1,hk⟩:=h
  obtain⟨w',hr,hsame,hheap⟩:=run_storeCells' (P:=P) b e v'.cells.toList 0 o l w hb (by rw[hn];omega) h1
  rw[Nat.add_zero]at hheap
  rw[hρ x _ hx,hρ v _ hv]
  refine⟨undef,w',.inr ⟨?_,rfl⟩,hsame,hk _ ?_⟩
  ·have hne:¬(v'.cells.size≠n):=by simp at hn;simp[hn]
   have hr':(storeCells ⟨b,o,none⟩ v'.cells.toList).run P w=.ok () w':=hr
   simp only[Instr.storeAt,Instr.sureAddr,storeVar,Sem.run_bind,Sem.run_pure,Result.andThen_ok,run_sizeOf' hs]
   rw[if_neg hne]
   simp[hr']
  ·rw[hheap];exact put_of_set hb
 ·exact h.elim
theorem gives_nilck {x:Operand} (hρ:Knows σ ρ) (h:sop P σ w.heap K Qp (.nilck x)) (o:Oper) (ho:o.op=.nilCheck x):Gives P (execOp ρ o) w K:=by
 simp only[sop]at h
 split at h
 ·rename_i a hx
  exact⟨_,w,.inl (by simp[execOp,ho,hρ x _ hx]),SameB.refl w,h⟩
 ·rename_i f fi c hx
  exact⟨_,w,.inl (by simp[execOp,ho,hρ x _ hx]),SameB.refl w,h⟩
 ·rename_i f fi c hx
  exact⟨_,w,.inl (by simp[execOp,ho,hρ x _ hx]),SameB.refl w,h⟩
 ·exact h.elim
theorem run_eqGuard_int (op:BinOp) (t:TypeId) (x y:Operand) (k k':IntKind) (a b:Int) (w:World):(eqGuard op t x y (.int k a) (.int k' b)).run P w=.ok () w:=by
 cases op<;>simp[eqGuard]
theorem run_eqGuard_str (op:BinOp) (t:TypeId) (x y:Operand) (a b:ByteArray) (w:World):(eqGuard op t x y (.string a) (.string b)).run P w=.ok () w:=by
 cases op<;>simp[eqGuard]
theorem run_eqGuard_bool (op:BinOp) (t:TypeId) (x y:Operand) (a b:Bool) (w:World):(eqGuard op t x y (.bool a) (.bool b)).run P w=.ok () w:=by
 cases op<;>simp[eqGuard]
abbrev binSem (op:BinOp) (t:TypeId) (x y:Operand) (a b:Value):Sem Next:=do pure (.value (←(do eqGuard op t x y a b;binOp op t a b)))
theorem Gives.bin {op:BinOp} {t:TypeId} {x y:Operand} {a b v:Value} (hg:(eqGuard op t x y a b).run P w=.ok () w) (hr:(binOp op t a b).run P w=.ok v w) (hk:K v w.heap):
  Gives P (binSem op t x y a b) w K:=
 ⟨v,w,.inl (by simp[binSem,hg,hr]),SameB.refl w,hk⟩
theorem gives_ar {op:BinOp} {t:TypeId} {x y:Operand} (hop:op=.add∨op=.sub∨op=.mul) (hρ:Knows σ ρ) (h:sop P σ w.heap K Qp (.ar op x y)):
  Gives P (binSem op t x y (ρ x) (ρ y)) w K:=by
 simp only[sop]at h
 split at h
 ·rename_i k a k' b hx hy
  obtain⟨rfl,hk⟩:=h
  rw[hρ x _ hx,hρ y _ hy]
  refine Gives.bin (run_eqGuard_int _ _ _ _ _ _ _ _ _) ?_ (hk _ rfl)
  rcases hop with rfl|rfl|rfl<;>simp[binOp,Op.intArith,arith]
 ·exact h.elim
theorem gives_bit {op:BinOp} {t:TypeId} {x y:Operand} (hop:op=.and∨op=.or∨op=.xor∨op=.andNot) (hρ:Knows σ ρ) (h:sop P σ w.heap K Qp (.bit op x y)):
  Gives P (binSem op t x y (ρ x) (ρ y)) w K:=by
 simp only[sop]at h
 split at h
 ·rename_i k a k' b hx hy
  obtain⟨rfl,hk⟩:=h
  rw[hρ x _ hx,hρ y _ hy]
  refine Gives.bin (run_eqGuard_int _ _ _ _ _ _ _ _ _) ?_ (hk _ rfl)
  rcases hop with rfl|rfl|rfl|rfl<;>simp[binOp,Op.intBits,bitw]
 ·exact h.elim
theorem gives_quo {t:TypeId} {x y:Operand} (hρ:Knows σ ρ) (h:sop P σ w.heap K Qp (.quo x y)):Gives P (binSem .quo t x y (ρ x) (ρ y)) w K:=by
 simp only[sop]at h
 split at h
 ·rename_i k a k' b hx hy
  obtain⟨rfl,hb,hk⟩:=h
  rw[hρ x _ hx,hρ y _ hy]
  refine Gives.bin (run_eqGuard_int _ _ _ _ _ _ _ _ _) ?_ (hk _ rfl)
  simp[binOp,Op.intDiv,hb]
 ·exact h.elim
theorem gives_rem {t:TypeId} {x y:Operand} (hρ:Knows σ ρ) (h:sop P σ w.heap K Qp (.rem x y)):Gives P (binSem .rem t x y (ρ x) (ρ y)) w K:=by
 simp only[sop]at h
 split at h
 ·rename_i k a k' b hx hy
  obtain⟨rfl,hb,hk⟩:=h
  rw[hρ x _ hx,hρ y _ hy]
  refine Gives.bin (run_eqGuard_int _ _ _ _ _ _ _ _ _) ?_ (hk _ rfl)
  simp[binOp,Op.intDiv,hb]
 ·exact h.elim
theorem gives_sh {op:BinOp} {t:TypeId} {x:Operand} {kt k2:IntKind} {n:Int} (hop:op=.shl∨op=.shr) (h0:0≤n) (hn:n.toNat≤kt.bits)
  (hρ:Knows σ ρ) (h:sop P σ w.heap K Qp (.sh kt (match op with|.shl=>true|_=>false) n.toNat x)):
  Gives P (binSem op t x (.const (.int k2 n)) (ρ x) (.int k2 n)) w K:=by
 simp only[sop]at h
 split at h
 ·rename_i k a hx
  obtain⟨rfl,h⟩:=h
  rw[hρ x _ hx]
  have hlt:¬n<0:=by omega
  have hmin:min n.toNat k.bits=n.toNat:=Nat.min_eq_left hn
  refine Gives.bin (run_eqGuard_int _ _ _ _ _ _ _ _ _) ?_ (h _ rfl)
  rcases hop with rfl|rfl<;>simp[binOp,Op.shift,hlt,hmin]
 ·exact h.elim
theorem bytes_ext {a b:ByteArray} (h:a.toList=b.toList):a=b:=by
 rw[ByteArray.toList_eq,ByteArray.toList_eq]at h
 obtain⟨⟨x⟩⟩:=a
 obtain⟨⟨y⟩⟩:=b
 simp at h
 rw[h]
theorem bytes_eq {a b:ByteArray}:(a.toList==b.toList)=decide (a=b):=by
 by_cases h:a=b
 ·subst h;simp
 ·rw[decide_eq_false h];exact beq_eq_false_iff_ne.2 fun e=>h (bytes_ext e)
theorem Gives.either {op:BinOp} {t:TypeId} {x y:Operand} {a b:Value} {p:Prop} (hg:(eqGuard op t x y a b).run P w=.ok () w)
  (ht:p→(binOp op t a b).run P w=.ok (.bool true) w) (hf:¬p→(binOp op t a b).run P w=.ok (.bool false) w) (hk:either p K w.heap):
  Gives P (binSem op t x y a b) w K:=by
 by_cases hp:p
 ·exact Gives.bin hg (ht hp) (hk.1 hp)
 ·exact Gives.bin hg (hf hp) (hk.2 hp)
theorem gives_cmp {op:BinOp} {t:TypeId} {x y:Operand} (hρ:Knows σ ρ) (h:sop P σ w.heap K Qp (.cmp op x y)):
  Gives P (binSem op t x y (ρ x) (ρ y)) w K:=by
 simp only[sop]at h
 split at h<;>first
  |exact h.elim
  |(rename_i k a k' b hx hy
    obtain⟨rfl,hk⟩:=h
    rw[hρ x _ hx,hρ y _ hy]
    refine Gives.either (run_eqGuard_int _ _ _ _ _ _ _ _ _) ?_ ?_ hk<;>intro hp<;>simp[binOp,Op.intCmp]<;>first|exact hp|omega|(intro hc;exact hp hc)|skip)
  |(rename_i a b hx hy
    rw[hρ x _ hx,hρ y _ hy]
    refine Gives.either (run_eqGuard_str _ _ _ _ _ _ _) ?_ ?_ h<;>intro hp<;>simp[binOp,Op.stringOp,bytes_eq,sless]at hp⊢ <;>first|exact hp|skip)
theorem gives_cmpb {op:BinOp} {t:TypeId} {x y:Operand} {neg:Bool} (hop:(op=.eql∧neg=false)∨(op=.neq∧neg=true)) (hkd:kdOf P t=some .bool) (hρ:Knows σ ρ)
  (h:sop P σ w.heap K Qp (.cmpb neg x y)):
  Gives P (binSem op t x y (ρ x) (ρ y)) w K:=by
 simp only[sop]at h
 split at h
 ·rename_i a b hx hy
  have hu:=kdOf_under hkd
  rw[hρ x _ hx,hρ y _ hy]
  by_cases hab:a=b
  ·refine Gives.bin (run_eqGuard_bool _ _ _ _ _ _ _) ?_ (h.1 hab)
   subst hab
   rcases hop with⟨rfl,rfl⟩|⟨rfl,rfl⟩<;>simp[binOp,Op.equal,Op.maxDepth,run_equalIn_bool' _ _ _ _ _ hu]
  ·refine Gives.bin (run_eqGuard_bool _ _ _ _ _ _ _) ?_ (h.2 hab)
   have hb:(a==b)=false:=by simp[hab]
   rcases hop with⟨rfl,rfl⟩|⟨rfl,rfl⟩<;>simp[binOp,Op.equal,Op.maxDepth,run_equalIn_bool' _ _ _ _ _ hu,hb]
 ·exact h.elim
theorem gives_cat {t:TypeId} {x y:Operand} (hρ:Knows σ ρ) (h:sop P σ w.heap K Qp (.cat x y)):Gives P (binSem .add t x y (ρ x) (ρ y)) w K:=by
 simp only[sop]at h
 split at h
 ·rename_i a b hx hy
  rw[hρ x _ hx,hρ y _ hy]
  refine Gives.bin (run_eqGuard_str _ _ _ _ _ _ _) ?_ h.2
  have hlt:¬(((a.size+b.size:Nat):Int)>IntKind.i64.max):=by
   have:IntKind.i64.max=9223372036854775807:=rfl
   rw[this];have:=h.1;omega
  simp only[binOp,Op.stringOp]
  rw[if_neg hlt];rfl
 ·exact h.elim
theorem gives_un {op:UnOp} {x:Operand} (hρ:Knows σ ρ) (h:sop P σ w.heap K Qp (.un op x)):Gives P (do pure (.value (←Op.unary op (ρ x)))) w K:=by
 simp only[sop]at h
 split at h
 ·rename_i t hx
  rw[hρ x _ hx]
  exact Gives.same (by simp[Op.unary]) h
 ·rename_i k a hx
  rw[hρ x _ hx]
  exact Gives.same (by simp[Op.unary,Op.intArith]) (h _ rfl)
 ·rename_i k a hx
  rw[hρ x _ hx]
  exact Gives.same (by simp[Op.unary,Op.intBits,bitw,ones]) (h _ rfl)
 ·exact h.elim
theorem gives_fa {t:TypeId} {fs:Array Field} {f n:Nat} {fl:Field} {x:Operand} (hρ:Knows σ ρ) (hu:P.underlying t=some (.struct fs)) (hf:fs[f]? =some fl)
  (hs:szOf P fl.type=some (n+1)) (h:sop P σ w.heap K Qp (.fa fl.offset x)):Gives P (do pure (.value (←Instr.fieldAt t (ρ x) f))) w K:=by
 simp only[sop]at h
 split at h
 ·rename_i b o hx
  rw[hρ x _ hx]
  exact Gives.same (run_fieldAt hu hf hs b o w) h
 ·exact h.elim
theorem gives_fl1 {t:TypeId} {fs:Array Field} {f:Nat} {fl:Field} {x:Operand} (hρ:Knows σ ρ) (hu:P.underlying t=some (.struct fs)) (hf:fs[f]? =some fl)
  (hg:aggOf P fl.type=some false) (h:sop P σ w.heap K Qp (.fl1 fl.offset x)):Gives P (do pure (.value (←Instr.field t (ρ x) f))) w K:=by
 simp only[sop]at h
 split at h
 ·rename_i cs hx
  split at h
  ·rename_i v hv
   rw[hρ x _ hx]
   refine Gives.same (v:=v) ?_ h
   have hv':cs[fl.offset]? =some v:=by simpa using hv
   simp[Instr.field,run_underlying' hu,hf,part,run_isAgg' hg,asAgg,hv']
  ·exact h.elim
 ·exact h.elim
theorem gives_fln {t:TypeId} {fs:Array Field} {f n:Nat} {fl:Field} {x:Operand} (hρ:Knows σ ρ) (hu:P.underlying t=some (.struct fs)) (hf:fs[f]? =some fl)
  (hg:aggOf P fl.type=some true) (hs:szOf P fl.type=some n) (h:sop P σ w.heap K Qp (.fln fl.offset n x)):Gives P (do pure (.value (←Instr.field t (ρ x) f))) w K:=by
 simp only[sop]at h
 split at h
 ·rename_i cs hx
  rw[hρ x _ hx]
  refine Gives.same ?_ h.2
  have he:cs.extract fl.offset (fl.offset+n)=⟨(cs.toList.drop fl.offset).take n⟩:=by
   apply Array.ext'
   simp[List.extract_eq_take_drop]
  simp[Instr.field,run_underlying' hu,hf,part,run_isAgg' hg,asAgg,run_sizeOf' hs,he]
 ·exact h.elim
theorem gives_ixa {t e:TypeId} {n size:Nat} {x i:Operand} (hρ:Knows σ ρ) (hu:P.underlying t=some (.array n e)) (hs:szOf P e=some size)
  (h:sop P σ w.heap K Qp (.ixa n size x i)):Gives P (do pure (.value (←Instr.indexAt t (ρ x) (ρ i)))) w K:=by
 simp only[sop]at h
 split at h
 ·rename_i b o k j hx hi
  obtain⟨h0,h1,hk⟩:=h
  rw[hρ x _ hx,hρ i _ hi]
  refine Gives.same ?_ hk
  simp[Instr.indexAt,asIntOf,run_underlying' hu,Instr.sureAddr,h0,h1,run_sizeOf' hs,addr_add]
 ·exact h.elim
theorem gives_ixs {t e:TypeId} {size:Nat} {x i:Operand} (hρ:Knows σ ρ) (hu:P.underlying t=some (.slice e)) (hs:szOf P e=some size)
  (h:sop P σ w.heap K Qp (.ixs size x i)):Gives P (do pure (.value (←Instr.indexAt t (ρ x) (ρ i)))) w K:=by
 simp only[sop]at h
 split at h
 ·rename_i b o n c k j hx hi
  obtain⟨h0,h1,hk⟩:=h
  rw[hρ x _ hx,hρ i _ hi]
  refine Gives.same ?_ hk
  simp[Instr.indexAt,asIntOf,run_underlying' hu,h0,h1,run_sizeOf' hs,addr_add]
 ·exact h.elim
theorem gives_ixc {t:TypeId} {x i:Operand} (hρ:Knows σ ρ) (hu:P.underlying t=some .string)
  (h:sop P σ w.heap K Qp (.ixc x i)):Gives P (do pure (.value (←Instr.index t (ρ x) (ρ i)))) w K:=by
 simp only[sop]at h
 split at h
 ·rename_i s k j hx hi
  obtain⟨c,h0,h1,hk⟩:=h
  rw[hρ x _ hx,hρ i _ hi]
  refine Gives.same ?_ hk
  simp[Instr.index,asIntOf,run_underlying' hu,h0,h1]
 ·exact h.elim
theorem gives_len {t e:TypeId} {x:Operand} {args:Array TypeId} {ty:TypeId} (hρ:Knows σ ρ) (ha:args= #[t]) (hu:P.underlying t=some (.slice e))
  (h:sop P σ w.heap K Qp (.len x)):Gives P (do pure (.value (←Builtin.len_ args ty #[ρ x]))) w K:=by
 subst ha
 simp only[sop]at h
 split at h
 ·rename_i a n c hx
  rw[hρ x _ hx]
  exact Gives.same (by simp[Builtin.len_,run_underlying' hu,goInt]) h
 ·exact h.elim
theorem gives_lens {t:TypeId} {x:Operand} {args:Array TypeId} {ty:TypeId} (hρ:Knows σ ρ) (ha:args= #[t]) (hu:P.underlying t=some .string)
  (h:sop P σ w.heap K Qp (.lens x)):Gives P (do pure (.value (←Builtin.len_ args ty #[ρ x]))) w K:=by
 subst ha
 simp only[sop]at h
 split at h
 ·rename_i s hx
  rw[hρ x _ hx]
  exact Gives.same (by simp[Builtin.len_,run_underlying' hu,goInt]) h
 ·exact h.elim
theorem gives_capc {t e:TypeId} {x:Operand} {args:Array TypeId} {ty:TypeId} (hρ:Knows σ ρ) (ha:args= #[t]) (hu:P.underlying t=some (.slice e))
  (h:sop P σ w.heap K Qp (.capc x)):Gives P (do pure (.value (←Builtin.cap_ args ty #[ρ x]))) w K:=by
 subst ha
 simp only[sop]at h
 split at h
 ·rename_i a n c hx
  rw[hρ x _ hx]
  exact Gives.same (by simp[Builtin.cap_,run_underlying' hu,goInt]) h
 ·exact h.elim
theorem gives_ext {x:Operand} {i:Nat} (hρ:Knows σ ρ) (h:sop P σ w.heap K Qp (.ext x i)):Gives P (do pure (.value (←Instr.extract (ρ x) i))) w K:=by
 simp only[sop]at h
 split at h
 ·rename_i vs hx
  split at h
  ·rename_i v hv
   rw[hρ x _ hx]
   have hv':vs[i]? =some v:=by simpa using hv
   exact Gives.same (by simp[Instr.extract,hv']) h
  ·exact h.elim
 ·exact h.elim
theorem gives_fn {f:Nat} {a c:Array Operand} (hρ:Knows σ ρ) (h:sop P σ w.heap K Qp (.fn f a.toList c.toList)):
  Gives P (do pure (.value (←Instr.makeFunc (.func f) (a.map ρ) (c.map ρ)))) w K:=by
 simp only[sop]at h
 split at h
 ·rename_i va vc ha hc
  have e1:a.map ρ=⟨va⟩:=by apply Array.ext';simp[hρ.list _ _ ha]
  have e2:c.map ρ=⟨vc⟩:=by apply Array.ext';simp[hρ.list _ _ hc]
  rw[e1,e2]
  exact Gives.same (by simp[Instr.makeFunc]) h
 ·exact h.elim
theorem gives_cvt {s d:TypeId} {ks k:IntKind} {x:Operand} (hρ:Knows σ ρ) (hs:P.underlying s=some (.int ks)) (hd:P.underlying d=some (.int k))
  (h:sop P σ w.heap K Qp (.cvt k x)):Gives P (do pure (.value (←convert s d (ρ x)))) w K:=by
 simp only[sop]at h
 split at h
 ·rename_i k' a hx
  rw[hρ x _ hx]
  exact Gives.same (by simp[convert,run_underlying' hs,run_underlying' hd,Conv.intToInt]) (h _ rfl)
 ·exact h.elim
theorem gives_cvs {s d:TypeId} {x:Operand} (hρ:Knows σ ρ) (hs:P.underlying s=some .string) (hd:P.underlying d=some .string)
  (h:sop P σ w.heap K Qp (.cvs x)):Gives P (do pure (.value (←convert s d (ρ x)))) w K:=by
 simp only[sop]at h
 split at h
 ·rename_i s hx
  rw[hρ x _ hx]
  exact Gives.same (by simp[convert,run_underlying' hs,run_underlying' hd]) h
 ·exact h.elim
theorem gives_bstr {s d e:TypeId} {x:Operand} (hρ:Knows σ ρ) (hs:P.underlying s=some (.slice e)) (he:P.underlying e=some (.int .u8)) (hd:P.underlying d=some .string)
  (h:sop P σ w.heap K Qp (.bstr x)):Gives P (do pure (.value (←convert s d (ρ x)))) w K:=by
 simp only[sop]at h
 split at h
 ·rename_i a n c hx
  obtain⟨bs,hn,hsrc,hk⟩:=h
  rw[hρ x _ hx]
  cases a with
  |none=>
   have h0:n=0:=hsrc
   have:bs=[]:=by rw[h0]at hn;simpa using hn
   subst this
   refine Gives.same (v:=.string ⟨⟨[]⟩⟩) ?_ hk
   exact(run_convert_bytes_nil w s e hs he n c d hd).trans rfl
  |some a=>
   obtain⟨b,o,sp⟩:=a
   cases sp with
   |some q=>exact hsrc.elim
   |none=>
    have hsrc:Cells w.heap b o (bs.map fun b=>.int .u8 b.toNat):=hsrc
    refine Gives.same (v:=.string ⟨⟨bs⟩⟩) ?_ hk
    have hcell:∀i,i<n→w.cell? ⟨b,o+i,none⟩=some (.int .u8 ((bs.map fun b=>(b.toNat:Int)).getD i 0)):=by
     intro i hi
     have hib:i<bs.length:=by omega
     rw[cell_eq]
     refine hsrc i _ ?_
     simp[List.getD,hib]
    have e1:strOfNums (bs.map fun b=>(b.toNat:Int))=⟨⟨bs⟩⟩:=by
     unfold strOfNums
     have:(bs.map fun b=>(b.toNat:Int)).map (fun n=>UInt8.ofNat n.toNat)=bs:=by
      rw[List.map_map]
      conv=>rhs;rw[←List.map_id bs]
      refine List.map_congr_left fun x _=>?_
      simp
     rw[this]
    rw[←e1]
    exact run_convert_bytes_arg w s e hs he b o n c (bs.map fun b=>(b.toNat:Int)) (by simp[hn]) hcell d hd
 ·exact h.elim
theorem gives_mn {x y:Operand} {args:Array TypeId} {ty:TypeId} (hρ:Knows σ ρ) (h:sop P σ w.heap K Qp (.mn x y)):
  Gives P (do pure (.value (←Builtin.min_ args ty #[ρ x,ρ y]))) w K:=by
 simp only[sop]at h
 split at h
 ·rename_i k a k' b hx hy
  obtain⟨rfl,hk⟩:=h
  rw[hρ x _ hx,hρ y _ hy]
  refine Gives.same (v:=.int k (min a b)) ?_ hk
  have:(if b<a then b else a)=min a b:=by simp only[Int.min_def];split<;>split<;>omega
  simp[Builtin.min_,Builtin.min2,this]
 ·exact h.elim
theorem gives_mx {x y:Operand} {args:Array TypeId} {ty:TypeId} (hρ:Knows σ ρ) (h:sop P σ w.heap K Qp (.mx x y)):
  Gives P (do pure (.value (←Builtin.max_ args ty #[ρ x,ρ y]))) w K:=by
 simp only[sop]at h
 split at h
 ·rename_i k a k' b hx hy
  obtain⟨rfl,hk⟩:=h
  rw[hρ x _ hx,hρ y _ hy]
  refine Gives.same (v:=.int k (max a b)) ?_ hk
  have:(if b>a then b else a)=max a b:=by simp only[Int.max_def];split<;>split<;>omega
  simp[Builtin.max_,Builtin.max2,this]
 ·exact h.elim
theorem gives_mki {t:TypeId} {d:TypeDesc} {x:Operand} (hρ:Knows σ ρ) (hu:P.underlying t=some d) (hd:∀ms,d≠.interface ms) (h:sop P σ w.heap K Qp (.mki t x)):
  Gives P (do pure (.value (←Instr.makeInterface t (ρ x)))) w K:=by
 simp only[sop]at h
 split at h
 ·rename_i v hx
  rw[hρ x _ hx]
  refine Gives.same (v:=.iface t v) ?_ h
  cases d<;>simp[Instr.makeInterface,run_underlying' hu]<;>exact absurd rfl (hd _)
 ·exact h.elim
end Go.Sx
namespace Go.Sx
open Go
variable {P:Program} {σ:Env} {ρ:Operand→Value} {w:World} {K:Value→Heap→Prop} {Qp:List PanicEntry→Heap→Prop}
def nilType (kd:Nat) (d:TypeDesc):Prop:=
 match kd with
 |0=>∃e,d=.pointer e
 |1=>∃e,d=.slice e
 |2=>∃k e,d=.map k e
 |3=>∃a b c,d=.func a b c
 |_=>∃ms,d=.interface ms
theorem isNil_val {kd:Nat} {y:Operand} (h:isNil kd y=true):∃c,y=.const c∧nilTest kd c=some true:=by
 unfold isNil at h
 split at h<;>first|(have h':=Nat.eq_of_beq_eq_true h;subst h';exact⟨_,rfl,rfl⟩)|simp at h
theorem eqv_ptr {t e:TypeId} (hu:P.underlying t=some (.pointer e)) (x:Option Addr) (w:World):
  (Op.equal t (.pointer x) (.pointer none)).run P w=.ok x.isNone w∧(Op.equal t (.pointer none) (.pointer x)).run P w=.ok x.isNone w:=by
 constructor<;>unfold Op.equal Op.maxDepth Op.equalIn<;>simp only[Sem.run_bind,run_underlying' hu,Result.andThen_ok]<;>cases x<;>rfl
theorem eqv_slice {t e:TypeId} (hu:P.underlying t=some (.slice e)) (x:Option Addr) (n c n' c':Nat) (w:World):
  (Op.equal t (.slice x n c) (.slice none n' c')).run P w=.ok x.isNone w∧(Op.equal t (.slice none n' c') (.slice x n c)).run P w=.ok x.isNone w:=by
 constructor<;>unfold Op.equal Op.maxDepth Op.equalIn<;>simp only[Sem.run_bind,run_underlying' hu,Result.andThen_ok]<;>cases x<;>rfl
theorem eqv_map {t k e:TypeId} (hu:P.underlying t=some (.map k e)) (x:Option Nat) (w:World):
  (Op.equal t (.map x) (.map none)).run P w=.ok x.isNone w∧(Op.equal t (.map none) (.map x)).run P w=.ok x.isNone w:=by
 constructor<;>unfold Op.equal Op.maxDepth Op.equalIn<;>simp only[Sem.run_bind,run_underlying' hu,Result.andThen_ok]<;>cases x<;>rfl
theorem eqv_func {t:TypeId} {a b:Array TypeId} {c:Bool} (hu:P.underlying t=some (.func a b c)) (fn:Fn) (f1 f2:Array Value) (w:World):
  (Op.equal t (.func fn f1 f2) .nilFunc).run P w=.ok false w∧(Op.equal t .nilFunc (.func fn f1 f2)).run P w=.ok false w∧(Op.equal t .nilFunc .nilFunc).run P w=.ok true w:=by
 refine⟨?_,?_,?_⟩<;>unfold Op.equal Op.maxDepth Op.equalIn<;>simp only[Sem.run_bind,run_underlying' hu,Result.andThen_ok]<;>rfl
theorem eqv_iface {t u:TypeId} {ms:Array (String×TypeId)} (hu:P.underlying t=some (.interface ms)) (v:Value) (w:World):
  (Op.equal t (.iface u v) .nilIface).run P w=.ok false w∧(Op.equal t .nilIface (.iface u v)).run P w=.ok false w∧(Op.equal t .nilIface .nilIface).run P w=.ok true w:=by
 refine⟨?_,?_,?_⟩<;>unfold Op.equal Op.maxDepth Op.equalIn<;>simp only[Sem.run_bind,run_underlying' hu,Result.andThen_ok]<;>rfl
theorem run_nil_equal {t:TypeId} {d:TypeDesc} {kd:Nat} {a b:Value} {r:Bool} (hu:P.underlying t=some d) (hd:nilType kd d)
  (ha:nilTest kd a=some r) (hb:nilTest kd b=some true) (w:World):(Op.equal t a b).run P w=.ok r w∧(Op.equal t b a).run P w=.ok r w:=by
 unfold nilTest at ha
 split at ha
 ·rename_i x
  cases b<;>simp[nilTest]at hb
  subst hb
  obtain⟨e,rfl⟩:=hd
  simp at ha;subst ha
  exact eqv_ptr hu x w
 ·rename_i x n c
  cases b<;>simp[nilTest]at hb
  subst hb
  obtain⟨e,rfl⟩:=hd
  simp at ha;subst ha
  exact eqv_slice hu x n c _ _ w
 ·rename_i x
  cases b<;>simp[nilTest]at hb
  subst hb
  obtain⟨k,e,rfl⟩:=hd
  simp at ha;subst ha
  exact eqv_map hu x w
 ·rename_i f1 f2 f3
  cases b<;>simp[nilTest]at hb
  obtain⟨k,e,c,rfl⟩:=hd
  simp at ha;subst ha
  exact⟨(eqv_func hu f1 f2 f3 w).1,(eqv_func hu f1 f2 f3 w).2.1⟩
 ·cases b<;>simp[nilTest]at hb
  obtain⟨k,e,c,rfl⟩:=hd
  simp at ha;subst ha
  exact⟨(eqv_func hu default #[] #[] w).2.2,(eqv_func hu default #[] #[] w).2.2⟩
 ·cases b<;>simp[nilTest]at hb
  obtain⟨ms,rfl⟩:=hd
  simp at ha;subst ha
  exact⟨(eqv_iface hu (u:=0) undef w).2.2,(eqv_iface hu (u:=0) undef w).2.2⟩
 ·rename_i u v
  cases b<;>simp[nilTest]at hb
  obtain⟨ms,rfl⟩:=hd
  simp at ha;subst ha
  exact⟨(eqv_iface hu v w).1,(eqv_iface hu v w).2.1⟩
 ·simp at ha
theorem nilTest_plain {kd:Nat} {v:Value} {r:Bool} (h:nilTest kd v=some r):
  (∀k n,v≠.int k n)∧(∀s,v≠.string s)∧(∀k n,v≠.float k n)∧(∀k n m,v≠.complex k n m)∧(∀c,v≠.agg c):=by
 refine⟨?_,?_,?_,?_,?_⟩<;>intros<;>rintro rfl<;>unfold nilTest at h<;>split at h<;>simp_all
theorem run_eqGuard_nil (op:BinOp) (t:TypeId) (x y:Operand) {kd:Nat} {a b:Value} {r q:Bool} (ha:nilTest kd a=some r) (hb:nilTest kd b=some q)
  (hc:(∃c,x=.const c)∨(∃c,y=.const c)) (w:World):(eqGuard op t x y a b).run P w=.ok () w:=by
 unfold nilTest at ha hb
 split at ha<;>simp at ha<;>split at hb<;>simp at hb<;>rcases hc with⟨c,rfl⟩|⟨c,rfl⟩<;>cases op<;>simp[eqGuard]
theorem run_binOp_nil {op:BinOp} {t:TypeId} {a b:Value} {r neg:Bool} {kd:Nat} {r1:Bool} (hop:(op=.eql∧neg=false)∨(op=.neq∧neg=true))
  (ha:nilTest kd a=some r1) (hr:(Op.equal t a b).run P w=.ok r w):
  (binOp op t a b).run P w=.ok (.bool (bif r then !neg else neg)) w:=by
 obtain⟨h1,h2,h3,h4,h5⟩:=nilTest_plain ha
 rcases hop with⟨rfl,rfl⟩|⟨rfl,rfl⟩<;>cases a<;>simp_all [binOp]<;>cases r<;>rfl
theorem gives_eqn {op:BinOp} {t:TypeId} {d:TypeDesc} {kd:Nat} {x y:Operand} {s:SOp} {neg:Bool} (hop:(op=.eql∧neg=false)∨(op=.neq∧neg=true)) (hρ:Knows σ ρ)
  (hu:P.underlying t=some d) (hd:nilType kd d) (hs:eqNil kd neg x y=some s)
  (h:sop P σ w.heap K Qp s):Gives P (binSem op t x y (ρ x) (ρ y)) w K:=by
 unfold eqNil at hs
 split at hs
 ·rename_i hy
  simp at hs;subst hs
  obtain⟨c,rfl,hc⟩:=isNil_val hy
  simp only[sop]at h
  split at h
  ·rename_i v hv
   split at h
   ·rename_i r hr
    rw[hρ x _ hv,hρ (.const c) c rfl]
    exact Gives.bin (run_eqGuard_nil _ _ _ _ hr hc (.inr ⟨c,rfl⟩) w) (run_binOp_nil hop hr (run_nil_equal hu hd hr hc w).1) h
   ·exact h.elim
  ·exact h.elim
 ·split at hs
  ·rename_i hx
   simp at hs;subst hs
   obtain⟨c,rfl,hc⟩:=isNil_val hx
   simp only[sop]at h
   split at h
   ·rename_i v hv
    split at h
    ·rename_i r hr
     rw[hρ y _ hv,hρ (.const c) c rfl]
     exact Gives.bin (run_eqGuard_nil _ _ _ _ hc hr (.inl ⟨c,rfl⟩) w) (run_binOp_nil hop hc (run_nil_equal hu hd hr hc w).2) h
    ·exact h.elim
   ·exact h.elim
  ·simp at hs
theorem run_sameAddr {a b o o':Nat} {l l':List Value} {w:World} (h:Blk w.heap b l) (h':Blk w.heap a l') (hne:b≠a∨o≠o'):
  (sameAddr ⟨b,o,none⟩ ⟨a,o',none⟩).run P w=.ok false w:=by
 obtain⟨e,h⟩:=h
 obtain⟨e',h'⟩:=h'
 have f1:w.frozen? ⟨b,o,none⟩=false:=by simp[World.frozen?,h]
 have f2:w.frozen? ⟨a,o',none⟩=false:=by simp[World.frozen?,h']
 have s1:w.shape? b=some (e,l.length):=by simp[World.shape?,h]
 have s2:w.shape? a=some (e',l'.length):=by simp[World.shape?,h']
 have f3:w.frozen? ⟨b,l.length,none⟩=false:=by simp[World.frozen?,h]
 have f4:w.frozen? ⟨a,l'.length,none⟩=false:=by simp[World.frozen?,h']
 by_cases hb:b=a
 ·subst hb
  have ho:o≠o':=by rcases hne with h|h<;>simp_all
  simp[sameAddr,ho]
 ·simp[sameAddr,hb,noView,viewAt,mayBeOne,stringish,f1,f2,f3,f4,s1,s2]
theorem gives_eqp {op:BinOp} {t e n:TypeId} {x y:Operand} {neg:Bool} (hop:(op=.eql∧neg=false)∨(op=.neq∧neg=true)) (hρ:Knows σ ρ)
  (hu:P.underlying t=some (.pointer e)) (hs:szOf P e=some (n+1)) (h:sop P σ w.heap K Qp (.eqp neg x y)):Gives P (binSem op t x y (ρ x) (ρ y)) w K:=by
 have guard:∀a b,(eqGuard op t x y (.pointer a) (.pointer b)).run P w=.ok () w:=by
  intro a b;cases op<;>simp[eqGuard]
 simp only[sop]at h
 split at h
 ·rename_i hx hy
  rw[hρ x _ hx,hρ y _ hy]
  exact Gives.bin (guard _ _) (run_binOp_nil (kd:=0) hop rfl (eqv_ptr hu none w).1) h
 ·rename_i a hx hy
  rw[hρ x _ hx,hρ y _ hy]
  exact Gives.bin (guard _ _) (run_binOp_nil (kd:=0) hop rfl (eqv_ptr hu (some a) w).2) h
 ·rename_i a hx hy
  rw[hρ x _ hx,hρ y _ hy]
  exact Gives.bin (guard _ _) (run_binOp_nil (kd:=0) hop rfl (eqv_ptr hu (some a) w).1) h
 ·rename_i b o b' o' hx hy
  rw[hρ x _ hx,hρ y _ hy]
  obtain⟨⟨l,hl,hl0⟩,⟨l',hl',hl0'⟩,h1,h2⟩:=h
  have he:∀r,(sameAddr ⟨b,o,none⟩ ⟨b',o',none⟩).run P w=.ok r w→(Op.equal t (.pointer (some ⟨b,o,none⟩)) (.pointer (some ⟨b',o',none⟩))).run P w=.ok r w:=by
   intro r hr
   unfold Op.equal Op.maxDepth Op.equalIn
   simp[run_underlying' hu,run_sizeOf' hs,hr]
  by_cases hb:b=b'∧o=o'
  ·obtain⟨rfl,rfl⟩:=hb
   exact Gives.bin (guard _ _) (run_binOp_nil (kd:=0) (r:=true) hop rfl (he true (by simp[sameAddr]))) (h1 rfl rfl)
  ·have hne:b≠b'∨o≠o':=by
    by_cases h:b=b'
    ·exact .inr fun e=>hb ⟨h,e⟩
    ·exact .inl h
   exact Gives.bin (guard _ _) (run_binOp_nil (kd:=0) (r:=false) hop rfl (he false (run_sameAddr hl hl' hne))) (h2 hb)
 ·exact h.elim
end Go.Sx
namespace Go.Sx
open Go
variable {P:Program} {σ:Env} {ρ:Operand→Value} {w:World} {K:Value→Heap→Prop} {Qp:List PanicEntry→Heap→Prop}
theorem kdOf_agg {t:TypeId} {k:Kd} (h:kdOf P t=some k):aggOf P t=some false:=by
 have:=kdOf_under h
 unfold aggOf
 rw[this]
 cases k<;>rfl
theorem run_equalIn_kd {t:TypeId} {k:Kd} (hk:kdOf P t=some k) {a b:Value} (ha:fits k a=true) (hb:fits k b=true) (d:Nat) (w:World):
  ∃r,(Op.equalIn (d+1) t a b).run P w=.ok r w∧(r=true↔a=b):=by
 have hu:=kdOf_under hk
 cases k with
 |int k=>
  cases a<;>simp[fits]at ha
  cases b<;>simp[fits]at hb
  subst ha;subst hb
  rename_i n m
  exact⟨n==m,run_equalIn_int w d t _ _ n m hu,by simp⟩
 |str=>
  cases a<;>simp[fits]at ha
  cases b<;>simp[fits]at hb
  rename_i s u
  exact⟨s.toList==u.toList,run_equalIn_string w d t s u hu,by rw[bytes_eq];simp⟩
 |bool=>
  cases a<;>simp[fits]at ha
  cases b<;>simp[fits]at hb
  rename_i s u
  exact⟨s==u,run_equalIn_bool' w d t s u hu,by simp⟩
theorem run_eqFields:∀(fs:List Field) (n:Nat) (ks:List Kd) (xs ys:List Value),kindsOf P n fs=some ks→fitsAll ks (xs.drop n)=true→fitsAll ks (ys.drop n)=true→
  ∀w:World,∃r,(Op.eqFields 9999 ⟨xs⟩ ⟨ys⟩ fs).run P w=.ok r w∧(r=true↔xs.drop n=ys.drop n)
 |[],n,ks,xs,ys,hk,hx,hy,w=>by
  simp[kindsOf]at hk;subst hk
  refine⟨true,by simp[Op.eqFields],?_⟩
  have h1:xs.drop n=[]:=by cases h:xs.drop n<;>simp_all [fitsAll]
  have h2:ys.drop n=[]:=by cases h:ys.drop n<;>simp_all [fitsAll]
  simp only[h1,h2]
 |f::fs,n,ks,xs,ys,hk,hx,hy,w=>by
  simp only[kindsOf]at hk
  split at hk
  ·simp at hk
  ·rename_i hf
   split at hk
   ·rename_i k ks' hk1 hk2
    simp at hk;subst hk
    have hname:f.name≠ "_" :=fun e=>hf (.inl e)
    have hoff:f.offset=n:=by
     by_cases h:f.offset=n
     ·exact h
     ·exact absurd (.inr h) hf
    cases hxd:xs.drop n with
    |nil=>rw[hxd]at hx;simp[fitsAll]at hx
    |cons a xr=>
     cases hyd:ys.drop n with
     |nil=>rw[hyd]at hy;simp[fitsAll]at hy
     |cons b yr=>
      rw[hxd]at hx;rw[hyd]at hy
      simp only[fitsAll,Bool.and_eq_true]at hx hy
      have hxr:xs.drop (n+1)=xr:=by rw[←List.tail_drop,hxd];rfl
      have hyr:ys.drop (n+1)=yr:=by rw[←List.tail_drop,hyd];rfl
      have hxa:xs[n]? =some a:=by rw[←List.head?_drop,hxd];rfl
      have hyb:ys[n]? =some b:=by rw[←List.head?_drop,hyd];rfl
      obtain⟨r1,hr1,hr1'⟩:=run_equalIn_kd hk1 hx.1 hy.1 9998 w
      obtain⟨r2,hr2,hr2'⟩:=run_eqFields fs (n+1) ks' xs ys hk2 (by rw[hxr];exact hx.2) (by rw[hyr];exact hy.2) w
      have pa:(part f.type ⟨xs⟩ f.offset).run P w=.ok a w:=by
       simp[part,run_isAgg' (kdOf_agg hk1),hoff,hxa]
      have pb:(part f.type ⟨ys⟩ f.offset).run P w=.ok b w:=by
       simp[part,run_isAgg' (kdOf_agg hk1),hoff,hyb]
      rw[hxr,hyr]at hr2'
      refine⟨r1&&r2,?_,?_⟩
      ·simp only[Op.eqFields,hname,ne_eq,not_false_eq_true,if_true,Sem.run_bind,pa,pb,Result.andThen_ok,hr1]
       cases r1
       ·simp
       ·simp[hr2]
      ·simp only[Bool.and_eq_true,hr1',hr2',List.cons.injEq]
   ·simp at hk
theorem gives_eqa {op:BinOp} {t:TypeId} {fs:Array Field} {ks:List Kd} {x y:Operand} {neg:Bool} (hop:(op=.eql∧neg=false)∨(op=.neq∧neg=true)) (hρ:Knows σ ρ)
  (hu:P.underlying t=some (.struct fs)) (hst:P.stoodInHeld t=false) (hg:P.eqGuardType P.depth t=false) (hk:kindsOf P 0 fs.toList=some ks)
  (h:sop P σ w.heap K Qp (.eqa neg ks x y)):Gives P (binSem op t x y (ρ x) (ρ y)) w K:=by
 simp only[sop]at h
 split at h
 ·rename_i a b hx hy
  obtain⟨ha,hb,h1,h2⟩:=h
  rw[hρ x _ hx,hρ y _ hy]
  obtain⟨r,hr,hr'⟩:=run_eqFields fs.toList 0 ks a.toList b.toList hk (by simpa using ha) (by simpa using hb) w
  simp only[List.drop_zero]at hr'
  have hfo:P.fieldsOf t=fs:=by simp[Program.fieldsOf,hu]
  have he:=run_equalIn_agg (P:=P) w 9999 t a b (by rw[hfo];exact hu) hst
  rw[hfo]at he
  have he':(Op.equalIn 10000 t (.agg a) (.agg b)).run P w=.ok r w:=he.trans hr
  have hgd:=run_eqGuard_agg (P:=P) w op t x y a b hg
  have hb':(binOp op t (.agg a) (.agg b)).run P w=.ok (.bool (bif r then !neg else neg)) w:=by
   rcases hop with⟨rfl,rfl⟩|⟨rfl,rfl⟩
   ·rw[run_eql_struct,he'];cases r<;>rfl
   ·rw[run_neq_struct,he'];cases r<;>rfl
  by_cases hab:a.toList=b.toList
  ·have:=hr'.2 hab;subst this
   exact Gives.bin hgd hb' (h1 hab)
  ·have:r=false:=by cases r with
    |false=>rfl
    |true=>exact absurd (hr'.1 rfl) hab
   subst this
   exact Gives.bin hgd hb' (h2 hab)
 ·exact h.elim
theorem bndOf_spec {x:Option Operand} {d:Nat} {n:Int} (hρ:Knows σ ρ) (h:bndOf σ x d=some n):(x=none∧n=d)∨(∃y k,x=some y∧ρ y=.int k n):=by
 unfold bndOf at h
 cases x with
 |none=>simp at h;exact .inl ⟨rfl,h.symm⟩
 |some y=>
  simp at h
  split at h
  ·rename_i k m hy
   simp at h;subst h
   exact .inr ⟨y,k,rfl,hρ y _ hy⟩
  ·simp at h
theorem run_sliceBound {k:IntKind} {i:Int} {y:Nat} {code:BoundsCode} (h0:0≤i) (h1:i≤(y:Int)) (w:World):(Instr.sliceBound (.int k i) y code).run P w=.ok i.toNat w:=by
 simp only[Instr.sliceBound,asIntOf,Sem.run_bind,Sem.run_pure,Result.andThen_ok,Sem.run_ite]
 rw[if_pos ⟨h0,h1⟩]
theorem run_sliceBounds {lo hi:Option Operand} {l m:Int} {n c:Nat} {isS:Bool} (hρ:Knows σ ρ) (hl:bndOf σ lo 0=some l) (hh:bndOf σ hi n=some m)
  (h0:0≤l) (h1:l≤m) (h2:m≤c) (w:World):(Instr.sliceBounds isS n c (lo.map ρ) (hi.map ρ) none).run P w=.ok (l.toNat,m.toNat,c) w:=by
 have hm0:0≤m:=Int.le_trans h0 h1
 have hlm:l≤(m.toNat:Int):=by omega
 rcases bndOf_spec hρ hh with⟨rfl,rfl⟩|⟨y,k,rfl,hy⟩<;>rcases bndOf_spec hρ hl with⟨rfl,rfl⟩|⟨y2,k2,rfl,hy2⟩
 ·simp[Instr.sliceBounds]
 ·have hb:=fun w=>run_sliceBound (P:=P) (k:=k2) (code:=.sliceB) h0 h1 w
  simp[Instr.sliceBounds,hy2,hb]
 ·have hb:=fun w=>run_sliceBound (P:=P) (k:=k) (code:=(if isS then .sliceAcap else .sliceAlen)) hm0 h2 w
  simp[Instr.sliceBounds,hy,hb]
 ·have hb:=fun w=>run_sliceBound (P:=P) (k:=k) (code:=(if isS then .sliceAcap else .sliceAlen)) hm0 h2 w
  have hb2:=fun w=>run_sliceBound (P:=P) (k:=k2) (code:=.sliceB) h0 hlm w
  simp[Instr.sliceBounds,hy,hy2,hb,hb2]
theorem gives_slc {t e:TypeId} {size:Nat} {x:Operand} {lo hi:Option Operand} (hρ:Knows σ ρ) (hu:P.underlying t=some (.slice e)) (hs:szOf P e=some size)
  (h:sop P σ w.heap K Qp (.slc size x lo hi)):Gives P (do pure (.value (←Instr.sliceAt t (ρ x) (lo.map ρ) (hi.map ρ) none))) w K:=by
 simp only[sop]at h
 split at h
 ·rename_i a n c hx
  split at h
  ·rename_i l m hl hm
   obtain⟨h0,h1,h2,h⟩:=h
   rw[hρ x _ hx]
   have hb:=run_sliceBounds (P:=P) (isS:=true) hρ hl hm h0 h1 h2 w
   have hsub1:m.toNat-l.toNat=(m-l).toNat:=by omega
   have hsub2:c-l.toNat=((c:Int)-l).toNat:=by omega
   cases a with
   |none=>
    refine Gives.same (v:=.slice none (m-l).toNat (c-l).toNat) ?_ h
    simp only[Instr.sliceAt,Sem.run_bind,run_underlying' hu,Result.andThen_ok,Instr.slice,hb,run_sizeOf' hs,Option.map_none,ite_self,Sem.run_pure,hsub1,hsub2]
   |some a=>
    obtain⟨b,o,sp⟩:=a
    cases sp with
    |some s=>
     obtain⟨hl0,h⟩:=h
     subst hl0
     refine Gives.same (v:=.slice (some ⟨b,o,some s⟩) (m-0).toNat ((c:Int)-0).toNat) ?_ h
     simp only[Instr.sliceAt,Sem.run_bind,run_underlying' hu,Result.andThen_ok,Instr.slice,hb,run_sizeOf' hs,Sem.run_pure,hsub1,hsub2,Option.map_some]
     simp[Addr.add]
    |none=>
     refine Gives.same (v:=.slice (some ⟨b,if c=l.toNat then o else o+l.toNat*size,none⟩) (m-l).toNat (c-l).toNat) ?_ (h _ (fun hlt=>if_neg (by omega)) (fun he=>if_pos (by omega)))
     simp only[Instr.sliceAt,Sem.run_bind,run_underlying' hu,Result.andThen_ok,Instr.slice,hb,run_sizeOf' hs,Sem.run_pure,hsub1,hsub2,Option.map_some,addr_add]
     split<;>rfl
  ·exact h.elim
 ·exact h.elim
theorem run_sliceBounds3 {lo:Option Operand} {hi mx:Operand} {l m k:Int} {n c:Nat} (hρ:Knows σ ρ) (hl:bndOf σ lo 0=some l) (hh:bndOf σ (some hi) 0=some m) (hk:bndOf σ (some mx) 0=some k)
  (h0:0≤l) (h1:l≤m) (h2:m≤k) (h3:k≤c) (w:World):(Instr.sliceBounds true n c (lo.map ρ) ((some hi).map ρ) ((some mx).map ρ)).run P w=.ok (l.toNat,m.toNat,k.toNat) w:=by
 have hm0:0≤m:=Int.le_trans h0 h1
 have hk0:0≤k:=Int.le_trans hm0 h2
 have hlm:l≤(m.toNat:Int):=by omega
 have hmk:m≤(k.toNat:Int):=by omega
 rcases bndOf_spec hρ hh with⟨e,_⟩|⟨y,ky,e,hy⟩
 ·cases e
 cases e
 rcases bndOf_spec hρ hk with⟨e,_⟩|⟨y3,ky3,e,hy3⟩
 ·cases e
 cases e
 have hb3:=fun w=>run_sliceBound (P:=P) (k:=ky3) (code:=.slice3Acap) hk0 h3 w
 have hb1:=fun w=>run_sliceBound (P:=P) (k:=ky) (code:=.slice3B) hm0 hmk w
 rcases bndOf_spec hρ hl with⟨rfl,rfl⟩|⟨y2,k2,rfl,hy2⟩
 ·simp[Instr.sliceBounds,hy,hy3,hb1,hb3]
 ·have hb2:=fun w=>run_sliceBound (P:=P) (k:=k2) (code:=.slice3C) h0 hlm w
  simp[Instr.sliceBounds,hy,hy2,hy3,hb1,hb2,hb3]
theorem gives_slc3 {t e:TypeId} {size:Nat} {x:Operand} {lo:Option Operand} {hi mx:Operand} (hρ:Knows σ ρ) (hu:P.underlying t=some (.slice e)) (hs:szOf P e=some size)
  (h:sop P σ w.heap K Qp (.slc3 size x lo hi mx)):Gives P (do pure (.value (←Instr.sliceAt t (ρ x) (lo.map ρ) ((some hi).map ρ) ((some mx).map ρ)))) w K:=by
 simp only[sop]at h
 split at h
 ·rename_i a n c hx
  split at h
  ·rename_i l m k hl hm hk
   obtain⟨h0,h1,h2,h3,h⟩:=h
   rw[hρ x _ hx]
   have hb:(Instr.sliceBounds true n c (lo.map ρ) (some (ρ hi)) (some (ρ mx))).run P w=.ok (l.toNat,m.toNat,k.toNat) w:=run_sliceBounds3 (P:=P) (n:=n) hρ hl hm hk h0 h1 h2 h3 w
   have hsub1:m.toNat-l.toNat=(m-l).toNat:=by omega
   have hsub2:k.toNat-l.toNat=((k.toNat:Int)-l).toNat:=by omega
   cases a with
   |none=>
    refine Gives.same (v:=.slice none (m-l).toNat ((k.toNat:Int)-l).toNat) ?_ h
    simp only[Instr.sliceAt,Sem.run_bind,run_underlying' hu,Result.andThen_ok,Instr.slice,Option.map_some,hb,run_sizeOf' hs,Option.map_none,ite_self,Sem.run_pure,hsub1,hsub2]
   |some a=>
    obtain⟨b,o,sp⟩:=a
    cases sp with
    |some s=>
     obtain⟨hl0,h⟩:=h
     subst hl0
     refine Gives.same (v:=.slice (some ⟨b,o,some s⟩) (m-0).toNat ((k.toNat:Int)-0).toNat) ?_ h
     simp only[Instr.sliceAt,Sem.run_bind,run_underlying' hu,Result.andThen_ok,Instr.slice,hb,run_sizeOf' hs,Sem.run_pure,hsub1,hsub2,Option.map_some]
     simp[Addr.add]
    |none=>
     refine Gives.same (v:=.slice (some ⟨b,if k.toNat=l.toNat then o else o+l.toNat*size,none⟩) (m-l).toNat ((k.toNat:Int)-l).toNat) ?_ (h _ (fun hlt=>if_neg (by omega)) (fun he=>if_pos (by omega)))
     simp only[Instr.sliceAt,Sem.run_bind,run_underlying' hu,Result.andThen_ok,Instr.slice,hb,run_sizeOf' hs,Sem.run_pure,hsub1,hsub2,Option.map_some,addr_add]
     split<;>rfl
  ·exact h.elim
 ·exact h.elim
theorem gives_sls {t:TypeId} {x:Operand} {lo hi:Option Operand} (hρ:Knows σ ρ) (hu:P.underlying t=some .string)
  (h:sop P σ w.heap K Qp (.sls x lo hi)):Gives P (do pure (.value (←Instr.sliceAt t (ρ x) (lo.map ρ) (hi.map ρ) none))) w K:=by
 simp only[sop]at h
 split at h
 ·rename_i s hx
  split at h
  ·rename_i l m hl hm
   obtain⟨h0,h1,h2,h⟩:=h
   rw[hρ x _ hx]
   have hb:=run_sliceBounds (P:=P) (isS:=false) hρ hl hm h0 h1 h2 w
   refine Gives.same ?_ h
   simp[Instr.sliceAt,run_underlying' hu,Instr.slice,hb]
  ·exact h.elim
 ·exact h.elim
theorem gives_mks {t e:TypeId} {i:TypeInfo} {z:List Value} {x y:Operand} (hρ:Knows σ ρ) (hu:P.underlying t=some (.slice e)) (hi:P.info? e=some i) (hz:zeros P e i.size=some z)
  (h:sop P σ w.heap K Qp (.mks i.bytes z x y)):Gives P (do pure (.value (←Instr.makeSlice t (ρ x) (ρ y)))) w K:=by
 obtain⟨zv,hzv,rfl,hzs⟩:=zeros_spec hz
 have hzi:i.zero=some zv:=by unfold zeroOf at hzv;rw[hi]at hzv;exact hzv
 simp only[sop]at h
 split at h
 ·rename_i n c hx hy
  obtain⟨h0,h1,h2,h3,h⟩:=h
  rw[hρ x _ hx,hρ y _ hy]
  have hr:=run_make (P:=P) w t e i zv hu hi hzi .i64 .i64 n c h0 h1 h2 (by omega)
  refine Gives.val hr ⟨rfl,rfl,rfl⟩ (h _ _ ?_)
  have hm:madeCells zv.cells (c.toNat*i.size)=⟨(List.replicate c.toNat zv.cells.toList).flatten⟩:=by
   rw[←range_zeros];simp[madeCells,hzs]
  rw[hm]
  exact grow_of_push w.heap _ e
 ·exact h.elim
theorem gives_mkm {t k e:TypeId} {r:Option Operand} (hu:P.underlying t=some (.map k e)) (hr:r=none∨∃kk n,r=some (.const (.int kk n))) (hρ:Knows σ ρ)
  (h:sop P σ w.heap K Qp .mkm):Gives P (do pure (.value (←Instr.makeMap t (r.map ρ)))) w K:=by
 simp only[sop]at h
 refine Gives.val (v:=.map (some w.heap.size)) (w':={w with heap:=w.heap.push (.map #[] 0)}) ?_ ⟨rfl,rfl,rfl⟩ (h _ _ (growO_of_push w.heap _))
 rcases hr with rfl|⟨kk,n,rfl⟩
 ·simp[Instr.makeMap]
 ·simp[Instr.makeMap,hρ (.const (.int kk n)) _ rfl,run_underlying' hu,asInt,asIntOf]
theorem fits_checkKey {t:TypeId} {k:Kd} (hk:kdOf P t=some k) (v:Value) (hv:fits k v=true) (em:Bool) (w:World):(Instr.checkKey em 10000 t v).run P w=.ok () w:=by
 have hu:=kdOf_under hk
 unfold Instr.checkKey
 cases k<;>cases v<;>simp[fits]at hv<;>simp[run_underlying' hu,Kd.type]
theorem sameNow_eq {k:Kd} {a b:Value} (ha:fits k a=true) (hb:fits k b=true):
  Instr.sameNow k.type a b=some (Instr.sameBits 10000 a b):=by
 cases k<;>cases a<;>simp[fits]at ha<;>cases b<;>simp[fits]at hb<;>simp_all [Instr.sameNow,Instr.sameBits,Kd.type]
theorem findNow_eq {k:Kd} {a:Value} (ha:fits k a=true):∀(es:List MapEntry) (i:Nat),(∀e∈es,fits k e.key=true)→
  Instr.findNow k.type a es i=some (mfind a es i)
 |[],i,_=>rfl
 |e::es,i,h=>by
  have ih:=findNow_eq ha es (i+1) (fun x hx=>h x (by simp[hx]))
  simp only[Instr.findNow,sameNow_eq ha (h e (by simp)),mfind]
  cases Instr.sameBits 10000 a e.key<;>simp[ih]
theorem run_findKey {t:TypeId} {k:Kd} (hk:kdOf P t=some k) {a:Value} (ha:fits k a=true) (es:List MapEntry) (h:∀e∈es,fits k e.key=true) (w:World):
  (Instr.findKey t a es).run P w=.ok (mfind a es 0) w:=by
 have hu:=kdOf_under hk
 simp only[Instr.findKey,Sem.run_bind,run_underlying' hu,Result.andThen_ok,findNow_eq ha es 0 h,Sem.run_pure]
theorem run_getMap {h:Heap} {r c:Nat} {es:List MapEntry} (hm:MapB h r es c) (w:World) (hw:w.heap=h):(getObj r).run P w=.ok (.map ⟨es⟩ c) w:=by
 have hm':h[r]? =some (.map ⟨es⟩ c):=hm
 simp[getObj,Sem.run,hw,hm']
theorem gives_lenm {t k e:TypeId} {x:Operand} {args:Array TypeId} {ty:TypeId} (hρ:Knows σ ρ) (ha:args= #[t]) (hu:P.underlying t=some (.map k e))
  (h:sop P σ w.heap K Qp (.lenm x)):Gives P (do pure (.value (←Builtin.len_ args ty #[ρ x]))) w K:=by
 subst ha
 simp only[sop]at h
 split at h
 ·rename_i hx
  rw[hρ x _ hx]
  exact Gives.same (by simp[Builtin.len_,run_underlying' hu,goInt]) h
 ·rename_i r hx
  obtain⟨es,c,hm,hk⟩:=h
  rw[hρ x _ hx]
  exact Gives.same (by simp[Builtin.len_,run_underlying' hu,goInt,run_getMap hm w rfl]) hk
 ·exact h.elim
theorem gives_look {t kt et:TypeId} {kd:Kd} {z:Value} {ok:Bool} {m k:Operand} (hρ:Knows σ ρ) (hu:P.underlying t=some (.map kt et)) (hk:kdOf P kt=some kd) (hz:zeroOf P et=some z)
  (h:sop P σ w.heap K Qp (.look kd z ok m k)):Gives P (do pure (.value (←Instr.lookup t (ρ m) (ρ k) ok))) w K:=by
 simp only[sop]at h
 split at h
 ·rename_i kv hm hkv
  obtain⟨hf,h⟩:=h
  rw[hρ m _ hm,hρ k _ hkv]
  refine Gives.same ?_ h
  simp[Instr.lookup,run_underlying' hu,fits_checkKey hk kv hf,run_findKey hk hf,mfind,run_zeroValue' hz]
 ·rename_i r kv hm hkv
  obtain⟨hf,es,c,hb,hes,h⟩:=h
  rw[hρ m _ hm,hρ k _ hkv]
  have h1:∀em,(Instr.checkKey em 10000 kt kv).run P w=.ok () w:=fun em=>fits_checkKey hk kv hf em w
  have h2:=run_findKey hk hf es hes w
  split at h
  ·rename_i i v hv
   refine Gives.same ?_ h
   simp[Instr.lookup,run_underlying' hu,run_getMap hb w rfl,h1,h2,hv]
  ·rename_i hv
   refine Gives.same ?_ h
   simp[Instr.lookup,run_underlying' hu,run_getMap hb w rfl,h1,h2,hv,run_zeroValue' hz]
 ·exact h.elim
theorem sameBits_eq {k:Kd} {a b:Value} (ha:fits k a=true) (hb:fits k b=true) (h:Instr.sameBits 10000 a b=true):a=b:=by
 cases k<;>cases a<;>simp[fits]at ha<;>cases b<;>simp[fits]at hb<;>simp_all [Instr.sameBits]
 rename_i s u
 rw[beq_toListBytes,bytes_eq]at h
 simpa using h
theorem sameBits_refl {k:Kd} {a:Value} (ha:fits k a=true):Instr.sameBits 10000 a a=true:=by
 cases k<;>cases a<;>simp[fits]at ha<;>simp[Instr.sameBits]
 rename_i s
 rw[beq_toListBytes];simp
theorem mfind_spec {k:Kd} {a:Value} (ha:fits k a=true):∀(es:List MapEntry) (i j:Nat) (v:Value),(∀e∈es,fits k e.key=true)→mfind a es i=some (j,v)→
  i≤j∧∃e,es[j-i]? =some e∧e.key=a∧e.val=v
 |[],i,j,v,_,h=>by simp[mfind]at h
 |e::es,i,j,v,hf,h=>by
  simp only[mfind]at h
  split at h
  ·rename_i hs
   simp at h
   obtain⟨rfl,rfl⟩:=h
   exact⟨Nat.le_refl _,e,by simp,(sameBits_eq ha (hf e (by simp)) hs).symm,rfl⟩
  ·obtain⟨h1,e',h2,h3⟩:=mfind_spec ha es (i+1) j v (fun x hx=>hf x (by simp[hx])) h
   refine⟨by omega,e',?_,h3⟩
   have:j-i=(j-(i+1))+1:=by omega
   rw[this,List.getElem?_cons_succ];exact h2
theorem run_setMap {r c c':Nat} {es es':List MapEntry} (hm:MapB w.heap r es c):(setObj r (.map ⟨es'⟩ c')).run P w=.ok () {w with heap:=w.heap.setIfInBounds r (.map ⟨es'⟩ c')}:=by
 have hm':w.heap[r]? =some (.map ⟨es⟩ c):=hm
 simp[setObj,Sem.run,hm']
theorem gives_mup {t kt et:TypeId} {kd:Kd} {m k v:Operand} (hρ:Knows σ ρ) (hu:P.underlying t=some (.map kt et)) (hk:kdOf P kt=some kd)
  (h:sop P σ w.heap K Qp (.mup kd m k v)):Gives P (do Instr.mapUpdate t (ρ m) (ρ k) (ρ v);pure .skip) w K:=by
 simp only[sop]at h
 split at h
 ·rename_i r kv vv hm hkv hvv
  obtain⟨hf,es,c,hb,hes,h⟩:=h
  rw[hρ m _ hm,hρ k _ hkv,hρ v _ hvv]
  have h1:∀em,(Instr.checkKey em 10000 kt kv).run P w=.ok () w:=fun em=>fits_checkKey hk kv hf em w
  have h2:=run_findKey hk hf es hes w
  split at h
  ·rename_i i v0 hv
   obtain⟨_,e,he,hek,hev⟩:=mfind_spec hf es 0 i v0 hes hv
   rw[Nat.sub_zero]at he
   have hsame:Instr.sameBits 10000 e.key kv=true:=by rw[hek];exact sameBits_refl hf
   have hmod:es.modify i (fun e=>{e with key:=kv,val:=vv})=es.modify i (fun e=>{e with val:=vv}):=by
    apply List.ext_getElem?
    intro j
    rw[List.getElem?_modify,List.getElem?_modify]
    by_cases hj:i=j
    ·subst hj;simp[he,←hek]
    ·simp[hj]
   refine⟨undef,{w with heap:=w.heap.setIfInBounds r (.map ⟨es.modify i fun e=>{e with val:=vv}⟩ c)},.inr ⟨?_,rfl⟩,⟨rfl,rfl,rfl⟩,h _ (putO_of_set hb)⟩
   have hks:(Instr.keyThatStays (((⟨es⟩:Array MapEntry)[i]?.map (·.key)).getD kv) kv).run P w=.ok kv w:=by
    simp[Instr.keyThatStays,he,hsame]
   have hma:(⟨es⟩:Array MapEntry).modify i (fun e=>{e with key:=kv,val:=vv})=⟨es.modify i fun e=>{e with val:=vv}⟩:=by
    rw[←hmod];apply Array.ext';simp
   simp only[Instr.mapUpdate,Sem.run_bind,run_underlying' hu,Result.andThen_ok,run_getMap hb w rfl,h1,h2,hv,hks]
   rw[hma,run_setMap hb]
   rfl
  ·rename_i hv
   refine⟨undef,{w with heap:=w.heap.setIfInBounds r (.map ⟨es++[{key:=kv,val:=vv,born:=c}]⟩ (c+1))},.inr ⟨?_,rfl⟩,⟨rfl,rfl,rfl⟩,h _ (putO_of_set hb)⟩
   have hpush:(⟨es⟩:Array MapEntry).push {key:=kv,val:=vv,born:=c}=⟨es++[{key:=kv,val:=vv,born:=c}]⟩:=by apply Array.ext';simp
   simp only[Instr.mapUpdate,Sem.run_bind,run_underlying' hu,Result.andThen_ok,run_getMap hb w rfl,h1,h2,hv]
   rw[hpush,run_setMap hb]
   rfl
 ·exact h.elim
theorem gives_mdel {t u kt et:TypeId} {kd:Kd} {m k:Operand} {ty:TypeId} (hρ:Knows σ ρ) (hu:P.underlying t=some (.map kt et)) (hk:kdOf P kt=some kd)
  (h:sop P σ w.heap K Qp (.mdel kd m k)):Gives P (do pure (.value (←Builtin.delete_ #[t,u] ty #[ρ m,ρ k]))) w K:=by
 simp only[sop]at h
 split at h
 ·rename_i kv hm hkv
  rw[hρ m _ hm,hρ k _ hkv]
  refine Gives.same ?_ h.2
  simp[Builtin.delete_,run_underlying' hu,fits_checkKey hk kv h.1]
 ·rename_i r kv hm hkv
  obtain⟨hf,es,c,hb,hes,h⟩:=h
  rw[hρ m _ hm,hρ k _ hkv]
  have h1:∀em,(Instr.checkKey em 10000 kt kv).run P w=.ok () w:=fun em=>fits_checkKey hk kv hf em w
  have h2:=run_findKey hk hf es hes w
  split at h
  ·rename_i i v hv
   refine Gives.val (v:=.tuple #[]) (w':={w with heap:=w.heap.setIfInBounds r (.map ⟨es.eraseIdx i⟩ c)}) ?_ ⟨rfl,rfl,rfl⟩ (h _ (putO_of_set hb))
   have he:(⟨es⟩:Array MapEntry).eraseIdxIfInBounds i=⟨es.eraseIdx i⟩:=by apply Array.ext';simp
   simp only[Builtin.delete_,Sem.run_bind,run_underlying' hu,Result.andThen_ok,run_getMap hb w rfl,h1,h2,hv,List.getElem?_toArray,List.getElem?_cons_zero,List.getElem?_cons_succ]
   rw[he,run_setMap hb]
   rfl
  ·rename_i hv
   refine Gives.val (v:=.tuple #[]) (w':={w with heap:=w.heap.setIfInBounds r (.map ⟨es⟩ c)}) ?_ ⟨rfl,rfl,rfl⟩ (h _ (putO_of_set hb))
   simp only[Builtin.delete_,Sem.run_bind,run_underlying' hu,Result.andThen_ok,run_getMap hb w rfl,h1,h2,hv,List.getElem?_toArray,List.getElem?_cons_zero,List.getElem?_cons_succ]
   rw[run_setMap hb]
   rfl
 ·exact h.elim
end Go.Sx
namespace Go.Sx
open Go
variable {P:Program} {σ:Env} {ρ:Operand→Value} {w:World} {K:Value→Heap→Prop} {Qp:List PanicEntry→Heap→Prop}
theorem growBy_le (need:Nat):∀(r c:Nat),c≤2*need+768→Builtin.growBy need r c≤2*need+768
 |0,c,h=>h
 |r+1,c,h=>by
  unfold Builtin.growBy
  split
  ·exact h
  ·exact growBy_le need r _ (by omega)
theorem nextslicecap_le {need old:Nat} (h:old<need):Builtin.nextslicecap need old≤2*need+768:=by
 unfold Builtin.nextslicecap
 split
 ·omega
 ·split
  ·omega
  ·exact growBy_le need 4 old (by omega)
theorem run_firstCells {h:Heap} {a:Option Addr} {n size cap m:Nat} {xs:List Value} (hs:Src h a n xs) (hl:xs.length=n*size) (w:World) (hw:w.heap=h):
  (Builtin.firstCells size n (.slice a m cap)).run P w=.ok ⟨xs⟩ w:=by
 cases a with
 |none=>
  have h0:n=0:=hs
  subst h0
  have:xs=[]:=by simpa using hl
  subst this
  rfl
 |some a=>
  obtain⟨b,o,sp⟩:=a
  cases sp with
  |some s=>
   have h0:n=0:=hs
   subst h0
   have:xs=[]:=by simpa using hl
   subst this
   simp[Builtin.firstCells,loadCells,loadCellsFrom]
  |none=>
   have:=run_loadCells' (P:=P) w hw hs
   rw[hl]at this
   exact this
theorem run_wr {a:Option Addr} {ys:List Value} {KK:Heap→Prop} (hw:wrP w.heap KK a ys):∃w',(match a with|some a=>storeCells a ys|none=>pure ()).run P w=.ok () w'∧SameB w w'∧KK w'.heap:=by
 by_cases hy:ys=[]
 ·subst hy
  refine⟨w,?_,SameB.refl w,hw.1 rfl⟩
  cases a<;>rfl
 ·have h:=hw.2 hy
  split at h
  ·rename_i b o
   obtain⟨l,⟨e,hb⟩,hfit,h1,hk⟩:=h
   obtain⟨w',hr,hsame,hheap⟩:=run_storeCells' (P:=P) b e ys 0 o l w hb (by omega) h1
   rw[Nat.add_zero]at hheap
   refine⟨w',hr,hsame,hk _ ?_⟩
   rw[hheap];exact put_of_set hb
  ·exact h.elim
theorem gives_cpy {t u e e2:TypeId} {size:Nat} {x y:Operand} {ty:TypeId} (hρ:Knows σ ρ) (hu:P.underlying t=some (.slice e)) (_:P.underlying u=some (.slice e2)) (hs:szOf P e=some size)
  (h:sop P σ w.heap K Qp (.cpy size x y)):Gives P (do pure (.value (←Builtin.copy_ #[t,u] ty #[ρ x,ρ y]))) w K:=by
 simp only[sop]at h
 split at h
 ·rename_i a n c a' m c' hx hy
  obtain⟨ys,hyl,hys,hw⟩:=h
  rw[hρ x _ hx,hρ y _ hy]
  have fy:=run_firstCells (P:=P) (cap:=c') (m:=m) hys hyl w rfl
  obtain⟨w',hr,hb,hk⟩:=run_wr (P:=P) hw
  refine Gives.val (v:=.int .i64 (min m n:Nat)) (w':=w') ?_ hb hk
  have hmin:Nat.min m n=min m n:=rfl
  cases a with
  |none=>
   have hr':(pure ():Sem Unit).run P w=.ok () w':=hr
   have e:w'=w:=by simpa using hr'.symm
   subst e
   simp[Builtin.copy_,run_underlying' hu,Builtin.lenOf,run_sizeOf' hs,hmin,fy,goInt]
  |some a=>
   have hr':(storeCells a ys).run P w=.ok () w':=hr
   simp[Builtin.copy_,run_underlying' hu,Builtin.lenOf,run_sizeOf' hs,hmin,fy,goInt,hr']
 ·exact h.elim
theorem gives_clr {t e:TypeId} {i:TypeInfo} {z:List Value} {x:Operand} {args:Array TypeId} {ty:TypeId} (hρ:Knows σ ρ) (ha:args= #[t]) (hu:P.underlying t=some (.slice e)) (hz:zeros P e i.size=some z)
  (h:sop P σ w.heap K Qp (.clr z x)):Gives P (do pure (.value (←Builtin.clear_ args ty #[ρ x]))) w K:=by
 subst ha
 obtain⟨zv,hzv,rfl,hzs⟩:=zeros_spec hz
 simp only[sop]at h
 split at h
 ·rename_i a n c hx
  rw[hρ x _ hx]
  have hzc:(Builtin.zeroCells zv.cells n).toList=(List.replicate n zv.cells.toList).flatten:=by
   have:Builtin.zeroCells zv.cells n=⟨(List.replicate n zv.cells.toList).flatten⟩:=range_zeros _ _
   rw[this]
  obtain⟨w',hr,hb,hk⟩:=run_wr (P:=P) h
  refine Gives.val (v:=.tuple #[]) (w':=w') ?_ hb hk
  cases a with
  |none=>
   have hr':(pure ():Sem Unit).run P w=.ok () w':=hr
   have e:w'=w:=by simpa using hr'.symm
   subst e
   simp[Builtin.clear_,run_underlying' hu]
  |some a=>
   have hr':(storeCells a (List.replicate n zv.cells.toList).flatten).run P w=.ok () w':=hr
   cases n with
   |zero=>
    have e:w'=w:=by simpa[storeCells]using hr'.symm
    subst e
    simp[Builtin.clear_,run_underlying' hu]
   |succ n=>simp[Builtin.clear_,run_underlying' hu,run_zeroValue' hzv,hzc,hr']
 ·exact h.elim
theorem gives_appz {t u e:TypeId} {ku:IntKind} {i:TypeInfo} {z:List Value} {x y:Operand} {ty:TypeId} (hρ:Knows σ ρ) (hu:P.underlying t=some (.slice e)) (hu2:P.underlying u=some (.int ku))
  (hi:P.info? e=some i) (hby:1≤i.bytes) (hz:zeros P e i.size=some z)
  (h:sop P σ w.heap K Qp (.appz i.size i.bytes z x y)):Gives P (do pure (.value (←Builtin.append_ #[t,u] ty #[ρ x,ρ y]))) w K:=by
 obtain⟨zv,hzv,rfl,hzs⟩:=zeros_spec hz
 have hsz:szOf P e=some i.size:=by simp[szOf,hi]
 simp only[sop]at h
 split at h
 ·rename_i a n c k hx hy
  obtain⟨h0,h01,xs,hxl,hxs,hroom,hbound,hk⟩:=h
  obtain⟨m,rfl⟩:∃m:Nat,k=m:=⟨k.toNat,by omega⟩
  rw[Int.toNat_natCast]at hroom hbound hk
  rw[hρ x _ hx,hρ y _ hy]
  have fx:∀w':World,w'.heap=w.heap→(Builtin.firstCells i.size n (.slice a n c)).run P w'=.ok ⟨xs⟩ w':=fun w' hw'=>run_firstCells hxs hxl w' hw'
  have hneed:n+m<9223372036854775808:=by
   have h2:(n+m)*2+768≤((n+m)*2+768)*i.bytes:=Nat.le_mul_of_pos_right _ hby
   omega
  have hwr:IntKind.i64.wrap (m:Int)=m:=by
   have e:IntKind.i64.wrap (m:Int)=if(m:Int)%18446744073709551616≥9223372036854775808 then(m:Int)%18446744073709551616-18446744073709551616 else(m:Int)%18446744073709551616:=by
    simp[IntKind.wrap,IntKind.bits,IntKind.signed]
   rw[e];split<;>omega
  have hneg:¬((m:Int)<0):=by omega
  have hmb:¬((m:Int)*(i.bytes:Nat)>2 ^ 48):=by
   have h2:m*i.bytes≤((n+m)*2+768)*i.bytes:=Nat.mul_le_mul_right _ (by omega)
   have h3:((m*i.bytes:Nat):Int)=(m:Int)*(i.bytes:Nat):=by rw[Int.natCast_mul]
   omega
  have hg2:¬(Builtin.nextslicecap (n+m) c*i.bytes>2 ^ 48):=by
   have h2:=nextslicecap_le (need:=n+m) (old:=c) (by omega)
   have h3:Builtin.nextslicecap (n+m) c*i.bytes≤(2*(n+m)+768)*i.bytes:=Nat.mul_le_mul_right _ h2
   have h4:(2*(n+m)+768)*i.bytes=((n+m)*2+768)*i.bytes:=by rw[Nat.mul_comm 2]
   omega
  obtain⟨cap,hcap⟩:∃cap,cap=(Question.appendCap (n+m) c e).cut (w.tape w.drawn (.appendCap (n+m) c e)):=⟨_,rfl⟩
  have hcle:n+m≤cap:=by rw[hcap];simp[Question.cut]
  obtain⟨w1,hw1⟩:∃w1:World,w1={w with drawn:=w.drawn+1}:=⟨_,rfl⟩
  have hch:(choose (.appendCap (n+m) c e)).run P w=.ok cap w1:=by
   rw[run_choose,hcap,hw1];simp[Question.forced]
  have hzc:∀q,Builtin.zeroCells zv.cells q=⟨(List.replicate q zv.cells.toList).flatten⟩:=fun q=>range_zeros _ _
  have hheap1:w1.heap=w.heap:=by rw[hw1]
  have hnr:¬n+m≤c:=by omega
  have hg1:¬(((n+m:Nat):Int)>IntKind.i64.max):=by
   have:IntKind.i64.max=9223372036854775807:=rfl
   omega
  have hap:∀w':World,(if m*i.size=0 then(pure #[]:Sem (Array Value))else do pure (Builtin.zeroCells (←zeroValue e).cells m)).run P w'=.ok ⟨(List.replicate m zv.cells.toList).flatten⟩ w':=by
   intro w'
   by_cases h0:m*i.size=0
   ·rw[if_pos h0]
    have:(List.replicate m zv.cells.toList).flatten=[]:=by
     rcases Nat.mul_eq_zero.1 h0 with h|h
     ·rw[h];rfl
     ·have:zv.cells.toList=[]:=by
       apply List.eq_nil_of_length_eq_zero
       rw[Array.length_toList,hzs,h]
      rw[this];simp
    rw[this];rfl
   ·rw[if_neg h0,Sem.run_bind,run_zeroValue' hzv]
    simp only[Result.andThen_ok,Sem.run_pure,hzc]
  refine Gives.val (v:=.slice (some ⟨w.heap.size,0,none⟩) (n+m) cap)
   (w':={w1 with heap:=w1.heap.push (.cells ⟨xs++(List.replicate m zv.cells.toList).flatten++(List.replicate (cap-(n+m)) zv.cells.toList).flatten⟩ e)}) ?_ ⟨by rw[hw1],by rw[hw1],by rw[hw1]⟩ (hk cap _ _ hcle ?_)
  ·have harr:(⟨xs⟩:Array Value)++⟨(List.replicate m zv.cells.toList).flatten⟩++⟨(List.replicate (cap-(n+m)) zv.cells.toList).flatten⟩=⟨xs++(List.replicate m zv.cells.toList).flatten++(List.replicate (cap-(n+m)) zv.cells.toList).flatten⟩:=by
    apply Array.ext';simp
   have hasI:∀w,(asInt (.int .i64 (m:Int))).run P w=.ok (m:Int) w:=fun w=>rfl
   simp only[Builtin.append_,List.getElem?_toArray,List.getElem?_cons_zero,List.getElem?_cons_succ,Sem.run_bind,run_underlying' hu,run_underlying' hu2,Result.andThen_ok,run_sizeOf' hsz,
    Sem.run_pure,Builtin.lenOf,run_typeInfo' hi,if_true,hasI,hwr,if_neg hneg,if_neg hmb,Int.toNat_natCast,true_or,and_true,Bool.not_true,Bool.false_eq_true,if_false,if_neg hnr,if_neg hg1,if_neg hg2,hch,run_askRoom,fx w1 hheap1,hap,run_zeroValue' hzv,hzc,harr,newRow,run_newObj]
   rw[hheap1]
  ·show Grow w.heap (w1.heap.push _) w.heap.size _
   rw[hheap1];exact grow_of_push w.heap _ e
 ·exact h.elim
theorem gives_app {t u e e2:TypeId} {i:TypeInfo} {z:List Value} {x y:Operand} {ty:TypeId} (hρ:Knows σ ρ) (hu:P.underlying t=some (.slice e)) (hu2:P.underlying u=some (.slice e2))
  (hi:P.info? e=some i) (hby:1≤i.bytes) (hz:zeros P e i.size=some z)
  (h:sop P σ w.heap K Qp (.app i.size i.bytes z x y)):Gives P (do pure (.value (←Builtin.append_ #[t,u] ty #[ρ x,ρ y]))) w K:=by
 obtain⟨zv,hzv,rfl,hzs⟩:=zeros_spec hz
 have hsz:szOf P e=some i.size:=by simp[szOf,hi]
 simp only[sop]at h
 split at h
 ·rename_i a n c a' m c' hx hy
  unfold appP at h
  obtain⟨xs,ys,hxl,hyl,hxs,hys,h1,hin,hout⟩:=h
  unfold appIn at hin
  rw[hρ x _ hx,hρ y _ hy]
  have fx:∀w':World,w'.heap=w.heap→(Builtin.firstCells i.size n (.slice a n c)).run P w'=.ok ⟨xs⟩ w':=fun w' hw'=>run_firstCells hxs hxl w' hw'
  have fy:∀w':World,w'.heap=w.heap→(Builtin.firstCells i.size m (.slice a' m c')).run P w'=.ok ⟨ys⟩ w':=fun w' hw'=>run_firstCells hys hyl w' hw'
  by_cases hroom:n+m≤c
  ·have h:=hin hroom
   cases a with
   |none=>
    refine Gives.same (v:=.slice none (n+m) c) ?_ h
    simp[Builtin.append_,run_underlying' hu,run_underlying' hu2,run_sizeOf' hsz,Builtin.lenOf,hroom,fy w rfl]
   |some a=>
    obtain⟨b,o,sp⟩:=a
    cases sp with
    |some s=>exact h.elim
    |none=>
     obtain⟨l,⟨eb,hb⟩,hfit,hk⟩:=h
     have hfit':o+n*i.size+0+ys.length≤l.length:=by
      rw[hyl]
      have:(n+m)*i.size=n*i.size+m*i.size:=Nat.add_mul _ _ _
      omega
     obtain⟨w',hr,hsame,hheap⟩:=run_storeCells' (P:=P) b eb ys 0 (o+n*i.size) l w hb hfit' h1
     rw[Nat.add_zero]at hheap
     refine Gives.val (v:=.slice (some ⟨b,o,none⟩) (n+m) c) (w':=w') ?_ hsame (hk _ ?_)
     ·have hr':(storeCells ⟨b,o+n*i.size,none⟩ ys).run P w=.ok () w':=hr
      simp[Builtin.append_,run_underlying' hu,run_underlying' hu2,run_sizeOf' hsz,Builtin.lenOf,hroom,fy w rfl,addr_add,hr']
     ·rw[hheap];exact put_of_set hb
  ·obtain⟨hbound,hk⟩:=hout (by omega)
   have hneed:n+m<9223372036854775808:=by
    have h2:(n+m)*2+768≤((n+m)*2+768)*i.bytes:=Nat.le_mul_of_pos_right _ hby
    omega
   have hg1:¬(((n+m:Nat):Int)>IntKind.i64.max∧((false=true)∨i.bytes=0)):=by
    rintro⟨_,h|h⟩
    ·cases h
    ·omega
   have hg2:¬(Builtin.nextslicecap (n+m) c*i.bytes>2 ^ 48):=by
    have h2:=nextslicecap_le (need:=n+m) (old:=c) (by omega)
    have h3:Builtin.nextslicecap (n+m) c*i.bytes≤(2*(n+m)+768)*i.bytes:=Nat.mul_le_mul_right _ h2
    have h4:(2*(n+m)+768)*i.bytes=((n+m)*2+768)*i.bytes:=by rw[Nat.mul_comm 2]
    omega
   obtain⟨cap,hcap⟩:∃cap,cap=(Question.appendCap (n+m) c e).cut (w.tape w.drawn (.appendCap (n+m) c e)):=⟨_,rfl⟩
   have hcle:n+m≤cap:=by rw[hcap];simp[Question.cut]
   obtain⟨w1,hw1⟩:∃w1:World,w1={w with drawn:=w.drawn+1}:=⟨_,rfl⟩
   have hch:(choose (.appendCap (n+m) c e)).run P w=.ok cap w1:=by
    rw[run_choose,hcap,hw1];simp[Question.forced]
   have hzc:Builtin.zeroCells zv.cells (cap-(n+m))=⟨(List.replicate (cap-(n+m)) zv.cells.toList).flatten⟩:=range_zeros _ _
   have hheap1:w1.heap=w.heap:=by rw[hw1]
   have hnr:¬n+m≤c:=hroom
   refine Gives.val (v:=.slice (some ⟨w.heap.size,0,none⟩) (n+m) cap)
    (w':={w1 with heap:=w1.heap.push (.cells ⟨xs++ys++(List.replicate (cap-(n+m)) zv.cells.toList).flatten⟩ e)}) ?_ ⟨by rw[hw1],by rw[hw1],by rw[hw1]⟩ (hk cap _ _ hcle ?_)
   ·have harr:(⟨xs⟩:Array Value)++⟨ys⟩++⟨(List.replicate (cap-(n+m)) zv.cells.toList).flatten⟩=⟨xs++ys++(List.replicate (cap-(n+m)) zv.cells.toList).flatten⟩:=by
     apply Array.ext';simp
    have hg1':¬(((n+m:Nat):Int)>IntKind.i64.max∧i.bytes=0):=fun h=>hg1 ⟨h.1,.inr h.2⟩
    simp only[Builtin.append_,List.getElem?_toArray,List.getElem?_cons_zero,List.getElem?_cons_succ,Sem.run_bind,run_underlying' hu,run_underlying' hu2,Result.andThen_ok,run_sizeOf' hsz,
     Sem.run_pure,Builtin.lenOf,run_typeInfo' hi,Bool.false_eq_true,false_or,if_false,if_neg hnr,if_neg hg1',if_neg hg2,hch,run_askRoom,fx w1 hheap1,fy w1 hheap1,run_zeroValue' hzv,hzc,harr,newRow,run_newObj,Bool.not_false,if_true]
    rw[hheap1]
   ·show Grow w.heap (w1.heap.push _) w.heap.size _
    rw[hheap1];exact grow_of_push w.heap _ e
 ·exact h.elim
theorem gives_appn {t u e e2:TypeId} {i:TypeInfo} {z:List Value} {y:Operand} {ty:TypeId} (hρ:Knows σ ρ) (hu:P.underlying t=some (.slice e)) (hu2:P.underlying u=some (.slice e2))
  (hi:P.info? e=some i) (hby:1≤i.bytes) (hz:zeros P e i.size=some z)
  (h:sop P σ w.heap K Qp (.appn i.size i.bytes z y)):Gives P (do pure (.value (←Builtin.append_ #[t,u] ty #[ρ (.const (.slice none 0 0)),ρ y]))) w K:=by
 refine gives_app (Qp:=Qp) (x:=.const (.slice none 0 0)) hρ hu hu2 hi hby hz ?_
 simp only[sop]at h⊢
 split at h
 ·rename_i a' m c' hy
  rw[hy]
  exact h
 ·exact h.elim
end Go.Sx
namespace Go.Sx
open Go
variable {P:Program} {σ:Env} {ρ:Operand→Value} {w:World} {K:Value→Heap→Prop} {Qp:List PanicEntry→Heap→Prop}
theorem gives_ixv {t e:TypeId} {n size:Nat} {x i:Operand} (hρ:Knows σ ρ) (hu:P.underlying t=some (.array n e)) (hg:aggOf P e=some false) (hs:szOf P e=some size)
  (h:sop P σ w.heap K Qp (.ixv n size x i)):Gives P (do pure (.value (←Instr.index t (ρ x) (ρ i)))) w K:=by
 simp only[sop]at h
 split at h
 ·rename_i cs k j hx hi
  obtain⟨v,h0,h1,hv,hk⟩:=h
  rw[hρ x _ hx,hρ i _ hi]
  refine Gives.same (v:=v) ?_ hk
  have hv':cs[j.toNat*size]? =some v:=by simpa using hv
  simp[Instr.index,asIntOf,run_underlying' hu,h0,h1,run_sizeOf' hs,part,run_isAgg' hg,hv']
 ·exact h.elim
theorem gives_slp {t e:TypeId} {n size:Nat} {x:Operand} {lo hi:Option Operand} (hρ:Knows σ ρ) (hu:P.underlying t=some (.array n e)) (hs:szOf P e=some size)
  (h:sop P σ w.heap K Qp (.slp n size x lo hi)):Gives P (do pure (.value (←Instr.sliceAt t (ρ x) (lo.map ρ) (hi.map ρ) none))) w K:=by
 simp only[sop]at h
 split at h
 ·rename_i b o hx
  split at h
  ·rename_i l m hl hm
   obtain⟨h0,h1,h2,h⟩:=h
   rw[hρ x _ hx]
   have hb:=run_sliceBounds (P:=P) (isS:=false) hρ hl hm h0 h1 h2 w
   have hsub1:m.toNat-l.toNat=(m-l).toNat:=by omega
   have hsub2:n-l.toNat=((n:Int)-l).toNat:=by omega
   refine Gives.same (v:=.slice (some ⟨b,if n=l.toNat then o else o+l.toNat*size,none⟩) (m-l).toNat (n-l).toNat) ?_ (h _ (fun hlt=>if_neg (by omega)) (fun he=>if_pos (by omega)))
   simp only[Instr.sliceAt,Sem.run_bind,run_underlying' hu,Result.andThen_ok,Instr.sureAddr,hb,run_sizeOf' hs,Sem.run_pure,hsub1,hsub2,addr_add]
   split<;>rfl
  ·exact h.elim
 ·exact h.elim
theorem gives_shv {op:BinOp} {t:TypeId} {x y:Operand} {kt:IntKind} (hop:op=.shl∨op=.shr)
  (hρ:Knows σ ρ) (h:sop P σ w.heap K Qp (.shv kt (match op with|.shl=>true|_=>false) x y)):
  Gives P (binSem op t x y (ρ x) (ρ y)) w K:=by
 simp only[sop]at h
 split at h
 ·rename_i k a k2 n hx hy
  obtain⟨rfl,h0,h⟩:=h
  rw[hρ x _ hx,hρ y _ hy]
  have hlt:¬n<0:=by omega
  refine Gives.bin (run_eqGuard_int _ _ _ _ _ _ _ _ _) ?_ (h _ rfl)
  rcases hop with rfl|rfl<;>simp[binOp,Op.shift,hlt]
 ·exact h.elim
theorem gives_tas {t xt:TypeId} {d:TypeDesc} {z:Value} {ok:Bool} {x:Operand} (hρ:Knows σ ρ) (hu:P.underlying t=some d) (hd:∀ms,d≠.interface ms) (hz:zeroOf P t=some z)
  (h:sop P σ w.heap K Qp (.tas t z ok x)):Gives P (do pure (.value (←Instr.typeAssert (ρ x) xt t ok))) w K:=by
 simp only[sop]at h
 split at h
 ·rename_i hx
  obtain⟨rfl,hk⟩:=h
  rw[hρ x _ hx]
  refine Gives.same ?_ hk
  cases d<;>first|exact absurd rfl (hd _)|simp[Instr.typeAssert,run_underlying' hu,run_zeroValue' hz]
 ·rename_i u v hx
  rw[hρ x _ hx]
  by_cases hut:u=t
  ·refine Gives.same ?_ (h.1 hut)
   cases ok<;>cases d<;>first|exact absurd rfl (hd _)|simp[Instr.typeAssert,run_underlying' hu,hut]
  ·obtain⟨rfl,hk⟩:=h.2 hut
   refine Gives.same ?_ hk
   cases d<;>first|exact absurd rfl (hd _)|simp[Instr.typeAssert,run_underlying' hu,hut,run_zeroValue' hz]
 ·exact h.elim
theorem kdE_spec {t:TypeId} {kd:Kd} (h:kdE P t=some kd):(∃i,P.info? t=some i∧i.comparable=true)∧kdOf P t=some kd:=by
 unfold kdE at h
 split at h
 ·rename_i i hi
  split at h<;>simp at h<;>subst h<;>rename_i hc hu
  ·exact⟨⟨i,hi,hc⟩,by simp[kdOf,hu]⟩
  ·exact⟨⟨i,hi,hc⟩,by simp[kdOf,hu]⟩
  ·exact⟨⟨i,hi,hc⟩,by simp[kdOf,hu]⟩
 ·simp at h
theorem run_eqGuard_iface (op:BinOp) (t:TypeId) (x y:Operand) {a b:Value} (h:a≠.nilIface∨b≠.nilIface) (ha:∀c,a≠.agg c) (w:World):(eqGuard op t x y a b).run P w=.ok () w:=by
 cases op<;>cases a<;>cases b<;>first|(simp[eqGuard];done)|(exact absurd rfl (ha _))|(simp at h)
theorem run_binOp_iface {op:BinOp} {t:TypeId} {a b:Value} {r neg:Bool} (hop:(op=.eql∧neg=false)∨(op=.neq∧neg=true))
  (ha:a=.nilIface∨∃t v,a=.iface t v) (hr:(Op.equal t a b).run P w=.ok r w):
  (binOp op t a b).run P w=.ok (.bool (bif r then !neg else neg)) w:=by
 rcases ha with rfl|⟨t',v,rfl⟩<;>rcases hop with⟨rfl,rfl⟩|⟨rfl,rfl⟩<;>simp[binOp,hr]<;>cases r<;>rfl
theorem gives_eqi {op:BinOp} {t:TypeId} {ms:Array (String×TypeId)} {x y:Operand} {neg:Bool} (hop:(op=.eql∧neg=false)∨(op=.neq∧neg=true)) (hρ:Knows σ ρ)
  (hu:P.underlying t=some (.interface ms)) (h:sop P σ w.heap K Qp (.eqi neg x y)):Gives P (binSem op t x y (ρ x) (ρ y)) w K:=by
 simp only[sop]at h
 split at h
 ·rename_i u v hx hy
  rw[hρ x _ hx,hρ y _ hy]
  exact Gives.bin (run_eqGuard_iface _ _ _ _ (.inr (by simp)) (by simp) _) (run_binOp_iface (r:=false) hop (.inl rfl) (eqv_iface hu v w).2.1) h
 ·rename_i u v hx hy
  rw[hρ x _ hx,hρ y _ hy]
  exact Gives.bin (run_eqGuard_iface _ _ _ _ (.inl (by simp)) (by simp) _) (run_binOp_iface (r:=false) hop (.inr ⟨_,_,rfl⟩) (eqv_iface hu v w).1) h
 ·rename_i u v u' v' hx hy
  rw[hρ x _ hx,hρ y _ hy]
  by_cases hut:u=u'
  ·obtain⟨kd,hkd,hf1,hf2,h1,h2⟩:=h.2 hut
   subst hut
   obtain⟨⟨i,hi,hc⟩,hk⟩:=kdE_spec hkd
   obtain⟨r,hr,hr'⟩:=run_equalIn_kd hk hf1 hf2 9998 w
   have he:(Op.equal t (.iface u v) (.iface u v')).run P w=.ok r w:=by
    unfold Op.equal Op.maxDepth
    unfold Op.equalIn
    simp[run_underlying' hu,run_typeInfo' hi,hc,hr]
   refine Gives.bin (run_eqGuard_iface _ _ _ _ (.inl (by simp)) (by simp) _) (run_binOp_iface hop (.inr ⟨_,_,rfl⟩) he) ?_
   by_cases hv:v=v'
   ·rw[hr'.2 hv];exact h1 hv
   ·have:r=false:=by cases r with
     |false=>rfl
     |true=>exact absurd (hr'.1 rfl) hv
    rw[this];exact h2 hv
  ·have he:(Op.equal t (.iface u v) (.iface u' v')).run P w=.ok false w:=by
    unfold Op.equal Op.maxDepth
    unfold Op.equalIn
    simp[run_underlying' hu,hut]
   exact Gives.bin (run_eqGuard_iface _ _ _ _ (.inl (by simp)) (by simp) _) (run_binOp_iface (r:=false) hop (.inr ⟨_,_,rfl⟩) he) (h.1 hut)
 ·exact h.elim
theorem grown_ge (w:World) (n old:Nat) (e:TypeId):n≤grownCap w n old e:=by
 unfold grownCap;simp[Question.cut]
theorem gives_byts {s d e:TypeId} {x:Operand} (hρ:Knows σ ρ) (hs:P.underlying s=some .string) (hd:P.underlying d=some (.slice e)) (he:P.underlying e=some (.int .u8))
  (h:sop P σ w.heap K Qp (.byts x)):Gives P (do pure (.value (←convert s d (ρ x)))) w K:=by
 simp only[sop]at h
 split at h
 ·rename_i b hx
  rw[hρ x _ hx]
  have hr:=Lib.run_convert_string_bytes w s d e b hs hd he
  have hcells:Lib.bytesCells w e b=⟨byteCells b++List.replicate (grownCap w b.size 0 e-b.size) (.int .u8 0)⟩:=by
   apply Array.ext';simp[Lib.bytesCells,byteCells]
  refine Gives.val hr ⟨rfl,rfl,rfl⟩ (h _ _ _ (grown_ge w b.size 0 e) ⟨rfl,?_,Lib.bytesWorld_size w e b,fun k hk=>Lib.bytesWorld_at_old w e b k hk⟩)
  refine⟨e,_,?_,.inr rfl⟩
  rw[Lib.bytesWorld_at_new,hcells]
  rfl
 ·exact h.elim
theorem run_storeW (b:Nat) (e:TypeId) (k:Nat×Nat):∀(vs:List Value) (i o:Nat) (l:List Value) (w:World),w.heap[b]? =some (.cells ⟨l⟩ e k)→(k=(0,0)∨k=(l.length,l.length+1))→o+i+vs.length≤l.length→(∀v∈vs,v.oneCell'=true)→
  ∃w',(storeCells ⟨b,o,none⟩ vs i).run P w=.ok () w'∧SameB w w'∧w'.heap=w.heap.setIfInBounds b (.cells ⟨splice l (o+i) vs⟩ e k)
 |[],i,o,l,w,hb,_,_,_=>by
  refine⟨w,by simp[storeCells],SameB.refl w,?_⟩
  rw[splice_nil]
  apply Array.ext_getElem?
  intro k
  rw[Array.getElem?_setIfInBounds]
  split
  ·rename_i h;subst h
   have hlt:=(Array.getElem?_eq_some_iff.1 hb).1
   rw[if_pos hlt,hb]
  ·rfl
 |v::vs,i,o,l,w,hb,hk,hl,h1=>by
  simp only[List.length_cons]at hl
  have hc:w.cell? ⟨b,o+i,none⟩=some l[o+i]:=by
   rw[cell_eq];unfold cell;rw[hb];simp
  have hf:w.frozen? ⟨b,o+i,none⟩=false:=by
   unfold World.frozen?;rw[hb]
   rcases hk with rfl|rfl
   ·simp
   ·simp;omega
  have hlt:=(Array.getElem?_eq_some_iff.1 hb).1
  have hset:(w.setCell ⟨b,o+i,none⟩ v).heap=w.heap.setIfInBounds b (.cells ⟨l.set (o+i) v⟩ e k):=by
   unfold World.setCell
   apply Array.ext_getElem?
   intro k
   simp only[Array.getElem?_modify,Array.getElem?_setIfInBounds]
   by_cases hk:b=k
   ·subst hk
    have:=(Array.getElem?_eq_some_iff.1 hb).2
    simp[hlt,this]
   ·simp[hk]
  have hb':(w.setCell ⟨b,o+i,none⟩ v).heap[b]? =some (.cells ⟨l.set (o+i) v⟩ e k):=by
   rw[hset];simp[hlt]
  obtain⟨w',hr,hsame,hheap⟩:=run_storeW b e k vs (i+1) o (l.set (o+i) v) (w.setCell ⟨b,o+i,none⟩ v) hb' (by simpa using hk) (by simp;omega) (fun x hx=>h1 x (by simp[hx]))
  refine⟨w',?_,⟨hsame.1,hsame.2.1,hsame.2.2⟩,?_⟩
  ·have hv:=h1 v (by simp)
   simp only[storeCells,Sem.run_bind,addr_add,run_store P w _ v .plain hv,hc,hf,Bool.false_eq_true,if_false,Result.andThen_ok]
   exact hr
  ·rw[hheap,hset,splice_cons l (o+i) v vs (by omega)]
   apply Array.ext_getElem?
   intro k
   simp only[Array.getElem?_setIfInBounds,Array.size_setIfInBounds]
   split<;>simp_all [Nat.add_assoc]
theorem putW_of_set {h:Heap} {b o:Nat} {l vs:List Value} {e:TypeId} {k k0:Nat×Nat} {c:Array Value} (hb:h[b]? =some (.cells c e k0)) (hk:k=(0,0)∨k=(l.length,l.length+1)):
  PutW h (h.setIfInBounds b (.cells ⟨splice l o vs⟩ e k)) b (splice l o vs):=by
 have hlt:=(Array.getElem?_eq_some_iff.1 hb).1
 refine⟨⟨e,k,by simp[hlt],by rw[splice_size];exact hk⟩,by simp,fun k hk=>?_,fun t ⟨c',k',ht⟩=>?_⟩
 ·rw[Array.getElem?_setIfInBounds,if_neg (fun h=>hk h.symm)]
 ·rw[hb]at ht
  simp at ht
  obtain⟨_,rfl,_⟩:=ht
  exact⟨_,_,by simp[hlt];exact⟨rfl,rfl⟩⟩
theorem gives_stb {t:TypeId} {x v:Operand} (hρ:Knows σ ρ) (hs:szOf P t=some 1) (h:sop P σ w.heap K Qp (.stb x v)):
  Gives P (do Instr.storeAt t (ρ x) (ρ v);pure .skip) w K:=by
 simp only[sop]at h
 split at h
 ·rename_i b o v' hx hv
  obtain⟨l,⟨e,k,hb,hkk⟩,hfit,hn,h1,hk⟩:=h
  obtain⟨w',hr,hsame,hheap⟩:=run_storeW (P:=P) b e k v'.cells.toList 0 o l w hb hkk (by rw[hn];omega) h1
  rw[Nat.add_zero]at hheap
  rw[hρ x _ hx,hρ v _ hv]
  refine⟨undef,w',.inr ⟨?_,rfl⟩,hsame,hk _ ?_⟩
  ·have hne:¬(v'.cells.size≠1):=by simp at hn;simp[hn]
   have hr':(storeCells ⟨b,o,none⟩ v'.cells.toList).run P w=.ok () w':=hr
   simp only[Instr.storeAt,Instr.sureAddr,storeVar,Sem.run_bind,Sem.run_pure,Result.andThen_ok,run_sizeOf' hs]
   rw[if_neg hne]
   simp[hr']
  ·rw[hheap];exact putW_of_set hb hkk
 ·exact h.elim
theorem run_wrB {a:Option Addr} {ys:List Value} {KK:Heap→Prop} (hw:wrB w.heap KK a ys):∃w',(match a with|some a=>storeCells a ys|none=>pure ()).run P w=.ok () w'∧SameB w w'∧KK w'.heap:=by
 by_cases hy:ys=[]
 ·subst hy
  refine⟨w,?_,SameB.refl w,hw.1 rfl⟩
  cases a<;>rfl
 ·have h:=hw.2 hy
  split at h
  ·rename_i b o
   obtain⟨l,⟨e,k,hb,hkk⟩,hfit,h1,hk⟩:=h
   obtain⟨w',hr,hsame,hheap⟩:=run_storeW (P:=P) b e k ys 0 o l w hb hkk (by omega) h1
   rw[Nat.add_zero]at hheap
   refine⟨w',hr,hsame,hk _ ?_⟩
   rw[hheap];exact putW_of_set hb hkk
  ·exact h.elim
theorem run_firstB {h:Heap} {v:Value} {n:Nat} {ys:List Value} (hs:SrcB h v n ys) (w:World) (hw:w.heap=h):(Builtin.firstCells 1 n v).run P w=.ok ⟨ys⟩ w:=by
 unfold SrcB at hs
 split at hs
 ·rename_i a m c
  exact run_firstCells (size:=1) hs.2 (by rw[hs.1];omega) w hw
 ·rename_i s
  obtain⟨rfl,hn⟩:=hs
  have e:((s.extract 0 n).data.map fun b=>Value.int .u8 b.toNat)=⟨(byteCells s).take n⟩:=by
   apply Array.ext'
   simp[byteCells,ByteArray.data_extract]
  simp only[Builtin.firstCells,Sem.run_pure,e]
 ·exact hs.elim
theorem run_lenB {v:Value} {m:Nat} (hm:lenB v=some m) (w:World):(Builtin.lenOf v).run P w=.ok m w:=by
 unfold lenB at hm
 split at hm<;>simp at hm<;>subst hm<;>simp[Builtin.lenOf]
theorem isByte_spec {e:TypeId} (h:isByte P e=true):P.underlying e=some (.int .u8)∧∃i,P.info? e=some i∧i.size=1∧i.bytes=1∧i.zero=some (.int .u8 0):=by
 unfold isByte at h
 split at h
 ·rename_i i hi
  simp only[Bool.and_eq_true]at h
  obtain⟨⟨⟨h1,h2⟩,h3⟩,h4⟩:=h
  refine⟨?_,i,hi,Nat.eq_of_beq_eq_true h2,Nat.eq_of_beq_eq_true h3,?_⟩
  ·split at h1
   ·assumption
   ·simp at h1
  ·split at h4
   ·assumption
   ·simp at h4
 ·simp at h
theorem gives_cpyb {t u e:TypeId} {d:TypeDesc} {x y:Operand} {ty:TypeId} (hρ:Knows σ ρ) (hu:P.underlying t=some (.slice e)) (he:isByte P e=true) (_:P.underlying u=some d)
  (h:sop P σ w.heap K Qp (.cpyb x y)):Gives P (do pure (.value (←Builtin.copy_ #[t,u] ty #[ρ x,ρ y]))) w K:=by
 obtain⟨hue,i,hi,hsz,hby,hz⟩:=isByte_spec he
 have hs:szOf P e=some 1:=by simp[szOf,hi,hsz]
 simp only[sop]at h
 split at h
 ·rename_i a n c v hx hy
  split at h
  ·rename_i m hm
   obtain⟨ys,hyl,hys,hw⟩:=h
   rw[hρ x _ hx,hρ y _ hy]
   have fy:=run_firstB (P:=P) hys w rfl
   obtain⟨w',hr,hb,hk⟩:=run_wrB (P:=P) hw
   refine Gives.val (v:=.int .i64 (min m n:Nat)) (w':=w') ?_ hb hk
   have hmin:Nat.min m n=min m n:=rfl
   cases a with
   |none=>
    have hr':(pure ():Sem Unit).run P w=.ok () w':=hr
    have e:w'=w:=by simpa using hr'.symm
    subst e
    simp[Builtin.copy_,run_underlying' hu,run_lenB hm,run_sizeOf' hs,hmin,fy,goInt]
   |some a=>
    have hr':(storeCells a ys).run P w=.ok () w':=hr
    simp[Builtin.copy_,run_underlying' hu,run_lenB hm,run_sizeOf' hs,hmin,fy,goInt,hr']
  ·exact h.elim
 ·exact h.elim
theorem gives_appb {t u e : TypeId} {d : TypeDesc} {x y : Operand} {ty : TypeId} (hρ : Knows σ ρ) (hu : P.underlying t = some (.slice e)) (he : isByte P e = true) (hu2 : P.underlying u = some d) (hd : d = .string ∨ ∃ e2, d = .slice e2)
    (h : sop P σ w.heap K Qp (.appb e x y)) : Gives P (do pure (.value (← Builtin.append_ #[t, u] ty #[ρ x, ρ y]))) w K := by
  obtain ⟨hue, i, hi, hisz, hby, hiz⟩ := isByte_spec he
  have hsz : szOf P e = some 1 := by simp [szOf, hi, hisz]
  have hzv : zeroOf P e = some (.int .u8 0) := by simp [zeroOf, hi, hiz]
  simp only [sop] at h
  split at h
  · rename_i a n c v hx hy
    split at h
    · rename_i m hm
      obtain ⟨xs, ys, hxl, hyl, hxs, hys, h1, hin, hout⟩ := h
      rw [hρ x _ hx, hρ y _ hy]
      have fx : ∀ w' : World, w'.heap = w.heap → (Builtin.firstCells 1 n (.slice a n c)).run P w' = .ok ⟨xs⟩ w' := fun w' hw' => run_firstCells (size := 1) hxs (by omega) w' hw'
      have fy : ∀ w' : World, w'.heap = w.heap → (Builtin.firstCells 1 m v).run P w' = .ok ⟨ys⟩ w' := fun w' hw' => run_firstB hys w' hw'
      have hlen := run_lenB (P := P) hm w
      by_cases hroom : n + m ≤ c
      · have h := hin hroom
        cases a with
        | none =>
          refine Gives.same (v := .slice none (n + m) c) ?_ h
          rcases hd with rfl | ⟨e2, rfl⟩ <;> simp only [List.getElem?_toArray, List.getElem?_cons_zero, List.getElem?_cons_succ, Sem.run_bind, Result.andThen_ok, Sem.run_pure, Bool.false_eq_true, if_false, if_true, Bool.not_false, Builtin.append_, run_underlying' hu, run_underlying' hu2, run_sizeOf' hsz, hlen, hroom, fy w rfl]
        | some a =>
          obtain ⟨b, o, sp⟩ := a
          cases sp with
          | some s => exact h.elim
          | none =>
            obtain ⟨l, ⟨eb, kk, hb, hkk⟩, hfit, hk⟩ := h
            obtain ⟨w', hr, hsame, hheap⟩ := run_storeW (P := P) b eb kk ys 0 (o + n) l w hb hkk (by omega) h1
            rw [Nat.add_zero] at hheap
            refine Gives.val (v := .slice (some ⟨b, o, none⟩) (n + m) c) (w' := w') ?_ hsame (hk _ ?_)
            · have hr' : (storeCells ⟨b, o + n, none⟩ ys).run P w = .ok () w' := hr
              rcases hd with rfl | ⟨e2, rfl⟩ <;> simp only [List.getElem?_toArray, List.getElem?_cons_zero, List.getElem?_cons_succ, Sem.run_bind, Result.andThen_ok, Sem.run_pure, Bool.false_eq_true, if_false, if_true, Bool.not_false, Nat.mul_one, Builtin.append_, run_underlying' hu, run_underlying' hu2, run_sizeOf' hsz, hlen, hroom, fy w rfl, addr_add, hr']
            · rw [hheap]; exact putW_of_set hb hkk
      · obtain ⟨hbound, hk⟩ := hout (by omega)
        have hneed : n + m < 9223372036854775808 := by omega
        have hg1' : ¬ (((n + m : Nat) : Int) > IntKind.i64.max ∧ i.bytes = 0) := fun h => by omega
        have hg2 : ¬ (Builtin.nextslicecap (n + m) c * i.bytes > 2 ^ 48) := by
          have h2 := nextslicecap_le (need := n + m) (old := c) (by omega)
          rw [hby]; omega
        obtain ⟨cap, hcap⟩ : ∃ cap, cap = (Question.appendCap (n + m) c e).cut (w.tape w.drawn (.appendCap (n + m) c e)) := ⟨_, rfl⟩
        have hcle : n + m ≤ cap := by rw [hcap]; simp [Question.cut]
        obtain ⟨w1, hw1⟩ : ∃ w1 : World, w1 = { w with drawn := w.drawn + 1 } := ⟨_, rfl⟩
        have hch : (choose (.appendCap (n + m) c e)).run P w = .ok cap w1 := by
          rw [run_choose, hcap, hw1]; simp [Question.forced]
        have hzc : Builtin.zeroCells (Value.int .u8 0).cells (cap - (n + m)) = ⟨List.replicate (cap - (n + m)) (.int .u8 0)⟩ := by
          have : Builtin.zeroCells (Value.int .u8 0).cells (cap - (n + m)) = ⟨(List.replicate (cap - (n + m)) (Value.int .u8 0).cells.toList).flatten⟩ := range_zeros _ _
          rw [this]
          have e2 : (Value.int .u8 0).cells.toList = [.int .u8 0] := rfl
          rw [e2, List.flatten_replicate_singleton]
        have hheap1 : w1.heap = w.heap := by rw [hw1]
        have hnr : ¬ n + m ≤ c := hroom
        refine Gives.val (v := .slice (some ⟨w.heap.size, 0, none⟩) (n + m) cap)
          (w' := { w1 with heap := w1.heap.push (.cells ⟨xs ++ ys ++ List.replicate (cap - (n + m)) (.int .u8 0)⟩ e) }) ?_ ⟨by rw [hw1], by rw [hw1], by rw [hw1]⟩ (hk cap _ _ hcle ?_ ?_)
        · have harr : (⟨xs⟩ : Array Value) ++ ⟨ys⟩ ++ ⟨List.replicate (cap - (n + m)) (.int .u8 0)⟩ = ⟨xs ++ ys ++ List.replicate (cap - (n + m)) (.int .u8 0)⟩ := by
            apply Array.ext'; simp
          rcases hd with rfl | ⟨e2, rfl⟩ <;>
              (simp only [Builtin.append_, List.getElem?_toArray, List.getElem?_cons_zero, List.getElem?_cons_succ, Sem.run_bind, run_underlying' hu, run_underlying' hu2, Result.andThen_ok, run_sizeOf' hsz,
                Sem.run_pure, hlen, run_typeInfo' hi, Bool.false_eq_true, false_or, if_false, if_neg hnr, if_neg hg1', if_neg hg2, hch, run_askRoom, fx w1 hheap1, fy w1 hheap1, run_zeroValue' hzv, hzc, harr, newRow, run_newObj, Bool.not_false, if_true]
               rw [hheap1])
        · show Grow w.heap (w1.heap.push _) w.heap.size _
          rw [hheap1]; exact grow_of_push w.heap _ e
        · show TyB (w1.heap.push _) w.heap.size e
          rw [hheap1]; exact ⟨_, _, Array.getElem?_push_size⟩
    · exact h.elim
  · exact h.elim

theorem gives_rng {t k e:TypeId} {x:Operand} (hρ:Knows σ ρ) (hu:P.underlying t=some (.map k e)) (h:sop P σ w.heap K Qp (.rng x)):
  Gives P (do pure (.value (←Instr.range t (ρ x)))) w K:=by
 simp only[sop]at h
 split at h
 ·rename_i hx
  rw[hρ x _ hx]
  refine Gives.val (v:=.pointer (some ⟨w.heap.size,0,none⟩)) (w':={w with heap:=w.heap.push (.mapIter none 0 #[] 0)}) ?_ ⟨rfl,rfl,rfl⟩ (h _ _ (growO_of_push w.heap _))
  simp[Instr.range,run_underlying' hu]
 ·rename_i r hx
  obtain⟨es,c,hm,hk⟩:=h
  rw[hρ x _ hx]
  refine Gives.val (v:=.pointer (some ⟨w.heap.size,0,none⟩)) (w':={w with heap:=w.heap.push (.mapIter (some r) c #[] c)}) ?_ ⟨rfl,rfl,rfl⟩ (hk _ _ (growO_of_push w.heap _))
  simp[Instr.range,run_underlying' hu,run_getMap hm w rfl]
 ·exact h.elim
def isIter:Obj→Bool
 |.mapIter .. =>true
 |_=>false
theorem run_getAny {h:Heap} {r:Nat} {x:Obj} (hm:h[r]? =some x) (hi:isIter x=true) (w:World) (hw:w.heap=h):(getObj r).run P w=.ok x w:=by
 cases x<;>simp[isIter]at hi<;>simp[getObj,Sem.run,hw,hm]
theorem run_setAny {r:Nat} {x y:Obj} (hm:w.heap[r]? =some x) (hi:isIter x=true):(setObj r y).run P w=.ok () {w with heap:=w.heap.setIfInBounds r y}:=by
 cases x<;>simp[isIter]at hi<;>simp[setObj,Sem.run,hm]
theorem gives_nxt {x:Operand} {ty:TypeId} (hρ:Knows σ ρ) (h:sop P σ w.heap K Qp (.nxt x)):Gives P (do pure (.value (←Instr.next (ρ x) false ty))) w K:=by
 simp only[sop]at h
 split at h
 ·rename_i r hx
  rw[hρ x _ hx]
  rcases h with⟨since,seen,last,hr,hk⟩|⟨m,since,seen,last,es,clock,hr,hm,hborn,hok,h1,h2⟩
  ·refine Gives.same (v:=.tuple #[.bool false]) ?_ hk
   simp[Instr.next,run_getAny hr rfl w rfl]
  ·have hnot:(!seen.isEmpty&&!(⟨es⟩:Array MapEntry).isEmpty&&(⟨es⟩:Array MapEntry).all (fun e=>decide (e.born≥last)))=false:=by
    rcases hok with rfl|rfl|hle
    ·simp
    ·simp
    ·cases es with
     |nil=>simp
     |cons e es=>
      have:=hborn e (by simp)
      have hlt:¬e.born≥last:=by omega
      simp[hlt]
   have hall:∀e∈es,decide (e.born<since)=true:=fun e he=>by simpa using hborn e he
   have hnone:∀e∈es,decide (e.born≥since)=false:=fun e he=>by have:=hborn e he;simp;omega
   obtain⟨left,hleft⟩:∃left:List MapEntry,left=es.filter fun e=>!seen.contains e.born:=⟨_,rfl⟩
   have hold:((⟨es⟩:Array MapEntry).filter fun e=>!seen.contains e.born).filter (fun e=>decide (e.born<since))=⟨left⟩:=by
    apply Array.ext'
    simp only[Array.toList_filter,←hleft]
    refine List.filter_eq_self.2 fun e he=>?_
    rw[hleft]at he
    exact hall e (List.mem_filter.1 he).1
   have hnew:((⟨es⟩:Array MapEntry).filter fun e=>!seen.contains e.born).filter (fun e=>decide (e.born≥since))=⟨[]⟩:=by
    apply Array.ext'
    simp only[Array.toList_filter,←hleft]
    refine List.filter_eq_nil_iff.2 fun e he=>?_
    rw[hleft]at he
    rw[hnone e (List.mem_filter.1 he).1];simp
   cases hl:left with
   |nil=>
    have hdone:∀e∈es,seen.contains e.born=true:=by
     intro e he
     by_cases hs:seen.contains e.born=true
     ·exact hs
     ·have:e∈left:=by rw[hleft];exact List.mem_filter.2 ⟨he,by simpa using hs⟩
      rw[hl]at this;simp at this
    obtain⟨w1,hw1⟩:∃w1:World,w1=(if(Question.mapNext 1).forced then w else{w with drawn:=w.drawn+1}):=⟨_,rfl⟩
    have hch:(choose (.mapNext 1)).run P w=.ok 0 w1:=by
     rw[run_choose,hw1]
     by_cases hf:(Question.mapNext 1).forced=true
     ·simp[hf]
     ·simp only[hf,if_false,Bool.false_eq_true]
      have:(Question.mapNext 1).cut (w.tape w.drawn (.mapNext 1))=0:=by simp[Question.cut];omega
      rw[this]
    have hb1:SameB w w1:=by rw[hw1];split<;>exact⟨rfl,rfl,rfl⟩
    have hh1:w1.heap=w.heap:=by rw[hw1];split<;>rfl
    refine Gives.val (v:=.tuple #[.bool false]) (w':=w1) ?_ hb1 (by rw[hh1];exact h1 hdone)
    have hcand:(if(⟨[]⟩:Array MapEntry).isEmpty=true then(#[none]:Array (Option MapEntry))else #[])++((⟨[]⟩:Array MapEntry)++(⟨[]⟩:Array MapEntry)).map some= #[none]:=by
     apply Array.ext';simp
    have hsize:(#[none]:Array (Option MapEntry)).size=1:=rfl
    have hc0:(#[none]:Array (Option MapEntry))[0]? =some none:=rfl
    simp only[Instr.next,Sem.run_bind,run_getAny hr rfl w rfl,Result.andThen_ok,run_getMap hm w rfl,hnot,Bool.false_eq_true,if_false,Sem.run_pure,hold,hnew,hl,hcand,hsize,hch,hc0]
   |cons e0 rest=>
    obtain⟨q,hq⟩:∃q,q=Question.mapNext (left.length):=⟨_,rfl⟩
    obtain⟨w1,j,hch,hj,hb1,hh1⟩:∃w1 j,(choose q).run P w=.ok j w1∧j<left.length∧SameB w w1∧w1.heap=w.heap:=by
     rw[run_choose]
     by_cases hf:q.forced=true
     ·exact⟨w,0,by simp[hf],by rw[hl];simp,SameB.refl w,rfl⟩
     ·refine⟨{w with drawn:=w.drawn+1},q.cut (w.tape w.drawn q),by simp only[hf,if_false,Bool.false_eq_true],?_,⟨rfl,rfl,rfl⟩,rfl⟩
      rw[hq]
      have:0<left.length:=by rw[hl];simp
      simp only[Question.cut]
      exact Nat.mod_lt _ this
    obtain⟨e,hje⟩:∃e,left[j]? =some e:=⟨_,List.getElem?_eq_getElem hj⟩
    have hin:e∈left:=List.mem_of_getElem? hje
    have hin2:=hin
    rw[hleft]at hin2
    obtain⟨hees,hseen⟩:=List.mem_filter.1 hin2
    have hseen':seen.contains e.born=false:=by simpa using hseen
    have hr1:w1.heap[r]? =some (.mapIter (some m) since seen last):=by rw[hh1];exact hr
    refine Gives.val (v:=.tuple #[.bool true,e.key,e.val]) (w':={w1 with heap:=w1.heap.setIfInBounds r (.mapIter (some m) since (seen.push e.born) clock)}) ?_ ⟨hb1.1,hb1.2.1,hb1.2.2⟩
     (by
      refine h2 e hees hseen' _ ?_
      show PutO w.heap (w1.heap.setIfInBounds r _) r _
      rw[hh1]
      exact putO_of_set hr)
    have hcand:(if(⟨left⟩:Array MapEntry).isEmpty=true then(#[none]:Array (Option MapEntry))else #[])++((⟨left⟩:Array MapEntry)++(⟨[]⟩:Array MapEntry)).map some=⟨left.map some⟩:=by
     rw[hl]
     apply Array.ext';simp
    have hsize:(⟨left.map some⟩:Array (Option MapEntry)).size=left.length:=by simp
    have hcj:(⟨left.map some⟩:Array (Option MapEntry))[j]? =some (some e):=by simp[hje]
    simp only[Instr.next,Sem.run_bind,run_getAny hr rfl w rfl,Result.andThen_ok,run_getMap hm w rfl,hnot,Bool.false_eq_true,if_false,hold,hnew,hcand,hsize]
    rw[←hq,hch]
    simp only[Result.andThen_ok,hcj,Sem.run_bind,run_setAny hr1 rfl,Sem.run_pure]
 ·exact h.elim
theorem gives_ent {x:Operand} (hρ:Knows σ ρ) (h:sop P σ w.heap K Qp (.ent x)):Gives P (do pure (.value (←Instr.entry (ρ x)))) w K:=by
 simp only[sop]at h
 split at h
 ·rename_i r hx
  rw[hρ x _ hx]
  obtain⟨m,since,seen,last,es,b,e,hr,hm,hb,he,hk⟩:=h
  refine Gives.same (v:=.tuple #[e.key,e.val]) ?_ hk
  have hf:(⟨es⟩:Array MapEntry).find? (fun e=>e.born==b)=some e:=by simpa using he
  simp only[Instr.entry,Sem.run_bind,run_getAny hr rfl w rfl,Result.andThen_ok,hb,run_getMap hm w rfl]
  simp[hf]
 ·exact h.elim
theorem gives_cvm {s e _e':TypeId} {x:Operand} (hρ:Knows σ ρ) (hs:P.underlying s=some (.slice e)) (he:P.underlying e=some (.int .u8))
  (h:sop P σ w.heap K Qp (.cvm x)):Gives P (do pure (.value (←convert s s (ρ x)))) w K:=by
 simp only[sop]at h
 split at h
 ·rename_i b o n c hx
  obtain⟨l,⟨e1,k,hb,hkk⟩,hk⟩:=h
  rw[hρ x _ hx]
  have hlt:=(Array.getElem?_eq_some_iff.1 hb).1
  have hsh:w.shape? b=some (e1,l.length):=by simp[World.shape?,hb]
  refine Gives.val (v:=.slice (some ⟨b,o,none⟩) n c) (w':=w.freeze ⟨b,l.length,none⟩ 1) ?_ ⟨rfl,rfl,rfl⟩ (hk _ ?_)
  ·simp[convert,run_underlying' hs,run_underlying' he,markStringish,hsh]
  ·refine⟨⟨e1,(l.length,l.length+1),?_,.inr rfl⟩,by simp[World.freeze],fun j hj=>?_,fun t ⟨c',k',ht⟩=>?_⟩
   ·show(w.heap.modify b _)[b]? =_
    rw[Array.getElem?_modify]
    rw[if_pos rfl,hb]
    rcases hkk with rfl|rfl<;>simp
   ·show(w.heap.modify b _)[j]? =_
    rw[Array.getElem?_modify,if_neg (fun e=>hj e.symm)]
   ·refine⟨c',?_⟩
    show∃k,(w.heap.modify b _)[b]? =_
    rw[Array.getElem?_modify,if_pos rfl,ht]
    exact⟨_,rfl⟩
 ·exact h.elim
theorem gives_ixw {t e:TypeId} {n size:Nat} {x i:Operand} (hρ:Knows σ ρ) (hu:P.underlying t=some (.array n e)) (hg:aggOf P e=some true) (hs:szOf P e=some size)
  (h:sop P σ w.heap K Qp (.ixw n size x i)):Gives P (do pure (.value (←Instr.index t (ρ x) (ρ i)))) w K:=by
 simp only[sop]at h
 split at h
 ·rename_i cs k j hx hi
  obtain⟨h0,h1,hv,hk⟩:=h
  rw[hρ x _ hx,hρ i _ hi]
  refine Gives.same ?_ hk
  have he:cs.extract (j.toNat*size) (j.toNat*size+size)=⟨(cs.toList.drop (j.toNat*size)).take size⟩:=by
   apply Array.ext'
   simp[List.extract_eq_take_drop]
  simp[Instr.index,asIntOf,run_underlying' hu,h0,h1,run_sizeOf' hs,part,run_isAgg' hg,he]
 ·exact h.elim
theorem gives_clrm {t k e:TypeId} {x:Operand} {args:Array TypeId} {ty:TypeId} (hρ:Knows σ ρ) (ha:args= #[t]) (hu:P.underlying t=some (.map k e))
  (h:sop P σ w.heap K Qp (.clrm x)):Gives P (do pure (.value (←Builtin.clear_ args ty #[ρ x]))) w K:=by
 subst ha
 simp only[sop]at h
 split at h
 ·rename_i hx
  rw[hρ x _ hx]
  exact Gives.same (by simp[Builtin.clear_,run_underlying' hu]) h
 ·rename_i r hx
  obtain⟨es,c,hm,hk⟩:=h
  rw[hρ x _ hx]
  refine Gives.val (v:=.tuple #[]) (w':={w with heap:=w.heap.setIfInBounds r (.map ⟨[]⟩ c)}) ?_ ⟨rfl,rfl,rfl⟩ (hk _ (putO_of_set hm))
  simp[Builtin.clear_,run_underlying' hu,run_getMap hm w rfl,run_setMap (es':=[]) hm]
 ·exact h.elim
theorem gives_newT {t:TypeId} {z:Value} (hz:zeroOf P t=some z) (h:sop P σ w.heap K Qp (.newT t z.cells.toList)):
  Gives P (do pure (.value (←Instr.alloc t true (.tuple #[])))) w K:=by
 simp only[sop]at h
 refine Gives.val (v:=.pointer (some ⟨w.heap.size,0,none⟩)) (w':={w with heap:=w.heap.push (.cells z.cells t)}) ?_ ⟨rfl,rfl,rfl⟩ (h _ _ (grow_of_push w.heap z.cells.toList t) ⟨_,_,Array.getElem?_push_size⟩)
 simp[Instr.alloc,run_zeroValue' hz,newVar,newRow]
theorem szOf_info {t:TypeId} {m:Nat} (h:szOf P t=some m):∃j,P.info? t=some j∧j.size=m:=by
 simpa[szOf,Option.map_eq_some_iff]using h
theorem gives_p2u {s d t:TypeId} {m:Nat} {x:Operand} (hρ:Knows σ ρ) (hs:P.underlying s=some (.pointer t)) (hd:P.underlying d=some .unsafePointer) (hz:szOf P t=some (m+1))
  (h:sop P σ w.heap K Qp (.p2u x)):Gives P (do pure (.value (←convert s d (ρ x)))) w K:=by
 simp only[sop]at h
 split at h
 ·rename_i b o hx
  obtain⟨l,⟨e,k,hb,_⟩,hlt,hk⟩:=h
  rw[hρ x _ hx]
  obtain⟨j,hj,hjs⟩:=szOf_info hz
  exact Gives.same (Go.Lib.run_to_unsafe w ⟨b,o,none⟩ hs hd hj (by omega) (e:=e) (cells:=l.length) (by simp[World.shape?,hb]) hlt) hk
 ·exact h.elim
theorem gives_u2p {s d t:TypeId} {n:Nat} {x:Operand} (hρ:Knows σ ρ) (hs:P.underlying s=some .unsafePointer) (hd:P.underlying d=some (.pointer t)) (hz:liesOwn P t=some n)
  (h:sop P σ w.heap K Qp (.u2p t n x)):Gives P (do pure (.value (←convert s d (ρ x)))) w K:=by
 simp only[sop]at h
 split at h
 ·rename_i b hx
  obtain⟨l,⟨e,k,hb,_⟩,hl,⟨c,k',ht⟩,hk⟩:=h
  rw[hρ x _ hx]
  rw[hb]at ht
  simp at ht
  obtain⟨_,rfl,_⟩:=ht
  unfold liesOwn at hz
  split at hz
  ·rename_i m hsz
   split at hz
   ·rename_i q hq
    split at hz
    ·rename_i hlies
     simp at hz
     obtain⟨j,hj,hjs⟩:=szOf_info hsz
     refine Gives.same (Go.Lib.run_from_unsafe w ⟨b,0,none⟩ hs hd hj (e:=e) (cells:=l.length) (by simp[World.shape?,hb]) ?_) hk
     rw[hq,hl,←hz,Nat.div_self (Nat.succ_pos q)]
     exact hlies
    ·simp at hz
   ·simp at hz
  ·simp at hz
 ·exact h.elim
theorem gives_sld {x:Operand} {ts:Array TypeId} {ty:TypeId} (hρ:Knows σ ρ) (h:sop P σ w.heap K Qp (.sld x)):Gives P (do pure (.value (←Builtin.unsafeSliceData_ ts ty #[ρ x]))) w K:=by
 simp only[sop]at h
 split at h
 ·rename_i n c hx
  rw[hρ x _ hx]
  exact Gives.same (Go.Lib.run_unsafeSliceData_nil w ts ty n c) h
 ·rename_i a n c hx
  rw[hρ x _ hx]
  exact Gives.same (Go.Lib.run_unsafeSliceData_row w ts ty a n c h.1) h.2
 ·exact h.elim
theorem gives_ust {pt it e:TypeId} {x n:Operand} {ty:TypeId} (hρ:Knows σ ρ) (hp:P.underlying pt=some (.pointer e)) (hc:P.cellsOf e=1) (h:sop P σ w.heap K Qp (.ust e x n)):
  Gives P (do pure (.value (←Builtin.unsafeString_ #[pt,it] ty #[ρ x,ρ n]))) w K:=by
 simp only[sop]at h
 split at h
 ·rename_i p k hx hn
  rw[hρ x _ hx,hρ n _ hn]
  by_cases hk:k=0
  ·subst hk
   exact Gives.same (Go.Lib.run_unsafeString_none w pt it ty p) (h.1 rfl)
  ·obtain⟨b,l,tot,rfl,rfl,h63,⟨eb,kk,hb,_⟩,⟨c,k',ht⟩,hle,hcell,hK⟩:=h.2 hk
   rw[hb]at ht
   simp at ht
   obtain⟨_,rfl,_⟩:=ht
   have h0:l≠[]:=by rintro rfl;exact hk rfl
   have hz:¬l.length=0:=fun e=>hk (by omega)
   refine Gives.val (v:=.string ⟨l.toArray⟩) (w':=w.freeze ⟨b,0,none⟩ l.length) (Go.Lib.run_unsafeString_row w pt it ty eb hp hc b tot.length (by simp[World.shape?,hb]) l h0 hle (by omega) ?_) (by rw[World.freeze,if_neg hz];exact⟨rfl,rfl,rfl⟩) (hK _ (by rw[World.freeze,if_neg hz];simp) fun j hj=>?_)
   ·intro j y hy
    have:=hcell j y hy
    simp only[cell,hb]at this
    simp[addr_add,World.cell?,hb]
    simpa using this
   ·rw[World.freeze,if_neg hz]
    show(w.heap.modify b _)[j]? =_
    rw[Array.getElem?_modify,if_neg (fun e=>hj e.symm)]
 ·exact h.elim
theorem gives_rngs {t:TypeId} {x:Operand} (hρ:Knows σ ρ) (hu:P.underlying t=some .string) (h:sop P σ w.heap K Qp (.rngs x)):
  Gives P (do pure (.value (←Instr.range t (ρ x)))) w K:=by
 simp only[sop]at h
 split at h
 ·rename_i s hx
  rw[hρ x _ hx]
  refine Gives.val (v:=.pointer (some ⟨w.heap.size,0,none⟩)) (w':={w with heap:=w.heap.push (.stringIter s 0)}) ?_ ⟨rfl,rfl,rfl⟩ (h _ _ (growO_of_push w.heap _))
  simp[Instr.range,run_underlying' hu]
 ·exact h.elim
theorem gives_nxts {x:Operand} {ty:TypeId} (hρ:Knows σ ρ) (h:sop P σ w.heap K Qp (.nxts x)):Gives P (do pure (.value (←Instr.next (ρ x) true ty))) w K:=by
 simp only[sop]at h
 split at h
 ·rename_i r hx
  obtain⟨s,pos,hr,h1,h2⟩:=h
  rw[hρ x _ hx]
  have hg:(getObj r).run P w=.ok (.stringIter s pos) w:=by simp[getObj,Sem.run,hr]
  by_cases hp:pos<s.size
  ·refine Gives.val (v:=.tuple #[.bool true,.int .i64 pos,.int .i32 (Utf8.decode s pos).1]) (w':={w with heap:=w.heap.setIfInBounds r (.stringIter s (pos+(Utf8.decode s pos).2))}) ?_ ⟨rfl,rfl,rfl⟩ (h2 hp _ (putO_of_set hr))
   have hs:(setObj r (.stringIter s (pos+(Utf8.decode s pos).2))).run P w=.ok () {w with heap:=w.heap.setIfInBounds r (.stringIter s (pos+(Utf8.decode s pos).2))}:=by simp[setObj,Sem.run,hr]
   simp only[Instr.next,Sem.run_bind,hg,Result.andThen_ok,if_pos hp,hs,Sem.run_pure,goInt]
  ·refine Gives.same (v:=.tuple #[.bool false]) ?_ (h1 (by omega))
   simp only[Instr.next,Sem.run_bind,hg,Result.andThen_ok,if_neg hp,Sem.run_pure]
 ·exact h.elim
end Go.Sx
namespace Go.Sx
open Go
variable {P:Program} {σ σ':Env} {h:Heap} {K K':Value→Heap→Prop} {Qp:List PanicEntry→Heap→Prop}
theorem CallsH.mono {f:Nat} {args:List Value} {R R':Ending→Heap→Prop} (hc:CallsH P f args h R) (hr:∀e h',R e h'→R' e h'):CallsH P f args h R':=
 ⟨hc.1,fun w hw=>(hc.2 w hw).mono fun _ _ ⟨a,b⟩=>⟨hr _ _ a,b⟩⟩
theorem YieldH.mono {l:Nat} {args:List Value} {R R':Ending→Heap→Prop} (hy:YieldH P l args h R) (hr:∀e h',R e h'→R' e h'):YieldH P l args h R':=by
 intro w hw
 obtain⟨fn,tmps,as,bo,h1,h2⟩:=hy w hw
 exact⟨fn,tmps,as,bo,h1,h2.mono fun e w' ⟨a,b⟩=>⟨hr _ _ a,b⟩⟩
theorem evs_congr:∀(xs:List Operand),(∀x∈xs,ev σ x=ev σ' x)→evs σ xs=evs σ' xs
 |[],_=>rfl
 |x::xs,hx=>by
  simp only[evs]
  rw[hx x (by simp),evs_congr xs fun y hy=>hx y (by simp[hy])]
theorem bndOf_congr {x:Option Operand} {d:Nat} (hx:∀y∈opt x,ev σ y=ev σ' y):bndOf σ x d=bndOf σ' x d:=by
 cases x with
 |none=>rfl
 |some y=>simp only[bndOf];rw[hx y (by simp[opt])]
theorem sop_congr (s:SOp) (hx:∀x∈s.reads,ev σ x=ev σ' x):sop P σ h K Qp s=sop P σ' h K Qp s:=by
 cases s
 case build z ps xs=>simp only[sop];rw[evs_congr xs hx]
 case bslice z n ps xs=>simp only[sop];rw[evs_congr xs hx]
 case call f xs=>simp only[sop];rw[evs_congr xs hx]
 case callq f xs=>simp only[sop];rw[evs_congr xs hx]
 case callx f xs=>simp only[sop];rw[evs_congr xs hx]
 case callv x xs=>simp only[sop];rw[evs_congr xs fun y hy=>hx y (by simp[SOp.reads,hy]),hx x (by simp[SOp.reads])]
 case callvq x xs=>simp only[sop];rw[evs_congr xs fun y hy=>hx y (by simp[SOp.reads,hy]),hx x (by simp[SOp.reads])]
 case fn f a c=>simp only[sop];rw[evs_congr a fun y hy=>hx y (by simp[SOp.reads,hy]),evs_congr c fun y hy=>hx y (by simp[SOp.reads,hy])]
 case slc n x lo hi=>
  simp only[sop]
  rw[hx x (by simp[SOp.reads]),bndOf_congr (x:=lo) fun y hy=>hx y (by simp[SOp.reads,hy])]
  have hh:∀d,bndOf σ hi d=bndOf σ' hi d:=fun d=>bndOf_congr fun y hy=>hx y (by simp[SOp.reads,hy])
  simp only[hh]
 case slc3 n x lo hi mx=>
  simp only[sop]
  rw[hx x (by simp[SOp.reads]),bndOf_congr (x:=lo) fun y hy=>hx y (by simp[SOp.reads,hy]),bndOf_congr (x:=some hi) fun y hy=>hx y (by simp only[opt,List.mem_singleton]at hy;subst hy;simp[SOp.reads]),
   bndOf_congr (x:=some mx) fun y hy=>hx y (by simp only[opt,List.mem_singleton]at hy;subst hy;simp[SOp.reads])]
 case slp m n x lo hi=>
  simp only[sop]
  rw[hx x (by simp[SOp.reads]),bndOf_congr (x:=lo) fun y hy=>hx y (by simp[SOp.reads,hy])]
  have hh:∀d,bndOf σ hi d=bndOf σ' hi d:=fun d=>bndOf_congr fun y hy=>hx y (by simp[SOp.reads,hy])
  simp only[hh]
 case sls x lo hi=>
  simp only[sop]
  rw[hx x (by simp[SOp.reads]),bndOf_congr (x:=lo) fun y hy=>hx y (by simp[SOp.reads,hy])]
  have hh:∀d,bndOf σ hi d=bndOf σ' hi d:=fun d=>bndOf_congr fun y hy=>hx y (by simp[SOp.reads,hy])
  simp only[hh]
 all_goals first
  |rfl
  |(simp only[SOp.reads,List.mem_cons,List.not_mem_nil,or_false,forall_eq_or_imp,forall_eq]at hx;simp only[sop,hx])
theorem Ext.refl (h:Heap):Ext h h:=fun _ _=>rfl
theorem cell_ext {h h':Heap} (he:Ext h h') {b o:Nat} {v:Value} (hc:cell h b o=some v):cell h' b o=some v:=by
 unfold cell at hc⊢
 cases hb:h[b]? with
 |none=>rw[hb]at hc;cases hc
 |some x=>
  have hlt:=(Array.getElem?_eq_some_iff.1 hb).1
  rw[he b hlt,hb];rw[hb]at hc;exact hc
theorem Cells.ext {h h':Heap} (he:Ext h h') {b o:Nat} {vs:List Value} (hc:Cells h b o vs):Cells h' b o vs:=fun i v hv=>cell_ext he (hc i v hv)
theorem Src0.ofExt {h h':Heap} (he:Ext h h') {a:Option Addr} {n:Nat} {xs:List Value} (hs:Src0 h a n xs):Src0 h' a n xs:=by
 unfold Src0 at hs⊢
 split at hs
 ·exact hs
 ·exact Cells.ext he hs
 ·exact hs.elim
theorem get_ext {h h':Heap} (he:Ext h h') {b:Nat} {x:Obj} (hb:h[b]? =some x):h'[b]? =some x:=by
 rw[he b (Array.getElem?_eq_some_iff.1 hb).1,hb]
theorem Blk.ext {h h':Heap} (he:Ext h h') {b:Nat} {l:List Value} (hb:Blk h b l):Blk h' b l:=let⟨e,x⟩:=hb;⟨e,get_ext he x⟩
theorem MapB.ext {h h':Heap} (he:Ext h h') {b c:Nat} {es:List MapEntry} (hb:MapB h b es c):MapB h' b es c:=get_ext he hb
theorem quiet (s:SOp) (hq:cls s≤1) (hs:sop P σ h K Qp s):
  ∃v,K v h∧∀h',(cls s=0∨Ext h h')→∀(K':Value→Heap→Prop) (Qp':List PanicEntry→Heap→Prop),K' v h'→sop P σ h' K' Qp' s:=by
 cases s<;>simp only[cls]at hq<;>first|(exfalso;omega)|skip
 case slc n x lo hi=>
  simp only[sop]at hs⊢
  split at hs
  ·rename_i a n' c hx
   split at hs
   ·rename_i l m hl hm
    obtain⟨h0,h1,h2,hs⟩:=hs
    simp only[slcR]at hs⊢
    split at hs
    ·exact⟨_,hs,fun h' _ K' Qp' hk=>⟨h0,h1,h2,hk⟩⟩
    ·rename_i b o
     refine⟨_,hs (if c=l.toNat then o else o+l.toNat*n) (fun hlt=>if_neg (by omega)) (fun he=>if_pos (by omega)),fun h' _ K' Qp' hk=>?_⟩
     refine⟨h0,h1,h2,fun o' ho1 ho2=>?_⟩
     have:o'=(if c=l.toNat then o else o+l.toNat*n):=by
      split
      ·exact ho2 (by omega)
      ·exact ho1 (by omega)
     rw[this];exact hk
    ·obtain⟨hl0,hs⟩:=hs
     exact⟨_,hs,fun h' _ K' Qp' hk=>⟨h0,h1,h2,hl0,hk⟩⟩
   ·exact hs.elim
  ·exact hs.elim
 case slc3 n x lo hi mx=>
  simp only[sop]at hs⊢
  split at hs
  ·rename_i a n' c hx
   split at hs
   ·rename_i l m k hl hm hk
    obtain⟨h0,h1,h2,h3,hs⟩:=hs
    simp only[slcR]at hs⊢
    split at hs
    ·exact⟨_,hs,fun h' _ K' Qp' hk=>⟨h0,h1,h2,h3,hk⟩⟩
    ·rename_i b o
     refine⟨_,hs (if k.toNat=l.toNat then o else o+l.toNat*n) (fun hlt=>if_neg (by omega)) (fun he=>if_pos (by omega)),fun h' _ K' Qp' hk=>?_⟩
     refine⟨h0,h1,h2,h3,fun o' ho1 ho2=>?_⟩
     have:o'=(if k.toNat=l.toNat then o else o+l.toNat*n):=by
      split
      ·exact ho2 (by omega)
      ·exact ho1 (by omega)
     rw[this];exact hk
    ·obtain⟨hl0,hs⟩:=hs
     exact⟨_,hs,fun h' _ K' Qp' hk=>⟨h0,h1,h2,h3,hl0,hk⟩⟩
   ·exact hs.elim
  ·exact hs.elim
 case slp tn n x lo hi=>
  simp only[sop]at hs⊢
  split at hs
  ·rename_i b o hx
   split at hs
   ·rename_i l m hl hm
    obtain⟨h0,h1,h2,hs⟩:=hs
    simp only[slcR]at hs⊢
    refine⟨_,hs (if tn=l.toNat then o else o+l.toNat*n) (fun hlt=>if_neg (by omega)) (fun he=>if_pos (by omega)),fun h' _ K' Qp' hk=>?_⟩
    refine⟨h0,h1,h2,fun o' ho1 ho2=>?_⟩
    have:o'=(if tn=l.toNat then o else o+l.toNat*n):=by
     split
     ·exact ho2 (by omega)
     ·exact ho1 (by omega)
    rw[this];exact hk
   ·exact hs.elim
  ·exact hs.elim
 case ixv tn n x i=>
  simp only[sop]at hs⊢
  split at hs
  ·rename_i cs k j hx hi
   obtain⟨v,h0,h1,h2,hs⟩:=hs
   exact⟨_,hs,fun h' _ K' Qp' hk=>by exact⟨v,h0,h1,h2,hk⟩⟩
  ·exact hs.elim
 case tas t z ok x=>
  simp only[sop]at hs⊢
  split at hs
  ·rename_i hx
   exact⟨_,hs.2,fun h' _ K' Qp' hk=>by exact⟨hs.1,hk⟩⟩
  ·rename_i u v hx
   by_cases hut:u=t
   ·exact⟨_,hs.1 hut,fun h' _ K' Qp' hk=>by exact⟨fun _=>hk,fun hn=>absurd hut hn⟩⟩
   ·exact⟨_,(hs.2 hut).2,fun h' _ K' Qp' hk=>by exact⟨fun hn=>absurd hn hut,fun _=>⟨(hs.2 hut).1,hk⟩⟩⟩
  ·exact hs.elim
 case eqi neg x y=>
  simp only[sop]at hs⊢
  split at hs
  ·exact⟨_,hs,fun h' _ K' Qp' hk=>by exact hk⟩
  ·exact⟨_,hs,fun h' _ K' Qp' hk=>by exact hk⟩
  ·rename_i t v u w hx hy
   by_cases hut:t=u
   ·obtain⟨kd,h1,h2,h3,h4,h5⟩:=hs.2 hut
    by_cases hv:v=w
    ·exact⟨_,h4 hv,fun h' _ K' Qp' hk=>by exact⟨fun hn=>absurd hut hn,fun _=>⟨kd,h1,h2,h3,fun _=>hk,fun hn=>absurd hv hn⟩⟩⟩
    ·exact⟨_,h5 hv,fun h' _ K' Qp' hk=>by exact⟨fun hn=>absurd hut hn,fun _=>⟨kd,h1,h2,h3,fun hn=>absurd hn hv,fun _=>hk⟩⟩⟩
   ·exact⟨_,hs.1 hut,fun h' _ K' Qp' hk=>by exact⟨fun _=>hk,fun hn=>absurd hn hut⟩⟩
  ·exact hs.elim
 case p2u x=>
  simp only[sop]at hs⊢
  split at hs
  ·rename_i b o hx
   obtain⟨l,h1,h2,hs⟩:=hs
   refine⟨_,hs,fun h' he K' Qp' hk=>?_⟩
   have he:Ext h h':=he.resolve_left (by simp[cls])
   obtain⟨e,k,h3,h4⟩:=h1
   exact⟨l,⟨e,k,get_ext he h3,h4⟩,h2,hk⟩
  ·exact hs.elim
 case u2p t n x=>
  simp only[sop]at hs⊢
  split at hs
  ·rename_i b hx
   obtain⟨l,h1,h2,h5,hs⟩:=hs
   refine⟨_,hs,fun h' he K' Qp' hk=>?_⟩
   have he:Ext h h':=he.resolve_left (by simp[cls])
   obtain⟨e,k,h3,h4⟩:=h1
   obtain⟨c,k',h6⟩:=h5
   exact⟨l,⟨e,k,get_ext he h3,h4⟩,h2,⟨c,k',get_ext he h6⟩,hk⟩
  ·exact hs.elim
 case sld x=>
  simp only[sop]at hs⊢
  split at hs
  ·exact⟨_,hs,fun h' _ K' Qp' hk=>by exact hk⟩
  ·exact⟨_,hs.2,fun h' _ K' Qp' hk=>by exact⟨hs.1,hk⟩⟩
  ·exact hs.elim
 case ent x=>
  simp only[sop]at hs⊢
  split at hs
  ·obtain⟨m,since,seen,last,es,b,e,h1,h2,h3,h4,hs⟩:=hs
   refine⟨_,hs,fun h' he K' Qp' hk=>?_⟩
   have he:Ext h h':=he.resolve_left (by simp[cls])
   exact⟨m,since,seen,last,es,b,e,get_ext he h1,h2.ext he,h3,h4,hk⟩
  ·exact hs.elim
 case eqp neg x y=>
  simp only[sop]at hs⊢
  split at hs
  ·rename_i hx hy
   exact⟨_,hs,fun h' _ K' Qp' hk=>by exact hk⟩
  ·rename_i a hx hy
   exact⟨_,hs,fun h' _ K' Qp' hk=>by exact hk⟩
  ·rename_i a hx hy
   exact⟨_,hs,fun h' _ K' Qp' hk=>by exact hk⟩
  ·rename_i b o b' o' hx hy
   obtain⟨⟨l,hl,hl0⟩,⟨l',hl',hl0'⟩,h1,h2⟩:=hs
   by_cases hb:b=b'∧o=o'
   ·obtain⟨rfl,rfl⟩:=hb
    refine⟨_,h1 rfl rfl,fun h' he K' Qp' hk=>?_⟩
    have he:Ext h h':=he.resolve_left (by simp[cls])
    exact⟨⟨l,hl.ext he,hl0⟩,⟨l',hl'.ext he,hl0'⟩,fun _ _=>hk,fun hn=>absurd ⟨rfl,rfl⟩ hn⟩
   ·refine⟨_,h2 hb,fun h' he K' Qp' hk=>?_⟩
    have he:Ext h h':=he.resolve_left (by simp[cls])
    exact⟨⟨l,hl.ext he,hl0⟩,⟨l',hl'.ext he,hl0'⟩,fun e1 e2=>absurd ⟨e1,e2⟩ hb,fun _=>hk⟩
  ·exact hs.elim
 case look kd z ok m k=>
  simp only[sop]at hs⊢
  split at hs
  ·rename_i kv hm hk
   exact⟨_,hs.2,fun h' _ K' Qp' hk'=>by exact⟨hs.1,hk'⟩⟩
  ·rename_i r kv hm hk
   obtain⟨hf,es,c,hb,hes,hs⟩:=hs
   split at hs
   ·rename_i i v hv
    refine⟨_,hs,fun h' he K' Qp' hk'=>?_⟩
    have he:Ext h h':=he.resolve_left (by simp[cls])
    refine⟨hf,es,c,hb.ext he,hes,?_⟩
    simp only[hv];exact hk'
   ·rename_i hv
    refine⟨_,hs,fun h' he K' Qp' hk'=>?_⟩
    have he:Ext h h':=he.resolve_left (by simp[cls])
    refine⟨hf,es,c,hb.ext he,hes,?_⟩
    simp only[hv];exact hk'
  ·exact hs.elim
 case lenm x=>
  simp only[sop]at hs⊢
  split at hs
  ·rename_i hx
   exact⟨_,hs,fun h' _ K' Qp' hk=>by exact hk⟩
  ·rename_i r hx
   obtain⟨es,c,hb,hs⟩:=hs
   refine⟨_,hs,fun h' he K' Qp' hk=>?_⟩
   have he:Ext h h':=he.resolve_left (by simp[cls])
   exact⟨es,c,hb.ext he,hk⟩
  ·exact hs.elim
 case ld1 x=>
  simp only[sop]at hs⊢
  split at hs
  ·rename_i b o hx
   obtain⟨v,hc,hs⟩:=hs
   refine⟨v,hs,fun h' he K' Qp' hk=>?_⟩
   have he:Ext h h':=he.resolve_left (by simp[cls])
   exact⟨v,cell_ext he hc,hk⟩
  ·exact hs.elim
 case bstr x=>
  simp only[sop]at hs⊢
  split at hs
  ·rename_i a n c hx
   obtain⟨bs,hn,hc,hs⟩:=hs
   refine⟨_,hs,fun h' he K' Qp' hk=>?_⟩
   have he:Ext h h':=he.resolve_left (by simp[cls])
   exact⟨bs,hn,Src0.ofExt he hc,hk⟩
  ·exact hs.elim
 case ldn n x=>
  simp only[sop]at hs⊢
  split at hs
  ·rename_i b o hx
   obtain⟨v,hn,hc,hs⟩:=hs
   refine⟨_,hs,fun h' he K' Qp' hk=>?_⟩
   have he:Ext h h':=he.resolve_left (by simp[cls])
   exact⟨v,hn,hc.ext he,hk⟩
  ·exact hs.elim
 case cmpb neg x y=>
  simp only[sop]at hs⊢
  split at hs
  ·rename_i a b hx hy
   by_cases hab:a=b
   ·exact⟨_,hs.1 hab,fun h' _ K' Qp' hk=>by exact⟨fun _=>hk,fun hn=>absurd hab hn⟩⟩
   ·exact⟨_,hs.2 hab,fun h' _ K' Qp' hk=>by exact⟨fun he=>absurd he hab,fun _=>hk⟩⟩
  ·exact hs.elim
 case eqa neg ks x y=>
  simp only[sop]at hs⊢
  split at hs
  ·rename_i a b hx hy
   obtain⟨h1,h2,hs⟩:=hs
   by_cases hab:a.toList=b.toList
   ·exact⟨_,hs.1 hab,fun h' _ K' Qp' hk=>by exact⟨h1,h2,fun _=>hk,fun hn=>absurd hab hn⟩⟩
   ·exact⟨_,hs.2 hab,fun h' _ K' Qp' hk=>by exact⟨h1,h2,fun he=>absurd he hab,fun _=>hk⟩⟩
  ·exact hs.elim
 case cmp op x y=>
  have two:∀p:Prop,either p K h→∃t,K (.bool t) h∧∀h' (K':Value→Heap→Prop),K' (.bool t) h'→either p K' h':=by
   intro p hp
   by_cases hc:p
   ·exact⟨true,hp.1 hc,fun h' K' hk=>⟨fun _=>hk,fun hn=>absurd hc hn⟩⟩
   ·exact⟨false,hp.2 hc,fun h' K' hk=>⟨fun he=>absurd he hc,fun _=>hk⟩⟩
  simp only[sop]at hs⊢
  split at hs<;>first
   |exact hs.elim
   |(obtain⟨hk,hs⟩:=hs;obtain⟨t,ht,hall⟩:=two _ hs;exact⟨_,ht,fun h' _ K' Qp' hk'=>⟨hk,hall h' K' hk'⟩⟩)
   |(obtain⟨t,ht,hall⟩:=two _ hs;exact⟨_,ht,fun h' _ K' Qp' hk'=>hall h' K' hk'⟩)
 case ixc x i=>
  simp only[sop]at hs⊢
  split at hs
  ·rename_i s k j hx hi
   obtain⟨c,h0,h1,hs⟩:=hs
   exact⟨_,hs,fun h' _ K' Qp' hk=>by exact⟨c,h0,h1,hk⟩⟩
  ·exact hs.elim
 all_goals
  simp only[sop]at hs⊢
  (repeat' split at hs)<;>first
   |exact hs.elim
   |(refine⟨_,hs,fun h' _ K' Qp' hk=>?_⟩;exact hk)
   |(obtain⟨h1,hs⟩:=hs;refine⟨_,hs,fun h' _ K' Qp' hk=>?_⟩;first|exact hk|exact⟨h1,hk⟩|exact⟨rfl,hk⟩|exact⟨trivial,hk⟩)
   |(obtain⟨h1,h2,hs⟩:=hs;refine⟨_,hs,fun h' _ K' Qp' hk=>?_⟩;first|exact hk|exact⟨h1,h2,hk⟩)
   |(obtain⟨h1,h2,h3,hs⟩:=hs;refine⟨_,hs,fun h' _ K' Qp' hk=>?_⟩;first|exact hk|exact⟨h1,h2,h3,hk⟩)
   |(refine⟨_,hs _ rfl,fun h' _ K' Qp' hk=>?_⟩;intro z hz;rw[hz];exact hk)
   |(obtain⟨h1,hs⟩:=hs;refine⟨_,hs _ rfl,fun h' _ K' Qp' hk=>?_⟩;first|exact⟨h1,fun z hz=>by rw[hz];exact hk⟩|exact⟨rfl,fun z hz=>by rw[hz];exact hk⟩|exact⟨trivial,fun z hz=>by rw[hz];exact hk⟩)
   |(obtain⟨h1,h2,hs⟩:=hs;refine⟨_,hs _ rfl,fun h' _ K' Qp' hk=>?_⟩;exact⟨h1,h2,fun z hz=>by rw[hz];exact hk⟩)
   |skip
theorem wrP.mono {K K':Heap→Prop} {a:Option Addr} {ys:List Value} (hw:wrP h K a ys) (hk:∀h',K h'→K' h'):wrP h K' a ys:=by
 refine⟨fun e=>hk _ (hw.1 e),fun hne=>?_⟩
 have:=hw.2 hne
 split at this
 ·obtain⟨l,x,y,z,u⟩:=this
  exact⟨l,x,y,z,fun h' hp=>hk _ (u h' hp)⟩
 ·exact this.elim
theorem wrB.mono {K K':Heap→Prop} {a:Option Addr} {ys:List Value} (hw:wrB h K a ys) (hk:∀h',K h'→K' h'):wrB h K' a ys:=by
 refine⟨fun e=>hk _ (hw.1 e),fun hne=>?_⟩
 have:=hw.2 hne
 split at this
 ·obtain⟨l,x,y,z,u⟩:=this
  exact⟨l,x,y,z,fun h' hp=>hk _ (u h' hp)⟩
 ·exact this.elim
theorem sop_mono (s:SOp) (hs:sop P σ h K Qp s) (hk:∀v h',K v h'→K' v h'):sop P σ h K' Qp s:=by
 by_cases hq:cls s≤1
 ·obtain⟨v,hv,hall⟩:=quiet s hq hs
  exact hall h (.inr (Ext.refl h)) K' Qp (hk _ _ hv)
 ·cases s<;>first|(simp[cls]at hq;done)|skip
  case app size bytes z x y=>
   simp only[sop]at hs⊢
   split at hs
   ·obtain⟨xs,ys,h1,h2,h3,h4,h5,h6,h7⟩:=hs
    refine⟨xs,ys,h1,h2,h3,h4,h5,fun hle=>?_,fun hlt=>?_⟩
    ·have h6:=h6 hle
     unfold appIn at h6⊢
     split at h6
     ·exact hk _ _ h6
     ·obtain⟨l,a,b,c⟩:=h6
      exact⟨l,a,b,fun h' hp=>hk _ _ (c h' hp)⟩
     ·exact h6.elim
    ·obtain⟨a,b⟩:=h7 hlt
     exact⟨a,fun c' b' h' x y=>hk _ _ (b c' b' h' x y)⟩
   ·exact hs.elim
  case cpy size x y=>
   simp only[sop]at hs⊢
   split at hs
   ·obtain⟨ys,h1,h2,h3⟩:=hs
    exact⟨ys,h1,h2,h3.mono (hk _)⟩
   ·exact hs.elim
  case clr z x=>
   simp only[sop]at hs⊢
   split at hs
   ·exact wrP.mono hs (hk _)
   ·exact hs.elim
  case appz size bytes z x y=>
   simp only[sop]at hs⊢
   split at hs
   ·obtain⟨h0,h01,xs,h1,h2,h3,h4,h5⟩:=hs
    exact⟨h0,h01,xs,h1,h2,h3,h4,fun c' b h' x y=>hk _ _ (h5 c' b h' x y)⟩
   ·exact hs.elim
  case pan x=>
   simp only[sop]at hs⊢
   split at hs
   ·exact hs
   ·exact hs.elim
  case cvm x=>
   simp only[sop]at hs⊢
   split at hs
   ·obtain⟨l,h1,h2⟩:=hs
    exact⟨l,h1,fun h' hp=>hk _ _ (h2 h' hp)⟩
   ·exact hs.elim
  case clrm x=>
   simp only[sop]at hs⊢
   split at hs
   ·exact hk _ _ hs
   ·obtain⟨es,c,h1,h2⟩:=hs
    exact⟨es,c,h1,fun h' hp=>hk _ _ (h2 h' hp)⟩
   ·exact hs.elim
  case byts x=>
   simp only[sop]at hs⊢
   split at hs
   ·exact fun c b h' h1 h2=>hk _ _ (hs c b h' h1 h2)
   ·exact hs.elim
  case newT t z=>
   simp only[sop]at hs⊢
   exact fun b h' h1 h2=>hk _ _ (hs b h' h1 h2)
  case ust e x n=>
   simp only[sop]at hs⊢
   split at hs
   ·refine⟨fun h0=>hk _ _ (hs.1 h0),fun h0=>?_⟩
    obtain⟨b,l,tot,a1,a2,a3,a4,a5,a6,a7,a8⟩:=hs.2 h0
    exact⟨b,l,tot,a1,a2,a3,a4,a5,a6,a7,fun h' x y=>hk _ _ (a8 h' x y)⟩
   ·exact hs.elim
  case cpyb x y=>
   simp only[sop]at hs⊢
   split at hs
   ·split at hs
    ·obtain⟨ys,h1,h2,h3⟩:=hs
     exact⟨ys,h1,h2,h3.mono (hk _)⟩
    ·exact hs.elim
   ·exact hs.elim
  case appb e x y=>
   simp only[sop]at hs⊢
   split at hs
   ·split at hs
    ·obtain⟨xs,ys,h1,h2,h3,h4,h5,h6,h7⟩:=hs
     refine⟨xs,ys,h1,h2,h3,h4,h5,fun hle=>?_,fun hlt=>?_⟩
     ·have h6:=h6 hle
      split at h6
      ·exact hk _ _ h6
      ·obtain⟨l,a,b,c⟩:=h6
       exact⟨l,a,b,fun h' hp=>hk _ _ (c h' hp)⟩
      ·exact h6.elim
     ·obtain⟨a,b⟩:=h7 hlt
      exact⟨a,fun c' b' h' x y z=>hk _ _ (b c' b' h' x y z)⟩
    ·exact hs.elim
   ·exact hs.elim
  case rng x=>
   simp only[sop]at hs⊢
   split at hs
   ·exact fun b h' hg=>hk _ _ (hs b h' hg)
   ·obtain⟨es,c,h1,h2⟩:=hs
    exact⟨es,c,h1,fun b h' hg=>hk _ _ (h2 b h' hg)⟩
   ·exact hs.elim
  case nxts x=>
   simp only[sop]at hs⊢
   split at hs
   ·obtain⟨s,pos,a1,a2,a3⟩:=hs
    exact⟨s,pos,a1,fun a=>hk _ _ (a2 a),fun a h' b=>hk _ _ (a3 a h' b)⟩
   ·exact hs.elim
  case nxt x=>
   simp only[sop]at hs⊢
   split at hs
   ·rcases hs with⟨since,seen,last,h1,h2⟩|⟨m,since,seen,last,es,clock,h1,h2,h3,h4,h5,h6⟩
    ·exact .inl ⟨since,seen,last,h1,hk _ _ h2⟩
    ·exact .inr ⟨m,since,seen,last,es,clock,h1,h2,h3,h4,fun ha=>hk _ _ (h5 ha),fun e he hs h' hp=>hk _ _ (h6 e he hs h' hp)⟩
   ·exact hs.elim
  case appn size bytes z y=>
   simp only[sop]at hs⊢
   split at hs
   ·obtain⟨xs,ys,h1,h2,h3,h4,h5,h6,h7⟩:=hs
    exact⟨xs,ys,h1,h2,h3,h4,h5,fun hle=>hk _ _ (h6 hle),fun hlt=>⟨(h7 hlt).1,fun c' b' h' x y=>hk _ _ ((h7 hlt).2 c' b' h' x y)⟩⟩
   ·exact hs.elim
  case callx f xs=>
   simp only[sop]at hs⊢
   split at hs
   ·exact fun w hw=>let⟨v,w',h1,h2,h3⟩:=hs w hw;⟨v,w',h1,hk _ _ h2,h3⟩
   ·exact hs.elim
  case mup kd m k v=>
   simp only[sop]at hs⊢
   split at hs
   ·obtain⟨h1,es,c,h2,h3,h4⟩:=hs
    refine⟨h1,es,c,h2,h3,?_⟩
    split at h4
    ·rename_i hv;exact fun h' hp=>hk _ _ (h4 h' hp)
    ·rename_i hv;exact fun h' hp=>hk _ _ (h4 h' hp)
   ·exact hs.elim
  case mdel kd m k=>
   simp only[sop]at hs⊢
   split at hs
   ·exact⟨hs.1,hk _ _ hs.2⟩
   ·obtain⟨h1,es,c,h2,h3,h4⟩:=hs
    refine⟨h1,es,c,h2,h3,?_⟩
    split at h4
    ·rename_i hv;exact fun h' hp=>hk _ _ (h4 h' hp)
    ·rename_i hv;exact fun h' hp=>hk _ _ (h4 h' hp)
   ·exact hs.elim
  case call f xs=>
   simp only[sop]at hs⊢
   split at hs
   ·exact hs.mono fun e h' he=>by cases e<;>first|exact hk _ _ he|exact he
   ·exact hs.elim
  case callv x xs=>
   simp only[sop]at hs⊢
   split at hs
   ·exact hs.mono fun e h' he=>by cases e<;>first|exact hk _ _ he|exact he
   ·exact hs.mono fun e h' he=>by cases e<;>first|exact hk _ _ he|exact he
   ·exact hs.elim
  case callq f xs=>
   simp only[sop]at hs⊢
   split at hs
   ·exact hs.mono fun e h' he=>⟨he.1,by cases e<;>first|exact hk _ _ he.2|exact he.2⟩
   ·exact hs.elim
  case callvq x xs=>
   simp only[sop]at hs⊢
   split at hs
   ·exact hs.mono fun e h' he=>⟨he.1,by cases e<;>first|exact hk _ _ he.2|exact he.2⟩
   ·exact hs.elim
  all_goals
   simp only[sop]at hs⊢
   (repeat' split at hs)<;>first
    |exact hs.elim
    |exact fun b h' hg=>hk _ _ (hs b h' hg)
    |(obtain⟨l,a,b,c,d,e⟩:=hs;exact⟨l,a,b,c,d,fun h' hp=>hk _ _ (e h' hp)⟩)
    |(obtain⟨a,b,c,d,e⟩:=hs;exact⟨a,b,c,d,fun b' h' hp=>hk _ _ (e b' h' hp)⟩)
theorem sop_qp {Qp':List PanicEntry→Heap→Prop} (s:SOp) (hs:sop P σ h K Qp s) (hq:∀ch h,Qp ch h→Qp' ch h):sop P σ h K Qp' s:=by
 by_cases hc:cls s≤1
 ·obtain⟨v,hv,hall⟩:=quiet s hc hs
  exact hall h (.inr fun _ _=>rfl) K Qp' hv
 ·cases s<;>first|(simp[cls]at hc;done)|exact hs|skip
  case pan x=>
   simp only[sop]at hs⊢
   split at hs
   ·exact hq _ _ hs
   ·exact hs.elim
  case call f xs=>
   simp only[sop]at hs⊢
   split at hs
   ·exact hs.mono fun e h' he=>by cases e<;>first|exact hq _ _ he|exact he
   ·exact hs.elim
  case callv x xs=>
   simp only[sop]at hs⊢
   split at hs
   ·exact hs.mono fun e h' he=>by cases e<;>first|exact hq _ _ he|exact he
   ·exact hs.mono fun e h' he=>by cases e<;>first|exact hq _ _ he|exact he
   ·exact hs.elim
  case callq f xs=>
   simp only[sop]at hs⊢
   split at hs
   ·exact hs.mono fun e h' he=>⟨he.1,by cases e<;>first|exact hq _ _ he.2|exact he.2⟩
   ·exact hs.elim
  case callvq x xs=>
   simp only[sop]at hs⊢
   split at hs
   ·exact hs.mono fun e h' he=>⟨he.1,by cases e<;>first|exact hq _ _ he.2|exact he.2⟩
   ·exact hs.elim
theorem GrowW.ext {h h':Heap} {b:Nat} {l:List Value} (hg:GrowW h h' b l):Ext h h':=hg.old
theorem Grow.ext {h h':Heap} {b:Nat} {l:List Value} (hg:Grow h h' b l):Ext h h':=hg.old
theorem GrowO.ext {h h':Heap} {b:Nat} {o:Obj} (hg:GrowO h h' b o):Ext h h':=hg.old
theorem sop_ext (s:SOp) (hq:cls s≤2) (hs:sop P σ h K Qp s):sop P σ h (fun v h'=>K v h'∧Ext h h') Qp s:=by
 by_cases hq1:cls s≤1
 ·obtain⟨v,hv,hall⟩:=quiet s hq1 hs
  exact hall h (.inr (Ext.refl h)) _ Qp ⟨hv,Ext.refl h⟩
 ·cases s<;>first|(simp[cls]at hq1;done)|(simp[cls]at hq;done)|skip
  case callq f xs=>
   simp only[sop]at hs⊢
   split at hs
   ·exact hs.mono fun e h' he=>⟨he.1,by cases e<;>first|exact⟨he.2,he.1⟩|exact he.2⟩
   ·exact hs.elim
  case callvq x xs=>
   simp only[sop]at hs⊢
   split at hs
   ·exact hs.mono fun e h' he=>⟨he.1,by cases e<;>first|exact⟨he.2,he.1⟩|exact he.2⟩
   ·exact hs.elim
  case appn size bytes z y=>
   simp only[sop]at hs⊢
   split at hs
   ·obtain⟨xs,ys,h1,h2,h3,h4,h5,h6,h7⟩:=hs
    exact⟨xs,ys,h1,h2,h3,h4,h5,fun hle=>⟨h6 hle,Ext.refl h⟩,fun hlt=>⟨(h7 hlt).1,fun c' b' h' x y=>⟨(h7 hlt).2 c' b' h' x y,y.ext⟩⟩⟩
   ·exact hs.elim
  case byts x=>
   simp only[sop]at hs⊢
   split at hs
   ·exact fun c b h' h1 h2=>⟨hs c b h' h1 h2,h2.ext⟩
   ·exact hs.elim
  case newT t z=>
   simp only[sop]at hs⊢
   exact fun b h' h1 h2=>⟨hs b h' h1 h2,h1.ext⟩
  case rng x=>
   simp only[sop]at hs⊢
   split at hs
   ·exact fun b h' hg=>⟨hs b h' hg,hg.ext⟩
   ·obtain⟨es,c,h1,h2⟩:=hs
    exact⟨es,c,h1,fun b h' hg=>⟨h2 b h' hg,hg.ext⟩⟩
   ·exact hs.elim
  all_goals
   simp only[sop]at hs⊢
   (repeat' split at hs)<;>first
    |exact hs.elim
    |exact fun b h' hg=>⟨hs b h' hg,hg.ext⟩
    |(obtain⟨a,b,c,d,e⟩:=hs;exact⟨a,b,c,d,fun b' h' hp=>⟨e b' h' hp,hp.ext⟩⟩)
end Go.Sx
namespace Go.Sx
open Go
variable {P:Program} {σ σ':Env} {K:Value→Heap→Prop} {Qp:List PanicEntry→Heap→Prop}
def FW (ro:Option Nat):Fence:={Fence.wide with round:=ro}
theorem callsIn_FW {ro:Option Nat} {n:Nat} {f:FuncId} {args:Array Value} {w:World} {R:Ending→World→Prop}:CallsIn (FW ro) n P f args w R↔Calls P f args w R:=
 callsIn_wide (n:=n)
theorem okFn_call {f:Nat} (h:okFn P f=true) (args:Array Value) (w:World):(callFunc f args).run P w=.ok (.enter f args) w:=by
 unfold okFn at h
 split at h
 ·rename_i fn hf
  simp only[Bool.and_eq_true]at h
  obtain⟨h1,h2⟩:=h
  have h1':fn.name≠ "runtime.NumGoroutine" :=by simpa using h1
  have h2':fn.body≠none:=by intro e;rw[e]at h2;simp at h2
  simp[callFunc,hf,h1',h2']
 ·simp at h
theorem upon_gives {o:Oper} {a:Act} {w:World} {ro:Option Nat} {n:Nat} {next:Act→World→Prop} {Q:Exit→Act→World→Prop} (hd:∀c,o.op≠.defer c)
  (hg:Gives P (execOp a.eval o) w K) (hK:∀v w',SameB w w'→K v w'.heap→next (a.put o.dst v) w'):
  o.wpIn (FW ro) n P a w next Q:=by
 refine⟨fun _ _=>trivial,?_⟩
 rw[Oper.semAt_eq _ _ _ hd]
 obtain⟨v,w',hr,hb,hk⟩:=hg
 rcases hr with hr|⟨hr,rfl⟩
 ·rw[hr];exact hK v w' hb hk
 ·rw[hr];exact hK undef w' hb hk
theorem upon_calls {o:Oper} {a:Act} {w:World} {ro:Option Nat} {n:Nat} {next:Act→World→Prop} {Q:Exit→Act→World→Prop} (hd:∀c,o.op≠.defer c)
  {f:Nat} {args:List Value} (hr:(execOp a.eval o).run P w=.ok (.enter f ⟨args⟩) w) (hc:CallsH P f args w.heap (after K Qp))
  (hK:∀v w',SameB w w'→K v w'.heap→next (a.put o.dst v) w') (hQ:∀ch w',SameB w w'→Qp ch w'.heap→Q (.panic ch) a w'):
  o.wpIn (FW ro) n P a w next Q:=by
 refine⟨fun _ _=>trivial,?_⟩
 rw[Oper.semAt_eq _ _ _ hd,hr]
 refine⟨fun h=>by simp[FW,Fence.wide]at h,callsIn_FW.2 ((hc.2 w rfl).mono ?_)⟩
 rintro e w' ⟨he,hne,h1,h2,h3⟩
 cases e with
 |returned v=>exact hK v w' ⟨h1,h2,h3⟩ he
 |panicked ch=>exact hQ ch w' ⟨h1,h2,h3⟩ he
 |outgrown=>exact absurd rfl hne
theorem run_call_static {ρ:Operand→Value} (hρ:Knows σ ρ) {o:Oper} {c:Call} {f:Nat} {vs:List Value} (ho:o.op=.call c) (hc:c.callee=.value (.func f)) (hv:evs σ c.args.toList=some vs)
  (hok:okFn P f=true) (w:World):(execOp ρ o).run P w=.ok (.enter f ⟨vs⟩) w:=by
 have ha:c.args.map ρ=⟨vs⟩:=by apply Array.ext';simp[hρ.list _ _ hv]
 have hf:=hρ (.func f) _ rfl
 simp[execOp,ho,resolve,hc,ha,hf,Deferred.ofValue,invoke,okFn_call hok]
theorem run_call_value {ρ:Operand→Value} (hρ:Knows σ ρ) {o:Oper} {c:Call} {x:Operand} {f:Nat} {fi cap:Array Value} {vs:List Value} (ho:o.op=.call c) (hc:c.callee=.value x)
  (hx:ev σ x=some (.func (.func f) fi cap)) (hv:evs σ c.args.toList=some vs)
  (hok:okFn P f=true) (w:World):(execOp ρ o).run P w=.ok (.enter f ⟨fi.toList++vs++cap.toList⟩) w:=by
 have ha:c.args.map ρ=⟨vs⟩:=by apply Array.ext';simp[hρ.list _ _ hv]
 have hf:=hρ x _ hx
 have hap:fi++(⟨vs⟩:Array Value)++cap=⟨fi.toList++vs++cap.toList⟩:=by apply Array.ext';simp
 simp[execOp,ho,resolve,hc,ha,hf,Deferred.ofValue,invoke,okFn_call hok,hap]
theorem run_call_yield {ρ:Operand→Value} (hρ:Knows σ ρ) {o:Oper} {c:Call} {x:Operand} {l:Nat} {fi cap:Array Value} {vs:List Value} (ho:o.op=.call c) (hc:c.callee=.value x)
  (hx:ev σ x=some (.func (.yield l) fi cap)) (hv:evs σ c.args.toList=some vs):execOp ρ o=Instr.yield l ⟨fi.toList++vs⟩:=by
 have ha:c.args.map ρ=⟨vs⟩:=by apply Array.ext';simp[hρ.list _ _ hv]
 have hf:=hρ x _ hx
 have hap:fi++(⟨vs⟩:Array Value)=⟨fi.toList++vs⟩:=by apply Array.ext';simp
 simp[execOp,ho,resolve,hc,ha,hf,Deferred.ofValue,invoke,hap]
theorem upon_yield {o:Oper} {a:Act} {w:World} {ro:Option Nat} {n:Nat} {next:Act→World→Prop} {Q:Exit→Act→World→Prop} (hd:∀c,o.op≠.defer c)
  {l:Nat} {args:List Value} (hr:execOp a.eval o=Instr.yield l ⟨args⟩) (hc:YieldH P l args w.heap (after K Qp))
  (hK:∀v w',SameB w w'→K v w'.heap→next (a.put o.dst v) w') (hQ:∀ch w',SameB w w'→Qp ch w'.heap→Q (.panic ch) a w'):
  o.wpIn (FW ro) n P a w next Q:=by
 refine⟨fun _ _=>trivial,?_⟩
 obtain⟨fn,tmps,as,bo,h1,h2⟩:=hc w rfl
 rw[Oper.semAt_eq _ _ _ hd,hr,h1]
 refine⟨fun h=>by simp[FW,Fence.wide]at h,?_⟩
 have h3:RoundIn (FW ro) (n-1) P l fn tmps as bo w fun e w'=>after K Qp e w'.heap∧e≠.outgrown∧w'.os=w.os∧w'.output=w.output∧w'.tape=w.tape:=
  ⟨trivial,fun c cs _=>h2.2 c cs (room_wide _)⟩
 refine h3.mono ?_
 rintro e w' ⟨he,hne,h1,h2,h3⟩
 cases e with
 |returned v=>exact hK v w' ⟨h1,h2,h3⟩ he
 |panicked ch=>exact hQ ch w' ⟨h1,h2,h3⟩ he
 |outgrown=>exact absurd rfl hne
theorem copCall_sound {o:Oper} {c:Call} {s:SOp} (ho:o.op=.call c) (hs:copCall P c=some s) {a:Act} {w:World} (hρ:Knows σ a.eval) (h:sop P σ w.heap K Qp s)
  {ro:Option Nat} {n:Nat} {next:Act→World→Prop} {Q:Exit→Act→World→Prop}
  (hK:∀v w',SameB w w'→K v w'.heap→next (a.put o.dst v) w') (hQ:∀ch w',SameB w w'→Qp ch w'.heap→Q (.panic ch) a w'):
  o.wpIn (FW ro) n P a w next Q:=by
 have hd:∀c,o.op≠.defer c:=by intro c';rw[ho];simp
 have bi:∀(b:Builtin) (xs:List Operand) (ts:List TypeId),c.callee=.builtin b→c.args.toList=xs→c.argTypes.toList=ts→
   execOp a.eval o=builtin b ⟨ts⟩ o.type (c.args.map fun|.const _=>true|_=>false) ⟨xs.map a.eval⟩:=by
  intro b xs ts hb hx ht
  have h1:c.args.map a.eval=⟨xs.map a.eval⟩:=by apply Array.ext';simp[←hx]
  have h2:c.argTypes=⟨ts⟩:=by apply Array.ext';simp[←ht]
  simp only[execOp,ho,resolve,hb,h1,h2]
  rfl
 unfold copCall at hs
 split at hs
 ·rename_i f hc
  split at hs
  ·split at hs
   ·simp at hs;subst hs
    simp only[sop]at h
    split at h
    ·rename_i vs hv
     exact upon_calls hd (run_call_static hρ ho hc hv h.1 w) h hK hQ
    ·exact h.elim
   ·simp at hs;subst hs
    simp only[sop]at h
    split at h
    ·rename_i vs hv
     obtain⟨v,w',h1,h2,h3,h4,h5⟩:=h w rfl
     have ha:c.args.map a.eval=⟨vs⟩:=by apply Array.ext';simp[hρ.list _ _ hv]
     have hf:=hρ (.func f) _ rfl
     refine upon_gives hd ⟨v,w',.inl ?_,⟨h3,h4,h5⟩,h2⟩ hK
     simp[execOp,ho,resolve,hc,ha,hf,Deferred.ofValue,invoke,h1]
    ·exact h.elim
  ·simp at hs
 ·rename_i x _ hc
  simp at hs;subst hs
  simp only[sop]at h
  split at h
  ·rename_i f fi cap vs hx hv
   exact upon_calls hd (run_call_value hρ ho hc hx hv h.1 w) h hK hQ
  ·rename_i l fi cap vs hx hv
   exact upon_yield hd (run_call_yield hρ ho hc hx hv) h hK hQ
  ·exact h.elim
 ·simp at hs
 ·rename_i hb
  split at hs
  ·rename_i x t hx ht
   have e:=bi .len [x] [t] hb hx ht
   split at hs
   ·rename_i hu
    simp at hs;subst hs
    refine upon_gives hd ?_ hK
    rw[e];exact gives_lens hρ rfl hu h
   ·rename_i e2 hu
    simp at hs;subst hs
    refine upon_gives hd ?_ hK
    rw[e];exact gives_len hρ rfl hu h
   ·rename_i e2 e3 hu
    simp at hs;subst hs
    refine upon_gives hd ?_ hK
    rw[e];exact gives_lenm hρ rfl hu h
   ·simp at hs
  ·simp at hs
 ·rename_i hb
  split at hs
  ·rename_i x y t u hx ht
   have e:=bi .append [x,y] [t,u] hb hx ht
   split at hs
   ·rename_i e1 hu1 hu2
    split at hs
    ·rename_i hby
     simp at hs;subst hs
     refine upon_gives hd ?_ hK
     rw[e];exact gives_appb hρ hu1 hby hu2 (.inl rfl) h
    ·simp at hs
   ·rename_i e1 e2 hu1 hu2
    split at hs
    ·rename_i hby
     simp at hs;subst hs
     refine upon_gives hd ?_ hK
     rw[e];exact gives_appb hρ hu1 hby.1 hu2 (.inr ⟨_,rfl⟩) h
    ·split at hs
     ·rename_i i hi
      split at hs
      ·rename_i hby
       simp only[Option.map_eq_some_iff]at hs
       obtain⟨z,hz,hs⟩:=hs
       split at hs
       ·subst hs
        refine upon_gives hd ?_ hK
        rw[e];exact gives_appn hρ hu1 hu2 hi hby hz h
       ·subst hs
        refine upon_gives hd ?_ hK
        rw[e];exact gives_app hρ hu1 hu2 hi hby hz h
      ·simp at hs
     ·simp at hs
   ·rename_i e1 k2 hu1 hu2
    split at hs
    ·rename_i i hi
     split at hs
     ·rename_i hby
      simp only[Option.map_eq_some_iff]at hs
      obtain⟨z,hz,rfl⟩:=hs
      refine upon_gives hd ?_ hK
      rw[e];exact gives_appz hρ hu1 hu2 hi hby hz h
     ·simp at hs
    ·simp at hs
   ·simp at hs
  ·simp at hs
 ·rename_i hb
  split at hs
  ·rename_i x t hx ht
   have e:=bi .cap [x] [t] hb hx ht
   split at hs
   ·rename_i e2 hu
    simp at hs;subst hs
    refine upon_gives hd ?_ hK
    rw[e];exact gives_capc hρ rfl hu h
   ·simp at hs
  ·simp at hs
 ·rename_i hb
  split at hs
  ·rename_i x y t u hx ht
   have e:=bi .copy [x,y] [t,u] hb hx ht
   split at hs
   ·rename_i e1 hu1 hu2
    split at hs
    ·rename_i hby
     simp at hs;subst hs
     refine upon_gives hd ?_ hK
     rw[e];exact gives_cpyb hρ hu1 hby hu2 h
    ·simp at hs
   ·rename_i e1 e2 hu1 hu2
    split at hs
    ·rename_i hby
     simp at hs;subst hs
     refine upon_gives hd ?_ hK
     rw[e];exact gives_cpyb hρ hu1 hby.1 hu2 h
    ·simp only[Option.map_eq_some_iff]at hs
     obtain⟨z,hz,rfl⟩:=hs
     refine upon_gives hd ?_ hK
     rw[e];exact gives_cpy hρ hu1 hu2 hz h
   ·simp at hs
  ·simp at hs
 ·rename_i hb
  split at hs
  ·rename_i x t hx ht
   have e:=bi .clear [x] [t] hb hx ht
   split at hs
   ·rename_i e2 hu
    split at hs
    ·rename_i i hi
     simp only[Option.map_eq_some_iff]at hs
     obtain⟨z,hz,rfl⟩:=hs
     refine upon_gives hd ?_ hK
     rw[e];exact gives_clr hρ rfl hu hz h
    ·simp at hs
   ·rename_i k2 e2 hu
    simp at hs;subst hs
    refine upon_gives hd ?_ hK
    rw[e];exact gives_clrm hρ rfl hu h
   ·simp at hs
  ·simp at hs
 ·rename_i hb
  split at hs
  ·rename_i x y t u hx ht
   have e:=bi .delete [x,y] [t,u] hb hx ht
   split at hs
   ·rename_i k e2 hu
    simp only[Option.map_eq_some_iff]at hs
    obtain⟨kd,hk,rfl⟩:=hs
    refine upon_gives hd ?_ hK
    rw[e];exact gives_mdel hρ hu hk h
   ·simp at hs
  ·simp at hs
 ·rename_i hb
  split at hs
  ·rename_i x t hx ht
   have e:=bi .unsafeSliceData [x] [t] hb hx ht
   simp at hs;subst hs
   refine upon_gives hd ?_ hK
   rw[e];exact gives_sld hρ h
  ·simp at hs
 ·rename_i hb
  split at hs
  ·rename_i x y t u hx ht
   have e:=bi .unsafeString [x,y] [t,u] hb hx ht
   split at hs
   ·rename_i e2 hu
    split at hs
    ·rename_i hby
     simp at hs;subst hs
     refine upon_gives hd ?_ hK
     rw[e];exact gives_ust hρ hu hby.2 h
    ·simp at hs
   ·simp at hs
  ·simp at hs
 ·rename_i hb
  split at hs
  ·rename_i x y t u hx ht
   have e:=bi .min [x,y] [t,u] hb hx ht
   split at hs
   ·simp at hs;subst hs
    refine upon_gives hd ?_ hK
    rw[e];exact gives_mn hρ h
   ·simp at hs
  ·simp at hs
 ·rename_i hb
  split at hs
  ·rename_i x y t u hx ht
   have e:=bi .max [x,y] [t,u] hb hx ht
   split at hs
   ·simp at hs;subst hs
    refine upon_gives hd ?_ hK
    rw[e];exact gives_mx hρ h
   ·simp at hs
  ·simp at hs
 ·simp at hs
theorem copBin_sound {op:BinOp} {t:TypeId} {x y:Operand} {s:SOp} (hs:copBin P op t x y=some s) {ρ:Operand→Value} {w:World} (hρ:Knows σ ρ) (h:sop P σ w.heap K Qp s):
  Gives P (binSem op t x y (ρ x) (ρ y)) w K:=by
 have nilr:∀(neg:Bool) {kd:Nat} {d:TypeDesc} {s:SOp},(op=.eql∧neg=false)∨(op=.neq∧neg=true)→P.underlying t=some d→nilType kd d→eqNil kd neg x y=some s→
   sop P σ w.heap K Qp s→Gives P (binSem op t x y (ρ x) (ρ y)) w K:=fun neg kd d s hop hu hd he h=>gives_eqn hop hρ hu hd he h
 have eqs:∀(neg:Bool),(op=.eql∧neg=false)∨(op=.neq∧neg=true)→(match kdOf P t with
   |some .bool=>some (.cmpb neg x y)
   |some _=>some (.cmp op x y)
   |none=>match P.underlying t with
    |some (.pointer e)=>match eqNil 0 neg x y with
     |some r=>some r
     |none=>match szOf P e with
      |some (_+1)=>some (.eqp neg x y)
      |_=>none
    |some (.slice _)=>eqNil 1 neg x y
    |some (.map _ _)=>eqNil 2 neg x y
    |some (.func _ _ _)=>eqNil 3 neg x y
    |some (.interface _)=>match eqNil 4 neg x y with
     |some r=>some r
     |none=>some (.eqi neg x y)
    |some (.struct fs)=>if P.stoodInHeld t=false∧P.eqGuardType P.depth t=false then(kindsOf P 0 fs.toList).map fun ks=>SOp.eqa neg ks x y else none
    |_=>none)=some s→Gives P (binSem op t x y (ρ x) (ρ y)) w K:=by
  intro neg hop he
  split at he
  ·rename_i hk
   simp at he;subst he
   exact gives_cmpb hop hk hρ h
  ·simp at he;subst he
   exact gives_cmp hρ h
  ·split at he
   ·rename_i e hu
    split at he
    ·rename_i r hr
     simp at he;subst he
     exact nilr neg (kd:=0) hop hu ⟨_,rfl⟩ hr h
    ·split at he
     ·rename_i n hn
      simp at he;subst he
      exact gives_eqp hop hρ hu hn h
     ·simp at he
   ·rename_i e hu;exact nilr neg (kd:=1) hop hu ⟨_,rfl⟩ he h
   ·rename_i e e2 hu;exact nilr neg (kd:=2) hop hu ⟨_,_,rfl⟩ he h
   ·rename_i e e2 e3 hu;exact nilr neg (kd:=3) hop hu ⟨_,_,_,rfl⟩ he h
   ·rename_i e hu
    split at he
    ·rename_i r hr
     simp at he;subst he
     exact nilr neg (kd:=4) hop hu ⟨_,rfl⟩ hr h
    ·simp at he;subst he
     exact gives_eqi hop hρ hu h
   ·rename_i fs hu
    split at he
    ·rename_i hc
     simp only[Option.map_eq_some_iff]at he
     obtain⟨ks,hks,rfl⟩:=he
     exact gives_eqa hop hρ hu hc.1 hc.2 hks h
    ·simp at he
   ·simp at he
 cases op<;>simp only[copBin]at hs
 case eql=>exact eqs false (.inl ⟨rfl,rfl⟩) hs
 case neq=>exact eqs true (.inr ⟨rfl,rfl⟩) hs
 case add=>
  split at hs
  ·simp at hs;subst hs;exact gives_ar (.inl rfl) hρ h
  ·simp at hs;subst hs;exact gives_cat hρ h
  ·simp at hs
 case sub=>split at hs<;>simp at hs;subst hs;exact gives_ar (.inr (.inl rfl)) hρ h
 case mul=>split at hs<;>simp at hs;subst hs;exact gives_ar (.inr (.inr rfl)) hρ h
 case and=>split at hs<;>simp at hs;subst hs;exact gives_bit (.inl rfl) hρ h
 case or=>split at hs<;>simp at hs;subst hs;exact gives_bit (.inr (.inl rfl)) hρ h
 case xor=>split at hs<;>simp at hs;subst hs;exact gives_bit (.inr (.inr (.inl rfl))) hρ h
 case andNot=>split at hs<;>simp at hs;subst hs;exact gives_bit (.inr (.inr (.inr rfl))) hρ h
 case quo=>split at hs<;>simp at hs;subst hs;exact gives_quo hρ h
 case rem=>split at hs<;>simp at hs;subst hs;exact gives_rem hρ h
 case lss=>split at hs<;>simp at hs<;>subst hs<;>exact gives_cmp hρ h
 case leq=>split at hs<;>simp at hs<;>subst hs<;>exact gives_cmp hρ h
 case gtr=>split at hs<;>simp at hs<;>subst hs<;>exact gives_cmp hρ h
 case geq=>split at hs<;>simp at hs<;>subst hs<;>exact gives_cmp hρ h
 case shl=>
  split at hs
  ·rename_i k k2 n hk
   split at hs
   ·rename_i hn
    simp at hs;subst hs
    have:=gives_sh (op:=.shl) (t:=t) (x:=x) (k2:=k2) (w:=w) (P:=P) (K:=K) (Qp:=Qp) (.inl rfl) hn.1 hn.2 hρ h
    rw[hρ (.const (.int k2 n)) _ rfl];exact this
   ·simp at hs
  ·simp at hs;subst hs
   exact gives_shv (op:=.shl) (.inl rfl) hρ h
  ·simp at hs
 case shr=>
  split at hs
  ·rename_i k k2 n hk
   split at hs
   ·rename_i hn
    simp at hs;subst hs
    have:=gives_sh (op:=.shr) (t:=t) (x:=x) (k2:=k2) (w:=w) (P:=P) (K:=K) (Qp:=Qp) (.inr rfl) hn.1 hn.2 hρ h
    rw[hρ (.const (.int k2 n)) _ rfl];exact this
   ·simp at hs
  ·simp at hs;subst hs
   exact gives_shv (op:=.shr) (.inr rfl) hρ h
  ·simp at hs
end Go.Sx
namespace Go.Sx
open Go
variable {P:Program} {σ σ':Env} {K:Value→Heap→Prop} {Qp:List PanicEntry→Heap→Prop}
theorem cop_sound {o:Oper} {s:SOp} (hs:cop P o=some s) {a:Act} {w:World} (hρ:Knows σ a.eval) (h:sop P σ w.heap K Qp s)
  {ro:Option Nat} {n:Nat} {next:Act→World→Prop} {Q:Exit→Act→World→Prop}
  (hK:∀v w',SameB w w'→K v w'.heap→next (a.put o.dst v) w') (hQ:∀ch w',SameB w w'→Qp ch w'.heap→Q (.panic ch) a w'):
  o.wpIn (FW ro) n P a w next Q:=by
 have key:(∀c,o.op≠.defer c)→Gives P (execOp a.eval o) w K→o.wpIn (FW ro) n P a w next Q:=fun hd hg=>upon_gives hd hg hK
 cases ho:o.op<;>simp only[cop,ho]at hs<;>first|(simp at hs;done)|skip
 case call c=>exact copCall_sound ho hs hρ h hK hQ
 case move x=>simp at hs;subst hs;exact key (by simp[ho]) (by simp only[execOp,ho];exact gives_mv hρ h)
 case assign x=>simp at hs;subst hs;exact key (by simp[ho]) (by simp only[execOp,ho];exact gives_mv hρ h)
 case pick c x y=>simp at hs;subst hs;exact key (by simp[ho]) (by simp only[execOp,ho];exact gives_pick hρ h)
 case alloc t=>
  simp only[Option.map_eq_some_iff]at hs
  obtain⟨z,hz,rfl⟩:=hs
  cases hb:isBld z.cells.toList with
  |true=>
   rw[hb]at h
   exact key (by simp[ho]) (by simp only[execOp,ho];exact gives_newT hz h)
  |false=>
   rw[hb]at h
   exact key (by simp[ho]) (by simp only[execOp,ho];exact gives_new hz h)
 case box t x=>simp at hs;subst hs;exact key (by simp[ho]) (by simp only[execOp,ho];exact gives_box hρ h)
 case build t parts=>
  split at hs
  ·rename_i z fs hz hu
   split at hs
   ·rename_i qs hq
    simp only[Option.map_eq_some_iff]at hs
    obtain⟨ps,hp,rfl⟩:=hs
    exact key (by simp[ho]) (by simp only[execOp,ho];exact gives_build_struct hρ hz hu hq hp h)
   ·simp at hs
  ·rename_i z n e hz hu
   simp only[Option.map_eq_some_iff]at hs
   obtain⟨size,hsz,rfl⟩:=hs
   exact key (by simp[ho]) (by simp only[execOp,ho];exact gives_build_array hρ hz hu hsz h)
  ·simp at hs
 case buildSlice t m parts=>
  split at hs
  ·rename_i e hu
   split at hs
   ·rename_i size hsz
    split at hs
    ·rename_i hm
     simp only[Option.map_eq_some_iff]at hs
     obtain⟨z,hz,rfl⟩:=hs
     exact key (by simp[ho]) (by simp only[execOp,ho];exact gives_bslice hρ hu hsz hm hz h)
    ·simp at hs
   ·simp at hs
  ·simp at hs
 case load t x=>
  split at hs
  ·rename_i m hg hsz
   simp at hs;subst hs
   exact key (by simp[ho]) (by simp only[execOp,ho];exact gives_ldn hρ hg hsz h)
  ·rename_i m hg hsz
   simp at hs;subst hs
   exact key (by simp[ho]) (by simp only[execOp,ho];exact gives_ld1 hρ hg h)
  ·simp at hs
 case store t x v=>
  split at hs
  ·split at hs
   ·rename_i hm
    simp at hs;subst hs
    exact key (by simp[ho]) (by simp only[execOp,ho];exact gives_stb hρ hm h)
   ·simp at hs
  ·simp only[Option.map_eq_some_iff]at hs
   obtain⟨m,hm,rfl⟩:=hs
   exact key (by simp[ho]) (by simp only[execOp,ho];exact gives_st hρ hm h)
 case nilCheck x=>simp at hs;subst hs;exact key (by simp[ho]) (gives_nilck hρ h o ho)
 case binOp op t x y yt=>exact key (by simp[ho]) (by simp only[execOp,ho];exact copBin_sound hs hρ h)
 case unOp op t x=>split at hs<;>simp at hs<;>subst hs<;>exact key (by simp[ho]) (by simp only[execOp,ho];exact gives_un hρ h)
 case convert src d x=>
  split at hs
  ·rename_i k1 k2 hu1 hu2
   simp at hs;subst hs
   exact key (by simp[ho]) (by simp only[execOp,ho];exact gives_cvt hρ hu1 hu2 h)
  ·rename_i hu1 hu2
   simp at hs;subst hs
   exact key (by simp[ho]) (by simp only[execOp,ho];exact gives_cvs hρ hu1 hu2 h)
  ·rename_i e hu1 hu2
   split at hs
   ·rename_i hue
    simp at hs;subst hs
    exact key (by simp[ho]) (by simp only[execOp,ho];exact gives_bstr hρ hu1 hue hu2 h)
   ·simp at hs
  ·rename_i e hu1 hu2
   split at hs
   ·rename_i hue
    simp at hs;subst hs
    exact key (by simp[ho]) (by simp only[execOp,ho];exact gives_byts hρ hu1 hu2 hue h)
   ·simp at hs
  ·rename_i e1 e hu1 hu2
   split at hs
   ·rename_i hue
    split at hs
    ·rename_i hsd
     simp at hs;subst hs;subst hsd
     exact key (by simp[ho]) (by simp only[execOp,ho];exact gives_cvm (_e':=e1) hρ hu2 hue h)
    ·simp at hs
   ·simp at hs
  ·rename_i t hu1 hu2
   split at hs
   ·rename_i m hm
    simp at hs;subst hs
    exact key (by simp[ho]) (by simp only[execOp,ho];exact gives_p2u hρ hu1 hu2 hm h)
   ·simp at hs
  ·rename_i t hu1 hu2
   simp only[Option.map_eq_some_iff]at hs
   obtain⟨m,hm,rfl⟩:=hs
   exact key (by simp[ho]) (by simp only[execOp,ho];exact gives_u2p hρ hu1 hu2 hm h)
  ·simp at hs
 case makeInterface t x=>
  split at hs
  ·simp at hs
  ·rename_i d hd hu
   simp at hs;subst hs
   exact key (by simp[ho]) (by simp only[execOp,ho];exact gives_mki hρ hu (by rintro ms rfl;exact hd ms rfl) h)
  ·simp at hs
 case makeFunc fn first cap=>
  cases fn<;>simp at hs
  subst hs
  exact key (by simp[ho]) (by simp only[execOp,ho];exact gives_fn hρ h)
 case makeMap t r=>
  split at hs
  ·rename_i hr
   have hr':r=none∨∃kk n,r=some (.const (.int kk n)):=by
    unfold okReserve at hr
    split at hr<;>simp at hr⊢
   split at hs
   ·rename_i k e hu
    simp at hs;subst hs
    exact key (by simp[ho]) (by simp only[execOp,ho];exact gives_mkm hu hr' hρ h)
   ·simp at hs
  ·simp at hs
 case makeSlice t x y=>
  split at hs
  ·rename_i e hu
   split at hs
   ·rename_i i hi
    simp only[Option.map_eq_some_iff]at hs
    obtain⟨z,hz,rfl⟩:=hs
    exact key (by simp[ho]) (by simp only[execOp,ho];exact gives_mks hρ hu hi hz h)
   ·simp at hs
  ·simp at hs
 case slice t x lo hi mx=>
  cases mx with
  |some mx=>
   cases hi<;>simp only at hs<;>first|(simp at hs;done)|skip
   split at hs
   ·rename_i e hu
    simp only[Option.map_eq_some_iff]at hs
    obtain⟨m,hm,rfl⟩:=hs
    exact key (by simp[ho]) (by simp only[execOp,ho];exact gives_slc3 hρ hu hm h)
   ·simp at hs
  |none=>
  simp only at hs
  split at hs
  ·rename_i hu
   simp at hs;subst hs
   exact key (by simp[ho]) (by simp only[execOp,ho];exact gives_sls hρ hu h)
  ·rename_i e hu
   simp only[Option.map_eq_some_iff]at hs
   obtain⟨m,hm,rfl⟩:=hs
   exact key (by simp[ho]) (by simp only[execOp,ho];exact gives_slc hρ hu hm h)
  ·rename_i m e hu
   simp only[Option.map_eq_some_iff]at hs
   obtain⟨s,hs,rfl⟩:=hs
   exact key (by simp[ho]) (by simp only[execOp,ho];exact gives_slp hρ hu hs h)
  ·simp at hs
 case fieldAddr t x f=>
  split at hs
  ·rename_i fs hu
   split at hs
   ·rename_i fl hf
    split at hs
    ·rename_i m hm
     simp at hs;subst hs
     exact key (by simp[ho]) (by simp only[execOp,ho];exact gives_fa hρ hu hf hm h)
    ·simp at hs
   ·simp at hs
  ·simp at hs
 case field t x f=>
  split at hs
  ·rename_i fs hu
   split at hs
   ·rename_i fl hf
    split at hs
    ·rename_i m hg hm
     simp at hs;subst hs
     exact key (by simp[ho]) (by simp only[execOp,ho];exact gives_fln hρ hu hf hg hm h)
    ·rename_i m hg hm
     simp at hs;subst hs
     exact key (by simp[ho]) (by simp only[execOp,ho];exact gives_fl1 hρ hu hf hg h)
    ·simp at hs
   ·simp at hs
  ·simp at hs
 case indexAddr t x i=>
  split at hs
  ·rename_i m e hu
   simp only[Option.map_eq_some_iff]at hs
   obtain⟨z,hz,rfl⟩:=hs
   exact key (by simp[ho]) (by simp only[execOp,ho];exact gives_ixa hρ hu hz h)
  ·rename_i e hu
   simp only[Option.map_eq_some_iff]at hs
   obtain⟨z,hz,rfl⟩:=hs
   exact key (by simp[ho]) (by simp only[execOp,ho];exact gives_ixs hρ hu hz h)
  ·simp at hs
 case index t x i=>
  split at hs
  ·rename_i hu
   simp at hs;subst hs
   exact key (by simp[ho]) (by simp only[execOp,ho];exact gives_ixc hρ hu h)
  ·rename_i m e hu
   split at hs
   ·rename_i s hg hsz
    simp at hs;subst hs
    exact key (by simp[ho]) (by simp only[execOp,ho];exact gives_ixv hρ hu hg hsz h)
   ·rename_i s hg hsz
    simp at hs;subst hs
    exact key (by simp[ho]) (by simp only[execOp,ho];exact gives_ixw hρ hu hg hsz h)
   ·simp at hs
  ·simp at hs
 case lookup t m k ok=>
  split at hs
  ·rename_i kt et hu
   split at hs
   ·rename_i kd z hk hz
    simp at hs;subst hs
    exact key (by simp[ho]) (by simp only[execOp,ho];exact gives_look hρ hu hk hz h)
   ·simp at hs
  ·simp at hs
 case mapUpdate t m k v=>
  split at hs
  ·rename_i kt et hu
   simp only[Option.map_eq_some_iff]at hs
   obtain⟨kd,hk,rfl⟩:=hs
   exact key (by simp[ho]) (by simp only[execOp,ho];exact gives_mup hρ hu hk h)
  ·simp at hs
 case insert t m k v=>
  split at hs
  ·rename_i kt et hu
   simp only[Option.map_eq_some_iff]at hs
   obtain⟨kd,hk,rfl⟩:=hs
   exact key (by simp[ho]) (by simp only[execOp,ho];exact gives_mup hρ hu hk h)
  ·simp at hs
 case extract x i=>simp at hs;subst hs;exact key (by simp[ho]) (by simp only[execOp,ho];exact gives_ext hρ h)
 case panic x=>
  simp at hs;subst hs
  simp only[sop]at h
  split at h
  ·rename_i t v hx
   refine⟨fun _ _=>trivial,?_⟩
   have hd:∀c,o.op≠.defer c:=by simp[ho]
   have hr:(execOp a.eval o).run P w=.halt (.panic (.iface t v)) w:=by
    simp[execOp,ho,hρ x _ hx,Instr.panic,goPanic]
   rw[Oper.semAt_eq _ _ _ hd,hr]
   exact hQ _ w (SameB.refl w) h
  ·exact h.elim
 case range t x=>
  split at hs
  ·rename_i k e hu
   simp at hs;subst hs
   exact key (by simp[ho]) (by simp only[execOp,ho];exact gives_rng hρ hu h)
  ·rename_i hu
   simp at hs;subst hs
   exact key (by simp[ho]) (by simp only[execOp,ho];exact gives_rngs hρ hu h)
  ·simp at hs
 case next x b=>
  cases b with
  |false=>
   simp at hs;subst hs
   exact key (by simp[ho]) (by simp only[execOp,ho];exact gives_nxt hρ h)
  |true=>
   simp at hs;subst hs
   exact key (by simp[ho]) (by simp only[execOp,ho];exact gives_nxts hρ h)
 case entry x=>simp at hs;subst hs;exact key (by simp[ho]) (by simp only[execOp,ho];exact gives_ent hρ h)
 case typeAssert x xt t ok=>
  split at hs
  ·simp at hs
  ·rename_i d z hd hu hz
   simp at hs;subst hs
   exact key (by simp[ho]) (by simp only[execOp,ho];exact gives_tas hρ hu (by rintro ms rfl;exact hd ms rfl) hz h)
  ·simp at hs
end Go.Sx
namespace Go.Sx
open Go
variable {P:Program} {σ σ':Env} {h:Heap} {Qp:List PanicEntry→Heap→Prop}
theorem hasN_iff (n:Nat):∀l:List Nat,hasN n l=true↔n∈l
 |[]=>by simp[hasN]
 |m::l=>by
  simp only[hasN,List.mem_cons,cond_eq_ite]
  split
  ·rename_i e;simp[Nat.eq_of_beq_eq_true e]
  ·rename_i e
   have hne:n≠m:=by rintro rfl;exact e (Nat.beq_refl n)
   rw[hasN_iff n l];simp[hne]
theorem upd_ne {d:Option Nat} {v:Value} {t:Nat} (ht:d≠some t):upd σ d v t=σ t:=by
 cases d with
 |none=>rfl
 |some d=>
  have:Nat.beq t d=false:=by
   cases hb:Nat.beq t d
   ·rfl
   ·exact absurd (by rw[Nat.eq_of_beq_eq_true hb]) ht
  simp[upd,this]
theorem upd_same {d:Nat} {v:Value}:upd σ (some d) v d=some v:=by simp[upd]
theorem upd_comm {d e:Option Nat} {v u:Value} (hne:∀t,d=some t→e≠some t):upd (upd σ d v) e u=upd (upd σ e u) d v:=by
 funext t
 by_cases h1:d=some t
 ·subst h1
  rw[upd_ne (hne t rfl),upd_same,upd_same]
 ·by_cases h2:e=some t
  ·subst h2
   rw[upd_same,upd_ne h1,upd_same]
  ·rw[upd_ne h2,upd_ne h1,upd_ne h1,upd_ne h2]
theorem mem_slotsOf:∀(l:List Operand) (t:Nat),t∈slotsOf l↔.tmp t∈l
 |[],t=>by simp[slotsOf]
 |x::l,t=>by
  cases x<;>simp[slotsOf,mem_slotsOf l t]
theorem ev_agree {l:List Operand} (ha:∀t∈slotsOf l,σ' t=σ t):∀x∈l,ev σ x=ev σ' x:=by
 intro x hx
 cases x with
 |tmp t=>exact(ha t ((mem_slotsOf l t).2 hx)).symm
 |_=>rfl
theorem sop_agree {s:SOp} {K:Value→Heap→Prop} (ha:∀t∈slotsOf s.reads,σ' t=σ t) (hs:sop P σ h K Qp s):sop P σ' h K Qp s:=by
 rw[←sop_congr s (ev_agree ha)];exact hs
theorem quietr {x:SOper} {K:Env→Heap→Prop} (hq:cls x.op≤1) (hs:sopr P σ h x K Qp):
  ∃v,K (upd σ x.dst v) h∧∀σ' h',(∀t∈x.slots,σ' t=σ t)→(cls x.op=0∨Ext h h')→∀K':Env→Heap→Prop,K' (upd σ' x.dst v) h'→sopr P σ' h' x K' Qp:=by
 unfold sopr at hs⊢
 split at hs
 ·rename_i hg
  obtain⟨v,hv,hall⟩:=quiet x.op hq hs
  refine⟨v,hv,fun σ' h' ha he K' hk=>?_⟩
  refine sop_agree (σ:=σ) (fun t ht=>ha t ?_) (hall h' he _ Qp hk)
  simpa[SOper.slots,hg]using ht
 ·rename_i g want hg
  split at hs
  ·rename_i t ht
   split at hs
   ·rename_i hw
    obtain⟨v,hv,hall⟩:=quiet x.op hq hs
    refine⟨v,hv,fun σ' h' ha he K' hk=>?_⟩
    have hσ:σ' g=some t:=by rw[ha g (by simp[SOper.slots,hg]),ht]
    simp only[hσ,hw]
    refine sop_agree (σ:=σ) (fun t ht=>ha t ?_) (hall h' he _ Qp hk)
    simp[SOper.slots,hg,ht]
   ·rename_i hw
    refine⟨undef,hs,fun σ' h' ha he K' hk=>?_⟩
    have hσ:σ' g=some t:=by rw[ha g (by simp[SOper.slots,hg]),ht]
    simp only[hσ,hw]
    exact hk
  ·exact hs.elim
theorem sopr_agree {y:SOper} {K K':Env→Heap→Prop} (ha:∀t∈y.slots,σ' t=σ t) (hs:sopr P σ h y K Qp)
  (hk:∀v h',(cls y.op≤2→Ext h h')→K (upd σ y.dst v) h'→K' (upd σ' y.dst v) h'):sopr P σ' h y K' Qp:=by
 have main:∀hs:sop P σ h (fun v h'=>K (upd σ y.dst v) h') Qp y.op,sop P σ h (fun v h'=>K' (upd σ' y.dst v) h') Qp y.op:=by
  intro hs
  by_cases hc:cls y.op≤2
  ·exact sop_mono y.op (sop_ext y.op hc hs) fun v h' hv=>hk v h' (fun _=>hv.2) hv.1
  ·exact sop_mono y.op hs fun v h' hv=>hk v h' (fun h=>absurd h hc) hv
 unfold sopr at hs⊢
 split at hs
 ·rename_i hg
  refine sop_agree (σ:=σ) (fun t ht=>ha t ?_) (main hs)
  simpa[SOper.slots,hg]using ht
 ·rename_i g want hg
  split at hs
  ·rename_i t ht
   have hσ:σ' g=some t:=by rw[ha g (by simp[SOper.slots,hg]),ht]
   simp only[hσ]
   split at hs
   ·rename_i hw
    refine sop_agree (σ:=σ) (fun t ht=>ha t ?_) (main hs)
    simp[SOper.slots,hg,ht]
   ·rename_i hw
    exact hk undef h (fun _=>Ext.refl h) hs
  ·exact hs.elim
theorem sopr_mono {y:SOper} {K K':Env→Heap→Prop} (hs:sopr P σ h y K Qp) (hk:∀σ' h',K σ' h'→K' σ' h'):sopr P σ h y K' Qp:=
 sopr_agree (fun _ _=>rfl) hs fun _ _ _ hv=>hk _ _ hv
theorem loose_spec {x y:SOper} (hl:loose x y=true):
  (∀d,x.dst=some d→d∉y.slots)∧(∀t,x.dst=some t→y.dst≠some t)∧(∀e,y.dst=some e→e∉x.slots)∧(cls x.op=0∨(cls x.op=1∧cls y.op≤2)):=by
 unfold loose at hl
 simp only[Bool.and_eq_true]at hl
 obtain⟨⟨h1,h2⟩,h3⟩:=hl
 refine⟨fun d hd=>?_,fun t ht hy=>?_,fun e he=>?_,?_⟩
 ·rw[hd]at h1;simp only[Bool.and_eq_true,Bool.not_eq_true']at h1
  intro hm;rw[(hasN_iff d y.slots).2 hm]at h1;simp at h1
 ·rw[ht]at h1;simp only[hy,Bool.and_eq_true,Bool.not_eq_true']at h1
  simp at h1
 ·rw[he]at h2;simp only[Bool.not_eq_true']at h2
  intro hm;rw[(hasN_iff e x.slots).2 hm]at h2;simp at h2
 ·split at h3
  ·rename_i h;exact .inl h
  ·rename_i h;exact .inr ⟨h,Nat.le_of_ble_eq_true h3⟩
  ·simp at h3
theorem swap {x y:SOper} {K:Env→Heap→Prop} (hl:loose x y=true) (hs:sopr P σ h x (fun σ1 h1=>sopr P σ1 h1 y K Qp) Qp):
  sopr P σ h y (fun σ1 h1=>sopr P σ1 h1 x K Qp) Qp:=by
 obtain⟨l1,l2,l3,l4⟩:=loose_spec hl
 obtain⟨v,hy,redo⟩:=quietr (by omega) hs
 refine sopr_agree (σ:=upd σ x.dst v) (fun t ht=>(upd_ne fun e=>l1 t e ht).symm) hy fun u h' he hk=>?_
 refine redo _ h' (fun t ht=>upd_ne fun e=>l3 t e ht) ?_ K ?_
 ·rcases l4 with h0|⟨_,h2⟩
  ·exact .inl h0
  ·exact .inr (he h2)
 ·rw[←upd_comm l2];exact hk
theorem sops_front {K:Env→Heap→Prop} (y:SOper) (post:List SOper):∀(pre:List SOper) (σ:Env) (h:Heap),(∀x∈pre,loose x y=true)→sops P Qp K (pre++y::post) σ h→sops P Qp K (y::(pre++post)) σ h
 |[],σ,h,_,hs=>hs
 |x::pre,σ,h,hl,hs=>by
  simp only[List.cons_append,sops]at hs⊢
  exact swap (hl x (by simp)) (sopr_mono hs fun σ1 h1 h2=>sops_front y post pre σ1 h1 (fun z hz=>hl z (by simp[hz])) h2)
structure Rel (σ:Env) (nt:Nat) (ds:List Deferred) (a:Act):Prop where
 size:a.tmps.size=nt
 defers:a.defers=ds
 knows:Knows σ a.eval
theorem Rel.put {nt:Nat} {ds:List Deferred} {a:Act} (hr:Rel σ nt ds a) {d:Option Nat} (hd:∀t,d=some t→t<nt) (v:Value):Rel (upd σ d v) nt ds (a.put d v):=by
 cases d with
 |none=>exact hr
 |some d=>
  have hlt:=hd d rfl
  refine⟨by simp[Act.put,hr.size],by simp[Act.put,hr.defers],fun x u hx=>?_⟩
  cases x with
  |tmp t=>
   by_cases ht:t=d
   ·subst ht
    simp[ev,upd]at hx
    subst hx
    simp[Act.eval,Act.put,hr.size,hlt]
   ·have hn:upd σ (some d) v t=σ t:=upd_ne (by intro e;exact ht (by simpa using e.symm))
    have hx':ev σ (.tmp t)=some u:=by rw[←hx];exact hn.symm
    have:=hr.knows _ _ hx'
    simp only[Act.eval,Act.put]at this⊢
    rw[←this]
    simp[Array.getElem?_setIfInBounds_ne (Ne.symm ht)]
  |const c=>exact hr.knows (.const c) u hx
  |global g=>exact hr.knows (.global g) u hx
  |func f=>exact hr.knows (.func f) u hx
theorem Rel.put_hidden {nt:Nat} {ds:List Deferred} {a:Act} (hr:Rel σ nt ds a) {d:Option Nat} (hd:∀t,d=some t→σ t=none) (v:Value):Rel σ nt ds (a.put d v):=by
 cases d with
 |none=>exact hr
 |some d=>
  refine⟨by simp[Act.put,hr.size],by simp[Act.put,hr.defers],fun x u hx=>?_⟩
  cases x with
  |tmp t=>
   have ht:t≠d:=by
    rintro rfl
    have:=hd t rfl
    simp[ev,this]at hx
   have:=hr.knows _ _ hx
   simp only[Act.eval,Act.put]at this⊢
   rw[←this]
   simp[Array.getElem?_setIfInBounds_ne (Ne.symm ht)]
  |_=>exact hr.knows _ _ hx
theorem Rel.sub {nt:Nat} {ds:List Deferred} {a:Act} (hr:Rel σ nt ds a) (hs:Sub σ' σ):Rel σ' nt ds a:=
 ⟨hr.size,hr.defers,fun x u hx=>by
  cases x with
  |tmp t=>exact hr.knows (.tmp t) u (hs t u hx)
  |_=>exact hr.knows _ u hx⟩
variable {ops:Array Oper} {nt:Nat} {ds:List Deferred}
def Good (P:Program) (ops:Array Oper) (nt:Nat) (i:Nat) (s:SOper):Prop:=
 ∃o s0,ops[i]? =some o∧coper P ops nt o=some s0∧(s=s0∨s=calm1 s0)
theorem coper_spec {o:Oper} {s:SOper} (hs:coper P ops nt o=some s):
  s.dst=o.dst∧cop P o=some s.op∧(∀d,o.dst=some d→d<nt)∧
  ((o.guard=none∧s.guard=none)∨∃j want g,o.guard=some (j,want)∧(ops[j]?).bind (·.dst)=some g∧g<nt∧s.guard=some (g,want)):=by
 unfold coper at hs
 split at hs
 ·simp at hs
 ·rename_i s1 hc
  split at hs
  ·simp at hs
  ·rename_i hlt
   have hlt':∀d,o.dst=some d→d<nt:=by
    intro d hd;rw[hd]at hlt;exact Nat.le_of_ble_eq_true hlt
   split at hs
   ·rename_i hg
    simp at hs;subst hs
    exact⟨rfl,hc,hlt',.inl ⟨hg,rfl⟩⟩
   ·rename_i j want hg
    split at hs
    ·rename_i g hj
     split at hs
     ·rename_i hgn
      simp at hs;subst hs
      exact⟨rfl,hc,hlt',.inr ⟨j,want,g,hg,hj,hgn,rfl⟩⟩
     ·simp at hs
    ·simp at hs
theorem calm_sound {s:SOper} {K:Env→Heap→Prop} (hs:sopr P σ h (calm1 s) K Qp):sopr P σ h s K Qp:=by
 have main:∀K:Value→Heap→Prop,sop P σ h K Qp (calm1 s).op→sop P σ h K Qp s.op:=by
  intro K hs
  unfold calm1 at hs
  split at hs
  ·rename_i f xs ho
   rw[ho]
   simp only[sop]at hs⊢
   split at hs
   ·exact hs.mono fun _ _ he=>he.2
   ·exact hs.elim
  ·rename_i x xs ho
   rw[ho]
   simp only[sop]at hs⊢
   split at hs
   ·rename_i hx hv
    simp only[hx,hv]
    exact hs.mono fun _ _ he=>he.2
   ·exact hs.elim
  ·exact hs
 have hg:(calm1 s).guard=s.guard:=by unfold calm1;split<;>rfl
 have hd:(calm1 s).dst=s.dst:=by unfold calm1;split<;>rfl
 unfold sopr at hs⊢
 rw[hg,hd]at hs
 split at hs
 ·rename_i h0;exact main _ hs
 ·rename_i g want h0
  split at hs
  ·rename_i t ht
   split at hs
   ·exact main _ hs
   ·exact hs
  ·exact hs.elim
theorem opr_sound {i:Nat} {s:SOper} (hgood:Good P ops nt i s) {K:Env→Heap→Prop} {a:Act} {w:World} (hrel:Rel σ nt ds a) {τ:Env} (hτ:Rel τ nt ds a) (hdst:∀d,s.dst=some d→τ d=none)
  (hs:sopr P σ w.heap s K Qp) {ro:Option Nat} {n:Nat} {next:Act→World→Prop} {Q:Exit→Act→World→Prop}
  (hK:∀σ' a' w',Rel σ' nt ds a'→Rel τ nt ds a'→SameB w w'→K σ' w'.heap→next a' w') (hQ:∀ch w',SameB w w'→Qp ch w'.heap→Q (.panic ch) a w'):
  wpOpIn (FW ro) n P ops Q i next a w:=by
 obtain⟨o,s0,hi,hc,hs0⟩:=hgood
 have hs':sopr P σ w.heap s0 K Qp:=by
  rcases hs0 with rfl|rfl
  ·exact hs
  ·exact calm_sound hs
 have hd0:s.dst=s0.dst:=by
  rcases hs0 with rfl|rfl
  ·rfl
  ·unfold calm1;split<;>rfl
 obtain⟨h1,h2,h3,h4⟩:=coper_spec hc
 have run:sop P σ w.heap (fun v h'=>K (upd σ s0.dst v) h') Qp s0.op→o.wpIn (FW ro) n P a w next Q:=fun hs=>
  cop_sound h2 hrel.knows hs (fun v w' hb hk=>hK _ _ w' (by rw[h1];exact hrel.put h3 v) (hτ.put_hidden (fun t ht=>hdst t (by rw[hd0,h1];exact ht)) v) hb hk) hQ
 simp only[wpOpIn,hi]
 rcases h4 with⟨hg,hg'⟩|⟨j,want,g,hg,hj,hgn,hg'⟩
 ·have hw:Region.wanted o (yielded ops a.tmps)=true:=by simp[Region.wanted,hg]
  rw[if_pos hw]
  simp only[sopr,hg']at hs'
  exact run hs'
 ·simp only[sopr,hg']at hs'
  split at hs'
  ·rename_i t ht
   have hev:=hrel.knows (.tmp g) _ ht
   have hgt:a.tmps[g]? =some t:=by
    simp only[Act.eval]at hev
    have hlt:g<a.tmps.size:=by rw[hrel.size];exact hgn
    rw[Array.getElem?_eq_getElem hlt]
    simpa[Array.getD,hlt]using hev
   have hw:Region.wanted o (yielded ops a.tmps)=takes t want:=by
    simp only[Region.wanted,hg,yielded,hj,Option.bind_some,hgt]
    unfold takes
    cases t<;>first|rfl|(rename_i b;cases b<;>cases want<;>rfl)
   split at hs'
   ·rename_i htw
    rw[if_pos (by rw[hw];exact htw)]
    exact run hs'
   ·rename_i htw
    rw[if_neg (by rw[hw,htw];simp)]
    exact⟨fun _ _=>trivial,hK (upd σ s0.dst undef) (a.put o.dst undef) w (by rw[h1];exact hrel.put h3 undef) (hτ.put_hidden (fun t ht=>hdst t (by rw[hd0,h1];exact ht)) undef) (SameB.refl w) hs'⟩
  ·exact hs'.elim
theorem list_sound {K:Env→Heap→Prop} {τ:Env} {ro:Option Nat} {n:Nat} {Q:Exit→Act→World→Prop} {w0:World}
  (hN:∀σ' a' w',Rel σ' nt ds a'→SameB w0 w'→K σ' w'.heap→Q .normal a' w') (hQ:∀ch a' w',Rel τ nt ds a'→SameB w0 w'→Qp ch w'.heap→Q (.panic ch) a' w'):
  ∀(l:List (Nat×SOper)) (σ:Env) (a:Act) (w:World),(∀p∈l,Good P ops nt p.1 p.2)→(∀p∈l,∀d,p.2.dst=some d→τ d=none)→Rel σ nt ds a→Rel τ nt ds a→SameB w0 w→
   sops P Qp K (l.map (·.2)) σ w.heap→wpOpsIn (FW ro) n P ops Q (l.map (·.1)) a w
 |[],σ,a,w,_,_,hr,_,hb,hs=>hN σ a w hr hb hs
 |(i,s)::l,σ,a,w,hg,hd,hr,hτ,hb,hs=>by
  simp only[List.map_cons,sops]at hs⊢
  rw[wpOpsIn_cons]
  refine opr_sound (hg (i,s) (by simp)) hr hτ (hd (i,s) (by simp)) hs (fun σ' a' w' hr' hτ' hb' hk=>?_) (fun ch w' hb' hk=>hQ ch a w' hτ (hb.trans hb') hk)
  exact list_sound hN hQ l σ' a' w' (fun p hp=>hg p (by simp[hp])) (fun p hp=>hd p (by simp[hp])) hr' hτ' (hb.trans hb') hk
theorem aheads_getD (i:Nat):(aheads ops).getD i []=aheadOf ops i:=by
 unfold aheads
 by_cases hi:i<ops.size
 ·simp[List.getD,hi]
 ·have:ops[i]? =none:=by simp;omega
  simp[List.getD,aheadOf,hi]
def Closed (ops:Array Oper) (L:Nat→Prop):Prop:=∀j,L j→∀k∈aheadOf ops j,L k
theorem closure_sound {L:Nat→Prop} (hL:Closed ops L):∀(n:Nat) (work acc:List Nat),(∀k∈work,L k)→(∀k∈acc,L k)→∀k∈closure (aheads ops) n work acc,L k
 |0,work,acc,_,ha=>by cases work<;>simpa[closure]using ha
 |n+1,[],acc,_,ha=>by simpa[closure]using ha
 |n+1,x::r,acc,hw,ha=>by
  simp only[closure]
  split
  ·exact closure_sound hL n r acc (fun k hk=>hw k (by simp[hk])) ha
  ·refine closure_sound hL n _ _ (fun k hk=>?_) (fun k hk=>?_)
   ·rw[aheads_getD]at hk
    rcases List.mem_append.1 hk with hk|hk
    ·exact hL x (hw x (by simp)) k hk
    ·exact hw k (by simp[hk])
   ·rcases List.mem_cons.1 hk with rfl|hk
    ·exact hw k (by simp)
    ·exact ha k hk
def Topo (ops:Array Oper):(Nat→Prop)→List Nat→Prop
 |_,[]=>True
 |L,x::r=>(∀k∈aheadOf ops x,L k)∧Topo ops (fun k=>L k∨k=x) r
theorem Topo.mono {L L':Nat→Prop} (hLL:∀k,L k→L' k):∀{l:List Nat},Topo ops L l→Topo ops L' l
 |[],_=>trivial
 |_::_,⟨h1,h2⟩=>⟨fun k hk=>hLL k (h1 k hk),h2.mono fun k hk=>hk.imp (hLL k) id⟩
theorem Topo.drop {y:Nat} {post:List Nat}:∀{pre:List Nat} {L:Nat→Prop},Topo ops L (pre++y::post)→Topo ops (fun k=>L k∨k=y) (pre++post)
 |[],L,ht=>ht.2
 |x::pre,L,⟨h1,h2⟩=>by
  refine⟨fun k hk=>.inl (h1 k hk),?_⟩
  have:=Topo.drop h2
  refine this.mono fun k hk=>?_
  rcases hk with(hk|hk)|hk
  ·exact .inl (.inl hk)
  ·exact .inr hk
  ·exact .inl (.inr hk)
def After (ops:Array Oper) (x y:Nat×SOper):Prop:=(∀L:Nat→Prop,Closed ops L→(∀k∈aheadOf ops y.1,L k)→L x.1)∨loose x.2 y.2=true
theorem any_sound {K:Env→Heap→Prop} {τ:Env} {ro:Option Nat} {n:Nat} {Q:Exit→Act→World→Prop} {w0:World}
  (hN:∀σ' a' w',Rel σ' nt ds a'→SameB w0 w'→K σ' w'.heap→Q .normal a' w') (hQ:∀ch a' w',Rel τ nt ds a'→SameB w0 w'→Qp ch w'.heap→Q (.panic ch) a' w'):
  ∀(fuel:Nat) (l:List (Nat×SOper)) (listed:Array Bool) (σ:Env) (a:Act) (w:World),l.length=fuel→(∀p∈l,Good P ops nt p.1 p.2)→(∀p∈l,∀d,p.2.dst=some d→τ d=none)→
   (l.map (·.1)).Nodup→(∀i,i<ops.size→(listed.getD i true=false↔i∈l.map (·.1)))→listed.size=ops.size→Closed ops (fun k=>listed.getD k false=true)→
   Topo ops (fun k=>listed.getD k false=true) (l.map (·.1))→l.Pairwise (After ops)→Rel σ nt ds a→Rel τ nt ds a→SameB w0 w→sops P Qp K (l.map (·.2)) σ w.heap→
   wpAnyIn (FW ro) n P .any ops Q fuel listed a w:=by
 intro fuel
 induction fuel with
 |zero=>
  intro l listed σ a w hlen hg hd hnd hli hsz hcl htp hpw hr hτ hb hs
  have:l=[]:=by simpa using hlen
  subst this
  refine⟨?_,hN σ a w hr hb hs⟩
  rw[List.eq_nil_iff_forall_not_mem]
  intro j hj
  obtain⟨h1,o,h2,_⟩:=mem_ready.1 hj
  have:=(hli j (Array.getElem?_eq_some_iff.1 h2).1).1 h1
  simp at this
 |succ fuel ih=>
  intro l listed σ a w hlen hg hd hnd hli hsz hcl htp hpw hr hτ hb hs
  refine⟨fun hnil=>?_,fun i hi=>?_⟩
  ·-- the first of ours is ready
   exfalso
   cases l with
   |nil=>simp at hlen
   |cons p l=>
    obtain⟨o,s0,ho,_⟩:=hg p (by simp)
    have hlt:=(Array.getElem?_eq_some_iff.1 ho).1
    have:p.1∈Region.ready .any ops listed:=by
     refine mem_ready.2 ⟨(hli p.1 hlt).2 (by simp),o,ho,fun e he hbd=>?_⟩
     refine htp.1 e.on ?_
     simp only[aheadOf,ho,List.mem_map,List.mem_filter]
     exact⟨e,⟨by simpa using he,hbd⟩,rfl⟩
    rw[hnil]at this
    simp at this
  ·obtain⟨hi1,o,hio,hi2⟩:=mem_ready.1 hi
   have hlt:=(Array.getElem?_eq_some_iff.1 hio).1
   have hmem:=(hli i hlt).1 hi1
   obtain⟨p,hp,hpi⟩:=List.mem_map.1 hmem
   obtain⟨pre,post,rfl⟩:=List.append_of_mem hp
   obtain⟨j,s⟩:=p
   simp only at hpi
   subst hpi
   have hah:∀k∈aheadOf ops j,listed.getD k false=true:=by
    intro k hk
    simp only[aheadOf,hio,List.mem_map,List.mem_filter]at hk
    obtain⟨e,⟨he,hbd⟩,rfl⟩:=hk
    exact hi2 e (by simpa using he) hbd
   have hloose:∀x∈pre.map (·.2),loose x s=true:=by
    intro x hx
    obtain⟨q,hq,rfl⟩:=List.mem_map.1 hx
    have hp2:=(List.pairwise_append.1 hpw).2.2 q hq (j,s) (by simp)
    rcases hp2 with hwait|hl
    ·exfalso
     have hq1:=hwait _ hcl hah
     obtain⟨oq,_,hoq,_⟩:=hg q (by simp[hq])
     have hqlt:=(Array.getElem?_eq_some_iff.1 hoq).1
     have hq2:=(hli q.1 hqlt).2 (by simp only[List.map_append,List.mem_append,List.mem_map];exact .inl ⟨q,hq,rfl⟩)
     rw[Array.getD_eq_getD_getElem?]at hq1 hq2
     have hs':q.1<listed.size:=by omega
     simp[hs']at hq1 hq2
     simp[hq1]at hq2
    ·exact hl
   simp only[List.map_append,List.map_cons]at hs
   have hs2:=sops_front s (post.map (·.2)) (pre.map (·.2)) σ w.heap hloose hs
   simp only[sops]at hs2
   refine opr_sound (hg (j,s) (by simp)) hr hτ (hd (j,s) (by simp)) hs2 (fun σ' a' w' hr' hτ' hb' hk=>?_) (fun ch w' hb' hk=>hQ ch a w' hτ (hb.trans hb') hk)
   have hjl:j<listed.size:=by omega
   refine ih (pre++post) (listed.setIfInBounds j true) σ' a' w' ?_ ?_ ?_ ?_ ?_ (by simp[hsz]) ?_ ?_ ?_ hr' hτ' (hb.trans hb') (by simpa using hk)
   ·simp at hlen⊢;omega
   ·exact fun p hp=>hg p (by simp only[List.mem_append,List.mem_cons]at hp⊢;rcases hp with h|h<;>simp[h])
   ·exact fun p hp=>hd p (by simp only[List.mem_append,List.mem_cons]at hp⊢;rcases hp with h|h<;>simp[h])
   ·simp only[List.map_append,List.map_cons]at hnd⊢
    exact hnd.sublist (List.Sublist.append_left (List.sublist_cons_self _ _) _)
   ·intro k hk
    have hkl:k<listed.size:=by omega
    have hjn:j∉pre.map (·.1)∧j∉post.map (·.1):=by
     simp only[List.map_append,List.map_cons]at hnd
     have:=List.nodup_append.1 hnd
     refine⟨fun hm=>this.2.2 j hm j (by simp) rfl,(List.nodup_cons.1 this.2.1).1⟩
    by_cases hkj:k=j
    ·subst hkj
     simp only[Array.getD_eq_getD_getElem?,Array.getElem?_setIfInBounds_self,hkl,if_true,Option.getD_some,List.map_append,List.mem_append]
     simp[hjn]
    ·have h1:(listed.setIfInBounds j true).getD k true=listed.getD k true:=getD_set_ne true (fun e=>hkj e.symm)
     rw[h1,hli k hk]
     simp only[List.map_append,List.map_cons,List.mem_append,List.mem_cons]
     constructor
     ·rintro(h|h|h)
      ·exact .inl h
      ·exact absurd h hkj
      ·exact .inr h
     ·rintro(h|h)
      ·exact .inl h
      ·exact .inr (.inr h)
   ·intro k hk m hm
    by_cases hkj:k=j
    ·subst hkj;exact getD_set_true (hah m hm)
    ·rw[getD_set_ne false (fun e=>hkj e.symm)]at hk
     exact getD_set_true (hcl k hk m hm)
   ·simp only[List.map_append,List.map_cons]at htp⊢
    refine htp.drop.mono fun k hk=>?_
    rcases hk with hk|rfl
    ·exact getD_set_true hk
    ·simp[hjl]
   ·exact hpw.sublist (List.Sublist.append_left (List.sublist_cons_self _ _) _)
structure Inv (P:Program) (ops:Array Oper) (nt:Nat) (τ:Env) (l:List (Nat×SOper)) (listed:Array Bool):Prop where
 good:∀p∈l,Good P ops nt p.1 p.2
 dst:∀p∈l,∀d,p.2.dst=some d→τ d=none
 nd:(l.map (·.1)).Nodup
 mem:∀i,i<ops.size→(listed.getD i true=false↔i∈l.map (·.1))
 topo:Topo ops (fun k=>listed.getD k false=true) (l.map (·.1))
theorem Inv.step {τ:Env} {pre post:List (Nat×SOper)} {j:Nat} {s:SOper} {listed:Array Bool} (v:Inv P ops nt τ (pre++(j,s)::post) listed) (hsz:listed.size=ops.size) (hj:j<ops.size):
  Inv P ops nt τ (pre++post) (listed.setIfInBounds j true) where
 good p hp:=v.good p (by simp only[List.mem_append,List.mem_cons]at hp⊢;rcases hp with h|h<;>simp[h])
 dst p hp:=v.dst p (by simp only[List.mem_append,List.mem_cons]at hp⊢;rcases hp with h|h<;>simp[h])
 nd:=by
  have hnd:=v.nd
  simp only[List.map_append,List.map_cons]at hnd⊢
  exact hnd.sublist (List.Sublist.append_left (List.sublist_cons_self _ _) _)
 mem k hk:=by
  have hkl:k<listed.size:=by omega
  have hnd:=v.nd
  have hjn:j∉pre.map (·.1)∧j∉post.map (·.1):=by
   simp only[List.map_append,List.map_cons]at hnd
   have:=List.nodup_append.1 hnd
   refine⟨fun hm=>this.2.2 j hm j (by simp) rfl,(List.nodup_cons.1 this.2.1).1⟩
  by_cases hkj:k=j
  ·subst hkj
   simp only[Array.getD_eq_getD_getElem?,Array.getElem?_setIfInBounds_self,hkl,if_true,Option.getD_some,List.map_append,List.mem_append]
   simp[hjn]
  ·have h1:(listed.setIfInBounds j true).getD k true=listed.getD k true:=getD_set_ne true (fun e=>hkj e.symm)
   rw[h1,v.mem k hk]
   simp only[List.map_append,List.map_cons,List.mem_append,List.mem_cons]
   constructor
   ·rintro(h|h|h)
    ·exact .inl h
    ·exact absurd h hkj
    ·exact .inr h
   ·rintro(h|h)
    ·exact .inl h
    ·exact .inr (.inr h)
 topo:=by
  have htp:=v.topo
  simp only[List.map_append,List.map_cons]at htp⊢
  refine htp.drop.mono fun k hk=>?_
  rcases hk with hk|rfl
  ·exact getD_set_true hk
  ·have hjl:k<listed.size:=by omega
   simp[hjl]
theorem closed_step {listed:Array Bool} {j:Nat} (hcl:Closed ops (fun k=>listed.getD k false=true)) (hah:∀k∈aheadOf ops j,listed.getD k false=true):
  Closed ops (fun k=>(listed.setIfInBounds j true).getD k false=true):=by
 intro k hk m hm
 by_cases hkj:k=j
 ·subst hkj;exact getD_set_true (hah m hm)
 ·rw[getD_set_ne false (fun e=>hkj e.symm)]at hk
  exact getD_set_true (hcl k hk m hm)
theorem Inv.first {τ:Env} {p:Nat×SOper} {l:List (Nat×SOper)} {listed:Array Bool} (v:Inv P ops nt τ (p::l) listed):p.1∈Region.ready .any ops listed:=by
 obtain⟨o,s0,ho,_⟩:=v.good p (by simp)
 have hlt:=(Array.getElem?_eq_some_iff.1 ho).1
 refine mem_ready.2 ⟨(v.mem p.1 hlt).2 (by simp),o,ho,fun e he hbd=>?_⟩
 refine v.topo.1 e.on ?_
 simp only[aheadOf,ho,List.mem_map,List.mem_filter]
 exact⟨e,⟨by simpa using he,hbd⟩,rfl⟩
theorem Inv.undone {τ:Env} {l:List (Nat×SOper)} {listed:Array Bool} (v:Inv P ops nt τ l listed) (hsz:listed.size=ops.size) {q:Nat×SOper} (hq:q∈l) (h:listed.getD q.1 false=true):False:=by
 obtain⟨oq,_,hoq,_⟩:=v.good q hq
 have hqlt:=(Array.getElem?_eq_some_iff.1 hoq).1
 have hq2:=(v.mem q.1 hqlt).2 (List.mem_map.2 ⟨q,hq,rfl⟩)
 rw[Array.getD_eq_getD_getElem?]at h hq2
 have hs':q.1<listed.size:=by omega
 simp[hs']at h hq2
 simp[h]at hq2
def Waits (ops:Array Oper) (a y:Nat):Prop:=∀L:Nat→Prop,Closed ops L→(∀k∈aheadOf ops y,L k)→L a
def AfterX (ops:Array Oper) (a b:Nat) (x y:Nat×SOper):Prop:=After ops x y∨(x.1=a∧(y.1=b∨Waits ops b y.1))
theorem sops_append {K:Env→Heap→Prop}:∀(l m:List SOper) (σ:Env) (h:Heap),sops P Qp (fun σ1 h1=>sops P Qp K m σ1 h1) l σ h→sops P Qp K (l++m) σ h
 |[],_,_,_,hs=>hs
 |_::l,m,_,_,hs=>sopr_mono hs fun σ1 h1 h2=>sops_append l m σ1 h1 h2
theorem sops_mono {K K':Env→Heap→Prop} (hk:∀σ h,K σ h→K' σ h):∀(l:List SOper) (σ:Env) (h:Heap),sops P Qp K l σ h→sops P Qp K' l σ h
 |[],σ,h,hs=>hk σ h hs
 |_::l,_,_,hs=>sopr_mono hs fun σ1 h1 h2=>sops_mono hk l σ1 h1 h2
theorem move {τ:Env} {K:Env→Heap→Prop} {pre post:List (Nat×SOper)} {j a b:Nat} {s:SOper} {listed:Array Bool} (v:Inv P ops nt τ (pre++(j,s)::post) listed) (hsz:listed.size=ops.size)
  (hcl:Closed ops (fun k=>listed.getD k false=true)) (hah:∀k∈aheadOf ops j,listed.getD k false=true) (hpw:(pre++(j,s)::post).Pairwise (AfterX ops a b)) (hab:a∉pre.map (·.1))
  {σ:Env} {h:Heap} (hs:sops P Qp K ((pre++(j,s)::post).map (·.2)) σ h):sopr P σ h s (sops P Qp K ((pre++post).map (·.2))) Qp:=by
 have hloose:∀x∈pre.map (·.2),loose x s=true:=by
  intro x hx
  obtain⟨q,hq,rfl⟩:=List.mem_map.1 hx
  have hp2:=(List.pairwise_append.1 hpw).2.2 q hq (j,s) (by simp)
  rcases hp2 with(hwait|hl)|⟨h1,_⟩
  ·exact(v.undone hsz (q:=q) (by simp[hq]) (hwait _ hcl hah)).elim
  ·exact hl
  ·exact absurd (by rw[←h1];exact List.mem_map.2 ⟨q,hq,rfl⟩) hab
 simp only[List.map_append,List.map_cons]at hs⊢
 have:=sops_front s (post.map (·.2)) (pre.map (·.2)) σ h hloose hs
 simpa only[sops]using this
theorem two_sound {K:Env→Heap→Prop} {τ:Env} {ro:Option Nat} {n:Nat} {Q:Exit→Act→World→Prop} {w0:World} {a b:Nat} {sa sb:SOper} (hab:a≠b)
  (hN:∀σ' a' w',Rel σ' nt ds a'→SameB w0 w'→K σ' w'.heap→Q .normal a' w') (hQ:∀ch a' w',Rel τ nt ds a'→SameB w0 w'→Qp ch w'.heap→Q (.panic ch) a' w') {r1 r2:List (Nat×SOper)}
  (hlate:∀p∈r1,p.1=b∨Waits ops a p.1∨Waits ops b p.1):
  ∀(fuel:Nat) (pre:List (Nat×SOper)) (listed:Array Bool) (σ:Env) (ac:Act) (w:World),(pre++(a,sa)::r1).length=fuel→(pre++(b,sb)::r2).length=fuel→
   Inv P ops nt τ (pre++(a,sa)::r1) listed→Inv P ops nt τ (pre++(b,sb)::r2) listed→listed.size=ops.size→Closed ops (fun k=>listed.getD k false=true)→
   (pre++(a,sa)::r1).Pairwise (AfterX ops a b)→(pre++(b,sb)::r2).Pairwise (AfterX ops b a)→Rel σ nt ds ac→Rel τ nt ds ac→SameB w0 w→
   sops P Qp (fun σ1 h1=>sops P Qp K (sa::r1.map (·.2)) σ1 h1∧sops P Qp K (sb::r2.map (·.2)) σ1 h1) (pre.map (·.2)) σ w.heap→
   wpAnyIn (FW ro) n P .any ops Q fuel listed ac w:=by
 intro fuel
 induction fuel with
 |zero=>intro pre listed σ ac w hlen;simp at hlen
 |succ fuel ih=>
  intro pre listed σ ac w hlen1 hlen2 v1 v2 hsz hcl hpw1 hpw2 hr hτ hb hs
  refine⟨fun hnil=>?_,fun i hi=>?_⟩
  ·exfalso
   cases pre with
   |nil=>have:=Inv.first v1;rw[hnil]at this;simp at this
   |cons p pre=>have:=Inv.first (l:=pre++(a,sa)::r1) v1;rw[hnil]at this;simp at this
  ·obtain⟨hi1,o,hio,hi2⟩:=mem_ready.1 hi
   have hlt:=(Array.getElem?_eq_some_iff.1 hio).1
   have hah:∀k∈aheadOf ops i,listed.getD k false=true:=by
    intro k hk
    simp only[aheadOf,hio,List.mem_map,List.mem_filter]at hk
    obtain⟨e,⟨he,hbd⟩,rfl⟩:=hk
    exact hi2 e (by simpa using he) hbd
   have one:∀{c d:Nat} {sc:SOper} {r:List (Nat×SOper)},c≠d→(pre++(c,sc)::r).length=fuel+1→Inv P ops nt τ (pre++(c,sc)::r) listed→(pre++(c,sc)::r).Pairwise (AfterX ops c d)→
     sops P Qp (fun σ1 h1=>sops P Qp K (sc::r.map (·.2)) σ1 h1) (pre.map (·.2)) σ w.heap→i=c→wpOpIn (FW ro) n P ops Q i (wpAnyIn (FW ro) n P .any ops Q fuel (listed.setIfInBounds i true)) ac w:=by
    rintro c d sc r _ hlen v hpw hs rfl
    have hin:i∉pre.map (·.1):=by
     have hnd:=v.nd
     simp only[List.map_append,List.map_cons]at hnd
     exact fun hm=>(List.nodup_append.1 hnd).2.2 i hm i (by simp) rfl
    have hs1:=sops_append (pre.map (·.2)) (sc::r.map (·.2)) σ w.heap hs
    have hs2:=move (K:=K) v hsz hcl hah hpw hin (by simpa using hs1)
    refine opr_sound (v.good (i,sc) (by simp)) hr hτ (v.dst (i,sc) (by simp)) hs2 (fun σ' a' w' hr' hτ' hb' hk=>?_) (fun ch w' hb' hk=>hQ ch ac w' hτ (hb.trans hb') hk)
    have v':=v.step hsz hlt
    refine any_sound hN hQ fuel (pre++r) (listed.setIfInBounds i true) σ' a' w' (by simp at hlen⊢;omega) v'.good v'.dst v'.nd v'.mem (by simp[hsz]) (closed_step hcl hah) v'.topo ?_ hr' hτ' (hb.trans hb') hk
    refine List.Pairwise.imp_of_mem ?_ (hpw.sublist (List.Sublist.append_left (List.sublist_cons_self _ _) _))
    rintro x y hx _ (h|⟨h1,_⟩)
    ·exact h
    ·exfalso
     have hnd:=v.nd
     simp only[List.map_append,List.map_cons]at hnd
     have hnd':=List.nodup_append.1 hnd
     rcases List.mem_append.1 hx with hx|hx
     ·exact hnd'.2.2 x.1 (List.mem_map.2 ⟨x,hx,rfl⟩) i (by simp) h1
     ·exact(List.nodup_cons.1 hnd'.2.1).1 (by rw[←h1];exact List.mem_map.2 ⟨x,hx,rfl⟩)
   by_cases hia:i=a
   ·exact one hab hlen1 v1 hpw1 (sops_mono (fun σ1 h1 h=>h.1) _ _ _ hs) hia
   by_cases hib:i=b
   ·exact one (Ne.symm hab) hlen2 v2 hpw2 (sops_mono (fun σ1 h1 h=>h.2) _ _ _ hs) hib
   have hmem:=(v1.mem i hlt).1 hi1
   simp only[List.map_append,List.map_cons,List.mem_append,List.mem_cons]at hmem
   rcases hmem with hmem|rfl|hmem
   ·obtain⟨p,hp,hpi⟩:=List.mem_map.1 hmem
    obtain⟨p1,p2,rfl⟩:=List.append_of_mem hp
    obtain⟨j,s⟩:=p
    simp only at hpi
    subst hpi
    have e1:(p1++(j,s)::p2)++(a,sa)::r1=p1++(j,s)::(p2++(a,sa)::r1):=by simp
    have e2:(p1++(j,s)::p2)++(b,sb)::r2=p1++(j,s)::(p2++(b,sb)::r2):=by simp
    rw[e1]at hlen1 v1 hpw1
    rw[e2]at hlen2 v2 hpw2
    have hloose:∀x∈p1.map (·.2),loose x s=true:=by
     intro x hx
     obtain⟨q,hq,rfl⟩:=List.mem_map.1 hx
     have hp2:=(List.pairwise_append.1 hpw1).2.2 q hq (j,s) (by simp)
     rcases hp2 with(hwait|hl)|⟨h1,h2⟩
     ·exact(v1.undone hsz (q:=q) (by simp[hq]) (hwait _ hcl hah)).elim
     ·exact hl
     ·rcases h2 with h2|h2
      ·exact absurd h2 hib
      ·exact(v2.undone hsz (q:=(b,sb)) (by simp) (h2 _ hcl hah)).elim
    simp only[List.map_append,List.map_cons]at hs
    have hs2:=sops_front s (p2.map (·.2)) (p1.map (·.2)) σ w.heap hloose hs
    simp only[sops]at hs2
    refine opr_sound (v1.good (j,s) (by simp)) hr hτ (v1.dst (j,s) (by simp)) hs2 (fun σ' a' w' hr' hτ' hb' hk=>?_) (fun ch w' hb' hk=>hQ ch ac w' hτ (hb.trans hb') hk)
    have f1:p1++(p2++(a,sa)::r1)=(p1++p2)++(a,sa)::r1:=by simp
    have f2:p1++(p2++(b,sb)::r2)=(p1++p2)++(b,sb)::r2:=by simp
    have u1:=v1.step hsz hlt
    have u2:=v2.step hsz hlt
    rw[f1]at u1
    rw[f2]at u2
    refine ih (p1++p2) (listed.setIfInBounds j true) σ' a' w' (by simp at hlen1⊢;omega) (by simp at hlen2⊢;omega) u1 u2 (by simp[hsz]) (closed_step hcl hah) ?_ ?_ hr' hτ' (hb.trans hb') (by rw[List.map_append];exact hk)
    ·rw[←f1];exact hpw1.sublist (List.Sublist.append_left (List.sublist_cons_self _ _) _)
    ·rw[←f2];exact hpw2.sublist (List.Sublist.append_left (List.sublist_cons_self _ _) _)
   ·exact absurd rfl hia
   ·exfalso
    obtain⟨p,hp,hpi⟩:=List.mem_map.1 hmem
    rcases hlate p hp with h|h|h
    ·exact hib (by rw[←hpi];exact h)
    ·exact v1.undone hsz (q:=(a,sa)) (by simp) (h _ hcl (by rw[hpi];exact hah))
    ·exact v2.undone hsz (q:=(b,sb)) (by simp) (h _ hcl (by rw[hpi];exact hah))
end Go.Sx
namespace Go.Sx
open Go
def hide (l:List SOper) (σ:Env):Env:=fun t=>bif hasN t (dstsOf l)then none else σ t
def hideN (l:List Nat) (σ:Env):Env:=fun t=>bif hasN t l then none else σ t
def mk:List (Nat×Value)→Env
 |[]=>fun _=>none
 |(n,v)::r=>upd (mk r) (some n) v
def SubL (σ:Env):List (Nat×Value)→Prop
 |[]=>True
 |(n,v)::r=>σ n=some v∧SubL σ r
theorem sub_mk {σ:Env}:∀{l:List (Nat×Value)},SubL σ l→Sub (mk l) σ
 |[],_=>fun t v h=>by simp[mk]at h
 |(n,u)::r,⟨h1,h2⟩=>fun t v h=>by
  by_cases ht:t=n
  ·subst ht
   simp[mk,upd]at h
   rw[h1,h]
  ·refine sub_mk h2 t v ?_
   rw[←h];exact(upd_ne (by intro e;exact ht (by simpa using e.symm))).symm
abbrev Post:=Exit→Env→List Deferred→Heap→Prop
def thenQ (next:Env→List Deferred→Heap→Prop) (Q:Post):Post
 |.normal,σ,ds,h=>next σ ds h
 |e,σ,ds,h=>Q e σ ds h
def blockQ (id:Nat) (Q:Post):Post
 |.exit id',σ,ds,h=>if id'=id then Q .normal σ ds h else Q (.exit id') σ ds h
 |e,σ,ds,h=>Q e σ ds h
def scopeQ (Q:Post):Post
 |.goto _,_,_,_=>False
 |e,σ,ds,h=>Q e σ ds h
def jumpQ (l:Nat) (next:Env→List Deferred→Heap→Prop) (Q:Post):Post
 |.goto l',σ,ds,h=>l'=l∧next σ ds h
 |e,σ,ds,h=>Q e σ ds h
def updL (σ:Env):List Nat→List Value→Env
 |p::ps,v::vs=>updL (upd σ (some p) v) ps vs
 |_,_=>σ
structure LoopB (h:Heap) (l:Nat) (r:Loop) (st:LoopState) (p:Option Code):Prop where
 at_:h[l]? =some (.loop {r with state:=st,pending:=p})
structure Turn (h h':Heap) (l:Nat) (r:Loop) (st:LoopState) (p:Option Code):Prop where
 rec_:LoopB h' l r st p
 size:h'.size=h.size
 old:∀k,k≠l→h'[k]? =h[k]?
def roundQ (l:Nat) (r:Loop) (R:Ending→Heap→Prop):Post
 |.normal,_,_,h=>LoopB h l r .busy none∧∀h',Turn h h' l r .ready none→R (.returned (.bool true)) h'
 |.ret,_,_,h=>LoopB h l r .busy none∧∀h',Turn h h' l r .done (some .ret)→R (.returned (.bool false)) h'
 |.exit id,_,_,h=>LoopB h l r .busy none∧∀h',Turn h h' l r .done (some (.exit id))→R (.returned (.bool false)) h'
 |_,_,_,_=>False
def endQ (l D:Nat) (r:Loop) (Q:Post) (σ:Env) (ds:List Deferred):Ending→Heap→Prop
 |.returned _,h=>∃st p,LoopB h l r st p∧st≠.busy∧∀h',Turn h h' l r .exhausted p→
  match p with
  |none=>Q .normal σ ({target:=.collected D,args:= #[]}::ds) h'
  |some .ret=>Q .ret σ ({target:=.collected D,args:= #[]}::ds) h'
  |some (.exit id)=>Q (.exit id) σ ({target:=.collected D,args:= #[]}::ds) h'
  |_=>False
 |_,_=>False
def chkOp (P:Program) (σ:Env) (h:Heap) (x:SOper):Prop:=sopr P σ h x (fun σ' h'=>h'=h∧σ'=σ) (fun _ _=>False)
def stree (P:Program) (Qp:List PanicEntry→Heap→Prop) (K:Env→Heap→Prop):OTree→Env→Heap→Prop
 |.done,σ,h=>K σ h
 |.one s t,σ,h=>sopr P σ h s (stree P Qp K t) Qp
 |.both a b,σ,h=>stree P Qp K a σ h∧stree P Qp K b σ h
 |.chk l t,σ,h=>(∀x∈l,cls x.op≤1∧chkOp P σ h x)∧stree P Qp K t σ h
def swp (P:Program):SCode→Post→Env→List Deferred→Heap→Prop
 |.skip,Q,σ,ds,h=>Q .normal σ ds h
 |.ops l,Q,σ,ds,h=>sops P (fun ch h'=>Q (.panic ch) (hide l σ) ds h') (fun σ' h'=>Q .normal σ' ds h') l σ h
 |.two pre l1 l2,Q,σ,ds,h=>
  let Qp:List PanicEntry→Heap→Prop:=fun ch h'=>Q (.panic ch) (hide (pre++(l1++l2)) σ) ds h'
  sops P Qp (fun σ1 h1=>sops P Qp (fun σ' h'=>Q .normal σ' ds h') l1 σ1 h1∧sops P Qp (fun σ' h'=>Q .normal σ' ds h') l2 σ1 h1) pre σ h
 |.seq a b,Q,σ,ds,h=>swp P a (thenQ (swp P b Q) Q) σ ds h
 |.cond c a b,Q,σ,ds,h=>match ev σ c with
  |some (.bool true)=>swp P a Q σ ds h
  |some (.bool false)=>swp P b Q σ ds h
  |_=>False
 |.block id c,Q,σ,ds,h=>swp P c (blockQ id Q) σ ds h
 |.loop c,Q,σ,ds,h=>∃(ι:Type) (E:ι→List (Nat×Value)) (I:ι→Heap→Prop) (μ:ι→Nat) (i:ι),SubL σ (E i)∧I i h∧
  ∀i h,I i h→swp P c (thenQ (fun σ' ds' h'=>ds'=ds∧∃i',SubL σ' (E i')∧I i' h'∧μ i'<μ i) Q) (mk (E i)) ds h
 |.scope c,Q,σ,ds,h=>swp P c (scopeQ Q) σ ds h
 |.exit id,Q,σ,ds,h=>Q (.exit id) σ ds h
 |.ret,Q,σ,ds,h=>Q .ret σ ds h
 |.rangeF g ps a b,Q,σ,ds,h=>match ev σ g with
  |some (.func (.func f) fi cap)=>∀(l D:Nat) (r:Loop) (h1:Heap),D=h.size→l=h.size+1→h1.size=h.size+2→(∀k,k<h.size→h1[k]? =h[k]?)→
   h1[D]? =some (.deferred (some []))→LoopB h1 l r .ready none→
   (∀(h2:Heap) (args:List Value) (R:Ending→Heap→Prop),LoopB h2 l r .ready none→args.length=ps.length→
    swp P a (thenQ (fun σ' ds' h3=>LoopB h3 l r .ready none∧∀h4,Turn h3 h4 l r .busy none→swp P b (roundQ l r R) σ' ds' h4) (fun _ _ _ _=>False)) (updL σ ps args) [] h2→YieldH P l args h2 R)→
   CallsH P f (fi.toList++[.func (.yield l) #[] #[]]++cap.toList) h1 (endQ l D r Q σ ds)
  |_=>False
 |.dfr l d x args,Q,σ,ds,h=>sops P (fun ch h'=>Q (.panic ch) (hide l σ) ds h') (fun σ' h'=>match ev σ' x,evs σ' args with
  |some (.func (.func f) fi cap),some vs=>Q .normal (upd σ' d undef) ({target:=.fn (.func f) cap,args:=⟨fi.toList++vs⟩}::ds) h'
  |_,_=>False) l σ h
 |.rcv _,_,_,_,_=>False
 |.label _,Q,σ,ds,h=>Q .normal σ ds h
 |.goto l,Q,σ,ds,h=>Q (.goto l) σ ds h
 |.scopeG c l r,Q,σ,ds,h=>swp P c (jumpQ l (swp P r (scopeQ Q)) Q) σ ds h
 |.tree l t,Q,σ,ds,h=>stree P (fun ch h'=>Q (.panic ch) (hideN l σ) ds h') (fun σ' h'=>Q .normal σ' ds h') t σ h
variable {P:Program} {σ σ':Env} {ops:Array Oper} {nt:Nat} {ds:List Deferred}
def Lift (nt:Nat) (w0:World) (Q:Post):Exit→Act→World→Prop:=fun e a w=>∃σ ds,Rel σ nt ds a∧SameB w0 w∧Q e σ ds w.heap
theorem coperAll_get:∀(l:List Oper) (ss:List SOper),coperAll P ops nt l=some ss→ss.length=l.length∧∀(i:Nat) (o:Oper),l[i]? =some o→∃s,ss[i]? =some s∧coper P ops nt o=some s
 |[],ss,h=>by simp[coperAll]at h;subst h;simp
 |o::l,ss,h=>by
  simp only[coperAll]at h
  split at h
  ·rename_i s sl hs hl
   simp at h;subst h
   obtain⟨h1,h2⟩:=coperAll_get l sl hl
   refine⟨by simp[h1],fun i o' ho=>?_⟩
   cases i with
   |zero=>simp at ho;subst ho;exact⟨s,by simp,hs⟩
   |succ i=>simpa using h2 i o' (by simpa using ho)
  ·simp at h
theorem mem_dstsOf:∀(l:List SOper) (s:SOper) (d:Nat),s∈l→s.dst=some d→d∈dstsOf l
 |[],s,d,hs,_=>by simp at hs
 |o::l,s,d,hs,hd=>by
  simp only[dstsOf]
  rcases List.mem_cons.1 hs with rfl|hs
  ·rw[hd];simp
  ·have:=mem_dstsOf l s d hs hd
   split
   ·simp[this]
   ·exact this
theorem hide_dst {l:List SOper} {s:SOper} {d:Nat} (hs:s∈l) (hd:s.dst=some d):hide l σ d=none:=by
 unfold hide
 rw[(hasN_iff d _).2 (mem_dstsOf l s d hs hd)]
 rfl
theorem hide_sub (l:List SOper):Sub (hide l σ) σ:=by
 intro t v h
 unfold hide at h
 cases hn:hasN t (dstsOf l)<;>simp[hn]at h
 exact h
theorem fine1_spec {ss:List SOper} {cl:List (List Nat)} {x:Nat}:∀{l:List Nat},fine1 ss cl x l=true→∀y∈l,hasN x (cl.getD y [])=true∨∃a b,ss[x]? =some a∧ss[y]? =some b∧loose a b=true
 |[],_,y,hy=>by simp at hy
 |z::l,h,y,hy=>by
  simp only[fine1,Bool.and_eq_true,Bool.or_eq_true]at h
  rcases List.mem_cons.1 hy with rfl|hy
  ·rcases h.1 with h1|h1
   ·exact .inl h1
   ·split at h1
    ·rename_i a b ha hb;exact .inr ⟨a,b,ha,hb,h1⟩
    ·simp at h1
  ·exact fine1_spec h.2 y hy
theorem pickAll_spec {ss:List SOper}:∀{l:List Nat} {sl:List SOper},pickAll ss l=some sl→sl.length=l.length∧∀(k i:Nat),l[k]? =some i→∃s,sl[k]? =some s∧ss[i]? =some s
 |[],sl,h=>by simp[pickAll]at h;subst h;simp
 |i::l,sl,h=>by
  simp only[pickAll]at h
  split at h
  ·rename_i s r hs hr
   simp at h;subst h
   obtain⟨h1,h2⟩:=pickAll_spec hr
   refine⟨by simp[h1],fun k j hk=>?_⟩
   cases k with
   |zero=>simp at hk;subst hk;exact⟨s,by simp,hs⟩
   |succ k=>simpa using h2 k j (by simpa using hk)
  ·simp at h
theorem nodupN_iff:∀{l:List Nat},nodupN l=true→l.Nodup
 |[],_=>List.nodup_nil
 |x::l,h=>by
  simp only[nodupN,Bool.and_eq_true,Bool.not_eq_true']at h
  refine List.nodup_cons.2 ⟨fun hm=>?_,nodupN_iff h.2⟩
  rw[(hasN_iff x l).2 hm]at h;simp at h
theorem topoN_spec:∀{l done:List Nat},topoN (aheads ops) done l=true→Topo ops (fun k=>k∈done) l
 |[],_,_=>trivial
 |x::l,done,h=>by
  simp only[topoN,Bool.and_eq_true,List.all_eq_true,hasN_iff]at h
  refine⟨fun k hk=>h.1 k (by rw[aheads_getD];exact hk),(topoN_spec h.2).mono fun k hk=>?_⟩
  rcases List.mem_cons.1 hk with rfl|hk
  ·exact .inr rfl
  ·exact .inl hk
theorem pairwise_of_fine {ss:List SOper} {cl:List (List Nat)} {R:Nat×SOper→Nat×SOper→Prop}
  (hR:∀x y a b,ss[x]? =some a→ss[y]? =some b→(hasN x (cl.getD y [])=true∨loose a b=true)→R (x,a) (y,b)):
  ∀{l:List Nat} {sl:List SOper},fine ss cl l=true→pickAll ss l=some sl→(l.zip sl).Pairwise R
 |[],sl,_,_=>by simp
 |x::l,sl,hf,hp=>by
  simp only[pickAll]at hp
  split at hp
  ·rename_i s r hs hr
   simp at hp;subst hp
   simp only[fine,Bool.and_eq_true]at hf
   simp only[List.zip_cons_cons]
   refine List.pairwise_cons.2 ⟨fun q hq=>?_,pairwise_of_fine hR hf.2 hr⟩
   obtain⟨y,b⟩:=q
   have hy:y∈l:=(List.of_mem_zip hq).1
   obtain⟨k,hk,hkq⟩:=List.getElem_of_mem hq
   have hl:=pickAll_spec hr
   have hlk:k<l.length:=by simp at hk;omega
   have hy1:l[k]? =some y:=by
    rw[List.getElem_zip]at hkq
    simp at hkq;rw[List.getElem?_eq_getElem hlk];simp[hkq.1]
   obtain⟨s2,hs2,hs3⟩:=hl.2 k y hy1
   have hb:r[k]? =some b:=by
    rw[List.getElem_zip]at hkq
    simp at hkq
    have:k<r.length:=by rw[hl.1];exact hlk
    rw[List.getElem?_eq_getElem this];simp[hkq.2]
   rw[hs2]at hb;simp at hb;subst hb
   rcases fine1_spec hf.1 y hy with h1|⟨a,b,ha,hb,hab⟩
   ·exact hR x y s s2 hs hs3 (.inl h1)
   ·rw[hs]at ha;rw[hs3]at hb
    simp at ha hb;subst ha;subst hb
    exact hR x y s s2 hs hs3 (.inr hab)
  ·simp at hp
theorem map_zip_fst {α β:Type}:∀(l:List α) (r:List β),r.length=l.length→(l.zip r).map (·.1)=l
 |[],r,h=>by simp
 |x::l,[],h=>by simp at h
 |x::l,y::r,h=>by simp[map_zip_fst l r (by simpa using h)]
theorem map_zip_snd {α β:Type}:∀(l:List α) (r:List β),r.length=l.length→(l.zip r).map (·.2)=r
 |[],[],h=>by simp
 |[],y::r,h=>by simp at h
 |x::l,[],h=>by simp at h
 |x::l,y::r,h=>by simp[map_zip_snd l r (by simpa using h)]
theorem len_le:∀(n:Nat) (l:List Nat),l.Nodup→(∀x∈l,x<n)→l.length≤n
 |0,l,_,h=>by
  cases l with
  |nil=>simp
  |cons x l=>exact absurd (h x (by simp)) (by omega)
 |n+1,l,hn,h=>by
  have ih:=len_le n (l.erase n) (hn.erase n) (fun x hx=>by
   have h1:=hn.mem_erase_iff.1 hx
   have:=h x h1.2
   omega)
  have he:=List.length_erase (a:=n) (l:=l)
  split at he<;>omega
theorem ordered_sound {ss l:List SOper} (hm:P.follows .mixedOrders=true) (hlen:ss.length=ops.size) (hgood:∀i s,ss[i]? =some s→Good P ops nt i s) (ho:ordered ss (aheads ops) ops.size=some l)
  {ro:Option Nat} {n id:Nat} {Q:Post} {a:Act} {w:World} (hr:Rel σ nt ds a)
  (h:sops P (fun ch h'=>Q (.panic ch) (hide l σ) ds h') (fun σ' h'=>Q .normal σ' ds h') l σ w.heap):
  (Code.region id ops true).wpIn (FW ro) n P (Lift nt w Q) a w:=by
 unfold ordered at ho
 simp only at ho
 split at ho
 ·rename_i hc
  obtain⟨h1,h2,h3,h4,h5⟩:=hc
  generalize hord:order ss (aheads ops) ops.size [] (List.range ops.size)=ord at*
  refine wpIn_region_any hm ?_
  have hps:=pickAll_spec ho
  have e1:(ord.zip l).map (·.1)=ord:=map_zip_fst ord l hps.1
  have e2:(ord.zip l).map (·.2)=l:=map_zip_snd ord l hps.1
  have hnd:=nodupN_iff h2
  refine any_sound (Qp:=fun ch h'=>Q (.panic ch) (hide l σ) ds h') (K:=fun σ' h'=>Q .normal σ' ds h') (τ:=hide l σ) (ds:=ds) (nt:=nt) (w0:=w)
   (fun σ' a' w' hr' hb hk=>⟨σ',ds,hr',hb,hk⟩) (fun ch a' w' hτ hb hk=>⟨_,ds,hτ,hb,hk⟩) ops.size (ord.zip l) (Array.replicate ops.size false) σ a _ ?_ ?_ ?_ ?_ ?_ (by simp) ?_ ?_ ?_ hr (hr.sub (hide_sub l)) ⟨rfl,rfl,rfl⟩ ?_
  ·simp[h1,hps.1]
  ·rintro⟨i,s⟩ hp
   obtain⟨k,hk,hkq⟩:=List.getElem_of_mem hp
   have hlk:k<ord.length:=by simp at hk;omega
   rw[List.getElem_zip]at hkq
   simp at hkq
   obtain⟨s2,hs2,hs3⟩:=hps.2 k i (by rw[List.getElem?_eq_getElem hlk];simp[hkq.1])
   have hll:k<l.length:=by rw[hps.1];exact hlk
   rw[List.getElem?_eq_getElem hll]at hs2
   simp[hkq.2]at hs2
   subst hs2
   exact hgood i _ hs3
  ·rintro⟨i,s⟩ hp d hd
   exact hide_dst (List.of_mem_zip hp).2 hd
  ·rw[e1];exact hnd
  ·intro i hi
   rw[e1]
   have hall:∀i,i<ops.size→i∈ord:=by
    intro i hi
    by_cases hin:i∈ord
    ·exact hin
    ·have:=len_le ops.size (i::ord) (List.nodup_cons.2 ⟨hin,hnd⟩) (fun x hx=>by
      rcases List.mem_cons.1 hx with rfl|hx
      ·exact hi
      ·have:=List.all_eq_true.1 h3 x hx
       exact Nat.le_of_ble_eq_true this)
     simp at this
     omega
   simp[hi,hall i hi]
  ·intro j hj
   simp only[Array.getD_eq_getD_getElem?,Array.getElem?_replicate]at hj
   split at hj<;>simp at hj
  ·rw[e1]
   refine(topoN_spec h5).mono fun k hk=>by simp at hk
  ·refine pairwise_of_fine (cl:=(List.range ops.size).map fun i=>closure (aheads ops) (ops.size*ops.size+ops.size) ((aheads ops).getD i []) []) ?_ h4 ho
   intro x y sa sb hx hy hor
   rcases hor with hor|hor
   ·refine .inl fun L hcl hall=>?_
    have hy':y<ops.size:=by rw[←hlen];exact(List.getElem?_eq_some_iff.1 hy).1
    rw[hasN_iff]at hor
    simp[List.getD,hy']at hor
    refine closure_sound hcl _ _ _ ?_ ?_ x hor
    ·intro k hk
     rw[←List.getD_eq_getElem?_getD,aheads_getD]at hk
     exact hall k hk
    ·simp
   ·exact .inr hor
  ·rw[e2];exact h
 ·simp at ho
theorem fineX1_spec {ss:List SOper} {cl:List (List Nat)} {a b x:Nat}:∀{l:List Nat},fineX1 ss cl a b x l=true→∀y∈l,hasN x (cl.getD y [])=true∨(∃s t,ss[x]? =some s∧ss[y]? =some t∧loose s t=true)∨(x=a∧(y=b∨hasN b (cl.getD y [])=true))
 |[],_,y,hy=>by simp at hy
 |z::l,h,y,hy=>by
  simp only[fineX1,Bool.and_eq_true,Bool.or_eq_true]at h
  rcases List.mem_cons.1 hy with rfl|hy
  ·rcases h.1 with(h1|h1)|h1
   ·exact .inl h1
   ·split at h1
    ·rename_i s t hs ht;exact .inr (.inl ⟨s,t,hs,ht,h1⟩)
    ·simp at h1
   ·exact .inr (.inr ⟨Nat.eq_of_beq_eq_true h1.1,h1.2.imp Nat.eq_of_beq_eq_true id⟩)
  ·exact fineX1_spec h.2 y hy
theorem pairwise_of_fineX {ss:List SOper} {cl:List (List Nat)} {c d:Nat} {R:Nat×SOper→Nat×SOper→Prop}
  (hR:∀x y a b,ss[x]? =some a→ss[y]? =some b→(hasN x (cl.getD y [])=true∨loose a b=true∨(x=c∧(y=d∨hasN d (cl.getD y [])=true)))→R (x,a) (y,b)):
  ∀{l:List Nat} {sl:List SOper},fineX ss cl c d l=true→pickAll ss l=some sl→(l.zip sl).Pairwise R
 |[],sl,_,_=>by simp
 |x::l,sl,hf,hp=>by
  simp only[pickAll]at hp
  split at hp
  ·rename_i s r hs hr
   simp at hp;subst hp
   simp only[fineX,Bool.and_eq_true]at hf
   simp only[List.zip_cons_cons]
   refine List.pairwise_cons.2 ⟨fun q hq=>?_,pairwise_of_fineX hR hf.2 hr⟩
   obtain⟨y,b⟩:=q
   have hy:y∈l:=(List.of_mem_zip hq).1
   obtain⟨k,hk,hkq⟩:=List.getElem_of_mem hq
   have hl:=pickAll_spec hr
   have hlk:k<l.length:=by simp at hk;omega
   have hy1:l[k]? =some y:=by
    rw[List.getElem_zip]at hkq
    simp at hkq;rw[List.getElem?_eq_getElem hlk];simp[hkq.1]
   obtain⟨s2,hs2,hs3⟩:=hl.2 k y hy1
   have hb:r[k]? =some b:=by
    rw[List.getElem_zip]at hkq
    simp at hkq
    have:k<r.length:=by rw[hl.1];exact hlk
    rw[List.getElem?_eq_getElem this];simp[hkq.2]
   rw[hs2]at hb;simp at hb;subst hb
   rcases fineX1_spec hf.1 y hy with h1|⟨a,b,ha,hb,hab⟩|h1
   ·exact hR x y s s2 hs hs3 (.inl h1)
   ·rw[hs]at ha;rw[hs3]at hb
    simp at ha hb;subst ha;subst hb
    exact hR x y s s2 hs hs3 (.inr (.inl hab))
   ·exact hR x y s s2 hs hs3 (.inr (.inr h1))
  ·simp at hp
theorem pickAll_append {ss:List SOper}:∀{l m:List Nat} {sl sm:List SOper},pickAll ss l=some sl→pickAll ss m=some sm→pickAll ss (l++m)=some (sl++sm)
 |[],m,sl,sm,h1,h2=>by simp[pickAll]at h1;subst h1;exact h2
 |x::l,m,sl,sm,h1,h2=>by
  simp only[pickAll]at h1
  split at h1
  ·rename_i s r hs hr
   simp at h1;subst h1
   simp only[List.cons_append,pickAll,hs,pickAll_append hr h2]
  ·simp at h1
theorem waits_of {a y:Nat} (hy:y<ops.size) (h:hasN a (((List.range ops.size).map fun i=>closure (aheads ops) (ops.size*ops.size+ops.size) ((aheads ops).getD i []) []).getD y [])=true):Waits ops a y:=by
 intro L hcl hall
 rw[hasN_iff]at h
 simp[List.getD,hy]at h
 refine closure_sound hcl _ _ _ ?_ ?_ a h
 ·intro k hk
  rw[←List.getD_eq_getElem?_getD,aheads_getD]at hk
  exact hall k hk
 ·simp
theorem inv_start {ss sl:List SOper} {ord:List Nat} {a b:Nat} {τ:Env} (hlen:ss.length=ops.size) (hgood:∀i s,ss[i]? =some s→Good P ops nt i s)
  (hok:okX ss (aheads ops) ((List.range ops.size).map fun i=>closure (aheads ops) (ops.size*ops.size+ops.size) ((aheads ops).getD i []) []) ops.size a b ord=true) (hp:pickAll ss ord=some sl)
  (hτ:∀s∈sl,∀d,s.dst=some d→τ d=none):
  (ord.zip sl).length=ops.size∧Inv P ops nt τ (ord.zip sl) (Array.replicate ops.size false)∧(ord.zip sl).Pairwise (AfterX ops a b):=by
 simp only[okX,Bool.and_eq_true]at hok
 obtain⟨⟨⟨⟨h1,h2⟩,h3⟩,h4⟩,h5⟩:=hok
 have h1:=Nat.eq_of_beq_eq_true h1
 have hps:=pickAll_spec hp
 have e1:(ord.zip sl).map (·.1)=ord:=map_zip_fst ord sl hps.1
 have hnd:=nodupN_iff h2
 refine⟨by simp[h1,hps.1],⟨?_,?_,by rw[e1];exact hnd,?_,?_⟩,?_⟩
 ·rintro⟨i,s⟩ hp
  obtain⟨k,hk,hkq⟩:=List.getElem_of_mem hp
  have hlk:k<ord.length:=by simp at hk;omega
  rw[List.getElem_zip]at hkq
  simp at hkq
  obtain⟨s2,hs2,hs3⟩:=hps.2 k i (by rw[List.getElem?_eq_getElem hlk];simp[hkq.1])
  have hll:k<sl.length:=by rw[hps.1];exact hlk
  rw[List.getElem?_eq_getElem hll]at hs2
  simp[hkq.2]at hs2
  subst hs2
  exact hgood i _ hs3
 ·rintro⟨i,s⟩ hp d hd
  exact hτ s (List.of_mem_zip hp).2 d hd
 ·intro i hi
  rw[e1]
  have hall:i∈ord:=by
   by_cases hin:i∈ord
   ·exact hin
   ·have:=len_le ops.size (i::ord) (List.nodup_cons.2 ⟨hin,hnd⟩) (fun x hx=>by
     rcases List.mem_cons.1 hx with rfl|hx
     ·exact hi
     ·have:=List.all_eq_true.1 h3 x hx
      exact Nat.le_of_ble_eq_true this)
    simp at this
    omega
  simp[hi,hall]
 ·rw[e1]
  refine(topoN_spec h5).mono fun k hk=>by simp at hk
 ·refine pairwise_of_fineX ?_ h4 hp
  intro x y sa sb hx hy hor
  rcases hor with hor|hor|hor
  ·refine .inl (.inl fun L hcl hall=>?_)
   have hy':y<ops.size:=by rw[←hlen];exact(List.getElem?_eq_some_iff.1 hy).1
   rw[hasN_iff]at hor
   simp[List.getD,hy']at hor
   refine closure_sound hcl _ _ _ ?_ ?_ x hor
   ·intro k hk
    rw[←List.getD_eq_getElem?_getD,aheads_getD]at hk
    exact hall k hk
   ·simp
  ·exact .inl (.inr hor)
  ·have hy':y<ops.size:=by rw[←hlen];exact(List.getElem?_eq_some_iff.1 hy).1
   exact .inr ⟨hor.1,hor.2.imp id (waits_of hy')⟩
theorem lateX_spec {cl:List (List Nat)} {a b:Nat}:∀{l:List Nat},lateX cl a b l=true→∀y∈l,y=b∨hasN a (cl.getD y [])=true∨hasN b (cl.getD y [])=true
 |[],_,y,hy=>by simp at hy
 |z::l,h,y,hy=>by
  simp only[lateX,Bool.and_eq_true,Bool.or_eq_true]at h
  rcases List.mem_cons.1 hy with rfl|hy
  ·rcases h.1 with(h1|h1)|h1
   ·exact .inl (Nat.eq_of_beq_eq_true h1)
   ·exact .inr (.inl h1)
   ·exact .inr (.inr h1)
  ·exact lateX_spec h.2 y hy
theorem zip_app {α β:Type}:∀(l:List α) (l':List β) (m:List α) (m':List β),l'.length=l.length→(l++m).zip (l'++m')=l.zip l'++m.zip m'
 |[],[],m,m',_=>rfl
 |[],_::_,_,_,h=>by simp at h
 |_::_,[],_,_,h=>by simp at h
 |x::l,y::l',m,m',h=>by simp[zip_app l l' m m' (by simpa using h)]
theorem pairIn_spec {ss:List SOper} {as cl:List (List Nat)} {n:Nat} {x:List SOper×List SOper×List SOper}:∀{l:List (Nat×Nat)},pairIn ss as cl n l=some x→∃a b,pairAt ss as cl n a b=some x
 |[],h=>by simp[pairIn]at h
 |(a,b)::r,h=>by
  simp only[pairIn]at h
  split at h
  ·rename_i y hy
   exact⟨a,b,by rw[hy];exact h⟩
  ·exact pairIn_spec h
theorem ordered2_sound {ss sp s1 s2:List SOper} (hm:P.follows .mixedOrders=true) (hlen:ss.length=ops.size) (hgood:∀i s,ss[i]? =some s→Good P ops nt i s) (ho:ordered2 ss (aheads ops) ops.size=some (sp,s1,s2))
  {ro:Option Nat} {n id:Nat} {Q:Post} {ac:Act} {w:World} (hr:Rel σ nt ds ac)
  (h:sops P (fun ch h'=>Q (.panic ch) (hide (sp++(s1++s2)) σ) ds h')
   (fun σ1 h1=>sops P (fun ch h'=>Q (.panic ch) (hide (sp++(s1++s2)) σ) ds h') (fun σ' h'=>Q .normal σ' ds h') s1 σ1 h1∧sops P (fun ch h'=>Q (.panic ch) (hide (sp++(s1++s2)) σ) ds h') (fun σ' h'=>Q .normal σ' ds h') s2 σ1 h1) sp σ w.heap):
  (Code.region id ops true).wpIn (FW ro) n P (Lift nt w Q) ac w:=by
 unfold ordered2 at ho
 obtain⟨a,b,ho⟩:=pairIn_spec ho
 unfold pairAt at ho
 simp only at ho
 generalize order ss (aheads ops) ops.size [] _=p at ho
 generalize hr1:order ss (aheads ops) ops.size (a::p) _=r1 at ho
 generalize hr2:order ss (aheads ops) ops.size (b::p) _=r2 at ho
 split at ho
 ·rename_i hc
  obtain⟨h0,h1,h2,h3⟩:=hc
  split at ho
  ·rename_i tp t1 t2 hp hp1 hp2
   simp only[Option.some.injEq,Prod.mk.injEq]at ho
   obtain⟨rfl,rfl,rfl⟩:=ho
   refine wpIn_region_any hm ?_
   have q1:=pickAll_append hp hp1
   have q2:=pickAll_append hp hp2
   obtain⟨l1,v1,w1⟩:=inv_start (P:=P) (nt:=nt) (τ:=hide (tp++(t1++t2)) σ) hlen hgood h1 q1 (fun s hs d hd=>hide_dst (by simp only[List.mem_append]at hs⊢;rcases hs with h|h<;>simp[h]) hd)
   obtain⟨l2,v2,w2⟩:=inv_start (P:=P) (nt:=nt) (τ:=hide (tp++(t1++t2)) σ) hlen hgood h2 q2 (fun s hs d hd=>hide_dst (by simp only[List.mem_append]at hs⊢;rcases hs with h|h<;>simp[h]) hd)
   have lp:=(pickAll_spec hp).1
   rw[zip_app _ _ _ _ lp]at l1 v1 w1 l2 v2 w2
   -- the heads
   simp only[pickAll]at hp1 hp2
   split at hp1
   ·rename_i sa ra hsa hra
    simp at hp1;subst hp1
    split at hp2
    ·rename_i sb rb hsb hrb
     simp at hp2;subst hp2
     have hab:a≠b:=by
      rintro rfl
      simp at h0
     simp only[List.zip_cons_cons]at l1 v1 w1 l2 v2 w2
     have e2:(p.zip tp).map (·.2)=tp:=map_zip_snd _ _ lp
     have er1:(r1.zip ra).map (·.2)=ra:=map_zip_snd _ _ (pickAll_spec hra).1
     have er2:(r2.zip rb).map (·.2)=rb:=map_zip_snd _ _ (pickAll_spec hrb).1
     refine two_sound (Qp:=fun ch h'=>Q (.panic ch) (hide (tp++((sa::ra)++(sb::rb))) σ) ds h') (K:=fun σ' h'=>Q .normal σ' ds h') (τ:=hide (tp++((sa::ra)++(sb::rb))) σ) (ds:=ds) (nt:=nt) (w0:=w) (a:=a) (b:=b) hab
      (fun σ' a' w' hr' hb hk=>⟨σ',ds,hr',hb,hk⟩) (fun ch a' w' hτ hb hk=>⟨_,ds,hτ,hb,hk⟩) (r1:=r1.zip ra) (r2:=r2.zip rb) ?_ ops.size (p.zip tp) (Array.replicate ops.size false) σ ac _ l1 l2 v1 v2 (by simp) ?_ w1 w2 hr (hr.sub (hide_sub _)) ⟨rfl,rfl,rfl⟩ ?_
     ·rintro⟨y,s⟩ hq
      have hy:y∈r1:=(List.of_mem_zip hq).1
      have hlt:y<ops.size:=by
       have hg:=v1.good (y,s) (by simp[hq])
       obtain⟨o,_,ho,_⟩:=hg
       exact(Array.getElem?_eq_some_iff.1 ho).1
      rcases lateX_spec h3 y hy with h|h|h
      ·exact .inl h
      ·exact .inr (.inl (waits_of hlt h))
      ·exact .inr (.inr (waits_of hlt h))
     ·intro j hj
      simp only[Array.getD_eq_getD_getElem?,Array.getElem?_replicate]at hj
      split at hj<;>simp at hj
     ·rw[e2,er1,er2];exact h
    ·simp at hp2
   ·simp at hp1
  ·simp at ho
 ·simp at ho
end Go.Sx
