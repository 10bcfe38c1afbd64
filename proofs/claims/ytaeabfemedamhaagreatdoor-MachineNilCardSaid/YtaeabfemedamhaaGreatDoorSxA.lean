/-
  A small calculus of our own over the program's form: the state is the heap alone; operations with their types resolved. Definitions.
-/
import Derived.OrdersIn
import Derived.RangeFuncIn
import Derived.DefersIn
import Derived.KernelRfl
namespace Go.Sx
open Go

/-! ### The heap -/
abbrev Heap := Array Obj

def cell (h : Heap) (b o : Nat) : Option Value :=
  match h[b]? with
  | some (.cells c _ _) => c[o]?
  | _ => none

/-- The cells from o on in block b are vs. -/
def Cells (h : Heap) (b o : Nat) (vs : List Value) : Prop := ∀ i v, vs[i]? = some v → cell h b (o + i) = some v

/-- What a slice of n that begins at a holds. -/
def Src (h : Heap) (a : Option Addr) (n : Nat) (xs : List Value) : Prop :=
  match a with
  | none => n = 0
  | some ⟨b, o, none⟩ => Cells h b o xs
  | some ⟨_, _, some _⟩ => n = 0

/-- .. and it begins at no inner place. -/
def Src0 (h : Heap) (a : Option Addr) (n : Nat) (xs : List Value) : Prop :=
  match a with
  | none => n = 0
  | some ⟨b, o, none⟩ => Cells h b o xs
  | _ => False

/-- Block b is a row of cells that nothing freezes: just l. -/
def Blk (h : Heap) (b : Nat) (l : List Value) : Prop := ∃ e, h[b]? = some (.cells ⟨l⟩ e (0, 0))

/-- Block b is a map. -/
def MapB (h : Heap) (b : Nat) (es : List MapEntry) (clock : Nat) : Prop := h[b]? = some (.map ⟨es⟩ clock)

/-- Only the blocks of S have turned, of those that were there; new ones may have come. -/
structure Chg (S : List Nat) (h h' : Heap) : Prop where
  size : h.size ≤ h'.size
  old : ∀ k, k < h.size → k ∉ S → h'[k]? = h[k]?

/-- One block is new, just l. -/
structure Grow (h h' : Heap) (b : Nat) (l : List Value) : Prop where
  id : b = h.size
  blk : Blk h' b l
  size : h'.size = h.size + 1
  old : ∀ k, k < h.size → h'[k]? = h[k]?

/-- One new block, whatever it is. -/
structure GrowO (h h' : Heap) (b : Nat) (o : Obj) : Prop where
  id : b = h.size
  blk : h'[b]? = some o
  size : h'.size = h.size + 1
  old : ∀ k, k < h.size → h'[k]? = h[k]?

/-- Block b is a row of cells, laid out as of type t. -/
def TyB (h : Heap) (b : Nat) (t : TypeId) : Prop := ∃ c k, h[b]? = some (.cells c t k)

/-- One block has turned. -/
structure Put (h h' : Heap) (b : Nat) (l : List Value) : Prop where
  blk : Blk h' b l
  size : h'.size = h.size
  old : ∀ k, k ≠ b → h'[k]? = h[k]?
  ty : ∀ t, TyB h b t → TyB h' b t

structure PutO (h h' : Heap) (b : Nat) (o : Obj) : Prop where
  blk : h'[b]? = some o
  size : h'.size = h.size
  old : ∀ k, k ≠ b → h'[k]? = h[k]?

/-- Block b is a row of cells of which none is frozen (a conversion's mark may stand behind its end): just l. -/
def BlkW (h : Heap) (b : Nat) (l : List Value) : Prop := ∃ e k, h[b]? = some (.cells ⟨l⟩ e k) ∧ (k = (0, 0) ∨ k = (l.length, l.length + 1))
structure GrowW (h h' : Heap) (b : Nat) (l : List Value) : Prop where
  id : b = h.size
  blk : BlkW h' b l
  size : h'.size = h.size + 1
  old : ∀ k, k < h.size → h'[k]? = h[k]?
structure PutW (h h' : Heap) (b : Nat) (l : List Value) : Prop where
  blk : BlkW h' b l
  size : h'.size = h.size
  old : ∀ k, k ≠ b → h'[k]? = h[k]?
  ty : ∀ t, TyB h b t → TyB h' b t

/-- l, with vs in the place of what stands from n on. -/
def splice : List Value → Nat → List Value → List Value
  | l, _, [] => l
  | [], _, _ :: _ => []
  | _ :: l, 0, v :: vs => v :: splice l 0 vs
  | x :: l, n + 1, v :: vs => x :: splice l n (v :: vs)

/-! ### Slots -/
abbrev Env := Nat → Option Value

def upd (σ : Env) (d : Option Nat) (v : Value) : Env :=
  match d with
  | none => σ
  | some d => fun t => bif Nat.beq t d then some v else σ t

def ev (σ : Env) : Operand → Option Value
  | .tmp t => σ t
  | .const v => some v
  | .global g => some (.pointer (some ⟨g, 0, none⟩))
  | .func f => some (.func (.func f) #[] #[])

def evs (σ : Env) : List Operand → Option (List Value)
  | [] => some []
  | x :: xs => match ev σ x, evs σ xs with
    | some v, some vs => some (v :: vs)
    | _, _ => none

/-- σ knows at least what E knows. -/
def Sub (E σ : Env) : Prop := ∀ t v, E t = some v → σ t = some v

/-! ### Operations -/
inductive Kd where
  | int (k : IntKind) | str | bool
  deriving DecidableEq

def Kd.type : Kd → TypeDesc
  | .int k => .int k
  | .str => .string
  | .bool => .bool

inductive SOp where
  | mv (x : Operand)
  | pick (c a b : Operand)
  | new (z : List Value)
  | box (x : Operand)
  | build (z : List Value) (ps : List (Nat × Nat)) (xs : List Operand)
  | bslice (z : List Value) (n : Nat) (ps : List (Nat × Nat)) (xs : List Operand)
  | ld1 (x : Operand)
  | ldn (n : Nat) (x : Operand)
  | st (n : Nat) (x v : Operand)
  | nilck (x : Operand)
  | ar (op : BinOp) (x y : Operand)
  | bit (op : BinOp) (x y : Operand)
  | cmp (op : BinOp) (x y : Operand)
  | cat (x y : Operand)
  | eqp (neg : Bool) (x y : Operand)
  | eqn (kd : Nat) (neg : Bool) (x : Operand)
  | eqa (neg : Bool) (ks : List Kd) (x y : Operand)
  | un (op : UnOp) (x : Operand)
  | fa (off : Nat) (x : Operand)
  | fl1 (off : Nat) (x : Operand)
  | fln (off n : Nat) (x : Operand)
  | ixa (len size : Nat) (x i : Operand)
  | ixs (size : Nat) (x i : Operand)
  | ixc (x i : Operand)
  | slc (size : Nat) (x : Operand) (lo hi : Option Operand)
  | sls (x : Operand) (lo hi : Option Operand)
  | len (x : Operand)
  | lenm (x : Operand)
  | mks (bytes : Nat) (z : List Value) (x y : Operand)
  | mkm
  | look (kd : Kd) (zero : Value) (ok : Bool) (m k : Operand)
  | mup (kd : Kd) (m k v : Operand)
  | mdel (kd : Kd) (m k : Operand)
  | call (f : Nat) (xs : List Operand)
  | callv (x : Operand) (xs : List Operand)
  | callq (f : Nat) (xs : List Operand)
  | callvq (x : Operand) (xs : List Operand)
  | sh (k : IntKind) (left : Bool) (n : Nat) (x : Operand)
  | cmpb (neg : Bool) (x y : Operand)
  | lens (x : Operand)
  | cvs (x : Operand)
  | bstr (x : Operand)
  | quo (x y : Operand)
  | rem (x y : Operand)
  | app (size bytes : Nat) (z : List Value) (x y : Operand)
  | ext (x : Operand) (i : Nat)
  | fn (f : Nat) (first cap : List Operand)
  | cvt (k : IntKind) (x : Operand)
  | mn (x y : Operand)
  | mx (x y : Operand)
  | mki (t : TypeId) (x : Operand)
  | capc (x : Operand)
  | slc3 (size : Nat) (x : Operand) (lo : Option Operand) (hi mx : Operand)
  | cpy (size : Nat) (x y : Operand)
  | clr (z : List Value) (x : Operand)
  | appz (size bytes : Nat) (z : List Value) (x y : Operand)
  | callx (f : Nat) (xs : List Operand)
  | appn (size bytes : Nat) (z : List Value) (y : Operand)
  | ixv (n size : Nat) (x i : Operand)
  | slp (n size : Nat) (x : Operand) (lo hi : Option Operand)
  | shv (k : IntKind) (left : Bool) (x y : Operand)
  | tas (t : TypeId) (zero : Value) (ok : Bool) (x : Operand)
  | eqi (neg : Bool) (x y : Operand)
  | pan (x : Operand)
  | byts (x : Operand)
  | stb (x v : Operand)
  | cpyb (x y : Operand)
  | appb (e : TypeId) (x y : Operand)
  | rng (x : Operand)
  | nxt (x : Operand)
  | ent (x : Operand)
  | cvm (x : Operand)
  | ixw (n size : Nat) (x i : Operand)
  | clrm (x : Operand)
  | newT (t : TypeId) (z : List Value)
  | p2u (x : Operand)
  | u2p (t : TypeId) (n : Nat) (x : Operand)
  | sld (x : Operand)
  | ust (e : TypeId) (x n : Operand)
  | rngs (x : Operand)
  | nxts (x : Operand)

structure SOper where
  dst : Option Nat
  guard : Option (Nat × Bool)
  op : SOp

/-- A region's operations in whichever order: one first; or either of two trees. -/
inductive OTree where
  | done
  | one (s : SOper) (t : OTree)
  | both (a b : OTree)
  | chk (l : List SOper) (t : OTree)

inductive SCode where
  | skip
  | ops (l : List SOper)
  | two (pre l1 l2 : List SOper)
  | seq (a b : SCode)
  | cond (c : Operand) (a b : SCode)
  | block (id : Nat) (c : SCode)
  | loop (c : SCode)
  | scope (c : SCode)
  | exit (id : Nat)
  | ret
  | rangeF (g : Operand) (ps : List Nat) (assign body : SCode)
  | dfr (l : List SOper) (dst : Option Nat) (x : Operand) (args : List Operand)
  | rcv (dst : Option Nat)
  | tree (l : List Nat) (t : OTree)
  | label (l : Nat)
  | goto (l : Nat)
  | scopeG (c : SCode) (l : Nat) (rest : SCode)

/-! ### What an operation does -/
def arith (op : BinOp) (k : IntKind) (a b : Int) : Int :=
  match op with
  | .add => k.wrap (a + b)
  | .sub => k.wrap (a - b)
  | _ => k.wrap (a * b)

def bitw (op : BinOp) (k : IntKind) (a b : Int) : Int :=
  let x := BitVec.ofInt k.bits a
  let y := BitVec.ofInt k.bits b
  match op with
  | .and => k.wrap (x &&& y).toNat
  | .or => k.wrap (x ||| y).toNat
  | .xor => k.wrap (x ^^^ y).toNat
  | _ => k.wrap (x &&& ~~~y).toNat

def ones (k : IntKind) : Int := if k.signed then -1 else k.max

def sless (a b : ByteArray) : Bool := Op.bytesLess a.toList b.toList

/-- Either way of a test. -/
def either (p : Prop) (K : Value → Heap → Prop) (h : Heap) : Prop := (p → K (.bool true) h) ∧ (¬ p → K (.bool false) h)

def fits : Kd → Value → Bool
  | .int k, .int k' _ => decide (k = k')
  | .str, .string _ => true
  | .bool, .bool _ => true
  | _, _ => false
def fitsAll : List Kd → List Value → Bool
  | [], [] => true
  | k :: ks, v :: vs => fits k v && fitsAll ks vs
  | _, _ => false

/-- The parts laid into a struct or an array. -/
def fillL (z : List Value) : List (Nat × Nat) → List Value → Option (List Value)
  | (off, n) :: ps, v :: vs =>
    if v.cells.toList.length = n ∧ off + n ≤ z.length then fillL (splice z off v.cells.toList) ps vs else none
  | [], [] => some z
  | _, _ => none

/-- Is a value nil, of that kind? -/
def nilTest : Nat → Value → Option Bool
  | 0, .pointer a => some a.isNone
  | 1, .slice a _ _ => some a.isNone
  | 2, .map a => some a.isNone
  | 3, .func _ _ _ => some false
  | 3, .nilFunc => some true
  | 4, .nilIface => some true
  | 4, .iface _ _ => some false
  | _, _ => none

def bndOf (σ : Env) (x : Option Operand) (dflt : Nat) : Option Int :=
  match x with
  | none => some dflt
  | some x => match ev σ x with
    | some (.int _ n) => some n
    | _ => none

/-- A function of the program's with a body of its own. -/
def okFn (P : Program) (f : Nat) : Bool :=
  match P.funcs[f]? with
  | some fn => fn.name != "runtime.NumGoroutine" && fn.body.isSome
  | none => false

/-- The call of a function: in every world of that heap. -/
def CallsH (P : Program) (f : Nat) (args : List Value) (h : Heap) (R : Ending → Heap → Prop) : Prop :=
  okFn P f = true ∧ ∀ w : World, w.heap = h → Calls P f ⟨args⟩ w fun e w' => R e w'.heap ∧ e ≠ .outgrown ∧ w'.os = w.os ∧ w'.output = w.output ∧ w'.tape = w.tape

/-- A call of yield: one round of a range over a function. -/
def YieldH (P : Program) (l : Nat) (args : List Value) (h : Heap) (R : Ending → Heap → Prop) : Prop :=
  ∀ w : World, w.heap = h → ∃ fn tmps assign body, (Instr.yield l ⟨args⟩).run P w = .ok (.round l fn tmps assign body) w ∧
    RoundIn Fence.wide 0 P l fn tmps assign body w fun e w' => R e w'.heap ∧ e ≠ .outgrown ∧ w'.os = w.os ∧ w'.output = w.output ∧ w'.tape = w.tape

/-- All that was there is as it was. -/
def Ext (h h' : Heap) : Prop := ∀ k, k < h.size → h'[k]? = h[k]?

def after (K : Value → Heap → Prop) (Qp : List PanicEntry → Heap → Prop) : Ending → Heap → Prop
  | .returned v, h => K v h
  | .panicked ch, h => Qp ch h
  | .outgrown, _ => False

/-- The place of a key in a map's entries. -/
def mfind (k : Value) : List MapEntry → Nat → Option (Nat × Value)
  | [], _ => none
  | e :: es, i => if Instr.sameBits 10000 k e.key then some (i, e.val) else mfind k es (i + 1)

/-- An append that has room. -/
def appIn (h : Heap) (K : Value → Heap → Prop) (size : Nat) (a : Option Addr) (n c m : Nat) (ys : List Value) : Prop :=
  match a with
  | none => K (.slice none (n + m) c) h
  | some ⟨b, o, none⟩ => ∃ l, Blk h b l ∧ o + (n + m) * size ≤ l.length ∧ ∀ h', Put h h' b (splice l (o + n * size) ys) → K (.slice (some ⟨b, o, none⟩) (n + m) c) h'
  | _ => False

def appP (h : Heap) (K : Value → Heap → Prop) (size bytes : Nat) (z : List Value) (a : Option Addr) (n c : Nat) (a' : Option Addr) (m : Nat) : Prop :=
  ∃ xs ys, xs.length = n * size ∧ ys.length = m * size ∧ Src h a n xs ∧ Src h a' m ys ∧ (∀ u ∈ ys, u.oneCell' = true) ∧
    (n + m ≤ c → appIn h K size a n c m ys) ∧
    (c < n + m → ((n + m) * 2 + 768) * bytes ≤ 281474976710656 ∧
      ∀ c' b h', n + m ≤ c' → Grow h h' b (xs ++ ys ++ (List.replicate (c' - (n + m)) z).flatten) → K (.slice (some ⟨b, 0, none⟩) (n + m) c') h')

/-- Cells written from a place on. -/
def wrP (h : Heap) (K : Heap → Prop) (a : Option Addr) (ys : List Value) : Prop :=
  (ys = [] → K h) ∧ (ys ≠ [] → match a with
    | some ⟨b, o, none⟩ => ∃ l, Blk h b l ∧ o + ys.length ≤ l.length ∧ (∀ u ∈ ys, u.oneCell' = true) ∧ ∀ h', Put h h' b (splice l o ys) → K h'
    | _ => False)

/-- An append of zeros that has no room. -/
def appzP (h : Heap) (K : Value → Heap → Prop) (size bytes : Nat) (z : List Value) (a : Option Addr) (n c m : Nat) : Prop :=
  ∃ xs, xs.length = n * size ∧ Src h a n xs ∧ c < n + m ∧ ((n + m) * 2 + 768) * bytes ≤ 281474976710656 ∧
    ∀ c' b h', n + m ≤ c' → Grow h h' b (xs ++ (List.replicate m z).flatten ++ (List.replicate (c' - (n + m)) z).flatten) → K (.slice (some ⟨b, 0, none⟩) (n + m) c') h'

/-- The call of a function that has no body here: in every world of that heap. -/
def ExtH (P : Program) (f : Nat) (args : List Value) (h : Heap) (R : Value → Heap → Prop) : Prop :=
  ∀ w : World, w.heap = h → ∃ v w', (callFunc f ⟨args⟩).run P w = .ok (.value v) w' ∧ R v w'.heap ∧ w'.os = w.os ∧ w'.output = w.output ∧ w'.tape = w.tape

/-- A cut of a slice. -/
def slcR (K : Value → Heap → Prop) (h : Heap) (size : Nat) (a : Option Addr) (c : Nat) (l m : Int) : Prop :=
  match a with
  | none => K (.slice none (m - l).toNat (c - l).toNat) h
  | some ⟨b, o, none⟩ => ∀ o', (l < c → o' = o + l.toNat * size) → (c = l → o' = o) → K (.slice (some ⟨b, o', none⟩) (m - l).toNat (c - l).toNat) h
  | some ⟨b, o, some s⟩ => l = 0 ∧ K (.slice (some ⟨b, o, some s⟩) (m - l).toNat (c - l).toNat) h

/-- The bytes of a string, as cells. -/
def byteCells (s : ByteArray) : List Value := s.data.toList.map fun b => .int .u8 b.toNat

/-- How many bytes a slice or a string has. -/
def lenB : Value → Option Nat
  | .slice _ m _ => some m
  | .string s => some s.size
  | _ => none

/-- Its first n bytes. -/
def SrcB (h : Heap) (v : Value) (n : Nat) (ys : List Value) : Prop :=
  match v with
  | .slice a _ _ => ys.length = n ∧ Src h a n ys
  | .string s => ys = (byteCells s).take n ∧ n ≤ s.size
  | _ => False

/-- Bytes written from a place on. -/
def wrB (h : Heap) (K : Heap → Prop) (a : Option Addr) (ys : List Value) : Prop :=
  (ys = [] → K h) ∧ (ys ≠ [] → match a with
    | some ⟨b, o, none⟩ => ∃ l, BlkW h b l ∧ o + ys.length ≤ l.length ∧ (∀ u ∈ ys, u.oneCell' = true) ∧ ∀ h', PutW h h' b (splice l o ys) → K h'
    | _ => False)

/-- An append to bytes. -/
def appbP (h : Heap) (K : Value → Heap → Prop) (e : TypeId) (a : Option Addr) (n c : Nat) (v : Value) (m : Nat) : Prop :=
  ∃ xs ys, xs.length = n ∧ ys.length = m ∧ Src h a n xs ∧ SrcB h v m ys ∧ (∀ u ∈ ys, u.oneCell' = true) ∧
    (n + m ≤ c → match a with
      | none => K (.slice none (n + m) c) h
      | some ⟨b, o, none⟩ => ∃ l, BlkW h b l ∧ o + (n + m) ≤ l.length ∧ ∀ h', PutW h h' b (splice l (o + n) ys) → K (.slice (some ⟨b, o, none⟩) (n + m) c) h'
      | _ => False) ∧
    (c < n + m → (n + m) * 2 + 768 ≤ 281474976710656 ∧
      ∀ c' b h', n + m ≤ c' → Grow h h' b (xs ++ ys ++ List.replicate (c' - (n + m)) (.int .u8 0)) → TyB h' b e → K (.slice (some ⟨b, 0, none⟩) (n + m) c') h')

/-- A type whose values are compared at once. -/
def kdE (P : Program) (t : TypeId) : Option Kd :=
  match P.info? t with
  | some i => match i.comparable, P.underlying t with
    | true, some (.int k) => some (.int k)
    | true, some .string => some .str
    | true, some .bool => some .bool
    | _, _ => none
  | none => none

/-- The next entry of a range over a map. -/
def nxtP (h : Heap) (K : Value → Heap → Prop) (r : Nat) : Prop :=
  (∃ since seen last, h[r]? = some (.mapIter none since seen last) ∧ K (.tuple #[.bool false]) h) ∨
  (∃ (m since : Nat) (seen : Array Nat) (last : Nat) (es : List MapEntry) (clock : Nat), h[r]? = some (.mapIter (some m) since seen last) ∧ MapB h m es clock ∧ (∀ e ∈ es, e.born < since) ∧ (seen = #[] ∨ es = [] ∨ since ≤ last) ∧
    ((∀ e ∈ es, seen.contains e.born = true) → K (.tuple #[.bool false]) h) ∧
    (∀ e ∈ es, seen.contains e.born = false → ∀ h', PutO h h' r (.mapIter (some m) since (seen.push e.born) clock) → K (.tuple #[.bool true, e.key, e.val]) h'))

def entP (h : Heap) (K : Value → Heap → Prop) (r : Nat) : Prop :=
  ∃ (m since : Nat) (seen : Array Nat) (last : Nat) (es : List MapEntry) (b : Nat) (e : MapEntry), h[r]? = some (.mapIter (some m) since seen last) ∧ MapB h m es last ∧ seen.back? = some b ∧
    es.find? (fun e => e.born == b) = some e ∧ K (.tuple #[e.key, e.val]) h

def sop (P : Program) (σ : Env) (h : Heap) (K : Value → Heap → Prop) (Qp : List PanicEntry → Heap → Prop) : SOp → Prop
  | .mv x => match ev σ x with
    | some v => K v h
    | none => False
  | .pick c a b => match ev σ c, ev σ a, ev σ b with
    | some (.bool t), some x, some y => K (bif t then x else y) h
    | _, _, _ => False
  | .new z => ∀ b h', Grow h h' b z → K (.pointer (some ⟨b, 0, none⟩)) h'
  | .box x => match ev σ x with
    | some v => ∀ b h', Grow h h' b v.cells.toList → K (.pointer (some ⟨b, 0, none⟩)) h'
    | none => False
  | .build z ps xs => match evs σ xs with
    | some vs => match fillL z ps vs with
      | some l => K (.agg ⟨l⟩) h
      | none => False
    | none => False
  | .bslice z n ps xs => match evs σ xs with
    | some vs => match fillL z ps vs with
      | some l => ∀ b h', Grow h h' b l → K (.slice (some ⟨b, 0, none⟩) n n) h'
      | none => False
    | none => False
  | .ld1 x => match ev σ x with
    | some (.pointer (some ⟨b, o, none⟩)) => ∃ v, cell h b o = some v ∧ K v h
    | _ => False
  | .ldn n x => match ev σ x with
    | some (.pointer (some ⟨b, o, none⟩)) => ∃ vs, vs.length = n ∧ Cells h b o vs ∧ K (.agg ⟨vs⟩) h
    | _ => False
  | .st n x v => match ev σ x, ev σ v with
    | some (.pointer (some ⟨b, o, none⟩)), some v =>
      ∃ l, Blk h b l ∧ o + n ≤ l.length ∧ v.cells.toList.length = n ∧ (∀ u ∈ v.cells.toList, u.oneCell' = true) ∧ ∀ h', Put h h' b (splice l o v.cells.toList) → K undef h'
    | _, _ => False
  | .nilck x => match ev σ x with
    | some (.pointer (some a)) => K (.pointer (some a)) h
    | some (.func (.func f) fi c) => K (.func (.func f) fi c) h
    | some (.func (.yield f) fi c) => K (.func (.yield f) fi c) h
    | _ => False
  | .ar op x y => match ev σ x, ev σ y with
    | some (.int k a), some (.int k' b) => k = k' ∧ ∀ z, z = arith op k a b → K (.int k z) h
    | _, _ => False
  | .bit op x y => match ev σ x, ev σ y with
    | some (.int k a), some (.int k' b) => k = k' ∧ ∀ z, z = bitw op k a b → K (.int k z) h
    | _, _ => False
  | .cmp op x y => match op, ev σ x, ev σ y with
    | .eql, some (.int k a), some (.int k' b) => k = k' ∧ either (a = b) K h
    | .neq, some (.int k a), some (.int k' b) => k = k' ∧ either (a ≠ b) K h
    | .lss, some (.int k a), some (.int k' b) => k = k' ∧ either (a < b) K h
    | .leq, some (.int k a), some (.int k' b) => k = k' ∧ either (a ≤ b) K h
    | .gtr, some (.int k a), some (.int k' b) => k = k' ∧ either (b < a) K h
    | .geq, some (.int k a), some (.int k' b) => k = k' ∧ either (b ≤ a) K h
    | .eql, some (.string a), some (.string b) => either (a = b) K h
    | .neq, some (.string a), some (.string b) => either (a ≠ b) K h
    | .lss, some (.string a), some (.string b) => either (sless a b = true) K h
    | .leq, some (.string a), some (.string b) => either (sless a b = true ∨ a = b) K h
    | .gtr, some (.string a), some (.string b) => either (¬ (sless a b = true ∨ a = b)) K h
    | .geq, some (.string a), some (.string b) => either (¬ sless a b = true) K h
    | _, _, _ => False
  | .cmpb neg x y => match ev σ x, ev σ y with
    | some (.bool a), some (.bool b) => (a = b → K (.bool (!neg)) h) ∧ (a ≠ b → K (.bool neg) h)
    | _, _ => False
  | .cat x y => match ev σ x, ev σ y with
    | some (.string a), some (.string b) => a.size + b.size < 9223372036854775808 ∧ K (.string (a ++ b)) h
    | _, _ => False
  | .eqp neg x y => match ev σ x, ev σ y with
    | some (.pointer none), some (.pointer none) => K (.bool (!neg)) h
    | some (.pointer none), some (.pointer (some _)) => K (.bool neg) h
    | some (.pointer (some _)), some (.pointer none) => K (.bool neg) h
    | some (.pointer (some ⟨b, o, none⟩)), some (.pointer (some ⟨b', o', none⟩)) =>
      (∃ l, Blk h b l ∧ l ≠ []) ∧ (∃ l, Blk h b' l ∧ l ≠ []) ∧ (b = b' → o = o' → K (.bool (!neg)) h) ∧ (¬ (b = b' ∧ o = o') → K (.bool neg) h)
    | _, _ => False
  | .eqn kd neg x => match ev σ x with
    | some v => match nilTest kd v with
      | some r => K (.bool (bif r then !neg else neg)) h
      | none => False
    | none => False
  | .eqa neg ks x y => match ev σ x, ev σ y with
    | some (.agg a), some (.agg b) => fitsAll ks a.toList = true ∧ fitsAll ks b.toList = true ∧
      (a.toList = b.toList → K (.bool (!neg)) h) ∧ (a.toList ≠ b.toList → K (.bool neg) h)
    | _, _ => False
  | .un op x => match op, ev σ x with
    | .not, some (.bool t) => K (.bool (!t)) h
    | .neg, some (.int k a) => ∀ z, z = k.wrap (0 - a) → K (.int k z) h
    | .xor, some (.int k a) => ∀ z, z = bitw .xor k (ones k) a → K (.int k z) h
    | _, _ => False
  | .fa off x => match ev σ x with
    | some (.pointer (some ⟨b, o, none⟩)) => K (.pointer (some ⟨b, o + off, none⟩)) h
    | _ => False
  | .fl1 off x => match ev σ x with
    | some (.agg cs) => match cs.toList[off]? with
      | some v => K v h
      | none => False
    | _ => False
  | .fln off n x => match ev σ x with
    | some (.agg cs) => off + n ≤ cs.toList.length ∧ K (.agg ⟨(cs.toList.drop off).take n⟩) h
    | _ => False
  | .ixa len size x i => match ev σ x, ev σ i with
    | some (.pointer (some ⟨b, o, none⟩)), some (.int _ i) => 0 ≤ i ∧ i < len ∧ K (.pointer (some ⟨b, o + i.toNat * size, none⟩)) h
    | _, _ => False
  | .ixs size x i => match ev σ x, ev σ i with
    | some (.slice (some ⟨b, o, none⟩) n _), some (.int _ i) => 0 ≤ i ∧ i < n ∧ K (.pointer (some ⟨b, o + i.toNat * size, none⟩)) h
    | _, _ => False
  | .ixc x i => match ev σ x, ev σ i with
    | some (.string s), some (.int _ i) => ∃ c, 0 ≤ i ∧ s[i.toNat]? = some c ∧ K (.int .u8 c.toNat) h
    | _, _ => False
  | .slc size x lo hi => match ev σ x with
    | some (.slice a n c) => match bndOf σ lo 0, bndOf σ hi n with
      | some l, some m => 0 ≤ l ∧ l ≤ m ∧ m ≤ c ∧ slcR K h size a c l m
      | _, _ => False
    | _ => False
  | .sls x lo hi => match ev σ x with
    | some (.string s) => match bndOf σ lo 0, bndOf σ hi s.size with
      | some l, some m => 0 ≤ l ∧ l ≤ m ∧ m ≤ s.size ∧ K (.string (s.extract l.toNat m.toNat)) h
      | _, _ => False
    | _ => False
  | .len x => match ev σ x with
    | some (.slice _ n _) => K (.int .i64 n) h
    | _ => False
  | .cvs x => match ev σ x with
    | some (.string s) => K (.string s) h
    | _ => False
  | .bstr x => match ev σ x with
    | some (.slice a n _) => ∃ bs : List UInt8, bs.length = n ∧ Src0 h a n (bs.map fun b => .int .u8 b.toNat) ∧ K (.string ⟨⟨bs⟩⟩) h
    | _ => False
  | .lens x => match ev σ x with
    | some (.string s) => K (.int .i64 s.size) h
    | _ => False
  | .lenm x => match ev σ x with
    | some (.map none) => K (.int .i64 0) h
    | some (.map (some r)) => ∃ es c, MapB h r es c ∧ K (.int .i64 es.length) h
    | _ => False
  | .mks bytes z x y => match ev σ x, ev σ y with
    | some (.int .i64 n), some (.int .i64 c) => 0 ≤ n ∧ n ≤ c ∧ bytes * c ≤ 281474976710656 ∧ c < 9223372036854775808 ∧
      ∀ b h', Grow h h' b ((List.replicate c.toNat z).flatten) → K (.slice (some ⟨b, 0, none⟩) n.toNat c.toNat) h'
    | _, _ => False
  | .mkm => ∀ b h', GrowO h h' b (.map #[] 0) → K (.map (some b)) h'
  | .look kd zero ok m k => match ev σ m, ev σ k with
    | some (.map none), some k => fits kd k = true ∧ K (if ok then .tuple #[zero, .bool false] else zero) h
    | some (.map (some r)), some k => fits kd k = true ∧ ∃ es c, MapB h r es c ∧ (∀ e ∈ es, fits kd e.key = true) ∧
      match mfind k es 0 with
      | some (_, v) => K (if ok then .tuple #[v, .bool true] else v) h
      | none => K (if ok then .tuple #[zero, .bool false] else zero) h
    | _, _ => False
  | .mup kd m k v => match ev σ m, ev σ k, ev σ v with
    | some (.map (some r)), some k, some v => fits kd k = true ∧ ∃ es c, MapB h r es c ∧ (∀ e ∈ es, fits kd e.key = true) ∧
      match mfind k es 0 with
      | some (i, _) => ∀ h', PutO h h' r (.map ⟨es.modify i fun e => { e with val := v }⟩ c) → K undef h'
      | none => ∀ h', PutO h h' r (.map ⟨es ++ [{ key := k, val := v, born := c }]⟩ (c + 1)) → K undef h'
    | _, _, _ => False
  | .mdel kd m k => match ev σ m, ev σ k with
    | some (.map none), some k => fits kd k = true ∧ K (.tuple #[]) h
    | some (.map (some r)), some k => fits kd k = true ∧ ∃ es c, MapB h r es c ∧ (∀ e ∈ es, fits kd e.key = true) ∧
      match mfind k es 0 with
      | some (i, _) => ∀ h', PutO h h' r (.map ⟨es.eraseIdx i⟩ c) → K (.tuple #[]) h'
      | none => ∀ h', PutO h h' r (.map ⟨es⟩ c) → K (.tuple #[]) h'
    | _, _ => False
  | .call f xs => match evs σ xs with
    | some vs => CallsH P f vs h (after K Qp)
    | none => False
  | .callv x xs => match ev σ x, evs σ xs with
    | some (.func (.func f) fi cap), some vs => CallsH P f (fi.toList ++ vs ++ cap.toList) h (after K Qp)
    | some (.func (.yield l) fi _), some vs => YieldH P l (fi.toList ++ vs) h (after K Qp)
    | _, _ => False
  | .callq f xs => match evs σ xs with
    | some vs => CallsH P f vs h fun e h' => Ext h h' ∧ after K Qp e h'
    | none => False
  | .callvq x xs => match ev σ x, evs σ xs with
    | some (.func (.func f) fi cap), some vs => CallsH P f (fi.toList ++ vs ++ cap.toList) h fun e h' => Ext h h' ∧ after K Qp e h'
    | _, _ => False
  | .sh k left n x => match ev σ x with
    | some (.int k' a) => k' = k ∧ ∀ z, z = (bif left then k.wrap (a * 2 ^ n) else a.fdiv (2 ^ n)) → K (.int k z) h
    | _ => False
  | .quo x y => match ev σ x, ev σ y with
    | some (.int k a), some (.int k' b) => k = k' ∧ b ≠ 0 ∧ ∀ z, z = k.wrap (a.tdiv b) → K (.int k z) h
    | _, _ => False
  | .rem x y => match ev σ x, ev σ y with
    | some (.int k a), some (.int k' b) => k = k' ∧ b ≠ 0 ∧ ∀ z, z = a.tmod b → K (.int k z) h
    | _, _ => False
  | .app size bytes z x y => match ev σ x, ev σ y with
    | some (.slice a n c), some (.slice a' m _) => appP h K size bytes z a n c a' m
    | _, _ => False
  | .ext x i => match ev σ x with
    | some (.tuple vs) => match vs.toList[i]? with
      | some v => K v h
      | none => False
    | _ => False
  | .fn f first cap => match evs σ first, evs σ cap with
    | some a, some c => K (.func (.func f) ⟨a⟩ ⟨c⟩) h
    | _, _ => False
  | .cvt k x => match ev σ x with
    | some (.int _ a) => ∀ z, z = k.wrap a → K (.int k z) h
    | _ => False
  | .mn x y => match ev σ x, ev σ y with
    | some (.int k a), some (.int k' b) => k = k' ∧ K (.int k (min a b)) h
    | _, _ => False
  | .mx x y => match ev σ x, ev σ y with
    | some (.int k a), some (.int k' b) => k = k' ∧ K (.int k (max a b)) h
    | _, _ => False
  | .mki t x => match ev σ x with
    | some v => K (.iface t v) h
    | none => False
  | .capc x => match ev σ x with
    | some (.slice _ _ c) => K (.int .i64 c) h
    | _ => False
  | .slc3 size x lo hi mx => match ev σ x with
    | some (.slice a _ c) => match bndOf σ lo 0, bndOf σ (some hi) 0, bndOf σ (some mx) 0 with
      | some l, some m, some k => 0 ≤ l ∧ l ≤ m ∧ m ≤ k ∧ k ≤ c ∧ slcR K h size a k.toNat l m
      | _, _, _ => False
    | _ => False
  | .cpy size x y => match ev σ x, ev σ y with
    | some (.slice a n _), some (.slice a' m _) => ∃ ys, ys.length = min m n * size ∧ Src h a' (min m n) ys ∧ wrP h (K (.int .i64 (min m n : Nat))) a ys
    | _, _ => False
  | .clr z x => match ev σ x with
    | some (.slice a n _) => wrP h (K (.tuple #[])) a (List.replicate n z).flatten
    | _ => False
  | .appz size bytes z x y => match ev σ x, ev σ y with
    | some (.slice a n c), some (.int .i64 k) => 0 ≤ k ∧ k < 9223372036854775808 ∧ appzP h K size bytes z a n c k.toNat
    | _, _ => False
  | .callx f xs => match evs σ xs with
    | some vs => ExtH P f vs h K
    | none => False
  | .appn size bytes z y => match ev σ y with
    | some (.slice a' m _) => appP h K size bytes z none 0 0 a' m
    | _ => False
  | .ixv n size x i => match ev σ x, ev σ i with
    | some (.agg cs), some (.int _ i) => ∃ v, 0 ≤ i ∧ i < n ∧ cs.toList[i.toNat * size]? = some v ∧ K v h
    | _, _ => False
  | .slp n size x lo hi => match ev σ x with
    | some (.pointer (some ⟨b, o, none⟩)) => match bndOf σ lo 0, bndOf σ hi n with
      | some l, some m => 0 ≤ l ∧ l ≤ m ∧ m ≤ n ∧ slcR K h size (some ⟨b, o, none⟩) n l m
      | _, _ => False
    | _ => False
  | .shv k left x y => match ev σ x, ev σ y with
    | some (.int k' a), some (.int _ n) => k' = k ∧ 0 ≤ n ∧ ∀ z, z = (bif left then k.wrap (a * 2 ^ (min n.toNat k.bits)) else a.fdiv (2 ^ (min n.toNat k.bits))) → K (.int k z) h
    | _, _ => False
  | .tas t zero ok x => match ev σ x with
    | some .nilIface => ok = true ∧ K (.tuple #[zero, .bool false]) h
    | some (.iface u v) => (u = t → K (bif ok then .tuple #[v, .bool true] else v) h) ∧ (u ≠ t → ok = true ∧ K (.tuple #[zero, .bool false]) h)
    | _ => False
  | .eqi neg x y => match ev σ x, ev σ y with
    | some .nilIface, some (.iface _ _) => K (.bool neg) h
    | some (.iface _ _), some .nilIface => K (.bool neg) h
    | some (.iface t v), some (.iface u w) => (t ≠ u → K (.bool neg) h) ∧
      (t = u → ∃ kd, kdE P t = some kd ∧ fits kd v = true ∧ fits kd w = true ∧ (v = w → K (.bool (!neg)) h) ∧ (v ≠ w → K (.bool neg) h))
    | _, _ => False
  | .pan x => match ev σ x with
    | some (.iface t v) => Qp [{ v := .iface t v, recovered := false }] h
    | _ => False
  | .byts x => match ev σ x with
    | some (.string s) => ∀ c b h', s.size ≤ c → GrowW h h' b (byteCells s ++ List.replicate (c - s.size) (.int .u8 0)) → K (.slice (some ⟨b, 0, none⟩) s.size c) h'
    | _ => False
  | .stb x v => match ev σ x, ev σ v with
    | some (.pointer (some ⟨b, o, none⟩)), some v => ∃ l, BlkW h b l ∧ o + 1 ≤ l.length ∧ v.cells.toList.length = 1 ∧ (∀ u ∈ v.cells.toList, u.oneCell' = true) ∧ ∀ h', PutW h h' b (splice l o v.cells.toList) → K undef h'
    | _, _ => False
  | .cpyb x y => match ev σ x, ev σ y with
    | some (.slice a n _), some v => match lenB v with
      | some m => ∃ ys, ys.length = min m n ∧ SrcB h v (min m n) ys ∧ wrB h (K (.int .i64 (min m n : Nat))) a ys
      | none => False
    | _, _ => False
  | .appb e x y => match ev σ x, ev σ y with
    | some (.slice a n c), some v => match lenB v with
      | some m => appbP h K e a n c v m
      | none => False
    | _, _ => False
  | .rng x => match ev σ x with
    | some (.map none) => ∀ b h', GrowO h h' b (.mapIter none 0 #[] 0) → K (.pointer (some ⟨b, 0, none⟩)) h'
    | some (.map (some r)) => ∃ es c, MapB h r es c ∧ ∀ b h', GrowO h h' b (.mapIter (some r) c #[] c) → K (.pointer (some ⟨b, 0, none⟩)) h'
    | _ => False
  | .nxt x => match ev σ x with
    | some (.pointer (some ⟨r, 0, none⟩)) => nxtP h K r
    | _ => False
  | .ent x => match ev σ x with
    | some (.pointer (some ⟨r, 0, none⟩)) => entP h K r
    | _ => False
  | .cvm x => match ev σ x with
    | some (.slice (some ⟨b, o, none⟩) n c) => ∃ l, BlkW h b l ∧ ∀ h', PutW h h' b l → K (.slice (some ⟨b, o, none⟩) n c) h'
    | _ => False
  | .ixw n size x i => match ev σ x, ev σ i with
    | some (.agg cs), some (.int _ i) => 0 ≤ i ∧ i < n ∧ i.toNat * size + size ≤ cs.toList.length ∧ K (.agg ⟨(cs.toList.drop (i.toNat * size)).take size⟩) h
    | _, _ => False
  | .clrm x => match ev σ x with
    | some (.map none) => K (.tuple #[]) h
    | some (.map (some r)) => ∃ es c, MapB h r es c ∧ ∀ h', PutO h h' r (.map ⟨[]⟩ c) → K (.tuple #[]) h'
    | _ => False
  | .newT t z => ∀ b h', Grow h h' b z → TyB h' b t → K (.pointer (some ⟨b, 0, none⟩)) h'
  | .p2u x => match ev σ x with
    | some (.pointer (some ⟨b, o, none⟩)) => ∃ l, BlkW h b l ∧ o < l.length ∧ K (.pointer (some ⟨b, o, none⟩)) h
    | _ => False
  | .u2p t n x => match ev σ x with
    | some (.pointer (some ⟨b, 0, none⟩)) => ∃ l, BlkW h b l ∧ l.length = n ∧ TyB h b t ∧ K (.pointer (some ⟨b, 0, none⟩)) h
    | _ => False
  | .sld x => match ev σ x with
    | some (.slice none _ _) => K (.pointer none) h
    | some (.slice (some a) _ c) => c ≠ 0 ∧ K (.pointer (some a)) h
    | _ => False
  | .rngs x => match ev σ x with
    | some (.string s) => ∀ b h', GrowO h h' b (.stringIter s 0) → K (.pointer (some ⟨b, 0, none⟩)) h'
    | _ => False
  | .nxts x => match ev σ x with
    | some (.pointer (some ⟨r, 0, none⟩)) => ∃ s pos, h[r]? = some (.stringIter s pos) ∧ (s.size ≤ pos → K (.tuple #[.bool false]) h) ∧
        (pos < s.size → ∀ h', PutO h h' r (.stringIter s (pos + (Utf8.decode s pos).2)) → K (.tuple #[.bool true, .int .i64 pos, .int .i32 (Utf8.decode s pos).1]) h')
    | _ => False
  | .ust e x n => match ev σ x, ev σ n with
    | some (.pointer p), some (.int .i64 n) => (n = 0 → K (.string ⟨#[]⟩) h) ∧ (n ≠ 0 → ∃ (b : Nat) (l : List UInt8) (tot : List Value), p = some ⟨b, 0, none⟩ ∧ n = l.length ∧ l.length < 9223372036854775808 ∧ BlkW h b tot ∧ TyB h b e ∧ l.length ≤ tot.length ∧
        (∀ j x, l[j]? = some x → cell h b j = some (.int .u8 x.toNat)) ∧ ∀ h', h'.size = h.size → (∀ k, k ≠ b → h'[k]? = h[k]?) → K (.string ⟨⟨l⟩⟩) h')
    | _, _ => False

/-- Does a guard's value let it? -/
def takes : Value → Bool → Bool
  | .bool true, true => true
  | .bool false, false => true
  | _, _ => false

/-- One operation, its guard asked. -/
def sopr (P : Program) (σ : Env) (h : Heap) (o : SOper) (K : Env → Heap → Prop) (Qp : List PanicEntry → Heap → Prop) : Prop :=
  match o.guard with
  | none => sop P σ h (fun v h' => K (upd σ o.dst v) h') Qp o.op
  | some (g, want) => match σ g with
    | some t => match takes t want with
      | true => sop P σ h (fun v h' => K (upd σ o.dst v) h') Qp o.op
      | false => K (upd σ o.dst undef) h
    | none => False

def sops (P : Program) (Qp : List PanicEntry → Heap → Prop) (K : Env → Heap → Prop) : List SOper → Env → Heap → Prop
  | [], σ, h => K σ h
  | o :: l, σ, h => sopr P σ h o (sops P Qp K l) Qp

end Go.Sx
