/-
  The simplified code, made from the program's code by a function: types resolved, regions in one order. Definitions.
-/
import Derived.Test.YtaeabfemedamhaaGreatDoorSxA
namespace Go.Sx
open Go

def szOf (P : Program) (t : TypeId) : Option Nat := (P.info? t).map (·.size)
def zeroOf (P : Program) (t : TypeId) : Option Value := (P.info? t).bind (·.zero)
def aggOf (P : Program) (t : TypeId) : Option Bool :=
  match P.underlying t with
  | some (.struct _) | some (.array _ _) => some true
  | some _ => some false
  | none => none
def kdOf (P : Program) (t : TypeId) : Option Kd :=
  match P.underlying t with
  | some (.int k) => some (.int k)
  | some .string => some .str
  | some .bool => some .bool
  | _ => none

def isNil (kd : Nat) : Operand → Bool
  | .const (.pointer none) => Nat.beq kd 0
  | .const (.slice none _ _) => Nat.beq kd 1
  | .const (.map none) => Nat.beq kd 2
  | .const .nilFunc => Nat.beq kd 3
  | .const .nilIface => Nat.beq kd 4
  | _ => false
def eqNil (kd : Nat) (neg : Bool) (x y : Operand) : Option SOp :=
  if isNil kd y then some (.eqn kd neg x) else if isNil kd x then some (.eqn kd neg y) else none

def fieldPl (P : Program) : List Field → Option (List (Nat × Nat))
  | [] => some []
  | f :: r => match szOf P f.type, fieldPl P r with
    | some n, some ps => some ((f.offset, n) :: ps)
    | _, _ => none
def placesOf (qs : List (Nat × Nat)) : List (Nat × Operand) → Option (List (Nat × Nat))
  | [] => some []
  | (i, _) :: r => match qs[i]?, placesOf qs r with
    | some p, some ps => some (p :: ps)
    | _, _ => none
def placesArr (size : Nat) : List (Nat × Operand) → List (Nat × Nat)
  | [] => []
  | (i, _) :: r => (i * size, size) :: placesArr size r

def kindsOf (P : Program) : Nat → List Field → Option (List Kd)
  | _, [] => some []
  | n, f :: fs => if f.name = "_" ∨ f.offset ≠ n then none else
    match kdOf P f.type, kindsOf P (n + 1) fs with
    | some k, some ks => some (k :: ks)
    | _, _ => none

def zeros (P : Program) (e : TypeId) (size : Nat) : Option (List Value) :=
  match zeroOf P e with
  | some z => if z.cells.toList.length = size then some z.cells.toList else none
  | none => none

def copBin (P : Program) (op : BinOp) (t : TypeId) (x y : Operand) : Option SOp :=
  match op with
  | .add => match kdOf P t with
    | some (.int _) => some (.ar op x y)
    | some .str => some (.cat x y)
    | _ => none
  | .sub | .mul => match kdOf P t with
    | some (.int _) => some (.ar op x y)
    | _ => none
  | .and | .or | .xor | .andNot => match kdOf P t with
    | some (.int _) => some (.bit op x y)
    | _ => none
  | .eql | .neq =>
    let neg : Bool := match op with | .neq => true | _ => false
    match kdOf P t with
    | some .bool => some (.cmpb neg x y)
    | some _ => some (.cmp op x y)
    | none => match P.underlying t with
      | some (.pointer e) => match eqNil 0 neg x y with
        | some r => some r
        | none => match szOf P e with
          | some (_ + 1) => some (.eqp neg x y)
          | _ => none
      | some (.slice _) => eqNil 1 neg x y
      | some (.map _ _) => eqNil 2 neg x y
      | some (.func _ _ _) => eqNil 3 neg x y
      | some (.interface _) => match eqNil 4 neg x y with
        | some r => some r
        | none => some (.eqi neg x y)
      | some (.struct fs) => if P.stoodInHeld t = false ∧ P.eqGuardType P.depth t = false then (kindsOf P 0 fs.toList).map fun ks => .eqa neg ks x y else none
      | _ => none
  | .shl | .shr => match kdOf P t, y with
    | some (.int k), .const (.int _ n) => if 0 ≤ n ∧ n.toNat ≤ k.bits then some (.sh k (match op with | .shl => true | _ => false) n.toNat x) else none
    | some (.int k), _ => some (.shv k (match op with | .shl => true | _ => false) x y)
    | _, _ => none
  | .quo => match kdOf P t with
    | some (.int _) => some (.quo x y)
    | _ => none
  | .rem => match kdOf P t with
    | some (.int _) => some (.rem x y)
    | _ => none
  | .lss | .leq | .gtr | .geq => match kdOf P t with
    | some (.int _) => some (.cmp op x y)
    | some .str => some (.cmp op x y)
    | _ => none

/-- Bytes: one cell of a byte's kind, a byte long. -/
def isByte (P : Program) (e : TypeId) : Bool :=
  match P.info? e with
  | some i => (match P.underlying e with | some (.int .u8) => true | _ => false) && Nat.beq i.size 1 && Nat.beq i.bytes 1 && (match i.zero with | some (.int .u8 0) => true | _ => false)
  | none => false

def copCall (P : Program) (c : Call) : Option SOp :=
  match c.callee with
  | .value (.func f) => match P.funcs[f]? with
    | some fn => match fn.body with
      | some _ => some (.call f c.args.toList)
      | none => some (.callx f c.args.toList)
    | none => none
  | .value x => some (.callv x c.args.toList)
  | .invoke _ _ => none
  | .builtin .len => match c.args.toList, c.argTypes.toList with
    | [x], [t] => match P.underlying t with
      | some .string => some (.lens x)
      | some (.slice _) => some (.len x)
      | some (.map _ _) => some (.lenm x)
      | _ => none
    | _, _ => none
  | .builtin .append => match c.args.toList, c.argTypes.toList with
    | [x, y], [t, u] => match P.underlying t, P.underlying u with
      | some (.slice e), some .string => if isByte P e = true then some (.appb e x y) else none
      | some (.slice e), some (.slice e2) => if isByte P e = true ∧ isByte P e2 = true then some (.appb e x y) else match P.info? e with
        | some i => if 1 ≤ i.bytes then (zeros P e i.size).map fun z => (match x with | .const (.slice none 0 0) => .appn i.size i.bytes z y | _ => .app i.size i.bytes z x y) else none
        | none => none
      | some (.slice e), some (.int _) => match P.info? e with
        | some i => if 1 ≤ i.bytes then (zeros P e i.size).map fun z => .appz i.size i.bytes z x y else none
        | none => none
      | _, _ => none
    | _, _ => none
  | .builtin .cap => match c.args.toList, c.argTypes.toList with
    | [x], [t] => match P.underlying t with
      | some (.slice _) => some (.capc x)
      | _ => none
    | _, _ => none
  | .builtin .copy => match c.args.toList, c.argTypes.toList with
    | [x, y], [t, u] => match P.underlying t, P.underlying u with
      | some (.slice e), some .string => if isByte P e = true then some (.cpyb x y) else none
      | some (.slice e), some (.slice e2) => if isByte P e = true ∧ isByte P e2 = true then some (.cpyb x y) else (szOf P e).map fun n => .cpy n x y
      | _, _ => none
    | _, _ => none
  | .builtin .clear => match c.args.toList, c.argTypes.toList with
    | [x], [t] => match P.underlying t with
      | some (.slice e) => match P.info? e with
        | some i => (zeros P e i.size).map fun z => .clr z x
        | none => none
      | some (.map _ _) => some (.clrm x)
      | _ => none
    | _, _ => none
  | .builtin .delete => match c.args.toList, c.argTypes.toList with
    | [x, y], [t, _] => match P.underlying t with
      | some (.map k _) => (kdOf P k).map fun kd => .mdel kd x y
      | _ => none
    | _, _ => none
  | .builtin .unsafeSliceData => match c.args.toList, c.argTypes.toList with
    | [x], [_] => some (.sld x)
    | _, _ => none
  | .builtin .unsafeString => match c.args.toList, c.argTypes.toList with
    | [x, y], [t, _] => match P.underlying t with
      | some (.pointer e) => if isByte P e = true ∧ P.cellsOf e = 1 then some (.ust e x y) else none
      | _ => none
    | _, _ => none
  | .builtin .min => match c.args.toList, c.argTypes.toList with
    | [x, y], [t, _] => match kdOf P t with
      | some (.int _) => some (.mn x y)
      | _ => none
    | _, _ => none
  | .builtin .max => match c.args.toList, c.argTypes.toList with
    | [x, y], [t, _] => match kdOf P t with
      | some (.int _) => some (.mx x y)
      | _ => none
    | _, _ => none
  | _ => none

/-- Two cells, as of a strings.Builder: its block's type is kept. -/
def isBld : List Value → Bool
  | [.pointer none, .slice none 0 0] => true
  | _ => false
/-- Its cells, if a variable of the type is laid out as the type, and is no empty one. -/
def liesOwn (P : Program) (t : TypeId) : Option Nat :=
  match szOf P t with
  | some (_ + 1) => match P.cellsOf t with
    | k + 1 => if liesAt P P.depth t 1 0 t 1 = true then some (k + 1) else none
    | 0 => none
  | _ => none

def okReserve : Option Operand → Bool
  | none => true
  | some (.const (.int _ _)) => true
  | _ => false

def cop (P : Program) (o : Oper) : Option SOp :=
  match o.op with
  | .move x | .assign x => some (.mv x)
  | .pick c a b => some (.pick c a b)
  | .alloc t => (zeroOf P t).map fun z => bif isBld z.cells.toList then .newT t z.cells.toList else .new z.cells.toList
  | .box _ x => some (.box x)
  | .build t parts => match zeroOf P t, P.underlying t with
    | some z, some (.struct fs) => match fieldPl P fs.toList with
      | some qs => (placesOf qs parts.toList).map fun ps => .build z.cells.toList ps (parts.toList.map (·.2))
      | none => none
    | some z, some (.array _ e) => (szOf P e).map fun n => .build z.cells.toList (placesArr n parts.toList) (parts.toList.map (·.2))
    | _, _ => none
  | .buildSlice t n parts => match P.underlying t with
    | some (.slice e) => match szOf P e with
      | some s => if n * s ≤ 65536 then (zeros P e s).map fun z => .bslice ((List.replicate n z).flatten) n (placesArr s parts.toList) (parts.toList.map (·.2)) else none
      | none => none
    | _ => none
  | .load t x => match aggOf P t, szOf P t with
    | some true, some n => some (.ldn n x)
    | some false, some _ => some (.ld1 x)
    | _, _ => none
  | .store t x v => match P.underlying t with
    | some (.int .u8) => match szOf P t with
      | some 1 => some (.stb x v)
      | _ => none
    | _ => (szOf P t).map fun n => .st n x v
  | .nilCheck x => some (.nilck x)
  | .binOp op t x y _ => copBin P op t x y
  | .unOp op _ x => match op with
    | .not | .neg | .xor => some (.un op x)
    | _ => none
  | .convert s d x => match P.underlying s, P.underlying d with
    | some (.int _), some (.int k) => some (.cvt k x)
    | some .string, some .string => some (.cvs x)
    | some (.slice e), some .string => match P.underlying e with
      | some (.int .u8) => some (.bstr x)
      | _ => none
    | some .string, some (.slice e) => match P.underlying e with
      | some (.int .u8) => some (.byts x)
      | _ => none
    | some (.slice _), some (.slice e) => match P.underlying e with
      | some (.int .u8) => if s = d then some (.cvm x) else none
      | _ => none
    | some (.pointer t), some .unsafePointer => match szOf P t with
      | some (_ + 1) => some (.p2u x)
      | _ => none
    | some .unsafePointer, some (.pointer t) => (liesOwn P t).map fun n => .u2p t n x
    | _, _ => none
  | .makeInterface t x => match P.underlying t with
    | some (.interface _) => none
    | some _ => some (.mki t x)
    | none => none
  | .makeFunc (.func f) first cap => some (.fn f first.toList cap.toList)
  | .makeMap t r => if okReserve r = true then match P.underlying t with
      | some (.map _ _) => some .mkm
      | _ => none
    else none
  | .makeSlice t x y => match P.underlying t with
    | some (.slice e) => match P.info? e with
      | some i => (zeros P e i.size).map fun z => .mks i.bytes z x y
      | none => none
    | _ => none
  | .slice t x lo hi none => match P.underlying t with
    | some .string => some (.sls x lo hi)
    | some (.slice e) => (szOf P e).map fun n => .slc n x lo hi
    | some (.array n e) => (szOf P e).map fun s => .slp n s x lo hi
    | _ => none
  | .slice t x lo (some hi) (some mx) => match P.underlying t with
    | some (.slice e) => (szOf P e).map fun n => .slc3 n x lo hi mx
    | _ => none
  | .fieldAddr t x f => match P.underlying t with
    | some (.struct fs) => match fs[f]? with
      | some fl => match szOf P fl.type with
        | some (_ + 1) => some (.fa fl.offset x)
        | _ => none
      | none => none
    | _ => none
  | .field t x f => match P.underlying t with
    | some (.struct fs) => match fs[f]? with
      | some fl => match aggOf P fl.type, szOf P fl.type with
        | some true, some n => some (.fln fl.offset n x)
        | some false, some _ => some (.fl1 fl.offset x)
        | _, _ => none
      | none => none
    | _ => none
  | .indexAddr t x i => match P.underlying t with
    | some (.array n e) => (szOf P e).map fun s => .ixa n s x i
    | some (.slice e) => (szOf P e).map fun s => .ixs s x i
    | _ => none
  | .index t x i => match P.underlying t with
    | some .string => some (.ixc x i)
    | some (.array n e) => match aggOf P e, szOf P e with
      | some false, some s => some (.ixv n s x i)
      | some true, some s => some (.ixw n s x i)
      | _, _ => none
    | _ => none
  | .lookup t m k ok => match P.underlying t with
    | some (.map kt et) => match kdOf P kt, zeroOf P et with
      | some kd, some z => some (.look kd z ok m k)
      | _, _ => none
    | _ => none
  | .mapUpdate t m k v | .insert t m k v => match P.underlying t with
    | some (.map kt _) => (kdOf P kt).map fun kd => .mup kd m k v
    | _ => none
  | .extract x i => some (.ext x i)
  | .call c => copCall P c
  | .panic x => some (.pan x)
  | .range t x => match P.underlying t with
    | some (.map _ _) => some (.rng x)
    | some .string => some (.rngs x)
    | _ => none
  | .next x false => some (.nxt x)
  | .next x true => some (.nxts x)
  | .entry x => some (.ent x)
  | .typeAssert x _ t ok => match P.underlying t, zeroOf P t with
    | some (.interface _), _ => none
    | some _, some z => some (.tas t z ok x)
    | _, _ => none
  | _ => none

/-! ### Regions -/
def coper (P : Program) (ops : Array Oper) (nt : Nat) (o : Oper) : Option SOper :=
  match cop P o with
  | none => none
  | some s =>
    match (match o.dst with | some d => Nat.ble (d + 1) nt | none => true) with
    | false => none
    | true =>
      match o.guard with
      | none => some ⟨o.dst, none, s⟩
      | some (j, want) => match (ops[j]?).bind (·.dst) with
        | some g => if g < nt then some ⟨o.dst, some (g, want), s⟩ else none
        | none => none

/-- 0: of its operands alone · 1: reads memory · 2: makes new memory · 3: the rest. -/
def cls : SOp → Nat
  | .mv _ | .pick .. | .build .. | .nilck _ | .ar .. | .bit .. | .cmp .. | .cat .. | .eqn .. | .eqa .. | .un .. | .fa .. | .fl1 .. | .fln .. | .ixa .. | .ixs .. | .ixc .. | .slc .. | .sls .. | .len _ | .ext .. | .fn .. | .cvt .. | .mn .. | .mx .. | .mki .. | .sh .. | .quo .. | .rem .. | .lens _ | .cmpb .. | .cvs _ | .capc _ | .slc3 .. | .ixv .. | .slp .. | .shv .. | .tas .. | .eqi .. | .ixw .. | .sld _ => 0
  | .ld1 _ | .ldn .. | .lenm _ | .look .. | .eqp .. | .bstr _ | .ent _ | .p2u _ | .u2p .. => 1
  | .new _ | .box _ | .bslice .. | .mks .. | .mkm | .callq .. | .callvq .. | .appn .. | .byts _ | .rng _ | .newT .. | .rngs _ => 2
  | _ => 3

def opt : Option Operand → List Operand
  | none => []
  | some x => [x]

def SOp.reads : SOp → List Operand
  | .mv x | .box x | .ld1 x | .ldn _ x | .nilck x | .eqn _ _ x | .un _ x | .fa _ x | .fl1 _ x | .fln _ _ x | .len x | .lenm x | .ext x _ | .cvt _ x | .mki _ x | .sh _ _ _ x | .lens x | .cvs x | .bstr x | .capc x | .clr _ x | .appn _ _ _ x | .tas _ _ _ x | .pan x | .byts x | .rng x | .nxt x | .ent x | .cvm x | .clrm x | .p2u x | .u2p _ _ x | .sld x | .rngs x | .nxts x => [x]
  | .pick c a b => [c, a, b]
  | .new _ | .mkm | .newT .. => []
  | .build _ _ xs | .bslice _ _ _ xs | .call _ xs | .callq _ xs | .callx _ xs => xs
  | .st _ x v | .ar _ x v | .bit _ x v | .cmp _ x v | .cat x v | .eqp _ x v | .eqa _ _ x v | .ixa _ _ x v | .ixs _ x v | .ixc x v | .mks _ _ x v | .look _ _ _ x v | .mdel _ x v | .app _ _ _ x v | .mn x v | .mx x v | .quo x v | .rem x v | .cmpb _ x v | .cpy _ x v | .appz _ _ _ x v | .ixv _ _ x v | .shv _ _ x v | .eqi _ x v | .stb x v | .cpyb x v | .appb _ x v | .ixw _ _ x v | .ust _ x v => [x, v]
  | .slc _ x lo hi | .sls x lo hi | .slp _ _ x lo hi => x :: (opt lo ++ opt hi)
  | .slc3 _ x lo hi tp => x :: (opt lo ++ [hi, tp])
  | .mup _ m k v => [m, k, v]
  | .callv x xs | .callvq x xs => x :: xs
  | .fn _ a c => a ++ c

def slotsOf : List Operand → List Nat
  | [] => []
  | .tmp t :: r => t :: slotsOf r
  | _ :: r => slotsOf r

def SOper.slots (o : SOper) : List Nat :=
  match o.guard with
  | none => slotsOf o.op.reads
  | some (g, _) => g :: slotsOf o.op.reads

def hasN (n : Nat) : List Nat → Bool
  | [] => false
  | m :: r => bif Nat.beq n m then true else hasN n r

/-- x, first in our order, may as well come behind y. -/
def loose (x y : SOper) : Bool :=
  (match x.dst with
   | some d => !hasN d y.slots && (match y.dst with | some e => !Nat.beq d e | none => true)
   | none => true) &&
  (match y.dst with
   | some e => !hasN e x.slots
   | none => true) &&
  (match cls x.op with
   | 0 => true
   | 1 => Nat.ble (cls y.op) 2
   | _ => false)

/-- The operations ahead of each, as a list of their numbers. -/
def aheadOf (ops : Array Oper) (i : Nat) : List Nat :=
  match ops[i]? with
  | some o => (o.after.toList.filter (Region.binds .any)).map (·.on)
  | none => []

def aheads (ops : Array Oper) : List (List Nat) := (List.range ops.size).map (aheadOf ops)

/-- All that is ahead, near or far. -/
def closure (as : List (List Nat)) : Nat → List Nat → List Nat → List Nat
  | 0, _, acc => acc
  | _, [], acc => acc
  | n + 1, x :: r, acc => if hasN x acc then closure as n r acc else closure as n (as.getD x [] ++ r) (x :: acc)

def removeN (n : Nat) : List Nat → List Nat
  | [] => []
  | m :: r => bif Nat.beq n m then r else m :: removeN n r

/-- Our order: what reads alone as early as may be. -/
def pickQuiet (ss : List SOper) (as : List (List Nat)) (done : List Nat) : List Nat → Option Nat
  | [] => none
  | i :: r => if (as.getD i []).all (fun j => hasN j done) && (match ss[i]? with | some s => Nat.ble (cls s.op) 1 | none => false) then some i else pickQuiet ss as done r
def pickAny (as : List (List Nat)) (done : List Nat) : List Nat → Option Nat
  | [] => none
  | i :: r => if (as.getD i []).all (fun j => hasN j done) then some i else pickAny as done r
def order (ss : List SOper) (as : List (List Nat)) : Nat → List Nat → List Nat → List Nat
  | 0, _, _ => []
  | n + 1, done, left =>
    match (match pickQuiet ss as done left with | some i => some i | none => pickAny as done left) with
    | some i => i :: order ss as n (i :: done) (removeN i left)
    | none => []

/-- Every later one either waits for x, or may as well come ahead of it. -/
def fine1 (ss : List SOper) (cl : List (List Nat)) (x : Nat) : List Nat → Bool
  | [] => true
  | y :: r => (hasN x (cl.getD y []) || (match ss[x]?, ss[y]? with | some a, some b => loose a b | _, _ => false)) && fine1 ss cl x r
def fine (ss : List SOper) (cl : List (List Nat)) : List Nat → Bool
  | [] => true
  | x :: r => fine1 ss cl x r && fine ss cl r

/-- Each behind all that is ahead of it. -/
def topoN (as : List (List Nat)) : List Nat → List Nat → Bool
  | _, [] => true
  | done, x :: r => (as.getD x []).all (fun k => hasN k done) && topoN as (x :: done) r

def nodupN : List Nat → Bool
  | [] => true
  | x :: r => !hasN x r && nodupN r

def pickAll (ss : List SOper) : List Nat → Option (List SOper)
  | [] => some []
  | i :: r => match ss[i]?, pickAll ss r with
    | some s, some l => some (s :: l)
    | _, _ => none

def coperAll (P : Program) (ops : Array Oper) (nt : Nat) : List Oper → Option (List SOper)
  | [] => some []
  | o :: r => match coper P ops nt o, coperAll P ops nt r with
    | some s, some l => some (s :: l)
    | _, _ => none

/-- The calls taken as ones that leave all that was there as it was. -/
def calm1 (s : SOper) : SOper :=
  match s.op with
  | .call f xs => { s with op := .callq f xs }
  | .callv x xs => { s with op := .callvq x xs }
  | _ => s

def ordered (ss : List SOper) (as : List (List Nat)) (n : Nat) : Option (List SOper) :=
  let cl := (List.range n).map fun i => closure as (n * n + n) (as.getD i []) []
  let l := order ss as n [] (List.range n)
  if l.length = n ∧ nodupN l = true ∧ l.all (fun i => Nat.ble (i + 1) n) = true ∧ fine ss cl l = true ∧ topoN as [] l = true then pickAll ss l else none

/-! Two that neither waits for the other, and that may not be swapped: either comes first. -/
def fineX1 (ss : List SOper) (cl : List (List Nat)) (a b x : Nat) : List Nat → Bool
  | [] => true
  | y :: r => (hasN x (cl.getD y []) || (match ss[x]?, ss[y]? with | some s, some t => loose s t | _, _ => false) || (Nat.beq x a && (Nat.beq y b || hasN b (cl.getD y [])))) && fineX1 ss cl a b x r
def fineX (ss : List SOper) (cl : List (List Nat)) (a b : Nat) : List Nat → Bool
  | [] => true
  | x :: r => fineX1 ss cl a b x r && fineX ss cl a b r
/-- What stands ahead of a, and what behind. -/
def splitAt2 (a : Nat) : List Nat → Option (List Nat × List Nat)
  | [] => none
  | x :: r => bif Nat.beq x a then some ([], r) else match splitAt2 a r with
    | some (p, q) => some (x :: p, q)
    | none => none
def hardOf (ss : List SOper) (cl : List (List Nat)) (x : Nat) : List Nat → List (Nat × Nat)
  | [] => []
  | y :: r => if (match ss[x]?, ss[y]? with | some s, some t => (Nat.ble 2 (cls s.op) && Nat.ble 2 (cls t.op)) || (Nat.beq 1 (cls s.op) && Nat.beq 3 (cls t.op)) || (Nat.beq 3 (cls s.op) && Nat.beq 1 (cls t.op)) | _, _ => false) && !hasN x (cl.getD y []) && !hasN y (cl.getD x []) then (x, y) :: hardOf ss cl x r else hardOf ss cl x r
def hard (ss : List SOper) (cl : List (List Nat)) : List Nat → List (Nat × Nat)
  | [] => []
  | x :: r => hardOf ss cl x r ++ hard ss cl r
def orderX (ss : List SOper) (as : List (List Nat)) (n a b : Nat) : List Nat := order ss (as.set b (a :: as.getD b [])) n [] (List.range n)
/-- Is l an order, but that b may come ahead of a? -/
def okX (ss : List SOper) (as cl : List (List Nat)) (n a b : Nat) (l : List Nat) : Bool :=
  Nat.beq l.length n && nodupN l && l.all (fun i => Nat.ble (i + 1) n) && fineX ss cl a b l && topoN as [] l
def lateX (cl : List (List Nat)) (a b : Nat) : List Nat → Bool
  | [] => true
  | y :: r => (Nat.beq y b || hasN a (cl.getD y []) || hasN b (cl.getD y [])) && lateX cl a b r
def pairAt (ss : List SOper) (as cl : List (List Nat)) (n a b : Nat) : Option (List SOper × List SOper × List SOper) :=
  let p := order ss as n [] ((List.range n).filter fun i => !(Nat.beq i a) && !(Nat.beq i b) && !(hasN a (cl.getD i [])) && !(hasN b (cl.getD i [])))
  let rest := (List.range n).filter fun i => !(hasN i p)
  let r1 := order ss as n (a :: p) (removeN a rest)
  let r2 := order ss as n (b :: p) (removeN b rest)
  if Nat.beq a b = false ∧ okX ss as cl n a b (p ++ a :: r1) = true ∧ okX ss as cl n b a (p ++ b :: r2) = true ∧ lateX cl a b r1 = true then
    match pickAll ss p, pickAll ss (a :: r1), pickAll ss (b :: r2) with
    | some sp, some s1, some s2 => some (sp, s1, s2)
    | _, _, _ => none
  else none
def pairIn (ss : List SOper) (as cl : List (List Nat)) (n : Nat) : List (Nat × Nat) → Option (List SOper × List SOper × List SOper)
  | [] => none
  | (a, b) :: r => match pairAt ss as cl n a b with
    | some x => some x
    | none => pairIn ss as cl n r
def ordered2 (ss : List SOper) (as : List (List Nat)) (n : Nat) : Option (List SOper × List SOper × List SOper) :=
  let cl := (List.range n).map fun i => closure as (n * n + n) (as.getD i []) []
  pairIn ss as cl n (hard ss cl (List.range n))
def cregion2 (P : Program) (nt : Nat) (ops : Array Oper) : Option (List SOper × List SOper × List SOper) :=
  match coperAll P ops nt ops.toList with
  | none => none
  | some ss => ordered2 (ss.map calm1) (aheads ops) ops.size

/-- All calls taken as calm, but one that waits for all the others. -/
def covers (cl : List (List Nat)) (n i : Nat) : Bool := (List.range n).all fun j => Nat.beq j i || hasN j (cl.getD i [])
def calmL (cl : List (List Nat)) (n : Nat) : Nat → List SOper → List SOper
  | _, [] => []
  | i, s :: r => (bif covers cl n i then s else calm1 s) :: calmL cl n (i + 1) r
def calmed (ss : List SOper) (as : List (List Nat)) (n : Nat) : List SOper :=
  calmL ((List.range n).map fun i => closure as (n * n + n) (as.getD i []) []) n 0 ss

def cregion (P : Program) (nt : Nat) (ops : Array Oper) (draw : Bool) : Option (List SOper) :=
  match coperAll P ops nt ops.toList with
  | none => none
  | some ss =>
    match draw with
    | false => some ss
    | true => match ordered ss (aheads ops) ops.size with
      | some l => some l
      | none => ordered (calmed ss (aheads ops) ops.size) (aheads ops) ops.size

/-! Whatever order: a tree. -/
/-- Neither writes a slot that the other one names. -/
def envL (x y : SOper) : Bool :=
  (match x.dst with
   | some d => !hasN d y.slots && (match y.dst with | some e => !Nat.beq d e | none => true)
   | none => true) &&
  (match y.dst with
   | some e => !hasN e x.slots
   | none => true)
/-- x may as well come behind each that is not done, or is waited for by it. -/
def easyT (ss : List SOper) (cl : List (List Nat)) (listed : Array Bool) (x : Nat) (s : SOper) : Nat → Bool
  | 0 => true
  | y + 1 => (Nat.beq y x || listed.getD y true || hasN x (cl.getD y []) || (match ss[y]? with | some t => loose s t | none => false)) && easyT ss cl listed x s y
/-- .. and the slots alone asked. -/
def freeT (ss : List SOper) (cl : List (List Nat)) (listed : Array Bool) (x : Nat) (s : SOper) : Nat → Bool
  | 0 => true
  | y + 1 => (Nat.beq y x || listed.getD y true || hasN x (cl.getD y []) || (match ss[y]? with | some t => envL s t | none => false)) && freeT ss cl listed x s y
def selfOK (s : SOper) : Bool :=
  match s.dst with
  | some d => !hasN d s.slots
  | none => true
/-- s writes no slot that a watched one names. -/
def noClash (s : SOper) : List (Nat × SOper) → Bool
  | [] => true
  | p :: W => (match s.dst with
    | some d => !hasN d p.2.slots && (match p.2.dst with | some e => !Nat.beq d e | none => true)
    | none => true) && noClash s W
def keepW (cl : List (List Nat)) (y : Nat) (s : SOper) (W : List (Nat × SOper)) : List (Nat × SOper) :=
  if Nat.ble (cls s.op) 1 = true then W else W.filter fun p => !hasN p.1 (cl.getD y [])
def pickT (ss : List SOper) (cl : List (List Nat)) (W : List (Nat × SOper)) (listed : Array Bool) (n : Nat) : List Nat → Option (Nat × SOper)
  | [] => none
  | x :: r => match ss[x]? with
    | some s => if easyT ss cl listed x s n = true ∧ noClash s W = true then some (x, s) else pickT ss cl W listed n r
    | none => none
def pickW (ss : List SOper) (cl : List (List Nat)) (W : List (Nat × SOper)) (listed : Array Bool) (n : Nat) : List Nat → Option (Nat × SOper)
  | [] => none
  | x :: r => match ss[x]? with
    | some s => if Nat.ble (cls s.op) 1 = true ∧ selfOK s = true ∧ freeT ss cl listed x s n = true ∧ noClash s W = true then some (x, s) else pickW ss cl W listed n r
    | none => none
def mkChk (W : List (Nat × SOper)) (t : OTree) : OTree :=
  match W with
  | [] => t
  | _ => .chk (W.map (·.2)) t
def altT (f : Nat → SOper → Option OTree) (ss : List SOper) : List Nat → Option OTree
  | [] => none
  | [x] => match ss[x]? with
    | some s => (f x s).map (.one s)
    | none => none
  | x :: r => match ss[x]? with
    | some s => match f x s, altT f ss r with
      | some t, some u => some (.both (.one s t) u)
      | _, _ => none
    | none => none
def treeOf (ss : List SOper) (cl : List (List Nat)) (ops : Array Oper) : Nat → Nat → List (Nat × SOper) → Array Bool → Option OTree
  | 0, _, _, listed => if (Region.ready .any ops listed).isEmpty = true then some .done else none
  | f + 1, k, W, listed =>
    match Region.ready .any ops listed with
    | [] => some .done
    | x :: r => match pickT ss cl W listed ops.size (x :: r) with
      | some (y, s) => (treeOf ss cl ops f k (keepW cl y s W) (listed.setIfInBounds y true)).map fun t => .one s (mkChk (keepW cl y s W) t)
      | none => match pickW ss cl W listed ops.size (x :: r) with
        | some (y, s) => (treeOf ss cl ops f k ((y, s) :: W) (listed.setIfInBounds y true)).map (.one s)
        | none => match k with
          | 0 => none
          | k + 1 => altT (fun i s => (treeOf ss cl ops f k (keepW cl i s W) (listed.setIfInBounds i true)).map (mkChk (keepW cl i s W))) ss (x :: r)
def dstsOf : List SOper → List Nat
  | [] => []
  | o :: l => match o.dst with
    | some d => d :: dstsOf l
    | none => dstsOf l
def ctree (P : Program) (nt : Nat) (ops : Array Oper) : Option SCode :=
  match coperAll P ops nt ops.toList with
  | none => none
  | some ss => (treeOf ss ((List.range ops.size).map fun i => closure (aheads ops) (ops.size * ops.size + ops.size) ((aheads ops).getD i []) []) ops ops.size 6 [] (Array.replicate ops.size false)).map (.tree (dstsOf ss))

/-- Without a range over a function, a defer, a recover. -/
def flat : SCode → Bool
  | .seq a b | .cond _ a b => flat a && flat b
  | .block _ c | .loop c | .scope c => flat c
  | .rangeF .. | .dfr .. | .rcv _ | .goto _ | .scopeG .. => false
  | _ => true

def okDst (nt : Nat) : Option Nat → Bool
  | some d => Nat.ble (d + 1) nt
  | none => true

/-- A region whose last operation defers a call of a function value. -/
def cdefer (P : Program) (nt : Nat) (ops : Array Oper) : Option SCode :=
  match ops.toList.getLast? with
  | some o => match o.op, o.guard with
    | .defer c, none => match c.callee, coperAll P ops nt (ops.toList.dropLast) with
      | .value x, some l => if okDst nt o.dst = true then some (.dfr l o.dst x c.args.toList) else none
      | _, _ => none
    | _, _ => none
  | none => none

/-- A region of a recover alone. -/
def crecover (nt : Nat) (ops : Array Oper) : Option SCode :=
  match ops.toList with
  | [o] => match o.op, o.guard with
    | .call c, none => match c.callee, c.args.toList with
      | .builtin .recover, [] => if okDst nt o.dst = true then some (.rcv o.dst) else none
      | _, _ => none
    | _, _ => none
  | _ => none

/-- A region without calls that are taken as quiet ones. -/
def cregionN (P : Program) (nt : Nat) (ops : Array Oper) (draw : Bool) : Option (List SOper) :=
  match coperAll P ops nt ops.toList with
  | none => none
  | some ss =>
    match draw with
    | false => some ss
    | true => ordered ss (aheads ops) ops.size

def cregionD (P : Program) (nt : Nat) (ops : Array Oper) : Option SCode :=
  match cdefer P nt ops with
  | some s => some s
  | none => crecover nt ops

/-- fl: as walks want it (calls may be taken as quiet ones; two orders of a pair); without: as runs want it. -/
def cregionC (fl : Bool) (P : Program) (nt : Nat) (ops : Array Oper) (draw : Bool) : Option SCode :=
  match fl with
  | true => match cregion P nt ops draw with
    | some l => some (.ops l)
    | none => match draw with
      | true => match cregion2 P nt ops with
        | some x => some (.two x.1 x.2.1 x.2.2)
        | none => ctree P nt ops
      | false => cregionD P nt ops
  | false => match cregionN P nt ops draw with
    | some l => some (.ops l)
    | none => match draw with
      | true => ctree P nt ops
      | false => cregionD P nt ops

/-- What comes behind a label. -/
def sfind : SCode → Nat → Option SCode
  | .seq a b, l => match sfind a l with
    | some r => some (.seq r b)
    | none => sfind b l
  | .label l', l => if l' == l then some .skip else none
  | _, _ => none
def sfirst : SCode → Option Nat
  | .seq a b => match sfirst a with
    | some l => some l
    | none => sfirst b
  | .label l => some l
  | _ => none

/-- Code that nothing is said of: it is never come to. -/
def stuckS : SCode := .ops [⟨none, none, .pan (.const (.bool true))⟩]

def compC (fl : Bool) (P : Program) (nt : Nat) : Code → Option SCode
  | .skip => some .skip
  | .label l => some (.label l)
  | .region _ ops draw => cregionC fl P nt ops draw
  | .seq a b => match compC fl P nt a, compC fl P nt b with
    | some x, some y => some (.seq x y)
    | _, _ => none
  | .cond c a b => match compC fl P nt a, compC fl P nt b with
    | some x, some y => some (.cond c x y)
    | _, _ => none
  | .block id c => (compC fl P nt c).map (.block id)
  | .loop c => (compC fl P nt c).map .loop
  | .scope c => match compC fl P nt c with
    | some sc => match sfirst sc with
      | none => some (.scope sc)
      | some l => match sfind sc l with
        | some r => some (.scopeG sc l r)
        | none => none
    | none => none
  | .exit id => some (.exit id)
  | .ret => some .ret
  | .rangeFunc g ps a b => match compC fl P nt a, compC fl P nt b with
    | some x, some y => if ps.toList.all (fun p => Nat.ble (p + 1) nt) = true ∧ flat x = true ∧ flat y = true then some (.rangeF g ps.toList x y) else none
    | _, _ => none
  | .goto l => some (.goto l)
  | .refuse _ => some stuckS

abbrev comp (P : Program) (nt : Nat) (c : Code) : Option SCode := compC true P nt c

/-! ### Results -/
inductive SRes where
  | t (n : Nat)
  | c1 (a : Nat)
  | cn (a n : Nat)

def cres (P : Program) : List ResultVar → Option (List SRes)
  | [] => some []
  | .tmp n :: r => (cres P r).map (.t n :: ·)
  | .cell a t :: r => match aggOf P t, szOf P t, cres P r with
    | some true, some n, some l => some (.cn a n :: l)
    | some false, some _, some l => some (.c1 a :: l)
    | _, _, _ => none

end Go.Sx
