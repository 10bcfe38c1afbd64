/-
  Runs of simplified code, by a program of its own: values and a heap by names, whose places in memory are left open. Definitions.
-/
import Derived.Test.YtaeabfemedamhaaGreatDoorSxR
namespace Go.Sx
open Go

/-! ### Tries -/
inductive T (α : Type) where
  | e
  | n (l : T α) (v : Option α) (r : T α)

def T.get {α : Type} : T α → Nat → Option α
  | .e, _ => none
  | .n l v r, k => bif Nat.beq k 0 then v else bif Nat.beq (k % 2) 1 then l.get ((k - 1) / 2) else r.get ((k - 1) / 2)

def T.set {α : Type} : Nat → T α → Nat → Option α → T α
  | 0, .e, _, v => .n .e v .e
  | 0, .n l _ r, _, v => .n l v r
  | f + 1, .e, k, v => bif Nat.beq k 0 then .n .e v .e else bif Nat.beq (k % 2) 1 then .n (T.set f .e ((k - 1) / 2) v) none .e else .n .e none (T.set f .e ((k - 1) / 2) v)
  | f + 1, .n l u r, k, v => bif Nat.beq k 0 then .n l v r else bif Nat.beq (k % 2) 1 then .n (T.set f l ((k - 1) / 2) v) u r else .n l u (T.set f r ((k - 1) / 2) v)

def big : Nat := 1099511627776
/-- Keys below 2^40. -/
def T.put {α : Type} (t : T α) (k : Nat) (v : Option α) : Option (T α) := bif Nat.blt k big then some (T.set 40 t k v) else none

/-! ### Values by names -/
inductive AV where
  | i (k : IntKind) (n : Int)
  | b (t : Bool)
  | s (l : List UInt8)
  | p (a o : Nat)
  | np
  | sl (a o n c : Nat)
  | su (a o n k : Nat)
  | ns
  | m (a : Nat)
  | nm
  | f (f : Nat) (fi cap : List AV)
  | nf
  | y (l : Nat)
  | ni
  | e (t : Nat) (v : AV)
  | g (l : List AV)
  | t (l : List AV)
  | q (j : Nat)

/-- Where names lie: block, first cell, room; what is handed on unseen; loops' records. -/
structure Rho where
  pl : Nat → Option (Nat × Nat × Nat)
  op : Nat → Value
  lr : Nat → Loop
  op1 : ∀ j, (op j).oneCell' = true

mutual
def conc (ρ : Rho) : AV → Option Value
  | .i k n => some (.int k n)
  | .b t => some (.bool t)
  | .s l => some (.string ⟨⟨l⟩⟩)
  | .p a o => match ρ.pl a with
    | some (b, ba, _) => some (.pointer (some ⟨b, ba + o, none⟩))
    | none => none
  | .np => some (.pointer none)
  | .sl a o n c => match ρ.pl a with
    | some (b, ba, _) => some (.slice (some ⟨b, ba + o, none⟩) n c)
    | none => none
  | .su a o n k => match ρ.pl a with
    | some (b, ba, cp) => if n + k ≤ cp then some (.slice (some ⟨b, ba + o, none⟩) n (cp - k)) else none
    | none => none
  | .ns => some (.slice none 0 0)
  | .m a => match ρ.pl a with
    | some (b, _, _) => some (.map (some b))
    | none => none
  | .nm => some (.map none)
  | .f f fi cap => match concs ρ fi, concs ρ cap with
    | some x, some y => some (.func (.func f) ⟨x⟩ ⟨y⟩)
    | _, _ => none
  | .nf => some .nilFunc
  | .y l => match ρ.pl l with
    | some (b, _, _) => some (.func (.yield b) #[] #[])
    | none => none
  | .ni => some .nilIface
  | .e t v => match conc ρ v with
    | some x => some (.iface t x)
    | none => none
  | .g l => match concs ρ l with
    | some x => some (.agg ⟨x⟩)
    | none => none
  | .t l => match concs ρ l with
    | some x => some (.tuple ⟨x⟩)
    | none => none
  | .q j => some (ρ.op j)
def concs (ρ : Rho) : List AV → Option (List Value)
  | [] => some []
  | x :: l => match conc ρ x, concs ρ l with
    | some v, some vs => some (v :: vs)
    | _, _ => none
end

/-! Equal, by a test that runs. -/
def ieq : Int → Int → Bool
  | .ofNat a, .ofNat b => Nat.beq a b
  | .negSucc a, .negSucc b => Nat.beq a b
  | _, _ => false
def ilt : Int → Int → Bool
  | .ofNat a, .ofNat b => Nat.blt a b
  | .negSucc a, .negSucc b => Nat.blt b a
  | .ofNat _, .negSucc _ => false
  | .negSucc _, .ofNat _ => true
def keq (a b : IntKind) : Bool :=
  match a, b with
  | .i8, .i8 | .i16, .i16 | .i32, .i32 | .i64, .i64 | .u8, .u8 | .u16, .u16 | .u32, .u32 | .u64, .u64 => true
  | _, _ => false
def beqB (a b : Bool) : Bool := bif a then b else !b
def ueq (a b : UInt8) : Bool := Nat.beq a.toNat b.toNat
def seq8 : List UInt8 → List UInt8 → Bool
  | [], [] => true
  | a :: l, b :: m => bif ueq a b then seq8 l m else false
  | _, _ => false
def slt8 : List UInt8 → List UInt8 → Bool
  | _, [] => false
  | [], _ :: _ => true
  | a :: l, b :: m => bif Nat.blt a.toNat b.toNat then true else bif ueq a b then slt8 l m else false

mutual
def aeq : AV → AV → Bool
  | .i k n, .i k' n' => keq k k' && ieq n n'
  | .b t, .b t' => beqB t t'
  | .s l, .s l' => seq8 l l'
  | .p a o, .p a' o' => Nat.beq a a' && Nat.beq o o'
  | .np, .np => true
  | .sl a o n c, .sl a' o' n' c' => Nat.beq a a' && Nat.beq o o' && Nat.beq n n' && Nat.beq c c'
  | .su a o n c, .su a' o' n' c' => Nat.beq a a' && Nat.beq o o' && Nat.beq n n' && Nat.beq c c'
  | .ns, .ns => true
  | .m a, .m a' => Nat.beq a a'
  | .nm, .nm => true
  | .f f x y, .f f' x' y' => Nat.beq f f' && aeqs x x' && aeqs y y'
  | .nf, .nf => true
  | .y l, .y l' => Nat.beq l l'
  | .ni, .ni => true
  | .e t v, .e t' v' => Nat.beq t t' && aeq v v'
  | .g l, .g l' => aeqs l l'
  | .t l, .t l' => aeqs l l'
  | .q j, .q j' => Nat.beq j j'
  | _, _ => false
def aeqs : List AV → List AV → Bool
  | [], [] => true
  | x :: l, y :: m => aeq x y && aeqs l m
  | _, _ => false
end

/-! ### The heap by names -/
/-- How a loop is left: nil: not; some none: by ret; some (some id): by exit. -/
abbrev APend := Option (Option Nat)

inductive AB where
  | cells (w : Bool) (gz : Nat) (l : List AV)
  | map (es : List (AV × AV × Nat)) (clock : Nat)
  | iter (m : Option Nat) (since : Nat) (seen : List Nat) (last : Nat)
  | dfd (open_ : Bool)
  | siter (l : List UInt8) (pos : Nat)
  | loop (st : LoopState) (p : APend)
  | dead

def aeqp : APend → APend → Bool
  | none, none => true
  | some none, some none => true
  | some (some a), some (some b) => Nat.beq a b
  | _, _ => false
def steq : LoopState → LoopState → Bool
  | .ready, .ready | .busy, .busy | .done, .done | .exhausted, .exhausted => true
  | _, _ => false
def aeqm : List (AV × AV × Nat) → List (AV × AV × Nat) → Bool
  | [], [] => true
  | (k, v, b) :: l, (k', v', b') :: m => aeq k k' && aeq v v' && Nat.beq b b' && aeqm l m
  | _, _ => false
def neqs : List Nat → List Nat → Bool
  | [], [] => true
  | a :: l, b :: m => Nat.beq a b && neqs l m
  | _, _ => false
def oeq : Option Nat → Option Nat → Bool
  | none, none => true
  | some a, some b => Nat.beq a b
  | _, _ => false
def beqAB : AB → AB → Bool
  | .cells w g l, .cells w' g' l' => beqB w w' && Nat.beq g g' && aeqs l l'
  | .map es c, .map es' c' => aeqm es es' && Nat.beq c c'
  | .iter m s l t, .iter m' s' l' t' => oeq m m' && Nat.beq s s' && neqs l l' && Nat.beq t t'
  | .dfd t, .dfd t' => beqB t t'
  | .siter l p, .siter l' p' => seq8 l l' && Nat.beq p p'
  | .loop st p, .loop st' p' => steq st st' && aeqp p p'
  | .dead, .dead => true
  | _, _ => false
def beqO {α : Type} (f : α → α → Bool) : Option α → Option α → Bool
  | none, none => true
  | some a, some b => f a b
  | _, _ => false
def beqT {α : Type} (f : α → α → Bool) : T α → T α → Bool
  | .e, .e => true
  | .n l v r, .n l' v' r' => beqO f v v' && beqT f l l' && beqT f r r'
  | _, _ => false

/-! ### Lists -/
def nth {α : Type} : List α → Nat → Option α
  | [], _ => none
  | x :: _, 0 => some x
  | _ :: l, n + 1 => nth l n
def taken {α : Type} : List α → Nat → Option (List α)
  | _, 0 => some []
  | [], _ + 1 => none
  | x :: l, n + 1 => match taken l n with
    | some r => some (x :: r)
    | none => none
def dropped {α : Type} : List α → Nat → List α
  | l, 0 => l
  | [], _ + 1 => []
  | _ :: l, n + 1 => dropped l n
def joined {α : Type} : List α → List α → List α
  | [], m => m
  | x :: l, m => x :: joined l m
def spliceA : List AV → Nat → List AV → List AV
  | l, _, [] => l
  | [], _, _ :: _ => []
  | _ :: l, 0, v :: vs => v :: spliceA l 0 vs
  | x :: l, n + 1, v :: vs => x :: spliceA l n (v :: vs)
def copies {α : Type} : Nat → List α → List α
  | 0, _ => []
  | n + 1, z => joined z (copies n z)
def countA {α : Type} : List α → Nat
  | [] => 0
  | _ :: l => countA l + 1

/-! ### Operands -/
def aval : Value → Option AV
  | .int k n => some (.i k n)
  | .bool t => some (.b t)
  | .string s => some (.s s.data.toList)
  | .pointer none => some .np
  | .slice none 0 0 => some .ns
  | .map none => some .nm
  | .nilFunc => some .nf
  | .nilIface => some .ni
  | .tuple ⟨[]⟩ => some (.t [])
  | _ => none
def avals : List Value → Option (List AV)
  | [] => some []
  | x :: l => match aval x, avals l with
    | some v, some vs => some (v :: vs)
    | _, _ => none
/-- .. a struct's zero, too. -/
def avalg : Value → Option AV
  | .agg ⟨l⟩ => match avals l with
    | some x => some (.g x)
    | none => none
  | v => aval v
abbrev AE := T AV
abbrev AH := T AB
/-- Names below this are package variables' own. -/
def gtop : Nat := 1000
/-- What is written: package variables are read alone. -/
def T.wput (H : AH) (a : Nat) (B : Option AB) : Option AH := bif Nat.blt a gtop then none else H.put a B
def aev (H : AH) (E : AE) : Operand → Option AV
  | .tmp t => E.get t
  | .const v => aval v
  | .global g => match H.get g with
    | some (.cells _ _ _) => bif Nat.blt g gtop then some (.p g 0) else none
    | _ => none
  | .func f => some (.f f [] [])
def aevs (H : AH) (E : AE) : List Operand → Option (List AV)
  | [] => some []
  | x :: xs => match aev H E x, aevs H E xs with
    | some v, some vs => some (v :: vs)
    | _, _ => none
def aupd (E : AE) (d : Option Nat) (v : AV) : Option AE :=
  match d with
  | none => some E
  | some d => E.put d (some v)
def abnd (H : AH) (E : AE) (x : Option Operand) (dflt : Nat) : Option Int :=
  match x with
  | none => some dflt
  | some x => match aev H E x with
    | some (.i _ n) => some n
    | _ => none

/-! ### Cells -/
def acells : AV → Option (List AV)
  | .g l => some l
  | v => some [v]
def one1 : AV → Bool
  | .g _ | .t _ => false
  | _ => true
def onesA : List AV → Bool
  | [] => true
  | x :: l => one1 x && onesA l
def getB (H : AH) (a : Nat) : Option (Bool × Nat × List AV) :=
  match H.get a with
  | some (.cells w g l) => some (w, g, l)
  | _ => none
/-- A new block. -/
def grow (H : AH) (id : Nat) (B : AB) : Option AH :=
  bif Nat.blt id gtop then none else
  match H.get id with
  | none => H.put id (some B)
  | some _ => none
def setB (H : AH) (a : Nat) (w : Bool) (g : Nat) (l : List AV) (o : Nat) (vs : List AV) : Option AH :=
  bif Nat.ble (o + countA vs) (countA l) then T.wput H a (some (.cells w g (spliceA l o vs))) else none
def fillA (z : List AV) : List (Nat × Nat) → List AV → Option (List AV)
  | (off, n) :: ps, v :: vs => match acells v with
    | some l => bif Nat.beq (countA l) n && Nat.ble (off + n) (countA z) then fillA (spliceA z off l) ps vs else none
    | none => none
  | [], [] => some z
  | _, _ => none
/-- What a slice of n holds. -/
def readS (H : AH) (v : AV) (n size : Nat) : Option (List AV) :=
  match v with
  | .ns => bif Nat.beq n 0 then some [] else none
  | .sl a o _ _ | .su a o _ _ => match getB H a with
    | some (_, _, l) => taken (dropped l o) (n * size)
    | none => none
  | _ => none

def anil : Nat → AV → Option Bool
  | 0, .np => some true
  | 0, .p _ _ => some false
  | 1, .ns => some true
  | 1, .sl .. => some false
  | 1, .su .. => some false
  | 2, .nm => some true
  | 2, .m _ => some false
  | 3, .nf => some true
  | 3, .f .. => some false
  | 3, .y _ => some false
  | 4, .ni => some true
  | 4, .e .. => some false
  | _, _ => none
def afits : Kd → AV → Bool
  | .int k, .i k' _ => keq k k'
  | .str, .s _ => true
  | .bool, .b _ => true
  | _, _ => false
def afitsAll : List Kd → List AV → Bool
  | [], [] => true
  | k :: ks, v :: vs => afits k v && afitsAll ks vs
  | _, _ => false
def afitsM (kd : Kd) : List (AV × AV × Nat) → Bool
  | [] => true
  | (k, _) :: es => afits kd k && afitsM kd es
def afind (k : AV) : List (AV × AV × Nat) → Nat → Option (Nat × AV)
  | [], _ => none
  | (k', v, _) :: es, i => bif aeq k k' then some (i, v) else afind k es (i + 1)
def asetM (v : AV) : List (AV × AV × Nat) → Nat → List (AV × AV × Nat)
  | [], _ => []
  | (k, _, b) :: es, 0 => (k, v, b) :: es
  | e :: es, i + 1 => e :: asetM v es i
/-- The entries not seen yet; none: one is younger than the range. -/
def aleft (since : Nat) (seen : List Nat) : List (AV × AV × Nat) → Option (List (AV × AV × Nat))
  | [] => some []
  | e :: es => match aleft since seen es with
    | some l => bif Nat.blt e.2.2 since then (bif hasN e.2.2 seen then some l else some (e :: l)) else none
    | none => none
def abyBorn (b : Nat) : List (AV × AV × Nat) → Option (AV × AV × Nat)
  | [] => none
  | e :: es => bif Nat.beq e.2.2 b then some e else abyBorn b es
def adelM : List (AV × AV × Nat) → Nat → List (AV × AV × Nat)
  | [], _ => []
  | _ :: es, 0 => es
  | e :: es, i + 1 => e :: adelM es i

/-! ### Numbers -/
def wrapF (k : IntKind) (z : Int) : Int :=
  match k, z with
  | .i64, .ofNat n => bif Nat.blt n 9223372036854775808 then .ofNat n else k.wrap z
  | _, _ => k.wrap z
def arithF (op : BinOp) (k : IntKind) (a b : Int) : Int :=
  match op with
  | .add => wrapF k (a + b)
  | .sub => wrapF k (a - b)
  | _ => wrapF k (a * b)
/-- A number looked at: so that it stands there as a numeral. -/
def mkI (k : IntKind) (z : Int) : AV :=
  match z with
  | .ofNat n => bif Nat.beq n n then .i k (.ofNat n) else .i k (.ofNat n)
  | .negSucc n => bif Nat.beq n n then .i k (.negSucc n) else .i k (.negSucc n)
def acmpI (op : BinOp) (a b : Int) : Option Bool :=
  match op with
  | .eql => some (ieq a b)
  | .neq => some (!ieq a b)
  | .lss => some (ilt a b)
  | .leq => some (!ilt b a)
  | .gtr => some (ilt b a)
  | .geq => some (!ilt a b)
  | _ => none
def acmpS (op : BinOp) (a b : List UInt8) : Option Bool :=
  match op with
  | .eql => some (seq8 a b)
  | .neq => some (!seq8 a b)
  | .lss => some (slt8 a b)
  | .leq => some (slt8 a b || seq8 a b)
  | .gtr => some (!(slt8 a b || seq8 a b))
  | .geq => some (!slt8 a b)
  | _ => none
/-- A number that is none below zero. -/
def inat : Int → Option Nat
  | .ofNat n => some n
  | .negSucc _ => none
def abytes : List AV → Option (List UInt8)
  | [] => some []
  | .i .u8 (.ofNat n) :: l => match abytes l with
    | some r => bif Nat.beq (UInt8.ofNat n).toNat n then some (UInt8.ofNat n :: r) else none
    | none => none
  | _ => none
def abyteCells (l : List UInt8) : List AV := l.map fun b => .i .u8 (.ofNat b.toNat)
def alen : AV → Option Nat
  | .ns => some 0
  | .sl _ _ n _ => some n
  | .su _ _ n _ => some n
  | _ => none
/-- The first n bytes of a slice or a string. -/
def readB (H : AH) (v : AV) (n : Nat) : Option (List AV) :=
  match v with
  | .s l => taken (abyteCells l) n
  | v => readS H v n 1
def alenB : AV → Option Nat
  | .s l => some (countA l)
  | v => alen v

/-- A cut of a slice. -/
def acut (size : Nat) (v : AV) (l m : Nat) : Option AV :=
  match v with
  | .ns => bif Nat.beq l 0 && Nat.beq m 0 then some .ns else none
  | .sl a o _ c => bif Nat.ble l m && Nat.ble m c then some (.sl a (bif Nat.blt l c then o + l * size else o) (m - l) (c - l)) else none
  | .su a o n k => bif Nat.ble l m && Nat.ble m n && Nat.blt l n then some (.su a (o + l * size) (m - l) (k + l)) else (bif Nat.beq l 0 && Nat.beq m 0 then some (.su a o 0 k) else none)
  | _ => none

/-- A block's mark: the cells of an item of it, if it may grow (below this), and its type (times this), if that is kept. -/
def gM : Nat := 65536
/-- An append of ys to a slice: the new slice's block by the name id; its type is kept, if it is one (ty). -/
def appA (H : AH) (id size bytes ty : Nat) (w : Bool) (v : AV) (ys : List AV) (m : Nat) : Option (AV × AH) :=
  match v with
  | .ns => bif Nat.beq m 0 then some (.ns, H) else
    bif Nat.ble ((m * 2 + 768) * bytes) 281474976710656 then
      bif Nat.blt size gM then match grow H id (.cells w (size + gM * ty) ys) with
        | some H' => some (.su id 0 m 0, H')
        | none => none
      else none
    else none
  | .sl a o n c => match getB H a with
    | some (w', g, l) => bif beqB w' false || w then
        bif Nat.ble (n + m) c then
          match setB H a w g l (o + n * size) ys with
          | some H' => bif Nat.ble (o + (n + m) * size) (countA l) then some (.sl a o (n + m) c, H') else none
          | none => none
        else bif Nat.ble (((n + m) * 2 + 768) * bytes) 281474976710656 then
          match taken (dropped l o) (n * size) with
          | some xs => bif Nat.blt size gM then match grow H id (.cells w (size + gM * ty) (joined xs ys)) with
              | some H' => some (.su id 0 (n + m) 0, H')
              | none => none
            else none
          | none => none
        else none
      else none
    | none => none
  | .su a o n k => match getB H a with
    | some (w', g, l) => bif Nat.beq (g % gM) size && Nat.blt 0 size && Nat.ble (o + n * size) (countA l) && Nat.beq o (k * size) && (beqB w' false || w) && Nat.ble (((n + m) * 2 + 768) * bytes) 281474976710656 then
        bif Nat.ble (o + (n + m) * size) (countA l) then
          match setB H a w g l (o + n * size) ys with
          | some H' => some (.su a o (n + m) k, H')
          | none => none
        else match taken (dropped l o) (n * size) with
          | some xs => match T.wput H a (some .dead) with
            | some H1 => match grow H1 id (.cells w (size + gM * (bif Nat.beq (g / gM) ty && Nat.beq o 0 then ty else 0)) (joined xs ys)) with
              | some H' => some (.su id 0 (n + m) 0, H')
              | none => none
            | none => none
          | none => none
      else none
    | none => none
  | _ => none

def eqResI (neg t : Bool) : AV := .b (bif t then !neg else neg)

/-- One operation that calls nothing. id: the name for what is new. -/
def aop (P : Program) (E : AE) (H : AH) (id : Nat) : SOp → Option (AV × AH)
  | .mv x => match aev H E x with
    | some v => some (v, H)
    | none => none
  | .pick c a b => match aev H E c, aev H E a, aev H E b with
    | some (.b t), some x, some y => some (bif t then x else y, H)
    | _, _, _ => none
  | .new z => match avals z with
    | some l => match grow H id (.cells false 0 l) with
      | some H' => some (.p id 0, H')
      | none => none
    | none => none
  | .box x => match aev H E x with
    | some v => match acells v with
      | some l => match grow H id (.cells false 0 l) with
        | some H' => some (.p id 0, H')
        | none => none
      | none => none
    | none => none
  | .build z ps xs => match avals z, aevs H E xs with
    | some z, some vs => match fillA z ps vs with
      | some l => some (.g l, H)
      | none => none
    | _, _ => none
  | .bslice z n ps xs => match avals z, aevs H E xs with
    | some z, some vs => match fillA z ps vs with
      | some l => match grow H id (.cells false 0 l) with
        | some H' => some (.sl id 0 n n, H')
        | none => none
      | none => none
    | _, _ => none
  | .ld1 x => match aev H E x with
    | some (.p a o) => match getB H a with
      | some (_, _, l) => match nth l o with
        | some v => some (v, H)
        | none => none
      | none => none
    | _ => none
  | .ldn n x => match aev H E x with
    | some (.p a o) => match getB H a with
      | some (_, _, l) => match taken (dropped l o) n with
        | some vs => some (.g vs, H)
        | none => none
      | none => none
    | _ => none
  | .st n x v => match aev H E x, aev H E v with
    | some (.p a o), some v => match getB H a, acells v with
      | some (false, g, l), some vs => bif Nat.beq (countA vs) n && onesA vs then
          match setB H a false g l o vs with
          | some H' => some (.t [], H')
          | none => none
        else none
      | _, _ => none
    | _, _ => none
  | .stb x v => match aev H E x, aev H E v with
    | some (.p a o), some v => match getB H a, acells v with
      | some (_w, g, l), some vs => bif Nat.beq (countA vs) 1 && onesA vs then
          match setB H a true g l o vs with
          | some H' => some (.t [], H')
          | none => none
        else none
      | _, _ => none
    | _, _ => none
  | .nilck x => match aev H E x with
    | some (.p a o) => some (.p a o, H)
    | some (.f f fi c) => some (.f f fi c, H)
    | some (.y l) => some (.y l, H)
    | _ => none
  | .ar op x y => match aev H E x, aev H E y with
    | some (.i k a), some (.i k' b) => bif keq k k' then some (mkI k (arithF op k a b), H) else none
    | _, _ => none
  | .bit op x y => match aev H E x, aev H E y with
    | some (.i k a), some (.i k' b) => bif keq k k' then some (mkI k (bitw op k a b), H) else none
    | _, _ => none
  | .cmp op x y => match aev H E x, aev H E y with
    | some (.i k a), some (.i k' b) => bif keq k k' then match acmpI op a b with
        | some t => some (.b t, H)
        | none => none
      else none
    | some (.s a), some (.s b) => match acmpS op a b with
      | some t => some (.b t, H)
      | none => none
    | _, _ => none
  | .cmpb neg x y => match aev H E x, aev H E y with
    | some (.b a), some (.b b) => some (eqResI neg (beqB a b), H)
    | _, _ => none
  | .cat x y => match aev H E x, aev H E y with
    | some (.s a), some (.s b) => bif Nat.blt (countA a + countA b) 9223372036854775808 then some (.s (joined a b), H) else none
    | _, _ => none
  | .eqp neg x y => match aev H E x, aev H E y with
    | some .np, some .np => some (.b (!neg), H)
    | some .np, some (.p _ _) => some (.b neg, H)
    | some (.p _ _), some .np => some (.b neg, H)
    | some (.p a o), some (.p a' o') => match getB H a, getB H a' with
      | some (false, _, _ :: _), some (false, _, _ :: _) => some (eqResI neg (Nat.beq a a' && Nat.beq o o'), H)
      | _, _ => none
    | _, _ => none
  | .eqn kd neg x => match aev H E x with
    | some v => match anil kd v with
      | some r => some (eqResI neg r, H)
      | none => none
    | none => none
  | .eqa neg ks x y => match aev H E x, aev H E y with
    | some (.g a), some (.g b) => bif afitsAll ks a && afitsAll ks b then some (eqResI neg (aeqs a b), H) else none
    | _, _ => none
  | .un op x => match op, aev H E x with
    | .not, some (.b t) => some (.b (!t), H)
    | .neg, some (.i k a) => some (mkI k (wrapF k (0 - a)), H)
    | .xor, some (.i k a) => some (mkI k (bitw .xor k (ones k) a), H)
    | _, _ => none
  | .fa off x => match aev H E x with
    | some (.p a o) => some (.p a (o + off), H)
    | _ => none
  | .fl1 off x => match aev H E x with
    | some (.g l) => match nth l off with
      | some v => some (v, H)
      | none => none
    | _ => none
  | .fln off n x => match aev H E x with
    | some (.g l) => bif Nat.ble (off + n) (countA l) then match taken (dropped l off) n with
        | some vs => some (.g vs, H)
        | none => none
      else none
    | _ => none
  | .ixa len size x i => match aev H E x, aev H E i with
    | some (.p a o), some (.i _ (.ofNat j)) => bif Nat.blt j len then some (.p a (o + j * size), H) else none
    | _, _ => none
  | .ixs size x i => match aev H E x, aev H E i with
    | some (.sl a o n _), some (.i _ (.ofNat j)) => bif Nat.blt j n then some (.p a (o + j * size), H) else none
    | some (.su a o n _), some (.i _ (.ofNat j)) => bif Nat.blt j n then some (.p a (o + j * size), H) else none
    | _, _ => none
  | .ixc x i => match aev H E x, aev H E i with
    | some (.s l), some (.i _ (.ofNat j)) => match nth l j with
      | some c => some (mkI .u8 (.ofNat c.toNat), H)
      | none => none
    | _, _ => none
  | .ixv n size x i => match aev H E x, aev H E i with
    | some (.g l), some (.i _ (.ofNat j)) => bif Nat.blt j n then match nth l (j * size) with
        | some v => some (v, H)
        | none => none
      else none
    | _, _ => none
  | .ixw n size x i => match aev H E x, aev H E i with
    | some (.g l), some (.i _ (.ofNat j)) => bif Nat.blt j n && Nat.ble (j * size + size) (countA l) then match taken (dropped l (j * size)) size with
        | some vs => some (.g vs, H)
        | none => none
      else none
    | _, _ => none
  | .slc size x lo hi => match aev H E x with
    | some v => match alen v with
      | some n => match abnd H E lo 0, abnd H E hi n with
        | some (.ofNat l), some (.ofNat m) => match acut size v l m with
          | some u => some (u, H)
          | none => none
        | _, _ => none
      | none => none
    | none => none
  | .slc3 size x lo hi mx => match aev H E x with
    | some (.sl a o _ c) => match abnd H E lo 0, abnd H E (some hi) 0, abnd H E (some mx) 0 with
      | some (.ofNat l), some (.ofNat m), some (.ofNat k) => bif Nat.ble l m && Nat.ble m k && Nat.ble k c then some (.sl a (bif Nat.blt l k then o + l * size else o) (m - l) (k - l), H) else none
      | _, _, _ => none
    | some (.su a o n _) => match abnd H E lo 0, abnd H E (some hi) 0, abnd H E (some mx) 0 with
      | some (.ofNat l), some (.ofNat m), some (.ofNat k) => bif Nat.ble l m && Nat.ble m k && Nat.ble k n then some (.sl a (bif Nat.blt l k then o + l * size else o) (m - l) (k - l), H) else none
      | _, _, _ => none
    | _ => none
  | .slp n size x lo hi => match aev H E x with
    | some (.p a o) => match abnd H E lo 0, abnd H E hi n with
      | some (.ofNat l), some (.ofNat m) => bif Nat.ble l m && Nat.ble m n then some (.sl a (bif Nat.blt l n then o + l * size else o) (m - l) (n - l), H) else none
      | _, _ => none
    | _ => none
  | .sls x lo hi => match aev H E x with
    | some (.s s) => match abnd H E lo 0, abnd H E hi (countA s) with
      | some (.ofNat l), some (.ofNat m) => bif Nat.ble l m && Nat.ble m (countA s) then match taken (dropped s l) (m - l) with
          | some r => some (.s r, H)
          | none => none
        else none
      | _, _ => none
    | _ => none
  | .len x => match aev H E x with
    | some v => match alen v with
      | some n => some (.i .i64 (.ofNat n), H)
      | none => none
    | none => none
  | .lens x => match aev H E x with
    | some (.s l) => some (.i .i64 (.ofNat (countA l)), H)
    | _ => none
  | .lenm x => match aev H E x with
    | some .nm => some (.i .i64 0, H)
    | some (.m a) => match H.get a with
      | some (.map es _) => some (.i .i64 (.ofNat (countA es)), H)
      | _ => none
    | _ => none
  | .capc x => match aev H E x with
    | some .ns => some (.i .i64 0, H)
    | some (.sl _ _ _ c) => some (.i .i64 (.ofNat c), H)
    | _ => none
  | .mks bytes z x y => match avals z, aev H E x, aev H E y with
    | some z, some (.i .i64 (.ofNat n)), some (.i .i64 (.ofNat c)) => bif Nat.ble n c && Nat.ble (bytes * c) 281474976710656 && Nat.blt c 9223372036854775808 then
        match grow H id (.cells false 0 (copies c z)) with
        | some H' => some (.sl id 0 n c, H')
        | none => none
      else none
    | _, _, _ => none
  | .mkm => match grow H id (.map [] 0) with
    | some H' => some (.m id, H')
    | none => none
  | .look kd zero ok m k => match avalg zero, aev H E m, aev H E k with
    | some z, some .nm, some k => bif afits kd k then some (bif ok then .t [z, .b false] else z, H) else none
    | some z, some (.m a), some k => match H.get a with
      | some (.map es _) => bif afits kd k && afitsM kd es then
          match afind k es 0 with
          | some (_, v) => some (bif ok then .t [v, .b true] else v, H)
          | none => some (bif ok then .t [z, .b false] else z, H)
        else none
      | _ => none
    | _, _, _ => none
  | .mup kd m k v => match aev H E m, aev H E k, aev H E v with
    | some (.m a), some k, some v => match H.get a with
      | some (.map es c) => bif afits kd k && afitsM kd es then
          match afind k es 0 with
          | some (i, _) => match T.wput H a (some (.map (asetM v es i) c)) with
            | some H' => some (.t [], H')
            | none => none
          | none => match T.wput H a (some (.map (joined es [(k, v, c)]) (c + 1))) with
            | some H' => some (.t [], H')
            | none => none
        else none
      | _ => none
    | _, _, _ => none
  | .mdel kd m k => match aev H E m, aev H E k with
    | some .nm, some k => bif afits kd k then some (.t [], H) else none
    | some (.m a), some k => match H.get a with
      | some (.map es c) => bif afits kd k && afitsM kd es then
          match afind k es 0 with
          | some (i, _) => match T.wput H a (some (.map (adelM es i) c)) with
            | some H' => some (.t [], H')
            | none => none
          | none => match T.wput H a (some (.map es c)) with
            | some H' => some (.t [], H')
            | none => none
        else none
      | _ => none
    | _, _ => none
  | .clrm x => match aev H E x with
    | some .nm => some (.t [], H)
    | some (.m a) => match H.get a with
      | some (.map _ c) => match T.wput H a (some (.map [] c)) with
        | some H' => some (.t [], H')
        | none => none
      | _ => none
    | _ => none
  | .sh k left n x => match aev H E x with
    | some (.i k' a) => bif keq k' k then some (mkI k (bif left then wrapF k (a * 2 ^ n) else a.fdiv (2 ^ n)), H) else none
    | _ => none
  | .shv k left x y => match aev H E x, aev H E y with
    | some (.i k' a), some (.i _ (.ofNat n)) => bif keq k' k then some (mkI k (bif left then wrapF k (a * 2 ^ (min n k.bits)) else a.fdiv (2 ^ (min n k.bits))), H) else none
    | _, _ => none
  | .quo x y => match aev H E x, aev H E y with
    | some (.i k a), some (.i k' b) => bif keq k k' && !ieq b 0 then some (mkI k (wrapF k (a.tdiv b)), H) else none
    | _, _ => none
  | .rem x y => match aev H E x, aev H E y with
    | some (.i k a), some (.i k' b) => bif keq k k' && !ieq b 0 then some (mkI k (a.tmod b), H) else none
    | _, _ => none
  | .cvs x => match aev H E x with
    | some (.s l) => some (.s l, H)
    | _ => none
  | .cvt k x => match aev H E x with
    | some (.i _ a) => some (mkI k (wrapF k a), H)
    | _ => none
  | .bstr x => match aev H E x with
    | some v => match alen v with
      | some n => match readS H v n 1 with
        | some vs => match abytes vs with
          | some bs => some (.s bs, H)
          | none => none
        | none => none
      | none => none
    | none => none
  | .byts x => match aev H E x with
    | some (.s l) => match grow H id (.cells true 1 (abyteCells l)) with
      | some H' => some (.su id 0 (countA l) 0, H')
      | none => none
    | _ => none
  | .app size bytes z x y => match aev H E x, aev H E y with
    | some v, some u => match alen u with
      | some m => match readS H u m size with
        | some ys => bif onesA ys && Nat.beq (countA z) size then appA H id size bytes 0 false v ys m else none
        | none => none
      | none => none
    | _, _ => none
  | .appn size bytes z y => match aev H E y with
    | some u => match alen u with
      | some m => match readS H u m size with
        | some ys => bif onesA ys && Nat.beq (countA z) size then appA H id size bytes 0 false .ns ys m else none
        | none => none
      | none => none
    | none => none
  | .appz size bytes z x y => match avals z, aev H E x, aev H E y with
    | some z, some .ns, some (.i .i64 (.ofNat m)) => bif Nat.beq (countA z) size && Nat.blt size gM && Nat.blt m 9223372036854775808 && Nat.blt 0 m && Nat.ble ((m * 2 + 768) * bytes) 281474976710656 then
        match grow H id (.cells false size (copies m z)) with
        | some H' => some (.su id 0 m 0, H')
        | none => none
      else none
    | some z, some (.sl a o n c), some (.i .i64 (.ofNat m)) => bif Nat.beq (countA z) size && Nat.blt size gM && Nat.blt m 9223372036854775808 && Nat.blt c (n + m) && Nat.ble (((n + m) * 2 + 768) * bytes) 281474976710656 then
        match getB H a with
        | some (_, _, l) => match taken (dropped l o) (n * size) with
          | some xs => match grow H id (.cells false size (joined xs (copies m z))) with
            | some H' => some (.su id 0 (n + m) 0, H')
            | none => none
          | none => none
        | none => none
      else none
    | _, _, _ => none
  | .appb e x y => match aev H E x, aev H E y with
    | some v, some u => match alenB u with
      | some m => match readB H u m with
        | some ys => bif onesA ys then appA H id 1 1 e true v ys m else none
        | none => none
      | none => none
    | _, _ => none
  | .cpy size x y => match aev H E x, aev H E y with
    | some v, some u => match alen v, alen u with
      | some n, some m => match readS H u (min m n) size with
        | some ys => bif Nat.beq (countA ys) 0 then some (.i .i64 (.ofNat (min m n)), H) else
          match v with
          | .sl a o _ _ | .su a o _ _ => match getB H a with
            | some (false, g, l) => bif onesA ys then match setB H a false g l o ys with
                | some H' => some (.i .i64 (.ofNat (min m n)), H')
                | none => none
              else none
            | _ => none
          | _ => none
        | none => none
      | _, _ => none
    | _, _ => none
  | .cpyb x y => match aev H E x, aev H E y with
    | some v, some u => match alen v, alenB u with
      | some n, some m => match readB H u (min m n) with
        | some ys => bif Nat.beq (countA ys) 0 then some (.i .i64 (.ofNat (min m n)), H) else
          match v with
          | .sl a o _ _ | .su a o _ _ => match getB H a with
            | some (_w, g, l) => bif onesA ys then match setB H a true g l o ys with
                | some H' => some (.i .i64 (.ofNat (min m n)), H')
                | none => none
              else none
            | _ => none
          | _ => none
        | none => none
      | _, _ => none
    | _, _ => none
  | .clr z x => match avals z, aev H E x with
    | some z, some v => match alen v with
      | some n => bif Nat.beq (countA (copies n z)) 0 then some (.t [], H) else
        match v with
        | .sl a o _ _ | .su a o _ _ => match getB H a with
          | some (false, g, l) => bif onesA (copies n z) then match setB H a false g l o (copies n z) with
              | some H' => some (.t [], H')
              | none => none
            else none
          | _ => none
        | _ => none
      | none => none
    | _, _ => none
  | .ext x i => match aev H E x with
    | some (.t l) => match nth l i with
      | some v => some (v, H)
      | none => none
    | _ => none
  | .fn f a c => match aevs H E a, aevs H E c with
    | some x, some y => some (.f f x y, H)
    | _, _ => none
  | .mn x y => match aev H E x, aev H E y with
    | some (.i k a), some (.i k' b) => bif keq k k' then some (.i k (bif ilt b a then b else a), H) else none
    | _, _ => none
  | .mx x y => match aev H E x, aev H E y with
    | some (.i k a), some (.i k' b) => bif keq k k' then some (.i k (bif ilt a b then b else a), H) else none
    | _, _ => none
  | .mki t x => match aev H E x with
    | some v => some (.e t v, H)
    | none => none
  | .tas t zero ok x => match avalg zero, aev H E x with
    | some z, some .ni => bif ok then some (.t [z, .b false], H) else none
    | some z, some (.e u v) => bif Nat.beq u t then some (bif ok then .t [v, .b true] else v, H) else bif ok then some (.t [z, .b false], H) else none
    | none, some (.e u v) => bif Nat.beq u t && !ok then some (v, H) else none
    | _, _ => none
  | .eqi neg x y => match aev H E x, aev H E y with
    | some .ni, some (.e _ _) => some (.b neg, H)
    | some (.e _ _), some .ni => some (.b neg, H)
    | some (.e t v), some (.e u w) => bif Nat.beq t u then match kdE P t with
        | some kd => bif afits kd v && afits kd w then some (eqResI neg (aeq v w), H) else none
        | none => none
      else some (.b neg, H)
    | _, _ => none
  | .cvm x => match aev H E x with
    | some (.sl a o n c) => match getB H a with
      | some (_, g, l) => match T.wput H a (some (.cells true g l)) with
        | some H' => some (.sl a o n c, H')
        | none => none
      | none => none
    | some (.su a o n k) => match getB H a with
      | some (_, g, l) => match T.wput H a (some (.cells true g l)) with
        | some H' => some (.su a o n k, H')
        | none => none
      | none => none
    | _ => none
  | .newT t z => match avals z with
    | some l => match grow H id (.cells false (gM * t) l) with
      | some H' => some (.p id 0, H')
      | none => none
    | none => none
  | .p2u x => match aev H E x with
    | some (.p a o) => match getB H a with
      | some (_, _, l) => bif Nat.blt o (countA l) then some (.p a o, H) else none
      | none => none
    | _ => none
  | .u2p t n x => match aev H E x with
    | some (.p a 0) => match getB H a with
      | some (_, g, l) => bif Nat.beq g (gM * t) && Nat.blt 0 t && Nat.beq (countA l) n then some (.p a 0, H) else none
      | none => none
    | _ => none
  | .sld x => match aev H E x with
    | some .ns => some (.np, H)
    | some (.sl a o _ c) => bif Nat.blt 0 c then some (.p a o, H) else none
    | some (.su a o n _) => bif Nat.blt 0 n then some (.p a o, H) else none
    | _ => none
  | .ust e x n => match aev H E x, aev H E n with
    | some .np, some (.i .i64 (.ofNat 0)) => some (.s [], H)
    | some (.p a o), some (.i .i64 (.ofNat m)) => bif Nat.beq m 0 then some (.s [], H) else
      match getB H a with
      | some (_, g, l) => bif Nat.beq o 0 && Nat.beq (g / gM) e && Nat.blt 0 e && Nat.blt m 9223372036854775808 then
          match taken l m with
          | some vs => match abytes vs with
            | some bs => match T.wput H a (some .dead) with
              | some H' => some (.s bs, H')
              | none => none
            | none => none
          | none => none
        else none
      | none => none
    | _, _ => none
  | .rng x => match aev H E x with
    | some .nm => match grow H id (.iter none 0 [] 0) with
      | some H' => some (.p id 0, H')
      | none => none
    | some (.m a) => match H.get a with
      | some (.map _ c) => match grow H id (.iter (some a) c [] c) with
        | some H' => some (.p id 0, H')
        | none => none
      | _ => none
    | _ => none
  | .nxt x => match aev H E x with
    | some (.p r 0) => match H.get r with
      | some (.iter none _ _ _) => some (.t [.b false], H)
      | some (.iter (some a) since seen last) => match H.get a with
        | some (.map es c) => match aleft since seen es with
          | some [] => bif Nat.ble since last then some (.t [.b false], H) else none
          | some [e] => bif Nat.ble since last then match T.wput H r (some (.iter (some a) since (joined seen [e.2.2]) c)) with
              | some H' => some (.t [.b true, e.1, e.2.1], H')
              | none => none
            else none
          | _ => none
        | _ => none
      | _ => none
    | _ => none
  | .rngs x => match aev H E x with
    | some (.s l) => match grow H id (.siter l 0) with
      | some H' => some (.p id 0, H')
      | none => none
    | _ => none
  | .nxts x => match aev H E x with
    | some (.p r 0) => match H.get r with
      | some (.siter l pos) => match nth l pos with
        | some c => bif Nat.blt c.toNat 128 then match T.wput H r (some (.siter l (pos + 1))) with
            | some H' => some (.t [.b true, mkI .i64 (.ofNat pos), mkI .i32 (.ofNat c.toNat)], H')
            | none => none
          else none
        | none => bif Nat.ble (countA l) pos then some (.t [.b false], H) else none
      | _ => none
    | _ => none
  | .ent x => match aev H E x with
    | some (.p r 0) => match H.get r with
      | some (.iter (some a) _ [b] last) => match H.get a with
        | some (.map es c) => bif Nat.beq c last then match abyBorn b es with
            | some e => some (.t [e.1, e.2.1], H)
            | none => none
          else none
        | _ => none
      | _ => none
    | _ => none
  | _ => none

end Go.Sx
