/-
  Runs of simplified code: the run itself. Definitions.
-/
import Derived.Test.YtaeabfemedamhaaGreatDoorSxYA
namespace Go.Sx
open Go

structure AS where
  H : AH
  N : Nat

/-- How code is left. -/
inductive AX where
  | nrm
  | ex (id : Nat)
  | ret
  | gt (l : Nat)
  | pan (ch : List (AV × Bool))

/-- A deferred call: the mark of a range over a function; a function's. -/
inductive AD where
  | mk (a : Nat)
  | fn (f : Nat) (cap args : List AV)

inductive AMode where
  | returning
  | panicking (ch : List (AV × Bool))

inductive AEnd where
  | ret (v : AV)
  | pan (ch : List (AV × Bool))

abbrev AOut := AX × AE × List AD × AS

/-- What is known of a function: its code; or what a call of it does. -/
inductive Ent where
  | code (nt : Nat) (sc : SCode) (rs : List SRes)
  | prim (g : List AV → AS → Option (AV × AS))
  | ext (g : List AV → AS → Option (AV × AS))

inductive Tbl where
  | nil
  | node (l : Tbl) (k : Nat) (e : Ent) (r : Tbl)

def Tbl.find : Tbl → Nat → Option Ent
  | .nil, _ => none
  | .node l k e r, f => bif Nat.beq f k then some e else bif Nat.blt f k then l.find f else r.find f

/-- The loops over functions that are under way: slots, what is assigned, a round. -/
abbrev AY := List (Nat × AE × List Nat × SCode × SCode)
def yfind : AY → Nat → Option (AE × List Nat × SCode × SCode)
  | [], _ => none
  | (l, x) :: Y, k => bif Nat.beq k l then some x else yfind Y k

abbrev Rec := AY → SCode → AE → List AD → AS → Option AOut

def aupdL (E : AE) : List Nat → List AV → Option AE
  | [], [] => some E
  | p :: ps, v :: vs => match E.put p (some v) with
    | some E' => aupdL E' ps vs
    | none => none
  | _, _ => none
def argsA : Nat → List AV → Option AE
  | _, [] => some .e
  | n, v :: vs => match argsA (n + 1) vs with
    | some E => E.put n (some v)
    | none => none
def delA (E : AE) : List Nat → Option AE
  | [] => some E
  | d :: l => match E.put d none with
    | some E' => delA E' l
    | none => none

def ares (E : AE) (H : AH) : List SRes → Option (List AV)
  | [] => some []
  | .t n :: r => match E.get n, ares E H r with
    | some v, some vs => some (v :: vs)
    | _, _ => none
  | .c1 a :: r => match E.get a with
    | some (.p x o) => match getB H x with
      | some (_, _, l) => match nth l o, ares E H r with
        | some v, some vs => some (v :: vs)
        | _, _ => none
      | none => none
    | _ => none
  | .cn a n :: r => match E.get a with
    | some (.p x o) => match getB H x with
      | some (_, _, l) => match taken (dropped l o) n, ares E H r with
        | some v, some vs => some (.g v :: vs)
        | _, _ => none
      | none => none
    | _ => none
def retA : List AV → AV
  | [v] => v
  | vs => .t vs

def recVA : AMode → AV
  | .panicking ((v, false) :: _) => v
  | _ => .ni
def recMA : AMode → AMode
  | .panicking ((v, false) :: ch) => .panicking ((v, true) :: ch)
  | u => u
def settleA : AMode → AMode
  | .panicking ((_, true) :: _) => .returning
  | u => u
def raisedA : AMode → List (AV × Bool) → AMode
  | .panicking old, ch => .panicking (joined ch old)
  | .returning, ch => .panicking ch

section
variable (P : Program) (tb : Tbl) (rc : Rec)

/-- A deferred function's body. -/
def arcv (Y : AY) : SCode → AMode → AE → List AD → AS → Option (AX × AE × List AD × AS × AMode)
  | .rcv d, u, E, D, S => match aupd E d (recVA u) with
    | some E' => some (.nrm, E', D, S, recMA u)
    | none => none
  | .seq a b, u, E, D, S => match arcv Y a u E D S with
    | some (.nrm, E', D', S', u') => arcv Y b u' E' D' S'
    | r => r
  | c, u, E, D, S => match rc Y c E D S with
    | some (x, E', D', S') => some (x, E', D', S', u)
    | none => none

def aleave (Y : AY) (rs : List SRes) (E : AE) : List AD → AMode → AS → Option (AEnd × AS)
  | [], .returning, S => match ares E S.H rs with
    | some vs => some (.ret (retA vs), S)
    | none => none
  | [], .panicking ch, S => some (.pan ch, S)
  | .mk a :: D, u, S => match S.H.get a with
    | some (.dfd true) => match T.wput S.H a (some (.dfd false)) with
      | some H' => aleave Y rs E D u ⟨H', S.N⟩
      | none => none
    | _ => none
  | .fn f cap args :: D, u, S => match tb.find f with
    | some (.code nt sc rs') => bif Nat.ble (countA (joined args cap)) nt then
        match argsA 0 (joined args cap) with
        | some E' => match arcv rc Y sc u E' [] S with
          | some (.nrm, E2, [], S2, u') => match ares E2 S2.H rs' with
            | some _ => aleave Y rs E D (settleA u') S2
            | none => none
          | some (.ret, E2, [], S2, u') => match ares E2 S2.H rs' with
            | some _ => aleave Y rs E D (settleA u') S2
            | none => none
          | some (.pan ch, _, [], S2, u') => aleave Y rs E D (raisedA u' ch) S2
          | _ => none
        | none => none
      else none
    | _ => none

def acall (Y : AY) (f : Nat) (args : List AV) (S : AS) : Option (AEnd × AS) :=
  match tb.find f with
  | some (.code nt sc rs) => bif Nat.ble (countA args) nt then
      match argsA 0 args with
      | some E => match rc Y sc E [] S with
        | some (.nrm, E', D, S') => aleave tb rc Y rs E' D .returning S'
        | some (.ret, E', D, S') => aleave tb rc Y rs E' D .returning S'
        | some (.pan ch, E', D, S') => aleave tb rc Y rs E' D (.panicking ch) S'
        | _ => none
      | none => none
    else none
  | some (.prim g) => match g args S with
    | some (v, S') => some (.ret v, S')
    | none => none
  | some (.ext _) => none
  | none => none

def setL (S : AS) (l : Nat) (st : LoopState) (p : APend) : Option AS :=
  match T.wput S.H l (some (.loop st p)) with
  | some H' => some ⟨H', S.N⟩
  | none => none
def isLoop (S : AS) (l : Nat) (st : LoopState) : Bool :=
  match S.H.get l with
  | some (.loop st' none) => steq st st'
  | _ => false

def ayield (Y : AY) (l : Nat) (args : List AV) (S : AS) : Option (AEnd × AS) :=
  match yfind Y l with
  | some (E, ps, a, b) => bif isLoop S l .ready && Nat.beq (countA args) (countA ps) then
      match aupdL E ps args with
      | some E0 => match rc Y a E0 [] S with
        | some (.nrm, E1, D1, S1) => bif isLoop S1 l .ready then
            match setL S1 l .busy none with
            | some S2 => match rc Y b E1 D1 S2 with
              | some (.nrm, _, _, S3) => bif isLoop S3 l .busy then match setL S3 l .ready none with
                  | some S4 => some (.ret (.b true), S4)
                  | none => none
                else none
              | some (.ret, _, _, S3) => bif isLoop S3 l .busy then match setL S3 l .done (some none) with
                  | some S4 => some (.ret (.b false), S4)
                  | none => none
                else none
              | some (.ex id, _, _, S3) => bif isLoop S3 l .busy then match setL S3 l .done (some (some id)) with
                  | some S4 => some (.ret (.b false), S4)
                  | none => none
                else none
              | _ => none
            | none => none
          else none
        | _ => none
      | none => none
    else none
  | none => none

/-- What operations come to. -/
inductive OR where
  | ok (E : AE) (S : AS)
  | pan (ch : List (AV × Bool)) (S : AS)

def anew : SOp → Bool
  | .new _ | .newT .. | .box _ | .bslice .. | .mks .. | .mkm | .byts _ | .app .. | .appn .. | .appb .. | .appz .. | .rng _ | .rngs _ => true
  | _ => false

def putR (d : Option Nat) (E : AE) : Option (AEnd × AS) → Option OR
  | some (.ret v, S) => match aupd E d v with
    | some E' => some (.ok E' S)
    | none => none
  | some (.pan ch, S) => some (.pan ch S)
  | none => none

/-- One operation whose guard lets it. -/
def arun (Y : AY) (E : AE) (S : AS) (id N' : Nat) (d : Option Nat) (op : SOp) : Option OR :=
  match op with
  | .call f xs => match aevs S.H E xs with
    | some vs => putR d E (acall tb rc Y f vs S)
    | none => none
  | .callv x xs => match aev S.H E x, aevs S.H E xs with
    | some (.f f fi cap), some vs => putR d E (acall tb rc Y f (joined fi (joined vs cap)) S)
    | some (.y l), some vs => putR d E (ayield rc Y l vs S)
    | _, _ => none
  | .callx f xs => match aevs S.H E xs with
    | some vs => match tb.find f with
      | some (.ext g) => match g vs S with
        | some (v, S') => putR d E (some (.ret v, S'))
        | none => none
      | _ => none
    | none => none
  | .pan x => match aev S.H E x with
    | some (.e t v) => some (.pan [(.e t v, false)] S)
    | _ => none
  | op => match aop P E S.H id op with
    | some (v, H') => match aupd E d v with
      | some E' => some (.ok E' ⟨H', N'⟩)
      | none => none
    | none => none

def aopr (Y : AY) (E : AE) (S : AS) (id N' : Nat) (o : SOper) : Option OR :=
  match o.guard with
  | none => arun P tb rc Y E S id N' o.dst o.op
  | some (g, want) => match E.get g with
    | some (.b t) => bif beqB t want then arun P tb rc Y E S id N' o.dst o.op else
      match aupd E o.dst (.t []) with
      | some E' => some (.ok E' S)
      | none => none
    | some (.t _) => match aupd E o.dst (.t []) with
      | some E' => some (.ok E' S)
      | none => none
    | _ => none

def aops (Y : AY) : List SOper → AE → AS → Option OR
  | [], E, S => some (.ok E S)
  | o :: l, E, S => match aopr P tb rc Y E S S.N (bif anew o.op then S.N + 1 else S.N) o with
    | some (.ok E' S') => aops Y l E' S'
    | r => r

/-- Done once more, does a quiet operation give what it gave? -/
def achk (E : AE) (H : AH) (o : SOper) : Bool :=
  match o.guard, o.dst with
  | none, some d => match aop P E H 0 o.op, E.get d with
    | some (v, _), some u => aeq v u
    | _, _ => false
  | some (g, want), some d => match E.get g with
    | some (.b t) => bif beqB t want then match aop P E H 0 o.op, E.get d with
        | some (v, _), some u => aeq v u
        | _, _ => false
      else match E.get d with
        | some u => aeq (.t []) u
        | none => false
    | some (.t _) => match E.get d with
      | some u => aeq (.t []) u
      | none => false
    | _ => false
  | _, none => false
def achks (E : AE) (H : AH) : List SOper → Bool
  | [] => true
  | o :: l => Nat.ble (cls o.op) 1 && achk P E H o && achks E H l

def beqS (S S' : AS) : Bool := Nat.beq S.N S'.N && beqT beqAB S.H S'.H

def atree (Y : AY) (base : Nat) : OTree → AE → AS → Option OR
  | .done, E, S => some (.ok E S)
  | .one o t, E, S => match aopr P tb rc Y E S (base + o.dst.getD 0) S.N o with
    | some (.ok E' S') => atree Y base t E' S'
    | r => r
  | .both a b, E, S => match atree Y base a E S, atree Y base b E S with
    | some (.ok E1 S1), some (.ok E2 S2) => bif beqT aeq E1 E2 && beqS S1 S2 then some (.ok E1 S1) else none
    | _, _ => none
  | .chk l t, E, S => bif achks P E S.H l then atree Y base t E S else none

def aeqD : List AD → List AD → Bool
  | [], [] => true
  | .mk a :: D, .mk a' :: D' => Nat.beq a a' && aeqD D D'
  | .fn f c x :: D, .fn f' c' x' :: D' => Nat.beq f f' && aeqs c c' && aeqs x x' && aeqD D D'
  | _, _ => false

/-- What rounds of a loop come to. -/
inductive LR where
  | more (E : AE) (S : AS)
  | out (o : AOut)
  | fail

def aloop (Y : AY) (c : SCode) (D : List AD) : Nat → AE → AS → LR
  | 0, E, S => match rc Y c E D S with
    | some (.nrm, E', D', S') => bif aeqD D' D then .more E' S' else .fail
    | some o => .out o
    | none => .fail
  | k + 1, E, S => match aloop Y c D k E S with
    | .more E' S' => aloop Y c D k E' S'
    | r => r

def maxL : List Nat → Nat
  | [] => 0
  | x :: l => bif Nat.blt (maxL l) x then x else maxL l

def astep (Y : AY) : SCode → AE → List AD → AS → Option AOut
  | .skip, E, D, S => some (.nrm, E, D, S)
  | .label _, E, D, S => some (.nrm, E, D, S)
  | .ops l, E, D, S => match aops P tb rc Y l E S with
    | some (.ok E' S') => some (.nrm, E', D, S')
    | some (.pan ch S') => match delA E (dstsOf l) with
      | some E' => some (.pan ch, E', D, S')
      | none => none
    | none => none
  | .tree l t, E, D, S => match atree P tb rc Y S.N t E ⟨S.H, S.N + maxL l + 1⟩ with
    | some (.ok E' S') => some (.nrm, E', D, S')
    | some (.pan ch S') => match delA E l with
      | some E' => some (.pan ch, E', D, S')
      | none => none
    | none => none
  | .two .., _, _, _ => none
  | .rcv _, _, _, _ => none
  | .seq a b, E, D, S => match rc Y a E D S with
    | some (.nrm, E', D', S') => rc Y b E' D' S'
    | r => r
  | .cond c a b, E, D, S => match aev S.H E c with
    | some (.b t) => bif t then rc Y a E D S else rc Y b E D S
    | _ => none
  | .block id c, E, D, S => match rc Y c E D S with
    | some (.ex id', E', D', S') => bif Nat.beq id' id then some (.nrm, E', D', S') else some (.ex id', E', D', S')
    | r => r
  | .loop c, E, D, S => match aloop rc Y c D 17 E S with
    | .out o => some o
    | _ => none
  | .scope c, E, D, S => match rc Y c E D S with
    | some (.gt _, _, _, _) => none
    | r => r
  | .exit id, E, D, S => some (.ex id, E, D, S)
  | .ret, E, D, S => some (.ret, E, D, S)
  | .goto l, E, D, S => some (.gt l, E, D, S)
  | .scopeG c l r, E, D, S => match rc Y c E D S with
    | some (.gt l', E', D', S') => bif Nat.beq l' l then match rc Y r E' D' S' with
        | some (.gt _, _, _, _) => none
        | r => r
      else none
    | r => r
  | .dfr l d x args, E, D, S => match aops P tb rc Y l E S with
    | some (.ok E' S') => match aev S'.H E' x, aevs S'.H E' args with
      | some (.f f fi cap), some vs => match aupd E' d (.t []) with
        | some E2 => some (.nrm, E2, .fn f cap (joined fi vs) :: D, S')
        | none => none
      | _, _ => none
    | some (.pan ch S') => match delA E (dstsOf l) with
      | some E' => some (.pan ch, E', D, S')
      | none => none
    | none => none
  | .rangeF g ps a b, E, D, S => match aev S.H E g with
    | some (.f f fi cap) => match grow S.H S.N (.dfd true) with
      | some H1 => match grow H1 (S.N + 1) (.loop .ready none) with
        | some H2 => match acall tb rc ((S.N + 1, E, ps, a, b) :: Y) f (joined fi (joined [.y (S.N + 1)] cap)) ⟨H2, S.N + 2⟩ with
          | some (.ret _, S3) => match S3.H.get (S.N + 1) with
            | some (.loop st p) => bif steq st .busy then none else
              match setL S3 (S.N + 1) .exhausted p with
              | some S4 => match p with
                | none => some (.nrm, E, .mk S.N :: D, S4)
                | some none => some (.ret, E, .mk S.N :: D, S4)
                | some (some id) => some (.ex id, E, .mk S.N :: D, S4)
              | none => none
            | _ => none
          | _ => none
        | none => none
      | none => none
    | _ => none

end

def arec (P : Program) (tb : Tbl) (n : Nat) : Rec := Nat.rec (fun _ _ _ _ _ => none) (fun _ ih => fun Y c E D S => astep P tb ih Y c E D S) n

/-- A call, from an empty heap of names. -/
def acall0 (P : Program) (tb : Tbl) (n : Nat) (f : Nat) (args : List AV) : Option (AEnd × AS) := acall tb (arec P tb n) [] f args ⟨.e, gtop⟩

end Go.Sx
