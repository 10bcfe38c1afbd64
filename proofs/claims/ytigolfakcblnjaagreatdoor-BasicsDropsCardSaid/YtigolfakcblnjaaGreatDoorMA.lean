/-
  Layer 7: what an effect makes of a thing: plain laws.
  Layer 7: what the effects' rules do to a thing (printed by gendo.py).
  Layer 7: a keyspace behind an effect: plain laws.
  Layer 7: keys' one, whatever the effect (printed by genone.py).
  Layer 7: keys' one, whatever the effect, from its beginning (printed by genone2.py).
  Layer 7: keys' Apply, whatever the effects.
  Layer 7: the reference's pairs, members, ranks (printed by genref.py).
  Layer 7: the reference's uses, kind, Count, Drop (printed by genuse.py).
  Layer 7: the reference's done (printed by gendone.py).
  Layer 7: a list of things behind an effect: plain laws.
  Layer 7: what stands there and is not gone: Get, the reference's Names.
  Layer 7: keys' Names and Size.
  Layer 8: what is too much; what a gone thing costs.
  Layer 8: the law of what a gone thing costs (taborlaw08.BasicsDrops).
-/
import Derived.Test.YtigolfakcblnjaaGreatDoorMY
import Derived.Test.YtigolfakcblnjaaGreatDoorML
import Derived.Test.YtigolfakcblnjaaGreatDoorCodeD
import Derived.Test.YtigolfakcblnjaaGreatDoorKnown
namespace Go.Proofs.YtigolfakcblnjaaGreatDoor
open Go Go.Sx Go.Proofs.YtigolfakcblnjaaGreatDoor.C

section
variable {α : Type} {eq lt : α → Bool} {y : α}

/-- An item in its place, of those that are its likes none. -/
def putF (eq lt : α → Bool) (y : α) : List α → Bool → List α
  | [], d => if d then [] else [y]
  | x :: l, d => if eq x then putF eq lt y l d else if !d && lt x then y :: x :: putF eq lt y l true else x :: putF eq lt y l d
def delF (eq : α → Bool) (l : List α) : List α := l.filter fun x => !eq x

end

/-! ### By the place where the low ones end -/
section
variable {α : Type} {nm : α → ByteArray} {name : ByteArray}

end

/-! ### Ranks -/
/-! ### A thing behind an effect -/
def doneT (t : Thing) (e : Eff) : Thing × Int :=
  if e.op = 1 then (zeroT, 0) else
  if e.op = 2 then (textT e.text, 0) else
  if e.op = 3 then ({ t with hasU := true, unt := e.num }, 0) else
  if e.op = 4 then ({ t with hasU := false, unt := 0 }, 0) else
  if e.op = 5 then ({ t with pairs := putF (fun x => decide (x.name = e.name)) (fun x => sless e.name x.name) ⟨e.name, e.text⟩ t.pairs false }, 0) else
  if e.op = 6 then ({ t with pairs := delF (fun x => decide (x.name = e.name)) t.pairs }, if t.pairs.any (fun x => decide (x.name = e.name)) then 0 else 5) else
  if e.op = 7 then ({ t with list := e.text :: t.list }, 0) else
  if e.op = 8 then ({ t with list := t.list ++ [e.text] }, 0) else
  if e.op = 9 then ({ t with list := t.list.tail }, 0) else
  if e.op = 10 then ({ t with list := t.list.dropLast }, 0) else
  if e.op = 11 then (if 0 ≤ e.num ∧ e.num < t.list.length then ({ t with list := t.list.set e.num.toNat e.text }, 0) else (t, 4)) else
  if e.op = 12 then ({ t with list := putF (fun x => decide (x = e.name)) (fun x => sless e.name x) e.name t.list false }, 0) else
  if e.op = 13 then ({ t with list := delF (fun x => decide (x = e.name)) t.list }, if t.list.any (fun x => decide (x = e.name)) then 0 else 5) else
  if e.op = 14 then ({ t with ranks := putF (fun x => decide (x.name = e.name)) (fun x => aheadR ⟨e.name, e.num⟩ x) ⟨e.name, e.num⟩ t.ranks false }, 0) else
  if e.op = 15 then ({ t with ranks := delF (fun x => decide (x.name = e.name)) t.ranks }, if t.ranks.any (fun x => decide (x.name = e.name)) then 0 else 5) else (t, 0)

/-- Things as they are in keyspaces. -/
structure TGood (t : Thing) : Prop where
  ps : t.pairs.Pairwise fun a b => sless a.name b.name = true
  ls : t.kind = 4 → t.list.Pairwise fun a b => sless a b = true
  rs : t.ranks.Pairwise fun a b => aheadR a b = true
  once : (t.ranks.map Rank.name).Nodup
  only : t.kind = 3 → t.pairs = [] ∧ t.ranks = []
  few : countT t ≤ 65536

theorem TGood.lens {t : Thing} (g : TGood t) : Lens t := by
  have := g.few
  unfold countT at this
  exact ⟨by omega, by omega, by omega⟩

end Go.Proofs.YtigolfakcblnjaaGreatDoor
namespace Go.Proofs.YtigolfakcblnjaaGreatDoor
open Go Go.Sx Go.Proofs.YtigolfakcblnjaaGreatDoor.C

theorem _root_.Go.Sx.Chg.step {S U : List Nat} {a b c : Heap} (c1 : Chg U a b) (c2 : Chg S b c) (hs : ∀ k ∈ S, k < a.size → k ∈ U) : Chg U a c := c1.trans c2 (fun _ h => h) hs

/-- What a rule has done. -/
def DoPost (t' : Thing) (n : Int) (tb : Nat) (pv lv rv : Value) (h : Heap) (r : Value) (h' : Heap) : Prop :=
  r = .int .i64 n ∧ (n = 0 → ∃ ws, Blk h' tb ws ∧ TH h' ws t' ∧ ∀ v ∈ ws, ∀ b ∈ vblk v, b ∈ bl3 pv lv rv ∨ h.size ≤ b) ∧ Chg (tb :: bl3 pv lv rv) h h'

/-- A rule does it. -/
def DoOK (g : Nat) (t : Thing) (e : Eff) : Prop := ∀ (h : Heap) (tb : Nat) (pv lv rv : Value), Blk h tb (cellsT t pv lv rv) → TO h pv lv rv t → tb ∉ bl3 pv lv rv →
  CallsH Tryz.prog g [ptr tb, .agg ⟨encD e⟩] h (Ret (DoPost (doneT t e).1 (doneT t e).2 tb pv lv rv h))

end Go.Proofs.YtigolfakcblnjaaGreatDoor
namespace Go.Proofs.YtigolfakcblnjaaGreatDoor
open Go Go.Sx Go.Proofs.YtigolfakcblnjaaGreatDoor.C

structure Rule where
  name : Bool
  text : Bool
  number : Bool
  kind : Int
  makes : Bool
  f : Nat

def Rule.val (r : Rule) : Value := ruleV r.name r.text r.number r.kind r.makes r.f

/-- The rule of an effect. -/
def ruleR (op : Int) : Option Rule :=
  if op = 1 then some ⟨false, false, false, 0, false, 147⟩ else
  if op = 2 then some ⟨false, true, false, 0, true, 148⟩ else
  if op = 3 then some ⟨false, false, true, 0, false, 149⟩ else
  if op = 4 then some ⟨false, false, false, 0, false, 150⟩ else
  if op = 5 then some ⟨true, true, false, 2, true, 151⟩ else
  if op = 6 then some ⟨true, false, false, 2, false, 152⟩ else
  if op = 7 then some ⟨false, true, false, 3, true, 153⟩ else
  if op = 8 then some ⟨false, true, false, 3, true, 155⟩ else
  if op = 9 then some ⟨false, false, false, 3, false, 156⟩ else
  if op = 10 then some ⟨false, false, false, 3, false, 157⟩ else
  if op = 11 then some ⟨false, true, true, 3, false, 158⟩ else
  if op = 12 then some ⟨true, false, false, 4, true, 159⟩ else
  if op = 13 then some ⟨true, false, false, 4, false, 160⟩ else
  if op = 14 then some ⟨true, false, true, 5, true, 161⟩ else
  if op = 15 then some ⟨true, false, false, 5, false, 162⟩ else none

/-- What becomes of a thing. -/
inductive Fate where
  | no (n : Int)
  | drop
  | put (t : Thing)

def endF (r : Thing × Int) (there full : Bool) : Fate :=
  if r.2 ≠ 0 then .no r.2 else if r.1.kind ≠ 1 ∧ countT r.1 = 0 then .drop else if 65536 < countT r.1 ∨ (there = false ∧ full = true) then .no 3 else .put r.1

def oneF (old : Option Thing) (e : Eff) (full : Bool) : Fate :=
  match ruleR e.op with
  | none => .no 2
  | some r =>
    if (r.name = false ∧ e.name ≠ noText) ∨ (r.text = false ∧ e.text ≠ noText) ∨ (r.number = false ∧ e.num ≠ 0) then .no 2 else
    if 1048576 < e.key.size ∨ 1048576 < e.name.size ∨ 1048576 < e.text.size then .no 3 else
    match old with
    | none => if r.makes = false then .no 5 else endF (doneT { zeroT with kind := r.kind } e) false full
    | some t => if r.kind ≠ 0 ∧ t.kind ≠ r.kind then .no 170 else endF (doneT t e) true full

abbrev Space := List (ByteArray × Thing)

def findS (S : Space) (key : ByteArray) : Option Thing := (S.find? fun p => decide (p.1 = key)).map (·.2)
def dropS (S : Space) (key : ByteArray) : Space := S.filter fun p => !decide (p.1 = key)
def putS (S : Space) (key : ByteArray) (t : Thing) : Space := S.filter (fun p => sless p.1 key) ++ (key, t) :: S.filter (fun p => sless key p.1)

def Fate.num : Fate → Int
  | .no n => n
  | _ => 0
def Fate.space (S : Space) (key : ByteArray) : Fate → Space
  | .no _ => S
  | .drop => dropS S key
  | .put t => putS S key t

def fateS (S : Space) (e : Eff) : Fate := oneF (findS S e.key) e (decide (65536 ≤ S.length))
def applyS : Space → List Eff → Space × Nat × Int
  | S, [] => (S, 0, 0)
  | S, e :: d => if (fateS S e).num = 0 then let r := applyS ((fateS S e).space S e.key) d; (r.1, r.2.1 + 1, r.2.2) else (S, 0, (fateS S e).num)

def UpS (S : Space) : Prop := S.Pairwise fun a b => sless a.1 b.1 = true

theorem up_inj {S : Space} (hu : UpS S) {p q : ByteArray × Thing} (hp : p ∈ S) (hq : q ∈ S) (h : p.1 = q.1) : p = q := by
  induction S with
  | nil => simp at hp
  | cons x S ih =>
    have hx := List.pairwise_cons.1 hu
    rcases List.mem_cons.1 hp with e1 | hp
    · rcases List.mem_cons.1 hq with e2 | hq
      · rw [e1, e2]
      · have := hx.1 q hq
        rw [← e1, h, sless_irrefl] at this; cases this
    · rcases List.mem_cons.1 hq with e2 | hq
      · have := hx.1 p hp
        rw [← e2, h, sless_irrefl] at this; cases this
      · exact ih hx.2 hp hq

theorem findS_some {S : Space} (hu : UpS S) {key : ByteArray} {t : Thing} (h : (key, t) ∈ S) : findS S key = some t := by
  unfold findS
  cases hf : S.find? fun p => decide (p.1 = key) with
  | none =>
    have := List.find?_eq_none.1 hf _ h
    simp at this
  | some p =>
    have h1 := List.find?_some hf
    have h2 := List.mem_of_find?_eq_some hf
    have : p = (key, t) := up_inj hu h2 h (by simpa using h1)
    rw [this]; rfl

theorem findS_none {S : Space} {key : ByteArray} (h : ∀ p ∈ S, p.1 ≠ key) : findS S key = none := by
  unfold findS
  rw [List.find?_eq_none.2 fun p hp => by simpa using h p hp]
  rfl

theorem findS_mem {S : Space} {key : ByteArray} {t : Thing} (h : findS S key = some t) : (key, t) ∈ S := by
  unfold findS at h
  cases hf : S.find? fun p => decide (p.1 = key) with
  | none => rw [hf] at h; cases h
  | some p =>
    rw [hf] at h
    have h1 : p.1 = key := by simpa using List.find?_some hf
    have h2 := List.mem_of_find?_eq_some hf
    have h3 : p.2 = t := by simpa using h
    rw [← h1, ← h3]; exact h2

/-! ### What stays so -/
theorem TGood.zero (k : Int) : TGood { zeroT with kind := k } :=
  ⟨List.Pairwise.nil, fun _ => List.Pairwise.nil, List.Pairwise.nil, List.nodup_nil, fun _ => ⟨rfl, rfl⟩, by show (0 : Nat) + 0 + 0 ≤ 65536; omega⟩

/-- A thing that stands in a keyspace. -/
structure TIn (t : Thing) : Prop where
  good : TGood t
  some : t.kind = 3 → t.list ≠ []

/-- An effect is of the thing's kind. -/
def OfKind (t : Thing) (e : Eff) : Prop := ∀ r, ruleR e.op = some r → r.kind ≠ 0 → t.kind = r.kind

def TUp (t : Thing) : Prop := (t.kind = 3 → t.pairs = [] ∧ t.ranks = []) ∧ (t.pairs.Pairwise fun a b => sless a.name b.name = true) ∧ (t.kind = 4 → t.list.Pairwise fun a b => sless a b = true) ∧ (t.ranks.Pairwise fun a b => aheadR a b = true) ∧ (t.ranks.map Rank.name).Nodup

def InS (S : Space) : Prop := ∀ p ∈ S, TIn p.2

end Go.Proofs.YtigolfakcblnjaaGreatDoor
namespace Go.Proofs.YtigolfakcblnjaaGreatDoor
open Go Go.Sx Go.Proofs.YtigolfakcblnjaaGreatDoor.C

/-! ### The map turned -/
/-- What has become of the things. -/
def FateM (key : ByteArray) (m m' : List KI) : Fate → Prop
  | .no _ => m'.map KI.pr = m.map KI.pr
  | .drop => ∀ p, p ∈ m'.map KI.pr ↔ p ∈ m.map KI.pr ∧ p.1 ≠ key
  | .put t => ∀ p, p ∈ m'.map KI.pr ↔ p = (key, t) ∨ (p ∈ m.map KI.pr ∧ p.1 ≠ key)

theorem mem_pr {m : List KI} {p : ByteArray × Thing} : p ∈ m.map KI.pr ↔ ∃ i ∈ m, i.key = p.1 ∧ i.thing = p.2 := by
  rw [List.mem_map]
  constructor
  · rintro ⟨i, hi, rfl⟩; exact ⟨i, hi, rfl, rfl⟩
  · rintro ⟨i, hi, h1, h2⟩; exact ⟨i, hi, by cases p; simp_all [KI.pr]⟩

/-- What one does. -/
def OneP (h0 : Heap) (kb sb mb : Nat) (key : ByteArray) (m : List KI) (f : Fate) (r : Value) (h' : Heap) : Prop :=
  r = .int .i64 f.num ∧ ∃ c' m', KR h' kb sb mb c' m' ∧ FateM key m m' f ∧ Chg [mb] h0 h'

def ruleC (r : Rule) : List Value := [.bool r.name, .bool r.text, .bool r.number, .int .i64 r.kind, .bool r.makes, .func (.func r.f) #[] #[]]

end Go.Proofs.YtigolfakcblnjaaGreatDoor
namespace Go.Proofs.YtigolfakcblnjaaGreatDoor
open Go Go.Sx Go.Proofs.YtigolfakcblnjaaGreatDoor.C

/-- Look, whatever stands there. -/
theorem LookK_calls {h : Heap} {kb sb mb c : Nat} {m : List KI} (key : ByteArray) (x : KR h kb sb mb c m) :
    CallsH Tryz.prog 49 [ptr kb, .string key] h (Ret fun r h' => ((∃ i ∈ m, i.key = key ∧ ∃ pv lv rv, r = .tuple #[.agg ⟨cellsT i.thing pv lv rv⟩, .bool true] ∧ TO h' pv lv rv i.thing ∧ ∀ b ∈ bl3 pv lv rv, h.size ≤ b) ∨
      ((∀ i ∈ m, i.key ≠ key) ∧ r = .tuple #[.agg ⟨zeroV⟩, .bool false])) ∧ Chg [] h h') := by
  rcases mfind_ents key m 0 with ⟨hmf, hno⟩ | ⟨j, i, hmf, hj, hik⟩
  · refine (Look_none x.ks x.map (ents_fit m) hmf).mono fun e h' he => ?_
    cases e with
    | returned v => exact ⟨.inr ⟨hno, he.1⟩, he.2⟩
    | panicked ch => exact he.elim
    | outgrown => exact he.elim
  have hi : i ∈ m := List.mem_of_getElem? hj
  obtain ⟨Bi, ti, ni⟩ := x.here i hi
  refine f49_calls (by simp) ?_
  intro b4 h1 g1
  have hc := g1.chg
  have x1 := x.ext hc
  refine call_ret (none_calls x1.ks) ?_
  rintro _ h9 ⟨rfl, e9⟩
  have e9 := e9.symm
  subst e9
  refine Exists.intro _ (And.intro (cell_blk x1.ks.k rfl) (Exists.intro _ (And.intro (cell_blk x1.ks.s rfl) ?_)))
  refine And.intro rfl (Exists.intro (m.map KI.ent) (Exists.intro c (And.intro x1.map (And.intro (ents_fit m) ?_))))
  rw [hmf]
  refine Exists.intro _ (And.intro (cell_blk x1.ks.k rfl) (Exists.intro _ (And.intro (cell_blk x1.ks.s rfl) ?_)))
  refine And.intro rfl (Exists.intro (m.map KI.ent) (Exists.intro c (And.intro x1.map (And.intro (ents_fit m) ?_))))
  rw [hmf]
  have B1 := Bi.chg hc (by simp)
  have t1 := ti.ext hc
  refine Exists.intro i.vs (And.intro t1.len (And.intro (cells_blk B1) ?_))
  refine call_ret (copied_own t1 ni) ?_
  rintro _ h2 ⟨⟨pv, lv, rv, rfl, o2, fr⟩, hc2⟩
  have Bz : Blk h2 b4 zeroV := (show Blk h1 b4 zeroV from g1.blk).chg hc2 (by simp)
  refine Exists.intro _ (And.intro Bz (And.intro (by decide) (And.intro rfl (And.intro (thing_one o2.th) ?_))))
  intro h3 p3
  have i4 := g1.id
  have z4 := g1.size
  have B3 : Blk h3 b4 (cellsT i.thing pv lv rv) := p3.blk
  refine Exists.intro _ (And.intro rfl (And.intro (cells_blk B3) ?_))
  refine And.intro (.inl ⟨i, hi, hik, pv, lv, rv, rfl, o2.chg p3.chg (fun b hb => by have := fr b hb; simp; omega), fun b hb => by have := fr b hb; omega⟩) ((hc.nil hc2).fresh p3.chg (by simp; omega))

theorem TO.nil {h : Heap} {t : Thing} (h1 : t.pairs = []) (h2 : t.list = []) (h3 : t.ranks = []) : TO h (.slice none 0 0) (.slice none 0 0) (.slice none 0 0) t :=
  ⟨by rw [h1]; exact OL.nil, by rw [h2]; exact OL.nil, by rw [h3]; exact OL.nil, by simp [vblk, ablk], by simp [vblk, ablk], by simp [vblk, ablk]⟩

/-- What stood there. -/
def OldM (m : List KI) (key : ByteArray) : Option Thing → Prop
  | some t => ∃ i ∈ m, i.key = key ∧ i.thing = t
  | none => ∀ i ∈ m, i.key ≠ key

/-- What is made of it, the rule known. -/
def choose_ (r : Rule) (old : Option Thing) (e : Eff) (full : Bool) : Fate :=
  match old with
  | none => if r.makes = false then .no 5 else endF (doneT { zeroT with kind := r.kind } e) false full
  | some t => if r.kind ≠ 0 ∧ t.kind ≠ r.kind then .no 170 else endF (doneT t e) true full

end Go.Proofs.YtigolfakcblnjaaGreatDoor
namespace Go.Proofs.YtigolfakcblnjaaGreatDoor
open Go Go.Sx Go.Proofs.YtigolfakcblnjaaGreatDoor.C

end Go.Proofs.YtigolfakcblnjaaGreatDoor
namespace Go.Proofs.YtigolfakcblnjaaGreatDoor
open Go Go.Sx Go.Proofs.YtigolfakcblnjaaGreatDoor.C

section
variable {α : Type}

def goF (put : Bool) (eq lt : α → Bool) (y : α) : List α → Bool → List α
  | [], d => if put && !d then [y] else []
  | x :: l, d => if eq x then goF put eq lt y l d else if put && !d && lt x then y :: x :: goF put eq lt y l true else x :: goF put eq lt y l d

end

end Go.Proofs.YtigolfakcblnjaaGreatDoor
namespace Go.Proofs.YtigolfakcblnjaaGreatDoor
open Go Go.Sx Go.Proofs.YtigolfakcblnjaaGreatDoor.C

def usesV (op : Int) : Value := match ruleR op with
  | some r => .tuple #[.bool r.name, .bool r.text, .bool r.number, .bool true]
  | none => .tuple #[.bool false, .bool false, .bool false, .bool false]
def kindI (op : Int) : Int := match ruleR op with
  | some r => r.kind
  | none => 0

end Go.Proofs.YtigolfakcblnjaaGreatDoor
namespace Go.Proofs.YtigolfakcblnjaaGreatDoor
open Go Go.Sx Go.Proofs.YtigolfakcblnjaaGreatDoor.C

/-- Names of a length that the walks can count. -/
structure Named (t : Thing) : Prop where
  ps : ∀ x ∈ t.pairs, x.name.size < 4611686018427387904
  ls : ∀ x ∈ t.list, x.size < 4611686018427387904
  rs : ∀ x ∈ t.ranks, x.name.size < 4611686018427387904

/-- What a thing made of another one's lists and of new ones is, whatever changes of what was before. -/
def Keeps (h : Heap) (vs : List Value) (t : Thing) (h' : Heap) (us : List Value) (t' : Thing) : Prop :=
  ∀ S h'', (∀ b ∈ S, b < h.size) → Chg S h' h'' → TH h'' vs t → TH h'' us t'

def DoneP (h : Heap) (vs : List Value) (t : Thing) (e : Eff) (r : Value) (h' : Heap) : Prop :=
  (∃ us t', r = .tuple #[.agg ⟨us⟩, .int .i64 (doneT t e).2] ∧ Keeps h vs t h' us t' ∧ ((doneT t e).2 = 0 → t' = (doneT t e).1)) ∧ Chg [] h h'

theorem TH.open {h : Heap} {t : Thing} {k tx hu un pv lv rv : Value} (x : TH h [k, tx, pv, lv, rv, hu, un] t) : SL encP h pv t.pairs ∧ SL encS h lv t.list ∧ SL encR h rv t.ranks := by
  obtain ⟨p, l, r, he, h1, h2, h3⟩ := x
  simp only [List.cons.injEq] at he
  obtain ⟨_, _, rfl, rfl, rfl, _⟩ := he
  exact ⟨h1, h2, h3⟩

end Go.Proofs.YtigolfakcblnjaaGreatDoor
namespace Go.Proofs.YtigolfakcblnjaaGreatDoor
open Go Go.Sx Go.Proofs.YtigolfakcblnjaaGreatDoor.C

theorem TH.kind {h : Heap} {vs : List Value} {t : Thing} (x : TH h vs t) : vs[0]? = some (.int .i64 t.kind) := by
  obtain ⟨pv, lv, rv, rfl, _⟩ := x
  rfl

theorem pr_up {l : List RX} (hu : UpX l) : UpS (l.map RX.pr) := List.Pairwise.map RX.pr (fun _ _ h => h) hu

theorem find_yes {l : List RX} (hu : UpX l) {key : ByteArray} {i : Nat} (hi : i < l.length) (hk : l[i].key = key) : findS (l.map RX.pr) key = some l[i].thing := by
  refine findS_some (pr_up hu) (List.mem_map.2 ⟨l[i], List.getElem_mem hi, ?_⟩)
  unfold RX.pr; rw [hk]

theorem find_no {l : List RX} (hu : UpX l) {key : ByteArray} (hb : (findX key l).2 = false) : findS (l.map RX.pr) key = none := by
  refine findS_none fun p hp => ?_
  obtain ⟨x, hx, rfl⟩ := List.mem_map.1 hp
  intro hk
  rw [findX_has hu ⟨x, hx, hk⟩] at hb
  cases hb

/-- Lists of things as the reference holds them. -/
structure RG (l : List RX) : Prop where
  up : UpX l
  len : l.length ≤ 65536
  fit : KeysFit l
  tin : ∀ x ∈ l, TIn x.thing
  nm : ∀ x ∈ l, Named x.thing

theorem RG.drop {l : List RX} (g : RG l) (key : ByteArray) : RG (dropX l key) := by
  refine ⟨up_dropX g.up, ?_, fun x hx => g.fit x ((mem_dropX g.up).1 hx).1, fun x hx => g.tin x ((mem_dropX g.up).1 hx).1, fun x hx => g.nm x ((mem_dropX g.up).1 hx).1⟩
  have := g.len
  unfold dropX
  split
  · simp only [List.length_append, List.length_take, List.length_drop]; omega
  · exact this

theorem RG.put {l : List RX} (g : RG l) {x : RX} (hl : (findX x.key l).2 = true ∨ l.length < 65536) (hk : x.key.size < 4611686018427387904) (ht : TIn x.thing) (hn : Named x.thing) : RG (putX l x) := by
  refine ⟨up_putX g.up, ?_, fun y hy => ?_, fun y hy => ?_, fun y hy => ?_⟩
  · have := g.len
    cases hb : (findX x.key l).2 with
    | false =>
      rw [putX_new hb]
      rcases hl with h | h
      · rw [hb] at h; cases h
      · omega
    | true =>
      obtain ⟨hlt, _⟩ := findX_hit x.key l hb
      unfold putX
      simp only [List.length_append, List.length_take, List.length_drop, List.length_cons, List.length_nil, hb, if_true]
      omega
  · rcases (mem_putX g.up).1 hy with rfl | ⟨hy, _⟩
    · exact hk
    · exact g.fit y hy
  · rcases (mem_putX g.up).1 hy with rfl | ⟨hy, _⟩
    · exact ht
    · exact g.tin y hy
  · rcases (mem_putX g.up).1 hy with rfl | ⟨hy, _⟩
    · exact hn
    · exact g.nm y hy

def argBad (r : Rule) (e : Eff) : Prop := (r.name = false ∧ e.name ≠ noText) ∨ (r.text = false ∧ e.text ≠ noText) ∨ (r.number = false ∧ e.num ≠ 0)
def longBad (e : Eff) : Prop := 1048576 < e.key.size ∨ 1048576 < e.name.size ∨ 1048576 < e.text.size

def OneR (h : Heap) (l : List RX) (e : Eff) (r : Value) (h' : Heap) : Prop :=
  (∃ v' l', r = .tuple #[v', .int .i64 (fateS (l.map RX.pr) e).num] ∧ SL encX h' v' l' ∧ GX h' l' ∧ RG l' ∧ l'.map RX.pr = (fateS (l.map RX.pr) e).space (l.map RX.pr) e.key) ∧ Chg [] h h'

end Go.Proofs.YtigolfakcblnjaaGreatDoor
namespace Go.Proofs.YtigolfakcblnjaaGreatDoor
open Go Go.Sx Go.Proofs.YtigolfakcblnjaaGreatDoor.C

def getS (S : Space) (key : ByteArray) (now : Int) : Option Thing := match findS S key with
  | some t => if goneT t now = true then none else some t
  | none => none

theorem look_find {l : List RX} (hu : UpX l) (key : ByteArray) : lookX l key = findS (l.map RX.pr) key := by
  unfold lookX
  cases hb : (findX key l).2 with
  | true =>
    obtain ⟨hlt, hk⟩ := findX_hit key l hb
    rw [if_pos rfl, find_yes hu hlt hk, List.getElem?_eq_getElem hlt]
    rfl
  | false => rw [if_neg (by simp), find_no hu hb]

theorem get_get {l : List RX} (hu : UpX l) (key : ByteArray) (now : Int) : getX l key now = getS (l.map RX.pr) key now := by
  unfold getX getS
  rw [look_find hu]
  rfl

theorem find_mem {m : List KI} {S : Space} (hs : Sorted m S) {i : KI} (hi : i ∈ m) : findS S i.key = some i.thing :=
  findS_some hs.up ((hs.mem _).2 (mem_pr.2 ⟨i, hi, rfl, rfl⟩))

theorem find_out {m : List KI} {S : Space} (hs : Sorted m S) {key : ByteArray} (hno : ∀ i ∈ m, i.key ≠ key) : findS S key = none := by
  cases hf : findS S key with
  | none => rfl
  | some t =>
    obtain ⟨i, hi, h1, h2⟩ := mem_pr.1 ((hs.mem _).1 (findS_mem hf))
    exact absurd h1 (hno i hi)

theorem KGet_calls {h : Heap} {kb sb mb c : Nat} {m : List KI} {S : Space} (key : ByteArray) (now : Int) (x : KR h kb sb mb c m) (hs : Sorted m S) :
    CallsH Tryz.prog 50 [ptr kb, .string key, .int .i64 now] h (Ret fun r h' => (∃ us, r = .tuple #[.agg ⟨us⟩, .bool (getS S key now).isSome] ∧ TH h' us ((getS S key now).getD zeroT)) ∧ Chg [] h h') := by
  obtain ⟨go, hgo⟩ : ∃ go, go = getS S key now := ⟨_, rfl⟩
  rw [← hgo]
  refine f50_calls (by simp) ?_
  intro b6 h1 g1
  have c1 := g1.chg
  have i6 := g1.id
  have z1 := g1.size
  have B6 : Blk h1 b6 zeroV := g1.blk
  refine call_ret (LookK_calls key (x.ext c1)) ?_
  rintro _ h2 ⟨hlook, c2⟩
  have z2 := c2.size
  rcases hlook with ⟨i, hi, hik, pv, lv, rv, rfl, o2, fr⟩ | ⟨hno, rfl⟩
  · have hfs : findS S key = some i.thing := by rw [← hik]; exact find_mem hs hi
    intro b8 h3 g3
    refine Exists.intro zeroV (And.intro g3.blk (And.intro (by decide) (And.intro rfl (And.intro (thing_one o2.th) ?_))))
    intro h4 p4
    have g4 := g3.put p4
    have B8 : Blk h4 b8 (cellsT i.thing pv lv rv) := p4.blk
    have o4 := o2.ext g4.chg
    have c14 : Chg [] h1 h4 := c2.nil g4.chg
    refine Exists.intro _ (And.intro rfl (And.intro (cells_blk B8) ?_))
    refine call_ret (gone_calls o4.th now) ?_
    rintro _ h5 ⟨rfl, c5⟩
    have c15 := c14.nil c5
    have o5 := o4.ext c5
    have B65 := B6.chg c15 (by simp)
    have B85 := B8.chg c5 (by simp)
    cases hg : (i.thing.hasU && decide (i.thing.unt ≤ now)) with
    | true =>
      have e : go = none := by rw [hgo]; unfold getS; rw [hfs]; simp only; rw [if_pos (show goneT i.thing now = true from hg)]
      subst e
      refine Exists.intro zeroV (And.intro B65 (And.intro (by decide) (And.intro rfl (And.intro (thing_one (zero_TH (h := h5))) ?_))))
      intro h6 p6
      have B66 : Blk h6 b6 zeroV := p6.blk
      refine Exists.intro zeroV (And.intro rfl (And.intro (cells_blk B66) ?_))
      exact And.intro (Exists.intro zeroV (And.intro rfl zero_TH)) ((c1.nil c15).fresh p6.chg (by simp; omega))
    | false =>
      have e : go = some i.thing := by rw [hgo]; unfold getS; rw [hfs]; simp only; rw [if_neg (by unfold goneT; rw [hg]; simp)]
      subst e
      refine Exists.intro _ (And.intro rfl (And.intro (cells_blk B85) ?_))
      refine Exists.intro zeroV (And.intro B65 (And.intro (by decide) (And.intro rfl (And.intro (thing_one o5.th) ?_))))
      intro h6 p6
      have B66 : Blk h6 b6 (cellsT i.thing pv lv rv) := p6.blk
      have o6 := o5.chg p6.chg (fun b hb => by have := fr b hb; simp; omega)
      refine Exists.intro _ (And.intro rfl (And.intro (cells_blk B66) ?_))
      exact And.intro (Exists.intro _ (And.intro rfl o6.th)) ((c1.nil c15).fresh p6.chg (by simp; omega))
  · have e : go = none := by rw [hgo]; unfold getS; rw [find_out hs hno]
    subst e
    intro b8 h3 g3
    refine Exists.intro zeroV (And.intro g3.blk (And.intro (by decide) (And.intro rfl (And.intro (thing_one (zero_TH (h := h3))) ?_))))
    intro h4 p4
    have g4 := g3.put p4
    have c14 : Chg [] h1 h4 := c2.nil g4.chg
    have B64 := B6.chg c14 (by simp)
    refine Exists.intro zeroV (And.intro B64 (And.intro (by decide) (And.intro rfl (And.intro (thing_one (zero_TH (h := h4))) ?_))))
    intro h6 p6
    have B66 : Blk h6 b6 zeroV := p6.blk
    refine Exists.intro zeroV (And.intro rfl (And.intro (cells_blk B66) ?_))
    exact And.intro (Exists.intro zeroV (And.intro rfl zero_TH)) ((c1.nil c14).fresh p6.chg (by simp; omega))

/-- The keys of what is not gone. -/
def liveS (now : Int) (S : Space) : List ByteArray := (S.filter fun p => !goneT p.2 now).map Prod.fst

end Go.Proofs.YtigolfakcblnjaaGreatDoor
namespace Go.Proofs.YtigolfakcblnjaaGreatDoor
open Go Go.Sx Go.Proofs.YtigolfakcblnjaaGreatDoor.C

end Go.Proofs.YtigolfakcblnjaaGreatDoor
namespace Go.Proofs.YtigolfakcblnjaaGreatDoor
open Go Go.Sx Go.Proofs.YtigolfakcblnjaaGreatDoor.C

theorem chg_of_ext {h h' : Heap} (he : Ext h h') : Chg [] h h' := by
  refine ⟨?_, fun k hk _ => he k hk⟩
  rcases Nat.lt_or_ge h'.size h.size with hlt | hge
  · have := he h'.size hlt
    rw [Array.getElem?_eq_none (Nat.le_refl _), Array.getElem?_eq_getElem hlt] at this
    cases this
  · exact hge

theorem known8_ret (h : Heap) : CallsH Tryz.prog 11 [] h (Ret fun r h' => r = .bool true ∧ Chg [] h h') :=
  (R.calls h).mono fun e h' ⟨he, hx⟩ => by subst he; exact ⟨rfl, chg_of_ext hx⟩

theorem kn8 {h h2 : Heap} {K : Value → Heap → Prop} {Qp : List PanicEntry → Heap → Prop} (c2 : Chg [] h h2) (hK : ∀ h', Chg [] h h' → K (.bool true) h') : CallsH Tryz.prog 11 [] h2 (after K Qp) :=
  call_ret (known8_ret h2) fun v h' hv => by rw [hv.1]; exact hK h' (c2.nil hv.2)

structure SFit (d : List ByteArray) : Prop where
  len : d.length < 4611686018427387904
  each : ∀ e ∈ d, e.size < 4611686018427387904
structure SSmall (d : List ByteArray) : Prop where
  len : d.length ≤ 20
  each : ∀ e ∈ d, e.size ≤ 300

theorem large8_calls {h : Heap} {vs : List Value} {t : Thing} (x : TH h vs t) (f : Fits t) (s : Sized t) :
    CallsH Tryz.prog 41 [.agg ⟨vs⟩] h (Ret fun r h' => (∃ b, r = .bool b ∧ (b = false → Small t)) ∧ Chg [] h h') := by
  have fp := f.p; have fl := f.l; have fr := f.r
  refine f41_calls (by simp) ?_
  intro b1 h1 g1
  have B1 : Blk h1 b1 vs := g1.blk
  have hc := g1.chg
  obtain ⟨pv, lv, rv, rfl, hp, hl, hr⟩ := x.ext hc
  obtain ⟨pa, pc, rfl, _⟩ := hp.form
  obtain ⟨la, lc, rfl, _⟩ := hl.form
  obtain ⟨ra, rc, rfl, _⟩ := hr.form
  have yes : Ret (fun r h' => (∃ b, r = .bool b ∧ (b = false → Small t)) ∧ Chg [] h h') (.returned (retV [Value.bool true])) h1 := ⟨⟨true, rfl, fun h => by cases h⟩, hc⟩
  refine Exists.intro _ (And.intro (cell_blk B1 rfl) ?_)
  refine Exists.intro _ (And.intro (cell_blk B1 rfl) ?_)
  refine And.intro rfl (And.intro (fun _ => yes) (fun n1 => ?_))
  refine Exists.intro _ (And.intro (cell_blk B1 rfl) ?_)
  refine And.intro rfl (And.intro (fun _ => yes) (fun n2 => ?_))
  refine Exists.intro _ (And.intro (cell_blk B1 rfl) ?_)
  refine And.intro rfl (And.intro (fun _ => yes) (fun n3 => ?_))
  refine And.intro rfl (And.intro (fun _ => yes) (fun n4 => ?_))
  have ht := s.text
  -- the pairs
  refine loop_intro (fun i : Nat × Int => [(1, .pointer (some ⟨b1, 0, none⟩)), (3, .int .i64 i.2), (4, .int .i64 i.1)]) (fun i h' => i.1 ≤ t.pairs.length ∧ h' = h1 ∧ 0 ≤ i.2 ∧ i.2 ≤ 2000 ∧ ∀ x ∈ t.pairs.take i.1, x.name.size ≤ 2000 ∧ x.text.size ≤ 2000) (fun i => t.pairs.length - i.1) (0, t.text.size)
    ⟨rfl, rfl, rfl, trivial⟩ ⟨Nat.zero_le _, rfl, by simp only; omega, by simp only; omega, by simp⟩ ?_
  rintro ⟨k, n⟩ h3 ⟨hk, h32, hn0, hn1, hps⟩
  have h32 := h32.symm
  subst h32
  simp only at hk hn0 hn1 hps
  refine Exists.intro _ (And.intro (cell_blk B1 rfl) ?_)
  refine And.intro rfl (And.intro (fun hlt => ?_) (fun hlt => ?_))
  · have hkk : k < t.pairs.length := by omega
    obtain ⟨b3, o, rfl⟩ := hp.addr (by omega)
    have hcs := hp.cells encP_len (i := k) (x := t.pairs[k]) (by simp [hkk])
    obtain ⟨z1, z2⟩ := s.ps t.pairs[k] (List.getElem_mem hkk)
    refine Exists.intro _ (And.intro (cell_blk B1 rfl) ?_)
    refine And.intro (by omega) (And.intro (by omega) (Exists.intro _ (And.intro (hcs 0 _ rfl) ?_)))
    refine And.intro rfl (fun y hy => ?_)
    have hy := add_in hy (by omega) (by omega)
    refine Exists.intro _ (And.intro (cell_blk B1 rfl) ?_)
    refine And.intro (by omega) (And.intro (by omega) (Exists.intro _ (And.intro (hcs 1 _ rfl) ?_)))
    refine And.intro rfl (fun w hw => ?_)
    have hw := add_in hw (by omega) (by omega)
    refine And.intro rfl (And.intro (fun _ => yes) (fun n5 => ?_))
    refine And.intro rfl (fun z hz => ?_)
    have hz := add_in hz (by omega) (by omega)
    subst hz
    refine And.intro rfl (Exists.intro (k + 1, w) (And.intro ?_ (And.intro ?_ ?_)))
    · exact ⟨rfl, rfl, rfl, trivial⟩
    · refine ⟨by simp only; omega, rfl, by simp only; omega, by simp only; omega, fun q hq => ?_⟩
      simp only at hq
      rw [take_snoc t.pairs k hkk] at hq
      rcases List.mem_append.1 hq with hq | hq
      · exact hps q hq
      · have : q = t.pairs[k] := by simpa using hq
        rw [this]; omega
    · simp only; omega
  have hkl : k = t.pairs.length := by omega
  rw [hkl, List.take_length] at hps
  clear hlt hkl hk
  -- the list
  refine loop_intro (fun i : Nat × Int => [(1, .pointer (some ⟨b1, 0, none⟩)), (3, .int .i64 i.2), (5, .int .i64 i.1)]) (fun i h' => i.1 ≤ t.list.length ∧ h' = h1 ∧ 0 ≤ i.2 ∧ i.2 ≤ 2000 ∧ ∀ x ∈ t.list.take i.1, x.size ≤ 2000) (fun i => t.list.length - i.1) (0, n)
    ⟨rfl, rfl, rfl, trivial⟩ ⟨Nat.zero_le _, rfl, by simp only; omega, by simp only; omega, by simp⟩ ?_
  clear hn0 hn1
  rintro ⟨k, n⟩ h3 ⟨hk, h32, hn0, hn1, hls⟩
  have h32 := h32.symm
  subst h32
  simp only at hk hn0 hn1 hls
  refine Exists.intro _ (And.intro (cell_blk B1 rfl) ?_)
  refine And.intro rfl (And.intro (fun hlt => ?_) (fun hlt => ?_))
  · have hkk : k < t.list.length := by omega
    obtain ⟨b3, o, rfl⟩ := hl.addr (by omega)
    have hcs := hl.cells encS_len (i := k) (x := t.list[k]) (by simp [hkk])
    have z1 := s.ls t.list[k] (List.getElem_mem hkk)
    refine Exists.intro _ (And.intro (cell_blk B1 rfl) ?_)
    refine And.intro (by omega) (And.intro (by omega) (Exists.intro _ (And.intro (hcs 0 _ rfl) ?_)))
    refine And.intro rfl (fun w hw => ?_)
    have hw := add_in hw (by omega) (by omega)
    refine And.intro rfl (And.intro (fun _ => yes) (fun n5 => ?_))
    refine And.intro rfl (fun z hz => ?_)
    have hz := add_in hz (by omega) (by omega)
    subst hz
    refine And.intro rfl (Exists.intro (k + 1, w) (And.intro ?_ (And.intro ?_ ?_)))
    · exact ⟨rfl, rfl, rfl, trivial⟩
    · refine ⟨by simp only; omega, rfl, by simp only; omega, by simp only; omega, fun q hq => ?_⟩
      simp only at hq
      rw [take_snoc t.list k hkk] at hq
      rcases List.mem_append.1 hq with hq | hq
      · exact hls q hq
      · have : q = t.list[k] := by simpa using hq
        rw [this]; omega
    · simp only; omega
  have hkl : k = t.list.length := by omega
  rw [hkl, List.take_length] at hls
  clear hlt hkl hk
  -- the ranks
  refine loop_intro (fun i : Nat × Int => [(1, .pointer (some ⟨b1, 0, none⟩)), (3, .int .i64 i.2), (6, .int .i64 i.1)]) (fun i h' => i.1 ≤ t.ranks.length ∧ h' = h1 ∧ 0 ≤ i.2 ∧ i.2 ≤ 2000 ∧ ∀ x ∈ t.ranks.take i.1, x.name.size ≤ 2000) (fun i => t.ranks.length - i.1) (0, n)
    ⟨rfl, rfl, rfl, trivial⟩ ⟨Nat.zero_le _, rfl, by simp only; omega, by simp only; omega, by simp⟩ ?_
  clear hn0 hn1
  rintro ⟨k, n⟩ h3 ⟨hk, h32, hn0, hn1, hrs⟩
  have h32 := h32.symm
  subst h32
  simp only at hk hn0 hn1 hrs
  refine Exists.intro _ (And.intro (cell_blk B1 rfl) ?_)
  refine And.intro rfl (And.intro (fun hlt => ?_) (fun hlt => ?_))
  · have hkk : k < t.ranks.length := by omega
    obtain ⟨b3, o, rfl⟩ := hr.addr (by omega)
    have hcs := hr.cells encR_len (i := k) (x := t.ranks[k]) (by simp [hkk])
    have z1 := s.rs t.ranks[k] (List.getElem_mem hkk)
    refine Exists.intro _ (And.intro (cell_blk B1 rfl) ?_)
    refine And.intro (by omega) (And.intro (by omega) (Exists.intro _ (And.intro (hcs 0 _ rfl) ?_)))
    refine And.intro rfl (fun w hw => ?_)
    have hw := add_in hw (by omega) (by omega)
    refine And.intro rfl (And.intro (fun _ => yes) (fun n5 => ?_))
    refine And.intro rfl (fun z hz => ?_)
    have hz := add_in hz (by omega) (by omega)
    subst hz
    refine And.intro rfl (Exists.intro (k + 1, w) (And.intro ?_ (And.intro ?_ ?_)))
    · exact ⟨rfl, rfl, rfl, trivial⟩
    · refine ⟨by simp only; omega, rfl, by simp only; omega, by simp only; omega, fun q hq => ?_⟩
      simp only at hq
      rw [take_snoc t.ranks k hkk] at hq
      rcases List.mem_append.1 hq with hq | hq
      · exact hrs q hq
      · have : q = t.ranks[k] := by simpa using hq
        rw [this]; omega
    · simp only; omega
  have hkl : k = t.ranks.length := by omega
  rw [hkl, List.take_length] at hrs
  exact ⟨⟨false, rfl, fun _ => ⟨by omega, by omega, by omega, by omega, hps, hls, hrs⟩⟩, hc⟩


theorem vast8_calls {h : Heap} {v u : Value} {l : List RX} {d : List ByteArray} (hv : SL encX h v l) (hu : SL encS h u d) (g : GX h l) (f : XFit l) (fd : SFit d) :
    CallsH Tryz.prog 23 [v, u] h (Ret fun r h' => (∃ b, r = .bool b ∧ (b = false → NVast l ∧ SSmall d)) ∧ Chg [] h h') := by
  have fl := f.len
  have fdl := fd.len
  obtain ⟨a, c, rfl, hlc⟩ := hv.form
  obtain ⟨a', c', rfl, hlc'⟩ := hu.form
  have yes : ∀ h', Chg [] h h' → Ret (fun r h' => (∃ b, r = .bool b ∧ (b = false → NVast l ∧ SSmall d)) ∧ Chg [] h h') (.returned (retV [Value.bool true])) h' := fun h' hc => ⟨⟨true, rfl, fun h => by cases h⟩, hc⟩
  refine f23_calls (by simp) ?_
  refine And.intro rfl (And.intro (fun _ => yes h (Chg.refl h)) (fun n1 => ?_))
  refine And.intro rfl (And.intro (fun _ => yes h (Chg.refl h)) (fun n2 => ?_))
  refine loop_intro (fun k : Nat => [(0, .slice a l.length c), (1, .slice a' d.length c'), (5, .int .i64 k)]) (fun k h' => k ≤ l.length ∧ Chg [] h h' ∧ ∀ x ∈ l.take k, x.key.size ≤ 300 ∧ Small x.thing) (fun k => l.length - k) 0
    ⟨rfl, rfl, rfl, trivial⟩ ⟨Nat.zero_le _, Chg.refl h, by simp⟩ ?_
  rintro k h1 ⟨hk, hc1, hall⟩
  have hv1 := hv.ext hc1
  refine And.intro rfl (And.intro (fun ht => ?_) (fun ht => ?_))
  · have hlt : k < l.length := by omega
    obtain ⟨b, o, rfl⟩ := hv1.addr (by omega)
    have hcs := hv1.cells encX_len (i := k) (x := l[k]) (by simp [hlt])
    have hmem : l[k] ∈ l := List.getElem_mem hlt
    have hkz := f.keys _ hmem
    refine And.intro (by omega) (And.intro (by omega) (Exists.intro _ (And.intro (hcs 0 _ rfl) ?_)))
    refine And.intro rfl (And.intro (fun _ => yes h1 hc1) (fun n3 => ?_))
    refine And.intro (by omega) (And.intro (by omega) (Exists.intro l[k].vs (And.intro l[k].len (And.intro (cells_vs hcs) ?_))))
    refine call_ret (large8_calls ((g.ext hc1) _ hmem) (f.fits _ hmem) (f.sized _ hmem)) ?_
    rintro _ h2 ⟨⟨b2, rfl, hsm⟩, hc2⟩
    cases b2 with
    | true => exact yes h2 (hc1.nil hc2)
    | false =>
      refine And.intro rfl (fun z hz => ?_)
      have hz := add_in hz (by omega) (by omega)
      subst hz
      refine And.intro rfl (Exists.intro (k + 1) (And.intro ?_ (And.intro ?_ ?_)))
      · exact ⟨rfl, rfl, rfl, trivial⟩
      · refine ⟨by omega, hc1.nil hc2, fun x hx => ?_⟩
        rw [take_snoc l k hlt, List.mem_append, List.mem_singleton] at hx
        rcases hx with hx | rfl
        · exact hall x hx
        · exact ⟨by omega, hsm rfl⟩
      · omega
  have hkl : k = l.length := by omega
  rw [hkl, List.take_length] at hall
  clear hkl ht hk hv1
  have nv : NVast l := ⟨by omega, fun x hx => (hall x hx).1, fun x hx => (hall x hx).2⟩
  refine loop_intro (fun k : Nat => [(1, .slice a' d.length c'), (6, .int .i64 k)]) (fun k h' => k ≤ d.length ∧ Chg [] h h' ∧ ∀ e ∈ d.take k, e.size ≤ 300) (fun k => d.length - k) 0
    ⟨rfl, rfl, trivial⟩ ⟨Nat.zero_le _, hc1, by simp⟩ ?_
  clear k hc1
  rintro k h1 ⟨hk, hc1, hall⟩
  have hu1 := hu.ext hc1
  refine And.intro rfl (And.intro (fun ht => ?_) (fun ht => ?_))
  · have hlt : k < d.length := by omega
    obtain ⟨b, o, rfl⟩ := hu1.addr (by omega)
    have hcs := hu1.cells encS_len (i := k) (x := d[k]) (by simp [hlt])
    have z1 := fd.each _ (List.getElem_mem hlt)
    refine And.intro (by omega) (And.intro (by omega) (Exists.intro _ (And.intro (hcs 0 _ rfl) ?_)))
    refine And.intro rfl (And.intro (fun _ => yes h1 hc1) (fun n3 => ?_))
    refine And.intro rfl (fun z hz => ?_)
    have hz := add_in hz (by omega) (by omega)
    subst hz
    refine And.intro rfl (Exists.intro (k + 1) (And.intro ?_ (And.intro ?_ ?_)))
    · exact ⟨rfl, rfl, trivial⟩
    · refine ⟨by omega, hc1, fun x hx => ?_⟩
      rw [take_snoc d k hlt, List.mem_append, List.mem_singleton] at hx
      rcases hx with hx | rfl
      · exact hall x hx
      · omega
    · omega
  have hkl : k = d.length := by omega
  rw [hkl, List.take_length] at hall
  exact ⟨⟨false, rfl, fun _ => ⟨nv, ⟨by omega, hall⟩⟩⟩, hc1⟩

/-- What a gone thing costs. -/
def goneE (key : ByteArray) : Eff := ⟨1, key, noText, noText, 0⟩
def dropsS (S : Space) (key : ByteArray) (now : Int) : List Eff := if (findS S key).isSome = true ∧ (getS S key now).isSome = false then [goneE key] else []

theorem look_is {h : Heap} {kb sb mb c : Nat} {m : List KI} {S : Space} (key : ByteArray) (x : KR h kb sb mb c m) (hs : Sorted m S) :
    CallsH Tryz.prog 49 [ptr kb, .string key] h (Ret fun r h' => (∃ us, us.length = 7 ∧ (∀ u ∈ us, u.oneCell' = true) ∧ r = .tuple #[.agg ⟨us⟩, .bool (findS S key).isSome]) ∧ Chg [] h h') := by
  refine (LookK_calls key x).mono fun e h' he => ?_
  cases e with
  | panicked ch => exact he.elim
  | outgrown => exact he.elim
  | returned v =>
    obtain ⟨hr, hc⟩ := he
    refine ⟨?_, hc⟩
    rcases hr with ⟨i, hi, hk, pv, lv, rv, rfl, ht, _⟩ | ⟨hno, rfl⟩
    · have tx : TH h' (cellsT i.thing pv lv rv) i.thing := ht.th
      refine ⟨_, tx.len, thing_one tx, ?_⟩
      rw [← hk, find_mem hs hi]; rfl
    · refine ⟨zeroV, rfl, by decide, ?_⟩
      rw [find_out hs hno]; rfl

theorem BDrops_calls {h : Heap} {kb sb mb c : Nat} {m : List KI} {S : Space} (key : ByteArray) (now : Int) (x : KR h kb sb mb c m) (hs : Sorted m S) :
    CallsH Tryz.prog 27 [ptr kb, .int .i64 now, .string key] h (Ret fun r h' => OL encD 5 h' r (dropsS S key now) ∧ (∀ b ∈ vblk r, h.size ≤ b) ∧ Chg [] h h') := by
  obtain ⟨fs, hfs⟩ : ∃ b, b = (findS S key).isSome := ⟨_, rfl⟩
  refine f27_calls (by simp) ?_
  refine call_ret (look_is key x hs) ?_
  rintro _ h1 ⟨⟨us, hl, h1c, rfl⟩, c1⟩
  rw [← hfs]
  intro b7 h2 g2
  refine Exists.intro _ (And.intro g2.blk (And.intro (by decide) (And.intro hl (And.intro h1c ?_))))
  intro h3 p3
  have g3 := g2.put p3
  have c3 := c1.nil g3.chg
  obtain ⟨go, hgo⟩ : ∃ go, go = getS S key now := ⟨_, rfl⟩
  refine call_ret (KGet_calls key now (x.ext c3) hs) ?_
  rintro _ h4 ⟨⟨vs, rfl, tv⟩, c4⟩
  rw [← hgo] at tv ⊢
  intro b9 h5 g5
  refine Exists.intro _ (And.intro g5.blk (And.intro (by decide) (And.intro tv.len (And.intro (thing_one tv) ?_))))
  intro h6 p6
  have g6 := g5.put p6
  have c6 := (c3.nil c4).nil g6.chg
  unfold dropsS
  rw [← hfs, ← hgo]
  cases fs with
  | false =>
    rw [if_neg (by simp)]
    exact ⟨OL.nil, fun b hb => (nomatch (show b ∈ ([] : List Nat) from hb)), c6⟩
  | true =>
    cases go with
    | some t =>
      rw [if_neg (by simp)]
      exact ⟨OL.nil, fun b hb => (nomatch (show b ∈ ([] : List Nat) from hb)), c6⟩
    | none =>
      rw [if_pos ⟨rfl, rfl⟩]
      intro b h7 g7
      have z := c6.size
      have i7 := g7.id
      refine ⟨⟨_, 1, rfl, rfl, Nat.le_refl _, [], ?_, rfl⟩, ?_, c6.nil g7.chg⟩
      · exact g7.blk
      · intro b' hb'
        have hb' : b' ∈ [b] := hb'
        have hb' := List.mem_singleton.1 hb'
        omega

end Go.Proofs.YtigolfakcblnjaaGreatDoor
namespace Go.Proofs.YtigolfakcblnjaaGreatDoor
open Go Go.Sx Go.Proofs.YtigolfakcblnjaaGreatDoor.C

theorem find_is {l : List RX} (hu : UpX l) (key : ByteArray) : (findX key l).2 = (findS (l.map RX.pr) key).isSome := by
  cases hb : (findX key l).2 with
  | true =>
    obtain ⟨hlt, hk⟩ := findX_hit key l hb
    rw [find_yes hu hlt hk]; rfl
  | false => rw [find_no hu hb]; rfl

theorem BasicsDrops_calls {h : Heap} {v : Value} {l : List RX} {key : ByteArray} {now : Int} (hv : SL encX h v l) (g : GX h l) (f : XFit l) (hk : key.size < 4611686018427387904) :
    CallsH Tryz.prog 8 [v, .int .i64 now, .string key] h (Ret fun r h' => r = .bool true ∧ Chg [] h h') := by
  refine f8_calls (by simp) ?_
  intro b0 h0 g0
  have c0 := g0.chg
  have hu : SL encS h0 (.slice (some ⟨b0, 0, none⟩) 1 1) [key] := by
    refine ⟨_, 1, rfl, Nat.le_refl _, ?_⟩
    exact cells_blk g0.blk
  refine call_ret (vast8_calls (hv.ext c0) hu (g.ext c0) f ⟨by simp, fun e he => by rw [List.mem_singleton.1 he]; exact hk⟩) ?_
  rintro _ h1 ⟨⟨b, rfl, hb⟩, c1⟩
  have c01 := c0.nil c1
  cases b with
  | true => exact kn8 c01 fun h2 c2 => And.intro rfl c2
  | false =>
    obtain ⟨nv, sm⟩ := hb rfl
    have hkz := sm.each key (List.mem_singleton.2 rfl)
    refine call_ret (KOf_calls (hv.ext c01) (g.ext c01) nv) ?_
    rintro r2 h2 ⟨c2, ho⟩
    have c02 := c01.nil c2
    cases hk2 : ofX [] l with
    | none =>
      rw [hk2] at ho
      subst ho
      refine call_ret (ROf_calls (hv.ext c02) (g.ext c02) nv) ?_
      rintro r3 h3 ⟨c3, hr⟩
      have c03 := c02.nil c3
      rw [hk2] at hr
      subst hr
      refine And.intro rfl (And.intro (fun _ => ?_) (fun hne => absurd (by decide) hne))
      refine And.intro rfl (And.intro (fun _ => ?_) (fun hne => absurd rfl hne))
      exact kn8 c03 fun h4 c4 => And.intro rfl c4
    | some k =>
      rw [hk2] at ho
      obtain ⟨kb, sb, mb, c, m, rfl, kr, hpr, hmb⟩ := ho
      refine call_ret (ROf_calls (hv.ext c02) (g.ext c02) nv) ?_
      rintro r3 h3 ⟨c3, hr⟩
      have c03 := c02.nil c3
      rw [hk2] at hr
      obtain ⟨w, rfl, hw, hwb⟩ := hr
      have hW := sorted_of hpr hk2
      obtain ⟨hup, hmem, hkl⟩ := ofX_ok List.Pairwise.nil hk2
      have hnl := nv.len
      have hkl : k.length = l.length := by simpa using hkl
      have hkf : KeysFit k := fun x hx => nv.fit x (by simpa using (hmem x).1 hx)
      have gk : GX h3 k := fun x hx => (g.ext c03) x (by simpa using (hmem x).1 hx)
      have efind := find_is hup key
      have eget := get_get hup key now
      refine And.intro rfl (And.intro (fun hne => absurd rfl hne) (fun _ => ?_))
      refine And.intro rfl (And.intro (fun hne => absurd rfl hne) (fun _ => ?_))
      refine call_ret (BDrops_calls key now (kr.ext c3) hW) ?_
      rintro rd h4 ⟨od, hbd, c4⟩
      have c04 := c03.nil c4
      refine call_ret (Find_calls key (hw.sl.ext c4) (by omega) (by omega) hkf) ?_
      rintro _ h5 ⟨rfl, e5⟩
      have e5 := e5.symm
      subst e5
      refine call_ret (RGet_calls key now (hw.sl.ext c4) (gk.ext c4) (by omega) (by omega) hkf) ?_
      rintro _ h6 ⟨⟨us, rfl, tu⟩, c6⟩
      have c06 := c04.nil c6
      rw [efind, eget]
      intro b7 h7 g7
      refine Exists.intro _ (And.intro g7.blk (And.intro (by decide) (And.intro tu.len (And.intro (thing_one tu) ?_))))
      intro h8 p8
      have g8 := g7.put p8
      have c08 := c06.nil g8.chg
      have sd : SL encD h8 rd (dropsS (k.map RX.pr) key now) := ((od.sl).ext c6).ext g8.chg
      clear od
      unfold dropsS at sd
      obtain ⟨fs, hfs⟩ : ∃ b, b = (findS (k.map RX.pr) key).isSome := ⟨_, rfl⟩
      obtain ⟨gs, hgs⟩ : ∃ b, b = (getS (k.map RX.pr) key now).isSome := ⟨_, rfl⟩
      rw [← hfs, ← hgs] at sd ⊢
      have none_end : ∀ {rd : Value}, SL encD h8 rd [] → ∃ a cc, rd = .slice a 0 cc := fun sd => by
        obtain ⟨a, cc, rfl, _⟩ := sd.form
        exact ⟨a, cc, rfl⟩
      cases fs with
      | false =>
        rw [if_neg (by simp)] at sd
        obtain ⟨a, cc, rfl⟩ := none_end sd
        refine And.intro rfl (And.intro (fun _ => ?_) (fun hne => absurd rfl hne))
        exact kn8 c08 fun h9 c9 => And.intro rfl c9
      | true =>
        cases gs with
        | true =>
          rw [if_neg (by simp)] at sd
          obtain ⟨a, cc, rfl⟩ := none_end sd
          refine And.intro rfl (And.intro (fun _ => ?_) (fun hne => absurd rfl hne))
          exact kn8 c08 fun h9 c9 => And.intro rfl c9
        | false =>
          rw [if_pos ⟨rfl, rfl⟩] at sd
          obtain ⟨a, cc, rfl, hcc⟩ := sd.form
          obtain ⟨b9, o9, rfl⟩ := sd.addr (by simp)
          have hcs := sd.cells encD_len (i := 0) (x := goneE key) rfl
          refine And.intro rfl (And.intro (fun _ => ?_) (fun hne => absurd rfl hne))
          refine And.intro (by decide) (And.intro (by simp) (Exists.intro (encD (goneE key)) (And.intro rfl (And.intro hcs ?_))))
          refine And.intro rfl (And.intro rfl (And.intro (fun _ => ?_) (fun hne => absurd rfl hne)))
          exact kn8 c08 fun h9 c9 => And.intro rfl c9

end Go.Proofs.YtigolfakcblnjaaGreatDoor
