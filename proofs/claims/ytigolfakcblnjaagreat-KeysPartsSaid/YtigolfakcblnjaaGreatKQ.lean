/-
  Layer 7: the reference's Find, Put, Get, Names.
-/
import Derived.Test.YtigolfakcblnjaaGreatKP
namespace Go.Proofs.YtigolfakcblnjaaGreat
open Go Go.Sx Go.Proofs.YtigolfakcblnjaaGreat.C

theorem cells_vs {h : Heap} {b o : Nat} {x : RX} (hc : Cells h b o (encX x)) : Cells h b (o + 1) x.vs := fun i v hv => by
  have := hc (i + 1) v hv
  rw [show o + 1 + i = o + (i + 1) by omega]; exact this

theorem swp_seq {P : Program} {a b : SCode} {Q : Post} {σ : Env} {ds : List Deferred} {h : Heap} (hs : swp P a (thenQ (swp P b Q) Q) σ ds h) : swp P (.seq a b) Q σ ds h := hs

theorem seven_form {vs : List Value} (h : vs.length = 7) : ∃ a b c d e f g, vs = [a, b, c, d, e, f, g] := by
  match vs, h with
  | [a, b, c, d, e, f, g], _ => exact ⟨a, b, c, d, e, f, g, rfl⟩

theorem TH.hasU {h : Heap} {vs : List Value} {t : Thing} (x : TH h vs t) : vs[5]? = some (.bool t.hasU) := by
  obtain ⟨pv, lv, rv, rfl, _⟩ := x
  rfl
theorem TH.unt {h : Heap} {vs : List Value} {t : Thing} (x : TH h vs t) : vs[6]? = some (.int .i64 t.unt) := by
  obtain ⟨pv, lv, rv, rfl, _⟩ := x
  rfl

/-- Keys are of a length that the walks can count. -/
def KeysFit (l : List RX) : Prop := ∀ x ∈ l, x.key.size < 4611686018427387904

def goneT (t : Thing) (now : Int) : Bool := t.hasU && decide (t.unt ≤ now)
/-- What stands under a key. -/
def lookX (l : List RX) (key : ByteArray) : Option Thing := if (findX key l).2 = true then (l[(findX key l).1]?).map (·.thing) else none
def getX (l : List RX) (key : ByteArray) (now : Int) : Option Thing := match lookX l key with
  | some t => if goneT t now = true then none else some t
  | none => none

end Go.Proofs.YtigolfakcblnjaaGreat
