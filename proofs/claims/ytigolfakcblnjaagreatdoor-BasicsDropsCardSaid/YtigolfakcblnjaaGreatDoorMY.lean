/-
  Layer 7: items put into slices, taken out of them (printed by genins.py).
  Layer 7: where an item stands, or must stand (printed by genbs.py).
-/
import Derived.Test.YtigolfakcblnjaaGreatDoorMK
import Derived.Test.YtigolfakcblnjaaGreatDoorSxX
namespace Go.Proofs.YtigolfakcblnjaaGreatDoor
open Go Go.Sx Go.Proofs.YtigolfakcblnjaaGreatDoor.C

end Go.Proofs.YtigolfakcblnjaaGreatDoor
namespace Go.Proofs.YtigolfakcblnjaaGreatDoor
open Go Go.Sx Go.Proofs.YtigolfakcblnjaaGreatDoor.C

/-- Where the low ones end. -/
structure CutAt {α : Type} (lo : α → Bool) (l : List α) (k : Nat) : Prop where
  le : k ≤ l.length
  low : ∀ i (_ : i < k) (h : i < l.length), lo l[i] = true
  high : ∀ i (_ : k ≤ i) (h : i < l.length), lo l[i] = false

/-- What a function that compares with a target gives. -/
def CmpS (g : Nat) (tgt cap : List Value) (lo eq : ByteArray → Bool) (h : Heap) : Prop := ∀ h' x, Chg [] h h' → CallsH Tryz.prog g (.string x :: (tgt ++ cap)) h' (Ret fun u h'' => (∃ z, u = .int .i64 z ∧ (z < 0 ↔ lo x = true) ∧ (z = 0 ↔ eq x = true)) ∧ Chg [] h' h'')

/-- What a function that compares with a target gives. -/
def CmpP (g : Nat) (tgt cap : List Value) (lo eq : Pair → Bool) (h : Heap) : Prop := ∀ h' x, Chg [] h h' → CallsH Tryz.prog g (.agg ⟨encP x⟩ :: (tgt ++ cap)) h' (Ret fun u h'' => (∃ z, u = .int .i64 z ∧ (z < 0 ↔ lo x = true) ∧ (z = 0 ↔ eq x = true)) ∧ Chg [] h' h'')

/-- What a function that compares with a target gives. -/
def CmpR (g : Nat) (tgt cap : List Value) (lo : Rank → Bool) (h : Heap) : Prop := ∀ h' x, Chg [] h h' → CallsH Tryz.prog g (.agg ⟨encR x⟩ :: (tgt ++ cap)) h' (Ret fun u h'' => (∃ z, u = .int .i64 z ∧ (z < 0 ↔ lo x = true)) ∧ Chg [] h' h'')

end Go.Proofs.YtigolfakcblnjaaGreatDoor
