/-
  Proved here: taborlaw17.MeaningNil returns true for every tree and all bounds of a run (of no keyspace nothing is done), and leaves its arguments as they are. No condition beyond the row's own cells.
-/
import Derived.Test.YtomcocbcajidcaaGreatDoorMNC
import Derived.Test.YtomcocbcajidcaaGreatDoorTQ
import Derived.Test.YtomcocbcajidcaaGreatDoorCards
namespace Go.Proofs.YtomcocbcajidcaaGreatDoor
open Go Go.ChangeShapes Go.WideShapes Go.ChangeAt Go.RowKit

theorem mn_w : Rows.meaningNilRow.wfByText (OpenSpec.ofChange Rows.meaningNilSpec) = true := by kernel_rfl
theorem mn_m : Tryz.pinned.checked.prog.mainIs = some (true, "5ceec43908f80f989d4fb26e4d759c5d095bf077cda390266efe62aa44808281".toList) := by kernel_rfl
theorem goes_none {P : Program} (h : P.funcs.any Func.goes = false) (f : FuncId) : P.goes f = false := by
  have hb : ∀ (g : Nat), (P.funcs[g]?).any Func.goes = false := fun g => by
    cases hg : P.funcs[g]? with
    | none => rfl
    | some fn =>
      obtain ⟨hi, he⟩ := Array.getElem?_eq_some_iff.1 hg
      have := Array.any_eq_false.1 h g hi
      rw [he] at this
      simpa using this
  unfold Program.goes
  rw [h, Bool.and_false, Bool.or_false]
  simp [hb]
theorem mn_go : Tryz.prog.funcs.any Func.goes = false := by kernel_rfl
theorem mn_g : false = Rows.meaningNilRow.goesBy Tryz.pinned.checked.prog := by
  have hn : Tryz.prog.funcNamed "tabor/taborlaw17.MeaningNil" = some 3 := by kernel_rfl
  show false = ((Tryz.prog.funcNamed "tabor/taborlaw17.MeaningNil").any Tryz.prog.goes || false)
  rw [hn, Option.any_some, goes_none mn_go]
  rfl
/-- THE CARD. -/
theorem mn_card : Rows.MeaningNilCardSaid :=
  Claim7.holds_tied_plain_at .later [] _ _ _ _ mn_said (fun _ h => by cases h) mn_w (fun _ h => by cases h) own_row_tie rfl ⟨rfl, rfl⟩ mn_m rfl mn_plain mn_g
#print axioms mn_card
end Go.Proofs.YtomcocbcajidcaaGreatDoor
