/-
  Proved here: taborlaw20.MachineNil returns true for every program and all bounds of a run (of no keyspace nothing is done), and leaves its arguments as they are. No condition beyond the row's own cells.
-/
import Derived.Test.YtaeabfemedamhaaGreatDoorMMC
import Derived.Test.YtaeabfemedamhaaGreatDoorTQ
import Derived.Test.YtaeabfemedamhaaGreatDoorCards
namespace Go.Proofs.YtaeabfemedamhaaGreatDoor
open Go Go.ChangeShapes Go.WideShapes Go.ChangeAt Go.RowKit

theorem mm_w : Rows.machineNilRow.wfByText (OpenSpec.ofChange Rows.machineNilSpec) = true := by kernel_rfl
theorem mm_m : Tryz.pinned.checked.prog.mainIs = some (true, "e3a346f38c13ae15430144a626e095626164d96464a97b0c48942174033141e6".toList) := by kernel_rfl
theorem goes_none {P : Program} (h : P.funcs.any Func.goes = false) (f : FuncId) : P.goes f = false := by
  have hb : ∀ (g : Nat), (P.funcs[g]?).any Func.goes = false := fun g => by
    cases hg : P.funcs[g]? with
    | none => rfl
    | some fn =>
      obtain ⟨hi, he⟩ := Array.getElem?_eq_some_iff.1 hg
      have := Array.any_eq_false.1 h g hi
      rw [he] at this
      simpa using this
  unfold Program.goes
  rw [h, Bool.and_false, Bool.or_false]
  simp [hb]
theorem mm_go : Tryz.prog.funcs.any Func.goes = false := by kernel_rfl
theorem mm_gb : false = Rows.machineNilRow.goesBy Tryz.pinned.checked.prog := by
  have hn : Tryz.prog.funcNamed "tabor/taborlaw20.MachineNil" = some 3 := by kernel_rfl
  show false = ((Tryz.prog.funcNamed "tabor/taborlaw20.MachineNil").any Tryz.prog.goes || false)
  rw [hn, Option.any_some, goes_none mm_go]
  rfl
/-- THE CARD. -/
theorem mm_card : Rows.MachineNilCardSaid :=
  Claim7.holds_tied_plain_at .later [] _ _ _ _ mm_said (fun _ h => by cases h) mm_w (fun _ h => by cases h) own_row_tie rfl ⟨rfl, rfl⟩ mm_m rfl mm_plain mm_gb
#print axioms mm_card
end Go.Proofs.YtaeabfemedamhaaGreatDoor
