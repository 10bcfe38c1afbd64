/-
  Proved here: tabor/taborlaw22.RunnerNil returns true for every input (a runner that is not there does nothing; copies go on apart), and leaves its arguments as they are. No condition beyond the row's own cells.
-/
import Derived.Test.YtikcimlokhmleaaGreatDoorRWC
import Derived.Test.YtikcimlokhmleaaGreatDoorRWQ
import Derived.Test.YtikcimlokhmleaaGreatDoorCards
namespace Go.Proofs.YtikcimlokhmleaaGreatDoor
open Go Go.ChangeShapes Go.WideShapes Go.ChangeAt Go.RowKit

theorem rn_w : Rows.runnerNilRow.wfByText (OpenSpec.ofChange Rows.runnerNilSpec) = true := by kernel_rfl
theorem rn_m : Tryz.pinned.checked.prog.mainIs = some (true, "1a4bdafa6cae4dab4a2ddf9e29b6de3f37d1b4305b78faf9ca7d03461d37b25a".toList) := by kernel_rfl
theorem goes_none {P : Program} (h : P.funcs.any Func.goes = false) (f : FuncId) : P.goes f = false := by
  have hb : ∀ (g : Nat), (P.funcs[g]?).any Func.goes = false := fun g => by
    cases hg : P.funcs[g]? with
    | none => rfl
    | some fn =>
      obtain ⟨hi, he⟩ := Array.getElem?_eq_some_iff.1 hg
      have := Array.any_eq_false.1 h g hi
      rw [he] at this
      simpa using this
  unfold Program.goes
  rw [h, Bool.and_false, Bool.or_false]
  simp [hb]
theorem rn_go : Tryz.prog.funcs.any Func.goes = false := by kernel_rfl
theorem rn_gb : false = Rows.runnerNilRow.goesBy Tryz.pinned.checked.prog := by
  have hn : Tryz.prog.funcNamed "tabor/taborlaw22.RunnerNil" = some 3 := by kernel_rfl
  show false = ((Tryz.prog.funcNamed "tabor/taborlaw22.RunnerNil").any Tryz.prog.goes || false)
  rw [hn, Option.any_some, goes_none rn_go]
  rfl
/-- THE CARD. -/
theorem rn_card : Rows.RunnerNilCardSaid :=
  Claim7.holds_tied_plain_at .later [] _ _ _ _ rn_said (fun _ h => by cases h) rn_w (fun _ h => by cases h) own_row_tie rfl ⟨rfl, rfl⟩ rn_m rfl rn_plain rn_gb
#print axioms rn_card
end Go.Proofs.YtikcimlokhmleaaGreatDoor
