/-
  DERIVED. GIVEN WITH THE SEED: THE CARDS: each row of YtikcimlokhmleaaGreatDoorRows.lean that lists a variable, with what it lists TIED to the program's text (the seventh form; the later family's looks); each row that meets fmt, with fmt's text TOLD by the authors' own Lean function (tested against real Go, not proved from fmt's source: count such statements apart). THE CARD IS WHAT COUNTS. Prove the row's statement (the work); the ties are given (YtikcimlokhmleaaGreatDoorTie.lean); close each card by the builder's one call (the guide's Derived/Test/ToyasCard.lean, 'card_holds'). Laid BY PROGRAM, IN A SANDBOX (cutbox-door.mjs). By AI agents, Wed Nov 11 2026. No macro, syntax, notation, axiom, sorry.
-/
import Derived.Test.YtikcimlokhmleaaGreatDoorRows
import GoSem.ClaimSeven
namespace Go.Proofs.YtikcimlokhmleaaGreatDoor
namespace Rows

/-- THE TIED CARD OF 'taborlaw22.RunnerNil'. -/
def runnerNilCard : Claim7 := { stood := { row := runnerNilRow, standIns := [], harness := (true, "1a4bdafa6cae4dab4a2ddf9e29b6de3f37d1b4305b78faf9ca7d03461d37b25a"), looks := true }, kinds := [], alts := [], laidByText := true, laidKinds := [.sentinel, .sentinel, .data, .data, .data, .data, .pinned, .data, .listed], laidTests := true, laidLooks := .later }
def RunnerNilCardSaid : Prop := Claim7.holds Tryz.pinned (.plain (OpenSpec.ofChange runnerNilSpec)) runnerNilCard

/-- THE SECOND FORM's CARD OF 'taborlaw22.RunnerNil'. -/
def runnerNilUptoCard : Claim7 := { stood := { row := runnerNilUptoRow, standIns := [], harness := (true, "1a4bdafa6cae4dab4a2ddf9e29b6de3f37d1b4305b78faf9ca7d03461d37b25a"), looks := true }, kinds := [], alts := [], laidByText := true, laidKinds := [.sentinel, .sentinel, .data, .data, .data, .data, .pinned, .data, .listed], laidTests := true, laidLooks := .later }
def RunnerNilUptoCardSaid : Prop := Claim7.holds Tryz.pinned (.plain (OpenSpec.upto runnerNilSpec)) runnerNilUptoCard
end Rows
end Go.Proofs.YtikcimlokhmleaaGreatDoor
