/-
  DERIVED. GIVEN WITH THE SEED: THE CARDS: each row of YtocgmipngoiieaaGreatDoorRows.lean that lists a variable, with what it lists TIED to the program's text (the seventh form; the later family's looks); each row that meets fmt, with fmt's text TOLD by the authors' own Lean function (tested against real Go, not proved from fmt's source: count such statements apart). THE CARD IS WHAT COUNTS. Prove the row's statement (the work); the ties are given (YtocgmipngoiieaaGreatDoorTie.lean); close each card by the builder's one call (the guide's Derived/Test/ToyasCard.lean, 'card_holds'). Laid BY PROGRAM, IN A SANDBOX (cutbox-door.mjs). By AI agents, Wed Nov 11 2026. No macro, syntax, notation, axiom, sorry.
-/
import Derived.Test.YtocgmipngoiieaaGreatDoorRows
import GoSem.ClaimSeven
namespace Go.Proofs.YtocgmipngoiieaaGreatDoor
namespace Rows

/-- THE TIED CARD OF 'taborlaw10.CommandsRun'. -/
def commandsRunCard : Claim7 := { stood := { row := commandsRunRow, standIns := [], harness := (true, "8c56d27763ed239227be827dcf21713a47cd4279a3d7800789f8c6f2301de0b6"), looks := true }, kinds := [], alts := [], laidByText := true, laidKinds := [.data, .data, .data, .sentinel, .sentinel], laidTests := true, laidLooks := .later }
def CommandsRunCardSaid : Prop := Claim7.holds Tryz.pinned (.plain (OpenSpec.ofChange commandsRunSpec)) commandsRunCard

/-- THE SECOND FORM's CARD OF 'taborlaw10.CommandsRun'. -/
def commandsRunUptoCard : Claim7 := { stood := { row := commandsRunUptoRow, standIns := [], harness := (true, "8c56d27763ed239227be827dcf21713a47cd4279a3d7800789f8c6f2301de0b6"), looks := true }, kinds := [], alts := [], laidByText := true, laidKinds := [.data, .data, .data, .sentinel, .sentinel], laidTests := true, laidLooks := .later }
def CommandsRunUptoCardSaid : Prop := Claim7.holds Tryz.pinned (.plain (OpenSpec.upto commandsRunSpec)) commandsRunUptoCard
end Rows
end Go.Proofs.YtocgmipngoiieaaGreatDoor
