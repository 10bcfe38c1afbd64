/-
  DERIVED. GIVEN WITH THE SEED: THE CARDS: each row of YtjinlabdkegjmaaGreatDoorRows.lean that lists a variable, with what it lists TIED to the program's text (the seventh form; the later family's looks); each row that meets fmt, with fmt's text TOLD by the authors' own Lean function (tested against real Go, not proved from fmt's source: count such statements apart). THE CARD IS WHAT COUNTS. Prove the row's statement (the work); the ties are given (YtjinlabdkegjmaaGreatDoorTie.lean); close each card by the builder's one call (the guide's Derived/Test/ToyasCard.lean, 'card_holds'). Laid BY PROGRAM, IN A SANDBOX (cutbox-door.mjs). By AI agents, Wed Nov 11 2026. No macro, syntax, notation, axiom, sorry.
-/
import Derived.Test.YtjinlabdkegjmaaGreatDoorRows
import GoSem.ClaimSeven
namespace Go.Proofs.YtjinlabdkegjmaaGreatDoor
namespace Rows

/-- THE TIED CARD OF 'taborlaw09.CollsNames'. -/
def collsNamesCard : Claim7 := { stood := { row := collsNamesRow, standIns := [], harness := (true, "99a441ce5a67f0bee391478c5809ebbe7e060a7db7e3ec36a4feeb95d0090be0"), looks := true }, kinds := [], alts := [], laidByText := true, laidKinds := [.data, .data, .data, .sentinel, .sentinel], laidTests := true, laidLooks := .later }
def CollsNamesCardSaid : Prop := Claim7.holds Tryz.pinned (.plain (OpenSpec.ofChange collsNamesSpec)) collsNamesCard

/-- THE TIED CARD OF 'taborlaw10.CommandsNil'. -/
def commandsNilCard : Claim7 := { stood := { row := commandsNilRow, standIns := [], harness := (true, "99a441ce5a67f0bee391478c5809ebbe7e060a7db7e3ec36a4feeb95d0090be0"), looks := true }, kinds := [], alts := [], laidByText := true, laidKinds := [.data, .data, .data, .sentinel, .sentinel], laidTests := true, laidLooks := .later }
def CommandsNilCardSaid : Prop := Claim7.holds Tryz.pinned (.plain (OpenSpec.ofChange commandsNilSpec)) commandsNilCard

/-- THE TIED CARD OF 'taborlaw10.CommandsNames'. -/
def commandsNamesCard : Claim7 := { stood := { row := commandsNamesRow, standIns := [], harness := (true, "99a441ce5a67f0bee391478c5809ebbe7e060a7db7e3ec36a4feeb95d0090be0"), looks := true }, kinds := [], alts := [], laidByText := true, laidKinds := [.data, .data, .data, .sentinel, .sentinel], laidTests := true, laidLooks := .later }
def CommandsNamesCardSaid : Prop := Claim7.holds Tryz.pinned (.plain (OpenSpec.ofChange commandsNamesSpec)) commandsNamesCard

/-- THE SECOND FORM's CARD OF 'taborlaw09.CollsNames'. -/
def collsNamesUptoCard : Claim7 := { stood := { row := collsNamesUptoRow, standIns := [], harness := (true, "99a441ce5a67f0bee391478c5809ebbe7e060a7db7e3ec36a4feeb95d0090be0"), looks := true }, kinds := [], alts := [], laidByText := true, laidKinds := [.data, .data, .data, .sentinel, .sentinel], laidTests := true, laidLooks := .later }
def CollsNamesUptoCardSaid : Prop := Claim7.holds Tryz.pinned (.plain (OpenSpec.upto collsNamesSpec)) collsNamesUptoCard

/-- THE SECOND FORM's CARD OF 'taborlaw10.CommandsNil'. -/
def commandsNilUptoCard : Claim7 := { stood := { row := commandsNilUptoRow, standIns := [], harness := (true, "99a441ce5a67f0bee391478c5809ebbe7e060a7db7e3ec36a4feeb95d0090be0"), looks := true }, kinds := [], alts := [], laidByText := true, laidKinds := [.data, .data, .data, .sentinel, .sentinel], laidTests := true, laidLooks := .later }
def CommandsNilUptoCardSaid : Prop := Claim7.holds Tryz.pinned (.plain (OpenSpec.upto commandsNilSpec)) commandsNilUptoCard

/-- THE SECOND FORM's CARD OF 'taborlaw10.CommandsNames'. -/
def commandsNamesUptoCard : Claim7 := { stood := { row := commandsNamesUptoRow, standIns := [], harness := (true, "99a441ce5a67f0bee391478c5809ebbe7e060a7db7e3ec36a4feeb95d0090be0"), looks := true }, kinds := [], alts := [], laidByText := true, laidKinds := [.data, .data, .data, .sentinel, .sentinel], laidTests := true, laidLooks := .later }
def CommandsNamesUptoCardSaid : Prop := Claim7.holds Tryz.pinned (.plain (OpenSpec.upto commandsNamesSpec)) commandsNamesUptoCard
end Rows
end Go.Proofs.YtjinlabdkegjmaaGreatDoor
