/-
  DERIVED. GIVEN WITH THE SEED: THE CARDS: each row of YtjnijlnmbjjgpaaGreatDoorRows.lean that lists a variable, with what it lists TIED to the program's text (the seventh form; the later family's looks); each row that meets fmt, with fmt's text TOLD by the authors' own Lean function (tested against real Go, not proved from fmt's source: count such statements apart). THE CARD IS WHAT COUNTS. Prove the row's statement (the work); the ties are given (YtjnijlnmbjjgpaaGreatDoorTie.lean); close each card by the builder's one call (the guide's Derived/Test/ToyasCard.lean, 'card_holds'). Laid BY PROGRAM, IN A SANDBOX (cutbox-door.mjs). By AI agents, Wed Nov 11 2026. No macro, syntax, notation, axiom, sorry.
-/
import Derived.Test.YtjnijlnmbjjgpaaGreatDoorRows
import GoSem.ClaimSeven
namespace Go.Proofs.YtjnijlnmbjjgpaaGreatDoor
namespace Rows

/-- THE TIED CARD OF 'taborlaw09.CollsList'. -/
def collsListCard : Claim7 := { stood := { row := collsListRow, standIns := [], harness := (true, "586eab87a98deb763b734a5bb80dde858ca2e1e56e56e68c488e427d509c3791"), looks := true }, kinds := [], alts := [], laidByText := true, laidKinds := [.data, .data, .data, .sentinel, .sentinel], laidTests := true, laidLooks := .later }
def CollsListCardSaid : Prop := Claim7.holds Tryz.pinned (.plain (OpenSpec.ofChange collsListSpec)) collsListCard

/-- THE TIED CARD OF 'taborlaw09.CollsHash'. -/
def collsHashCard : Claim7 := { stood := { row := collsHashRow, standIns := [], harness := (true, "586eab87a98deb763b734a5bb80dde858ca2e1e56e56e68c488e427d509c3791"), looks := true }, kinds := [], alts := [], laidByText := true, laidKinds := [.data, .data, .data, .sentinel, .sentinel], laidTests := true, laidLooks := .later }
def CollsHashCardSaid : Prop := Claim7.holds Tryz.pinned (.plain (OpenSpec.ofChange collsHashSpec)) collsHashCard

/-- THE TIED CARD OF 'taborlaw09.CollsSet'. -/
def collsSetCard : Claim7 := { stood := { row := collsSetRow, standIns := [], harness := (true, "586eab87a98deb763b734a5bb80dde858ca2e1e56e56e68c488e427d509c3791"), looks := true }, kinds := [], alts := [], laidByText := true, laidKinds := [.data, .data, .data, .sentinel, .sentinel], laidTests := true, laidLooks := .later }
def CollsSetCardSaid : Prop := Claim7.holds Tryz.pinned (.plain (OpenSpec.ofChange collsSetSpec)) collsSetCard

/-- THE TIED CARD OF 'taborlaw09.CollsRanks'. -/
def collsRanksCard : Claim7 := { stood := { row := collsRanksRow, standIns := [], harness := (true, "586eab87a98deb763b734a5bb80dde858ca2e1e56e56e68c488e427d509c3791"), looks := true }, kinds := [], alts := [], laidByText := true, laidKinds := [.data, .data, .data, .sentinel, .sentinel], laidTests := true, laidLooks := .later }
def CollsRanksCardSaid : Prop := Claim7.holds Tryz.pinned (.plain (OpenSpec.ofChange collsRanksSpec)) collsRanksCard

/-- THE TIED CARD OF 'taborlaw09.CollsDo'. -/
def collsDoCard : Claim7 := { stood := { row := collsDoRow, standIns := [], harness := (true, "586eab87a98deb763b734a5bb80dde858ca2e1e56e56e68c488e427d509c3791"), looks := true }, kinds := [], alts := [], laidByText := true, laidKinds := [.data, .data, .data, .sentinel, .sentinel], laidTests := true, laidLooks := .later }
def CollsDoCardSaid : Prop := Claim7.holds Tryz.pinned (.plain (OpenSpec.ofChange collsDoSpec)) collsDoCard

/-- THE TIED CARD OF 'taborlaw09.CollsTold'. -/
def collsToldCard : Claim7 := { stood := { row := collsToldRow, standIns := [], harness := (true, "586eab87a98deb763b734a5bb80dde858ca2e1e56e56e68c488e427d509c3791"), looks := true }, kinds := [], alts := [], laidByText := true, laidKinds := [.data, .data, .data, .sentinel, .sentinel], laidTests := true, laidLooks := .later }
def CollsToldCardSaid : Prop := Claim7.holds Tryz.pinned (.plain (OpenSpec.ofChange collsToldSpec)) collsToldCard

/-- THE TIED CARD OF 'taborlaw09.CollsEffects'. -/
def collsEffectsCard : Claim7 := { stood := { row := collsEffectsRow, standIns := [], harness := (true, "586eab87a98deb763b734a5bb80dde858ca2e1e56e56e68c488e427d509c3791"), looks := true }, kinds := [], alts := [], laidByText := true, laidKinds := [.data, .data, .data, .sentinel, .sentinel], laidTests := true, laidLooks := .later }
def CollsEffectsCardSaid : Prop := Claim7.holds Tryz.pinned (.plain (OpenSpec.ofChange collsEffectsSpec)) collsEffectsCard

/-- THE TIED CARD OF 'taborlaw10.CommandsRun'. -/
def commandsRunCard : Claim7 := { stood := { row := commandsRunRow, standIns := [], harness := (true, "586eab87a98deb763b734a5bb80dde858ca2e1e56e56e68c488e427d509c3791"), looks := true }, kinds := [], alts := [], laidByText := true, laidKinds := [.data, .data, .data, .sentinel, .sentinel], laidTests := true, laidLooks := .later }
def CommandsRunCardSaid : Prop := Claim7.holds Tryz.pinned (.plain (OpenSpec.ofChange commandsRunSpec)) commandsRunCard

/-- THE SECOND FORM's CARD OF 'taborlaw09.CollsList'. -/
def collsListUptoCard : Claim7 := { stood := { row := collsListUptoRow, standIns := [], harness := (true, "586eab87a98deb763b734a5bb80dde858ca2e1e56e56e68c488e427d509c3791"), looks := true }, kinds := [], alts := [], laidByText := true, laidKinds := [.data, .data, .data, .sentinel, .sentinel], laidTests := true, laidLooks := .later }
def CollsListUptoCardSaid : Prop := Claim7.holds Tryz.pinned (.plain (OpenSpec.upto collsListSpec)) collsListUptoCard

/-- THE SECOND FORM's CARD OF 'taborlaw09.CollsHash'. -/
def collsHashUptoCard : Claim7 := { stood := { row := collsHashUptoRow, standIns := [], harness := (true, "586eab87a98deb763b734a5bb80dde858ca2e1e56e56e68c488e427d509c3791"), looks := true }, kinds := [], alts := [], laidByText := true, laidKinds := [.data, .data, .data, .sentinel, .sentinel], laidTests := true, laidLooks := .later }
def CollsHashUptoCardSaid : Prop := Claim7.holds Tryz.pinned (.plain (OpenSpec.upto collsHashSpec)) collsHashUptoCard

/-- THE SECOND FORM's CARD OF 'taborlaw09.CollsSet'. -/
def collsSetUptoCard : Claim7 := { stood := { row := collsSetUptoRow, standIns := [], harness := (true, "586eab87a98deb763b734a5bb80dde858ca2e1e56e56e68c488e427d509c3791"), looks := true }, kinds := [], alts := [], laidByText := true, laidKinds := [.data, .data, .data, .sentinel, .sentinel], laidTests := true, laidLooks := .later }
def CollsSetUptoCardSaid : Prop := Claim7.holds Tryz.pinned (.plain (OpenSpec.upto collsSetSpec)) collsSetUptoCard

/-- THE SECOND FORM's CARD OF 'taborlaw09.CollsRanks'. -/
def collsRanksUptoCard : Claim7 := { stood := { row := collsRanksUptoRow, standIns := [], harness := (true, "586eab87a98deb763b734a5bb80dde858ca2e1e56e56e68c488e427d509c3791"), looks := true }, kinds := [], alts := [], laidByText := true, laidKinds := [.data, .data, .data, .sentinel, .sentinel], laidTests := true, laidLooks := .later }
def CollsRanksUptoCardSaid : Prop := Claim7.holds Tryz.pinned (.plain (OpenSpec.upto collsRanksSpec)) collsRanksUptoCard

/-- THE SECOND FORM's CARD OF 'taborlaw09.CollsDo'. -/
def collsDoUptoCard : Claim7 := { stood := { row := collsDoUptoRow, standIns := [], harness := (true, "586eab87a98deb763b734a5bb80dde858ca2e1e56e56e68c488e427d509c3791"), looks := true }, kinds := [], alts := [], laidByText := true, laidKinds := [.data, .data, .data, .sentinel, .sentinel], laidTests := true, laidLooks := .later }
def CollsDoUptoCardSaid : Prop := Claim7.holds Tryz.pinned (.plain (OpenSpec.upto collsDoSpec)) collsDoUptoCard

/-- THE SECOND FORM's CARD OF 'taborlaw09.CollsTold'. -/
def collsToldUptoCard : Claim7 := { stood := { row := collsToldUptoRow, standIns := [], harness := (true, "586eab87a98deb763b734a5bb80dde858ca2e1e56e56e68c488e427d509c3791"), looks := true }, kinds := [], alts := [], laidByText := true, laidKinds := [.data, .data, .data, .sentinel, .sentinel], laidTests := true, laidLooks := .later }
def CollsToldUptoCardSaid : Prop := Claim7.holds Tryz.pinned (.plain (OpenSpec.upto collsToldSpec)) collsToldUptoCard

/-- THE SECOND FORM's CARD OF 'taborlaw09.CollsEffects'. -/
def collsEffectsUptoCard : Claim7 := { stood := { row := collsEffectsUptoRow, standIns := [], harness := (true, "586eab87a98deb763b734a5bb80dde858ca2e1e56e56e68c488e427d509c3791"), looks := true }, kinds := [], alts := [], laidByText := true, laidKinds := [.data, .data, .data, .sentinel, .sentinel], laidTests := true, laidLooks := .later }
def CollsEffectsUptoCardSaid : Prop := Claim7.holds Tryz.pinned (.plain (OpenSpec.upto collsEffectsSpec)) collsEffectsUptoCard

/-- THE SECOND FORM's CARD OF 'taborlaw10.CommandsRun'. -/
def commandsRunUptoCard : Claim7 := { stood := { row := commandsRunUptoRow, standIns := [], harness := (true, "586eab87a98deb763b734a5bb80dde858ca2e1e56e56e68c488e427d509c3791"), looks := true }, kinds := [], alts := [], laidByText := true, laidKinds := [.data, .data, .data, .sentinel, .sentinel], laidTests := true, laidLooks := .later }
def CommandsRunUptoCardSaid : Prop := Claim7.holds Tryz.pinned (.plain (OpenSpec.upto commandsRunSpec)) commandsRunUptoCard
end Rows
end Go.Proofs.YtjnijlnmbjjgpaaGreatDoor
