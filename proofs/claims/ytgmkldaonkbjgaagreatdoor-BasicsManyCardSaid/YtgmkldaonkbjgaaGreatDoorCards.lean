/-
  DERIVED. GIVEN WITH THE SEED: THE CARDS: each row of YtgmkldaonkbjgaaGreatDoorRows.lean that lists a variable, with what it lists TIED to the program's text (the seventh form; the later family's looks); each row that meets fmt, with fmt's text TOLD by the authors' own Lean function (tested against real Go, not proved from fmt's source: count such statements apart). THE CARD IS WHAT COUNTS. Prove the row's statement (the work); the ties are given (YtgmkldaonkbjgaaGreatDoorTie.lean); close each card by the builder's one call (the guide's Derived/Test/ToyasCard.lean, 'card_holds'). Laid BY PROGRAM, IN A SANDBOX (cutbox-door.mjs). By AI agents, Wed Nov 11 2026. No macro, syntax, notation, axiom, sorry.
-/
import Derived.Test.YtgmkldaonkbjgaaGreatDoorRows
import GoSem.ClaimSeven
namespace Go.Proofs.YtgmkldaonkbjgaaGreatDoor
namespace Rows

/-- THE TIED CARD OF 'taborlaw08.BasicsCounts'. -/
def basicsCountsCard : Claim7 := { stood := { row := basicsCountsRow, standIns := [], harness := (true, "5d25873896e4061f9eebc82b1fba148442d581ff17bf81586340403731cf9c3f"), looks := true }, kinds := [], alts := [], laidByText := true, laidKinds := [.data, .data, .data, .sentinel, .sentinel], laidTests := true, laidLooks := .later }
def BasicsCountsCardSaid : Prop := Claim7.holds Tryz.pinned (.plain (OpenSpec.ofChange basicsCountsSpec)) basicsCountsCard

/-- THE TIED CARD OF 'taborlaw08.BasicsMany'. -/
def basicsManyCard : Claim7 := { stood := { row := basicsManyRow, standIns := [], harness := (true, "5d25873896e4061f9eebc82b1fba148442d581ff17bf81586340403731cf9c3f"), looks := true }, kinds := [], alts := [], laidByText := true, laidKinds := [.data, .data, .data, .sentinel, .sentinel], laidTests := true, laidLooks := .later }
def BasicsManyCardSaid : Prop := Claim7.holds Tryz.pinned (.plain (OpenSpec.ofChange basicsManySpec)) basicsManyCard

/-- THE TIED CARD OF 'taborlaw08.BasicsEffects'. -/
def basicsEffectsCard : Claim7 := { stood := { row := basicsEffectsRow, standIns := [], harness := (true, "5d25873896e4061f9eebc82b1fba148442d581ff17bf81586340403731cf9c3f"), looks := true }, kinds := [], alts := [], laidByText := true, laidKinds := [.data, .data, .data, .sentinel, .sentinel], laidTests := true, laidLooks := .later }
def BasicsEffectsCardSaid : Prop := Claim7.holds Tryz.pinned (.plain (OpenSpec.ofChange basicsEffectsSpec)) basicsEffectsCard

/-- THE TIED CARD OF 'taborlaw08.BasicsTold'. -/
def basicsToldCard : Claim7 := { stood := { row := basicsToldRow, standIns := [], harness := (true, "5d25873896e4061f9eebc82b1fba148442d581ff17bf81586340403731cf9c3f"), looks := true }, kinds := [], alts := [], laidByText := true, laidKinds := [.data, .data, .data, .sentinel, .sentinel], laidTests := true, laidLooks := .later }
def BasicsToldCardSaid : Prop := Claim7.holds Tryz.pinned (.plain (OpenSpec.ofChange basicsToldSpec)) basicsToldCard

/-- THE SECOND FORM's CARD OF 'taborlaw08.BasicsCounts'. -/
def basicsCountsUptoCard : Claim7 := { stood := { row := basicsCountsUptoRow, standIns := [], harness := (true, "5d25873896e4061f9eebc82b1fba148442d581ff17bf81586340403731cf9c3f"), looks := true }, kinds := [], alts := [], laidByText := true, laidKinds := [.data, .data, .data, .sentinel, .sentinel], laidTests := true, laidLooks := .later }
def BasicsCountsUptoCardSaid : Prop := Claim7.holds Tryz.pinned (.plain (OpenSpec.upto basicsCountsSpec)) basicsCountsUptoCard

/-- THE SECOND FORM's CARD OF 'taborlaw08.BasicsMany'. -/
def basicsManyUptoCard : Claim7 := { stood := { row := basicsManyUptoRow, standIns := [], harness := (true, "5d25873896e4061f9eebc82b1fba148442d581ff17bf81586340403731cf9c3f"), looks := true }, kinds := [], alts := [], laidByText := true, laidKinds := [.data, .data, .data, .sentinel, .sentinel], laidTests := true, laidLooks := .later }
def BasicsManyUptoCardSaid : Prop := Claim7.holds Tryz.pinned (.plain (OpenSpec.upto basicsManySpec)) basicsManyUptoCard

/-- THE SECOND FORM's CARD OF 'taborlaw08.BasicsEffects'. -/
def basicsEffectsUptoCard : Claim7 := { stood := { row := basicsEffectsUptoRow, standIns := [], harness := (true, "5d25873896e4061f9eebc82b1fba148442d581ff17bf81586340403731cf9c3f"), looks := true }, kinds := [], alts := [], laidByText := true, laidKinds := [.data, .data, .data, .sentinel, .sentinel], laidTests := true, laidLooks := .later }
def BasicsEffectsUptoCardSaid : Prop := Claim7.holds Tryz.pinned (.plain (OpenSpec.upto basicsEffectsSpec)) basicsEffectsUptoCard

/-- THE SECOND FORM's CARD OF 'taborlaw08.BasicsTold'. -/
def basicsToldUptoCard : Claim7 := { stood := { row := basicsToldUptoRow, standIns := [], harness := (true, "5d25873896e4061f9eebc82b1fba148442d581ff17bf81586340403731cf9c3f"), looks := true }, kinds := [], alts := [], laidByText := true, laidKinds := [.data, .data, .data, .sentinel, .sentinel], laidTests := true, laidLooks := .later }
def BasicsToldUptoCardSaid : Prop := Claim7.holds Tryz.pinned (.plain (OpenSpec.upto basicsToldSpec)) basicsToldUptoCard
end Rows
end Go.Proofs.YtgmkldaonkbjgaaGreatDoor
