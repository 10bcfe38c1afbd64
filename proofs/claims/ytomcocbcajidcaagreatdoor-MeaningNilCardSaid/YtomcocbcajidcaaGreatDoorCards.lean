/-
  DERIVED. GIVEN WITH THE SEED: THE CARDS: each row of YtomcocbcajidcaaGreatDoorRows.lean that lists a variable, with what it lists TIED to the program's text (the seventh form; the later family's looks); each row that meets fmt, with fmt's text TOLD by the authors' own Lean function (tested against real Go, not proved from fmt's source: count such statements apart). THE CARD IS WHAT COUNTS. Prove the row's statement (the work); the ties are given (YtomcocbcajidcaaGreatDoorTie.lean); close each card by the builder's one call (the guide's Derived/Test/ToyasCard.lean, 'card_holds'). Laid BY PROGRAM, IN A SANDBOX (cutbox-door.mjs). By AI agents, Wed Nov 11 2026. No macro, syntax, notation, axiom, sorry.
-/
import Derived.Test.YtomcocbcajidcaaGreatDoorRows
import GoSem.ClaimSeven
namespace Go.Proofs.YtomcocbcajidcaaGreatDoor
namespace Rows

/-- THE TIED CARD OF 'taborlaw17.MeaningNil'. -/
def meaningNilCard : Claim7 := { stood := { row := meaningNilRow, standIns := [], harness := (true, "5ceec43908f80f989d4fb26e4d759c5d095bf077cda390266efe62aa44808281"), looks := true }, kinds := [], alts := [], laidByText := true, laidKinds := [.data, .pinned, .data, .listed, .sentinel, .sentinel, .data, .data, .data], laidTests := true, laidLooks := .later }
def MeaningNilCardSaid : Prop := Claim7.holds Tryz.pinned (.plain (OpenSpec.ofChange meaningNilSpec)) meaningNilCard

/-- THE SECOND FORM's CARD OF 'taborlaw17.MeaningNil'. -/
def meaningNilUptoCard : Claim7 := { stood := { row := meaningNilUptoRow, standIns := [], harness := (true, "5ceec43908f80f989d4fb26e4d759c5d095bf077cda390266efe62aa44808281"), looks := true }, kinds := [], alts := [], laidByText := true, laidKinds := [.data, .pinned, .data, .listed, .sentinel, .sentinel, .data, .data, .data], laidTests := true, laidLooks := .later }
def MeaningNilUptoCardSaid : Prop := Claim7.holds Tryz.pinned (.plain (OpenSpec.upto meaningNilSpec)) meaningNilUptoCard
end Rows
end Go.Proofs.YtomcocbcajidcaaGreatDoor
