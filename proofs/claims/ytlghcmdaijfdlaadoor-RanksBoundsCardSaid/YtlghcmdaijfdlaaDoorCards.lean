/-
  DERIVED. GIVEN WITH THE SEED: THE CARDS: each row of YtlghcmdaijfdlaaDoorRows.lean that lists a variable, with what it lists TIED to the program's text (the seventh form; the later family's looks); each row that meets fmt, with fmt's text TOLD by the authors' own Lean function (tested against real Go, not proved from fmt's source: count such statements apart). THE CARD IS WHAT COUNTS. Prove the row's statement (the work); the ties are given (YtlghcmdaijfdlaaDoorTie.lean); close each card by the builder's one call (the guide's Derived/Test/ToyasCard.lean, 'card_holds'). Laid BY PROGRAM, IN A SANDBOX (cutbox-door.mjs). By AI agents, Wed Nov 11 2026. No macro, syntax, notation, axiom, sorry.
-/
import Derived.Test.YtlghcmdaijfdlaaDoorRows
import GoSem.ClaimSeven
namespace Go.Proofs.YtlghcmdaijfdlaaDoor
namespace Rows

/-- THE TIED CARD OF 'taborlaw05.RanksTells'. -/
def ranksTellsCard : Claim7 := { stood := { row := ranksTellsRow, standIns := [], harness := (true, "f087c88a979912475d43ecefb8751fe6a518451a0a3d7dc70b8d4a7346c37cfc"), looks := false }, kinds := [], alts := [], laidByText := true, laidKinds := [.data, .data], laidTests := true, laidLooks := .later }
def RanksTellsCardSaid : Prop := Claim7.holds Tryd.pinned (.plain (OpenSpec.ofChange ranksTellsSpec)) ranksTellsCard

/-- THE TIED CARD OF 'taborlaw05.RanksDrops'. -/
def ranksDropsCard : Claim7 := { stood := { row := ranksDropsRow, standIns := [], harness := (true, "f087c88a979912475d43ecefb8751fe6a518451a0a3d7dc70b8d4a7346c37cfc"), looks := false }, kinds := [], alts := [], laidByText := true, laidKinds := [.data, .data], laidTests := true, laidLooks := .later }
def RanksDropsCardSaid : Prop := Claim7.holds Tryd.pinned (.plain (OpenSpec.ofChange ranksDropsSpec)) ranksDropsCard

/-- THE TIED CARD OF 'taborlaw05.RanksPlays'. -/
def ranksPlaysCard : Claim7 := { stood := { row := ranksPlaysRow, standIns := [], harness := (true, "f087c88a979912475d43ecefb8751fe6a518451a0a3d7dc70b8d4a7346c37cfc"), looks := false }, kinds := [], alts := [], laidByText := true, laidKinds := [.data, .data], laidTests := true, laidLooks := .later }
def RanksPlaysCardSaid : Prop := Claim7.holds Tryd.pinned (.plain (OpenSpec.ofChange ranksPlaysSpec)) ranksPlaysCard

/-- THE TIED CARD OF 'taborlaw05.RanksBounds'. -/
def ranksBoundsCard : Claim7 := { stood := { row := ranksBoundsRow, standIns := [], harness := (true, "f087c88a979912475d43ecefb8751fe6a518451a0a3d7dc70b8d4a7346c37cfc"), looks := false }, kinds := [], alts := [], laidByText := true, laidKinds := [.data, .data], laidTests := true, laidLooks := .later }
def RanksBoundsCardSaid : Prop := Claim7.holds Tryd.pinned (.plain (OpenSpec.ofChange ranksBoundsSpec)) ranksBoundsCard

/-- THE SECOND FORM's CARD OF 'taborlaw05.RanksTells'. -/
def ranksTellsUptoCard : Claim7 := { stood := { row := ranksTellsUptoRow, standIns := [], harness := (true, "f087c88a979912475d43ecefb8751fe6a518451a0a3d7dc70b8d4a7346c37cfc"), looks := false }, kinds := [], alts := [], laidByText := true, laidKinds := [.data, .data], laidTests := true, laidLooks := .later }
def RanksTellsUptoCardSaid : Prop := Claim7.holds Tryd.pinned (.plain (OpenSpec.upto ranksTellsSpec)) ranksTellsUptoCard

/-- THE SECOND FORM's CARD OF 'taborlaw05.RanksDrops'. -/
def ranksDropsUptoCard : Claim7 := { stood := { row := ranksDropsUptoRow, standIns := [], harness := (true, "f087c88a979912475d43ecefb8751fe6a518451a0a3d7dc70b8d4a7346c37cfc"), looks := false }, kinds := [], alts := [], laidByText := true, laidKinds := [.data, .data], laidTests := true, laidLooks := .later }
def RanksDropsUptoCardSaid : Prop := Claim7.holds Tryd.pinned (.plain (OpenSpec.upto ranksDropsSpec)) ranksDropsUptoCard

/-- THE SECOND FORM's CARD OF 'taborlaw05.RanksPlays'. -/
def ranksPlaysUptoCard : Claim7 := { stood := { row := ranksPlaysUptoRow, standIns := [], harness := (true, "f087c88a979912475d43ecefb8751fe6a518451a0a3d7dc70b8d4a7346c37cfc"), looks := false }, kinds := [], alts := [], laidByText := true, laidKinds := [.data, .data], laidTests := true, laidLooks := .later }
def RanksPlaysUptoCardSaid : Prop := Claim7.holds Tryd.pinned (.plain (OpenSpec.upto ranksPlaysSpec)) ranksPlaysUptoCard

/-- THE SECOND FORM's CARD OF 'taborlaw05.RanksBounds'. -/
def ranksBoundsUptoCard : Claim7 := { stood := { row := ranksBoundsUptoRow, standIns := [], harness := (true, "f087c88a979912475d43ecefb8751fe6a518451a0a3d7dc70b8d4a7346c37cfc"), looks := false }, kinds := [], alts := [], laidByText := true, laidKinds := [.data, .data], laidTests := true, laidLooks := .later }
def RanksBoundsUptoCardSaid : Prop := Claim7.holds Tryd.pinned (.plain (OpenSpec.upto ranksBoundsSpec)) ranksBoundsUptoCard
end Rows
end Go.Proofs.YtlghcmdaijfdlaaDoor
