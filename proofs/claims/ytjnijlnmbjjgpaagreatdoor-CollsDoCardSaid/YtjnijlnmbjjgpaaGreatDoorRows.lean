/-
  NARROWER THAN 'FOR EVERY INPUT', by the rows' own cells (each row's printed sentence says how): CollsList: laid · CollsHash: laid · CollsSet: laid · CollsRanks: laid · CollsDo: laid · CollsTold: laid · CollsEffects: laid · CommandsRun: laid.
  DERIVED. THE GIVEN ROWS OF THIS SEAT. 8 by the template 'for every input the law returns true; each argument reads behind the call as it read before'; 0 by the template 'total and deterministic' (their statements: YtjnijlnmbjjgpaaGreatDoorTotals.lean).
  GIVEN WITH THE SEED: the statements are not yours to turn. If you find one false, say at which input.
  Laid BY PROGRAM, IN A SANDBOX (cutbox-rows.mjs): the forced cells as the released guide's own fill.sh prints them over the translation 001f47e1dd7db704… (all of the seat's roots in one cut). By AI agents, Wed Nov 11 2026. No macro, syntax, notation, axiom, sorry.
-/
import Derived.Test.YtjnijlnmbjjgpaaGreatDoorChecked
import GoSem.Claim
import GoSem.ClaimJoined
import GoSem.ClaimMapViews
import Derived.JoinedTies
import Derived.KernelRfl
namespace Go.Proofs.YtjnijlnmbjjgpaaGreatDoor
/- THE CELL 'sum', in the pinned program and in every row, IS THE sha256 OF THE DUMP (.gsa) THAT YtjnijlnmbjjgpaaGreatDoorProg.lean LOADS. Nothing in Lean hashes anything: it is a label: what it is worth is what the hold of that sum in a sandbox is worth. -/
noncomputable def Tryz.pinned : Pinned := { name := "ytjnijlnmbjjgpaagreatdoor", sum := "001f47e1dd7db704a36bd98b4e62af40601c53060d479eb5cb1f7ca428b529f3", checked := Tryz.checked }
namespace Rows
def none {H : Type} : Left H := { results := [], args := [] }

/- WHAT THE LISTED PACKAGE-LEVEL VARIABLES READ AS WHEN THE CALL BEGINS. Each datum BY PROGRAM (the guide's laid-datum.mjs) off the statement by which the dump's own 'gosem.cut.vars' lays the variable. In a bare row this is a premise. The card (YtjnijlnmbjjgpaaGreatDoorCards.lean) ties it to the program's text. -/
def laid_math_bits_deBruijn32tab {H : Type} : DataW H := .agg [.lit (.int .u8 0), .lit (.int .u8 1), .lit (.int .u8 28), .lit (.int .u8 2), .lit (.int .u8 29), .lit (.int .u8 14), .lit (.int .u8 24), .lit (.int .u8 3), .lit (.int .u8 30), .lit (.int .u8 22), .lit (.int .u8 20), .lit (.int .u8 15), .lit (.int .u8 25), .lit (.int .u8 17), .lit (.int .u8 4), .lit (.int .u8 8), .lit (.int .u8 31), .lit (.int .u8 27), .lit (.int .u8 13), .lit (.int .u8 23), .lit (.int .u8 21), .lit (.int .u8 19), .lit (.int .u8 16), .lit (.int .u8 7), .lit (.int .u8 26), .lit (.int .u8 12), .lit (.int .u8 18), .lit (.int .u8 6), .lit (.int .u8 11), .lit (.int .u8 5), .lit (.int .u8 10), .lit (.int .u8 9)]
def laid_math_bits_deBruijn64tab {H : Type} : DataW H := .agg [.lit (.int .u8 0), .lit (.int .u8 1), .lit (.int .u8 56), .lit (.int .u8 2), .lit (.int .u8 57), .lit (.int .u8 49), .lit (.int .u8 28), .lit (.int .u8 3), .lit (.int .u8 61), .lit (.int .u8 58), .lit (.int .u8 42), .lit (.int .u8 50), .lit (.int .u8 38), .lit (.int .u8 29), .lit (.int .u8 17), .lit (.int .u8 4), .lit (.int .u8 62), .lit (.int .u8 47), .lit (.int .u8 59), .lit (.int .u8 36), .lit (.int .u8 45), .lit (.int .u8 43), .lit (.int .u8 51), .lit (.int .u8 22), .lit (.int .u8 53), .lit (.int .u8 39), .lit (.int .u8 33), .lit (.int .u8 30), .lit (.int .u8 24), .lit (.int .u8 18), .lit (.int .u8 12), .lit (.int .u8 5), .lit (.int .u8 63), .lit (.int .u8 55), .lit (.int .u8 48), .lit (.int .u8 27), .lit (.int .u8 60), .lit (.int .u8 41), .lit (.int .u8 37), .lit (.int .u8 16), .lit (.int .u8 46), .lit (.int .u8 35), .lit (.int .u8 44), .lit (.int .u8 21), .lit (.int .u8 52), .lit (.int .u8 32), .lit (.int .u8 23), .lit (.int .u8 11), .lit (.int .u8 54), .lit (.int .u8 26), .lit (.int .u8 40), .lit (.int .u8 15), .lit (.int .u8 34), .lit (.int .u8 20), .lit (.int .u8 31), .lit (.int .u8 10), .lit (.int .u8 25), .lit (.int .u8 14), .lit (.int .u8 19), .lit (.int .u8 9), .lit (.int .u8 13), .lit (.int .u8 8), .lit (.int .u8 7), .lit (.int .u8 6)]
def laid_internal_strconv_uint64pow10 {H : Type} : DataW H := .agg [.lit (.int .u64 1), .lit (.int .u64 10), .lit (.int .u64 100), .lit (.int .u64 1000), .lit (.int .u64 10000), .lit (.int .u64 100000), .lit (.int .u64 1000000), .lit (.int .u64 10000000), .lit (.int .u64 100000000), .lit (.int .u64 1000000000), .lit (.int .u64 10000000000), .lit (.int .u64 100000000000), .lit (.int .u64 1000000000000), .lit (.int .u64 10000000000000), .lit (.int .u64 100000000000000), .lit (.int .u64 1000000000000000), .lit (.int .u64 10000000000000000), .lit (.int .u64 100000000000000000), .lit (.int .u64 1000000000000000000), .lit (.int .u64 10000000000000000000)]
def laid_strconv_ErrRange {H : Type} : DataW H := .iface "*errors.errorString" (.ptr (.agg [.lit (.string [118, 97, 108, 117, 101, 32, 111, 117, 116, 32, 111, 102, 32, 114, 97, 110, 103, 101])]))
def laid_strconv_ErrSyntax {H : Type} : DataW H := .iface "*errors.errorString" (.ptr (.agg [.lit (.string [105, 110, 118, 97, 108, 105, 100, 32, 115, 121, 110, 116, 97, 120])]))

/-- 'taborlaw09.CollsList': WHATEVER THE INPUT: true; the input reads as it did. -/
def collsListSpec : ChangeSpec := { name := "collsList", fn := fun _ => fun
  | [d1, d2, d3] => { results := [.lit (.bool true)], args := [d1, d2, d3] }
  | _ => none }
def collsListRow : OpenClaim := { program := "ytjnijlnmbjjgpaagreatdoor", sum := "001f47e1dd7db704a36bd98b4e62af40601c53060d479eb5cb1f7ca428b529f3", func := "tabor/taborlaw09.CollsList", spec := "collsList", inPlace := ["internal/bytealg.abigen_runtime_cmpstring"], unfollowed := true, recurses := true, named := ["strconv.ErrSyntax", "strconv.ErrRange", "internal/strconv.uint64pow10", "math/bits.deBruijn32tab", "math/bits.deBruijn64tab"], apart := false, laid := [("math/bits.deBruijn32tab", laid_math_bits_deBruijn32tab), ("math/bits.deBruijn64tab", laid_math_bits_deBruijn64tab), ("internal/strconv.uint64pow10", laid_internal_strconv_uint64pow10), ("strconv.ErrRange", laid_strconv_ErrRange), ("strconv.ErrSyntax", laid_strconv_ErrSyntax)] }
def CollsListSaid : Prop := collsListRow.holds Tryz.pinned (OpenSpec.ofChange collsListSpec)

/-- ITS FALSE NEIGHBOUR: 'it returns false'. Refute it at one input. -/
def collsListWrong : ChangeSpec := { name := "collsList", fn := fun _ => fun
  | [d1, d2, d3] => { results := [.lit (.bool false)], args := [d1, d2, d3] }
  | _ => none }
def CollsListWrongFalsely : Prop := collsListRow.holds Tryz.pinned (OpenSpec.ofChange collsListWrong)

/-- 'taborlaw09.CollsHash': WHATEVER THE INPUT: true; the input reads as it did. -/
def collsHashSpec : ChangeSpec := { name := "collsHash", fn := fun _ => fun
  | [d1, d2, d3] => { results := [.lit (.bool true)], args := [d1, d2, d3] }
  | _ => none }
def collsHashRow : OpenClaim := { program := "ytjnijlnmbjjgpaagreatdoor", sum := "001f47e1dd7db704a36bd98b4e62af40601c53060d479eb5cb1f7ca428b529f3", func := "tabor/taborlaw09.CollsHash", spec := "collsHash", inPlace := ["internal/bytealg.abigen_runtime_cmpstring"], unfollowed := true, recurses := true, named := ["strconv.ErrSyntax", "strconv.ErrRange", "internal/strconv.uint64pow10", "math/bits.deBruijn32tab", "math/bits.deBruijn64tab"], apart := false, laid := [("math/bits.deBruijn32tab", laid_math_bits_deBruijn32tab), ("math/bits.deBruijn64tab", laid_math_bits_deBruijn64tab), ("internal/strconv.uint64pow10", laid_internal_strconv_uint64pow10), ("strconv.ErrRange", laid_strconv_ErrRange), ("strconv.ErrSyntax", laid_strconv_ErrSyntax)] }
def CollsHashSaid : Prop := collsHashRow.holds Tryz.pinned (OpenSpec.ofChange collsHashSpec)

/-- ITS FALSE NEIGHBOUR: 'it returns false'. Refute it at one input. -/
def collsHashWrong : ChangeSpec := { name := "collsHash", fn := fun _ => fun
  | [d1, d2, d3] => { results := [.lit (.bool false)], args := [d1, d2, d3] }
  | _ => none }
def CollsHashWrongFalsely : Prop := collsHashRow.holds Tryz.pinned (OpenSpec.ofChange collsHashWrong)

/-- 'taborlaw09.CollsSet': WHATEVER THE INPUT: true; the input reads as it did. -/
def collsSetSpec : ChangeSpec := { name := "collsSet", fn := fun _ => fun
  | [d1, d2, d3] => { results := [.lit (.bool true)], args := [d1, d2, d3] }
  | _ => none }
def collsSetRow : OpenClaim := { program := "ytjnijlnmbjjgpaagreatdoor", sum := "001f47e1dd7db704a36bd98b4e62af40601c53060d479eb5cb1f7ca428b529f3", func := "tabor/taborlaw09.CollsSet", spec := "collsSet", inPlace := ["internal/bytealg.abigen_runtime_cmpstring"], unfollowed := true, recurses := true, named := ["strconv.ErrSyntax", "strconv.ErrRange", "internal/strconv.uint64pow10", "math/bits.deBruijn32tab", "math/bits.deBruijn64tab"], apart := false, laid := [("math/bits.deBruijn32tab", laid_math_bits_deBruijn32tab), ("math/bits.deBruijn64tab", laid_math_bits_deBruijn64tab), ("internal/strconv.uint64pow10", laid_internal_strconv_uint64pow10), ("strconv.ErrRange", laid_strconv_ErrRange), ("strconv.ErrSyntax", laid_strconv_ErrSyntax)] }
def CollsSetSaid : Prop := collsSetRow.holds Tryz.pinned (OpenSpec.ofChange collsSetSpec)

/-- ITS FALSE NEIGHBOUR: 'it returns false'. Refute it at one input. -/
def collsSetWrong : ChangeSpec := { name := "collsSet", fn := fun _ => fun
  | [d1, d2, d3] => { results := [.lit (.bool false)], args := [d1, d2, d3] }
  | _ => none }
def CollsSetWrongFalsely : Prop := collsSetRow.holds Tryz.pinned (OpenSpec.ofChange collsSetWrong)

/-- 'taborlaw09.CollsRanks': WHATEVER THE INPUT: true; the input reads as it did. -/
def collsRanksSpec : ChangeSpec := { name := "collsRanks", fn := fun _ => fun
  | [d1, d2, d3] => { results := [.lit (.bool true)], args := [d1, d2, d3] }
  | _ => none }
def collsRanksRow : OpenClaim := { program := "ytjnijlnmbjjgpaagreatdoor", sum := "001f47e1dd7db704a36bd98b4e62af40601c53060d479eb5cb1f7ca428b529f3", func := "tabor/taborlaw09.CollsRanks", spec := "collsRanks", inPlace := ["internal/bytealg.abigen_runtime_cmpstring"], unfollowed := true, recurses := true, named := ["strconv.ErrSyntax", "strconv.ErrRange", "internal/strconv.uint64pow10", "math/bits.deBruijn32tab", "math/bits.deBruijn64tab"], apart := false, laid := [("math/bits.deBruijn32tab", laid_math_bits_deBruijn32tab), ("math/bits.deBruijn64tab", laid_math_bits_deBruijn64tab), ("internal/strconv.uint64pow10", laid_internal_strconv_uint64pow10), ("strconv.ErrRange", laid_strconv_ErrRange), ("strconv.ErrSyntax", laid_strconv_ErrSyntax)] }
def CollsRanksSaid : Prop := collsRanksRow.holds Tryz.pinned (OpenSpec.ofChange collsRanksSpec)

/-- ITS FALSE NEIGHBOUR: 'it returns false'. Refute it at one input. -/
def collsRanksWrong : ChangeSpec := { name := "collsRanks", fn := fun _ => fun
  | [d1, d2, d3] => { results := [.lit (.bool false)], args := [d1, d2, d3] }
  | _ => none }
def CollsRanksWrongFalsely : Prop := collsRanksRow.holds Tryz.pinned (OpenSpec.ofChange collsRanksWrong)

/-- 'taborlaw09.CollsDo': WHATEVER THE INPUT: true; the input reads as it did. -/
def collsDoSpec : ChangeSpec := { name := "collsDo", fn := fun _ => fun
  | [d1, d2, d3] => { results := [.lit (.bool true)], args := [d1, d2, d3] }
  | _ => none }
def collsDoRow : OpenClaim := { program := "ytjnijlnmbjjgpaagreatdoor", sum := "001f47e1dd7db704a36bd98b4e62af40601c53060d479eb5cb1f7ca428b529f3", func := "tabor/taborlaw09.CollsDo", spec := "collsDo", inPlace := ["internal/bytealg.abigen_runtime_cmpstring"], unfollowed := true, recurses := true, named := ["strconv.ErrSyntax", "strconv.ErrRange", "internal/strconv.uint64pow10", "math/bits.deBruijn32tab", "math/bits.deBruijn64tab"], apart := false, laid := [("math/bits.deBruijn32tab", laid_math_bits_deBruijn32tab), ("math/bits.deBruijn64tab", laid_math_bits_deBruijn64tab), ("internal/strconv.uint64pow10", laid_internal_strconv_uint64pow10), ("strconv.ErrRange", laid_strconv_ErrRange), ("strconv.ErrSyntax", laid_strconv_ErrSyntax)] }
def CollsDoSaid : Prop := collsDoRow.holds Tryz.pinned (OpenSpec.ofChange collsDoSpec)

/-- ITS FALSE NEIGHBOUR: 'it returns false'. Refute it at one input. -/
def collsDoWrong : ChangeSpec := { name := "collsDo", fn := fun _ => fun
  | [d1, d2, d3] => { results := [.lit (.bool false)], args := [d1, d2, d3] }
  | _ => none }
def CollsDoWrongFalsely : Prop := collsDoRow.holds Tryz.pinned (OpenSpec.ofChange collsDoWrong)

/-- 'taborlaw09.CollsTold': WHATEVER THE INPUT: true; the input reads as it did. -/
def collsToldSpec : ChangeSpec := { name := "collsTold", fn := fun _ => fun
  | [d] => { results := [.lit (.bool true)], args := [d] }
  | _ => none }
def collsToldRow : OpenClaim := { program := "ytjnijlnmbjjgpaagreatdoor", sum := "001f47e1dd7db704a36bd98b4e62af40601c53060d479eb5cb1f7ca428b529f3", func := "tabor/taborlaw09.CollsTold", spec := "collsTold", inPlace := ["internal/bytealg.abigen_runtime_cmpstring", "slices.overlaps[tabor/api.Pair]", "slices.overlaps[string]", "slices.overlaps[tabor/api.Rank]"], unfollowed := true, recurses := true, named := ["strconv.ErrSyntax", "strconv.ErrRange", "internal/strconv.uint64pow10", "math/bits.deBruijn32tab", "math/bits.deBruijn64tab"], apart := false, laid := [("math/bits.deBruijn32tab", laid_math_bits_deBruijn32tab), ("math/bits.deBruijn64tab", laid_math_bits_deBruijn64tab), ("internal/strconv.uint64pow10", laid_internal_strconv_uint64pow10), ("strconv.ErrRange", laid_strconv_ErrRange), ("strconv.ErrSyntax", laid_strconv_ErrSyntax)] }
def CollsToldSaid : Prop := collsToldRow.holds Tryz.pinned (OpenSpec.ofChange collsToldSpec)

/-- ITS FALSE NEIGHBOUR: 'it returns false'. Refute it at one input. -/
def collsToldWrong : ChangeSpec := { name := "collsTold", fn := fun _ => fun
  | [d] => { results := [.lit (.bool false)], args := [d] }
  | _ => none }
def CollsToldWrongFalsely : Prop := collsToldRow.holds Tryz.pinned (OpenSpec.ofChange collsToldWrong)

/-- 'taborlaw09.CollsEffects': WHATEVER THE INPUT: true; the input reads as it did. -/
def collsEffectsSpec : ChangeSpec := { name := "collsEffects", fn := fun _ => fun
  | [d1, d2, d3] => { results := [.lit (.bool true)], args := [d1, d2, d3] }
  | _ => none }
def collsEffectsRow : OpenClaim := { program := "ytjnijlnmbjjgpaagreatdoor", sum := "001f47e1dd7db704a36bd98b4e62af40601c53060d479eb5cb1f7ca428b529f3", func := "tabor/taborlaw09.CollsEffects", spec := "collsEffects", inPlace := ["internal/bytealg.abigen_runtime_cmpstring", "slices.overlaps[tabor/api.Pair]", "slices.overlaps[string]", "slices.overlaps[tabor/api.Rank]"], unfollowed := true, recurses := true, named := ["strconv.ErrSyntax", "strconv.ErrRange", "internal/strconv.uint64pow10", "math/bits.deBruijn32tab", "math/bits.deBruijn64tab"], apart := false, laid := [("math/bits.deBruijn32tab", laid_math_bits_deBruijn32tab), ("math/bits.deBruijn64tab", laid_math_bits_deBruijn64tab), ("internal/strconv.uint64pow10", laid_internal_strconv_uint64pow10), ("strconv.ErrRange", laid_strconv_ErrRange), ("strconv.ErrSyntax", laid_strconv_ErrSyntax)] }
def CollsEffectsSaid : Prop := collsEffectsRow.holds Tryz.pinned (OpenSpec.ofChange collsEffectsSpec)

/-- ITS FALSE NEIGHBOUR: 'it returns false'. Refute it at one input. -/
def collsEffectsWrong : ChangeSpec := { name := "collsEffects", fn := fun _ => fun
  | [d1, d2, d3] => { results := [.lit (.bool false)], args := [d1, d2, d3] }
  | _ => none }
def CollsEffectsWrongFalsely : Prop := collsEffectsRow.holds Tryz.pinned (OpenSpec.ofChange collsEffectsWrong)

/-- 'taborlaw10.CommandsRun': WHATEVER THE INPUT: true; the input reads as it did. -/
def commandsRunSpec : ChangeSpec := { name := "commandsRun", fn := fun _ => fun
  | [d1, d2, d3] => { results := [.lit (.bool true)], args := [d1, d2, d3] }
  | _ => none }
def commandsRunRow : OpenClaim := { program := "ytjnijlnmbjjgpaagreatdoor", sum := "001f47e1dd7db704a36bd98b4e62af40601c53060d479eb5cb1f7ca428b529f3", func := "tabor/taborlaw10.CommandsRun", spec := "commandsRun", inPlace := ["internal/bytealg.abigen_runtime_cmpstring", "slices.overlaps[tabor/api.Pair]", "slices.overlaps[string]", "slices.overlaps[tabor/api.Rank]"], unfollowed := true, recurses := true, named := ["strconv.ErrSyntax", "strconv.ErrRange", "internal/strconv.uint64pow10", "math/bits.deBruijn32tab", "math/bits.deBruijn64tab"], apart := false, laid := [("math/bits.deBruijn32tab", laid_math_bits_deBruijn32tab), ("math/bits.deBruijn64tab", laid_math_bits_deBruijn64tab), ("internal/strconv.uint64pow10", laid_internal_strconv_uint64pow10), ("strconv.ErrRange", laid_strconv_ErrRange), ("strconv.ErrSyntax", laid_strconv_ErrSyntax)] }
def CommandsRunSaid : Prop := commandsRunRow.holds Tryz.pinned (OpenSpec.ofChange commandsRunSpec)

/-- ITS FALSE NEIGHBOUR: 'it returns false'. Refute it at one input. -/
def commandsRunWrong : ChangeSpec := { name := "commandsRun", fn := fun _ => fun
  | [d1, d2, d3] => { results := [.lit (.bool false)], args := [d1, d2, d3] }
  | _ => none }
def CommandsRunWrongFalsely : Prop := commandsRunRow.holds Tryz.pinned (OpenSpec.ofChange commandsRunWrong)

/- THE SECOND FORM. 'bulk': how many values and letters a reading holds, each counted each time it is reached (what is shared counts as often as it is met; a slice's spare places count too). A statement '..UptoSaid' is the law's where the arguments, and the package variables that the reading takes, are together of bulk at most 1048576: NARROWER than '..Said'. Prove '..Said' where nothing that the law and all that it calls make is longer than what came in: it says more and counts as full. Else prove '..UptoSaid'. A law counts once. -/
mutual
def uptoBulk {H : Type} : DataW H → Nat
  | .lit (.string bytes) => bytes.length + 1
  | .lit _ => 1
  | .nil => 1
  | .ptr d => uptoBulk d + 1
  | .slice elems spare => uptoBulkAll elems + uptoBulkAll spare + 1
  | .agg parts => uptoBulkAll parts + 1
  | .iface _ d => uptoBulk d + 1
  | .map entries => uptoBulkEntries entries + 1
  | .held _ => 1
def uptoBulkAll {H : Type} : List (DataW H) → Nat
  | [] => 0
  | d :: r => uptoBulk d + uptoBulkAll r
def uptoBulkEntries {H : Type} : List (Lit × DataW H) → Nat
  | [] => 0
  | x :: r => uptoBulkEntry x + uptoBulkEntries r
def uptoBulkEntry {H : Type} : Lit × DataW H → Nat
  | (.string bytes, d) => bytes.length + uptoBulk d + 1
  | (_, d) => uptoBulk d + 1
 end
def uptoSmall : (H : Type) → List (DataW H) → Bool := fun _ ds => decide (uptoBulkAll ds ≤ 1048576)
def OpenSpec.upto (s : _root_.Go.ChangeSpec) : _root_.Go.OpenSpec := { _root_.Go.OpenSpec.ofChange s with cond := some uptoSmall }

/-- 'taborlaw09.CollsList', WHERE WHAT IT READS IS OF BULK AT MOST 1048576: true; the input reads as it did. -/
def collsListUptoRow : OpenClaim := { program := "ytjnijlnmbjjgpaagreatdoor", sum := "001f47e1dd7db704a36bd98b4e62af40601c53060d479eb5cb1f7ca428b529f3", func := "tabor/taborlaw09.CollsList", spec := "collsList", inPlace := ["internal/bytealg.abigen_runtime_cmpstring"], unfollowed := true, recurses := true, named := ["strconv.ErrSyntax", "strconv.ErrRange", "internal/strconv.uint64pow10", "math/bits.deBruijn32tab", "math/bits.deBruijn64tab"], apart := false, laid := [("math/bits.deBruijn32tab", laid_math_bits_deBruijn32tab), ("math/bits.deBruijn64tab", laid_math_bits_deBruijn64tab), ("internal/strconv.uint64pow10", laid_internal_strconv_uint64pow10), ("strconv.ErrRange", laid_strconv_ErrRange), ("strconv.ErrSyntax", laid_strconv_ErrSyntax)], narrowed := true }
def CollsListUptoSaid : Prop := collsListUptoRow.holds Tryz.pinned (OpenSpec.upto collsListSpec)

/-- 'taborlaw09.CollsHash', WHERE WHAT IT READS IS OF BULK AT MOST 1048576: true; the input reads as it did. -/
def collsHashUptoRow : OpenClaim := { program := "ytjnijlnmbjjgpaagreatdoor", sum := "001f47e1dd7db704a36bd98b4e62af40601c53060d479eb5cb1f7ca428b529f3", func := "tabor/taborlaw09.CollsHash", spec := "collsHash", inPlace := ["internal/bytealg.abigen_runtime_cmpstring"], unfollowed := true, recurses := true, named := ["strconv.ErrSyntax", "strconv.ErrRange", "internal/strconv.uint64pow10", "math/bits.deBruijn32tab", "math/bits.deBruijn64tab"], apart := false, laid := [("math/bits.deBruijn32tab", laid_math_bits_deBruijn32tab), ("math/bits.deBruijn64tab", laid_math_bits_deBruijn64tab), ("internal/strconv.uint64pow10", laid_internal_strconv_uint64pow10), ("strconv.ErrRange", laid_strconv_ErrRange), ("strconv.ErrSyntax", laid_strconv_ErrSyntax)], narrowed := true }
def CollsHashUptoSaid : Prop := collsHashUptoRow.holds Tryz.pinned (OpenSpec.upto collsHashSpec)

/-- 'taborlaw09.CollsSet', WHERE WHAT IT READS IS OF BULK AT MOST 1048576: true; the input reads as it did. -/
def collsSetUptoRow : OpenClaim := { program := "ytjnijlnmbjjgpaagreatdoor", sum := "001f47e1dd7db704a36bd98b4e62af40601c53060d479eb5cb1f7ca428b529f3", func := "tabor/taborlaw09.CollsSet", spec := "collsSet", inPlace := ["internal/bytealg.abigen_runtime_cmpstring"], unfollowed := true, recurses := true, named := ["strconv.ErrSyntax", "strconv.ErrRange", "internal/strconv.uint64pow10", "math/bits.deBruijn32tab", "math/bits.deBruijn64tab"], apart := false, laid := [("math/bits.deBruijn32tab", laid_math_bits_deBruijn32tab), ("math/bits.deBruijn64tab", laid_math_bits_deBruijn64tab), ("internal/strconv.uint64pow10", laid_internal_strconv_uint64pow10), ("strconv.ErrRange", laid_strconv_ErrRange), ("strconv.ErrSyntax", laid_strconv_ErrSyntax)], narrowed := true }
def CollsSetUptoSaid : Prop := collsSetUptoRow.holds Tryz.pinned (OpenSpec.upto collsSetSpec)

/-- 'taborlaw09.CollsRanks', WHERE WHAT IT READS IS OF BULK AT MOST 1048576: true; the input reads as it did. -/
def collsRanksUptoRow : OpenClaim := { program := "ytjnijlnmbjjgpaagreatdoor", sum := "001f47e1dd7db704a36bd98b4e62af40601c53060d479eb5cb1f7ca428b529f3", func := "tabor/taborlaw09.CollsRanks", spec := "collsRanks", inPlace := ["internal/bytealg.abigen_runtime_cmpstring"], unfollowed := true, recurses := true, named := ["strconv.ErrSyntax", "strconv.ErrRange", "internal/strconv.uint64pow10", "math/bits.deBruijn32tab", "math/bits.deBruijn64tab"], apart := false, laid := [("math/bits.deBruijn32tab", laid_math_bits_deBruijn32tab), ("math/bits.deBruijn64tab", laid_math_bits_deBruijn64tab), ("internal/strconv.uint64pow10", laid_internal_strconv_uint64pow10), ("strconv.ErrRange", laid_strconv_ErrRange), ("strconv.ErrSyntax", laid_strconv_ErrSyntax)], narrowed := true }
def CollsRanksUptoSaid : Prop := collsRanksUptoRow.holds Tryz.pinned (OpenSpec.upto collsRanksSpec)

/-- 'taborlaw09.CollsDo', WHERE WHAT IT READS IS OF BULK AT MOST 1048576: true; the input reads as it did. -/
def collsDoUptoRow : OpenClaim := { program := "ytjnijlnmbjjgpaagreatdoor", sum := "001f47e1dd7db704a36bd98b4e62af40601c53060d479eb5cb1f7ca428b529f3", func := "tabor/taborlaw09.CollsDo", spec := "collsDo", inPlace := ["internal/bytealg.abigen_runtime_cmpstring"], unfollowed := true, recurses := true, named := ["strconv.ErrSyntax", "strconv.ErrRange", "internal/strconv.uint64pow10", "math/bits.deBruijn32tab", "math/bits.deBruijn64tab"], apart := false, laid := [("math/bits.deBruijn32tab", laid_math_bits_deBruijn32tab), ("math/bits.deBruijn64tab", laid_math_bits_deBruijn64tab), ("internal/strconv.uint64pow10", laid_internal_strconv_uint64pow10), ("strconv.ErrRange", laid_strconv_ErrRange), ("strconv.ErrSyntax", laid_strconv_ErrSyntax)], narrowed := true }
def CollsDoUptoSaid : Prop := collsDoUptoRow.holds Tryz.pinned (OpenSpec.upto collsDoSpec)

/-- 'taborlaw09.CollsTold', WHERE WHAT IT READS IS OF BULK AT MOST 1048576: true; the input reads as it did. -/
def collsToldUptoRow : OpenClaim := { program := "ytjnijlnmbjjgpaagreatdoor", sum := "001f47e1dd7db704a36bd98b4e62af40601c53060d479eb5cb1f7ca428b529f3", func := "tabor/taborlaw09.CollsTold", spec := "collsTold", inPlace := ["internal/bytealg.abigen_runtime_cmpstring", "slices.overlaps[tabor/api.Pair]", "slices.overlaps[string]", "slices.overlaps[tabor/api.Rank]"], unfollowed := true, recurses := true, named := ["strconv.ErrSyntax", "strconv.ErrRange", "internal/strconv.uint64pow10", "math/bits.deBruijn32tab", "math/bits.deBruijn64tab"], apart := false, laid := [("math/bits.deBruijn32tab", laid_math_bits_deBruijn32tab), ("math/bits.deBruijn64tab", laid_math_bits_deBruijn64tab), ("internal/strconv.uint64pow10", laid_internal_strconv_uint64pow10), ("strconv.ErrRange", laid_strconv_ErrRange), ("strconv.ErrSyntax", laid_strconv_ErrSyntax)], narrowed := true }
def CollsToldUptoSaid : Prop := collsToldUptoRow.holds Tryz.pinned (OpenSpec.upto collsToldSpec)

/-- 'taborlaw09.CollsEffects', WHERE WHAT IT READS IS OF BULK AT MOST 1048576: true; the input reads as it did. -/
def collsEffectsUptoRow : OpenClaim := { program := "ytjnijlnmbjjgpaagreatdoor", sum := "001f47e1dd7db704a36bd98b4e62af40601c53060d479eb5cb1f7ca428b529f3", func := "tabor/taborlaw09.CollsEffects", spec := "collsEffects", inPlace := ["internal/bytealg.abigen_runtime_cmpstring", "slices.overlaps[tabor/api.Pair]", "slices.overlaps[string]", "slices.overlaps[tabor/api.Rank]"], unfollowed := true, recurses := true, named := ["strconv.ErrSyntax", "strconv.ErrRange", "internal/strconv.uint64pow10", "math/bits.deBruijn32tab", "math/bits.deBruijn64tab"], apart := false, laid := [("math/bits.deBruijn32tab", laid_math_bits_deBruijn32tab), ("math/bits.deBruijn64tab", laid_math_bits_deBruijn64tab), ("internal/strconv.uint64pow10", laid_internal_strconv_uint64pow10), ("strconv.ErrRange", laid_strconv_ErrRange), ("strconv.ErrSyntax", laid_strconv_ErrSyntax)], narrowed := true }
def CollsEffectsUptoSaid : Prop := collsEffectsUptoRow.holds Tryz.pinned (OpenSpec.upto collsEffectsSpec)

/-- 'taborlaw10.CommandsRun', WHERE WHAT IT READS IS OF BULK AT MOST 1048576: true; the input reads as it did. -/
def commandsRunUptoRow : OpenClaim := { program := "ytjnijlnmbjjgpaagreatdoor", sum := "001f47e1dd7db704a36bd98b4e62af40601c53060d479eb5cb1f7ca428b529f3", func := "tabor/taborlaw10.CommandsRun", spec := "commandsRun", inPlace := ["internal/bytealg.abigen_runtime_cmpstring", "slices.overlaps[tabor/api.Pair]", "slices.overlaps[string]", "slices.overlaps[tabor/api.Rank]"], unfollowed := true, recurses := true, named := ["strconv.ErrSyntax", "strconv.ErrRange", "internal/strconv.uint64pow10", "math/bits.deBruijn32tab", "math/bits.deBruijn64tab"], apart := false, laid := [("math/bits.deBruijn32tab", laid_math_bits_deBruijn32tab), ("math/bits.deBruijn64tab", laid_math_bits_deBruijn64tab), ("internal/strconv.uint64pow10", laid_internal_strconv_uint64pow10), ("strconv.ErrRange", laid_strconv_ErrRange), ("strconv.ErrSyntax", laid_strconv_ErrSyntax)], narrowed := true }
def CommandsRunUptoSaid : Prop := commandsRunUptoRow.holds Tryz.pinned (OpenSpec.upto commandsRunSpec)

end Rows
end Go.Proofs.YtjnijlnmbjjgpaaGreatDoor
