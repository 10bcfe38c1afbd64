/-
  The world of a witness: the tables and errors of strconv and math/bits as they are laid.
-/
import Derived.Test.YtigolfakcblnjaaGreatDoorSxV
import Derived.Test.YtigolfakcblnjaaGreatDoorCards
import Derived.Test.YtigolfakcblnjaaGreatDoorTie
import Derived.Deep.DeepHandedRow
import Derived.ProofKit
namespace Go.Proofs.YtigolfakcblnjaaGreatDoor
open Go Go.Sx Go.ChangeShapes Go.WideShapes Go.ChangeAt Go.RowKit

theorem own : ownKnob Tryz.prog.godebug = none := by kernel_rfl
theorem laidOut : laidOutB Tryz.prog = true := by kernel_rfl

def tab32 : List Int := [0, 1, 28, 2, 29, 14, 24, 3, 30, 22, 20, 15, 25, 17, 4, 8, 31, 27, 13, 23, 21, 19, 16, 7, 26, 12, 18, 6, 11, 5, 10, 9]
def tab64 : List Int := [0, 1, 56, 2, 57, 49, 28, 3, 61, 58, 42, 50, 38, 29, 17, 4, 62, 47, 59, 36, 45, 43, 51, 22, 53, 39, 33, 30, 24, 18, 12, 5, 63, 55, 48, 27, 60, 41, 37, 16, 46, 35, 44, 21, 52, 32, 23, 11, 54, 26, 40, 15, 34, 20, 31, 10, 25, 14, 19, 9, 13, 8, 7, 6]
def pow10 : List Int := [1, 10, 100, 1000, 10000, 100000, 1000000, 10000000, 100000000, 1000000000, 10000000000, 100000000000, 1000000000000, 10000000000000, 100000000000000, 1000000000000000, 10000000000000000, 100000000000000000, 1000000000000000000, 10000000000000000000]
def wordRange : ByteArray := ⟨#[118, 97, 108, 117, 101, 32, 111, 117, 116, 32, 111, 102, 32, 114, 97, 110, 103, 101]⟩
def wordSyntax : ByteArray := ⟨#[105, 110, 118, 97, 108, 105, 100, 32, 115, 121, 110, 116, 97, 120]⟩
def laid5 : List (String × DataW Unit) := [("math/bits.deBruijn32tab", Rows.laid_math_bits_deBruijn32tab), ("math/bits.deBruijn64tab", Rows.laid_math_bits_deBruijn64tab), ("internal/strconv.uint64pow10", Rows.laid_internal_strconv_uint64pow10), ("strconv.ErrRange", Rows.laid_strconv_ErrRange), ("strconv.ErrSyntax", Rows.laid_strconv_ErrSyntax)]

def putTab (vs : Array Value) : Obj → Obj
  | .cells _ t frozen => .cells vs t frozen
  | o => o
noncomputable def bare (os : Os) : World := World.holding Tryz.prog os ⟨#[], #[], []⟩
/-- A world for the witness: the settled one, the tables as they are laid. -/
noncomputable def laidWorld (os : Os) : World :=
  { bare os with heap := ((((((bare os).heap.modify 4 (putTab (tab32.map fun z => Value.int .u8 z).toArray)).modify 5 (putTab (tab64.map fun z => Value.int .u8 z).toArray)).modify 2 (putTab (pow10.map fun z => Value.int .u64 z).toArray)).modify 1
    (putTab #[.iface 233 (.pointer (some ⟨(bare os).heap.size, 0, none⟩))])).modify 0 (putTab #[.iface 233 (.pointer (some ⟨(bare os).heap.size + 1, 0, none⟩))])) ++
    #[.cells #[.string wordRange] 235 (0, 0), .cells #[.string wordSyntax] 235 (0, 0)] }
theorem laid_met (os : Os) (args : Array Value) : laidMet Tryz.prog laid5 ((laidWorld os).forCall (fun _ _ => 0) ⟨#[], args, []⟩).memory :=
  laidMet_of_run' 8 (by kernel_rfl) (by kernel_rfl)

theorem int_arg {P : Program} {W : World} {b0 : Nat} {r : Reach} {t : TypeId} {v : Value} (ht : P.underlying t = some (.int .i64)) (hval : Value.okWide P W r b0 t v) :
    ∃ n, v = .int .i64 n := by
  simp only [Value.okWide, Cell.okWide, Cell.ok, ht] at hval
  split at hval <;> simp_all

theorem str_arg {P : Program} {W : World} {b0 : Nat} {r : Reach} {t : TypeId} {v : Value} (ht : P.underlying t = some .string) (hval : Value.okWide P W r b0 t v) :
    ∃ s, v = .string s := by
  simp only [Value.okWide, Cell.okWide, Cell.ok, ht] at hval
  split at hval <;> simp_all

end Go.Proofs.YtigolfakcblnjaaGreatDoor
