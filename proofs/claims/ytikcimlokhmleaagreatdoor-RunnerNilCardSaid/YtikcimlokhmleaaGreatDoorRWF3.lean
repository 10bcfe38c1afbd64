/-
  RunnerNil: which package variables it names.
-/
import Derived.Test.YtikcimlokhmleaaGreatDoorRWF1
namespace Go.Proofs.YtikcimlokhmleaaGreatDoor
open Go

theorem rn_g : (rnL.flatMap fun g => ((Tryz.prog.funcs[g]?).bind (·.body)).elim [] Code.globalsNamed) = [4, 5, 0, 1, 2, 6, 8, 9, 7, 3, 3, 3] := by kernel_rfl
theorem rn_g2 : (rnL.filterMap fun g => (Tryz.prog.funcs[g]?).bind fun fn => if fn.body.isNone then entryReads.lookup fn.name else none) = ["internal/bytealg.MaxLen"] := by kernel_rfl
theorem rn_f4 : Tryz.prog.varsNamed 3 = ["strconv.ErrSyntax", "strconv.ErrRange", "internal/strconv.uint64pow10", "math/bits.deBruijn32tab", "math/bits.deBruijn64tab", "strings.asciiSpace", "unicode/utf8.first", "unicode/utf8.acceptRanges", "unicode.White_Space", "internal/bytealg.MaxLen"] := by
  unfold Program.varsNamed
  rw [rn_cl, rn_g, rn_g2]
  kernel_rfl
end Go.Proofs.YtikcimlokhmleaaGreatDoor
