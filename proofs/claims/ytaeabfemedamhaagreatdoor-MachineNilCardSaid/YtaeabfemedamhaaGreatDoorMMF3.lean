/-
  MachineNil: which package variables it names.
-/
import Derived.Test.YtaeabfemedamhaaGreatDoorMMF1
namespace Go.Proofs.YtaeabfemedamhaaGreatDoor
open Go

theorem mm_g : (mmL.flatMap fun g => ((Tryz.prog.funcs[g]?).bind (·.body)).elim [] Code.globalsNamed) = [0, 6, 7, 4, 5, 1, 1, 1, 2, 8, 9, 3] := by kernel_rfl
theorem mm_g2 : (mmL.filterMap fun g => (Tryz.prog.funcs[g]?).bind fun fn => if fn.body.isNone then entryReads.lookup fn.name else none) = ["internal/bytealg.MaxLen"] := by kernel_rfl
theorem mm_f4 : Tryz.prog.varsNamed 3 = ["internal/strconv.uint64pow10", "math/bits.deBruijn32tab", "math/bits.deBruijn64tab", "strconv.ErrSyntax", "strconv.ErrRange", "internal/bytealg.MaxLen", "strings.asciiSpace", "unicode/utf8.first", "unicode/utf8.acceptRanges", "unicode.White_Space"] := by
  unfold Program.varsNamed
  rw [mm_cl, mm_g, mm_g2]
  kernel_rfl
end Go.Proofs.YtaeabfemedamhaaGreatDoor
