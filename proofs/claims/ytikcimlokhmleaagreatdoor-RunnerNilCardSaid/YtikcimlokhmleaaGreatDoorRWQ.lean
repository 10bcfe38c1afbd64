/-
  runnerNil: what the package variables that it lists hold is what the program's text lays.
-/
import Derived.Test.YtikcimlokhmleaaGreatDoorRows
import Derived.Test.YtikcimlokhmleaaGreatDoorTP
import Derived.Test.YtikcimlokhmleaaGreatDoorGreat
import Derived.SevenTiedAt
namespace Go.Proofs.YtikcimlokhmleaaGreatDoor
open Go
theorem own_perm {α : Type _} (a b c d e f g h : α) : [a, b, c, d, e, f, g, h].Perm [f, e, c, a, b, g, d, h] :=
  (List.perm_middle (l₁ := [a, b, c, d, e]) (l₂ := [g, h])).trans (.cons _ ((List.perm_middle (l₁ := [a, b, c, d]) (l₂ := [g, h])).trans (.cons _ ((List.perm_middle (l₁ := [a, b]) (l₂ := [d, g, h])).trans (.cons _ (.cons _ (.cons _ ((List.perm_middle (l₁ := [d]) (l₂ := [h])).trans (.cons _ (.cons _ (.refl _)))))))))))
theorem own_pin : Tryz.pinned.checked.prog.pinnedFits "unicode/utf8.first" = true := by kernel_rfl
theorem own_noOwn : Tryz.pinned.checked.prog.headLifts.contains "ownunsafe" = false := by kernel_rfl
theorem own_fits : Tryz.pinned.checked.prog.listedFits [("strconv.ErrSyntax", Rows.laid_strconv_ErrSyntax), ("strconv.ErrRange", Rows.laid_strconv_ErrRange), ("internal/strconv.uint64pow10", Rows.laid_internal_strconv_uint64pow10), ("math/bits.deBruijn32tab", Rows.laid_math_bits_deBruijn32tab), ("math/bits.deBruijn64tab", Rows.laid_math_bits_deBruijn64tab), ("strings.asciiSpace", Rows.laid_strings_asciiSpace), ("unicode/utf8.first", Rows.laid_unicode_utf8_first), ("unicode/utf8.acceptRanges", Rows.laid_unicode_utf8_acceptRanges), ("unicode.White_Space", Rows.laid_unicode_White_Space)] = true := by
  unfold Program.listedFits
  rw [own_noOwn]
  kernel_rfl
theorem own_all : Great.laidAll = [("math/bits.deBruijn32tab", Rows.laid_math_bits_deBruijn32tab), ("math/bits.deBruijn64tab", Rows.laid_math_bits_deBruijn64tab), ("internal/strconv.uint64pow10", Rows.laid_internal_strconv_uint64pow10), ("unicode/utf8.acceptRanges", Rows.laid_unicode_utf8_acceptRanges), ("strconv.ErrRange", Rows.laid_strconv_ErrRange), ("strconv.ErrSyntax", Rows.laid_strconv_ErrSyntax), ("strings.asciiSpace", Rows.laid_strings_asciiSpace), ("unicode.White_Space", Rows.laid_unicode_White_Space)] := by kernel_rfl
theorem own_tie : Tryz.prog.laidByTextLater [("strconv.ErrSyntax", Rows.laid_strconv_ErrSyntax), ("strconv.ErrRange", Rows.laid_strconv_ErrRange), ("internal/strconv.uint64pow10", Rows.laid_internal_strconv_uint64pow10), ("math/bits.deBruijn32tab", Rows.laid_math_bits_deBruijn32tab), ("math/bits.deBruijn64tab", Rows.laid_math_bits_deBruijn64tab), ("strings.asciiSpace", Rows.laid_strings_asciiSpace), ("unicode/utf8.acceptRanges", Rows.laid_unicode_utf8_acceptRanges), ("unicode.White_Space", Rows.laid_unicode_White_Space)] [.sentinel, .sentinel, .data, .data, .data, .data, .data, .listed] true :=
  Great.tie.perm (by rw [own_all]; exact own_perm _ _ _ _ _ _ _ _) (by kernel_rfl)
theorem own_row_tie : Rows.runnerNilRow.laidByTextAt .later Tryz.pinned [.sentinel, .sentinel, .data, .data, .data, .data, .pinned, .data, .listed] true :=
  OpenClaim.laidByTextAt_pinned rfl rfl own_tie rfl rfl rfl rfl (fun y hy _e => by
    simp only [Rows.runnerNilRow, List.zip_cons_cons, List.zip_nil_right, List.mem_cons, List.mem_nil_iff, or_false] at hy
    rcases hy with rfl | rfl | rfl | rfl | rfl | rfl | rfl | rfl | rfl
    · cases _e
    · cases _e
    · cases _e
    · cases _e
    · cases _e
    · cases _e
    · exact ⟨own_pin, by kernel_rfl⟩
    · cases _e
    · cases _e) own_fits
end Go.Proofs.YtikcimlokhmleaaGreatDoor
