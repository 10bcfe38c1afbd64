/-
  What the row lists, in its order.
-/
import Derived.Test.YtikcimlokhmleaaGreatDoorRows
namespace Go.Proofs.YtikcimlokhmleaaGreatDoor
open Go
def laid9 : List (String × DataW Unit) := [("strconv.ErrSyntax", Rows.laid_strconv_ErrSyntax), ("strconv.ErrRange", Rows.laid_strconv_ErrRange), ("internal/strconv.uint64pow10", Rows.laid_internal_strconv_uint64pow10), ("math/bits.deBruijn32tab", Rows.laid_math_bits_deBruijn32tab), ("math/bits.deBruijn64tab", Rows.laid_math_bits_deBruijn64tab), ("strings.asciiSpace", Rows.laid_strings_asciiSpace), ("unicode/utf8.first", Rows.laid_unicode_utf8_first), ("unicode/utf8.acceptRanges", Rows.laid_unicode_utf8_acceptRanges), ("unicode.White_Space", Rows.laid_unicode_White_Space)]
theorem laid9_space : laid9[5]? = some ("strings.asciiSpace", Rows.laid_strings_asciiSpace) := rfl
end Go.Proofs.YtikcimlokhmleaaGreatDoor
