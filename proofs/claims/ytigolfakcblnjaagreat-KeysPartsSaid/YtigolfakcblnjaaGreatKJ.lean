/-
  Layer 7: may a thing be? The document's answer, whole.
-/
import Derived.Test.YtigolfakcblnjaaGreatKI
namespace Go.Proofs.YtigolfakcblnjaaGreat
open Go Go.Sx Go.Proofs.YtigolfakcblnjaaGreat.C

end Go.Proofs.YtigolfakcblnjaaGreat
