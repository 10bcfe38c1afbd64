/-
  MeaningNil: the closed facts on the program that its row asks for.
-/
import Derived.Test.YtomcocbcajidcaaGreatDoorRows
import Derived.ProofKit
namespace Go.Proofs.YtomcocbcajidcaaGreatDoor
open Go

theorem and_i {a b : Bool} (h1 : a = true) (h2 : b = true) : (a && b) = true := by rw [h1, h2]; rfl
set_option maxHeartbeats 8000000 in
theorem mn_facts : joinedFacts Tryz.prog 3 Tryz.f3 (OpenSpec.ofChange Rows.meaningNilSpec).bare Rows.meaningNilRow = true := by
  unfold joinedFacts
  iterate 31 refine and_i ?_ (by as_aux_lemma => kernel_rfl)
  as_aux_lemma => kernel_rfl
end Go.Proofs.YtomcocbcajidcaaGreatDoor
