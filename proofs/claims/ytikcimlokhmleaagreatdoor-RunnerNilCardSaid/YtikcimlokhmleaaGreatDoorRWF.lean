/-
  RunnerNil: the closed facts on the program that its row asks for.
-/
import Derived.Test.YtikcimlokhmleaaGreatDoorRows
import Derived.Test.YtikcimlokhmleaaGreatDoorRWF1
import Derived.Test.YtikcimlokhmleaaGreatDoorRWF2
import Derived.Test.YtikcimlokhmleaaGreatDoorRWF3
import Derived.Test.YtikcimlokhmleaaGreatDoorRWT
import Derived.ProofKit
namespace Go.Proofs.YtikcimlokhmleaaGreatDoor
open Go

theorem and_i {a b : Bool} (h1 : a = true) (h2 : b = true) : (a && b) = true := by rw [h1, h2]; rfl
set_option maxHeartbeats 8000000 in
theorem rn_facts : joinedFacts Tryz.prog 3 Tryz.f3 (OpenSpec.ofChange Rows.runnerNilSpec).bare Rows.runnerNilRow = true := by
  unfold joinedFacts
  iterate 31 refine and_i ?_ (by first | with_reducible exact laidOut | (rw [rn_f1]; kernel_rfl) | (rw [rn_f2]; kernel_rfl) | (rw [rn_f3]; kernel_rfl) | (rw [rn_f4]; kernel_rfl) | as_aux_lemma => kernel_rfl)
  as_aux_lemma => kernel_rfl
end Go.Proofs.YtikcimlokhmleaaGreatDoor
