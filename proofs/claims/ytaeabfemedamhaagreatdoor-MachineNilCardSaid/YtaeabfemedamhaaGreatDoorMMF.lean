/-
  MachineNil: the closed facts on the program that its row asks for.
-/
import Derived.Test.YtaeabfemedamhaaGreatDoorRows
import Derived.Test.YtaeabfemedamhaaGreatDoorMMF1
import Derived.Test.YtaeabfemedamhaaGreatDoorMMF2
import Derived.Test.YtaeabfemedamhaaGreatDoorMMF3
import Derived.ProofKit
namespace Go.Proofs.YtaeabfemedamhaaGreatDoor
open Go

theorem and_i {a b : Bool} (h1 : a = true) (h2 : b = true) : (a && b) = true := by rw [h1, h2]; rfl
set_option maxHeartbeats 8000000 in
theorem mm_facts : joinedFacts Tryz.prog 3 Tryz.f3 (OpenSpec.ofChange Rows.machineNilSpec).bare Rows.machineNilRow = true := by
  unfold joinedFacts
  iterate 31 refine and_i ?_ (by first | (rw [mm_f1]; kernel_rfl) | (rw [mm_f2]; kernel_rfl) | (rw [mm_f3]; kernel_rfl) | (rw [mm_f4]; kernel_rfl) | as_aux_lemma => kernel_rfl)
  as_aux_lemma => kernel_rfl
end Go.Proofs.YtaeabfemedamhaaGreatDoor
