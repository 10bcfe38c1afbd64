/-
  RunnerNil: what it reaches in place, whether it recurses, whether some call is not followed.
-/
import Derived.Test.YtikcimlokhmleaaGreatDoorRWF1
namespace Go.Proofs.YtikcimlokhmleaaGreatDoor
open Go

theorem rn_f1 : Tryz.prog.inPlace 3 = ["internal/bytealg.IndexByteString", "internal/bytealg.abigen_runtime_cmpstring", "slices.overlaps[tabor/api.Pair]", "slices.overlaps[string]", "slices.overlaps[tabor/api.Rank]", "internal/abi.NoEscape", "internal/bytealg.IndexString", "internal/bytealg.MakeNoZero", "maps.clone"] := by
  unfold Program.inPlace
  rw [rn_cl]
  kernel_rfl
theorem rn_f2 : Tryz.prog.unfollowed 3 = true := by
  unfold Program.unfollowed
  rw [rn_cl]
  kernel_rfl
theorem rn_f3 : Tryz.prog.recurses 3 = true := by
  unfold Program.recurses
  rw [rn_f2]
  rfl
end Go.Proofs.YtikcimlokhmleaaGreatDoor
