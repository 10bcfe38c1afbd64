/-
  MachineNil: what it reaches in place, whether it recurses, whether some call is not followed.
-/
import Derived.Test.YtaeabfemedamhaaGreatDoorMMF1
namespace Go.Proofs.YtaeabfemedamhaaGreatDoor
open Go

theorem mm_f1 : Tryz.prog.inPlace 3 = ["internal/bytealg.abigen_runtime_cmpstring", "slices.overlaps[tabor/api.Pair]", "slices.overlaps[string]", "slices.overlaps[tabor/api.Rank]", "internal/abi.NoEscape", "internal/bytealg.IndexByteString", "internal/bytealg.IndexString", "internal/bytealg.MakeNoZero"] := by
  unfold Program.inPlace
  rw [mm_cl]
  kernel_rfl
theorem mm_f2 : Tryz.prog.unfollowed 3 = true := by
  unfold Program.unfollowed
  rw [mm_cl]
  kernel_rfl
theorem mm_f3 : Tryz.prog.recurses 3 = true := by
  unfold Program.recurses
  rw [mm_f2]
  rfl
end Go.Proofs.YtaeabfemedamhaaGreatDoor
