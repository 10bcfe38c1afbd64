/-
  The program's types are laid out, checked in parts.
-/
import Derived.Test.YtikcimlokhmleaaGreatDoorProg
import Derived.KernelRfl
import GoSem.ClaimDataLaid
set_option maxRecDepth 100000
namespace Go.Proofs.YtikcimlokhmleaaGreatDoor
open Go

theorem lo_size : Tryz.prog.types.size = 757 := by kernel_rfl
theorem lo_0 : (List.range' 0 60).all (rowFine Tryz.prog) = true := by kernel_rfl
theorem lo_60 : (List.range' 60 60).all (rowFine Tryz.prog) = true := by kernel_rfl
theorem lo_120 : (List.range' 120 60).all (rowFine Tryz.prog) = true := by kernel_rfl
theorem lo_180 : (List.range' 180 60).all (rowFine Tryz.prog) = true := by kernel_rfl
theorem lo_240 : (List.range' 240 60).all (rowFine Tryz.prog) = true := by kernel_rfl
theorem lo_300 : (List.range' 300 60).all (rowFine Tryz.prog) = true := by kernel_rfl
theorem lo_360 : (List.range' 360 60).all (rowFine Tryz.prog) = true := by kernel_rfl
theorem lo_420 : (List.range' 420 60).all (rowFine Tryz.prog) = true := by kernel_rfl
theorem lo_480 : (List.range' 480 60).all (rowFine Tryz.prog) = true := by kernel_rfl
theorem lo_540 : (List.range' 540 60).all (rowFine Tryz.prog) = true := by kernel_rfl
theorem lo_600 : (List.range' 600 60).all (rowFine Tryz.prog) = true := by kernel_rfl
theorem lo_660 : (List.range' 660 60).all (rowFine Tryz.prog) = true := by kernel_rfl
theorem lo_720 : (List.range' 720 37).all (rowFine Tryz.prog) = true := by kernel_rfl
theorem lo_g : Tryz.prog.globals.all (fun g => decide (g.type < Tryz.prog.types.size)) = true := by kernel_rfl
theorem lo_f : Tryz.prog.funcs.all (fun f => f.params.all fun t => decide (t < Tryz.prog.types.size)) = true := by
  rw [lo_size]
  kernel_rfl
theorem lo_at {a n t : Nat} {p : Nat → Bool} (h : (List.range' a n).all p = true) (h1 : a ≤ t) (h2 : t < a + n) : p t = true := List.all_eq_true.1 h t (List.mem_range'_1.2 ⟨h1, h2⟩)
theorem lo_t : (List.range Tryz.prog.types.size).all (rowFine Tryz.prog) = true := List.all_eq_true.2 fun t ht => by
  have ht : t < 757 := by rw [← lo_size]; exact List.mem_range.1 ht
  rcases Nat.lt_or_ge t 60 with h0 | h0
  · exact lo_at lo_0 (by omega) (by omega)
  rcases Nat.lt_or_ge t 120 with h60 | h60
  · exact lo_at lo_60 (by omega) (by omega)
  rcases Nat.lt_or_ge t 180 with h120 | h120
  · exact lo_at lo_120 (by omega) (by omega)
  rcases Nat.lt_or_ge t 240 with h180 | h180
  · exact lo_at lo_180 (by omega) (by omega)
  rcases Nat.lt_or_ge t 300 with h240 | h240
  · exact lo_at lo_240 (by omega) (by omega)
  rcases Nat.lt_or_ge t 360 with h300 | h300
  · exact lo_at lo_300 (by omega) (by omega)
  rcases Nat.lt_or_ge t 420 with h360 | h360
  · exact lo_at lo_360 (by omega) (by omega)
  rcases Nat.lt_or_ge t 480 with h420 | h420
  · exact lo_at lo_420 (by omega) (by omega)
  rcases Nat.lt_or_ge t 540 with h480 | h480
  · exact lo_at lo_480 (by omega) (by omega)
  rcases Nat.lt_or_ge t 600 with h540 | h540
  · exact lo_at lo_540 (by omega) (by omega)
  rcases Nat.lt_or_ge t 660 with h600 | h600
  · exact lo_at lo_600 (by omega) (by omega)
  rcases Nat.lt_or_ge t 720 with h660 | h660
  · exact lo_at lo_660 (by omega) (by omega)
  exact lo_at lo_720 (by omega) (by omega)
theorem laidOut : laidOutB Tryz.prog = true := by
  unfold laidOutB
  rw [lo_t, lo_g, lo_f]
  rfl
end Go.Proofs.YtikcimlokhmleaaGreatDoor
