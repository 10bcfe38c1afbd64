/-
  Layer 20: known(), by a run.
-/
import Derived.Test.YtaeabfemedamhaaGreatDoorMNZ
import Derived.Test.YtaeabfemedamhaaGreatDoorMKT
import Derived.Test.YtaeabfemedamhaaGreatDoorSxYL
namespace Go.Proofs.YtaeabfemedamhaaGreatDoor
open Go Go.Sx

set_option maxRecDepth 1000000 in
theorem known_run : saysTrue (acall Q.tb (arecF Tryz.prog Q.tb 1000) [] 6 [] ⟨gH gsS, gtop⟩) = true := by kernel_rfl
theorem known_ret {h : Heap} (hl : LaidS h) : CallsH Tryz.prog 6 [] h (Ret fun r h' => r = .bool true ∧ Chg [] h h') :=
  (run_okG (Q.tb_ok _ _ _) (spaces hl) (by rw [← arecF_eq]; exact known_run)).mono fun e h' ⟨he, hx⟩ => by subst he; exact ⟨rfl, chg_of_ext hx⟩

end Go.Proofs.YtaeabfemedamhaaGreatDoor
