/-
  Layer 22: known(), by a run.
-/
import Derived.Test.YtikcimlokhmleaaGreatDoorRXG
set_option linter.unusedSimpArgs false
set_option linter.unusedVariables false
namespace Go.Proofs.YtikcimlokhmleaaGreatDoor
open Go Go.Sx
set_option maxRecDepth 1000000 in
theorem known_run:saysTrue (acall tbT (arecF Tryz.prog tbT 1000) [] 5 [] ⟨gH gsS,gtop⟩)=true:=by kernel_rfl
theorem known_ret {h:Heap} (hl:LaidS h):CallsH Tryz.prog 5 [] h (Ret fun r h'=>r=.bool true∧Chg [] h h'):=
 (run_okG (tbT_ok hl) (spaces hl) (by rw[←arecF_eq];exact known_run)).mono fun e h' ⟨he,hx⟩=>by subst he;exact⟨rfl,chg_of_ext hx⟩
end Go.Proofs.YtikcimlokhmleaaGreatDoor
