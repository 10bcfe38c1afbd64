/-
  Layer 22: known()'s script, parsed: told once.
-/
import Derived.Test.YtikcimlokhmleaaGreatDoorRXE
set_option linter.unusedSimpArgs false
set_option linter.unusedVariables false
namespace Go.Proofs.YtikcimlokhmleaaGreatDoor
open Go Go.Sx
def nmP:List Nat:=[1818,3431,3821,3824]
def blP:List (Nat×List AV):=[
 (0,[.i .i64 15,.s [75,69,89,83],.s [],.i .i64 0,.ns,.ns,.i .i64 13,.s [],.s [],.i .i64 1,.ns,.ns]),
 (6,[.i .i64 14,.s [],.s [83,69,84],.i .i64 0,.ns,.ns,.i .i64 16,.s [],.s [],.i .i64 0,.ns,.sl 0 0 2 2,.i .i64 13,.s [],.s [],.i .i64 1,.ns,.ns]),
 (0,[.i .i64 17,.s [99,97,108,108],.s [],.i .i64 0,.ns,.su 1 0 3 0]),
 (6,[.i .i64 7,.s [],.s [],.i .i64 0,.ns,.sl 2 0 1 1])]
def anP:AV:=.t [.g [.i .i64 0,.s [],.s [],.i .i64 0,.ns,.su 3 0 1 0],.i .i64 0,.i .i64 0]
set_option maxRecDepth 1000000 in
theorem parse_run:isTold (psi nmP) blP anP (acall tbL (arecF Tryz.prog tbL 1000) [] 189 [.s txK] ⟨gH gsS,gtop⟩)=true:=by kernel_rfl
noncomputable def tbP:Tbl:=.node Q.tb 189 (.prim (toldP txK blP anP)) Q.tb
theorem tbP_ok {oq:Nat→Value} {h0:Heap} (hs:LaidS h0):TOK Tryz.prog oq (fun k=>k<h0.size) h0 tbP:=
 ⟨Q.tb_ok _ _ _,told_ok (n:=1000) (gs:=gsS) (ψ:=psi nmP) (fun _ hsz hx=>tbL_ok (laid_on hs hsz hx)) (fun _ hsz hx _=>spaces (laid_on hs hsz hx)) (by decide) parse_run,Q.tb_ok _ _ _⟩
end Go.Proofs.YtikcimlokhmleaaGreatDoor
