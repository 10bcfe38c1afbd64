/-
  Layer 22: known()'s script, compiled: told once, its parsing told.
-/
import Derived.Test.YtikcimlokhmleaaGreatDoorRXF
set_option linter.unusedSimpArgs false
set_option linter.unusedVariables false
namespace Go.Proofs.YtikcimlokhmleaaGreatDoor
open Go Go.Sx
def nmT:List Nat:=[2002,1666,1870,1992]
def blT:List (Nat×List AV):=[
 (4,[.i .i64 5,.i .i64 1,.i .i64 0,.i .i64 0,.i .i64 7,.i .i64 2,.i .i64 0,.i .i64 0,.i .i64 4,.i .i64 4,.i .i64 0,.i .i64 0,.i .i64 10,.i .i64 2,.i .i64 2,.i .i64 4,.i .i64 4,.i .i64 3,.i .i64 0,.i .i64 0,.i .i64 33,.i .i64 1,.i .i64 1,.i .i64 3,.i .i64 6,.i .i64 0,.i .i64 1,.i .i64 0,.i .i64 34,.i .i64 0,.i .i64 0,.i .i64 0,.i .i64 35,.i .i64 0,.i .i64 0,.i .i64 0]),
 (3,[.i .i64 0,.i .i64 5,.su 0 0 9 0]),
 (1,[.i .i64 1]),
 (1,[.s [83,69,84],.s [99,97,108,108]])]
def anT:AV:=.t [.g [.su 1 0 1 0,.su 2 0 1 0,.su 3 0 2 0],.i .i64 0,.i .i64 0]
set_option maxRecDepth 1000000 in
theorem text_run:isTold (psi nmT) blT anT (acall tbP (arecF Tryz.prog tbP 1000) [] 136 [.s txK] ⟨gH gsS,gtop⟩)=true:=by kernel_rfl
noncomputable def tbT:Tbl:=.node Q.tb 136 (.prim (toldP txK blT anT)) Q.tb
theorem tbT_ok {oq:Nat→Value} {h0:Heap} (hs:LaidS h0):TOK Tryz.prog oq (fun k=>k<h0.size) h0 tbT:=
 ⟨Q.tb_ok _ _ _,told_ok (n:=1000) (gs:=gsS) (ψ:=psi nmT) (fun _ hsz hx=>tbP_ok (laid_on hs hsz hx)) (fun _ hsz hx _=>spaces (laid_on hs hsz hx)) (by decide) text_run,Q.tb_ok _ _ _⟩
end Go.Proofs.YtikcimlokhmleaaGreatDoor
