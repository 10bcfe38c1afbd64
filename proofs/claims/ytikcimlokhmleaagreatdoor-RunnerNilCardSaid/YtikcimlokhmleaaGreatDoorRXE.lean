/-
  Layer 22: known()'s script, in words: told once.
-/
import Derived.Test.YtikcimlokhmleaaGreatDoorRXD
set_option linter.unusedSimpArgs false
set_option linter.unusedVariables false
namespace Go.Proofs.YtikcimlokhmleaaGreatDoor
open Go Go.Sx
def txK:List UInt8:=[114,101,116,117,114,110,32,99,97,108,108,40,39,83,69,84,39,44,32,75,69,89,83,91,49,93,44,32,49,41]
def psi (m:List Nat) (i:Nat):Nat:=match nth m i with|some a=>a|none=>0
def nmL:List Nat:=[1213]
def blL:List (Nat×List AV):=[
 (4,[.i .i64 1,.s [114,101,116,117,114,110],.i .i64 0,.i .i64 0,.i .i64 0,.s [99,97,108,108],.i .i64 0,.i .i64 7,.i .i64 4,.s [40],.i .i64 0,.i .i64 11,.i .i64 3,.s [83,69,84],.i .i64 0,.i .i64 12,.i .i64 4,.s [44],.i .i64 0,.i .i64 17,.i .i64 0,.s [75,69,89,83],.i .i64 0,.i .i64 19,.i .i64 4,.s [91],.i .i64 0,.i .i64 23,.i .i64 2,.s [],.i .i64 1,.i .i64 24,.i .i64 4,.s [93],.i .i64 0,.i .i64 25,.i .i64 4,.s [44],.i .i64 0,.i .i64 26,.i .i64 2,.s [],.i .i64 1,.i .i64 28,.i .i64 4,.s [41],.i .i64 0,.i .i64 29])]
def anL:AV:=.t [.su 0 0 12 0,.i .i64 0,.i .i64 0]
set_option maxRecDepth 1000000 in
theorem lex_run:isTold (psi nmL) blL anL (acall Q.tb (arecF Tryz.prog Q.tb 1000) [] 245 [.s txK] ⟨gH gsS,gtop⟩)=true:=by kernel_rfl
theorem laid_on {h0 h:Heap} (hs:LaidS h0) (hsz:h0.size≤h.size) (hx:∀k,k<h0.size→h[k]? =h0[k]?):LaidS h:=hs.ext ⟨hsz,fun k hk _=>hx k hk⟩
noncomputable def tbL:Tbl:=.node Q.tb 245 (.prim (toldP txK blL anL)) Q.tb
theorem tbL_ok {oq:Nat→Value} {h0:Heap} (hs:LaidS h0):TOK Tryz.prog oq (fun k=>k<h0.size) h0 tbL:=
 ⟨Q.tb_ok _ _ _,told_ok (n:=1000) (gs:=gsS) (ψ:=psi nmL) (fun _ _ _=>Q.tb_ok _ _ _) (fun _ hsz hx _=>spaces (laid_on hs hsz hx)) (by decide) lex_run,Q.tb_ok _ _ _⟩
end Go.Proofs.YtikcimlokhmleaaGreatDoor
