/-
  Layer 7: texts and members compared.
-/
import Derived.Test.YtaffnlibmkcgiaaSxU
import Derived.Test.YtaffnlibmkcgiaaCode
import Derived.WalkKit
import Derived.Laws.Externs
namespace Go.Proofs.Ytaffnlibmkcgiaa
open Go Go.Sx Go.Proofs.Ytaffnlibmkcgiaa.C

theorem cmpStr_calls {h : Heap} (a b : ByteArray) : CallsH Try.prog 34 [.string a, .string b] h (Ret fun u h' => u = .int .i64 (cmpB a b) ∧ h' = h) := by
  refine ⟨by kernel_rfl, fun w hw => ?_⟩
  have key : Calls Try.prog 34 #[.string a, .string b] w fun e w' => e = .returned (.int .i64 (Lib.compareBytes a.data.toList b.data.toList)) ∧ w' = w := by
    go_enter Try.func34, Try.ntmps34
    go_wp2
    rw [run_callFunc_extern Try.func38 (by kernel_rfl) (by kernel_rfl) (by kernel_rfl) (e := Extern.BytealgCompare.compare) (by kernel_rfl), Lib.run_compareString]
    simp only [Result.andThen]
    rw [Oper.upon_value]
    go_wp2
    all_goals go_ret
    all_goals exact ⟨rfl, rfl⟩
  refine key.mono ?_
  rintro e w' ⟨rfl, rfl⟩
  exact ⟨⟨rfl, hw⟩, by simp, rfl, rfl, rfl⟩

theorem cmpS_calls {h : Heap} (a b : ByteArray) : CallsH Try.prog 18 [.string a, .string b] h (Ret fun u h' => u = .int .i64 (cmpB a b) ∧ h' = h) := by
  refine f18_calls (by simp) ?_
  refine call_ret (cmpStr_calls a b) ?_
  rintro _ h1 ⟨rfl, rfl⟩
  exact ⟨rfl, rfl⟩

end Go.Proofs.Ytaffnlibmkcgiaa
