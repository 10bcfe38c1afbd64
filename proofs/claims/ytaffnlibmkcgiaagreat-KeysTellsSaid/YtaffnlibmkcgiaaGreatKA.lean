/-
  Layer 7: texts and members compared.
-/
import Derived.Test.YtaffnlibmkcgiaaGreatSxW
import Derived.Test.YtaffnlibmkcgiaaGreatCode
import Derived.WalkKit
import Derived.Laws.Externs
namespace Go.Proofs.YtaffnlibmkcgiaaGreat
open Go Go.Sx Go.Proofs.YtaffnlibmkcgiaaGreat.C

set_option maxRecDepth 100000 in
theorem cmpStr_calls {h : Heap} (a b : ByteArray) : CallsH Tryz.prog 75 [.string a, .string b] h (Ret fun u h' => u = .int .i64 (cmpB a b) ∧ h' = h) := by
  refine ⟨by kernel_rfl, fun w hw => ?_⟩
  have key : Calls Tryz.prog 75 #[.string a, .string b] w fun e w' => e = .returned (.int .i64 (Lib.compareBytes a.data.toList b.data.toList)) ∧ w' = w := by
    go_enter Tryz.func75, Tryz.ntmps75
    go_wp2
    rw [run_callFunc_extern Tryz.func96 (by kernel_rfl) (by kernel_rfl) (by kernel_rfl) (e := Extern.BytealgCompare.compare) (by kernel_rfl), Lib.run_compareString]
    simp only [Result.andThen]
    rw [Oper.upon_value]
    go_wp2
    all_goals go_ret
    all_goals exact ⟨rfl, rfl⟩
  refine key.mono ?_
  rintro e w' ⟨rfl, rfl⟩
  exact ⟨⟨rfl, hw⟩, by simp, rfl, rfl, rfl⟩

theorem cmpS_calls {h : Heap} (a b : ByteArray) : CallsH Tryz.prog 55 [.string a, .string b] h (Ret fun u h' => u = .int .i64 (cmpB a b) ∧ h' = h) := by
  refine f55_calls (by simp) ?_
  refine call_ret (cmpStr_calls a b) ?_
  rintro _ h1 ⟨rfl, rfl⟩
  exact ⟨rfl, rfl⟩

end Go.Proofs.YtaffnlibmkcgiaaGreat
