/-
  Layer 7: texts and members compared.
-/
import Derived.Test.YtigolfakcblnjaaGreatSxW
import Derived.Test.YtigolfakcblnjaaGreatCode
import Derived.WalkKit
import Derived.Laws.Externs
namespace Go.Proofs.YtigolfakcblnjaaGreat
open Go Go.Sx Go.Proofs.YtigolfakcblnjaaGreat.C

set_option maxRecDepth 100000 in
theorem cmpStr_calls {h : Heap} (a b : ByteArray) : CallsH Tryz.prog 45 [.string a, .string b] h (Ret fun u h' => u = .int .i64 (cmpB a b) ∧ h' = h) := by
  refine ⟨by kernel_rfl, fun w hw => ?_⟩
  have key : Calls Tryz.prog 45 #[.string a, .string b] w fun e w' => e = .returned (.int .i64 (Lib.compareBytes a.data.toList b.data.toList)) ∧ w' = w := by
    go_enter Tryz.func45, Tryz.ntmps45
    go_wp2
    rw [run_callFunc_extern Tryz.func66 (by kernel_rfl) (by kernel_rfl) (by kernel_rfl) (e := Extern.BytealgCompare.compare) (by kernel_rfl), Lib.run_compareString]
    simp only [Result.andThen]
    rw [Oper.upon_value]
    go_wp2
    all_goals go_ret
    all_goals exact ⟨rfl, rfl⟩
  refine key.mono ?_
  rintro e w' ⟨rfl, rfl⟩
  exact ⟨⟨rfl, hw⟩, by simp, rfl, rfl, rfl⟩

theorem cmpS_calls {h : Heap} (a b : ByteArray) : CallsH Tryz.prog 28 [.string a, .string b] h (Ret fun u h' => u = .int .i64 (cmpB a b) ∧ h' = h) := by
  refine f28_calls (by simp) ?_
  refine call_ret (cmpStr_calls a b) ?_
  rintro _ h1 ⟨rfl, rfl⟩
  exact ⟨rfl, rfl⟩

end Go.Proofs.YtigolfakcblnjaaGreat
