/-
  RanksBounds: the bounds of members and of a Name, and one past them, and a set that is none, are as the document says.
-/
import Derived.Test.YtlghcmdaijfdlaaDoorLiA
import Derived.Test.YtlghcmdaijfdlaaDoorLwK
namespace Go.Proofs.YtlghcmdaijfdlaaDoor
open Go Go.Sx Go.ChangeShapes Go.WideShapes Go.ChangeAt Go.RowKit

theorem bounds_contract (H : Type) (enc : TypeId × Value → H) (W : World) (base : Nat) (args : Array Value) (ds gs : List (DataW H)) (before : List MemPlace)
    (hval : ∀ (j : Nat) t v, Tryd.f6.params[j]? = some t → args[j]? = some v → Value.okWide Tryd.prog W .any base t v)
    (hW : DataW.Whole enc Tryd.prog Tryd.f6.params.toList Rows.ranksBoundsSpec.vars false W args.toList ds gs before)
    (hsz : (DataW.weightsEach Tryd.prog (Tryd.f6.params.toList ++ (OpenSpec.ofChange Rows.ranksBoundsSpec).bare.plain.varTypes Tryd.prog) (ds ++ gs)).all (· ≤ reachBytes) = true)
    (hL : laidMetH Tryd.prog laid2 W) :
    Calls Tryd.prog 6 args W fun e W' => ∃ v, e = .returned v ∧ Rows.ranksBoundsSpec.post enc Tryd.prog Tryd.f6 false true false false W args v W' := by
  refine lift_law (tb := 4) laidOut (by rw [Tryd.params6]; simp) rfl Tryd.underlying4 rfl
    (fun l hl => by
      match l, hl with
      | [], _ => rfl) hW ?_
  obtain ⟨p, q, hA, hV, _, _, _⟩ := hW
  rw [Tryd.params6] at hA
  obtain ⟨hargs, rfl, rfl⟩ := trodAll_nil hA
  rw [hargs]
  exact bounds_calls (tab_of hL)

noncomputable def boundsArgs : Array Value := #[]

theorem bounds_reads (os : Os) {H : Type} (enc : TypeId × Value → H) : ∃ places, DataW.whole enc Tryd.prog ((laidWorld os).forCall (fun _ _ => 0) ⟨#[], boundsArgs, []⟩).memory Tryd.f6.params.toList Rows.ranksBoundsSpec.vars false boundsArgs.toList 8 =
    some ([], [], places) :=
  ⟨[], by kernel_rfl⟩

set_option maxRecDepth 100000 in
theorem bounds_lifted (os : Os) (started : os.Started) (H : Type) (enc : TypeId × Value → H) (F : Stop.Interp) :
    ReturnsInHanded {} Tryd.checked os 6 .any ((OpenSpec.ofChange Rows.ranksBoundsSpec).preRow enc Tryd.prog Tryd.f6 Rows.ranksBoundsRow.domain false Rows.ranksBoundsRow.laid) (((OpenSpec.ofChange Rows.ranksBoundsSpec).at F).post enc Tryd.prog Tryd.f6 false true false false) := by
  obtain ⟨places, hx⟩ := bounds_reads os enc
  refine returnsInHanded_of_row (C := Tryd.checked) (s := OpenSpec.ofChange Rows.ranksBoundsSpec) own started (by kernel_rfl) Tryd.func6
    (witness_row_at (enc := enc) (C := Tryd.checked) false (laidWorld os) boundsArgs rfl (by kernel_rfl) (by kernel_rfl) (by kernel_rfl)
      (OpenSpec.preRow_of_cond 8 hx (by kernel_rfl) (fun k hk => by cases hk) (by kernel_rfl) (laid_met os boundsArgs))) ?_
  intro W base args ds gs before hval hW _ _ hsz hL _ _
  exact bounds_contract H enc W base args ds gs before hval hW hsz hL

theorem bounds_said : Rows.RanksBoundsSaid :=
  OpenClaim.holds_of_cond 6 Tryd.f6 rfl rfl rfl rfl rfl rfl rfl ⟨rfl, rfl, rfl, rfl, rfl⟩ rfl rfl rfl rfl rfl (by kernel_rfl) Tryd.func6 (by kernel_rfl)
    (of_decide_eq_true (by kernel_rfl)) (by unfold Func.isWrapper; first | (rw [if_pos (by decide +kernel)]; kernel_rfl) | (rw [if_neg (by decide +kernel)]; exact ⟨rfl, rfl⟩))
    (fun os started H enc _ F => by rw [OpenClaim.pre_eq_preRow]; exact bounds_lifted os started H enc F)

theorem bounds_plain (f : FuncId) (fn : Func) (hf : Tryd.pinned.checked.prog.funcNamed "tabor/taborlaw05.RanksBounds" = some f) (hfn : Tryd.pinned.checked.prog.funcs[f]? = some fn) :
    false = Tryd.pinned.checked.prog.looks [] ∧ ∀ (j : Nat) t, fn.params[j]? = some t → Tryd.pinned.checked.prog.wantsStandIn t = false := by
  obtain rfl : f = 6 := Option.some.inj ((show Tryd.prog.funcNamed "tabor/taborlaw05.RanksBounds" = some 6 by kernel_rfl).symm.trans hf) |>.symm
  obtain rfl : fn = Tryd.f6 := (Option.some.inj (Tryd.func6.symm.trans hfn)).symm
  refine ⟨by kernel_rfl, fun j t ht => ?_⟩
  rw [Tryd.params6] at ht
  simp at ht

/-- THE CARD. -/
theorem bounds_card : Rows.RanksBoundsCardSaid :=
  Claim7.holds_tied_plain_at .later [] _ _ _ _ bounds_said (fun _ h => by cases h) (by kernel_rfl) (fun _ h => by cases h) ranksBounds_row_tie rfl ⟨rfl, rfl⟩ (by kernel_rfl) rfl bounds_plain (by kernel_rfl)
#print axioms bounds_card
end Go.Proofs.YtlghcmdaijfdlaaDoor
