/-
  Layer 10: CommandsNames.
-/
import Derived.Test.YtjinlabdkegjmaaGreatDoorVG
import Derived.Test.YtjinlabdkegjmaaGreatDoorLW
namespace Go.Proofs.YtjinlabdkegjmaaGreatDoor
open Go Go.Sx Go.ChangeShapes Go.WideShapes Go.ChangeAt Go.RowKit

theorem cn_params : ∀ t ∈ Tryz.f5.params.toList, Tryz.prog.readableRec t = true ∧ t < Tryz.prog.types.size := by
  rw [Tryz.params5]
  intro t ht
  have h := List.mem_singleton.1 (show t ∈ [9] from ht)
  subst h; exact ⟨by kernel_rfl, of_decide_eq_true (by kernel_rfl)⟩

set_option maxRecDepth 100000 in
theorem cn_law (H : Type) (enc : TypeId × Value → H) (W : World) (base : Nat) (args : Array Value) (ds gs : List (DataW H)) (before : List MemPlace)
    (hval : ∀ (j : Nat) t v, Tryz.f5.params[j]? = some t → args[j]? = some v → Value.okWide Tryz.prog W .any base t v)
    (hW : DataW.Whole enc Tryz.prog Tryz.f5.params.toList Rows.commandsNamesSpec.vars false W args.toList ds gs before)
    (hsz : (DataW.weightsEach Tryz.prog (Tryz.f5.params.toList ++ (OpenSpec.ofChange Rows.commandsNamesSpec).bare.plain.varTypes Tryz.prog) (ds ++ gs)).all (· ≤ reachBytes) = true) :
    Calls Tryz.prog 5 args W fun e W' => ∃ v, e = .returned v ∧ Rows.commandsNamesSpec.post enc Tryz.prog Tryz.f5 false true false false W args v W' := by
  refine lift_law (tb := 4) laidOut cn_params rfl Tryz.underlying4 rfl
    (fun l hl => by
      rw [Tryz.params5] at hl
      match l, hl with
      | [_], _ => rfl) hW ?_
  obtain ⟨p, q, hA, hV, _, _, _⟩ := hW
  obtain ⟨rfl, rfl⟩ := trodVars_none hV
  rw [Tryz.params5] at hA hval hsz
  obtain ⟨v0, vs0, d0, ds0, p0, q0, hargs, rfl, rfl, h0, r0⟩ := trodAll_cons hA
  obtain ⟨rfl, rfl, rfl⟩ := trodAll_nil r0
  obtain rfl : args = #[v0] := by cases args; simp_all
  obtain ⟨s, rfl⟩ := str_arg Tryz.underlying9 (hval 0 9 v0 rfl rfl)
  obtain ⟨n0, h0⟩ := h0
  obtain ⟨nm, e0, z⟩ := str_of_trod Tryz.underlying9 h0 (wts_each hsz (j := 0) rfl rfl)
  have e0 : [Value.string s] = [Value.string nm] := e0
  injection e0 with e0 _
  injection e0 with e0
  subst e0
  have := reachBytes_lt
  exact cn_contract (by omega)

noncomputable def cnArgs : Array Value := #[.string ByteArray.empty]

theorem cn_reads (os : Os) {H : Type} (enc : TypeId × Value → H) : ∃ places, DataW.whole enc Tryz.prog ((laidWorld os).forCall (fun _ _ => 0) ⟨#[], cnArgs, []⟩).memory Tryz.f5.params.toList Rows.commandsNamesSpec.vars false cnArgs.toList 8 =
    some ([.lit (.string [])], [], places) :=
  ⟨[], by kernel_rfl⟩

set_option maxRecDepth 100000 in
theorem cn_lifted (os : Os) (started : os.Started) (H : Type) (enc : TypeId × Value → H) (F : Stop.Interp) :
    ReturnsInHanded {} Tryz.checked os 5 .any ((OpenSpec.ofChange Rows.commandsNamesSpec).preRow enc Tryz.prog Tryz.f5 Rows.commandsNamesRow.domain false Rows.commandsNamesRow.laid) (((OpenSpec.ofChange Rows.commandsNamesSpec).at F).post enc Tryz.prog Tryz.f5 false true false false) := by
  obtain ⟨places, hx⟩ := cn_reads os enc
  refine returnsInHanded_of_row (C := Tryz.checked) (s := OpenSpec.ofChange Rows.commandsNamesSpec) own started (by kernel_rfl) Tryz.func5
    (witness_row_at (enc := enc) (C := Tryz.checked) false (laidWorld os) cnArgs rfl (by kernel_rfl) (by kernel_rfl) (by kernel_rfl)
      (OpenSpec.preRow_of_cond 8 hx (by kernel_rfl) (fun k hk => by cases hk) (by kernel_rfl) (laid_met os cnArgs))) ?_
  intro W base args ds gs before hval hW _ _ hsz _ _ _
  exact cn_law H enc W base args ds gs before hval hW hsz

theorem cn_said : Rows.CommandsNamesSaid :=
  OpenClaim.holds_of_cond 5 Tryz.f5 rfl rfl rfl rfl rfl rfl rfl ⟨rfl, rfl, rfl, rfl, rfl⟩ rfl rfl rfl rfl rfl (by kernel_rfl) Tryz.func5 (by kernel_rfl)
    (of_decide_eq_true (by kernel_rfl)) (by unfold Func.isWrapper; first | (rw [if_pos (by decide +kernel)]; kernel_rfl) | (rw [if_neg (by decide +kernel)]; exact ⟨rfl, rfl⟩))
    (fun os started H enc _ F => by rw [OpenClaim.pre_eq_preRow]; exact cn_lifted os started H enc F)

theorem cn_plain (f : FuncId) (fn : Func) (hf : Tryz.pinned.checked.prog.funcNamed "tabor/taborlaw10.CommandsNames" = some f) (hfn : Tryz.pinned.checked.prog.funcs[f]? = some fn) :
    true = Tryz.pinned.checked.prog.looks [] ∧ ∀ (j : Nat) t, fn.params[j]? = some t → Tryz.pinned.checked.prog.wantsStandIn t = false := by
  obtain rfl : f = 5 := Option.some.inj ((show Tryz.prog.funcNamed "tabor/taborlaw10.CommandsNames" = some 5 by kernel_rfl).symm.trans hf) |>.symm
  obtain rfl : fn = Tryz.f5 := (Option.some.inj (Tryz.func5.symm.trans hfn)).symm
  refine ⟨by kernel_rfl, fun j t ht => ?_⟩
  rw [Tryz.params5] at ht
  have h : t = 9 := by simpa using Array.mem_of_getElem? ht
  subst h; exact (show Tryz.prog.wantsStandIn 9 = false by kernel_rfl)

/-- THE CARD. -/
theorem cn_card : Rows.CommandsNamesCardSaid :=
  Claim7.holds_tied_plain_at .later [] _ _ _ _ cn_said (fun _ h => by cases h) (by kernel_rfl) (fun _ h => by cases h) commandsNames_row_tie rfl ⟨rfl, rfl⟩ (by kernel_rfl) rfl cn_plain (by kernel_rfl)
#print axioms cn_card
end Go.Proofs.YtjinlabdkegjmaaGreatDoor
