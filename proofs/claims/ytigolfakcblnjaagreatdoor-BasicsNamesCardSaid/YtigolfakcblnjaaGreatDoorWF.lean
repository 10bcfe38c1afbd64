/-
  Layer 8: BasicsNames.
-/
import Derived.Test.YtigolfakcblnjaaGreatDoorWE
import Derived.Test.YtigolfakcblnjaaGreatDoorLW
namespace Go.Proofs.YtigolfakcblnjaaGreatDoor
open Go Go.Sx Go.ChangeShapes Go.WideShapes Go.ChangeAt Go.RowKit

theorem nm_params : ∀ t ∈ Tryz.f4.params.toList, Tryz.prog.readableRec t = true ∧ t < Tryz.prog.types.size := by
  rw [Tryz.params4]
  intro t ht
  have h := List.mem_singleton.1 (show t ∈ [9] from ht)
  subst h; exact ⟨by kernel_rfl, of_decide_eq_true (by kernel_rfl)⟩

set_option maxRecDepth 100000 in
theorem nm_law (H : Type) (enc : TypeId × Value → H) (W : World) (base : Nat) (args : Array Value) (ds gs : List (DataW H)) (before : List MemPlace)
    (hval : ∀ (j : Nat) t v, Tryz.f4.params[j]? = some t → args[j]? = some v → Value.okWide Tryz.prog W .any base t v)
    (hW : DataW.Whole enc Tryz.prog Tryz.f4.params.toList Rows.basicsNamesSpec.vars false W args.toList ds gs before)
    (hsz : (DataW.weightsEach Tryz.prog (Tryz.f4.params.toList ++ (OpenSpec.ofChange Rows.basicsNamesSpec).bare.plain.varTypes Tryz.prog) (ds ++ gs)).all (· ≤ reachBytes) = true) :
    Calls Tryz.prog 4 args W fun e W' => ∃ v, e = .returned v ∧ Rows.basicsNamesSpec.post enc Tryz.prog Tryz.f4 false true false false W args v W' := by
  refine lift_law (tb := 4) laidOut nm_params rfl Tryz.underlying4 rfl
    (fun l hl => by
      rw [Tryz.params4] at hl
      match l, hl with
      | [_], _ => rfl) hW ?_
  obtain ⟨p, q, hA, hV, _, _, _⟩ := hW
  obtain ⟨rfl, rfl⟩ := trodVars_none hV
  rw [Tryz.params4] at hA hval hsz
  obtain ⟨v0, vs0, d0, ds0, p0, q0, hargs, rfl, rfl, h0, r0⟩ := trodAll_cons hA
  obtain ⟨rfl, rfl, rfl⟩ := trodAll_nil r0
  obtain rfl : args = #[v0] := by cases args; simp_all
  obtain ⟨s, rfl⟩ := str_arg Tryz.underlying9 (hval 0 9 v0 rfl rfl)
  obtain ⟨n0, h0⟩ := h0
  obtain ⟨nm, e0, z⟩ := str_of_trod Tryz.underlying9 h0 (wts_each hsz (j := 0) rfl rfl)
  have e0 : [Value.string s] = [Value.string nm] := e0
  injection e0 with e0 _
  injection e0 with e0
  subst e0
  have := reachBytes_lt
  exact names_contract (by omega)

noncomputable def nmArgs : Array Value := #[.string ByteArray.empty]

theorem nm_reads (os : Os) {H : Type} (enc : TypeId × Value → H) : ∃ places, DataW.whole enc Tryz.prog ((laidWorld os).forCall (fun _ _ => 0) ⟨#[], nmArgs, []⟩).memory Tryz.f4.params.toList Rows.basicsNamesSpec.vars false nmArgs.toList 8 =
    some ([.lit (.string [])], [], places) :=
  ⟨[], by kernel_rfl⟩

set_option maxRecDepth 100000 in
theorem nm_lifted (os : Os) (started : os.Started) (H : Type) (enc : TypeId × Value → H) (F : Stop.Interp) :
    ReturnsInHanded {} Tryz.checked os 4 .any ((OpenSpec.ofChange Rows.basicsNamesSpec).preRow enc Tryz.prog Tryz.f4 Rows.basicsNamesRow.domain false Rows.basicsNamesRow.laid) (((OpenSpec.ofChange Rows.basicsNamesSpec).at F).post enc Tryz.prog Tryz.f4 false true false false) := by
  obtain ⟨places, hx⟩ := nm_reads os enc
  refine returnsInHanded_of_row (C := Tryz.checked) (s := OpenSpec.ofChange Rows.basicsNamesSpec) own started (by kernel_rfl) Tryz.func4
    (witness_row_at (enc := enc) (C := Tryz.checked) false (laidWorld os) nmArgs rfl (by kernel_rfl) (by kernel_rfl) (by kernel_rfl)
      (OpenSpec.preRow_of_cond 8 hx (by kernel_rfl) (fun k hk => by cases hk) (by kernel_rfl) (laid_met os nmArgs))) ?_
  intro W base args ds gs before hval hW _ _ hsz _ _ _
  exact nm_law H enc W base args ds gs before hval hW hsz

theorem nm_said : Rows.BasicsNamesSaid :=
  OpenClaim.holds_of_cond 4 Tryz.f4 rfl rfl rfl rfl rfl rfl rfl ⟨rfl, rfl, rfl, rfl, rfl⟩ rfl rfl rfl rfl rfl (by kernel_rfl) Tryz.func4 (by kernel_rfl)
    (of_decide_eq_true (by kernel_rfl)) (by unfold Func.isWrapper; first | (rw [if_pos (by decide +kernel)]; kernel_rfl) | (rw [if_neg (by decide +kernel)]; exact ⟨rfl, rfl⟩))
    (fun os started H enc _ F => by rw [OpenClaim.pre_eq_preRow]; exact nm_lifted os started H enc F)

theorem nm_plain (f : FuncId) (fn : Func) (hf : Tryz.pinned.checked.prog.funcNamed "tabor/taborlaw08.BasicsNames" = some f) (hfn : Tryz.pinned.checked.prog.funcs[f]? = some fn) :
    true = Tryz.pinned.checked.prog.looks [] ∧ ∀ (j : Nat) t, fn.params[j]? = some t → Tryz.pinned.checked.prog.wantsStandIn t = false := by
  obtain rfl : f = 4 := Option.some.inj ((show Tryz.prog.funcNamed "tabor/taborlaw08.BasicsNames" = some 4 by kernel_rfl).symm.trans hf) |>.symm
  obtain rfl : fn = Tryz.f4 := (Option.some.inj (Tryz.func4.symm.trans hfn)).symm
  refine ⟨by kernel_rfl, fun j t ht => ?_⟩
  rw [Tryz.params4] at ht
  have h : t = 9 := by simpa using Array.mem_of_getElem? ht
  subst h; exact (show Tryz.prog.wantsStandIn 9 = false by kernel_rfl)

/-- THE CARD. -/
theorem nm_card : Rows.BasicsNamesCardSaid :=
  Claim7.holds_tied_plain_at .later [] _ _ _ _ nm_said (fun _ h => by cases h) (by kernel_rfl) (fun _ h => by cases h) basicsNames_row_tie rfl ⟨rfl, rfl⟩ (by kernel_rfl) rfl nm_plain (by kernel_rfl)
#print axioms nm_card
end Go.Proofs.YtigolfakcblnjaaGreatDoor
