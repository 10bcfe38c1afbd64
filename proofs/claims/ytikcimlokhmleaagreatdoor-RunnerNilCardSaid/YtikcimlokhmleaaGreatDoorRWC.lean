/-
  RunnerNil: a runner that is not there does nothing; copies go on apart
-/
import Derived.Test.YtikcimlokhmleaaGreatDoorRXK
import Derived.Test.YtikcimlokhmleaaGreatDoorLWU
import Derived.Test.YtikcimlokhmleaaGreatDoorCards
import Derived.Test.YtikcimlokhmleaaGreatDoorRWF
import Derived.Deep.DeepWitnessRowRef
namespace Go.Proofs.YtikcimlokhmleaaGreatDoor
open Go Go.Sx Go.ChangeShapes Go.WideShapes Go.ChangeAt Go.RowKit

theorem rn_params : ∀ t ∈ Tryz.f3.params.toList, Tryz.prog.readableRec t = true ∧ t < Tryz.prog.types.size := by
  rw [Tryz.params3]
  intro t ht
  have ht : t ∈ [24, 22] := ht
  rcases List.mem_cons.1 ht with h | ht
  · subst h; exact ⟨by kernel_rfl, of_decide_eq_true (by kernel_rfl)⟩
  have h := List.mem_singleton.1 ht
  subst h; exact ⟨by kernel_rfl, of_decide_eq_true (by kernel_rfl)⟩

/-- strings.asciiSpace, as the row's cell says it. -/
theorem laidS_of {W : World} (h : laidMetH Tryz.prog laid9 W) : LaidS W.heap := by
  have h : laidMet Tryz.prog laid9 W := h
  obtain ⟨ps, hV, _, hrows⟩ := h
  obtain ⟨g, t, cs, fuel, p, hg, ht, hv, htr, hin⟩ := laid_cells hV _ _ (List.mem_of_getElem? laid9_space)
  have hgi : Tryz.prog.globalNamed "strings.asciiSpace" = some 6 := by kernel_rfl
  have hti : (Tryz.prog.globals[6]?).map (·.type) = some 663 := by kernel_rfl
  obtain rfl := Option.some.inj (hgi.symm.trans hg)
  obtain rfl := Option.some.inj (hti.symm.trans ht)
  have hz : (Rows.laid_strings_asciiSpace : DataW Unit) = Lib.tabData .u8 spaceZ := by kernel_rfl
  rw [hz] at htr
  have hc := Lib.cells_of_tab (k := .u8) (zs := spaceZ) (n := 256) (e := 5) (by kernel_rfl) (by kernel_rfl) (by kernel_rfl) (by kernel_rfl) htr
  have hs : cs.size = 256 := by
    have := congrArg List.length hc
    rw [Array.length_toList, List.length_map] at this
    exact this.trans (by kernel_rfl)
  obtain ⟨⟨c, k, hfz⟩, _⟩ := hrows (6 : Nat) 0 (hin _ (MemPlace.mem_row.2 ⟨0, by omega, rfl⟩))
  unfold World.var? at hv
  rw [hgi] at hv
  have hv : (match W.heap[(6 : Nat)]? with | some (.cells cs _ _) => some cs | _ => none) = some cs := hv
  rw [hfz] at hv
  obtain rfl := Option.some.inj hv
  refine ⟨k, ?_⟩
  rw [← hc]
  exact hfz

set_option maxRecDepth 100000 in
theorem rn_law (H : Type) (enc : TypeId × Value → H) (W : World) (base : Nat) (args : Array Value) (ds gs : List (DataW H)) (before : List MemPlace)
    (hval : ∀ (j : Nat) t v, Tryz.f3.params[j]? = some t → args[j]? = some v → Value.okWide Tryz.prog W .any base t v)
    (hW : DataW.Whole enc Tryz.prog Tryz.f3.params.toList Rows.runnerNilSpec.vars false W args.toList ds gs before)
    (hL : laidMetH Tryz.prog laid9 W)
    (hsz : (DataW.weightsEach Tryz.prog (Tryz.f3.params.toList ++ (OpenSpec.ofChange Rows.runnerNilSpec).bare.plain.varTypes Tryz.prog) (ds ++ gs)).all (· ≤ reachBytes) = true) :
    Calls Tryz.prog 3 args W fun e W' => ∃ v, e = .returned v ∧ Rows.runnerNilSpec.post enc Tryz.prog Tryz.f3 false true false false W args v W' := by
  refine lift_law (tb := 4) laidOut rn_params rfl Tryz.underlying4 rfl
    (fun l hl => by
      rw [Tryz.params3] at hl
      match l, hl with
      | [_, _], _ => rfl) hW ?_
  obtain ⟨p, q, hA, hV, _, _, _⟩ := hW
  obtain ⟨rfl, rfl⟩ := trodVars_none hV
  rw [Tryz.params3] at hA hval hsz
  obtain ⟨v0, vs0, d0, ds0, p0, q0, hargs, rfl, rfl, h0, r0⟩ := trodAll_cons hA
  obtain ⟨v1, vs1, d1, ds1, p1, q1, rfl, rfl, rfl, h1, r1⟩ := trodAll_cons r0
  obtain ⟨rfl, rfl, rfl⟩ := trodAll_nil r1
  obtain rfl : args = #[v0, v1] := by cases args; simp_all
  obtain ⟨now, va, ks, rfl, sl, nk⟩ := open_ask (hval 0 24 v0 rfl rfl) h0 (wts_each hsz (j := 0) rfl rfl)
  obtain ⟨rs, sr, _⟩ := open_list (hval 1 22 v1 rfl rfl) h1 (wts_each hsz (j := 1) rfl rfl)
  exact rn_calls sl nk sr (laidS_of hL)

noncomputable def rnArgs : Array Value := #[.agg #[.int .i64 0, .slice none 0 0], .slice none 0 0]

theorem rn_reads (os : Os) {H : Type} (enc : TypeId × Value → H) : ∃ places, DataW.whole enc Tryz.prog ((laidWorld os).forCall (fun _ _ => 0) ⟨#[], rnArgs, []⟩).memory Tryz.f3.params.toList Rows.runnerNilSpec.vars false rnArgs.toList 8 =
    some ([.agg [.lit (.int .i64 0), .nil], .nil], [], places) :=
  ⟨[], by kernel_rfl⟩

set_option maxRecDepth 100000 in
theorem rn_lifted (os : Os) (started : os.Started) (H : Type) (enc : TypeId × Value → H) (F : Stop.Interp) :
    ReturnsInHanded {} Tryz.checked os 3 .any ((OpenSpec.ofChange Rows.runnerNilSpec).preRow enc Tryz.prog Tryz.f3 Rows.runnerNilRow.domain false Rows.runnerNilRow.laid) (((OpenSpec.ofChange Rows.runnerNilSpec).at F).post enc Tryz.prog Tryz.f3 false true false false) := by
  obtain ⟨places, hx⟩ := rn_reads os enc
  refine returnsInHanded_of_row (C := Tryz.checked) (s := OpenSpec.ofChange Rows.runnerNilSpec) own started (by kernel_rfl) Tryz.func3
    (witness_row_atRef (enc := enc) (C := Tryz.checked) false (laidWorld os) rnArgs rfl (by kernel_rfl) (by kernel_rfl) (by kernel_rfl)
      (OpenSpec.preRow_of_cond 8 hx (by kernel_rfl) (fun k hk => by cases hk) (by kernel_rfl) (laid_met os rnArgs))) ?_
  intro W base args ds gs before hval hW _ _ hsz hL _ _
  exact rn_law H enc W base args ds gs before hval hW hL hsz

theorem rn_said : Rows.RunnerNilSaid :=
  OpenClaim.holds_of_cond 3 Tryz.f3 rfl rfl rfl rfl rfl rfl rfl ⟨rfl, rfl, rfl, rfl, rfl⟩ rfl rfl rfl rfl rfl (by kernel_rfl) Tryz.func3 rn_facts
    (of_decide_eq_true (by kernel_rfl)) (by unfold Func.isWrapper; first | (rw [if_pos (by decide +kernel)]; kernel_rfl) | (rw [if_neg (by decide +kernel)]; exact ⟨rfl, rfl⟩))
    (fun os started H enc _ F => by rw [OpenClaim.pre_eq_preRow]; exact rn_lifted os started H enc F)

theorem rn_plain (f : FuncId) (fn : Func) (hf : Tryz.pinned.checked.prog.funcNamed "tabor/taborlaw22.RunnerNil" = some f) (hfn : Tryz.pinned.checked.prog.funcs[f]? = some fn) :
    true = Tryz.pinned.checked.prog.looks [] ∧ ∀ (j : Nat) t, fn.params[j]? = some t → Tryz.pinned.checked.prog.wantsStandIn t = false := by
  obtain rfl : f = 3 := Option.some.inj ((show Tryz.prog.funcNamed "tabor/taborlaw22.RunnerNil" = some 3 by kernel_rfl).symm.trans hf) |>.symm
  obtain rfl : fn = Tryz.f3 := (Option.some.inj (Tryz.func3.symm.trans hfn)).symm
  refine ⟨by kernel_rfl, fun j t ht => ?_⟩
  rw [Tryz.params3] at ht
  have ht : t ∈ [24, 22] := by simpa using Array.mem_of_getElem? ht
  rcases List.mem_cons.1 ht with h | ht
  · subst h; exact (show Tryz.prog.wantsStandIn 24 = false by kernel_rfl)
  have h := List.mem_singleton.1 ht
  subst h; exact (show Tryz.prog.wantsStandIn 22 = false by kernel_rfl)

end Go.Proofs.YtikcimlokhmleaaGreatDoor
