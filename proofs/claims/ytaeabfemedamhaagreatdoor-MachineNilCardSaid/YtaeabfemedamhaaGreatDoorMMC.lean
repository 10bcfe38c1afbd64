/-
  MachineNil: of no keyspace nothing is done: true of every program and all bounds of a run.
-/
import Derived.Test.YtaeabfemedamhaaGreatDoorMMR
import Derived.Test.YtaeabfemedamhaaGreatDoorSxT
import Derived.Test.YtaeabfemedamhaaGreatDoorLWU
import Derived.Test.YtaeabfemedamhaaGreatDoorCards
import Derived.Test.YtaeabfemedamhaaGreatDoorMMF
import Derived.Deep.DeepWitnessRowRef
namespace Go.Proofs.YtaeabfemedamhaaGreatDoor
open Go Go.Sx Go.ChangeShapes Go.WideShapes Go.ChangeAt Go.RowKit

theorem mm_params : ∀ t ∈ Tryz.f3.params.toList, Tryz.prog.readableRec t = true ∧ t < Tryz.prog.types.size := by
  rw [Tryz.params3]
  intro t ht
  have ht : t ∈ [26, 28] := ht
  rcases List.mem_cons.1 ht with h | h
  · subst h; exact ⟨by kernel_rfl, of_decide_eq_true (by kernel_rfl)⟩
  have h := List.mem_singleton.1 h
  subst h; exact ⟨by kernel_rfl, of_decide_eq_true (by kernel_rfl)⟩

/-- strings.asciiSpace, as the row's cell says it. -/
theorem laidS_of {W : World} (h : laidMetH Tryz.prog laid9 W) : LaidS W.heap := by
  have h : laidMet Tryz.prog laid9 W := h
  obtain ⟨ps, hV, _, hrows⟩ := h
  obtain ⟨g, t, cs, fuel, p, hg, ht, hv, htr, hin⟩ := laid_cells hV _ _ (List.mem_of_getElem? laid9_space)
  have hgi : Tryz.prog.globalNamed "strings.asciiSpace" = some 2 := by kernel_rfl
  have hti : (Tryz.prog.globals[2]?).map (·.type) = some 441 := by kernel_rfl
  obtain rfl := Option.some.inj (hgi.symm.trans hg)
  obtain rfl := Option.some.inj (hti.symm.trans ht)
  have hz : (Rows.laid_strings_asciiSpace : DataW Unit) = Lib.tabData .u8 spaceZ := by kernel_rfl
  rw [hz] at htr
  have hc := Lib.cells_of_tab (k := .u8) (zs := spaceZ) (n := 256) (e := 5) (by kernel_rfl) (by kernel_rfl) (by kernel_rfl) (by kernel_rfl) htr
  have hs : cs.size = 256 := by
    have := congrArg List.length hc
    rw [Array.length_toList, List.length_map] at this
    exact this.trans (by kernel_rfl)
  obtain ⟨⟨c, k, hfz⟩, _⟩ := hrows (2 : Nat) 0 (hin _ (MemPlace.mem_row.2 ⟨0, by omega, rfl⟩))
  unfold World.var? at hv
  rw [hgi] at hv
  have hv : (match W.heap[(2 : Nat)]? with | some (.cells cs _ _) => some cs | _ => none) = some cs := hv
  rw [hfz] at hv
  obtain rfl := Option.some.inj hv
  refine ⟨k, ?_⟩
  rw [← hc]
  exact hfz

set_option maxRecDepth 100000 in
theorem mm_law (H : Type) (enc : TypeId × Value → H) (W : World) (base : Nat) (args : Array Value) (ds gs : List (DataW H)) (before : List MemPlace)
    (hval : ∀ (j : Nat) t v, Tryz.f3.params[j]? = some t → args[j]? = some v → Value.okWide Tryz.prog W .any base t v)
    (hW : DataW.Whole enc Tryz.prog Tryz.f3.params.toList Rows.machineNilSpec.vars false W args.toList ds gs before)
    (hL : laidMetH Tryz.prog laid9 W)
    (hsz : (DataW.weightsEach Tryz.prog (Tryz.f3.params.toList ++ (OpenSpec.ofChange Rows.machineNilSpec).bare.plain.varTypes Tryz.prog) (ds ++ gs)).all (· ≤ reachBytes) = true) :
    Calls Tryz.prog 3 args W fun e W' => ∃ v, e = .returned v ∧ Rows.machineNilSpec.post enc Tryz.prog Tryz.f3 false true false false W args v W' := by
  refine lift_law (tb := 4) laidOut mm_params rfl Tryz.underlying4 rfl
    (fun l hl => by
      rw [Tryz.params3] at hl
      match l, hl with
      | [_, _], _ => rfl) hW ?_
  obtain ⟨p, q, hA, hV, _, _, _⟩ := hW
  obtain ⟨rfl, rfl⟩ := trodVars_none hV
  rw [Tryz.params3] at hA hval hsz
  obtain ⟨v0, vs0, d0, ds0, p0, q0, hargs, rfl, rfl, h0, r0⟩ := trodAll_cons hA
  obtain ⟨v1, vs1, d1, ds1, p1, q1, rfl, rfl, rfl, h1, r1⟩ := trodAll_cons r0
  obtain ⟨rfl, rfl, rfl⟩ := trodAll_nil r1
  obtain rfl : args = #[v0, v1] := by cases args; simp_all
  obtain ⟨l, rfl, hl, ol⟩ := open_any Tryz.underlying26 (hval 0 26 v0 rfl rfl)
  obtain ⟨m, rfl, hm, om⟩ := open_any Tryz.underlying28 (hval 1 28 v1 rfl rfl)
  exact mm_calls (hl.trans (by kernel_rfl)) (hm.trans (by kernel_rfl)) ol om (laidS_of hL)

noncomputable def mmArgs : Array Value := #[.agg #[.slice none 0 0, .slice none 0 0, .slice none 0 0], .agg #[.slice none 0 0, .slice none 0 0, .int .i64 0, .int .i64 0, .int .i64 0, .int .i64 0]]

theorem mm_reads (os : Os) {H : Type} (enc : TypeId × Value → H) : ∃ places, DataW.whole enc Tryz.prog ((laidWorld os).forCall (fun _ _ => 0) ⟨#[], mmArgs, []⟩).memory Tryz.f3.params.toList Rows.machineNilSpec.vars false mmArgs.toList 8 =
    some ([.agg [.nil, .nil, .nil], .agg [.nil, .nil, .lit (.int .i64 0), .lit (.int .i64 0), .lit (.int .i64 0), .lit (.int .i64 0)]], [], places) :=
  ⟨[], by kernel_rfl⟩

set_option maxRecDepth 100000 in
theorem mm_lifted (os : Os) (started : os.Started) (H : Type) (enc : TypeId × Value → H) (F : Stop.Interp) :
    ReturnsInHanded {} Tryz.checked os 3 .any ((OpenSpec.ofChange Rows.machineNilSpec).preRow enc Tryz.prog Tryz.f3 Rows.machineNilRow.domain false Rows.machineNilRow.laid) (((OpenSpec.ofChange Rows.machineNilSpec).at F).post enc Tryz.prog Tryz.f3 false true false false) := by
  obtain ⟨places, hx⟩ := mm_reads os enc
  refine returnsInHanded_of_row (C := Tryz.checked) (s := OpenSpec.ofChange Rows.machineNilSpec) own started (by kernel_rfl) Tryz.func3
    (witness_row_atRef (enc := enc) (C := Tryz.checked) false (laidWorld os) mmArgs rfl (by kernel_rfl) (by kernel_rfl) (by kernel_rfl)
      (OpenSpec.preRow_of_cond 8 hx (by kernel_rfl) (fun k hk => by cases hk) (by kernel_rfl) (laid_met os mmArgs))) ?_
  intro W base args ds gs before hval hW _ _ hsz hL _ _
  exact mm_law H enc W base args ds gs before hval hW hL hsz

theorem mm_said : Rows.MachineNilSaid :=
  OpenClaim.holds_of_cond 3 Tryz.f3 rfl rfl rfl rfl rfl rfl rfl ⟨rfl, rfl, rfl, rfl, rfl⟩ rfl rfl rfl rfl rfl (by kernel_rfl) Tryz.func3 mm_facts
    (of_decide_eq_true (by kernel_rfl)) (by unfold Func.isWrapper; first | (rw [if_pos (by decide +kernel)]; kernel_rfl) | (rw [if_neg (by decide +kernel)]; exact ⟨rfl, rfl⟩))
    (fun os started H enc _ F => by rw [OpenClaim.pre_eq_preRow]; exact mm_lifted os started H enc F)

theorem mm_plain (f : FuncId) (fn : Func) (hf : Tryz.pinned.checked.prog.funcNamed "tabor/taborlaw20.MachineNil" = some f) (hfn : Tryz.pinned.checked.prog.funcs[f]? = some fn) :
    true = Tryz.pinned.checked.prog.looks [] ∧ ∀ (j : Nat) t, fn.params[j]? = some t → Tryz.pinned.checked.prog.wantsStandIn t = false := by
  obtain rfl : f = 3 := Option.some.inj ((show Tryz.prog.funcNamed "tabor/taborlaw20.MachineNil" = some 3 by kernel_rfl).symm.trans hf) |>.symm
  obtain rfl : fn = Tryz.f3 := (Option.some.inj (Tryz.func3.symm.trans hfn)).symm
  refine ⟨by kernel_rfl, fun j t ht => ?_⟩
  rw [Tryz.params3] at ht
  have ht : t ∈ [26, 28] := by simpa using Array.mem_of_getElem? ht
  rcases List.mem_cons.1 ht with h | h
  · subst h; exact (show Tryz.prog.wantsStandIn 26 = false by kernel_rfl)
  have h := List.mem_singleton.1 h
  subst h; exact (show Tryz.prog.wantsStandIn 28 = false by kernel_rfl)

end Go.Proofs.YtaeabfemedamhaaGreatDoor
