/-
  Layer 8: BasicsNumber.
-/
import Derived.Test.YtigolfakcblnjaaGreatDoorPC
import Derived.Test.YtigolfakcblnjaaGreatDoorLW
namespace Go.Proofs.YtigolfakcblnjaaGreatDoor
open Go Go.Sx Go.ChangeShapes Go.WideShapes Go.ChangeAt Go.RowKit

theorem trod_iface {H : Type} {enc : TypeId × Value → H} {P : Program} {w : World} {base n : Nat} {sp : Nat → Bool} {held : Bool} {t : TypeId} {cs : List Value} {x : DataW H × List MemPlace}
    (ht : (match P.underlying t with | some (.interface _) => true | _ => false) = true) (h : DataW.trod enc P w base sp held n t cs = some x) : ∃ v, cs = [v] ∧ IfaceV v := by
  obtain ⟨ms, ht⟩ : ∃ ms, P.underlying t = some (.interface ms) := by
    split at ht
    · rename_i ms h1; exact ⟨ms, h1⟩
    · cases ht
  cases n with
  | zero => simp [DataW.trod] at h
  | succ n =>
    simp only [DataW.trod, ht] at h
    split at h <;> first | exact ⟨_, rfl, .inl rfl⟩ | exact ⟨_, rfl, .inr ⟨_, _, rfl⟩⟩ | (exfalso; simp_all; done)

theorem errV {W : World} {n : String} {gi : Nat} {g : Nat} {t : TypeId} {cs : Array Value} {fuel : Nat} {d : DataW Unit} {p : List MemPlace} (hgi : Tryz.prog.globalNamed n = some gi) (hti : (Tryz.prog.globals[gi]?).map (·.type) = some 74)
    (hg : Tryz.prog.globalNamed n = some g) (ht : (Tryz.prog.globals[g]?).map (·.type) = some t) (hv : W.var? Tryz.prog n = some cs) (h : DataW.trod (fun _ => ()) Tryz.prog W 0 (fun _ => true) false fuel t cs.toList = some (d, p)) :
    ∃ v, cell W.heap gi 0 = some v ∧ IfaceV v := by
  obtain rfl := Option.some.inj (hgi.symm.trans hg)
  obtain rfl := Option.some.inj (hti.symm.trans ht)
  obtain ⟨v, e, hi⟩ := trod_iface (by kernel_rfl) h
  refine ⟨v, ?_, hi⟩
  unfold World.var? at hv
  rw [hgi] at hv
  have hv : (match W.heap[gi]? with | some (.cells cs _ _) => some cs | _ => none) = some cs := hv
  unfold cell
  split at hv
  · rename_i h1
    injection hv with hv
    subst hv
    rw [h1]
    show (_ : Array Value)[0]? = _
    rw [← Array.getElem?_toList, e]; rfl
  · cases hv

theorem laidN_of {W : World} (h : laidMetH Tryz.prog laid5 W) : LaidN W.heap := by
  have h : laidMet Tryz.prog laid5 W := h
  obtain ⟨ps, ⟨_, _, _, _, _, _, _, _, _, _, ⟨_, _, _, _, _, _, _, _, _, _, ⟨g, t, cs, fuel, p, q, hg, ht, hv, htr, ⟨g2, t2, cs2, fuel2, p2, q2, hg2, ht2, hv2, htr2, ⟨g3, t3, cs3, fuel3, p3, q3, hg3, ht3, hv3, htr3, _, _⟩, _⟩, _⟩, _⟩, _⟩, _⟩ := h
  refine ⟨?_, errV (by kernel_rfl) (by kernel_rfl) hg3 ht3 hv3 htr3, errV (by kernel_rfl) (by kernel_rfl) hg2 ht2 hv2 htr2⟩
  have hgi : Tryz.prog.globalNamed "internal/strconv.uint64pow10" = some 2 := by kernel_rfl
  have hti : (Tryz.prog.globals[2]?).map (·.type) = some 200 := by kernel_rfl
  obtain rfl := Option.some.inj (hgi.symm.trans hg)
  obtain rfl := Option.some.inj (hti.symm.trans ht)
  have hc := Lib.cells_of_tab (k := .u64) (zs := Lib.pow10Tab) (n := 20) (e := 156) (by kernel_rfl) (by kernel_rfl) (by kernel_rfl) (by kernel_rfl) htr
  unfold World.var? at hv
  rw [hgi] at hv
  have hv : (match W.heap[(2 : Nat)]? with | some (.cells cs _ _) => some cs | _ => none) = some cs := hv
  split at hv
  · rename_i h1
    injection hv with hv
    subst hv
    exact ⟨_, _, by rw [h1, ← hc]⟩
  · cases hv

theorem nb_params : ∀ t ∈ Tryz.f3.params.toList, Tryz.prog.readableRec t = true ∧ t < Tryz.prog.types.size := by
  rw [Tryz.params3]
  intro t ht
  have h := List.mem_singleton.1 (show t ∈ [9] from ht)
  subst h; exact ⟨by kernel_rfl, of_decide_eq_true (by kernel_rfl)⟩

set_option maxRecDepth 100000 in
theorem nb_law (H : Type) (enc : TypeId × Value → H) (W : World) (base : Nat) (args : Array Value) (ds gs : List (DataW H)) (before : List MemPlace)
    (hval : ∀ (j : Nat) t v, Tryz.f3.params[j]? = some t → args[j]? = some v → Value.okWide Tryz.prog W .any base t v)
    (hW : DataW.Whole enc Tryz.prog Tryz.f3.params.toList Rows.basicsNumberSpec.vars false W args.toList ds gs before)
    (hL : laidMetH Tryz.prog laid5 W)
    (hsz : (DataW.weightsEach Tryz.prog (Tryz.f3.params.toList ++ (OpenSpec.ofChange Rows.basicsNumberSpec).bare.plain.varTypes Tryz.prog) (ds ++ gs)).all (· ≤ reachBytes) = true) :
    Calls Tryz.prog 3 args W fun e W' => ∃ v, e = .returned v ∧ Rows.basicsNumberSpec.post enc Tryz.prog Tryz.f3 false true false false W args v W' := by
  refine lift_law (tb := 4) laidOut nb_params rfl Tryz.underlying4 rfl
    (fun l hl => by
      rw [Tryz.params3] at hl
      match l, hl with
      | [_], _ => rfl) hW ?_
  obtain ⟨p, q, hA, hV, _, _, _⟩ := hW
  obtain ⟨rfl, rfl⟩ := trodVars_none hV
  rw [Tryz.params3] at hA hval hsz
  obtain ⟨v0, vs0, d0, ds0, p0, q0, hargs, rfl, rfl, h0, r0⟩ := trodAll_cons hA
  obtain ⟨rfl, rfl, rfl⟩ := trodAll_nil r0
  obtain rfl : args = #[v0] := by cases args; simp_all
  obtain ⟨s, rfl⟩ := str_arg Tryz.underlying9 (hval 0 9 v0 rfl rfl)
  obtain ⟨n0, h0⟩ := h0
  obtain ⟨nm, e0, z⟩ := str_of_trod Tryz.underlying9 h0 (wts_each hsz (j := 0) rfl rfl)
  have e0 : [Value.string s] = [Value.string nm] := e0
  injection e0 with e0 _
  injection e0 with e0
  subst e0
  have := reachBytes_lt
  obtain ⟨⟨l⟩⟩ := s
  have z : l.length ≤ _ := z
  exact number_contract (laidN_of hL) (by omega)

noncomputable def nbArgs : Array Value := #[.string ByteArray.empty]

theorem nb_reads (os : Os) {H : Type} (enc : TypeId × Value → H) : ∃ places, DataW.whole enc Tryz.prog ((laidWorld os).forCall (fun _ _ => 0) ⟨#[], nbArgs, []⟩).memory Tryz.f3.params.toList Rows.basicsNumberSpec.vars false nbArgs.toList 8 =
    some ([.lit (.string [])], [], places) :=
  ⟨[], by kernel_rfl⟩

set_option maxRecDepth 100000 in
theorem nb_lifted (os : Os) (started : os.Started) (H : Type) (enc : TypeId × Value → H) (F : Stop.Interp) :
    ReturnsInHanded {} Tryz.checked os 3 .any ((OpenSpec.ofChange Rows.basicsNumberSpec).preRow enc Tryz.prog Tryz.f3 Rows.basicsNumberRow.domain false Rows.basicsNumberRow.laid) (((OpenSpec.ofChange Rows.basicsNumberSpec).at F).post enc Tryz.prog Tryz.f3 false true false false) := by
  obtain ⟨places, hx⟩ := nb_reads os enc
  refine returnsInHanded_of_row (C := Tryz.checked) (s := OpenSpec.ofChange Rows.basicsNumberSpec) own started (by kernel_rfl) Tryz.func3
    (witness_row_at (enc := enc) (C := Tryz.checked) false (laidWorld os) nbArgs rfl (by kernel_rfl) (by kernel_rfl) (by kernel_rfl)
      (OpenSpec.preRow_of_cond 8 hx (by kernel_rfl) (fun k hk => by cases hk) (by kernel_rfl) (laid_met os nbArgs))) ?_
  intro W base args ds gs before hval hW _ _ hsz hL _ _
  exact nb_law H enc W base args ds gs before hval hW hL hsz

theorem nb_said : Rows.BasicsNumberSaid :=
  OpenClaim.holds_of_cond 3 Tryz.f3 rfl rfl rfl rfl rfl rfl rfl ⟨rfl, rfl, rfl, rfl, rfl⟩ rfl rfl rfl rfl rfl (by kernel_rfl) Tryz.func3 (by kernel_rfl)
    (of_decide_eq_true (by kernel_rfl)) (by unfold Func.isWrapper; first | (rw [if_pos (by decide +kernel)]; kernel_rfl) | (rw [if_neg (by decide +kernel)]; exact ⟨rfl, rfl⟩))
    (fun os started H enc _ F => by rw [OpenClaim.pre_eq_preRow]; exact nb_lifted os started H enc F)

theorem nb_plain (f : FuncId) (fn : Func) (hf : Tryz.pinned.checked.prog.funcNamed "tabor/taborlaw08.BasicsNumber" = some f) (hfn : Tryz.pinned.checked.prog.funcs[f]? = some fn) :
    true = Tryz.pinned.checked.prog.looks [] ∧ ∀ (j : Nat) t, fn.params[j]? = some t → Tryz.pinned.checked.prog.wantsStandIn t = false := by
  obtain rfl : f = 3 := Option.some.inj ((show Tryz.prog.funcNamed "tabor/taborlaw08.BasicsNumber" = some 3 by kernel_rfl).symm.trans hf) |>.symm
  obtain rfl : fn = Tryz.f3 := (Option.some.inj (Tryz.func3.symm.trans hfn)).symm
  refine ⟨by kernel_rfl, fun j t ht => ?_⟩
  rw [Tryz.params3] at ht
  have h : t = 9 := by simpa using Array.mem_of_getElem? ht
  subst h; exact (show Tryz.prog.wantsStandIn 9 = false by kernel_rfl)

/-- THE CARD. -/
theorem nb_card : Rows.BasicsNumberCardSaid :=
  Claim7.holds_tied_plain_at .later [] _ _ _ _ nb_said (fun _ h => by cases h) (by kernel_rfl) (fun _ h => by cases h) basicsNumber_row_tie rfl ⟨rfl, rfl⟩ (by kernel_rfl) rfl nb_plain (by kernel_rfl)
#print axioms nb_card
end Go.Proofs.YtigolfakcblnjaaGreatDoor
