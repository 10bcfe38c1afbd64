/-
  RanksPlays: what a set has behind any calls (at most 60) is what the document says; for every input.
-/
import Derived.Test.YtlghcmdaijfdlaaDoorLiA
import Derived.Test.YtlghcmdaijfdlaaDoorLwG
namespace Go.Proofs.YtlghcmdaijfdlaaDoor
open Go Go.Sx Go.ChangeShapes Go.WideShapes Go.ChangeAt Go.RowKit

/-- A call, opened. -/
theorem open_act {H : Type} {enc : TypeId × Value → H} {W : World} {base n : Nat} {sp : Nat → Bool} {held : Bool} {cs : List Value} {x : DataW H × List MemPlace} (h : DataW.trod enc Tryd.prog W base sp held n 53 cs = some x) (hw : Wts Tryd.prog 53 x.1) :
    ∃ a : Act, cs = encA a ∧ a.m.name.size < 4611686018427387904 := by
  obtain ⟨xs, m, rfl, hx, hl, hls, hi⟩ := DataW.trod_struct Tryd.underlying53 h
  have c3 : Tryd.prog.cellsOf 3 = 1 := by kernel_rfl
  have c40 : Tryd.prog.cellsOf 40 = 2 := by kernel_rfl
  have c53 : Tryd.prog.cellsOf 53 = 4 := by kernel_rfl
  rw [c53] at hl
  obtain ⟨u0, u1, u2, u3, rfl⟩ : ∃ u0 u1 u2 u3, cs = [u0, u1, u2, u3] := by
    match cs, hl with
    | [u0, u1, u2, u3], _ => exact ⟨u0, u1, u2, u3, rfl⟩
  obtain ⟨y0, y1, y2, rfl⟩ : ∃ y0 y1 y2, xs = [y0, y1, y2] := by
    match xs, hls with
    | [y0, y1, y2], _ => exact ⟨y0, y1, y2, rfl⟩
  have h0 := fld hi 0 3 0 1 rfl rfl rfl c3 rfl rfl
  have h1 := fld hi 1 3 1 1 rfl rfl rfl c3 rfl rfl
  have h2 := fld hi 2 40 2 2 rfl rfl rfl c40 rfl rfl
  have hw2 : Wts Tryd.prog 40 y2.1 := by
    intro k hk
    refine hw k ?_
    rw [hx]
    simp only [DataW.weights, Tryd.underlying53, List.map_cons, List.map_nil, DataW.weightsEach, List.mem_append]
    exact .inr (.inr (.inl hk))
  obtain ⟨k0, e0, _, _⟩ := DataW.trod_int Tryd.underlying3 h0
  obtain ⟨k1, e1, _, _⟩ := DataW.trod_int Tryd.underlying3 h1
  obtain ⟨r, e2, hr⟩ := open_rank h2 hw2
  obtain ⟨rfl⟩ := e0
  obtain ⟨rfl⟩ := e1
  obtain ⟨rfl⟩ := e2
  exact ⟨⟨k0, k1, r⟩, rfl, hr⟩

theorem open_acts {H : Type} {enc : TypeId × Value → H} {W : World} {base b0 : Nat} {r : Reach} {sp : Nat → Bool} {held : Bool} {v : Value} {d : DataW H} {ps : List MemPlace} (hval : Value.okWide Tryd.prog W r b0 51 v) (h : DataW.Trod enc Tryd.prog W base sp held 51 v d ps) (hw : Wts Tryd.prog 51 d) :
    ∃ l : List Act, SL encA W.heap v l ∧ (∀ a ∈ l, a.m.name.size < 4611686018427387904) ∧ l.length < 4611686018427387904 := by
  obtain ⟨l, h1, h2, h3⟩ := open_slice (k := 4) (en := encA) Tryd.underlying51 (by kernel_rfl) (by decide) encA_len (fun n cs x h hw => open_act h hw) hval h hw
  refine ⟨l, h1, h2, ?_⟩
  have hb : Tryd.prog.bytesOf 53 = 40 := by kernel_rfl
  rw [hb] at h3
  have := reachBytes_lt
  omega

theorem plays_contract (H : Type) (enc : TypeId × Value → H) (W : World) (base : Nat) (args : Array Value) (ds gs : List (DataW H)) (before : List MemPlace)
    (hval : ∀ (j : Nat) t v, Tryd.f5.params[j]? = some t → args[j]? = some v → Value.okWide Tryd.prog W .any base t v)
    (hW : DataW.Whole enc Tryd.prog Tryd.f5.params.toList Rows.ranksPlaysSpec.vars false W args.toList ds gs before)
    (hsz : (DataW.weightsEach Tryd.prog (Tryd.f5.params.toList ++ (OpenSpec.ofChange Rows.ranksPlaysSpec).bare.plain.varTypes Tryd.prog) (ds ++ gs)).all (· ≤ reachBytes) = true)
    (hL : laidMetH Tryd.prog laid2 W) :
    Calls Tryd.prog 5 args W fun e W' => ∃ v, e = .returned v ∧ Rows.ranksPlaysSpec.post enc Tryd.prog Tryd.f5 false true false false W args v W' := by
  refine lift_law (tb := 4) laidOut (by rw [Tryd.params5]; intro t ht; have : t = 51 := by simpa using ht
                                        subst this; exact ⟨by kernel_rfl, of_decide_eq_true (by kernel_rfl)⟩) rfl Tryd.underlying4 rfl
    (fun l hl => by
      match l, hl with
      | [_], _ => rfl) hW ?_
  obtain ⟨p, q, hA, hV, _, _, _⟩ := hW
  obtain ⟨rfl, rfl⟩ := trodVars_none hV
  rw [Tryd.params5] at hA hval hsz
  obtain ⟨v0, vs0, d0, ds0, p0, q0, hargs, rfl, rfl, h0, r0⟩ := trodAll_cons hA
  obtain ⟨rfl, rfl, rfl⟩ := trodAll_nil r0
  obtain rfl : args = #[v0] := by cases args; simp_all
  obtain ⟨l, hl, hn, hlen⟩ := open_acts (hval 0 51 v0 rfl rfl) h0 (wts_each hsz (j := 0) rfl rfl)
  exact plays_calls hl hlen hn (tab_of hL)

noncomputable def playsArgs : Array Value := #[.slice none 0 0]

theorem plays_reads (os : Os) {H : Type} (enc : TypeId × Value → H) : ∃ places, DataW.whole enc Tryd.prog ((laidWorld os).forCall (fun _ _ => 0) ⟨#[], playsArgs, []⟩).memory Tryd.f5.params.toList Rows.ranksPlaysSpec.vars false playsArgs.toList 8 =
    some ([.nil], [], places) :=
  ⟨[], by kernel_rfl⟩

set_option maxRecDepth 100000 in
theorem plays_lifted (os : Os) (started : os.Started) (H : Type) (enc : TypeId × Value → H) (F : Stop.Interp) :
    ReturnsInHanded {} Tryd.checked os 5 .any ((OpenSpec.ofChange Rows.ranksPlaysSpec).preRow enc Tryd.prog Tryd.f5 Rows.ranksPlaysRow.domain false Rows.ranksPlaysRow.laid) (((OpenSpec.ofChange Rows.ranksPlaysSpec).at F).post enc Tryd.prog Tryd.f5 false true false false) := by
  obtain ⟨places, hx⟩ := plays_reads os enc
  refine returnsInHanded_of_row (C := Tryd.checked) (s := OpenSpec.ofChange Rows.ranksPlaysSpec) own started (by kernel_rfl) Tryd.func5
    (witness_row_at (enc := enc) (C := Tryd.checked) false (laidWorld os) playsArgs rfl (by kernel_rfl) (by kernel_rfl) (by kernel_rfl)
      (OpenSpec.preRow_of_cond 8 hx (by kernel_rfl) (fun k hk => by cases hk) (by kernel_rfl) (laid_met os playsArgs))) ?_
  intro W base args ds gs before hval hW _ _ hsz hL _ _
  exact plays_contract H enc W base args ds gs before hval hW hsz hL

theorem plays_said : Rows.RanksPlaysSaid :=
  OpenClaim.holds_of_cond 5 Tryd.f5 rfl rfl rfl rfl rfl rfl rfl ⟨rfl, rfl, rfl, rfl, rfl⟩ rfl rfl rfl rfl rfl (by kernel_rfl) Tryd.func5 (by kernel_rfl)
    (of_decide_eq_true (by kernel_rfl)) (by unfold Func.isWrapper; first | (rw [if_pos (by decide +kernel)]; kernel_rfl) | (rw [if_neg (by decide +kernel)]; exact ⟨rfl, rfl⟩))
    (fun os started H enc _ F => by rw [OpenClaim.pre_eq_preRow]; exact plays_lifted os started H enc F)

theorem plays_plain (f : FuncId) (fn : Func) (hf : Tryd.pinned.checked.prog.funcNamed "tabor/taborlaw05.RanksPlays" = some f) (hfn : Tryd.pinned.checked.prog.funcs[f]? = some fn) :
    false = Tryd.pinned.checked.prog.looks [] ∧ ∀ (j : Nat) t, fn.params[j]? = some t → Tryd.pinned.checked.prog.wantsStandIn t = false := by
  obtain rfl : f = 5 := Option.some.inj ((show Tryd.prog.funcNamed "tabor/taborlaw05.RanksPlays" = some 5 by kernel_rfl).symm.trans hf) |>.symm
  obtain rfl : fn = Tryd.f5 := (Option.some.inj (Tryd.func5.symm.trans hfn)).symm
  refine ⟨by kernel_rfl, fun j t ht => ?_⟩
  rw [Tryd.params5] at ht
  obtain rfl : t = 51 := by simpa using Array.mem_of_getElem? ht
  exact (show Tryd.prog.wantsStandIn 51 = false by kernel_rfl)

/-- THE CARD. -/
theorem plays_card : Rows.RanksPlaysCardSaid :=
  Claim7.holds_tied_plain_at .later [] _ _ _ _ plays_said (fun _ h => by cases h) (by kernel_rfl) (fun _ h => by cases h) ranksPlays_row_tie rfl ⟨rfl, rfl⟩ (by kernel_rfl) rfl plays_plain (by kernel_rfl)
#print axioms plays_card
end Go.Proofs.YtlghcmdaijfdlaaDoor
