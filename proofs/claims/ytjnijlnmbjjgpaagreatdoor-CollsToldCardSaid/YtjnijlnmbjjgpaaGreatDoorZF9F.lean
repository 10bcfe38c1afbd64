/-
  CollsTold: what was put in is told: a field, a member, a score, items; for every key, name, text, number, time.
-/
import Derived.Test.YtjnijlnmbjjgpaaGreatDoorZF9E
namespace Go.Proofs.YtjnijlnmbjjgpaaGreatDoor
open Go Go.Sx Go.ChangeShapes Go.WideShapes Go.ChangeAt Go.RowKit
theorem ct_params : ∀ t ∈ Tryz.f8.params.toList, Tryz.prog.readableRec t = true ∧ t < Tryz.prog.types.size := by
 rw [Tryz.params8]
 intro t ht
 have ht : t ∈ [41] := ht
 have h := List.mem_singleton.1 ht
 subst h; exact ⟨by kernel_rfl, of_decide_eq_true (by kernel_rfl)⟩
theorem len5p {α : Type} {l : List α} (h : l.length = 5) : ∃ a0 a1 a2 a3 a4, l = [a0, a1, a2, a3, a4] := by
 match l, h with
 |[a0, a1, a2, a3, a4], _ => exact ⟨a0, a1, a2, a3, a4, rfl⟩
set_option maxRecDepth 100000 in
theorem open_put9 {H : Type} {enc : TypeId × Value → H} {W : World} {base : Nat} {sp : Nat → Bool} {held : Bool} {v : Value} {d : DataW H} {ps : List MemPlace} {r : Reach} {b0 : Nat} (hval : Value.okWide Tryz.prog W r b0 41 v) (h : DataW.Trod enc Tryz.prog W base sp held 41 v d ps) (hw : Wts Tryz.prog 41 d) :
  ∃ (key n s : ByteArray) (z now : Int), v = .agg ⟨[.string key, .string n, .string s, .int .i64 z, .int .i64 now]⟩ ∧ key.size < 1000000000000000000 ∧ n.size < 1000000000000000000 ∧ s.size < 1000000000000000000 ∧ In64 z := by
 have hval' := hval
 unfold Value.okWide at hval'
 rw [Tryz.underlying41] at hval'
 obtain ⟨cs, rfl, hcs, _⟩ := hval'
 obtain ⟨fuel, h⟩ := h
 obtain ⟨xs, m, rfl, hx, hl, hls, hi⟩ := DataW.trod_struct Tryz.underlying41 h
 have hd : d = .agg (xs.map (·.1)) := congrArg Prod.fst hx
 have c9 : Tryz.prog.cellsOf 9 = 1 := by kernel_rfl
 have c2 : Tryz.prog.cellsOf 2 = 1 := by kernel_rfl
 have c4 : Tryz.prog.cellsOf 41 = 5 := by kernel_rfl
 obtain ⟨cs⟩ := cs
 rw [c4] at hcs
 obtain ⟨a0, a1, a2, a3, a4, rfl⟩ := len5p (l := cs) hcs
 obtain ⟨y0, y1, y2, y3, y4, rfl⟩ := len5p (l := xs) hls
 have h0 := fld hi 0 9 0 1 rfl rfl rfl c9 rfl rfl
 have h1 := fld hi 1 9 1 1 rfl rfl rfl c9 rfl rfl
 have h2 := fld hi 2 9 2 1 rfl rfl rfl c9 rfl rfl
 have h3 := fld hi 3 2 3 1 rfl rfl rfl c2 rfl rfl
 have h4 := fld hi 4 2 4 1 rfl rfl rfl c2 rfl rfl
 have hwk : ∀ (i t : Nat) (y : DataW H × List MemPlace), [9, 9, 9, 2, 2][i]? = some t → [y0, y1, y2, y3, y4][i]? = some y → Wts Tryz.prog t y.1 := by
  intro i t y ht hy k hk
  refine hw k ?_
  rw [hd]
  simp only [DataW.weights, Tryz.underlying41]
  refine DataW.weights_mem_each (j := i) (t := t) (d := y.1) ?_ ?_ k hk
  ·exact ht
  ·rw [List.getElem?_map, hy]; rfl
 obtain ⟨key, e0, hs0⟩ := str_of_trod Tryz.underlying9 h0 (hwk 0 9 y0 rfl rfl)
 obtain ⟨n, e1, hs1⟩ := str_of_trod Tryz.underlying9 h1 (hwk 1 9 y1 rfl rfl)
 obtain ⟨s, e2, hs2⟩ := str_of_trod Tryz.underlying9 h2 (hwk 2 9 y2 rfl rfl)
 obtain ⟨z, e3, _, wf3⟩ := DataW.trod_int Tryz.underlying2 h3
 obtain ⟨now, e4, _, _⟩ := DataW.trod_int Tryz.underlying2 h4
 have un3 : -9223372036854775808 ≤ z ∧ z ≤ 9223372036854775807 := by
  unfold Lit.wf at wf3
  simp only [Bool.and_eq_true, decide_eq_true_eq] at wf3
  exact wf3
 obtain ⟨rfl⟩ := e0
 obtain ⟨rfl⟩ := e1
 obtain ⟨rfl⟩ := e2
 obtain ⟨rfl⟩ := e3
 obtain ⟨rfl⟩ := e4
 have := reachBytes_lt
 exact ⟨key, n, s, z, now, rfl, by omega, by omega, by omega, un3⟩
set_option maxRecDepth 100000 in
theorem ct_law (H : Type) (enc : TypeId × Value → H) (W : World) (base : Nat) (args : Array Value) (ds gs : List (DataW H)) (before : List MemPlace)
  (hval : ∀ (j : Nat) t v, Tryz.f8.params[j]? = some t → args[j]? = some v → Value.okWide Tryz.prog W .any base t v)
  (hW : DataW.Whole enc Tryz.prog Tryz.f8.params.toList Rows.collsToldSpec.vars false W args.toList ds gs before)
  (hL : laidMetH Tryz.prog laid5 W)
  (hsz : (DataW.weightsEach Tryz.prog (Tryz.f8.params.toList ++ (OpenSpec.ofChange Rows.collsToldSpec).bare.plain.varTypes Tryz.prog) (ds ++ gs)).all (· ≤ reachBytes) = true) :
  Calls Tryz.prog 8 args W fun e W' => ∃ v, e = .returned v ∧ Rows.collsToldSpec.post enc Tryz.prog Tryz.f8 false true false false W args v W' := by
 refine lift_law (tb := 4) laidOut ct_params rfl Tryz.underlying4 rfl
  (fun l hl => by
   rw [Tryz.params8] at hl
   match l, hl with
   |[_], _ => rfl) hW ?_
 obtain ⟨p, q, hA, hV, _, _, _⟩ := hW
 obtain ⟨rfl, rfl⟩ := trodVars_none hV
 rw [Tryz.params8] at hA hval hsz
 obtain ⟨v0, vs0, d0, ds0, p0, q0, hargs, rfl, rfl, h0, r0⟩ := trodAll_cons hA
 obtain ⟨rfl, rfl, rfl⟩ := trodAll_nil r0
 obtain rfl : args = #[v0] := by cases args; simp_all
 obtain ⟨key, n, s, z, now, rfl, z1, z2, z3, hz⟩ := open_put9 (hval 0 41 v0 rfl rfl) h0 (wts_each hsz (j := 0) rfl rfl)
 exact CollsTold_calls (by omega) (by omega) (by omega) hz (laidN_of hL) (tabH_of hL)
noncomputable def ctArgs : Array Value := #[.agg #[.string ByteArray.empty, .string ByteArray.empty, .string ByteArray.empty, .int .i64 0, .int .i64 0]]
theorem ct_reads (os : Os) {H : Type} (enc : TypeId × Value → H) : ∃ places, DataW.whole enc Tryz.prog ((laidWorld os).forCall (fun _ _ => 0) ⟨#[], ctArgs, []⟩).memory Tryz.f8.params.toList Rows.collsToldSpec.vars false ctArgs.toList 8 =
  some ([.agg [.lit (.string []), .lit (.string []), .lit (.string []), .lit (.int .i64 0), .lit (.int .i64 0)]], [], places) :=
 ⟨[], by kernel_rfl⟩
set_option maxRecDepth 100000 in
theorem ct_lifted (os : Os) (started : os.Started) (H : Type) (enc : TypeId × Value → H) (F : Stop.Interp) :
  ReturnsInHanded {} Tryz.checked os 8 .any ((OpenSpec.ofChange Rows.collsToldSpec).preRow enc Tryz.prog Tryz.f8 Rows.collsToldRow.domain false Rows.collsToldRow.laid) (((OpenSpec.ofChange Rows.collsToldSpec).at F).post enc Tryz.prog Tryz.f8 false true false false) := by
 obtain ⟨places, hx⟩ := ct_reads os enc
 refine returnsInHanded_of_row (C := Tryz.checked) (s := OpenSpec.ofChange Rows.collsToldSpec) own started (by kernel_rfl) Tryz.func8
  (witness_row_at (enc := enc) (C := Tryz.checked) false (laidWorld os) ctArgs rfl (by kernel_rfl) (by kernel_rfl) (by kernel_rfl)
   (OpenSpec.preRow_of_cond 8 hx (by kernel_rfl) (fun k hk => by cases hk) (by kernel_rfl) (laid_met os ctArgs))) ?_
 intro W base args ds gs before hval hW _ _ hsz hL _ _
 exact ct_law H enc W base args ds gs before hval hW hL hsz
theorem and_i9 {a b : Bool} (h1 : a = true) (h2 : b = true) : (a && b) = true := by rw [h1, h2]; rfl
set_option maxHeartbeats 8000000 in
theorem ct_facts : joinedFacts Tryz.prog 8 Tryz.f8 (OpenSpec.ofChange Rows.collsToldSpec).bare Rows.collsToldRow = true := by
 unfold joinedFacts
 iterate 31 refine and_i9 ?_ (by as_aux_lemma => kernel_rfl)
 as_aux_lemma => kernel_rfl
theorem ct_said : Rows.CollsToldSaid :=
 OpenClaim.holds_of_cond 8 Tryz.f8 rfl rfl rfl rfl rfl rfl rfl ⟨rfl, rfl, rfl, rfl, rfl⟩ rfl rfl rfl rfl rfl (by kernel_rfl) Tryz.func8 ct_facts
  (of_decide_eq_true (by kernel_rfl)) (by unfold Func.isWrapper; first | (rw [if_pos (by decide +kernel)]; kernel_rfl) | (rw [if_neg (by decide +kernel)]; exact ⟨rfl, rfl⟩))
  (fun os started H enc _ F => by rw [OpenClaim.pre_eq_preRow]; exact ct_lifted os started H enc F)
theorem ct_plain (f : FuncId) (fn : Func) (hf : Tryz.pinned.checked.prog.funcNamed "tabor/taborlaw09.CollsTold" = some f) (hfn : Tryz.pinned.checked.prog.funcs[f]? = some fn) :
  true = Tryz.pinned.checked.prog.looks [] ∧ ∀ (j : Nat) t, fn.params[j]? = some t → Tryz.pinned.checked.prog.wantsStandIn t = false := by
 obtain rfl : f = 8 := Option.some.inj ((show Tryz.prog.funcNamed "tabor/taborlaw09.CollsTold" = some 8 by kernel_rfl).symm.trans hf) |>.symm
 obtain rfl : fn = Tryz.f8 := (Option.some.inj (Tryz.func8.symm.trans hfn)).symm
 refine ⟨by kernel_rfl, fun j t ht => ?_⟩
 rw [Tryz.params8] at ht
 have ht : t ∈ [41] := by simpa using Array.mem_of_getElem? ht
 have h := List.mem_singleton.1 ht
 subst h; exact (show Tryz.prog.wantsStandIn 41 = false by kernel_rfl)
theorem ct_card : Rows.CollsToldCardSaid :=
 Claim7.holds_tied_plain_at .later [] _ _ _ _ ct_said (fun _ h => by cases h) (by kernel_rfl) (fun _ h => by cases h) collsTold_row_tie rfl ⟨rfl, rfl⟩ (by kernel_rfl) rfl ct_plain (by kernel_rfl)
#print axioms ct_card
end Go.Proofs.YtjnijlnmbjjgpaaGreatDoor
