/-
  CollsSet: the commands of sets answer as the document says, and the keyspace stays; for every list of things, every time, names, texts.
-/
import Derived.Test.YtjnijlnmbjjgpaaGreatDoorZS9E
namespace Go.Proofs.YtjnijlnmbjjgpaaGreatDoor
open Go Go.Sx Go.ChangeShapes Go.WideShapes Go.ChangeAt Go.RowKit
theorem cs_params : ∀ t ∈ Tryz.f5.params.toList, Tryz.prog.readableRec t = true ∧ t < Tryz.prog.types.size := by
 rw [Tryz.params5]
 intro t ht
 have ht : t ∈ [32, 2, 31] := ht
 rcases List.mem_cons.1 ht with h | h
 ·subst h; exact ⟨by kernel_rfl, of_decide_eq_true (by kernel_rfl)⟩
 rcases List.mem_cons.1 h with h | h
 ·subst h; exact ⟨by kernel_rfl, of_decide_eq_true (by kernel_rfl)⟩
 have h := List.mem_singleton.1 h
 subst h; exact ⟨by kernel_rfl, of_decide_eq_true (by kernel_rfl)⟩
theorem len3a {α : Type} {l : List α} (h : l.length = 3) : ∃ a0 a1 a2, l = [a0, a1, a2] := by
 match l, h with
 |[a0, a1, a2], _ => exact ⟨a0, a1, a2, rfl⟩
set_option maxRecDepth 100000 in
theorem open_args9 {H : Type} {enc : TypeId × Value → H} {W : World} {base : Nat} {sp : Nat → Bool} {held : Bool} {v : Value} {d : DataW H} {ps : List MemPlace} {r : Reach} {b0 : Nat} (hval : Value.okWide Tryz.prog W r b0 31 v) (h : DataW.Trod enc Tryz.prog W base sp held 31 v d ps) (hw : Wts Tryz.prog 31 d) :
  ∃ (nv : Value) (N : List ByteArray) (s u : ByteArray), v = .agg ⟨[nv, .string s, .string u]⟩ ∧ SL encS W.heap nv N ∧ SFit N ∧ s.size < 1000000000000000000 ∧ u.size < 1000000000000000000 := by
 have hval' := hval
 unfold Value.okWide at hval'
 rw [Tryz.underlying31] at hval'
 obtain ⟨cs, rfl, hcs, _⟩ := hval'
 obtain ⟨fuel, h⟩ := h
 obtain ⟨xs, m, rfl, hx, hl, hls, hi⟩ := DataW.trod_struct Tryz.underlying31 h
 have hd : d = .agg (xs.map (·.1)) := congrArg Prod.fst hx
 have c9 : Tryz.prog.cellsOf 9 = 1 := by kernel_rfl
 have c24 : Tryz.prog.cellsOf 24 = 1 := by kernel_rfl
 have c4 : Tryz.prog.cellsOf 31 = 3 := by kernel_rfl
 obtain ⟨cs⟩ := cs
 rw [c4] at hcs
 obtain ⟨a0, a1, a2, rfl⟩ := len3a (l := cs) hcs
 obtain ⟨y0, y1, y2, rfl⟩ := len3a (l := xs) hls
 have h0 := fld hi 0 24 0 1 rfl rfl rfl c24 rfl rfl
 have h1 := fld hi 1 9 1 1 rfl rfl rfl c9 rfl rfl
 have h2 := fld hi 2 9 2 1 rfl rfl rfl c9 rfl rfl
 have hwk : ∀ (i t : Nat) (y : DataW H × List MemPlace), [24, 9, 9][i]? = some t → [y0, y1, y2][i]? = some y → Wts Tryz.prog t y.1 := by
  intro i t y ht hy k hk
  refine hw k ?_
  rw [hd]
  simp only [DataW.weights, Tryz.underlying31]
  refine DataW.weights_mem_each (j := i) (t := t) (d := y.1) ?_ ?_ k hk
  ·exact ht
  ·rw [List.getElem?_map, hy]; rfl
 obtain ⟨ll, sl, gl, nl⟩ := open_cell (k := 1) (en := encS) Tryz.underlying24 (by kernel_rfl) (by decide) encS_len (fun n cs x h hw => open_s h hw) h0 (hwk 0 24 y0 rfl rfl)
 obtain ⟨s, e1, hs1⟩ := str_of_trod Tryz.underlying9 h1 (hwk 1 9 y1 rfl rfl)
 obtain ⟨u, e2, hs2⟩ := str_of_trod Tryz.underlying9 h2 (hwk 2 9 y2 rfl rfl)
 obtain ⟨rfl⟩ := e1
 obtain ⟨rfl⟩ := e2
 have b9 : Tryz.prog.bytesOf 9 = 16 := by kernel_rfl
 rw [b9] at nl
 have := reachBytes_lt
 exact ⟨a0, ll, s, u, rfl, sl, ⟨by omega, fun x hx => by have := gl x hx; omega⟩, by omega, by omega⟩
set_option maxRecDepth 100000 in
theorem cs_law (H : Type) (enc : TypeId × Value → H) (W : World) (base : Nat) (args : Array Value) (ds gs : List (DataW H)) (before : List MemPlace)
  (hval : ∀ (j : Nat) t v, Tryz.f5.params[j]? = some t → args[j]? = some v → Value.okWide Tryz.prog W .any base t v)
  (hW : DataW.Whole enc Tryz.prog Tryz.f5.params.toList Rows.collsSetSpec.vars false W args.toList ds gs before)
  (hL : laidMetH Tryz.prog laid5 W)
  (hsz : (DataW.weightsEach Tryz.prog (Tryz.f5.params.toList ++ (OpenSpec.ofChange Rows.collsSetSpec).bare.plain.varTypes Tryz.prog) (ds ++ gs)).all (· ≤ reachBytes) = true) :
  Calls Tryz.prog 5 args W fun e W' => ∃ v, e = .returned v ∧ Rows.collsSetSpec.post enc Tryz.prog Tryz.f5 false true false false W args v W' := by
 refine lift_law (tb := 4) laidOut cs_params rfl Tryz.underlying4 rfl
  (fun l hl => by
   rw [Tryz.params5] at hl
   match l, hl with
   |[_, _, _], _ => rfl) hW ?_
 obtain ⟨p, q, hA, hV, _, _, _⟩ := hW
 obtain ⟨rfl, rfl⟩ := trodVars_none hV
 rw [Tryz.params5] at hA hval hsz
 obtain ⟨v0, vs0, d0, ds0, p0, q0, hargs, rfl, rfl, h0, r0⟩ := trodAll_cons hA
 obtain ⟨v1, vs1, d1, ds1, p1, q1, rfl, rfl, rfl, h1, r1⟩ := trodAll_cons r0
 obtain ⟨v2, vs2, d2, ds2, p2, q2, rfl, rfl, rfl, h2, r2⟩ := trodAll_cons r1
 obtain ⟨rfl, rfl, rfl⟩ := trodAll_nil r2
 obtain rfl : args = #[v0, v1, v2] := by cases args; simp_all
 obtain ⟨l, sl, g, f, hun, hri⟩ := open_entries9 (hval 0 32 v0 rfl rfl) h0 (wts_each hsz (j := 0) rfl rfl)
 obtain ⟨now, rfl⟩ := int_arg Tryz.underlying2 (hval 1 2 v1 rfl rfl)
 obtain ⟨nv, N, s, u, rfl, sn, fn, z1, z2⟩ := open_args9 (hval 2 31 v2 rfl rfl) h2 (wts_each hsz (j := 2) rfl rfl)
 exact CollsSet_calls sl g f hun hri sn fn (by omega) (by omega) (laidN_of hL) (tabH_of hL)
noncomputable def csArgs : Array Value := #[.slice none 0 0, .int .i64 0, .agg #[.slice none 0 0, .string ByteArray.empty, .string ByteArray.empty]]
theorem cs_reads (os : Os) {H : Type} (enc : TypeId × Value → H) : ∃ places, DataW.whole enc Tryz.prog ((laidWorld os).forCall (fun _ _ => 0) ⟨#[], csArgs, []⟩).memory Tryz.f5.params.toList Rows.collsSetSpec.vars false csArgs.toList 8 =
  some ([.nil, .lit (.int .i64 0), .agg [.nil, .lit (.string []), .lit (.string [])]], [], places) :=
 ⟨[], by kernel_rfl⟩
set_option maxRecDepth 100000 in
theorem cs_lifted (os : Os) (started : os.Started) (H : Type) (enc : TypeId × Value → H) (F : Stop.Interp) :
  ReturnsInHanded {} Tryz.checked os 5 .any ((OpenSpec.ofChange Rows.collsSetSpec).preRow enc Tryz.prog Tryz.f5 Rows.collsSetRow.domain false Rows.collsSetRow.laid) (((OpenSpec.ofChange Rows.collsSetSpec).at F).post enc Tryz.prog Tryz.f5 false true false false) := by
 obtain ⟨places, hx⟩ := cs_reads os enc
 refine returnsInHanded_of_row (C := Tryz.checked) (s := OpenSpec.ofChange Rows.collsSetSpec) own started (by kernel_rfl) Tryz.func5
  (witness_row_at (enc := enc) (C := Tryz.checked) false (laidWorld os) csArgs rfl (by kernel_rfl) (by kernel_rfl) (by kernel_rfl)
   (OpenSpec.preRow_of_cond 8 hx (by kernel_rfl) (fun k hk => by cases hk) (by kernel_rfl) (laid_met os csArgs))) ?_
 intro W base args ds gs before hval hW _ _ hsz hL _ _
 exact cs_law H enc W base args ds gs before hval hW hL hsz
theorem and_iL {a b : Bool} (h1 : a = true) (h2 : b = true) : (a && b) = true := by rw [h1, h2]; rfl
set_option maxHeartbeats 8000000 in
theorem cs_facts : joinedFacts Tryz.prog 5 Tryz.f5 (OpenSpec.ofChange Rows.collsSetSpec).bare Rows.collsSetRow = true := by
 unfold joinedFacts
 iterate 31 refine and_iL ?_ (by as_aux_lemma => kernel_rfl)
 as_aux_lemma => kernel_rfl
theorem cs_said : Rows.CollsSetSaid :=
 OpenClaim.holds_of_cond 5 Tryz.f5 rfl rfl rfl rfl rfl rfl rfl ⟨rfl, rfl, rfl, rfl, rfl⟩ rfl rfl rfl rfl rfl (by kernel_rfl) Tryz.func5 cs_facts
  (of_decide_eq_true (by kernel_rfl)) (by unfold Func.isWrapper; first | (rw [if_pos (by decide +kernel)]; kernel_rfl) | (rw [if_neg (by decide +kernel)]; exact ⟨rfl, rfl⟩))
  (fun os started H enc _ F => by rw [OpenClaim.pre_eq_preRow]; exact cs_lifted os started H enc F)
theorem cs_plain (f : FuncId) (fn : Func) (hf : Tryz.pinned.checked.prog.funcNamed "tabor/taborlaw09.CollsSet" = some f) (hfn : Tryz.pinned.checked.prog.funcs[f]? = some fn) :
  true = Tryz.pinned.checked.prog.looks [] ∧ ∀ (j : Nat) t, fn.params[j]? = some t → Tryz.pinned.checked.prog.wantsStandIn t = false := by
 obtain rfl : f = 5 := Option.some.inj ((show Tryz.prog.funcNamed "tabor/taborlaw09.CollsSet" = some 5 by kernel_rfl).symm.trans hf) |>.symm
 obtain rfl : fn = Tryz.f5 := (Option.some.inj (Tryz.func5.symm.trans hfn)).symm
 refine ⟨by kernel_rfl, fun j t ht => ?_⟩
 rw [Tryz.params5] at ht
 have ht : t ∈ [32, 2, 31] := by simpa using Array.mem_of_getElem? ht
 rcases List.mem_cons.1 ht with h | h
 ·subst h; exact (show Tryz.prog.wantsStandIn 32 = false by kernel_rfl)
 rcases List.mem_cons.1 h with h | h
 ·subst h; exact (show Tryz.prog.wantsStandIn 2 = false by kernel_rfl)
 have h := List.mem_singleton.1 h
 subst h; exact (show Tryz.prog.wantsStandIn 31 = false by kernel_rfl)
theorem cs_card : Rows.CollsSetCardSaid :=
 Claim7.holds_tied_plain_at .later [] _ _ _ _ cs_said (fun _ h => by cases h) (by kernel_rfl) (fun _ h => by cases h) collsSet_row_tie rfl ⟨rfl, rfl⟩ (by kernel_rfl) rfl cs_plain (by kernel_rfl)
#print axioms cs_card
end Go.Proofs.YtjnijlnmbjjgpaaGreatDoor
