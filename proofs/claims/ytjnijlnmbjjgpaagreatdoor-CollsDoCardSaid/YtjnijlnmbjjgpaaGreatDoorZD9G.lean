/-
  CollsDo: a command's reply and effects are what the document says, and the keyspace stays; for every list of things, every time, every command.
-/
import Derived.Test.YtjnijlnmbjjgpaaGreatDoorZD9F
namespace Go.Proofs.YtjnijlnmbjjgpaaGreatDoor
open Go Go.Sx Go.ChangeShapes Go.WideShapes Go.ChangeAt Go.RowKit
theorem cd_params : ∀ t ∈ Tryz.f7.params.toList, Tryz.prog.readableRec t = true ∧ t < Tryz.prog.types.size := by
 rw [Tryz.params7]
 intro t ht
 have ht : t ∈ [32, 2, 24] := ht
 rcases List.mem_cons.1 ht with h | h
 ·subst h; exact ⟨by kernel_rfl, of_decide_eq_true (by kernel_rfl)⟩
 rcases List.mem_cons.1 h with h | h
 ·subst h; exact ⟨by kernel_rfl, of_decide_eq_true (by kernel_rfl)⟩
 have h := List.mem_singleton.1 h
 subst h; exact ⟨by kernel_rfl, of_decide_eq_true (by kernel_rfl)⟩
set_option maxRecDepth 100000 in
theorem cd_law (H : Type) (enc : TypeId × Value → H) (W : World) (base : Nat) (args : Array Value) (ds gs : List (DataW H)) (before : List MemPlace)
  (hval : ∀ (j : Nat) t v, Tryz.f7.params[j]? = some t → args[j]? = some v → Value.okWide Tryz.prog W .any base t v)
  (hW : DataW.Whole enc Tryz.prog Tryz.f7.params.toList Rows.collsDoSpec.vars false W args.toList ds gs before)
  (hL : laidMetH Tryz.prog laid5 W)
  (hsz : (DataW.weightsEach Tryz.prog (Tryz.f7.params.toList ++ (OpenSpec.ofChange Rows.collsDoSpec).bare.plain.varTypes Tryz.prog) (ds ++ gs)).all (· ≤ reachBytes) = true) :
  Calls Tryz.prog 7 args W fun e W' => ∃ v, e = .returned v ∧ Rows.collsDoSpec.post enc Tryz.prog Tryz.f7 false true false false W args v W' := by
 refine lift_law (tb := 4) laidOut cd_params rfl Tryz.underlying4 rfl
  (fun l hl => by
   rw [Tryz.params7] at hl
   match l, hl with
   |[_, _, _], _ => rfl) hW ?_
 obtain ⟨p, q, hA, hV, _, _, _⟩ := hW
 obtain ⟨rfl, rfl⟩ := trodVars_none hV
 rw [Tryz.params7] at hA hval hsz
 obtain ⟨v0, vs0, d0, ds0, p0, q0, hargs, rfl, rfl, h0, r0⟩ := trodAll_cons hA
 obtain ⟨v1, vs1, d1, ds1, p1, q1, rfl, rfl, rfl, h1, r1⟩ := trodAll_cons r0
 obtain ⟨v2, vs2, d2, ds2, p2, q2, rfl, rfl, rfl, h2, r2⟩ := trodAll_cons r1
 obtain ⟨rfl, rfl, rfl⟩ := trodAll_nil r2
 obtain rfl : args = #[v0, v1, v2] := by cases args; simp_all
 obtain ⟨l, sl, g, f, hun, hri⟩ := open_entries9 (hval 0 32 v0 rfl rfl) h0 (wts_each hsz (j := 0) rfl rfl)
 obtain ⟨now, rfl⟩ := int_arg Tryz.underlying2 (hval 1 2 v1 rfl rfl)
 obtain ⟨A, sa, fa⟩ := open_strs (hval 2 24 v2 rfl rfl) h2 (wts_each hsz (j := 2) rfl rfl)
 exact CollsDo_calls sl sa g f fa hun hri (laidN_of hL) (tabH_of hL)
noncomputable def cdArgs : Array Value := #[.slice none 0 0, .int .i64 0, .slice none 0 0]
theorem cd_reads (os : Os) {H : Type} (enc : TypeId × Value → H) : ∃ places, DataW.whole enc Tryz.prog ((laidWorld os).forCall (fun _ _ => 0) ⟨#[], cdArgs, []⟩).memory Tryz.f7.params.toList Rows.collsDoSpec.vars false cdArgs.toList 8 =
  some ([.nil, .lit (.int .i64 0), .nil], [], places) :=
 ⟨[], by kernel_rfl⟩
set_option maxRecDepth 100000 in
theorem cd_lifted (os : Os) (started : os.Started) (H : Type) (enc : TypeId × Value → H) (F : Stop.Interp) :
  ReturnsInHanded {} Tryz.checked os 7 .any ((OpenSpec.ofChange Rows.collsDoSpec).preRow enc Tryz.prog Tryz.f7 Rows.collsDoRow.domain false Rows.collsDoRow.laid) (((OpenSpec.ofChange Rows.collsDoSpec).at F).post enc Tryz.prog Tryz.f7 false true false false) := by
 obtain ⟨places, hx⟩ := cd_reads os enc
 refine returnsInHanded_of_row (C := Tryz.checked) (s := OpenSpec.ofChange Rows.collsDoSpec) own started (by kernel_rfl) Tryz.func7
  (witness_row_at (enc := enc) (C := Tryz.checked) false (laidWorld os) cdArgs rfl (by kernel_rfl) (by kernel_rfl) (by kernel_rfl)
   (OpenSpec.preRow_of_cond 8 hx (by kernel_rfl) (fun k hk => by cases hk) (by kernel_rfl) (laid_met os cdArgs))) ?_
 intro W base args ds gs before hval hW _ _ hsz hL _ _
 exact cd_law H enc W base args ds gs before hval hW hL hsz
theorem and_i {a b : Bool} (h1 : a = true) (h2 : b = true) : (a && b) = true := by rw [h1, h2]; rfl
set_option maxHeartbeats 8000000 in
theorem cd_facts : joinedFacts Tryz.prog 7 Tryz.f7 (OpenSpec.ofChange Rows.collsDoSpec).bare Rows.collsDoRow = true := by
 unfold joinedFacts
 iterate 31 refine and_i ?_ (by as_aux_lemma => kernel_rfl)
 as_aux_lemma => kernel_rfl
theorem cd_said : Rows.CollsDoSaid :=
 OpenClaim.holds_of_cond 7 Tryz.f7 rfl rfl rfl rfl rfl rfl rfl ⟨rfl, rfl, rfl, rfl, rfl⟩ rfl rfl rfl rfl rfl (by kernel_rfl) Tryz.func7 cd_facts
  (of_decide_eq_true (by kernel_rfl)) (by unfold Func.isWrapper; first | (rw [if_pos (by decide +kernel)]; kernel_rfl) | (rw [if_neg (by decide +kernel)]; exact ⟨rfl, rfl⟩))
  (fun os started H enc _ F => by rw [OpenClaim.pre_eq_preRow]; exact cd_lifted os started H enc F)
theorem cd_plain (f : FuncId) (fn : Func) (hf : Tryz.pinned.checked.prog.funcNamed "tabor/taborlaw09.CollsDo" = some f) (hfn : Tryz.pinned.checked.prog.funcs[f]? = some fn) :
  true = Tryz.pinned.checked.prog.looks [] ∧ ∀ (j : Nat) t, fn.params[j]? = some t → Tryz.pinned.checked.prog.wantsStandIn t = false := by
 obtain rfl : f = 7 := Option.some.inj ((show Tryz.prog.funcNamed "tabor/taborlaw09.CollsDo" = some 7 by kernel_rfl).symm.trans hf) |>.symm
 obtain rfl : fn = Tryz.f7 := (Option.some.inj (Tryz.func7.symm.trans hfn)).symm
 refine ⟨by kernel_rfl, fun j t ht => ?_⟩
 rw [Tryz.params7] at ht
 have ht : t ∈ [32, 2, 24] := by simpa using Array.mem_of_getElem? ht
 rcases List.mem_cons.1 ht with h | h
 ·subst h; exact (show Tryz.prog.wantsStandIn 32 = false by kernel_rfl)
 rcases List.mem_cons.1 h with h | h
 ·subst h; exact (show Tryz.prog.wantsStandIn 2 = false by kernel_rfl)
 have h := List.mem_singleton.1 h
 subst h; exact (show Tryz.prog.wantsStandIn 24 = false by kernel_rfl)
theorem cd_card : Rows.CollsDoCardSaid :=
 Claim7.holds_tied_plain_at .later [] _ _ _ _ cd_said (fun _ h => by cases h) (by kernel_rfl) (fun _ h => by cases h) collsDo_row_tie rfl ⟨rfl, rfl⟩ (by kernel_rfl) rfl cd_plain (by kernel_rfl)
#print axioms cd_card
end Go.Proofs.YtjnijlnmbjjgpaaGreatDoor
