/-
  KeysAll: all things of a keyspace are gone over by rising keys, as often as one likes, and may be left; for every list of things, every number.
-/
import Derived.Test.YtaffnlibmkcgiaaGreatLiM
import Derived.Test.YtaffnlibmkcgiaaGreatRows
namespace Go.Proofs.YtaffnlibmkcgiaaGreat
open Go Go.Sx Go.ChangeShapes Go.WideShapes Go.ChangeAt Go.RowKit

theorem all_spec (H : Type) {l : List (DataW H)} (h : l.length = 2) : Rows.keysAllSpec.fn H l = { results := [.lit (.bool true)], args := l } := by
  obtain ⟨a, b, rfl⟩ := len2 h
  rfl

theorem all_row1 : Tryz.prog.readableRec 22 = true ∧ 22 < Tryz.prog.types.size := ⟨by kernel_rfl, of_decide_eq_true (by kernel_rfl)⟩
theorem all_row2 : Tryz.prog.readableRec 3 = true ∧ 3 < Tryz.prog.types.size := ⟨by kernel_rfl, of_decide_eq_true (by kernel_rfl)⟩
theorem all_params : ∀ t ∈ Tryz.f5.params.toList, Tryz.prog.readableRec t = true ∧ t < Tryz.prog.types.size := by
  rw [Tryz.params5]
  intro t ht
  have ht : t ∈ [22, 3] := ht
  rcases List.mem_cons.1 ht with h | h
  · subst h; exact all_row1
  · have h := List.mem_singleton.1 h
    subst h; exact all_row2

theorem int_arg {P : Program} {W : World} {b0 : Nat} {r : Reach} {t : TypeId} {v : Value} (ht : P.underlying t = some (.int .i64)) (hval : Value.okWide P W r b0 t v) :
    ∃ n, v = .int .i64 n := by
  simp only [Value.okWide, Cell.okWide, Cell.ok, ht] at hval
  split at hval <;> simp_all

set_option maxRecDepth 100000 in
theorem all_contract (H : Type) (enc : TypeId × Value → H) (W : World) (base : Nat) (args : Array Value) (ds gs : List (DataW H)) (before : List MemPlace)
    (hval : ∀ (j : Nat) t v, Tryz.f5.params[j]? = some t → args[j]? = some v → Value.okWide Tryz.prog W .any base t v)
    (hW : DataW.Whole enc Tryz.prog Tryz.f5.params.toList Rows.keysAllSpec.vars false W args.toList ds gs before)
    (hsz : (DataW.weightsEach Tryz.prog (Tryz.f5.params.toList ++ (OpenSpec.ofChange Rows.keysAllSpec).bare.plain.varTypes Tryz.prog) (ds ++ gs)).all (· ≤ reachBytes) = true) :
    Calls Tryz.prog 5 args W fun e W' => ∃ v, e = .returned v ∧ Rows.keysAllSpec.post enc Tryz.prog Tryz.f5 false true false false W args v W' := by
  refine lift_law (tb := 4) laidOut all_params rfl Tryz.underlying4 rfl
    (fun l hl => all_spec H (hl.trans (by rw [Tryz.params5]; rfl))) hW ?_
  obtain ⟨p, q, hA, hV, _, _, _⟩ := hW
  obtain ⟨rfl, rfl⟩ := trodVars_none hV
  rw [Tryz.params5] at hA hval hsz
  obtain ⟨v0, vs0, d0, ds0, p0, q0, hargs, rfl, rfl, h0, r0⟩ := trodAll_cons hA
  obtain ⟨v1, vs1, d1, ds1, p1, q1, rfl, rfl, rfl, h1, r1⟩ := trodAll_cons r0
  obtain ⟨rfl, rfl, rfl⟩ := trodAll_nil r1
  obtain rfl : args = #[v0, v1] := by cases args; simp_all
  obtain ⟨l, sl, g, f⟩ := open_entries (hval 0 22 v0 rfl rfl) h0 (wts_each hsz (j := 0) rfl rfl)
  obtain ⟨leave, rfl⟩ := int_arg Tryz.underlying3 (hval 1 3 v1 rfl rfl)
  exact KeysAll_calls leave sl g f

noncomputable def allArgs : Array Value := #[.slice none 0 0, .int .i64 0]
noncomputable def settled (os : Os) : World := World.holding Tryz.prog os ⟨#[], #[], []⟩

theorem all_reads (os : Os) {H : Type} (enc : TypeId × Value → H) : ∃ places, DataW.whole enc Tryz.prog ((settled os).forCall (fun _ _ => 0) ⟨#[], allArgs, []⟩).memory Tryz.f5.params.toList Rows.keysAllSpec.vars false allArgs.toList 8 =
    some ([.nil, .lit (.int .i64 0)], [], places) :=
  ⟨[], by kernel_rfl⟩

set_option maxRecDepth 100000 in
theorem all_lifted (os : Os) (started : os.Started) (H : Type) (enc : TypeId × Value → H) (F : Stop.Interp) :
    ReturnsInHanded {} Tryz.checked os 5 .any ((OpenSpec.ofChange Rows.keysAllSpec).preRow enc Tryz.prog Tryz.f5 Rows.keysAllRow.domain false Rows.keysAllRow.laid) (((OpenSpec.ofChange Rows.keysAllSpec).at F).post enc Tryz.prog Tryz.f5 false true false false) := by
  obtain ⟨places, hx⟩ := all_reads os enc
  refine returnsInHanded_of_row (C := Tryz.checked) (s := OpenSpec.ofChange Rows.keysAllSpec) own started (by kernel_rfl) Tryz.func5
    (witness_row_at (enc := enc) (C := Tryz.checked) false (settled os) allArgs rfl (by kernel_rfl) (by kernel_rfl) (by kernel_rfl)
      (OpenSpec.preRow_of_cond 8 hx (by kernel_rfl) (fun k hk => by cases hk) (by kernel_rfl) (laidMetH_nil _ _))) ?_
  intro W base args ds gs before hval hW _ _ hsz _ _ _
  exact all_contract H enc W base args ds gs before hval hW hsz

theorem all_said : Rows.KeysAllSaid :=
  OpenClaim.holds_of_cond 5 Tryz.f5 rfl rfl rfl rfl rfl rfl rfl ⟨rfl, rfl, rfl, rfl, rfl⟩ rfl rfl rfl rfl rfl (by kernel_rfl) Tryz.func5 (by kernel_rfl)
    (of_decide_eq_true (by kernel_rfl)) (by unfold Func.isWrapper; first | (rw [if_pos (by decide +kernel)]; kernel_rfl) | (rw [if_neg (by decide +kernel)]; exact ⟨rfl, rfl⟩))
    (fun os started H enc _ F => by rw [OpenClaim.pre_eq_preRow]; exact all_lifted os started H enc F)
#print axioms all_said
end Go.Proofs.YtaffnlibmkcgiaaGreat
