/-
  RanksTells: the score, the rank of a Name, and which members are within ranks, within scores, are told as the document says; for every input.
-/
import Derived.Test.YtlghcmdaijfdlaaDoorLiA
namespace Go.Proofs.YtlghcmdaijfdlaaDoor
open Go Go.Sx Go.ChangeShapes Go.WideShapes Go.ChangeAt Go.RowKit

theorem open_ask {H : Type} {enc : TypeId × Value → H} {W : World} {base b0 : Nat} {r : Reach} {sp : Nat → Bool} {held : Bool} {v : Value} {d : DataW H} {ps : List MemPlace} (hval : Value.okWide Tryd.prog W r b0 24 v) (h : DataW.Trod enc Tryd.prog W base sp held 24 v d ps) :
    ∃ (nm : ByteArray) (f u le mo : Int), v = .agg ⟨[.string nm, .int .i64 f, .int .i64 u, .int .i64 le, .int .i64 mo]⟩ := by
  obtain ⟨cs, rfl, hcs⟩ := okWide_struct Tryd.underlying24 hval
  obtain ⟨fuel, h⟩ := h
  obtain ⟨xs, m, rfl, hx, hl, hls, hi⟩ := DataW.trod_struct Tryd.underlying24 h
  have c9 : Tryd.prog.cellsOf 9 = 1 := by kernel_rfl
  have c3 : Tryd.prog.cellsOf 3 = 1 := by kernel_rfl
  have c2 : Tryd.prog.cellsOf 2 = 1 := by kernel_rfl
  have c24 : Tryd.prog.cellsOf 24 = 5 := by kernel_rfl
  obtain ⟨cs⟩ := cs
  rw [c24] at hcs
  obtain ⟨a, b, c, d, e, rfl⟩ : ∃ a b c d e, cs = [a, b, c, d, e] := by
    match cs, hcs with
    | [a, b, c, d, e], _ => exact ⟨a, b, c, d, e, rfl⟩
  obtain ⟨y0, y1, y2, y3, y4, rfl⟩ : ∃ y0 y1 y2 y3 y4, xs = [y0, y1, y2, y3, y4] := by
    match xs, hls with
    | [y0, y1, y2, y3, y4], _ => exact ⟨y0, y1, y2, y3, y4, rfl⟩
  have h0 := fld hi 0 9 0 1 rfl rfl rfl c9 rfl rfl
  have h1 := fld hi 1 3 1 1 rfl rfl rfl c3 rfl rfl
  have h2 := fld hi 2 3 2 1 rfl rfl rfl c3 rfl rfl
  have h3 := fld hi 3 2 3 1 rfl rfl rfl c2 rfl rfl
  have h4 := fld hi 4 2 4 1 rfl rfl rfl c2 rfl rfl
  obtain ⟨nm, e0, _⟩ := DataW.trod_string Tryd.underlying9 h0
  obtain ⟨f, e1, _, _⟩ := DataW.trod_int Tryd.underlying3 h1
  obtain ⟨u, e2, _, _⟩ := DataW.trod_int Tryd.underlying3 h2
  obtain ⟨le, e3, _, _⟩ := DataW.trod_int Tryd.underlying2 h3
  obtain ⟨mo, e4, _, _⟩ := DataW.trod_int Tryd.underlying2 h4
  obtain ⟨rfl⟩ := e0
  obtain ⟨rfl⟩ := e1
  obtain ⟨rfl⟩ := e2
  obtain ⟨rfl⟩ := e3
  obtain ⟨rfl⟩ := e4
  exact ⟨nm, f, u, le, mo, rfl⟩

theorem tells_contract (H : Type) (enc : TypeId × Value → H) (W : World) (base : Nat) (args : Array Value) (ds gs : List (DataW H)) (before : List MemPlace)
    (hval : ∀ (j : Nat) t v, Tryd.f3.params[j]? = some t → args[j]? = some v → Value.okWide Tryd.prog W .any base t v)
    (hW : DataW.Whole enc Tryd.prog Tryd.f3.params.toList Rows.ranksTellsSpec.vars false W args.toList ds gs before)
    (hsz : (DataW.weightsEach Tryd.prog (Tryd.f3.params.toList ++ (OpenSpec.ofChange Rows.ranksTellsSpec).bare.plain.varTypes Tryd.prog) (ds ++ gs)).all (· ≤ reachBytes) = true)
    (hL : laidMetH Tryd.prog laid2 W) :
    Calls Tryd.prog 3 args W fun e W' => ∃ v, e = .returned v ∧ Rows.ranksTellsSpec.post enc Tryd.prog Tryd.f3 false true false false W args v W' := by
  refine lift_law (tb := 4) laidOut (by rw [Tryd.params3]; intro t ht; have : t = 22 ∨ t = 24 := by simpa using ht
                                        rcases this with rfl | rfl <;> exact ⟨by kernel_rfl, of_decide_eq_true (by kernel_rfl)⟩) rfl Tryd.underlying4 rfl
    (fun l hl => by
      match l, hl with
      | [_, _], _ => rfl) hW ?_
  obtain ⟨p, q, hA, hV, _, _, _⟩ := hW
  obtain ⟨rfl, rfl⟩ := trodVars_none hV
  rw [Tryd.params3] at hA hval hsz
  obtain ⟨v0, vs0, d0, ds0, p0, q0, hargs, rfl, rfl, h0, r0⟩ := trodAll_cons hA
  obtain ⟨v1, vs1, d1, ds1, p1, q1, rfl, rfl, rfl, h1, r1⟩ := trodAll_cons r0
  obtain ⟨rfl, rfl, rfl⟩ := trodAll_nil r1
  obtain rfl : args = #[v0, v1] := by cases args; simp_all
  obtain ⟨l, hl, hn, hlen⟩ := open_ranks (hval 0 22 v0 rfl rfl) h0 (wts_each hsz (j := 0) rfl rfl)
  obtain ⟨nm, f, u, le, mo, rfl⟩ := open_ask (hval 1 24 v1 rfl rfl) h1
  exact tells_calls hl hlen hn (tab_of hL) nm f u le mo

noncomputable def tellsArgs : Array Value := #[.slice none 0 0, .agg #[.string ByteArray.empty, .int .i64 0, .int .i64 0, .int .i64 0, .int .i64 0]]

theorem tells_reads (os : Os) {H : Type} (enc : TypeId × Value → H) : ∃ places, DataW.whole enc Tryd.prog ((laidWorld os).forCall (fun _ _ => 0) ⟨#[], tellsArgs, []⟩).memory Tryd.f3.params.toList Rows.ranksTellsSpec.vars false tellsArgs.toList 8 =
    some ([.nil, .agg [.lit (.string []), .lit (.int .i64 0), .lit (.int .i64 0), .lit (.int .i64 0), .lit (.int .i64 0)]], [], places) :=
  ⟨[], by kernel_rfl⟩

set_option maxRecDepth 100000 in
theorem tells_lifted (os : Os) (started : os.Started) (H : Type) (enc : TypeId × Value → H) (F : Stop.Interp) :
    ReturnsInHanded {} Tryd.checked os 3 .any ((OpenSpec.ofChange Rows.ranksTellsSpec).preRow enc Tryd.prog Tryd.f3 Rows.ranksTellsRow.domain false Rows.ranksTellsRow.laid) (((OpenSpec.ofChange Rows.ranksTellsSpec).at F).post enc Tryd.prog Tryd.f3 false true false false) := by
  obtain ⟨places, hx⟩ := tells_reads os enc
  refine returnsInHanded_of_row (C := Tryd.checked) (s := OpenSpec.ofChange Rows.ranksTellsSpec) own started (by kernel_rfl) Tryd.func3
    (witness_row_at (enc := enc) (C := Tryd.checked) false (laidWorld os) tellsArgs rfl (by kernel_rfl) (by kernel_rfl) (by kernel_rfl)
      (OpenSpec.preRow_of_cond 8 hx (by kernel_rfl) (fun k hk => by cases hk) (by kernel_rfl) (laid_met os tellsArgs))) ?_
  intro W base args ds gs before hval hW _ _ hsz hL _ _
  exact tells_contract H enc W base args ds gs before hval hW hsz hL

theorem tells_said : Rows.RanksTellsSaid :=
  OpenClaim.holds_of_cond 3 Tryd.f3 rfl rfl rfl rfl rfl rfl rfl ⟨rfl, rfl, rfl, rfl, rfl⟩ rfl rfl rfl rfl rfl (by kernel_rfl) Tryd.func3 (by kernel_rfl)
    (of_decide_eq_true (by kernel_rfl)) (by unfold Func.isWrapper; first | (rw [if_pos (by decide +kernel)]; kernel_rfl) | (rw [if_neg (by decide +kernel)]; exact ⟨rfl, rfl⟩))
    (fun os started H enc _ F => by rw [OpenClaim.pre_eq_preRow]; exact tells_lifted os started H enc F)

theorem tells_plain (f : FuncId) (fn : Func) (hf : Tryd.pinned.checked.prog.funcNamed "tabor/taborlaw05.RanksTells" = some f) (hfn : Tryd.pinned.checked.prog.funcs[f]? = some fn) :
    false = Tryd.pinned.checked.prog.looks [] ∧ ∀ (j : Nat) t, fn.params[j]? = some t → Tryd.pinned.checked.prog.wantsStandIn t = false := by
  obtain rfl : f = 3 := Option.some.inj ((show Tryd.prog.funcNamed "tabor/taborlaw05.RanksTells" = some 3 by kernel_rfl).symm.trans hf) |>.symm
  obtain rfl : fn = Tryd.f3 := (Option.some.inj (Tryd.func3.symm.trans hfn)).symm
  refine ⟨by kernel_rfl, fun j t ht => ?_⟩
  rw [Tryd.params3] at ht
  have : t = 22 ∨ t = 24 := by simpa using Array.mem_of_getElem? ht
  rcases this with rfl | rfl
  · exact (show Tryd.prog.wantsStandIn 22 = false by kernel_rfl)
  · exact (show Tryd.prog.wantsStandIn 24 = false by kernel_rfl)

/-- THE CARD. -/
theorem tells_card : Rows.RanksTellsCardSaid :=
  Claim7.holds_tied_plain_at .later [] _ _ _ _ tells_said (fun _ h => by cases h) (by kernel_rfl) (fun _ h => by cases h) ranksTells_row_tie rfl ⟨rfl, rfl⟩ (by kernel_rfl) rfl tells_plain (by kernel_rfl)
#print axioms tells_card
end Go.Proofs.YtlghcmdaijfdlaaDoor
