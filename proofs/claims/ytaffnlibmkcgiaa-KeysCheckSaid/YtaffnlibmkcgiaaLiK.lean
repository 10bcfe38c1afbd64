/-
  KeysCheck: whether a thing may be, and whether two are the same, are told as the document says; for every two things.
-/
import Derived.Test.YtaffnlibmkcgiaaKO
import Derived.Test.YtaffnlibmkcgiaaRows
import Derived.Deep.DeepHandedRow
import Derived.ProofKit
namespace Go.Proofs.Ytaffnlibmkcgiaa
open Go Go.Sx Go.ChangeShapes Go.WideShapes Go.ChangeAt Go.RowKit

theorem own : ownKnob Try.prog.godebug = none := by kernel_rfl
theorem laidOut : laidOutB Try.prog = true := by kernel_rfl

theorem len2 {α : Type} {l : List α} (h : l.length = 2) : ∃ a b, l = [a, b] := by
  match l, h with
  | [a, b], _ => exact ⟨a, b, rfl⟩
theorem len7 {α : Type} {l : List α} (h : l.length = 7) : ∃ a0 a1 a2 a3 a4 a5 a6, l = [a0, a1, a2, a3, a4, a5, a6] := by
  match l, h with
  | [a0, a1, a2, a3, a4, a5, a6], _ => exact ⟨a0, a1, a2, a3, a4, a5, a6, rfl⟩
theorem check_spec (H : Type) {l : List (DataW H)} (h : l.length = 2) : Rows.keysCheckSpec.fn H l = { results := [.lit (.bool true)], args := l } := by
  obtain ⟨a, b, rfl⟩ := len2 h
  rfl

section
variable {H : Type} {enc : TypeId × Value → H} {W : World} {base n : Nat} {sp : Nat → Bool} {held : Bool} {cs : List Value} {x : DataW H × List MemPlace}

theorem trod_cell {P : Program} {t e : TypeId} {v : Value} {r : Reach} {b0 : Nat} (ht : P.underlying t = some (.slice e)) (hval : Value.okWide P W r b0 t v) (h : DataW.trod enc P W base sp held n t [v] = some x) : DataW.Trod enc P W base sp held t v x.1 x.2 := by
  refine ⟨n, ?_⟩
  have : v.cells.toList = [v] := by
    simp only [Value.okWide, Cell.okWide, Cell.ok, ht] at hval
    split at hval <;> simp_all [Value.cells]
  rw [this]; exact h

theorem open_rank (h : DataW.trod enc Try.prog W base sp held n 34 cs = some x) (hw : Wts Try.prog 34 x.1) : ∃ a : Rank, cs = encR a ∧ a.name.size < 1000000000000000000 := by
  obtain ⟨xs, m, rfl, hx, hl, hls, hi⟩ := DataW.trod_struct Try.underlying34 h
  have c9 : Try.prog.cellsOf 9 = 1 := by kernel_rfl
  have c2 : Try.prog.cellsOf 2 = 1 := by kernel_rfl
  have cc : Try.prog.cellsOf 34 = 2 := by kernel_rfl
  rw [cc] at hl
  obtain ⟨u, v, rfl⟩ := len2 hl
  obtain ⟨y, z, rfl⟩ := len2 (l := xs) hls
  have h0 := fld hi 0 9 0 1 rfl rfl rfl c9 rfl rfl
  have h1 := fld hi 1 2 1 1 rfl rfl rfl c2 rfl rfl
  have hw0 : Wts Try.prog 9 y.1 := by
    intro k hk
    refine hw k ?_
    rw [hx]
    simp only [DataW.weights, Try.underlying34, List.map_cons, List.map_nil, DataW.weightsEach, List.mem_append]
    exact .inl hk
  obtain ⟨nm, e0, hs⟩ := str_of_trod Try.underlying9 h0 hw0
  obtain ⟨k, e1, _, _⟩ := DataW.trod_int Try.underlying2 h1
  obtain ⟨rfl⟩ := e0
  obtain ⟨rfl⟩ := e1
  have := reachBytes_lt
  exact ⟨⟨nm, k⟩, rfl, by show nm.size < _; omega⟩

theorem open_pair (h : DataW.trod enc Try.prog W base sp held n 32 cs = some x) (hw : Wts Try.prog 32 x.1) : ∃ a : Pair, cs = encP a ∧ a.name.size < 1000000000000000000 ∧ a.text.size < 1000000000000000000 := by
  obtain ⟨xs, m, rfl, hx, hl, hls, hi⟩ := DataW.trod_struct Try.underlying32 h
  have c9 : Try.prog.cellsOf 9 = 1 := by kernel_rfl
  have cc : Try.prog.cellsOf 32 = 2 := by kernel_rfl
  rw [cc] at hl
  obtain ⟨u, v, rfl⟩ := len2 hl
  obtain ⟨y, z, rfl⟩ := len2 (l := xs) hls
  have h0 := fld hi 0 9 0 1 rfl rfl rfl c9 rfl rfl
  have h1 := fld hi 1 9 1 1 rfl rfl rfl c9 rfl rfl
  have hw0 : Wts Try.prog 9 y.1 := by
    intro k hk
    refine hw k ?_
    rw [hx]
    simp only [DataW.weights, Try.underlying32, List.map_cons, List.map_nil, DataW.weightsEach, List.mem_append]
    exact .inl hk
  have hw1 : Wts Try.prog 9 z.1 := by
    intro k hk
    refine hw k ?_
    rw [hx]
    simp only [DataW.weights, Try.underlying32, List.map_cons, List.map_nil, DataW.weightsEach, List.mem_append]
    exact .inr (.inl hk)
  obtain ⟨nm, e0, hs⟩ := str_of_trod Try.underlying9 h0 hw0
  obtain ⟨tx, e1, hs1⟩ := str_of_trod Try.underlying9 h1 hw1
  obtain ⟨rfl⟩ := e0
  obtain ⟨rfl⟩ := e1
  have := reachBytes_lt
  exact ⟨⟨nm, tx⟩, rfl, by show nm.size < _; omega, by show tx.size < _; omega⟩

theorem open_s (h : DataW.trod enc Try.prog W base sp held n 9 cs = some x) (hw : Wts Try.prog 9 x.1) : ∃ a : ByteArray, cs = encS a ∧ a.size < 1000000000000000000 := by
  obtain ⟨nm, e0, hs⟩ := str_of_trod Try.underlying9 h hw
  have := reachBytes_lt
  exact ⟨nm, e0, by omega⟩

set_option maxRecDepth 100000 in
theorem open_thing {v : Value} {d : DataW H} {ps : List MemPlace} {r : Reach} {b0 : Nat} (hval : Value.okWide Try.prog W r b0 27 v) (h : DataW.Trod enc Try.prog W base sp held 27 v d ps) (hw : Wts Try.prog 27 d) :
    ∃ (vs : List Value) (t : Thing), v = .agg ⟨vs⟩ ∧ TH W.heap vs t ∧ Fits t ∧ Sized t := by
  have hval' := hval
  unfold Value.okWide at hval'
  rw [Try.underlying27] at hval'
  obtain ⟨cs, rfl, hcs, ts, hts, _, hrow⟩ := hval'
  have ets : Try.prog.cellTypes Try.prog.depth 27 = some [22, 9, 23, 24, 25, 4, 2] := by kernel_rfl
  obtain rfl := Option.some.inj (ets.symm.trans hts)
  obtain ⟨fuel, h⟩ := h
  obtain ⟨xs, m, rfl, hx, hl, hls, hi⟩ := DataW.trod_struct Try.underlying27 h
  have hd : d = .agg (xs.map (·.1)) := congrArg Prod.fst hx
  have c9 : Try.prog.cellsOf 9 = 1 := by kernel_rfl
  have c2 : Try.prog.cellsOf 2 = 1 := by kernel_rfl
  have c4 : Try.prog.cellsOf 4 = 1 := by kernel_rfl
  have c22 : Try.prog.cellsOf 22 = 1 := by kernel_rfl
  have c23 : Try.prog.cellsOf 23 = 1 := by kernel_rfl
  have c24 : Try.prog.cellsOf 24 = 1 := by kernel_rfl
  have c25 : Try.prog.cellsOf 25 = 1 := by kernel_rfl
  have c27 : Try.prog.cellsOf 27 = 7 := by kernel_rfl
  obtain ⟨cs⟩ := cs
  rw [c27] at hcs
  obtain ⟨a0, a1, a2, a3, a4, a5, a6, rfl⟩ := len7 (l := cs) hcs
  obtain ⟨y0, y1, y2, y3, y4, y5, y6, rfl⟩ := len7 (l := xs) hls
  have h0 := fld hi 0 22 0 1 rfl rfl rfl c22 rfl rfl
  have h1 := fld hi 1 9 1 1 rfl rfl rfl c9 rfl rfl
  have h2 := fld hi 2 23 2 1 rfl rfl rfl c23 rfl rfl
  have h3 := fld hi 3 24 3 1 rfl rfl rfl c24 rfl rfl
  have h4 := fld hi 4 25 4 1 rfl rfl rfl c25 rfl rfl
  have h5 := fld hi 5 4 5 1 rfl rfl rfl c4 rfl rfl
  have h6 := fld hi 6 2 6 1 rfl rfl rfl c2 rfl rfl
  have hwk : ∀ (i t : Nat) (y : DataW H × List MemPlace), [22, 9, 23, 24, 25, 4, 2][i]? = some t → [y0, y1, y2, y3, y4, y5, y6][i]? = some y → Wts Try.prog t y.1 := by
    intro i t y ht hy k hk
    refine hw k ?_
    rw [hd]
    simp only [DataW.weights, Try.underlying27]
    refine DataW.weights_mem_each (j := i) (t := t) (d := y.1) ?_ ?_ k hk
    · exact ht
    · rw [List.getElem?_map, hy]; rfl
  have hok : ∀ (i t : Nat) (v : Value), [22, 9, 23, 24, 25, 4, 2][i]? = some t → [a0, a1, a2, a3, a4, a5, a6][i]? = some v → i < 7 → Cell.okWide Try.prog W r b0 t v := by
    intro i t v ht hv hi7
    obtain ⟨u, hu, hc⟩ := hrow i v (by simpa using hv)
    have e : i % [22, 9, 23, 24, 25, 4, 2].length = i := Nat.mod_eq_of_lt hi7
    rw [e, ht] at hu
    cases hu
    exact hc
  obtain ⟨kd, e0, _, _⟩ := DataW.trod_int Try.underlying22 h0
  obtain ⟨tx, e1, hs1⟩ := str_of_trod Try.underlying9 h1 (hwk 1 9 y1 rfl rfl)
  have v2 : Value.okWide Try.prog W r b0 23 a2 := by
    have := hok 2 23 a2 rfl rfl (by decide)
    simp only [Value.okWide, Try.underlying23]; exact this
  have v3 : Value.okWide Try.prog W r b0 24 a3 := by
    have := hok 3 24 a3 rfl rfl (by decide)
    simp only [Value.okWide, Try.underlying24]; exact this
  have v4 : Value.okWide Try.prog W r b0 25 a4 := by
    have := hok 4 25 a4 rfl rfl (by decide)
    simp only [Value.okWide, Try.underlying25]; exact this
  obtain ⟨lp, sp, gp, np⟩ := open_slice (k := 2) (en := encP) Try.underlying23 (by kernel_rfl) (by decide) encP_len (fun n cs x h hw => open_pair h hw) v2 (trod_cell Try.underlying23 v2 h2) (hwk 2 23 y2 rfl rfl)
  obtain ⟨ll, sl, gl, nl⟩ := open_slice (k := 1) (en := encS) Try.underlying24 (by kernel_rfl) (by decide) encS_len (fun n cs x h hw => open_s h hw) v3 (trod_cell Try.underlying24 v3 h3) (hwk 3 24 y3 rfl rfl)
  obtain ⟨lr, sr, gr, nr⟩ := open_slice (k := 2) (en := encR) Try.underlying25 (by kernel_rfl) (by decide) encR_len (fun n cs x h hw => open_rank h hw) v4 (trod_cell Try.underlying25 v4 h4) (hwk 4 25 y4 rfl rfl)
  obtain ⟨bu, e5, _⟩ := DataW.trod_bool Try.underlying4 h5
  obtain ⟨un, e6, _, _⟩ := DataW.trod_int Try.underlying2 h6
  obtain ⟨rfl⟩ := e0
  obtain ⟨rfl⟩ := e1
  obtain ⟨rfl⟩ := e5
  obtain ⟨rfl⟩ := e6
  have b32 : Try.prog.bytesOf 32 = 32 := by kernel_rfl
  have b9 : Try.prog.bytesOf 9 = 16 := by kernel_rfl
  have b34 : Try.prog.bytesOf 34 = 24 := by kernel_rfl
  rw [b32] at np
  rw [b9] at nl
  rw [b34] at nr
  have := reachBytes_lt
  refine ⟨_, ⟨kd, tx, lp, ll, lr, bu, un⟩, rfl, ⟨_, _, _, rfl, sp, sl, sr⟩, ⟨?_, ?_, ?_⟩, ⟨?_, gp, gl, gr⟩⟩
  · show lp.length < _; omega
  · show ll.length < _; omega
  · show lr.length < _; omega
  · show tx.size < _; omega
end

theorem check_row : Try.prog.readableRec 27 = true ∧ 27 < Try.prog.types.size := ⟨by kernel_rfl, of_decide_eq_true (by kernel_rfl)⟩
theorem check_params : ∀ t ∈ Try.f3.params.toList, Try.prog.readableRec t = true ∧ t < Try.prog.types.size := by
  rw [Try.params3]
  intro t ht
  have ht : t ∈ [27, 27] := ht
  have : t = 27 := by
    rcases List.mem_cons.1 ht with h | h
    · exact h
    · exact List.mem_singleton.1 h
  subst this; exact check_row

set_option maxRecDepth 100000 in
theorem check_contract (H : Type) (enc : TypeId × Value → H) (W : World) (base : Nat) (args : Array Value) (ds gs : List (DataW H)) (before : List MemPlace)
    (hval : ∀ (j : Nat) t v, Try.f3.params[j]? = some t → args[j]? = some v → Value.okWide Try.prog W .any base t v)
    (hW : DataW.Whole enc Try.prog Try.f3.params.toList Rows.keysCheckSpec.vars false W args.toList ds gs before)
    (hsz : (DataW.weightsEach Try.prog (Try.f3.params.toList ++ (OpenSpec.ofChange Rows.keysCheckSpec).bare.plain.varTypes Try.prog) (ds ++ gs)).all (· ≤ reachBytes) = true) :
    Calls Try.prog 3 args W fun e W' => ∃ v, e = .returned v ∧ Rows.keysCheckSpec.post enc Try.prog Try.f3 false true false false W args v W' := by
  refine lift_law (tb := 4) laidOut check_params rfl Try.underlying4 rfl
    (fun l hl => check_spec H (hl.trans (by rw [Try.params3]; rfl))) hW ?_
  obtain ⟨p, q, hA, hV, _, _, _⟩ := hW
  obtain ⟨rfl, rfl⟩ := trodVars_none hV
  rw [Try.params3] at hA hval hsz
  obtain ⟨v0, vs0, d0, ds0, p0, q0, hargs, rfl, rfl, h0, r0⟩ := trodAll_cons hA
  obtain ⟨v1, vs1, d1, ds1, p1, q1, rfl, rfl, rfl, h1, r1⟩ := trodAll_cons r0
  obtain ⟨rfl, rfl, rfl⟩ := trodAll_nil r1
  obtain rfl : args = #[v0, v1] := by cases args; simp_all
  obtain ⟨vs, a, rfl, xa, fa, sa⟩ := open_thing (hval 0 27 v0 rfl rfl) h0 (wts_each hsz (j := 0) rfl rfl)
  obtain ⟨us, b, rfl, xb, fb, sb⟩ := open_thing (hval 1 27 v1 rfl rfl) h1 (wts_each hsz (j := 1) rfl rfl)
  exact KeysCheck_calls xa xb fa fb sa sb

noncomputable def checkV : Value := .agg #[.int .i64 0, .string ByteArray.empty, .slice none 0 0, .slice none 0 0, .slice none 0 0, .bool false, .int .i64 0]
noncomputable def checkArgs : Array Value := #[checkV, checkV]
noncomputable def settled (os : Os) : World := World.holding Try.prog os ⟨#[], #[], []⟩

theorem check_reads (os : Os) {H : Type} (enc : TypeId × Value → H) : ∃ places, DataW.whole enc Try.prog ((settled os).forCall (fun _ _ => 0) ⟨#[], checkArgs, []⟩).memory Try.f3.params.toList Rows.keysCheckSpec.vars false checkArgs.toList 8 =
    some ([.agg [.lit (.int .i64 0), .lit (.string []), .nil, .nil, .nil, .lit (.bool false), .lit (.int .i64 0)], .agg [.lit (.int .i64 0), .lit (.string []), .nil, .nil, .nil, .lit (.bool false), .lit (.int .i64 0)]], [], places) :=
  ⟨[], by kernel_rfl⟩

set_option maxRecDepth 100000 in
theorem check_lifted (os : Os) (started : os.Started) (H : Type) (enc : TypeId × Value → H) (F : Stop.Interp) :
    ReturnsInHanded {} Try.checked os 3 .any ((OpenSpec.ofChange Rows.keysCheckSpec).preRow enc Try.prog Try.f3 Rows.keysCheckRow.domain false Rows.keysCheckRow.laid) (((OpenSpec.ofChange Rows.keysCheckSpec).at F).post enc Try.prog Try.f3 false true false false) := by
  obtain ⟨places, hx⟩ := check_reads os enc
  refine returnsInHanded_of_row (C := Try.checked) (s := OpenSpec.ofChange Rows.keysCheckSpec) own started (by kernel_rfl) Try.func3
    (witness_row_at (enc := enc) (C := Try.checked) false (settled os) checkArgs rfl (by kernel_rfl) (by kernel_rfl) (by kernel_rfl)
      (OpenSpec.preRow_of_cond 8 hx (by kernel_rfl) (fun k hk => by cases hk) (by kernel_rfl) (laidMetH_nil _ _))) ?_
  intro W base args ds gs before hval hW _ _ hsz _ _ _
  exact check_contract H enc W base args ds gs before hval hW hsz

theorem check_said : Rows.KeysCheckSaid :=
  OpenClaim.holds_of_cond 3 Try.f3 rfl rfl rfl rfl rfl rfl rfl ⟨rfl, rfl, rfl, rfl, rfl⟩ rfl rfl rfl rfl rfl (by kernel_rfl) Try.func3 (by kernel_rfl)
    (of_decide_eq_true (by kernel_rfl)) (by unfold Func.isWrapper; first | (rw [if_pos (by decide +kernel)]; kernel_rfl) | (rw [if_neg (by decide +kernel)]; exact ⟨rfl, rfl⟩))
    (fun os started H enc _ F => by rw [OpenClaim.pre_eq_preRow]; exact check_lifted os started H enc F)
#print axioms check_said
end Go.Proofs.Ytaffnlibmkcgiaa
