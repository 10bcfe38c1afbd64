/-
  Layer 7: things, entries and effects opened.
  BasicsDrops: what a gone thing costs that something is put in the place of; for every list of things, every time, every key.
-/
import Derived.Test.YtigolfakcblnjaaGreatDoorML
import Derived.Test.YtigolfakcblnjaaGreatDoorLW
import Derived.Test.YtigolfakcblnjaaGreatDoorSxV
import Derived.Deep.DeepHandedRow
import Derived.ProofKit
import Derived.Test.YtigolfakcblnjaaGreatDoorMA
namespace Go.Proofs.YtigolfakcblnjaaGreatDoor
open Go Go.Sx Go.ChangeShapes Go.WideShapes Go.ChangeAt Go.RowKit

theorem len2 {α : Type} {l : List α} (h : l.length = 2) : ∃ a b, l = [a, b] := by
  match l, h with
  | [a, b], _ => exact ⟨a, b, rfl⟩
theorem len7 {α : Type} {l : List α} (h : l.length = 7) : ∃ a0 a1 a2 a3 a4 a5 a6, l = [a0, a1, a2, a3, a4, a5, a6] := by
  match l, h with
  | [a0, a1, a2, a3, a4, a5, a6], _ => exact ⟨a0, a1, a2, a3, a4, a5, a6, rfl⟩
theorem len8 {α : Type} {l : List α} (h : l.length = 8) : ∃ a0 a1 a2 a3 a4 a5 a6 a7, l = [a0, a1, a2, a3, a4, a5, a6, a7] := by
  match l, h with
  | [a0, a1, a2, a3, a4, a5, a6, a7], _ => exact ⟨a0, a1, a2, a3, a4, a5, a6, a7, rfl⟩

section
variable {H : Type} {enc : TypeId × Value → H} {W : World} {base n : Nat} {sp : Nat → Bool} {held : Bool} {cs : List Value} {x : DataW H × List MemPlace}

theorem open_rank (h : DataW.trod enc Tryz.prog W base sp held n 124 cs = some x) (hw : Wts Tryz.prog 124 x.1) : ∃ a : Rank, cs = encR a ∧ a.name.size < 1000000000000000000 := by
  obtain ⟨xs, m, rfl, hx, hl, hls, hi⟩ := DataW.trod_struct Tryz.underlying124 h
  have c9 : Tryz.prog.cellsOf 9 = 1 := by kernel_rfl
  have c2 : Tryz.prog.cellsOf 2 = 1 := by kernel_rfl
  have cc : Tryz.prog.cellsOf 124 = 2 := by kernel_rfl
  rw [cc] at hl
  obtain ⟨u, v, rfl⟩ := len2 hl
  obtain ⟨y, z, rfl⟩ := len2 (l := xs) hls
  have h0 := fld hi 0 9 0 1 rfl rfl rfl c9 rfl rfl
  have h1 := fld hi 1 2 1 1 rfl rfl rfl c2 rfl rfl
  have hw0 : Wts Tryz.prog 9 y.1 := by
    intro k hk
    refine hw k ?_
    rw [hx]
    simp only [DataW.weights, Tryz.underlying124, List.map_cons, List.map_nil, DataW.weightsEach, List.mem_append]
    exact .inl hk
  obtain ⟨nm, e0, hs⟩ := str_of_trod Tryz.underlying9 h0 hw0
  obtain ⟨k, e1, _, _⟩ := DataW.trod_int Tryz.underlying2 h1
  obtain ⟨rfl⟩ := e0
  obtain ⟨rfl⟩ := e1
  have := reachBytes_lt
  exact ⟨⟨nm, k⟩, rfl, by show nm.size < _; omega⟩

theorem open_pair (h : DataW.trod enc Tryz.prog W base sp held n 122 cs = some x) (hw : Wts Tryz.prog 122 x.1) : ∃ a : Pair, cs = encP a ∧ a.name.size < 1000000000000000000 ∧ a.text.size < 1000000000000000000 := by
  obtain ⟨xs, m, rfl, hx, hl, hls, hi⟩ := DataW.trod_struct Tryz.underlying122 h
  have c9 : Tryz.prog.cellsOf 9 = 1 := by kernel_rfl
  have cc : Tryz.prog.cellsOf 122 = 2 := by kernel_rfl
  rw [cc] at hl
  obtain ⟨u, v, rfl⟩ := len2 hl
  obtain ⟨y, z, rfl⟩ := len2 (l := xs) hls
  have h0 := fld hi 0 9 0 1 rfl rfl rfl c9 rfl rfl
  have h1 := fld hi 1 9 1 1 rfl rfl rfl c9 rfl rfl
  have hw0 : Wts Tryz.prog 9 y.1 := by
    intro k hk
    refine hw k ?_
    rw [hx]
    simp only [DataW.weights, Tryz.underlying122, List.map_cons, List.map_nil, DataW.weightsEach, List.mem_append]
    exact .inl hk
  have hw1 : Wts Tryz.prog 9 z.1 := by
    intro k hk
    refine hw k ?_
    rw [hx]
    simp only [DataW.weights, Tryz.underlying122, List.map_cons, List.map_nil, DataW.weightsEach, List.mem_append]
    exact .inr (.inl hk)
  obtain ⟨nm, e0, hs⟩ := str_of_trod Tryz.underlying9 h0 hw0
  obtain ⟨tx, e1, hs1⟩ := str_of_trod Tryz.underlying9 h1 hw1
  obtain ⟨rfl⟩ := e0
  obtain ⟨rfl⟩ := e1
  have := reachBytes_lt
  exact ⟨⟨nm, tx⟩, rfl, by show nm.size < _; omega, by show tx.size < _; omega⟩

theorem open_s (h : DataW.trod enc Tryz.prog W base sp held n 9 cs = some x) (hw : Wts Tryz.prog 9 x.1) : ∃ a : ByteArray, cs = encS a ∧ a.size < 1000000000000000000 := by
  obtain ⟨nm, e0, hs⟩ := str_of_trod Tryz.underlying9 h hw
  have := reachBytes_lt
  exact ⟨nm, e0, by omega⟩

set_option maxRecDepth 100000 in
theorem open_thing (h : DataW.trod enc Tryz.prog W base sp held n 45 cs = some x) (hw : Wts Tryz.prog 45 x.1) :
    ∃ t : Thing, TH W.heap cs t ∧ Fits t ∧ Sized t ∧ cs.length = 7 := by
  obtain ⟨xs, m, rfl, hx, hl, hls, hi⟩ := DataW.trod_struct Tryz.underlying45 h
  have hd : x.1 = .agg (xs.map (·.1)) := congrArg Prod.fst hx
  have c9 : Tryz.prog.cellsOf 9 = 1 := by kernel_rfl
  have c2 : Tryz.prog.cellsOf 2 = 1 := by kernel_rfl
  have c4 : Tryz.prog.cellsOf 4 = 1 := by kernel_rfl
  have c22 : Tryz.prog.cellsOf 41 = 1 := by kernel_rfl
  have c23 : Tryz.prog.cellsOf 42 = 1 := by kernel_rfl
  have c24 : Tryz.prog.cellsOf 26 = 1 := by kernel_rfl
  have c25 : Tryz.prog.cellsOf 43 = 1 := by kernel_rfl
  have c27 : Tryz.prog.cellsOf 45 = 7 := by kernel_rfl
  rw [c27] at hl
  obtain ⟨a0, a1, a2, a3, a4, a5, a6, rfl⟩ := len7 hl
  obtain ⟨y0, y1, y2, y3, y4, y5, y6, rfl⟩ := len7 (l := xs) hls
  have h0 := fld hi 0 41 0 1 rfl rfl rfl c22 rfl rfl
  have h1 := fld hi 1 9 1 1 rfl rfl rfl c9 rfl rfl
  have h2 := fld hi 2 42 2 1 rfl rfl rfl c23 rfl rfl
  have h3 := fld hi 3 26 3 1 rfl rfl rfl c24 rfl rfl
  have h4 := fld hi 4 43 4 1 rfl rfl rfl c25 rfl rfl
  have h5 := fld hi 5 4 5 1 rfl rfl rfl c4 rfl rfl
  have h6 := fld hi 6 2 6 1 rfl rfl rfl c2 rfl rfl
  have hwk : ∀ (i t : Nat) (y : DataW H × List MemPlace), [41, 9, 42, 26, 43, 4, 2][i]? = some t → [y0, y1, y2, y3, y4, y5, y6][i]? = some y → Wts Tryz.prog t y.1 := by
    intro i t y ht hy k hk
    refine hw k ?_
    rw [hd]
    simp only [DataW.weights, Tryz.underlying45]
    refine DataW.weights_mem_each (j := i) (t := t) (d := y.1) ?_ ?_ k hk
    · exact ht
    · rw [List.getElem?_map, hy]; rfl
  obtain ⟨kd, e0, _, _⟩ := DataW.trod_int Tryz.underlying41 h0
  obtain ⟨tx, e1, hs1⟩ := str_of_trod Tryz.underlying9 h1 (hwk 1 9 y1 rfl rfl)
  obtain ⟨lp, sp, gp, np⟩ := open_cell (k := 2) (en := encP) Tryz.underlying42 (by kernel_rfl) (by decide) encP_len (fun n cs x h hw => open_pair h hw) h2 (hwk 2 42 y2 rfl rfl)
  obtain ⟨ll, sl, gl, nl⟩ := open_cell (k := 1) (en := encS) Tryz.underlying26 (by kernel_rfl) (by decide) encS_len (fun n cs x h hw => open_s h hw) h3 (hwk 3 26 y3 rfl rfl)
  obtain ⟨lr, sr, gr, nr⟩ := open_cell (k := 2) (en := encR) Tryz.underlying43 (by kernel_rfl) (by decide) encR_len (fun n cs x h hw => open_rank h hw) h4 (hwk 4 43 y4 rfl rfl)
  obtain ⟨bu, e5, _⟩ := DataW.trod_bool Tryz.underlying4 h5
  obtain ⟨un, e6, _, _⟩ := DataW.trod_int Tryz.underlying2 h6
  obtain ⟨rfl⟩ := e0
  obtain ⟨rfl⟩ := e1
  obtain ⟨rfl⟩ := e5
  obtain ⟨rfl⟩ := e6
  have b32 : Tryz.prog.bytesOf 122 = 32 := by kernel_rfl
  have b9 : Tryz.prog.bytesOf 9 = 16 := by kernel_rfl
  have b34 : Tryz.prog.bytesOf 124 = 24 := by kernel_rfl
  rw [b32] at np
  rw [b9] at nl
  rw [b34] at nr
  have := reachBytes_lt
  refine ⟨⟨kd, tx, lp, ll, lr, bu, un⟩, ⟨_, _, _, rfl, sp, sl, sr⟩, ⟨?_, ?_, ?_⟩, ⟨?_, gp, gl, gr⟩, rfl⟩
  · show lp.length < _; omega
  · show ll.length < _; omega
  · show lr.length < _; omega
  · show tx.size < _; omega

/-- What is known of an entry that came in. -/
structure GoodX (h : Heap) (x : RX) : Prop where
  th : TH h x.vs x.thing
  fits : Fits x.thing
  sized : Sized x.thing
  key : x.key.size < 1000000000000000000

set_option maxRecDepth 100000 in
theorem open_entry (h : DataW.trod enc Tryz.prog W base sp held n 47 cs = some x) (hw : Wts Tryz.prog 47 x.1) : ∃ a : RX, cs = encX a ∧ GoodX W.heap a := by
  obtain ⟨xs, m, rfl, hx, hl, hls, hi⟩ := DataW.trod_struct Tryz.underlying47 h
  have hd : x.1 = .agg (xs.map (·.1)) := congrArg Prod.fst hx
  have c9 : Tryz.prog.cellsOf 9 = 1 := by kernel_rfl
  have c7 : Tryz.prog.cellsOf 45 = 7 := by kernel_rfl
  have cc : Tryz.prog.cellsOf 47 = 8 := by kernel_rfl
  rw [cc] at hl
  obtain ⟨k0, a0, a1, a2, a3, a4, a5, a6, rfl⟩ := len8 hl
  obtain ⟨y, z, rfl⟩ := len2 (l := xs) hls
  have h0 := fld hi 0 9 0 1 rfl rfl rfl c9 rfl rfl
  have h1 := fld hi 1 45 1 7 rfl rfl rfl c7 rfl rfl
  have hwk : ∀ (i t : Nat) (w : DataW H × List MemPlace), [9, 45][i]? = some t → [y, z][i]? = some w → Wts Tryz.prog t w.1 := by
    intro i t y ht hy k hk
    refine hw k ?_
    rw [hd]
    simp only [DataW.weights, Tryz.underlying47]
    refine DataW.weights_mem_each (j := i) (t := t) (d := y.1) ?_ ?_ k hk
    · exact ht
    · rw [List.getElem?_map, hy]; rfl
  obtain ⟨key, e0, hz⟩ := str_of_trod Tryz.underlying9 h0 (hwk 0 9 y rfl rfl)
  obtain ⟨t, th, ft, st, hl7⟩ := open_thing h1 (hwk 1 45 z rfl rfl)
  obtain ⟨rfl⟩ := e0
  have := reachBytes_lt
  exact ⟨⟨key, t, _, hl7, thing_one th⟩, rfl, th, ft, st, by show key.size < _; omega⟩

set_option maxRecDepth 100000 in
theorem open_entries {v : Value} {d : DataW H} {ps : List MemPlace} {r : Reach} {b0 : Nat} (hval : Value.okWide Tryz.prog W r b0 48 v) (h : DataW.Trod enc Tryz.prog W base sp held 48 v d ps) (hw : Wts Tryz.prog 48 d) :
    ∃ l : List RX, SL encX W.heap v l ∧ GX W.heap l ∧ XFit l := by
  obtain ⟨n, hn⟩ := cell_arg Tryz.underlying48 hval h
  obtain ⟨l, sl, g, nl⟩ := open_cell (k := 8) (en := encX) Tryz.underlying48 (by kernel_rfl) (by decide) encX_len (fun n cs x h hw => open_entry h hw) hn hw
  have b : Tryz.prog.bytesOf 47 = 128 := by kernel_rfl
  rw [b] at nl
  have := reachBytes_lt
  exact ⟨l, sl, fun x hx => (g x hx).th, ⟨by omega, fun x hx => by have := (g x hx).key; omega, fun x hx => (g x hx).fits, fun x hx => (g x hx).sized⟩⟩

end

end Go.Proofs.YtigolfakcblnjaaGreatDoor
namespace Go.Proofs.YtigolfakcblnjaaGreatDoor
open Go Go.Sx Go.ChangeShapes Go.WideShapes Go.ChangeAt Go.RowKit

theorem bd_params : ∀ t ∈ Tryz.f8.params.toList, Tryz.prog.readableRec t = true ∧ t < Tryz.prog.types.size := by
  rw [Tryz.params8]
  intro t ht
  have ht : t ∈ [48, 2, 9] := ht
  rcases List.mem_cons.1 ht with h | h
  · subst h; exact ⟨by kernel_rfl, of_decide_eq_true (by kernel_rfl)⟩
  rcases List.mem_cons.1 h with h | h
  · subst h; exact ⟨by kernel_rfl, of_decide_eq_true (by kernel_rfl)⟩
  have h := List.mem_singleton.1 h
  subst h; exact ⟨by kernel_rfl, of_decide_eq_true (by kernel_rfl)⟩

set_option maxRecDepth 100000 in
theorem bd_law (H : Type) (enc : TypeId × Value → H) (W : World) (base : Nat) (args : Array Value) (ds gs : List (DataW H)) (before : List MemPlace)
    (hval : ∀ (j : Nat) t v, Tryz.f8.params[j]? = some t → args[j]? = some v → Value.okWide Tryz.prog W .any base t v)
    (hW : DataW.Whole enc Tryz.prog Tryz.f8.params.toList Rows.basicsDropsSpec.vars false W args.toList ds gs before)
    (hsz : (DataW.weightsEach Tryz.prog (Tryz.f8.params.toList ++ (OpenSpec.ofChange Rows.basicsDropsSpec).bare.plain.varTypes Tryz.prog) (ds ++ gs)).all (· ≤ reachBytes) = true) :
    Calls Tryz.prog 8 args W fun e W' => ∃ v, e = .returned v ∧ Rows.basicsDropsSpec.post enc Tryz.prog Tryz.f8 false true false false W args v W' := by
  refine lift_law (tb := 4) laidOut bd_params rfl Tryz.underlying4 rfl
    (fun l hl => by
      rw [Tryz.params8] at hl
      match l, hl with
      | [_, _, _], _ => rfl) hW ?_
  obtain ⟨p, q, hA, hV, _, _, _⟩ := hW
  obtain ⟨rfl, rfl⟩ := trodVars_none hV
  rw [Tryz.params8] at hA hval hsz
  obtain ⟨v0, vs0, d0, ds0, p0, q0, hargs, rfl, rfl, h0, r0⟩ := trodAll_cons hA
  obtain ⟨v1, vs1, d1, ds1, p1, q1, rfl, rfl, rfl, h1, r1⟩ := trodAll_cons r0
  obtain ⟨v2, vs2, d2, ds2, p2, q2, rfl, rfl, rfl, h2, r2⟩ := trodAll_cons r1
  obtain ⟨rfl, rfl, rfl⟩ := trodAll_nil r2
  obtain rfl : args = #[v0, v1, v2] := by cases args; simp_all
  obtain ⟨l, sl, g, f⟩ := open_entries (hval 0 48 v0 rfl rfl) h0 (wts_each hsz (j := 0) rfl rfl)
  obtain ⟨now, rfl⟩ := int_arg Tryz.underlying2 (hval 1 2 v1 rfl rfl)
  obtain ⟨s, rfl⟩ := str_arg Tryz.underlying9 (hval 2 9 v2 rfl rfl)
  obtain ⟨n2, h2⟩ := h2
  obtain ⟨nm, e0, z⟩ := str_of_trod Tryz.underlying9 h2 (wts_each hsz (j := 2) rfl rfl)
  have e0 : [Value.string s] = [Value.string nm] := e0
  injection e0 with e0 _
  injection e0 with e0
  subst e0
  have := reachBytes_lt
  exact BasicsDrops_calls sl g f (by omega)

noncomputable def bdArgs : Array Value := #[.slice none 0 0, .int .i64 0, .string ByteArray.empty]

theorem bd_reads (os : Os) {H : Type} (enc : TypeId × Value → H) : ∃ places, DataW.whole enc Tryz.prog ((laidWorld os).forCall (fun _ _ => 0) ⟨#[], bdArgs, []⟩).memory Tryz.f8.params.toList Rows.basicsDropsSpec.vars false bdArgs.toList 8 =
    some ([.nil, .lit (.int .i64 0), .lit (.string [])], [], places) :=
  ⟨[], by kernel_rfl⟩

set_option maxRecDepth 100000 in
theorem bd_lifted (os : Os) (started : os.Started) (H : Type) (enc : TypeId × Value → H) (F : Stop.Interp) :
    ReturnsInHanded {} Tryz.checked os 8 .any ((OpenSpec.ofChange Rows.basicsDropsSpec).preRow enc Tryz.prog Tryz.f8 Rows.basicsDropsRow.domain false Rows.basicsDropsRow.laid) (((OpenSpec.ofChange Rows.basicsDropsSpec).at F).post enc Tryz.prog Tryz.f8 false true false false) := by
  obtain ⟨places, hx⟩ := bd_reads os enc
  refine returnsInHanded_of_row (C := Tryz.checked) (s := OpenSpec.ofChange Rows.basicsDropsSpec) own started (by kernel_rfl) Tryz.func8
    (witness_row_at (enc := enc) (C := Tryz.checked) false (laidWorld os) bdArgs rfl (by kernel_rfl) (by kernel_rfl) (by kernel_rfl)
      (OpenSpec.preRow_of_cond 8 hx (by kernel_rfl) (fun k hk => by cases hk) (by kernel_rfl) (laid_met os bdArgs))) ?_
  intro W base args ds gs before hval hW _ _ hsz _ _ _
  exact bd_law H enc W base args ds gs before hval hW hsz

theorem bd_said : Rows.BasicsDropsSaid :=
  OpenClaim.holds_of_cond 8 Tryz.f8 rfl rfl rfl rfl rfl rfl rfl ⟨rfl, rfl, rfl, rfl, rfl⟩ rfl rfl rfl rfl rfl (by kernel_rfl) Tryz.func8 (by kernel_rfl)
    (of_decide_eq_true (by kernel_rfl)) (by unfold Func.isWrapper; first | (rw [if_pos (by decide +kernel)]; kernel_rfl) | (rw [if_neg (by decide +kernel)]; exact ⟨rfl, rfl⟩))
    (fun os started H enc _ F => by rw [OpenClaim.pre_eq_preRow]; exact bd_lifted os started H enc F)

theorem bd_plain (f : FuncId) (fn : Func) (hf : Tryz.pinned.checked.prog.funcNamed "tabor/taborlaw08.BasicsDrops" = some f) (hfn : Tryz.pinned.checked.prog.funcs[f]? = some fn) :
    true = Tryz.pinned.checked.prog.looks [] ∧ ∀ (j : Nat) t, fn.params[j]? = some t → Tryz.pinned.checked.prog.wantsStandIn t = false := by
  obtain rfl : f = 8 := Option.some.inj ((show Tryz.prog.funcNamed "tabor/taborlaw08.BasicsDrops" = some 8 by kernel_rfl).symm.trans hf) |>.symm
  obtain rfl : fn = Tryz.f8 := (Option.some.inj (Tryz.func8.symm.trans hfn)).symm
  refine ⟨by kernel_rfl, fun j t ht => ?_⟩
  rw [Tryz.params8] at ht
  have ht : t ∈ [48, 2, 9] := by simpa using Array.mem_of_getElem? ht
  rcases List.mem_cons.1 ht with h | h
  · subst h; exact (show Tryz.prog.wantsStandIn 48 = false by kernel_rfl)
  rcases List.mem_cons.1 h with h | h
  · subst h; exact (show Tryz.prog.wantsStandIn 2 = false by kernel_rfl)
  have h := List.mem_singleton.1 h
  subst h; exact (show Tryz.prog.wantsStandIn 9 = false by kernel_rfl)

/-- THE CARD. -/
theorem bd_card : Rows.BasicsDropsCardSaid :=
  Claim7.holds_tied_plain_at .later [] _ _ _ _ bd_said (fun _ h => by cases h) (by kernel_rfl) (fun _ h => by cases h) basicsDrops_row_tie rfl ⟨rfl, rfl⟩ (by kernel_rfl) rfl bd_plain (by kernel_rfl)
#print axioms bd_card
end Go.Proofs.YtigolfakcblnjaaGreatDoor
