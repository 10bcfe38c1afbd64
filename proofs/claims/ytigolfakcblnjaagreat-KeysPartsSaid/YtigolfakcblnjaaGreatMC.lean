/-
  Layer 7: things, entries and effects opened.
  KeysParts: effects done in two parts are the effects done, and what is done on a copy is not done on the other one; for all lists of things, of effects, every place.
-/
import Derived.Test.YtigolfakcblnjaaGreatKX
import Derived.Test.YtigolfakcblnjaaGreatSxV
import Derived.Deep.DeepHandedRow
import Derived.ProofKit
import Derived.Test.YtigolfakcblnjaaGreatMA
import Derived.Test.YtigolfakcblnjaaGreatRows
namespace Go.Proofs.YtigolfakcblnjaaGreat
open Go Go.Sx Go.ChangeShapes Go.WideShapes Go.ChangeAt Go.RowKit

theorem own : ownKnob Tryz.prog.godebug = none := by kernel_rfl
theorem laidOut : laidOutB Tryz.prog = true := by kernel_rfl

theorem len2 {α : Type} {l : List α} (h : l.length = 2) : ∃ a b, l = [a, b] := by
  match l, h with
  | [a, b], _ => exact ⟨a, b, rfl⟩
theorem len5 {α : Type} {l : List α} (h : l.length = 5) : ∃ a0 a1 a2 a3 a4, l = [a0, a1, a2, a3, a4] := by
  match l, h with
  | [a0, a1, a2, a3, a4], _ => exact ⟨a0, a1, a2, a3, a4, rfl⟩
theorem len7 {α : Type} {l : List α} (h : l.length = 7) : ∃ a0 a1 a2 a3 a4 a5 a6, l = [a0, a1, a2, a3, a4, a5, a6] := by
  match l, h with
  | [a0, a1, a2, a3, a4, a5, a6], _ => exact ⟨a0, a1, a2, a3, a4, a5, a6, rfl⟩
theorem len8 {α : Type} {l : List α} (h : l.length = 8) : ∃ a0 a1 a2 a3 a4 a5 a6 a7, l = [a0, a1, a2, a3, a4, a5, a6, a7] := by
  match l, h with
  | [a0, a1, a2, a3, a4, a5, a6, a7], _ => exact ⟨a0, a1, a2, a3, a4, a5, a6, a7, rfl⟩

section
variable {H : Type} {enc : TypeId × Value → H} {W : World} {base n : Nat} {sp : Nat → Bool} {held : Bool} {cs : List Value} {x : DataW H × List MemPlace}

theorem open_rank (h : DataW.trod enc Tryz.prog W base sp held n 68 cs = some x) (hw : Wts Tryz.prog 68 x.1) : ∃ a : Rank, cs = encR a ∧ a.name.size < 1000000000000000000 := by
  obtain ⟨xs, m, rfl, hx, hl, hls, hi⟩ := DataW.trod_struct Tryz.underlying68 h
  have c9 : Tryz.prog.cellsOf 9 = 1 := by kernel_rfl
  have c2 : Tryz.prog.cellsOf 2 = 1 := by kernel_rfl
  have cc : Tryz.prog.cellsOf 68 = 2 := by kernel_rfl
  rw [cc] at hl
  obtain ⟨u, v, rfl⟩ := len2 hl
  obtain ⟨y, z, rfl⟩ := len2 (l := xs) hls
  have h0 := fld hi 0 9 0 1 rfl rfl rfl c9 rfl rfl
  have h1 := fld hi 1 2 1 1 rfl rfl rfl c2 rfl rfl
  have hw0 : Wts Tryz.prog 9 y.1 := by
    intro k hk
    refine hw k ?_
    rw [hx]
    simp only [DataW.weights, Tryz.underlying68, List.map_cons, List.map_nil, DataW.weightsEach, List.mem_append]
    exact .inl hk
  obtain ⟨nm, e0, hs⟩ := str_of_trod Tryz.underlying9 h0 hw0
  obtain ⟨k, e1, _, _⟩ := DataW.trod_int Tryz.underlying2 h1
  obtain ⟨rfl⟩ := e0
  obtain ⟨rfl⟩ := e1
  have := reachBytes_lt
  exact ⟨⟨nm, k⟩, rfl, by show nm.size < _; omega⟩

theorem open_pair (h : DataW.trod enc Tryz.prog W base sp held n 66 cs = some x) (hw : Wts Tryz.prog 66 x.1) : ∃ a : Pair, cs = encP a ∧ a.name.size < 1000000000000000000 ∧ a.text.size < 1000000000000000000 := by
  obtain ⟨xs, m, rfl, hx, hl, hls, hi⟩ := DataW.trod_struct Tryz.underlying66 h
  have c9 : Tryz.prog.cellsOf 9 = 1 := by kernel_rfl
  have cc : Tryz.prog.cellsOf 66 = 2 := by kernel_rfl
  rw [cc] at hl
  obtain ⟨u, v, rfl⟩ := len2 hl
  obtain ⟨y, z, rfl⟩ := len2 (l := xs) hls
  have h0 := fld hi 0 9 0 1 rfl rfl rfl c9 rfl rfl
  have h1 := fld hi 1 9 1 1 rfl rfl rfl c9 rfl rfl
  have hw0 : Wts Tryz.prog 9 y.1 := by
    intro k hk
    refine hw k ?_
    rw [hx]
    simp only [DataW.weights, Tryz.underlying66, List.map_cons, List.map_nil, DataW.weightsEach, List.mem_append]
    exact .inl hk
  have hw1 : Wts Tryz.prog 9 z.1 := by
    intro k hk
    refine hw k ?_
    rw [hx]
    simp only [DataW.weights, Tryz.underlying66, List.map_cons, List.map_nil, DataW.weightsEach, List.mem_append]
    exact .inr (.inl hk)
  obtain ⟨nm, e0, hs⟩ := str_of_trod Tryz.underlying9 h0 hw0
  obtain ⟨tx, e1, hs1⟩ := str_of_trod Tryz.underlying9 h1 hw1
  obtain ⟨rfl⟩ := e0
  obtain ⟨rfl⟩ := e1
  have := reachBytes_lt
  exact ⟨⟨nm, tx⟩, rfl, by show nm.size < _; omega, by show tx.size < _; omega⟩

theorem open_s (h : DataW.trod enc Tryz.prog W base sp held n 9 cs = some x) (hw : Wts Tryz.prog 9 x.1) : ∃ a : ByteArray, cs = encS a ∧ a.size < 1000000000000000000 := by
  obtain ⟨nm, e0, hs⟩ := str_of_trod Tryz.underlying9 h hw
  have := reachBytes_lt
  exact ⟨nm, e0, by omega⟩

set_option maxRecDepth 100000 in
theorem open_eff (h : DataW.trod enc Tryz.prog W base sp held n 46 cs = some x) (hw : Wts Tryz.prog 46 x.1) :
    ∃ a : Eff, cs = encD a ∧ a.key.size < 1000000000000000000 ∧ a.name.size < 1000000000000000000 ∧ a.text.size < 1000000000000000000 := by
  obtain ⟨xs, m, rfl, hx, hl, hls, hi⟩ := DataW.trod_struct Tryz.underlying46 h
  have c9 : Tryz.prog.cellsOf 9 = 1 := by kernel_rfl
  have c2 : Tryz.prog.cellsOf 2 = 1 := by kernel_rfl
  have c3 : Tryz.prog.cellsOf 44 = 1 := by kernel_rfl
  have cc : Tryz.prog.cellsOf 46 = 5 := by kernel_rfl
  rw [cc] at hl
  obtain ⟨a0, a1, a2, a3, a4, rfl⟩ := len5 hl
  obtain ⟨y0, y1, y2, y3, y4, rfl⟩ := len5 (l := xs) hls
  have h0 := fld hi 0 44 0 1 rfl rfl rfl c3 rfl rfl
  have h1 := fld hi 1 9 1 1 rfl rfl rfl c9 rfl rfl
  have h2 := fld hi 2 9 2 1 rfl rfl rfl c9 rfl rfl
  have h3 := fld hi 3 9 3 1 rfl rfl rfl c9 rfl rfl
  have h4 := fld hi 4 2 4 1 rfl rfl rfl c2 rfl rfl
  have hwk : ∀ (i t : Nat) (y : DataW H × List MemPlace), [44, 9, 9, 9, 2][i]? = some t → [y0, y1, y2, y3, y4][i]? = some y → Wts Tryz.prog t y.1 := by
    intro i t y ht hy k hk
    refine hw k ?_
    rw [hx]
    simp only [DataW.weights, Tryz.underlying46]
    refine DataW.weights_mem_each (j := i) (t := t) (d := y.1) ?_ ?_ k hk
    · exact ht
    · rw [List.getElem?_map, hy]; rfl
  obtain ⟨op, e0, _, _⟩ := DataW.trod_int Tryz.underlying44 h0
  obtain ⟨s1, e1, z1⟩ := str_of_trod Tryz.underlying9 h1 (hwk 1 9 y1 rfl rfl)
  obtain ⟨s2, e2, z2⟩ := str_of_trod Tryz.underlying9 h2 (hwk 2 9 y2 rfl rfl)
  obtain ⟨s3, e3, z3⟩ := str_of_trod Tryz.underlying9 h3 (hwk 3 9 y3 rfl rfl)
  obtain ⟨nu, e4, _, _⟩ := DataW.trod_int Tryz.underlying2 h4
  obtain ⟨rfl⟩ := e0
  obtain ⟨rfl⟩ := e1
  obtain ⟨rfl⟩ := e2
  obtain ⟨rfl⟩ := e3
  obtain ⟨rfl⟩ := e4
  have := reachBytes_lt
  exact ⟨⟨op, s1, s2, s3, nu⟩, rfl, by show s1.size < _; omega, by show s2.size < _; omega, by show s3.size < _; omega⟩

set_option maxRecDepth 100000 in
theorem open_thing (h : DataW.trod enc Tryz.prog W base sp held n 40 cs = some x) (hw : Wts Tryz.prog 40 x.1) :
    ∃ t : Thing, TH W.heap cs t ∧ Fits t ∧ Sized t ∧ cs.length = 7 := by
  obtain ⟨xs, m, rfl, hx, hl, hls, hi⟩ := DataW.trod_struct Tryz.underlying40 h
  have hd : x.1 = .agg (xs.map (·.1)) := congrArg Prod.fst hx
  have c9 : Tryz.prog.cellsOf 9 = 1 := by kernel_rfl
  have c2 : Tryz.prog.cellsOf 2 = 1 := by kernel_rfl
  have c4 : Tryz.prog.cellsOf 4 = 1 := by kernel_rfl
  have c22 : Tryz.prog.cellsOf 35 = 1 := by kernel_rfl
  have c23 : Tryz.prog.cellsOf 36 = 1 := by kernel_rfl
  have c24 : Tryz.prog.cellsOf 37 = 1 := by kernel_rfl
  have c25 : Tryz.prog.cellsOf 38 = 1 := by kernel_rfl
  have c27 : Tryz.prog.cellsOf 40 = 7 := by kernel_rfl
  rw [c27] at hl
  obtain ⟨a0, a1, a2, a3, a4, a5, a6, rfl⟩ := len7 hl
  obtain ⟨y0, y1, y2, y3, y4, y5, y6, rfl⟩ := len7 (l := xs) hls
  have h0 := fld hi 0 35 0 1 rfl rfl rfl c22 rfl rfl
  have h1 := fld hi 1 9 1 1 rfl rfl rfl c9 rfl rfl
  have h2 := fld hi 2 36 2 1 rfl rfl rfl c23 rfl rfl
  have h3 := fld hi 3 37 3 1 rfl rfl rfl c24 rfl rfl
  have h4 := fld hi 4 38 4 1 rfl rfl rfl c25 rfl rfl
  have h5 := fld hi 5 4 5 1 rfl rfl rfl c4 rfl rfl
  have h6 := fld hi 6 2 6 1 rfl rfl rfl c2 rfl rfl
  have hwk : ∀ (i t : Nat) (y : DataW H × List MemPlace), [35, 9, 36, 37, 38, 4, 2][i]? = some t → [y0, y1, y2, y3, y4, y5, y6][i]? = some y → Wts Tryz.prog t y.1 := by
    intro i t y ht hy k hk
    refine hw k ?_
    rw [hd]
    simp only [DataW.weights, Tryz.underlying40]
    refine DataW.weights_mem_each (j := i) (t := t) (d := y.1) ?_ ?_ k hk
    · exact ht
    · rw [List.getElem?_map, hy]; rfl
  obtain ⟨kd, e0, _, _⟩ := DataW.trod_int Tryz.underlying35 h0
  obtain ⟨tx, e1, hs1⟩ := str_of_trod Tryz.underlying9 h1 (hwk 1 9 y1 rfl rfl)
  obtain ⟨lp, sp, gp, np⟩ := open_cell (k := 2) (en := encP) Tryz.underlying36 (by kernel_rfl) (by decide) encP_len (fun n cs x h hw => open_pair h hw) h2 (hwk 2 36 y2 rfl rfl)
  obtain ⟨ll, sl, gl, nl⟩ := open_cell (k := 1) (en := encS) Tryz.underlying37 (by kernel_rfl) (by decide) encS_len (fun n cs x h hw => open_s h hw) h3 (hwk 3 37 y3 rfl rfl)
  obtain ⟨lr, sr, gr, nr⟩ := open_cell (k := 2) (en := encR) Tryz.underlying38 (by kernel_rfl) (by decide) encR_len (fun n cs x h hw => open_rank h hw) h4 (hwk 4 38 y4 rfl rfl)
  obtain ⟨bu, e5, _⟩ := DataW.trod_bool Tryz.underlying4 h5
  obtain ⟨un, e6, _, _⟩ := DataW.trod_int Tryz.underlying2 h6
  obtain ⟨rfl⟩ := e0
  obtain ⟨rfl⟩ := e1
  obtain ⟨rfl⟩ := e5
  obtain ⟨rfl⟩ := e6
  have b32 : Tryz.prog.bytesOf 66 = 32 := by kernel_rfl
  have b9 : Tryz.prog.bytesOf 9 = 16 := by kernel_rfl
  have b34 : Tryz.prog.bytesOf 68 = 24 := by kernel_rfl
  rw [b32] at np
  rw [b9] at nl
  rw [b34] at nr
  have := reachBytes_lt
  refine ⟨⟨kd, tx, lp, ll, lr, bu, un⟩, ⟨_, _, _, rfl, sp, sl, sr⟩, ⟨?_, ?_, ?_⟩, ⟨?_, gp, gl, gr⟩, rfl⟩
  · show lp.length < _; omega
  · show ll.length < _; omega
  · show lr.length < _; omega
  · show tx.size < _; omega

/-- What is known of an entry that came in. -/
structure GoodX (h : Heap) (x : RX) : Prop where
  th : TH h x.vs x.thing
  fits : Fits x.thing
  sized : Sized x.thing
  key : x.key.size < 1000000000000000000

set_option maxRecDepth 100000 in
theorem open_entry (h : DataW.trod enc Tryz.prog W base sp held n 42 cs = some x) (hw : Wts Tryz.prog 42 x.1) : ∃ a : RX, cs = encX a ∧ GoodX W.heap a := by
  obtain ⟨xs, m, rfl, hx, hl, hls, hi⟩ := DataW.trod_struct Tryz.underlying42 h
  have hd : x.1 = .agg (xs.map (·.1)) := congrArg Prod.fst hx
  have c9 : Tryz.prog.cellsOf 9 = 1 := by kernel_rfl
  have c7 : Tryz.prog.cellsOf 40 = 7 := by kernel_rfl
  have cc : Tryz.prog.cellsOf 42 = 8 := by kernel_rfl
  rw [cc] at hl
  obtain ⟨k0, a0, a1, a2, a3, a4, a5, a6, rfl⟩ := len8 hl
  obtain ⟨y, z, rfl⟩ := len2 (l := xs) hls
  have h0 := fld hi 0 9 0 1 rfl rfl rfl c9 rfl rfl
  have h1 := fld hi 1 40 1 7 rfl rfl rfl c7 rfl rfl
  have hwk : ∀ (i t : Nat) (w : DataW H × List MemPlace), [9, 40][i]? = some t → [y, z][i]? = some w → Wts Tryz.prog t w.1 := by
    intro i t y ht hy k hk
    refine hw k ?_
    rw [hd]
    simp only [DataW.weights, Tryz.underlying42]
    refine DataW.weights_mem_each (j := i) (t := t) (d := y.1) ?_ ?_ k hk
    · exact ht
    · rw [List.getElem?_map, hy]; rfl
  obtain ⟨key, e0, hz⟩ := str_of_trod Tryz.underlying9 h0 (hwk 0 9 y rfl rfl)
  obtain ⟨t, th, ft, st, hl7⟩ := open_thing h1 (hwk 1 40 z rfl rfl)
  obtain ⟨rfl⟩ := e0
  have := reachBytes_lt
  exact ⟨⟨key, t, _, hl7, thing_one th⟩, rfl, th, ft, st, by show key.size < _; omega⟩

set_option maxRecDepth 100000 in
theorem open_entries {v : Value} {d : DataW H} {ps : List MemPlace} {r : Reach} {b0 : Nat} (hval : Value.okWide Tryz.prog W r b0 22 v) (h : DataW.Trod enc Tryz.prog W base sp held 22 v d ps) (hw : Wts Tryz.prog 22 d) :
    ∃ l : List RX, SL encX W.heap v l ∧ GX W.heap l ∧ XFit l := by
  obtain ⟨n, hn⟩ := cell_arg Tryz.underlying22 hval h
  obtain ⟨l, sl, g, nl⟩ := open_cell (k := 8) (en := encX) Tryz.underlying22 (by kernel_rfl) (by decide) encX_len (fun n cs x h hw => open_entry h hw) hn hw
  have b : Tryz.prog.bytesOf 42 = 128 := by kernel_rfl
  rw [b] at nl
  have := reachBytes_lt
  exact ⟨l, sl, fun x hx => (g x hx).th, ⟨by omega, fun x hx => by have := (g x hx).key; omega, fun x hx => (g x hx).fits, fun x hx => (g x hx).sized⟩⟩

set_option maxRecDepth 100000 in
theorem open_effects {v : Value} {d : DataW H} {ps : List MemPlace} {r : Reach} {b0 : Nat} (hval : Value.okWide Tryz.prog W r b0 23 v) (h : DataW.Trod enc Tryz.prog W base sp held 23 v d ps) (hw : Wts Tryz.prog 23 d) :
    ∃ l : List Eff, SL encD W.heap v l ∧ DFit l := by
  obtain ⟨n, hn⟩ := cell_arg Tryz.underlying23 hval h
  obtain ⟨l, sl, g, nl⟩ := open_cell (k := 5) (en := encD) Tryz.underlying23 (by kernel_rfl) (by decide) encD_len (fun n cs x h hw => open_eff h hw) hn hw
  have b : Tryz.prog.bytesOf 46 = 64 := by kernel_rfl
  rw [b] at nl
  have := reachBytes_lt
  exact ⟨l, sl, ⟨by omega, fun x hx => by obtain ⟨z1, z2, z3⟩ := g x hx; exact ⟨by omega, by omega, by omega⟩⟩⟩
end

end Go.Proofs.YtigolfakcblnjaaGreat
namespace Go.Proofs.YtigolfakcblnjaaGreat
open Go Go.Sx Go.ChangeShapes Go.WideShapes Go.ChangeAt Go.RowKit

theorem parts_spec (H : Type) {l : List (DataW H)} (h : l.length = 3) : Rows.keysPartsSpec.fn H l = { results := [.lit (.bool true)], args := l } := by
  match l, h with
  | [_, _, _], _ => rfl

theorem parts_row1 : Tryz.prog.readableRec 22 = true ∧ 22 < Tryz.prog.types.size := ⟨by kernel_rfl, of_decide_eq_true (by kernel_rfl)⟩
theorem parts_row2 : Tryz.prog.readableRec 23 = true ∧ 23 < Tryz.prog.types.size := ⟨by kernel_rfl, of_decide_eq_true (by kernel_rfl)⟩
theorem parts_row3 : Tryz.prog.readableRec 3 = true ∧ 3 < Tryz.prog.types.size := ⟨by kernel_rfl, of_decide_eq_true (by kernel_rfl)⟩
theorem parts_params : ∀ t ∈ Tryz.f3.params.toList, Tryz.prog.readableRec t = true ∧ t < Tryz.prog.types.size := by
  rw [Tryz.params3]
  intro t ht
  have ht : t ∈ [22, 23, 3] := ht
  rcases List.mem_cons.1 ht with h | h
  · subst h; exact parts_row1
  rcases List.mem_cons.1 h with h | h
  · subst h; exact parts_row2
  · have h := List.mem_singleton.1 h
    subst h; exact parts_row3

theorem int_arg {P : Program} {W : World} {b0 : Nat} {r : Reach} {t : TypeId} {v : Value} (ht : P.underlying t = some (.int .i64)) (hval : Value.okWide P W r b0 t v) :
    ∃ n, v = .int .i64 n := by
  simp only [Value.okWide, Cell.okWide, Cell.ok, ht] at hval
  split at hval <;> simp_all

set_option maxRecDepth 100000 in
theorem parts_contract (H : Type) (enc : TypeId × Value → H) (W : World) (base : Nat) (args : Array Value) (ds gs : List (DataW H)) (before : List MemPlace)
    (hval : ∀ (j : Nat) t v, Tryz.f3.params[j]? = some t → args[j]? = some v → Value.okWide Tryz.prog W .any base t v)
    (hW : DataW.Whole enc Tryz.prog Tryz.f3.params.toList Rows.keysPartsSpec.vars false W args.toList ds gs before)
    (hsz : (DataW.weightsEach Tryz.prog (Tryz.f3.params.toList ++ (OpenSpec.ofChange Rows.keysPartsSpec).bare.plain.varTypes Tryz.prog) (ds ++ gs)).all (· ≤ reachBytes) = true) :
    Calls Tryz.prog 3 args W fun e W' => ∃ v, e = .returned v ∧ Rows.keysPartsSpec.post enc Tryz.prog Tryz.f3 false true false false W args v W' := by
  refine lift_law (tb := 4) laidOut parts_params rfl Tryz.underlying4 rfl
    (fun l hl => parts_spec H (hl.trans (by rw [Tryz.params3]; rfl))) hW ?_
  obtain ⟨p, q, hA, hV, _, _, _⟩ := hW
  obtain ⟨rfl, rfl⟩ := trodVars_none hV
  rw [Tryz.params3] at hA hval hsz
  obtain ⟨v0, vs0, d0, ds0, p0, q0, hargs, rfl, rfl, h0, r0⟩ := trodAll_cons hA
  obtain ⟨v1, vs1, d1, ds1, p1, q1, rfl, rfl, rfl, h1, r1⟩ := trodAll_cons r0
  obtain ⟨v2, vs2, d2, ds2, p2, q2, rfl, rfl, rfl, h2, r2⟩ := trodAll_cons r1
  obtain ⟨rfl, rfl, rfl⟩ := trodAll_nil r2
  obtain rfl : args = #[v0, v1, v2] := by cases args; simp_all
  obtain ⟨l, sl, g, f⟩ := open_entries (hval 0 22 v0 rfl rfl) h0 (wts_each hsz (j := 0) rfl rfl)
  obtain ⟨d, sd, fd⟩ := open_effects (hval 1 23 v1 rfl rfl) h1 (wts_each hsz (j := 1) rfl rfl)
  obtain ⟨at_, rfl⟩ := int_arg Tryz.underlying3 (hval 2 3 v2 rfl rfl)
  exact KeysParts_calls sl sd g f fd

noncomputable def partsArgs : Array Value := #[.slice none 0 0, .slice none 0 0, .int .i64 0]
noncomputable def settled (os : Os) : World := World.holding Tryz.prog os ⟨#[], #[], []⟩

theorem parts_reads (os : Os) {H : Type} (enc : TypeId × Value → H) : ∃ places, DataW.whole enc Tryz.prog ((settled os).forCall (fun _ _ => 0) ⟨#[], partsArgs, []⟩).memory Tryz.f3.params.toList Rows.keysPartsSpec.vars false partsArgs.toList 8 =
    some ([.nil, .nil, .lit (.int .i64 0)], [], places) :=
  ⟨[], by kernel_rfl⟩

set_option maxRecDepth 100000 in
theorem parts_lifted (os : Os) (started : os.Started) (H : Type) (enc : TypeId × Value → H) (F : Stop.Interp) :
    ReturnsInHanded {} Tryz.checked os 3 .any ((OpenSpec.ofChange Rows.keysPartsSpec).preRow enc Tryz.prog Tryz.f3 Rows.keysPartsRow.domain false Rows.keysPartsRow.laid) (((OpenSpec.ofChange Rows.keysPartsSpec).at F).post enc Tryz.prog Tryz.f3 false true false false) := by
  obtain ⟨places, hx⟩ := parts_reads os enc
  refine returnsInHanded_of_row (C := Tryz.checked) (s := OpenSpec.ofChange Rows.keysPartsSpec) own started (by kernel_rfl) Tryz.func3
    (witness_row_at (enc := enc) (C := Tryz.checked) false (settled os) partsArgs rfl (by kernel_rfl) (by kernel_rfl) (by kernel_rfl)
      (OpenSpec.preRow_of_cond 8 hx (by kernel_rfl) (fun k hk => by cases hk) (by kernel_rfl) (laidMetH_nil _ _))) ?_
  intro W base args ds gs before hval hW _ _ hsz _ _ _
  exact parts_contract H enc W base args ds gs before hval hW hsz

theorem parts_said : Rows.KeysPartsSaid :=
  OpenClaim.holds_of_cond 3 Tryz.f3 rfl rfl rfl rfl rfl rfl rfl ⟨rfl, rfl, rfl, rfl, rfl⟩ rfl rfl rfl rfl rfl (by kernel_rfl) Tryz.func3 (by kernel_rfl)
    (of_decide_eq_true (by kernel_rfl)) (by unfold Func.isWrapper; first | (rw [if_pos (by decide +kernel)]; kernel_rfl) | (rw [if_neg (by decide +kernel)]; exact ⟨rfl, rfl⟩))
    (fun os started H enc _ F => by rw [OpenClaim.pre_eq_preRow]; exact parts_lifted os started H enc F)
#print axioms parts_said
end Go.Proofs.YtigolfakcblnjaaGreat
