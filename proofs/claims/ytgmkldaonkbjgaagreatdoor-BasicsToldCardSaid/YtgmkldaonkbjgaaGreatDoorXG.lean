/-
  Layer 7: things, entries and effects opened.
  Layer 8: strconv's laid variables, as the walks want them; arguments opened.
  BasicsEffects: a command's effects, done on the keyspace, are all done; for every list of things, every time, every command.
  Layer 8: the law of what is told behind what was put in (taborlaw08.BasicsTold).
  BasicsTold: what was put in is told, till its time; for every list of things, every key, text, time and number.
-/
import Derived.Deep.DeepHandedRow
import Derived.ProofKit
import Derived.Test.YtgmkldaonkbjgaaGreatDoorXF
namespace Go.Proofs.YtgmkldaonkbjgaaGreatDoor
open Go Go.Sx Go.ChangeShapes Go.WideShapes Go.ChangeAt Go.RowKit

theorem len2 {α : Type} {l : List α} (h : l.length = 2) : ∃ a b, l = [a, b] := by
  match l, h with
  | [a, b], _ => exact ⟨a, b, rfl⟩
theorem len7 {α : Type} {l : List α} (h : l.length = 7) : ∃ a0 a1 a2 a3 a4 a5 a6, l = [a0, a1, a2, a3, a4, a5, a6] := by
  match l, h with
  | [a0, a1, a2, a3, a4, a5, a6], _ => exact ⟨a0, a1, a2, a3, a4, a5, a6, rfl⟩
theorem len8 {α : Type} {l : List α} (h : l.length = 8) : ∃ a0 a1 a2 a3 a4 a5 a6 a7, l = [a0, a1, a2, a3, a4, a5, a6, a7] := by
  match l, h with
  | [a0, a1, a2, a3, a4, a5, a6, a7], _ => exact ⟨a0, a1, a2, a3, a4, a5, a6, a7, rfl⟩

section
variable {H : Type} {enc : TypeId × Value → H} {W : World} {base n : Nat} {sp : Nat → Bool} {held : Bool} {cs : List Value} {x : DataW H × List MemPlace}

theorem open_rank (h : DataW.trod enc Tryz.prog W base sp held n 90 cs = some x) (hw : Wts Tryz.prog 90 x.1) : ∃ a : Rank, cs = encR a ∧ a.name.size < 1000000000000000000 := by
  obtain ⟨xs, m, rfl, hx, hl, hls, hi⟩ := DataW.trod_struct Tryz.underlying90 h
  have c9 : Tryz.prog.cellsOf 9 = 1 := by kernel_rfl
  have c2 : Tryz.prog.cellsOf 2 = 1 := by kernel_rfl
  have cc : Tryz.prog.cellsOf 90 = 2 := by kernel_rfl
  rw [cc] at hl
  obtain ⟨u, v, rfl⟩ := len2 hl
  obtain ⟨y, z, rfl⟩ := len2 (l := xs) hls
  have h0 := fld hi 0 9 0 1 rfl rfl rfl c9 rfl rfl
  have h1 := fld hi 1 2 1 1 rfl rfl rfl c2 rfl rfl
  have hw0 : Wts Tryz.prog 9 y.1 := by
    intro k hk
    refine hw k ?_
    rw [hx]
    simp only [DataW.weights, Tryz.underlying90, List.map_cons, List.map_nil, DataW.weightsEach, List.mem_append]
    exact .inl hk
  obtain ⟨nm, e0, hs⟩ := str_of_trod Tryz.underlying9 h0 hw0
  obtain ⟨k, e1, _, _⟩ := DataW.trod_int Tryz.underlying2 h1
  obtain ⟨rfl⟩ := e0
  obtain ⟨rfl⟩ := e1
  have := reachBytes_lt
  exact ⟨⟨nm, k⟩, rfl, by show nm.size < _; omega⟩

theorem open_pair (h : DataW.trod enc Tryz.prog W base sp held n 88 cs = some x) (hw : Wts Tryz.prog 88 x.1) : ∃ a : Pair, cs = encP a ∧ a.name.size < 1000000000000000000 ∧ a.text.size < 1000000000000000000 := by
  obtain ⟨xs, m, rfl, hx, hl, hls, hi⟩ := DataW.trod_struct Tryz.underlying88 h
  have c9 : Tryz.prog.cellsOf 9 = 1 := by kernel_rfl
  have cc : Tryz.prog.cellsOf 88 = 2 := by kernel_rfl
  rw [cc] at hl
  obtain ⟨u, v, rfl⟩ := len2 hl
  obtain ⟨y, z, rfl⟩ := len2 (l := xs) hls
  have h0 := fld hi 0 9 0 1 rfl rfl rfl c9 rfl rfl
  have h1 := fld hi 1 9 1 1 rfl rfl rfl c9 rfl rfl
  have hw0 : Wts Tryz.prog 9 y.1 := by
    intro k hk
    refine hw k ?_
    rw [hx]
    simp only [DataW.weights, Tryz.underlying88, List.map_cons, List.map_nil, DataW.weightsEach, List.mem_append]
    exact .inl hk
  have hw1 : Wts Tryz.prog 9 z.1 := by
    intro k hk
    refine hw k ?_
    rw [hx]
    simp only [DataW.weights, Tryz.underlying88, List.map_cons, List.map_nil, DataW.weightsEach, List.mem_append]
    exact .inr (.inl hk)
  obtain ⟨nm, e0, hs⟩ := str_of_trod Tryz.underlying9 h0 hw0
  obtain ⟨tx, e1, hs1⟩ := str_of_trod Tryz.underlying9 h1 hw1
  obtain ⟨rfl⟩ := e0
  obtain ⟨rfl⟩ := e1
  have := reachBytes_lt
  exact ⟨⟨nm, tx⟩, rfl, by show nm.size < _; omega, by show tx.size < _; omega⟩

theorem open_s (h : DataW.trod enc Tryz.prog W base sp held n 9 cs = some x) (hw : Wts Tryz.prog 9 x.1) : ∃ a : ByteArray, cs = encS a ∧ a.size < 1000000000000000000 := by
  obtain ⟨nm, e0, hs⟩ := str_of_trod Tryz.underlying9 h hw
  have := reachBytes_lt
  exact ⟨nm, e0, by omega⟩

set_option maxRecDepth 100000 in
theorem open_thing (h : DataW.trod enc Tryz.prog W base sp held n 27 cs = some x) (hw : Wts Tryz.prog 27 x.1) :
    ∃ t : Thing, TH W.heap cs t ∧ Fits t ∧ Sized t ∧ cs.length = 7 ∧ (-9223372036854775808 ≤ t.unt ∧ t.unt ≤ 9223372036854775807) := by
  obtain ⟨xs, m, rfl, hx, hl, hls, hi⟩ := DataW.trod_struct Tryz.underlying27 h
  have hd : x.1 = .agg (xs.map (·.1)) := congrArg Prod.fst hx
  have c9 : Tryz.prog.cellsOf 9 = 1 := by kernel_rfl
  have c2 : Tryz.prog.cellsOf 2 = 1 := by kernel_rfl
  have c4 : Tryz.prog.cellsOf 4 = 1 := by kernel_rfl
  have c22 : Tryz.prog.cellsOf 22 = 1 := by kernel_rfl
  have c23 : Tryz.prog.cellsOf 23 = 1 := by kernel_rfl
  have c24 : Tryz.prog.cellsOf 24 = 1 := by kernel_rfl
  have c25 : Tryz.prog.cellsOf 25 = 1 := by kernel_rfl
  have c27 : Tryz.prog.cellsOf 27 = 7 := by kernel_rfl
  rw [c27] at hl
  obtain ⟨a0, a1, a2, a3, a4, a5, a6, rfl⟩ := len7 hl
  obtain ⟨y0, y1, y2, y3, y4, y5, y6, rfl⟩ := len7 (l := xs) hls
  have h0 := fld hi 0 22 0 1 rfl rfl rfl c22 rfl rfl
  have h1 := fld hi 1 9 1 1 rfl rfl rfl c9 rfl rfl
  have h2 := fld hi 2 23 2 1 rfl rfl rfl c23 rfl rfl
  have h3 := fld hi 3 24 3 1 rfl rfl rfl c24 rfl rfl
  have h4 := fld hi 4 25 4 1 rfl rfl rfl c25 rfl rfl
  have h5 := fld hi 5 4 5 1 rfl rfl rfl c4 rfl rfl
  have h6 := fld hi 6 2 6 1 rfl rfl rfl c2 rfl rfl
  have hwk : ∀ (i t : Nat) (y : DataW H × List MemPlace), [22, 9, 23, 24, 25, 4, 2][i]? = some t → [y0, y1, y2, y3, y4, y5, y6][i]? = some y → Wts Tryz.prog t y.1 := by
    intro i t y ht hy k hk
    refine hw k ?_
    rw [hd]
    simp only [DataW.weights, Tryz.underlying27]
    refine DataW.weights_mem_each (j := i) (t := t) (d := y.1) ?_ ?_ k hk
    · exact ht
    · rw [List.getElem?_map, hy]; rfl
  obtain ⟨kd, e0, _, _⟩ := DataW.trod_int Tryz.underlying22 h0
  obtain ⟨tx, e1, hs1⟩ := str_of_trod Tryz.underlying9 h1 (hwk 1 9 y1 rfl rfl)
  obtain ⟨lp, sp, gp, np⟩ := open_cell (k := 2) (en := encP) Tryz.underlying23 (by kernel_rfl) (by decide) encP_len (fun n cs x h hw => open_pair h hw) h2 (hwk 2 23 y2 rfl rfl)
  obtain ⟨ll, sl, gl, nl⟩ := open_cell (k := 1) (en := encS) Tryz.underlying24 (by kernel_rfl) (by decide) encS_len (fun n cs x h hw => open_s h hw) h3 (hwk 3 24 y3 rfl rfl)
  obtain ⟨lr, sr, gr, nr⟩ := open_cell (k := 2) (en := encR) Tryz.underlying25 (by kernel_rfl) (by decide) encR_len (fun n cs x h hw => open_rank h hw) h4 (hwk 4 25 y4 rfl rfl)
  obtain ⟨bu, e5, _⟩ := DataW.trod_bool Tryz.underlying4 h5
  obtain ⟨un, e6, _, wf6⟩ := DataW.trod_int Tryz.underlying2 h6
  have un6 : -9223372036854775808 ≤ un ∧ un ≤ 9223372036854775807 := by
    unfold Lit.wf at wf6
    simp only [Bool.and_eq_true, decide_eq_true_eq] at wf6
    exact wf6
  obtain ⟨rfl⟩ := e0
  obtain ⟨rfl⟩ := e1
  obtain ⟨rfl⟩ := e5
  obtain ⟨rfl⟩ := e6
  have b32 : Tryz.prog.bytesOf 88 = 32 := by kernel_rfl
  have b9 : Tryz.prog.bytesOf 9 = 16 := by kernel_rfl
  have b34 : Tryz.prog.bytesOf 90 = 24 := by kernel_rfl
  rw [b32] at np
  rw [b9] at nl
  rw [b34] at nr
  have := reachBytes_lt
  refine ⟨⟨kd, tx, lp, ll, lr, bu, un⟩, ⟨_, _, _, rfl, sp, sl, sr⟩, ⟨?_, ?_, ?_⟩, ⟨?_, gp, gl, gr⟩, rfl, un6⟩
  · show lp.length < _; omega
  · show ll.length < _; omega
  · show lr.length < _; omega
  · show tx.size < _; omega

structure GoodX (h : Heap) (x : RX) : Prop where
  th : TH h x.vs x.thing
  fits : Fits x.thing
  sized : Sized x.thing
  key : x.key.size < 1000000000000000000
  unt : -9223372036854775808 ≤ x.thing.unt ∧ x.thing.unt ≤ 9223372036854775807

set_option maxRecDepth 100000 in
theorem open_entry (h : DataW.trod enc Tryz.prog W base sp held n 29 cs = some x) (hw : Wts Tryz.prog 29 x.1) : ∃ a : RX, cs = encX a ∧ GoodX W.heap a := by
  obtain ⟨xs, m, rfl, hx, hl, hls, hi⟩ := DataW.trod_struct Tryz.underlying29 h
  have hd : x.1 = .agg (xs.map (·.1)) := congrArg Prod.fst hx
  have c9 : Tryz.prog.cellsOf 9 = 1 := by kernel_rfl
  have c7 : Tryz.prog.cellsOf 27 = 7 := by kernel_rfl
  have cc : Tryz.prog.cellsOf 29 = 8 := by kernel_rfl
  rw [cc] at hl
  obtain ⟨k0, a0, a1, a2, a3, a4, a5, a6, rfl⟩ := len8 hl
  obtain ⟨y, z, rfl⟩ := len2 (l := xs) hls
  have h0 := fld hi 0 9 0 1 rfl rfl rfl c9 rfl rfl
  have h1 := fld hi 1 27 1 7 rfl rfl rfl c7 rfl rfl
  have hwk : ∀ (i t : Nat) (w : DataW H × List MemPlace), [9, 27][i]? = some t → [y, z][i]? = some w → Wts Tryz.prog t w.1 := by
    intro i t y ht hy k hk
    refine hw k ?_
    rw [hd]
    simp only [DataW.weights, Tryz.underlying29]
    refine DataW.weights_mem_each (j := i) (t := t) (d := y.1) ?_ ?_ k hk
    · exact ht
    · rw [List.getElem?_map, hy]; rfl
  obtain ⟨key, e0, hz⟩ := str_of_trod Tryz.underlying9 h0 (hwk 0 9 y rfl rfl)
  obtain ⟨t, th, ft, st, hl7, un⟩ := open_thing h1 (hwk 1 27 z rfl rfl)
  obtain ⟨rfl⟩ := e0
  have := reachBytes_lt
  exact ⟨⟨key, t, _, hl7, thing_one th⟩, rfl, th, ft, st, by show key.size < _; omega, un⟩

set_option maxRecDepth 100000 in
theorem open_entries {v : Value} {d : DataW H} {ps : List MemPlace} {r : Reach} {b0 : Nat} (hval : Value.okWide Tryz.prog W r b0 30 v) (h : DataW.Trod enc Tryz.prog W base sp held 30 v d ps) (hw : Wts Tryz.prog 30 d) :
    ∃ l : List RX, SL encX W.heap v l ∧ GX W.heap l ∧ XFit l ∧ ∀ x ∈ l, -9223372036854775808 ≤ x.thing.unt ∧ x.thing.unt ≤ 9223372036854775807 := by
  obtain ⟨n, hn⟩ := cell_arg Tryz.underlying30 hval h
  obtain ⟨l, sl, g, nl⟩ := open_cell (k := 8) (en := encX) Tryz.underlying30 (by kernel_rfl) (by decide) encX_len (fun n cs x h hw => open_entry h hw) hn hw
  have b : Tryz.prog.bytesOf 29 = 128 := by kernel_rfl
  rw [b] at nl
  have := reachBytes_lt
  exact ⟨l, sl, fun x hx => (g x hx).th, ⟨by omega, fun x hx => by have := (g x hx).key; omega, fun x hx => (g x hx).fits, fun x hx => (g x hx).sized⟩, fun x hx => (g x hx).unt⟩

end

end Go.Proofs.YtgmkldaonkbjgaaGreatDoor
namespace Go.Proofs.YtgmkldaonkbjgaaGreatDoor
open Go Go.Sx Go.ChangeShapes Go.WideShapes Go.ChangeAt Go.RowKit

theorem trod_iface {H : Type} {enc : TypeId × Value → H} {P : Program} {w : World} {base n : Nat} {sp : Nat → Bool} {held : Bool} {t : TypeId} {cs : List Value} {x : DataW H × List MemPlace}
    (ht : (match P.underlying t with | some (.interface _) => true | _ => false) = true) (h : DataW.trod enc P w base sp held n t cs = some x) : ∃ v, cs = [v] ∧ IfaceV v := by
  obtain ⟨ms, ht⟩ : ∃ ms, P.underlying t = some (.interface ms) := by
    split at ht
    · rename_i ms h1; exact ⟨ms, h1⟩
    · cases ht
  cases n with
  | zero => simp [DataW.trod] at h
  | succ n =>
    simp only [DataW.trod, ht] at h
    split at h <;> first | exact ⟨_, rfl, .inl rfl⟩ | exact ⟨_, rfl, .inr ⟨_, _, rfl⟩⟩ | (exfalso; simp_all; done)

theorem errV {W : World} {n : String} {gi : Nat} {g : Nat} {t : TypeId} {cs : Array Value} {fuel : Nat} {d : DataW Unit} {p : List MemPlace} (hgi : Tryz.prog.globalNamed n = some gi) (hti : (Tryz.prog.globals[gi]?).map (·.type) = some 183)
    (hg : Tryz.prog.globalNamed n = some g) (ht : (Tryz.prog.globals[g]?).map (·.type) = some t) (hv : W.var? Tryz.prog n = some cs) (h : DataW.trod (fun _ => ()) Tryz.prog W 0 (fun _ => true) false fuel t cs.toList = some (d, p)) :
    ∃ v, cell W.heap gi 0 = some v ∧ IfaceV v := by
  obtain rfl := Option.some.inj (hgi.symm.trans hg)
  obtain rfl := Option.some.inj (hti.symm.trans ht)
  obtain ⟨v, e, hi⟩ := trod_iface (by kernel_rfl) h
  refine ⟨v, ?_, hi⟩
  unfold World.var? at hv
  rw [hgi] at hv
  have hv : (match W.heap[gi]? with | some (.cells cs _ _) => some cs | _ => none) = some cs := hv
  unfold cell
  split at hv
  · rename_i h1
    injection hv with hv
    subst hv
    rw [h1]
    show (_ : Array Value)[0]? = _
    rw [← Array.getElem?_toList, e]; rfl
  · cases hv

theorem laidN_of {W : World} (h : laidMetH Tryz.prog laid5 W) : LaidN W.heap := by
  have h : laidMet Tryz.prog laid5 W := h
  obtain ⟨ps, ⟨_, _, _, _, _, _, _, _, _, _, ⟨_, _, _, _, _, _, _, _, _, _, ⟨g, t, cs, fuel, p, q, hg, ht, hv, htr, ⟨g2, t2, cs2, fuel2, p2, q2, hg2, ht2, hv2, htr2, ⟨g3, t3, cs3, fuel3, p3, q3, hg3, ht3, hv3, htr3, _, _⟩, _⟩, _⟩, _⟩, _⟩, _⟩ := h
  refine ⟨?_, errV (by kernel_rfl) (by kernel_rfl) hg3 ht3 hv3 htr3, errV (by kernel_rfl) (by kernel_rfl) hg2 ht2 hv2 htr2⟩
  have hgi : Tryz.prog.globalNamed "internal/strconv.uint64pow10" = some 1 := by kernel_rfl
  have hti : (Tryz.prog.globals[1]?).map (·.type) = some 200 := by kernel_rfl
  obtain rfl := Option.some.inj (hgi.symm.trans hg)
  obtain rfl := Option.some.inj (hti.symm.trans ht)
  have hc := Lib.cells_of_tab (k := .u64) (zs := Lib.pow10Tab) (n := 20) (e := 167) (by kernel_rfl) (by kernel_rfl) (by kernel_rfl) (by kernel_rfl) htr
  unfold World.var? at hv
  rw [hgi] at hv
  have hv : (match W.heap[(1 : Nat)]? with | some (.cells cs _ _) => some cs | _ => none) = some cs := hv
  split at hv
  · rename_i h1
    injection hv with hv
    subst hv
    exact ⟨_, _, by rw [h1, ← hc]⟩
  · cases hv


theorem int_in {P : Program} {W : World} {b0 : Nat} {r : Reach} {t : TypeId} {v : Value} (ht : P.underlying t = some (.int .i64)) (hval : Value.okWide P W r b0 t v) :
    ∃ n, v = .int .i64 n ∧ In64 n := by
  obtain ⟨n, rfl⟩ := int_arg ht hval
  refine ⟨n, rfl, ?_⟩
  simp only [Value.okWide, Cell.okWide, Cell.ok, ht] at hval
  exact hval.2

section
variable {H : Type} {enc : TypeId × Value → H} {W : World} {base n : Nat} {sp : Nat → Bool} {held : Bool}
set_option maxRecDepth 100000 in
theorem open_strs {v : Value} {d : DataW H} {ps : List MemPlace} {r : Reach} {b0 : Nat} (hval : Value.okWide Tryz.prog W r b0 24 v) (h : DataW.Trod enc Tryz.prog W base sp held 24 v d ps) (hw : Wts Tryz.prog 24 d) :
    ∃ l : List ByteArray, SL encS W.heap v l ∧ SFit l := by
  obtain ⟨n, hn⟩ := cell_arg Tryz.underlying24 hval h
  obtain ⟨l, sl, g, nl⟩ := open_cell (k := 1) (en := encS) Tryz.underlying24 (by kernel_rfl) (by decide) encS_len (fun n cs x h hw => open_s h hw) hn hw
  have b : Tryz.prog.bytesOf 9 = 16 := by kernel_rfl
  rw [b] at nl
  have := reachBytes_lt
  exact ⟨l, sl, ⟨by omega, fun x hx => by have := g x hx; omega⟩⟩
end

end Go.Proofs.YtgmkldaonkbjgaaGreatDoor
namespace Go.Proofs.YtgmkldaonkbjgaaGreatDoor
open Go Go.Sx Go.ChangeShapes Go.WideShapes Go.ChangeAt Go.RowKit

theorem be_params : ∀ t ∈ Tryz.f5.params.toList, Tryz.prog.readableRec t = true ∧ t < Tryz.prog.types.size := by
  rw [Tryz.params5]
  intro t ht
  have ht : t ∈ [30, 2, 24] := ht
  rcases List.mem_cons.1 ht with h | h
  · subst h; exact ⟨by kernel_rfl, of_decide_eq_true (by kernel_rfl)⟩
  rcases List.mem_cons.1 h with h | h
  · subst h; exact ⟨by kernel_rfl, of_decide_eq_true (by kernel_rfl)⟩
  have h := List.mem_singleton.1 h
  subst h; exact ⟨by kernel_rfl, of_decide_eq_true (by kernel_rfl)⟩

set_option maxRecDepth 100000 in
theorem be_law (H : Type) (enc : TypeId × Value → H) (W : World) (base : Nat) (args : Array Value) (ds gs : List (DataW H)) (before : List MemPlace)
    (hval : ∀ (j : Nat) t v, Tryz.f5.params[j]? = some t → args[j]? = some v → Value.okWide Tryz.prog W .any base t v)
    (hW : DataW.Whole enc Tryz.prog Tryz.f5.params.toList Rows.basicsEffectsSpec.vars false W args.toList ds gs before)
    (hL : laidMetH Tryz.prog laid5 W)
    (hsz : (DataW.weightsEach Tryz.prog (Tryz.f5.params.toList ++ (OpenSpec.ofChange Rows.basicsEffectsSpec).bare.plain.varTypes Tryz.prog) (ds ++ gs)).all (· ≤ reachBytes) = true) :
    Calls Tryz.prog 5 args W fun e W' => ∃ v, e = .returned v ∧ Rows.basicsEffectsSpec.post enc Tryz.prog Tryz.f5 false true false false W args v W' := by
  refine lift_law (tb := 4) laidOut be_params rfl Tryz.underlying4 rfl
    (fun l hl => by
      rw [Tryz.params5] at hl
      match l, hl with
      | [_, _, _], _ => rfl) hW ?_
  obtain ⟨p, q, hA, hV, _, _, _⟩ := hW
  obtain ⟨rfl, rfl⟩ := trodVars_none hV
  rw [Tryz.params5] at hA hval hsz
  obtain ⟨v0, vs0, d0, ds0, p0, q0, hargs, rfl, rfl, h0, r0⟩ := trodAll_cons hA
  obtain ⟨v1, vs1, d1, ds1, p1, q1, rfl, rfl, rfl, h1, r1⟩ := trodAll_cons r0
  obtain ⟨v2, vs2, d2, ds2, p2, q2, rfl, rfl, rfl, h2, r2⟩ := trodAll_cons r1
  obtain ⟨rfl, rfl, rfl⟩ := trodAll_nil r2
  obtain rfl : args = #[v0, v1, v2] := by cases args; simp_all
  obtain ⟨l, sl, g, f, hun⟩ := open_entries (hval 0 30 v0 rfl rfl) h0 (wts_each hsz (j := 0) rfl rfl)
  obtain ⟨now, rfl, hn⟩ := int_in Tryz.underlying2 (hval 1 2 v1 rfl rfl)
  obtain ⟨A, sa, fa⟩ := open_strs (hval 2 24 v2 rfl rfl) h2 (wts_each hsz (j := 2) rfl rfl)
  exact BasicsEffects_calls sl sa g f fa hun hn (laidN_of hL)

noncomputable def beArgs : Array Value := #[.slice none 0 0, .int .i64 0, .slice none 0 0]

theorem be_reads (os : Os) {H : Type} (enc : TypeId × Value → H) : ∃ places, DataW.whole enc Tryz.prog ((laidWorld os).forCall (fun _ _ => 0) ⟨#[], beArgs, []⟩).memory Tryz.f5.params.toList Rows.basicsEffectsSpec.vars false beArgs.toList 8 =
    some ([.nil, .lit (.int .i64 0), .nil], [], places) :=
  ⟨[], by kernel_rfl⟩

set_option maxRecDepth 100000 in
theorem be_lifted (os : Os) (started : os.Started) (H : Type) (enc : TypeId × Value → H) (F : Stop.Interp) :
    ReturnsInHanded {} Tryz.checked os 5 .any ((OpenSpec.ofChange Rows.basicsEffectsSpec).preRow enc Tryz.prog Tryz.f5 Rows.basicsEffectsRow.domain false Rows.basicsEffectsRow.laid) (((OpenSpec.ofChange Rows.basicsEffectsSpec).at F).post enc Tryz.prog Tryz.f5 false true false false) := by
  obtain ⟨places, hx⟩ := be_reads os enc
  refine returnsInHanded_of_row (C := Tryz.checked) (s := OpenSpec.ofChange Rows.basicsEffectsSpec) own started (by kernel_rfl) Tryz.func5
    (witness_row_at (enc := enc) (C := Tryz.checked) false (laidWorld os) beArgs rfl (by kernel_rfl) (by kernel_rfl) (by kernel_rfl)
      (OpenSpec.preRow_of_cond 8 hx (by kernel_rfl) (fun k hk => by cases hk) (by kernel_rfl) (laid_met os beArgs))) ?_
  intro W base args ds gs before hval hW _ _ hsz hL _ _
  exact be_law H enc W base args ds gs before hval hW hL hsz

theorem be_said : Rows.BasicsEffectsSaid :=
  OpenClaim.holds_of_cond 5 Tryz.f5 rfl rfl rfl rfl rfl rfl rfl ⟨rfl, rfl, rfl, rfl, rfl⟩ rfl rfl rfl rfl rfl (by kernel_rfl) Tryz.func5 (by kernel_rfl)
    (of_decide_eq_true (by kernel_rfl)) (by unfold Func.isWrapper; first | (rw [if_pos (by decide +kernel)]; kernel_rfl) | (rw [if_neg (by decide +kernel)]; exact ⟨rfl, rfl⟩))
    (fun os started H enc _ F => by rw [OpenClaim.pre_eq_preRow]; exact be_lifted os started H enc F)

theorem be_plain (f : FuncId) (fn : Func) (hf : Tryz.pinned.checked.prog.funcNamed "tabor/taborlaw08.BasicsEffects" = some f) (hfn : Tryz.pinned.checked.prog.funcs[f]? = some fn) :
    true = Tryz.pinned.checked.prog.looks [] ∧ ∀ (j : Nat) t, fn.params[j]? = some t → Tryz.pinned.checked.prog.wantsStandIn t = false := by
  obtain rfl : f = 5 := Option.some.inj ((show Tryz.prog.funcNamed "tabor/taborlaw08.BasicsEffects" = some 5 by kernel_rfl).symm.trans hf) |>.symm
  obtain rfl : fn = Tryz.f5 := (Option.some.inj (Tryz.func5.symm.trans hfn)).symm
  refine ⟨by kernel_rfl, fun j t ht => ?_⟩
  rw [Tryz.params5] at ht
  have ht : t ∈ [30, 2, 24] := by simpa using Array.mem_of_getElem? ht
  rcases List.mem_cons.1 ht with h | h
  · subst h; exact (show Tryz.prog.wantsStandIn 30 = false by kernel_rfl)
  rcases List.mem_cons.1 h with h | h
  · subst h; exact (show Tryz.prog.wantsStandIn 2 = false by kernel_rfl)
  have h := List.mem_singleton.1 h
  subst h; exact (show Tryz.prog.wantsStandIn 24 = false by kernel_rfl)

theorem be_card : Rows.BasicsEffectsCardSaid :=
  Claim7.holds_tied_plain_at .later [] _ _ _ _ be_said (fun _ h => by cases h) (by kernel_rfl) (fun _ h => by cases h) basicsEffects_row_tie rfl ⟨rfl, rfl⟩ (by kernel_rfl) rfl be_plain (by kernel_rfl)
#print axioms be_card
end Go.Proofs.YtgmkldaonkbjgaaGreatDoor
namespace Go.Proofs.YtgmkldaonkbjgaaGreatDoor
open Go Go.Sx Go.Proofs.YtgmkldaonkbjgaaGreatDoor.C

theorem DoR.tell {h h' : Heap} {r : Value} {q : Rep} {E : List Eff} (x : DoR h (.ok (q, E)) r h') : Chg [] h h' ∧ ∃ ra rn rc la lc, r = .tuple ⟨[.agg ⟨[.int .i64 q.k, .int .i64 q.i, .string q.s, .slice ra rn rc]⟩, .slice la E.length lc, .bool true]⟩ ∧
    SL encD h' (.slice la E.length lc) E ∧ ∀ b ∈ ablk la, h.size ≤ b := by
  obtain ⟨c, v, lv, rfl, ⟨ra, rn, rc, rfl, _, _⟩, hs, hf⟩ := x
  obtain ⟨la, lc, rfl, _⟩ := hs.form
  exact ⟨c, ra, rn, rc, la, lc, rfl, hs, hf⟩

theorem getS_live {S : Space} {key : ByteArray} {t : Thing} {now : Int} (hf : findS S key = some t) (hg : goneT t now = false) : getS S key now = some t := by
  unfold getS
  rw [hf]
  simp [hg]
theorem getS_gone {S : Space} {key : ByteArray} {t : Thing} {now : Int} (hf : findS S key = some t) (hg : goneT t now = true) : getS S key now = none := by
  unfold getS
  rw [hf]
  simp [hg]
theorem num_itoa {n : Int} (h : In64 n) : numOf ⟨⟨Lib.itoa n⟩⟩ = some n := (Num.num_iff rfl (Lib.itoa n) n).2 ⟨⟨by have := h.1; omega, by have := h.2; omega⟩, rfl⟩

theorem digits_calls {h : Heap} {n : Int} (hl : LaidN h) (hn : In64 n) : CallsH Tryz.prog 13 [.int .i64 n] h (Ret fun r h' => r = .string ⟨⟨Lib.itoa n⟩⟩ ∧ Chg [] h h') := by
  refine f13_calls (by simp) ?_
  refine call_ret (format_calls hl hn.1 hn.2) ?_
  rintro _ h1 ⟨rfl, c1⟩
  exact ⟨rfl, c1⟩

def sSET : ByteArray := ⟨#[83, 69, 84]⟩
def sGET : ByteArray := ⟨#[71, 69, 84]⟩
def sPEX : ByteArray := ⟨#[80, 69, 88, 80, 73, 82, 69]⟩
def sEXI : ByteArray := ⟨#[69, 88, 73, 83, 84, 83]⟩
def sPTT : ByteArray := ⟨#[80, 84, 84, 76]⟩

section
variable {h : Heap} {kb sb mb c : Nat} {now n : Int} {av : Value} {m : List KI} {S : Space} {key text : ByteArray} {t : Thing}
theorem do_set (kr : KR h kb sb mb c m) (hs : Sorted m S) (hla : LaidN h) (hn : In64 now) (sa : SL encS h av [sSET, key, text]) (hk : key.size ≤ 300) (ht : text.size ≤ 300) :
    CallsH Tryz.prog 11 [ptr kb, .int .i64 now, av] h (Ret (DoR h (.ok (okR, putE S key text now false)))) := by
  have hc := do_plain (now := now) (w := sSET) kr sa (by simp) (by decide) (by kernel_rfl) (fun h1 ab av' x => set_calls x kr hs hla hn (fun a ha => by simp at ha; rcases ha with rfl | rfl <;> omega))
  rwa [show cSet S now up [key, text] = .ok (okR, putE S key text now false) from if_pos ⟨by omega, by omega⟩] at hc
theorem do_get (kr : KR h kb sb mb c m) (hs : Sorted m S) (sa : SL encS h av [sGET, key]) (hg : getS S key now = some t) (hk : t.kind = 1) :
    CallsH Tryz.prog 11 [ptr kb, .int .i64 now, av] h (Ret (DoR h (.ok (rep 4 0 t.text, [])))) := by
  have hc := do_plain (now := now) (w := sGET) kr sa (by simp) (by decide) (by kernel_rfl) (fun h1 ab av' x => get_calls x kr hs)
  rwa [show cGet S now [key] = .ok (rep 4 0 t.text, []) by show gGet (getS S key now) = _; rw [hg]; exact if_pos hk] at hc
theorem do_pex {s : ByteArray} (kr : KR h kb sb mb c m) (hs : Sorted m S) (hla : LaidN h) (hn : In64 now) (sa : SL encS h av [sPEX, key, s]) (hg : getS S key now = some t) (hs9 : numOf s = some n) (h1 : 1 ≤ n) (hok : okSum now n) (hk : key.size ≤ 300) (ht : s.size ≤ 300) :
    CallsH Tryz.prog 11 [ptr kb, .int .i64 now, av] h (Ret (DoR h (.ok (numR 1, [untilE key (now + n)])))) := by
  have hc := do_plain (now := now) (w := sPEX) kr sa (by simp) (by decide) (by kernel_rfl) (fun h1 ab av' x => expire_calls x kr hs hla hn (fun a ha => by simp at ha; rcases ha with rfl | rfl <;> omega))
  rwa [show cExpire S now [key, s] = .ok (numR 1, [untilE key (now + n)]) by
    show gExpire S now key (numOf s) = _
    rw [hs9]
    show (if here S now key = true then _ else _) = _
    rw [if_pos (show here S now key = true by unfold here; rw [hg]; rfl), if_neg (by omega), if_pos hok]] at hc
theorem do_exi (kr : KR h kb sb mb c m) (hs : Sorted m S) (sa : SL encS h av [sEXI, key]) : CallsH Tryz.prog 11 [ptr kb, .int .i64 now, av] h (Ret (DoR h (.ok (numR (if here S now key = true then 1 else 0), [])))) := by
  have hc := do_plain (now := now) (w := sEXI) kr sa (by simp) (by decide) (by kernel_rfl) (fun h1 ab av' x => exists_calls x kr hs)
  rwa [show cExists S now [key] = .ok (numR (if here S now key = true then 1 else 0), []) by
    show inMost 1 65536 [key] _ = _
    rw [inMost_yes (by simp), List.countP_singleton]
    split <;> rfl] at hc
theorem do_ptt (kr : KR h kb sb mb c m) (hs : Sorted m S) (hn : In64 now) (sa : SL encS h av [sPTT, key]) (hg : getS S key now = some t) (hu : t.hasU = true) (hi : In64 t.unt) (hok : okLeft t.unt now) :
    CallsH Tryz.prog 11 [ptr kb, .int .i64 now, av] h (Ret (DoR h (.ok (numR (t.unt - now), [])))) := by
  have hc := do_plain (now := now) (w := sPTT) kr sa (by simp) (by decide) (by kernel_rfl) (fun h1 ab av' x => left_calls x kr hs hn (fun k hk t' ht' => by
    have hk : k = key := by simpa using hk
    subst hk
    rw [hg] at ht'
    cases ht'
    exact hi))
  rwa [show cLeft S now [key] = .ok (numR (t.unt - now), []) by
    show gLeft now (getS S key now) = _
    rw [hg]
    show (if t.hasU = true then _ else _) = _
    rw [if_pos hu, if_pos hok]] at hc
end

set_option maxHeartbeats 1000000 in
theorem BasicsTold_calls {h : Heap} {v : Value} {l : List RX} {key text : ByteArray} {now n : Int} (hv : SL encX h v l) (g : GX h l) (f : XFit l) (hun : ∀ x ∈ l, In64 x.thing.unt) (hk9 : key.size < 4611686018427387904) (ht9 : text.size < 4611686018427387904) (hla : LaidN h) :
    CallsH Tryz.prog 6 [v, .agg ⟨[.string key, .string text, .int .i64 now, .int .i64 n]⟩] h (Ret fun r h' => r = .bool true ∧ Chg [] h h') := by
  refine f6_calls (by simp) ?_
  intro b3 h1 g1
  have w : St [] h h1 [.b b3 [.string key, .string text, .int .i64 now, .int .i64 n]] := (St.start h).new g1
  refine w.ld1 0 rfl rfl ?_
  refine w.ld1 0 rfl rfl ?_
  intro b4 h2 g2
  have hu : SL encS h2 (.slice (some ⟨b4, 0, none⟩) 2 2) [key, text] := by
    refine ⟨_, 2, rfl, Nat.le_refl _, ?_⟩
    exact cells_blk g2.blk
  have C2 := g1.chg.nil g2.chg
  refine call_ret (vast8_calls (hv.ext C2) hu (g.ext C2) f ⟨by simp, fun e he => by simp at he; rcases he with rfl | rfl <;> assumption⟩) ?_
  rintro _ h3 ⟨⟨b, rfl, hb⟩, c3⟩
  have C3 := C2.nil c3
  have w := (w.ext g2.chg).ext c3
  cases b with
  | true => exact kn8 hla C3 fun h' c => And.intro rfl c
  | false =>
    obtain ⟨nv, sm⟩ := hb rfl
    have hk := sm.each key (by simp)
    have ht := sm.each text (by simp)
    refine w.ld1 0 rfl rfl ?_
    refine And.intro rfl (And.intro (fun _ => kn8 hla C3 fun h' c => And.intro rfl c) (fun n0 => ?_))
    refine w.ld1 0 rfl rfl ?_
    refine And.intro rfl (And.intro (fun _ => kn8 hla C3 fun h' c => And.intro rfl c) (fun n1 => ?_))
    refine w.ld1 0 rfl rfl ?_
    refine And.intro rfl (And.intro (fun _ => kn8 hla C3 fun h' c => And.intro rfl c) (fun n2 => ?_))
    refine w.ld1 0 rfl rfl ?_
    refine And.intro rfl (And.intro (fun _ => kn8 hla C3 fun h' c => And.intro rfl c) (fun n3 => ?_))
    have hn : In64 now := ⟨by omega, by omega⟩
    have hnn : In64 n := ⟨by omega, by omega⟩
    refine call_ret (KOf_calls (hv.ext C3) (g.ext C3) nv) ?_
    rintro r2 h4 ⟨c4, ho⟩
    have C4 := C3.nil c4
    cases hk2 : ofX [] l with
    | none =>
      rw [hk2] at ho
      subst ho
      refine And.intro rfl (And.intro (fun _ => ?_) (fun hne => absurd (by decide) hne))
      exact kn8 hla C4 fun h3 c3 => And.intro rfl c3
    | some k =>
      rw [hk2] at ho
      obtain ⟨kb, sb, mb, c, m, rfl, kr, hpr, hmb⟩ := ho
      have hW := sorted_of hpr hk2
      have s8 := s8_of nv hk2 hun
      generalize k.map RX.pr = S at hW s8
      have few := s8.few
      have hlen := few.len
      have hlm : mb < h4.size := get_lt kr.map
      have z3 := C3.size
      have w : St [] h h4 [ltE mb, .b b3 [.string key, .string text, .int .i64 now, .int .i64 n]] := w.add (e := ltE mb) c4 hlm (fun b hb => by simp [ltE, En.fp] at hb; omega)
      have apply1 : ∀ {h5 h6 : Heap} {M : List En}, St [] h h5 (ltE mb :: M) → Chg [mb] h5 h6 → St [] h h6 (ltE mb :: M) := fun w c6 =>
        w.set 0 rfl c6 (fun b hb => .inl hb) (Nat.lt_of_lt_of_le (show mb < _ from w.get 0 rfl) c6.size) (fun b hb => .inl hb)
      refine And.intro rfl (And.intro (fun hne => absurd rfl hne) (fun _ => ?_))
      -- SET
      refine w.ld1 1 rfl rfl ?_
      refine w.ld1 1 rfl rfl ?_
      refine w.ld1 1 rfl rfl ?_
      intro b5 h5 g5
      refine call_ret (do_set (kr.ext g5.chg) hW (hla.ext (C4.nil g5.chg)) hn (key := key) (text := text) (show SL encS h5 (.slice (some ⟨b5, 0, none⟩) 3 3) [sSET, key, text] from ⟨_, 3, rfl, Nat.le_refl _, by exact cells_blk g5.blk⟩) hk ht) ?_
      rintro r6 h6 hr
      obtain ⟨c6, ra, rn, rc, la, lc, rfl, hsl, hfr⟩ := hr.tell
      obtain ⟨S1, u1, v1, ha1, up1, hf1, hst, hl1⟩ := all_put (S := S) (k := key) (s := text) (now := now) (stays := false) few.up (by omega) (by omega) (by omega)
      obtain ⟨rfl, rfl⟩ := hst rfl
      have hap := all_apply ha1
      have dl := putE_len (S := S) (k := key) (s := text) (now := now) (stays := false)
      generalize hE : putE S key text now false = E at hsl hap dl
      have k6 := g5.chg.nil c6
      intro b7 h7 g7
      have w := (((w.ext g5.chg).ext c6).new g7)
      refine w.st2 0 rfl rfl rfl rfl fun h8 w k8 => ?_
      have z5 := g5.size; have i5 := g5.id; have i7 := g7.id; have z6 := c6.size; have z7 := g7.size
      have k68 : Chg [] h6 h8 := g7.chg.fresh k8 (by simp; omega)
      have k48 := k6.nil k68
      refine call_ret (ApplyG_calls (kr.ext k48) hW few.ins (fun h' hc => (hsl.ext k68).chg hc fun b hb => by have := hfr b hb; simp; omega) (by omega)) ?_
      rintro _ h9 ⟨rfl, c', m1, kr1, hs1, in1, c9⟩
      rw [hap] at hs1 in1 ⊢
      have w := apply1 (w.swap) c9
      -- GET
      have t1 : getS S1 key now = some (textT text) := getS_live hf1 rfl
      refine w.ld1 2 rfl rfl ?_
      refine w.ld1 2 rfl rfl ?_
      intro b10 h10 g10
      refine call_ret (do_get (kr1.ext g10.chg) hs1 (show SL encS h10 (.slice (some ⟨b10, 0, none⟩) 2 2) [sGET, key] from ⟨_, 2, rfl, Nat.le_refl _, by exact cells_blk g10.blk⟩) t1 rfl) ?_
      rintro r11 h11 hr
      obtain ⟨c11, ra, rn, rc, la, lc, rfl, _, _⟩ := hr.tell
      have k11 := g10.chg.nil c11
      intro b12 h12 g12
      have w := (((w.ext g10.chg).ext c11).new g12)
      refine w.st2 0 rfl rfl rfl rfl fun h13 w k13 => ?_
      have z10 := g10.size; have i12 := g12.id; have z11 := c11.size; have z12 := g12.size
      have k913 : Chg [] h9 h13 := k11.nil (g12.chg.fresh k13 (by simp; omega))
      -- is all as it was put?
      refine w.ld1 2 rfl rfl ?_
      refine And.intro (fun hne => absurd rfl hne) (fun _ => ?_)
      refine And.intro rfl (And.intro (fun hne => absurd rfl hne) (fun _ => ?_))
      refine w.ld1 0 rfl rfl ?_
      refine And.intro rfl (And.intro (fun hne => absurd rfl hne) (fun _ => ?_))
      refine w.ld1 0 rfl rfl ?_
      refine w.ld1 3 rfl rfl ?_
      refine And.intro (fun hne => absurd rfl hne) (fun _ => ?_)
      refine And.intro rfl (And.intro (fun hne => absurd rfl hne) (fun _ => ?_))
      -- PEXPIRE
      have C9 : Chg [] h h9 := w.chg.nil (Chg.refl _) |> fun _ => (C4.nil k48).fresh c9 (by simp; omega)
      have C13 := C9.nil k913
      refine w.ld1 3 rfl rfl ?_
      refine w.ld1 3 rfl rfl ?_
      refine w.ld1 3 rfl rfl ?_
      refine callq_ret (digits_calls (hla.ext C13) hnn) ?_
      rintro _ h14 ⟨rfl, c14⟩
      refine And.intro c14.ext ?_
      intro b15 h15 g15
      have k15 := (k913.nil c14).nil g15.chg
      have hisz : (⟨⟨Lib.itoa n⟩⟩ : ByteArray).size ≤ 300 := by
        have h9 : (Lib.itoa (0 + n)).length ≤ 20 := itoa_len (k := 0) (n := n) ⟨by omega, by omega⟩
        rw [Int.zero_add] at h9
        show (Lib.itoa n).length ≤ _
        omega
      have hok : okSum now n := ⟨by omega, by omega⟩
      refine callq_ret (do_pex (kr1.ext k15) hs1 (hla.ext (C9.nil k15)) hn (show SL encS h15 (.slice (some ⟨b15, 0, none⟩) 3 3) [sPEX, key, ⟨⟨Lib.itoa n⟩⟩] from ⟨_, 3, rfl, Nat.le_refl _, by exact cells_blk g15.blk⟩) t1 (num_itoa hnn) (by omega) hok hk hisz) ?_
      rintro r16 h16 hr
      obtain ⟨c16, ra, rn, rc, la, lc, rfl, hsl2, hfr2⟩ := hr.tell
      refine And.intro c16.ext ?_
      have w := (((w.ext c14).ext g15.chg).ext c16)
      have k16 := k15.nil c16
      have hfu := (fate_until (n := now + n) hf1 (by omega) (by show (0 : Nat) + 0 + 0 ≤ 65536; omega)).2 rfl
      have ha2 : allS S1 [untilE key (now + n)] = some (putS S1 key { textT text with hasU := true, unt := now + n }) := by
        rw [all_one (by rw [hfu]; rfl), hfu]; rfl
      have hf2 : findS (putS S1 key { textT text with hasU := true, unt := now + n }) key = some { textT text with hasU := true, unt := now + n } := by rw [find_put up1, if_pos rfl]
      have hap2 := all_apply ha2
      generalize putS S1 key { textT text with hasU := true, unt := now + n } = S2 at hf2 hap2
      have z15 := g15.size; have z14 := c14.size; have z13 := k13.size; have z9 := c9.size; have z8 := k8.size
      refine call_ret (ApplyG_calls (kr1.ext k16) hs1 in1 (fun h' hc => hsl2.chg hc fun b hb => by have := hfr2 b hb; simp; omega) (by simp)) ?_
      rintro _ h17 ⟨rfl, c2', m2, kr2, hs2, in2, c17⟩
      rw [hap2] at hs2 in2 ⊢
      have C17 : Chg [] h h17 := (C9.nil k16).fresh c17 (by simp; omega)
      have w := apply1 ((w.pick [1, 0, 2, 3] (by decide))) c17
      -- EXISTS, ahead of its time
      refine w.ld1 3 rfl rfl ?_
      refine w.ld1 3 rfl rfl ?_
      refine And.intro rfl (fun z hz => ?_)
      have hz := hz.trans (wrap_in (by omega) (by omega))
      subst hz
      refine And.intro rfl (fun z hz => ?_)
      have hz := hz.trans (wrap_in (by omega) (by omega))
      subst hz
      refine w.ld1 3 rfl rfl ?_
      intro b18 h18 g18
      refine call_ret (do_exi (kr2.ext g18.chg) hs2 (show SL encS h18 (.slice (some ⟨b18, 0, none⟩) 2 2) [sEXI, key] from ⟨_, 2, rfl, Nat.le_refl _, by exact cells_blk g18.blk⟩)) ?_
      rw [if_pos (show here S2 (now + n - 1) key = true by unfold here; rw [getS_live hf2 (by show (true && decide (now + n ≤ now + n - 1)) = false; rw [decide_eq_false (by omega)]; rfl)]; rfl)]
      rintro r19 h19 hr
      obtain ⟨c19, ra, rn, rc, la, lc, rfl, _, _⟩ := hr.tell
      intro b20 h20 g20
      have w := (((w.ext g18.chg).ext c19).new g20)
      refine w.st2 0 rfl rfl rfl rfl fun h21 w k21 => ?_
      have z18 := g18.size; have i20 := g20.id; have z19 := c19.size
      have k21 : Chg [] h17 h21 := (g18.chg.nil c19).nil (g20.chg.fresh k21 (by simp; omega))
      -- EXISTS, at its time
      refine w.ld1 4 rfl rfl ?_
      refine w.ld1 4 rfl rfl ?_
      refine And.intro rfl (fun z hz => ?_)
      have hz := hz.trans (wrap_in (by omega) (by omega))
      subst hz
      refine w.ld1 4 rfl rfl ?_
      intro b22 h22 g22
      refine call_ret (do_exi (kr2.ext (k21.nil g22.chg)) hs2 (show SL encS h22 (.slice (some ⟨b22, 0, none⟩) 2 2) [sEXI, key] from ⟨_, 2, rfl, Nat.le_refl _, by exact cells_blk g22.blk⟩)) ?_
      rw [if_neg (show ¬ here S2 (now + n) key = true by unfold here; rw [getS_gone hf2 (by show (true && decide (now + n ≤ now + n)) = true; rw [decide_eq_true (by omega)]; rfl)]; simp)]
      rintro r23 h23 hr
      obtain ⟨c23, ra, rn, rc, la, lc, rfl, _, _⟩ := hr.tell
      intro b24 h24 g24
      have w := (((w.ext g22.chg).ext c23).new g24)
      refine w.st2 0 rfl rfl rfl rfl fun h25 w k25 => ?_
      have z22 := g22.size; have i24 := g24.id; have z23 := c23.size
      have k25 : Chg [] h17 h25 := ((k21.nil g22.chg).nil c23).nil (g24.chg.fresh k25 (by simp; omega))
      -- PTTL
      refine w.ld1 5 rfl rfl ?_
      refine w.ld1 5 rfl rfl ?_
      intro b26 h26 g26
      refine call_ret (do_ptt (kr2.ext (k25.nil g26.chg)) hs2 hn (show SL encS h26 (.slice (some ⟨b26, 0, none⟩) 2 2) [sPTT, key] from ⟨_, 2, rfl, Nat.le_refl _, by exact cells_blk g26.blk⟩)
        (getS_live hf2 (by show (true && decide (now + n ≤ now)) = false; rw [decide_eq_false (by omega)]; rfl)) rfl ⟨by show _ ≤ now + n; omega, by show now + n ≤ _; omega⟩ ⟨by show _ ≤ now + n - now; omega, by show now + n - now ≤ _; omega⟩) ?_
      rintro r27 h27 hr
      obtain ⟨c27, ra, rn, rc, la, lc, rfl, _, _⟩ := hr.tell
      intro b28 h28 g28
      have w := (((w.ext g26.chg).ext c27).new g28)
      refine w.st2 0 rfl rfl rfl rfl fun h29 w k29 => ?_
      refine And.intro rfl (And.intro (fun _ => ?_) (fun hne => absurd rfl hne))
      refine w.ld1 2 rfl rfl ?_
      refine And.intro rfl (And.intro (fun _ => ?_) (fun hne => absurd rfl hne))
      refine w.ld1 1 rfl rfl ?_
      refine And.intro rfl (And.intro (fun _ => ?_) (fun hne => absurd rfl hne))
      refine w.ld1 1 rfl rfl ?_
      refine And.intro rfl (And.intro (fun _ => ?_) (fun hne => absurd rfl hne))
      refine w.ld1 0 rfl rfl ?_
      refine w.ld1 6 rfl rfl ?_
      refine And.intro rfl (And.intro (fun _ => ?_) (fun hne => absurd (show now + n - now = n by omega) hne))
      exact kn8 hla w.chg fun h' c => And.intro rfl c

end Go.Proofs.YtgmkldaonkbjgaaGreatDoor
namespace Go.Proofs.YtgmkldaonkbjgaaGreatDoor
open Go Go.Sx Go.ChangeShapes Go.WideShapes Go.ChangeAt Go.RowKit

theorem bt_params : ∀ t ∈ Tryz.f6.params.toList, Tryz.prog.readableRec t = true ∧ t < Tryz.prog.types.size := by
  rw [Tryz.params6]
  intro t ht
  have ht : t ∈ [30, 50] := ht
  rcases List.mem_cons.1 ht with h | h
  · subst h; exact ⟨by kernel_rfl, of_decide_eq_true (by kernel_rfl)⟩
  have h := List.mem_singleton.1 h
  subst h; exact ⟨by kernel_rfl, of_decide_eq_true (by kernel_rfl)⟩

theorem len4 {α : Type} {l : List α} (h : l.length = 4) : ∃ a0 a1 a2 a3, l = [a0, a1, a2, a3] := by
  match l, h with
  | [a0, a1, a2, a3], _ => exact ⟨a0, a1, a2, a3, rfl⟩

set_option maxRecDepth 100000 in
theorem open_told {H : Type} {enc : TypeId × Value → H} {W : World} {base : Nat} {sp : Nat → Bool} {held : Bool} {v : Value} {d : DataW H} {ps : List MemPlace} {r : Reach} {b0 : Nat} (hval : Value.okWide Tryz.prog W r b0 50 v) (h : DataW.Trod enc Tryz.prog W base sp held 50 v d ps) (hw : Wts Tryz.prog 50 d) :
    ∃ (key text : ByteArray) (now n : Int), v = .agg ⟨[.string key, .string text, .int .i64 now, .int .i64 n]⟩ ∧ key.size < 1000000000000000000 ∧ text.size < 1000000000000000000 := by
  have hval' := hval
  unfold Value.okWide at hval'
  rw [Tryz.underlying50] at hval'
  obtain ⟨cs, rfl, hcs, _⟩ := hval'
  obtain ⟨fuel, h⟩ := h
  obtain ⟨xs, m, rfl, hx, hl, hls, hi⟩ := DataW.trod_struct Tryz.underlying50 h
  have hd : d = .agg (xs.map (·.1)) := congrArg Prod.fst hx
  have c9 : Tryz.prog.cellsOf 9 = 1 := by kernel_rfl
  have c2 : Tryz.prog.cellsOf 2 = 1 := by kernel_rfl
  have c4 : Tryz.prog.cellsOf 50 = 4 := by kernel_rfl
  obtain ⟨cs⟩ := cs
  rw [c4] at hcs
  obtain ⟨a0, a1, a2, a3, rfl⟩ := len4 (l := cs) hcs
  obtain ⟨y0, y1, y2, y3, rfl⟩ := len4 (l := xs) hls
  have h0 := fld hi 0 9 0 1 rfl rfl rfl c9 rfl rfl
  have h1 := fld hi 1 9 1 1 rfl rfl rfl c9 rfl rfl
  have h2 := fld hi 2 2 2 1 rfl rfl rfl c2 rfl rfl
  have h3 := fld hi 3 2 3 1 rfl rfl rfl c2 rfl rfl
  have hwk : ∀ (i t : Nat) (y : DataW H × List MemPlace), [9, 9, 2, 2][i]? = some t → [y0, y1, y2, y3][i]? = some y → Wts Tryz.prog t y.1 := by
    intro i t y ht hy k hk
    refine hw k ?_
    rw [hd]
    simp only [DataW.weights, Tryz.underlying50]
    refine DataW.weights_mem_each (j := i) (t := t) (d := y.1) ?_ ?_ k hk
    · exact ht
    · rw [List.getElem?_map, hy]; rfl
  obtain ⟨key, e0, hs0⟩ := str_of_trod Tryz.underlying9 h0 (hwk 0 9 y0 rfl rfl)
  obtain ⟨text, e1, hs1⟩ := str_of_trod Tryz.underlying9 h1 (hwk 1 9 y1 rfl rfl)
  obtain ⟨now, e2, _, _⟩ := DataW.trod_int Tryz.underlying2 h2
  obtain ⟨n, e3, _, _⟩ := DataW.trod_int Tryz.underlying2 h3
  obtain ⟨rfl⟩ := e0
  obtain ⟨rfl⟩ := e1
  obtain ⟨rfl⟩ := e2
  obtain ⟨rfl⟩ := e3
  have := reachBytes_lt
  exact ⟨key, text, now, n, rfl, by omega, by omega⟩

set_option maxRecDepth 100000 in
theorem bt_law (H : Type) (enc : TypeId × Value → H) (W : World) (base : Nat) (args : Array Value) (ds gs : List (DataW H)) (before : List MemPlace)
    (hval : ∀ (j : Nat) t v, Tryz.f6.params[j]? = some t → args[j]? = some v → Value.okWide Tryz.prog W .any base t v)
    (hW : DataW.Whole enc Tryz.prog Tryz.f6.params.toList Rows.basicsToldSpec.vars false W args.toList ds gs before)
    (hL : laidMetH Tryz.prog laid5 W)
    (hsz : (DataW.weightsEach Tryz.prog (Tryz.f6.params.toList ++ (OpenSpec.ofChange Rows.basicsToldSpec).bare.plain.varTypes Tryz.prog) (ds ++ gs)).all (· ≤ reachBytes) = true) :
    Calls Tryz.prog 6 args W fun e W' => ∃ v, e = .returned v ∧ Rows.basicsToldSpec.post enc Tryz.prog Tryz.f6 false true false false W args v W' := by
  refine lift_law (tb := 4) laidOut bt_params rfl Tryz.underlying4 rfl
    (fun l hl => by
      rw [Tryz.params6] at hl
      match l, hl with
      | [_, _], _ => rfl) hW ?_
  obtain ⟨p, q, hA, hV, _, _, _⟩ := hW
  obtain ⟨rfl, rfl⟩ := trodVars_none hV
  rw [Tryz.params6] at hA hval hsz
  obtain ⟨v0, vs0, d0, ds0, p0, q0, hargs, rfl, rfl, h0, r0⟩ := trodAll_cons hA
  obtain ⟨v1, vs1, d1, ds1, p1, q1, rfl, rfl, rfl, h1, r1⟩ := trodAll_cons r0
  obtain ⟨rfl, rfl, rfl⟩ := trodAll_nil r1
  obtain rfl : args = #[v0, v1] := by cases args; simp_all
  obtain ⟨l, sl, g, f, hun⟩ := open_entries (hval 0 30 v0 rfl rfl) h0 (wts_each hsz (j := 0) rfl rfl)
  obtain ⟨key, text, now, n, rfl, z1, z2⟩ := open_told (hval 1 50 v1 rfl rfl) h1 (wts_each hsz (j := 1) rfl rfl)
  exact BasicsTold_calls sl g f hun (by omega) (by omega) (laidN_of hL)

noncomputable def btArgs : Array Value := #[.slice none 0 0, .agg #[.string ByteArray.empty, .string ByteArray.empty, .int .i64 0, .int .i64 0]]

theorem bt_reads (os : Os) {H : Type} (enc : TypeId × Value → H) : ∃ places, DataW.whole enc Tryz.prog ((laidWorld os).forCall (fun _ _ => 0) ⟨#[], btArgs, []⟩).memory Tryz.f6.params.toList Rows.basicsToldSpec.vars false btArgs.toList 8 =
    some ([.nil, .agg [.lit (.string []), .lit (.string []), .lit (.int .i64 0), .lit (.int .i64 0)]], [], places) :=
  ⟨[], by kernel_rfl⟩

set_option maxRecDepth 100000 in
theorem bt_lifted (os : Os) (started : os.Started) (H : Type) (enc : TypeId × Value → H) (F : Stop.Interp) :
    ReturnsInHanded {} Tryz.checked os 6 .any ((OpenSpec.ofChange Rows.basicsToldSpec).preRow enc Tryz.prog Tryz.f6 Rows.basicsToldRow.domain false Rows.basicsToldRow.laid) (((OpenSpec.ofChange Rows.basicsToldSpec).at F).post enc Tryz.prog Tryz.f6 false true false false) := by
  obtain ⟨places, hx⟩ := bt_reads os enc
  refine returnsInHanded_of_row (C := Tryz.checked) (s := OpenSpec.ofChange Rows.basicsToldSpec) own started (by kernel_rfl) Tryz.func6
    (witness_row_at (enc := enc) (C := Tryz.checked) false (laidWorld os) btArgs rfl (by kernel_rfl) (by kernel_rfl) (by kernel_rfl)
      (OpenSpec.preRow_of_cond 8 hx (by kernel_rfl) (fun k hk => by cases hk) (by kernel_rfl) (laid_met os btArgs))) ?_
  intro W base args ds gs before hval hW _ _ hsz hL _ _
  exact bt_law H enc W base args ds gs before hval hW hL hsz

theorem bt_said : Rows.BasicsToldSaid :=
  OpenClaim.holds_of_cond 6 Tryz.f6 rfl rfl rfl rfl rfl rfl rfl ⟨rfl, rfl, rfl, rfl, rfl⟩ rfl rfl rfl rfl rfl (by kernel_rfl) Tryz.func6 (by kernel_rfl)
    (of_decide_eq_true (by kernel_rfl)) (by unfold Func.isWrapper; first | (rw [if_pos (by decide +kernel)]; kernel_rfl) | (rw [if_neg (by decide +kernel)]; exact ⟨rfl, rfl⟩))
    (fun os started H enc _ F => by rw [OpenClaim.pre_eq_preRow]; exact bt_lifted os started H enc F)

theorem bt_plain (f : FuncId) (fn : Func) (hf : Tryz.pinned.checked.prog.funcNamed "tabor/taborlaw08.BasicsTold" = some f) (hfn : Tryz.pinned.checked.prog.funcs[f]? = some fn) :
    true = Tryz.pinned.checked.prog.looks [] ∧ ∀ (j : Nat) t, fn.params[j]? = some t → Tryz.pinned.checked.prog.wantsStandIn t = false := by
  obtain rfl : f = 6 := Option.some.inj ((show Tryz.prog.funcNamed "tabor/taborlaw08.BasicsTold" = some 6 by kernel_rfl).symm.trans hf) |>.symm
  obtain rfl : fn = Tryz.f6 := (Option.some.inj (Tryz.func6.symm.trans hfn)).symm
  refine ⟨by kernel_rfl, fun j t ht => ?_⟩
  rw [Tryz.params6] at ht
  have ht : t ∈ [30, 50] := by simpa using Array.mem_of_getElem? ht
  rcases List.mem_cons.1 ht with h | h
  · subst h; exact (show Tryz.prog.wantsStandIn 30 = false by kernel_rfl)
  have h := List.mem_singleton.1 h
  subst h; exact (show Tryz.prog.wantsStandIn 50 = false by kernel_rfl)

theorem bt_card : Rows.BasicsToldCardSaid :=
  Claim7.holds_tied_plain_at .later [] _ _ _ _ bt_said (fun _ h => by cases h) (by kernel_rfl) (fun _ h => by cases h) basicsTold_row_tie rfl ⟨rfl, rfl⟩ (by kernel_rfl) rfl bt_plain (by kernel_rfl)
#print axioms bt_card
end Go.Proofs.YtgmkldaonkbjgaaGreatDoor
