/-
  The world of a witness: the tables and errors of strconv and math/bits as they are laid.
  Layer 7: things, entries and effects opened.
  Layer 8: strconv's laid variables, as the walks want them; arguments opened.
  BasicsCounts: a thing is counted up, down, by any number, its time stays; for every thing, every time, every text.
-/
import Derived.Test.YtgmkldaonkbjgaaGreatDoorCards
import Derived.Test.YtgmkldaonkbjgaaGreatDoorTie
import Derived.Deep.DeepHandedRow
import Derived.ProofKit
import Derived.Test.YtgmkldaonkbjgaaGreatDoorVE
namespace Go.Proofs.YtgmkldaonkbjgaaGreatDoor
open Go Go.Sx Go.ChangeShapes Go.WideShapes Go.ChangeAt Go.RowKit

theorem own : ownKnob Tryz.prog.godebug = none := by kernel_rfl
theorem laidOut : laidOutB Tryz.prog = true := by kernel_rfl

def tab32 : List Int := [0, 1, 28, 2, 29, 14, 24, 3, 30, 22, 20, 15, 25, 17, 4, 8, 31, 27, 13, 23, 21, 19, 16, 7, 26, 12, 18, 6, 11, 5, 10, 9]
def tab64 : List Int := [0, 1, 56, 2, 57, 49, 28, 3, 61, 58, 42, 50, 38, 29, 17, 4, 62, 47, 59, 36, 45, 43, 51, 22, 53, 39, 33, 30, 24, 18, 12, 5, 63, 55, 48, 27, 60, 41, 37, 16, 46, 35, 44, 21, 52, 32, 23, 11, 54, 26, 40, 15, 34, 20, 31, 10, 25, 14, 19, 9, 13, 8, 7, 6]
def pow10 : List Int := [1, 10, 100, 1000, 10000, 100000, 1000000, 10000000, 100000000, 1000000000, 10000000000, 100000000000, 1000000000000, 10000000000000, 100000000000000, 1000000000000000, 10000000000000000, 100000000000000000, 1000000000000000000, 10000000000000000000]
def wordRange : ByteArray := ⟨#[118, 97, 108, 117, 101, 32, 111, 117, 116, 32, 111, 102, 32, 114, 97, 110, 103, 101]⟩
def wordSyntax : ByteArray := ⟨#[105, 110, 118, 97, 108, 105, 100, 32, 115, 121, 110, 116, 97, 120]⟩
def laid5 : List (String × DataW Unit) := [("math/bits.deBruijn32tab", Rows.laid_math_bits_deBruijn32tab), ("math/bits.deBruijn64tab", Rows.laid_math_bits_deBruijn64tab), ("internal/strconv.uint64pow10", Rows.laid_internal_strconv_uint64pow10), ("strconv.ErrRange", Rows.laid_strconv_ErrRange), ("strconv.ErrSyntax", Rows.laid_strconv_ErrSyntax)]

def putTab (vs : Array Value) : Obj → Obj
  | .cells _ t frozen => .cells vs t frozen
  | o => o
noncomputable def bare (os : Os) : World := World.holding Tryz.prog os ⟨#[], #[], []⟩
noncomputable def laidWorld (os : Os) : World :=
  { bare os with heap := ((((((bare os).heap.modify 2 (putTab (tab32.map fun z => Value.int .u8 z).toArray)).modify 3 (putTab (tab64.map fun z => Value.int .u8 z).toArray)).modify 1 (putTab (pow10.map fun z => Value.int .u64 z).toArray)).modify 5
    (putTab #[.iface 246 (.pointer (some ⟨(bare os).heap.size, 0, none⟩))])).modify 4 (putTab #[.iface 246 (.pointer (some ⟨(bare os).heap.size + 1, 0, none⟩))])) ++
    #[.cells #[.string wordRange] 248 (0, 0), .cells #[.string wordSyntax] 248 (0, 0)] }
theorem laid_met (os : Os) (args : Array Value) : laidMet Tryz.prog laid5 ((laidWorld os).forCall (fun _ _ => 0) ⟨#[], args, []⟩).memory :=
  laidMet_of_run' 8 (by kernel_rfl) (by kernel_rfl)

theorem int_arg {P : Program} {W : World} {b0 : Nat} {r : Reach} {t : TypeId} {v : Value} (ht : P.underlying t = some (.int .i64)) (hval : Value.okWide P W r b0 t v) :
    ∃ n, v = .int .i64 n := by
  simp only [Value.okWide, Cell.okWide, Cell.ok, ht] at hval
  split at hval <;> simp_all

theorem str_arg {P : Program} {W : World} {b0 : Nat} {r : Reach} {t : TypeId} {v : Value} (ht : P.underlying t = some .string) (hval : Value.okWide P W r b0 t v) :
    ∃ s, v = .string s := by
  simp only [Value.okWide, Cell.okWide, Cell.ok, ht] at hval
  split at hval <;> simp_all

end Go.Proofs.YtgmkldaonkbjgaaGreatDoor
namespace Go.Proofs.YtgmkldaonkbjgaaGreatDoor
open Go Go.Sx Go.ChangeShapes Go.WideShapes Go.ChangeAt Go.RowKit

theorem len2 {α : Type} {l : List α} (h : l.length = 2) : ∃ a b, l = [a, b] := by
  match l, h with
  | [a, b], _ => exact ⟨a, b, rfl⟩
theorem len7 {α : Type} {l : List α} (h : l.length = 7) : ∃ a0 a1 a2 a3 a4 a5 a6, l = [a0, a1, a2, a3, a4, a5, a6] := by
  match l, h with
  | [a0, a1, a2, a3, a4, a5, a6], _ => exact ⟨a0, a1, a2, a3, a4, a5, a6, rfl⟩
theorem len8 {α : Type} {l : List α} (h : l.length = 8) : ∃ a0 a1 a2 a3 a4 a5 a6 a7, l = [a0, a1, a2, a3, a4, a5, a6, a7] := by
  match l, h with
  | [a0, a1, a2, a3, a4, a5, a6, a7], _ => exact ⟨a0, a1, a2, a3, a4, a5, a6, a7, rfl⟩

section
variable {H : Type} {enc : TypeId × Value → H} {W : World} {base n : Nat} {sp : Nat → Bool} {held : Bool} {cs : List Value} {x : DataW H × List MemPlace}

theorem open_rank (h : DataW.trod enc Tryz.prog W base sp held n 90 cs = some x) (hw : Wts Tryz.prog 90 x.1) : ∃ a : Rank, cs = encR a ∧ a.name.size < 1000000000000000000 := by
  obtain ⟨xs, m, rfl, hx, hl, hls, hi⟩ := DataW.trod_struct Tryz.underlying90 h
  have c9 : Tryz.prog.cellsOf 9 = 1 := by kernel_rfl
  have c2 : Tryz.prog.cellsOf 2 = 1 := by kernel_rfl
  have cc : Tryz.prog.cellsOf 90 = 2 := by kernel_rfl
  rw [cc] at hl
  obtain ⟨u, v, rfl⟩ := len2 hl
  obtain ⟨y, z, rfl⟩ := len2 (l := xs) hls
  have h0 := fld hi 0 9 0 1 rfl rfl rfl c9 rfl rfl
  have h1 := fld hi 1 2 1 1 rfl rfl rfl c2 rfl rfl
  have hw0 : Wts Tryz.prog 9 y.1 := by
    intro k hk
    refine hw k ?_
    rw [hx]
    simp only [DataW.weights, Tryz.underlying90, List.map_cons, List.map_nil, DataW.weightsEach, List.mem_append]
    exact .inl hk
  obtain ⟨nm, e0, hs⟩ := str_of_trod Tryz.underlying9 h0 hw0
  obtain ⟨k, e1, _, _⟩ := DataW.trod_int Tryz.underlying2 h1
  obtain ⟨rfl⟩ := e0
  obtain ⟨rfl⟩ := e1
  have := reachBytes_lt
  exact ⟨⟨nm, k⟩, rfl, by show nm.size < _; omega⟩

theorem open_pair (h : DataW.trod enc Tryz.prog W base sp held n 88 cs = some x) (hw : Wts Tryz.prog 88 x.1) : ∃ a : Pair, cs = encP a ∧ a.name.size < 1000000000000000000 ∧ a.text.size < 1000000000000000000 := by
  obtain ⟨xs, m, rfl, hx, hl, hls, hi⟩ := DataW.trod_struct Tryz.underlying88 h
  have c9 : Tryz.prog.cellsOf 9 = 1 := by kernel_rfl
  have cc : Tryz.prog.cellsOf 88 = 2 := by kernel_rfl
  rw [cc] at hl
  obtain ⟨u, v, rfl⟩ := len2 hl
  obtain ⟨y, z, rfl⟩ := len2 (l := xs) hls
  have h0 := fld hi 0 9 0 1 rfl rfl rfl c9 rfl rfl
  have h1 := fld hi 1 9 1 1 rfl rfl rfl c9 rfl rfl
  have hw0 : Wts Tryz.prog 9 y.1 := by
    intro k hk
    refine hw k ?_
    rw [hx]
    simp only [DataW.weights, Tryz.underlying88, List.map_cons, List.map_nil, DataW.weightsEach, List.mem_append]
    exact .inl hk
  have hw1 : Wts Tryz.prog 9 z.1 := by
    intro k hk
    refine hw k ?_
    rw [hx]
    simp only [DataW.weights, Tryz.underlying88, List.map_cons, List.map_nil, DataW.weightsEach, List.mem_append]
    exact .inr (.inl hk)
  obtain ⟨nm, e0, hs⟩ := str_of_trod Tryz.underlying9 h0 hw0
  obtain ⟨tx, e1, hs1⟩ := str_of_trod Tryz.underlying9 h1 hw1
  obtain ⟨rfl⟩ := e0
  obtain ⟨rfl⟩ := e1
  have := reachBytes_lt
  exact ⟨⟨nm, tx⟩, rfl, by show nm.size < _; omega, by show tx.size < _; omega⟩

theorem open_s (h : DataW.trod enc Tryz.prog W base sp held n 9 cs = some x) (hw : Wts Tryz.prog 9 x.1) : ∃ a : ByteArray, cs = encS a ∧ a.size < 1000000000000000000 := by
  obtain ⟨nm, e0, hs⟩ := str_of_trod Tryz.underlying9 h hw
  have := reachBytes_lt
  exact ⟨nm, e0, by omega⟩

set_option maxRecDepth 100000 in
theorem open_thing (h : DataW.trod enc Tryz.prog W base sp held n 27 cs = some x) (hw : Wts Tryz.prog 27 x.1) :
    ∃ t : Thing, TH W.heap cs t ∧ Fits t ∧ Sized t ∧ cs.length = 7 ∧ (-9223372036854775808 ≤ t.unt ∧ t.unt ≤ 9223372036854775807) := by
  obtain ⟨xs, m, rfl, hx, hl, hls, hi⟩ := DataW.trod_struct Tryz.underlying27 h
  have hd : x.1 = .agg (xs.map (·.1)) := congrArg Prod.fst hx
  have c9 : Tryz.prog.cellsOf 9 = 1 := by kernel_rfl
  have c2 : Tryz.prog.cellsOf 2 = 1 := by kernel_rfl
  have c4 : Tryz.prog.cellsOf 4 = 1 := by kernel_rfl
  have c22 : Tryz.prog.cellsOf 22 = 1 := by kernel_rfl
  have c23 : Tryz.prog.cellsOf 23 = 1 := by kernel_rfl
  have c24 : Tryz.prog.cellsOf 24 = 1 := by kernel_rfl
  have c25 : Tryz.prog.cellsOf 25 = 1 := by kernel_rfl
  have c27 : Tryz.prog.cellsOf 27 = 7 := by kernel_rfl
  rw [c27] at hl
  obtain ⟨a0, a1, a2, a3, a4, a5, a6, rfl⟩ := len7 hl
  obtain ⟨y0, y1, y2, y3, y4, y5, y6, rfl⟩ := len7 (l := xs) hls
  have h0 := fld hi 0 22 0 1 rfl rfl rfl c22 rfl rfl
  have h1 := fld hi 1 9 1 1 rfl rfl rfl c9 rfl rfl
  have h2 := fld hi 2 23 2 1 rfl rfl rfl c23 rfl rfl
  have h3 := fld hi 3 24 3 1 rfl rfl rfl c24 rfl rfl
  have h4 := fld hi 4 25 4 1 rfl rfl rfl c25 rfl rfl
  have h5 := fld hi 5 4 5 1 rfl rfl rfl c4 rfl rfl
  have h6 := fld hi 6 2 6 1 rfl rfl rfl c2 rfl rfl
  have hwk : ∀ (i t : Nat) (y : DataW H × List MemPlace), [22, 9, 23, 24, 25, 4, 2][i]? = some t → [y0, y1, y2, y3, y4, y5, y6][i]? = some y → Wts Tryz.prog t y.1 := by
    intro i t y ht hy k hk
    refine hw k ?_
    rw [hd]
    simp only [DataW.weights, Tryz.underlying27]
    refine DataW.weights_mem_each (j := i) (t := t) (d := y.1) ?_ ?_ k hk
    · exact ht
    · rw [List.getElem?_map, hy]; rfl
  obtain ⟨kd, e0, _, _⟩ := DataW.trod_int Tryz.underlying22 h0
  obtain ⟨tx, e1, hs1⟩ := str_of_trod Tryz.underlying9 h1 (hwk 1 9 y1 rfl rfl)
  obtain ⟨lp, sp, gp, np⟩ := open_cell (k := 2) (en := encP) Tryz.underlying23 (by kernel_rfl) (by decide) encP_len (fun n cs x h hw => open_pair h hw) h2 (hwk 2 23 y2 rfl rfl)
  obtain ⟨ll, sl, gl, nl⟩ := open_cell (k := 1) (en := encS) Tryz.underlying24 (by kernel_rfl) (by decide) encS_len (fun n cs x h hw => open_s h hw) h3 (hwk 3 24 y3 rfl rfl)
  obtain ⟨lr, sr, gr, nr⟩ := open_cell (k := 2) (en := encR) Tryz.underlying25 (by kernel_rfl) (by decide) encR_len (fun n cs x h hw => open_rank h hw) h4 (hwk 4 25 y4 rfl rfl)
  obtain ⟨bu, e5, _⟩ := DataW.trod_bool Tryz.underlying4 h5
  obtain ⟨un, e6, _, wf6⟩ := DataW.trod_int Tryz.underlying2 h6
  have un6 : -9223372036854775808 ≤ un ∧ un ≤ 9223372036854775807 := by
    unfold Lit.wf at wf6
    simp only [Bool.and_eq_true, decide_eq_true_eq] at wf6
    exact wf6
  obtain ⟨rfl⟩ := e0
  obtain ⟨rfl⟩ := e1
  obtain ⟨rfl⟩ := e5
  obtain ⟨rfl⟩ := e6
  have b32 : Tryz.prog.bytesOf 88 = 32 := by kernel_rfl
  have b9 : Tryz.prog.bytesOf 9 = 16 := by kernel_rfl
  have b34 : Tryz.prog.bytesOf 90 = 24 := by kernel_rfl
  rw [b32] at np
  rw [b9] at nl
  rw [b34] at nr
  have := reachBytes_lt
  refine ⟨⟨kd, tx, lp, ll, lr, bu, un⟩, ⟨_, _, _, rfl, sp, sl, sr⟩, ⟨?_, ?_, ?_⟩, ⟨?_, gp, gl, gr⟩, rfl, un6⟩
  · show lp.length < _; omega
  · show ll.length < _; omega
  · show lr.length < _; omega
  · show tx.size < _; omega

structure GoodX (h : Heap) (x : RX) : Prop where
  th : TH h x.vs x.thing
  fits : Fits x.thing
  sized : Sized x.thing
  key : x.key.size < 1000000000000000000
  unt : -9223372036854775808 ≤ x.thing.unt ∧ x.thing.unt ≤ 9223372036854775807

set_option maxRecDepth 100000 in
theorem open_entry (h : DataW.trod enc Tryz.prog W base sp held n 29 cs = some x) (hw : Wts Tryz.prog 29 x.1) : ∃ a : RX, cs = encX a ∧ GoodX W.heap a := by
  obtain ⟨xs, m, rfl, hx, hl, hls, hi⟩ := DataW.trod_struct Tryz.underlying29 h
  have hd : x.1 = .agg (xs.map (·.1)) := congrArg Prod.fst hx
  have c9 : Tryz.prog.cellsOf 9 = 1 := by kernel_rfl
  have c7 : Tryz.prog.cellsOf 27 = 7 := by kernel_rfl
  have cc : Tryz.prog.cellsOf 29 = 8 := by kernel_rfl
  rw [cc] at hl
  obtain ⟨k0, a0, a1, a2, a3, a4, a5, a6, rfl⟩ := len8 hl
  obtain ⟨y, z, rfl⟩ := len2 (l := xs) hls
  have h0 := fld hi 0 9 0 1 rfl rfl rfl c9 rfl rfl
  have h1 := fld hi 1 27 1 7 rfl rfl rfl c7 rfl rfl
  have hwk : ∀ (i t : Nat) (w : DataW H × List MemPlace), [9, 27][i]? = some t → [y, z][i]? = some w → Wts Tryz.prog t w.1 := by
    intro i t y ht hy k hk
    refine hw k ?_
    rw [hd]
    simp only [DataW.weights, Tryz.underlying29]
    refine DataW.weights_mem_each (j := i) (t := t) (d := y.1) ?_ ?_ k hk
    · exact ht
    · rw [List.getElem?_map, hy]; rfl
  obtain ⟨key, e0, hz⟩ := str_of_trod Tryz.underlying9 h0 (hwk 0 9 y rfl rfl)
  obtain ⟨t, th, ft, st, hl7, un⟩ := open_thing h1 (hwk 1 27 z rfl rfl)
  obtain ⟨rfl⟩ := e0
  have := reachBytes_lt
  exact ⟨⟨key, t, _, hl7, thing_one th⟩, rfl, th, ft, st, by show key.size < _; omega, un⟩

end

end Go.Proofs.YtgmkldaonkbjgaaGreatDoor
namespace Go.Proofs.YtgmkldaonkbjgaaGreatDoor
open Go Go.Sx Go.ChangeShapes Go.WideShapes Go.ChangeAt Go.RowKit

theorem trod_iface {H : Type} {enc : TypeId × Value → H} {P : Program} {w : World} {base n : Nat} {sp : Nat → Bool} {held : Bool} {t : TypeId} {cs : List Value} {x : DataW H × List MemPlace}
    (ht : (match P.underlying t with | some (.interface _) => true | _ => false) = true) (h : DataW.trod enc P w base sp held n t cs = some x) : ∃ v, cs = [v] ∧ IfaceV v := by
  obtain ⟨ms, ht⟩ : ∃ ms, P.underlying t = some (.interface ms) := by
    split at ht
    · rename_i ms h1; exact ⟨ms, h1⟩
    · cases ht
  cases n with
  | zero => simp [DataW.trod] at h
  | succ n =>
    simp only [DataW.trod, ht] at h
    split at h <;> first | exact ⟨_, rfl, .inl rfl⟩ | exact ⟨_, rfl, .inr ⟨_, _, rfl⟩⟩ | (exfalso; simp_all; done)

theorem errV {W : World} {n : String} {gi : Nat} {g : Nat} {t : TypeId} {cs : Array Value} {fuel : Nat} {d : DataW Unit} {p : List MemPlace} (hgi : Tryz.prog.globalNamed n = some gi) (hti : (Tryz.prog.globals[gi]?).map (·.type) = some 183)
    (hg : Tryz.prog.globalNamed n = some g) (ht : (Tryz.prog.globals[g]?).map (·.type) = some t) (hv : W.var? Tryz.prog n = some cs) (h : DataW.trod (fun _ => ()) Tryz.prog W 0 (fun _ => true) false fuel t cs.toList = some (d, p)) :
    ∃ v, cell W.heap gi 0 = some v ∧ IfaceV v := by
  obtain rfl := Option.some.inj (hgi.symm.trans hg)
  obtain rfl := Option.some.inj (hti.symm.trans ht)
  obtain ⟨v, e, hi⟩ := trod_iface (by kernel_rfl) h
  refine ⟨v, ?_, hi⟩
  unfold World.var? at hv
  rw [hgi] at hv
  have hv : (match W.heap[gi]? with | some (.cells cs _ _) => some cs | _ => none) = some cs := hv
  unfold cell
  split at hv
  · rename_i h1
    injection hv with hv
    subst hv
    rw [h1]
    show (_ : Array Value)[0]? = _
    rw [← Array.getElem?_toList, e]; rfl
  · cases hv

theorem laidN_of {W : World} (h : laidMetH Tryz.prog laid5 W) : LaidN W.heap := by
  have h : laidMet Tryz.prog laid5 W := h
  obtain ⟨ps, ⟨_, _, _, _, _, _, _, _, _, _, ⟨_, _, _, _, _, _, _, _, _, _, ⟨g, t, cs, fuel, p, q, hg, ht, hv, htr, ⟨g2, t2, cs2, fuel2, p2, q2, hg2, ht2, hv2, htr2, ⟨g3, t3, cs3, fuel3, p3, q3, hg3, ht3, hv3, htr3, _, _⟩, _⟩, _⟩, _⟩, _⟩, _⟩ := h
  refine ⟨?_, errV (by kernel_rfl) (by kernel_rfl) hg3 ht3 hv3 htr3, errV (by kernel_rfl) (by kernel_rfl) hg2 ht2 hv2 htr2⟩
  have hgi : Tryz.prog.globalNamed "internal/strconv.uint64pow10" = some 1 := by kernel_rfl
  have hti : (Tryz.prog.globals[1]?).map (·.type) = some 200 := by kernel_rfl
  obtain rfl := Option.some.inj (hgi.symm.trans hg)
  obtain rfl := Option.some.inj (hti.symm.trans ht)
  have hc := Lib.cells_of_tab (k := .u64) (zs := Lib.pow10Tab) (n := 20) (e := 167) (by kernel_rfl) (by kernel_rfl) (by kernel_rfl) (by kernel_rfl) htr
  unfold World.var? at hv
  rw [hgi] at hv
  have hv : (match W.heap[(1 : Nat)]? with | some (.cells cs _ _) => some cs | _ => none) = some cs := hv
  split at hv
  · rename_i h1
    injection hv with hv
    subst hv
    exact ⟨_, _, by rw [h1, ← hc]⟩
  · cases hv


section
variable {H : Type} {enc : TypeId × Value → H} {W : World} {base n : Nat} {sp : Nat → Bool} {held : Bool}
end

end Go.Proofs.YtgmkldaonkbjgaaGreatDoor
namespace Go.Proofs.YtgmkldaonkbjgaaGreatDoor
open Go Go.Sx Go.ChangeShapes Go.WideShapes Go.ChangeAt Go.RowKit

theorem bc_params : ∀ t ∈ Tryz.f3.params.toList, Tryz.prog.readableRec t = true ∧ t < Tryz.prog.types.size := by
  rw [Tryz.params3]
  intro t ht
  have ht : t ∈ [29, 2, 9] := ht
  rcases List.mem_cons.1 ht with h | h
  · subst h; exact ⟨by kernel_rfl, of_decide_eq_true (by kernel_rfl)⟩
  rcases List.mem_cons.1 h with h | h
  · subst h; exact ⟨by kernel_rfl, of_decide_eq_true (by kernel_rfl)⟩
  have h := List.mem_singleton.1 h
  subst h; exact ⟨by kernel_rfl, of_decide_eq_true (by kernel_rfl)⟩

set_option maxRecDepth 100000 in
theorem open_entryP {H : Type} {enc : TypeId × Value → H} {W : World} {base : Nat} {sp : Nat → Bool} {held : Bool} {v : Value} {d : DataW H} {ps : List MemPlace} {r : Reach} {b0 : Nat} (hval : Value.okWide Tryz.prog W r b0 29 v) (h : DataW.Trod enc Tryz.prog W base sp held 29 v d ps) (hw : Wts Tryz.prog 29 d) :
    ∃ a : RX, v = .agg ⟨encX a⟩ ∧ GoodX W.heap a := by
  have hval' := hval
  unfold Value.okWide at hval'
  rw [Tryz.underlying29] at hval'
  obtain ⟨cs, rfl, _, _⟩ := hval'
  obtain ⟨fuel, h⟩ := h
  obtain ⟨cs⟩ := cs
  obtain ⟨a, e, ga⟩ := open_entry (x := (d, ps)) h hw
  have e : cs = encX a := e
  exact ⟨a, by rw [e], ga⟩

set_option maxRecDepth 100000 in
theorem bc_law (H : Type) (enc : TypeId × Value → H) (W : World) (base : Nat) (args : Array Value) (ds gs : List (DataW H)) (before : List MemPlace)
    (hval : ∀ (j : Nat) t v, Tryz.f3.params[j]? = some t → args[j]? = some v → Value.okWide Tryz.prog W .any base t v)
    (hW : DataW.Whole enc Tryz.prog Tryz.f3.params.toList Rows.basicsCountsSpec.vars false W args.toList ds gs before)
    (hL : laidMetH Tryz.prog laid5 W)
    (hsz : (DataW.weightsEach Tryz.prog (Tryz.f3.params.toList ++ (OpenSpec.ofChange Rows.basicsCountsSpec).bare.plain.varTypes Tryz.prog) (ds ++ gs)).all (· ≤ reachBytes) = true) :
    Calls Tryz.prog 3 args W fun e W' => ∃ v, e = .returned v ∧ Rows.basicsCountsSpec.post enc Tryz.prog Tryz.f3 false true false false W args v W' := by
  refine lift_law (tb := 4) laidOut bc_params rfl Tryz.underlying4 rfl
    (fun l hl => by
      rw [Tryz.params3] at hl
      match l, hl with
      | [_, _, _], _ => rfl) hW ?_
  obtain ⟨p, q, hA, hV, _, _, _⟩ := hW
  obtain ⟨rfl, rfl⟩ := trodVars_none hV
  rw [Tryz.params3] at hA hval hsz
  obtain ⟨v0, vs0, d0, ds0, p0, q0, hargs, rfl, rfl, h0, r0⟩ := trodAll_cons hA
  obtain ⟨v1, vs1, d1, ds1, p1, q1, rfl, rfl, rfl, h1, r1⟩ := trodAll_cons r0
  obtain ⟨v2, vs2, d2, ds2, p2, q2, rfl, rfl, rfl, h2, r2⟩ := trodAll_cons r1
  obtain ⟨rfl, rfl, rfl⟩ := trodAll_nil r2
  obtain rfl : args = #[v0, v1, v2] := by cases args; simp_all
  obtain ⟨x, rfl, gx⟩ := open_entryP (hval 0 29 v0 rfl rfl) h0 (wts_each hsz (j := 0) rfl rfl)
  obtain ⟨now, rfl⟩ := int_arg Tryz.underlying2 (hval 1 2 v1 rfl rfl)
  obtain ⟨s, rfl⟩ := str_arg Tryz.underlying9 (hval 2 9 v2 rfl rfl)
  obtain ⟨n2, h2⟩ := h2
  obtain ⟨nm, e0, z⟩ := str_of_trod Tryz.underlying9 h2 (wts_each hsz (j := 2) rfl rfl)
  have e0 : [Value.string s] = [Value.string nm] := e0
  injection e0 with e0 _
  injection e0 with e0
  subst e0
  have := reachBytes_lt
  have one : ∀ y ∈ [x], y = x := fun y hy => List.mem_singleton.1 hy
  exact BasicsCounts_calls (fun y hy => by rw [one y hy]; exact gx.th) ⟨by simp, fun y hy => by rw [one y hy]; have := gx.key; omega, fun y hy => by rw [one y hy]; exact gx.fits, fun y hy => by rw [one y hy]; exact gx.sized⟩ gx.unt (by omega) (laidN_of hL)

noncomputable def bcArgs : Array Value := #[.agg #[.string ByteArray.empty, .int .i64 0, .string ByteArray.empty, .slice none 0 0, .slice none 0 0, .slice none 0 0, .bool false, .int .i64 0], .int .i64 0, .string ByteArray.empty]

theorem bc_reads (os : Os) {H : Type} (enc : TypeId × Value → H) : ∃ places, DataW.whole enc Tryz.prog ((laidWorld os).forCall (fun _ _ => 0) ⟨#[], bcArgs, []⟩).memory Tryz.f3.params.toList Rows.basicsCountsSpec.vars false bcArgs.toList 8 =
    some ([.agg [.lit (.string []), .agg [.lit (.int .i64 0), .lit (.string []), .nil, .nil, .nil, .lit (.bool false), .lit (.int .i64 0)]], .lit (.int .i64 0), .lit (.string [])], [], places) :=
  ⟨[], by kernel_rfl⟩

set_option maxRecDepth 100000 in
theorem bc_lifted (os : Os) (started : os.Started) (H : Type) (enc : TypeId × Value → H) (F : Stop.Interp) :
    ReturnsInHanded {} Tryz.checked os 3 .any ((OpenSpec.ofChange Rows.basicsCountsSpec).preRow enc Tryz.prog Tryz.f3 Rows.basicsCountsRow.domain false Rows.basicsCountsRow.laid) (((OpenSpec.ofChange Rows.basicsCountsSpec).at F).post enc Tryz.prog Tryz.f3 false true false false) := by
  obtain ⟨places, hx⟩ := bc_reads os enc
  refine returnsInHanded_of_row (C := Tryz.checked) (s := OpenSpec.ofChange Rows.basicsCountsSpec) own started (by kernel_rfl) Tryz.func3
    (witness_row_at (enc := enc) (C := Tryz.checked) false (laidWorld os) bcArgs rfl (by kernel_rfl) (by kernel_rfl) (by kernel_rfl)
      (OpenSpec.preRow_of_cond 8 hx (by kernel_rfl) (fun k hk => by cases hk) (by kernel_rfl) (laid_met os bcArgs))) ?_
  intro W base args ds gs before hval hW _ _ hsz hL _ _
  exact bc_law H enc W base args ds gs before hval hW hL hsz

theorem bc_said : Rows.BasicsCountsSaid :=
  OpenClaim.holds_of_cond 3 Tryz.f3 rfl rfl rfl rfl rfl rfl rfl ⟨rfl, rfl, rfl, rfl, rfl⟩ rfl rfl rfl rfl rfl (by kernel_rfl) Tryz.func3 (by kernel_rfl)
    (of_decide_eq_true (by kernel_rfl)) (by unfold Func.isWrapper; first | (rw [if_pos (by decide +kernel)]; kernel_rfl) | (rw [if_neg (by decide +kernel)]; exact ⟨rfl, rfl⟩))
    (fun os started H enc _ F => by rw [OpenClaim.pre_eq_preRow]; exact bc_lifted os started H enc F)

theorem bc_plain (f : FuncId) (fn : Func) (hf : Tryz.pinned.checked.prog.funcNamed "tabor/taborlaw08.BasicsCounts" = some f) (hfn : Tryz.pinned.checked.prog.funcs[f]? = some fn) :
    true = Tryz.pinned.checked.prog.looks [] ∧ ∀ (j : Nat) t, fn.params[j]? = some t → Tryz.pinned.checked.prog.wantsStandIn t = false := by
  obtain rfl : f = 3 := Option.some.inj ((show Tryz.prog.funcNamed "tabor/taborlaw08.BasicsCounts" = some 3 by kernel_rfl).symm.trans hf) |>.symm
  obtain rfl : fn = Tryz.f3 := (Option.some.inj (Tryz.func3.symm.trans hfn)).symm
  refine ⟨by kernel_rfl, fun j t ht => ?_⟩
  rw [Tryz.params3] at ht
  have ht : t ∈ [29, 2, 9] := by simpa using Array.mem_of_getElem? ht
  rcases List.mem_cons.1 ht with h | h
  · subst h; exact (show Tryz.prog.wantsStandIn 29 = false by kernel_rfl)
  rcases List.mem_cons.1 h with h | h
  · subst h; exact (show Tryz.prog.wantsStandIn 2 = false by kernel_rfl)
  have h := List.mem_singleton.1 h
  subst h; exact (show Tryz.prog.wantsStandIn 9 = false by kernel_rfl)

theorem bc_card : Rows.BasicsCountsCardSaid :=
  Claim7.holds_tied_plain_at .later [] _ _ _ _ bc_said (fun _ h => by cases h) (by kernel_rfl) (fun _ h => by cases h) basicsCounts_row_tie rfl ⟨rfl, rfl⟩ (by kernel_rfl) rfl bc_plain (by kernel_rfl)
#print axioms bc_card
end Go.Proofs.YtgmkldaonkbjgaaGreatDoor
