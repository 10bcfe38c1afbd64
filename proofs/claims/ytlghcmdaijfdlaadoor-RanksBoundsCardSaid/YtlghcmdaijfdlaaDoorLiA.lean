/-
  The lift of layer 5's laws: the tables, members opened, the witness's world.
-/
import Derived.Test.YtlghcmdaijfdlaaDoorSxT
import Derived.Test.YtlghcmdaijfdlaaDoorLwF
import Derived.Test.YtlghcmdaijfdlaaDoorCards
import Derived.Test.YtlghcmdaijfdlaaDoorTie
import Derived.Deep.DeepHandedRow
namespace Go.Proofs.YtlghcmdaijfdlaaDoor
open Go Go.Sx Go.ChangeShapes Go.WideShapes Go.ChangeAt Go.RowKit

theorem own : ownKnob Tryd.prog.godebug = none := by kernel_rfl
theorem laidOut : laidOutB Tryd.prog = true := by kernel_rfl

def tab32 : List Int := [0, 1, 28, 2, 29, 14, 24, 3, 30, 22, 20, 15, 25, 17, 4, 8, 31, 27, 13, 23, 21, 19, 16, 7, 26, 12, 18, 6, 11, 5, 10, 9]
def tab64 : List Int := [0, 1, 56, 2, 57, 49, 28, 3, 61, 58, 42, 50, 38, 29, 17, 4, 62, 47, 59, 36, 45, 43, 51, 22, 53, 39, 33, 30, 24, 18, 12, 5, 63, 55, 48, 27, 60, 41, 37, 16, 46, 35, 44, 21, 52, 32, 23, 11, 54, 26, 40, 15, 34, 20, 31, 10, 25, 14, 19, 9, 13, 8, 7, 6]
def laid2 : List (String × DataW Unit) := [("math/bits.deBruijn32tab", Lib.tabData .u8 tab32), ("math/bits.deBruijn64tab", Lib.tabData .u8 tab64)]

theorem g64 : Tryd.prog.globalNamed "math/bits.deBruijn64tab" = some 1 := by kernel_rfl

theorem tab64_in : ∀ i < 64, 0 ≤ tab64.getD i 0 ∧ tab64.getD i 0 ≤ 255 := by decide

theorem laid_tail {P : Program} {W : World} {x : String × DataW Unit} {l : List (String × DataW Unit)} (h : laidMet P (x :: l) W) : ∃ ps, DataW.LaidVars P W l ps := by
  obtain ⟨ps, ⟨g', t', cs, fuel, p, q, hg', ht', hvar, hd, hr, _⟩, _⟩ := h
  exact ⟨q, hr⟩

theorem tabH_of {W : World} {t : TypeId} {e : TypeId} (hty : (Tryd.prog.globals[1]?).map (·.type) = some t) (ht : Tryd.prog.underlying t = some (.array 64 e)) (he : Tryd.prog.underlying e = some (.int .u8)) (hce : Tryd.prog.cellsOf e = 1) (hct : Tryd.prog.cellsOf t = 64)
    (h : laidMetH Tryd.prog laid2 W) : TabH W.heap := by
  have h' : laidMet Tryd.prog laid2 W := h
  obtain ⟨ps, g', t', cs, fuel, p, q, hg', ht', hvar, hd, _, _⟩ := laid_tail h'
  obtain rfl := Option.some.inj (g64.symm.trans hg')
  obtain rfl := Option.some.inj (hty.symm.trans ht')
  have hcs := Lib.cells_of_tab ht he hce hct hd
  intro i hi
  have hc := World.var?_cell g64 hvar i
  have h1 := tab64_in i hi
  refine ⟨tab64.getD i 0, h1.1, h1.2, ?_⟩
  rw [← world_cell, hc]
  have e1 : cs[i]? = cs.toList[i]? := by simp
  rw [e1, hcs]
  have hi' : i < tab64.length := hi
  simp [List.getD, hi']

theorem tab_of {W : World} (h : laidMetH Tryd.prog laid2 W) : TabH W.heap :=
  tabH_of (t := 98) (e := 5) (by kernel_rfl) (by kernel_rfl) (by kernel_rfl) (by kernel_rfl) (by kernel_rfl) h

/-- A member, opened. -/
theorem open_rank {H : Type} {enc : TypeId × Value → H} {W : World} {base n : Nat} {sp : Nat → Bool} {held : Bool} {cs : List Value} {x : DataW H × List MemPlace} (h : DataW.trod enc Tryd.prog W base sp held n 40 cs = some x) (hw : Wts Tryd.prog 40 x.1) :
    ∃ a : Rank, cs = encR a ∧ a.name.size < 4611686018427387904 := by
  obtain ⟨xs, m, rfl, hx, hl, hls, hi⟩ := DataW.trod_struct Tryd.underlying40 h
  have c9 : Tryd.prog.cellsOf 9 = 1 := by kernel_rfl
  have c2 : Tryd.prog.cellsOf 2 = 1 := by kernel_rfl
  have c40 : Tryd.prog.cellsOf 40 = 2 := by kernel_rfl
  rw [c40] at hl
  obtain ⟨u, v, rfl⟩ : ∃ u v, cs = [u, v] := by
    match cs, hl with
    | [u, v], _ => exact ⟨u, v, rfl⟩
  obtain ⟨y, z, rfl⟩ : ∃ y z, xs = [y, z] := by
    match xs, hls with
    | [y, z], _ => exact ⟨y, z, rfl⟩
  have h0 := fld hi 0 9 0 1 rfl rfl rfl c9 rfl rfl
  have h1 := fld hi 1 2 1 1 rfl rfl rfl c2 rfl rfl
  have hw0 : Wts Tryd.prog 9 y.1 := by
    intro k hk
    refine hw k ?_
    rw [hx]
    simp only [DataW.weights, Tryd.underlying40, List.map_cons, List.map_nil, DataW.weightsEach, List.mem_append]
    exact .inl hk
  obtain ⟨nm, e0, hs⟩ := str_of_trod Tryd.underlying9 h0 hw0
  obtain ⟨k, e1, _, _⟩ := DataW.trod_int Tryd.underlying2 h1
  obtain ⟨rfl⟩ := e0
  obtain ⟨rfl⟩ := e1
  have := reachBytes_lt
  exact ⟨⟨nm, k⟩, rfl, by show nm.size < _; omega⟩

theorem open_ranks {H : Type} {enc : TypeId × Value → H} {W : World} {base b0 : Nat} {r : Reach} {sp : Nat → Bool} {held : Bool} {v : Value} {d : DataW H} {ps : List MemPlace} (hval : Value.okWide Tryd.prog W r b0 22 v) (h : DataW.Trod enc Tryd.prog W base sp held 22 v d ps) (hw : Wts Tryd.prog 22 d) :
    ∃ l : List Rank, SL encR W.heap v l ∧ (∀ a ∈ l, a.name.size < 4611686018427387904) ∧ l.length < 4611686018427387904 := by
  obtain ⟨l, h1, h2, h3⟩ := open_slice (k := 2) (en := encR) Tryd.underlying22 (by kernel_rfl) (by decide) encR_len (fun n cs x h hw => open_rank h hw) hval h hw
  refine ⟨l, h1, h2, ?_⟩
  have hb : Tryd.prog.bytesOf 40 = 24 := by kernel_rfl
  rw [hb] at h3
  have := reachBytes_lt
  omega

theorem open_str {H : Type} {enc : TypeId × Value → H} {W : World} {base b0 : Nat} {r : Reach} {sp : Nat → Bool} {held : Bool} {v : Value} {d : DataW H} {ps : List MemPlace} (hval : Value.okWide Tryd.prog W r b0 9 v) (h : DataW.Trod enc Tryd.prog W base sp held 9 v d ps) :
    ∃ s : ByteArray, v = .string s := by
  obtain ⟨s, rfl, _⟩ := ChangeMaps.open_string Tryd.underlying9 hval h
  exact ⟨s, rfl⟩

def setTab (zs : List Int) : Obj → Obj
  | .cells _ t frozen => .cells (zs.map fun z => Value.int .u8 z).toArray t frozen
  | o => o
/-- A world for the witness: the settled one, the tables as they are laid. -/
noncomputable def laidWorld (os : Os) : World :=
  { World.holding Tryd.prog os ⟨#[], #[], []⟩ with heap := ((World.holding Tryd.prog os ⟨#[], #[], []⟩).heap.modify 0 (setTab tab32)).modify 1 (setTab tab64) }
theorem laid_met (os : Os) (args : Array Value) : laidMet Tryd.prog laid2 ((laidWorld os).forCall (fun _ _ => 0) ⟨#[], args, []⟩).memory :=
  laidMet_of_run' 8 (by kernel_rfl) (by kernel_rfl)

end Go.Proofs.YtlghcmdaijfdlaaDoor
