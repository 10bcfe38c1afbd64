/-
  Layer 17: arguments opened: trees, and bounds of runs.
-/
import Derived.Test.YtomcocbcajidcaaGreatDoorMNB
import Derived.Test.YtomcocbcajidcaaGreatDoorSxV
namespace Go.Proofs.YtomcocbcajidcaaGreatDoor
open Go Go.Sx Go.ChangeShapes Go.WideShapes Go.ChangeAt Go.RowKit

theorem len6 {α : Type} {l : List α} (h : l.length = 6) : ∃ a0 a1 a2 a3 a4 a5, l = [a0, a1, a2, a3, a4, a5] := by
  match l, h with
  | [a0, a1, a2, a3, a4, a5], _ => exact ⟨a0, a1, a2, a3, a4, a5, rfl⟩

section
variable {H : Type} {enc : TypeId × Value → H} {W : World} {base : Nat} {sp : Nat → Bool} {held : Bool}

theorem oks_of {h : Heap} : ∀ {l : List ND}, (∀ t ∈ l, t.ok h) → ND.oks h l
  | [], _ => trivial
  | t :: l, hl => ⟨hl t (by simp), oks_of fun u hu => hl u (by simp [hu])⟩

theorem open_s {n : Nat} {cs : List Value} {x : DataW H × List MemPlace} (h : DataW.trod enc Tryz.prog W base sp held n 9 cs = some x) (hw : Wts Tryz.prog 9 x.1) : ∃ a : ByteArray, cs = encS a ∧ True := by
  obtain ⟨nm, e0, _⟩ := str_of_trod Tryz.underlying9 h hw
  exact ⟨nm, e0, trivial⟩

set_option maxRecDepth 100000 in
theorem open_names {n : Nat} {v : Value} {x : DataW H × List MemPlace} (h : DataW.trod enc Tryz.prog W base sp held n 23 [v] = some x) (hw : Wts Tryz.prog 23 x.1) : ∃ l : List ByteArray, SL encS W.heap v l ∧ l.length < 4611686018427387904 := by
  obtain ⟨l, sl, _, nl⟩ := open_cell (k := 1) (en := encS) Tryz.underlying23 (by kernel_rfl) (by decide) encS_len (fun n cs x h hw => open_s h hw) h hw
  have b : Tryz.prog.bytesOf 9 = 16 := by kernel_rfl
  rw [b] at nl
  have := reachBytes_lt
  exact ⟨l, sl, by omega⟩

set_option maxRecDepth 100000 in
theorem open_node (N : Nat) : ∀ (n : Nat), n < N → ∀ (cs : List Value) (x : DataW H × List MemPlace), DataW.trod enc Tryz.prog W base sp held n 26 cs = some x → Wts Tryz.prog 26 x.1 → ∃ t : ND, cs = encN t ∧ t.ok W.heap := by
  induction N with
  | zero => intro n hn; omega
  | succ N ih =>
    intro n hn cs x h hw
    obtain ⟨xs, m, rfl, hx, hl, hls, hi⟩ := DataW.trod_struct Tryz.underlying26 h
    have hd : x.1 = .agg (xs.map (·.1)) := congrArg Prod.fst hx
    have c9 : Tryz.prog.cellsOf 9 = 1 := by kernel_rfl
    have c2 : Tryz.prog.cellsOf 2 = 1 := by kernel_rfl
    have ck : Tryz.prog.cellsOf 22 = 1 := by kernel_rfl
    have cs' : Tryz.prog.cellsOf 23 = 1 := by kernel_rfl
    have cl : Tryz.prog.cellsOf 24 = 1 := by kernel_rfl
    have cc : Tryz.prog.cellsOf 26 = 6 := by kernel_rfl
    rw [cc] at hl
    obtain ⟨a0, a1, a2, a3, a4, a5, rfl⟩ := len6 hl
    obtain ⟨y0, y1, y2, y3, y4, y5, rfl⟩ := len6 (l := xs) hls
    have h0 := fld hi 0 22 0 1 rfl rfl rfl ck rfl rfl
    have h1 := fld hi 1 9 1 1 rfl rfl rfl c9 rfl rfl
    have h2 := fld hi 2 9 2 1 rfl rfl rfl c9 rfl rfl
    have h3 := fld hi 3 2 3 1 rfl rfl rfl c2 rfl rfl
    have h4 := fld hi 4 23 4 1 rfl rfl rfl cs' rfl rfl
    have h5 := fld hi 5 24 5 1 rfl rfl rfl cl rfl rfl
    have hwk : ∀ (i t : Nat) (y : DataW H × List MemPlace), [22, 9, 9, 2, 23, 24][i]? = some t → [y0, y1, y2, y3, y4, y5][i]? = some y → Wts Tryz.prog t y.1 := by
      intro i t y ht hy k hk
      refine hw k ?_
      rw [hd]
      simp only [DataW.weights, Tryz.underlying26]
      refine DataW.weights_mem_each (j := i) (t := t) (d := y.1) ?_ ?_ k hk
      · exact ht
      · rw [List.getElem?_map, hy]; rfl
    obtain ⟨kd, e0, _, _⟩ := DataW.trod_int Tryz.underlying22 h0
    obtain ⟨nm, e1, _⟩ := str_of_trod Tryz.underlying9 h1 (hwk 1 9 y1 rfl rfl)
    obtain ⟨tx, e2, _⟩ := str_of_trod Tryz.underlying9 h2 (hwk 2 9 y2 rfl rfl)
    obtain ⟨nu, e3, _, _⟩ := DataW.trod_int Tryz.underlying2 h3
    obtain ⟨ns, sn, nn⟩ := open_names h4 (hwk 4 23 y4 rfl rfl)
    obtain ⟨l, sl, gl, nl⟩ := open_cellR (k := 6) (en := encN) Tryz.underlying24 cc (by decide) encN_len (fun n' hn' cs x h hw => ih n' (by omega) cs x h hw) h5 (hwk 5 24 y5 rfl rfl)
    obtain ⟨rfl⟩ := e0
    obtain ⟨rfl⟩ := e1
    obtain ⟨rfl⟩ := e2
    obtain ⟨rfl⟩ := e3
    have bb : Tryz.prog.bytesOf 26 = 96 := by kernel_rfl
    rw [bb] at nl
    have := reachBytes_lt
    exact ⟨.mk kd nm tx nu a4 ns a5 l, rfl, sn, nn, sl, by omega, oks_of gl⟩

set_option maxRecDepth 100000 in
theorem open_nd {b0 : Nat} {r : Reach} {v : Value} {d : DataW H} {ps : List MemPlace} (hval : Value.okWide Tryz.prog W r b0 26 v) (h : DataW.Trod enc Tryz.prog W base sp held 26 v d ps) (hw : Wts Tryz.prog 26 d) :
    ∃ t : ND, v = .agg ⟨encN t⟩ ∧ t.ok W.heap := by
  obtain ⟨cs, rfl, hcs⟩ := okWide_struct Tryz.underlying26 hval
  obtain ⟨fuel, h⟩ := h
  obtain ⟨t, e, ht⟩ := open_node (fuel + 1) fuel (Nat.lt_succ_self _) _ _ h hw
  refine ⟨t, ?_, ht⟩
  obtain ⟨cs⟩ := cs
  have e : cs = encN t := e
  rw [e]

set_option maxRecDepth 100000 in
theorem open_run {b0 : Nat} {r : Reach} {v : Value} {d : DataW H} {ps : List MemPlace} (hval : Value.okWide Tryz.prog W r b0 28 v) (h : DataW.Trod enc Tryz.prog W base sp held 28 v d ps) (hw : Wts Tryz.prog 28 d) :
    ∃ (a b : Value) (ks ar : List ByteArray) (now fuel room deep : Int), v = .agg ⟨runV a b now fuel room deep⟩ ∧ SL encS W.heap a ks ∧ SL encS W.heap b ar ∧ ks.length < 4611686018427387904 ∧ ar.length < 4611686018427387904 := by
  obtain ⟨cs, rfl, hcs⟩ := okWide_struct Tryz.underlying28 hval
  obtain ⟨fuel, h⟩ := h
  obtain ⟨xs, m, rfl, hx, hl, hls, hi⟩ := DataW.trod_struct Tryz.underlying28 h
  have hd : d = .agg (xs.map (·.1)) := congrArg Prod.fst hx
  have c2 : Tryz.prog.cellsOf 2 = 1 := by kernel_rfl
  have ck : Tryz.prog.cellsOf 3 = 1 := by kernel_rfl
  have cs' : Tryz.prog.cellsOf 23 = 1 := by kernel_rfl
  have cc : Tryz.prog.cellsOf 28 = 6 := by kernel_rfl
  rw [cc] at hl
  obtain ⟨cs⟩ := cs
  obtain ⟨a0, a1, a2, a3, a4, a5, rfl⟩ := len6 (l := cs) hl
  obtain ⟨y0, y1, y2, y3, y4, y5, rfl⟩ := len6 (l := xs) hls
  have h0 := fld hi 0 23 0 1 rfl rfl rfl cs' rfl rfl
  have h1 := fld hi 1 23 1 1 rfl rfl rfl cs' rfl rfl
  have h2 := fld hi 2 2 2 1 rfl rfl rfl c2 rfl rfl
  have h3 := fld hi 3 3 3 1 rfl rfl rfl ck rfl rfl
  have h4 := fld hi 4 3 4 1 rfl rfl rfl ck rfl rfl
  have h5 := fld hi 5 3 5 1 rfl rfl rfl ck rfl rfl
  have hwk : ∀ (i t : Nat) (y : DataW H × List MemPlace), [23, 23, 2, 3, 3, 3][i]? = some t → [y0, y1, y2, y3, y4, y5][i]? = some y → Wts Tryz.prog t y.1 := by
    intro i t y ht hy k hk
    refine hw k ?_
    rw [hd]
    simp only [DataW.weights, Tryz.underlying28]
    refine DataW.weights_mem_each (j := i) (t := t) (d := y.1) ?_ ?_ k hk
    · exact ht
    · rw [List.getElem?_map, hy]; rfl
  obtain ⟨ks, sk, nk⟩ := open_names h0 (hwk 0 23 y0 rfl rfl)
  obtain ⟨ar, sa, na⟩ := open_names h1 (hwk 1 23 y1 rfl rfl)
  obtain ⟨z2, e2, _, _⟩ := DataW.trod_int Tryz.underlying2 h2
  obtain ⟨z3, e3, _, _⟩ := DataW.trod_int Tryz.underlying3 h3
  obtain ⟨z4, e4, _, _⟩ := DataW.trod_int Tryz.underlying3 h4
  obtain ⟨z5, e5, _, _⟩ := DataW.trod_int Tryz.underlying3 h5
  obtain ⟨rfl⟩ := e2
  obtain ⟨rfl⟩ := e3
  obtain ⟨rfl⟩ := e4
  obtain ⟨rfl⟩ := e5
  exact ⟨a0, a1, ks, ar, z2, z3, z4, z5, rfl, sk, sa, nk, na⟩
end
end Go.Proofs.YtomcocbcajidcaaGreatDoor
