/-
  Layer 8: the world of the witness; replies opened; BasicsSame.
-/
import Derived.Test.YtigolfakcblnjaaGreatDoorSC
import Derived.Test.YtigolfakcblnjaaGreatDoorSxV
import Derived.Test.YtigolfakcblnjaaGreatDoorCards
import Derived.Test.YtigolfakcblnjaaGreatDoorTie
import Derived.Deep.DeepHandedRow
import Derived.ProofKit
namespace Go.Proofs.YtigolfakcblnjaaGreatDoor
open Go Go.Sx Go.ChangeShapes Go.WideShapes Go.ChangeAt Go.RowKit

theorem own : ownKnob Tryz.prog.godebug = none := by kernel_rfl
theorem laidOut : laidOutB Tryz.prog = true := by kernel_rfl

def tab32 : List Int := [0, 1, 28, 2, 29, 14, 24, 3, 30, 22, 20, 15, 25, 17, 4, 8, 31, 27, 13, 23, 21, 19, 16, 7, 26, 12, 18, 6, 11, 5, 10, 9]
def tab64 : List Int := [0, 1, 56, 2, 57, 49, 28, 3, 61, 58, 42, 50, 38, 29, 17, 4, 62, 47, 59, 36, 45, 43, 51, 22, 53, 39, 33, 30, 24, 18, 12, 5, 63, 55, 48, 27, 60, 41, 37, 16, 46, 35, 44, 21, 52, 32, 23, 11, 54, 26, 40, 15, 34, 20, 31, 10, 25, 14, 19, 9, 13, 8, 7, 6]
def pow10 : List Int := [1, 10, 100, 1000, 10000, 100000, 1000000, 10000000, 100000000, 1000000000, 10000000000, 100000000000, 1000000000000, 10000000000000, 100000000000000, 1000000000000000, 10000000000000000, 100000000000000000, 1000000000000000000, 10000000000000000000]
def wordRange : ByteArray := ⟨#[118, 97, 108, 117, 101, 32, 111, 117, 116, 32, 111, 102, 32, 114, 97, 110, 103, 101]⟩
def wordSyntax : ByteArray := ⟨#[105, 110, 118, 97, 108, 105, 100, 32, 115, 121, 110, 116, 97, 120]⟩
def laid5 : List (String × DataW Unit) := [("math/bits.deBruijn32tab", Rows.laid_math_bits_deBruijn32tab), ("math/bits.deBruijn64tab", Rows.laid_math_bits_deBruijn64tab), ("internal/strconv.uint64pow10", Rows.laid_internal_strconv_uint64pow10), ("strconv.ErrRange", Rows.laid_strconv_ErrRange), ("strconv.ErrSyntax", Rows.laid_strconv_ErrSyntax)]

def putTab (vs : Array Value) : Obj → Obj
  | .cells _ t frozen => .cells vs t frozen
  | o => o
noncomputable def bare (os : Os) : World := World.holding Tryz.prog os ⟨#[], #[], []⟩
noncomputable def sized : Nat := (bare default).heap.size
/-- A world for the witness: the settled one, the tables as they are laid. -/
noncomputable def laidWorld (os : Os) : World :=
  { bare os with heap := ((((((bare os).heap.modify 4 (putTab (tab32.map fun z => Value.int .u8 z).toArray)).modify 5 (putTab (tab64.map fun z => Value.int .u8 z).toArray)).modify 2 (putTab (pow10.map fun z => Value.int .u64 z).toArray)).modify 1
    (putTab #[.iface 233 (.pointer (some ⟨(bare os).heap.size, 0, none⟩))])).modify 0 (putTab #[.iface 233 (.pointer (some ⟨(bare os).heap.size + 1, 0, none⟩))])) ++
    #[.cells #[.string wordRange] 235 (0, 0), .cells #[.string wordSyntax] 235 (0, 0)] }
theorem laid_met (os : Os) (args : Array Value) : laidMet Tryz.prog laid5 ((laidWorld os).forCall (fun _ _ => 0) ⟨#[], args, []⟩).memory :=
  laidMet_of_run' 8 (by kernel_rfl) (by kernel_rfl)

theorem len4 {α : Type} {l : List α} (h : l.length = 4) : ∃ a0 a1 a2 a3, l = [a0, a1, a2, a3] := by
  match l, h with
  | [a0, a1, a2, a3], _ => exact ⟨a0, a1, a2, a3, rfl⟩

section
variable {H : Type} {enc : TypeId × Value → H} {W : World} {base : Nat} {sp : Nat → Bool} {held : Bool}

theorem oks_of {h : Heap} : ∀ {l : List RT}, (∀ t ∈ l, t.ok h) → RT.oks h l
  | [], _ => trivial
  | t :: l, hl => ⟨hl t (by simp), oks_of fun u hu => hl u (by simp [hu])⟩

set_option maxRecDepth 100000 in
theorem open_reply (N : Nat) : ∀ (n : Nat), n < N → ∀ (cs : List Value) (x : DataW H × List MemPlace), DataW.trod enc Tryz.prog W base sp held n 32 cs = some x → Wts Tryz.prog 32 x.1 → ∃ t : RT, cs = encT t ∧ t.ok W.heap := by
  induction N with
  | zero => intro n hn; omega
  | succ N ih =>
    intro n hn cs x h hw
    obtain ⟨xs, m, rfl, hx, hl, hls, hi⟩ := DataW.trod_struct Tryz.underlying32 h
    have hd : x.1 = .agg (xs.map (·.1)) := congrArg Prod.fst hx
    have c9 : Tryz.prog.cellsOf 9 = 1 := by kernel_rfl
    have c2 : Tryz.prog.cellsOf 2 = 1 := by kernel_rfl
    have ck : Tryz.prog.cellsOf 29 = 1 := by kernel_rfl
    have cl : Tryz.prog.cellsOf 30 = 1 := by kernel_rfl
    have cc : Tryz.prog.cellsOf 32 = 4 := by kernel_rfl
    rw [cc] at hl
    obtain ⟨a0, a1, a2, a3, rfl⟩ := len4 hl
    obtain ⟨y0, y1, y2, y3, rfl⟩ := len4 (l := xs) hls
    have h0 := fld hi 0 29 0 1 rfl rfl rfl ck rfl rfl
    have h1 := fld hi 1 2 1 1 rfl rfl rfl c2 rfl rfl
    have h2 := fld hi 2 9 2 1 rfl rfl rfl c9 rfl rfl
    have h3 := fld hi 3 30 3 1 rfl rfl rfl cl rfl rfl
    have hwk : ∀ (i t : Nat) (y : DataW H × List MemPlace), [29, 2, 9, 30][i]? = some t → [y0, y1, y2, y3][i]? = some y → Wts Tryz.prog t y.1 := by
      intro i t y ht hy k hk
      refine hw k ?_
      rw [hd]
      simp only [DataW.weights, Tryz.underlying32]
      refine DataW.weights_mem_each (j := i) (t := t) (d := y.1) ?_ ?_ k hk
      · exact ht
      · rw [List.getElem?_map, hy]; rfl
    obtain ⟨kd, e0, _, _⟩ := DataW.trod_int Tryz.underlying29 h0
    obtain ⟨nu, e1, _, _⟩ := DataW.trod_int Tryz.underlying2 h1
    obtain ⟨tx, e2, hs1⟩ := str_of_trod Tryz.underlying9 h2 (hwk 2 9 y2 rfl rfl)
    obtain ⟨l, sl, gl, nl⟩ := open_cellR (k := 4) (en := encT) Tryz.underlying30 cc (by decide) encT_len (fun n' hn' cs x h hw => ih n' (by omega) cs x h hw) h3 (hwk 3 30 y3 rfl rfl)
    obtain ⟨rfl⟩ := e0
    obtain ⟨rfl⟩ := e1
    obtain ⟨rfl⟩ := e2
    have bb : Tryz.prog.bytesOf 32 = 56 := by kernel_rfl
    rw [bb] at nl
    have := reachBytes_lt
    exact ⟨.mk kd nu tx a3 l, rfl, sl, by omega, oks_of gl⟩

set_option maxRecDepth 100000 in
theorem open_rep {b0 : Nat} {r : Reach} {v : Value} {d : DataW H} {ps : List MemPlace} (hval : Value.okWide Tryz.prog W r b0 32 v) (h : DataW.Trod enc Tryz.prog W base sp held 32 v d ps) (hw : Wts Tryz.prog 32 d) :
    ∃ t : RT, v = .agg ⟨encT t⟩ ∧ t.ok W.heap := by
  obtain ⟨cs, rfl, hcs⟩ := okWide_struct Tryz.underlying32 hval
  obtain ⟨fuel, h⟩ := h
  obtain ⟨t, e, ht⟩ := open_reply (fuel + 1) fuel (Nat.lt_succ_self _) _ _ h hw
  refine ⟨t, ?_, ht⟩
  obtain ⟨cs⟩ := cs
  have e : cs = encT t := e
  rw [e]
end

set_option maxRecDepth 100000 in
theorem same_params : ∀ t ∈ Tryz.f5.params.toList, Tryz.prog.readableRec t = true ∧ t < Tryz.prog.types.size := by
  rw [Tryz.params5]
  intro t ht
  have : t = 32 := by simpa using ht
  subst this
  exact ⟨by kernel_rfl, of_decide_eq_true (by kernel_rfl)⟩

set_option maxRecDepth 100000 in
theorem same_law (H : Type) (enc : TypeId × Value → H) (W : World) (base : Nat) (args : Array Value) (ds gs : List (DataW H)) (before : List MemPlace)
    (hval : ∀ (j : Nat) t v, Tryz.f5.params[j]? = some t → args[j]? = some v → Value.okWide Tryz.prog W .any base t v)
    (hW : DataW.Whole enc Tryz.prog Tryz.f5.params.toList Rows.basicsSameSpec.vars false W args.toList ds gs before)
    (hsz : (DataW.weightsEach Tryz.prog (Tryz.f5.params.toList ++ (OpenSpec.ofChange Rows.basicsSameSpec).bare.plain.varTypes Tryz.prog) (ds ++ gs)).all (· ≤ reachBytes) = true) :
    Calls Tryz.prog 5 args W fun e W' => ∃ v, e = .returned v ∧ Rows.basicsSameSpec.post enc Tryz.prog Tryz.f5 false true false false W args v W' := by
  refine lift_law (tb := 4) laidOut same_params rfl Tryz.underlying4 rfl
    (fun l hl => by
      rw [Tryz.params5] at hl
      match l, hl with
      | [_, _], _ => rfl) hW ?_
  obtain ⟨p, q, hA, hV, _, _, _⟩ := hW
  obtain ⟨rfl, rfl⟩ := trodVars_none hV
  rw [Tryz.params5] at hA hval hsz
  obtain ⟨v0, vs0, d0, ds0, p0, q0, hargs, rfl, rfl, h0, r0⟩ := trodAll_cons hA
  obtain ⟨v1, vs1, d1, ds1, p1, q1, rfl, rfl, rfl, h1, r1⟩ := trodAll_cons r0
  obtain ⟨rfl, rfl, rfl⟩ := trodAll_nil r1
  obtain rfl : args = #[v0, v1] := by cases args; simp_all
  obtain ⟨a, rfl, oka⟩ := open_rep (hval 0 32 v0 rfl rfl) h0 (wts_each hsz (j := 0) rfl rfl)
  obtain ⟨b, rfl, okb⟩ := open_rep (hval 1 32 v1 rfl rfl) h1 (wts_each hsz (j := 1) rfl rfl)
  exact same_contract oka okb

noncomputable def sameArgs : Array Value := #[.agg #[.int .i64 0, .int .i64 0, .string ByteArray.empty, .slice none 0 0], .agg #[.int .i64 0, .int .i64 0, .string ByteArray.empty, .slice none 0 0]]

theorem same_reads (os : Os) {H : Type} (enc : TypeId × Value → H) : ∃ places, DataW.whole enc Tryz.prog ((laidWorld os).forCall (fun _ _ => 0) ⟨#[], sameArgs, []⟩).memory Tryz.f5.params.toList Rows.basicsSameSpec.vars false sameArgs.toList 8 =
    some ([.agg [.lit (.int .i64 0), .lit (.int .i64 0), .lit (.string []), .nil], .agg [.lit (.int .i64 0), .lit (.int .i64 0), .lit (.string []), .nil]], [], places) :=
  ⟨[], by kernel_rfl⟩

set_option maxRecDepth 100000 in
theorem same_lifted (os : Os) (started : os.Started) (H : Type) (enc : TypeId × Value → H) (F : Stop.Interp) :
    ReturnsInHanded {} Tryz.checked os 5 .any ((OpenSpec.ofChange Rows.basicsSameSpec).preRow enc Tryz.prog Tryz.f5 Rows.basicsSameRow.domain false Rows.basicsSameRow.laid) (((OpenSpec.ofChange Rows.basicsSameSpec).at F).post enc Tryz.prog Tryz.f5 false true false false) := by
  obtain ⟨places, hx⟩ := same_reads os enc
  refine returnsInHanded_of_row (C := Tryz.checked) (s := OpenSpec.ofChange Rows.basicsSameSpec) own started (by kernel_rfl) Tryz.func5
    (witness_row_at (enc := enc) (C := Tryz.checked) false (laidWorld os) sameArgs rfl (by kernel_rfl) (by kernel_rfl) (by kernel_rfl)
      (OpenSpec.preRow_of_cond 8 hx (by kernel_rfl) (fun k hk => by cases hk) (by kernel_rfl) (laid_met os sameArgs))) ?_
  intro W base args ds gs before hval hW _ _ hsz _ _ _
  exact same_law H enc W base args ds gs before hval hW hsz

theorem same_said : Rows.BasicsSameSaid :=
  OpenClaim.holds_of_cond 5 Tryz.f5 rfl rfl rfl rfl rfl rfl rfl ⟨rfl, rfl, rfl, rfl, rfl⟩ rfl rfl rfl rfl rfl (by kernel_rfl) Tryz.func5 (by kernel_rfl)
    (of_decide_eq_true (by kernel_rfl)) (by unfold Func.isWrapper; first | (rw [if_pos (by decide +kernel)]; kernel_rfl) | (rw [if_neg (by decide +kernel)]; exact ⟨rfl, rfl⟩))
    (fun os started H enc _ F => by rw [OpenClaim.pre_eq_preRow]; exact same_lifted os started H enc F)

theorem same_plain (f : FuncId) (fn : Func) (hf : Tryz.pinned.checked.prog.funcNamed "tabor/taborlaw08.BasicsSame" = some f) (hfn : Tryz.pinned.checked.prog.funcs[f]? = some fn) :
    true = Tryz.pinned.checked.prog.looks [] ∧ ∀ (j : Nat) t, fn.params[j]? = some t → Tryz.pinned.checked.prog.wantsStandIn t = false := by
  obtain rfl : f = 5 := Option.some.inj ((show Tryz.prog.funcNamed "tabor/taborlaw08.BasicsSame" = some 5 by kernel_rfl).symm.trans hf) |>.symm
  obtain rfl : fn = Tryz.f5 := (Option.some.inj (Tryz.func5.symm.trans hfn)).symm
  refine ⟨by kernel_rfl, fun j t ht => ?_⟩
  rw [Tryz.params5] at ht
  have : t = 32 := by simpa using Array.mem_of_getElem? ht
  subst this
  exact (show Tryz.prog.wantsStandIn 32 = false by kernel_rfl)

/-- THE CARD. -/
theorem same_card : Rows.BasicsSameCardSaid :=
  Claim7.holds_tied_plain_at .later [] _ _ _ _ same_said (fun _ h => by cases h) (by kernel_rfl) (fun _ h => by cases h) basicsSame_row_tie rfl ⟨rfl, rfl⟩ (by kernel_rfl) rfl same_plain (by kernel_rfl)
#print axioms same_card
end Go.Proofs.YtigolfakcblnjaaGreatDoor
