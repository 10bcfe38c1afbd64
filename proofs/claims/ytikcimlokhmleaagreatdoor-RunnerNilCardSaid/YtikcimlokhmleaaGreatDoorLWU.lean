/-
  The world of a witness: the package variables of the upper rows as they are laid.
-/
import Derived.Test.YtikcimlokhmleaaGreatDoorLWV
import Derived.Deep.DeepHandedRow
import Derived.Deep.DeepLaidRun
import Derived.ProofKit
import Derived.Test.YtikcimlokhmleaaGreatDoorRWT
import Derived.Test.YtikcimlokhmleaaGreatDoorRXC
namespace Go.Proofs.YtikcimlokhmleaaGreatDoor
open Go Go.Sx Go.ChangeShapes Go.WideShapes Go.ChangeAt Go.RowKit

theorem own : ownKnob Tryz.prog.godebug = none := by kernel_rfl

def tab32 : List Int := [0, 1, 28, 2, 29, 14, 24, 3, 30, 22, 20, 15, 25, 17, 4, 8, 31, 27, 13, 23, 21, 19, 16, 7, 26, 12, 18, 6, 11, 5, 10, 9]
def tab64 : List Int := [0, 1, 56, 2, 57, 49, 28, 3, 61, 58, 42, 50, 38, 29, 17, 4, 62, 47, 59, 36, 45, 43, 51, 22, 53, 39, 33, 30, 24, 18, 12, 5, 63, 55, 48, 27, 60, 41, 37, 16, 46, 35, 44, 21, 52, 32, 23, 11, 54, 26, 40, 15, 34, 20, 31, 10, 25, 14, 19, 9, 13, 8, 7, 6]
def pow10 : List Int := [1, 10, 100, 1000, 10000, 100000, 1000000, 10000000, 100000000, 1000000000, 10000000000, 100000000000, 1000000000000, 10000000000000, 100000000000000, 1000000000000000, 10000000000000000, 100000000000000000, 1000000000000000000, 10000000000000000000]
/-- unicode/utf8.first, unicode/utf8.acceptRanges. -/
def firstZ : List Int := zeros 128 240 ++ (zeros 66 241 ++ (zeros 30 2 ++ ([19] ++ (zeros 12 3 ++ ([35, 3, 3, 52, 4, 4, 4, 68] ++ zeros 11 241)))))
def accZ : List Int := [128, 191, 160, 191, 128, 159, 144, 191, 128, 143] ++ zeros 22 0
/-- unicode.White_Space's ranges. -/
def whiteZ : List Int := [9, 13, 1, 32, 133, 101, 160, 5760, 5600, 8192, 8202, 1, 8232, 8233, 1, 8239, 8287, 48, 12288, 12288, 1]
def wordRange : ByteArray := ⟨#[118, 97, 108, 117, 101, 32, 111, 117, 116, 32, 111, 102, 32, 114, 97, 110, 103, 101]⟩
def wordSyntax : ByteArray := ⟨#[105, 110, 118, 97, 108, 105, 100, 32, 115, 121, 110, 116, 97, 120]⟩
def putTab (vs : Array Value) : Obj → Obj
  | .cells _ t frozen => .cells vs t frozen
  | o => o
def ints8 (zs : List Int) : Array Value := (zs.map fun z => Value.int .u8 z).toArray
noncomputable def bare (os : Os) : World := World.holding Tryz.prog os ⟨#[], #[], []⟩
def puts : List (Nat × Array Value) → Array Obj → Array Obj
  | [], h => h
  | p :: r, h => puts r (h.modify p.1 (putTab p.2))
/-- A world for the witness: the settled one, the tables as they are laid. -/
noncomputable def laidWorld (os : Os) : World :=
  { bare os with heap := puts [(1, ints8 tab32), (2, ints8 tab64), (0, (pow10.map fun z => Value.int .u64 z).toArray), (6, ints8 spaceZ), (8, ints8 firstZ), (9, ints8 accZ),
      (5, #[.iface 575 (.pointer (some ⟨(bare os).heap.size, 0, none⟩))]), (4, #[.iface 575 (.pointer (some ⟨(bare os).heap.size + 1, 0, none⟩))]), (7, #[.pointer (some ⟨(bare os).heap.size + 2, 0, none⟩)])] (bare os).heap ++
    #[.cells #[.string wordRange] 577 (0, 0), .cells #[.string wordSyntax] 577 (0, 0), .cells #[.slice (some ⟨(bare os).heap.size + 3, 0, none⟩) 7 7, .slice none 0 0, .int .i64 2] 716 (0, 0), .cells (whiteZ.map fun z => Value.int .u16 z).toArray 719 (0, 0)] }
theorem laid_met (os : Os) (args : Array Value) : laidMet Tryz.prog laid9 ((laidWorld os).forCall (fun _ _ => 0) ⟨#[], args, []⟩).memory :=
  laidMet_of_run3 10 (by kernel_rfl) (by kernel_rfl) (by kernel_rfl)

theorem laid_cells {P : Program} {w : World} : ∀ {l : List (String × DataW Unit)} {ps : List MemPlace}, DataW.LaidVars P w l ps → ∀ n d, (n, d) ∈ l →
    ∃ g t cs fuel p, P.globalNamed n = some g ∧ (P.globals[g]?).map (·.type) = some t ∧ w.var? P n = some cs ∧ DataW.trod (fun _ => ()) P w 0 (fun _ => true) false fuel t cs.toList = some (d, p) ∧ ∀ x ∈ MemPlace.row ⟨g, 0, none⟩ cs.size, x ∈ ps
  | [], _, _, _, _, hm => by cases hm
  | (n', d') :: r, ps, h, n, d, hm => by
    obtain ⟨g, t, cs, fuel, p, q, h1, h2, h3, h4, h5, rfl⟩ := h
    rcases List.mem_cons.1 hm with e | e
    · cases e
      exact ⟨g, t, cs, fuel, p, h1, h2, h3, h4, fun x hx => List.mem_append_left _ (List.mem_append_left _ hx)⟩
    · obtain ⟨g', t', cs', fuel', p', k1, k2, k3, k4, k5⟩ := laid_cells h5 n d e
      exact ⟨g', t', cs', fuel', p', k1, k2, k3, k4, fun x hx => List.mem_append_right _ (k5 x hx)⟩
end Go.Proofs.YtikcimlokhmleaaGreatDoor
