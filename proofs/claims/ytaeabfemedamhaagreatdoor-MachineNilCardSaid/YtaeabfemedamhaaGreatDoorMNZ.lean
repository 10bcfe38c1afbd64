/-
  strings.asciiSpace as it is laid; what is handed on unseen.
-/
import Derived.Test.YtaeabfemedamhaaGreatDoorSxYK
import Derived.Test.YtaeabfemedamhaaGreatDoorSxP
import Derived.ProofKit
import Derived.WideShapes
namespace Go.Proofs.YtaeabfemedamhaaGreatDoor
open Go Go.Sx Go.WideShapes

def zeros (n : Nat) (z : Int) : List Int := List.replicate n z
/-- strings.asciiSpace. -/
def spaceZ : List Int := zeros 9 0 ++ (zeros 5 1 ++ (zeros 18 0 ++ (1 :: zeros 223 0)))
def spaceA : List AV := spaceZ.map fun z => AV.i .u8 z
def gsS : List (Nat × List AV) := [(2, spaceA)]
def LaidS (h : Heap) : Prop := Blk h 2 (spaceZ.map fun z => Value.int .u8 z)
theorem LaidS.ext {h h' : Heap} (hl : LaidS h) (hc : Chg [] h h') : LaidS h' := Blk.chg hl hc (by simp)
theorem concs_ints (ρ : Rho) : ∀ zs : List Int, concs ρ (zs.map fun z => AV.i .u8 z) = some (zs.map fun z => Value.int .u8 z)
  | [] => by simp [concs]
  | z :: zs => by simp [concs, conc, concs_ints ρ zs]
theorem spaces {h : Heap} (hl : LaidS h) {oq : Nat → Value} {h1 : ∀ j, (oq j).oneCell' = true} : ∀ p ∈ gsS, p.1 < gtop ∧ ∃ vs, concs (gRho oq h1 gsS) p.2 = some vs ∧ Blk h p.1 vs := by
  intro p hp
  have hp := List.mem_singleton.1 hp
  subst hp
  exact ⟨by decide, _, concs_ints _ _, hl⟩
theorem chg_of_ext {h h' : Heap} (he : Ext h h') : Chg [] h h' := by
  refine ⟨?_, fun k hk _ => he k hk⟩
  rcases Nat.lt_or_ge h'.size h.size with hlt | hge
  · have := he h'.size hlt
    rw [Array.getElem?_eq_none (Nat.le_refl _), Array.getElem?_eq_getElem hlt] at this
    cases this
  · exact hge

def told (l : List Value) (j : Nat) : Value := (l[j]?).getD (.bool true)
theorem told_one {l : List Value} (hl : ∀ u ∈ l, u.oneCell' = true) (j : Nat) : (told l j).oneCell' = true := by
  unfold told
  cases hj : l[j]? with
  | none => rfl
  | some u => exact hl u (List.mem_of_getElem? hj)

/-- A struct that is handed on: cells, of one value each. -/
theorem one_of_ok {P : Program} {w : World} {r : Reach} {b : Nat} {u : TypeId} {v : Value} (h : Cell.okWide P w r b u v) : v.oneCell' = true := by
  cases v <;> first
    | rfl
    | (exfalso
       unfold Cell.okWide at h
       split at h <;> first
         | (simp_all; done)
         | (unfold Cell.ok at h
            split at h <;> simp_all))
theorem open_any {P : Program} {w : World} {r : Reach} {b : Nat} {t : TypeId} {v : Value} {fs : Array Field} (ht : P.underlying t = some (.struct fs)) (h : Value.okWide P w r b t v) :
    ∃ l : List Value, v = .agg ⟨l⟩ ∧ l.length = P.cellsOf t ∧ ∀ u ∈ l, u.oneCell' = true := by
  unfold Value.okWide at h
  rw [ht] at h
  obtain ⟨⟨l⟩, rfl, hs, ts, _, _, hc⟩ := h
  refine ⟨l, rfl, hs, fun u hu => ?_⟩
  obtain ⟨i, hi⟩ := List.getElem?_of_mem hu
  obtain ⟨_, _, h1⟩ := hc i u (by simpa using hi)
  exact one_of_ok h1

end Go.Proofs.YtaeabfemedamhaaGreatDoor
