/-
  Layer 7: may a thing be? As the document asks; and that the two ask the same.
-/
import Derived.Test.YtigolfakcblnjaaGreatKG
namespace Go.Proofs.YtigolfakcblnjaaGreat
open Go Go.Sx Go.Proofs.YtigolfakcblnjaaGreat.C

def ltP (x y : Pair) : Bool := sless x.name y.name

/-- As the document asks, of small things: the last part. -/
def rKind (t : Thing) : Bool :=
  if t.kind = 1 then decide (t.pairs.length + t.list.length + t.ranks.length = 0) else
  if t.kind = 2 then decide (0 < t.pairs.length) && decide (t.list.length + t.ranks.length = 0) else
  if t.kind = 3 ∨ t.kind = 4 then decide (0 < t.list.length) && decide (t.pairs.length + t.ranks.length = 0) else
  if t.kind = 5 then decide (0 < t.ranks.length) && decide (t.pairs.length + t.list.length = 0) else false

structure ROK (t : Thing) : Prop where
  u : ¬ (t.hasU = false ∧ t.unt ≠ 0)
  text : ¬ (t.kind ≠ 1 ∧ t.text ≠ noText)
  ps : rising ltP t.pairs = true
  ls : t.kind = 4 → rising sless t.list = true
  rs : rising aheadR t.ranks = true
  once : onceR t.ranks = true

theorem kOK_bad {t : Thing} (h : ¬ ROK t) : kOK t = false := by
  by_cases hu : t.hasU = false ∧ t.unt ≠ 0
  · unfold kOK; rw [if_pos hu]
  unfold kOK
  rw [if_neg hu]
  have nil_p : t.pairs.length = 0 → rising ltP t.pairs = true := fun e => rising_short (by omega)
  have nil_r : t.ranks.length = 0 → rising aheadR t.ranks = true ∧ onceR t.ranks = true := fun e => ⟨rising_short (by omega), by
    have : t.ranks = [] := List.length_eq_zero_iff.1 e
    rw [this]; rfl⟩
  split
  · rename_i k1
    refine decide_eq_false fun he => h ⟨hu, fun hn => hn.1 k1, nil_p (by omega), fun k4 => by omega, (nil_r (by omega)).1, (nil_r (by omega)).2⟩
  split
  · rename_i k1 k2
    refine Bool.eq_false_iff.2 fun he => h ?_
    simp only [Bool.and_eq_true, decide_eq_true_eq] at he
    exact ⟨hu, fun hn => hn.2 he.2.2.1, he.2.2.2, fun k4 => by omega, (nil_r (by omega)).1, (nil_r (by omega)).2⟩
  split
  · rename_i k1 k2 k3
    refine Bool.eq_false_iff.2 fun he => h ?_
    simp only [Bool.and_eq_true, decide_eq_true_eq] at he
    exact ⟨hu, fun hn => hn.2 he.2.2, nil_p (by omega), fun k4 => by omega, (nil_r (by omega)).1, (nil_r (by omega)).2⟩
  split
  · rename_i k1 k2 k3 k4
    refine Bool.eq_false_iff.2 fun he => h ?_
    simp only [Bool.and_eq_true, decide_eq_true_eq] at he
    exact ⟨hu, fun hn => hn.2 he.2.2.1, nil_p (by omega), fun _ => he.2.2.2, (nil_r (by omega)).1, (nil_r (by omega)).2⟩
  split
  · rename_i k1 k2 k3 k4 k5
    refine Bool.eq_false_iff.2 fun he => h ?_
    simp only [Bool.and_eq_true, decide_eq_true_eq] at he
    exact ⟨hu, fun hn => hn.2 he.2.2.1, nil_p (by omega), fun k4 => by omega, he.2.2.2.1, he.2.2.2.2⟩
  · rfl

theorem kOK_good {t : Thing} (h : ROK t) : kOK t = rKind t := by
  unfold kOK rKind
  rw [if_neg h.u]
  have ht : t.kind ≠ 1 → decide (t.text = noText) = true := fun k => decide_eq_true (Decidable.not_not.1 fun hn => h.text ⟨k, hn⟩)
  by_cases k1 : t.kind = 1
  · rw [if_pos k1, if_pos k1]
  rw [if_neg k1, if_neg k1, ht k1]
  by_cases k2 : t.kind = 2
  · rw [if_pos k2, if_pos k2]
    have : rising (fun x y => sless x.name y.name) t.pairs = true := h.ps
    rw [this]; simp
  rw [if_neg k2, if_neg k2]
  by_cases k3 : t.kind = 3
  · rw [if_pos k3, if_pos (.inl k3)]; simp
  rw [if_neg k3]
  by_cases k4 : t.kind = 4
  · rw [if_pos k4, if_pos (.inr k4), h.ls k4]; simp
  rw [if_neg k4, if_neg (show ¬ (t.kind = 3 ∨ t.kind = 4) from fun h => h.elim k3 k4)]
  by_cases k5 : t.kind = 5
  · rw [if_pos k5, if_pos k5, h.rs, h.once]; simp
  rw [if_neg k5, if_neg k5]

end Go.Proofs.YtigolfakcblnjaaGreat
