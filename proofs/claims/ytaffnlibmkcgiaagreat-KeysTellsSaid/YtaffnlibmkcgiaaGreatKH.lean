/-
  Layer 7: may a thing be? As the document asks; and that the two ask the same.
-/
import Derived.Test.YtaffnlibmkcgiaaGreatKG
namespace Go.Proofs.YtaffnlibmkcgiaaGreat
open Go Go.Sx Go.Proofs.YtaffnlibmkcgiaaGreat.C

def ltP (x y : Pair) : Bool := sless x.name y.name

/-- As the document asks, of small things: the last part. -/
def rKind (t : Thing) : Bool :=
  if t.kind = 1 then decide (t.pairs.length + t.list.length + t.ranks.length = 0) else
  if t.kind = 2 then decide (0 < t.pairs.length) && decide (t.list.length + t.ranks.length = 0) else
  if t.kind = 3 ∨ t.kind = 4 then decide (0 < t.list.length) && decide (t.pairs.length + t.ranks.length = 0) else
  if t.kind = 5 then decide (0 < t.ranks.length) && decide (t.pairs.length + t.list.length = 0) else false

structure ROK (t : Thing) : Prop where
  u : ¬ (t.hasU = false ∧ t.unt ≠ 0)
  text : ¬ (t.kind ≠ 1 ∧ t.text ≠ noText)
  ps : rising ltP t.pairs = true
  ls : t.kind = 4 → rising sless t.list = true
  rs : rising aheadR t.ranks = true
  once : onceR t.ranks = true

theorem kOK_bad {t : Thing} (h : ¬ ROK t) : kOK t = false := by
  by_cases hu : t.hasU = false ∧ t.unt ≠ 0
  · unfold kOK; rw [if_pos hu]
  unfold kOK
  rw [if_neg hu]
  have nil_p : t.pairs.length = 0 → rising ltP t.pairs = true := fun e => rising_short (by omega)
  have nil_r : t.ranks.length = 0 → rising aheadR t.ranks = true ∧ onceR t.ranks = true := fun e => ⟨rising_short (by omega), by
    have : t.ranks = [] := List.length_eq_zero_iff.1 e
    rw [this]; rfl⟩
  split
  · rename_i k1
    refine decide_eq_false fun he => h ⟨hu, fun hn => hn.1 k1, nil_p (by omega), fun k4 => by omega, (nil_r (by omega)).1, (nil_r (by omega)).2⟩
  split
  · rename_i k1 k2
    refine Bool.eq_false_iff.2 fun he => h ?_
    simp only [Bool.and_eq_true, decide_eq_true_eq] at he
    exact ⟨hu, fun hn => hn.2 he.2.2.1, he.2.2.2, fun k4 => by omega, (nil_r (by omega)).1, (nil_r (by omega)).2⟩
  split
  · rename_i k1 k2 k3
    refine Bool.eq_false_iff.2 fun he => h ?_
    simp only [Bool.and_eq_true, decide_eq_true_eq] at he
    exact ⟨hu, fun hn => hn.2 he.2.2, nil_p (by omega), fun k4 => by omega, (nil_r (by omega)).1, (nil_r (by omega)).2⟩
  split
  · rename_i k1 k2 k3 k4
    refine Bool.eq_false_iff.2 fun he => h ?_
    simp only [Bool.and_eq_true, decide_eq_true_eq] at he
    exact ⟨hu, fun hn => hn.2 he.2.2.1, nil_p (by omega), fun _ => he.2.2.2, (nil_r (by omega)).1, (nil_r (by omega)).2⟩
  split
  · rename_i k1 k2 k3 k4 k5
    refine Bool.eq_false_iff.2 fun he => h ?_
    simp only [Bool.and_eq_true, decide_eq_true_eq] at he
    exact ⟨hu, fun hn => hn.2 he.2.2.1, nil_p (by omega), fun k4 => by omega, he.2.2.2.1, he.2.2.2.2⟩
  · rfl

theorem kOK_good {t : Thing} (h : ROK t) : kOK t = rKind t := by
  unfold kOK rKind
  rw [if_neg h.u]
  have ht : t.kind ≠ 1 → decide (t.text = noText) = true := fun k => decide_eq_true (Decidable.not_not.1 fun hn => h.text ⟨k, hn⟩)
  by_cases k1 : t.kind = 1
  · rw [if_pos k1, if_pos k1]
  rw [if_neg k1, if_neg k1, ht k1]
  by_cases k2 : t.kind = 2
  · rw [if_pos k2, if_pos k2]
    have : rising (fun x y => sless x.name y.name) t.pairs = true := h.ps
    rw [this]; simp
  rw [if_neg k2, if_neg k2]
  by_cases k3 : t.kind = 3
  · rw [if_pos k3, if_pos (.inl k3)]; simp
  rw [if_neg k3]
  by_cases k4 : t.kind = 4
  · rw [if_pos k4, if_pos (.inr k4), h.ls k4]; simp
  rw [if_neg k4, if_neg (show ¬ (t.kind = 3 ∨ t.kind = 4) from fun h => h.elim k3 k4)]
  by_cases k5 : t.kind = 5
  · rw [if_pos k5, if_pos k5, h.rs, h.once]; simp
  rw [if_neg k5, if_neg k5]

theorem RCheck_tail {h h0 : Heap} {b1 : Nat} {vs : List Value} {t : Thing} (s : Small t) (hc : Chg [] h0 h) (B1 : Blk h b1 vs) (x : TH h vs t) (hr : ROK t) :
    swp Tryz.prog (.seq (.seq (.ops f15r28) (.block 8 (.seq (.ops f15r29) (.cond (.tmp 187) (.seq (.ops f15r30) .ret) (.seq (.ops f15r31) (.cond (.tmp 195) (.seq (.ops f15r32) .ret) (.seq (.seq (.ops f15r33) (.cond (.tmp 205) .skip (.ops f15r34))) (.cond (.tmp 205) (.seq (.ops f15r35) .ret) (.seq (.ops f15r36) (.cond (.tmp 216) (.seq (.ops f15r37) .ret) .skip)))))))))) (.seq (.ops f15r38) .ret))
      (retQ [.t 2] (Ret fun r h' => r = .bool (kOK t) ∧ Chg [] h0 h')) (mk [(1, .pointer (some ⟨b1, 0, none⟩)), (3, .int .i64 t.pairs.length), (4, .int .i64 t.list.length), (5, .int .i64 t.ranks.length)]) [] h := by
  have sp := s.p; have sl := s.l; have sr := s.r
  obtain ⟨pv, lv, rv, rfl, _, _, _⟩ := x
  rw [kOK_good hr]
  unfold rKind
  refine Exists.intro _ (And.intro (cell_blk B1 rfl) ?_)
  refine And.intro rfl (And.intro (fun k1 => ?_) (fun k1 => ?_))
  · rw [if_pos k1]
    refine And.intro rfl (fun z hz => ?_)
    have hz := add_in hz (by omega) (by omega)
    refine And.intro rfl (fun y hy => ?_)
    have hy := add_in hy (by omega) (by omega)
    refine And.intro rfl (And.intro (fun he => ?_) (fun he => ?_))
    · exact And.intro (by rw [decide_eq_true (by omega)]; rfl) hc
    · exact And.intro (by rw [decide_eq_false (by omega)]; rfl) hc
  rw [if_neg k1]
  refine And.intro rfl (And.intro (fun k2 => ?_) (fun k2 => ?_))
  · rw [if_pos k2]
    refine And.intro rfl (And.intro (fun g1 => ?_) (fun g1 => ?_))
    rotate_left
    · exact And.intro (by rw [decide_eq_false (by omega)]; rfl) hc
    rw [decide_eq_true (show 0 < t.pairs.length by omega), Bool.true_and]
    refine And.intro rfl (fun z hz => ?_)
    have hz := add_in hz (by omega) (by omega)
    refine And.intro rfl (And.intro (fun g2 => ?_) (fun g2 => ?_))
    · exact And.intro (by rw [decide_eq_true (by omega)]; rfl) hc
    · exact And.intro (by rw [decide_eq_false (by omega)]; rfl) hc
  rw [if_neg k2]
  refine And.intro rfl (And.intro (fun k3 => ?_) (fun k3 => ?_))
  · rw [if_pos (.inl k3)]
    refine And.intro rfl (And.intro (fun g1 => ?_) (fun g1 => ?_))
    rotate_left
    · exact And.intro (by rw [decide_eq_false (by omega)]; rfl) hc
    rw [decide_eq_true (show 0 < t.list.length by omega), Bool.true_and]
    refine And.intro rfl (fun z hz => ?_)
    have hz := add_in hz (by omega) (by omega)
    refine And.intro rfl (And.intro (fun g2 => ?_) (fun g2 => ?_))
    · exact And.intro (by rw [decide_eq_true (by omega)]; rfl) hc
    · exact And.intro (by rw [decide_eq_false (by omega)]; rfl) hc
  refine And.intro rfl (And.intro (fun k4 => ?_) (fun k4 => ?_))
  · rw [if_pos (.inr k4)]
    refine And.intro rfl (And.intro (fun g1 => ?_) (fun g1 => ?_))
    rotate_left
    · exact And.intro (by rw [decide_eq_false (by omega)]; rfl) hc
    rw [decide_eq_true (show 0 < t.list.length by omega), Bool.true_and]
    refine And.intro rfl (fun z hz => ?_)
    have hz := add_in hz (by omega) (by omega)
    refine And.intro rfl (And.intro (fun g2 => ?_) (fun g2 => ?_))
    · exact And.intro (by rw [decide_eq_true (by omega)]; rfl) hc
    · exact And.intro (by rw [decide_eq_false (by omega)]; rfl) hc
  rw [if_neg (by omega)]
  refine And.intro rfl (And.intro (fun k5 => ?_) (fun k5 => ?_))
  · rw [if_pos k5]
    refine And.intro rfl (And.intro (fun g1 => ?_) (fun g1 => ?_))
    rotate_left
    · exact And.intro (by rw [decide_eq_false (by omega)]; rfl) hc
    rw [decide_eq_true (show 0 < t.ranks.length by omega), Bool.true_and]
    refine And.intro rfl (fun z hz => ?_)
    have hz := add_in hz (by omega) (by omega)
    refine And.intro rfl (And.intro (fun g2 => ?_) (fun g2 => ?_))
    · exact And.intro (by rw [decide_eq_true (by omega)]; rfl) hc
    · exact And.intro (by rw [decide_eq_false (by omega)]; rfl) hc
  rw [if_neg k5]
  exact And.intro rfl hc

end Go.Proofs.YtaffnlibmkcgiaaGreat
