/-
  Layer 7: texts and members in order.
-/
import Derived.Test.YtigolfakcblnjaaGreatKB
namespace Go.Proofs.YtigolfakcblnjaaGreat
open Go Go.Sx Go.Proofs.YtigolfakcblnjaaGreat.C

theorem ba_get (a : ByteArray) (k : Nat) (h : k < a.size) : a[k]? = some (a.data.toList[k]'h) := by
  rw [getElem?_pos a k h]
  rfl

theorem sless_data (a b : ByteArray) : sless a b = Op.bytesLess a.data.toList b.data.toList := by
  unfold sless
  rw [Go.ByteArray.toList_eq, Go.ByteArray.toList_eq]

theorem bl_nil_right : ∀ a : List UInt8, Op.bytesLess a [] = false
  | [] => rfl
  | _ :: _ => rfl
theorem bl_nil_left {b : List UInt8} (h : b ≠ []) : Op.bytesLess [] b = true := by
  cases b with
  | nil => exact absurd rfl h
  | cons => rfl

def aheadR (a b : Rank) : Bool := decide (a.score < b.score) || (decide (a.score = b.score) && sless a.name b.name)

theorem chk1_ord {h : Heap} : OrdP 27 (fun x y => sless x.name y.name) h := by
  intro h' x y _
  refine f27_calls (by simp) ?_
  intro b1 h1 g1
  intro b2 h2 g2
  have B1 : Blk h2 b1 (encP x) := (show Blk h1 b1 (encP x) from g1.blk).chg g2.chg (by simp)
  have B2 : Blk h2 b2 (encP y) := g2.blk
  refine Exists.intro _ (And.intro (cell_blk B1 rfl) (Exists.intro _ (And.intro (cell_blk B2 rfl) ?_)))
  refine call_ret (cmpS_calls x.name y.name) ?_
  rintro _ h3 ⟨rfl, rfl⟩
  exact And.intro (Exists.intro _ (And.intro rfl (cmpB_neg _ _))) (g1.chg.nil g2.chg)

theorem cmpS_ord {h : Heap} : OrdS 28 sless h := by
  intro h' x y _
  exact (cmpS_calls x y).mono fun e h'' he => by
    cases e <;> first | exact he.elim | skip
    obtain ⟨rfl, rfl⟩ := he
    exact And.intro (Exists.intro _ (And.intro rfl (cmpB_neg _ _))) (Chg.refl _)

theorem ahead_ord {h : Heap} : OrdR 31 aheadR h := by
  intro h' x y _
  refine f31_calls (by simp) ?_
  intro b1 h1 g1
  intro b2 h2 g2
  have B1 : Blk h2 b1 (encR x) := (show Blk h1 b1 (encR x) from g1.blk).chg g2.chg (by simp)
  have B2 : Blk h2 b2 (encR y) := g2.blk
  have hc := g1.chg.nil g2.chg
  refine Exists.intro _ (And.intro (cell_blk B1 rfl) (Exists.intro _ (And.intro (cell_blk B2 rfl) ?_)))
  refine And.intro rfl (And.intro (fun hl => ?_) (fun hl => ?_))
  · exact And.intro (Exists.intro (-1) (And.intro rfl (by simp [aheadR, hl]))) hc
  · refine Exists.intro _ (And.intro (cell_blk B1 rfl) (Exists.intro _ (And.intro (cell_blk B2 rfl) ?_)))
    refine And.intro rfl (And.intro (fun hg => ?_) (fun hg => ?_))
    · exact And.intro (Exists.intro 1 (And.intro rfl (by simp [aheadR]; omega))) hc
    · refine Exists.intro _ (And.intro (cell_blk B1 rfl) (Exists.intro _ (And.intro (cell_blk B2 rfl) ?_)))
      refine call_ret (cmpS_calls x.name y.name) ?_
      rintro _ h3 ⟨rfl, rfl⟩
      have e : x.score = y.score := by omega
      exact And.intro (Exists.intro _ (And.intro rfl (by rw [cmpB_neg]; simp [aheadR, e]))) hc

end Go.Proofs.YtigolfakcblnjaaGreat
