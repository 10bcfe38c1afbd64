/-
  Layer 7: may a thing be? The document's loops.
-/
import Derived.Test.YtigolfakcblnjaaGreatKH
namespace Go.Proofs.YtigolfakcblnjaaGreat
open Go Go.Sx Go.Proofs.YtigolfakcblnjaaGreat.C

theorem rising_at {α : Type} {lt : α → α → Bool} : ∀ {l : List α} {k : Nat} (h1 : 1 ≤ k) (h : k < l.length), rising lt l = true → lt (l[k - 1]'(by omega)) l[k] = true
  | [], _, _, h, _ => by simp at h
  | [_], _, h1, h, _ => by simp at h; omega
  | x :: y :: l, 1, _, _, hr => by
    simp only [rising, Bool.and_eq_true] at hr
    exact hr.1
  | x :: y :: l, k + 2, _, h, hr => by
    simp only [rising, Bool.and_eq_true] at hr
    have := rising_at (l := y :: l) (k := k + 1) (by omega) (by simpa using h) hr.2
    exact this

end Go.Proofs.YtigolfakcblnjaaGreat
