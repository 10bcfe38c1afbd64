/-
  Appends to nil; slices written; small words.
-/
import Derived.Test.YtomcocbcajidcaaGreatDoorSxV
namespace Go.Sx
open Go

variable {α : Type} {enc : α → List Value} {size : Nat}

/-- An append of a list to nil. -/
theorem app_new {h : Heap} {bytes : Nat} {z : List Value} (hsz : ∀ x, (enc x).length = size) (h1 : ∀ x, ∀ u ∈ enc x, u.oneCell' = true) (hz : z.length = size)
    {a' : Option Addr} {m c2 : Nat} {l2 : List α} (hsrc : SL enc h (.slice a' m c2) l2) (hbound : (l2.length * 2 + 768) * bytes ≤ 281474976710656) {K : Value → Heap → Prop}
    (hk : ∀ v' h', OL enc size h' v' l2 → Chg [] h h' → (∀ b ∈ vblk v', h.size ≤ b) → K v' h') : appP h K size bytes z none 0 0 a' m := by
  refine app_own (l := []) hsz h1 hz OL.nil hsrc (by simpa using hbound) fun v' h' ho hc hb => hk v' h' (by simpa using ho) hc fun b hb' => ?_
  rcases hb b hb' with h | h
  · simp [ablk] at h
  · exact h

end Go.Sx
