/-
  Cuts of slices within a walk; more small words.
-/
import Derived.Test.YtaeabfemedamhaaGreatDoorSxR
namespace Go.Sx
open Go

variable {α : Type} {enc : α → List Value} {size : Nat}

/-- A cut. -/
theorem SL.slc {h : Heap} {a : Option Addr} {n c : Nat} {l : List α} (hsz : ∀ x, (enc x).length = size) (hs : SL enc h (.slice a n c) l) {lo hi : Nat} (h0 : lo ≤ hi) (h1 : hi ≤ l.length) {K : Value → Heap → Prop}
    (hk : ∀ a', ablk a' = ablk a → SL enc h (.slice a' (hi - lo) (c - lo)) ((l.drop lo).take (hi - lo)) → K (.slice a' (hi - lo) (c - lo)) h) : 0 ≤ (lo : Int) ∧ (lo : Int) ≤ hi ∧ (hi : Int) ≤ c ∧ slcR K h size a c lo hi := by
  obtain ⟨hn, hc⟩ := hs.len
  have e1 : ((hi : Int) - lo).toNat = hi - lo := by omega
  have e2 : ((c : Int) - lo).toNat = c - lo := by omega
  refine ⟨by omega, by omega, by omega, ?_⟩
  unfold slcR
  rw [e1, e2]
  cases a with
  | none =>
    obtain ⟨a', c', he, _, h2⟩ := hs
    cases he
    have : l.length = 0 := h2
    have hl : l = [] := by simpa using this
    subst hl
    have hlo : lo = 0 := by simp at h1; omega
    have hhi : hi = 0 := by simpa using h1
    subst hlo; subst hhi
    exact hk none rfl ⟨none, c, rfl, by simp, rfl⟩
  | some a =>
    obtain ⟨b, o, sp⟩ := a
    cases sp with
    | some s =>
      obtain ⟨a', c', he, _, h2⟩ := hs
      cases he
      have h0 : l.length = 0 := h2
      have hl : l = [] := by simpa using h0
      subst hl
      have hlo : lo = 0 := by simp at h1; omega
      have hhi : hi = 0 := by simpa using h1
      subst hlo; subst hhi
      exact ⟨rfl, hk (some ⟨b, o, some s⟩) rfl ⟨some ⟨b, o, some s⟩, c, rfl, by simp, rfl⟩⟩
    | none =>
      intro o' ho1 ho2
      refine hk (some ⟨b, o', none⟩) rfl (hs.cut hsz h0 h1 (fun hlt => ?_) (fun he => ?_))
      · have := ho1 (by omega)
        simpa using this
      · exact ho2 (by omega)

/-- A new block, written. -/
theorem Grow.put {h h1 h2 : Heap} {b : Nat} {l l' : List Value} (g : Grow h h1 b l) (p : Put h1 h2 b l') : Grow h h2 b l' :=
  ⟨g.id, p.blk, by rw [p.size, g.size], fun k hk => by rw [p.old k (by rw [g.id]; omega), g.old k hk]⟩

theorem ones2 {a b : Value} (ha : a.oneCell' = true) (hb : b.oneCell' = true) : ∀ u ∈ [a, b], u.oneCell' = true := by
  intro u hu
  simp at hu
  rcases hu with rfl | rfl <;> assumption
theorem ones1 {a : Value} (ha : a.oneCell' = true) : ∀ u ∈ [a], u.oneCell' = true := by
  intro u hu
  simp at hu
  rw [hu]; exact ha

end Go.Sx
