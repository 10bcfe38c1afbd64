/-
  Slices that read as lists; slices of the call's own, appended to.
-/
import Derived.Test.YtaeabfemedamhaaGreatDoorSxP
namespace Go.Sx
open Go

variable {α : Type} {enc : α → List Value} {size : Nat}

theorem flatMap_len (hsz : ∀ x, (enc x).length = size) : ∀ l : List α, (l.flatMap enc).length = l.length * size
  | [] => by simp
  | x :: l => by simp [flatMap_len hsz l, hsz x, Nat.add_mul, Nat.add_comm]

theorem flatMap_get (hsz : ∀ x, (enc x).length = size) : ∀ (l : List α) (i : Nat) (x : α), l[i]? = some x → ∀ (j : Nat) (v : Value), (enc x)[j]? = some v → (l.flatMap enc)[i * size + j]? = some v
  | [], i, x, h, _, _, _ => by simp at h
  | y :: l, 0, x, h, j, v, hj => by
    simp at h; subst h
    have hlt := (List.getElem?_eq_some_iff.1 hj).1
    simp only [List.flatMap_cons, Nat.zero_mul, Nat.zero_add]
    rw [List.getElem?_append_left hlt]; exact hj
  | y :: l, i + 1, x, h, j, v, hj => by
    have ih := flatMap_get hsz l i x (by simpa using h) j v hj
    simp only [List.flatMap_cons]
    rw [List.getElem?_append_right (by rw [hsz y, Nat.add_mul]; omega)]
    have e : (i + 1) * size + j - (enc y).length = i * size + j := by rw [hsz y, Nat.add_mul]; omega
    rw [e]; exact ih

/-- A slice that reads as a list. -/
def SL (enc : α → List Value) (h : Heap) (v : Value) (l : List α) : Prop := ∃ a c, v = .slice a l.length c ∧ l.length ≤ c ∧ Src h a l.length (l.flatMap enc)

/-- The block that a slice lies in. -/
def ablk : Option Addr → List Nat
  | none => []
  | some a => [a.block]
def vblk : Value → List Nat
  | .slice a _ _ => ablk a
  | _ => []

theorem Src.chg {S : List Nat} {h h' : Heap} {a : Option Addr} {n : Nat} {xs : List Value} (hs : Src h a n xs) (hc : Chg S h h') (hn : ∀ b ∈ ablk a, b ∉ S) : Src h' a n xs := by
  cases a with
  | none => exact hs
  | some a =>
    obtain ⟨b, o, sp⟩ := a
    cases sp with
    | some s => exact hs
    | none => exact fun i v hv => cell_chg (hs i v hv) hc (hn b (by simp [ablk]))

theorem SL.chg {S : List Nat} {h h' : Heap} {v : Value} {l : List α} (hs : SL enc h v l) (hc : Chg S h h') (hn : ∀ b ∈ vblk v, b ∉ S) : SL enc h' v l := by
  obtain ⟨a, c, rfl, h1, h2⟩ := hs
  exact ⟨a, c, rfl, h1, h2.chg hc hn⟩

theorem SL.ext {h h' : Heap} {v : Value} {l : List α} (hs : SL enc h v l) (hc : Chg [] h h') : SL enc h' v l := hs.chg hc (by simp)

/-- The address of a slice that is not empty. -/
theorem SL.addr {h : Heap} {a : Option Addr} {n c : Nat} {l : List α} (hs : SL enc h (.slice a n c) l) (hpos : 0 < l.length) : ∃ b o, a = some ⟨b, o, none⟩ := by
  obtain ⟨a', c', he, _, h2⟩ := hs
  cases he
  cases a with
  | none => have : l.length = 0 := h2; omega
  | some a =>
    obtain ⟨b, o, sp⟩ := a
    cases sp with
    | some s => have : l.length = 0 := h2; omega
    | none => exact ⟨b, o, rfl⟩

theorem SL.cells {h : Heap} {b o n c : Nat} {l : List α} (hsz : ∀ x, (enc x).length = size) (hs : SL enc h (.slice (some ⟨b, o, none⟩) n c) l) {i : Nat} {x : α} (hi : l[i]? = some x) : Cells h b (o + i * size) (enc x) := by
  obtain ⟨a', c', he, _, h2⟩ := hs
  cases he
  intro j v hj
  have := h2 (i * size + j) v (flatMap_get hsz l i x hi j v hj)
  rw [Nat.add_assoc]; exact this

theorem SL.len {h : Heap} {a : Option Addr} {n c : Nat} {l : List α} (hs : SL enc h (.slice a n c) l) : n = l.length ∧ l.length ≤ c := by
  obtain ⟨a', c', he, h1, _⟩ := hs
  cases he
  exact ⟨rfl, h1⟩

theorem SL.form {h : Heap} {v : Value} {l : List α} (hs : SL enc h v l) : ∃ a c, v = .slice a l.length c ∧ l.length ≤ c := by
  obtain ⟨a', c', he, h1, _⟩ := hs
  exact ⟨a', c', he, h1⟩

theorem SL.nil {h : Heap} : SL enc h (.slice none 0 0) [] := ⟨none, 0, rfl, Nat.le_refl _, rfl⟩

/-- A cut. -/
theorem SL.cut {h : Heap} {b o o' n c : Nat} {l : List α} (hsz : ∀ x, (enc x).length = size) (hs : SL enc h (.slice (some ⟨b, o, none⟩) n c) l) {lo hi : Nat} (h0 : lo ≤ hi) (h1 : hi ≤ l.length)
    (ho1 : lo < c → o' = o + lo * size) (_ : c = lo → o' = o) : SL enc h (.slice (some ⟨b, o', none⟩) (hi - lo) (c - lo)) ((l.drop lo).take (hi - lo)) := by
  obtain ⟨hn, hc⟩ := hs.len
  have hlen : ((l.drop lo).take (hi - lo)).length = hi - lo := by simp; omega
  refine ⟨some ⟨b, o', none⟩, c - lo, by rw [hlen], by rw [hlen]; omega, ?_⟩
  obtain ⟨a', c', he, _, h2⟩ := hs
  cases he
  by_cases hlt : lo < c
  · rw [ho1 hlt]
    intro j v hj
    -- the cells of a cut are cells of the whole
    have hlj : j < ((l.drop lo).take (hi - lo)).length * size := by rw [← flatMap_len hsz]; exact (List.getElem?_eq_some_iff.1 hj).1
    have e1 : l.flatMap enc = (l.take lo).flatMap enc ++ (((l.drop lo).take (hi - lo)).flatMap enc ++ ((l.drop lo).drop (hi - lo)).flatMap enc) := by
      rw [← List.flatMap_append, List.take_append_drop, ← List.flatMap_append, List.take_append_drop]
    have e2 : ((l.take lo).flatMap enc).length = lo * size := by rw [flatMap_len hsz, List.length_take, Nat.min_eq_left (by omega)]
    have : (l.flatMap enc)[lo * size + j]? = some v := by
      rw [e1, List.getElem?_append_right (by omega), e2]
      have : lo * size + j - lo * size = j := by omega
      rw [this, List.getElem?_append_left (by rw [flatMap_len hsz]; exact hlj)]
      exact hj
    have := h2 _ _ this
    rw [Nat.add_assoc]; exact this
  · have : hi - lo = 0 := by omega
    rw [this]
    intro j v hj
    simp at hj

/-! ### Of the call's own -/
/-- A slice of the call's own, from its block's beginning on; it may be appended to. -/
def OL (enc : α → List Value) (size : Nat) (h : Heap) (v : Value) (l : List α) : Prop :=
  ∃ a c, v = .slice a l.length c ∧ match a with
    | none => l = [] ∧ c = 0
    | some ⟨b, o, none⟩ => o = 0 ∧ l.length ≤ c ∧ ∃ rest, Blk h b (l.flatMap enc ++ rest) ∧ (l.flatMap enc ++ rest).length = c * size
    | _ => False

theorem OL.nil {h : Heap} : OL enc size h (.slice none 0 0) [] := ⟨none, 0, rfl, rfl, rfl⟩

theorem OL.sl {h : Heap} {v : Value} {l : List α} (ho : OL enc size h v l) : SL enc h v l := by
  obtain ⟨a, c, rfl, h1⟩ := ho
  split at h1
  · obtain ⟨rfl, rfl⟩ := h1; exact SL.nil
  · rename_i b o
    obtain ⟨rfl, h2, rest, hb, h3⟩ := h1
    refine ⟨_, c, rfl, h2, fun i v hv => ?_⟩
    rw [Nat.zero_add]
    refine cell_blk hb ?_
    rw [List.getElem?_append_left (List.getElem?_eq_some_iff.1 hv).1]; exact hv
  · exact h1.elim

theorem OL.chg {S : List Nat} {h h' : Heap} {v : Value} {l : List α} (ho : OL enc size h v l) (hc : Chg S h h') (hn : ∀ b ∈ vblk v, b ∉ S) : OL enc size h' v l := by
  obtain ⟨a, c, rfl, h1⟩ := ho
  refine ⟨a, c, rfl, ?_⟩
  split at h1
  · exact h1
  · rename_i b o
    obtain ⟨h0, h2, rest, hb, h3⟩ := h1
    exact ⟨h0, h2, rest, hb.chg hc (hn b (by simp [vblk, ablk])), h3⟩
  · exact h1.elim

theorem OL.ext {h h' : Heap} {v : Value} {l : List α} (hs : OL enc size h v l) (hc : Chg [] h h') : OL enc size h' v l := hs.chg hc (by simp)

theorem OL.lt {h : Heap} {v : Value} {l : List α} (ho : OL enc size h v l) : ∀ b ∈ vblk v, b < h.size := by
  obtain ⟨a, c, rfl, h1⟩ := ho
  split at h1
  · simp [vblk, ablk]
  · obtain ⟨_, _, rest, hb, _⟩ := h1
    simp [vblk, ablk]; exact hb.lt
  · exact h1.elim

theorem splice_mid : ∀ (xs l ys : List Value), ys.length ≤ l.length → splice (xs ++ l) xs.length ys = xs ++ (ys ++ l.drop ys.length)
  | [], l, [], _ => by simp [splice_nil]
  | [], [], y :: ys, h => by simp at h
  | [], x :: l, y :: ys, h => by
    have ih := splice_mid [] l ys (by simpa using h)
    simp at ih
    simp [splice, ih]
  | x :: xs, l, [], h => by simp [splice_nil]
  | x :: xs, l, y :: ys, h => by
    have ih := splice_mid xs l (y :: ys) h
    simp only [List.cons_append, List.length_cons, splice]
    rw [ih]; simp

/-- An append of a list to a slice of one's own. -/
theorem app_own {h : Heap} {bytes : Nat} {z : List Value} (hsz : ∀ x, (enc x).length = size) (h1 : ∀ x, ∀ u ∈ enc x, u.oneCell' = true) (hz : z.length = size)
    {a : Option Addr} {n c : Nat} {a' : Option Addr} {m c2 : Nat} {l l2 : List α} (hown : OL enc size h (.slice a n c) l) (hsrc : SL enc h (.slice a' m c2) l2)
    (hbound : ((l.length + l2.length) * 2 + 768) * bytes ≤ 281474976710656) {K : Value → Heap → Prop}
    (hk : ∀ v' h', OL enc size h' v' (l ++ l2) → Chg (ablk a) h h' → (∀ b ∈ vblk v', b ∈ ablk a ∨ h.size ≤ b) → K v' h') : appP h K size bytes z a n c a' m := by
  obtain ⟨hn, _⟩ := hown.sl.len
  obtain ⟨hm, _⟩ := hsrc.len
  have hsl := hown.sl
  obtain ⟨a1, c1, he, hrep⟩ := hown
  cases he
  obtain ⟨a3, c3, he3, _, hs3⟩ := hsrc
  cases he3
  obtain ⟨a4, c4, he4, _, hs4⟩ := hsl
  cases he4
  refine ⟨l.flatMap enc, l2.flatMap enc, flatMap_len hsz l, flatMap_len hsz l2, hs4, hs3, ?_, fun hroom => ?_, fun hfull => ⟨hbound, fun c' b h' hc' hg => ?_⟩⟩
  · intro u hu
    obtain ⟨x, _, hx⟩ := List.mem_flatMap.1 hu
    exact h1 x u hx
  · cases a with
    | none =>
      obtain ⟨rfl, rfl⟩ := hrep
      have hl2 : l2 = [] := by simpa using hroom
      subst hl2
      exact hk _ _ (by simpa using OL.nil) ⟨Nat.le_refl _, fun _ _ _ => rfl⟩ (by simp [vblk, ablk])
    | some a =>
      obtain ⟨b, o, sp⟩ := a
      cases sp with
      | some s => exact hrep.elim
      | none =>
        obtain ⟨rfl, h2, rest, hb, h3⟩ := hrep
        have hlen1 := flatMap_len hsz l
        have hlen2 := flatMap_len hsz l2
        have hmul : (l.length + l2.length) * size = l.length * size + l2.length * size := Nat.add_mul _ _ _
        have hcs : (l.length + l2.length) * size ≤ c * size := Nat.mul_le_mul_right _ hroom
        refine ⟨_, hb, by rw [h3]; omega, fun h' hp => ?_⟩
        have hrl : (l2.flatMap enc).length ≤ rest.length := by
          rw [List.length_append] at h3; omega
        have hsp : splice (l.flatMap enc ++ rest) (0 + l.length * size) (l2.flatMap enc) = (l ++ l2).flatMap enc ++ rest.drop (l2.flatMap enc).length := by
          rw [Nat.zero_add, ← hlen1, splice_mid _ _ _ hrl]; simp
        rw [hsp] at hp
        have hol : OL enc size h' (.slice (some ⟨b, 0, none⟩) (l.length + l2.length) c) (l ++ l2) := by
          refine ⟨some ⟨b, 0, none⟩, c, by rw [List.length_append], rfl, by rw [List.length_append]; exact hroom, _, hp.blk, ?_⟩
          rw [← h3]; simp only [List.length_append, List.length_drop, List.flatMap_append] at h3 hrl ⊢; omega
        exact hk _ _ hol hp.chg (by simp [vblk, ablk])
  · have hol : OL enc size h' (.slice (some ⟨b, 0, none⟩) (l.length + l2.length) c') (l ++ l2) := by
      refine ⟨some ⟨b, 0, none⟩, c', by rw [List.length_append], rfl, by rw [List.length_append]; exact hc', (List.replicate (c' - (l.length + l2.length)) z).flatten, ?_, ?_⟩
      · have := hg.blk
        simpa using this
      · have hlen1 := flatMap_len hsz (l ++ l2)
        rw [List.length_append, hlen1, List.length_append]
        have : ((List.replicate (c' - (l.length + l2.length)) z).flatten).length = (c' - (l.length + l2.length)) * size := by simp [hz]
        rw [this, ← Nat.add_mul]
        congr 1; omega
    refine hk _ _ hol (hg.chg.mono (by simp)) ?_
    intro b' hb'
    simp [vblk, ablk] at hb'
    right; rw [hb', hg.id]; exact Nat.le_refl _

/-- A slice of one, just made, to append. -/
theorem SL.one {h : Heap} {b : Nat} {x : α} (_ : ∀ x, (enc x).length = size) (hb : Blk h b (enc x)) : SL enc h (.slice (some ⟨b, 0, none⟩) 1 1) [x] := by
  refine ⟨_, 1, rfl, Nat.le_refl _, ?_⟩
  have := cells_blk hb
  simpa [Src] using this

end Go.Sx
