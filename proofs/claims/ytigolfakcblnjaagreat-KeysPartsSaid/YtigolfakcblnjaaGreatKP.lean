/-
  Layer 7: lists of things under keys, plain.
-/
import Derived.Test.YtigolfakcblnjaaGreatKN
namespace Go.Proofs.YtigolfakcblnjaaGreat
open Go Go.Sx

/-- An entry as it lies in a slice, and the thing that it is. -/
structure RX where
  key : ByteArray
  thing : Thing
  vs : List Value
  len : vs.length = 7
  one : ∀ u ∈ vs, u.oneCell' = true

def encX (x : RX) : List Value := .string x.key :: x.vs
theorem encX_len (x : RX) : (encX x).length = 8 := by simp [encX, x.len]
theorem encX_one (x : RX) : ∀ u ∈ encX x, u.oneCell' = true := by
  intro u hu
  simp only [encX, List.mem_cons] at hu
  rcases hu with rfl | hu
  · rfl
  · exact x.one u hu

/-- The things lie there. -/
def GX (h : Heap) (l : List RX) : Prop := ∀ x ∈ l, TH h x.vs x.thing
theorem GX.ext {h h' : Heap} {l : List RX} (g : GX h l) (hc : Chg [] h h') : GX h' l := fun x hx => (g x hx).ext hc

def findX (key : ByteArray) : List RX → Nat × Bool
  | [] => (0, false)
  | x :: l => if x.key = key then (0, true) else if sless key x.key = true then (0, false) else ((findX key l).1 + 1, (findX key l).2)

def putX (l : List RX) (x : RX) : List RX :=
  l.take (findX x.key l).1 ++ [x] ++ l.drop (if (findX x.key l).2 = true then (findX x.key l).1 + 1 else (findX x.key l).1)

def dropX (l : List RX) (key : ByteArray) : List RX :=
  if (findX key l).2 = true then l.take (findX key l).1 ++ l.drop ((findX key l).1 + 1) else l

/-- By rising keys. -/
def UpX (l : List RX) : Prop := l.Pairwise fun x y => sless x.key y.key = true

theorem findX_le (key : ByteArray) : ∀ l : List RX, (findX key l).1 ≤ l.length
  | [] => Nat.le_refl _
  | x :: l => by
    have := findX_le key l
    unfold findX
    split
    · exact Nat.zero_le _
    · split
      · exact Nat.zero_le _
      · simp; exact this

theorem findX_hit (key : ByteArray) : ∀ l : List RX, (findX key l).2 = true → ∃ h : (findX key l).1 < l.length, l[(findX key l).1].key = key
  | [], h => by simp [findX] at h
  | x :: l, h => by
    by_cases h1 : x.key = key
    · have e : findX key (x :: l) = (0, true) := by unfold findX; rw [if_pos h1]
      simp only [e]
      exact ⟨by simp, by simpa using h1⟩
    · by_cases h2 : sless key x.key = true
      · have e : findX key (x :: l) = (0, false) := by unfold findX; rw [if_neg h1, if_pos h2]
        rw [e] at h; simp at h
      · have e : findX key (x :: l) = ((findX key l).1 + 1, (findX key l).2) := by rw [findX, if_neg h1, if_neg h2]
        rw [e] at h
        obtain ⟨h3, h4⟩ := findX_hit key l h
        simp only [e]
        exact ⟨by simp; exact h3, by simpa using h4⟩

theorem findX_mem {key : ByteArray} {l : List RX} (h : (findX key l).2 = true) : ∃ x ∈ l, x.key = key := by
  obtain ⟨h1, h2⟩ := findX_hit key l h
  exact ⟨_, List.getElem_mem h1, h2⟩

theorem findX_has {key : ByteArray} : ∀ {l : List RX}, UpX l → (∃ x ∈ l, x.key = key) → (findX key l).2 = true
  | [], _, h => by simp at h
  | x :: l, hu, h => by
    unfold findX
    split
    · rfl
    · rename_i h1
      obtain ⟨y, hy, hk⟩ := h
      rcases List.mem_cons.1 hy with rfl | hy
      · exact absurd hk h1
      · have h2 := (List.pairwise_cons.1 hu).1 y hy
        rw [hk] at h2
        split
        · rename_i h3
          have := sless_trans h2 h3
          rw [sless_irrefl] at this; cases this
        · exact findX_has (List.pairwise_cons.1 hu).2 ⟨y, hy, hk⟩

theorem findX_iff {key : ByteArray} {l : List RX} (hu : UpX l) : (findX key l).2 = true ↔ ∃ x ∈ l, x.key = key := ⟨findX_mem, findX_has hu⟩

theorem putX_cons (y : RX) (l : List RX) (x : RX) : putX (y :: l) x = if y.key = x.key then x :: l else if sless x.key y.key = true then x :: y :: l else y :: putX l x := by
  unfold putX
  by_cases h1 : y.key = x.key
  · have e : findX x.key (y :: l) = (0, true) := by unfold findX; rw [if_pos h1]
    rw [e, if_pos h1]; simp
  · by_cases h2 : sless x.key y.key = true
    · have e : findX x.key (y :: l) = (0, false) := by unfold findX; rw [if_neg h1, if_pos h2]
      rw [e, if_neg h1, if_pos h2]; simp
    · have e : findX x.key (y :: l) = ((findX x.key l).1 + 1, (findX x.key l).2) := by rw [findX, if_neg h1, if_neg h2]
      rw [e, if_neg h1, if_neg h2]
      cases hb : (findX x.key l).2 <;> simp

theorem putX_nil (x : RX) : putX [] x = [x] := rfl

theorem dropX_cons (y : RX) (l : List RX) (k : ByteArray) : dropX (y :: l) k = if y.key = k then l else if sless k y.key = true then y :: l else y :: dropX l k := by
  unfold dropX
  by_cases h1 : y.key = k
  · have e : findX k (y :: l) = (0, true) := by unfold findX; rw [if_pos h1]
    rw [e, if_pos h1]; simp
  · by_cases h2 : sless k y.key = true
    · have e : findX k (y :: l) = (0, false) := by unfold findX; rw [if_neg h1, if_pos h2]
      rw [e, if_neg h1, if_pos h2]; simp
    · have e : findX k (y :: l) = ((findX k l).1 + 1, (findX k l).2) := by rw [findX, if_neg h1, if_neg h2]
      rw [e, if_neg h1, if_neg h2]
      cases hb : (findX k l).2 <;> simp

theorem sless_ne {a b : ByteArray} (h : sless a b = true) : a ≠ b := by
  intro e; subst e; rw [sless_irrefl] at h; cases h

theorem mem_putX {x y : RX} : ∀ {l : List RX}, UpX l → (y ∈ putX l x ↔ y = x ∨ (y ∈ l ∧ y.key ≠ x.key))
  | [], _ => by simp [putX_nil]
  | z :: l, hu => by
    obtain ⟨h1, h2⟩ := List.pairwise_cons.1 hu
    rw [putX_cons]
    split
    · rename_i hk
      rw [List.mem_cons, List.mem_cons]
      constructor
      · rintro (rfl | hy)
        · exact .inl rfl
        · refine .inr ⟨.inr hy, fun e => sless_ne (h1 y hy) (hk.trans e.symm)⟩
      · rintro (rfl | ⟨rfl | hy, hn⟩)
        · exact .inl rfl
        · exact absurd hk hn
        · exact .inr hy
    · rename_i hk
      split
      · rename_i hl
        rw [List.mem_cons, List.mem_cons]
        constructor
        · rintro (rfl | rfl | hy)
          · exact .inl rfl
          · exact .inr ⟨.inl rfl, hk⟩
          · refine .inr ⟨.inr hy, fun e => ?_⟩
            have := sless_trans hl (h1 y hy)
            rw [e, sless_irrefl] at this; cases this
        · rintro (rfl | ⟨rfl | hy, hn⟩)
          · exact .inl rfl
          · exact .inr (.inl rfl)
          · exact .inr (.inr hy)
      · rw [List.mem_cons, mem_putX h2, List.mem_cons]
        constructor
        · rintro (rfl | rfl | ⟨hy, hn⟩)
          · exact .inr ⟨.inl rfl, hk⟩
          · exact .inl rfl
          · exact .inr ⟨.inr hy, hn⟩
        · rintro (rfl | ⟨rfl | hy, hn⟩)
          · exact .inr (.inl rfl)
          · exact .inl rfl
          · exact .inr (.inr ⟨hy, hn⟩)

theorem up_putX {x : RX} : ∀ {l : List RX}, UpX l → UpX (putX l x)
  | [], _ => by rw [putX_nil]; exact List.pairwise_singleton _ _
  | z :: l, hu => by
    obtain ⟨h1, h2⟩ := List.pairwise_cons.1 hu
    rw [putX_cons]
    split
    · rename_i hk
      exact List.pairwise_cons.2 ⟨fun y hy => by rw [← hk]; exact h1 y hy, h2⟩
    · rename_i hk
      split
      · rename_i hl
        refine List.pairwise_cons.2 ⟨fun y hy => ?_, hu⟩
        rcases List.mem_cons.1 hy with rfl | hy
        · exact hl
        · exact sless_trans hl (h1 y hy)
      · rename_i hl
        refine List.pairwise_cons.2 ⟨fun y hy => ?_, up_putX h2⟩
        rcases (mem_putX h2).1 hy with rfl | ⟨hy, _⟩
        · rcases sless_total (a := z.key) (b := y.key) hk with h | h
          · exact h
          · exact absurd h hl
        · exact h1 y hy

theorem mem_dropX {k : ByteArray} {y : RX} : ∀ {l : List RX}, UpX l → (y ∈ dropX l k ↔ y ∈ l ∧ y.key ≠ k)
  | [], _ => by simp [dropX, findX]
  | z :: l, hu => by
    obtain ⟨h1, h2⟩ := List.pairwise_cons.1 hu
    rw [dropX_cons]
    split
    · rename_i hk
      rw [List.mem_cons]
      constructor
      · exact fun hy => ⟨.inr hy, fun e => sless_ne (h1 y hy) (hk.trans e.symm)⟩
      · rintro ⟨rfl | hy, hn⟩
        · exact absurd hk hn
        · exact hy
    · rename_i hk
      split
      · rename_i hl
        rw [List.mem_cons]
        constructor
        · rintro (rfl | hy)
          · exact ⟨.inl rfl, hk⟩
          · refine ⟨.inr hy, fun e => ?_⟩
            have := sless_trans hl (h1 y hy)
            rw [e, sless_irrefl] at this; cases this
        · exact fun h => h.1
      · rw [List.mem_cons, mem_dropX h2, List.mem_cons]
        constructor
        · rintro (rfl | ⟨hy, hn⟩)
          · exact ⟨.inl rfl, hk⟩
          · exact ⟨.inr hy, hn⟩
        · rintro ⟨rfl | hy, hn⟩
          · exact .inl rfl
          · exact .inr ⟨hy, hn⟩

theorem up_dropX {k : ByteArray} : ∀ {l : List RX}, UpX l → UpX (dropX l k)
  | [], _ => by simp [dropX, findX, UpX]
  | z :: l, hu => by
    obtain ⟨h1, h2⟩ := List.pairwise_cons.1 hu
    rw [dropX_cons]
    split
    · exact h2
    · split
      · exact hu
      · exact List.pairwise_cons.2 ⟨fun y hy => h1 y ((mem_dropX h2).1 hy).1, up_dropX h2⟩

theorem putX_len (l : List RX) (x : RX) : (putX l x).length ≤ l.length + 1 := by
  unfold putX
  have := findX_le x.key l
  simp only [List.length_append, List.length_take, List.length_drop, List.length_cons, List.length_nil]
  split <;> omega

theorem putX_new {l : List RX} {x : RX} (h : (findX x.key l).2 = false) : (putX l x).length = l.length + 1 := by
  unfold putX
  have := findX_le x.key l
  simp only [List.length_append, List.length_take, List.length_drop, List.length_cons, List.length_nil, h]
  simp; omega

/-- Two lists by rising keys of the same members are the same. -/
theorem up_ext {α : Type} {lt : α → α → Prop} (ha : ∀ a b, lt a b → ¬ lt b a) : ∀ {l m : List α}, l.Pairwise lt → m.Pairwise lt → (∀ x, x ∈ l ↔ x ∈ m) → l = m
  | [], [], _, _, _ => rfl
  | [], b :: m, _, _, h => by have := (h b).2 (by simp); simp at this
  | a :: l, [], _, _, h => by have := (h a).1 (by simp); simp at this
  | a :: l, b :: m, hl, hm, h => by
    obtain ⟨l1, l2⟩ := List.pairwise_cons.1 hl
    obtain ⟨m1, m2⟩ := List.pairwise_cons.1 hm
    have e : a = b := by
      rcases List.mem_cons.1 ((h a).1 (by simp)) with e | ha'
      · exact e
      · rcases List.mem_cons.1 ((h b).2 (by simp)) with e | hb'
        · exact e.symm
        · exact absurd (l1 b hb') (ha b a (m1 a ha'))
    subst e
    have irr : ∀ x, ¬ lt x x := fun x hx => ha x x hx hx
    refine congrArg _ (up_ext ha l2 m2 fun x => ⟨fun hx => ?_, fun hx => ?_⟩)
    · rcases List.mem_cons.1 ((h x).1 (List.mem_cons_of_mem _ hx)) with e | h'
      · exact absurd (l1 x hx) (by rw [e]; exact irr _)
      · exact h'
    · rcases List.mem_cons.1 ((h x).2 (List.mem_cons_of_mem _ hx)) with e | h'
      · exact absurd (m1 x hx) (by rw [e]; exact irr _)
      · exact h'

end Go.Proofs.YtigolfakcblnjaaGreat
