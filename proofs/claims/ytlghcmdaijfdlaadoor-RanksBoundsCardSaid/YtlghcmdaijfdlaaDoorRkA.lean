/-
  The order of members, in plain Lean.
-/
import Derived.Test.YtlghcmdaijfdlaaDoorRefC
namespace Go.Proofs.YtlghcmdaijfdlaaDoor
open Go Go.Sx

/-! ### Texts -/
theorem bl_irrefl : ∀ a : List UInt8, Op.bytesLess a a = false
  | [] => rfl
  | x :: a => by simp [Op.bytesLess, bl_irrefl a]

theorem bl_trans : ∀ {a b c : List UInt8}, Op.bytesLess a b = true → Op.bytesLess b c = true → Op.bytesLess a c = true
  | _, [], _, h, _ => by cases ‹List UInt8› <;> simp [Op.bytesLess] at h
  | _, _ :: _, [], _, h => by simp [Op.bytesLess] at h
  | [], _ :: _, _ :: _, _, _ => by simp [Op.bytesLess]
  | x :: a, y :: b, z :: c, h1, h2 => by
    have ih := @bl_trans a b c
    simp only [Op.bytesLess, Bool.or_eq_true, decide_eq_true_eq, Bool.and_eq_true, beq_iff_eq, UInt8.lt_iff_toNat_lt, ← UInt8.toNat_inj] at h1 h2 ⊢
    rcases h1 with h1 | ⟨h1, h1'⟩ <;> rcases h2 with h2 | ⟨h2, h2'⟩
    · left; omega
    · left; omega
    · left; omega
    · right; exact ⟨by omega, ih h1' h2'⟩

theorem bl_total : ∀ {a b : List UInt8}, a ≠ b → Op.bytesLess a b = true ∨ Op.bytesLess b a = true
  | [], [], h => absurd rfl h
  | [], _ :: _, _ => by simp [Op.bytesLess]
  | _ :: _, [], _ => by simp [Op.bytesLess]
  | x :: a, y :: b, h => by
    have ih := @bl_total a b
    simp only [Op.bytesLess, Bool.or_eq_true, decide_eq_true_eq, Bool.and_eq_true, beq_iff_eq, UInt8.lt_iff_toNat_lt, ← UInt8.toNat_inj]
    by_cases e : x = y
    · subst e
      rcases ih (by intro e; exact h (by rw [e])) with h | h
      · left; right; exact ⟨rfl, h⟩
      · right; right; exact ⟨rfl, h⟩
    · have : x.toNat ≠ y.toNat := fun h => e (UInt8.toNat_inj.1 h)
      rcases Nat.lt_or_gt_of_ne this with h | h
      · left; left; exact h
      · right; left; exact h

theorem toList_inj {a b : ByteArray} (h : a.toList = b.toList) : a = b := by
  rw [Go.ByteArray.toList_eq, Go.ByteArray.toList_eq] at h
  cases a; cases b; simp_all

theorem sless_irrefl (a : ByteArray) : sless a a = false := bl_irrefl _
theorem sless_trans {a b c : ByteArray} : sless a b = true → sless b c = true → sless a c = true := bl_trans
theorem sless_total {a b : ByteArray} (h : a ≠ b) : sless a b = true ∨ sless b a = true := bl_total fun e => h (toList_inj e)

/-! ### Members -/
theorem ahead_iff (a b : Rank) : ahead a b = true ↔ a.score < b.score ∨ (a.score = b.score ∧ sless a.name b.name = true) := by simp [ahead]

theorem ahead_irrefl (a : Rank) : ahead a a = false := by
  have := sless_irrefl a.name
  simp [ahead, this]
theorem ahead_trans {a b c : Rank} (h1 : ahead a b = true) (h2 : ahead b c = true) : ahead a c = true := by
  rw [ahead_iff] at *
  rcases h1 with h1 | ⟨h1, h1'⟩ <;> rcases h2 with h2 | ⟨h2, h2'⟩
  · left; omega
  · left; omega
  · left; omega
  · right; exact ⟨by omega, sless_trans h1' h2'⟩
theorem ahead_total {a b : Rank} (h : a.name ≠ b.name) : ahead a b = true ∨ ahead b a = true := by
  rw [ahead_iff, ahead_iff]
  by_cases e : a.score = b.score
  · rcases sless_total h with h | h
    · left; right; exact ⟨e, h⟩
    · right; right; exact ⟨e.symm, h⟩
  · rcases Int.lt_or_gt_of_ne e with h | h
    · left; left; exact h
    · right; left; exact h
theorem ahead_asymm {a b : Rank} (h : ahead a b = true) : ahead b a = false := by
  cases hb : ahead b a with
  | false => rfl
  | true => have := ahead_trans h hb; rw [ahead_irrefl] at this; exact this.symm

def Sorted (l : List Rank) : Prop := l.Pairwise fun a b => ahead a b = true

/-- Those ahead are just the first ones. -/
theorem upto_iff {x : Rank} : ∀ {l : List Rank}, Sorted l → ∀ (k : Nat) (hk : k < l.length), ahead l[k] x = true ↔ k < upto x l
  | [], _, k, hk => by simp at hk
  | y :: l, hs, 0, hk => by
    simp only [List.getElem_cons_zero, upto]
    split <;> simp_all
  | y :: l, hs, k + 1, hk => by
    have ⟨h1, h2⟩ := List.pairwise_cons.1 hs
    have ih := upto_iff (x := x) h2 k (by simpa using hk)
    simp only [List.getElem_cons_succ, upto]
    split
    · rw [ih]; omega
    · rename_i hy
      constructor
      · intro h
        exact absurd (ahead_trans (h1 _ (List.getElem_mem _)) h) hy
      · intro h; omega

theorem sorted_app {a b : List Rank} : Sorted (a ++ b) ↔ Sorted a ∧ Sorted b ∧ ∀ x ∈ a, ∀ y ∈ b, ahead x y = true := List.pairwise_append

theorem insR_sorted {x : Rank} {l : List Rank} (hs : Sorted l) (hn : ∀ y ∈ l, y.name ≠ x.name) : Sorted (insR x l) := by
  have hl : l.take (upto x l) ++ l.drop (upto x l) = l := List.take_append_drop ..
  have hs2 := hs
  rw [← hl, sorted_app] at hs2
  obtain ⟨h1, h2, h3⟩ := hs2
  have ha : ∀ y ∈ l.take (upto x l), ahead y x = true := by
    intro y hy
    obtain ⟨k, hk, rfl⟩ := List.getElem_of_mem hy
    have hk2 : k < upto x l ∧ k < l.length := by simp at hk; omega
    rw [List.getElem_take]
    exact (upto_iff hs k hk2.2).2 hk2.1
  have hb : ∀ y ∈ l.drop (upto x l), ahead x y = true := by
    intro y hy
    obtain ⟨k, hk, rfl⟩ := List.getElem_of_mem hy
    have hk2 : upto x l + k < l.length := by simp at hk; omega
    rw [List.getElem_drop]
    rcases ahead_total (hn _ (List.getElem_mem hk2)) with h | h
    · have := (upto_iff hs _ hk2).1 h; omega
    · exact h
  unfold insR
  rw [sorted_app]
  refine ⟨h1, List.pairwise_cons.2 ⟨hb, h2⟩, fun y hy z hz => ?_⟩
  rcases List.mem_cons.1 hz with rfl | hz
  · exact ha y hy
  · exact h3 y hy z hz

theorem upto_mid {a b : List Rank} {x : Rank} (hs : Sorted (a ++ x :: b)) : upto x (a ++ x :: b) = a.length := by
  refine upto_spec x _ _ ?_ (by simp) ?_
  · intro j hj hja
    rw [List.getElem_append_left hja]
    exact (sorted_app.1 hs).2.2 _ (List.getElem_mem hja) x (by simp)
  · intro hk
    rw [List.getElem_append_right (Nat.le_refl _)]
    simp [ahead_irrefl]

def Names (l : List Rank) : Prop := (l.map Rank.name).Nodup

theorem sel_all {p : Rank → Nat → Bool} : ∀ {l : List Rank} {i : Nat}, (∀ x ∈ l, ∀ j, p x j = true) → sel p l i = l
  | [], _, _ => rfl
  | x :: l, i, h => by
    simp only [sel, h x (by simp) i, if_true]
    rw [sel_all fun y hy => h y (by simp [hy])]
theorem sel_append (p : Rank → Nat → Bool) : ∀ (a b : List Rank) (i : Nat), sel p (a ++ b) i = sel p a i ++ sel p b (i + a.length)
  | [], b, i => by simp [sel]
  | x :: a, b, i => by
    have ih := sel_append p a b (i + 1)
    have e : i + (x :: a).length = i + 1 + a.length := by simp; omega
    simp only [List.cons_append, sel, ih, e]
    split <;> simp

theorem dropR_none {n : ByteArray} {l : List Rank} (h : ∀ y ∈ l, y.name ≠ n) : dropR n l = l :=
  sel_all fun x hx _ => by simpa using h x hx
theorem dropR_mid {a b : List Rank} {x : Rank} (h : Names (a ++ x :: b)) : dropR x.name (a ++ x :: b) = a ++ b := by
  unfold Names at h
  simp only [List.map_append, List.map_cons, List.nodup_append, List.nodup_cons] at h
  obtain ⟨_, ⟨h1, _⟩, h2⟩ := h
  unfold dropR
  rw [sel_append]
  simp only [sel]
  rw [if_neg (by simp)]
  congr 1
  · refine sel_all fun y hy _ => ?_
    have := h2 y.name (List.mem_map_of_mem hy) x.name (by simp)
    simpa using this
  · refine sel_all fun y hy _ => ?_
    have : y.name ≠ x.name := fun e => h1 (by rw [← e]; exact List.mem_map_of_mem hy)
    simpa using this

theorem findR_none {n : ByteArray} : ∀ {l : List Rank} {i : Nat}, (∀ y ∈ l, y.name ≠ n) → findR n l i = -1
  | [], _, _ => rfl
  | x :: l, i, h => by
    simp only [findR]
    rw [if_neg (h x (by simp)), findR_none fun y hy => h y (by simp [hy])]
theorem findR_mid {x : Rank} : ∀ {a b : List Rank} {i : Nat}, Names (a ++ x :: b) → findR x.name (a ++ x :: b) i = i + a.length
  | [], b, i, _ => by simp [findR]
  | y :: a, b, i, h => by
    have h' : Names (a ++ x :: b) := (List.nodup_cons.1 h).2
    have hy : y.name ≠ x.name := fun e => (List.nodup_cons.1 h).1 (by rw [e]; simp)
    simp only [List.cons_append, findR]
    rw [if_neg hy, findR_mid h']
    simp; omega

/-- A name is there, or not. -/
theorem name_cases (n : ByteArray) (l : List Rank) : (∀ y ∈ l, y.name ≠ n) ∨ ∃ a x b, l = a ++ x :: b ∧ x.name = n := by
  by_cases h : ∃ x ∈ l, x.name = n
  · obtain ⟨x, hx, hn⟩ := h
    obtain ⟨a, b, rfl⟩ := List.append_of_mem hx
    exact Or.inr ⟨a, x, b, rfl, hn⟩
  · exact Or.inl fun y hy e => h ⟨y, hy, e⟩

theorem insR_names {x : Rank} {l : List Rank} (hs : Names l) (hn : ∀ y ∈ l, y.name ≠ x.name) : Names (insR x l) := by
  have hp : (insR x l).Perm (x :: l) := by
    unfold insR
    refine List.perm_middle.trans ?_
    rw [List.take_append_drop]
  have := hp.map Rank.name
  unfold Names
  rw [this.nodup_iff]
  simp only [List.map_cons, List.nodup_cons]
  refine ⟨fun h => ?_, hs⟩
  obtain ⟨y, hy, e⟩ := List.mem_map.1 h
  exact hn y hy e

theorem mid_sorted {a b : List Rank} {x : Rank} (hs : Sorted (a ++ x :: b)) : Sorted (a ++ b) := by
  rw [sorted_app] at *
  exact ⟨hs.1, (List.pairwise_cons.1 hs.2.1).2, fun y hy z hz => hs.2.2 y hy z (by simp [hz])⟩
theorem mid_names {a b : List Rank} {x : Rank} (hs : Names (a ++ x :: b)) : Names (a ++ b) := by
  unfold Names at *
  simp only [List.map_append, List.map_cons, List.nodup_append, List.nodup_cons] at hs ⊢
  exact ⟨hs.1, hs.2.1.2, fun y hy z hz => hs.2.2 y hy z (by simp [hz])⟩

end Go.Proofs.YtlghcmdaijfdlaaDoor
