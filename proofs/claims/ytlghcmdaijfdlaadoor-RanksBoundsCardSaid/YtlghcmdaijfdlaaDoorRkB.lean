/-
  A ranked set in the heap: its members, one behind the other, and at each height the links. Plain.
-/
import Derived.Test.YtlghcmdaijfdlaaDoorRkA
namespace Go.Proofs.YtlghcmdaijfdlaaDoor
open Go Go.Sx

def ptr (b : Nat) : Value := .pointer (some ⟨b, 0, none⟩)

/-- A member: its block, its links' block, its height. -/
structure Nd where
  mb : Nat
  lb : Nat
  ht : Nat
  r : Rank

def Nd.row (a : Nd) : List Value := encR a.r ++ [.slice (some ⟨a.lb, 0, none⟩) a.ht a.ht]

structure NodeOK (h : Heap) (a : Nd) : Prop where
  m : Blk h a.mb a.row
  l : ∃ lk, Blk h a.lb lk ∧ lk.length = 2 * a.ht
  pos : 1 ≤ a.ht
  top : a.ht ≤ 16

def link (h : Heap) (a : Nd) (hh : Nat) (to : Value) (w : Int) : Prop :=
  cell h a.lb (2 * hh) = some to ∧ cell h a.lb (2 * hh + 1) = some (.int .i64 w)

/-- A link that leads to the first of those behind. -/
def lead (h : Heap) (hh : Nat) (a : Nd) (i : Nat) : List (Nd × Nat) → Prop
  | [] => ∃ w, link h a hh (.pointer none) w
  | (b, k) :: _ => link h a hh (ptr b.mb) ((k : Int) - i)

def LvL (h : Heap) (hh : Nat) : List (Nd × Nat) → Prop
  | [] => True
  | (a, i) :: l => lead h hh a i l ∧ LvL h hh l

/-- Those that stand so high, with their places. -/
def ons (hh : Nat) : Nat → List Nd → List (Nd × Nat)
  | _, [] => []
  | k, a :: l => if hh < a.ht then (a, k) :: ons hh (k + 1) l else ons hh (k + 1) l

theorem ons_app (hh : Nat) : ∀ (k : Nat) (a b : List Nd), ons hh k (a ++ b) = ons hh k a ++ ons hh (k + a.length) b
  | k, [], b => by simp [ons]
  | k, x :: a, b => by
    have ih := ons_app hh (k + 1) a b
    have e : k + (x :: a).length = k + 1 + a.length := by simp; omega
    simp only [List.cons_append, ons, ih, e]
    split <;> simp

theorem ons_mem {hh : Nat} : ∀ {k : Nat} {l : List Nd} {a : Nd} {i : Nat}, (a, i) ∈ ons hh k l → hh < a.ht ∧ k ≤ i ∧ l[i - k]? = some a
  | k, [], a, i, h => by simp [ons] at h
  | k, x :: l, a, i, h => by
    simp only [ons] at h
    have key : (a, i) ∈ ons hh (k + 1) l → hh < a.ht ∧ k ≤ i ∧ (x :: l)[i - k]? = some a := by
      intro h
      obtain ⟨h1, h2, h3⟩ := ons_mem h
      refine ⟨h1, by omega, ?_⟩
      have e : i - k = (i - (k + 1)) + 1 := by omega
      rw [e]; simpa using h3
    split at h
    · rename_i hx
      rcases List.mem_cons.1 h with h | h
      · cases h; simp [hx]
      · exact key h
    · exact key h

theorem mem_ons {hh : Nat} : ∀ {k : Nat} {l : List Nd} {a : Nd} {i : Nat}, hh < a.ht → l[i]? = some a → (a, k + i) ∈ ons hh k l
  | k, [], a, i, _, h => by simp at h
  | k, x :: l, a, 0, hh', h => by
    simp at h; subst h
    simp [ons, hh']
  | k, x :: l, a, i + 1, hh', h => by
    have ih := mem_ons (k := k + 1) hh' (show l[i]? = some a by simpa using h)
    have e : k + (i + 1) = k + 1 + i := by omega
    simp only [ons, e]
    split
    · exact List.mem_cons_of_mem _ ih
    · exact ih

/-- Higher ones are lower ones. -/
theorem ons_low {hh hh' : Nat} (hl : hh' ≤ hh) {k : Nat} {l : List Nd} {a : Nd} {i : Nat} (h : (a, i) ∈ ons hh k l) : (a, i) ∈ ons hh' k l := by
  obtain ⟨h1, h2, h3⟩ := ons_mem h
  have := mem_ons (hh := hh') (k := k) (by omega) h3
  have e : k + (i - k) = i := by omega
  rw [e] at this; exact this

/-- Places rise. -/
theorem ons_rise {hh : Nat} : ∀ {k : Nat} {l : List Nd}, (ons hh k l).Pairwise fun x y => x.2 < y.2
  | k, [] => by simp [ons]
  | k, x :: l => by
    have ih := @ons_rise hh (k + 1) l
    simp only [ons]
    split
    · refine List.pairwise_cons.2 ⟨fun y hy => ?_, ih⟩
      have := (ons_mem (a := y.1) (i := y.2) hy).2.1
      simp only; omega
    · exact ih

/-- All lead to the next one, the last of them to y. -/
def Seg (h : Heap) (hh : Nat) : List (Nd × Nat) → (Nd × Nat) → Prop
  | [], _ => True
  | (a, i) :: l, y => lead h hh a i (l ++ [y]) ∧ Seg h hh l y

theorem lead_head {h : Heap} {hh : Nat} {a : Nd} {i : Nat} {l : List (Nd × Nat)} {y : Nd × Nat} {r : List (Nd × Nat)} : lead h hh a i (l ++ y :: r) ↔ lead h hh a i (l ++ [y]) := by
  cases l <;> obtain ⟨b, k⟩ := y <;> simp [lead]

theorem lvl_app {h : Heap} {hh : Nat} {y : Nd × Nat} {r : List (Nd × Nat)} : ∀ {l : List (Nd × Nat)}, LvL h hh (l ++ y :: r) ↔ Seg h hh l y ∧ LvL h hh (y :: r)
  | [] => by simp [Seg]
  | (a, i) :: l => by
    have ih := @lvl_app h hh y r l
    simp only [List.cons_append, LvL, Seg, ih, lead_head, and_assoc]

/-- What changes the links of a height of a few alone. -/
theorem link_keep {h h' : Heap} {hh : Nat} {a : Nd} (e : ∀ o, o = 2 * hh ∨ o = 2 * hh + 1 → cell h' a.lb o = cell h a.lb o) {to : Value} {w : Int} (hl : link h a hh to w) : link h' a hh to w :=
  ⟨by rw [e _ (Or.inl rfl)]; exact hl.1, by rw [e _ (Or.inr rfl)]; exact hl.2⟩
theorem lead_keep {h h' : Heap} {hh : Nat} {a : Nd} {i : Nat} {l : List (Nd × Nat)} (e : ∀ o, o = 2 * hh ∨ o = 2 * hh + 1 → cell h' a.lb o = cell h a.lb o) (hl : lead h hh a i l) : lead h' hh a i l := by
  cases l with
  | nil => obtain ⟨w, hw⟩ := hl; exact ⟨w, link_keep e hw⟩
  | cons y l => obtain ⟨b, k⟩ := y; exact link_keep e hl
theorem lvl_keep {h h' : Heap} {hh : Nat} : ∀ {l : List (Nd × Nat)}, (∀ x ∈ l, ∀ o, o = 2 * hh ∨ o = 2 * hh + 1 → cell h' x.1.lb o = cell h x.1.lb o) → LvL h hh l → LvL h' hh l
  | [], _, _ => trivial
  | (a, i) :: l, e, hl => ⟨lead_keep (e (a, i) (by simp)) hl.1, lvl_keep (fun x hx => e x (by simp [hx])) hl.2⟩
theorem seg_keep {h h' : Heap} {hh : Nat} {y : Nd × Nat} : ∀ {l : List (Nd × Nat)}, (∀ x ∈ l, ∀ o, o = 2 * hh ∨ o = 2 * hh + 1 → cell h' x.1.lb o = cell h x.1.lb o) → Seg h hh l y → Seg h' hh l y
  | [], _, _ => trivial
  | (a, i) :: l, e, hl => ⟨lead_keep (e (a, i) (by simp)) hl.1, seg_keep (fun x hx => e x (by simp [hx])) hl.2⟩

/-- The same links, all places one on. -/
def up1 (l : List (Nd × Nat)) : List (Nd × Nat) := l.map fun x => (x.1, x.2 + 1)
theorem ons_up (hh : Nat) : ∀ (k : Nat) (l : List Nd), ons hh (k + 1) l = up1 (ons hh k l)
  | k, [] => rfl
  | k, x :: l => by
    have ih := ons_up hh (k + 1) l
    simp only [ons, ih]
    split <;> simp [up1]
theorem lead_up {h : Heap} {hh : Nat} {a : Nd} {i : Nat} {l : List (Nd × Nat)} : lead h hh a (i + 1) (up1 l) ↔ lead h hh a i l := by
  cases l with
  | nil => simp [up1, lead]
  | cons y l =>
    obtain ⟨b, k⟩ := y
    have e : ((k + 1 : Nat) : Int) - ((i + 1 : Nat) : Int) = k - i := by omega
    simp only [up1, List.map_cons, lead, e]
theorem lvl_up {h : Heap} {hh : Nat} : ∀ {l : List (Nd × Nat)}, LvL h hh (up1 l) ↔ LvL h hh l
  | [] => by simp [up1]
  | (a, i) :: l => by
    have ih := @lvl_up h hh l
    have h1 := @lead_up h hh a i l
    have e : up1 ((a, i) :: l) = (a, i + 1) :: up1 l := rfl
    rw [e]
    simp only [LvL, ih, h1]

/-- The last of those so high among the first ones. -/
def LastOn (hh : Nat) (A : List Nd) (p : Nd) (i : Nat) : Prop := ∃ l, ons hh 0 A = l ++ [(p, i)]

theorem LastOn.mem {hh : Nat} {A : List Nd} {p : Nd} {i : Nat} (hl : LastOn hh A p i) : (p, i) ∈ ons hh 0 A := by
  obtain ⟨l, e⟩ := hl; rw [e]; simp
theorem LastOn.get {hh : Nat} {A : List Nd} {p : Nd} {i : Nat} (hl : LastOn hh A p i) : hh < p.ht ∧ A[i]? = some p := by
  obtain ⟨h1, _, h3⟩ := ons_mem hl.mem
  exact ⟨h1, by simpa using h3⟩

/-- What a link of one of the first ones leads to. -/
theorem next_cases {h : Heap} {hh : Nat} {A B : List Nd} (hL : LvL h hh (ons hh 0 (A ++ B))) {a : Nd} {i : Nat} (ha : (a, i) ∈ ons hh 0 A) :
    ((∃ w, link h a hh (.pointer none) w) ∧ LastOn hh A a i) ∨
    (∃ (b : Nd) (k : Nat), link h a hh (ptr b.mb) ((k : Int) - i) ∧ i < k ∧ k < A.length ∧ (b, k) ∈ ons hh 0 A) ∨
    (∃ (b : Nd) (k : Nat), link h a hh (ptr b.mb) ((k : Int) - i) ∧ A.length ≤ k ∧ (A ++ B)[k]? = some b ∧ LastOn hh A a i) := by
  obtain ⟨l, r, e⟩ := List.append_of_mem ha
  have hrise := @ons_rise hh 0 A
  rw [ons_app, e, List.append_assoc, List.cons_append, lvl_app] at hL
  have hl := hL.2.1
  cases r with
  | cons y r =>
    obtain ⟨b, k⟩ := y
    right; left
    have hm : (b, k) ∈ ons hh 0 A := by rw [e]; simp
    obtain ⟨h1, _, h3⟩ := ons_mem hm
    refine ⟨b, k, hl, ?_, ?_, hm⟩
    · rw [e, List.pairwise_append] at hrise
      exact (List.pairwise_cons.1 hrise.2.1).1 (b, k) (by simp)
    · have := (List.getElem?_eq_some_iff.1 h3).1; omega
  | nil =>
    have hlast : LastOn hh A a i := ⟨l, e⟩
    cases hB : ons hh (0 + A.length) B with
    | nil => rw [hB] at hl; exact Or.inl ⟨hl, hlast⟩
    | cons y r =>
      obtain ⟨b, k⟩ := y
      rw [hB] at hl
      right; right
      obtain ⟨h1, h2, h3⟩ := ons_mem (show (b, k) ∈ ons hh (0 + A.length) B by rw [hB]; simp)
      refine ⟨b, k, hl, by omega, ?_, hlast⟩
      rw [List.getElem?_append_right (by omega)]
      simpa using h3

end Go.Proofs.YtlghcmdaijfdlaaDoor
