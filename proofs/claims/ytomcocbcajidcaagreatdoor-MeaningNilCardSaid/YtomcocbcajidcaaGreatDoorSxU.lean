/-
  Texts in order; plain.
-/
import Derived.Test.YtomcocbcajidcaaGreatDoorSxT
import Derived.Lib.Bytealg
namespace Go.Sx
open Go

theorem bl_irrefl : ∀ a : List UInt8, Op.bytesLess a a = false
  | [] => rfl
  | x :: a => by simp [Op.bytesLess, bl_irrefl a]

theorem bl_trans : ∀ {a b c : List UInt8}, Op.bytesLess a b = true → Op.bytesLess b c = true → Op.bytesLess a c = true
  | _, [], _, h, _ => by cases ‹List UInt8› <;> simp [Op.bytesLess] at h
  | _, _ :: _, [], _, h => by simp [Op.bytesLess] at h
  | [], _ :: _, _ :: _, _, _ => by simp [Op.bytesLess]
  | x :: a, y :: b, z :: c, h1, h2 => by
    have ih := @bl_trans a b c
    simp only [Op.bytesLess, Bool.or_eq_true, decide_eq_true_eq, Bool.and_eq_true, beq_iff_eq, UInt8.lt_iff_toNat_lt, ← UInt8.toNat_inj] at h1 h2 ⊢
    rcases h1 with h1 | ⟨h1, h1'⟩ <;> rcases h2 with h2 | ⟨h2, h2'⟩
    · left; omega
    · left; omega
    · left; omega
    · right; exact ⟨by omega, ih h1' h2'⟩

theorem bl_total : ∀ {a b : List UInt8}, a ≠ b → Op.bytesLess a b = true ∨ Op.bytesLess b a = true
  | [], [], h => absurd rfl h
  | [], _ :: _, _ => by simp [Op.bytesLess]
  | _ :: _, [], _ => by simp [Op.bytesLess]
  | x :: a, y :: b, h => by
    have ih := @bl_total a b
    simp only [Op.bytesLess, Bool.or_eq_true, decide_eq_true_eq, Bool.and_eq_true, beq_iff_eq, UInt8.lt_iff_toNat_lt, ← UInt8.toNat_inj]
    by_cases e : x = y
    · subst e
      rcases ih (by intro e; exact h (by rw [e])) with h | h
      · left; right; exact ⟨rfl, h⟩
      · right; right; exact ⟨rfl, h⟩
    · have : x.toNat ≠ y.toNat := fun h => e (UInt8.toNat_inj.1 h)
      rcases Nat.lt_or_gt_of_ne this with h | h
      · left; left; exact h
      · right; left; exact h

theorem toList_inj {a b : ByteArray} (h : a.toList = b.toList) : a = b := by
  rw [Go.ByteArray.toList_eq, Go.ByteArray.toList_eq] at h
  cases a; cases b; simp_all

theorem sless_irrefl (a : ByteArray) : sless a a = false := bl_irrefl _
theorem sless_trans {a b c : ByteArray} : sless a b = true → sless b c = true → sless a c = true := bl_trans
theorem sless_total {a b : ByteArray} (h : a ≠ b) : sless a b = true ∨ sless b a = true := bl_total fun e => h (toList_inj e)

/-- What strings.Compare gives. -/
def cmpB (a b : ByteArray) : Int := Lib.compareBytes a.data.toList b.data.toList

theorem compareBytes_neg : ∀ a b : List UInt8, (Lib.compareBytes a b < 0 ↔ Op.bytesLess a b = true)
  | [], [] => by simp [Lib.compareBytes, Op.bytesLess]
  | [], _ :: _ => by simp [Lib.compareBytes, Op.bytesLess]
  | _ :: _, [] => by simp [Lib.compareBytes, Op.bytesLess]
  | x :: a, y :: b => by
    have ih := compareBytes_neg a b
    simp only [Lib.compareBytes, Op.bytesLess, Bool.or_eq_true, decide_eq_true_eq, Bool.and_eq_true, beq_iff_eq, UInt8.lt_iff_toNat_lt, ← UInt8.toNat_inj]
    by_cases h1 : x.toNat < y.toNat
    · rw [if_pos h1]; simp [h1]
    · rw [if_neg h1]
      by_cases h2 : y.toNat < x.toNat
      · rw [if_pos h2]
        constructor
        · intro h; omega
        · rintro (h | ⟨h, _⟩) <;> omega
      · rw [if_neg h2, ih]
        constructor
        · intro h; exact .inr ⟨by omega, h⟩
        · rintro (h | ⟨_, h⟩)
          · exact absurd h h1
          · exact h

theorem cmpB_neg (a b : ByteArray) : cmpB a b < 0 ↔ sless a b = true := by
  unfold cmpB sless
  rw [Go.ByteArray.toList_eq, Go.ByteArray.toList_eq]
  exact compareBytes_neg _ _

/-- Byte by byte. -/
theorem bl_step {x y : UInt8} {a b : List UInt8} (h : x = y) : Op.bytesLess (x :: a) (y :: b) = Op.bytesLess a b := by
  subst h; simp [Op.bytesLess]
theorem bl_diff {x y : UInt8} {a b : List UInt8} (h : x ≠ y) : Op.bytesLess (x :: a) (y :: b) = decide (x < y) := by
  simp [Op.bytesLess, h]

end Go.Sx
