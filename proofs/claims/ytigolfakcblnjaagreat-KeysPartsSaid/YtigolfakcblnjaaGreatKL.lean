/-
  Layer 7: the rules; a text that is put.
-/
import Derived.Test.YtigolfakcblnjaaGreatKK
namespace Go.Proofs.YtigolfakcblnjaaGreat
open Go Go.Sx Go.Proofs.YtigolfakcblnjaaGreat.C

/-- Entries of numbers, in the order in which they came. -/
def entsI : List (Int × Value) → Nat → List MapEntry
  | [], _ => []
  | (k, v) :: r, n => { key := .int .i64 k, val := v, born := n } :: entsI r (n + 1)

theorem entsI_fits : ∀ (l : List (Int × Value)) (n : Nat), ∀ e ∈ entsI l n, fits (.int .i64) e.key = true
  | [], _, e, h => by simp [entsI] at h
  | (k, v) :: r, n, e, h => by
    rcases List.mem_cons.1 h with rfl | h
    · rfl
    · exact entsI_fits r (n + 1) e h

theorem entsI_snoc : ∀ (l : List (Int × Value)) (n : Nat) (k : Int) (v : Value), entsI (l ++ [(k, v)]) n = entsI l n ++ [{ key := .int .i64 k, val := v, born := n + l.length }]
  | [], n, k, v => by simp [entsI]
  | (k', v') :: l, n, k, v => by
    have ih := entsI_snoc l (n + 1) k v
    simp only [List.cons_append, entsI, ih, List.length_cons]
    have : n + 1 + l.length = n + (l.length + 1) := by omega
    rw [this]

theorem same_int (a b : Int) : Instr.sameBits 10000 (.int .i64 a) (.int .i64 b) = decide (a = b) := by
  simp [Instr.sameBits]
  by_cases h : a = b <;> simp [h]

theorem mfind_entsI (k : Int) : ∀ (l : List (Int × Value)) (n i : Nat), (∀ x ∈ l, x.1 ≠ k) → mfind (.int .i64 k) (entsI l n) i = none
  | [], _, _, _ => rfl
  | (k', v) :: r, n, i, h => by
    have hk : k' ≠ k := h (k', v) (by simp)
    simp only [entsI, mfind, same_int]
    rw [decide_eq_false (fun e => hk e.symm)]
    exact mfind_entsI k r (n + 1) (i + 1) fun x hx => h x (by simp [hx])

theorem mfind_hit (k : Int) (v : Value) : ∀ (l r : List (Int × Value)) (n i : Nat), (∀ x ∈ l, x.1 ≠ k) → mfind (.int .i64 k) (entsI (l ++ (k, v) :: r) n) i = some (i + l.length, v)
  | [], r, n, i, _ => by
    simp [entsI, mfind, same_int]
  | (k', v') :: l, r, n, i, h => by
    have hk : k' ≠ k := h (k', v') (by simp)
    have ih := mfind_hit k v l r (n + 1) (i + 1) fun x hx => h x (by simp [hx])
    simp only [List.cons_append, entsI, mfind, same_int]
    rw [decide_eq_false (fun e => hk e.symm)]
    simp only [Bool.false_eq_true, if_false]
    rw [ih]
    simp only [List.length_cons]
    congr 2; omega

def ruleV (name text number : Bool) (kind : Int) (makes : Bool) (f : Nat) : Value := .agg ⟨[.bool name, .bool text, .bool number, .int .i64 kind, .bool makes, .func (.func f) #[] #[]]⟩

def ruleL : List (Int × Value) := [
  (1, ruleV false false false 0 false 49), (2, ruleV false true false 0 true 50), (3, ruleV false false true 0 false 51), (4, ruleV false false false 0 false 52),
  (5, ruleV true true false 2 true 53), (6, ruleV true false false 2 false 54), (7, ruleV false true false 3 true 55), (8, ruleV false true false 3 true 57),
  (9, ruleV false false false 3 false 58), (10, ruleV false false false 3 false 59), (11, ruleV false true true 3 false 60), (12, ruleV true false false 4 true 61),
  (13, ruleV true false false 4 false 62), (14, ruleV true false true 5 true 63), (15, ruleV true false false 5 false 64)]

theorem rules_calls {h : Heap} : CallsH Tryz.prog 39 [] h (Ret fun r h' => ∃ mb, r = .map (some mb) ∧ MapB h' mb (entsI ruleL 0) 15 ∧ h.size ≤ mb ∧ Chg [] h h') := by
  refine f39_calls (by simp) ?_
  intro mb h0 g0
  have i0 : h.size ≤ mb := by rw [g0.id]; exact Nat.le_refl _
  have c0 := g0.chg
  have m0 : MapB h0 mb (entsI (ruleL.take 0) 0) 0 := g0.blk
  refine And.intro rfl (Exists.intro (entsI (ruleL.take 0) 0) (Exists.intro 0 (And.intro m0 (And.intro (entsI_fits _ _) ?_))))
  rw [mfind_entsI 1 (ruleL.take 0) 0 0 (by decide)]
  intro h1 p1
  have m1 : MapB h1 mb (entsI (ruleL.take 1) 0) 1 := p1.blk
  have c1 := c0.fresh p1.chg (by simp; exact i0)
  refine And.intro rfl (Exists.intro (entsI (ruleL.take 1) 0) (Exists.intro 1 (And.intro m1 (And.intro (entsI_fits _ _) ?_))))
  rw [mfind_entsI 2 (ruleL.take 1) 0 0 (by decide)]
  intro h2 p2
  have m2 : MapB h2 mb (entsI (ruleL.take 2) 0) 2 := p2.blk
  have c2 := c1.fresh p2.chg (by simp; exact i0)
  refine And.intro rfl (Exists.intro (entsI (ruleL.take 2) 0) (Exists.intro 2 (And.intro m2 (And.intro (entsI_fits _ _) ?_))))
  rw [mfind_entsI 3 (ruleL.take 2) 0 0 (by decide)]
  intro h3 p3
  have m3 : MapB h3 mb (entsI (ruleL.take 3) 0) 3 := p3.blk
  have c3 := c2.fresh p3.chg (by simp; exact i0)
  refine And.intro rfl (Exists.intro (entsI (ruleL.take 3) 0) (Exists.intro 3 (And.intro m3 (And.intro (entsI_fits _ _) ?_))))
  rw [mfind_entsI 4 (ruleL.take 3) 0 0 (by decide)]
  intro h4 p4
  have m4 : MapB h4 mb (entsI (ruleL.take 4) 0) 4 := p4.blk
  have c4 := c3.fresh p4.chg (by simp; exact i0)
  refine And.intro rfl (Exists.intro (entsI (ruleL.take 4) 0) (Exists.intro 4 (And.intro m4 (And.intro (entsI_fits _ _) ?_))))
  rw [mfind_entsI 5 (ruleL.take 4) 0 0 (by decide)]
  intro h5 p5
  have m5 : MapB h5 mb (entsI (ruleL.take 5) 0) 5 := p5.blk
  have c5 := c4.fresh p5.chg (by simp; exact i0)
  refine And.intro rfl (Exists.intro (entsI (ruleL.take 5) 0) (Exists.intro 5 (And.intro m5 (And.intro (entsI_fits _ _) ?_))))
  rw [mfind_entsI 6 (ruleL.take 5) 0 0 (by decide)]
  intro h6 p6
  have m6 : MapB h6 mb (entsI (ruleL.take 6) 0) 6 := p6.blk
  have c6 := c5.fresh p6.chg (by simp; exact i0)
  refine And.intro rfl (Exists.intro (entsI (ruleL.take 6) 0) (Exists.intro 6 (And.intro m6 (And.intro (entsI_fits _ _) ?_))))
  rw [mfind_entsI 7 (ruleL.take 6) 0 0 (by decide)]
  intro h7 p7
  have m7 : MapB h7 mb (entsI (ruleL.take 7) 0) 7 := p7.blk
  have c7 := c6.fresh p7.chg (by simp; exact i0)
  refine And.intro rfl (Exists.intro (entsI (ruleL.take 7) 0) (Exists.intro 7 (And.intro m7 (And.intro (entsI_fits _ _) ?_))))
  rw [mfind_entsI 8 (ruleL.take 7) 0 0 (by decide)]
  intro h8 p8
  have m8 : MapB h8 mb (entsI (ruleL.take 8) 0) 8 := p8.blk
  have c8 := c7.fresh p8.chg (by simp; exact i0)
  refine And.intro rfl (Exists.intro (entsI (ruleL.take 8) 0) (Exists.intro 8 (And.intro m8 (And.intro (entsI_fits _ _) ?_))))
  rw [mfind_entsI 9 (ruleL.take 8) 0 0 (by decide)]
  intro h9 p9
  have m9 : MapB h9 mb (entsI (ruleL.take 9) 0) 9 := p9.blk
  have c9 := c8.fresh p9.chg (by simp; exact i0)
  refine And.intro rfl (Exists.intro (entsI (ruleL.take 9) 0) (Exists.intro 9 (And.intro m9 (And.intro (entsI_fits _ _) ?_))))
  rw [mfind_entsI 10 (ruleL.take 9) 0 0 (by decide)]
  intro h10 p10
  have m10 : MapB h10 mb (entsI (ruleL.take 10) 0) 10 := p10.blk
  have c10 := c9.fresh p10.chg (by simp; exact i0)
  refine And.intro rfl (Exists.intro (entsI (ruleL.take 10) 0) (Exists.intro 10 (And.intro m10 (And.intro (entsI_fits _ _) ?_))))
  rw [mfind_entsI 11 (ruleL.take 10) 0 0 (by decide)]
  intro h11 p11
  have m11 : MapB h11 mb (entsI (ruleL.take 11) 0) 11 := p11.blk
  have c11 := c10.fresh p11.chg (by simp; exact i0)
  refine And.intro rfl (Exists.intro (entsI (ruleL.take 11) 0) (Exists.intro 11 (And.intro m11 (And.intro (entsI_fits _ _) ?_))))
  rw [mfind_entsI 12 (ruleL.take 11) 0 0 (by decide)]
  intro h12 p12
  have m12 : MapB h12 mb (entsI (ruleL.take 12) 0) 12 := p12.blk
  have c12 := c11.fresh p12.chg (by simp; exact i0)
  refine And.intro rfl (Exists.intro (entsI (ruleL.take 12) 0) (Exists.intro 12 (And.intro m12 (And.intro (entsI_fits _ _) ?_))))
  rw [mfind_entsI 13 (ruleL.take 12) 0 0 (by decide)]
  intro h13 p13
  have m13 : MapB h13 mb (entsI (ruleL.take 13) 0) 13 := p13.blk
  have c13 := c12.fresh p13.chg (by simp; exact i0)
  refine And.intro rfl (Exists.intro (entsI (ruleL.take 13) 0) (Exists.intro 13 (And.intro m13 (And.intro (entsI_fits _ _) ?_))))
  rw [mfind_entsI 14 (ruleL.take 13) 0 0 (by decide)]
  intro h14 p14
  have m14 : MapB h14 mb (entsI (ruleL.take 14) 0) 14 := p14.blk
  have c14 := c13.fresh p14.chg (by simp; exact i0)
  refine And.intro rfl (Exists.intro (entsI (ruleL.take 14) 0) (Exists.intro 14 (And.intro m14 (And.intro (entsI_fits _ _) ?_))))
  rw [mfind_entsI 15 (ruleL.take 14) 0 0 (by decide)]
  intro h15 p15
  have m15 : MapB h15 mb (entsI (ruleL.take 15) 0) 15 := p15.blk
  have c15 := c14.fresh p15.chg (by simp; exact i0)
  exact Exists.intro mb (And.intro rfl (And.intro m15 (And.intro i0 c15)))

end Go.Proofs.YtigolfakcblnjaaGreat
