/-
  At, Between.
-/
import Derived.Test.YtlghcmdaijfdlaaDoorRkN
namespace Go.Proofs.YtlghcmdaijfdlaaDoor
open Go Go.Sx Go.Proofs.YtlghcmdaijfdlaaDoor.C

theorem sel_iv (F U : Nat) : ∀ (l : List Rank) (j : Nat), sel (fun _ i => decide (F ≤ i) && decide (i < U)) l j = (l.drop (F - j)).take (U - max j F)
  | [], j => by simp [sel]
  | x :: l, j => by
    have ih := sel_iv F U l (j + 1)
    simp only [sel, ih]
    by_cases h1 : j < F
    · rw [if_neg (by simp; omega)]
      have e1 : F - j = (F - (j + 1)) + 1 := by omega
      have e2 : max (j + 1) F = max j F := by omega
      rw [e1, List.drop_succ_cons, e2]
    · have e0 : F - j = 0 := by omega
      have e1 : F - (j + 1) = 0 := by omega
      rw [e0, e1, List.drop_zero, List.drop_zero]
      by_cases h2 : j < U
      · rw [if_pos (by simp; omega)]
        have e3 : U - max j F = (U - max (j + 1) F) + 1 := by omega
        rw [e3, List.take_succ_cons]
      · rw [if_neg (by simp; omega)]
        have e3 : U - max j F = 0 := by omega
        have e4 : U - max (j + 1) F = 0 := by omega
        rw [e3, e4]; simp

theorem sel_congr {p q : Rank → Nat → Bool} : ∀ (l : List Rank) (j : Nat), (∀ k (hk : k < l.length), p l[k] (j + k) = q l[k] (j + k)) → sel p l j = sel q l j
  | [], j, _ => rfl
  | x :: l, j, h => by
    have h0 := h 0 (by simp)
    simp only [Nat.add_zero, List.getElem_cons_zero] at h0
    have ih := sel_congr (p := p) (q := q) l (j + 1) fun k hk => by
      have h1 := h (k + 1) (by simpa using hk)
      have e : j + (k + 1) = j + 1 + k := by omega
      rw [e] at h1
      exact h1
    simp only [sel, h0, ih]

/-- The part that p chooses, if it chooses by place. -/
theorem sel_part {p : Rank → Nat → Bool} {l : List Rank} {K E : Nat} (h : ∀ k (hk : k < l.length), p l[k] k = true ↔ K ≤ k ∧ k < E) : sel p l 0 = (l.drop K).take (E - K) := by
  rw [sel_congr (q := fun _ i => decide (K ≤ i) && decide (i < E)) l 0 fun k hk => by
    rw [Nat.zero_add, Bool.eq_iff_iff, h k hk]; simp, sel_iv]
  simp

def pre (q : Rank → Bool) : List Rank → Nat
  | [] => 0
  | x :: l => if q x then pre q l + 1 else 0

theorem pre_le (q : Rank → Bool) : ∀ l, pre q l ≤ l.length
  | [] => by simp [pre]
  | y :: l => by
    have := pre_le q l
    simp only [pre]; split <;> simp; omega

theorem pre_iff {q : Rank → Bool} (hq : ∀ x y, ahead x y = true → q y = true → q x = true) : ∀ {l : List Rank}, Sorted l → ∀ (k : Nat) (hk : k < l.length), q l[k] = true ↔ k < pre q l
  | [], _, k, hk => by simp at hk
  | y :: l, hs, 0, hk => by
    simp only [List.getElem_cons_zero, pre]
    split <;> simp_all
  | y :: l, hs, k + 1, hk => by
    have ⟨h1, h2⟩ := List.pairwise_cons.1 hs
    have ih := pre_iff hq h2 k (by simpa using hk)
    simp only [List.getElem_cons_succ, pre]
    split
    · rw [ih]; omega
    · rename_i hy
      constructor
      · intro h
        exact absurd (hq _ _ (h1 _ (List.getElem_mem _)) h) hy
      · intro h; omega

theorem nd_of {N : List Nd} {S : List Rank} (hS : recs N = S) {k : Nat} {a : Nd} (h : N[k + 1]? = some a) : S[k]? = some a.r := by
  cases N with
  | nil => simp at h
  | cons y N => rw [← hS]; simp at h; simp [recs, h]

theorem atm_calls {h : Heap} {v : Value} {S : List Rank} {fp : List Nat} (rs : RS h v S fp) (f u : Int) :
    CallsH Tryd.prog 16 [v, .int .i64 f, .int .i64 u] h (Ret fun r h' => OL encR 2 h' r (atR f u S) ∧ Chg [] h h' ∧ ∀ b ∈ vblk r, h.size ≤ b) := by
  obtain ⟨rb, mpb, N, rfl, rk, rfl⟩ := rs
  refine f16_calls (by simp) ?_
  intro b1 h1 g1
  intro b2 h2 g2
  have hc := g1.chg.nil g2.chg
  have rk2 := rk.ext hc
  have B1 : Blk h2 b1 [.int .i64 f] := (show Blk h1 b1 [.int .i64 f] from g1.blk).chg g2.chg (by simp)
  have B2 : Blk h2 b2 [.int .i64 u] := g2.blk
  have e : atR f u S = (S.drop (min f.toNat S.length)).take (u.toNat - min f.toNat S.length) := by
    unfold atR
    refine sel_part fun k hk => ?_
    simp; omega
  refine call_ret (from_calls (K := min f.toNat S.length) (E := u.toNat) (f := 34) (g := 35) (fi := #[]) (gi := #[]) (cap := #[ptr b1]) (gc := #[ptr b2]) rk2 (by omega) ?_ ?_) ?_
  · intro h' k a hc' hk hpos
    obtain ⟨j, rfl⟩ : ∃ j, k = j + 1 := ⟨k - 1, by omega⟩
    have hj := (List.getElem?_eq_some_iff.1 (nd_of rk.isS hk)).1
    refine f34_calls (by simp) ?_
    intro b3 h3 g3
    refine Exists.intro _ (And.intro (cell_blk ((B1.chg hc' (by simp)).chg g3.chg (by simp)) rfl) ?_)
    refine And.intro rfl (And.intro (fun ht => ?_) (fun ht => ?_))
    · refine And.intro ?_ g3.chg
      rw [decide_eq_true (by omega)]; rfl
    · refine And.intro ?_ g3.chg
      rw [decide_eq_false (by omega)]; rfl
  · intro h' k a hc' hk
    refine f35_calls (by simp) ?_
    intro b3 h3 g3
    refine Exists.intro _ (And.intro (cell_blk ((B2.chg hc' (by simp)).chg g3.chg (by simp)) rfl) ?_)
    refine And.intro rfl (And.intro (fun ht => ?_) (fun ht => ?_))
    · refine And.intro ?_ g3.chg
      rw [decide_eq_true (by omega)]; rfl
    · refine And.intro ?_ g3.chg
      rw [decide_eq_false (by omega)]; rfl
  · rintro r h3 ⟨ho, hc3, hb⟩
    rw [e]
    exact And.intro ho (And.intro (hc.nil hc3) fun b hb' => by have := hb b hb'; have := hc.size; omega)

theorem betweenm_calls {h : Heap} {v : Value} {S : List Rank} {fp : List Nat} (rs : RS h v S fp) (f u : Int) :
    CallsH Tryd.prog 18 [v, .int .i64 f, .int .i64 u] h (Ret fun r h' => OL encR 2 h' r (betweenR f u S) ∧ Chg [] h h' ∧ ∀ b ∈ vblk r, h.size ≤ b) := by
  obtain ⟨rb, mpb, N, rfl, rk, rfl⟩ := rs
  refine f18_calls (by simp) ?_
  intro b1 h1 g1
  intro b2 h2 g2
  have hc := g1.chg.nil g2.chg
  have rk2 := rk.ext hc
  have B1 : Blk h2 b1 [.int .i64 f] := (show Blk h1 b1 [.int .i64 f] from g1.blk).chg g2.chg (by simp)
  have B2 : Blk h2 b2 [.int .i64 u] := g2.blk
  have q1 := fun k hk => pre_iff (q := fun y => decide (y.score < f)) (fun x y hxy hy => by rw [ahead_iff] at hxy; simp at hy ⊢; omega) rk.sorted k hk
  have q2 := fun k hk => pre_iff (q := fun y => decide (y.score ≤ u)) (fun x y hxy hy => by rw [ahead_iff] at hxy; simp at hy ⊢; omega) rk.sorted k hk
  have l1 := pre_le (fun y => decide (y.score < f)) S
  have e : betweenR f u S = (S.drop (pre (fun y => decide (y.score < f)) S)).take (pre (fun y => decide (y.score ≤ u)) S - pre (fun y => decide (y.score < f)) S) := by
    unfold betweenR
    refine sel_part fun k hk => ?_
    have h1 := q1 k hk
    have h2 := q2 k hk
    simp only [decide_eq_true_eq] at h1 h2
    simp only [Bool.and_eq_true, decide_eq_true_eq]
    omega
  refine call_ret (from_calls (K := pre (fun y => decide (y.score < f)) S) (E := pre (fun y => decide (y.score ≤ u)) S) (f := 36) (g := 37) (fi := #[]) (gi := #[]) (cap := #[ptr b1]) (gc := #[ptr b2]) rk2 l1 ?_ ?_) ?_
  · intro h' k a hc' hk hpos
    obtain ⟨j, rfl⟩ : ∃ j, k = j + 1 := ⟨k - 1, by omega⟩
    obtain ⟨hj, hje⟩ := List.getElem?_eq_some_iff.1 (nd_of rk.isS hk)
    have h1 := q1 j hj
    rw [hje] at h1
    simp only [decide_eq_true_eq] at h1
    refine f36_calls (by simp) ?_
    intro b3 h3 g3
    refine Exists.intro _ (And.intro (cell_blk g3.blk rfl) ?_)
    refine Exists.intro _ (And.intro (cell_blk ((B1.chg hc' (by simp)).chg g3.chg (by simp)) rfl) ?_)
    refine And.intro rfl (And.intro (fun ht => ?_) (fun ht => ?_))
    · refine And.intro ?_ g3.chg
      rw [decide_eq_true (by omega)]; rfl
    · refine And.intro ?_ g3.chg
      rw [decide_eq_false (by omega)]; rfl
  · intro h' k a hc' hk
    obtain ⟨hj, hje⟩ := List.getElem?_eq_some_iff.1 hk
    have h2 := q2 k hj
    rw [hje] at h2
    simp only [decide_eq_true_eq] at h2
    refine f37_calls (by simp) ?_
    intro b3 h3 g3
    refine Exists.intro _ (And.intro (cell_blk g3.blk rfl) ?_)
    refine Exists.intro _ (And.intro (cell_blk ((B2.chg hc' (by simp)).chg g3.chg (by simp)) rfl) ?_)
    refine And.intro rfl (And.intro (fun ht => ?_) (fun ht => ?_))
    · refine And.intro ?_ g3.chg
      rw [decide_eq_true (by omega)]; rfl
    · refine And.intro ?_ g3.chg
      rw [decide_eq_false (by omega)]; rfl
  · rintro r h3 ⟨ho, hc3, hb⟩
    rw [e]
    exact And.intro ho (And.intro (hc.nil hc3) fun b hb' => by have := hb b hb'; have := hc.size; omega)

end Go.Proofs.YtlghcmdaijfdlaaDoor
