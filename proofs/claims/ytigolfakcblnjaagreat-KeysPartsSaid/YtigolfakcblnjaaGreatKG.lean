/-
  Layer 7: may a thing be? As the program asks.
-/
import Derived.Test.YtigolfakcblnjaaGreatKF
namespace Go.Proofs.YtigolfakcblnjaaGreat
open Go Go.Sx Go.Proofs.YtigolfakcblnjaaGreat.C

def noText : ByteArray := ⟨#[]⟩

/-- As the program asks, of small things. -/
def kOK (t : Thing) : Bool :=
  if t.hasU = false ∧ t.unt ≠ 0 then false else
  if t.kind = 1 then decide (t.pairs.length + t.list.length + t.ranks.length = 0) else
  if t.kind = 2 then decide (0 < t.pairs.length) && (decide (t.list.length + t.ranks.length = 0) && (decide (t.text = noText) && rising (fun x y => sless x.name y.name) t.pairs)) else
  if t.kind = 3 then decide (0 < t.list.length) && (decide (t.pairs.length + t.ranks.length = 0) && decide (t.text = noText)) else
  if t.kind = 4 then decide (0 < t.list.length) && (decide (t.pairs.length + t.ranks.length = 0) && (decide (t.text = noText) && rising sless t.list)) else
  if t.kind = 5 then decide (0 < t.ranks.length) && (decide (t.pairs.length + t.list.length = 0) && (decide (t.text = noText) && (rising aheadR t.ranks && onceR t.ranks))) else false

theorem small_short {t : Thing} (s : Small t) : shortL [t.text] = true ∧ shortL t.list = true ∧ shortL (namesT t) = true ∧ countT t ≤ 65536 := by
  have := s.text
  have hp := s.p; have hl := s.l; have hr := s.r
  refine ⟨by rw [shortL_iff]; intro x hx; simp at hx; rw [hx]; omega, by rw [shortL_iff]; intro x hx; have := s.ls x hx; omega, ?_, by unfold countT; omega⟩
  rw [shortL_iff]
  intro x hx
  simp only [namesT, List.mem_append, List.mem_flatMap, List.mem_map] at hx
  rcases hx with ⟨p, hp, hx⟩ | ⟨r, hr, rfl⟩
  · have := s.ps p hp
    simp at hx
    rcases hx with rfl | rfl <;> omega
  · have := s.rs r hr; omega

theorem namesT_len {t : Thing} (s : Small t) : (namesT t).length < 4611686018427387904 := by
  have hp := s.p; have hr := s.r
  unfold namesT
  have : ∀ l : List Pair, (l.flatMap fun p => [p.name, p.text]).length = 2 * l.length := by
    intro l
    induction l with
    | nil => rfl
    | cons x l ih => simp at ih ⊢; omega
  rw [List.length_append, this, List.length_map]; omega

theorem KCheck_tail {h h0 : Heap} {b1 : Nat} {vs : List Value} {t : Thing} (s : Small t) (hc : Chg [] h0 h) (B1 : Blk h b1 vs) (x : TH h vs t) (hu : ¬ (t.hasU = false ∧ t.unt ≠ 0)) :
    swp Tryz.prog (.seq (.seq (.ops f13r4) (.block 0 (.seq (.ops f13r5) (.cond (.tmp 49) (.seq (.ops f13r6) .ret) (.seq (.ops f13r7) (.cond (.tmp 57) (.seq (.ops f13r8) .ret) (.seq (.ops f13r9) (.cond (.tmp 77) (.seq (.ops f13r10) .ret) (.seq (.ops f13r11) (.cond (.tmp 92) (.seq (.ops f13r12) .ret) (.seq (.ops f13r13) (.cond (.tmp 112) (.seq (.ops f13r14) .ret) .skip)))))))))))) (.seq (.ops f13r15) .ret))
      (retQ [.t 2] (Ret fun r h' => r = .bool (kOK t) ∧ Chg [] h0 h')) (mk [(1, .pointer (some ⟨b1, 0, none⟩)), (2, .bool false), (3, .int .i64 t.pairs.length), (4, .int .i64 t.list.length), (5, .int .i64 t.ranks.length)]) [] h := by
  have sp := s.p; have sl := s.l; have sr := s.r
  obtain ⟨pv, lv, rv, rfl, hp, hl, hr⟩ := x
  have e0 : kOK t = if t.kind = 1 then decide (t.pairs.length + t.list.length + t.ranks.length = 0) else
      if t.kind = 2 then decide (0 < t.pairs.length) && (decide (t.list.length + t.ranks.length = 0) && (decide (t.text = noText) && rising (fun x y => sless x.name y.name) t.pairs)) else
      if t.kind = 3 then decide (0 < t.list.length) && (decide (t.pairs.length + t.ranks.length = 0) && decide (t.text = noText)) else
      if t.kind = 4 then decide (0 < t.list.length) && (decide (t.pairs.length + t.ranks.length = 0) && (decide (t.text = noText) && rising sless t.list)) else
      if t.kind = 5 then decide (0 < t.ranks.length) && (decide (t.pairs.length + t.list.length = 0) && (decide (t.text = noText) && (rising aheadR t.ranks && onceR t.ranks))) else false := by
    unfold kOK; rw [if_neg hu]
  rw [e0]
  refine Exists.intro _ (And.intro (cell_blk B1 rfl) ?_)
  refine And.intro rfl (And.intro (fun k1 => ?_) (fun k1 => ?_))
  · rw [if_pos k1]
    refine And.intro rfl (fun z hz => ?_)
    have hz := add_in hz (by omega) (by omega)
    refine And.intro rfl (fun y hy => ?_)
    have hy := add_in hy (by omega) (by omega)
    refine And.intro rfl (And.intro (fun he => ?_) (fun he => ?_))
    · exact And.intro (by rw [decide_eq_true (by omega)]; rfl) hc
    · exact And.intro (by rw [decide_eq_false (by omega)]; rfl) hc
  rw [if_neg k1]
  refine And.intro rfl (And.intro (fun k2 => ?_) (fun k2 => ?_))
  · rw [if_pos k2]
    refine And.intro rfl (And.intro (fun g1 => ?_) (fun g1 => ?_))
    rotate_left
    · exact And.intro (by rw [decide_eq_false (by omega)]; rfl) hc
    rw [decide_eq_true (show 0 < t.pairs.length by omega), Bool.true_and]
    refine And.intro rfl (fun z hz => ?_)
    have hz := add_in hz (by omega) (by omega)
    refine And.intro rfl (And.intro (fun g2 => ?_) (fun g2 => ?_))
    rotate_left
    · exact And.intro (by rw [decide_eq_false (by omega)]; rfl) hc
    rw [decide_eq_true (show t.list.length + t.ranks.length = 0 by omega), Bool.true_and]
    refine Exists.intro _ (And.intro (cell_blk B1 rfl) ?_)
    refine And.intro (fun g3 => ?_) (fun g3 => ?_)
    rotate_left
    · exact And.intro (by rw [decide_eq_false (show ¬ t.text = noText from g3)]; rfl) hc
    rw [decide_eq_true (show t.text = noText from g3), Bool.true_and]
    refine Exists.intro _ (And.intro (cell_blk B1 rfl) ?_)
    refine call_ret (risP_calls hp (by omega) chk1_ord) ?_
    rintro _ h2 ⟨rfl, hc2⟩
    exact And.intro rfl (hc.nil hc2)
  rw [if_neg k2]
  refine And.intro rfl (And.intro (fun k3 => ?_) (fun k3 => ?_))
  · rw [if_pos k3]
    refine And.intro rfl (And.intro (fun g1 => ?_) (fun g1 => ?_))
    rotate_left
    · exact And.intro (by rw [decide_eq_false (by omega)]; rfl) hc
    rw [decide_eq_true (show 0 < t.list.length by omega), Bool.true_and]
    refine And.intro rfl (fun z hz => ?_)
    have hz := add_in hz (by omega) (by omega)
    refine And.intro rfl (And.intro (fun g2 => ?_) (fun g2 => ?_))
    rotate_left
    · exact And.intro (by rw [decide_eq_false (by omega)]; rfl) hc
    rw [decide_eq_true (show t.pairs.length + t.ranks.length = 0 by omega), Bool.true_and]
    refine Exists.intro _ (And.intro (cell_blk B1 rfl) ?_)
    refine And.intro (fun g3 => ?_) (fun g3 => ?_)
    · exact And.intro (by rw [decide_eq_true (show t.text = noText from g3)]; rfl) hc
    · exact And.intro (by rw [decide_eq_false (show ¬ t.text = noText from g3)]; rfl) hc
  rw [if_neg k3]
  refine And.intro rfl (And.intro (fun k4 => ?_) (fun k4 => ?_))
  · rw [if_pos k4]
    refine And.intro rfl (And.intro (fun g1 => ?_) (fun g1 => ?_))
    rotate_left
    · exact And.intro (by rw [decide_eq_false (by omega)]; rfl) hc
    rw [decide_eq_true (show 0 < t.list.length by omega), Bool.true_and]
    refine And.intro rfl (fun z hz => ?_)
    have hz := add_in hz (by omega) (by omega)
    refine And.intro rfl (And.intro (fun g2 => ?_) (fun g2 => ?_))
    rotate_left
    · exact And.intro (by rw [decide_eq_false (by omega)]; rfl) hc
    rw [decide_eq_true (show t.pairs.length + t.ranks.length = 0 by omega), Bool.true_and]
    refine Exists.intro _ (And.intro (cell_blk B1 rfl) ?_)
    refine And.intro (fun g3 => ?_) (fun g3 => ?_)
    rotate_left
    · exact And.intro (by rw [decide_eq_false (show ¬ t.text = noText from g3)]; rfl) hc
    rw [decide_eq_true (show t.text = noText from g3), Bool.true_and]
    refine Exists.intro _ (And.intro (cell_blk B1 rfl) ?_)
    refine call_ret (risS_calls hl (by omega) cmpS_ord) ?_
    rintro _ h2 ⟨rfl, hc2⟩
    exact And.intro rfl (hc.nil hc2)
  rw [if_neg k4]
  refine And.intro rfl (And.intro (fun k5 => ?_) (fun k5 => ?_))
  · rw [if_pos k5]
    refine And.intro rfl (And.intro (fun g1 => ?_) (fun g1 => ?_))
    rotate_left
    · exact And.intro (by rw [decide_eq_false (by omega)]; rfl) hc
    rw [decide_eq_true (show 0 < t.ranks.length by omega), Bool.true_and]
    refine And.intro rfl (fun z hz => ?_)
    have hz := add_in hz (by omega) (by omega)
    refine And.intro rfl (And.intro (fun g2 => ?_) (fun g2 => ?_))
    rotate_left
    · exact And.intro (by rw [decide_eq_false (by omega)]; rfl) hc
    rw [decide_eq_true (show t.pairs.length + t.list.length = 0 by omega), Bool.true_and]
    refine Exists.intro _ (And.intro (cell_blk B1 rfl) ?_)
    refine And.intro (fun g3 => ?_) (fun g3 => ?_)
    rotate_left
    · exact And.intro (by rw [decide_eq_false (show ¬ t.text = noText from g3)]; rfl) hc
    rw [decide_eq_true (show t.text = noText from g3), Bool.true_and]
    refine Exists.intro _ (And.intro (cell_blk B1 rfl) ?_)
    refine call_ret (risR_calls hr (by omega) ahead_ord) ?_
    rintro r2 h2 ⟨hr2, hc2⟩
    cases hris : rising aheadR t.ranks with
    | false =>
      rw [hris] at hr2
      subst hr2
      exact And.intro rfl (hc.nil hc2)
    | true =>
      rw [hris] at hr2
      subst hr2
      have B2 := B1.chg hc2 (by simp)
      refine Exists.intro _ (And.intro (cell_blk B2 rfl) ?_)
      refine call_ret (once_calls (hr.ext hc2) (by omega)) ?_
      rintro _ h3 ⟨rfl, hc3⟩
      exact And.intro rfl ((hc.nil hc2).nil hc3)
  rw [if_neg k5]
  exact And.intro rfl hc

theorem KCheck_calls {h : Heap} {vs : List Value} {t : Thing} (x : TH h vs t) (s : Small t) :
    CallsH Tryz.prog 13 [.agg ⟨vs⟩] h (Ret fun r h' => r = .bool (kOK t) ∧ Chg [] h h') := by
  have sp := s.p; have sl := s.l; have sr := s.r
  obtain ⟨q1, q2, q3, q4⟩ := small_short s
  refine f13_calls (by simp) ?_
  intro b1 h1 g1
  have B1 : Blk h1 b1 vs := g1.blk
  have hc1 := g1.chg
  have x1 := x.ext hc1
  have x1' := x1
  obtain ⟨pv, lv, rv, rfl, hp, hl, hr⟩ := x1
  obtain ⟨pa, pc, rfl, _⟩ := hp.form
  obtain ⟨la, lc, rfl, _⟩ := hl.form
  obtain ⟨ra, rc, rfl, _⟩ := hr.form
  have fin : ∀ h2, Chg [] h1 h2 → ¬ (t.hasU = false ∧ t.unt ≠ 0) → Chg [] h h2 ∧ TH h2 [.int .i64 t.kind, .string t.text, .slice pa t.pairs.length pc, .slice la t.list.length lc, .slice ra t.ranks.length rc, .bool t.hasU, .int .i64 t.unt] t :=
    fun h2 hc2 _ => ⟨hc1.nil hc2, x1'.ext hc2⟩
  refine Exists.intro _ (And.intro (cell_blk B1 rfl) ?_)
  have bU : Blk h1 b1 [.int .i64 t.kind, .string t.text, .slice pa t.pairs.length pc, .slice la t.list.length lc, .slice ra t.ranks.length rc, .bool t.hasU, .int .i64 t.unt] := B1
  cases hU : t.hasU with
  | false =>
    refine Exists.intro _ (And.intro (cell_blk B1 rfl) ?_)
    refine And.intro rfl (And.intro (fun u0 => ?_) (fun u0 => ?_))
    · exact And.intro (by unfold kOK; rw [if_pos ⟨hU, u0⟩]; rfl) hc1
    have hu : ¬ (t.hasU = false ∧ t.unt ≠ 0) := fun h => u0 h.2
    refine Exists.intro _ (And.intro rfl (And.intro (cells_blk bU) ?_))
    refine call_ret (count_calls x1' s.lens) ?_
    rintro _ h2 ⟨rfl, hc2⟩
    refine And.intro rfl (And.intro (fun big => absurd big (by omega)) (fun _ => ?_))
    have B2 := bU.chg hc2 (by simp)
    refine Exists.intro _ (And.intro (cell_blk B2 rfl) ?_)
    intro b3 h3 g3
    refine call_ret (short_calls (SL.one encS_len (x := t.text) g3.blk) (by simp)) ?_
    rintro r3 _ ⟨hr3, rfl⟩
    rw [q1] at hr3
    subst hr3
    have hc3 := hc2.nil g3.chg
    have B3 := bU.chg hc3 (by simp)
    refine Exists.intro _ (And.intro (cell_blk B3 rfl) ?_)
    refine call_ret (short_calls (hl.ext hc3) (by omega)) ?_
    rintro r4 _ ⟨hr4, rfl⟩
    rw [q2] at hr4
    subst hr4
    refine Exists.intro _ (And.intro rfl (And.intro (cells_blk B3) ?_))
    refine call_ret (names_calls (x1'.ext hc3) s.lens) ?_
    rintro nv h5 ⟨ho5, hc5⟩
    refine call_ret (short_calls ho5.sl (namesT_len s)) ?_
    rintro r6 _ ⟨hr6, rfl⟩
    rw [q3] at hr6
    subst hr6
    have hc6 := hc3.nil hc5
    have B6 := bU.chg hc6 (by simp)
    refine Exists.intro _ (And.intro (cell_blk B6 rfl) (Exists.intro _ (And.intro (cell_blk B6 rfl) (Exists.intro _ (And.intro (cell_blk B6 rfl) ?_)))))
    exact cut_at [(1, .pointer (some ⟨b1, 0, none⟩)), (2, .bool false), (3, .int .i64 t.pairs.length), (4, .int .i64 t.list.length), (5, .int .i64 t.ranks.length)] ⟨rfl, rfl, rfl, rfl, rfl, trivial⟩ (KCheck_tail s (hc1.nil hc6) B6 (x1'.ext hc6) hu)
  | true =>
    have hu : ¬ (t.hasU = false ∧ t.unt ≠ 0) := fun h => by rw [hU] at h; cases h.1
    refine Exists.intro _ (And.intro rfl (And.intro (cells_blk bU) ?_))
    refine call_ret (count_calls x1' s.lens) ?_
    rintro _ h2 ⟨rfl, hc2⟩
    refine And.intro rfl (And.intro (fun big => absurd big (by omega)) (fun _ => ?_))
    have B2 := bU.chg hc2 (by simp)
    refine Exists.intro _ (And.intro (cell_blk B2 rfl) ?_)
    intro b3 h3 g3
    refine call_ret (short_calls (SL.one encS_len (x := t.text) g3.blk) (by simp)) ?_
    rintro r3 _ ⟨hr3, rfl⟩
    rw [q1] at hr3
    subst hr3
    have hc3 := hc2.nil g3.chg
    have B3 := bU.chg hc3 (by simp)
    refine Exists.intro _ (And.intro (cell_blk B3 rfl) ?_)
    refine call_ret (short_calls (hl.ext hc3) (by omega)) ?_
    rintro r4 _ ⟨hr4, rfl⟩
    rw [q2] at hr4
    subst hr4
    refine Exists.intro _ (And.intro rfl (And.intro (cells_blk B3) ?_))
    refine call_ret (names_calls (x1'.ext hc3) s.lens) ?_
    rintro nv h5 ⟨ho5, hc5⟩
    refine call_ret (short_calls ho5.sl (namesT_len s)) ?_
    rintro r6 _ ⟨hr6, rfl⟩
    rw [q3] at hr6
    subst hr6
    have hc6 := hc3.nil hc5
    have B6 := bU.chg hc6 (by simp)
    refine Exists.intro _ (And.intro (cell_blk B6 rfl) (Exists.intro _ (And.intro (cell_blk B6 rfl) (Exists.intro _ (And.intro (cell_blk B6 rfl) ?_)))))
    exact cut_at [(1, .pointer (some ⟨b1, 0, none⟩)), (2, .bool false), (3, .int .i64 t.pairs.length), (4, .int .i64 t.list.length), (5, .int .i64 t.ranks.length)] ⟨rfl, rfl, rfl, rfl, rfl, trivial⟩ (KCheck_tail s (hc1.nil hc6) B6 (x1'.ext hc6) hu)

end Go.Proofs.YtigolfakcblnjaaGreat
