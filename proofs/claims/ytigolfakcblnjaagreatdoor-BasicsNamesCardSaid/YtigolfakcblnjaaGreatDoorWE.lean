/-
  Layer 8: BasicsNames, its contract.
-/
import Derived.Test.YtigolfakcblnjaaGreatDoorWD
namespace Go.Proofs.YtigolfakcblnjaaGreatDoor
open Go Go.Sx Go.Proofs.YtigolfakcblnjaaGreatDoor.C

/-- A keyspace that is one. -/
def IsK (h : Heap) (k : Value) : Prop := ∃ b a, k = .pointer (some ⟨b, 0, none⟩) ∧ cell h b 0 = some (.pointer (some a))

theorem knew_calls {h : Heap} : CallsH Tryz.prog 18 [] h (Ret fun r h' => IsK h' r ∧ Chg [] h h') := by
  refine f18_calls (by simp) ?_
  intro b1 h1 g1 b2 h2 g2 b3 h3 g3
  exact And.intro ⟨_, _, rfl, cell_blk g3.blk rfl⟩ ((g1.chg.nil g2.chg).nil g3.chg)

theorem none_no {h : Heap} {k : Value} (hk : IsK h k) : CallsH Tryz.prog 52 [k] h (Ret fun r h' => r = .bool false ∧ h' = h) := by
  obtain ⟨b, a, rfl, hc⟩ := hk
  refine f52_calls (by simp) ?_
  exact Exists.intro _ (And.intro hc (And.intro rfl rfl))
theorem none_yes {h : Heap} : CallsH Tryz.prog 52 [.pointer none] h (Ret fun r h' => r = .bool true ∧ h' = h) := by
  refine f52_calls (by simp) ?_
  exact And.intro rfl rfl
theorem ksame_no {h : Heap} {k : Value} (hk : IsK h k) : CallsH Tryz.prog 37 [k, .pointer none] h (Ret fun r h' => r = .bool false ∧ h' = h) := by
  refine f37_calls (by simp) ?_
  refine call_ret (none_no hk) ?_
  rintro _ _ ⟨rfl, rfl⟩
  refine call_ret none_yes ?_
  rintro _ _ ⟨rfl, rfl⟩
  refine call_ret (none_no hk) ?_
  rintro _ _ ⟨rfl, rfl⟩
  exact And.intro rfl rfl

theorem mfind_no {k : ByteArray} : ∀ {ms : List MapEntry} {i : Nat}, (∀ e ∈ ms, ∃ s, e.key = .string s ∧ s ≠ k) → mfind (.string k) ms i = none
  | [], _, _ => rfl
  | e :: ms, i, hm => by
    unfold mfind
    obtain ⟨s, h1, h2⟩ := hm e (by simp)
    rw [if_neg]
    · exact mfind_no fun e he => hm e (by simp [he])
    · intro hs
      have := sameBits_eq (k := .str) (by rfl) (by rw [h1]; rfl) hs
      rw [h1] at this
      simp at this
      exact h2 this.symm

theorem ones4 : ∀ u ∈ [Value.int .i64 0, .int .i64 0, .string ⟨#[]⟩, .slice none 0 0], u.oneCell' = true := by
  intro u hu
  simp at hu
  rcases hu with rfl | rfl | rfl | rfl <;> rfl

def nothing : Value := .tuple ⟨[.agg ⟨[.int .i64 0, .int .i64 0, .string ⟨#[]⟩, .slice none 0 0]⟩, .slice none 0 0, .bool false]⟩

theorem do_unknown {h : Heap} {k now : Value} {s : ByteArray} {ba : Nat} (hk : IsK h k) (ha : cell h ba 0 = some (.string s)) (hs : s.size < 4611686018427387904) (hu : up s ∉ cmdNames) :
    CallsH Tryz.prog 17 [k, now, .slice (some ⟨ba, 0, none⟩) 1 1] h (Ret fun r h' => r = nothing ∧ Chg [] h h') := by
  refine f17_calls (by simp) ?_
  intro b1 h1 g1 b2 h2 g2
  have ch : Chg [] h h2 := g1.chg.nil g2.chg
  have hne : b2 ≠ b1 := by
    have := g1.id; have := g2.id; have := g1.size; omega
  have hb1 : h.size ≤ b1 ∧ h.size ≤ b2 := by
    have := g1.id; have := g2.id; have := g1.size; omega
  refine And.intro rfl (And.intro (fun h0 => absurd h0 (by decide)) (fun _ => ?_))
  have hk2 : IsK h2 k := by
    obtain ⟨b, a, rfl, hc⟩ := hk
    exact ⟨b, a, rfl, cell_chg hc ch (by simp)⟩
  refine call_ret (ksame_no hk2) ?_
  rintro _ _ ⟨rfl, rfl⟩
  refine And.intro (by decide) (And.intro (by decide) (Exists.intro _ (And.intro (cell_chg ha ch (by simp)) ?_)))
  refine callq_ret cmds_calls ?_
  rintro _ h3 ⟨mb, c, ms, rfl, hm, hc3⟩
  refine And.intro hc3.ext ?_
  refine callq_ret (bword_calls hs) ?_
  rintro _ h4 ⟨rfl, hc4⟩
  refine And.intro hc4.ext ?_
  have hc34 := hc3.nil hc4
  have hnf : mfind (.string (up s)) ms 0 = none := mfind_no fun e he => by
    obtain ⟨q, hq, e1, _⟩ := hm.key e he
    exact ⟨q, e1, fun e2 => hu (e2 ▸ hq)⟩
  refine And.intro rfl (Exists.intro ms (Exists.intro c (And.intro (hm.map.chg hc4 (by simp)) (And.intro ?_ ?_))))
  · intro e he
    obtain ⟨q, _, e1, _⟩ := hm.key e he
    rw [e1]; rfl
  rw [hnf]
  have B1 := (g1.blk.chg g2.chg (by simp)).chg hc34 (by simp)
  have B2 := g2.blk.chg hc34 (by simp)
  have ch4 := ch.nil hc34
  refine Exists.intro _ (And.intro B1 (And.intro (Nat.le_refl _) (And.intro rfl (And.intro ones4 fun h5 p1 => ?_))))
  refine Exists.intro _ (And.intro (B2.chg p1.chg (by simp; exact hne)) (And.intro (Nat.le_refl _) (And.intro rfl (And.intro (Go.Sx.ones1 rfl) fun h6 p2 => ?_))))
  have f2 : Blk h6 b1 [.int .i64 0, .int .i64 0, .string ⟨#[]⟩, .slice none 0 0] := p1.blk.chg p2.chg (by simp; exact fun e => hne e.symm)
  have f1 : Chg [] h h6 := ch4.fresh (p1.chg.trans p2.chg (U := [b1, b2]) (by simp) (by simp)) (by
    intro q hq
    simp at hq
    rcases hq with rfl | rfl
    · exact hb1.1
    · exact hb1.2)
  exact Exists.intro _ (And.intro rfl (And.intro (cells_blk f2) (Exists.intro _ (And.intro (cell_blk p2.blk rfl) (And.intro rfl f1)))))

theorem take_snoc {α : Type} (l : List α) (k : Nat) (h : k < l.length) : l.take (k + 1) = l.take k ++ [l[k]] := by
  rw [List.take_succ_eq_append_getElem h]

theorem names_contract {h : Heap} {s : ByteArray} (hs : s.size < 4611686018427387904) : CallsH Tryz.prog 4 [.string s] h (Ret fun r h' => r = .bool true ∧ Chg [] h h') := by
  refine f4_calls (by simp) ?_
  refine And.intro rfl (And.intro (fun hgt => ?_) (fun hle => ?_))
  · refine call_ret (known_ret h) ?_
    rintro _ h' ⟨rfl, hc⟩
    exact And.intro rfl hc
  refine call_ret bnames_calls ?_
  rintro v1 h1 ⟨hv1, hc1⟩
  refine call_ret rnames_calls ?_
  rintro v2 h2 ⟨hv2, hc2⟩
  have hv1 := hv1.ext hc2
  have hc := hc1.nil hc2
  obtain ⟨x, c, rfl, _⟩ := hv1.form
  obtain ⟨x', c', rfl, _⟩ := hv2.form
  obtain ⟨b, o, rfl⟩ := hv1.addr (by decide)
  obtain ⟨b', o', rfl⟩ := hv2.addr (by decide)
  refine And.intro rfl (And.intro (fun hne => absurd rfl hne) (fun _ => ?_))
  refine loop_intro (fun p : Nat × Bool => [(0, .string s), (3, .slice (some ⟨b, o, none⟩) sortNames.length c), (4, .slice (some ⟨b', o', none⟩) sortNames.length c'), (5, .bool p.2), (6, .int .i64 p.1)])
    (fun p h' => p.1 ≤ sortNames.length ∧ Chg [] h2 h' ∧ (p.2 = true ↔ up s ∈ sortNames.take p.1)) (fun p => sortNames.length - p.1) (0, false) ⟨rfl, rfl, rfl, rfl, rfl, trivial⟩ ⟨Nat.zero_le _, Chg.refl _, by simp⟩ ?_
  rintro ⟨q, t⟩ h3 ⟨hq, hc3, ht⟩
  simp only at hq ht
  have h18 : sortNames.length = 18 := rfl
  refine And.intro rfl (And.intro (fun hlt => ?_) (fun hge => ?_))
  · have hlq : q < sortNames.length := by simp only at hlt; omega
    have hcs := (hv1.ext hc3).cells encS_len (i := q) (x := sortNames[q]) (by simp [hlq])
    have hds := (hv2.ext hc3).cells encS_len (i := q) (x := sortNames[q]) (by simp [hlq])
    refine And.intro (by simp only; omega) (And.intro (by simp only; omega) (Exists.intro _ (And.intro (hcs 0 _ rfl) ?_)))
    refine And.intro (by simp only; omega) (And.intro (by simp only; omega) (Exists.intro _ (And.intro (hds 0 _ rfl) ?_)))
    refine And.intro (fun hne => absurd rfl hne) (fun _ => ?_)
    cases t with
    | true =>
      refine And.intro rfl (fun z hz => ?_)
      have hz := add_in hz (by simp only; omega) (by simp only; omega)
      subst hz
      refine And.intro rfl (Exists.intro (q + 1, true) (And.intro ⟨rfl, rfl, rfl, rfl, rfl, trivial⟩ (And.intro ⟨hlq, hc3, ?_⟩ (by simp only; omega))))
      have : up s ∈ sortNames.take q := ht.1 rfl
      simp only
      rw [take_snoc _ q hlq]
      exact ⟨fun _ => List.mem_append.2 (.inl this), fun _ => trivial⟩
    | false =>
      refine And.intro (by simp only; omega) (And.intro (by simp only; omega) (Exists.intro _ (And.intro (hds 0 _ rfl) ?_)))
      refine callq_ret (rword_calls hs) ?_
      rintro _ h4 ⟨rfl, hc4⟩
      refine And.intro hc4.ext ?_
      have hno : up s ∉ sortNames.take q := fun hh => by have := ht.2 hh; cases this
      refine And.intro (fun he => ?_) (fun hn => ?_)
      · refine And.intro rfl (fun z hz => ?_)
        have hz := add_in hz (by simp only; omega) (by simp only; omega)
        subst hz
        refine And.intro rfl (Exists.intro (q + 1, true) (And.intro ⟨rfl, rfl, rfl, rfl, rfl, trivial⟩ (And.intro ⟨hlq, hc3.nil hc4, ?_⟩ (by simp only; omega))))
        simp only
        rw [take_snoc _ q hlq]
        exact ⟨fun _ => List.mem_append.2 (.inr (by simp; exact he.symm)), fun _ => trivial⟩
      · refine And.intro rfl (fun z hz => ?_)
        have hz := add_in hz (by simp only; omega) (by simp only; omega)
        subst hz
        refine And.intro rfl (Exists.intro (q + 1, false) (And.intro ⟨rfl, rfl, rfl, rfl, rfl, trivial⟩ (And.intro ⟨hlq, hc3.nil hc4, ?_⟩ (by simp only; omega))))
        simp only
        rw [take_snoc _ q hlq]
        refine ⟨fun h => (by cases h), fun h => ?_⟩
        rcases List.mem_append.1 h with h | h
        · exact absurd h hno
        · simp at h; exact absurd h.symm hn
  · have hkl : q = sortNames.length := by simp only at hge; omega
    subst hkl
    rw [List.take_length] at ht
    have hch := hc.nil hc3
    cases t with
    | true =>
      have hm : up s ∈ sortNames := ht.1 rfl
      obtain ⟨w, hw, e⟩ := List.mem_map.1 hm
      exact tail_known hch hs e.symm hw rfl rfl
    | false =>
      have hm : up s ∉ sortNames := fun hh => by have := ht.2 hh; cases this
      have hm' : up s ∉ cmdNames := fun hh => hm ((sort_perm.mem_iff).1 hh)
      refine call_ret knew_calls ?_
      rintro k h4 ⟨hk, hc4⟩
      intro ba h5 g5
      refine call_ret (do_unknown (now := .int .i64 0) (by obtain ⟨b, a, rfl, hb⟩ := hk; exact ⟨b, a, rfl, cell_chg hb g5.chg (by simp)⟩) (cell_blk g5.blk rfl) hs hm') ?_
      rintro _ h6 ⟨rfl, hc6⟩
      intro b7 h7 g7
      refine Exists.intro _ (And.intro g7.blk (And.intro (Nat.le_refl _) (And.intro rfl (And.intro ones4 fun h8 p8 => ?_))))
      have G := g7.put p8
      have hc8 := (((hch.nil hc4).nil g5.chg).nil hc6).nil G.chg
      refine And.intro (fun _ => ?_) (fun hne => absurd rfl hne)
      refine call_ret (known_ret h8) ?_
      rintro _ h9 ⟨rfl, hc9⟩
      exact And.intro rfl (hc8.nil hc9)

end Go.Proofs.YtigolfakcblnjaaGreatDoor
