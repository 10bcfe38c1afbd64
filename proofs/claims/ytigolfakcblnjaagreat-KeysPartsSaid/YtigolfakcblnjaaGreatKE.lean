/-
  Layer 7: how many items, how long their texts.
-/
import Derived.Test.YtigolfakcblnjaaGreatKD
namespace Go.Proofs.YtigolfakcblnjaaGreat
open Go Go.Sx Go.Proofs.YtigolfakcblnjaaGreat.C

structure Lens (t : Thing) : Prop where
  p : t.pairs.length ≤ 70000
  l : t.list.length ≤ 70000
  r : t.ranks.length ≤ 70000

theorem Lens.fits {t : Thing} (x : Lens t) : Fits t := ⟨by have := x.p; omega, by have := x.l; omega, by have := x.r; omega⟩

def countT (t : Thing) : Nat := t.pairs.length + t.list.length + t.ranks.length

theorem count_calls {h : Heap} {vs : List Value} {t : Thing} (x : TH h vs t) (n : Lens t) :
    CallsH Tryz.prog 23 [.agg ⟨vs⟩] h (Ret fun r h' => r = .int .i64 (countT t) ∧ Chg [] h h') := by
  have np := n.p; have nl := n.l; have nr := n.r
  refine f23_calls (by simp) ?_
  intro b1 h1 g1
  have B1 : Blk h1 b1 vs := g1.blk
  obtain ⟨pv, lv, rv, rfl, hp, hl, hr⟩ := x
  obtain ⟨pa, pc, rfl, _⟩ := hp.form
  obtain ⟨la, lc, rfl, _⟩ := hl.form
  obtain ⟨ra, rc, rfl, _⟩ := hr.form
  refine Exists.intro _ (And.intro (cell_blk B1 rfl) (Exists.intro _ (And.intro (cell_blk B1 rfl) ?_)))
  refine And.intro rfl (fun z hz => ?_)
  have hz := add_in hz (by omega) (by omega)
  refine Exists.intro _ (And.intro (cell_blk B1 rfl) ?_)
  refine And.intro rfl (fun y hy => ?_)
  have hy := add_in hy (by omega) (by omega)
  refine And.intro ?_ g1.chg
  have : y = (countT t : Int) := by unfold countT; omega
  rw [this]; rfl

theorem short1_calls {h : Heap} (s : ByteArray) : CallsH Tryz.prog 44 [.string s] h (Ret fun r h' => r = .bool (decide (1048576 < s.size)) ∧ h' = h) := by
  refine f44_calls (by simp) ?_
  refine And.intro rfl (And.intro (fun hl => ?_) (fun hl => ?_))
  · exact And.intro (by rw [decide_eq_true (by omega)]; rfl) rfl
  · exact And.intro (by rw [decide_eq_false (by omega)]; rfl) rfl

theorem idxF_calls {h : Heap} {v : Value} {l : List ByteArray} (hv : SL encS h v l) (hl : l.length < 4611686018427387904) :
    CallsH Tryz.prog 65 [v, .func (.func 44) #[] #[]] h (Ret fun r h' => (∃ z, r = .int .i64 z ∧ (z < 0 ↔ ∀ s ∈ l, s.size ≤ 1048576)) ∧ h' = h) := by
  obtain ⟨a, c, rfl, hlc⟩ := hv.form
  refine f65_calls (by simp) ?_
  refine loop_intro (fun k : Nat => [(0, .slice a l.length c), (1, .func (.func 44) #[] #[]), (7, .int .i64 l.length), (8, .int .i64 k)]) (fun k h' => k ≤ l.length ∧ h' = h ∧ ∀ s ∈ l.take k, s.size ≤ 1048576) (fun k => l.length - k) 0 ⟨rfl, rfl, rfl, rfl, trivial⟩ ⟨Nat.zero_le _, rfl, by simp⟩ ?_
  rintro k h' ⟨hk, rfl, ht⟩
  refine And.intro rfl (And.intro (fun hlt => ?_) (fun hlt => ?_))
  · have hlt : k < l.length := by omega
    obtain ⟨b, o, rfl⟩ := hv.addr (by omega)
    have hcs := hv.cells encS_len (i := k) (x := l[k]) (by simp [hlt])
    refine And.intro (by omega) (And.intro (by omega) (Exists.intro _ (And.intro (hcs 0 _ rfl) ?_)))
    refine call_ret (short1_calls l[k]) ?_
    rintro r _ ⟨hr, rfl⟩
    by_cases hs : 1048576 < l[k].size
    · rw [decide_eq_true hs] at hr
      subst hr
      refine And.intro (Exists.intro k (And.intro rfl ?_)) rfl
      constructor
      · intro h; omega
      · intro h; have := h l[k] (List.getElem_mem hlt); omega
    · rw [decide_eq_false hs] at hr
      subst hr
      refine And.intro rfl (fun z hz => ?_)
      have hz := add_in hz (by omega) (by omega)
      subst hz
      refine And.intro rfl (Exists.intro (k + 1) (And.intro ?_ (And.intro ?_ ?_)))
      · exact ⟨rfl, rfl, rfl, rfl, trivial⟩
      · refine ⟨by omega, rfl, fun s hs' => ?_⟩
        rw [take_snoc l k hlt] at hs'
        rcases List.mem_append.1 hs' with hs' | hs'
        · exact ht s hs'
        · have : s = l[k] := by simpa using hs'
          rw [this]; omega
      · omega
  · have hkl : k = l.length := by omega
    rw [hkl, List.take_length] at ht
    exact And.intro (Exists.intro (-1) (And.intro rfl ⟨fun _ => ht, fun _ => by decide⟩)) rfl

def shortL (l : List ByteArray) : Bool := l.all fun s => decide (s.size ≤ 1048576)
theorem shortL_iff {l : List ByteArray} : shortL l = true ↔ ∀ s ∈ l, s.size ≤ 1048576 := by simp [shortL]

theorem conF_calls {h : Heap} {v : Value} {l : List ByteArray} (hv : SL encS h v l) (hl : l.length < 4611686018427387904) :
    CallsH Tryz.prog 43 [v, .func (.func 44) #[] #[]] h (Ret fun r h' => r = .bool (!shortL l) ∧ h' = h) := by
  refine f43_calls (by simp) ?_
  refine call_ret (idxF_calls hv hl) ?_
  rintro _ _ ⟨⟨z, rfl, hz⟩, rfl⟩
  rw [← shortL_iff] at hz
  refine And.intro rfl (And.intro (fun hg => ?_) (fun hg => ?_))
  · have : shortL l = false := by
      cases hs : shortL l with
      | false => rfl
      | true => have := hz.2 hs; omega
    exact And.intro (by rw [this]; rfl) rfl
  · exact And.intro (by rw [hz.1 (by omega)]; rfl) rfl

theorem short_calls {h : Heap} {v : Value} {l : List ByteArray} (hv : SL encS h v l) (hl : l.length < 4611686018427387904) :
    CallsH Tryz.prog 24 [v] h (Ret fun r h' => r = .bool (shortL l) ∧ h' = h) := by
  refine f24_calls (by simp) ?_
  refine call_ret (conF_calls hv hl) ?_
  rintro _ _ ⟨rfl, rfl⟩
  exact And.intro (by cases shortL l <;> rfl) rfl

/-! ### Names -/
def namesT (t : Thing) : List ByteArray := t.pairs.flatMap (fun p => [p.name, p.text]) ++ t.ranks.map Rank.name

theorem names_calls {h : Heap} {vs : List Value} {t : Thing} (x : TH h vs t) (n : Lens t) :
    CallsH Tryz.prog 25 [.agg ⟨vs⟩] h (Ret fun r h' => OL encS 1 h' r (namesT t) ∧ Chg [] h h') := by
  have np := n.p; have nr := n.r
  refine f25_calls (by simp) ?_
  intro b1 h1 g1
  have B1 : Blk h1 b1 vs := g1.blk
  have hc1 := g1.chg
  obtain ⟨pv, lv, rv, rfl, hp, hl, hr⟩ := x.ext hc1
  obtain ⟨pa, pc, rfl, _⟩ := hp.form
  obtain ⟨ra, rc, rfl, _⟩ := hr.form
  refine Exists.intro _ (And.intro (cell_blk B1 rfl) ?_)
  have fl : ∀ k, ((t.pairs.take k).flatMap fun p => [p.name, p.text]).length ≤ 2 * k := by
    intro k
    induction k with
    | zero => simp
    | succ k ih =>
      by_cases hk : k < t.pairs.length
      · rw [take_snoc t.pairs k hk, List.flatMap_append]; simp at ih ⊢; omega
      · rw [List.take_of_length_le (by omega)] at ih ⊢; omega
  refine loop_intro (fun i : Nat × Value => [(1, .pointer (some ⟨b1, 0, none⟩)), (3, i.2), (9, .slice pa t.pairs.length pc), (10, .int .i64 t.pairs.length), (11, .int .i64 i.1)])
    (fun i h' => i.1 ≤ t.pairs.length ∧ Chg [] h1 h' ∧ OL encS 1 h' i.2 ((t.pairs.take i.1).flatMap fun p => [p.name, p.text]) ∧ ∀ b ∈ vblk i.2, h1.size ≤ b) (fun i => t.pairs.length - i.1) (0, .slice none 0 0) ⟨rfl, rfl, rfl, rfl, rfl, trivial⟩
    ⟨Nat.zero_le _, Chg.refl _, OL.nil, by simp [vblk, ablk]⟩ ?_
  rintro ⟨k, ov⟩ h2 ⟨hk, hc2, ho, hob⟩
  simp only at hk ho hob
  refine And.intro rfl (And.intro (fun hlt => ?_) (fun hlt => ?_))
  · have hkk : k < t.pairs.length := by omega
    obtain ⟨b, o, rfl⟩ := hp.addr (by omega)
    have hcs := (hp.ext hc2).cells encP_len (i := k) (x := t.pairs[k]) (by simp [hkk])
    obtain ⟨oa, oc, rfl, _⟩ := ho.sl.form
    refine And.intro (by omega) (And.intro (by omega) (Exists.intro (encP t.pairs[k]) (And.intro rfl (And.intro hcs ?_))))
    intro b3 h3 g3
    refine Exists.intro _ (And.intro g3.blk (And.intro (by decide) (And.intro rfl (And.intro (encP_one _) ?_))))
    intro h4 p4
    have g4 := g3.put p4
    have B4 : Blk h4 b3 (encP t.pairs[k]) := g4.blk
    refine Exists.intro _ (And.intro (cell_blk B4 rfl) (Exists.intro _ (And.intro (cell_blk B4 rfl) ?_)))
    intro b5 h5 g5
    have hc5 := g4.chg.nil g5.chg
    have hsrc : SL encS h5 (.slice (some ⟨b5, 0, none⟩) 2 2) [t.pairs[k].name, t.pairs[k].text] := ⟨_, _, rfl, Nat.le_refl _, cells_blk g5.blk⟩
    have hfl := fl k
    refine app_own encS_len encS_one rfl (ho.ext hc5) hsrc (by simp at hfl ⊢; omega) ?_
    intro v' h6 ho6 hc6 hb6
    have hc26 : Chg [] h1 h6 := (hc2.nil hc5).fresh hc6 hob
    refine And.intro rfl (fun z hz => ?_)
    have hz := add_in hz (by omega) (by omega)
    subst hz
    refine And.intro rfl (Exists.intro (k + 1, v') (And.intro ?_ (And.intro ?_ ?_)))
    · exact ⟨rfl, rfl, rfl, rfl, rfl, trivial⟩
    · refine ⟨by simp only; omega, hc26, ?_, fun b' hb' => ?_⟩
      · simp only
        rw [take_snoc t.pairs k hkk, List.flatMap_append]
        exact ho6
      · rcases hb6 b' hb' with h | h
        · exact hob b' h
        · have := (hc2.nil hc5).size; omega
    · simp only; omega
  have hkl : k = t.pairs.length := by omega
  rw [hkl, List.take_length] at ho
  have B2 := B1.chg hc2 (by simp)
  refine Exists.intro _ (And.intro (cell_blk B2 rfl) ?_)
  have flp : (t.pairs.flatMap fun p => [p.name, p.text]).length ≤ 140000 := by
    have := fl t.pairs.length
    rw [List.take_length] at this; omega
  refine loop_intro (fun i : Nat × Value => [(3, i.2), (24, .slice ra t.ranks.length rc), (25, .int .i64 t.ranks.length), (26, .int .i64 i.1)])
    (fun i h' => i.1 ≤ t.ranks.length ∧ Chg [] h1 h' ∧ OL encS 1 h' i.2 (t.pairs.flatMap (fun p => [p.name, p.text]) ++ (t.ranks.take i.1).map Rank.name) ∧ ∀ b ∈ vblk i.2, h1.size ≤ b) (fun i => t.ranks.length - i.1) (0, ov) ⟨rfl, rfl, rfl, rfl, trivial⟩
    ⟨Nat.zero_le _, hc2, by simpa using ho, hob⟩ ?_
  clear hlt hkl hk hob ho
  rintro ⟨k, ov⟩ h2 ⟨hk, hc2, ho, hob⟩
  simp only at hk ho hob
  refine And.intro rfl (And.intro (fun hlt => ?_) (fun hlt => ?_))
  · have hkk : k < t.ranks.length := by omega
    obtain ⟨b, o, rfl⟩ := hr.addr (by omega)
    have hcs := (hr.ext hc2).cells encR_len (i := k) (x := t.ranks[k]) (by simp [hkk])
    obtain ⟨oa, oc, rfl, _⟩ := ho.sl.form
    refine And.intro (by omega) (And.intro (by omega) (Exists.intro (encR t.ranks[k]) (And.intro rfl (And.intro hcs ?_))))
    intro b3 h3 g3
    refine Exists.intro _ (And.intro g3.blk (And.intro (by decide) (And.intro rfl (And.intro (encR_one _) ?_))))
    intro h4 p4
    have g4 := g3.put p4
    have B4 : Blk h4 b3 (encR t.ranks[k]) := g4.blk
    refine Exists.intro _ (And.intro (cell_blk B4 rfl) ?_)
    intro b5 h5 g5
    have hc5 := g4.chg.nil g5.chg
    have hsrc : SL encS h5 (.slice (some ⟨b5, 0, none⟩) 1 1) [t.ranks[k].name] := SL.one encS_len g5.blk
    refine app_own encS_len encS_one rfl (ho.ext hc5) hsrc (by simp at flp ⊢; omega) ?_
    intro v' h6 ho6 hc6 hb6
    have hc26 : Chg [] h1 h6 := (hc2.nil hc5).fresh hc6 hob
    refine And.intro rfl (fun z hz => ?_)
    have hz := add_in hz (by omega) (by omega)
    subst hz
    refine And.intro rfl (Exists.intro (k + 1, v') (And.intro ?_ (And.intro ?_ ?_)))
    · exact ⟨rfl, rfl, rfl, rfl, trivial⟩
    · refine ⟨by simp only; omega, hc26, ?_, fun b' hb' => ?_⟩
      · simp only
        rw [take_snoc t.ranks k hkk, List.map_append, ← List.append_assoc]
        exact ho6
      · rcases hb6 b' hb' with h | h
        · exact hob b' h
        · have := (hc2.nil hc5).size; omega
    · simp only; omega
  have hkl : k = t.ranks.length := by omega
  rw [hkl, List.take_length] at ho
  exact And.intro ho (hc1.nil hc2)

end Go.Proofs.YtigolfakcblnjaaGreat
