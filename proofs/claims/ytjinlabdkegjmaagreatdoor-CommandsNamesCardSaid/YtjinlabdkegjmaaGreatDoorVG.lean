/-
  Layer 10: CommandsNames, its contract.
-/
import Derived.Test.YtjinlabdkegjmaaGreatDoorVE
import Derived.Test.YtjinlabdkegjmaaGreatDoorKnown
namespace Go.Proofs.YtjinlabdkegjmaaGreatDoor
open Go Go.Sx Go.Proofs.YtjinlabdkegjmaaGreatDoor.C

theorem known_ret (h : Heap) : CallsH Tryz.prog 13 [] h (Ret fun r h' => r = .bool true ∧ Chg [] h h') :=
  (R.calls h).mono fun e h' ⟨he, hx⟩ => by subst he; exact ⟨rfl, chg_of_ext hx⟩

theorem isK_chg {h h' : Heap} {k : Value} (hk : IsK h k) (hc : Chg [] h h') : IsK h' k := by
  obtain ⟨b, a, rfl, hb⟩ := hk
  exact ⟨b, a, rfl, cell_chg hb hc (by simp)⟩

theorem all_mem {s : ByteArray} : s ∈ allNames ↔ s ∈ cmdNames ∨ s ∈ lcmNames := by
  rw [← both_perm.mem_iff]
  unfold bothL
  rw [List.map_append, List.mem_append]
  exact or_congr sort_perm.symm.mem_iff lsort_perm.symm.mem_iff

theorem known_no {h : Heap} {s : ByteArray} (hs : s.size < 4611686018427387904) (hu : up s ∉ allNames) : CallsH Tryz.prog 20 [.string s] h (Ret fun r h' => r = .bool false ∧ Chg [] h h') := by
  have h1 : up s ∉ cmdNames := fun e => hu (all_mem.2 (.inl e))
  have h2 : up s ∉ lcmNames := fun e => hu (all_mem.2 (.inr e))
  refine f20_calls (by simp) ?_
  refine call_ret knew_calls ?_
  rintro k h4 ⟨hk, hc4⟩
  intro ba h5 g5
  refine call_ret (do_unknown (now := .int .i64 0) (isK_chg hk g5.chg) (cell_blk g5.blk rfl) hs h1) ?_
  rintro _ h6 ⟨rfl, hc6⟩
  intro b7 h7 g7
  refine Exists.intro _ (And.intro g7.blk (And.intro (Nat.le_refl _) (And.intro rfl (And.intro ones4 fun h8 p8 => ?_))))
  have G := g7.put p8
  have hc8 := ((hc4.nil g5.chg).nil hc6).nil G.chg
  refine call_ret knew_calls ?_
  rintro k2 h9 ⟨hk2, hc9⟩
  intro bb h10 g10
  refine call_ret (ldo_unknown (now := .int .i64 0) (isK_chg hk2 g10.chg) (cell_blk g10.blk rfl) hs h2) ?_
  rintro _ h11 ⟨rfl, hc11⟩
  intro b12 h12 g12
  refine Exists.intro _ (And.intro g12.blk (And.intro (Nat.le_refl _) (And.intro rfl (And.intro ones4 fun h13 p13 => ?_))))
  have G2 := g12.put p13
  have hc13 := (((hc8.nil hc9).nil g10.chg).nil hc11).nil G2.chg
  exact And.intro rfl hc13

theorem known_calls {h : Heap} {s : ByteArray} (hs : s.size < 4611686018427387904) : CallsH Tryz.prog 20 [.string s] h (Ret fun r h' => (∃ t, r = .bool t ∧ (t = true ↔ up s ∈ allNames)) ∧ Chg [] h h') := by
  by_cases hu : up s ∈ allNames
  · refine (known_yes hs hu).mono ?_
    intro e h' he
    cases e with
    | returned u => exact ⟨⟨true, he.1, by simp [hu]⟩, he.2⟩
    | panicked ch => exact he.elim
    | outgrown => exact he.elim
  · refine (known_no hs hu).mono ?_
    intro e h' he
    cases e with
    | returned u => exact ⟨⟨false, he.1, by simp [hu]⟩, he.2⟩
    | panicked ch => exact he.elim
    | outgrown => exact he.elim

theorem namesL_in : ∀ w ∈ sortL ++ lsortL, w.length < 4611686018427387904 ∧ w.map upB ∈ allL := by decide +kernel
theorem names_in : ∀ s ∈ sortNames, s.size < 4611686018427387904 ∧ up s ∈ allNames := by
  intro s hs
  obtain ⟨w, hw, rfl⟩ := List.mem_map.1 hs
  obtain ⟨h1, h2⟩ := namesL_in w (List.mem_append.2 (.inl hw))
  exact ⟨h1, List.mem_map.2 ⟨_, h2, rfl⟩⟩
theorem lnames_in : ∀ s ∈ lsortNames, s.size < 4611686018427387904 ∧ up s ∈ allNames := by
  intro s hs
  obtain ⟨w, hw, rfl⟩ := List.mem_map.1 hs
  obtain ⟨h1, h2⟩ := namesL_in w (List.mem_append.2 (.inr hw))
  exact ⟨h1, List.mem_map.2 ⟨_, h2, rfl⟩⟩

theorem cn_contract {h : Heap} {s : ByteArray} (hs : s.size < 4611686018427387904) : CallsH Tryz.prog 5 [.string s] h (Ret fun r h' => r = .bool true ∧ Chg [] h h') := by
  refine f5_calls (by simp) ?_
  refine And.intro rfl (And.intro (fun hgt => ?_) (fun hle => ?_))
  · refine call_ret (known_ret h) ?_
    rintro _ h' ⟨rfl, hc⟩
    exact And.intro rfl hc
  refine call_ret cnames_calls ?_
  rintro v1 h1 ⟨hv1, hc1⟩
  obtain ⟨x, c, rfl, _⟩ := hv1.form
  obtain ⟨b, o, rfl⟩ := hv1.addr (by decide)
  refine call_ret rnames_calls ?_
  rintro v2 h2 ⟨hv2, hc2⟩
  obtain ⟨x', c', rfl, _⟩ := hv2.form
  obtain ⟨b', o', rfl⟩ := hv2.addr (by decide)
  refine call_ret r9names_calls ?_
  rintro v3 h3 ⟨hv3, hc3⟩
  obtain ⟨x'', c'', rfl, _⟩ := hv3.form
  obtain ⟨b'', o'', rfl⟩ := hv3.addr (by decide)
  have hv1 := (hv1.ext hc2).ext hc3
  have hv2 := hv2.ext hc3
  have hc := (hc1.nil hc2).nil hc3
  have h46 : allNames.length = 46 := rfl
  have h18 : sortNames.length = 18 := rfl
  have h28 : lsortNames.length = 28 := rfl
  refine And.intro rfl (fun z0 hz0 => ?_)
  have hz0 : z0 = 46 := by rw [hz0]; rfl
  subst hz0
  refine And.intro rfl (And.intro (fun hne => absurd rfl hne) (fun _ => ?_))
  refine loop_intro (fun p : Nat × Bool => [(0, .string s), (3, .slice (some ⟨b, o, none⟩) allNames.length c), (4, .slice (some ⟨b', o', none⟩) sortNames.length c'), (5, .slice (some ⟨b'', o'', none⟩) lsortNames.length c''), (6, .bool p.2), (7, .int .i64 p.1)])
    (fun p h' => p.1 ≤ allNames.length ∧ Chg [] h3 h' ∧ (p.2 = true ↔ up s ∈ allNames.take p.1)) (fun p => allNames.length - p.1) (0, false) ⟨rfl, rfl, rfl, rfl, rfl, rfl, trivial⟩ ⟨Nat.zero_le _, Chg.refl _, by simp⟩ ?_
  rintro ⟨q, t⟩ h4 ⟨hq, hc4, ht⟩
  simp only at hq ht
  refine And.intro rfl (And.intro (fun hlt => ?_) (fun hge => ?_))
  · have hlq : q < allNames.length := by simp only at hlt; omega
    refine And.intro rfl (And.intro (fun hpos => ?_) (fun hz => ?_))
    · obtain ⟨p, hp⟩ : ∃ p, q = p + 1 := ⟨q - 1, by simp only at hpos; omega⟩
      have hlp : p < allNames.length := by omega
      have hcp := (hv1.ext hc4).cells encS_len (i := p) (x := allNames[p]) (by simp [hlp])
      have hcs := (hv1.ext hc4).cells encS_len (i := q) (x := allNames[q]) (by simp [hlq])
      refine And.intro rfl (fun z1 hz1 => ?_)
      have hz1 := sub_in hz1 (by simp only; omega) (by simp only; omega)
      obtain rfl : z1 = (p : Int) := by rw [hz1]; simp only; omega
      refine And.intro (by omega) (And.intro (by omega) (Exists.intro _ (And.intro (hcp 0 _ rfl) ?_)))
      refine And.intro (by simp only; omega) (And.intro (by simp only; omega) (Exists.intro _ (And.intro (hcs 0 _ rfl) ?_)))
      refine call_ret (less_next (i := p) (b := allNames[q]) (by simp [hlp]) (by rw [← hp]; simp [hlq])) ?_
      rintro _ h5 ⟨rfl, hc5⟩
      cases t with
      | true =>
        refine And.intro rfl (fun z hz => ?_)
        have hz := add_in hz (by simp only; omega) (by simp only; omega)
        subst hz
        refine And.intro rfl (Exists.intro (q + 1, true) (And.intro ⟨rfl, rfl, rfl, rfl, rfl, rfl, trivial⟩ (And.intro ⟨hlq, hc4.nil hc5, ?_⟩ (by simp only; omega))))
        have : up s ∈ allNames.take q := ht.1 rfl
        simp only
        rw [take_snoc _ q hlq]
        exact ⟨fun _ => List.mem_append.2 (.inl this), fun _ => trivial⟩
      | false =>
        have hds := (hv1.ext (hc4.nil hc5)).cells encS_len (i := q) (x := allNames[q]) (by simp [hlq])
        refine And.intro (by simp only; omega) (And.intro (by simp only; omega) (Exists.intro _ (And.intro (hds 0 _ rfl) ?_)))
        refine callq_ret (rword_calls hs) ?_
        rintro _ h6 ⟨rfl, hc6⟩
        refine And.intro hc6.ext ?_
        have hno : up s ∉ allNames.take q := fun hh => by have := ht.2 hh; cases this
        refine And.intro (fun he => ?_) (fun hn => ?_)
        · refine And.intro rfl (fun z hz => ?_)
          have hz := add_in hz (by simp only; omega) (by simp only; omega)
          subst hz
          refine And.intro rfl (Exists.intro (q + 1, true) (And.intro ⟨rfl, rfl, rfl, rfl, rfl, rfl, trivial⟩ (And.intro ⟨hlq, (hc4.nil hc5).nil hc6, ?_⟩ (by simp only; omega))))
          simp only
          rw [take_snoc _ q hlq]
          exact ⟨fun _ => List.mem_append.2 (.inr (by simp; exact he.symm)), fun _ => trivial⟩
        · refine And.intro rfl (fun z hz => ?_)
          have hz := add_in hz (by simp only; omega) (by simp only; omega)
          subst hz
          refine And.intro rfl (Exists.intro (q + 1, false) (And.intro ⟨rfl, rfl, rfl, rfl, rfl, rfl, trivial⟩ (And.intro ⟨hlq, (hc4.nil hc5).nil hc6, ?_⟩ (by simp only; omega))))
          simp only
          rw [take_snoc _ q hlq]
          refine ⟨fun h => (by cases h), fun h => ?_⟩
          rcases List.mem_append.1 h with h | h
          · exact absurd h hno
          · simp at h; exact absurd h.symm hn
    · cases t with
      | true =>
        refine And.intro rfl (fun z hz => ?_)
        have hz := add_in hz (by simp only; omega) (by simp only; omega)
        subst hz
        refine And.intro rfl (Exists.intro (q + 1, true) (And.intro ⟨rfl, rfl, rfl, rfl, rfl, rfl, trivial⟩ (And.intro ⟨hlq, hc4, ?_⟩ (by simp only; omega))))
        have : up s ∈ allNames.take q := ht.1 rfl
        simp only
        rw [take_snoc _ q hlq]
        exact ⟨fun _ => List.mem_append.2 (.inl this), fun _ => trivial⟩
      | false =>
        have hds := (hv1.ext hc4).cells encS_len (i := q) (x := allNames[q]) (by simp [hlq])
        refine And.intro (by simp only; omega) (And.intro (by simp only; omega) (Exists.intro _ (And.intro (hds 0 _ rfl) ?_)))
        refine callq_ret (rword_calls hs) ?_
        rintro _ h6 ⟨rfl, hc6⟩
        refine And.intro hc6.ext ?_
        have hno : up s ∉ allNames.take q := fun hh => by have := ht.2 hh; cases this
        refine And.intro (fun he => ?_) (fun hn => ?_)
        · refine And.intro rfl (fun z hz => ?_)
          have hz := add_in hz (by simp only; omega) (by simp only; omega)
          subst hz
          refine And.intro rfl (Exists.intro (q + 1, true) (And.intro ⟨rfl, rfl, rfl, rfl, rfl, rfl, trivial⟩ (And.intro ⟨hlq, (hc4).nil hc6, ?_⟩ (by simp only; omega))))
          simp only
          rw [take_snoc _ q hlq]
          exact ⟨fun _ => List.mem_append.2 (.inr (by simp; exact he.symm)), fun _ => trivial⟩
        · refine And.intro rfl (fun z hz => ?_)
          have hz := add_in hz (by simp only; omega) (by simp only; omega)
          subst hz
          refine And.intro rfl (Exists.intro (q + 1, false) (And.intro ⟨rfl, rfl, rfl, rfl, rfl, rfl, trivial⟩ (And.intro ⟨hlq, (hc4).nil hc6, ?_⟩ (by simp only; omega))))
          simp only
          rw [take_snoc _ q hlq]
          refine ⟨fun h => (by cases h), fun h => ?_⟩
          rcases List.mem_append.1 h with h | h
          · exact absurd h hno
          · simp at h; exact absurd h.symm hn
  have hkl : q = allNames.length := by simp only at hge; omega
  subst hkl
  rw [List.take_length] at ht
  clear hge hq
  refine loop_intro (fun q : Nat => [(0, .string s), (4, .slice (some ⟨b', o', none⟩) sortNames.length c'), (5, .slice (some ⟨b'', o'', none⟩) lsortNames.length c''), (6, .bool t), (8, .int .i64 q)])
    (fun q h' => q ≤ sortNames.length ∧ Chg [] h3 h') (fun q => sortNames.length - q) 0 ⟨rfl, rfl, rfl, rfl, rfl, trivial⟩ ⟨Nat.zero_le _, hc4⟩ ?_
  rintro q h5 ⟨hq, hc5⟩
  refine And.intro rfl (And.intro (fun hlt => ?_) (fun hge => ?_))
  · have hlq : q < sortNames.length := by omega
    have hds := (hv2.ext hc5).cells encS_len (i := q) (x := sortNames[q]) (by simp [hlq])
    refine And.intro (by omega) (And.intro (by omega) (Exists.intro _ (And.intro (hds 0 _ rfl) ?_)))
    obtain ⟨k1, k2⟩ := names_in sortNames[q] (List.getElem_mem hlq)
    refine call_ret (known_calls k1) ?_
    rintro _ h8 ⟨⟨u, rfl, hu⟩, hc8⟩
    obtain rfl : u = true := hu.2 k2
    refine And.intro rfl (fun z hz => ?_)
    have hz := add_in hz (by omega) (by omega)
    subst hz
    exact And.intro rfl (Exists.intro (q + 1) (And.intro ⟨rfl, rfl, rfl, rfl, rfl, trivial⟩ (And.intro ⟨hlq, hc5.nil hc8⟩ (by omega))))
  clear hge hq
  refine loop_intro (fun q : Nat => [(0, .string s), (4, .slice (some ⟨b', o', none⟩) sortNames.length c'), (5, .slice (some ⟨b'', o'', none⟩) lsortNames.length c''), (6, .bool t), (9, .int .i64 q)])
    (fun q h' => q ≤ lsortNames.length ∧ Chg [] h3 h') (fun q => lsortNames.length - q) 0 ⟨rfl, rfl, rfl, rfl, rfl, trivial⟩ ⟨Nat.zero_le _, hc5⟩ ?_
  rintro q h6 ⟨hq, hc6⟩
  refine And.intro rfl (And.intro (fun hlt => ?_) (fun hge => ?_))
  · have hlq : q < lsortNames.length := by omega
    have hds := (hv3.ext hc6).cells encS_len (i := q) (x := lsortNames[q]) (by simp [hlq])
    refine And.intro (by omega) (And.intro (by omega) (Exists.intro _ (And.intro (hds 0 _ rfl) ?_)))
    obtain ⟨k1, k2⟩ := lnames_in lsortNames[q] (List.getElem_mem hlq)
    refine call_ret (known_calls k1) ?_
    rintro _ h8 ⟨⟨u, rfl, hu⟩, hc8⟩
    obtain rfl : u = true := hu.2 k2
    refine And.intro rfl (fun z hz => ?_)
    have hz := add_in hz (by omega) (by omega)
    subst hz
    exact And.intro rfl (Exists.intro (q + 1) (And.intro ⟨rfl, rfl, rfl, rfl, rfl, trivial⟩ (And.intro ⟨hlq, hc6.nil hc8⟩ (by omega))))
  clear hge hq
  refine call_ret (known_calls hs) ?_
  rintro _ h7 ⟨⟨u, rfl, hu⟩, hc7⟩
  obtain rfl : u = t := Bool.eq_iff_iff.2 (hu.trans ht.symm)
  refine And.intro (fun _ => ?_) (fun hne => absurd rfl hne)
  refine call_ret (known_ret _) ?_
  rintro _ h8 ⟨rfl, hc8⟩
  exact And.intro rfl (((hc.nil hc6).nil hc7).nil hc8)

end Go.Proofs.YtjinlabdkegjmaaGreatDoor
