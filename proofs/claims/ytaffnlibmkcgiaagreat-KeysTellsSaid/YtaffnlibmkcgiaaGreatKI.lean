/-
  Layer 7: may a thing be? The document's loops.
-/
import Derived.Test.YtaffnlibmkcgiaaGreatKH
namespace Go.Proofs.YtaffnlibmkcgiaaGreat
open Go Go.Sx Go.Proofs.YtaffnlibmkcgiaaGreat.C

theorem rising_at {α : Type} {lt : α → α → Bool} : ∀ {l : List α} {k : Nat} (h1 : 1 ≤ k) (h : k < l.length), rising lt l = true → lt (l[k - 1]'(by omega)) l[k] = true
  | [], _, _, h, _ => by simp at h
  | [_], _, h1, h, _ => by simp at h; omega
  | x :: y :: l, 1, _, _, hr => by
    simp only [rising, Bool.and_eq_true] at hr
    exact hr.1
  | x :: y :: l, k + 2, _, h, hr => by
    simp only [rising, Bool.and_eq_true] at hr
    have := rising_at (l := y :: l) (k := k + 1) (by omega) (by simpa using h) hr.2
    exact this

theorem RCheck_ranks {h h0 : Heap} {b1 : Nat} {vs : List Value} {t : Thing} (s : Small t) (hc : Chg [] h0 h) (B1 : Blk h b1 vs) (x : TH h vs t) (hu : ¬ (t.hasU = false ∧ t.unt ≠ 0)) (ht : ¬ (t.kind ≠ 1 ∧ t.text ≠ noText))
    (hps : rising ltP t.pairs = true) (hls : t.kind = 4 → rising sless t.list = true) :
    swp Tryz.prog (.seq (.seq (.ops f15r16) (.block 4 (.loop f15l27))) (.seq (.seq (.ops f15r28) (.block 8 (.seq (.ops f15r29) (.cond (.tmp 187) (.seq (.ops f15r30) .ret) (.seq (.ops f15r31) (.cond (.tmp 195) (.seq (.ops f15r32) .ret) (.seq (.seq (.ops f15r33) (.cond (.tmp 205) .skip (.ops f15r34))) (.cond (.tmp 205) (.seq (.ops f15r35) .ret) (.seq (.ops f15r36) (.cond (.tmp 216) (.seq (.ops f15r37) .ret) .skip)))))))))) (.seq (.ops f15r38) .ret)))
      (retQ [.t 2] (Ret fun r h' => r = .bool (kOK t) ∧ Chg [] h0 h')) (mk [(1, .pointer (some ⟨b1, 0, none⟩)), (3, .int .i64 t.pairs.length), (4, .int .i64 t.list.length), (5, .int .i64 t.ranks.length)]) [] h := by
  have sr := s.r
  have x' := x
  obtain ⟨pv, lv, rv, rfl, hp, hl, hr⟩ := x
  obtain ⟨ra, rc, rfl, _⟩ := hr.form
  refine loop_intro (fun k : Nat => [(1, .pointer (some ⟨b1, 0, none⟩)), (3, .int .i64 t.pairs.length), (4, .int .i64 t.list.length), (5, .int .i64 t.ranks.length), (8, .int .i64 k)])
    (fun k h' => k ≤ t.ranks.length ∧ Chg [] h h' ∧ rising aheadR t.ranks = rising aheadR (t.ranks.drop (k - 1)) ∧ ((t.ranks.take k).map Rank.name).Nodup) (fun k => t.ranks.length - k) 0 ⟨rfl, rfl, rfl, rfl, rfl, trivial⟩ ⟨Nat.zero_le _, Chg.refl h, rfl, by simp⟩ ?_
  rintro k h1 ⟨hk, hc1, hri, hnd⟩
  have hc01 := hc.nil hc1
  have bad : ∀ h2, Chg [] h1 h2 → ¬ ROK t → Ret (fun r h' => r = .bool (kOK t) ∧ Chg [] h0 h') (.returned (retV [Value.bool false])) h2 := fun h2 hc2 hn => ⟨by rw [kOK_bad hn]; rfl, hc01.nil hc2⟩
  refine And.intro rfl (And.intro (fun hlt => ?_) (fun hlt => ?_))
  · have hkk : k < t.ranks.length := by omega
    obtain ⟨b3, o, rfl⟩ := hr.addr (by omega)
    have hr1 := hr.ext hc1
    have hcs := hr1.cells encR_len (i := k) (x := t.ranks[k]) (by simp [hkk])
    have hsz := s.rs t.ranks[k] (List.getElem_mem hkk)
    have B2 := B1.chg hc1 (by simp)
    -- the inner loop, from whatever heap
    have inner : ∀ h2 (hc2 : Chg [] h1 h2) (hri' : rising aheadR t.ranks = rising aheadR (t.ranks.drop k)) σ, SubL σ [(1, .pointer (some ⟨b1, 0, none⟩)), (3, .int .i64 t.pairs.length), (4, .int .i64 t.list.length), (5, .int .i64 t.ranks.length), (8, .int .i64 k)] →
        ∀ Q : Post, (∀ h3 σ', Chg [] h1 h3 → SubL σ' [(1, .pointer (some ⟨b1, 0, none⟩)), (3, .int .i64 t.pairs.length), (4, .int .i64 t.list.length), (5, .int .i64 t.ranks.length), (8, .int .i64 k)] → ((t.ranks.take (k + 1)).map Rank.name).Nodup → Q .normal σ' [] h3) →
        (∀ h3 σ', Chg [] h1 h3 → σ' 2 = some (.bool false) → ¬ ROK t → Q .ret σ' [] h3) →
        swp Tryz.prog (.seq (.ops f15r20) (.block 6 (.loop f15l25))) Q σ [] h2 := by
      intro h2 hc2 _ σ hσ Q hQ hQr
      obtain ⟨s1, s3, s4, s5, s8, _⟩ := hσ
      have hr2 := hr1.ext hc2
      have B3 := B2.chg hc2 (by simp)
      have hcs2 := hr2.cells encR_len (i := k) (x := t.ranks[k]) (by simp [hkk])
      refine loop_intro (fun j : Nat => [(1, .pointer (some ⟨b1, 0, none⟩)), (3, .int .i64 t.pairs.length), (4, .int .i64 t.list.length), (5, .int .i64 t.ranks.length), (8, .int .i64 k), (9, .int .i64 j)])
        (fun j h' => j ≤ k ∧ h' = h2 ∧ ∀ q (_ : q < j) (hq : q < t.ranks.length), t.ranks[q].name ≠ t.ranks[k].name) (fun j => k - j) 0 ⟨s1, s3, s4, s5, s8, rfl, trivial⟩ ⟨Nat.zero_le _, rfl, fun q h => by omega⟩ ?_
      rintro j h3 ⟨hj, h32, hne⟩
      have h32 := h32.symm
      subst h32
      refine And.intro rfl (And.intro (fun hlt => ?_) (fun hlt => ?_))
      · have hjk : j < k := by omega
        have hjl : j < t.ranks.length := by omega
        have hds := hr2.cells encR_len (i := j) (x := t.ranks[j]) (by simp [hjl])
        refine Exists.intro _ (And.intro (cell_blk B3 rfl) ?_)
        refine And.intro (by omega) (And.intro (by omega) (Exists.intro _ (And.intro (hds 0 _ rfl) ?_)))
        refine Exists.intro _ (And.intro (cell_blk B3 rfl) ?_)
        refine And.intro (by omega) (And.intro (by omega) (Exists.intro _ (And.intro (hcs2 0 _ rfl) ?_)))
        refine And.intro (fun he => ?_) (fun he => ?_)
        · refine hQr h2 _ hc2 rfl fun ro => ?_
          have hn := of_decide_eq_true ro.once
          have := List.pairwise_iff_getElem.1 hn j k (by simpa using hjl) (by simpa using hkk) hjk
          simp only [List.getElem_map] at this
          exact this he
        · refine And.intro rfl (fun z hz => ?_)
          have hz := add_in hz (by omega) (by omega)
          subst hz
          refine And.intro rfl (Exists.intro (j + 1) (And.intro ?_ (And.intro ?_ ?_)))
          · exact ⟨rfl, rfl, rfl, rfl, rfl, rfl, trivial⟩
          · refine ⟨by omega, rfl, fun q hq hql => ?_⟩
            by_cases hqj : q = j
            · subst hqj; exact he
            · exact hne q (by omega) hql
          · omega
      · have hjk : j = k := by omega
        refine hQ h2 _ hc2 ⟨rfl, rfl, rfl, rfl, rfl, trivial⟩ ?_
        rw [take_snoc t.ranks k hkk, List.map_append]
        refine nodup_snoc.2 ⟨hnd, fun hm => ?_⟩
        obtain ⟨r, hr', hrn⟩ := List.mem_map.1 hm
        obtain ⟨q, hq, hqe⟩ := List.getElem_of_mem hr'
        have hqk : q < k := by simp at hq; omega
        rw [List.getElem_take] at hqe
        exact hne q (by omega) (by omega) (by rw [hqe]; exact hrn)
    have go_on : ∀ h2 (hc2 : Chg [] h1 h2) (hri' : rising aheadR t.ranks = rising aheadR (t.ranks.drop k)) σ, SubL σ [(1, .pointer (some ⟨b1, 0, none⟩)), (3, .int .i64 t.pairs.length), (4, .int .i64 t.list.length), (5, .int .i64 t.ranks.length), (8, .int .i64 k)] →
        swp Tryz.prog (.seq (.ops f15r20) (.block 6 (.loop f15l25))) (blockQ 5 (thenQ (swp Tryz.prog (.ops f15r26) (thenQ (fun σ' ds' h' => ds' = [] ∧ ∃ i', SubL σ' [(1, .pointer (some ⟨b1, 0, none⟩)), (3, .int .i64 t.pairs.length), (4, .int .i64 t.list.length), (5, .int .i64 t.ranks.length), (8, .int .i64 (i' : Nat))] ∧
          (i' ≤ t.ranks.length ∧ Chg [] h h' ∧ rising aheadR t.ranks = rising aheadR (t.ranks.drop (i' - 1)) ∧ ((t.ranks.take i').map Rank.name).Nodup) ∧ t.ranks.length - i' < t.ranks.length - k)
          (blockQ 4 (thenQ (swp Tryz.prog (.seq (.seq (.ops f15r28) (.block 8 (.seq (.ops f15r29) (.cond (.tmp 187) (.seq (.ops f15r30) .ret) (.seq (.ops f15r31) (.cond (.tmp 195) (.seq (.ops f15r32) .ret) (.seq (.seq (.ops f15r33) (.cond (.tmp 205) .skip (.ops f15r34))) (.cond (.tmp 205) (.seq (.ops f15r35) .ret) (.seq (.ops f15r36) (.cond (.tmp 216) (.seq (.ops f15r37) .ret) .skip)))))))))) (.seq (.ops f15r38) .ret)) (retQ [.t 2] (Ret fun r h' => r = .bool (kOK t) ∧ Chg [] h0 h')))
            (retQ [.t 2] (Ret fun r h' => r = .bool (kOK t) ∧ Chg [] h0 h'))))))
          (thenQ (fun σ' ds' h' => ds' = [] ∧ ∃ i', SubL σ' [(1, .pointer (some ⟨b1, 0, none⟩)), (3, .int .i64 t.pairs.length), (4, .int .i64 t.list.length), (5, .int .i64 t.ranks.length), (8, .int .i64 (i' : Nat))] ∧
          (i' ≤ t.ranks.length ∧ Chg [] h h' ∧ rising aheadR t.ranks = rising aheadR (t.ranks.drop (i' - 1)) ∧ ((t.ranks.take i').map Rank.name).Nodup) ∧ t.ranks.length - i' < t.ranks.length - k)
          (blockQ 4 (thenQ (swp Tryz.prog (.seq (.seq (.ops f15r28) (.block 8 (.seq (.ops f15r29) (.cond (.tmp 187) (.seq (.ops f15r30) .ret) (.seq (.ops f15r31) (.cond (.tmp 195) (.seq (.ops f15r32) .ret) (.seq (.seq (.ops f15r33) (.cond (.tmp 205) .skip (.ops f15r34))) (.cond (.tmp 205) (.seq (.ops f15r35) .ret) (.seq (.ops f15r36) (.cond (.tmp 216) (.seq (.ops f15r37) .ret) .skip)))))))))) (.seq (.ops f15r38) .ret)) (retQ [.t 2] (Ret fun r h' => r = .bool (kOK t) ∧ Chg [] h0 h')))
            (retQ [.t 2] (Ret fun r h' => r = .bool (kOK t) ∧ Chg [] h0 h'))))))) σ [] h2 := by
      intro h2 hc2 hri' σ hσ
      refine inner h2 hc2 hri' σ hσ _ ?_ ?_
      · intro h3 σ' hc3 hσ' hnd'
        refine sops_sub (P := Tryz.prog) (Qp := fun _ _ => False) (fun ch h hf => hf.elim)
          (K := fun σ1 h4 => SubL σ1 [(1, .pointer (some ⟨b1, 0, none⟩)), (3, .int .i64 t.pairs.length), (4, .int .i64 t.list.length), (5, .int .i64 t.ranks.length), (8, .int .i64 ((k + 1 : Nat) : Int))] ∧ h4 = h3) ?_ f15r26 _ _ _ (sub_mk hσ') ?_
        · rintro σ1 σ2 h4 h12 ⟨hs1, rfl⟩
          refine And.intro rfl (Exists.intro (k + 1) (And.intro (hs1.sub h12) (And.intro ?_ ?_)))
          · exact ⟨by omega, hc1.nil hc3, by rw [Nat.add_sub_cancel]; exact hri', hnd'⟩
          · omega
        · refine And.intro rfl (fun z6 hz6 => ?_)
          have hz6 := add_in hz6 (by omega) (by omega)
          subst hz6
          exact ⟨⟨rfl, rfl, rfl, rfl, rfl, trivial⟩, rfl⟩
      · intro h3 σ' hc3 h2' hn
        have hres : resQ σ' h3 [.t 2] (fun vs => Ret (fun r h' => r = .bool (kOK t) ∧ Chg [] h0 h') (.returned (retV vs)) h3) := by
          simp only [resQ, h2']
          exact bad h3 hc3 hn
        exact hres
    refine Exists.intro _ (And.intro (cell_blk B2 rfl) ?_)
    refine And.intro (by omega) (And.intro (by omega) (Exists.intro _ (And.intro (hcs 0 _ rfl) ?_)))
    refine And.intro rfl (And.intro (fun big => absurd big (by omega)) (fun _ => ?_))
    refine And.intro rfl (And.intro (fun hk0 => ?_) (fun hk0 => ?_))
    · have hk1 : 1 ≤ k := by omega
      have hds := hr1.cells encR_len (i := k - 1) (x := t.ranks[k - 1]) (by simp)
      have hsz2 := s.rs t.ranks[k - 1] (List.getElem_mem (by omega))
      refine Exists.intro _ (And.intro (cell_blk B2 rfl) ?_)
      refine And.intro rfl (fun z hz => ?_)
      have hz := sub_in hz (by omega) (by omega)
      have hz : z = ((k - 1 : Nat) : Int) := by omega
      subst hz
      refine And.intro (by omega) (And.intro (by omega) (Exists.intro (encR t.ranks[k - 1]) (And.intro rfl (And.intro hds ?_))))
      refine Exists.intro _ (And.intro (cell_blk B2 rfl) ?_)
      refine And.intro (by omega) (And.intro (by omega) (Exists.intro (encR t.ranks[k]) (And.intro rfl (And.intro hcs ?_))))
      refine call_ret (Ahead_calls t.ranks[k - 1] t.ranks[k] (by omega) (by omega)) ?_
      rintro r2 h2 ⟨hr2, hc2⟩
      rw [drop_two hk1 hkk, rising] at hri
      have e1 : t.ranks[k] :: t.ranks.drop (k + 1) = t.ranks.drop k := by rw [List.drop_eq_getElem_cons hkk]
      rw [e1] at hri
      cases hah : aheadR t.ranks[k - 1] t.ranks[k] with
      | false =>
        rw [hah] at hr2
        subst hr2
        refine bad h2 hc2 fun ro => ?_
        have := rising_at hk1 hkk ro.rs
        rw [hah] at this
        cases this
      | true =>
        rw [hah] at hr2 hri
        subst hr2
        exact go_on h2 hc2 (by rw [hri, Bool.true_and]) _ ⟨rfl, rfl, rfl, rfl, rfl, trivial⟩
    · have hk1 : k = 0 := by omega
      exact go_on h1 (Chg.refl h1) (by rw [hri, hk1]) _ ⟨rfl, rfl, rfl, rfl, rfl, trivial⟩
  · have hkl : k = t.ranks.length := by omega
    rw [hkl, List.take_length] at hnd
    have hri : rising aheadR t.ranks = true := by
      rw [hri, hkl]
      exact rising_short (l := t.ranks.drop (t.ranks.length - 1)) (by rw [List.length_drop]; omega)
    exact cut_at [(1, .pointer (some ⟨b1, 0, none⟩)), (3, .int .i64 t.pairs.length), (4, .int .i64 t.list.length), (5, .int .i64 t.ranks.length)] ⟨rfl, rfl, rfl, rfl, trivial⟩ (RCheck_tail s hc01 (B1.chg hc1 (by simp)) (x'.ext hc1) ⟨hu, ht, hps, hls, hri, decide_eq_true hnd⟩)

end Go.Proofs.YtaffnlibmkcgiaaGreat
