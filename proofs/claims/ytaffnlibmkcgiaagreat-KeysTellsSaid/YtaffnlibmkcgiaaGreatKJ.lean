/-
  Layer 7: may a thing be? The document's answer, whole.
-/
import Derived.Test.YtaffnlibmkcgiaaGreatKI
namespace Go.Proofs.YtaffnlibmkcgiaaGreat
open Go Go.Sx Go.Proofs.YtaffnlibmkcgiaaGreat.C

theorem RCheck_lists {h h0 : Heap} {b1 : Nat} {vs : List Value} {t : Thing} (s : Small t) (hc : Chg [] h0 h) (B1 : Blk h b1 vs) (x : TH h vs t) (hu : ¬ (t.hasU = false ∧ t.unt ≠ 0)) (ht : ¬ (t.kind ≠ 1 ∧ t.text ≠ noText)) :
    swp Tryz.prog (.seq (.seq (.ops f15r4) (.block 0 (.loop f15l9))) (.seq (.seq (.ops f15r10) (.block 2 (.loop f15l15))) (.seq (.seq (.ops f15r16) (.block 4 (.loop f15l27))) (.seq (.seq (.ops f15r28) (.block 8 (.seq (.ops f15r29) (.cond (.tmp 187) (.seq (.ops f15r30) .ret) (.seq (.ops f15r31) (.cond (.tmp 195) (.seq (.ops f15r32) .ret) (.seq (.seq (.ops f15r33) (.cond (.tmp 205) .skip (.ops f15r34))) (.cond (.tmp 205) (.seq (.ops f15r35) .ret) (.seq (.ops f15r36) (.cond (.tmp 216) (.seq (.ops f15r37) .ret) .skip)))))))))) (.seq (.ops f15r38) .ret)))))
      (retQ [.t 2] (Ret fun r h' => r = .bool (kOK t) ∧ Chg [] h0 h')) (mk [(1, .pointer (some ⟨b1, 0, none⟩)), (3, .int .i64 t.pairs.length), (4, .int .i64 t.list.length), (5, .int .i64 t.ranks.length)]) [] h := by
  have sp := s.p; have sl := s.l
  have x' := x
  obtain ⟨pv, lv, rv, rfl, hp, hl, _⟩ := x
  obtain ⟨pa, pc, rfl, _⟩ := hp.form
  obtain ⟨la, lc, rfl, _⟩ := hl.form
  have bad : ¬ ROK t → Ret (fun r h' => r = .bool (kOK t) ∧ Chg [] h0 h') (.returned (retV [Value.bool false])) h := fun hn => ⟨by rw [kOK_bad hn]; rfl, hc⟩
  refine loop_intro (fun k : Nat => [(1, .pointer (some ⟨b1, 0, none⟩)), (3, .int .i64 t.pairs.length), (4, .int .i64 t.list.length), (5, .int .i64 t.ranks.length), (6, .int .i64 k)])
    (fun k h' => k ≤ t.pairs.length ∧ h' = h ∧ rising ltP t.pairs = rising ltP (t.pairs.drop (k - 1))) (fun k => t.pairs.length - k) 0 ⟨rfl, rfl, rfl, rfl, rfl, trivial⟩ ⟨Nat.zero_le _, rfl, rfl⟩ ?_
  rintro k h1 ⟨hk, h12, hri⟩
  have h12 := h12.symm
  subst h12
  refine And.intro rfl (And.intro (fun hlt => ?_) (fun hlt => ?_))
  · have hkk : k < t.pairs.length := by omega
    obtain ⟨b3, o, rfl⟩ := hp.addr (by omega)
    have hcs := hp.cells encP_len (i := k) (x := t.pairs[k]) (by simp [hkk])
    obtain ⟨z1, z2⟩ := s.ps t.pairs[k] (List.getElem_mem hkk)
    have step : ∀ z : Int, z = ((k + 1 : Nat) : Int) → rising ltP t.pairs = rising ltP (t.pairs.drop k) → k + 1 ≤ t.pairs.length ∧ h = h ∧ rising ltP t.pairs = rising ltP (t.pairs.drop (k + 1 - 1)) := fun z _ hr => ⟨by omega, rfl, by rw [Nat.add_sub_cancel]; exact hr⟩
    refine Exists.intro _ (And.intro (cell_blk B1 rfl) ?_)
    refine And.intro (by omega) (And.intro (by omega) (Exists.intro _ (And.intro (hcs 0 _ rfl) ?_)))
    refine And.intro rfl (And.intro (fun big => absurd big (by omega)) (fun _ => ?_))
    refine Exists.intro _ (And.intro (cell_blk B1 rfl) ?_)
    refine And.intro (by omega) (And.intro (by omega) (Exists.intro _ (And.intro (hcs 1 _ rfl) ?_)))
    refine And.intro rfl (And.intro (fun big => absurd big (by omega)) (fun _ => ?_))
    refine And.intro rfl (And.intro (fun hk0 => ?_) (fun hk0 => ?_))
    · have hk1 : 1 ≤ k := by omega
      have hds := hp.cells encP_len (i := k - 1) (x := t.pairs[k - 1]) (by simp)
      obtain ⟨z3, _⟩ := s.ps t.pairs[k - 1] (List.getElem_mem (by omega))
      refine Exists.intro _ (And.intro (cell_blk B1 rfl) ?_)
      refine And.intro rfl (fun z hz => ?_)
      have hz := sub_in hz (by omega) (by omega)
      have hz : z = ((k - 1 : Nat) : Int) := by omega
      subst hz
      refine And.intro (by omega) (And.intro (by omega) (Exists.intro _ (And.intro (hds 0 _ rfl) ?_)))
      refine Exists.intro _ (And.intro (cell_blk B1 rfl) ?_)
      refine And.intro (by omega) (And.intro (by omega) (Exists.intro _ (And.intro (hcs 0 _ rfl) ?_)))
      refine call_ret (Less_calls t.pairs[k - 1].name t.pairs[k].name (by omega) (by omega)) ?_
      rintro r2 _ ⟨hr2, rfl⟩
      rw [drop_two hk1 hkk, rising] at hri
      have e1 : t.pairs[k] :: t.pairs.drop (k + 1) = t.pairs.drop k := by rw [List.drop_eq_getElem_cons hkk]
      rw [e1] at hri
      have hltp : ltP t.pairs[k - 1] t.pairs[k] = sless t.pairs[k - 1].name t.pairs[k].name := rfl
      cases hah : sless t.pairs[k - 1].name t.pairs[k].name with
      | false =>
        rw [hah] at hr2
        subst hr2
        refine bad fun ro => ?_
        have := rising_at hk1 hkk ro.ps
        rw [hltp, hah] at this
        cases this
      | true =>
        rw [hah] at hr2
        rw [hltp, hah, Bool.true_and] at hri
        subst hr2
        refine And.intro rfl (fun z hz => ?_)
        have hz := add_in hz (by omega) (by omega)
        subst hz
        refine And.intro rfl (Exists.intro (k + 1) (And.intro ?_ (And.intro (step _ rfl hri) ?_)))
        · exact ⟨rfl, rfl, rfl, rfl, rfl, trivial⟩
        · omega
    · have hk1 : k = 0 := by omega
      refine And.intro rfl (fun z hz => ?_)
      have hz := add_in hz (by omega) (by omega)
      subst hz
      refine And.intro rfl (Exists.intro (k + 1) (And.intro ?_ (And.intro (step _ rfl (by rw [hri, hk1])) ?_)))
      · exact ⟨rfl, rfl, rfl, rfl, rfl, trivial⟩
      · omega
  have hkl : k = t.pairs.length := by omega
  have hps : rising ltP t.pairs = true := by
    rw [hri, hkl]
    exact rising_short (l := t.pairs.drop (t.pairs.length - 1)) (by rw [List.length_drop]; omega)
  clear hlt hkl hri hk
  refine loop_intro (fun k : Nat => [(1, .pointer (some ⟨b1, 0, none⟩)), (3, .int .i64 t.pairs.length), (4, .int .i64 t.list.length), (5, .int .i64 t.ranks.length), (7, .int .i64 k)])
    (fun k h' => k ≤ t.list.length ∧ h' = h ∧ (t.kind = 4 → rising sless t.list = rising sless (t.list.drop (k - 1)))) (fun k => t.list.length - k) 0 ⟨rfl, rfl, rfl, rfl, rfl, trivial⟩ ⟨Nat.zero_le _, rfl, fun _ => rfl⟩ ?_
  rintro k h1 ⟨hk, h12, hri⟩
  have h12 := h12.symm
  subst h12
  refine And.intro rfl (And.intro (fun hlt => ?_) (fun hlt => ?_))
  · have hkk : k < t.list.length := by omega
    obtain ⟨b3, o, rfl⟩ := hl.addr (by omega)
    have hcs := hl.cells encS_len (i := k) (x := t.list[k]) (by simp [hkk])
    have z1 := s.ls t.list[k] (List.getElem_mem hkk)
    have step : (t.kind = 4 → rising sless t.list = rising sless (t.list.drop k)) → k + 1 ≤ t.list.length ∧ h = h ∧ (t.kind = 4 → rising sless t.list = rising sless (t.list.drop (k + 1 - 1))) := fun hr => ⟨by omega, rfl, by rw [Nat.add_sub_cancel]; exact hr⟩
    refine Exists.intro _ (And.intro (cell_blk B1 rfl) ?_)
    refine And.intro (by omega) (And.intro (by omega) (Exists.intro _ (And.intro (hcs 0 _ rfl) ?_)))
    refine And.intro rfl (And.intro (fun big => absurd big (by omega)) (fun _ => ?_))
    refine Exists.intro _ (And.intro (cell_blk B1 rfl) ?_)
    refine And.intro rfl (And.intro (fun k4 => ?_) (fun k4 => ?_))
    · refine And.intro rfl (And.intro (fun hk0 => ?_) (fun hk0 => ?_))
      · have hk1 : 1 ≤ k := by omega
        have hds := hl.cells encS_len (i := k - 1) (x := t.list[k - 1]) (by simp)
        have z3 := s.ls t.list[k - 1] (List.getElem_mem (by omega))
        refine Exists.intro _ (And.intro (cell_blk B1 rfl) ?_)
        refine And.intro rfl (fun z hz => ?_)
        have hz := sub_in hz (by omega) (by omega)
        have hz : z = ((k - 1 : Nat) : Int) := by omega
        subst hz
        refine And.intro (by omega) (And.intro (by omega) (Exists.intro _ (And.intro (hds 0 _ rfl) ?_)))
        refine Exists.intro _ (And.intro (cell_blk B1 rfl) ?_)
        refine And.intro (by omega) (And.intro (by omega) (Exists.intro _ (And.intro (hcs 0 _ rfl) ?_)))
        refine call_ret (Less_calls t.list[k - 1] t.list[k] (by omega) (by omega)) ?_
        rintro r2 _ ⟨hr2, rfl⟩
        have hri := hri k4
        rw [drop_two hk1 hkk, rising] at hri
        have e1 : t.list[k] :: t.list.drop (k + 1) = t.list.drop k := by rw [List.drop_eq_getElem_cons hkk]
        rw [e1] at hri
        cases hah : sless t.list[k - 1] t.list[k] with
        | false =>
          rw [hah] at hr2
          subst hr2
          refine bad fun ro => ?_
          have := rising_at hk1 hkk (ro.ls k4)
          rw [hah] at this
          cases this
        | true =>
          rw [hah] at hr2
          rw [hah, Bool.true_and] at hri
          subst hr2
          refine And.intro rfl (fun z hz => ?_)
          have hz := add_in hz (by omega) (by omega)
          subst hz
          refine And.intro rfl (Exists.intro (k + 1) (And.intro ?_ (And.intro (step fun _ => hri) ?_)))
          · exact ⟨rfl, rfl, rfl, rfl, rfl, trivial⟩
          · omega
      · have hk1 : k = 0 := by omega
        refine And.intro rfl (fun z hz => ?_)
        have hz := add_in hz (by omega) (by omega)
        subst hz
        refine And.intro rfl (Exists.intro (k + 1) (And.intro ?_ (And.intro (step fun k4 => by rw [hri k4, hk1]) ?_)))
        · exact ⟨rfl, rfl, rfl, rfl, rfl, trivial⟩
        · omega
    · refine And.intro rfl (fun z hz => ?_)
      have hz := add_in hz (by omega) (by omega)
      subst hz
      refine And.intro rfl (Exists.intro (k + 1) (And.intro ?_ (And.intro (step fun k4' => absurd k4' k4) ?_)))
      · exact ⟨rfl, rfl, rfl, rfl, rfl, trivial⟩
      · omega
  have hkl : k = t.list.length := by omega
  have hls : t.kind = 4 → rising sless t.list = true := by
    intro k4
    rw [hri k4, hkl]
    exact rising_short (l := t.list.drop (t.list.length - 1)) (by rw [List.length_drop]; omega)
  exact cut_at [(1, .pointer (some ⟨b1, 0, none⟩)), (3, .int .i64 t.pairs.length), (4, .int .i64 t.list.length), (5, .int .i64 t.ranks.length)] ⟨rfl, rfl, rfl, rfl, trivial⟩ (RCheck_ranks s hc B1 x' hu ht hps hls)

theorem RCheck_calls {h : Heap} {vs : List Value} {t : Thing} (x : TH h vs t) (s : Small t) :
    CallsH Tryz.prog 15 [.agg ⟨vs⟩] h (Ret fun r h' => r = .bool (kOK t) ∧ Chg [] h h') := by
  have sp := s.p; have sl := s.l; have sr := s.r; have st := s.text
  refine f15_calls (by simp) ?_
  intro b1 h1 g1
  have B1 : Blk h1 b1 vs := g1.blk
  have hc := g1.chg
  have x1 := x.ext hc
  have x' := x1
  obtain ⟨pv, lv, rv, rfl, hp, hl, hr⟩ := x1
  obtain ⟨pa, pc, rfl, _⟩ := hp.form
  obtain ⟨la, lc, rfl, _⟩ := hl.form
  obtain ⟨ra, rc, rfl, _⟩ := hr.form
  have bad : ¬ ROK t → Ret (fun r h' => r = .bool (kOK t) ∧ Chg [] h h') (.returned (retV [Value.bool false])) h1 := fun hn => ⟨by rw [kOK_bad hn]; rfl, hc⟩
  have bU : Blk h1 b1 [.int .i64 t.kind, .string t.text, .slice pa t.pairs.length pc, .slice la t.list.length lc, .slice ra t.ranks.length rc, .bool t.hasU, .int .i64 t.unt] := B1
  refine Exists.intro _ (And.intro (cell_blk B1 rfl) (Exists.intro _ (And.intro (cell_blk B1 rfl) (Exists.intro _ (And.intro (cell_blk B1 rfl) ?_)))))
  refine Exists.intro _ (And.intro (cell_blk B1 rfl) ?_)
  cases hU : t.hasU with
  | false =>
    refine Exists.intro _ (And.intro (cell_blk B1 rfl) ?_)
    refine And.intro rfl (And.intro (fun u0 => ?_) (fun u0 => ?_))
    · exact bad fun ro => ro.u ⟨hU, u0⟩
    have hu : ¬ (t.hasU = false ∧ t.unt ≠ 0) := fun h => u0 h.2
    refine And.intro rfl (And.intro (fun big => absurd big (by omega)) (fun _ => ?_))
    refine And.intro rfl (And.intro (fun big => absurd big (by omega)) (fun _ => ?_))
    refine And.intro rfl (And.intro (fun big => absurd big (by omega)) (fun _ => ?_))
    refine Exists.intro _ (And.intro (cell_blk B1 rfl) ?_)
    refine And.intro rfl (And.intro (fun big => absurd big (by omega)) (fun _ => ?_))
    refine Exists.intro _ (And.intro (cell_blk B1 rfl) ?_)
    refine And.intro rfl (And.intro (fun k1 => ?_) (fun k1 => ?_))
    · refine Exists.intro _ (And.intro (cell_blk B1 rfl) ?_)
      refine And.intro (fun t1 => ?_) (fun t1 => ?_)
      · exact bad fun ro => ro.text ⟨k1, t1⟩
      · exact cut_at [(1, .pointer (some ⟨b1, 0, none⟩)), (3, .int .i64 t.pairs.length), (4, .int .i64 t.list.length), (5, .int .i64 t.ranks.length)] ⟨rfl, rfl, rfl, rfl, trivial⟩ (RCheck_lists s hc bU x' hu (fun h => t1 h.2))
    · exact cut_at [(1, .pointer (some ⟨b1, 0, none⟩)), (3, .int .i64 t.pairs.length), (4, .int .i64 t.list.length), (5, .int .i64 t.ranks.length)] ⟨rfl, rfl, rfl, rfl, trivial⟩ (RCheck_lists s hc bU x' hu (fun h => k1 h.1))
  | true =>
    have hu : ¬ (t.hasU = false ∧ t.unt ≠ 0) := fun h => by rw [hU] at h; cases h.1
    refine And.intro rfl (And.intro (fun big => absurd big (by omega)) (fun _ => ?_))
    refine And.intro rfl (And.intro (fun big => absurd big (by omega)) (fun _ => ?_))
    refine And.intro rfl (And.intro (fun big => absurd big (by omega)) (fun _ => ?_))
    refine Exists.intro _ (And.intro (cell_blk B1 rfl) ?_)
    refine And.intro rfl (And.intro (fun big => absurd big (by omega)) (fun _ => ?_))
    refine Exists.intro _ (And.intro (cell_blk B1 rfl) ?_)
    refine And.intro rfl (And.intro (fun k1 => ?_) (fun k1 => ?_))
    · refine Exists.intro _ (And.intro (cell_blk B1 rfl) ?_)
      refine And.intro (fun t1 => ?_) (fun t1 => ?_)
      · exact bad fun ro => ro.text ⟨k1, t1⟩
      · exact cut_at [(1, .pointer (some ⟨b1, 0, none⟩)), (3, .int .i64 t.pairs.length), (4, .int .i64 t.list.length), (5, .int .i64 t.ranks.length)] ⟨rfl, rfl, rfl, rfl, trivial⟩ (RCheck_lists s hc bU x' hu (fun h => t1 h.2))
    · exact cut_at [(1, .pointer (some ⟨b1, 0, none⟩)), (3, .int .i64 t.pairs.length), (4, .int .i64 t.list.length), (5, .int .i64 t.ranks.length)] ⟨rfl, rfl, rfl, rfl, trivial⟩ (RCheck_lists s hc bU x' hu (fun h => k1 h.1))

end Go.Proofs.YtaffnlibmkcgiaaGreat
