/-
  A member put in, height by height: what holds below a height, and above. Plain.
-/
import Derived.Test.YtlghcmdaijfdlaaDoorRkE
namespace Go.Proofs.YtlghcmdaijfdlaaDoor
open Go Go.Sx

def lbN (N : List Nd) : List Nat := N.map Nd.lb

theorem lbs_ons (hh : Nat) : ∀ (k : Nat) (N : List Nd), (lbs (ons hh k N)).Sublist (lbN N)
  | k, [] => by simp [lbs, ons, lbN]
  | k, a :: N => by
    have ih := lbs_ons hh (k + 1) N
    simp only [ons]
    split
    · exact ih.cons_cons _
    · exact ih.cons _

theorem ons_mid (hh : Nat) (A B : List Nd) (x : Nd) : ons hh 0 (A ++ x :: B) = ons hh 0 A ++ (if hh < x.ht then (x, A.length) :: up1 (ons hh A.length B) else up1 (ons hh A.length B)) := by
  rw [ons_app, Nat.zero_add]
  simp only [ons, ons_up]
theorem ons_both (hh : Nat) (A B : List Nd) : ons hh 0 (A ++ B) = ons hh 0 A ++ ons hh A.length B := by
  rw [ons_app, Nat.zero_add]

structure PI (h2 h' : Heap) (A B : List Nd) (x : Nd) (n : Nat) : Prop where
  chg : Chg (x.lb :: lbN (A ++ B)) h2 h'
  blk : ∀ a ∈ A ++ x :: B, ∃ lk, Blk h' a.lb lk ∧ lk.length = 2 * a.ht
  lv : ∀ hh < 16, LvL h' hh (if hh < n then ons hh 0 (A ++ x :: B) else ons hh 0 (A ++ B))

theorem blk_put {h h' : Heap} {b o m : Nat} {l vs : List Value} (p : Put h h' b (splice l o vs)) {b' : Nat} (hb : ∃ lk, Blk h b' lk ∧ lk.length = m) (e : b' = b → l.length = m) : ∃ lk, Blk h' b' lk ∧ lk.length = m := by
  by_cases hbb : b' = b
  · exact ⟨_, by rw [hbb]; exact p.blk, by rw [splice_size]; exact e hbb⟩
  · obtain ⟨lk, ⟨e, he⟩, h2⟩ := hb
    exact ⟨lk, ⟨e, by rw [p.old b' hbb]; exact he⟩, h2⟩

theorem blk_inj {h : Heap} {b : Nat} {l l' : List Value} (h1 : Blk h b l) (h2 : Blk h b l') : l = l' := by
  obtain ⟨e, h1⟩ := h1
  obtain ⟨e', h2⟩ := h2
  rw [h1] at h2
  simp at h2
  exact h2.1

theorem lv_other {h h' : Heap} {n hh : Nat} {L : List (Nd × Nat)} (hne : hh ≠ n) (keep : ∀ b o, o ≠ 2 * n → o ≠ 2 * n + 1 → cell h' b o = cell h b o) (hL : LvL h hh L) : LvL h' hh L :=
  lvl_keep (fun _ _ o ho => keep _ _ (by omega) (by omega)) hL

variable {h2 h h' h'' : Heap} {A B : List Nd} {x p : Nd} {n i : Nat}

theorem PI.mid (hlast : LastOn n A p i) : ∃ l, ons n 0 A = l ++ [(p, i)] ∧ ons n 0 (A ++ B) = l ++ (p, i) :: ons n A.length B ∧
    ons n 0 (A ++ x :: B) = l ++ (p, i) :: (if n < x.ht then (x, A.length) :: up1 (ons n A.length B) else up1 (ons n A.length B)) := by
  obtain ⟨l, e⟩ := hlast
  exact ⟨l, e, by rw [ons_both, e]; simp, by rw [ons_mid, e]; simp⟩

theorem LastOn.memN (hlast : LastOn n A p i) : p ∈ A := mem_of_ons hlast.mem

theorem ons_le {N : List Nd} (hlen : N.length ≤ 65537) {k : Nat} : ∀ y ∈ ons k 0 N, y.2 ≤ 65537 := by
  intro y hy
  have := (List.getElem?_eq_some_iff.1 (ons_mem (a := y.1) (i := y.2) hy).2.2).1
  omega

theorem PI.skip (pi : PI h2 h A B x n) (hn : n < 16) (nd : (x.lb :: lbN (A ++ B)).Nodup) (hlen : (A ++ B).length ≤ 65537) (hlast : LastOn n A p i) (hx : ¬ n < x.ht)
    {lk : List Value} {w w' : Int} (hb : Blk h p.lb lk) (hw : cell h p.lb (2 * n + 1) = some (.int .i64 w)) (hw' : -70000 ≤ w → w ≤ 70000 → w' = w + 1) (hp : Put h h' p.lb (splice lk (2 * n + 1) [.int .i64 w'])) :
    PI h2 h' A B x (n + 1) := by
  obtain ⟨l, e, e1, e2⟩ := PI.mid (B := B) (x := x) hlast
  rw [if_neg hx] at e2
  have hpN : p ∈ A ++ B := List.mem_append_left _ hlast.memN
  obtain ⟨lk0, hb0, hlk⟩ := pi.blk p (by simp [hlast.memN])
  have := blk_inj hb hb0; subst this
  have hpt := hlast.get.1
  have hc := fun b' o' => cell_put (by simp; omega) hb hp b' o'
  simp only [List.length_cons, List.length_nil] at hc
  refine ⟨pi.chg.trans hp.chg (fun k hk => hk) (fun k hk _ => ?_), fun a ha => blk_put hp (pi.blk a ha) fun hab => ?_, fun hh hlt => ?_⟩
  · simp at hk; subst hk
    exact List.mem_cons_of_mem _ (List.mem_map_of_mem hpN)
  · obtain ⟨lk1, hb1, hlk1⟩ := pi.blk a ha
    rw [hab] at hb1
    rw [blk_inj hb hb1]; exact hlk1
  · by_cases hne : hh = n
    · subst hne
      have hL := pi.lv hh hlt
      rw [if_neg (by omega), e1] at hL
      rw [if_pos (by omega), e2]
      refine lv_skip hL ?_ (by rw [← e1]; exact ons_le hlen) (fun b o hb => ?_) ?_ ⟨w, w', hw, ?_, hw'⟩
      · rw [← e1]; exact (List.nodup_cons.1 nd).2.sublist (lbs_ons ..)
      · rw [hc, if_neg (by intro h; exact hb h.1)]
      · rw [hc, if_neg (by omega)]
      · rw [hc, if_pos (by omega)]; simp
    · have hL := pi.lv hh hlt
      have hb : (if hh < n + 1 then ons hh 0 (A ++ x :: B) else ons hh 0 (A ++ B)) = (if hh < n then ons hh 0 (A ++ x :: B) else ons hh 0 (A ++ B)) := by
        by_cases h1 : hh < n
        · rw [if_pos h1, if_pos (by omega)]
        · rw [if_neg h1, if_neg (by omega)]
      rw [hb]
      exact lv_other hne (fun b o _ h2 => by rw [hc, if_neg (by omega)]) hL

theorem PI.put (pi : PI h2 h A B x n) (hn : n < 16) (nd : (x.lb :: lbN (A ++ B)).Nodup) (hlen : (A ++ B).length ≤ 65537) (hlast : LastOn n A p i) (hx : n < x.ht)
    {lk xk : List Value} {to : Value} {w w1 w2 : Int} (hb : Blk h p.lb lk) (hxb : Blk h x.lb xk) (hto : cell h p.lb (2 * n) = some to) (hw : cell h p.lb (2 * n + 1) = some (.int .i64 w))
    (hw1 : -70000 ≤ w → w ≤ 70000 → w1 = w - ((A.length : Int) - 1 - i)) (hw2 : w2 = (A.length : Int) - i)
    (hp : Put h h' x.lb (splice xk (2 * n) [to, .int .i64 w1])) (hp2 : Put h' h'' p.lb (splice lk (2 * n) [ptr x.mb, .int .i64 w2])) :
    PI h2 h'' A B x (n + 1) := by
  obtain ⟨l, e, e1, e2⟩ := PI.mid (B := B) (x := x) hlast
  rw [if_pos hx] at e2
  have hpN : p ∈ A ++ B := List.mem_append_left _ hlast.memN
  have hpx : p.lb ≠ x.lb := fun h => (List.nodup_cons.1 nd).1 (by rw [← h]; exact List.mem_map_of_mem hpN)
  obtain ⟨lk0, hb0, hlk⟩ := pi.blk p (by simp [hlast.memN])
  have := blk_inj hb hb0; subst this
  obtain ⟨xk0, hx0, hxk⟩ := pi.blk x (by simp)
  have := blk_inj hxb hx0; subst this
  have hpt := hlast.get.1
  have hb' : Blk h' p.lb lk := by obtain ⟨e, he⟩ := hb; exact ⟨e, by rw [hp.old _ hpx]; exact he⟩
  have hc1 := fun b' o' => cell_put (by simp; omega) hxb hp b' o'
  have hc2 := fun b' o' => cell_put (by simp; omega) hb' hp2 b' o'
  simp only [List.length_cons, List.length_nil] at hc1 hc2
  refine ⟨(pi.chg.trans hp.chg (fun k hk => hk) (fun k hk _ => ?_)).trans hp2.chg (fun k hk => hk) (fun k hk _ => ?_), fun a ha => blk_put hp2 (blk_put hp (pi.blk a ha) fun hab => ?_) fun hab => ?_, fun hh hlt => ?_⟩
  · simp at hk; subst hk; simp
  · simp at hk; subst hk
    exact List.mem_cons_of_mem _ (List.mem_map_of_mem hpN)
  · obtain ⟨lk1, hb1, hlk1⟩ := pi.blk a ha
    rw [hab] at hb1
    rw [blk_inj hxb hb1]; exact hlk1
  · obtain ⟨lk1, hb1, hlk1⟩ := pi.blk a ha
    rw [hab] at hb1
    rw [blk_inj hb hb1]; exact hlk1
  · by_cases hne : hh = n
    · subst hne
      have hL := pi.lv hh hlt
      rw [if_neg (by omega), e1] at hL
      rw [if_pos (by omega), e2]
      refine lv_put (x := x) (K := A.length) hL ?_ ?_ (by rw [← e1]; exact ons_le hlen) (fun b o hb hbx => ?_) ?_ ?_ ?_ ⟨w, w1, hw, ?_, fun h1 h2 => by rw [hw1 h1 h2]; omega⟩
      · rw [← e1]; exact (List.nodup_cons.1 nd).2.sublist (lbs_ons ..)
      · rw [← e1]; exact fun h => (List.nodup_cons.1 nd).1 ((lbs_ons ..).subset h)
      · rw [hc2, if_neg (by intro h; exact hb h.1), hc1, if_neg (by intro h; exact hbx h.1)]
      · rw [hc2, if_pos (by omega)]; simp
      · rw [hc2, if_pos (by omega), hw2]; simp
      · rw [hc2, if_neg (by intro h; exact hpx h.1.symm), hc1, if_pos (by omega), hto]; simp
      · rw [hc2, if_neg (by intro h; exact hpx h.1.symm), hc1, if_pos (by omega)]; simp
    · have hL := pi.lv hh hlt
      have hb : (if hh < n + 1 then ons hh 0 (A ++ x :: B) else ons hh 0 (A ++ B)) = (if hh < n then ons hh 0 (A ++ x :: B) else ons hh 0 (A ++ B)) := by
        by_cases h1 : hh < n
        · rw [if_pos h1, if_pos (by omega)]
        · rw [if_neg h1, if_neg (by omega)]
      rw [hb]
      exact lv_other hne (fun b o _ h2 => by rw [hc2, if_neg (by omega), hc1, if_neg (by omega)]) hL

end Go.Proofs.YtlghcmdaijfdlaaDoor
