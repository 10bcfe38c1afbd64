/-
  A member taken out, height by height. Plain.
-/
import Derived.Test.YtlghcmdaijfdlaaDoorRkH
namespace Go.Proofs.YtlghcmdaijfdlaaDoor
open Go Go.Sx

structure TI (h2 h' : Heap) (A B : List Nd) (x : Nd) (n : Nat) : Prop where
  chg : Chg (lbN (A ++ B)) h2 h'
  blk : ∀ a ∈ A ++ x :: B, ∃ lk, Blk h' a.lb lk ∧ lk.length = 2 * a.ht
  lv : ∀ hh < 16, LvL h' hh (if hh < n then ons hh 0 (A ++ B) else ons hh 0 (A ++ x :: B))

variable {h2 h h' : Heap} {A B : List Nd} {x p : Nd} {n i : Nat}

theorem if_step {α : Type} {hh n : Nat} (hne : hh ≠ n) (a b : α) : (if hh < n + 1 then a else b) = if hh < n then a else b := by
  by_cases h1 : hh < n
  · rw [if_pos h1, if_pos (by omega)]
  · rw [if_neg h1, if_neg (by omega)]

theorem TI.skip (ti : TI h2 h A B x n) (hn : n < 16) (nd : (lbN (A ++ B)).Nodup) (hlen : (A ++ B).length ≤ 65537) (hlast : LastOn n A p i) (hx : ¬ n < x.ht)
    {lk : List Value} {w w' : Int} (hb : Blk h p.lb lk) (hw : cell h p.lb (2 * n + 1) = some (.int .i64 w)) (hw' : -70000 ≤ w → w ≤ 70000 → w' = w - 1) (hp : Put h h' p.lb (splice lk (2 * n + 1) [.int .i64 w'])) :
    TI h2 h' A B x (n + 1) := by
  obtain ⟨l, e, e1, e2⟩ := PI.mid (B := B) (x := x) hlast
  rw [if_neg hx] at e2
  have hpN : p ∈ A ++ B := List.mem_append_left _ hlast.memN
  obtain ⟨lk0, hb0, hlk⟩ := ti.blk p (by simp [hlast.memN])
  have := blk_inj hb hb0; subst this
  have hpt := hlast.get.1
  have hc := fun b' o' => cell_put (by simp; omega) hb hp b' o'
  simp only [List.length_cons, List.length_nil] at hc
  refine ⟨ti.chg.trans hp.chg (fun k hk => hk) (fun k hk _ => ?_), fun a ha => blk_put hp (ti.blk a ha) fun hab => ?_, fun hh hlt => ?_⟩
  · simp at hk; subst hk
    exact List.mem_map_of_mem hpN
  · obtain ⟨lk1, hb1, hlk1⟩ := ti.blk a ha
    rw [hab] at hb1
    rw [blk_inj hb hb1]; exact hlk1
  · by_cases hne : hh = n
    · subst hne
      have hL := ti.lv hh hlt
      rw [if_neg (by omega), e2] at hL
      rw [if_pos (by omega), e1]
      refine lv_unskip hL ?_ (by rw [← e1]; exact ons_le hlen) (fun b o hb => ?_) ?_ ⟨w, w', hw, ?_, hw'⟩
      · rw [← e1]; exact nd.sublist (lbs_ons ..)
      · rw [hc, if_neg (by intro h; exact hb h.1)]
      · rw [hc, if_neg (by omega)]
      · rw [hc, if_pos (by omega)]; simp
    · have hL := ti.lv hh hlt
      rw [if_step hne]
      exact lv_other hne (fun b o _ h2 => by rw [hc, if_neg (by omega)]) hL

theorem TI.cut (ti : TI h2 h A B x n) (hn : n < 16) (nd : (lbN (A ++ B)).Nodup) (hlen : (A ++ B).length ≤ 65536) (hlast : LastOn n A p i) (hx : n < x.ht)
    {lk : List Value} {to : Value} {w w' : Int} (hb : Blk h p.lb lk) (hto : cell h x.lb (2 * n) = some to) (hw : cell h x.lb (2 * n + 1) = some (.int .i64 w))
    (hw' : -70000 ≤ w → w ≤ 70000 → w' = w + ((A.length : Int) - i - 1)) (hp : Put h h' p.lb (splice lk (2 * n) [to, .int .i64 w'])) :
    TI h2 h' A B x (n + 1) := by
  obtain ⟨l, e, e1, e2⟩ := PI.mid (B := B) (x := x) hlast
  rw [if_pos hx] at e2
  have hpN : p ∈ A ++ B := List.mem_append_left _ hlast.memN
  obtain ⟨lk0, hb0, hlk⟩ := ti.blk p (by simp [hlast.memN])
  have := blk_inj hb hb0; subst this
  have hpt := hlast.get.1
  have hc := fun b' o' => cell_put (by simp; omega) hb hp b' o'
  simp only [List.length_cons, List.length_nil] at hc
  refine ⟨ti.chg.trans hp.chg (fun k hk => hk) (fun k hk _ => ?_), fun a ha => blk_put hp (ti.blk a ha) fun hab => ?_, fun hh hlt => ?_⟩
  · simp at hk; subst hk
    exact List.mem_map_of_mem hpN
  · obtain ⟨lk1, hb1, hlk1⟩ := ti.blk a ha
    rw [hab] at hb1
    rw [blk_inj hb hb1]; exact hlk1
  · by_cases hne : hh = n
    · subst hne
      have hL := ti.lv hh hlt
      rw [if_neg (by omega), e2] at hL
      rw [if_pos (by omega), e1]
      refine lv_cut (x := x) (K := A.length) hL ?_ (by rw [← e1]; exact ons_le (by omega)) (by simp at hlen; omega) (fun b o hb => ?_) ?_ ⟨w, w', hw, ?_, hw'⟩
      · rw [← e1]; exact nd.sublist (lbs_ons ..)
      · rw [hc, if_neg (by intro h; exact hb h.1)]
      · rw [hc, if_pos (by omega), hto]; simp
      · rw [hc, if_pos (by omega)]; simp
    · have hL := ti.lv hh hlt
      rw [if_step hne]
      exact lv_other hne (fun b o h1 h2 => by rw [hc, if_neg (by omega)]) hL

/-- What the last one of the first ones leads to: the member, if it stands so high; else another one or nobody. -/
theorem TI.link (ti : TI h2 h A B x n) (hn : n < 16) (hlast : LastOn n A p i) :
    (n < x.ht ∧ link h p n (ptr x.mb) ((A.length : Int) - i) ∧ ∃ q w, link h x n (.pointer q) w) ∨
    (¬ n < x.ht ∧ ((∃ w, link h p n (.pointer none) w) ∨ ∃ b ∈ B, ∃ w, link h p n (ptr b.mb) w)) := by
  obtain ⟨l, e, e1, e2⟩ := PI.mid (B := B) (x := x) hlast
  have hL := ti.lv n hn
  rw [if_neg (by omega), e2] at hL
  have hl := (lvl_app.1 hL).2
  by_cases hx : n < x.ht
  · rw [if_pos hx] at hl
    exact Or.inl ⟨hx, hl.1, lead_ptr hl.2.1⟩
  · rw [if_neg hx] at hl
    refine Or.inr ⟨hx, ?_⟩
    cases hr : ons n A.length B with
    | nil =>
      rw [hr] at hl
      exact Or.inl hl.1
    | cons y r =>
      obtain ⟨b, k⟩ := y
      rw [hr] at hl
      exact Or.inr ⟨b, mem_of_ons (i := k) (by rw [hr]; simp), _, hl.1⟩

/-! ### The map -/
theorem mfind_none {k : Kd} {a : Value} (ha : fits k a = true) : ∀ (es : List MapEntry) (i : Nat), (∀ e ∈ es, fits k e.key = true) → mfind a es i = none → ∀ e ∈ es, e.key ≠ a
  | [], _, _, _, e, he => by simp at he
  | x :: es, i, hf, h, e, he => by
    simp only [mfind] at h
    split at h
    · simp at h
    · rename_i hs
      rcases List.mem_cons.1 he with rfl | he
      · intro e; exact hs (by rw [e]; exact sameBits_refl ha)
      · exact mfind_none ha es (i + 1) (fun y hy => hf y (by simp [hy])) h e he

theorem erase_perm {es : List MapEntry} {j : Nat} {e : MapEntry} (he : es[j]? = some e) : (es.map fun e => (e.key, e.val)).Perm ((e.key, e.val) :: (es.eraseIdx j).map fun e => (e.key, e.val)) := by
  obtain ⟨hlt, rfl⟩ := List.getElem?_eq_some_iff.1 he
  have h1 : es = es.take j ++ es[j] :: es.drop (j + 1) := by
    rw [← List.drop_eq_getElem_cons hlt, List.take_append_drop]
  have h2 : es.eraseIdx j = es.take j ++ es.drop (j + 1) := List.eraseIdx_eq_take_drop_succ ..
  rw [h2]
  have h3 : (es.map fun e => (e.key, e.val)) = (es.take j ++ es[j] :: es.drop (j + 1)).map fun e => (e.key, e.val) := by rw [← h1]
  rw [h3]
  simp only [List.map_append, List.map_cons]
  exact List.perm_middle

end Go.Proofs.YtlghcmdaijfdlaaDoor
