/-
  Links put in and taken out, height by height. Plain.
-/
import Derived.Test.YtlghcmdaijfdlaaDoorRkD
namespace Go.Proofs.YtlghcmdaijfdlaaDoor
open Go Go.Sx

theorem cell_put {h h' : Heap} {b o : Nat} {l vs : List Value} (hl : o + vs.length ≤ l.length) (B : Blk h b l) (p : Put h h' b (splice l o vs)) (b' o' : Nat) :
    cell h' b' o' = if b' = b ∧ o ≤ o' ∧ o' < o + vs.length then vs[o' - o]? else cell h b' o' := by
  by_cases hb : b' = b
  · subst hb
    obtain ⟨e, he⟩ := p.blk
    obtain ⟨e0, he0⟩ := B
    have h1 : cell h' b' o' = (splice l o vs)[o']? := by simp [cell, he]
    have h2 : cell h b' o' = l[o']? := by simp [cell, he0]
    rw [h1, h2, splice_get l o vs hl o']
    simp
  · rw [if_neg (by intro h; exact hb h.1)]
    unfold cell
    rw [p.old b' hb]

/-- A wide that grows by d, where it counts. -/
def Grows (h h' : Heap) (b b' o : Nat) (d : Int) : Prop :=
  ∃ w w', cell h b o = some (.int .i64 w) ∧ cell h' b' o = some (.int .i64 w') ∧ (-70000 ≤ w → w ≤ 70000 → w' = w + d)

def lbs (L : List (Nd × Nat)) : List Nat := L.map fun x => x.1.lb

theorem lbs_mid {l r : List (Nd × Nat)} {y : Nd × Nat} (nd : (lbs (l ++ y :: r)).Nodup) : (∀ x ∈ l, x.1.lb ≠ y.1.lb) ∧ ∀ x ∈ r, x.1.lb ≠ y.1.lb := by
  simp only [lbs, List.map_append, List.map_cons, List.nodup_append, List.nodup_cons] at nd
  obtain ⟨_, ⟨h1, _⟩, h2⟩ := nd
  refine ⟨fun x hx => ?_, fun x hx e => ?_⟩
  · exact h2 x.1.lb (List.mem_map_of_mem (f := fun x : Nd × Nat => x.1.lb) hx) y.1.lb (by simp)
  · exact h1 (by rw [← e]; exact List.mem_map_of_mem (f := fun x : Nd × Nat => x.1.lb) hx)

variable {h h' : Heap} {hh : Nat} {l r : List (Nd × Nat)} {p x : Nd} {i K : Nat}

theorem lv_skip (hL : LvL h hh (l ++ (p, i) :: r)) (nd : (lbs (l ++ (p, i) :: r)).Nodup) (hk : ∀ y ∈ l ++ (p, i) :: r, y.2 ≤ 65537)
    (keep : ∀ b o, b ≠ p.lb → cell h' b o = cell h b o) (k0 : cell h' p.lb (2 * hh) = cell h p.lb (2 * hh)) (k1 : Grows h h' p.lb p.lb (2 * hh + 1) 1) : LvL h' hh (l ++ (p, i) :: up1 r) := by
  obtain ⟨n1, n2⟩ := lbs_mid nd
  obtain ⟨hs, hl, hr⟩ := lvl_app.1 hL
  rw [lvl_app]
  refine ⟨seg_keep (fun y hy o _ => keep _ _ (n1 y hy)) hs, ?_, lvl_up.2 (lvl_keep (fun y hy o _ => keep _ _ (n2 y hy)) hr)⟩
  obtain ⟨w, w', e1, e2, e3⟩ := k1
  cases r with
  | nil =>
    obtain ⟨w0, hw⟩ := hl
    exact ⟨w', by rw [k0]; exact hw.1, e2⟩
  | cons y r =>
    obtain ⟨b, k⟩ := y
    refine ⟨by rw [k0]; exact hl.1, ?_⟩
    have hw := hl.2
    rw [e1] at hw
    simp at hw
    have h1 := hk (b, k) (by simp)
    have h2 := hk (p, i) (by simp)
    simp only at h1 h2
    rw [e2, e3 (by omega) (by omega), hw]
    congr 2
    push_cast
    omega

theorem lv_put (hL : LvL h hh (l ++ (p, i) :: r)) (nd : (lbs (l ++ (p, i) :: r)).Nodup) (hx : x.lb ∉ lbs (l ++ (p, i) :: r)) (hk : ∀ y ∈ l ++ (p, i) :: r, y.2 ≤ 65537)
    (keep : ∀ b o, b ≠ p.lb → b ≠ x.lb → cell h' b o = cell h b o) (p0 : cell h' p.lb (2 * hh) = some (ptr x.mb)) (p1 : cell h' p.lb (2 * hh + 1) = some (.int .i64 ((K : Int) - i)))
    (x0 : cell h' x.lb (2 * hh) = cell h p.lb (2 * hh)) (x1 : Grows h h' p.lb x.lb (2 * hh + 1) (i + 1 - (K : Int))) : LvL h' hh (l ++ (p, i) :: (x, K) :: up1 r) := by
  obtain ⟨n1, n2⟩ := lbs_mid nd
  obtain ⟨hs, hl, hr⟩ := lvl_app.1 hL
  have m1 : ∀ y ∈ l, y.1.lb ≠ x.lb := fun y hy e => hx (by rw [← e]; exact List.mem_map_of_mem (f := fun x : Nd × Nat => x.1.lb) (by simp [hy]))
  have m2 : ∀ y ∈ r, y.1.lb ≠ x.lb := fun y hy e => hx (by rw [← e]; exact List.mem_map_of_mem (f := fun x : Nd × Nat => x.1.lb) (by simp [hy]))
  rw [lvl_app]
  refine ⟨seg_keep (fun y hy o _ => keep _ _ (n1 y hy) (m1 y hy)) hs, ⟨p0, p1⟩, ?_, lvl_up.2 (lvl_keep (fun y hy o _ => keep _ _ (n2 y hy) (m2 y hy)) hr)⟩
  obtain ⟨w, w', e1, e2, e3⟩ := x1
  cases r with
  | nil =>
    obtain ⟨w0, hw⟩ := hl
    exact ⟨w', by rw [x0]; exact hw.1, e2⟩
  | cons y r =>
    obtain ⟨b, k⟩ := y
    refine ⟨by rw [x0]; exact hl.1, ?_⟩
    have hw := hl.2
    rw [e1] at hw
    simp at hw
    have h1 := hk (b, k) (by simp)
    have h2 := hk (p, i) (by simp)
    simp only at h1 h2
    rw [e2, e3 (by omega) (by omega), hw]
    congr 2
    push_cast
    omega

theorem mem_up1 {y : Nd × Nat} (hy : y ∈ r) : (y.1, y.2 + 1) ∈ up1 r := List.mem_map.2 ⟨y, hy, rfl⟩

theorem lv_unskip (hL : LvL h hh (l ++ (p, i) :: up1 r)) (nd : (lbs (l ++ (p, i) :: r)).Nodup) (hk : ∀ y ∈ l ++ (p, i) :: r, y.2 ≤ 65537)
    (keep : ∀ b o, b ≠ p.lb → cell h' b o = cell h b o) (k0 : cell h' p.lb (2 * hh) = cell h p.lb (2 * hh)) (k1 : Grows h h' p.lb p.lb (2 * hh + 1) (-1)) : LvL h' hh (l ++ (p, i) :: r) := by
  obtain ⟨n1, n2⟩ := lbs_mid nd
  obtain ⟨hs, hl, hr⟩ := lvl_app.1 hL
  rw [lvl_app]
  refine ⟨seg_keep (fun y hy o _ => keep _ _ (n1 y hy)) hs, ?_, lvl_keep (fun y hy o _ => keep _ _ (n2 y hy)) (lvl_up.1 hr)⟩
  obtain ⟨w, w', e1, e2, e3⟩ := k1
  cases r with
  | nil =>
    obtain ⟨w0, hw⟩ := hl
    exact ⟨w', by rw [k0]; exact hw.1, e2⟩
  | cons y r =>
    obtain ⟨b, k⟩ := y
    refine ⟨by rw [k0]; exact hl.1, ?_⟩
    have hw := hl.2
    rw [e1] at hw
    simp at hw
    have h1 := hk (b, k) (by simp)
    have h2 := hk (p, i) (by simp)
    simp only at h1 h2
    rw [e2, e3 (by omega) (by omega), hw]
    congr 2
    omega

theorem lv_cut (hL : LvL h hh (l ++ (p, i) :: (x, K) :: up1 r)) (nd : (lbs (l ++ (p, i) :: r)).Nodup) (hk : ∀ y ∈ l ++ (p, i) :: r, y.2 ≤ 65537) (hK : K ≤ 65537)
    (keep : ∀ b o, b ≠ p.lb → cell h' b o = cell h b o) (p0 : cell h' p.lb (2 * hh) = cell h x.lb (2 * hh)) (p1 : Grows h h' x.lb p.lb (2 * hh + 1) ((K : Int) - i - 1)) : LvL h' hh (l ++ (p, i) :: r) := by
  obtain ⟨n1, n2⟩ := lbs_mid nd
  obtain ⟨hs, hl, hx, hr⟩ := lvl_app.1 hL
  rw [lvl_app]
  refine ⟨seg_keep (fun y hy o _ => keep _ _ (n1 y hy)) hs, ?_, lvl_keep (fun y hy o _ => keep _ _ (n2 y hy)) (lvl_up.1 hr)⟩
  obtain ⟨w, w', e1, e2, e3⟩ := p1
  cases r with
  | nil =>
    obtain ⟨w0, hw⟩ := hx
    exact ⟨w', by rw [p0]; exact hw.1, e2⟩
  | cons y r =>
    obtain ⟨b, k⟩ := y
    have hx : link h x hh (ptr b.mb) (((k + 1 : Nat) : Int) - K) := hx
    have hl : link h p hh (ptr x.mb) ((K : Int) - i) := hl
    refine ⟨by rw [p0]; exact hx.1, ?_⟩
    have hw := hx.2
    rw [e1] at hw
    simp at hw
    have h1 := hk (b, k) (by simp)
    simp only at h1
    rw [e2, e3 (by omega) (by omega), hw]
    congr 2
    omega

end Go.Proofs.YtlghcmdaijfdlaaDoor
