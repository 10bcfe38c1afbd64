/-
  The simplified operations are sound: append.
-/
import Derived.Test.YtaffnlibmkcgiaaSxG
namespace Go.Sx
open Go

variable {P : Program} {σ : Env} {ρ : Operand → Value} {w : World} {K : Value → Heap → Prop} {Qp : List PanicEntry → Heap → Prop}

theorem growBy_le (need : Nat) : ∀ (r c : Nat), c ≤ 2 * need + 768 → Builtin.growBy need r c ≤ 2 * need + 768
  | 0, c, h => h
  | r + 1, c, h => by
    unfold Builtin.growBy
    split
    · exact h
    · exact growBy_le need r _ (by omega)

theorem nextslicecap_le {need old : Nat} (h : old < need) : Builtin.nextslicecap need old ≤ 2 * need + 768 := by
  unfold Builtin.nextslicecap
  split
  · omega
  · split
    · omega
    · exact growBy_le need 4 old (by omega)

theorem run_firstCells {h : Heap} {a : Option Addr} {n size cap m : Nat} {xs : List Value} (hs : Src h a n xs) (hl : xs.length = n * size) (w : World) (hw : w.heap = h) :
    (Builtin.firstCells size n (.slice a m cap)).run P w = .ok ⟨xs⟩ w := by
  cases a with
  | none =>
    have h0 : n = 0 := hs
    subst h0
    have : xs = [] := by simpa using hl
    subst this
    rfl
  | some a =>
    obtain ⟨b, o, sp⟩ := a
    cases sp with
    | some s => exact hs.elim
    | none =>
      have := run_loadCells' (P := P) w hw hs
      rw [hl] at this
      exact this

theorem gives_app {t u e e2 : TypeId} {i : TypeInfo} {z : List Value} {x y : Operand} {ty : TypeId} (hρ : Knows σ ρ) (hu : P.underlying t = some (.slice e)) (hu2 : P.underlying u = some (.slice e2))
    (hi : P.info? e = some i) (hby : 1 ≤ i.bytes) (hz : zeros P e i.size = some z)
    (h : sop P σ w.heap K Qp (.app i.size i.bytes z x y)) : Gives P (do pure (.value (← Builtin.append_ #[t, u] ty #[ρ x, ρ y]))) w K := by
  obtain ⟨zv, hzv, rfl, hzs⟩ := zeros_spec hz
  have hsz : szOf P e = some i.size := by simp [szOf, hi]
  simp only [sop] at h
  split at h
  · rename_i a n c a' m c' hx hy
    unfold appP at h
    obtain ⟨xs, ys, hxl, hyl, hxs, hys, h1, hin, hout⟩ := h
    unfold appIn at hin
    rw [hρ x _ hx, hρ y _ hy]
    have fx : ∀ w' : World, w'.heap = w.heap → (Builtin.firstCells i.size n (.slice a n c)).run P w' = .ok ⟨xs⟩ w' := fun w' hw' => run_firstCells hxs hxl w' hw'
    have fy : ∀ w' : World, w'.heap = w.heap → (Builtin.firstCells i.size m (.slice a' m c')).run P w' = .ok ⟨ys⟩ w' := fun w' hw' => run_firstCells hys hyl w' hw'
    by_cases hroom : n + m ≤ c
    · have h := hin hroom
      cases a with
      | none =>
        refine Gives.same (v := .slice none (n + m) c) ?_ h
        simp [Builtin.append_, run_underlying' hu, run_underlying' hu2, run_sizeOf' hsz, Builtin.lenOf, hroom, fy w rfl]
      | some a =>
        obtain ⟨b, o, sp⟩ := a
        cases sp with
        | some s => exact h.elim
        | none =>
          obtain ⟨l, ⟨eb, hb⟩, hfit, hk⟩ := h
          have hfit' : o + n * i.size + 0 + ys.length ≤ l.length := by
            rw [hyl]
            have : (n + m) * i.size = n * i.size + m * i.size := Nat.add_mul _ _ _
            omega
          obtain ⟨w', hr, hsame, hheap⟩ := run_storeCells' (P := P) b eb ys 0 (o + n * i.size) l w hb hfit' h1
          rw [Nat.add_zero] at hheap
          refine Gives.val (v := .slice (some ⟨b, o, none⟩) (n + m) c) (w' := w') ?_ hsame (hk _ ?_)
          · have hr' : (storeCells ⟨b, o + n * i.size, none⟩ ys).run P w = .ok () w' := hr
            simp [Builtin.append_, run_underlying' hu, run_underlying' hu2, run_sizeOf' hsz, Builtin.lenOf, hroom, fy w rfl, addr_add, hr']
          · rw [hheap]; exact put_of_set hb
    · obtain ⟨hbound, hk⟩ := hout (by omega)
      have hneed : n + m < 9223372036854775808 := by
        have h2 : (n + m) * 2 + 768 ≤ ((n + m) * 2 + 768) * i.bytes := Nat.le_mul_of_pos_right _ hby
        omega
      have hg1 : ¬ (((n + m : Nat) : Int) > IntKind.i64.max ∧ ((false = true) ∨ i.bytes = 0)) := by
        rintro ⟨_, h | h⟩
        · cases h
        · omega
      have hg2 : ¬ (Builtin.nextslicecap (n + m) c * i.bytes > 2 ^ 48) := by
        have h2 := nextslicecap_le (need := n + m) (old := c) (by omega)
        have h3 : Builtin.nextslicecap (n + m) c * i.bytes ≤ (2 * (n + m) + 768) * i.bytes := Nat.mul_le_mul_right _ h2
        have h4 : (2 * (n + m) + 768) * i.bytes = ((n + m) * 2 + 768) * i.bytes := by rw [Nat.mul_comm 2]
        omega
      obtain ⟨cap, hcap⟩ : ∃ cap, cap = (Question.appendCap (n + m) c e).cut (w.tape w.drawn (.appendCap (n + m) c e)) := ⟨_, rfl⟩
      have hcle : n + m ≤ cap := by rw [hcap]; simp [Question.cut]
      obtain ⟨w1, hw1⟩ : ∃ w1 : World, w1 = { w with drawn := w.drawn + 1 } := ⟨_, rfl⟩
      have hch : (choose (.appendCap (n + m) c e)).run P w = .ok cap w1 := by
        rw [run_choose, hcap, hw1]; simp [Question.forced]
      have hzc : Builtin.zeroCells zv.cells (cap - (n + m)) = ⟨(List.replicate (cap - (n + m)) zv.cells.toList).flatten⟩ := range_zeros _ _
      have hheap1 : w1.heap = w.heap := by rw [hw1]
      have hnr : ¬ n + m ≤ c := hroom
      refine Gives.val (v := .slice (some ⟨w.heap.size, 0, none⟩) (n + m) cap)
        (w' := { w1 with heap := w1.heap.push (.cells ⟨xs ++ ys ++ (List.replicate (cap - (n + m)) zv.cells.toList).flatten⟩ e) }) ?_ ⟨by rw [hw1], by rw [hw1], by rw [hw1]⟩ (hk cap _ _ hcle ?_)
      · have harr : (⟨xs⟩ : Array Value) ++ ⟨ys⟩ ++ ⟨(List.replicate (cap - (n + m)) zv.cells.toList).flatten⟩ = ⟨xs ++ ys ++ (List.replicate (cap - (n + m)) zv.cells.toList).flatten⟩ := by
          apply Array.ext'; simp
        have hg1' : ¬ (((n + m : Nat) : Int) > IntKind.i64.max ∧ i.bytes = 0) := fun h => hg1 ⟨h.1, .inr h.2⟩
        simp only [Builtin.append_, List.getElem?_toArray, List.getElem?_cons_zero, List.getElem?_cons_succ, Sem.run_bind, run_underlying' hu, run_underlying' hu2, Result.andThen_ok, run_sizeOf' hsz,
          Sem.run_pure, Builtin.lenOf, run_typeInfo' hi, Bool.false_eq_true, false_or, if_false, if_neg hnr, if_neg hg1', if_neg hg2, hch, run_askRoom, fx w1 hheap1, fy w1 hheap1, run_zeroValue' hzv, hzc, harr, newRow, run_newObj, Bool.not_false, if_true]
        rw [hheap1]
      · show Grow w.heap (w1.heap.push _) w.heap.size _
        rw [hheap1]; exact grow_of_push w.heap _ e
  · exact h.elim

end Go.Sx
