/-
  The simplified operations are sound: append.
-/
import Derived.Test.YtaeabfemedamhaaGreatDoorSxG
namespace Go.Sx
open Go

variable {P : Program} {σ : Env} {ρ : Operand → Value} {w : World} {K : Value → Heap → Prop} {Qp : List PanicEntry → Heap → Prop}

theorem growBy_le (need : Nat) : ∀ (r c : Nat), c ≤ 2 * need + 768 → Builtin.growBy need r c ≤ 2 * need + 768
  | 0, c, h => h
  | r + 1, c, h => by
    unfold Builtin.growBy
    split
    · exact h
    · exact growBy_le need r _ (by omega)

theorem nextslicecap_le {need old : Nat} (h : old < need) : Builtin.nextslicecap need old ≤ 2 * need + 768 := by
  unfold Builtin.nextslicecap
  split
  · omega
  · split
    · omega
    · exact growBy_le need 4 old (by omega)

theorem run_firstCells {h : Heap} {a : Option Addr} {n size cap m : Nat} {xs : List Value} (hs : Src h a n xs) (hl : xs.length = n * size) (w : World) (hw : w.heap = h) :
    (Builtin.firstCells size n (.slice a m cap)).run P w = .ok ⟨xs⟩ w := by
  cases a with
  | none =>
    have h0 : n = 0 := hs
    subst h0
    have : xs = [] := by simpa using hl
    subst this
    rfl
  | some a =>
    obtain ⟨b, o, sp⟩ := a
    cases sp with
    | some s =>
      have h0 : n = 0 := hs
      subst h0
      have : xs = [] := by simpa using hl
      subst this
      simp [Builtin.firstCells, loadCells, loadCellsFrom]
    | none =>
      have := run_loadCells' (P := P) w hw hs
      rw [hl] at this
      exact this

/-- Cells written. -/
theorem run_wr {a : Option Addr} {ys : List Value} {KK : Heap → Prop} (hw : wrP w.heap KK a ys) : ∃ w', (match a with | some a => storeCells a ys | none => pure ()).run P w = .ok () w' ∧ SameB w w' ∧ KK w'.heap := by
  by_cases hy : ys = []
  · subst hy
    refine ⟨w, ?_, SameB.refl w, hw.1 rfl⟩
    cases a <;> rfl
  · have h := hw.2 hy
    split at h
    · rename_i b o
      obtain ⟨l, ⟨e, hb⟩, hfit, h1, hk⟩ := h
      obtain ⟨w', hr, hsame, hheap⟩ := run_storeCells' (P := P) b e ys 0 o l w hb (by omega) h1
      rw [Nat.add_zero] at hheap
      refine ⟨w', hr, hsame, hk _ ?_⟩
      rw [hheap]; exact put_of_set hb
    · exact h.elim

theorem gives_cpy {t u e e2 : TypeId} {size : Nat} {x y : Operand} {ty : TypeId} (hρ : Knows σ ρ) (hu : P.underlying t = some (.slice e)) (_ : P.underlying u = some (.slice e2)) (hs : szOf P e = some size)
    (h : sop P σ w.heap K Qp (.cpy size x y)) : Gives P (do pure (.value (← Builtin.copy_ #[t, u] ty #[ρ x, ρ y]))) w K := by
  simp only [sop] at h
  split at h
  · rename_i a n c a' m c' hx hy
    obtain ⟨ys, hyl, hys, hw⟩ := h
    rw [hρ x _ hx, hρ y _ hy]
    have fy := run_firstCells (P := P) (cap := c') (m := m) hys hyl w rfl
    obtain ⟨w', hr, hb, hk⟩ := run_wr (P := P) hw
    refine Gives.val (v := .int .i64 (min m n : Nat)) (w' := w') ?_ hb hk
    have hmin : Nat.min m n = min m n := rfl
    cases a with
    | none =>
      have hr' : (pure () : Sem Unit).run P w = .ok () w' := hr
      have e : w' = w := by simpa using hr'.symm
      subst e
      simp [Builtin.copy_, run_underlying' hu, Builtin.lenOf, run_sizeOf' hs, hmin, fy, goInt]
    | some a =>
      have hr' : (storeCells a ys).run P w = .ok () w' := hr
      simp [Builtin.copy_, run_underlying' hu, Builtin.lenOf, run_sizeOf' hs, hmin, fy, goInt, hr']
  · exact h.elim

theorem gives_clr {t e : TypeId} {i : TypeInfo} {z : List Value} {x : Operand} {args : Array TypeId} {ty : TypeId} (hρ : Knows σ ρ) (ha : args = #[t]) (hu : P.underlying t = some (.slice e)) (hz : zeros P e i.size = some z)
    (h : sop P σ w.heap K Qp (.clr z x)) : Gives P (do pure (.value (← Builtin.clear_ args ty #[ρ x]))) w K := by
  subst ha
  obtain ⟨zv, hzv, rfl, hzs⟩ := zeros_spec hz
  simp only [sop] at h
  split at h
  · rename_i a n c hx
    rw [hρ x _ hx]
    have hzc : (Builtin.zeroCells zv.cells n).toList = (List.replicate n zv.cells.toList).flatten := by
      have : Builtin.zeroCells zv.cells n = ⟨(List.replicate n zv.cells.toList).flatten⟩ := range_zeros _ _
      rw [this]
    obtain ⟨w', hr, hb, hk⟩ := run_wr (P := P) h
    refine Gives.val (v := .tuple #[]) (w' := w') ?_ hb hk
    cases a with
    | none =>
      have hr' : (pure () : Sem Unit).run P w = .ok () w' := hr
      have e : w' = w := by simpa using hr'.symm
      subst e
      simp [Builtin.clear_, run_underlying' hu]
    | some a =>
      have hr' : (storeCells a (List.replicate n zv.cells.toList).flatten).run P w = .ok () w' := hr
      cases n with
      | zero =>
        have e : w' = w := by simpa [storeCells] using hr'.symm
        subst e
        simp [Builtin.clear_, run_underlying' hu]
      | succ n => simp [Builtin.clear_, run_underlying' hu, run_zeroValue' hzv, hzc, hr']
  · exact h.elim

theorem gives_appz {t u e : TypeId} {ku : IntKind} {i : TypeInfo} {z : List Value} {x y : Operand} {ty : TypeId} (hρ : Knows σ ρ) (hu : P.underlying t = some (.slice e)) (hu2 : P.underlying u = some (.int ku))
    (hi : P.info? e = some i) (hby : 1 ≤ i.bytes) (hz : zeros P e i.size = some z)
    (h : sop P σ w.heap K Qp (.appz i.size i.bytes z x y)) : Gives P (do pure (.value (← Builtin.append_ #[t, u] ty #[ρ x, ρ y]))) w K := by
  obtain ⟨zv, hzv, rfl, hzs⟩ := zeros_spec hz
  have hsz : szOf P e = some i.size := by simp [szOf, hi]
  simp only [sop] at h
  split at h
  · rename_i a n c k hx hy
    obtain ⟨h0, h01, xs, hxl, hxs, hroom, hbound, hk⟩ := h
    obtain ⟨m, rfl⟩ : ∃ m : Nat, k = m := ⟨k.toNat, by omega⟩
    rw [Int.toNat_natCast] at hroom hbound hk
    rw [hρ x _ hx, hρ y _ hy]
    have fx : ∀ w' : World, w'.heap = w.heap → (Builtin.firstCells i.size n (.slice a n c)).run P w' = .ok ⟨xs⟩ w' := fun w' hw' => run_firstCells hxs hxl w' hw'
    have hneed : n + m < 9223372036854775808 := by
      have h2 : (n + m) * 2 + 768 ≤ ((n + m) * 2 + 768) * i.bytes := Nat.le_mul_of_pos_right _ hby
      omega
    have hwr : IntKind.i64.wrap (m : Int) = m := by
      have e : IntKind.i64.wrap (m : Int) = if (m : Int) % 18446744073709551616 ≥ 9223372036854775808 then (m : Int) % 18446744073709551616 - 18446744073709551616 else (m : Int) % 18446744073709551616 := by
        simp [IntKind.wrap, IntKind.bits, IntKind.signed]
      rw [e]; split <;> omega
    have hneg : ¬ ((m : Int) < 0) := by omega
    have hmb : ¬ ((m : Int) * (i.bytes : Nat) > 2 ^ 48) := by
      have h2 : m * i.bytes ≤ ((n + m) * 2 + 768) * i.bytes := Nat.mul_le_mul_right _ (by omega)
      have h3 : ((m * i.bytes : Nat) : Int) = (m : Int) * (i.bytes : Nat) := by rw [Int.natCast_mul]
      omega
    have hg2 : ¬ (Builtin.nextslicecap (n + m) c * i.bytes > 2 ^ 48) := by
      have h2 := nextslicecap_le (need := n + m) (old := c) (by omega)
      have h3 : Builtin.nextslicecap (n + m) c * i.bytes ≤ (2 * (n + m) + 768) * i.bytes := Nat.mul_le_mul_right _ h2
      have h4 : (2 * (n + m) + 768) * i.bytes = ((n + m) * 2 + 768) * i.bytes := by rw [Nat.mul_comm 2]
      omega
    obtain ⟨cap, hcap⟩ : ∃ cap, cap = (Question.appendCap (n + m) c e).cut (w.tape w.drawn (.appendCap (n + m) c e)) := ⟨_, rfl⟩
    have hcle : n + m ≤ cap := by rw [hcap]; simp [Question.cut]
    obtain ⟨w1, hw1⟩ : ∃ w1 : World, w1 = { w with drawn := w.drawn + 1 } := ⟨_, rfl⟩
    have hch : (choose (.appendCap (n + m) c e)).run P w = .ok cap w1 := by
      rw [run_choose, hcap, hw1]; simp [Question.forced]
    have hzc : ∀ q, Builtin.zeroCells zv.cells q = ⟨(List.replicate q zv.cells.toList).flatten⟩ := fun q => range_zeros _ _
    have hheap1 : w1.heap = w.heap := by rw [hw1]
    have hnr : ¬ n + m ≤ c := by omega
    have hg1 : ¬ (((n + m : Nat) : Int) > IntKind.i64.max) := by
      have : IntKind.i64.max = 9223372036854775807 := rfl
      omega
    have hap : ∀ w' : World, (if m * i.size = 0 then (pure #[] : Sem (Array Value)) else do pure (Builtin.zeroCells (← zeroValue e).cells m)).run P w' = .ok ⟨(List.replicate m zv.cells.toList).flatten⟩ w' := by
      intro w'
      by_cases h0 : m * i.size = 0
      · rw [if_pos h0]
        have : (List.replicate m zv.cells.toList).flatten = [] := by
          rcases Nat.mul_eq_zero.1 h0 with h | h
          · rw [h]; rfl
          · have : zv.cells.toList = [] := by
              apply List.eq_nil_of_length_eq_zero
              rw [Array.length_toList, hzs, h]
            rw [this]; simp
        rw [this]; rfl
      · rw [if_neg h0, Sem.run_bind, run_zeroValue' hzv]
        simp only [Result.andThen_ok, Sem.run_pure, hzc]
    refine Gives.val (v := .slice (some ⟨w.heap.size, 0, none⟩) (n + m) cap)
      (w' := { w1 with heap := w1.heap.push (.cells ⟨xs ++ (List.replicate m zv.cells.toList).flatten ++ (List.replicate (cap - (n + m)) zv.cells.toList).flatten⟩ e) }) ?_ ⟨by rw [hw1], by rw [hw1], by rw [hw1]⟩ (hk cap _ _ hcle ?_)
    · have harr : (⟨xs⟩ : Array Value) ++ ⟨(List.replicate m zv.cells.toList).flatten⟩ ++ ⟨(List.replicate (cap - (n + m)) zv.cells.toList).flatten⟩ = ⟨xs ++ (List.replicate m zv.cells.toList).flatten ++ (List.replicate (cap - (n + m)) zv.cells.toList).flatten⟩ := by
        apply Array.ext'; simp
      have hasI : ∀ w, (asInt (.int .i64 (m : Int))).run P w = .ok (m : Int) w := fun w => rfl
      simp only [Builtin.append_, List.getElem?_toArray, List.getElem?_cons_zero, List.getElem?_cons_succ, Sem.run_bind, run_underlying' hu, run_underlying' hu2, Result.andThen_ok, run_sizeOf' hsz,
        Sem.run_pure, Builtin.lenOf, run_typeInfo' hi, if_true, hasI, hwr, if_neg hneg, if_neg hmb, Int.toNat_natCast, true_or, and_true, Bool.not_true, Bool.false_eq_true, if_false, if_neg hnr, if_neg hg1, if_neg hg2, hch, run_askRoom, fx w1 hheap1, hap, run_zeroValue' hzv, hzc, harr, newRow, run_newObj]
      rw [hheap1]
    · show Grow w.heap (w1.heap.push _) w.heap.size _
      rw [hheap1]; exact grow_of_push w.heap _ e
  · exact h.elim

theorem gives_app {t u e e2 : TypeId} {i : TypeInfo} {z : List Value} {x y : Operand} {ty : TypeId} (hρ : Knows σ ρ) (hu : P.underlying t = some (.slice e)) (hu2 : P.underlying u = some (.slice e2))
    (hi : P.info? e = some i) (hby : 1 ≤ i.bytes) (hz : zeros P e i.size = some z)
    (h : sop P σ w.heap K Qp (.app i.size i.bytes z x y)) : Gives P (do pure (.value (← Builtin.append_ #[t, u] ty #[ρ x, ρ y]))) w K := by
  obtain ⟨zv, hzv, rfl, hzs⟩ := zeros_spec hz
  have hsz : szOf P e = some i.size := by simp [szOf, hi]
  simp only [sop] at h
  split at h
  · rename_i a n c a' m c' hx hy
    unfold appP at h
    obtain ⟨xs, ys, hxl, hyl, hxs, hys, h1, hin, hout⟩ := h
    unfold appIn at hin
    rw [hρ x _ hx, hρ y _ hy]
    have fx : ∀ w' : World, w'.heap = w.heap → (Builtin.firstCells i.size n (.slice a n c)).run P w' = .ok ⟨xs⟩ w' := fun w' hw' => run_firstCells hxs hxl w' hw'
    have fy : ∀ w' : World, w'.heap = w.heap → (Builtin.firstCells i.size m (.slice a' m c')).run P w' = .ok ⟨ys⟩ w' := fun w' hw' => run_firstCells hys hyl w' hw'
    by_cases hroom : n + m ≤ c
    · have h := hin hroom
      cases a with
      | none =>
        refine Gives.same (v := .slice none (n + m) c) ?_ h
        simp [Builtin.append_, run_underlying' hu, run_underlying' hu2, run_sizeOf' hsz, Builtin.lenOf, hroom, fy w rfl]
      | some a =>
        obtain ⟨b, o, sp⟩ := a
        cases sp with
        | some s => exact h.elim
        | none =>
          obtain ⟨l, ⟨eb, hb⟩, hfit, hk⟩ := h
          have hfit' : o + n * i.size + 0 + ys.length ≤ l.length := by
            rw [hyl]
            have : (n + m) * i.size = n * i.size + m * i.size := Nat.add_mul _ _ _
            omega
          obtain ⟨w', hr, hsame, hheap⟩ := run_storeCells' (P := P) b eb ys 0 (o + n * i.size) l w hb hfit' h1
          rw [Nat.add_zero] at hheap
          refine Gives.val (v := .slice (some ⟨b, o, none⟩) (n + m) c) (w' := w') ?_ hsame (hk _ ?_)
          · have hr' : (storeCells ⟨b, o + n * i.size, none⟩ ys).run P w = .ok () w' := hr
            simp [Builtin.append_, run_underlying' hu, run_underlying' hu2, run_sizeOf' hsz, Builtin.lenOf, hroom, fy w rfl, addr_add, hr']
          · rw [hheap]; exact put_of_set hb
    · obtain ⟨hbound, hk⟩ := hout (by omega)
      have hneed : n + m < 9223372036854775808 := by
        have h2 : (n + m) * 2 + 768 ≤ ((n + m) * 2 + 768) * i.bytes := Nat.le_mul_of_pos_right _ hby
        omega
      have hg1 : ¬ (((n + m : Nat) : Int) > IntKind.i64.max ∧ ((false = true) ∨ i.bytes = 0)) := by
        rintro ⟨_, h | h⟩
        · cases h
        · omega
      have hg2 : ¬ (Builtin.nextslicecap (n + m) c * i.bytes > 2 ^ 48) := by
        have h2 := nextslicecap_le (need := n + m) (old := c) (by omega)
        have h3 : Builtin.nextslicecap (n + m) c * i.bytes ≤ (2 * (n + m) + 768) * i.bytes := Nat.mul_le_mul_right _ h2
        have h4 : (2 * (n + m) + 768) * i.bytes = ((n + m) * 2 + 768) * i.bytes := by rw [Nat.mul_comm 2]
        omega
      obtain ⟨cap, hcap⟩ : ∃ cap, cap = (Question.appendCap (n + m) c e).cut (w.tape w.drawn (.appendCap (n + m) c e)) := ⟨_, rfl⟩
      have hcle : n + m ≤ cap := by rw [hcap]; simp [Question.cut]
      obtain ⟨w1, hw1⟩ : ∃ w1 : World, w1 = { w with drawn := w.drawn + 1 } := ⟨_, rfl⟩
      have hch : (choose (.appendCap (n + m) c e)).run P w = .ok cap w1 := by
        rw [run_choose, hcap, hw1]; simp [Question.forced]
      have hzc : Builtin.zeroCells zv.cells (cap - (n + m)) = ⟨(List.replicate (cap - (n + m)) zv.cells.toList).flatten⟩ := range_zeros _ _
      have hheap1 : w1.heap = w.heap := by rw [hw1]
      have hnr : ¬ n + m ≤ c := hroom
      refine Gives.val (v := .slice (some ⟨w.heap.size, 0, none⟩) (n + m) cap)
        (w' := { w1 with heap := w1.heap.push (.cells ⟨xs ++ ys ++ (List.replicate (cap - (n + m)) zv.cells.toList).flatten⟩ e) }) ?_ ⟨by rw [hw1], by rw [hw1], by rw [hw1]⟩ (hk cap _ _ hcle ?_)
      · have harr : (⟨xs⟩ : Array Value) ++ ⟨ys⟩ ++ ⟨(List.replicate (cap - (n + m)) zv.cells.toList).flatten⟩ = ⟨xs ++ ys ++ (List.replicate (cap - (n + m)) zv.cells.toList).flatten⟩ := by
          apply Array.ext'; simp
        have hg1' : ¬ (((n + m : Nat) : Int) > IntKind.i64.max ∧ i.bytes = 0) := fun h => hg1 ⟨h.1, .inr h.2⟩
        simp only [Builtin.append_, List.getElem?_toArray, List.getElem?_cons_zero, List.getElem?_cons_succ, Sem.run_bind, run_underlying' hu, run_underlying' hu2, Result.andThen_ok, run_sizeOf' hsz,
          Sem.run_pure, Builtin.lenOf, run_typeInfo' hi, Bool.false_eq_true, false_or, if_false, if_neg hnr, if_neg hg1', if_neg hg2, hch, run_askRoom, fx w1 hheap1, fy w1 hheap1, run_zeroValue' hzv, hzc, harr, newRow, run_newObj, Bool.not_false, if_true]
        rw [hheap1]
      · show Grow w.heap (w1.heap.push _) w.heap.size _
        rw [hheap1]; exact grow_of_push w.heap _ e
  · exact h.elim

theorem gives_appn {t u e e2 : TypeId} {i : TypeInfo} {z : List Value} {y : Operand} {ty : TypeId} (hρ : Knows σ ρ) (hu : P.underlying t = some (.slice e)) (hu2 : P.underlying u = some (.slice e2))
    (hi : P.info? e = some i) (hby : 1 ≤ i.bytes) (hz : zeros P e i.size = some z)
    (h : sop P σ w.heap K Qp (.appn i.size i.bytes z y)) : Gives P (do pure (.value (← Builtin.append_ #[t, u] ty #[ρ (.const (.slice none 0 0)), ρ y]))) w K := by
  refine gives_app (Qp := Qp) (x := .const (.slice none 0 0)) hρ hu hu2 hi hby hz ?_
  simp only [sop] at h ⊢
  split at h
  · rename_i a' m c' hy
    rw [hy]
    exact h
  · exact h.elim

end Go.Sx
