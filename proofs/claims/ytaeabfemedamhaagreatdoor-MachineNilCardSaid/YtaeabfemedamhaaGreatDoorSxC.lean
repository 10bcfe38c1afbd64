/-
  The simplified operations are sound, one by one: what the model does at each.
-/
import Derived.Test.YtaeabfemedamhaaGreatDoorSxB
import Derived.Laws.Cells
import Derived.Laws.CopyRow
import Derived.Laws.StructEq
import Derived.Laws.Small
namespace Go.Sx
open Go

variable {P : Program}

theorem addr_add (b o n : Nat) : (⟨b, o, none⟩ : Addr).add n = ⟨b, o + n, none⟩ := by
  unfold Addr.add
  split
  · rename_i h; subst h; rfl
  · rfl

theorem cell_eq (w : World) (b o : Nat) : w.cell? ⟨b, o, none⟩ = cell w.heap b o := by
  unfold World.cell? cell
  cases w.heap[b]? with
  | none => rfl
  | some x => cases x <;> rfl

theorem run_underlying' {t : TypeId} {d : TypeDesc} (h : P.underlying t = some d) (w : World) : (underlying t).run P w = .ok d w := run_underlying h w

theorem info_of_sz {t : TypeId} {n : Nat} (h : szOf P t = some n) : ∃ i, P.info? t = some i ∧ i.size = n := by
  unfold szOf at h
  cases hi : P.info? t with
  | none => simp [hi] at h
  | some i => simp [hi] at h; exact ⟨i, rfl, h⟩

theorem run_typeInfo' {t : TypeId} {i : TypeInfo} (h : P.info? t = some i) (w : World) : (typeInfo t).run P w = .ok i w := by
  simp [typeInfo, h]

theorem run_sizeOf' {t : TypeId} {n : Nat} (h : szOf P t = some n) (w : World) : (sizeOf t).run P w = .ok n w := by
  obtain ⟨i, hi, hn⟩ := info_of_sz h
  simp [sizeOf, run_typeInfo' hi, hn]

theorem run_zeroValue' {t : TypeId} {z : Value} (h : zeroOf P t = some z) (w : World) : (zeroValue t).run P w = .ok z w := by
  unfold zeroOf at h
  cases hi : P.info? t with
  | none => simp [hi] at h
  | some i =>
    simp [hi] at h
    simp [zeroValue, run_typeInfo' hi, h]

theorem run_isAgg' {t : TypeId} {g : Bool} (h : aggOf P t = some g) (w : World) : (isAgg t).run P w = .ok g w := by
  unfold aggOf at h
  cases hu : P.underlying t with
  | none => simp [hu] at h
  | some d =>
    simp only [hu] at h
    simp only [isAgg, Sem.run_bind, run_underlying' hu, Result.andThen_ok]
    cases d <;> simp at h <;> subst h <;> simp

theorem kdOf_under {t : TypeId} {k : Kd} (h : kdOf P t = some k) :
    P.underlying t = some k.type := by
  unfold kdOf at h
  split at h <;> simp at h <;> subst h <;> assumption

theorem run_fieldAt {t : TypeId} {fs : Array Field} {f : Nat} {fl : Field} {n : Nat} (hu : P.underlying t = some (.struct fs)) (hf : fs[f]? = some fl)
    (hs : szOf P fl.type = some (n + 1)) (b o : Nat) (w : World) :
    (Instr.fieldAt t (.pointer (some ⟨b, o, none⟩)) f).run P w = .ok (.pointer (some ⟨b, o + fl.offset, none⟩)) w := by
  simp [Instr.fieldAt, run_underlying' hu, hf, Instr.sureAddr, fieldPlace, run_sizeOf' hs, addr_add]

theorem run_load_cell {h : Heap} {b o : Nat} {v : Value} (w : World) (hw : w.heap = h) (hc : cell h b o = some v) : (load ⟨b, o, none⟩).run P w = .ok v w := by
  rw [run_load, cell_eq, hw, hc]

theorem run_loadCells' {h : Heap} {b o : Nat} {vs : List Value} (w : World) (hw : w.heap = h) (hc : Cells h b o vs) : (loadCells ⟨b, o, none⟩ vs.length).run P w = .ok ⟨vs⟩ w :=
  run_loadCells_list w ⟨b, o, none⟩ vs fun j v hj => by rw [addr_add, cell_eq, hw]; exact hc j v hj

theorem run_loadAt1 {t : TypeId} {h : Heap} {b o : Nat} {v : Value} (hg : aggOf P t = some false) (w : World) (hw : w.heap = h) (hc : cell h b o = some v) :
    (Instr.loadAt t (.pointer (some ⟨b, o, none⟩))).run P w = .ok v w := by
  have hl := run_load_cell (P := P) w hw hc
  simp [Instr.loadAt, Instr.sureAddr, loadVar, run_isAgg' hg, hl, -run_load]

theorem run_loadAtN {t : TypeId} {h : Heap} {b o n : Nat} {vs : List Value} (hg : aggOf P t = some true) (hs : szOf P t = some n) (hn : vs.length = n) (w : World) (hw : w.heap = h) (hc : Cells h b o vs) :
    (Instr.loadAt t (.pointer (some ⟨b, o, none⟩))).run P w = .ok (.agg ⟨vs⟩) w := by
  subst hn
  simp [Instr.loadAt, Instr.sureAddr, loadVar, run_isAgg' hg, run_sizeOf' hs, run_loadCells' w hw hc]

/-- The rest of a world, but for the count of draws. -/
def SameB (w w' : World) : Prop := w'.os = w.os ∧ w'.output = w.output ∧ w'.tape = w.tape
theorem SameB.refl (w : World) : SameB w w := ⟨rfl, rfl, rfl⟩
theorem SameB.trans {a b c : World} (h : SameB a b) (k : SameB b c) : SameB a c := ⟨k.1.trans h.1, k.2.1.trans h.2.1, k.2.2.trans h.2.2⟩

theorem splice_nil (l : List Value) (o : Nat) : splice l o [] = l := by cases l <;> rfl
theorem splice_size : ∀ (l : List Value) (o : Nat) (vs : List Value), (splice l o vs).length = l.length
  | l, o, [] => by cases l <;> rfl
  | [], _, _ :: _ => rfl
  | x :: l, 0, v :: vs => by simp [splice, splice_size l 0 vs]
  | x :: l, o + 1, v :: vs => by simp [splice, splice_size l o (v :: vs)]

theorem splice_get : ∀ (l : List Value) (o : Nat) (vs : List Value), o + vs.length ≤ l.length → ∀ j : Nat, (splice l o vs)[j]? = if o ≤ j ∧ j < o + vs.length then vs[j - o]? else l[j]?
  | l, o, [], _, j => by
    rw [splice_nil, if_neg (by simp)]
  | [], o, v :: vs, h, j => by simp at h
  | x :: l, 0, v :: vs, h, j => by
    have ih := splice_get l 0 vs (by simp at h ⊢; omega)
    cases j with
    | zero => simp [splice]
    | succ j =>
      simp only [splice, List.getElem?_cons_succ, ih j]
      simp only [Nat.zero_le, true_and, List.length_cons, Nat.zero_add, Nat.sub_zero, List.getElem?_cons_succ]
      by_cases hj : j < vs.length
      · rw [if_pos hj, if_pos (by omega)]
      · rw [if_neg hj, if_neg (by omega)]
  | x :: l, o + 1, v :: vs, h, j => by
    have ih := splice_get l o (v :: vs) (by simp at h ⊢; omega)
    cases j with
    | zero => simp [splice]
    | succ j =>
      simp only [splice, List.getElem?_cons_succ, ih j]
      have e : j + 1 - (o + 1) = j - o := by omega
      rw [e]
      by_cases hj : o ≤ j ∧ j < o + (v :: vs).length
      · rw [if_pos hj, if_pos (by omega)]
      · rw [if_neg hj, if_neg (by omega)]

theorem setIfInBounds_list (l : List Value) (o : Nat) (v : Value) : (⟨l⟩ : Array Value).setIfInBounds o v = ⟨l.set o v⟩ := by
  apply Array.ext'
  simp

theorem splice_cons (l : List Value) (o : Nat) (v : Value) (vs : List Value) (h : o < l.length) : splice l o (v :: vs) = splice (l.set o v) (o + 1) vs := by
  induction l generalizing o with
  | nil => simp at h
  | cons x l ih =>
    cases o with
    | zero =>
      cases vs with
      | nil => cases l <;> rfl
      | cons u us => simp [splice]
    | succ o =>
      simp only [splice, List.set_cons_succ]
      have := ih o (by simpa using h)
      rw [this]
      cases vs with
      | nil => rw [splice_nil, splice_nil]
      | cons u us => rfl

theorem run_storeCells' (b : Nat) (e : TypeId) : ∀ (vs : List Value) (i o : Nat) (l : List Value) (w : World), w.heap[b]? = some (.cells ⟨l⟩ e (0, 0)) → o + i + vs.length ≤ l.length → (∀ v ∈ vs, v.oneCell' = true) →
    ∃ w', (storeCells ⟨b, o, none⟩ vs i).run P w = .ok () w' ∧ SameB w w' ∧ w'.heap = w.heap.setIfInBounds b (.cells ⟨splice l (o + i) vs⟩ e (0, 0))
  | [], i, o, l, w, hb, _, _ => by
    refine ⟨w, by simp [storeCells], SameB.refl w, ?_⟩
    have hs : splice l (o + i) [] = l := by cases l <;> rfl
    rw [hs]
    apply Array.ext_getElem?
    intro k
    rw [Array.getElem?_setIfInBounds]
    split
    · rename_i h; subst h
      have hlt := (Array.getElem?_eq_some_iff.1 hb).1
      rw [if_pos hlt, hb]
    · rfl
  | v :: vs, i, o, l, w, hb, hl, h1 => by
    simp only [List.length_cons] at hl
    have hc : w.cell? ⟨b, o + i, none⟩ = some l[o + i] := by
      rw [cell_eq]; unfold cell; rw [hb]; simp
    have hf : w.frozen? ⟨b, o + i, none⟩ = false := by
      unfold World.frozen?; simp [hb]
    have hlt := (Array.getElem?_eq_some_iff.1 hb).1
    have hset : (w.setCell ⟨b, o + i, none⟩ v).heap = w.heap.setIfInBounds b (.cells ⟨l.set (o + i) v⟩ e (0, 0)) := by
      unfold World.setCell
      apply Array.ext_getElem?
      intro k
      simp only [Array.getElem?_modify, Array.getElem?_setIfInBounds]
      by_cases hk : b = k
      · subst hk
        have := (Array.getElem?_eq_some_iff.1 hb).2
        simp [hlt, this]
      · simp [hk]
    have hb' : (w.setCell ⟨b, o + i, none⟩ v).heap[b]? = some (.cells ⟨l.set (o + i) v⟩ e (0, 0)) := by
      rw [hset]; simp [hlt]
    obtain ⟨w', hr, hsame, hheap⟩ := run_storeCells' b e vs (i + 1) o (l.set (o + i) v) (w.setCell ⟨b, o + i, none⟩ v) hb' (by simp; omega) (fun x hx => h1 x (by simp [hx]))
    refine ⟨w', ?_, ⟨hsame.1, hsame.2.1, hsame.2.2⟩, ?_⟩
    · have hv := h1 v (by simp)
      simp only [storeCells, Sem.run_bind, addr_add, run_store P w _ v .plain hv, hc, hf, Bool.false_eq_true, if_false, Result.andThen_ok]
      exact hr
    · rw [hheap, hset, splice_cons l (o + i) v vs (by omega)]
      apply Array.ext_getElem?
      intro k
      simp only [Array.getElem?_setIfInBounds, Array.size_setIfInBounds]
      split <;> simp_all [Nat.add_assoc]

theorem put_of_set {h : Heap} {b : Nat} {l : List Value} {e : TypeId} {c : Array Value} {k : Nat × Nat} (hb : h[b]? = some (.cells c e k)) : Put h (h.setIfInBounds b (.cells ⟨l⟩ e (0, 0))) b l := by
  have hlt := (Array.getElem?_eq_some_iff.1 hb).1
  refine ⟨⟨e, by simp [hlt]⟩, by simp, fun k hk => ?_, fun t ⟨c', k', ht⟩ => ?_⟩
  · rw [Array.getElem?_setIfInBounds, if_neg (fun h => hk h.symm)]
  · rw [hb] at ht
    simp at ht
    obtain ⟨_, rfl, _⟩ := ht
    exact ⟨_, _, by simp [hlt]; exact ⟨rfl, rfl⟩⟩

theorem putO_of_set {h : Heap} {b : Nat} {o x : Obj} (hb : h[b]? = some x) : PutO h (h.setIfInBounds b o) b o := by
  have hlt := (Array.getElem?_eq_some_iff.1 hb).1
  refine ⟨by simp [hlt], by simp, fun k hk => ?_⟩
  rw [Array.getElem?_setIfInBounds, if_neg (fun h => hk h.symm)]

theorem grow_of_push (h : Heap) (l : List Value) (e : TypeId) : Grow h (h.push (.cells ⟨l⟩ e (0, 0))) h.size l :=
  ⟨rfl, ⟨e, by simp⟩, by simp, fun k hk => by rw [Array.getElem?_push, if_neg (by omega)]⟩

theorem growO_of_push (h : Heap) (o : Obj) : GrowO h (h.push o) h.size o :=
  ⟨rfl, by simp, by simp, fun k hk => by rw [Array.getElem?_push, if_neg (by omega)]⟩

/-- What an operation gives: a value (or none: undef), a world. -/
def Gives (P : Program) (s : Sem Next) (w : World) (K : Value → Heap → Prop) : Prop :=
  ∃ v w', (s.run P w = .ok (.value v) w' ∨ (s.run P w = .ok .skip w' ∧ v = undef)) ∧ SameB w w' ∧ K v w'.heap

theorem Gives.val {s : Sem Value} {w w' : World} {K : Value → Heap → Prop} {v : Value} (hr : s.run P w = .ok v w') (hb : SameB w w') (hk : K v w'.heap) :
    Gives P (do pure (.value (← s))) w K :=
  ⟨v, w', .inl (by simp [hr]), hb, hk⟩

theorem Gives.same {s : Sem Value} {w : World} {K : Value → Heap → Prop} {v : Value} (hr : s.run P w = .ok v w) (hk : K v w.heap) :
    Gives P (do pure (.value (← s))) w K := Gives.val hr (SameB.refl w) hk

end Go.Sx
