/-
  The simplified operations are sound, one by one, in whatever frame that knows the operands.
-/
import Derived.Test.YtaeabfemedamhaaGreatDoorSxC
import Derived.Laws.MakeOwn
import Derived.Laws.AppendOwn
namespace Go.Sx
open Go

variable {P : Program} {σ : Env} {ρ : Operand → Value} {w : World} {K : Value → Heap → Prop} {Qp : List PanicEntry → Heap → Prop}

/-- The frame knows what σ knows. -/
def Knows (σ : Env) (ρ : Operand → Value) : Prop := ∀ x v, ev σ x = some v → ρ x = v

theorem Knows.list (hρ : Knows σ ρ) : ∀ (xs : List Operand) (vs : List Value), evs σ xs = some vs → xs.map ρ = vs
  | [], vs, h => by simp [evs] at h; simp [h]
  | x :: xs, vs, h => by
    simp only [evs] at h
    split at h
    · rename_i v us hv hus
      simp at h; subst h
      simp [hρ x v hv, Knows.list hρ xs us hus]
    · simp at h

theorem gives_mv {x : Operand} (hρ : Knows σ ρ) (h : sop P σ w.heap K Qp (.mv x)) : Gives P (pure (.value (ρ x))) w K := by
  simp only [sop] at h
  split at h
  · rename_i v hv
    exact ⟨v, w, .inl (by simp [hρ x v hv]), SameB.refl w, h⟩
  · exact h.elim

theorem gives_pick {c a b : Operand} (hρ : Knows σ ρ) (h : sop P σ w.heap K Qp (.pick c a b)) :
    Gives P (do pure (.value (if ← asBool (ρ c) then ρ a else ρ b))) w K := by
  simp only [sop] at h
  split at h
  · rename_i t x y hc ha hb
    refine ⟨_, w, .inl ?_, SameB.refl w, h⟩
    simp only [hρ c _ hc, hρ a _ ha, hρ b _ hb, asBool]
    cases t <;> simp
  · exact h.elim

theorem gives_new {t : TypeId} {z : Value} (hz : zeroOf P t = some z) (h : sop P σ w.heap K Qp (.new z.cells.toList)) :
    Gives P (do pure (.value (← Instr.alloc t true (.tuple #[])))) w K := by
  simp only [sop] at h
  refine Gives.val (v := .pointer (some ⟨w.heap.size, 0, none⟩)) (w' := { w with heap := w.heap.push (.cells z.cells t) }) ?_ ⟨rfl, rfl, rfl⟩ (h _ _ (grow_of_push w.heap z.cells.toList t))
  simp [Instr.alloc, run_zeroValue' hz, newVar, newRow]

theorem gives_box {t : TypeId} {x : Operand} (hρ : Knows σ ρ) (h : sop P σ w.heap K Qp (.box x)) :
    Gives P (do pure (.value (← Instr.box t (ρ x)))) w K := by
  simp only [sop] at h
  split at h
  · rename_i v hv
    rw [hρ x v hv]
    refine Gives.val (v := .pointer (some ⟨w.heap.size, 0, none⟩)) (w' := { w with heap := w.heap.push (.cells v.cells t) }) ?_ ⟨rfl, rfl, rfl⟩ (h _ _ (grow_of_push w.heap v.cells.toList t))
    simp [Instr.box, newVar, newRow]
  · exact h.elim

theorem foldl_splice (off : Nat) : ∀ (vs : List Value) (j : Nat) (z : List Value), off + j + vs.length ≤ z.length →
    (vs.zipIdx j).foldl (fun (cs : Array Value) (x : Value × Nat) => cs.setIfInBounds (off + x.2) x.1) ⟨z⟩ = ⟨splice z (off + j) vs⟩
  | [], j, z, _ => by simp [splice_nil]
  | v :: vs, j, z, h => by
    simp only [List.length_cons] at h
    simp only [List.zipIdx_cons, List.foldl_cons, setIfInBounds_list]
    rw [foldl_splice off vs (j + 1) (z.set (off + j) v) (by simp; omega), splice_cons z (off + j) v vs (by omega)]
    rfl

theorem fill_eq {place : Nat → Option (Nat × Nat)} (hρ : Knows σ ρ) : ∀ (parts : List (Nat × Operand)) (ps : List (Nat × Nat)) (vs z l : List Value),
    parts.map (fun p => place p.1) = ps.map some → evs σ (parts.map (·.2)) = some vs → fillL z ps vs = some l →
    Instr.fill place ⟨z⟩ (parts.map fun p => (p.1, ρ p.2)) = some ⟨l⟩
  | [], ps, vs, z, l, hp, hv, hf => by
    have h1 : ps = [] := by cases ps <;> simp at hp ⊢
    simp [evs] at hv
    subst h1; subst hv
    simp [fillL] at hf
    simp [Instr.fill, hf]
  | (i, x) :: parts, ps, vs, z, l, hp, hv, hf => by
    cases ps with
    | nil => simp at hp
    | cons p ps =>
      obtain ⟨off, n⟩ := p
      simp only [List.map_cons, List.cons.injEq] at hp
      simp only [List.map_cons, evs] at hv
      split at hv
      · rename_i v us hx hus
        simp at hv; subst hv
        simp only [fillL] at hf
        split at hf
        · rename_i hc
          obtain ⟨hc1, hc2⟩ := hc
          have ih := fill_eq hρ parts ps us _ l hp.2 hus hf
          simp only [List.map_cons, Instr.fill, hp.1, hρ x v hx]
          have hs : v.cells.size = n := by rw [← hc1]; simp
          have hz : (⟨z⟩ : Array Value).size = z.length := rfl
          rw [if_neg (by rw [hz]; simp [hs]; omega)]
          have := foldl_splice off v.cells.toList 0 z (by rw [hc1]; omega)
          rw [Nat.add_zero] at this
          have e2 : v.cells.zipIdx.foldl (fun (cs : Array Value) (x : Value × Nat) => cs.setIfInBounds (off + x.2) x.1) ⟨z⟩ = ⟨splice z off v.cells.toList⟩ := by
            rw [← this, ← Array.foldl_toList, Array.toList_zipIdx]
          exact (congrArg (fun c => Instr.fill place c _) e2).trans ih
        · simp at hf
      · simp at hv

theorem placesOf_map (qs : List (Nat × Nat)) : ∀ (parts : List (Nat × Operand)) (ps : List (Nat × Nat)), placesOf qs parts = some ps →
    parts.map (fun p => qs[p.1]?) = ps.map some
  | [], ps, h => by simp [placesOf] at h; subst h; rfl
  | (i, x) :: parts, ps, h => by
    simp only [placesOf] at h
    split at h
    · rename_i p ps' hp hps
      simp at h; subst h
      simp [hp, placesOf_map qs parts ps' hps]
    · simp at h

theorem run_listMapM_places : ∀ (fs : List Field) (qs : List (Nat × Nat)), fieldPl P fs = some qs → ∀ w : World,
    (fs.mapM fun f => (do pure (f.offset, ← sizeOf f.type) : Sem (Nat × Nat))).run P w = .ok qs w
  | [], qs, h, w => by simp [fieldPl] at h; subst h; simp
  | f :: fs, qs, h, w => by
    simp only [fieldPl] at h
    split at h
    · rename_i n ps hn hps
      simp at h; subst h
      have ih := run_listMapM_places fs ps hps w
      simp only [List.mapM_cons, Sem.run_bind, run_sizeOf' hn, Result.andThen_ok, Sem.run_pure]
      rw [ih]; rfl
    · simp at h

theorem run_arrMapM_places (fs : Array Field) (qs : List (Nat × Nat)) (h : fieldPl P fs.toList = some qs) (w : World) :
    (fs.mapM fun f => (do pure (f.offset, ← sizeOf f.type) : Sem (Nat × Nat))).run P w = .ok ⟨qs⟩ w := by
  have e := Array.mapM_eq_mapM_toList (m := Sem) (f := fun f : Field => (do pure (f.offset, ← sizeOf f.type) : Sem (Nat × Nat))) (xs := fs)
  rw [e, Sem.run_map, run_listMapM_places fs.toList qs h w]
  rfl

theorem map_pair (parts : Array (Nat × Operand)) : (parts.map fun (x : Nat × Operand) => (x.1, ρ x.2)).toList = parts.toList.map fun p => (p.1, ρ p.2) := by simp

theorem gives_build_struct {t : TypeId} {z : Value} {fs : Array Field} {qs ps : List (Nat × Nat)} {parts : Array (Nat × Operand)} (hρ : Knows σ ρ) (hz : zeroOf P t = some z)
    (hu : P.underlying t = some (.struct fs)) (hq : fieldPl P fs.toList = some qs) (hp : placesOf qs parts.toList = some ps)
    (h : sop P σ w.heap K Qp (.build z.cells.toList ps (parts.toList.map (·.2)))) :
    Gives P (do pure (.value (← Instr.build t (parts.map fun (i, x) => (i, ρ x))))) w K := by
  simp only [sop] at h
  split at h
  · rename_i vs hvs
    split at h
    · rename_i l hl
      have hf := fill_eq (place := fun i : Nat => qs[i]?) hρ parts.toList ps vs z.cells.toList l (placesOf_map qs _ _ hp) hvs hl
      refine Gives.same (v := .agg ⟨l⟩) ?_ h
      have hq' := run_arrMapM_places fs qs hq w
      have hm : (parts.map fun (i, x) => (i, ρ x)).toList = parts.toList.map fun p => (p.1, ρ p.2) := by simp
      simp only [Instr.build, Sem.run_bind, run_zeroValue' hz, Result.andThen_ok, run_underlying' hu, hq', hm]
      have hg : (fun i => (⟨qs⟩ : Array (Nat × Nat))[i]?) = fun i : Nat => qs[i]? := by funext i; simp
      rw [hg]
      have hf' : Instr.fill (fun i : Nat => qs[i]?) z.cells (parts.toList.map fun p => (p.1, ρ p.2)) = some ⟨l⟩ := hf
      rw [hf']
      rfl
    · exact h.elim
  · exact h.elim

theorem placesArr_map (size : Nat) : ∀ (parts : List (Nat × Operand)), parts.map (fun p => some (p.1 * size, size)) = (placesArr size parts).map some
  | [] => rfl
  | (i, x) :: parts => by simp [placesArr, placesArr_map size parts]

theorem gives_build_array {t e : TypeId} {z : Value} {n size : Nat} {parts : Array (Nat × Operand)} (hρ : Knows σ ρ) (hz : zeroOf P t = some z)
    (hu : P.underlying t = some (.array n e)) (hs : szOf P e = some size)
    (h : sop P σ w.heap K Qp (.build z.cells.toList (placesArr size parts.toList) (parts.toList.map (·.2)))) :
    Gives P (do pure (.value (← Instr.build t (parts.map fun (i, x) => (i, ρ x))))) w K := by
  simp only [sop] at h
  split at h
  · rename_i vs hvs
    split at h
    · rename_i l hl
      have hf := fill_eq (place := fun i => some (i * size, size)) hρ parts.toList _ vs z.cells.toList l (placesArr_map size _) hvs hl
      refine Gives.same (v := .agg ⟨l⟩) ?_ h
      have hm : (parts.map fun (i, x) => (i, ρ x)).toList = parts.toList.map fun p => (p.1, ρ p.2) := by simp
      simp only [Instr.build, Sem.run_bind, run_zeroValue' hz, Result.andThen_ok, run_underlying' hu, run_sizeOf' hs, hm]
      have hf' : Instr.fill (fun i => some (i * size, size)) z.cells (parts.toList.map fun p => (p.1, ρ p.2)) = some ⟨l⟩ := hf
      rw [hf']
      rfl
    · exact h.elim
  · exact h.elim

/-- n times the cells of a zero value. -/
theorem range_zeros (z : Array Value) (n : Nat) : ((Array.range (n * z.size)).map (fun i => z[i % z.size]!)) = ⟨(List.replicate n z.toList).flatten⟩ := by
  apply Array.ext'
  simp only [Array.toList_map, Array.toList_range]
  induction n with
  | zero => simp
  | succ n ih =>
    rw [Nat.succ_mul, List.range_add, List.map_append, ih, List.replicate_succ', List.flatten_append]
    congr 1
    simp only [List.map_map, List.flatten_cons, List.flatten_nil, List.append_nil]
    apply List.ext_getElem?
    intro i
    simp only [List.getElem?_map, Array.getElem?_toList]
    by_cases hi : i < z.size
    · simp [hi, Nat.add_mod, Nat.mod_eq_of_lt hi]
    · simp [hi]

theorem zeros_spec {e : TypeId} {size : Nat} {z : List Value} (h : zeros P e size = some z) : ∃ v, zeroOf P e = some v ∧ v.cells.toList = z ∧ v.cells.size = size := by
  unfold zeros at h
  split at h
  · rename_i v hv
    split at h
    · rename_i hs
      simp at h
      exact ⟨v, hv, h, by simpa using hs⟩
    · simp at h
  · simp at h

theorem gives_bslice {t e : TypeId} {n size : Nat} {z : List Value} {parts : Array (Nat × Operand)} (hρ : Knows σ ρ)
    (hu : P.underlying t = some (.slice e)) (hs : szOf P e = some size) (hn : n * size ≤ 65536) (hz : zeros P e size = some z)
    (h : sop P σ w.heap K Qp (.bslice ((List.replicate n z).flatten) n (placesArr size parts.toList) (parts.toList.map (·.2)))) :
    Gives P (do pure (.value (← Instr.buildSlice t n (parts.map fun (i, x) => (i, ρ x))))) w K := by
  obtain ⟨zv, hzv, rfl, hzs⟩ := zeros_spec hz
  simp only [sop] at h
  split at h
  · rename_i vs hvs
    split at h
    · rename_i l hl
      have hf := fill_eq (place := fun i => some (i * size, size)) hρ parts.toList _ vs _ l (placesArr_map size _) hvs hl
      refine Gives.val (v := .slice (some ⟨w.heap.size, 0, none⟩) n n) (w' := { w with heap := w.heap.push (.cells ⟨l⟩ e) }) ?_ ⟨rfl, rfl, rfl⟩ (h _ _ (grow_of_push w.heap l e))
      have hm : (parts.map fun (i, x) => (i, ρ x)).toList = parts.toList.map fun p => (p.1, ρ p.2) := by simp
      have hle : ¬ n * size > 2 ^ 24 := by omega
      have hr := range_zeros zv.cells n
      rw [hzs] at hr
      by_cases h0 : n * size = 0
      · have hz0 : (List.replicate n zv.cells.toList).flatten = [] := by
          have q : (⟨(List.replicate n zv.cells.toList).flatten⟩ : Array Value) = #[] := by
            rw [← hr, h0, Array.range_zero']; simp
          exact congrArg Array.toList q
        rw [hz0] at hf
        have hf' : Instr.fill (fun i => some (i * size, size)) #[] (parts.toList.map fun p => (p.1, ρ p.2)) = some ⟨l⟩ := hf
        simp [Instr.buildSlice, run_underlying' hu, run_sizeOf' hs, h0, hf', newRow, Array.range_zero']
      · simp only [Instr.buildSlice, Sem.run_bind, run_underlying' hu, Result.andThen_ok, run_sizeOf' hs, hle, if_false, h0, run_zeroValue' hzv, Sem.run_pure, hm, hzs]
        simp only [hr, hf]
        rfl
    · exact h.elim
  · exact h.elim

end Go.Sx
