/-
  The lift, more: slices within slices.
-/
import Derived.Test.YtomcocbcajidcaaGreatDoorSxU
import Derived.Deep.DeepHandedRow
namespace Go.Sx
open Go Go.ChangeShapes Go.WideShapes Go.ChangeAt Go.RowKit

section
variable {H : Type} {enc : TypeId × Value → H} {P : Program}

/-- A cell that is a slice, opened: the list that it reads as. (The items may be of the slice's own kind.) -/
theorem open_cellR {α : Type} {en : α → List Value} {Good : α → Prop} {t e : TypeId} {k : Nat} {W : World} {base : Nat} {sp : Nat → Bool} {held : Bool} (ht : P.underlying t = some (.slice e)) (hk : P.cellsOf e = k) (hpos : 0 < k) (hsz : ∀ a, (en a).length = k)
    {n : Nat} (hel : ∀ n', n' < n → ∀ cs x, DataW.trod enc P W base sp held n' e cs = some x → Wts P e x.1 → ∃ a, cs = en a ∧ Good a)
    {v : Value} {x : DataW H × List MemPlace} (h : DataW.trod enc P W base sp held n t [v] = some x) (hw : Wts P t x.1) :
    ∃ l : List α, SL en W.heap v l ∧ (∀ a ∈ l, Good a) ∧ l.length * P.bytesOf e ≤ reachBytes := by
  rcases DataW.trod_slice ht h with ⟨hcs, _⟩ | ⟨a, len, cap, elems, rest, n', hfu, hcs, hx, _, hlc, _, hlen, hels, _, _⟩
  · have hv : v = .slice none 0 0 := by simpa using hcs
    subst hv
    exact ⟨[], SL.nil, by simp, by simp⟩
  · have hv : v = .slice (some a) len cap := by simpa using hcs
    subst hv
    obtain ⟨b, o, s⟩ := a
    cases s with
    | some q =>
      have h0 : len = 0 := by
        rcases Nat.eq_zero_or_pos len with h | h
        · exact h
        · exfalso
          have h1 := hels 0 h
          have hi' : 0 < elems.length := by omega
          rw [List.getElem?_eq_getElem hi'] at h1
          obtain ⟨cs, hcs', _⟩ := Option.bind_eq_some_iff.1 h1
          obtain ⟨_, hlcs, hcell⟩ := World.cells?_some hcs'
          have := hcell 0 (by rw [hk]; exact hpos)
          rw [List.getElem?_eq_getElem (by omega)] at this
          simp only [Nat.zero_mul, Addr.add, if_true] at this
          unfold World.cell? at this
          split at this <;> simp at this
      subst h0
      exact ⟨[], ⟨_, cap, rfl, Nat.zero_le _, rfl⟩, by simp, by simp⟩
    | none =>
      have hwd : ∀ i (hi : i < elems.length), Wts P e (elems[i]).1 := by
        intro i hi m hm
        have hd : x.1 = .slice (elems.map (·.1)) (rest.map (·.1)) := congrArg Prod.fst hx
        refine hw m ?_
        rw [hd]
        simp only [DataW.weights, ht, List.mem_cons, List.mem_append]
        exact .inr (.inl (weightsAll_mem' (d := (elems[i]).1) (List.mem_map.2 ⟨_, List.getElem_mem hi, rfl⟩) m hm))
      obtain ⟨l, hl, hp⟩ := exists_list (p := fun i (a : α) => (∀ j v, (en a)[j]? = some v → cell W.heap b (o + i * k + j) = some v) ∧ Good a) len (by
        intro i hi
        have h1 := hels i hi
        have hi' : i < elems.length := by omega
        rw [List.getElem?_eq_getElem hi'] at h1
        obtain ⟨cs, hcs', htr⟩ := Option.bind_eq_some_iff.1 h1
        obtain ⟨_, hlcs, hcell⟩ := World.cells?_some hcs'
        have hc2 : ∀ j, j < k → cell W.heap b (o + i * k + j) = cs[j]? := by
          intro j hjk
          have := hcell j (by rw [hk]; exact hjk)
          have e1 : (Addr.add ⟨b, o, none⟩ (i * P.cellsOf e)).add j = ⟨b, o + i * k + j, none⟩ := by
            rw [hk]; unfold Addr.add; split <;> split <;> simp_all
          rw [e1, world_cell] at this
          exact this
        obtain ⟨x, hx1, hx2⟩ := hel n' (by omega) _ _ htr (hwd i hi')
        subst hx1
        refine ⟨x, fun j v hj => ?_, hx2⟩
        have hjk : j < k := by have := (List.getElem?_eq_some_iff.1 hj).1; rw [hsz] at this; exact this
        rw [hc2 j hjk, hj])
      subst hl
      refine ⟨l, ⟨_, cap, rfl, hlc, ?_⟩, fun a ha => ?_, ?_⟩
      · intro q v hq
        have hq1 := (List.getElem?_eq_some_iff.1 hq).1
        rw [flatMap_len hsz] at hq1
        have hik : q / k < l.length := Nat.div_lt_of_lt_mul (by rw [Nat.mul_comm]; exact hq1)
        have hli : l[q / k]? = some l[q / k] := List.getElem?_eq_getElem hik
        have hjk : q % k < (en l[q / k]).length := by rw [hsz]; exact Nat.mod_lt _ hpos
        have hej := List.getElem?_eq_getElem hjk
        have h2 := flatMap_get hsz l (q / k) _ hli (q % k) _ hej
        have hq2 : q / k * k + q % k = q := by rw [Nat.mul_comm]; exact Nat.div_add_mod q k
        rw [hq2, hq] at h2
        cases h2
        have := (hp _ _ hli).1 _ _ hej
        rw [Nat.add_assoc, hq2] at this
        exact this
      · obtain ⟨i, hi⟩ := List.getElem?_of_mem ha
        exact (hp i a hi).2
      · have hd : x.1 = .slice (elems.map (·.1)) (rest.map (·.1)) := congrArg Prod.fst hx
        have := hw ((elems.map (·.1)).length + (rest.map (·.1)).length |> (· * P.bytesOf e)) (by rw [hd]; simp [DataW.weights, ht])
        simp only [List.length_map] at this
        refine Nat.le_trans (Nat.mul_le_mul_right _ ?_) this
        omega

theorem open_cell {α : Type} {en : α → List Value} {Good : α → Prop} {t e : TypeId} {k : Nat} {W : World} {base : Nat} {sp : Nat → Bool} {held : Bool} (ht : P.underlying t = some (.slice e)) (hk : P.cellsOf e = k) (hpos : 0 < k) (hsz : ∀ a, (en a).length = k)
    (hel : ∀ n cs x, DataW.trod enc P W base sp held n e cs = some x → Wts P e x.1 → ∃ a, cs = en a ∧ Good a)
    {n : Nat} {v : Value} {x : DataW H × List MemPlace} (h : DataW.trod enc P W base sp held n t [v] = some x) (hw : Wts P t x.1) :
    ∃ l : List α, SL en W.heap v l ∧ (∀ a ∈ l, Good a) ∧ l.length * P.bytesOf e ≤ reachBytes :=
  open_cellR ht hk hpos hsz (fun n' _ cs x => hel n' cs x) h hw

/-- An argument that is a slice. -/
theorem cell_arg {t e : TypeId} {W : World} {base b0 : Nat} {r : Reach} {sp : Nat → Bool} {held : Bool} {v : Value} {d : DataW H} {ps : List MemPlace} (ht : P.underlying t = some (.slice e)) (hval : Value.okWide P W r b0 t v) (h : DataW.Trod enc P W base sp held t v d ps) :
    ∃ n, DataW.trod enc P W base sp held n t [v] = some (d, ps) := by
  have hv : Cell.okWide P W r b0 t v := by
    simp only [Value.okWide, ht] at hval; exact hval
  obtain ⟨n, h⟩ := h
  refine ⟨n, ?_⟩
  have : v.cells.toList = [v] := by
    simp only [Cell.okWide, Cell.ok, ht] at hv
    split at hv <;> simp_all [Value.cells]
  rw [← this]; exact h
end
end Go.Sx
