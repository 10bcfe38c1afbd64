/-
  From a function's contract to its row: arguments opened, the post shut.
-/
import Derived.Test.YtaeabfemedamhaaGreatDoorSxS
import Derived.OpenShut
import Derived.Carry
import Derived.SizedLaws
import Derived.WideKeyArgs
import Derived.Lib.LaidTab
namespace Go.Sx
open Go Go.ChangeShapes

section
variable {H : Type} {enc : TypeId × Value → H} {P : Program}

theorem world_cell {W : World} (b o : Nat) : W.cell? ⟨b, o, none⟩ = cell W.heap b o := by
  unfold World.cell? cell
  cases W.heap[b]? with
  | none => rfl
  | some x => cases x <;> rfl

theorem sameAt_of {W W' : World} (h : ∀ k, k < W.heap.size → W'.heap[k]? = W.heap[k]?) {p : MemPlace} (hp : p.block < W.heap.size) : W.sameAt W' p := by
  cases p with
  | cell b o =>
    show W'.cell? _ = W.cell? _
    rw [world_cell, world_cell]
    unfold cell
    rw [h b hp]
  | map b => exact h b hp

theorem trodAll_stays {W W' : World} {sp' : Nat → Bool} (hl : laidOutB P = true) (h : ∀ k, k < W.heap.size → W'.heap[k]? = W.heap[k]?) : ∀ {ts : List TypeId} {vs : List Value} {ds : List (DataW H)} {ps : List MemPlace},
    (∀ t ∈ ts, P.readableRec t = true ∧ t < P.types.size) → DataW.TrodAll enc P W 0 (fun _ => true) true ts vs ds ps → (∀ p ∈ ps, p.block < W.heap.size) → (∀ p ∈ ps, sp' p.block = true) →
    DataW.TrodAll enc P W' 0 sp' true ts vs ds ps
  | [], _, _, _, _, hT, _, _ => by
    obtain ⟨rfl, rfl, rfl⟩ := trodAll_nil hT
    rfl
  | t :: ts, _, _, _, hts, hT, hlt, hs => by
    obtain ⟨v, vs, d, ds, p, q, rfl, rfl, rfl, h1, h2⟩ := trodAll_cons hT
    have ht := hts t (by simp)
    exact ⟨p, q, WideElems.Trod_stays hl ht.1 ht.2 h1 (fun x hx => sameAt_of h (hlt x (by simp [hx]))) (fun x hx => hs x (by simp [hx])),
      trodAll_stays hl h (fun t ht => hts t (by simp [ht])) h2 (fun x hx => hlt x (by simp [hx])) (fun x hx => hs x (by simp [hx])), rfl⟩

theorem trodAll_len : ∀ {W : World} {base : Nat} {sp : Nat → Bool} {hd : Bool} {ts : List TypeId} {vs : List Value} {ds : List (DataW H)} {ps : List MemPlace}, DataW.TrodAll enc P W base sp hd ts vs ds ps → ds.length = ts.length
  | _, _, _, _, [], _, _, _, h => by obtain ⟨rfl, rfl, rfl⟩ := trodAll_nil h; rfl
  | _, _, _, _, _ :: _, _, _, _, h => by
    obtain ⟨v, vs, d, ds, p, q, rfl, rfl, rfl, _, h2⟩ := trodAll_cons h
    simp [trodAll_len h2]

theorem kept_of {W W' : World} (hos : W'.os = W.os) (hout : W'.output = W.output) (h : ∀ k, k < W.heap.size → W'.heap[k]? = W.heap[k]?) (may : MemPlace → Prop) : W.keptBut W' may := by
  refine ⟨hos, hout, fun i hi => ?_⟩
  rw [h i hi]
  exact (World.keptBut_refl W may).2.2 i hi

/-- A LAW's POST, out of its contract: true, and what was there is as it was. -/
theorem lift_law {f : Nat} {fn : Func} {s : ChangeSpec} {tb : TypeId} {apart fresh handsOn again : Bool} {W : World} {args : Array Value} {ds gs : List (DataW H)} {before : List MemPlace}
    (hlo : laidOutB P = true) (hts : ∀ t ∈ fn.params.toList, P.readableRec t = true ∧ t < P.types.size) (hres : fn.resultTypes = #[tb]) (hb : P.underlying tb = some .bool) (hvars : s.vars = [])
    (hs : ∀ l : List (DataW H), l.length = fn.params.size → s.fn H l = { results := [.lit (.bool true)], args := l })
    (hW : DataW.Whole enc P fn.params.toList s.vars apart W args.toList ds gs before)
    (hc : CallsH P f args.toList W.heap (Ret fun r h' => r = .bool true ∧ Chg [] W.heap h')) :
    Calls P f args W fun e W' => ∃ v, e = .returned v ∧ s.post enc P fn apart fresh handsOn again W args v W' := by
  refine (hc.2 W rfl).mono ?_
  rintro e W' ⟨hR, hno, hos, hout, _⟩
  cases e with
  | panicked ch => exact hR.elim
  | outgrown => exact hR.elim
  | returned v =>
  obtain ⟨rfl, hch⟩ := hR
  refine ⟨_, rfl, ?_⟩
  have hsame : ∀ k, k < W.heap.size → W'.heap[k]? = W.heap[k]? := fun k hk => hch.old k hk (by simp)
  have hlt := fun p hp => hW.lt p hp
  have hW' := hW
  obtain ⟨p, q, hA, hV, rfl, hz, hn⟩ := hW
  have hlen : ds.length = fn.params.size := by rw [trodAll_len hA]; simp
  rw [hvars] at hV
  obtain ⟨rfl, rfl⟩ := trodVars_none hV
  have hfn : s.fn H (ds ++ []) = { results := [.lit (.bool true)], args := ds } := by rw [List.append_nil]; exact hs ds hlen
  have hold : ∀ x ∈ p ++ [], (fun b => decide (b < W.heap.size)) x.block = true := fun x hx => by simpa using hlt x hx
  have hargs : ∀ sp : Nat → Bool, (∀ x ∈ p ++ [], sp x.block = true) → DataW.TrodAll enc P W' 0 sp true fn.params.toList args.toList (s.fn H (ds ++ [])).args p := fun sp hsp => by
    rw [hfn]
    exact trodAll_stays hlo hsame hts hA (fun x hx => hlt x (by simp [hx])) (fun x hx => hsp x (by simp [hx]))
  have hr : ∀ (b : Nat) (sp : Nat → Bool) (hd : Bool), DataW.TrodAll enc P W' b sp hd fn.resultTypes.toList ((Value.bool true).resultList fn.resultTypes.size) (s.fn H (ds ++ [])).results [] := fun b sp hd => by
    rw [hfn, hres]
    exact trodAll_mk1 (Go.RowKit.shut_bool hb true)
  have hvs : ∀ sp : Nat → Bool, DataW.TrodVars enc P W' sp s.vars (s.fn H (ds ++ [])).vars [] := fun sp => by
    rw [hfn, hvars]; rfl
  refine ⟨ds, [], p ++ [], [], p, [], hW', hr _ _ _, hargs _ hold, hvs _, World.keptBut_mono (fun x hx => ⟨hx, ?_⟩) (kept_of hos hout hsame _), fun _ => ?_⟩
  · simpa using hx
  · refine ⟨Go.RowKit.ok_one hres rfl (Go.RowKit.okWide_bool_mk hb true), _, _, ([] ++ p) ++ [], ⟨[] ++ p, [], trodAll_append (hargs _ (fun _ _ => rfl)) (hr _ _ _), hvs _, rfl, ?_, ?_⟩, ?_⟩
    · intro b off hp
      have hb' : b < W.heap.size := hlt (.cell b off) (by simpa using hp)
      have := hz b off (by simpa using hp)
      unfold World.frozen? at this ⊢
      simp only [hsame b hb']
      exact this
    · intro ha
      simpa using hn ha
    · intro x hx _
      simpa using hx

/-! ### Opening -/
def Wts (P : Program) (t : TypeId) (d : DataW H) : Prop := ∀ n ∈ d.weights P t, n ≤ reachBytes

theorem weightsAll_mem' {e : TypeId} : ∀ {l : List (DataW H)} {d : DataW H}, d ∈ l → ∀ n ∈ d.weights P e, n ∈ DataW.weightsAll P e l
  | x :: l, d, hd, n, hn => by
    simp only [DataW.weightsAll, List.mem_append]
    rcases List.mem_cons.1 hd with rfl | hd
    · exact .inl hn
    · exact .inr (weightsAll_mem' hd n hn)

theorem wts_each {ts : List TypeId} {ds : List (DataW H)} (h : (DataW.weightsEach P ts ds).all (· ≤ reachBytes) = true) {j : Nat} {t : TypeId} {d : DataW H} (ht : ts[j]? = some t) (hd : ds[j]? = some d) : Wts P t d := by
  intro n hn
  have := List.all_eq_true.1 h n (DataW.weights_mem_each ht hd n hn)
  simpa using this

theorem exists_list {α : Type} {p : Nat → α → Prop} : ∀ n, (∀ i < n, ∃ a, p i a) → ∃ l : List α, l.length = n ∧ ∀ i a, l[i]? = some a → p i a
  | 0, _ => ⟨[], rfl, by simp⟩
  | n + 1, h => by
    obtain ⟨l, hl, hp⟩ := exists_list n (fun i hi => h i (by omega))
    obtain ⟨a, ha⟩ := h n (by omega)
    refine ⟨l ++ [a], by simp [hl], fun i x hx => ?_⟩
    by_cases hi : i < l.length
    · rw [List.getElem?_append_left hi] at hx; exact hp i x hx
    · rw [List.getElem?_append_right (by omega)] at hx
      have : i - l.length = 0 := by
        rcases Nat.lt_or_ge (i - l.length) 1 with h | h
        · omega
        · rw [List.getElem?_eq_none (by simpa using h)] at hx; cases hx
      rw [this] at hx
      simp at hx; subst hx
      have : i = n := by omega
      rw [this]; exact ha

/-- A slice, opened: the list that it reads as. -/
theorem open_slice {α : Type} {en : α → List Value} {Good : α → Prop} {t e : TypeId} {k : Nat} {W : World} {base b0 : Nat} {r : Reach} {sp : Nat → Bool} {held : Bool} (ht : P.underlying t = some (.slice e)) (hk : P.cellsOf e = k) (hpos : 0 < k) (hsz : ∀ a, (en a).length = k)
    (hel : ∀ n cs x, DataW.trod enc P W base sp held n e cs = some x → Wts P e x.1 → ∃ a, cs = en a ∧ Good a)
    {v : Value} {d : DataW H} {ps : List MemPlace} (hval : Value.okWide P W r b0 t v) (h : DataW.Trod enc P W base sp held t v d ps) (hw : Wts P t d) :
    ∃ l : List α, SL en W.heap v l ∧ (∀ a ∈ l, Good a) ∧ l.length * P.bytesOf e ≤ reachBytes := by
  obtain ⟨fuel, h⟩ := h
  rcases DataW.trod_slice ht h with ⟨hcs, _⟩ | ⟨a, len, cap, elems, rest, n, _, hcs, hx, _, hlc, _, hlen, hels, _, _⟩
  · have hv : v = .slice none 0 0 := by
      simp only [Value.okWide, Cell.okWide, Cell.ok, ht] at hval
      split at hval <;> simp_all [Value.cells]
    subst hv
    exact ⟨[], SL.nil, by simp, by simp⟩
  · have hv : v = .slice (some a) len cap ∧ a.spot = none := by
      simp only [Value.okWide, Cell.okWide, Cell.ok, ht] at hval
      split at hval <;> simp_all [Value.cells]
      exact hval.2.2.1
    obtain ⟨rfl, hspot⟩ := hv
    obtain ⟨b, o, s⟩ := a
    simp only at hspot
    subst hspot
    have hwd : ∀ i (hi : i < elems.length), Wts P e (elems[i]).1 := by
      intro i hi m hm
      have hd : d = .slice (elems.map (·.1)) (rest.map (·.1)) := congrArg Prod.fst hx
      subst hd
      refine hw m ?_
      simp only [DataW.weights, ht, List.mem_cons, List.mem_append]
      exact .inr (.inl (weightsAll_mem' (d := (elems[i]).1) (List.mem_map.2 ⟨_, List.getElem_mem hi, rfl⟩) m hm))
    obtain ⟨l, hl, hp⟩ := exists_list (p := fun i (a : α) => (∀ j v, (en a)[j]? = some v → cell W.heap b (o + i * k + j) = some v) ∧ Good a) len (by
      intro i hi
      have h1 := hels i hi
      have hi' : i < elems.length := by omega
      rw [List.getElem?_eq_getElem hi'] at h1
      obtain ⟨cs, hcs', htr⟩ := Option.bind_eq_some_iff.1 h1
      obtain ⟨x, hx1, hx2⟩ := hel _ _ _ htr (hwd i hi')
      subst hx1
      obtain ⟨_, _, hcell⟩ := World.cells?_some hcs'
      refine ⟨x, fun j v hj => ?_, hx2⟩
      have hjk : j < k := by have := (List.getElem?_eq_some_iff.1 hj).1; rw [hsz] at this; exact this
      have := hcell j (by rw [hk]; exact hjk)
      rw [hj] at this
      have e1 : (Addr.add ⟨b, o, none⟩ (i * P.cellsOf e)).add j = ⟨b, o + i * k + j, none⟩ := by
        rw [hk]; unfold Addr.add; split <;> split <;> simp_all
      rw [e1, world_cell] at this
      exact this)
    subst hl
    refine ⟨l, ⟨_, cap, rfl, hlc, ?_⟩, fun a ha => ?_, ?_⟩
    · intro q v hq
      have hq1 := (List.getElem?_eq_some_iff.1 hq).1
      rw [flatMap_len hsz] at hq1
      have hik : q / k < l.length := Nat.div_lt_of_lt_mul (by rw [Nat.mul_comm]; exact hq1)
      have hli : l[q / k]? = some l[q / k] := List.getElem?_eq_getElem hik
      have hjk : q % k < (en l[q / k]).length := by rw [hsz]; exact Nat.mod_lt _ hpos
      have hej := List.getElem?_eq_getElem hjk
      have h2 := flatMap_get hsz l (q / k) _ hli (q % k) _ hej
      have hq2 : q / k * k + q % k = q := by rw [Nat.mul_comm]; exact Nat.div_add_mod q k
      rw [hq2, hq] at h2
      cases h2
      have := (hp _ _ hli).1 _ _ hej
      rw [Nat.add_assoc, hq2] at this
      exact this
    · obtain ⟨i, hi⟩ := List.getElem?_of_mem ha
      exact (hp i a hi).2
    · have hd : d = .slice (elems.map (·.1)) (rest.map (·.1)) := congrArg Prod.fst hx
      subst hd
      have := hw ((elems.map (·.1)).length + (rest.map (·.1)).length |> (· * P.bytesOf e)) (by simp [DataW.weights, ht])
      simp only [List.length_map] at this
      refine Nat.le_trans (Nat.mul_le_mul_right _ ?_) this
      omega

/-- A struct's field. -/
theorem fld {W : World} {base n : Nat} {sp : Nat → Bool} {held : Bool} {cs : List Value} {fs : Array Field} {xs : List (DataW H × List MemPlace)}
    (hi : ∀ (i : Nat) (f : Field), fs[i]? = some f → DataW.trod enc P W base sp held n f.type (List.take (P.cellsOf f.type) (List.drop f.offset cs)) = xs[i]?) (i ty off k : Nat) {f : Field} {cs' : List Value} {x : DataW H × List MemPlace}
    (hf : fs[i]? = some f) (ht : f.type = ty) (ho : f.offset = off) (hc : P.cellsOf ty = k) (hcs : (cs.drop off).take k = cs') (hx : xs[i]? = some x) : DataW.trod enc P W base sp held n ty cs' = some x := by
  subst ht ho hc hcs
  rw [← hx]; exact hi i f hf

theorem str_of_trod {t : TypeId} {W : World} {base n : Nat} {sp : Nat → Bool} {held : Bool} {cs : List Value} {x : DataW H × List MemPlace} (ht : P.underlying t = some .string) (h : DataW.trod enc P W base sp held n t cs = some x) (hw : Wts P t x.1) :
    ∃ s : ByteArray, cs = [.string s] ∧ s.size ≤ reachBytes := by
  obtain ⟨s, rfl, rfl, _⟩ := DataW.trod_string ht h
  refine ⟨s, rfl, ?_⟩
  have := hw s.data.toList.length (by simp [DataW.weights])
  simpa using this

end
end Go.Sx
