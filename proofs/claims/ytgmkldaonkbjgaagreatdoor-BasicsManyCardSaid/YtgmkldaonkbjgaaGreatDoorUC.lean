/-
  From a function's contract to its row: arguments opened, the post shut.
  Texts in order; plain.
  The lift, more: slices within slices.
  Appends to nil; slices written; small words.
  The simplified code of this seat's functions, and that it is what the program's code comes to. Printed by a program (wip/print.lean).
  Layer 7: texts and members compared.
  Layer 7: lists compared, lists that rise (printed by gen.py).
  Layer 7: texts and members in order.
  Layer 7: things; two the same (printed by gend.py).
  Layer 7: how many items, how long their texts.
  Layer 7: each name once; what is large.
  Layer 7: may a thing be? As the program asks.
  Layer 7: may a thing be? As the document asks; and that the two ask the same.
  Layer 7: may a thing be? The document's loops.
  Layer 7: may a thing be? The document's answer, whole.
  Layer 7: copies; a keyspace (printed by genk.py).
  Layer 7: the rules; a text that is put.
  Layer 7: what stands under a key.
  Layer 7: known.
  Slices of one's own, cut, written, grown in the middle; small words.
  Layer 7: items put into slices, taken out of them (printed by genins.py).
  Layer 7: where an item stands, or must stand (printed by genbs.py).
  Layer 7: lists of things under keys, plain.
  Layer 7: the reference's Find, Put, Get, Names.
  Layer 7: a keyspace as it lies; plain laws of the reference's Of.
-/
import Derived.OpenShut
import Derived.Carry
import Derived.SizedLaws
import Derived.WideKeyArgs
import Derived.Lib.LaidTab
import Derived.Lib.Bytealg
import Derived.Deep.DeepHandedRow
import Derived.Test.YtgmkldaonkbjgaaGreatDoorProg
import Derived.WalkKit
import Derived.Laws.Externs
import Derived.Lib.Overlaps
import Derived.Test.YtgmkldaonkbjgaaGreatDoorUB
namespace Go.Sx
open Go Go.ChangeShapes

section
variable {H : Type} {enc : TypeId × Value → H} {P : Program}

theorem world_cell {W : World} (b o : Nat) : W.cell? ⟨b, o, none⟩ = cell W.heap b o := by
  unfold World.cell? cell
  cases W.heap[b]? with
  | none => rfl
  | some x => cases x <;> rfl

theorem sameAt_of {W W' : World} (h : ∀ k, k < W.heap.size → W'.heap[k]? = W.heap[k]?) {p : MemPlace} (hp : p.block < W.heap.size) : W.sameAt W' p := by
  cases p with
  | cell b o =>
    show W'.cell? _ = W.cell? _
    rw [world_cell, world_cell]
    unfold cell
    rw [h b hp]
  | map b => exact h b hp

theorem trodAll_stays {W W' : World} {sp' : Nat → Bool} (hl : laidOutB P = true) (h : ∀ k, k < W.heap.size → W'.heap[k]? = W.heap[k]?) : ∀ {ts : List TypeId} {vs : List Value} {ds : List (DataW H)} {ps : List MemPlace},
    (∀ t ∈ ts, P.readableRec t = true ∧ t < P.types.size) → DataW.TrodAll enc P W 0 (fun _ => true) true ts vs ds ps → (∀ p ∈ ps, p.block < W.heap.size) → (∀ p ∈ ps, sp' p.block = true) →
    DataW.TrodAll enc P W' 0 sp' true ts vs ds ps
  | [], _, _, _, _, hT, _, _ => by
    obtain ⟨rfl, rfl, rfl⟩ := trodAll_nil hT
    rfl
  | t :: ts, _, _, _, hts, hT, hlt, hs => by
    obtain ⟨v, vs, d, ds, p, q, rfl, rfl, rfl, h1, h2⟩ := trodAll_cons hT
    have ht := hts t (by simp)
    exact ⟨p, q, WideElems.Trod_stays hl ht.1 ht.2 h1 (fun x hx => sameAt_of h (hlt x (by simp [hx]))) (fun x hx => hs x (by simp [hx])),
      trodAll_stays hl h (fun t ht => hts t (by simp [ht])) h2 (fun x hx => hlt x (by simp [hx])) (fun x hx => hs x (by simp [hx])), rfl⟩

theorem trodAll_len : ∀ {W : World} {base : Nat} {sp : Nat → Bool} {hd : Bool} {ts : List TypeId} {vs : List Value} {ds : List (DataW H)} {ps : List MemPlace}, DataW.TrodAll enc P W base sp hd ts vs ds ps → ds.length = ts.length
  | _, _, _, _, [], _, _, _, h => by obtain ⟨rfl, rfl, rfl⟩ := trodAll_nil h; rfl
  | _, _, _, _, _ :: _, _, _, _, h => by
    obtain ⟨v, vs, d, ds, p, q, rfl, rfl, rfl, _, h2⟩ := trodAll_cons h
    simp [trodAll_len h2]

theorem kept_of {W W' : World} (hos : W'.os = W.os) (hout : W'.output = W.output) (h : ∀ k, k < W.heap.size → W'.heap[k]? = W.heap[k]?) (may : MemPlace → Prop) : W.keptBut W' may := by
  refine ⟨hos, hout, fun i hi => ?_⟩
  rw [h i hi]
  exact (World.keptBut_refl W may).2.2 i hi

theorem lift_law {f : Nat} {fn : Func} {s : ChangeSpec} {tb : TypeId} {apart fresh handsOn again : Bool} {W : World} {args : Array Value} {ds gs : List (DataW H)} {before : List MemPlace}
    (hlo : laidOutB P = true) (hts : ∀ t ∈ fn.params.toList, P.readableRec t = true ∧ t < P.types.size) (hres : fn.resultTypes = #[tb]) (hb : P.underlying tb = some .bool) (hvars : s.vars = [])
    (hs : ∀ l : List (DataW H), l.length = fn.params.size → s.fn H l = { results := [.lit (.bool true)], args := l })
    (hW : DataW.Whole enc P fn.params.toList s.vars apart W args.toList ds gs before)
    (hc : CallsH P f args.toList W.heap (Ret fun r h' => r = .bool true ∧ Chg [] W.heap h')) :
    Calls P f args W fun e W' => ∃ v, e = .returned v ∧ s.post enc P fn apart fresh handsOn again W args v W' := by
  refine (hc.2 W rfl).mono ?_
  rintro e W' ⟨hR, hno, hos, hout, _⟩
  cases e with
  | panicked ch => exact hR.elim
  | outgrown => exact hR.elim
  | returned v =>
  obtain ⟨rfl, hch⟩ := hR
  refine ⟨_, rfl, ?_⟩
  have hsame : ∀ k, k < W.heap.size → W'.heap[k]? = W.heap[k]? := fun k hk => hch.old k hk (by simp)
  have hlt := fun p hp => hW.lt p hp
  have hW' := hW
  obtain ⟨p, q, hA, hV, rfl, hz, hn⟩ := hW
  have hlen : ds.length = fn.params.size := by rw [trodAll_len hA]; simp
  rw [hvars] at hV
  obtain ⟨rfl, rfl⟩ := trodVars_none hV
  have hfn : s.fn H (ds ++ []) = { results := [.lit (.bool true)], args := ds } := by rw [List.append_nil]; exact hs ds hlen
  have hold : ∀ x ∈ p ++ [], (fun b => decide (b < W.heap.size)) x.block = true := fun x hx => by simpa using hlt x hx
  have hargs : ∀ sp : Nat → Bool, (∀ x ∈ p ++ [], sp x.block = true) → DataW.TrodAll enc P W' 0 sp true fn.params.toList args.toList (s.fn H (ds ++ [])).args p := fun sp hsp => by
    rw [hfn]
    exact trodAll_stays hlo hsame hts hA (fun x hx => hlt x (by simp [hx])) (fun x hx => hsp x (by simp [hx]))
  have hr : ∀ (b : Nat) (sp : Nat → Bool) (hd : Bool), DataW.TrodAll enc P W' b sp hd fn.resultTypes.toList ((Value.bool true).resultList fn.resultTypes.size) (s.fn H (ds ++ [])).results [] := fun b sp hd => by
    rw [hfn, hres]
    exact trodAll_mk1 (Go.RowKit.shut_bool hb true)
  have hvs : ∀ sp : Nat → Bool, DataW.TrodVars enc P W' sp s.vars (s.fn H (ds ++ [])).vars [] := fun sp => by
    rw [hfn, hvars]; rfl
  refine ⟨ds, [], p ++ [], [], p, [], hW', hr _ _ _, hargs _ hold, hvs _, World.keptBut_mono (fun x hx => ⟨hx, ?_⟩) (kept_of hos hout hsame _), fun _ => ?_⟩
  · simpa using hx
  · refine ⟨Go.RowKit.ok_one hres rfl (Go.RowKit.okWide_bool_mk hb true), _, _, ([] ++ p) ++ [], ⟨[] ++ p, [], trodAll_append (hargs _ (fun _ _ => rfl)) (hr _ _ _), hvs _, rfl, ?_, ?_⟩, ?_⟩
    · intro b off hp
      have hb' : b < W.heap.size := hlt (.cell b off) (by simpa using hp)
      have := hz b off (by simpa using hp)
      unfold World.frozen? at this ⊢
      simp only [hsame b hb']
      exact this
    · intro ha
      simpa using hn ha
    · intro x hx _
      simpa using hx

def Wts (P : Program) (t : TypeId) (d : DataW H) : Prop := ∀ n ∈ d.weights P t, n ≤ reachBytes

theorem weightsAll_mem' {e : TypeId} : ∀ {l : List (DataW H)} {d : DataW H}, d ∈ l → ∀ n ∈ d.weights P e, n ∈ DataW.weightsAll P e l
  | x :: l, d, hd, n, hn => by
    simp only [DataW.weightsAll, List.mem_append]
    rcases List.mem_cons.1 hd with rfl | hd
    · exact .inl hn
    · exact .inr (weightsAll_mem' hd n hn)

theorem wts_each {ts : List TypeId} {ds : List (DataW H)} (h : (DataW.weightsEach P ts ds).all (· ≤ reachBytes) = true) {j : Nat} {t : TypeId} {d : DataW H} (ht : ts[j]? = some t) (hd : ds[j]? = some d) : Wts P t d := by
  intro n hn
  have := List.all_eq_true.1 h n (DataW.weights_mem_each ht hd n hn)
  simpa using this

theorem exists_list {α : Type} {p : Nat → α → Prop} : ∀ n, (∀ i < n, ∃ a, p i a) → ∃ l : List α, l.length = n ∧ ∀ i a, l[i]? = some a → p i a
  | 0, _ => ⟨[], rfl, by simp⟩
  | n + 1, h => by
    obtain ⟨l, hl, hp⟩ := exists_list n (fun i hi => h i (by omega))
    obtain ⟨a, ha⟩ := h n (by omega)
    refine ⟨l ++ [a], by simp [hl], fun i x hx => ?_⟩
    by_cases hi : i < l.length
    · rw [List.getElem?_append_left hi] at hx; exact hp i x hx
    · rw [List.getElem?_append_right (by omega)] at hx
      have : i - l.length = 0 := by
        rcases Nat.lt_or_ge (i - l.length) 1 with h | h
        · omega
        · rw [List.getElem?_eq_none (by simpa using h)] at hx; cases hx
      rw [this] at hx
      simp at hx; subst hx
      have : i = n := by omega
      rw [this]; exact ha

theorem fld {W : World} {base n : Nat} {sp : Nat → Bool} {held : Bool} {cs : List Value} {fs : Array Field} {xs : List (DataW H × List MemPlace)}
    (hi : ∀ (i : Nat) (f : Field), fs[i]? = some f → DataW.trod enc P W base sp held n f.type (List.take (P.cellsOf f.type) (List.drop f.offset cs)) = xs[i]?) (i ty off k : Nat) {f : Field} {cs' : List Value} {x : DataW H × List MemPlace}
    (hf : fs[i]? = some f) (ht : f.type = ty) (ho : f.offset = off) (hc : P.cellsOf ty = k) (hcs : (cs.drop off).take k = cs') (hx : xs[i]? = some x) : DataW.trod enc P W base sp held n ty cs' = some x := by
  subst ht ho hc hcs
  rw [← hx]; exact hi i f hf

theorem str_of_trod {t : TypeId} {W : World} {base n : Nat} {sp : Nat → Bool} {held : Bool} {cs : List Value} {x : DataW H × List MemPlace} (ht : P.underlying t = some .string) (h : DataW.trod enc P W base sp held n t cs = some x) (hw : Wts P t x.1) :
    ∃ s : ByteArray, cs = [.string s] ∧ s.size ≤ reachBytes := by
  obtain ⟨s, rfl, rfl, _⟩ := DataW.trod_string ht h
  refine ⟨s, rfl, ?_⟩
  have := hw s.data.toList.length (by simp [DataW.weights])
  simpa using this

end
end Go.Sx
namespace Go.Sx
open Go

theorem bl_irrefl : ∀ a : List UInt8, Op.bytesLess a a = false
  | [] => rfl
  | x :: a => by simp [Op.bytesLess, bl_irrefl a]

theorem bl_trans : ∀ {a b c : List UInt8}, Op.bytesLess a b = true → Op.bytesLess b c = true → Op.bytesLess a c = true
  | _, [], _, h, _ => by cases ‹List UInt8› <;> simp [Op.bytesLess] at h
  | _, _ :: _, [], _, h => by simp [Op.bytesLess] at h
  | [], _ :: _, _ :: _, _, _ => by simp [Op.bytesLess]
  | x :: a, y :: b, z :: c, h1, h2 => by
    have ih := @bl_trans a b c
    simp only [Op.bytesLess, Bool.or_eq_true, decide_eq_true_eq, Bool.and_eq_true, beq_iff_eq, UInt8.lt_iff_toNat_lt, ← UInt8.toNat_inj] at h1 h2 ⊢
    rcases h1 with h1 | ⟨h1, h1'⟩ <;> rcases h2 with h2 | ⟨h2, h2'⟩
    · left; omega
    · left; omega
    · left; omega
    · right; exact ⟨by omega, ih h1' h2'⟩

theorem bl_total : ∀ {a b : List UInt8}, a ≠ b → Op.bytesLess a b = true ∨ Op.bytesLess b a = true
  | [], [], h => absurd rfl h
  | [], _ :: _, _ => by simp [Op.bytesLess]
  | _ :: _, [], _ => by simp [Op.bytesLess]
  | x :: a, y :: b, h => by
    have ih := @bl_total a b
    simp only [Op.bytesLess, Bool.or_eq_true, decide_eq_true_eq, Bool.and_eq_true, beq_iff_eq, UInt8.lt_iff_toNat_lt, ← UInt8.toNat_inj]
    by_cases e : x = y
    · subst e
      rcases ih (by intro e; exact h (by rw [e])) with h | h
      · left; right; exact ⟨rfl, h⟩
      · right; right; exact ⟨rfl, h⟩
    · have : x.toNat ≠ y.toNat := fun h => e (UInt8.toNat_inj.1 h)
      rcases Nat.lt_or_gt_of_ne this with h | h
      · left; left; exact h
      · right; left; exact h

theorem toList_inj {a b : ByteArray} (h : a.toList = b.toList) : a = b := by
  rw [Go.ByteArray.toList_eq, Go.ByteArray.toList_eq] at h
  cases a; cases b; simp_all

theorem sless_irrefl (a : ByteArray) : sless a a = false := bl_irrefl _
theorem sless_trans {a b c : ByteArray} : sless a b = true → sless b c = true → sless a c = true := bl_trans
theorem sless_total {a b : ByteArray} (h : a ≠ b) : sless a b = true ∨ sless b a = true := bl_total fun e => h (toList_inj e)

def cmpB (a b : ByteArray) : Int := Lib.compareBytes a.data.toList b.data.toList

theorem compareBytes_neg : ∀ a b : List UInt8, (Lib.compareBytes a b < 0 ↔ Op.bytesLess a b = true)
  | [], [] => by simp [Lib.compareBytes, Op.bytesLess]
  | [], _ :: _ => by simp [Lib.compareBytes, Op.bytesLess]
  | _ :: _, [] => by simp [Lib.compareBytes, Op.bytesLess]
  | x :: a, y :: b => by
    have ih := compareBytes_neg a b
    simp only [Lib.compareBytes, Op.bytesLess, Bool.or_eq_true, decide_eq_true_eq, Bool.and_eq_true, beq_iff_eq, UInt8.lt_iff_toNat_lt, ← UInt8.toNat_inj]
    by_cases h1 : x.toNat < y.toNat
    · rw [if_pos h1]; simp [h1]
    · rw [if_neg h1]
      by_cases h2 : y.toNat < x.toNat
      · rw [if_pos h2]
        constructor
        · intro h; omega
        · rintro (h | ⟨h, _⟩) <;> omega
      · rw [if_neg h2, ih]
        constructor
        · intro h; exact .inr ⟨by omega, h⟩
        · rintro (h | ⟨_, h⟩)
          · exact absurd h h1
          · exact h

theorem cmpB_neg (a b : ByteArray) : cmpB a b < 0 ↔ sless a b = true := by
  unfold cmpB sless
  rw [Go.ByteArray.toList_eq, Go.ByteArray.toList_eq]
  exact compareBytes_neg _ _

theorem bl_step {x y : UInt8} {a b : List UInt8} (h : x = y) : Op.bytesLess (x :: a) (y :: b) = Op.bytesLess a b := by
  subst h; simp [Op.bytesLess]
theorem bl_diff {x y : UInt8} {a b : List UInt8} (h : x ≠ y) : Op.bytesLess (x :: a) (y :: b) = decide (x < y) := by
  simp [Op.bytesLess, h]

end Go.Sx
namespace Go.Sx
open Go Go.ChangeShapes Go.WideShapes Go.ChangeAt Go.RowKit

section
variable {H : Type} {enc : TypeId × Value → H} {P : Program}

theorem open_cellR {α : Type} {en : α → List Value} {Good : α → Prop} {t e : TypeId} {k : Nat} {W : World} {base : Nat} {sp : Nat → Bool} {held : Bool} (ht : P.underlying t = some (.slice e)) (hk : P.cellsOf e = k) (hpos : 0 < k) (hsz : ∀ a, (en a).length = k)
    {n : Nat} (hel : ∀ n', n' < n → ∀ cs x, DataW.trod enc P W base sp held n' e cs = some x → Wts P e x.1 → ∃ a, cs = en a ∧ Good a)
    {v : Value} {x : DataW H × List MemPlace} (h : DataW.trod enc P W base sp held n t [v] = some x) (hw : Wts P t x.1) :
    ∃ l : List α, SL en W.heap v l ∧ (∀ a ∈ l, Good a) ∧ l.length * P.bytesOf e ≤ reachBytes := by
  rcases DataW.trod_slice ht h with ⟨hcs, _⟩ | ⟨a, len, cap, elems, rest, n', hfu, hcs, hx, _, hlc, _, hlen, hels, _, _⟩
  · have hv : v = .slice none 0 0 := by simpa using hcs
    subst hv
    exact ⟨[], SL.nil, by simp, by simp⟩
  · have hv : v = .slice (some a) len cap := by simpa using hcs
    subst hv
    obtain ⟨b, o, s⟩ := a
    cases s with
    | some q =>
      have h0 : len = 0 := by
        rcases Nat.eq_zero_or_pos len with h | h
        · exact h
        · exfalso
          have h1 := hels 0 h
          have hi' : 0 < elems.length := by omega
          rw [List.getElem?_eq_getElem hi'] at h1
          obtain ⟨cs, hcs', _⟩ := Option.bind_eq_some_iff.1 h1
          obtain ⟨_, hlcs, hcell⟩ := World.cells?_some hcs'
          have := hcell 0 (by rw [hk]; exact hpos)
          rw [List.getElem?_eq_getElem (by omega)] at this
          simp only [Nat.zero_mul, Addr.add, if_true] at this
          unfold World.cell? at this
          split at this <;> simp at this
      subst h0
      exact ⟨[], ⟨_, cap, rfl, Nat.zero_le _, rfl⟩, by simp, by simp⟩
    | none =>
      have hwd : ∀ i (hi : i < elems.length), Wts P e (elems[i]).1 := by
        intro i hi m hm
        have hd : x.1 = .slice (elems.map (·.1)) (rest.map (·.1)) := congrArg Prod.fst hx
        refine hw m ?_
        rw [hd]
        simp only [DataW.weights, ht, List.mem_cons, List.mem_append]
        exact .inr (.inl (weightsAll_mem' (d := (elems[i]).1) (List.mem_map.2 ⟨_, List.getElem_mem hi, rfl⟩) m hm))
      obtain ⟨l, hl, hp⟩ := exists_list (p := fun i (a : α) => (∀ j v, (en a)[j]? = some v → cell W.heap b (o + i * k + j) = some v) ∧ Good a) len (by
        intro i hi
        have h1 := hels i hi
        have hi' : i < elems.length := by omega
        rw [List.getElem?_eq_getElem hi'] at h1
        obtain ⟨cs, hcs', htr⟩ := Option.bind_eq_some_iff.1 h1
        obtain ⟨_, hlcs, hcell⟩ := World.cells?_some hcs'
        have hc2 : ∀ j, j < k → cell W.heap b (o + i * k + j) = cs[j]? := by
          intro j hjk
          have := hcell j (by rw [hk]; exact hjk)
          have e1 : (Addr.add ⟨b, o, none⟩ (i * P.cellsOf e)).add j = ⟨b, o + i * k + j, none⟩ := by
            rw [hk]; unfold Addr.add; split <;> split <;> simp_all
          rw [e1, world_cell] at this
          exact this
        obtain ⟨x, hx1, hx2⟩ := hel n' (by omega) _ _ htr (hwd i hi')
        subst hx1
        refine ⟨x, fun j v hj => ?_, hx2⟩
        have hjk : j < k := by have := (List.getElem?_eq_some_iff.1 hj).1; rw [hsz] at this; exact this
        rw [hc2 j hjk, hj])
      subst hl
      refine ⟨l, ⟨_, cap, rfl, hlc, ?_⟩, fun a ha => ?_, ?_⟩
      · intro q v hq
        have hq1 := (List.getElem?_eq_some_iff.1 hq).1
        rw [flatMap_len hsz] at hq1
        have hik : q / k < l.length := Nat.div_lt_of_lt_mul (by rw [Nat.mul_comm]; exact hq1)
        have hli : l[q / k]? = some l[q / k] := List.getElem?_eq_getElem hik
        have hjk : q % k < (en l[q / k]).length := by rw [hsz]; exact Nat.mod_lt _ hpos
        have hej := List.getElem?_eq_getElem hjk
        have h2 := flatMap_get hsz l (q / k) _ hli (q % k) _ hej
        have hq2 : q / k * k + q % k = q := by rw [Nat.mul_comm]; exact Nat.div_add_mod q k
        rw [hq2, hq] at h2
        cases h2
        have := (hp _ _ hli).1 _ _ hej
        rw [Nat.add_assoc, hq2] at this
        exact this
      · obtain ⟨i, hi⟩ := List.getElem?_of_mem ha
        exact (hp i a hi).2
      · have hd : x.1 = .slice (elems.map (·.1)) (rest.map (·.1)) := congrArg Prod.fst hx
        have := hw ((elems.map (·.1)).length + (rest.map (·.1)).length |> (· * P.bytesOf e)) (by rw [hd]; simp [DataW.weights, ht])
        simp only [List.length_map] at this
        refine Nat.le_trans (Nat.mul_le_mul_right _ ?_) this
        omega

theorem open_cell {α : Type} {en : α → List Value} {Good : α → Prop} {t e : TypeId} {k : Nat} {W : World} {base : Nat} {sp : Nat → Bool} {held : Bool} (ht : P.underlying t = some (.slice e)) (hk : P.cellsOf e = k) (hpos : 0 < k) (hsz : ∀ a, (en a).length = k)
    (hel : ∀ n cs x, DataW.trod enc P W base sp held n e cs = some x → Wts P e x.1 → ∃ a, cs = en a ∧ Good a)
    {n : Nat} {v : Value} {x : DataW H × List MemPlace} (h : DataW.trod enc P W base sp held n t [v] = some x) (hw : Wts P t x.1) :
    ∃ l : List α, SL en W.heap v l ∧ (∀ a ∈ l, Good a) ∧ l.length * P.bytesOf e ≤ reachBytes :=
  open_cellR ht hk hpos hsz (fun n' _ cs x => hel n' cs x) h hw

theorem cell_arg {t e : TypeId} {W : World} {base b0 : Nat} {r : Reach} {sp : Nat → Bool} {held : Bool} {v : Value} {d : DataW H} {ps : List MemPlace} (ht : P.underlying t = some (.slice e)) (hval : Value.okWide P W r b0 t v) (h : DataW.Trod enc P W base sp held t v d ps) :
    ∃ n, DataW.trod enc P W base sp held n t [v] = some (d, ps) := by
  have hv : Cell.okWide P W r b0 t v := by
    simp only [Value.okWide, ht] at hval; exact hval
  obtain ⟨n, h⟩ := h
  refine ⟨n, ?_⟩
  have : v.cells.toList = [v] := by
    simp only [Cell.okWide, Cell.ok, ht] at hv
    split at hv <;> simp_all [Value.cells]
  rw [← this]; exact h
end
end Go.Sx
namespace Go.Sx
open Go

variable {α : Type} {enc : α → List Value} {size : Nat}

theorem app_new {h : Heap} {bytes : Nat} {z : List Value} (hsz : ∀ x, (enc x).length = size) (h1 : ∀ x, ∀ u ∈ enc x, u.oneCell' = true) (hz : z.length = size)
    {a' : Option Addr} {m c2 : Nat} {l2 : List α} (hsrc : SL enc h (.slice a' m c2) l2) (hbound : (l2.length * 2 + 768) * bytes ≤ 281474976710656) {K : Value → Heap → Prop}
    (hk : ∀ v' h', OL enc size h' v' l2 → Chg [] h h' → (∀ b ∈ vblk v', h.size ≤ b) → K v' h') : appP h K size bytes z none 0 0 a' m := by
  refine app_own (l := []) hsz h1 hz OL.nil hsrc (by simpa using hbound) fun v' h' ho hc hb => hk v' h' (by simpa using ho) hc fun b hb' => ?_
  rcases hb b hb' with h | h
  · simp [ablk] at h
  · exact h

end Go.Sx
set_option maxRecDepth 100000
namespace Go.Proofs.YtgmkldaonkbjgaaGreatDoor.C
open Go Go.Sx Go.Sx.S

theorem mixed : Tryz.prog.follows .mixedOrders = true := by kernel_rfl

def f10r0 : List SOper := [
 o 2 (.mv (.const (.pointer none))),
 o 3 (.mv (i 0))]
def f10r1 : List SOper := [
 o 10 (.call 15 []),
 o 4 (.mv (t 10))]
def f10r2 : List SOper := [
 o 11 (.mv (t 0)),
 o 12 (.len (t 11)),
 o 13 (.mv (i 0))]
def f10r3 : List SOper := [
 o 14 (.cmp .lss (t 13) (t 12))]
def f10r4 : List SOper := [
 o 15 (.ixs 8 (t 11) (t 13)),
 o 16 (.ldn 8 (t 15)),
 o 6 (.new [(.string ⟨#[]⟩), (.int .i64 0), (.string ⟨#[]⟩), (.slice none 0 0), (.slice none 0 0), (.slice none 0 0), (.bool false), (.int .i64 0)]),
 q (.st 8 (t 6) (t 16))]
def f10r5 : List SOper := [
 o 18 (.mv (t 4)),
 o 19 (.nilck (t 18)),
 o 20 (.fa 0 (t 19)),
 o 21 (.ld1 (t 20)),
 o 22 (.nilck (t 21)),
 o 23 (.fa 0 (t 22)),
 o 24 (.ld1 (t 23)),
 o 25 (.fa 0 (t 6)),
 o 26 (.ld1 (t 25)),
 o 27 (.look .str (.pointer none) true (t 24) (t 26)),
 o 17 (.mv (t 27)),
 o 28 (.ext (t 17) 0),
 o 29 (.ext (t 17) 1),
 o 7 (.mv (t 28)),
 o 8 (.mv (t 29))]
def f10r6 : List SOper := [
 o 30 (.mv (t 8)),
 o 31 (.mv (t 30)),
 n 32 31 (.fa 0 (t 6)),
 n 33 31 (.ld1 (t 32)),
 n 34 31 (.lens (t 33)),
 n 35 31 (.cmp .gtr (t 34) (i 1048576)),
 o 36 (.pick (t 31) (b true) (t 35)),
 o 37 (.mv (t 36)),
 n 38 37 (.fa 1 (t 6)),
 n 39 37 (.ldn 7 (t 38)),
 n 40 37 (.call 21 [(t 39)]),
 n 41 37 (.un .not (t 40)),
 o 42 (.pick (t 37) (b true) (t 41))]
def f10r7 : List SOper := [
 o 2 (.mv (.const (.pointer none))),
 o 3 (.mv (i 2))]
def f10r8 : List SOper := [
 o 43 (.fa 1 (t 6)),
 o 44 (.ldn 7 (t 43)),
 o 45 (.call 22 [(t 44)]),
 o 9 (.new [(.int .i64 0), (.string ⟨#[]⟩), (.slice none 0 0), (.slice none 0 0), (.slice none 0 0), (.bool false), (.int .i64 0)]),
 q (.st 7 (t 9) (t 45))]
def f10r9 : List SOper := [
 o 46 (.mv (t 4)),
 o 47 (.nilck (t 46)),
 o 48 (.fa 0 (t 47)),
 o 49 (.ld1 (t 48)),
 o 50 (.nilck (t 49)),
 o 51 (.fa 0 (t 50)),
 o 52 (.ld1 (t 51)),
 o 53 (.fa 0 (t 6)),
 o 54 (.ld1 (t 53)),
 q (.mup .str (t 52) (t 54) (t 9))]
def f10r10 : List SOper := [
 o 55 (.ar .add (t 13) (i 1)),
 o 13 (.mv (t 55))]
def f10l11 : SCode := (.seq (.ops f10r3) (.seq (.cond (t 14) .skip (.exit 0)) (.seq (.block 1 (.seq (.ops f10r4) (.seq (.ops f10r5) (.seq (.seq (.ops f10r6) (.cond (t 42) (.seq (.ops f10r7) .ret) .skip)) (.seq (.ops f10r8) (.ops f10r9)))))) (.ops f10r10))))
def f10r12 : List SOper := [
 o 56 (.mv (t 0)),
 o 57 (.len (t 56)),
 o 58 (.cmp .gtr (t 57) (i 65536))]
def f10r13 : List SOper := [
 o 2 (.mv (.const (.pointer none))),
 o 3 (.mv (i 3))]
def f10r14 : List SOper := [
 o 59 (.mv (t 4)),
 o 2 (.mv (t 59)),
 o 3 (.mv (i 0))]
def f10 : SCode := (.seq (.ops f10r0) (.seq (.ops f10r1) (.seq (.seq (.ops f10r2) (.block 0 (.loop f10l11))) (.seq (.seq (.ops f10r12) (.cond (t 58) (.seq (.ops f10r13) .ret) .skip)) (.seq (.ops f10r14) .ret)))))
theorem f10_calls : Sound Tryz.prog 10 60 f10 [.t 2, .t 3] := sound_of mixed Tryz.func10 rfl (by kernel_rfl) (by kernel_rfl) (by kernel_rfl)

def f15r0 : List SOper := [
 o 0 (.mv (.const (.pointer none)))]
def f15r1 : List SOper := [
 o 1 (.mkm),
 o 2 (.build [(.map none)] [(0, 1)] [(t 1)]),
 o 3 (.box (t 2)),
 o 4 (.build [(.pointer none)] [(0, 1)] [(t 3)]),
 o 5 (.box (t 4)),
 o 0 (.mv (t 5))]
def f15 : SCode := (.seq (.ops f15r0) (.seq (.ops f15r1) .ret))
theorem f15_calls : Sound Tryz.prog 15 6 f15 [.t 0] := sound_of mixed Tryz.func15 rfl (by kernel_rfl) (by kernel_rfl) (by kernel_rfl)

def f16r0 : List SOper := [
 o 2 (.mv (.const (.slice none 0 0))),
 o 3 (.mv (i 0))]
def f16r1 : List SOper := [
 o 4 (.mv (.const (.slice none 0 0)))]
def f16r2 : List SOper := [
 o 5 (.mv (i 0))]
def f16r3 : List SOper := [
 o 8 (.mv (t 5)),
 o 9 (.mv (t 0)),
 o 10 (.len (t 9)),
 o 11 (.cmp .lss (t 8) (t 10))]
def f16r4 : List SOper := [
 o 15 (.mv (t 4)),
 o 16 (.mv (t 0)),
 o 17 (.mv (t 5)),
 o 18 (.ixs 8 (t 16) (t 17)),
 o 19 (.fa 0 (t 18)),
 o 20 (.ld1 (t 19)),
 o 21 (.call 31 [(t 15), (t 20)]),
 o 14 (.mv (t 21)),
 o 22 (.ext (t 14) 0),
 o 23 (.ext (t 14) 1),
 o 6 (.mv (t 22)),
 o 7 (.mv (t 23))]
def f16r5 : List SOper := [
 o 24 (.mv (t 7)),
 o 25 (.mv (t 24)),
 n 26 25 (.mv (t 0)),
 n 27 25 (.mv (t 5)),
 n 28 25 (.ixs 8 (t 26) (t 27)),
 n 29 25 (.fa 0 (t 28)),
 n 30 25 (.ld1 (t 29)),
 n 31 25 (.lens (t 30)),
 n 32 25 (.cmp .gtr (t 31) (i 1048576)),
 o 33 (.pick (t 25) (b true) (t 32)),
 o 34 (.mv (t 33)),
 n 35 34 (.mv (t 0)),
 n 36 34 (.mv (t 5)),
 n 37 34 (.ixs 8 (t 35) (t 36)),
 n 38 34 (.fa 1 (t 37)),
 n 39 34 (.ldn 7 (t 38)),
 n 40 34 (.call 32 [(t 39)]),
 n 41 34 (.un .not (t 40)),
 o 42 (.pick (t 34) (b true) (t 41))]
def f16r6 : List SOper := [
 o 2 (.mv (.const (.slice none 0 0))),
 o 3 (.mv (i 2))]
def f16r7 : List SOper := [
 o 43 (.mv (t 4)),
 o 44 (.mv (t 0)),
 o 45 (.mv (t 5)),
 o 46 (.ixs 8 (t 44) (t 45)),
 o 47 (.fa 0 (t 46)),
 o 48 (.ld1 (t 47)),
 o 49 (.mv (t 0)),
 o 50 (.mv (t 5)),
 o 51 (.ixs 8 (t 49) (t 50)),
 o 52 (.fa 1 (t 51)),
 o 53 (.ldn 7 (t 52)),
 o 54 (.call 33 [(t 43), (t 48), (t 53)]),
 o 4 (.mv (t 54))]
def f16r8 : List SOper := [
 o 12 (.mv (t 5)),
 o 13 (.ar .add (t 12) (i 1)),
 o 5 (.mv (t 13))]
def f16l9 : SCode := (.seq (.seq (.ops f16r3) (.cond (t 11) .skip (.exit 0))) (.seq (.block 1 (.seq (.ops f16r4) (.seq (.seq (.ops f16r5) (.cond (t 42) (.seq (.ops f16r6) .ret) .skip)) (.ops f16r7)))) (.ops f16r8)))
def f16r10 : List SOper := [
 o 55 (.mv (t 0)),
 o 56 (.len (t 55)),
 o 57 (.cmp .gtr (t 56) (i 65536))]
def f16r11 : List SOper := [
 o 2 (.mv (.const (.slice none 0 0))),
 o 3 (.mv (i 3))]
def f16r12 : List SOper := [
 o 58 (.mv (t 4)),
 o 2 (.mv (t 58)),
 o 3 (.mv (i 0))]
def f16 : SCode := (.seq (.ops f16r0) (.seq (.ops f16r1) (.seq (.seq (.ops f16r2) (.block 0 (.loop f16l9))) (.seq (.seq (.ops f16r10) (.cond (t 57) (.seq (.ops f16r11) .ret) .skip)) (.seq (.ops f16r12) .ret)))))
theorem f16_calls : Sound Tryz.prog 16 59 f16 [.t 2, .t 3] := sound_of mixed Tryz.func16 rfl (by kernel_rfl) (by kernel_rfl) (by kernel_rfl)

def f21r0 : List SOper := [
 o 1 (.box (t 0)),
 o 2 (.mv (b false))]
def f21r1 : List SOper := [
 o 6 (.fa 5 (t 1)),
 o 7 (.ld1 (t 6)),
 o 8 (.un .not (t 7)),
 o 9 (.mv (t 8)),
 g 10 9 (.fa 6 (t 1)),
 g 11 9 (.ld1 (t 10)),
 g 12 9 (.cmp .neq (t 11) (i 0)),
 o 13 (.pick (t 9) (t 12) (b false)),
 o 14 (.mv (t 13)),
 n 15 14 (.ldn 7 (t 1)),
 n 16 14 (.call 41 [(t 15)]),
 n 17 14 (.cmp .gtr (t 16) (i 65536)),
 o 18 (.pick (t 14) (b true) (t 17)),
 o 19 (.mv (t 18)),
 n 20 19 (.fa 1 (t 1)),
 n 21 19 (.ld1 (t 20)),
 n 22 19 (.bslice [(.string ⟨#[]⟩)] 1 [(0, 1)] [(t 21)]),
 n 23 19 (.call 42 [(t 22)]),
 n 24 19 (.un .not (t 23)),
 o 25 (.pick (t 19) (b true) (t 24)),
 o 26 (.mv (t 25)),
 n 27 26 (.fa 3 (t 1)),
 n 28 26 (.ld1 (t 27)),
 n 29 26 (.call 42 [(t 28)]),
 n 30 26 (.un .not (t 29)),
 o 31 (.pick (t 26) (b true) (t 30)),
 o 32 (.mv (t 31)),
 n 33 32 (.ldn 7 (t 1)),
 n 34 32 (.call 43 [(t 33)]),
 n 35 32 (.call 42 [(t 34)]),
 n 36 32 (.un .not (t 35)),
 o 37 (.pick (t 32) (b true) (t 36))]
def f21r2 : List SOper := [
 o 2 (.mv (b false))]
def f21r3 : List SOper := [
 o 38 (.fa 2 (t 1)),
 o 39 (.ld1 (t 38)),
 o 40 (.len (t 39)),
 o 41 (.fa 3 (t 1)),
 o 42 (.ld1 (t 41)),
 o 43 (.len (t 42)),
 o 44 (.fa 4 (t 1)),
 o 45 (.ld1 (t 44)),
 o 46 (.len (t 45)),
 o 3 (.mv (t 40)),
 o 4 (.mv (t 43)),
 o 5 (.mv (t 46))]
def f21r4 : List SOper := [
 o 47 (.fa 0 (t 1)),
 o 48 (.ld1 (t 47))]
def f21r5 : List SOper := [
 o 50 (.cmp .eql (t 48) (i 1)),
 o 49 (.mv (t 50))]
def f21r6 : List SOper := [
 o 51 (.mv (t 3)),
 o 52 (.mv (t 4)),
 o 53 (.ar .add (t 51) (t 52)),
 o 54 (.mv (t 5)),
 o 55 (.ar .add (t 53) (t 54)),
 o 56 (.cmp .eql (t 55) (i 0)),
 o 2 (.mv (t 56))]
def f21r7 : List SOper := [
 o 58 (.cmp .eql (t 48) (i 2)),
 o 57 (.mv (t 58))]
def f21r8 : List SOper := [
 o 59 (.mv (t 3)),
 o 60 (.cmp .gtr (t 59) (i 0)),
 o 61 (.mv (t 60)),
 g 62 61 (.mv (t 4)),
 g 63 61 (.mv (t 5)),
 g 64 61 (.ar .add (t 62) (t 63)),
 g 65 61 (.cmp .eql (t 64) (i 0)),
 o 66 (.pick (t 61) (t 65) (b false)),
 o 67 (.mv (t 66)),
 g 68 67 (.fa 1 (t 1)),
 g 69 67 (.ld1 (t 68)),
 g 70 67 (.cmp .eql (t 69) e),
 o 71 (.pick (t 67) (t 70) (b false)),
 o 72 (.mv (t 71)),
 g 73 72 (.fa 2 (t 1)),
 g 74 72 (.ld1 (t 73)),
 g 75 72 (.call 44 [(t 74), (u 45)]),
 o 76 (.pick (t 72) (t 75) (b false)),
 o 2 (.mv (t 76))]
def f21r9 : List SOper := [
 o 78 (.cmp .eql (t 48) (i 3)),
 o 77 (.mv (t 78))]
def f21r10 : List SOper := [
 o 79 (.mv (t 4)),
 o 80 (.cmp .gtr (t 79) (i 0)),
 o 81 (.mv (t 80)),
 g 82 81 (.mv (t 3)),
 g 83 81 (.mv (t 5)),
 g 84 81 (.ar .add (t 82) (t 83)),
 g 85 81 (.cmp .eql (t 84) (i 0)),
 o 86 (.pick (t 81) (t 85) (b false)),
 o 87 (.mv (t 86)),
 g 88 87 (.fa 1 (t 1)),
 g 89 87 (.ld1 (t 88)),
 g 90 87 (.cmp .eql (t 89) e),
 o 91 (.pick (t 87) (t 90) (b false)),
 o 2 (.mv (t 91))]
def f21r11 : List SOper := [
 o 93 (.cmp .eql (t 48) (i 4)),
 o 92 (.mv (t 93))]
def f21r12 : List SOper := [
 o 94 (.mv (t 4)),
 o 95 (.cmp .gtr (t 94) (i 0)),
 o 96 (.mv (t 95)),
 g 97 96 (.mv (t 3)),
 g 98 96 (.mv (t 5)),
 g 99 96 (.ar .add (t 97) (t 98)),
 g 100 96 (.cmp .eql (t 99) (i 0)),
 o 101 (.pick (t 96) (t 100) (b false)),
 o 102 (.mv (t 101)),
 g 103 102 (.fa 1 (t 1)),
 g 104 102 (.ld1 (t 103)),
 g 105 102 (.cmp .eql (t 104) e),
 o 106 (.pick (t 102) (t 105) (b false)),
 o 107 (.mv (t 106)),
 g 108 107 (.fa 3 (t 1)),
 g 109 107 (.ld1 (t 108)),
 g 110 107 (.call 47 [(t 109), (u 46)]),
 o 111 (.pick (t 107) (t 110) (b false)),
 o 2 (.mv (t 111))]
def f21r13 : List SOper := [
 o 113 (.cmp .eql (t 48) (i 5)),
 o 112 (.mv (t 113))]
def f21r14 : List SOper := [
 o 114 (.mv (t 5)),
 o 115 (.cmp .gtr (t 114) (i 0)),
 o 116 (.mv (t 115)),
 g 117 116 (.mv (t 3)),
 g 118 116 (.mv (t 4)),
 g 119 116 (.ar .add (t 117) (t 118)),
 g 120 116 (.cmp .eql (t 119) (i 0)),
 o 121 (.pick (t 116) (t 120) (b false)),
 o 122 (.mv (t 121)),
 g 123 122 (.fa 1 (t 1)),
 g 124 122 (.ld1 (t 123)),
 g 125 122 (.cmp .eql (t 124) e),
 o 126 (.pick (t 122) (t 125) (b false)),
 o 127 (.mv (t 126)),
 g 128 127 (.fa 4 (t 1)),
 g 129 127 (.ld1 (t 128)),
 g 130 127 (.call 48 [(t 129), (u 49)]),
 o 131 (.pick (t 127) (t 130) (b false)),
 o 132 (.mv (t 131)),
 g 133 132 (.fa 4 (t 1)),
 g 134 132 (.ld1 (t 133)),
 g 135 132 (.call 50 [(t 134)]),
 o 136 (.pick (t 132) (t 135) (b false)),
 o 2 (.mv (t 136))]
def f21r15 : List SOper := [
 o 2 (.mv (b false))]
def f21 : SCode := (.seq (.ops f21r0) (.seq (.seq (.ops f21r1) (.cond (t 37) (.seq (.ops f21r2) .ret) .skip)) (.seq (.ops f21r3) (.seq (.seq (.ops f21r4) (.block 0 (.seq (.ops f21r5) (.cond (t 49) (.seq (.ops f21r6) .ret) (.seq (.ops f21r7) (.cond (t 57) (.seq (.ops f21r8) .ret) (.seq (.ops f21r9) (.cond (t 77) (.seq (.ops f21r10) .ret) (.seq (.ops f21r11) (.cond (t 92) (.seq (.ops f21r12) .ret) (.seq (.ops f21r13) (.cond (t 112) (.seq (.ops f21r14) .ret) .skip)))))))))))) (.seq (.ops f21r15) .ret)))))
theorem f21_calls : Sound Tryz.prog 21 137 f21 [.t 2] := sound_of mixed Tryz.func21 rfl (by kernel_rfl) (by kernel_rfl) (by kernel_rfl)

def f22r0 : List SOper := [
 o 1 (.box (t 0)),
 o 2 (.new [(.int .i64 0), (.string ⟨#[]⟩), (.slice none 0 0), (.slice none 0 0), (.slice none 0 0), (.bool false), (.int .i64 0)])]
def f22r1 : List SOper := [
 o 3 (.fa 2 (t 1)),
 o 4 (.ld1 (t 3)),
 o 6 (.fa 3 (t 1)),
 o 7 (.ld1 (t 6)),
 o 9 (.fa 4 (t 1)),
 o 10 (.ld1 (t 9)),
 o 5 (.callq 51 [(t 4)]),
 o 12 (.fa 2 (t 1)),
 o 8 (.callq 52 [(t 7)]),
 o 11 (.callq 53 [(t 10)]),
 q (.st 1 (t 12) (t 5)),
 o 13 (.fa 3 (t 1)),
 q (.st 1 (t 13) (t 8)),
 o 14 (.fa 4 (t 1)),
 q (.st 1 (t 14) (t 11))]
def f22r2 : List SOper := [
 o 15 (.ldn 7 (t 1)),
 q (.st 7 (t 2) (t 15))]
def f22 : SCode := (.seq (.ops f22r0) (.seq (.ops f22r1) (.seq (.ops f22r2) .ret)))
theorem f22_calls : Sound Tryz.prog 22 16 f22 [.cn 2 7] := sound_of mixed Tryz.func22 rfl (by kernel_rfl) (by kernel_rfl) (by kernel_rfl)

def f23r0 : List SOper := [
 o 4 (.mv (b false))]
def f23r1 : List SOper := [
 o 5 (.mv (t 0)),
 o 6 (.call 28 [(t 5)]),
 o 7 (.mv (t 6)),
 n 8 7 (.mv (t 1)),
 n 9 7 (.call 28 [(t 8)]),
 o 10 (.pick (t 7) (b true) (t 9))]
def f23r2 : List SOper := [
 o 11 (.mv (t 0)),
 o 12 (.call 28 [(t 11)]),
 o 13 (.mv (t 12)),
 g 14 13 (.mv (t 1)),
 g 15 13 (.call 28 [(t 14)]),
 o 16 (.pick (t 13) (t 15) (b false)),
 o 4 (.mv (t 16))]
def f23r3 : List SOper := [
 o 17 (.mv (t 0)),
 o 18 (.nilck (t 17)),
 o 19 (.fa 0 (t 18)),
 o 20 (.ld1 (t 19)),
 o 21 (.nilck (t 20)),
 o 22 (.fa 0 (t 21)),
 o 23 (.ld1 (t 22)),
 o 24 (.mv (t 1)),
 o 25 (.nilck (t 24)),
 o 26 (.fa 0 (t 25)),
 o 27 (.ld1 (t 26)),
 o 28 (.nilck (t 27)),
 o 29 (.fa 0 (t 28)),
 o 30 (.ld1 (t 29)),
 o 31 (.call 54 [(t 23), (t 30), (u 55)]),
 o 4 (.mv (t 31))]
def f23 : SCode := (.seq (.ops f23r0) (.seq (.seq (.ops f23r1) (.cond (t 10) (.seq (.ops f23r2) .ret) .skip)) (.seq (.ops f23r3) .ret)))
theorem f23_calls : Sound Tryz.prog 23 32 f23 [.t 4] := sound_of mixed Tryz.func23 rfl (by kernel_rfl) (by kernel_rfl) (by kernel_rfl)

def f28r0 : List SOper := [
 o 2 (.mv (b false))]
def f28r1 : List SOper := [
 o 3 (.mv (t 0)),
 o 4 (.eqn 0 false (t 3)),
 o 5 (.mv (t 4)),
 n 6 5 (.mv (t 0)),
 n 7 5 (.nilck (t 6)),
 n 8 5 (.fa 0 (t 7)),
 n 9 5 (.ld1 (t 8)),
 n 10 5 (.eqn 0 false (t 9)),
 o 11 (.pick (t 5) (b true) (t 10)),
 o 2 (.mv (t 11))]
def f28 : SCode := (.seq (.ops f28r0) (.seq (.ops f28r1) .ret))
theorem f28_calls : Sound Tryz.prog 28 12 f28 [.t 2] := sound_of mixed Tryz.func28 rfl (by kernel_rfl) (by kernel_rfl) (by kernel_rfl)

def f29r0 : List SOper := [
 o 3 (.box (t 1)),
 o 4 (.mv (i 0))]
def f29p1 : List SOper := [
 o 12 (.fa 0 (t 3)),
 o 13 (.ld1 (t 12))]
def f29r1 : List SOper := [
 o 11 (.callq 77 []),
 o 14 (.look (.int .i64) (.agg #[(.bool false), (.bool false), (.bool false), (.int .i64 0), (.bool false), .nilFunc]) true (t 11) (t 13)),
 o 10 (.mv (t 14)),
 o 15 (.ext (t 10) 0),
 o 16 (.ext (t 10) 1),
 o 5 (.new [(.bool false), (.bool false), (.bool false), (.int .i64 0), (.bool false), .nilFunc]),
 q (.st 6 (t 5) (t 15)),
 o 6 (.mv (t 16))]
def f29s1 : List SOper := [
 o 5 (.new [(.bool false), (.bool false), (.bool false), (.int .i64 0), (.bool false), .nilFunc]),
 o 11 (.callq 77 []),
 o 14 (.look (.int .i64) (.agg #[(.bool false), (.bool false), (.bool false), (.int .i64 0), (.bool false), .nilFunc]) true (t 11) (t 13)),
 o 10 (.mv (t 14)),
 o 15 (.ext (t 10) 0),
 o 16 (.ext (t 10) 1),
 q (.st 6 (t 5) (t 15)),
 o 6 (.mv (t 16))]
def f29r2 : List SOper := [
 o 17 (.mv (t 6)),
 o 18 (.un .not (t 17)),
 o 19 (.mv (t 18)),
 n 20 19 (.fa 0 (t 5)),
 n 21 19 (.ld1 (t 20)),
 n 22 19 (.un .not (t 21)),
 n 23 19 (.mv (t 22)),
 g 24 23 (.fa 2 (t 3)),
 g 25 23 (.ld1 (t 24)),
 g 26 23 (.cmp .neq (t 25) e),
 n 27 19 (.pick (t 23) (t 26) (b false)),
 o 28 (.pick (t 19) (b true) (t 27)),
 o 29 (.mv (t 28)),
 n 30 29 (.fa 1 (t 5)),
 n 31 29 (.ld1 (t 30)),
 n 32 29 (.un .not (t 31)),
 n 33 29 (.mv (t 32)),
 g 34 33 (.fa 3 (t 3)),
 g 35 33 (.ld1 (t 34)),
 g 36 33 (.cmp .neq (t 35) e),
 n 37 29 (.pick (t 33) (t 36) (b false)),
 o 38 (.pick (t 29) (b true) (t 37)),
 o 39 (.mv (t 38)),
 n 40 39 (.fa 2 (t 5)),
 n 41 39 (.ld1 (t 40)),
 n 42 39 (.un .not (t 41)),
 n 43 39 (.mv (t 42)),
 g 44 43 (.fa 4 (t 3)),
 g 45 43 (.ld1 (t 44)),
 g 46 43 (.cmp .neq (t 45) (i 0)),
 n 47 39 (.pick (t 43) (t 46) (b false)),
 o 48 (.pick (t 39) (b true) (t 47))]
def f29r3 : List SOper := [
 o 4 (.mv (i 2))]
def f29r4 : List SOper := [
 o 49 (.fa 1 (t 3)),
 o 50 (.ld1 (t 49)),
 o 51 (.fa 2 (t 3)),
 o 52 (.ld1 (t 51)),
 o 53 (.fa 3 (t 3)),
 o 54 (.ld1 (t 53)),
 o 55 (.bslice [(.string ⟨#[]⟩), (.string ⟨#[]⟩), (.string ⟨#[]⟩)] 3 [(0, 1), (1, 1), (2, 1)] [(t 50), (t 52), (t 54)]),
 o 56 (.call 42 [(t 55)]),
 o 57 (.un .not (t 56))]
def f29r5 : List SOper := [
 o 4 (.mv (i 3))]
def f29r6 : List SOper := [
 o 59 (.mv (t 0)),
 o 60 (.fa 1 (t 3)),
 o 61 (.ld1 (t 60)),
 o 62 (.call 78 [(t 59), (t 61)]),
 o 58 (.mv (t 62)),
 o 63 (.ext (t 58) 0),
 o 64 (.ext (t 58) 1),
 o 7 (.new [(.int .i64 0), (.string ⟨#[]⟩), (.slice none 0 0), (.slice none 0 0), (.slice none 0 0), (.bool false), (.int .i64 0)]),
 q (.st 7 (t 7) (t 63)),
 o 8 (.mv (t 64))]
def f29r7 : List SOper := [
 o 66 (.mv (t 8)),
 o 67 (.un .not (t 66)),
 o 68 (.mv (t 67)),
 g 69 68 (.fa 4 (t 5)),
 g 70 68 (.ld1 (t 69)),
 g 71 68 (.un .not (t 70)),
 o 72 (.pick (t 68) (t 71) (b false)),
 o 65 (.mv (t 72))]
def f29r8 : List SOper := [
 o 4 (.mv (i 5))]
def f29r9 : List SOper := [
 o 74 (.mv (t 8)),
 o 75 (.un .not (t 74)),
 o 73 (.mv (t 75))]
def f29r10 : List SOper := [
 o 76 (.fa 3 (t 5)),
 o 77 (.ld1 (t 76)),
 o 78 (.fa 0 (t 7)),
 q (.st 1 (t 78) (t 77))]
def f29r11 : List SOper := [
 o 80 (.fa 3 (t 5)),
 o 81 (.ld1 (t 80)),
 o 82 (.cmp .neq (t 81) (i 0)),
 o 83 (.mv (t 82)),
 g 84 83 (.fa 0 (t 7)),
 g 85 83 (.ld1 (t 84)),
 g 86 83 (.fa 3 (t 5)),
 g 87 83 (.ld1 (t 86)),
 g 88 83 (.cmp .neq (t 85) (t 87)),
 o 89 (.pick (t 83) (t 88) (b false)),
 o 79 (.mv (t 89))]
def f29r12 : List SOper := [
 o 4 (.mv (i 170))]
def f29r13 : List SOper := [
 o 90 (.fa 5 (t 5)),
 o 91 (.ld1 (t 90)),
 o 92 (.ldn 5 (t 3)),
 o 93 (.callv (t 91) [(t 7), (t 92)]),
 o 9 (.mv (t 93))]
def f29r14 : List SOper := [
 o 94 (.mv (t 9)),
 o 95 (.cmp .neq (t 94) (i 0))]
def f29r15 : List SOper := [
 o 96 (.mv (t 9)),
 o 4 (.mv (t 96))]
def f29r16 : List SOper := [
 o 107 (.fa 0 (t 7)),
 o 108 (.ld1 (t 107)),
 o 109 (.cmp .neq (t 108) (i 1)),
 o 110 (.mv (t 109)),
 g 111 110 (.ldn 7 (t 7)),
 g 112 110 (.call 41 [(t 111)]),
 g 113 110 (.cmp .eql (t 112) (i 0)),
 o 114 (.pick (t 110) (t 113) (b false)),
 o 106 (.mv (t 114))]
def f29r17 : List SOper := [
 o 115 (.mv (t 0)),
 o 116 (.nilck (t 115)),
 o 117 (.fa 0 (t 116)),
 o 118 (.ld1 (t 117)),
 o 119 (.nilck (t 118)),
 o 120 (.fa 0 (t 119)),
 o 121 (.ld1 (t 120)),
 o 122 (.fa 1 (t 3)),
 o 123 (.ld1 (t 122)),
 q (.mdel .str (t 121) (t 123))]
def f29r18 : List SOper := [
 o 125 (.ldn 7 (t 7)),
 o 126 (.call 41 [(t 125)]),
 o 127 (.cmp .gtr (t 126) (i 65536)),
 o 128 (.mv (t 127)),
 n 129 128 (.mv (t 8)),
 n 130 128 (.un .not (t 129)),
 n 131 128 (.mv (t 130)),
 g 132 131 (.mv (t 0)),
 g 133 131 (.nilck (t 132)),
 g 134 131 (.fa 0 (t 133)),
 g 135 131 (.ld1 (t 134)),
 g 136 131 (.nilck (t 135)),
 g 137 131 (.fa 0 (t 136)),
 g 138 131 (.ld1 (t 137)),
 g 139 131 (.lenm (t 138)),
 g 140 131 (.cmp .geq (t 139) (i 65536)),
 n 141 128 (.pick (t 131) (t 140) (b false)),
 o 142 (.pick (t 128) (b true) (t 141)),
 o 124 (.mv (t 142))]
def f29r19 : List SOper := [
 o 4 (.mv (i 3))]
def f29r20 : List SOper := [
 o 97 (.mv (t 0)),
 o 98 (.nilck (t 97)),
 o 99 (.fa 0 (t 98)),
 o 100 (.ld1 (t 99)),
 o 101 (.nilck (t 100)),
 o 102 (.fa 0 (t 101)),
 o 103 (.ld1 (t 102)),
 o 104 (.fa 1 (t 3)),
 o 105 (.ld1 (t 104)),
 q (.mup .str (t 103) (t 105) (t 7))]
def f29r21 : List SOper := [
 o 4 (.mv (i 0))]
def f29 : SCode := (.seq (.ops f29r0) (.seq (.two f29p1 f29r1 f29s1) (.seq (.seq (.ops f29r2) (.cond (t 48) (.seq (.ops f29r3) .ret) .skip)) (.seq (.seq (.ops f29r4) (.cond (t 57) (.seq (.ops f29r5) .ret) .skip)) (.seq (.ops f29r6) (.seq (.block 0 (.seq (.ops f29r7) (.cond (t 65) (.seq (.ops f29r8) .ret) (.seq (.ops f29r9) (.cond (t 73) (.ops f29r10) (.seq (.ops f29r11) (.cond (t 79) (.seq (.ops f29r12) .ret) .skip))))))) (.seq (.seq (.ops f29r13) (.seq (.ops f29r14) (.cond (t 95) (.seq (.ops f29r15) .ret) .skip))) (.seq (.block 1 (.seq (.ops f29r16) (.cond (t 106) (.ops f29r17) (.seq (.ops f29r18) (.cond (t 124) (.seq (.ops f29r19) .ret) (.ops f29r20)))))) (.seq (.ops f29r21) .ret)))))))))
def f31r0 : List SOper := [
 o 4 (.mv (i 0)),
 o 5 (.mv (b false))]
def f31r1 : List SOper := [
 o 6 (.mv (i 0))]
def f31r2 : List SOper := [
 o 7 (.mv (t 6)),
 o 8 (.mv (t 0)),
 o 9 (.len (t 8)),
 o 10 (.cmp .lss (t 7) (t 9))]
def f31r3 : List SOper := [
 o 13 (.mv (t 0)),
 o 14 (.mv (t 6)),
 o 15 (.ixs 8 (t 13) (t 14)),
 o 16 (.fa 0 (t 15)),
 o 17 (.ld1 (t 16)),
 o 18 (.mv (t 1)),
 o 19 (.cmp .eql (t 17) (t 18))]
def f31r4 : List SOper := [
 o 20 (.mv (t 6)),
 o 4 (.mv (t 20)),
 o 5 (.mv (b true))]
def f31r5 : List SOper := [
 o 21 (.mv (t 1)),
 o 22 (.mv (t 0)),
 o 23 (.mv (t 6)),
 o 24 (.ixs 8 (t 22) (t 23)),
 o 25 (.fa 0 (t 24)),
 o 26 (.ld1 (t 25)),
 o 27 (.call 80 [(t 21), (t 26)])]
def f31r6 : List SOper := [
 o 28 (.mv (t 6)),
 o 4 (.mv (t 28)),
 o 5 (.mv (b false))]
def f31r7 : List SOper := [
 o 11 (.mv (t 6)),
 o 12 (.ar .add (t 11) (i 1)),
 o 6 (.mv (t 12))]
def f31l8 : SCode := (.seq (.seq (.ops f31r2) (.cond (t 10) .skip (.exit 0))) (.seq (.block 1 (.seq (.seq (.ops f31r3) (.cond (t 19) (.seq (.ops f31r4) .ret) .skip)) (.seq (.ops f31r5) (.cond (t 27) (.seq (.ops f31r6) .ret) .skip)))) (.ops f31r7)))
def f31r9 : List SOper := [
 o 29 (.mv (t 0)),
 o 30 (.len (t 29)),
 o 4 (.mv (t 30)),
 o 5 (.mv (b false))]
def f31 : SCode := (.seq (.ops f31r0) (.seq (.seq (.ops f31r1) (.block 0 (.loop f31l8))) (.seq (.ops f31r9) .ret)))
theorem f31_calls : Sound Tryz.prog 31 31 f31 [.t 4, .t 5] := sound_of mixed Tryz.func31 rfl (by kernel_rfl) (by kernel_rfl) (by kernel_rfl)

def f32r0 : List SOper := [
 o 1 (.box (t 0)),
 o 2 (.mv (b false))]
def f32r1 : List SOper := [
 o 10 (.fa 2 (t 1)),
 o 11 (.ld1 (t 10)),
 o 12 (.len (t 11)),
 o 13 (.fa 3 (t 1)),
 o 14 (.ld1 (t 13)),
 o 15 (.len (t 14)),
 o 16 (.fa 4 (t 1)),
 o 17 (.ld1 (t 16)),
 o 18 (.len (t 17)),
 o 3 (.mv (t 12)),
 o 4 (.mv (t 15)),
 o 5 (.mv (t 18))]
def f32r2 : List SOper := [
 o 19 (.fa 5 (t 1)),
 o 20 (.ld1 (t 19)),
 o 21 (.un .not (t 20)),
 o 22 (.mv (t 21)),
 g 23 22 (.fa 6 (t 1)),
 g 24 22 (.ld1 (t 23)),
 g 25 22 (.cmp .neq (t 24) (i 0)),
 o 26 (.pick (t 22) (t 25) (b false)),
 o 27 (.mv (t 26)),
 n 28 27 (.mv (t 3)),
 n 29 27 (.cmp .gtr (t 28) (i 65536)),
 o 30 (.pick (t 27) (b true) (t 29)),
 o 31 (.mv (t 30)),
 n 32 31 (.mv (t 4)),
 n 33 31 (.cmp .gtr (t 32) (i 65536)),
 o 34 (.pick (t 31) (b true) (t 33)),
 o 35 (.mv (t 34)),
 n 36 35 (.mv (t 5)),
 n 37 35 (.cmp .gtr (t 36) (i 65536)),
 o 38 (.pick (t 35) (b true) (t 37)),
 o 39 (.mv (t 38)),
 n 40 39 (.fa 1 (t 1)),
 n 41 39 (.ld1 (t 40)),
 n 42 39 (.lens (t 41)),
 n 43 39 (.cmp .gtr (t 42) (i 1048576)),
 o 44 (.pick (t 39) (b true) (t 43)),
 o 45 (.mv (t 44)),
 n 46 45 (.fa 0 (t 1)),
 n 47 45 (.ld1 (t 46)),
 n 48 45 (.cmp .neq (t 47) (i 1)),
 n 49 45 (.mv (t 48)),
 g 50 49 (.fa 1 (t 1)),
 g 51 49 (.ld1 (t 50)),
 g 52 49 (.cmp .neq (t 51) e),
 n 53 45 (.pick (t 49) (t 52) (b false)),
 o 54 (.pick (t 45) (b true) (t 53))]
def f32r3 : List SOper := [
 o 2 (.mv (b false))]
def f32r4 : List SOper := [
 o 6 (.mv (i 0))]
def f32r5 : List SOper := [
 o 55 (.mv (t 6)),
 o 56 (.mv (t 3)),
 o 57 (.cmp .lss (t 55) (t 56))]
def f32r6 : List SOper := [
 o 60 (.fa 2 (t 1)),
 o 61 (.ld1 (t 60)),
 o 62 (.mv (t 6)),
 o 63 (.ixs 2 (t 61) (t 62)),
 o 64 (.fa 0 (t 63)),
 o 65 (.ld1 (t 64)),
 o 66 (.lens (t 65)),
 o 67 (.cmp .gtr (t 66) (i 1048576)),
 o 68 (.mv (t 67)),
 n 69 68 (.fa 2 (t 1)),
 n 70 68 (.ld1 (t 69)),
 n 71 68 (.mv (t 6)),
 n 72 68 (.ixs 2 (t 70) (t 71)),
 n 73 68 (.fa 1 (t 72)),
 n 74 68 (.ld1 (t 73)),
 n 75 68 (.lens (t 74)),
 n 76 68 (.cmp .gtr (t 75) (i 1048576)),
 o 77 (.pick (t 68) (b true) (t 76)),
 o 78 (.mv (t 77)),
 n 79 78 (.mv (t 6)),
 n 80 78 (.cmp .gtr (t 79) (i 0)),
 n 81 78 (.mv (t 80)),
 g 82 81 (.fa 2 (t 1)),
 g 83 81 (.ld1 (t 82)),
 g 84 81 (.mv (t 6)),
 g 85 81 (.ar .sub (t 84) (i 1)),
 g 86 81 (.ixs 2 (t 83) (t 85)),
 g 87 81 (.fa 0 (t 86)),
 g 88 81 (.ld1 (t 87)),
 g 89 81 (.fa 2 (t 1)),
 g 90 81 (.ld1 (t 89)),
 g 91 81 (.mv (t 6)),
 g 92 81 (.ixs 2 (t 90) (t 91)),
 g 93 81 (.fa 0 (t 92)),
 g 94 81 (.ld1 (t 93)),
 g 95 81 (.call 80 [(t 88), (t 94)]),
 g 96 81 (.un .not (t 95)),
 n 97 78 (.pick (t 81) (t 96) (b false)),
 o 98 (.pick (t 78) (b true) (t 97))]
def f32r7 : List SOper := [
 o 2 (.mv (b false))]
def f32r8 : List SOper := [
 o 58 (.mv (t 6)),
 o 59 (.ar .add (t 58) (i 1)),
 o 6 (.mv (t 59))]
def f32l9 : SCode := (.seq (.seq (.ops f32r5) (.cond (t 57) .skip (.exit 0))) (.seq (.block 1 (.seq (.ops f32r6) (.cond (t 98) (.seq (.ops f32r7) .ret) .skip))) (.ops f32r8)))
def f32r10 : List SOper := [
 o 7 (.mv (i 0))]
def f32r11 : List SOper := [
 o 99 (.mv (t 7)),
 o 100 (.mv (t 4)),
 o 101 (.cmp .lss (t 99) (t 100))]
def f32r12 : List SOper := [
 o 104 (.fa 3 (t 1)),
 o 105 (.ld1 (t 104)),
 o 106 (.mv (t 7)),
 o 107 (.ixs 1 (t 105) (t 106)),
 o 108 (.ld1 (t 107)),
 o 109 (.lens (t 108)),
 o 110 (.cmp .gtr (t 109) (i 1048576)),
 o 111 (.mv (t 110)),
 n 112 111 (.fa 0 (t 1)),
 n 113 111 (.ld1 (t 112)),
 n 114 111 (.cmp .eql (t 113) (i 4)),
 n 115 111 (.mv (t 114)),
 g 116 115 (.mv (t 7)),
 g 117 115 (.cmp .gtr (t 116) (i 0)),
 n 118 111 (.pick (t 115) (t 117) (b false)),
 n 119 111 (.mv (t 118)),
 g 120 119 (.fa 3 (t 1)),
 g 121 119 (.ld1 (t 120)),
 g 122 119 (.mv (t 7)),
 g 123 119 (.ar .sub (t 122) (i 1)),
 g 124 119 (.ixs 1 (t 121) (t 123)),
 g 125 119 (.ld1 (t 124)),
 g 126 119 (.fa 3 (t 1)),
 g 127 119 (.ld1 (t 126)),
 g 128 119 (.mv (t 7)),
 g 129 119 (.ixs 1 (t 127) (t 128)),
 g 130 119 (.ld1 (t 129)),
 g 131 119 (.call 80 [(t 125), (t 130)]),
 g 132 119 (.un .not (t 131)),
 n 133 111 (.pick (t 119) (t 132) (b false)),
 o 134 (.pick (t 111) (b true) (t 133))]
def f32r13 : List SOper := [
 o 2 (.mv (b false))]
def f32r14 : List SOper := [
 o 102 (.mv (t 7)),
 o 103 (.ar .add (t 102) (i 1)),
 o 7 (.mv (t 103))]
def f32l15 : SCode := (.seq (.seq (.ops f32r11) (.cond (t 101) .skip (.exit 2))) (.seq (.block 3 (.seq (.ops f32r12) (.cond (t 134) (.seq (.ops f32r13) .ret) .skip))) (.ops f32r14)))
def f32r16 : List SOper := [
 o 8 (.mv (i 0))]
def f32r17 : List SOper := [
 o 135 (.mv (t 8)),
 o 136 (.mv (t 5)),
 o 137 (.cmp .lss (t 135) (t 136))]
def f32r18 : List SOper := [
 o 140 (.fa 4 (t 1)),
 o 141 (.ld1 (t 140)),
 o 142 (.mv (t 8)),
 o 143 (.ixs 2 (t 141) (t 142)),
 o 144 (.fa 0 (t 143)),
 o 145 (.ld1 (t 144)),
 o 146 (.lens (t 145)),
 o 147 (.cmp .gtr (t 146) (i 1048576)),
 o 148 (.mv (t 147)),
 n 149 148 (.mv (t 8)),
 n 150 148 (.cmp .gtr (t 149) (i 0)),
 n 151 148 (.mv (t 150)),
 g 152 151 (.fa 4 (t 1)),
 g 153 151 (.ld1 (t 152)),
 g 154 151 (.mv (t 8)),
 g 155 151 (.ar .sub (t 154) (i 1)),
 g 156 151 (.ixs 2 (t 153) (t 155)),
 g 157 151 (.ldn 2 (t 156)),
 g 158 151 (.fa 4 (t 1)),
 g 159 151 (.ld1 (t 158)),
 g 160 151 (.mv (t 8)),
 g 161 151 (.ixs 2 (t 159) (t 160)),
 g 162 151 (.ldn 2 (t 161)),
 g 163 151 (.call 81 [(t 157), (t 162)]),
 g 164 151 (.un .not (t 163)),
 n 165 148 (.pick (t 151) (t 164) (b false)),
 o 166 (.pick (t 148) (b true) (t 165))]
def f32r19 : List SOper := [
 o 2 (.mv (b false))]
def f32r20 : List SOper := [
 o 9 (.mv (i 0))]
def f32r21 : List SOper := [
 o 167 (.mv (t 9)),
 o 168 (.mv (t 8)),
 o 169 (.cmp .lss (t 167) (t 168))]
def f32r22 : List SOper := [
 o 172 (.fa 4 (t 1)),
 o 173 (.ld1 (t 172)),
 o 174 (.mv (t 9)),
 o 175 (.ixs 2 (t 173) (t 174)),
 o 176 (.fa 0 (t 175)),
 o 177 (.ld1 (t 176)),
 o 178 (.fa 4 (t 1)),
 o 179 (.ld1 (t 178)),
 o 180 (.mv (t 8)),
 o 181 (.ixs 2 (t 179) (t 180)),
 o 182 (.fa 0 (t 181)),
 o 183 (.ld1 (t 182)),
 o 184 (.cmp .eql (t 177) (t 183))]
def f32r23 : List SOper := [
 o 2 (.mv (b false))]
def f32r24 : List SOper := [
 o 170 (.mv (t 9)),
 o 171 (.ar .add (t 170) (i 1)),
 o 9 (.mv (t 171))]
def f32l25 : SCode := (.seq (.seq (.ops f32r21) (.cond (t 169) .skip (.exit 6))) (.seq (.block 7 (.seq (.ops f32r22) (.cond (t 184) (.seq (.ops f32r23) .ret) .skip))) (.ops f32r24)))
def f32r26 : List SOper := [
 o 138 (.mv (t 8)),
 o 139 (.ar .add (t 138) (i 1)),
 o 8 (.mv (t 139))]
def f32l27 : SCode := (.seq (.seq (.ops f32r17) (.cond (t 137) .skip (.exit 4))) (.seq (.block 5 (.seq (.seq (.ops f32r18) (.cond (t 166) (.seq (.ops f32r19) .ret) .skip)) (.seq (.ops f32r20) (.block 6 (.loop f32l25))))) (.ops f32r26)))
def f32r28 : List SOper := [
 o 185 (.fa 0 (t 1)),
 o 186 (.ld1 (t 185))]
def f32r29 : List SOper := [
 o 188 (.cmp .eql (t 186) (i 1)),
 o 187 (.mv (t 188))]
def f32r30 : List SOper := [
 o 189 (.mv (t 3)),
 o 190 (.mv (t 4)),
 o 191 (.ar .add (t 189) (t 190)),
 o 192 (.mv (t 5)),
 o 193 (.ar .add (t 191) (t 192)),
 o 194 (.cmp .eql (t 193) (i 0)),
 o 2 (.mv (t 194))]
def f32r31 : List SOper := [
 o 196 (.cmp .eql (t 186) (i 2)),
 o 195 (.mv (t 196))]
def f32r32 : List SOper := [
 o 197 (.mv (t 3)),
 o 198 (.cmp .gtr (t 197) (i 0)),
 o 199 (.mv (t 198)),
 g 200 199 (.mv (t 4)),
 g 201 199 (.mv (t 5)),
 g 202 199 (.ar .add (t 200) (t 201)),
 g 203 199 (.cmp .eql (t 202) (i 0)),
 o 204 (.pick (t 199) (t 203) (b false)),
 o 2 (.mv (t 204))]
def f32r33 : List SOper := [
 o 206 (.cmp .eql (t 186) (i 3)),
 o 205 (.mv (t 206))]
def f32r34 : List SOper := [
 o 207 (.cmp .eql (t 186) (i 4)),
 o 205 (.mv (t 207))]
def f32r35 : List SOper := [
 o 208 (.mv (t 4)),
 o 209 (.cmp .gtr (t 208) (i 0)),
 o 210 (.mv (t 209)),
 g 211 210 (.mv (t 3)),
 g 212 210 (.mv (t 5)),
 g 213 210 (.ar .add (t 211) (t 212)),
 g 214 210 (.cmp .eql (t 213) (i 0)),
 o 215 (.pick (t 210) (t 214) (b false)),
 o 2 (.mv (t 215))]
def f32r36 : List SOper := [
 o 217 (.cmp .eql (t 186) (i 5)),
 o 216 (.mv (t 217))]
def f32r37 : List SOper := [
 o 218 (.mv (t 5)),
 o 219 (.cmp .gtr (t 218) (i 0)),
 o 220 (.mv (t 219)),
 g 221 220 (.mv (t 3)),
 g 222 220 (.mv (t 4)),
 g 223 220 (.ar .add (t 221) (t 222)),
 g 224 220 (.cmp .eql (t 223) (i 0)),
 o 225 (.pick (t 220) (t 224) (b false)),
 o 2 (.mv (t 225))]
def f32r38 : List SOper := [
 o 2 (.mv (b false))]
def f32 : SCode := (.seq (.ops f32r0) (.seq (.ops f32r1) (.seq (.seq (.ops f32r2) (.cond (t 54) (.seq (.ops f32r3) .ret) .skip)) (.seq (.seq (.ops f32r4) (.block 0 (.loop f32l9))) (.seq (.seq (.ops f32r10) (.block 2 (.loop f32l15))) (.seq (.seq (.ops f32r16) (.block 4 (.loop f32l27))) (.seq (.seq (.ops f32r28) (.block 8 (.seq (.ops f32r29) (.cond (t 187) (.seq (.ops f32r30) .ret) (.seq (.ops f32r31) (.cond (t 195) (.seq (.ops f32r32) .ret) (.seq (.seq (.ops f32r33) (.cond (t 205) .skip (.ops f32r34))) (.cond (t 205) (.seq (.ops f32r35) .ret) (.seq (.ops f32r36) (.cond (t 216) (.seq (.ops f32r37) .ret) .skip)))))))))) (.seq (.ops f32r38) .ret))))))))
theorem f32_calls : Sound Tryz.prog 32 226 f32 [.t 2] := sound_of mixed Tryz.func32 rfl (by kernel_rfl) (by kernel_rfl) (by kernel_rfl)

def f33r0 : List SOper := [
 o 5 (.box (t 2)),
 o 6 (.mv (.const (.slice none 0 0)))]
def f33r1 : List SOper := [
 o 11 (.mv (t 0)),
 o 12 (.mv (t 1)),
 o 13 (.call 31 [(t 11), (t 12)]),
 o 10 (.mv (t 13)),
 o 14 (.ext (t 10) 0),
 o 15 (.ext (t 10) 1),
 o 7 (.mv (t 14)),
 o 8 (.mv (t 15))]
def f33r2 : List SOper := [
 o 16 (.mv (t 0)),
 o 17 (.mv (t 7)),
 o 18 (.slc 8 (t 16) none (some (t 17))),
 o 19 (.appn 8 128 [(.string ⟨#[]⟩), (.int .i64 0), (.string ⟨#[]⟩), (.slice none 0 0), (.slice none 0 0), (.slice none 0 0), (.bool false), (.int .i64 0)] (t 18)),
 o 9 (.mv (t 19))]
def f33r3 : List SOper := [
 o 20 (.mv (t 9)),
 o 21 (.mv (t 1)),
 o 22 (.ldn 7 (t 5)),
 o 23 (.build [(.string ⟨#[]⟩), (.int .i64 0), (.string ⟨#[]⟩), (.slice none 0 0), (.slice none 0 0), (.slice none 0 0), (.bool false), (.int .i64 0)] [(0, 1), (1, 7)] [(t 21), (t 22)]),
 o 24 (.bslice [(.string ⟨#[]⟩), (.int .i64 0), (.string ⟨#[]⟩), (.slice none 0 0), (.slice none 0 0), (.slice none 0 0), (.bool false), (.int .i64 0)] 1 [(0, 8)] [(t 23)]),
 o 25 (.app 8 128 [(.string ⟨#[]⟩), (.int .i64 0), (.string ⟨#[]⟩), (.slice none 0 0), (.slice none 0 0), (.slice none 0 0), (.bool false), (.int .i64 0)] (t 20) (t 24)),
 o 9 (.mv (t 25))]
def f33r4 : List SOper := [
 o 26 (.mv (t 8))]
def f33r5 : List SOper := [
 o 27 (.mv (t 7)),
 o 28 (.ar .add (t 27) (i 1)),
 o 7 (.mv (t 28))]
def f33r6 : List SOper := [
 o 29 (.mv (t 9)),
 o 30 (.mv (t 0)),
 o 31 (.mv (t 7)),
 o 32 (.slc 8 (t 30) (some (t 31)) none),
 o 33 (.app 8 128 [(.string ⟨#[]⟩), (.int .i64 0), (.string ⟨#[]⟩), (.slice none 0 0), (.slice none 0 0), (.slice none 0 0), (.bool false), (.int .i64 0)] (t 29) (t 32)),
 o 6 (.mv (t 33))]
def f33 : SCode := (.seq (.ops f33r0) (.seq (.ops f33r1) (.seq (.ops f33r2) (.seq (.ops f33r3) (.seq (.seq (.ops f33r4) (.cond (t 26) (.ops f33r5) .skip)) (.seq (.ops f33r6) .ret))))))
theorem f33_calls : Sound Tryz.prog 33 34 f33 [.t 6] := sound_of mixed Tryz.func33 rfl (by kernel_rfl) (by kernel_rfl) (by kernel_rfl)

def f39r0 : List SOper := [
 o 1 (.box (t 0)),
 o 2 (.mv (.const .nilFunc))]
def f39r1 : List SOper := [
 o 3 (.fn 92 [] [(t 1)]),
 o 2 (.mv (t 3))]
def f39 : SCode := (.seq (.ops f39r0) (.seq (.ops f39r1) .ret))
theorem f39_calls : Sound Tryz.prog 39 4 f39 [.t 2] := sound_of mixed Tryz.func39 rfl (by kernel_rfl) (by kernel_rfl) (by kernel_rfl)

def f40r0 : List SOper := [
 o 2 (.box (t 0)),
 o 3 (.box (t 1)),
 o 4 (.mv (b false))]
def f40r1 : List SOper := [
 o 8 (.fa 0 (t 2)),
 o 9 (.ld1 (t 8)),
 o 10 (.fa 0 (t 3)),
 o 11 (.ld1 (t 10)),
 o 12 (.cmp .neq (t 9) (t 11)),
 o 13 (.mv (t 12)),
 n 14 13 (.fa 1 (t 2)),
 n 15 13 (.ld1 (t 14)),
 n 16 13 (.fa 1 (t 3)),
 n 17 13 (.ld1 (t 16)),
 n 18 13 (.cmp .neq (t 15) (t 17)),
 o 19 (.pick (t 13) (b true) (t 18)),
 o 20 (.mv (t 19)),
 n 21 20 (.fa 5 (t 2)),
 n 22 20 (.ld1 (t 21)),
 n 23 20 (.fa 5 (t 3)),
 n 24 20 (.ld1 (t 23)),
 n 25 20 (.cmpb true (t 22) (t 24)),
 o 26 (.pick (t 20) (b true) (t 25)),
 o 27 (.mv (t 26)),
 n 28 27 (.fa 6 (t 2)),
 n 29 27 (.ld1 (t 28)),
 n 30 27 (.fa 6 (t 3)),
 n 31 27 (.ld1 (t 30)),
 n 32 27 (.cmp .neq (t 29) (t 31)),
 o 33 (.pick (t 27) (b true) (t 32)),
 o 34 (.mv (t 33)),
 n 35 34 (.fa 2 (t 2)),
 n 36 34 (.ld1 (t 35)),
 n 37 34 (.len (t 36)),
 n 38 34 (.fa 2 (t 3)),
 n 39 34 (.ld1 (t 38)),
 n 40 34 (.len (t 39)),
 n 41 34 (.cmp .neq (t 37) (t 40)),
 o 42 (.pick (t 34) (b true) (t 41)),
 o 43 (.mv (t 42)),
 n 44 43 (.fa 3 (t 2)),
 n 45 43 (.ld1 (t 44)),
 n 46 43 (.len (t 45)),
 n 47 43 (.fa 3 (t 3)),
 n 48 43 (.ld1 (t 47)),
 n 49 43 (.len (t 48)),
 n 50 43 (.cmp .neq (t 46) (t 49)),
 o 51 (.pick (t 43) (b true) (t 50)),
 o 52 (.mv (t 51)),
 n 53 52 (.fa 4 (t 2)),
 n 54 52 (.ld1 (t 53)),
 n 55 52 (.len (t 54)),
 n 56 52 (.fa 4 (t 3)),
 n 57 52 (.ld1 (t 56)),
 n 58 52 (.len (t 57)),
 n 59 52 (.cmp .neq (t 55) (t 58)),
 o 60 (.pick (t 52) (b true) (t 59))]
def f40r2 : List SOper := [
 o 4 (.mv (b false))]
def f40r3 : List SOper := [
 o 5 (.mv (i 0))]
def f40r4 : List SOper := [
 o 61 (.mv (t 5)),
 o 62 (.fa 2 (t 2)),
 o 63 (.ld1 (t 62)),
 o 64 (.len (t 63)),
 o 65 (.cmp .lss (t 61) (t 64))]
def f40r5 : List SOper := [
 o 68 (.fa 2 (t 2)),
 o 69 (.ld1 (t 68)),
 o 70 (.mv (t 5)),
 o 71 (.ixs 2 (t 69) (t 70)),
 o 72 (.ldn 2 (t 71)),
 o 73 (.fa 2 (t 3)),
 o 74 (.ld1 (t 73)),
 o 75 (.mv (t 5)),
 o 76 (.ixs 2 (t 74) (t 75)),
 o 77 (.ldn 2 (t 76)),
 o 78 (.eqa true [.str, .str] (t 72) (t 77))]
def f40r6 : List SOper := [
 o 4 (.mv (b false))]
def f40r7 : List SOper := [
 o 66 (.mv (t 5)),
 o 67 (.ar .add (t 66) (i 1)),
 o 5 (.mv (t 67))]
def f40l8 : SCode := (.seq (.seq (.ops f40r4) (.cond (t 65) .skip (.exit 0))) (.seq (.block 1 (.seq (.ops f40r5) (.cond (t 78) (.seq (.ops f40r6) .ret) .skip))) (.ops f40r7)))
def f40r9 : List SOper := [
 o 6 (.mv (i 0))]
def f40r10 : List SOper := [
 o 79 (.mv (t 6)),
 o 80 (.fa 3 (t 2)),
 o 81 (.ld1 (t 80)),
 o 82 (.len (t 81)),
 o 83 (.cmp .lss (t 79) (t 82))]
def f40r11 : List SOper := [
 o 86 (.fa 3 (t 2)),
 o 87 (.ld1 (t 86)),
 o 88 (.mv (t 6)),
 o 89 (.ixs 1 (t 87) (t 88)),
 o 90 (.ld1 (t 89)),
 o 91 (.fa 3 (t 3)),
 o 92 (.ld1 (t 91)),
 o 93 (.mv (t 6)),
 o 94 (.ixs 1 (t 92) (t 93)),
 o 95 (.ld1 (t 94)),
 o 96 (.cmp .neq (t 90) (t 95))]
def f40r12 : List SOper := [
 o 4 (.mv (b false))]
def f40r13 : List SOper := [
 o 84 (.mv (t 6)),
 o 85 (.ar .add (t 84) (i 1)),
 o 6 (.mv (t 85))]
def f40l14 : SCode := (.seq (.seq (.ops f40r10) (.cond (t 83) .skip (.exit 2))) (.seq (.block 3 (.seq (.ops f40r11) (.cond (t 96) (.seq (.ops f40r12) .ret) .skip))) (.ops f40r13)))
def f40r15 : List SOper := [
 o 7 (.mv (i 0))]
def f40r16 : List SOper := [
 o 97 (.mv (t 7)),
 o 98 (.fa 4 (t 2)),
 o 99 (.ld1 (t 98)),
 o 100 (.len (t 99)),
 o 101 (.cmp .lss (t 97) (t 100))]
def f40r17 : List SOper := [
 o 104 (.fa 4 (t 2)),
 o 105 (.ld1 (t 104)),
 o 106 (.mv (t 7)),
 o 107 (.ixs 2 (t 105) (t 106)),
 o 108 (.ldn 2 (t 107)),
 o 109 (.fa 4 (t 3)),
 o 110 (.ld1 (t 109)),
 o 111 (.mv (t 7)),
 o 112 (.ixs 2 (t 110) (t 111)),
 o 113 (.ldn 2 (t 112)),
 o 114 (.eqa true [.str, (.int .i64)] (t 108) (t 113))]
def f40r18 : List SOper := [
 o 4 (.mv (b false))]
def f40r19 : List SOper := [
 o 102 (.mv (t 7)),
 o 103 (.ar .add (t 102) (i 1)),
 o 7 (.mv (t 103))]
def f40l20 : SCode := (.seq (.seq (.ops f40r16) (.cond (t 101) .skip (.exit 4))) (.seq (.block 5 (.seq (.ops f40r17) (.cond (t 114) (.seq (.ops f40r18) .ret) .skip))) (.ops f40r19)))
def f40r21 : List SOper := [
 o 4 (.mv (b true))]
def f40 : SCode := (.seq (.ops f40r0) (.seq (.seq (.ops f40r1) (.cond (t 60) (.seq (.ops f40r2) .ret) .skip)) (.seq (.seq (.ops f40r3) (.block 0 (.loop f40l8))) (.seq (.seq (.ops f40r9) (.block 2 (.loop f40l14))) (.seq (.seq (.ops f40r15) (.block 4 (.loop f40l20))) (.seq (.ops f40r21) .ret))))))
theorem f40_calls : Sound Tryz.prog 40 115 f40 [.t 4] := sound_of mixed Tryz.func40 rfl (by kernel_rfl) (by kernel_rfl) (by kernel_rfl)

def f41r0 : List SOper := [
 o 1 (.box (t 0)),
 o 2 (.mv (i 0))]
def f41r1 : List SOper := [
 o 3 (.fa 2 (t 1)),
 o 4 (.ld1 (t 3)),
 o 5 (.len (t 4)),
 o 6 (.fa 3 (t 1)),
 o 7 (.ld1 (t 6)),
 o 8 (.len (t 7)),
 o 9 (.ar .add (t 5) (t 8)),
 o 10 (.fa 4 (t 1)),
 o 11 (.ld1 (t 10)),
 o 12 (.len (t 11)),
 o 13 (.ar .add (t 9) (t 12)),
 o 2 (.mv (t 13))]
def f41 : SCode := (.seq (.ops f41r0) (.seq (.ops f41r1) .ret))
theorem f41_calls : Sound Tryz.prog 41 14 f41 [.t 2] := sound_of mixed Tryz.func41 rfl (by kernel_rfl) (by kernel_rfl) (by kernel_rfl)

def f42r0 : List SOper := [
 o 2 (.mv (b false))]
def f42r1 : List SOper := [
 o 3 (.mv (t 0)),
 o 4 (.call 95 [(t 3), (u 96)]),
 o 5 (.un .not (t 4)),
 o 2 (.mv (t 5))]
def f42 : SCode := (.seq (.ops f42r0) (.seq (.ops f42r1) .ret))
theorem f42_calls : Sound Tryz.prog 42 6 f42 [.t 2] := sound_of mixed Tryz.func42 rfl (by kernel_rfl) (by kernel_rfl) (by kernel_rfl)

def f43r0 : List SOper := [
 o 1 (.box (t 0)),
 o 2 (.mv (.const (.slice none 0 0)))]
def f43r1 : List SOper := [
 o 3 (.mv (.const (.slice none 0 0)))]
def f43r2 : List SOper := [
 o 8 (.fa 2 (t 1)),
 o 9 (.ld1 (t 8)),
 o 10 (.len (t 9)),
 o 11 (.mv (i 0))]
def f43r3 : List SOper := [
 o 12 (.cmp .lss (t 11) (t 10))]
def f43r4 : List SOper := [
 o 13 (.ixs 2 (t 9) (t 11)),
 o 14 (.ldn 2 (t 13)),
 o 5 (.new [(.string ⟨#[]⟩), (.string ⟨#[]⟩)]),
 q (.st 2 (t 5) (t 14))]
def f43r5 : List SOper := [
 o 15 (.mv (t 3)),
 o 16 (.fa 0 (t 5)),
 o 17 (.ld1 (t 16)),
 o 18 (.fa 1 (t 5)),
 o 19 (.ld1 (t 18)),
 o 20 (.bslice [(.string ⟨#[]⟩), (.string ⟨#[]⟩)] 2 [(0, 1), (1, 1)] [(t 17), (t 19)]),
 o 21 (.app 1 16 [(.string ⟨#[]⟩)] (t 15) (t 20)),
 o 3 (.mv (t 21))]
def f43r6 : List SOper := [
 o 22 (.ar .add (t 11) (i 1)),
 o 11 (.mv (t 22))]
def f43l7 : SCode := (.seq (.ops f43r3) (.seq (.cond (t 12) .skip (.exit 0)) (.seq (.block 1 (.seq (.ops f43r4) (.ops f43r5))) (.ops f43r6))))
def f43r8 : List SOper := [
 o 23 (.fa 4 (t 1)),
 o 24 (.ld1 (t 23)),
 o 25 (.len (t 24)),
 o 26 (.mv (i 0))]
def f43r9 : List SOper := [
 o 27 (.cmp .lss (t 26) (t 25))]
def f43r10 : List SOper := [
 o 28 (.ixs 2 (t 24) (t 26)),
 o 29 (.ldn 2 (t 28)),
 o 7 (.new [(.string ⟨#[]⟩), (.int .i64 0)]),
 q (.st 2 (t 7) (t 29))]
def f43r11 : List SOper := [
 o 30 (.mv (t 3)),
 o 31 (.fa 0 (t 7)),
 o 32 (.ld1 (t 31)),
 o 33 (.bslice [(.string ⟨#[]⟩)] 1 [(0, 1)] [(t 32)]),
 o 34 (.app 1 16 [(.string ⟨#[]⟩)] (t 30) (t 33)),
 o 3 (.mv (t 34))]
def f43r12 : List SOper := [
 o 35 (.ar .add (t 26) (i 1)),
 o 26 (.mv (t 35))]
def f43l13 : SCode := (.seq (.ops f43r9) (.seq (.cond (t 27) .skip (.exit 2)) (.seq (.block 3 (.seq (.ops f43r10) (.ops f43r11))) (.ops f43r12))))
def f43r14 : List SOper := [
 o 36 (.mv (t 3)),
 o 2 (.mv (t 36))]
def f43 : SCode := (.seq (.ops f43r0) (.seq (.ops f43r1) (.seq (.seq (.ops f43r2) (.block 0 (.loop f43l7))) (.seq (.seq (.ops f43r8) (.block 2 (.loop f43l13))) (.seq (.ops f43r14) .ret)))))
theorem f43_calls : Sound Tryz.prog 43 37 f43 [.t 2] := sound_of mixed Tryz.func43 rfl (by kernel_rfl) (by kernel_rfl) (by kernel_rfl)

def f44r0 : List SOper := [
 o 4 (.mv (b false))]
def f44r1 : List SOper := [
 o 5 (.mv (i 1))]
def f44r2 : List SOper := [
 o 6 (.mv (t 5)),
 o 7 (.mv (t 0)),
 o 8 (.len (t 7)),
 o 9 (.cmp .lss (t 6) (t 8))]
def f44r3 : List SOper := [
 o 12 (.mv (t 1)),
 o 13 (.mv (t 0)),
 o 14 (.mv (t 5)),
 o 15 (.ar .sub (t 14) (i 1)),
 o 16 (.ixs 2 (t 13) (t 15)),
 o 17 (.ldn 2 (t 16)),
 o 18 (.mv (t 0)),
 o 19 (.mv (t 5)),
 o 20 (.ixs 2 (t 18) (t 19)),
 o 21 (.ldn 2 (t 20)),
 o 22 (.callv (t 12) [(t 17), (t 21)]),
 o 23 (.cmp .geq (t 22) (i 0))]
def f44r4 : List SOper := [
 o 4 (.mv (b false))]
def f44r5 : List SOper := [
 o 10 (.mv (t 5)),
 o 11 (.ar .add (t 10) (i 1)),
 o 5 (.mv (t 11))]
def f44l6 : SCode := (.seq (.seq (.ops f44r2) (.cond (t 9) .skip (.exit 0))) (.seq (.block 1 (.seq (.ops f44r3) (.cond (t 23) (.seq (.ops f44r4) .ret) .skip))) (.ops f44r5)))
def f44r7 : List SOper := [
 o 4 (.mv (b true))]
def f44 : SCode := (.seq (.ops f44r0) (.seq (.seq (.ops f44r1) (.block 0 (.loop f44l6))) (.seq (.ops f44r7) .ret)))
theorem f44_calls : Sound Tryz.prog 44 24 f44 [.t 4] := sound_of mixed Tryz.func44 rfl (by kernel_rfl) (by kernel_rfl) (by kernel_rfl)

def f45r0 : List SOper := [
 o 2 (.box (t 0)),
 o 3 (.box (t 1)),
 o 4 (.mv (i 0))]
def f45r1 : List SOper := [
 o 5 (.fa 0 (t 2)),
 o 6 (.ld1 (t 5)),
 o 7 (.fa 0 (t 3)),
 o 8 (.ld1 (t 7)),
 o 9 (.call 46 [(t 6), (t 8)]),
 o 4 (.mv (t 9))]
def f45 : SCode := (.seq (.ops f45r0) (.seq (.ops f45r1) .ret))
theorem f45_calls : Sound Tryz.prog 45 10 f45 [.t 4] := sound_of mixed Tryz.func45 rfl (by kernel_rfl) (by kernel_rfl) (by kernel_rfl)

def f46r0 : List SOper := [
 o 4 (.mv (i 0))]
def f46r1 : List SOper := [
 o 5 (.mv (t 0)),
 o 6 (.mv (t 1)),
 o 7 (.call 97 [(t 5), (t 6)]),
 o 4 (.mv (t 7))]
def f46 : SCode := (.seq (.ops f46r0) (.seq (.ops f46r1) .ret))
theorem f46_calls : Sound Tryz.prog 46 8 f46 [.t 4] := sound_of mixed Tryz.func46 rfl (by kernel_rfl) (by kernel_rfl) (by kernel_rfl)

def f47r0 : List SOper := [
 o 4 (.mv (b false))]
def f47r1 : List SOper := [
 o 5 (.mv (i 1))]
def f47r2 : List SOper := [
 o 6 (.mv (t 5)),
 o 7 (.mv (t 0)),
 o 8 (.len (t 7)),
 o 9 (.cmp .lss (t 6) (t 8))]
def f47r3 : List SOper := [
 o 12 (.mv (t 1)),
 o 13 (.mv (t 0)),
 o 14 (.mv (t 5)),
 o 15 (.ar .sub (t 14) (i 1)),
 o 16 (.ixs 1 (t 13) (t 15)),
 o 17 (.ld1 (t 16)),
 o 18 (.mv (t 0)),
 o 19 (.mv (t 5)),
 o 20 (.ixs 1 (t 18) (t 19)),
 o 21 (.ld1 (t 20)),
 o 22 (.callv (t 12) [(t 17), (t 21)]),
 o 23 (.cmp .geq (t 22) (i 0))]
def f47r4 : List SOper := [
 o 4 (.mv (b false))]
def f47r5 : List SOper := [
 o 10 (.mv (t 5)),
 o 11 (.ar .add (t 10) (i 1)),
 o 5 (.mv (t 11))]
def f47l6 : SCode := (.seq (.seq (.ops f47r2) (.cond (t 9) .skip (.exit 0))) (.seq (.block 1 (.seq (.ops f47r3) (.cond (t 23) (.seq (.ops f47r4) .ret) .skip))) (.ops f47r5)))
def f47r7 : List SOper := [
 o 4 (.mv (b true))]
def f47 : SCode := (.seq (.ops f47r0) (.seq (.seq (.ops f47r1) (.block 0 (.loop f47l6))) (.seq (.ops f47r7) .ret)))
theorem f47_calls : Sound Tryz.prog 47 24 f47 [.t 4] := sound_of mixed Tryz.func47 rfl (by kernel_rfl) (by kernel_rfl) (by kernel_rfl)

def f48r0 : List SOper := [
 o 4 (.mv (b false))]
def f48r1 : List SOper := [
 o 5 (.mv (i 1))]
def f48r2 : List SOper := [
 o 6 (.mv (t 5)),
 o 7 (.mv (t 0)),
 o 8 (.len (t 7)),
 o 9 (.cmp .lss (t 6) (t 8))]
def f48r3 : List SOper := [
 o 12 (.mv (t 1)),
 o 13 (.mv (t 0)),
 o 14 (.mv (t 5)),
 o 15 (.ar .sub (t 14) (i 1)),
 o 16 (.ixs 2 (t 13) (t 15)),
 o 17 (.ldn 2 (t 16)),
 o 18 (.mv (t 0)),
 o 19 (.mv (t 5)),
 o 20 (.ixs 2 (t 18) (t 19)),
 o 21 (.ldn 2 (t 20)),
 o 22 (.callv (t 12) [(t 17), (t 21)]),
 o 23 (.cmp .geq (t 22) (i 0))]
def f48r4 : List SOper := [
 o 4 (.mv (b false))]
def f48r5 : List SOper := [
 o 10 (.mv (t 5)),
 o 11 (.ar .add (t 10) (i 1)),
 o 5 (.mv (t 11))]
def f48l6 : SCode := (.seq (.seq (.ops f48r2) (.cond (t 9) .skip (.exit 0))) (.seq (.block 1 (.seq (.ops f48r3) (.cond (t 23) (.seq (.ops f48r4) .ret) .skip))) (.ops f48r5)))
def f48r7 : List SOper := [
 o 4 (.mv (b true))]
def f48 : SCode := (.seq (.ops f48r0) (.seq (.seq (.ops f48r1) (.block 0 (.loop f48l6))) (.seq (.ops f48r7) .ret)))
theorem f48_calls : Sound Tryz.prog 48 24 f48 [.t 4] := sound_of mixed Tryz.func48 rfl (by kernel_rfl) (by kernel_rfl) (by kernel_rfl)

def f49r0 : List SOper := [
 o 2 (.box (t 0)),
 o 3 (.box (t 1)),
 o 4 (.mv (i 0))]
def f49r1 : List SOper := [
 o 6 (.fa 1 (t 2)),
 o 7 (.ld1 (t 6)),
 o 8 (.fa 1 (t 3)),
 o 9 (.ld1 (t 8)),
 o 10 (.cmp .lss (t 7) (t 9)),
 o 5 (.mv (t 10))]
def f49r2 : List SOper := [
 o 4 (.mv (i (-1)))]
def f49r3 : List SOper := [
 o 12 (.fa 1 (t 2)),
 o 13 (.ld1 (t 12)),
 o 14 (.fa 1 (t 3)),
 o 15 (.ld1 (t 14)),
 o 16 (.cmp .gtr (t 13) (t 15)),
 o 11 (.mv (t 16))]
def f49r4 : List SOper := [
 o 4 (.mv (i 1))]
def f49r5 : List SOper := [
 o 17 (.fa 0 (t 2)),
 o 18 (.ld1 (t 17)),
 o 19 (.fa 0 (t 3)),
 o 20 (.ld1 (t 19)),
 o 21 (.call 46 [(t 18), (t 20)]),
 o 4 (.mv (t 21))]
def f49 : SCode := (.seq (.ops f49r0) (.seq (.block 0 (.seq (.ops f49r1) (.cond (t 5) (.seq (.ops f49r2) .ret) (.seq (.ops f49r3) (.cond (t 11) (.seq (.ops f49r4) .ret) .skip))))) (.seq (.ops f49r5) .ret)))
theorem f49_calls : Sound Tryz.prog 49 22 f49 [.t 4] := sound_of mixed Tryz.func49 rfl (by kernel_rfl) (by kernel_rfl) (by kernel_rfl)

def f50r0 : List SOper := [
 o 2 (.mv (b false))]
def f50r1 : List SOper := [
 o 6 (.mkm),
 o 3 (.mv (t 6))]
def f50r2 : List SOper := [
 o 7 (.mv (t 0)),
 o 8 (.len (t 7)),
 o 9 (.mv (i 0))]
def f50r3 : List SOper := [
 o 10 (.cmp .lss (t 9) (t 8))]
def f50r4 : List SOper := [
 o 11 (.ixs 2 (t 7) (t 9)),
 o 12 (.ldn 2 (t 11)),
 o 5 (.new [(.string ⟨#[]⟩), (.int .i64 0)]),
 q (.st 2 (t 5) (t 12))]
def f50r5 : List SOper := [
 o 13 (.mv (t 3)),
 o 14 (.fa 0 (t 5)),
 o 15 (.ld1 (t 14)),
 o 16 (.look .str (.int .i64 0) false (t 13) (t 15)),
 o 17 (.ar .add (t 16) (i 1)),
 q (.mup .str (t 13) (t 15) (t 17))]
def f50r6 : List SOper := [
 o 18 (.ar .add (t 9) (i 1)),
 o 9 (.mv (t 18))]
def f50l7 : SCode := (.seq (.ops f50r3) (.seq (.cond (t 10) .skip (.exit 0)) (.seq (.block 1 (.seq (.ops f50r4) (.ops f50r5))) (.ops f50r6))))
def f50r8 : List SOper := [
 o 19 (.mv (t 3)),
 o 20 (.lenm (t 19)),
 o 21 (.mv (t 0)),
 o 22 (.len (t 21)),
 o 23 (.cmp .eql (t 20) (t 22)),
 o 2 (.mv (t 23))]
def f50 : SCode := (.seq (.ops f50r0) (.seq (.ops f50r1) (.seq (.seq (.ops f50r2) (.block 0 (.loop f50l7))) (.seq (.ops f50r8) .ret))))
theorem f50_calls : Sound Tryz.prog 50 24 f50 [.t 2] := sound_of mixed Tryz.func50 rfl (by kernel_rfl) (by kernel_rfl) (by kernel_rfl)

def f51r0 : List SOper := [
 o 2 (.mv (.const (.slice none 0 0)))]
def f51r1 : List SOper := [
 o 3 (.mv (t 0)),
 o 4 (.eqn 1 false (t 3))]
def f51r2 : List SOper := [
 o 2 (.mv (.const (.slice none 0 0)))]
def f51r3 : List SOper := [
 o 5 (.bslice [] 0 [] []),
 o 6 (.mv (t 0)),
 o 7 (.app 2 32 [(.string ⟨#[]⟩), (.string ⟨#[]⟩)] (t 5) (t 6)),
 o 2 (.mv (t 7))]
def f51 : SCode := (.seq (.ops f51r0) (.seq (.seq (.ops f51r1) (.cond (t 4) (.seq (.ops f51r2) .ret) .skip)) (.seq (.ops f51r3) .ret)))
theorem f51_calls : Sound Tryz.prog 51 8 f51 [.t 2] := sound_of mixed Tryz.func51 rfl (by kernel_rfl) (by kernel_rfl) (by kernel_rfl)

def f52r0 : List SOper := [
 o 2 (.mv (.const (.slice none 0 0)))]
def f52r1 : List SOper := [
 o 3 (.mv (t 0)),
 o 4 (.eqn 1 false (t 3))]
def f52r2 : List SOper := [
 o 2 (.mv (.const (.slice none 0 0)))]
def f52r3 : List SOper := [
 o 5 (.bslice [] 0 [] []),
 o 6 (.mv (t 0)),
 o 7 (.app 1 16 [(.string ⟨#[]⟩)] (t 5) (t 6)),
 o 2 (.mv (t 7))]
def f52 : SCode := (.seq (.ops f52r0) (.seq (.seq (.ops f52r1) (.cond (t 4) (.seq (.ops f52r2) .ret) .skip)) (.seq (.ops f52r3) .ret)))
theorem f52_calls : Sound Tryz.prog 52 8 f52 [.t 2] := sound_of mixed Tryz.func52 rfl (by kernel_rfl) (by kernel_rfl) (by kernel_rfl)

def f53r0 : List SOper := [
 o 2 (.mv (.const (.slice none 0 0)))]
def f53r1 : List SOper := [
 o 3 (.mv (t 0)),
 o 4 (.eqn 1 false (t 3))]
def f53r2 : List SOper := [
 o 2 (.mv (.const (.slice none 0 0)))]
def f53r3 : List SOper := [
 o 5 (.bslice [] 0 [] []),
 o 6 (.mv (t 0)),
 o 7 (.app 2 24 [(.string ⟨#[]⟩), (.int .i64 0)] (t 5) (t 6)),
 o 2 (.mv (t 7))]
def f53 : SCode := (.seq (.ops f53r0) (.seq (.seq (.ops f53r1) (.cond (t 4) (.seq (.ops f53r2) .ret) .skip)) (.seq (.ops f53r3) .ret)))
theorem f53_calls : Sound Tryz.prog 53 8 f53 [.t 2] := sound_of mixed Tryz.func53 rfl (by kernel_rfl) (by kernel_rfl) (by kernel_rfl)

def f78r0 : List SOper := [
 o 4 (.new [(.int .i64 0), (.string ⟨#[]⟩), (.slice none 0 0), (.slice none 0 0), (.slice none 0 0), (.bool false), (.int .i64 0)]),
 o 5 (.mv (b false))]
def f78r1 : List SOper := [
 o 6 (.mv (t 0)),
 o 7 (.call 28 [(t 6)]),
 o 8 (.mv (t 7)),
 n 9 8 (.mv (t 0)),
 n 10 8 (.nilck (t 9)),
 n 11 8 (.fa 0 (t 10)),
 n 12 8 (.ld1 (t 11)),
 n 13 8 (.nilck (t 12)),
 n 14 8 (.fa 0 (t 13)),
 n 15 8 (.ld1 (t 14)),
 n 16 8 (.mv (t 1)),
 n 17 8 (.look .str (.pointer none) false (t 15) (t 16)),
 n 18 8 (.eqn 0 false (t 17)),
 o 19 (.pick (t 8) (b true) (t 18))]
def f78r2 : List SOper := [
 o 20 (.build [(.int .i64 0), (.string ⟨#[]⟩), (.slice none 0 0), (.slice none 0 0), (.slice none 0 0), (.bool false), (.int .i64 0)] [] []),
 q (.st 7 (t 4) (t 20)),
 o 5 (.mv (b false))]
def f78r3 : List SOper := [
 o 21 (.mv (t 0)),
 o 22 (.nilck (t 21)),
 o 23 (.fa 0 (t 22)),
 o 24 (.ld1 (t 23)),
 o 25 (.nilck (t 24)),
 o 26 (.fa 0 (t 25)),
 o 27 (.ld1 (t 26)),
 o 28 (.mv (t 1)),
 o 29 (.look .str (.pointer none) false (t 27) (t 28)),
 o 30 (.nilck (t 29)),
 o 31 (.ldn 7 (t 30)),
 o 32 (.call 22 [(t 31)]),
 q (.st 7 (t 4) (t 32)),
 o 5 (.mv (b true))]
def f78 : SCode := (.seq (.ops f78r0) (.seq (.seq (.ops f78r1) (.cond (t 19) (.seq (.ops f78r2) .ret) .skip)) (.seq (.ops f78r3) .ret)))
theorem f78_calls : Sound Tryz.prog 78 33 f78 [.cn 4 7, .t 5] := sound_of mixed Tryz.func78 rfl (by kernel_rfl) (by kernel_rfl) (by kernel_rfl)

def f80r0 : List SOper := [
 o 4 (.mv (b false))]
def f80r1 : List SOper := [
 o 5 (.mv (i 0))]
def f80r2 : List SOper := [
 o 6 (.mv (t 5)),
 o 7 (.mv (t 0)),
 o 8 (.lens (t 7)),
 o 9 (.cmp .lss (t 6) (t 8)),
 o 10 (.mv (t 9)),
 g 11 10 (.mv (t 5)),
 g 12 10 (.mv (t 1)),
 g 13 10 (.lens (t 12)),
 g 14 10 (.cmp .lss (t 11) (t 13)),
 o 15 (.pick (t 10) (t 14) (b false))]
def f80r3 : List SOper := [
 o 18 (.mv (t 0)),
 o 19 (.mv (t 5)),
 o 20 (.ixc (t 18) (t 19)),
 o 21 (.mv (t 1)),
 o 22 (.mv (t 5)),
 o 23 (.ixc (t 21) (t 22)),
 o 24 (.cmp .neq (t 20) (t 23))]
def f80r4 : List SOper := [
 o 25 (.mv (t 0)),
 o 26 (.mv (t 5)),
 o 27 (.ixc (t 25) (t 26)),
 o 28 (.mv (t 1)),
 o 29 (.mv (t 5)),
 o 30 (.ixc (t 28) (t 29)),
 o 31 (.cmp .lss (t 27) (t 30)),
 o 4 (.mv (t 31))]
def f80r5 : List SOper := [
 o 16 (.mv (t 5)),
 o 17 (.ar .add (t 16) (i 1)),
 o 5 (.mv (t 17))]
def f80l6 : SCode := (.seq (.seq (.ops f80r2) (.cond (t 15) .skip (.exit 0))) (.seq (.block 1 (.seq (.ops f80r3) (.cond (t 24) (.seq (.ops f80r4) .ret) .skip))) (.ops f80r5)))
def f80r7 : List SOper := [
 o 32 (.mv (t 0)),
 o 33 (.lens (t 32)),
 o 34 (.mv (t 1)),
 o 35 (.lens (t 34)),
 o 36 (.cmp .lss (t 33) (t 35)),
 o 4 (.mv (t 36))]
def f80 : SCode := (.seq (.ops f80r0) (.seq (.seq (.ops f80r1) (.block 0 (.loop f80l6))) (.seq (.ops f80r7) .ret)))
theorem f80_calls : Sound Tryz.prog 80 37 f80 [.t 4] := sound_of mixed Tryz.func80 rfl (by kernel_rfl) (by kernel_rfl) (by kernel_rfl)

def f81r0 : List SOper := [
 o 2 (.box (t 0)),
 o 3 (.box (t 1)),
 o 4 (.mv (b false))]
def f81r1 : List SOper := [
 o 5 (.fa 1 (t 2)),
 o 6 (.ld1 (t 5)),
 o 7 (.fa 1 (t 3)),
 o 8 (.ld1 (t 7)),
 o 9 (.cmp .lss (t 6) (t 8)),
 o 10 (.mv (t 9)),
 n 11 10 (.fa 1 (t 2)),
 n 12 10 (.ld1 (t 11)),
 n 13 10 (.fa 1 (t 3)),
 n 14 10 (.ld1 (t 13)),
 n 15 10 (.cmp .eql (t 12) (t 14)),
 n 16 10 (.mv (t 15)),
 g 17 16 (.fa 0 (t 2)),
 g 18 16 (.ld1 (t 17)),
 g 19 16 (.fa 0 (t 3)),
 g 20 16 (.ld1 (t 19)),
 g 21 16 (.call 80 [(t 18), (t 20)]),
 n 22 10 (.pick (t 16) (t 21) (b false)),
 o 23 (.pick (t 10) (b true) (t 22)),
 o 4 (.mv (t 23))]
def f81 : SCode := (.seq (.ops f81r0) (.seq (.ops f81r1) .ret))
theorem f81_calls : Sound Tryz.prog 81 24 f81 [.t 4] := sound_of mixed Tryz.func81 rfl (by kernel_rfl) (by kernel_rfl) (by kernel_rfl)

def f85r0 : List SOper := [
 o 6 (.new [(.int .i64 0), (.string ⟨#[]⟩), (.slice none 0 0), (.slice none 0 0), (.slice none 0 0), (.bool false), (.int .i64 0)]),
 o 7 (.mv (b false))]
def f85r1 : List SOper := [
 o 11 (.mv (t 0)),
 o 12 (.mv (t 1)),
 o 13 (.call 31 [(t 11), (t 12)]),
 o 10 (.mv (t 13)),
 o 14 (.ext (t 10) 0),
 o 15 (.ext (t 10) 1),
 o 8 (.mv (t 14)),
 o 9 (.mv (t 15))]
def f85r2 : List SOper := [
 o 16 (.mv (t 9)),
 o 17 (.un .not (t 16)),
 o 18 (.mv (t 17)),
 n 19 18 (.mv (t 0)),
 n 20 18 (.mv (t 8)),
 n 21 18 (.ixs 8 (t 19) (t 20)),
 n 22 18 (.fa 1 (t 21)),
 n 23 18 (.fa 5 (t 22)),
 n 24 18 (.ld1 (t 23)),
 n 25 18 (.mv (t 24)),
 g 26 25 (.mv (t 0)),
 g 27 25 (.mv (t 8)),
 g 28 25 (.ixs 8 (t 26) (t 27)),
 g 29 25 (.fa 1 (t 28)),
 g 30 25 (.fa 6 (t 29)),
 g 31 25 (.ld1 (t 30)),
 g 32 25 (.mv (t 2)),
 g 33 25 (.cmp .leq (t 31) (t 32)),
 n 34 18 (.pick (t 25) (t 33) (b false)),
 o 35 (.pick (t 18) (b true) (t 34))]
def f85r3 : List SOper := [
 o 36 (.build [(.int .i64 0), (.string ⟨#[]⟩), (.slice none 0 0), (.slice none 0 0), (.slice none 0 0), (.bool false), (.int .i64 0)] [] []),
 q (.st 7 (t 6) (t 36)),
 o 7 (.mv (b false))]
def f85r4 : List SOper := [
 o 37 (.mv (t 0)),
 o 38 (.mv (t 8)),
 o 39 (.ixs 8 (t 37) (t 38)),
 o 40 (.fa 1 (t 39)),
 o 41 (.ldn 7 (t 40)),
 q (.st 7 (t 6) (t 41)),
 o 7 (.mv (b true))]
def f85 : SCode := (.seq (.ops f85r0) (.seq (.ops f85r1) (.seq (.seq (.ops f85r2) (.cond (t 35) (.seq (.ops f85r3) .ret) .skip)) (.seq (.ops f85r4) .ret))))
theorem f85_calls : Sound Tryz.prog 85 42 f85 [.cn 6 7, .t 7] := sound_of mixed Tryz.func85 rfl (by kernel_rfl) (by kernel_rfl) (by kernel_rfl)

def f92r0 : List SOper := [
 o 6 (.ld1 (t 1)),
 o 7 (.call 28 [(t 6)])]
def f92r1 : List SOper := [
 o 8 (.ld1 (t 1)),
 o 9 (.nilck (t 8)),
 o 10 (.fa 0 (t 9)),
 o 11 (.ld1 (t 10)),
 o 12 (.nilck (t 11)),
 o 13 (.fa 0 (t 12)),
 o 14 (.ld1 (t 13)),
 o 15 (.call 94 [(t 14)]),
 o 16 (.call 93 [(t 15)]),
 o 17 (.len (t 16)),
 o 18 (.mv (i 0))]
def f92r2 : List SOper := [
 o 19 (.cmp .lss (t 18) (t 17))]
def f92r3 : List SOper := [
 o 20 (.ixs 1 (t 16) (t 18)),
 o 21 (.ld1 (t 20)),
 o 4 (.mv (t 21))]
def f92r4 : List SOper := [
 o 22 (.ld1 (t 1)),
 o 23 (.nilck (t 22)),
 o 24 (.fa 0 (t 23)),
 o 25 (.ld1 (t 24)),
 o 26 (.nilck (t 25)),
 o 27 (.fa 0 (t 26)),
 o 28 (.ld1 (t 27)),
 o 29 (.mv (t 4)),
 o 30 (.look .str (.pointer none) false (t 28) (t 29)),
 o 5 (.mv (t 30))]
def f92r5 : List SOper := [
 o 31 (.mv (t 5)),
 o 32 (.eqn 0 true (t 31)),
 o 33 (.mv (t 32)),
 g 34 33 (.mv (t 0)),
 g 35 33 (.mv (t 4)),
 g 36 33 (.mv (t 5)),
 g 37 33 (.nilck (t 36)),
 g 38 33 (.ldn 7 (t 37)),
 g 39 33 (.call 22 [(t 38)]),
 g 40 33 (.callv (t 34) [(t 35), (t 39)]),
 g 41 33 (.un .not (t 40)),
 o 42 (.pick (t 33) (t 41) (b false))]
def f92r6 : List SOper := [
 o 43 (.ar .add (t 18) (i 1)),
 o 18 (.mv (t 43))]
def f92l7 : SCode := (.seq (.ops f92r2) (.seq (.cond (t 19) .skip (.exit 0)) (.seq (.block 1 (.seq (.ops f92r3) (.seq (.ops f92r4) (.seq (.ops f92r5) (.cond (t 42) .ret .skip))))) (.ops f92r6))))
def f92 : SCode := (.seq (.seq (.ops f92r0) (.cond (t 7) .ret .skip)) (.seq (.ops f92r1) (.block 0 (.loop f92l7))))
theorem f92_calls : Sound Tryz.prog 92 44 f92 [] := sound_of mixed Tryz.func92 rfl (by kernel_rfl) (by kernel_rfl) (by kernel_rfl)

def f93r0 : List SOper := [
 o 2 (.mv (.const (.slice none 0 0)))]
def f93r1 : List SOper := [
 o 4 (.mv (t 0)),
 o 5 (.call 146 [(t 4)]),
 o 3 (.mv (t 5))]
def f93r2 : List SOper := [
 o 6 (.mv (t 3)),
 o 7 (.call 147 [(t 6)])]
def f93r3 : List SOper := [
 o 8 (.mv (t 3)),
 o 2 (.mv (t 8))]
def f93 : SCode := (.seq (.ops f93r0) (.seq (.ops f93r1) (.seq (.ops f93r2) (.seq (.ops f93r3) .ret))))
def f94r0 : List SOper := [
 o 1 (.box (t 0)),
 o 2 (.mv (.const .nilFunc))]
def f94r1 : List SOper := [
 o 3 (.fn 148 [] [(t 1)]),
 o 2 (.mv (t 3))]
def f94 : SCode := (.seq (.ops f94r0) (.seq (.ops f94r1) .ret))
def f95r0 : List SOper := [
 o 4 (.mv (b false))]
def f95r1 : List SOper := [
 o 5 (.mv (t 0)),
 o 6 (.mv (t 1)),
 o 7 (.call 149 [(t 5), (t 6)]),
 o 8 (.cmp .geq (t 7) (i 0)),
 o 4 (.mv (t 8))]
def f95 : SCode := (.seq (.ops f95r0) (.seq (.ops f95r1) .ret))
theorem f95_calls : Sound Tryz.prog 95 9 f95 [.t 4] := sound_of mixed Tryz.func95 rfl (by kernel_rfl) (by kernel_rfl) (by kernel_rfl)

def f96r0 : List SOper := [
 o 2 (.mv (b false))]
def f96r1 : List SOper := [
 o 3 (.mv (t 0)),
 o 4 (.lens (t 3)),
 o 5 (.cmp .gtr (t 4) (i 1048576)),
 o 2 (.mv (t 5))]
def f96 : SCode := (.seq (.ops f96r0) (.seq (.ops f96r1) .ret))
theorem f96_calls : Sound Tryz.prog 96 6 f96 [.t 2] := sound_of mixed Tryz.func96 rfl (by kernel_rfl) (by kernel_rfl) (by kernel_rfl)

def f106r0 : List SOper := [
 o 6 (.new [(.int .i64 0), (.string ⟨#[]⟩), (.slice none 0 0), (.slice none 0 0), (.slice none 0 0), (.bool false), (.int .i64 0)]),
 o 7 (.mv (b false))]
def f106r1 : List SOper := [
 o 11 (.mv (t 0)),
 o 12 (.mv (t 1)),
 o 13 (.call 78 [(t 11), (t 12)]),
 o 10 (.mv (t 13)),
 o 14 (.ext (t 10) 0),
 o 15 (.ext (t 10) 1),
 o 8 (.new [(.int .i64 0), (.string ⟨#[]⟩), (.slice none 0 0), (.slice none 0 0), (.slice none 0 0), (.bool false), (.int .i64 0)]),
 q (.st 7 (t 8) (t 14)),
 o 9 (.mv (t 15))]
def f106r2 : List SOper := [
 o 16 (.mv (t 9)),
 o 17 (.un .not (t 16)),
 o 18 (.mv (t 17)),
 n 19 18 (.ldn 7 (t 8)),
 n 20 18 (.mv (t 2)),
 n 21 18 (.call 151 [(t 19), (t 20)]),
 o 22 (.pick (t 18) (b true) (t 21))]
def f106r3 : List SOper := [
 o 23 (.build [(.int .i64 0), (.string ⟨#[]⟩), (.slice none 0 0), (.slice none 0 0), (.slice none 0 0), (.bool false), (.int .i64 0)] [] []),
 q (.st 7 (t 6) (t 23)),
 o 7 (.mv (b false))]
def f106r4 : List SOper := [
 o 24 (.ldn 7 (t 8)),
 q (.st 7 (t 6) (t 24)),
 o 7 (.mv (b true))]
def f106 : SCode := (.seq (.ops f106r0) (.seq (.ops f106r1) (.seq (.seq (.ops f106r2) (.cond (t 22) (.seq (.ops f106r3) .ret) .skip)) (.seq (.ops f106r4) .ret))))
theorem f106_calls : Sound Tryz.prog 106 25 f106 [.cn 6 7, .t 7] := sound_of mixed Tryz.func106 rfl (by kernel_rfl) (by kernel_rfl) (by kernel_rfl)

def f111r0 : List SOper := [
 o 2 (.mv (i 0)),
 o 3 (.mv (b false))]
def f111r1 : List SOper := [
 o 7 (.mv (t 0)),
 o 8 (.call 152 [(t 7), (i 10), (i 64)]),
 o 6 (.mv (t 8)),
 o 9 (.ext (t 6) 0),
 o 10 (.ext (t 6) 1),
 o 4 (.mv (t 9)),
 o 5 (.mv (t 10))]
def f111r2 : List SOper := [
 o 11 (.mv (t 5)),
 o 12 (.eqn 4 true (t 11)),
 o 13 (.mv (t 12)),
 n 14 13 (.mv (t 4)),
 n 15 13 (.call 30 [(t 14), (i 10)]),
 n 16 13 (.mv (t 0)),
 n 17 13 (.cmp .neq (t 15) (t 16)),
 o 18 (.pick (t 13) (b true) (t 17))]
def f111r3 : List SOper := [
 o 2 (.mv (i 0)),
 o 3 (.mv (b false))]
def f111r4 : List SOper := [
 o 19 (.mv (t 4)),
 o 2 (.mv (t 19)),
 o 3 (.mv (b true))]
def f111 : SCode := (.seq (.ops f111r0) (.seq (.ops f111r1) (.seq (.seq (.ops f111r2) (.cond (t 18) (.seq (.ops f111r3) .ret) .skip)) (.seq (.ops f111r4) .ret))))
theorem f111_calls : Sound Tryz.prog 111 20 f111 [.t 2, .t 3] := sound_of mixed Tryz.func111 rfl (by kernel_rfl) (by kernel_rfl) (by kernel_rfl)

def f115r0 : List SOper := [
 o 3 (.box (t 1)),
 o 4 (.mv (.const (.slice none 0 0)))]
def f115r1 : List SOper := [
 o 5 (.new [(.slice none 0 0)])]
def f115r2 : List SOper := [
 o 8 (.mv (t 0)),
 o 9 (.call 39 [(t 8)])]
def f115r3 : List SOper := [
 o 6 (.mv (t 10))]
def f115r4 : List SOper := [
 o 7 (.new [(.int .i64 0), (.string ⟨#[]⟩), (.slice none 0 0), (.slice none 0 0), (.slice none 0 0), (.bool false), (.int .i64 0)]),
 q (.st 7 (t 7) (t 11))]
def f115r5 : List SOper := [
 o 12 (.ldn 7 (t 7)),
 o 13 (.ld1 (t 3)),
 o 14 (.call 151 [(t 12), (t 13)]),
 o 15 (.un .not (t 14))]
def f115r6 : List SOper := [
 o 16 (.ld1 (t 5)),
 o 17 (.mv (t 6)),
 o 18 (.bslice [(.string ⟨#[]⟩)] 1 [(0, 1)] [(t 17)]),
 o 19 (.app 1 16 [(.string ⟨#[]⟩)] (t 16) (t 18)),
 q (.st 1 (t 5) (t 19))]
def f115a7 : SCode := (.seq (.ops f115r3) (.ops f115r4))
def f115b7 : SCode := (.block 1 (.seq (.ops f115r5) (.cond (t 15) (.ops f115r6) .skip)))
def f115r8 : List SOper := [
 o 20 (.ld1 (t 5)),
 o 4 (.mv (t 20))]
def f115 : SCode := (.seq (.ops f115r0) (.seq (.ops f115r1) (.seq (.seq (.ops f115r2) (.block 0 (.rangeF (t 9) [10, 11] f115a7 f115b7))) (.seq (.ops f115r8) .ret))))
theorem f115_calls : Sound Tryz.prog 115 21 f115 [.t 4] := sound_of mixed Tryz.func115 rfl (by kernel_rfl) (by kernel_rfl) (by kernel_rfl)

def f116r0 : List SOper := [
 o 4 (.mv (i 0))]
def f116r1 : List SOper := [
 o 5 (.mv (t 0)),
 o 6 (.mv (t 1)),
 o 7 (.call 115 [(t 5), (t 6)]),
 o 8 (.len (t 7)),
 o 4 (.mv (t 8))]
def f116 : SCode := (.seq (.ops f116r0) (.seq (.ops f116r1) .ret))
theorem f116_calls : Sound Tryz.prog 116 9 f116 [.t 4] := sound_of mixed Tryz.func116 rfl (by kernel_rfl) (by kernel_rfl) (by kernel_rfl)

def f129r0 : List SOper := [
 o 3 (.box (t 1)),
 o 4 (.mv (i 0))]
def f129r1 : List SOper := [
 o 8 (.mv (t 0)),
 o 9 (.nilck (t 8)),
 o 10 (.fa 3 (t 9)),
 o 11 (.ld1 (t 10)),
 o 12 (.fa 2 (t 3)),
 o 13 (.ld1 (t 12)),
 o 14 (.call 159 [(t 11), (u 160), (t 13)]),
 o 7 (.mv (t 14)),
 o 15 (.ext (t 7) 0),
 o 16 (.ext (t 7) 1),
 o 5 (.mv (t 15)),
 o 6 (.mv (t 16))]
def f129r2 : List SOper := [
 o 17 (.mv (t 6)),
 o 18 (.un .not (t 17))]
def f129r3 : List SOper := [
 o 19 (.mv (t 0)),
 o 20 (.mv (t 0)),
 o 21 (.nilck (t 20)),
 o 22 (.fa 3 (t 21)),
 o 23 (.ld1 (t 22)),
 o 24 (.mv (t 5)),
 o 25 (.fa 2 (t 3)),
 o 26 (.ld1 (t 25)),
 o 27 (.bslice [(.string ⟨#[]⟩)] 1 [(0, 1)] [(t 26)]),
 o 28 (.call 124 [(t 23), (t 24), (t 27)]),
 o 29 (.nilck (t 19)),
 o 30 (.fa 3 (t 29)),
 q (.st 1 (t 30) (t 28))]
def f129r4 : List SOper := [
 o 4 (.mv (i 0))]
def f129 : SCode := (.seq (.ops f129r0) (.seq (.seq (.ops f129r1) (.seq (.ops f129r2) (.cond (t 18) (.ops f129r3) .skip))) (.seq (.ops f129r4) .ret)))
def f145r0 : List SOper := [
 o 4 (.mv (.const (.slice none 0 0)))]
def f145r1 : List SOper := [
 o 5 (.mv (.const (.slice none 0 0)))]
def f145r2 : List SOper := [
 o 6 (.mv (i 0))]
def f145r3 : List SOper := [
 o 9 (.mv (t 6)),
 o 10 (.mv (t 0)),
 o 11 (.len (t 10)),
 o 12 (.cmp .lss (t 9) (t 11))]
def f145r4 : List SOper := [
 o 16 (.mv (t 0)),
 o 17 (.mv (t 0)),
 o 18 (.mv (t 6)),
 o 19 (.ixs 8 (t 17) (t 18)),
 o 20 (.fa 0 (t 19)),
 o 21 (.ld1 (t 20)),
 o 22 (.mv (t 1)),
 o 23 (.call 85 [(t 16), (t 21), (t 22)]),
 o 15 (.mv (t 23)),
 o 24 (.ext (t 15) 0),
 o 25 (.ext (t 15) 1),
 o 7 (.new [(.int .i64 0), (.string ⟨#[]⟩), (.slice none 0 0), (.slice none 0 0), (.slice none 0 0), (.bool false), (.int .i64 0)]),
 q (.st 7 (t 7) (t 24)),
 o 8 (.mv (t 25))]
def f145r5 : List SOper := [
 o 26 (.mv (t 8))]
def f145r6 : List SOper := [
 o 27 (.mv (t 5)),
 o 28 (.mv (t 0)),
 o 29 (.mv (t 6)),
 o 30 (.ixs 8 (t 28) (t 29)),
 o 31 (.fa 0 (t 30)),
 o 32 (.ld1 (t 31)),
 o 33 (.bslice [(.string ⟨#[]⟩)] 1 [(0, 1)] [(t 32)]),
 o 34 (.app 1 16 [(.string ⟨#[]⟩)] (t 27) (t 33)),
 o 5 (.mv (t 34))]
def f145r7 : List SOper := [
 o 13 (.mv (t 6)),
 o 14 (.ar .add (t 13) (i 1)),
 o 6 (.mv (t 14))]
def f145l8 : SCode := (.seq (.seq (.ops f145r3) (.cond (t 12) .skip (.exit 0))) (.seq (.block 1 (.seq (.ops f145r4) (.seq (.ops f145r5) (.cond (t 26) (.ops f145r6) .skip)))) (.ops f145r7)))
def f145r9 : List SOper := [
 o 35 (.mv (t 5)),
 o 4 (.mv (t 35))]
def f145 : SCode := (.seq (.ops f145r0) (.seq (.ops f145r1) (.seq (.seq (.ops f145r2) (.block 0 (.loop f145l8))) (.seq (.ops f145r9) .ret))))
theorem f145_calls : Sound Tryz.prog 145 36 f145 [.t 4] := sound_of mixed Tryz.func145 rfl (by kernel_rfl) (by kernel_rfl) (by kernel_rfl)

def f147r0 : List SOper := [
 o 3 (.mv (t 0)),
 o 4 (.len (t 3)),
 o 2 (.mv (t 4))]
def f147r1 : List SOper := [
 o 5 (.mv (t 0)),
 o 6 (.mv (t 2)),
 o 7 (.mv (t 2)),
 o 8 (.cvt .u64 (t 7)),
 o 9 (.call 174 [(t 8)]),
 o 10 (.call 173 [(t 5), (i 0), (t 6), (t 9)])]
def f147 : SCode := (.seq (.ops f147r0) (.ops f147r1))
def f148r0 : List SOper := [
 o 4 (.ld1 (t 1)),
 o 5 (.rng (t 4))]
def f148r1 : List SOper := [
 o 6 (.nxt (t 5)),
 o 7 (.ext (t 6) 0)]
def f148r2 : List SOper := [
 o 8 (.ent (t 5)),
 o 9 (.ext (t 8) 0),
 o 3 (.mv (t 9))]
def f148r3 : List SOper := [
 o 10 (.mv (t 0)),
 o 11 (.mv (t 3)),
 o 12 (.callv (t 10) [(t 11)]),
 o 13 (.un .not (t 12))]
def f148l4 : SCode := (.seq (.ops f148r1) (.seq (.cond (t 7) .skip (.exit 0)) (.block 1 (.seq (.ops f148r2) (.seq (.ops f148r3) (.cond (t 13) .ret .skip))))))
def f148 : SCode := (.seq (.ops f148r0) (.block 0 (.loop f148l4)))
def f149r0 : List SOper := [
 o 4 (.mv (i 0))]
def f149r1 : List SOper := [
 o 6 (.mv (t 0)),
 o 7 (.len (t 6)),
 o 8 (.mv (i 0))]
def f149r2 : List SOper := [
 o 9 (.cmp .lss (t 8) (t 7))]
def f149r3 : List SOper := [
 o 10 (.mv (t 8)),
 o 5 (.mv (t 10))]
def f149r4 : List SOper := [
 o 11 (.mv (t 1)),
 o 12 (.mv (t 0)),
 o 13 (.mv (t 5)),
 o 14 (.ixs 1 (t 12) (t 13)),
 o 15 (.ld1 (t 14)),
 o 16 (.callv (t 11) [(t 15)])]
def f149r5 : List SOper := [
 o 17 (.mv (t 5)),
 o 4 (.mv (t 17))]
def f149r6 : List SOper := [
 o 18 (.ar .add (t 8) (i 1)),
 o 8 (.mv (t 18))]
def f149l7 : SCode := (.seq (.ops f149r2) (.seq (.cond (t 9) .skip (.exit 0)) (.seq (.block 1 (.seq (.ops f149r3) (.seq (.ops f149r4) (.cond (t 16) (.seq (.ops f149r5) .ret) .skip)))) (.ops f149r6))))
def f149r8 : List SOper := [
 o 4 (.mv (i (-1)))]
def f149 : SCode := (.seq (.ops f149r0) (.seq (.seq (.ops f149r1) (.block 0 (.loop f149l7))) (.seq (.ops f149r8) .ret)))
theorem f149_calls : Sound Tryz.prog 149 19 f149 [.t 4] := sound_of mixed Tryz.func149 rfl (by kernel_rfl) (by kernel_rfl) (by kernel_rfl)

def f151r0 : List SOper := [
 o 2 (.box (t 0)),
 o 4 (.mv (b false))]
def f151r1 : List SOper := [
 o 5 (.fa 5 (t 2)),
 o 6 (.ld1 (t 5)),
 o 7 (.mv (t 6)),
 g 8 7 (.fa 6 (t 2)),
 g 9 7 (.ld1 (t 8)),
 g 10 7 (.mv (t 1)),
 g 11 7 (.cmp .leq (t 9) (t 10)),
 o 12 (.pick (t 7) (t 11) (b false)),
 o 4 (.mv (t 12))]
def f151 : SCode := (.seq (.ops f151r0) (.seq (.ops f151r1) .ret))
theorem f151_calls : Sound Tryz.prog 151 13 f151 [.t 4] := sound_of mixed Tryz.func151 rfl (by kernel_rfl) (by kernel_rfl) (by kernel_rfl)

end Go.Proofs.YtgmkldaonkbjgaaGreatDoor.C
namespace Go.Proofs.YtgmkldaonkbjgaaGreatDoor
open Go Go.Sx Go.Proofs.YtgmkldaonkbjgaaGreatDoor.C

set_option maxRecDepth 100000 in
theorem cmpStr_calls {h : Heap} (a b : ByteArray) : CallsH Tryz.prog 97 [.string a, .string b] h (Ret fun u h' => u = .int .i64 (cmpB a b) ∧ h' = h) := by
  refine ⟨by kernel_rfl, fun w hw => ?_⟩
  have key : Calls Tryz.prog 97 #[.string a, .string b] w fun e w' => e = .returned (.int .i64 (Lib.compareBytes a.data.toList b.data.toList)) ∧ w' = w := by
    go_enter Tryz.func97, Tryz.ntmps97
    go_wp2
    rw [run_callFunc_extern Tryz.func150 (by kernel_rfl) (by kernel_rfl) (by kernel_rfl) (e := Extern.BytealgCompare.compare) (by kernel_rfl), Lib.run_compareString]
    simp only [Result.andThen]
    rw [Oper.upon_value]
    go_wp2
    all_goals go_ret
    all_goals exact ⟨rfl, rfl⟩
  refine key.mono ?_
  rintro e w' ⟨rfl, rfl⟩
  exact ⟨⟨rfl, hw⟩, by simp, rfl, rfl, rfl⟩

theorem cmpS_calls {h : Heap} (a b : ByteArray) : CallsH Tryz.prog 46 [.string a, .string b] h (Ret fun u h' => u = .int .i64 (cmpB a b) ∧ h' = h) := by
  refine f46_calls (by simp) ?_
  refine call_ret (cmpStr_calls a b) ?_
  rintro _ h1 ⟨rfl, rfl⟩
  exact ⟨rfl, rfl⟩

end Go.Proofs.YtgmkldaonkbjgaaGreatDoor
namespace Go.Proofs.YtgmkldaonkbjgaaGreatDoor
open Go Go.Sx Go.Proofs.YtgmkldaonkbjgaaGreatDoor.C

structure Pair where
  name : ByteArray
  text : ByteArray
  deriving DecidableEq
structure Rank where
  name : ByteArray
  score : Int
  deriving DecidableEq

def encP (p : Pair) : List Value := [.string p.name, .string p.text]
def encR (r : Rank) : List Value := [.string r.name, .int .i64 r.score]
def encS (s : ByteArray) : List Value := [.string s]
theorem encP_len (p : Pair) : (encP p).length = 2 := rfl
theorem encR_len (p : Rank) : (encR p).length = 2 := rfl
theorem encS_len (p : ByteArray) : (encS p).length = 1 := rfl
theorem encP_one (r : Pair) : ∀ u ∈ encP r, u.oneCell' = true := by
  intro u hu
  simp [encP] at hu
  rcases hu with rfl | rfl <;> rfl
theorem encR_one (r : Rank) : ∀ u ∈ encR r, u.oneCell' = true := by
  intro u hu
  simp [encR] at hu
  rcases hu with rfl | rfl <;> rfl
theorem encS_one (r : ByteArray) : ∀ u ∈ encS r, u.oneCell' = true := by
  intro u hu
  simp [encS] at hu
  rw [hu]; rfl
theorem encP_inj {a b : Pair} (h : encP a = encP b) : a = b := by
  cases a; cases b; simp [encP] at h; simp [h]
theorem encR_inj {a b : Rank} (h : encR a = encR b) : a = b := by
  cases a; cases b; simp [encR] at h; simp [h]

theorem take_snoc {α : Type} (l : List α) (k : Nat) (h : k < l.length) : l.take (k + 1) = l.take k ++ [l[k]] := by
  rw [List.take_succ_eq_append_getElem h]

def rising {α : Type} (lt : α → α → Bool) : List α → Bool
  | x :: y :: l => lt x y && rising lt (y :: l)
  | _ => true

theorem rising_short {α : Type} {lt : α → α → Bool} : ∀ {l : List α}, l.length ≤ 1 → rising lt l = true
  | [], _ => rfl
  | [_], _ => rfl
  | _ :: _ :: _, h => by simp at h

theorem drop_two {α : Type} {l : List α} {k : Nat} (h1 : 1 ≤ k) (h : k < l.length) : l.drop (k - 1) = l[k - 1] :: l[k] :: l.drop (k + 1) := by
  rw [List.drop_eq_getElem_cons (show k - 1 < l.length by omega)]
  have e : k - 1 + 1 = k := by omega
  rw [e, List.drop_eq_getElem_cons h]

def OrdP (g : Nat) (lt : Pair → Pair → Bool) (h : Heap) : Prop := ∀ h' x y, Chg [] h h' → CallsH Tryz.prog g [.agg ⟨encP x⟩, .agg ⟨encP y⟩] h' (Ret fun u h'' => (∃ z, u = .int .i64 z ∧ (z < 0 ↔ lt x y = true)) ∧ Chg [] h' h'')

theorem risP_calls {h : Heap} {v : Value} {l : List Pair} {g : Nat} {lt : Pair → Pair → Bool} (hv : SL encP h v l) (hl : l.length < 4611686018427387904) (hg : OrdP g lt h) :
    CallsH Tryz.prog 44 [v, .func (.func g) #[] #[]] h (Ret fun r h' => r = .bool (rising lt l) ∧ Chg [] h h') := by
  obtain ⟨a, c, rfl, hlc⟩ := hv.form
  refine f44_calls (by simp) ?_
  refine loop_intro (fun k : Nat => [(0, .slice a l.length c), (1, .func (.func g) #[] #[]), (5, .int .i64 k)]) (fun k h' => 1 ≤ k ∧ k ≤ l.length + 1 ∧ Chg [] h h' ∧ rising lt l = rising lt (l.drop (k - 1))) (fun k => l.length + 1 - k) 1 ⟨rfl, rfl, rfl, trivial⟩ ⟨Nat.le_refl _, by omega, Chg.refl h, rfl⟩ ?_
  rintro k h1 ⟨hk1, hk, hc, hr⟩
  refine And.intro rfl (And.intro (fun hlt => ?_) (fun hlt => ?_))
  · have hlt : k < l.length := by omega
    have hv1 := hv.ext hc
    obtain ⟨b, o, rfl⟩ := hv.addr (by omega)
    have hcs := hv1.cells encP_len (i := k - 1) (x := l[k - 1]) (by simp)
    have hds := hv1.cells encP_len (i := k) (x := l[k]) (by simp [hlt])
    refine And.intro rfl (fun z hz => ?_)
    have hz := sub_in hz (by omega) (by omega)
    have hz : z = ((k - 1 : Nat) : Int) := by omega
    subst hz
    refine And.intro (by omega) (And.intro (by omega) (Exists.intro (encP l[k - 1]) (And.intro rfl (And.intro hcs ?_))))
    refine And.intro (by omega) (And.intro (by omega) (Exists.intro (encP l[k]) (And.intro rfl (And.intro hds ?_))))
    refine call_ret (hg h1 l[k - 1] l[k] hc) ?_
    rintro _ h2 ⟨⟨z, rfl, hzn⟩, hc2⟩
    rw [drop_two hk1 hlt, rising] at hr
    have e1 : l[k] :: l.drop (k + 1) = l.drop k := by rw [List.drop_eq_getElem_cons hlt]
    rw [e1] at hr
    refine And.intro rfl (And.intro (fun hge => ?_) (fun hge => ?_))
    · refine And.intro ?_ (hc.nil hc2)
      have : lt l[k - 1] l[k] = false := by
        cases hb : lt l[k - 1] l[k] with
        | false => rfl
        | true => have := hzn.2 hb; omega
      rw [hr, this]; rfl
    · have hb : lt l[k - 1] l[k] = true := hzn.1 (by omega)
      rw [hb, Bool.true_and] at hr
      refine And.intro rfl (fun y hy => ?_)
      have hy := add_in hy (by omega) (by omega)
      subst hy
      refine And.intro rfl (Exists.intro (k + 1) (And.intro ?_ (And.intro ?_ ?_)))
      · exact ⟨rfl, rfl, rfl, trivial⟩
      · exact ⟨by omega, by omega, hc.nil hc2, by rw [Nat.add_sub_cancel]; exact hr⟩
      · omega
  · refine And.intro ?_ hc
    rw [hr, rising_short (by simp; omega)]; rfl

def OrdS (g : Nat) (lt : ByteArray → ByteArray → Bool) (h : Heap) : Prop := ∀ h' x y, Chg [] h h' → CallsH Tryz.prog g [.string x, .string y] h' (Ret fun u h'' => (∃ z, u = .int .i64 z ∧ (z < 0 ↔ lt x y = true)) ∧ Chg [] h' h'')

theorem risS_calls {h : Heap} {v : Value} {l : List ByteArray} {g : Nat} {lt : ByteArray → ByteArray → Bool} (hv : SL encS h v l) (hl : l.length < 4611686018427387904) (hg : OrdS g lt h) :
    CallsH Tryz.prog 47 [v, .func (.func g) #[] #[]] h (Ret fun r h' => r = .bool (rising lt l) ∧ Chg [] h h') := by
  obtain ⟨a, c, rfl, hlc⟩ := hv.form
  refine f47_calls (by simp) ?_
  refine loop_intro (fun k : Nat => [(0, .slice a l.length c), (1, .func (.func g) #[] #[]), (5, .int .i64 k)]) (fun k h' => 1 ≤ k ∧ k ≤ l.length + 1 ∧ Chg [] h h' ∧ rising lt l = rising lt (l.drop (k - 1))) (fun k => l.length + 1 - k) 1 ⟨rfl, rfl, rfl, trivial⟩ ⟨Nat.le_refl _, by omega, Chg.refl h, rfl⟩ ?_
  rintro k h1 ⟨hk1, hk, hc, hr⟩
  refine And.intro rfl (And.intro (fun hlt => ?_) (fun hlt => ?_))
  · have hlt : k < l.length := by omega
    have hv1 := hv.ext hc
    obtain ⟨b, o, rfl⟩ := hv.addr (by omega)
    have hcs := hv1.cells encS_len (i := k - 1) (x := l[k - 1]) (by simp)
    have hds := hv1.cells encS_len (i := k) (x := l[k]) (by simp [hlt])
    refine And.intro rfl (fun z hz => ?_)
    have hz := sub_in hz (by omega) (by omega)
    have hz : z = ((k - 1 : Nat) : Int) := by omega
    subst hz
    refine And.intro (by omega) (And.intro (by omega) (Exists.intro _ (And.intro (hcs 0 _ rfl) ?_)))
    refine And.intro (by omega) (And.intro (by omega) (Exists.intro _ (And.intro (hds 0 _ rfl) ?_)))
    refine call_ret (hg h1 l[k - 1] l[k] hc) ?_
    rintro _ h2 ⟨⟨z, rfl, hzn⟩, hc2⟩
    rw [drop_two hk1 hlt, rising] at hr
    have e1 : l[k] :: l.drop (k + 1) = l.drop k := by rw [List.drop_eq_getElem_cons hlt]
    rw [e1] at hr
    refine And.intro rfl (And.intro (fun hge => ?_) (fun hge => ?_))
    · refine And.intro ?_ (hc.nil hc2)
      have : lt l[k - 1] l[k] = false := by
        cases hb : lt l[k - 1] l[k] with
        | false => rfl
        | true => have := hzn.2 hb; omega
      rw [hr, this]; rfl
    · have hb : lt l[k - 1] l[k] = true := hzn.1 (by omega)
      rw [hb, Bool.true_and] at hr
      refine And.intro rfl (fun y hy => ?_)
      have hy := add_in hy (by omega) (by omega)
      subst hy
      refine And.intro rfl (Exists.intro (k + 1) (And.intro ?_ (And.intro ?_ ?_)))
      · exact ⟨rfl, rfl, rfl, trivial⟩
      · exact ⟨by omega, by omega, hc.nil hc2, by rw [Nat.add_sub_cancel]; exact hr⟩
      · omega
  · refine And.intro ?_ hc
    rw [hr, rising_short (by simp; omega)]; rfl

def OrdR (g : Nat) (lt : Rank → Rank → Bool) (h : Heap) : Prop := ∀ h' x y, Chg [] h h' → CallsH Tryz.prog g [.agg ⟨encR x⟩, .agg ⟨encR y⟩] h' (Ret fun u h'' => (∃ z, u = .int .i64 z ∧ (z < 0 ↔ lt x y = true)) ∧ Chg [] h' h'')

theorem risR_calls {h : Heap} {v : Value} {l : List Rank} {g : Nat} {lt : Rank → Rank → Bool} (hv : SL encR h v l) (hl : l.length < 4611686018427387904) (hg : OrdR g lt h) :
    CallsH Tryz.prog 48 [v, .func (.func g) #[] #[]] h (Ret fun r h' => r = .bool (rising lt l) ∧ Chg [] h h') := by
  obtain ⟨a, c, rfl, hlc⟩ := hv.form
  refine f48_calls (by simp) ?_
  refine loop_intro (fun k : Nat => [(0, .slice a l.length c), (1, .func (.func g) #[] #[]), (5, .int .i64 k)]) (fun k h' => 1 ≤ k ∧ k ≤ l.length + 1 ∧ Chg [] h h' ∧ rising lt l = rising lt (l.drop (k - 1))) (fun k => l.length + 1 - k) 1 ⟨rfl, rfl, rfl, trivial⟩ ⟨Nat.le_refl _, by omega, Chg.refl h, rfl⟩ ?_
  rintro k h1 ⟨hk1, hk, hc, hr⟩
  refine And.intro rfl (And.intro (fun hlt => ?_) (fun hlt => ?_))
  · have hlt : k < l.length := by omega
    have hv1 := hv.ext hc
    obtain ⟨b, o, rfl⟩ := hv.addr (by omega)
    have hcs := hv1.cells encR_len (i := k - 1) (x := l[k - 1]) (by simp)
    have hds := hv1.cells encR_len (i := k) (x := l[k]) (by simp [hlt])
    refine And.intro rfl (fun z hz => ?_)
    have hz := sub_in hz (by omega) (by omega)
    have hz : z = ((k - 1 : Nat) : Int) := by omega
    subst hz
    refine And.intro (by omega) (And.intro (by omega) (Exists.intro (encR l[k - 1]) (And.intro rfl (And.intro hcs ?_))))
    refine And.intro (by omega) (And.intro (by omega) (Exists.intro (encR l[k]) (And.intro rfl (And.intro hds ?_))))
    refine call_ret (hg h1 l[k - 1] l[k] hc) ?_
    rintro _ h2 ⟨⟨z, rfl, hzn⟩, hc2⟩
    rw [drop_two hk1 hlt, rising] at hr
    have e1 : l[k] :: l.drop (k + 1) = l.drop k := by rw [List.drop_eq_getElem_cons hlt]
    rw [e1] at hr
    refine And.intro rfl (And.intro (fun hge => ?_) (fun hge => ?_))
    · refine And.intro ?_ (hc.nil hc2)
      have : lt l[k - 1] l[k] = false := by
        cases hb : lt l[k - 1] l[k] with
        | false => rfl
        | true => have := hzn.2 hb; omega
      rw [hr, this]; rfl
    · have hb : lt l[k - 1] l[k] = true := hzn.1 (by omega)
      rw [hb, Bool.true_and] at hr
      refine And.intro rfl (fun y hy => ?_)
      have hy := add_in hy (by omega) (by omega)
      subst hy
      refine And.intro rfl (Exists.intro (k + 1) (And.intro ?_ (And.intro ?_ ?_)))
      · exact ⟨rfl, rfl, rfl, trivial⟩
      · exact ⟨by omega, by omega, hc.nil hc2, by rw [Nat.add_sub_cancel]; exact hr⟩
      · omega
  · refine And.intro ?_ hc
    rw [hr, rising_short (by simp; omega)]; rfl

end Go.Proofs.YtgmkldaonkbjgaaGreatDoor
namespace Go.Proofs.YtgmkldaonkbjgaaGreatDoor
open Go Go.Sx Go.Proofs.YtgmkldaonkbjgaaGreatDoor.C

theorem ba_get (a : ByteArray) (k : Nat) (h : k < a.size) : a[k]? = some (a.data.toList[k]'h) := by
  rw [getElem?_pos a k h]
  rfl

theorem sless_data (a b : ByteArray) : sless a b = Op.bytesLess a.data.toList b.data.toList := by
  unfold sless
  rw [Go.ByteArray.toList_eq, Go.ByteArray.toList_eq]

theorem bl_nil_right : ∀ a : List UInt8, Op.bytesLess a [] = false
  | [] => rfl
  | _ :: _ => rfl
theorem bl_nil_left {b : List UInt8} (h : b ≠ []) : Op.bytesLess [] b = true := by
  cases b with
  | nil => exact absurd rfl h
  | cons => rfl

theorem Less_calls {h : Heap} (a b : ByteArray) (ha : a.size < 4611686018427387904) (_ : b.size < 4611686018427387904) :
    CallsH Tryz.prog 80 [.string a, .string b] h (Ret fun r h' => r = .bool (sless a b) ∧ h' = h) := by
  have la : a.data.toList.length = a.size := rfl
  have lb : b.data.toList.length = b.size := rfl
  refine f80_calls (by simp) ?_
  refine loop_intro (fun k : Nat => [(0, .string a), (1, .string b), (5, .int .i64 k)]) (fun k h' => k ≤ a.size ∧ k ≤ b.size ∧ h' = h ∧ sless a b = Op.bytesLess (a.data.toList.drop k) (b.data.toList.drop k)) (fun k => a.size - k) 0 ⟨rfl, rfl, rfl, trivial⟩ ⟨Nat.zero_le _, Nat.zero_le _, rfl, sless_data a b⟩ ?_
  rintro k h1 ⟨hka, hkb, rfl, hr⟩
  have fin : ¬ (k < a.size ∧ k < b.size) → (a.size < b.size ↔ sless a b = true) := by
    intro hn
    rw [hr]
    by_cases h1 : k < a.size
    · have : k = b.size := by omega
      rw [List.drop_of_length_le (l := b.data.toList) (by omega), bl_nil_right]
      simp; omega
    · rw [List.drop_of_length_le (l := a.data.toList) (by omega)]
      by_cases h2 : k < b.size
      · rw [bl_nil_left (by intro e; have := congrArg List.length e; simp at this; omega)]
        simp; omega
      · rw [List.drop_of_length_le (l := b.data.toList) (by omega)]
        simp [Op.bytesLess]; omega
  have out : ¬ (k < a.size ∧ k < b.size) → ∀ t : Bool, (t = true ↔ a.size < b.size) → retV [Value.bool t] = .bool (sless a b) ∧ h1 = h1 := by
    intro hn t ht
    refine ⟨?_, rfl⟩
    have e : t = sless a b := Bool.eq_iff_iff.2 (ht.trans (fin hn))
    rw [e]; rfl
  refine And.intro rfl (And.intro (fun hlt => ?_) (fun hlt => ?_))
  · refine And.intro rfl (And.intro (fun hlt2 => ?_) (fun hlt2 => ?_))
    · have h1' : k < a.size := by omega
      have h2' : k < b.size := by omega
      have ga := ba_get a k h1'
      have gb := ba_get b k h2'
      have da : a.data.toList.drop k = a.data.toList[k] :: a.data.toList.drop (k + 1) := List.drop_eq_getElem_cons h1'
      have db : b.data.toList.drop k = b.data.toList[k] :: b.data.toList.drop (k + 1) := List.drop_eq_getElem_cons h2'
      rw [da, db] at hr
      refine Exists.intro _ (And.intro (by omega) (And.intro ga ?_))
      refine Exists.intro _ (And.intro (by omega) (And.intro gb ?_))
      refine And.intro rfl (And.intro (fun hne => ?_) (fun heq => ?_))
      · refine Exists.intro _ (And.intro (by omega) (And.intro ga ?_))
        refine Exists.intro _ (And.intro (by omega) (And.intro gb ?_))
        have hne' : a.data.toList[k] ≠ b.data.toList[k] := by intro e; rw [e] at hne; exact hne rfl
        rw [bl_diff hne'] at hr
        refine And.intro rfl (And.intro (fun hl => ?_) (fun hl => ?_))
        · refine And.intro ?_ rfl
          rw [hr, decide_eq_true (by rw [UInt8.lt_iff_toNat_lt]; omega)]; rfl
        · refine And.intro ?_ rfl
          rw [hr, decide_eq_false (by rw [UInt8.lt_iff_toNat_lt]; omega)]; rfl
      · have heq' : a.data.toList[k] = b.data.toList[k] := UInt8.toNat_inj.1 (by omega)
        rw [bl_step heq'] at hr
        refine And.intro rfl (fun y hy => ?_)
        have hy := add_in hy (by omega) (by omega)
        subst hy
        refine And.intro rfl (Exists.intro (k + 1) (And.intro ?_ (And.intro ?_ ?_)))
        · exact ⟨rfl, rfl, rfl, trivial⟩
        · exact ⟨by omega, by omega, rfl, hr⟩
        · omega
    · refine And.intro rfl (And.intro (fun hl => ?_) (fun hl => ?_))
      · exact out (by omega) true (by simp; omega)
      · exact out (by omega) false (by simp; omega)
  · refine And.intro rfl (And.intro (fun hl => ?_) (fun hl => ?_))
    · exact out (by omega) true (by simp; omega)
    · exact out (by omega) false (by simp; omega)

def aheadR (a b : Rank) : Bool := decide (a.score < b.score) || (decide (a.score = b.score) && sless a.name b.name)

theorem Ahead_calls {h : Heap} (a b : Rank) (ha : a.name.size < 4611686018427387904) (hb : b.name.size < 4611686018427387904) :
    CallsH Tryz.prog 81 [.agg ⟨encR a⟩, .agg ⟨encR b⟩] h (Ret fun u h' => u = .bool (aheadR a b) ∧ Chg [] h h') := by
  refine f81_calls (by simp) ?_
  intro b1 h1 g1
  intro b2 h2 g2
  have B1 : Blk h2 b1 (encR a) := (show Blk h1 b1 (encR a) from g1.blk).chg g2.chg (by simp)
  have B2 : Blk h2 b2 (encR b) := g2.blk
  have hc := g1.chg.nil g2.chg
  refine Exists.intro _ (And.intro (cell_blk B1 rfl) (Exists.intro _ (And.intro (cell_blk B2 rfl) ?_)))
  refine And.intro rfl (And.intro (fun hl => ?_) (fun hl => ?_))
  · exact And.intro (by rw [aheadR, decide_eq_true hl]; rfl) hc
  · refine Exists.intro _ (And.intro (cell_blk B1 rfl) (Exists.intro _ (And.intro (cell_blk B2 rfl) ?_)))
    refine And.intro rfl (And.intro (fun he => ?_) (fun he => ?_))
    · refine Exists.intro _ (And.intro (cell_blk B1 rfl) (Exists.intro _ (And.intro (cell_blk B2 rfl) ?_)))
      refine call_ret (Less_calls a.name b.name ha hb) ?_
      rintro _ h3 ⟨rfl, rfl⟩
      exact And.intro (by rw [aheadR, decide_eq_false hl, decide_eq_true he]; rfl) hc
    · exact And.intro (by rw [aheadR, decide_eq_false hl, decide_eq_false he]; rfl) hc

theorem chk1_ord {h : Heap} : OrdP 45 (fun x y => sless x.name y.name) h := by
  intro h' x y _
  refine f45_calls (by simp) ?_
  intro b1 h1 g1
  intro b2 h2 g2
  have B1 : Blk h2 b1 (encP x) := (show Blk h1 b1 (encP x) from g1.blk).chg g2.chg (by simp)
  have B2 : Blk h2 b2 (encP y) := g2.blk
  refine Exists.intro _ (And.intro (cell_blk B1 rfl) (Exists.intro _ (And.intro (cell_blk B2 rfl) ?_)))
  refine call_ret (cmpS_calls x.name y.name) ?_
  rintro _ h3 ⟨rfl, rfl⟩
  exact And.intro (Exists.intro _ (And.intro rfl (cmpB_neg _ _))) (g1.chg.nil g2.chg)

theorem cmpS_ord {h : Heap} : OrdS 46 sless h := by
  intro h' x y _
  exact (cmpS_calls x y).mono fun e h'' he => by
    cases e <;> first | exact he.elim | skip
    obtain ⟨rfl, rfl⟩ := he
    exact And.intro (Exists.intro _ (And.intro rfl (cmpB_neg _ _))) (Chg.refl _)

theorem ahead_ord {h : Heap} : OrdR 49 aheadR h := by
  intro h' x y _
  refine f49_calls (by simp) ?_
  intro b1 h1 g1
  intro b2 h2 g2
  have B1 : Blk h2 b1 (encR x) := (show Blk h1 b1 (encR x) from g1.blk).chg g2.chg (by simp)
  have B2 : Blk h2 b2 (encR y) := g2.blk
  have hc := g1.chg.nil g2.chg
  refine Exists.intro _ (And.intro (cell_blk B1 rfl) (Exists.intro _ (And.intro (cell_blk B2 rfl) ?_)))
  refine And.intro rfl (And.intro (fun hl => ?_) (fun hl => ?_))
  · exact And.intro (Exists.intro (-1) (And.intro rfl (by simp [aheadR, hl]))) hc
  · refine Exists.intro _ (And.intro (cell_blk B1 rfl) (Exists.intro _ (And.intro (cell_blk B2 rfl) ?_)))
    refine And.intro rfl (And.intro (fun hg => ?_) (fun hg => ?_))
    · exact And.intro (Exists.intro 1 (And.intro rfl (by simp [aheadR]; omega))) hc
    · refine Exists.intro _ (And.intro (cell_blk B1 rfl) (Exists.intro _ (And.intro (cell_blk B2 rfl) ?_)))
      refine call_ret (cmpS_calls x.name y.name) ?_
      rintro _ h3 ⟨rfl, rfl⟩
      have e : x.score = y.score := by omega
      exact And.intro (Exists.intro _ (And.intro rfl (by rw [cmpB_neg]; simp [aheadR, e]))) hc

end Go.Proofs.YtgmkldaonkbjgaaGreatDoor
namespace Go.Proofs.YtgmkldaonkbjgaaGreatDoor
open Go Go.Sx Go.Proofs.YtgmkldaonkbjgaaGreatDoor.C

structure Thing where
  kind : Int
  text : ByteArray
  pairs : List Pair
  list : List ByteArray
  ranks : List Rank
  hasU : Bool
  unt : Int
  deriving DecidableEq

theorem thing_eq {a b : Thing} (h1 : a.kind = b.kind) (h2 : a.text = b.text) (h3 : a.pairs = b.pairs) (h4 : a.list = b.list) (h5 : a.ranks = b.ranks) (h6 : a.hasU = b.hasU) (h7 : a.unt = b.unt) : a = b := by
  cases a; cases b; simp_all

def TH (h : Heap) (vs : List Value) (t : Thing) : Prop :=
  ∃ pv lv rv, vs = [.int .i64 t.kind, .string t.text, pv, lv, rv, .bool t.hasU, .int .i64 t.unt] ∧ SL encP h pv t.pairs ∧ SL encS h lv t.list ∧ SL encR h rv t.ranks

theorem TH.ext {h h' : Heap} {vs : List Value} {t : Thing} (x : TH h vs t) (hc : Chg [] h h') : TH h' vs t := by
  obtain ⟨pv, lv, rv, h1, h2, h3, h4⟩ := x
  exact ⟨pv, lv, rv, h1, h2.ext hc, h3.ext hc, h4.ext hc⟩

theorem TH.len {h : Heap} {vs : List Value} {t : Thing} (x : TH h vs t) : vs.length = 7 := by
  obtain ⟨pv, lv, rv, rfl, _⟩ := x; rfl

structure Fits (t : Thing) : Prop where
  p : t.pairs.length < 4611686018427387904
  l : t.list.length < 4611686018427387904
  r : t.ranks.length < 4611686018427387904

theorem RSame_calls {h : Heap} {vs us : List Value} {a b : Thing} (ta : TH h vs a) (tb : TH h us b) (fa : Fits a) (fb : Fits b) :
    CallsH Tryz.prog 40 [.agg ⟨vs⟩, .agg ⟨us⟩] h (Ret fun r h' => r = .bool (decide (a = b)) ∧ Chg [] h h') := by
  have fap := fa.p; have fal := fa.l; have far := fa.r
  have fbp := fb.p; have fbl := fb.l; have fbr := fb.r
  refine f40_calls (by simp) ?_
  intro b1 h1 g1
  intro b2 h2 g2
  have B1 : Blk h2 b1 vs := (show Blk h1 b1 vs from g1.blk).chg g2.chg (by simp)
  have B2 : Blk h2 b2 us := g2.blk
  have hc := g1.chg.nil g2.chg
  obtain ⟨pv, lv, rv, rfl, hp, hl, hr⟩ := ta.ext hc
  obtain ⟨qv, mv, sv, rfl, hq, hm, hs⟩ := tb.ext hc
  obtain ⟨pa, pc, rfl, _⟩ := hp.form
  obtain ⟨la, lc, rfl, _⟩ := hl.form
  obtain ⟨ra, rc, rfl, _⟩ := hr.form
  obtain ⟨qa, qc, rfl, _⟩ := hq.form
  obtain ⟨ma, mc, rfl, _⟩ := hm.form
  obtain ⟨sa, sc, rfl, _⟩ := hs.form
  have bad : a ≠ b → Ret (fun r h' => r = .bool (decide (a = b)) ∧ Chg [] h h') (.returned (retV [Value.bool false])) h2 := fun hne => ⟨by rw [decide_eq_false hne]; rfl, hc⟩
  refine Exists.intro _ (And.intro (cell_blk B1 rfl) (Exists.intro _ (And.intro (cell_blk B2 rfl) ?_)))
  refine And.intro rfl (And.intro (fun n1 => ?_) (fun n1 => ?_))
  · exact bad (by rintro rfl; exact n1 rfl)
  refine Exists.intro _ (And.intro (cell_blk B1 rfl) (Exists.intro _ (And.intro (cell_blk B2 rfl) ?_)))
  refine And.intro (fun n2 => ?_) (fun n2 => ?_)
  · exact bad (by rintro rfl; exact n2 rfl)
  refine Exists.intro _ (And.intro (cell_blk B1 rfl) (Exists.intro _ (And.intro (cell_blk B2 rfl) ?_)))
  refine And.intro (fun e6 => ?_) (fun n6 => ?_)
  rotate_left
  · exact bad (by rintro rfl; exact n6 rfl)
  refine Exists.intro _ (And.intro (cell_blk B1 rfl) (Exists.intro _ (And.intro (cell_blk B2 rfl) ?_)))
  refine And.intro rfl (And.intro (fun n7 => ?_) (fun n7 => ?_))
  · exact bad (by rintro rfl; exact n7 rfl)
  refine Exists.intro _ (And.intro (cell_blk B1 rfl) (Exists.intro _ (And.intro (cell_blk B2 rfl) ?_)))
  refine And.intro rfl (And.intro (fun n3 => ?_) (fun n3 => ?_))
  · exact bad (by rintro rfl; exact n3 rfl)
  refine Exists.intro _ (And.intro (cell_blk B1 rfl) (Exists.intro _ (And.intro (cell_blk B2 rfl) ?_)))
  refine And.intro rfl (And.intro (fun n4 => ?_) (fun n4 => ?_))
  · exact bad (by rintro rfl; exact n4 rfl)
  refine Exists.intro _ (And.intro (cell_blk B1 rfl) (Exists.intro _ (And.intro (cell_blk B2 rfl) ?_)))
  refine And.intro rfl (And.intro (fun n5 => ?_) (fun n5 => ?_))
  · exact bad (by rintro rfl; exact n5 rfl)
  have l3 : a.pairs.length = b.pairs.length := by omega
  have l4 : a.list.length = b.list.length := by omega
  have l5 : a.ranks.length = b.ranks.length := by omega
  refine loop_intro (fun k : Nat => [(2, .pointer (some ⟨b1, 0, none⟩)), (3, .pointer (some ⟨b2, 0, none⟩)), (5, .int .i64 k)]) (fun k h' => k ≤ a.pairs.length ∧ h' = h2 ∧ a.pairs.take k = b.pairs.take k) (fun k => a.pairs.length - k) 0 ⟨rfl, rfl, rfl, trivial⟩ ⟨Nat.zero_le _, rfl, rfl⟩ ?_
  rintro k h3 ⟨hk, h32, ht0⟩
  have h32 := h32.symm
  subst h32
  refine Exists.intro _ (And.intro (cell_blk B1 rfl) ?_)
  refine And.intro rfl (And.intro (fun hlt => ?_) (fun hlt => ?_))
  · have hlt : k < a.pairs.length := by omega
    have hltm : k < b.pairs.length := by omega
    obtain ⟨b3, o, rfl⟩ := hp.addr (by omega)
    obtain ⟨b4, o', rfl⟩ := hq.addr (by omega)
    have hcs := hp.cells encP_len (i := k) (x := a.pairs[k]) (by simp [hlt])
    have hds := hq.cells encP_len (i := k) (x := b.pairs[k]) (by simp [hltm])
    refine Exists.intro _ (And.intro (cell_blk B1 rfl) ?_)
    refine And.intro (by omega) (And.intro (by omega) (Exists.intro (encP a.pairs[k]) (And.intro rfl (And.intro hcs ?_))))
    refine Exists.intro _ (And.intro (cell_blk B2 rfl) ?_)
    refine And.intro (by omega) (And.intro (by omega) (Exists.intro (encP b.pairs[k]) (And.intro rfl (And.intro hds ?_))))
    refine And.intro rfl (And.intro rfl (And.intro (fun he => ?_) (fun hd => ?_)))
    rotate_left
    · exact bad (by rintro rfl; exact hd rfl)
    have he : a.pairs[k] = b.pairs[k] := encP_inj he
    refine And.intro rfl (fun z hz => ?_)
    have hz := add_in hz (by omega) (by omega)
    subst hz
    refine And.intro rfl (Exists.intro (k + 1) (And.intro ?_ (And.intro ?_ ?_)))
    · exact ⟨rfl, rfl, rfl, trivial⟩
    · exact ⟨by omega, rfl, by rw [take_snoc a.pairs k hlt, take_snoc b.pairs k hltm, ht0, he]⟩
    · omega
  have hk0 : k = a.pairs.length := by omega
  have e3 : a.pairs = b.pairs := by
    rw [hk0, List.take_length, l3, List.take_length] at ht0
    exact ht0
  clear hlt hk0 ht0 hk
  refine loop_intro (fun k : Nat => [(2, .pointer (some ⟨b1, 0, none⟩)), (3, .pointer (some ⟨b2, 0, none⟩)), (6, .int .i64 k)]) (fun k h' => k ≤ a.list.length ∧ h' = h2 ∧ a.list.take k = b.list.take k) (fun k => a.list.length - k) 0 ⟨rfl, rfl, rfl, trivial⟩ ⟨Nat.zero_le _, rfl, rfl⟩ ?_
  rintro k h3 ⟨hk, h32, ht1⟩
  have h32 := h32.symm
  subst h32
  refine Exists.intro _ (And.intro (cell_blk B1 rfl) ?_)
  refine And.intro rfl (And.intro (fun hlt => ?_) (fun hlt => ?_))
  · have hlt : k < a.list.length := by omega
    have hltm : k < b.list.length := by omega
    obtain ⟨b3, o, rfl⟩ := hl.addr (by omega)
    obtain ⟨b4, o', rfl⟩ := hm.addr (by omega)
    have hcs := hl.cells encS_len (i := k) (x := a.list[k]) (by simp [hlt])
    have hds := hm.cells encS_len (i := k) (x := b.list[k]) (by simp [hltm])
    refine Exists.intro _ (And.intro (cell_blk B1 rfl) ?_)
    refine And.intro (by omega) (And.intro (by omega) (Exists.intro _ (And.intro (hcs 0 _ rfl) ?_)))
    refine Exists.intro _ (And.intro (cell_blk B2 rfl) ?_)
    refine And.intro (by omega) (And.intro (by omega) (Exists.intro _ (And.intro (hds 0 _ rfl) ?_)))
    refine And.intro (fun hd => ?_) (fun hd => ?_)
    · exact bad (by rintro rfl; exact hd rfl)
    have he : a.list[k] = b.list[k] := Decidable.not_not.1 hd
    refine And.intro rfl (fun z hz => ?_)
    have hz := add_in hz (by omega) (by omega)
    subst hz
    refine And.intro rfl (Exists.intro (k + 1) (And.intro ?_ (And.intro ?_ ?_)))
    · exact ⟨rfl, rfl, rfl, trivial⟩
    · exact ⟨by omega, rfl, by rw [take_snoc a.list k hlt, take_snoc b.list k hltm, ht1, he]⟩
    · omega
  have hk1 : k = a.list.length := by omega
  have e4 : a.list = b.list := by
    rw [hk1, List.take_length, l4, List.take_length] at ht1
    exact ht1
  clear hlt hk1 ht1 hk
  refine loop_intro (fun k : Nat => [(2, .pointer (some ⟨b1, 0, none⟩)), (3, .pointer (some ⟨b2, 0, none⟩)), (7, .int .i64 k)]) (fun k h' => k ≤ a.ranks.length ∧ h' = h2 ∧ a.ranks.take k = b.ranks.take k) (fun k => a.ranks.length - k) 0 ⟨rfl, rfl, rfl, trivial⟩ ⟨Nat.zero_le _, rfl, rfl⟩ ?_
  rintro k h3 ⟨hk, h32, ht2⟩
  have h32 := h32.symm
  subst h32
  refine Exists.intro _ (And.intro (cell_blk B1 rfl) ?_)
  refine And.intro rfl (And.intro (fun hlt => ?_) (fun hlt => ?_))
  · have hlt : k < a.ranks.length := by omega
    have hltm : k < b.ranks.length := by omega
    obtain ⟨b3, o, rfl⟩ := hr.addr (by omega)
    obtain ⟨b4, o', rfl⟩ := hs.addr (by omega)
    have hcs := hr.cells encR_len (i := k) (x := a.ranks[k]) (by simp [hlt])
    have hds := hs.cells encR_len (i := k) (x := b.ranks[k]) (by simp [hltm])
    refine Exists.intro _ (And.intro (cell_blk B1 rfl) ?_)
    refine And.intro (by omega) (And.intro (by omega) (Exists.intro (encR a.ranks[k]) (And.intro rfl (And.intro hcs ?_))))
    refine Exists.intro _ (And.intro (cell_blk B2 rfl) ?_)
    refine And.intro (by omega) (And.intro (by omega) (Exists.intro (encR b.ranks[k]) (And.intro rfl (And.intro hds ?_))))
    refine And.intro rfl (And.intro rfl (And.intro (fun he => ?_) (fun hd => ?_)))
    rotate_left
    · exact bad (by rintro rfl; exact hd rfl)
    have he : a.ranks[k] = b.ranks[k] := encR_inj he
    refine And.intro rfl (fun z hz => ?_)
    have hz := add_in hz (by omega) (by omega)
    subst hz
    refine And.intro rfl (Exists.intro (k + 1) (And.intro ?_ (And.intro ?_ ?_)))
    · exact ⟨rfl, rfl, rfl, trivial⟩
    · exact ⟨by omega, rfl, by rw [take_snoc a.ranks k hlt, take_snoc b.ranks k hltm, ht2, he]⟩
    · omega
  have hk2 : k = a.ranks.length := by omega
  have e5 : a.ranks = b.ranks := by
    rw [hk2, List.take_length, l5, List.take_length] at ht2
    exact ht2
  clear hlt hk2 ht2 hk
  exact And.intro (by rw [decide_eq_true (thing_eq (Decidable.not_not.1 n1) (Decidable.not_not.1 n2) e3 e4 e5 e6 (Decidable.not_not.1 n7))]; rfl) hc

end Go.Proofs.YtgmkldaonkbjgaaGreatDoor
namespace Go.Proofs.YtgmkldaonkbjgaaGreatDoor
open Go Go.Sx Go.Proofs.YtgmkldaonkbjgaaGreatDoor.C

structure Lens (t : Thing) : Prop where
  p : t.pairs.length ≤ 70000
  l : t.list.length ≤ 70000
  r : t.ranks.length ≤ 70000

theorem Lens.fits {t : Thing} (x : Lens t) : Fits t := ⟨by have := x.p; omega, by have := x.l; omega, by have := x.r; omega⟩

def countT (t : Thing) : Nat := t.pairs.length + t.list.length + t.ranks.length

theorem count_calls {h : Heap} {vs : List Value} {t : Thing} (x : TH h vs t) (n : Lens t) :
    CallsH Tryz.prog 41 [.agg ⟨vs⟩] h (Ret fun r h' => r = .int .i64 (countT t) ∧ Chg [] h h') := by
  have np := n.p; have nl := n.l; have nr := n.r
  refine f41_calls (by simp) ?_
  intro b1 h1 g1
  have B1 : Blk h1 b1 vs := g1.blk
  obtain ⟨pv, lv, rv, rfl, hp, hl, hr⟩ := x
  obtain ⟨pa, pc, rfl, _⟩ := hp.form
  obtain ⟨la, lc, rfl, _⟩ := hl.form
  obtain ⟨ra, rc, rfl, _⟩ := hr.form
  refine Exists.intro _ (And.intro (cell_blk B1 rfl) (Exists.intro _ (And.intro (cell_blk B1 rfl) ?_)))
  refine And.intro rfl (fun z hz => ?_)
  have hz := add_in hz (by omega) (by omega)
  refine Exists.intro _ (And.intro (cell_blk B1 rfl) ?_)
  refine And.intro rfl (fun y hy => ?_)
  have hy := add_in hy (by omega) (by omega)
  refine And.intro ?_ g1.chg
  have : y = (countT t : Int) := by unfold countT; omega
  rw [this]; rfl

theorem short1_calls {h : Heap} (s : ByteArray) : CallsH Tryz.prog 96 [.string s] h (Ret fun r h' => r = .bool (decide (1048576 < s.size)) ∧ h' = h) := by
  refine f96_calls (by simp) ?_
  refine And.intro rfl (And.intro (fun hl => ?_) (fun hl => ?_))
  · exact And.intro (by rw [decide_eq_true (by omega)]; rfl) rfl
  · exact And.intro (by rw [decide_eq_false (by omega)]; rfl) rfl

theorem idxF_calls {h : Heap} {v : Value} {l : List ByteArray} (hv : SL encS h v l) (hl : l.length < 4611686018427387904) :
    CallsH Tryz.prog 149 [v, .func (.func 96) #[] #[]] h (Ret fun r h' => (∃ z, r = .int .i64 z ∧ (z < 0 ↔ ∀ s ∈ l, s.size ≤ 1048576)) ∧ h' = h) := by
  obtain ⟨a, c, rfl, hlc⟩ := hv.form
  refine f149_calls (by simp) ?_
  refine loop_intro (fun k : Nat => [(0, .slice a l.length c), (1, .func (.func 96) #[] #[]), (7, .int .i64 l.length), (8, .int .i64 k)]) (fun k h' => k ≤ l.length ∧ h' = h ∧ ∀ s ∈ l.take k, s.size ≤ 1048576) (fun k => l.length - k) 0 ⟨rfl, rfl, rfl, rfl, trivial⟩ ⟨Nat.zero_le _, rfl, by simp⟩ ?_
  rintro k h' ⟨hk, rfl, ht⟩
  refine And.intro rfl (And.intro (fun hlt => ?_) (fun hlt => ?_))
  · have hlt : k < l.length := by omega
    obtain ⟨b, o, rfl⟩ := hv.addr (by omega)
    have hcs := hv.cells encS_len (i := k) (x := l[k]) (by simp [hlt])
    refine And.intro (by omega) (And.intro (by omega) (Exists.intro _ (And.intro (hcs 0 _ rfl) ?_)))
    refine call_ret (short1_calls l[k]) ?_
    rintro r _ ⟨hr, rfl⟩
    by_cases hs : 1048576 < l[k].size
    · rw [decide_eq_true hs] at hr
      subst hr
      refine And.intro (Exists.intro k (And.intro rfl ?_)) rfl
      constructor
      · intro h; omega
      · intro h; have := h l[k] (List.getElem_mem hlt); omega
    · rw [decide_eq_false hs] at hr
      subst hr
      refine And.intro rfl (fun z hz => ?_)
      have hz := add_in hz (by omega) (by omega)
      subst hz
      refine And.intro rfl (Exists.intro (k + 1) (And.intro ?_ (And.intro ?_ ?_)))
      · exact ⟨rfl, rfl, rfl, rfl, trivial⟩
      · refine ⟨by omega, rfl, fun s hs' => ?_⟩
        rw [take_snoc l k hlt] at hs'
        rcases List.mem_append.1 hs' with hs' | hs'
        · exact ht s hs'
        · have : s = l[k] := by simpa using hs'
          rw [this]; omega
      · omega
  · have hkl : k = l.length := by omega
    rw [hkl, List.take_length] at ht
    exact And.intro (Exists.intro (-1) (And.intro rfl ⟨fun _ => ht, fun _ => by decide⟩)) rfl

def shortL (l : List ByteArray) : Bool := l.all fun s => decide (s.size ≤ 1048576)
theorem shortL_iff {l : List ByteArray} : shortL l = true ↔ ∀ s ∈ l, s.size ≤ 1048576 := by simp [shortL]

theorem conF_calls {h : Heap} {v : Value} {l : List ByteArray} (hv : SL encS h v l) (hl : l.length < 4611686018427387904) :
    CallsH Tryz.prog 95 [v, .func (.func 96) #[] #[]] h (Ret fun r h' => r = .bool (!shortL l) ∧ h' = h) := by
  refine f95_calls (by simp) ?_
  refine call_ret (idxF_calls hv hl) ?_
  rintro _ _ ⟨⟨z, rfl, hz⟩, rfl⟩
  rw [← shortL_iff] at hz
  refine And.intro rfl (And.intro (fun hg => ?_) (fun hg => ?_))
  · have : shortL l = false := by
      cases hs : shortL l with
      | false => rfl
      | true => have := hz.2 hs; omega
    exact And.intro (by rw [this]; rfl) rfl
  · exact And.intro (by rw [hz.1 (by omega)]; rfl) rfl

theorem short_calls {h : Heap} {v : Value} {l : List ByteArray} (hv : SL encS h v l) (hl : l.length < 4611686018427387904) :
    CallsH Tryz.prog 42 [v] h (Ret fun r h' => r = .bool (shortL l) ∧ h' = h) := by
  refine f42_calls (by simp) ?_
  refine call_ret (conF_calls hv hl) ?_
  rintro _ _ ⟨rfl, rfl⟩
  exact And.intro (by cases shortL l <;> rfl) rfl

def namesT (t : Thing) : List ByteArray := t.pairs.flatMap (fun p => [p.name, p.text]) ++ t.ranks.map Rank.name

theorem names_calls {h : Heap} {vs : List Value} {t : Thing} (x : TH h vs t) (n : Lens t) :
    CallsH Tryz.prog 43 [.agg ⟨vs⟩] h (Ret fun r h' => OL encS 1 h' r (namesT t) ∧ Chg [] h h') := by
  have np := n.p; have nr := n.r
  refine f43_calls (by simp) ?_
  intro b1 h1 g1
  have B1 : Blk h1 b1 vs := g1.blk
  have hc1 := g1.chg
  obtain ⟨pv, lv, rv, rfl, hp, hl, hr⟩ := x.ext hc1
  obtain ⟨pa, pc, rfl, _⟩ := hp.form
  obtain ⟨ra, rc, rfl, _⟩ := hr.form
  refine Exists.intro _ (And.intro (cell_blk B1 rfl) ?_)
  have fl : ∀ k, ((t.pairs.take k).flatMap fun p => [p.name, p.text]).length ≤ 2 * k := by
    intro k
    induction k with
    | zero => simp
    | succ k ih =>
      by_cases hk : k < t.pairs.length
      · rw [take_snoc t.pairs k hk, List.flatMap_append]; simp at ih ⊢; omega
      · rw [List.take_of_length_le (by omega)] at ih ⊢; omega
  refine loop_intro (fun i : Nat × Value => [(1, .pointer (some ⟨b1, 0, none⟩)), (3, i.2), (9, .slice pa t.pairs.length pc), (10, .int .i64 t.pairs.length), (11, .int .i64 i.1)])
    (fun i h' => i.1 ≤ t.pairs.length ∧ Chg [] h1 h' ∧ OL encS 1 h' i.2 ((t.pairs.take i.1).flatMap fun p => [p.name, p.text]) ∧ ∀ b ∈ vblk i.2, h1.size ≤ b) (fun i => t.pairs.length - i.1) (0, .slice none 0 0) ⟨rfl, rfl, rfl, rfl, rfl, trivial⟩
    ⟨Nat.zero_le _, Chg.refl _, OL.nil, by simp [vblk, ablk]⟩ ?_
  rintro ⟨k, ov⟩ h2 ⟨hk, hc2, ho, hob⟩
  simp only at hk ho hob
  refine And.intro rfl (And.intro (fun hlt => ?_) (fun hlt => ?_))
  · have hkk : k < t.pairs.length := by omega
    obtain ⟨b, o, rfl⟩ := hp.addr (by omega)
    have hcs := (hp.ext hc2).cells encP_len (i := k) (x := t.pairs[k]) (by simp [hkk])
    obtain ⟨oa, oc, rfl, _⟩ := ho.sl.form
    refine And.intro (by omega) (And.intro (by omega) (Exists.intro (encP t.pairs[k]) (And.intro rfl (And.intro hcs ?_))))
    intro b3 h3 g3
    refine Exists.intro _ (And.intro g3.blk (And.intro (by decide) (And.intro rfl (And.intro (encP_one _) ?_))))
    intro h4 p4
    have g4 := g3.put p4
    have B4 : Blk h4 b3 (encP t.pairs[k]) := g4.blk
    refine Exists.intro _ (And.intro (cell_blk B4 rfl) (Exists.intro _ (And.intro (cell_blk B4 rfl) ?_)))
    intro b5 h5 g5
    have hc5 := g4.chg.nil g5.chg
    have hsrc : SL encS h5 (.slice (some ⟨b5, 0, none⟩) 2 2) [t.pairs[k].name, t.pairs[k].text] := ⟨_, _, rfl, Nat.le_refl _, cells_blk g5.blk⟩
    have hfl := fl k
    refine app_own encS_len encS_one rfl (ho.ext hc5) hsrc (by simp at hfl ⊢; omega) ?_
    intro v' h6 ho6 hc6 hb6
    have hc26 : Chg [] h1 h6 := (hc2.nil hc5).fresh hc6 hob
    refine And.intro rfl (fun z hz => ?_)
    have hz := add_in hz (by omega) (by omega)
    subst hz
    refine And.intro rfl (Exists.intro (k + 1, v') (And.intro ?_ (And.intro ?_ ?_)))
    · exact ⟨rfl, rfl, rfl, rfl, rfl, trivial⟩
    · refine ⟨by simp only; omega, hc26, ?_, fun b' hb' => ?_⟩
      · simp only
        rw [take_snoc t.pairs k hkk, List.flatMap_append]
        exact ho6
      · rcases hb6 b' hb' with h | h
        · exact hob b' h
        · have := (hc2.nil hc5).size; omega
    · simp only; omega
  have hkl : k = t.pairs.length := by omega
  rw [hkl, List.take_length] at ho
  have B2 := B1.chg hc2 (by simp)
  refine Exists.intro _ (And.intro (cell_blk B2 rfl) ?_)
  have flp : (t.pairs.flatMap fun p => [p.name, p.text]).length ≤ 140000 := by
    have := fl t.pairs.length
    rw [List.take_length] at this; omega
  refine loop_intro (fun i : Nat × Value => [(3, i.2), (24, .slice ra t.ranks.length rc), (25, .int .i64 t.ranks.length), (26, .int .i64 i.1)])
    (fun i h' => i.1 ≤ t.ranks.length ∧ Chg [] h1 h' ∧ OL encS 1 h' i.2 (t.pairs.flatMap (fun p => [p.name, p.text]) ++ (t.ranks.take i.1).map Rank.name) ∧ ∀ b ∈ vblk i.2, h1.size ≤ b) (fun i => t.ranks.length - i.1) (0, ov) ⟨rfl, rfl, rfl, rfl, trivial⟩
    ⟨Nat.zero_le _, hc2, by simpa using ho, hob⟩ ?_
  clear hlt hkl hk hob ho
  rintro ⟨k, ov⟩ h2 ⟨hk, hc2, ho, hob⟩
  simp only at hk ho hob
  refine And.intro rfl (And.intro (fun hlt => ?_) (fun hlt => ?_))
  · have hkk : k < t.ranks.length := by omega
    obtain ⟨b, o, rfl⟩ := hr.addr (by omega)
    have hcs := (hr.ext hc2).cells encR_len (i := k) (x := t.ranks[k]) (by simp [hkk])
    obtain ⟨oa, oc, rfl, _⟩ := ho.sl.form
    refine And.intro (by omega) (And.intro (by omega) (Exists.intro (encR t.ranks[k]) (And.intro rfl (And.intro hcs ?_))))
    intro b3 h3 g3
    refine Exists.intro _ (And.intro g3.blk (And.intro (by decide) (And.intro rfl (And.intro (encR_one _) ?_))))
    intro h4 p4
    have g4 := g3.put p4
    have B4 : Blk h4 b3 (encR t.ranks[k]) := g4.blk
    refine Exists.intro _ (And.intro (cell_blk B4 rfl) ?_)
    intro b5 h5 g5
    have hc5 := g4.chg.nil g5.chg
    have hsrc : SL encS h5 (.slice (some ⟨b5, 0, none⟩) 1 1) [t.ranks[k].name] := SL.one encS_len g5.blk
    refine app_own encS_len encS_one rfl (ho.ext hc5) hsrc (by simp at flp ⊢; omega) ?_
    intro v' h6 ho6 hc6 hb6
    have hc26 : Chg [] h1 h6 := (hc2.nil hc5).fresh hc6 hob
    refine And.intro rfl (fun z hz => ?_)
    have hz := add_in hz (by omega) (by omega)
    subst hz
    refine And.intro rfl (Exists.intro (k + 1, v') (And.intro ?_ (And.intro ?_ ?_)))
    · exact ⟨rfl, rfl, rfl, rfl, trivial⟩
    · refine ⟨by simp only; omega, hc26, ?_, fun b' hb' => ?_⟩
      · simp only
        rw [take_snoc t.ranks k hkk, List.map_append, ← List.append_assoc]
        exact ho6
      · rcases hb6 b' hb' with h | h
        · exact hob b' h
        · have := (hc2.nil hc5).size; omega
    · simp only; omega
  have hkl : k = t.ranks.length := by omega
  rw [hkl, List.take_length] at ho
  exact And.intro ho (hc1.nil hc2)

end Go.Proofs.YtgmkldaonkbjgaaGreatDoor
namespace Go.Proofs.YtgmkldaonkbjgaaGreatDoor
open Go Go.Sx Go.Proofs.YtgmkldaonkbjgaaGreatDoor.C

theorem mfind_none {k : Kd} {a : Value} (ha : fits k a = true) : ∀ (es : List MapEntry) (i : Nat), (∀ e ∈ es, fits k e.key = true) → mfind a es i = none → ∀ e ∈ es, e.key ≠ a
  | [], _, _, _, e, he => by simp at he
  | x :: es, i, hf, h, e, he => by
    simp only [mfind] at h
    split at h
    · simp at h
    · rename_i hs
      rcases List.mem_cons.1 he with rfl | he
      · intro e; exact hs (by rw [e]; exact sameBits_refl ha)
      · exact mfind_none ha es (i + 1) (fun y hy => hf y (by simp [hy])) h e he

theorem modify_keys (f : MapEntry → MapEntry) (hf : ∀ e, (f e).key = e.key) : ∀ (es : List MapEntry) (i : Nat), (es.modify i f).map (·.key) = es.map (·.key)
  | [], i => by simp
  | e :: es, 0 => by simp [hf]
  | e :: es, i + 1 => by simp [modify_keys f hf es i]

theorem mem_modify {f : MapEntry → MapEntry} : ∀ {es : List MapEntry} {i : Nat} {e : MapEntry}, e ∈ es.modify i f → e ∈ es ∨ ∃ x ∈ es, e = f x
  | [], i, e, h => by simp at h
  | x :: es, 0, e, h => by
    simp at h
    rcases h with rfl | h
    · exact .inr ⟨x, by simp, rfl⟩
    · exact .inl (by simp [h])
  | x :: es, i + 1, e, h => by
    simp at h
    rcases h with rfl | h
    · exact .inl (by simp)
    · rcases mem_modify h with h | ⟨y, hy, rfl⟩
      · exact .inl (by simp [h])
      · exact .inr ⟨y, by simp [hy], rfl⟩

structure Seen (h : Heap) (mb : Nat) (m : List ByteArray) : Prop where
  ex : ∃ (es : List MapEntry) (c : Nat) (ks : List ByteArray), MapB h mb es c ∧ es.map (·.key) = ks.map Value.string ∧ (∀ n, n ∈ ks ↔ n ∈ m) ∧ (ks.length = m.length ↔ m.Nodup) ∧ ks.length ≤ m.length ∧ ∀ e ∈ es, ∃ z, e.val = .int .i64 z

theorem nodup_snoc {m : List ByteArray} {n : ByteArray} : (m ++ [n]).Nodup ↔ m.Nodup ∧ n ∉ m := by
  rw [List.nodup_append]
  constructor
  · rintro ⟨h1, _, h3⟩
    exact ⟨h1, fun hm => h3 n hm n (by simp) rfl⟩
  · rintro ⟨h1, h2⟩
    refine ⟨h1, by simp, fun a ha b hb => ?_⟩
    have : b = n := by simpa using hb
    rw [this]; rintro rfl; exact h2 ha

def onceR (l : List Rank) : Bool := decide (l.map Rank.name).Nodup

theorem once_calls {h : Heap} {v : Value} {l : List Rank} (hv : SL encR h v l) (hl : l.length < 4611686018427387904) :
    CallsH Tryz.prog 50 [v] h (Ret fun r h' => r = .bool (onceR l) ∧ Chg [] h h') := by
  obtain ⟨a, c, rfl, hlc⟩ := hv.form
  refine f50_calls (by simp) ?_
  intro mb h1 g1
  have hm0 : Seen h1 mb [] := ⟨[], 0, [], g1.blk, rfl, by simp, by simp, by simp, by simp⟩
  have hmb : h.size ≤ mb := by rw [g1.id]; exact Nat.le_refl _
  refine loop_intro (fun k : Nat => [(0, .slice a l.length c), (3, .map (some mb)), (7, .slice a l.length c), (8, .int .i64 l.length), (9, .int .i64 k)]) (fun k h' => k ≤ l.length ∧ Chg [] h h' ∧ Seen h' mb ((l.take k).map Rank.name)) (fun k => l.length - k) 0
    ⟨rfl, rfl, rfl, rfl, rfl, trivial⟩ ⟨Nat.zero_le _, g1.chg, hm0⟩ ?_
  rintro k h2 ⟨hk, hc2, hs⟩
  refine And.intro rfl (And.intro (fun hlt => ?_) (fun hlt => ?_))
  · have hkk : k < l.length := by omega
    obtain ⟨b, o, rfl⟩ := hv.addr (by omega)
    have hcs := (hv.ext hc2).cells encR_len (i := k) (x := l[k]) (by simp [hkk])
    refine And.intro (by omega) (And.intro (by omega) (Exists.intro (encR l[k]) (And.intro rfl (And.intro hcs ?_))))
    intro b3 h3 g3
    refine Exists.intro _ (And.intro g3.blk (And.intro (by decide) (And.intro rfl (And.intro (encR_one _) ?_))))
    intro h4 p4
    have g4 := g3.put p4
    have B4 : Blk h4 b3 (encR l[k]) := g4.blk
    obtain ⟨es, cl, ks, hmap, hkeys, hmem, hnd, hle, hvals⟩ := hs.ex
    have hmap4 : MapB h4 mb es cl := hmap.chg g4.chg (by simp)
    have hfits : ∀ e ∈ es, fits .str e.key = true := by
      intro e he
      have : e.key ∈ es.map (·.key) := List.mem_map.2 ⟨e, he, rfl⟩
      rw [hkeys] at this
      obtain ⟨n, _, hn⟩ := List.mem_map.1 this
      rw [← hn]; rfl
    refine Exists.intro _ (And.intro (cell_blk B4 rfl) ?_)
    refine And.intro rfl (Exists.intro es (Exists.intro cl (And.intro hmap4 (And.intro hfits ?_))))
    have htk : (l.take (k + 1)).map Rank.name = (l.take k).map Rank.name ++ [l[k].name] := by rw [take_snoc l k hkk, List.map_append]; rfl
    have hc4 := hc2.nil g4.chg
    cases hmf : mfind (.string l[k].name) es 0 with
    | none =>
      have hnot := mfind_none (k := .str) rfl es 0 hfits hmf
      have hnk : l[k].name ∉ ks := by
        intro hm
        have : Value.string l[k].name ∈ es.map (·.key) := by rw [hkeys]; exact List.mem_map.2 ⟨_, hm, rfl⟩
        obtain ⟨e, he, hek⟩ := List.mem_map.1 this
        exact hnot e he hek
      refine And.intro rfl (fun z hz => ?_)
      refine And.intro rfl (Exists.intro es (Exists.intro cl (And.intro hmap4 (And.intro hfits ?_))))
      rw [hmf]
      intro h5 p5
      refine And.intro rfl (fun y hy => ?_)
      have hy := add_in hy (by omega) (by omega)
      subst hy
      refine And.intro rfl (Exists.intro (k + 1) (And.intro ?_ (And.intro ?_ ?_)))
      · exact ⟨rfl, rfl, rfl, rfl, rfl, trivial⟩
      · refine ⟨by omega, hc4.fresh p5.chg (by simp; exact hmb), ⟨_, _, ks ++ [l[k].name], p5.blk, by rw [List.map_append, List.map_append, hkeys]; rfl, ?_, ?_, ?_, ?_⟩⟩
        · intro n; rw [htk]; simp [hmem n]
        · have hnk' : l[k].name ∉ (l.take k).map Rank.name := fun h => hnk ((hmem _).2 h)
          rw [htk, nodup_snoc]
          simp only [List.length_append, List.length_cons, List.length_nil]
          constructor
          · intro h; exact ⟨hnd.1 (by omega), hnk'⟩
          · rintro ⟨h, _⟩; have := hnd.2 h; omega
        · rw [htk]; simp only [List.length_append, List.length_cons, List.length_nil]; omega
        · intro e he
          rcases List.mem_append.1 he with he | he
          · exact hvals e he
          · have : e = { key := .string l[k].name, val := .int .i64 z, born := cl } := by simpa using he
            rw [this]; exact ⟨z, rfl⟩
      · omega
    | some p =>
      obtain ⟨i, w⟩ := p
      obtain ⟨_, e0, he0, hek, hev⟩ := mfind_spec (k := .str) rfl es 0 i w hfits hmf
      have hem : e0 ∈ es := List.mem_of_getElem? he0
      obtain ⟨zz, hzz⟩ := hvals e0 hem
      rw [hzz] at hev
      subst hev
      have hin : l[k].name ∈ ks := by
        have : Value.string l[k].name ∈ es.map (·.key) := List.mem_map.2 ⟨e0, hem, hek⟩
        rw [hkeys] at this
        obtain ⟨n, hn, hne⟩ := List.mem_map.1 this
        cases hne; exact hn
      refine And.intro rfl (fun z hz => ?_)
      refine And.intro rfl (Exists.intro es (Exists.intro cl (And.intro hmap4 (And.intro hfits ?_))))
      rw [hmf]
      intro h5 p5
      refine And.intro rfl (fun y hy => ?_)
      have hy := add_in hy (by omega) (by omega)
      subst hy
      refine And.intro rfl (Exists.intro (k + 1) (And.intro ?_ (And.intro ?_ ?_)))
      · exact ⟨rfl, rfl, rfl, rfl, rfl, trivial⟩
      · refine ⟨by omega, hc4.fresh p5.chg (by simp; exact hmb), ⟨_, _, ks, p5.blk, by rw [modify_keys (fun e => { e with val := .int .i64 z }) (fun _ => rfl)]; exact hkeys, ?_, ?_, ?_, ?_⟩⟩
        · intro n; rw [htk]; simp only [List.mem_append, List.mem_singleton, hmem n]
          constructor
          · exact .inl
          · rintro (h | rfl)
            · exact h
            · exact (hmem _).1 hin
        · rw [htk, nodup_snoc]
          simp only [List.length_append, List.length_cons, List.length_nil]
          constructor
          · intro h; omega
          · rintro ⟨_, h⟩; exact absurd ((hmem _).1 hin) h
        · rw [htk]; simp only [List.length_append, List.length_cons, List.length_nil]; omega
        · intro e he
          rcases mem_modify he with he | ⟨x, _, rfl⟩
          · exact hvals e he
          · exact ⟨_, rfl⟩
      · omega
  · have hkl : k = l.length := by omega
    rw [hkl, List.take_length] at hs
    obtain ⟨es, cl, ks, hmap, hkeys, hmem, hnd, hle, hvals⟩ := hs.ex
    have hel : es.length = ks.length := by
      have := congrArg List.length hkeys
      simpa using this
    simp only [List.length_map] at hnd
    refine Exists.intro es (Exists.intro cl (And.intro hmap ?_))
    refine And.intro rfl (And.intro (fun he => ?_) (fun he => ?_))
    · exact And.intro (by rw [onceR, decide_eq_true (hnd.1 (by omega))]; rfl) hc2
    · exact And.intro (by rw [onceR, decide_eq_false (fun h => he (by have := hnd.2 h; omega))]; rfl) hc2

structure Small (t : Thing) : Prop where
  p : t.pairs.length ≤ 40
  l : t.list.length ≤ 40
  r : t.ranks.length ≤ 40
  text : t.text.size ≤ 2000
  ps : ∀ x ∈ t.pairs, x.name.size ≤ 2000 ∧ x.text.size ≤ 2000
  ls : ∀ x ∈ t.list, x.size ≤ 2000
  rs : ∀ x ∈ t.ranks, x.name.size ≤ 2000

structure Sized (t : Thing) : Prop where
  text : t.text.size < 1000000000000000000
  ps : ∀ x ∈ t.pairs, x.name.size < 1000000000000000000 ∧ x.text.size < 1000000000000000000
  ls : ∀ x ∈ t.list, x.size < 1000000000000000000
  rs : ∀ x ∈ t.ranks, x.name.size < 1000000000000000000

theorem Small.lens {t : Thing} (s : Small t) : Lens t := ⟨by have := s.p; omega, by have := s.l; omega, by have := s.r; omega⟩

end Go.Proofs.YtgmkldaonkbjgaaGreatDoor
namespace Go.Proofs.YtgmkldaonkbjgaaGreatDoor
open Go Go.Sx Go.Proofs.YtgmkldaonkbjgaaGreatDoor.C

def noText : ByteArray := ⟨#[]⟩

def kOK (t : Thing) : Bool :=
  if t.hasU = false ∧ t.unt ≠ 0 then false else
  if t.kind = 1 then decide (t.pairs.length + t.list.length + t.ranks.length = 0) else
  if t.kind = 2 then decide (0 < t.pairs.length) && (decide (t.list.length + t.ranks.length = 0) && (decide (t.text = noText) && rising (fun x y => sless x.name y.name) t.pairs)) else
  if t.kind = 3 then decide (0 < t.list.length) && (decide (t.pairs.length + t.ranks.length = 0) && decide (t.text = noText)) else
  if t.kind = 4 then decide (0 < t.list.length) && (decide (t.pairs.length + t.ranks.length = 0) && (decide (t.text = noText) && rising sless t.list)) else
  if t.kind = 5 then decide (0 < t.ranks.length) && (decide (t.pairs.length + t.list.length = 0) && (decide (t.text = noText) && (rising aheadR t.ranks && onceR t.ranks))) else false

theorem small_short {t : Thing} (s : Small t) : shortL [t.text] = true ∧ shortL t.list = true ∧ shortL (namesT t) = true ∧ countT t ≤ 65536 := by
  have := s.text
  have hp := s.p; have hl := s.l; have hr := s.r
  refine ⟨by rw [shortL_iff]; intro x hx; simp at hx; rw [hx]; omega, by rw [shortL_iff]; intro x hx; have := s.ls x hx; omega, ?_, by unfold countT; omega⟩
  rw [shortL_iff]
  intro x hx
  simp only [namesT, List.mem_append, List.mem_flatMap, List.mem_map] at hx
  rcases hx with ⟨p, hp, hx⟩ | ⟨r, hr, rfl⟩
  · have := s.ps p hp
    simp at hx
    rcases hx with rfl | rfl <;> omega
  · have := s.rs r hr; omega

theorem namesT_len {t : Thing} (s : Small t) : (namesT t).length < 4611686018427387904 := by
  have hp := s.p; have hr := s.r
  unfold namesT
  have : ∀ l : List Pair, (l.flatMap fun p => [p.name, p.text]).length = 2 * l.length := by
    intro l
    induction l with
    | nil => rfl
    | cons x l ih => simp at ih ⊢; omega
  rw [List.length_append, this, List.length_map]; omega

theorem KCheck_tail {h h0 : Heap} {b1 : Nat} {vs : List Value} {t : Thing} (s : Small t) (hc : Chg [] h0 h) (B1 : Blk h b1 vs) (x : TH h vs t) (hu : ¬ (t.hasU = false ∧ t.unt ≠ 0)) :
    swp Tryz.prog (.seq (.seq (.ops f21r4) (.block 0 (.seq (.ops f21r5) (.cond (.tmp 49) (.seq (.ops f21r6) .ret) (.seq (.ops f21r7) (.cond (.tmp 57) (.seq (.ops f21r8) .ret) (.seq (.ops f21r9) (.cond (.tmp 77) (.seq (.ops f21r10) .ret) (.seq (.ops f21r11) (.cond (.tmp 92) (.seq (.ops f21r12) .ret) (.seq (.ops f21r13) (.cond (.tmp 112) (.seq (.ops f21r14) .ret) .skip)))))))))))) (.seq (.ops f21r15) .ret))
      (retQ [.t 2] (Ret fun r h' => r = .bool (kOK t) ∧ Chg [] h0 h')) (mk [(1, .pointer (some ⟨b1, 0, none⟩)), (2, .bool false), (3, .int .i64 t.pairs.length), (4, .int .i64 t.list.length), (5, .int .i64 t.ranks.length)]) [] h := by
  have sp := s.p; have sl := s.l; have sr := s.r
  obtain ⟨pv, lv, rv, rfl, hp, hl, hr⟩ := x
  have e0 : kOK t = if t.kind = 1 then decide (t.pairs.length + t.list.length + t.ranks.length = 0) else
      if t.kind = 2 then decide (0 < t.pairs.length) && (decide (t.list.length + t.ranks.length = 0) && (decide (t.text = noText) && rising (fun x y => sless x.name y.name) t.pairs)) else
      if t.kind = 3 then decide (0 < t.list.length) && (decide (t.pairs.length + t.ranks.length = 0) && decide (t.text = noText)) else
      if t.kind = 4 then decide (0 < t.list.length) && (decide (t.pairs.length + t.ranks.length = 0) && (decide (t.text = noText) && rising sless t.list)) else
      if t.kind = 5 then decide (0 < t.ranks.length) && (decide (t.pairs.length + t.list.length = 0) && (decide (t.text = noText) && (rising aheadR t.ranks && onceR t.ranks))) else false := by
    unfold kOK; rw [if_neg hu]
  rw [e0]
  refine Exists.intro _ (And.intro (cell_blk B1 rfl) ?_)
  refine And.intro rfl (And.intro (fun k1 => ?_) (fun k1 => ?_))
  · rw [if_pos k1]
    refine And.intro rfl (fun z hz => ?_)
    have hz := add_in hz (by omega) (by omega)
    refine And.intro rfl (fun y hy => ?_)
    have hy := add_in hy (by omega) (by omega)
    refine And.intro rfl (And.intro (fun he => ?_) (fun he => ?_))
    · exact And.intro (by rw [decide_eq_true (by omega)]; rfl) hc
    · exact And.intro (by rw [decide_eq_false (by omega)]; rfl) hc
  rw [if_neg k1]
  refine And.intro rfl (And.intro (fun k2 => ?_) (fun k2 => ?_))
  · rw [if_pos k2]
    refine And.intro rfl (And.intro (fun g1 => ?_) (fun g1 => ?_))
    rotate_left
    · exact And.intro (by rw [decide_eq_false (by omega)]; rfl) hc
    rw [decide_eq_true (show 0 < t.pairs.length by omega), Bool.true_and]
    refine And.intro rfl (fun z hz => ?_)
    have hz := add_in hz (by omega) (by omega)
    refine And.intro rfl (And.intro (fun g2 => ?_) (fun g2 => ?_))
    rotate_left
    · exact And.intro (by rw [decide_eq_false (by omega)]; rfl) hc
    rw [decide_eq_true (show t.list.length + t.ranks.length = 0 by omega), Bool.true_and]
    refine Exists.intro _ (And.intro (cell_blk B1 rfl) ?_)
    refine And.intro (fun g3 => ?_) (fun g3 => ?_)
    rotate_left
    · exact And.intro (by rw [decide_eq_false (show ¬ t.text = noText from g3)]; rfl) hc
    rw [decide_eq_true (show t.text = noText from g3), Bool.true_and]
    refine Exists.intro _ (And.intro (cell_blk B1 rfl) ?_)
    refine call_ret (risP_calls hp (by omega) chk1_ord) ?_
    rintro _ h2 ⟨rfl, hc2⟩
    exact And.intro rfl (hc.nil hc2)
  rw [if_neg k2]
  refine And.intro rfl (And.intro (fun k3 => ?_) (fun k3 => ?_))
  · rw [if_pos k3]
    refine And.intro rfl (And.intro (fun g1 => ?_) (fun g1 => ?_))
    rotate_left
    · exact And.intro (by rw [decide_eq_false (by omega)]; rfl) hc
    rw [decide_eq_true (show 0 < t.list.length by omega), Bool.true_and]
    refine And.intro rfl (fun z hz => ?_)
    have hz := add_in hz (by omega) (by omega)
    refine And.intro rfl (And.intro (fun g2 => ?_) (fun g2 => ?_))
    rotate_left
    · exact And.intro (by rw [decide_eq_false (by omega)]; rfl) hc
    rw [decide_eq_true (show t.pairs.length + t.ranks.length = 0 by omega), Bool.true_and]
    refine Exists.intro _ (And.intro (cell_blk B1 rfl) ?_)
    refine And.intro (fun g3 => ?_) (fun g3 => ?_)
    · exact And.intro (by rw [decide_eq_true (show t.text = noText from g3)]; rfl) hc
    · exact And.intro (by rw [decide_eq_false (show ¬ t.text = noText from g3)]; rfl) hc
  rw [if_neg k3]
  refine And.intro rfl (And.intro (fun k4 => ?_) (fun k4 => ?_))
  · rw [if_pos k4]
    refine And.intro rfl (And.intro (fun g1 => ?_) (fun g1 => ?_))
    rotate_left
    · exact And.intro (by rw [decide_eq_false (by omega)]; rfl) hc
    rw [decide_eq_true (show 0 < t.list.length by omega), Bool.true_and]
    refine And.intro rfl (fun z hz => ?_)
    have hz := add_in hz (by omega) (by omega)
    refine And.intro rfl (And.intro (fun g2 => ?_) (fun g2 => ?_))
    rotate_left
    · exact And.intro (by rw [decide_eq_false (by omega)]; rfl) hc
    rw [decide_eq_true (show t.pairs.length + t.ranks.length = 0 by omega), Bool.true_and]
    refine Exists.intro _ (And.intro (cell_blk B1 rfl) ?_)
    refine And.intro (fun g3 => ?_) (fun g3 => ?_)
    rotate_left
    · exact And.intro (by rw [decide_eq_false (show ¬ t.text = noText from g3)]; rfl) hc
    rw [decide_eq_true (show t.text = noText from g3), Bool.true_and]
    refine Exists.intro _ (And.intro (cell_blk B1 rfl) ?_)
    refine call_ret (risS_calls hl (by omega) cmpS_ord) ?_
    rintro _ h2 ⟨rfl, hc2⟩
    exact And.intro rfl (hc.nil hc2)
  rw [if_neg k4]
  refine And.intro rfl (And.intro (fun k5 => ?_) (fun k5 => ?_))
  · rw [if_pos k5]
    refine And.intro rfl (And.intro (fun g1 => ?_) (fun g1 => ?_))
    rotate_left
    · exact And.intro (by rw [decide_eq_false (by omega)]; rfl) hc
    rw [decide_eq_true (show 0 < t.ranks.length by omega), Bool.true_and]
    refine And.intro rfl (fun z hz => ?_)
    have hz := add_in hz (by omega) (by omega)
    refine And.intro rfl (And.intro (fun g2 => ?_) (fun g2 => ?_))
    rotate_left
    · exact And.intro (by rw [decide_eq_false (by omega)]; rfl) hc
    rw [decide_eq_true (show t.pairs.length + t.list.length = 0 by omega), Bool.true_and]
    refine Exists.intro _ (And.intro (cell_blk B1 rfl) ?_)
    refine And.intro (fun g3 => ?_) (fun g3 => ?_)
    rotate_left
    · exact And.intro (by rw [decide_eq_false (show ¬ t.text = noText from g3)]; rfl) hc
    rw [decide_eq_true (show t.text = noText from g3), Bool.true_and]
    refine Exists.intro _ (And.intro (cell_blk B1 rfl) ?_)
    refine call_ret (risR_calls hr (by omega) ahead_ord) ?_
    rintro r2 h2 ⟨hr2, hc2⟩
    cases hris : rising aheadR t.ranks with
    | false =>
      rw [hris] at hr2
      subst hr2
      exact And.intro rfl (hc.nil hc2)
    | true =>
      rw [hris] at hr2
      subst hr2
      have B2 := B1.chg hc2 (by simp)
      refine Exists.intro _ (And.intro (cell_blk B2 rfl) ?_)
      refine call_ret (once_calls (hr.ext hc2) (by omega)) ?_
      rintro _ h3 ⟨rfl, hc3⟩
      exact And.intro rfl ((hc.nil hc2).nil hc3)
  rw [if_neg k5]
  exact And.intro rfl hc

theorem KCheck_calls {h : Heap} {vs : List Value} {t : Thing} (x : TH h vs t) (s : Small t) :
    CallsH Tryz.prog 21 [.agg ⟨vs⟩] h (Ret fun r h' => r = .bool (kOK t) ∧ Chg [] h h') := by
  have sp := s.p; have sl := s.l; have sr := s.r
  obtain ⟨q1, q2, q3, q4⟩ := small_short s
  refine f21_calls (by simp) ?_
  intro b1 h1 g1
  have B1 : Blk h1 b1 vs := g1.blk
  have hc1 := g1.chg
  have x1 := x.ext hc1
  have x1' := x1
  obtain ⟨pv, lv, rv, rfl, hp, hl, hr⟩ := x1
  obtain ⟨pa, pc, rfl, _⟩ := hp.form
  obtain ⟨la, lc, rfl, _⟩ := hl.form
  obtain ⟨ra, rc, rfl, _⟩ := hr.form
  have fin : ∀ h2, Chg [] h1 h2 → ¬ (t.hasU = false ∧ t.unt ≠ 0) → Chg [] h h2 ∧ TH h2 [.int .i64 t.kind, .string t.text, .slice pa t.pairs.length pc, .slice la t.list.length lc, .slice ra t.ranks.length rc, .bool t.hasU, .int .i64 t.unt] t :=
    fun h2 hc2 _ => ⟨hc1.nil hc2, x1'.ext hc2⟩
  refine Exists.intro _ (And.intro (cell_blk B1 rfl) ?_)
  have bU : Blk h1 b1 [.int .i64 t.kind, .string t.text, .slice pa t.pairs.length pc, .slice la t.list.length lc, .slice ra t.ranks.length rc, .bool t.hasU, .int .i64 t.unt] := B1
  cases hU : t.hasU with
  | false =>
    refine Exists.intro _ (And.intro (cell_blk B1 rfl) ?_)
    refine And.intro rfl (And.intro (fun u0 => ?_) (fun u0 => ?_))
    · exact And.intro (by unfold kOK; rw [if_pos ⟨hU, u0⟩]; rfl) hc1
    have hu : ¬ (t.hasU = false ∧ t.unt ≠ 0) := fun h => u0 h.2
    refine Exists.intro _ (And.intro rfl (And.intro (cells_blk bU) ?_))
    refine call_ret (count_calls x1' s.lens) ?_
    rintro _ h2 ⟨rfl, hc2⟩
    refine And.intro rfl (And.intro (fun big => absurd big (by omega)) (fun _ => ?_))
    have B2 := bU.chg hc2 (by simp)
    refine Exists.intro _ (And.intro (cell_blk B2 rfl) ?_)
    intro b3 h3 g3
    refine call_ret (short_calls (SL.one encS_len (x := t.text) g3.blk) (by simp)) ?_
    rintro r3 _ ⟨hr3, rfl⟩
    rw [q1] at hr3
    subst hr3
    have hc3 := hc2.nil g3.chg
    have B3 := bU.chg hc3 (by simp)
    refine Exists.intro _ (And.intro (cell_blk B3 rfl) ?_)
    refine call_ret (short_calls (hl.ext hc3) (by omega)) ?_
    rintro r4 _ ⟨hr4, rfl⟩
    rw [q2] at hr4
    subst hr4
    refine Exists.intro _ (And.intro rfl (And.intro (cells_blk B3) ?_))
    refine call_ret (names_calls (x1'.ext hc3) s.lens) ?_
    rintro nv h5 ⟨ho5, hc5⟩
    refine call_ret (short_calls ho5.sl (namesT_len s)) ?_
    rintro r6 _ ⟨hr6, rfl⟩
    rw [q3] at hr6
    subst hr6
    have hc6 := hc3.nil hc5
    have B6 := bU.chg hc6 (by simp)
    refine Exists.intro _ (And.intro (cell_blk B6 rfl) (Exists.intro _ (And.intro (cell_blk B6 rfl) (Exists.intro _ (And.intro (cell_blk B6 rfl) ?_)))))
    exact cut_at [(1, .pointer (some ⟨b1, 0, none⟩)), (2, .bool false), (3, .int .i64 t.pairs.length), (4, .int .i64 t.list.length), (5, .int .i64 t.ranks.length)] ⟨rfl, rfl, rfl, rfl, rfl, trivial⟩ (KCheck_tail s (hc1.nil hc6) B6 (x1'.ext hc6) hu)
  | true =>
    have hu : ¬ (t.hasU = false ∧ t.unt ≠ 0) := fun h => by rw [hU] at h; cases h.1
    refine Exists.intro _ (And.intro rfl (And.intro (cells_blk bU) ?_))
    refine call_ret (count_calls x1' s.lens) ?_
    rintro _ h2 ⟨rfl, hc2⟩
    refine And.intro rfl (And.intro (fun big => absurd big (by omega)) (fun _ => ?_))
    have B2 := bU.chg hc2 (by simp)
    refine Exists.intro _ (And.intro (cell_blk B2 rfl) ?_)
    intro b3 h3 g3
    refine call_ret (short_calls (SL.one encS_len (x := t.text) g3.blk) (by simp)) ?_
    rintro r3 _ ⟨hr3, rfl⟩
    rw [q1] at hr3
    subst hr3
    have hc3 := hc2.nil g3.chg
    have B3 := bU.chg hc3 (by simp)
    refine Exists.intro _ (And.intro (cell_blk B3 rfl) ?_)
    refine call_ret (short_calls (hl.ext hc3) (by omega)) ?_
    rintro r4 _ ⟨hr4, rfl⟩
    rw [q2] at hr4
    subst hr4
    refine Exists.intro _ (And.intro rfl (And.intro (cells_blk B3) ?_))
    refine call_ret (names_calls (x1'.ext hc3) s.lens) ?_
    rintro nv h5 ⟨ho5, hc5⟩
    refine call_ret (short_calls ho5.sl (namesT_len s)) ?_
    rintro r6 _ ⟨hr6, rfl⟩
    rw [q3] at hr6
    subst hr6
    have hc6 := hc3.nil hc5
    have B6 := bU.chg hc6 (by simp)
    refine Exists.intro _ (And.intro (cell_blk B6 rfl) (Exists.intro _ (And.intro (cell_blk B6 rfl) (Exists.intro _ (And.intro (cell_blk B6 rfl) ?_)))))
    exact cut_at [(1, .pointer (some ⟨b1, 0, none⟩)), (2, .bool false), (3, .int .i64 t.pairs.length), (4, .int .i64 t.list.length), (5, .int .i64 t.ranks.length)] ⟨rfl, rfl, rfl, rfl, rfl, trivial⟩ (KCheck_tail s (hc1.nil hc6) B6 (x1'.ext hc6) hu)

end Go.Proofs.YtgmkldaonkbjgaaGreatDoor
namespace Go.Proofs.YtgmkldaonkbjgaaGreatDoor
open Go Go.Sx Go.Proofs.YtgmkldaonkbjgaaGreatDoor.C

def ltP (x y : Pair) : Bool := sless x.name y.name

def rKind (t : Thing) : Bool :=
  if t.kind = 1 then decide (t.pairs.length + t.list.length + t.ranks.length = 0) else
  if t.kind = 2 then decide (0 < t.pairs.length) && decide (t.list.length + t.ranks.length = 0) else
  if t.kind = 3 ∨ t.kind = 4 then decide (0 < t.list.length) && decide (t.pairs.length + t.ranks.length = 0) else
  if t.kind = 5 then decide (0 < t.ranks.length) && decide (t.pairs.length + t.list.length = 0) else false

structure ROK (t : Thing) : Prop where
  u : ¬ (t.hasU = false ∧ t.unt ≠ 0)
  text : ¬ (t.kind ≠ 1 ∧ t.text ≠ noText)
  ps : rising ltP t.pairs = true
  ls : t.kind = 4 → rising sless t.list = true
  rs : rising aheadR t.ranks = true
  once : onceR t.ranks = true

theorem kOK_bad {t : Thing} (h : ¬ ROK t) : kOK t = false := by
  by_cases hu : t.hasU = false ∧ t.unt ≠ 0
  · unfold kOK; rw [if_pos hu]
  unfold kOK
  rw [if_neg hu]
  have nil_p : t.pairs.length = 0 → rising ltP t.pairs = true := fun e => rising_short (by omega)
  have nil_r : t.ranks.length = 0 → rising aheadR t.ranks = true ∧ onceR t.ranks = true := fun e => ⟨rising_short (by omega), by
    have : t.ranks = [] := List.length_eq_zero_iff.1 e
    rw [this]; rfl⟩
  split
  · rename_i k1
    refine decide_eq_false fun he => h ⟨hu, fun hn => hn.1 k1, nil_p (by omega), fun k4 => by omega, (nil_r (by omega)).1, (nil_r (by omega)).2⟩
  split
  · rename_i k1 k2
    refine Bool.eq_false_iff.2 fun he => h ?_
    simp only [Bool.and_eq_true, decide_eq_true_eq] at he
    exact ⟨hu, fun hn => hn.2 he.2.2.1, he.2.2.2, fun k4 => by omega, (nil_r (by omega)).1, (nil_r (by omega)).2⟩
  split
  · rename_i k1 k2 k3
    refine Bool.eq_false_iff.2 fun he => h ?_
    simp only [Bool.and_eq_true, decide_eq_true_eq] at he
    exact ⟨hu, fun hn => hn.2 he.2.2, nil_p (by omega), fun k4 => by omega, (nil_r (by omega)).1, (nil_r (by omega)).2⟩
  split
  · rename_i k1 k2 k3 k4
    refine Bool.eq_false_iff.2 fun he => h ?_
    simp only [Bool.and_eq_true, decide_eq_true_eq] at he
    exact ⟨hu, fun hn => hn.2 he.2.2.1, nil_p (by omega), fun _ => he.2.2.2, (nil_r (by omega)).1, (nil_r (by omega)).2⟩
  split
  · rename_i k1 k2 k3 k4 k5
    refine Bool.eq_false_iff.2 fun he => h ?_
    simp only [Bool.and_eq_true, decide_eq_true_eq] at he
    exact ⟨hu, fun hn => hn.2 he.2.2.1, nil_p (by omega), fun k4 => by omega, he.2.2.2.1, he.2.2.2.2⟩
  · rfl

theorem kOK_good {t : Thing} (h : ROK t) : kOK t = rKind t := by
  unfold kOK rKind
  rw [if_neg h.u]
  have ht : t.kind ≠ 1 → decide (t.text = noText) = true := fun k => decide_eq_true (Decidable.not_not.1 fun hn => h.text ⟨k, hn⟩)
  by_cases k1 : t.kind = 1
  · rw [if_pos k1, if_pos k1]
  rw [if_neg k1, if_neg k1, ht k1]
  by_cases k2 : t.kind = 2
  · rw [if_pos k2, if_pos k2]
    have : rising (fun x y => sless x.name y.name) t.pairs = true := h.ps
    rw [this]; simp
  rw [if_neg k2, if_neg k2]
  by_cases k3 : t.kind = 3
  · rw [if_pos k3, if_pos (.inl k3)]; simp
  rw [if_neg k3]
  by_cases k4 : t.kind = 4
  · rw [if_pos k4, if_pos (.inr k4), h.ls k4]; simp
  rw [if_neg k4, if_neg (show ¬ (t.kind = 3 ∨ t.kind = 4) from fun h => h.elim k3 k4)]
  by_cases k5 : t.kind = 5
  · rw [if_pos k5, if_pos k5, h.rs, h.once]; simp
  rw [if_neg k5, if_neg k5]

theorem RCheck_tail {h h0 : Heap} {b1 : Nat} {vs : List Value} {t : Thing} (s : Small t) (hc : Chg [] h0 h) (B1 : Blk h b1 vs) (x : TH h vs t) (hr : ROK t) :
    swp Tryz.prog (.seq (.seq (.ops f32r28) (.block 8 (.seq (.ops f32r29) (.cond (.tmp 187) (.seq (.ops f32r30) .ret) (.seq (.ops f32r31) (.cond (.tmp 195) (.seq (.ops f32r32) .ret) (.seq (.seq (.ops f32r33) (.cond (.tmp 205) .skip (.ops f32r34))) (.cond (.tmp 205) (.seq (.ops f32r35) .ret) (.seq (.ops f32r36) (.cond (.tmp 216) (.seq (.ops f32r37) .ret) .skip)))))))))) (.seq (.ops f32r38) .ret))
      (retQ [.t 2] (Ret fun r h' => r = .bool (kOK t) ∧ Chg [] h0 h')) (mk [(1, .pointer (some ⟨b1, 0, none⟩)), (3, .int .i64 t.pairs.length), (4, .int .i64 t.list.length), (5, .int .i64 t.ranks.length)]) [] h := by
  have sp := s.p; have sl := s.l; have sr := s.r
  obtain ⟨pv, lv, rv, rfl, _, _, _⟩ := x
  rw [kOK_good hr]
  unfold rKind
  refine Exists.intro _ (And.intro (cell_blk B1 rfl) ?_)
  refine And.intro rfl (And.intro (fun k1 => ?_) (fun k1 => ?_))
  · rw [if_pos k1]
    refine And.intro rfl (fun z hz => ?_)
    have hz := add_in hz (by omega) (by omega)
    refine And.intro rfl (fun y hy => ?_)
    have hy := add_in hy (by omega) (by omega)
    refine And.intro rfl (And.intro (fun he => ?_) (fun he => ?_))
    · exact And.intro (by rw [decide_eq_true (by omega)]; rfl) hc
    · exact And.intro (by rw [decide_eq_false (by omega)]; rfl) hc
  rw [if_neg k1]
  refine And.intro rfl (And.intro (fun k2 => ?_) (fun k2 => ?_))
  · rw [if_pos k2]
    refine And.intro rfl (And.intro (fun g1 => ?_) (fun g1 => ?_))
    rotate_left
    · exact And.intro (by rw [decide_eq_false (by omega)]; rfl) hc
    rw [decide_eq_true (show 0 < t.pairs.length by omega), Bool.true_and]
    refine And.intro rfl (fun z hz => ?_)
    have hz := add_in hz (by omega) (by omega)
    refine And.intro rfl (And.intro (fun g2 => ?_) (fun g2 => ?_))
    · exact And.intro (by rw [decide_eq_true (by omega)]; rfl) hc
    · exact And.intro (by rw [decide_eq_false (by omega)]; rfl) hc
  rw [if_neg k2]
  refine And.intro rfl (And.intro (fun k3 => ?_) (fun k3 => ?_))
  · rw [if_pos (.inl k3)]
    refine And.intro rfl (And.intro (fun g1 => ?_) (fun g1 => ?_))
    rotate_left
    · exact And.intro (by rw [decide_eq_false (by omega)]; rfl) hc
    rw [decide_eq_true (show 0 < t.list.length by omega), Bool.true_and]
    refine And.intro rfl (fun z hz => ?_)
    have hz := add_in hz (by omega) (by omega)
    refine And.intro rfl (And.intro (fun g2 => ?_) (fun g2 => ?_))
    · exact And.intro (by rw [decide_eq_true (by omega)]; rfl) hc
    · exact And.intro (by rw [decide_eq_false (by omega)]; rfl) hc
  refine And.intro rfl (And.intro (fun k4 => ?_) (fun k4 => ?_))
  · rw [if_pos (.inr k4)]
    refine And.intro rfl (And.intro (fun g1 => ?_) (fun g1 => ?_))
    rotate_left
    · exact And.intro (by rw [decide_eq_false (by omega)]; rfl) hc
    rw [decide_eq_true (show 0 < t.list.length by omega), Bool.true_and]
    refine And.intro rfl (fun z hz => ?_)
    have hz := add_in hz (by omega) (by omega)
    refine And.intro rfl (And.intro (fun g2 => ?_) (fun g2 => ?_))
    · exact And.intro (by rw [decide_eq_true (by omega)]; rfl) hc
    · exact And.intro (by rw [decide_eq_false (by omega)]; rfl) hc
  rw [if_neg (by omega)]
  refine And.intro rfl (And.intro (fun k5 => ?_) (fun k5 => ?_))
  · rw [if_pos k5]
    refine And.intro rfl (And.intro (fun g1 => ?_) (fun g1 => ?_))
    rotate_left
    · exact And.intro (by rw [decide_eq_false (by omega)]; rfl) hc
    rw [decide_eq_true (show 0 < t.ranks.length by omega), Bool.true_and]
    refine And.intro rfl (fun z hz => ?_)
    have hz := add_in hz (by omega) (by omega)
    refine And.intro rfl (And.intro (fun g2 => ?_) (fun g2 => ?_))
    · exact And.intro (by rw [decide_eq_true (by omega)]; rfl) hc
    · exact And.intro (by rw [decide_eq_false (by omega)]; rfl) hc
  rw [if_neg k5]
  exact And.intro rfl hc

end Go.Proofs.YtgmkldaonkbjgaaGreatDoor
namespace Go.Proofs.YtgmkldaonkbjgaaGreatDoor
open Go Go.Sx Go.Proofs.YtgmkldaonkbjgaaGreatDoor.C

theorem rising_at {α : Type} {lt : α → α → Bool} : ∀ {l : List α} {k : Nat} (h1 : 1 ≤ k) (h : k < l.length), rising lt l = true → lt (l[k - 1]'(by omega)) l[k] = true
  | [], _, _, h, _ => by simp at h
  | [_], _, h1, h, _ => by simp at h; omega
  | x :: y :: l, 1, _, _, hr => by
    simp only [rising, Bool.and_eq_true] at hr
    exact hr.1
  | x :: y :: l, k + 2, _, h, hr => by
    simp only [rising, Bool.and_eq_true] at hr
    have := rising_at (l := y :: l) (k := k + 1) (by omega) (by simpa using h) hr.2
    exact this

theorem RCheck_ranks {h h0 : Heap} {b1 : Nat} {vs : List Value} {t : Thing} (s : Small t) (hc : Chg [] h0 h) (B1 : Blk h b1 vs) (x : TH h vs t) (hu : ¬ (t.hasU = false ∧ t.unt ≠ 0)) (ht : ¬ (t.kind ≠ 1 ∧ t.text ≠ noText))
    (hps : rising ltP t.pairs = true) (hls : t.kind = 4 → rising sless t.list = true) :
    swp Tryz.prog (.seq (.seq (.ops f32r16) (.block 4 (.loop f32l27))) (.seq (.seq (.ops f32r28) (.block 8 (.seq (.ops f32r29) (.cond (.tmp 187) (.seq (.ops f32r30) .ret) (.seq (.ops f32r31) (.cond (.tmp 195) (.seq (.ops f32r32) .ret) (.seq (.seq (.ops f32r33) (.cond (.tmp 205) .skip (.ops f32r34))) (.cond (.tmp 205) (.seq (.ops f32r35) .ret) (.seq (.ops f32r36) (.cond (.tmp 216) (.seq (.ops f32r37) .ret) .skip)))))))))) (.seq (.ops f32r38) .ret)))
      (retQ [.t 2] (Ret fun r h' => r = .bool (kOK t) ∧ Chg [] h0 h')) (mk [(1, .pointer (some ⟨b1, 0, none⟩)), (3, .int .i64 t.pairs.length), (4, .int .i64 t.list.length), (5, .int .i64 t.ranks.length)]) [] h := by
  have sr := s.r
  have x' := x
  obtain ⟨pv, lv, rv, rfl, hp, hl, hr⟩ := x
  obtain ⟨ra, rc, rfl, _⟩ := hr.form
  refine loop_intro (fun k : Nat => [(1, .pointer (some ⟨b1, 0, none⟩)), (3, .int .i64 t.pairs.length), (4, .int .i64 t.list.length), (5, .int .i64 t.ranks.length), (8, .int .i64 k)])
    (fun k h' => k ≤ t.ranks.length ∧ Chg [] h h' ∧ rising aheadR t.ranks = rising aheadR (t.ranks.drop (k - 1)) ∧ ((t.ranks.take k).map Rank.name).Nodup) (fun k => t.ranks.length - k) 0 ⟨rfl, rfl, rfl, rfl, rfl, trivial⟩ ⟨Nat.zero_le _, Chg.refl h, rfl, by simp⟩ ?_
  rintro k h1 ⟨hk, hc1, hri, hnd⟩
  have hc01 := hc.nil hc1
  have bad : ∀ h2, Chg [] h1 h2 → ¬ ROK t → Ret (fun r h' => r = .bool (kOK t) ∧ Chg [] h0 h') (.returned (retV [Value.bool false])) h2 := fun h2 hc2 hn => ⟨by rw [kOK_bad hn]; rfl, hc01.nil hc2⟩
  refine And.intro rfl (And.intro (fun hlt => ?_) (fun hlt => ?_))
  · have hkk : k < t.ranks.length := by omega
    obtain ⟨b3, o, rfl⟩ := hr.addr (by omega)
    have hr1 := hr.ext hc1
    have hcs := hr1.cells encR_len (i := k) (x := t.ranks[k]) (by simp [hkk])
    have hsz := s.rs t.ranks[k] (List.getElem_mem hkk)
    have B2 := B1.chg hc1 (by simp)
    -- the inner loop, from whatever heap
    have inner : ∀ h2 (hc2 : Chg [] h1 h2) (hri' : rising aheadR t.ranks = rising aheadR (t.ranks.drop k)) σ, SubL σ [(1, .pointer (some ⟨b1, 0, none⟩)), (3, .int .i64 t.pairs.length), (4, .int .i64 t.list.length), (5, .int .i64 t.ranks.length), (8, .int .i64 k)] →
        ∀ Q : Post, (∀ h3 σ', Chg [] h1 h3 → SubL σ' [(1, .pointer (some ⟨b1, 0, none⟩)), (3, .int .i64 t.pairs.length), (4, .int .i64 t.list.length), (5, .int .i64 t.ranks.length), (8, .int .i64 k)] → ((t.ranks.take (k + 1)).map Rank.name).Nodup → Q .normal σ' [] h3) →
        (∀ h3 σ', Chg [] h1 h3 → σ' 2 = some (.bool false) → ¬ ROK t → Q .ret σ' [] h3) →
        swp Tryz.prog (.seq (.ops f32r20) (.block 6 (.loop f32l25))) Q σ [] h2 := by
      intro h2 hc2 _ σ hσ Q hQ hQr
      obtain ⟨s1, s3, s4, s5, s8, _⟩ := hσ
      have hr2 := hr1.ext hc2
      have B3 := B2.chg hc2 (by simp)
      have hcs2 := hr2.cells encR_len (i := k) (x := t.ranks[k]) (by simp [hkk])
      refine loop_intro (fun j : Nat => [(1, .pointer (some ⟨b1, 0, none⟩)), (3, .int .i64 t.pairs.length), (4, .int .i64 t.list.length), (5, .int .i64 t.ranks.length), (8, .int .i64 k), (9, .int .i64 j)])
        (fun j h' => j ≤ k ∧ h' = h2 ∧ ∀ q (_ : q < j) (hq : q < t.ranks.length), t.ranks[q].name ≠ t.ranks[k].name) (fun j => k - j) 0 ⟨s1, s3, s4, s5, s8, rfl, trivial⟩ ⟨Nat.zero_le _, rfl, fun q h => by omega⟩ ?_
      rintro j h3 ⟨hj, h32, hne⟩
      have h32 := h32.symm
      subst h32
      refine And.intro rfl (And.intro (fun hlt => ?_) (fun hlt => ?_))
      · have hjk : j < k := by omega
        have hjl : j < t.ranks.length := by omega
        have hds := hr2.cells encR_len (i := j) (x := t.ranks[j]) (by simp [hjl])
        refine Exists.intro _ (And.intro (cell_blk B3 rfl) ?_)
        refine And.intro (by omega) (And.intro (by omega) (Exists.intro _ (And.intro (hds 0 _ rfl) ?_)))
        refine Exists.intro _ (And.intro (cell_blk B3 rfl) ?_)
        refine And.intro (by omega) (And.intro (by omega) (Exists.intro _ (And.intro (hcs2 0 _ rfl) ?_)))
        refine And.intro (fun he => ?_) (fun he => ?_)
        · refine hQr h2 _ hc2 rfl fun ro => ?_
          have hn := of_decide_eq_true ro.once
          have := List.pairwise_iff_getElem.1 hn j k (by simpa using hjl) (by simpa using hkk) hjk
          simp only [List.getElem_map] at this
          exact this he
        · refine And.intro rfl (fun z hz => ?_)
          have hz := add_in hz (by omega) (by omega)
          subst hz
          refine And.intro rfl (Exists.intro (j + 1) (And.intro ?_ (And.intro ?_ ?_)))
          · exact ⟨rfl, rfl, rfl, rfl, rfl, rfl, trivial⟩
          · refine ⟨by omega, rfl, fun q hq hql => ?_⟩
            by_cases hqj : q = j
            · subst hqj; exact he
            · exact hne q (by omega) hql
          · omega
      · have hjk : j = k := by omega
        refine hQ h2 _ hc2 ⟨rfl, rfl, rfl, rfl, rfl, trivial⟩ ?_
        rw [take_snoc t.ranks k hkk, List.map_append]
        refine nodup_snoc.2 ⟨hnd, fun hm => ?_⟩
        obtain ⟨r, hr', hrn⟩ := List.mem_map.1 hm
        obtain ⟨q, hq, hqe⟩ := List.getElem_of_mem hr'
        have hqk : q < k := by simp at hq; omega
        rw [List.getElem_take] at hqe
        exact hne q (by omega) (by omega) (by rw [hqe]; exact hrn)
    have go_on : ∀ h2 (hc2 : Chg [] h1 h2) (hri' : rising aheadR t.ranks = rising aheadR (t.ranks.drop k)) σ, SubL σ [(1, .pointer (some ⟨b1, 0, none⟩)), (3, .int .i64 t.pairs.length), (4, .int .i64 t.list.length), (5, .int .i64 t.ranks.length), (8, .int .i64 k)] →
        swp Tryz.prog (.seq (.ops f32r20) (.block 6 (.loop f32l25))) (blockQ 5 (thenQ (swp Tryz.prog (.ops f32r26) (thenQ (fun σ' ds' h' => ds' = [] ∧ ∃ i', SubL σ' [(1, .pointer (some ⟨b1, 0, none⟩)), (3, .int .i64 t.pairs.length), (4, .int .i64 t.list.length), (5, .int .i64 t.ranks.length), (8, .int .i64 (i' : Nat))] ∧
          (i' ≤ t.ranks.length ∧ Chg [] h h' ∧ rising aheadR t.ranks = rising aheadR (t.ranks.drop (i' - 1)) ∧ ((t.ranks.take i').map Rank.name).Nodup) ∧ t.ranks.length - i' < t.ranks.length - k)
          (blockQ 4 (thenQ (swp Tryz.prog (.seq (.seq (.ops f32r28) (.block 8 (.seq (.ops f32r29) (.cond (.tmp 187) (.seq (.ops f32r30) .ret) (.seq (.ops f32r31) (.cond (.tmp 195) (.seq (.ops f32r32) .ret) (.seq (.seq (.ops f32r33) (.cond (.tmp 205) .skip (.ops f32r34))) (.cond (.tmp 205) (.seq (.ops f32r35) .ret) (.seq (.ops f32r36) (.cond (.tmp 216) (.seq (.ops f32r37) .ret) .skip)))))))))) (.seq (.ops f32r38) .ret)) (retQ [.t 2] (Ret fun r h' => r = .bool (kOK t) ∧ Chg [] h0 h')))
            (retQ [.t 2] (Ret fun r h' => r = .bool (kOK t) ∧ Chg [] h0 h'))))))
          (thenQ (fun σ' ds' h' => ds' = [] ∧ ∃ i', SubL σ' [(1, .pointer (some ⟨b1, 0, none⟩)), (3, .int .i64 t.pairs.length), (4, .int .i64 t.list.length), (5, .int .i64 t.ranks.length), (8, .int .i64 (i' : Nat))] ∧
          (i' ≤ t.ranks.length ∧ Chg [] h h' ∧ rising aheadR t.ranks = rising aheadR (t.ranks.drop (i' - 1)) ∧ ((t.ranks.take i').map Rank.name).Nodup) ∧ t.ranks.length - i' < t.ranks.length - k)
          (blockQ 4 (thenQ (swp Tryz.prog (.seq (.seq (.ops f32r28) (.block 8 (.seq (.ops f32r29) (.cond (.tmp 187) (.seq (.ops f32r30) .ret) (.seq (.ops f32r31) (.cond (.tmp 195) (.seq (.ops f32r32) .ret) (.seq (.seq (.ops f32r33) (.cond (.tmp 205) .skip (.ops f32r34))) (.cond (.tmp 205) (.seq (.ops f32r35) .ret) (.seq (.ops f32r36) (.cond (.tmp 216) (.seq (.ops f32r37) .ret) .skip)))))))))) (.seq (.ops f32r38) .ret)) (retQ [.t 2] (Ret fun r h' => r = .bool (kOK t) ∧ Chg [] h0 h')))
            (retQ [.t 2] (Ret fun r h' => r = .bool (kOK t) ∧ Chg [] h0 h'))))))) σ [] h2 := by
      intro h2 hc2 hri' σ hσ
      refine inner h2 hc2 hri' σ hσ _ ?_ ?_
      · intro h3 σ' hc3 hσ' hnd'
        refine sops_sub (P := Tryz.prog) (Qp := fun _ _ => False) (fun ch h hf => hf.elim)
          (K := fun σ1 h4 => SubL σ1 [(1, .pointer (some ⟨b1, 0, none⟩)), (3, .int .i64 t.pairs.length), (4, .int .i64 t.list.length), (5, .int .i64 t.ranks.length), (8, .int .i64 ((k + 1 : Nat) : Int))] ∧ h4 = h3) ?_ f32r26 _ _ _ (sub_mk hσ') ?_
        · rintro σ1 σ2 h4 h12 ⟨hs1, rfl⟩
          refine And.intro rfl (Exists.intro (k + 1) (And.intro (hs1.sub h12) (And.intro ?_ ?_)))
          · exact ⟨by omega, hc1.nil hc3, by rw [Nat.add_sub_cancel]; exact hri', hnd'⟩
          · omega
        · refine And.intro rfl (fun z6 hz6 => ?_)
          have hz6 := add_in hz6 (by omega) (by omega)
          subst hz6
          exact ⟨⟨rfl, rfl, rfl, rfl, rfl, trivial⟩, rfl⟩
      · intro h3 σ' hc3 h2' hn
        have hres : resQ σ' h3 [.t 2] (fun vs => Ret (fun r h' => r = .bool (kOK t) ∧ Chg [] h0 h') (.returned (retV vs)) h3) := by
          simp only [resQ, h2']
          exact bad h3 hc3 hn
        exact hres
    refine Exists.intro _ (And.intro (cell_blk B2 rfl) ?_)
    refine And.intro (by omega) (And.intro (by omega) (Exists.intro _ (And.intro (hcs 0 _ rfl) ?_)))
    refine And.intro rfl (And.intro (fun big => absurd big (by omega)) (fun _ => ?_))
    refine And.intro rfl (And.intro (fun hk0 => ?_) (fun hk0 => ?_))
    · have hk1 : 1 ≤ k := by omega
      have hds := hr1.cells encR_len (i := k - 1) (x := t.ranks[k - 1]) (by simp)
      have hsz2 := s.rs t.ranks[k - 1] (List.getElem_mem (by omega))
      refine Exists.intro _ (And.intro (cell_blk B2 rfl) ?_)
      refine And.intro rfl (fun z hz => ?_)
      have hz := sub_in hz (by omega) (by omega)
      have hz : z = ((k - 1 : Nat) : Int) := by omega
      subst hz
      refine And.intro (by omega) (And.intro (by omega) (Exists.intro (encR t.ranks[k - 1]) (And.intro rfl (And.intro hds ?_))))
      refine Exists.intro _ (And.intro (cell_blk B2 rfl) ?_)
      refine And.intro (by omega) (And.intro (by omega) (Exists.intro (encR t.ranks[k]) (And.intro rfl (And.intro hcs ?_))))
      refine call_ret (Ahead_calls t.ranks[k - 1] t.ranks[k] (by omega) (by omega)) ?_
      rintro r2 h2 ⟨hr2, hc2⟩
      rw [drop_two hk1 hkk, rising] at hri
      have e1 : t.ranks[k] :: t.ranks.drop (k + 1) = t.ranks.drop k := by rw [List.drop_eq_getElem_cons hkk]
      rw [e1] at hri
      cases hah : aheadR t.ranks[k - 1] t.ranks[k] with
      | false =>
        rw [hah] at hr2
        subst hr2
        refine bad h2 hc2 fun ro => ?_
        have := rising_at hk1 hkk ro.rs
        rw [hah] at this
        cases this
      | true =>
        rw [hah] at hr2 hri
        subst hr2
        exact go_on h2 hc2 (by rw [hri, Bool.true_and]) _ ⟨rfl, rfl, rfl, rfl, rfl, trivial⟩
    · have hk1 : k = 0 := by omega
      exact go_on h1 (Chg.refl h1) (by rw [hri, hk1]) _ ⟨rfl, rfl, rfl, rfl, rfl, trivial⟩
  · have hkl : k = t.ranks.length := by omega
    rw [hkl, List.take_length] at hnd
    have hri : rising aheadR t.ranks = true := by
      rw [hri, hkl]
      exact rising_short (l := t.ranks.drop (t.ranks.length - 1)) (by rw [List.length_drop]; omega)
    exact cut_at [(1, .pointer (some ⟨b1, 0, none⟩)), (3, .int .i64 t.pairs.length), (4, .int .i64 t.list.length), (5, .int .i64 t.ranks.length)] ⟨rfl, rfl, rfl, rfl, trivial⟩ (RCheck_tail s hc01 (B1.chg hc1 (by simp)) (x'.ext hc1) ⟨hu, ht, hps, hls, hri, decide_eq_true hnd⟩)

end Go.Proofs.YtgmkldaonkbjgaaGreatDoor
namespace Go.Proofs.YtgmkldaonkbjgaaGreatDoor
open Go Go.Sx Go.Proofs.YtgmkldaonkbjgaaGreatDoor.C

theorem RCheck_lists {h h0 : Heap} {b1 : Nat} {vs : List Value} {t : Thing} (s : Small t) (hc : Chg [] h0 h) (B1 : Blk h b1 vs) (x : TH h vs t) (hu : ¬ (t.hasU = false ∧ t.unt ≠ 0)) (ht : ¬ (t.kind ≠ 1 ∧ t.text ≠ noText)) :
    swp Tryz.prog (.seq (.seq (.ops f32r4) (.block 0 (.loop f32l9))) (.seq (.seq (.ops f32r10) (.block 2 (.loop f32l15))) (.seq (.seq (.ops f32r16) (.block 4 (.loop f32l27))) (.seq (.seq (.ops f32r28) (.block 8 (.seq (.ops f32r29) (.cond (.tmp 187) (.seq (.ops f32r30) .ret) (.seq (.ops f32r31) (.cond (.tmp 195) (.seq (.ops f32r32) .ret) (.seq (.seq (.ops f32r33) (.cond (.tmp 205) .skip (.ops f32r34))) (.cond (.tmp 205) (.seq (.ops f32r35) .ret) (.seq (.ops f32r36) (.cond (.tmp 216) (.seq (.ops f32r37) .ret) .skip)))))))))) (.seq (.ops f32r38) .ret)))))
      (retQ [.t 2] (Ret fun r h' => r = .bool (kOK t) ∧ Chg [] h0 h')) (mk [(1, .pointer (some ⟨b1, 0, none⟩)), (3, .int .i64 t.pairs.length), (4, .int .i64 t.list.length), (5, .int .i64 t.ranks.length)]) [] h := by
  have sp := s.p; have sl := s.l
  have x' := x
  obtain ⟨pv, lv, rv, rfl, hp, hl, _⟩ := x
  obtain ⟨pa, pc, rfl, _⟩ := hp.form
  obtain ⟨la, lc, rfl, _⟩ := hl.form
  have bad : ¬ ROK t → Ret (fun r h' => r = .bool (kOK t) ∧ Chg [] h0 h') (.returned (retV [Value.bool false])) h := fun hn => ⟨by rw [kOK_bad hn]; rfl, hc⟩
  refine loop_intro (fun k : Nat => [(1, .pointer (some ⟨b1, 0, none⟩)), (3, .int .i64 t.pairs.length), (4, .int .i64 t.list.length), (5, .int .i64 t.ranks.length), (6, .int .i64 k)])
    (fun k h' => k ≤ t.pairs.length ∧ h' = h ∧ rising ltP t.pairs = rising ltP (t.pairs.drop (k - 1))) (fun k => t.pairs.length - k) 0 ⟨rfl, rfl, rfl, rfl, rfl, trivial⟩ ⟨Nat.zero_le _, rfl, rfl⟩ ?_
  rintro k h1 ⟨hk, h12, hri⟩
  have h12 := h12.symm
  subst h12
  refine And.intro rfl (And.intro (fun hlt => ?_) (fun hlt => ?_))
  · have hkk : k < t.pairs.length := by omega
    obtain ⟨b3, o, rfl⟩ := hp.addr (by omega)
    have hcs := hp.cells encP_len (i := k) (x := t.pairs[k]) (by simp [hkk])
    obtain ⟨z1, z2⟩ := s.ps t.pairs[k] (List.getElem_mem hkk)
    have step : ∀ z : Int, z = ((k + 1 : Nat) : Int) → rising ltP t.pairs = rising ltP (t.pairs.drop k) → k + 1 ≤ t.pairs.length ∧ h = h ∧ rising ltP t.pairs = rising ltP (t.pairs.drop (k + 1 - 1)) := fun z _ hr => ⟨by omega, rfl, by rw [Nat.add_sub_cancel]; exact hr⟩
    refine Exists.intro _ (And.intro (cell_blk B1 rfl) ?_)
    refine And.intro (by omega) (And.intro (by omega) (Exists.intro _ (And.intro (hcs 0 _ rfl) ?_)))
    refine And.intro rfl (And.intro (fun big => absurd big (by omega)) (fun _ => ?_))
    refine Exists.intro _ (And.intro (cell_blk B1 rfl) ?_)
    refine And.intro (by omega) (And.intro (by omega) (Exists.intro _ (And.intro (hcs 1 _ rfl) ?_)))
    refine And.intro rfl (And.intro (fun big => absurd big (by omega)) (fun _ => ?_))
    refine And.intro rfl (And.intro (fun hk0 => ?_) (fun hk0 => ?_))
    · have hk1 : 1 ≤ k := by omega
      have hds := hp.cells encP_len (i := k - 1) (x := t.pairs[k - 1]) (by simp)
      obtain ⟨z3, _⟩ := s.ps t.pairs[k - 1] (List.getElem_mem (by omega))
      refine Exists.intro _ (And.intro (cell_blk B1 rfl) ?_)
      refine And.intro rfl (fun z hz => ?_)
      have hz := sub_in hz (by omega) (by omega)
      have hz : z = ((k - 1 : Nat) : Int) := by omega
      subst hz
      refine And.intro (by omega) (And.intro (by omega) (Exists.intro _ (And.intro (hds 0 _ rfl) ?_)))
      refine Exists.intro _ (And.intro (cell_blk B1 rfl) ?_)
      refine And.intro (by omega) (And.intro (by omega) (Exists.intro _ (And.intro (hcs 0 _ rfl) ?_)))
      refine call_ret (Less_calls t.pairs[k - 1].name t.pairs[k].name (by omega) (by omega)) ?_
      rintro r2 _ ⟨hr2, rfl⟩
      rw [drop_two hk1 hkk, rising] at hri
      have e1 : t.pairs[k] :: t.pairs.drop (k + 1) = t.pairs.drop k := by rw [List.drop_eq_getElem_cons hkk]
      rw [e1] at hri
      have hltp : ltP t.pairs[k - 1] t.pairs[k] = sless t.pairs[k - 1].name t.pairs[k].name := rfl
      cases hah : sless t.pairs[k - 1].name t.pairs[k].name with
      | false =>
        rw [hah] at hr2
        subst hr2
        refine bad fun ro => ?_
        have := rising_at hk1 hkk ro.ps
        rw [hltp, hah] at this
        cases this
      | true =>
        rw [hah] at hr2
        rw [hltp, hah, Bool.true_and] at hri
        subst hr2
        refine And.intro rfl (fun z hz => ?_)
        have hz := add_in hz (by omega) (by omega)
        subst hz
        refine And.intro rfl (Exists.intro (k + 1) (And.intro ?_ (And.intro (step _ rfl hri) ?_)))
        · exact ⟨rfl, rfl, rfl, rfl, rfl, trivial⟩
        · omega
    · have hk1 : k = 0 := by omega
      refine And.intro rfl (fun z hz => ?_)
      have hz := add_in hz (by omega) (by omega)
      subst hz
      refine And.intro rfl (Exists.intro (k + 1) (And.intro ?_ (And.intro (step _ rfl (by rw [hri, hk1])) ?_)))
      · exact ⟨rfl, rfl, rfl, rfl, rfl, trivial⟩
      · omega
  have hkl : k = t.pairs.length := by omega
  have hps : rising ltP t.pairs = true := by
    rw [hri, hkl]
    exact rising_short (l := t.pairs.drop (t.pairs.length - 1)) (by rw [List.length_drop]; omega)
  clear hlt hkl hri hk
  refine loop_intro (fun k : Nat => [(1, .pointer (some ⟨b1, 0, none⟩)), (3, .int .i64 t.pairs.length), (4, .int .i64 t.list.length), (5, .int .i64 t.ranks.length), (7, .int .i64 k)])
    (fun k h' => k ≤ t.list.length ∧ h' = h ∧ (t.kind = 4 → rising sless t.list = rising sless (t.list.drop (k - 1)))) (fun k => t.list.length - k) 0 ⟨rfl, rfl, rfl, rfl, rfl, trivial⟩ ⟨Nat.zero_le _, rfl, fun _ => rfl⟩ ?_
  rintro k h1 ⟨hk, h12, hri⟩
  have h12 := h12.symm
  subst h12
  refine And.intro rfl (And.intro (fun hlt => ?_) (fun hlt => ?_))
  · have hkk : k < t.list.length := by omega
    obtain ⟨b3, o, rfl⟩ := hl.addr (by omega)
    have hcs := hl.cells encS_len (i := k) (x := t.list[k]) (by simp [hkk])
    have z1 := s.ls t.list[k] (List.getElem_mem hkk)
    have step : (t.kind = 4 → rising sless t.list = rising sless (t.list.drop k)) → k + 1 ≤ t.list.length ∧ h = h ∧ (t.kind = 4 → rising sless t.list = rising sless (t.list.drop (k + 1 - 1))) := fun hr => ⟨by omega, rfl, by rw [Nat.add_sub_cancel]; exact hr⟩
    refine Exists.intro _ (And.intro (cell_blk B1 rfl) ?_)
    refine And.intro (by omega) (And.intro (by omega) (Exists.intro _ (And.intro (hcs 0 _ rfl) ?_)))
    refine And.intro rfl (And.intro (fun big => absurd big (by omega)) (fun _ => ?_))
    refine Exists.intro _ (And.intro (cell_blk B1 rfl) ?_)
    refine And.intro rfl (And.intro (fun k4 => ?_) (fun k4 => ?_))
    · refine And.intro rfl (And.intro (fun hk0 => ?_) (fun hk0 => ?_))
      · have hk1 : 1 ≤ k := by omega
        have hds := hl.cells encS_len (i := k - 1) (x := t.list[k - 1]) (by simp)
        have z3 := s.ls t.list[k - 1] (List.getElem_mem (by omega))
        refine Exists.intro _ (And.intro (cell_blk B1 rfl) ?_)
        refine And.intro rfl (fun z hz => ?_)
        have hz := sub_in hz (by omega) (by omega)
        have hz : z = ((k - 1 : Nat) : Int) := by omega
        subst hz
        refine And.intro (by omega) (And.intro (by omega) (Exists.intro _ (And.intro (hds 0 _ rfl) ?_)))
        refine Exists.intro _ (And.intro (cell_blk B1 rfl) ?_)
        refine And.intro (by omega) (And.intro (by omega) (Exists.intro _ (And.intro (hcs 0 _ rfl) ?_)))
        refine call_ret (Less_calls t.list[k - 1] t.list[k] (by omega) (by omega)) ?_
        rintro r2 _ ⟨hr2, rfl⟩
        have hri := hri k4
        rw [drop_two hk1 hkk, rising] at hri
        have e1 : t.list[k] :: t.list.drop (k + 1) = t.list.drop k := by rw [List.drop_eq_getElem_cons hkk]
        rw [e1] at hri
        cases hah : sless t.list[k - 1] t.list[k] with
        | false =>
          rw [hah] at hr2
          subst hr2
          refine bad fun ro => ?_
          have := rising_at hk1 hkk (ro.ls k4)
          rw [hah] at this
          cases this
        | true =>
          rw [hah] at hr2
          rw [hah, Bool.true_and] at hri
          subst hr2
          refine And.intro rfl (fun z hz => ?_)
          have hz := add_in hz (by omega) (by omega)
          subst hz
          refine And.intro rfl (Exists.intro (k + 1) (And.intro ?_ (And.intro (step fun _ => hri) ?_)))
          · exact ⟨rfl, rfl, rfl, rfl, rfl, trivial⟩
          · omega
      · have hk1 : k = 0 := by omega
        refine And.intro rfl (fun z hz => ?_)
        have hz := add_in hz (by omega) (by omega)
        subst hz
        refine And.intro rfl (Exists.intro (k + 1) (And.intro ?_ (And.intro (step fun k4 => by rw [hri k4, hk1]) ?_)))
        · exact ⟨rfl, rfl, rfl, rfl, rfl, trivial⟩
        · omega
    · refine And.intro rfl (fun z hz => ?_)
      have hz := add_in hz (by omega) (by omega)
      subst hz
      refine And.intro rfl (Exists.intro (k + 1) (And.intro ?_ (And.intro (step fun k4' => absurd k4' k4) ?_)))
      · exact ⟨rfl, rfl, rfl, rfl, rfl, trivial⟩
      · omega
  have hkl : k = t.list.length := by omega
  have hls : t.kind = 4 → rising sless t.list = true := by
    intro k4
    rw [hri k4, hkl]
    exact rising_short (l := t.list.drop (t.list.length - 1)) (by rw [List.length_drop]; omega)
  exact cut_at [(1, .pointer (some ⟨b1, 0, none⟩)), (3, .int .i64 t.pairs.length), (4, .int .i64 t.list.length), (5, .int .i64 t.ranks.length)] ⟨rfl, rfl, rfl, rfl, trivial⟩ (RCheck_ranks s hc B1 x' hu ht hps hls)

theorem RCheck_calls {h : Heap} {vs : List Value} {t : Thing} (x : TH h vs t) (s : Small t) :
    CallsH Tryz.prog 32 [.agg ⟨vs⟩] h (Ret fun r h' => r = .bool (kOK t) ∧ Chg [] h h') := by
  have sp := s.p; have sl := s.l; have sr := s.r; have st := s.text
  refine f32_calls (by simp) ?_
  intro b1 h1 g1
  have B1 : Blk h1 b1 vs := g1.blk
  have hc := g1.chg
  have x1 := x.ext hc
  have x' := x1
  obtain ⟨pv, lv, rv, rfl, hp, hl, hr⟩ := x1
  obtain ⟨pa, pc, rfl, _⟩ := hp.form
  obtain ⟨la, lc, rfl, _⟩ := hl.form
  obtain ⟨ra, rc, rfl, _⟩ := hr.form
  have bad : ¬ ROK t → Ret (fun r h' => r = .bool (kOK t) ∧ Chg [] h h') (.returned (retV [Value.bool false])) h1 := fun hn => ⟨by rw [kOK_bad hn]; rfl, hc⟩
  have bU : Blk h1 b1 [.int .i64 t.kind, .string t.text, .slice pa t.pairs.length pc, .slice la t.list.length lc, .slice ra t.ranks.length rc, .bool t.hasU, .int .i64 t.unt] := B1
  refine Exists.intro _ (And.intro (cell_blk B1 rfl) (Exists.intro _ (And.intro (cell_blk B1 rfl) (Exists.intro _ (And.intro (cell_blk B1 rfl) ?_)))))
  refine Exists.intro _ (And.intro (cell_blk B1 rfl) ?_)
  cases hU : t.hasU with
  | false =>
    refine Exists.intro _ (And.intro (cell_blk B1 rfl) ?_)
    refine And.intro rfl (And.intro (fun u0 => ?_) (fun u0 => ?_))
    · exact bad fun ro => ro.u ⟨hU, u0⟩
    have hu : ¬ (t.hasU = false ∧ t.unt ≠ 0) := fun h => u0 h.2
    refine And.intro rfl (And.intro (fun big => absurd big (by omega)) (fun _ => ?_))
    refine And.intro rfl (And.intro (fun big => absurd big (by omega)) (fun _ => ?_))
    refine And.intro rfl (And.intro (fun big => absurd big (by omega)) (fun _ => ?_))
    refine Exists.intro _ (And.intro (cell_blk B1 rfl) ?_)
    refine And.intro rfl (And.intro (fun big => absurd big (by omega)) (fun _ => ?_))
    refine Exists.intro _ (And.intro (cell_blk B1 rfl) ?_)
    refine And.intro rfl (And.intro (fun k1 => ?_) (fun k1 => ?_))
    · refine Exists.intro _ (And.intro (cell_blk B1 rfl) ?_)
      refine And.intro (fun t1 => ?_) (fun t1 => ?_)
      · exact bad fun ro => ro.text ⟨k1, t1⟩
      · exact cut_at [(1, .pointer (some ⟨b1, 0, none⟩)), (3, .int .i64 t.pairs.length), (4, .int .i64 t.list.length), (5, .int .i64 t.ranks.length)] ⟨rfl, rfl, rfl, rfl, trivial⟩ (RCheck_lists s hc bU x' hu (fun h => t1 h.2))
    · exact cut_at [(1, .pointer (some ⟨b1, 0, none⟩)), (3, .int .i64 t.pairs.length), (4, .int .i64 t.list.length), (5, .int .i64 t.ranks.length)] ⟨rfl, rfl, rfl, rfl, trivial⟩ (RCheck_lists s hc bU x' hu (fun h => k1 h.1))
  | true =>
    have hu : ¬ (t.hasU = false ∧ t.unt ≠ 0) := fun h => by rw [hU] at h; cases h.1
    refine And.intro rfl (And.intro (fun big => absurd big (by omega)) (fun _ => ?_))
    refine And.intro rfl (And.intro (fun big => absurd big (by omega)) (fun _ => ?_))
    refine And.intro rfl (And.intro (fun big => absurd big (by omega)) (fun _ => ?_))
    refine Exists.intro _ (And.intro (cell_blk B1 rfl) ?_)
    refine And.intro rfl (And.intro (fun big => absurd big (by omega)) (fun _ => ?_))
    refine Exists.intro _ (And.intro (cell_blk B1 rfl) ?_)
    refine And.intro rfl (And.intro (fun k1 => ?_) (fun k1 => ?_))
    · refine Exists.intro _ (And.intro (cell_blk B1 rfl) ?_)
      refine And.intro (fun t1 => ?_) (fun t1 => ?_)
      · exact bad fun ro => ro.text ⟨k1, t1⟩
      · exact cut_at [(1, .pointer (some ⟨b1, 0, none⟩)), (3, .int .i64 t.pairs.length), (4, .int .i64 t.list.length), (5, .int .i64 t.ranks.length)] ⟨rfl, rfl, rfl, rfl, trivial⟩ (RCheck_lists s hc bU x' hu (fun h => t1 h.2))
    · exact cut_at [(1, .pointer (some ⟨b1, 0, none⟩)), (3, .int .i64 t.pairs.length), (4, .int .i64 t.list.length), (5, .int .i64 t.ranks.length)] ⟨rfl, rfl, rfl, rfl, trivial⟩ (RCheck_lists s hc bU x' hu (fun h => k1 h.1))

end Go.Proofs.YtgmkldaonkbjgaaGreatDoor
namespace Go.Proofs.YtgmkldaonkbjgaaGreatDoor
open Go Go.Sx Go.Proofs.YtgmkldaonkbjgaaGreatDoor.C

theorem clP_calls {h : Heap} {v : Value} {l : List Pair} (hv : SL encP h v l) (hl : l.length ≤ 70000) :
    CallsH Tryz.prog 51 [v] h (Ret fun r h' => OL encP 2 h' r l ∧ (∀ b ∈ vblk r, h.size ≤ b) ∧ Chg [] h h') := by
  obtain ⟨a, c, rfl, hlc⟩ := hv.form
  refine f51_calls (by simp) ?_
  cases a with
  | none =>
    have h0 : l.length = 0 := by
      obtain ⟨a', c', he, _, h2⟩ := hv
      cases he
      exact h2
    have : l = [] := List.length_eq_zero_iff.1 h0
    subst this
    exact And.intro OL.nil (And.intro (fun b hb => absurd (show b ∈ ([] : List Nat) from hb) (by simp)) (Chg.refl h))
  | some a =>
    intro b1 h1 g1
    have own : OL encP 2 h1 (.slice (some ⟨b1, 0, none⟩) 0 0) [] := ⟨some ⟨b1, 0, none⟩, 0, rfl, rfl, Nat.zero_le _, [], g1.blk, by simp⟩
    refine app_own encP_len encP_one rfl own (hv.ext g1.chg) (by simp; omega) ?_
    intro v' h2 ho2 hc2 hb2
    have i1 := g1.id
    refine And.intro ho2 (And.intro (fun b hb => ?_) (g1.chg.fresh hc2 (by simp [ablk]; omega)))
    rcases hb2 b hb with h | h
    · simp [ablk] at h; omega
    · have := g1.size; omega

theorem clS_calls {h : Heap} {v : Value} {l : List ByteArray} (hv : SL encS h v l) (hl : l.length ≤ 70000) :
    CallsH Tryz.prog 52 [v] h (Ret fun r h' => OL encS 1 h' r l ∧ (∀ b ∈ vblk r, h.size ≤ b) ∧ Chg [] h h') := by
  obtain ⟨a, c, rfl, hlc⟩ := hv.form
  refine f52_calls (by simp) ?_
  cases a with
  | none =>
    have h0 : l.length = 0 := by
      obtain ⟨a', c', he, _, h2⟩ := hv
      cases he
      exact h2
    have : l = [] := List.length_eq_zero_iff.1 h0
    subst this
    exact And.intro OL.nil (And.intro (fun b hb => absurd (show b ∈ ([] : List Nat) from hb) (by simp)) (Chg.refl h))
  | some a =>
    intro b1 h1 g1
    have own : OL encS 1 h1 (.slice (some ⟨b1, 0, none⟩) 0 0) [] := ⟨some ⟨b1, 0, none⟩, 0, rfl, rfl, Nat.zero_le _, [], g1.blk, by simp⟩
    refine app_own encS_len encS_one rfl own (hv.ext g1.chg) (by simp; omega) ?_
    intro v' h2 ho2 hc2 hb2
    have i1 := g1.id
    refine And.intro ho2 (And.intro (fun b hb => ?_) (g1.chg.fresh hc2 (by simp [ablk]; omega)))
    rcases hb2 b hb with h | h
    · simp [ablk] at h; omega
    · have := g1.size; omega

theorem clR_calls {h : Heap} {v : Value} {l : List Rank} (hv : SL encR h v l) (hl : l.length ≤ 70000) :
    CallsH Tryz.prog 53 [v] h (Ret fun r h' => OL encR 2 h' r l ∧ (∀ b ∈ vblk r, h.size ≤ b) ∧ Chg [] h h') := by
  obtain ⟨a, c, rfl, hlc⟩ := hv.form
  refine f53_calls (by simp) ?_
  cases a with
  | none =>
    have h0 : l.length = 0 := by
      obtain ⟨a', c', he, _, h2⟩ := hv
      cases he
      exact h2
    have : l = [] := List.length_eq_zero_iff.1 h0
    subst this
    exact And.intro OL.nil (And.intro (fun b hb => absurd (show b ∈ ([] : List Nat) from hb) (by simp)) (Chg.refl h))
  | some a =>
    intro b1 h1 g1
    have own : OL encR 2 h1 (.slice (some ⟨b1, 0, none⟩) 0 0) [] := ⟨some ⟨b1, 0, none⟩, 0, rfl, rfl, Nat.zero_le _, [], g1.blk, by simp⟩
    refine app_own encR_len encR_one rfl own (hv.ext g1.chg) (by simp; omega) ?_
    intro v' h2 ho2 hc2 hb2
    have i1 := g1.id
    refine And.intro ho2 (And.intro (fun b hb => ?_) (g1.chg.fresh hc2 (by simp [ablk]; omega)))
    rcases hb2 b hb with h | h
    · simp [ablk] at h; omega
    · have := g1.size; omega

def zeroT : Thing := ⟨0, noText, [], [], [], false, 0⟩
def zeroV : List Value := [.int .i64 0, .string ⟨#[]⟩, .slice none 0 0, .slice none 0 0, .slice none 0 0, .bool false, .int .i64 0]

theorem zero_TH {h : Heap} : TH h zeroV zeroT := ⟨_, _, _, rfl, SL.nil, SL.nil, SL.nil⟩

theorem thing_one {vs : List Value} {t : Thing} {h : Heap} (x : TH h vs t) : ∀ u ∈ vs, u.oneCell' = true := by
  obtain ⟨pv, lv, rv, rfl, hp, hl, hr⟩ := x
  obtain ⟨pa, pc, rfl, _⟩ := hp.form
  obtain ⟨la, lc, rfl, _⟩ := hl.form
  obtain ⟨ra, rc, rfl, _⟩ := hr.form
  intro u hu
  simp at hu
  rcases hu with rfl | rfl | rfl | rfl | rfl | rfl | rfl <;> rfl

def cellsT (t : Thing) (pv lv rv : Value) : List Value := [.int .i64 t.kind, .string t.text, pv, lv, rv, .bool t.hasU, .int .i64 t.unt]
def bl3 (pv lv rv : Value) : List Nat := vblk pv ++ (vblk lv ++ vblk rv)

structure TO (h : Heap) (pv lv rv : Value) (t : Thing) : Prop where
  p : OL encP 2 h pv t.pairs
  l : OL encS 1 h lv t.list
  r : OL encR 2 h rv t.ranks
  pl : ∀ b ∈ vblk pv, b ∉ vblk lv
  pr : ∀ b ∈ vblk pv, b ∉ vblk rv
  lr : ∀ b ∈ vblk lv, b ∉ vblk rv

theorem TO.chg {S : List Nat} {h h' : Heap} {pv lv rv : Value} {t : Thing} (o : TO h pv lv rv t) (c : Chg S h h') (hn : ∀ b ∈ bl3 pv lv rv, b ∉ S) : TO h' pv lv rv t :=
  ⟨o.p.chg c fun b hb => hn b (by simp [bl3, hb]), o.l.chg c fun b hb => hn b (by simp [bl3, hb]), o.r.chg c fun b hb => hn b (by simp [bl3, hb]), o.pl, o.pr, o.lr⟩
theorem TO.ext {h h' : Heap} {pv lv rv : Value} {t : Thing} (o : TO h pv lv rv t) (c : Chg [] h h') : TO h' pv lv rv t := o.chg c (by simp)
theorem TO.th {h : Heap} {pv lv rv : Value} {t : Thing} (o : TO h pv lv rv t) : TH h (cellsT t pv lv rv) t := ⟨pv, lv, rv, rfl, o.p.sl, o.l.sl, o.r.sl⟩
theorem bl3_cells {t : Thing} {pv lv rv v : Value} {b : Nat} (hv : v ∈ cellsT t pv lv rv) (hb : b ∈ vblk v) : b ∈ bl3 pv lv rv := by
  simp only [cellsT, List.mem_cons, List.not_mem_nil, or_false] at hv
  rcases hv with rfl | rfl | rfl | rfl | rfl | rfl | rfl
  · exact absurd (show b ∈ ([] : List Nat) from hb) (by simp)
  · exact absurd (show b ∈ ([] : List Nat) from hb) (by simp)
  · simp [bl3, hb]
  · simp [bl3, hb]
  · simp [bl3, hb]
  · exact absurd (show b ∈ ([] : List Nat) from hb) (by simp)
  · exact absurd (show b ∈ ([] : List Nat) from hb) (by simp)

theorem copied_own {h : Heap} {vs : List Value} {t : Thing} (x : TH h vs t) (n : Lens t) :
    CallsH Tryz.prog 22 [.agg ⟨vs⟩] h (Ret fun r h' => (∃ pv lv rv, r = .agg ⟨cellsT t pv lv rv⟩ ∧ TO h' pv lv rv t ∧ ∀ b ∈ bl3 pv lv rv, h.size ≤ b) ∧ Chg [] h h') := by
  refine f22_calls (by simp) ?_
  intro b1 h1 g1
  intro b2 h2 g2
  have B1 : Blk h2 b1 vs := (show Blk h1 b1 vs from g1.blk).chg g2.chg (by simp)
  have hc2 := g1.chg.nil g2.chg
  have i1 := g1.id
  have i2 := g2.id
  have z1 := g1.size
  obtain ⟨pv, lv, rv, rfl, hp, hl, hr⟩ := x.ext hc2
  obtain ⟨pa, pc, rfl, _⟩ := hp.form
  obtain ⟨la, lc, rfl, _⟩ := hl.form
  obtain ⟨ra, rc, rfl, _⟩ := hr.form
  refine Exists.intro _ (And.intro (cell_blk B1 rfl) (Exists.intro _ (And.intro (cell_blk B1 rfl) (Exists.intro _ (And.intro (cell_blk B1 rfl) ?_)))))
  refine callq_ret (clP_calls hp n.p) ?_
  rintro r3 h3 ⟨hp3, hb3, hc3⟩
  refine And.intro hc3.ext ?_
  refine callq_ret (clS_calls (hl.ext hc3) n.l) ?_
  rintro r4 h4 ⟨hl4, hb4, hc4⟩
  refine And.intro hc4.ext ?_
  refine callq_ret (clR_calls ((hr.ext hc3).ext hc4) n.r) ?_
  rintro r5 h5 ⟨hr5, hb5, hc5⟩
  refine And.intro hc5.ext ?_
  have hc35 := (hc3.nil hc4).nil hc5
  have B5 := B1.chg hc35 (by simp)
  have lp3 := hp3.lt
  have ll4 := hl4.lt
  have s3 := hc3.size
  have s4 := hc4.size
  have s5 := hc5.size
  have s2 := hc2.size
  have hz2 := g2.size
  have o5 : TO h5 r3 r4 r5 t := ⟨(hp3.ext hc4).ext hc5, hl4.ext hc5, hr5, fun b hb hx => by have := lp3 b hb; have := hb4 b hx; omega, fun b hb hx => by have := lp3 b hb; have := hb5 b hx; omega, fun b hb hx => by have := ll4 b hb; have := hb5 b hx; omega⟩
  have fr : ∀ b ∈ bl3 r3 r4 r5, h2.size ≤ b := by
    intro b hb
    simp only [bl3, List.mem_append] at hb
    rcases hb with hb | hb | hb
    · exact hb3 b hb
    · have := hb4 b hb; omega
    · have := hb5 b hb; omega
  obtain ⟨qa, qc, rfl, _⟩ := hp3.sl.form
  obtain ⟨ma, mc, rfl, _⟩ := hl4.sl.form
  obtain ⟨sa, sc, rfl, _⟩ := hr5.sl.form
  refine Exists.intro _ (And.intro B5 (And.intro (by simp) (And.intro rfl (And.intro (ones1 rfl) ?_))))
  intro h6 p6
  have B6 : Blk h6 b1 (cellsT t (.slice qa t.pairs.length qc) (.slice la t.list.length lc) (.slice ra t.ranks.length rc)) := p6.blk
  refine Exists.intro _ (And.intro B6 (And.intro (by simp [cellsT]) (And.intro rfl (And.intro (ones1 rfl) ?_))))
  intro h7 p7
  have B7 : Blk h7 b1 (cellsT t (.slice qa t.pairs.length qc) (.slice ma t.list.length mc) (.slice ra t.ranks.length rc)) := p7.blk
  refine Exists.intro _ (And.intro B7 (And.intro (by simp [cellsT]) (And.intro rfl (And.intro (ones1 rfl) ?_))))
  intro h8 p8
  have B8 : Blk h8 b1 (cellsT t (.slice qa t.pairs.length qc) (.slice ma t.list.length mc) (.slice sa t.ranks.length sc)) := p8.blk
  have c58 : Chg [b1] h5 h8 := (p6.chg.trans p7.chg (U := [b1]) (fun _ h => h) (fun _ h _ => h)).trans p8.chg (fun _ h => h) (fun _ h _ => h)
  have o8 := o5.chg c58 (fun b hb => by have := fr b hb; simp; omega)
  refine Exists.intro _ (And.intro rfl (And.intro (cells_blk B8) ?_))
  have Bz : Blk h8 b2 zeroV := ((show Blk h2 b2 zeroV from g2.blk).chg hc35 (by simp)).chg c58 (by simp; omega)
  refine Exists.intro _ (And.intro Bz (And.intro (by decide) (And.intro rfl (And.intro (thing_one o8.th) ?_))))
  intro h9 p9
  have B9 : Blk h9 b2 (cellsT t (.slice qa t.pairs.length qc) (.slice ma t.list.length mc) (.slice sa t.ranks.length sc)) := p9.blk
  have hc29 : Chg [] h h9 := ((hc2.nil hc35).fresh c58 (by simp; omega)).fresh p9.chg (by simp; omega)
  refine Exists.intro _ (And.intro rfl (And.intro (cells_blk B9) ?_))
  exact And.intro (Exists.intro _ (Exists.intro _ (Exists.intro _ (And.intro rfl (And.intro (o8.chg p9.chg (fun b hb => by have := fr b hb; simp; omega)) (fun b hb => by have := fr b hb; omega)))))) hc29

theorem copied_calls {h : Heap} {vs : List Value} {t : Thing} (x : TH h vs t) (n : Lens t) :
    CallsH Tryz.prog 22 [.agg ⟨vs⟩] h (Ret fun r h' => (∃ us, r = .agg ⟨us⟩ ∧ TH h' us t ∧ ∀ v ∈ us, ∀ b ∈ vblk v, h.size ≤ b) ∧ Chg [] h h') := by
  refine (copied_own x n).mono fun e h' he => ?_
  cases e with
  | returned v =>
    obtain ⟨⟨pv, lv, rv, hv, o, fr⟩, c⟩ := he
    exact ⟨⟨_, hv, o.th, fun v hv b hb => fr b (bl3_cells hv hb)⟩, c⟩
  | panicked ch => exact he.elim
  | outgrown => exact he.elim

theorem gone_calls {h : Heap} {vs : List Value} {t : Thing} (x : TH h vs t) (now : Int) :
    CallsH Tryz.prog 151 [.agg ⟨vs⟩, .int .i64 now] h (Ret fun r h' => r = .bool (t.hasU && decide (t.unt ≤ now)) ∧ Chg [] h h') := by
  refine f151_calls (by simp) ?_
  intro b1 h1 g1
  have B1 : Blk h1 b1 vs := g1.blk
  obtain ⟨pv, lv, rv, rfl, hp, hl, hr⟩ := x
  refine Exists.intro _ (And.intro (cell_blk B1 rfl) ?_)
  cases hU : t.hasU with
  | false => exact And.intro rfl g1.chg
  | true =>
    refine Exists.intro _ (And.intro (cell_blk B1 rfl) ?_)
    refine And.intro rfl (And.intro (fun hl => ?_) (fun hl => ?_))
    · exact And.intro (by rw [decide_eq_true hl]; rfl) g1.chg
    · exact And.intro (by rw [decide_eq_false hl]; rfl) g1.chg

theorem TH.chg {S : List Nat} {h h' : Heap} {vs : List Value} {t : Thing} (x : TH h vs t) (hc : Chg S h h') (hn : ∀ v ∈ vs, ∀ b ∈ vblk v, b ∉ S) : TH h' vs t := by
  obtain ⟨pv, lv, rv, rfl, h2, h3, h4⟩ := x
  exact ⟨pv, lv, rv, rfl, h2.chg hc (hn pv (by simp)), h3.chg hc (hn lv (by simp)), h4.chg hc (hn rv (by simp))⟩

def ptr (b : Nat) : Value := .pointer (some ⟨b, 0, none⟩)

structure KS (h : Heap) (kb sb mb : Nat) : Prop where
  k : Blk h kb [ptr sb]
  s : Blk h sb [.map (some mb)]

theorem KS.chg {S : List Nat} {h h' : Heap} {kb sb mb : Nat} (x : KS h kb sb mb) (hc : Chg S h h') (h1 : kb ∉ S) (h2 : sb ∉ S) : KS h' kb sb mb := ⟨x.k.chg hc h1, x.s.chg hc h2⟩

theorem none_calls {h : Heap} {kb sb mb : Nat} (x : KS h kb sb mb) : CallsH Tryz.prog 28 [ptr kb] h (Ret fun r h' => r = .bool false ∧ h' = h) := by
  refine f28_calls (by simp) ?_
  refine Exists.intro _ (And.intro (cell_blk x.k rfl) ?_)
  exact ⟨rfl, rfl⟩

theorem New_calls {h : Heap} : CallsH Tryz.prog 15 [] h (Ret fun r h' => ∃ kb sb mb, r = ptr kb ∧ KS h' kb sb mb ∧ MapB h' mb [] 0 ∧ mb = h.size ∧ sb = h.size + 1 ∧ kb = h.size + 2 ∧ Chg [] h h') := by
  refine f15_calls (by simp) ?_
  intro mb h1 g1
  intro sb h2 g2
  intro kb h3 g3
  have i1 := g1.id
  have i2 := g2.id
  have i3 := g3.id
  have z1 := g1.size
  have z2 := g2.size
  refine Exists.intro kb (Exists.intro sb (Exists.intro mb (And.intro rfl (And.intro ⟨g3.blk, (show Blk h2 sb _ from g2.blk).chg g3.chg (by simp)⟩ (And.intro ?_ (And.intro i1 (And.intro (by omega) (And.intro (by omega) ?_))))))))
  · exact MapB.chg (MapB.chg (show MapB h1 mb [] 0 from g1.blk) g2.chg (by simp)) g3.chg (by simp)
  · exact (g1.chg.nil g2.chg).nil g3.chg

end Go.Proofs.YtgmkldaonkbjgaaGreatDoor
namespace Go.Proofs.YtgmkldaonkbjgaaGreatDoor
open Go Go.Sx Go.Proofs.YtgmkldaonkbjgaaGreatDoor.C

def ruleV (name text number : Bool) (kind : Int) (makes : Bool) (f : Nat) : Value := .agg ⟨[.bool name, .bool text, .bool number, .int .i64 kind, .bool makes, .func (.func f) #[] #[]]⟩

end Go.Proofs.YtgmkldaonkbjgaaGreatDoor
namespace Go.Proofs.YtgmkldaonkbjgaaGreatDoor
open Go Go.Sx Go.Proofs.YtgmkldaonkbjgaaGreatDoor.C

theorem Look_none {h : Heap} {kb sb mb c : Nat} {es : List MapEntry} {key : ByteArray} (ks : KS h kb sb mb) (hm : MapB h mb es c) (hf : ∀ e ∈ es, fits .str e.key = true) (hn : mfind (.string key) es 0 = none) :
    CallsH Tryz.prog 78 [ptr kb, .string key] h (Ret fun r h' => r = .tuple #[.agg ⟨zeroV⟩, .bool false] ∧ Chg [] h h') := by
  refine f78_calls (by simp) ?_
  intro b4 h1 g1
  have hc := g1.chg
  have ks1 := ks.chg hc (by simp) (by simp)
  have hm1 : MapB h1 mb es c := hm.chg hc (by simp)
  refine call_ret (none_calls ks1) ?_
  rintro _ h9 ⟨rfl, e9⟩
  have e9 := e9.symm
  subst e9
  refine Exists.intro _ (And.intro (cell_blk ks1.k rfl) (Exists.intro _ (And.intro (cell_blk ks1.s rfl) ?_)))
  refine And.intro rfl (Exists.intro es (Exists.intro c (And.intro hm1 (And.intro hf ?_))))
  rw [hn]
  refine Exists.intro _ (And.intro g1.blk (And.intro (by decide) (And.intro rfl (And.intro (thing_one (t := zeroT) (h := h1) zero_TH) ?_))))
  intro h2 p2
  have g2 := g1.put p2
  have B2 : Blk h2 b4 zeroV := p2.blk
  refine Exists.intro zeroV (And.intro rfl (And.intro (cells_blk B2) ?_))
  exact And.intro rfl g2.chg

def textT (tx : ByteArray) : Thing := ⟨1, tx, [], [], [], false, 0⟩
structure Kept (h : Heap) (kb sb mb c : Nat) : Prop where
  ks : KS h kb sb mb
  m : MapB h mb [] c
  kl : kb < h.size
  sl : sb < h.size
  ml : mb < h.size
  ne1 : kb ≠ mb
  ne2 : sb ≠ mb

theorem Kept.ext {h h' : Heap} {kb sb mb c : Nat} (x : Kept h kb sb mb c) (hc : Chg [] h h') : Kept h' kb sb mb c :=
  ⟨x.ks.chg hc (by simp) (by simp), x.m.chg hc (by simp), by have := x.kl; have := hc.size; omega, by have := x.sl; have := hc.size; omega, by have := x.ml; have := hc.size; omega, x.ne1, x.ne2⟩

end Go.Proofs.YtgmkldaonkbjgaaGreatDoor
namespace Go.Proofs.YtgmkldaonkbjgaaGreatDoor
open Go Go.Sx Go.Proofs.YtgmkldaonkbjgaaGreatDoor.C

theorem seven {ws vs : List Value} (hw : ws.length = 7) (hv : vs.length = 7) : splice ws 0 vs = vs := by
  match ws, hw, vs, hv with
  | [_, _, _, _, _, _, _], _, [_, _, _, _, _, _, _], _ => rfl

end Go.Proofs.YtgmkldaonkbjgaaGreatDoor
namespace Go.Sx
open Go

variable {α : Type} {enc : α → List Value} {size : Nat}

theorem Put.refl {h : Heap} {b : Nat} {l : List Value} (hb : Blk h b l) : Put h h b l := ⟨hb, rfl, fun _ _ => rfl, fun _ h => h⟩
theorem Put.trans {h h1 h2 : Heap} {b : Nat} {l l' : List Value} (p : Put h h1 b l) (q : Put h1 h2 b l') : Put h h2 b l' :=
  ⟨q.blk, by rw [q.size, p.size], fun k hk => by rw [q.old k hk, p.old k hk], fun t ht => q.ty t (p.ty t ht)⟩

theorem splice_at (A B C ys : List Value) (hl : ys.length = B.length) : splice (A ++ (B ++ C)) A.length ys = A ++ (ys ++ C) := by
  rw [splice_mid A (B ++ C) ys (by simp [hl])]
  rw [hl, List.drop_left]

theorem take_len (hsz : ∀ x, (enc x).length = size) (l : List α) (i : Nat) (h : i ≤ l.length) : ((l.take i).flatMap enc).length = i * size := by
  rw [flatMap_len hsz, List.length_take, Nat.min_eq_left h]

theorem OL.open {h : Heap} {a : Option Addr} {n c : Nat} {l : List α} (ho : OL enc size h (.slice a n c) l) : n = l.length ∧ ((a = none ∧ l = [] ∧ c = 0) ∨ ∃ b, a = some ⟨b, 0, none⟩ ∧ l.length ≤ c ∧ ∃ rest, Blk h b (l.flatMap enc ++ rest) ∧ (l.flatMap enc ++ rest).length = c * size) := by
  obtain ⟨a1, c1, he, hm⟩ := ho
  cases he
  refine ⟨rfl, ?_⟩
  split at hm
  · exact .inl ⟨rfl, hm.1, hm.2⟩
  · rename_i b o
    obtain ⟨rfl, h2, rest, h3, h4⟩ := hm
    exact .inr ⟨b, rfl, h2, rest, h3, h4⟩
  · exact hm.elim

theorem OL.mk {h : Heap} {b n c : Nat} {l : List α} {rest : List Value} (hn : n = l.length) (hc : l.length ≤ c) (hb : Blk h b (l.flatMap enc ++ rest)) (hl : (l.flatMap enc ++ rest).length = c * size) : OL enc size h (.slice (some ⟨b, 0, none⟩) n c) l := by
  subst hn
  exact ⟨_, c, rfl, rfl, hc, rest, hb, hl⟩

theorem OL.form {h : Heap} {v : Value} {l : List α} (ho : OL enc size h v l) : ∃ a c, v = .slice a l.length c ∧ l.length ≤ c := ho.sl.form

theorem SL.mk {h : Heap} {b o n c : Nat} {l : List α} (A C : List Value) (hb : Blk h b (A ++ (l.flatMap enc ++ C))) (ho : o = A.length) (hn : n = l.length) (hc : l.length ≤ c) : SL enc h (.slice (some ⟨b, o, none⟩) n c) l := by
  subst ho hn
  refine ⟨_, c, rfl, hc, fun i v hv => cell_blk hb ?_⟩
  have hlt := (List.getElem?_eq_some_iff.1 hv).1
  rw [List.getElem?_append_right (by omega), Nat.add_sub_cancel_left, List.getElem?_append_left hlt]
  exact hv

theorem SL.src {h : Heap} {a : Option Addr} {n c : Nat} {l : List α} (hs : SL enc h (.slice a n c) l) : Src h a n (l.flatMap enc) := by
  obtain ⟨a', c', he, _, h2⟩ := hs
  injection he with e1 e2 e3
  subst e1 e2 e3
  exact h2

end Go.Sx
namespace Go.Proofs.YtgmkldaonkbjgaaGreatDoor
open Go Go.Sx Go.Proofs.YtgmkldaonkbjgaaGreatDoor.C

end Go.Proofs.YtgmkldaonkbjgaaGreatDoor
namespace Go.Proofs.YtgmkldaonkbjgaaGreatDoor
open Go Go.Sx Go.Proofs.YtgmkldaonkbjgaaGreatDoor.C

structure CutAt {α : Type} (lo : α → Bool) (l : List α) (k : Nat) : Prop where
  le : k ≤ l.length
  low : ∀ i (_ : i < k) (h : i < l.length), lo l[i] = true
  high : ∀ i (_ : k ≤ i) (h : i < l.length), lo l[i] = false

theorem rising_lt {α : Type} {lt : α → α → Bool} (htr : ∀ a b c, lt a b = true → lt b c = true → lt a c = true) : ∀ {l : List α}, rising lt l = true → l.Pairwise fun a b => lt a b = true
  | [], _ => List.Pairwise.nil
  | [x], _ => List.pairwise_singleton _ _
  | x :: y :: l, h => by
    simp only [rising, Bool.and_eq_true] at h
    have ih := rising_lt htr h.2
    refine List.Pairwise.cons (fun z hz => ?_) ih
    rcases List.mem_cons.1 hz with rfl | hz
    · exact h.1
    · exact htr _ _ _ h.1 (List.rel_of_pairwise_cons ih hz)

end Go.Proofs.YtgmkldaonkbjgaaGreatDoor
namespace Go.Proofs.YtgmkldaonkbjgaaGreatDoor
open Go Go.Sx

structure RX where
  key : ByteArray
  thing : Thing
  vs : List Value
  len : vs.length = 7
  one : ∀ u ∈ vs, u.oneCell' = true

def encX (x : RX) : List Value := .string x.key :: x.vs
theorem encX_len (x : RX) : (encX x).length = 8 := by simp [encX, x.len]
theorem encX_one (x : RX) : ∀ u ∈ encX x, u.oneCell' = true := by
  intro u hu
  simp only [encX, List.mem_cons] at hu
  rcases hu with rfl | hu
  · rfl
  · exact x.one u hu

def GX (h : Heap) (l : List RX) : Prop := ∀ x ∈ l, TH h x.vs x.thing
theorem GX.ext {h h' : Heap} {l : List RX} (g : GX h l) (hc : Chg [] h h') : GX h' l := fun x hx => (g x hx).ext hc

def findX (key : ByteArray) : List RX → Nat × Bool
  | [] => (0, false)
  | x :: l => if x.key = key then (0, true) else if sless key x.key = true then (0, false) else ((findX key l).1 + 1, (findX key l).2)

def putX (l : List RX) (x : RX) : List RX :=
  l.take (findX x.key l).1 ++ [x] ++ l.drop (if (findX x.key l).2 = true then (findX x.key l).1 + 1 else (findX x.key l).1)

def dropX (l : List RX) (key : ByteArray) : List RX :=
  if (findX key l).2 = true then l.take (findX key l).1 ++ l.drop ((findX key l).1 + 1) else l

def UpX (l : List RX) : Prop := l.Pairwise fun x y => sless x.key y.key = true

theorem findX_le (key : ByteArray) : ∀ l : List RX, (findX key l).1 ≤ l.length
  | [] => Nat.le_refl _
  | x :: l => by
    have := findX_le key l
    unfold findX
    split
    · exact Nat.zero_le _
    · split
      · exact Nat.zero_le _
      · simp; exact this

theorem findX_hit (key : ByteArray) : ∀ l : List RX, (findX key l).2 = true → ∃ h : (findX key l).1 < l.length, l[(findX key l).1].key = key
  | [], h => by simp [findX] at h
  | x :: l, h => by
    by_cases h1 : x.key = key
    · have e : findX key (x :: l) = (0, true) := by unfold findX; rw [if_pos h1]
      simp only [e]
      exact ⟨by simp, by simpa using h1⟩
    · by_cases h2 : sless key x.key = true
      · have e : findX key (x :: l) = (0, false) := by unfold findX; rw [if_neg h1, if_pos h2]
        rw [e] at h; simp at h
      · have e : findX key (x :: l) = ((findX key l).1 + 1, (findX key l).2) := by rw [findX, if_neg h1, if_neg h2]
        rw [e] at h
        obtain ⟨h3, h4⟩ := findX_hit key l h
        simp only [e]
        exact ⟨by simp; exact h3, by simpa using h4⟩

theorem findX_mem {key : ByteArray} {l : List RX} (h : (findX key l).2 = true) : ∃ x ∈ l, x.key = key := by
  obtain ⟨h1, h2⟩ := findX_hit key l h
  exact ⟨_, List.getElem_mem h1, h2⟩

theorem findX_has {key : ByteArray} : ∀ {l : List RX}, UpX l → (∃ x ∈ l, x.key = key) → (findX key l).2 = true
  | [], _, h => by simp at h
  | x :: l, hu, h => by
    unfold findX
    split
    · rfl
    · rename_i h1
      obtain ⟨y, hy, hk⟩ := h
      rcases List.mem_cons.1 hy with rfl | hy
      · exact absurd hk h1
      · have h2 := (List.pairwise_cons.1 hu).1 y hy
        rw [hk] at h2
        split
        · rename_i h3
          have := sless_trans h2 h3
          rw [sless_irrefl] at this; cases this
        · exact findX_has (List.pairwise_cons.1 hu).2 ⟨y, hy, hk⟩

theorem putX_cons (y : RX) (l : List RX) (x : RX) : putX (y :: l) x = if y.key = x.key then x :: l else if sless x.key y.key = true then x :: y :: l else y :: putX l x := by
  unfold putX
  by_cases h1 : y.key = x.key
  · have e : findX x.key (y :: l) = (0, true) := by unfold findX; rw [if_pos h1]
    rw [e, if_pos h1]; simp
  · by_cases h2 : sless x.key y.key = true
    · have e : findX x.key (y :: l) = (0, false) := by unfold findX; rw [if_neg h1, if_pos h2]
      rw [e, if_neg h1, if_pos h2]; simp
    · have e : findX x.key (y :: l) = ((findX x.key l).1 + 1, (findX x.key l).2) := by rw [findX, if_neg h1, if_neg h2]
      rw [e, if_neg h1, if_neg h2]
      cases hb : (findX x.key l).2 <;> simp

theorem putX_nil (x : RX) : putX [] x = [x] := rfl

theorem dropX_cons (y : RX) (l : List RX) (k : ByteArray) : dropX (y :: l) k = if y.key = k then l else if sless k y.key = true then y :: l else y :: dropX l k := by
  unfold dropX
  by_cases h1 : y.key = k
  · have e : findX k (y :: l) = (0, true) := by unfold findX; rw [if_pos h1]
    rw [e, if_pos h1]; simp
  · by_cases h2 : sless k y.key = true
    · have e : findX k (y :: l) = (0, false) := by unfold findX; rw [if_neg h1, if_pos h2]
      rw [e, if_neg h1, if_pos h2]; simp
    · have e : findX k (y :: l) = ((findX k l).1 + 1, (findX k l).2) := by rw [findX, if_neg h1, if_neg h2]
      rw [e, if_neg h1, if_neg h2]
      cases hb : (findX k l).2 <;> simp

theorem sless_ne {a b : ByteArray} (h : sless a b = true) : a ≠ b := by
  intro e; subst e; rw [sless_irrefl] at h; cases h

theorem mem_putX {x y : RX} : ∀ {l : List RX}, UpX l → (y ∈ putX l x ↔ y = x ∨ (y ∈ l ∧ y.key ≠ x.key))
  | [], _ => by simp [putX_nil]
  | z :: l, hu => by
    obtain ⟨h1, h2⟩ := List.pairwise_cons.1 hu
    rw [putX_cons]
    split
    · rename_i hk
      rw [List.mem_cons, List.mem_cons]
      constructor
      · rintro (rfl | hy)
        · exact .inl rfl
        · refine .inr ⟨.inr hy, fun e => sless_ne (h1 y hy) (hk.trans e.symm)⟩
      · rintro (rfl | ⟨rfl | hy, hn⟩)
        · exact .inl rfl
        · exact absurd hk hn
        · exact .inr hy
    · rename_i hk
      split
      · rename_i hl
        rw [List.mem_cons, List.mem_cons]
        constructor
        · rintro (rfl | rfl | hy)
          · exact .inl rfl
          · exact .inr ⟨.inl rfl, hk⟩
          · refine .inr ⟨.inr hy, fun e => ?_⟩
            have := sless_trans hl (h1 y hy)
            rw [e, sless_irrefl] at this; cases this
        · rintro (rfl | ⟨rfl | hy, hn⟩)
          · exact .inl rfl
          · exact .inr (.inl rfl)
          · exact .inr (.inr hy)
      · rw [List.mem_cons, mem_putX h2, List.mem_cons]
        constructor
        · rintro (rfl | rfl | ⟨hy, hn⟩)
          · exact .inr ⟨.inl rfl, hk⟩
          · exact .inl rfl
          · exact .inr ⟨.inr hy, hn⟩
        · rintro (rfl | ⟨rfl | hy, hn⟩)
          · exact .inr (.inl rfl)
          · exact .inl rfl
          · exact .inr (.inr ⟨hy, hn⟩)

theorem up_putX {x : RX} : ∀ {l : List RX}, UpX l → UpX (putX l x)
  | [], _ => by rw [putX_nil]; exact List.pairwise_singleton _ _
  | z :: l, hu => by
    obtain ⟨h1, h2⟩ := List.pairwise_cons.1 hu
    rw [putX_cons]
    split
    · rename_i hk
      exact List.pairwise_cons.2 ⟨fun y hy => by rw [← hk]; exact h1 y hy, h2⟩
    · rename_i hk
      split
      · rename_i hl
        refine List.pairwise_cons.2 ⟨fun y hy => ?_, hu⟩
        rcases List.mem_cons.1 hy with rfl | hy
        · exact hl
        · exact sless_trans hl (h1 y hy)
      · rename_i hl
        refine List.pairwise_cons.2 ⟨fun y hy => ?_, up_putX h2⟩
        rcases (mem_putX h2).1 hy with rfl | ⟨hy, _⟩
        · rcases sless_total (a := z.key) (b := y.key) hk with h | h
          · exact h
          · exact absurd h hl
        · exact h1 y hy

theorem mem_dropX {k : ByteArray} {y : RX} : ∀ {l : List RX}, UpX l → (y ∈ dropX l k ↔ y ∈ l ∧ y.key ≠ k)
  | [], _ => by simp [dropX, findX]
  | z :: l, hu => by
    obtain ⟨h1, h2⟩ := List.pairwise_cons.1 hu
    rw [dropX_cons]
    split
    · rename_i hk
      rw [List.mem_cons]
      constructor
      · exact fun hy => ⟨.inr hy, fun e => sless_ne (h1 y hy) (hk.trans e.symm)⟩
      · rintro ⟨rfl | hy, hn⟩
        · exact absurd hk hn
        · exact hy
    · rename_i hk
      split
      · rename_i hl
        rw [List.mem_cons]
        constructor
        · rintro (rfl | hy)
          · exact ⟨.inl rfl, hk⟩
          · refine ⟨.inr hy, fun e => ?_⟩
            have := sless_trans hl (h1 y hy)
            rw [e, sless_irrefl] at this; cases this
        · exact fun h => h.1
      · rw [List.mem_cons, mem_dropX h2, List.mem_cons]
        constructor
        · rintro (rfl | ⟨hy, hn⟩)
          · exact ⟨.inl rfl, hk⟩
          · exact ⟨.inr hy, hn⟩
        · rintro ⟨rfl | hy, hn⟩
          · exact .inl rfl
          · exact .inr ⟨hy, hn⟩

theorem up_dropX {k : ByteArray} : ∀ {l : List RX}, UpX l → UpX (dropX l k)
  | [], _ => by simp [dropX, findX, UpX]
  | z :: l, hu => by
    obtain ⟨h1, h2⟩ := List.pairwise_cons.1 hu
    rw [dropX_cons]
    split
    · exact h2
    · split
      · exact hu
      · exact List.pairwise_cons.2 ⟨fun y hy => h1 y ((mem_dropX h2).1 hy).1, up_dropX h2⟩

theorem putX_len (l : List RX) (x : RX) : (putX l x).length ≤ l.length + 1 := by
  unfold putX
  have := findX_le x.key l
  simp only [List.length_append, List.length_take, List.length_drop, List.length_cons, List.length_nil]
  split <;> omega

theorem putX_new {l : List RX} {x : RX} (h : (findX x.key l).2 = false) : (putX l x).length = l.length + 1 := by
  unfold putX
  have := findX_le x.key l
  simp only [List.length_append, List.length_take, List.length_drop, List.length_cons, List.length_nil, h]
  simp; omega

theorem up_ext {α : Type} {lt : α → α → Prop} (ha : ∀ a b, lt a b → ¬ lt b a) : ∀ {l m : List α}, l.Pairwise lt → m.Pairwise lt → (∀ x, x ∈ l ↔ x ∈ m) → l = m
  | [], [], _, _, _ => rfl
  | [], b :: m, _, _, h => by have := (h b).2 (by simp); simp at this
  | a :: l, [], _, _, h => by have := (h a).1 (by simp); simp at this
  | a :: l, b :: m, hl, hm, h => by
    obtain ⟨l1, l2⟩ := List.pairwise_cons.1 hl
    obtain ⟨m1, m2⟩ := List.pairwise_cons.1 hm
    have e : a = b := by
      rcases List.mem_cons.1 ((h a).1 (by simp)) with e | ha'
      · exact e
      · rcases List.mem_cons.1 ((h b).2 (by simp)) with e | hb'
        · exact e.symm
        · exact absurd (l1 b hb') (ha b a (m1 a ha'))
    subst e
    have irr : ∀ x, ¬ lt x x := fun x hx => ha x x hx hx
    refine congrArg _ (up_ext ha l2 m2 fun x => ⟨fun hx => ?_, fun hx => ?_⟩)
    · rcases List.mem_cons.1 ((h x).1 (List.mem_cons_of_mem _ hx)) with e | h'
      · exact absurd (l1 x hx) (by rw [e]; exact irr _)
      · exact h'
    · rcases List.mem_cons.1 ((h x).2 (List.mem_cons_of_mem _ hx)) with e | h'
      · exact absurd (m1 x hx) (by rw [e]; exact irr _)
      · exact h'

end Go.Proofs.YtgmkldaonkbjgaaGreatDoor
namespace Go.Proofs.YtgmkldaonkbjgaaGreatDoor
open Go Go.Sx Go.Proofs.YtgmkldaonkbjgaaGreatDoor.C

theorem cells_vs {h : Heap} {b o : Nat} {x : RX} (hc : Cells h b o (encX x)) : Cells h b (o + 1) x.vs := fun i v hv => by
  have := hc (i + 1) v hv
  rw [show o + 1 + i = o + (i + 1) by omega]; exact this

theorem swp_seq {P : Program} {a b : SCode} {Q : Post} {σ : Env} {ds : List Deferred} {h : Heap} (hs : swp P a (thenQ (swp P b Q) Q) σ ds h) : swp P (.seq a b) Q σ ds h := hs

theorem seven_form {vs : List Value} (h : vs.length = 7) : ∃ a b c d e f g, vs = [a, b, c, d, e, f, g] := by
  match vs, h with
  | [a, b, c, d, e, f, g], _ => exact ⟨a, b, c, d, e, f, g, rfl⟩

theorem TH.hasU {h : Heap} {vs : List Value} {t : Thing} (x : TH h vs t) : vs[5]? = some (.bool t.hasU) := by
  obtain ⟨pv, lv, rv, rfl, _⟩ := x
  rfl
theorem TH.unt {h : Heap} {vs : List Value} {t : Thing} (x : TH h vs t) : vs[6]? = some (.int .i64 t.unt) := by
  obtain ⟨pv, lv, rv, rfl, _⟩ := x
  rfl

def KeysFit (l : List RX) : Prop := ∀ x ∈ l, x.key.size < 4611686018427387904

theorem Find_calls {h : Heap} {v : Value} {l : List RX} (key : ByteArray) (hv : SL encX h v l) (hl : l.length < 4611686018427387904) (hk : key.size < 4611686018427387904) (hf : KeysFit l) :
    CallsH Tryz.prog 31 [v, .string key] h (Ret fun r h' => r = .tuple #[.int .i64 (findX key l).1, .bool (findX key l).2] ∧ h' = h) := by
  obtain ⟨a, c, rfl, hlc⟩ := hv.form
  refine f31_calls (by simp) ?_
  refine loop_intro (fun k : Nat => [(0, .slice a l.length c), (1, .string key), (6, .int .i64 k)]) (fun k h' => k ≤ l.length ∧ h' = h ∧ findX key l = ((findX key (l.drop k)).1 + k, (findX key (l.drop k)).2)) (fun k => l.length - k) 0
    ⟨rfl, rfl, rfl, trivial⟩ ⟨Nat.zero_le _, rfl, by simp⟩ ?_
  rintro k h1 ⟨hk1, e1, hfx⟩
  have e1 := e1.symm
  subst e1
  refine And.intro rfl (And.intro (fun ht => ?_) (fun ht => ?_))
  · have hlt : k < l.length := by omega
    obtain ⟨b, o, rfl⟩ := hv.addr (by omega)
    have hcs := hv.cells encX_len (i := k) (x := l[k]) (by simp [hlt])
    have hdr : l.drop k = l[k] :: l.drop (k + 1) := List.drop_eq_getElem_cons hlt
    rw [hdr] at hfx
    refine And.intro (by omega) (And.intro (by omega) (Exists.intro _ (And.intro (hcs 0 _ rfl) ?_)))
    refine And.intro (fun heq => ?_) (fun hne => ?_)
    · have e : findX key l = (k, true) := by rw [hfx]; simp [findX, heq]
      exact And.intro (by rw [e]; rfl) rfl
    · refine And.intro (by omega) (And.intro (by omega) (Exists.intro _ (And.intro (hcs 0 _ rfl) ?_)))
      refine call_ret (Less_calls key l[k].key hk (hf _ (List.getElem_mem hlt))) ?_
      rintro r h2 ⟨hr, e2⟩
      have e2 := e2.symm
      subst e2
      cases hs : sless key l[k].key with
      | true =>
        rw [hs] at hr
        subst hr
        have e : findX key l = (k, false) := by rw [hfx, findX, if_neg hne, if_pos hs]; simp
        exact And.intro (by rw [e]; rfl) rfl
      | false =>
        rw [hs] at hr
        subst hr
        refine And.intro rfl (fun z hz => ?_)
        have hz := add_in hz (by omega) (by omega)
        subst hz
        refine And.intro rfl (Exists.intro (k + 1) (And.intro ?_ (And.intro ?_ ?_)))
        · exact ⟨rfl, rfl, rfl, trivial⟩
        · refine ⟨by omega, rfl, ?_⟩
          rw [hfx, findX, if_neg hne, if_neg (by rw [hs]; simp)]
          simp; omega
        · omega
  · have hlt : k = l.length := by omega
    subst hlt
    have e : findX key l = (l.length, false) := by rw [hfx]; simp [findX]
    exact And.intro (by rw [e]; rfl) rfl

theorem Put_calls {h : Heap} {v : Value} {l : List RX} (x : RX) (hv : SL encX h v l) (hl : l.length ≤ 100000) (hk : x.key.size < 4611686018427387904) (hf : KeysFit l) :
    CallsH Tryz.prog 33 [v, .string x.key, .agg ⟨x.vs⟩] h (Ret fun r h' => OL encX 8 h' r (putX l x) ∧ (∀ b ∈ vblk r, h.size ≤ b) ∧ Chg [] h h') := by
  obtain ⟨a, c, rfl, hlc⟩ := hv.form
  obtain ⟨v0, v1, v2, v3, v4, v5, v6, hvs⟩ := seven_form x.len
  rw [hvs]
  refine f33_calls (by simp) ?_
  intro b5 h1 g1
  have B1 : Blk h1 b5 [v0, v1, v2, v3, v4, v5, v6] := g1.blk
  have hv1 := hv.ext g1.chg
  refine call_ret (Find_calls x.key hv1 (by omega) hk hf) ?_
  rintro _ h9 ⟨rfl, e9⟩
  have e9 := e9.symm
  subst e9
  have hi := findX_le x.key l
  refine SL.slc (lo := 0) encX_len hv1 (Nat.zero_le _) hi ?_
  intro a1 _ hs1
  simp only [Nat.sub_zero, List.drop_zero] at hs1 ⊢
  refine app_new encX_len encX_one rfl hs1 (by simp; omega) ?_
  intro w4 h4 ho4 hc4 hb4
  have B4 := B1.chg hc4 (by simp)
  refine Exists.intro [v0, v1, v2, v3, v4, v5, v6] (And.intro rfl (And.intro (cells_blk B4) ?_))
  intro b5' h5 g5
  have b5x : Blk h5 b5' (encX x) := by have := g5.blk; unfold encX; rw [hvs]; exact this
  have ho5 := ho4.ext g5.chg
  obtain ⟨a5, c5, rfl, hoc5⟩ := ho5.sl.form
  refine app_own encX_len encX_one rfl ho5 (SL.one encX_len b5x) (by simp; omega) ?_
  intro w6 h6 ho6 hc6 hb6
  have hb41 : ∀ b ∈ ablk a5, h1.size ≤ b := fun b hb => hb4 b hb
  have hc16 : Chg [] h1 h6 := (hc4.nil g5.chg).fresh hc6 hb41
  have hb16 : ∀ b ∈ vblk w6, h1.size ≤ b := fun b hb => by
    rcases hb6 b hb with h | h
    · exact hb41 b h
    · have := hc4.size; have := g5.size; omega
  have hv6 := hv1.ext hc16
  obtain ⟨a6, c6, rfl, hoc6⟩ := ho6.sl.form
  have z1 := g1.size
  have fin : ∀ (i : Nat), i ≤ l.length → (l.take (findX x.key l).1 ++ [x] ++ l.drop i = putX l x) → 
      swp Tryz.prog (.seq (.ops f33r6) .ret) (retQ [.t 6] (Ret fun r h' => OL encX 8 h' r (putX l x) ∧ (∀ b ∈ vblk r, h.size ≤ b) ∧ Chg [] h h')) (mk [(9, .slice a6 (l.take (findX x.key l).1 ++ [x]).length c6), (0, .slice a l.length c), (7, .int .i64 i)]) [] h6 := by
    intro i hil hput
    refine SL.slc (lo := i) encX_len hv6 hil (Nat.le_refl _) ?_
    intro a7 _ hs7
    have e : (l.drop i).take (l.length - i) = l.drop i := by rw [List.take_of_length_le]; simp
    rw [e] at hs7
    refine app_own encX_len encX_one rfl ho6 hs7 (by simp; omega) ?_
    intro v8 h8 ho8 hc8 hb8
    have hc18 : Chg [] h1 h8 := hc16.fresh hc8 hb16
    rw [hput] at ho8
    refine And.intro ho8 (And.intro (fun b hb => ?_) (g1.chg.nil hc18))
    rcases hb8 b hb with h | h
    · have := hb16 b h; omega
    · have := hc16.size; omega
  cases hb : (findX x.key l).2 with
  | true =>
    obtain ⟨hlt, _⟩ := findX_hit x.key l hb
    refine And.intro rfl (fun z hz => ?_)
    have hz := add_in hz (by omega) (by omega)
    subst hz
    exact cut_at [(9, .slice a6 (l.take (findX x.key l).1 ++ [x]).length c6), (0, .slice a l.length c), (7, .int .i64 ((findX x.key l).1 + 1 : Nat))] ⟨rfl, rfl, rfl, trivial⟩ (fin ((findX x.key l).1 + 1) hlt (by unfold putX; rw [if_pos hb]))
  | false =>
    refine swp_seq ?_
    exact cut_at [(9, .slice a6 (l.take (findX x.key l).1 ++ [x]).length c6), (0, .slice a l.length c), (7, .int .i64 (findX x.key l).1)] ⟨rfl, rfl, rfl, trivial⟩ (fin (findX x.key l).1 hi (by unfold putX; rw [if_neg (by rw [hb]; simp)]))

def goneT (t : Thing) (now : Int) : Bool := t.hasU && decide (t.unt ≤ now)
def lookX (l : List RX) (key : ByteArray) : Option Thing := if (findX key l).2 = true then (l[(findX key l).1]?).map (·.thing) else none
def getX (l : List RX) (key : ByteArray) (now : Int) : Option Thing := match lookX l key with
  | some t => if goneT t now = true then none else some t
  | none => none

theorem RGet_calls {h : Heap} {v : Value} {l : List RX} (key : ByteArray) (now : Int) (hv : SL encX h v l) (g : GX h l) (hl : l.length < 4611686018427387904) (hk : key.size < 4611686018427387904) (hf : KeysFit l) :
    CallsH Tryz.prog 85 [v, .string key, .int .i64 now] h (Ret fun r h' => (∃ us, r = .tuple #[.agg ⟨us⟩, .bool (getX l key now).isSome] ∧ TH h' us ((getX l key now).getD zeroT)) ∧ Chg [] h h') := by
  obtain ⟨a, c, rfl, hlc⟩ := hv.form
  refine f85_calls (by simp) ?_
  intro b6 h1 g1
  have B1 : Blk h1 b6 zeroV := g1.blk
  have hv1 := hv.ext g1.chg
  refine call_ret (Find_calls key hv1 hl hk hf) ?_
  rintro _ h9 ⟨rfl, e9⟩
  have e9 := e9.symm
  subst e9
  have z1 := g1.size
  have i1 := g1.id
  cases hb : (findX key l).2 with
  | false =>
    have hn : getX l key now = none := by unfold getX lookX; rw [if_neg (by rw [hb]; simp)]
    refine Exists.intro _ (And.intro B1 (And.intro (by decide) (And.intro rfl (And.intro (thing_one (t := zeroT) (h := h1) zero_TH) ?_))))
    intro h2 p2
    have B2 : Blk h2 b6 zeroV := p2.blk
    refine Exists.intro zeroV (And.intro rfl (And.intro (cells_blk B2) ?_))
    rw [hn]
    exact And.intro (Exists.intro zeroV (And.intro rfl zero_TH)) (g1.chg.fresh p2.chg (by simp; omega))
  | true =>
    obtain ⟨hlt, _⟩ := findX_hit key l hb
    have hlk : lookX l key = some l[(findX key l).1].thing := by unfold lookX; rw [if_pos hb]; simp [hlt]
    obtain ⟨b, o, rfl⟩ := hv1.addr (by omega)
    generalize (findX key l).1 = i at *
    have hcs := hv1.cells encX_len (i := i) (x := l[i]) (by simp [hlt])
    have hx := (g.ext g1.chg) l[i] (List.getElem_mem hlt)
    have yes : goneT l[i].thing now = false →
        swp Tryz.prog (.seq (.ops f85r4) .ret) (retQ [.cn 6 7, .t 7] (Ret fun r h' => (∃ us, r = .tuple #[.agg ⟨us⟩, .bool (getX l key now).isSome] ∧ TH h' us ((getX l key now).getD zeroT)) ∧ Chg [] h h')) (mk [(6, .pointer (some ⟨b6, 0, none⟩)), (0, .slice (some ⟨b, o, none⟩) l.length c), (8, .int .i64 i)]) [] h1 := by
      intro hg
      have hn : getX l key now = some l[i].thing := by unfold getX; rw [hlk]; simp [hg]
      refine And.intro (by omega) (And.intro (by omega) (Exists.intro l[i].vs (And.intro l[i].len (And.intro (cells_vs hcs) ?_))))
      refine Exists.intro _ (And.intro B1 (And.intro (by decide) (And.intro l[i].len (And.intro l[i].one ?_))))
      intro h2 p2
      have B2 : Blk h2 b6 l[i].vs := by
        have h8 : Blk h2 b6 (splice zeroV 0 l[i].vs) := p2.blk
        rw [seven rfl l[i].len] at h8
        exact h8
      refine Exists.intro l[i].vs (And.intro l[i].len (And.intro (cells_blk B2) ?_))
      rw [hn]
      exact And.intro (Exists.intro l[i].vs (And.intro rfl (((g l[i] (List.getElem_mem hlt)).ext (g1.chg.fresh p2.chg (by simp; omega)))))) (g1.chg.fresh p2.chg (by simp; omega))
    refine And.intro (by omega) (And.intro (by omega) (Exists.intro _ (And.intro (cells_vs hcs 5 _ hx.hasU) ?_)))
    cases hU : l[i].thing.hasU with
    | false =>
      exact cut_at [(6, .pointer (some ⟨b6, 0, none⟩)), (0, .slice (some ⟨b, o, none⟩) l.length c), (8, .int .i64 i)] ⟨rfl, rfl, rfl, trivial⟩ (yes (by unfold goneT; rw [hU]; rfl))
    | true =>
      refine And.intro (by omega) (And.intro (by omega) (Exists.intro _ (And.intro (cells_vs hcs 6 _ hx.unt) ?_)))
      refine And.intro rfl (And.intro (fun hle => ?_) (fun hle => ?_))
      · have hn : getX l key now = none := by unfold getX; rw [hlk]; simp [goneT, hU, hle]
        refine Exists.intro _ (And.intro B1 (And.intro (by decide) (And.intro rfl (And.intro (thing_one (t := zeroT) (h := h1) zero_TH) ?_))))
        intro h2 p2
        have B2 : Blk h2 b6 zeroV := p2.blk
        refine Exists.intro zeroV (And.intro rfl (And.intro (cells_blk B2) ?_))
        rw [hn]
        exact And.intro (Exists.intro zeroV (And.intro rfl zero_TH)) (g1.chg.fresh p2.chg (by simp; omega))
      · exact cut_at [(6, .pointer (some ⟨b6, 0, none⟩)), (0, .slice (some ⟨b, o, none⟩) l.length c), (8, .int .i64 i)] ⟨rfl, rfl, rfl, trivial⟩ (yes (by unfold goneT; rw [hU]; simpa using hle))

end Go.Proofs.YtgmkldaonkbjgaaGreatDoor
namespace Go.Proofs.YtgmkldaonkbjgaaGreatDoor
open Go Go.Sx Go.Proofs.YtgmkldaonkbjgaaGreatDoor.C

structure KI where
  key : ByteArray
  tb : Nat
  vs : List Value
  thing : Thing
  born : Nat

def KI.ent (i : KI) : MapEntry := { key := .string i.key, val := ptr i.tb, born := i.born }
def KI.pr (i : KI) : ByteArray × Thing := (i.key, i.thing)
def RX.pr (i : RX) : ByteArray × Thing := (i.key, i.thing)

structure KR (h : Heap) (kb sb mb c : Nat) (m : List KI) : Prop where
  ks : KS h kb sb mb
  map : MapB h mb (m.map KI.ent) c
  here : ∀ i ∈ m, Blk h i.tb i.vs ∧ TH h i.vs i.thing ∧ Lens i.thing
  nodup : (m.map KI.key).Nodup
  born : ∀ i ∈ m, i.born < c
  borns : (m.map KI.born).Nodup
  keys : ∀ i ∈ m, i.key.size ≤ 1048576
  len : m.length ≤ 65536

theorem KR.ext {h h' : Heap} {kb sb mb c : Nat} {m : List KI} (x : KR h kb sb mb c m) (hc : Chg [] h h') : KR h' kb sb mb c m :=
  ⟨x.ks.chg hc (by simp) (by simp), x.map.chg hc (by simp), fun i hi => ⟨(x.here i hi).1.chg hc (by simp), (x.here i hi).2.1.ext hc, (x.here i hi).2.2⟩, x.nodup, x.born, x.borns, x.keys, x.len⟩

theorem ents_fit (m : List KI) : ∀ e ∈ m.map KI.ent, fits .str e.key = true := by
  intro e he
  obtain ⟨i, _, rfl⟩ := List.mem_map.1 he
  rfl

theorem str_same (a b : ByteArray) : Instr.sameBits 10000 (.string a) (.string b) = decide (a = b) := by
  cases hd : decide (a = b) with
  | true =>
    have := of_decide_eq_true hd
    subst this
    exact sameBits_refl (k := .str) rfl
  | false =>
    cases h : Instr.sameBits 10000 (.string a) (.string b) with
    | false => rfl
    | true =>
      have := sameBits_eq (k := .str) rfl rfl h
      simp at this
      exact absurd this (of_decide_eq_false hd)

theorem mfind_ents (key : ByteArray) : ∀ (m : List KI) (n : Nat), (mfind (.string key) (m.map KI.ent) n = none ∧ ∀ i ∈ m, i.key ≠ key) ∨
    ∃ (j : Nat) (i : KI), mfind (.string key) (m.map KI.ent) n = some (n + j, ptr i.tb) ∧ m[j]? = some i ∧ i.key = key
  | [], n => .inl ⟨rfl, by simp⟩
  | x :: m, n => by
    simp only [List.map_cons, mfind]
    rw [show (KI.ent x).key = .string x.key from rfl, str_same]
    by_cases hk : key = x.key
    · exact .inr ⟨0, x, by simp [hk, KI.ent], rfl, hk.symm⟩
    · rw [if_neg (by simpa using hk)]
      rcases mfind_ents key m (n + 1) with ⟨h1, h2⟩ | ⟨j, i, h1, h2, h3⟩
      · exact .inl ⟨h1, fun i hi => by
          rcases List.mem_cons.1 hi with rfl | hi
          · exact fun e => hk e.symm
          · exact h2 i hi⟩
      · exact .inr ⟨j + 1, i, by rw [h1, show n + 1 + j = n + (j + 1) by omega], by simpa using h2, h3⟩

def ofX : List RX → List RX → Option (List RX)
  | acc, [] => some acc
  | acc, x :: r => if (findX x.key acc).2 = true ∨ kOK x.thing = false then none else ofX (putX acc x) r

structure NVast (l : List RX) : Prop where
  len : l.length ≤ 20
  keys : ∀ x ∈ l, x.key.size ≤ 300
  small : ∀ x ∈ l, Small x.thing

theorem NVast.fit {l : List RX} (n : NVast l) : KeysFit l := fun x hx => by have := n.keys x hx; omega

theorem ofX_ok : ∀ {r acc k : List RX}, UpX acc → ofX acc r = some k → UpX k ∧ (∀ y, y ∈ k ↔ y ∈ acc ∨ y ∈ r) ∧ k.length = acc.length + r.length
  | [], acc, k, hu, h => by
    simp only [ofX, Option.some.injEq] at h
    subst h
    exact ⟨hu, by simp, by simp⟩
  | x :: r, acc, k, hu, h => by
    simp only [ofX] at h
    split at h
    · cases h
    · rename_i hn
      have hf : (findX x.key acc).2 = false := by
        cases hb : (findX x.key acc).2 with
        | false => rfl
        | true => exact absurd (.inl hb) hn
      obtain ⟨h1, h2, h3⟩ := ofX_ok (up_putX hu) h
      refine ⟨h1, fun y => ?_, by rw [h3, putX_new hf]; simp; omega⟩
      rw [h2, mem_putX hu, List.mem_cons]
      constructor
      · rintro ((rfl | ⟨h, _⟩) | h)
        · exact .inr (.inl rfl)
        · exact .inl h
        · exact .inr (.inr h)
      · rintro (h | rfl | h)
        · refine .inl (.inr ⟨h, fun e => ?_⟩)
          have := findX_has hu ⟨y, h, e⟩
          rw [hf] at this; cases this
        · exact .inl (.inl rfl)
        · exact .inr h

theorem ofX_nodup : ∀ {r acc k : List RX}, UpX acc → ofX acc r = some k → (r.map (·.key)).Nodup ∧ ∀ x ∈ r, kOK x.thing = true
  | [], acc, k, hu, h => by simp
  | x :: r, acc, k, hu, h => by
    have h0 := h
    simp only [ofX] at h
    split at h
    · cases h
    · rename_i hn
      obtain ⟨h1, h2⟩ := ofX_nodup (up_putX hu) h
      refine ⟨?_, ?_⟩
      · rw [List.map_cons, List.nodup_cons]
        refine ⟨fun hm => ?_, h1⟩
        obtain ⟨y, hy, hk⟩ := List.mem_map.1 hm
        -- y would have been refused
        have : ∀ {r acc k : List RX}, UpX acc → ofX acc r = some k → ∀ y ∈ r, ∀ z ∈ acc, z.key ≠ y.key := by
          intro r
          induction r with
          | nil => intro acc k _ _ y hy; simp at hy
          | cons w r ih =>
            intro acc k hu h y hy z hz e
            simp only [ofX] at h
            split at h
            · cases h
            · rename_i hn
              rcases List.mem_cons.1 hy with rfl | hy
              · exact hn (.inl (findX_has hu ⟨z, hz, e⟩))
              · by_cases hzw : z.key = w.key
                · exact ih (up_putX hu) h y hy w ((mem_putX hu).2 (.inl rfl)) (hzw.symm.trans e)
                · exact ih (up_putX hu) h y hy z ((mem_putX hu).2 (.inr ⟨hz, hzw⟩)) e
        exact this (up_putX hu) h y hy x ((mem_putX hu).2 (.inl rfl)) hk.symm
      · intro y hy
        rcases List.mem_cons.1 hy with rfl | hy
        · cases hk : kOK y.thing with
          | true => rfl
          | false => exact absurd (.inr hk) hn
        · exact h2 y hy

end Go.Proofs.YtgmkldaonkbjgaaGreatDoor
