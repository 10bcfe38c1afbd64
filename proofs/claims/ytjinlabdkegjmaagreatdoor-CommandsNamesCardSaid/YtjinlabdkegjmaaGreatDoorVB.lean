/-
  Layers 8, 9, 10: the keys of a map, sorted (over the shelf's contracts), for three kinds of maps.
-/
import Derived.Test.YtjinlabdkegjmaaGreatDoorVA
import Derived.Test.YtjinlabdkegjmaaGreatDoorIter
namespace Go.Proofs.YtjinlabdkegjmaaGreatDoor
open Go Go.Sx Go.Proofs.YtjinlabdkegjmaaGreatDoor.C

abbrev bytesL (b : ByteArray) : List UInt8 := b.data.toList
abbrev ofL (l : List UInt8) : ByteArray := ⟨l.toArray⟩
def encS (s : ByteArray) : List Value := [.string s]
theorem encS_len (p : ByteArray) : (encS p).length = 1 := rfl

/-- A map of which the keys are known. -/
structure MK (h : Heap) (mb c : Nat) (ms : List MapEntry) (ks : List ByteArray) : Prop where
  map : MapB h mb ms c
  keys : ms.map (·.key) = ks.map Value.string
  small : ∀ k ∈ ks, k.size ≤ 1048576
  len : ms.length ≤ 65536
  born : ∀ e ∈ ms, e.born < c
  borns : (ms.map (·.born)).Nodup
  nodup : ks.Nodup

/-- The heap behind maps.Keys: one new block holds the map. -/
def keysHeap (T : TypeId) (h : Heap) (mb : Nat) : Heap := h.push (.cells #[.map (some mb)] T)

theorem keysHeap_chg (T : TypeId) (h : Heap) (mb : Nat) : Chg [] h (keysHeap T h mb) := by
  refine ⟨by simp [keysHeap], fun k hk _ => ?_⟩
  unfold keysHeap
  rw [Array.getElem?_push, if_neg (by omega)]

theorem mKeys_callsC {h : Heap} {mb : Nat} : CallsH Tryz.prog 80 [.map (some mb)] h (Ret fun r h' => r = .func (.func 134) #[] #[.pointer (some ⟨h.size, 0, none⟩)] ∧ h' = keysHeap 108 h mb) := by
  refine ⟨by kernel_rfl, fun w hw => ?_⟩
  refine ((callsIn_wide (n := 5)).1 (Tryz.maps_Keys_80 (some mb) w)).mono ?_
  rintro e w' ⟨rfl, rfl⟩
  refine ⟨?_, by simp, rfl, rfl, rfl⟩
  subst hw
  exact ⟨rfl, rfl⟩

theorem mKeys_callsL {h : Heap} {mb : Nat} : CallsH Tryz.prog 22 [.map (some mb)] h (Ret fun r h' => r = .func (.func 40) #[] #[.pointer (some ⟨h.size, 0, none⟩)] ∧ h' = keysHeap 52 h mb) := by
  refine ⟨by kernel_rfl, fun w hw => ?_⟩
  refine ((callsIn_wide (n := 5)).1 (Tryz.maps_Keys_22 (some mb) w)).mono ?_
  rintro e w' ⟨rfl, rfl⟩
  refine ⟨?_, by simp, rfl, rfl, rfl⟩
  subst hw
  exact ⟨rfl, rfl⟩

theorem mKeys_callsI {h : Heap} {mb : Nat} : CallsH Tryz.prog 36 [.map (some mb)] h (Ret fun r h' => r = .func (.func 82) #[] #[.pointer (some ⟨h.size, 0, none⟩)] ∧ h' = keysHeap 85 h mb) := by
  refine ⟨by kernel_rfl, fun w hw => ?_⟩
  refine ((callsIn_wide (n := 5)).1 (Tryz.maps_Keys_36 (some mb) w)).mono ?_
  rintro e w' ⟨rfl, rfl⟩
  refine ⟨?_, by simp, rfl, rfl, rfl⟩
  subst hw
  exact ⟨rfl, rfl⟩

/-- How an element reads: as nothing. -/
def RNo : Value → Option (DataW Unit × List MemPlace) := fun _ => some (.nil, [])

theorem key_reads (s : ByteArray) (hs : s.size ≤ 1048576) : keyOf Tryz.prog 9 (.string s) = some (.string (bytesL s)) := by
  have hu : Tryz.prog.underlying 9 = some .string := Tryz.underlying9
  unfold keyOf
  rw [hu]
  simp only [mapKey, hu]
  rw [if_pos]
  have : (1048576 : Nat) ≤ maxLen := by decide
  exact Nat.le_trans hs this

theorem MK.key {h : Heap} {mb c : Nat} {ms : List MapEntry} {ks : List ByteArray} (x : MK h mb c ms ks) : ∀ e ∈ ms, ∃ k ∈ ks, e.key = .string k ∧ k.size ≤ 1048576 := by
  intro e he
  have : e.key ∈ ms.map (·.key) := List.mem_map.2 ⟨e, he, rfl⟩
  rw [x.keys] at this
  obtain ⟨k, hk, e2⟩ := List.mem_map.1 this
  exact ⟨k, hk, e2.symm, x.small k hk⟩

theorem own_of {w : World} {mb c : Nat} {ms : List MapEntry} {ks : List ByteArray} (x : MK w.heap mb c ms ks) : w.ownsMap Tryz.prog 9 RNo mb ms.length (.map ((((⟨ms⟩ : Array MapEntry)).toList.map (Go.WideElems.rg Tryz.prog 9 RNo)).foldr DataW.insert []) : DataW Unit) := by
  have hl := x.len
  refine ⟨⟨ms⟩, c, x.map, ⟨?_, ⟨?_, ?_, ?_⟩, ?_⟩, by simp, rfl⟩
  · have : (65536 : Nat) ≤ maxLen := by decide
    simp; omega
  · exact x.born
  · exact x.borns
  · show (ms.map (·.key)).Nodup
    rw [x.keys]
    exact List.Pairwise.map Value.string (fun a b (hab : a ≠ b) => fun he => hab (by simpa using he)) x.nodup
  · intro e he
    obtain ⟨k, _, hk, hs⟩ := x.key e he
    refine ⟨(.string (bytesL k), .nil), ?_⟩
    unfold Go.WideElems.rd
    rw [hk, key_reads _ hs]
    rfl

theorem strKeys_perm {h : Heap} {mb c : Nat} {ms : List MapEntry} {ks : List ByteArray} (x : MK h mb c ms ks) : (strKeys (.map ((((⟨ms⟩ : Array MapEntry)).toList.map (Go.WideElems.rg Tryz.prog 9 RNo)).foldr DataW.insert []) : DataW Unit)).Perm (ks.map bytesL) := by
  unfold strKeys
  have h1 := Go.WideShapes.sorted_perm (((⟨ms⟩ : Array MapEntry)).toList.map (Go.WideElems.rg Tryz.prog 9 RNo))
  refine (h1.map _).trans ?_
  rw [List.map_map]
  refine List.Perm.of_eq ?_
  have e : ks.map bytesL = (ks.map Value.string).map (fun v => match v with | .string s => bytesL s | _ => []) := by rw [List.map_map]; rfl
  rw [e, ← x.keys, List.map_map]
  refine List.map_congr_left fun i hi => ?_
  obtain ⟨k, _, hk, hs⟩ := x.key i hi
  simp only [Function.comp]
  unfold Go.WideElems.rg Go.WideElems.rd
  rw [hk, key_reads _ hs]
  rfl

def leB (x y : List UInt8) : Bool := decide (x ≤ y)

/-- A row of texts, in a block of its own that is none of the first n. -/
def Row (n : Nat) (h : Heap) (r : Value) (ns : List ByteArray) : Prop :=
  ns ≠ [] → ∃ b c tail, n ≤ b ∧ r = .slice (some ⟨b, 0, none⟩) ns.length c ∧ ns.length ≤ c ∧ Blk h b (ns.map Value.string ++ tail)
theorem Row.mono {n m : Nat} {h : Heap} {r : Value} {ns : List ByteArray} (hr : Row n h r ns) (hm : m ≤ n) : Row m h r ns := fun hne => by
  obtain ⟨b, c, tail, h1, h2⟩ := hr hne
  exact ⟨b, c, tail, Nat.le_trans hm h1, h2⟩

/-- THE KEYS, SORTED: if they are told in order, just these. -/
theorem sSorted_callsC {h : Heap} {mb c : Nat} {ms : List MapEntry} {ks ns : List ByteArray} (x : MK h mb c ms ks) (hp : ks.Perm ns) (ho : (ns.map bytesL).Pairwise (fun a b => leB a b = true)) :
    CallsH Tryz.prog 21 [.func (.func 134) #[] #[.pointer (some ⟨h.size, 0, none⟩)]] (keysHeap 108 h mb) (Ret fun r h' => SL encS h' r ns ∧ Row (keysHeap 108 h mb).size h' r ns ∧ Chg [] (keysHeap 108 h mb) h') := by
  refine ⟨by kernel_rfl, fun w hw => ?_⟩
  let w0 : World := { w with heap := h }
  have ew : w0.alloc (.cells #[.map (some mb)] 108) = w := by
    show ({ w with heap := h.push _ } : World) = w
    rw [show h.push (.cells #[.map (some mb)] 108) = w.heap from hw.symm]
  have x0 : MK w0.heap mb c ms ks := x
  have hl := x.len
  have hown := own_of x0
  have hsk := strKeys_perm x0
  have h65 : (65536 : Nat) ≤ maxLen := by decide
  have hsz : Go.Maps.size (.map ((((⟨ms⟩ : Array MapEntry)).toList.map (Go.WideElems.rg Tryz.prog 9 RNo)).foldr DataW.insert []) : DataW Unit) = ms.length := by rw [Go.Maps.size_eq, Go.length_sorted]; simp
  have key := Tryz.slices_Sorted_keys_21_80 (H := Unit) mb ms.length _ RNo w0 hown (by omega) (by omega)
  rw [ew] at key
  refine ((callsIn_wide (n := 5)).1 key).mono ?_
  rintro e w' ⟨v, ss, rfl, hpp, hrow, hnil, hb⟩
  refine ⟨?_, by simp, hb.os, hb.output, hb.tape⟩
  have hperm : ss.Perm (ns.map bytesL) := (hpp.trans hsk).trans (hp.map _)
  have hms : (ss.mergeSort leB).Perm (ns.map bytesL) := (List.mergeSort_perm ss leB).trans hperm
  have tr : ∀ a b c : List UInt8, leB a b = true → leB b c = true → leB a c = true := fun a b c h1 h2 => by simp only [leB, decide_eq_true_eq] at *; exact List.le_trans h1 h2
  have to : ∀ a b : List UInt8, (leB a b || leB b a) = true := fun a b => by simp only [leB, Bool.or_eq_true, decide_eq_true_eq]; exact List.le_total a b
  have hpw : (ss.mergeSort leB).Pairwise (fun a b => leB a b = true) := List.pairwise_mergeSort tr to ss
  have heq : ss.mergeSort leB = ns.map bytesL := by
    refine hms.eq_of_pairwise (le := fun a b => leB a b = true) (fun a b _ _ h1 h2 => ?_) hpw ho
    simp only [leB, decide_eq_true_eq] at h1 h2
    exact List.le_antisymm h1 h2
  refine ⟨?_, ?_, ?_⟩
  · obtain ⟨hlen, hr⟩ := hrow
    have hsl : ns.length = ss.length := by rw [← (List.mergeSort_perm ss leB).length_eq, heq, List.length_map]
    rcases hr with ⟨rfl, hn⟩ | ⟨g, cap, cur, rfl, hg, hcur, hcap, hmax, hcs, htk⟩
    · have : ns = [] := List.length_eq_zero_iff.1 (hsl.trans hn)
      rw [this]; exact SL.nil
    · refine ⟨some ⟨g, 0, none⟩, cap, by rw [hsl], by rw [hsl]; exact hcap, ?_⟩
      intro i v hv
      have hfm : ∀ l : List ByteArray, l.flatMap encS = (l.map bytesL).map encStr := by
        intro l
        induction l with
        | nil => rfl
        | cons a l ih => rw [List.flatMap_cons, ih]; rfl
      rw [hfm, ← heq] at hv
      have htk' : cur.toList.take (ss.length * 1) = (ss.mergeSort leB).map encStr := htk
      rw [← htk'] at hv
      rw [Nat.zero_add]
      unfold Sx.cell
      rw [hcur]
      simp only
      rw [List.getElem?_take] at hv
      split at hv
      · simpa using hv
      · cases hv
  · intro hne
    obtain ⟨hlen, hr⟩ := hrow
    have hsl : ns.length = ss.length := by rw [← (List.mergeSort_perm ss leB).length_eq, heq, List.length_map]
    rcases hr with ⟨rfl, hn⟩ | ⟨g, cap, cur, rfl, hg, hcur, hcap, hmax, hcs, htk⟩
    · exact absurd (List.length_eq_zero_iff.1 (hsl.trans hn)) hne
    · have htk' : cur.toList.take (ss.length * 1) = (ss.mergeSort leB).map encStr := htk
      refine ⟨g, cap, cur.toList.drop (ss.length * 1), by rw [← hw]; exact hg, by rw [hsl], by rw [hsl]; exact hcap, ?_⟩
      have e1 : ns.map Value.string = cur.toList.take (ss.length * 1) := by
        rw [htk', heq, List.map_map]; rfl
      rw [e1, List.take_append_drop]
      exact ⟨_, hcur⟩
  · refine ⟨by rw [← hw]; exact hb.size, fun k hk _ => ?_⟩
    rw [← hw] at hk ⊢
    exact hb.block k hk

/-- THE KEYS, SORTED: if they are told in order, just these. -/
theorem sSorted_callsL {h : Heap} {mb c : Nat} {ms : List MapEntry} {ks ns : List ByteArray} (x : MK h mb c ms ks) (hp : ks.Perm ns) (ho : (ns.map bytesL).Pairwise (fun a b => leB a b = true)) :
    CallsH Tryz.prog 21 [.func (.func 40) #[] #[.pointer (some ⟨h.size, 0, none⟩)]] (keysHeap 52 h mb) (Ret fun r h' => SL encS h' r ns ∧ Row (keysHeap 52 h mb).size h' r ns ∧ Chg [] (keysHeap 52 h mb) h') := by
  refine ⟨by kernel_rfl, fun w hw => ?_⟩
  let w0 : World := { w with heap := h }
  have ew : w0.alloc (.cells #[.map (some mb)] 52) = w := by
    show ({ w with heap := h.push _ } : World) = w
    rw [show h.push (.cells #[.map (some mb)] 52) = w.heap from hw.symm]
  have x0 : MK w0.heap mb c ms ks := x
  have hl := x.len
  have hown := own_of x0
  have hsk := strKeys_perm x0
  have h65 : (65536 : Nat) ≤ maxLen := by decide
  have hsz : Go.Maps.size (.map ((((⟨ms⟩ : Array MapEntry)).toList.map (Go.WideElems.rg Tryz.prog 9 RNo)).foldr DataW.insert []) : DataW Unit) = ms.length := by rw [Go.Maps.size_eq, Go.length_sorted]; simp
  have key := Tryz.slices_Sorted_keys_21_22 (H := Unit) mb ms.length _ RNo w0 hown (by omega) (by omega)
  rw [ew] at key
  refine ((callsIn_wide (n := 5)).1 key).mono ?_
  rintro e w' ⟨v, ss, rfl, hpp, hrow, hnil, hb⟩
  refine ⟨?_, by simp, hb.os, hb.output, hb.tape⟩
  have hperm : ss.Perm (ns.map bytesL) := (hpp.trans hsk).trans (hp.map _)
  have hms : (ss.mergeSort leB).Perm (ns.map bytesL) := (List.mergeSort_perm ss leB).trans hperm
  have tr : ∀ a b c : List UInt8, leB a b = true → leB b c = true → leB a c = true := fun a b c h1 h2 => by simp only [leB, decide_eq_true_eq] at *; exact List.le_trans h1 h2
  have to : ∀ a b : List UInt8, (leB a b || leB b a) = true := fun a b => by simp only [leB, Bool.or_eq_true, decide_eq_true_eq]; exact List.le_total a b
  have hpw : (ss.mergeSort leB).Pairwise (fun a b => leB a b = true) := List.pairwise_mergeSort tr to ss
  have heq : ss.mergeSort leB = ns.map bytesL := by
    refine hms.eq_of_pairwise (le := fun a b => leB a b = true) (fun a b _ _ h1 h2 => ?_) hpw ho
    simp only [leB, decide_eq_true_eq] at h1 h2
    exact List.le_antisymm h1 h2
  refine ⟨?_, ?_, ?_⟩
  · obtain ⟨hlen, hr⟩ := hrow
    have hsl : ns.length = ss.length := by rw [← (List.mergeSort_perm ss leB).length_eq, heq, List.length_map]
    rcases hr with ⟨rfl, hn⟩ | ⟨g, cap, cur, rfl, hg, hcur, hcap, hmax, hcs, htk⟩
    · have : ns = [] := List.length_eq_zero_iff.1 (hsl.trans hn)
      rw [this]; exact SL.nil
    · refine ⟨some ⟨g, 0, none⟩, cap, by rw [hsl], by rw [hsl]; exact hcap, ?_⟩
      intro i v hv
      have hfm : ∀ l : List ByteArray, l.flatMap encS = (l.map bytesL).map encStr := by
        intro l
        induction l with
        | nil => rfl
        | cons a l ih => rw [List.flatMap_cons, ih]; rfl
      rw [hfm, ← heq] at hv
      have htk' : cur.toList.take (ss.length * 1) = (ss.mergeSort leB).map encStr := htk
      rw [← htk'] at hv
      rw [Nat.zero_add]
      unfold Sx.cell
      rw [hcur]
      simp only
      rw [List.getElem?_take] at hv
      split at hv
      · simpa using hv
      · cases hv
  · intro hne
    obtain ⟨hlen, hr⟩ := hrow
    have hsl : ns.length = ss.length := by rw [← (List.mergeSort_perm ss leB).length_eq, heq, List.length_map]
    rcases hr with ⟨rfl, hn⟩ | ⟨g, cap, cur, rfl, hg, hcur, hcap, hmax, hcs, htk⟩
    · exact absurd (List.length_eq_zero_iff.1 (hsl.trans hn)) hne
    · have htk' : cur.toList.take (ss.length * 1) = (ss.mergeSort leB).map encStr := htk
      refine ⟨g, cap, cur.toList.drop (ss.length * 1), by rw [← hw]; exact hg, by rw [hsl], by rw [hsl]; exact hcap, ?_⟩
      have e1 : ns.map Value.string = cur.toList.take (ss.length * 1) := by
        rw [htk', heq, List.map_map]; rfl
      rw [e1, List.take_append_drop]
      exact ⟨_, hcur⟩
  · refine ⟨by rw [← hw]; exact hb.size, fun k hk _ => ?_⟩
    rw [← hw] at hk ⊢
    exact hb.block k hk

/-- THE KEYS, SORTED: if they are told in order, just these. -/
theorem sSorted_callsI {h : Heap} {mb c : Nat} {ms : List MapEntry} {ks ns : List ByteArray} (x : MK h mb c ms ks) (hp : ks.Perm ns) (ho : (ns.map bytesL).Pairwise (fun a b => leB a b = true)) :
    CallsH Tryz.prog 21 [.func (.func 82) #[] #[.pointer (some ⟨h.size, 0, none⟩)]] (keysHeap 85 h mb) (Ret fun r h' => SL encS h' r ns ∧ Row (keysHeap 85 h mb).size h' r ns ∧ Chg [] (keysHeap 85 h mb) h') := by
  refine ⟨by kernel_rfl, fun w hw => ?_⟩
  let w0 : World := { w with heap := h }
  have ew : w0.alloc (.cells #[.map (some mb)] 85) = w := by
    show ({ w with heap := h.push _ } : World) = w
    rw [show h.push (.cells #[.map (some mb)] 85) = w.heap from hw.symm]
  have x0 : MK w0.heap mb c ms ks := x
  have hl := x.len
  have hown := own_of x0
  have hsk := strKeys_perm x0
  have h65 : (65536 : Nat) ≤ maxLen := by decide
  have hsz : Go.Maps.size (.map ((((⟨ms⟩ : Array MapEntry)).toList.map (Go.WideElems.rg Tryz.prog 9 RNo)).foldr DataW.insert []) : DataW Unit) = ms.length := by rw [Go.Maps.size_eq, Go.length_sorted]; simp
  have key := Tryz.slices_Sorted_keys_21_36 (H := Unit) mb ms.length _ RNo w0 hown (by omega) (by omega)
  rw [ew] at key
  refine ((callsIn_wide (n := 5)).1 key).mono ?_
  rintro e w' ⟨v, ss, rfl, hpp, hrow, hnil, hb⟩
  refine ⟨?_, by simp, hb.os, hb.output, hb.tape⟩
  have hperm : ss.Perm (ns.map bytesL) := (hpp.trans hsk).trans (hp.map _)
  have hms : (ss.mergeSort leB).Perm (ns.map bytesL) := (List.mergeSort_perm ss leB).trans hperm
  have tr : ∀ a b c : List UInt8, leB a b = true → leB b c = true → leB a c = true := fun a b c h1 h2 => by simp only [leB, decide_eq_true_eq] at *; exact List.le_trans h1 h2
  have to : ∀ a b : List UInt8, (leB a b || leB b a) = true := fun a b => by simp only [leB, Bool.or_eq_true, decide_eq_true_eq]; exact List.le_total a b
  have hpw : (ss.mergeSort leB).Pairwise (fun a b => leB a b = true) := List.pairwise_mergeSort tr to ss
  have heq : ss.mergeSort leB = ns.map bytesL := by
    refine hms.eq_of_pairwise (le := fun a b => leB a b = true) (fun a b _ _ h1 h2 => ?_) hpw ho
    simp only [leB, decide_eq_true_eq] at h1 h2
    exact List.le_antisymm h1 h2
  refine ⟨?_, ?_, ?_⟩
  · obtain ⟨hlen, hr⟩ := hrow
    have hsl : ns.length = ss.length := by rw [← (List.mergeSort_perm ss leB).length_eq, heq, List.length_map]
    rcases hr with ⟨rfl, hn⟩ | ⟨g, cap, cur, rfl, hg, hcur, hcap, hmax, hcs, htk⟩
    · have : ns = [] := List.length_eq_zero_iff.1 (hsl.trans hn)
      rw [this]; exact SL.nil
    · refine ⟨some ⟨g, 0, none⟩, cap, by rw [hsl], by rw [hsl]; exact hcap, ?_⟩
      intro i v hv
      have hfm : ∀ l : List ByteArray, l.flatMap encS = (l.map bytesL).map encStr := by
        intro l
        induction l with
        | nil => rfl
        | cons a l ih => rw [List.flatMap_cons, ih]; rfl
      rw [hfm, ← heq] at hv
      have htk' : cur.toList.take (ss.length * 1) = (ss.mergeSort leB).map encStr := htk
      rw [← htk'] at hv
      rw [Nat.zero_add]
      unfold Sx.cell
      rw [hcur]
      simp only
      rw [List.getElem?_take] at hv
      split at hv
      · simpa using hv
      · cases hv
  · intro hne
    obtain ⟨hlen, hr⟩ := hrow
    have hsl : ns.length = ss.length := by rw [← (List.mergeSort_perm ss leB).length_eq, heq, List.length_map]
    rcases hr with ⟨rfl, hn⟩ | ⟨g, cap, cur, rfl, hg, hcur, hcap, hmax, hcs, htk⟩
    · exact absurd (List.length_eq_zero_iff.1 (hsl.trans hn)) hne
    · have htk' : cur.toList.take (ss.length * 1) = (ss.mergeSort leB).map encStr := htk
      refine ⟨g, cap, cur.toList.drop (ss.length * 1), by rw [← hw]; exact hg, by rw [hsl], by rw [hsl]; exact hcap, ?_⟩
      have e1 : ns.map Value.string = cur.toList.take (ss.length * 1) := by
        rw [htk', heq, List.map_map]; rfl
      rw [e1, List.take_append_drop]
      exact ⟨_, hcur⟩
  · refine ⟨by rw [← hw]; exact hb.size, fun k hk _ => ?_⟩
    rw [← hw] at hk ⊢
    exact hb.block k hk

end Go.Proofs.YtjinlabdkegjmaaGreatDoor
