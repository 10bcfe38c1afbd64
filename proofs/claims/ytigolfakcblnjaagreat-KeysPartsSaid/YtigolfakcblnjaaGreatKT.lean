/-
  Layer 7: the sorted keys of a keyspace's map (over the shelf's contracts).
-/
import Derived.Test.YtigolfakcblnjaaGreatKS
import Derived.Test.YtigolfakcblnjaaGreatIter
namespace Go.Proofs.YtigolfakcblnjaaGreat
open Go Go.Sx Go.Proofs.YtigolfakcblnjaaGreat.C

theorem bl_lt : ∀ a b : List UInt8, Op.bytesLess a b = true ↔ a < b
  | [], [] => by simp [Op.bytesLess]
  | a :: x, [] => by simp [Op.bytesLess]
  | [], b :: y => by simp [Op.bytesLess]
  | a :: x, b :: y => by
    rw [List.cons_lt_cons_iff, ← bl_lt x y]
    simp only [Op.bytesLess, Bool.or_eq_true, Bool.and_eq_true, decide_eq_true_eq, beq_iff_eq]

abbrev bytesL (b : ByteArray) : List UInt8 := b.data.toList
abbrev ofL (l : List UInt8) : ByteArray := ⟨l.toArray⟩

/-- The heap behind maps.Keys: one new block holds the map. -/
def keysHeap (h : Heap) (mb : Nat) : Heap := h.push (.cells #[.map (some mb)] 54)

theorem keysHeap_chg (h : Heap) (mb : Nat) : Chg [] h (keysHeap h mb) := by
  refine ⟨by simp [keysHeap], fun k hk _ => ?_⟩
  unfold keysHeap
  rw [Array.getElem?_push, if_neg (by omega)]

theorem mKeys_calls {h : Heap} {mb : Nat} : CallsH Tryz.prog 38 [.map (some mb)] h (Ret fun r h' => r = .func (.func 48) #[] #[ptr h.size] ∧ h' = keysHeap h mb) := by
  refine ⟨by kernel_rfl, fun w hw => ?_⟩
  refine ((callsIn_wide (n := 5)).1 (Tryz.maps_Keys_38 (some mb) w)).mono ?_
  rintro e w' ⟨rfl, rfl⟩
  refine ⟨?_, by simp, rfl, rfl, rfl⟩
  subst hw
  exact ⟨rfl, rfl⟩

/-- How an element reads: as nothing. -/
def RN : Value → Option (DataW Unit × List MemPlace) := fun _ => some (.nil, [])

theorem key_reads (s : ByteArray) (hs : s.size ≤ 1048576) : keyOf Tryz.prog 9 (.string s) = some (.string (bytesL s)) := by
  have hu : Tryz.prog.underlying 9 = some .string := Tryz.underlying9
  unfold keyOf
  rw [hu]
  simp only [mapKey, hu]
  rw [if_pos]
  have : (1048576 : Nat) ≤ maxLen := by decide
  exact Nat.le_trans hs this

theorem rg_ent (i : KI) (hs : i.key.size ≤ 1048576) : Go.WideElems.rg Tryz.prog 9 RN i.ent = (.string (bytesL i.key), .nil) := by
  unfold Go.WideElems.rg Go.WideElems.rd
  rw [show i.ent.key = .string i.key from rfl, key_reads _ hs]
  rfl

theorem str_inj_nodup : ∀ {m : List KI}, (m.map KI.key).Nodup → ((m.map KI.ent).map (·.key)).Nodup := by
  intro m h
  rw [List.map_map]
  have e : (MapEntry.key ∘ KI.ent) = Value.string ∘ KI.key := rfl
  rw [e, ← List.map_map]
  exact (List.Pairwise.map Value.string (fun a b (hab : a ≠ b) => fun he => hab (by simpa using he)) h)

theorem own_of {w : World} {kb sb mb c : Nat} {m : List KI} (x : KR w.heap kb sb mb c m) : w.ownsMap Tryz.prog 9 RN mb m.length (.map ((((⟨m.map KI.ent⟩ : Array MapEntry)).toList.map (Go.WideElems.rg Tryz.prog 9 RN)).foldr DataW.insert []) : DataW Unit) := by
  have hl := x.len
  refine ⟨⟨m.map KI.ent⟩, c, x.map, ⟨?_, ⟨?_, ?_, ?_⟩, ?_⟩, by simp, rfl⟩
  · have : (65536 : Nat) ≤ maxLen := by decide
    simp; omega
  · intro e he
    obtain ⟨i, hi, rfl⟩ := List.mem_map.1 he
    exact x.born i hi
  · have : ((⟨m.map KI.ent⟩ : Array MapEntry).toList.map (·.born)) = m.map KI.born := by simp [KI.ent, Function.comp_def]
    rw [this]; exact x.borns
  · exact str_inj_nodup x.nodup
  · intro e he
    obtain ⟨i, hi, rfl⟩ := List.mem_map.1 he
    refine ⟨(.string (bytesL i.key), .nil), ?_⟩
    unfold Go.WideElems.rd
    rw [show i.ent.key = .string i.key from rfl, key_reads _ (x.keys i hi)]
    rfl

theorem strKeys_perm {m : List KI} (hk : ∀ i ∈ m, i.key.size ≤ 1048576) : (strKeys (.map ((((⟨m.map KI.ent⟩ : Array MapEntry)).toList.map (Go.WideElems.rg Tryz.prog 9 RN)).foldr DataW.insert []) : DataW Unit)).Perm (m.map fun i => bytesL i.key) := by
  unfold strKeys
  have h1 := Go.WideShapes.sorted_perm (((⟨m.map KI.ent⟩ : Array MapEntry)).toList.map (Go.WideElems.rg Tryz.prog 9 RN))
  refine (h1.map _).trans ?_
  rw [List.map_map, List.map_map]
  refine List.Perm.of_eq (List.map_congr_left fun i hi => ?_)
  simp only [Function.comp]
  rw [rg_ent i (hk i hi)]
  rfl

theorem own_all {w : World} {kb sb mb c : Nat} {m : List KI} (x : KR w.heap kb sb mb c m) : ∃ D : DataW Unit, w.ownsMap Tryz.prog 9 RN mb m.length D ∧ (strKeys D).Perm (m.map fun i => bytesL i.key) ∧ Go.Maps.size D = m.length :=
  ⟨_, own_of x, strKeys_perm x.keys, by rw [Go.Maps.size_eq, Go.length_sorted]; simp⟩

/-- THE KEYS, SORTED. -/
theorem sSorted_calls {h : Heap} {kb sb mb c : Nat} {m : List KI} (x : KR h kb sb mb c m) :
    CallsH Tryz.prog 37 [.func (.func 48) #[] #[ptr h.size]] (keysHeap h mb) (Ret fun r h' => ∃ L : List ByteArray, SL encS h' r L ∧ L.Perm (m.map KI.key) ∧ L.Pairwise (fun a b => sless a b = true) ∧ (∀ b ∈ vblk r, h.size < b) ∧ Chg [] (keysHeap h mb) h') := by
  refine ⟨by kernel_rfl, fun w hw => ?_⟩
  let w0 : World := { w with heap := h }
  have ew : w0.alloc (.cells #[.map (some mb)] 54) = w := by
    show ({ w with heap := h.push _ } : World) = w
    rw [show h.push (.cells #[.map (some mb)] 54) = w.heap from hw.symm]
  have x0 : KR w0.heap kb sb mb c m := x
  have hl := x.len
  obtain ⟨D, hown, hsk, hsz⟩ := own_all x0
  have h65 : (65536 : Nat) ≤ maxLen := by decide
  have key := Tryz.slices_Sorted_keys_37_38 (H := Unit) mb m.length D RN w0 hown (by omega) (by omega)
  rw [ew] at key
  refine ((callsIn_wide (n := 5)).1 key).mono ?_
  rintro e w' ⟨v, ss, rfl, hp, hrow, hnil, hb⟩
  refine ⟨?_, by simp, hb.os, hb.output, hb.tape⟩
  have hperm : ss.Perm (m.map fun i => bytesL i.key) := hp.trans hsk
  have hms : (ss.mergeSort leB).Perm (m.map fun i => bytesL i.key) := (List.mergeSort_perm ss leB).trans hperm
  have tr : ∀ a b c : List UInt8, leB a b = true → leB b c = true → leB a c = true := fun a b c h1 h2 => by simp only [leB, decide_eq_true_eq] at *; exact List.le_trans h1 h2
  have to : ∀ a b : List UInt8, (leB a b || leB b a) = true := fun a b => by simp only [leB, Bool.or_eq_true, decide_eq_true_eq]; exact List.le_total a b
  have hpw : (ss.mergeSort leB).Pairwise (fun a b => leB a b = true) := List.pairwise_mergeSort tr to ss
  have hnd : (ss.mergeSort leB).Nodup := by
    refine hms.symm.nodup ?_
    have : (m.map fun i => bytesL i.key) = (m.map KI.key).map bytesL := by rw [List.map_map]; rfl
    rw [this]
    exact List.Pairwise.map bytesL (fun a b (hab : a ≠ b) => fun he => hab (by cases a; cases b; simp_all [bytesL])) x.nodup
  have hsize : w.heap.size = h.size + 1 := by rw [hw]; simp [keysHeap]
  refine ⟨(ss.mergeSort leB).map ofL, ?_, ?_, ?_, ?_, ?_⟩
  · -- the slice
    obtain ⟨hlen, hr⟩ := hrow
    have hsl : (ss.mergeSort leB).length = ss.length := (List.mergeSort_perm ss leB).length_eq
    rcases hr with ⟨rfl, hn⟩ | ⟨g, cap, cur, rfl, hg, hcur, hcap, hmax, hcs, htk⟩
    · have : (ss.mergeSort leB).map ofL = [] := by rw [List.map_eq_nil_iff]; exact List.length_eq_zero_iff.1 (hsl.trans hn)
      rw [this]; exact SL.nil
    · refine ⟨some ⟨g, 0, none⟩, cap, by rw [List.length_map, hsl], by rw [List.length_map, hsl]; exact hcap, ?_⟩
      intro i v hv
      have hfm : ∀ l : List (List UInt8), (l.map ofL).flatMap encS = l.map encStr := by
        intro l
        induction l with
        | nil => rfl
        | cons a l ih => rw [List.map_cons, List.flatMap_cons, ih]; rfl
      rw [hfm] at hv
      have htk' : cur.toList.take (ss.length * 1) = (ss.mergeSort leB).map encStr := htk
      rw [← htk'] at hv
      rw [Nat.zero_add]
      unfold Sx.cell
      rw [hcur]
      simp only
      rw [List.getElem?_take] at hv
      split at hv
      · simpa using hv
      · cases hv
  · have : m.map KI.key = (m.map fun i => bytesL i.key).map ofL := by rw [List.map_map]; rfl
    rw [this]
    exact hms.map _
  · refine List.Pairwise.map ofL (fun a b (hab : leB a b = true ∧ a ≠ b) => ?_) (hpw.and hnd)
    rw [sless_data, bl_lt]
    show a < b
    obtain ⟨h1, h2⟩ := hab
    simp only [leB, decide_eq_true_eq] at h1
    have hb : Op.bytesLess b a ≠ true := fun h => h1 ((bl_lt b a).1 h)
    rcases bl_total h2 with h | h
    · exact (bl_lt a b).1 h
    · exact absurd h hb
  · intro b hb'
    obtain ⟨_, hr⟩ := hrow
    rcases hr with ⟨rfl, _⟩ | ⟨g, cap, cur, rfl, hg, _⟩
    · simp [vblk, ablk] at hb'
    · simp [vblk, ablk] at hb'
      subst hb'
      omega
  · refine ⟨by rw [← hw]; exact hb.size, fun k hk _ => ?_⟩
    rw [← hw] at hk ⊢
    exact hb.block k hk

end Go.Proofs.YtigolfakcblnjaaGreat
