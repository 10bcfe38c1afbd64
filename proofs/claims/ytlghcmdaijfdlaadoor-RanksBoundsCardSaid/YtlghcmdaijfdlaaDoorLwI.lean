/-
  Plain: members of other names, many of them, make a set of so many.
-/
import Derived.Test.YtlghcmdaijfdlaaDoorLwH
namespace Go.Proofs.YtlghcmdaijfdlaaDoor
open Go Go.Sx Go.Proofs.YtlghcmdaijfdlaaDoor.C

theorem insR_mem {x y : Rank} {l : List Rank} : y ∈ insR x l ↔ y = x ∨ y ∈ l := by
  unfold insR
  have e := List.take_append_drop (upto x l) l
  constructor
  · intro h
    simp only [List.mem_append, List.mem_cons] at h
    rcases h with h | h | h
    · exact .inr (List.mem_of_mem_take h)
    · exact .inl h
    · exact .inr (List.mem_of_mem_drop h)
  · intro h
    simp only [List.mem_append, List.mem_cons]
    rcases h with h | h
    · exact .inr (.inl h)
    · rw [← e, List.mem_append] at h
      rcases h with h | h
      · exact .inl h
      · exact .inr (.inr h)

theorem ofGo_many : ∀ (l out : List Rank), Names out → Names l → (∀ y ∈ out, ∀ z ∈ l, y.name ≠ z.name) → (∀ x ∈ l, x.name.size ≤ 1048576) → out.length + l.length ≤ 65536 →
    ∃ r, ofGo out l = some r ∧ r.length = out.length + l.length ∧ ∀ y, y ∈ r ↔ y ∈ out ∨ y ∈ l
  | [], out, _, _, _, _, _ => ⟨out, rfl, by simp, by simp⟩
  | x :: l, out, ho, hl, hx, hs, hlen => by
    have hno : ∀ y ∈ out, y.name ≠ x.name := fun y hy => hx y hy x (by simp)
    have hc := List.nodup_cons.1 (show (x.name :: l.map Rank.name).Nodup from hl)
    have hl2 : Names l := hc.2
    have hl1 : ∀ z ∈ l, x.name ≠ z.name := fun z hz e => hc.1 (by rw [e]; exact List.mem_map_of_mem hz)
    have hse : setErr out x = false := by
      have := hs x (by simp)
      simp only [List.length_cons] at hlen
      simp [setErr]; omega
    have hset : setR out x = insR x out := by unfold setR; rw [dropR_none hno]
    have hil := insR_len x out
    obtain ⟨r, h1, h2, h3⟩ := ofGo_many l (insR x out) (insR_names ho hno) hl2 (fun y hy z hz => by
      rcases insR_mem.1 hy with rfl | hy
      · exact hl1 z hz
      · exact hx y hy z (by simp [hz])) (fun z hz => hs z (by simp [hz])) (by rw [hil]; simp only [List.length_cons] at hlen; omega)
    refine ⟨r, ?_, ?_, fun y => ?_⟩
    · rw [ofGo, findR_none hno, if_neg (by omega), hse, hset]; exact h1
    · rw [h2, hil]; simp only [List.length_cons]; omega
    · rw [h3, insR_mem, List.mem_cons]
      constructor
      · rintro ((h | h) | h)
        · exact .inr (.inl h)
        · exact .inl h
        · exact .inr (.inr h)
      · rintro (h | h | h)
        · exact .inl (.inr h)
        · exact .inl (.inl h)
        · exact .inr h

theorem of_many {l : List Rank} (hl : Names l) (hs : ∀ x ∈ l, x.name.size ≤ 1048576) (hlen : l.length ≤ 65536) : ofErr l = 0 ∧ (ofR l).length = l.length ∧ ∀ y, y ∈ ofR l ↔ y ∈ l := by
  obtain ⟨r, h1, h2, h3⟩ := ofGo_many l [] List.nodup_nil hl (by simp) hs (by simpa using hlen)
  have he : ofErr l = 0 := by
    unfold ofErr
    rw [if_neg (by omega), if_neg, if_neg (by rw [h1]; simp)]
    simp only [List.any_eq_true, decide_eq_true_eq, not_exists, not_and]
    intro x hx
    have := hs x hx; omega
  have e : ofR l = r := by unfold ofR; rw [if_pos he, h1]; rfl
  rw [e]
  exact ⟨he, by simpa using h2, fun y => by rw [h3]; simp⟩

/-! ### The members -/
def nmB (i : Nat) : ByteArray := ⟨⟨[UInt8.ofNat (i / 65536), UInt8.ofNat (i / 256), UInt8.ofNat i]⟩⟩
def mb (i : Nat) : Rank := ⟨nmB i, ((i % 7 : Nat) : Int)⟩
def mbs (n : Nat) : List Rank := (List.range n).map mb

theorem nmB_inj {i j : Nat} (hi : i < 16777216) (hj : j < 16777216) (h : nmB i = nmB j) : i = j := by
  have h1 : ([UInt8.ofNat (i / 65536), UInt8.ofNat (i / 256), UInt8.ofNat i] : List UInt8) = [UInt8.ofNat (j / 65536), UInt8.ofNat (j / 256), UInt8.ofNat j] := by
    have := congrArg (fun b : ByteArray => b.data.toList) h
    exact this
  simp only [List.cons.injEq, and_true] at h1
  obtain ⟨a, b, c⟩ := h1
  have a := congrArg UInt8.toNat a
  have b := congrArg UInt8.toNat b
  have c := congrArg UInt8.toNat c
  simp at a b c
  omega

theorem nmB_size (i : Nat) : (nmB i).size = 3 := rfl

theorem mbs_len (n : Nat) : (mbs n).length = n := by simp [mbs]
theorem mbs_get (n : Nat) {i : Nat} (h : i < n) : (mbs n)[i]'(by rw [mbs_len]; exact h) = mb i := by simp [mbs]
theorem mbs_mem {n : Nat} {x : Rank} : x ∈ mbs n ↔ ∃ i < n, x = mb i := by
  simp only [mbs, List.mem_map, List.mem_range]
  constructor
  · rintro ⟨i, h, rfl⟩; exact ⟨i, h, rfl⟩
  · rintro ⟨i, h, rfl⟩; exact ⟨i, h, rfl⟩
theorem mbs_names (n : Nat) (h : n ≤ 16777216) : Names (mbs n) := by
  unfold Names mbs
  rw [List.map_map]
  unfold List.Nodup
  rw [List.pairwise_map]
  refine List.Pairwise.imp_of_mem ?_ (List.nodup_range (n := n))
  intro a b ha hb hne he
  exact hne (nmB_inj (by have := List.mem_range.1 ha; omega) (by have := List.mem_range.1 hb; omega) he)
theorem mbs_take (n k : Nat) (h : k ≤ n) : (mbs n).take k = mbs k := by
  simp only [mbs, ← List.map_take, List.take_range, Nat.min_eq_left h]

theorem mbs_size {n : Nat} : ∀ x ∈ mbs n, x.name.size = 3 := by
  intro x hx
  obtain ⟨i, _, rfl⟩ := mbs_mem.1 hx
  rfl

/-- A name that none has. -/
theorem no_name {n : Nat} {nm : ByteArray} (h : nm.size ≠ 3) : ∀ x ∈ mbs n, x.name ≠ nm := by
  intro x hx e
  have := mbs_size x hx
  rw [e] at this
  exact h this

theorem setR_there {S : List Rank} {x : Rank} (hn : Names S) {a b : List Rank} {y : Rank} (e : S = a ++ y :: b) (hy : y.name = x.name) : (setR S x).length = S.length := by
  subst e
  unfold setR
  rw [insR_len, ← hy, dropR_mid hn]
  simp; omega

/-! ### Numbers -/
theorem u8_of (k : Nat) : IntKind.u8.wrap (k : Int) = ((UInt8.ofNat k).toNat : Int) := by
  have e : IntKind.u8.wrap (k : Int) = (k : Int) % 256 := by simp [IntKind.wrap, IntKind.bits, IntKind.signed]
  rw [e]; simp

theorem fdiv_nat (i n : Nat) : (i : Int).fdiv (n : Int) = ((i / n : Nat) : Int) := by
  rw [Int.fdiv_eq_ediv_of_nonneg _ (by omega)]; rfl
theorem tmod_nat (i n : Nat) : (i : Int).tmod (n : Int) = ((i % n : Nat) : Int) := by
  rw [Int.tmod_eq_emod_of_nonneg (by omega)]; rfl
theorem tdiv_nat (i n : Nat) : (i : Int).tdiv (n : Int) = ((i / n : Nat) : Int) := by
  rw [Int.tdiv_eq_ediv_of_nonneg (by omega)]; rfl

/-- An element of a slice's block, set. -/
theorem splice_set {α : Type} {enc : α → List Value} {size : Nat} (hsz : ∀ x, (enc x).length = size) {l : List α} {i : Nat} (hi : i < l.length) (x : α) :
    splice (l.flatMap enc) (i * size) (enc x) = (l.set i x).flatMap enc := by
  have e : l = l.take i ++ l[i] :: l.drop (i + 1) := by rw [List.getElem_cons_drop, List.take_append_drop]
  have hl : ((l.take i).flatMap enc).length = i * size := by rw [flatMap_len hsz, List.length_take, Nat.min_eq_left (by omega)]
  have h1 : l.flatMap enc = (l.take i).flatMap enc ++ (enc l[i] ++ (l.drop (i + 1)).flatMap enc) := by
    have h := congrArg (fun q => q.flatMap enc) e
    simp only [List.flatMap_append, List.flatMap_cons] at h
    exact h
  rw [h1, ← hl, splice_mid _ _ _ (by simp [hsz])]
  rw [List.drop_append_of_le_length (by simp [hsz]), List.drop_of_length_le (by simp [hsz])]
  rw [List.set_eq_take_append_cons_drop, if_pos hi]
  simp [List.flatMap_append]

end Go.Proofs.YtlghcmdaijfdlaaDoor
