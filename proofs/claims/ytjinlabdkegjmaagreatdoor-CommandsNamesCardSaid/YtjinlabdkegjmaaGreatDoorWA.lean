/-
  Layer 8: a text in capital letters, by the document and by the program.
-/
import Derived.Test.YtjinlabdkegjmaaGreatDoorCodeN
import Derived.Test.YtjinlabdkegjmaaGreatDoorSxX
import Derived.Test.YtjinlabdkegjmaaGreatDoorSxYD
namespace Go.Proofs.YtjinlabdkegjmaaGreatDoor
open Go Go.Sx Go.Proofs.YtjinlabdkegjmaaGreatDoor.C

def upB (c : UInt8) : UInt8 := if 97 ≤ c.toNat ∧ c.toNat ≤ 122 then UInt8.ofNat (c.toNat - 32) else c
def up (s : ByteArray) : ByteArray := ⟨⟨s.data.toList.map upB⟩⟩
def cellB (l : List UInt8) : List Value := l.map fun b => .int .u8 b.toNat
/-- The bytes, the first q in capitals. -/
def upTo (bs : List UInt8) (q : Nat) : List UInt8 := (bs.take q).map upB ++ bs.drop q

theorem cellB_len (l : List UInt8) : (cellB l).length = l.length := by simp [cellB]
theorem upTo_len (bs : List UInt8) (q : Nat) : (upTo bs q).length = bs.length := by simp [upTo]; omega
theorem upTo_all (bs : List UInt8) : upTo bs bs.length = bs.map upB := by simp [upTo]
theorem upTo_zero (bs : List UInt8) : upTo bs 0 = bs := by simp [upTo]
theorem upTo_at {bs : List UInt8} {q : Nat} (hq : q < bs.length) : upTo bs q = (bs.take q).map upB ++ (bs[q] :: bs.drop (q + 1)) := by
  rw [upTo, List.drop_eq_getElem_cons hq]
theorem upTo_succ {bs : List UInt8} {q : Nat} (hq : q < bs.length) : upTo bs (q + 1) = (bs.take q).map upB ++ (upB bs[q] :: bs.drop (q + 1)) := by
  rw [upTo, List.take_succ_eq_append_getElem hq, List.map_append, List.append_assoc]; rfl
theorem take_len {bs : List UInt8} {q : Nat} (hq : q < bs.length) : (cellB ((bs.take q).map upB)).length = q := by simp [cellB]; omega
theorem blk_at {bs : List UInt8} {q : Nat} (hq : q < bs.length) (tail : List Value) : cellB (upTo bs q) ++ tail = cellB ((bs.take q).map upB) ++ ([.int .u8 bs[q].toNat] ++ (cellB (bs.drop (q + 1)) ++ tail)) := by
  rw [upTo_at hq]; simp only [cellB, List.map_append, List.map_cons, List.append_assoc, List.cons_append, List.nil_append]
theorem blk_succ {bs : List UInt8} {q : Nat} (hq : q < bs.length) (tail : List Value) : cellB (upTo bs (q + 1)) ++ tail = cellB ((bs.take q).map upB) ++ ([.int .u8 (upB bs[q]).toNat] ++ (cellB (bs.drop (q + 1)) ++ tail)) := by
  rw [upTo_succ hq]; simp only [cellB, List.map_append, List.map_cons, List.append_assoc, List.cons_append, List.nil_append]
theorem cell_q {h : Heap} {b q : Nat} {bs : List UInt8} {tail : List Value} (hb : BlkW h b (cellB (upTo bs q) ++ tail)) (hq : q < bs.length) : cell h b (0 + q * 1) = some (.int .u8 bs[q].toNat) := by
  rw [Nat.zero_add, Nat.mul_one]
  refine cellW hb ?_
  rw [blk_at hq, List.getElem?_append_right (by rw [take_len hq]; exact Nat.le_refl _), take_len hq]
  simp
theorem put_q {h h' : Heap} {b q : Nat} {bs : List UInt8} {tail : List Value} {z : Int} (hq : q < bs.length) (hz : z = (upB bs[q]).toNat) (hp : PutW h h' b (splice (cellB (upTo bs q) ++ tail) (0 + q * 1) [.int .u8 z])) :
    BlkW h' b (cellB (upTo bs (q + 1)) ++ tail) := by
  have := hp.blk
  rw [Nat.zero_add, Nat.mul_one, blk_at hq] at this
  rw [blk_succ hq, ← hz]
  have e := splice_at (cellB ((bs.take q).map upB)) [.int .u8 bs[q].toNat] (cellB (bs.drop (q + 1)) ++ tail) [.int .u8 z] rfl
  rw [take_len hq] at e
  rwa [e] at this
theorem same_q {bs : List UInt8} {q : Nat} (hq : q < bs.length) (hu : upB bs[q] = bs[q]) : upTo bs (q + 1) = upTo bs q := by
  rw [upTo_succ hq, upTo_at hq, hu]
theorem upB_lo {c : UInt8} (h1 : 97 ≤ (c.toNat : Int)) (h2 : (c.toNat : Int) ≤ 122) : ((upB c).toNat : Int) = c.toNat - 32 := by
  unfold upB
  rw [if_pos ⟨by omega, by omega⟩]
  have : (UInt8.ofNat (c.toNat - 32)).toNat = c.toNat - 32 := by
    rw [UInt8.toNat_ofNat']; omega
  rw [this]; omega
theorem upB_not {c : UInt8} (h : ¬ (97 ≤ (c.toNat : Int) ∧ (c.toNat : Int) ≤ 122)) : upB c = c := by
  unfold upB
  rw [if_neg (fun ⟨a, b⟩ => h ⟨by omega, by omega⟩)]

theorem wrap8 {x : Int} (h0 : 0 ≤ x) (h1 : x < 256) : IntKind.u8.wrap x = x := by
  have e : IntKind.u8.wrap x = x % 256 := by simp [IntKind.wrap, IntKind.bits, IntKind.signed]
  rw [e]; omega

theorem cells_pre {h : Heap} {b : Nat} {l tail : List Value} (hb : BlkW h b (l ++ tail)) : Cells h b 0 l := by
  intro i v hv
  refine cellW hb ?_
  rw [Nat.zero_add, List.getElem?_append_left (List.getElem?_eq_some_iff.1 hv).1]; exact hv

theorem rword_calls {h : Heap} {s : ByteArray} (hs : s.size < 4611686018427387904) : CallsH Tryz.prog 9 [.string s] h (Ret fun r h' => r = .string (up s) ∧ Chg [] h h') := by
  obtain ⟨⟨bs⟩⟩ := s
  have hs : bs.length < 4611686018427387904 := hs
  refine f9_calls (by simp) ?_
  intro c b h1 hc g
  have hc : bs.length ≤ c := hc
  obtain ⟨tail, ht⟩ : ∃ tail, tail = List.replicate (c - bs.length) (Value.int .u8 0) := ⟨_, rfl⟩
  have gb : BlkW h1 b (cellB bs ++ tail) := by rw [ht]; exact g.blk
  refine loop_intro (fun q : Nat => [(3, .slice (some ⟨b, 0, none⟩) bs.length c), (4, .int .i64 q)]) (fun q h' => q ≤ bs.length ∧ BlkW h' b (cellB (upTo bs q) ++ tail) ∧ h'.size = h1.size ∧ ∀ k, k ≠ b → h'[k]? = h1[k]?) (fun q => bs.length - q) 0 ⟨rfl, rfl, trivial⟩ ⟨Nat.zero_le _, by rw [upTo_zero]; exact gb, rfl, fun _ _ => rfl⟩ ?_
  rintro q h2 ⟨hq, hb, hsz, hold⟩
  have next : ∀ {h3 : Heap}, q < bs.length → BlkW h3 b (cellB (upTo bs (q + 1)) ++ tail) → h3.size = h1.size → (∀ k, k ≠ b → h3[k]? = h1[k]?) → q + 1 ≤ bs.length ∧ BlkW h3 b (cellB (upTo bs (q + 1)) ++ tail) ∧ h3.size = h1.size ∧ ∀ k, k ≠ b → h3[k]? = h1[k]? := fun a b c d => ⟨a, b, c, d⟩
  refine And.intro rfl (And.intro (fun hlt => ?_) (fun hge => ?_))
  · have hlt : q < bs.length := by omega
    have cq := cell_q hb hlt
    refine And.intro (by omega) (And.intro (by omega) (Exists.intro _ (And.intro cq (And.intro rfl (And.intro (fun h97 => ?_) (fun hn => ?_))))))
    · refine And.intro (by omega) (And.intro (by omega) (Exists.intro _ (And.intro cq (And.intro rfl (And.intro (fun h122 => ?_) (fun hn => ?_))))))
      · refine And.intro (by omega) (And.intro (by omega) (Exists.intro _ (And.intro cq (And.intro rfl (fun z hz => ?_)))))
        have hz : z = (upB bs[q]).toNat := by
          rw [upB_lo h97 h122, hz]; exact wrap8 (by omega) (by omega)
        refine And.intro (by omega) (And.intro (by omega) (Exists.intro _ (And.intro hb (And.intro ?_ (And.intro rfl (And.intro (Go.Sx.ones1 rfl) fun h3 p => ?_))))))
        · show 0 + q * 1 + 1 ≤ _
          rw [List.length_append, cellB_len, upTo_len]; omega
        · refine And.intro rfl (fun z2 hz2 => ?_)
          have hz2 := add_in hz2 (by omega) (by omega)
          subst hz2
          exact And.intro rfl (Exists.intro (q + 1) (And.intro ⟨rfl, rfl, trivial⟩ (And.intro (next hlt (put_q hlt hz p) (p.size.trans hsz) fun k hk => (p.old k hk).trans (hold k hk)) (by omega))))
      · refine And.intro rfl (fun z2 hz2 => ?_)
        have hz2 := add_in hz2 (by omega) (by omega)
        subst hz2
        exact And.intro rfl (Exists.intro (q + 1) (And.intro ⟨rfl, rfl, trivial⟩ (And.intro (next hlt (by rw [same_q hlt (upB_not fun hh => hn hh.2)]; exact hb) hsz hold) (by omega))))
    · refine And.intro rfl (fun z2 hz2 => ?_)
      have hz2 := add_in hz2 (by omega) (by omega)
      subst hz2
      exact And.intro rfl (Exists.intro (q + 1) (And.intro ⟨rfl, rfl, trivial⟩ (And.intro (next hlt (by rw [same_q hlt (upB_not fun hh => hn hh.1)]; exact hb) hsz hold) (by omega))))
  · have hkl : q = bs.length := by omega
    subst hkl
    rw [upTo_all] at hb
    refine Exists.intro (bs.map upB) (And.intro (by simp) (And.intro (cells_pre hb) (And.intro rfl ?_)))
    refine ⟨by rw [hsz, g.size]; omega, fun k hk _ => ?_⟩
    have := g.id
    rw [hold k (by omega), g.old k hk]

theorem bword_calls {h : Heap} {s : ByteArray} (hs : s.size < 4611686018427387904) : CallsH Tryz.prog 83 [.string s] h (Ret fun r h' => r = .string (up s) ∧ Chg [] h h') := by
  obtain ⟨⟨bs⟩⟩ := s
  have hs : bs.length < 4611686018427387904 := hs
  refine f83_calls (by simp) ?_
  intro c b h1 hc g
  have hc : bs.length ≤ c := hc
  obtain ⟨tail, ht⟩ : ∃ tail, tail = List.replicate (c - bs.length) (Value.int .u8 0) := ⟨_, rfl⟩
  have gb : BlkW h1 b (cellB bs ++ tail) := by rw [ht]; exact g.blk
  refine loop_intro (fun q : Nat => [(3, .slice (some ⟨b, 0, none⟩) bs.length c), (8, .slice (some ⟨b, 0, none⟩) bs.length c), (9, .int .i64 bs.length), (10, .int .i64 q)]) (fun q h' => q ≤ bs.length ∧ BlkW h' b (cellB (upTo bs q) ++ tail) ∧ h'.size = h1.size ∧ ∀ k, k ≠ b → h'[k]? = h1[k]?) (fun q => bs.length - q) 0 ⟨rfl, rfl, rfl, rfl, trivial⟩ ⟨Nat.zero_le _, by rw [upTo_zero]; exact gb, rfl, fun _ _ => rfl⟩ ?_
  rintro q h2 ⟨hq, hb, hsz, hold⟩
  have next : ∀ {h3 : Heap}, q < bs.length → BlkW h3 b (cellB (upTo bs (q + 1)) ++ tail) → h3.size = h1.size → (∀ k, k ≠ b → h3[k]? = h1[k]?) → q + 1 ≤ bs.length ∧ BlkW h3 b (cellB (upTo bs (q + 1)) ++ tail) ∧ h3.size = h1.size ∧ ∀ k, k ≠ b → h3[k]? = h1[k]? := fun a b c d => ⟨a, b, c, d⟩
  refine And.intro rfl (And.intro (fun hlt => ?_) (fun hge => ?_))
  · have hlt : q < bs.length := by omega
    have cq := cell_q hb hlt
    refine And.intro (by omega) (And.intro (by omega) (Exists.intro _ (And.intro cq (And.intro rfl (And.intro (fun h97 => ?_) (fun hn => ?_))))))
    · refine And.intro rfl (And.intro (fun h122 => ?_) (fun hn => ?_))
      · refine And.intro rfl (fun z hz => And.intro rfl (fun z1 hz1 => ?_))
        have hz : z = (bs[q].toNat : Int) - 97 := by rw [hz]; exact wrap8 (by omega) (by omega)
        have hz1 : z1 = (upB bs[q]).toNat := by
          rw [upB_lo h97 h122, hz1, hz]
          have := wrap8 (x := (bs[q].toNat : Int) - 97 + 65) (by omega) (by omega)
          exact this.trans (by omega)
        refine And.intro (by omega) (And.intro (by omega) (Exists.intro _ (And.intro hb (And.intro ?_ (And.intro rfl (And.intro (Go.Sx.ones1 rfl) fun h3 p => ?_))))))
        · show 0 + q * 1 + 1 ≤ _
          rw [List.length_append, cellB_len, upTo_len]; omega
        · refine And.intro rfl (fun z2 hz2 => ?_)
          have hz2 := add_in hz2 (by omega) (by omega)
          subst hz2
          exact And.intro rfl (Exists.intro (q + 1) (And.intro ⟨rfl, rfl, rfl, rfl, trivial⟩ (And.intro (next hlt (put_q hlt hz1 p) (p.size.trans hsz) fun k hk => (p.old k hk).trans (hold k hk)) (by omega))))
      · refine And.intro rfl (fun z2 hz2 => ?_)
        have hz2 := add_in hz2 (by omega) (by omega)
        subst hz2
        exact And.intro rfl (Exists.intro (q + 1) (And.intro ⟨rfl, rfl, rfl, rfl, trivial⟩ (And.intro (next hlt (by rw [same_q hlt (upB_not fun hh => hn hh.2)]; exact hb) hsz hold) (by omega))))
    · refine And.intro rfl (fun z2 hz2 => ?_)
      have hz2 := add_in hz2 (by omega) (by omega)
      subst hz2
      exact And.intro rfl (Exists.intro (q + 1) (And.intro ⟨rfl, rfl, rfl, rfl, trivial⟩ (And.intro (next hlt (by rw [same_q hlt (upB_not fun hh => hn hh.1)]; exact hb) hsz hold) (by omega))))
  · have hkl : q = bs.length := by omega
    subst hkl
    rw [upTo_all] at hb
    refine Exists.intro (bs.map upB) (And.intro (by simp) (And.intro (cells_pre hb) (And.intro rfl ?_)))
    refine ⟨by rw [hsz, g.size]; omega, fun k hk _ => ?_⟩
    have := g.id
    rw [hold k (by omega), g.old k hk]

end Go.Proofs.YtjinlabdkegjmaaGreatDoor
