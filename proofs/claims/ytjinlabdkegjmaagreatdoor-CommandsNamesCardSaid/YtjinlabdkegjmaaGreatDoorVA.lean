/-
  Layer 9: a text in capital letters, by the program.
-/
import Derived.Test.YtjinlabdkegjmaaGreatDoorWA
namespace Go.Proofs.YtjinlabdkegjmaaGreatDoor
open Go Go.Sx Go.Proofs.YtjinlabdkegjmaaGreatDoor.C

theorem lword_calls {h : Heap} {s : ByteArray} (hs : s.size < 4611686018427387904) : CallsH Tryz.prog 25 [.string s] h (Ret fun r h' => r = .string (up s) ∧ Chg [] h h') := by
  obtain ⟨⟨bs⟩⟩ := s
  have hs : bs.length < 4611686018427387904 := hs
  refine f25_calls (by simp) ?_
  intro c b h1 hc g
  have hc : bs.length ≤ c := hc
  obtain ⟨tail, ht⟩ : ∃ tail, tail = List.replicate (c - bs.length) (Value.int .u8 0) := ⟨_, rfl⟩
  have gb : BlkW h1 b (cellB bs ++ tail) := by rw [ht]; exact g.blk
  refine loop_intro (fun q : Nat => [(3, .slice (some ⟨b, 0, none⟩) bs.length c), (8, .slice (some ⟨b, 0, none⟩) bs.length c), (9, .int .i64 bs.length), (10, .int .i64 q)]) (fun q h' => q ≤ bs.length ∧ BlkW h' b (cellB (upTo bs q) ++ tail) ∧ h'.size = h1.size ∧ ∀ k, k ≠ b → h'[k]? = h1[k]?) (fun q => bs.length - q) 0 ⟨rfl, rfl, rfl, rfl, trivial⟩ ⟨Nat.zero_le _, by rw [upTo_zero]; exact gb, rfl, fun _ _ => rfl⟩ ?_
  rintro q h2 ⟨hq, hb, hsz, hold⟩
  have next : ∀ {h3 : Heap}, q < bs.length → BlkW h3 b (cellB (upTo bs (q + 1)) ++ tail) → h3.size = h1.size → (∀ k, k ≠ b → h3[k]? = h1[k]?) → q + 1 ≤ bs.length ∧ BlkW h3 b (cellB (upTo bs (q + 1)) ++ tail) ∧ h3.size = h1.size ∧ ∀ k, k ≠ b → h3[k]? = h1[k]? := fun a b c d => ⟨a, b, c, d⟩
  refine And.intro rfl (And.intro (fun hlt => ?_) (fun hge => ?_))
  · have hlt : q < bs.length := by omega
    have cq := cell_q hb hlt
    refine And.intro (by omega) (And.intro (by omega) (Exists.intro _ (And.intro cq (And.intro rfl (And.intro (fun h97 => ?_) (fun hn => ?_))))))
    · refine And.intro rfl (And.intro (fun h122 => ?_) (fun hn => ?_))
      · refine And.intro rfl (fun z hz => And.intro rfl (fun z1 hz1 => ?_))
        have hz : z = (bs[q].toNat : Int) - 97 := by rw [hz]; exact wrap8 (by omega) (by omega)
        have hz1 : z1 = (upB bs[q]).toNat := by
          rw [upB_lo h97 h122, hz1, hz]
          have := wrap8 (x := (bs[q].toNat : Int) - 97 + 65) (by omega) (by omega)
          exact this.trans (by omega)
        refine And.intro (by omega) (And.intro (by omega) (Exists.intro _ (And.intro hb (And.intro ?_ (And.intro rfl (And.intro (Go.Sx.ones1 rfl) fun h3 p => ?_))))))
        · show 0 + q * 1 + 1 ≤ _
          rw [List.length_append, cellB_len, upTo_len]; omega
        · refine And.intro rfl (fun z2 hz2 => ?_)
          have hz2 := add_in hz2 (by omega) (by omega)
          subst hz2
          exact And.intro rfl (Exists.intro (q + 1) (And.intro ⟨rfl, rfl, rfl, rfl, trivial⟩ (And.intro (next hlt (put_q hlt hz1 p) (p.size.trans hsz) fun k hk => (p.old k hk).trans (hold k hk)) (by omega))))
      · refine And.intro rfl (fun z2 hz2 => ?_)
        have hz2 := add_in hz2 (by omega) (by omega)
        subst hz2
        exact And.intro rfl (Exists.intro (q + 1) (And.intro ⟨rfl, rfl, rfl, rfl, trivial⟩ (And.intro (next hlt (by rw [same_q hlt (upB_not fun hh => hn hh.2)]; exact hb) hsz hold) (by omega))))
    · refine And.intro rfl (fun z2 hz2 => ?_)
      have hz2 := add_in hz2 (by omega) (by omega)
      subst hz2
      exact And.intro rfl (Exists.intro (q + 1) (And.intro ⟨rfl, rfl, rfl, rfl, trivial⟩ (And.intro (next hlt (by rw [same_q hlt (upB_not fun hh => hn hh.1)]; exact hb) hsz hold) (by omega))))
  · have hkl : q = bs.length := by omega
    subst hkl
    rw [upTo_all] at hb
    refine Exists.intro (bs.map upB) (And.intro (by simp) (And.intro (cells_pre hb) (And.intro rfl ?_)))
    refine ⟨by rw [hsz, g.size]; omega, fun k hk _ => ?_⟩
    have := g.id
    rw [hold k (by omega), g.old k hk]

end Go.Proofs.YtjinlabdkegjmaaGreatDoor
