/-
  Small ones: less, TrailingZeros, none.
-/
import Derived.Test.YtlghcmdaijfdlaaDoorRkC
namespace Go.Proofs.YtlghcmdaijfdlaaDoor
open Go Go.Sx Go.Proofs.YtlghcmdaijfdlaaDoor.C

theorem less_calls {h : Heap} (x : Rank) :
    CallsH Tryd.prog 32 [.agg ⟨encR x⟩] h (Ret fun u h' => ∃ b, u = .func (.func 42) #[] #[ptr b] ∧ h.size ≤ b ∧ Blk h' b (encR x) ∧ Chg [] h h') := by
  refine f32_calls (by simp) ?_
  intro b h1 g1
  exact ⟨b, rfl, by rw [g1.id]; exact Nat.le_refl _, g1.blk, g1.chg⟩

theorem less1_calls {h : Heap} {b : Nat} {x : Rank} (B : Blk h b (encR x)) (y : Rank) (v : Value) :
    CallsH Tryd.prog 42 [.agg ⟨encR y⟩, v, ptr b] h (Ret fun u h' => u = .bool (ahead y x) ∧ Chg [] h h') := by
  refine f42_calls (by simp) ?_
  intro b1 h1 g1
  have B1 : Blk h1 b1 (encR y) := g1.blk
  have B2 : Blk h1 b (encR x) := B.chg g1.chg (by simp)
  have hc := g1.chg
  refine Exists.intro _ (And.intro (cell_blk B1 rfl) (Exists.intro _ (And.intro (cell_blk B2 rfl) ?_)))
  refine And.intro rfl (And.intro (fun ht => ?_) (fun ht => ?_))
  · have e : ahead y x = true := by simp [ahead, ht]
    refine And.intro ?_ hc
    rw [e]; rfl
  · refine Exists.intro _ (And.intro (cell_blk B1 rfl) (Exists.intro _ (And.intro (cell_blk B2 rfl) ?_)))
    refine And.intro rfl (And.intro (fun he => ?_) (fun he => ?_))
    · refine Exists.intro _ (And.intro (cell_blk B1 rfl) (Exists.intro _ (And.intro (cell_blk B2 rfl) ?_)))
      refine And.intro (fun hl => ?_) (fun hl => ?_)
      · have e : ahead y x = true := by simp [ahead, he, hl]
        exact And.intro (by rw [e]; rfl) hc
      · have e : ahead y x = false := by simp [ahead, he, hl]
        exact And.intro (by rw [e]; rfl) hc
    · have e : ahead y x = false := by simp [ahead, ht, he]
      exact And.intro (by rw [e]; rfl) hc

def recs (N : List Nd) : List Rank := N.tail.map Nd.r

/-- What less asks of members in order. -/
theorem less_ask {h : Heap} {b : Nat} {x : Rank} (B : Blk h b (encR x)) {N : List Nd} (hs : Sorted (recs N)) : AskP #[] #[ptr b] 42 h N (upto x (recs N) + 1) := by
  intro h' k a hc hk hpos
  obtain ⟨j, rfl⟩ : ∃ j, k = j + 1 := ⟨k - 1, by omega⟩
  have hj : (recs N)[j]? = some a.r := by
    cases N with
    | nil => simp at hk
    | cons y N => simp at hk; simp [recs, hk]
  obtain ⟨hlt, he⟩ := List.getElem?_eq_some_iff.1 hj
  have hiff := upto_iff (x := x) hs j hlt
  rw [he] at hiff
  refine Ret.mono (less1_calls (B.chg hc (by simp)) a.r _) ?_
  rintro _ h'' ⟨rfl, hc'⟩
  refine ⟨?_, hc'⟩
  congr 1
  rw [Bool.eq_iff_iff, hiff]
  simp

/-! ### TrailingZeros -/
def TabH (h : Heap) : Prop := ∀ i < 64, ∃ v : Int, 0 ≤ v ∧ v ≤ 255 ∧ cell h 1 i = some (.int .u8 v)

theorem wrap_u64 (x : Int) : 0 ≤ IntKind.u64.wrap x ∧ IntKind.u64.wrap x < 18446744073709551616 := by
  have e : IntKind.u64.wrap x = x % 18446744073709551616 := by
    simp [IntKind.wrap, IntKind.bits, IntKind.signed]
  rw [e]; omega

theorem and_one {a z : Int} (hz : z = bitw .and .i64 a 1) : 0 ≤ z ∧ z ≤ 1 := by
  have hb : ((BitVec.ofInt IntKind.i64.bits a) &&& (BitVec.ofInt IntKind.i64.bits 1)).toNat ≤ 1 := by
    rw [BitVec.toNat_and]
    exact Nat.le_trans Nat.and_le_right (by decide)
  have : z = IntKind.i64.wrap (((BitVec.ofInt IntKind.i64.bits a) &&& (BitVec.ofInt IntKind.i64.bits 1)).toNat : Nat) := hz
  rw [wrap_in (by omega) (by omega)] at this
  omega

theorem tz64_calls {h : Heap} (ht : TabH h) (v : Int) :
    CallsH Tryd.prog 45 [.int .u64 v] h (Ret fun u h' => (∃ z : Int, u = .int .i64 z ∧ 0 ≤ z ∧ z ≤ 255) ∧ h' = h) := by
  refine f45_calls (by simp) ?_
  refine And.intro rfl (And.intro (fun he => ?_) (fun he => ?_))
  · exact ⟨⟨64, rfl, by decide, by decide⟩, rfl⟩
  · intro n hn
    refine And.intro rfl (fun b hb => ?_)
    refine And.intro rfl (fun m hm => ?_)
    refine And.intro rfl (fun s hs => ?_)
    have hm2 : 0 ≤ m ∧ m < 18446744073709551616 := by rw [hm]; exact wrap_u64 _
    have hs2 : s = m / 288230376151711744 := by
      have : s = m.fdiv (2 ^ 58) := hs
      rw [this, Int.fdiv_eq_ediv_of_nonneg _ (by decide)]; rfl
    have h0 : 0 ≤ s := by omega
    have h1 : s < 64 := by omega
    obtain ⟨v, v0, v1, hv⟩ := ht s.toNat (by omega)
    have e : 0 + s.toNat * 1 = s.toNat := by omega
    refine And.intro h0 (And.intro h1 (Exists.intro _ (And.intro (by rw [e]; exact hv) ?_)))
    intro z hz
    rw [wrap_in (by omega) (by omega)] at hz
    exact ⟨⟨z, rfl, by omega, by omega⟩, rfl⟩

theorem tz_calls {h : Heap} (ht : TabH h) (v : Int) :
    CallsH Tryd.prog 41 [.int .u64 v] h (Ret fun u h' => (∃ z : Int, u = .int .i64 z ∧ 0 ≤ z ∧ z ≤ 255) ∧ h' = h) := by
  refine f41_calls (by simp) ?_
  refine call_ret (tz64_calls ht v) ?_
  rintro _ h' ⟨⟨z, rfl, h0, h1⟩, rfl⟩
  exact ⟨⟨z, rfl, h0, h1⟩, rfl⟩

theorem none_calls {h : Heap} {rb hb : Nat} {m : Value} (hr : Blk h rb [ptr hb, m]) :
    CallsH Tryd.prog 30 [ptr rb] h (Ret fun u h' => u = .bool false ∧ h' = h) := by
  refine f30_calls (by simp) ?_
  refine Exists.intro _ (And.intro (cell_blk hr rfl) ?_)
  exact ⟨rfl, rfl⟩

end Go.Proofs.YtlghcmdaijfdlaaDoor
