/-
  Layer 7: texts and members in order.
-/
import Derived.Test.YtaffnlibmkcgiaaGreatKB
namespace Go.Proofs.YtaffnlibmkcgiaaGreat
open Go Go.Sx Go.Proofs.YtaffnlibmkcgiaaGreat.C

theorem ba_get (a : ByteArray) (k : Nat) (h : k < a.size) : a[k]? = some (a.data.toList[k]'h) := by
  rw [getElem?_pos a k h]
  rfl

theorem sless_data (a b : ByteArray) : sless a b = Op.bytesLess a.data.toList b.data.toList := by
  unfold sless
  rw [Go.ByteArray.toList_eq, Go.ByteArray.toList_eq]

theorem bl_nil_right : ∀ a : List UInt8, Op.bytesLess a [] = false
  | [] => rfl
  | _ :: _ => rfl
theorem bl_nil_left {b : List UInt8} (h : b ≠ []) : Op.bytesLess [] b = true := by
  cases b with
  | nil => exact absurd rfl h
  | cons => rfl

/-- Less: byte by byte. -/
theorem Less_calls {h : Heap} (a b : ByteArray) (ha : a.size < 4611686018427387904) (hb : b.size < 4611686018427387904) :
    CallsH Tryz.prog 36 [.string a, .string b] h (Ret fun r h' => r = .bool (sless a b) ∧ h' = h) := by
  have la : a.data.toList.length = a.size := rfl
  have lb : b.data.toList.length = b.size := rfl
  refine f36_calls (by simp) ?_
  refine loop_intro (fun k : Nat => [(0, .string a), (1, .string b), (5, .int .i64 k)]) (fun k h' => k ≤ a.size ∧ k ≤ b.size ∧ h' = h ∧ sless a b = Op.bytesLess (a.data.toList.drop k) (b.data.toList.drop k)) (fun k => a.size - k) 0 ⟨rfl, rfl, rfl, trivial⟩ ⟨Nat.zero_le _, Nat.zero_le _, rfl, sless_data a b⟩ ?_
  rintro k h1 ⟨hka, hkb, rfl, hr⟩
  have fin : ¬ (k < a.size ∧ k < b.size) → (a.size < b.size ↔ sless a b = true) := by
    intro hn
    rw [hr]
    by_cases h1 : k < a.size
    · have : k = b.size := by omega
      rw [List.drop_of_length_le (l := b.data.toList) (by omega), bl_nil_right]
      simp; omega
    · rw [List.drop_of_length_le (l := a.data.toList) (by omega)]
      by_cases h2 : k < b.size
      · rw [bl_nil_left (by intro e; have := congrArg List.length e; simp at this; omega)]
        simp; omega
      · rw [List.drop_of_length_le (l := b.data.toList) (by omega)]
        simp [Op.bytesLess]; omega
  have out : ¬ (k < a.size ∧ k < b.size) → ∀ t : Bool, (t = true ↔ a.size < b.size) → retV [Value.bool t] = .bool (sless a b) ∧ h1 = h1 := by
    intro hn t ht
    refine ⟨?_, rfl⟩
    have e : t = sless a b := Bool.eq_iff_iff.2 (ht.trans (fin hn))
    rw [e]; rfl
  refine And.intro rfl (And.intro (fun hlt => ?_) (fun hlt => ?_))
  · refine And.intro rfl (And.intro (fun hlt2 => ?_) (fun hlt2 => ?_))
    · have h1' : k < a.size := by omega
      have h2' : k < b.size := by omega
      have ga := ba_get a k h1'
      have gb := ba_get b k h2'
      have da : a.data.toList.drop k = a.data.toList[k] :: a.data.toList.drop (k + 1) := List.drop_eq_getElem_cons h1'
      have db : b.data.toList.drop k = b.data.toList[k] :: b.data.toList.drop (k + 1) := List.drop_eq_getElem_cons h2'
      rw [da, db] at hr
      refine Exists.intro _ (And.intro (by omega) (And.intro ga ?_))
      refine Exists.intro _ (And.intro (by omega) (And.intro gb ?_))
      refine And.intro rfl (And.intro (fun hne => ?_) (fun heq => ?_))
      · refine Exists.intro _ (And.intro (by omega) (And.intro ga ?_))
        refine Exists.intro _ (And.intro (by omega) (And.intro gb ?_))
        have hne' : a.data.toList[k] ≠ b.data.toList[k] := by intro e; rw [e] at hne; exact hne rfl
        rw [bl_diff hne'] at hr
        refine And.intro rfl (And.intro (fun hl => ?_) (fun hl => ?_))
        · refine And.intro ?_ rfl
          rw [hr, decide_eq_true (by rw [UInt8.lt_iff_toNat_lt]; omega)]; rfl
        · refine And.intro ?_ rfl
          rw [hr, decide_eq_false (by rw [UInt8.lt_iff_toNat_lt]; omega)]; rfl
      · have heq' : a.data.toList[k] = b.data.toList[k] := UInt8.toNat_inj.1 (by omega)
        rw [bl_step heq'] at hr
        refine And.intro rfl (fun y hy => ?_)
        have hy := add_in hy (by omega) (by omega)
        subst hy
        refine And.intro rfl (Exists.intro (k + 1) (And.intro ?_ (And.intro ?_ ?_)))
        · exact ⟨rfl, rfl, rfl, trivial⟩
        · exact ⟨by omega, by omega, rfl, hr⟩
        · omega
    · refine And.intro rfl (And.intro (fun hl => ?_) (fun hl => ?_))
      · exact out (by omega) true (by simp; omega)
      · exact out (by omega) false (by simp; omega)
  · refine And.intro rfl (And.intro (fun hl => ?_) (fun hl => ?_))
    · exact out (by omega) true (by simp; omega)
    · exact out (by omega) false (by simp; omega)

def aheadR (a b : Rank) : Bool := decide (a.score < b.score) || (decide (a.score = b.score) && sless a.name b.name)

theorem Ahead_calls {h : Heap} (a b : Rank) (ha : a.name.size < 4611686018427387904) (hb : b.name.size < 4611686018427387904) :
    CallsH Tryz.prog 37 [.agg ⟨encR a⟩, .agg ⟨encR b⟩] h (Ret fun u h' => u = .bool (aheadR a b) ∧ Chg [] h h') := by
  refine f37_calls (by simp) ?_
  intro b1 h1 g1
  intro b2 h2 g2
  have B1 : Blk h2 b1 (encR a) := (show Blk h1 b1 (encR a) from g1.blk).chg g2.chg (by simp)
  have B2 : Blk h2 b2 (encR b) := g2.blk
  have hc := g1.chg.nil g2.chg
  refine Exists.intro _ (And.intro (cell_blk B1 rfl) (Exists.intro _ (And.intro (cell_blk B2 rfl) ?_)))
  refine And.intro rfl (And.intro (fun hl => ?_) (fun hl => ?_))
  · exact And.intro (by rw [aheadR, decide_eq_true hl]; rfl) hc
  · refine Exists.intro _ (And.intro (cell_blk B1 rfl) (Exists.intro _ (And.intro (cell_blk B2 rfl) ?_)))
    refine And.intro rfl (And.intro (fun he => ?_) (fun he => ?_))
    · refine Exists.intro _ (And.intro (cell_blk B1 rfl) (Exists.intro _ (And.intro (cell_blk B2 rfl) ?_)))
      refine call_ret (Less_calls a.name b.name ha hb) ?_
      rintro _ h3 ⟨rfl, rfl⟩
      exact And.intro (by rw [aheadR, decide_eq_false hl, decide_eq_true he]; rfl) hc
    · exact And.intro (by rw [aheadR, decide_eq_false hl, decide_eq_false he]; rfl) hc

theorem chk1_ord {h : Heap} : OrdP 54 (fun x y => sless x.name y.name) h := by
  intro h' x y _
  refine f54_calls (by simp) ?_
  intro b1 h1 g1
  intro b2 h2 g2
  have B1 : Blk h2 b1 (encP x) := (show Blk h1 b1 (encP x) from g1.blk).chg g2.chg (by simp)
  have B2 : Blk h2 b2 (encP y) := g2.blk
  refine Exists.intro _ (And.intro (cell_blk B1 rfl) (Exists.intro _ (And.intro (cell_blk B2 rfl) ?_)))
  refine call_ret (cmpS_calls x.name y.name) ?_
  rintro _ h3 ⟨rfl, rfl⟩
  exact And.intro (Exists.intro _ (And.intro rfl (cmpB_neg _ _))) (g1.chg.nil g2.chg)

theorem cmpS_ord {h : Heap} : OrdS 55 sless h := by
  intro h' x y _
  exact (cmpS_calls x y).mono fun e h'' he => by
    cases e <;> first | exact he.elim | skip
    obtain ⟨rfl, rfl⟩ := he
    exact And.intro (Exists.intro _ (And.intro rfl (cmpB_neg _ _))) (Chg.refl _)

theorem ahead_ord {h : Heap} : OrdR 58 aheadR h := by
  intro h' x y _
  refine f58_calls (by simp) ?_
  intro b1 h1 g1
  intro b2 h2 g2
  have B1 : Blk h2 b1 (encR x) := (show Blk h1 b1 (encR x) from g1.blk).chg g2.chg (by simp)
  have B2 : Blk h2 b2 (encR y) := g2.blk
  have hc := g1.chg.nil g2.chg
  refine Exists.intro _ (And.intro (cell_blk B1 rfl) (Exists.intro _ (And.intro (cell_blk B2 rfl) ?_)))
  refine And.intro rfl (And.intro (fun hl => ?_) (fun hl => ?_))
  · exact And.intro (Exists.intro (-1) (And.intro rfl (by simp [aheadR, hl]))) hc
  · refine Exists.intro _ (And.intro (cell_blk B1 rfl) (Exists.intro _ (And.intro (cell_blk B2 rfl) ?_)))
    refine And.intro rfl (And.intro (fun hg => ?_) (fun hg => ?_))
    · exact And.intro (Exists.intro 1 (And.intro rfl (by simp [aheadR]; omega))) hc
    · refine Exists.intro _ (And.intro (cell_blk B1 rfl) (Exists.intro _ (And.intro (cell_blk B2 rfl) ?_)))
      refine call_ret (cmpS_calls x.name y.name) ?_
      rintro _ h3 ⟨rfl, rfl⟩
      have e : x.score = y.score := by omega
      exact And.intro (Exists.intro _ (And.intro rfl (by rw [cmpB_neg]; simp [aheadR, e]))) hc

end Go.Proofs.YtaffnlibmkcgiaaGreat
