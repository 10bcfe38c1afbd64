/-
  Layer 7: where an item stands, or must stand (printed by genbs.py).
-/
import Derived.Test.YtigolfakcblnjaaGreatKY
namespace Go.Proofs.YtigolfakcblnjaaGreat
open Go Go.Sx Go.Proofs.YtigolfakcblnjaaGreat.C

theorem compareBytes_zero : ∀ a b : List UInt8, (Lib.compareBytes a b = 0 ↔ a = b)
  | [], [] => by simp [Lib.compareBytes]
  | [], _ :: _ => by simp [Lib.compareBytes]
  | _ :: _, [] => by simp [Lib.compareBytes]
  | x :: a, y :: b => by
    have ih := compareBytes_zero a b
    simp only [Lib.compareBytes, UInt8.lt_iff_toNat_lt]
    by_cases h1 : x.toNat < y.toNat
    · rw [if_pos h1]
      constructor
      · intro h; omega
      · intro h; injection h with h2 _; subst h2; omega
    · rw [if_neg h1]
      by_cases h2 : y.toNat < x.toNat
      · rw [if_pos h2]
        constructor
        · intro h; omega
        · intro h; injection h with h3 _; subst h3; omega
      · rw [if_neg h2, ih]
        have : x = y := UInt8.toNat_inj.1 (by omega)
        constructor
        · intro h; rw [this, h]
        · intro h; injection h

theorem cmpB_zero (a b : ByteArray) : cmpB a b = 0 ↔ a = b := by
  unfold cmpB
  rw [compareBytes_zero]
  constructor
  · intro h
    cases a; cases b; simp_all
  · intro h; rw [h]

theorem wrapU {x : Int} (h0 : 0 ≤ x) (h1 : x < 18446744073709551616) : IntKind.u64.wrap x = x := by
  have e : IntKind.u64.wrap x = x % 18446744073709551616 := by simp [IntKind.wrap, IntKind.bits, IntKind.signed]
  rw [e]; omega

/-- Where the low ones end. -/
structure CutAt {α : Type} (lo : α → Bool) (l : List α) (k : Nat) : Prop where
  le : k ≤ l.length
  low : ∀ i (_ : i < k) (h : i < l.length), lo l[i] = true
  high : ∀ i (_ : k ≤ i) (h : i < l.length), lo l[i] = false

/-- What a function that compares with a target gives. -/
def CmpS (g : Nat) (tgt cap : List Value) (lo eq : ByteArray → Bool) (h : Heap) : Prop := ∀ h' x, Chg [] h h' → CallsH Tryz.prog g (.string x :: (tgt ++ cap)) h' (Ret fun u h'' => (∃ z, u = .int .i64 z ∧ (z < 0 ↔ lo x = true) ∧ (z = 0 ↔ eq x = true)) ∧ Chg [] h' h'')

theorem bsS_calls {h : Heap} {v : Value} {l : List ByteArray} {g : Nat} {cap : List Value} {tgt : ByteArray} {lo eq : ByteArray → Bool} (hv : SL encS h v l) (hl : l.length < 4611686018427387904) (hg : CmpS g [.string tgt] cap lo eq h)
    (hm : ∀ i j (hj : j < l.length) (hi : i ≤ j), lo l[j] = true → lo (l[i]'(by omega)) = true) :
    CallsH Tryz.prog 100 [v, .string tgt, .func (.func g) #[] ⟨cap⟩] h
      (Ret fun r h' => (∃ k, r = .tuple #[.int .i64 (k : Nat), .bool ((l[k]?).any eq)] ∧ CutAt lo l k) ∧ Chg [] h h') := by
  obtain ⟨a, c, rfl, hlc⟩ := hv.form
  refine f100_calls (by simp) ?_
  have hv0 := hv
  have hc0 : Chg [] h h := Chg.refl h
  refine loop_intro (fun p : Nat × Nat => [(0, .slice a l.length c), (1, .string tgt), (2, .func (.func g) #[] ⟨cap⟩), (8, .int .i64 l.length), (9, .int .i64 p.1), (10, .int .i64 p.2)])
    (fun p h' => p.1 ≤ p.2 ∧ p.2 ≤ l.length ∧ Chg [] h h' ∧ (∀ i (_ : i < p.1) (h : i < l.length), lo l[i] = true) ∧ (∀ i (_ : p.2 ≤ i) (h : i < l.length), lo l[i] = false)) (fun p => p.2 - p.1) (0, l.length)
    ⟨rfl, rfl, rfl, rfl, rfl, rfl, trivial⟩ ⟨Nat.zero_le _, Nat.le_refl _, Chg.refl h, by intro i hi; omega, by intro i hi hh; omega⟩ ?_
  rintro ⟨i, j⟩ h1 ⟨hij, hjl, hc, hlow, hhigh⟩
  simp only at hij hjl hlow hhigh
  refine And.intro rfl (And.intro (fun hlt => ?_) (fun hlt => ?_))
  · have hlt : i < j := by omega
    refine And.intro rfl (fun z hz => ?_)
    have hz := add_in hz (by omega) (by omega)
    subst hz
    intro z hz
    rw [wrapU (by omega) (by omega)] at hz
    subst hz
    refine And.intro rfl (fun z hz => ?_)
    have hz : z = ((i : Int) + j) / 2 := by
      have : z = ((i : Int) + j).fdiv (2 ^ 1) := hz
      rw [this, Int.fdiv_eq_ediv_of_nonneg _ (by decide)]
      rfl
    subst hz
    intro z hz
    rw [wrap_in (by omega) (by omega)] at hz
    obtain ⟨m, hm1⟩ : ∃ m : Nat, m = (i + j) / 2 := ⟨_, rfl⟩
    have hz : z = (m : Int) := by omega
    subst hz
    have him : i ≤ m := by omega
    have hmj : m < j := by omega
    have hml : m < l.length := by omega
    have hvx := hv0.ext hc
    obtain ⟨b, o, rfl⟩ := hvx.addr (by omega)
    have hcs := hvx.cells encS_len (i := m) (x := l[m]) (by simp [hml])
    refine And.intro (by omega) (And.intro (by omega) (Exists.intro _ (And.intro (hcs 0 _ rfl) ?_)))
    refine call_ret (hg h1 l[m] (hc0.nil hc)) ?_
    rintro _ h2 ⟨⟨z, rfl, hzn, _⟩, hc2⟩
    refine And.intro rfl (And.intro (fun hneg => ?_) (fun hneg => ?_))
    · have hb : lo l[m] = true := hzn.1 hneg
      refine And.intro rfl (fun y hy => ?_)
      have hy := add_in hy (by omega) (by omega)
      have hy : y = ((m + 1 : Nat) : Int) := by omega
      subst hy
      refine And.intro rfl (Exists.intro (m + 1, j) (And.intro ?_ (And.intro ?_ ?_)))
      · exact ⟨rfl, rfl, rfl, rfl, rfl, rfl, trivial⟩
      · refine ⟨by simp only; omega, hjl, hc.nil hc2, fun q hq hql => ?_, hhigh⟩
        exact hm q m hml (by simp only at hq; omega) hb
      · simp only; omega
    · have hb : lo l[m] = false := by
        cases hbb : lo l[m] with
        | false => rfl
        | true => exact absurd (hzn.2 hbb) hneg
      refine And.intro rfl (Exists.intro (i, m) (And.intro ?_ (And.intro ?_ ?_)))
      · exact ⟨rfl, rfl, rfl, rfl, rfl, rfl, trivial⟩
      · refine ⟨him, by simp only; omega, hc.nil hc2, hlow, fun q hq hql => ?_⟩
        cases hbb : lo l[q] with
        | false => rfl
        | true =>
          have := hm m q hql hq hbb
          rw [hb] at this; cases this
      · simp only; omega
  · have e : i = j := by omega
    subst e
    have cut : CutAt lo l i := ⟨hjl, hlow, hhigh⟩
    refine And.intro rfl (And.intro (fun hin => ?_) (fun hin => ?_))
    · have hin : i < l.length := by omega
      have hvx := hv0.ext hc
      obtain ⟨b, o, rfl⟩ := hvx.addr (by omega)
      have hcs := hvx.cells encS_len (i := i) (x := l[i]) (by simp [hin])
      refine And.intro (by omega) (And.intro (by omega) (Exists.intro _ (And.intro (hcs 0 _ rfl) ?_)))
      refine call_ret (hg h1 l[i] (hc0.nil hc)) ?_
      rintro _ h2 ⟨⟨z, rfl, _, hz0⟩, hc2⟩
      have hget : l[i]? = some l[i] := List.getElem?_eq_getElem hin
      refine And.intro rfl (And.intro (fun he => ?_) (fun he => ?_))
      · refine And.intro (Exists.intro i (And.intro ?_ cut)) ((hc0.nil hc).nil hc2)
        rw [hget]
        show Value.tuple _ = Value.tuple #[_, .bool (eq l[i])]
        rw [hz0.1 he]; rfl
      · refine And.intro (Exists.intro i (And.intro ?_ cut)) ((hc0.nil hc).nil hc2)
        rw [hget]
        show Value.tuple _ = Value.tuple #[_, .bool (eq l[i])]
        have : eq l[i] = false := by
          cases hbb : eq l[i] with
          | false => rfl
          | true => exact absurd (hz0.2 hbb) he
        rw [this]; rfl
    · have hin : i = l.length := by omega
      refine And.intro (Exists.intro i (And.intro ?_ cut)) (hc0.nil hc)
      rw [List.getElem?_eq_none (by omega)]
      rfl

/-- What a function that compares with a target gives. -/
def CmpP (g : Nat) (tgt cap : List Value) (lo eq : Pair → Bool) (h : Heap) : Prop := ∀ h' x, Chg [] h h' → CallsH Tryz.prog g (.agg ⟨encP x⟩ :: (tgt ++ cap)) h' (Ret fun u h'' => (∃ z, u = .int .i64 z ∧ (z < 0 ↔ lo x = true) ∧ (z = 0 ↔ eq x = true)) ∧ Chg [] h' h'')

theorem bsP_calls {h : Heap} {v : Value} {l : List Pair} {g : Nat} {cap : List Value} {tgt : ByteArray} {lo eq : Pair → Bool} (hv : SL encP h v l) (hl : l.length < 4611686018427387904) (hg : CmpP g [.string tgt] cap lo eq h)
    (hm : ∀ i j (hj : j < l.length) (hi : i ≤ j), lo l[j] = true → lo (l[i]'(by omega)) = true) :
    CallsH Tryz.prog 95 [v, .string tgt, .func (.func g) #[] ⟨cap⟩] h
      (Ret fun r h' => (∃ k, r = .tuple #[.int .i64 (k : Nat), .bool ((l[k]?).any eq)] ∧ CutAt lo l k) ∧ Chg [] h h') := by
  obtain ⟨a, c, rfl, hlc⟩ := hv.form
  refine f95_calls (by simp) ?_
  have hv0 := hv
  have hc0 : Chg [] h h := Chg.refl h
  refine loop_intro (fun p : Nat × Nat => [(0, .slice a l.length c), (1, .string tgt), (2, .func (.func g) #[] ⟨cap⟩), (8, .int .i64 l.length), (9, .int .i64 p.1), (10, .int .i64 p.2)])
    (fun p h' => p.1 ≤ p.2 ∧ p.2 ≤ l.length ∧ Chg [] h h' ∧ (∀ i (_ : i < p.1) (h : i < l.length), lo l[i] = true) ∧ (∀ i (_ : p.2 ≤ i) (h : i < l.length), lo l[i] = false)) (fun p => p.2 - p.1) (0, l.length)
    ⟨rfl, rfl, rfl, rfl, rfl, rfl, trivial⟩ ⟨Nat.zero_le _, Nat.le_refl _, Chg.refl h, by intro i hi; omega, by intro i hi hh; omega⟩ ?_
  rintro ⟨i, j⟩ h1 ⟨hij, hjl, hc, hlow, hhigh⟩
  simp only at hij hjl hlow hhigh
  refine And.intro rfl (And.intro (fun hlt => ?_) (fun hlt => ?_))
  · have hlt : i < j := by omega
    refine And.intro rfl (fun z hz => ?_)
    have hz := add_in hz (by omega) (by omega)
    subst hz
    intro z hz
    rw [wrapU (by omega) (by omega)] at hz
    subst hz
    refine And.intro rfl (fun z hz => ?_)
    have hz : z = ((i : Int) + j) / 2 := by
      have : z = ((i : Int) + j).fdiv (2 ^ 1) := hz
      rw [this, Int.fdiv_eq_ediv_of_nonneg _ (by decide)]
      rfl
    subst hz
    intro z hz
    rw [wrap_in (by omega) (by omega)] at hz
    obtain ⟨m, hm1⟩ : ∃ m : Nat, m = (i + j) / 2 := ⟨_, rfl⟩
    have hz : z = (m : Int) := by omega
    subst hz
    have him : i ≤ m := by omega
    have hmj : m < j := by omega
    have hml : m < l.length := by omega
    have hvx := hv0.ext hc
    obtain ⟨b, o, rfl⟩ := hvx.addr (by omega)
    have hcs := hvx.cells encP_len (i := m) (x := l[m]) (by simp [hml])
    refine And.intro (by omega) (And.intro (by omega) (Exists.intro (encP l[m]) (And.intro rfl (And.intro hcs ?_))))
    refine call_ret (hg h1 l[m] (hc0.nil hc)) ?_
    rintro _ h2 ⟨⟨z, rfl, hzn, _⟩, hc2⟩
    refine And.intro rfl (And.intro (fun hneg => ?_) (fun hneg => ?_))
    · have hb : lo l[m] = true := hzn.1 hneg
      refine And.intro rfl (fun y hy => ?_)
      have hy := add_in hy (by omega) (by omega)
      have hy : y = ((m + 1 : Nat) : Int) := by omega
      subst hy
      refine And.intro rfl (Exists.intro (m + 1, j) (And.intro ?_ (And.intro ?_ ?_)))
      · exact ⟨rfl, rfl, rfl, rfl, rfl, rfl, trivial⟩
      · refine ⟨by simp only; omega, hjl, hc.nil hc2, fun q hq hql => ?_, hhigh⟩
        exact hm q m hml (by simp only at hq; omega) hb
      · simp only; omega
    · have hb : lo l[m] = false := by
        cases hbb : lo l[m] with
        | false => rfl
        | true => exact absurd (hzn.2 hbb) hneg
      refine And.intro rfl (Exists.intro (i, m) (And.intro ?_ (And.intro ?_ ?_)))
      · exact ⟨rfl, rfl, rfl, rfl, rfl, rfl, trivial⟩
      · refine ⟨him, by simp only; omega, hc.nil hc2, hlow, fun q hq hql => ?_⟩
        cases hbb : lo l[q] with
        | false => rfl
        | true =>
          have := hm m q hql hq hbb
          rw [hb] at this; cases this
      · simp only; omega
  · have e : i = j := by omega
    subst e
    have cut : CutAt lo l i := ⟨hjl, hlow, hhigh⟩
    refine And.intro rfl (And.intro (fun hin => ?_) (fun hin => ?_))
    · have hin : i < l.length := by omega
      have hvx := hv0.ext hc
      obtain ⟨b, o, rfl⟩ := hvx.addr (by omega)
      have hcs := hvx.cells encP_len (i := i) (x := l[i]) (by simp [hin])
      refine And.intro (by omega) (And.intro (by omega) (Exists.intro (encP l[i]) (And.intro rfl (And.intro hcs ?_))))
      refine call_ret (hg h1 l[i] (hc0.nil hc)) ?_
      rintro _ h2 ⟨⟨z, rfl, _, hz0⟩, hc2⟩
      have hget : l[i]? = some l[i] := List.getElem?_eq_getElem hin
      refine And.intro rfl (And.intro (fun he => ?_) (fun he => ?_))
      · refine And.intro (Exists.intro i (And.intro ?_ cut)) ((hc0.nil hc).nil hc2)
        rw [hget]
        show Value.tuple _ = Value.tuple #[_, .bool (eq l[i])]
        rw [hz0.1 he]; rfl
      · refine And.intro (Exists.intro i (And.intro ?_ cut)) ((hc0.nil hc).nil hc2)
        rw [hget]
        show Value.tuple _ = Value.tuple #[_, .bool (eq l[i])]
        have : eq l[i] = false := by
          cases hbb : eq l[i] with
          | false => rfl
          | true => exact absurd (hz0.2 hbb) he
        rw [this]; rfl
    · have hin : i = l.length := by omega
      refine And.intro (Exists.intro i (And.intro ?_ cut)) (hc0.nil hc)
      rw [List.getElem?_eq_none (by omega)]
      rfl

/-- What a function that compares with a target gives. -/
def CmpR (g : Nat) (tgt cap : List Value) (lo : Rank → Bool) (h : Heap) : Prop := ∀ h' x, Chg [] h h' → CallsH Tryz.prog g (.agg ⟨encR x⟩ :: (tgt ++ cap)) h' (Ret fun u h'' => (∃ z, u = .int .i64 z ∧ (z < 0 ↔ lo x = true)) ∧ Chg [] h' h'')

theorem bsR_calls {h : Heap} {v : Value} {l : List Rank} {g : Nat} {cap : List Value} {tgt : Rank} {lo : Rank → Bool} (hv : SL encR h v l) (hl : l.length < 4611686018427387904) (hg : CmpR g [.agg ⟨encR tgt⟩] cap lo h)
    (hm : ∀ i j (hj : j < l.length) (hi : i ≤ j), lo l[j] = true → lo (l[i]'(by omega)) = true) :
    CallsH Tryz.prog 79 [v, .agg ⟨encR tgt⟩, .func (.func g) #[] ⟨cap⟩] h
      (Ret fun r h' => (∃ k f, r = .tuple #[.int .i64 (k : Nat), .bool f] ∧ CutAt lo l k) ∧ Chg [] h h') := by
  obtain ⟨a, c, rfl, hlc⟩ := hv.form
  refine f79_calls (by simp) ?_
  intro b4 h0 g0
  have hc0 := g0.chg
  have hv0 := hv.ext hc0
  have B4 : Blk h0 b4 (encR tgt) := g0.blk
  refine loop_intro (fun p : Nat × Nat => [(0, .slice a l.length c), (4, .pointer (some ⟨b4, 0, none⟩)), (2, .func (.func g) #[] ⟨cap⟩), (8, .int .i64 l.length), (9, .int .i64 p.1), (10, .int .i64 p.2)])
    (fun p h' => p.1 ≤ p.2 ∧ p.2 ≤ l.length ∧ Chg [] h0 h' ∧ (∀ i (_ : i < p.1) (h : i < l.length), lo l[i] = true) ∧ (∀ i (_ : p.2 ≤ i) (h : i < l.length), lo l[i] = false)) (fun p => p.2 - p.1) (0, l.length)
    ⟨rfl, rfl, rfl, rfl, rfl, rfl, trivial⟩ ⟨Nat.zero_le _, Nat.le_refl _, Chg.refl h0, by intro i hi; omega, by intro i hi hh; omega⟩ ?_
  rintro ⟨i, j⟩ h1 ⟨hij, hjl, hc, hlow, hhigh⟩
  simp only at hij hjl hlow hhigh
  refine And.intro rfl (And.intro (fun hlt => ?_) (fun hlt => ?_))
  · have hlt : i < j := by omega
    refine And.intro rfl (fun z hz => ?_)
    have hz := add_in hz (by omega) (by omega)
    subst hz
    intro z hz
    rw [wrapU (by omega) (by omega)] at hz
    subst hz
    refine And.intro rfl (fun z hz => ?_)
    have hz : z = ((i : Int) + j) / 2 := by
      have : z = ((i : Int) + j).fdiv (2 ^ 1) := hz
      rw [this, Int.fdiv_eq_ediv_of_nonneg _ (by decide)]
      rfl
    subst hz
    intro z hz
    rw [wrap_in (by omega) (by omega)] at hz
    obtain ⟨m, hm1⟩ : ∃ m : Nat, m = (i + j) / 2 := ⟨_, rfl⟩
    have hz : z = (m : Int) := by omega
    subst hz
    have him : i ≤ m := by omega
    have hmj : m < j := by omega
    have hml : m < l.length := by omega
    have hvx := hv0.ext hc
    obtain ⟨b, o, rfl⟩ := hvx.addr (by omega)
    have hcs := hvx.cells encR_len (i := m) (x := l[m]) (by simp [hml])
    refine And.intro (by omega) (And.intro (by omega) (Exists.intro (encR l[m]) (And.intro rfl (And.intro hcs ?_))))
    refine Exists.intro (encR tgt) (And.intro rfl (And.intro (cells_blk (B4.chg hc (by simp))) ?_))
    refine call_ret (hg h1 l[m] (hc0.nil hc)) ?_
    rintro _ h2 ⟨⟨z, rfl, hzn⟩, hc2⟩
    refine And.intro rfl (And.intro (fun hneg => ?_) (fun hneg => ?_))
    · have hb : lo l[m] = true := hzn.1 hneg
      refine And.intro rfl (fun y hy => ?_)
      have hy := add_in hy (by omega) (by omega)
      have hy : y = ((m + 1 : Nat) : Int) := by omega
      subst hy
      refine And.intro rfl (Exists.intro (m + 1, j) (And.intro ?_ (And.intro ?_ ?_)))
      · exact ⟨rfl, rfl, rfl, rfl, rfl, rfl, trivial⟩
      · refine ⟨by simp only; omega, hjl, hc.nil hc2, fun q hq hql => ?_, hhigh⟩
        exact hm q m hml (by simp only at hq; omega) hb
      · simp only; omega
    · have hb : lo l[m] = false := by
        cases hbb : lo l[m] with
        | false => rfl
        | true => exact absurd (hzn.2 hbb) hneg
      refine And.intro rfl (Exists.intro (i, m) (And.intro ?_ (And.intro ?_ ?_)))
      · exact ⟨rfl, rfl, rfl, rfl, rfl, rfl, trivial⟩
      · refine ⟨him, by simp only; omega, hc.nil hc2, hlow, fun q hq hql => ?_⟩
        cases hbb : lo l[q] with
        | false => rfl
        | true =>
          have := hm m q hql hq hbb
          rw [hb] at this; cases this
      · simp only; omega
  · have e : i = j := by omega
    subst e
    have cut : CutAt lo l i := ⟨hjl, hlow, hhigh⟩
    refine And.intro rfl (And.intro (fun hin => ?_) (fun hin => ?_))
    · have hin : i < l.length := by omega
      have hvx := hv0.ext hc
      obtain ⟨b, o, rfl⟩ := hvx.addr (by omega)
      have hcs := hvx.cells encR_len (i := i) (x := l[i]) (by simp [hin])
      refine And.intro (by omega) (And.intro (by omega) (Exists.intro (encR l[i]) (And.intro rfl (And.intro hcs ?_))))
      refine Exists.intro (encR tgt) (And.intro rfl (And.intro (cells_blk (B4.chg hc (by simp))) ?_))
      refine call_ret (hg h1 l[i] (hc0.nil hc)) ?_
      rintro _ h2 ⟨⟨z, rfl, _⟩, hc2⟩
      refine And.intro rfl (And.intro (fun he => ?_) (fun he => ?_))
      · exact And.intro (Exists.intro i (Exists.intro true (And.intro rfl cut))) ((hc0.nil hc).nil hc2)
      · exact And.intro (Exists.intro i (Exists.intro false (And.intro rfl cut))) ((hc0.nil hc).nil hc2)
    · have hin : i = l.length := by omega
      exact And.intro (Exists.intro i (Exists.intro false (And.intro rfl cut))) (hc0.nil hc)

theorem itself_calls {h : Heap} (s : ByteArray) : CallsH Tryz.prog 77 [.string s] h (Ret fun u h' => u = .string s ∧ h' = h) := by
  refine f77_calls (by simp) ?_
  exact And.intro rfl rfl

theorem pairName_calls {h : Heap} (p : Pair) : CallsH Tryz.prog 71 [.agg ⟨encP p⟩] h (Ret fun u h' => u = .string p.name ∧ Chg [] h h') := by
  refine f71_calls (by simp) ?_
  intro b1 h1 g1
  have B1 : Blk h1 b1 (encP p) := g1.blk
  refine Exists.intro _ (And.intro (cell_blk B1 rfl) ?_)
  exact And.intro rfl g1.chg

theorem rising_lt {α : Type} {lt : α → α → Bool} (htr : ∀ a b c, lt a b = true → lt b c = true → lt a c = true) : ∀ {l : List α}, rising lt l = true → l.Pairwise fun a b => lt a b = true
  | [], _ => List.Pairwise.nil
  | [x], _ => List.pairwise_singleton _ _
  | x :: y :: l, h => by
    simp only [rising, Bool.and_eq_true] at h
    have ih := rising_lt htr h.2
    refine List.Pairwise.cons (fun z hz => ?_) ih
    rcases List.mem_cons.1 hz with rfl | hz
    · exact h.1
    · exact htr _ _ _ h.1 (List.rel_of_pairwise_cons ih hz)

theorem rising_of {α : Type} {lt : α → α → Bool} : ∀ {l : List α}, l.Pairwise (fun a b => lt a b = true) → rising lt l = true
  | [], _ => rfl
  | [x], _ => rfl
  | x :: y :: l, h => by
    simp only [rising, Bool.and_eq_true]
    exact ⟨List.rel_of_pairwise_cons h (by simp), rising_of (List.pairwise_cons.1 h).2⟩

theorem bynS_calls {h : Heap} {v : Value} {l : List ByteArray} (name : ByteArray) (hv : SL encS h v l) (hl : l.length < 4611686018427387904) (hs : l.Pairwise fun a b => sless a b = true) :
    CallsH Tryz.prog 76 [v, .func (.func 77) #[] #[], .string name] h
      (Ret fun r h' => (∃ k, r = .tuple #[.int .i64 (k : Nat), .bool ((l[k]?).any fun x => decide (x = name))] ∧ CutAt (fun x => sless x name) l k) ∧ Chg [] h h') := by
  refine f76_calls (by simp) ?_
  intro b4 h1 g1
  have B4 : Blk h1 b4 [.func (.func 77) #[] #[]] := g1.blk
  refine call_ret (bsS_calls (g := 101) (cap := [ptr b4]) (lo := fun x => sless x name) (eq := fun x => decide (x = name)) (hv.ext g1.chg) hl ?_ ?_) ?_
  · intro h2 x hc2
    refine f101_calls (by simp) ?_
    refine Exists.intro _ (And.intro (cell_blk (B4.chg hc2 (by simp)) rfl) ?_)
    refine call_ret (itself_calls x) ?_
    rintro _ h3 ⟨rfl, rfl⟩
    refine call_ret (cmpS_calls x name) ?_
    rintro _ h4 ⟨rfl, rfl⟩
    exact And.intro (Exists.intro _ (And.intro rfl (And.intro (cmpB_neg _ _) (by rw [cmpB_zero]; simp)))) (Chg.refl _)
  · intro i j hj hi hlo
    rcases Nat.lt_or_eq_of_le hi with hlt | rfl
    · exact sless_trans (List.pairwise_iff_getElem.1 hs i j (by omega) hj hlt) hlo
    · exact hlo
  · rintro _ h2 ⟨⟨k, rfl, hk⟩, hc2⟩
    exact And.intro (Exists.intro k (And.intro rfl hk)) (g1.chg.nil hc2)

theorem bynP_calls {h : Heap} {v : Value} {l : List Pair} (name : ByteArray) (hv : SL encP h v l) (hl : l.length < 4611686018427387904) (hs : l.Pairwise fun a b => sless a.name b.name = true) :
    CallsH Tryz.prog 70 [v, .func (.func 71) #[] #[], .string name] h
      (Ret fun r h' => (∃ k, r = .tuple #[.int .i64 (k : Nat), .bool ((l[k]?).any fun x => decide (x.name = name))] ∧ CutAt (fun x => sless x.name name) l k) ∧ Chg [] h h') := by
  refine f70_calls (by simp) ?_
  intro b4 h1 g1
  have B4 : Blk h1 b4 [.func (.func 71) #[] #[]] := g1.blk
  refine call_ret (bsP_calls (g := 96) (cap := [ptr b4]) (lo := fun x => sless x.name name) (eq := fun x => decide (x.name = name)) (hv.ext g1.chg) hl ?_ ?_) ?_
  · intro h2 x hc2
    refine f96_calls (by simp) ?_
    intro b3 h3 g3
    have B3 : Blk h3 b3 (encP x) := g3.blk
    have B43 := (B4.chg hc2 (by simp)).chg g3.chg (by simp)
    refine Exists.intro _ (And.intro (cell_blk B43 rfl) ?_)
    refine Exists.intro (encP x) (And.intro rfl (And.intro (cells_blk B3) ?_))
    refine call_ret (pairName_calls x) ?_
    rintro _ h4 ⟨rfl, hc4⟩
    refine call_ret (cmpS_calls x.name name) ?_
    rintro _ h5 ⟨rfl, rfl⟩
    exact And.intro (Exists.intro _ (And.intro rfl (And.intro (cmpB_neg _ _) (by rw [cmpB_zero]; simp)))) (g3.chg.nil hc4)
  · intro i j hj hi hlo
    rcases Nat.lt_or_eq_of_le hi with hlt | rfl
    · exact sless_trans (List.pairwise_iff_getElem.1 hs i j (by omega) hj hlt) hlo
    · exact hlo
  · rintro _ h2 ⟨⟨k, rfl, hk⟩, hc2⟩
    exact And.intro (Exists.intro k (And.intro rfl hk)) (g1.chg.nil hc2)

theorem ixfR_calls {h : Heap} {v : Value} {l : List Rank} {g : Nat} {cap : List Value} {p : Rank → Bool} (hv : SL encR h v l) (hl : l.length < 4611686018427387904)
    (hg : ∀ h' x, Chg [] h h' → CallsH Tryz.prog g (.agg ⟨encR x⟩ :: cap) h' (Ret fun u h'' => u = .bool (p x) ∧ Chg [] h' h'')) :
    CallsH Tryz.prog 81 [v, .func (.func g) #[] ⟨cap⟩] h
      (Ret fun r h' => ((∃ (k : Nat) (hk : k < l.length), r = .int .i64 k ∧ p l[k] = true) ∨ (r = .int .i64 (-1) ∧ ∀ x ∈ l, p x = false)) ∧ Chg [] h h') := by
  obtain ⟨a, c, rfl, hlc⟩ := hv.form
  refine f81_calls (by simp) ?_
  refine loop_intro (fun k : Nat => [(0, .slice a l.length c), (1, .func (.func g) #[] ⟨cap⟩), (7, .int .i64 l.length), (8, .int .i64 k)]) (fun k h' => k ≤ l.length ∧ Chg [] h h' ∧ ∀ x ∈ l.take k, p x = false) (fun k => l.length - k) 0
    ⟨rfl, rfl, rfl, rfl, trivial⟩ ⟨Nat.zero_le _, Chg.refl h, by simp⟩ ?_
  rintro k h1 ⟨hk, hc, hall⟩
  refine And.intro rfl (And.intro (fun hlt => ?_) (fun hlt => ?_))
  · have hlt : k < l.length := by omega
    have hv1 := hv.ext hc
    obtain ⟨b, o, rfl⟩ := hv1.addr (by omega)
    have hcs := hv1.cells encR_len (i := k) (x := l[k]) (by simp [hlt])
    refine And.intro (by omega) (And.intro (by omega) (Exists.intro (encR l[k]) (And.intro rfl (And.intro hcs ?_))))
    refine call_ret (hg h1 l[k] hc) ?_
    rintro _ h2 ⟨rfl, hc2⟩
    cases hp : p l[k] with
    | true => exact And.intro (.inl ⟨k, hlt, rfl, hp⟩) (hc.nil hc2)
    | false =>
      refine And.intro rfl (fun y hy => ?_)
      have hy := add_in hy (by omega) (by omega)
      subst hy
      refine And.intro rfl (Exists.intro (k + 1) (And.intro ?_ (And.intro ?_ ?_)))
      · exact ⟨rfl, rfl, rfl, rfl, trivial⟩
      · refine ⟨by omega, hc.nil hc2, fun x hx => ?_⟩
        rw [take_snoc l k hlt] at hx
        rcases List.mem_append.1 hx with hx | hx
        · exact hall x hx
        · simp at hx; rw [hx]; exact hp
      · omega
  · have hkl : k = l.length := by omega
    subst hkl
    rw [List.take_length] at hall
    exact And.intro (.inr ⟨rfl, hall⟩) hc

end Go.Proofs.YtigolfakcblnjaaGreat
