/-
  Layer 7: texts and members compared.
  Layer 7: lists compared, lists that rise (printed by gen.py).
  Layer 7: texts and members in order.
  Layer 7: things; two the same (printed by gend.py).
  Layer 7: how many items, how long their texts.
  Layer 7: each name once; what is large.
  Layer 7: may a thing be? As the program asks.
  Layer 7: may a thing be? As the document asks; and that the two ask the same.
  Layer 7: may a thing be? The document's loops.
  Layer 7: may a thing be? The document's answer, whole.
  Layer 7: copies; a keyspace (printed by genk.py).
  Layer 7: the rules; a text that is put.
  Layer 7: what stands under a key.
  Layer 7: known.
-/
import Derived.Test.YtigolfakcblnjaaGreatDoorSxW
import Derived.Test.YtigolfakcblnjaaGreatDoorCode
import Derived.WalkKit
import Derived.Laws.Externs
namespace Go.Proofs.YtigolfakcblnjaaGreatDoor
open Go Go.Sx Go.Proofs.YtigolfakcblnjaaGreatDoor.C

set_option maxRecDepth 100000 in
theorem cmpStr_calls {h : Heap} (a b : ByteArray) : CallsH Tryz.prog 146 [.string a, .string b] h (Ret fun u h' => u = .int .i64 (cmpB a b) ∧ h' = h) := by
  refine ⟨by kernel_rfl, fun w hw => ?_⟩
  have key : Calls Tryz.prog 146 #[.string a, .string b] w fun e w' => e = .returned (.int .i64 (Lib.compareBytes a.data.toList b.data.toList)) ∧ w' = w := by
    go_enter Tryz.func146, Tryz.ntmps146
    go_wp2
    rw [run_callFunc_extern Tryz.func193 (by kernel_rfl) (by kernel_rfl) (by kernel_rfl) (e := Extern.BytealgCompare.compare) (by kernel_rfl), Lib.run_compareString]
    simp only [Result.andThen]
    rw [Oper.upon_value]
    go_wp2
    all_goals go_ret
    all_goals exact ⟨rfl, rfl⟩
  refine key.mono ?_
  rintro e w' ⟨rfl, rfl⟩
  exact ⟨⟨rfl, hw⟩, by simp, rfl, rfl, rfl⟩

theorem cmpS_calls {h : Heap} (a b : ByteArray) : CallsH Tryz.prog 94 [.string a, .string b] h (Ret fun u h' => u = .int .i64 (cmpB a b) ∧ h' = h) := by
  refine f94_calls (by simp) ?_
  refine call_ret (cmpStr_calls a b) ?_
  rintro _ h1 ⟨rfl, rfl⟩
  exact ⟨rfl, rfl⟩

end Go.Proofs.YtigolfakcblnjaaGreatDoor
namespace Go.Proofs.YtigolfakcblnjaaGreatDoor
open Go Go.Sx Go.Proofs.YtigolfakcblnjaaGreatDoor.C

structure Pair where
  name : ByteArray
  text : ByteArray
  deriving DecidableEq
structure Rank where
  name : ByteArray
  score : Int
  deriving DecidableEq

def encP (p : Pair) : List Value := [.string p.name, .string p.text]
def encR (r : Rank) : List Value := [.string r.name, .int .i64 r.score]
def encS (s : ByteArray) : List Value := [.string s]
theorem encP_len (p : Pair) : (encP p).length = 2 := rfl
theorem encR_len (p : Rank) : (encR p).length = 2 := rfl
theorem encS_len (p : ByteArray) : (encS p).length = 1 := rfl
theorem encP_one (r : Pair) : ∀ u ∈ encP r, u.oneCell' = true := by
  intro u hu
  simp [encP] at hu
  rcases hu with rfl | rfl <;> rfl
theorem encR_one (r : Rank) : ∀ u ∈ encR r, u.oneCell' = true := by
  intro u hu
  simp [encR] at hu
  rcases hu with rfl | rfl <;> rfl
theorem encS_one (r : ByteArray) : ∀ u ∈ encS r, u.oneCell' = true := by
  intro u hu
  simp [encS] at hu
  rw [hu]; rfl
theorem take_snoc {α : Type} (l : List α) (k : Nat) (h : k < l.length) : l.take (k + 1) = l.take k ++ [l[k]] := by
  rw [List.take_succ_eq_append_getElem h]

/-- Does each stand behind the one ahead of it? -/
def rising {α : Type} (lt : α → α → Bool) : List α → Bool
  | x :: y :: l => lt x y && rising lt (y :: l)
  | _ => true

theorem rising_short {α : Type} {lt : α → α → Bool} : ∀ {l : List α}, l.length ≤ 1 → rising lt l = true
  | [], _ => rfl
  | [_], _ => rfl
  | _ :: _ :: _, h => by simp at h

theorem drop_two {α : Type} {l : List α} {k : Nat} (h1 : 1 ≤ k) (h : k < l.length) : l.drop (k - 1) = l[k - 1] :: l[k] :: l.drop (k + 1) := by
  rw [List.drop_eq_getElem_cons (show k - 1 < l.length by omega)]
  have e : k - 1 + 1 = k := by omega
  rw [e, List.drop_eq_getElem_cons h]

/-- What a function that compares gives. -/
def OrdP (g : Nat) (lt : Pair → Pair → Bool) (h : Heap) : Prop := ∀ h' x y, Chg [] h h' → CallsH Tryz.prog g [.agg ⟨encP x⟩, .agg ⟨encP y⟩] h' (Ret fun u h'' => (∃ z, u = .int .i64 z ∧ (z < 0 ↔ lt x y = true)) ∧ Chg [] h' h'')

theorem risP_calls {h : Heap} {v : Value} {l : List Pair} {g : Nat} {lt : Pair → Pair → Bool} (hv : SL encP h v l) (hl : l.length < 4611686018427387904) (hg : OrdP g lt h) :
    CallsH Tryz.prog 92 [v, .func (.func g) #[] #[]] h (Ret fun r h' => r = .bool (rising lt l) ∧ Chg [] h h') := by
  obtain ⟨a, c, rfl, hlc⟩ := hv.form
  refine f92_calls (by simp) ?_
  refine loop_intro (fun k : Nat => [(0, .slice a l.length c), (1, .func (.func g) #[] #[]), (5, .int .i64 k)]) (fun k h' => 1 ≤ k ∧ k ≤ l.length + 1 ∧ Chg [] h h' ∧ rising lt l = rising lt (l.drop (k - 1))) (fun k => l.length + 1 - k) 1 ⟨rfl, rfl, rfl, trivial⟩ ⟨Nat.le_refl _, by omega, Chg.refl h, rfl⟩ ?_
  rintro k h1 ⟨hk1, hk, hc, hr⟩
  refine And.intro rfl (And.intro (fun hlt => ?_) (fun hlt => ?_))
  · have hlt : k < l.length := by omega
    have hv1 := hv.ext hc
    obtain ⟨b, o, rfl⟩ := hv.addr (by omega)
    have hcs := hv1.cells encP_len (i := k - 1) (x := l[k - 1]) (by simp)
    have hds := hv1.cells encP_len (i := k) (x := l[k]) (by simp [hlt])
    refine And.intro rfl (fun z hz => ?_)
    have hz := sub_in hz (by omega) (by omega)
    have hz : z = ((k - 1 : Nat) : Int) := by omega
    subst hz
    refine And.intro (by omega) (And.intro (by omega) (Exists.intro (encP l[k - 1]) (And.intro rfl (And.intro hcs ?_))))
    refine And.intro (by omega) (And.intro (by omega) (Exists.intro (encP l[k]) (And.intro rfl (And.intro hds ?_))))
    refine call_ret (hg h1 l[k - 1] l[k] hc) ?_
    rintro _ h2 ⟨⟨z, rfl, hzn⟩, hc2⟩
    rw [drop_two hk1 hlt, rising] at hr
    have e1 : l[k] :: l.drop (k + 1) = l.drop k := by rw [List.drop_eq_getElem_cons hlt]
    rw [e1] at hr
    refine And.intro rfl (And.intro (fun hge => ?_) (fun hge => ?_))
    · refine And.intro ?_ (hc.nil hc2)
      have : lt l[k - 1] l[k] = false := by
        cases hb : lt l[k - 1] l[k] with
        | false => rfl
        | true => have := hzn.2 hb; omega
      rw [hr, this]; rfl
    · have hb : lt l[k - 1] l[k] = true := hzn.1 (by omega)
      rw [hb, Bool.true_and] at hr
      refine And.intro rfl (fun y hy => ?_)
      have hy := add_in hy (by omega) (by omega)
      subst hy
      refine And.intro rfl (Exists.intro (k + 1) (And.intro ?_ (And.intro ?_ ?_)))
      · exact ⟨rfl, rfl, rfl, trivial⟩
      · exact ⟨by omega, by omega, hc.nil hc2, by rw [Nat.add_sub_cancel]; exact hr⟩
      · omega
  · refine And.intro ?_ hc
    rw [hr, rising_short (by simp; omega)]; rfl

/-- What a function that compares gives. -/
def OrdS (g : Nat) (lt : ByteArray → ByteArray → Bool) (h : Heap) : Prop := ∀ h' x y, Chg [] h h' → CallsH Tryz.prog g [.string x, .string y] h' (Ret fun u h'' => (∃ z, u = .int .i64 z ∧ (z < 0 ↔ lt x y = true)) ∧ Chg [] h' h'')

theorem risS_calls {h : Heap} {v : Value} {l : List ByteArray} {g : Nat} {lt : ByteArray → ByteArray → Bool} (hv : SL encS h v l) (hl : l.length < 4611686018427387904) (hg : OrdS g lt h) :
    CallsH Tryz.prog 95 [v, .func (.func g) #[] #[]] h (Ret fun r h' => r = .bool (rising lt l) ∧ Chg [] h h') := by
  obtain ⟨a, c, rfl, hlc⟩ := hv.form
  refine f95_calls (by simp) ?_
  refine loop_intro (fun k : Nat => [(0, .slice a l.length c), (1, .func (.func g) #[] #[]), (5, .int .i64 k)]) (fun k h' => 1 ≤ k ∧ k ≤ l.length + 1 ∧ Chg [] h h' ∧ rising lt l = rising lt (l.drop (k - 1))) (fun k => l.length + 1 - k) 1 ⟨rfl, rfl, rfl, trivial⟩ ⟨Nat.le_refl _, by omega, Chg.refl h, rfl⟩ ?_
  rintro k h1 ⟨hk1, hk, hc, hr⟩
  refine And.intro rfl (And.intro (fun hlt => ?_) (fun hlt => ?_))
  · have hlt : k < l.length := by omega
    have hv1 := hv.ext hc
    obtain ⟨b, o, rfl⟩ := hv.addr (by omega)
    have hcs := hv1.cells encS_len (i := k - 1) (x := l[k - 1]) (by simp)
    have hds := hv1.cells encS_len (i := k) (x := l[k]) (by simp [hlt])
    refine And.intro rfl (fun z hz => ?_)
    have hz := sub_in hz (by omega) (by omega)
    have hz : z = ((k - 1 : Nat) : Int) := by omega
    subst hz
    refine And.intro (by omega) (And.intro (by omega) (Exists.intro _ (And.intro (hcs 0 _ rfl) ?_)))
    refine And.intro (by omega) (And.intro (by omega) (Exists.intro _ (And.intro (hds 0 _ rfl) ?_)))
    refine call_ret (hg h1 l[k - 1] l[k] hc) ?_
    rintro _ h2 ⟨⟨z, rfl, hzn⟩, hc2⟩
    rw [drop_two hk1 hlt, rising] at hr
    have e1 : l[k] :: l.drop (k + 1) = l.drop k := by rw [List.drop_eq_getElem_cons hlt]
    rw [e1] at hr
    refine And.intro rfl (And.intro (fun hge => ?_) (fun hge => ?_))
    · refine And.intro ?_ (hc.nil hc2)
      have : lt l[k - 1] l[k] = false := by
        cases hb : lt l[k - 1] l[k] with
        | false => rfl
        | true => have := hzn.2 hb; omega
      rw [hr, this]; rfl
    · have hb : lt l[k - 1] l[k] = true := hzn.1 (by omega)
      rw [hb, Bool.true_and] at hr
      refine And.intro rfl (fun y hy => ?_)
      have hy := add_in hy (by omega) (by omega)
      subst hy
      refine And.intro rfl (Exists.intro (k + 1) (And.intro ?_ (And.intro ?_ ?_)))
      · exact ⟨rfl, rfl, rfl, trivial⟩
      · exact ⟨by omega, by omega, hc.nil hc2, by rw [Nat.add_sub_cancel]; exact hr⟩
      · omega
  · refine And.intro ?_ hc
    rw [hr, rising_short (by simp; omega)]; rfl

/-- What a function that compares gives. -/
def OrdR (g : Nat) (lt : Rank → Rank → Bool) (h : Heap) : Prop := ∀ h' x y, Chg [] h h' → CallsH Tryz.prog g [.agg ⟨encR x⟩, .agg ⟨encR y⟩] h' (Ret fun u h'' => (∃ z, u = .int .i64 z ∧ (z < 0 ↔ lt x y = true)) ∧ Chg [] h' h'')

theorem risR_calls {h : Heap} {v : Value} {l : List Rank} {g : Nat} {lt : Rank → Rank → Bool} (hv : SL encR h v l) (hl : l.length < 4611686018427387904) (hg : OrdR g lt h) :
    CallsH Tryz.prog 96 [v, .func (.func g) #[] #[]] h (Ret fun r h' => r = .bool (rising lt l) ∧ Chg [] h h') := by
  obtain ⟨a, c, rfl, hlc⟩ := hv.form
  refine f96_calls (by simp) ?_
  refine loop_intro (fun k : Nat => [(0, .slice a l.length c), (1, .func (.func g) #[] #[]), (5, .int .i64 k)]) (fun k h' => 1 ≤ k ∧ k ≤ l.length + 1 ∧ Chg [] h h' ∧ rising lt l = rising lt (l.drop (k - 1))) (fun k => l.length + 1 - k) 1 ⟨rfl, rfl, rfl, trivial⟩ ⟨Nat.le_refl _, by omega, Chg.refl h, rfl⟩ ?_
  rintro k h1 ⟨hk1, hk, hc, hr⟩
  refine And.intro rfl (And.intro (fun hlt => ?_) (fun hlt => ?_))
  · have hlt : k < l.length := by omega
    have hv1 := hv.ext hc
    obtain ⟨b, o, rfl⟩ := hv.addr (by omega)
    have hcs := hv1.cells encR_len (i := k - 1) (x := l[k - 1]) (by simp)
    have hds := hv1.cells encR_len (i := k) (x := l[k]) (by simp [hlt])
    refine And.intro rfl (fun z hz => ?_)
    have hz := sub_in hz (by omega) (by omega)
    have hz : z = ((k - 1 : Nat) : Int) := by omega
    subst hz
    refine And.intro (by omega) (And.intro (by omega) (Exists.intro (encR l[k - 1]) (And.intro rfl (And.intro hcs ?_))))
    refine And.intro (by omega) (And.intro (by omega) (Exists.intro (encR l[k]) (And.intro rfl (And.intro hds ?_))))
    refine call_ret (hg h1 l[k - 1] l[k] hc) ?_
    rintro _ h2 ⟨⟨z, rfl, hzn⟩, hc2⟩
    rw [drop_two hk1 hlt, rising] at hr
    have e1 : l[k] :: l.drop (k + 1) = l.drop k := by rw [List.drop_eq_getElem_cons hlt]
    rw [e1] at hr
    refine And.intro rfl (And.intro (fun hge => ?_) (fun hge => ?_))
    · refine And.intro ?_ (hc.nil hc2)
      have : lt l[k - 1] l[k] = false := by
        cases hb : lt l[k - 1] l[k] with
        | false => rfl
        | true => have := hzn.2 hb; omega
      rw [hr, this]; rfl
    · have hb : lt l[k - 1] l[k] = true := hzn.1 (by omega)
      rw [hb, Bool.true_and] at hr
      refine And.intro rfl (fun y hy => ?_)
      have hy := add_in hy (by omega) (by omega)
      subst hy
      refine And.intro rfl (Exists.intro (k + 1) (And.intro ?_ (And.intro ?_ ?_)))
      · exact ⟨rfl, rfl, rfl, trivial⟩
      · exact ⟨by omega, by omega, hc.nil hc2, by rw [Nat.add_sub_cancel]; exact hr⟩
      · omega
  · refine And.intro ?_ hc
    rw [hr, rising_short (by simp; omega)]; rfl

end Go.Proofs.YtigolfakcblnjaaGreatDoor
namespace Go.Proofs.YtigolfakcblnjaaGreatDoor
open Go Go.Sx Go.Proofs.YtigolfakcblnjaaGreatDoor.C

theorem ba_get (a : ByteArray) (k : Nat) (h : k < a.size) : a[k]? = some (a.data.toList[k]'h) := by
  rw [getElem?_pos a k h]
  rfl

theorem sless_data (a b : ByteArray) : sless a b = Op.bytesLess a.data.toList b.data.toList := by
  unfold sless
  rw [Go.ByteArray.toList_eq, Go.ByteArray.toList_eq]

theorem bl_nil_right : ∀ a : List UInt8, Op.bytesLess a [] = false
  | [] => rfl
  | _ :: _ => rfl
theorem bl_nil_left {b : List UInt8} (h : b ≠ []) : Op.bytesLess [] b = true := by
  cases b with
  | nil => exact absurd rfl h
  | cons => rfl

/-- Less: byte by byte. -/
theorem Less_calls {h : Heap} (a b : ByteArray) (ha : a.size < 4611686018427387904) (hb : b.size < 4611686018427387904) :
    CallsH Tryz.prog 51 [.string a, .string b] h (Ret fun r h' => r = .bool (sless a b) ∧ h' = h) := by
  have la : a.data.toList.length = a.size := rfl
  have lb : b.data.toList.length = b.size := rfl
  refine f51_calls (by simp) ?_
  refine loop_intro (fun k : Nat => [(0, .string a), (1, .string b), (5, .int .i64 k)]) (fun k h' => k ≤ a.size ∧ k ≤ b.size ∧ h' = h ∧ sless a b = Op.bytesLess (a.data.toList.drop k) (b.data.toList.drop k)) (fun k => a.size - k) 0 ⟨rfl, rfl, rfl, trivial⟩ ⟨Nat.zero_le _, Nat.zero_le _, rfl, sless_data a b⟩ ?_
  rintro k h1 ⟨hka, hkb, rfl, hr⟩
  have fin : ¬ (k < a.size ∧ k < b.size) → (a.size < b.size ↔ sless a b = true) := by
    intro hn
    rw [hr]
    by_cases h1 : k < a.size
    · have : k = b.size := by omega
      rw [List.drop_of_length_le (l := b.data.toList) (by omega), bl_nil_right]
      simp; omega
    · rw [List.drop_of_length_le (l := a.data.toList) (by omega)]
      by_cases h2 : k < b.size
      · rw [bl_nil_left (by intro e; have := congrArg List.length e; simp at this; omega)]
        simp; omega
      · rw [List.drop_of_length_le (l := b.data.toList) (by omega)]
        simp [Op.bytesLess]; omega
  have out : ¬ (k < a.size ∧ k < b.size) → ∀ t : Bool, (t = true ↔ a.size < b.size) → retV [Value.bool t] = .bool (sless a b) ∧ h1 = h1 := by
    intro hn t ht
    refine ⟨?_, rfl⟩
    have e : t = sless a b := Bool.eq_iff_iff.2 (ht.trans (fin hn))
    rw [e]; rfl
  refine And.intro rfl (And.intro (fun hlt => ?_) (fun hlt => ?_))
  · refine And.intro rfl (And.intro (fun hlt2 => ?_) (fun hlt2 => ?_))
    · have h1' : k < a.size := by omega
      have h2' : k < b.size := by omega
      have ga := ba_get a k h1'
      have gb := ba_get b k h2'
      have da : a.data.toList.drop k = a.data.toList[k] :: a.data.toList.drop (k + 1) := List.drop_eq_getElem_cons h1'
      have db : b.data.toList.drop k = b.data.toList[k] :: b.data.toList.drop (k + 1) := List.drop_eq_getElem_cons h2'
      rw [da, db] at hr
      refine Exists.intro _ (And.intro (by omega) (And.intro ga ?_))
      refine Exists.intro _ (And.intro (by omega) (And.intro gb ?_))
      refine And.intro rfl (And.intro (fun hne => ?_) (fun heq => ?_))
      · refine Exists.intro _ (And.intro (by omega) (And.intro ga ?_))
        refine Exists.intro _ (And.intro (by omega) (And.intro gb ?_))
        have hne' : a.data.toList[k] ≠ b.data.toList[k] := by intro e; rw [e] at hne; exact hne rfl
        rw [bl_diff hne'] at hr
        refine And.intro rfl (And.intro (fun hl => ?_) (fun hl => ?_))
        · refine And.intro ?_ rfl
          rw [hr, decide_eq_true (by rw [UInt8.lt_iff_toNat_lt]; omega)]; rfl
        · refine And.intro ?_ rfl
          rw [hr, decide_eq_false (by rw [UInt8.lt_iff_toNat_lt]; omega)]; rfl
      · have heq' : a.data.toList[k] = b.data.toList[k] := UInt8.toNat_inj.1 (by omega)
        rw [bl_step heq'] at hr
        refine And.intro rfl (fun y hy => ?_)
        have hy := add_in hy (by omega) (by omega)
        subst hy
        refine And.intro rfl (Exists.intro (k + 1) (And.intro ?_ (And.intro ?_ ?_)))
        · exact ⟨rfl, rfl, rfl, trivial⟩
        · exact ⟨by omega, by omega, rfl, hr⟩
        · omega
    · refine And.intro rfl (And.intro (fun hl => ?_) (fun hl => ?_))
      · exact out (by omega) true (by simp; omega)
      · exact out (by omega) false (by simp; omega)
  · refine And.intro rfl (And.intro (fun hl => ?_) (fun hl => ?_))
    · exact out (by omega) true (by simp; omega)
    · exact out (by omega) false (by simp; omega)

def aheadR (a b : Rank) : Bool := decide (a.score < b.score) || (decide (a.score = b.score) && sless a.name b.name)

theorem Ahead_calls {h : Heap} (a b : Rank) (ha : a.name.size < 4611686018427387904) (hb : b.name.size < 4611686018427387904) :
    CallsH Tryz.prog 102 [.agg ⟨encR a⟩, .agg ⟨encR b⟩] h (Ret fun u h' => u = .bool (aheadR a b) ∧ Chg [] h h') := by
  refine f102_calls (by simp) ?_
  intro b1 h1 g1
  intro b2 h2 g2
  have B1 : Blk h2 b1 (encR a) := (show Blk h1 b1 (encR a) from g1.blk).chg g2.chg (by simp)
  have B2 : Blk h2 b2 (encR b) := g2.blk
  have hc := g1.chg.nil g2.chg
  refine Exists.intro _ (And.intro (cell_blk B1 rfl) (Exists.intro _ (And.intro (cell_blk B2 rfl) ?_)))
  refine And.intro rfl (And.intro (fun hl => ?_) (fun hl => ?_))
  · exact And.intro (by rw [aheadR, decide_eq_true hl]; rfl) hc
  · refine Exists.intro _ (And.intro (cell_blk B1 rfl) (Exists.intro _ (And.intro (cell_blk B2 rfl) ?_)))
    refine And.intro rfl (And.intro (fun he => ?_) (fun he => ?_))
    · refine Exists.intro _ (And.intro (cell_blk B1 rfl) (Exists.intro _ (And.intro (cell_blk B2 rfl) ?_)))
      refine call_ret (Less_calls a.name b.name ha hb) ?_
      rintro _ h3 ⟨rfl, rfl⟩
      exact And.intro (by rw [aheadR, decide_eq_false hl, decide_eq_true he]; rfl) hc
    · exact And.intro (by rw [aheadR, decide_eq_false hl, decide_eq_false he]; rfl) hc

theorem chk1_ord {h : Heap} : OrdP 93 (fun x y => sless x.name y.name) h := by
  intro h' x y _
  refine f93_calls (by simp) ?_
  intro b1 h1 g1
  intro b2 h2 g2
  have B1 : Blk h2 b1 (encP x) := (show Blk h1 b1 (encP x) from g1.blk).chg g2.chg (by simp)
  have B2 : Blk h2 b2 (encP y) := g2.blk
  refine Exists.intro _ (And.intro (cell_blk B1 rfl) (Exists.intro _ (And.intro (cell_blk B2 rfl) ?_)))
  refine call_ret (cmpS_calls x.name y.name) ?_
  rintro _ h3 ⟨rfl, rfl⟩
  exact And.intro (Exists.intro _ (And.intro rfl (cmpB_neg _ _))) (g1.chg.nil g2.chg)

theorem cmpS_ord {h : Heap} : OrdS 94 sless h := by
  intro h' x y _
  exact (cmpS_calls x y).mono fun e h'' he => by
    cases e <;> first | exact he.elim | skip
    obtain ⟨rfl, rfl⟩ := he
    exact And.intro (Exists.intro _ (And.intro rfl (cmpB_neg _ _))) (Chg.refl _)

theorem ahead_ord {h : Heap} : OrdR 97 aheadR h := by
  intro h' x y _
  refine f97_calls (by simp) ?_
  intro b1 h1 g1
  intro b2 h2 g2
  have B1 : Blk h2 b1 (encR x) := (show Blk h1 b1 (encR x) from g1.blk).chg g2.chg (by simp)
  have B2 : Blk h2 b2 (encR y) := g2.blk
  have hc := g1.chg.nil g2.chg
  refine Exists.intro _ (And.intro (cell_blk B1 rfl) (Exists.intro _ (And.intro (cell_blk B2 rfl) ?_)))
  refine And.intro rfl (And.intro (fun hl => ?_) (fun hl => ?_))
  · exact And.intro (Exists.intro (-1) (And.intro rfl (by simp [aheadR, hl]))) hc
  · refine Exists.intro _ (And.intro (cell_blk B1 rfl) (Exists.intro _ (And.intro (cell_blk B2 rfl) ?_)))
    refine And.intro rfl (And.intro (fun hg => ?_) (fun hg => ?_))
    · exact And.intro (Exists.intro 1 (And.intro rfl (by simp [aheadR]; omega))) hc
    · refine Exists.intro _ (And.intro (cell_blk B1 rfl) (Exists.intro _ (And.intro (cell_blk B2 rfl) ?_)))
      refine call_ret (cmpS_calls x.name y.name) ?_
      rintro _ h3 ⟨rfl, rfl⟩
      have e : x.score = y.score := by omega
      exact And.intro (Exists.intro _ (And.intro rfl (by rw [cmpB_neg]; simp [aheadR, e]))) hc

end Go.Proofs.YtigolfakcblnjaaGreatDoor
namespace Go.Proofs.YtigolfakcblnjaaGreatDoor
open Go Go.Sx Go.Proofs.YtigolfakcblnjaaGreatDoor.C

structure Thing where
  kind : Int
  text : ByteArray
  pairs : List Pair
  list : List ByteArray
  ranks : List Rank
  hasU : Bool
  unt : Int
  deriving DecidableEq

/-- A thing's cells. -/
def TH (h : Heap) (vs : List Value) (t : Thing) : Prop :=
  ∃ pv lv rv, vs = [.int .i64 t.kind, .string t.text, pv, lv, rv, .bool t.hasU, .int .i64 t.unt] ∧ SL encP h pv t.pairs ∧ SL encS h lv t.list ∧ SL encR h rv t.ranks

theorem TH.ext {h h' : Heap} {vs : List Value} {t : Thing} (x : TH h vs t) (hc : Chg [] h h') : TH h' vs t := by
  obtain ⟨pv, lv, rv, h1, h2, h3, h4⟩ := x
  exact ⟨pv, lv, rv, h1, h2.ext hc, h3.ext hc, h4.ext hc⟩

theorem TH.len {h : Heap} {vs : List Value} {t : Thing} (x : TH h vs t) : vs.length = 7 := by
  obtain ⟨pv, lv, rv, rfl, _⟩ := x; rfl

/-- Its lists are no longer than may be counted. -/
structure Fits (t : Thing) : Prop where
  p : t.pairs.length < 4611686018427387904
  l : t.list.length < 4611686018427387904
  r : t.ranks.length < 4611686018427387904

end Go.Proofs.YtigolfakcblnjaaGreatDoor
namespace Go.Proofs.YtigolfakcblnjaaGreatDoor
open Go Go.Sx Go.Proofs.YtigolfakcblnjaaGreatDoor.C

structure Lens (t : Thing) : Prop where
  p : t.pairs.length ≤ 70000
  l : t.list.length ≤ 70000
  r : t.ranks.length ≤ 70000

theorem Lens.fits {t : Thing} (x : Lens t) : Fits t := ⟨by have := x.p; omega, by have := x.l; omega, by have := x.r; omega⟩

def countT (t : Thing) : Nat := t.pairs.length + t.list.length + t.ranks.length

theorem count_calls {h : Heap} {vs : List Value} {t : Thing} (x : TH h vs t) (n : Lens t) :
    CallsH Tryz.prog 89 [.agg ⟨vs⟩] h (Ret fun r h' => r = .int .i64 (countT t) ∧ Chg [] h h') := by
  have np := n.p; have nl := n.l; have nr := n.r
  refine f89_calls (by simp) ?_
  intro b1 h1 g1
  have B1 : Blk h1 b1 vs := g1.blk
  obtain ⟨pv, lv, rv, rfl, hp, hl, hr⟩ := x
  obtain ⟨pa, pc, rfl, _⟩ := hp.form
  obtain ⟨la, lc, rfl, _⟩ := hl.form
  obtain ⟨ra, rc, rfl, _⟩ := hr.form
  refine Exists.intro _ (And.intro (cell_blk B1 rfl) (Exists.intro _ (And.intro (cell_blk B1 rfl) ?_)))
  refine And.intro rfl (fun z hz => ?_)
  have hz := add_in hz (by omega) (by omega)
  refine Exists.intro _ (And.intro (cell_blk B1 rfl) ?_)
  refine And.intro rfl (fun y hy => ?_)
  have hy := add_in hy (by omega) (by omega)
  refine And.intro ?_ g1.chg
  have : y = (countT t : Int) := by unfold countT; omega
  rw [this]; rfl

theorem short1_calls {h : Heap} (s : ByteArray) : CallsH Tryz.prog 145 [.string s] h (Ret fun r h' => r = .bool (decide (1048576 < s.size)) ∧ h' = h) := by
  refine f145_calls (by simp) ?_
  refine And.intro rfl (And.intro (fun hl => ?_) (fun hl => ?_))
  · exact And.intro (by rw [decide_eq_true (by omega)]; rfl) rfl
  · exact And.intro (by rw [decide_eq_false (by omega)]; rfl) rfl

theorem idxF_calls {h : Heap} {v : Value} {l : List ByteArray} (hv : SL encS h v l) (hl : l.length < 4611686018427387904) :
    CallsH Tryz.prog 192 [v, .func (.func 145) #[] #[]] h (Ret fun r h' => (∃ z, r = .int .i64 z ∧ (z < 0 ↔ ∀ s ∈ l, s.size ≤ 1048576)) ∧ h' = h) := by
  obtain ⟨a, c, rfl, hlc⟩ := hv.form
  refine f192_calls (by simp) ?_
  refine loop_intro (fun k : Nat => [(0, .slice a l.length c), (1, .func (.func 145) #[] #[]), (7, .int .i64 l.length), (8, .int .i64 k)]) (fun k h' => k ≤ l.length ∧ h' = h ∧ ∀ s ∈ l.take k, s.size ≤ 1048576) (fun k => l.length - k) 0 ⟨rfl, rfl, rfl, rfl, trivial⟩ ⟨Nat.zero_le _, rfl, by simp⟩ ?_
  rintro k h' ⟨hk, rfl, ht⟩
  refine And.intro rfl (And.intro (fun hlt => ?_) (fun hlt => ?_))
  · have hlt : k < l.length := by omega
    obtain ⟨b, o, rfl⟩ := hv.addr (by omega)
    have hcs := hv.cells encS_len (i := k) (x := l[k]) (by simp [hlt])
    refine And.intro (by omega) (And.intro (by omega) (Exists.intro _ (And.intro (hcs 0 _ rfl) ?_)))
    refine call_ret (short1_calls l[k]) ?_
    rintro r _ ⟨hr, rfl⟩
    by_cases hs : 1048576 < l[k].size
    · rw [decide_eq_true hs] at hr
      subst hr
      refine And.intro (Exists.intro k (And.intro rfl ?_)) rfl
      constructor
      · intro h; omega
      · intro h; have := h l[k] (List.getElem_mem hlt); omega
    · rw [decide_eq_false hs] at hr
      subst hr
      refine And.intro rfl (fun z hz => ?_)
      have hz := add_in hz (by omega) (by omega)
      subst hz
      refine And.intro rfl (Exists.intro (k + 1) (And.intro ?_ (And.intro ?_ ?_)))
      · exact ⟨rfl, rfl, rfl, rfl, trivial⟩
      · refine ⟨by omega, rfl, fun s hs' => ?_⟩
        rw [take_snoc l k hlt] at hs'
        rcases List.mem_append.1 hs' with hs' | hs'
        · exact ht s hs'
        · have : s = l[k] := by simpa using hs'
          rw [this]; omega
      · omega
  · have hkl : k = l.length := by omega
    rw [hkl, List.take_length] at ht
    exact And.intro (Exists.intro (-1) (And.intro rfl ⟨fun _ => ht, fun _ => by decide⟩)) rfl

def shortL (l : List ByteArray) : Bool := l.all fun s => decide (s.size ≤ 1048576)
theorem shortL_iff {l : List ByteArray} : shortL l = true ↔ ∀ s ∈ l, s.size ≤ 1048576 := by simp [shortL]

theorem conF_calls {h : Heap} {v : Value} {l : List ByteArray} (hv : SL encS h v l) (hl : l.length < 4611686018427387904) :
    CallsH Tryz.prog 144 [v, .func (.func 145) #[] #[]] h (Ret fun r h' => r = .bool (!shortL l) ∧ h' = h) := by
  refine f144_calls (by simp) ?_
  refine call_ret (idxF_calls hv hl) ?_
  rintro _ _ ⟨⟨z, rfl, hz⟩, rfl⟩
  rw [← shortL_iff] at hz
  refine And.intro rfl (And.intro (fun hg => ?_) (fun hg => ?_))
  · have : shortL l = false := by
      cases hs : shortL l with
      | false => rfl
      | true => have := hz.2 hs; omega
    exact And.intro (by rw [this]; rfl) rfl
  · exact And.intro (by rw [hz.1 (by omega)]; rfl) rfl

theorem short_calls {h : Heap} {v : Value} {l : List ByteArray} (hv : SL encS h v l) (hl : l.length < 4611686018427387904) :
    CallsH Tryz.prog 90 [v] h (Ret fun r h' => r = .bool (shortL l) ∧ h' = h) := by
  refine f90_calls (by simp) ?_
  refine call_ret (conF_calls hv hl) ?_
  rintro _ _ ⟨rfl, rfl⟩
  exact And.intro (by cases shortL l <;> rfl) rfl

/-! ### Names -/
def namesT (t : Thing) : List ByteArray := t.pairs.flatMap (fun p => [p.name, p.text]) ++ t.ranks.map Rank.name

theorem names_calls {h : Heap} {vs : List Value} {t : Thing} (x : TH h vs t) (n : Lens t) :
    CallsH Tryz.prog 91 [.agg ⟨vs⟩] h (Ret fun r h' => OL encS 1 h' r (namesT t) ∧ Chg [] h h') := by
  have np := n.p; have nr := n.r
  refine f91_calls (by simp) ?_
  intro b1 h1 g1
  have B1 : Blk h1 b1 vs := g1.blk
  have hc1 := g1.chg
  obtain ⟨pv, lv, rv, rfl, hp, hl, hr⟩ := x.ext hc1
  obtain ⟨pa, pc, rfl, _⟩ := hp.form
  obtain ⟨ra, rc, rfl, _⟩ := hr.form
  refine Exists.intro _ (And.intro (cell_blk B1 rfl) ?_)
  have fl : ∀ k, ((t.pairs.take k).flatMap fun p => [p.name, p.text]).length ≤ 2 * k := by
    intro k
    induction k with
    | zero => simp
    | succ k ih =>
      by_cases hk : k < t.pairs.length
      · rw [take_snoc t.pairs k hk, List.flatMap_append]; simp at ih ⊢; omega
      · rw [List.take_of_length_le (by omega)] at ih ⊢; omega
  refine loop_intro (fun i : Nat × Value => [(1, .pointer (some ⟨b1, 0, none⟩)), (3, i.2), (9, .slice pa t.pairs.length pc), (10, .int .i64 t.pairs.length), (11, .int .i64 i.1)])
    (fun i h' => i.1 ≤ t.pairs.length ∧ Chg [] h1 h' ∧ OL encS 1 h' i.2 ((t.pairs.take i.1).flatMap fun p => [p.name, p.text]) ∧ ∀ b ∈ vblk i.2, h1.size ≤ b) (fun i => t.pairs.length - i.1) (0, .slice none 0 0) ⟨rfl, rfl, rfl, rfl, rfl, trivial⟩
    ⟨Nat.zero_le _, Chg.refl _, OL.nil, by simp [vblk, ablk]⟩ ?_
  rintro ⟨k, ov⟩ h2 ⟨hk, hc2, ho, hob⟩
  simp only at hk ho hob
  refine And.intro rfl (And.intro (fun hlt => ?_) (fun hlt => ?_))
  · have hkk : k < t.pairs.length := by omega
    obtain ⟨b, o, rfl⟩ := hp.addr (by omega)
    have hcs := (hp.ext hc2).cells encP_len (i := k) (x := t.pairs[k]) (by simp [hkk])
    obtain ⟨oa, oc, rfl, _⟩ := ho.sl.form
    refine And.intro (by omega) (And.intro (by omega) (Exists.intro (encP t.pairs[k]) (And.intro rfl (And.intro hcs ?_))))
    intro b3 h3 g3
    refine Exists.intro _ (And.intro g3.blk (And.intro (by decide) (And.intro rfl (And.intro (encP_one _) ?_))))
    intro h4 p4
    have g4 := g3.put p4
    have B4 : Blk h4 b3 (encP t.pairs[k]) := g4.blk
    refine Exists.intro _ (And.intro (cell_blk B4 rfl) (Exists.intro _ (And.intro (cell_blk B4 rfl) ?_)))
    intro b5 h5 g5
    have hc5 := g4.chg.nil g5.chg
    have hsrc : SL encS h5 (.slice (some ⟨b5, 0, none⟩) 2 2) [t.pairs[k].name, t.pairs[k].text] := ⟨_, _, rfl, Nat.le_refl _, cells_blk g5.blk⟩
    have hfl := fl k
    refine app_own encS_len encS_one rfl (ho.ext hc5) hsrc (by simp at hfl ⊢; omega) ?_
    intro v' h6 ho6 hc6 hb6
    have hc26 : Chg [] h1 h6 := (hc2.nil hc5).fresh hc6 hob
    refine And.intro rfl (fun z hz => ?_)
    have hz := add_in hz (by omega) (by omega)
    subst hz
    refine And.intro rfl (Exists.intro (k + 1, v') (And.intro ?_ (And.intro ?_ ?_)))
    · exact ⟨rfl, rfl, rfl, rfl, rfl, trivial⟩
    · refine ⟨by simp only; omega, hc26, ?_, fun b' hb' => ?_⟩
      · simp only
        rw [take_snoc t.pairs k hkk, List.flatMap_append]
        exact ho6
      · rcases hb6 b' hb' with h | h
        · exact hob b' h
        · have := (hc2.nil hc5).size; omega
    · simp only; omega
  have hkl : k = t.pairs.length := by omega
  rw [hkl, List.take_length] at ho
  have B2 := B1.chg hc2 (by simp)
  refine Exists.intro _ (And.intro (cell_blk B2 rfl) ?_)
  have flp : (t.pairs.flatMap fun p => [p.name, p.text]).length ≤ 140000 := by
    have := fl t.pairs.length
    rw [List.take_length] at this; omega
  refine loop_intro (fun i : Nat × Value => [(3, i.2), (24, .slice ra t.ranks.length rc), (25, .int .i64 t.ranks.length), (26, .int .i64 i.1)])
    (fun i h' => i.1 ≤ t.ranks.length ∧ Chg [] h1 h' ∧ OL encS 1 h' i.2 (t.pairs.flatMap (fun p => [p.name, p.text]) ++ (t.ranks.take i.1).map Rank.name) ∧ ∀ b ∈ vblk i.2, h1.size ≤ b) (fun i => t.ranks.length - i.1) (0, ov) ⟨rfl, rfl, rfl, rfl, trivial⟩
    ⟨Nat.zero_le _, hc2, by simpa using ho, hob⟩ ?_
  clear hlt hkl hk hob ho
  rintro ⟨k, ov⟩ h2 ⟨hk, hc2, ho, hob⟩
  simp only at hk ho hob
  refine And.intro rfl (And.intro (fun hlt => ?_) (fun hlt => ?_))
  · have hkk : k < t.ranks.length := by omega
    obtain ⟨b, o, rfl⟩ := hr.addr (by omega)
    have hcs := (hr.ext hc2).cells encR_len (i := k) (x := t.ranks[k]) (by simp [hkk])
    obtain ⟨oa, oc, rfl, _⟩ := ho.sl.form
    refine And.intro (by omega) (And.intro (by omega) (Exists.intro (encR t.ranks[k]) (And.intro rfl (And.intro hcs ?_))))
    intro b3 h3 g3
    refine Exists.intro _ (And.intro g3.blk (And.intro (by decide) (And.intro rfl (And.intro (encR_one _) ?_))))
    intro h4 p4
    have g4 := g3.put p4
    have B4 : Blk h4 b3 (encR t.ranks[k]) := g4.blk
    refine Exists.intro _ (And.intro (cell_blk B4 rfl) ?_)
    intro b5 h5 g5
    have hc5 := g4.chg.nil g5.chg
    have hsrc : SL encS h5 (.slice (some ⟨b5, 0, none⟩) 1 1) [t.ranks[k].name] := SL.one encS_len g5.blk
    refine app_own encS_len encS_one rfl (ho.ext hc5) hsrc (by simp at flp ⊢; omega) ?_
    intro v' h6 ho6 hc6 hb6
    have hc26 : Chg [] h1 h6 := (hc2.nil hc5).fresh hc6 hob
    refine And.intro rfl (fun z hz => ?_)
    have hz := add_in hz (by omega) (by omega)
    subst hz
    refine And.intro rfl (Exists.intro (k + 1, v') (And.intro ?_ (And.intro ?_ ?_)))
    · exact ⟨rfl, rfl, rfl, rfl, trivial⟩
    · refine ⟨by simp only; omega, hc26, ?_, fun b' hb' => ?_⟩
      · simp only
        rw [take_snoc t.ranks k hkk, List.map_append, ← List.append_assoc]
        exact ho6
      · rcases hb6 b' hb' with h | h
        · exact hob b' h
        · have := (hc2.nil hc5).size; omega
    · simp only; omega
  have hkl : k = t.ranks.length := by omega
  rw [hkl, List.take_length] at ho
  exact And.intro ho (hc1.nil hc2)

end Go.Proofs.YtigolfakcblnjaaGreatDoor
namespace Go.Proofs.YtigolfakcblnjaaGreatDoor
open Go Go.Sx Go.Proofs.YtigolfakcblnjaaGreatDoor.C

theorem mfind_none {k : Kd} {a : Value} (ha : fits k a = true) : ∀ (es : List MapEntry) (i : Nat), (∀ e ∈ es, fits k e.key = true) → mfind a es i = none → ∀ e ∈ es, e.key ≠ a
  | [], _, _, _, e, he => by simp at he
  | x :: es, i, hf, h, e, he => by
    simp only [mfind] at h
    split at h
    · simp at h
    · rename_i hs
      rcases List.mem_cons.1 he with rfl | he
      · intro e; exact hs (by rw [e]; exact sameBits_refl ha)
      · exact mfind_none ha es (i + 1) (fun y hy => hf y (by simp [hy])) h e he

theorem modify_keys (f : MapEntry → MapEntry) (hf : ∀ e, (f e).key = e.key) : ∀ (es : List MapEntry) (i : Nat), (es.modify i f).map (·.key) = es.map (·.key)
  | [], i => by simp
  | e :: es, 0 => by simp [hf]
  | e :: es, i + 1 => by simp [modify_keys f hf es i]

theorem mem_modify {f : MapEntry → MapEntry} : ∀ {es : List MapEntry} {i : Nat} {e : MapEntry}, e ∈ es.modify i f → e ∈ es ∨ ∃ x ∈ es, e = f x
  | [], i, e, h => by simp at h
  | x :: es, 0, e, h => by
    simp at h
    rcases h with rfl | h
    · exact .inr ⟨x, by simp, rfl⟩
    · exact .inl (by simp [h])
  | x :: es, i + 1, e, h => by
    simp at h
    rcases h with rfl | h
    · exact .inl (by simp)
    · rcases mem_modify h with h | ⟨y, hy, rfl⟩
      · exact .inl (by simp [h])
      · exact .inr ⟨y, by simp [hy], rfl⟩

/-- The names that are counted. -/
structure Seen (h : Heap) (mb : Nat) (m : List ByteArray) : Prop where
  ex : ∃ (es : List MapEntry) (c : Nat) (ks : List ByteArray), MapB h mb es c ∧ es.map (·.key) = ks.map Value.string ∧ (∀ n, n ∈ ks ↔ n ∈ m) ∧ (ks.length = m.length ↔ m.Nodup) ∧ ks.length ≤ m.length ∧ ∀ e ∈ es, ∃ z, e.val = .int .i64 z

theorem nodup_snoc {m : List ByteArray} {n : ByteArray} : (m ++ [n]).Nodup ↔ m.Nodup ∧ n ∉ m := by
  rw [List.nodup_append]
  constructor
  · rintro ⟨h1, _, h3⟩
    exact ⟨h1, fun hm => h3 n hm n (by simp) rfl⟩
  · rintro ⟨h1, h2⟩
    refine ⟨h1, by simp, fun a ha b hb => ?_⟩
    have : b = n := by simpa using hb
    rw [this]; rintro rfl; exact h2 ha

def onceR (l : List Rank) : Bool := decide (l.map Rank.name).Nodup

theorem once_calls {h : Heap} {v : Value} {l : List Rank} (hv : SL encR h v l) (hl : l.length < 4611686018427387904) :
    CallsH Tryz.prog 98 [v] h (Ret fun r h' => r = .bool (onceR l) ∧ Chg [] h h') := by
  obtain ⟨a, c, rfl, hlc⟩ := hv.form
  refine f98_calls (by simp) ?_
  intro mb h1 g1
  have hm0 : Seen h1 mb [] := ⟨[], 0, [], g1.blk, rfl, by simp, by simp, by simp, by simp⟩
  have hmb : h.size ≤ mb := by rw [g1.id]; exact Nat.le_refl _
  refine loop_intro (fun k : Nat => [(0, .slice a l.length c), (3, .map (some mb)), (7, .slice a l.length c), (8, .int .i64 l.length), (9, .int .i64 k)]) (fun k h' => k ≤ l.length ∧ Chg [] h h' ∧ Seen h' mb ((l.take k).map Rank.name)) (fun k => l.length - k) 0
    ⟨rfl, rfl, rfl, rfl, rfl, trivial⟩ ⟨Nat.zero_le _, g1.chg, hm0⟩ ?_
  rintro k h2 ⟨hk, hc2, hs⟩
  refine And.intro rfl (And.intro (fun hlt => ?_) (fun hlt => ?_))
  · have hkk : k < l.length := by omega
    obtain ⟨b, o, rfl⟩ := hv.addr (by omega)
    have hcs := (hv.ext hc2).cells encR_len (i := k) (x := l[k]) (by simp [hkk])
    refine And.intro (by omega) (And.intro (by omega) (Exists.intro (encR l[k]) (And.intro rfl (And.intro hcs ?_))))
    intro b3 h3 g3
    refine Exists.intro _ (And.intro g3.blk (And.intro (by decide) (And.intro rfl (And.intro (encR_one _) ?_))))
    intro h4 p4
    have g4 := g3.put p4
    have B4 : Blk h4 b3 (encR l[k]) := g4.blk
    obtain ⟨es, cl, ks, hmap, hkeys, hmem, hnd, hle, hvals⟩ := hs.ex
    have hmap4 : MapB h4 mb es cl := hmap.chg g4.chg (by simp)
    have hfits : ∀ e ∈ es, fits .str e.key = true := by
      intro e he
      have : e.key ∈ es.map (·.key) := List.mem_map.2 ⟨e, he, rfl⟩
      rw [hkeys] at this
      obtain ⟨n, _, hn⟩ := List.mem_map.1 this
      rw [← hn]; rfl
    refine Exists.intro _ (And.intro (cell_blk B4 rfl) ?_)
    refine And.intro rfl (Exists.intro es (Exists.intro cl (And.intro hmap4 (And.intro hfits ?_))))
    have htk : (l.take (k + 1)).map Rank.name = (l.take k).map Rank.name ++ [l[k].name] := by rw [take_snoc l k hkk, List.map_append]; rfl
    have hc4 := hc2.nil g4.chg
    cases hmf : mfind (.string l[k].name) es 0 with
    | none =>
      have hnot := mfind_none (k := .str) rfl es 0 hfits hmf
      have hnk : l[k].name ∉ ks := by
        intro hm
        have : Value.string l[k].name ∈ es.map (·.key) := by rw [hkeys]; exact List.mem_map.2 ⟨_, hm, rfl⟩
        obtain ⟨e, he, hek⟩ := List.mem_map.1 this
        exact hnot e he hek
      refine And.intro rfl (fun z hz => ?_)
      refine And.intro rfl (Exists.intro es (Exists.intro cl (And.intro hmap4 (And.intro hfits ?_))))
      rw [hmf]
      intro h5 p5
      refine And.intro rfl (fun y hy => ?_)
      have hy := add_in hy (by omega) (by omega)
      subst hy
      refine And.intro rfl (Exists.intro (k + 1) (And.intro ?_ (And.intro ?_ ?_)))
      · exact ⟨rfl, rfl, rfl, rfl, rfl, trivial⟩
      · refine ⟨by omega, hc4.fresh p5.chg (by simp; exact hmb), ⟨_, _, ks ++ [l[k].name], p5.blk, by rw [List.map_append, List.map_append, hkeys]; rfl, ?_, ?_, ?_, ?_⟩⟩
        · intro n; rw [htk]; simp [hmem n]
        · have hnk' : l[k].name ∉ (l.take k).map Rank.name := fun h => hnk ((hmem _).2 h)
          rw [htk, nodup_snoc]
          simp only [List.length_append, List.length_cons, List.length_nil]
          constructor
          · intro h; exact ⟨hnd.1 (by omega), hnk'⟩
          · rintro ⟨h, _⟩; have := hnd.2 h; omega
        · rw [htk]; simp only [List.length_append, List.length_cons, List.length_nil]; omega
        · intro e he
          rcases List.mem_append.1 he with he | he
          · exact hvals e he
          · have : e = { key := .string l[k].name, val := .int .i64 z, born := cl } := by simpa using he
            rw [this]; exact ⟨z, rfl⟩
      · omega
    | some p =>
      obtain ⟨i, w⟩ := p
      obtain ⟨_, e0, he0, hek, hev⟩ := mfind_spec (k := .str) rfl es 0 i w hfits hmf
      have hem : e0 ∈ es := List.mem_of_getElem? he0
      obtain ⟨zz, hzz⟩ := hvals e0 hem
      rw [hzz] at hev
      subst hev
      have hin : l[k].name ∈ ks := by
        have : Value.string l[k].name ∈ es.map (·.key) := List.mem_map.2 ⟨e0, hem, hek⟩
        rw [hkeys] at this
        obtain ⟨n, hn, hne⟩ := List.mem_map.1 this
        cases hne; exact hn
      refine And.intro rfl (fun z hz => ?_)
      refine And.intro rfl (Exists.intro es (Exists.intro cl (And.intro hmap4 (And.intro hfits ?_))))
      rw [hmf]
      intro h5 p5
      refine And.intro rfl (fun y hy => ?_)
      have hy := add_in hy (by omega) (by omega)
      subst hy
      refine And.intro rfl (Exists.intro (k + 1) (And.intro ?_ (And.intro ?_ ?_)))
      · exact ⟨rfl, rfl, rfl, rfl, rfl, trivial⟩
      · refine ⟨by omega, hc4.fresh p5.chg (by simp; exact hmb), ⟨_, _, ks, p5.blk, by rw [modify_keys (fun e => { e with val := .int .i64 z }) (fun _ => rfl)]; exact hkeys, ?_, ?_, ?_, ?_⟩⟩
        · intro n; rw [htk]; simp only [List.mem_append, List.mem_singleton, hmem n]
          constructor
          · exact .inl
          · rintro (h | rfl)
            · exact h
            · exact (hmem _).1 hin
        · rw [htk, nodup_snoc]
          simp only [List.length_append, List.length_cons, List.length_nil]
          constructor
          · intro h; omega
          · rintro ⟨_, h⟩; exact absurd ((hmem _).1 hin) h
        · rw [htk]; simp only [List.length_append, List.length_cons, List.length_nil]; omega
        · intro e he
          rcases mem_modify he with he | ⟨x, _, rfl⟩
          · exact hvals e he
          · exact ⟨_, rfl⟩
      · omega
  · have hkl : k = l.length := by omega
    rw [hkl, List.take_length] at hs
    obtain ⟨es, cl, ks, hmap, hkeys, hmem, hnd, hle, hvals⟩ := hs.ex
    have hel : es.length = ks.length := by
      have := congrArg List.length hkeys
      simpa using this
    simp only [List.length_map] at hnd
    refine Exists.intro es (Exists.intro cl (And.intro hmap ?_))
    refine And.intro rfl (And.intro (fun he => ?_) (fun he => ?_))
    · exact And.intro (by rw [onceR, decide_eq_true (hnd.1 (by omega))]; rfl) hc2
    · exact And.intro (by rw [onceR, decide_eq_false (fun h => he (by have := hnd.2 h; omega))]; rfl) hc2

/-! ### What is large -/
structure Small (t : Thing) : Prop where
  p : t.pairs.length ≤ 40
  l : t.list.length ≤ 40
  r : t.ranks.length ≤ 40
  text : t.text.size ≤ 2000
  ps : ∀ x ∈ t.pairs, x.name.size ≤ 2000 ∧ x.text.size ≤ 2000
  ls : ∀ x ∈ t.list, x.size ≤ 2000
  rs : ∀ x ∈ t.ranks, x.name.size ≤ 2000

structure Sized (t : Thing) : Prop where
  text : t.text.size < 1000000000000000000
  ps : ∀ x ∈ t.pairs, x.name.size < 1000000000000000000 ∧ x.text.size < 1000000000000000000
  ls : ∀ x ∈ t.list, x.size < 1000000000000000000
  rs : ∀ x ∈ t.ranks, x.name.size < 1000000000000000000

theorem Small.lens {t : Thing} (s : Small t) : Lens t := ⟨by have := s.p; omega, by have := s.l; omega, by have := s.r; omega⟩

end Go.Proofs.YtigolfakcblnjaaGreatDoor
namespace Go.Proofs.YtigolfakcblnjaaGreatDoor
open Go Go.Sx Go.Proofs.YtigolfakcblnjaaGreatDoor.C

def noText : ByteArray := ⟨#[]⟩

/-- As the program asks, of small things. -/
def kOK (t : Thing) : Bool :=
  if t.hasU = false ∧ t.unt ≠ 0 then false else
  if t.kind = 1 then decide (t.pairs.length + t.list.length + t.ranks.length = 0) else
  if t.kind = 2 then decide (0 < t.pairs.length) && (decide (t.list.length + t.ranks.length = 0) && (decide (t.text = noText) && rising (fun x y => sless x.name y.name) t.pairs)) else
  if t.kind = 3 then decide (0 < t.list.length) && (decide (t.pairs.length + t.ranks.length = 0) && decide (t.text = noText)) else
  if t.kind = 4 then decide (0 < t.list.length) && (decide (t.pairs.length + t.ranks.length = 0) && (decide (t.text = noText) && rising sless t.list)) else
  if t.kind = 5 then decide (0 < t.ranks.length) && (decide (t.pairs.length + t.list.length = 0) && (decide (t.text = noText) && (rising aheadR t.ranks && onceR t.ranks))) else false

theorem small_short {t : Thing} (s : Small t) : shortL [t.text] = true ∧ shortL t.list = true ∧ shortL (namesT t) = true ∧ countT t ≤ 65536 := by
  have := s.text
  have hp := s.p; have hl := s.l; have hr := s.r
  refine ⟨by rw [shortL_iff]; intro x hx; simp at hx; rw [hx]; omega, by rw [shortL_iff]; intro x hx; have := s.ls x hx; omega, ?_, by unfold countT; omega⟩
  rw [shortL_iff]
  intro x hx
  simp only [namesT, List.mem_append, List.mem_flatMap, List.mem_map] at hx
  rcases hx with ⟨p, hp, hx⟩ | ⟨r, hr, rfl⟩
  · have := s.ps p hp
    simp at hx
    rcases hx with rfl | rfl <;> omega
  · have := s.rs r hr; omega

theorem namesT_len {t : Thing} (s : Small t) : (namesT t).length < 4611686018427387904 := by
  have hp := s.p; have hr := s.r
  unfold namesT
  have : ∀ l : List Pair, (l.flatMap fun p => [p.name, p.text]).length = 2 * l.length := by
    intro l
    induction l with
    | nil => rfl
    | cons x l ih => simp at ih ⊢; omega
  rw [List.length_append, this, List.length_map]; omega

theorem KCheck_tail {h h0 : Heap} {b1 : Nat} {vs : List Value} {t : Thing} (s : Small t) (hc : Chg [] h0 h) (B1 : Blk h b1 vs) (x : TH h vs t) (hu : ¬ (t.hasU = false ∧ t.unt ≠ 0)) :
    swp Tryz.prog (.seq (.seq (.ops f45r4) (.block 0 (.seq (.ops f45r5) (.cond (.tmp 49) (.seq (.ops f45r6) .ret) (.seq (.ops f45r7) (.cond (.tmp 57) (.seq (.ops f45r8) .ret) (.seq (.ops f45r9) (.cond (.tmp 77) (.seq (.ops f45r10) .ret) (.seq (.ops f45r11) (.cond (.tmp 92) (.seq (.ops f45r12) .ret) (.seq (.ops f45r13) (.cond (.tmp 112) (.seq (.ops f45r14) .ret) .skip)))))))))))) (.seq (.ops f45r15) .ret))
      (retQ [.t 2] (Ret fun r h' => r = .bool (kOK t) ∧ Chg [] h0 h')) (mk [(1, .pointer (some ⟨b1, 0, none⟩)), (2, .bool false), (3, .int .i64 t.pairs.length), (4, .int .i64 t.list.length), (5, .int .i64 t.ranks.length)]) [] h := by
  have sp := s.p; have sl := s.l; have sr := s.r
  obtain ⟨pv, lv, rv, rfl, hp, hl, hr⟩ := x
  have e0 : kOK t = if t.kind = 1 then decide (t.pairs.length + t.list.length + t.ranks.length = 0) else
      if t.kind = 2 then decide (0 < t.pairs.length) && (decide (t.list.length + t.ranks.length = 0) && (decide (t.text = noText) && rising (fun x y => sless x.name y.name) t.pairs)) else
      if t.kind = 3 then decide (0 < t.list.length) && (decide (t.pairs.length + t.ranks.length = 0) && decide (t.text = noText)) else
      if t.kind = 4 then decide (0 < t.list.length) && (decide (t.pairs.length + t.ranks.length = 0) && (decide (t.text = noText) && rising sless t.list)) else
      if t.kind = 5 then decide (0 < t.ranks.length) && (decide (t.pairs.length + t.list.length = 0) && (decide (t.text = noText) && (rising aheadR t.ranks && onceR t.ranks))) else false := by
    unfold kOK; rw [if_neg hu]
  rw [e0]
  refine Exists.intro _ (And.intro (cell_blk B1 rfl) ?_)
  refine And.intro rfl (And.intro (fun k1 => ?_) (fun k1 => ?_))
  · rw [if_pos k1]
    refine And.intro rfl (fun z hz => ?_)
    have hz := add_in hz (by omega) (by omega)
    refine And.intro rfl (fun y hy => ?_)
    have hy := add_in hy (by omega) (by omega)
    refine And.intro rfl (And.intro (fun he => ?_) (fun he => ?_))
    · exact And.intro (by rw [decide_eq_true (by omega)]; rfl) hc
    · exact And.intro (by rw [decide_eq_false (by omega)]; rfl) hc
  rw [if_neg k1]
  refine And.intro rfl (And.intro (fun k2 => ?_) (fun k2 => ?_))
  · rw [if_pos k2]
    refine And.intro rfl (And.intro (fun g1 => ?_) (fun g1 => ?_))
    rotate_left
    · exact And.intro (by rw [decide_eq_false (by omega)]; rfl) hc
    rw [decide_eq_true (show 0 < t.pairs.length by omega), Bool.true_and]
    refine And.intro rfl (fun z hz => ?_)
    have hz := add_in hz (by omega) (by omega)
    refine And.intro rfl (And.intro (fun g2 => ?_) (fun g2 => ?_))
    rotate_left
    · exact And.intro (by rw [decide_eq_false (by omega)]; rfl) hc
    rw [decide_eq_true (show t.list.length + t.ranks.length = 0 by omega), Bool.true_and]
    refine Exists.intro _ (And.intro (cell_blk B1 rfl) ?_)
    refine And.intro (fun g3 => ?_) (fun g3 => ?_)
    rotate_left
    · exact And.intro (by rw [decide_eq_false (show ¬ t.text = noText from g3)]; rfl) hc
    rw [decide_eq_true (show t.text = noText from g3), Bool.true_and]
    refine Exists.intro _ (And.intro (cell_blk B1 rfl) ?_)
    refine call_ret (risP_calls hp (by omega) chk1_ord) ?_
    rintro _ h2 ⟨rfl, hc2⟩
    exact And.intro rfl (hc.nil hc2)
  rw [if_neg k2]
  refine And.intro rfl (And.intro (fun k3 => ?_) (fun k3 => ?_))
  · rw [if_pos k3]
    refine And.intro rfl (And.intro (fun g1 => ?_) (fun g1 => ?_))
    rotate_left
    · exact And.intro (by rw [decide_eq_false (by omega)]; rfl) hc
    rw [decide_eq_true (show 0 < t.list.length by omega), Bool.true_and]
    refine And.intro rfl (fun z hz => ?_)
    have hz := add_in hz (by omega) (by omega)
    refine And.intro rfl (And.intro (fun g2 => ?_) (fun g2 => ?_))
    rotate_left
    · exact And.intro (by rw [decide_eq_false (by omega)]; rfl) hc
    rw [decide_eq_true (show t.pairs.length + t.ranks.length = 0 by omega), Bool.true_and]
    refine Exists.intro _ (And.intro (cell_blk B1 rfl) ?_)
    refine And.intro (fun g3 => ?_) (fun g3 => ?_)
    · exact And.intro (by rw [decide_eq_true (show t.text = noText from g3)]; rfl) hc
    · exact And.intro (by rw [decide_eq_false (show ¬ t.text = noText from g3)]; rfl) hc
  rw [if_neg k3]
  refine And.intro rfl (And.intro (fun k4 => ?_) (fun k4 => ?_))
  · rw [if_pos k4]
    refine And.intro rfl (And.intro (fun g1 => ?_) (fun g1 => ?_))
    rotate_left
    · exact And.intro (by rw [decide_eq_false (by omega)]; rfl) hc
    rw [decide_eq_true (show 0 < t.list.length by omega), Bool.true_and]
    refine And.intro rfl (fun z hz => ?_)
    have hz := add_in hz (by omega) (by omega)
    refine And.intro rfl (And.intro (fun g2 => ?_) (fun g2 => ?_))
    rotate_left
    · exact And.intro (by rw [decide_eq_false (by omega)]; rfl) hc
    rw [decide_eq_true (show t.pairs.length + t.ranks.length = 0 by omega), Bool.true_and]
    refine Exists.intro _ (And.intro (cell_blk B1 rfl) ?_)
    refine And.intro (fun g3 => ?_) (fun g3 => ?_)
    rotate_left
    · exact And.intro (by rw [decide_eq_false (show ¬ t.text = noText from g3)]; rfl) hc
    rw [decide_eq_true (show t.text = noText from g3), Bool.true_and]
    refine Exists.intro _ (And.intro (cell_blk B1 rfl) ?_)
    refine call_ret (risS_calls hl (by omega) cmpS_ord) ?_
    rintro _ h2 ⟨rfl, hc2⟩
    exact And.intro rfl (hc.nil hc2)
  rw [if_neg k4]
  refine And.intro rfl (And.intro (fun k5 => ?_) (fun k5 => ?_))
  · rw [if_pos k5]
    refine And.intro rfl (And.intro (fun g1 => ?_) (fun g1 => ?_))
    rotate_left
    · exact And.intro (by rw [decide_eq_false (by omega)]; rfl) hc
    rw [decide_eq_true (show 0 < t.ranks.length by omega), Bool.true_and]
    refine And.intro rfl (fun z hz => ?_)
    have hz := add_in hz (by omega) (by omega)
    refine And.intro rfl (And.intro (fun g2 => ?_) (fun g2 => ?_))
    rotate_left
    · exact And.intro (by rw [decide_eq_false (by omega)]; rfl) hc
    rw [decide_eq_true (show t.pairs.length + t.list.length = 0 by omega), Bool.true_and]
    refine Exists.intro _ (And.intro (cell_blk B1 rfl) ?_)
    refine And.intro (fun g3 => ?_) (fun g3 => ?_)
    rotate_left
    · exact And.intro (by rw [decide_eq_false (show ¬ t.text = noText from g3)]; rfl) hc
    rw [decide_eq_true (show t.text = noText from g3), Bool.true_and]
    refine Exists.intro _ (And.intro (cell_blk B1 rfl) ?_)
    refine call_ret (risR_calls hr (by omega) ahead_ord) ?_
    rintro r2 h2 ⟨hr2, hc2⟩
    cases hris : rising aheadR t.ranks with
    | false =>
      rw [hris] at hr2
      subst hr2
      exact And.intro rfl (hc.nil hc2)
    | true =>
      rw [hris] at hr2
      subst hr2
      have B2 := B1.chg hc2 (by simp)
      refine Exists.intro _ (And.intro (cell_blk B2 rfl) ?_)
      refine call_ret (once_calls (hr.ext hc2) (by omega)) ?_
      rintro _ h3 ⟨rfl, hc3⟩
      exact And.intro rfl ((hc.nil hc2).nil hc3)
  rw [if_neg k5]
  exact And.intro rfl hc

theorem KCheck_calls {h : Heap} {vs : List Value} {t : Thing} (x : TH h vs t) (s : Small t) :
    CallsH Tryz.prog 45 [.agg ⟨vs⟩] h (Ret fun r h' => r = .bool (kOK t) ∧ Chg [] h h') := by
  have sp := s.p; have sl := s.l; have sr := s.r
  obtain ⟨q1, q2, q3, q4⟩ := small_short s
  refine f45_calls (by simp) ?_
  intro b1 h1 g1
  have B1 : Blk h1 b1 vs := g1.blk
  have hc1 := g1.chg
  have x1 := x.ext hc1
  have x1' := x1
  obtain ⟨pv, lv, rv, rfl, hp, hl, hr⟩ := x1
  obtain ⟨pa, pc, rfl, _⟩ := hp.form
  obtain ⟨la, lc, rfl, _⟩ := hl.form
  obtain ⟨ra, rc, rfl, _⟩ := hr.form
  have fin : ∀ h2, Chg [] h1 h2 → ¬ (t.hasU = false ∧ t.unt ≠ 0) → Chg [] h h2 ∧ TH h2 [.int .i64 t.kind, .string t.text, .slice pa t.pairs.length pc, .slice la t.list.length lc, .slice ra t.ranks.length rc, .bool t.hasU, .int .i64 t.unt] t :=
    fun h2 hc2 _ => ⟨hc1.nil hc2, x1'.ext hc2⟩
  refine Exists.intro _ (And.intro (cell_blk B1 rfl) ?_)
  have bU : Blk h1 b1 [.int .i64 t.kind, .string t.text, .slice pa t.pairs.length pc, .slice la t.list.length lc, .slice ra t.ranks.length rc, .bool t.hasU, .int .i64 t.unt] := B1
  cases hU : t.hasU with
  | false =>
    refine Exists.intro _ (And.intro (cell_blk B1 rfl) ?_)
    refine And.intro rfl (And.intro (fun u0 => ?_) (fun u0 => ?_))
    · exact And.intro (by unfold kOK; rw [if_pos ⟨hU, u0⟩]; rfl) hc1
    have hu : ¬ (t.hasU = false ∧ t.unt ≠ 0) := fun h => u0 h.2
    refine Exists.intro _ (And.intro rfl (And.intro (cells_blk bU) ?_))
    refine call_ret (count_calls x1' s.lens) ?_
    rintro _ h2 ⟨rfl, hc2⟩
    refine And.intro rfl (And.intro (fun big => absurd big (by omega)) (fun _ => ?_))
    have B2 := bU.chg hc2 (by simp)
    refine Exists.intro _ (And.intro (cell_blk B2 rfl) ?_)
    intro b3 h3 g3
    refine call_ret (short_calls (SL.one encS_len (x := t.text) g3.blk) (by simp)) ?_
    rintro r3 _ ⟨hr3, rfl⟩
    rw [q1] at hr3
    subst hr3
    have hc3 := hc2.nil g3.chg
    have B3 := bU.chg hc3 (by simp)
    refine Exists.intro _ (And.intro (cell_blk B3 rfl) ?_)
    refine call_ret (short_calls (hl.ext hc3) (by omega)) ?_
    rintro r4 _ ⟨hr4, rfl⟩
    rw [q2] at hr4
    subst hr4
    refine Exists.intro _ (And.intro rfl (And.intro (cells_blk B3) ?_))
    refine call_ret (names_calls (x1'.ext hc3) s.lens) ?_
    rintro nv h5 ⟨ho5, hc5⟩
    refine call_ret (short_calls ho5.sl (namesT_len s)) ?_
    rintro r6 _ ⟨hr6, rfl⟩
    rw [q3] at hr6
    subst hr6
    have hc6 := hc3.nil hc5
    have B6 := bU.chg hc6 (by simp)
    refine Exists.intro _ (And.intro (cell_blk B6 rfl) (Exists.intro _ (And.intro (cell_blk B6 rfl) (Exists.intro _ (And.intro (cell_blk B6 rfl) ?_)))))
    exact cut_at [(1, .pointer (some ⟨b1, 0, none⟩)), (2, .bool false), (3, .int .i64 t.pairs.length), (4, .int .i64 t.list.length), (5, .int .i64 t.ranks.length)] ⟨rfl, rfl, rfl, rfl, rfl, trivial⟩ (KCheck_tail s (hc1.nil hc6) B6 (x1'.ext hc6) hu)
  | true =>
    have hu : ¬ (t.hasU = false ∧ t.unt ≠ 0) := fun h => by rw [hU] at h; cases h.1
    refine Exists.intro _ (And.intro rfl (And.intro (cells_blk bU) ?_))
    refine call_ret (count_calls x1' s.lens) ?_
    rintro _ h2 ⟨rfl, hc2⟩
    refine And.intro rfl (And.intro (fun big => absurd big (by omega)) (fun _ => ?_))
    have B2 := bU.chg hc2 (by simp)
    refine Exists.intro _ (And.intro (cell_blk B2 rfl) ?_)
    intro b3 h3 g3
    refine call_ret (short_calls (SL.one encS_len (x := t.text) g3.blk) (by simp)) ?_
    rintro r3 _ ⟨hr3, rfl⟩
    rw [q1] at hr3
    subst hr3
    have hc3 := hc2.nil g3.chg
    have B3 := bU.chg hc3 (by simp)
    refine Exists.intro _ (And.intro (cell_blk B3 rfl) ?_)
    refine call_ret (short_calls (hl.ext hc3) (by omega)) ?_
    rintro r4 _ ⟨hr4, rfl⟩
    rw [q2] at hr4
    subst hr4
    refine Exists.intro _ (And.intro rfl (And.intro (cells_blk B3) ?_))
    refine call_ret (names_calls (x1'.ext hc3) s.lens) ?_
    rintro nv h5 ⟨ho5, hc5⟩
    refine call_ret (short_calls ho5.sl (namesT_len s)) ?_
    rintro r6 _ ⟨hr6, rfl⟩
    rw [q3] at hr6
    subst hr6
    have hc6 := hc3.nil hc5
    have B6 := bU.chg hc6 (by simp)
    refine Exists.intro _ (And.intro (cell_blk B6 rfl) (Exists.intro _ (And.intro (cell_blk B6 rfl) (Exists.intro _ (And.intro (cell_blk B6 rfl) ?_)))))
    exact cut_at [(1, .pointer (some ⟨b1, 0, none⟩)), (2, .bool false), (3, .int .i64 t.pairs.length), (4, .int .i64 t.list.length), (5, .int .i64 t.ranks.length)] ⟨rfl, rfl, rfl, rfl, rfl, trivial⟩ (KCheck_tail s (hc1.nil hc6) B6 (x1'.ext hc6) hu)

end Go.Proofs.YtigolfakcblnjaaGreatDoor
namespace Go.Proofs.YtigolfakcblnjaaGreatDoor
open Go Go.Sx Go.Proofs.YtigolfakcblnjaaGreatDoor.C

def ltP (x y : Pair) : Bool := sless x.name y.name

/-- As the document asks, of small things: the last part. -/
def rKind (t : Thing) : Bool :=
  if t.kind = 1 then decide (t.pairs.length + t.list.length + t.ranks.length = 0) else
  if t.kind = 2 then decide (0 < t.pairs.length) && decide (t.list.length + t.ranks.length = 0) else
  if t.kind = 3 ∨ t.kind = 4 then decide (0 < t.list.length) && decide (t.pairs.length + t.ranks.length = 0) else
  if t.kind = 5 then decide (0 < t.ranks.length) && decide (t.pairs.length + t.list.length = 0) else false

structure ROK (t : Thing) : Prop where
  u : ¬ (t.hasU = false ∧ t.unt ≠ 0)
  text : ¬ (t.kind ≠ 1 ∧ t.text ≠ noText)
  ps : rising ltP t.pairs = true
  ls : t.kind = 4 → rising sless t.list = true
  rs : rising aheadR t.ranks = true
  once : onceR t.ranks = true

theorem kOK_bad {t : Thing} (h : ¬ ROK t) : kOK t = false := by
  by_cases hu : t.hasU = false ∧ t.unt ≠ 0
  · unfold kOK; rw [if_pos hu]
  unfold kOK
  rw [if_neg hu]
  have nil_p : t.pairs.length = 0 → rising ltP t.pairs = true := fun e => rising_short (by omega)
  have nil_r : t.ranks.length = 0 → rising aheadR t.ranks = true ∧ onceR t.ranks = true := fun e => ⟨rising_short (by omega), by
    have : t.ranks = [] := List.length_eq_zero_iff.1 e
    rw [this]; rfl⟩
  split
  · rename_i k1
    refine decide_eq_false fun he => h ⟨hu, fun hn => hn.1 k1, nil_p (by omega), fun k4 => by omega, (nil_r (by omega)).1, (nil_r (by omega)).2⟩
  split
  · rename_i k1 k2
    refine Bool.eq_false_iff.2 fun he => h ?_
    simp only [Bool.and_eq_true, decide_eq_true_eq] at he
    exact ⟨hu, fun hn => hn.2 he.2.2.1, he.2.2.2, fun k4 => by omega, (nil_r (by omega)).1, (nil_r (by omega)).2⟩
  split
  · rename_i k1 k2 k3
    refine Bool.eq_false_iff.2 fun he => h ?_
    simp only [Bool.and_eq_true, decide_eq_true_eq] at he
    exact ⟨hu, fun hn => hn.2 he.2.2, nil_p (by omega), fun k4 => by omega, (nil_r (by omega)).1, (nil_r (by omega)).2⟩
  split
  · rename_i k1 k2 k3 k4
    refine Bool.eq_false_iff.2 fun he => h ?_
    simp only [Bool.and_eq_true, decide_eq_true_eq] at he
    exact ⟨hu, fun hn => hn.2 he.2.2.1, nil_p (by omega), fun _ => he.2.2.2, (nil_r (by omega)).1, (nil_r (by omega)).2⟩
  split
  · rename_i k1 k2 k3 k4 k5
    refine Bool.eq_false_iff.2 fun he => h ?_
    simp only [Bool.and_eq_true, decide_eq_true_eq] at he
    exact ⟨hu, fun hn => hn.2 he.2.2.1, nil_p (by omega), fun k4 => by omega, he.2.2.2.1, he.2.2.2.2⟩
  · rfl

theorem kOK_good {t : Thing} (h : ROK t) : kOK t = rKind t := by
  unfold kOK rKind
  rw [if_neg h.u]
  have ht : t.kind ≠ 1 → decide (t.text = noText) = true := fun k => decide_eq_true (Decidable.not_not.1 fun hn => h.text ⟨k, hn⟩)
  by_cases k1 : t.kind = 1
  · rw [if_pos k1, if_pos k1]
  rw [if_neg k1, if_neg k1, ht k1]
  by_cases k2 : t.kind = 2
  · rw [if_pos k2, if_pos k2]
    have : rising (fun x y => sless x.name y.name) t.pairs = true := h.ps
    rw [this]; simp
  rw [if_neg k2, if_neg k2]
  by_cases k3 : t.kind = 3
  · rw [if_pos k3, if_pos (.inl k3)]; simp
  rw [if_neg k3]
  by_cases k4 : t.kind = 4
  · rw [if_pos k4, if_pos (.inr k4), h.ls k4]; simp
  rw [if_neg k4, if_neg (show ¬ (t.kind = 3 ∨ t.kind = 4) from fun h => h.elim k3 k4)]
  by_cases k5 : t.kind = 5
  · rw [if_pos k5, if_pos k5, h.rs, h.once]; simp
  rw [if_neg k5, if_neg k5]

theorem RCheck_tail {h h0 : Heap} {b1 : Nat} {vs : List Value} {t : Thing} (s : Small t) (hc : Chg [] h0 h) (B1 : Blk h b1 vs) (x : TH h vs t) (hr : ROK t) :
    swp Tryz.prog (.seq (.seq (.ops f47r28) (.block 8 (.seq (.ops f47r29) (.cond (.tmp 187) (.seq (.ops f47r30) .ret) (.seq (.ops f47r31) (.cond (.tmp 195) (.seq (.ops f47r32) .ret) (.seq (.seq (.ops f47r33) (.cond (.tmp 205) .skip (.ops f47r34))) (.cond (.tmp 205) (.seq (.ops f47r35) .ret) (.seq (.ops f47r36) (.cond (.tmp 216) (.seq (.ops f47r37) .ret) .skip)))))))))) (.seq (.ops f47r38) .ret))
      (retQ [.t 2] (Ret fun r h' => r = .bool (kOK t) ∧ Chg [] h0 h')) (mk [(1, .pointer (some ⟨b1, 0, none⟩)), (3, .int .i64 t.pairs.length), (4, .int .i64 t.list.length), (5, .int .i64 t.ranks.length)]) [] h := by
  have sp := s.p; have sl := s.l; have sr := s.r
  obtain ⟨pv, lv, rv, rfl, _, _, _⟩ := x
  rw [kOK_good hr]
  unfold rKind
  refine Exists.intro _ (And.intro (cell_blk B1 rfl) ?_)
  refine And.intro rfl (And.intro (fun k1 => ?_) (fun k1 => ?_))
  · rw [if_pos k1]
    refine And.intro rfl (fun z hz => ?_)
    have hz := add_in hz (by omega) (by omega)
    refine And.intro rfl (fun y hy => ?_)
    have hy := add_in hy (by omega) (by omega)
    refine And.intro rfl (And.intro (fun he => ?_) (fun he => ?_))
    · exact And.intro (by rw [decide_eq_true (by omega)]; rfl) hc
    · exact And.intro (by rw [decide_eq_false (by omega)]; rfl) hc
  rw [if_neg k1]
  refine And.intro rfl (And.intro (fun k2 => ?_) (fun k2 => ?_))
  · rw [if_pos k2]
    refine And.intro rfl (And.intro (fun g1 => ?_) (fun g1 => ?_))
    rotate_left
    · exact And.intro (by rw [decide_eq_false (by omega)]; rfl) hc
    rw [decide_eq_true (show 0 < t.pairs.length by omega), Bool.true_and]
    refine And.intro rfl (fun z hz => ?_)
    have hz := add_in hz (by omega) (by omega)
    refine And.intro rfl (And.intro (fun g2 => ?_) (fun g2 => ?_))
    · exact And.intro (by rw [decide_eq_true (by omega)]; rfl) hc
    · exact And.intro (by rw [decide_eq_false (by omega)]; rfl) hc
  rw [if_neg k2]
  refine And.intro rfl (And.intro (fun k3 => ?_) (fun k3 => ?_))
  · rw [if_pos (.inl k3)]
    refine And.intro rfl (And.intro (fun g1 => ?_) (fun g1 => ?_))
    rotate_left
    · exact And.intro (by rw [decide_eq_false (by omega)]; rfl) hc
    rw [decide_eq_true (show 0 < t.list.length by omega), Bool.true_and]
    refine And.intro rfl (fun z hz => ?_)
    have hz := add_in hz (by omega) (by omega)
    refine And.intro rfl (And.intro (fun g2 => ?_) (fun g2 => ?_))
    · exact And.intro (by rw [decide_eq_true (by omega)]; rfl) hc
    · exact And.intro (by rw [decide_eq_false (by omega)]; rfl) hc
  refine And.intro rfl (And.intro (fun k4 => ?_) (fun k4 => ?_))
  · rw [if_pos (.inr k4)]
    refine And.intro rfl (And.intro (fun g1 => ?_) (fun g1 => ?_))
    rotate_left
    · exact And.intro (by rw [decide_eq_false (by omega)]; rfl) hc
    rw [decide_eq_true (show 0 < t.list.length by omega), Bool.true_and]
    refine And.intro rfl (fun z hz => ?_)
    have hz := add_in hz (by omega) (by omega)
    refine And.intro rfl (And.intro (fun g2 => ?_) (fun g2 => ?_))
    · exact And.intro (by rw [decide_eq_true (by omega)]; rfl) hc
    · exact And.intro (by rw [decide_eq_false (by omega)]; rfl) hc
  rw [if_neg (by omega)]
  refine And.intro rfl (And.intro (fun k5 => ?_) (fun k5 => ?_))
  · rw [if_pos k5]
    refine And.intro rfl (And.intro (fun g1 => ?_) (fun g1 => ?_))
    rotate_left
    · exact And.intro (by rw [decide_eq_false (by omega)]; rfl) hc
    rw [decide_eq_true (show 0 < t.ranks.length by omega), Bool.true_and]
    refine And.intro rfl (fun z hz => ?_)
    have hz := add_in hz (by omega) (by omega)
    refine And.intro rfl (And.intro (fun g2 => ?_) (fun g2 => ?_))
    · exact And.intro (by rw [decide_eq_true (by omega)]; rfl) hc
    · exact And.intro (by rw [decide_eq_false (by omega)]; rfl) hc
  rw [if_neg k5]
  exact And.intro rfl hc

end Go.Proofs.YtigolfakcblnjaaGreatDoor
namespace Go.Proofs.YtigolfakcblnjaaGreatDoor
open Go Go.Sx Go.Proofs.YtigolfakcblnjaaGreatDoor.C

theorem rising_at {α : Type} {lt : α → α → Bool} : ∀ {l : List α} {k : Nat} (h1 : 1 ≤ k) (h : k < l.length), rising lt l = true → lt (l[k - 1]'(by omega)) l[k] = true
  | [], _, _, h, _ => by simp at h
  | [_], _, h1, h, _ => by simp at h; omega
  | x :: y :: l, 1, _, _, hr => by
    simp only [rising, Bool.and_eq_true] at hr
    exact hr.1
  | x :: y :: l, k + 2, _, h, hr => by
    simp only [rising, Bool.and_eq_true] at hr
    have := rising_at (l := y :: l) (k := k + 1) (by omega) (by simpa using h) hr.2
    exact this

theorem RCheck_ranks {h h0 : Heap} {b1 : Nat} {vs : List Value} {t : Thing} (s : Small t) (hc : Chg [] h0 h) (B1 : Blk h b1 vs) (x : TH h vs t) (hu : ¬ (t.hasU = false ∧ t.unt ≠ 0)) (ht : ¬ (t.kind ≠ 1 ∧ t.text ≠ noText))
    (hps : rising ltP t.pairs = true) (hls : t.kind = 4 → rising sless t.list = true) :
    swp Tryz.prog (.seq (.seq (.ops f47r16) (.block 4 (.loop f47l27))) (.seq (.seq (.ops f47r28) (.block 8 (.seq (.ops f47r29) (.cond (.tmp 187) (.seq (.ops f47r30) .ret) (.seq (.ops f47r31) (.cond (.tmp 195) (.seq (.ops f47r32) .ret) (.seq (.seq (.ops f47r33) (.cond (.tmp 205) .skip (.ops f47r34))) (.cond (.tmp 205) (.seq (.ops f47r35) .ret) (.seq (.ops f47r36) (.cond (.tmp 216) (.seq (.ops f47r37) .ret) .skip)))))))))) (.seq (.ops f47r38) .ret)))
      (retQ [.t 2] (Ret fun r h' => r = .bool (kOK t) ∧ Chg [] h0 h')) (mk [(1, .pointer (some ⟨b1, 0, none⟩)), (3, .int .i64 t.pairs.length), (4, .int .i64 t.list.length), (5, .int .i64 t.ranks.length)]) [] h := by
  have sr := s.r
  have x' := x
  obtain ⟨pv, lv, rv, rfl, hp, hl, hr⟩ := x
  obtain ⟨ra, rc, rfl, _⟩ := hr.form
  refine loop_intro (fun k : Nat => [(1, .pointer (some ⟨b1, 0, none⟩)), (3, .int .i64 t.pairs.length), (4, .int .i64 t.list.length), (5, .int .i64 t.ranks.length), (8, .int .i64 k)])
    (fun k h' => k ≤ t.ranks.length ∧ Chg [] h h' ∧ rising aheadR t.ranks = rising aheadR (t.ranks.drop (k - 1)) ∧ ((t.ranks.take k).map Rank.name).Nodup) (fun k => t.ranks.length - k) 0 ⟨rfl, rfl, rfl, rfl, rfl, trivial⟩ ⟨Nat.zero_le _, Chg.refl h, rfl, by simp⟩ ?_
  rintro k h1 ⟨hk, hc1, hri, hnd⟩
  have hc01 := hc.nil hc1
  have bad : ∀ h2, Chg [] h1 h2 → ¬ ROK t → Ret (fun r h' => r = .bool (kOK t) ∧ Chg [] h0 h') (.returned (retV [Value.bool false])) h2 := fun h2 hc2 hn => ⟨by rw [kOK_bad hn]; rfl, hc01.nil hc2⟩
  refine And.intro rfl (And.intro (fun hlt => ?_) (fun hlt => ?_))
  · have hkk : k < t.ranks.length := by omega
    obtain ⟨b3, o, rfl⟩ := hr.addr (by omega)
    have hr1 := hr.ext hc1
    have hcs := hr1.cells encR_len (i := k) (x := t.ranks[k]) (by simp [hkk])
    have hsz := s.rs t.ranks[k] (List.getElem_mem hkk)
    have B2 := B1.chg hc1 (by simp)
    -- the inner loop, from whatever heap
    have inner : ∀ h2 (hc2 : Chg [] h1 h2) (hri' : rising aheadR t.ranks = rising aheadR (t.ranks.drop k)) σ, SubL σ [(1, .pointer (some ⟨b1, 0, none⟩)), (3, .int .i64 t.pairs.length), (4, .int .i64 t.list.length), (5, .int .i64 t.ranks.length), (8, .int .i64 k)] →
        ∀ Q : Post, (∀ h3 σ', Chg [] h1 h3 → SubL σ' [(1, .pointer (some ⟨b1, 0, none⟩)), (3, .int .i64 t.pairs.length), (4, .int .i64 t.list.length), (5, .int .i64 t.ranks.length), (8, .int .i64 k)] → ((t.ranks.take (k + 1)).map Rank.name).Nodup → Q .normal σ' [] h3) →
        (∀ h3 σ', Chg [] h1 h3 → σ' 2 = some (.bool false) → ¬ ROK t → Q .ret σ' [] h3) →
        swp Tryz.prog (.seq (.ops f47r20) (.block 6 (.loop f47l25))) Q σ [] h2 := by
      intro h2 hc2 _ σ hσ Q hQ hQr
      obtain ⟨s1, s3, s4, s5, s8, _⟩ := hσ
      have hr2 := hr1.ext hc2
      have B3 := B2.chg hc2 (by simp)
      have hcs2 := hr2.cells encR_len (i := k) (x := t.ranks[k]) (by simp [hkk])
      refine loop_intro (fun j : Nat => [(1, .pointer (some ⟨b1, 0, none⟩)), (3, .int .i64 t.pairs.length), (4, .int .i64 t.list.length), (5, .int .i64 t.ranks.length), (8, .int .i64 k), (9, .int .i64 j)])
        (fun j h' => j ≤ k ∧ h' = h2 ∧ ∀ q (_ : q < j) (hq : q < t.ranks.length), t.ranks[q].name ≠ t.ranks[k].name) (fun j => k - j) 0 ⟨s1, s3, s4, s5, s8, rfl, trivial⟩ ⟨Nat.zero_le _, rfl, fun q h => by omega⟩ ?_
      rintro j h3 ⟨hj, h32, hne⟩
      have h32 := h32.symm
      subst h32
      refine And.intro rfl (And.intro (fun hlt => ?_) (fun hlt => ?_))
      · have hjk : j < k := by omega
        have hjl : j < t.ranks.length := by omega
        have hds := hr2.cells encR_len (i := j) (x := t.ranks[j]) (by simp [hjl])
        refine Exists.intro _ (And.intro (cell_blk B3 rfl) ?_)
        refine And.intro (by omega) (And.intro (by omega) (Exists.intro _ (And.intro (hds 0 _ rfl) ?_)))
        refine Exists.intro _ (And.intro (cell_blk B3 rfl) ?_)
        refine And.intro (by omega) (And.intro (by omega) (Exists.intro _ (And.intro (hcs2 0 _ rfl) ?_)))
        refine And.intro (fun he => ?_) (fun he => ?_)
        · refine hQr h2 _ hc2 rfl fun ro => ?_
          have hn := of_decide_eq_true ro.once
          have := List.pairwise_iff_getElem.1 hn j k (by simpa using hjl) (by simpa using hkk) hjk
          simp only [List.getElem_map] at this
          exact this he
        · refine And.intro rfl (fun z hz => ?_)
          have hz := add_in hz (by omega) (by omega)
          subst hz
          refine And.intro rfl (Exists.intro (j + 1) (And.intro ?_ (And.intro ?_ ?_)))
          · exact ⟨rfl, rfl, rfl, rfl, rfl, rfl, trivial⟩
          · refine ⟨by omega, rfl, fun q hq hql => ?_⟩
            by_cases hqj : q = j
            · subst hqj; exact he
            · exact hne q (by omega) hql
          · omega
      · have hjk : j = k := by omega
        refine hQ h2 _ hc2 ⟨rfl, rfl, rfl, rfl, rfl, trivial⟩ ?_
        rw [take_snoc t.ranks k hkk, List.map_append]
        refine nodup_snoc.2 ⟨hnd, fun hm => ?_⟩
        obtain ⟨r, hr', hrn⟩ := List.mem_map.1 hm
        obtain ⟨q, hq, hqe⟩ := List.getElem_of_mem hr'
        have hqk : q < k := by simp at hq; omega
        rw [List.getElem_take] at hqe
        exact hne q (by omega) (by omega) (by rw [hqe]; exact hrn)
    have go_on : ∀ h2 (hc2 : Chg [] h1 h2) (hri' : rising aheadR t.ranks = rising aheadR (t.ranks.drop k)) σ, SubL σ [(1, .pointer (some ⟨b1, 0, none⟩)), (3, .int .i64 t.pairs.length), (4, .int .i64 t.list.length), (5, .int .i64 t.ranks.length), (8, .int .i64 k)] →
        swp Tryz.prog (.seq (.ops f47r20) (.block 6 (.loop f47l25))) (blockQ 5 (thenQ (swp Tryz.prog (.ops f47r26) (thenQ (fun σ' ds' h' => ds' = [] ∧ ∃ i', SubL σ' [(1, .pointer (some ⟨b1, 0, none⟩)), (3, .int .i64 t.pairs.length), (4, .int .i64 t.list.length), (5, .int .i64 t.ranks.length), (8, .int .i64 (i' : Nat))] ∧
          (i' ≤ t.ranks.length ∧ Chg [] h h' ∧ rising aheadR t.ranks = rising aheadR (t.ranks.drop (i' - 1)) ∧ ((t.ranks.take i').map Rank.name).Nodup) ∧ t.ranks.length - i' < t.ranks.length - k)
          (blockQ 4 (thenQ (swp Tryz.prog (.seq (.seq (.ops f47r28) (.block 8 (.seq (.ops f47r29) (.cond (.tmp 187) (.seq (.ops f47r30) .ret) (.seq (.ops f47r31) (.cond (.tmp 195) (.seq (.ops f47r32) .ret) (.seq (.seq (.ops f47r33) (.cond (.tmp 205) .skip (.ops f47r34))) (.cond (.tmp 205) (.seq (.ops f47r35) .ret) (.seq (.ops f47r36) (.cond (.tmp 216) (.seq (.ops f47r37) .ret) .skip)))))))))) (.seq (.ops f47r38) .ret)) (retQ [.t 2] (Ret fun r h' => r = .bool (kOK t) ∧ Chg [] h0 h')))
            (retQ [.t 2] (Ret fun r h' => r = .bool (kOK t) ∧ Chg [] h0 h'))))))
          (thenQ (fun σ' ds' h' => ds' = [] ∧ ∃ i', SubL σ' [(1, .pointer (some ⟨b1, 0, none⟩)), (3, .int .i64 t.pairs.length), (4, .int .i64 t.list.length), (5, .int .i64 t.ranks.length), (8, .int .i64 (i' : Nat))] ∧
          (i' ≤ t.ranks.length ∧ Chg [] h h' ∧ rising aheadR t.ranks = rising aheadR (t.ranks.drop (i' - 1)) ∧ ((t.ranks.take i').map Rank.name).Nodup) ∧ t.ranks.length - i' < t.ranks.length - k)
          (blockQ 4 (thenQ (swp Tryz.prog (.seq (.seq (.ops f47r28) (.block 8 (.seq (.ops f47r29) (.cond (.tmp 187) (.seq (.ops f47r30) .ret) (.seq (.ops f47r31) (.cond (.tmp 195) (.seq (.ops f47r32) .ret) (.seq (.seq (.ops f47r33) (.cond (.tmp 205) .skip (.ops f47r34))) (.cond (.tmp 205) (.seq (.ops f47r35) .ret) (.seq (.ops f47r36) (.cond (.tmp 216) (.seq (.ops f47r37) .ret) .skip)))))))))) (.seq (.ops f47r38) .ret)) (retQ [.t 2] (Ret fun r h' => r = .bool (kOK t) ∧ Chg [] h0 h')))
            (retQ [.t 2] (Ret fun r h' => r = .bool (kOK t) ∧ Chg [] h0 h'))))))) σ [] h2 := by
      intro h2 hc2 hri' σ hσ
      refine inner h2 hc2 hri' σ hσ _ ?_ ?_
      · intro h3 σ' hc3 hσ' hnd'
        refine sops_sub (P := Tryz.prog) (Qp := fun _ _ => False) (fun ch h hf => hf.elim)
          (K := fun σ1 h4 => SubL σ1 [(1, .pointer (some ⟨b1, 0, none⟩)), (3, .int .i64 t.pairs.length), (4, .int .i64 t.list.length), (5, .int .i64 t.ranks.length), (8, .int .i64 ((k + 1 : Nat) : Int))] ∧ h4 = h3) ?_ f47r26 _ _ _ (sub_mk hσ') ?_
        · rintro σ1 σ2 h4 h12 ⟨hs1, rfl⟩
          refine And.intro rfl (Exists.intro (k + 1) (And.intro (hs1.sub h12) (And.intro ?_ ?_)))
          · exact ⟨by omega, hc1.nil hc3, by rw [Nat.add_sub_cancel]; exact hri', hnd'⟩
          · omega
        · refine And.intro rfl (fun z6 hz6 => ?_)
          have hz6 := add_in hz6 (by omega) (by omega)
          subst hz6
          exact ⟨⟨rfl, rfl, rfl, rfl, rfl, trivial⟩, rfl⟩
      · intro h3 σ' hc3 h2' hn
        have hres : resQ σ' h3 [.t 2] (fun vs => Ret (fun r h' => r = .bool (kOK t) ∧ Chg [] h0 h') (.returned (retV vs)) h3) := by
          simp only [resQ, h2']
          exact bad h3 hc3 hn
        exact hres
    refine Exists.intro _ (And.intro (cell_blk B2 rfl) ?_)
    refine And.intro (by omega) (And.intro (by omega) (Exists.intro _ (And.intro (hcs 0 _ rfl) ?_)))
    refine And.intro rfl (And.intro (fun big => absurd big (by omega)) (fun _ => ?_))
    refine And.intro rfl (And.intro (fun hk0 => ?_) (fun hk0 => ?_))
    · have hk1 : 1 ≤ k := by omega
      have hds := hr1.cells encR_len (i := k - 1) (x := t.ranks[k - 1]) (by simp)
      have hsz2 := s.rs t.ranks[k - 1] (List.getElem_mem (by omega))
      refine Exists.intro _ (And.intro (cell_blk B2 rfl) ?_)
      refine And.intro rfl (fun z hz => ?_)
      have hz := sub_in hz (by omega) (by omega)
      have hz : z = ((k - 1 : Nat) : Int) := by omega
      subst hz
      refine And.intro (by omega) (And.intro (by omega) (Exists.intro (encR t.ranks[k - 1]) (And.intro rfl (And.intro hds ?_))))
      refine Exists.intro _ (And.intro (cell_blk B2 rfl) ?_)
      refine And.intro (by omega) (And.intro (by omega) (Exists.intro (encR t.ranks[k]) (And.intro rfl (And.intro hcs ?_))))
      refine call_ret (Ahead_calls t.ranks[k - 1] t.ranks[k] (by omega) (by omega)) ?_
      rintro r2 h2 ⟨hr2, hc2⟩
      rw [drop_two hk1 hkk, rising] at hri
      have e1 : t.ranks[k] :: t.ranks.drop (k + 1) = t.ranks.drop k := by rw [List.drop_eq_getElem_cons hkk]
      rw [e1] at hri
      cases hah : aheadR t.ranks[k - 1] t.ranks[k] with
      | false =>
        rw [hah] at hr2
        subst hr2
        refine bad h2 hc2 fun ro => ?_
        have := rising_at hk1 hkk ro.rs
        rw [hah] at this
        cases this
      | true =>
        rw [hah] at hr2 hri
        subst hr2
        exact go_on h2 hc2 (by rw [hri, Bool.true_and]) _ ⟨rfl, rfl, rfl, rfl, rfl, trivial⟩
    · have hk1 : k = 0 := by omega
      exact go_on h1 (Chg.refl h1) (by rw [hri, hk1]) _ ⟨rfl, rfl, rfl, rfl, rfl, trivial⟩
  · have hkl : k = t.ranks.length := by omega
    rw [hkl, List.take_length] at hnd
    have hri : rising aheadR t.ranks = true := by
      rw [hri, hkl]
      exact rising_short (l := t.ranks.drop (t.ranks.length - 1)) (by rw [List.length_drop]; omega)
    exact cut_at [(1, .pointer (some ⟨b1, 0, none⟩)), (3, .int .i64 t.pairs.length), (4, .int .i64 t.list.length), (5, .int .i64 t.ranks.length)] ⟨rfl, rfl, rfl, rfl, trivial⟩ (RCheck_tail s hc01 (B1.chg hc1 (by simp)) (x'.ext hc1) ⟨hu, ht, hps, hls, hri, decide_eq_true hnd⟩)

end Go.Proofs.YtigolfakcblnjaaGreatDoor
namespace Go.Proofs.YtigolfakcblnjaaGreatDoor
open Go Go.Sx Go.Proofs.YtigolfakcblnjaaGreatDoor.C

theorem RCheck_lists {h h0 : Heap} {b1 : Nat} {vs : List Value} {t : Thing} (s : Small t) (hc : Chg [] h0 h) (B1 : Blk h b1 vs) (x : TH h vs t) (hu : ¬ (t.hasU = false ∧ t.unt ≠ 0)) (ht : ¬ (t.kind ≠ 1 ∧ t.text ≠ noText)) :
    swp Tryz.prog (.seq (.seq (.ops f47r4) (.block 0 (.loop f47l9))) (.seq (.seq (.ops f47r10) (.block 2 (.loop f47l15))) (.seq (.seq (.ops f47r16) (.block 4 (.loop f47l27))) (.seq (.seq (.ops f47r28) (.block 8 (.seq (.ops f47r29) (.cond (.tmp 187) (.seq (.ops f47r30) .ret) (.seq (.ops f47r31) (.cond (.tmp 195) (.seq (.ops f47r32) .ret) (.seq (.seq (.ops f47r33) (.cond (.tmp 205) .skip (.ops f47r34))) (.cond (.tmp 205) (.seq (.ops f47r35) .ret) (.seq (.ops f47r36) (.cond (.tmp 216) (.seq (.ops f47r37) .ret) .skip)))))))))) (.seq (.ops f47r38) .ret)))))
      (retQ [.t 2] (Ret fun r h' => r = .bool (kOK t) ∧ Chg [] h0 h')) (mk [(1, .pointer (some ⟨b1, 0, none⟩)), (3, .int .i64 t.pairs.length), (4, .int .i64 t.list.length), (5, .int .i64 t.ranks.length)]) [] h := by
  have sp := s.p; have sl := s.l
  have x' := x
  obtain ⟨pv, lv, rv, rfl, hp, hl, _⟩ := x
  obtain ⟨pa, pc, rfl, _⟩ := hp.form
  obtain ⟨la, lc, rfl, _⟩ := hl.form
  have bad : ¬ ROK t → Ret (fun r h' => r = .bool (kOK t) ∧ Chg [] h0 h') (.returned (retV [Value.bool false])) h := fun hn => ⟨by rw [kOK_bad hn]; rfl, hc⟩
  refine loop_intro (fun k : Nat => [(1, .pointer (some ⟨b1, 0, none⟩)), (3, .int .i64 t.pairs.length), (4, .int .i64 t.list.length), (5, .int .i64 t.ranks.length), (6, .int .i64 k)])
    (fun k h' => k ≤ t.pairs.length ∧ h' = h ∧ rising ltP t.pairs = rising ltP (t.pairs.drop (k - 1))) (fun k => t.pairs.length - k) 0 ⟨rfl, rfl, rfl, rfl, rfl, trivial⟩ ⟨Nat.zero_le _, rfl, rfl⟩ ?_
  rintro k h1 ⟨hk, h12, hri⟩
  have h12 := h12.symm
  subst h12
  refine And.intro rfl (And.intro (fun hlt => ?_) (fun hlt => ?_))
  · have hkk : k < t.pairs.length := by omega
    obtain ⟨b3, o, rfl⟩ := hp.addr (by omega)
    have hcs := hp.cells encP_len (i := k) (x := t.pairs[k]) (by simp [hkk])
    obtain ⟨z1, z2⟩ := s.ps t.pairs[k] (List.getElem_mem hkk)
    have step : ∀ z : Int, z = ((k + 1 : Nat) : Int) → rising ltP t.pairs = rising ltP (t.pairs.drop k) → k + 1 ≤ t.pairs.length ∧ h = h ∧ rising ltP t.pairs = rising ltP (t.pairs.drop (k + 1 - 1)) := fun z _ hr => ⟨by omega, rfl, by rw [Nat.add_sub_cancel]; exact hr⟩
    refine Exists.intro _ (And.intro (cell_blk B1 rfl) ?_)
    refine And.intro (by omega) (And.intro (by omega) (Exists.intro _ (And.intro (hcs 0 _ rfl) ?_)))
    refine And.intro rfl (And.intro (fun big => absurd big (by omega)) (fun _ => ?_))
    refine Exists.intro _ (And.intro (cell_blk B1 rfl) ?_)
    refine And.intro (by omega) (And.intro (by omega) (Exists.intro _ (And.intro (hcs 1 _ rfl) ?_)))
    refine And.intro rfl (And.intro (fun big => absurd big (by omega)) (fun _ => ?_))
    refine And.intro rfl (And.intro (fun hk0 => ?_) (fun hk0 => ?_))
    · have hk1 : 1 ≤ k := by omega
      have hds := hp.cells encP_len (i := k - 1) (x := t.pairs[k - 1]) (by simp)
      obtain ⟨z3, _⟩ := s.ps t.pairs[k - 1] (List.getElem_mem (by omega))
      refine Exists.intro _ (And.intro (cell_blk B1 rfl) ?_)
      refine And.intro rfl (fun z hz => ?_)
      have hz := sub_in hz (by omega) (by omega)
      have hz : z = ((k - 1 : Nat) : Int) := by omega
      subst hz
      refine And.intro (by omega) (And.intro (by omega) (Exists.intro _ (And.intro (hds 0 _ rfl) ?_)))
      refine Exists.intro _ (And.intro (cell_blk B1 rfl) ?_)
      refine And.intro (by omega) (And.intro (by omega) (Exists.intro _ (And.intro (hcs 0 _ rfl) ?_)))
      refine call_ret (Less_calls t.pairs[k - 1].name t.pairs[k].name (by omega) (by omega)) ?_
      rintro r2 _ ⟨hr2, rfl⟩
      rw [drop_two hk1 hkk, rising] at hri
      have e1 : t.pairs[k] :: t.pairs.drop (k + 1) = t.pairs.drop k := by rw [List.drop_eq_getElem_cons hkk]
      rw [e1] at hri
      have hltp : ltP t.pairs[k - 1] t.pairs[k] = sless t.pairs[k - 1].name t.pairs[k].name := rfl
      cases hah : sless t.pairs[k - 1].name t.pairs[k].name with
      | false =>
        rw [hah] at hr2
        subst hr2
        refine bad fun ro => ?_
        have := rising_at hk1 hkk ro.ps
        rw [hltp, hah] at this
        cases this
      | true =>
        rw [hah] at hr2
        rw [hltp, hah, Bool.true_and] at hri
        subst hr2
        refine And.intro rfl (fun z hz => ?_)
        have hz := add_in hz (by omega) (by omega)
        subst hz
        refine And.intro rfl (Exists.intro (k + 1) (And.intro ?_ (And.intro (step _ rfl hri) ?_)))
        · exact ⟨rfl, rfl, rfl, rfl, rfl, trivial⟩
        · omega
    · have hk1 : k = 0 := by omega
      refine And.intro rfl (fun z hz => ?_)
      have hz := add_in hz (by omega) (by omega)
      subst hz
      refine And.intro rfl (Exists.intro (k + 1) (And.intro ?_ (And.intro (step _ rfl (by rw [hri, hk1])) ?_)))
      · exact ⟨rfl, rfl, rfl, rfl, rfl, trivial⟩
      · omega
  have hkl : k = t.pairs.length := by omega
  have hps : rising ltP t.pairs = true := by
    rw [hri, hkl]
    exact rising_short (l := t.pairs.drop (t.pairs.length - 1)) (by rw [List.length_drop]; omega)
  clear hlt hkl hri hk
  refine loop_intro (fun k : Nat => [(1, .pointer (some ⟨b1, 0, none⟩)), (3, .int .i64 t.pairs.length), (4, .int .i64 t.list.length), (5, .int .i64 t.ranks.length), (7, .int .i64 k)])
    (fun k h' => k ≤ t.list.length ∧ h' = h ∧ (t.kind = 4 → rising sless t.list = rising sless (t.list.drop (k - 1)))) (fun k => t.list.length - k) 0 ⟨rfl, rfl, rfl, rfl, rfl, trivial⟩ ⟨Nat.zero_le _, rfl, fun _ => rfl⟩ ?_
  rintro k h1 ⟨hk, h12, hri⟩
  have h12 := h12.symm
  subst h12
  refine And.intro rfl (And.intro (fun hlt => ?_) (fun hlt => ?_))
  · have hkk : k < t.list.length := by omega
    obtain ⟨b3, o, rfl⟩ := hl.addr (by omega)
    have hcs := hl.cells encS_len (i := k) (x := t.list[k]) (by simp [hkk])
    have z1 := s.ls t.list[k] (List.getElem_mem hkk)
    have step : (t.kind = 4 → rising sless t.list = rising sless (t.list.drop k)) → k + 1 ≤ t.list.length ∧ h = h ∧ (t.kind = 4 → rising sless t.list = rising sless (t.list.drop (k + 1 - 1))) := fun hr => ⟨by omega, rfl, by rw [Nat.add_sub_cancel]; exact hr⟩
    refine Exists.intro _ (And.intro (cell_blk B1 rfl) ?_)
    refine And.intro (by omega) (And.intro (by omega) (Exists.intro _ (And.intro (hcs 0 _ rfl) ?_)))
    refine And.intro rfl (And.intro (fun big => absurd big (by omega)) (fun _ => ?_))
    refine Exists.intro _ (And.intro (cell_blk B1 rfl) ?_)
    refine And.intro rfl (And.intro (fun k4 => ?_) (fun k4 => ?_))
    · refine And.intro rfl (And.intro (fun hk0 => ?_) (fun hk0 => ?_))
      · have hk1 : 1 ≤ k := by omega
        have hds := hl.cells encS_len (i := k - 1) (x := t.list[k - 1]) (by simp)
        have z3 := s.ls t.list[k - 1] (List.getElem_mem (by omega))
        refine Exists.intro _ (And.intro (cell_blk B1 rfl) ?_)
        refine And.intro rfl (fun z hz => ?_)
        have hz := sub_in hz (by omega) (by omega)
        have hz : z = ((k - 1 : Nat) : Int) := by omega
        subst hz
        refine And.intro (by omega) (And.intro (by omega) (Exists.intro _ (And.intro (hds 0 _ rfl) ?_)))
        refine Exists.intro _ (And.intro (cell_blk B1 rfl) ?_)
        refine And.intro (by omega) (And.intro (by omega) (Exists.intro _ (And.intro (hcs 0 _ rfl) ?_)))
        refine call_ret (Less_calls t.list[k - 1] t.list[k] (by omega) (by omega)) ?_
        rintro r2 _ ⟨hr2, rfl⟩
        have hri := hri k4
        rw [drop_two hk1 hkk, rising] at hri
        have e1 : t.list[k] :: t.list.drop (k + 1) = t.list.drop k := by rw [List.drop_eq_getElem_cons hkk]
        rw [e1] at hri
        cases hah : sless t.list[k - 1] t.list[k] with
        | false =>
          rw [hah] at hr2
          subst hr2
          refine bad fun ro => ?_
          have := rising_at hk1 hkk (ro.ls k4)
          rw [hah] at this
          cases this
        | true =>
          rw [hah] at hr2
          rw [hah, Bool.true_and] at hri
          subst hr2
          refine And.intro rfl (fun z hz => ?_)
          have hz := add_in hz (by omega) (by omega)
          subst hz
          refine And.intro rfl (Exists.intro (k + 1) (And.intro ?_ (And.intro (step fun _ => hri) ?_)))
          · exact ⟨rfl, rfl, rfl, rfl, rfl, trivial⟩
          · omega
      · have hk1 : k = 0 := by omega
        refine And.intro rfl (fun z hz => ?_)
        have hz := add_in hz (by omega) (by omega)
        subst hz
        refine And.intro rfl (Exists.intro (k + 1) (And.intro ?_ (And.intro (step fun k4 => by rw [hri k4, hk1]) ?_)))
        · exact ⟨rfl, rfl, rfl, rfl, rfl, trivial⟩
        · omega
    · refine And.intro rfl (fun z hz => ?_)
      have hz := add_in hz (by omega) (by omega)
      subst hz
      refine And.intro rfl (Exists.intro (k + 1) (And.intro ?_ (And.intro (step fun k4' => absurd k4' k4) ?_)))
      · exact ⟨rfl, rfl, rfl, rfl, rfl, trivial⟩
      · omega
  have hkl : k = t.list.length := by omega
  have hls : t.kind = 4 → rising sless t.list = true := by
    intro k4
    rw [hri k4, hkl]
    exact rising_short (l := t.list.drop (t.list.length - 1)) (by rw [List.length_drop]; omega)
  exact cut_at [(1, .pointer (some ⟨b1, 0, none⟩)), (3, .int .i64 t.pairs.length), (4, .int .i64 t.list.length), (5, .int .i64 t.ranks.length)] ⟨rfl, rfl, rfl, rfl, trivial⟩ (RCheck_ranks s hc B1 x' hu ht hps hls)

theorem RCheck_calls {h : Heap} {vs : List Value} {t : Thing} (x : TH h vs t) (s : Small t) :
    CallsH Tryz.prog 47 [.agg ⟨vs⟩] h (Ret fun r h' => r = .bool (kOK t) ∧ Chg [] h h') := by
  have sp := s.p; have sl := s.l; have sr := s.r; have st := s.text
  refine f47_calls (by simp) ?_
  intro b1 h1 g1
  have B1 : Blk h1 b1 vs := g1.blk
  have hc := g1.chg
  have x1 := x.ext hc
  have x' := x1
  obtain ⟨pv, lv, rv, rfl, hp, hl, hr⟩ := x1
  obtain ⟨pa, pc, rfl, _⟩ := hp.form
  obtain ⟨la, lc, rfl, _⟩ := hl.form
  obtain ⟨ra, rc, rfl, _⟩ := hr.form
  have bad : ¬ ROK t → Ret (fun r h' => r = .bool (kOK t) ∧ Chg [] h h') (.returned (retV [Value.bool false])) h1 := fun hn => ⟨by rw [kOK_bad hn]; rfl, hc⟩
  have bU : Blk h1 b1 [.int .i64 t.kind, .string t.text, .slice pa t.pairs.length pc, .slice la t.list.length lc, .slice ra t.ranks.length rc, .bool t.hasU, .int .i64 t.unt] := B1
  refine Exists.intro _ (And.intro (cell_blk B1 rfl) (Exists.intro _ (And.intro (cell_blk B1 rfl) (Exists.intro _ (And.intro (cell_blk B1 rfl) ?_)))))
  refine Exists.intro _ (And.intro (cell_blk B1 rfl) ?_)
  cases hU : t.hasU with
  | false =>
    refine Exists.intro _ (And.intro (cell_blk B1 rfl) ?_)
    refine And.intro rfl (And.intro (fun u0 => ?_) (fun u0 => ?_))
    · exact bad fun ro => ro.u ⟨hU, u0⟩
    have hu : ¬ (t.hasU = false ∧ t.unt ≠ 0) := fun h => u0 h.2
    refine And.intro rfl (And.intro (fun big => absurd big (by omega)) (fun _ => ?_))
    refine And.intro rfl (And.intro (fun big => absurd big (by omega)) (fun _ => ?_))
    refine And.intro rfl (And.intro (fun big => absurd big (by omega)) (fun _ => ?_))
    refine Exists.intro _ (And.intro (cell_blk B1 rfl) ?_)
    refine And.intro rfl (And.intro (fun big => absurd big (by omega)) (fun _ => ?_))
    refine Exists.intro _ (And.intro (cell_blk B1 rfl) ?_)
    refine And.intro rfl (And.intro (fun k1 => ?_) (fun k1 => ?_))
    · refine Exists.intro _ (And.intro (cell_blk B1 rfl) ?_)
      refine And.intro (fun t1 => ?_) (fun t1 => ?_)
      · exact bad fun ro => ro.text ⟨k1, t1⟩
      · exact cut_at [(1, .pointer (some ⟨b1, 0, none⟩)), (3, .int .i64 t.pairs.length), (4, .int .i64 t.list.length), (5, .int .i64 t.ranks.length)] ⟨rfl, rfl, rfl, rfl, trivial⟩ (RCheck_lists s hc bU x' hu (fun h => t1 h.2))
    · exact cut_at [(1, .pointer (some ⟨b1, 0, none⟩)), (3, .int .i64 t.pairs.length), (4, .int .i64 t.list.length), (5, .int .i64 t.ranks.length)] ⟨rfl, rfl, rfl, rfl, trivial⟩ (RCheck_lists s hc bU x' hu (fun h => k1 h.1))
  | true =>
    have hu : ¬ (t.hasU = false ∧ t.unt ≠ 0) := fun h => by rw [hU] at h; cases h.1
    refine And.intro rfl (And.intro (fun big => absurd big (by omega)) (fun _ => ?_))
    refine And.intro rfl (And.intro (fun big => absurd big (by omega)) (fun _ => ?_))
    refine And.intro rfl (And.intro (fun big => absurd big (by omega)) (fun _ => ?_))
    refine Exists.intro _ (And.intro (cell_blk B1 rfl) ?_)
    refine And.intro rfl (And.intro (fun big => absurd big (by omega)) (fun _ => ?_))
    refine Exists.intro _ (And.intro (cell_blk B1 rfl) ?_)
    refine And.intro rfl (And.intro (fun k1 => ?_) (fun k1 => ?_))
    · refine Exists.intro _ (And.intro (cell_blk B1 rfl) ?_)
      refine And.intro (fun t1 => ?_) (fun t1 => ?_)
      · exact bad fun ro => ro.text ⟨k1, t1⟩
      · exact cut_at [(1, .pointer (some ⟨b1, 0, none⟩)), (3, .int .i64 t.pairs.length), (4, .int .i64 t.list.length), (5, .int .i64 t.ranks.length)] ⟨rfl, rfl, rfl, rfl, trivial⟩ (RCheck_lists s hc bU x' hu (fun h => t1 h.2))
    · exact cut_at [(1, .pointer (some ⟨b1, 0, none⟩)), (3, .int .i64 t.pairs.length), (4, .int .i64 t.list.length), (5, .int .i64 t.ranks.length)] ⟨rfl, rfl, rfl, rfl, trivial⟩ (RCheck_lists s hc bU x' hu (fun h => k1 h.1))

end Go.Proofs.YtigolfakcblnjaaGreatDoor
namespace Go.Proofs.YtigolfakcblnjaaGreatDoor
open Go Go.Sx Go.Proofs.YtigolfakcblnjaaGreatDoor.C

theorem clP_calls {h : Heap} {v : Value} {l : List Pair} (hv : SL encP h v l) (hl : l.length ≤ 70000) :
    CallsH Tryz.prog 99 [v] h (Ret fun r h' => OL encP 2 h' r l ∧ (∀ b ∈ vblk r, h.size ≤ b) ∧ Chg [] h h') := by
  obtain ⟨a, c, rfl, hlc⟩ := hv.form
  refine f99_calls (by simp) ?_
  cases a with
  | none =>
    have h0 : l.length = 0 := by
      obtain ⟨a', c', he, _, h2⟩ := hv
      cases he
      exact h2
    have : l = [] := List.length_eq_zero_iff.1 h0
    subst this
    exact And.intro OL.nil (And.intro (fun b hb => absurd (show b ∈ ([] : List Nat) from hb) (by simp)) (Chg.refl h))
  | some a =>
    intro b1 h1 g1
    have own : OL encP 2 h1 (.slice (some ⟨b1, 0, none⟩) 0 0) [] := ⟨some ⟨b1, 0, none⟩, 0, rfl, rfl, Nat.zero_le _, [], g1.blk, by simp⟩
    refine app_own encP_len encP_one rfl own (hv.ext g1.chg) (by simp; omega) ?_
    intro v' h2 ho2 hc2 hb2
    have i1 := g1.id
    refine And.intro ho2 (And.intro (fun b hb => ?_) (g1.chg.fresh hc2 (by simp [ablk]; omega)))
    rcases hb2 b hb with h | h
    · simp [ablk] at h; omega
    · have := g1.size; omega

theorem clS_calls {h : Heap} {v : Value} {l : List ByteArray} (hv : SL encS h v l) (hl : l.length ≤ 70000) :
    CallsH Tryz.prog 100 [v] h (Ret fun r h' => OL encS 1 h' r l ∧ (∀ b ∈ vblk r, h.size ≤ b) ∧ Chg [] h h') := by
  obtain ⟨a, c, rfl, hlc⟩ := hv.form
  refine f100_calls (by simp) ?_
  cases a with
  | none =>
    have h0 : l.length = 0 := by
      obtain ⟨a', c', he, _, h2⟩ := hv
      cases he
      exact h2
    have : l = [] := List.length_eq_zero_iff.1 h0
    subst this
    exact And.intro OL.nil (And.intro (fun b hb => absurd (show b ∈ ([] : List Nat) from hb) (by simp)) (Chg.refl h))
  | some a =>
    intro b1 h1 g1
    have own : OL encS 1 h1 (.slice (some ⟨b1, 0, none⟩) 0 0) [] := ⟨some ⟨b1, 0, none⟩, 0, rfl, rfl, Nat.zero_le _, [], g1.blk, by simp⟩
    refine app_own encS_len encS_one rfl own (hv.ext g1.chg) (by simp; omega) ?_
    intro v' h2 ho2 hc2 hb2
    have i1 := g1.id
    refine And.intro ho2 (And.intro (fun b hb => ?_) (g1.chg.fresh hc2 (by simp [ablk]; omega)))
    rcases hb2 b hb with h | h
    · simp [ablk] at h; omega
    · have := g1.size; omega

theorem clR_calls {h : Heap} {v : Value} {l : List Rank} (hv : SL encR h v l) (hl : l.length ≤ 70000) :
    CallsH Tryz.prog 101 [v] h (Ret fun r h' => OL encR 2 h' r l ∧ (∀ b ∈ vblk r, h.size ≤ b) ∧ Chg [] h h') := by
  obtain ⟨a, c, rfl, hlc⟩ := hv.form
  refine f101_calls (by simp) ?_
  cases a with
  | none =>
    have h0 : l.length = 0 := by
      obtain ⟨a', c', he, _, h2⟩ := hv
      cases he
      exact h2
    have : l = [] := List.length_eq_zero_iff.1 h0
    subst this
    exact And.intro OL.nil (And.intro (fun b hb => absurd (show b ∈ ([] : List Nat) from hb) (by simp)) (Chg.refl h))
  | some a =>
    intro b1 h1 g1
    have own : OL encR 2 h1 (.slice (some ⟨b1, 0, none⟩) 0 0) [] := ⟨some ⟨b1, 0, none⟩, 0, rfl, rfl, Nat.zero_le _, [], g1.blk, by simp⟩
    refine app_own encR_len encR_one rfl own (hv.ext g1.chg) (by simp; omega) ?_
    intro v' h2 ho2 hc2 hb2
    have i1 := g1.id
    refine And.intro ho2 (And.intro (fun b hb => ?_) (g1.chg.fresh hc2 (by simp [ablk]; omega)))
    rcases hb2 b hb with h | h
    · simp [ablk] at h; omega
    · have := g1.size; omega

/-- A thing of nothing. -/
def zeroT : Thing := ⟨0, noText, [], [], [], false, 0⟩
def zeroV : List Value := [.int .i64 0, .string ⟨#[]⟩, .slice none 0 0, .slice none 0 0, .slice none 0 0, .bool false, .int .i64 0]

theorem zero_TH {h : Heap} : TH h zeroV zeroT := ⟨_, _, _, rfl, SL.nil, SL.nil, SL.nil⟩

theorem thing_one {vs : List Value} {t : Thing} {h : Heap} (x : TH h vs t) : ∀ u ∈ vs, u.oneCell' = true := by
  obtain ⟨pv, lv, rv, rfl, hp, hl, hr⟩ := x
  obtain ⟨pa, pc, rfl, _⟩ := hp.form
  obtain ⟨la, lc, rfl, _⟩ := hl.form
  obtain ⟨ra, rc, rfl, _⟩ := hr.form
  intro u hu
  simp at hu
  rcases hu with rfl | rfl | rfl | rfl | rfl | rfl | rfl <;> rfl

def cellsT (t : Thing) (pv lv rv : Value) : List Value := [.int .i64 t.kind, .string t.text, pv, lv, rv, .bool t.hasU, .int .i64 t.unt]
def bl3 (pv lv rv : Value) : List Nat := vblk pv ++ (vblk lv ++ vblk rv)

/-- A thing of the call's own. -/
structure TO (h : Heap) (pv lv rv : Value) (t : Thing) : Prop where
  p : OL encP 2 h pv t.pairs
  l : OL encS 1 h lv t.list
  r : OL encR 2 h rv t.ranks
  pl : ∀ b ∈ vblk pv, b ∉ vblk lv
  pr : ∀ b ∈ vblk pv, b ∉ vblk rv
  lr : ∀ b ∈ vblk lv, b ∉ vblk rv

theorem TO.chg {S : List Nat} {h h' : Heap} {pv lv rv : Value} {t : Thing} (o : TO h pv lv rv t) (c : Chg S h h') (hn : ∀ b ∈ bl3 pv lv rv, b ∉ S) : TO h' pv lv rv t :=
  ⟨o.p.chg c fun b hb => hn b (by simp [bl3, hb]), o.l.chg c fun b hb => hn b (by simp [bl3, hb]), o.r.chg c fun b hb => hn b (by simp [bl3, hb]), o.pl, o.pr, o.lr⟩
theorem TO.ext {h h' : Heap} {pv lv rv : Value} {t : Thing} (o : TO h pv lv rv t) (c : Chg [] h h') : TO h' pv lv rv t := o.chg c (by simp)
theorem TO.th {h : Heap} {pv lv rv : Value} {t : Thing} (o : TO h pv lv rv t) : TH h (cellsT t pv lv rv) t := ⟨pv, lv, rv, rfl, o.p.sl, o.l.sl, o.r.sl⟩
theorem bl3_cells {t : Thing} {pv lv rv v : Value} {b : Nat} (hv : v ∈ cellsT t pv lv rv) (hb : b ∈ vblk v) : b ∈ bl3 pv lv rv := by
  simp only [cellsT, List.mem_cons, List.not_mem_nil, or_false] at hv
  rcases hv with rfl | rfl | rfl | rfl | rfl | rfl | rfl
  · exact absurd (show b ∈ ([] : List Nat) from hb) (by simp)
  · exact absurd (show b ∈ ([] : List Nat) from hb) (by simp)
  · simp [bl3, hb]
  · simp [bl3, hb]
  · simp [bl3, hb]
  · exact absurd (show b ∈ ([] : List Nat) from hb) (by simp)
  · exact absurd (show b ∈ ([] : List Nat) from hb) (by simp)

theorem copied_own {h : Heap} {vs : List Value} {t : Thing} (x : TH h vs t) (n : Lens t) :
    CallsH Tryz.prog 46 [.agg ⟨vs⟩] h (Ret fun r h' => (∃ pv lv rv, r = .agg ⟨cellsT t pv lv rv⟩ ∧ TO h' pv lv rv t ∧ ∀ b ∈ bl3 pv lv rv, h.size ≤ b) ∧ Chg [] h h') := by
  refine f46_calls (by simp) ?_
  intro b1 h1 g1
  intro b2 h2 g2
  have B1 : Blk h2 b1 vs := (show Blk h1 b1 vs from g1.blk).chg g2.chg (by simp)
  have hc2 := g1.chg.nil g2.chg
  have i1 := g1.id
  have i2 := g2.id
  have z1 := g1.size
  obtain ⟨pv, lv, rv, rfl, hp, hl, hr⟩ := x.ext hc2
  obtain ⟨pa, pc, rfl, _⟩ := hp.form
  obtain ⟨la, lc, rfl, _⟩ := hl.form
  obtain ⟨ra, rc, rfl, _⟩ := hr.form
  refine Exists.intro _ (And.intro (cell_blk B1 rfl) (Exists.intro _ (And.intro (cell_blk B1 rfl) (Exists.intro _ (And.intro (cell_blk B1 rfl) ?_)))))
  refine callq_ret (clP_calls hp n.p) ?_
  rintro r3 h3 ⟨hp3, hb3, hc3⟩
  refine And.intro hc3.ext ?_
  refine callq_ret (clS_calls (hl.ext hc3) n.l) ?_
  rintro r4 h4 ⟨hl4, hb4, hc4⟩
  refine And.intro hc4.ext ?_
  refine callq_ret (clR_calls ((hr.ext hc3).ext hc4) n.r) ?_
  rintro r5 h5 ⟨hr5, hb5, hc5⟩
  refine And.intro hc5.ext ?_
  have hc35 := (hc3.nil hc4).nil hc5
  have B5 := B1.chg hc35 (by simp)
  have lp3 := hp3.lt
  have ll4 := hl4.lt
  have s3 := hc3.size
  have s4 := hc4.size
  have s5 := hc5.size
  have s2 := hc2.size
  have hz2 := g2.size
  have o5 : TO h5 r3 r4 r5 t := ⟨(hp3.ext hc4).ext hc5, hl4.ext hc5, hr5, fun b hb hx => by have := lp3 b hb; have := hb4 b hx; omega, fun b hb hx => by have := lp3 b hb; have := hb5 b hx; omega, fun b hb hx => by have := ll4 b hb; have := hb5 b hx; omega⟩
  have fr : ∀ b ∈ bl3 r3 r4 r5, h2.size ≤ b := by
    intro b hb
    simp only [bl3, List.mem_append] at hb
    rcases hb with hb | hb | hb
    · exact hb3 b hb
    · have := hb4 b hb; omega
    · have := hb5 b hb; omega
  obtain ⟨qa, qc, rfl, _⟩ := hp3.sl.form
  obtain ⟨ma, mc, rfl, _⟩ := hl4.sl.form
  obtain ⟨sa, sc, rfl, _⟩ := hr5.sl.form
  refine Exists.intro _ (And.intro B5 (And.intro (by simp) (And.intro rfl (And.intro (ones1 rfl) ?_))))
  intro h6 p6
  have B6 : Blk h6 b1 (cellsT t (.slice qa t.pairs.length qc) (.slice la t.list.length lc) (.slice ra t.ranks.length rc)) := p6.blk
  refine Exists.intro _ (And.intro B6 (And.intro (by simp [cellsT]) (And.intro rfl (And.intro (ones1 rfl) ?_))))
  intro h7 p7
  have B7 : Blk h7 b1 (cellsT t (.slice qa t.pairs.length qc) (.slice ma t.list.length mc) (.slice ra t.ranks.length rc)) := p7.blk
  refine Exists.intro _ (And.intro B7 (And.intro (by simp [cellsT]) (And.intro rfl (And.intro (ones1 rfl) ?_))))
  intro h8 p8
  have B8 : Blk h8 b1 (cellsT t (.slice qa t.pairs.length qc) (.slice ma t.list.length mc) (.slice sa t.ranks.length sc)) := p8.blk
  have c58 : Chg [b1] h5 h8 := (p6.chg.trans p7.chg (U := [b1]) (fun _ h => h) (fun _ h _ => h)).trans p8.chg (fun _ h => h) (fun _ h _ => h)
  have o8 := o5.chg c58 (fun b hb => by have := fr b hb; simp; omega)
  refine Exists.intro _ (And.intro rfl (And.intro (cells_blk B8) ?_))
  have Bz : Blk h8 b2 zeroV := ((show Blk h2 b2 zeroV from g2.blk).chg hc35 (by simp)).chg c58 (by simp; omega)
  refine Exists.intro _ (And.intro Bz (And.intro (by decide) (And.intro rfl (And.intro (thing_one o8.th) ?_))))
  intro h9 p9
  have B9 : Blk h9 b2 (cellsT t (.slice qa t.pairs.length qc) (.slice ma t.list.length mc) (.slice sa t.ranks.length sc)) := p9.blk
  have hc29 : Chg [] h h9 := ((hc2.nil hc35).fresh c58 (by simp; omega)).fresh p9.chg (by simp; omega)
  refine Exists.intro _ (And.intro rfl (And.intro (cells_blk B9) ?_))
  exact And.intro (Exists.intro _ (Exists.intro _ (Exists.intro _ (And.intro rfl (And.intro (o8.chg p9.chg (fun b hb => by have := fr b hb; simp; omega)) (fun b hb => by have := fr b hb; omega)))))) hc29

theorem copied_calls {h : Heap} {vs : List Value} {t : Thing} (x : TH h vs t) (n : Lens t) :
    CallsH Tryz.prog 46 [.agg ⟨vs⟩] h (Ret fun r h' => (∃ us, r = .agg ⟨us⟩ ∧ TH h' us t ∧ ∀ v ∈ us, ∀ b ∈ vblk v, h.size ≤ b) ∧ Chg [] h h') := by
  refine (copied_own x n).mono fun e h' he => ?_
  cases e with
  | returned v =>
    obtain ⟨⟨pv, lv, rv, hv, o, fr⟩, c⟩ := he
    exact ⟨⟨_, hv, o.th, fun v hv b hb => fr b (bl3_cells hv hb)⟩, c⟩
  | panicked ch => exact he.elim
  | outgrown => exact he.elim

theorem gone_calls {h : Heap} {vs : List Value} {t : Thing} (x : TH h vs t) (now : Int) :
    CallsH Tryz.prog 103 [.agg ⟨vs⟩, .int .i64 now] h (Ret fun r h' => r = .bool (t.hasU && decide (t.unt ≤ now)) ∧ Chg [] h h') := by
  refine f103_calls (by simp) ?_
  intro b1 h1 g1
  have B1 : Blk h1 b1 vs := g1.blk
  obtain ⟨pv, lv, rv, rfl, hp, hl, hr⟩ := x
  refine Exists.intro _ (And.intro (cell_blk B1 rfl) ?_)
  cases hU : t.hasU with
  | false => exact And.intro rfl g1.chg
  | true =>
    refine Exists.intro _ (And.intro (cell_blk B1 rfl) ?_)
    refine And.intro rfl (And.intro (fun hl => ?_) (fun hl => ?_))
    · exact And.intro (by rw [decide_eq_true hl]; rfl) g1.chg
    · exact And.intro (by rw [decide_eq_false hl]; rfl) g1.chg

theorem TH.chg {S : List Nat} {h h' : Heap} {vs : List Value} {t : Thing} (x : TH h vs t) (hc : Chg S h h') (hn : ∀ v ∈ vs, ∀ b ∈ vblk v, b ∉ S) : TH h' vs t := by
  obtain ⟨pv, lv, rv, rfl, h2, h3, h4⟩ := x
  exact ⟨pv, lv, rv, rfl, h2.chg hc (hn pv (by simp)), h3.chg hc (hn lv (by simp)), h4.chg hc (hn rv (by simp))⟩

def ptr (b : Nat) : Value := .pointer (some ⟨b, 0, none⟩)

/-- A keyspace's blocks; its map. -/
structure KS (h : Heap) (kb sb mb : Nat) : Prop where
  k : Blk h kb [ptr sb]
  s : Blk h sb [.map (some mb)]

theorem KS.chg {S : List Nat} {h h' : Heap} {kb sb mb : Nat} (x : KS h kb sb mb) (hc : Chg S h h') (h1 : kb ∉ S) (h2 : sb ∉ S) : KS h' kb sb mb := ⟨x.k.chg hc h1, x.s.chg hc h2⟩

theorem none_calls {h : Heap} {kb sb mb : Nat} (x : KS h kb sb mb) : CallsH Tryz.prog 52 [ptr kb] h (Ret fun r h' => r = .bool false ∧ h' = h) := by
  refine f52_calls (by simp) ?_
  refine Exists.intro _ (And.intro (cell_blk x.k rfl) ?_)
  exact ⟨rfl, rfl⟩

theorem New_calls {h : Heap} : CallsH Tryz.prog 18 [] h (Ret fun r h' => ∃ kb sb mb, r = ptr kb ∧ KS h' kb sb mb ∧ MapB h' mb [] 0 ∧ mb = h.size ∧ sb = h.size + 1 ∧ kb = h.size + 2 ∧ Chg [] h h') := by
  refine f18_calls (by simp) ?_
  intro mb h1 g1
  intro sb h2 g2
  intro kb h3 g3
  have i1 := g1.id
  have i2 := g2.id
  have i3 := g3.id
  have z1 := g1.size
  have z2 := g2.size
  refine Exists.intro kb (Exists.intro sb (Exists.intro mb (And.intro rfl (And.intro ⟨g3.blk, (show Blk h2 sb _ from g2.blk).chg g3.chg (by simp)⟩ (And.intro ?_ (And.intro i1 (And.intro (by omega) (And.intro (by omega) ?_))))))))
  · exact MapB.chg (MapB.chg (show MapB h1 mb [] 0 from g1.blk) g2.chg (by simp)) g3.chg (by simp)
  · exact (g1.chg.nil g2.chg).nil g3.chg

end Go.Proofs.YtigolfakcblnjaaGreatDoor
namespace Go.Proofs.YtigolfakcblnjaaGreatDoor
open Go Go.Sx Go.Proofs.YtigolfakcblnjaaGreatDoor.C

/-- Entries of numbers, in the order in which they came. -/
def entsI : List (Int × Value) → Nat → List MapEntry
  | [], _ => []
  | (k, v) :: r, n => { key := .int .i64 k, val := v, born := n } :: entsI r (n + 1)

def ruleV (name text number : Bool) (kind : Int) (makes : Bool) (f : Nat) : Value := .agg ⟨[.bool name, .bool text, .bool number, .int .i64 kind, .bool makes, .func (.func f) #[] #[]]⟩

def ruleL : List (Int × Value) := [
  (1, ruleV false false false 0 false 147), (2, ruleV false true false 0 true 148), (3, ruleV false false true 0 false 149), (4, ruleV false false false 0 false 150),
  (5, ruleV true true false 2 true 151), (6, ruleV true false false 2 false 152), (7, ruleV false true false 3 true 153), (8, ruleV false true false 3 true 155),
  (9, ruleV false false false 3 false 156), (10, ruleV false false false 3 false 157), (11, ruleV false true true 3 false 158), (12, ruleV true false false 4 true 159),
  (13, ruleV true false false 4 false 160), (14, ruleV true false true 5 true 161), (15, ruleV true false false 5 false 162)]

end Go.Proofs.YtigolfakcblnjaaGreatDoor
namespace Go.Proofs.YtigolfakcblnjaaGreatDoor
open Go Go.Sx Go.Proofs.YtigolfakcblnjaaGreatDoor.C

theorem Look_none {h : Heap} {kb sb mb c : Nat} {es : List MapEntry} {key : ByteArray} (ks : KS h kb sb mb) (hm : MapB h mb es c) (hf : ∀ e ∈ es, fits .str e.key = true) (hn : mfind (.string key) es 0 = none) :
    CallsH Tryz.prog 49 [ptr kb, .string key] h (Ret fun r h' => r = .tuple #[.agg ⟨zeroV⟩, .bool false] ∧ Chg [] h h') := by
  refine f49_calls (by simp) ?_
  intro b4 h1 g1
  have hc := g1.chg
  have ks1 := ks.chg hc (by simp) (by simp)
  have hm1 : MapB h1 mb es c := hm.chg hc (by simp)
  refine call_ret (none_calls ks1) ?_
  rintro _ h9 ⟨rfl, e9⟩
  have e9 := e9.symm
  subst e9
  refine Exists.intro _ (And.intro (cell_blk ks1.k rfl) (Exists.intro _ (And.intro (cell_blk ks1.s rfl) ?_)))
  refine And.intro rfl (Exists.intro es (Exists.intro c (And.intro hm1 (And.intro hf ?_))))
  rw [hn]
  refine Exists.intro _ (And.intro g1.blk (And.intro (by decide) (And.intro rfl (And.intro (thing_one (t := zeroT) (h := h1) zero_TH) ?_))))
  intro h2 p2
  have g2 := g1.put p2
  have B2 : Blk h2 b4 zeroV := p2.blk
  refine Exists.intro zeroV (And.intro rfl (And.intro (cells_blk B2) ?_))
  exact And.intro rfl g2.chg

/-! ### A text is put -/
def effV (nm tx : ByteArray) : List Value := [.int .i64 2, .string nm, .string noText, .string tx, .int .i64 0]
def textT (tx : ByteArray) : Thing := ⟨1, tx, [], [], [], false, 0⟩
def textV (tx : ByteArray) : List Value := [.int .i64 1, .string tx, .slice none 0 0, .slice none 0 0, .slice none 0 0, .bool false, .int .i64 0]
structure Kept (h : Heap) (kb sb mb c : Nat) : Prop where
  ks : KS h kb sb mb
  m : MapB h mb [] c
  kl : kb < h.size
  sl : sb < h.size
  ml : mb < h.size
  ne1 : kb ≠ mb
  ne2 : sb ≠ mb

theorem Kept.ext {h h' : Heap} {kb sb mb c : Nat} (x : Kept h kb sb mb c) (hc : Chg [] h h') : Kept h' kb sb mb c :=
  ⟨x.ks.chg hc (by simp) (by simp), x.m.chg hc (by simp), by have := x.kl; have := hc.size; omega, by have := x.sl; have := hc.size; omega, by have := x.ml; have := hc.size; omega, x.ne1, x.ne2⟩

/-- What is so when a text has been put. -/
def TextPut (kb sb mb c : Nat) (nm tx : ByteArray) (h h' : Heap) : Prop :=
  ∃ tb, MapB h' mb [{ key := .string nm, val := ptr tb, born := c }] (c + 1) ∧ Blk h' tb (textV tx) ∧ h.size ≤ tb ∧ KS h' kb sb mb ∧ Chg [mb] h h'

end Go.Proofs.YtigolfakcblnjaaGreatDoor
namespace Go.Proofs.YtigolfakcblnjaaGreatDoor
open Go Go.Sx Go.Proofs.YtigolfakcblnjaaGreatDoor.C

theorem seven {ws vs : List Value} (hw : ws.length = 7) (hv : vs.length = 7) : splice ws 0 vs = vs := by
  match ws, hw, vs, hv with
  | [_, _, _, _, _, _, _], _, [_, _, _, _, _, _, _], _ => rfl

end Go.Proofs.YtigolfakcblnjaaGreatDoor
