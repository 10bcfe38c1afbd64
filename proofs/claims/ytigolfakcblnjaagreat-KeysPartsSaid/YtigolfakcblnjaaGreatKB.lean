/-
  Layer 7: lists compared, lists that rise (printed by gen.py).
-/
import Derived.Test.YtigolfakcblnjaaGreatKA
namespace Go.Proofs.YtigolfakcblnjaaGreat
open Go Go.Sx Go.Proofs.YtigolfakcblnjaaGreat.C

structure Pair where
  name : ByteArray
  text : ByteArray
  deriving DecidableEq
structure Rank where
  name : ByteArray
  score : Int
  deriving DecidableEq

def encP (p : Pair) : List Value := [.string p.name, .string p.text]
def encR (r : Rank) : List Value := [.string r.name, .int .i64 r.score]
def encS (s : ByteArray) : List Value := [.string s]
theorem encP_len (p : Pair) : (encP p).length = 2 := rfl
theorem encR_len (p : Rank) : (encR p).length = 2 := rfl
theorem encS_len (p : ByteArray) : (encS p).length = 1 := rfl
theorem encP_one (r : Pair) : ∀ u ∈ encP r, u.oneCell' = true := by
  intro u hu
  simp [encP] at hu
  rcases hu with rfl | rfl <;> rfl
theorem encR_one (r : Rank) : ∀ u ∈ encR r, u.oneCell' = true := by
  intro u hu
  simp [encR] at hu
  rcases hu with rfl | rfl <;> rfl
theorem encS_one (r : ByteArray) : ∀ u ∈ encS r, u.oneCell' = true := by
  intro u hu
  simp [encS] at hu
  rw [hu]; rfl
theorem encP_inj {a b : Pair} (h : encP a = encP b) : a = b := by
  cases a; cases b; simp [encP] at h; simp [h]
theorem encR_inj {a b : Rank} (h : encR a = encR b) : a = b := by
  cases a; cases b; simp [encR] at h; simp [h]

theorem take_snoc {α : Type} (l : List α) (k : Nat) (h : k < l.length) : l.take (k + 1) = l.take k ++ [l[k]] := by
  rw [List.take_succ_eq_append_getElem h]

/-- Does each stand behind the one ahead of it? -/
def rising {α : Type} (lt : α → α → Bool) : List α → Bool
  | x :: y :: l => lt x y && rising lt (y :: l)
  | _ => true

theorem rising_short {α : Type} {lt : α → α → Bool} : ∀ {l : List α}, l.length ≤ 1 → rising lt l = true
  | [], _ => rfl
  | [_], _ => rfl
  | _ :: _ :: _, h => by simp at h

theorem drop_two {α : Type} {l : List α} {k : Nat} (h1 : 1 ≤ k) (h : k < l.length) : l.drop (k - 1) = l[k - 1] :: l[k] :: l.drop (k + 1) := by
  rw [List.drop_eq_getElem_cons (show k - 1 < l.length by omega)]
  have e : k - 1 + 1 = k := by omega
  rw [e, List.drop_eq_getElem_cons h]

theorem eqP_calls {h : Heap} {v u : Value} {l m : List Pair} (hv : SL encP h v l) (hu : SL encP h u m) (hl : l.length < 4611686018427387904) (hm : m.length < 4611686018427387904) :
    CallsH Tryz.prog 40 [v, u] h (Ret fun r h' => r = .bool (decide (l = m)) ∧ h' = h) := by
  obtain ⟨a, c, rfl, hlc⟩ := hv.form
  obtain ⟨a', c', rfl, hmc⟩ := hu.form
  refine f40_calls (by simp) ?_
  refine And.intro rfl (And.intro (fun hne => ?_) (fun hne => ?_))
  · exact And.intro (by rw [decide_eq_false (by rintro rfl; exact absurd rfl hne)]; rfl) rfl
  · have hlen : l.length = m.length := by omega
    refine loop_intro (fun k : Nat => [(0, .slice a l.length c), (1, .slice a' m.length c'), (12, .int .i64 l.length), (13, .int .i64 k)]) (fun k h' => k ≤ l.length ∧ h' = h ∧ l.take k = m.take k) (fun k => l.length - k) 0 ⟨rfl, rfl, rfl, rfl, trivial⟩ ⟨Nat.zero_le _, rfl, rfl⟩ ?_
    rintro k h' ⟨hk, rfl, ht⟩
    refine And.intro rfl (And.intro (fun hlt => ?_) (fun hlt => ?_))
    · have hlt : k < l.length := by omega
      have hltm : k < m.length := by omega
      obtain ⟨b, o, rfl⟩ := hv.addr (by omega)
      obtain ⟨b', o', rfl⟩ := hu.addr (by omega)
      have hcs := hv.cells encP_len (i := k) (x := l[k]) (by simp [hlt])
      have hds := hu.cells encP_len (i := k) (x := m[k]) (by simp [hltm])
      refine And.intro (by omega) (And.intro (by omega) (Exists.intro (encP l[k]) (And.intro rfl (And.intro hcs ?_))))
      refine And.intro (by omega) (And.intro (by omega) (Exists.intro (encP m[k]) (And.intro rfl (And.intro hds ?_))))
      refine And.intro rfl (And.intro rfl (And.intro (fun he => ?_) (fun hd => ?_)))
      · have he' : l[k] = m[k] := encP_inj he
        refine And.intro rfl (fun z hz => ?_)
        have hz := add_in hz (by omega) (by omega)
        subst hz
        refine And.intro rfl (Exists.intro (k + 1) (And.intro ?_ (And.intro ?_ ?_)))
        · exact ⟨rfl, rfl, rfl, rfl, trivial⟩
        · exact ⟨by omega, rfl, by rw [take_snoc l k hlt, take_snoc m k hltm, ht, he']⟩
        · omega
      · exact And.intro (by rw [decide_eq_false (by intro e; subst e; exact absurd rfl hd)]; rfl) rfl
    · have hkl : k = l.length := by omega
      rw [hkl, List.take_length, hlen, List.take_length] at ht
      exact And.intro (by rw [decide_eq_true ht]; rfl) rfl

/-- What a function that compares gives. -/
def OrdP (g : Nat) (lt : Pair → Pair → Bool) (h : Heap) : Prop := ∀ h' x y, Chg [] h h' → CallsH Tryz.prog g [.agg ⟨encP x⟩, .agg ⟨encP y⟩] h' (Ret fun u h'' => (∃ z, u = .int .i64 z ∧ (z < 0 ↔ lt x y = true)) ∧ Chg [] h' h'')

theorem risP_calls {h : Heap} {v : Value} {l : List Pair} {g : Nat} {lt : Pair → Pair → Bool} (hv : SL encP h v l) (hl : l.length < 4611686018427387904) (hg : OrdP g lt h) :
    CallsH Tryz.prog 26 [v, .func (.func g) #[] #[]] h (Ret fun r h' => r = .bool (rising lt l) ∧ Chg [] h h') := by
  obtain ⟨a, c, rfl, hlc⟩ := hv.form
  refine f26_calls (by simp) ?_
  refine loop_intro (fun k : Nat => [(0, .slice a l.length c), (1, .func (.func g) #[] #[]), (5, .int .i64 k)]) (fun k h' => 1 ≤ k ∧ k ≤ l.length + 1 ∧ Chg [] h h' ∧ rising lt l = rising lt (l.drop (k - 1))) (fun k => l.length + 1 - k) 1 ⟨rfl, rfl, rfl, trivial⟩ ⟨Nat.le_refl _, by omega, Chg.refl h, rfl⟩ ?_
  rintro k h1 ⟨hk1, hk, hc, hr⟩
  refine And.intro rfl (And.intro (fun hlt => ?_) (fun hlt => ?_))
  · have hlt : k < l.length := by omega
    have hv1 := hv.ext hc
    obtain ⟨b, o, rfl⟩ := hv.addr (by omega)
    have hcs := hv1.cells encP_len (i := k - 1) (x := l[k - 1]) (by simp)
    have hds := hv1.cells encP_len (i := k) (x := l[k]) (by simp [hlt])
    refine And.intro rfl (fun z hz => ?_)
    have hz := sub_in hz (by omega) (by omega)
    have hz : z = ((k - 1 : Nat) : Int) := by omega
    subst hz
    refine And.intro (by omega) (And.intro (by omega) (Exists.intro (encP l[k - 1]) (And.intro rfl (And.intro hcs ?_))))
    refine And.intro (by omega) (And.intro (by omega) (Exists.intro (encP l[k]) (And.intro rfl (And.intro hds ?_))))
    refine call_ret (hg h1 l[k - 1] l[k] hc) ?_
    rintro _ h2 ⟨⟨z, rfl, hzn⟩, hc2⟩
    rw [drop_two hk1 hlt, rising] at hr
    have e1 : l[k] :: l.drop (k + 1) = l.drop k := by rw [List.drop_eq_getElem_cons hlt]
    rw [e1] at hr
    refine And.intro rfl (And.intro (fun hge => ?_) (fun hge => ?_))
    · refine And.intro ?_ (hc.nil hc2)
      have : lt l[k - 1] l[k] = false := by
        cases hb : lt l[k - 1] l[k] with
        | false => rfl
        | true => have := hzn.2 hb; omega
      rw [hr, this]; rfl
    · have hb : lt l[k - 1] l[k] = true := hzn.1 (by omega)
      rw [hb, Bool.true_and] at hr
      refine And.intro rfl (fun y hy => ?_)
      have hy := add_in hy (by omega) (by omega)
      subst hy
      refine And.intro rfl (Exists.intro (k + 1) (And.intro ?_ (And.intro ?_ ?_)))
      · exact ⟨rfl, rfl, rfl, trivial⟩
      · exact ⟨by omega, by omega, hc.nil hc2, by rw [Nat.add_sub_cancel]; exact hr⟩
      · omega
  · refine And.intro ?_ hc
    rw [hr, rising_short (by simp; omega)]; rfl

theorem eqS_calls {h : Heap} {v u : Value} {l m : List ByteArray} (hv : SL encS h v l) (hu : SL encS h u m) (hl : l.length < 4611686018427387904) (hm : m.length < 4611686018427387904) :
    CallsH Tryz.prog 41 [v, u] h (Ret fun r h' => r = .bool (decide (l = m)) ∧ h' = h) := by
  obtain ⟨a, c, rfl, hlc⟩ := hv.form
  obtain ⟨a', c', rfl, hmc⟩ := hu.form
  refine f41_calls (by simp) ?_
  refine And.intro rfl (And.intro (fun hne => ?_) (fun hne => ?_))
  · exact And.intro (by rw [decide_eq_false (by rintro rfl; exact absurd rfl hne)]; rfl) rfl
  · have hlen : l.length = m.length := by omega
    refine loop_intro (fun k : Nat => [(0, .slice a l.length c), (1, .slice a' m.length c'), (12, .int .i64 l.length), (13, .int .i64 k)]) (fun k h' => k ≤ l.length ∧ h' = h ∧ l.take k = m.take k) (fun k => l.length - k) 0 ⟨rfl, rfl, rfl, rfl, trivial⟩ ⟨Nat.zero_le _, rfl, rfl⟩ ?_
    rintro k h' ⟨hk, rfl, ht⟩
    refine And.intro rfl (And.intro (fun hlt => ?_) (fun hlt => ?_))
    · have hlt : k < l.length := by omega
      have hltm : k < m.length := by omega
      obtain ⟨b, o, rfl⟩ := hv.addr (by omega)
      obtain ⟨b', o', rfl⟩ := hu.addr (by omega)
      have hcs := hv.cells encS_len (i := k) (x := l[k]) (by simp [hlt])
      have hds := hu.cells encS_len (i := k) (x := m[k]) (by simp [hltm])
      refine And.intro (by omega) (And.intro (by omega) (Exists.intro _ (And.intro (hcs 0 _ rfl) ?_)))
      refine And.intro (by omega) (And.intro (by omega) (Exists.intro _ (And.intro (hds 0 _ rfl) ?_)))
      refine And.intro (fun hd => ?_) (fun hd => ?_)
      rotate_left
      · have he' : l[k] = m[k] := Decidable.not_not.1 hd
        refine And.intro rfl (fun z hz => ?_)
        have hz := add_in hz (by omega) (by omega)
        subst hz
        refine And.intro rfl (Exists.intro (k + 1) (And.intro ?_ (And.intro ?_ ?_)))
        · exact ⟨rfl, rfl, rfl, rfl, trivial⟩
        · exact ⟨by omega, rfl, by rw [take_snoc l k hlt, take_snoc m k hltm, ht, he']⟩
        · omega
      · exact And.intro (by rw [decide_eq_false (by intro e; subst e; exact absurd rfl hd)]; rfl) rfl
    · have hkl : k = l.length := by omega
      rw [hkl, List.take_length, hlen, List.take_length] at ht
      exact And.intro (by rw [decide_eq_true ht]; rfl) rfl

/-- What a function that compares gives. -/
def OrdS (g : Nat) (lt : ByteArray → ByteArray → Bool) (h : Heap) : Prop := ∀ h' x y, Chg [] h h' → CallsH Tryz.prog g [.string x, .string y] h' (Ret fun u h'' => (∃ z, u = .int .i64 z ∧ (z < 0 ↔ lt x y = true)) ∧ Chg [] h' h'')

theorem risS_calls {h : Heap} {v : Value} {l : List ByteArray} {g : Nat} {lt : ByteArray → ByteArray → Bool} (hv : SL encS h v l) (hl : l.length < 4611686018427387904) (hg : OrdS g lt h) :
    CallsH Tryz.prog 29 [v, .func (.func g) #[] #[]] h (Ret fun r h' => r = .bool (rising lt l) ∧ Chg [] h h') := by
  obtain ⟨a, c, rfl, hlc⟩ := hv.form
  refine f29_calls (by simp) ?_
  refine loop_intro (fun k : Nat => [(0, .slice a l.length c), (1, .func (.func g) #[] #[]), (5, .int .i64 k)]) (fun k h' => 1 ≤ k ∧ k ≤ l.length + 1 ∧ Chg [] h h' ∧ rising lt l = rising lt (l.drop (k - 1))) (fun k => l.length + 1 - k) 1 ⟨rfl, rfl, rfl, trivial⟩ ⟨Nat.le_refl _, by omega, Chg.refl h, rfl⟩ ?_
  rintro k h1 ⟨hk1, hk, hc, hr⟩
  refine And.intro rfl (And.intro (fun hlt => ?_) (fun hlt => ?_))
  · have hlt : k < l.length := by omega
    have hv1 := hv.ext hc
    obtain ⟨b, o, rfl⟩ := hv.addr (by omega)
    have hcs := hv1.cells encS_len (i := k - 1) (x := l[k - 1]) (by simp)
    have hds := hv1.cells encS_len (i := k) (x := l[k]) (by simp [hlt])
    refine And.intro rfl (fun z hz => ?_)
    have hz := sub_in hz (by omega) (by omega)
    have hz : z = ((k - 1 : Nat) : Int) := by omega
    subst hz
    refine And.intro (by omega) (And.intro (by omega) (Exists.intro _ (And.intro (hcs 0 _ rfl) ?_)))
    refine And.intro (by omega) (And.intro (by omega) (Exists.intro _ (And.intro (hds 0 _ rfl) ?_)))
    refine call_ret (hg h1 l[k - 1] l[k] hc) ?_
    rintro _ h2 ⟨⟨z, rfl, hzn⟩, hc2⟩
    rw [drop_two hk1 hlt, rising] at hr
    have e1 : l[k] :: l.drop (k + 1) = l.drop k := by rw [List.drop_eq_getElem_cons hlt]
    rw [e1] at hr
    refine And.intro rfl (And.intro (fun hge => ?_) (fun hge => ?_))
    · refine And.intro ?_ (hc.nil hc2)
      have : lt l[k - 1] l[k] = false := by
        cases hb : lt l[k - 1] l[k] with
        | false => rfl
        | true => have := hzn.2 hb; omega
      rw [hr, this]; rfl
    · have hb : lt l[k - 1] l[k] = true := hzn.1 (by omega)
      rw [hb, Bool.true_and] at hr
      refine And.intro rfl (fun y hy => ?_)
      have hy := add_in hy (by omega) (by omega)
      subst hy
      refine And.intro rfl (Exists.intro (k + 1) (And.intro ?_ (And.intro ?_ ?_)))
      · exact ⟨rfl, rfl, rfl, trivial⟩
      · exact ⟨by omega, by omega, hc.nil hc2, by rw [Nat.add_sub_cancel]; exact hr⟩
      · omega
  · refine And.intro ?_ hc
    rw [hr, rising_short (by simp; omega)]; rfl

theorem eqR_calls {h : Heap} {v u : Value} {l m : List Rank} (hv : SL encR h v l) (hu : SL encR h u m) (hl : l.length < 4611686018427387904) (hm : m.length < 4611686018427387904) :
    CallsH Tryz.prog 42 [v, u] h (Ret fun r h' => r = .bool (decide (l = m)) ∧ h' = h) := by
  obtain ⟨a, c, rfl, hlc⟩ := hv.form
  obtain ⟨a', c', rfl, hmc⟩ := hu.form
  refine f42_calls (by simp) ?_
  refine And.intro rfl (And.intro (fun hne => ?_) (fun hne => ?_))
  · exact And.intro (by rw [decide_eq_false (by rintro rfl; exact absurd rfl hne)]; rfl) rfl
  · have hlen : l.length = m.length := by omega
    refine loop_intro (fun k : Nat => [(0, .slice a l.length c), (1, .slice a' m.length c'), (12, .int .i64 l.length), (13, .int .i64 k)]) (fun k h' => k ≤ l.length ∧ h' = h ∧ l.take k = m.take k) (fun k => l.length - k) 0 ⟨rfl, rfl, rfl, rfl, trivial⟩ ⟨Nat.zero_le _, rfl, rfl⟩ ?_
    rintro k h' ⟨hk, rfl, ht⟩
    refine And.intro rfl (And.intro (fun hlt => ?_) (fun hlt => ?_))
    · have hlt : k < l.length := by omega
      have hltm : k < m.length := by omega
      obtain ⟨b, o, rfl⟩ := hv.addr (by omega)
      obtain ⟨b', o', rfl⟩ := hu.addr (by omega)
      have hcs := hv.cells encR_len (i := k) (x := l[k]) (by simp [hlt])
      have hds := hu.cells encR_len (i := k) (x := m[k]) (by simp [hltm])
      refine And.intro (by omega) (And.intro (by omega) (Exists.intro (encR l[k]) (And.intro rfl (And.intro hcs ?_))))
      refine And.intro (by omega) (And.intro (by omega) (Exists.intro (encR m[k]) (And.intro rfl (And.intro hds ?_))))
      refine And.intro rfl (And.intro rfl (And.intro (fun he => ?_) (fun hd => ?_)))
      · have he' : l[k] = m[k] := encR_inj he
        refine And.intro rfl (fun z hz => ?_)
        have hz := add_in hz (by omega) (by omega)
        subst hz
        refine And.intro rfl (Exists.intro (k + 1) (And.intro ?_ (And.intro ?_ ?_)))
        · exact ⟨rfl, rfl, rfl, rfl, trivial⟩
        · exact ⟨by omega, rfl, by rw [take_snoc l k hlt, take_snoc m k hltm, ht, he']⟩
        · omega
      · exact And.intro (by rw [decide_eq_false (by intro e; subst e; exact absurd rfl hd)]; rfl) rfl
    · have hkl : k = l.length := by omega
      rw [hkl, List.take_length, hlen, List.take_length] at ht
      exact And.intro (by rw [decide_eq_true ht]; rfl) rfl

/-- What a function that compares gives. -/
def OrdR (g : Nat) (lt : Rank → Rank → Bool) (h : Heap) : Prop := ∀ h' x y, Chg [] h h' → CallsH Tryz.prog g [.agg ⟨encR x⟩, .agg ⟨encR y⟩] h' (Ret fun u h'' => (∃ z, u = .int .i64 z ∧ (z < 0 ↔ lt x y = true)) ∧ Chg [] h' h'')

theorem risR_calls {h : Heap} {v : Value} {l : List Rank} {g : Nat} {lt : Rank → Rank → Bool} (hv : SL encR h v l) (hl : l.length < 4611686018427387904) (hg : OrdR g lt h) :
    CallsH Tryz.prog 30 [v, .func (.func g) #[] #[]] h (Ret fun r h' => r = .bool (rising lt l) ∧ Chg [] h h') := by
  obtain ⟨a, c, rfl, hlc⟩ := hv.form
  refine f30_calls (by simp) ?_
  refine loop_intro (fun k : Nat => [(0, .slice a l.length c), (1, .func (.func g) #[] #[]), (5, .int .i64 k)]) (fun k h' => 1 ≤ k ∧ k ≤ l.length + 1 ∧ Chg [] h h' ∧ rising lt l = rising lt (l.drop (k - 1))) (fun k => l.length + 1 - k) 1 ⟨rfl, rfl, rfl, trivial⟩ ⟨Nat.le_refl _, by omega, Chg.refl h, rfl⟩ ?_
  rintro k h1 ⟨hk1, hk, hc, hr⟩
  refine And.intro rfl (And.intro (fun hlt => ?_) (fun hlt => ?_))
  · have hlt : k < l.length := by omega
    have hv1 := hv.ext hc
    obtain ⟨b, o, rfl⟩ := hv.addr (by omega)
    have hcs := hv1.cells encR_len (i := k - 1) (x := l[k - 1]) (by simp)
    have hds := hv1.cells encR_len (i := k) (x := l[k]) (by simp [hlt])
    refine And.intro rfl (fun z hz => ?_)
    have hz := sub_in hz (by omega) (by omega)
    have hz : z = ((k - 1 : Nat) : Int) := by omega
    subst hz
    refine And.intro (by omega) (And.intro (by omega) (Exists.intro (encR l[k - 1]) (And.intro rfl (And.intro hcs ?_))))
    refine And.intro (by omega) (And.intro (by omega) (Exists.intro (encR l[k]) (And.intro rfl (And.intro hds ?_))))
    refine call_ret (hg h1 l[k - 1] l[k] hc) ?_
    rintro _ h2 ⟨⟨z, rfl, hzn⟩, hc2⟩
    rw [drop_two hk1 hlt, rising] at hr
    have e1 : l[k] :: l.drop (k + 1) = l.drop k := by rw [List.drop_eq_getElem_cons hlt]
    rw [e1] at hr
    refine And.intro rfl (And.intro (fun hge => ?_) (fun hge => ?_))
    · refine And.intro ?_ (hc.nil hc2)
      have : lt l[k - 1] l[k] = false := by
        cases hb : lt l[k - 1] l[k] with
        | false => rfl
        | true => have := hzn.2 hb; omega
      rw [hr, this]; rfl
    · have hb : lt l[k - 1] l[k] = true := hzn.1 (by omega)
      rw [hb, Bool.true_and] at hr
      refine And.intro rfl (fun y hy => ?_)
      have hy := add_in hy (by omega) (by omega)
      subst hy
      refine And.intro rfl (Exists.intro (k + 1) (And.intro ?_ (And.intro ?_ ?_)))
      · exact ⟨rfl, rfl, rfl, trivial⟩
      · exact ⟨by omega, by omega, hc.nil hc2, by rw [Nat.add_sub_cancel]; exact hr⟩
      · omega
  · refine And.intro ?_ hc
    rw [hr, rising_short (by simp; omega)]; rfl

end Go.Proofs.YtigolfakcblnjaaGreat
