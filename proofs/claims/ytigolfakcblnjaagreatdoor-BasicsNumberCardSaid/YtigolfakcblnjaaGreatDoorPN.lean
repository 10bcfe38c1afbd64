/-
  Layer 8: which texts are numbers, in plain words: what the library's parsing and printing come to is what the document's reading comes to.
-/
import Derived.Lib.ParseIntB
import Derived.Lib.ItoaNum
namespace Go.Num
open Go Go.Lib

def isDig (c : UInt8) : Prop := 48 ≤ c.toNat ∧ c.toNat ≤ 57
def allDig (d : List UInt8) : Prop := ∀ c ∈ d, isDig c
@[irreducible] def nxt (m : Nat) (c : UInt8) : Nat := m * 10 + (c.toNat - 48)
theorem nxt_eq (m : Nat) (c : UInt8) : nxt m c = m * 10 + (c.toNat - 48) := by unfold nxt; rfl
def valF (m : Nat) : List UInt8 → Nat
  | [] => m
  | c :: r => valF (nxt m c) r
abbrev val (d : List UInt8) : Nat := valF 0 d
theorem valF_nil (m : Nat) : valF m [] = m := rfl
theorem valF_cons (m : Nat) (c : UInt8) (r : List UInt8) : valF m (c :: r) = valF (nxt m c) r := rfl

/-- The reading of digits, as the document does it: below -2^63 it ends. -/
def stepD (T m : Nat) (c : UInt8) : Option Nat := if 48 ≤ c.toNat ∧ c.toNat ≤ 57 then (if T < nxt m c then none else some (nxt m c)) else none
def runD (T m : Nat) : List UInt8 → Option Nat
  | [] => some m
  | c :: r => match stepD T m c with
    | some k => runD T k r
    | none => none

def refTail (T : Nat) (neg : Bool) (d : List UInt8) : Option Int :=
  match runD T 0 d with
  | none => none
  | some m => if neg then some (-(m : Int)) else if m = T then none else some m
def refBody (T : Nat) (neg : Bool) (d : List UInt8) : Option Int :=
  if d = [] ∨ (1 < d.length ∧ d.head? = some 48) ∨ (neg = true ∧ d = [48]) then none else refTail T neg d
def refNum (T : Nat) (l : List UInt8) : Option Int :=
  if l = [] ∨ 20 < l.length then none else if l.head? = some 45 then refBody T true l.tail else refBody T false l

/-- What the program makes of a text. -/
def num (l : List UInt8) : Option Int :=
  match parseIntB 64 l with
  | .ok v => if itoa v = l then some v else none
  | _ => none

theorem runD_nil (T m : Nat) : runD T m [] = some m := rfl
theorem runD_cons (T m : Nat) (c : UInt8) (r : List UInt8) : runD T m (c :: r) = if 48 ≤ c.toNat ∧ c.toNat ≤ 57 then (if T < nxt m c then none else runD T (nxt m c) r) else none := by
  show (match stepD T m c with | some k => runD T k r | none => none) = _
  unfold stepD
  by_cases h1 : 48 ≤ c.toNat ∧ c.toNat ≤ 57
  · rw [if_pos h1, if_pos h1]
    by_cases h2 : T < nxt m c
    · rw [if_pos h2, if_pos h2]
    · rw [if_neg h2, if_neg h2]
  · rw [if_neg h1, if_neg h1]

theorem valF_ge (m : Nat) : ∀ d : List UInt8, m ≤ valF m d
  | [] => Nat.le_refl _
  | c :: r => Nat.le_trans (by rw [nxt_eq]; omega) (valF_ge (nxt m c) r)
theorem valF_snoc (c : UInt8) : ∀ (m : Nat) (d : List UInt8), valF m (d ++ [c]) = valF m d * 10 + (c.toNat - 48)
  | m, [] => nxt_eq m c
  | m, x :: r => valF_snoc c (nxt m x) r

theorem runD_iff {T : Nat} : ∀ (d : List UInt8) (m k : Nat), m ≤ T → (runD T m d = some k ↔ allDig d ∧ valF m d = k ∧ k ≤ T)
  | [], m, k, hm => by
    rw [runD_nil, valF_nil]
    simp only [Option.some.injEq]
    exact ⟨fun h => ⟨(by intro c hc; cases hc), h, by omega⟩, fun h => h.2.1⟩
  | c :: r, m, k, hm => by
    rw [runD_cons, valF_cons]
    by_cases hd : 48 ≤ c.toNat ∧ c.toNat ≤ 57
    · rw [if_pos hd]
      by_cases hb : T < nxt m c
      · rw [if_pos hb]
        refine ⟨fun h => (by cases h), fun ⟨_, h2, h3⟩ => ?_⟩
        have := valF_ge (nxt m c) r
        omega
      · rw [if_neg hb, runD_iff r _ k (by omega)]
        refine ⟨fun ⟨h1, h2⟩ => ⟨fun x hx => ?_, h2⟩, fun ⟨h1, h2⟩ => ⟨fun x hx => h1 x (by simp [hx]), h2⟩⟩
        rcases List.mem_cons.1 hx with rfl | hx
        · exact hd
        · exact h1 x hx
    · rw [if_neg hd]
      exact ⟨fun h => (by cases h), fun ⟨h1, _⟩ => absurd (h1 c (by simp)) hd⟩

theorem parseM_ok : ∀ (d : List UInt8) (m : Nat), allDig d → valF m d ≤ 18446744073709551615 → parseUintM 18446744073709551615 m d = .ok (valF m d)
  | [], m, _, _ => by rw [valF_nil]; unfold parseUintM; rfl
  | c :: r, m, hd, hv => by
    have h1 : isDig c := hd c (by simp)
    have hge := valF_ge (nxt m c) r
    have hn := nxt_eq m c
    rw [valF_cons] at hv ⊢
    unfold parseUintM
    rw [if_pos (show 48 ≤ c.toNat ∧ c.toNat ≤ 57 from h1), if_neg (by omega), if_neg (by omega), ← hn]
    exact parseM_ok r _ (fun x hx => hd x (by simp [hx])) hv

theorem byte_eq {c : UInt8} (h : isDig c) : UInt8.ofNat (48 + (c.toNat - 48)) = c := by
  have : 48 + (c.toNat - 48) = c.toNat := by have := h.1; omega
  rw [this]; exact UInt8.ofNat_toNat

/-- A digit's byte. -/
def dgt (x : Nat) : UInt8 := UInt8.ofNat (48 + x)
theorem byte_dig {x : Nat} (h : x < 10) : isDig (dgt x) ∧ (dgt x).toNat = 48 + x := by
  unfold dgt
  have : (UInt8.ofNat (48 + x)).toNat = 48 + x := by rw [UInt8.toNat_ofNat']; omega
  exact ⟨⟨by omega, by omega⟩, this⟩

/-- Digits that begin with no 0 (or are one) are what their number is printed as. -/
theorem canon : ∀ (n : Nat) (d : List UInt8), d.length = n → allDig d → d ≠ [] → (d.length = 1 ∨ d.head? ≠ some 48) → decDigits (val d) = d
  | 0, d, hl, _, hne, _ => absurd (List.length_eq_zero_iff.1 hl) hne
  | n + 1, d, hl, hd, hne, hc => by
    obtain ⟨e, c, rfl⟩ : ∃ e c, d = e ++ [c] := ⟨d.dropLast, d.getLast hne, (List.dropLast_concat_getLast hne).symm⟩
    have hcd : isDig c := hd c (by simp)
    have hs : val (e ++ [c]) = val e * 10 + (c.toNat - 48) := valF_snoc c 0 e
    have hx : c.toNat - 48 < 10 := by have := hcd.2; omega
    by_cases he : e = []
    · subst he
      have : val ([] ++ [c]) = c.toNat - 48 := by rw [hs, show val [] = 0 from rfl]; omega
      rw [this, decDigits, dif_pos hx, byte_eq hcd]; rfl
    · obtain ⟨x, r, rfl⟩ : ∃ x r, e = x :: r := List.exists_cons_of_ne_nil he
      have hx48 : x ≠ 48 := by
        rcases hc with hc | hc
        · simp at hc
        · intro e; subst e; simp at hc
      have hxd : isDig x := hd x (by simp)
      have ih := canon n (x :: r) (by simp at hl ⊢; omega) (fun y hy => hd y (by simp at hy ⊢; rcases hy with h | h <;> simp [h])) (by simp) (.inr (by simpa using hx48))
      have hpos : 1 ≤ val (x :: r) := by
        have h2 : x.toNat ≠ 48 := fun h => hx48 (UInt8.toNat_inj.1 h)
        have := valF_ge (nxt 0 x) r
        have h3 := hxd.1
        have hn := nxt_eq 0 x
        show 1 ≤ valF 0 (x :: r)
        rw [valF_cons]; omega
      have h10 : ¬ val (x :: r ++ [c]) < 10 := by rw [hs]; omega
      rw [decDigits, dif_neg h10, hs]
      have e1 : (val (x :: r) * 10 + (c.toNat - 48)) / 10 = val (x :: r) := by omega
      have e2 : (val (x :: r) * 10 + (c.toNat - 48)) % 10 = c.toNat - 48 := by omega
      rw [e1, e2, ih, byte_eq hcd]

/-- What a number is printed as. -/
theorem dec_spec : ∀ (n u : Nat), u < n → allDig (decDigits u) ∧ decDigits u ≠ [] ∧ val (decDigits u) = u ∧ ((decDigits u).length = 1 ∨ (decDigits u).head? ≠ some 48) ∧ (u ≠ 0 → (decDigits u).head? ≠ some 48)
  | 0, u, h => absurd h (by omega)
  | n + 1, u, h => by
    by_cases h10 : u < 10
    · obtain ⟨h1, h2⟩ := byte_dig h10
      have e : decDigits u = [dgt u] := by rw [decDigits, dif_pos h10]; rfl
      rw [e]
      refine ⟨by intro c hc; simp at hc; subst hc; exact h1, by simp, ?_, .inl rfl, fun h0 => ?_⟩
      · show valF 0 [dgt u] = u
        rw [valF_cons, valF_nil, nxt_eq, h2]; omega
      · simp only [List.head?_cons, ne_eq, Option.some.injEq]
        intro e; have := congrArg UInt8.toNat e; rw [h2] at this; simp at this; omega
    · obtain ⟨i1, i2, i3, i4, i5⟩ := dec_spec n (u / 10) (by omega)
      obtain ⟨h1, h2⟩ := byte_dig (x := u % 10) (by omega)
      have e : decDigits u = decDigits (u / 10) ++ [dgt (u % 10)] := by rw [decDigits, dif_neg h10]; rfl
      have hh : (decDigits u).head? ≠ some 48 := by
        obtain ⟨x, r, hx⟩ := List.exists_cons_of_ne_nil i2
        have := i5 (by omega)
        rw [e, hx]; rw [hx] at this; simpa using this
      refine ⟨?_, by rw [e]; simp, ?_, .inr hh, fun _ => hh⟩
      · rw [e]; intro c hc
        rcases List.mem_append.1 hc with hc | hc
        · exact i1 c hc
        · simp at hc; subst hc; exact h1
      · rw [e]
        have := valF_snoc (dgt (u % 10)) 0 (decDigits (u / 10))
        rw [h2] at this
        have i3' : valF 0 (decDigits (u / 10)) = u / 10 := i3
        rw [i3'] at this
        show valF 0 _ = u
        rw [this]; omega
theorem dec_len : ∀ (k u : Nat), u < 10 ^ (k + 1) → (decDigits u).length ≤ k + 1
  | 0, u, h => by rw [decDigits, dif_pos (by simpa using h)]; simp
  | k + 1, u, h => by
    rw [decDigits]
    split
    · simp
    · have := dec_len k (u / 10) (by rw [Nat.pow_succ] at h; omega)
      simp; omega

theorem parse_range {T : Nat} (hT : T = 9223372036854775808) {l : List UInt8} {v : Int} (hx : parseIntB 64 l = .ok v) : -(T : Int) ≤ v ∧ v < T := by
  unfold parseIntB at hx
  split at hx
  · cases hx
  · rename_i c r
    simp only at hx
    split at hx
    · cases hx
    · cases hx
    · rename_i u hu
      have e : 2 ^ (64 - 1) = T := by rw [hT]
      rw [e] at hx
      split at hx
      · cases hx
      · rename_i h1
        split at hx
        · cases hx
        · rename_i h2
          simp at hx; subst hx
          split <;> rename_i hneg
          · have : u ≤ T := by
              rcases Nat.lt_or_ge T u with h | h
              · exact absurd ⟨hneg, h⟩ h2
              · exact h
            omega
          · have : u < T := by
              rcases Nat.lt_or_ge u T with h | h
              · exact h
              · exact absurd ⟨hneg, h⟩ h1
            omega

theorem num_iff {T : Nat} (hT : T = 9223372036854775808) (l : List UInt8) (v : Int) : num l = some v ↔ (-(T : Int) ≤ v ∧ v < T) ∧ itoa v = l := by
  unfold num
  constructor
  · intro h
    split at h
    · rename_i x hx
      split at h
      · rename_i hi
        simp at h; subst h
        refine ⟨?_, hi⟩
        unfold parseIntB at hx
        split at hx
        · cases hx
        · rename_i c r
          simp only at hx
          split at hx
          · cases hx
          · cases hx
          · rename_i u hu
            have e : 2 ^ (64 - 1) = T := by rw [hT]
            rw [e] at hx
            split at hx
            · cases hx
            · rename_i h1
              split at hx
              · cases hx
              · rename_i h2
                simp at hx; subst hx
                split <;> rename_i hneg
                · have : u ≤ T := by
                    rcases Nat.lt_or_ge T u with h | h
                    · exact absurd ⟨hneg, h⟩ h2
                    · exact h
                  omega
                · have : u < T := by
                    rcases Nat.lt_or_ge u T with h | h
                    · exact h
                    · exact absurd ⟨hneg, h⟩ h1
                  omega
      · cases h
    · cases h
  · rintro ⟨⟨h0, h1⟩, rfl⟩
    have key : parseIntB 64 (itoa v) = .ok v := by
      have e : 2 ^ (64 - 1) = T := by rw [hT]
      have eM : 2 ^ 64 - 1 = 18446744073709551615 := by decide
      unfold itoa
      split
      · rename_i hneg
        obtain ⟨i1, i2, i3, i4, i5⟩ := dec_spec (v.natAbs + 1) v.natAbs (by omega)
        have i3' : valF 0 (decDigits v.natAbs) = v.natAbs := i3
        have c45 : (45 : UInt8).toNat = 45 := rfl
        have hp : parseUintB 64 (decDigits v.natAbs) = .ok v.natAbs := by
          unfold parseUintB
          rw [if_neg i2, eM, parseM_ok _ 0 i1 (by rw [i3']; omega), i3']
        unfold parseIntB
        simp only [c45, if_true, or_true, hp, e]
        rw [if_neg (by simp), if_neg (by omega)]
        congr 1; omega
      · rename_i hneg
        obtain ⟨i1, i2, i3, i4, i5⟩ := dec_spec (v.toNat + 1) v.toNat (by omega)
        have i3' : valF 0 (decDigits v.toNat) = v.toNat := i3
        obtain ⟨x, r, hx⟩ := List.exists_cons_of_ne_nil i2
        have hxd : isDig x := i1 x (by rw [hx]; simp)
        have hx1 : 48 ≤ x.toNat := hxd.1
        have hp : parseUintB 64 (x :: r) = .ok v.toNat := by
          rw [← hx]
          unfold parseUintB
          rw [if_neg i2, eM, parseM_ok _ 0 i1 (by rw [i3']; omega), i3']
        rw [hx]
        have n1 : ¬ x.toNat = 45 := by omega
        have n2 : ¬ (x.toNat = 43 ∨ x.toNat = 45) := by omega
        show (match parseUintB 64 (if x.toNat = 43 ∨ x.toNat = 45 then r else x :: r) with
          | NumEnd.syntax => NumEnd.syntax
          | .range => .range
          | .ok u => if ¬ x.toNat = 45 ∧ 2 ^ (64 - 1) ≤ u then .range else if x.toNat = 45 ∧ 2 ^ (64 - 1) < u then .range else .ok (if x.toNat = 45 then -(u : Int) else u)) = _
        rw [if_neg n2, hp]
        simp only [e]
        rw [if_neg (by omega), if_neg (by omega), if_neg n1]
        congr 1; omega
    rw [key]
    simp

theorem tail_iff {T : Nat} (d : List UInt8) (neg : Bool) (v : Int) : refTail T neg d = some v ↔ ∃ m, runD T 0 d = some m ∧ (neg = true → v = -(m : Int)) ∧ (neg = false → m ≠ T ∧ v = m) := by
  unfold refTail
  cases hr : runD T 0 d with
  | none => exact ⟨fun h => (by cases h), fun ⟨m, h, _⟩ => (by cases h)⟩
  | some m =>
    cases neg with
    | true =>
      show some (-(m : Int)) = some v ↔ _
      exact ⟨fun h => ⟨m, rfl, fun _ => (Option.some.inj h).symm, fun h => (by cases h)⟩, fun ⟨k, h1, h2, _⟩ => by rw [h2 rfl, Option.some.inj h1]⟩
    | false =>
      show (if m = T then none else some (m : Int)) = some v ↔ _
      by_cases he : m = T
      · rw [if_pos he]
        exact ⟨fun h => (by cases h), fun ⟨k, h1, _, h3⟩ => absurd ((Option.some.inj h1).symm.trans he) (h3 rfl).1⟩
      · rw [if_neg he]
        exact ⟨fun h => ⟨m, rfl, fun h => (by cases h), fun _ => ⟨he, (Option.some.inj h).symm⟩⟩, fun ⟨k, h1, _, h3⟩ => by rw [(h3 rfl).2, Option.some.inj h1]⟩

/-- Digits as they are printed. -/
theorem body_iff {T : Nat} (d : List UInt8) (neg : Bool) (v : Int) : refBody T neg d = some v ↔ ∃ m, d = decDigits m ∧ m ≤ T ∧ (neg = true → m ≠ 0 ∧ v = -(m : Int)) ∧ (neg = false → m ≠ T ∧ v = m) := by
  unfold refBody
  constructor
  · intro h
    by_cases hb : d = [] ∨ (1 < d.length ∧ d.head? = some 48) ∨ (neg = true ∧ d = [48])
    · rw [if_pos hb] at h; cases h
    · rw [if_neg hb] at h
      obtain ⟨m, hm, h1, h2⟩ := (tail_iff d neg v).1 h
      obtain ⟨k1, k2, k3⟩ := (runD_iff d 0 m (Nat.zero_le _)).1 hm
      have hne : d ≠ [] := fun e => hb (.inl e)
      have hc := canon d.length d rfl k1 hne (by
        rcases Nat.lt_or_ge 1 d.length with h | h
        · exact .inr fun e => hb (.inr (.inl ⟨h, e⟩))
        · have := List.length_pos_iff.2 hne
          exact .inl (by omega))
      have hv : val d = m := k2
      rw [hv] at hc
      refine ⟨m, hc.symm, k3, fun hn => ⟨?_, h1 hn⟩, h2⟩
      rintro rfl
      refine hb (.inr (.inr ⟨hn, ?_⟩))
      rw [← hc, decDigits, dif_pos (by omega)]; rfl
  · rintro ⟨m, rfl, hT, h1, h2⟩
    obtain ⟨i1, i2, i3, i4, i5⟩ := dec_spec (m + 1) m (by omega)
    rw [if_neg]
    · exact (tail_iff _ neg v).2 ⟨m, (runD_iff _ 0 _ (Nat.zero_le _)).2 ⟨i1, i3, hT⟩, fun hn => (h1 hn).2, h2⟩
    · rintro (h | ⟨h, h3⟩ | ⟨h, h3⟩)
      · exact i2 h
      · rcases i4 with i4 | i4
        · omega
        · exact i4 h3
      · have := i5 (h1 h).1
        rw [h3] at this; simp at this

theorem ref_iff {T : Nat} (hT : T = 9223372036854775808) (l : List UInt8) (v : Int) : refNum T l = some v ↔ (-(T : Int) ≤ v ∧ v < T) ∧ itoa v = l := by
  unfold refNum
  constructor
  · intro h
    by_cases h20 : l = [] ∨ 20 < l.length
    · rw [if_pos h20] at h; cases h
    · rw [if_neg h20] at h
      by_cases hh : l.head? = some 45
      · rw [if_pos hh] at h
        obtain ⟨r, rfl⟩ : ∃ r, l = 45 :: r := by
          cases l with
          | nil => simp at hh
          | cons x r => simp at hh; subst hh; exact ⟨r, rfl⟩
        obtain ⟨m, hd, hm, h1, _⟩ := (body_iff _ true v).1 h
        have hd : r = decDigits m := hd
        obtain ⟨h0, rfl⟩ := h1 rfl
        refine ⟨by omega, ?_⟩
        unfold itoa
        rw [if_pos (by omega), show (-(m : Int)).natAbs = m by omega, hd]
      · rw [if_neg hh] at h
        obtain ⟨m, hd, hm, _, h2⟩ := (body_iff _ false v).1 h
        obtain ⟨h0, rfl⟩ := h2 rfl
        refine ⟨by omega, ?_⟩
        unfold itoa
        rw [if_neg (by omega), show ((m : Int)).toNat = m by omega, hd]
  · rintro ⟨⟨h0, h1⟩, rfl⟩
    by_cases hneg : v < 0
    · have e : itoa v = 45 :: decDigits v.natAbs := by unfold itoa; rw [if_pos hneg]
      have hl := dec_len 18 v.natAbs (by omega)
      rw [e, if_neg (by simp; omega), if_pos (show (45 :: decDigits v.natAbs).head? = some 45 from rfl)]
      exact (body_iff _ true v).2 ⟨v.natAbs, rfl, by omega, fun _ => ⟨by omega, by omega⟩, fun h => by cases h⟩
    · obtain ⟨i1, i2, i3, i4, i5⟩ := dec_spec (v.toNat + 1) v.toNat (by omega)
      have e : itoa v = decDigits v.toNat := by unfold itoa; rw [if_neg hneg]
      have hl := dec_len 18 v.toNat (by omega)
      have h45 : ¬ (decDigits v.toNat).head? = some 45 := by
        obtain ⟨x, r, hx⟩ := List.exists_cons_of_ne_nil i2
        have hxd : isDig x := i1 x (by rw [hx]; simp)
        rw [hx]; simp
        intro e; subst e; exact absurd hxd.1 (by decide)
      rw [e, if_neg (by
        rintro (h | h)
        · exact i2 h
        · omega), if_neg h45]
      exact (body_iff _ false v).2 ⟨v.toNat, rfl, by omega, fun h => (by cases h), fun _ => ⟨by omega, by omega⟩⟩

/-- THE PLAIN LAW. -/
theorem num_eq {T : Nat} (hT : T = 9223372036854775808) (l : List UInt8) : num l = refNum T l := by
  cases h : refNum T l with
  | some v => exact (num_iff hT l v).2 ((ref_iff hT l v).1 h)
  | none =>
    cases h2 : num l with
    | none => rfl
    | some v => rw [(ref_iff hT l v).2 ((num_iff hT l v).1 h2)] at h; cases h

end Go.Num
