/-
  Layer 7: what an effect makes of a thing: plain laws.
  Layer 7: what the effects' rules do to a thing (printed by gendo.py).
  Layer 7: a keyspace behind an effect: plain laws.
  Layer 7: keys' one, whatever the effect (printed by genone.py).
  Layer 7: keys' one, whatever the effect, from its beginning (printed by genone2.py).
  Layer 7: keys' Apply, whatever the effects.
  Layer 7: a keyspace's copy; two keyspaces with the same things are the same.
  Layer 7: two keyspaces with the same things are the same.
  Layer 7: the law of effects done in two parts (taborlaw07.KeysParts).
-/
import Derived.Test.YtigolfakcblnjaaGreatKZ
import Derived.Test.YtigolfakcblnjaaGreatKX
namespace Go.Proofs.YtigolfakcblnjaaGreat
open Go Go.Sx Go.Proofs.YtigolfakcblnjaaGreat.C

section
variable {α : Type} {eq lt : α → Bool} {y : α}

/-- An item in its place, of those that are its likes none. -/
def putF (eq lt : α → Bool) (y : α) : List α → Bool → List α
  | [], d => if d then [] else [y]
  | x :: l, d => if eq x then putF eq lt y l d else if !d && lt x then y :: x :: putF eq lt y l true else x :: putF eq lt y l d
def delF (eq : α → Bool) (l : List α) : List α := l.filter fun x => !eq x

theorem delF_id : ∀ {l : List α}, (∀ x ∈ l, eq x = false) → delF eq l = l := by
  intro l h
  exact List.filter_eq_self.2 fun x hx => by rw [h x hx]; rfl

theorem putF_true : ∀ (l : List α), putF eq lt y l true = delF eq l
  | [] => rfl
  | x :: l => by
    have ih := putF_true l
    unfold putF delF
    cases he : eq x with
    | true => rw [if_pos rfl, ih]; simp [delF, he]
    | false => simp [he, ih, delF]

theorem putF_skip : ∀ {A B : List α}, (∀ x ∈ A, eq x = false ∧ lt x = false) → putF eq lt y (A ++ B) false = A ++ putF eq lt y B false
  | [], B, _ => rfl
  | x :: A, B, h => by
    have hx := h x (by simp)
    have ih := putF_skip (A := A) (B := B) fun z hz => h z (by simp [hz])
    rw [List.cons_append, putF, hx.1, hx.2]
    simp [ih]

theorem putF_del : ∀ (l : List α) (d : Bool), putF eq lt y (delF eq l) d = putF eq lt y l d
  | [], d => rfl
  | x :: l, d => by
    have ih := putF_del l
    cases he : eq x with
    | true =>
      have : delF eq (x :: l) = delF eq l := by simp [delF, he]
      rw [this, ih, putF, he]; simp
    | false =>
      have : delF eq (x :: l) = x :: delF eq l := by simp [delF, he]
      rw [this, putF, putF, he, ih, ih]

/-- All that stand behind the place stand behind the new one. -/
theorem putF_here {B : List α} (h : ∀ x ∈ B, eq x = false ∧ lt x = true) : putF eq lt y B false = y :: B := by
  cases B with
  | nil => rfl
  | cons x B =>
    have hx := h x (by simp)
    rw [putF, hx.1, hx.2]
    have hd : delF eq B = B := delF_id fun z hz => (h z (List.mem_cons_of_mem _ hz)).1
    simp [putF_true, hd]

/-- .. the first of them its like. -/
theorem putF_like {x : α} {B : List α} (hx : eq x = true) (h : ∀ x ∈ B, eq x = false ∧ lt x = true) : putF eq lt y (x :: B) false = y :: B := by
  rw [putF, hx]
  simp [putF_here h]

theorem delF_like {x : α} {A B : List α} (hx : eq x = true) (hA : ∀ x ∈ A, eq x = false) (hB : ∀ x ∈ B, eq x = false) : delF eq (A ++ x :: B) = A ++ B := by
  unfold delF
  rw [List.filter_append, List.filter_cons, hx]
  have h1 := delF_id (eq := eq) hA
  have h2 := delF_id (eq := eq) hB
  unfold delF at h1 h2
  rw [h1, h2]
  rfl

theorem mem_putF {z : α} : ∀ {l : List α} {d : Bool}, z ∈ putF eq lt y l d → z = y ∨ (z ∈ l ∧ eq z = false)
  | [], d, h => by
    simp only [putF] at h
    split at h <;> simp at h
    exact .inl h
  | x :: l, d, h => by
    simp only [putF] at h
    cases he : eq x with
    | true =>
      rw [he] at h
      rcases mem_putF (l := l) (by simpa using h) with h | ⟨h1, h2⟩
      · exact .inl h
      · exact .inr ⟨by simp [h1], h2⟩
    | false =>
      rw [he] at h
      simp only [Bool.false_eq_true, if_false] at h
      split at h
      · rcases List.mem_cons.1 h with h | h
        · exact .inl h
        · rcases List.mem_cons.1 h with h | h
          · subst h; exact .inr ⟨by simp, he⟩
          · rcases mem_putF (l := l) h with h | ⟨h1, h2⟩
            · exact .inl h
            · exact .inr ⟨by simp [h1], h2⟩
      · rcases List.mem_cons.1 h with h | h
        · subst h; exact .inr ⟨by simp, he⟩
        · rcases mem_putF (l := l) h with h | ⟨h1, h2⟩
          · exact .inl h
          · exact .inr ⟨by simp [h1], h2⟩

theorem putF_len : ∀ (l : List α) (d : Bool), (putF eq lt y l d).length ≤ l.length + 1
  | [], d => by cases d <;> simp [putF]
  | x :: l, d => by
    have h1 := putF_len l d
    have h2 : (putF eq lt y l true).length ≤ l.length := by rw [putF_true]; exact List.length_filter_le _ _
    simp only [putF]
    split
    · simp; omega
    · split <;> simp <;> omega

theorem putF_ne (l : List α) : putF eq lt y l false ≠ [] := by
  induction l with
  | nil => simp [putF]
  | cons x l ih =>
    simp only [putF]
    split
    · exact ih
    · split <;> simp

/-- The order stays: R is the order, what is not a like and not behind is ahead. -/
theorem putF_up {R : α → α → Prop} (h1 : ∀ x, eq x = false → lt x = true → R y x) (h2 : ∀ x, eq x = false → lt x = false → R x y) (htr : ∀ a b c, R a b → R b c → R a c) :
    ∀ {l : List α}, l.Pairwise R → (putF eq lt y l false).Pairwise R
  | [], _ => by simp [putF]
  | x :: l, h => by
    have hx := List.pairwise_cons.1 h
    have ih := putF_up h1 h2 htr hx.2
    simp only [putF]
    cases he : eq x with
    | true => simpa using ih
    | false =>
      cases hl : lt x with
      | true =>
        simp only [Bool.false_eq_true, if_false, Bool.not_false, Bool.and_self, if_true, putF_true]
        refine List.pairwise_cons.2 ⟨fun z hz => ?_, List.pairwise_cons.2 ⟨fun z hz => hx.1 z (List.mem_filter.1 hz).1, hx.2.filter _⟩⟩
        rcases List.mem_cons.1 hz with rfl | hz
        · exact h1 _ he hl
        · exact htr _ _ _ (h1 _ he hl) (hx.1 z (List.mem_filter.1 hz).1)
      | false =>
        simp only [Bool.false_eq_true, if_false, Bool.not_false, Bool.and_false]
        refine List.pairwise_cons.2 ⟨fun z hz => ?_, ih⟩
        rcases mem_putF hz with rfl | ⟨hz, _⟩
        · exact h2 _ he hl
        · exact hx.1 z hz

end

/-! ### By the place where the low ones end -/
section
variable {α : Type} {nm : α → ByteArray} {name : ByteArray}

theorem take_low {lo : α → Bool} {l : List α} {k : Nat} (c : CutAt lo l k) : ∀ x ∈ l.take k, lo x = true := by
  intro x hx
  obtain ⟨i, hi, rfl⟩ := List.getElem_of_mem hx
  rw [List.length_take] at hi
  rw [List.getElem_take]
  exact c.low i (by omega) (by omega)

theorem drop_high {lo : α → Bool} {l : List α} {k : Nat} (c : CutAt lo l k) : ∀ x ∈ l.drop k, lo x = false := by
  intro x hx
  obtain ⟨i, hi, rfl⟩ := List.getElem_of_mem hx
  rw [List.length_drop] at hi
  rw [List.getElem_drop]
  exact c.high (k + i) (by omega) (by omega)

theorem sless_not {a b : ByteArray} (h1 : sless a b = false) (h2 : a ≠ b) : sless b a = true := by
  rcases sless_total h2 with h | h
  · rw [h1] at h; cases h
  · exact h

theorem sless_no {a b : ByteArray} (h : sless a b = true) : sless b a = false := by
  cases hb : sless b a with
  | false => rfl
  | true => exact absurd hb (sless_asymm a b h)

/-- Ahead of the place no like, none behind. -/
theorem cut_before {l : List α} {k : Nat} (c : CutAt (fun x => sless (nm x) name) l k) : ∀ x ∈ l.take k, decide (nm x = name) = false ∧ sless name (nm x) = false := by
  intro x hx
  have := take_low c x hx
  exact ⟨decide_eq_false (sless_ne this), sless_no this⟩

/-- A name that is not there. -/
theorem cut_none {l : List α} {k : Nat} (hs : l.Pairwise fun a b => sless (nm a) (nm b) = true) (c : CutAt (fun x => sless (nm x) name) l k) (hn : (l[k]?).any (fun x => decide (nm x = name)) = false) :
    ∀ x ∈ l.drop k, decide (nm x = name) = false ∧ sless name (nm x) = true := by
  have hd : ∀ x ∈ l.drop k, nm x ≠ name := by
    by_cases hk : k < l.length
    · rw [List.getElem?_eq_getElem hk] at hn
      have hn' : nm l[k] ≠ name := by simpa using hn
      have hlow := c.high k (Nat.le_refl _) hk
      have hlt := sless_not hlow hn'
      rw [List.drop_eq_getElem_cons hk] at *
      have hp : (l[k] :: l.drop (k + 1)).Pairwise fun a b => sless (nm a) (nm b) = true := by
        rw [← List.drop_eq_getElem_cons hk]; exact hs.drop
      intro x hx
      rcases List.mem_cons.1 hx with rfl | hx
      · exact hn'
      · have := sless_trans hlt (List.rel_of_pairwise_cons hp hx)
        exact fun e => sless_ne this e.symm
    · rw [List.drop_eq_nil_of_le (by omega)]; simp
  intro x hx
  exact ⟨decide_eq_false (hd x hx), sless_not (drop_high c x hx) (hd x hx)⟩

/-- A name that is there. -/
theorem cut_there {l : List α} {k : Nat} (hs : l.Pairwise fun a b => sless (nm a) (nm b) = true) (_ : CutAt (fun x => sless (nm x) name) l k) (hn : (l[k]?).any (fun x => decide (nm x = name)) = true) :
    ∃ hk : k < l.length, nm l[k] = name ∧ ∀ x ∈ l.drop (k + 1), decide (nm x = name) = false ∧ sless name (nm x) = true := by
  by_cases hk : k < l.length
  · rw [List.getElem?_eq_getElem hk] at hn
    have hn' : nm l[k] = name := by simpa using hn
    refine ⟨hk, hn', fun x hx => ?_⟩
    have hp : (l[k] :: l.drop (k + 1)).Pairwise fun a b => sless (nm a) (nm b) = true := by
      rw [← List.drop_eq_getElem_cons hk]; exact hs.drop
    have := List.rel_of_pairwise_cons hp hx
    rw [hn'] at this
    exact ⟨decide_eq_false fun e => sless_ne this e.symm, this⟩
  · rw [List.getElem?_eq_none (by omega)] at hn
    cases hn

theorem split_k {l : List α} {k : Nat} (hk : k < l.length) : l = l.take k ++ l[k] :: l.drop (k + 1) := by
  rw [← List.drop_eq_getElem_cons hk, List.take_append_drop]

theorem put_none {y : α} {l : List α} {k : Nat} (hs : l.Pairwise fun a b => sless (nm a) (nm b) = true) (c : CutAt (fun x => sless (nm x) name) l k) (hn : (l[k]?).any (fun x => decide (nm x = name)) = false) :
    putF (fun x => decide (nm x = name)) (fun x => sless name (nm x)) y l false = l.take k ++ y :: l.drop k := by
  have e : l = l.take k ++ l.drop k := (List.take_append_drop k l).symm
  rw [show putF (fun x => decide (nm x = name)) (fun x => sless name (nm x)) y l false = putF (fun x => decide (nm x = name)) (fun x => sless name (nm x)) y (l.take k ++ l.drop k) false by rw [← e],
    putF_skip (cut_before c), putF_here (cut_none hs c hn)]

theorem put_there {y : α} {l : List α} {k : Nat} (hs : l.Pairwise fun a b => sless (nm a) (nm b) = true) (c : CutAt (fun x => sless (nm x) name) l k) (hn : (l[k]?).any (fun x => decide (nm x = name)) = true) :
    putF (fun x => decide (nm x = name)) (fun x => sless name (nm x)) y l false = l.take k ++ y :: l.drop (k + 1) := by
  obtain ⟨hk, he, hb⟩ := cut_there hs c hn
  rw [show putF (fun x => decide (nm x = name)) (fun x => sless name (nm x)) y l false = putF (fun x => decide (nm x = name)) (fun x => sless name (nm x)) y (l.take k ++ l[k] :: l.drop (k + 1)) false by rw [← split_k hk],
    putF_skip (cut_before c), putF_like (by simpa using he) hb]

theorem del_there {l : List α} {k : Nat} (hs : l.Pairwise fun a b => sless (nm a) (nm b) = true) (c : CutAt (fun x => sless (nm x) name) l k) (hn : (l[k]?).any (fun x => decide (nm x = name)) = true) :
    delF (fun x => decide (nm x = name)) l = l.take k ++ l.drop (k + 1) ∧ l.any (fun x => decide (nm x = name)) = true := by
  obtain ⟨hk, he, hb⟩ := cut_there hs c hn
  refine ⟨?_, List.any_eq_true.2 ⟨l[k], List.getElem_mem hk, by simpa using he⟩⟩
  have := delF_like (eq := fun x => decide (nm x = name)) (x := l[k]) (A := l.take k) (B := l.drop (k + 1)) (by simpa using he) (fun x hx => (cut_before c x hx).1) (fun x hx => (hb x hx).1)
  rw [← split_k hk] at this
  exact this

theorem any_none {l : List α} {k : Nat} (hs : l.Pairwise fun a b => sless (nm a) (nm b) = true) (c : CutAt (fun x => sless (nm x) name) l k) (hn : (l[k]?).any (fun x => decide (nm x = name)) = false) :
    l.any (fun x => decide (nm x = name)) = false := by
  rw [List.any_eq_false]
  intro x hx
  rw [← List.take_append_drop k l] at hx
  rcases List.mem_append.1 hx with hx | hx
  · rw [(cut_before c x hx).1]; simp
  · rw [(cut_none hs c hn x hx).1]; simp

end

/-! ### Ranks -/
theorem ahead_tr (a b c : Rank) (h1 : aheadR a b = true) (h2 : aheadR b c = true) : aheadR a c = true := by
  simp only [aheadR, Bool.or_eq_true, decide_eq_true_eq, Bool.and_eq_true] at h1 h2 ⊢
  rcases h1 with h1 | ⟨h1, h1'⟩ <;> rcases h2 with h2 | ⟨h2, h2'⟩
  · left; omega
  · left; omega
  · left; omega
  · right; exact ⟨by omega, sless_trans h1' h2'⟩

theorem ahead_not {a b : Rank} (h1 : aheadR a b = false) (h2 : a.name ≠ b.name) : aheadR b a = true := by
  simp only [aheadR, Bool.or_eq_false_iff, decide_eq_false_iff_not, Bool.and_eq_false_iff] at h1
  simp only [aheadR, Bool.or_eq_true, decide_eq_true_eq, Bool.and_eq_true]
  by_cases h : b.score < a.score
  · exact .inl h
  · have : a.score = b.score := by omega
    rcases h1.2 with h | h
    · exact absurd this h
    · exact .inr ⟨this.symm, sless_not h h2⟩

theorem ahead_no {a b : Rank} (h : aheadR a b = true) : aheadR b a = false := by
  cases hb : aheadR b a with
  | false => rfl
  | true =>
    have := ahead_tr a b a h hb
    simp [aheadR, sless_irrefl] at this

/-- Of one name but one. -/
theorem del_rank {l : List Rank} {k : Nat} {name : ByteArray} (hn : (l.map Rank.name).Nodup) (hk : k < l.length) (he : l[k].name = name) :
    delF (fun x => decide (x.name = name)) l = l.take k ++ l.drop (k + 1) := by
  have e := split_k hk
  have hn' : ((l.take k ++ l[k] :: l.drop (k + 1)).map Rank.name).Nodup := by rw [← e]; exact hn
  rw [List.map_append, List.map_cons, List.nodup_append] at hn'
  obtain ⟨_, h2, h3⟩ := hn'
  rw [List.nodup_cons] at h2
  have := delF_like (eq := fun x : Rank => decide (x.name = name)) (x := l[k]) (A := l.take k) (B := l.drop (k + 1)) (by simpa using he)
    (fun x hx => decide_eq_false fun e => h3 _ (List.mem_map_of_mem hx) _ List.mem_cons_self (by rw [e, he]))
    (fun x hx => decide_eq_false fun e => h2.1 (by rw [he, ← e]; exact List.mem_map_of_mem hx))
  rw [← e] at this
  exact this

theorem put_rank {y : Rank} {l : List Rank} {k : Nat} (hno : ∀ x ∈ l, x.name ≠ y.name) (c : CutAt (fun x => aheadR x y) l k) :
    putF (fun x => decide (x.name = y.name)) (fun x => aheadR y x) y l false = l.take k ++ y :: l.drop k := by
  have e : l = l.take k ++ l.drop k := (List.take_append_drop k l).symm
  rw [show putF (fun x : Rank => decide (x.name = y.name)) (fun x => aheadR y x) y l false = putF (fun x : Rank => decide (x.name = y.name)) (fun x => aheadR y x) y (l.take k ++ l.drop k) false by rw [← e],
    putF_skip fun x hx => ⟨decide_eq_false (hno x (List.mem_of_mem_take hx)), ahead_no (take_low c x hx)⟩,
    putF_here fun x hx => ⟨decide_eq_false (hno x (List.mem_of_mem_drop hx)), ahead_not (drop_high c x hx) (hno x (List.mem_of_mem_drop hx))⟩]

/-! ### A thing behind an effect -/
def doneT (t : Thing) (e : Eff) : Thing × Int :=
  if e.op = 1 then (zeroT, 0) else
  if e.op = 2 then (textT e.text, 0) else
  if e.op = 3 then ({ t with hasU := true, unt := e.num }, 0) else
  if e.op = 4 then ({ t with hasU := false, unt := 0 }, 0) else
  if e.op = 5 then ({ t with pairs := putF (fun x => decide (x.name = e.name)) (fun x => sless e.name x.name) ⟨e.name, e.text⟩ t.pairs false }, 0) else
  if e.op = 6 then ({ t with pairs := delF (fun x => decide (x.name = e.name)) t.pairs }, if t.pairs.any (fun x => decide (x.name = e.name)) then 0 else 5) else
  if e.op = 7 then ({ t with list := e.text :: t.list }, 0) else
  if e.op = 8 then ({ t with list := t.list ++ [e.text] }, 0) else
  if e.op = 9 then ({ t with list := t.list.tail }, 0) else
  if e.op = 10 then ({ t with list := t.list.dropLast }, 0) else
  if e.op = 11 then (if 0 ≤ e.num ∧ e.num < t.list.length then ({ t with list := t.list.set e.num.toNat e.text }, 0) else (t, 4)) else
  if e.op = 12 then ({ t with list := putF (fun x => decide (x = e.name)) (fun x => sless e.name x) e.name t.list false }, 0) else
  if e.op = 13 then ({ t with list := delF (fun x => decide (x = e.name)) t.list }, if t.list.any (fun x => decide (x = e.name)) then 0 else 5) else
  if e.op = 14 then ({ t with ranks := putF (fun x => decide (x.name = e.name)) (fun x => aheadR ⟨e.name, e.num⟩ x) ⟨e.name, e.num⟩ t.ranks false }, 0) else
  if e.op = 15 then ({ t with ranks := delF (fun x => decide (x.name = e.name)) t.ranks }, if t.ranks.any (fun x => decide (x.name = e.name)) then 0 else 5) else (t, 0)

/-- Things as they are in keyspaces. -/
structure TGood (t : Thing) : Prop where
  ps : t.pairs.Pairwise fun a b => sless a.name b.name = true
  ls : t.kind = 4 → t.list.Pairwise fun a b => sless a b = true
  rs : t.ranks.Pairwise fun a b => aheadR a b = true
  once : (t.ranks.map Rank.name).Nodup
  only : t.kind = 3 → t.pairs = [] ∧ t.ranks = []
  few : countT t ≤ 65536

theorem TGood.lens {t : Thing} (g : TGood t) : Lens t := by
  have := g.few
  unfold countT at this
  exact ⟨by omega, by omega, by omega⟩

end Go.Proofs.YtigolfakcblnjaaGreat
namespace Go.Proofs.YtigolfakcblnjaaGreat
open Go Go.Sx Go.Proofs.YtigolfakcblnjaaGreat.C

theorem _root_.Go.Sx.Chg.step {S U : List Nat} {a b c : Heap} (c1 : Chg U a b) (c2 : Chg S b c) (hs : ∀ k ∈ S, k < a.size → k ∈ U) : Chg U a c := c1.trans c2 (fun _ h => h) hs

/-- What a rule has done. -/
def DoPost (t' : Thing) (n : Int) (tb : Nat) (pv lv rv : Value) (h : Heap) (r : Value) (h' : Heap) : Prop :=
  r = .int .i64 n ∧ (n = 0 → ∃ ws, Blk h' tb ws ∧ TH h' ws t' ∧ ∀ v ∈ ws, ∀ b ∈ vblk v, b ∈ bl3 pv lv rv ∨ h.size ≤ b) ∧ Chg (tb :: bl3 pv lv rv) h h'

theorem do_end {t' : Thing} {h h' : Heap} {tb : Nat} {pv lv rv pv' lv' rv' : Value} (B : Blk h' tb (cellsT t' pv' lv' rv')) (sp : SL encP h' pv' t'.pairs) (sl : SL encS h' lv' t'.list) (sr : SL encR h' rv' t'.ranks)
    (hb : ∀ b ∈ bl3 pv' lv' rv', b ∈ bl3 pv lv rv ∨ h.size ≤ b) (c : Chg (tb :: bl3 pv lv rv) h h') : DoPost t' 0 tb pv lv rv h (.int .i64 0) h' := by
  refine ⟨rfl, fun _ => ⟨_, B, ⟨_, _, _, rfl, sp, sl, sr⟩, fun v hv b hvb => ?_⟩, c⟩
  simp only [cellsT, List.mem_cons, List.not_mem_nil, or_false] at hv
  rcases hv with rfl | rfl | rfl | rfl | rfl | rfl | rfl
  · exact absurd (show b ∈ ([] : List Nat) from hvb) (by simp)
  · exact absurd (show b ∈ ([] : List Nat) from hvb) (by simp)
  · exact hb b (by simp [bl3, hvb])
  · exact hb b (by simp [bl3, hvb])
  · exact hb b (by simp [bl3, hvb])
  · exact absurd (show b ∈ ([] : List Nat) from hvb) (by simp)
  · exact absurd (show b ∈ ([] : List Nat) from hvb) (by simp)

theorem do_no {t' : Thing} {n : Int} {h h' : Heap} {tb : Nat} {pv lv rv : Value} (hn : n ≠ 0) (c : Chg (tb :: bl3 pv lv rv) h h') : DoPost t' n tb pv lv rv h (.int .i64 n) h' := ⟨rfl, fun e => absurd e hn, c⟩

/-- A rule does it. -/
def DoOK (g : Nat) (t : Thing) (e : Eff) : Prop := ∀ (h : Heap) (tb : Nat) (pv lv rv : Value), Blk h tb (cellsT t pv lv rv) → TO h pv lv rv t → tb ∉ bl3 pv lv rv →
  CallsH Tryz.prog g [ptr tb, .agg ⟨encD e⟩] h (Ret (DoPost (doneT t e).1 (doneT t e).2 tb pv lv rv h))

theorem bl3_nil {h : Heap} {pv lv rv : Value} : ∀ b ∈ bl3 (.slice none 0 0) (.slice none 0 0) (.slice none 0 0), b ∈ bl3 pv lv rv ∨ h.size ≤ b := by
  intro b hb
  exact absurd (show b ∈ ([] : List Nat) from hb) (by simp)

theorem bl3_self {h : Heap} {pv lv rv : Value} : ∀ b ∈ bl3 pv lv rv, b ∈ bl3 pv lv rv ∨ h.size ≤ b := fun _ hb => .inl hb

theorem bl3_l {h : Heap} {pv lv rv lv' : Value} (hl : ∀ b ∈ vblk lv', b ∈ vblk lv ∨ h.size ≤ b) : ∀ b ∈ bl3 pv lv' rv, b ∈ bl3 pv lv rv ∨ h.size ≤ b := by
  intro b hb
  simp only [bl3, List.mem_append] at hb ⊢
  rcases hb with hb | hb | hb
  · exact .inl (.inl hb)
  · rcases hl b hb with h | h
    · exact .inl (.inr (.inl h))
    · exact .inr h
  · exact .inl (.inr (.inr hb))
theorem bl3_p {h : Heap} {pv lv rv pv' : Value} (hl : ∀ b ∈ vblk pv', b ∈ vblk pv ∨ h.size ≤ b) : ∀ b ∈ bl3 pv' lv rv, b ∈ bl3 pv lv rv ∨ h.size ≤ b := by
  intro b hb
  simp only [bl3, List.mem_append] at hb ⊢
  rcases hb with hb | hb
  · rcases hl b hb with h | h
    · exact .inl (.inl h)
    · exact .inr h
  · exact .inl (.inr hb)
theorem bl3_r {h : Heap} {pv lv rv rv' : Value} (hl : ∀ b ∈ vblk rv', b ∈ vblk rv ∨ h.size ≤ b) : ∀ b ∈ bl3 pv lv rv', b ∈ bl3 pv lv rv ∨ h.size ≤ b := by
  intro b hb
  simp only [bl3, List.mem_append] at hb ⊢
  rcases hb with hb | hb | hb
  · exact .inl (.inl hb)
  · exact .inl (.inr (.inl hb))
  · rcases hl b hb with h | h
    · exact .inl (.inr (.inr h))
    · exact .inr h

theorem drop_do {t : Thing} {e : Eff} (hop : e.op = 1) (gd : TGood t) : DoOK 49 t e := by
  have ed : doneT t e = (zeroT, 0) := by unfold doneT; simp [hop]
  intro h tb pv lv rv T0 o0 hn
  rw [ed]
  have lens := gd.lens
  have lp := lens.p
  have ll := lens.l
  have lr := lens.r
  have hn' : tb ∉ vblk pv ∧ tb ∉ vblk lv ∧ tb ∉ vblk rv := by simpa [bl3] using hn
  have ltb := T0.lt
  refine f49_calls (by simp) ?_
  intro b3 h1 g1
  have c1 := g1.chg
  have i3 := g1.id
  have s1 := g1.size
  have B31 : Blk h1 b3 (encD e) := g1.blk
  have T1 := T0.chg c1 (by simp)
  have o1 := o0.ext c1
  have z1 : Chg (tb :: bl3 pv lv rv) h h1 := ((Chg.refl h).mono (by simp)).step c1 (by simp)
  refine Exists.intro _ (And.intro T1 (And.intro (by simp [cellsT]) (And.intro rfl (And.intro (thing_one (t := zeroT) (h := h1) zero_TH) ?_))))
  intro h2 p2
  exact do_end (t' := zeroT) (show Blk h2 tb (cellsT zeroT _ _ _) from p2.blk) SL.nil SL.nil SL.nil bl3_nil (z1.step p2.chg (by simp))

theorem text_do {t : Thing} {e : Eff} (hop : e.op = 2) (gd : TGood t) : DoOK 50 t e := by
  have ed : doneT t e = (textT e.text, 0) := by unfold doneT; simp [hop]
  intro h tb pv lv rv T0 o0 hn
  rw [ed]
  have lens := gd.lens
  have lp := lens.p
  have ll := lens.l
  have lr := lens.r
  have hn' : tb ∉ vblk pv ∧ tb ∉ vblk lv ∧ tb ∉ vblk rv := by simpa [bl3] using hn
  have ltb := T0.lt
  refine f50_calls (by simp) ?_
  intro b3 h1 g1
  have c1 := g1.chg
  have i3 := g1.id
  have s1 := g1.size
  have B31 : Blk h1 b3 (encD e) := g1.blk
  have T1 := T0.chg c1 (by simp)
  have o1 := o0.ext c1
  have z1 : Chg (tb :: bl3 pv lv rv) h h1 := ((Chg.refl h).mono (by simp)).step c1 (by simp)
  refine Exists.intro _ (And.intro (cell_blk B31 rfl) ?_)
  refine Exists.intro _ (And.intro T1 (And.intro (by simp [cellsT]) (And.intro rfl (And.intro (thing_one (t := textT e.text) (h := h1) text_TH) ?_))))
  intro h2 p2
  exact do_end (t' := textT e.text) (show Blk h2 tb (cellsT (textT e.text) _ _ _) from p2.blk) SL.nil SL.nil SL.nil bl3_nil (z1.step p2.chg (by simp))

theorem until_do {t : Thing} {e : Eff} (hop : e.op = 3) (gd : TGood t) : DoOK 51 t e := by
  have ed : doneT t e = ({ t with hasU := true, unt := e.num }, 0) := by unfold doneT; simp [hop]
  intro h tb pv lv rv T0 o0 hn
  rw [ed]
  have lens := gd.lens
  have lp := lens.p
  have ll := lens.l
  have lr := lens.r
  have hn' : tb ∉ vblk pv ∧ tb ∉ vblk lv ∧ tb ∉ vblk rv := by simpa [bl3] using hn
  have ltb := T0.lt
  refine f51_calls (by simp) ?_
  intro b3 h1 g1
  have c1 := g1.chg
  have i3 := g1.id
  have s1 := g1.size
  have B31 : Blk h1 b3 (encD e) := g1.blk
  have T1 := T0.chg c1 (by simp)
  have o1 := o0.ext c1
  have z1 : Chg (tb :: bl3 pv lv rv) h h1 := ((Chg.refl h).mono (by simp)).step c1 (by simp)
  have fin : ∀ h2 h3, Put h1 h2 tb (cellsT { t with hasU := true } pv lv rv) → Put h2 h3 tb (cellsT { t with hasU := true, unt := e.num } pv lv rv) → DoPost { t with hasU := true, unt := e.num } 0 tb pv lv rv h (.int .i64 0) h3 := by
    intro h2 h3 p2 p3
    have p := p2.trans p3
    have o3 := o1.chg p.chg (fun b hb => by simp; rintro rfl; exact hn hb)
    exact do_end p3.blk o3.p.sl o3.l.sl o3.r.sl bl3_self (z1.step p.chg (by simp))
  refine And.intro ?_ ?_
  · refine Exists.intro _ (And.intro (cell_blk B31 rfl) ?_)
    refine Exists.intro _ (And.intro T1 (And.intro (by simp [cellsT]) (And.intro rfl (And.intro (ones1 rfl) ?_))))
    intro h2 p2
    refine Exists.intro _ (And.intro p2.blk (And.intro (by show 0 + 6 + 1 ≤ (cellsT { t with hasU := true } pv lv rv).length; simp [cellsT]) (And.intro rfl (And.intro (ones1 rfl) ?_))))
    intro h3 p3
    exact fin h2 h3 p2 p3
  · refine Exists.intro _ (And.intro T1 (And.intro (by simp [cellsT]) (And.intro rfl (And.intro (ones1 rfl) ?_))))
    intro h2 p2
    refine Exists.intro _ (And.intro (cell_blk (B31.chg p2.chg (by simp; omega)) rfl) ?_)
    refine Exists.intro _ (And.intro p2.blk (And.intro (by show 0 + 6 + 1 ≤ (cellsT { t with hasU := true } pv lv rv).length; simp [cellsT]) (And.intro rfl (And.intro (ones1 rfl) ?_))))
    intro h3 p3
    exact fin h2 h3 p2 p3

theorem keep_do {t : Thing} {e : Eff} (hop : e.op = 4) (gd : TGood t) : DoOK 52 t e := by
  have ed : doneT t e = ({ t with hasU := false, unt := 0 }, 0) := by unfold doneT; simp [hop]
  intro h tb pv lv rv T0 o0 hn
  rw [ed]
  have lens := gd.lens
  have lp := lens.p
  have ll := lens.l
  have lr := lens.r
  have hn' : tb ∉ vblk pv ∧ tb ∉ vblk lv ∧ tb ∉ vblk rv := by simpa [bl3] using hn
  have ltb := T0.lt
  refine f52_calls (by simp) ?_
  intro b3 h1 g1
  have c1 := g1.chg
  have i3 := g1.id
  have s1 := g1.size
  have B31 : Blk h1 b3 (encD e) := g1.blk
  have T1 := T0.chg c1 (by simp)
  have o1 := o0.ext c1
  have z1 : Chg (tb :: bl3 pv lv rv) h h1 := ((Chg.refl h).mono (by simp)).step c1 (by simp)
  refine Exists.intro _ (And.intro T1 (And.intro (by simp [cellsT]) (And.intro rfl (And.intro (ones1 rfl) ?_))))
  intro h2 p2
  refine Exists.intro _ (And.intro p2.blk (And.intro (by show 0 + 6 + 1 ≤ (cellsT { t with hasU := false } pv lv rv).length; simp [cellsT]) (And.intro rfl (And.intro (ones1 rfl) ?_))))
  intro h3 p3
  have p := p2.trans p3
  have o3 := o1.chg p.chg (fun b hb => by simp; rintro rfl; exact hn hb)
  exact do_end (show Blk h3 tb (cellsT { t with hasU := false, unt := 0 } pv lv rv) from p3.blk) o3.p.sl o3.l.sl o3.r.sl bl3_self (z1.step p.chg (by simp))

theorem head_do {t : Thing} {e : Eff} (hop : e.op = 7) (gd : TGood t) : DoOK 55 t e := by
  have ed : doneT t e = ({ t with list := e.text :: t.list }, 0) := by unfold doneT; simp [hop]
  intro h tb pv lv rv T0 o0 hn
  rw [ed]
  have lens := gd.lens
  have lp := lens.p
  have ll := lens.l
  have lr := lens.r
  have hn' : tb ∉ vblk pv ∧ tb ∉ vblk lv ∧ tb ∉ vblk rv := by simpa [bl3] using hn
  have ltb := T0.lt
  refine f55_calls (by simp) ?_
  intro b3 h1 g1
  have c1 := g1.chg
  have i3 := g1.id
  have s1 := g1.size
  have B31 : Blk h1 b3 (encD e) := g1.blk
  have T1 := T0.chg c1 (by simp)
  have o1 := o0.ext c1
  have z1 : Chg (tb :: bl3 pv lv rv) h h1 := ((Chg.refl h).mono (by simp)).step c1 (by simp)
  refine Exists.intro _ (And.intro (cell_blk T1 rfl) (Exists.intro _ (And.intro (cell_blk B31 rfl) ?_)))
  intro b2 h2 g2
  have c2 := g2.chg
  have i2 := g2.id
  have s2 := g2.size
  have o2 := o1.ext c2
  have T2 := T1.chg c2 (by simp)
  have z2 := z1.step c2 (by simp)
  have lb := o1.l.lt
  refine call_ret (insS_calls (i := 0) (x := e.text) o2.l (by omega) (Nat.zero_le _) g2.blk (fun hb => by have := lb b2 hb; omega)) ?_
  rintro r5 h5 ⟨O5, c5, hb5⟩
  have S5 : SL encS h5 r5 (e.text :: t.list) := O5.sl
  have T5 := T2.chg c5 hn'.2.1
  have o2p := o2.p
  have o2r := o2.r
  have o5p := o2p.chg c5 (fun b hb => o0.pl b hb)
  have o5r := o2r.chg c5 (fun b hb => fun hp => o0.lr b hp hb)
  have z5 := z2.step c5 (fun k hk _ => by simp [bl3, hk])
  have hb5 : ∀ b ∈ vblk r5, b ∈ vblk lv ∨ h.size ≤ b := fun b hb => by
    rcases hb5 b hb with h | h
    · exact .inl h
    · exact .inr (by omega)
  obtain ⟨a5, k5, rfl, _⟩ := S5.form
  have nr5 : tb ∉ vblk (.slice a5 (e.text :: t.list).length k5) := fun hm => by
    rcases hb5 tb hm with h | h
    · exact hn'.2.1 h
    · omega
  refine Exists.intro _ (And.intro T5 (And.intro (by simp [cellsT]) (And.intro rfl (And.intro (ones1 rfl) ?_))))
  intro h6 p6
  exact do_end (show Blk h6 tb (cellsT { t with list := (e.text :: t.list) } pv (.slice a5 (e.text :: t.list).length k5) rv) from p6.blk) (o5p.sl.chg p6.chg (by intro b hb; simp; rintro rfl; exact hn'.1 hb)) (S5.chg p6.chg (by intro b hb; simp; rintro rfl; exact nr5 hb)) (o5r.sl.chg p6.chg (by intro b hb; simp; rintro rfl; exact hn'.2.2 hb)) (bl3_l hb5) (z5.step p6.chg (by simp))

theorem tail_do {t : Thing} {e : Eff} (hop : e.op = 8) (gd : TGood t) : DoOK 57 t e := by
  have ed : doneT t e = ({ t with list := t.list ++ [e.text] }, 0) := by unfold doneT; simp [hop]
  intro h tb pv lv rv T0 o0 hn
  rw [ed]
  have lens := gd.lens
  have lp := lens.p
  have ll := lens.l
  have lr := lens.r
  have hn' : tb ∉ vblk pv ∧ tb ∉ vblk lv ∧ tb ∉ vblk rv := by simpa [bl3] using hn
  have ltb := T0.lt
  refine f57_calls (by simp) ?_
  intro b3 h1 g1
  have c1 := g1.chg
  have i3 := g1.id
  have s1 := g1.size
  have B31 : Blk h1 b3 (encD e) := g1.blk
  have T1 := T0.chg c1 (by simp)
  have o1 := o0.ext c1
  have z1 : Chg (tb :: bl3 pv lv rv) h h1 := ((Chg.refl h).mono (by simp)).step c1 (by simp)
  refine Exists.intro _ (And.intro (cell_blk T1 rfl) (Exists.intro _ (And.intro (cell_blk B31 rfl) ?_)))
  intro b2 h2 g2
  have c2 := g2.chg
  have i2 := g2.id
  have s2 := g2.size
  have o2 := o1.ext c2
  have T2 := T1.chg c2 (by simp)
  have z2 := z1.step c2 (by simp)
  obtain ⟨la, lc, hlv, _⟩ := o2.l.form
  have T2' := T2
  rw [hlv] at o2 hn' T2'
  have o2l := o2.l
  have B2 : Blk h2 b2 (encS e.text) := g2.blk
  subst hlv
  refine app_own encS_len encS_one rfl o2l (SL.one encS_len B2) (by simp; omega) ?_
  intro r5 h5 O5 c5 hb5
  have S5 : SL encS h5 r5 (t.list ++ [e.text]) := O5.sl
  have c5 : Chg (vblk (.slice la t.list.length lc)) h2 h5 := c5
  have T5 := T2.chg c5 hn'.2.1
  have o2p := o2.p
  have o2r := o2.r
  have o5p := o2p.chg c5 (fun b hb => o0.pl b hb)
  have o5r := o2r.chg c5 (fun b hb => fun hp => o0.lr b hp hb)
  have z5 := z2.step c5 (fun k hk _ => by simp [bl3, hk])
  have hb5 : ∀ b ∈ vblk r5, b ∈ vblk (.slice la t.list.length lc) ∨ h.size ≤ b := fun b hb => by
    rcases hb5 b hb with h | h
    · exact .inl h
    · exact .inr (by omega)
  obtain ⟨a5, k5, rfl, _⟩ := S5.form
  have nr5 : tb ∉ vblk (.slice a5 (t.list ++ [e.text]).length k5) := fun hm => by
    rcases hb5 tb hm with h | h
    · exact hn'.2.1 h
    · omega
  refine Exists.intro _ (And.intro T5 (And.intro (by simp [cellsT]) (And.intro rfl (And.intro (ones1 rfl) ?_))))
  intro h6 p6
  exact do_end (show Blk h6 tb (cellsT { t with list := (t.list ++ [e.text]) } pv (.slice a5 (t.list ++ [e.text]).length k5) rv) from p6.blk) (o5p.sl.chg p6.chg (by intro b hb; simp; rintro rfl; exact hn'.1 hb)) (S5.chg p6.chg (by intro b hb; simp; rintro rfl; exact nr5 hb)) (o5r.sl.chg p6.chg (by intro b hb; simp; rintro rfl; exact hn'.2.2 hb)) (bl3_l hb5) (z5.step p6.chg (by simp))

theorem unhead_do {t : Thing} {e : Eff} (hop : e.op = 9) (gd : TGood t) (hne : t.list ≠ []) : DoOK 58 t e := by
  have ed : doneT t e = ({ t with list := t.list.tail }, 0) := by unfold doneT; simp [hop]
  intro h tb pv lv rv T0 o0 hn
  rw [ed]
  have lens := gd.lens
  have lp := lens.p
  have ll := lens.l
  have lr := lens.r
  have hn' : tb ∉ vblk pv ∧ tb ∉ vblk lv ∧ tb ∉ vblk rv := by simpa [bl3] using hn
  have ltb := T0.lt
  refine f58_calls (by simp) ?_
  intro b3 h1 g1
  have c1 := g1.chg
  have i3 := g1.id
  have s1 := g1.size
  have B31 : Blk h1 b3 (encD e) := g1.blk
  have T1 := T0.chg c1 (by simp)
  have o1 := o0.ext c1
  have z1 : Chg (tb :: bl3 pv lv rv) h h1 := ((Chg.refl h).mono (by simp)).step c1 (by simp)
  have lpos : 0 < t.list.length := List.length_pos_iff.2 hne
  obtain ⟨la, lc, rfl, _⟩ := o1.l.form
  refine Exists.intro _ (And.intro (cell_blk T1 rfl) ?_)
  refine SL.slc (lo := 1) (hi := t.list.length) encS_len o1.l.sl (by omega) (Nat.le_refl _) ?_
  intro a5 hab S5
  have el : (t.list.drop 1).take (t.list.length - 1) = t.list.tail := by
    rw [List.take_of_length_le (by simp)]
    simp
  have ell : t.list.length - 1 = t.list.tail.length := by simp
  rw [el] at S5
  have T5 := T1
  have o5p := o1.p
  have o5r := o1.r
  have z5 := z1
  rw [ell] at S5 ⊢
  have hb5 : ∀ b ∈ vblk (.slice a5 t.list.tail.length (lc - 1)), b ∈ vblk (.slice la t.list.length lc) ∨ h.size ≤ b := fun b hb => by
    have hb : b ∈ ablk a5 := hb
    rw [hab] at hb
    exact .inl hb
  obtain ⟨k5, hk5⟩ : ∃ k5, k5 = lc - 1 := ⟨_, rfl⟩
  rw [← hk5] at S5 hb5 ⊢
  have nr5 : tb ∉ vblk (.slice a5 t.list.tail.length k5) := fun hm => by
    rcases hb5 tb hm with h | h
    · exact hn'.2.1 h
    · omega
  refine Exists.intro _ (And.intro T5 (And.intro (by simp [cellsT]) (And.intro rfl (And.intro (ones1 rfl) ?_))))
  intro h6 p6
  exact do_end (show Blk h6 tb (cellsT { t with list := t.list.tail } pv (.slice a5 t.list.tail.length k5) rv) from p6.blk) (o5p.sl.chg p6.chg (by intro b hb; simp; rintro rfl; exact hn'.1 hb)) (S5.chg p6.chg (by intro b hb; simp; rintro rfl; exact nr5 hb)) (o5r.sl.chg p6.chg (by intro b hb; simp; rintro rfl; exact hn'.2.2 hb)) (bl3_l hb5) (z5.step p6.chg (by simp))

theorem untail_do {t : Thing} {e : Eff} (hop : e.op = 10) (gd : TGood t) (hne : t.list ≠ []) : DoOK 59 t e := by
  have ed : doneT t e = ({ t with list := t.list.dropLast }, 0) := by unfold doneT; simp [hop]
  intro h tb pv lv rv T0 o0 hn
  rw [ed]
  have lens := gd.lens
  have lp := lens.p
  have ll := lens.l
  have lr := lens.r
  have hn' : tb ∉ vblk pv ∧ tb ∉ vblk lv ∧ tb ∉ vblk rv := by simpa [bl3] using hn
  have ltb := T0.lt
  refine f59_calls (by simp) ?_
  intro b3 h1 g1
  have c1 := g1.chg
  have i3 := g1.id
  have s1 := g1.size
  have B31 : Blk h1 b3 (encD e) := g1.blk
  have T1 := T0.chg c1 (by simp)
  have o1 := o0.ext c1
  have z1 : Chg (tb :: bl3 pv lv rv) h h1 := ((Chg.refl h).mono (by simp)).step c1 (by simp)
  have lpos : 0 < t.list.length := List.length_pos_iff.2 hne
  obtain ⟨la, lc, rfl, _⟩ := o1.l.form
  refine Exists.intro _ (And.intro (cell_blk T1 rfl) (Exists.intro _ (And.intro (cell_blk T1 rfl) ?_)))
  refine And.intro rfl (fun z hz => ?_)
  have hz := sub_in hz (by omega) (by omega)
  have hz : z = ((t.list.length - 1 : Nat) : Int) := by omega
  subst hz
  refine SL.slc (lo := 0) (hi := t.list.length - 1) encS_len o1.l.sl (Nat.zero_le _) (by omega) ?_
  intro a5 hab S5
  have el : (t.list.drop 0).take (t.list.length - 1 - 0) = t.list.dropLast := by
    rw [List.drop_zero, List.dropLast_eq_take]; simp
  have ell : t.list.length - 1 - 0 = t.list.dropLast.length := by simp
  rw [el] at S5
  have T5 := T1
  have o5p := o1.p
  have o5r := o1.r
  have z5 := z1
  rw [ell] at S5 ⊢
  have hb5 : ∀ b ∈ vblk (.slice a5 t.list.dropLast.length (lc - 0)), b ∈ vblk (.slice la t.list.length lc) ∨ h.size ≤ b := fun b hb => by
    have hb : b ∈ ablk a5 := hb
    rw [hab] at hb
    exact .inl hb
  obtain ⟨k5, hk5⟩ : ∃ k5, k5 = lc - 0 := ⟨_, rfl⟩
  rw [← hk5] at S5 hb5 ⊢
  have nr5 : tb ∉ vblk (.slice a5 t.list.dropLast.length k5) := fun hm => by
    rcases hb5 tb hm with h | h
    · exact hn'.2.1 h
    · omega
  refine Exists.intro _ (And.intro T5 (And.intro (by simp [cellsT]) (And.intro rfl (And.intro (ones1 rfl) ?_))))
  intro h6 p6
  exact do_end (show Blk h6 tb (cellsT { t with list := t.list.dropLast } pv (.slice a5 t.list.dropLast.length k5) rv) from p6.blk) (o5p.sl.chg p6.chg (by intro b hb; simp; rintro rfl; exact hn'.1 hb)) (S5.chg p6.chg (by intro b hb; simp; rintro rfl; exact nr5 hb)) (o5r.sl.chg p6.chg (by intro b hb; simp; rintro rfl; exact hn'.2.2 hb)) (bl3_l hb5) (z5.step p6.chg (by simp))

theorem set_cells {α : Type} {enc : α → List Value} (l : List α) (n : Nat) (hn : n < l.length) (x : α) (rest : List Value) :
    l.flatMap enc ++ rest = (l.take n).flatMap enc ++ (enc l[n] ++ ((l.drop (n + 1)).flatMap enc ++ rest)) ∧ (l.set n x).flatMap enc ++ rest = (l.take n).flatMap enc ++ (enc x ++ ((l.drop (n + 1)).flatMap enc ++ rest)) := by
  have e := split_k hn
  constructor
  · have e2 : l.flatMap enc = (l.take n ++ l[n] :: l.drop (n + 1)).flatMap enc := congrArg (fun q => q.flatMap enc) e
    rw [e2, List.flatMap_append, List.flatMap_cons, List.append_assoc, List.append_assoc]
  · rw [List.set_eq_take_append_cons_drop, if_pos hn]
    simp

theorem at_do {t : Thing} {e : Eff} (hop : e.op = 11) (gd : TGood t) : DoOK 60 t e := by
  have ed : doneT t e = (if 0 ≤ e.num ∧ e.num < t.list.length then ({ t with list := t.list.set e.num.toNat e.text }, 0) else (t, 4)) := by unfold doneT; simp [hop]
  intro h tb pv lv rv T0 o0 hn
  rw [ed]
  have lens := gd.lens
  have lp := lens.p
  have ll := lens.l
  have lr := lens.r
  have hn' : tb ∉ vblk pv ∧ tb ∉ vblk lv ∧ tb ∉ vblk rv := by simpa [bl3] using hn
  have ltb := T0.lt
  refine f60_calls (by simp) ?_
  intro b3 h1 g1
  have c1 := g1.chg
  have i3 := g1.id
  have s1 := g1.size
  have B31 : Blk h1 b3 (encD e) := g1.blk
  have T1 := T0.chg c1 (by simp)
  have o1 := o0.ext c1
  have z1 : Chg (tb :: bl3 pv lv rv) h h1 := ((Chg.refl h).mono (by simp)).step c1 (by simp)
  have bad : ¬ (0 ≤ e.num ∧ e.num < t.list.length) → DoPost (if 0 ≤ e.num ∧ e.num < t.list.length then (({ t with list := t.list.set e.num.toNat e.text }, 0) : Thing × Int) else (t, 4)).1 (if 0 ≤ e.num ∧ e.num < t.list.length then (({ t with list := t.list.set e.num.toNat e.text }, 0) : Thing × Int) else (t, 4)).2 tb pv lv rv h (.int .i64 4) h1 := by
    intro hb
    rw [if_neg hb]
    exact do_no (n := 4) (by decide) z1
  refine Exists.intro _ (And.intro (cell_blk B31 rfl) ?_)
  refine And.intro rfl (And.intro (fun hneg => bad (by omega)) (fun hneg => ?_))
  obtain ⟨la, lc, rfl, _⟩ := o1.l.form
  refine Exists.intro _ (And.intro (cell_blk B31 rfl) (Exists.intro _ (And.intro (cell_blk T1 rfl) ?_)))
  refine And.intro rfl (And.intro (fun hbig => bad (by omega)) (fun hbig => ?_))
  have hin : 0 ≤ e.num ∧ e.num < t.list.length := by omega
  rw [if_pos hin]
  obtain ⟨n, hnn⟩ : ∃ n : Nat, e.num = n := ⟨e.num.toNat, by omega⟩
  have hnl : n < t.list.length := by omega
  have hnt : e.num.toNat = n := by omega
  obtain ⟨_, hopen⟩ := o1.l.open
  rcases hopen with ⟨_, e0, _⟩ | ⟨b, rfl, hle, rest, B, hbl⟩
  · rw [e0] at hnl; exact absurd hnl (by simp)
  refine Exists.intro _ (And.intro (cell_blk T1 rfl) (Exists.intro _ (And.intro (cell_blk B31 rfl) (Exists.intro _ (And.intro (cell_blk B31 rfl) ?_)))))
  refine And.intro hin.1 (And.intro hin.2 ?_)
  obtain ⟨q1, q2⟩ := set_cells (enc := encS) t.list n hnl e.text rest
  rw [q1] at B
  refine Exists.intro _ (And.intro B (And.intro ?_ (And.intro rfl (And.intro (ones1 rfl) ?_))))
  · rw [hnt, ← q1, hbl]; omega
  intro h5 p5
  have zi := take_len encS_len t.list n (by omega)
  have e5 : splice ((t.list.take n).flatMap encS ++ (encS t.list[n] ++ ((t.list.drop (n + 1)).flatMap encS ++ rest))) (0 + e.num.toNat * 1) [.string e.text] = (t.list.set n e.text).flatMap encS ++ rest := by
    rw [q2, hnt, show 0 + n * 1 = ((t.list.take n).flatMap encS).length by rw [zi]; omega]
    exact splice_at _ _ _ _ rfl
  have P5 : Put h1 h5 b ((t.list.set n e.text).flatMap encS ++ rest) := by
    rw [← e5]; exact p5
  have O5 : OL encS 1 h5 (.slice (some ⟨b, 0, none⟩) t.list.length lc) (t.list.set n e.text) := by
    refine OL.mk (rest := rest) (by simp) (by simp; exact hle) P5.blk ?_
    rw [← hbl]
    simp only [List.length_append, flatMap_len encS_len, List.length_set]
  have c5 : Chg (vblk (.slice (some ⟨b, 0, none⟩) t.list.length lc)) h1 h5 := P5.chg
  have T5 := T1.chg c5 hn'.2.1
  have o1p := o1.p
  have o1r := o1.r
  have o5p := o1p.chg c5 (fun b hb => o0.pl b hb)
  have o5r := o1r.chg c5 (fun b hb => fun hp => o0.lr b hp hb)
  have z5 := z1.step c5 (fun k hk _ => by simp only [bl3, List.mem_cons, List.mem_append]; exact .inr (.inr (.inl hk)))
  rw [hnt]
  exact do_end (t' := { t with list := t.list.set n e.text }) (show Blk h5 tb (cellsT { t with list := t.list.set n e.text } _ _ _) from T5) o5p.sl O5.sl o5r.sl bl3_self z5

theorem add_do {t : Thing} {e : Eff} (hop : e.op = 12) (gd : TGood t) (hk : t.kind = 4) : DoOK 61 t e := by
  have ed : doneT t e = ({ t with list := putF (fun x => decide (x = e.name)) (fun x => sless e.name x) e.name t.list false }, 0) := by unfold doneT; simp [hop]
  intro h tb pv lv rv T0 o0 hn
  rw [ed]
  have lens := gd.lens
  have lp := lens.p
  have ll := lens.l
  have lr := lens.r
  have hn' : tb ∉ vblk pv ∧ tb ∉ vblk lv ∧ tb ∉ vblk rv := by simpa [bl3] using hn
  have ltb := T0.lt
  refine f61_calls (by simp) ?_
  intro b3 h1 g1
  have c1 := g1.chg
  have i3 := g1.id
  have s1 := g1.size
  have B31 : Blk h1 b3 (encD e) := g1.blk
  have T1 := T0.chg c1 (by simp)
  have o1 := o0.ext c1
  have z1 : Chg (tb :: bl3 pv lv rv) h h1 := ((Chg.refl h).mono (by simp)).step c1 (by simp)
  have hs := gd.ls hk
  refine Exists.intro _ (And.intro (cell_blk T1 rfl) (Exists.intro _ (And.intro (cell_blk B31 rfl) ?_)))
  refine call_ret (bynS_calls e.name o1.l.sl (by omega) hs) ?_
  rintro _ h2 ⟨⟨k, rfl, hc⟩, c2⟩
  have s2 := c2.size
  have o2 := o1.ext c2
  have T2 := T1.chg c2 (by simp)
  have B32 := B31.chg c2 (by simp)
  have z2 := z1.step c2 (by simp)
  cases hf : (t.list[k]?).any fun x => decide (x = e.name) with
  | true =>
    obtain ⟨hkl, hke, _⟩ := cut_there (nm := fun x => x) hs hc hf
    have ep : putF (fun x => decide (x = e.name)) (fun x => sless e.name x) e.name t.list false = t.list := by
      have h1 : putF (fun x => decide (x = e.name)) (fun x => sless e.name x) e.name t.list false = t.list.take k ++ e.name :: t.list.drop (k + 1) := put_there (nm := fun x => x) hs hc hf
      rw [h1]
      have := split_k hkl
      rw [show t.list[k] = e.name from hke] at this
      exact this.symm
    rw [ep]
    exact do_end (t' := { t with list := t.list }) (show Blk h2 tb (cellsT { t with list := t.list } pv lv rv) from T2) o2.p.sl o2.l.sl o2.r.sl bl3_self z2
  | false =>
    have ep : putF (fun x => decide (x = e.name)) (fun x => sless e.name x) e.name t.list false = t.list.take k ++ e.name :: t.list.drop k := put_none (nm := fun x => x) hs hc hf
    rw [ep]
    refine Exists.intro _ (And.intro (cell_blk T2 rfl) (Exists.intro _ (And.intro (cell_blk B32 rfl) ?_)))
    intro b4 h3 g3
    have c3 := g3.chg
    have i4 := g3.id
    have s3 := g3.size
    have o3 := o2.ext c3
    have T3 := T2.chg c3 (by simp)
    have z3 := z2.step c3 (by simp)
    have lb := o2.l.lt
    refine call_ret (insS_calls (x := e.name) o3.l (by omega) hc.le g3.blk (fun hb => by have := lb b4 hb; omega)) ?_
    rintro r5 h5 ⟨O5, c5, hb5⟩
    have S5 := O5.sl
    have T5 := T3.chg c5 hn'.2.1
    have o3p := o3.p
    have o3r := o3.r
    have o5p := o3p.chg c5 (fun b hb => o0.pl b hb)
    have o5r := o3r.chg c5 (fun b hb => fun hp => o0.lr b hp hb)
    have z5 := z3.step c5 (fun k hk _ => by simp [bl3, hk])
    have hb5 : ∀ b ∈ vblk r5, b ∈ vblk lv ∨ h.size ≤ b := fun b hb => by
      rcases hb5 b hb with h | h
      · exact .inl h
      · exact .inr (by omega)
    obtain ⟨a5, k5, rfl, _⟩ := S5.form
    have nr5 : tb ∉ vblk (.slice a5 (t.list.take k ++ e.name :: t.list.drop k).length k5) := fun hm => by
      rcases hb5 tb hm with h | h
      · exact hn'.2.1 h
      · omega
    refine Exists.intro _ (And.intro T5 (And.intro (by simp [cellsT]) (And.intro rfl (And.intro (ones1 rfl) ?_))))
    intro h6 p6
    exact do_end (show Blk h6 tb (cellsT { t with list := (t.list.take k ++ e.name :: t.list.drop k) } pv (.slice a5 (t.list.take k ++ e.name :: t.list.drop k).length k5) rv) from p6.blk) (o5p.sl.chg p6.chg (by intro b hb; simp; rintro rfl; exact hn'.1 hb)) (S5.chg p6.chg (by intro b hb; simp; rintro rfl; exact nr5 hb)) (o5r.sl.chg p6.chg (by intro b hb; simp; rintro rfl; exact hn'.2.2 hb)) (bl3_l hb5) (z5.step p6.chg (by simp))

theorem remove_do {t : Thing} {e : Eff} (hop : e.op = 13) (gd : TGood t) (hk : t.kind = 4) : DoOK 62 t e := by
  have ed : doneT t e = ({ t with list := delF (fun x => decide (x = e.name)) t.list }, if t.list.any (fun x => decide (x = e.name)) then 0 else 5) := by unfold doneT; simp [hop]
  intro h tb pv lv rv T0 o0 hn
  rw [ed]
  have lens := gd.lens
  have lp := lens.p
  have ll := lens.l
  have lr := lens.r
  have hn' : tb ∉ vblk pv ∧ tb ∉ vblk lv ∧ tb ∉ vblk rv := by simpa [bl3] using hn
  have ltb := T0.lt
  refine f62_calls (by simp) ?_
  intro b3 h1 g1
  have c1 := g1.chg
  have i3 := g1.id
  have s1 := g1.size
  have B31 : Blk h1 b3 (encD e) := g1.blk
  have T1 := T0.chg c1 (by simp)
  have o1 := o0.ext c1
  have z1 : Chg (tb :: bl3 pv lv rv) h h1 := ((Chg.refl h).mono (by simp)).step c1 (by simp)
  have hs := gd.ls hk
  refine Exists.intro _ (And.intro (cell_blk T1 rfl) (Exists.intro _ (And.intro (cell_blk B31 rfl) ?_)))
  refine call_ret (bynS_calls e.name o1.l.sl (by omega) hs) ?_
  rintro _ h2 ⟨⟨k, rfl, hc⟩, c2⟩
  have s2 := c2.size
  have o2 := o1.ext c2
  have T2 := T1.chg c2 (by simp)
  have z2 := z1.step c2 (by simp)
  cases hf : (t.list[k]?).any fun x => decide (x = e.name) with
  | false =>
    have ea := any_none (nm := fun x : ByteArray => x) hs hc hf
    rw [if_neg (by rw [ea]; simp)]
    exact do_no (by decide) z2
  | true =>
    obtain ⟨ed2, ea⟩ := del_there (nm := fun x : ByteArray => x) hs hc hf
    obtain ⟨hkl, _⟩ := cut_there (nm := fun x : ByteArray => x) hs hc hf
    rw [if_pos ea, ed2]
    refine Exists.intro _ (And.intro (cell_blk T2 rfl) ?_)
    refine And.intro rfl (fun z hz => ?_)
    have hz := add_in hz (by omega) (by omega)
    have hz : z = ((k + 1 : Nat) : Int) := by omega
    subst hz
    refine call_ret (delS_calls o2.l (by omega) hkl) ?_
    rintro r5 h5 ⟨O5, c5, hb5⟩
    have S5 := O5.sl
    have T5 := T2.chg c5 hn'.2.1
    have o2p := o2.p
    have o2l := o2.l
    have o2r := o2.r
    have o5p := o2p.chg c5 (fun b hb => o0.pl b hb)
    have o5r := o2r.chg c5 (fun b hb => fun hp => o0.lr b hp hb)
    have z5 := z2.step c5 (fun k hk _ => by simp [bl3, hk])
    have hb5 : ∀ b ∈ vblk r5, b ∈ vblk lv ∨ h.size ≤ b := fun b hb => .inl (hb5 b hb)
    obtain ⟨a5, k5, rfl, _⟩ := S5.form
    have nr5 : tb ∉ vblk (.slice a5 (t.list.take k ++ t.list.drop (k + 1)).length k5) := fun hm => by
      rcases hb5 tb hm with h | h
      · exact hn'.2.1 h
      · omega
    refine Exists.intro _ (And.intro T5 (And.intro (by simp [cellsT]) (And.intro rfl (And.intro (ones1 rfl) ?_))))
    intro h6 p6
    exact do_end (show Blk h6 tb (cellsT { t with list := (t.list.take k ++ t.list.drop (k + 1)) } pv (.slice a5 (t.list.take k ++ t.list.drop (k + 1)).length k5) rv) from p6.blk) (o5p.sl.chg p6.chg (by intro b hb; simp; rintro rfl; exact hn'.1 hb)) (S5.chg p6.chg (by intro b hb; simp; rintro rfl; exact nr5 hb)) (o5r.sl.chg p6.chg (by intro b hb; simp; rintro rfl; exact hn'.2.2 hb)) (bl3_l hb5) (z5.step p6.chg (by simp))

theorem unhash_do {t : Thing} {e : Eff} (hop : e.op = 6) (gd : TGood t) : DoOK 54 t e := by
  have ed : doneT t e = ({ t with pairs := delF (fun x => decide (x.name = e.name)) t.pairs }, if t.pairs.any (fun x => decide (x.name = e.name)) then 0 else 5) := by unfold doneT; simp [hop]
  intro h tb pv lv rv T0 o0 hn
  rw [ed]
  have lens := gd.lens
  have lp := lens.p
  have ll := lens.l
  have lr := lens.r
  have hn' : tb ∉ vblk pv ∧ tb ∉ vblk lv ∧ tb ∉ vblk rv := by simpa [bl3] using hn
  have ltb := T0.lt
  refine f54_calls (by simp) ?_
  intro b3 h1 g1
  have c1 := g1.chg
  have i3 := g1.id
  have s1 := g1.size
  have B31 : Blk h1 b3 (encD e) := g1.blk
  have T1 := T0.chg c1 (by simp)
  have o1 := o0.ext c1
  have z1 : Chg (tb :: bl3 pv lv rv) h h1 := ((Chg.refl h).mono (by simp)).step c1 (by simp)
  have hs := gd.ps
  refine Exists.intro _ (And.intro (cell_blk T1 rfl) (Exists.intro _ (And.intro (cell_blk B31 rfl) ?_)))
  refine call_ret (bynP_calls e.name o1.p.sl (by omega) hs) ?_
  rintro _ h2 ⟨⟨k, rfl, hc⟩, c2⟩
  have s2 := c2.size
  have o2 := o1.ext c2
  have T2 := T1.chg c2 (by simp)
  have z2 := z1.step c2 (by simp)
  cases hf : (t.pairs[k]?).any fun x => decide (x.name = e.name) with
  | false =>
    have ea := any_none (nm := fun x : Pair => x.name) hs hc hf
    rw [if_neg (by rw [ea]; simp)]
    exact do_no (by decide) z2
  | true =>
    obtain ⟨ed2, ea⟩ := del_there (nm := fun x : Pair => x.name) hs hc hf
    obtain ⟨hkl, _⟩ := cut_there (nm := fun x : Pair => x.name) hs hc hf
    rw [if_pos ea, ed2]
    refine Exists.intro _ (And.intro (cell_blk T2 rfl) ?_)
    refine And.intro rfl (fun z hz => ?_)
    have hz := add_in hz (by omega) (by omega)
    have hz : z = ((k + 1 : Nat) : Int) := by omega
    subst hz
    refine call_ret (delP_calls o2.p (by omega) hkl) ?_
    rintro r5 h5 ⟨O5, c5, hb5⟩
    have S5 := O5.sl
    have T5 := T2.chg c5 hn'.1
    have o2p := o2.p
    have o2l := o2.l
    have o2r := o2.r
    have o5l := o2l.chg c5 (fun b hb => fun hp => o0.pl b hp hb)
    have o5r := o2r.chg c5 (fun b hb => fun hp => o0.pr b hp hb)
    have z5 := z2.step c5 (fun k hk _ => by simp [bl3, hk])
    have hb5 : ∀ b ∈ vblk r5, b ∈ vblk pv ∨ h.size ≤ b := fun b hb => .inl (hb5 b hb)
    obtain ⟨a5, k5, rfl, _⟩ := S5.form
    have nr5 : tb ∉ vblk (.slice a5 (t.pairs.take k ++ t.pairs.drop (k + 1)).length k5) := fun hm => by
      rcases hb5 tb hm with h | h
      · exact hn'.1 h
      · omega
    refine Exists.intro _ (And.intro T5 (And.intro (by simp [cellsT]) (And.intro rfl (And.intro (ones1 rfl) ?_))))
    intro h6 p6
    exact do_end (show Blk h6 tb (cellsT { t with pairs := (t.pairs.take k ++ t.pairs.drop (k + 1)) } (.slice a5 (t.pairs.take k ++ t.pairs.drop (k + 1)).length k5) lv rv) from p6.blk) (S5.chg p6.chg (by intro b hb; simp; rintro rfl; exact nr5 hb)) (o5l.sl.chg p6.chg (by intro b hb; simp; rintro rfl; exact hn'.2.1 hb)) (o5r.sl.chg p6.chg (by intro b hb; simp; rintro rfl; exact hn'.2.2 hb)) (bl3_p hb5) (z5.step p6.chg (by simp))

theorem hash_rest {t : Thing} {e : Eff} {h h2 : Heap} {tb b3 k : Nat} {pv pv' lv rv : Value} {L : List Pair} (hn' : tb ∉ vblk pv' ∧ tb ∉ vblk lv ∧ tb ∉ vblk rv) (T : Blk h2 tb (cellsT { t with pairs := L } pv' lv rv)) (B3 : Blk h2 b3 (encD e))
    (O : OL encP 2 h2 pv' L) (hk : k < L.length) (hnm : L[k].name = e.name) (sl : SL encS h2 lv t.list) (sr : SL encR h2 rv t.ranks) (hl : ∀ b ∈ vblk pv', b ∉ vblk lv) (hr : ∀ b ∈ vblk pv', b ∉ vblk rv)
    (hb : ∀ b ∈ vblk pv', b ∈ vblk pv ∨ h.size ≤ b) (c : Chg (tb :: bl3 pv lv rv) h h2) (_ : h.size ≤ h2.size) :
    swp Tryz.prog (.seq (.ops f53r4) (.seq (.ops f53r5) .ret)) (retQ [.t 4] (Ret (DoPost { t with pairs := L.set k ⟨e.name, e.text⟩ } 0 tb pv lv rv h))) (mk [(0, ptr tb), (3, ptr b3), (5, .int .i64 k)]) [] h2 := by
  obtain ⟨la, lc, rfl, _⟩ := O.form
  obtain ⟨_, hopen⟩ := O.open
  rcases hopen with ⟨_, e0, _⟩ | ⟨b, rfl, hle, rest, B, hbl⟩
  · subst e0; exact absurd hk (by simp)
  refine Exists.intro _ (And.intro (cell_blk T rfl) (Exists.intro _ (And.intro (cell_blk B3 rfl) ?_)))
  refine And.intro (by omega) (And.intro (by omega) ?_)
  obtain ⟨q1, q2⟩ := set_cells (enc := encP) L k hk ⟨e.name, e.text⟩ rest
  have zi := take_len encP_len L k (by omega)
  have q1' : L.flatMap encP ++ rest = ((L.take k).flatMap encP ++ [.string e.name]) ++ ([.string L[k].text] ++ ((L.drop (k + 1)).flatMap encP ++ rest)) := by
    rw [q1]; simp [encP, hnm]
  have q2' : (L.set k ⟨e.name, e.text⟩).flatMap encP ++ rest = ((L.take k).flatMap encP ++ [.string e.name]) ++ ([.string e.text] ++ ((L.drop (k + 1)).flatMap encP ++ rest)) := by
    rw [q2]; simp [encP]
  refine Exists.intro _ (And.intro B (And.intro ?_ (And.intro rfl (And.intro (ones1 rfl) ?_))))
  · rw [hbl]; omega
  intro h5 p5
  have e5 : splice (L.flatMap encP ++ rest) (0 + (k : Int).toNat * 2 + 1) [.string e.text] = (L.set k ⟨e.name, e.text⟩).flatMap encP ++ rest := by
    rw [q2', q1', show 0 + (k : Int).toNat * 2 + 1 = ((L.take k).flatMap encP ++ [Value.string e.name]).length by rw [List.length_append, zi]; simp]
    exact splice_at _ _ _ _ rfl
  have P5 : Put h2 h5 b ((L.set k ⟨e.name, e.text⟩).flatMap encP ++ rest) := by
    rw [← e5]; exact p5
  have O5 : OL encP 2 h5 (.slice (some ⟨b, 0, none⟩) L.length lc) (L.set k ⟨e.name, e.text⟩) := by
    refine OL.mk (rest := rest) (by simp) (by simp; exact hle) P5.blk ?_
    rw [← hbl]
    simp only [List.length_append, flatMap_len encP_len, List.length_set]
  have c5 : Chg (vblk (.slice (some ⟨b, 0, none⟩) L.length lc)) h2 h5 := P5.chg
  refine do_end (t' := { t with pairs := L.set k ⟨e.name, e.text⟩ }) (show Blk h5 tb (cellsT { t with pairs := L.set k ⟨e.name, e.text⟩ } _ _ _) from T.chg c5 hn'.1) O5.sl (sl.chg c5 fun x hx hp => hl x hp hx) (sr.chg c5 fun x hx hp => hr x hp hx) (bl3_p hb) (c.step c5 fun x hx hlt => ?_)
  rcases hb x hx with h | h
  · simp [bl3, h]
  · omega

theorem hash_do {t : Thing} {e : Eff} (hop : e.op = 5) (gd : TGood t) : DoOK 53 t e := by
  have ed : doneT t e = ({ t with pairs := putF (fun x => decide (x.name = e.name)) (fun x => sless e.name x.name) ⟨e.name, e.text⟩ t.pairs false }, 0) := by unfold doneT; simp [hop]
  intro h tb pv lv rv T0 o0 hn
  rw [ed]
  have lens := gd.lens
  have lp := lens.p
  have ll := lens.l
  have lr := lens.r
  have hn' : tb ∉ vblk pv ∧ tb ∉ vblk lv ∧ tb ∉ vblk rv := by simpa [bl3] using hn
  have ltb := T0.lt
  refine f53_calls (by simp) ?_
  intro b3 h1 g1
  have c1 := g1.chg
  have i3 := g1.id
  have s1 := g1.size
  have B31 : Blk h1 b3 (encD e) := g1.blk
  have T1 := T0.chg c1 (by simp)
  have o1 := o0.ext c1
  have z1 : Chg (tb :: bl3 pv lv rv) h h1 := ((Chg.refl h).mono (by simp)).step c1 (by simp)
  have hs := gd.ps
  refine Exists.intro _ (And.intro (cell_blk T1 rfl) (Exists.intro _ (And.intro (cell_blk B31 rfl) ?_)))
  refine call_ret (bynP_calls e.name o1.p.sl (by omega) hs) ?_
  rintro _ h2 ⟨⟨k, rfl, hc⟩, c2⟩
  have s2 := c2.size
  have o2 := o1.ext c2
  have T2 := T1.chg c2 (by simp)
  have B32 := B31.chg c2 (by simp)
  have z2 := z1.step c2 (by simp)
  cases hf : (t.pairs[k]?).any fun x => decide (x.name = e.name) with
  | true =>
    obtain ⟨hkl, hke, _⟩ := cut_there (nm := fun x : Pair => x.name) hs hc hf
    have ep : putF (fun x => decide (x.name = e.name)) (fun x => sless e.name x.name) ⟨e.name, e.text⟩ t.pairs false = t.pairs.set k ⟨e.name, e.text⟩ := by
      have h1 := put_there (nm := fun x : Pair => x.name) (y := (⟨e.name, e.text⟩ : Pair)) hs hc hf
      rw [h1, List.set_eq_take_append_cons_drop, if_pos hkl]
    rw [ep]
    refine swp_seq ?_
    exact cut_at [(0, ptr tb), (3, ptr b3), (5, .int .i64 k)] ⟨rfl, rfl, rfl, trivial⟩ (hash_rest (pv := pv) hn' T2 B32 o2.p hkl hke o2.l.sl o2.r.sl o0.pl o0.pr (fun b hb => .inl hb) z2 (by omega))
  | false =>
    have ep := put_none (nm := fun x : Pair => x.name) (y := (⟨e.name, e.text⟩ : Pair)) hs hc hf
    rw [ep]
    refine Exists.intro _ (And.intro (cell_blk T2 rfl) (Exists.intro _ (And.intro (cell_blk B32 rfl) ?_)))
    intro b4 h3 g3
    have c3 := g3.chg
    have i4 := g3.id
    have s3 := g3.size
    have o3 := o2.ext c3
    have T3 := T2.chg c3 (by simp)
    have z3 := z2.step c3 (by simp)
    have lb := o2.p.lt
    have B4 : Blk h3 b4 (encP ⟨e.name, noText⟩) := g3.blk
    refine call_ret (insP_calls (x := ⟨e.name, noText⟩) o3.p (by omega) hc.le B4 (fun hb => by have := lb b4 hb; omega)) ?_
    rintro r5 h5 ⟨O5, c5, hb5⟩
    have hl5 : ∀ b ∈ vblk r5, b ∉ vblk lv := fun b hb hx => by
      rcases hb5 b hb with h | h
      · exact o0.pl b h hx
      · have := o0.l.lt b hx; omega
    have hr5 : ∀ b ∈ vblk r5, b ∉ vblk rv := fun b hb hx => by
      rcases hb5 b hb with h | h
      · exact o0.pr b h hx
      · have := o0.r.lt b hx; omega
    obtain ⟨a5, k5, rfl, _⟩ := O5.form
    have T5 := T3.chg c5 hn'.1
    have B35 := (B32.chg c3 (by simp)).chg c5 (fun hx => by have := o0.p.lt b3 hx; omega)
    have o3l := o3.l
    have o3r := o3.r
    have o5l := o3l.chg c5 (fun b hb => fun hp => o0.pl b hp hb)
    have o5r := o3r.chg c5 (fun b hb => fun hp => o0.pr b hp hb)
    have z5 := z3.step c5 (fun k hk _ => by simp [bl3, hk])
    have s5 := c5.size
    have n5 : tb ∉ vblk (.slice a5 (t.pairs.take k ++ ⟨e.name, noText⟩ :: t.pairs.drop k).length k5) := fun hm => by
      rcases hb5 tb hm with h | h
      · exact hn'.1 h
      · omega
    refine Exists.intro _ (And.intro T5 (And.intro (by simp [cellsT]) (And.intro rfl (And.intro (ones1 rfl) ?_))))
    intro h6 p6
    have hkl : k < (t.pairs.take k ++ (⟨e.name, noText⟩ : Pair) :: t.pairs.drop k).length := by have := hc.le; simp; omega
    have tkl : (t.pairs.take k).length = k := by have := hc.le; simp; omega
    have hke : (t.pairs.take k ++ (⟨e.name, noText⟩ : Pair) :: t.pairs.drop k)[k].name = e.name := by
      rw [List.getElem_append_right (by omega)]
      simp [tkl]
    have es : (t.pairs.take k ++ (⟨e.name, noText⟩ : Pair) :: t.pairs.drop k).set k ⟨e.name, e.text⟩ = t.pairs.take k ++ ⟨e.name, e.text⟩ :: t.pairs.drop k := by
      rw [List.set_append_right _ _ (by omega)]
      simp [tkl]
    rw [← es]
    refine cut_at [(0, ptr tb), (3, ptr b3), (5, .int .i64 k)] ⟨rfl, rfl, rfl, trivial⟩ (hash_rest (pv := pv) ⟨n5, hn'.2⟩ (show Blk h6 tb (cellsT { t with pairs := _ } _ _ _) from p6.blk) (B35.chg p6.chg (by simp; omega)) (O5.chg p6.chg (by intro b hb; simp; rintro rfl; exact n5 hb)) hkl hke
      (o5l.sl.chg p6.chg (by intro b hb; simp; rintro rfl; exact hn'.2.1 hb)) (o5r.sl.chg p6.chg (by intro b hb; simp; rintro rfl; exact hn'.2.2 hb)) hl5 hr5 (fun b hb => ?_) (z5.step p6.chg (by simp)) (by have := p6.size; omega))
    rcases hb5 b hb with h | h
    · exact .inl h
    · exact .inr (by omega)

theorem unrank1_calls {h : Heap} {b3 : Nat} (x : Rank) (e : Eff) (B3 : Blk h b3 (encD e)) : CallsH Tryz.prog 82 [.agg ⟨encR x⟩, ptr b3] h (Ret fun u h' => u = .bool (decide (x.name = e.name)) ∧ Chg [] h h') := by
  refine f82_calls (by simp) ?_
  intro b2 h1 g1
  have B2 : Blk h1 b2 (encR x) := g1.blk
  refine Exists.intro _ (And.intro (cell_blk B2 rfl) (Exists.intro _ (And.intro (cell_blk (B3.chg g1.chg (by simp)) rfl) ?_)))
  refine And.intro (fun hq => ?_) (fun hq => ?_)
  · exact And.intro (by rw [decide_eq_true hq]; rfl) g1.chg
  · exact And.intro (by rw [decide_eq_false hq]; rfl) g1.chg

/-- unrank: the thing is another one just where the name is there. -/
theorem unrank_calls {t : Thing} (e : Eff) {h : Heap} {tb : Nat} {pv lv rv : Value} (gd : TGood t) (T0 : Blk h tb (cellsT t pv lv rv)) (o0 : TO h pv lv rv t) (hn : tb ∉ bl3 pv lv rv) :
    CallsH Tryz.prog 64 [ptr tb, .agg ⟨encD e⟩] h (Ret fun r h' => r = .int .i64 (if t.ranks.any (fun x => decide (x.name = e.name)) then 0 else 5) ∧
      ∃ rv', Blk h' tb (cellsT { t with ranks := delF (fun x => decide (x.name = e.name)) t.ranks } pv lv rv') ∧ OL encR 2 h' rv' (delF (fun x => decide (x.name = e.name)) t.ranks) ∧ (∀ b ∈ vblk rv', b ∈ vblk rv) ∧ Chg (tb :: vblk rv) h h') := by
  have lens := gd.lens
  have lr := lens.r
  have hn' : tb ∉ vblk pv ∧ tb ∉ vblk lv ∧ tb ∉ vblk rv := by simpa [bl3] using hn
  have ltb := T0.lt
  refine f64_calls (by simp) ?_
  intro b3 h1 g1
  have c1 := g1.chg
  have B31 : Blk h1 b3 (encD e) := g1.blk
  have T1 := T0.chg c1 (by simp)
  have o1 := o0.ext c1
  have z1 : Chg (tb :: vblk rv) h h1 := ((Chg.refl h).mono (by simp)).step c1 (by simp)
  refine Exists.intro _ (And.intro (cell_blk T1 rfl) ?_)
  refine call_ret (ixfR_calls (g := 82) (cap := [ptr b3]) (p := fun x => decide (x.name = e.name)) o1.r.sl (by omega) fun h' x hc => unrank1_calls x e (B31.chg hc (by simp))) ?_
  rintro r2 h2 ⟨hr2, c2⟩
  have o2 := o1.ext c2
  have T2 := T1.chg c2 (by simp)
  have z2 := z1.step c2 (by simp)
  rcases hr2 with ⟨k, hk, rfl, hp⟩ | ⟨rfl, hall⟩
  rotate_left
  · refine And.intro rfl (And.intro (fun _ => ?_) (fun hx => absurd (show (-1 : Int) < 0 by decide) hx))
    have ea : t.ranks.any (fun x => decide (x.name = e.name)) = false := List.any_eq_false.2 fun x hx => by rw [hall x hx]; simp
    have ed : delF (fun x : Rank => decide (x.name = e.name)) t.ranks = t.ranks := delF_id hall
    rw [ea, ed]
    exact And.intro rfl (Exists.intro rv (And.intro T2 (And.intro o2.r (And.intro (fun _ h => h) z2))))
  refine And.intro rfl (And.intro (fun hx => absurd hx (by omega)) (fun _ => ?_))
  have hke : t.ranks[k].name = e.name := by simpa using hp
  have ea : t.ranks.any (fun x => decide (x.name = e.name)) = true := List.any_eq_true.2 ⟨_, List.getElem_mem hk, hp⟩
  have ed := del_rank gd.once hk hke
  rw [ea, ed]
  refine Exists.intro _ (And.intro (cell_blk T2 rfl) ?_)
  refine And.intro rfl (fun z hz => ?_)
  have hz := add_in hz (by omega) (by omega)
  have hz : z = ((k + 1 : Nat) : Int) := by omega
  subst hz
  refine call_ret (delR_calls o2.r (by omega) hk) ?_
  rintro r5 h5 ⟨O5, c5, hb5⟩
  have n5 : tb ∉ vblk r5 := fun hx => hn'.2.2 (hb5 tb hx)
  obtain ⟨a5, k5, rfl, _⟩ := O5.form
  have T5 := T2.chg c5 hn'.2.2
  refine Exists.intro _ (And.intro T5 (And.intro (by simp [cellsT]) (And.intro rfl (And.intro (ones1 rfl) ?_))))
  intro h6 p6
  have z5 := z2.step c5 (fun k hk _ => by simp [hk])
  exact And.intro rfl (Exists.intro _ (And.intro (show Blk h6 tb (cellsT { t with ranks := _ } _ _ _) from p6.blk) (And.intro (O5.chg p6.chg (by intro b hb; simp; rintro rfl; exact n5 hb)) (And.intro hb5 (z5.step p6.chg (by simp))))))

theorem unrank_do {t : Thing} {e : Eff} (hop : e.op = 15) (gd : TGood t) : DoOK 64 t e := by
  have ed : doneT t e = ({ t with ranks := delF (fun x => decide (x.name = e.name)) t.ranks }, if t.ranks.any (fun x => decide (x.name = e.name)) then 0 else 5) := by unfold doneT; simp [hop]
  intro h tb pv lv rv T0 o0 hn
  rw [ed]
  have hn' : tb ∉ vblk pv ∧ tb ∉ vblk lv ∧ tb ∉ vblk rv := by simpa [bl3] using hn
  refine (unrank_calls e gd T0 o0 hn).mono fun en h' he => ?_
  cases en with
  | returned v =>
    obtain ⟨hv, rv', B, O, hb, c⟩ := he
    have c' : Chg (tb :: bl3 pv lv rv) h h' := c.mono (by intro k hk; simp only [List.mem_cons, bl3, List.mem_append] at hk ⊢; rcases hk with h | h; exact .inl h; exact .inr (.inr (.inr h)))
    refine ⟨hv, fun _ => ?_, c'⟩
    have hpc : ∀ b ∈ vblk pv, b ∉ tb :: vblk rv := fun b hb => by simp only [List.mem_cons, not_or]; exact ⟨by rintro rfl; exact hn'.1 hb, o0.pr b hb⟩
    have hlc : ∀ b ∈ vblk lv, b ∉ tb :: vblk rv := fun b hb => by simp only [List.mem_cons, not_or]; exact ⟨by rintro rfl; exact hn'.2.1 hb, o0.lr b hb⟩
    exact (do_end (t' := { t with ranks := delF (fun x => decide (x.name = e.name)) t.ranks }) B (o0.p.sl.chg c hpc) (o0.l.sl.chg c hlc) O.sl (bl3_r fun b hb' => .inl (hb b hb')) c').2.1 rfl
  | panicked ch => exact he.elim
  | outgrown => exact he.elim

theorem TGood.unranked {t : Thing} (gd : TGood t) (name : ByteArray) : ((delF (fun x : Rank => decide (x.name = name)) t.ranks).map Rank.name).Nodup ∧ (delF (fun x : Rank => decide (x.name = name)) t.ranks).Pairwise (fun a b => aheadR a b = true) ∧ (delF (fun x : Rank => decide (x.name = name)) t.ranks).length ≤ t.ranks.length ∧ ∀ x ∈ delF (fun x : Rank => decide (x.name = name)) t.ranks, x.name ≠ name := by
  refine ⟨?_, gd.rs.filter _, List.length_filter_le _ _, fun x hx => ?_⟩
  · exact List.Nodup.sublist (List.Sublist.map _ List.filter_sublist) gd.once
  · have := (List.mem_filter.1 hx).2
    simpa using this

theorem rank_do {t : Thing} {e : Eff} (hop : e.op = 14) (gd : TGood t) : DoOK 63 t e := by
  have ed : doneT t e = ({ t with ranks := putF (fun x => decide (x.name = e.name)) (fun x => aheadR ⟨e.name, e.num⟩ x) ⟨e.name, e.num⟩ t.ranks false }, 0) := by unfold doneT; simp [hop]
  intro h tb pv lv rv T0 o0 hn
  rw [ed]
  have lens := gd.lens
  have lr := lens.r
  have hn' : tb ∉ vblk pv ∧ tb ∉ vblk lv ∧ tb ∉ vblk rv := by simpa [bl3] using hn
  have ltb := T0.lt
  refine f63_calls (by simp) ?_
  intro b3 h1 g1
  have c1 := g1.chg
  have i3 := g1.id
  have s1 := g1.size
  have B31 : Blk h1 b3 (encD e) := g1.blk
  have T1 := T0.chg c1 (by simp)
  have o1 := o0.ext c1
  have z1 : Chg (tb :: bl3 pv lv rv) h h1 := ((Chg.refl h).mono (by simp)).step c1 (by simp)
  refine Exists.intro (encD e) (And.intro rfl (And.intro (cells_blk B31) ?_))
  refine call_ret (unrank_calls e gd T1 o1 hn) ?_
  rintro r2 h2 ⟨hr2, rv2, T2, O2, hb2, c2⟩
  obtain ⟨un, up, ul, unn⟩ := gd.unranked e.name
  generalize hL : delF (fun x : Rank => decide (x.name = e.name)) t.ranks = L at *
  have hpc : ∀ b ∈ vblk pv, b ∉ tb :: vblk rv := fun b hb => by simp only [List.mem_cons, not_or]; exact ⟨by rintro rfl; exact hn'.1 hb, o0.pr b hb⟩
  have hlc : ∀ b ∈ vblk lv, b ∉ tb :: vblk rv := fun b hb => by simp only [List.mem_cons, not_or]; exact ⟨by rintro rfl; exact hn'.2.1 hb, o0.lr b hb⟩
  have o2p := o1.p.chg c2 hpc
  have o2l := o1.l.chg c2 hlc
  have B32 := B31.chg c2 (by simp only [List.mem_cons, not_or]; exact ⟨by omega, fun hx => by have := o0.r.lt b3 hx; omega⟩)
  have z2 := z1.step c2 (by intro k hk _; simp only [List.mem_cons, bl3, List.mem_append] at hk ⊢; rcases hk with h | h; exact .inl h; exact .inr (.inr (.inr h)))
  have s2 := c2.size
  refine Exists.intro _ (And.intro (cell_blk B32 rfl) (Exists.intro _ (And.intro (cell_blk B32 rfl) ?_)))
  intro b5 h3 g3
  refine Exists.intro _ (And.intro g3.blk (And.intro (by decide) (And.intro rfl (And.intro (encR_one ⟨e.name, e.num⟩) ?_))))
  intro h4 p4
  have g4 := g3.put p4
  have B5 : Blk h4 b5 (encR ⟨e.name, e.num⟩) := p4.blk
  have c4 := g4.chg
  have s4 := g4.size
  have T4 := T2.chg c4 (by simp)
  have O4 := O2.chg c4 (by simp)
  have z4 := z2.step c4 (by simp)
  refine Exists.intro _ (And.intro (cell_blk T4 rfl) ?_)
  refine Exists.intro (encR ⟨e.name, e.num⟩) (And.intro rfl (And.intro (cells_blk B5) ?_))
  refine call_ret (bsR_calls (g := 31) (cap := []) (tgt := ⟨e.name, e.num⟩) (lo := fun x => aheadR x ⟨e.name, e.num⟩) O4.sl (by omega) ?_ ?_) ?_
  · intro h' x hc
    exact ahead_ord h' x ⟨e.name, e.num⟩ hc
  · intro i j hj hi hlo
    rcases Nat.lt_or_eq_of_le hi with hlt | rfl
    · exact ahead_tr _ _ _ (List.pairwise_iff_getElem.1 up i j (by omega) hj hlt) hlo
    · exact hlo
  rintro _ h5 ⟨⟨k, f, rfl, hc⟩, c5⟩
  have ep : putF (fun x => decide (x.name = e.name)) (fun x => aheadR ⟨e.name, e.num⟩ x) ⟨e.name, e.num⟩ t.ranks false = L.take k ++ ⟨e.name, e.num⟩ :: L.drop k := by
    have h1 := put_rank (y := ⟨e.name, e.num⟩) unn hc
    rw [← h1, ← hL, putF_del]
  rw [ep]
  have T5 := T4.chg c5 (by simp)
  have O5 := O4.chg c5 (by simp)
  have z5 := z4.step c5 (by simp)
  have B55 := B5.chg c5 (by simp)
  have s5 := c5.size
  refine Exists.intro _ (And.intro (cell_blk T5 rfl) ?_)
  refine Exists.intro (encR ⟨e.name, e.num⟩) (And.intro rfl (And.intro (cells_blk B55) ?_))
  intro b6 h6 g6
  have B6 : Blk h6 b6 (encR ⟨e.name, e.num⟩) := g6.blk
  have c6 := g6.chg
  have i6 := g6.id
  have s6 := g6.size
  have T6 := T5.chg c6 (by simp)
  have O6 := O5.chg c6 (by simp)
  have z6 := z5.step c6 (by simp)
  have lb := O5.lt
  refine call_ret (insR_calls (x := ⟨e.name, e.num⟩) O6 (by omega) hc.le B6 (fun hb => by have := lb b6 hb; omega)) ?_
  rintro r7 h7 ⟨O7, c7, hb7⟩
  have hb7' : ∀ b ∈ vblk r7, b ∈ vblk rv ∨ h.size ≤ b := fun b hb => by
    rcases hb7 b hb with h | h
    · exact .inl (hb2 b h)
    · exact .inr (by omega)
  have n7 : tb ∉ vblk r7 := fun hm => by
    rcases hb7' tb hm with h | h
    · exact hn'.2.2 h
    · omega
  have c27 : ∀ b, b < h.size → b ∉ vblk rv → b ∉ vblk rv2 := fun b _ hb hx => hb (hb2 b hx)
  obtain ⟨a7, k7, rfl, _⟩ := O7.form
  have T7 := T6.chg c7 (fun hx => hn'.2.2 (hb2 tb hx))
  have o7p := (((o2p.chg c4 (by simp)).chg c5 (by simp)).chg c6 (by simp)).chg c7 (fun b hb hx => o0.pr b hb (hb2 b hx))
  have o7l := (((o2l.chg c4 (by simp)).chg c5 (by simp)).chg c6 (by simp)).chg c7 (fun b hb hx => o0.lr b hb (hb2 b hx))
  have z7 := z6.step c7 (fun k hk _ => by simp only [List.mem_cons, bl3, List.mem_append]; exact .inr (.inr (.inr (hb2 k hk))))
  refine Exists.intro _ (And.intro T7 (And.intro (by simp [cellsT]) (And.intro rfl (And.intro (ones1 rfl) ?_))))
  intro h8 p8
  exact do_end (t' := { t with ranks := L.take k ++ ⟨e.name, e.num⟩ :: L.drop k }) (show Blk h8 tb (cellsT { t with ranks := _ } _ _ _) from p8.blk) (o7p.sl.chg p8.chg (by intro b hb; simp; rintro rfl; exact hn'.1 hb)) (o7l.sl.chg p8.chg (by intro b hb; simp; rintro rfl; exact hn'.2.1 hb))
    (O7.sl.chg p8.chg (by intro b hb; simp; rintro rfl; exact n7 hb)) (bl3_r hb7') (z7.step p8.chg (by simp))

end Go.Proofs.YtigolfakcblnjaaGreat
namespace Go.Proofs.YtigolfakcblnjaaGreat
open Go Go.Sx Go.Proofs.YtigolfakcblnjaaGreat.C

structure Rule where
  name : Bool
  text : Bool
  number : Bool
  kind : Int
  makes : Bool
  f : Nat

def Rule.val (r : Rule) : Value := ruleV r.name r.text r.number r.kind r.makes r.f

/-- The rule of an effect. -/
def ruleR (op : Int) : Option Rule :=
  if op = 1 then some ⟨false, false, false, 0, false, 49⟩ else
  if op = 2 then some ⟨false, true, false, 0, true, 50⟩ else
  if op = 3 then some ⟨false, false, true, 0, false, 51⟩ else
  if op = 4 then some ⟨false, false, false, 0, false, 52⟩ else
  if op = 5 then some ⟨true, true, false, 2, true, 53⟩ else
  if op = 6 then some ⟨true, false, false, 2, false, 54⟩ else
  if op = 7 then some ⟨false, true, false, 3, true, 55⟩ else
  if op = 8 then some ⟨false, true, false, 3, true, 57⟩ else
  if op = 9 then some ⟨false, false, false, 3, false, 58⟩ else
  if op = 10 then some ⟨false, false, false, 3, false, 59⟩ else
  if op = 11 then some ⟨false, true, true, 3, false, 60⟩ else
  if op = 12 then some ⟨true, false, false, 4, true, 61⟩ else
  if op = 13 then some ⟨true, false, false, 4, false, 62⟩ else
  if op = 14 then some ⟨true, false, true, 5, true, 63⟩ else
  if op = 15 then some ⟨true, false, false, 5, false, 64⟩ else none

theorem rule_find (op : Int) : (ruleR op = none ∧ mfind (.int .i64 op) (entsI ruleL 0) 0 = none) ∨ ∃ r i, ruleR op = some r ∧ mfind (.int .i64 op) (entsI ruleL 0) 0 = some (i, r.val) := by
  by_cases h1 : op = 1; · subst h1; exact .inr ⟨_, _, rfl, rfl⟩
  by_cases h2 : op = 2; · subst h2; exact .inr ⟨_, _, rfl, rfl⟩
  by_cases h3 : op = 3; · subst h3; exact .inr ⟨_, _, rfl, rfl⟩
  by_cases h4 : op = 4; · subst h4; exact .inr ⟨_, _, rfl, rfl⟩
  by_cases h5 : op = 5; · subst h5; exact .inr ⟨_, _, rfl, rfl⟩
  by_cases h6 : op = 6; · subst h6; exact .inr ⟨_, _, rfl, rfl⟩
  by_cases h7 : op = 7; · subst h7; exact .inr ⟨_, _, rfl, rfl⟩
  by_cases h8 : op = 8; · subst h8; exact .inr ⟨_, _, rfl, rfl⟩
  by_cases h9 : op = 9; · subst h9; exact .inr ⟨_, _, rfl, rfl⟩
  by_cases h10 : op = 10; · subst h10; exact .inr ⟨_, _, rfl, rfl⟩
  by_cases h11 : op = 11; · subst h11; exact .inr ⟨_, _, rfl, rfl⟩
  by_cases h12 : op = 12; · subst h12; exact .inr ⟨_, _, rfl, rfl⟩
  by_cases h13 : op = 13; · subst h13; exact .inr ⟨_, _, rfl, rfl⟩
  by_cases h14 : op = 14; · subst h14; exact .inr ⟨_, _, rfl, rfl⟩
  by_cases h15 : op = 15; · subst h15; exact .inr ⟨_, _, rfl, rfl⟩
  refine .inl ⟨by unfold ruleR; simp [h1, h2, h3, h4, h5, h6, h7, h8, h9, h10, h11, h12, h13, h14, h15], mfind_entsI op ruleL 0 0 fun x hx => ?_⟩
  simp only [ruleL, List.mem_cons, List.not_mem_nil, or_false] at hx
  rcases hx with rfl | rfl | rfl | rfl | rfl | rfl | rfl | rfl | rfl | rfl | rfl | rfl | rfl | rfl | rfl
  all_goals intro e; simp only at e; omega

/-- What becomes of a thing. -/
inductive Fate where
  | no (n : Int)
  | drop
  | put (t : Thing)

def endF (r : Thing × Int) (there full : Bool) : Fate :=
  if r.2 ≠ 0 then .no r.2 else if r.1.kind ≠ 1 ∧ countT r.1 = 0 then .drop else if 65536 < countT r.1 ∨ (there = false ∧ full = true) then .no 3 else .put r.1

def oneF (old : Option Thing) (e : Eff) (full : Bool) : Fate :=
  match ruleR e.op with
  | none => .no 2
  | some r =>
    if (r.name = false ∧ e.name ≠ noText) ∨ (r.text = false ∧ e.text ≠ noText) ∨ (r.number = false ∧ e.num ≠ 0) then .no 2 else
    if 1048576 < e.key.size ∨ 1048576 < e.name.size ∨ 1048576 < e.text.size then .no 3 else
    match old with
    | none => if r.makes = false then .no 5 else endF (doneT { zeroT with kind := r.kind } e) false full
    | some t => if r.kind ≠ 0 ∧ t.kind ≠ r.kind then .no 170 else endF (doneT t e) true full

abbrev Space := List (ByteArray × Thing)

def findS (S : Space) (key : ByteArray) : Option Thing := (S.find? fun p => decide (p.1 = key)).map (·.2)
def dropS (S : Space) (key : ByteArray) : Space := S.filter fun p => !decide (p.1 = key)
def putS (S : Space) (key : ByteArray) (t : Thing) : Space := S.filter (fun p => sless p.1 key) ++ (key, t) :: S.filter (fun p => sless key p.1)

def Fate.num : Fate → Int
  | .no n => n
  | _ => 0
def Fate.space (S : Space) (key : ByteArray) : Fate → Space
  | .no _ => S
  | .drop => dropS S key
  | .put t => putS S key t

def fateS (S : Space) (e : Eff) : Fate := oneF (findS S e.key) e (decide (65536 ≤ S.length))
def applyS : Space → List Eff → Space × Nat × Int
  | S, [] => (S, 0, 0)
  | S, e :: d => if (fateS S e).num = 0 then let r := applyS ((fateS S e).space S e.key) d; (r.1, r.2.1 + 1, r.2.2) else (S, 0, (fateS S e).num)

def UpS (S : Space) : Prop := S.Pairwise fun a b => sless a.1 b.1 = true

theorem mem_putS {S : Space} {key : ByteArray} {t : Thing} {p : ByteArray × Thing} : p ∈ putS S key t ↔ p = (key, t) ∨ (p ∈ S ∧ p.1 ≠ key) := by
  unfold putS
  rw [List.mem_append, List.mem_cons, List.mem_filter, List.mem_filter]
  constructor
  · rintro (⟨h1, h2⟩ | h | ⟨h1, h2⟩)
    · exact .inr ⟨h1, sless_ne (by simpa using h2)⟩
    · exact .inl h
    · exact .inr ⟨h1, fun e => sless_ne (by simpa using h2) e.symm⟩
  · rintro (h | ⟨h1, h2⟩)
    · exact .inr (.inl h)
    · rcases sless_total h2 with h | h
      · exact .inl ⟨h1, by simpa using h⟩
      · exact .inr (.inr ⟨h1, by simpa using h⟩)

theorem up_putS {S : Space} {key : ByteArray} {t : Thing} (hu : UpS S) : UpS (putS S key t) := by
  unfold putS UpS
  rw [List.pairwise_append, List.pairwise_cons]
  refine ⟨hu.filter _, ⟨fun p hp => ?_, hu.filter _⟩, fun p hp q hq => ?_⟩
  · have := (List.mem_filter.1 hp).2
    simpa using this
  · have h1 : sless p.1 key = true := by simpa using (List.mem_filter.1 hp).2
    rcases List.mem_cons.1 hq with rfl | hq
    · exact h1
    · have h2 : sless key q.1 = true := by simpa using (List.mem_filter.1 hq).2
      exact sless_trans h1 h2

theorem mem_dropS {S : Space} {key : ByteArray} {p : ByteArray × Thing} : p ∈ dropS S key ↔ p ∈ S ∧ p.1 ≠ key := by
  unfold dropS
  rw [List.mem_filter]
  simp

theorem up_dropS {S : Space} {key : ByteArray} (hu : UpS S) : UpS (dropS S key) := hu.filter _

theorem up_space {S : Space} {key : ByteArray} (f : Fate) (hu : UpS S) : UpS (f.space S key) := by
  cases f with
  | no n => exact hu
  | drop => exact up_dropS hu
  | put t => exact up_putS hu

theorem up_inj {S : Space} (hu : UpS S) {p q : ByteArray × Thing} (hp : p ∈ S) (hq : q ∈ S) (h : p.1 = q.1) : p = q := by
  induction S with
  | nil => simp at hp
  | cons x S ih =>
    have hx := List.pairwise_cons.1 hu
    rcases List.mem_cons.1 hp with e1 | hp
    · rcases List.mem_cons.1 hq with e2 | hq
      · rw [e1, e2]
      · have := hx.1 q hq
        rw [← e1, h, sless_irrefl] at this; cases this
    · rcases List.mem_cons.1 hq with e2 | hq
      · have := hx.1 p hp
        rw [← e2, h, sless_irrefl] at this; cases this
      · exact ih hx.2 hp hq

theorem findS_some {S : Space} (hu : UpS S) {key : ByteArray} {t : Thing} (h : (key, t) ∈ S) : findS S key = some t := by
  unfold findS
  cases hf : S.find? fun p => decide (p.1 = key) with
  | none =>
    have := List.find?_eq_none.1 hf _ h
    simp at this
  | some p =>
    have h1 := List.find?_some hf
    have h2 := List.mem_of_find?_eq_some hf
    have : p = (key, t) := up_inj hu h2 h (by simpa using h1)
    rw [this]; rfl

theorem findS_none {S : Space} {key : ByteArray} (h : ∀ p ∈ S, p.1 ≠ key) : findS S key = none := by
  unfold findS
  rw [List.find?_eq_none.2 fun p hp => by simpa using h p hp]
  rfl

theorem findS_mem {S : Space} {key : ByteArray} {t : Thing} (h : findS S key = some t) : (key, t) ∈ S := by
  unfold findS at h
  cases hf : S.find? fun p => decide (p.1 = key) with
  | none => rw [hf] at h; cases h
  | some p =>
    rw [hf] at h
    have h1 : p.1 = key := by simpa using List.find?_some hf
    have h2 := List.mem_of_find?_eq_some hf
    have h3 : p.2 = t := by simpa using h
    rw [← h1, ← h3]; exact h2

/-! ### What stays so -/
theorem TGood.zero (k : Int) : TGood { zeroT with kind := k } :=
  ⟨List.Pairwise.nil, fun _ => List.Pairwise.nil, List.Pairwise.nil, List.nodup_nil, fun _ => ⟨rfl, rfl⟩, by show (0 : Nat) + 0 + 0 ≤ 65536; omega⟩

/-- A thing that stands in a keyspace. -/
structure TIn (t : Thing) : Prop where
  good : TGood t
  some : t.kind = 3 → t.list ≠ []

/-- An effect is of the thing's kind. -/
def OfKind (t : Thing) (e : Eff) : Prop := ∀ r, ruleR e.op = some r → r.kind ≠ 0 → t.kind = r.kind

theorem nodup_putF {y : Rank} : ∀ {l : List Rank}, (l.map Rank.name).Nodup → ((putF (fun x => decide (x.name = y.name)) (fun x => aheadR y x) y l false).map Rank.name).Nodup
  | [], _ => by simp [putF]
  | x :: l, h => by
    rw [List.map_cons, List.nodup_cons] at h
    have ih := nodup_putF (y := y) h.2
    have hmem : ∀ {d : Bool} {m : List Rank} {z : Rank}, z ∈ putF (fun x => decide (x.name = y.name)) (fun x => aheadR y x) y m d → z = y ∨ (z ∈ m ∧ z.name ≠ y.name) := by
      intro d m z hz
      rcases mem_putF hz with h | ⟨h1, h2⟩
      · exact .inl h
      · exact .inr ⟨h1, by simpa using h2⟩
    simp only [putF]
    by_cases he : x.name = y.name
    · rw [if_pos (by simpa using he)]; exact ih
    · rw [if_neg (by simpa using he)]
      split
      · rw [putF_true, List.map_cons, List.map_cons, List.nodup_cons, List.nodup_cons]
        refine ⟨?_, ?_, ?_⟩
        · simp only [List.mem_cons, List.mem_map, not_or, not_exists, not_and]
          refine ⟨fun e => he e.symm, fun z hz e => ?_⟩
          have := (List.mem_filter.1 hz).2
          simp [e] at this
        · intro hm
          obtain ⟨z, hz, e⟩ := List.mem_map.1 hm
          exact h.1 (by rw [← e]; exact List.mem_map_of_mem (List.mem_filter.1 hz).1)
        · exact List.Nodup.sublist (List.Sublist.map _ List.filter_sublist) h.2
      · rw [List.map_cons, List.nodup_cons]
        refine ⟨fun hm => ?_, ih⟩
        obtain ⟨z, hz, e⟩ := List.mem_map.1 hm
        rcases hmem hz with rfl | ⟨h1, _⟩
        · exact he e.symm
        · exact h.1 (by rw [← e]; exact List.mem_map_of_mem h1)

theorem doneT_cases {t : Thing} {e : Eff} {P : Thing × Int → Prop} (h1 : P (zeroT, 0)) (h2 : P (textT e.text, 0)) (h3 : P ({ t with hasU := true, unt := e.num }, 0)) (h4 : P ({ t with hasU := false, unt := 0 }, 0))
    (h5 : e.op = 5 → P ({ t with pairs := putF (fun x => decide (x.name = e.name)) (fun x => sless e.name x.name) ⟨e.name, e.text⟩ t.pairs false }, 0))
    (h6 : e.op = 6 → P ({ t with pairs := delF (fun x => decide (x.name = e.name)) t.pairs }, if t.pairs.any (fun x => decide (x.name = e.name)) then 0 else 5))
    (h7 : e.op = 7 → P ({ t with list := e.text :: t.list }, 0)) (h8 : e.op = 8 → P ({ t with list := t.list ++ [e.text] }, 0)) (h9 : P ({ t with list := t.list.tail }, 0)) (h10 : P ({ t with list := t.list.dropLast }, 0))
    (h11 : e.op = 11 → P ({ t with list := t.list.set e.num.toNat e.text }, 0)) (h11' : P (t, 4))
    (h12 : P ({ t with list := putF (fun x => decide (x = e.name)) (fun x => sless e.name x) e.name t.list false }, 0))
    (h13 : P ({ t with list := delF (fun x => decide (x = e.name)) t.list }, if t.list.any (fun x => decide (x = e.name)) then 0 else 5))
    (h14 : e.op = 14 → P ({ t with ranks := putF (fun x => decide (x.name = e.name)) (fun x => aheadR ⟨e.name, e.num⟩ x) ⟨e.name, e.num⟩ t.ranks false }, 0))
    (h15 : e.op = 15 → P ({ t with ranks := delF (fun x => decide (x.name = e.name)) t.ranks }, if t.ranks.any (fun x => decide (x.name = e.name)) then 0 else 5)) (h16 : P (t, 0)) : P (doneT t e) := by
  unfold doneT
  by_cases e1 : e.op = 1
  · rw [if_pos e1]; exact h1
  rw [if_neg e1]
  by_cases e2 : e.op = 2
  · rw [if_pos e2]; exact h2
  rw [if_neg e2]
  by_cases e3 : e.op = 3
  · rw [if_pos e3]; exact h3
  rw [if_neg e3]
  by_cases e4 : e.op = 4
  · rw [if_pos e4]; exact h4
  rw [if_neg e4]
  by_cases e5 : e.op = 5
  · rw [if_pos e5]; exact h5 e5
  rw [if_neg e5]
  by_cases e6 : e.op = 6
  · rw [if_pos e6]; exact h6 e6
  rw [if_neg e6]
  by_cases e7 : e.op = 7
  · rw [if_pos e7]; exact h7 e7
  rw [if_neg e7]
  by_cases e8 : e.op = 8
  · rw [if_pos e8]; exact h8 e8
  rw [if_neg e8]
  by_cases e9 : e.op = 9
  · rw [if_pos e9]; exact h9
  rw [if_neg e9]
  by_cases e10 : e.op = 10
  · rw [if_pos e10]; exact h10
  rw [if_neg e10]
  by_cases e11 : e.op = 11
  · rw [if_pos e11]
    by_cases hh : 0 ≤ e.num ∧ e.num < t.list.length
    · rw [if_pos hh]; exact h11 e11
    · rw [if_neg hh]; exact h11'
  rw [if_neg e11]
  by_cases e12 : e.op = 12
  · rw [if_pos e12]; exact h12
  rw [if_neg e12]
  by_cases e13 : e.op = 13
  · rw [if_pos e13]; exact h13
  rw [if_neg e13]
  by_cases e14 : e.op = 14
  · rw [if_pos e14]; exact h14 e14
  rw [if_neg e14]
  by_cases e15 : e.op = 15
  · rw [if_pos e15]; exact h15 e15
  rw [if_neg e15]
  exact h16

def TUp (t : Thing) : Prop := (t.kind = 3 → t.pairs = [] ∧ t.ranks = []) ∧ (t.pairs.Pairwise fun a b => sless a.name b.name = true) ∧ (t.kind = 4 → t.list.Pairwise fun a b => sless a b = true) ∧ (t.ranks.Pairwise fun a b => aheadR a b = true) ∧ (t.ranks.map Rank.name).Nodup

/-- Behind an effect a thing is as it must be, but for being empty or too great. -/
theorem doneT_good {t : Thing} {e : Eff} (f : TGood t) (hk : OfKind t e) : TUp (doneT t e).1 := by
  have hp : ∀ x : Pair, decide (x.name = e.name) = false → sless e.name x.name = false → sless x.name e.name = true := fun x h1 h2 => sless_not h2 (fun h => by simp [h] at h1)
  have k3 : t.kind = 3 → t.kind ≠ 4 := fun h1 => by omega
  have z : ∀ t : Thing, t.pairs = [] → t.list = [] → t.ranks = [] → TUp t := fun t h1 h2 h3 => by
    unfold TUp
    rw [h1, h2, h3]
    exact ⟨fun _ => ⟨rfl, rfl⟩, List.Pairwise.nil, fun _ => List.Pairwise.nil, List.Pairwise.nil, List.nodup_nil⟩
  refine doneT_cases (P := fun r => TUp r.1) (z _ rfl rfl rfl) (z _ rfl rfl rfl) ⟨f.only, f.ps, f.ls, f.rs, f.once⟩ ⟨f.only, f.ps, f.ls, f.rs, f.once⟩ (fun h7 => ?_) (fun h7 => ?_) (fun h7 => ?_) (fun h7 => ?_)
    ⟨f.only, f.ps, fun k => (f.ls k).tail, f.rs, f.once⟩ ⟨f.only, f.ps, fun k => (f.ls k).sublist (List.dropLast_sublist _), f.rs, f.once⟩ (fun h7 => ?_) ⟨f.only, f.ps, f.ls, f.rs, f.once⟩ ⟨f.only, f.ps, fun k => ?_, f.rs, f.once⟩
    ⟨f.only, f.ps, fun k => (f.ls k).filter _, f.rs, f.once⟩ (fun h7 => ?_) (fun h7 => ?_) ⟨f.only, f.ps, f.ls, f.rs, f.once⟩
  · have := hk ⟨true, true, false, 2, true, 53⟩ (by rw [h7]; rfl) (by decide)
    exact ⟨fun k => absurd k (by rw [this]; decide), putF_up (y := (⟨e.name, e.text⟩ : Pair)) (R := fun a b : Pair => sless a.name b.name = true) (fun x _ h => h) (fun x h1 h2 => hp x h1 h2) (fun a b c => sless_trans) f.ps, f.ls, f.rs, f.once⟩
  · have := hk ⟨true, false, false, 2, false, 54⟩ (by rw [h7]; rfl) (by decide)
    exact ⟨fun k => absurd k (by rw [this]; decide), f.ps.filter _, f.ls, f.rs, f.once⟩
  · have := hk ⟨false, true, false, 3, true, 55⟩ (by rw [h7]; rfl) (by decide)
    exact ⟨f.only, f.ps, fun k => absurd k (k3 this), f.rs, f.once⟩
  · have := hk ⟨false, true, false, 3, true, 57⟩ (by rw [h7]; rfl) (by decide)
    exact ⟨f.only, f.ps, fun k => absurd k (k3 this), f.rs, f.once⟩
  · have := hk ⟨false, true, true, 3, false, 60⟩ (by rw [h7]; rfl) (by decide)
    exact ⟨f.only, f.ps, fun k => absurd k (k3 this), f.rs, f.once⟩
  · exact putF_up (y := e.name) (R := fun a b => sless a b = true) (fun x _ h => h) (fun x h1 h2 => sless_not h2 (fun h => by simp [h] at h1)) (fun a b c => sless_trans) (f.ls k)
  · have := hk ⟨true, false, true, 5, true, 63⟩ (by rw [h7]; rfl) (by decide)
    exact ⟨fun k => absurd k (by rw [this]; decide), f.ps, f.ls, putF_up (y := (⟨e.name, e.num⟩ : Rank)) (R := fun a b => aheadR a b = true) (fun x _ h => h) (fun x h1 h2 => ahead_not h2 (fun h => by
      have : x.name = e.name := h.symm
      simp [this] at h1)) ahead_tr f.rs, nodup_putF (y := ⟨e.name, e.num⟩) f.once⟩
  · have := hk ⟨true, false, false, 5, false, 64⟩ (by rw [h7]; rfl) (by decide)
    exact ⟨fun k => absurd k (by rw [this]; decide), f.ps, f.ls, f.rs.filter _, List.Nodup.sublist (List.Sublist.map _ List.filter_sublist) f.once⟩

/-- No list is longer than one more. -/
theorem doneT_len {t : Thing} {e : Eff} : countT (doneT t e).1 ≤ countT t + 1 := by
  have h1 := putF_len (eq := fun x : Pair => decide (x.name = e.name)) (lt := fun x => sless e.name x.name) (y := ⟨e.name, e.text⟩) t.pairs false
  have h2 := putF_len (eq := fun x : ByteArray => decide (x = e.name)) (lt := fun x => sless e.name x) (y := e.name) t.list false
  have h3 := putF_len (eq := fun x : Rank => decide (x.name = e.name)) (lt := fun x => aheadR ⟨e.name, e.num⟩ x) (y := ⟨e.name, e.num⟩) t.ranks false
  have d1 : (delF (fun x : Pair => decide (x.name = e.name)) t.pairs).length ≤ t.pairs.length := List.length_filter_le _ _
  have d2 : (delF (fun x : ByteArray => decide (x = e.name)) t.list).length ≤ t.list.length := List.length_filter_le _ _
  have d3 : (delF (fun x : Rank => decide (x.name = e.name)) t.ranks).length ≤ t.ranks.length := List.length_filter_le _ _
  refine doneT_cases (P := fun r => countT r.1 ≤ countT t + 1) ?_ ?_ ?_ ?_ (fun _ => ?_) (fun _ => ?_) (fun _ => ?_) (fun _ => ?_) ?_ ?_ (fun _ => ?_) ?_ ?_ ?_ (fun _ => ?_) (fun _ => ?_) ?_
  all_goals simp only [countT, zeroT, textT, List.length_nil, List.length_cons, List.length_append, List.length_tail, List.length_dropLast, List.length_set]
  all_goals omega

/-- Where a thing is put, it is one of keyspaces. -/
theorem endF_put {r : Thing × Int} {there full : Bool} {t : Thing} (h : endF r there full = .put t) : t = r.1 ∧ r.2 = 0 ∧ countT t ≤ 65536 ∧ (t.kind = 1 ∨ countT t ≠ 0) ∧ (there = false → full = false) := by
  unfold endF at h
  split at h
  · cases h
  · rename_i h1
    split at h
    · cases h
    · rename_i h2
      split at h
      · cases h
      · rename_i h3
        injection h with h
        subst h
        refine ⟨rfl, Decidable.not_not.1 h1, by omega, ?_, fun ht => ?_⟩
        · by_cases hk : r.1.kind = 1
          · exact .inl hk
          · exact .inr fun hc => h2 ⟨hk, hc⟩
        · cases hf : full with
          | false => rfl
          | true => exact absurd (.inr ⟨ht, hf⟩) h3

theorem endF_in {t t' : Thing} {e : Eff} {there full : Bool} (f : TGood t) (hk : OfKind t e) (h : endF (doneT t e) there full = .put t') : TIn t' := by
  obtain ⟨rfl, _, h1, h2, _⟩ := endF_put h
  obtain ⟨u1, u2, u3, u4, u5⟩ := doneT_good f hk
  refine ⟨⟨u2, u3, u4, u5, u1, h1⟩, fun h3 e0 => ?_⟩
  rcases h2 with h2 | h2
  · rw [h3] at h2; exact absurd h2 (by decide)
  · obtain ⟨p1, p2⟩ := u1 h3
    exact h2 (by unfold countT; rw [p1, p2, e0]; rfl)

def InS (S : Space) : Prop := ∀ p ∈ S, TIn p.2

theorem oneF_in {S : Space} {e : Eff} {full : Bool} {t : Thing} (hi : InS S) (h : oneF (findS S e.key) e full = .put t) : TIn t := by
  unfold oneF at h
  cases hr : ruleR e.op with
  | none => rw [hr] at h; cases h
  | some r =>
    rw [hr] at h
    simp only at h
    split at h
    · cases h
    split at h
    · cases h
    cases hf : findS S e.key with
    | none =>
      rw [hf] at h
      simp only at h
      split at h
      · cases h
      · exact endF_in (TGood.zero _) (fun r' h1 _ => by rw [hr] at h1; injection h1 with h1; rw [h1]) h
    | some t0 =>
      rw [hf] at h
      simp only at h
      split at h
      · cases h
      · rename_i hk
        refine endF_in (hi _ (findS_mem hf)).good (fun r' h1 h2 => ?_) h
        rw [hr] at h1
        injection h1 with h1
        subst h1
        exact Decidable.not_not.1 fun hne => hk ⟨h2, hne⟩

theorem in_space {S : Space} {e : Eff} {full : Bool} (hi : InS S) : InS ((oneF (findS S e.key) e full).space S e.key) := by
  cases hf : oneF (findS S e.key) e full with
  | no n => exact hi
  | drop => exact fun p hp => hi p (mem_dropS.1 hp).1
  | put t =>
    intro p hp
    rcases mem_putS.1 hp with rfl | ⟨hp, _⟩
    · exact oneF_in hi hf
    · exact hi p hp

end Go.Proofs.YtigolfakcblnjaaGreat
namespace Go.Proofs.YtigolfakcblnjaaGreat
open Go Go.Sx Go.Proofs.YtigolfakcblnjaaGreat.C

theorem swp_condT {P : Program} {c : Operand} {a b : SCode} {Q : Post} {σ : Env} {ds : List Deferred} {h : Heap} (hc : ev σ c = some (.bool true)) (hs : swp P a Q σ ds h) : swp P (.cond c a b) Q σ ds h := by
  simp only [swp, hc]; exact hs
theorem swp_condF {P : Program} {c : Operand} {a b : SCode} {Q : Post} {σ : Env} {ds : List Deferred} {h : Heap} (hc : ev σ c = some (.bool false)) (hs : swp P b Q σ ds h) : swp P (.cond c a b) Q σ ds h := by
  simp only [swp, hc]; exact hs

/-- Each rule does what it says. -/
theorem rule_do {t : Thing} {e : Eff} {r : Rule} (hr : ruleR e.op = some r) (gd : TGood t) (hk : OfKind t e) (hne : e.op = 9 ∨ e.op = 10 → t.list ≠ []) : DoOK r.f t e := by
  unfold ruleR at hr
  by_cases h1 : e.op = 1
  · rw [if_pos h1] at hr
    injection hr with hr
    rw [← hr]
    exact drop_do h1 gd
  rw [if_neg h1] at hr
  by_cases h2 : e.op = 2
  · rw [if_pos h2] at hr
    injection hr with hr
    rw [← hr]
    exact text_do h2 gd
  rw [if_neg h2] at hr
  by_cases h3 : e.op = 3
  · rw [if_pos h3] at hr
    injection hr with hr
    rw [← hr]
    exact until_do h3 gd
  rw [if_neg h3] at hr
  by_cases h4 : e.op = 4
  · rw [if_pos h4] at hr
    injection hr with hr
    rw [← hr]
    exact keep_do h4 gd
  rw [if_neg h4] at hr
  by_cases h5 : e.op = 5
  · rw [if_pos h5] at hr
    injection hr with hr
    rw [← hr]
    exact hash_do h5 gd
  rw [if_neg h5] at hr
  by_cases h6 : e.op = 6
  · rw [if_pos h6] at hr
    injection hr with hr
    rw [← hr]
    exact unhash_do h6 gd
  rw [if_neg h6] at hr
  by_cases h7 : e.op = 7
  · rw [if_pos h7] at hr
    injection hr with hr
    rw [← hr]
    exact head_do h7 gd
  rw [if_neg h7] at hr
  by_cases h8 : e.op = 8
  · rw [if_pos h8] at hr
    injection hr with hr
    rw [← hr]
    exact tail_do h8 gd
  rw [if_neg h8] at hr
  by_cases h9 : e.op = 9
  · rw [if_pos h9] at hr
    injection hr with hr
    rw [← hr]
    exact unhead_do h9 gd (hne (.inl h9))
  rw [if_neg h9] at hr
  by_cases h10 : e.op = 10
  · rw [if_pos h10] at hr
    injection hr with hr
    rw [← hr]
    exact untail_do h10 gd (hne (.inr h10))
  rw [if_neg h10] at hr
  by_cases h11 : e.op = 11
  · rw [if_pos h11] at hr
    injection hr with hr
    rw [← hr]
    exact at_do h11 gd
  rw [if_neg h11] at hr
  by_cases h12 : e.op = 12
  · rw [if_pos h12] at hr
    injection hr with hr
    rw [← hr]
    exact add_do h12 gd (hk ⟨true, false, false, 4, true, 61⟩ (by rw [h12]; rfl) (by decide))
  rw [if_neg h12] at hr
  by_cases h13 : e.op = 13
  · rw [if_pos h13] at hr
    injection hr with hr
    rw [← hr]
    exact remove_do h13 gd (hk ⟨true, false, false, 4, false, 62⟩ (by rw [h13]; rfl) (by decide))
  rw [if_neg h13] at hr
  by_cases h14 : e.op = 14
  · rw [if_pos h14] at hr
    injection hr with hr
    rw [← hr]
    exact rank_do h14 gd
  rw [if_neg h14] at hr
  by_cases h15 : e.op = 15
  · rw [if_pos h15] at hr
    injection hr with hr
    rw [← hr]
    exact unrank_do h15 gd
  rw [if_neg h15] at hr
  cases hr

/-! ### The map turned -/
theorem map_set {m : List KI} {j : Nat} {i : KI} {tb : Nat} {us : List Value} {t : Thing} (hj : m[j]? = some i) : (m.map KI.ent).modify j (fun e => { e with val := ptr tb }) = (m.set j ⟨i.key, tb, us, t, i.born⟩).map KI.ent := by
  induction m generalizing j with
  | nil => simp at hj
  | cons x m ih =>
    cases j with
    | zero =>
      simp at hj
      subst hj
      simp [KI.ent]
    | succ j =>
      have := ih (j := j) (by simpa using hj)
      simp only [List.map_cons, List.modify_succ_cons, List.set_cons_succ, this]

theorem map_erase {m : List KI} {j : Nat} : (m.map KI.ent).eraseIdx j = (m.eraseIdx j).map KI.ent := by
  induction m generalizing j with
  | nil => simp
  | cons x m ih =>
    cases j with
    | zero => simp
    | succ j => simp [ih]

theorem mem_set {m : List KI} {j : Nat} {i x y : KI} (hn : (m.map KI.key).Nodup) (hj : m[j]? = some i) : y ∈ m.set j x ↔ y = x ∨ (y ∈ m ∧ y.key ≠ i.key) := by
  induction m generalizing j with
  | nil => simp at hj
  | cons z m ih =>
    rw [List.map_cons, List.nodup_cons] at hn
    cases j with
    | zero =>
      simp at hj
      subst hj
      rw [List.set_cons_zero, List.mem_cons, List.mem_cons]
      constructor
      · rintro (h | h)
        · exact .inl h
        · exact .inr ⟨.inr h, fun e => hn.1 (by rw [← e]; exact List.mem_map_of_mem h)⟩
      · rintro (h | ⟨h | h, hk⟩)
        · exact .inl h
        · exact absurd (by rw [h]) hk
        · exact .inr h
    | succ j =>
      have hj' : m[j]? = some i := by simpa using hj
      have := ih hn.2 hj'
      rw [List.set_cons_succ, List.mem_cons, List.mem_cons, this]
      have hi := List.mem_of_getElem? hj'
      constructor
      · rintro (h | h | ⟨h, hk⟩)
        · exact .inr ⟨.inl h, fun e => hn.1 (by rw [← h, e]; exact List.mem_map_of_mem hi)⟩
        · exact .inl h
        · exact .inr ⟨.inr h, hk⟩
      · rintro (h | ⟨h | h, hk⟩)
        · exact .inr (.inl h)
        · exact .inl h
        · exact .inr (.inr ⟨h, hk⟩)

theorem mem_erase {m : List KI} {j : Nat} {i y : KI} (hn : (m.map KI.key).Nodup) (hj : m[j]? = some i) : y ∈ m.eraseIdx j ↔ y ∈ m ∧ y.key ≠ i.key := by
  induction m generalizing j with
  | nil => simp at hj
  | cons z m ih =>
    rw [List.map_cons, List.nodup_cons] at hn
    cases j with
    | zero =>
      simp at hj
      subst hj
      rw [List.eraseIdx_cons_zero, List.mem_cons]
      constructor
      · exact fun h => ⟨.inr h, fun e => hn.1 (by rw [← e]; exact List.mem_map_of_mem h)⟩
      · rintro ⟨h | h, hk⟩
        · exact absurd (by rw [h]) hk
        · exact h
    | succ j =>
      have hj' : m[j]? = some i := by simpa using hj
      have hi := List.mem_of_getElem? hj'
      rw [List.eraseIdx_cons_succ, List.mem_cons, List.mem_cons, ih hn.2 hj']
      constructor
      · rintro (h | ⟨h, hk⟩)
        · exact ⟨.inl h, fun e => hn.1 (by rw [← h, e]; exact List.mem_map_of_mem hi)⟩
        · exact ⟨.inr h, hk⟩
      · rintro ⟨h | h, hk⟩
        · exact .inl h
        · exact .inr ⟨h, hk⟩

theorem KR.turn {h h' : Heap} {kb sb mb c tb j : Nat} {m : List KI} {i : KI} {us : List Value} {t : Thing} (x : KR h kb sb mb c m) (hj : m[j]? = some i)
    (p : PutO h h' mb (.map ⟨(m.map KI.ent).modify j (fun e => { e with val := ptr tb })⟩ c)) (B : Blk h tb us) (tx : TH h us t) (n : Lens t) :
    KR h' kb sb mb c (m.set j ⟨i.key, tb, us, t, i.born⟩) := by
  have ch := ch_putO x.map p
  have hi := List.mem_of_getElem? hj
  have km : ∀ {β : Type} (f : KI → β), f ⟨i.key, tb, us, t, i.born⟩ = f i → (m.set j ⟨i.key, tb, us, t, i.born⟩).map f = m.map f := fun f hf => by
    rw [List.map_set, hf]
    have : (m.map f)[j]? = some (f i) := by rw [List.getElem?_map, hj]; rfl
    rw [List.getElem?_eq_some_iff] at this
    obtain ⟨hlt, he⟩ := this
    rw [← he]; exact List.set_getElem_self hlt
  refine ⟨x.ks.ch ch, ?_, fun y hy => ?_, ?_, fun y hy => ?_, ?_, fun y hy => ?_, by rw [List.length_set]; exact x.len⟩
  · show h'[mb]? = _
    rw [p.blk, map_set (us := us) (t := t) hj]
  · rcases (mem_set x.nodup hj).1 hy with rfl | ⟨hy, _⟩
    · exact ⟨ch.blk _ _ B, tx.ch ch, n⟩
    · obtain ⟨h1, h2, h3⟩ := x.here y hy
      exact ⟨ch.blk _ _ h1, h2.ch ch, h3⟩
  · rw [km KI.key rfl]; exact x.nodup
  · rcases (mem_set x.nodup hj).1 hy with rfl | ⟨hy, _⟩
    · exact x.born i hi
    · exact x.born y hy
  · rw [km KI.born rfl]; exact x.borns
  · rcases (mem_set x.nodup hj).1 hy with rfl | ⟨hy, _⟩
    · exact x.keys i hi
    · exact x.keys y hy

theorem KR.erase {h h' : Heap} {kb sb mb c j : Nat} {m : List KI} (x : KR h kb sb mb c m) (p : PutO h h' mb (.map ⟨(m.map KI.ent).eraseIdx j⟩ c)) : KR h' kb sb mb c (m.eraseIdx j) := by
  have ch := ch_putO x.map p
  have sub : (m.eraseIdx j).Sublist m := List.eraseIdx_sublist m j
  refine ⟨x.ks.ch ch, ?_, fun y hy => ?_, x.nodup.sublist (sub.map _), fun y hy => x.born y (sub.subset hy), x.borns.sublist (sub.map _), fun y hy => x.keys y (sub.subset hy), Nat.le_trans sub.length_le x.len⟩
  · show h'[mb]? = _
    rw [p.blk, map_erase]
  · obtain ⟨h1, h2, h3⟩ := x.here y (sub.subset hy)
    exact ⟨ch.blk _ _ h1, h2.ch ch, h3⟩

/-- What has become of the things. -/
def FateM (key : ByteArray) (m m' : List KI) : Fate → Prop
  | .no _ => m'.map KI.pr = m.map KI.pr
  | .drop => ∀ p, p ∈ m'.map KI.pr ↔ p ∈ m.map KI.pr ∧ p.1 ≠ key
  | .put t => ∀ p, p ∈ m'.map KI.pr ↔ p = (key, t) ∨ (p ∈ m.map KI.pr ∧ p.1 ≠ key)

theorem mem_pr {m : List KI} {p : ByteArray × Thing} : p ∈ m.map KI.pr ↔ ∃ i ∈ m, i.key = p.1 ∧ i.thing = p.2 := by
  rw [List.mem_map]
  constructor
  · rintro ⟨i, hi, rfl⟩; exact ⟨i, hi, rfl, rfl⟩
  · rintro ⟨i, hi, h1, h2⟩; exact ⟨i, hi, by cases p; simp_all [KI.pr]⟩

theorem fate_set {m : List KI} {j tb : Nat} {i : KI} {us : List Value} {t : Thing} (hn : (m.map KI.key).Nodup) (hj : m[j]? = some i) : FateM i.key m (m.set j ⟨i.key, tb, us, t, i.born⟩) (.put t) := by
  intro p
  rw [mem_pr, mem_pr]
  constructor
  · rintro ⟨y, hy, h1, h2⟩
    rcases (mem_set hn hj).1 hy with rfl | ⟨hy, hk⟩
    · exact .inl (by cases p; simp_all)
    · exact .inr ⟨⟨y, hy, h1, h2⟩, fun e => hk (h1.trans e)⟩
  · rintro (rfl | ⟨⟨y, hy, h1, h2⟩, hk⟩)
    · exact ⟨_, (mem_set hn hj).2 (.inl rfl), rfl, rfl⟩
    · exact ⟨y, (mem_set hn hj).2 (.inr ⟨hy, fun e => hk (h1.symm.trans e)⟩), h1, h2⟩

theorem fate_new {m : List KI} {tb b : Nat} {key : ByteArray} {us : List Value} {t : Thing} (hn : ∀ i ∈ m, i.key ≠ key) : FateM key m (m ++ [⟨key, tb, us, t, b⟩]) (.put t) := by
  intro p
  rw [mem_pr, mem_pr]
  constructor
  · rintro ⟨y, hy, h1, h2⟩
    rcases List.mem_append.1 hy with hy | hy
    · exact .inr ⟨⟨y, hy, h1, h2⟩, fun e => hn y hy (h1.trans e)⟩
    · rw [List.mem_singleton] at hy
      subst hy
      exact .inl (by cases p; simp_all)
  · rintro (rfl | ⟨⟨y, hy, h1, h2⟩, hk⟩)
    · exact ⟨_, List.mem_append_right _ (List.mem_singleton.2 rfl), rfl, rfl⟩
    · exact ⟨y, List.mem_append_left _ hy, h1, h2⟩

theorem fate_erase {m : List KI} {j : Nat} {i : KI} (hn : (m.map KI.key).Nodup) (hj : m[j]? = some i) : FateM i.key m (m.eraseIdx j) .drop := by
  intro p
  rw [mem_pr, mem_pr]
  constructor
  · rintro ⟨y, hy, h1, h2⟩
    obtain ⟨hy, hk⟩ := (mem_erase hn hj).1 hy
    exact ⟨⟨y, hy, h1, h2⟩, fun e => hk (h1.trans e)⟩
  · rintro ⟨⟨y, hy, h1, h2⟩, hk⟩
    exact ⟨y, (mem_erase hn hj).2 ⟨hy, fun e => hk (h1.symm.trans e)⟩, h1, h2⟩

theorem fate_none {m : List KI} {key : ByteArray} (hn : ∀ i ∈ m, i.key ≠ key) : FateM key m m .drop := by
  intro p
  constructor
  · exact fun h => ⟨h, by obtain ⟨i, hi, h1, _⟩ := mem_pr.1 h; rw [← h1]; exact hn i hi⟩
  · exact fun h => h.1

/-- What one does. -/
def OneP (h0 : Heap) (kb sb mb : Nat) (key : ByteArray) (m : List KI) (f : Fate) (r : Value) (h' : Heap) : Prop :=
  r = .int .i64 f.num ∧ ∃ c' m', KR h' kb sb mb c' m' ∧ FateM key m m' f ∧ Chg [mb] h0 h'

theorem one_no {h0 h' : Heap} {kb sb mb c : Nat} {key : ByteArray} {m : List KI} {n : Int} (kr : KR h0 kb sb mb c m) (c0 : Chg [] h0 h') : OneP h0 kb sb mb key m (.no n) (.int .i64 n) h' :=
  ⟨rfl, c, m, kr.ext c0, rfl, c0.mono (by simp)⟩

def ruleC (r : Rule) : List Value := [.bool r.name, .bool r.text, .bool r.number, .int .i64 r.kind, .bool r.makes, .func (.func r.f) #[] #[]]

/-- Behind the rule's choice: it is done, and the thing is laid back. -/
theorem oneG_tail {h0 h : Heap} {kb sb mb c b3 b5 b7 : Nat} {m : List KI} {e : Eff} {r : Rule} {t : Thing} {there : Bool} {pv lv rv : Value} (kr : KR h0 kb sb mb c m) (c0 : Chg [] h0 h) (B3 : Blk h b3 (encD e)) (B5 : Blk h b5 (ruleC r))
    (T7 : Blk h b7 (cellsT t pv lv rv)) (o7 : TO h pv lv rv t) (h7 : b7 ∉ bl3 pv lv rv) (f7 : h0.size ≤ b7) (fb : ∀ b ∈ bl3 pv lv rv, h0.size ≤ b) (h3 : b3 ∉ b7 :: bl3 pv lv rv) (gd : TGood t) (hd : DoOK r.f t e) (hkey : e.key.size ≤ 1048576)
    (ht : if there = true then ∃ i ∈ m, i.key = e.key else ∀ i ∈ m, i.key ≠ e.key) :
    swp Tryz.prog (.seq (.seq (.ops f17r13) (.seq (.ops f17r14) (.cond (.tmp 95) (.seq (.ops f17r15) .ret) .skip))) (.seq (.block 1 (.seq (.ops f17r16) (.cond (.tmp 106) (.ops f17r17) (.seq (.ops f17r18) (.cond (.tmp 124) (.seq (.ops f17r19) .ret) (.ops f17r20)))))) (.seq (.ops f17r21) .ret)))
      (retQ [.t 4] (Ret (OneP h0 kb sb mb e.key m (endF (doneT t e) there (decide (65536 ≤ m.length)))))) (mk [(0, ptr kb), (3, ptr b3), (5, ptr b5), (7, ptr b7), (8, .bool there)]) [] h := by
  have hle := c0.size
  have clen := doneT_len (t := t) (e := e)
  have cfew := gd.few
  refine Exists.intro _ (And.intro (cell_blk B5 rfl) ?_)
  refine Exists.intro (encD e) (And.intro rfl (And.intro (cells_blk B3) ?_))
  refine call_ret (hd h b7 pv lv rv T7 o7 h7) ?_
  rintro _ h6 ⟨rfl, hok, c6⟩
  have c06 : Chg [] h0 h6 := c0.fresh c6 (fun k hk => by
    rcases List.mem_cons.1 hk with rfl | hk
    · exact f7
    · exact fb k hk)
  generalize hres : doneT t e = res at *
  refine And.intro rfl (And.intro (fun hne => ?_) (fun hne => ?_))
  · have ef : endF res there (decide (65536 ≤ m.length)) = .no res.2 := by unfold endF; rw [if_pos hne]
    rw [ef]
    exact one_no kr c06
  have hz : res.2 = 0 := Decidable.not_not.1 hne
  obtain ⟨ws, W6, x6, hws⟩ := hok hz
  have kr6 := kr.ext c06
  have B36 := B3.chg c6 h3
  obtain ⟨pv', lv', rv', hwse, sp, sl, sr⟩ := x6
  have x6 : TH h6 ws res.1 := ⟨pv', lv', rv', hwse, sp, sl, sr⟩
  have hlens : Lens res.1 := by
    unfold countT at clen cfew
    exact ⟨by omega, by omega, by omega⟩
  have K6 : cell h6 b7 0 = some (.int .i64 res.1.kind) := by
    refine cell_blk W6 ?_
    rw [hwse]; rfl
  have drop_ : res.1.kind ≠ 1 ∧ countT res.1 = 0 → ∀ (h8 : Heap), Chg [] h6 h8 →
      swp Tryz.prog (.cond (.tmp 106) (.ops f17r17) (.seq (.ops f17r18) (.cond (.tmp 124) (.seq (.ops f17r19) .ret) (.ops f17r20)))) (blockQ 1 (thenQ (swp Tryz.prog (.seq (.ops f17r21) .ret) (retQ [.t 4] (Ret (OneP h0 kb sb mb e.key m (endF res there (decide (65536 ≤ m.length))))))) (retQ [.t 4] (Ret (OneP h0 kb sb mb e.key m (endF res there (decide (65536 ≤ m.length)))))))) (mk [(0, ptr kb), (3, ptr b3), (7, ptr b7), (8, .bool there), (106, .bool true)]) [] h8 := by
    intro hem h8 c8
    have ef : endF res there (decide (65536 ≤ m.length)) = .drop := by unfold endF; rw [if_neg hne, if_pos hem]
    rw [ef]
    have kr8 := kr6.ext c8
    have B38 := B36.chg c8 (by simp)
    refine Exists.intro _ (And.intro (cell_blk kr8.ks.k rfl) (Exists.intro _ (And.intro (cell_blk kr8.ks.s rfl) ?_)))
    refine Exists.intro _ (And.intro (cell_blk B38 rfl) ?_)
    refine And.intro rfl (Exists.intro (m.map KI.ent) (Exists.intro c (And.intro kr8.map (And.intro (ents_fit m) ?_))))
    rcases mfind_ents e.key m 0 with ⟨hmf, hno⟩ | ⟨j, i, hmf, hj, hik⟩
    · rw [hmf]
      intro h9 p9
      refine And.intro rfl (Exists.intro c (Exists.intro m (And.intro ?_ (And.intro (fate_none hno) (((c06.nil c8).mono (by simp)).step p9.chg (by simp))))))
      have ch := ch_putO kr8.map p9
      exact ⟨kr8.ks.ch ch, p9.blk, fun y hy => let ⟨a1, a2, a3⟩ := kr8.here y hy; ⟨ch.blk _ _ a1, a2.ch ch, a3⟩, kr8.nodup, kr8.born, kr8.borns, kr8.keys, kr8.len⟩
    · rw [hmf, Nat.zero_add]
      intro h9 p9
      refine And.intro rfl (Exists.intro c (Exists.intro (m.eraseIdx j) (And.intro (kr8.erase p9) (And.intro ?_ (((c06.nil c8).mono (by simp)).step p9.chg (by simp))))))
      rw [← hik]
      exact fate_erase kr8.nodup hj
  have rest_ : ¬ (res.1.kind ≠ 1 ∧ countT res.1 = 0) → ∀ (h8 : Heap), Chg [] h6 h8 →
      swp Tryz.prog (.cond (.tmp 106) (.ops f17r17) (.seq (.ops f17r18) (.cond (.tmp 124) (.seq (.ops f17r19) .ret) (.ops f17r20)))) (blockQ 1 (thenQ (swp Tryz.prog (.seq (.ops f17r21) .ret) (retQ [.t 4] (Ret (OneP h0 kb sb mb e.key m (endF res there (decide (65536 ≤ m.length))))))) (retQ [.t 4] (Ret (OneP h0 kb sb mb e.key m (endF res there (decide (65536 ≤ m.length)))))))) (mk [(0, ptr kb), (3, ptr b3), (7, ptr b7), (8, .bool there), (106, .bool false)]) [] h8 := by
    intro hem h8 c8
    have kr8 := kr6.ext c8
    have B38 := B36.chg c8 (by simp)
    have W8 := W6.chg c8 (by simp)
    have x8 := x6.ext c8
    refine Exists.intro ws (And.intro x8.len (And.intro (cells_blk W8) ?_))
    refine call_ret (count_calls x8 hlens) ?_
    rintro _ h9 ⟨rfl, c9⟩
    have kr9 := kr8.ext c9
    have B39 := B38.chg c9 (by simp)
    have W9 := W8.chg c9 (by simp)
    have x9 := x8.ext c9
    have c09 := (c06.nil c8).nil c9
    have last : ¬ (65536 < countT res.1 ∨ (there = false ∧ decide (65536 ≤ m.length) = true)) →
        swp Tryz.prog (.cond (.tmp 124) (.seq (.ops f17r19) .ret) (.ops f17r20)) (blockQ 1 (thenQ (swp Tryz.prog (.seq (.ops f17r21) .ret) (retQ [.t 4] (Ret (OneP h0 kb sb mb e.key m (endF res there (decide (65536 ≤ m.length))))))) (retQ [.t 4] (Ret (OneP h0 kb sb mb e.key m (endF res there (decide (65536 ≤ m.length)))))))) (mk [(0, ptr kb), (3, ptr b3), (7, ptr b7), (8, .bool there), (124, .bool false)]) [] h9 := by
      intro hbig
      have ef : endF res there (decide (65536 ≤ m.length)) = .put res.1 := by unfold endF; rw [if_neg hne, if_neg hem, if_neg hbig]
      rw [ef]
      refine Exists.intro _ (And.intro (cell_blk kr9.ks.k rfl) (Exists.intro _ (And.intro (cell_blk kr9.ks.s rfl) ?_)))
      refine Exists.intro _ (And.intro (cell_blk B39 rfl) ?_)
      refine And.intro rfl (Exists.intro (m.map KI.ent) (Exists.intro c (And.intro kr9.map (And.intro (ents_fit m) ?_))))
      rcases mfind_ents e.key m 0 with ⟨hmf, hno⟩ | ⟨j, i, hmf, hj, hik⟩
      · rw [hmf]
        intro h10 p10
        have hth : there = false := by
          cases hb : there with
          | false => rfl
          | true =>
            rw [hb, if_pos rfl] at ht
            obtain ⟨i, hi, hk⟩ := ht
            exact absurd hk (hno i hi)
        have hml : m.length < 65536 := by
          rcases Nat.lt_or_ge m.length 65536 with h | h
          · exact h
          · exact absurd (.inr ⟨hth, decide_eq_true h⟩) hbig
        exact And.intro rfl (Exists.intro _ (Exists.intro _ (And.intro (kr9.put p10 hno hkey W9 x9 hlens hml) (And.intro (fate_new hno) ((c09.mono (by simp)).step p10.chg (by simp))))))
      · rw [hmf, Nat.zero_add]
        intro h10 p10
        refine And.intro rfl (Exists.intro _ (Exists.intro _ (And.intro (kr9.turn hj p10 W9 x9 hlens) (And.intro ?_ ((c09.mono (by simp)).step p10.chg (by simp))))))
        rw [← hik]
        exact fate_set kr9.nodup hj
    refine And.intro rfl (And.intro (fun hb => ?_) (fun hb => ?_))
    · have hb : 65536 < countT res.1 := by omega
      have ef : endF res there (decide (65536 ≤ m.length)) = .no 3 := by unfold endF; rw [if_neg hne, if_neg hem, if_pos (.inl hb)]
      rw [ef]
      exact one_no kr c09
    have hb : ¬ 65536 < countT res.1 := by omega
    cases there with
    | true =>
      refine cut_in [(0, ptr kb), (3, ptr b3), (7, ptr b7), (8, .bool true), (124, .bool false)] (mono_blockQ (mono_thenQ (fun σ σ' ds h hs hh => swp_sub _ _ σ σ' ds h mono_retQ hs hh) mono_retQ)) ⟨rfl, rfl, rfl, rfl, rfl, trivial⟩ (last ?_)
      rintro (h | ⟨h, _⟩)
      · exact hb h
      · cases h
    | false =>
      refine Exists.intro _ (And.intro (cell_blk kr9.ks.k rfl) (Exists.intro _ (And.intro (cell_blk kr9.ks.s rfl) ?_)))
      refine Exists.intro (m.map KI.ent) (Exists.intro c (And.intro kr9.map ?_))
      rw [List.length_map]
      refine And.intro rfl (And.intro (fun hful => ?_) (fun hful => ?_))
      · have ef : endF res false (decide (65536 ≤ m.length)) = .no 3 := by unfold endF; rw [if_neg hne, if_neg hem, if_pos (.inr ⟨rfl, decide_eq_true (by omega)⟩)]
        rw [ef]
        exact one_no kr c09
      · refine cut_in [(0, ptr kb), (3, ptr b3), (7, ptr b7), (8, .bool false), (124, .bool false)] (mono_blockQ (mono_thenQ (fun σ σ' ds h hs hh => swp_sub _ _ σ σ' ds h mono_retQ hs hh) mono_retQ)) ⟨rfl, rfl, rfl, rfl, rfl, trivial⟩ (last ?_)
        rintro (h | ⟨_, h⟩)
        · exact hb h
        · have := of_decide_eq_true h; omega
  refine Exists.intro _ (And.intro K6 ?_)
  refine And.intro rfl (And.intro (fun hk1 => ?_) (fun hk1 => ?_))
  · refine Exists.intro ws (And.intro x6.len (And.intro (cells_blk W6) ?_))
    refine call_ret (count_calls x6 hlens) ?_
    rintro _ h8 ⟨rfl, c8⟩
    refine And.intro rfl (And.intro (fun hc0 => ?_) (fun hc0 => ?_))
    · exact cut_in [(0, ptr kb), (3, ptr b3), (7, ptr b7), (8, .bool there), (106, .bool true)] (mono_blockQ (mono_thenQ (fun σ σ' ds h hs hh => swp_sub _ _ σ σ' ds h mono_retQ hs hh) mono_retQ)) ⟨rfl, rfl, rfl, rfl, rfl, trivial⟩ (drop_ ⟨hk1, by omega⟩ h8 c8)
    · exact cut_in [(0, ptr kb), (3, ptr b3), (7, ptr b7), (8, .bool there), (106, .bool false)] (mono_blockQ (mono_thenQ (fun σ σ' ds h hs hh => swp_sub _ _ σ σ' ds h mono_retQ hs hh) mono_retQ)) ⟨rfl, rfl, rfl, rfl, rfl, trivial⟩ (rest_ (fun h => hc0 (by omega)) h8 c8)
  · exact cut_in [(0, ptr kb), (3, ptr b3), (7, ptr b7), (8, .bool there), (106, .bool false)] (mono_blockQ (mono_thenQ (fun σ σ' ds h hs hh => swp_sub _ _ σ σ' ds h mono_retQ hs hh) mono_retQ)) ⟨rfl, rfl, rfl, rfl, rfl, trivial⟩ (rest_ (fun h => h.1 (Decidable.not_not.1 hk1)) h6 (Chg.refl h6))

end Go.Proofs.YtigolfakcblnjaaGreat
namespace Go.Proofs.YtigolfakcblnjaaGreat
open Go Go.Sx Go.Proofs.YtigolfakcblnjaaGreat.C

theorem key_uniq {m : List KI} (hn : (m.map KI.key).Nodup) {i j : KI} (hi : i ∈ m) (hj : j ∈ m) (he : i.key = j.key) : i = j := by
  induction m with
  | nil => simp at hi
  | cons x m ih =>
    rw [List.map_cons, List.nodup_cons] at hn
    rcases List.mem_cons.1 hi with e1 | g1
    · rcases List.mem_cons.1 hj with e2 | g2
      · rw [e1, e2]
      · exact absurd (by rw [← e1, he]; exact List.mem_map_of_mem g2) hn.1
    · rcases List.mem_cons.1 hj with e2 | g2
      · exact absurd (by rw [← e2, ← he]; exact List.mem_map_of_mem g1) hn.1
      · exact ih hn.2 g1 g2

/-- Look, whatever stands there. -/
theorem LookK_calls {h : Heap} {kb sb mb c : Nat} {m : List KI} (key : ByteArray) (x : KR h kb sb mb c m) :
    CallsH Tryz.prog 21 [ptr kb, .string key] h (Ret fun r h' => ((∃ i ∈ m, i.key = key ∧ ∃ pv lv rv, r = .tuple #[.agg ⟨cellsT i.thing pv lv rv⟩, .bool true] ∧ TO h' pv lv rv i.thing ∧ ∀ b ∈ bl3 pv lv rv, h.size ≤ b) ∨
      ((∀ i ∈ m, i.key ≠ key) ∧ r = .tuple #[.agg ⟨zeroV⟩, .bool false])) ∧ Chg [] h h') := by
  rcases mfind_ents key m 0 with ⟨hmf, hno⟩ | ⟨j, i, hmf, hj, hik⟩
  · refine (Look_none x.ks x.map (ents_fit m) hmf).mono fun e h' he => ?_
    cases e with
    | returned v => exact ⟨.inr ⟨hno, he.1⟩, he.2⟩
    | panicked ch => exact he.elim
    | outgrown => exact he.elim
  have hi : i ∈ m := List.mem_of_getElem? hj
  obtain ⟨Bi, ti, ni⟩ := x.here i hi
  refine f21_calls (by simp) ?_
  intro b4 h1 g1
  have hc := g1.chg
  have x1 := x.ext hc
  refine call_ret (none_calls x1.ks) ?_
  rintro _ h9 ⟨rfl, e9⟩
  have e9 := e9.symm
  subst e9
  refine Exists.intro _ (And.intro (cell_blk x1.ks.k rfl) (Exists.intro _ (And.intro (cell_blk x1.ks.s rfl) ?_)))
  refine And.intro rfl (Exists.intro (m.map KI.ent) (Exists.intro c (And.intro x1.map (And.intro (ents_fit m) ?_))))
  rw [hmf]
  refine Exists.intro _ (And.intro (cell_blk x1.ks.k rfl) (Exists.intro _ (And.intro (cell_blk x1.ks.s rfl) ?_)))
  refine And.intro rfl (Exists.intro (m.map KI.ent) (Exists.intro c (And.intro x1.map (And.intro (ents_fit m) ?_))))
  rw [hmf]
  have B1 := Bi.chg hc (by simp)
  have t1 := ti.ext hc
  refine Exists.intro i.vs (And.intro t1.len (And.intro (cells_blk B1) ?_))
  refine call_ret (copied_own t1 ni) ?_
  rintro _ h2 ⟨⟨pv, lv, rv, rfl, o2, fr⟩, hc2⟩
  have Bz : Blk h2 b4 zeroV := (show Blk h1 b4 zeroV from g1.blk).chg hc2 (by simp)
  refine Exists.intro _ (And.intro Bz (And.intro (by decide) (And.intro rfl (And.intro (thing_one o2.th) ?_))))
  intro h3 p3
  have i4 := g1.id
  have z4 := g1.size
  have B3 : Blk h3 b4 (cellsT i.thing pv lv rv) := p3.blk
  refine Exists.intro _ (And.intro rfl (And.intro (cells_blk B3) ?_))
  refine And.intro (.inl ⟨i, hi, hik, pv, lv, rv, rfl, o2.chg p3.chg (fun b hb => by have := fr b hb; simp; omega), fun b hb => by have := fr b hb; omega⟩) ((hc.nil hc2).fresh p3.chg (by simp; omega))

theorem TO.nil {h : Heap} {t : Thing} (h1 : t.pairs = []) (h2 : t.list = []) (h3 : t.ranks = []) : TO h (.slice none 0 0) (.slice none 0 0) (.slice none 0 0) t :=
  ⟨by rw [h1]; exact OL.nil, by rw [h2]; exact OL.nil, by rw [h3]; exact OL.nil, by simp [vblk, ablk], by simp [vblk, ablk], by simp [vblk, ablk]⟩

/-- What stood there. -/
def OldM (m : List KI) (key : ByteArray) : Option Thing → Prop
  | some t => ∃ i ∈ m, i.key = key ∧ i.thing = t
  | none => ∀ i ∈ m, i.key ≠ key

/-- What is made of it, the rule known. -/
def choose_ (r : Rule) (old : Option Thing) (e : Eff) (full : Bool) : Fate :=
  match old with
  | none => if r.makes = false then .no 5 else endF (doneT { zeroT with kind := r.kind } e) false full
  | some t => if r.kind ≠ 0 ∧ t.kind ≠ r.kind then .no 170 else endF (doneT t e) true full

theorem oneG_look {h0 h : Heap} {kb sb mb c b3 b5 : Nat} {m : List KI} {e : Eff} {r : Rule} {old : Option Thing} (kr : KR h0 kb sb mb c m) (c0 : Chg [] h0 h) (B3 : Blk h b3 (encD e)) (B5 : Blk h b5 (ruleC r))
    (hr : ruleR e.op = some r) (hin : ∀ i ∈ m, TIn i.thing) (hold : OldM m e.key old) (hkey : e.key.size ≤ 1048576) :
    swp Tryz.prog (.seq (.ops f17r6) (.seq (.block 0 (.seq (.ops f17r7) (.cond (.tmp 65) (.seq (.ops f17r8) .ret) (.seq (.ops f17r9) (.cond (.tmp 73) (.ops f17r10) (.seq (.ops f17r11) (.cond (.tmp 79) (.seq (.ops f17r12) .ret) .skip))))))) (.seq (.seq (.ops f17r13) (.seq (.ops f17r14) (.cond (.tmp 95) (.seq (.ops f17r15) .ret) .skip))) (.seq (.block 1 (.seq (.ops f17r16) (.cond (.tmp 106) (.ops f17r17) (.seq (.ops f17r18) (.cond (.tmp 124) (.seq (.ops f17r19) .ret) (.ops f17r20)))))) (.seq (.ops f17r21) .ret)))))
      (retQ [.t 4] (Ret (OneP h0 kb sb mb e.key m (choose_ r old e (decide (65536 ≤ m.length)))))) (mk [(0, ptr kb), (3, ptr b3), (5, ptr b5)]) [] h := by
  have kr1 := kr.ext c0
  have l3 := B3.lt
  have l5 := B5.lt
  have hs0 := c0.size
  refine Exists.intro _ (And.intro (cell_blk B3 rfl) ?_)
  refine call_ret (LookK_calls e.key kr1) ?_
  rintro _ h2 ⟨hlook, c2⟩
  have s2 := c2.size
  rcases hlook with ⟨i, hi, hik, pv, lv, rv, rfl, o2, fr⟩ | ⟨hno, rfl⟩
  · -- there
    cases hold' : old with
    | none => rw [hold'] at hold; exact absurd hik (hold i hi)
    | some t =>
    rw [hold'] at hold
    obtain ⟨i', hi', hik', hit'⟩ := hold
    have : i' = i := key_uniq kr.nodup hi' hi (hik'.trans hik.symm)
    subst this
    rw [hit'] at o2 ⊢
    have tin := hin i' hi'
    rw [hit'] at tin
    intro b7 h3 g3
    refine Exists.intro _ (And.intro g3.blk (And.intro (by decide) (And.intro rfl (And.intro (thing_one o2.th) ?_))))
    intro h4 p4
    have g4 := g3.put p4
    have B7 : Blk h4 b7 (cellsT t pv lv rv) := p4.blk
    have c4 := g4.chg
    have i7 := g4.id
    have B34 := (B3.chg c2 (by simp)).chg c4 (by simp)
    have B54 := (B5.chg c2 (by simp)).chg c4 (by simp)
    have o4 := o2.chg c4 (by simp)
    have c04 := (c0.nil c2).nil c4
    have lo2 := o2
    have n7 : b7 ∉ bl3 pv lv rv := fun hb => by
      simp only [bl3, List.mem_append] at hb
      rcases hb with hb | hb | hb
      · have := o2.p.lt b7 hb; omega
      · have := o2.l.lt b7 hb; omega
      · have := o2.r.lt b7 hb; omega
    have go : (r.kind ≠ 0 → t.kind = r.kind) →
        swp Tryz.prog (.seq (.seq (.ops f17r13) (.seq (.ops f17r14) (.cond (.tmp 95) (.seq (.ops f17r15) .ret) .skip))) (.seq (.block 1 (.seq (.ops f17r16) (.cond (.tmp 106) (.ops f17r17) (.seq (.ops f17r18) (.cond (.tmp 124) (.seq (.ops f17r19) .ret) (.ops f17r20)))))) (.seq (.ops f17r21) .ret)))
          (retQ [.t 4] (Ret (OneP h0 kb sb mb e.key m (choose_ r (some t) e (decide (65536 ≤ m.length)))))) (mk [(0, ptr kb), (3, ptr b3), (5, ptr b5), (7, ptr b7), (8, .bool true)]) [] h4 := by
      intro hk
      have ef : choose_ r (some t) e (decide (65536 ≤ m.length)) = endF (doneT t e) true (decide (65536 ≤ m.length)) := by
        show (if r.kind ≠ 0 ∧ t.kind ≠ r.kind then Fate.no 170 else endF (doneT t e) true (decide (65536 ≤ m.length))) = _
        rw [if_neg fun h => h.2 (hk h.1)]
      rw [ef]
      have ok : OfKind t e := fun r' h1 h2 => by
        rw [hr] at h1
        injection h1 with h1
        subst h1
        exact hk h2
      refine oneG_tail kr c04 B34 B54 B7 o4 n7 (by omega) (fun b hb => by have := fr b hb; omega) ?_ tin.good (rule_do hr tin.good ok fun h9 => tin.some ?_) hkey (by rw [if_pos rfl]; exact ⟨i', hi', hik'⟩)
      · rw [List.mem_cons, not_or]
        exact ⟨by omega, fun hb => by have := fr b3 hb; omega⟩
      · have hr' := hr
        rcases h9 with h9 | h9
        · rw [h9] at hr'
          exact ok r hr (by injection hr' with e'; rw [← e']; decide) |>.trans (by injection hr' with e'; rw [← e'])
        · rw [h9] at hr'
          exact ok r hr (by injection hr' with e'; rw [← e']; decide) |>.trans (by injection hr' with e'; rw [← e'])
    refine Exists.intro _ (And.intro (cell_blk B54 rfl) ?_)
    refine And.intro rfl (And.intro (fun hk0 => ?_) (fun hk0 => ?_))
    · refine Exists.intro _ (And.intro (cell_blk B7 rfl) (Exists.intro _ (And.intro (cell_blk B54 rfl) ?_)))
      refine And.intro rfl (And.intro (fun hne => ?_) (fun hne => ?_))
      · have ef : choose_ r (some t) e (decide (65536 ≤ m.length)) = .no 170 := if_pos ⟨hk0, hne⟩
        rw [ef]
        exact one_no kr c04
      · exact cut_at [(0, ptr kb), (3, ptr b3), (5, ptr b5), (7, ptr b7), (8, .bool true)] ⟨rfl, rfl, rfl, rfl, rfl, trivial⟩ (go fun _ => Decidable.not_not.1 hne)
    · exact cut_at [(0, ptr kb), (3, ptr b3), (5, ptr b5), (7, ptr b7), (8, .bool true)] ⟨rfl, rfl, rfl, rfl, rfl, trivial⟩ (go fun h => absurd h hk0)
  · -- not there
    cases hold' : old with
    | some t =>
      rw [hold'] at hold
      obtain ⟨i, hi, hik, _⟩ := hold
      exact absurd hik (hno i hi)
    | none =>
    intro b7 h3 g3
    refine Exists.intro _ (And.intro g3.blk (And.intro (by decide) (And.intro rfl (And.intro (thing_one (t := zeroT) (h := h3) zero_TH) ?_))))
    intro h4 p4
    have g4 := g3.put p4
    have B7 : Blk h4 b7 zeroV := p4.blk
    have c4 := g4.chg
    have i7 := g4.id
    have B34 := (B3.chg c2 (by simp)).chg c4 (by simp)
    have B54 := (B5.chg c2 (by simp)).chg c4 (by simp)
    have c04 := (c0.nil c2).nil c4
    refine Exists.intro _ (And.intro (cell_blk B54 rfl) ?_)
    cases hmk : r.makes with
    | false =>
      have ef : choose_ r none e (decide (65536 ≤ m.length)) = .no 5 := if_pos hmk
      rw [ef]
      exact one_no kr c04
    | true =>
      have ef : choose_ r none e (decide (65536 ≤ m.length)) = endF (doneT { zeroT with kind := r.kind } e) false (decide (65536 ≤ m.length)) := if_neg (by rw [hmk]; simp)
      rw [ef]
      refine Exists.intro _ (And.intro (cell_blk B54 rfl) ?_)
      refine Exists.intro _ (And.intro B7 (And.intro (by decide) (And.intro rfl (And.intro (ones1 rfl) ?_))))
      intro h5 p5
      have c5 := p5.chg
      have B75 : Blk h5 b7 (cellsT { zeroT with kind := r.kind } (.slice none 0 0) (.slice none 0 0) (.slice none 0 0)) := p5.blk
      have c05 : Chg [] h0 h5 := c04.fresh c5 (by simp; omega)
      refine cut_at [(0, ptr kb), (3, ptr b3), (5, ptr b5), (7, ptr b7), (8, .bool false)] ⟨rfl, rfl, rfl, rfl, rfl, trivial⟩ (oneG_tail kr c05 (B34.chg c5 (by simp; omega)) (B54.chg c5 (by simp; omega)) B75 (TO.nil rfl rfl rfl) (by simp [bl3, vblk, ablk]) (by omega) (by simp [bl3, vblk, ablk]) (by simp [bl3, vblk, ablk]; omega)
        (TGood.zero _) (rule_do hr (TGood.zero _) (fun r' h1 _ => by rw [hr] at h1; injection h1 with h1; rw [h1]) fun h9 => ?_) hkey (by rw [if_neg (by simp)]; exact hno))
      exfalso
      rcases h9 with h9 | h9
      · rw [h9] at hr
        injection hr with e'
        rw [← e'] at hmk
        cases hmk
      · rw [h9] at hr
        injection hr with e'
        rw [← e'] at hmk
        cases hmk

theorem oneG_rest {h0 h : Heap} {kb sb mb c b3 b5 : Nat} {m : List KI} {e : Eff} {r : Rule} {old : Option Thing} (kr : KR h0 kb sb mb c m) (c0 : Chg [] h0 h) (B3 : Blk h b3 (encD e)) (B5 : Blk h b5 (ruleC r))
    (hr : ruleR e.op = some r) (hin : ∀ i ∈ m, TIn i.thing) (hold : OldM m e.key old) :
    swp Tryz.prog (.seq (.seq (.ops f17r2) (.cond (.tmp 48) (.seq (.ops f17r3) .ret) .skip)) (.seq (.seq (.ops f17r4) (.cond (.tmp 57) (.seq (.ops f17r5) .ret) .skip)) (.seq (.ops f17r6) (.seq (.block 0 (.seq (.ops f17r7) (.cond (.tmp 65) (.seq (.ops f17r8) .ret) (.seq (.ops f17r9) (.cond (.tmp 73) (.ops f17r10) (.seq (.ops f17r11) (.cond (.tmp 79) (.seq (.ops f17r12) .ret) .skip))))))) (.seq (.seq (.ops f17r13) (.seq (.ops f17r14) (.cond (.tmp 95) (.seq (.ops f17r15) .ret) .skip))) (.seq (.block 1 (.seq (.ops f17r16) (.cond (.tmp 106) (.ops f17r17) (.seq (.ops f17r18) (.cond (.tmp 124) (.seq (.ops f17r19) .ret) (.ops f17r20)))))) (.seq (.ops f17r21) .ret)))))))
      (retQ [.t 4] (Ret (OneP h0 kb sb mb e.key m (oneF old e (decide (65536 ≤ m.length)))))) (mk [(0, ptr kb), (3, ptr b3), (5, ptr b5), (6, .bool true)]) [] h := by
  have ef : ∀ full, oneF old e full = if (r.name = false ∧ e.name ≠ noText) ∨ (r.text = false ∧ e.text ≠ noText) ∨ (r.number = false ∧ e.num ≠ 0) then .no 2 else
      if 1048576 < e.key.size ∨ 1048576 < e.name.size ∨ 1048576 < e.text.size then .no 3 else choose_ r old e full := by
    intro full
    unfold oneF
    rw [hr]
    cases old <;> rfl
  obtain ⟨F, hF⟩ : ∃ F, F = oneF old e (decide (65536 ≤ m.length)) := ⟨_, rfl⟩
  rw [← hF]
  have bad : ((r.name = false ∧ e.name ≠ noText) ∨ (r.text = false ∧ e.text ≠ noText) ∨ (r.number = false ∧ e.num ≠ 0)) → Ret (OneP h0 kb sb mb e.key m F) (.returned (retV [.int .i64 2])) h := by
    intro hb
    rw [hF, ef, if_pos hb]
    exact one_no kr c0
  have go : ¬ ((r.name = false ∧ e.name ≠ noText) ∨ (r.text = false ∧ e.text ≠ noText) ∨ (r.number = false ∧ e.num ≠ 0)) →
      swp Tryz.prog (.seq (.seq (.ops f17r4) (.cond (.tmp 57) (.seq (.ops f17r5) .ret) .skip)) (.seq (.ops f17r6) (.seq (.block 0 (.seq (.ops f17r7) (.cond (.tmp 65) (.seq (.ops f17r8) .ret) (.seq (.ops f17r9) (.cond (.tmp 73) (.ops f17r10) (.seq (.ops f17r11) (.cond (.tmp 79) (.seq (.ops f17r12) .ret) .skip))))))) (.seq (.seq (.ops f17r13) (.seq (.ops f17r14) (.cond (.tmp 95) (.seq (.ops f17r15) .ret) .skip))) (.seq (.block 1 (.seq (.ops f17r16) (.cond (.tmp 106) (.ops f17r17) (.seq (.ops f17r18) (.cond (.tmp 124) (.seq (.ops f17r19) .ret) (.ops f17r20)))))) (.seq (.ops f17r21) .ret))))))
        (retQ [.t 4] (Ret (OneP h0 kb sb mb e.key m F))) (mk [(0, ptr kb), (3, ptr b3), (5, ptr b5)]) [] h := by
    intro hgood
    rw [hF, ef, if_neg hgood]
    clear hF bad
    refine Exists.intro _ (And.intro (cell_blk B3 rfl) (Exists.intro _ (And.intro (cell_blk B3 rfl) (Exists.intro _ (And.intro (cell_blk B3 rfl) ?_)))))
    intro b6 h1 g1
    have s6 : SL encS h1 (.slice (some ⟨b6, 0, none⟩) 3 3) [e.key, e.name, e.text] := ⟨_, _, rfl, Nat.le_refl _, cells_blk g1.blk⟩
    refine call_ret (short_calls s6 (by simp)) ?_
    rintro r2 h9 ⟨hr2, e9⟩
    have e9 := e9.symm
    subst e9
    have c01 := c0.nil g1.chg
    by_cases hlong : 1048576 < e.key.size ∨ 1048576 < e.name.size ∨ 1048576 < e.text.size
    · rw [if_pos hlong]
      have hsh : shortL [e.key, e.name, e.text] = false := by
        cases hb : shortL [e.key, e.name, e.text] with
        | false => rfl
        | true =>
          rw [shortL_iff] at hb
          have h1 := hb e.key (by simp)
          have h2 := hb e.name (by simp)
          have h3 := hb e.text (by simp)
          omega
      rw [hsh] at hr2
      subst hr2
      exact one_no kr c01
    · rw [if_neg hlong]
      have hsh : shortL [e.key, e.name, e.text] = true := by
        rw [shortL_iff]
        intro s hs
        simp at hs
        rcases hs with rfl | rfl | rfl <;> omega
      rw [hsh] at hr2
      subst hr2
      refine swp_seq ?_
      exact cut_at [(0, ptr kb), (3, ptr b3), (5, ptr b5)] ⟨rfl, rfl, rfl, trivial⟩ (oneG_look kr c01 (B3.chg g1.chg (by simp)) (B5.chg g1.chg (by simp)) hr hin hold (by omega))
  refine Exists.intro _ (And.intro (cell_blk B5 rfl) ?_)
  cases q0 : r.name with
  | true =>
    refine Exists.intro _ (And.intro (cell_blk B5 rfl) ?_)
    cases q1 : r.text with
    | true =>
      refine Exists.intro _ (And.intro (cell_blk B5 rfl) ?_)
      cases q2 : r.number with
      | true =>
        exact cut_at [(0, ptr kb), (3, ptr b3), (5, ptr b5)] ⟨rfl, rfl, rfl, trivial⟩ (go (by simp [noText, q0, q1, q2]))
      | false =>
        refine Exists.intro _ (And.intro (cell_blk B3 rfl) ?_)
        refine And.intro rfl (And.intro (fun w2 => bad (.inr (.inr ⟨q2, w2⟩))) (fun w2 => ?_))
        have w2 := Decidable.not_not.1 w2
        exact cut_at [(0, ptr kb), (3, ptr b3), (5, ptr b5)] ⟨rfl, rfl, rfl, trivial⟩ (go (by simp [noText, q0, q1, q2, w2]))
    | false =>
      refine Exists.intro _ (And.intro (cell_blk B3 rfl) ?_)
      refine And.intro (fun w1 => bad (.inr (.inl ⟨q1, w1⟩))) (fun w1 => ?_)
      have w1 := Decidable.not_not.1 w1
      refine Exists.intro _ (And.intro (cell_blk B5 rfl) ?_)
      cases q2 : r.number with
      | true =>
        exact cut_at [(0, ptr kb), (3, ptr b3), (5, ptr b5)] ⟨rfl, rfl, rfl, trivial⟩ (go (by simp [noText, q0, q1, w1, q2]))
      | false =>
        refine Exists.intro _ (And.intro (cell_blk B3 rfl) ?_)
        refine And.intro rfl (And.intro (fun w2 => bad (.inr (.inr ⟨q2, w2⟩))) (fun w2 => ?_))
        have w2 := Decidable.not_not.1 w2
        exact cut_at [(0, ptr kb), (3, ptr b3), (5, ptr b5)] ⟨rfl, rfl, rfl, trivial⟩ (go (by simp [noText, q0, q1, w1, q2, w2]))
  | false =>
    refine Exists.intro _ (And.intro (cell_blk B3 rfl) ?_)
    refine And.intro (fun w0 => bad (.inl ⟨q0, w0⟩)) (fun w0 => ?_)
    have w0 := Decidable.not_not.1 w0
    refine Exists.intro _ (And.intro (cell_blk B5 rfl) ?_)
    cases q1 : r.text with
    | true =>
      refine Exists.intro _ (And.intro (cell_blk B5 rfl) ?_)
      cases q2 : r.number with
      | true =>
        exact cut_at [(0, ptr kb), (3, ptr b3), (5, ptr b5)] ⟨rfl, rfl, rfl, trivial⟩ (go (by simp [noText, q0, w0, q1, q2]))
      | false =>
        refine Exists.intro _ (And.intro (cell_blk B3 rfl) ?_)
        refine And.intro rfl (And.intro (fun w2 => bad (.inr (.inr ⟨q2, w2⟩))) (fun w2 => ?_))
        have w2 := Decidable.not_not.1 w2
        exact cut_at [(0, ptr kb), (3, ptr b3), (5, ptr b5)] ⟨rfl, rfl, rfl, trivial⟩ (go (by simp [noText, q0, w0, q1, q2, w2]))
    | false =>
      refine Exists.intro _ (And.intro (cell_blk B3 rfl) ?_)
      refine And.intro (fun w1 => bad (.inr (.inl ⟨q1, w1⟩))) (fun w1 => ?_)
      have w1 := Decidable.not_not.1 w1
      refine Exists.intro _ (And.intro (cell_blk B5 rfl) ?_)
      cases q2 : r.number with
      | true =>
        exact cut_at [(0, ptr kb), (3, ptr b3), (5, ptr b5)] ⟨rfl, rfl, rfl, trivial⟩ (go (by simp [noText, q0, w0, q1, w1, q2]))
      | false =>
        refine Exists.intro _ (And.intro (cell_blk B3 rfl) ?_)
        refine And.intro rfl (And.intro (fun w2 => bad (.inr (.inr ⟨q2, w2⟩))) (fun w2 => ?_))
        have w2 := Decidable.not_not.1 w2
        exact cut_at [(0, ptr kb), (3, ptr b3), (5, ptr b5)] ⟨rfl, rfl, rfl, trivial⟩ (go (by simp [noText, q0, w0, q1, w1, q2, w2]))

theorem rule_ones (r : Rule) : ∀ u ∈ (Rule.val r).cells.toList, u.oneCell' = true := by
  intro u hu
  simp only [Rule.val, ruleV, Value.cells, List.mem_cons, List.not_mem_nil, or_false] at hu
  rcases hu with rfl | rfl | rfl | rfl | rfl | rfl <;> rfl

theorem oneG_bad {h0 h : Heap} {kb sb mb c b3 b5 : Nat} {m : List KI} {e : Eff} {old : Option Thing} (kr : KR h0 kb sb mb c m) (c0 : Chg [] h0 h) (hr : ruleR e.op = none) :
    swp Tryz.prog (.seq (.seq (.ops f17r2) (.cond (.tmp 48) (.seq (.ops f17r3) .ret) .skip)) (.seq (.seq (.ops f17r4) (.cond (.tmp 57) (.seq (.ops f17r5) .ret) .skip)) (.seq (.ops f17r6) (.seq (.block 0 (.seq (.ops f17r7) (.cond (.tmp 65) (.seq (.ops f17r8) .ret) (.seq (.ops f17r9) (.cond (.tmp 73) (.ops f17r10) (.seq (.ops f17r11) (.cond (.tmp 79) (.seq (.ops f17r12) .ret) .skip))))))) (.seq (.seq (.ops f17r13) (.seq (.ops f17r14) (.cond (.tmp 95) (.seq (.ops f17r15) .ret) .skip))) (.seq (.block 1 (.seq (.ops f17r16) (.cond (.tmp 106) (.ops f17r17) (.seq (.ops f17r18) (.cond (.tmp 124) (.seq (.ops f17r19) .ret) (.ops f17r20)))))) (.seq (.ops f17r21) .ret)))))))
      (retQ [.t 4] (Ret (OneP h0 kb sb mb e.key m (oneF old e (decide (65536 ≤ m.length)))))) (mk [(0, ptr kb), (3, ptr b3), (5, ptr b5), (6, .bool false)]) [] h := by
  have ef : oneF old e (decide (65536 ≤ m.length)) = .no 2 := by unfold oneF; rw [hr]
  rw [ef]
  exact one_no kr c0

theorem oneG_calls {h : Heap} {kb sb mb c : Nat} {m : List KI} {e : Eff} {old : Option Thing} (kr : KR h kb sb mb c m) (hin : ∀ i ∈ m, TIn i.thing) (hold : OldM m e.key old) :
    CallsH Tryz.prog 17 [ptr kb, .agg ⟨encD e⟩] h (Ret (OneP h kb sb mb e.key m (oneF old e (decide (65536 ≤ m.length))))) := by
  refine f17_calls (by simp) ?_
  intro b3 h1 g1
  have B3 : Blk h1 b3 (encD e) := g1.blk
  refine Exists.intro _ (And.intro (cell_blk B3 rfl) ?_)
  refine And.intro ?_ ?_
  · refine callq_ret rules_calls ?_
    rintro _ h2 ⟨rb, rfl, mr, hrb, hc2⟩
    refine And.intro hc2.ext ?_
    refine And.intro rfl (Exists.intro (entsI ruleL 0) (Exists.intro 15 (And.intro mr (And.intro (entsI_fits _ _) ?_))))
    rcases rule_find e.op with ⟨hr, hmf⟩ | ⟨r, j, hr, hmf⟩
    · rw [hmf]
      intro b5 h3 g3
      refine Exists.intro _ (And.intro g3.blk (And.intro (by decide) (And.intro rfl (And.intro (by decide) ?_))))
      intro h4 p4
      have g4 := g3.put p4
      exact cut_at [(0, ptr kb), (3, ptr b3), (5, ptr b5), (6, .bool false)] ⟨rfl, rfl, rfl, rfl, trivial⟩ (oneG_bad kr ((g1.chg.nil hc2).nil g4.chg) hr)
    · rw [hmf]
      intro b5 h3 g3
      refine Exists.intro _ (And.intro g3.blk (And.intro (by decide) (And.intro rfl (And.intro (rule_ones r) ?_))))
      intro h4 p4
      have g4 := g3.put p4
      have hc14 := hc2.nil g4.chg
      exact cut_at [(0, ptr kb), (3, ptr b3), (5, ptr b5), (6, .bool true)] ⟨rfl, rfl, rfl, rfl, trivial⟩ (oneG_rest kr (g1.chg.nil hc14) (B3.chg hc14 (by simp)) (show Blk h4 b5 (ruleC r) from p4.blk) hr hin hold)
  · intro b5 h2 g2
    refine callq_ret rules_calls ?_
    rintro _ h3 ⟨rb, rfl, mr, hrb, hc3⟩
    refine And.intro hc3.ext ?_
    refine And.intro rfl (Exists.intro (entsI ruleL 0) (Exists.intro 15 (And.intro mr (And.intro (entsI_fits _ _) ?_))))
    have B5 : Blk h3 b5 [.bool false, .bool false, .bool false, .int .i64 0, .bool false, .nilFunc] := (show Blk h2 b5 _ from g2.blk).chg hc3 (by simp)
    have i5 := g2.id
    have l3 := B3.lt
    have z1 := g1.size
    have hc13 := g2.chg.nil hc3
    rcases rule_find e.op with ⟨hr, hmf⟩ | ⟨r, j, hr, hmf⟩
    · rw [hmf]
      refine Exists.intro _ (And.intro B5 (And.intro (by decide) (And.intro rfl (And.intro (by decide) ?_))))
      intro h4 p4
      have hc14 : Chg [] h h4 := (g1.chg.nil hc13).fresh p4.chg (by simp; omega)
      exact cut_at [(0, ptr kb), (3, ptr b3), (5, ptr b5), (6, .bool false)] ⟨rfl, rfl, rfl, rfl, trivial⟩ (oneG_bad kr hc14 hr)
    · rw [hmf]
      refine Exists.intro _ (And.intro B5 (And.intro (by decide) (And.intro rfl (And.intro (rule_ones r) ?_))))
      intro h4 p4
      have hc14 : Chg [] h h4 := (g1.chg.nil hc13).fresh p4.chg (by simp; omega)
      exact cut_at [(0, ptr kb), (3, ptr b3), (5, ptr b5), (6, .bool true)] ⟨rfl, rfl, rfl, rfl, trivial⟩ (oneG_rest kr hc14 ((B3.chg hc13 (by simp)).chg p4.chg (by simp; omega)) (show Blk h4 b5 (ruleC r) from p4.blk) hr hin hold)

end Go.Proofs.YtigolfakcblnjaaGreat
namespace Go.Proofs.YtigolfakcblnjaaGreat
open Go Go.Sx Go.Proofs.YtigolfakcblnjaaGreat.C

theorem ki_nodup {m : List KI} (hn : (m.map KI.key).Nodup) : (m.map KI.pr).Nodup := by
  have : m.map KI.key = (m.map KI.pr).map Prod.fst := by rw [List.map_map]; rfl
  rw [this] at hn
  exact List.Pairwise.imp (fun h e => h (by rw [e])) (List.pairwise_map.1 hn)

theorem up_nodup {S : Space} (hu : UpS S) : S.Nodup := hu.imp fun h e => by rw [e, sless_irrefl] at h; cases h

theorem sorted_len {m : List KI} {S : Space} (hn : (m.map KI.key).Nodup) (hs : Sorted m S) : S.length = m.length := by
  have := ((List.perm_ext_iff_of_nodup (up_nodup hs.up) (ki_nodup hn)).2 hs.mem).length_eq
  simpa using this

theorem old_find {m : List KI} {S : Space} (hs : Sorted m S) (key : ByteArray) : OldM m key (findS S key) := by
  cases hf : findS S key with
  | some t =>
    obtain ⟨i, hi, h1, h2⟩ := mem_pr.1 ((hs.mem _).1 (findS_mem hf))
    exact ⟨i, hi, h1, h2⟩
  | none =>
    intro i hi hk
    have : (key, i.thing) ∈ S := (hs.mem _).2 (mem_pr.2 ⟨i, hi, hk, rfl⟩)
    rw [findS_some hs.up this] at hf
    cases hf

theorem in_things {m : List KI} {S : Space} (hs : Sorted m S) (hi : InS S) : ∀ i ∈ m, TIn i.thing := fun i h => hi i.pr ((hs.mem _).2 (List.mem_map_of_mem h))

theorem fate_sorted {m m' : List KI} {S : Space} {key : ByteArray} {f : Fate} (hs : Sorted m S) (hf : FateM key m m' f) : Sorted m' (f.space S key) := by
  refine ⟨up_space f hs.up, fun p => ?_⟩
  cases f with
  | no n =>
    have hf : m'.map KI.pr = m.map KI.pr := hf
    rw [hf]; exact hs.mem p
  | drop => rw [hf p, ← hs.mem]; exact mem_dropS
  | put t => rw [hf p, ← hs.mem]; exact mem_putS

/-- one, of a keyspace as it is told. -/
theorem one_space {h : Heap} {kb sb mb c : Nat} {m : List KI} {S : Space} {e : Eff} (kr : KR h kb sb mb c m) (hs : Sorted m S) (hi : InS S) :
    CallsH Tryz.prog 17 [ptr kb, .agg ⟨encD e⟩] h (Ret fun r h' => r = .int .i64 (fateS S e).num ∧ ∃ c' m', KR h' kb sb mb c' m' ∧ Sorted m' ((fateS S e).space S e.key) ∧ Chg [mb] h h') := by
  refine (oneG_calls kr (in_things hs hi) (old_find hs e.key)).mono fun en h' he => ?_
  cases en with
  | returned v =>
    obtain ⟨h1, c', m', h2, h3, h4⟩ := he
    have e1 : m.length = S.length := (sorted_len kr.nodup hs).symm
    rw [e1] at h1 h3
    exact ⟨h1, c', m', h2, fate_sorted hs h3, h4⟩
  | panicked ch => exact he.elim
  | outgrown => exact he.elim

theorem applyS_no {S : Space} {e : Eff} {d : List Eff} (h : (fateS S e).num ≠ 0) : applyS S (e :: d) = (S, 0, (fateS S e).num) := by
  rw [applyS, if_neg h]
theorem applyS_yes {S : Space} {e : Eff} {d : List Eff} (h : (fateS S e).num = 0) : applyS S (e :: d) = ((applyS ((fateS S e).space S e.key) d).1, (applyS ((fateS S e).space S e.key) d).2.1 + 1, (applyS ((fateS S e).space S e.key) d).2.2) := by
  rw [applyS, if_pos h]

theorem no_space {S : Space} {e : Eff} (h : (fateS S e).num ≠ 0) : (fateS S e).space S e.key = S := by
  cases hf : fateS S e with
  | no n => rfl
  | drop => rw [hf] at h; exact absurd rfl h
  | put t => rw [hf] at h; exact absurd rfl h

/-- Apply. -/
theorem ApplyG_calls {h : Heap} {kb sb mb c : Nat} {m : List KI} {S : Space} {v : Value} {d : List Eff} (kr : KR h kb sb mb c m) (hs : Sorted m S) (hi : InS S) (hv : ∀ h', Chg [mb] h h' → SL encD h' v d) (hd : d.length < 4611686018427387904) :
    CallsH Tryz.prog 8 [ptr kb, v] h (Ret fun r h' => r = .tuple #[.int .i64 (applyS S d).2.1, .int .i64 (applyS S d).2.2] ∧ ∃ c' m', KR h' kb sb mb c' m' ∧ Sorted m' (applyS S d).1 ∧ InS (applyS S d).1 ∧ Chg [mb] h h') := by
  have c0 : Chg [mb] h h := (Chg.refl h).mono (by simp)
  obtain ⟨a, cc, rfl, hlc⟩ := (hv h c0).form
  refine f8_calls (by simp) ?_
  refine call_ret (none_calls kr.ks) ?_
  rintro _ h9 ⟨rfl, e9⟩
  have e9 := e9.symm
  subst e9
  refine loop_intro (fun k : Nat => [(0, ptr kb), (6, .int .i64 k), (7, .int .i64 0), (12, .slice a d.length cc), (13, .int .i64 d.length), (14, .int .i64 k)])
    (fun k h' => k ≤ d.length ∧ Chg [mb] h h' ∧ ∃ c' m' S', KR h' kb sb mb c' m' ∧ Sorted m' S' ∧ InS S' ∧ applyS S d = ((applyS S' (d.drop k)).1, (applyS S' (d.drop k)).2.1 + k, (applyS S' (d.drop k)).2.2)) (fun k => d.length - k) 0
    ⟨rfl, rfl, rfl, rfl, rfl, rfl, trivial⟩ ⟨Nat.zero_le _, c0, c, m, S, kr, hs, hi, rfl⟩ ?_
  rintro k h1 ⟨hk, c1, c', m', S', kr1, hs1, hi1, hap⟩
  refine And.intro rfl (And.intro (fun hlt => ?_) (fun hlt => ?_))
  · have hlt : k < d.length := by omega
    have hv1 := hv h1 c1
    obtain ⟨b, o, rfl⟩ := hv1.addr (by omega)
    have hcs := hv1.cells encD_len (i := k) (x := d[k]) (by simp [hlt])
    rw [List.drop_eq_getElem_cons hlt] at hap
    refine And.intro (by omega) (And.intro (by omega) (Exists.intro (encD d[k]) (And.intro rfl (And.intro hcs ?_))))
    intro b9 h2 g2
    refine Exists.intro _ (And.intro g2.blk (And.intro (by decide) (And.intro rfl (And.intro (encD_one _) ?_))))
    intro h3 p3
    have g3 := g2.put p3
    have B9 : Blk h3 b9 (encD d[k]) := p3.blk
    refine Exists.intro (encD d[k]) (And.intro rfl (And.intro (cells_blk B9) ?_))
    refine call_ret (one_space (kr1.ext g3.chg) hs1 hi1) ?_
    rintro _ h4 ⟨rfl, c4, m4, kr4, hs4, ch4⟩
    have c14 : Chg [mb] h h4 := (c1.step g3.chg (by simp)).step ch4 (by simp)
    refine And.intro rfl (And.intro (fun hne => ?_) (fun hne => ?_))
    · rw [applyS_no hne] at hap
      rw [no_space hne] at hs4
      rw [hap]
      refine And.intro ?_ (Exists.intro c4 (Exists.intro m4 (And.intro kr4 (And.intro hs4 (And.intro hi1 c14)))))
      show Value.tuple _ = Value.tuple #[.int .i64 ((0 + k : Nat) : Int), _]
      rw [Nat.zero_add]
    · have hz := Decidable.not_not.1 hne
      rw [applyS_yes hz] at hap
      refine And.intro rfl (fun z hz' => ?_)
      have hz' := add_in hz' (by omega) (by omega)
      subst hz'
      refine And.intro rfl (fun y hy => ?_)
      have hy := add_in hy (by omega) (by omega)
      subst hy
      rw [hz]
      refine And.intro rfl (Exists.intro (k + 1) (And.intro ?_ (And.intro ?_ ?_)))
      · exact ⟨rfl, rfl, rfl, rfl, rfl, rfl, trivial⟩
      · exact ⟨by omega, c14, c4, m4, _, kr4, hs4, in_space hi1, by rw [hap]; simp only [Nat.add_assoc, Nat.add_comm 1 k]⟩
      · omega
  · have hkl : k = d.length := by omega
    subst hkl
    rw [List.drop_length, applyS] at hap
    rw [hap]
    refine And.intro ?_ (Exists.intro c' (Exists.intro m' (And.intro kr1 (And.intro hs1 (And.intro hi1 c1)))))
    show Value.tuple _ = Value.tuple #[.int .i64 ((0 + d.length : Nat) : Int), _]
    rw [Nat.zero_add]

end Go.Proofs.YtigolfakcblnjaaGreat
namespace Go.Proofs.YtigolfakcblnjaaGreat
open Go Go.Sx Go.Proofs.YtigolfakcblnjaaGreat.C

/-! ### Keyspaces where other blocks turn -/
theorem ch_other {h h' : Heap} {mb c : Nat} {es : List MapEntry} (hm : MapB h mb es c) (hc : Chg [mb] h h') : CH h h' := by
  refine ⟨fun b l hb => hb.chg hc (by simpa using ne_map hb hm), fun b o v hv => ?_⟩
  refine cell_chg hv hc ?_
  simp
  rintro rfl
  have hm : h[b]? = _ := hm
  unfold Sx.cell at hv
  rw [hm] at hv; cases hv

theorem ch_turn {h h' : Heap} {l : Nat} {r : Loop} {st : LoopState} {q : Option Go.Code} (hl : LoopB h l r st q) (hc : Chg [l] h h') : CH h h' := by
  have ha := hl.at_
  refine ⟨fun b k hb => hb.chg hc ?_, fun b o v hv => cell_chg hv hc ?_⟩
  · simp
    rintro rfl
    obtain ⟨e, he⟩ := hb
    rw [he] at ha; cases ha
  · simp
    rintro rfl
    unfold Sx.cell at hv
    rw [ha] at hv; cases hv

theorem KR.ch {h h' : Heap} {kb sb mb c : Nat} {m : List KI} (x : KR h kb sb mb c m) (hc : CH h h') (hm : h'[mb]? = h[mb]?) : KR h' kb sb mb c m := by
  refine ⟨x.ks.ch hc, ?_, fun i hi => ?_, x.nodup, x.born, x.borns, x.keys, x.len⟩
  · show h'[mb]? = _
    rw [hm]; exact x.map
  · obtain ⟨h1, h2, h3⟩ := x.here i hi
    exact ⟨hc.blk _ _ h1, h2.ch hc, h3⟩

theorem KR.other {h h' : Heap} {kb sb mb c m2 c2 : Nat} {m : List KI} {es : List MapEntry} (x : KR h kb sb mb c m) (hm : MapB h m2 es c2) (hc : Chg [m2] h h') (hne : mb ≠ m2) : KR h' kb sb mb c m :=
  x.ch (ch_other hm hc) (hc.old mb (get_lt x.map) (by simpa using hne))

theorem KR.turnL {h h' : Heap} {kb sb mb c l : Nat} {m : List KI} {r : Loop} {st : LoopState} {q : Option Go.Code} (x : KR h kb sb mb c m) (hl : LoopB h l r st q) (hc : Chg [l] h h') : KR h' kb sb mb c m := by
  refine x.ch (ch_turn hl hc) (hc.old mb (get_lt x.map) ?_)
  simp
  rintro rfl
  have h1 : h[mb]? = _ := x.map
  rw [hl.at_] at h1; cases h1

/-! ### Copy -/
theorem pr_take {m : List KI} {W : List (ByteArray × Thing)} {k : Nat} (h : m.map KI.pr = W.take k) (hu : W.Pairwise fun a b => sless a.1 b.1 = true) (hk : k < W.length) : ∀ i ∈ m, i.key ≠ W[k].1 := by
  intro i hi e
  have : i.pr ∈ W.take k := by rw [← h]; exact List.mem_map_of_mem hi
  obtain ⟨j, hj, hje⟩ := List.getElem_of_mem this
  rw [List.length_take] at hj
  rw [List.getElem_take] at hje
  have hlt := List.pairwise_iff_getElem.1 hu j k (by omega) hk (by omega)
  rw [hje] at hlt
  rw [show i.pr.1 = i.key from rfl, e, sless_irrefl] at hlt
  cases hlt

theorem Copy_calls {h : Heap} {kb sb mb c : Nat} {m : List KI} {W : List (ByteArray × Thing)} (kr : KR h kb sb mb c m) (hW : Sorted m W) :
    CallsH Tryz.prog 7 [ptr kb] h (Ret fun r h' => ∃ kb2 sb2 mb2 c2 m2, r = ptr kb2 ∧ KR h' kb2 sb2 mb2 c2 m2 ∧ Sorted m2 W ∧ h.size ≤ mb2 ∧ Chg [] h h') := by
  have hWl : W.length ≤ 65536 := by
    have := sorted_len kr.nodup hW
    have := kr.len
    omega
  refine f7_calls (by simp) ?_
  refine call_ret (none_calls kr.ks) ?_
  rintro _ h9 ⟨rfl, e9⟩
  have e9 := e9.symm
  subst e9
  refine call_ret New_calls ?_
  rintro _ h1 ⟨kb2, sb2, mb2, rfl, ks2, hm2, emb, esb, ekb, hc1⟩
  intro b3 h2 g2
  refine Exists.intro _ (And.intro g2.blk (And.intro (by decide) (And.intro rfl (And.intro (ones1 rfl) ?_))))
  intro h3 p3
  have g3 := g2.put p3
  have B3 : Blk h3 b3 [ptr kb2] := p3.blk
  have hc3 : Chg [] h h3 := hc1.nil g3.chg
  have kr3 : KR h3 kb2 sb2 mb2 0 [] := KR.ext ⟨ks2, hm2, by simp, by simp, by simp, by simp, by simp, by simp⟩ g3.chg
  refine call_ret (All_calls (h := h3)) ?_
  rintro _ h4 ⟨b1, rfl, g4⟩
  have hc4 : Chg [] h h4 := hc3.nil g4.chg
  have B14 : Blk h4 b1 [ptr kb] := g4.blk
  have B34 := B3.chg g4.chg (by simp)
  have kr4 := kr3.ext g4.chg
  have z1 := hc1.size
  have l3 := B34.lt
  have z0 := hc4.size
  have i4 := g4.id
  have z4 := g4.size
  have hm3 : mb2 < h3.size := get_lt kr3.map
  have hmb : mb2 < h4.size := get_lt kr4.map
  intro l2 D1 r h7 hD hl7 hsz hold hmark hloop hy
  have hc7 : Chg [] h4 h7 := ⟨by omega, fun k hk _ => hold k hk⟩
  have hc07 := hc4.nil hc7
  refine (iter_calls hW (fun p k h' => Round h l2 D1 b1 kb r p h' ∧ Blk h' b3 [ptr kb2] ∧ ∃ c2 m2, KR h' kb2 sb2 mb2 c2 m2 ∧ m2.map KI.pr = W.take k) (fun _ => False) (B14.chg hc7 (by simp)) (kr.ext hc07) (fun p h' hp1 hp2 hc => ?_) (fun p k h' j => ⟨j.1.b1, kr.ext j.1.chg⟩)
    (fun p k h' h'' j hc => ⟨j.1.ext hc, j.2.1.chg hc (by simp), let ⟨c2, m2, k2, e2⟩ := j.2.2; ⟨c2, m2, k2.ext hc, e2⟩⟩) (fun p k h' us hk j tu => ?_)).mono ?_
  · exact ⟨⟨loopB_chg hloop hc (by simp), get_chg hmark hc (by simp), (B14.chg hc7 (by simp)).chg hc (by simp), hc07.nil hc, by omega, hp2⟩, (B34.chg hc7 (by simp)).chg hc (by simp), 0, [], (kr4.ext hc7).ext hc, rfl⟩
  · obtain ⟨j, j3, c2, m2, k2, e2⟩ := j
    have hps := j.lt
    have hpn := j.pn
    have hcj := j.chg
    have hll : l2 < h'.size := get_lt j.loop.at_
    have hmm : mb2 < h'.size := get_lt k2.map
    have hml : m2.length = k := by
      have := congrArg List.length e2
      simp at this; omega
    have hWk : W[k] ∈ m.map KI.pr := (hW.mem _).1 (List.getElem_mem hk)
    obtain ⟨i, hi, hip⟩ := List.mem_map.1 hWk
    have hlens : Lens W[k].2 := by
      have := (kr.here i hi).2.2
      rw [← hip]; exact this
    have hkey : W[k].1.size ≤ 1048576 := by
      have := kr.keys i hi
      rw [← hip]; exact this
    refine hy h' _ _ j.loop rfl ?_
    intro b5 h8 g8
    refine Exists.intro _ (And.intro g8.blk (And.intro (by decide) (And.intro tu.len (And.intro (thing_one tu) ?_))))
    intro h9 p9
    have g9 := g8.put p9
    have B9 : Blk h9 b5 us := by
      have h9 : Blk h9 b5 (splice zeroV 0 us) := p9.blk
      rw [seven rfl tu.len] at h9
      exact h9
    have L9 : LoopB h9 l2 r .ready none := loopB_chg j.loop g9.chg (by simp)
    refine And.intro L9 (fun h10 t10 => ?_)
    have cl10 : Chg [l2] h9 h10 := t10.chg
    have ch10 := ch_turn L9 cl10
    have B10 := ch10.blk _ _ B9
    have B310 : Blk h10 b3 [ptr kb2] := ch10.blk _ _ (j3.chg g9.chg (by simp))
    have k210 := (k2.ext g9.chg).turnL L9 cl10
    refine Exists.intro _ (And.intro (cell_blk B310 rfl) (Exists.intro _ (And.intro (cell_blk k210.ks.k rfl) (Exists.intro _ (And.intro (cell_blk k210.ks.s rfl) ?_)))))
    have hno := pr_take e2 hW.up hk
    have hmf : mfind (.string W[k].1) (m2.map KI.ent) 0 = none := by
      rcases mfind_ents W[k].1 m2 0 with ⟨h1, _⟩ | ⟨q, i', _, hq, hqk⟩
      · exact h1
      · exact absurd hqk (hno i' (List.mem_of_getElem? hq))
    refine And.intro rfl (Exists.intro (m2.map KI.ent) (Exists.intro c2 (And.intro k210.map (And.intro (ents_fit m2) ?_))))
    rw [hmf]
    intro h11 p11
    have k211 := k210.put p11 hno hkey B10 ((tu.ext g9.chg).ch ch10) hlens (by omega)
    have L11 : LoopB h11 l2 r .busy none := loopB_chg t10.rec_ p11.chg (by simp; omega)
    have B311 : Blk h11 b3 [ptr kb2] := (ch_putO k210.map p11).blk _ _ B310
    refine And.intro L11 (fun h12 t12 => ?_)
    have c11 : Chg [l2, mb2] h' h11 := by
      have c9 : Chg [l2, mb2] h' h9 := g9.chg.mono (by simp)
      have c8 : Chg [l2, mb2] h' h10 := c9.trans cl10 (fun _ hx => hx) (fun x hx _ => by simp at hx; simp [hx])
      exact c8.trans p11.chg (fun x hx => hx) (fun x hx _ => by simp at hx; simp [hx])
    have c12 : Chg [l2, mb2] h' h12 := c11.trans t12.chg (fun _ hx => hx) (fun x hx _ => by simp at hx; simp [hx])
    refine .inl ⟨rfl, ⟨⟨t12.rec_, get_chg j.mark c12 (by simp; omega), (j.b1).chg c12 (by simp; omega), hcj.fresh c12 (by simp; omega), hps, by have := c12.size; omega⟩, (ch_turn L11 t12.chg).blk _ _ B311, _, _, k211.turnL L11 t12.chg, ?_⟩, ?_⟩
    · rw [List.map_append, e2, take_snoc W k hk]; rfl
    · exact c12.old p hpn (by simp; omega)
  · intro e h8 he
    cases e with
    | panicked ch => exact he.elim
    | outgrown => exact he.elim
    | returned u =>
      rcases he with ⟨p, j, j3, c2, m2, k2, e2⟩ | hF
      rotate_left
      · exact hF.elim
      rw [List.take_length] at e2
      have hcj := j.chg
      refine ⟨.ready, none, j.loop, by simp, fun h9 t9 => ?_⟩
      have ch9 := ch_turn j.loop t9.chg
      have hc9 : Chg [] h h9 := hcj.fresh t9.chg (by simp; omega)
      have k29 := k2.turnL j.loop t9.chg
      have B39 := ch9.blk _ _ j3
      have hD9 : h9[D1]? = some (.deferred (some [])) := get_chg j.mark t9.chg (by simp; omega)
      refine Exists.intro _ (And.intro (cell_blk B39 rfl) ?_)
      refine And.intro hD9 (fun h10 p10 => ?_)
      have hd : D1 < h9.size := get_lt hD9
      have chD : CH h9 h10 := by
        have pc : Chg [D1] h9 h10 := p10.chg
        refine ⟨fun b l hb => hb.chg pc ?_, fun b o v hv => cell_chg hv pc ?_⟩
        · simp
          rintro rfl
          obtain ⟨e, he⟩ := hb
          rw [he] at hD9; cases hD9
        · simp
          rintro rfl
          unfold Sx.cell at hv
          rw [hD9] at hv; cases hv
      have kE : KR h10 kb2 sb2 mb2 c2 m2 := k29.ch chD (p10.chg.old mb2 (get_lt k29.map) (by simp; omega))
      exact ⟨kb2, sb2, mb2, c2, m2, rfl, kE, ⟨hW.up, fun q => by rw [e2]⟩, by omega, hc9.fresh p10.chg (by simp; omega)⟩

end Go.Proofs.YtigolfakcblnjaaGreat
namespace Go.Proofs.YtigolfakcblnjaaGreat
open Go Go.Sx Go.Proofs.YtigolfakcblnjaaGreat.C

theorem Lens.of_fits {t : Thing} (x : Lens t) : Fits t := x.fits

theorem Same1_calls {h : Heap} {a b : Nat} {vs us : List Value} {t : Thing} (Ba : Blk h a vs) (Bb : Blk h b us) (ta : TH h vs t) (tb : TH h us t) (n : Lens t) :
    CallsH Tryz.prog 19 [ptr a, ptr b] h (Ret fun r h' => r = .bool true ∧ Chg [] h h') := by
  refine f19_calls (by simp) ?_
  refine Exists.intro vs (And.intro ta.len (And.intro (cells_blk Ba) ?_))
  refine Exists.intro us (And.intro tb.len (And.intro (cells_blk Bb) ?_))
  refine call_ret (KSame_calls ta tb n.fits n.fits) ?_
  rintro _ h1 ⟨rfl, c1⟩
  rw [decide_eq_true rfl]
  exact And.intro rfl c1

/-- Entries that are not yet gone over. -/
def rest (m : List KI) (seen : Array Nat) : List KI := m.filter fun i => !seen.contains i.born

theorem filter_le {α : Type} (p q : α → Bool) (hpq : ∀ x, q x = true → p x = true) : ∀ l : List α, (l.filter q).length ≤ (l.filter p).length
  | [] => Nat.le_refl _
  | y :: l => by
    have := filter_le p q hpq l
    by_cases hq : q y = true
    · rw [List.filter_cons_of_pos hq, List.filter_cons_of_pos (hpq y hq)]; simpa using this
    · rw [List.filter_cons_of_neg hq]
      by_cases hp : p y = true
      · rw [List.filter_cons_of_pos hp]; simp; omega
      · rw [List.filter_cons_of_neg hp]; exact this
theorem filter_lt {α : Type} (p q : α → Bool) (hpq : ∀ x, q x = true → p x = true) (i : α) (hp : p i = true) (hq : q i = false) : ∀ l : List α, i ∈ l → (l.filter q).length < (l.filter p).length
  | [], h => by simp at h
  | y :: l, h => by
    rcases List.mem_cons.1 h with rfl | h
    · rw [List.filter_cons_of_pos hp, List.filter_cons_of_neg (by simp [hq])]
      have := filter_le p q hpq l
      simp; omega
    · have := filter_lt p q hpq i hp hq l h
      by_cases hqy : q y = true
      · rw [List.filter_cons_of_pos hqy, List.filter_cons_of_pos (hpq y hqy)]; simpa using this
      · rw [List.filter_cons_of_neg hqy]
        by_cases hpy : p y = true
        · rw [List.filter_cons_of_pos hpy]; simp; omega
        · rw [List.filter_cons_of_neg hpy]; exact this

theorem rest_lt {m : List KI} {seen : Array Nat} {i : KI} (hi : i ∈ m) (hn : seen.contains i.born = false) : (rest m (seen.push i.born)).length < (rest m seen).length := by
  unfold rest
  refine filter_lt _ _ (fun x hx => ?_) i (by rw [hn]; rfl) ?_ m hi
  · simp only [Array.contains_push, Bool.not_eq_true', Bool.or_eq_false_iff] at hx ⊢
    exact hx.1
  · simp

theorem find_born : ∀ {m : List KI} {i : KI}, (m.map KI.born).Nodup → i ∈ m → (m.map KI.ent).find? (fun e => e.born == i.born) = some i.ent
  | [], i, _, h => by simp at h
  | y :: m, i, hn, h => by
    rw [List.map_cons, List.nodup_cons] at hn
    rcases List.mem_cons.1 h with rfl | h
    · simp [KI.ent]
    · have hne : (KI.ent y).born ≠ i.born := by
        intro e
        refine hn.1 ?_
        have e : y.born = i.born := e
        rw [e]; exact List.mem_map_of_mem h
      rw [List.map_cons, List.find?_cons_of_neg (by simpa using hne)]
      exact find_born hn.2 h

theorem EqF_calls {h : Heap} {kb sb mb c kb2 sb2 mb2 c2 : Nat} {m m2 : List KI} (k1 : KR h kb sb mb c m) (k2 : KR h kb2 sb2 mb2 c2 m2) (he : ∀ p, p ∈ m.map KI.pr → p ∈ m2.map KI.pr) (hl : m.length = m2.length) :
    CallsH Tryz.prog 18 [.map (some mb), .map (some mb2), .func (.func 19) #[] #[]] h (Ret fun r h' => r = .bool true ∧ Chg [] h h') := by
  refine f18_calls (by simp) ?_
  refine Exists.intro _ (Exists.intro _ (And.intro k1.map (Exists.intro _ (Exists.intro _ (And.intro k2.map ?_)))))
  refine And.intro rfl (And.intro (fun hne => ?_) (fun _ => ?_))
  · exact absurd hne (by simp [hl])
  refine Exists.intro _ (Exists.intro _ (And.intro k1.map ?_))
  intro r h1 g1
  have c1 : Chg [] h h1 := g1.chg
  have z1 := c1.size
  have ir := g1.id
  refine loop_intro (fun _ : Array Nat => [(0, .map (some mb)), (1, .map (some mb2)), (2, .func (.func 19) #[] #[]), (17, ptr r)])
    (fun seen h' => Chg [] h h' ∧ h'[r]? = some (.mapIter (some mb) c seen c)) (fun seen => (rest m seen).length) #[]
    ⟨rfl, rfl, rfl, rfl, trivial⟩ ⟨c1, g1.blk⟩ ?_
  rintro seen h2 ⟨cc2, hr2⟩
  have k12 := k1.ext cc2
  have k22 := k2.ext cc2
  refine .inr ⟨mb, c, seen, c, m.map KI.ent, c, hr2, k12.map, ?_, .inr (.inr (Nat.le_refl _)), fun _ => ?_, fun e hem hns h3 p3 => ?_⟩
  · intro e hem
    obtain ⟨i, hi, rfl⟩ := List.mem_map.1 hem
    exact k1.born i hi
  · exact And.intro rfl cc2
  obtain ⟨i, hi, rfl⟩ := List.mem_map.1 hem
  have hns : seen.contains i.born = false := hns
  have cc3 : Chg [] h h3 := cc2.fresh p3.chg (by simp; omega)
  have k13 := k1.ext cc3
  have k23 := k2.ext cc3
  have hr3 : h3[r]? = some (.mapIter (some mb) c (seen.push i.born) c) := p3.blk
  refine ⟨mb, c, seen.push i.born, c, m.map KI.ent, i.born, i.ent, hr3, k13.map, by simp, find_born k1.borns hi, ?_⟩
  obtain ⟨i2, hi2, hip⟩ := List.mem_map.1 (he i.pr (List.mem_map_of_mem hi))
  have hik : i2.key = i.key := congrArg Prod.fst hip
  have hit : i2.thing = i.thing := congrArg Prod.snd hip
  refine And.intro rfl (Exists.intro (m2.map KI.ent) (Exists.intro c2 (And.intro k23.map (And.intro (ents_fit m2) ?_))))
  rcases mfind_ents i.key m2 0 with ⟨_, hno⟩ | ⟨q, i', hmf, hq, hqk⟩
  · exact absurd hik (hno i2 hi2)
  have hi' : i' ∈ m2 := List.mem_of_getElem? hq
  have ei : i' = i2 := by
    have hnd := k2.nodup
    have : ∀ {m : List KI}, (m.map KI.key).Nodup → i2 ∈ m → i' ∈ m → i'.key = i2.key → i' = i2 := by
      intro m
      induction m with
      | nil => intro _ h; simp at h
      | cons x m ih =>
        intro hn h1 h2 he
        rw [List.map_cons, List.nodup_cons] at hn
        rcases List.mem_cons.1 h1 with e1 | g1
        · rcases List.mem_cons.1 h2 with e2 | g2
          · rw [e1, e2]
          · refine absurd ?_ hn.1
            rw [← e1, ← he]; exact List.mem_map_of_mem g2
        · rcases List.mem_cons.1 h2 with e2 | g2
          · refine absurd ?_ hn.1
            rw [← e2, he]; exact List.mem_map_of_mem g1
          · exact ih hn.2 g1 g2 he
    exact this hnd hi2 hi' (hqk.trans hik.symm)
  subst ei
  have hmf : mfind i.ent.key (m2.map KI.ent) 0 = _ := hmf
  rw [hmf]
  obtain ⟨Ba, ta, na⟩ := k13.here i hi
  obtain ⟨Bb, tb, nb⟩ := k23.here i' hi'
  rw [hit] at tb
  refine call_ret (Same1_calls Ba Bb ta tb na) ?_
  rintro _ h4 ⟨rfl, c4⟩
  refine And.intro rfl (Exists.intro (seen.push i.born) (And.intro ?_ (And.intro ?_ ?_)))
  · exact ⟨rfl, rfl, rfl, rfl, trivial⟩
  · exact ⟨cc3.nil c4, get_chg hr3 c4 (by simp)⟩
  · exact rest_lt hi hns

theorem Same_calls {h : Heap} {kb sb mb c kb2 sb2 mb2 c2 : Nat} {m m2 : List KI} {W : List (ByteArray × Thing)} (k1 : KR h kb sb mb c m) (k2 : KR h kb2 sb2 mb2 c2 m2) (h1 : Sorted m W) (h2 : Sorted m2 W) :
    CallsH Tryz.prog 9 [ptr kb, ptr kb2] h (Ret fun r h' => r = .bool true ∧ Chg [] h h') := by
  refine f9_calls (by simp) ?_
  refine call_ret (none_calls k1.ks) ?_
  rintro _ h3 ⟨rfl, e3⟩
  have e3 := e3.symm
  subst e3
  refine call_ret (none_calls k2.ks) ?_
  rintro _ h3 ⟨rfl, e3⟩
  have e3 := e3.symm
  subst e3
  refine Exists.intro _ (And.intro (cell_blk k1.ks.k rfl) (Exists.intro _ (And.intro (cell_blk k1.ks.s rfl) ?_)))
  refine Exists.intro _ (And.intro (cell_blk k2.ks.k rfl) (Exists.intro _ (And.intro (cell_blk k2.ks.s rfl) ?_)))
  refine call_ret (EqF_calls k1 k2 (fun p hp => (h2.mem p).1 ((h1.mem p).2 hp)) (by rw [← sorted_len k1.nodup h1, ← sorted_len k2.nodup h2])) ?_
  rintro _ h4 ⟨rfl, c4⟩
  exact And.intro rfl c4

end Go.Proofs.YtigolfakcblnjaaGreat
namespace Go.Proofs.YtigolfakcblnjaaGreat
open Go Go.Sx Go.Proofs.YtigolfakcblnjaaGreat.C

theorem tin_of' {t : Thing} (hk : kOK t = true) (s : Small t) : TIn t := by
  have few : countT t ≤ 65536 := (small_short s).2.2.2
  unfold kOK at hk
  split at hk
  · cases hk
  split at hk
  · rename_i h1
    have hk := of_decide_eq_true hk
    have p : t.pairs = [] := List.length_eq_zero_iff.1 (by omega)
    have l : t.list = [] := List.length_eq_zero_iff.1 (by omega)
    have r : t.ranks = [] := List.length_eq_zero_iff.1 (by omega)
    exact ⟨⟨by rw [p]; exact .nil, fun _ => by rw [l]; exact .nil, by rw [r]; exact .nil, by rw [r]; exact List.nodup_nil, fun h => by omega, few⟩, fun h => by omega⟩
  split at hk
  · rename_i h1
    simp only [Bool.and_eq_true, decide_eq_true_eq] at hk
    obtain ⟨h2, h3, h4, h5⟩ := hk
    have r : t.ranks = [] := List.length_eq_zero_iff.1 (by omega)
    exact ⟨⟨rising_lt (lt := fun x y : Pair => sless x.name y.name) (fun a b c => sless_trans) h5, fun h => by omega, by rw [r]; exact .nil, by rw [r]; exact List.nodup_nil, fun h => by omega, few⟩, fun h => by omega⟩
  split at hk
  · rename_i h1
    simp only [Bool.and_eq_true, decide_eq_true_eq] at hk
    obtain ⟨h2, h3, h4⟩ := hk
    have p : t.pairs = [] := List.length_eq_zero_iff.1 (by omega)
    have r : t.ranks = [] := List.length_eq_zero_iff.1 (by omega)
    exact ⟨⟨by rw [p]; exact .nil, fun h => by omega, by rw [r]; exact .nil, by rw [r]; exact List.nodup_nil, fun _ => ⟨p, r⟩, few⟩, fun _ => List.length_pos_iff.1 h2⟩
  split at hk
  · rename_i h1
    simp only [Bool.and_eq_true, decide_eq_true_eq] at hk
    obtain ⟨h2, h3, h4, h5⟩ := hk
    have p : t.pairs = [] := List.length_eq_zero_iff.1 (by omega)
    have r : t.ranks = [] := List.length_eq_zero_iff.1 (by omega)
    exact ⟨⟨by rw [p]; exact .nil, fun _ => rising_lt (lt := sless) (fun a b c => sless_trans) h5, by rw [r]; exact .nil, by rw [r]; exact List.nodup_nil, fun h => by omega, few⟩, fun h => by omega⟩
  split at hk
  · rename_i h1
    simp only [Bool.and_eq_true, decide_eq_true_eq] at hk
    obtain ⟨h2, h3, h4, h5, h6⟩ := hk
    have p : t.pairs = [] := List.length_eq_zero_iff.1 (by omega)
    exact ⟨⟨by rw [p]; exact .nil, fun h => by omega, rising_lt ahead_tr h5, of_decide_eq_true h6, fun h => by omega, few⟩, fun h => by omega⟩
  · cases hk

theorem ins_of {l k : List RX} (nv : NVast l) (hk : ofX [] l = some k) : InS (k.map RX.pr) := by
  obtain ⟨h1, h2, h3⟩ := ofX_ok List.Pairwise.nil hk
  have hn := (ofX_nodup List.Pairwise.nil hk).2
  intro p hp
  obtain ⟨x, hx, rfl⟩ := List.mem_map.1 hp
  have hm : x ∈ l := by simpa using (h2 x).1 hx
  exact tin_of' (hn x hm) (nv.small x hm)

theorem applyS_append : ∀ (d e : List Eff) (S : Space), applyS S (d ++ e) =
    if (applyS S d).2.2 = 0 then ((applyS (applyS S d).1 e).1, (applyS S d).2.1 + (applyS (applyS S d).1 e).2.1, (applyS (applyS S d).1 e).2.2) else applyS S d
  | [], e, S => by
    rw [show applyS S [] = (S, 0, 0) from rfl, if_pos rfl]; simp
  | x :: d, e, S => by
    rw [List.cons_append]
    by_cases h : (fateS S x).num = 0
    · rw [applyS_yes h, applyS_yes h, applyS_append d e]
      by_cases h2 : (applyS ((fateS S x).space S x.key) d).2.2 = 0
      · rw [if_pos h2, if_pos h2]
        simp only [Nat.add_assoc, Nat.add_comm 1, Prod.mk.injEq, true_and, and_true]
      · rw [if_neg h2, if_neg h2]
    · rw [applyS_no h, applyS_no h, if_neg h]

theorem applyS_len : ∀ (d : List Eff) (S : Space), (applyS S d).2.1 ≤ d.length
  | [], S => Nat.le_refl _
  | x :: d, S => by
    by_cases h : (fateS S x).num = 0
    · rw [applyS_yes h]
      have := applyS_len d ((fateS S x).space S x.key)
      simp; omega
    · rw [applyS_no h]; exact Nat.zero_le _

theorem sl_slc {α : Type} {enc : α → List Value} {size : Nat} {K : Value → Heap → Prop} {h : Heap} {a : Option Addr} {c : Nat} {l : List α} (hsz : ∀ x, (enc x).length = size) (hs : SL enc h (.slice a l.length c) l) {lo hi : Nat} (h0 : lo ≤ hi) (h1 : hi ≤ l.length)
    (hK : ∀ v, SL enc h v ((l.drop lo).take (hi - lo)) → K v h) : slcR K h size a c (lo : Int) (hi : Int) := by
  have e1 : ((hi : Int) - (lo : Int)).toNat = hi - lo := by omega
  have e2 : ((c : Int) - (lo : Int)).toNat = c - lo := by omega
  have hlc := hs.len.2
  have hlen : ((l.drop lo).take (hi - lo)).length = hi - lo := by simp; omega
  obtain ⟨a', c', he, hc', h2⟩ := id hs
  cases he
  cases a with
  | none =>
    have hz : l.length = 0 := h2
    unfold slcR
    rw [e1, e2]
    refine hK _ ⟨none, c - lo, by rw [hlen], by rw [hlen]; omega, ?_⟩
    show ((l.drop lo).take (hi - lo)).length = 0
    omega
  | some a =>
    obtain ⟨b, o, sp⟩ := a
    cases sp with
    | none =>
      intro o' ho1 ho2
      rw [e1, e2]
      refine hK _ (SL.cut hsz hs h0 h1 (fun hlt => ?_) (fun hce => ?_))
      · rw [ho1 (by omega)]; simp
      · exact ho2 (by omega)
    | some q =>
      have hz : l.length = 0 := h2
      unfold slcR
      rw [e1, e2]
      refine And.intro (by omega) (hK _ ⟨_, c - lo, by rw [hlen], by rw [hlen]; omega, ?_⟩)
      show ((l.drop lo).take (hi - lo)).length = 0
      omega

theorem GX.ch {h h' : Heap} {l : List RX} (g : GX h l) (c : CH h h') : GX h' l := fun x hx => (g x hx).ch c

theorem KeysParts_calls {h : Heap} {v u : Value} {l : List RX} {d : List Eff} {at_ : Int} (hv : SL encX h v l) (hu : SL encD h u d) (g : GX h l) (f : XFit l) (fd : DFit d) :
    CallsH Tryz.prog 3 [v, u, .int .i64 at_] h (Ret fun r h' => r = .bool true ∧ Chg [] h h') := by
  have hdl := fd.len
  obtain ⟨a, cc, rfl, hcc⟩ := hu.form
  refine f3_calls (by simp) ?_
  refine call_ret (vast_calls hv hu g f fd) ?_
  rintro _ h1 ⟨⟨b, rfl, hb⟩, c1⟩
  have known_end : ∀ h2, Chg [] h h2 → CallsH Tryz.prog 5 [] h2 (Ret fun r h' => r = .bool true ∧ Chg [] h h') := fun h2 c2 =>
    known_calls.mono fun e h' he => by
      cases e with
      | returned v => exact ⟨he.1, c2.nil he.2⟩
      | panicked ch => exact he.elim
      | outgrown => exact he.elim
  have kn : ∀ h2 {K : Value → Heap → Prop} {Qp : List PanicEntry → Heap → Prop}, Chg [] h h2 → (∀ h', Chg [] h h' → K (.bool true) h') → CallsH Tryz.prog 5 [] h2 (after K Qp) := fun h2 K Qp c2 hK =>
    call_ret (known_end h2 c2) fun v h' hv => by rw [hv.1]; exact hK h' hv.2
  cases b with
  | true =>
    exact kn h1 c1 fun h2 c2 => And.intro rfl c2
  | false =>
    obtain ⟨nv, _⟩ := hb rfl
    refine And.intro rfl (And.intro (fun hneg => kn h1 c1 fun h2 c2 => And.intro rfl c2) (fun hpos => ?_))
    refine And.intro rfl (And.intro (fun hbig => kn h1 c1 fun h2 c2 => And.intro rfl c2) (fun hok => ?_))
    obtain ⟨at', rfl⟩ : ∃ n : Nat, at_ = n := ⟨at_.toNat, by omega⟩
    have hle : at' ≤ d.length := by omega
    refine call_ret (KOf_calls (hv.ext c1) (g.ext c1) nv) ?_
    rintro r2 h2 ⟨c2, ho⟩
    have c02 := c1.nil c2
    cases hk : ofX [] l with
    | none =>
      rw [hk] at ho
      subst ho
      refine And.intro rfl (And.intro (fun _ => ?_) (fun hne => absurd (by decide) hne))
      exact kn h2 c02 fun h3 c3 => And.intro rfl c3
    | some k =>
      rw [hk] at ho
      obtain ⟨kb, sb, mb, c, m, rfl, kr, hpr, hmb⟩ := ho
      have hW := sorted_of hpr hk
      have hI := ins_of nv hk
      have z1 := c1.size
      generalize hSe : k.map RX.pr = S at hW hI
      refine And.intro rfl (And.intro (fun hne => absurd rfl hne) (fun _ => ?_))
      refine call_ret (Copy_calls kr hW) ?_
      rintro _ h3 ⟨kbo, sbo, mbo, co, mo, rfl, kro, hWo, hmo, c3⟩
      have c03 := c02.nil c3
      refine call_ret (Copy_calls (kr.ext c3) hW) ?_
      rintro _ h4 ⟨kbp, sbp, mbp, cp, mp, rfl, krp, hWp, hmp, c4⟩
      have c04 := c03.nil c4
      have kr4 := (kr.ext c3).ext c4
      have kro4 := kro.ext c4
      have z2 := c2.size
      have z3 := c3.size
      have z4 := c4.size
      have l2 : mb < h2.size := get_lt kr.map
      have l3 : mbo < h3.size := get_lt kro.map
      have l4 : mbp < h4.size := get_lt krp.map
      have u4 := hu.ext c04
      -- all of them
      refine call_ret (ApplyG_calls kr4 hW hI (fun h' c' => SL.ch u4 (ch_other kr4.map c')) hdl) ?_
      rintro _ h5 ⟨rfl, c5n, m5, kr5, hW5, hI5, c5⟩
      have ch5 := ch_other kr4.map c5
      have c05 : Chg [] h h5 := c04.fresh c5 (by simp; omega)
      have kro5 := kro4.other kr4.map c5 (by omega)
      have krp5 := krp.other kr4.map c5 (by omega)
      have u5 := SL.ch u4 ch5
      -- the first part
      refine And.intro (by decide) (And.intro (by omega) (And.intro (by omega) ?_))
      refine sl_slc (lo := 0) (hi := at') encD_len u5 (Nat.zero_le _) hle fun v1 hv1 => ?_
      rw [Nat.sub_zero, List.drop_zero] at hv1
      refine call_ret (ApplyG_calls kro5 hWo hI (fun h' c' => SL.ch hv1 (ch_other kro5.map c')) (by rw [List.length_take]; omega)) ?_
      rintro _ h6 ⟨rfl, c6n, m6, kr6, hW6, hI6, c6⟩
      have ch6 := ch_other kro5.map c6
      have c06 : Chg [] h h6 := c05.fresh c6 (by simp; omega)
      have k6 := kr5.other kro5.map c6 (by omega)
      have kp6 := krp5.other kro5.map c6 (by omega)
      have u6 := SL.ch u5 ch6
      have eAp := applyS_append (d.take at') (d.drop at') S
      rw [List.take_append_drop] at eAp
      have hl1 := applyS_len (d.take at') S
      -- what is left to do behind both parts
      have fin : ∀ {h7 : Heap} {cn : Nat} {m7 : List KI} {c8 : Nat} {m8 : List KI}, Chg [] h h7 → CH h h7 → KR h7 kb sb mb cn m7 → Sorted m7 (applyS S d).1 → KR h7 kbo sbo mbo c8 m8 → Sorted m8 (applyS S d).1 → KR h7 kbp sbp mbp cp mp →
          swp Tryz.prog (.seq (.ops f3r12) (.seq (.ops f3r13) .ret)) (retQ [.t 6] (Ret fun r h' => r = .bool true ∧ Chg [] h h'))
            (mk [(0, v), (7, ptr kb), (9, ptr kbo), (10, ptr kbp), (11, .int .i64 (applyS S d).2.1), (12, .int .i64 (applyS S d).2.2), (13, .int .i64 (applyS S d).2.1), (14, .int .i64 (applyS S d).2.2)]) [] h7 := by
        intro h7 cn m7 c8 m8 c07 ch7 k7 hW7 k8 hW8 kp7
        refine call_ret (KOf_calls (SL.ch hv ch7) (g.ch ch7) nv) ?_
        rintro r8 h8 ⟨c8', ho⟩
        rw [hk] at ho
        obtain ⟨kbq, sbq, mbq, cq, mq, rfl, krq, hprq, hmq⟩ := ho
        have c08 := c07.nil c8'
        have hWq := sorted_of hprq hk
        rw [hSe] at hWq
        refine And.intro rfl (And.intro (fun _ => ?_) (fun hne => absurd rfl hne))
        refine And.intro rfl (And.intro (fun _ => ?_) (fun hne => absurd rfl hne))
        refine call_ret (Same_calls (k7.ext c8') (k8.ext c8') hW7 hW8) ?_
        rintro _ h9 ⟨rfl, c9⟩
        refine call_ret (Same_calls ((k8.ext c8').ext c9) ((k7.ext c8').ext c9) hW8 hW7) ?_
        rintro _ h10 ⟨rfl, c10⟩
        refine And.intro rfl (And.intro (fun _ => ?_) (fun hne => absurd rfl hne))
        refine call_ret (Same_calls (((kp7.ext c8').ext c9).ext c10) ((krq.ext c9).ext c10) hWp hWq) ?_
        rintro _ h11 ⟨rfl, c11⟩
        exact kn h11 (((c08.nil c9).nil c10).nil c11) fun h12 c12 => And.intro rfl c12
      have ch04 : CH h h4 := ch_chg c04
      refine And.intro rfl (And.intro (fun hz => ?_) (fun hnz => ?_))
      · have hz : (applyS S (d.take at')).2.2 = 0 := hz
        rw [if_pos hz] at eAp
        -- the second part
        refine And.intro (by omega) (And.intro (by omega) (And.intro (by omega) ?_))
        refine sl_slc (lo := at') (hi := d.length) encD_len u6 hle (Nat.le_refl _) fun v2 hv2 => ?_
        have e2 : (d.drop at').take (d.length - at') = d.drop at' := List.take_of_length_le (by simp)
        rw [e2] at hv2
        refine call_ret (ApplyG_calls kr6 hW6 hI6 (fun h' c' => SL.ch hv2 (ch_other kr6.map c')) (by rw [List.length_drop]; omega)) ?_
        rintro _ h7 ⟨rfl, c7n, m7, kr7, hW7, hI7, c7⟩
        have ch7 := ch_other kr6.map c7
        have c07 : Chg [] h h7 := c06.fresh c7 (by simp; omega)
        have k7 := k6.other kr6.map c7 (by omega)
        have kp7 := kp6.other kr6.map c7 (by omega)
        have hl2 := applyS_len (d.drop at') (applyS S (d.take at')).1
        have e3 : (applyS S d).1 = (applyS (applyS S (d.take at')).1 (d.drop at')).1 := by rw [eAp]
        have e4 : (applyS S d).2.1 = (applyS S (d.take at')).2.1 + (applyS (applyS S (d.take at')).1 (d.drop at')).2.1 := by rw [eAp]
        have e5 : (applyS S d).2.2 = (applyS (applyS S (d.take at')).1 (d.drop at')).2.2 := by rw [eAp]
        rw [List.length_take] at hl1
        rw [List.length_drop] at hl2
        refine And.intro rfl (fun z hz' => ?_)
        have hz' := add_in hz' (by omega) (by omega)
        subst hz'
        rw [← e3] at hW7
        refine cut_at [(0, v), (7, ptr kb), (9, ptr kbo), (10, ptr kbp), (11, .int .i64 (applyS S d).2.1), (12, .int .i64 (applyS S d).2.2), (13, .int .i64 (applyS S d).2.1), (14, .int .i64 (applyS S d).2.2)] ⟨rfl, rfl, rfl, rfl, rfl, rfl, ?_, ?_, trivial⟩
          (fin c07 ((ch04.trans ch5).trans (ch6.trans ch7)) k7 hW5 kr7 hW7 kp7)
        · rw [e4]; rfl
        · rw [e5]; rfl
      · have hnz : ¬ (applyS S (d.take at')).2.2 = 0 := hnz
        rw [if_neg hnz] at eAp
        rw [← eAp] at hW6
        refine cut_at [(0, v), (7, ptr kb), (9, ptr kbo), (10, ptr kbp), (11, .int .i64 (applyS S d).2.1), (12, .int .i64 (applyS S d).2.2), (13, .int .i64 (applyS S d).2.1), (14, .int .i64 (applyS S d).2.2)] ⟨rfl, rfl, rfl, rfl, rfl, rfl, ?_, ?_, trivial⟩
          (fin c06 ((ch04.trans ch5).trans ch6) k6 hW5 kr6 hW6 kp6)
        · rw [eAp]; rfl
        · rw [eAp]; rfl

end Go.Proofs.YtigolfakcblnjaaGreat
