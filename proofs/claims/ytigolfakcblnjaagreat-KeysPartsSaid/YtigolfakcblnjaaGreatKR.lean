/-
  Layer 7: a keyspace as it lies; plain laws of the reference's Of.
-/
import Derived.Test.YtigolfakcblnjaaGreatKQ
namespace Go.Proofs.YtigolfakcblnjaaGreat
open Go Go.Sx Go.Proofs.YtigolfakcblnjaaGreat.C

/-- A thing in a keyspace's map. -/
structure KI where
  key : ByteArray
  tb : Nat
  vs : List Value
  thing : Thing
  born : Nat

def KI.ent (i : KI) : MapEntry := { key := .string i.key, val := ptr i.tb, born := i.born }
def KI.pr (i : KI) : ByteArray × Thing := (i.key, i.thing)
def RX.pr (i : RX) : ByteArray × Thing := (i.key, i.thing)

/-- A keyspace, its things in the order in which the map holds them. -/
structure KR (h : Heap) (kb sb mb c : Nat) (m : List KI) : Prop where
  ks : KS h kb sb mb
  map : MapB h mb (m.map KI.ent) c
  here : ∀ i ∈ m, Blk h i.tb i.vs ∧ TH h i.vs i.thing ∧ Lens i.thing
  nodup : (m.map KI.key).Nodup
  born : ∀ i ∈ m, i.born < c
  borns : (m.map KI.born).Nodup
  keys : ∀ i ∈ m, i.key.size ≤ 1048576
  len : m.length ≤ 65536

theorem KR.ext {h h' : Heap} {kb sb mb c : Nat} {m : List KI} (x : KR h kb sb mb c m) (hc : Chg [] h h') : KR h' kb sb mb c m :=
  ⟨x.ks.chg hc (by simp) (by simp), x.map.chg hc (by simp), fun i hi => ⟨(x.here i hi).1.chg hc (by simp), (x.here i hi).2.1.ext hc, (x.here i hi).2.2⟩, x.nodup, x.born, x.borns, x.keys, x.len⟩

theorem ents_fit (m : List KI) : ∀ e ∈ m.map KI.ent, fits .str e.key = true := by
  intro e he
  obtain ⟨i, _, rfl⟩ := List.mem_map.1 he
  rfl

theorem str_same (a b : ByteArray) : Instr.sameBits 10000 (.string a) (.string b) = decide (a = b) := by
  cases hd : decide (a = b) with
  | true =>
    have := of_decide_eq_true hd
    subst this
    exact sameBits_refl (k := .str) rfl
  | false =>
    cases h : Instr.sameBits 10000 (.string a) (.string b) with
    | false => rfl
    | true =>
      have := sameBits_eq (k := .str) rfl rfl h
      simp at this
      exact absurd this (of_decide_eq_false hd)

theorem mfind_ents (key : ByteArray) : ∀ (m : List KI) (n : Nat), (mfind (.string key) (m.map KI.ent) n = none ∧ ∀ i ∈ m, i.key ≠ key) ∨
    ∃ (j : Nat) (i : KI), mfind (.string key) (m.map KI.ent) n = some (n + j, ptr i.tb) ∧ m[j]? = some i ∧ i.key = key
  | [], n => .inl ⟨rfl, by simp⟩
  | x :: m, n => by
    simp only [List.map_cons, mfind]
    rw [show (KI.ent x).key = .string x.key from rfl, str_same]
    by_cases hk : key = x.key
    · exact .inr ⟨0, x, by simp [hk, KI.ent], rfl, hk.symm⟩
    · rw [if_neg (by simpa using hk)]
      rcases mfind_ents key m (n + 1) with ⟨h1, h2⟩ | ⟨j, i, h1, h2, h3⟩
      · exact .inl ⟨h1, fun i hi => by
          rcases List.mem_cons.1 hi with rfl | hi
          · exact fun e => hk e.symm
          · exact h2 i hi⟩
      · exact .inr ⟨j + 1, i, by rw [h1, show n + 1 + j = n + (j + 1) by omega], by simpa using h2, h3⟩

/-! ### The reference's Of -/
def ofX : List RX → List RX → Option (List RX)
  | acc, [] => some acc
  | acc, x :: r => if (findX x.key acc).2 = true ∨ kOK x.thing = false then none else ofX (putX acc x) r

/-- Few and small. -/
structure NVast (l : List RX) : Prop where
  len : l.length ≤ 20
  keys : ∀ x ∈ l, x.key.size ≤ 300
  small : ∀ x ∈ l, Small x.thing

theorem NVast.fit {l : List RX} (n : NVast l) : KeysFit l := fun x hx => by have := n.keys x hx; omega

theorem ofX_ok : ∀ {r acc k : List RX}, UpX acc → ofX acc r = some k → UpX k ∧ (∀ y, y ∈ k ↔ y ∈ acc ∨ y ∈ r) ∧ k.length = acc.length + r.length
  | [], acc, k, hu, h => by
    simp only [ofX, Option.some.injEq] at h
    subst h
    exact ⟨hu, by simp, by simp⟩
  | x :: r, acc, k, hu, h => by
    simp only [ofX] at h
    split at h
    · cases h
    · rename_i hn
      have hf : (findX x.key acc).2 = false := by
        cases hb : (findX x.key acc).2 with
        | false => rfl
        | true => exact absurd (.inl hb) hn
      obtain ⟨h1, h2, h3⟩ := ofX_ok (up_putX hu) h
      refine ⟨h1, fun y => ?_, by rw [h3, putX_new hf]; simp; omega⟩
      rw [h2, mem_putX hu, List.mem_cons]
      constructor
      · rintro ((rfl | ⟨h, _⟩) | h)
        · exact .inr (.inl rfl)
        · exact .inl h
        · exact .inr (.inr h)
      · rintro (h | rfl | h)
        · refine .inl (.inr ⟨h, fun e => ?_⟩)
          have := findX_has hu ⟨y, h, e⟩
          rw [hf] at this; cases this
        · exact .inl (.inl rfl)
        · exact .inr h

theorem ofX_nodup : ∀ {r acc k : List RX}, UpX acc → ofX acc r = some k → (r.map (·.key)).Nodup ∧ ∀ x ∈ r, kOK x.thing = true
  | [], acc, k, hu, h => by simp
  | x :: r, acc, k, hu, h => by
    have h0 := h
    simp only [ofX] at h
    split at h
    · cases h
    · rename_i hn
      obtain ⟨h1, h2⟩ := ofX_nodup (up_putX hu) h
      refine ⟨?_, ?_⟩
      · rw [List.map_cons, List.nodup_cons]
        refine ⟨fun hm => ?_, h1⟩
        obtain ⟨y, hy, hk⟩ := List.mem_map.1 hm
        -- y would have been refused
        have : ∀ {r acc k : List RX}, UpX acc → ofX acc r = some k → ∀ y ∈ r, ∀ z ∈ acc, z.key ≠ y.key := by
          intro r
          induction r with
          | nil => intro acc k _ _ y hy; simp at hy
          | cons w r ih =>
            intro acc k hu h y hy z hz e
            simp only [ofX] at h
            split at h
            · cases h
            · rename_i hn
              rcases List.mem_cons.1 hy with rfl | hy
              · exact hn (.inl (findX_has hu ⟨z, hz, e⟩))
              · by_cases hzw : z.key = w.key
                · exact ih (up_putX hu) h y hy w ((mem_putX hu).2 (.inl rfl)) (hzw.symm.trans e)
                · exact ih (up_putX hu) h y hy z ((mem_putX hu).2 (.inr ⟨hz, hzw⟩)) e
        exact this (up_putX hu) h y hy x ((mem_putX hu).2 (.inl rfl)) hk.symm
      · intro y hy
        rcases List.mem_cons.1 hy with rfl | hy
        · cases hk : kOK y.thing with
          | true => rfl
          | false => exact absurd (.inr hk) hn
        · exact h2 y hy

end Go.Proofs.YtigolfakcblnjaaGreat
