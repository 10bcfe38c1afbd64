/-
  Which functions a function leads to: computed with a trie for those that were met.
-/
import Derived.Test.YtaeabfemedamhaaGreatDoorSxYC
import GoSem.Claim
namespace Go.Sx
open Go

noncomputable def closO (P : Program) : Nat → List Nat → List Nat → T Unit → Option (List Nat)
  | 0, _, _, _ => none
  | _ + 1, [], seen, _ => some seen
  | n + 1, f :: todo, seen, t => match t.get f with
    | some _ => closO P n todo seen t
    | none => match t.put f (some ()) with
      | some t' => closO P n ((P.funcs[f]?).elim [] P.leadsTo ++ todo) (f :: seen) t'
      | none => none

theorem closO_eq {P : Program} : ∀ (n : Nat) (todo seen : List Nat) (t : T Unit) (L : List Nat), (∀ f, seen.contains f = (t.get f).isSome) → closO P n todo seen t = some L → ∀ m, n ≤ m → P.closureVia m todo seen = L.reverse
  | 0, _, _, _, _, _, h, _, _ => by simp [closO] at h
  | n + 1, [], seen, t, L, _, h, m, hm => by
    simp [closO] at h; subst h
    match m, hm with
    | m + 1, _ => rfl
  | n + 1, f :: todo, seen, t, L, hI, h, m, hm => by
    match m, hm with
    | m + 1, hm =>
      have hm : n ≤ m := by omega
      simp only [closO] at h
      simp only [Program.closureVia]
      cases hg : t.get f with
      | some u =>
        rw [hg] at h
        rw [if_pos (by rw [hI f, hg]; rfl)]
        exact closO_eq n todo seen t L hI h m hm
      | none =>
        rw [hg] at h
        rw [if_neg (by rw [hI f, hg]; simp)]
        cases hp : t.put f (some ()) with
        | none => rw [hp] at h; simp at h
        | some t' =>
          rw [hp] at h
          refine closO_eq n _ (f :: seen) t' L ?_ h m hm
          intro k
          unfold T.put at hp
          rw [cond_eq_ite] at hp
          split at hp
          · rename_i hb
            simp at hp; subst hp
            rw [T.get_set 40 t f k (some ()) (by simp only [Nat.blt_eq, big] at hb; omega), List.contains_cons, hI k]
            by_cases hk : k = f
            · simp [hk]
            · simp [hk]
          · simp at hp

/-- The closure, by a list that was computed elsewhere. -/
theorem closure_of {P : Program} {f n : Nat} {R L : List Nat} (h : closO P n [f] [] .e = some R) (hn : Nat.ble n (1 + (P.funcs.toList.map fun g => (P.leadsTo g).length + 1).sum) = true) (hr : R.reverse = L) : P.closure f = L := by
  subst hr
  exact closO_eq n [f] [] .e R (fun _ => rfl) h _ (Nat.le_of_ble_eq_true hn)

end Go.Sx
