/-
  Layer 7: taborlaw07.KeysAll.
-/
import Derived.Test.YtigolfakcblnjaaGreatKW
namespace Go.Proofs.YtigolfakcblnjaaGreat
open Go Go.Sx Go.Proofs.YtigolfakcblnjaaGreat.C

theorem sorted_of {m : List KI} {l k : List RX} (hpr : m.map KI.pr = l.map RX.pr) (hk : ofX [] l = some k) : Sorted m (k.map RX.pr) := by
  obtain ⟨h1, h2, _⟩ := ofX_ok (acc := []) List.Pairwise.nil hk
  refine ⟨List.Pairwise.map RX.pr (fun _ _ h => h) h1, fun p => ?_⟩
  rw [hpr, List.mem_map, List.mem_map]
  constructor
  · rintro ⟨x, hx, rfl⟩
    exact ⟨x, by simpa using (h2 x).1 hx, rfl⟩
  · rintro ⟨x, hx, rfl⟩
    exact ⟨x, (h2 x).2 (by simp [hx]), rfl⟩

def mkD (D : Nat) : Deferred := { target := .collected D, args := #[] }

end Go.Proofs.YtigolfakcblnjaaGreat
