/-
  few, num.
-/
import Derived.Test.YtlghcmdaijfdlaaDoorLwA
namespace Go.Proofs.YtlghcmdaijfdlaaDoor
open Go Go.Sx Go.Proofs.YtlghcmdaijfdlaaDoor.C

theorem num_calls {h : Heap} (e : Int) : CallsH Tryd.prog 11 [.int .i64 e] h (Ret fun u h' => u = .int .i64 e ∧ h' = h) := by
  refine f11_calls (by simp) ?_
  exact ⟨rfl, rfl⟩

/-- What is few has few members, of short names. -/
theorem few_calls {h : Heap} {v : Value} {l : List Rank} (hv : SL encR h v l) (hl : l.length < 4611686018427387904) (hsz : ∀ x ∈ l, x.name.size < 4611686018427387904) :
    CallsH Tryd.prog 7 [v] h (Ret fun u h' => (∃ t, u = .bool t ∧ (t = true → l.length ≤ 300)) ∧ h' = h) := by
  obtain ⟨a, c, rfl, hlc⟩ := hv.form
  refine f7_calls (by simp) ?_
  refine loop_intro (fun x : Nat × Int => [(0, .slice a l.length c), (3, .int .i64 x.2), (4, .int .i64 x.1)]) (fun x h' => x.1 ≤ l.length ∧ h' = h ∧ 10 * (x.1 : Int) ≤ x.2 ∧ x.2 < 4611686018427391000) (fun x => l.length - x.1) (0, 0) ⟨rfl, rfl, rfl, trivial⟩ ⟨Nat.zero_le _, rfl, by simp, by simp⟩ ?_
  rintro ⟨k, n⟩ h1 ⟨hk, rfl, hn, hn2⟩
  simp only at hk hn hn2
  refine And.intro rfl (And.intro (fun ht => ?_) (fun ht => ?_))
  · have hlt : k < l.length := by omega
    refine And.intro rfl (And.intro (fun hm => ?_) (fun hm => ?_))
    · obtain ⟨b, o, rfl⟩ := hv.addr (by omega)
      have hcs := hv.cells encR_len (i := k) (x := l[k]) (by simp [hlt])
      have hs := hsz l[k] (List.getElem_mem hlt)
      refine And.intro rfl (fun z hz => ?_)
      have hz := add_in hz (by omega) (by omega)
      refine And.intro (by omega) (And.intro (by omega) (Exists.intro _ (And.intro (hcs 0 _ rfl) ?_)))
      refine And.intro rfl (fun y hy => ?_)
      have hy := add_in hy (by omega) (by omega)
      refine And.intro rfl (fun w hw => ?_)
      have hw := add_in hw (by omega) (by omega)
      subst hw
      refine And.intro rfl (Exists.intro (k + 1, y) (And.intro ?_ (And.intro ?_ ?_)))
      · exact ⟨rfl, rfl, rfl, trivial⟩
      · exact ⟨by simp only; omega, rfl, by simp only; omega, by simp only; omega⟩
      · simp only; omega
    · refine And.intro rfl (And.intro (fun h2 => absurd h2 hm) (fun _ => ?_))
      exact ⟨⟨false, rfl, fun h => by cases h⟩, rfl⟩
  · have hlt : k = l.length := by omega
    refine And.intro rfl (And.intro (fun h2 => ?_) (fun h2 => ?_))
    · exact ⟨⟨true, rfl, fun _ => by omega⟩, rfl⟩
    · exact ⟨⟨false, rfl, fun h => by cases h⟩, rfl⟩

end Go.Proofs.YtlghcmdaijfdlaaDoor
