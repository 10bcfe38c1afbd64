/-
  A set that is none.
-/
import Derived.Test.YtlghcmdaijfdlaaDoorLwG
namespace Go.Proofs.YtlghcmdaijfdlaaDoor
open Go Go.Sx Go.Proofs.YtlghcmdaijfdlaaDoor.C

def nilp : Value := .pointer none

theorem none_nil {h : Heap} : CallsH Tryd.prog 30 [nilp] h (Ret fun u h' => u = .bool true ∧ h' = h) := by
  refine f30_calls (by simp) ?_
  exact ⟨rfl, rfl⟩

theorem setm_nil {h : Heap} (nm : ByteArray) (sc co : Int) : CallsH Tryd.prog 24 [nilp, .string nm, .int .i64 sc, .int .i64 co] h (Ret fun u h' => u = .tuple #[.bool false, .int .i64 1] ∧ h' = h) := by
  refine f24_calls (by simp) ?_
  refine call_ret none_nil ?_
  rintro _ h1 ⟨rfl, rfl⟩
  exact ⟨rfl, rfl⟩

theorem rank_nil {h : Heap} (nm : ByteArray) : CallsH Tryd.prog 12 [nilp, .string nm] h (Ret fun u h' => u = .tuple #[.int .i64 0, .bool false] ∧ h' = h) := by
  refine f12_calls (by simp) ?_
  refine call_ret none_nil ?_
  rintro _ h1 ⟨rfl, rfl⟩
  exact ⟨rfl, rfl⟩

theorem len_nil {h : Heap} : CallsH Tryd.prog 26 [nilp] h (Ret fun u h' => u = .int .i64 0 ∧ h' = h) := by
  refine f26_calls (by simp) ?_
  refine call_ret none_nil ?_
  rintro _ h1 ⟨rfl, rfl⟩
  exact ⟨rfl, rfl⟩

theorem dropm_nil {h : Heap} (nm : ByteArray) : CallsH Tryd.prog 20 [nilp, .string nm] h (Ret fun u h' => u = .bool false ∧ h' = h) := by
  refine f20_calls (by simp) ?_
  refine call_ret none_nil ?_
  rintro _ h1 ⟨rfl, rfl⟩
  exact ⟨rfl, rfl⟩

theorem copy_nil {h : Heap} : CallsH Tryd.prog 27 [nilp] h (Ret fun u h' => u = nilp ∧ h' = h) := by
  refine f27_calls (by simp) ?_
  refine call_ret none_nil ?_
  rintro _ h1 ⟨rfl, rfl⟩
  exact ⟨rfl, rfl⟩

theorem from_nil {h : Heap} (f g : Value) : CallsH Tryd.prog 33 [nilp, f, g] h (Ret fun u h' => u = .slice none 0 0 ∧ h' = h) := by
  refine f33_calls (by simp) ?_
  refine call_ret none_nil ?_
  rintro _ h1 ⟨rfl, rfl⟩
  exact ⟨rfl, rfl⟩

theorem atm_nil {h : Heap} (a b : Int) : CallsH Tryd.prog 16 [nilp, .int .i64 a, .int .i64 b] h (Ret fun u h' => u = .slice none 0 0 ∧ Chg [] h h') := by
  refine f16_calls (by simp) ?_
  intro b1 h1 g1
  intro b2 h2 g2
  refine call_ret (from_nil _ _) ?_
  rintro _ h3 ⟨rfl, rfl⟩
  exact ⟨rfl, g1.chg.nil g2.chg⟩

theorem betweenm_nil {h : Heap} (a b : Int) : CallsH Tryd.prog 18 [nilp, .int .i64 a, .int .i64 b] h (Ret fun u h' => u = .slice none 0 0 ∧ Chg [] h h') := by
  refine f18_calls (by simp) ?_
  intro b1 h1 g1
  intro b2 h2 g2
  refine call_ret (from_nil _ _) ?_
  rintro _ h3 ⟨rfl, rfl⟩
  exact ⟨rfl, g1.chg.nil g2.chg⟩

theorem allm_nil {h : Heap} : CallsH Tryd.prog 40 [nilp] h (Ret (AllM [] h)) := by
  refine f40_calls (by simp) ?_
  refine call_ret (atm_nil 0 9223372036854775807) ?_
  rintro _ h1 ⟨rfl, hc1⟩
  intro b3 h2 g2
  refine Exists.intro _ (And.intro g2.blk (And.intro (by decide) (And.intro rfl (And.intro (ones1 rfl) ?_))))
  intro h3 p3
  have g3 := g2.put p3
  refine Exists.intro b3 (Exists.intro (.slice none 0 0) (And.intro rfl (And.intro ?_ (And.intro p3.blk (And.intro SL.nil (And.intro (by simp [vblk, ablk]) (hc1.nil g3.chg)))))))
  rw [g2.id]; exact hc1.size

theorem all_nil {h : Heap} : CallsH Tryd.prog 25 [nilp] h (Ret fun u h' => ∃ ov, u = .tuple #[ov, .bool true] ∧ OL encR 2 h' ov [] ∧ (∀ b ∈ vblk ov, h.size ≤ b) ∧ Chg [] h h') :=
  all_gen (S := []) (by simp) fun _ _ => allm_nil

end Go.Proofs.YtlghcmdaijfdlaaDoor
