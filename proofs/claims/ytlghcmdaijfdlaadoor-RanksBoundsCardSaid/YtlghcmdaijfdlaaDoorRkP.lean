/-
  All: what it goes over.
-/
import Derived.Test.YtlghcmdaijfdlaaDoorRkO
namespace Go.Proofs.YtlghcmdaijfdlaaDoor
open Go Go.Sx Go.Proofs.YtlghcmdaijfdlaaDoor.C

theorem yield_ret {P : Program} {l : Nat} {vs : List Value} {h : Heap} {Q K : Value → Heap → Prop} {Qp : List PanicEntry → Heap → Prop} (hc : YieldH P l vs h (Ret Q)) (hk : ∀ v h', Q v h' → K v h') :
    YieldH P l vs h (after K Qp) :=
  hc.mono fun e h' he => by cases e <;> first | exact hk _ _ he | exact he.elim

theorem iter_calls {h : Heap} {l b3 : Nat} {sv : Value} {S : List Rank} (J : Nat → Heap → Prop) (hJ : J 0 h) (hlen : S.length < 4611686018427387904)
    (hB : ∀ k h', J k h' → Blk h' b3 [sv] ∧ SL encR h' sv S) (hext : ∀ k h' h'', J k h' → Chg [] h' h'' → J k h'')
    (hy : ∀ k h' (hk : k < S.length), J k h' → YieldH Tryd.prog l [.int .i64 k, .agg ⟨encR S[k]⟩] h' (Ret fun v h'' => v = .bool true ∧ J (k + 1) h'')) :
    CallsH Tryd.prog 43 [.func (.yield l) #[] #[], ptr b3] h (Ret fun _ h' => J S.length h') := by
  obtain ⟨B0, hs0⟩ := hB 0 h hJ
  obtain ⟨a, c, rfl, hlc⟩ := hs0.form
  refine f43_calls (by simp) ?_
  refine Exists.intro _ (And.intro (cell_blk B0 rfl) ?_)
  refine loop_intro (fun k : Nat => [(0, .func (.yield l) #[] #[]), (5, .slice a S.length c), (6, .int .i64 S.length), (7, .int .i64 k)]) (fun k h' => k ≤ S.length ∧ J k h') (fun k => S.length - k) 0 ⟨rfl, rfl, rfl, rfl, trivial⟩ ⟨Nat.zero_le _, hJ⟩ ?_
  rintro k h1 ⟨hk, hJ1⟩
  obtain ⟨B1, hs1⟩ := hB k h1 hJ1
  refine And.intro rfl (And.intro (fun ht => ?_) (fun ht => ?_))
  · have hlt : k < S.length := by omega
    obtain ⟨b, o, rfl⟩ := hs1.addr (by omega)
    have hcs := hs1.cells encR_len (i := k) (x := S[k]) (by simp [hlt])
    refine And.intro (by omega) (And.intro (by omega) (Exists.intro (encR S[k]) (And.intro rfl (And.intro hcs ?_))))
    intro b4 h4 g4
    refine Exists.intro _ (And.intro g4.blk (And.intro (by decide) (And.intro rfl (And.intro (ones2 rfl rfl) ?_))))
    intro h5 p5
    have g5 := g4.put p5
    have B5 : Blk h5 b4 (encR S[k]) := p5.blk
    refine Exists.intro (encR S[k]) (And.intro rfl (And.intro (cells_blk B5) ?_))
    refine yield_ret (hy k h5 hlt (hext k _ _ hJ1 g5.chg)) ?_
    rintro _ h6 ⟨rfl, hJ6⟩
    refine And.intro rfl (fun z hz => ?_)
    have hz := add_in hz (by omega) (by omega)
    subst hz
    refine And.intro rfl (Exists.intro (k + 1) (And.intro ?_ (And.intro ?_ ?_)))
    · exact ⟨rfl, rfl, rfl, rfl, trivial⟩
    · exact ⟨by omega, hJ6⟩
    · omega
  · have hlt : k = S.length := by omega
    subst hlt
    exact hJ1

theorem allm_calls {h : Heap} {v : Value} {S : List Rank} {fp : List Nat} (rs : RS h v S fp) :
    CallsH Tryd.prog 40 [v] h (Ret fun u h' => ∃ b3 sv, u = .func (.func 43) #[] #[ptr b3] ∧ h.size ≤ b3 ∧ Blk h' b3 [sv] ∧ SL encR h' sv S ∧ (∀ b ∈ vblk sv, h.size ≤ b ∧ b < h'.size) ∧ Chg [] h h') := by
  have hS : S.length ≤ 65536 := by
    obtain ⟨rb, mpb, N, rfl, rk, rfl⟩ := rs
    have := rk.len; have := rk.rd.len; omega
  refine f40_calls (by simp) ?_
  refine call_ret (atm_calls rs 0 9223372036854775807) ?_
  rintro sv h1 ⟨ho, hc1, hb⟩
  have e : atR 0 9223372036854775807 S = S := by
    unfold atR
    rw [sel_part (K := 0) (E := S.length) fun k hk => by simp; omega]
    simp
  rw [e] at ho
  intro b3 h2 g2
  obtain ⟨a, c, rfl, hlc⟩ := ho.sl.form
  refine Exists.intro _ (And.intro g2.blk (And.intro (by decide) (And.intro rfl (And.intro (ones1 rfl) ?_))))
  intro h3 p3
  have g3 := g2.put p3
  refine Exists.intro b3 (Exists.intro (.slice a S.length c) (And.intro rfl (And.intro ?_ (And.intro p3.blk (And.intro (ho.sl.ext g3.chg) (And.intro (fun b hb' => ⟨hb b hb', by have := ho.lt b hb'; have := g3.size; omega⟩) (hc1.nil g3.chg)))))))
  rw [g2.id]; exact hc1.size

end Go.Proofs.YtlghcmdaijfdlaaDoor
