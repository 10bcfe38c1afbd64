/-
  The contract of taborref05.Of.
-/
import Derived.Test.YtlghcmdaijfdlaaDoorRefB
namespace Go.Proofs.YtlghcmdaijfdlaaDoor
open Go Go.Sx Go.Proofs.YtlghcmdaijfdlaaDoor.C

def OfQ (h : Heap) (l : List Rank) (r : Value) (h' : Heap) : Prop :=
  Chg [] h h' ∧ ∃ u, r = .tuple #[u, .int .i64 (ofErr l)] ∧ OL encR 2 h' u (ofR l) ∧ ∀ b ∈ vblk u, h.size ≤ b

theorem ofQ_bad {h h' : Heap} {l : List Rank} (hc : Chg [] h h') {e : Int} (he : ofErr l = e) (hn : e ≠ 0) : OfQ h l (.tuple #[.slice none 0 0, .int .i64 e]) h' := by
  refine ⟨hc, _, by rw [he], ?_, by simp [vblk, ablk]⟩
  have : ofR l = [] := by unfold ofR; rw [he, if_neg hn]
  rw [this]; exact OL.nil

theorem any_drop {p : Rank → Bool} {l : List Rank} {k : Nat} (h : k < l.length) (hp : p l[k] = true) : l.any p = true :=
  List.any_eq_true.2 ⟨l[k], List.getElem_mem h, hp⟩

theorem of_second {h h1 : Heap} {a : Option Addr} {c : Nat} {l : List Rank} (hv : SL encR h1 (.slice a l.length c) l) (hc1 : Chg [] h h1) (hlen : l.length ≤ 65536) (hsz : l.any (fun x => decide (1048576 < x.name.size)) = false) :
    swp Tryd.prog (.seq (.ops f10r9) (.seq (.seq (.ops f10r10) (.block 2 (.loop f10l17))) (.seq (.ops f10r18) .ret))) (retQ [.t 2, .t 3] (Ret (OfQ h l))) (mk [(0, .slice a l.length c)]) [] h1 := by
  refine loop_intro (fun i : Nat × Value => [(0, .slice a l.length c), (5, i.2), (6, .int .i64 i.1)])
    (fun i h' => i.1 ≤ l.length ∧ Chg [] h1 h' ∧ ∃ out, OL encR 2 h' i.2 out ∧ out.length ≤ i.1 ∧ ofGo out (l.drop i.1) = ofGo [] l ∧ ∀ b ∈ vblk i.2, h.size ≤ b) (fun i => l.length - i.1) (0, .slice none 0 0)
    ⟨rfl, rfl, rfl, trivial⟩ ⟨Nat.zero_le _, Chg.refl h1, [], OL.nil, Nat.zero_le _, rfl, by simp [vblk, ablk]⟩ ?_
  rintro ⟨k, ov⟩ h2 ⟨hk, hc2, out, ho, hol, hgo, hb⟩
  simp only at hk ho hol hgo hb
  have hsm : ∀ x ∈ l, ¬ 1048576 < x.name.size := by
    intro x hx
    have := List.any_eq_false.1 hsz x hx
    simpa using this
  refine And.intro rfl (And.intro (fun ht => ?_) (fun ht => ?_))
  · have hlt : k < l.length := by omega
    obtain ⟨b, o, rfl⟩ := hv.addr (by omega)
    have hcs := (hv.ext hc2).cells encR_len (i := k) (x := l[k]) (by simp [hlt])
    rw [List.drop_eq_getElem_cons hlt, ofGo] at hgo
    refine And.intro (by omega) (And.intro ht (Exists.intro _ (And.intro (hcs 0 _ rfl) ?_)))
    refine call_ret (find_calls ho.sl l[k].name (by omega)) ?_
    rintro _ h3 ⟨rfl, rfl⟩
    refine And.intro rfl (And.intro (fun hf => ?_) (fun hf => ?_))
    · refine ofQ_bad (hc1.nil hc2) ?_ (by decide)
      rw [if_pos (by exact hf)] at hgo
      unfold ofErr
      rw [if_neg (by omega), hsz, if_neg (by simp), ← hgo]; rfl
    · rw [if_neg (by exact hf)] at hgo
      have hse : setErr out l[k] = false := by
        have := hsm l[k] (List.getElem_mem hlt)
        simp [setErr]; omega
      rw [hse, if_neg (by simp)] at hgo
      refine And.intro (by omega) (And.intro ht (Exists.intro (encR l[k]) (And.intro rfl (And.intro hcs ?_))))
      refine call_ret (set_calls ho.sl l[k] (by omega)) ?_
      rintro r h4 ⟨hc4, hr⟩
      rw [hse, if_neg (by simp)] at hr
      obtain ⟨u, rfl, hu, hbu⟩ := hr
      refine And.intro rfl (fun z hz => ?_)
      have hz := add_in hz (by omega) (by omega)
      subst hz
      refine And.intro rfl (Exists.intro (k + 1, u) (And.intro ?_ (And.intro ?_ ?_)))
      · exact ⟨rfl, rfl, rfl, trivial⟩
      · refine ⟨by simp only; omega, hc2.nil hc4, _, hu, ?_, hgo, fun b' hb' => ?_⟩
        · have := setR_len out l[k]; simp only; omega
        · have := hbu b' hb'; have := hc1.size; have := hc2.size; omega
      · simp only; omega
  · have hlt : k = l.length := by omega
    subst hlt
    rw [List.drop_length, ofGo] at hgo
    have e0 : ofErr l = 0 := by
      unfold ofErr
      rw [if_neg (by omega), hsz, if_neg (by simp), ← hgo]; rfl
    refine And.intro (hc1.nil hc2) (Exists.intro ov (And.intro ?_ (And.intro ?_ hb)))
    · rw [e0]; rfl
    · have : ofR l = out := by
        unfold ofR
        rw [if_pos e0, ← hgo]; rfl
      rw [this]; exact ho

theorem of_calls {h : Heap} {v : Value} {l : List Rank} (hv : SL encR h v l) (hl : l.length < 4611686018427387904) :
    CallsH Tryd.prog 10 [v] h (Ret (OfQ h l)) := by
  obtain ⟨a, c, rfl, hlc⟩ := hv.form
  refine f10_calls (by simp) ?_
  refine And.intro rfl (And.intro (fun hn => ?_) (fun hn => ?_))
  · exact ofQ_bad (Chg.refl h) (e := 3) (by unfold ofErr; rw [if_pos (by omega)]) (by decide)
  · refine loop_intro (fun k : Nat => [(0, .slice a l.length c), (4, .int .i64 k)]) (fun k h' => k ≤ l.length ∧ h' = h ∧ (l.take k).any (fun x => decide (1048576 < x.name.size)) = false) (fun k => l.length - k) 0 ⟨rfl, rfl, trivial⟩ ⟨Nat.zero_le _, rfl, rfl⟩ ?_
    rintro k h1 ⟨hk, rfl, hall⟩
    refine And.intro rfl (And.intro (fun ht => ?_) (fun ht => ?_))
    · have hlt : k < l.length := by omega
      obtain ⟨b, o, rfl⟩ := hv.addr (by omega)
      have hcs := hv.cells encR_len (i := k) (x := l[k]) (by simp [hlt])
      refine And.intro (by omega) (And.intro ht (Exists.intro _ (And.intro (hcs 0 _ rfl) ?_)))
      refine And.intro rfl (And.intro (fun hs => ?_) (fun hs => ?_))
      · refine ofQ_bad (Chg.refl h1) (e := 3) ?_ (by decide)
        unfold ofErr
        rw [if_neg (by omega), any_drop hlt (by simp; omega), if_pos rfl]
      · refine And.intro rfl (fun z hz => ?_)
        have hz := add_in hz (by omega) (by omega)
        subst hz
        refine And.intro rfl (Exists.intro (k + 1) (And.intro ?_ (And.intro ?_ ?_)))
        · exact ⟨rfl, rfl, trivial⟩
        · refine ⟨by omega, rfl, ?_⟩
          rw [take_snoc l k hlt, List.any_append, hall]
          simp; omega
        · omega
    · have hlt : k = l.length := by omega
      subst hlt
      rw [List.take_length] at hall
      exact cut_at [(0, .slice a l.length c)] ⟨rfl, trivial⟩ (of_second hv (Chg.refl h1) (by omega) hall)

end Go.Proofs.YtlghcmdaijfdlaaDoor
