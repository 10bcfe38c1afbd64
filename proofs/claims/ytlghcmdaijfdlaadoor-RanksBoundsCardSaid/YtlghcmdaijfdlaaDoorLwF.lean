/-
  RanksDrops.
-/
import Derived.Test.YtlghcmdaijfdlaaDoorLwE
namespace Go.Proofs.YtlghcmdaijfdlaaDoor
open Go Go.Sx Go.Proofs.YtlghcmdaijfdlaaDoor.C

theorem drops_calls {h : Heap} {v : Value} {l : List Rank} (hv : SL encR h v l) (hl : l.length < 4611686018427387904) (hsz : ∀ x ∈ l, x.name.size < 4611686018427387904) (ht : TabH h) (nm : ByteArray) :
    CallsH Tryd.prog 4 [v, .string nm] h (Ret fun r h' => r = .bool true ∧ Chg [] h h') := by
  obtain ⟨a, c, rfl, hlc⟩ := hv.form
  refine f4_calls (by simp) ?_
  refine call_ret (few_calls hv hl hsz) ?_
  rintro _ h2 ⟨⟨t, rfl, hfew⟩, rfl⟩
  cases t with
  | false =>
    refine call_ret (works_calls ht) ?_
    rintro _ h3 ⟨rfl, hc3⟩
    exact ⟨rfl, hc3⟩
  | true =>
    have hl300 := hfew rfl
    refine And.intro rfl (And.intro (fun hlong => ?_) (fun hlong => ?_))
    · refine call_ret (works_calls ht) ?_
      rintro _ h3 ⟨rfl, hc3⟩
      exact ⟨rfl, hc3⟩
    refine call_ret (ofm_calls hv (cs := []) SL.nil hl (by simp) ht) ?_
    rintro r3 h3 ⟨hc3, hr⟩
    by_cases he : ofErr l = 0
    · rw [if_pos he] at hr
      obtain ⟨rv, fp, rfl, rs, hfp⟩ := hr
      refine call_ret (of_calls (hv.ext hc3) hl) ?_
      rintro _ h4 ⟨hc4, u4, rfl, ho4, hb4⟩
      rw [he]
      have hc14 := hc3.nil hc4
      have rs4 := rs.ext hc4
      have hS := rs.len
      refine call_ret (num_calls 0) ?_
      rintro _ h5 ⟨rfl, rfl⟩
      refine And.intro rfl (And.intro (fun hne => absurd rfl hne) (fun _ => ?_))
      refine And.intro rfl (And.intro (fun hne => absurd rfl hne) (fun _ => ?_))
      refine call_ret (dropm_calls rs4 nm) ?_
      rintro _ h6 ⟨rfl, hc6, fp6, rs6, hfp6⟩
      have hfpl : ∀ b ∈ fp, b < h3.size := rs.lt
      have ho6 : OL encR 2 h6 u4 (ofR l) := ho4.chg hc6 (fun b hb hb' => by have := hb4 b hb; have := hfpl b hb'; omega)
      have hc16 : Chg [] h2 h6 := hc14.fresh hc6 hfp
      refine call_ret (find_calls ho6.sl nm (by omega)) ?_
      rintro _ h7 ⟨rfl, rfl⟩
      refine And.intro rfl (And.intro (fun hge => ?_) (fun hge => ?_))
      · refine And.intro (fun _ => ?_) (fun hne => absurd (by simp [hge]) hne)
        refine call_ret (drop_calls ho6.sl nm (by omega)) ?_
        rintro r8 h8 ⟨ho8, hc8, _⟩
        refine call_ret (is_calls (rs6.ext hc8) ho8.sl) ?_
        rintro _ h9 ⟨rfl, hc9⟩
        have hc19 := (hc16.nil hc8).nil hc9
        refine call_ret (works_calls (ht.chg hc19 (by simp))) ?_
        rintro _ h10 ⟨rfl, hc10⟩
        exact ⟨rfl, hc19.nil hc10⟩
      · refine And.intro (fun _ => ?_) (fun hne => absurd (by simp [hge]) hne)
        refine call_ret (drop_calls ho6.sl nm (by omega)) ?_
        rintro r8 h8 ⟨ho8, hc8, _⟩
        refine call_ret (is_calls (rs6.ext hc8) ho8.sl) ?_
        rintro _ h9 ⟨rfl, hc9⟩
        have hc19 := (hc16.nil hc8).nil hc9
        refine call_ret (works_calls (ht.chg hc19 (by simp))) ?_
        rintro _ h10 ⟨rfl, hc10⟩
        exact ⟨rfl, hc19.nil hc10⟩
    · rw [if_neg he] at hr
      subst hr
      refine call_ret (of_calls (hv.ext hc3) hl) ?_
      rintro _ h4 ⟨hc4, u4, rfl, _, _⟩
      have hc14 := hc3.nil hc4
      refine call_ret (num_calls (ofErr l)) ?_
      rintro _ h5 ⟨rfl, rfl⟩
      refine And.intro rfl (And.intro (fun hne => absurd rfl hne) (fun _ => ?_))
      refine And.intro rfl (And.intro (fun _ => ?_) (fun hne => absurd he hne))
      refine call_ret (num_calls (ofErr l)) ?_
      rintro _ h6 ⟨rfl, rfl⟩
      refine And.intro rfl (And.intro (fun _ => ?_) (fun hne => absurd rfl hne))
      refine call_ret (works_calls (ht.chg hc14 (by simp))) ?_
      rintro _ h7 ⟨rfl, hc7⟩
      exact ⟨rfl, hc14.nil hc7⟩

end Go.Proofs.YtlghcmdaijfdlaaDoor
