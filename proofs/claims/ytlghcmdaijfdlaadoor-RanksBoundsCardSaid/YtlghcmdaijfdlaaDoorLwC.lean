/-
  is.
-/
import Derived.Test.YtlghcmdaijfdlaaDoorLwB
namespace Go.Proofs.YtlghcmdaijfdlaaDoor
open Go Go.Sx Go.Proofs.YtlghcmdaijfdlaaDoor.C

theorem same_true {h : Heap} {v u : Value} {l : List Rank} (hv : SL encR h v l) (hu : SL encR h u l) (hl : l.length < 4611686018427387904) :
    CallsH Tryd.prog 15 [v, u] h (Ret fun r h' => r = .bool true ∧ h' = h) :=
  Ret.mono (same_calls hv hu hl hl) fun _ _ ⟨⟨t, h1, h2⟩, h3⟩ => ⟨by rw [h1, h2.2 rfl], h3⟩

theorem RS.len {h : Heap} {v : Value} {S : List Rank} {fp : List Nat} (rs : RS h v S fp) : S.length ≤ 65536 := by
  obtain ⟨rb, mpb, N, rfl, rk, rfl⟩ := rs
  have := rk.len; have := rk.rd.len; omega

theorem RS.names {h : Heap} {v : Value} {S : List Rank} {fp : List Nat} (rs : RS h v S fp) : Names S := by
  obtain ⟨rb, mpb, N, rfl, rk, rfl⟩ := rs
  exact rk.names

theorem name_at {S a b : List Rank} {y : Rank} (hn : Names S) (e : S = a ++ y :: b) {k : Nat} (hk : k < S.length) (h : y.name = S[k].name) : a.length = k ∧ S[k] = y := by
  subst e
  have h1 := findR_mid (i := 0) hn
  have e2 : a ++ y :: b = (a ++ y :: b).take k ++ (a ++ y :: b)[k] :: (a ++ y :: b).drop (k + 1) := by
    rw [← List.drop_eq_getElem_cons hk, List.take_append_drop]
  have hn2 := hn
  rw [e2] at hn2
  have h2 := findR_mid (i := 0) hn2
  rw [← e2, ← h] at h2
  rw [h1] at h2
  have hl : ((a ++ y :: b).take k).length = k := by simp at hk ⊢; omega
  rw [hl] at h2
  have hak : a.length = k := by omega
  subst hak
  exact ⟨rfl, by simp⟩

theorem is_calls {h : Heap} {v w : Value} {S : List Rank} {fp : List Nat} (rs : RS h v S fp) (hw : SL encR h w S) :
    CallsH Tryd.prog 21 [v, w] h (Ret fun u h' => u = .bool true ∧ Chg [] h h') := by
  have hS := rs.len
  obtain ⟨wa, wc, rfl, hwc⟩ := hw.form
  refine f21_calls (by simp) ?_
  refine call_ret (all_calls rs) ?_
  rintro _ h1 ⟨ov, rfl, ho, hob, hc1⟩
  refine call_ret (same_true ho.sl (hw.ext hc1) (by omega)) ?_
  rintro _ h2 ⟨rfl, rfl⟩
  refine call_ret (len_calls (rs.ext hc1)) ?_
  rintro _ h3 ⟨rfl, rfl⟩
  refine And.intro rfl (And.intro (fun hne => absurd rfl hne) (fun _ => ?_))
  refine call_ret (atm_calls (rs.ext hc1) 0 S.length) ?_
  rintro r4 h4 ⟨ho4, hc4, _⟩
  have e : atR 0 S.length S = S := by
    unfold atR
    rw [sel_part (K := 0) (E := S.length) fun k hk => by simp]
    simp
  rw [e] at ho4
  have hc14 := hc1.nil hc4
  refine call_ret (same_true ho4.sl (hw.ext hc14) (by omega)) ?_
  rintro _ h5 ⟨rfl, rfl⟩
  refine loop_intro (fun k : Nat => [(0, v), (1, .slice wa S.length wc), (7, .int .i64 k)]) (fun k h' => k ≤ S.length ∧ Chg [] h h') (fun k => S.length - k) 0 ⟨rfl, rfl, rfl, trivial⟩ ⟨Nat.zero_le _, hc14⟩ ?_
  rintro k h6 ⟨hk, hc6⟩
  refine And.intro rfl (And.intro (fun ht => ?_) (fun ht => ?_))
  · have hlt : k < S.length := by omega
    obtain ⟨b, o, rfl⟩ := hw.addr (by omega)
    have hcs := (hw.ext hc6).cells encR_len (i := k) (x := S[k]) (by simp [hlt])
    refine And.intro (by omega) (And.intro ht (Exists.intro _ (And.intro (hcs 0 _ rfl) ?_)))
    refine call_ret (rank_calls (rs.ext hc6) S[k].name) ?_
    rintro _ h7 ⟨hc7, hr⟩
    rcases hr with ⟨hno, _⟩ | ⟨a, y, b', hSe, hy, rfl⟩
    · exact absurd rfl (hno _ (List.getElem_mem hlt))
    obtain ⟨hak, hSy⟩ := name_at rs.names hSe hlt hy
    have hc07 := hc6.nil hc7
    have hcs7 := (hw.ext hc07).cells encR_len (i := k) (x := S[k]) (by simp [hlt])
    refine And.intro (by omega) (And.intro ht (Exists.intro _ (And.intro (hcs7 0 _ rfl) ?_)))
    refine call_ret (score_calls (rs.ext hc07) S[k].name) ?_
    rintro _ h8 ⟨rfl, hr⟩
    rcases hr with ⟨hno, _⟩ | ⟨a2, y2, b2, hSe2, hy2, rfl⟩
    · exact absurd rfl (hno _ (List.getElem_mem hlt))
    obtain ⟨hak2, hSy2⟩ := name_at rs.names hSe2 hlt hy2
    refine And.intro rfl (And.intro (fun hne => absurd (by rw [hak]) hne) (fun _ => ?_))
    refine And.intro (by omega) (And.intro ht (Exists.intro _ (And.intro (hcs7 1 _ rfl) ?_)))
    refine And.intro rfl (And.intro (fun hne => absurd (by rw [hSy2]) hne) (fun _ => ?_))
    refine And.intro rfl (fun z hz => ?_)
    have hz := add_in hz (by omega) (by omega)
    subst hz
    refine And.intro rfl (Exists.intro (k + 1) (And.intro ?_ (And.intro ?_ ?_)))
    · exact ⟨rfl, rfl, rfl, trivial⟩
    · exact ⟨by omega, hc07⟩
    · omega
  · exact And.intro rfl hc6

end Go.Proofs.YtlghcmdaijfdlaaDoor
