/-
  RanksTells.
-/
import Derived.Test.YtlghcmdaijfdlaaDoorLwD
namespace Go.Proofs.YtlghcmdaijfdlaaDoor
open Go Go.Sx Go.Proofs.YtlghcmdaijfdlaaDoor.C

theorem RS.lt {h : Heap} {v : Value} {S : List Rank} {fp : List Nat} (rs : RS h v S fp) : ∀ b ∈ fp, b < h.size := by
  obtain ⟨rb, mpb, N, _, rk, rfl⟩ := rs
  exact rk.lt

theorem tells_tail {h h0 : Heap} {b1 : Nat} {rv u4 : Value} {S : List Rank} {fp : List Nat} {nm : ByteArray} {f u le mo : Int} (hc0 : Chg [] h0 h) (B1 : Blk h b1 [.string nm, .int .i64 f, .int .i64 u, .int .i64 le, .int .i64 mo])
    (rs : RS h rv S fp) (ho : SL encR h u4 S) :
    swp Tryd.prog (.seq (.ops f3r14) .ret) (retQ [.t 4] (Ret fun r h' => r = .bool true ∧ Chg [] h0 h')) (mk [(3, ptr b1), (5, rv), (7, u4)]) [] h := by
  have hS := rs.len
  refine Exists.intro _ (And.intro (cell_blk B1 rfl) (Exists.intro _ (And.intro (cell_blk B1 rfl) ?_)))
  refine Exists.intro _ (And.intro (cell_blk B1 rfl) (Exists.intro _ (And.intro (cell_blk B1 rfl) ?_)))
  refine callq_ret (atm_calls rs f u) ?_
  rintro r1 h1 ⟨ho1, hc1, _⟩
  refine And.intro hc1.ext ?_
  refine callq_ret (at_calls (ho.ext hc1) f u (by omega)) ?_
  rintro r2 h2 ⟨ho2, hc2, _⟩
  refine And.intro hc2.ext ?_
  have hlen : (atR f u S).length ≤ S.length := sel_length _ _ _
  refine callq_ret (same_true (ho1.ext hc2).sl ho2.sl (by omega)) ?_
  rintro _ h3 ⟨rfl, rfl⟩
  refine And.intro (Ext.refl _) ?_
  have hc02 := hc1.nil hc2
  have B3 := B1.chg hc02 (by simp)
  refine Exists.intro _ (And.intro (cell_blk B3 rfl) (Exists.intro _ (And.intro (cell_blk B3 rfl) ?_)))
  refine Exists.intro _ (And.intro (cell_blk B3 rfl) (Exists.intro _ (And.intro (cell_blk B3 rfl) ?_)))
  refine callq_ret (betweenm_calls (rs.ext hc02) le mo) ?_
  rintro r4 h4 ⟨ho4, hc4, _⟩
  refine And.intro hc4.ext ?_
  refine callq_ret (between_calls ((ho.ext hc02).ext hc4) le mo (by omega)) ?_
  rintro r5 h5 ⟨ho5, hc5, _⟩
  refine And.intro hc5.ext ?_
  have hlen2 : (betweenR le mo S).length ≤ S.length := sel_length _ _ _
  refine callq_ret (same_true (ho4.ext hc5).sl ho5.sl (by omega)) ?_
  rintro _ h6 ⟨rfl, rfl⟩
  refine And.intro (Ext.refl _) ?_
  have hc06 := (hc02.nil hc4).nil hc5
  refine callq_ret (works_calls (rs.tab.chg hc06 (by simp))) ?_
  rintro _ h7 ⟨rfl, hc7⟩
  refine And.intro hc7.ext ?_
  exact ⟨rfl, (hc0.nil hc06).nil hc7⟩

/-- What came of Of twice: the same error, or a set and a list of the same members. -/
theorem tells_calls {h : Heap} {v : Value} {l : List Rank} (hv : SL encR h v l) (hl : l.length < 4611686018427387904) (hsz : ∀ x ∈ l, x.name.size < 4611686018427387904) (ht : TabH h) (nm : ByteArray) (f u le mo : Int) :
    CallsH Tryd.prog 3 [v, .agg ⟨[.string nm, .int .i64 f, .int .i64 u, .int .i64 le, .int .i64 mo]⟩] h (Ret fun r h' => r = .bool true ∧ Chg [] h h') := by
  obtain ⟨a, c, rfl, hlc⟩ := hv.form
  refine f3_calls (by simp) ?_
  intro b1 h1 g1
  have B1 : Blk h1 b1 [.string nm, .int .i64 f, .int .i64 u, .int .i64 le, .int .i64 mo] := g1.blk
  have hc1 := g1.chg
  refine call_ret (few_calls (hv.ext hc1) hl hsz) ?_
  rintro _ h2 ⟨⟨t, rfl, hfew⟩, rfl⟩
  have ht2 := ht.chg hc1 (by simp)
  have wk : CallsH Tryd.prog 8 [] h2 (Ret fun r h' => r = .bool true ∧ Chg [] h h') := Ret.mono (works_calls ht2) fun r h' ⟨h1, h2⟩ => ⟨h1, hc1.nil h2⟩
  cases t with
  | false =>
    refine call_ret wk ?_
    rintro _ h3 ⟨rfl, hc3⟩
    exact ⟨rfl, hc3⟩
  | true =>
    have hl300 := hfew rfl
    refine Exists.intro _ (And.intro (cell_blk B1 rfl) ?_)
    refine And.intro rfl (And.intro (fun hlong => ?_) (fun hlong => ?_))
    · refine call_ret wk ?_
      rintro _ h3 ⟨rfl, hc3⟩
      exact ⟨rfl, hc3⟩
    refine call_ret (ofm_calls (hv.ext hc1) (cs := []) SL.nil hl (by simp) ht2) ?_
    rintro r3 h3 ⟨hc3, hr⟩
    by_cases he : ofErr l = 0
    · rw [if_pos he] at hr
      obtain ⟨rv, fp, rfl, rs, hfp⟩ := hr
      have hc13 := hc1.nil hc3
      refine call_ret (of_calls (hv.ext hc13) hl) ?_
      rintro _ h4 ⟨hc4, u4, rfl, ho4, _⟩
      rw [he]
      have hc14 := hc13.nil hc4
      have rs4 := rs.ext hc4
      have hS := rs.len
      refine call_ret (num_calls 0) ?_
      rintro _ h5 ⟨rfl, rfl⟩
      refine And.intro rfl (And.intro (fun hne => absurd rfl hne) (fun _ => ?_))
      refine And.intro rfl (And.intro (fun hne => absurd rfl hne) (fun _ => ?_))
      have B5 := B1.chg (hc3.nil hc4) (by simp)
      refine Exists.intro _ (And.intro (cell_blk B5 rfl) ?_)
      refine call_ret (rank_calls rs4 nm) ?_
      rintro r6 h6 ⟨hc6, hr6⟩
      have B6 := B5.chg hc6 (by simp)
      have ho6 := ho4.ext hc6
      have rs6 := rs4.ext hc6
      have hc16 := hc14.nil hc6
      obtain ⟨oa, oc, rfl, hoc⟩ := ho6.sl.form
      have tail := tells_tail hc16 B6 rs6 ho6.sl
      rcases hr6 with ⟨hno, rfl⟩ | ⟨a6, y6, b6, hSe, hy, rfl⟩
      · refine Exists.intro _ (And.intro (cell_blk B6 rfl) ?_)
        refine call_ret (score_calls rs6 nm) ?_
        rintro r7 h7 ⟨rfl, hr7⟩
        rcases hr7 with ⟨_, rfl⟩ | ⟨a7, y7, b7, hSe7, hy7, _⟩
        rotate_left
        · exact absurd hy7 (hno y7 (by rw [hSe7]; simp))
        refine Exists.intro _ (And.intro (cell_blk B6 rfl) ?_)
        refine call_ret (find_calls ho6.sl nm (by omega)) ?_
        rintro _ h8 ⟨rfl, rfl⟩
        rw [findR_none hno]
        refine And.intro rfl (And.intro (fun _ => ?_) (fun hne => absurd (by decide) hne))
        refine And.intro rfl (And.intro (fun hne => absurd rfl hne) (fun _ => ?_))
        refine And.intro rfl (And.intro (fun hne => absurd rfl hne) (fun _ => ?_))
        refine And.intro rfl (And.intro (fun hge => absurd hge (by decide)) (fun _ => ?_))
        exact cut_at [(3, ptr b1), (5, rv), (7, .slice oa (ofR l).length oc)] ⟨rfl, rfl, rfl, trivial⟩ tail
      · have hnmS := rs6.names
        have hfnd : findR nm (ofR l) 0 = a6.length := by
          rw [hSe] at hnmS ⊢
          rw [← hy, findR_mid hnmS]; simp
        have hk : a6.length < (ofR l).length := by rw [hSe]; simp
        have hka : (ofR l)[a6.length]? = some y6 := by rw [hSe]; simp
        refine Exists.intro _ (And.intro (cell_blk B6 rfl) ?_)
        refine call_ret (score_calls rs6 nm) ?_
        rintro r7 h7 ⟨rfl, hr7⟩
        rcases hr7 with ⟨hno, _⟩ | ⟨a7, y7, b7, hSe7, hy7, rfl⟩
        · exact absurd hy (hno y6 (by rw [hSe]; simp))
        have hyy : y7 = y6 := by
          have hn7 := hnmS
          rw [hSe7] at hn7
          have h7 := findR_mid (i := 0) hn7
          rw [← hSe7, hy7, hfnd] at h7
          have : a7.length = a6.length := by omega
          have h8 : (ofR l)[a7.length]? = some y7 := by rw [hSe7]; simp
          rw [this, hka] at h8
          exact (Option.some.inj h8).symm
        subst hyy
        refine Exists.intro _ (And.intro (cell_blk B6 rfl) ?_)
        refine call_ret (find_calls ho6.sl nm (by omega)) ?_
        rintro _ h8 ⟨rfl, rfl⟩
        rw [hfnd]
        refine And.intro rfl (And.intro (fun hlt => absurd hlt (by omega)) (fun _ => ?_))
        refine And.intro rfl (And.intro (fun _ => ?_) (fun hne => absurd (by omega) hne))
        refine And.intro rfl (And.intro (fun hne => absurd rfl hne) (fun _ => ?_))
        obtain ⟨b, o, rfl⟩ := ho6.sl.addr (by omega)
        have hcs := ho6.sl.cells encR_len hka
        refine And.intro (by omega) (And.intro (by omega) (Exists.intro _ (And.intro (hcs 1 _ rfl) ?_)))
        refine And.intro rfl (And.intro (fun hne => absurd rfl hne) (fun _ => ?_))
        exact cut_at [(3, ptr b1), (5, rv), (7, .slice (some ⟨b, o, none⟩) (ofR l).length oc)] ⟨rfl, rfl, rfl, trivial⟩ tail
    · rw [if_neg he] at hr
      subst hr
      have hc13 := hc1.nil hc3
      refine call_ret (of_calls (hv.ext hc13) hl) ?_
      rintro _ h4 ⟨hc4, u4, rfl, _, _⟩
      have hc14 := hc13.nil hc4
      refine call_ret (num_calls (ofErr l)) ?_
      rintro _ h5 ⟨rfl, rfl⟩
      refine And.intro rfl (And.intro (fun hne => absurd rfl hne) (fun _ => ?_))
      refine And.intro rfl (And.intro (fun _ => ?_) (fun hne => absurd he hne))
      refine call_ret (num_calls (ofErr l)) ?_
      rintro _ h6 ⟨rfl, rfl⟩
      refine And.intro rfl (And.intro (fun _ => ?_) (fun hne => absurd rfl hne))
      refine call_ret (works_calls (ht.chg hc14 (by simp))) ?_
      rintro _ h7 ⟨rfl, hc7⟩
      exact ⟨rfl, hc14.nil hc7⟩

end Go.Proofs.YtlghcmdaijfdlaaDoor
