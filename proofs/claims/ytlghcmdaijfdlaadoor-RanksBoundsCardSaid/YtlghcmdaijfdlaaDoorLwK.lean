/-
  RanksBounds.
-/
import Derived.Test.YtlghcmdaijfdlaaDoorLwJ
namespace Go.Proofs.YtlghcmdaijfdlaaDoor
open Go Go.Sx Go.Proofs.YtlghcmdaijfdlaaDoor.C

theorem of_long {l : List Rank} (h : 65536 < l.length) : ofErr l = 3 := by unfold ofErr; rw [if_pos h]
theorem of_wide {x : Rank} (h : 1048576 < x.name.size) : ofErr [x] = 3 := by
  unfold ofErr
  rw [if_neg (by simp), if_pos (by simp [h])]

theorem bytes_rep {h : Heap} {b n : Nat} (hb : Blk h b (List.replicate n [Value.int .u8 0]).flatten) : Cells h b 0 ((List.replicate n (0 : UInt8)).map fun b => .int .u8 b.toNat) := by
  have e : (List.replicate n (0 : UInt8)).map (fun b => Value.int .u8 b.toNat) = (List.replicate n [Value.int .u8 0]).flatten := by
    rw [List.map_replicate, List.flatten_replicate_singleton]; rfl
  rw [e]; exact cells_blk hb

theorem rep_size (n : Nat) : (⟨⟨List.replicate n (0 : UInt8)⟩⟩ : ByteArray).size = n := by
  show (List.replicate n (0 : UInt8)).toArray.size = n
  simp

theorem cut_size {s : ByteArray} {n : Nat} (h : n ≤ s.size) : (s.extract 0 n).size = n := by
  rw [ByteArray.size_extract]; omega

/-- What stands there, of the first set. -/
theorem bounds_tail {h h0 : Heap} {rv ov : Value} {S : List Rank} {fp : List Nat} (rs : RS h rv S fp) (hS : S.length = 65536) (ho : OL encR 2 h ov []) (hc : Chg [] h0 h) (ht : TabH h0) :
    swp Tryd.prog (.seq (.ops f6r25) .ret) (retQ [.t 0] (Ret fun r h' => r = .bool true ∧ Chg [] h0 h'))
      (mk [(5, rv), (6, .int .i64 0), (7, nilp), (8, .int .i64 3), (10, .int .i64 3), (11, .bool false), (12, .int .i64 0), (15, .int .i64 0), (16, nilp), (17, .int .i64 3), (19, .int .i64 3), (20, nilp), (22, .int .i64 1), (23, .int .i64 0), (24, .bool false), (25, ov), (26, .bool true)]) [] h := by
  obtain ⟨oa, oc, rfl, _⟩ := ho.sl.form
  refine call_ret (num_calls 0) ?_
  rintro _ h1 ⟨rfl, rfl⟩
  refine And.intro rfl (And.intro (fun _ => ?_) (fun hne => absurd rfl hne))
  refine call_ret (len_calls rs) ?_
  rintro _ h2 ⟨rfl, rfl⟩
  refine And.intro rfl (And.intro (fun _ => ?_) (fun hne => absurd (by rw [hS]; rfl) hne))
  refine call_ret (num_calls 3) ?_
  rintro _ h3 ⟨rfl, rfl⟩
  refine And.intro rfl (And.intro (fun _ => ?_) (fun hne => absurd rfl hne))
  refine call_ret (num_calls 3) ?_
  rintro _ h4 ⟨rfl, rfl⟩
  refine And.intro rfl (And.intro (fun _ => ?_) (fun hne => absurd rfl hne))
  refine call_ret (num_calls 0) ?_
  rintro _ h5 ⟨rfl, rfl⟩
  refine And.intro rfl (And.intro (fun _ => ?_) (fun hne => absurd rfl hne))
  refine call_ret (num_calls 0) ?_
  rintro _ h6 ⟨rfl, rfl⟩
  refine And.intro rfl (And.intro (fun _ => ?_) (fun hne => absurd rfl hne))
  refine call_ret (num_calls 3) ?_
  rintro _ h7 ⟨rfl, rfl⟩
  refine And.intro rfl (And.intro (fun _ => ?_) (fun hne => absurd rfl hne))
  refine call_ret (num_calls 3) ?_
  rintro _ h8 ⟨rfl, rfl⟩
  refine And.intro rfl (And.intro (fun _ => ?_) (fun hne => absurd rfl hne))
  refine call_ret (num_calls 1) ?_
  rintro _ h9 ⟨rfl, rfl⟩
  refine And.intro rfl (And.intro (fun _ => ?_) (fun hne => absurd rfl hne))
  refine And.intro rfl (And.intro (fun _ => ?_) (fun hne => absurd rfl hne))
  refine And.intro rfl (And.intro (fun _ => ?_) (fun hne => absurd rfl hne))
  refine call_ret len_nil ?_
  rintro _ h10 ⟨rfl, rfl⟩
  refine And.intro rfl (And.intro (fun _ => ?_) (fun hne => absurd rfl hne))
  refine call_ret (dropm_nil _) ?_
  rintro _ h11 ⟨rfl, rfl⟩
  refine call_ret copy_nil ?_
  rintro _ h12 ⟨rfl, rfl⟩
  refine call_ret (atm_nil 0 1) ?_
  rintro _ h13 ⟨rfl, hc13⟩
  refine call_ret (betweenm_nil 0 1) ?_
  rintro _ h14 ⟨rfl, hc14⟩
  refine And.intro rfl (fun z hz => ?_)
  have hz := add_in hz (by decide) (by decide)
  subst hz
  refine And.intro rfl (And.intro (fun _ => ?_) (fun hne => absurd rfl hne))
  have hc15 := (hc.nil hc13).nil hc14
  refine call_ret (works_calls (ht.chg hc15 (by simp))) ?_
  rintro _ h16 ⟨rfl, hc16⟩
  exact ⟨rfl, hc15.nil hc16⟩

theorem bounds_rest2 {h h0 : Heap} {b1 b2 : Nat} {M M2 : List Rank} {cs : List Int} (s1 : SL encR h (.slice (some ⟨b1, 0, none⟩) 65537 65537) M2) (s2 : SL encI h (.slice (some ⟨b2, 0, none⟩) 65537 65537) cs) (hcs : cs.length = 65537)
    (hM : M2.take 65536 = M) (hM1 : M.length = 65536) (hM2 : M2.length = 65537) (he : ofErr M = 0) (he4 : ofErr M2 = 3) (hlen : (ofR M).length = 65536) (hsz : ∀ y ∈ ofR M, y.name.size = 3) (h5 : mb 5 ∈ ofR M) (hg5 : M2[5]? = some (mb 5))
    (hc : Chg [] h0 h) (ht : TabH h0) :
    swp Tryd.prog (.seq (.ops f6r13) (.seq (.ops f6r14) (.seq (.ops f6r15) (.seq (.ops f6r16) (.seq (.ops f6r17) (.seq (.ops f6r18) (.seq (.ops f6r19) (.seq (.ops f6r20) (.seq (.ops f6r21) (.seq (.ops f6r22) (.seq (.ops f6r23) (.seq (.ops f6r24) (.seq (.ops f6r25) .ret)))))))))))))
      (retQ [.t 0] (Ret fun r h' => r = .bool true ∧ Chg [] h0 h')) (mk [(0, .bool false), (1, .slice (some ⟨b1, 0, none⟩) 65537 65537), (2, .slice (some ⟨b2, 0, none⟩) 65537 65537)]) [] h := by
  refine SL.slc (lo := 0) (hi := 65536) encR_len s1 (Nat.zero_le _) (by omega) ?_
  intro a1 _ hs1
  have hs1 : SL encR h (.slice a1 65536 65537) M := by
    rw [List.drop_zero, hM] at hs1; exact hs1
  refine call_ret (ofm_calls hs1 s2 (by omega) (by omega) (ht.chg hc (by simp))) ?_
  rintro r3 h3 ⟨hc3, hr⟩
  rw [if_pos he] at hr
  obtain ⟨rv, fp, rfl, rs, hfp⟩ := hr
  have hc03 := hc.nil hc3
  refine call_ret (ofm_calls (s1.ext hc3) (cs := []) SL.nil (by omega) (by simp) (ht.chg hc03 (by simp))) ?_
  rintro r4 h4 ⟨hc4, hr⟩
  rw [if_neg (by rw [he4]; decide), he4] at hr
  subst hr
  have hc04 := hc03.nil hc4
  have rs4 := rs.ext hc4
  generalize ofR M = S at *
  have hone : findR (⟨#[111, 110, 101, 32, 109, 111, 114, 101]⟩ : ByteArray) S 0 = -1 := findR_none fun y hy e => by
    have := hsz y hy
    rw [e] at this
    exact absurd this (by decide)
  have hs1 : setErr S ⟨⟨#[111, 110, 101, 32, 109, 111, 114, 101]⟩, 0⟩ = true := by simp [setErr, hone, hlen]
  refine call_ret (setm_calls rs4 ⟨⟨#[111, 110, 101, 32, 109, 111, 114, 101]⟩, 0⟩ 0) ?_
  rintro r5 h5' ⟨_, hr⟩
  rw [if_pos hs1] at hr
  obtain ⟨rfl, rfl, rs5⟩ := hr
  have s14 := (s1.ext hc3).ext hc4
  have hc5 := s14.cells encR_len (i := 5) (x := mb 5) hg5
  refine And.intro (by decide) (And.intro (by decide) (Exists.intro _ (And.intro (hc5 0 _ rfl) ?_)))
  have hn5 := rs5.names
  obtain ⟨A, B, hAB⟩ := List.append_of_mem h5
  have hf5 : findR (nmB 5) S 0 = ((0 : Nat) : Int) + A.length := by
    rw [hAB] at hn5 ⊢
    exact findR_mid (x := mb 5) hn5
  have hf6 : decide (findR (nmB 5) S 0 < 0) = false := by rw [hf5]; simp
  have hse : setErr S ⟨nmB 5, 9⟩ = false := by
    unfold setErr
    rw [show (Rank.mk (nmB 5) 9).name = nmB 5 from rfl, hf6, nmB_size]
    rfl
  refine call_ret (setm_calls rs5 ⟨nmB 5, 9⟩ 0) ?_
  rintro r6 h6 ⟨hc6, hr⟩
  rw [if_neg (by rw [hse]; simp)] at hr
  obtain ⟨rfl, fp6, rs6, _⟩ := hr
  have hl6 : (setR S ⟨nmB 5, 9⟩).length = 65536 := by rw [setR_there (x := ⟨nmB 5, 9⟩) hn5 hAB rfl]; exact hlen
  have hc06 := hc04.fresh hc6 (fun k hk => by have := hfp k hk; have := hc.size; omega)
  refine And.intro (by decide) (And.intro (by decide) (And.intro (by decide) (And.intro (by decide) ?_)))
  intro b7 h7 g7
  refine Exists.intro (List.replicate 1048577 0) (And.intro (by rw [List.length_replicate]; rfl) (And.intro (bytes_rep g7.blk) ?_))
  have hls := rep_size 1048577
  generalize (⟨⟨List.replicate 1048577 (0 : UInt8)⟩⟩ : ByteArray) = long at hls ⊢
  have rs17 := rs6.ext g7.chg
  have hc17 := hc06.nil g7.chg
  refine And.intro (by decide) (And.intro (by decide) (And.intro (by rw [hls]; decide) ?_))
  have hcs' : (long.extract 0 1048576).size = 1048576 := cut_size (by omega)
  show sops _ _ _ _ (upd _ _ (.string (long.extract 0 1048576))) _
  generalize long.extract 0 1048576 = short at hcs' ⊢
  intro b2' h2' g2'
  have hc2' := hc17.nil g2'.chg
  have sl2' : SL encR h2' (.slice (some ⟨b2', 0, none⟩) 1 1) [⟨short, 0⟩] := SL.one encR_len (x := ⟨short, 0⟩) g2'.blk
  have e2' := of_many (l := [⟨short, 0⟩]) (by simp [Names]) (by intro x hx; simp at hx; subst hx; show short.size ≤ _; omega) (by simp)
  refine call_ret (ofm_calls sl2' (cs := []) SL.nil (by simp) (by simp) (ht.chg hc2' (by simp))) ?_
  rintro r3' h3' ⟨hc3', hr'⟩
  rw [if_pos e2'.1] at hr'
  obtain ⟨sv, fq, rfl, rq, _⟩ := hr'
  intro b4' h4' g4'
  have hc4' := (hc2'.nil hc3').nil g4'.chg
  have sl4' : SL encR h4' (.slice (some ⟨b4', 0, none⟩) 1 1) [⟨long, 0⟩] := SL.one encR_len (x := ⟨long, 0⟩) g4'.blk
  have e4' : ofErr [⟨long, 0⟩] = 3 := of_wide (by show _ < long.size; omega)
  refine call_ret (ofm_calls sl4' (cs := []) SL.nil (by simp) (by simp) (ht.chg hc4' (by simp))) ?_
  rintro r5' h5' ⟨hc5', hr'⟩
  rw [if_neg (by rw [e4']; decide), e4'] at hr'
  subst hr'
  have rq5 := (rq.ext g4'.chg).ext hc5'
  refine call_ret (setm_calls rq5 ⟨long, 0⟩ 0) ?_
  rintro r6' h6' ⟨_, hr'⟩
  rw [if_pos (by simp [setErr, hls])] at hr'
  obtain ⟨rfl, rfl, _⟩ := hr'
  refine call_ret (setm_nil _ 0 0) ?_
  rintro _ h7' ⟨rfl, rfl⟩
  refine call_ret (rank_nil _) ?_
  rintro _ h8' ⟨rfl, rfl⟩
  refine call_ret all_nil ?_
  rintro _ h9' ⟨ov, rfl, ho, _, hc9'⟩
  have hc19' := (hc4'.nil hc5').nil hc9'
  have rs9' := ((((rs17.ext g2'.chg).ext hc3').ext g4'.chg).ext hc5').ext hc9'
  exact cut_at [(5, rv), (6, .int .i64 0), (7, nilp), (8, .int .i64 3), (10, .int .i64 3), (11, .bool false), (12, .int .i64 0), (15, .int .i64 0), (16, nilp), (17, .int .i64 3), (19, .int .i64 3), (20, nilp), (22, .int .i64 1), (23, .int .i64 0), (24, .bool false), (25, ov), (26, .bool true)]
    ⟨rfl, rfl, rfl, rfl, rfl, (by show some (Value.bool (decide (findR (nmB 5) S 0 < 0))) = _; rw [hf6]), rfl, rfl, rfl, rfl, rfl, rfl, rfl, rfl, rfl, rfl, rfl, trivial⟩ (bounds_tail rs9' hl6 ho hc19' ht)

theorem bounds_rest {h h0 : Heap} {b1 b2 : Nat} (m : Made 65537 b1 b2 65537 h0 h) (ht : TabH h0) :
    swp Tryd.prog (.seq (.ops f6r13) (.seq (.ops f6r14) (.seq (.ops f6r15) (.seq (.ops f6r16) (.seq (.ops f6r17) (.seq (.ops f6r18) (.seq (.ops f6r19) (.seq (.ops f6r20) (.seq (.ops f6r21) (.seq (.ops f6r22) (.seq (.ops f6r23) (.seq (.ops f6r24) (.seq (.ops f6r25) .ret)))))))))))))
      (retQ [.t 0] (Ret fun r h' => r = .bool true ∧ Chg [] h0 h')) (mk [(0, .bool false), (1, .slice (some ⟨b1, 0, none⟩) 65537 65537), (2, .slice (some ⟨b2, 0, none⟩) 65537 65537)]) [] h := by
  have B1 := m.mem
  rw [mbz_all] at B1
  obtain ⟨cs, hcs, B2⟩ := m.coins
  have hof := of_many (mbs_names 65536 (by omega)) (fun x hx => by rw [mbs_size x hx]; omega) (by rw [mbs_len]; omega)
  exact bounds_rest2 (M := mbs 65536) (M2 := mbs 65537) (SL.of_blk' (mbs_len _) B1) (SL.of_blk' hcs B2) hcs (mbs_take _ _ (by omega)) (mbs_len _) (mbs_len _) hof.1 (of_long (by rw [mbs_len]; omega))
    (hof.2.1.trans (mbs_len _)) (fun y hy => mbs_size y ((hof.2.2 y).1 hy)) ((hof.2.2 _).2 (mbs_mem.2 ⟨5, by omega, rfl⟩)) (by unfold mbs; rw [List.getElem?_map, List.getElem?_range (by omega)]; rfl) m.chg ht

theorem bounds_calls {h : Heap} (ht : TabH h) : CallsH Tryd.prog 6 [] h (Ret fun r h' => r = .bool true ∧ Chg [] h h') := by
  refine f6_calls (by simp) ?_
  refine And.intro (by decide) (And.intro (by decide) (And.intro (by decide) (And.intro (by decide) ?_)))
  intro b1 h1 g1
  refine And.intro (by decide) (And.intro (by decide) (And.intro (by decide) (And.intro (by decide) ?_)))
  intro b2 h2 g2
  have e : (65537 : Int).toNat = 65537 := rfl
  rw [e] at g1 g2
  have B1 : Blk h1 b1 ((List.replicate 65537 zR).flatMap encR) := by rw [← rep_flat]; exact g1.blk
  have B2 : Blk h2 b2 ((List.replicate 65537 (0 : Int)).flatMap encI) := by rw [← rep_flat]; exact g2.blk
  have i1 := g1.id
  have i2 := g2.id
  have z1 := g1.size
  have m : Made 65537 b1 b2 0 h h2 := ⟨B1.chg g2.chg (by simp), ⟨_, by rw [List.length_replicate], B2⟩, g1.chg.nil g2.chg, by omega, by omega, by omega⟩
  refine made_loop m (by omega) ⟨rfl, rfl, rfl, rfl, trivial⟩ ?_
  intro h3 σ m3 hsub
  exact swp_sub _ _ _ _ _ _ mono_retQ hsub (bounds_rest m3 ht)

end Go.Proofs.YtlghcmdaijfdlaaDoor
