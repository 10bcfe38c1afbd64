/-
  Layer 7: items put into slices, taken out of them (printed by genins.py).
-/
import Derived.Test.YtigolfakcblnjaaGreatKN
import Derived.Test.YtigolfakcblnjaaGreatSxX
namespace Go.Proofs.YtigolfakcblnjaaGreat
open Go Go.Sx Go.Proofs.YtigolfakcblnjaaGreat.C

theorem sub1 {i n : Nat} (h : i ≤ n) : n + 1 - (i + 1) = n - i := by omega

theorem ovS_ext {h : Heap} {vb b o o' n c n' c' : Nat} {l l' : List Value} (hv : Blk h vb l) (hb : Blk h b l') (hl : l' ≠ []) (hne : vb ≠ b) :
    ExtH Tryz.prog 74 [.slice (some ⟨vb, o, none⟩) n c, .slice (some ⟨b, o', none⟩) n' c'] h fun v h' => v = .bool false ∧ h' = h :=
  ov_ext (P := Tryz.prog) (tS := 37) (tR := 4) (e := 9) (size := 1) Tryz.func74 (by kernel_rfl) (by kernel_rfl) (by kernel_rfl) (by kernel_rfl) Tryz.underlying37 (by kernel_rfl) hv hb hl hne

set_option maxHeartbeats 1000000 in
/-- slices.Insert of one item. -/
theorem insS_calls {h : Heap} {v : Value} {l : List ByteArray} {vb i : Nat} {x : ByteArray} (ho : OL encS 1 h v l) (hl : l.length ≤ 80000) (hi : i ≤ l.length) (hx : Blk h vb (encS x)) (hne : vb ∉ vblk v) :
    CallsH Tryz.prog 56 [v, .int .i64 i, .slice (some ⟨vb, 0, none⟩) 1 1] h
      (Ret fun r h' => OL encS 1 h' r (l.take i ++ x :: l.drop i) ∧ Chg (vblk v) h h' ∧ ∀ b ∈ vblk r, b ∈ vblk v ∨ h.size ≤ b) := by
  obtain ⟨a, c, rfl, hlc⟩ := ho.form
  have hne : vb ∉ ablk a := hne
  refine f56_calls (by simp) ?_
  refine SL.slc (lo := i) (hi := l.length) encS_len ho.sl hi (Nat.le_refl _) ?_
  intro a0 _ _
  refine And.intro rfl (And.intro (fun e => absurd e (by decide)) (fun _ => ?_))
  refine And.intro rfl (And.intro (fun e => ?_) (fun hin => ?_))
  · have e : i = l.length := by omega
    subst e
    refine app_own encS_len encS_one rfl ho (SL.one encS_len hx) (by simp; omega) ?_
    intro v' h' ho' hc hb
    rw [List.take_length, List.drop_length]
    exact And.intro ho' (And.intro hc hb)
  have hin : i < l.length := by omega
  refine And.intro rfl (fun z hz => ?_)
  have hz := add_in hz (by omega) (by omega)
  subst hz
  obtain ⟨_, hopen⟩ := ho.open
  rcases hopen with ⟨_, e, _⟩ | ⟨b, rfl, _, rest, B, hbl⟩
  · rw [e] at hin; exact absurd hin (by simp)
  have eN : ((l.length : Int) + 1) = ((l.length + 1 : Nat) : Int) := by omega
  have eI : ((i : Int) + 1) = ((i + 1 : Nat) : Int) := by omega
  have zi := take_len encS_len l i hi
  have zd := drop_len encS_len l i
  have hsp := split_at (enc := encS) l i
  have xl := encS_len x
  have fin : (l.take i).flatMap encS ++ (encS x ++ (l.drop i).flatMap encS) = (l.take i ++ x :: l.drop i).flatMap encS := by simp
  have finl : l.length + 1 = (l.take i ++ x :: l.drop i).length := by simp; omega
  refine And.intro rfl (And.intro (fun hfull => ?_) (fun hroom => ?_))
  · have hfull : c < l.length + 1 := by omega
    have s0 : SL encS h (.slice (some ⟨b, 0, none⟩) l.length c) l := ho.sl
    refine SL.slc (lo := 0) (hi := i) encS_len s0 (Nat.zero_le _) hi ?_
    intro a1 _ hs1
    simp only [Nat.sub_zero, List.drop_zero] at hs1 ⊢
    refine And.intro rfl (fun z hz => ?_)
    have hz := add_in hz (by omega) (by omega)
    subst hz
    refine And.intro rfl (fun z hz => ?_)
    have hz := sub_in hz (by omega) (by omega)
    have hz : z = ((l.length + 1 - i : Nat) : Int) := by omega
    subst hz
    have src1 := hs1.src
    refine And.intro (by omega) (And.intro (by omega) (Exists.intro ((l.take i).flatMap encS) (And.intro zi (And.intro ?_ (And.intro (by omega) (And.intro (by omega) ?_))))))
    · exact src1
    intro c3 b3 h1 hc3 g1
    rw [Int.toNat_natCast] at hc3 g1 ⊢
    have hc3 : l.length + 1 ≤ c3 := by omega
    have e3 : i + (l.length + 1 - i) = l.length + 1 := by omega
    rw [e3] at g1 ⊢
    obtain ⟨Z, hZ⟩ : ∃ Z : List Value, Z = (List.replicate (c3 - (l.length + 1)) ([.string ⟨#[]⟩] : List Value)).flatten := ⟨_, rfl⟩
    have hZl : Z.length = (c3 - (l.length + 1)) * 1 := by rw [hZ]; simp
    have q0 : (List.replicate (l.length + 1 - i) ([.string ⟨#[]⟩] : List Value)).flatten = ([.string ⟨#[]⟩] : List Value) ++ (List.replicate (l.length - i) ([.string ⟨#[]⟩] : List Value)).flatten := by
      rw [show l.length + 1 - i = (l.length - i) + 1 by omega, List.replicate_succ, List.flatten_cons]
    have B1 : Blk h1 b3 ((l.take i).flatMap encS ++ (([.string ⟨#[]⟩] : List Value) ++ ((List.replicate (l.length - i) ([.string ⟨#[]⟩] : List Value)).flatten ++ Z))) := by
      have := g1.blk
      rw [q0, ← hZ] at this
      simpa using this
    have i3 := g1.id
    have lx := hx.lt
    have lb := B.lt
    -- the item
    refine And.intro (by omega) (And.intro (by omega) (And.intro (by omega) ?_))
    intro o3 ho3 _
    have ho3 := ho3 (by omega)
    have t1 : (((l.length + 1 : Nat) : Int) - (i : Int)).toNat = l.length + 1 - i := by omega
    rw [t1]
    have ez : o3 = ((l.take i).flatMap encS).length := by rw [zi]; omega
    have m1 : min 1 (l.length + 1 - i) = 1 := by omega
    refine Exists.intro (encS x) (And.intro (by rw [m1, xl]) (And.intro ?_ ?_))
    · rw [m1]; exact src_of [] (encS x) [] (by simpa using hx.chg g1.chg (by simp)) rfl
    refine wr_at _ ([.string ⟨#[]⟩] : List Value) _ B1 ez (by rw [xl]; rfl) (encS_one x) ?_
    intro h2 p2
    have B2 := p2.blk
    have g2 := g1.put p2
    -- what stands behind
    refine And.intro rfl (fun z hz => ?_)
    have hz := add_in hz (by omega) (by omega)
    have hz : z = ((i + 1 : Nat) : Int) := by omega
    subst hz
    refine And.intro (by omega) (And.intro (by omega) (And.intro (by omega) ?_))
    intro o4 ho4 _
    have ho4 := ho4 (by omega)
    have s2 : SL encS h2 (.slice (some ⟨b, 0, none⟩) l.length c) l := s0.ext g2.chg
    refine SL.slc (lo := i) (hi := l.length) encS_len s2 hi (Nat.le_refl _) ?_
    intro a5 _ hs5
    have e5 : (l.drop i).take (l.length - i) = l.drop i := by rw [List.take_of_length_le]; simp
    rw [e5] at hs5
    have src5 := hs5.src
    have t2 : (((l.length + 1 : Nat) : Int) - ((i + 1 : Nat) : Int)).toNat = l.length - i := by omega
    rw [t2]
    have m2 : min (l.length - i) (l.length - i) = l.length - i := by omega
    refine Exists.intro ((l.drop i).flatMap encS) (And.intro (by rw [m2, zd]) (And.intro (by rw [m2]; exact src5) ?_))
    refine wr_at ((l.take i).flatMap encS ++ encS x) ((List.replicate (l.length - i) ([.string ⟨#[]⟩] : List Value)).flatten) Z (by rw [List.append_assoc]; exact B2) ?_ ?_ (enc_ones encS_one _) ?_
    · rw [List.length_append, zi, xl]; omega
    · rw [zd]; simp
    intro h3 p3
    have g3 := g2.put p3
    refine And.intro (OL.mk (rest := Z) finl (by rw [← finl]; omega) ?_ ?_) (And.intro (g3.chg.mono (by simp)) (fun b' hb' => .inr (by have : b' = b3 := List.mem_singleton.1 hb'; omega)))
    · have := g3.blk
      rw [← fin]
      simpa using this
    · rw [← fin]
      simp only [List.length_append, zi, zd, xl, hZl]
      omega
  · have hroom : l.length + 1 ≤ c := by omega
    have hne' : vb ≠ b := fun e => hne (by simp [ablk, e])
    -- there is room
    obtain ⟨R1, R2, hR, hR1⟩ : ∃ R1 R2, rest = R1 ++ R2 ∧ R1.length = 1 := by
      refine ⟨rest.take 1, rest.drop 1, (List.take_append_drop _ _).symm, ?_⟩
      rw [List.length_append, flatMap_len encS_len] at hbl
      rw [List.length_take]
      omega
    subst hR
    refine And.intro rfl (fun z hz => ?_)
    have hz := add_in hz (by omega) (by omega)
    have hz : z = ((l.length + 1 : Nat) : Int) := by omega
    subst hz
    refine And.intro (by omega) (And.intro (by omega) (And.intro (by omega) ?_))
    intro o1 hA hB
    have eo1 : o1 = 0 := by
      have := hA (by omega)
      simpa using this
    subst eo1
    have t0 : (((l.length + 1 : Nat) : Int) - ((0 : Nat) : Int)).toNat = l.length + 1 := by omega
    have t00 : ((c : Int) - ((0 : Nat) : Int)).toNat = c := by omega
    rw [t0, t00]
    refine And.intro rfl (fun z hz => ?_)
    have hz := add_in hz (by omega) (by omega)
    have hz : z = ((i + 1 : Nat) : Int) := by omega
    subst hz
    refine And.intro (by omega) (And.intro (by omega) (And.intro (by omega) ?_))
    intro o2 _ _
    have hnil : l.flatMap encS ++ (R1 ++ R2) ≠ [] := by
      intro e
      have := congrArg List.length e
      rw [List.length_append, List.length_append, hR1] at this
      simp at this
    refine ?_
    have ext := ovS_ext (o := 0) (o' := o2) (n := 1) (c := 1) (n' := (((l.length + 1 : Nat) : Int) - ((i + 1 : Nat) : Int)).toNat) (c' := ((c : Int) - ((i + 1 : Nat) : Int)).toNat) hx B hnil hne'
    refine fun w hw => ?_
    obtain ⟨u, w', hr, ⟨rfl, hh⟩, hrest⟩ := ext w hw
    refine ⟨_, w', hr, ?_, hrest⟩
    rw [hh]
    clear ext hr hh hrest w' w hw
    refine And.intro rfl (fun z hz => ?_)
    have hz := add_in hz (by omega) (by omega)
    have hz : z = ((i + 1 : Nat) : Int) := by omega
    subst hz
    refine And.intro (by omega) (And.intro (by omega) (And.intro (by omega) ?_))
    intro o3 ho3 ho3'
    have eo3 : o3 = (i + 1) * 1 := by
      have := ho3 (by omega)
      omega
    refine And.intro (by omega) (And.intro (by omega) (And.intro (by omega) ?_))
    intro o4 ho4 _
    have eo4 : o4 = i * 1 := by
      have := ho4 (by omega)
      omega
    have t1 : (((l.length + 1 : Nat) : Int) - ((i + 1 : Nat) : Int)).toNat = l.length - i := by omega
    have t2 : (((l.length + 1 : Nat) : Int) - (i : Int)).toNat = l.length + 1 - i := by omega
    rw [t1, t2]
    have m2 : min (l.length + 1 - i) (l.length - i) = l.length - i := by omega
    have B0 : Blk h b ((l.take i).flatMap encS ++ ((l.drop i).flatMap encS ++ (R1 ++ R2))) := by
      rw [hsp, List.append_assoc] at B; exact B
    -- the part behind, cut anew
    obtain ⟨D1, D2, hD, hD1⟩ : ∃ D1 D2, (l.drop i).flatMap encS ++ R1 = D1 ++ D2 ∧ D1.length = 1 := by
      refine ⟨((l.drop i).flatMap encS ++ R1).take 1, ((l.drop i).flatMap encS ++ R1).drop 1, (List.take_append_drop _ _).symm, ?_⟩
      rw [List.length_take, List.length_append, hR1]; omega
    have hD2 : D2.length = (l.length - i) * 1 := by
      have := congrArg List.length hD
      rw [List.length_append, List.length_append, zd, hR1, hD1] at this
      omega
    refine Exists.intro ((l.drop i).flatMap encS) (And.intro (by rw [m2, zd]) (And.intro (by rw [m2]; exact src_of _ _ _ B0 (by rw [zi]; exact eo4)) ?_))
    refine wr_at ((l.take i).flatMap encS ++ D1) D2 R2 ?_ ?_ ?_ (enc_ones encS_one _) ?_
    · rw [List.append_assoc, ← List.append_assoc D1, ← hD, List.append_assoc]; exact B0
    · rw [List.length_append, zi, hD1, eo3]; omega
    · rw [zd, hD2]
    intro h1 p1
    have B1 : Blk h1 b ((l.take i).flatMap encS ++ (D1 ++ ((l.drop i).flatMap encS ++ R2))) := by
      have := p1.blk
      rw [List.append_assoc] at this; exact this
    have hx1 := hx.chg p1.chg (by simpa using hne')
    refine And.intro (by omega) (And.intro (by omega) (And.intro (by omega) ?_))
    intro o5 ho5 _
    have eo5 : o5 = i * 1 := by
      have := ho5 (by omega)
      omega
    rw [t2]
    have m1 : min 1 (l.length + 1 - i) = 1 := by omega
    refine Exists.intro (encS x) (And.intro (by rw [m1, xl]) (And.intro ?_ ?_))
    · rw [m1]; exact src_of [] (encS x) [] (by simpa using hx1) rfl
    refine wr_at _ D1 _ B1 (by rw [zi]; exact eo5) (by rw [xl, hD1]) (encS_one x) ?_
    intro h2 p2
    refine And.intro (OL.mk (rest := R2) finl (by rw [← finl]; exact hroom) ?_ ?_) (And.intro (p1.trans p2).chg (fun _ h => .inl h))
    · have := p2.blk
      rw [← fin]
      simpa using this
    · rw [← fin]
      rw [hsp] at hbl
      simp only [List.length_append, zi, zd, xl, hR1] at hbl ⊢
      omega

set_option maxHeartbeats 1000000 in
/-- slices.Delete of one item. -/
theorem delS_calls {h : Heap} {v : Value} {l : List ByteArray} {i : Nat} (ho : OL encS 1 h v l) (hl : l.length ≤ 80000) (hi : i < l.length) :
    CallsH Tryz.prog 78 [v, .int .i64 i, .int .i64 (i + 1 : Nat)] h
      (Ret fun r h' => OL encS 1 h' r (l.take i ++ l.drop (i + 1)) ∧ Chg (vblk v) h h' ∧ ∀ b ∈ vblk r, b ∈ vblk v) := by
  obtain ⟨a, c, rfl, hlc⟩ := ho.form
  refine f78_calls (by simp) ?_
  obtain ⟨_, hopen⟩ := ho.open
  rcases hopen with ⟨_, e, _⟩ | ⟨b, rfl, _, rest, B, hbl⟩
  · rw [e] at hi; exact absurd hi (by simp)
  refine And.intro (by omega) (And.intro (by omega) (And.intro (by omega) (And.intro (by omega) ?_)))
  intro o0 _ _
  refine And.intro rfl (And.intro (fun e => absurd e (by omega)) (fun _ => ?_))
  have zi := take_len encS_len l i (by omega)
  have zd := drop_len encS_len l (i + 1)
  have hcons : l.drop i = l[i] :: l.drop (i + 1) := List.drop_eq_getElem_cons hi
  have hsp := split_at (enc := encS) l i
  rw [hcons, List.flatMap_cons] at hsp
  have xl := encS_len l[i]
  have B0 : Blk h b ((l.take i).flatMap encS ++ (encS l[i] ++ ((l.drop (i + 1)).flatMap encS ++ rest))) := by
    rw [hsp] at B; simpa using B
  -- s[:i]
  refine And.intro (by omega) (And.intro (by omega) (And.intro (by omega) ?_))
  intro o1 ho1 ho1'
  have eo1 : o1 = 0 := by
    have := ho1 (by omega)
    simpa using this
  subst eo1
  refine And.intro (by omega) (And.intro (by omega) (And.intro (by omega) ?_))
  intro o2 ho2 ho2'
  have t1 : ((i : Int) - ((0 : Nat) : Int)).toNat = i := by omega
  have t2 : ((c : Int) - ((0 : Nat) : Int)).toNat = c := by omega
  have t3 : ((l.length : Int) - ((i + 1 : Nat) : Int)).toNat = l.length - (i + 1) := by omega
  rw [t1, t2, t3]
  have hfit : i + (l.length - (i + 1)) ≤ c := by omega
  -- the end of the part behind, cut anew
  obtain ⟨D1, D2, hD, hD1, hD2⟩ : ∃ D1 D2, encS l[i] ++ (l.drop (i + 1)).flatMap encS = D1 ++ D2 ∧ D1.length = (l.length - (i + 1)) * 1 ∧ D2.length = 1 := by
    refine ⟨(encS l[i] ++ (l.drop (i + 1)).flatMap encS).take ((l.length - (i + 1)) * 1), (encS l[i] ++ (l.drop (i + 1)).flatMap encS).drop ((l.length - (i + 1)) * 1), (List.take_append_drop _ _).symm, ?_, ?_⟩
    · rw [List.length_take, List.length_append, xl, zd]; omega
    · rw [List.length_drop, List.length_append, xl, zd]; omega
  have fin : (l.take i).flatMap encS ++ (l.drop (i + 1)).flatMap encS = (l.take i ++ l.drop (i + 1)).flatMap encS := by simp
  have finl : i + (l.length - (i + 1)) = (l.take i ++ l.drop (i + 1)).length := by simp; omega
  have hY : Src h (some ⟨b, o2, none⟩) (l.length - (i + 1)) ((l.drop (i + 1)).flatMap encS) := by
    by_cases hlt : i + 1 < c
    · have := ho2 (by omega)
      refine src_of ((l.take i).flatMap encS ++ encS l[i]) _ rest (by simpa using B0) ?_
      rw [List.length_append, zi, xl]; omega
    · have : l.drop (i + 1) = [] := by apply List.drop_eq_nil_of_le; omega
      rw [this]
      intro j u hj
      simp at hj
  refine ⟨(l.take i).flatMap encS, (l.drop (i + 1)).flatMap encS, zi, zd, src_of [] _ _ B0 rfl, hY, enc_ones encS_one _, fun _ => ?_, fun hlt => absurd hlt (by omega)⟩
  have bl : ((l.take i).flatMap encS ++ (D1 ++ (D2 ++ rest))).length = c * 1 := by
    rw [hsp] at hbl
    have := congrArg List.length hD
    simp only [List.length_append] at hbl this ⊢
    omega
  refine ⟨(l.take i).flatMap encS ++ (D1 ++ (D2 ++ rest)), ?_, ?_, ?_⟩
  · rw [← List.append_assoc D1, ← hD, List.append_assoc]; exact B0
  · rw [bl]
    have : (i + (l.length - (i + 1))) * 1 ≤ c * 1 := Nat.mul_le_mul_right _ hfit
    omega
  intro h1 p1
  have e1 : splice ((l.take i).flatMap encS ++ (D1 ++ (D2 ++ rest))) (0 + i * 1) ((l.drop (i + 1)).flatMap encS) = (l.take i).flatMap encS ++ ((l.drop (i + 1)).flatMap encS ++ (D2 ++ rest)) := by
    rw [Nat.zero_add, ← zi]
    exact splice_at _ _ _ _ (by rw [zd, hD1])
  rw [e1] at p1
  -- clear
  refine And.intro (by omega) (And.intro (by omega) (And.intro (by omega) ?_))
  intro o3 ho3 ho3'
  have t4 : ((l.length : Int) - ((i + (l.length - (i + 1)) : Nat) : Int)).toNat = 1 := by omega
  rw [t4]
  have eo3 : o3 = (l.length - 1) * 1 := by
    have := ho3 (by omega)
    omega
  refine wr_at ((l.take i).flatMap encS ++ (l.drop (i + 1)).flatMap encS) D2 rest (by simpa using p1.blk) ?_ (by simp [hD2]) (by decide) ?_
  · rw [List.length_append, zi, zd, eo3]; omega
  intro h2 p2
  have p2' := p2.blk
  refine And.intro (OL.mk (rest := (List.replicate 1 ([.string ⟨#[]⟩] : List Value)).flatten ++ rest) finl (by rw [← finl]; exact hfit) ?_ ?_) (And.intro (p1.trans p2).chg (fun _ h => h))
  · rw [← fin]; exact p2'
  · rw [← fin]
    rw [hsp] at hbl
    simp only [List.length_append] at hbl ⊢
    simp only [zi, zd, xl] at hbl ⊢
    simp
    omega

theorem ovP_ext {h : Heap} {vb b o o' n c n' c' : Nat} {l l' : List Value} (hv : Blk h vb l) (hb : Blk h b l') (hl : l' ≠ []) (hne : vb ≠ b) :
    ExtH Tryz.prog 97 [.slice (some ⟨vb, o, none⟩) n c, .slice (some ⟨b, o', none⟩) n' c'] h fun v h' => v = .bool false ∧ h' = h :=
  ov_ext (P := Tryz.prog) (tS := 36) (tR := 4) (e := 66) (size := 2) Tryz.func97 (by kernel_rfl) (by kernel_rfl) (by kernel_rfl) (by kernel_rfl) Tryz.underlying36 (by kernel_rfl) hv hb hl hne

set_option maxHeartbeats 1000000 in
/-- slices.Insert of one item. -/
theorem insP_calls {h : Heap} {v : Value} {l : List Pair} {vb i : Nat} {x : Pair} (ho : OL encP 2 h v l) (hl : l.length ≤ 80000) (hi : i ≤ l.length) (hx : Blk h vb (encP x)) (hne : vb ∉ vblk v) :
    CallsH Tryz.prog 72 [v, .int .i64 i, .slice (some ⟨vb, 0, none⟩) 1 1] h
      (Ret fun r h' => OL encP 2 h' r (l.take i ++ x :: l.drop i) ∧ Chg (vblk v) h h' ∧ ∀ b ∈ vblk r, b ∈ vblk v ∨ h.size ≤ b) := by
  obtain ⟨a, c, rfl, hlc⟩ := ho.form
  have hne : vb ∉ ablk a := hne
  refine f72_calls (by simp) ?_
  refine SL.slc (lo := i) (hi := l.length) encP_len ho.sl hi (Nat.le_refl _) ?_
  intro a0 _ _
  refine And.intro rfl (And.intro (fun e => absurd e (by decide)) (fun _ => ?_))
  refine And.intro rfl (And.intro (fun e => ?_) (fun hin => ?_))
  · have e : i = l.length := by omega
    subst e
    refine app_own encP_len encP_one rfl ho (SL.one encP_len hx) (by simp; omega) ?_
    intro v' h' ho' hc hb
    rw [List.take_length, List.drop_length]
    exact And.intro ho' (And.intro hc hb)
  have hin : i < l.length := by omega
  refine And.intro rfl (fun z hz => ?_)
  have hz := add_in hz (by omega) (by omega)
  subst hz
  obtain ⟨_, hopen⟩ := ho.open
  rcases hopen with ⟨_, e, _⟩ | ⟨b, rfl, _, rest, B, hbl⟩
  · rw [e] at hin; exact absurd hin (by simp)
  have eN : ((l.length : Int) + 1) = ((l.length + 1 : Nat) : Int) := by omega
  have eI : ((i : Int) + 1) = ((i + 1 : Nat) : Int) := by omega
  have zi := take_len encP_len l i hi
  have zd := drop_len encP_len l i
  have hsp := split_at (enc := encP) l i
  have xl := encP_len x
  have fin : (l.take i).flatMap encP ++ (encP x ++ (l.drop i).flatMap encP) = (l.take i ++ x :: l.drop i).flatMap encP := by simp
  have finl : l.length + 1 = (l.take i ++ x :: l.drop i).length := by simp; omega
  refine And.intro rfl (And.intro (fun hfull => ?_) (fun hroom => ?_))
  · have hfull : c < l.length + 1 := by omega
    have s0 : SL encP h (.slice (some ⟨b, 0, none⟩) l.length c) l := ho.sl
    refine SL.slc (lo := 0) (hi := i) encP_len s0 (Nat.zero_le _) hi ?_
    intro a1 _ hs1
    simp only [Nat.sub_zero, List.drop_zero] at hs1 ⊢
    refine And.intro rfl (fun z hz => ?_)
    have hz := add_in hz (by omega) (by omega)
    subst hz
    refine And.intro rfl (fun z hz => ?_)
    have hz := sub_in hz (by omega) (by omega)
    have hz : z = ((l.length + 1 - i : Nat) : Int) := by omega
    subst hz
    have src1 := hs1.src
    refine And.intro (by omega) (And.intro (by omega) (Exists.intro ((l.take i).flatMap encP) (And.intro zi (And.intro ?_ (And.intro (by omega) (And.intro (by omega) ?_))))))
    · exact src1
    intro c3 b3 h1 hc3 g1
    rw [Int.toNat_natCast] at hc3 g1 ⊢
    have hc3 : l.length + 1 ≤ c3 := by omega
    have e3 : i + (l.length + 1 - i) = l.length + 1 := by omega
    rw [e3] at g1 ⊢
    obtain ⟨Z, hZ⟩ : ∃ Z : List Value, Z = (List.replicate (c3 - (l.length + 1)) ([.string ⟨#[]⟩, .string ⟨#[]⟩] : List Value)).flatten := ⟨_, rfl⟩
    have hZl : Z.length = (c3 - (l.length + 1)) * 2 := by rw [hZ]; simp
    have q0 : (List.replicate (l.length + 1 - i) ([.string ⟨#[]⟩, .string ⟨#[]⟩] : List Value)).flatten = ([.string ⟨#[]⟩, .string ⟨#[]⟩] : List Value) ++ (List.replicate (l.length - i) ([.string ⟨#[]⟩, .string ⟨#[]⟩] : List Value)).flatten := by
      rw [show l.length + 1 - i = (l.length - i) + 1 by omega, List.replicate_succ, List.flatten_cons]
    have B1 : Blk h1 b3 ((l.take i).flatMap encP ++ (([.string ⟨#[]⟩, .string ⟨#[]⟩] : List Value) ++ ((List.replicate (l.length - i) ([.string ⟨#[]⟩, .string ⟨#[]⟩] : List Value)).flatten ++ Z))) := by
      have := g1.blk
      rw [q0, ← hZ] at this
      simpa using this
    have i3 := g1.id
    have lx := hx.lt
    have lb := B.lt
    -- the item
    refine And.intro (by omega) (And.intro (by omega) (And.intro (by omega) ?_))
    intro o3 ho3 _
    have ho3 := ho3 (by omega)
    have t1 : (((l.length + 1 : Nat) : Int) - (i : Int)).toNat = l.length + 1 - i := by omega
    rw [t1]
    have ez : o3 = ((l.take i).flatMap encP).length := by rw [zi]; omega
    have m1 : min 1 (l.length + 1 - i) = 1 := by omega
    refine Exists.intro (encP x) (And.intro (by rw [m1, xl]) (And.intro ?_ ?_))
    · rw [m1]; exact src_of [] (encP x) [] (by simpa using hx.chg g1.chg (by simp)) rfl
    refine wr_at _ ([.string ⟨#[]⟩, .string ⟨#[]⟩] : List Value) _ B1 ez (by rw [xl]; rfl) (encP_one x) ?_
    intro h2 p2
    have B2 := p2.blk
    have g2 := g1.put p2
    -- what stands behind
    refine And.intro rfl (fun z hz => ?_)
    have hz := add_in hz (by omega) (by omega)
    have hz : z = ((i + 1 : Nat) : Int) := by omega
    subst hz
    refine And.intro (by omega) (And.intro (by omega) (And.intro (by omega) ?_))
    intro o4 ho4 _
    have ho4 := ho4 (by omega)
    have s2 : SL encP h2 (.slice (some ⟨b, 0, none⟩) l.length c) l := s0.ext g2.chg
    refine SL.slc (lo := i) (hi := l.length) encP_len s2 hi (Nat.le_refl _) ?_
    intro a5 _ hs5
    have e5 : (l.drop i).take (l.length - i) = l.drop i := by rw [List.take_of_length_le]; simp
    rw [e5] at hs5
    have src5 := hs5.src
    have t2 : (((l.length + 1 : Nat) : Int) - ((i + 1 : Nat) : Int)).toNat = l.length - i := by omega
    rw [t2]
    have m2 : min (l.length - i) (l.length - i) = l.length - i := by omega
    refine Exists.intro ((l.drop i).flatMap encP) (And.intro (by rw [m2, zd]) (And.intro (by rw [m2]; exact src5) ?_))
    refine wr_at ((l.take i).flatMap encP ++ encP x) ((List.replicate (l.length - i) ([.string ⟨#[]⟩, .string ⟨#[]⟩] : List Value)).flatten) Z (by rw [List.append_assoc]; exact B2) ?_ ?_ (enc_ones encP_one _) ?_
    · rw [List.length_append, zi, xl]; omega
    · rw [zd]; simp
    intro h3 p3
    have g3 := g2.put p3
    refine And.intro (OL.mk (rest := Z) finl (by rw [← finl]; omega) ?_ ?_) (And.intro (g3.chg.mono (by simp)) (fun b' hb' => .inr (by have : b' = b3 := List.mem_singleton.1 hb'; omega)))
    · have := g3.blk
      rw [← fin]
      simpa using this
    · rw [← fin]
      simp only [List.length_append, zi, zd, xl, hZl]
      omega
  · have hroom : l.length + 1 ≤ c := by omega
    have hne' : vb ≠ b := fun e => hne (by simp [ablk, e])
    -- there is room
    obtain ⟨R1, R2, hR, hR1⟩ : ∃ R1 R2, rest = R1 ++ R2 ∧ R1.length = 2 := by
      refine ⟨rest.take 2, rest.drop 2, (List.take_append_drop _ _).symm, ?_⟩
      rw [List.length_append, flatMap_len encP_len] at hbl
      rw [List.length_take]
      omega
    subst hR
    refine And.intro rfl (fun z hz => ?_)
    have hz := add_in hz (by omega) (by omega)
    have hz : z = ((l.length + 1 : Nat) : Int) := by omega
    subst hz
    refine And.intro (by omega) (And.intro (by omega) (And.intro (by omega) ?_))
    intro o1 hA hB
    have eo1 : o1 = 0 := by
      have := hA (by omega)
      simpa using this
    subst eo1
    have t0 : (((l.length + 1 : Nat) : Int) - ((0 : Nat) : Int)).toNat = l.length + 1 := by omega
    have t00 : ((c : Int) - ((0 : Nat) : Int)).toNat = c := by omega
    rw [t0, t00]
    refine And.intro rfl (fun z hz => ?_)
    have hz := add_in hz (by omega) (by omega)
    have hz : z = ((i + 1 : Nat) : Int) := by omega
    subst hz
    refine And.intro (by omega) (And.intro (by omega) (And.intro (by omega) ?_))
    intro o2 _ _
    have hnil : l.flatMap encP ++ (R1 ++ R2) ≠ [] := by
      intro e
      have := congrArg List.length e
      rw [List.length_append, List.length_append, hR1] at this
      simp at this
    refine ?_
    have ext := ovP_ext (o := 0) (o' := o2) (n := 1) (c := 1) (n' := (((l.length + 1 : Nat) : Int) - ((i + 1 : Nat) : Int)).toNat) (c' := ((c : Int) - ((i + 1 : Nat) : Int)).toNat) hx B hnil hne'
    refine fun w hw => ?_
    obtain ⟨u, w', hr, ⟨rfl, hh⟩, hrest⟩ := ext w hw
    refine ⟨_, w', hr, ?_, hrest⟩
    rw [hh]
    clear ext hr hh hrest w' w hw
    refine And.intro rfl (fun z hz => ?_)
    have hz := add_in hz (by omega) (by omega)
    have hz : z = ((i + 1 : Nat) : Int) := by omega
    subst hz
    refine And.intro (by omega) (And.intro (by omega) (And.intro (by omega) ?_))
    intro o3 ho3 ho3'
    have eo3 : o3 = (i + 1) * 2 := by
      have := ho3 (by omega)
      omega
    refine And.intro (by omega) (And.intro (by omega) (And.intro (by omega) ?_))
    intro o4 ho4 _
    have eo4 : o4 = i * 2 := by
      have := ho4 (by omega)
      omega
    have t1 : (((l.length + 1 : Nat) : Int) - ((i + 1 : Nat) : Int)).toNat = l.length - i := by omega
    have t2 : (((l.length + 1 : Nat) : Int) - (i : Int)).toNat = l.length + 1 - i := by omega
    rw [t1, t2]
    have m2 : min (l.length + 1 - i) (l.length - i) = l.length - i := by omega
    have B0 : Blk h b ((l.take i).flatMap encP ++ ((l.drop i).flatMap encP ++ (R1 ++ R2))) := by
      rw [hsp, List.append_assoc] at B; exact B
    -- the part behind, cut anew
    obtain ⟨D1, D2, hD, hD1⟩ : ∃ D1 D2, (l.drop i).flatMap encP ++ R1 = D1 ++ D2 ∧ D1.length = 2 := by
      refine ⟨((l.drop i).flatMap encP ++ R1).take 2, ((l.drop i).flatMap encP ++ R1).drop 2, (List.take_append_drop _ _).symm, ?_⟩
      rw [List.length_take, List.length_append, hR1]; omega
    have hD2 : D2.length = (l.length - i) * 2 := by
      have := congrArg List.length hD
      rw [List.length_append, List.length_append, zd, hR1, hD1] at this
      omega
    refine Exists.intro ((l.drop i).flatMap encP) (And.intro (by rw [m2, zd]) (And.intro (by rw [m2]; exact src_of _ _ _ B0 (by rw [zi]; exact eo4)) ?_))
    refine wr_at ((l.take i).flatMap encP ++ D1) D2 R2 ?_ ?_ ?_ (enc_ones encP_one _) ?_
    · rw [List.append_assoc, ← List.append_assoc D1, ← hD, List.append_assoc]; exact B0
    · rw [List.length_append, zi, hD1, eo3]; omega
    · rw [zd, hD2]
    intro h1 p1
    have B1 : Blk h1 b ((l.take i).flatMap encP ++ (D1 ++ ((l.drop i).flatMap encP ++ R2))) := by
      have := p1.blk
      rw [List.append_assoc] at this; exact this
    have hx1 := hx.chg p1.chg (by simpa using hne')
    refine And.intro (by omega) (And.intro (by omega) (And.intro (by omega) ?_))
    intro o5 ho5 _
    have eo5 : o5 = i * 2 := by
      have := ho5 (by omega)
      omega
    rw [t2]
    have m1 : min 1 (l.length + 1 - i) = 1 := by omega
    refine Exists.intro (encP x) (And.intro (by rw [m1, xl]) (And.intro ?_ ?_))
    · rw [m1]; exact src_of [] (encP x) [] (by simpa using hx1) rfl
    refine wr_at _ D1 _ B1 (by rw [zi]; exact eo5) (by rw [xl, hD1]) (encP_one x) ?_
    intro h2 p2
    refine And.intro (OL.mk (rest := R2) finl (by rw [← finl]; exact hroom) ?_ ?_) (And.intro (p1.trans p2).chg (fun _ h => .inl h))
    · have := p2.blk
      rw [← fin]
      simpa using this
    · rw [← fin]
      rw [hsp] at hbl
      simp only [List.length_append, zi, zd, xl, hR1] at hbl ⊢
      omega

set_option maxHeartbeats 1000000 in
/-- slices.Delete of one item. -/
theorem delP_calls {h : Heap} {v : Value} {l : List Pair} {i : Nat} (ho : OL encP 2 h v l) (hl : l.length ≤ 80000) (hi : i < l.length) :
    CallsH Tryz.prog 73 [v, .int .i64 i, .int .i64 (i + 1 : Nat)] h
      (Ret fun r h' => OL encP 2 h' r (l.take i ++ l.drop (i + 1)) ∧ Chg (vblk v) h h' ∧ ∀ b ∈ vblk r, b ∈ vblk v) := by
  obtain ⟨a, c, rfl, hlc⟩ := ho.form
  refine f73_calls (by simp) ?_
  obtain ⟨_, hopen⟩ := ho.open
  rcases hopen with ⟨_, e, _⟩ | ⟨b, rfl, _, rest, B, hbl⟩
  · rw [e] at hi; exact absurd hi (by simp)
  refine And.intro (by omega) (And.intro (by omega) (And.intro (by omega) (And.intro (by omega) ?_)))
  intro o0 _ _
  refine And.intro rfl (And.intro (fun e => absurd e (by omega)) (fun _ => ?_))
  have zi := take_len encP_len l i (by omega)
  have zd := drop_len encP_len l (i + 1)
  have hcons : l.drop i = l[i] :: l.drop (i + 1) := List.drop_eq_getElem_cons hi
  have hsp := split_at (enc := encP) l i
  rw [hcons, List.flatMap_cons] at hsp
  have xl := encP_len l[i]
  have B0 : Blk h b ((l.take i).flatMap encP ++ (encP l[i] ++ ((l.drop (i + 1)).flatMap encP ++ rest))) := by
    rw [hsp] at B; simpa using B
  -- s[:i]
  refine And.intro (by omega) (And.intro (by omega) (And.intro (by omega) ?_))
  intro o1 ho1 ho1'
  have eo1 : o1 = 0 := by
    have := ho1 (by omega)
    simpa using this
  subst eo1
  refine And.intro (by omega) (And.intro (by omega) (And.intro (by omega) ?_))
  intro o2 ho2 ho2'
  have t1 : ((i : Int) - ((0 : Nat) : Int)).toNat = i := by omega
  have t2 : ((c : Int) - ((0 : Nat) : Int)).toNat = c := by omega
  have t3 : ((l.length : Int) - ((i + 1 : Nat) : Int)).toNat = l.length - (i + 1) := by omega
  rw [t1, t2, t3]
  have hfit : i + (l.length - (i + 1)) ≤ c := by omega
  -- the end of the part behind, cut anew
  obtain ⟨D1, D2, hD, hD1, hD2⟩ : ∃ D1 D2, encP l[i] ++ (l.drop (i + 1)).flatMap encP = D1 ++ D2 ∧ D1.length = (l.length - (i + 1)) * 2 ∧ D2.length = 2 := by
    refine ⟨(encP l[i] ++ (l.drop (i + 1)).flatMap encP).take ((l.length - (i + 1)) * 2), (encP l[i] ++ (l.drop (i + 1)).flatMap encP).drop ((l.length - (i + 1)) * 2), (List.take_append_drop _ _).symm, ?_, ?_⟩
    · rw [List.length_take, List.length_append, xl, zd]; omega
    · rw [List.length_drop, List.length_append, xl, zd]; omega
  have fin : (l.take i).flatMap encP ++ (l.drop (i + 1)).flatMap encP = (l.take i ++ l.drop (i + 1)).flatMap encP := by simp
  have finl : i + (l.length - (i + 1)) = (l.take i ++ l.drop (i + 1)).length := by simp; omega
  have hY : Src h (some ⟨b, o2, none⟩) (l.length - (i + 1)) ((l.drop (i + 1)).flatMap encP) := by
    by_cases hlt : i + 1 < c
    · have := ho2 (by omega)
      refine src_of ((l.take i).flatMap encP ++ encP l[i]) _ rest (by simpa using B0) ?_
      rw [List.length_append, zi, xl]; omega
    · have : l.drop (i + 1) = [] := by apply List.drop_eq_nil_of_le; omega
      rw [this]
      intro j u hj
      simp at hj
  refine ⟨(l.take i).flatMap encP, (l.drop (i + 1)).flatMap encP, zi, zd, src_of [] _ _ B0 rfl, hY, enc_ones encP_one _, fun _ => ?_, fun hlt => absurd hlt (by omega)⟩
  have bl : ((l.take i).flatMap encP ++ (D1 ++ (D2 ++ rest))).length = c * 2 := by
    rw [hsp] at hbl
    have := congrArg List.length hD
    simp only [List.length_append] at hbl this ⊢
    omega
  refine ⟨(l.take i).flatMap encP ++ (D1 ++ (D2 ++ rest)), ?_, ?_, ?_⟩
  · rw [← List.append_assoc D1, ← hD, List.append_assoc]; exact B0
  · rw [bl]
    have : (i + (l.length - (i + 1))) * 2 ≤ c * 2 := Nat.mul_le_mul_right _ hfit
    omega
  intro h1 p1
  have e1 : splice ((l.take i).flatMap encP ++ (D1 ++ (D2 ++ rest))) (0 + i * 2) ((l.drop (i + 1)).flatMap encP) = (l.take i).flatMap encP ++ ((l.drop (i + 1)).flatMap encP ++ (D2 ++ rest)) := by
    rw [Nat.zero_add, ← zi]
    exact splice_at _ _ _ _ (by rw [zd, hD1])
  rw [e1] at p1
  -- clear
  refine And.intro (by omega) (And.intro (by omega) (And.intro (by omega) ?_))
  intro o3 ho3 ho3'
  have t4 : ((l.length : Int) - ((i + (l.length - (i + 1)) : Nat) : Int)).toNat = 1 := by omega
  rw [t4]
  have eo3 : o3 = (l.length - 1) * 2 := by
    have := ho3 (by omega)
    omega
  refine wr_at ((l.take i).flatMap encP ++ (l.drop (i + 1)).flatMap encP) D2 rest (by simpa using p1.blk) ?_ (by simp [hD2]) (by decide) ?_
  · rw [List.length_append, zi, zd, eo3]; omega
  intro h2 p2
  have p2' := p2.blk
  refine And.intro (OL.mk (rest := (List.replicate 1 ([.string ⟨#[]⟩, .string ⟨#[]⟩] : List Value)).flatten ++ rest) finl (by rw [← finl]; exact hfit) ?_ ?_) (And.intro (p1.trans p2).chg (fun _ h => h))
  · rw [← fin]; exact p2'
  · rw [← fin]
    rw [hsp] at hbl
    simp only [List.length_append] at hbl ⊢
    simp only [zi, zd, xl] at hbl ⊢
    simp
    omega

theorem ovR_ext {h : Heap} {vb b o o' n c n' c' : Nat} {l l' : List Value} (hv : Blk h vb l) (hb : Blk h b l') (hl : l' ≠ []) (hne : vb ≠ b) :
    ExtH Tryz.prog 102 [.slice (some ⟨vb, o, none⟩) n c, .slice (some ⟨b, o', none⟩) n' c'] h fun v h' => v = .bool false ∧ h' = h :=
  ov_ext (P := Tryz.prog) (tS := 38) (tR := 4) (e := 68) (size := 2) Tryz.func102 (by kernel_rfl) (by kernel_rfl) (by kernel_rfl) (by kernel_rfl) Tryz.underlying38 (by kernel_rfl) hv hb hl hne

set_option maxHeartbeats 1000000 in
/-- slices.Insert of one item. -/
theorem insR_calls {h : Heap} {v : Value} {l : List Rank} {vb i : Nat} {x : Rank} (ho : OL encR 2 h v l) (hl : l.length ≤ 80000) (hi : i ≤ l.length) (hx : Blk h vb (encR x)) (hne : vb ∉ vblk v) :
    CallsH Tryz.prog 80 [v, .int .i64 i, .slice (some ⟨vb, 0, none⟩) 1 1] h
      (Ret fun r h' => OL encR 2 h' r (l.take i ++ x :: l.drop i) ∧ Chg (vblk v) h h' ∧ ∀ b ∈ vblk r, b ∈ vblk v ∨ h.size ≤ b) := by
  obtain ⟨a, c, rfl, hlc⟩ := ho.form
  have hne : vb ∉ ablk a := hne
  refine f80_calls (by simp) ?_
  refine SL.slc (lo := i) (hi := l.length) encR_len ho.sl hi (Nat.le_refl _) ?_
  intro a0 _ _
  refine And.intro rfl (And.intro (fun e => absurd e (by decide)) (fun _ => ?_))
  refine And.intro rfl (And.intro (fun e => ?_) (fun hin => ?_))
  · have e : i = l.length := by omega
    subst e
    refine app_own encR_len encR_one rfl ho (SL.one encR_len hx) (by simp; omega) ?_
    intro v' h' ho' hc hb
    rw [List.take_length, List.drop_length]
    exact And.intro ho' (And.intro hc hb)
  have hin : i < l.length := by omega
  refine And.intro rfl (fun z hz => ?_)
  have hz := add_in hz (by omega) (by omega)
  subst hz
  obtain ⟨_, hopen⟩ := ho.open
  rcases hopen with ⟨_, e, _⟩ | ⟨b, rfl, _, rest, B, hbl⟩
  · rw [e] at hin; exact absurd hin (by simp)
  have eN : ((l.length : Int) + 1) = ((l.length + 1 : Nat) : Int) := by omega
  have eI : ((i : Int) + 1) = ((i + 1 : Nat) : Int) := by omega
  have zi := take_len encR_len l i hi
  have zd := drop_len encR_len l i
  have hsp := split_at (enc := encR) l i
  have xl := encR_len x
  have fin : (l.take i).flatMap encR ++ (encR x ++ (l.drop i).flatMap encR) = (l.take i ++ x :: l.drop i).flatMap encR := by simp
  have finl : l.length + 1 = (l.take i ++ x :: l.drop i).length := by simp; omega
  refine And.intro rfl (And.intro (fun hfull => ?_) (fun hroom => ?_))
  · have hfull : c < l.length + 1 := by omega
    have s0 : SL encR h (.slice (some ⟨b, 0, none⟩) l.length c) l := ho.sl
    refine SL.slc (lo := 0) (hi := i) encR_len s0 (Nat.zero_le _) hi ?_
    intro a1 _ hs1
    simp only [Nat.sub_zero, List.drop_zero] at hs1 ⊢
    refine And.intro rfl (fun z hz => ?_)
    have hz := add_in hz (by omega) (by omega)
    subst hz
    refine And.intro rfl (fun z hz => ?_)
    have hz := sub_in hz (by omega) (by omega)
    have hz : z = ((l.length + 1 - i : Nat) : Int) := by omega
    subst hz
    have src1 := hs1.src
    refine And.intro (by omega) (And.intro (by omega) (Exists.intro ((l.take i).flatMap encR) (And.intro zi (And.intro ?_ (And.intro (by omega) (And.intro (by omega) ?_))))))
    · exact src1
    intro c3 b3 h1 hc3 g1
    rw [Int.toNat_natCast] at hc3 g1 ⊢
    have hc3 : l.length + 1 ≤ c3 := by omega
    have e3 : i + (l.length + 1 - i) = l.length + 1 := by omega
    rw [e3] at g1 ⊢
    obtain ⟨Z, hZ⟩ : ∃ Z : List Value, Z = (List.replicate (c3 - (l.length + 1)) ([.string ⟨#[]⟩, .int .i64 0] : List Value)).flatten := ⟨_, rfl⟩
    have hZl : Z.length = (c3 - (l.length + 1)) * 2 := by rw [hZ]; simp
    have q0 : (List.replicate (l.length + 1 - i) ([.string ⟨#[]⟩, .int .i64 0] : List Value)).flatten = ([.string ⟨#[]⟩, .int .i64 0] : List Value) ++ (List.replicate (l.length - i) ([.string ⟨#[]⟩, .int .i64 0] : List Value)).flatten := by
      rw [show l.length + 1 - i = (l.length - i) + 1 by omega, List.replicate_succ, List.flatten_cons]
    have B1 : Blk h1 b3 ((l.take i).flatMap encR ++ (([.string ⟨#[]⟩, .int .i64 0] : List Value) ++ ((List.replicate (l.length - i) ([.string ⟨#[]⟩, .int .i64 0] : List Value)).flatten ++ Z))) := by
      have := g1.blk
      rw [q0, ← hZ] at this
      simpa using this
    have i3 := g1.id
    have lx := hx.lt
    have lb := B.lt
    -- the item
    refine And.intro (by omega) (And.intro (by omega) (And.intro (by omega) ?_))
    intro o3 ho3 _
    have ho3 := ho3 (by omega)
    have t1 : (((l.length + 1 : Nat) : Int) - (i : Int)).toNat = l.length + 1 - i := by omega
    rw [t1]
    have ez : o3 = ((l.take i).flatMap encR).length := by rw [zi]; omega
    have m1 : min 1 (l.length + 1 - i) = 1 := by omega
    refine Exists.intro (encR x) (And.intro (by rw [m1, xl]) (And.intro ?_ ?_))
    · rw [m1]; exact src_of [] (encR x) [] (by simpa using hx.chg g1.chg (by simp)) rfl
    refine wr_at _ ([.string ⟨#[]⟩, .int .i64 0] : List Value) _ B1 ez (by rw [xl]; rfl) (encR_one x) ?_
    intro h2 p2
    have B2 := p2.blk
    have g2 := g1.put p2
    -- what stands behind
    refine And.intro rfl (fun z hz => ?_)
    have hz := add_in hz (by omega) (by omega)
    have hz : z = ((i + 1 : Nat) : Int) := by omega
    subst hz
    refine And.intro (by omega) (And.intro (by omega) (And.intro (by omega) ?_))
    intro o4 ho4 _
    have ho4 := ho4 (by omega)
    have s2 : SL encR h2 (.slice (some ⟨b, 0, none⟩) l.length c) l := s0.ext g2.chg
    refine SL.slc (lo := i) (hi := l.length) encR_len s2 hi (Nat.le_refl _) ?_
    intro a5 _ hs5
    have e5 : (l.drop i).take (l.length - i) = l.drop i := by rw [List.take_of_length_le]; simp
    rw [e5] at hs5
    have src5 := hs5.src
    have t2 : (((l.length + 1 : Nat) : Int) - ((i + 1 : Nat) : Int)).toNat = l.length - i := by omega
    rw [t2]
    have m2 : min (l.length - i) (l.length - i) = l.length - i := by omega
    refine Exists.intro ((l.drop i).flatMap encR) (And.intro (by rw [m2, zd]) (And.intro (by rw [m2]; exact src5) ?_))
    refine wr_at ((l.take i).flatMap encR ++ encR x) ((List.replicate (l.length - i) ([.string ⟨#[]⟩, .int .i64 0] : List Value)).flatten) Z (by rw [List.append_assoc]; exact B2) ?_ ?_ (enc_ones encR_one _) ?_
    · rw [List.length_append, zi, xl]; omega
    · rw [zd]; simp
    intro h3 p3
    have g3 := g2.put p3
    refine And.intro (OL.mk (rest := Z) finl (by rw [← finl]; omega) ?_ ?_) (And.intro (g3.chg.mono (by simp)) (fun b' hb' => .inr (by have : b' = b3 := List.mem_singleton.1 hb'; omega)))
    · have := g3.blk
      rw [← fin]
      simpa using this
    · rw [← fin]
      simp only [List.length_append, zi, zd, xl, hZl]
      omega
  · have hroom : l.length + 1 ≤ c := by omega
    have hne' : vb ≠ b := fun e => hne (by simp [ablk, e])
    -- there is room
    obtain ⟨R1, R2, hR, hR1⟩ : ∃ R1 R2, rest = R1 ++ R2 ∧ R1.length = 2 := by
      refine ⟨rest.take 2, rest.drop 2, (List.take_append_drop _ _).symm, ?_⟩
      rw [List.length_append, flatMap_len encR_len] at hbl
      rw [List.length_take]
      omega
    subst hR
    refine And.intro rfl (fun z hz => ?_)
    have hz := add_in hz (by omega) (by omega)
    have hz : z = ((l.length + 1 : Nat) : Int) := by omega
    subst hz
    refine And.intro (by omega) (And.intro (by omega) (And.intro (by omega) ?_))
    intro o1 hA hB
    have eo1 : o1 = 0 := by
      have := hA (by omega)
      simpa using this
    subst eo1
    have t0 : (((l.length + 1 : Nat) : Int) - ((0 : Nat) : Int)).toNat = l.length + 1 := by omega
    have t00 : ((c : Int) - ((0 : Nat) : Int)).toNat = c := by omega
    rw [t0, t00]
    refine And.intro rfl (fun z hz => ?_)
    have hz := add_in hz (by omega) (by omega)
    have hz : z = ((i + 1 : Nat) : Int) := by omega
    subst hz
    refine And.intro (by omega) (And.intro (by omega) (And.intro (by omega) ?_))
    intro o2 _ _
    have hnil : l.flatMap encR ++ (R1 ++ R2) ≠ [] := by
      intro e
      have := congrArg List.length e
      rw [List.length_append, List.length_append, hR1] at this
      simp at this
    refine ?_
    have ext := ovR_ext (o := 0) (o' := o2) (n := 1) (c := 1) (n' := (((l.length + 1 : Nat) : Int) - ((i + 1 : Nat) : Int)).toNat) (c' := ((c : Int) - ((i + 1 : Nat) : Int)).toNat) hx B hnil hne'
    refine fun w hw => ?_
    obtain ⟨u, w', hr, ⟨rfl, hh⟩, hrest⟩ := ext w hw
    refine ⟨_, w', hr, ?_, hrest⟩
    rw [hh]
    clear ext hr hh hrest w' w hw
    refine And.intro rfl (fun z hz => ?_)
    have hz := add_in hz (by omega) (by omega)
    have hz : z = ((i + 1 : Nat) : Int) := by omega
    subst hz
    refine And.intro (by omega) (And.intro (by omega) (And.intro (by omega) ?_))
    intro o3 ho3 ho3'
    have eo3 : o3 = (i + 1) * 2 := by
      have := ho3 (by omega)
      omega
    refine And.intro (by omega) (And.intro (by omega) (And.intro (by omega) ?_))
    intro o4 ho4 _
    have eo4 : o4 = i * 2 := by
      have := ho4 (by omega)
      omega
    have t1 : (((l.length + 1 : Nat) : Int) - ((i + 1 : Nat) : Int)).toNat = l.length - i := by omega
    have t2 : (((l.length + 1 : Nat) : Int) - (i : Int)).toNat = l.length + 1 - i := by omega
    rw [t1, t2]
    have m2 : min (l.length + 1 - i) (l.length - i) = l.length - i := by omega
    have B0 : Blk h b ((l.take i).flatMap encR ++ ((l.drop i).flatMap encR ++ (R1 ++ R2))) := by
      rw [hsp, List.append_assoc] at B; exact B
    -- the part behind, cut anew
    obtain ⟨D1, D2, hD, hD1⟩ : ∃ D1 D2, (l.drop i).flatMap encR ++ R1 = D1 ++ D2 ∧ D1.length = 2 := by
      refine ⟨((l.drop i).flatMap encR ++ R1).take 2, ((l.drop i).flatMap encR ++ R1).drop 2, (List.take_append_drop _ _).symm, ?_⟩
      rw [List.length_take, List.length_append, hR1]; omega
    have hD2 : D2.length = (l.length - i) * 2 := by
      have := congrArg List.length hD
      rw [List.length_append, List.length_append, zd, hR1, hD1] at this
      omega
    refine Exists.intro ((l.drop i).flatMap encR) (And.intro (by rw [m2, zd]) (And.intro (by rw [m2]; exact src_of _ _ _ B0 (by rw [zi]; exact eo4)) ?_))
    refine wr_at ((l.take i).flatMap encR ++ D1) D2 R2 ?_ ?_ ?_ (enc_ones encR_one _) ?_
    · rw [List.append_assoc, ← List.append_assoc D1, ← hD, List.append_assoc]; exact B0
    · rw [List.length_append, zi, hD1, eo3]; omega
    · rw [zd, hD2]
    intro h1 p1
    have B1 : Blk h1 b ((l.take i).flatMap encR ++ (D1 ++ ((l.drop i).flatMap encR ++ R2))) := by
      have := p1.blk
      rw [List.append_assoc] at this; exact this
    have hx1 := hx.chg p1.chg (by simpa using hne')
    refine And.intro (by omega) (And.intro (by omega) (And.intro (by omega) ?_))
    intro o5 ho5 _
    have eo5 : o5 = i * 2 := by
      have := ho5 (by omega)
      omega
    rw [t2]
    have m1 : min 1 (l.length + 1 - i) = 1 := by omega
    refine Exists.intro (encR x) (And.intro (by rw [m1, xl]) (And.intro ?_ ?_))
    · rw [m1]; exact src_of [] (encR x) [] (by simpa using hx1) rfl
    refine wr_at _ D1 _ B1 (by rw [zi]; exact eo5) (by rw [xl, hD1]) (encR_one x) ?_
    intro h2 p2
    refine And.intro (OL.mk (rest := R2) finl (by rw [← finl]; exact hroom) ?_ ?_) (And.intro (p1.trans p2).chg (fun _ h => .inl h))
    · have := p2.blk
      rw [← fin]
      simpa using this
    · rw [← fin]
      rw [hsp] at hbl
      simp only [List.length_append, zi, zd, xl, hR1] at hbl ⊢
      omega

set_option maxHeartbeats 1000000 in
/-- slices.Delete of one item. -/
theorem delR_calls {h : Heap} {v : Value} {l : List Rank} {i : Nat} (ho : OL encR 2 h v l) (hl : l.length ≤ 80000) (hi : i < l.length) :
    CallsH Tryz.prog 83 [v, .int .i64 i, .int .i64 (i + 1 : Nat)] h
      (Ret fun r h' => OL encR 2 h' r (l.take i ++ l.drop (i + 1)) ∧ Chg (vblk v) h h' ∧ ∀ b ∈ vblk r, b ∈ vblk v) := by
  obtain ⟨a, c, rfl, hlc⟩ := ho.form
  refine f83_calls (by simp) ?_
  obtain ⟨_, hopen⟩ := ho.open
  rcases hopen with ⟨_, e, _⟩ | ⟨b, rfl, _, rest, B, hbl⟩
  · rw [e] at hi; exact absurd hi (by simp)
  refine And.intro (by omega) (And.intro (by omega) (And.intro (by omega) (And.intro (by omega) ?_)))
  intro o0 _ _
  refine And.intro rfl (And.intro (fun e => absurd e (by omega)) (fun _ => ?_))
  have zi := take_len encR_len l i (by omega)
  have zd := drop_len encR_len l (i + 1)
  have hcons : l.drop i = l[i] :: l.drop (i + 1) := List.drop_eq_getElem_cons hi
  have hsp := split_at (enc := encR) l i
  rw [hcons, List.flatMap_cons] at hsp
  have xl := encR_len l[i]
  have B0 : Blk h b ((l.take i).flatMap encR ++ (encR l[i] ++ ((l.drop (i + 1)).flatMap encR ++ rest))) := by
    rw [hsp] at B; simpa using B
  -- s[:i]
  refine And.intro (by omega) (And.intro (by omega) (And.intro (by omega) ?_))
  intro o1 ho1 ho1'
  have eo1 : o1 = 0 := by
    have := ho1 (by omega)
    simpa using this
  subst eo1
  refine And.intro (by omega) (And.intro (by omega) (And.intro (by omega) ?_))
  intro o2 ho2 ho2'
  have t1 : ((i : Int) - ((0 : Nat) : Int)).toNat = i := by omega
  have t2 : ((c : Int) - ((0 : Nat) : Int)).toNat = c := by omega
  have t3 : ((l.length : Int) - ((i + 1 : Nat) : Int)).toNat = l.length - (i + 1) := by omega
  rw [t1, t2, t3]
  have hfit : i + (l.length - (i + 1)) ≤ c := by omega
  -- the end of the part behind, cut anew
  obtain ⟨D1, D2, hD, hD1, hD2⟩ : ∃ D1 D2, encR l[i] ++ (l.drop (i + 1)).flatMap encR = D1 ++ D2 ∧ D1.length = (l.length - (i + 1)) * 2 ∧ D2.length = 2 := by
    refine ⟨(encR l[i] ++ (l.drop (i + 1)).flatMap encR).take ((l.length - (i + 1)) * 2), (encR l[i] ++ (l.drop (i + 1)).flatMap encR).drop ((l.length - (i + 1)) * 2), (List.take_append_drop _ _).symm, ?_, ?_⟩
    · rw [List.length_take, List.length_append, xl, zd]; omega
    · rw [List.length_drop, List.length_append, xl, zd]; omega
  have fin : (l.take i).flatMap encR ++ (l.drop (i + 1)).flatMap encR = (l.take i ++ l.drop (i + 1)).flatMap encR := by simp
  have finl : i + (l.length - (i + 1)) = (l.take i ++ l.drop (i + 1)).length := by simp; omega
  have hY : Src h (some ⟨b, o2, none⟩) (l.length - (i + 1)) ((l.drop (i + 1)).flatMap encR) := by
    by_cases hlt : i + 1 < c
    · have := ho2 (by omega)
      refine src_of ((l.take i).flatMap encR ++ encR l[i]) _ rest (by simpa using B0) ?_
      rw [List.length_append, zi, xl]; omega
    · have : l.drop (i + 1) = [] := by apply List.drop_eq_nil_of_le; omega
      rw [this]
      intro j u hj
      simp at hj
  refine ⟨(l.take i).flatMap encR, (l.drop (i + 1)).flatMap encR, zi, zd, src_of [] _ _ B0 rfl, hY, enc_ones encR_one _, fun _ => ?_, fun hlt => absurd hlt (by omega)⟩
  have bl : ((l.take i).flatMap encR ++ (D1 ++ (D2 ++ rest))).length = c * 2 := by
    rw [hsp] at hbl
    have := congrArg List.length hD
    simp only [List.length_append] at hbl this ⊢
    omega
  refine ⟨(l.take i).flatMap encR ++ (D1 ++ (D2 ++ rest)), ?_, ?_, ?_⟩
  · rw [← List.append_assoc D1, ← hD, List.append_assoc]; exact B0
  · rw [bl]
    have : (i + (l.length - (i + 1))) * 2 ≤ c * 2 := Nat.mul_le_mul_right _ hfit
    omega
  intro h1 p1
  have e1 : splice ((l.take i).flatMap encR ++ (D1 ++ (D2 ++ rest))) (0 + i * 2) ((l.drop (i + 1)).flatMap encR) = (l.take i).flatMap encR ++ ((l.drop (i + 1)).flatMap encR ++ (D2 ++ rest)) := by
    rw [Nat.zero_add, ← zi]
    exact splice_at _ _ _ _ (by rw [zd, hD1])
  rw [e1] at p1
  -- clear
  refine And.intro (by omega) (And.intro (by omega) (And.intro (by omega) ?_))
  intro o3 ho3 ho3'
  have t4 : ((l.length : Int) - ((i + (l.length - (i + 1)) : Nat) : Int)).toNat = 1 := by omega
  rw [t4]
  have eo3 : o3 = (l.length - 1) * 2 := by
    have := ho3 (by omega)
    omega
  refine wr_at ((l.take i).flatMap encR ++ (l.drop (i + 1)).flatMap encR) D2 rest (by simpa using p1.blk) ?_ (by simp [hD2]) (by decide) ?_
  · rw [List.length_append, zi, zd, eo3]; omega
  intro h2 p2
  have p2' := p2.blk
  refine And.intro (OL.mk (rest := (List.replicate 1 ([.string ⟨#[]⟩, .int .i64 0] : List Value)).flatten ++ rest) finl (by rw [← finl]; exact hfit) ?_ ?_) (And.intro (p1.trans p2).chg (fun _ h => h))
  · rw [← fin]; exact p2'
  · rw [← fin]
    rw [hsp] at hbl
    simp only [List.length_append] at hbl ⊢
    simp only [zi, zd, xl] at hbl ⊢
    simp
    omega

end Go.Proofs.YtigolfakcblnjaaGreat
