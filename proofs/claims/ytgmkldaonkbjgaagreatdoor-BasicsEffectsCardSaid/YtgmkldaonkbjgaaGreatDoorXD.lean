/-
  Layer 7: items put into slices, taken out of them (printed by genins.py).
  Layer 7: where an item stands, or must stand (printed by genbs.py).
  Layer 7: lists of things under keys, plain.
  Layer 7: the reference's Find, Put, Get, Names.
  Layer 7: a keyspace as it lies; plain laws of the reference's Of.
  Layer 7: a keyspace of things (keys.Of).
  DERIVED. MADE BY PROGRAM (lay-iter.mjs) off ytgmkldaonkbjgaagreatdoor.cut.gsa: THE SHELF's CONTRACTS ON 'slices.Sorted(maps.Keys(m))' LAID AT THIS DUMP: 1 map type. NO WALK OF THE LIBRARY's TEXT: each is one application of a contract over any P and ρ (Derived/Shelf/SlIter/, Derived/Shelf/SortM/).
  Layer 7: the sorted keys of a keyspace's map (over the shelf's contracts).
  Layer 7: All: what it goes over, by rising keys.
  Layer 7: has a keyspace just these things (taborlaw07.same).
  Layer 7: vast, sorted; the reference's Of and Names.
  Layer 7: taborlaw07.KeysAll.
  Layer 7: what an effect makes of a thing: plain laws.
  Layer 7: what the effects' rules do to a thing (printed by gendo.py).
  Layer 7: a keyspace behind an effect: plain laws.
-/
import Derived.Shelf.SlIter.Nil
import Derived.Shelf.SortM.Plain
import Derived.Shelf.SortM.SortNone
import Derived.Ground.GgzProg
import Derived.Ground.SlgmProg
import Derived.Test.YtgmkldaonkbjgaaGreatDoorProg
import Derived.Test.YtgmkldaonkbjgaaGreatDoorXC
namespace Go.Proofs.YtgmkldaonkbjgaaGreatDoor
open Go Go.Sx Go.Proofs.YtgmkldaonkbjgaaGreatDoor.C

theorem ovS_ext {h : Heap} {vb b o o' n c n' c' : Nat} {l l' : List Value} (hv : Blk h vb l) (hb : Blk h b l') (hl : l' ≠ []) (hne : vb ≠ b) :
    ExtH Tryz.prog 157 [.slice (some ⟨vb, o, none⟩) n c, .slice (some ⟨b, o', none⟩) n' c'] h fun v h' => v = .bool false ∧ h' = h :=
  ov_ext (P := Tryz.prog) (tS := 24) (tR := 4) (e := 9) (size := 1) Tryz.func157 (by kernel_rfl) (by kernel_rfl) (by kernel_rfl) (by kernel_rfl) Tryz.underlying24 (by kernel_rfl) hv hb hl hne

set_option maxHeartbeats 1000000 in
/-- slices.Insert of one item. -/
theorem insS_calls {h : Heap} {v : Value} {l : List ByteArray} {vb i : Nat} {x : ByteArray} (ho : OL encS 1 h v l) (hl : l.length ≤ 80000) (hi : i ≤ l.length) (hx : Blk h vb (encS x)) (hne : vb ∉ vblk v) :
    CallsH Tryz.prog 124 [v, .int .i64 i, .slice (some ⟨vb, 0, none⟩) 1 1] h
      (Ret fun r h' => OL encS 1 h' r (l.take i ++ x :: l.drop i) ∧ Chg (vblk v) h h' ∧ ∀ b ∈ vblk r, b ∈ vblk v ∨ h.size ≤ b) := by
  obtain ⟨a, c, rfl, hlc⟩ := ho.form
  have hne : vb ∉ ablk a := hne
  refine f124_calls (by simp) ?_
  refine SL.slc (lo := i) (hi := l.length) encS_len ho.sl hi (Nat.le_refl _) ?_
  intro a0 _ _
  refine And.intro rfl (And.intro (fun e => absurd e (by decide)) (fun _ => ?_))
  refine And.intro rfl (And.intro (fun e => ?_) (fun hin => ?_))
  · have e : i = l.length := by omega
    subst e
    refine app_own encS_len encS_one rfl ho (SL.one encS_len hx) (by simp; omega) ?_
    intro v' h' ho' hc hb
    rw [List.take_length, List.drop_length]
    exact And.intro ho' (And.intro hc hb)
  have hin : i < l.length := by omega
  refine And.intro rfl (fun z hz => ?_)
  have hz := add_in hz (by omega) (by omega)
  subst hz
  obtain ⟨_, hopen⟩ := ho.open
  rcases hopen with ⟨_, e, _⟩ | ⟨b, rfl, _, rest, B, hbl⟩
  · rw [e] at hin; exact absurd hin (by simp)
  have eN : ((l.length : Int) + 1) = ((l.length + 1 : Nat) : Int) := by omega
  have eI : ((i : Int) + 1) = ((i + 1 : Nat) : Int) := by omega
  have zi := take_len encS_len l i hi
  have zd := drop_len encS_len l i
  have hsp := split_at (enc := encS) l i
  have xl := encS_len x
  have fin : (l.take i).flatMap encS ++ (encS x ++ (l.drop i).flatMap encS) = (l.take i ++ x :: l.drop i).flatMap encS := by simp
  have finl : l.length + 1 = (l.take i ++ x :: l.drop i).length := by simp; omega
  refine And.intro rfl (And.intro (fun hfull => ?_) (fun hroom => ?_))
  · have hfull : c < l.length + 1 := by omega
    have s0 : SL encS h (.slice (some ⟨b, 0, none⟩) l.length c) l := ho.sl
    refine SL.slc (lo := 0) (hi := i) encS_len s0 (Nat.zero_le _) hi ?_
    intro a1 _ hs1
    simp only [Nat.sub_zero, List.drop_zero] at hs1 ⊢
    refine And.intro rfl (fun z hz => ?_)
    have hz := add_in hz (by omega) (by omega)
    subst hz
    refine And.intro rfl (fun z hz => ?_)
    have hz := sub_in hz (by omega) (by omega)
    have hz : z = ((l.length + 1 - i : Nat) : Int) := by omega
    subst hz
    have src1 := hs1.src
    refine And.intro (by omega) (And.intro (by omega) (Exists.intro ((l.take i).flatMap encS) (And.intro zi (And.intro ?_ (And.intro (by omega) (And.intro (by omega) ?_))))))
    · exact src1
    intro c3 b3 h1 hc3 g1
    rw [Int.toNat_natCast] at hc3 g1 ⊢
    have hc3 : l.length + 1 ≤ c3 := by omega
    have e3 : i + (l.length + 1 - i) = l.length + 1 := by omega
    rw [e3] at g1 ⊢
    obtain ⟨Z, hZ⟩ : ∃ Z : List Value, Z = (List.replicate (c3 - (l.length + 1)) ([.string ⟨#[]⟩] : List Value)).flatten := ⟨_, rfl⟩
    have hZl : Z.length = (c3 - (l.length + 1)) * 1 := by rw [hZ]; simp
    have q0 : (List.replicate (l.length + 1 - i) ([.string ⟨#[]⟩] : List Value)).flatten = ([.string ⟨#[]⟩] : List Value) ++ (List.replicate (l.length - i) ([.string ⟨#[]⟩] : List Value)).flatten := by
      rw [show l.length + 1 - i = (l.length - i) + 1 by omega, List.replicate_succ, List.flatten_cons]
    have B1 : Blk h1 b3 ((l.take i).flatMap encS ++ (([.string ⟨#[]⟩] : List Value) ++ ((List.replicate (l.length - i) ([.string ⟨#[]⟩] : List Value)).flatten ++ Z))) := by
      have := g1.blk
      rw [q0, ← hZ] at this
      simpa using this
    have i3 := g1.id
    have lx := hx.lt
    have lb := B.lt
    -- the item
    refine And.intro (by omega) (And.intro (by omega) (And.intro (by omega) ?_))
    intro o3 ho3 _
    have ho3 := ho3 (by omega)
    have t1 : (((l.length + 1 : Nat) : Int) - (i : Int)).toNat = l.length + 1 - i := by omega
    rw [t1]
    have ez : o3 = ((l.take i).flatMap encS).length := by rw [zi]; omega
    have m1 : min 1 (l.length + 1 - i) = 1 := by omega
    refine Exists.intro (encS x) (And.intro (by rw [m1, xl]) (And.intro ?_ ?_))
    · rw [m1]; exact src_of [] (encS x) [] (by simpa using hx.chg g1.chg (by simp)) rfl
    refine wr_at _ ([.string ⟨#[]⟩] : List Value) _ B1 ez (by rw [xl]; rfl) (encS_one x) ?_
    intro h2 p2
    have B2 := p2.blk
    have g2 := g1.put p2
    -- what stands behind
    refine And.intro rfl (fun z hz => ?_)
    have hz := add_in hz (by omega) (by omega)
    have hz : z = ((i + 1 : Nat) : Int) := by omega
    subst hz
    refine And.intro (by omega) (And.intro (by omega) (And.intro (by omega) ?_))
    intro o4 ho4 _
    have ho4 := ho4 (by omega)
    have s2 : SL encS h2 (.slice (some ⟨b, 0, none⟩) l.length c) l := s0.ext g2.chg
    refine SL.slc (lo := i) (hi := l.length) encS_len s2 hi (Nat.le_refl _) ?_
    intro a5 _ hs5
    have e5 : (l.drop i).take (l.length - i) = l.drop i := by rw [List.take_of_length_le]; simp
    rw [e5] at hs5
    have src5 := hs5.src
    have t2 : (((l.length + 1 : Nat) : Int) - ((i + 1 : Nat) : Int)).toNat = l.length - i := by omega
    rw [t2]
    have m2 : min (l.length - i) (l.length - i) = l.length - i := by omega
    refine Exists.intro ((l.drop i).flatMap encS) (And.intro (by rw [m2, zd]) (And.intro (by rw [m2]; exact src5) ?_))
    refine wr_at ((l.take i).flatMap encS ++ encS x) ((List.replicate (l.length - i) ([.string ⟨#[]⟩] : List Value)).flatten) Z (by rw [List.append_assoc]; exact B2) ?_ ?_ (enc_ones encS_one _) ?_
    · rw [List.length_append, zi, xl]; omega
    · rw [zd]; simp
    intro h3 p3
    have g3 := g2.put p3
    refine And.intro (OL.mk (rest := Z) finl (by rw [← finl]; omega) ?_ ?_) (And.intro (g3.chg.mono (by simp)) (fun b' hb' => .inr (by have : b' = b3 := List.mem_singleton.1 hb'; omega)))
    · have := g3.blk
      rw [← fin]
      simpa using this
    · rw [← fin]
      simp only [List.length_append, zi, zd, xl, hZl]
      omega
  · have hroom : l.length + 1 ≤ c := by omega
    have hne' : vb ≠ b := fun e => hne (by simp [ablk, e])
    -- there is room
    obtain ⟨R1, R2, hR, hR1⟩ : ∃ R1 R2, rest = R1 ++ R2 ∧ R1.length = 1 := by
      refine ⟨rest.take 1, rest.drop 1, (List.take_append_drop _ _).symm, ?_⟩
      rw [List.length_append, flatMap_len encS_len] at hbl
      rw [List.length_take]
      omega
    subst hR
    refine And.intro rfl (fun z hz => ?_)
    have hz := add_in hz (by omega) (by omega)
    have hz : z = ((l.length + 1 : Nat) : Int) := by omega
    subst hz
    refine And.intro (by omega) (And.intro (by omega) (And.intro (by omega) ?_))
    intro o1 hA hB
    have eo1 : o1 = 0 := by
      have := hA (by omega)
      simpa using this
    subst eo1
    have t0 : (((l.length + 1 : Nat) : Int) - ((0 : Nat) : Int)).toNat = l.length + 1 := by omega
    have t00 : ((c : Int) - ((0 : Nat) : Int)).toNat = c := by omega
    rw [t0, t00]
    refine And.intro rfl (fun z hz => ?_)
    have hz := add_in hz (by omega) (by omega)
    have hz : z = ((i + 1 : Nat) : Int) := by omega
    subst hz
    refine And.intro (by omega) (And.intro (by omega) (And.intro (by omega) ?_))
    intro o2 _ _
    have hnil : l.flatMap encS ++ (R1 ++ R2) ≠ [] := by
      intro e
      have := congrArg List.length e
      rw [List.length_append, List.length_append, hR1] at this
      simp at this
    refine ?_
    have ext := ovS_ext (o := 0) (o' := o2) (n := 1) (c := 1) (n' := (((l.length + 1 : Nat) : Int) - ((i + 1 : Nat) : Int)).toNat) (c' := ((c : Int) - ((i + 1 : Nat) : Int)).toNat) hx B hnil hne'
    refine fun w hw => ?_
    obtain ⟨u, w', hr, ⟨rfl, hh⟩, hrest⟩ := ext w hw
    refine ⟨_, w', hr, ?_, hrest⟩
    rw [hh]
    clear ext hr hh hrest w' w hw
    refine And.intro rfl (fun z hz => ?_)
    have hz := add_in hz (by omega) (by omega)
    have hz : z = ((i + 1 : Nat) : Int) := by omega
    subst hz
    refine And.intro (by omega) (And.intro (by omega) (And.intro (by omega) ?_))
    intro o3 ho3 ho3'
    have eo3 : o3 = (i + 1) * 1 := by
      have := ho3 (by omega)
      omega
    refine And.intro (by omega) (And.intro (by omega) (And.intro (by omega) ?_))
    intro o4 ho4 _
    have eo4 : o4 = i * 1 := by
      have := ho4 (by omega)
      omega
    have t1 : (((l.length + 1 : Nat) : Int) - ((i + 1 : Nat) : Int)).toNat = l.length - i := by omega
    have t2 : (((l.length + 1 : Nat) : Int) - (i : Int)).toNat = l.length + 1 - i := by omega
    rw [t1, t2]
    have m2 : min (l.length + 1 - i) (l.length - i) = l.length - i := by omega
    have B0 : Blk h b ((l.take i).flatMap encS ++ ((l.drop i).flatMap encS ++ (R1 ++ R2))) := by
      rw [hsp, List.append_assoc] at B; exact B
    -- the part behind, cut anew
    obtain ⟨D1, D2, hD, hD1⟩ : ∃ D1 D2, (l.drop i).flatMap encS ++ R1 = D1 ++ D2 ∧ D1.length = 1 := by
      refine ⟨((l.drop i).flatMap encS ++ R1).take 1, ((l.drop i).flatMap encS ++ R1).drop 1, (List.take_append_drop _ _).symm, ?_⟩
      rw [List.length_take, List.length_append, hR1]; omega
    have hD2 : D2.length = (l.length - i) * 1 := by
      have := congrArg List.length hD
      rw [List.length_append, List.length_append, zd, hR1, hD1] at this
      omega
    refine Exists.intro ((l.drop i).flatMap encS) (And.intro (by rw [m2, zd]) (And.intro (by rw [m2]; exact src_of _ _ _ B0 (by rw [zi]; exact eo4)) ?_))
    refine wr_at ((l.take i).flatMap encS ++ D1) D2 R2 ?_ ?_ ?_ (enc_ones encS_one _) ?_
    · rw [List.append_assoc, ← List.append_assoc D1, ← hD, List.append_assoc]; exact B0
    · rw [List.length_append, zi, hD1, eo3]; omega
    · rw [zd, hD2]
    intro h1 p1
    have B1 : Blk h1 b ((l.take i).flatMap encS ++ (D1 ++ ((l.drop i).flatMap encS ++ R2))) := by
      have := p1.blk
      rw [List.append_assoc] at this; exact this
    have hx1 := hx.chg p1.chg (by simpa using hne')
    refine And.intro (by omega) (And.intro (by omega) (And.intro (by omega) ?_))
    intro o5 ho5 _
    have eo5 : o5 = i * 1 := by
      have := ho5 (by omega)
      omega
    rw [t2]
    have m1 : min 1 (l.length + 1 - i) = 1 := by omega
    refine Exists.intro (encS x) (And.intro (by rw [m1, xl]) (And.intro ?_ ?_))
    · rw [m1]; exact src_of [] (encS x) [] (by simpa using hx1) rfl
    refine wr_at _ D1 _ B1 (by rw [zi]; exact eo5) (by rw [xl, hD1]) (encS_one x) ?_
    intro h2 p2
    refine And.intro (OL.mk (rest := R2) finl (by rw [← finl]; exact hroom) ?_ ?_) (And.intro (p1.trans p2).chg (fun _ h => .inl h))
    · have := p2.blk
      rw [← fin]
      simpa using this
    · rw [← fin]
      rw [hsp] at hbl
      simp only [List.length_append, zi, zd, xl, hR1] at hbl ⊢
      omega

set_option maxHeartbeats 1000000 in
/-- slices.Delete of one item. -/
theorem delS_calls {h : Heap} {v : Value} {l : List ByteArray} {i : Nat} (ho : OL encS 1 h v l) (hl : l.length ≤ 80000) (hi : i < l.length) :
    CallsH Tryz.prog 161 [v, .int .i64 i, .int .i64 (i + 1 : Nat)] h
      (Ret fun r h' => OL encS 1 h' r (l.take i ++ l.drop (i + 1)) ∧ Chg (vblk v) h h' ∧ ∀ b ∈ vblk r, b ∈ vblk v) := by
  obtain ⟨a, c, rfl, hlc⟩ := ho.form
  refine f161_calls (by simp) ?_
  obtain ⟨_, hopen⟩ := ho.open
  rcases hopen with ⟨_, e, _⟩ | ⟨b, rfl, _, rest, B, hbl⟩
  · rw [e] at hi; exact absurd hi (by simp)
  refine And.intro (by omega) (And.intro (by omega) (And.intro (by omega) (And.intro (by omega) ?_)))
  intro o0 _ _
  refine And.intro rfl (And.intro (fun e => absurd e (by omega)) (fun _ => ?_))
  have zi := take_len encS_len l i (by omega)
  have zd := drop_len encS_len l (i + 1)
  have hcons : l.drop i = l[i] :: l.drop (i + 1) := List.drop_eq_getElem_cons hi
  have hsp := split_at (enc := encS) l i
  rw [hcons, List.flatMap_cons] at hsp
  have xl := encS_len l[i]
  have B0 : Blk h b ((l.take i).flatMap encS ++ (encS l[i] ++ ((l.drop (i + 1)).flatMap encS ++ rest))) := by
    rw [hsp] at B; simpa using B
  -- s[:i]
  refine And.intro (by omega) (And.intro (by omega) (And.intro (by omega) ?_))
  intro o1 ho1 ho1'
  have eo1 : o1 = 0 := by
    have := ho1 (by omega)
    simpa using this
  subst eo1
  refine And.intro (by omega) (And.intro (by omega) (And.intro (by omega) ?_))
  intro o2 ho2 ho2'
  have t1 : ((i : Int) - ((0 : Nat) : Int)).toNat = i := by omega
  have t2 : ((c : Int) - ((0 : Nat) : Int)).toNat = c := by omega
  have t3 : ((l.length : Int) - ((i + 1 : Nat) : Int)).toNat = l.length - (i + 1) := by omega
  rw [t1, t2, t3]
  have hfit : i + (l.length - (i + 1)) ≤ c := by omega
  -- the end of the part behind, cut anew
  obtain ⟨D1, D2, hD, hD1, hD2⟩ : ∃ D1 D2, encS l[i] ++ (l.drop (i + 1)).flatMap encS = D1 ++ D2 ∧ D1.length = (l.length - (i + 1)) * 1 ∧ D2.length = 1 := by
    refine ⟨(encS l[i] ++ (l.drop (i + 1)).flatMap encS).take ((l.length - (i + 1)) * 1), (encS l[i] ++ (l.drop (i + 1)).flatMap encS).drop ((l.length - (i + 1)) * 1), (List.take_append_drop _ _).symm, ?_, ?_⟩
    · rw [List.length_take, List.length_append, xl, zd]; omega
    · rw [List.length_drop, List.length_append, xl, zd]; omega
  have fin : (l.take i).flatMap encS ++ (l.drop (i + 1)).flatMap encS = (l.take i ++ l.drop (i + 1)).flatMap encS := by simp
  have finl : i + (l.length - (i + 1)) = (l.take i ++ l.drop (i + 1)).length := by simp; omega
  have hY : Src h (some ⟨b, o2, none⟩) (l.length - (i + 1)) ((l.drop (i + 1)).flatMap encS) := by
    by_cases hlt : i + 1 < c
    · have := ho2 (by omega)
      refine src_of ((l.take i).flatMap encS ++ encS l[i]) _ rest (by simpa using B0) ?_
      rw [List.length_append, zi, xl]; omega
    · have : l.drop (i + 1) = [] := by apply List.drop_eq_nil_of_le; omega
      rw [this]
      intro j u hj
      simp at hj
  refine ⟨(l.take i).flatMap encS, (l.drop (i + 1)).flatMap encS, zi, zd, src_of [] _ _ B0 rfl, hY, enc_ones encS_one _, fun _ => ?_, fun hlt => absurd hlt (by omega)⟩
  have bl : ((l.take i).flatMap encS ++ (D1 ++ (D2 ++ rest))).length = c * 1 := by
    rw [hsp] at hbl
    have := congrArg List.length hD
    simp only [List.length_append] at hbl this ⊢
    omega
  refine ⟨(l.take i).flatMap encS ++ (D1 ++ (D2 ++ rest)), ?_, ?_, ?_⟩
  · rw [← List.append_assoc D1, ← hD, List.append_assoc]; exact B0
  · rw [bl]
    have : (i + (l.length - (i + 1))) * 1 ≤ c * 1 := Nat.mul_le_mul_right _ hfit
    omega
  intro h1 p1
  have e1 : splice ((l.take i).flatMap encS ++ (D1 ++ (D2 ++ rest))) (0 + i * 1) ((l.drop (i + 1)).flatMap encS) = (l.take i).flatMap encS ++ ((l.drop (i + 1)).flatMap encS ++ (D2 ++ rest)) := by
    rw [Nat.zero_add, ← zi]
    exact splice_at _ _ _ _ (by rw [zd, hD1])
  rw [e1] at p1
  -- clear
  refine And.intro (by omega) (And.intro (by omega) (And.intro (by omega) ?_))
  intro o3 ho3 ho3'
  have t4 : ((l.length : Int) - ((i + (l.length - (i + 1)) : Nat) : Int)).toNat = 1 := by omega
  rw [t4]
  have eo3 : o3 = (l.length - 1) * 1 := by
    have := ho3 (by omega)
    omega
  refine wr_at ((l.take i).flatMap encS ++ (l.drop (i + 1)).flatMap encS) D2 rest (by simpa using p1.blk) ?_ (by simp [hD2]) (by decide) ?_
  · rw [List.length_append, zi, zd, eo3]; omega
  intro h2 p2
  have p2' := p2.blk
  refine And.intro (OL.mk (rest := (List.replicate 1 ([.string ⟨#[]⟩] : List Value)).flatten ++ rest) finl (by rw [← finl]; exact hfit) ?_ ?_) (And.intro (p1.trans p2).chg (fun _ h => h))
  · rw [← fin]; exact p2'
  · rw [← fin]
    rw [hsp] at hbl
    simp only [List.length_append] at hbl ⊢
    simp only [zi, zd, xl] at hbl ⊢
    simp
    omega

theorem ovP_ext {h : Heap} {vb b o o' n c n' c' : Nat} {l l' : List Value} (hv : Blk h vb l) (hb : Blk h b l') (hl : l' ≠ []) (hne : vb ≠ b) :
    ExtH Tryz.prog 179 [.slice (some ⟨vb, o, none⟩) n c, .slice (some ⟨b, o', none⟩) n' c'] h fun v h' => v = .bool false ∧ h' = h :=
  ov_ext (P := Tryz.prog) (tS := 23) (tR := 4) (e := 88) (size := 2) Tryz.func179 (by kernel_rfl) (by kernel_rfl) (by kernel_rfl) (by kernel_rfl) Tryz.underlying23 (by kernel_rfl) hv hb hl hne

set_option maxHeartbeats 1000000 in
/-- slices.Insert of one item. -/
theorem insP_calls {h : Heap} {v : Value} {l : List Pair} {vb i : Nat} {x : Pair} (ho : OL encP 2 h v l) (hl : l.length ≤ 80000) (hi : i ≤ l.length) (hx : Blk h vb (encP x)) (hne : vb ∉ vblk v) :
    CallsH Tryz.prog 155 [v, .int .i64 i, .slice (some ⟨vb, 0, none⟩) 1 1] h
      (Ret fun r h' => OL encP 2 h' r (l.take i ++ x :: l.drop i) ∧ Chg (vblk v) h h' ∧ ∀ b ∈ vblk r, b ∈ vblk v ∨ h.size ≤ b) := by
  obtain ⟨a, c, rfl, hlc⟩ := ho.form
  have hne : vb ∉ ablk a := hne
  refine f155_calls (by simp) ?_
  refine SL.slc (lo := i) (hi := l.length) encP_len ho.sl hi (Nat.le_refl _) ?_
  intro a0 _ _
  refine And.intro rfl (And.intro (fun e => absurd e (by decide)) (fun _ => ?_))
  refine And.intro rfl (And.intro (fun e => ?_) (fun hin => ?_))
  · have e : i = l.length := by omega
    subst e
    refine app_own encP_len encP_one rfl ho (SL.one encP_len hx) (by simp; omega) ?_
    intro v' h' ho' hc hb
    rw [List.take_length, List.drop_length]
    exact And.intro ho' (And.intro hc hb)
  have hin : i < l.length := by omega
  refine And.intro rfl (fun z hz => ?_)
  have hz := add_in hz (by omega) (by omega)
  subst hz
  obtain ⟨_, hopen⟩ := ho.open
  rcases hopen with ⟨_, e, _⟩ | ⟨b, rfl, _, rest, B, hbl⟩
  · rw [e] at hin; exact absurd hin (by simp)
  have eN : ((l.length : Int) + 1) = ((l.length + 1 : Nat) : Int) := by omega
  have eI : ((i : Int) + 1) = ((i + 1 : Nat) : Int) := by omega
  have zi := take_len encP_len l i hi
  have zd := drop_len encP_len l i
  have hsp := split_at (enc := encP) l i
  have xl := encP_len x
  have fin : (l.take i).flatMap encP ++ (encP x ++ (l.drop i).flatMap encP) = (l.take i ++ x :: l.drop i).flatMap encP := by simp
  have finl : l.length + 1 = (l.take i ++ x :: l.drop i).length := by simp; omega
  refine And.intro rfl (And.intro (fun hfull => ?_) (fun hroom => ?_))
  · have hfull : c < l.length + 1 := by omega
    have s0 : SL encP h (.slice (some ⟨b, 0, none⟩) l.length c) l := ho.sl
    refine SL.slc (lo := 0) (hi := i) encP_len s0 (Nat.zero_le _) hi ?_
    intro a1 _ hs1
    simp only [Nat.sub_zero, List.drop_zero] at hs1 ⊢
    refine And.intro rfl (fun z hz => ?_)
    have hz := add_in hz (by omega) (by omega)
    subst hz
    refine And.intro rfl (fun z hz => ?_)
    have hz := sub_in hz (by omega) (by omega)
    have hz : z = ((l.length + 1 - i : Nat) : Int) := by omega
    subst hz
    have src1 := hs1.src
    refine And.intro (by omega) (And.intro (by omega) (Exists.intro ((l.take i).flatMap encP) (And.intro zi (And.intro ?_ (And.intro (by omega) (And.intro (by omega) ?_))))))
    · exact src1
    intro c3 b3 h1 hc3 g1
    rw [Int.toNat_natCast] at hc3 g1 ⊢
    have hc3 : l.length + 1 ≤ c3 := by omega
    have e3 : i + (l.length + 1 - i) = l.length + 1 := by omega
    rw [e3] at g1 ⊢
    obtain ⟨Z, hZ⟩ : ∃ Z : List Value, Z = (List.replicate (c3 - (l.length + 1)) ([.string ⟨#[]⟩, .string ⟨#[]⟩] : List Value)).flatten := ⟨_, rfl⟩
    have hZl : Z.length = (c3 - (l.length + 1)) * 2 := by rw [hZ]; simp
    have q0 : (List.replicate (l.length + 1 - i) ([.string ⟨#[]⟩, .string ⟨#[]⟩] : List Value)).flatten = ([.string ⟨#[]⟩, .string ⟨#[]⟩] : List Value) ++ (List.replicate (l.length - i) ([.string ⟨#[]⟩, .string ⟨#[]⟩] : List Value)).flatten := by
      rw [show l.length + 1 - i = (l.length - i) + 1 by omega, List.replicate_succ, List.flatten_cons]
    have B1 : Blk h1 b3 ((l.take i).flatMap encP ++ (([.string ⟨#[]⟩, .string ⟨#[]⟩] : List Value) ++ ((List.replicate (l.length - i) ([.string ⟨#[]⟩, .string ⟨#[]⟩] : List Value)).flatten ++ Z))) := by
      have := g1.blk
      rw [q0, ← hZ] at this
      simpa using this
    have i3 := g1.id
    have lx := hx.lt
    have lb := B.lt
    -- the item
    refine And.intro (by omega) (And.intro (by omega) (And.intro (by omega) ?_))
    intro o3 ho3 _
    have ho3 := ho3 (by omega)
    have t1 : (((l.length + 1 : Nat) : Int) - (i : Int)).toNat = l.length + 1 - i := by omega
    rw [t1]
    have ez : o3 = ((l.take i).flatMap encP).length := by rw [zi]; omega
    have m1 : min 1 (l.length + 1 - i) = 1 := by omega
    refine Exists.intro (encP x) (And.intro (by rw [m1, xl]) (And.intro ?_ ?_))
    · rw [m1]; exact src_of [] (encP x) [] (by simpa using hx.chg g1.chg (by simp)) rfl
    refine wr_at _ ([.string ⟨#[]⟩, .string ⟨#[]⟩] : List Value) _ B1 ez (by rw [xl]; rfl) (encP_one x) ?_
    intro h2 p2
    have B2 := p2.blk
    have g2 := g1.put p2
    -- what stands behind
    refine And.intro rfl (fun z hz => ?_)
    have hz := add_in hz (by omega) (by omega)
    have hz : z = ((i + 1 : Nat) : Int) := by omega
    subst hz
    refine And.intro (by omega) (And.intro (by omega) (And.intro (by omega) ?_))
    intro o4 ho4 _
    have ho4 := ho4 (by omega)
    have s2 : SL encP h2 (.slice (some ⟨b, 0, none⟩) l.length c) l := s0.ext g2.chg
    refine SL.slc (lo := i) (hi := l.length) encP_len s2 hi (Nat.le_refl _) ?_
    intro a5 _ hs5
    have e5 : (l.drop i).take (l.length - i) = l.drop i := by rw [List.take_of_length_le]; simp
    rw [e5] at hs5
    have src5 := hs5.src
    have t2 : (((l.length + 1 : Nat) : Int) - ((i + 1 : Nat) : Int)).toNat = l.length - i := by omega
    rw [t2]
    have m2 : min (l.length - i) (l.length - i) = l.length - i := by omega
    refine Exists.intro ((l.drop i).flatMap encP) (And.intro (by rw [m2, zd]) (And.intro (by rw [m2]; exact src5) ?_))
    refine wr_at ((l.take i).flatMap encP ++ encP x) ((List.replicate (l.length - i) ([.string ⟨#[]⟩, .string ⟨#[]⟩] : List Value)).flatten) Z (by rw [List.append_assoc]; exact B2) ?_ ?_ (enc_ones encP_one _) ?_
    · rw [List.length_append, zi, xl]; omega
    · rw [zd]; simp
    intro h3 p3
    have g3 := g2.put p3
    refine And.intro (OL.mk (rest := Z) finl (by rw [← finl]; omega) ?_ ?_) (And.intro (g3.chg.mono (by simp)) (fun b' hb' => .inr (by have : b' = b3 := List.mem_singleton.1 hb'; omega)))
    · have := g3.blk
      rw [← fin]
      simpa using this
    · rw [← fin]
      simp only [List.length_append, zi, zd, xl, hZl]
      omega
  · have hroom : l.length + 1 ≤ c := by omega
    have hne' : vb ≠ b := fun e => hne (by simp [ablk, e])
    -- there is room
    obtain ⟨R1, R2, hR, hR1⟩ : ∃ R1 R2, rest = R1 ++ R2 ∧ R1.length = 2 := by
      refine ⟨rest.take 2, rest.drop 2, (List.take_append_drop _ _).symm, ?_⟩
      rw [List.length_append, flatMap_len encP_len] at hbl
      rw [List.length_take]
      omega
    subst hR
    refine And.intro rfl (fun z hz => ?_)
    have hz := add_in hz (by omega) (by omega)
    have hz : z = ((l.length + 1 : Nat) : Int) := by omega
    subst hz
    refine And.intro (by omega) (And.intro (by omega) (And.intro (by omega) ?_))
    intro o1 hA hB
    have eo1 : o1 = 0 := by
      have := hA (by omega)
      simpa using this
    subst eo1
    have t0 : (((l.length + 1 : Nat) : Int) - ((0 : Nat) : Int)).toNat = l.length + 1 := by omega
    have t00 : ((c : Int) - ((0 : Nat) : Int)).toNat = c := by omega
    rw [t0, t00]
    refine And.intro rfl (fun z hz => ?_)
    have hz := add_in hz (by omega) (by omega)
    have hz : z = ((i + 1 : Nat) : Int) := by omega
    subst hz
    refine And.intro (by omega) (And.intro (by omega) (And.intro (by omega) ?_))
    intro o2 _ _
    have hnil : l.flatMap encP ++ (R1 ++ R2) ≠ [] := by
      intro e
      have := congrArg List.length e
      rw [List.length_append, List.length_append, hR1] at this
      simp at this
    refine ?_
    have ext := ovP_ext (o := 0) (o' := o2) (n := 1) (c := 1) (n' := (((l.length + 1 : Nat) : Int) - ((i + 1 : Nat) : Int)).toNat) (c' := ((c : Int) - ((i + 1 : Nat) : Int)).toNat) hx B hnil hne'
    refine fun w hw => ?_
    obtain ⟨u, w', hr, ⟨rfl, hh⟩, hrest⟩ := ext w hw
    refine ⟨_, w', hr, ?_, hrest⟩
    rw [hh]
    clear ext hr hh hrest w' w hw
    refine And.intro rfl (fun z hz => ?_)
    have hz := add_in hz (by omega) (by omega)
    have hz : z = ((i + 1 : Nat) : Int) := by omega
    subst hz
    refine And.intro (by omega) (And.intro (by omega) (And.intro (by omega) ?_))
    intro o3 ho3 ho3'
    have eo3 : o3 = (i + 1) * 2 := by
      have := ho3 (by omega)
      omega
    refine And.intro (by omega) (And.intro (by omega) (And.intro (by omega) ?_))
    intro o4 ho4 _
    have eo4 : o4 = i * 2 := by
      have := ho4 (by omega)
      omega
    have t1 : (((l.length + 1 : Nat) : Int) - ((i + 1 : Nat) : Int)).toNat = l.length - i := by omega
    have t2 : (((l.length + 1 : Nat) : Int) - (i : Int)).toNat = l.length + 1 - i := by omega
    rw [t1, t2]
    have m2 : min (l.length + 1 - i) (l.length - i) = l.length - i := by omega
    have B0 : Blk h b ((l.take i).flatMap encP ++ ((l.drop i).flatMap encP ++ (R1 ++ R2))) := by
      rw [hsp, List.append_assoc] at B; exact B
    -- the part behind, cut anew
    obtain ⟨D1, D2, hD, hD1⟩ : ∃ D1 D2, (l.drop i).flatMap encP ++ R1 = D1 ++ D2 ∧ D1.length = 2 := by
      refine ⟨((l.drop i).flatMap encP ++ R1).take 2, ((l.drop i).flatMap encP ++ R1).drop 2, (List.take_append_drop _ _).symm, ?_⟩
      rw [List.length_take, List.length_append, hR1]; omega
    have hD2 : D2.length = (l.length - i) * 2 := by
      have := congrArg List.length hD
      rw [List.length_append, List.length_append, zd, hR1, hD1] at this
      omega
    refine Exists.intro ((l.drop i).flatMap encP) (And.intro (by rw [m2, zd]) (And.intro (by rw [m2]; exact src_of _ _ _ B0 (by rw [zi]; exact eo4)) ?_))
    refine wr_at ((l.take i).flatMap encP ++ D1) D2 R2 ?_ ?_ ?_ (enc_ones encP_one _) ?_
    · rw [List.append_assoc, ← List.append_assoc D1, ← hD, List.append_assoc]; exact B0
    · rw [List.length_append, zi, hD1, eo3]; omega
    · rw [zd, hD2]
    intro h1 p1
    have B1 : Blk h1 b ((l.take i).flatMap encP ++ (D1 ++ ((l.drop i).flatMap encP ++ R2))) := by
      have := p1.blk
      rw [List.append_assoc] at this; exact this
    have hx1 := hx.chg p1.chg (by simpa using hne')
    refine And.intro (by omega) (And.intro (by omega) (And.intro (by omega) ?_))
    intro o5 ho5 _
    have eo5 : o5 = i * 2 := by
      have := ho5 (by omega)
      omega
    rw [t2]
    have m1 : min 1 (l.length + 1 - i) = 1 := by omega
    refine Exists.intro (encP x) (And.intro (by rw [m1, xl]) (And.intro ?_ ?_))
    · rw [m1]; exact src_of [] (encP x) [] (by simpa using hx1) rfl
    refine wr_at _ D1 _ B1 (by rw [zi]; exact eo5) (by rw [xl, hD1]) (encP_one x) ?_
    intro h2 p2
    refine And.intro (OL.mk (rest := R2) finl (by rw [← finl]; exact hroom) ?_ ?_) (And.intro (p1.trans p2).chg (fun _ h => .inl h))
    · have := p2.blk
      rw [← fin]
      simpa using this
    · rw [← fin]
      rw [hsp] at hbl
      simp only [List.length_append, zi, zd, xl, hR1] at hbl ⊢
      omega

set_option maxHeartbeats 1000000 in
/-- slices.Delete of one item. -/
theorem delP_calls {h : Heap} {v : Value} {l : List Pair} {i : Nat} (ho : OL encP 2 h v l) (hl : l.length ≤ 80000) (hi : i < l.length) :
    CallsH Tryz.prog 156 [v, .int .i64 i, .int .i64 (i + 1 : Nat)] h
      (Ret fun r h' => OL encP 2 h' r (l.take i ++ l.drop (i + 1)) ∧ Chg (vblk v) h h' ∧ ∀ b ∈ vblk r, b ∈ vblk v) := by
  obtain ⟨a, c, rfl, hlc⟩ := ho.form
  refine f156_calls (by simp) ?_
  obtain ⟨_, hopen⟩ := ho.open
  rcases hopen with ⟨_, e, _⟩ | ⟨b, rfl, _, rest, B, hbl⟩
  · rw [e] at hi; exact absurd hi (by simp)
  refine And.intro (by omega) (And.intro (by omega) (And.intro (by omega) (And.intro (by omega) ?_)))
  intro o0 _ _
  refine And.intro rfl (And.intro (fun e => absurd e (by omega)) (fun _ => ?_))
  have zi := take_len encP_len l i (by omega)
  have zd := drop_len encP_len l (i + 1)
  have hcons : l.drop i = l[i] :: l.drop (i + 1) := List.drop_eq_getElem_cons hi
  have hsp := split_at (enc := encP) l i
  rw [hcons, List.flatMap_cons] at hsp
  have xl := encP_len l[i]
  have B0 : Blk h b ((l.take i).flatMap encP ++ (encP l[i] ++ ((l.drop (i + 1)).flatMap encP ++ rest))) := by
    rw [hsp] at B; simpa using B
  -- s[:i]
  refine And.intro (by omega) (And.intro (by omega) (And.intro (by omega) ?_))
  intro o1 ho1 ho1'
  have eo1 : o1 = 0 := by
    have := ho1 (by omega)
    simpa using this
  subst eo1
  refine And.intro (by omega) (And.intro (by omega) (And.intro (by omega) ?_))
  intro o2 ho2 ho2'
  have t1 : ((i : Int) - ((0 : Nat) : Int)).toNat = i := by omega
  have t2 : ((c : Int) - ((0 : Nat) : Int)).toNat = c := by omega
  have t3 : ((l.length : Int) - ((i + 1 : Nat) : Int)).toNat = l.length - (i + 1) := by omega
  rw [t1, t2, t3]
  have hfit : i + (l.length - (i + 1)) ≤ c := by omega
  -- the end of the part behind, cut anew
  obtain ⟨D1, D2, hD, hD1, hD2⟩ : ∃ D1 D2, encP l[i] ++ (l.drop (i + 1)).flatMap encP = D1 ++ D2 ∧ D1.length = (l.length - (i + 1)) * 2 ∧ D2.length = 2 := by
    refine ⟨(encP l[i] ++ (l.drop (i + 1)).flatMap encP).take ((l.length - (i + 1)) * 2), (encP l[i] ++ (l.drop (i + 1)).flatMap encP).drop ((l.length - (i + 1)) * 2), (List.take_append_drop _ _).symm, ?_, ?_⟩
    · rw [List.length_take, List.length_append, xl, zd]; omega
    · rw [List.length_drop, List.length_append, xl, zd]; omega
  have fin : (l.take i).flatMap encP ++ (l.drop (i + 1)).flatMap encP = (l.take i ++ l.drop (i + 1)).flatMap encP := by simp
  have finl : i + (l.length - (i + 1)) = (l.take i ++ l.drop (i + 1)).length := by simp; omega
  have hY : Src h (some ⟨b, o2, none⟩) (l.length - (i + 1)) ((l.drop (i + 1)).flatMap encP) := by
    by_cases hlt : i + 1 < c
    · have := ho2 (by omega)
      refine src_of ((l.take i).flatMap encP ++ encP l[i]) _ rest (by simpa using B0) ?_
      rw [List.length_append, zi, xl]; omega
    · have : l.drop (i + 1) = [] := by apply List.drop_eq_nil_of_le; omega
      rw [this]
      intro j u hj
      simp at hj
  refine ⟨(l.take i).flatMap encP, (l.drop (i + 1)).flatMap encP, zi, zd, src_of [] _ _ B0 rfl, hY, enc_ones encP_one _, fun _ => ?_, fun hlt => absurd hlt (by omega)⟩
  have bl : ((l.take i).flatMap encP ++ (D1 ++ (D2 ++ rest))).length = c * 2 := by
    rw [hsp] at hbl
    have := congrArg List.length hD
    simp only [List.length_append] at hbl this ⊢
    omega
  refine ⟨(l.take i).flatMap encP ++ (D1 ++ (D2 ++ rest)), ?_, ?_, ?_⟩
  · rw [← List.append_assoc D1, ← hD, List.append_assoc]; exact B0
  · rw [bl]
    have : (i + (l.length - (i + 1))) * 2 ≤ c * 2 := Nat.mul_le_mul_right _ hfit
    omega
  intro h1 p1
  have e1 : splice ((l.take i).flatMap encP ++ (D1 ++ (D2 ++ rest))) (0 + i * 2) ((l.drop (i + 1)).flatMap encP) = (l.take i).flatMap encP ++ ((l.drop (i + 1)).flatMap encP ++ (D2 ++ rest)) := by
    rw [Nat.zero_add, ← zi]
    exact splice_at _ _ _ _ (by rw [zd, hD1])
  rw [e1] at p1
  -- clear
  refine And.intro (by omega) (And.intro (by omega) (And.intro (by omega) ?_))
  intro o3 ho3 ho3'
  have t4 : ((l.length : Int) - ((i + (l.length - (i + 1)) : Nat) : Int)).toNat = 1 := by omega
  rw [t4]
  have eo3 : o3 = (l.length - 1) * 2 := by
    have := ho3 (by omega)
    omega
  refine wr_at ((l.take i).flatMap encP ++ (l.drop (i + 1)).flatMap encP) D2 rest (by simpa using p1.blk) ?_ (by simp [hD2]) (by decide) ?_
  · rw [List.length_append, zi, zd, eo3]; omega
  intro h2 p2
  have p2' := p2.blk
  refine And.intro (OL.mk (rest := (List.replicate 1 ([.string ⟨#[]⟩, .string ⟨#[]⟩] : List Value)).flatten ++ rest) finl (by rw [← finl]; exact hfit) ?_ ?_) (And.intro (p1.trans p2).chg (fun _ h => h))
  · rw [← fin]; exact p2'
  · rw [← fin]
    rw [hsp] at hbl
    simp only [List.length_append] at hbl ⊢
    simp only [zi, zd, xl] at hbl ⊢
    simp
    omega

theorem ovR_ext {h : Heap} {vb b o o' n c n' c' : Nat} {l l' : List Value} (hv : Blk h vb l) (hb : Blk h b l') (hl : l' ≠ []) (hne : vb ≠ b) :
    ExtH Tryz.prog 184 [.slice (some ⟨vb, o, none⟩) n c, .slice (some ⟨b, o', none⟩) n' c'] h fun v h' => v = .bool false ∧ h' = h :=
  ov_ext (P := Tryz.prog) (tS := 25) (tR := 4) (e := 90) (size := 2) Tryz.func184 (by kernel_rfl) (by kernel_rfl) (by kernel_rfl) (by kernel_rfl) Tryz.underlying25 (by kernel_rfl) hv hb hl hne

set_option maxHeartbeats 1000000 in
/-- slices.Insert of one item. -/
theorem insR_calls {h : Heap} {v : Value} {l : List Rank} {vb i : Nat} {x : Rank} (ho : OL encR 2 h v l) (hl : l.length ≤ 80000) (hi : i ≤ l.length) (hx : Blk h vb (encR x)) (hne : vb ∉ vblk v) :
    CallsH Tryz.prog 163 [v, .int .i64 i, .slice (some ⟨vb, 0, none⟩) 1 1] h
      (Ret fun r h' => OL encR 2 h' r (l.take i ++ x :: l.drop i) ∧ Chg (vblk v) h h' ∧ ∀ b ∈ vblk r, b ∈ vblk v ∨ h.size ≤ b) := by
  obtain ⟨a, c, rfl, hlc⟩ := ho.form
  have hne : vb ∉ ablk a := hne
  refine f163_calls (by simp) ?_
  refine SL.slc (lo := i) (hi := l.length) encR_len ho.sl hi (Nat.le_refl _) ?_
  intro a0 _ _
  refine And.intro rfl (And.intro (fun e => absurd e (by decide)) (fun _ => ?_))
  refine And.intro rfl (And.intro (fun e => ?_) (fun hin => ?_))
  · have e : i = l.length := by omega
    subst e
    refine app_own encR_len encR_one rfl ho (SL.one encR_len hx) (by simp; omega) ?_
    intro v' h' ho' hc hb
    rw [List.take_length, List.drop_length]
    exact And.intro ho' (And.intro hc hb)
  have hin : i < l.length := by omega
  refine And.intro rfl (fun z hz => ?_)
  have hz := add_in hz (by omega) (by omega)
  subst hz
  obtain ⟨_, hopen⟩ := ho.open
  rcases hopen with ⟨_, e, _⟩ | ⟨b, rfl, _, rest, B, hbl⟩
  · rw [e] at hin; exact absurd hin (by simp)
  have eN : ((l.length : Int) + 1) = ((l.length + 1 : Nat) : Int) := by omega
  have eI : ((i : Int) + 1) = ((i + 1 : Nat) : Int) := by omega
  have zi := take_len encR_len l i hi
  have zd := drop_len encR_len l i
  have hsp := split_at (enc := encR) l i
  have xl := encR_len x
  have fin : (l.take i).flatMap encR ++ (encR x ++ (l.drop i).flatMap encR) = (l.take i ++ x :: l.drop i).flatMap encR := by simp
  have finl : l.length + 1 = (l.take i ++ x :: l.drop i).length := by simp; omega
  refine And.intro rfl (And.intro (fun hfull => ?_) (fun hroom => ?_))
  · have hfull : c < l.length + 1 := by omega
    have s0 : SL encR h (.slice (some ⟨b, 0, none⟩) l.length c) l := ho.sl
    refine SL.slc (lo := 0) (hi := i) encR_len s0 (Nat.zero_le _) hi ?_
    intro a1 _ hs1
    simp only [Nat.sub_zero, List.drop_zero] at hs1 ⊢
    refine And.intro rfl (fun z hz => ?_)
    have hz := add_in hz (by omega) (by omega)
    subst hz
    refine And.intro rfl (fun z hz => ?_)
    have hz := sub_in hz (by omega) (by omega)
    have hz : z = ((l.length + 1 - i : Nat) : Int) := by omega
    subst hz
    have src1 := hs1.src
    refine And.intro (by omega) (And.intro (by omega) (Exists.intro ((l.take i).flatMap encR) (And.intro zi (And.intro ?_ (And.intro (by omega) (And.intro (by omega) ?_))))))
    · exact src1
    intro c3 b3 h1 hc3 g1
    rw [Int.toNat_natCast] at hc3 g1 ⊢
    have hc3 : l.length + 1 ≤ c3 := by omega
    have e3 : i + (l.length + 1 - i) = l.length + 1 := by omega
    rw [e3] at g1 ⊢
    obtain ⟨Z, hZ⟩ : ∃ Z : List Value, Z = (List.replicate (c3 - (l.length + 1)) ([.string ⟨#[]⟩, .int .i64 0] : List Value)).flatten := ⟨_, rfl⟩
    have hZl : Z.length = (c3 - (l.length + 1)) * 2 := by rw [hZ]; simp
    have q0 : (List.replicate (l.length + 1 - i) ([.string ⟨#[]⟩, .int .i64 0] : List Value)).flatten = ([.string ⟨#[]⟩, .int .i64 0] : List Value) ++ (List.replicate (l.length - i) ([.string ⟨#[]⟩, .int .i64 0] : List Value)).flatten := by
      rw [show l.length + 1 - i = (l.length - i) + 1 by omega, List.replicate_succ, List.flatten_cons]
    have B1 : Blk h1 b3 ((l.take i).flatMap encR ++ (([.string ⟨#[]⟩, .int .i64 0] : List Value) ++ ((List.replicate (l.length - i) ([.string ⟨#[]⟩, .int .i64 0] : List Value)).flatten ++ Z))) := by
      have := g1.blk
      rw [q0, ← hZ] at this
      simpa using this
    have i3 := g1.id
    have lx := hx.lt
    have lb := B.lt
    -- the item
    refine And.intro (by omega) (And.intro (by omega) (And.intro (by omega) ?_))
    intro o3 ho3 _
    have ho3 := ho3 (by omega)
    have t1 : (((l.length + 1 : Nat) : Int) - (i : Int)).toNat = l.length + 1 - i := by omega
    rw [t1]
    have ez : o3 = ((l.take i).flatMap encR).length := by rw [zi]; omega
    have m1 : min 1 (l.length + 1 - i) = 1 := by omega
    refine Exists.intro (encR x) (And.intro (by rw [m1, xl]) (And.intro ?_ ?_))
    · rw [m1]; exact src_of [] (encR x) [] (by simpa using hx.chg g1.chg (by simp)) rfl
    refine wr_at _ ([.string ⟨#[]⟩, .int .i64 0] : List Value) _ B1 ez (by rw [xl]; rfl) (encR_one x) ?_
    intro h2 p2
    have B2 := p2.blk
    have g2 := g1.put p2
    -- what stands behind
    refine And.intro rfl (fun z hz => ?_)
    have hz := add_in hz (by omega) (by omega)
    have hz : z = ((i + 1 : Nat) : Int) := by omega
    subst hz
    refine And.intro (by omega) (And.intro (by omega) (And.intro (by omega) ?_))
    intro o4 ho4 _
    have ho4 := ho4 (by omega)
    have s2 : SL encR h2 (.slice (some ⟨b, 0, none⟩) l.length c) l := s0.ext g2.chg
    refine SL.slc (lo := i) (hi := l.length) encR_len s2 hi (Nat.le_refl _) ?_
    intro a5 _ hs5
    have e5 : (l.drop i).take (l.length - i) = l.drop i := by rw [List.take_of_length_le]; simp
    rw [e5] at hs5
    have src5 := hs5.src
    have t2 : (((l.length + 1 : Nat) : Int) - ((i + 1 : Nat) : Int)).toNat = l.length - i := by omega
    rw [t2]
    have m2 : min (l.length - i) (l.length - i) = l.length - i := by omega
    refine Exists.intro ((l.drop i).flatMap encR) (And.intro (by rw [m2, zd]) (And.intro (by rw [m2]; exact src5) ?_))
    refine wr_at ((l.take i).flatMap encR ++ encR x) ((List.replicate (l.length - i) ([.string ⟨#[]⟩, .int .i64 0] : List Value)).flatten) Z (by rw [List.append_assoc]; exact B2) ?_ ?_ (enc_ones encR_one _) ?_
    · rw [List.length_append, zi, xl]; omega
    · rw [zd]; simp
    intro h3 p3
    have g3 := g2.put p3
    refine And.intro (OL.mk (rest := Z) finl (by rw [← finl]; omega) ?_ ?_) (And.intro (g3.chg.mono (by simp)) (fun b' hb' => .inr (by have : b' = b3 := List.mem_singleton.1 hb'; omega)))
    · have := g3.blk
      rw [← fin]
      simpa using this
    · rw [← fin]
      simp only [List.length_append, zi, zd, xl, hZl]
      omega
  · have hroom : l.length + 1 ≤ c := by omega
    have hne' : vb ≠ b := fun e => hne (by simp [ablk, e])
    -- there is room
    obtain ⟨R1, R2, hR, hR1⟩ : ∃ R1 R2, rest = R1 ++ R2 ∧ R1.length = 2 := by
      refine ⟨rest.take 2, rest.drop 2, (List.take_append_drop _ _).symm, ?_⟩
      rw [List.length_append, flatMap_len encR_len] at hbl
      rw [List.length_take]
      omega
    subst hR
    refine And.intro rfl (fun z hz => ?_)
    have hz := add_in hz (by omega) (by omega)
    have hz : z = ((l.length + 1 : Nat) : Int) := by omega
    subst hz
    refine And.intro (by omega) (And.intro (by omega) (And.intro (by omega) ?_))
    intro o1 hA hB
    have eo1 : o1 = 0 := by
      have := hA (by omega)
      simpa using this
    subst eo1
    have t0 : (((l.length + 1 : Nat) : Int) - ((0 : Nat) : Int)).toNat = l.length + 1 := by omega
    have t00 : ((c : Int) - ((0 : Nat) : Int)).toNat = c := by omega
    rw [t0, t00]
    refine And.intro rfl (fun z hz => ?_)
    have hz := add_in hz (by omega) (by omega)
    have hz : z = ((i + 1 : Nat) : Int) := by omega
    subst hz
    refine And.intro (by omega) (And.intro (by omega) (And.intro (by omega) ?_))
    intro o2 _ _
    have hnil : l.flatMap encR ++ (R1 ++ R2) ≠ [] := by
      intro e
      have := congrArg List.length e
      rw [List.length_append, List.length_append, hR1] at this
      simp at this
    refine ?_
    have ext := ovR_ext (o := 0) (o' := o2) (n := 1) (c := 1) (n' := (((l.length + 1 : Nat) : Int) - ((i + 1 : Nat) : Int)).toNat) (c' := ((c : Int) - ((i + 1 : Nat) : Int)).toNat) hx B hnil hne'
    refine fun w hw => ?_
    obtain ⟨u, w', hr, ⟨rfl, hh⟩, hrest⟩ := ext w hw
    refine ⟨_, w', hr, ?_, hrest⟩
    rw [hh]
    clear ext hr hh hrest w' w hw
    refine And.intro rfl (fun z hz => ?_)
    have hz := add_in hz (by omega) (by omega)
    have hz : z = ((i + 1 : Nat) : Int) := by omega
    subst hz
    refine And.intro (by omega) (And.intro (by omega) (And.intro (by omega) ?_))
    intro o3 ho3 ho3'
    have eo3 : o3 = (i + 1) * 2 := by
      have := ho3 (by omega)
      omega
    refine And.intro (by omega) (And.intro (by omega) (And.intro (by omega) ?_))
    intro o4 ho4 _
    have eo4 : o4 = i * 2 := by
      have := ho4 (by omega)
      omega
    have t1 : (((l.length + 1 : Nat) : Int) - ((i + 1 : Nat) : Int)).toNat = l.length - i := by omega
    have t2 : (((l.length + 1 : Nat) : Int) - (i : Int)).toNat = l.length + 1 - i := by omega
    rw [t1, t2]
    have m2 : min (l.length + 1 - i) (l.length - i) = l.length - i := by omega
    have B0 : Blk h b ((l.take i).flatMap encR ++ ((l.drop i).flatMap encR ++ (R1 ++ R2))) := by
      rw [hsp, List.append_assoc] at B; exact B
    -- the part behind, cut anew
    obtain ⟨D1, D2, hD, hD1⟩ : ∃ D1 D2, (l.drop i).flatMap encR ++ R1 = D1 ++ D2 ∧ D1.length = 2 := by
      refine ⟨((l.drop i).flatMap encR ++ R1).take 2, ((l.drop i).flatMap encR ++ R1).drop 2, (List.take_append_drop _ _).symm, ?_⟩
      rw [List.length_take, List.length_append, hR1]; omega
    have hD2 : D2.length = (l.length - i) * 2 := by
      have := congrArg List.length hD
      rw [List.length_append, List.length_append, zd, hR1, hD1] at this
      omega
    refine Exists.intro ((l.drop i).flatMap encR) (And.intro (by rw [m2, zd]) (And.intro (by rw [m2]; exact src_of _ _ _ B0 (by rw [zi]; exact eo4)) ?_))
    refine wr_at ((l.take i).flatMap encR ++ D1) D2 R2 ?_ ?_ ?_ (enc_ones encR_one _) ?_
    · rw [List.append_assoc, ← List.append_assoc D1, ← hD, List.append_assoc]; exact B0
    · rw [List.length_append, zi, hD1, eo3]; omega
    · rw [zd, hD2]
    intro h1 p1
    have B1 : Blk h1 b ((l.take i).flatMap encR ++ (D1 ++ ((l.drop i).flatMap encR ++ R2))) := by
      have := p1.blk
      rw [List.append_assoc] at this; exact this
    have hx1 := hx.chg p1.chg (by simpa using hne')
    refine And.intro (by omega) (And.intro (by omega) (And.intro (by omega) ?_))
    intro o5 ho5 _
    have eo5 : o5 = i * 2 := by
      have := ho5 (by omega)
      omega
    rw [t2]
    have m1 : min 1 (l.length + 1 - i) = 1 := by omega
    refine Exists.intro (encR x) (And.intro (by rw [m1, xl]) (And.intro ?_ ?_))
    · rw [m1]; exact src_of [] (encR x) [] (by simpa using hx1) rfl
    refine wr_at _ D1 _ B1 (by rw [zi]; exact eo5) (by rw [xl, hD1]) (encR_one x) ?_
    intro h2 p2
    refine And.intro (OL.mk (rest := R2) finl (by rw [← finl]; exact hroom) ?_ ?_) (And.intro (p1.trans p2).chg (fun _ h => .inl h))
    · have := p2.blk
      rw [← fin]
      simpa using this
    · rw [← fin]
      rw [hsp] at hbl
      simp only [List.length_append, zi, zd, xl, hR1] at hbl ⊢
      omega

set_option maxHeartbeats 1000000 in
/-- slices.Delete of one item. -/
theorem delR_calls {h : Heap} {v : Value} {l : List Rank} {i : Nat} (ho : OL encR 2 h v l) (hl : l.length ≤ 80000) (hi : i < l.length) :
    CallsH Tryz.prog 166 [v, .int .i64 i, .int .i64 (i + 1 : Nat)] h
      (Ret fun r h' => OL encR 2 h' r (l.take i ++ l.drop (i + 1)) ∧ Chg (vblk v) h h' ∧ ∀ b ∈ vblk r, b ∈ vblk v) := by
  obtain ⟨a, c, rfl, hlc⟩ := ho.form
  refine f166_calls (by simp) ?_
  obtain ⟨_, hopen⟩ := ho.open
  rcases hopen with ⟨_, e, _⟩ | ⟨b, rfl, _, rest, B, hbl⟩
  · rw [e] at hi; exact absurd hi (by simp)
  refine And.intro (by omega) (And.intro (by omega) (And.intro (by omega) (And.intro (by omega) ?_)))
  intro o0 _ _
  refine And.intro rfl (And.intro (fun e => absurd e (by omega)) (fun _ => ?_))
  have zi := take_len encR_len l i (by omega)
  have zd := drop_len encR_len l (i + 1)
  have hcons : l.drop i = l[i] :: l.drop (i + 1) := List.drop_eq_getElem_cons hi
  have hsp := split_at (enc := encR) l i
  rw [hcons, List.flatMap_cons] at hsp
  have xl := encR_len l[i]
  have B0 : Blk h b ((l.take i).flatMap encR ++ (encR l[i] ++ ((l.drop (i + 1)).flatMap encR ++ rest))) := by
    rw [hsp] at B; simpa using B
  -- s[:i]
  refine And.intro (by omega) (And.intro (by omega) (And.intro (by omega) ?_))
  intro o1 ho1 ho1'
  have eo1 : o1 = 0 := by
    have := ho1 (by omega)
    simpa using this
  subst eo1
  refine And.intro (by omega) (And.intro (by omega) (And.intro (by omega) ?_))
  intro o2 ho2 ho2'
  have t1 : ((i : Int) - ((0 : Nat) : Int)).toNat = i := by omega
  have t2 : ((c : Int) - ((0 : Nat) : Int)).toNat = c := by omega
  have t3 : ((l.length : Int) - ((i + 1 : Nat) : Int)).toNat = l.length - (i + 1) := by omega
  rw [t1, t2, t3]
  have hfit : i + (l.length - (i + 1)) ≤ c := by omega
  -- the end of the part behind, cut anew
  obtain ⟨D1, D2, hD, hD1, hD2⟩ : ∃ D1 D2, encR l[i] ++ (l.drop (i + 1)).flatMap encR = D1 ++ D2 ∧ D1.length = (l.length - (i + 1)) * 2 ∧ D2.length = 2 := by
    refine ⟨(encR l[i] ++ (l.drop (i + 1)).flatMap encR).take ((l.length - (i + 1)) * 2), (encR l[i] ++ (l.drop (i + 1)).flatMap encR).drop ((l.length - (i + 1)) * 2), (List.take_append_drop _ _).symm, ?_, ?_⟩
    · rw [List.length_take, List.length_append, xl, zd]; omega
    · rw [List.length_drop, List.length_append, xl, zd]; omega
  have fin : (l.take i).flatMap encR ++ (l.drop (i + 1)).flatMap encR = (l.take i ++ l.drop (i + 1)).flatMap encR := by simp
  have finl : i + (l.length - (i + 1)) = (l.take i ++ l.drop (i + 1)).length := by simp; omega
  have hY : Src h (some ⟨b, o2, none⟩) (l.length - (i + 1)) ((l.drop (i + 1)).flatMap encR) := by
    by_cases hlt : i + 1 < c
    · have := ho2 (by omega)
      refine src_of ((l.take i).flatMap encR ++ encR l[i]) _ rest (by simpa using B0) ?_
      rw [List.length_append, zi, xl]; omega
    · have : l.drop (i + 1) = [] := by apply List.drop_eq_nil_of_le; omega
      rw [this]
      intro j u hj
      simp at hj
  refine ⟨(l.take i).flatMap encR, (l.drop (i + 1)).flatMap encR, zi, zd, src_of [] _ _ B0 rfl, hY, enc_ones encR_one _, fun _ => ?_, fun hlt => absurd hlt (by omega)⟩
  have bl : ((l.take i).flatMap encR ++ (D1 ++ (D2 ++ rest))).length = c * 2 := by
    rw [hsp] at hbl
    have := congrArg List.length hD
    simp only [List.length_append] at hbl this ⊢
    omega
  refine ⟨(l.take i).flatMap encR ++ (D1 ++ (D2 ++ rest)), ?_, ?_, ?_⟩
  · rw [← List.append_assoc D1, ← hD, List.append_assoc]; exact B0
  · rw [bl]
    have : (i + (l.length - (i + 1))) * 2 ≤ c * 2 := Nat.mul_le_mul_right _ hfit
    omega
  intro h1 p1
  have e1 : splice ((l.take i).flatMap encR ++ (D1 ++ (D2 ++ rest))) (0 + i * 2) ((l.drop (i + 1)).flatMap encR) = (l.take i).flatMap encR ++ ((l.drop (i + 1)).flatMap encR ++ (D2 ++ rest)) := by
    rw [Nat.zero_add, ← zi]
    exact splice_at _ _ _ _ (by rw [zd, hD1])
  rw [e1] at p1
  -- clear
  refine And.intro (by omega) (And.intro (by omega) (And.intro (by omega) ?_))
  intro o3 ho3 ho3'
  have t4 : ((l.length : Int) - ((i + (l.length - (i + 1)) : Nat) : Int)).toNat = 1 := by omega
  rw [t4]
  have eo3 : o3 = (l.length - 1) * 2 := by
    have := ho3 (by omega)
    omega
  refine wr_at ((l.take i).flatMap encR ++ (l.drop (i + 1)).flatMap encR) D2 rest (by simpa using p1.blk) ?_ (by simp [hD2]) (by decide) ?_
  · rw [List.length_append, zi, zd, eo3]; omega
  intro h2 p2
  have p2' := p2.blk
  refine And.intro (OL.mk (rest := (List.replicate 1 ([.string ⟨#[]⟩, .int .i64 0] : List Value)).flatten ++ rest) finl (by rw [← finl]; exact hfit) ?_ ?_) (And.intro (p1.trans p2).chg (fun _ h => h))
  · rw [← fin]; exact p2'
  · rw [← fin]
    rw [hsp] at hbl
    simp only [List.length_append] at hbl ⊢
    simp only [zi, zd, xl] at hbl ⊢
    simp
    omega

end Go.Proofs.YtgmkldaonkbjgaaGreatDoor
namespace Go.Proofs.YtgmkldaonkbjgaaGreatDoor
open Go Go.Sx Go.Proofs.YtgmkldaonkbjgaaGreatDoor.C

theorem compareBytes_zero : ∀ a b : List UInt8, (Lib.compareBytes a b = 0 ↔ a = b)
  | [], [] => by simp [Lib.compareBytes]
  | [], _ :: _ => by simp [Lib.compareBytes]
  | _ :: _, [] => by simp [Lib.compareBytes]
  | x :: a, y :: b => by
    have ih := compareBytes_zero a b
    simp only [Lib.compareBytes, UInt8.lt_iff_toNat_lt]
    by_cases h1 : x.toNat < y.toNat
    · rw [if_pos h1]
      constructor
      · intro h; omega
      · intro h; injection h with h2 _; subst h2; omega
    · rw [if_neg h1]
      by_cases h2 : y.toNat < x.toNat
      · rw [if_pos h2]
        constructor
        · intro h; omega
        · intro h; injection h with h3 _; subst h3; omega
      · rw [if_neg h2, ih]
        have : x = y := UInt8.toNat_inj.1 (by omega)
        constructor
        · intro h; rw [this, h]
        · intro h; injection h

theorem cmpB_zero (a b : ByteArray) : cmpB a b = 0 ↔ a = b := by
  unfold cmpB
  rw [compareBytes_zero]
  constructor
  · intro h
    cases a; cases b; simp_all
  · intro h; rw [h]

theorem wrapU {x : Int} (h0 : 0 ≤ x) (h1 : x < 18446744073709551616) : IntKind.u64.wrap x = x := by
  have e : IntKind.u64.wrap x = x % 18446744073709551616 := by simp [IntKind.wrap, IntKind.bits, IntKind.signed]
  rw [e]; omega

structure CutAt {α : Type} (lo : α → Bool) (l : List α) (k : Nat) : Prop where
  le : k ≤ l.length
  low : ∀ i (_ : i < k) (h : i < l.length), lo l[i] = true
  high : ∀ i (_ : k ≤ i) (h : i < l.length), lo l[i] = false

def CmpS (g : Nat) (tgt cap : List Value) (lo eq : ByteArray → Bool) (h : Heap) : Prop := ∀ h' x, Chg [] h h' → CallsH Tryz.prog g (.string x :: (tgt ++ cap)) h' (Ret fun u h'' => (∃ z, u = .int .i64 z ∧ (z < 0 ↔ lo x = true) ∧ (z = 0 ↔ eq x = true)) ∧ Chg [] h' h'')

theorem bsS_calls {h : Heap} {v : Value} {l : List ByteArray} {g : Nat} {cap : List Value} {tgt : ByteArray} {lo eq : ByteArray → Bool} (hv : SL encS h v l) (hl : l.length < 4611686018427387904) (hg : CmpS g [.string tgt] cap lo eq h)
    (hm : ∀ i j (hj : j < l.length) (hi : i ≤ j), lo l[j] = true → lo (l[i]'(by omega)) = true) :
    CallsH Tryz.prog 182 [v, .string tgt, .func (.func g) #[] ⟨cap⟩] h
      (Ret fun r h' => (∃ k, r = .tuple #[.int .i64 (k : Nat), .bool ((l[k]?).any eq)] ∧ CutAt lo l k) ∧ Chg [] h h') := by
  obtain ⟨a, c, rfl, hlc⟩ := hv.form
  refine f182_calls (by simp) ?_
  have hv0 := hv
  have hc0 : Chg [] h h := Chg.refl h
  refine loop_intro (fun p : Nat × Nat => [(0, .slice a l.length c), (1, .string tgt), (2, .func (.func g) #[] ⟨cap⟩), (8, .int .i64 l.length), (9, .int .i64 p.1), (10, .int .i64 p.2)])
    (fun p h' => p.1 ≤ p.2 ∧ p.2 ≤ l.length ∧ Chg [] h h' ∧ (∀ i (_ : i < p.1) (h : i < l.length), lo l[i] = true) ∧ (∀ i (_ : p.2 ≤ i) (h : i < l.length), lo l[i] = false)) (fun p => p.2 - p.1) (0, l.length)
    ⟨rfl, rfl, rfl, rfl, rfl, rfl, trivial⟩ ⟨Nat.zero_le _, Nat.le_refl _, Chg.refl h, by intro i hi; omega, by intro i hi hh; omega⟩ ?_
  rintro ⟨i, j⟩ h1 ⟨hij, hjl, hc, hlow, hhigh⟩
  simp only at hij hjl hlow hhigh
  refine And.intro rfl (And.intro (fun hlt => ?_) (fun hlt => ?_))
  · have hlt : i < j := by omega
    refine And.intro rfl (fun z hz => ?_)
    have hz := add_in hz (by omega) (by omega)
    subst hz
    intro z hz
    rw [wrapU (by omega) (by omega)] at hz
    subst hz
    refine And.intro rfl (fun z hz => ?_)
    have hz : z = ((i : Int) + j) / 2 := by
      have : z = ((i : Int) + j).fdiv (2 ^ 1) := hz
      rw [this, Int.fdiv_eq_ediv_of_nonneg _ (by decide)]
      rfl
    subst hz
    intro z hz
    rw [wrap_in (by omega) (by omega)] at hz
    obtain ⟨m, hm1⟩ : ∃ m : Nat, m = (i + j) / 2 := ⟨_, rfl⟩
    have hz : z = (m : Int) := by omega
    subst hz
    have him : i ≤ m := by omega
    have hmj : m < j := by omega
    have hml : m < l.length := by omega
    have hvx := hv0.ext hc
    obtain ⟨b, o, rfl⟩ := hvx.addr (by omega)
    have hcs := hvx.cells encS_len (i := m) (x := l[m]) (by simp [hml])
    refine And.intro (by omega) (And.intro (by omega) (Exists.intro _ (And.intro (hcs 0 _ rfl) ?_)))
    refine call_ret (hg h1 l[m] (hc0.nil hc)) ?_
    rintro _ h2 ⟨⟨z, rfl, hzn, _⟩, hc2⟩
    refine And.intro rfl (And.intro (fun hneg => ?_) (fun hneg => ?_))
    · have hb : lo l[m] = true := hzn.1 hneg
      refine And.intro rfl (fun y hy => ?_)
      have hy := add_in hy (by omega) (by omega)
      have hy : y = ((m + 1 : Nat) : Int) := by omega
      subst hy
      refine And.intro rfl (Exists.intro (m + 1, j) (And.intro ?_ (And.intro ?_ ?_)))
      · exact ⟨rfl, rfl, rfl, rfl, rfl, rfl, trivial⟩
      · refine ⟨by simp only; omega, hjl, hc.nil hc2, fun q hq hql => ?_, hhigh⟩
        exact hm q m hml (by simp only at hq; omega) hb
      · simp only; omega
    · have hb : lo l[m] = false := by
        cases hbb : lo l[m] with
        | false => rfl
        | true => exact absurd (hzn.2 hbb) hneg
      refine And.intro rfl (Exists.intro (i, m) (And.intro ?_ (And.intro ?_ ?_)))
      · exact ⟨rfl, rfl, rfl, rfl, rfl, rfl, trivial⟩
      · refine ⟨him, by simp only; omega, hc.nil hc2, hlow, fun q hq hql => ?_⟩
        cases hbb : lo l[q] with
        | false => rfl
        | true =>
          have := hm m q hql hq hbb
          rw [hb] at this; cases this
      · simp only; omega
  · have e : i = j := by omega
    subst e
    have cut : CutAt lo l i := ⟨hjl, hlow, hhigh⟩
    refine And.intro rfl (And.intro (fun hin => ?_) (fun hin => ?_))
    · have hin : i < l.length := by omega
      have hvx := hv0.ext hc
      obtain ⟨b, o, rfl⟩ := hvx.addr (by omega)
      have hcs := hvx.cells encS_len (i := i) (x := l[i]) (by simp [hin])
      refine And.intro (by omega) (And.intro (by omega) (Exists.intro _ (And.intro (hcs 0 _ rfl) ?_)))
      refine call_ret (hg h1 l[i] (hc0.nil hc)) ?_
      rintro _ h2 ⟨⟨z, rfl, _, hz0⟩, hc2⟩
      have hget : l[i]? = some l[i] := List.getElem?_eq_getElem hin
      refine And.intro rfl (And.intro (fun he => ?_) (fun he => ?_))
      · refine And.intro (Exists.intro i (And.intro ?_ cut)) ((hc0.nil hc).nil hc2)
        rw [hget]
        show Value.tuple _ = Value.tuple #[_, .bool (eq l[i])]
        rw [hz0.1 he]; rfl
      · refine And.intro (Exists.intro i (And.intro ?_ cut)) ((hc0.nil hc).nil hc2)
        rw [hget]
        show Value.tuple _ = Value.tuple #[_, .bool (eq l[i])]
        have : eq l[i] = false := by
          cases hbb : eq l[i] with
          | false => rfl
          | true => exact absurd (hz0.2 hbb) he
        rw [this]; rfl
    · have hin : i = l.length := by omega
      refine And.intro (Exists.intro i (And.intro ?_ cut)) (hc0.nil hc)
      rw [List.getElem?_eq_none (by omega)]
      rfl

def CmpP (g : Nat) (tgt cap : List Value) (lo eq : Pair → Bool) (h : Heap) : Prop := ∀ h' x, Chg [] h h' → CallsH Tryz.prog g (.agg ⟨encP x⟩ :: (tgt ++ cap)) h' (Ret fun u h'' => (∃ z, u = .int .i64 z ∧ (z < 0 ↔ lo x = true) ∧ (z = 0 ↔ eq x = true)) ∧ Chg [] h' h'')

theorem bsP_calls {h : Heap} {v : Value} {l : List Pair} {g : Nat} {cap : List Value} {tgt : ByteArray} {lo eq : Pair → Bool} (hv : SL encP h v l) (hl : l.length < 4611686018427387904) (hg : CmpP g [.string tgt] cap lo eq h)
    (hm : ∀ i j (hj : j < l.length) (hi : i ≤ j), lo l[j] = true → lo (l[i]'(by omega)) = true) :
    CallsH Tryz.prog 177 [v, .string tgt, .func (.func g) #[] ⟨cap⟩] h
      (Ret fun r h' => (∃ k, r = .tuple #[.int .i64 (k : Nat), .bool ((l[k]?).any eq)] ∧ CutAt lo l k) ∧ Chg [] h h') := by
  obtain ⟨a, c, rfl, hlc⟩ := hv.form
  refine f177_calls (by simp) ?_
  have hv0 := hv
  have hc0 : Chg [] h h := Chg.refl h
  refine loop_intro (fun p : Nat × Nat => [(0, .slice a l.length c), (1, .string tgt), (2, .func (.func g) #[] ⟨cap⟩), (8, .int .i64 l.length), (9, .int .i64 p.1), (10, .int .i64 p.2)])
    (fun p h' => p.1 ≤ p.2 ∧ p.2 ≤ l.length ∧ Chg [] h h' ∧ (∀ i (_ : i < p.1) (h : i < l.length), lo l[i] = true) ∧ (∀ i (_ : p.2 ≤ i) (h : i < l.length), lo l[i] = false)) (fun p => p.2 - p.1) (0, l.length)
    ⟨rfl, rfl, rfl, rfl, rfl, rfl, trivial⟩ ⟨Nat.zero_le _, Nat.le_refl _, Chg.refl h, by intro i hi; omega, by intro i hi hh; omega⟩ ?_
  rintro ⟨i, j⟩ h1 ⟨hij, hjl, hc, hlow, hhigh⟩
  simp only at hij hjl hlow hhigh
  refine And.intro rfl (And.intro (fun hlt => ?_) (fun hlt => ?_))
  · have hlt : i < j := by omega
    refine And.intro rfl (fun z hz => ?_)
    have hz := add_in hz (by omega) (by omega)
    subst hz
    intro z hz
    rw [wrapU (by omega) (by omega)] at hz
    subst hz
    refine And.intro rfl (fun z hz => ?_)
    have hz : z = ((i : Int) + j) / 2 := by
      have : z = ((i : Int) + j).fdiv (2 ^ 1) := hz
      rw [this, Int.fdiv_eq_ediv_of_nonneg _ (by decide)]
      rfl
    subst hz
    intro z hz
    rw [wrap_in (by omega) (by omega)] at hz
    obtain ⟨m, hm1⟩ : ∃ m : Nat, m = (i + j) / 2 := ⟨_, rfl⟩
    have hz : z = (m : Int) := by omega
    subst hz
    have him : i ≤ m := by omega
    have hmj : m < j := by omega
    have hml : m < l.length := by omega
    have hvx := hv0.ext hc
    obtain ⟨b, o, rfl⟩ := hvx.addr (by omega)
    have hcs := hvx.cells encP_len (i := m) (x := l[m]) (by simp [hml])
    refine And.intro (by omega) (And.intro (by omega) (Exists.intro (encP l[m]) (And.intro rfl (And.intro hcs ?_))))
    refine call_ret (hg h1 l[m] (hc0.nil hc)) ?_
    rintro _ h2 ⟨⟨z, rfl, hzn, _⟩, hc2⟩
    refine And.intro rfl (And.intro (fun hneg => ?_) (fun hneg => ?_))
    · have hb : lo l[m] = true := hzn.1 hneg
      refine And.intro rfl (fun y hy => ?_)
      have hy := add_in hy (by omega) (by omega)
      have hy : y = ((m + 1 : Nat) : Int) := by omega
      subst hy
      refine And.intro rfl (Exists.intro (m + 1, j) (And.intro ?_ (And.intro ?_ ?_)))
      · exact ⟨rfl, rfl, rfl, rfl, rfl, rfl, trivial⟩
      · refine ⟨by simp only; omega, hjl, hc.nil hc2, fun q hq hql => ?_, hhigh⟩
        exact hm q m hml (by simp only at hq; omega) hb
      · simp only; omega
    · have hb : lo l[m] = false := by
        cases hbb : lo l[m] with
        | false => rfl
        | true => exact absurd (hzn.2 hbb) hneg
      refine And.intro rfl (Exists.intro (i, m) (And.intro ?_ (And.intro ?_ ?_)))
      · exact ⟨rfl, rfl, rfl, rfl, rfl, rfl, trivial⟩
      · refine ⟨him, by simp only; omega, hc.nil hc2, hlow, fun q hq hql => ?_⟩
        cases hbb : lo l[q] with
        | false => rfl
        | true =>
          have := hm m q hql hq hbb
          rw [hb] at this; cases this
      · simp only; omega
  · have e : i = j := by omega
    subst e
    have cut : CutAt lo l i := ⟨hjl, hlow, hhigh⟩
    refine And.intro rfl (And.intro (fun hin => ?_) (fun hin => ?_))
    · have hin : i < l.length := by omega
      have hvx := hv0.ext hc
      obtain ⟨b, o, rfl⟩ := hvx.addr (by omega)
      have hcs := hvx.cells encP_len (i := i) (x := l[i]) (by simp [hin])
      refine And.intro (by omega) (And.intro (by omega) (Exists.intro (encP l[i]) (And.intro rfl (And.intro hcs ?_))))
      refine call_ret (hg h1 l[i] (hc0.nil hc)) ?_
      rintro _ h2 ⟨⟨z, rfl, _, hz0⟩, hc2⟩
      have hget : l[i]? = some l[i] := List.getElem?_eq_getElem hin
      refine And.intro rfl (And.intro (fun he => ?_) (fun he => ?_))
      · refine And.intro (Exists.intro i (And.intro ?_ cut)) ((hc0.nil hc).nil hc2)
        rw [hget]
        show Value.tuple _ = Value.tuple #[_, .bool (eq l[i])]
        rw [hz0.1 he]; rfl
      · refine And.intro (Exists.intro i (And.intro ?_ cut)) ((hc0.nil hc).nil hc2)
        rw [hget]
        show Value.tuple _ = Value.tuple #[_, .bool (eq l[i])]
        have : eq l[i] = false := by
          cases hbb : eq l[i] with
          | false => rfl
          | true => exact absurd (hz0.2 hbb) he
        rw [this]; rfl
    · have hin : i = l.length := by omega
      refine And.intro (Exists.intro i (And.intro ?_ cut)) (hc0.nil hc)
      rw [List.getElem?_eq_none (by omega)]
      rfl

def CmpR (g : Nat) (tgt cap : List Value) (lo : Rank → Bool) (h : Heap) : Prop := ∀ h' x, Chg [] h h' → CallsH Tryz.prog g (.agg ⟨encR x⟩ :: (tgt ++ cap)) h' (Ret fun u h'' => (∃ z, u = .int .i64 z ∧ (z < 0 ↔ lo x = true)) ∧ Chg [] h' h'')

theorem bsR_calls {h : Heap} {v : Value} {l : List Rank} {g : Nat} {cap : List Value} {tgt : Rank} {lo : Rank → Bool} (hv : SL encR h v l) (hl : l.length < 4611686018427387904) (hg : CmpR g [.agg ⟨encR tgt⟩] cap lo h)
    (hm : ∀ i j (hj : j < l.length) (hi : i ≤ j), lo l[j] = true → lo (l[i]'(by omega)) = true) :
    CallsH Tryz.prog 162 [v, .agg ⟨encR tgt⟩, .func (.func g) #[] ⟨cap⟩] h
      (Ret fun r h' => (∃ k f, r = .tuple #[.int .i64 (k : Nat), .bool f] ∧ CutAt lo l k) ∧ Chg [] h h') := by
  obtain ⟨a, c, rfl, hlc⟩ := hv.form
  refine f162_calls (by simp) ?_
  intro b4 h0 g0
  have hc0 := g0.chg
  have hv0 := hv.ext hc0
  have B4 : Blk h0 b4 (encR tgt) := g0.blk
  refine loop_intro (fun p : Nat × Nat => [(0, .slice a l.length c), (4, .pointer (some ⟨b4, 0, none⟩)), (2, .func (.func g) #[] ⟨cap⟩), (8, .int .i64 l.length), (9, .int .i64 p.1), (10, .int .i64 p.2)])
    (fun p h' => p.1 ≤ p.2 ∧ p.2 ≤ l.length ∧ Chg [] h0 h' ∧ (∀ i (_ : i < p.1) (h : i < l.length), lo l[i] = true) ∧ (∀ i (_ : p.2 ≤ i) (h : i < l.length), lo l[i] = false)) (fun p => p.2 - p.1) (0, l.length)
    ⟨rfl, rfl, rfl, rfl, rfl, rfl, trivial⟩ ⟨Nat.zero_le _, Nat.le_refl _, Chg.refl h0, by intro i hi; omega, by intro i hi hh; omega⟩ ?_
  rintro ⟨i, j⟩ h1 ⟨hij, hjl, hc, hlow, hhigh⟩
  simp only at hij hjl hlow hhigh
  refine And.intro rfl (And.intro (fun hlt => ?_) (fun hlt => ?_))
  · have hlt : i < j := by omega
    refine And.intro rfl (fun z hz => ?_)
    have hz := add_in hz (by omega) (by omega)
    subst hz
    intro z hz
    rw [wrapU (by omega) (by omega)] at hz
    subst hz
    refine And.intro rfl (fun z hz => ?_)
    have hz : z = ((i : Int) + j) / 2 := by
      have : z = ((i : Int) + j).fdiv (2 ^ 1) := hz
      rw [this, Int.fdiv_eq_ediv_of_nonneg _ (by decide)]
      rfl
    subst hz
    intro z hz
    rw [wrap_in (by omega) (by omega)] at hz
    obtain ⟨m, hm1⟩ : ∃ m : Nat, m = (i + j) / 2 := ⟨_, rfl⟩
    have hz : z = (m : Int) := by omega
    subst hz
    have him : i ≤ m := by omega
    have hmj : m < j := by omega
    have hml : m < l.length := by omega
    have hvx := hv0.ext hc
    obtain ⟨b, o, rfl⟩ := hvx.addr (by omega)
    have hcs := hvx.cells encR_len (i := m) (x := l[m]) (by simp [hml])
    refine And.intro (by omega) (And.intro (by omega) (Exists.intro (encR l[m]) (And.intro rfl (And.intro hcs ?_))))
    refine Exists.intro (encR tgt) (And.intro rfl (And.intro (cells_blk (B4.chg hc (by simp))) ?_))
    refine call_ret (hg h1 l[m] (hc0.nil hc)) ?_
    rintro _ h2 ⟨⟨z, rfl, hzn⟩, hc2⟩
    refine And.intro rfl (And.intro (fun hneg => ?_) (fun hneg => ?_))
    · have hb : lo l[m] = true := hzn.1 hneg
      refine And.intro rfl (fun y hy => ?_)
      have hy := add_in hy (by omega) (by omega)
      have hy : y = ((m + 1 : Nat) : Int) := by omega
      subst hy
      refine And.intro rfl (Exists.intro (m + 1, j) (And.intro ?_ (And.intro ?_ ?_)))
      · exact ⟨rfl, rfl, rfl, rfl, rfl, rfl, trivial⟩
      · refine ⟨by simp only; omega, hjl, hc.nil hc2, fun q hq hql => ?_, hhigh⟩
        exact hm q m hml (by simp only at hq; omega) hb
      · simp only; omega
    · have hb : lo l[m] = false := by
        cases hbb : lo l[m] with
        | false => rfl
        | true => exact absurd (hzn.2 hbb) hneg
      refine And.intro rfl (Exists.intro (i, m) (And.intro ?_ (And.intro ?_ ?_)))
      · exact ⟨rfl, rfl, rfl, rfl, rfl, rfl, trivial⟩
      · refine ⟨him, by simp only; omega, hc.nil hc2, hlow, fun q hq hql => ?_⟩
        cases hbb : lo l[q] with
        | false => rfl
        | true =>
          have := hm m q hql hq hbb
          rw [hb] at this; cases this
      · simp only; omega
  · have e : i = j := by omega
    subst e
    have cut : CutAt lo l i := ⟨hjl, hlow, hhigh⟩
    refine And.intro rfl (And.intro (fun hin => ?_) (fun hin => ?_))
    · have hin : i < l.length := by omega
      have hvx := hv0.ext hc
      obtain ⟨b, o, rfl⟩ := hvx.addr (by omega)
      have hcs := hvx.cells encR_len (i := i) (x := l[i]) (by simp [hin])
      refine And.intro (by omega) (And.intro (by omega) (Exists.intro (encR l[i]) (And.intro rfl (And.intro hcs ?_))))
      refine Exists.intro (encR tgt) (And.intro rfl (And.intro (cells_blk (B4.chg hc (by simp))) ?_))
      refine call_ret (hg h1 l[i] (hc0.nil hc)) ?_
      rintro _ h2 ⟨⟨z, rfl, _⟩, hc2⟩
      refine And.intro rfl (And.intro (fun he => ?_) (fun he => ?_))
      · exact And.intro (Exists.intro i (Exists.intro true (And.intro rfl cut))) ((hc0.nil hc).nil hc2)
      · exact And.intro (Exists.intro i (Exists.intro false (And.intro rfl cut))) ((hc0.nil hc).nil hc2)
    · have hin : i = l.length := by omega
      exact And.intro (Exists.intro i (Exists.intro false (And.intro rfl cut))) (hc0.nil hc)

theorem itself_calls {h : Heap} (s : ByteArray) : CallsH Tryz.prog 160 [.string s] h (Ret fun u h' => u = .string s ∧ h' = h) := by
  refine f160_calls (by simp) ?_
  exact And.intro rfl rfl

theorem pairName_calls {h : Heap} (p : Pair) : CallsH Tryz.prog 154 [.agg ⟨encP p⟩] h (Ret fun u h' => u = .string p.name ∧ Chg [] h h') := by
  refine f154_calls (by simp) ?_
  intro b1 h1 g1
  have B1 : Blk h1 b1 (encP p) := g1.blk
  refine Exists.intro _ (And.intro (cell_blk B1 rfl) ?_)
  exact And.intro rfl g1.chg

theorem rising_lt {α : Type} {lt : α → α → Bool} (htr : ∀ a b c, lt a b = true → lt b c = true → lt a c = true) : ∀ {l : List α}, rising lt l = true → l.Pairwise fun a b => lt a b = true
  | [], _ => List.Pairwise.nil
  | [x], _ => List.pairwise_singleton _ _
  | x :: y :: l, h => by
    simp only [rising, Bool.and_eq_true] at h
    have ih := rising_lt htr h.2
    refine List.Pairwise.cons (fun z hz => ?_) ih
    rcases List.mem_cons.1 hz with rfl | hz
    · exact h.1
    · exact htr _ _ _ h.1 (List.rel_of_pairwise_cons ih hz)

theorem bynS_calls {h : Heap} {v : Value} {l : List ByteArray} (name : ByteArray) (hv : SL encS h v l) (hl : l.length < 4611686018427387904) (hs : l.Pairwise fun a b => sless a b = true) :
    CallsH Tryz.prog 159 [v, .func (.func 160) #[] #[], .string name] h
      (Ret fun r h' => (∃ k, r = .tuple #[.int .i64 (k : Nat), .bool ((l[k]?).any fun x => decide (x = name))] ∧ CutAt (fun x => sless x name) l k) ∧ Chg [] h h') := by
  refine f159_calls (by simp) ?_
  intro b4 h1 g1
  have B4 : Blk h1 b4 [.func (.func 160) #[] #[]] := g1.blk
  refine call_ret (bsS_calls (g := 183) (cap := [ptr b4]) (lo := fun x => sless x name) (eq := fun x => decide (x = name)) (hv.ext g1.chg) hl ?_ ?_) ?_
  · intro h2 x hc2
    refine f183_calls (by simp) ?_
    refine Exists.intro _ (And.intro (cell_blk (B4.chg hc2 (by simp)) rfl) ?_)
    refine call_ret (itself_calls x) ?_
    rintro _ h3 ⟨rfl, rfl⟩
    refine call_ret (cmpS_calls x name) ?_
    rintro _ h4 ⟨rfl, rfl⟩
    exact And.intro (Exists.intro _ (And.intro rfl (And.intro (cmpB_neg _ _) (by rw [cmpB_zero]; simp)))) (Chg.refl _)
  · intro i j hj hi hlo
    rcases Nat.lt_or_eq_of_le hi with hlt | rfl
    · exact sless_trans (List.pairwise_iff_getElem.1 hs i j (by omega) hj hlt) hlo
    · exact hlo
  · rintro _ h2 ⟨⟨k, rfl, hk⟩, hc2⟩
    exact And.intro (Exists.intro k (And.intro rfl hk)) (g1.chg.nil hc2)

theorem bynP_calls {h : Heap} {v : Value} {l : List Pair} (name : ByteArray) (hv : SL encP h v l) (hl : l.length < 4611686018427387904) (hs : l.Pairwise fun a b => sless a.name b.name = true) :
    CallsH Tryz.prog 153 [v, .func (.func 154) #[] #[], .string name] h
      (Ret fun r h' => (∃ k, r = .tuple #[.int .i64 (k : Nat), .bool ((l[k]?).any fun x => decide (x.name = name))] ∧ CutAt (fun x => sless x.name name) l k) ∧ Chg [] h h') := by
  refine f153_calls (by simp) ?_
  intro b4 h1 g1
  have B4 : Blk h1 b4 [.func (.func 154) #[] #[]] := g1.blk
  refine call_ret (bsP_calls (g := 178) (cap := [ptr b4]) (lo := fun x => sless x.name name) (eq := fun x => decide (x.name = name)) (hv.ext g1.chg) hl ?_ ?_) ?_
  · intro h2 x hc2
    refine f178_calls (by simp) ?_
    intro b3 h3 g3
    have B3 : Blk h3 b3 (encP x) := g3.blk
    have B43 := (B4.chg hc2 (by simp)).chg g3.chg (by simp)
    refine Exists.intro _ (And.intro (cell_blk B43 rfl) ?_)
    refine Exists.intro (encP x) (And.intro rfl (And.intro (cells_blk B3) ?_))
    refine call_ret (pairName_calls x) ?_
    rintro _ h4 ⟨rfl, hc4⟩
    refine call_ret (cmpS_calls x.name name) ?_
    rintro _ h5 ⟨rfl, rfl⟩
    exact And.intro (Exists.intro _ (And.intro rfl (And.intro (cmpB_neg _ _) (by rw [cmpB_zero]; simp)))) (g3.chg.nil hc4)
  · intro i j hj hi hlo
    rcases Nat.lt_or_eq_of_le hi with hlt | rfl
    · exact sless_trans (List.pairwise_iff_getElem.1 hs i j (by omega) hj hlt) hlo
    · exact hlo
  · rintro _ h2 ⟨⟨k, rfl, hk⟩, hc2⟩
    exact And.intro (Exists.intro k (And.intro rfl hk)) (g1.chg.nil hc2)

theorem ixfR_calls {h : Heap} {v : Value} {l : List Rank} {g : Nat} {cap : List Value} {p : Rank → Bool} (hv : SL encR h v l) (hl : l.length < 4611686018427387904)
    (hg : ∀ h' x, Chg [] h h' → CallsH Tryz.prog g (.agg ⟨encR x⟩ :: cap) h' (Ret fun u h'' => u = .bool (p x) ∧ Chg [] h' h'')) :
    CallsH Tryz.prog 164 [v, .func (.func g) #[] ⟨cap⟩] h
      (Ret fun r h' => ((∃ (k : Nat) (hk : k < l.length), r = .int .i64 k ∧ p l[k] = true) ∨ (r = .int .i64 (-1) ∧ ∀ x ∈ l, p x = false)) ∧ Chg [] h h') := by
  obtain ⟨a, c, rfl, hlc⟩ := hv.form
  refine f164_calls (by simp) ?_
  refine loop_intro (fun k : Nat => [(0, .slice a l.length c), (1, .func (.func g) #[] ⟨cap⟩), (7, .int .i64 l.length), (8, .int .i64 k)]) (fun k h' => k ≤ l.length ∧ Chg [] h h' ∧ ∀ x ∈ l.take k, p x = false) (fun k => l.length - k) 0
    ⟨rfl, rfl, rfl, rfl, trivial⟩ ⟨Nat.zero_le _, Chg.refl h, by simp⟩ ?_
  rintro k h1 ⟨hk, hc, hall⟩
  refine And.intro rfl (And.intro (fun hlt => ?_) (fun hlt => ?_))
  · have hlt : k < l.length := by omega
    have hv1 := hv.ext hc
    obtain ⟨b, o, rfl⟩ := hv1.addr (by omega)
    have hcs := hv1.cells encR_len (i := k) (x := l[k]) (by simp [hlt])
    refine And.intro (by omega) (And.intro (by omega) (Exists.intro (encR l[k]) (And.intro rfl (And.intro hcs ?_))))
    refine call_ret (hg h1 l[k] hc) ?_
    rintro _ h2 ⟨rfl, hc2⟩
    cases hp : p l[k] with
    | true => exact And.intro (.inl ⟨k, hlt, rfl, hp⟩) (hc.nil hc2)
    | false =>
      refine And.intro rfl (fun y hy => ?_)
      have hy := add_in hy (by omega) (by omega)
      subst hy
      refine And.intro rfl (Exists.intro (k + 1) (And.intro ?_ (And.intro ?_ ?_)))
      · exact ⟨rfl, rfl, rfl, rfl, trivial⟩
      · refine ⟨by omega, hc.nil hc2, fun x hx => ?_⟩
        rw [take_snoc l k hlt] at hx
        rcases List.mem_append.1 hx with hx | hx
        · exact hall x hx
        · simp at hx; rw [hx]; exact hp
      · omega
  · have hkl : k = l.length := by omega
    subst hkl
    rw [List.take_length] at hall
    exact And.intro (.inr ⟨rfl, hall⟩) hc

end Go.Proofs.YtgmkldaonkbjgaaGreatDoor
namespace Go.Proofs.YtgmkldaonkbjgaaGreatDoor
open Go Go.Sx

structure RX where
  key : ByteArray
  thing : Thing
  vs : List Value
  len : vs.length = 7
  one : ∀ u ∈ vs, u.oneCell' = true

def encX (x : RX) : List Value := .string x.key :: x.vs
theorem encX_len (x : RX) : (encX x).length = 8 := by simp [encX, x.len]
theorem encX_one (x : RX) : ∀ u ∈ encX x, u.oneCell' = true := by
  intro u hu
  simp only [encX, List.mem_cons] at hu
  rcases hu with rfl | hu
  · rfl
  · exact x.one u hu

def GX (h : Heap) (l : List RX) : Prop := ∀ x ∈ l, TH h x.vs x.thing
theorem GX.ext {h h' : Heap} {l : List RX} (g : GX h l) (hc : Chg [] h h') : GX h' l := fun x hx => (g x hx).ext hc

def findX (key : ByteArray) : List RX → Nat × Bool
  | [] => (0, false)
  | x :: l => if x.key = key then (0, true) else if sless key x.key = true then (0, false) else ((findX key l).1 + 1, (findX key l).2)

def putX (l : List RX) (x : RX) : List RX :=
  l.take (findX x.key l).1 ++ [x] ++ l.drop (if (findX x.key l).2 = true then (findX x.key l).1 + 1 else (findX x.key l).1)

def dropX (l : List RX) (key : ByteArray) : List RX :=
  if (findX key l).2 = true then l.take (findX key l).1 ++ l.drop ((findX key l).1 + 1) else l

def UpX (l : List RX) : Prop := l.Pairwise fun x y => sless x.key y.key = true

theorem findX_le (key : ByteArray) : ∀ l : List RX, (findX key l).1 ≤ l.length
  | [] => Nat.le_refl _
  | x :: l => by
    have := findX_le key l
    unfold findX
    split
    · exact Nat.zero_le _
    · split
      · exact Nat.zero_le _
      · simp; exact this

theorem findX_hit (key : ByteArray) : ∀ l : List RX, (findX key l).2 = true → ∃ h : (findX key l).1 < l.length, l[(findX key l).1].key = key
  | [], h => by simp [findX] at h
  | x :: l, h => by
    by_cases h1 : x.key = key
    · have e : findX key (x :: l) = (0, true) := by unfold findX; rw [if_pos h1]
      simp only [e]
      exact ⟨by simp, by simpa using h1⟩
    · by_cases h2 : sless key x.key = true
      · have e : findX key (x :: l) = (0, false) := by unfold findX; rw [if_neg h1, if_pos h2]
        rw [e] at h; simp at h
      · have e : findX key (x :: l) = ((findX key l).1 + 1, (findX key l).2) := by rw [findX, if_neg h1, if_neg h2]
        rw [e] at h
        obtain ⟨h3, h4⟩ := findX_hit key l h
        simp only [e]
        exact ⟨by simp; exact h3, by simpa using h4⟩

theorem findX_mem {key : ByteArray} {l : List RX} (h : (findX key l).2 = true) : ∃ x ∈ l, x.key = key := by
  obtain ⟨h1, h2⟩ := findX_hit key l h
  exact ⟨_, List.getElem_mem h1, h2⟩

theorem findX_has {key : ByteArray} : ∀ {l : List RX}, UpX l → (∃ x ∈ l, x.key = key) → (findX key l).2 = true
  | [], _, h => by simp at h
  | x :: l, hu, h => by
    unfold findX
    split
    · rfl
    · rename_i h1
      obtain ⟨y, hy, hk⟩ := h
      rcases List.mem_cons.1 hy with rfl | hy
      · exact absurd hk h1
      · have h2 := (List.pairwise_cons.1 hu).1 y hy
        rw [hk] at h2
        split
        · rename_i h3
          have := sless_trans h2 h3
          rw [sless_irrefl] at this; cases this
        · exact findX_has (List.pairwise_cons.1 hu).2 ⟨y, hy, hk⟩

theorem putX_cons (y : RX) (l : List RX) (x : RX) : putX (y :: l) x = if y.key = x.key then x :: l else if sless x.key y.key = true then x :: y :: l else y :: putX l x := by
  unfold putX
  by_cases h1 : y.key = x.key
  · have e : findX x.key (y :: l) = (0, true) := by unfold findX; rw [if_pos h1]
    rw [e, if_pos h1]; simp
  · by_cases h2 : sless x.key y.key = true
    · have e : findX x.key (y :: l) = (0, false) := by unfold findX; rw [if_neg h1, if_pos h2]
      rw [e, if_neg h1, if_pos h2]; simp
    · have e : findX x.key (y :: l) = ((findX x.key l).1 + 1, (findX x.key l).2) := by rw [findX, if_neg h1, if_neg h2]
      rw [e, if_neg h1, if_neg h2]
      cases hb : (findX x.key l).2 <;> simp

theorem putX_nil (x : RX) : putX [] x = [x] := rfl

theorem dropX_cons (y : RX) (l : List RX) (k : ByteArray) : dropX (y :: l) k = if y.key = k then l else if sless k y.key = true then y :: l else y :: dropX l k := by
  unfold dropX
  by_cases h1 : y.key = k
  · have e : findX k (y :: l) = (0, true) := by unfold findX; rw [if_pos h1]
    rw [e, if_pos h1]; simp
  · by_cases h2 : sless k y.key = true
    · have e : findX k (y :: l) = (0, false) := by unfold findX; rw [if_neg h1, if_pos h2]
      rw [e, if_neg h1, if_pos h2]; simp
    · have e : findX k (y :: l) = ((findX k l).1 + 1, (findX k l).2) := by rw [findX, if_neg h1, if_neg h2]
      rw [e, if_neg h1, if_neg h2]
      cases hb : (findX k l).2 <;> simp

theorem sless_ne {a b : ByteArray} (h : sless a b = true) : a ≠ b := by
  intro e; subst e; rw [sless_irrefl] at h; cases h

theorem mem_putX {x y : RX} : ∀ {l : List RX}, UpX l → (y ∈ putX l x ↔ y = x ∨ (y ∈ l ∧ y.key ≠ x.key))
  | [], _ => by simp [putX_nil]
  | z :: l, hu => by
    obtain ⟨h1, h2⟩ := List.pairwise_cons.1 hu
    rw [putX_cons]
    split
    · rename_i hk
      rw [List.mem_cons, List.mem_cons]
      constructor
      · rintro (rfl | hy)
        · exact .inl rfl
        · refine .inr ⟨.inr hy, fun e => sless_ne (h1 y hy) (hk.trans e.symm)⟩
      · rintro (rfl | ⟨rfl | hy, hn⟩)
        · exact .inl rfl
        · exact absurd hk hn
        · exact .inr hy
    · rename_i hk
      split
      · rename_i hl
        rw [List.mem_cons, List.mem_cons]
        constructor
        · rintro (rfl | rfl | hy)
          · exact .inl rfl
          · exact .inr ⟨.inl rfl, hk⟩
          · refine .inr ⟨.inr hy, fun e => ?_⟩
            have := sless_trans hl (h1 y hy)
            rw [e, sless_irrefl] at this; cases this
        · rintro (rfl | ⟨rfl | hy, hn⟩)
          · exact .inl rfl
          · exact .inr (.inl rfl)
          · exact .inr (.inr hy)
      · rw [List.mem_cons, mem_putX h2, List.mem_cons]
        constructor
        · rintro (rfl | rfl | ⟨hy, hn⟩)
          · exact .inr ⟨.inl rfl, hk⟩
          · exact .inl rfl
          · exact .inr ⟨.inr hy, hn⟩
        · rintro (rfl | ⟨rfl | hy, hn⟩)
          · exact .inr (.inl rfl)
          · exact .inl rfl
          · exact .inr (.inr ⟨hy, hn⟩)

theorem up_putX {x : RX} : ∀ {l : List RX}, UpX l → UpX (putX l x)
  | [], _ => by rw [putX_nil]; exact List.pairwise_singleton _ _
  | z :: l, hu => by
    obtain ⟨h1, h2⟩ := List.pairwise_cons.1 hu
    rw [putX_cons]
    split
    · rename_i hk
      exact List.pairwise_cons.2 ⟨fun y hy => by rw [← hk]; exact h1 y hy, h2⟩
    · rename_i hk
      split
      · rename_i hl
        refine List.pairwise_cons.2 ⟨fun y hy => ?_, hu⟩
        rcases List.mem_cons.1 hy with rfl | hy
        · exact hl
        · exact sless_trans hl (h1 y hy)
      · rename_i hl
        refine List.pairwise_cons.2 ⟨fun y hy => ?_, up_putX h2⟩
        rcases (mem_putX h2).1 hy with rfl | ⟨hy, _⟩
        · rcases sless_total (a := z.key) (b := y.key) hk with h | h
          · exact h
          · exact absurd h hl
        · exact h1 y hy

theorem mem_dropX {k : ByteArray} {y : RX} : ∀ {l : List RX}, UpX l → (y ∈ dropX l k ↔ y ∈ l ∧ y.key ≠ k)
  | [], _ => by simp [dropX, findX]
  | z :: l, hu => by
    obtain ⟨h1, h2⟩ := List.pairwise_cons.1 hu
    rw [dropX_cons]
    split
    · rename_i hk
      rw [List.mem_cons]
      constructor
      · exact fun hy => ⟨.inr hy, fun e => sless_ne (h1 y hy) (hk.trans e.symm)⟩
      · rintro ⟨rfl | hy, hn⟩
        · exact absurd hk hn
        · exact hy
    · rename_i hk
      split
      · rename_i hl
        rw [List.mem_cons]
        constructor
        · rintro (rfl | hy)
          · exact ⟨.inl rfl, hk⟩
          · refine ⟨.inr hy, fun e => ?_⟩
            have := sless_trans hl (h1 y hy)
            rw [e, sless_irrefl] at this; cases this
        · exact fun h => h.1
      · rw [List.mem_cons, mem_dropX h2, List.mem_cons]
        constructor
        · rintro (rfl | ⟨hy, hn⟩)
          · exact ⟨.inl rfl, hk⟩
          · exact ⟨.inr hy, hn⟩
        · rintro ⟨rfl | hy, hn⟩
          · exact .inl rfl
          · exact .inr ⟨hy, hn⟩

theorem up_dropX {k : ByteArray} : ∀ {l : List RX}, UpX l → UpX (dropX l k)
  | [], _ => by simp [dropX, findX, UpX]
  | z :: l, hu => by
    obtain ⟨h1, h2⟩ := List.pairwise_cons.1 hu
    rw [dropX_cons]
    split
    · exact h2
    · split
      · exact hu
      · exact List.pairwise_cons.2 ⟨fun y hy => h1 y ((mem_dropX h2).1 hy).1, up_dropX h2⟩

theorem putX_new {l : List RX} {x : RX} (h : (findX x.key l).2 = false) : (putX l x).length = l.length + 1 := by
  unfold putX
  have := findX_le x.key l
  simp only [List.length_append, List.length_take, List.length_drop, List.length_cons, List.length_nil, h]
  simp; omega

theorem up_ext {α : Type} {lt : α → α → Prop} (ha : ∀ a b, lt a b → ¬ lt b a) : ∀ {l m : List α}, l.Pairwise lt → m.Pairwise lt → (∀ x, x ∈ l ↔ x ∈ m) → l = m
  | [], [], _, _, _ => rfl
  | [], b :: m, _, _, h => by have := (h b).2 (by simp); simp at this
  | a :: l, [], _, _, h => by have := (h a).1 (by simp); simp at this
  | a :: l, b :: m, hl, hm, h => by
    obtain ⟨l1, l2⟩ := List.pairwise_cons.1 hl
    obtain ⟨m1, m2⟩ := List.pairwise_cons.1 hm
    have e : a = b := by
      rcases List.mem_cons.1 ((h a).1 (by simp)) with e | ha'
      · exact e
      · rcases List.mem_cons.1 ((h b).2 (by simp)) with e | hb'
        · exact e.symm
        · exact absurd (l1 b hb') (ha b a (m1 a ha'))
    subst e
    have irr : ∀ x, ¬ lt x x := fun x hx => ha x x hx hx
    refine congrArg _ (up_ext ha l2 m2 fun x => ⟨fun hx => ?_, fun hx => ?_⟩)
    · rcases List.mem_cons.1 ((h x).1 (List.mem_cons_of_mem _ hx)) with e | h'
      · exact absurd (l1 x hx) (by rw [e]; exact irr _)
      · exact h'
    · rcases List.mem_cons.1 ((h x).2 (List.mem_cons_of_mem _ hx)) with e | h'
      · exact absurd (m1 x hx) (by rw [e]; exact irr _)
      · exact h'

end Go.Proofs.YtgmkldaonkbjgaaGreatDoor
namespace Go.Proofs.YtgmkldaonkbjgaaGreatDoor
open Go Go.Sx Go.Proofs.YtgmkldaonkbjgaaGreatDoor.C

theorem cells_vs {h : Heap} {b o : Nat} {x : RX} (hc : Cells h b o (encX x)) : Cells h b (o + 1) x.vs := fun i v hv => by
  have := hc (i + 1) v hv
  rw [show o + 1 + i = o + (i + 1) by omega]; exact this

theorem swp_seq {P : Program} {a b : SCode} {Q : Post} {σ : Env} {ds : List Deferred} {h : Heap} (hs : swp P a (thenQ (swp P b Q) Q) σ ds h) : swp P (.seq a b) Q σ ds h := hs

theorem TH.hasU {h : Heap} {vs : List Value} {t : Thing} (x : TH h vs t) : vs[5]? = some (.bool t.hasU) := by
  obtain ⟨pv, lv, rv, rfl, _⟩ := x
  rfl
theorem TH.unt {h : Heap} {vs : List Value} {t : Thing} (x : TH h vs t) : vs[6]? = some (.int .i64 t.unt) := by
  obtain ⟨pv, lv, rv, rfl, _⟩ := x
  rfl

def KeysFit (l : List RX) : Prop := ∀ x ∈ l, x.key.size < 4611686018427387904

def goneT (t : Thing) (now : Int) : Bool := t.hasU && decide (t.unt ≤ now)
end Go.Proofs.YtgmkldaonkbjgaaGreatDoor
namespace Go.Proofs.YtgmkldaonkbjgaaGreatDoor
open Go Go.Sx Go.Proofs.YtgmkldaonkbjgaaGreatDoor.C

structure KI where
  key : ByteArray
  tb : Nat
  vs : List Value
  thing : Thing
  born : Nat

def KI.ent (i : KI) : MapEntry := { key := .string i.key, val := ptr i.tb, born := i.born }
def KI.pr (i : KI) : ByteArray × Thing := (i.key, i.thing)
def RX.pr (i : RX) : ByteArray × Thing := (i.key, i.thing)

structure KR (h : Heap) (kb sb mb c : Nat) (m : List KI) : Prop where
  ks : KS h kb sb mb
  map : MapB h mb (m.map KI.ent) c
  here : ∀ i ∈ m, Blk h i.tb i.vs ∧ TH h i.vs i.thing ∧ Lens i.thing
  nodup : (m.map KI.key).Nodup
  born : ∀ i ∈ m, i.born < c
  borns : (m.map KI.born).Nodup
  keys : ∀ i ∈ m, i.key.size ≤ 1048576
  len : m.length ≤ 65536

theorem KR.ext {h h' : Heap} {kb sb mb c : Nat} {m : List KI} (x : KR h kb sb mb c m) (hc : Chg [] h h') : KR h' kb sb mb c m :=
  ⟨x.ks.chg hc (by simp) (by simp), x.map.chg hc (by simp), fun i hi => ⟨(x.here i hi).1.chg hc (by simp), (x.here i hi).2.1.ext hc, (x.here i hi).2.2⟩, x.nodup, x.born, x.borns, x.keys, x.len⟩

theorem ents_fit (m : List KI) : ∀ e ∈ m.map KI.ent, fits .str e.key = true := by
  intro e he
  obtain ⟨i, _, rfl⟩ := List.mem_map.1 he
  rfl

theorem str_same (a b : ByteArray) : Instr.sameBits 10000 (.string a) (.string b) = decide (a = b) := by
  cases hd : decide (a = b) with
  | true =>
    have := of_decide_eq_true hd
    subst this
    exact sameBits_refl (k := .str) rfl
  | false =>
    cases h : Instr.sameBits 10000 (.string a) (.string b) with
    | false => rfl
    | true =>
      have := sameBits_eq (k := .str) rfl rfl h
      simp at this
      exact absurd this (of_decide_eq_false hd)

theorem mfind_ents (key : ByteArray) : ∀ (m : List KI) (n : Nat), (mfind (.string key) (m.map KI.ent) n = none ∧ ∀ i ∈ m, i.key ≠ key) ∨
    ∃ (j : Nat) (i : KI), mfind (.string key) (m.map KI.ent) n = some (n + j, ptr i.tb) ∧ m[j]? = some i ∧ i.key = key
  | [], n => .inl ⟨rfl, by simp⟩
  | x :: m, n => by
    simp only [List.map_cons, mfind]
    rw [show (KI.ent x).key = .string x.key from rfl, str_same]
    by_cases hk : key = x.key
    · exact .inr ⟨0, x, by simp [hk, KI.ent], rfl, hk.symm⟩
    · rw [if_neg (by simpa using hk)]
      rcases mfind_ents key m (n + 1) with ⟨h1, h2⟩ | ⟨j, i, h1, h2, h3⟩
      · exact .inl ⟨h1, fun i hi => by
          rcases List.mem_cons.1 hi with rfl | hi
          · exact fun e => hk e.symm
          · exact h2 i hi⟩
      · exact .inr ⟨j + 1, i, by rw [h1, show n + 1 + j = n + (j + 1) by omega], by simpa using h2, h3⟩

def ofX : List RX → List RX → Option (List RX)
  | acc, [] => some acc
  | acc, x :: r => if (findX x.key acc).2 = true ∨ kOK x.thing = false then none else ofX (putX acc x) r

structure NVast (l : List RX) : Prop where
  len : l.length ≤ 20
  keys : ∀ x ∈ l, x.key.size ≤ 300
  small : ∀ x ∈ l, Small x.thing

theorem NVast.fit {l : List RX} (n : NVast l) : KeysFit l := fun x hx => by have := n.keys x hx; omega

theorem ofX_ok : ∀ {r acc k : List RX}, UpX acc → ofX acc r = some k → UpX k ∧ (∀ y, y ∈ k ↔ y ∈ acc ∨ y ∈ r) ∧ k.length = acc.length + r.length
  | [], acc, k, hu, h => by
    simp only [ofX, Option.some.injEq] at h
    subst h
    exact ⟨hu, by simp, by simp⟩
  | x :: r, acc, k, hu, h => by
    simp only [ofX] at h
    split at h
    · cases h
    · rename_i hn
      have hf : (findX x.key acc).2 = false := by
        cases hb : (findX x.key acc).2 with
        | false => rfl
        | true => exact absurd (.inl hb) hn
      obtain ⟨h1, h2, h3⟩ := ofX_ok (up_putX hu) h
      refine ⟨h1, fun y => ?_, by rw [h3, putX_new hf]; simp; omega⟩
      rw [h2, mem_putX hu, List.mem_cons]
      constructor
      · rintro ((rfl | ⟨h, _⟩) | h)
        · exact .inr (.inl rfl)
        · exact .inl h
        · exact .inr (.inr h)
      · rintro (h | rfl | h)
        · refine .inl (.inr ⟨h, fun e => ?_⟩)
          have := findX_has hu ⟨y, h, e⟩
          rw [hf] at this; cases this
        · exact .inl (.inl rfl)
        · exact .inr h

theorem ofX_nodup : ∀ {r acc k : List RX}, UpX acc → ofX acc r = some k → (r.map (·.key)).Nodup ∧ ∀ x ∈ r, kOK x.thing = true
  | [], acc, k, hu, h => by simp
  | x :: r, acc, k, hu, h => by
    have h0 := h
    simp only [ofX] at h
    split at h
    · cases h
    · rename_i hn
      obtain ⟨h1, h2⟩ := ofX_nodup (up_putX hu) h
      refine ⟨?_, ?_⟩
      · rw [List.map_cons, List.nodup_cons]
        refine ⟨fun hm => ?_, h1⟩
        obtain ⟨y, hy, hk⟩ := List.mem_map.1 hm
        -- y would have been refused
        have : ∀ {r acc k : List RX}, UpX acc → ofX acc r = some k → ∀ y ∈ r, ∀ z ∈ acc, z.key ≠ y.key := by
          intro r
          induction r with
          | nil => intro acc k _ _ y hy; simp at hy
          | cons w r ih =>
            intro acc k hu h y hy z hz e
            simp only [ofX] at h
            split at h
            · cases h
            · rename_i hn
              rcases List.mem_cons.1 hy with rfl | hy
              · exact hn (.inl (findX_has hu ⟨z, hz, e⟩))
              · by_cases hzw : z.key = w.key
                · exact ih (up_putX hu) h y hy w ((mem_putX hu).2 (.inl rfl)) (hzw.symm.trans e)
                · exact ih (up_putX hu) h y hy z ((mem_putX hu).2 (.inr ⟨hz, hzw⟩)) e
        exact this (up_putX hu) h y hy x ((mem_putX hu).2 (.inl rfl)) hk.symm
      · intro y hy
        rcases List.mem_cons.1 hy with rfl | hy
        · cases hk : kOK y.thing with
          | true => rfl
          | false => exact absurd (.inr hk) hn
        · exact h2 y hy

end Go.Proofs.YtgmkldaonkbjgaaGreatDoor
namespace Go.Proofs.YtgmkldaonkbjgaaGreatDoor
open Go Go.Sx Go.Proofs.YtgmkldaonkbjgaaGreatDoor.C

structure CH (h h' : Heap) : Prop where
  blk : ∀ b l, Blk h b l → Blk h' b l
  cell : ∀ b o v, cell h b o = some v → cell h' b o = some v

theorem CH.trans {a b c : Heap} (x : CH a b) (y : CH b c) : CH a c := ⟨fun _ _ hb => y.blk _ _ (x.blk _ _ hb), fun _ _ _ hb => y.cell _ _ _ (x.cell _ _ _ hb)⟩

theorem ne_map {h : Heap} {b mb c : Nat} {l : List Value} {es : List MapEntry} (hb : Blk h b l) (hm : MapB h mb es c) : b ≠ mb := by
  rintro rfl
  obtain ⟨e, he⟩ := hb
  have hm : h[b]? = _ := hm
  rw [he] at hm; cases hm

theorem ch_putO {h h' : Heap} {mb c : Nat} {es : List MapEntry} {o : Obj} (hm : MapB h mb es c) (p : PutO h h' mb o) : CH h h' := by
  refine ⟨fun b l hb => ?_, fun b o v hc => ?_⟩
  · have := ne_map hb hm
    obtain ⟨e, he⟩ := hb
    exact ⟨e, by rw [p.old b this]; exact he⟩
  · have hne : b ≠ mb := by
      rintro rfl
      have hm : h[b]? = _ := hm
      unfold Sx.cell at hc
      rw [hm] at hc; cases hc
    unfold Sx.cell at hc ⊢
    rw [p.old b hne]; exact hc

theorem SL.ch {α : Type} {enc : α → List Value} {h h' : Heap} {v : Value} {l : List α} (hs : SL enc h v l) (x : CH h h') : SL enc h' v l := by
  obtain ⟨a, c, rfl, h1, h2⟩ := hs
  refine ⟨a, c, rfl, h1, ?_⟩
  cases a with
  | none => exact h2
  | some a =>
    obtain ⟨b, o, sp⟩ := a
    cases sp with
    | some q => exact h2
    | none => exact fun i v hv => x.cell _ _ _ (h2 i v hv)

theorem TH.ch {h h' : Heap} {vs : List Value} {t : Thing} (x : TH h vs t) (hc : CH h h') : TH h' vs t := by
  obtain ⟨pv, lv, rv, rfl, h2, h3, h4⟩ := x
  exact ⟨pv, lv, rv, rfl, SL.ch h2 hc, SL.ch h3 hc, SL.ch h4 hc⟩

theorem KS.ch {h h' : Heap} {kb sb mb : Nat} (x : KS h kb sb mb) (hc : CH h h') : KS h' kb sb mb := ⟨hc.blk _ _ x.k, hc.blk _ _ x.s⟩

theorem KR.put {h h' : Heap} {kb sb mb c tb : Nat} {m : List KI} {key : ByteArray} {us : List Value} {t : Thing} (x : KR h kb sb mb c m)
    (p : PutO h h' mb (.map ⟨m.map KI.ent ++ [{ key := .string key, val := ptr tb, born := c }]⟩ (c + 1))) (hn : ∀ i ∈ m, i.key ≠ key) (hk : key.size ≤ 1048576) (B : Blk h tb us) (tx : TH h us t) (n : Lens t) (hl : m.length < 65536) :
    KR h' kb sb mb (c + 1) (m ++ [⟨key, tb, us, t, c⟩]) := by
  have ch := ch_putO x.map p
  refine ⟨x.ks.ch ch, ?_, fun i hi => ?_, ?_, fun i hi => ?_, ?_, fun i hi => ?_, by simp; omega⟩
  · show h'[mb]? = _
    rw [p.blk]
    simp [KI.ent]
  · rcases List.mem_append.1 hi with hi | hi
    · obtain ⟨h1, h2, h3⟩ := x.here i hi
      exact ⟨ch.blk _ _ h1, h2.ch ch, h3⟩
    · simp at hi
      subst hi
      exact ⟨ch.blk _ _ B, tx.ch ch, n⟩
  · rw [List.map_append, List.nodup_append]
    refine ⟨x.nodup, by simp, ?_⟩
    intro a ha b hb
    obtain ⟨i, hi, rfl⟩ := List.mem_map.1 ha
    simp at hb
    subst hb
    exact hn i hi
  · rcases List.mem_append.1 hi with hi | hi
    · have := x.born i hi; omega
    · simp at hi
      subst hi
      exact Nat.lt_succ_self _
  · rw [List.map_append, List.nodup_append]
    refine ⟨x.borns, by simp, ?_⟩
    intro a ha b hb
    obtain ⟨i, hi, rfl⟩ := List.mem_map.1 ha
    simp at hb
    subst hb
    have := x.born i hi
    exact fun e => by omega
  · rcases List.mem_append.1 hi with hi | hi
    · exact x.keys i hi
    · simp at hi
      subst hi
      exact hk

theorem eight {ws vs : List Value} (hw : ws.length = 8) (hv : vs.length = 8) : splice ws 0 vs = vs := by
  match ws, hw, vs, hv with
  | [_, _, _, _, _, _, _, _], _, [_, _, _, _, _, _, _, _], _ => rfl

def zeroX : List Value := [.string ⟨#[]⟩, .int .i64 0, .string ⟨#[]⟩, .slice none 0 0, .slice none 0 0, .slice none 0 0, .bool false, .int .i64 0]

theorem cells_tail {h : Heap} {b : Nat} {x : RX} (B : Blk h b (encX x)) : Cells h b 1 x.vs := cells_part B fun i v hv => by
  rw [Nat.add_comm]; exact hv

def OfK (h : Heap) (l : List RX) (r : Value) (h' : Heap) : Prop := Chg [] h h' ∧ match ofX [] l with
  | none => r = .tuple #[.pointer none, .int .i64 2]
  | some _ => ∃ kb sb mb c m, r = .tuple #[ptr kb, .int .i64 0] ∧ KR h' kb sb mb c m ∧ m.map KI.pr = l.map RX.pr ∧ h.size ≤ mb

theorem ofK_bad {h h' : Heap} {l : List RX} (hc : Chg [] h h') (hn : ofX [] l = none) : OfK h l (.tuple #[.pointer none, .int .i64 2]) h' := by
  refine ⟨hc, ?_⟩
  rw [hn]

theorem KOf_calls {h : Heap} {v : Value} {l : List RX} (hv : SL encX h v l) (g : GX h l) (nv : NVast l) :
    CallsH Tryz.prog 10 [v] h (Ret (OfK h l)) := by
  have hl := nv.len
  obtain ⟨a, c, rfl, hlc⟩ := hv.form
  refine f10_calls (by simp) ?_
  refine call_ret New_calls ?_
  rintro _ h1 ⟨kb, sb, mb, rfl, ks1, hm1, emb, _, _, hc1⟩
  have kr1 : KR h1 kb sb mb 0 [] := ⟨ks1, hm1, by simp, by simp, by simp, by simp, by simp, by simp⟩
  refine loop_intro (fun k : Nat => [(0, .slice a l.length c), (4, ptr kb), (11, .slice a l.length c), (12, .int .i64 l.length), (13, .int .i64 k)])
    (fun k h' => k ≤ l.length ∧ Chg [] h h' ∧ ∃ m acc, KR h' kb sb mb k m ∧ m.map KI.pr = (l.take k).map RX.pr ∧ UpX acc ∧ ofX [] l = ofX acc (l.drop k) ∧ ∀ y, y ∈ acc ↔ y ∈ l.take k) (fun k => l.length - k) 0
    ⟨rfl, rfl, rfl, rfl, rfl, trivial⟩ ⟨Nat.zero_le _, hc1, [], [], kr1, rfl, List.Pairwise.nil, rfl, by simp⟩ ?_
  rintro k h2 ⟨hk, hc2, m, acc, kr2, hpr, hup, hof, hacc⟩
  refine And.intro rfl (And.intro (fun ht => ?_) (fun ht => ?_))
  · have hlt : k < l.length := by omega
    obtain ⟨b, o, rfl⟩ := hv.addr (by omega)
    have hcs := (hv.ext hc2).cells encX_len (i := k) (x := l[k]) (by simp [hlt])
    have hdr : l.drop k = l[k] :: l.drop (k + 1) := List.drop_eq_getElem_cons hlt
    have tk : l.take (k + 1) = l.take k ++ [l[k]] := take_snoc l k hlt
    have hmem : l[k] ∈ l := List.getElem_mem hlt
    have hx := g _ hmem
    have hsm := nv.small _ hmem
    have hkz := nv.keys _ hmem
    generalize hxe : l[k] = x at *
    have hml : m.length = k := by
      have := congrArg List.length hpr
      simp at this; omega
    refine And.intro (by omega) (And.intro ht (Exists.intro (encX x) (And.intro (encX_len x) (And.intro hcs ?_))))
    intro b6 h3 g3
    refine Exists.intro _ (And.intro g3.blk (And.intro (by decide) (And.intro (encX_len x) (And.intro (encX_one x) ?_))))
    intro h4 p4
    have g4 := g3.put p4
    have B4 : Blk h4 b6 (encX x) := by
      have h8 : Blk h4 b6 (splice zeroX 0 (encX x)) := p4.blk
      rw [eight rfl (encX_len x)] at h8
      exact h8
    have c24 := g4.chg
    have kr4 := kr2.ext c24
    have hc4 := hc2.nil c24
    refine Exists.intro _ (And.intro (cell_blk kr4.ks.k rfl) (Exists.intro _ (And.intro (cell_blk kr4.ks.s rfl) (Exists.intro _ (And.intro (cell_blk B4 rfl) ?_)))))
    refine And.intro rfl (Exists.intro (m.map KI.ent) (Exists.intro k (And.intro kr4.map (And.intro (ents_fit m) ?_))))
    rw [hdr] at hof
    rcases mfind_ents x.key m 0 with ⟨hmf, hno⟩ | ⟨j, i, hmf, hj, hik⟩
    rotate_left
    · rw [hmf]
      refine ofK_bad hc4 ?_
      have him : i ∈ m := List.mem_of_getElem? hj
      have : i.pr ∈ (l.take k).map RX.pr := by rw [← hpr]; exact List.mem_map_of_mem him
      obtain ⟨y, hy, hyp⟩ := List.mem_map.1 this
      have hyk : y.key = x.key := by
        have := congrArg Prod.fst hyp
        exact this.trans hik
      rw [hof, ofX, if_pos (.inl (findX_has hup ⟨y, (hacc y).2 hy, hyk⟩))]
    · rw [hmf]
      refine Exists.intro _ (And.intro (cell_blk B4 rfl) ?_)
      refine And.intro rfl (And.intro (fun big => absurd big (by omega)) (fun _ => ?_))
      refine Exists.intro x.vs (And.intro x.len (And.intro (cells_tail B4) ?_))
      refine call_ret (KCheck_calls (hx.ext hc4) hsm) ?_
      rintro r h5 ⟨hr, c45⟩
      have hc5 := hc4.nil c45
      have hfn : (findX x.key acc).2 = false := by
        cases hb : (findX x.key acc).2 with
        | false => rfl
        | true =>
          obtain ⟨y, hy, hyk⟩ := findX_mem hb
          have : y.pr ∈ m.map KI.pr := by rw [hpr]; exact List.mem_map_of_mem ((hacc y).1 hy)
          obtain ⟨i, hi, hip⟩ := List.mem_map.1 this
          have : i.key = y.key := congrArg Prod.fst hip
          exact absurd (this.trans hyk) (hno i hi)
      cases hko : kOK x.thing with
      | false =>
        rw [hko] at hr
        subst hr
        refine ofK_bad hc5 ?_
        rw [hof, ofX, if_pos (.inr hko)]
      | true =>
        rw [hko] at hr
        subst hr
        have B5 := B4.chg c45 (by simp)
        refine Exists.intro x.vs (And.intro x.len (And.intro (cells_tail B5) ?_))
        refine call_ret (copied_calls (hx.ext hc5) hsm.lens) ?_
        rintro _ h6 ⟨⟨us, rfl, tu, hub⟩, c56⟩
        intro b9 h7 g7
        refine Exists.intro _ (And.intro g7.blk (And.intro (by decide) (And.intro tu.len (And.intro (thing_one tu) ?_))))
        intro h8 p8
        have g8 := g7.put p8
        have B8 : Blk h8 b9 us := by
          have h9 : Blk h8 b9 (splice zeroV 0 us) := p8.blk
          rw [seven rfl tu.len] at h9
          exact h9
        have c58 := c56.nil g8.chg
        have kr8 := (kr4.ext c45).ext c58
        have B68 := B5.chg c58 (by simp)
        refine Exists.intro _ (And.intro (cell_blk kr8.ks.k rfl) (Exists.intro _ (And.intro (cell_blk kr8.ks.s rfl) (Exists.intro _ (And.intro (cell_blk B68 rfl) ?_)))))
        refine And.intro rfl (Exists.intro (m.map KI.ent) (Exists.intro k (And.intro kr8.map (And.intro (ents_fit m) ?_))))
        rw [hmf]
        intro h9 p9
        have kr9 := kr8.put p9 hno (by omega) B8 (tu.ext g8.chg) hsm.lens (by omega)
        have hc8 := hc5.nil c58
        refine And.intro rfl (fun z hz => ?_)
        have hz := add_in hz (by omega) (by omega)
        subst hz
        refine And.intro rfl (Exists.intro (k + 1) (And.intro ?_ (And.intro ?_ ?_)))
        · exact ⟨rfl, rfl, rfl, rfl, rfl, trivial⟩
        · refine ⟨by omega, hc8.fresh p9.chg (by simp; omega), _, putX acc x, kr9, ?_, up_putX hup, ?_, fun y => ?_⟩
          · rw [tk, List.map_append, List.map_append, hpr]; rfl
          · rw [hof, ofX, if_neg]
            rintro (h | h)
            · rw [hfn] at h; cases h
            · rw [hko] at h; cases h
          · rw [mem_putX hup, tk, List.mem_append, List.mem_singleton, hacc]
            constructor
            · rintro (h | ⟨h, _⟩)
              · exact .inr h
              · exact .inl h
            · rintro (h | h)
              · refine .inr ⟨h, fun e => ?_⟩
                have := findX_has hup ⟨y, (hacc y).2 h, e⟩
                rw [hfn] at this; cases this
              · exact .inl h
        · omega
  · have hlt : k = l.length := by omega
    subst hlt
    refine And.intro rfl (And.intro (fun big => absurd big (by omega)) (fun _ => ?_))
    refine ⟨hc2, ?_⟩
    rw [hof, List.drop_length, ofX]
    rw [List.take_length] at hpr
    exact ⟨kb, sb, mb, _, m, rfl, kr2, hpr, by omega⟩

end Go.Proofs.YtgmkldaonkbjgaaGreatDoor
namespace Go.Proofs
open Go.RowKit Go.Maps Go.Sort Go.Shelf

/- numbers: mapT=69 keyT=9 -/
def Tryz.keys94_ren : Go.Shelf.Ren := ⟨fun | 7 => 94 | 10 => 148 | n => n, fun | 23 => 69 | 26 => 9 | 3 => 64 | 28 => 143 | 0 => 0 | 27 => 142 | 33 => 146 | 4 => 4 | n => n, fun | n => n⟩
theorem Tryz.keys94 : Go.Proofs.SlLaysZ.n7 Tryz.prog Tryz.keys94_ren := {
  mixed := by kernel_rfl
  f7 := ⟨Tryz.f94.name, by decide, Tryz.func94.trans (congrArg some (by kernel_rfl))⟩
  f10 := ⟨Tryz.f148.name, by decide, Tryz.func148.trans (congrArg some (by kernel_rfl))⟩
  t0 := Tryz.underlying0
  a0 := Tryz.isAgg0
  z0 := Tryz.sizeOf0
  v0 := Tryz.zeroValue0
  t4 := Tryz.underlying4
  a4 := Tryz.isAgg4
  z4 := Tryz.sizeOf4
  v4 := Tryz.zeroValue4
  t23 := Tryz.underlying69
  a23 := Tryz.isAgg69
  z23 := Tryz.sizeOf69
  v23 := Tryz.zeroValue69
  t26 := Tryz.underlying9
  a26 := Tryz.isAgg9
  z26 := Tryz.sizeOf9
  v26 := Tryz.zeroValue9
  t27 := Tryz.underlying142
  a27 := Tryz.isAgg142
  z27 := Tryz.sizeOf142
  v27 := Tryz.zeroValue142
  t28 := Tryz.underlying143
  a28 := Tryz.isAgg143
  z28 := Tryz.sizeOf143
  v28 := Tryz.zeroValue143
  t33 := Tryz.underlying146
  a33 := Tryz.isAgg146
  z33 := Tryz.sizeOf146
  v33 := Tryz.zeroValue146 }

def Tryz.sorted93_ren : Go.Shelf.Ren := ⟨fun | 6 => 93 | 8 => 146 | 9 => 147 | 11 => 172 | 13 => 174 | 12 => 173 | 23 => 197 | 24 => 168 | 14 => 188 | 15 => 189 | 16 => 190 | 17 => 191 | 18 => 192 | 19 => 193 | 20 => 194 | 21 => 195 | 22 => 196 | 25 => 206 | 26 => 207 | 27 => 208 | 28 => 209 | 29 => 210 | 30 => 211 | 31 => 219 | n => n, fun | 26 => 9 | 28 => 143 | 24 => 24 | 0 => 0 | 3 => 3 | 37 => 204 | 48 => 201 | 50 => 167 | 4 => 4 | 40 => 217 | 39 => 216 | 45 => 91 | 5 => 5 | 9 => 9 | 51 => 230 | 55 => 234 | 57 => 242 | 58 => 243 | 33 => 146 | n => n, fun | n => n⟩
theorem Tryz.sorted93 : Go.Proofs.SlLaysZ.n6 Tryz.prog Tryz.sorted93_ren := {
  mixed := by kernel_rfl
  f6 := ⟨Tryz.f93.name, by decide, Tryz.func93.trans (congrArg some (by kernel_rfl))⟩
  f8 := ⟨Tryz.f146.name, by decide, Tryz.func146.trans (congrArg some (by kernel_rfl))⟩
  f11 := ⟨Tryz.f172.name, by decide, Tryz.func172.trans (congrArg some (by kernel_rfl))⟩
  t0 := Tryz.underlying0
  a0 := Tryz.isAgg0
  z0 := Tryz.sizeOf0
  v0 := Tryz.zeroValue0
  t24 := Tryz.underlying24
  a24 := Tryz.isAgg24
  z24 := Tryz.sizeOf24
  v24 := Tryz.zeroValue24
  t26 := Tryz.underlying9
  a26 := Tryz.isAgg9
  z26 := Tryz.sizeOf9
  v26 := Tryz.zeroValue9
  t28 := Tryz.underlying143
  a28 := Tryz.isAgg143
  z28 := Tryz.sizeOf143
  v28 := Tryz.zeroValue143
  i26 := by kernel_rfl }

def Tryz.sort147_ren : Go.Shelf.Ren := ⟨fun | 6 => 147 | 8 => 174 | 9 => 173 | 19 => 197 | 20 => 168 | 21 => 188 | 22 => 189 | 23 => 190 | 24 => 191 | 25 => 192 | 26 => 193 | 27 => 194 | 28 => 195 | 29 => 196 | 36 => 206 | 31 => 207 | 32 => 208 | 37 => 209 | 38 => 210 | 39 => 211 | 41 => 219 | n => n, fun | 27 => 24 | 29 => 9 | 3 => 3 | 32 => 204 | 26 => 24 | 0 => 0 | 44 => 201 | 46 => 167 | 4 => 4 | 36 => 217 | 35 => 216 | 41 => 91 | 5 => 5 | 9 => 9 | 53 => 230 | 57 => 234 | 63 => 242 | 64 => 243 | n => n, fun | n => n⟩
theorem Tryz.sort147 : Go.Proofs.SlLaysM.n6 Tryz.prog Tryz.sort147_ren := {
  mixed := by kernel_rfl
  f6 := ⟨Tryz.f147.name, by decide, Tryz.func147.trans (congrArg some (by kernel_rfl))⟩
  f8 := Tryz.func174.trans (congrArg some (by kernel_rfl))
  f9 := ⟨Tryz.f173.name, by decide, Tryz.func173.trans (congrArg some (by kernel_rfl))⟩
  f19 := Tryz.func197.trans (congrArg some (by kernel_rfl))
  f20 := Tryz.func168.trans (congrArg some (by kernel_rfl))
  f21 := ⟨Tryz.f188.name, by decide, Tryz.func188.trans (congrArg some (by kernel_rfl))⟩
  f22 := ⟨Tryz.f189.name, by decide, Tryz.func189.trans (congrArg some (by kernel_rfl))⟩
  f23 := ⟨Tryz.f190.name, by decide, Tryz.func190.trans (congrArg some (by kernel_rfl))⟩
  f24 := ⟨Tryz.f191.name, by decide, Tryz.func191.trans (congrArg some (by kernel_rfl))⟩
  f25 := ⟨Tryz.f192.name, by decide, Tryz.func192.trans (congrArg some (by kernel_rfl))⟩
  f26 := ⟨Tryz.f193.name, by decide, Tryz.func193.trans (congrArg some (by kernel_rfl))⟩
  f27 := ⟨Tryz.f194.name, by decide, Tryz.func194.trans (congrArg some (by kernel_rfl))⟩
  f28 := ⟨Tryz.f195.name, by decide, Tryz.func195.trans (congrArg some (by kernel_rfl))⟩
  f29 := ⟨Tryz.f196.name, by decide, Tryz.func196.trans (congrArg some (by kernel_rfl))⟩
  f31 := Tryz.func207.trans (congrArg some (by kernel_rfl))
  f32 := Tryz.func208.trans (congrArg some (by kernel_rfl))
  f36 := ⟨Tryz.f206.name, by decide, Tryz.func206.trans (congrArg some (by kernel_rfl))⟩
  f37 := ⟨Tryz.f209.name, by decide, Tryz.func209.trans (congrArg some (by kernel_rfl))⟩
  f38 := ⟨Tryz.f210.name, by decide, Tryz.func210.trans (congrArg some (by kernel_rfl))⟩
  f39 := ⟨Tryz.f211.name, by decide, Tryz.func211.trans (congrArg some (by kernel_rfl))⟩
  f41 := ⟨Tryz.f219.name, by decide, Tryz.func219.trans (congrArg some (by kernel_rfl))⟩
  t0 := Tryz.underlying0
  a0 := Tryz.isAgg0
  z0 := Tryz.sizeOf0
  v0 := Tryz.zeroValue0
  t3 := Tryz.underlying3
  a3 := Tryz.isAgg3
  z3 := Tryz.sizeOf3
  v3 := Tryz.zeroValue3
  t4 := Tryz.underlying4
  a4 := Tryz.isAgg4
  z4 := Tryz.sizeOf4
  v4 := Tryz.zeroValue4
  t5 := Tryz.underlying5
  a5 := Tryz.isAgg5
  z5 := Tryz.sizeOf5
  v5 := Tryz.zeroValue5
  t9 := Tryz.underlying9
  a9 := Tryz.isAgg9
  z9 := Tryz.sizeOf9
  v9 := Tryz.zeroValue9
  t26 := Tryz.underlying24
  a26 := Tryz.isAgg24
  z26 := Tryz.sizeOf24
  v26 := Tryz.zeroValue24
  t27 := Tryz.underlying24
  a27 := Tryz.isAgg24
  z27 := Tryz.sizeOf24
  v27 := Tryz.zeroValue24
  t29 := Tryz.underlying9
  a29 := Tryz.isAgg9
  z29 := Tryz.sizeOf9
  v29 := Tryz.zeroValue9
  t32 := Tryz.underlying204
  a32 := Tryz.isAgg204
  z32 := Tryz.sizeOf204
  v32 := Tryz.zeroValue204
  t35 := Tryz.underlying216
  a35 := Tryz.isAgg216
  z35 := Tryz.sizeOf216
  v35 := Tryz.zeroValue216
  t36 := Tryz.underlying217
  a36 := Tryz.isAgg217
  z36 := Tryz.sizeOf217
  v36 := Tryz.zeroValue217
  t41 := Tryz.underlying91
  a41 := Tryz.isAgg91
  z41 := Tryz.sizeOf91
  v41 := Tryz.zeroValue91
  t44 := Tryz.underlying201
  a44 := Tryz.isAgg201
  z44 := Tryz.sizeOf201
  v44 := Tryz.zeroValue201
  t46 := Tryz.underlying167
  a46 := Tryz.isAgg167
  z46 := Tryz.sizeOf167
  v46 := Tryz.zeroValue167
  t53 := Tryz.underlying230
  a53 := Tryz.isAgg230
  z53 := Tryz.sizeOf230
  v53 := Tryz.zeroValue230
  t57 := Tryz.underlying234
  a57 := Tryz.isAgg234
  z57 := Tryz.sizeOf234
  v57 := Tryz.zeroValue234
  t63 := Tryz.underlying242
  a63 := Tryz.isAgg242
  z63 := Tryz.sizeOf242
  v63 := Tryz.zeroValue242
  t64 := Tryz.underlying243
  a64 := Tryz.isAgg243
  z64 := Tryz.sizeOf243
  v64 := Tryz.zeroValue243 }


theorem Tryz.sorts93 (m : Nat) : AnyZ.SortsIn Tryz.prog Tryz.sorted93_ren Fence.wide m :=
  ⟨fun blk off cap ss W hH hblk hsz => callsIn_wide.2 (AnyM.slices_Sort_string Tryz.sort147 blk off cap ss W hH hblk hsz),
   fun p cap W => callsIn_wide.2 (AnyM.slices_Sort_string_none Tryz.sort147 p cap W)⟩

theorem Tryz.maps_Keys_94 (mb : Option Nat) (W : World) : CallsIn Fence.wide 5 Tryz.prog 94 #[.map mb] W fun e w' => e = .returned (.func (.func 148) #[] #[.pointer (some ⟨W.heap.size, 0, none⟩)]) ∧ w' = W.alloc (.cells #[.map mb] 69) :=
  AnyZ.keys_in Tryz.keys94 Fence.wide 5 trivial rfl mb W

set_option maxHeartbeats 1000000 in
/-- **slices.Sorted[string] AT WHAT maps.Keys[map[string]*tabor/api.Thing,string,*tabor/api.Thing] HANDED BACK FOR A MAP THAT IS NOT nil** ('w': the world AHEAD of maps.Keys' call): A NEW SLICE THAT HOLDS THE MAP's KEYS, SORTED; nil just where it has none; nothing that lay before has turned. -/
theorem Tryz.slices_Sorted_keys_93_94 {H : Type} (b nn : Nat) (D0 : DataW H) (R : Value → Option (DataW H × List MemPlace)) (w : World) (hown : w.ownsMap Tryz.prog 9 R b nn D0) (hmax : Maps.size D0 ≤ maxLen) (hbytes : Maps.size D0 * 16 ≤ 140737488355328) :
    CallsIn Fence.wide 5 Tryz.prog 93 #[.func (.func 148) #[] #[.pointer (some ⟨w.heap.size, 0, none⟩)]] (w.alloc (.cells #[.map (some b)] 69)) fun e w' => ∃ (v : Value) (ss : List (List UInt8)), e = .returned v ∧ ss.Perm (strKeys D0) ∧
      w'.ownsRow (w.alloc (.cells #[.map (some b)] 69)).heap.size 9 1 v ss.length ((ss.mergeSort (fun x y => decide (x ≤ y))).map encStr) ∧ (v = .slice none 0 0 ↔ ss = []) ∧ Below (w.alloc (.cells #[.map (some b)] 69)).heap.size (w.alloc (.cells #[.map (some b)] 69)) w' := by
  have hbl := hown.lt
  have hseq : SeqGives Fence.wide 2 Tryz.prog 148 #[.pointer (some ⟨w.heap.size, 0, none⟩)] encStr (fun ss => ss.Perm (strKeys D0)) (Maps.size D0) (w.alloc (.cells #[.map (some b)] 69)) :=
    AnyZ.keys_gives (ρ := Tryz.keys94_ren) { Tryz.keys94 with } Fence.wide _ trivial rfl (by omega) w.heap.size b nn D0 _ (by simp) (by simp) (by
      obtain ⟨es, clock, hb, Ft, hs, hD⟩ := hown
      exact ⟨es, clock, (Below.heap_alloc _ _ b hbl).trans hb, Ft, hs, hD⟩)
  exact AnyZ.sorted_in Tryz.sorted93 Fence.wide 5 trivial trivial trivial trivial rfl (by omega) (Tryz.sorts93 _) (enters_of Tryz.func147 (by kernel_rfl) rfl) 148 #[.pointer (some ⟨w.heap.size, 0, none⟩)] trivial (enters_of Tryz.func148 (by kernel_rfl) rfl) _ _ hmax hbytes _ hseq

end Go.Proofs
namespace Go.Proofs.YtgmkldaonkbjgaaGreatDoor
open Go Go.Sx Go.Proofs.YtgmkldaonkbjgaaGreatDoor.C

theorem bl_lt : ∀ a b : List UInt8, Op.bytesLess a b = true ↔ a < b
  | [], [] => by simp [Op.bytesLess]
  | a :: x, [] => by simp [Op.bytesLess]
  | [], b :: y => by simp [Op.bytesLess]
  | a :: x, b :: y => by
    rw [List.cons_lt_cons_iff, ← bl_lt x y]
    simp only [Op.bytesLess, Bool.or_eq_true, Bool.and_eq_true, decide_eq_true_eq, beq_iff_eq]

abbrev bytesL (b : ByteArray) : List UInt8 := b.data.toList
abbrev ofL (l : List UInt8) : ByteArray := ⟨l.toArray⟩

def keysHeap (h : Heap) (mb : Nat) : Heap := h.push (.cells #[.map (some mb)] 69)

theorem keysHeap_chg (h : Heap) (mb : Nat) : Chg [] h (keysHeap h mb) := by
  refine ⟨by simp [keysHeap], fun k hk _ => ?_⟩
  unfold keysHeap
  rw [Array.getElem?_push, if_neg (by omega)]

theorem mKeys_calls {h : Heap} {mb : Nat} : CallsH Tryz.prog 94 [.map (some mb)] h (Ret fun r h' => r = .func (.func 148) #[] #[ptr h.size] ∧ h' = keysHeap h mb) := by
  refine ⟨by kernel_rfl, fun w hw => ?_⟩
  refine ((callsIn_wide (n := 5)).1 (Tryz.maps_Keys_94 (some mb) w)).mono ?_
  rintro e w' ⟨rfl, rfl⟩
  refine ⟨?_, by simp, rfl, rfl, rfl⟩
  subst hw
  exact ⟨rfl, rfl⟩

def RN : Value → Option (DataW Unit × List MemPlace) := fun _ => some (.nil, [])

theorem key_reads (s : ByteArray) (hs : s.size ≤ 1048576) : keyOf Tryz.prog 9 (.string s) = some (.string (bytesL s)) := by
  have hu : Tryz.prog.underlying 9 = some .string := Tryz.underlying9
  unfold keyOf
  rw [hu]
  simp only [mapKey, hu]
  rw [if_pos]
  have : (1048576 : Nat) ≤ maxLen := by decide
  exact Nat.le_trans hs this

theorem rg_ent (i : KI) (hs : i.key.size ≤ 1048576) : Go.WideElems.rg Tryz.prog 9 RN i.ent = (.string (bytesL i.key), .nil) := by
  unfold Go.WideElems.rg Go.WideElems.rd
  rw [show i.ent.key = .string i.key from rfl, key_reads _ hs]
  rfl

theorem str_inj_nodup : ∀ {m : List KI}, (m.map KI.key).Nodup → ((m.map KI.ent).map (·.key)).Nodup := by
  intro m h
  rw [List.map_map]
  have e : (MapEntry.key ∘ KI.ent) = Value.string ∘ KI.key := rfl
  rw [e, ← List.map_map]
  exact (List.Pairwise.map Value.string (fun a b (hab : a ≠ b) => fun he => hab (by simpa using he)) h)

theorem own_of {w : World} {kb sb mb c : Nat} {m : List KI} (x : KR w.heap kb sb mb c m) : w.ownsMap Tryz.prog 9 RN mb m.length (.map ((((⟨m.map KI.ent⟩ : Array MapEntry)).toList.map (Go.WideElems.rg Tryz.prog 9 RN)).foldr DataW.insert []) : DataW Unit) := by
  have hl := x.len
  refine ⟨⟨m.map KI.ent⟩, c, x.map, ⟨?_, ⟨?_, ?_, ?_⟩, ?_⟩, by simp, rfl⟩
  · have : (65536 : Nat) ≤ maxLen := by decide
    simp; omega
  · intro e he
    obtain ⟨i, hi, rfl⟩ := List.mem_map.1 he
    exact x.born i hi
  · have : ((⟨m.map KI.ent⟩ : Array MapEntry).toList.map (·.born)) = m.map KI.born := by simp [KI.ent, Function.comp_def]
    rw [this]; exact x.borns
  · exact str_inj_nodup x.nodup
  · intro e he
    obtain ⟨i, hi, rfl⟩ := List.mem_map.1 he
    refine ⟨(.string (bytesL i.key), .nil), ?_⟩
    unfold Go.WideElems.rd
    rw [show i.ent.key = .string i.key from rfl, key_reads _ (x.keys i hi)]
    rfl

theorem strKeys_perm {m : List KI} (hk : ∀ i ∈ m, i.key.size ≤ 1048576) : (strKeys (.map ((((⟨m.map KI.ent⟩ : Array MapEntry)).toList.map (Go.WideElems.rg Tryz.prog 9 RN)).foldr DataW.insert []) : DataW Unit)).Perm (m.map fun i => bytesL i.key) := by
  unfold strKeys
  have h1 := Go.WideShapes.sorted_perm (((⟨m.map KI.ent⟩ : Array MapEntry)).toList.map (Go.WideElems.rg Tryz.prog 9 RN))
  refine (h1.map _).trans ?_
  rw [List.map_map, List.map_map]
  refine List.Perm.of_eq (List.map_congr_left fun i hi => ?_)
  simp only [Function.comp]
  rw [rg_ent i (hk i hi)]
  rfl

theorem own_all {w : World} {kb sb mb c : Nat} {m : List KI} (x : KR w.heap kb sb mb c m) : ∃ D : DataW Unit, w.ownsMap Tryz.prog 9 RN mb m.length D ∧ (strKeys D).Perm (m.map fun i => bytesL i.key) ∧ Go.Maps.size D = m.length :=
  ⟨_, own_of x, strKeys_perm x.keys, by rw [Go.Maps.size_eq, Go.length_sorted]; simp⟩

theorem sSorted_calls {h : Heap} {kb sb mb c : Nat} {m : List KI} (x : KR h kb sb mb c m) :
    CallsH Tryz.prog 93 [.func (.func 148) #[] #[ptr h.size]] (keysHeap h mb) (Ret fun r h' => ∃ L : List ByteArray, SL encS h' r L ∧ L.Perm (m.map KI.key) ∧ L.Pairwise (fun a b => sless a b = true) ∧ (∀ b ∈ vblk r, h.size < b) ∧ Chg [] (keysHeap h mb) h') := by
  refine ⟨by kernel_rfl, fun w hw => ?_⟩
  let w0 : World := { w with heap := h }
  have ew : w0.alloc (.cells #[.map (some mb)] 69) = w := by
    show ({ w with heap := h.push _ } : World) = w
    rw [show h.push (.cells #[.map (some mb)] 69) = w.heap from hw.symm]
  have x0 : KR w0.heap kb sb mb c m := x
  have hl := x.len
  obtain ⟨D, hown, hsk, hsz⟩ := own_all x0
  have h65 : (65536 : Nat) ≤ maxLen := by decide
  have key := Tryz.slices_Sorted_keys_93_94 (H := Unit) mb m.length D RN w0 hown (by omega) (by omega)
  rw [ew] at key
  refine ((callsIn_wide (n := 5)).1 key).mono ?_
  rintro e w' ⟨v, ss, rfl, hp, hrow, hnil, hb⟩
  refine ⟨?_, by simp, hb.os, hb.output, hb.tape⟩
  have hperm : ss.Perm (m.map fun i => bytesL i.key) := hp.trans hsk
  have hms : (ss.mergeSort leB).Perm (m.map fun i => bytesL i.key) := (List.mergeSort_perm ss leB).trans hperm
  have tr : ∀ a b c : List UInt8, leB a b = true → leB b c = true → leB a c = true := fun a b c h1 h2 => by simp only [leB, decide_eq_true_eq] at *; exact List.le_trans h1 h2
  have to : ∀ a b : List UInt8, (leB a b || leB b a) = true := fun a b => by simp only [leB, Bool.or_eq_true, decide_eq_true_eq]; exact List.le_total a b
  have hpw : (ss.mergeSort leB).Pairwise (fun a b => leB a b = true) := List.pairwise_mergeSort tr to ss
  have hnd : (ss.mergeSort leB).Nodup := by
    refine hms.symm.nodup ?_
    have : (m.map fun i => bytesL i.key) = (m.map KI.key).map bytesL := by rw [List.map_map]; rfl
    rw [this]
    exact List.Pairwise.map bytesL (fun a b (hab : a ≠ b) => fun he => hab (by cases a; cases b; simp_all [bytesL])) x.nodup
  have hsize : w.heap.size = h.size + 1 := by rw [hw]; simp [keysHeap]
  refine ⟨(ss.mergeSort leB).map ofL, ?_, ?_, ?_, ?_, ?_⟩
  · -- the slice
    obtain ⟨hlen, hr⟩ := hrow
    have hsl : (ss.mergeSort leB).length = ss.length := (List.mergeSort_perm ss leB).length_eq
    rcases hr with ⟨rfl, hn⟩ | ⟨g, cap, cur, rfl, hg, hcur, hcap, hmax, hcs, htk⟩
    · have : (ss.mergeSort leB).map ofL = [] := by rw [List.map_eq_nil_iff]; exact List.length_eq_zero_iff.1 (hsl.trans hn)
      rw [this]; exact SL.nil
    · refine ⟨some ⟨g, 0, none⟩, cap, by rw [List.length_map, hsl], by rw [List.length_map, hsl]; exact hcap, ?_⟩
      intro i v hv
      have hfm : ∀ l : List (List UInt8), (l.map ofL).flatMap encS = l.map encStr := by
        intro l
        induction l with
        | nil => rfl
        | cons a l ih => rw [List.map_cons, List.flatMap_cons, ih]; rfl
      rw [hfm] at hv
      have htk' : cur.toList.take (ss.length * 1) = (ss.mergeSort leB).map encStr := htk
      rw [← htk'] at hv
      rw [Nat.zero_add]
      unfold Sx.cell
      rw [hcur]
      simp only
      rw [List.getElem?_take] at hv
      split at hv
      · simpa using hv
      · cases hv
  · have : m.map KI.key = (m.map fun i => bytesL i.key).map ofL := by rw [List.map_map]; rfl
    rw [this]
    exact hms.map _
  · refine List.Pairwise.map ofL (fun a b (hab : leB a b = true ∧ a ≠ b) => ?_) (hpw.and hnd)
    rw [sless_data, bl_lt]
    show a < b
    obtain ⟨h1, h2⟩ := hab
    simp only [leB, decide_eq_true_eq] at h1
    have hb : Op.bytesLess b a ≠ true := fun h => h1 ((bl_lt b a).1 h)
    rcases bl_total h2 with h | h
    · exact (bl_lt a b).1 h
    · exact absurd h hb
  · intro b hb'
    obtain ⟨_, hr⟩ := hrow
    rcases hr with ⟨rfl, _⟩ | ⟨g, cap, cur, rfl, hg, _⟩
    · simp [vblk, ablk] at hb'
    · simp [vblk, ablk] at hb'
      subst hb'
      omega
  · refine ⟨by rw [← hw]; exact hb.size, fun k hk _ => ?_⟩
    rw [← hw] at hk ⊢
    exact hb.block k hk

end Go.Proofs.YtgmkldaonkbjgaaGreatDoor
namespace Go.Proofs.YtgmkldaonkbjgaaGreatDoor
open Go Go.Sx Go.Proofs.YtgmkldaonkbjgaaGreatDoor.C

theorem yield_ret {P : Program} {l : Nat} {vs : List Value} {h : Heap} {Q K : Value → Heap → Prop} {Qp : List PanicEntry → Heap → Prop} (hc : YieldH P l vs h (Ret Q)) (hk : ∀ v h', Q v h' → K v h') :
    YieldH P l vs h (after K Qp) :=
  hc.mono fun e h' he => by cases e <;> first | exact hk _ _ he | exact he.elim

structure Sorted (m : List KI) (W : List (ByteArray × Thing)) : Prop where
  up : W.Pairwise fun a b => sless a.1 b.1 = true
  mem : ∀ p, p ∈ W ↔ p ∈ m.map KI.pr

theorem sless_asymm (a b : ByteArray) (h : sless a b = true) : ¬ sless b a = true := fun h2 => by
  have := sless_trans h h2
  rw [sless_irrefl] at this; cases this

theorem sorted_keys {m : List KI} {W : List (ByteArray × Thing)} {L : List ByteArray} (hW : Sorted m W) (hp : L.Perm (m.map KI.key)) (hl : L.Pairwise fun a b => sless a b = true) : L = W.map Prod.fst := by
  refine up_ext (lt := fun a b => sless a b = true) sless_asymm hl (List.Pairwise.map Prod.fst (fun _ _ h => h) hW.up) fun x => ?_
  rw [hp.mem_iff, List.mem_map, List.mem_map]
  constructor
  · rintro ⟨i, hi, rfl⟩
    exact ⟨i.pr, (hW.mem _).2 (List.mem_map_of_mem hi), rfl⟩
  · rintro ⟨p, hp, rfl⟩
    obtain ⟨i, hi, rfl⟩ := List.mem_map.1 ((hW.mem _).1 hp)
    exact ⟨i, hi, rfl⟩

theorem SL.keep {α : Type} {enc : α → List Value} {h h' : Heap} {v : Value} {l : List α} (hs : SL enc h v l) (hk : ∀ b ∈ vblk v, h'[b]? = h[b]?) : SL enc h' v l := by
  obtain ⟨a, c, rfl, h1, h2⟩ := hs
  refine ⟨a, c, rfl, h1, ?_⟩
  cases a with
  | none => exact h2
  | some a =>
    obtain ⟨b, o, sp⟩ := a
    cases sp with
    | some q => exact h2
    | none =>
      intro i v hv
      have := h2 i v hv
      unfold Sx.cell at this ⊢
      rw [hk b (by simp [vblk, ablk])]; exact this

theorem iter_calls {h : Heap} {l b1 kb sb mb c : Nat} {m : List KI} {W : List (ByteArray × Thing)} (hW : Sorted m W) (J : Nat → Nat → Heap → Prop) (Je : Heap → Prop) (B0 : Blk h b1 [ptr kb]) (kr0 : KR h kb sb mb c m)
    (hJ : ∀ p h', h.size ≤ p → p < h'.size → Chg [] h h' → J p 0 h')
    (hB : ∀ p k h', J p k h' → Blk h' b1 [ptr kb] ∧ KR h' kb sb mb c m) (hext : ∀ p k h' h'', J p k h' → Chg [] h' h'' → J p k h'')
    (hy : ∀ p k h' us (hk : k < W.length), J p k h' → TH h' us W[k].2 → YieldH Tryz.prog l [.string W[k].1, .agg ⟨us⟩] h' (Ret fun v h'' => (v = .bool true ∧ J p (k + 1) h'' ∧ h''[p]? = h'[p]?) ∨ (v = .bool false ∧ Je h''))) :
    CallsH Tryz.prog 92 [.func (.yield l) #[] #[], ptr b1] h (Ret fun _ h' => (∃ p, J p W.length h') ∨ Je h') := by
  refine f92_calls (by simp) ?_
  refine Exists.intro _ (And.intro (cell_blk B0 rfl) ?_)
  refine call_ret (none_calls kr0.ks) ?_
  rintro _ h9 ⟨rfl, e9⟩
  have e9 := e9.symm
  subst e9
  refine Exists.intro _ (And.intro (cell_blk B0 rfl) (Exists.intro _ (And.intro (cell_blk kr0.ks.k rfl) (Exists.intro _ (And.intro (cell_blk kr0.ks.s rfl) ?_)))))
  refine call_ret mKeys_calls ?_
  rintro _ h2 ⟨rfl, rfl⟩
  refine call_ret (sSorted_calls kr0) ?_
  rintro v h3 ⟨L, hsl, hperm, hpw, hfr, hc3⟩
  have hL := sorted_keys hW hperm hpw
  have hWl : W.length ≤ 65536 := by
    have h1 := hperm.length_eq
    rw [hL] at h1
    simp at h1
    have := kr0.len
    omega
  obtain ⟨a, cc, rfl, hcc⟩ := hsl.form
  have hLl : L.length = W.length := by rw [hL]; simp
  have hc03 : Chg [] h h3 := (keysHeap_chg h mb).nil hc3
  have hz : h.size < h3.size := by have := hc3.size; simp [keysHeap] at this; omega
  obtain ⟨p, hp1, hp2, hp3⟩ : ∃ p, h.size ≤ p ∧ p < h3.size ∧ (0 < L.length → ∀ b ∈ ablk a, b = p) := by
    by_cases h0 : L.length = 0
    · exact ⟨h.size, Nat.le_refl _, hz, fun h => by omega⟩
    · obtain ⟨b, o, e⟩ := hsl.addr (by omega)
      cases e
      have hcs := hsl.cells encS_len (i := 0) (x := L[0]'(by omega)) (by simp)
      have := cell_lt (hcs 0 _ rfl)
      exact ⟨b, by have := hfr b (by simp [vblk, ablk]); omega, this, by simp [ablk]⟩
  refine loop_intro (fun k : Nat => [(0, .func (.yield l) #[] #[]), (1, ptr b1), (16, .slice a L.length cc), (17, .int .i64 L.length), (18, .int .i64 k)]) (fun k h' => k ≤ W.length ∧ J p k h' ∧ SL encS h' (.slice a L.length cc) L) (fun k => W.length - k) 0
    ⟨rfl, rfl, rfl, rfl, rfl, trivial⟩ ⟨Nat.zero_le _, hJ p h3 hp1 hp2 hc03, hsl⟩ ?_
  rintro k h4 ⟨hk, hJ4, hs4⟩
  obtain ⟨B4, kr4⟩ := hB p k h4 hJ4
  refine And.intro rfl (And.intro (fun ht => ?_) (fun ht => ?_))
  · have hlt : k < W.length := by omega
    have hltL : k < L.length := by omega
    obtain ⟨b, o, rfl⟩ := hs4.addr (by omega)
    have hcs := hs4.cells encS_len (i := k) (x := L[k]) (by simp [hltL])
    have hLk : L[k] = W[k].1 := by
      have : L[k]? = (W.map Prod.fst)[k]? := by rw [← hL]
      rw [List.getElem?_eq_getElem hltL, List.getElem?_map, List.getElem?_eq_getElem hlt] at this
      simpa using this
    rw [hLk] at hcs
    refine And.intro (by omega) (And.intro (by omega) (Exists.intro _ (And.intro (hcs 0 _ rfl) ?_)))
    refine Exists.intro _ (And.intro (cell_blk B4 rfl) (Exists.intro _ (And.intro (cell_blk kr4.ks.k rfl) (Exists.intro _ (And.intro (cell_blk kr4.ks.s rfl) ?_)))))
    refine And.intro rfl (Exists.intro (m.map KI.ent) (Exists.intro c (And.intro kr4.map (And.intro (ents_fit m) ?_))))
    obtain ⟨i, hi, hip⟩ := List.mem_map.1 ((hW.mem W[k]).1 (List.getElem_mem hlt))
    have hik : i.key = W[k].1 := congrArg Prod.fst hip
    have hit : i.thing = W[k].2 := congrArg Prod.snd hip
    rcases mfind_ents W[k].1 m 0 with ⟨_, hno⟩ | ⟨j, i', hmf, hj, hik'⟩
    · exact absurd hik (hno i hi)
    have hi' : i' ∈ m := List.mem_of_getElem? hj
    have ei : i' = i := by
      have hnd := kr4.nodup
      have : ∀ {m : List KI}, (m.map KI.key).Nodup → i ∈ m → i' ∈ m → i'.key = i.key → i' = i := by
        intro m
        induction m with
        | nil => intro _ h; simp at h
        | cons x m ih =>
          intro hn h1 h2 he
          rw [List.map_cons, List.nodup_cons] at hn
          rcases List.mem_cons.1 h1 with e1 | g1
          · rcases List.mem_cons.1 h2 with e2 | g2
            · rw [e1, e2]
            · refine absurd ?_ hn.1
              rw [← e1, ← he]; exact List.mem_map_of_mem g2
          · rcases List.mem_cons.1 h2 with e2 | g2
            · refine absurd ?_ hn.1
              rw [← e2, he]; exact List.mem_map_of_mem g1
            · exact ih hn.2 g1 g2 he
      exact this hnd hi hi' (hik'.trans hik.symm)
    subst ei
    rw [hmf]
    obtain ⟨Bi, ti, ni⟩ := kr4.here i' hi
    refine Exists.intro i'.vs (And.intro ti.len (And.intro (cells_blk Bi) ?_))
    refine call_ret (copied_calls ti ni) ?_
    rintro _ h5 ⟨⟨us, rfl, tu, hus⟩, hc5⟩
    rw [hit] at tu
    refine yield_ret (hy p k h5 us hlt (hext p k _ _ hJ4 hc5) tu) ?_
    rintro r h6 (⟨rfl, hJ6, hp6⟩ | ⟨rfl, hJe⟩)
    · refine And.intro rfl (fun z hz => ?_)
      have hz := add_in hz (by omega) (by omega)
      subst hz
      refine And.intro rfl (Exists.intro (k + 1) (And.intro ?_ (And.intro ?_ ?_)))
      · exact ⟨rfl, rfl, rfl, rfl, rfl, trivial⟩
      · refine ⟨by omega, hJ6, SL.keep (hs4.ext hc5) fun b' hb' => ?_⟩
        rw [hp3 (by omega) b' hb']; exact hp6
      · omega
    · exact .inr hJe
  · have hlt : k = W.length := by omega
    subst hlt
    exact .inl ⟨p, hJ4⟩

theorem All_calls {h : Heap} {kb : Nat} : CallsH Tryz.prog 39 [ptr kb] h (Ret fun u h' => ∃ b1, u = .func (.func 92) #[] #[ptr b1] ∧ Grow h h' b1 [ptr kb]) := by
  refine f39_calls (by simp) ?_
  intro b1 h1 g1
  exact ⟨b1, rfl, g1⟩

end Go.Proofs.YtgmkldaonkbjgaaGreatDoor
namespace Go.Proofs.YtgmkldaonkbjgaaGreatDoor
open Go Go.Sx Go.Proofs.YtgmkldaonkbjgaaGreatDoor.C

theorem loopB_chg {S : List Nat} {h h' : Heap} {l : Nat} {r : Loop} {st : LoopState} {p : Option Go.Code} (hl : LoopB h l r st p) (hc : Chg S h h') (hn : l ∉ S) : LoopB h' l r st p := ⟨get_chg hl.at_ hc hn⟩

structure Round (h0 : Heap) (l D b1 kb : Nat) (r : Loop) (p : Nat) (h : Heap) : Prop where
  loop : LoopB h l r .ready none
  mark : h[D]? = some (.deferred (some []))
  b1 : Blk h b1 [ptr kb]
  chg : Chg [] h0 h
  lt : l < p
  pn : p < h.size

theorem Round.ext {h0 h h' : Heap} {l D b1 kb : Nat} {r : Loop} {p : Nat} (x : Round h0 l D b1 kb r p h) (hc : Chg [] h h') : Round h0 l D b1 kb r p h' :=
  ⟨loopB_chg x.loop hc (by simp), get_chg x.mark hc (by simp), x.b1.chg hc (by simp), x.chg.nil hc, x.lt, Nat.lt_of_lt_of_le x.pn hc.size⟩

end Go.Proofs.YtgmkldaonkbjgaaGreatDoor
namespace Go.Proofs.YtgmkldaonkbjgaaGreatDoor
open Go Go.Sx Go.Proofs.YtgmkldaonkbjgaaGreatDoor.C

structure Eff where
  op : Int
  key : ByteArray
  name : ByteArray
  text : ByteArray
  num : Int

def encD (e : Eff) : List Value := [.int .i64 e.op, .string e.key, .string e.name, .string e.text, .int .i64 e.num]
theorem encD_len (e : Eff) : (encD e).length = 5 := rfl
theorem encD_one (e : Eff) : ∀ u ∈ encD e, u.oneCell' = true := by
  intro u hu
  simp only [encD, List.mem_cons, List.not_mem_nil, or_false] at hu
  rcases hu with rfl | rfl | rfl | rfl | rfl <;> rfl

structure DSmall (d : List Eff) : Prop where
  len : d.length ≤ 60
  each : ∀ e ∈ d, e.key.size ≤ 300 ∧ e.name.size ≤ 300 ∧ e.text.size ≤ 300

structure XFit (l : List RX) : Prop where
  len : l.length < 4611686018427387904
  keys : ∀ x ∈ l, x.key.size < 4611686018427387904
  fits : ∀ x ∈ l, Fits x.thing
  sized : ∀ x ∈ l, Sized x.thing

structure DFit (d : List Eff) : Prop where
  len : d.length < 4611686018427387904
  each : ∀ e ∈ d, e.key.size < 4611686018427387904 ∧ e.name.size < 4611686018427387904 ∧ e.text.size < 4611686018427387904

end Go.Proofs.YtgmkldaonkbjgaaGreatDoor
namespace Go.Proofs.YtgmkldaonkbjgaaGreatDoor
open Go Go.Sx Go.Proofs.YtgmkldaonkbjgaaGreatDoor.C

theorem sorted_of {m : List KI} {l k : List RX} (hpr : m.map KI.pr = l.map RX.pr) (hk : ofX [] l = some k) : Sorted m (k.map RX.pr) := by
  obtain ⟨h1, h2, _⟩ := ofX_ok (acc := []) List.Pairwise.nil hk
  refine ⟨List.Pairwise.map RX.pr (fun _ _ h => h) h1, fun p => ?_⟩
  rw [hpr, List.mem_map, List.mem_map]
  constructor
  · rintro ⟨x, hx, rfl⟩
    exact ⟨x, by simpa using (h2 x).1 hx, rfl⟩
  · rintro ⟨x, hx, rfl⟩
    exact ⟨x, (h2 x).2 (by simp [hx]), rfl⟩

end Go.Proofs.YtgmkldaonkbjgaaGreatDoor
namespace Go.Proofs.YtgmkldaonkbjgaaGreatDoor
open Go Go.Sx Go.Proofs.YtgmkldaonkbjgaaGreatDoor.C

section
variable {α : Type} {eq lt : α → Bool} {y : α}

def putF (eq lt : α → Bool) (y : α) : List α → Bool → List α
  | [], d => if d then [] else [y]
  | x :: l, d => if eq x then putF eq lt y l d else if !d && lt x then y :: x :: putF eq lt y l true else x :: putF eq lt y l d
def delF (eq : α → Bool) (l : List α) : List α := l.filter fun x => !eq x

theorem delF_id : ∀ {l : List α}, (∀ x ∈ l, eq x = false) → delF eq l = l := by
  intro l h
  exact List.filter_eq_self.2 fun x hx => by rw [h x hx]; rfl

theorem putF_true : ∀ (l : List α), putF eq lt y l true = delF eq l
  | [] => rfl
  | x :: l => by
    have ih := putF_true l
    unfold putF delF
    cases he : eq x with
    | true => rw [if_pos rfl, ih]; simp [delF, he]
    | false => simp [he, ih, delF]

theorem putF_skip : ∀ {A B : List α}, (∀ x ∈ A, eq x = false ∧ lt x = false) → putF eq lt y (A ++ B) false = A ++ putF eq lt y B false
  | [], B, _ => rfl
  | x :: A, B, h => by
    have hx := h x (by simp)
    have ih := putF_skip (A := A) (B := B) fun z hz => h z (by simp [hz])
    rw [List.cons_append, putF, hx.1, hx.2]
    simp [ih]

theorem putF_del : ∀ (l : List α) (d : Bool), putF eq lt y (delF eq l) d = putF eq lt y l d
  | [], d => rfl
  | x :: l, d => by
    have ih := putF_del l
    cases he : eq x with
    | true =>
      have : delF eq (x :: l) = delF eq l := by simp [delF, he]
      rw [this, ih, putF, he]; simp
    | false =>
      have : delF eq (x :: l) = x :: delF eq l := by simp [delF, he]
      rw [this, putF, putF, he, ih, ih]

theorem putF_here {B : List α} (h : ∀ x ∈ B, eq x = false ∧ lt x = true) : putF eq lt y B false = y :: B := by
  cases B with
  | nil => rfl
  | cons x B =>
    have hx := h x (by simp)
    rw [putF, hx.1, hx.2]
    have hd : delF eq B = B := delF_id fun z hz => (h z (List.mem_cons_of_mem _ hz)).1
    simp [putF_true, hd]

theorem putF_like {x : α} {B : List α} (hx : eq x = true) (h : ∀ x ∈ B, eq x = false ∧ lt x = true) : putF eq lt y (x :: B) false = y :: B := by
  rw [putF, hx]
  simp [putF_here h]

theorem delF_like {x : α} {A B : List α} (hx : eq x = true) (hA : ∀ x ∈ A, eq x = false) (hB : ∀ x ∈ B, eq x = false) : delF eq (A ++ x :: B) = A ++ B := by
  unfold delF
  rw [List.filter_append, List.filter_cons, hx]
  have h1 := delF_id (eq := eq) hA
  have h2 := delF_id (eq := eq) hB
  unfold delF at h1 h2
  rw [h1, h2]
  rfl

theorem mem_putF {z : α} : ∀ {l : List α} {d : Bool}, z ∈ putF eq lt y l d → z = y ∨ (z ∈ l ∧ eq z = false)
  | [], d, h => by
    simp only [putF] at h
    split at h <;> simp at h
    exact .inl h
  | x :: l, d, h => by
    simp only [putF] at h
    cases he : eq x with
    | true =>
      rw [he] at h
      rcases mem_putF (l := l) (by simpa using h) with h | ⟨h1, h2⟩
      · exact .inl h
      · exact .inr ⟨by simp [h1], h2⟩
    | false =>
      rw [he] at h
      simp only [Bool.false_eq_true, if_false] at h
      split at h
      · rcases List.mem_cons.1 h with h | h
        · exact .inl h
        · rcases List.mem_cons.1 h with h | h
          · subst h; exact .inr ⟨by simp, he⟩
          · rcases mem_putF (l := l) h with h | ⟨h1, h2⟩
            · exact .inl h
            · exact .inr ⟨by simp [h1], h2⟩
      · rcases List.mem_cons.1 h with h | h
        · subst h; exact .inr ⟨by simp, he⟩
        · rcases mem_putF (l := l) h with h | ⟨h1, h2⟩
          · exact .inl h
          · exact .inr ⟨by simp [h1], h2⟩

theorem putF_len : ∀ (l : List α) (d : Bool), (putF eq lt y l d).length ≤ l.length + 1
  | [], d => by cases d <;> simp [putF]
  | x :: l, d => by
    have h1 := putF_len l d
    have h2 : (putF eq lt y l true).length ≤ l.length := by rw [putF_true]; exact List.length_filter_le _ _
    simp only [putF]
    split
    · simp; omega
    · split <;> simp <;> omega

theorem putF_up {R : α → α → Prop} (h1 : ∀ x, eq x = false → lt x = true → R y x) (h2 : ∀ x, eq x = false → lt x = false → R x y) (htr : ∀ a b c, R a b → R b c → R a c) :
    ∀ {l : List α}, l.Pairwise R → (putF eq lt y l false).Pairwise R
  | [], _ => by simp [putF]
  | x :: l, h => by
    have hx := List.pairwise_cons.1 h
    have ih := putF_up h1 h2 htr hx.2
    simp only [putF]
    cases he : eq x with
    | true => simpa using ih
    | false =>
      cases hl : lt x with
      | true =>
        simp only [Bool.false_eq_true, if_false, Bool.not_false, Bool.and_self, if_true, putF_true]
        refine List.pairwise_cons.2 ⟨fun z hz => ?_, List.pairwise_cons.2 ⟨fun z hz => hx.1 z (List.mem_filter.1 hz).1, hx.2.filter _⟩⟩
        rcases List.mem_cons.1 hz with rfl | hz
        · exact h1 _ he hl
        · exact htr _ _ _ (h1 _ he hl) (hx.1 z (List.mem_filter.1 hz).1)
      | false =>
        simp only [Bool.false_eq_true, if_false, Bool.not_false, Bool.and_false]
        refine List.pairwise_cons.2 ⟨fun z hz => ?_, ih⟩
        rcases mem_putF hz with rfl | ⟨hz, _⟩
        · exact h2 _ he hl
        · exact hx.1 z hz

end

section
variable {α : Type} {nm : α → ByteArray} {name : ByteArray}

theorem take_low {lo : α → Bool} {l : List α} {k : Nat} (c : CutAt lo l k) : ∀ x ∈ l.take k, lo x = true := by
  intro x hx
  obtain ⟨i, hi, rfl⟩ := List.getElem_of_mem hx
  rw [List.length_take] at hi
  rw [List.getElem_take]
  exact c.low i (by omega) (by omega)

theorem drop_high {lo : α → Bool} {l : List α} {k : Nat} (c : CutAt lo l k) : ∀ x ∈ l.drop k, lo x = false := by
  intro x hx
  obtain ⟨i, hi, rfl⟩ := List.getElem_of_mem hx
  rw [List.length_drop] at hi
  rw [List.getElem_drop]
  exact c.high (k + i) (by omega) (by omega)

theorem sless_not {a b : ByteArray} (h1 : sless a b = false) (h2 : a ≠ b) : sless b a = true := by
  rcases sless_total h2 with h | h
  · rw [h1] at h; cases h
  · exact h

theorem sless_no {a b : ByteArray} (h : sless a b = true) : sless b a = false := by
  cases hb : sless b a with
  | false => rfl
  | true => exact absurd hb (sless_asymm a b h)

theorem cut_before {l : List α} {k : Nat} (c : CutAt (fun x => sless (nm x) name) l k) : ∀ x ∈ l.take k, decide (nm x = name) = false ∧ sless name (nm x) = false := by
  intro x hx
  have := take_low c x hx
  exact ⟨decide_eq_false (sless_ne this), sless_no this⟩

theorem cut_none {l : List α} {k : Nat} (hs : l.Pairwise fun a b => sless (nm a) (nm b) = true) (c : CutAt (fun x => sless (nm x) name) l k) (hn : (l[k]?).any (fun x => decide (nm x = name)) = false) :
    ∀ x ∈ l.drop k, decide (nm x = name) = false ∧ sless name (nm x) = true := by
  have hd : ∀ x ∈ l.drop k, nm x ≠ name := by
    by_cases hk : k < l.length
    · rw [List.getElem?_eq_getElem hk] at hn
      have hn' : nm l[k] ≠ name := by simpa using hn
      have hlow := c.high k (Nat.le_refl _) hk
      have hlt := sless_not hlow hn'
      rw [List.drop_eq_getElem_cons hk] at *
      have hp : (l[k] :: l.drop (k + 1)).Pairwise fun a b => sless (nm a) (nm b) = true := by
        rw [← List.drop_eq_getElem_cons hk]; exact hs.drop
      intro x hx
      rcases List.mem_cons.1 hx with rfl | hx
      · exact hn'
      · have := sless_trans hlt (List.rel_of_pairwise_cons hp hx)
        exact fun e => sless_ne this e.symm
    · rw [List.drop_eq_nil_of_le (by omega)]; simp
  intro x hx
  exact ⟨decide_eq_false (hd x hx), sless_not (drop_high c x hx) (hd x hx)⟩

theorem cut_there {l : List α} {k : Nat} (hs : l.Pairwise fun a b => sless (nm a) (nm b) = true) (_ : CutAt (fun x => sless (nm x) name) l k) (hn : (l[k]?).any (fun x => decide (nm x = name)) = true) :
    ∃ hk : k < l.length, nm l[k] = name ∧ ∀ x ∈ l.drop (k + 1), decide (nm x = name) = false ∧ sless name (nm x) = true := by
  by_cases hk : k < l.length
  · rw [List.getElem?_eq_getElem hk] at hn
    have hn' : nm l[k] = name := by simpa using hn
    refine ⟨hk, hn', fun x hx => ?_⟩
    have hp : (l[k] :: l.drop (k + 1)).Pairwise fun a b => sless (nm a) (nm b) = true := by
      rw [← List.drop_eq_getElem_cons hk]; exact hs.drop
    have := List.rel_of_pairwise_cons hp hx
    rw [hn'] at this
    exact ⟨decide_eq_false fun e => sless_ne this e.symm, this⟩
  · rw [List.getElem?_eq_none (by omega)] at hn
    cases hn

theorem split_k {l : List α} {k : Nat} (hk : k < l.length) : l = l.take k ++ l[k] :: l.drop (k + 1) := by
  rw [← List.drop_eq_getElem_cons hk, List.take_append_drop]

theorem put_none {y : α} {l : List α} {k : Nat} (hs : l.Pairwise fun a b => sless (nm a) (nm b) = true) (c : CutAt (fun x => sless (nm x) name) l k) (hn : (l[k]?).any (fun x => decide (nm x = name)) = false) :
    putF (fun x => decide (nm x = name)) (fun x => sless name (nm x)) y l false = l.take k ++ y :: l.drop k := by
  have e : l = l.take k ++ l.drop k := (List.take_append_drop k l).symm
  rw [show putF (fun x => decide (nm x = name)) (fun x => sless name (nm x)) y l false = putF (fun x => decide (nm x = name)) (fun x => sless name (nm x)) y (l.take k ++ l.drop k) false by rw [← e],
    putF_skip (cut_before c), putF_here (cut_none hs c hn)]

theorem put_there {y : α} {l : List α} {k : Nat} (hs : l.Pairwise fun a b => sless (nm a) (nm b) = true) (c : CutAt (fun x => sless (nm x) name) l k) (hn : (l[k]?).any (fun x => decide (nm x = name)) = true) :
    putF (fun x => decide (nm x = name)) (fun x => sless name (nm x)) y l false = l.take k ++ y :: l.drop (k + 1) := by
  obtain ⟨hk, he, hb⟩ := cut_there hs c hn
  rw [show putF (fun x => decide (nm x = name)) (fun x => sless name (nm x)) y l false = putF (fun x => decide (nm x = name)) (fun x => sless name (nm x)) y (l.take k ++ l[k] :: l.drop (k + 1)) false by rw [← split_k hk],
    putF_skip (cut_before c), putF_like (by simpa using he) hb]

theorem del_there {l : List α} {k : Nat} (hs : l.Pairwise fun a b => sless (nm a) (nm b) = true) (c : CutAt (fun x => sless (nm x) name) l k) (hn : (l[k]?).any (fun x => decide (nm x = name)) = true) :
    delF (fun x => decide (nm x = name)) l = l.take k ++ l.drop (k + 1) ∧ l.any (fun x => decide (nm x = name)) = true := by
  obtain ⟨hk, he, hb⟩ := cut_there hs c hn
  refine ⟨?_, List.any_eq_true.2 ⟨l[k], List.getElem_mem hk, by simpa using he⟩⟩
  have := delF_like (eq := fun x => decide (nm x = name)) (x := l[k]) (A := l.take k) (B := l.drop (k + 1)) (by simpa using he) (fun x hx => (cut_before c x hx).1) (fun x hx => (hb x hx).1)
  rw [← split_k hk] at this
  exact this

theorem any_none {l : List α} {k : Nat} (hs : l.Pairwise fun a b => sless (nm a) (nm b) = true) (c : CutAt (fun x => sless (nm x) name) l k) (hn : (l[k]?).any (fun x => decide (nm x = name)) = false) :
    l.any (fun x => decide (nm x = name)) = false := by
  rw [List.any_eq_false]
  intro x hx
  rw [← List.take_append_drop k l] at hx
  rcases List.mem_append.1 hx with hx | hx
  · rw [(cut_before c x hx).1]; simp
  · rw [(cut_none hs c hn x hx).1]; simp

end

theorem ahead_tr (a b c : Rank) (h1 : aheadR a b = true) (h2 : aheadR b c = true) : aheadR a c = true := by
  simp only [aheadR, Bool.or_eq_true, decide_eq_true_eq, Bool.and_eq_true] at h1 h2 ⊢
  rcases h1 with h1 | ⟨h1, h1'⟩ <;> rcases h2 with h2 | ⟨h2, h2'⟩
  · left; omega
  · left; omega
  · left; omega
  · right; exact ⟨by omega, sless_trans h1' h2'⟩

theorem ahead_not {a b : Rank} (h1 : aheadR a b = false) (h2 : a.name ≠ b.name) : aheadR b a = true := by
  simp only [aheadR, Bool.or_eq_false_iff, decide_eq_false_iff_not, Bool.and_eq_false_iff] at h1
  simp only [aheadR, Bool.or_eq_true, decide_eq_true_eq, Bool.and_eq_true]
  by_cases h : b.score < a.score
  · exact .inl h
  · have : a.score = b.score := by omega
    rcases h1.2 with h | h
    · exact absurd this h
    · exact .inr ⟨this.symm, sless_not h h2⟩

theorem ahead_no {a b : Rank} (h : aheadR a b = true) : aheadR b a = false := by
  cases hb : aheadR b a with
  | false => rfl
  | true =>
    have := ahead_tr a b a h hb
    simp [aheadR, sless_irrefl] at this

theorem del_rank {l : List Rank} {k : Nat} {name : ByteArray} (hn : (l.map Rank.name).Nodup) (hk : k < l.length) (he : l[k].name = name) :
    delF (fun x => decide (x.name = name)) l = l.take k ++ l.drop (k + 1) := by
  have e := split_k hk
  have hn' : ((l.take k ++ l[k] :: l.drop (k + 1)).map Rank.name).Nodup := by rw [← e]; exact hn
  rw [List.map_append, List.map_cons, List.nodup_append] at hn'
  obtain ⟨_, h2, h3⟩ := hn'
  rw [List.nodup_cons] at h2
  have := delF_like (eq := fun x : Rank => decide (x.name = name)) (x := l[k]) (A := l.take k) (B := l.drop (k + 1)) (by simpa using he)
    (fun x hx => decide_eq_false fun e => h3 _ (List.mem_map_of_mem hx) _ List.mem_cons_self (by rw [e, he]))
    (fun x hx => decide_eq_false fun e => h2.1 (by rw [he, ← e]; exact List.mem_map_of_mem hx))
  rw [← e] at this
  exact this

theorem put_rank {y : Rank} {l : List Rank} {k : Nat} (hno : ∀ x ∈ l, x.name ≠ y.name) (c : CutAt (fun x => aheadR x y) l k) :
    putF (fun x => decide (x.name = y.name)) (fun x => aheadR y x) y l false = l.take k ++ y :: l.drop k := by
  have e : l = l.take k ++ l.drop k := (List.take_append_drop k l).symm
  rw [show putF (fun x : Rank => decide (x.name = y.name)) (fun x => aheadR y x) y l false = putF (fun x : Rank => decide (x.name = y.name)) (fun x => aheadR y x) y (l.take k ++ l.drop k) false by rw [← e],
    putF_skip fun x hx => ⟨decide_eq_false (hno x (List.mem_of_mem_take hx)), ahead_no (take_low c x hx)⟩,
    putF_here fun x hx => ⟨decide_eq_false (hno x (List.mem_of_mem_drop hx)), ahead_not (drop_high c x hx) (hno x (List.mem_of_mem_drop hx))⟩]

def doneT (t : Thing) (e : Eff) : Thing × Int :=
  if e.op = 1 then (zeroT, 0) else
  if e.op = 2 then (textT e.text, 0) else
  if e.op = 3 then ({ t with hasU := true, unt := e.num }, 0) else
  if e.op = 4 then ({ t with hasU := false, unt := 0 }, 0) else
  if e.op = 5 then ({ t with pairs := putF (fun x => decide (x.name = e.name)) (fun x => sless e.name x.name) ⟨e.name, e.text⟩ t.pairs false }, 0) else
  if e.op = 6 then ({ t with pairs := delF (fun x => decide (x.name = e.name)) t.pairs }, if t.pairs.any (fun x => decide (x.name = e.name)) then 0 else 5) else
  if e.op = 7 then ({ t with list := e.text :: t.list }, 0) else
  if e.op = 8 then ({ t with list := t.list ++ [e.text] }, 0) else
  if e.op = 9 then ({ t with list := t.list.tail }, 0) else
  if e.op = 10 then ({ t with list := t.list.dropLast }, 0) else
  if e.op = 11 then (if 0 ≤ e.num ∧ e.num < t.list.length then ({ t with list := t.list.set e.num.toNat e.text }, 0) else (t, 4)) else
  if e.op = 12 then ({ t with list := putF (fun x => decide (x = e.name)) (fun x => sless e.name x) e.name t.list false }, 0) else
  if e.op = 13 then ({ t with list := delF (fun x => decide (x = e.name)) t.list }, if t.list.any (fun x => decide (x = e.name)) then 0 else 5) else
  if e.op = 14 then ({ t with ranks := putF (fun x => decide (x.name = e.name)) (fun x => aheadR ⟨e.name, e.num⟩ x) ⟨e.name, e.num⟩ t.ranks false }, 0) else
  if e.op = 15 then ({ t with ranks := delF (fun x => decide (x.name = e.name)) t.ranks }, if t.ranks.any (fun x => decide (x.name = e.name)) then 0 else 5) else (t, 0)

structure TGood (t : Thing) : Prop where
  ps : t.pairs.Pairwise fun a b => sless a.name b.name = true
  ls : t.kind = 4 → t.list.Pairwise fun a b => sless a b = true
  rs : t.ranks.Pairwise fun a b => aheadR a b = true
  once : (t.ranks.map Rank.name).Nodup
  only : t.kind = 3 → t.pairs = [] ∧ t.ranks = []
  few : countT t ≤ 65536

theorem TGood.lens {t : Thing} (g : TGood t) : Lens t := by
  have := g.few
  unfold countT at this
  exact ⟨by omega, by omega, by omega⟩

end Go.Proofs.YtgmkldaonkbjgaaGreatDoor
namespace Go.Proofs.YtgmkldaonkbjgaaGreatDoor
open Go Go.Sx Go.Proofs.YtgmkldaonkbjgaaGreatDoor.C

theorem _root_.Go.Sx.Chg.step {S U : List Nat} {a b c : Heap} (c1 : Chg U a b) (c2 : Chg S b c) (hs : ∀ k ∈ S, k < a.size → k ∈ U) : Chg U a c := c1.trans c2 (fun _ h => h) hs

def DoPost (t' : Thing) (n : Int) (tb : Nat) (pv lv rv : Value) (h : Heap) (r : Value) (h' : Heap) : Prop :=
  r = .int .i64 n ∧ (n = 0 → ∃ ws, Blk h' tb ws ∧ TH h' ws t' ∧ ∀ v ∈ ws, ∀ b ∈ vblk v, b ∈ bl3 pv lv rv ∨ h.size ≤ b) ∧ Chg (tb :: bl3 pv lv rv) h h'

theorem do_end {t' : Thing} {h h' : Heap} {tb : Nat} {pv lv rv pv' lv' rv' : Value} (B : Blk h' tb (cellsT t' pv' lv' rv')) (sp : SL encP h' pv' t'.pairs) (sl : SL encS h' lv' t'.list) (sr : SL encR h' rv' t'.ranks)
    (hb : ∀ b ∈ bl3 pv' lv' rv', b ∈ bl3 pv lv rv ∨ h.size ≤ b) (c : Chg (tb :: bl3 pv lv rv) h h') : DoPost t' 0 tb pv lv rv h (.int .i64 0) h' := by
  refine ⟨rfl, fun _ => ⟨_, B, ⟨_, _, _, rfl, sp, sl, sr⟩, fun v hv b hvb => ?_⟩, c⟩
  simp only [cellsT, List.mem_cons, List.not_mem_nil, or_false] at hv
  rcases hv with rfl | rfl | rfl | rfl | rfl | rfl | rfl
  · exact absurd (show b ∈ ([] : List Nat) from hvb) (by simp)
  · exact absurd (show b ∈ ([] : List Nat) from hvb) (by simp)
  · exact hb b (by simp [bl3, hvb])
  · exact hb b (by simp [bl3, hvb])
  · exact hb b (by simp [bl3, hvb])
  · exact absurd (show b ∈ ([] : List Nat) from hvb) (by simp)
  · exact absurd (show b ∈ ([] : List Nat) from hvb) (by simp)

theorem do_no {t' : Thing} {n : Int} {h h' : Heap} {tb : Nat} {pv lv rv : Value} (hn : n ≠ 0) (c : Chg (tb :: bl3 pv lv rv) h h') : DoPost t' n tb pv lv rv h (.int .i64 n) h' := ⟨rfl, fun e => absurd e hn, c⟩

def DoOK (g : Nat) (t : Thing) (e : Eff) : Prop := ∀ (h : Heap) (tb : Nat) (pv lv rv : Value), Blk h tb (cellsT t pv lv rv) → TO h pv lv rv t → tb ∉ bl3 pv lv rv →
  CallsH Tryz.prog g [ptr tb, .agg ⟨encD e⟩] h (Ret (DoPost (doneT t e).1 (doneT t e).2 tb pv lv rv h))

theorem bl3_nil {h : Heap} {pv lv rv : Value} : ∀ b ∈ bl3 (.slice none 0 0) (.slice none 0 0) (.slice none 0 0), b ∈ bl3 pv lv rv ∨ h.size ≤ b := by
  intro b hb
  exact absurd (show b ∈ ([] : List Nat) from hb) (by simp)

theorem bl3_self {h : Heap} {pv lv rv : Value} : ∀ b ∈ bl3 pv lv rv, b ∈ bl3 pv lv rv ∨ h.size ≤ b := fun _ hb => .inl hb

theorem bl3_l {h : Heap} {pv lv rv lv' : Value} (hl : ∀ b ∈ vblk lv', b ∈ vblk lv ∨ h.size ≤ b) : ∀ b ∈ bl3 pv lv' rv, b ∈ bl3 pv lv rv ∨ h.size ≤ b := by
  intro b hb
  simp only [bl3, List.mem_append] at hb ⊢
  rcases hb with hb | hb | hb
  · exact .inl (.inl hb)
  · rcases hl b hb with h | h
    · exact .inl (.inr (.inl h))
    · exact .inr h
  · exact .inl (.inr (.inr hb))
theorem bl3_p {h : Heap} {pv lv rv pv' : Value} (hl : ∀ b ∈ vblk pv', b ∈ vblk pv ∨ h.size ≤ b) : ∀ b ∈ bl3 pv' lv rv, b ∈ bl3 pv lv rv ∨ h.size ≤ b := by
  intro b hb
  simp only [bl3, List.mem_append] at hb ⊢
  rcases hb with hb | hb
  · rcases hl b hb with h | h
    · exact .inl (.inl h)
    · exact .inr h
  · exact .inl (.inr hb)
theorem bl3_r {h : Heap} {pv lv rv rv' : Value} (hl : ∀ b ∈ vblk rv', b ∈ vblk rv ∨ h.size ≤ b) : ∀ b ∈ bl3 pv lv rv', b ∈ bl3 pv lv rv ∨ h.size ≤ b := by
  intro b hb
  simp only [bl3, List.mem_append] at hb ⊢
  rcases hb with hb | hb | hb
  · exact .inl (.inl hb)
  · exact .inl (.inr (.inl hb))
  · rcases hl b hb with h | h
    · exact .inl (.inr (.inr h))
    · exact .inr h

theorem drop_do {t : Thing} {e : Eff} (hop : e.op = 1) (gd : TGood t) : DoOK 117 t e := by
  have ed : doneT t e = (zeroT, 0) := by unfold doneT; simp [hop]
  intro h tb pv lv rv T0 o0 hn
  rw [ed]
  have lens := gd.lens
  have lp := lens.p
  have ll := lens.l
  have lr := lens.r
  have hn' : tb ∉ vblk pv ∧ tb ∉ vblk lv ∧ tb ∉ vblk rv := by simpa [bl3] using hn
  have ltb := T0.lt
  refine f117_calls (by simp) ?_
  intro b3 h1 g1
  have c1 := g1.chg
  have i3 := g1.id
  have s1 := g1.size
  have B31 : Blk h1 b3 (encD e) := g1.blk
  have T1 := T0.chg c1 (by simp)
  have o1 := o0.ext c1
  have z1 : Chg (tb :: bl3 pv lv rv) h h1 := ((Chg.refl h).mono (by simp)).step c1 (by simp)
  refine Exists.intro _ (And.intro T1 (And.intro (by simp [cellsT]) (And.intro rfl (And.intro (thing_one (t := zeroT) (h := h1) zero_TH) ?_))))
  intro h2 p2
  exact do_end (t' := zeroT) (show Blk h2 tb (cellsT zeroT _ _ _) from p2.blk) SL.nil SL.nil SL.nil bl3_nil (z1.step p2.chg (by simp))

theorem text_do {t : Thing} {e : Eff} (hop : e.op = 2) (gd : TGood t) : DoOK 118 t e := by
  have ed : doneT t e = (textT e.text, 0) := by unfold doneT; simp [hop]
  intro h tb pv lv rv T0 o0 hn
  rw [ed]
  have lens := gd.lens
  have lp := lens.p
  have ll := lens.l
  have lr := lens.r
  have hn' : tb ∉ vblk pv ∧ tb ∉ vblk lv ∧ tb ∉ vblk rv := by simpa [bl3] using hn
  have ltb := T0.lt
  refine f118_calls (by simp) ?_
  intro b3 h1 g1
  have c1 := g1.chg
  have i3 := g1.id
  have s1 := g1.size
  have B31 : Blk h1 b3 (encD e) := g1.blk
  have T1 := T0.chg c1 (by simp)
  have o1 := o0.ext c1
  have z1 : Chg (tb :: bl3 pv lv rv) h h1 := ((Chg.refl h).mono (by simp)).step c1 (by simp)
  refine Exists.intro _ (And.intro (cell_blk B31 rfl) ?_)
  refine Exists.intro _ (And.intro T1 (And.intro (by simp [cellsT]) (And.intro rfl (And.intro (thing_one (t := textT e.text) (h := h1) text_TH) ?_))))
  intro h2 p2
  exact do_end (t' := textT e.text) (show Blk h2 tb (cellsT (textT e.text) _ _ _) from p2.blk) SL.nil SL.nil SL.nil bl3_nil (z1.step p2.chg (by simp))

theorem until_do {t : Thing} {e : Eff} (hop : e.op = 3) (gd : TGood t) : DoOK 119 t e := by
  have ed : doneT t e = ({ t with hasU := true, unt := e.num }, 0) := by unfold doneT; simp [hop]
  intro h tb pv lv rv T0 o0 hn
  rw [ed]
  have lens := gd.lens
  have lp := lens.p
  have ll := lens.l
  have lr := lens.r
  have hn' : tb ∉ vblk pv ∧ tb ∉ vblk lv ∧ tb ∉ vblk rv := by simpa [bl3] using hn
  have ltb := T0.lt
  refine f119_calls (by simp) ?_
  intro b3 h1 g1
  have c1 := g1.chg
  have i3 := g1.id
  have s1 := g1.size
  have B31 : Blk h1 b3 (encD e) := g1.blk
  have T1 := T0.chg c1 (by simp)
  have o1 := o0.ext c1
  have z1 : Chg (tb :: bl3 pv lv rv) h h1 := ((Chg.refl h).mono (by simp)).step c1 (by simp)
  have fin : ∀ h2 h3, Put h1 h2 tb (cellsT { t with hasU := true } pv lv rv) → Put h2 h3 tb (cellsT { t with hasU := true, unt := e.num } pv lv rv) → DoPost { t with hasU := true, unt := e.num } 0 tb pv lv rv h (.int .i64 0) h3 := by
    intro h2 h3 p2 p3
    have p := p2.trans p3
    have o3 := o1.chg p.chg (fun b hb => by simp; rintro rfl; exact hn hb)
    exact do_end p3.blk o3.p.sl o3.l.sl o3.r.sl bl3_self (z1.step p.chg (by simp))
  refine And.intro ?_ ?_
  · refine Exists.intro _ (And.intro (cell_blk B31 rfl) ?_)
    refine Exists.intro _ (And.intro T1 (And.intro (by simp [cellsT]) (And.intro rfl (And.intro (ones1 rfl) ?_))))
    intro h2 p2
    refine Exists.intro _ (And.intro p2.blk (And.intro (by show 0 + 6 + 1 ≤ (cellsT { t with hasU := true } pv lv rv).length; simp [cellsT]) (And.intro rfl (And.intro (ones1 rfl) ?_))))
    intro h3 p3
    exact fin h2 h3 p2 p3
  · refine Exists.intro _ (And.intro T1 (And.intro (by simp [cellsT]) (And.intro rfl (And.intro (ones1 rfl) ?_))))
    intro h2 p2
    refine Exists.intro _ (And.intro (cell_blk (B31.chg p2.chg (by simp; omega)) rfl) ?_)
    refine Exists.intro _ (And.intro p2.blk (And.intro (by show 0 + 6 + 1 ≤ (cellsT { t with hasU := true } pv lv rv).length; simp [cellsT]) (And.intro rfl (And.intro (ones1 rfl) ?_))))
    intro h3 p3
    exact fin h2 h3 p2 p3

theorem keep_do {t : Thing} {e : Eff} (hop : e.op = 4) (gd : TGood t) : DoOK 120 t e := by
  have ed : doneT t e = ({ t with hasU := false, unt := 0 }, 0) := by unfold doneT; simp [hop]
  intro h tb pv lv rv T0 o0 hn
  rw [ed]
  have lens := gd.lens
  have lp := lens.p
  have ll := lens.l
  have lr := lens.r
  have hn' : tb ∉ vblk pv ∧ tb ∉ vblk lv ∧ tb ∉ vblk rv := by simpa [bl3] using hn
  have ltb := T0.lt
  refine f120_calls (by simp) ?_
  intro b3 h1 g1
  have c1 := g1.chg
  have i3 := g1.id
  have s1 := g1.size
  have B31 : Blk h1 b3 (encD e) := g1.blk
  have T1 := T0.chg c1 (by simp)
  have o1 := o0.ext c1
  have z1 : Chg (tb :: bl3 pv lv rv) h h1 := ((Chg.refl h).mono (by simp)).step c1 (by simp)
  refine Exists.intro _ (And.intro T1 (And.intro (by simp [cellsT]) (And.intro rfl (And.intro (ones1 rfl) ?_))))
  intro h2 p2
  refine Exists.intro _ (And.intro p2.blk (And.intro (by show 0 + 6 + 1 ≤ (cellsT { t with hasU := false } pv lv rv).length; simp [cellsT]) (And.intro rfl (And.intro (ones1 rfl) ?_))))
  intro h3 p3
  have p := p2.trans p3
  have o3 := o1.chg p.chg (fun b hb => by simp; rintro rfl; exact hn hb)
  exact do_end (show Blk h3 tb (cellsT { t with hasU := false, unt := 0 } pv lv rv) from p3.blk) o3.p.sl o3.l.sl o3.r.sl bl3_self (z1.step p.chg (by simp))

theorem head_do {t : Thing} {e : Eff} (hop : e.op = 7) (gd : TGood t) : DoOK 123 t e := by
  have ed : doneT t e = ({ t with list := e.text :: t.list }, 0) := by unfold doneT; simp [hop]
  intro h tb pv lv rv T0 o0 hn
  rw [ed]
  have lens := gd.lens
  have lp := lens.p
  have ll := lens.l
  have lr := lens.r
  have hn' : tb ∉ vblk pv ∧ tb ∉ vblk lv ∧ tb ∉ vblk rv := by simpa [bl3] using hn
  have ltb := T0.lt
  refine f123_calls (by simp) ?_
  intro b3 h1 g1
  have c1 := g1.chg
  have i3 := g1.id
  have s1 := g1.size
  have B31 : Blk h1 b3 (encD e) := g1.blk
  have T1 := T0.chg c1 (by simp)
  have o1 := o0.ext c1
  have z1 : Chg (tb :: bl3 pv lv rv) h h1 := ((Chg.refl h).mono (by simp)).step c1 (by simp)
  refine Exists.intro _ (And.intro (cell_blk T1 rfl) (Exists.intro _ (And.intro (cell_blk B31 rfl) ?_)))
  intro b2 h2 g2
  have c2 := g2.chg
  have i2 := g2.id
  have s2 := g2.size
  have o2 := o1.ext c2
  have T2 := T1.chg c2 (by simp)
  have z2 := z1.step c2 (by simp)
  have lb := o1.l.lt
  refine call_ret (insS_calls (i := 0) (x := e.text) o2.l (by omega) (Nat.zero_le _) g2.blk (fun hb => by have := lb b2 hb; omega)) ?_
  rintro r5 h5 ⟨O5, c5, hb5⟩
  have S5 : SL encS h5 r5 (e.text :: t.list) := O5.sl
  have T5 := T2.chg c5 hn'.2.1
  have o2p := o2.p
  have o2r := o2.r
  have o5p := o2p.chg c5 (fun b hb => o0.pl b hb)
  have o5r := o2r.chg c5 (fun b hb => fun hp => o0.lr b hp hb)
  have z5 := z2.step c5 (fun k hk _ => by simp [bl3, hk])
  have hb5 : ∀ b ∈ vblk r5, b ∈ vblk lv ∨ h.size ≤ b := fun b hb => by
    rcases hb5 b hb with h | h
    · exact .inl h
    · exact .inr (by omega)
  obtain ⟨a5, k5, rfl, _⟩ := S5.form
  have nr5 : tb ∉ vblk (.slice a5 (e.text :: t.list).length k5) := fun hm => by
    rcases hb5 tb hm with h | h
    · exact hn'.2.1 h
    · omega
  refine Exists.intro _ (And.intro T5 (And.intro (by simp [cellsT]) (And.intro rfl (And.intro (ones1 rfl) ?_))))
  intro h6 p6
  exact do_end (show Blk h6 tb (cellsT { t with list := (e.text :: t.list) } pv (.slice a5 (e.text :: t.list).length k5) rv) from p6.blk) (o5p.sl.chg p6.chg (by intro b hb; simp; rintro rfl; exact hn'.1 hb)) (S5.chg p6.chg (by intro b hb; simp; rintro rfl; exact nr5 hb)) (o5r.sl.chg p6.chg (by intro b hb; simp; rintro rfl; exact hn'.2.2 hb)) (bl3_l hb5) (z5.step p6.chg (by simp))

theorem tail_do {t : Thing} {e : Eff} (hop : e.op = 8) (gd : TGood t) : DoOK 125 t e := by
  have ed : doneT t e = ({ t with list := t.list ++ [e.text] }, 0) := by unfold doneT; simp [hop]
  intro h tb pv lv rv T0 o0 hn
  rw [ed]
  have lens := gd.lens
  have lp := lens.p
  have ll := lens.l
  have lr := lens.r
  have hn' : tb ∉ vblk pv ∧ tb ∉ vblk lv ∧ tb ∉ vblk rv := by simpa [bl3] using hn
  have ltb := T0.lt
  refine f125_calls (by simp) ?_
  intro b3 h1 g1
  have c1 := g1.chg
  have i3 := g1.id
  have s1 := g1.size
  have B31 : Blk h1 b3 (encD e) := g1.blk
  have T1 := T0.chg c1 (by simp)
  have o1 := o0.ext c1
  have z1 : Chg (tb :: bl3 pv lv rv) h h1 := ((Chg.refl h).mono (by simp)).step c1 (by simp)
  refine Exists.intro _ (And.intro (cell_blk T1 rfl) (Exists.intro _ (And.intro (cell_blk B31 rfl) ?_)))
  intro b2 h2 g2
  have c2 := g2.chg
  have i2 := g2.id
  have s2 := g2.size
  have o2 := o1.ext c2
  have T2 := T1.chg c2 (by simp)
  have z2 := z1.step c2 (by simp)
  obtain ⟨la, lc, hlv, _⟩ := o2.l.form
  have T2' := T2
  rw [hlv] at o2 hn' T2'
  have o2l := o2.l
  have B2 : Blk h2 b2 (encS e.text) := g2.blk
  subst hlv
  refine app_own encS_len encS_one rfl o2l (SL.one encS_len B2) (by simp; omega) ?_
  intro r5 h5 O5 c5 hb5
  have S5 : SL encS h5 r5 (t.list ++ [e.text]) := O5.sl
  have c5 : Chg (vblk (.slice la t.list.length lc)) h2 h5 := c5
  have T5 := T2.chg c5 hn'.2.1
  have o2p := o2.p
  have o2r := o2.r
  have o5p := o2p.chg c5 (fun b hb => o0.pl b hb)
  have o5r := o2r.chg c5 (fun b hb => fun hp => o0.lr b hp hb)
  have z5 := z2.step c5 (fun k hk _ => by simp [bl3, hk])
  have hb5 : ∀ b ∈ vblk r5, b ∈ vblk (.slice la t.list.length lc) ∨ h.size ≤ b := fun b hb => by
    rcases hb5 b hb with h | h
    · exact .inl h
    · exact .inr (by omega)
  obtain ⟨a5, k5, rfl, _⟩ := S5.form
  have nr5 : tb ∉ vblk (.slice a5 (t.list ++ [e.text]).length k5) := fun hm => by
    rcases hb5 tb hm with h | h
    · exact hn'.2.1 h
    · omega
  refine Exists.intro _ (And.intro T5 (And.intro (by simp [cellsT]) (And.intro rfl (And.intro (ones1 rfl) ?_))))
  intro h6 p6
  exact do_end (show Blk h6 tb (cellsT { t with list := (t.list ++ [e.text]) } pv (.slice a5 (t.list ++ [e.text]).length k5) rv) from p6.blk) (o5p.sl.chg p6.chg (by intro b hb; simp; rintro rfl; exact hn'.1 hb)) (S5.chg p6.chg (by intro b hb; simp; rintro rfl; exact nr5 hb)) (o5r.sl.chg p6.chg (by intro b hb; simp; rintro rfl; exact hn'.2.2 hb)) (bl3_l hb5) (z5.step p6.chg (by simp))

theorem unhead_do {t : Thing} {e : Eff} (hop : e.op = 9) (gd : TGood t) (hne : t.list ≠ []) : DoOK 126 t e := by
  have ed : doneT t e = ({ t with list := t.list.tail }, 0) := by unfold doneT; simp [hop]
  intro h tb pv lv rv T0 o0 hn
  rw [ed]
  have lens := gd.lens
  have lp := lens.p
  have ll := lens.l
  have lr := lens.r
  have hn' : tb ∉ vblk pv ∧ tb ∉ vblk lv ∧ tb ∉ vblk rv := by simpa [bl3] using hn
  have ltb := T0.lt
  refine f126_calls (by simp) ?_
  intro b3 h1 g1
  have c1 := g1.chg
  have i3 := g1.id
  have s1 := g1.size
  have B31 : Blk h1 b3 (encD e) := g1.blk
  have T1 := T0.chg c1 (by simp)
  have o1 := o0.ext c1
  have z1 : Chg (tb :: bl3 pv lv rv) h h1 := ((Chg.refl h).mono (by simp)).step c1 (by simp)
  have lpos : 0 < t.list.length := List.length_pos_iff.2 hne
  obtain ⟨la, lc, rfl, _⟩ := o1.l.form
  refine Exists.intro _ (And.intro (cell_blk T1 rfl) ?_)
  refine SL.slc (lo := 1) (hi := t.list.length) encS_len o1.l.sl (by omega) (Nat.le_refl _) ?_
  intro a5 hab S5
  have el : (t.list.drop 1).take (t.list.length - 1) = t.list.tail := by
    rw [List.take_of_length_le (by simp)]
    simp
  have ell : t.list.length - 1 = t.list.tail.length := by simp
  rw [el] at S5
  have T5 := T1
  have o5p := o1.p
  have o5r := o1.r
  have z5 := z1
  rw [ell] at S5 ⊢
  have hb5 : ∀ b ∈ vblk (.slice a5 t.list.tail.length (lc - 1)), b ∈ vblk (.slice la t.list.length lc) ∨ h.size ≤ b := fun b hb => by
    have hb : b ∈ ablk a5 := hb
    rw [hab] at hb
    exact .inl hb
  obtain ⟨k5, hk5⟩ : ∃ k5, k5 = lc - 1 := ⟨_, rfl⟩
  rw [← hk5] at S5 hb5 ⊢
  have nr5 : tb ∉ vblk (.slice a5 t.list.tail.length k5) := fun hm => by
    rcases hb5 tb hm with h | h
    · exact hn'.2.1 h
    · omega
  refine Exists.intro _ (And.intro T5 (And.intro (by simp [cellsT]) (And.intro rfl (And.intro (ones1 rfl) ?_))))
  intro h6 p6
  exact do_end (show Blk h6 tb (cellsT { t with list := t.list.tail } pv (.slice a5 t.list.tail.length k5) rv) from p6.blk) (o5p.sl.chg p6.chg (by intro b hb; simp; rintro rfl; exact hn'.1 hb)) (S5.chg p6.chg (by intro b hb; simp; rintro rfl; exact nr5 hb)) (o5r.sl.chg p6.chg (by intro b hb; simp; rintro rfl; exact hn'.2.2 hb)) (bl3_l hb5) (z5.step p6.chg (by simp))

theorem untail_do {t : Thing} {e : Eff} (hop : e.op = 10) (gd : TGood t) (hne : t.list ≠ []) : DoOK 127 t e := by
  have ed : doneT t e = ({ t with list := t.list.dropLast }, 0) := by unfold doneT; simp [hop]
  intro h tb pv lv rv T0 o0 hn
  rw [ed]
  have lens := gd.lens
  have lp := lens.p
  have ll := lens.l
  have lr := lens.r
  have hn' : tb ∉ vblk pv ∧ tb ∉ vblk lv ∧ tb ∉ vblk rv := by simpa [bl3] using hn
  have ltb := T0.lt
  refine f127_calls (by simp) ?_
  intro b3 h1 g1
  have c1 := g1.chg
  have i3 := g1.id
  have s1 := g1.size
  have B31 : Blk h1 b3 (encD e) := g1.blk
  have T1 := T0.chg c1 (by simp)
  have o1 := o0.ext c1
  have z1 : Chg (tb :: bl3 pv lv rv) h h1 := ((Chg.refl h).mono (by simp)).step c1 (by simp)
  have lpos : 0 < t.list.length := List.length_pos_iff.2 hne
  obtain ⟨la, lc, rfl, _⟩ := o1.l.form
  refine Exists.intro _ (And.intro (cell_blk T1 rfl) (Exists.intro _ (And.intro (cell_blk T1 rfl) ?_)))
  refine And.intro rfl (fun z hz => ?_)
  have hz := sub_in hz (by omega) (by omega)
  have hz : z = ((t.list.length - 1 : Nat) : Int) := by omega
  subst hz
  refine SL.slc (lo := 0) (hi := t.list.length - 1) encS_len o1.l.sl (Nat.zero_le _) (by omega) ?_
  intro a5 hab S5
  have el : (t.list.drop 0).take (t.list.length - 1 - 0) = t.list.dropLast := by
    rw [List.drop_zero, List.dropLast_eq_take]; simp
  have ell : t.list.length - 1 - 0 = t.list.dropLast.length := by simp
  rw [el] at S5
  have T5 := T1
  have o5p := o1.p
  have o5r := o1.r
  have z5 := z1
  rw [ell] at S5 ⊢
  have hb5 : ∀ b ∈ vblk (.slice a5 t.list.dropLast.length (lc - 0)), b ∈ vblk (.slice la t.list.length lc) ∨ h.size ≤ b := fun b hb => by
    have hb : b ∈ ablk a5 := hb
    rw [hab] at hb
    exact .inl hb
  obtain ⟨k5, hk5⟩ : ∃ k5, k5 = lc - 0 := ⟨_, rfl⟩
  rw [← hk5] at S5 hb5 ⊢
  have nr5 : tb ∉ vblk (.slice a5 t.list.dropLast.length k5) := fun hm => by
    rcases hb5 tb hm with h | h
    · exact hn'.2.1 h
    · omega
  refine Exists.intro _ (And.intro T5 (And.intro (by simp [cellsT]) (And.intro rfl (And.intro (ones1 rfl) ?_))))
  intro h6 p6
  exact do_end (show Blk h6 tb (cellsT { t with list := t.list.dropLast } pv (.slice a5 t.list.dropLast.length k5) rv) from p6.blk) (o5p.sl.chg p6.chg (by intro b hb; simp; rintro rfl; exact hn'.1 hb)) (S5.chg p6.chg (by intro b hb; simp; rintro rfl; exact nr5 hb)) (o5r.sl.chg p6.chg (by intro b hb; simp; rintro rfl; exact hn'.2.2 hb)) (bl3_l hb5) (z5.step p6.chg (by simp))

theorem set_cells {α : Type} {enc : α → List Value} (l : List α) (n : Nat) (hn : n < l.length) (x : α) (rest : List Value) :
    l.flatMap enc ++ rest = (l.take n).flatMap enc ++ (enc l[n] ++ ((l.drop (n + 1)).flatMap enc ++ rest)) ∧ (l.set n x).flatMap enc ++ rest = (l.take n).flatMap enc ++ (enc x ++ ((l.drop (n + 1)).flatMap enc ++ rest)) := by
  have e := split_k hn
  constructor
  · have e2 : l.flatMap enc = (l.take n ++ l[n] :: l.drop (n + 1)).flatMap enc := congrArg (fun q => q.flatMap enc) e
    rw [e2, List.flatMap_append, List.flatMap_cons, List.append_assoc, List.append_assoc]
  · rw [List.set_eq_take_append_cons_drop, if_pos hn]
    simp

theorem at_do {t : Thing} {e : Eff} (hop : e.op = 11) (gd : TGood t) : DoOK 128 t e := by
  have ed : doneT t e = (if 0 ≤ e.num ∧ e.num < t.list.length then ({ t with list := t.list.set e.num.toNat e.text }, 0) else (t, 4)) := by unfold doneT; simp [hop]
  intro h tb pv lv rv T0 o0 hn
  rw [ed]
  have lens := gd.lens
  have lp := lens.p
  have ll := lens.l
  have lr := lens.r
  have hn' : tb ∉ vblk pv ∧ tb ∉ vblk lv ∧ tb ∉ vblk rv := by simpa [bl3] using hn
  have ltb := T0.lt
  refine f128_calls (by simp) ?_
  intro b3 h1 g1
  have c1 := g1.chg
  have i3 := g1.id
  have s1 := g1.size
  have B31 : Blk h1 b3 (encD e) := g1.blk
  have T1 := T0.chg c1 (by simp)
  have o1 := o0.ext c1
  have z1 : Chg (tb :: bl3 pv lv rv) h h1 := ((Chg.refl h).mono (by simp)).step c1 (by simp)
  have bad : ¬ (0 ≤ e.num ∧ e.num < t.list.length) → DoPost (if 0 ≤ e.num ∧ e.num < t.list.length then (({ t with list := t.list.set e.num.toNat e.text }, 0) : Thing × Int) else (t, 4)).1 (if 0 ≤ e.num ∧ e.num < t.list.length then (({ t with list := t.list.set e.num.toNat e.text }, 0) : Thing × Int) else (t, 4)).2 tb pv lv rv h (.int .i64 4) h1 := by
    intro hb
    rw [if_neg hb]
    exact do_no (n := 4) (by decide) z1
  refine Exists.intro _ (And.intro (cell_blk B31 rfl) ?_)
  refine And.intro rfl (And.intro (fun hneg => bad (by omega)) (fun hneg => ?_))
  obtain ⟨la, lc, rfl, _⟩ := o1.l.form
  refine Exists.intro _ (And.intro (cell_blk B31 rfl) (Exists.intro _ (And.intro (cell_blk T1 rfl) ?_)))
  refine And.intro rfl (And.intro (fun hbig => bad (by omega)) (fun hbig => ?_))
  have hin : 0 ≤ e.num ∧ e.num < t.list.length := by omega
  rw [if_pos hin]
  obtain ⟨n, hnn⟩ : ∃ n : Nat, e.num = n := ⟨e.num.toNat, by omega⟩
  have hnl : n < t.list.length := by omega
  have hnt : e.num.toNat = n := by omega
  obtain ⟨_, hopen⟩ := o1.l.open
  rcases hopen with ⟨_, e0, _⟩ | ⟨b, rfl, hle, rest, B, hbl⟩
  · rw [e0] at hnl; exact absurd hnl (by simp)
  refine Exists.intro _ (And.intro (cell_blk T1 rfl) (Exists.intro _ (And.intro (cell_blk B31 rfl) (Exists.intro _ (And.intro (cell_blk B31 rfl) ?_)))))
  refine And.intro hin.1 (And.intro hin.2 ?_)
  obtain ⟨q1, q2⟩ := set_cells (enc := encS) t.list n hnl e.text rest
  rw [q1] at B
  refine Exists.intro _ (And.intro B (And.intro ?_ (And.intro rfl (And.intro (ones1 rfl) ?_))))
  · rw [hnt, ← q1, hbl]; omega
  intro h5 p5
  have zi := take_len encS_len t.list n (by omega)
  have e5 : splice ((t.list.take n).flatMap encS ++ (encS t.list[n] ++ ((t.list.drop (n + 1)).flatMap encS ++ rest))) (0 + e.num.toNat * 1) [.string e.text] = (t.list.set n e.text).flatMap encS ++ rest := by
    rw [q2, hnt, show 0 + n * 1 = ((t.list.take n).flatMap encS).length by rw [zi]; omega]
    exact splice_at _ _ _ _ rfl
  have P5 : Put h1 h5 b ((t.list.set n e.text).flatMap encS ++ rest) := by
    rw [← e5]; exact p5
  have O5 : OL encS 1 h5 (.slice (some ⟨b, 0, none⟩) t.list.length lc) (t.list.set n e.text) := by
    refine OL.mk (rest := rest) (by simp) (by simp; exact hle) P5.blk ?_
    rw [← hbl]
    simp only [List.length_append, flatMap_len encS_len, List.length_set]
  have c5 : Chg (vblk (.slice (some ⟨b, 0, none⟩) t.list.length lc)) h1 h5 := P5.chg
  have T5 := T1.chg c5 hn'.2.1
  have o1p := o1.p
  have o1r := o1.r
  have o5p := o1p.chg c5 (fun b hb => o0.pl b hb)
  have o5r := o1r.chg c5 (fun b hb => fun hp => o0.lr b hp hb)
  have z5 := z1.step c5 (fun k hk _ => by simp only [bl3, List.mem_cons, List.mem_append]; exact .inr (.inr (.inl hk)))
  rw [hnt]
  exact do_end (t' := { t with list := t.list.set n e.text }) (show Blk h5 tb (cellsT { t with list := t.list.set n e.text } _ _ _) from T5) o5p.sl O5.sl o5r.sl bl3_self z5

theorem add_do {t : Thing} {e : Eff} (hop : e.op = 12) (gd : TGood t) (hk : t.kind = 4) : DoOK 129 t e := by
  have ed : doneT t e = ({ t with list := putF (fun x => decide (x = e.name)) (fun x => sless e.name x) e.name t.list false }, 0) := by unfold doneT; simp [hop]
  intro h tb pv lv rv T0 o0 hn
  rw [ed]
  have lens := gd.lens
  have lp := lens.p
  have ll := lens.l
  have lr := lens.r
  have hn' : tb ∉ vblk pv ∧ tb ∉ vblk lv ∧ tb ∉ vblk rv := by simpa [bl3] using hn
  have ltb := T0.lt
  refine f129_calls (by simp) ?_
  intro b3 h1 g1
  have c1 := g1.chg
  have i3 := g1.id
  have s1 := g1.size
  have B31 : Blk h1 b3 (encD e) := g1.blk
  have T1 := T0.chg c1 (by simp)
  have o1 := o0.ext c1
  have z1 : Chg (tb :: bl3 pv lv rv) h h1 := ((Chg.refl h).mono (by simp)).step c1 (by simp)
  have hs := gd.ls hk
  refine Exists.intro _ (And.intro (cell_blk T1 rfl) (Exists.intro _ (And.intro (cell_blk B31 rfl) ?_)))
  refine call_ret (bynS_calls e.name o1.l.sl (by omega) hs) ?_
  rintro _ h2 ⟨⟨k, rfl, hc⟩, c2⟩
  have s2 := c2.size
  have o2 := o1.ext c2
  have T2 := T1.chg c2 (by simp)
  have B32 := B31.chg c2 (by simp)
  have z2 := z1.step c2 (by simp)
  cases hf : (t.list[k]?).any fun x => decide (x = e.name) with
  | true =>
    obtain ⟨hkl, hke, _⟩ := cut_there (nm := fun x => x) hs hc hf
    have ep : putF (fun x => decide (x = e.name)) (fun x => sless e.name x) e.name t.list false = t.list := by
      have h1 : putF (fun x => decide (x = e.name)) (fun x => sless e.name x) e.name t.list false = t.list.take k ++ e.name :: t.list.drop (k + 1) := put_there (nm := fun x => x) hs hc hf
      rw [h1]
      have := split_k hkl
      rw [show t.list[k] = e.name from hke] at this
      exact this.symm
    rw [ep]
    exact do_end (t' := { t with list := t.list }) (show Blk h2 tb (cellsT { t with list := t.list } pv lv rv) from T2) o2.p.sl o2.l.sl o2.r.sl bl3_self z2
  | false =>
    have ep : putF (fun x => decide (x = e.name)) (fun x => sless e.name x) e.name t.list false = t.list.take k ++ e.name :: t.list.drop k := put_none (nm := fun x => x) hs hc hf
    rw [ep]
    refine Exists.intro _ (And.intro (cell_blk T2 rfl) (Exists.intro _ (And.intro (cell_blk B32 rfl) ?_)))
    intro b4 h3 g3
    have c3 := g3.chg
    have i4 := g3.id
    have s3 := g3.size
    have o3 := o2.ext c3
    have T3 := T2.chg c3 (by simp)
    have z3 := z2.step c3 (by simp)
    have lb := o2.l.lt
    refine call_ret (insS_calls (x := e.name) o3.l (by omega) hc.le g3.blk (fun hb => by have := lb b4 hb; omega)) ?_
    rintro r5 h5 ⟨O5, c5, hb5⟩
    have S5 := O5.sl
    have T5 := T3.chg c5 hn'.2.1
    have o3p := o3.p
    have o3r := o3.r
    have o5p := o3p.chg c5 (fun b hb => o0.pl b hb)
    have o5r := o3r.chg c5 (fun b hb => fun hp => o0.lr b hp hb)
    have z5 := z3.step c5 (fun k hk _ => by simp [bl3, hk])
    have hb5 : ∀ b ∈ vblk r5, b ∈ vblk lv ∨ h.size ≤ b := fun b hb => by
      rcases hb5 b hb with h | h
      · exact .inl h
      · exact .inr (by omega)
    obtain ⟨a5, k5, rfl, _⟩ := S5.form
    have nr5 : tb ∉ vblk (.slice a5 (t.list.take k ++ e.name :: t.list.drop k).length k5) := fun hm => by
      rcases hb5 tb hm with h | h
      · exact hn'.2.1 h
      · omega
    refine Exists.intro _ (And.intro T5 (And.intro (by simp [cellsT]) (And.intro rfl (And.intro (ones1 rfl) ?_))))
    intro h6 p6
    exact do_end (show Blk h6 tb (cellsT { t with list := (t.list.take k ++ e.name :: t.list.drop k) } pv (.slice a5 (t.list.take k ++ e.name :: t.list.drop k).length k5) rv) from p6.blk) (o5p.sl.chg p6.chg (by intro b hb; simp; rintro rfl; exact hn'.1 hb)) (S5.chg p6.chg (by intro b hb; simp; rintro rfl; exact nr5 hb)) (o5r.sl.chg p6.chg (by intro b hb; simp; rintro rfl; exact hn'.2.2 hb)) (bl3_l hb5) (z5.step p6.chg (by simp))

theorem remove_do {t : Thing} {e : Eff} (hop : e.op = 13) (gd : TGood t) (hk : t.kind = 4) : DoOK 130 t e := by
  have ed : doneT t e = ({ t with list := delF (fun x => decide (x = e.name)) t.list }, if t.list.any (fun x => decide (x = e.name)) then 0 else 5) := by unfold doneT; simp [hop]
  intro h tb pv lv rv T0 o0 hn
  rw [ed]
  have lens := gd.lens
  have lp := lens.p
  have ll := lens.l
  have lr := lens.r
  have hn' : tb ∉ vblk pv ∧ tb ∉ vblk lv ∧ tb ∉ vblk rv := by simpa [bl3] using hn
  have ltb := T0.lt
  refine f130_calls (by simp) ?_
  intro b3 h1 g1
  have c1 := g1.chg
  have i3 := g1.id
  have s1 := g1.size
  have B31 : Blk h1 b3 (encD e) := g1.blk
  have T1 := T0.chg c1 (by simp)
  have o1 := o0.ext c1
  have z1 : Chg (tb :: bl3 pv lv rv) h h1 := ((Chg.refl h).mono (by simp)).step c1 (by simp)
  have hs := gd.ls hk
  refine Exists.intro _ (And.intro (cell_blk T1 rfl) (Exists.intro _ (And.intro (cell_blk B31 rfl) ?_)))
  refine call_ret (bynS_calls e.name o1.l.sl (by omega) hs) ?_
  rintro _ h2 ⟨⟨k, rfl, hc⟩, c2⟩
  have s2 := c2.size
  have o2 := o1.ext c2
  have T2 := T1.chg c2 (by simp)
  have z2 := z1.step c2 (by simp)
  cases hf : (t.list[k]?).any fun x => decide (x = e.name) with
  | false =>
    have ea := any_none (nm := fun x : ByteArray => x) hs hc hf
    rw [if_neg (by rw [ea]; simp)]
    exact do_no (by decide) z2
  | true =>
    obtain ⟨ed2, ea⟩ := del_there (nm := fun x : ByteArray => x) hs hc hf
    obtain ⟨hkl, _⟩ := cut_there (nm := fun x : ByteArray => x) hs hc hf
    rw [if_pos ea, ed2]
    refine Exists.intro _ (And.intro (cell_blk T2 rfl) ?_)
    refine And.intro rfl (fun z hz => ?_)
    have hz := add_in hz (by omega) (by omega)
    have hz : z = ((k + 1 : Nat) : Int) := by omega
    subst hz
    refine call_ret (delS_calls o2.l (by omega) hkl) ?_
    rintro r5 h5 ⟨O5, c5, hb5⟩
    have S5 := O5.sl
    have T5 := T2.chg c5 hn'.2.1
    have o2p := o2.p
    have o2l := o2.l
    have o2r := o2.r
    have o5p := o2p.chg c5 (fun b hb => o0.pl b hb)
    have o5r := o2r.chg c5 (fun b hb => fun hp => o0.lr b hp hb)
    have z5 := z2.step c5 (fun k hk _ => by simp [bl3, hk])
    have hb5 : ∀ b ∈ vblk r5, b ∈ vblk lv ∨ h.size ≤ b := fun b hb => .inl (hb5 b hb)
    obtain ⟨a5, k5, rfl, _⟩ := S5.form
    have nr5 : tb ∉ vblk (.slice a5 (t.list.take k ++ t.list.drop (k + 1)).length k5) := fun hm => by
      rcases hb5 tb hm with h | h
      · exact hn'.2.1 h
      · omega
    refine Exists.intro _ (And.intro T5 (And.intro (by simp [cellsT]) (And.intro rfl (And.intro (ones1 rfl) ?_))))
    intro h6 p6
    exact do_end (show Blk h6 tb (cellsT { t with list := (t.list.take k ++ t.list.drop (k + 1)) } pv (.slice a5 (t.list.take k ++ t.list.drop (k + 1)).length k5) rv) from p6.blk) (o5p.sl.chg p6.chg (by intro b hb; simp; rintro rfl; exact hn'.1 hb)) (S5.chg p6.chg (by intro b hb; simp; rintro rfl; exact nr5 hb)) (o5r.sl.chg p6.chg (by intro b hb; simp; rintro rfl; exact hn'.2.2 hb)) (bl3_l hb5) (z5.step p6.chg (by simp))

theorem unhash_do {t : Thing} {e : Eff} (hop : e.op = 6) (gd : TGood t) : DoOK 122 t e := by
  have ed : doneT t e = ({ t with pairs := delF (fun x => decide (x.name = e.name)) t.pairs }, if t.pairs.any (fun x => decide (x.name = e.name)) then 0 else 5) := by unfold doneT; simp [hop]
  intro h tb pv lv rv T0 o0 hn
  rw [ed]
  have lens := gd.lens
  have lp := lens.p
  have ll := lens.l
  have lr := lens.r
  have hn' : tb ∉ vblk pv ∧ tb ∉ vblk lv ∧ tb ∉ vblk rv := by simpa [bl3] using hn
  have ltb := T0.lt
  refine f122_calls (by simp) ?_
  intro b3 h1 g1
  have c1 := g1.chg
  have i3 := g1.id
  have s1 := g1.size
  have B31 : Blk h1 b3 (encD e) := g1.blk
  have T1 := T0.chg c1 (by simp)
  have o1 := o0.ext c1
  have z1 : Chg (tb :: bl3 pv lv rv) h h1 := ((Chg.refl h).mono (by simp)).step c1 (by simp)
  have hs := gd.ps
  refine Exists.intro _ (And.intro (cell_blk T1 rfl) (Exists.intro _ (And.intro (cell_blk B31 rfl) ?_)))
  refine call_ret (bynP_calls e.name o1.p.sl (by omega) hs) ?_
  rintro _ h2 ⟨⟨k, rfl, hc⟩, c2⟩
  have s2 := c2.size
  have o2 := o1.ext c2
  have T2 := T1.chg c2 (by simp)
  have z2 := z1.step c2 (by simp)
  cases hf : (t.pairs[k]?).any fun x => decide (x.name = e.name) with
  | false =>
    have ea := any_none (nm := fun x : Pair => x.name) hs hc hf
    rw [if_neg (by rw [ea]; simp)]
    exact do_no (by decide) z2
  | true =>
    obtain ⟨ed2, ea⟩ := del_there (nm := fun x : Pair => x.name) hs hc hf
    obtain ⟨hkl, _⟩ := cut_there (nm := fun x : Pair => x.name) hs hc hf
    rw [if_pos ea, ed2]
    refine Exists.intro _ (And.intro (cell_blk T2 rfl) ?_)
    refine And.intro rfl (fun z hz => ?_)
    have hz := add_in hz (by omega) (by omega)
    have hz : z = ((k + 1 : Nat) : Int) := by omega
    subst hz
    refine call_ret (delP_calls o2.p (by omega) hkl) ?_
    rintro r5 h5 ⟨O5, c5, hb5⟩
    have S5 := O5.sl
    have T5 := T2.chg c5 hn'.1
    have o2p := o2.p
    have o2l := o2.l
    have o2r := o2.r
    have o5l := o2l.chg c5 (fun b hb => fun hp => o0.pl b hp hb)
    have o5r := o2r.chg c5 (fun b hb => fun hp => o0.pr b hp hb)
    have z5 := z2.step c5 (fun k hk _ => by simp [bl3, hk])
    have hb5 : ∀ b ∈ vblk r5, b ∈ vblk pv ∨ h.size ≤ b := fun b hb => .inl (hb5 b hb)
    obtain ⟨a5, k5, rfl, _⟩ := S5.form
    have nr5 : tb ∉ vblk (.slice a5 (t.pairs.take k ++ t.pairs.drop (k + 1)).length k5) := fun hm => by
      rcases hb5 tb hm with h | h
      · exact hn'.1 h
      · omega
    refine Exists.intro _ (And.intro T5 (And.intro (by simp [cellsT]) (And.intro rfl (And.intro (ones1 rfl) ?_))))
    intro h6 p6
    exact do_end (show Blk h6 tb (cellsT { t with pairs := (t.pairs.take k ++ t.pairs.drop (k + 1)) } (.slice a5 (t.pairs.take k ++ t.pairs.drop (k + 1)).length k5) lv rv) from p6.blk) (S5.chg p6.chg (by intro b hb; simp; rintro rfl; exact nr5 hb)) (o5l.sl.chg p6.chg (by intro b hb; simp; rintro rfl; exact hn'.2.1 hb)) (o5r.sl.chg p6.chg (by intro b hb; simp; rintro rfl; exact hn'.2.2 hb)) (bl3_p hb5) (z5.step p6.chg (by simp))

theorem hash_rest {t : Thing} {e : Eff} {h h2 : Heap} {tb b3 k : Nat} {pv pv' lv rv : Value} {L : List Pair} (hn' : tb ∉ vblk pv' ∧ tb ∉ vblk lv ∧ tb ∉ vblk rv) (T : Blk h2 tb (cellsT { t with pairs := L } pv' lv rv)) (B3 : Blk h2 b3 (encD e))
    (O : OL encP 2 h2 pv' L) (hk : k < L.length) (hnm : L[k].name = e.name) (sl : SL encS h2 lv t.list) (sr : SL encR h2 rv t.ranks) (hl : ∀ b ∈ vblk pv', b ∉ vblk lv) (hr : ∀ b ∈ vblk pv', b ∉ vblk rv)
    (hb : ∀ b ∈ vblk pv', b ∈ vblk pv ∨ h.size ≤ b) (c : Chg (tb :: bl3 pv lv rv) h h2) (_ : h.size ≤ h2.size) :
    swp Tryz.prog (.seq (.ops f121r4) (.seq (.ops f121r5) .ret)) (retQ [.t 4] (Ret (DoPost { t with pairs := L.set k ⟨e.name, e.text⟩ } 0 tb pv lv rv h))) (mk [(0, ptr tb), (3, ptr b3), (5, .int .i64 k)]) [] h2 := by
  obtain ⟨la, lc, rfl, _⟩ := O.form
  obtain ⟨_, hopen⟩ := O.open
  rcases hopen with ⟨_, e0, _⟩ | ⟨b, rfl, hle, rest, B, hbl⟩
  · subst e0; exact absurd hk (by simp)
  refine Exists.intro _ (And.intro (cell_blk T rfl) (Exists.intro _ (And.intro (cell_blk B3 rfl) ?_)))
  refine And.intro (by omega) (And.intro (by omega) ?_)
  obtain ⟨q1, q2⟩ := set_cells (enc := encP) L k hk ⟨e.name, e.text⟩ rest
  have zi := take_len encP_len L k (by omega)
  have q1' : L.flatMap encP ++ rest = ((L.take k).flatMap encP ++ [.string e.name]) ++ ([.string L[k].text] ++ ((L.drop (k + 1)).flatMap encP ++ rest)) := by
    rw [q1]; simp [encP, hnm]
  have q2' : (L.set k ⟨e.name, e.text⟩).flatMap encP ++ rest = ((L.take k).flatMap encP ++ [.string e.name]) ++ ([.string e.text] ++ ((L.drop (k + 1)).flatMap encP ++ rest)) := by
    rw [q2]; simp [encP]
  refine Exists.intro _ (And.intro B (And.intro ?_ (And.intro rfl (And.intro (ones1 rfl) ?_))))
  · rw [hbl]; omega
  intro h5 p5
  have e5 : splice (L.flatMap encP ++ rest) (0 + (k : Int).toNat * 2 + 1) [.string e.text] = (L.set k ⟨e.name, e.text⟩).flatMap encP ++ rest := by
    rw [q2', q1', show 0 + (k : Int).toNat * 2 + 1 = ((L.take k).flatMap encP ++ [Value.string e.name]).length by rw [List.length_append, zi]; simp]
    exact splice_at _ _ _ _ rfl
  have P5 : Put h2 h5 b ((L.set k ⟨e.name, e.text⟩).flatMap encP ++ rest) := by
    rw [← e5]; exact p5
  have O5 : OL encP 2 h5 (.slice (some ⟨b, 0, none⟩) L.length lc) (L.set k ⟨e.name, e.text⟩) := by
    refine OL.mk (rest := rest) (by simp) (by simp; exact hle) P5.blk ?_
    rw [← hbl]
    simp only [List.length_append, flatMap_len encP_len, List.length_set]
  have c5 : Chg (vblk (.slice (some ⟨b, 0, none⟩) L.length lc)) h2 h5 := P5.chg
  refine do_end (t' := { t with pairs := L.set k ⟨e.name, e.text⟩ }) (show Blk h5 tb (cellsT { t with pairs := L.set k ⟨e.name, e.text⟩ } _ _ _) from T.chg c5 hn'.1) O5.sl (sl.chg c5 fun x hx hp => hl x hp hx) (sr.chg c5 fun x hx hp => hr x hp hx) (bl3_p hb) (c.step c5 fun x hx hlt => ?_)
  rcases hb x hx with h | h
  · simp [bl3, h]
  · omega

theorem hash_do {t : Thing} {e : Eff} (hop : e.op = 5) (gd : TGood t) : DoOK 121 t e := by
  have ed : doneT t e = ({ t with pairs := putF (fun x => decide (x.name = e.name)) (fun x => sless e.name x.name) ⟨e.name, e.text⟩ t.pairs false }, 0) := by unfold doneT; simp [hop]
  intro h tb pv lv rv T0 o0 hn
  rw [ed]
  have lens := gd.lens
  have lp := lens.p
  have ll := lens.l
  have lr := lens.r
  have hn' : tb ∉ vblk pv ∧ tb ∉ vblk lv ∧ tb ∉ vblk rv := by simpa [bl3] using hn
  have ltb := T0.lt
  refine f121_calls (by simp) ?_
  intro b3 h1 g1
  have c1 := g1.chg
  have i3 := g1.id
  have s1 := g1.size
  have B31 : Blk h1 b3 (encD e) := g1.blk
  have T1 := T0.chg c1 (by simp)
  have o1 := o0.ext c1
  have z1 : Chg (tb :: bl3 pv lv rv) h h1 := ((Chg.refl h).mono (by simp)).step c1 (by simp)
  have hs := gd.ps
  refine Exists.intro _ (And.intro (cell_blk T1 rfl) (Exists.intro _ (And.intro (cell_blk B31 rfl) ?_)))
  refine call_ret (bynP_calls e.name o1.p.sl (by omega) hs) ?_
  rintro _ h2 ⟨⟨k, rfl, hc⟩, c2⟩
  have s2 := c2.size
  have o2 := o1.ext c2
  have T2 := T1.chg c2 (by simp)
  have B32 := B31.chg c2 (by simp)
  have z2 := z1.step c2 (by simp)
  cases hf : (t.pairs[k]?).any fun x => decide (x.name = e.name) with
  | true =>
    obtain ⟨hkl, hke, _⟩ := cut_there (nm := fun x : Pair => x.name) hs hc hf
    have ep : putF (fun x => decide (x.name = e.name)) (fun x => sless e.name x.name) ⟨e.name, e.text⟩ t.pairs false = t.pairs.set k ⟨e.name, e.text⟩ := by
      have h1 := put_there (nm := fun x : Pair => x.name) (y := (⟨e.name, e.text⟩ : Pair)) hs hc hf
      rw [h1, List.set_eq_take_append_cons_drop, if_pos hkl]
    rw [ep]
    refine swp_seq ?_
    exact cut_at [(0, ptr tb), (3, ptr b3), (5, .int .i64 k)] ⟨rfl, rfl, rfl, trivial⟩ (hash_rest (pv := pv) hn' T2 B32 o2.p hkl hke o2.l.sl o2.r.sl o0.pl o0.pr (fun b hb => .inl hb) z2 (by omega))
  | false =>
    have ep := put_none (nm := fun x : Pair => x.name) (y := (⟨e.name, e.text⟩ : Pair)) hs hc hf
    rw [ep]
    refine Exists.intro _ (And.intro (cell_blk T2 rfl) (Exists.intro _ (And.intro (cell_blk B32 rfl) ?_)))
    intro b4 h3 g3
    have c3 := g3.chg
    have i4 := g3.id
    have s3 := g3.size
    have o3 := o2.ext c3
    have T3 := T2.chg c3 (by simp)
    have z3 := z2.step c3 (by simp)
    have lb := o2.p.lt
    have B4 : Blk h3 b4 (encP ⟨e.name, noText⟩) := g3.blk
    refine call_ret (insP_calls (x := ⟨e.name, noText⟩) o3.p (by omega) hc.le B4 (fun hb => by have := lb b4 hb; omega)) ?_
    rintro r5 h5 ⟨O5, c5, hb5⟩
    have hl5 : ∀ b ∈ vblk r5, b ∉ vblk lv := fun b hb hx => by
      rcases hb5 b hb with h | h
      · exact o0.pl b h hx
      · have := o0.l.lt b hx; omega
    have hr5 : ∀ b ∈ vblk r5, b ∉ vblk rv := fun b hb hx => by
      rcases hb5 b hb with h | h
      · exact o0.pr b h hx
      · have := o0.r.lt b hx; omega
    obtain ⟨a5, k5, rfl, _⟩ := O5.form
    have T5 := T3.chg c5 hn'.1
    have B35 := (B32.chg c3 (by simp)).chg c5 (fun hx => by have := o0.p.lt b3 hx; omega)
    have o3l := o3.l
    have o3r := o3.r
    have o5l := o3l.chg c5 (fun b hb => fun hp => o0.pl b hp hb)
    have o5r := o3r.chg c5 (fun b hb => fun hp => o0.pr b hp hb)
    have z5 := z3.step c5 (fun k hk _ => by simp [bl3, hk])
    have s5 := c5.size
    have n5 : tb ∉ vblk (.slice a5 (t.pairs.take k ++ ⟨e.name, noText⟩ :: t.pairs.drop k).length k5) := fun hm => by
      rcases hb5 tb hm with h | h
      · exact hn'.1 h
      · omega
    refine Exists.intro _ (And.intro T5 (And.intro (by simp [cellsT]) (And.intro rfl (And.intro (ones1 rfl) ?_))))
    intro h6 p6
    have hkl : k < (t.pairs.take k ++ (⟨e.name, noText⟩ : Pair) :: t.pairs.drop k).length := by have := hc.le; simp; omega
    have tkl : (t.pairs.take k).length = k := by have := hc.le; simp; omega
    have hke : (t.pairs.take k ++ (⟨e.name, noText⟩ : Pair) :: t.pairs.drop k)[k].name = e.name := by
      rw [List.getElem_append_right (by omega)]
      simp [tkl]
    have es : (t.pairs.take k ++ (⟨e.name, noText⟩ : Pair) :: t.pairs.drop k).set k ⟨e.name, e.text⟩ = t.pairs.take k ++ ⟨e.name, e.text⟩ :: t.pairs.drop k := by
      rw [List.set_append_right _ _ (by omega)]
      simp [tkl]
    rw [← es]
    refine cut_at [(0, ptr tb), (3, ptr b3), (5, .int .i64 k)] ⟨rfl, rfl, rfl, trivial⟩ (hash_rest (pv := pv) ⟨n5, hn'.2⟩ (show Blk h6 tb (cellsT { t with pairs := _ } _ _ _) from p6.blk) (B35.chg p6.chg (by simp; omega)) (O5.chg p6.chg (by intro b hb; simp; rintro rfl; exact n5 hb)) hkl hke
      (o5l.sl.chg p6.chg (by intro b hb; simp; rintro rfl; exact hn'.2.1 hb)) (o5r.sl.chg p6.chg (by intro b hb; simp; rintro rfl; exact hn'.2.2 hb)) hl5 hr5 (fun b hb => ?_) (z5.step p6.chg (by simp)) (by have := p6.size; omega))
    rcases hb5 b hb with h | h
    · exact .inl h
    · exact .inr (by omega)

theorem unrank1_calls {h : Heap} {b3 : Nat} (x : Rank) (e : Eff) (B3 : Blk h b3 (encD e)) : CallsH Tryz.prog 165 [.agg ⟨encR x⟩, ptr b3] h (Ret fun u h' => u = .bool (decide (x.name = e.name)) ∧ Chg [] h h') := by
  refine f165_calls (by simp) ?_
  intro b2 h1 g1
  have B2 : Blk h1 b2 (encR x) := g1.blk
  refine Exists.intro _ (And.intro (cell_blk B2 rfl) (Exists.intro _ (And.intro (cell_blk (B3.chg g1.chg (by simp)) rfl) ?_)))
  refine And.intro (fun hq => ?_) (fun hq => ?_)
  · exact And.intro (by rw [decide_eq_true hq]; rfl) g1.chg
  · exact And.intro (by rw [decide_eq_false hq]; rfl) g1.chg

theorem unrank_calls {t : Thing} (e : Eff) {h : Heap} {tb : Nat} {pv lv rv : Value} (gd : TGood t) (T0 : Blk h tb (cellsT t pv lv rv)) (o0 : TO h pv lv rv t) (hn : tb ∉ bl3 pv lv rv) :
    CallsH Tryz.prog 132 [ptr tb, .agg ⟨encD e⟩] h (Ret fun r h' => r = .int .i64 (if t.ranks.any (fun x => decide (x.name = e.name)) then 0 else 5) ∧
      ∃ rv', Blk h' tb (cellsT { t with ranks := delF (fun x => decide (x.name = e.name)) t.ranks } pv lv rv') ∧ OL encR 2 h' rv' (delF (fun x => decide (x.name = e.name)) t.ranks) ∧ (∀ b ∈ vblk rv', b ∈ vblk rv) ∧ Chg (tb :: vblk rv) h h') := by
  have lens := gd.lens
  have lr := lens.r
  have hn' : tb ∉ vblk pv ∧ tb ∉ vblk lv ∧ tb ∉ vblk rv := by simpa [bl3] using hn
  have ltb := T0.lt
  refine f132_calls (by simp) ?_
  intro b3 h1 g1
  have c1 := g1.chg
  have B31 : Blk h1 b3 (encD e) := g1.blk
  have T1 := T0.chg c1 (by simp)
  have o1 := o0.ext c1
  have z1 : Chg (tb :: vblk rv) h h1 := ((Chg.refl h).mono (by simp)).step c1 (by simp)
  refine Exists.intro _ (And.intro (cell_blk T1 rfl) ?_)
  refine call_ret (ixfR_calls (g := 165) (cap := [ptr b3]) (p := fun x => decide (x.name = e.name)) o1.r.sl (by omega) fun h' x hc => unrank1_calls x e (B31.chg hc (by simp))) ?_
  rintro r2 h2 ⟨hr2, c2⟩
  have o2 := o1.ext c2
  have T2 := T1.chg c2 (by simp)
  have z2 := z1.step c2 (by simp)
  rcases hr2 with ⟨k, hk, rfl, hp⟩ | ⟨rfl, hall⟩
  rotate_left
  · refine And.intro rfl (And.intro (fun _ => ?_) (fun hx => absurd (show (-1 : Int) < 0 by decide) hx))
    have ea : t.ranks.any (fun x => decide (x.name = e.name)) = false := List.any_eq_false.2 fun x hx => by rw [hall x hx]; simp
    have ed : delF (fun x : Rank => decide (x.name = e.name)) t.ranks = t.ranks := delF_id hall
    rw [ea, ed]
    exact And.intro rfl (Exists.intro rv (And.intro T2 (And.intro o2.r (And.intro (fun _ h => h) z2))))
  refine And.intro rfl (And.intro (fun hx => absurd hx (by omega)) (fun _ => ?_))
  have hke : t.ranks[k].name = e.name := by simpa using hp
  have ea : t.ranks.any (fun x => decide (x.name = e.name)) = true := List.any_eq_true.2 ⟨_, List.getElem_mem hk, hp⟩
  have ed := del_rank gd.once hk hke
  rw [ea, ed]
  refine Exists.intro _ (And.intro (cell_blk T2 rfl) ?_)
  refine And.intro rfl (fun z hz => ?_)
  have hz := add_in hz (by omega) (by omega)
  have hz : z = ((k + 1 : Nat) : Int) := by omega
  subst hz
  refine call_ret (delR_calls o2.r (by omega) hk) ?_
  rintro r5 h5 ⟨O5, c5, hb5⟩
  have n5 : tb ∉ vblk r5 := fun hx => hn'.2.2 (hb5 tb hx)
  obtain ⟨a5, k5, rfl, _⟩ := O5.form
  have T5 := T2.chg c5 hn'.2.2
  refine Exists.intro _ (And.intro T5 (And.intro (by simp [cellsT]) (And.intro rfl (And.intro (ones1 rfl) ?_))))
  intro h6 p6
  have z5 := z2.step c5 (fun k hk _ => by simp [hk])
  exact And.intro rfl (Exists.intro _ (And.intro (show Blk h6 tb (cellsT { t with ranks := _ } _ _ _) from p6.blk) (And.intro (O5.chg p6.chg (by intro b hb; simp; rintro rfl; exact n5 hb)) (And.intro hb5 (z5.step p6.chg (by simp))))))

theorem unrank_do {t : Thing} {e : Eff} (hop : e.op = 15) (gd : TGood t) : DoOK 132 t e := by
  have ed : doneT t e = ({ t with ranks := delF (fun x => decide (x.name = e.name)) t.ranks }, if t.ranks.any (fun x => decide (x.name = e.name)) then 0 else 5) := by unfold doneT; simp [hop]
  intro h tb pv lv rv T0 o0 hn
  rw [ed]
  have hn' : tb ∉ vblk pv ∧ tb ∉ vblk lv ∧ tb ∉ vblk rv := by simpa [bl3] using hn
  refine (unrank_calls e gd T0 o0 hn).mono fun en h' he => ?_
  cases en with
  | returned v =>
    obtain ⟨hv, rv', B, O, hb, c⟩ := he
    have c' : Chg (tb :: bl3 pv lv rv) h h' := c.mono (by intro k hk; simp only [List.mem_cons, bl3, List.mem_append] at hk ⊢; rcases hk with h | h; exact .inl h; exact .inr (.inr (.inr h)))
    refine ⟨hv, fun _ => ?_, c'⟩
    have hpc : ∀ b ∈ vblk pv, b ∉ tb :: vblk rv := fun b hb => by simp only [List.mem_cons, not_or]; exact ⟨by rintro rfl; exact hn'.1 hb, o0.pr b hb⟩
    have hlc : ∀ b ∈ vblk lv, b ∉ tb :: vblk rv := fun b hb => by simp only [List.mem_cons, not_or]; exact ⟨by rintro rfl; exact hn'.2.1 hb, o0.lr b hb⟩
    exact (do_end (t' := { t with ranks := delF (fun x => decide (x.name = e.name)) t.ranks }) B (o0.p.sl.chg c hpc) (o0.l.sl.chg c hlc) O.sl (bl3_r fun b hb' => .inl (hb b hb')) c').2.1 rfl
  | panicked ch => exact he.elim
  | outgrown => exact he.elim

theorem TGood.unranked {t : Thing} (gd : TGood t) (name : ByteArray) : ((delF (fun x : Rank => decide (x.name = name)) t.ranks).map Rank.name).Nodup ∧ (delF (fun x : Rank => decide (x.name = name)) t.ranks).Pairwise (fun a b => aheadR a b = true) ∧ (delF (fun x : Rank => decide (x.name = name)) t.ranks).length ≤ t.ranks.length ∧ ∀ x ∈ delF (fun x : Rank => decide (x.name = name)) t.ranks, x.name ≠ name := by
  refine ⟨?_, gd.rs.filter _, List.length_filter_le _ _, fun x hx => ?_⟩
  · exact List.Nodup.sublist (List.Sublist.map _ List.filter_sublist) gd.once
  · have := (List.mem_filter.1 hx).2
    simpa using this

theorem rank_do {t : Thing} {e : Eff} (hop : e.op = 14) (gd : TGood t) : DoOK 131 t e := by
  have ed : doneT t e = ({ t with ranks := putF (fun x => decide (x.name = e.name)) (fun x => aheadR ⟨e.name, e.num⟩ x) ⟨e.name, e.num⟩ t.ranks false }, 0) := by unfold doneT; simp [hop]
  intro h tb pv lv rv T0 o0 hn
  rw [ed]
  have lens := gd.lens
  have lr := lens.r
  have hn' : tb ∉ vblk pv ∧ tb ∉ vblk lv ∧ tb ∉ vblk rv := by simpa [bl3] using hn
  have ltb := T0.lt
  refine f131_calls (by simp) ?_
  intro b3 h1 g1
  have c1 := g1.chg
  have i3 := g1.id
  have s1 := g1.size
  have B31 : Blk h1 b3 (encD e) := g1.blk
  have T1 := T0.chg c1 (by simp)
  have o1 := o0.ext c1
  have z1 : Chg (tb :: bl3 pv lv rv) h h1 := ((Chg.refl h).mono (by simp)).step c1 (by simp)
  refine Exists.intro (encD e) (And.intro rfl (And.intro (cells_blk B31) ?_))
  refine call_ret (unrank_calls e gd T1 o1 hn) ?_
  rintro r2 h2 ⟨hr2, rv2, T2, O2, hb2, c2⟩
  obtain ⟨un, up, ul, unn⟩ := gd.unranked e.name
  generalize hL : delF (fun x : Rank => decide (x.name = e.name)) t.ranks = L at *
  have hpc : ∀ b ∈ vblk pv, b ∉ tb :: vblk rv := fun b hb => by simp only [List.mem_cons, not_or]; exact ⟨by rintro rfl; exact hn'.1 hb, o0.pr b hb⟩
  have hlc : ∀ b ∈ vblk lv, b ∉ tb :: vblk rv := fun b hb => by simp only [List.mem_cons, not_or]; exact ⟨by rintro rfl; exact hn'.2.1 hb, o0.lr b hb⟩
  have o2p := o1.p.chg c2 hpc
  have o2l := o1.l.chg c2 hlc
  have B32 := B31.chg c2 (by simp only [List.mem_cons, not_or]; exact ⟨by omega, fun hx => by have := o0.r.lt b3 hx; omega⟩)
  have z2 := z1.step c2 (by intro k hk _; simp only [List.mem_cons, bl3, List.mem_append] at hk ⊢; rcases hk with h | h; exact .inl h; exact .inr (.inr (.inr h)))
  have s2 := c2.size
  refine Exists.intro _ (And.intro (cell_blk B32 rfl) (Exists.intro _ (And.intro (cell_blk B32 rfl) ?_)))
  intro b5 h3 g3
  refine Exists.intro _ (And.intro g3.blk (And.intro (by decide) (And.intro rfl (And.intro (encR_one ⟨e.name, e.num⟩) ?_))))
  intro h4 p4
  have g4 := g3.put p4
  have B5 : Blk h4 b5 (encR ⟨e.name, e.num⟩) := p4.blk
  have c4 := g4.chg
  have s4 := g4.size
  have T4 := T2.chg c4 (by simp)
  have O4 := O2.chg c4 (by simp)
  have z4 := z2.step c4 (by simp)
  refine Exists.intro _ (And.intro (cell_blk T4 rfl) ?_)
  refine Exists.intro (encR ⟨e.name, e.num⟩) (And.intro rfl (And.intro (cells_blk B5) ?_))
  refine call_ret (bsR_calls (g := 49) (cap := []) (tgt := ⟨e.name, e.num⟩) (lo := fun x => aheadR x ⟨e.name, e.num⟩) O4.sl (by omega) ?_ ?_) ?_
  · intro h' x hc
    exact ahead_ord h' x ⟨e.name, e.num⟩ hc
  · intro i j hj hi hlo
    rcases Nat.lt_or_eq_of_le hi with hlt | rfl
    · exact ahead_tr _ _ _ (List.pairwise_iff_getElem.1 up i j (by omega) hj hlt) hlo
    · exact hlo
  rintro _ h5 ⟨⟨k, f, rfl, hc⟩, c5⟩
  have ep : putF (fun x => decide (x.name = e.name)) (fun x => aheadR ⟨e.name, e.num⟩ x) ⟨e.name, e.num⟩ t.ranks false = L.take k ++ ⟨e.name, e.num⟩ :: L.drop k := by
    have h1 := put_rank (y := ⟨e.name, e.num⟩) unn hc
    rw [← h1, ← hL, putF_del]
  rw [ep]
  have T5 := T4.chg c5 (by simp)
  have O5 := O4.chg c5 (by simp)
  have z5 := z4.step c5 (by simp)
  have B55 := B5.chg c5 (by simp)
  have s5 := c5.size
  refine Exists.intro _ (And.intro (cell_blk T5 rfl) ?_)
  refine Exists.intro (encR ⟨e.name, e.num⟩) (And.intro rfl (And.intro (cells_blk B55) ?_))
  intro b6 h6 g6
  have B6 : Blk h6 b6 (encR ⟨e.name, e.num⟩) := g6.blk
  have c6 := g6.chg
  have i6 := g6.id
  have s6 := g6.size
  have T6 := T5.chg c6 (by simp)
  have O6 := O5.chg c6 (by simp)
  have z6 := z5.step c6 (by simp)
  have lb := O5.lt
  refine call_ret (insR_calls (x := ⟨e.name, e.num⟩) O6 (by omega) hc.le B6 (fun hb => by have := lb b6 hb; omega)) ?_
  rintro r7 h7 ⟨O7, c7, hb7⟩
  have hb7' : ∀ b ∈ vblk r7, b ∈ vblk rv ∨ h.size ≤ b := fun b hb => by
    rcases hb7 b hb with h | h
    · exact .inl (hb2 b h)
    · exact .inr (by omega)
  have n7 : tb ∉ vblk r7 := fun hm => by
    rcases hb7' tb hm with h | h
    · exact hn'.2.2 h
    · omega
  have c27 : ∀ b, b < h.size → b ∉ vblk rv → b ∉ vblk rv2 := fun b _ hb hx => hb (hb2 b hx)
  obtain ⟨a7, k7, rfl, _⟩ := O7.form
  have T7 := T6.chg c7 (fun hx => hn'.2.2 (hb2 tb hx))
  have o7p := (((o2p.chg c4 (by simp)).chg c5 (by simp)).chg c6 (by simp)).chg c7 (fun b hb hx => o0.pr b hb (hb2 b hx))
  have o7l := (((o2l.chg c4 (by simp)).chg c5 (by simp)).chg c6 (by simp)).chg c7 (fun b hb hx => o0.lr b hb (hb2 b hx))
  have z7 := z6.step c7 (fun k hk _ => by simp only [List.mem_cons, bl3, List.mem_append]; exact .inr (.inr (.inr (hb2 k hk))))
  refine Exists.intro _ (And.intro T7 (And.intro (by simp [cellsT]) (And.intro rfl (And.intro (ones1 rfl) ?_))))
  intro h8 p8
  exact do_end (t' := { t with ranks := L.take k ++ ⟨e.name, e.num⟩ :: L.drop k }) (show Blk h8 tb (cellsT { t with ranks := _ } _ _ _) from p8.blk) (o7p.sl.chg p8.chg (by intro b hb; simp; rintro rfl; exact hn'.1 hb)) (o7l.sl.chg p8.chg (by intro b hb; simp; rintro rfl; exact hn'.2.1 hb))
    (O7.sl.chg p8.chg (by intro b hb; simp; rintro rfl; exact n7 hb)) (bl3_r hb7') (z7.step p8.chg (by simp))

end Go.Proofs.YtgmkldaonkbjgaaGreatDoor
namespace Go.Proofs.YtgmkldaonkbjgaaGreatDoor
open Go Go.Sx Go.Proofs.YtgmkldaonkbjgaaGreatDoor.C

structure Rule where
  name : Bool
  text : Bool
  number : Bool
  kind : Int
  makes : Bool
  f : Nat

def Rule.val (r : Rule) : Value := ruleV r.name r.text r.number r.kind r.makes r.f

def ruleR (op : Int) : Option Rule :=
  if op = 1 then some ⟨false, false, false, 0, false, 117⟩ else
  if op = 2 then some ⟨false, true, false, 0, true, 118⟩ else
  if op = 3 then some ⟨false, false, true, 0, false, 119⟩ else
  if op = 4 then some ⟨false, false, false, 0, false, 120⟩ else
  if op = 5 then some ⟨true, true, false, 2, true, 121⟩ else
  if op = 6 then some ⟨true, false, false, 2, false, 122⟩ else
  if op = 7 then some ⟨false, true, false, 3, true, 123⟩ else
  if op = 8 then some ⟨false, true, false, 3, true, 125⟩ else
  if op = 9 then some ⟨false, false, false, 3, false, 126⟩ else
  if op = 10 then some ⟨false, false, false, 3, false, 127⟩ else
  if op = 11 then some ⟨false, true, true, 3, false, 128⟩ else
  if op = 12 then some ⟨true, false, false, 4, true, 129⟩ else
  if op = 13 then some ⟨true, false, false, 4, false, 130⟩ else
  if op = 14 then some ⟨true, false, true, 5, true, 131⟩ else
  if op = 15 then some ⟨true, false, false, 5, false, 132⟩ else none

theorem rule_find (op : Int) : (ruleR op = none ∧ mfind (.int .i64 op) (entsI ruleL 0) 0 = none) ∨ ∃ r i, ruleR op = some r ∧ mfind (.int .i64 op) (entsI ruleL 0) 0 = some (i, r.val) := by
  by_cases h1 : op = 1; · subst h1; exact .inr ⟨_, _, rfl, rfl⟩
  by_cases h2 : op = 2; · subst h2; exact .inr ⟨_, _, rfl, rfl⟩
  by_cases h3 : op = 3; · subst h3; exact .inr ⟨_, _, rfl, rfl⟩
  by_cases h4 : op = 4; · subst h4; exact .inr ⟨_, _, rfl, rfl⟩
  by_cases h5 : op = 5; · subst h5; exact .inr ⟨_, _, rfl, rfl⟩
  by_cases h6 : op = 6; · subst h6; exact .inr ⟨_, _, rfl, rfl⟩
  by_cases h7 : op = 7; · subst h7; exact .inr ⟨_, _, rfl, rfl⟩
  by_cases h8 : op = 8; · subst h8; exact .inr ⟨_, _, rfl, rfl⟩
  by_cases h9 : op = 9; · subst h9; exact .inr ⟨_, _, rfl, rfl⟩
  by_cases h10 : op = 10; · subst h10; exact .inr ⟨_, _, rfl, rfl⟩
  by_cases h11 : op = 11; · subst h11; exact .inr ⟨_, _, rfl, rfl⟩
  by_cases h12 : op = 12; · subst h12; exact .inr ⟨_, _, rfl, rfl⟩
  by_cases h13 : op = 13; · subst h13; exact .inr ⟨_, _, rfl, rfl⟩
  by_cases h14 : op = 14; · subst h14; exact .inr ⟨_, _, rfl, rfl⟩
  by_cases h15 : op = 15; · subst h15; exact .inr ⟨_, _, rfl, rfl⟩
  refine .inl ⟨by unfold ruleR; simp [h1, h2, h3, h4, h5, h6, h7, h8, h9, h10, h11, h12, h13, h14, h15], mfind_entsI op ruleL 0 0 fun x hx => ?_⟩
  simp only [ruleL, List.mem_cons, List.not_mem_nil, or_false] at hx
  rcases hx with rfl | rfl | rfl | rfl | rfl | rfl | rfl | rfl | rfl | rfl | rfl | rfl | rfl | rfl | rfl
  all_goals intro e; simp only at e; omega

inductive Fate where
  | no (n : Int)
  | drop
  | put (t : Thing)

def endF (r : Thing × Int) (there full : Bool) : Fate :=
  if r.2 ≠ 0 then .no r.2 else if r.1.kind ≠ 1 ∧ countT r.1 = 0 then .drop else if 65536 < countT r.1 ∨ (there = false ∧ full = true) then .no 3 else .put r.1

def oneF (old : Option Thing) (e : Eff) (full : Bool) : Fate :=
  match ruleR e.op with
  | none => .no 2
  | some r =>
    if (r.name = false ∧ e.name ≠ noText) ∨ (r.text = false ∧ e.text ≠ noText) ∨ (r.number = false ∧ e.num ≠ 0) then .no 2 else
    if 1048576 < e.key.size ∨ 1048576 < e.name.size ∨ 1048576 < e.text.size then .no 3 else
    match old with
    | none => if r.makes = false then .no 5 else endF (doneT { zeroT with kind := r.kind } e) false full
    | some t => if r.kind ≠ 0 ∧ t.kind ≠ r.kind then .no 170 else endF (doneT t e) true full

abbrev Space := List (ByteArray × Thing)

def findS (S : Space) (key : ByteArray) : Option Thing := (S.find? fun p => decide (p.1 = key)).map (·.2)
def dropS (S : Space) (key : ByteArray) : Space := S.filter fun p => !decide (p.1 = key)
def putS (S : Space) (key : ByteArray) (t : Thing) : Space := S.filter (fun p => sless p.1 key) ++ (key, t) :: S.filter (fun p => sless key p.1)

def Fate.num : Fate → Int
  | .no n => n
  | _ => 0
def Fate.space (S : Space) (key : ByteArray) : Fate → Space
  | .no _ => S
  | .drop => dropS S key
  | .put t => putS S key t

def fateS (S : Space) (e : Eff) : Fate := oneF (findS S e.key) e (decide (65536 ≤ S.length))
def applyS : Space → List Eff → Space × Nat × Int
  | S, [] => (S, 0, 0)
  | S, e :: d => if (fateS S e).num = 0 then let r := applyS ((fateS S e).space S e.key) d; (r.1, r.2.1 + 1, r.2.2) else (S, 0, (fateS S e).num)

def UpS (S : Space) : Prop := S.Pairwise fun a b => sless a.1 b.1 = true

theorem mem_putS {S : Space} {key : ByteArray} {t : Thing} {p : ByteArray × Thing} : p ∈ putS S key t ↔ p = (key, t) ∨ (p ∈ S ∧ p.1 ≠ key) := by
  unfold putS
  rw [List.mem_append, List.mem_cons, List.mem_filter, List.mem_filter]
  constructor
  · rintro (⟨h1, h2⟩ | h | ⟨h1, h2⟩)
    · exact .inr ⟨h1, sless_ne (by simpa using h2)⟩
    · exact .inl h
    · exact .inr ⟨h1, fun e => sless_ne (by simpa using h2) e.symm⟩
  · rintro (h | ⟨h1, h2⟩)
    · exact .inr (.inl h)
    · rcases sless_total h2 with h | h
      · exact .inl ⟨h1, by simpa using h⟩
      · exact .inr (.inr ⟨h1, by simpa using h⟩)

theorem up_putS {S : Space} {key : ByteArray} {t : Thing} (hu : UpS S) : UpS (putS S key t) := by
  unfold putS UpS
  rw [List.pairwise_append, List.pairwise_cons]
  refine ⟨hu.filter _, ⟨fun p hp => ?_, hu.filter _⟩, fun p hp q hq => ?_⟩
  · have := (List.mem_filter.1 hp).2
    simpa using this
  · have h1 : sless p.1 key = true := by simpa using (List.mem_filter.1 hp).2
    rcases List.mem_cons.1 hq with rfl | hq
    · exact h1
    · have h2 : sless key q.1 = true := by simpa using (List.mem_filter.1 hq).2
      exact sless_trans h1 h2

theorem mem_dropS {S : Space} {key : ByteArray} {p : ByteArray × Thing} : p ∈ dropS S key ↔ p ∈ S ∧ p.1 ≠ key := by
  unfold dropS
  rw [List.mem_filter]
  simp

theorem up_dropS {S : Space} {key : ByteArray} (hu : UpS S) : UpS (dropS S key) := hu.filter _

theorem up_space {S : Space} {key : ByteArray} (f : Fate) (hu : UpS S) : UpS (f.space S key) := by
  cases f with
  | no n => exact hu
  | drop => exact up_dropS hu
  | put t => exact up_putS hu

theorem up_inj {S : Space} (hu : UpS S) {p q : ByteArray × Thing} (hp : p ∈ S) (hq : q ∈ S) (h : p.1 = q.1) : p = q := by
  induction S with
  | nil => simp at hp
  | cons x S ih =>
    have hx := List.pairwise_cons.1 hu
    rcases List.mem_cons.1 hp with e1 | hp
    · rcases List.mem_cons.1 hq with e2 | hq
      · rw [e1, e2]
      · have := hx.1 q hq
        rw [← e1, h, sless_irrefl] at this; cases this
    · rcases List.mem_cons.1 hq with e2 | hq
      · have := hx.1 p hp
        rw [← e2, h, sless_irrefl] at this; cases this
      · exact ih hx.2 hp hq

theorem findS_some {S : Space} (hu : UpS S) {key : ByteArray} {t : Thing} (h : (key, t) ∈ S) : findS S key = some t := by
  unfold findS
  cases hf : S.find? fun p => decide (p.1 = key) with
  | none =>
    have := List.find?_eq_none.1 hf _ h
    simp at this
  | some p =>
    have h1 := List.find?_some hf
    have h2 := List.mem_of_find?_eq_some hf
    have : p = (key, t) := up_inj hu h2 h (by simpa using h1)
    rw [this]; rfl

theorem findS_none {S : Space} {key : ByteArray} (h : ∀ p ∈ S, p.1 ≠ key) : findS S key = none := by
  unfold findS
  rw [List.find?_eq_none.2 fun p hp => by simpa using h p hp]
  rfl

theorem findS_mem {S : Space} {key : ByteArray} {t : Thing} (h : findS S key = some t) : (key, t) ∈ S := by
  unfold findS at h
  cases hf : S.find? fun p => decide (p.1 = key) with
  | none => rw [hf] at h; cases h
  | some p =>
    rw [hf] at h
    have h1 : p.1 = key := by simpa using List.find?_some hf
    have h2 := List.mem_of_find?_eq_some hf
    have h3 : p.2 = t := by simpa using h
    rw [← h1, ← h3]; exact h2

theorem TGood.zero (k : Int) : TGood { zeroT with kind := k } :=
  ⟨List.Pairwise.nil, fun _ => List.Pairwise.nil, List.Pairwise.nil, List.nodup_nil, fun _ => ⟨rfl, rfl⟩, by show (0 : Nat) + 0 + 0 ≤ 65536; omega⟩

structure TIn (t : Thing) : Prop where
  good : TGood t
  some : t.kind = 3 → t.list ≠ []

def OfKind (t : Thing) (e : Eff) : Prop := ∀ r, ruleR e.op = some r → r.kind ≠ 0 → t.kind = r.kind

theorem nodup_putF {y : Rank} : ∀ {l : List Rank}, (l.map Rank.name).Nodup → ((putF (fun x => decide (x.name = y.name)) (fun x => aheadR y x) y l false).map Rank.name).Nodup
  | [], _ => by simp [putF]
  | x :: l, h => by
    rw [List.map_cons, List.nodup_cons] at h
    have ih := nodup_putF (y := y) h.2
    have hmem : ∀ {d : Bool} {m : List Rank} {z : Rank}, z ∈ putF (fun x => decide (x.name = y.name)) (fun x => aheadR y x) y m d → z = y ∨ (z ∈ m ∧ z.name ≠ y.name) := by
      intro d m z hz
      rcases mem_putF hz with h | ⟨h1, h2⟩
      · exact .inl h
      · exact .inr ⟨h1, by simpa using h2⟩
    simp only [putF]
    by_cases he : x.name = y.name
    · rw [if_pos (by simpa using he)]; exact ih
    · rw [if_neg (by simpa using he)]
      split
      · rw [putF_true, List.map_cons, List.map_cons, List.nodup_cons, List.nodup_cons]
        refine ⟨?_, ?_, ?_⟩
        · simp only [List.mem_cons, List.mem_map, not_or, not_exists, not_and]
          refine ⟨fun e => he e.symm, fun z hz e => ?_⟩
          have := (List.mem_filter.1 hz).2
          simp [e] at this
        · intro hm
          obtain ⟨z, hz, e⟩ := List.mem_map.1 hm
          exact h.1 (by rw [← e]; exact List.mem_map_of_mem (List.mem_filter.1 hz).1)
        · exact List.Nodup.sublist (List.Sublist.map _ List.filter_sublist) h.2
      · rw [List.map_cons, List.nodup_cons]
        refine ⟨fun hm => ?_, ih⟩
        obtain ⟨z, hz, e⟩ := List.mem_map.1 hm
        rcases hmem hz with rfl | ⟨h1, _⟩
        · exact he e.symm
        · exact h.1 (by rw [← e]; exact List.mem_map_of_mem h1)

theorem doneT_cases {t : Thing} {e : Eff} {P : Thing × Int → Prop} (h1 : P (zeroT, 0)) (h2 : P (textT e.text, 0)) (h3 : P ({ t with hasU := true, unt := e.num }, 0)) (h4 : P ({ t with hasU := false, unt := 0 }, 0))
    (h5 : e.op = 5 → P ({ t with pairs := putF (fun x => decide (x.name = e.name)) (fun x => sless e.name x.name) ⟨e.name, e.text⟩ t.pairs false }, 0))
    (h6 : e.op = 6 → P ({ t with pairs := delF (fun x => decide (x.name = e.name)) t.pairs }, if t.pairs.any (fun x => decide (x.name = e.name)) then 0 else 5))
    (h7 : e.op = 7 → P ({ t with list := e.text :: t.list }, 0)) (h8 : e.op = 8 → P ({ t with list := t.list ++ [e.text] }, 0)) (h9 : P ({ t with list := t.list.tail }, 0)) (h10 : P ({ t with list := t.list.dropLast }, 0))
    (h11 : e.op = 11 → P ({ t with list := t.list.set e.num.toNat e.text }, 0)) (h11' : P (t, 4))
    (h12 : P ({ t with list := putF (fun x => decide (x = e.name)) (fun x => sless e.name x) e.name t.list false }, 0))
    (h13 : P ({ t with list := delF (fun x => decide (x = e.name)) t.list }, if t.list.any (fun x => decide (x = e.name)) then 0 else 5))
    (h14 : e.op = 14 → P ({ t with ranks := putF (fun x => decide (x.name = e.name)) (fun x => aheadR ⟨e.name, e.num⟩ x) ⟨e.name, e.num⟩ t.ranks false }, 0))
    (h15 : e.op = 15 → P ({ t with ranks := delF (fun x => decide (x.name = e.name)) t.ranks }, if t.ranks.any (fun x => decide (x.name = e.name)) then 0 else 5)) (h16 : P (t, 0)) : P (doneT t e) := by
  unfold doneT
  by_cases e1 : e.op = 1
  · rw [if_pos e1]; exact h1
  rw [if_neg e1]
  by_cases e2 : e.op = 2
  · rw [if_pos e2]; exact h2
  rw [if_neg e2]
  by_cases e3 : e.op = 3
  · rw [if_pos e3]; exact h3
  rw [if_neg e3]
  by_cases e4 : e.op = 4
  · rw [if_pos e4]; exact h4
  rw [if_neg e4]
  by_cases e5 : e.op = 5
  · rw [if_pos e5]; exact h5 e5
  rw [if_neg e5]
  by_cases e6 : e.op = 6
  · rw [if_pos e6]; exact h6 e6
  rw [if_neg e6]
  by_cases e7 : e.op = 7
  · rw [if_pos e7]; exact h7 e7
  rw [if_neg e7]
  by_cases e8 : e.op = 8
  · rw [if_pos e8]; exact h8 e8
  rw [if_neg e8]
  by_cases e9 : e.op = 9
  · rw [if_pos e9]; exact h9
  rw [if_neg e9]
  by_cases e10 : e.op = 10
  · rw [if_pos e10]; exact h10
  rw [if_neg e10]
  by_cases e11 : e.op = 11
  · rw [if_pos e11]
    by_cases hh : 0 ≤ e.num ∧ e.num < t.list.length
    · rw [if_pos hh]; exact h11 e11
    · rw [if_neg hh]; exact h11'
  rw [if_neg e11]
  by_cases e12 : e.op = 12
  · rw [if_pos e12]; exact h12
  rw [if_neg e12]
  by_cases e13 : e.op = 13
  · rw [if_pos e13]; exact h13
  rw [if_neg e13]
  by_cases e14 : e.op = 14
  · rw [if_pos e14]; exact h14 e14
  rw [if_neg e14]
  by_cases e15 : e.op = 15
  · rw [if_pos e15]; exact h15 e15
  rw [if_neg e15]
  exact h16

def TUp (t : Thing) : Prop := (t.kind = 3 → t.pairs = [] ∧ t.ranks = []) ∧ (t.pairs.Pairwise fun a b => sless a.name b.name = true) ∧ (t.kind = 4 → t.list.Pairwise fun a b => sless a b = true) ∧ (t.ranks.Pairwise fun a b => aheadR a b = true) ∧ (t.ranks.map Rank.name).Nodup

theorem doneT_good {t : Thing} {e : Eff} (f : TGood t) (hk : OfKind t e) : TUp (doneT t e).1 := by
  have hp : ∀ x : Pair, decide (x.name = e.name) = false → sless e.name x.name = false → sless x.name e.name = true := fun x h1 h2 => sless_not h2 (fun h => by simp [h] at h1)
  have k3 : t.kind = 3 → t.kind ≠ 4 := fun h1 => by omega
  have z : ∀ t : Thing, t.pairs = [] → t.list = [] → t.ranks = [] → TUp t := fun t h1 h2 h3 => by
    unfold TUp
    rw [h1, h2, h3]
    exact ⟨fun _ => ⟨rfl, rfl⟩, List.Pairwise.nil, fun _ => List.Pairwise.nil, List.Pairwise.nil, List.nodup_nil⟩
  refine doneT_cases (P := fun r => TUp r.1) (z _ rfl rfl rfl) (z _ rfl rfl rfl) ⟨f.only, f.ps, f.ls, f.rs, f.once⟩ ⟨f.only, f.ps, f.ls, f.rs, f.once⟩ (fun h7 => ?_) (fun h7 => ?_) (fun h7 => ?_) (fun h7 => ?_)
    ⟨f.only, f.ps, fun k => (f.ls k).tail, f.rs, f.once⟩ ⟨f.only, f.ps, fun k => (f.ls k).sublist (List.dropLast_sublist _), f.rs, f.once⟩ (fun h7 => ?_) ⟨f.only, f.ps, f.ls, f.rs, f.once⟩ ⟨f.only, f.ps, fun k => ?_, f.rs, f.once⟩
    ⟨f.only, f.ps, fun k => (f.ls k).filter _, f.rs, f.once⟩ (fun h7 => ?_) (fun h7 => ?_) ⟨f.only, f.ps, f.ls, f.rs, f.once⟩
  · have := hk ⟨true, true, false, 2, true, 121⟩ (by rw [h7]; rfl) (by decide)
    exact ⟨fun k => absurd k (by rw [this]; decide), putF_up (y := (⟨e.name, e.text⟩ : Pair)) (R := fun a b : Pair => sless a.name b.name = true) (fun x _ h => h) (fun x h1 h2 => hp x h1 h2) (fun a b c => sless_trans) f.ps, f.ls, f.rs, f.once⟩
  · have := hk ⟨true, false, false, 2, false, 122⟩ (by rw [h7]; rfl) (by decide)
    exact ⟨fun k => absurd k (by rw [this]; decide), f.ps.filter _, f.ls, f.rs, f.once⟩
  · have := hk ⟨false, true, false, 3, true, 123⟩ (by rw [h7]; rfl) (by decide)
    exact ⟨f.only, f.ps, fun k => absurd k (k3 this), f.rs, f.once⟩
  · have := hk ⟨false, true, false, 3, true, 125⟩ (by rw [h7]; rfl) (by decide)
    exact ⟨f.only, f.ps, fun k => absurd k (k3 this), f.rs, f.once⟩
  · have := hk ⟨false, true, true, 3, false, 128⟩ (by rw [h7]; rfl) (by decide)
    exact ⟨f.only, f.ps, fun k => absurd k (k3 this), f.rs, f.once⟩
  · exact putF_up (y := e.name) (R := fun a b => sless a b = true) (fun x _ h => h) (fun x h1 h2 => sless_not h2 (fun h => by simp [h] at h1)) (fun a b c => sless_trans) (f.ls k)
  · have := hk ⟨true, false, true, 5, true, 131⟩ (by rw [h7]; rfl) (by decide)
    exact ⟨fun k => absurd k (by rw [this]; decide), f.ps, f.ls, putF_up (y := (⟨e.name, e.num⟩ : Rank)) (R := fun a b => aheadR a b = true) (fun x _ h => h) (fun x h1 h2 => ahead_not h2 (fun h => by
      have : x.name = e.name := h.symm
      simp [this] at h1)) ahead_tr f.rs, nodup_putF (y := ⟨e.name, e.num⟩) f.once⟩
  · have := hk ⟨true, false, false, 5, false, 132⟩ (by rw [h7]; rfl) (by decide)
    exact ⟨fun k => absurd k (by rw [this]; decide), f.ps, f.ls, f.rs.filter _, List.Nodup.sublist (List.Sublist.map _ List.filter_sublist) f.once⟩

theorem doneT_len {t : Thing} {e : Eff} : countT (doneT t e).1 ≤ countT t + 1 := by
  have h1 := putF_len (eq := fun x : Pair => decide (x.name = e.name)) (lt := fun x => sless e.name x.name) (y := ⟨e.name, e.text⟩) t.pairs false
  have h2 := putF_len (eq := fun x : ByteArray => decide (x = e.name)) (lt := fun x => sless e.name x) (y := e.name) t.list false
  have h3 := putF_len (eq := fun x : Rank => decide (x.name = e.name)) (lt := fun x => aheadR ⟨e.name, e.num⟩ x) (y := ⟨e.name, e.num⟩) t.ranks false
  have d1 : (delF (fun x : Pair => decide (x.name = e.name)) t.pairs).length ≤ t.pairs.length := List.length_filter_le _ _
  have d2 : (delF (fun x : ByteArray => decide (x = e.name)) t.list).length ≤ t.list.length := List.length_filter_le _ _
  have d3 : (delF (fun x : Rank => decide (x.name = e.name)) t.ranks).length ≤ t.ranks.length := List.length_filter_le _ _
  refine doneT_cases (P := fun r => countT r.1 ≤ countT t + 1) ?_ ?_ ?_ ?_ (fun _ => ?_) (fun _ => ?_) (fun _ => ?_) (fun _ => ?_) ?_ ?_ (fun _ => ?_) ?_ ?_ ?_ (fun _ => ?_) (fun _ => ?_) ?_
  all_goals simp only [countT, zeroT, textT, List.length_nil, List.length_cons, List.length_append, List.length_tail, List.length_dropLast, List.length_set]
  all_goals omega

theorem endF_put {r : Thing × Int} {there full : Bool} {t : Thing} (h : endF r there full = .put t) : t = r.1 ∧ r.2 = 0 ∧ countT t ≤ 65536 ∧ (t.kind = 1 ∨ countT t ≠ 0) ∧ (there = false → full = false) := by
  unfold endF at h
  split at h
  · cases h
  · rename_i h1
    split at h
    · cases h
    · rename_i h2
      split at h
      · cases h
      · rename_i h3
        injection h with h
        subst h
        refine ⟨rfl, Decidable.not_not.1 h1, by omega, ?_, fun ht => ?_⟩
        · by_cases hk : r.1.kind = 1
          · exact .inl hk
          · exact .inr fun hc => h2 ⟨hk, hc⟩
        · cases hf : full with
          | false => rfl
          | true => exact absurd (.inr ⟨ht, hf⟩) h3

theorem endF_in {t t' : Thing} {e : Eff} {there full : Bool} (f : TGood t) (hk : OfKind t e) (h : endF (doneT t e) there full = .put t') : TIn t' := by
  obtain ⟨rfl, _, h1, h2, _⟩ := endF_put h
  obtain ⟨u1, u2, u3, u4, u5⟩ := doneT_good f hk
  refine ⟨⟨u2, u3, u4, u5, u1, h1⟩, fun h3 e0 => ?_⟩
  rcases h2 with h2 | h2
  · rw [h3] at h2; exact absurd h2 (by decide)
  · obtain ⟨p1, p2⟩ := u1 h3
    exact h2 (by unfold countT; rw [p1, p2, e0]; rfl)

def InS (S : Space) : Prop := ∀ p ∈ S, TIn p.2

theorem oneF_in {S : Space} {e : Eff} {full : Bool} {t : Thing} (hi : InS S) (h : oneF (findS S e.key) e full = .put t) : TIn t := by
  unfold oneF at h
  cases hr : ruleR e.op with
  | none => rw [hr] at h; cases h
  | some r =>
    rw [hr] at h
    simp only at h
    split at h
    · cases h
    split at h
    · cases h
    cases hf : findS S e.key with
    | none =>
      rw [hf] at h
      simp only at h
      split at h
      · cases h
      · exact endF_in (TGood.zero _) (fun r' h1 _ => by rw [hr] at h1; injection h1 with h1; rw [h1]) h
    | some t0 =>
      rw [hf] at h
      simp only at h
      split at h
      · cases h
      · rename_i hk
        refine endF_in (hi _ (findS_mem hf)).good (fun r' h1 h2 => ?_) h
        rw [hr] at h1
        injection h1 with h1
        subst h1
        exact Decidable.not_not.1 fun hne => hk ⟨h2, hne⟩

theorem in_space {S : Space} {e : Eff} {full : Bool} (hi : InS S) : InS ((oneF (findS S e.key) e full).space S e.key) := by
  cases hf : oneF (findS S e.key) e full with
  | no n => exact hi
  | drop => exact fun p hp => hi p (mem_dropS.1 hp).1
  | put t =>
    intro p hp
    rcases mem_putS.1 hp with rfl | ⟨hp, _⟩
    · exact oneF_in hi hf
    · exact hi p hp

end Go.Proofs.YtgmkldaonkbjgaaGreatDoor
