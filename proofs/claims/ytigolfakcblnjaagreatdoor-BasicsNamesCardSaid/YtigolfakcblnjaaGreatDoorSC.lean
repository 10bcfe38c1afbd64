/-
  Layer 8: BasicsSame, its contract.
-/
import Derived.Test.YtigolfakcblnjaaGreatDoorSB
import Derived.Test.YtigolfakcblnjaaGreatDoorKnown
namespace Go.Proofs.YtigolfakcblnjaaGreatDoor
open Go Go.Sx Go.Proofs.YtigolfakcblnjaaGreatDoor.C

theorem chg_of_ext {h h' : Heap} (he : Ext h h') : Chg [] h h' := by
  refine ⟨?_, fun k hk _ => he k hk⟩
  rcases Nat.lt_or_ge h'.size h.size with hlt | hge
  · have := he h'.size hlt
    rw [Array.getElem?_eq_none (Nat.le_refl _), Array.getElem?_eq_getElem hlt] at this
    cases this
  · exact hge

theorem known_ret (h : Heap) : CallsH Tryz.prog 11 [] h (Ret fun r h' => r = .bool true ∧ Chg [] h h') :=
  (R.calls h).mono fun e h' ⟨he, hx⟩ => by subst he; exact ⟨rfl, chg_of_ext hx⟩

theorem fail_calls {h : Heap} {s : ByteArray} : CallsH Tryz.prog 20 [.string s] h (Ret fun r h' => r = .agg ⟨[.int .i64 2, .int .i64 0, .string s, .slice none 0 0]⟩ ∧ Chg [] h h') := by
  refine f20_calls (by simp) ?_
  intro b1 h1 g1
  refine Exists.intro _ (And.intro g1.blk (And.intro (Nat.le_refl _) (And.intro rfl (And.intro ?_ ?_))))
  · show ∀ u ∈ [Value.int .i64 2, .int .i64 0, .string s, .slice none 0 0], u.oneCell' = true
    intro u hu
    simp at hu
    rcases hu with rfl | rfl | rfl | rfl <;> rfl
  · intro h2 p1
    have G := g1.put p1
    exact Exists.intro _ (And.intro rfl (And.intro (cells_blk G.blk) (And.intro rfl G.chg)))

theorem same_contract {h : Heap} {a b : RT} (ha : a.ok h) (hb : b.ok h) : CallsH Tryz.prog 5 [.agg ⟨encT a⟩, .agg ⟨encT b⟩] h (Ret fun r h' => r = .bool true ∧ Chg [] h h') := by
  obtain ⟨na, hna⟩ : ∃ n, SizeOf.sizeOf a < n := ⟨_, Nat.lt_succ_self _⟩
  obtain ⟨nb, hnb⟩ : ∃ n, SizeOf.sizeOf b < n := ⟨_, Nat.lt_succ_self _⟩
  refine f5_calls (by simp) ?_
  intro b1 h1 g1 b2 h2 g2
  have B1 : Blk h2 b1 (encT a) := Blk.chg g1.blk g2.chg (by simp)
  have B2 : Blk h2 b2 (encT b) := g2.blk
  have ch : Chg [] h h2 := g1.chg.nil g2.chg
  refine Exists.intro (encT a) (And.intro (encT_len _) (And.intro (cells_blk B1) ?_))
  refine call_ret (wide_calls na a 30 h2 hna (ha.ext ch)) ?_
  rintro _ h3 ⟨⟨z, rfl⟩, hc3⟩
  have ch3 := ch.nil hc3
  have C1 := B1.chg hc3 (by simp)
  have C2 := B2.chg hc3 (by simp)
  have kn : ∀ h', Chg [] h h' → ∀ {K : Value → Heap → Prop} {Qp : List PanicEntry → Heap → Prop}, (∀ h'', Chg [] h h'' → K (.bool true) h'') → CallsH Tryz.prog 11 [] h' (after K Qp) := by
    intro h' hc K Qp hk
    refine call_ret (known_ret h') ?_
    rintro _ h'' ⟨rfl, hc'⟩
    exact hk h'' (hc.nil hc')
  refine And.intro rfl (And.intro (fun hgt => ?_) (fun hle => ?_))
  · exact kn h3 ch3 fun h'' hc => And.intro rfl hc
  refine Exists.intro (encT b) (And.intro (encT_len _) (And.intro (cells_blk C2) ?_))
  refine call_ret (wide_calls nb b 30 h3 hnb (hb.ext ch3)) ?_
  rintro _ h4 ⟨⟨z2, rfl⟩, hc4⟩
  have ch4 := ch3.nil hc4
  have D1 := C1.chg hc4 (by simp)
  have D2 := C2.chg hc4 (by simp)
  refine And.intro rfl (And.intro (fun hgt => ?_) (fun hle2 => ?_))
  · exact kn h4 ch4 fun h'' hc => And.intro rfl hc
  clear hle hle2 C1 C2 B1 B2 hc3 hc4 g1 g2 ch ch3
  obtain ⟨s, hs2⟩ : ∃ s, (encT a)[0 + 2]? = some (Value.string s) := by cases a; exact ⟨_, rfl⟩
  refine Exists.intro _ (And.intro (cell_blk D1 hs2) ?_)
  refine call_ret (fail_calls (h := h4) (s := s)) ?_
  rintro _ h5 ⟨rfl, hc5⟩
  intro b3 h6 g3
  refine Exists.intro _ (And.intro g3.blk (And.intro (Nat.le_refl _) (And.intro rfl (And.intro ?_ ?_))))
  · show ∀ u ∈ [Value.int .i64 2, .int .i64 0, .string s, .slice none 0 0], u.oneCell' = true
    intro u hu
    simp at hu
    rcases hu with rfl | rfl | rfl | rfl <;> rfl
  intro h7 p3
  have G : Grow h5 h7 b3 [.int .i64 2, .int .i64 0, .string s, .slice none 0 0] := g3.put p3
  have ch7 : Chg [] h h7 := (ch4.nil hc5).nil G.chg
  have E1 := (D1.chg hc5 (by simp)).chg G.chg (by simp)
  have E2 := (D2.chg hc5 (by simp)).chg G.chg (by simp)
  have E3 := G.blk
  clear D1 D2 p3 g3 hc5 ch4 G
  refine Exists.intro (encT a) (And.intro (encT_len _) (And.intro (cells_blk E1) ?_))
  refine Exists.intro (encT b) (And.intro (encT_len _) (And.intro (cells_blk E2) ?_))
  refine Exists.intro (encT a) (And.intro (encT_len _) (And.intro (cells_blk E1) ?_))
  refine Exists.intro (encT b) (And.intro (encT_len _) (And.intro (cells_blk E2) ?_))
  refine callq_ret (bsame_calls na a b h7 hna (ha.ext ch7) (hb.ext ch7)) ?_
  rintro _ h8 ⟨rfl, hc8⟩
  refine And.intro hc8.ext ?_
  have ch8 := ch7.nil hc8
  refine callq_ret (rsame_calls na a b h8 hna (ha.ext ch8) (hb.ext ch8)) ?_
  rintro _ h9 ⟨rfl, hc9⟩
  refine And.intro hc9.ext ?_
  have ch9 := ch8.nil hc9
  have F1 := (E1.chg hc8 (by simp)).chg hc9 (by simp)
  have F3 := (E3.chg hc8 (by simp)).chg hc9 (by simp)
  clear E1 E2 E3 hc8 hc9 ch7 ch8
  refine And.intro (fun _ => ?_) (fun hne => absurd rfl hne)
  refine Exists.intro (encT a) (And.intro (encT_len _) (And.intro (cells_blk F1) ?_))
  refine Exists.intro (encT a) (And.intro (encT_len _) (And.intro (cells_blk F1) ?_))
  refine callq_ret (bsame_calls na a a h9 hna (ha.ext ch9) (ha.ext ch9)) ?_
  rintro _ h10 ⟨hr, hc10⟩
  rw [RT.same_refl] at hr
  subst hr
  refine And.intro hc10.ext ?_
  have ch10 := ch9.nil hc10
  have G1 := F1.chg hc10 (by simp)
  have G3 := F3.chg hc10 (by simp)
  refine Exists.intro _ (And.intro (cell_blk G3 rfl) (And.intro rfl (And.intro (fun _ => ?_) (fun hne => absurd rfl hne))))
  refine Exists.intro _ (And.intro (cell_blk G3 rfl) (Exists.intro _ (And.intro (cell_blk G1 hs2) (And.intro (fun _ => ?_) (fun hne => absurd rfl hne)))))
  refine Exists.intro _ (And.intro (cell_blk G3 rfl) (And.intro rfl (And.intro (fun _ => ?_) (fun hne => absurd rfl hne))))
  refine Exists.intro _ (And.intro (cell_blk G3 rfl) (And.intro rfl (And.intro (fun _ => ?_) (fun hne => absurd rfl hne))))
  refine callq_ret (known_ret h10) ?_
  rintro _ h11 ⟨rfl, hc11⟩
  exact And.intro hc11.ext (And.intro rfl (ch10.nil hc11))

end Go.Proofs.YtigolfakcblnjaaGreatDoor
