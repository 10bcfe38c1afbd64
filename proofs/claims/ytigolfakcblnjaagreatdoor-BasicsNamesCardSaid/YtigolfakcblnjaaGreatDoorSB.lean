/-
  Layer 8: the program's comparison of replies; how wide one is.
-/
import Derived.Test.YtigolfakcblnjaaGreatDoorSA
namespace Go.Proofs.YtigolfakcblnjaaGreatDoor
open Go Go.Sx Go.Proofs.YtigolfakcblnjaaGreatDoor.C

theorem eqReply_calls {h : Heap} {v u : Value} {l m : List RT} (hv : SL encT h v l) (hu : SL encT h u m) (hl : l.length < 4611686018427387904) (hm : m.length < 4611686018427387904) (hls : RT.oks h l) (hms : RT.oks h m)
    (hf : ∀ x ∈ l, ∀ y : RT, ∀ h', x.ok h' → y.ok h' → CallsH Tryz.prog 21 [.agg ⟨encT x⟩, .agg ⟨encT y⟩] h' (Ret fun r h'' => r = .bool (x.same y) ∧ Chg [] h' h'')) :
    CallsH Tryz.prog 40 [v, u, .func (.func 21) #[] #[]] h (Ret fun r h' => r = .bool (RT.sames l m) ∧ Chg [] h h') := by
  obtain ⟨x, c, rfl, hlc⟩ := hv.form
  obtain ⟨x', c', rfl, hmc⟩ := hu.form
  refine f40_calls (by simp) ?_
  refine And.intro rfl (And.intro (fun hne => ?_) (fun he => ?_))
  · exact And.intro (by rw [sames_len (by omega)]; rfl) (Chg.refl h)
  have he4 : l.length = m.length := by omega
  refine loop_intro (fun q : Nat => [(0, .slice x l.length c), (1, .slice x' m.length c'), (2, .func (.func 21) #[] #[]), (15, .slice x l.length c), (16, .int .i64 l.length), (17, .int .i64 q)]) (fun q h' => q ≤ l.length ∧ Chg [] h h' ∧ RT.sames l m = RT.sames (l.drop q) (m.drop q)) (fun q => l.length - q) 0 ⟨rfl, rfl, rfl, rfl, rfl, rfl, trivial⟩ ⟨Nat.zero_le _, Chg.refl _, rfl⟩ ?_
  rintro q h3 ⟨hq, hch, hr⟩
  refine And.intro rfl (And.intro (fun hlt => ?_) (fun hge => ?_))
  · have hlt : q < l.length := by omega
    have hltm : q < m.length := by omega
    obtain ⟨b, o, rfl⟩ := hv.addr (by omega)
    obtain ⟨b', o', rfl⟩ := hu.addr (by omega)
    have hcs := (hv.ext hch).cells encT_len (i := q) (x := l[q]) (by simp [hlt])
    have ok1 := (hls.mem _ (List.getElem_mem hlt)).ext hch
    have ok2 := (hms.mem _ (List.getElem_mem hltm)).ext hch
    refine And.intro (by omega) (And.intro (by omega) (Exists.intro (encT l[q]) (And.intro (encT_len _) (And.intro hcs ?_))))
    intro b1 h4 g1
    refine Exists.intro _ (And.intro g1.blk (And.intro (Nat.le_refl _) (And.intro (encT_len _) (And.intro ok1.ones ?_))))
    intro h5 p1
    have s1 : ∀ (t : RT), splice [.int .i64 0, .int .i64 0, .string ⟨#[]⟩, .slice none 0 0] 0 (encT t) = encT t := fun t => by cases t; rfl
    have G1 : Grow h3 h5 b1 (encT l[q]) := by
      have := g1.put p1
      simpa [s1, Value.cells] using this
    have hch5 := hch.nil G1.chg
    have hds := (hu.ext hch5).cells encT_len (i := q) (x := m[q]) (by simp [hltm])
    refine And.intro (by omega) (And.intro (by omega) (Exists.intro (encT m[q]) (And.intro (encT_len _) (And.intro hds ?_))))
    intro b2 h6 g2
    refine Exists.intro _ (And.intro g2.blk (And.intro (Nat.le_refl _) (And.intro (encT_len _) (And.intro ok2.ones ?_))))
    intro h7 p2
    have G2 : Grow h5 h7 b2 (encT m[q]) := by
      have := g2.put p2
      simpa [s1, Value.cells] using this
    have hch7 := hch5.nil G2.chg
    refine Exists.intro (encT l[q]) (And.intro (encT_len _) (And.intro (cells_blk (G1.blk.chg G2.chg (by simp))) ?_))
    refine Exists.intro (encT m[q]) (And.intro (encT_len _) (And.intro (cells_blk G2.blk) ?_))
    refine call_ret (hf l[q] (List.getElem_mem hlt) m[q] h7 ((ok1.ext G1.chg).ext G2.chg) ((ok2.ext G1.chg).ext G2.chg)) ?_
    rintro r h8 ⟨hrr, hc8⟩
    rw [sames_drop hlt hltm] at hr
    cases hsm : l[q].same m[q] with
    | false =>
      rw [hsm] at hrr hr
      subst hrr
      exact And.intro (by rw [hr]; rfl) (hch7.nil hc8)
    | true =>
      rw [hsm] at hrr hr
      subst hrr
      refine And.intro rfl (fun z hz => ?_)
      have hz := add_in hz (by omega) (by omega)
      subst hz
      refine And.intro rfl (Exists.intro (q + 1) (And.intro ⟨rfl, rfl, rfl, rfl, rfl, rfl, trivial⟩ (And.intro ⟨by omega, hch7.nil hc8, by rw [hr, Bool.true_and]⟩ (by omega))))
  · have hkl : q = l.length := by omega
    subst hkl
    rw [List.drop_length, he4, List.drop_length, RT.sames] at hr
    exact And.intro (by rw [hr]; rfl) hch

/-- The program's. -/
theorem bsame_calls : ∀ (n : Nat) (a b : RT) (h : Heap), SizeOf.sizeOf a < n → a.ok h → b.ok h → CallsH Tryz.prog 21 [.agg ⟨encT a⟩, .agg ⟨encT b⟩] h (Ret fun r h' => r = .bool (a.same b) ∧ Chg [] h h')
  | 0, _, _, _, hn, _, _ => absurd hn (by omega)
  | n + 1, .mk k i s v l, .mk k' i' s' v' m, h, hn, ⟨hv, hl, hls⟩, ⟨hu, hm, hms⟩ => by
    obtain ⟨x, c, rfl, hlc⟩ := hv.form
    obtain ⟨x', c', rfl, hmc⟩ := hu.form
    have hs : RT.same (.mk k i s (.slice x l.length c) l) (.mk k' i' s' (.slice x' m.length c') m) = (decide (k = k') && decide (i = i') && decide (s = s') && RT.sames l m) := by rw [RT.same]
    rw [hs]
    refine f21_calls (by simp) ?_
    intro b1 h1 g1 b2 h2 g2
    have B1 : Blk h2 b1 [.int .i64 k, .int .i64 i, .string s, .slice x l.length c] := Blk.chg g1.blk g2.chg (by simp)
    have B2 : Blk h2 b2 [.int .i64 k', .int .i64 i', .string s', .slice x' m.length c'] := g2.blk
    have ch : Chg [] h h2 := g1.chg.nil g2.chg
    refine Exists.intro _ (And.intro (cell_blk B1 rfl) (Exists.intro _ (And.intro (cell_blk B2 rfl) (And.intro rfl (And.intro (fun he => ?_) (fun hne => ?_))))))
    case refine_2 => exact And.intro (by rw [decide_eq_false hne]; rfl) ch
    refine Exists.intro _ (And.intro (cell_blk B1 rfl) (Exists.intro _ (And.intro (cell_blk B2 rfl) (And.intro rfl (And.intro (fun he2 => ?_) (fun hne => ?_))))))
    case refine_2 => exact And.intro (by rw [decide_eq_false hne, Bool.and_false]; rfl) ch
    refine Exists.intro _ (And.intro (cell_blk B1 rfl) (Exists.intro _ (And.intro (cell_blk B2 rfl) (And.intro (fun he3 => ?_) (fun hne => ?_)))))
    case refine_2 => exact And.intro (by rw [decide_eq_false hne, Bool.and_false]; rfl) ch
    rw [decide_eq_true he, decide_eq_true he2, decide_eq_true he3, Bool.true_and, Bool.true_and, Bool.true_and]
    refine Exists.intro _ (And.intro (cell_blk B1 rfl) (Exists.intro _ (And.intro (cell_blk B2 rfl) ?_)))
    refine call_ret (eqReply_calls (hv.ext ch) (hu.ext ch) hl hm (hls.ext ch) (hms.ext ch) fun a ha b h' h1 h2 => bsame_calls n a b h' ?_ h1 h2) ?_
    · have h3 := List.sizeOf_lt_of_mem ha
      rw [RT.mk.sizeOf_spec] at hn; omega
    · rintro _ h4 ⟨rfl, hc4⟩
      exact And.intro rfl (ch.nil hc4)

/-- How wide: a number. -/
theorem wide_calls : ∀ (n : Nat) (a : RT) (most : Int) (h : Heap), SizeOf.sizeOf a < n → a.ok h → CallsH Tryz.prog 19 [.agg ⟨encT a⟩, .int .i64 most] h (Ret fun r h' => (∃ z, r = .int .i64 z) ∧ Chg [] h h')
  | 0, _, _, _, hn, _ => absurd hn (by omega)
  | n + 1, .mk k i s v l, most, h, hn, ⟨hv, hl, hls⟩ => by
    obtain ⟨x, c, rfl, hlc⟩ := hv.form
    refine f19_calls (by simp) ?_
    intro b1 h1 g1
    have B1 : Blk h1 b1 [.int .i64 k, .int .i64 i, .string s, .slice x l.length c] := g1.blk
    refine Exists.intro _ (And.intro (cell_blk B1 rfl) ?_)
    refine And.intro rfl (And.intro (by decide) (fun z _ => And.intro rfl (fun z2 _ => ?_)))
    refine loop_intro (fun p : Nat × Int => [(1, .int .i64 most), (2, .pointer (some ⟨b1, 0, none⟩)), (5, .int .i64 p.2), (6, .int .i64 p.1)]) (fun p h' => p.1 ≤ l.length ∧ Chg [] h1 h') (fun p => l.length - p.1) (0, z2) ⟨rfl, rfl, rfl, rfl, trivial⟩ ⟨Nat.zero_le _, Chg.refl _⟩ ?_
    rintro ⟨q, z⟩ h2 ⟨hq, hc1⟩
    have C1 := B1.chg hc1 (by simp)
    have hch := g1.chg.nil hc1
    refine Exists.intro _ (And.intro (cell_blk C1 rfl) (And.intro rfl (And.intro (fun hlt => ?_) (fun hge => ?_))))
    · have hlt : q < l.length := by simp only at hlt hq; omega
      refine And.intro rfl (And.intro (fun hle => ?_) (fun hgt => ?_))
      · obtain ⟨b, o, rfl⟩ := hv.addr (by omega)
        have hcs := (hv.ext hch).cells encT_len (i := q) (x := l[q]) (by simp [hlt])
        refine Exists.intro _ (And.intro (cell_blk C1 rfl) ?_)
        refine And.intro (by simp only; omega) (And.intro (by simp only; omega) (Exists.intro (encT l[q]) (And.intro (encT_len _) (And.intro hcs ?_))))
        refine And.intro rfl (fun z3 _ => ?_)
        refine call_ret (wide_calls n l[q] z3 h2 (by have := sizeOf_item (k := k) (i := i) (s := s) (v := .slice (some ⟨b, o, none⟩) l.length c) hlt; omega) ((hls.mem _ (List.getElem_mem hlt)).ext hch)) ?_
        rintro _ h3 ⟨⟨z4, rfl⟩, hc3⟩
        refine And.intro rfl (fun z5 _ => ?_)
        refine And.intro rfl (fun z6 hz => ?_)
        have hz := add_in hz (by omega) (by omega)
        subst hz
        exact And.intro rfl (Exists.intro (q + 1, z5) (And.intro ⟨rfl, rfl, rfl, rfl, trivial⟩ (And.intro ⟨hlt, hc1.nil hc3⟩ (by simp only; omega))))
      · exact And.intro (Exists.intro z rfl) hch
    · exact And.intro (Exists.intro z rfl) hch

end Go.Proofs.YtigolfakcblnjaaGreatDoor
