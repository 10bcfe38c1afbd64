/-
  Layer 7: copies; a keyspace (printed by genk.py).
-/
import Derived.Test.YtigolfakcblnjaaGreatKJ
namespace Go.Proofs.YtigolfakcblnjaaGreat
open Go Go.Sx Go.Proofs.YtigolfakcblnjaaGreat.C

theorem clP_calls {h : Heap} {v : Value} {l : List Pair} (hv : SL encP h v l) (hl : l.length ≤ 70000) :
    CallsH Tryz.prog 33 [v] h (Ret fun r h' => OL encP 2 h' r l ∧ (∀ b ∈ vblk r, h.size ≤ b) ∧ Chg [] h h') := by
  obtain ⟨a, c, rfl, hlc⟩ := hv.form
  refine f33_calls (by simp) ?_
  cases a with
  | none =>
    have h0 : l.length = 0 := by
      obtain ⟨a', c', he, _, h2⟩ := hv
      cases he
      exact h2
    have : l = [] := List.length_eq_zero_iff.1 h0
    subst this
    exact And.intro OL.nil (And.intro (fun b hb => absurd (show b ∈ ([] : List Nat) from hb) (by simp)) (Chg.refl h))
  | some a =>
    intro b1 h1 g1
    have own : OL encP 2 h1 (.slice (some ⟨b1, 0, none⟩) 0 0) [] := ⟨some ⟨b1, 0, none⟩, 0, rfl, rfl, Nat.zero_le _, [], g1.blk, by simp⟩
    refine app_own encP_len encP_one rfl own (hv.ext g1.chg) (by simp; omega) ?_
    intro v' h2 ho2 hc2 hb2
    have i1 := g1.id
    refine And.intro ho2 (And.intro (fun b hb => ?_) (g1.chg.fresh hc2 (by simp [ablk]; omega)))
    rcases hb2 b hb with h | h
    · simp [ablk] at h; omega
    · have := g1.size; omega

theorem clS_calls {h : Heap} {v : Value} {l : List ByteArray} (hv : SL encS h v l) (hl : l.length ≤ 70000) :
    CallsH Tryz.prog 34 [v] h (Ret fun r h' => OL encS 1 h' r l ∧ (∀ b ∈ vblk r, h.size ≤ b) ∧ Chg [] h h') := by
  obtain ⟨a, c, rfl, hlc⟩ := hv.form
  refine f34_calls (by simp) ?_
  cases a with
  | none =>
    have h0 : l.length = 0 := by
      obtain ⟨a', c', he, _, h2⟩ := hv
      cases he
      exact h2
    have : l = [] := List.length_eq_zero_iff.1 h0
    subst this
    exact And.intro OL.nil (And.intro (fun b hb => absurd (show b ∈ ([] : List Nat) from hb) (by simp)) (Chg.refl h))
  | some a =>
    intro b1 h1 g1
    have own : OL encS 1 h1 (.slice (some ⟨b1, 0, none⟩) 0 0) [] := ⟨some ⟨b1, 0, none⟩, 0, rfl, rfl, Nat.zero_le _, [], g1.blk, by simp⟩
    refine app_own encS_len encS_one rfl own (hv.ext g1.chg) (by simp; omega) ?_
    intro v' h2 ho2 hc2 hb2
    have i1 := g1.id
    refine And.intro ho2 (And.intro (fun b hb => ?_) (g1.chg.fresh hc2 (by simp [ablk]; omega)))
    rcases hb2 b hb with h | h
    · simp [ablk] at h; omega
    · have := g1.size; omega

theorem clR_calls {h : Heap} {v : Value} {l : List Rank} (hv : SL encR h v l) (hl : l.length ≤ 70000) :
    CallsH Tryz.prog 35 [v] h (Ret fun r h' => OL encR 2 h' r l ∧ (∀ b ∈ vblk r, h.size ≤ b) ∧ Chg [] h h') := by
  obtain ⟨a, c, rfl, hlc⟩ := hv.form
  refine f35_calls (by simp) ?_
  cases a with
  | none =>
    have h0 : l.length = 0 := by
      obtain ⟨a', c', he, _, h2⟩ := hv
      cases he
      exact h2
    have : l = [] := List.length_eq_zero_iff.1 h0
    subst this
    exact And.intro OL.nil (And.intro (fun b hb => absurd (show b ∈ ([] : List Nat) from hb) (by simp)) (Chg.refl h))
  | some a =>
    intro b1 h1 g1
    have own : OL encR 2 h1 (.slice (some ⟨b1, 0, none⟩) 0 0) [] := ⟨some ⟨b1, 0, none⟩, 0, rfl, rfl, Nat.zero_le _, [], g1.blk, by simp⟩
    refine app_own encR_len encR_one rfl own (hv.ext g1.chg) (by simp; omega) ?_
    intro v' h2 ho2 hc2 hb2
    have i1 := g1.id
    refine And.intro ho2 (And.intro (fun b hb => ?_) (g1.chg.fresh hc2 (by simp [ablk]; omega)))
    rcases hb2 b hb with h | h
    · simp [ablk] at h; omega
    · have := g1.size; omega

/-- A thing of nothing. -/
def zeroT : Thing := ⟨0, noText, [], [], [], false, 0⟩
def zeroV : List Value := [.int .i64 0, .string ⟨#[]⟩, .slice none 0 0, .slice none 0 0, .slice none 0 0, .bool false, .int .i64 0]

theorem zero_TH {h : Heap} : TH h zeroV zeroT := ⟨_, _, _, rfl, SL.nil, SL.nil, SL.nil⟩

theorem thing_one {vs : List Value} {t : Thing} {h : Heap} (x : TH h vs t) : ∀ u ∈ vs, u.oneCell' = true := by
  obtain ⟨pv, lv, rv, rfl, hp, hl, hr⟩ := x
  obtain ⟨pa, pc, rfl, _⟩ := hp.form
  obtain ⟨la, lc, rfl, _⟩ := hl.form
  obtain ⟨ra, rc, rfl, _⟩ := hr.form
  intro u hu
  simp at hu
  rcases hu with rfl | rfl | rfl | rfl | rfl | rfl | rfl <;> rfl

def cellsT (t : Thing) (pv lv rv : Value) : List Value := [.int .i64 t.kind, .string t.text, pv, lv, rv, .bool t.hasU, .int .i64 t.unt]
def bl3 (pv lv rv : Value) : List Nat := vblk pv ++ (vblk lv ++ vblk rv)

/-- A thing of the call's own. -/
structure TO (h : Heap) (pv lv rv : Value) (t : Thing) : Prop where
  p : OL encP 2 h pv t.pairs
  l : OL encS 1 h lv t.list
  r : OL encR 2 h rv t.ranks
  pl : ∀ b ∈ vblk pv, b ∉ vblk lv
  pr : ∀ b ∈ vblk pv, b ∉ vblk rv
  lr : ∀ b ∈ vblk lv, b ∉ vblk rv

theorem TO.chg {S : List Nat} {h h' : Heap} {pv lv rv : Value} {t : Thing} (o : TO h pv lv rv t) (c : Chg S h h') (hn : ∀ b ∈ bl3 pv lv rv, b ∉ S) : TO h' pv lv rv t :=
  ⟨o.p.chg c fun b hb => hn b (by simp [bl3, hb]), o.l.chg c fun b hb => hn b (by simp [bl3, hb]), o.r.chg c fun b hb => hn b (by simp [bl3, hb]), o.pl, o.pr, o.lr⟩
theorem TO.ext {h h' : Heap} {pv lv rv : Value} {t : Thing} (o : TO h pv lv rv t) (c : Chg [] h h') : TO h' pv lv rv t := o.chg c (by simp)
theorem TO.th {h : Heap} {pv lv rv : Value} {t : Thing} (o : TO h pv lv rv t) : TH h (cellsT t pv lv rv) t := ⟨pv, lv, rv, rfl, o.p.sl, o.l.sl, o.r.sl⟩
theorem bl3_cells {t : Thing} {pv lv rv v : Value} {b : Nat} (hv : v ∈ cellsT t pv lv rv) (hb : b ∈ vblk v) : b ∈ bl3 pv lv rv := by
  simp only [cellsT, List.mem_cons, List.not_mem_nil, or_false] at hv
  rcases hv with rfl | rfl | rfl | rfl | rfl | rfl | rfl
  · exact absurd (show b ∈ ([] : List Nat) from hb) (by simp)
  · exact absurd (show b ∈ ([] : List Nat) from hb) (by simp)
  · simp [bl3, hb]
  · simp [bl3, hb]
  · simp [bl3, hb]
  · exact absurd (show b ∈ ([] : List Nat) from hb) (by simp)
  · exact absurd (show b ∈ ([] : List Nat) from hb) (by simp)

theorem copied_own {h : Heap} {vs : List Value} {t : Thing} (x : TH h vs t) (n : Lens t) :
    CallsH Tryz.prog 14 [.agg ⟨vs⟩] h (Ret fun r h' => (∃ pv lv rv, r = .agg ⟨cellsT t pv lv rv⟩ ∧ TO h' pv lv rv t ∧ ∀ b ∈ bl3 pv lv rv, h.size ≤ b) ∧ Chg [] h h') := by
  refine f14_calls (by simp) ?_
  intro b1 h1 g1
  intro b2 h2 g2
  have B1 : Blk h2 b1 vs := (show Blk h1 b1 vs from g1.blk).chg g2.chg (by simp)
  have hc2 := g1.chg.nil g2.chg
  have i1 := g1.id
  have i2 := g2.id
  have z1 := g1.size
  obtain ⟨pv, lv, rv, rfl, hp, hl, hr⟩ := x.ext hc2
  obtain ⟨pa, pc, rfl, _⟩ := hp.form
  obtain ⟨la, lc, rfl, _⟩ := hl.form
  obtain ⟨ra, rc, rfl, _⟩ := hr.form
  refine Exists.intro _ (And.intro (cell_blk B1 rfl) (Exists.intro _ (And.intro (cell_blk B1 rfl) (Exists.intro _ (And.intro (cell_blk B1 rfl) ?_)))))
  refine callq_ret (clP_calls hp n.p) ?_
  rintro r3 h3 ⟨hp3, hb3, hc3⟩
  refine And.intro hc3.ext ?_
  refine callq_ret (clS_calls (hl.ext hc3) n.l) ?_
  rintro r4 h4 ⟨hl4, hb4, hc4⟩
  refine And.intro hc4.ext ?_
  refine callq_ret (clR_calls ((hr.ext hc3).ext hc4) n.r) ?_
  rintro r5 h5 ⟨hr5, hb5, hc5⟩
  refine And.intro hc5.ext ?_
  have hc35 := (hc3.nil hc4).nil hc5
  have B5 := B1.chg hc35 (by simp)
  have lp3 := hp3.lt
  have ll4 := hl4.lt
  have s3 := hc3.size
  have s4 := hc4.size
  have s5 := hc5.size
  have s2 := hc2.size
  have hz2 := g2.size
  have o5 : TO h5 r3 r4 r5 t := ⟨(hp3.ext hc4).ext hc5, hl4.ext hc5, hr5, fun b hb hx => by have := lp3 b hb; have := hb4 b hx; omega, fun b hb hx => by have := lp3 b hb; have := hb5 b hx; omega, fun b hb hx => by have := ll4 b hb; have := hb5 b hx; omega⟩
  have fr : ∀ b ∈ bl3 r3 r4 r5, h2.size ≤ b := by
    intro b hb
    simp only [bl3, List.mem_append] at hb
    rcases hb with hb | hb | hb
    · exact hb3 b hb
    · have := hb4 b hb; omega
    · have := hb5 b hb; omega
  obtain ⟨qa, qc, rfl, _⟩ := hp3.sl.form
  obtain ⟨ma, mc, rfl, _⟩ := hl4.sl.form
  obtain ⟨sa, sc, rfl, _⟩ := hr5.sl.form
  refine Exists.intro _ (And.intro B5 (And.intro (by simp) (And.intro rfl (And.intro (ones1 rfl) ?_))))
  intro h6 p6
  have B6 : Blk h6 b1 (cellsT t (.slice qa t.pairs.length qc) (.slice la t.list.length lc) (.slice ra t.ranks.length rc)) := p6.blk
  refine Exists.intro _ (And.intro B6 (And.intro (by simp [cellsT]) (And.intro rfl (And.intro (ones1 rfl) ?_))))
  intro h7 p7
  have B7 : Blk h7 b1 (cellsT t (.slice qa t.pairs.length qc) (.slice ma t.list.length mc) (.slice ra t.ranks.length rc)) := p7.blk
  refine Exists.intro _ (And.intro B7 (And.intro (by simp [cellsT]) (And.intro rfl (And.intro (ones1 rfl) ?_))))
  intro h8 p8
  have B8 : Blk h8 b1 (cellsT t (.slice qa t.pairs.length qc) (.slice ma t.list.length mc) (.slice sa t.ranks.length sc)) := p8.blk
  have c58 : Chg [b1] h5 h8 := (p6.chg.trans p7.chg (U := [b1]) (fun _ h => h) (fun _ h _ => h)).trans p8.chg (fun _ h => h) (fun _ h _ => h)
  have o8 := o5.chg c58 (fun b hb => by have := fr b hb; simp; omega)
  refine Exists.intro _ (And.intro rfl (And.intro (cells_blk B8) ?_))
  have Bz : Blk h8 b2 zeroV := ((show Blk h2 b2 zeroV from g2.blk).chg hc35 (by simp)).chg c58 (by simp; omega)
  refine Exists.intro _ (And.intro Bz (And.intro (by decide) (And.intro rfl (And.intro (thing_one o8.th) ?_))))
  intro h9 p9
  have B9 : Blk h9 b2 (cellsT t (.slice qa t.pairs.length qc) (.slice ma t.list.length mc) (.slice sa t.ranks.length sc)) := p9.blk
  have hc29 : Chg [] h h9 := ((hc2.nil hc35).fresh c58 (by simp; omega)).fresh p9.chg (by simp; omega)
  refine Exists.intro _ (And.intro rfl (And.intro (cells_blk B9) ?_))
  exact And.intro (Exists.intro _ (Exists.intro _ (Exists.intro _ (And.intro rfl (And.intro (o8.chg p9.chg (fun b hb => by have := fr b hb; simp; omega)) (fun b hb => by have := fr b hb; omega)))))) hc29

theorem copied_calls {h : Heap} {vs : List Value} {t : Thing} (x : TH h vs t) (n : Lens t) :
    CallsH Tryz.prog 14 [.agg ⟨vs⟩] h (Ret fun r h' => (∃ us, r = .agg ⟨us⟩ ∧ TH h' us t ∧ ∀ v ∈ us, ∀ b ∈ vblk v, h.size ≤ b) ∧ Chg [] h h') := by
  refine (copied_own x n).mono fun e h' he => ?_
  cases e with
  | returned v =>
    obtain ⟨⟨pv, lv, rv, hv, o, fr⟩, c⟩ := he
    exact ⟨⟨_, hv, o.th, fun v hv b hb => fr b (bl3_cells hv hb)⟩, c⟩
  | panicked ch => exact he.elim
  | outgrown => exact he.elim

theorem gone_calls {h : Heap} {vs : List Value} {t : Thing} (x : TH h vs t) (now : Int) :
    CallsH Tryz.prog 22 [.agg ⟨vs⟩, .int .i64 now] h (Ret fun r h' => r = .bool (t.hasU && decide (t.unt ≤ now)) ∧ Chg [] h h') := by
  refine f22_calls (by simp) ?_
  intro b1 h1 g1
  have B1 : Blk h1 b1 vs := g1.blk
  obtain ⟨pv, lv, rv, rfl, hp, hl, hr⟩ := x
  refine Exists.intro _ (And.intro (cell_blk B1 rfl) ?_)
  cases hU : t.hasU with
  | false => exact And.intro rfl g1.chg
  | true =>
    refine Exists.intro _ (And.intro (cell_blk B1 rfl) ?_)
    refine And.intro rfl (And.intro (fun hl => ?_) (fun hl => ?_))
    · exact And.intro (by rw [decide_eq_true hl]; rfl) g1.chg
    · exact And.intro (by rw [decide_eq_false hl]; rfl) g1.chg

theorem TH.chg {S : List Nat} {h h' : Heap} {vs : List Value} {t : Thing} (x : TH h vs t) (hc : Chg S h h') (hn : ∀ v ∈ vs, ∀ b ∈ vblk v, b ∉ S) : TH h' vs t := by
  obtain ⟨pv, lv, rv, rfl, h2, h3, h4⟩ := x
  exact ⟨pv, lv, rv, rfl, h2.chg hc (hn pv (by simp)), h3.chg hc (hn lv (by simp)), h4.chg hc (hn rv (by simp))⟩

def ptr (b : Nat) : Value := .pointer (some ⟨b, 0, none⟩)

/-- A keyspace's blocks; its map. -/
structure KS (h : Heap) (kb sb mb : Nat) : Prop where
  k : Blk h kb [ptr sb]
  s : Blk h sb [.map (some mb)]

theorem KS.chg {S : List Nat} {h h' : Heap} {kb sb mb : Nat} (x : KS h kb sb mb) (hc : Chg S h h') (h1 : kb ∉ S) (h2 : sb ∉ S) : KS h' kb sb mb := ⟨x.k.chg hc h1, x.s.chg hc h2⟩

theorem none_calls {h : Heap} {kb sb mb : Nat} (x : KS h kb sb mb) : CallsH Tryz.prog 15 [ptr kb] h (Ret fun r h' => r = .bool false ∧ h' = h) := by
  refine f15_calls (by simp) ?_
  refine Exists.intro _ (And.intro (cell_blk x.k rfl) ?_)
  exact ⟨rfl, rfl⟩

theorem New_calls {h : Heap} : CallsH Tryz.prog 11 [] h (Ret fun r h' => ∃ kb sb mb, r = ptr kb ∧ KS h' kb sb mb ∧ MapB h' mb [] 0 ∧ mb = h.size ∧ sb = h.size + 1 ∧ kb = h.size + 2 ∧ Chg [] h h') := by
  refine f11_calls (by simp) ?_
  intro mb h1 g1
  intro sb h2 g2
  intro kb h3 g3
  have i1 := g1.id
  have i2 := g2.id
  have i3 := g3.id
  have z1 := g1.size
  have z2 := g2.size
  refine Exists.intro kb (Exists.intro sb (Exists.intro mb (And.intro rfl (And.intro ⟨g3.blk, (show Blk h2 sb _ from g2.blk).chg g3.chg (by simp)⟩ (And.intro ?_ (And.intro i1 (And.intro (by omega) (And.intro (by omega) ?_))))))))
  · exact MapB.chg (MapB.chg (show MapB h1 mb [] 0 from g1.blk) g2.chg (by simp)) g3.chg (by simp)
  · exact (g1.chg.nil g2.chg).nil g3.chg

end Go.Proofs.YtigolfakcblnjaaGreat
