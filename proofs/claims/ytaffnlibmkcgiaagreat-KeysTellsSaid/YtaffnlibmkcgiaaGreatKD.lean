/-
  Layer 7: things; two the same (printed by gend.py).
-/
import Derived.Test.YtaffnlibmkcgiaaGreatKC
namespace Go.Proofs.YtaffnlibmkcgiaaGreat
open Go Go.Sx Go.Proofs.YtaffnlibmkcgiaaGreat.C

structure Thing where
  kind : Int
  text : ByteArray
  pairs : List Pair
  list : List ByteArray
  ranks : List Rank
  hasU : Bool
  unt : Int
  deriving DecidableEq

theorem thing_eq {a b : Thing} (h1 : a.kind = b.kind) (h2 : a.text = b.text) (h3 : a.pairs = b.pairs) (h4 : a.list = b.list) (h5 : a.ranks = b.ranks) (h6 : a.hasU = b.hasU) (h7 : a.unt = b.unt) : a = b := by
  cases a; cases b; simp_all

/-- A thing's cells. -/
def TH (h : Heap) (vs : List Value) (t : Thing) : Prop :=
  ∃ pv lv rv, vs = [.int .i64 t.kind, .string t.text, pv, lv, rv, .bool t.hasU, .int .i64 t.unt] ∧ SL encP h pv t.pairs ∧ SL encS h lv t.list ∧ SL encR h rv t.ranks

theorem TH.ext {h h' : Heap} {vs : List Value} {t : Thing} (x : TH h vs t) (hc : Chg [] h h') : TH h' vs t := by
  obtain ⟨pv, lv, rv, h1, h2, h3, h4⟩ := x
  exact ⟨pv, lv, rv, h1, h2.ext hc, h3.ext hc, h4.ext hc⟩

theorem TH.len {h : Heap} {vs : List Value} {t : Thing} (x : TH h vs t) : vs.length = 7 := by
  obtain ⟨pv, lv, rv, rfl, _⟩ := x; rfl

/-- Its lists are no longer than may be counted. -/
structure Fits (t : Thing) : Prop where
  p : t.pairs.length < 4611686018427387904
  l : t.list.length < 4611686018427387904
  r : t.ranks.length < 4611686018427387904

theorem KSame_calls {h : Heap} {vs us : List Value} {a b : Thing} (ta : TH h vs a) (tb : TH h us b) (fa : Fits a) (fb : Fits b) :
    CallsH Tryz.prog 49 [.agg ⟨vs⟩, .agg ⟨us⟩] h (Ret fun r h' => r = .bool (decide (a = b)) ∧ Chg [] h h') := by
  refine f49_calls (by simp) ?_
  intro b1 h1 g1
  intro b2 h2 g2
  have B1 : Blk h2 b1 vs := (show Blk h1 b1 vs from g1.blk).chg g2.chg (by simp)
  have B2 : Blk h2 b2 us := g2.blk
  have hc := g1.chg.nil g2.chg
  obtain ⟨pv, lv, rv, rfl, hp, hl, hr⟩ := ta.ext hc
  obtain ⟨qv, mv, sv, rfl, hq, hm, hs⟩ := tb.ext hc
  have bad : a ≠ b → Ret (fun r h' => r = .bool (decide (a = b)) ∧ Chg [] h h') (.returned (retV [Value.bool false])) h2 := fun hne => ⟨by rw [decide_eq_false hne]; rfl, hc⟩
  refine Exists.intro _ (And.intro (cell_blk B1 rfl) (Exists.intro _ (And.intro (cell_blk B2 rfl) ?_)))
  refine And.intro rfl (And.intro (fun e1 => ?_) (fun e1 => ?_))
  rotate_left
  · exact bad (by rintro rfl; exact e1 rfl)
  refine Exists.intro _ (And.intro (cell_blk B1 rfl) (Exists.intro _ (And.intro (cell_blk B2 rfl) ?_)))
  refine And.intro (fun e2 => ?_) (fun e2 => ?_)
  rotate_left
  · exact bad (by rintro rfl; exact e2 rfl)
  refine Exists.intro _ (And.intro (cell_blk B1 rfl) (Exists.intro _ (And.intro (cell_blk B2 rfl) ?_)))
  refine call_ret (eqP_calls hp hq fa.p fb.p) ?_
  rintro r0 _ ⟨hr0, rfl⟩
  by_cases e3 : a.pairs = b.pairs
  rotate_left
  · rw [decide_eq_false e3] at hr0
    subst hr0
    exact bad (by rintro rfl; exact e3 rfl)
  rw [decide_eq_true e3] at hr0
  subst hr0
  refine Exists.intro _ (And.intro (cell_blk B1 rfl) (Exists.intro _ (And.intro (cell_blk B2 rfl) ?_)))
  refine call_ret (eqS_calls hl hm fa.l fb.l) ?_
  rintro r1 _ ⟨hr1, rfl⟩
  by_cases e4 : a.list = b.list
  rotate_left
  · rw [decide_eq_false e4] at hr1
    subst hr1
    exact bad (by rintro rfl; exact e4 rfl)
  rw [decide_eq_true e4] at hr1
  subst hr1
  refine Exists.intro _ (And.intro (cell_blk B1 rfl) (Exists.intro _ (And.intro (cell_blk B2 rfl) ?_)))
  refine call_ret (eqR_calls hr hs fa.r fb.r) ?_
  rintro r2 _ ⟨hr2, rfl⟩
  by_cases e5 : a.ranks = b.ranks
  rotate_left
  · rw [decide_eq_false e5] at hr2
    subst hr2
    exact bad (by rintro rfl; exact e5 rfl)
  rw [decide_eq_true e5] at hr2
  subst hr2
  refine Exists.intro _ (And.intro (cell_blk B1 rfl) (Exists.intro _ (And.intro (cell_blk B2 rfl) ?_)))
  refine And.intro (fun e6 => ?_) (fun e6 => ?_)
  rotate_left
  · exact bad (by rintro rfl; exact e6 rfl)
  refine Exists.intro _ (And.intro (cell_blk B1 rfl) (Exists.intro _ (And.intro (cell_blk B2 rfl) ?_)))
  refine And.intro rfl (And.intro (fun e7 => ?_) (fun e7 => ?_))
  rotate_left
  · exact bad (by rintro rfl; exact e7 rfl)
  exact And.intro (by rw [decide_eq_true (thing_eq e1 e2 e3 e4 e5 e6 e7)]; rfl) hc

theorem RSame_calls {h : Heap} {vs us : List Value} {a b : Thing} (ta : TH h vs a) (tb : TH h us b) (fa : Fits a) (fb : Fits b) :
    CallsH Tryz.prog 21 [.agg ⟨vs⟩, .agg ⟨us⟩] h (Ret fun r h' => r = .bool (decide (a = b)) ∧ Chg [] h h') := by
  have fap := fa.p; have fal := fa.l; have far := fa.r
  have fbp := fb.p; have fbl := fb.l; have fbr := fb.r
  refine f21_calls (by simp) ?_
  intro b1 h1 g1
  intro b2 h2 g2
  have B1 : Blk h2 b1 vs := (show Blk h1 b1 vs from g1.blk).chg g2.chg (by simp)
  have B2 : Blk h2 b2 us := g2.blk
  have hc := g1.chg.nil g2.chg
  obtain ⟨pv, lv, rv, rfl, hp, hl, hr⟩ := ta.ext hc
  obtain ⟨qv, mv, sv, rfl, hq, hm, hs⟩ := tb.ext hc
  obtain ⟨pa, pc, rfl, _⟩ := hp.form
  obtain ⟨la, lc, rfl, _⟩ := hl.form
  obtain ⟨ra, rc, rfl, _⟩ := hr.form
  obtain ⟨qa, qc, rfl, _⟩ := hq.form
  obtain ⟨ma, mc, rfl, _⟩ := hm.form
  obtain ⟨sa, sc, rfl, _⟩ := hs.form
  have bad : a ≠ b → Ret (fun r h' => r = .bool (decide (a = b)) ∧ Chg [] h h') (.returned (retV [Value.bool false])) h2 := fun hne => ⟨by rw [decide_eq_false hne]; rfl, hc⟩
  refine Exists.intro _ (And.intro (cell_blk B1 rfl) (Exists.intro _ (And.intro (cell_blk B2 rfl) ?_)))
  refine And.intro rfl (And.intro (fun n1 => ?_) (fun n1 => ?_))
  · exact bad (by rintro rfl; exact n1 rfl)
  refine Exists.intro _ (And.intro (cell_blk B1 rfl) (Exists.intro _ (And.intro (cell_blk B2 rfl) ?_)))
  refine And.intro (fun n2 => ?_) (fun n2 => ?_)
  · exact bad (by rintro rfl; exact n2 rfl)
  refine Exists.intro _ (And.intro (cell_blk B1 rfl) (Exists.intro _ (And.intro (cell_blk B2 rfl) ?_)))
  refine And.intro (fun e6 => ?_) (fun n6 => ?_)
  rotate_left
  · exact bad (by rintro rfl; exact n6 rfl)
  refine Exists.intro _ (And.intro (cell_blk B1 rfl) (Exists.intro _ (And.intro (cell_blk B2 rfl) ?_)))
  refine And.intro rfl (And.intro (fun n7 => ?_) (fun n7 => ?_))
  · exact bad (by rintro rfl; exact n7 rfl)
  refine Exists.intro _ (And.intro (cell_blk B1 rfl) (Exists.intro _ (And.intro (cell_blk B2 rfl) ?_)))
  refine And.intro rfl (And.intro (fun n3 => ?_) (fun n3 => ?_))
  · exact bad (by rintro rfl; exact n3 rfl)
  refine Exists.intro _ (And.intro (cell_blk B1 rfl) (Exists.intro _ (And.intro (cell_blk B2 rfl) ?_)))
  refine And.intro rfl (And.intro (fun n4 => ?_) (fun n4 => ?_))
  · exact bad (by rintro rfl; exact n4 rfl)
  refine Exists.intro _ (And.intro (cell_blk B1 rfl) (Exists.intro _ (And.intro (cell_blk B2 rfl) ?_)))
  refine And.intro rfl (And.intro (fun n5 => ?_) (fun n5 => ?_))
  · exact bad (by rintro rfl; exact n5 rfl)
  have l3 : a.pairs.length = b.pairs.length := by omega
  have l4 : a.list.length = b.list.length := by omega
  have l5 : a.ranks.length = b.ranks.length := by omega
  refine loop_intro (fun k : Nat => [(2, .pointer (some ⟨b1, 0, none⟩)), (3, .pointer (some ⟨b2, 0, none⟩)), (5, .int .i64 k)]) (fun k h' => k ≤ a.pairs.length ∧ h' = h2 ∧ a.pairs.take k = b.pairs.take k) (fun k => a.pairs.length - k) 0 ⟨rfl, rfl, rfl, trivial⟩ ⟨Nat.zero_le _, rfl, rfl⟩ ?_
  rintro k h3 ⟨hk, h32, ht0⟩
  have h32 := h32.symm
  subst h32
  refine Exists.intro _ (And.intro (cell_blk B1 rfl) ?_)
  refine And.intro rfl (And.intro (fun hlt => ?_) (fun hlt => ?_))
  · have hlt : k < a.pairs.length := by omega
    have hltm : k < b.pairs.length := by omega
    obtain ⟨b3, o, rfl⟩ := hp.addr (by omega)
    obtain ⟨b4, o', rfl⟩ := hq.addr (by omega)
    have hcs := hp.cells encP_len (i := k) (x := a.pairs[k]) (by simp [hlt])
    have hds := hq.cells encP_len (i := k) (x := b.pairs[k]) (by simp [hltm])
    refine Exists.intro _ (And.intro (cell_blk B1 rfl) ?_)
    refine And.intro (by omega) (And.intro (by omega) (Exists.intro (encP a.pairs[k]) (And.intro rfl (And.intro hcs ?_))))
    refine Exists.intro _ (And.intro (cell_blk B2 rfl) ?_)
    refine And.intro (by omega) (And.intro (by omega) (Exists.intro (encP b.pairs[k]) (And.intro rfl (And.intro hds ?_))))
    refine And.intro rfl (And.intro rfl (And.intro (fun he => ?_) (fun hd => ?_)))
    rotate_left
    · exact bad (by rintro rfl; exact hd rfl)
    have he : a.pairs[k] = b.pairs[k] := encP_inj he
    refine And.intro rfl (fun z hz => ?_)
    have hz := add_in hz (by omega) (by omega)
    subst hz
    refine And.intro rfl (Exists.intro (k + 1) (And.intro ?_ (And.intro ?_ ?_)))
    · exact ⟨rfl, rfl, rfl, trivial⟩
    · exact ⟨by omega, rfl, by rw [take_snoc a.pairs k hlt, take_snoc b.pairs k hltm, ht0, he]⟩
    · omega
  have hk0 : k = a.pairs.length := by omega
  have e3 : a.pairs = b.pairs := by
    rw [hk0, List.take_length, l3, List.take_length] at ht0
    exact ht0
  clear hlt hk0 ht0 hk
  refine loop_intro (fun k : Nat => [(2, .pointer (some ⟨b1, 0, none⟩)), (3, .pointer (some ⟨b2, 0, none⟩)), (6, .int .i64 k)]) (fun k h' => k ≤ a.list.length ∧ h' = h2 ∧ a.list.take k = b.list.take k) (fun k => a.list.length - k) 0 ⟨rfl, rfl, rfl, trivial⟩ ⟨Nat.zero_le _, rfl, rfl⟩ ?_
  rintro k h3 ⟨hk, h32, ht1⟩
  have h32 := h32.symm
  subst h32
  refine Exists.intro _ (And.intro (cell_blk B1 rfl) ?_)
  refine And.intro rfl (And.intro (fun hlt => ?_) (fun hlt => ?_))
  · have hlt : k < a.list.length := by omega
    have hltm : k < b.list.length := by omega
    obtain ⟨b3, o, rfl⟩ := hl.addr (by omega)
    obtain ⟨b4, o', rfl⟩ := hm.addr (by omega)
    have hcs := hl.cells encS_len (i := k) (x := a.list[k]) (by simp [hlt])
    have hds := hm.cells encS_len (i := k) (x := b.list[k]) (by simp [hltm])
    refine Exists.intro _ (And.intro (cell_blk B1 rfl) ?_)
    refine And.intro (by omega) (And.intro (by omega) (Exists.intro _ (And.intro (hcs 0 _ rfl) ?_)))
    refine Exists.intro _ (And.intro (cell_blk B2 rfl) ?_)
    refine And.intro (by omega) (And.intro (by omega) (Exists.intro _ (And.intro (hds 0 _ rfl) ?_)))
    refine And.intro (fun hd => ?_) (fun hd => ?_)
    · exact bad (by rintro rfl; exact hd rfl)
    have he : a.list[k] = b.list[k] := Decidable.not_not.1 hd
    refine And.intro rfl (fun z hz => ?_)
    have hz := add_in hz (by omega) (by omega)
    subst hz
    refine And.intro rfl (Exists.intro (k + 1) (And.intro ?_ (And.intro ?_ ?_)))
    · exact ⟨rfl, rfl, rfl, trivial⟩
    · exact ⟨by omega, rfl, by rw [take_snoc a.list k hlt, take_snoc b.list k hltm, ht1, he]⟩
    · omega
  have hk1 : k = a.list.length := by omega
  have e4 : a.list = b.list := by
    rw [hk1, List.take_length, l4, List.take_length] at ht1
    exact ht1
  clear hlt hk1 ht1 hk
  refine loop_intro (fun k : Nat => [(2, .pointer (some ⟨b1, 0, none⟩)), (3, .pointer (some ⟨b2, 0, none⟩)), (7, .int .i64 k)]) (fun k h' => k ≤ a.ranks.length ∧ h' = h2 ∧ a.ranks.take k = b.ranks.take k) (fun k => a.ranks.length - k) 0 ⟨rfl, rfl, rfl, trivial⟩ ⟨Nat.zero_le _, rfl, rfl⟩ ?_
  rintro k h3 ⟨hk, h32, ht2⟩
  have h32 := h32.symm
  subst h32
  refine Exists.intro _ (And.intro (cell_blk B1 rfl) ?_)
  refine And.intro rfl (And.intro (fun hlt => ?_) (fun hlt => ?_))
  · have hlt : k < a.ranks.length := by omega
    have hltm : k < b.ranks.length := by omega
    obtain ⟨b3, o, rfl⟩ := hr.addr (by omega)
    obtain ⟨b4, o', rfl⟩ := hs.addr (by omega)
    have hcs := hr.cells encR_len (i := k) (x := a.ranks[k]) (by simp [hlt])
    have hds := hs.cells encR_len (i := k) (x := b.ranks[k]) (by simp [hltm])
    refine Exists.intro _ (And.intro (cell_blk B1 rfl) ?_)
    refine And.intro (by omega) (And.intro (by omega) (Exists.intro (encR a.ranks[k]) (And.intro rfl (And.intro hcs ?_))))
    refine Exists.intro _ (And.intro (cell_blk B2 rfl) ?_)
    refine And.intro (by omega) (And.intro (by omega) (Exists.intro (encR b.ranks[k]) (And.intro rfl (And.intro hds ?_))))
    refine And.intro rfl (And.intro rfl (And.intro (fun he => ?_) (fun hd => ?_)))
    rotate_left
    · exact bad (by rintro rfl; exact hd rfl)
    have he : a.ranks[k] = b.ranks[k] := encR_inj he
    refine And.intro rfl (fun z hz => ?_)
    have hz := add_in hz (by omega) (by omega)
    subst hz
    refine And.intro rfl (Exists.intro (k + 1) (And.intro ?_ (And.intro ?_ ?_)))
    · exact ⟨rfl, rfl, rfl, trivial⟩
    · exact ⟨by omega, rfl, by rw [take_snoc a.ranks k hlt, take_snoc b.ranks k hltm, ht2, he]⟩
    · omega
  have hk2 : k = a.ranks.length := by omega
  have e5 : a.ranks = b.ranks := by
    rw [hk2, List.take_length, l5, List.take_length] at ht2
    exact ht2
  clear hlt hk2 ht2 hk
  exact And.intro (by rw [decide_eq_true (thing_eq (Decidable.not_not.1 n1) (Decidable.not_not.1 n2) e3 e4 e5 e6 (Decidable.not_not.1 n7))]; rfl) hc

end Go.Proofs.YtaffnlibmkcgiaaGreat
