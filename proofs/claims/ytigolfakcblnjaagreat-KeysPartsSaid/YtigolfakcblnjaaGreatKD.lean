/-
  Layer 7: things; two the same (printed by gend.py).
-/
import Derived.Test.YtigolfakcblnjaaGreatKC
namespace Go.Proofs.YtigolfakcblnjaaGreat
open Go Go.Sx Go.Proofs.YtigolfakcblnjaaGreat.C

structure Thing where
  kind : Int
  text : ByteArray
  pairs : List Pair
  list : List ByteArray
  ranks : List Rank
  hasU : Bool
  unt : Int
  deriving DecidableEq

theorem thing_eq {a b : Thing} (h1 : a.kind = b.kind) (h2 : a.text = b.text) (h3 : a.pairs = b.pairs) (h4 : a.list = b.list) (h5 : a.ranks = b.ranks) (h6 : a.hasU = b.hasU) (h7 : a.unt = b.unt) : a = b := by
  cases a; cases b; simp_all

/-- A thing's cells. -/
def TH (h : Heap) (vs : List Value) (t : Thing) : Prop :=
  ∃ pv lv rv, vs = [.int .i64 t.kind, .string t.text, pv, lv, rv, .bool t.hasU, .int .i64 t.unt] ∧ SL encP h pv t.pairs ∧ SL encS h lv t.list ∧ SL encR h rv t.ranks

theorem TH.ext {h h' : Heap} {vs : List Value} {t : Thing} (x : TH h vs t) (hc : Chg [] h h') : TH h' vs t := by
  obtain ⟨pv, lv, rv, h1, h2, h3, h4⟩ := x
  exact ⟨pv, lv, rv, h1, h2.ext hc, h3.ext hc, h4.ext hc⟩

theorem TH.len {h : Heap} {vs : List Value} {t : Thing} (x : TH h vs t) : vs.length = 7 := by
  obtain ⟨pv, lv, rv, rfl, _⟩ := x; rfl

/-- Its lists are no longer than may be counted. -/
structure Fits (t : Thing) : Prop where
  p : t.pairs.length < 4611686018427387904
  l : t.list.length < 4611686018427387904
  r : t.ranks.length < 4611686018427387904

theorem KSame_calls {h : Heap} {vs us : List Value} {a b : Thing} (ta : TH h vs a) (tb : TH h us b) (fa : Fits a) (fb : Fits b) :
    CallsH Tryz.prog 20 [.agg ⟨vs⟩, .agg ⟨us⟩] h (Ret fun r h' => r = .bool (decide (a = b)) ∧ Chg [] h h') := by
  refine f20_calls (by simp) ?_
  intro b1 h1 g1
  intro b2 h2 g2
  have B1 : Blk h2 b1 vs := (show Blk h1 b1 vs from g1.blk).chg g2.chg (by simp)
  have B2 : Blk h2 b2 us := g2.blk
  have hc := g1.chg.nil g2.chg
  obtain ⟨pv, lv, rv, rfl, hp, hl, hr⟩ := ta.ext hc
  obtain ⟨qv, mv, sv, rfl, hq, hm, hs⟩ := tb.ext hc
  have bad : a ≠ b → Ret (fun r h' => r = .bool (decide (a = b)) ∧ Chg [] h h') (.returned (retV [Value.bool false])) h2 := fun hne => ⟨by rw [decide_eq_false hne]; rfl, hc⟩
  refine Exists.intro _ (And.intro (cell_blk B1 rfl) (Exists.intro _ (And.intro (cell_blk B2 rfl) ?_)))
  refine And.intro rfl (And.intro (fun e1 => ?_) (fun e1 => ?_))
  rotate_left
  · exact bad (by rintro rfl; exact e1 rfl)
  refine Exists.intro _ (And.intro (cell_blk B1 rfl) (Exists.intro _ (And.intro (cell_blk B2 rfl) ?_)))
  refine And.intro (fun e2 => ?_) (fun e2 => ?_)
  rotate_left
  · exact bad (by rintro rfl; exact e2 rfl)
  refine Exists.intro _ (And.intro (cell_blk B1 rfl) (Exists.intro _ (And.intro (cell_blk B2 rfl) ?_)))
  refine call_ret (eqP_calls hp hq fa.p fb.p) ?_
  rintro r0 _ ⟨hr0, rfl⟩
  by_cases e3 : a.pairs = b.pairs
  rotate_left
  · rw [decide_eq_false e3] at hr0
    subst hr0
    exact bad (by rintro rfl; exact e3 rfl)
  rw [decide_eq_true e3] at hr0
  subst hr0
  refine Exists.intro _ (And.intro (cell_blk B1 rfl) (Exists.intro _ (And.intro (cell_blk B2 rfl) ?_)))
  refine call_ret (eqS_calls hl hm fa.l fb.l) ?_
  rintro r1 _ ⟨hr1, rfl⟩
  by_cases e4 : a.list = b.list
  rotate_left
  · rw [decide_eq_false e4] at hr1
    subst hr1
    exact bad (by rintro rfl; exact e4 rfl)
  rw [decide_eq_true e4] at hr1
  subst hr1
  refine Exists.intro _ (And.intro (cell_blk B1 rfl) (Exists.intro _ (And.intro (cell_blk B2 rfl) ?_)))
  refine call_ret (eqR_calls hr hs fa.r fb.r) ?_
  rintro r2 _ ⟨hr2, rfl⟩
  by_cases e5 : a.ranks = b.ranks
  rotate_left
  · rw [decide_eq_false e5] at hr2
    subst hr2
    exact bad (by rintro rfl; exact e5 rfl)
  rw [decide_eq_true e5] at hr2
  subst hr2
  refine Exists.intro _ (And.intro (cell_blk B1 rfl) (Exists.intro _ (And.intro (cell_blk B2 rfl) ?_)))
  refine And.intro (fun e6 => ?_) (fun e6 => ?_)
  rotate_left
  · exact bad (by rintro rfl; exact e6 rfl)
  refine Exists.intro _ (And.intro (cell_blk B1 rfl) (Exists.intro _ (And.intro (cell_blk B2 rfl) ?_)))
  refine And.intro rfl (And.intro (fun e7 => ?_) (fun e7 => ?_))
  rotate_left
  · exact bad (by rintro rfl; exact e7 rfl)
  exact And.intro (by rw [decide_eq_true (thing_eq e1 e2 e3 e4 e5 e6 e7)]; rfl) hc

end Go.Proofs.YtigolfakcblnjaaGreat
