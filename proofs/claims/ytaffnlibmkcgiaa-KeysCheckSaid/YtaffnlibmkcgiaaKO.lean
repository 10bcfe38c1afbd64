/-
  KeysCheck.
-/
import Derived.Test.YtaffnlibmkcgiaaKN
namespace Go.Proofs.Ytaffnlibmkcgiaa
open Go Go.Sx Go.Proofs.Ytaffnlibmkcgiaa.C

theorem KeysCheck_calls {h : Heap} {vs us : List Value} {a b : Thing} (xa : TH h vs a) (xb : TH h us b) (fa : Fits a) (fb : Fits b) (sa : Sized a) (sb : Sized b) :
    CallsH Try.prog 3 [.agg ⟨vs⟩, .agg ⟨us⟩] h (Ret fun r h' => r = .bool true ∧ Chg [] h h') := by
  refine f3_calls (by simp) ?_
  intro b2 h1 g1
  intro b3 h2 g2
  have B2 : Blk h2 b2 vs := (show Blk h1 b2 vs from g1.blk).chg g2.chg (by simp)
  have B3 : Blk h2 b3 us := g2.blk
  have hc := g1.chg.nil g2.chg
  have xa2 := xa.ext hc
  have xb2 := xb.ext hc
  refine Exists.intro vs (And.intro xa.len (And.intro (cells_blk B2) ?_))
  refine call_ret (large_calls xa2 fa sa) ?_
  rintro _ h3 ⟨⟨la, rfl, hla⟩, hc3⟩
  have hc03 := hc.nil hc3
  cases la with
  | true =>
    refine call_ret known_calls ?_
    rintro _ h4 ⟨rfl, hc4⟩
    exact And.intro rfl (hc03.nil hc4)
  | false =>
  have ma := hla rfl
  refine Exists.intro us (And.intro xb.len (And.intro (cells_blk (B3.chg hc3 (by simp))) ?_))
  refine call_ret (large_calls (xb2.ext hc3) fb sb) ?_
  rintro _ h4 ⟨⟨lb, rfl, hlb⟩, hc4⟩
  have hc04 := hc03.nil hc4
  cases lb with
  | true =>
    refine call_ret known_calls ?_
    rintro _ h5 ⟨rfl, hc5⟩
    exact And.intro rfl (hc04.nil hc5)
  | false =>
  have mb := hlb rfl
  have hc24 := hc3.nil hc4
  have B24 := B2.chg hc24 (by simp)
  have xa4 := xa2.ext hc24
  have xb4 := xb2.ext hc24
  have B34 := B3.chg hc24 (by simp)
  refine Exists.intro vs (And.intro xa.len (And.intro (cells_blk B24) (Exists.intro vs (And.intro xa.len (And.intro (cells_blk B24) ?_)))))
  refine callq_ret (KCheck_calls xa4 ma) ?_
  rintro _ h5 ⟨rfl, hc5⟩
  refine And.intro hc5.ext ?_
  refine callq_ret (RCheck_calls (xa4.ext hc5) ma) ?_
  rintro _ h6 ⟨rfl, hc6⟩
  refine And.intro hc6.ext ?_
  refine And.intro (fun _ => ?_) (fun hne => absurd rfl hne)
  have hc46 := hc5.nil hc6
  have B26 := B24.chg hc46 (by simp)
  have B36 := B34.chg hc46 (by simp)
  have xa6 := xa4.ext hc46
  have xb6 := xb4.ext hc46
  refine Exists.intro vs (And.intro xa.len (And.intro (cells_blk B26) (Exists.intro us (And.intro xb.len (And.intro (cells_blk B36) ?_)))))
  refine Exists.intro vs (And.intro xa.len (And.intro (cells_blk B26) (Exists.intro us (And.intro xb.len (And.intro (cells_blk B36) ?_)))))
  refine callq_ret (KSame_calls xa6 xb6 fa fb) ?_
  rintro _ h7 ⟨rfl, hc7⟩
  refine And.intro hc7.ext ?_
  refine callq_ret (RSame_calls (xa6.ext hc7) (xb6.ext hc7) fa fb) ?_
  rintro _ h8 ⟨rfl, hc8⟩
  refine And.intro hc8.ext ?_
  refine And.intro (fun _ => ?_) (fun hne => absurd rfl hne)
  have hc68 := hc7.nil hc8
  have B28 := B26.chg hc68 (by simp)
  have xa8 := xa6.ext hc68
  refine Exists.intro vs (And.intro xa.len (And.intro (cells_blk B28) (Exists.intro vs (And.intro xa.len (And.intro (cells_blk B28) ?_)))))
  refine callq_ret (KSame_calls xa8 xa8 fa fa) ?_
  rintro r9 h9 ⟨hr9, hc9⟩
  rw [decide_eq_true rfl] at hr9
  subst hr9
  refine And.intro hc9.ext ?_
  refine callq_ret known_calls ?_
  rintro _ h10 ⟨rfl, hc10⟩
  refine And.intro hc10.ext ?_
  exact And.intro rfl ((((hc04.nil hc46).nil hc68).nil hc9).nil hc10)

end Go.Proofs.Ytaffnlibmkcgiaa
