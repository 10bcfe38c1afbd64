/-
  works.
-/
import Derived.Test.YtlghcmdaijfdlaaDoorLwC
namespace Go.Proofs.YtlghcmdaijfdlaaDoor
open Go Go.Sx Go.Proofs.YtlghcmdaijfdlaaDoor.C

def wB : Rank := ⟨⟨#[98]⟩, 2⟩
def wA : Rank := ⟨⟨#[97]⟩, 2⟩
def wC : Rank := ⟨⟨#[99]⟩, 1⟩
def wD : Rank := ⟨⟨#[99]⟩, 7⟩

theorem w_of : ofGo [] [wB, wA, wC] = some [wC, wA, wB] := by
  simp [ofGo, findR, setErr, setR, dropR, sel, insR, upto, ahead, wA, wB, wC, sless, Op.bytesLess, Go.ByteArray.toList_eq, ByteArray.size]
theorem w_err : ofErr [wB, wA, wC] = 0 := by
  simp [ofErr, w_of]; simp [wA, wB, wC, ByteArray.size]
theorem w_ofR : ofR [wB, wA, wC] = [wC, wA, wB] := by simp [ofR, w_err, w_of]
theorem w_set : setR [wC, wA, wB] wD = [wA, wB, wD] := by
  simp [setR, dropR, sel, insR, upto, ahead, wA, wB, wC, wD, sless, Op.bytesLess, Go.ByteArray.toList_eq]
theorem w_setErr : setErr [wC, wA, wB] wD = false := by
  simp [setErr, wA, wB, wC, wD, ByteArray.size]
theorem w_at : atR (-1) 9 [wA, wB, wD] = [wA, wB, wD] := by simp [atR, sel]
theorem w_drop : dropR ⟨#[97]⟩ [wA, wB, wD] = [wB, wD] := by simp [dropR, sel, wA, wB, wD]
theorem w_drop2 : dropR ⟨#[97]⟩ [wB, wD] = [wB, wD] := by simp [dropR, sel, wB, wD]

theorem SL.of_blk {α : Type} {enc : α → List Value} {h : Heap} {b : Nat} {l : List α} (hb : Blk h b (l.flatMap enc)) : SL enc h (.slice (some ⟨b, 0, none⟩) l.length l.length) l :=
  ⟨_, _, rfl, Nat.le_refl _, cells_blk hb⟩

theorem works_calls {h : Heap} (ht : TabH h) : CallsH Tryd.prog 8 [] h (Ret fun u h' => u = .bool true ∧ Chg [] h h') := by
  refine f8_calls (by simp) ?_
  intro b1 h1 g1
  intro b2 h2 g2
  have hc2 := g1.chg.nil g2.chg
  have s1 : SL encR h2 (.slice (some ⟨b1, 0, none⟩) 3 3) [wB, wA, wC] := (SL.of_blk (show Blk h1 b1 ([wB, wA, wC].flatMap encR) from g1.blk)).ext g2.chg
  have s2 : SL encI h2 (.slice (some ⟨b2, 0, none⟩) 3 3) [3, 0, 9] := SL.of_blk (show Blk h2 b2 (([3, 0, 9] : List Int).flatMap encI) from g2.blk)
  refine call_ret (ofm_calls s1 s2 (by simp) (by simp) (ht.chg hc2 (by simp))) ?_
  rintro _ h3 ⟨hc3, hr⟩
  rw [if_pos w_err, w_ofR] at hr
  obtain ⟨rv, fp, rfl, rs, hfp⟩ := hr
  have hc03 := hc2.nil hc3
  have hfp0 : ∀ b ∈ fp, h.size ≤ b := fun b hb => by have := hfp b hb; have := hc2.size; omega
  refine call_ret (rank_calls rs ⟨#[98]⟩) ?_
  rintro _ h4 ⟨hc4, hr⟩
  rcases hr with ⟨hno, _⟩ | ⟨a, y, b', hSe, hy, rfl⟩
  · exact absurd rfl (hno wB (by simp))
  have hal := (name_at (k := 2) rs.names hSe (by simp) (by rw [hy]; rfl)).1
  rw [hal]
  have hc04 := hc03.nil hc4
  refine call_ret (setm_calls (rs.ext hc4) wD 3) ?_
  rintro _ h5 ⟨hc5, hr⟩
  rw [if_neg (by rw [w_setErr]; simp), w_set] at hr
  have hnew : decide (findR wD.name [wC, wA, wB] 0 < 0) = false := by simp [findR, wD, wC]
  rw [hnew] at hr
  obtain ⟨rfl, fp2, rs2, hfp2⟩ := hr
  have hc05 : Chg [] h h5 := hc04.fresh hc5 hfp0
  have hfp20 : ∀ b ∈ fp2, h.size ≤ b := fun b hb => by
    rcases hfp2 b hb with h | h
    · exact hfp0 b h
    · have := hc04.size; omega
  refine call_ret (atm_calls rs2 (-1) 9) ?_
  rintro r6 h6 ⟨ho6, hc6, _⟩
  rw [w_at] at ho6
  have hc06 := hc05.nil hc6
  refine call_ret (num_calls 0) ?_
  rintro _ h7 ⟨rfl, rfl⟩
  refine call_ret (num_calls 0) ?_
  rintro _ h8 ⟨rfl, rfl⟩
  refine And.intro rfl (fun z hz => ?_)
  have hz := add_in hz (by decide) (by decide)
  refine And.intro rfl (And.intro (fun _ => ?_) (fun hne => absurd hz hne))
  refine And.intro rfl (And.intro (fun _ => ?_) (fun hne => absurd rfl hne))
  obtain ⟨a6, c6, rfl, hac⟩ := ho6.sl.form
  refine And.intro rfl (And.intro (fun _ => ?_) (fun hne => absurd rfl hne))
  obtain ⟨b, o, rfl⟩ := ho6.sl.addr (by simp)
  refine And.intro (by decide) (And.intro (by decide) (Exists.intro (encR wD) (And.intro rfl (And.intro (ho6.sl.cells encR_len (i := 2) (x := wD) (by simp)) ?_))))
  refine And.intro rfl (And.intro rfl (And.intro (fun _ => ?_) (fun hne => absurd rfl hne)))
  refine call_ret (dropm_calls (rs2.ext hc6) ⟨#[97]⟩) ?_
  have hd1 : decide (0 ≤ findR ⟨#[97]⟩ [wA, wB, wD] 0) = true := by simp [findR, wA]
  rw [hd1]
  rintro _ h9 ⟨rfl, hc9, fp3, rs3, hfp3⟩
  rw [w_drop] at rs3
  have hc09 : Chg [] h h9 := hc06.fresh hc9 hfp20
  have hfp30 : ∀ b ∈ fp3, h.size ≤ b := fun b hb => hfp20 b (hfp3 b hb)
  refine call_ret (dropm_calls rs3 ⟨#[97]⟩) ?_
  have hd2 : decide (0 ≤ findR ⟨#[97]⟩ [wB, wD] 0) = false := by simp [findR, wB, wD]
  rw [hd2]
  rintro _ h10 ⟨rfl, hc10, fp4, rs4, hfp4⟩
  rw [w_drop2] at rs4
  have hc010 : Chg [] h h10 := hc09.fresh hc10 hfp30
  refine call_ret (len_calls rs4) ?_
  rintro _ h11 ⟨rfl, rfl⟩
  refine And.intro rfl (And.intro (fun _ => ?_) (fun hne => absurd rfl hne))
  exact And.intro rfl hc010

end Go.Proofs.YtlghcmdaijfdlaaDoor
