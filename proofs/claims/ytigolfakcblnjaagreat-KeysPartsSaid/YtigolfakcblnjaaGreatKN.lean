/-
  Layer 7: known.
-/
import Derived.Test.YtigolfakcblnjaaGreatKM
namespace Go.Proofs.YtigolfakcblnjaaGreat
open Go Go.Sx Go.Proofs.YtigolfakcblnjaaGreat.C

theorem eff_one {nm tx : ByteArray} : ∀ u ∈ effV nm tx, u.oneCell' = true := by
  intro u hu
  simp only [effV, List.mem_cons, List.not_mem_nil, or_false] at hu
  rcases hu with rfl | rfl | rfl | rfl | rfl <;> rfl

theorem SL.any_nil {α : Type} {en : α → List Value} {h h' : Heap} {v : Value} (hs : SL en h v []) : SL en h' v [] := by
  obtain ⟨a, c, rfl, h1, h2⟩ := hs
  refine ⟨a, c, rfl, h1, ?_⟩
  cases a with
  | none => exact h2
  | some a =>
    obtain ⟨b, o, sp⟩ := a
    cases sp with
    | some q => exact h2
    | none => intro i v hv; simp at hv

theorem text_any {h h' : Heap} {us : List Value} {tx : ByteArray} (x : TH h us (textT tx)) : TH h' us (textT tx) := by
  obtain ⟨pv, lv, rv, rfl, h2, h3, h4⟩ := x
  exact ⟨pv, lv, rv, rfl, SL.any_nil h2, SL.any_nil h3, SL.any_nil h4⟩

theorem seven {ws vs : List Value} (hw : ws.length = 7) (hv : vs.length = 7) : splice ws 0 vs = vs := by
  match ws, hw, vs, hv with
  | [_, _, _, _, _, _, _], _, [_, _, _, _, _, _, _], _ => rfl

theorem rule2 : mfind (.int .i64 2) (entsI ruleL 0) 0 = some (1, ruleV false true false 0 true 50) :=
  mfind_hit 2 _ [(1, ruleV false false false 0 false 49)] _ 0 0 (by decide)

theorem one_calls {h : Heap} {kb sb mb c : Nat} {nm tx : ByteArray} (ks : Kept h kb sb mb c) (hn : nm.size ≤ 1048576) (ht : tx.size ≤ 1048576) :
    CallsH Tryz.prog 17 [ptr kb, .agg ⟨effV nm tx⟩] h (Ret fun r h' => r = .int .i64 0 ∧ TextPut kb sb mb c nm tx h h') := by
  refine f17_calls (by simp) ?_
  intro b3 h1 g1
  have B3 : Blk h1 b3 (effV nm tx) := g1.blk
  refine Exists.intro _ (And.intro (cell_blk B3 rfl) ?_)
  refine And.intro ?_ ?_
  · refine callq_ret rules_calls ?_
    rintro _ h2 ⟨rb, rfl, mr, hrb, hc2⟩
    refine And.intro hc2.ext ?_
    refine And.intro rfl (Exists.intro (entsI ruleL 0) (Exists.intro 15 (And.intro mr (And.intro (entsI_fits _ _) ?_))))
    rw [rule2]
    intro b5 h3 g3
    refine Exists.intro _ (And.intro g3.blk (And.intro (by decide) (And.intro rfl (And.intro (by decide) ?_))))
    intro h4 p4
    have g4 := g3.put p4
    have hc14 := hc2.nil g4.chg
    exact cut_at [(0, ptr kb), (3, ptr b3), (5, ptr b5), (6, .bool true)] ⟨rfl, rfl, rfl, rfl, trivial⟩ (one_rest (g1.chg.nil hc14) ks (B3.chg hc14 (by simp)) p4.blk hn ht)
  · intro b5 h2 g2
    refine callq_ret rules_calls ?_
    rintro _ h3 ⟨rb, rfl, mr, hrb, hc3⟩
    refine And.intro hc3.ext ?_
    refine And.intro rfl (Exists.intro (entsI ruleL 0) (Exists.intro 15 (And.intro mr (And.intro (entsI_fits _ _) ?_))))
    rw [rule2]
    have B5 : Blk h3 b5 [.bool false, .bool false, .bool false, .int .i64 0, .bool false, .nilFunc] := (show Blk h2 b5 _ from g2.blk).chg hc3 (by simp)
    refine Exists.intro _ (And.intro B5 (And.intro (by decide) (And.intro rfl (And.intro (by decide) ?_))))
    intro h4 p4
    have hc13 := g2.chg.nil hc3
    have i5 := g2.id
    have l3 := B3.lt
    have z1 := g1.size
    have hc14 : Chg [] h h4 := (g1.chg.nil hc13).fresh p4.chg (by simp; omega)
    exact cut_at [(0, ptr kb), (3, ptr b3), (5, ptr b5), (6, .bool true)] ⟨rfl, rfl, rfl, rfl, trivial⟩ (one_rest hc14 ks ((B3.chg hc13 (by simp)).chg p4.chg (by simp; omega)) p4.blk hn ht)

theorem Apply_calls {h : Heap} {kb sb mb c b : Nat} {nm tx : ByteArray} (ks : Kept h kb sb mb c) (B : Blk h b (effV nm tx)) (hb : b ≠ mb) (hn : nm.size ≤ 1048576) (ht : tx.size ≤ 1048576) :
    CallsH Tryz.prog 8 [ptr kb, .slice (some ⟨b, 0, none⟩) 1 1] h (Ret fun r h' => r = .tuple #[.int .i64 1, .int .i64 0] ∧ TextPut kb sb mb c nm tx h h') := by
  refine f8_calls (by simp) ?_
  refine call_ret (none_calls ks.ks) ?_
  rintro _ h9 ⟨rfl, e9⟩
  have e9 := e9.symm
  subst e9
  refine loop_intro (fun k : Nat => [(0, ptr kb), (6, .int .i64 k), (7, .int .i64 0), (12, .slice (some ⟨b, 0, none⟩) 1 1), (13, .int .i64 1), (14, .int .i64 k)]) (fun k h' => (k = 0 ∧ h' = h) ∨ (k = 1 ∧ TextPut kb sb mb c nm tx h h')) (fun k => 1 - k) 0
    ⟨rfl, rfl, rfl, rfl, rfl, rfl, trivial⟩ (.inl ⟨rfl, rfl⟩) ?_
  rintro k h1 hI
  refine And.intro rfl (And.intro (fun hlt => ?_) (fun hlt => ?_))
  · rcases hI with ⟨hk, e1⟩ | ⟨hk, _⟩
    rotate_left
    · omega
    have e1 := e1.symm
    subst e1 hk
    refine And.intro (by decide) (And.intro (by decide) (Exists.intro (effV nm tx) (And.intro rfl (And.intro (cells_blk B) ?_))))
    intro b9 h2 g2
    refine Exists.intro _ (And.intro g2.blk (And.intro (by decide) (And.intro rfl (And.intro eff_one ?_))))
    intro h3 p3
    have g3 := g2.put p3
    have B9 : Blk h3 b9 (effV nm tx) := p3.blk
    refine Exists.intro (effV nm tx) (And.intro rfl (And.intro (cells_blk B9) ?_))
    refine call_ret (one_calls (ks.ext g3.chg) hn ht) ?_
    rintro _ h4 ⟨rfl, tb, hm, ht', htb, hks, hch⟩
    refine And.intro rfl (And.intro (fun e => absurd rfl e) (fun _ => ?_))
    refine And.intro rfl (fun z hz => ?_)
    have hz := add_in hz (by decide) (by decide)
    subst hz
    refine And.intro rfl (fun y hy => ?_)
    have hy := add_in hy (by decide) (by decide)
    subst hy
    refine And.intro rfl (Exists.intro 1 (And.intro ?_ (And.intro ?_ ?_)))
    · exact ⟨rfl, rfl, rfl, rfl, rfl, rfl, trivial⟩
    · refine .inr ⟨rfl, tb, hm, ht', by have := g3.size; omega, hks, (g3.chg.mono (by simp)).trans hch (fun _ h => h) (fun _ h _ => h)⟩
    · decide
  · rcases hI with ⟨hk, _⟩ | ⟨hk, hp⟩
    · subst hk; exact absurd (by decide) hlt
    · subst hk
      exact And.intro rfl hp

theorem Get_calls {h : Heap} {kb sb mb c tb : Nat} {nm tx : ByteArray} (ks : KS h kb sb mb) (hm : MapB h mb [{ key := .string nm, val := ptr tb, born := c }] (c + 1)) (B : Blk h tb (textV tx)) (now : Int) :
    CallsH Tryz.prog 12 [ptr kb, .string nm, .int .i64 now] h (Ret fun r h' => (∃ us, r = .tuple #[.agg ⟨us⟩, .bool true] ∧ TH h' us (textT tx)) ∧ Chg [] h h') := by
  refine f12_calls (by simp) ?_
  intro b6 h1 g1
  have hc1 := g1.chg
  have hmf : mfind (.string nm) [{ key := .string nm, val := ptr tb, born := c }] 0 = some (0, ptr tb) := by
    simp only [mfind]
    rw [if_pos (sameBits_refl (k := .str) rfl)]
  refine call_ret (Look_some (ks.chg hc1 (by simp) (by simp)) (hm.chg hc1 (by simp)) (by intro e he; simp at he; rw [he]; rfl) hmf (B.chg hc1 (by simp)) (text_TH (tx := tx)) ⟨by show (0 : Nat) ≤ 70000; decide, by show (0 : Nat) ≤ 70000; decide, by show (0 : Nat) ≤ 70000; decide⟩) ?_
  rintro _ h2 ⟨⟨us, rfl, x2⟩, hc2⟩
  intro b8 h3 g3
  have xa : ∀ h', TH h' us (textT tx) := fun h' => text_any x2
  have ul := x2.len
  refine Exists.intro zeroV (And.intro g3.blk (And.intro (by decide) (And.intro ul (And.intro (thing_one x2) ?_))))
  intro h4 p4
  have g4 : Grow h2 h4 b8 us := by
    have h8 : Grow h2 h4 b8 (splice zeroV 0 us) := g3.put p4
    rw [seven rfl ul] at h8
    exact h8
  have B8 : Blk h4 b8 us := g4.blk
  refine Exists.intro us (And.intro ul (And.intro (cells_blk B8) ?_))
  refine call_ret (gone_calls (xa h4) now) ?_
  rintro r5 h5 ⟨hr5, hc5⟩
  have hr5 : r5 = .bool false := hr5
  subst hr5
  have B85 := B8.chg hc5 (by simp)
  have B6 : Blk h1 b6 zeroV := g1.blk
  have B65 : Blk h5 b6 zeroV := ((B6.chg hc2 (by simp)).chg g4.chg (by simp)).chg hc5 (by simp)
  refine Exists.intro us (And.intro ul (And.intro (cells_blk B85) ?_))
  refine Exists.intro zeroV (And.intro B65 (And.intro (by decide) (And.intro ul (And.intro (thing_one x2) ?_))))
  intro h6 p6
  have B66 : Blk h6 b6 us := by
    have h8 : Blk h6 b6 (splice zeroV 0 us) := p6.blk
    rw [seven rfl ul] at h8
    exact h8
  have i6 := g1.id
  refine Exists.intro us (And.intro ul (And.intro (cells_blk B66) ?_))
  exact And.intro (Exists.intro us (And.intro rfl (xa h6))) ((((hc1.nil hc2).nil g4.chg).nil hc5).fresh p6.chg (by simp; omega))

theorem known_calls {h : Heap} : CallsH Tryz.prog 5 [] h (Ret fun r h' => r = .bool true ∧ Chg [] h h') := by
  refine f5_calls (by simp) ?_
  refine call_ret New_calls ?_
  rintro _ h1 ⟨kb, sb, mb, rfl, ks, hm, em, es, ek, hc1⟩
  have z1 : h.size + 3 ≤ h1.size := by
    have := ks.k.lt; omega
  intro b2 h2 g2
  have kept : Kept h1 kb sb mb 0 := ⟨ks, hm, by omega, by omega, by omega, by omega, by omega⟩
  have B2 : Blk h2 b2 (effV ⟨#[97]⟩ ⟨#[120]⟩) := g2.blk
  have i2 := g2.id
  refine call_ret (Apply_calls (kept.ext g2.chg) B2 (by omega) (by decide) (by decide)) ?_
  rintro _ h3 ⟨rfl, tb, hm3, B3, htb, ks3, hc3⟩
  refine call_ret (Get_calls ks3 hm3 B3 5) ?_
  rintro _ h4 ⟨⟨us, rfl, x4⟩, hc4⟩
  intro b5 h5 g5
  have ul := x4.len
  refine Exists.intro zeroV (And.intro g5.blk (And.intro (by decide) (And.intro ul (And.intro (thing_one x4) ?_))))
  intro h6 p6
  have g6 : Grow h4 h6 b5 us := by
    have h8 : Grow h4 h6 b5 (splice zeroV 0 us) := g5.put p6
    rw [seven rfl ul] at h8
    exact h8
  have B6 : Blk h6 b5 us := g6.blk
  obtain ⟨pv, lv, rv, rfl, _⟩ := x4
  have hcAll : Chg [] h h6 := by
    have c12 := hc1.nil g2.chg
    exact ((c12.fresh hc3 (by simp; omega)).nil hc4).nil g6.chg
  refine And.intro rfl (And.intro (fun _ => ?_) (fun hne => absurd rfl hne))
  refine And.intro rfl (And.intro (fun _ => ?_) (fun hne => absurd rfl hne))
  refine Exists.intro _ (And.intro (cell_blk B6 rfl) ?_)
  refine And.intro rfl (And.intro (fun _ => ?_) (fun hne => absurd rfl hne))
  refine Exists.intro _ (And.intro (cell_blk B6 rfl) ?_)
  refine And.intro (fun _ => ?_) (fun hne => absurd rfl hne)
  exact And.intro rfl hcAll

end Go.Proofs.YtigolfakcblnjaaGreat
