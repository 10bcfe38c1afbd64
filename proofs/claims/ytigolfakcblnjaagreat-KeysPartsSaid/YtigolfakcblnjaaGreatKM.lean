/-
  Layer 7: what stands under a key.
-/
import Derived.Test.YtigolfakcblnjaaGreatKL
namespace Go.Proofs.YtigolfakcblnjaaGreat
open Go Go.Sx Go.Proofs.YtigolfakcblnjaaGreat.C

theorem Look_none {h : Heap} {kb sb mb c : Nat} {es : List MapEntry} {key : ByteArray} (ks : KS h kb sb mb) (hm : MapB h mb es c) (hf : ∀ e ∈ es, fits .str e.key = true) (hn : mfind (.string key) es 0 = none) :
    CallsH Tryz.prog 21 [ptr kb, .string key] h (Ret fun r h' => r = .tuple #[.agg ⟨zeroV⟩, .bool false] ∧ Chg [] h h') := by
  refine f21_calls (by simp) ?_
  intro b4 h1 g1
  have hc := g1.chg
  have ks1 := ks.chg hc (by simp) (by simp)
  have hm1 : MapB h1 mb es c := hm.chg hc (by simp)
  refine call_ret (none_calls ks1) ?_
  rintro _ h9 ⟨rfl, e9⟩
  have e9 := e9.symm
  subst e9
  refine Exists.intro _ (And.intro (cell_blk ks1.k rfl) (Exists.intro _ (And.intro (cell_blk ks1.s rfl) ?_)))
  refine And.intro rfl (Exists.intro es (Exists.intro c (And.intro hm1 (And.intro hf ?_))))
  rw [hn]
  refine Exists.intro _ (And.intro g1.blk (And.intro (by decide) (And.intro rfl (And.intro (thing_one (t := zeroT) (h := h1) zero_TH) ?_))))
  intro h2 p2
  have g2 := g1.put p2
  have B2 : Blk h2 b4 zeroV := p2.blk
  refine Exists.intro zeroV (And.intro rfl (And.intro (cells_blk B2) ?_))
  exact And.intro rfl g2.chg

theorem Look_some {h : Heap} {kb sb mb c i tb : Nat} {es : List MapEntry} {key : ByteArray} {vs : List Value} {t : Thing} (ks : KS h kb sb mb) (hm : MapB h mb es c) (hf : ∀ e ∈ es, fits .str e.key = true)
    (hn : mfind (.string key) es 0 = some (i, ptr tb)) (B : Blk h tb vs) (x : TH h vs t) (n : Lens t) :
    CallsH Tryz.prog 21 [ptr kb, .string key] h (Ret fun r h' => (∃ us, r = .tuple #[.agg ⟨us⟩, .bool true] ∧ TH h' us t) ∧ Chg [] h h') := by
  refine f21_calls (by simp) ?_
  intro b4 h1 g1
  have hc := g1.chg
  have ks1 := ks.chg hc (by simp) (by simp)
  have hm1 : MapB h1 mb es c := hm.chg hc (by simp)
  refine call_ret (none_calls ks1) ?_
  rintro _ h9 ⟨rfl, e9⟩
  have e9 := e9.symm
  subst e9
  refine Exists.intro _ (And.intro (cell_blk ks1.k rfl) (Exists.intro _ (And.intro (cell_blk ks1.s rfl) ?_)))
  refine And.intro rfl (Exists.intro es (Exists.intro c (And.intro hm1 (And.intro hf ?_))))
  rw [hn]
  refine Exists.intro _ (And.intro (cell_blk ks1.k rfl) (Exists.intro _ (And.intro (cell_blk ks1.s rfl) ?_)))
  refine And.intro rfl (Exists.intro es (Exists.intro c (And.intro hm1 (And.intro hf ?_))))
  rw [hn]
  have B1 := B.chg hc (by simp)
  have x1 := x.ext hc
  refine Exists.intro vs (And.intro x1.len (And.intro (cells_blk B1) ?_))
  refine call_ret (copied_calls x1 n) ?_
  rintro _ h2 ⟨⟨us, rfl, x2, hus⟩, hc2⟩
  have Bz : Blk h2 b4 zeroV := (show Blk h1 b4 zeroV from g1.blk).chg hc2 (by simp)
  refine Exists.intro _ (And.intro Bz (And.intro (by decide) (And.intro x2.len (And.intro (thing_one x2) ?_))))
  intro h3 p3
  have i4 := g1.id
  have z4 := g1.size
  have e3 : splice zeroV 0 us = us := by
    obtain ⟨pv, lv, rv, rfl, _⟩ := x2
    rfl
  have B3 : Blk h3 b4 us := by
    have h8 : Blk h3 b4 (splice zeroV 0 us) := p3.blk
    rw [e3] at h8
    exact h8
  have x3 : TH h3 us t := x2.chg p3.chg (fun v hv b hb => by have := hus v hv b hb; simp; omega)
  refine Exists.intro us (And.intro x2.len (And.intro (cells_blk B3) ?_))
  exact And.intro (Exists.intro us (And.intro rfl x3)) ((hc.nil hc2).fresh p3.chg (by simp; omega))

/-! ### A text is put -/
def effV (nm tx : ByteArray) : List Value := [.int .i64 2, .string nm, .string noText, .string tx, .int .i64 0]
def textT (tx : ByteArray) : Thing := ⟨1, tx, [], [], [], false, 0⟩
def textV (tx : ByteArray) : List Value := [.int .i64 1, .string tx, .slice none 0 0, .slice none 0 0, .slice none 0 0, .bool false, .int .i64 0]
theorem text_TH {h : Heap} {tx : ByteArray} : TH h (textV tx) (textT tx) := ⟨_, _, _, rfl, SL.nil, SL.nil, SL.nil⟩

theorem rul2_calls {h : Heap} {tb : Nat} {ws : List Value} (nm tx : ByteArray) (B : Blk h tb ws) (hw : ws.length = 7) :
    CallsH Tryz.prog 50 [ptr tb, .agg ⟨effV nm tx⟩] h (Ret fun r h' => r = .int .i64 0 ∧ Blk h' tb (textV tx) ∧ Chg [tb] h h') := by
  refine f50_calls (by simp) ?_
  intro b3 h1 g1
  have B3 : Blk h1 b3 (effV nm tx) := g1.blk
  have B1 := B.chg g1.chg (by simp)
  refine Exists.intro _ (And.intro (cell_blk B3 rfl) ?_)
  refine Exists.intro _ (And.intro B1 (And.intro (by omega) (And.intro rfl (And.intro (thing_one (t := textT tx) (h := h1) text_TH) ?_))))
  intro h2 p2
  have e : splice ws 0 (textV tx) = textV tx := by
    match ws, hw with
    | [_, _, _, _, _, _, _], _ => rfl
  have B2 : Blk h2 tb (textV tx) := by
    have := p2.blk
    have e' : splice ws 0 [.int .i64 1, .string tx, .slice none 0 0, .slice none 0 0, .slice none 0 0, .bool false, .int .i64 0] = textV tx := e
    rw [← e]
    exact this
  exact And.intro rfl (And.intro B2 ((g1.chg.mono (by simp)).trans p2.chg (fun _ h => h) (fun _ h _ => h)))

structure Kept (h : Heap) (kb sb mb c : Nat) : Prop where
  ks : KS h kb sb mb
  m : MapB h mb [] c
  kl : kb < h.size
  sl : sb < h.size
  ml : mb < h.size
  ne1 : kb ≠ mb
  ne2 : sb ≠ mb

theorem Kept.ext {h h' : Heap} {kb sb mb c : Nat} (x : Kept h kb sb mb c) (hc : Chg [] h h') : Kept h' kb sb mb c :=
  ⟨x.ks.chg hc (by simp) (by simp), x.m.chg hc (by simp), by have := x.kl; have := hc.size; omega, by have := x.sl; have := hc.size; omega, by have := x.ml; have := hc.size; omega, x.ne1, x.ne2⟩

/-- What is so when a text has been put. -/
def TextPut (kb sb mb c : Nat) (nm tx : ByteArray) (h h' : Heap) : Prop :=
  ∃ tb, MapB h' mb [{ key := .string nm, val := ptr tb, born := c }] (c + 1) ∧ Blk h' tb (textV tx) ∧ h.size ≤ tb ∧ KS h' kb sb mb ∧ Chg [mb] h h'

theorem one_rest {h0 h : Heap} {kb sb mb c b3 b5 : Nat} {nm tx : ByteArray} (hc : Chg [] h0 h) (ks : Kept h0 kb sb mb c) (B3 : Blk h b3 (effV nm tx)) (B5 : Blk h b5 [.bool false, .bool true, .bool false, .int .i64 0, .bool true, .func (.func 50) #[] #[]])
    (hn : nm.size ≤ 1048576) (ht : tx.size ≤ 1048576) :
    swp Tryz.prog (.seq (.seq (.ops f17r2) (.cond (.tmp 48) (.seq (.ops f17r3) .ret) .skip)) (.seq (.seq (.ops f17r4) (.cond (.tmp 57) (.seq (.ops f17r5) .ret) .skip)) (.seq (.ops f17r6) (.seq (.block 0 (.seq (.ops f17r7) (.cond (.tmp 65) (.seq (.ops f17r8) .ret) (.seq (.ops f17r9) (.cond (.tmp 73) (.ops f17r10) (.seq (.ops f17r11) (.cond (.tmp 79) (.seq (.ops f17r12) .ret) .skip))))))) (.seq (.seq (.ops f17r13) (.seq (.ops f17r14) (.cond (.tmp 95) (.seq (.ops f17r15) .ret) .skip))) (.seq (.block 1 (.seq (.ops f17r16) (.cond (.tmp 106) (.ops f17r17) (.seq (.ops f17r18) (.cond (.tmp 124) (.seq (.ops f17r19) .ret) (.ops f17r20)))))) (.seq (.ops f17r21) .ret)))))))
      (retQ [.t 4] (Ret fun r h' => r = .int .i64 0 ∧ TextPut kb sb mb c nm tx h0 h')) (mk [(0, ptr kb), (3, ptr b3), (5, ptr b5), (6, .bool true)]) [] h := by
  have ks1 := ks.ext hc
  refine Exists.intro _ (And.intro (cell_blk B5 rfl) (Exists.intro _ (And.intro (cell_blk B3 rfl) ?_)))
  refine And.intro (fun e => absurd rfl e) (fun _ => ?_)
  refine Exists.intro _ (And.intro (cell_blk B5 rfl) (Exists.intro _ (And.intro (cell_blk B5 rfl) (Exists.intro _ (And.intro (cell_blk B3 rfl) ?_)))))
  refine And.intro rfl (And.intro (fun e => absurd rfl e) (fun _ => ?_))
  refine Exists.intro _ (And.intro (cell_blk B3 rfl) (Exists.intro _ (And.intro (cell_blk B3 rfl) (Exists.intro _ (And.intro (cell_blk B3 rfl) ?_)))))
  intro b6 h1 g1
  have s6 : SL encS h1 (.slice (some ⟨b6, 0, none⟩) 3 3) [nm, noText, tx] := ⟨_, _, rfl, Nat.le_refl _, cells_blk g1.blk⟩
  refine call_ret (short_calls s6 (by simp)) ?_
  rintro r2 h9 ⟨hr2, e9⟩
  have e9 := e9.symm
  subst e9
  have hsh : shortL [nm, noText, tx] = true := by rw [shortL_iff]; intro s hs; simp at hs; rcases hs with rfl | rfl | rfl; exact hn; decide; exact ht
  rw [hsh] at hr2
  subst hr2
  have hc1 := g1.chg
  have B31 := B3.chg hc1 (by simp)
  have B51 := B5.chg hc1 (by simp)
  have ks2 := ks1.ext hc1
  refine Exists.intro _ (And.intro (cell_blk B31 rfl) ?_)
  refine call_ret (Look_none ks2.ks ks2.m (by simp) rfl) ?_
  rintro _ h2 ⟨rfl, hc2⟩
  intro b7 h3 g3
  refine Exists.intro _ (And.intro g3.blk (And.intro (by decide) (And.intro rfl (And.intro (thing_one (t := zeroT) (h := h3) zero_TH) ?_))))
  intro h4 p4
  have g4 := g3.put p4
  have hc14 := hc2.nil g4.chg
  have B34 := B31.chg hc14 (by simp)
  have B54 := B51.chg hc14 (by simp)
  have B74 : Blk h4 b7 zeroV := p4.blk
  have ks4 := ks2.ext hc14
  refine Exists.intro _ (And.intro (cell_blk B54 rfl) ?_)
  refine Exists.intro _ (And.intro (cell_blk B54 rfl) ?_)
  refine Exists.intro _ (And.intro B74 (And.intro (by decide) (And.intro rfl (And.intro (ones1 rfl) ?_))))
  intro h5 p5
  have i7 := g4.id
  have z7 := g4.size
  have z14 := hc14.size
  have z2 := hc2.size
  have z1 := g1.size
  have zc := hc.size
  have l3 := B3.lt
  have l5 := B5.lt
  have c45 := p5.chg
  have B75 : Blk h5 b7 zeroV := p5.blk
  have B35 := B34.chg c45 (by simp; omega)
  have B55 := B54.chg c45 (by simp; omega)
  refine Exists.intro _ (And.intro (cell_blk B55 rfl) ?_)
  refine Exists.intro (effV nm tx) (And.intro rfl (And.intro (cells_blk B35) ?_))
  refine call_ret (rul2_calls nm tx B75 rfl) ?_
  rintro _ h6 ⟨rfl, B76, c56⟩
  refine And.intro rfl (And.intro (fun e => absurd rfl e) (fun _ => ?_))
  have c46 : Chg [b7] h4 h6 := c45.trans c56 (fun _ h => h) (fun _ h _ => h)
  have ks6 : KS h6 kb sb mb := ks4.ks.chg c46 (by have := ks2.kl; simp; omega) (by have := ks2.sl; simp; omega)
  have m6 : MapB h6 mb [] c := ks4.m.chg c46 (by have := ks2.ml; simp; omega)
  have B36 := B34.chg c46 (by simp; omega)
  refine Exists.intro _ (And.intro (cell_blk B76 rfl) ?_)
  refine And.intro rfl (And.intro (fun e => absurd rfl e) (fun _ => ?_))
  refine Exists.intro (textV tx) (And.intro rfl (And.intro (cells_blk B76) ?_))
  refine call_ret (count_calls (text_TH (tx := tx)) ⟨by show (0 : Nat) ≤ 70000; decide, by show (0 : Nat) ≤ 70000; decide, by show (0 : Nat) ≤ 70000; decide⟩) ?_
  rintro _ h7 ⟨rfl, hc7⟩
  refine And.intro rfl (And.intro (fun e => absurd e (by show ¬ ((0 : Int) > 65536); decide)) (fun _ => ?_))
  have ks7 := ks6.chg hc7 (by simp) (by simp)
  have m7 : MapB h7 mb [] c := m6.chg hc7 (by simp)
  have B37 := B36.chg hc7 (by simp)
  have B77 := B76.chg hc7 (by simp)
  refine Exists.intro _ (And.intro (cell_blk ks7.k rfl) (Exists.intro _ (And.intro (cell_blk ks7.s rfl) ?_)))
  refine Exists.intro [] (Exists.intro c (And.intro m7 ?_))
  refine And.intro rfl (And.intro (fun e => absurd e (by decide)) (fun _ => ?_))
  refine Exists.intro _ (And.intro (cell_blk ks7.k rfl) (Exists.intro _ (And.intro (cell_blk ks7.s rfl) ?_)))
  refine Exists.intro _ (And.intro (cell_blk B37 rfl) ?_)
  refine And.intro rfl (Exists.intro [] (Exists.intro c (And.intro m7 (And.intro (by simp) ?_))))
  intro h8 p8
  have k2 := ks2.ml
  refine And.intro rfl (Exists.intro b7 (And.intro p8.blk (And.intro (B77.chg p8.chg (by simp; omega)) (And.intro (by omega) (And.intro (ks7.chg p8.chg (by have := ks.ne1; simp; omega) (by have := ks.ne2; simp; omega)) ?_)))))
  have c04 : Chg [] h0 h4 := (hc.nil hc1).nil hc14
  have c07 : Chg [] h0 h7 := (c04.fresh c46 (by simp; omega)).nil hc7
  exact (c07.mono (by simp)).trans p8.chg (fun _ h => h) (fun _ h _ => h)

end Go.Proofs.YtigolfakcblnjaaGreat
