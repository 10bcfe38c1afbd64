/-
  Layer 17: MeaningNil's contract.
-/
import Derived.Test.YtomcocbcajidcaaGreatDoorMNB
import Derived.Test.YtomcocbcajidcaaGreatDoorMNR
namespace Go.Proofs.YtomcocbcajidcaaGreatDoor
open Go Go.Sx Go.Proofs.YtomcocbcajidcaaGreatDoor.C

theorem zero6 {l : List Value} (h : l.length = 6) : splice [.int .i64 0, .string ⟨#[]⟩, .string ⟨#[]⟩, .int .i64 0, .slice none 0 0, .slice none 0 0] 0 l = l := by
  match l, h with
  | [_, _, _, _, _, _], _ => rfl

theorem text_calls {h : Heap} {k : Value} {w : List Value} (hk : NilK h k) (hw : w.length = 6) (hl : LaidS h) : CallsH Tryz.prog 8 [k, .string return1, .agg ⟨w⟩] h (Ret fun r h' => r = nothing ∧ Chg [] h h') := by
  refine f8_calls (by simp) ?_
  intro b1 h1 g1 b2 h2 g2
  have ch2 := g1.chg.nil g2.chg
  refine call_ret (parse_ret (hl.ext ch2)) ?_
  rintro _ h3 ⟨⟨l, p, rfl, hl6, l1⟩, hc3⟩
  have ch3 := ch2.nil hc3
  intro b4 h4 g4
  refine Exists.intro _ (And.intro g4.blk (And.intro (Nat.le_refl _) (And.intro hl6 (And.intro l1 fun h5 p5 => ?_))))
  have G5 : Grow h3 h5 b4 l := by
    have := g4.put p5
    simpa [zero6 hl6, Value.cells] using this
  have ch5 := ch3.nil G5.chg
  refine And.intro rfl (And.intro (fun hne => absurd rfl hne) (fun _ => ?_))
  have B1 : Blk h5 b1 w := ((g1.blk.chg g2.chg (by simp)).chg hc3 (by simp)).chg G5.chg (by simp)
  refine Exists.intro l (And.intro hl6 (And.intro (cells_blk G5.blk) ?_))
  refine Exists.intro w (And.intro hw (And.intro (cells_blk B1) ?_))
  refine call_ret (run_calls0 (hk.ext ch5)) ?_
  rintro _ h6 ⟨rfl, hc6⟩
  have B2 : Blk h6 b2 ran0 := ((g2.blk.chg hc3 (by simp)).chg G5.chg (by simp)).chg hc6 (by simp)
  have ch6 := ch5.nil hc6
  refine Exists.intro _ (And.intro B2 (And.intro (Nat.le_refl _) (And.intro rfl (And.intro ran_ones fun h7 p7 => ?_))))
  refine Exists.intro ran0 (And.intro rfl (And.intro (cells_blk p7.blk) ?_))
  refine And.intro rfl (ch6.fresh p7.chg ?_)
  intro q hq
  have := g2.id; have := g1.size
  simp at hq
  omega

theorem mn_calls {h : Heap} {a : ND} {u v : Value} {ks ar : List ByteArray} {now fuel room deep : Int} (ha : a.ok h) (hu : SL encS h u ks) (hv : SL encS h v ar) (hk : ks.length < 4611686018427387904) (hr : ar.length < 4611686018427387904) (hl : LaidS h) :
    CallsH Tryz.prog 3 [.agg ⟨encN a⟩, .agg ⟨runV u v now fuel room deep⟩] h (Ret fun r h' => r = .bool true ∧ Chg [] h h') := by
  have hw : (runV u v now fuel room deep).length = 6 := rfl
  refine f3_calls (by simp) ?_
  intro b1 h1 g1 b2 h2 g2
  have B1 : Blk h2 b1 (encN a) := g1.blk.chg g2.chg (by simp)
  have B2 : Blk h2 b2 (runV u v now fuel room deep) := g2.blk
  have ch := g1.chg.nil g2.chg
  refine Exists.intro _ (And.intro hw (And.intro (cells_blk B2) ?_))
  refine call_ret (large_calls (hu.ext ch) (hv.ext ch) hk hr) ?_
  rintro _ h3 ⟨⟨t, rfl⟩, hc3⟩
  have ch3 := ch.nil hc3
  have done : ∀ {h' : Heap}, Chg [] h h' → CallsH Tryz.prog 6 [] h' (Ret fun r h'' => r = .bool true ∧ Chg [] h h'') := fun hc => (known_ret (hl.ext hc)).mono fun e h'' he => by
    cases e with
    | returned u => exact ⟨he.1, hc.nil he.2⟩
    | panicked c => exact he.elim
    | outgrown => exact he.elim
  cases t with
  | true =>
    refine call_ret (done ch3) ?_
    rintro _ h4 ⟨rfl, hc4⟩
    exact And.intro rfl hc4
  | false =>
    have B13 := B1.chg hc3 (by simp)
    refine Exists.intro _ (And.intro (encN_len a) (And.intro (cells_blk B13) ?_))
    refine call_ret (wide_calls (ha.ext ch3)) ?_
    rintro _ h4 ⟨⟨t, rfl⟩, hc4⟩
    have ch4 := ch3.nil hc4
    cases t with
    | true =>
      refine call_ret (done ch4) ?_
      rintro _ h5 ⟨rfl, hc5⟩
      exact And.intro rfl hc5
    | false =>
      have B14 := B13.chg hc4 (by simp)
      have B24 := (B2.chg hc3 (by simp)).chg hc4 (by simp)
      refine Exists.intro _ (And.intro (encN_len a) (And.intro (cells_blk B14) ?_))
      refine Exists.intro _ (And.intro hw (And.intro (cells_blk B24) ?_))
      refine call_ret (run_calls0 (.inl rfl)) ?_
      rintro _ h5 ⟨rfl, hc5⟩
      have ch5 := ch4.nil hc5
      intro b6 h6 g6
      refine Exists.intro _ (And.intro g6.blk (And.intro (Nat.le_refl _) (And.intro rfl (And.intro ran_ones fun h7 p7 => ?_))))
      have G7 : Grow h5 h7 b6 ran0 := g6.put p7
      have ch7 := ch5.nil G7.chg
      intro b8 h8 g8
      have ch8 := ch7.nil g8.chg
      have c58 := (hc5.nil G7.chg).nil g8.chg
      refine Exists.intro _ (And.intro (encN_len a) (And.intro (cells_blk (B14.chg c58 (by simp))) ?_))
      refine Exists.intro _ (And.intro hw (And.intro (cells_blk (B24.chg c58 (by simp))) ?_))
      refine call_ret (run_calls0 (.inr ⟨b8, 0, rfl, cell_blk g8.blk rfl⟩)) ?_
      rintro _ h9 ⟨rfl, hc9⟩
      have ch9 := ch8.nil hc9
      intro b10 h10 g10
      refine Exists.intro _ (And.intro g10.blk (And.intro (Nat.le_refl _) (And.intro rfl (And.intro ran_ones fun h11 p11 => ?_))))
      have G11 : Grow h9 h11 b10 ran0 := g10.put p11
      have ch11 := ch9.nil G11.chg
      have c411 := (c58.nil hc9).nil G11.chg
      refine Exists.intro _ (And.intro hw (And.intro (cells_blk (B24.chg c411 (by simp))) ?_))
      refine call_ret (text_calls (.inl rfl) hw (hl.ext ch11)) ?_
      rintro _ h12 ⟨rfl, hc12⟩
      have ch12 := ch11.nil hc12
      intro b13 h13 g13
      refine Exists.intro _ (And.intro g13.blk (And.intro (Nat.le_refl _) (And.intro rfl (And.intro ran_ones fun h14 p14 => ?_))))
      have G14 : Grow h12 h14 b13 ran0 := g13.put p14
      have ch14 := ch12.nil G14.chg
      refine And.intro rfl (And.intro (fun _ => ?_) (fun hne => absurd rfl hne))
      refine And.intro rfl (And.intro (fun _ => ?_) (fun hne => absurd rfl hne))
      refine And.intro rfl (And.intro (fun _ => ?_) (fun hne => absurd rfl hne))
      refine call_ret (done ch14) ?_
      rintro _ h15 ⟨rfl, hc15⟩
      exact And.intro rfl hc15

end Go.Proofs.YtomcocbcajidcaaGreatDoor
