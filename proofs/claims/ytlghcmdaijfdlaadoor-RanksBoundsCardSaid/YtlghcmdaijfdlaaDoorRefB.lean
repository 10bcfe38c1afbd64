/-
  The contracts of taborref05.Set and Of.
-/
import Derived.Test.YtlghcmdaijfdlaaDoorRefA
import Derived.Test.YtlghcmdaijfdlaaDoorSxS
namespace Go.Proofs.YtlghcmdaijfdlaaDoor
open Go Go.Sx Go.Proofs.YtlghcmdaijfdlaaDoor.C

def SetQ (h : Heap) (v : Value) (l : List Rank) (x : Rank) (r : Value) (h' : Heap) : Prop :=
  Chg [] h h' ∧ if setErr l x = true then r = .tuple #[v, .int .i64 3] else
      ∃ u, r = .tuple #[u, .int .i64 0] ∧ OL encR 2 h' u (setR l x) ∧ ∀ b ∈ vblk u, h.size ≤ b

theorem set_rest {h h3 : Heap} {v : Value} {l : List Rank} (x : Rank) (hl : l.length ≤ 900000) (he : setErr l x = false) {bx : Nat} (B3 : Blk h3 bx (encR x)) (hc3 : Chg [] h h3)
    {ra : Option Addr} {rc : Nat} (hr : OL encR 2 h3 (.slice ra (dropR x.name l).length rc) (dropR x.name l)) (k : Nat) (hk : k ≤ (dropR x.name l).length) (hup : upto x (dropR x.name l) = k) :
    swp Tryd.prog (.seq (.ops f23r10) (.seq (.ops f23r11) (.seq (.ops f23r12) .ret))) (retQ [.t 4, .t 5] (Ret (SetQ h v l x))) (mk [(3, .pointer (some ⟨bx, 0, none⟩)), (7, .slice ra (dropR x.name l).length rc), (8, .slice none 0 0), (9, .int .i64 k)]) [] h3 := by
  have hrl := dropR_len x.name l
  refine SL.slc (lo := 0) encR_len hr.sl (Nat.zero_le _) hk ?_
  intro a1 _ hs1
  simp only [Nat.sub_zero, List.drop_zero] at hs1 ⊢
  refine app_own (l := []) encR_len encR_one rfl OL.nil hs1 (by simp; omega) ?_
  intro v4 h4 ho4 hc4 hb4
  have hc4 : Chg [] h3 h4 := hc4
  have B4 := B3.chg hc4 (by simp)
  rw [List.nil_append] at ho4
  refine Exists.intro (encR x) (And.intro rfl (And.intro (cells_blk B4) ?_))
  intro b5 h5 g5
  have ho5 := ho4.ext g5.chg
  obtain ⟨a5, c5, rfl, hoc5⟩ := ho5.sl.form
  refine app_own encR_len encR_one rfl ho5 (SL.one encR_len g5.blk) (by simp; omega) ?_
  intro v6 h6 ho6 hc6 hb6
  have hc46 : Chg [] h3 h6 := (hc4.nil g5.chg).fresh hc6 fun k' hk' => by
    rcases hb4 k' hk' with h | h
    · simp [ablk] at h
    · exact h
  have hb36 : ∀ b ∈ vblk v6, h3.size ≤ b := fun b hb => by
    rcases hb6 b hb with h | h
    · rcases hb4 b h with h | h
      · simp [ablk] at h
      · exact h
    · have := hc4.size; have := g5.size; omega
  have hr6 := hr.ext hc46
  obtain ⟨a6, c6, rfl, hoc6⟩ := ho6.sl.form
  refine SL.slc (lo := k) encR_len hr6.sl hk (Nat.le_refl _) ?_
  intro a7 _ hs7
  have e : ((dropR x.name l).drop k).take ((dropR x.name l).length - k) = (dropR x.name l).drop k := by
    rw [List.take_of_length_le]; simp
  rw [e] at hs7
  refine app_own encR_len encR_one rfl ho6 hs7 (by simp; omega) ?_
  intro v8 h8 ho8 hc8 hb8
  have hc38 : Chg [] h3 h8 := hc46.fresh hc8 fun k' hk' => hb36 k' hk'
  refine And.intro (hc3.nil hc38) ?_
  rw [he, if_neg (by simp)]
  refine Exists.intro v8 (And.intro rfl (And.intro ?_ ?_))
  · have e : setR l x = (dropR x.name l).take k ++ [x] ++ (dropR x.name l).drop k := by
      unfold setR insR; rw [hup]; simp
    rw [e]; exact ho8
  · intro b hb
    have h3s := hc3.size
    rcases hb8 b hb with h | h
    · have := hb36 b h; omega
    · have := hc46.size; omega

/-- Behind the refusals. -/
theorem set_good {h h2 : Heap} {a : Option Addr} {c : Nat} {l : List Rank} (x : Rank) (hl : l.length ≤ 900000) (he : setErr l x = false) {bx : Nat} (B : Blk h2 bx (encR x)) (hc2 : Chg [] h h2)
    (hv : SL encR h2 (.slice a l.length c) l) :
    swp Tryd.prog (.seq (.ops f23r4) (.seq (.ops f23r5) (.seq (.ops f23r6) (.seq (.block 0 (.loop f23l9)) (.seq (.ops f23r10) (.seq (.ops f23r11) (.seq (.ops f23r12) .ret)))))))
      (retQ [.t 4, .t 5] (Ret (SetQ h (.slice a l.length c) l x))) (mk [(0, .slice a l.length c), (3, .pointer (some ⟨bx, 0, none⟩))]) [] h2 := by
  refine Exists.intro _ (And.intro (cell_blk B rfl) ?_)
  refine call_ret (drop_calls hv x.name (by omega)) ?_
  rintro rv h3 ⟨hr, hc3, hb3⟩
  have hrl := dropR_len x.name l
  obtain ⟨ra, rc, rfl, hrc⟩ := hr.sl.form
  have B3 : Blk h3 bx (encR x) := B.chg hc3 (by simp)
  refine loop_intro (fun k : Nat => [(3, .pointer (some ⟨bx, 0, none⟩)), (7, .slice ra (dropR x.name l).length rc), (8, .slice none 0 0), (9, .int .i64 k)])
    (fun k h' => k ≤ (dropR x.name l).length ∧ Chg [] h3 h' ∧ ∀ j (hj : j < (dropR x.name l).length), j < k → ahead (dropR x.name l)[j] x = true) (fun k => (dropR x.name l).length - k) 0 ⟨rfl, rfl, rfl, rfl, trivial⟩
    ⟨Nat.zero_le _, Chg.refl h3, fun j _ hj => by omega⟩ ?_
  rintro k h4 ⟨hk, hc4, hall⟩
  have B4 : Blk h4 bx (encR x) := B3.chg hc4 (by simp)
  have hr4 := hr.ext hc4
  refine And.intro rfl (And.intro (fun ht => ?_) (fun ht => ?_))
  · have hlt : k < (dropR x.name l).length := by omega
    obtain ⟨b, o, rfl⟩ := hr4.sl.addr (by omega)
    have hcs := hr4.sl.cells encR_len (i := k) (x := (dropR x.name l)[k]) (by simp [hlt])
    refine And.intro (by omega) (And.intro ht (Exists.intro (encR (dropR x.name l)[k]) (And.intro rfl (And.intro hcs ?_))))
    refine Exists.intro (encR x) (And.intro rfl (And.intro (cells_blk B4) ?_))
    refine call_ret (ahead_calls _ x) ?_
    rintro _ h5 ⟨rfl, hc5⟩
    cases ha : ahead (dropR x.name l)[k] x with
    | true =>
      refine And.intro rfl (fun z hz => ?_)
      have hz := add_in hz (by omega) (by omega)
      subst hz
      refine And.intro rfl (Exists.intro (k + 1) (And.intro ?_ (And.intro ?_ ?_)))
      · exact ⟨rfl, rfl, rfl, rfl, trivial⟩
      · refine ⟨by omega, hc4.nil hc5, fun j hj hjk => ?_⟩
        by_cases hjk' : j = k
        · subst hjk'; exact ha
        · exact hall j hj (by omega)
      · omega
    | false =>
      have hup : upto x (dropR x.name l) = k := upto_spec x _ k hall hk (fun _ => ha)
      exact cut_at [(3, .pointer (some ⟨bx, 0, none⟩)), (7, .slice (some ⟨b, o, none⟩) (dropR x.name l).length rc), (8, .slice none 0 0), (9, .int .i64 k)] ⟨rfl, rfl, rfl, rfl, trivial⟩
        (set_rest x hl he (B4.chg hc5 (by simp)) ((hc2.nil hc3).nil (hc4.nil hc5)) (hr4.ext hc5) k hk hup)
  · have hlt : k = (dropR x.name l).length := by omega
    have hup : upto x (dropR x.name l) = k := upto_spec x _ k hall hk (fun h => by omega)
    exact cut_at [(3, .pointer (some ⟨bx, 0, none⟩)), (7, .slice ra (dropR x.name l).length rc), (8, .slice none 0 0), (9, .int .i64 k)] ⟨rfl, rfl, rfl, rfl, trivial⟩
      (set_rest x hl he B4 ((hc2.nil hc3).nil hc4) hr4 k hk hup)

theorem set_calls {h : Heap} {v : Value} {l : List Rank} (hv : SL encR h v l) (x : Rank) (hl : l.length ≤ 900000) :
    CallsH Tryd.prog 23 [v, .agg ⟨encR x⟩] h (Ret (SetQ h v l x)) := by
  obtain ⟨a, c, rfl, hlc⟩ := hv.form
  refine f23_calls (by simp) ?_
  intro bx h1 g1
  have hv1 := hv.ext g1.chg
  have B : Blk h1 bx (encR x) := g1.blk
  refine Exists.intro _ (And.intro (cell_blk B rfl) ?_)
  refine call_ret (find_calls hv1 x.name (by omega)) ?_
  rintro _ h2 ⟨rfl, rfl⟩
  have bad : setErr l x = true → SetQ h (.slice a l.length c) l x (.tuple #[.slice a l.length c, .int .i64 3]) h2 := fun e => ⟨g1.chg, by rw [if_pos e]⟩
  refine And.intro rfl (And.intro (fun hf => ?_) (fun hf => ?_))
  · refine Exists.intro _ (And.intro (cell_blk B rfl) ?_)
    refine And.intro rfl (And.intro (fun hs => ?_) (fun hs => ?_))
    · exact bad (by simp [setErr]; omega)
    · have e : setErr l x = false := by simp [setErr]; omega
      exact cut_at [(0, .slice a l.length c), (3, .pointer (some ⟨bx, 0, none⟩))] ⟨rfl, rfl, trivial⟩ (set_good x hl e B g1.chg hv1)
  · refine Exists.intro _ (And.intro (cell_blk B rfl) ?_)
    refine And.intro rfl (And.intro (fun hs => ?_) (fun hs => ?_))
    · exact bad (by simp [setErr]; omega)
    · refine And.intro rfl (And.intro (fun hn => ?_) (fun hn => ?_))
      · exact bad (by simp [setErr]; omega)
      · have e : setErr l x = false := by simp [setErr]; omega
        exact cut_at [(0, .slice a l.length c), (3, .pointer (some ⟨bx, 0, none⟩))] ⟨rfl, rfl, trivial⟩ (set_good x hl e B g1.chg hv1)

end Go.Proofs.YtlghcmdaijfdlaaDoor
