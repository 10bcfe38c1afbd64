/-
  Layer 17: trees as they stand in memory; how many nodes, how many bytes one has: a number.
-/
import Derived.Test.YtomcocbcajidcaaGreatDoorCode
import Derived.Test.YtomcocbcajidcaaGreatDoorSxX
namespace Go.Proofs.YtomcocbcajidcaaGreatDoor
open Go Go.Sx Go.Proofs.YtomcocbcajidcaaGreatDoor.C

def encS (s : ByteArray) : List Value := [.string s]
theorem encS_len (p : ByteArray) : (encS p).length = 1 := rfl

/-- A node: kind, name, text, number, its slice of names, these, its slice of kids, these. -/
inductive ND where
  | mk (k : Int) (s t : ByteArray) (i : Int) (u : Value) (ns : List ByteArray) (v : Value) (l : List ND)

def encN : ND → List Value
  | .mk k s t i u _ v _ => [.int .i64 k, .string s, .string t, .int .i64 i, u, v]

mutual
def ND.ok (h : Heap) : ND → Prop
  | .mk _ _ _ _ u ns v l => SL encS h u ns ∧ ns.length < 4611686018427387904 ∧ SL encN h v l ∧ l.length < 4611686018427387904 ∧ ND.oks h l
def ND.oks (h : Heap) : List ND → Prop
  | [] => True
  | t :: l => t.ok h ∧ ND.oks h l
end

mutual
theorem ND.ok.ext {h h' : Heap} (hc : Chg [] h h') : ∀ {t : ND}, t.ok h → t.ok h'
  | .mk _ _ _ _ _ _ _ _, ⟨h1, h2, h3, h4, h5⟩ => ⟨h1.ext hc, h2, h3.ext hc, h4, ND.oks.ext hc h5⟩
theorem ND.oks.ext {h h' : Heap} (hc : Chg [] h h') : ∀ {l : List ND}, ND.oks h l → ND.oks h' l
  | [], _ => trivial
  | _ :: _, ⟨h1, h2⟩ => ⟨h1.ext hc, ND.oks.ext hc h2⟩
end

theorem ND.oks.mem {h : Heap} : ∀ {l : List ND}, ND.oks h l → ∀ t ∈ l, t.ok h
  | _ :: _, ⟨h1, h2⟩, t, ht => by
    rcases List.mem_cons.1 ht with rfl | ht
    · exact h1
    · exact ND.oks.mem h2 t ht

theorem encN_len : ∀ t, (encN t).length = 6
  | .mk _ _ _ _ _ _ _ _ => rfl

theorem ND.ok.ones {h : Heap} : ∀ {t : ND}, t.ok h → ∀ u ∈ encN t, u.oneCell' = true
  | .mk k s t i u ns v l, ⟨h1, _, h3, _⟩, x, hx => by
    obtain ⟨a, c, rfl, _⟩ := h1.form
    obtain ⟨a', c', rfl, _⟩ := h3.form
    simp [encN] at hx
    rcases hx with rfl | rfl | rfl | rfl | rfl | rfl <;> rfl

theorem sizeOf_kid {k : Int} {s t : ByteArray} {i : Int} {u : Value} {ns : List ByteArray} {v : Value} {l : List ND} {q : Nat} (hq : q < l.length) : SizeOf.sizeOf l[q] < SizeOf.sizeOf (ND.mk k s t i u ns v l) := by
  have h1 := List.sizeOf_lt_of_mem (List.getElem_mem hq)
  rw [ND.mk.sizeOf_spec]; omega

/-- How many nodes: a number. -/
theorem count_calls : ∀ (n : Nat) (a : ND) (most : Int) (h : Heap), SizeOf.sizeOf a < n → a.ok h → CallsH Tryz.prog 10 [.agg ⟨encN a⟩, .int .i64 most] h (Ret fun r h' => (∃ z, r = .int .i64 z) ∧ Chg [] h h')
  | 0, _, _, _, hn, _ => absurd hn (by omega)
  | n + 1, .mk k s t i u ns v l, most, h, hn, ⟨_, _, hv, hl, hls⟩ => by
    obtain ⟨x, c, rfl, hlc⟩ := hv.form
    refine f10_calls (by simp) ?_
    intro b1 h1 g1
    have B1 : Blk h1 b1 [.int .i64 k, .string s, .string t, .int .i64 i, u, .slice x l.length c] := g1.blk
    refine loop_intro (fun p : Nat × Int => [(1, .int .i64 most), (2, .pointer (some ⟨b1, 0, none⟩)), (5, .int .i64 p.2), (6, .int .i64 p.1)]) (fun p h' => p.1 ≤ l.length ∧ Chg [] h1 h') (fun p => l.length - p.1) (0, 1) ⟨rfl, rfl, rfl, rfl, trivial⟩ ⟨Nat.zero_le _, Chg.refl _⟩ ?_
    rintro ⟨q, z⟩ h2 ⟨hq, hc1⟩
    have C1 := B1.chg hc1 (by simp)
    have hch := g1.chg.nil hc1
    refine Exists.intro _ (And.intro (cell_blk C1 rfl) (And.intro rfl (And.intro (fun hlt => ?_) (fun hge => ?_))))
    · have hlt : q < l.length := by simp only at hlt hq; omega
      refine And.intro rfl (And.intro (fun hle => ?_) (fun hgt => ?_))
      · obtain ⟨b, o, rfl⟩ := hv.addr (by omega)
        have hcs := (hv.ext hch).cells encN_len (i := q) (x := l[q]) (by simp [hlt])
        refine Exists.intro _ (And.intro (cell_blk C1 rfl) ?_)
        refine And.intro (by simp only; omega) (And.intro (by simp only; omega) (Exists.intro (encN l[q]) (And.intro (encN_len _) (And.intro hcs ?_))))
        refine And.intro rfl (fun z3 _ => ?_)
        refine call_ret (count_calls n l[q] z3 h2 (by have := sizeOf_kid (k := k) (s := s) (t := t) (i := i) (u := u) (ns := ns) (v := .slice (some ⟨b, o, none⟩) l.length c) hlt; omega) ((hls.mem _ (List.getElem_mem hlt)).ext hch)) ?_
        rintro _ h3 ⟨⟨z4, rfl⟩, hc3⟩
        refine And.intro rfl (fun z5 _ => ?_)
        refine And.intro rfl (fun z6 hz => ?_)
        have hz := add_in hz (by omega) (by omega)
        subst hz
        exact And.intro rfl (Exists.intro (q + 1, z5) (And.intro ⟨rfl, rfl, rfl, rfl, trivial⟩ (And.intro ⟨hlt, hc1.nil hc3⟩ (by simp only; omega))))
      · exact And.intro (Exists.intro z rfl) hch
    · exact And.intro (Exists.intro z rfl) hch

/-- How many bytes: a number. -/
theorem texts_calls : ∀ (n : Nat) (a : ND) (h : Heap), SizeOf.sizeOf a < n → a.ok h → CallsH Tryz.prog 11 [.agg ⟨encN a⟩] h (Ret fun r h' => (∃ z, r = .int .i64 z) ∧ Chg [] h h')
  | 0, _, _, hn, _ => absurd hn (by omega)
  | n + 1, .mk k s t i u ns v l, h, hn, ⟨hu, hnl, hv, hl, hls⟩ => by
    obtain ⟨x, c, rfl, hlc⟩ := hv.form
    obtain ⟨x', c', rfl, hlc'⟩ := hu.form
    refine f11_calls (by simp) ?_
    intro b1 h1 g1
    have B1 : Blk h1 b1 [.int .i64 k, .string s, .string t, .int .i64 i, .slice x' ns.length c', .slice x l.length c] := g1.blk
    refine Exists.intro _ (And.intro (cell_blk B1 rfl) ?_)
    refine Exists.intro _ (And.intro (cell_blk B1 rfl) ?_)
    refine And.intro rfl (fun z0 _ => ?_)
    refine Exists.intro _ (And.intro (cell_blk B1 rfl) ?_)
    refine And.intro rfl (fun z1 _ => ?_)
    refine loop_intro (fun p : Nat × Int => [(1, .pointer (some ⟨b1, 0, none⟩)), (3, .int .i64 p.2), (4, .int .i64 p.1)]) (fun p h' => p.1 ≤ ns.length ∧ h1 = h') (fun p => ns.length - p.1) (0, z1) ⟨rfl, rfl, rfl, trivial⟩ ⟨Nat.zero_le _, rfl⟩ ?_
    rintro ⟨q, z⟩ _ ⟨hq, rfl⟩
    refine Exists.intro _ (And.intro (cell_blk B1 rfl) (And.intro rfl (And.intro (fun hlt => ?_) (fun hge => ?_))))
    · have hlt : q < ns.length := by simp only at hlt hq; omega
      obtain ⟨b, o, rfl⟩ := hu.addr (by omega)
      have hcs := (hu.ext g1.chg).cells encS_len (i := q) (x := ns[q]) (by simp [hlt])
      refine Exists.intro _ (And.intro (cell_blk B1 rfl) ?_)
      refine And.intro (by simp only; omega) (And.intro (by simp only; omega) (Exists.intro _ (And.intro (hcs 0 _ rfl) ?_)))
      refine And.intro rfl (fun z3 _ => ?_)
      refine And.intro rfl (fun z6 hz => ?_)
      have hz := add_in hz (by omega) (by omega)
      subst hz
      exact And.intro rfl (Exists.intro (q + 1, z3) (And.intro ⟨rfl, rfl, rfl, trivial⟩ (And.intro ⟨hlt, rfl⟩ (by simp only; omega))))
    · refine loop_intro (fun p : Nat × Int => [(1, .pointer (some ⟨b1, 0, none⟩)), (3, .int .i64 p.2), (5, .int .i64 p.1)]) (fun p h' => p.1 ≤ l.length ∧ Chg [] h1 h') (fun p => l.length - p.1) (0, z) ⟨rfl, rfl, rfl, trivial⟩ ⟨Nat.zero_le _, Chg.refl _⟩ ?_
      rintro ⟨q, z⟩ h2 ⟨hq, hc1⟩
      have C1 := B1.chg hc1 (by simp)
      have hch := g1.chg.nil hc1
      refine Exists.intro _ (And.intro (cell_blk C1 rfl) (And.intro rfl (And.intro (fun hlt => ?_) (fun hge => ?_))))
      · have hlt : q < l.length := by simp only at hlt hq; omega
        obtain ⟨b, o, rfl⟩ := hv.addr (by omega)
        have hcs := (hv.ext hch).cells encN_len (i := q) (x := l[q]) (by simp [hlt])
        refine Exists.intro _ (And.intro (cell_blk C1 rfl) ?_)
        refine And.intro (by simp only; omega) (And.intro (by simp only; omega) (Exists.intro (encN l[q]) (And.intro (encN_len _) (And.intro hcs ?_))))
        refine call_ret (texts_calls n l[q] h2 (by have := sizeOf_kid (k := k) (s := s) (t := t) (i := i) (u := .slice x' ns.length c') (ns := ns) (v := .slice (some ⟨b, o, none⟩) l.length c) hlt; omega) ((hls.mem _ (List.getElem_mem hlt)).ext hch)) ?_
        rintro _ h3 ⟨⟨z4, rfl⟩, hc3⟩
        refine And.intro rfl (fun z5 _ => ?_)
        refine And.intro rfl (fun z6 hz => ?_)
        have hz := add_in hz (by omega) (by omega)
        subst hz
        exact And.intro rfl (Exists.intro (q + 1, z5) (And.intro ⟨rfl, rfl, rfl, trivial⟩ (And.intro ⟨hlt, hc1.nil hc3⟩ (by simp only; omega))))
      · exact And.intro (Exists.intro z rfl) hch

/-- Too many nodes, too many bytes? A truth value. -/
theorem wide_calls {a : ND} {h : Heap} (ha : a.ok h) : CallsH Tryz.prog 5 [.agg ⟨encN a⟩] h (Ret fun r h' => (∃ t, r = .bool t) ∧ Chg [] h h') := by
  refine f5_calls (by simp) ?_
  intro b1 h1 g1
  have B1 : Blk h1 b1 (encN a) := g1.blk
  refine Exists.intro (encN a) (And.intro (encN_len a) (And.intro (cells_blk B1) ?_))
  refine call_ret (count_calls _ a 200 h1 (Nat.lt_succ_self _) (ha.ext g1.chg)) ?_
  rintro _ h2 ⟨⟨z, rfl⟩, hc2⟩
  refine And.intro rfl (And.intro (fun hgt => ?_) (fun hle => ?_))
  · exact And.intro (Exists.intro true rfl) (g1.chg.nil hc2)
  · refine Exists.intro (encN a) (And.intro (encN_len a) (And.intro (cells_blk (B1.chg hc2 (by simp))) ?_))
    refine call_ret (texts_calls _ a h2 (Nat.lt_succ_self _) ((ha.ext g1.chg).ext hc2)) ?_
    rintro _ h3 ⟨⟨z', rfl⟩, hc3⟩
    refine And.intro rfl (And.intro (fun _ => ?_) (fun _ => ?_))
    · exact And.intro (Exists.intro true rfl) ((g1.chg.nil hc2).nil hc3)
    · exact And.intro (Exists.intro false rfl) ((g1.chg.nil hc2).nil hc3)

end Go.Proofs.YtomcocbcajidcaaGreatDoor
