/-
  Layer 7: lists of things under keys, plain.
  Layer 7: the reference's Find, Put, Get, Names.
  Layer 7: a keyspace as it lies; plain laws of the reference's Of.
  Layer 7: a keyspace of things (keys.Of).
  Layer 7: the sorted keys of a keyspace's map (over the shelf's contracts).
  Layer 7: All: what it goes over, by rising keys.
  Layer 7: has a keyspace just these things (taborlaw07.same).
  Layer 7: vast, sorted; the reference's Of and Names.
  Layer 7: taborlaw07.KeysAll.
-/
import Derived.Test.YtigolfakcblnjaaGreatDoorMK
import Derived.Test.YtigolfakcblnjaaGreatDoorIter
namespace Go.Proofs.YtigolfakcblnjaaGreatDoor
open Go Go.Sx

/-- An entry as it lies in a slice, and the thing that it is. -/
structure RX where
  key : ByteArray
  thing : Thing
  vs : List Value
  len : vs.length = 7
  one : ∀ u ∈ vs, u.oneCell' = true

def encX (x : RX) : List Value := .string x.key :: x.vs
theorem encX_len (x : RX) : (encX x).length = 8 := by simp [encX, x.len]
theorem encX_one (x : RX) : ∀ u ∈ encX x, u.oneCell' = true := by
  intro u hu
  simp only [encX, List.mem_cons] at hu
  rcases hu with rfl | hu
  · rfl
  · exact x.one u hu

/-- The things lie there. -/
def GX (h : Heap) (l : List RX) : Prop := ∀ x ∈ l, TH h x.vs x.thing
theorem GX.ext {h h' : Heap} {l : List RX} (g : GX h l) (hc : Chg [] h h') : GX h' l := fun x hx => (g x hx).ext hc

def findX (key : ByteArray) : List RX → Nat × Bool
  | [] => (0, false)
  | x :: l => if x.key = key then (0, true) else if sless key x.key = true then (0, false) else ((findX key l).1 + 1, (findX key l).2)

def putX (l : List RX) (x : RX) : List RX :=
  l.take (findX x.key l).1 ++ [x] ++ l.drop (if (findX x.key l).2 = true then (findX x.key l).1 + 1 else (findX x.key l).1)

def dropX (l : List RX) (key : ByteArray) : List RX :=
  if (findX key l).2 = true then l.take (findX key l).1 ++ l.drop ((findX key l).1 + 1) else l

/-- By rising keys. -/
def UpX (l : List RX) : Prop := l.Pairwise fun x y => sless x.key y.key = true

theorem findX_le (key : ByteArray) : ∀ l : List RX, (findX key l).1 ≤ l.length
  | [] => Nat.le_refl _
  | x :: l => by
    have := findX_le key l
    unfold findX
    split
    · exact Nat.zero_le _
    · split
      · exact Nat.zero_le _
      · simp; exact this

theorem findX_hit (key : ByteArray) : ∀ l : List RX, (findX key l).2 = true → ∃ h : (findX key l).1 < l.length, l[(findX key l).1].key = key
  | [], h => by simp [findX] at h
  | x :: l, h => by
    by_cases h1 : x.key = key
    · have e : findX key (x :: l) = (0, true) := by unfold findX; rw [if_pos h1]
      simp only [e]
      exact ⟨by simp, by simpa using h1⟩
    · by_cases h2 : sless key x.key = true
      · have e : findX key (x :: l) = (0, false) := by unfold findX; rw [if_neg h1, if_pos h2]
        rw [e] at h; simp at h
      · have e : findX key (x :: l) = ((findX key l).1 + 1, (findX key l).2) := by rw [findX, if_neg h1, if_neg h2]
        rw [e] at h
        obtain ⟨h3, h4⟩ := findX_hit key l h
        simp only [e]
        exact ⟨by simp; exact h3, by simpa using h4⟩

theorem findX_mem {key : ByteArray} {l : List RX} (h : (findX key l).2 = true) : ∃ x ∈ l, x.key = key := by
  obtain ⟨h1, h2⟩ := findX_hit key l h
  exact ⟨_, List.getElem_mem h1, h2⟩

theorem findX_has {key : ByteArray} : ∀ {l : List RX}, UpX l → (∃ x ∈ l, x.key = key) → (findX key l).2 = true
  | [], _, h => by simp at h
  | x :: l, hu, h => by
    unfold findX
    split
    · rfl
    · rename_i h1
      obtain ⟨y, hy, hk⟩ := h
      rcases List.mem_cons.1 hy with rfl | hy
      · exact absurd hk h1
      · have h2 := (List.pairwise_cons.1 hu).1 y hy
        rw [hk] at h2
        split
        · rename_i h3
          have := sless_trans h2 h3
          rw [sless_irrefl] at this; cases this
        · exact findX_has (List.pairwise_cons.1 hu).2 ⟨y, hy, hk⟩

theorem putX_cons (y : RX) (l : List RX) (x : RX) : putX (y :: l) x = if y.key = x.key then x :: l else if sless x.key y.key = true then x :: y :: l else y :: putX l x := by
  unfold putX
  by_cases h1 : y.key = x.key
  · have e : findX x.key (y :: l) = (0, true) := by unfold findX; rw [if_pos h1]
    rw [e, if_pos h1]; simp
  · by_cases h2 : sless x.key y.key = true
    · have e : findX x.key (y :: l) = (0, false) := by unfold findX; rw [if_neg h1, if_pos h2]
      rw [e, if_neg h1, if_pos h2]; simp
    · have e : findX x.key (y :: l) = ((findX x.key l).1 + 1, (findX x.key l).2) := by rw [findX, if_neg h1, if_neg h2]
      rw [e, if_neg h1, if_neg h2]
      cases hb : (findX x.key l).2 <;> simp

theorem putX_nil (x : RX) : putX [] x = [x] := rfl

theorem dropX_cons (y : RX) (l : List RX) (k : ByteArray) : dropX (y :: l) k = if y.key = k then l else if sless k y.key = true then y :: l else y :: dropX l k := by
  unfold dropX
  by_cases h1 : y.key = k
  · have e : findX k (y :: l) = (0, true) := by unfold findX; rw [if_pos h1]
    rw [e, if_pos h1]; simp
  · by_cases h2 : sless k y.key = true
    · have e : findX k (y :: l) = (0, false) := by unfold findX; rw [if_neg h1, if_pos h2]
      rw [e, if_neg h1, if_pos h2]; simp
    · have e : findX k (y :: l) = ((findX k l).1 + 1, (findX k l).2) := by rw [findX, if_neg h1, if_neg h2]
      rw [e, if_neg h1, if_neg h2]
      cases hb : (findX k l).2 <;> simp

theorem sless_ne {a b : ByteArray} (h : sless a b = true) : a ≠ b := by
  intro e; subst e; rw [sless_irrefl] at h; cases h

theorem mem_putX {x y : RX} : ∀ {l : List RX}, UpX l → (y ∈ putX l x ↔ y = x ∨ (y ∈ l ∧ y.key ≠ x.key))
  | [], _ => by simp [putX_nil]
  | z :: l, hu => by
    obtain ⟨h1, h2⟩ := List.pairwise_cons.1 hu
    rw [putX_cons]
    split
    · rename_i hk
      rw [List.mem_cons, List.mem_cons]
      constructor
      · rintro (rfl | hy)
        · exact .inl rfl
        · refine .inr ⟨.inr hy, fun e => sless_ne (h1 y hy) (hk.trans e.symm)⟩
      · rintro (rfl | ⟨rfl | hy, hn⟩)
        · exact .inl rfl
        · exact absurd hk hn
        · exact .inr hy
    · rename_i hk
      split
      · rename_i hl
        rw [List.mem_cons, List.mem_cons]
        constructor
        · rintro (rfl | rfl | hy)
          · exact .inl rfl
          · exact .inr ⟨.inl rfl, hk⟩
          · refine .inr ⟨.inr hy, fun e => ?_⟩
            have := sless_trans hl (h1 y hy)
            rw [e, sless_irrefl] at this; cases this
        · rintro (rfl | ⟨rfl | hy, hn⟩)
          · exact .inl rfl
          · exact .inr (.inl rfl)
          · exact .inr (.inr hy)
      · rw [List.mem_cons, mem_putX h2, List.mem_cons]
        constructor
        · rintro (rfl | rfl | ⟨hy, hn⟩)
          · exact .inr ⟨.inl rfl, hk⟩
          · exact .inl rfl
          · exact .inr ⟨.inr hy, hn⟩
        · rintro (rfl | ⟨rfl | hy, hn⟩)
          · exact .inr (.inl rfl)
          · exact .inl rfl
          · exact .inr (.inr ⟨hy, hn⟩)

theorem up_putX {x : RX} : ∀ {l : List RX}, UpX l → UpX (putX l x)
  | [], _ => by rw [putX_nil]; exact List.pairwise_singleton _ _
  | z :: l, hu => by
    obtain ⟨h1, h2⟩ := List.pairwise_cons.1 hu
    rw [putX_cons]
    split
    · rename_i hk
      exact List.pairwise_cons.2 ⟨fun y hy => by rw [← hk]; exact h1 y hy, h2⟩
    · rename_i hk
      split
      · rename_i hl
        refine List.pairwise_cons.2 ⟨fun y hy => ?_, hu⟩
        rcases List.mem_cons.1 hy with rfl | hy
        · exact hl
        · exact sless_trans hl (h1 y hy)
      · rename_i hl
        refine List.pairwise_cons.2 ⟨fun y hy => ?_, up_putX h2⟩
        rcases (mem_putX h2).1 hy with rfl | ⟨hy, _⟩
        · rcases sless_total (a := z.key) (b := y.key) hk with h | h
          · exact h
          · exact absurd h hl
        · exact h1 y hy

theorem mem_dropX {k : ByteArray} {y : RX} : ∀ {l : List RX}, UpX l → (y ∈ dropX l k ↔ y ∈ l ∧ y.key ≠ k)
  | [], _ => by simp [dropX, findX]
  | z :: l, hu => by
    obtain ⟨h1, h2⟩ := List.pairwise_cons.1 hu
    rw [dropX_cons]
    split
    · rename_i hk
      rw [List.mem_cons]
      constructor
      · exact fun hy => ⟨.inr hy, fun e => sless_ne (h1 y hy) (hk.trans e.symm)⟩
      · rintro ⟨rfl | hy, hn⟩
        · exact absurd hk hn
        · exact hy
    · rename_i hk
      split
      · rename_i hl
        rw [List.mem_cons]
        constructor
        · rintro (rfl | hy)
          · exact ⟨.inl rfl, hk⟩
          · refine ⟨.inr hy, fun e => ?_⟩
            have := sless_trans hl (h1 y hy)
            rw [e, sless_irrefl] at this; cases this
        · exact fun h => h.1
      · rw [List.mem_cons, mem_dropX h2, List.mem_cons]
        constructor
        · rintro (rfl | ⟨hy, hn⟩)
          · exact ⟨.inl rfl, hk⟩
          · exact ⟨.inr hy, hn⟩
        · rintro ⟨rfl | hy, hn⟩
          · exact .inl rfl
          · exact .inr ⟨hy, hn⟩

theorem up_dropX {k : ByteArray} : ∀ {l : List RX}, UpX l → UpX (dropX l k)
  | [], _ => by simp [dropX, findX, UpX]
  | z :: l, hu => by
    obtain ⟨h1, h2⟩ := List.pairwise_cons.1 hu
    rw [dropX_cons]
    split
    · exact h2
    · split
      · exact hu
      · exact List.pairwise_cons.2 ⟨fun y hy => h1 y ((mem_dropX h2).1 hy).1, up_dropX h2⟩

theorem putX_len (l : List RX) (x : RX) : (putX l x).length ≤ l.length + 1 := by
  unfold putX
  have := findX_le x.key l
  simp only [List.length_append, List.length_take, List.length_drop, List.length_cons, List.length_nil]
  split <;> omega

theorem putX_new {l : List RX} {x : RX} (h : (findX x.key l).2 = false) : (putX l x).length = l.length + 1 := by
  unfold putX
  have := findX_le x.key l
  simp only [List.length_append, List.length_take, List.length_drop, List.length_cons, List.length_nil, h]
  simp; omega

end Go.Proofs.YtigolfakcblnjaaGreatDoor
namespace Go.Proofs.YtigolfakcblnjaaGreatDoor
open Go Go.Sx Go.Proofs.YtigolfakcblnjaaGreatDoor.C

theorem cells_vs {h : Heap} {b o : Nat} {x : RX} (hc : Cells h b o (encX x)) : Cells h b (o + 1) x.vs := fun i v hv => by
  have := hc (i + 1) v hv
  rw [show o + 1 + i = o + (i + 1) by omega]; exact this

theorem swp_seq {P : Program} {a b : SCode} {Q : Post} {σ : Env} {ds : List Deferred} {h : Heap} (hs : swp P a (thenQ (swp P b Q) Q) σ ds h) : swp P (.seq a b) Q σ ds h := hs

theorem seven_form {vs : List Value} (h : vs.length = 7) : ∃ a b c d e f g, vs = [a, b, c, d, e, f, g] := by
  match vs, h with
  | [a, b, c, d, e, f, g], _ => exact ⟨a, b, c, d, e, f, g, rfl⟩

theorem TH.hasU {h : Heap} {vs : List Value} {t : Thing} (x : TH h vs t) : vs[5]? = some (.bool t.hasU) := by
  obtain ⟨pv, lv, rv, rfl, _⟩ := x
  rfl
theorem TH.unt {h : Heap} {vs : List Value} {t : Thing} (x : TH h vs t) : vs[6]? = some (.int .i64 t.unt) := by
  obtain ⟨pv, lv, rv, rfl, _⟩ := x
  rfl

/-- Keys are of a length that the walks can count. -/
def KeysFit (l : List RX) : Prop := ∀ x ∈ l, x.key.size < 4611686018427387904

theorem Find_calls {h : Heap} {v : Value} {l : List RX} (key : ByteArray) (hv : SL encX h v l) (hl : l.length < 4611686018427387904) (hk : key.size < 4611686018427387904) (hf : KeysFit l) :
    CallsH Tryz.prog 28 [v, .string key] h (Ret fun r h' => r = .tuple #[.int .i64 (findX key l).1, .bool (findX key l).2] ∧ h' = h) := by
  obtain ⟨a, c, rfl, hlc⟩ := hv.form
  refine f28_calls (by simp) ?_
  refine loop_intro (fun k : Nat => [(0, .slice a l.length c), (1, .string key), (6, .int .i64 k)]) (fun k h' => k ≤ l.length ∧ h' = h ∧ findX key l = ((findX key (l.drop k)).1 + k, (findX key (l.drop k)).2)) (fun k => l.length - k) 0
    ⟨rfl, rfl, rfl, trivial⟩ ⟨Nat.zero_le _, rfl, by simp⟩ ?_
  rintro k h1 ⟨hk1, e1, hfx⟩
  have e1 := e1.symm
  subst e1
  refine And.intro rfl (And.intro (fun ht => ?_) (fun ht => ?_))
  · have hlt : k < l.length := by omega
    obtain ⟨b, o, rfl⟩ := hv.addr (by omega)
    have hcs := hv.cells encX_len (i := k) (x := l[k]) (by simp [hlt])
    have hdr : l.drop k = l[k] :: l.drop (k + 1) := List.drop_eq_getElem_cons hlt
    rw [hdr] at hfx
    refine And.intro (by omega) (And.intro (by omega) (Exists.intro _ (And.intro (hcs 0 _ rfl) ?_)))
    refine And.intro (fun heq => ?_) (fun hne => ?_)
    · have e : findX key l = (k, true) := by rw [hfx]; simp [findX, heq]
      exact And.intro (by rw [e]; rfl) rfl
    · refine And.intro (by omega) (And.intro (by omega) (Exists.intro _ (And.intro (hcs 0 _ rfl) ?_)))
      refine call_ret (Less_calls key l[k].key hk (hf _ (List.getElem_mem hlt))) ?_
      rintro r h2 ⟨hr, e2⟩
      have e2 := e2.symm
      subst e2
      cases hs : sless key l[k].key with
      | true =>
        rw [hs] at hr
        subst hr
        have e : findX key l = (k, false) := by rw [hfx, findX, if_neg hne, if_pos hs]; simp
        exact And.intro (by rw [e]; rfl) rfl
      | false =>
        rw [hs] at hr
        subst hr
        refine And.intro rfl (fun z hz => ?_)
        have hz := add_in hz (by omega) (by omega)
        subst hz
        refine And.intro rfl (Exists.intro (k + 1) (And.intro ?_ (And.intro ?_ ?_)))
        · exact ⟨rfl, rfl, rfl, trivial⟩
        · refine ⟨by omega, rfl, ?_⟩
          rw [hfx, findX, if_neg hne, if_neg (by rw [hs]; simp)]
          simp; omega
        · omega
  · have hlt : k = l.length := by omega
    subst hlt
    have e : findX key l = (l.length, false) := by rw [hfx]; simp [findX]
    exact And.intro (by rw [e]; rfl) rfl

theorem Put_calls {h : Heap} {v : Value} {l : List RX} (x : RX) (hv : SL encX h v l) (hl : l.length ≤ 100000) (hk : x.key.size < 4611686018427387904) (hf : KeysFit l) :
    CallsH Tryz.prog 48 [v, .string x.key, .agg ⟨x.vs⟩] h (Ret fun r h' => OL encX 8 h' r (putX l x) ∧ (∀ b ∈ vblk r, h.size ≤ b) ∧ Chg [] h h') := by
  obtain ⟨a, c, rfl, hlc⟩ := hv.form
  obtain ⟨v0, v1, v2, v3, v4, v5, v6, hvs⟩ := seven_form x.len
  rw [hvs]
  refine f48_calls (by simp) ?_
  intro b5 h1 g1
  have B1 : Blk h1 b5 [v0, v1, v2, v3, v4, v5, v6] := g1.blk
  have hv1 := hv.ext g1.chg
  refine call_ret (Find_calls x.key hv1 (by omega) hk hf) ?_
  rintro _ h9 ⟨rfl, e9⟩
  have e9 := e9.symm
  subst e9
  have hi := findX_le x.key l
  refine SL.slc (lo := 0) encX_len hv1 (Nat.zero_le _) hi ?_
  intro a1 _ hs1
  simp only [Nat.sub_zero, List.drop_zero] at hs1 ⊢
  refine app_new encX_len encX_one rfl hs1 (by simp; omega) ?_
  intro w4 h4 ho4 hc4 hb4
  have B4 := B1.chg hc4 (by simp)
  refine Exists.intro [v0, v1, v2, v3, v4, v5, v6] (And.intro rfl (And.intro (cells_blk B4) ?_))
  intro b5' h5 g5
  have b5x : Blk h5 b5' (encX x) := by have := g5.blk; unfold encX; rw [hvs]; exact this
  have ho5 := ho4.ext g5.chg
  obtain ⟨a5, c5, rfl, hoc5⟩ := ho5.sl.form
  refine app_own encX_len encX_one rfl ho5 (SL.one encX_len b5x) (by simp; omega) ?_
  intro w6 h6 ho6 hc6 hb6
  have hb41 : ∀ b ∈ ablk a5, h1.size ≤ b := fun b hb => hb4 b hb
  have hc16 : Chg [] h1 h6 := (hc4.nil g5.chg).fresh hc6 hb41
  have hb16 : ∀ b ∈ vblk w6, h1.size ≤ b := fun b hb => by
    rcases hb6 b hb with h | h
    · exact hb41 b h
    · have := hc4.size; have := g5.size; omega
  have hv6 := hv1.ext hc16
  obtain ⟨a6, c6, rfl, hoc6⟩ := ho6.sl.form
  have z1 := g1.size
  have fin : ∀ (i : Nat), i ≤ l.length → (l.take (findX x.key l).1 ++ [x] ++ l.drop i = putX l x) → 
      swp Tryz.prog (.seq (.ops f48r6) .ret) (retQ [.t 6] (Ret fun r h' => OL encX 8 h' r (putX l x) ∧ (∀ b ∈ vblk r, h.size ≤ b) ∧ Chg [] h h')) (mk [(9, .slice a6 (l.take (findX x.key l).1 ++ [x]).length c6), (0, .slice a l.length c), (7, .int .i64 i)]) [] h6 := by
    intro i hil hput
    refine SL.slc (lo := i) encX_len hv6 hil (Nat.le_refl _) ?_
    intro a7 _ hs7
    have e : (l.drop i).take (l.length - i) = l.drop i := by rw [List.take_of_length_le]; simp
    rw [e] at hs7
    refine app_own encX_len encX_one rfl ho6 hs7 (by simp; omega) ?_
    intro v8 h8 ho8 hc8 hb8
    have hc18 : Chg [] h1 h8 := hc16.fresh hc8 hb16
    rw [hput] at ho8
    refine And.intro ho8 (And.intro (fun b hb => ?_) (g1.chg.nil hc18))
    rcases hb8 b hb with h | h
    · have := hb16 b h; omega
    · have := hc16.size; omega
  cases hb : (findX x.key l).2 with
  | true =>
    obtain ⟨hlt, _⟩ := findX_hit x.key l hb
    refine And.intro rfl (fun z hz => ?_)
    have hz := add_in hz (by omega) (by omega)
    subst hz
    exact cut_at [(9, .slice a6 (l.take (findX x.key l).1 ++ [x]).length c6), (0, .slice a l.length c), (7, .int .i64 ((findX x.key l).1 + 1 : Nat))] ⟨rfl, rfl, rfl, trivial⟩ (fin ((findX x.key l).1 + 1) hlt (by unfold putX; rw [if_pos hb]))
  | false =>
    refine swp_seq ?_
    exact cut_at [(9, .slice a6 (l.take (findX x.key l).1 ++ [x]).length c6), (0, .slice a l.length c), (7, .int .i64 (findX x.key l).1)] ⟨rfl, rfl, rfl, trivial⟩ (fin (findX x.key l).1 hi (by unfold putX; rw [if_neg (by rw [hb]; simp)]))

def goneT (t : Thing) (now : Int) : Bool := t.hasU && decide (t.unt ≤ now)
/-- What stands under a key. -/
def lookX (l : List RX) (key : ByteArray) : Option Thing := if (findX key l).2 = true then (l[(findX key l).1]?).map (·.thing) else none
def getX (l : List RX) (key : ByteArray) (now : Int) : Option Thing := match lookX l key with
  | some t => if goneT t now = true then none else some t
  | none => none

theorem RGet_calls {h : Heap} {v : Value} {l : List RX} (key : ByteArray) (now : Int) (hv : SL encX h v l) (g : GX h l) (hl : l.length < 4611686018427387904) (hk : key.size < 4611686018427387904) (hf : KeysFit l) :
    CallsH Tryz.prog 29 [v, .string key, .int .i64 now] h (Ret fun r h' => (∃ us, r = .tuple #[.agg ⟨us⟩, .bool (getX l key now).isSome] ∧ TH h' us ((getX l key now).getD zeroT)) ∧ Chg [] h h') := by
  obtain ⟨a, c, rfl, hlc⟩ := hv.form
  refine f29_calls (by simp) ?_
  intro b6 h1 g1
  have B1 : Blk h1 b6 zeroV := g1.blk
  have hv1 := hv.ext g1.chg
  refine call_ret (Find_calls key hv1 hl hk hf) ?_
  rintro _ h9 ⟨rfl, e9⟩
  have e9 := e9.symm
  subst e9
  have z1 := g1.size
  have i1 := g1.id
  cases hb : (findX key l).2 with
  | false =>
    have hn : getX l key now = none := by unfold getX lookX; rw [if_neg (by rw [hb]; simp)]
    refine Exists.intro _ (And.intro B1 (And.intro (by decide) (And.intro rfl (And.intro (thing_one (t := zeroT) (h := h1) zero_TH) ?_))))
    intro h2 p2
    have B2 : Blk h2 b6 zeroV := p2.blk
    refine Exists.intro zeroV (And.intro rfl (And.intro (cells_blk B2) ?_))
    rw [hn]
    exact And.intro (Exists.intro zeroV (And.intro rfl zero_TH)) (g1.chg.fresh p2.chg (by simp; omega))
  | true =>
    obtain ⟨hlt, _⟩ := findX_hit key l hb
    have hlk : lookX l key = some l[(findX key l).1].thing := by unfold lookX; rw [if_pos hb]; simp [hlt]
    obtain ⟨b, o, rfl⟩ := hv1.addr (by omega)
    generalize (findX key l).1 = i at *
    have hcs := hv1.cells encX_len (i := i) (x := l[i]) (by simp [hlt])
    have hx := (g.ext g1.chg) l[i] (List.getElem_mem hlt)
    have yes : goneT l[i].thing now = false →
        swp Tryz.prog (.seq (.ops f29r4) .ret) (retQ [.cn 6 7, .t 7] (Ret fun r h' => (∃ us, r = .tuple #[.agg ⟨us⟩, .bool (getX l key now).isSome] ∧ TH h' us ((getX l key now).getD zeroT)) ∧ Chg [] h h')) (mk [(6, .pointer (some ⟨b6, 0, none⟩)), (0, .slice (some ⟨b, o, none⟩) l.length c), (8, .int .i64 i)]) [] h1 := by
      intro hg
      have hn : getX l key now = some l[i].thing := by unfold getX; rw [hlk]; simp [hg]
      refine And.intro (by omega) (And.intro (by omega) (Exists.intro l[i].vs (And.intro l[i].len (And.intro (cells_vs hcs) ?_))))
      refine Exists.intro _ (And.intro B1 (And.intro (by decide) (And.intro l[i].len (And.intro l[i].one ?_))))
      intro h2 p2
      have B2 : Blk h2 b6 l[i].vs := by
        have h8 : Blk h2 b6 (splice zeroV 0 l[i].vs) := p2.blk
        rw [seven rfl l[i].len] at h8
        exact h8
      refine Exists.intro l[i].vs (And.intro l[i].len (And.intro (cells_blk B2) ?_))
      rw [hn]
      exact And.intro (Exists.intro l[i].vs (And.intro rfl (((g l[i] (List.getElem_mem hlt)).ext (g1.chg.fresh p2.chg (by simp; omega)))))) (g1.chg.fresh p2.chg (by simp; omega))
    refine And.intro (by omega) (And.intro (by omega) (Exists.intro _ (And.intro (cells_vs hcs 5 _ hx.hasU) ?_)))
    cases hU : l[i].thing.hasU with
    | false =>
      exact cut_at [(6, .pointer (some ⟨b6, 0, none⟩)), (0, .slice (some ⟨b, o, none⟩) l.length c), (8, .int .i64 i)] ⟨rfl, rfl, rfl, trivial⟩ (yes (by unfold goneT; rw [hU]; rfl))
    | true =>
      refine And.intro (by omega) (And.intro (by omega) (Exists.intro _ (And.intro (cells_vs hcs 6 _ hx.unt) ?_)))
      refine And.intro rfl (And.intro (fun hle => ?_) (fun hle => ?_))
      · have hn : getX l key now = none := by unfold getX; rw [hlk]; simp [goneT, hU, hle]
        refine Exists.intro _ (And.intro B1 (And.intro (by decide) (And.intro rfl (And.intro (thing_one (t := zeroT) (h := h1) zero_TH) ?_))))
        intro h2 p2
        have B2 : Blk h2 b6 zeroV := p2.blk
        refine Exists.intro zeroV (And.intro rfl (And.intro (cells_blk B2) ?_))
        rw [hn]
        exact And.intro (Exists.intro zeroV (And.intro rfl zero_TH)) (g1.chg.fresh p2.chg (by simp; omega))
      · exact cut_at [(6, .pointer (some ⟨b6, 0, none⟩)), (0, .slice (some ⟨b, o, none⟩) l.length c), (8, .int .i64 i)] ⟨rfl, rfl, rfl, trivial⟩ (yes (by unfold goneT; rw [hU]; simpa using hle))

end Go.Proofs.YtigolfakcblnjaaGreatDoor
namespace Go.Proofs.YtigolfakcblnjaaGreatDoor
open Go Go.Sx Go.Proofs.YtigolfakcblnjaaGreatDoor.C

/-- A thing in a keyspace's map. -/
structure KI where
  key : ByteArray
  tb : Nat
  vs : List Value
  thing : Thing
  born : Nat

def KI.ent (i : KI) : MapEntry := { key := .string i.key, val := ptr i.tb, born := i.born }
def KI.pr (i : KI) : ByteArray × Thing := (i.key, i.thing)
def RX.pr (i : RX) : ByteArray × Thing := (i.key, i.thing)

/-- A keyspace, its things in the order in which the map holds them. -/
structure KR (h : Heap) (kb sb mb c : Nat) (m : List KI) : Prop where
  ks : KS h kb sb mb
  map : MapB h mb (m.map KI.ent) c
  here : ∀ i ∈ m, Blk h i.tb i.vs ∧ TH h i.vs i.thing ∧ Lens i.thing
  nodup : (m.map KI.key).Nodup
  born : ∀ i ∈ m, i.born < c
  borns : (m.map KI.born).Nodup
  keys : ∀ i ∈ m, i.key.size ≤ 1048576
  len : m.length ≤ 65536

theorem KR.ext {h h' : Heap} {kb sb mb c : Nat} {m : List KI} (x : KR h kb sb mb c m) (hc : Chg [] h h') : KR h' kb sb mb c m :=
  ⟨x.ks.chg hc (by simp) (by simp), x.map.chg hc (by simp), fun i hi => ⟨(x.here i hi).1.chg hc (by simp), (x.here i hi).2.1.ext hc, (x.here i hi).2.2⟩, x.nodup, x.born, x.borns, x.keys, x.len⟩

theorem ents_fit (m : List KI) : ∀ e ∈ m.map KI.ent, fits .str e.key = true := by
  intro e he
  obtain ⟨i, _, rfl⟩ := List.mem_map.1 he
  rfl

theorem str_same (a b : ByteArray) : Instr.sameBits 10000 (.string a) (.string b) = decide (a = b) := by
  cases hd : decide (a = b) with
  | true =>
    have := of_decide_eq_true hd
    subst this
    exact sameBits_refl (k := .str) rfl
  | false =>
    cases h : Instr.sameBits 10000 (.string a) (.string b) with
    | false => rfl
    | true =>
      have := sameBits_eq (k := .str) rfl rfl h
      simp at this
      exact absurd this (of_decide_eq_false hd)

theorem mfind_ents (key : ByteArray) : ∀ (m : List KI) (n : Nat), (mfind (.string key) (m.map KI.ent) n = none ∧ ∀ i ∈ m, i.key ≠ key) ∨
    ∃ (j : Nat) (i : KI), mfind (.string key) (m.map KI.ent) n = some (n + j, ptr i.tb) ∧ m[j]? = some i ∧ i.key = key
  | [], n => .inl ⟨rfl, by simp⟩
  | x :: m, n => by
    simp only [List.map_cons, mfind]
    rw [show (KI.ent x).key = .string x.key from rfl, str_same]
    by_cases hk : key = x.key
    · exact .inr ⟨0, x, by simp [hk, KI.ent], rfl, hk.symm⟩
    · rw [if_neg (by simpa using hk)]
      rcases mfind_ents key m (n + 1) with ⟨h1, h2⟩ | ⟨j, i, h1, h2, h3⟩
      · exact .inl ⟨h1, fun i hi => by
          rcases List.mem_cons.1 hi with rfl | hi
          · exact fun e => hk e.symm
          · exact h2 i hi⟩
      · exact .inr ⟨j + 1, i, by rw [h1, show n + 1 + j = n + (j + 1) by omega], by simpa using h2, h3⟩

/-! ### The reference's Of -/
def ofX : List RX → List RX → Option (List RX)
  | acc, [] => some acc
  | acc, x :: r => if (findX x.key acc).2 = true ∨ kOK x.thing = false then none else ofX (putX acc x) r

/-- Few and small. -/
structure NVast (l : List RX) : Prop where
  len : l.length ≤ 20
  keys : ∀ x ∈ l, x.key.size ≤ 300
  small : ∀ x ∈ l, Small x.thing

theorem NVast.fit {l : List RX} (n : NVast l) : KeysFit l := fun x hx => by have := n.keys x hx; omega

theorem ofX_ok : ∀ {r acc k : List RX}, UpX acc → ofX acc r = some k → UpX k ∧ (∀ y, y ∈ k ↔ y ∈ acc ∨ y ∈ r) ∧ k.length = acc.length + r.length
  | [], acc, k, hu, h => by
    simp only [ofX, Option.some.injEq] at h
    subst h
    exact ⟨hu, by simp, by simp⟩
  | x :: r, acc, k, hu, h => by
    simp only [ofX] at h
    split at h
    · cases h
    · rename_i hn
      have hf : (findX x.key acc).2 = false := by
        cases hb : (findX x.key acc).2 with
        | false => rfl
        | true => exact absurd (.inl hb) hn
      obtain ⟨h1, h2, h3⟩ := ofX_ok (up_putX hu) h
      refine ⟨h1, fun y => ?_, by rw [h3, putX_new hf]; simp; omega⟩
      rw [h2, mem_putX hu, List.mem_cons]
      constructor
      · rintro ((rfl | ⟨h, _⟩) | h)
        · exact .inr (.inl rfl)
        · exact .inl h
        · exact .inr (.inr h)
      · rintro (h | rfl | h)
        · refine .inl (.inr ⟨h, fun e => ?_⟩)
          have := findX_has hu ⟨y, h, e⟩
          rw [hf] at this; cases this
        · exact .inl (.inl rfl)
        · exact .inr h

end Go.Proofs.YtigolfakcblnjaaGreatDoor
namespace Go.Proofs.YtigolfakcblnjaaGreatDoor
open Go Go.Sx Go.Proofs.YtigolfakcblnjaaGreatDoor.C

/-- All cells are as they were; maps may have turned. -/
structure CH (h h' : Heap) : Prop where
  blk : ∀ b l, Blk h b l → Blk h' b l
  cell : ∀ b o v, cell h b o = some v → cell h' b o = some v

theorem CH.trans {a b c : Heap} (x : CH a b) (y : CH b c) : CH a c := ⟨fun _ _ hb => y.blk _ _ (x.blk _ _ hb), fun _ _ _ hb => y.cell _ _ _ (x.cell _ _ _ hb)⟩

theorem ne_map {h : Heap} {b mb c : Nat} {l : List Value} {es : List MapEntry} (hb : Blk h b l) (hm : MapB h mb es c) : b ≠ mb := by
  rintro rfl
  obtain ⟨e, he⟩ := hb
  have hm : h[b]? = _ := hm
  rw [he] at hm; cases hm

theorem ch_putO {h h' : Heap} {mb c : Nat} {es : List MapEntry} {o : Obj} (hm : MapB h mb es c) (p : PutO h h' mb o) : CH h h' := by
  refine ⟨fun b l hb => ?_, fun b o v hc => ?_⟩
  · have := ne_map hb hm
    obtain ⟨e, he⟩ := hb
    exact ⟨e, by rw [p.old b this]; exact he⟩
  · have hne : b ≠ mb := by
      rintro rfl
      have hm : h[b]? = _ := hm
      unfold Sx.cell at hc
      rw [hm] at hc; cases hc
    unfold Sx.cell at hc ⊢
    rw [p.old b hne]; exact hc

theorem SL.ch {α : Type} {enc : α → List Value} {h h' : Heap} {v : Value} {l : List α} (hs : SL enc h v l) (x : CH h h') : SL enc h' v l := by
  obtain ⟨a, c, rfl, h1, h2⟩ := hs
  refine ⟨a, c, rfl, h1, ?_⟩
  cases a with
  | none => exact h2
  | some a =>
    obtain ⟨b, o, sp⟩ := a
    cases sp with
    | some q => exact h2
    | none => exact fun i v hv => x.cell _ _ _ (h2 i v hv)

theorem TH.ch {h h' : Heap} {vs : List Value} {t : Thing} (x : TH h vs t) (hc : CH h h') : TH h' vs t := by
  obtain ⟨pv, lv, rv, rfl, h2, h3, h4⟩ := x
  exact ⟨pv, lv, rv, rfl, SL.ch h2 hc, SL.ch h3 hc, SL.ch h4 hc⟩

theorem KS.ch {h h' : Heap} {kb sb mb : Nat} (x : KS h kb sb mb) (hc : CH h h') : KS h' kb sb mb := ⟨hc.blk _ _ x.k, hc.blk _ _ x.s⟩

/-- A new thing is put. -/
theorem KR.put {h h' : Heap} {kb sb mb c tb : Nat} {m : List KI} {key : ByteArray} {us : List Value} {t : Thing} (x : KR h kb sb mb c m)
    (p : PutO h h' mb (.map ⟨m.map KI.ent ++ [{ key := .string key, val := ptr tb, born := c }]⟩ (c + 1))) (hn : ∀ i ∈ m, i.key ≠ key) (hk : key.size ≤ 1048576) (B : Blk h tb us) (tx : TH h us t) (n : Lens t) (hl : m.length < 65536) :
    KR h' kb sb mb (c + 1) (m ++ [⟨key, tb, us, t, c⟩]) := by
  have ch := ch_putO x.map p
  refine ⟨x.ks.ch ch, ?_, fun i hi => ?_, ?_, fun i hi => ?_, ?_, fun i hi => ?_, by simp; omega⟩
  · show h'[mb]? = _
    rw [p.blk]
    simp [KI.ent]
  · rcases List.mem_append.1 hi with hi | hi
    · obtain ⟨h1, h2, h3⟩ := x.here i hi
      exact ⟨ch.blk _ _ h1, h2.ch ch, h3⟩
    · simp at hi
      subst hi
      exact ⟨ch.blk _ _ B, tx.ch ch, n⟩
  · rw [List.map_append, List.nodup_append]
    refine ⟨x.nodup, by simp, ?_⟩
    intro a ha b hb
    obtain ⟨i, hi, rfl⟩ := List.mem_map.1 ha
    simp at hb
    subst hb
    exact hn i hi
  · rcases List.mem_append.1 hi with hi | hi
    · have := x.born i hi; omega
    · simp at hi
      subst hi
      exact Nat.lt_succ_self _
  · rw [List.map_append, List.nodup_append]
    refine ⟨x.borns, by simp, ?_⟩
    intro a ha b hb
    obtain ⟨i, hi, rfl⟩ := List.mem_map.1 ha
    simp at hb
    subst hb
    have := x.born i hi
    exact fun e => by omega
  · rcases List.mem_append.1 hi with hi | hi
    · exact x.keys i hi
    · simp at hi
      subst hi
      exact hk

theorem eight {ws vs : List Value} (hw : ws.length = 8) (hv : vs.length = 8) : splice ws 0 vs = vs := by
  match ws, hw, vs, hv with
  | [_, _, _, _, _, _, _, _], _, [_, _, _, _, _, _, _, _], _ => rfl

def zeroX : List Value := [.string ⟨#[]⟩, .int .i64 0, .string ⟨#[]⟩, .slice none 0 0, .slice none 0 0, .slice none 0 0, .bool false, .int .i64 0]

theorem cells_tail {h : Heap} {b : Nat} {x : RX} (B : Blk h b (encX x)) : Cells h b 1 x.vs := cells_part B fun i v hv => by
  rw [Nat.add_comm]; exact hv

def OfK (h : Heap) (l : List RX) (r : Value) (h' : Heap) : Prop := Chg [] h h' ∧ match ofX [] l with
  | none => r = .tuple #[.pointer none, .int .i64 2]
  | some _ => ∃ kb sb mb c m, r = .tuple #[ptr kb, .int .i64 0] ∧ KR h' kb sb mb c m ∧ m.map KI.pr = l.map RX.pr ∧ h.size ≤ mb

theorem ofK_bad {h h' : Heap} {l : List RX} (hc : Chg [] h h') (hn : ofX [] l = none) : OfK h l (.tuple #[.pointer none, .int .i64 2]) h' := by
  refine ⟨hc, ?_⟩
  rw [hn]

theorem KOf_calls {h : Heap} {v : Value} {l : List RX} (hv : SL encX h v l) (g : GX h l) (nv : NVast l) :
    CallsH Tryz.prog 25 [v] h (Ret (OfK h l)) := by
  have hl := nv.len
  obtain ⟨a, c, rfl, hlc⟩ := hv.form
  refine f25_calls (by simp) ?_
  refine call_ret New_calls ?_
  rintro _ h1 ⟨kb, sb, mb, rfl, ks1, hm1, emb, _, _, hc1⟩
  have kr1 : KR h1 kb sb mb 0 [] := ⟨ks1, hm1, by simp, by simp, by simp, by simp, by simp, by simp⟩
  refine loop_intro (fun k : Nat => [(0, .slice a l.length c), (4, ptr kb), (11, .slice a l.length c), (12, .int .i64 l.length), (13, .int .i64 k)])
    (fun k h' => k ≤ l.length ∧ Chg [] h h' ∧ ∃ m acc, KR h' kb sb mb k m ∧ m.map KI.pr = (l.take k).map RX.pr ∧ UpX acc ∧ ofX [] l = ofX acc (l.drop k) ∧ ∀ y, y ∈ acc ↔ y ∈ l.take k) (fun k => l.length - k) 0
    ⟨rfl, rfl, rfl, rfl, rfl, trivial⟩ ⟨Nat.zero_le _, hc1, [], [], kr1, rfl, List.Pairwise.nil, rfl, by simp⟩ ?_
  rintro k h2 ⟨hk, hc2, m, acc, kr2, hpr, hup, hof, hacc⟩
  refine And.intro rfl (And.intro (fun ht => ?_) (fun ht => ?_))
  · have hlt : k < l.length := by omega
    obtain ⟨b, o, rfl⟩ := hv.addr (by omega)
    have hcs := (hv.ext hc2).cells encX_len (i := k) (x := l[k]) (by simp [hlt])
    have hdr : l.drop k = l[k] :: l.drop (k + 1) := List.drop_eq_getElem_cons hlt
    have tk : l.take (k + 1) = l.take k ++ [l[k]] := take_snoc l k hlt
    have hmem : l[k] ∈ l := List.getElem_mem hlt
    have hx := g _ hmem
    have hsm := nv.small _ hmem
    have hkz := nv.keys _ hmem
    generalize hxe : l[k] = x at *
    have hml : m.length = k := by
      have := congrArg List.length hpr
      simp at this; omega
    refine And.intro (by omega) (And.intro ht (Exists.intro (encX x) (And.intro (encX_len x) (And.intro hcs ?_))))
    intro b6 h3 g3
    refine Exists.intro _ (And.intro g3.blk (And.intro (by decide) (And.intro (encX_len x) (And.intro (encX_one x) ?_))))
    intro h4 p4
    have g4 := g3.put p4
    have B4 : Blk h4 b6 (encX x) := by
      have h8 : Blk h4 b6 (splice zeroX 0 (encX x)) := p4.blk
      rw [eight rfl (encX_len x)] at h8
      exact h8
    have c24 := g4.chg
    have kr4 := kr2.ext c24
    have hc4 := hc2.nil c24
    refine Exists.intro _ (And.intro (cell_blk kr4.ks.k rfl) (Exists.intro _ (And.intro (cell_blk kr4.ks.s rfl) (Exists.intro _ (And.intro (cell_blk B4 rfl) ?_)))))
    refine And.intro rfl (Exists.intro (m.map KI.ent) (Exists.intro k (And.intro kr4.map (And.intro (ents_fit m) ?_))))
    rw [hdr] at hof
    rcases mfind_ents x.key m 0 with ⟨hmf, hno⟩ | ⟨j, i, hmf, hj, hik⟩
    rotate_left
    · rw [hmf]
      refine ofK_bad hc4 ?_
      have him : i ∈ m := List.mem_of_getElem? hj
      have : i.pr ∈ (l.take k).map RX.pr := by rw [← hpr]; exact List.mem_map_of_mem him
      obtain ⟨y, hy, hyp⟩ := List.mem_map.1 this
      have hyk : y.key = x.key := by
        have := congrArg Prod.fst hyp
        exact this.trans hik
      rw [hof, ofX, if_pos (.inl (findX_has hup ⟨y, (hacc y).2 hy, hyk⟩))]
    · rw [hmf]
      refine Exists.intro _ (And.intro (cell_blk B4 rfl) ?_)
      refine And.intro rfl (And.intro (fun big => absurd big (by omega)) (fun _ => ?_))
      refine Exists.intro x.vs (And.intro x.len (And.intro (cells_tail B4) ?_))
      refine call_ret (KCheck_calls (hx.ext hc4) hsm) ?_
      rintro r h5 ⟨hr, c45⟩
      have hc5 := hc4.nil c45
      have hfn : (findX x.key acc).2 = false := by
        cases hb : (findX x.key acc).2 with
        | false => rfl
        | true =>
          obtain ⟨y, hy, hyk⟩ := findX_mem hb
          have : y.pr ∈ m.map KI.pr := by rw [hpr]; exact List.mem_map_of_mem ((hacc y).1 hy)
          obtain ⟨i, hi, hip⟩ := List.mem_map.1 this
          have : i.key = y.key := congrArg Prod.fst hip
          exact absurd (this.trans hyk) (hno i hi)
      cases hko : kOK x.thing with
      | false =>
        rw [hko] at hr
        subst hr
        refine ofK_bad hc5 ?_
        rw [hof, ofX, if_pos (.inr hko)]
      | true =>
        rw [hko] at hr
        subst hr
        have B5 := B4.chg c45 (by simp)
        refine Exists.intro x.vs (And.intro x.len (And.intro (cells_tail B5) ?_))
        refine call_ret (copied_calls (hx.ext hc5) hsm.lens) ?_
        rintro _ h6 ⟨⟨us, rfl, tu, hub⟩, c56⟩
        intro b9 h7 g7
        refine Exists.intro _ (And.intro g7.blk (And.intro (by decide) (And.intro tu.len (And.intro (thing_one tu) ?_))))
        intro h8 p8
        have g8 := g7.put p8
        have B8 : Blk h8 b9 us := by
          have h9 : Blk h8 b9 (splice zeroV 0 us) := p8.blk
          rw [seven rfl tu.len] at h9
          exact h9
        have c58 := c56.nil g8.chg
        have kr8 := (kr4.ext c45).ext c58
        have B68 := B5.chg c58 (by simp)
        refine Exists.intro _ (And.intro (cell_blk kr8.ks.k rfl) (Exists.intro _ (And.intro (cell_blk kr8.ks.s rfl) (Exists.intro _ (And.intro (cell_blk B68 rfl) ?_)))))
        refine And.intro rfl (Exists.intro (m.map KI.ent) (Exists.intro k (And.intro kr8.map (And.intro (ents_fit m) ?_))))
        rw [hmf]
        intro h9 p9
        have kr9 := kr8.put p9 hno (by omega) B8 (tu.ext g8.chg) hsm.lens (by omega)
        have hc8 := hc5.nil c58
        refine And.intro rfl (fun z hz => ?_)
        have hz := add_in hz (by omega) (by omega)
        subst hz
        refine And.intro rfl (Exists.intro (k + 1) (And.intro ?_ (And.intro ?_ ?_)))
        · exact ⟨rfl, rfl, rfl, rfl, rfl, trivial⟩
        · refine ⟨by omega, hc8.fresh p9.chg (by simp; omega), _, putX acc x, kr9, ?_, up_putX hup, ?_, fun y => ?_⟩
          · rw [tk, List.map_append, List.map_append, hpr]; rfl
          · rw [hof, ofX, if_neg]
            rintro (h | h)
            · rw [hfn] at h; cases h
            · rw [hko] at h; cases h
          · rw [mem_putX hup, tk, List.mem_append, List.mem_singleton, hacc]
            constructor
            · rintro (h | ⟨h, _⟩)
              · exact .inr h
              · exact .inl h
            · rintro (h | h)
              · refine .inr ⟨h, fun e => ?_⟩
                have := findX_has hup ⟨y, (hacc y).2 h, e⟩
                rw [hfn] at this; cases this
              · exact .inl h
        · omega
  · have hlt : k = l.length := by omega
    subst hlt
    refine And.intro rfl (And.intro (fun big => absurd big (by omega)) (fun _ => ?_))
    refine ⟨hc2, ?_⟩
    rw [hof, List.drop_length, ofX]
    rw [List.take_length] at hpr
    exact ⟨kb, sb, mb, _, m, rfl, kr2, hpr, by omega⟩

end Go.Proofs.YtigolfakcblnjaaGreatDoor
namespace Go.Proofs.YtigolfakcblnjaaGreatDoor
open Go Go.Sx Go.Proofs.YtigolfakcblnjaaGreatDoor.C

abbrev bytesL (b : ByteArray) : List UInt8 := b.data.toList
abbrev ofL (l : List UInt8) : ByteArray := ⟨l.toArray⟩

/-- The heap behind maps.Keys: one new block holds the map. -/
def keysHeap (h : Heap) (mb : Nat) : Heap := h.push (.cells #[.map (some mb)] 94)

/-- How an element reads: as nothing. -/
def RN : Value → Option (DataW Unit × List MemPlace) := fun _ => some (.nil, [])

end Go.Proofs.YtigolfakcblnjaaGreatDoor
namespace Go.Proofs.YtigolfakcblnjaaGreatDoor
open Go Go.Sx Go.Proofs.YtigolfakcblnjaaGreatDoor.C

/-- A keyspace's things, by rising keys. -/
structure Sorted (m : List KI) (W : List (ByteArray × Thing)) : Prop where
  up : W.Pairwise fun a b => sless a.1 b.1 = true
  mem : ∀ p, p ∈ W ↔ p ∈ m.map KI.pr

end Go.Proofs.YtigolfakcblnjaaGreatDoor
namespace Go.Proofs.YtigolfakcblnjaaGreatDoor
open Go Go.Sx Go.Proofs.YtigolfakcblnjaaGreatDoor.C

theorem loopB_chg {S : List Nat} {h h' : Heap} {l : Nat} {r : Loop} {st : LoopState} {p : Option Go.Code} (hl : LoopB h l r st p) (hc : Chg S h h') (hn : l ∉ S) : LoopB h' l r st p := ⟨get_chg hl.at_ hc hn⟩

/-- What holds between two rounds. -/
structure Round (h0 : Heap) (l D b1 kb : Nat) (r : Loop) (p : Nat) (h : Heap) : Prop where
  loop : LoopB h l r .ready none
  mark : h[D]? = some (.deferred (some []))
  b1 : Blk h b1 [ptr kb]
  chg : Chg [] h0 h
  lt : l < p
  pn : p < h.size

theorem Round.ext {h0 h h' : Heap} {l D b1 kb : Nat} {r : Loop} {p : Nat} (x : Round h0 l D b1 kb r p h) (hc : Chg [] h h') : Round h0 l D b1 kb r p h' :=
  ⟨loopB_chg x.loop hc (by simp), get_chg x.mark hc (by simp), x.b1.chg hc (by simp), x.chg.nil hc, x.lt, Nat.lt_of_lt_of_le x.pn hc.size⟩

end Go.Proofs.YtigolfakcblnjaaGreatDoor
namespace Go.Proofs.YtigolfakcblnjaaGreatDoor
open Go Go.Sx Go.Proofs.YtigolfakcblnjaaGreatDoor.C

/-- An effect. -/
structure Eff where
  op : Int
  key : ByteArray
  name : ByteArray
  text : ByteArray
  num : Int

def encD (e : Eff) : List Value := [.int .i64 e.op, .string e.key, .string e.name, .string e.text, .int .i64 e.num]
theorem encD_len (e : Eff) : (encD e).length = 5 := rfl
/-- Few and short effects. -/
structure DSmall (d : List Eff) : Prop where
  len : d.length ≤ 60
  each : ∀ e ∈ d, e.key.size ≤ 300 ∧ e.name.size ≤ 300 ∧ e.text.size ≤ 300

/-- Things and keys of a length that the walks can count. -/
structure XFit (l : List RX) : Prop where
  len : l.length < 4611686018427387904
  keys : ∀ x ∈ l, x.key.size < 4611686018427387904
  fits : ∀ x ∈ l, Fits x.thing
  sized : ∀ x ∈ l, Sized x.thing

structure DFit (d : List Eff) : Prop where
  len : d.length < 4611686018427387904
  each : ∀ e ∈ d, e.key.size < 4611686018427387904 ∧ e.name.size < 4611686018427387904 ∧ e.text.size < 4611686018427387904

/-- What the reference's Of gives. -/
def OfR (h : Heap) (l : List RX) (r : Value) (h' : Heap) : Prop := Chg [] h h' ∧ match ofX [] l with
  | none => r = .tuple #[.slice none 0 0, .int .i64 2]
  | some k => ∃ u, r = .tuple #[u, .int .i64 0] ∧ OL encX 8 h' u k ∧ ∀ b ∈ vblk u, h.size ≤ b

theorem ofR_bad {h h' : Heap} {l : List RX} (hc : Chg [] h h') (hn : ofX [] l = none) : OfR h l (.tuple #[.slice none 0 0, .int .i64 2]) h' := by
  refine ⟨hc, ?_⟩
  rw [hn]

theorem ROf_calls {h : Heap} {v : Value} {l : List RX} (hv : SL encX h v l) (g : GX h l) (nv : NVast l) :
    CallsH Tryz.prog 26 [v] h (Ret (OfR h l)) := by
  have hl := nv.len
  obtain ⟨a, c, rfl, hlc⟩ := hv.form
  refine f26_calls (by simp) ?_
  refine loop_intro (fun i : Nat × Option Addr × Nat × List RX => [(0, .slice a l.length c), (4, .slice i.2.1 i.2.2.2.length i.2.2.1), (5, .int .i64 i.1)])
    (fun i h' => i.1 ≤ l.length ∧ Chg [] h h' ∧ OL encX 8 h' (.slice i.2.1 i.2.2.2.length i.2.2.1) i.2.2.2 ∧ (∀ b ∈ ablk i.2.1, h.size ≤ b) ∧ ofX [] l = ofX i.2.2.2 (l.drop i.1) ∧ i.2.2.2.length ≤ i.1 ∧ KeysFit i.2.2.2) (fun i => l.length - i.1) (0, none, 0, [])
    ⟨rfl, rfl, rfl, trivial⟩ ⟨Nat.zero_le _, Chg.refl h, OL.nil, by simp [ablk], rfl, Nat.le_refl _, by intro x hx; simp at hx⟩ ?_
  rintro ⟨k, a2, c2, acc⟩ h1 ⟨hk, hc1, ho, hfr, hof, hal, hkf⟩
  simp only at hk ho hfr hof hal hkf
  have hv1 := hv.ext hc1
  refine And.intro rfl (And.intro (fun ht => ?_) (fun ht => ?_))
  · have hlt : k < l.length := by omega
    obtain ⟨b, o, rfl⟩ := hv1.addr (by omega)
    have hcs := hv1.cells encX_len (i := k) (x := l[k]) (by simp [hlt])
    have hdr : l.drop k = l[k] :: l.drop (k + 1) := List.drop_eq_getElem_cons hlt
    have hmem : l[k] ∈ l := List.getElem_mem hlt
    have hkz := nv.keys _ hmem
    rw [hdr] at hof
    refine And.intro (by omega) (And.intro (by omega) (Exists.intro _ (And.intro (hcs 0 _ rfl) ?_)))
    refine call_ret (Find_calls l[k].key ho.sl (by omega) (by omega) hkf) ?_
    rintro _ h9 ⟨rfl, e9⟩
    have e9 := e9.symm
    subst e9
    cases hb : (findX l[k].key acc).2 with
    | true => exact ofR_bad hc1 (by rw [hof, ofX, if_pos (.inl hb)])
    | false =>
      refine And.intro (by omega) (And.intro (by omega) (Exists.intro _ (And.intro (hcs 0 _ rfl) ?_)))
      refine And.intro rfl (And.intro (fun big => absurd big (by omega)) (fun _ => ?_))
      refine And.intro (by omega) (And.intro (by omega) (Exists.intro l[k].vs (And.intro l[k].len (And.intro (cells_vs hcs) ?_))))
      refine call_ret (RCheck_calls ((g.ext hc1) _ hmem) (nv.small _ hmem)) ?_
      rintro r2 h2 ⟨hr2, hc2⟩
      cases hko : kOK l[k].thing with
      | false =>
        rw [hko] at hr2
        subst hr2
        exact ofR_bad (hc1.nil hc2) (by rw [hof, ofX, if_pos (.inr hko)])
      | true =>
        rw [hko] at hr2
        subst hr2
        have hcs2 := (hv1.ext hc2).cells encX_len (i := k) (x := l[k]) (by simp [hlt])
        refine And.intro (by omega) (And.intro (by omega) (Exists.intro _ (And.intro (hcs2 0 _ rfl) ?_)))
        refine And.intro (by omega) (And.intro (by omega) (Exists.intro l[k].vs (And.intro l[k].len (And.intro (cells_vs hcs2) ?_))))
        refine call_ret (Put_calls l[k] (ho.ext hc2).sl (by omega) (by omega) hkf) ?_
        rintro v3 h3 ⟨ho3, hb3, hc3⟩
        obtain ⟨a3, c3, rfl, hcc3⟩ := ho3.sl.form
        have hpl := putX_len acc l[k]
        refine And.intro rfl (fun z hz => ?_)
        have hz := add_in hz (by omega) (by omega)
        subst hz
        refine And.intro rfl (Exists.intro (k + 1, a3, c3, putX acc l[k]) (And.intro ?_ (And.intro ?_ ?_)))
        · exact ⟨rfl, rfl, rfl, trivial⟩
        · have z1 := hc1.size
          have z2 := hc2.size
          refine ⟨by simp only; omega, (hc1.nil hc2).nil hc3, ho3, fun b hb => by have := hb3 b hb; omega, ?_, by simp only; omega, fun x hx => ?_⟩
          · rw [hof, ofX, if_neg]
            rintro (h | h)
            · rw [hb] at h; cases h
            · rw [hko] at h; cases h
          · have hx : x ∈ putX acc l[k] := hx
            unfold putX at hx
            rcases List.mem_append.1 hx with hx | hx
            · rcases List.mem_append.1 hx with hx | hx
              · exact hkf x (List.mem_of_mem_take hx)
              · simp at hx
                subst hx
                omega
            · exact hkf x (List.mem_of_mem_drop hx)
        · simp only; omega
  · have hkl : k = l.length := by omega
    subst hkl
    refine And.intro rfl (And.intro (fun big => absurd big (by omega)) (fun _ => ?_))
    refine ⟨hc1, ?_⟩
    rw [hof, List.drop_length, ofX]
    exact ⟨_, rfl, ho, hfr⟩

end Go.Proofs.YtigolfakcblnjaaGreatDoor
namespace Go.Proofs.YtigolfakcblnjaaGreatDoor
open Go Go.Sx Go.Proofs.YtigolfakcblnjaaGreatDoor.C

theorem sorted_of {m : List KI} {l k : List RX} (hpr : m.map KI.pr = l.map RX.pr) (hk : ofX [] l = some k) : Sorted m (k.map RX.pr) := by
  obtain ⟨h1, h2, _⟩ := ofX_ok (acc := []) List.Pairwise.nil hk
  refine ⟨List.Pairwise.map RX.pr (fun _ _ h => h) h1, fun p => ?_⟩
  rw [hpr, List.mem_map, List.mem_map]
  constructor
  · rintro ⟨x, hx, rfl⟩
    exact ⟨x, by simpa using (h2 x).1 hx, rfl⟩
  · rintro ⟨x, hx, rfl⟩
    exact ⟨x, (h2 x).2 (by simp [hx]), rfl⟩

def mkD (D : Nat) : Deferred := { target := .collected D, args := #[] }

end Go.Proofs.YtigolfakcblnjaaGreatDoor
