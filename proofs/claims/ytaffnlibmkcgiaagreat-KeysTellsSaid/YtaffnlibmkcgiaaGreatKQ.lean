/-
  Layer 7: the reference's Find, Put, Get, Names.
-/
import Derived.Test.YtaffnlibmkcgiaaGreatKP
namespace Go.Proofs.YtaffnlibmkcgiaaGreat
open Go Go.Sx Go.Proofs.YtaffnlibmkcgiaaGreat.C

theorem cells_vs {h : Heap} {b o : Nat} {x : RX} (hc : Cells h b o (encX x)) : Cells h b (o + 1) x.vs := fun i v hv => by
  have := hc (i + 1) v hv
  rw [show o + 1 + i = o + (i + 1) by omega]; exact this

theorem swp_seq {P : Program} {a b : SCode} {Q : Post} {σ : Env} {ds : List Deferred} {h : Heap} (hs : swp P a (thenQ (swp P b Q) Q) σ ds h) : swp P (.seq a b) Q σ ds h := hs

theorem seven_form {vs : List Value} (h : vs.length = 7) : ∃ a b c d e f g, vs = [a, b, c, d, e, f, g] := by
  match vs, h with
  | [a, b, c, d, e, f, g], _ => exact ⟨a, b, c, d, e, f, g, rfl⟩

theorem TH.hasU {h : Heap} {vs : List Value} {t : Thing} (x : TH h vs t) : vs[5]? = some (.bool t.hasU) := by
  obtain ⟨pv, lv, rv, rfl, _⟩ := x
  rfl
theorem TH.unt {h : Heap} {vs : List Value} {t : Thing} (x : TH h vs t) : vs[6]? = some (.int .i64 t.unt) := by
  obtain ⟨pv, lv, rv, rfl, _⟩ := x
  rfl

/-- Keys are of a length that the walks can count. -/
def KeysFit (l : List RX) : Prop := ∀ x ∈ l, x.key.size < 4611686018427387904

theorem Find_calls {h : Heap} {v : Value} {l : List RX} (key : ByteArray) (hv : SL encX h v l) (hl : l.length < 4611686018427387904) (hk : key.size < 4611686018427387904) (hf : KeysFit l) :
    CallsH Tryz.prog 20 [v, .string key] h (Ret fun r h' => r = .tuple #[.int .i64 (findX key l).1, .bool (findX key l).2] ∧ h' = h) := by
  obtain ⟨a, c, rfl, hlc⟩ := hv.form
  refine f20_calls (by simp) ?_
  refine loop_intro (fun k : Nat => [(0, .slice a l.length c), (1, .string key), (6, .int .i64 k)]) (fun k h' => k ≤ l.length ∧ h' = h ∧ findX key l = ((findX key (l.drop k)).1 + k, (findX key (l.drop k)).2)) (fun k => l.length - k) 0
    ⟨rfl, rfl, rfl, trivial⟩ ⟨Nat.zero_le _, rfl, by simp⟩ ?_
  rintro k h1 ⟨hk1, e1, hfx⟩
  have e1 := e1.symm
  subst e1
  refine And.intro rfl (And.intro (fun ht => ?_) (fun ht => ?_))
  · have hlt : k < l.length := by omega
    obtain ⟨b, o, rfl⟩ := hv.addr (by omega)
    have hcs := hv.cells encX_len (i := k) (x := l[k]) (by simp [hlt])
    have hdr : l.drop k = l[k] :: l.drop (k + 1) := List.drop_eq_getElem_cons hlt
    rw [hdr] at hfx
    refine And.intro (by omega) (And.intro (by omega) (Exists.intro _ (And.intro (hcs 0 _ rfl) ?_)))
    refine And.intro (fun heq => ?_) (fun hne => ?_)
    · have e : findX key l = (k, true) := by rw [hfx]; simp [findX, heq]
      exact And.intro (by rw [e]; rfl) rfl
    · refine And.intro (by omega) (And.intro (by omega) (Exists.intro _ (And.intro (hcs 0 _ rfl) ?_)))
      refine call_ret (Less_calls key l[k].key hk (hf _ (List.getElem_mem hlt))) ?_
      rintro r h2 ⟨hr, e2⟩
      have e2 := e2.symm
      subst e2
      cases hs : sless key l[k].key with
      | true =>
        rw [hs] at hr
        subst hr
        have e : findX key l = (k, false) := by rw [hfx, findX, if_neg hne, if_pos hs]; simp
        exact And.intro (by rw [e]; rfl) rfl
      | false =>
        rw [hs] at hr
        subst hr
        refine And.intro rfl (fun z hz => ?_)
        have hz := add_in hz (by omega) (by omega)
        subst hz
        refine And.intro rfl (Exists.intro (k + 1) (And.intro ?_ (And.intro ?_ ?_)))
        · exact ⟨rfl, rfl, rfl, trivial⟩
        · refine ⟨by omega, rfl, ?_⟩
          rw [hfx, findX, if_neg hne, if_neg (by rw [hs]; simp)]
          simp; omega
        · omega
  · have hlt : k = l.length := by omega
    subst hlt
    have e : findX key l = (l.length, false) := by rw [hfx]; simp [findX]
    exact And.intro (by rw [e]; rfl) rfl

theorem Put_calls {h : Heap} {v : Value} {l : List RX} (x : RX) (hv : SL encX h v l) (hl : l.length ≤ 100000) (hk : x.key.size < 4611686018427387904) (hf : KeysFit l) :
    CallsH Tryz.prog 33 [v, .string x.key, .agg ⟨x.vs⟩] h (Ret fun r h' => OL encX 8 h' r (putX l x) ∧ (∀ b ∈ vblk r, h.size ≤ b) ∧ Chg [] h h') := by
  obtain ⟨a, c, rfl, hlc⟩ := hv.form
  obtain ⟨v0, v1, v2, v3, v4, v5, v6, hvs⟩ := seven_form x.len
  rw [hvs]
  refine f33_calls (by simp) ?_
  intro b5 h1 g1
  have B1 : Blk h1 b5 [v0, v1, v2, v3, v4, v5, v6] := g1.blk
  have hv1 := hv.ext g1.chg
  refine call_ret (Find_calls x.key hv1 (by omega) hk hf) ?_
  rintro _ h9 ⟨rfl, e9⟩
  have e9 := e9.symm
  subst e9
  have hi := findX_le x.key l
  refine SL.slc (lo := 0) encX_len hv1 (Nat.zero_le _) hi ?_
  intro a1 _ hs1
  simp only [Nat.sub_zero, List.drop_zero] at hs1 ⊢
  refine app_new encX_len encX_one rfl hs1 (by simp; omega) ?_
  intro w4 h4 ho4 hc4 hb4
  have B4 := B1.chg hc4 (by simp)
  refine Exists.intro [v0, v1, v2, v3, v4, v5, v6] (And.intro rfl (And.intro (cells_blk B4) ?_))
  intro b5' h5 g5
  have b5x : Blk h5 b5' (encX x) := by have := g5.blk; unfold encX; rw [hvs]; exact this
  have ho5 := ho4.ext g5.chg
  obtain ⟨a5, c5, rfl, hoc5⟩ := ho5.sl.form
  refine app_own encX_len encX_one rfl ho5 (SL.one encX_len b5x) (by simp; omega) ?_
  intro w6 h6 ho6 hc6 hb6
  have hb41 : ∀ b ∈ ablk a5, h1.size ≤ b := fun b hb => hb4 b hb
  have hc16 : Chg [] h1 h6 := (hc4.nil g5.chg).fresh hc6 hb41
  have hb16 : ∀ b ∈ vblk w6, h1.size ≤ b := fun b hb => by
    rcases hb6 b hb with h | h
    · exact hb41 b h
    · have := hc4.size; have := g5.size; omega
  have hv6 := hv1.ext hc16
  obtain ⟨a6, c6, rfl, hoc6⟩ := ho6.sl.form
  have z1 := g1.size
  have fin : ∀ (i : Nat), i ≤ l.length → (l.take (findX x.key l).1 ++ [x] ++ l.drop i = putX l x) → 
      swp Tryz.prog (.seq (.ops f33r6) .ret) (retQ [.t 6] (Ret fun r h' => OL encX 8 h' r (putX l x) ∧ (∀ b ∈ vblk r, h.size ≤ b) ∧ Chg [] h h')) (mk [(9, .slice a6 (l.take (findX x.key l).1 ++ [x]).length c6), (0, .slice a l.length c), (7, .int .i64 i)]) [] h6 := by
    intro i hil hput
    refine SL.slc (lo := i) encX_len hv6 hil (Nat.le_refl _) ?_
    intro a7 _ hs7
    have e : (l.drop i).take (l.length - i) = l.drop i := by rw [List.take_of_length_le]; simp
    rw [e] at hs7
    refine app_own encX_len encX_one rfl ho6 hs7 (by simp; omega) ?_
    intro v8 h8 ho8 hc8 hb8
    have hc18 : Chg [] h1 h8 := hc16.fresh hc8 hb16
    rw [hput] at ho8
    refine And.intro ho8 (And.intro (fun b hb => ?_) (g1.chg.nil hc18))
    rcases hb8 b hb with h | h
    · have := hb16 b h; omega
    · have := hc16.size; omega
  cases hb : (findX x.key l).2 with
  | true =>
    obtain ⟨hlt, _⟩ := findX_hit x.key l hb
    refine And.intro rfl (fun z hz => ?_)
    have hz := add_in hz (by omega) (by omega)
    subst hz
    exact cut_at [(9, .slice a6 (l.take (findX x.key l).1 ++ [x]).length c6), (0, .slice a l.length c), (7, .int .i64 ((findX x.key l).1 + 1 : Nat))] ⟨rfl, rfl, rfl, trivial⟩ (fin ((findX x.key l).1 + 1) hlt (by unfold putX; rw [if_pos hb]))
  | false =>
    refine swp_seq ?_
    exact cut_at [(9, .slice a6 (l.take (findX x.key l).1 ++ [x]).length c6), (0, .slice a l.length c), (7, .int .i64 (findX x.key l).1)] ⟨rfl, rfl, rfl, trivial⟩ (fin (findX x.key l).1 hi (by unfold putX; rw [if_neg (by rw [hb]; simp)]))

def goneT (t : Thing) (now : Int) : Bool := t.hasU && decide (t.unt ≤ now)
/-- What stands under a key. -/
def lookX (l : List RX) (key : ByteArray) : Option Thing := if (findX key l).2 = true then (l[(findX key l).1]?).map (·.thing) else none
def getX (l : List RX) (key : ByteArray) (now : Int) : Option Thing := match lookX l key with
  | some t => if goneT t now = true then none else some t
  | none => none

theorem RGet_calls {h : Heap} {v : Value} {l : List RX} (key : ByteArray) (now : Int) (hv : SL encX h v l) (g : GX h l) (hl : l.length < 4611686018427387904) (hk : key.size < 4611686018427387904) (hf : KeysFit l) :
    CallsH Tryz.prog 23 [v, .string key, .int .i64 now] h (Ret fun r h' => (∃ us, r = .tuple #[.agg ⟨us⟩, .bool (getX l key now).isSome] ∧ TH h' us ((getX l key now).getD zeroT)) ∧ Chg [] h h') := by
  obtain ⟨a, c, rfl, hlc⟩ := hv.form
  refine f23_calls (by simp) ?_
  intro b6 h1 g1
  have B1 : Blk h1 b6 zeroV := g1.blk
  have hv1 := hv.ext g1.chg
  refine call_ret (Find_calls key hv1 hl hk hf) ?_
  rintro _ h9 ⟨rfl, e9⟩
  have e9 := e9.symm
  subst e9
  have z1 := g1.size
  have i1 := g1.id
  cases hb : (findX key l).2 with
  | false =>
    have hn : getX l key now = none := by unfold getX lookX; rw [if_neg (by rw [hb]; simp)]
    refine Exists.intro _ (And.intro B1 (And.intro (by decide) (And.intro rfl (And.intro (thing_one (t := zeroT) (h := h1) zero_TH) ?_))))
    intro h2 p2
    have B2 : Blk h2 b6 zeroV := p2.blk
    refine Exists.intro zeroV (And.intro rfl (And.intro (cells_blk B2) ?_))
    rw [hn]
    exact And.intro (Exists.intro zeroV (And.intro rfl zero_TH)) (g1.chg.fresh p2.chg (by simp; omega))
  | true =>
    obtain ⟨hlt, _⟩ := findX_hit key l hb
    have hlk : lookX l key = some l[(findX key l).1].thing := by unfold lookX; rw [if_pos hb]; simp [hlt]
    obtain ⟨b, o, rfl⟩ := hv1.addr (by omega)
    generalize (findX key l).1 = i at *
    have hcs := hv1.cells encX_len (i := i) (x := l[i]) (by simp [hlt])
    have hx := (g.ext g1.chg) l[i] (List.getElem_mem hlt)
    have yes : goneT l[i].thing now = false →
        swp Tryz.prog (.seq (.ops f23r4) .ret) (retQ [.cn 6 7, .t 7] (Ret fun r h' => (∃ us, r = .tuple #[.agg ⟨us⟩, .bool (getX l key now).isSome] ∧ TH h' us ((getX l key now).getD zeroT)) ∧ Chg [] h h')) (mk [(6, .pointer (some ⟨b6, 0, none⟩)), (0, .slice (some ⟨b, o, none⟩) l.length c), (8, .int .i64 i)]) [] h1 := by
      intro hg
      have hn : getX l key now = some l[i].thing := by unfold getX; rw [hlk]; simp [hg]
      refine And.intro (by omega) (And.intro (by omega) (Exists.intro l[i].vs (And.intro l[i].len (And.intro (cells_vs hcs) ?_))))
      refine Exists.intro _ (And.intro B1 (And.intro (by decide) (And.intro l[i].len (And.intro l[i].one ?_))))
      intro h2 p2
      have B2 : Blk h2 b6 l[i].vs := by
        have h8 : Blk h2 b6 (splice zeroV 0 l[i].vs) := p2.blk
        rw [seven rfl l[i].len] at h8
        exact h8
      refine Exists.intro l[i].vs (And.intro l[i].len (And.intro (cells_blk B2) ?_))
      rw [hn]
      exact And.intro (Exists.intro l[i].vs (And.intro rfl (((g l[i] (List.getElem_mem hlt)).ext (g1.chg.fresh p2.chg (by simp; omega)))))) (g1.chg.fresh p2.chg (by simp; omega))
    refine And.intro (by omega) (And.intro (by omega) (Exists.intro _ (And.intro (cells_vs hcs 5 _ hx.hasU) ?_)))
    cases hU : l[i].thing.hasU with
    | false =>
      exact cut_at [(6, .pointer (some ⟨b6, 0, none⟩)), (0, .slice (some ⟨b, o, none⟩) l.length c), (8, .int .i64 i)] ⟨rfl, rfl, rfl, trivial⟩ (yes (by unfold goneT; rw [hU]; rfl))
    | true =>
      refine And.intro (by omega) (And.intro (by omega) (Exists.intro _ (And.intro (cells_vs hcs 6 _ hx.unt) ?_)))
      refine And.intro rfl (And.intro (fun hle => ?_) (fun hle => ?_))
      · have hn : getX l key now = none := by unfold getX; rw [hlk]; simp [goneT, hU, hle]
        refine Exists.intro _ (And.intro B1 (And.intro (by decide) (And.intro rfl (And.intro (thing_one (t := zeroT) (h := h1) zero_TH) ?_))))
        intro h2 p2
        have B2 : Blk h2 b6 zeroV := p2.blk
        refine Exists.intro zeroV (And.intro rfl (And.intro (cells_blk B2) ?_))
        rw [hn]
        exact And.intro (Exists.intro zeroV (And.intro rfl zero_TH)) (g1.chg.fresh p2.chg (by simp; omega))
      · exact cut_at [(6, .pointer (some ⟨b6, 0, none⟩)), (0, .slice (some ⟨b, o, none⟩) l.length c), (8, .int .i64 i)] ⟨rfl, rfl, rfl, trivial⟩ (yes (by unfold goneT; rw [hU]; simpa using hle))

end Go.Proofs.YtaffnlibmkcgiaaGreat
