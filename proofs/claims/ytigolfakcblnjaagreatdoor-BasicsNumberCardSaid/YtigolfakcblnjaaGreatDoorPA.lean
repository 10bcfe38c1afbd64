/-
  Layer 8: a text's number, by the program: the library's ParseInt and FormatInt by their contracts.
-/
import Derived.Test.YtigolfakcblnjaaGreatDoorCode
import Derived.Test.YtigolfakcblnjaaGreatDoorLayN
import Derived.Test.YtigolfakcblnjaaGreatDoorPN
import Derived.Test.YtigolfakcblnjaaGreatDoorSxX
namespace Go.Proofs.YtigolfakcblnjaaGreatDoor
open Go Go.Sx Go.Proofs.YtigolfakcblnjaaGreatDoor.C

/-- What the library's variables hold. -/
def IfaceV (v : Value) : Prop := v = .nilIface ∨ ∃ te pe, v = .iface te pe
def LaidN (h : Heap) : Prop := (∃ t fr, h[2]? = some (.cells (Lib.pow10Tab.map fun z => Value.int .u64 z).toArray t fr)) ∧ (∃ v, cell h 0 0 = some v ∧ IfaceV v) ∧ (∃ v, cell h 1 0 = some v ∧ IfaceV v)

theorem LaidN.ext {h h' : Heap} (hl : LaidN h) (hc : Chg [] h h') : LaidN h' := by
  obtain ⟨⟨t, fr, h1⟩, ⟨v, h2, h3⟩, ⟨u, h4, h5⟩⟩ := hl
  exact ⟨⟨t, fr, get_ext hc.ext h1⟩, ⟨v, cell_chg h2 hc (by simp), h3⟩, ⟨u, cell_chg h4 hc (by simp), h5⟩⟩

theorem chg_of_below {w w' : World} {h : Heap} (hw : w.heap = h) (hb : RowKit.Below w.heap.size w w') : Chg [] h w'.heap := by
  subst hw
  exact ⟨hb.size, fun k hk _ => hb.block k hk⟩

theorem wcell {w : World} {h : Heap} {b : Nat} {v : Value} (hw : w.heap = h) (hc : cell h b 0 = some v) : w.cell? ⟨b, 0, none⟩ = some v := by
  subst hw
  unfold cell at hc
  unfold World.cell?
  split at hc
  · rename_i c t k hx
    rw [hx]; simpa using hc
  · cases hc

/-- What ParseInt answers. -/
def ParseP (l : List UInt8) (r : Value) : Prop :=
  (∃ v, Lib.parseIntB 64 l = .ok v ∧ r = .tuple #[.int .i64 v, .nilIface]) ∨ ((∀ v, Lib.parseIntB 64 l ≠ .ok v) ∧ ∃ n t p, r = .tuple #[.int .i64 n, .iface t p])

theorem parse_calls {h : Heap} {l : List UInt8} (hl : LaidN h) (hs : l.length < 281474976710656) : CallsH Tryz.prog 32 [.string ⟨⟨l⟩⟩, .int .i64 10, .int .i64 64] h (Ret fun r h' => ParseP l r ∧ Chg [] h h') := by
  refine ⟨by kernel_rfl, fun w hw => ?_⟩
  obtain ⟨_, ⟨v1, c1, i1⟩, ⟨v2, c2, i2⟩⟩ := hl
  have hsz : (⟨⟨l⟩⟩ : ByteArray).size = l.length := rfl
  rcases hp : Lib.parseIntB 64 l with v | _ | _
  · refine (Go.Proofs.Any.strconv_ParseInt_10_at64_ok Go.Proofs.Tryz.laysC174 ⟨⟨l⟩⟩ (by omega) v hp w).mono ?_
    rintro e w' ⟨rfl, hW⟩
    have hb : RowKit.Below w.heap.size w w' := by
      rcases hW with rfl | ⟨t, rfl⟩
      · exact RowKit.Below.refl _ _
      · exact Lib.bytesWorld_below _ _ _
    exact ⟨⟨.inl ⟨v, hp, rfl⟩, chg_of_below hw hb⟩, by simp, hb.os, hb.output, hb.tape⟩
  · refine (Go.Proofs.Any.strconv_ParseInt_10_at64_syntax Go.Proofs.Tryz.laysC174 ⟨⟨l⟩⟩ (by omega) hp v1 w (wcell hw c1) i1).mono ?_
    rintro e w' ⟨N, rfl, _, _, hb⟩
    exact ⟨⟨.inr ⟨fun v hv => (by rw [hp] at hv; cases hv), _, _, _, rfl⟩, chg_of_below hw hb⟩, by simp, hb.os, hb.output, hb.tape⟩
  · refine (Go.Proofs.Any.strconv_ParseInt_10_at64_range Go.Proofs.Tryz.laysC174 ⟨⟨l⟩⟩ (by omega) hp v2 w (wcell hw c2) i2).mono ?_
    rintro e w' ⟨N, rfl, _, _, hb⟩
    exact ⟨⟨.inr ⟨fun v hv => (by rw [hp] at hv; cases hv), _, _, _, rfl⟩, chg_of_below hw hb⟩, by simp, hb.os, hb.output, hb.tape⟩

theorem tab_of {w : World} {h : Heap} (hw : w.heap = h) (hl : LaidN h) : Lib.TabIs Tryz.prog w "internal/strconv.uint64pow10" .u64 Lib.pow10Tab := by
  obtain ⟨⟨t, fr, h1⟩, _⟩ := hl
  have hg : Tryz.prog.globalNamed "internal/strconv.uint64pow10" = some 2 := by kernel_rfl
  unfold Lib.TabIs World.var?
  rw [hg]
  show (match w.heap[2]? with | some (.cells cs _ _) => some cs | _ => none) = _
  rw [hw, h1]

theorem format_calls {h : Heap} {n : Int} (hl : LaidN h) (h0 : -9223372036854775808 ≤ n) (h1 : n ≤ 9223372036854775807) : CallsH Tryz.prog 33 [.int .i64 n, .int .i64 10] h (Ret fun r h' => r = .string ⟨⟨Lib.itoa n⟩⟩ ∧ Chg [] h h') := by
  refine ⟨by kernel_rfl, fun w hw => ?_⟩
  refine (Go.Proofs.Any.strconv_FormatInt_10 Go.Proofs.Tryz.laysM173 n h0 h1 w (tab_of hw hl)).mono ?_
  rintro e w' ⟨rfl, k, os, rfl⟩
  refine ⟨⟨rfl, ?_⟩, by simp, rfl, rfl, rfl⟩
  subst hw
  refine ⟨by simp [Go.Sort.grow, World.drewN], fun j hj _ => ?_⟩
  simp [Go.Sort.grow, World.drewN, Array.getElem?_append, hj]

theorem bnum_calls {h : Heap} {l : List UInt8} (hl : LaidN h) (hs : l.length < 281474976710656) :
    CallsH Tryz.prog 12 [.string ⟨⟨l⟩⟩] h (Ret fun r h' => r = .tuple #[.int .i64 ((Num.num l).getD 0), .bool (Num.num l).isSome] ∧ Chg [] h h') := by
  refine f12_calls (by simp) ?_
  refine call_ret (parse_calls hl hs) ?_
  rintro r h1 ⟨hp, c1⟩
  rcases hp with ⟨v, hv, rfl⟩ | ⟨hno, n, t, p, rfl⟩
  · obtain ⟨r0, r1⟩ := Num.parse_range rfl hv
    refine call_ret (format_calls (hl.ext c1) (by omega) (by omega)) ?_
    rintro _ h2 ⟨rfl, c2⟩
    have c := c1.nil c2
    refine And.intro (fun hne => ?_) (fun heq => ?_)
    · have e : Num.num l = none := by
        unfold Num.num
        rw [hv]
        simp only
        rw [if_neg]
        intro e; exact hne (by rw [e])
      rw [e]
      exact And.intro rfl c
    · have e : Num.num l = some v := by
        unfold Num.num
        rw [hv]
        simp only
        rw [if_pos]
        have := Classical.not_not.1 heq
        injection this with this
        injection this
      rw [e]
      exact And.intro rfl c
  · have e : Num.num l = none := by
      unfold Num.num
      split
      · rename_i v hv; exact absurd hv (hno v)
      · rfl
    rw [e]
    exact And.intro rfl c1

end Go.Proofs.YtigolfakcblnjaaGreatDoor
