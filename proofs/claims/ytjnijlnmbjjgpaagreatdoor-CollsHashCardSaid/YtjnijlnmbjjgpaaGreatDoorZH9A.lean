/-
  Layer 7: what an effect makes of a thing: plain laws.
  Layer 8: a text is put; an argument's number; sums; replies.
  Layer 8: replies, sums, an argument's number; a number is added to one.
  The simplified code of this seat's functions, and that it is what the program's code comes to. Printed by a program (wip/print.lean).
  Layer 8: GET, STRLEN, INCR, DECR, INCRBY, APPEND.
  Layer 9: the document's answer, its block longer: what is asked stands in one block; its small functions.
  Layer 9: what the commands of things with items come to; plain.
  The simplified code of this seat's functions, and that it is what the program's code comes to. Printed by a program (wip/print.lean).
  The simplified code of this seat's functions, and that it is what the program's code comes to. Printed by a program (wip/print.lean).
  The simplified code of this seat's functions, and that it is what the program's code comes to. Printed by a program (wip/print.lean).
  Layer 9: replies that are lists; places. (Written by gencd.py.)
  Layer 9: the commands of lists.
  Layer 9: the document's answer: Do. (Written by genrd.py.)
  Layer 8: replies as they stand in memory; whether two are the same.
  Layer 9: effects on things with items: all of a command's effects are done; plain.
  Layer 9: all of a command's effects are done, whatever is asked; plain.
  Layer 9: looking for a field, a member; adding; which names are new.
  Layer 9: the commands of hashes. (Written by gencI.py.)
  Layer 9: the document's answer: is a name there? is it named ahead?
  Layer 9: the document's answer: what is taken away (HDEL, SREM, ZREM).
  Layer 9: what was put in is told: the calls. (Written by genct.py.)
  Layer 9: the document's answer: the commands of hashes. (Written by genrk.py.)
  Layer 9: the document's answer: HSET.
  Layer 9: the document's answer: Do, for the commands of hashes, sets and ranked sets. (Written by genre.py.)
  Layer 9: the document's bounds, the other names. (Written by genrd2.py.)
  Layer 9: the commands of hashes, by the program and by the document. (Written by genrp2.py.)
  Layer 9: the law of the commands of hashes (taborlaw09.CollsHash). (Written by genrq2.py.)
-/
import Derived.Test.YtjnijlnmbjjgpaaGreatDoorProg
import Derived.Test.YtjnijlnmbjjgpaaGreatDoorZL9E
namespace Go.Proofs.YtjnijlnmbjjgpaaGreatDoor
open Go Go.Sx C
section
variable {α : Type} {eq lt : α → Bool} {y : α}
theorem putF_true : ∀ (l : List α), putF eq lt y l true = delF eq l
 |[] => rfl
 |x :: l => by
  have ih := putF_true l
  unfold putF delF
  cases he : eq x with
  |true => rw [if_pos rfl, ih]; simp [delF, he]
  |false => simp [he, ih, delF]
theorem putF_len : ∀ (l : List α) (d : Bool), (putF eq lt y l d).length ≤ l.length + 1
 |[], d => by cases d <;> simp [putF]
 |x :: l, d => by
  have h1 := putF_len l d
  have h2 : (putF eq lt y l true).length ≤ l.length := by rw [putF_true]; exact List.length_filter_le _ _
  simp only [putF]
  split
  ·simp; omega
  ·split <;> simp <;> omega
theorem putF_ne (l : List α) : putF eq lt y l false ≠ [] := by
 induction l with
 |nil => simp [putF]
 |cons x l ih =>
  simp only [putF]
  split
  ·exact ih
  ·split <;> simp
end
section
variable {α : Type} {nm : α → ByteArray} {name : ByteArray}
end
end Go.Proofs.YtjnijlnmbjjgpaaGreatDoor
namespace Go.Proofs.YtjnijlnmbjjgpaaGreatDoor
open Go Go.Sx C
def wOver : ByteArray := ⟨#[69, 82, 82, 32, 111, 118, 101, 114]⟩
def okSum (a b : Int) : Prop := -9223372036854775808 ≤ a + b ∧ a + b ≤ 9223372036854775807
end Go.Proofs.YtjnijlnmbjjgpaaGreatDoor
set_option maxRecDepth 100000
namespace Go.Proofs.YtjnijlnmbjjgpaaGreatDoor.C
open Go Go.Sx Go.Sx.S
def f133r0 : LS := [o 6 (.mv (i 0)),o 7 (.mv (b false))]
def f133r1 : LS := [o 8 (.mv (t 2)),o 9 (.cmp .gtr (t 8) (i 0)),o 10 (.mv (t 9)),
 g 11 10 (.mv (t 1)),
 g 12 10 (.mv (t 2)),
 g 13 10 (.ar .sub (i 9223372036854775807) (t 12)),
 g 14 10 (.cmp .gtr (t 11) (t 13)),o 15 (.pick (t 10) (t 14) (b false)),o 16 (.mv (t 15)),
 n 17 16 (.mv (t 2)),
 n 18 16 (.cmp .lss (t 17) (i 0)),
 n 19 16 (.mv (t 18)),
 g 20 19 (.mv (t 1)),
 g 21 19 (.mv (t 2)),
 g 22 19 (.ar .sub (i (-9223372036854775808)) (t 21)),
 g 23 19 (.cmp .lss (t 20) (t 22)),
 n 24 16 (.pick (t 19) (t 23) (b false)),o 25 (.pick (t 16) (b true) (t 24))]
def f133r2 : LS := [o 26 (.mv (t 0)),o 27 (.nilck (t 26)),o 28 (.fa 4 (t 27)),
 q (.st 1 (t 28) (.const (.string ⟨#[69, 82, 82, 32, 111, 118, 101, 114]⟩)))]
def f133r3 : LS := [o 6 (.mv (i 0)),o 7 (.mv (b false))]
def f133r4 : LS := [o 29 (.mv (t 1)),o 30 (.mv (t 2)),o 31 (.ar .add (t 29) (t 30)),o 6 (.mv (t 31)),o 7 (.mv (b true))]
def f133 : SCode := (.seq (.ops f133r0) (.seq (.seq (.ops f133r1) (.cond (t 25) (.seq (.ops f133r2) (.seq (.ops f133r3) .ret)) .skip)) (.seq (.ops f133r4) .ret)))
theorem f133_calls : Sound Tryz.prog 133 32 f133 [.t 6, .t 7] := sound_of mixed Tryz.func133 rfl (by kernel_rfl) (by kernel_rfl) (by kernel_rfl)
end Go.Proofs.YtjnijlnmbjjgpaaGreatDoor.C
namespace Go.Proofs.YtjnijlnmbjjgpaaGreatDoor
open Go Go.Sx C
section
variable {h0 h : Heap} {ab kb sb mb c : Nat} {now n : Int} {av lv : Value} {A : List ByteArray} {m : List KI} {S : Space} {key s a : ByteArray} {t : Thing} {go : Option Thing}
instance (a b : Int) : Decidable (okSum a b) := by unfold okSum; infer_instance
def zeroS : ByteArray := ⟨#[48]⟩
theorem itoa_len {k n : Int} (h : okSum k n) : (Lib.itoa (k + n)).length ≤ 20 := by
 obtain ⟨h0, h1⟩ := h
 unfold Lib.itoa
 split
 ·have := Num.dec_len 18 (k + n).natAbs (by omega)
  simp; omega
 ·have := Num.dec_len 18 (k + n).toNat (by omega)
  omega
theorem not_go {P : Program} {x y : Operand} {d e : Nat} {c : SCode} {Q : Post} {σ : Env} {ds : List Deferred} {h : Heap} {v : Bool} (he : ev σ x = some (.bool v)) (hf : ev (upd σ (some d) (.bool v)) y = some (.bool v))
  (hs : swp P c Q (upd (upd σ (some d) (.bool v)) (some e) (.bool !v)) ds h) : swp P (.seq (.ops [⟨some d, none, .mv x⟩, ⟨some e, none, .un .not y⟩]) c) Q σ ds h := by
 simp only [swp, sops, sopr, sop, he, hf]
 exact hs
theorem cnd_go {P : Program} {x : Operand} {a b c : SCode} {Q : Post} {σ : Env} {ds : List Deferred} {h : Heap} {t : Bool} (he : ev σ x = some (.bool t)) (hs : swp P (.seq (bif t then a else b) c) Q σ ds h) : swp P (.seq (.cond x a b) c) Q σ ds h := by
 cases t with
 |true => simp only [swp, he]; exact hs
 |false => simp only [swp, he]; exact hs
theorem ass_go {P : Program} {a b c : SCode} {Q : Post} {σ : Env} {ds : List Deferred} {h : Heap} (hs : swp P (.seq a (.seq b c)) Q σ ds h) : swp P (.seq (.seq a b) c) Q σ ds h := by
 have e : thenQ (swp P b (thenQ (swp P c Q) Q)) (thenQ (swp P c Q) Q) = thenQ (swp P b (thenQ (swp P c Q) Q)) Q := by
  funext x; cases x <;> rfl
 simp only [swp] at hs ⊢
 rw [e]; exact hs
theorem skp_go {P : Program} {c : SCode} {Q : Post} {σ : Env} {ds : List Deferred} {h : Heap} (hs : swp P c Q σ ds h) : swp P (.seq .skip c) Q σ ds h := hs
end
end Go.Proofs.YtjnijlnmbjjgpaaGreatDoor
namespace Go.Proofs.YtjnijlnmbjjgpaaGreatDoor
open Go Go.Sx C
section
variable {rest : List Value} {h0 h h1 h' : Heap} {xb i : Nat} {now n : Int} {kv av lv : Value} {k : List RX} {A : List ByteArray} {L : List Eff} {why : ByteArray} {M : List En} {T : List Nat} {e e' : En}
theorem rplus9_calls {a b : Int} (ha : In64 a) (hb : In64 b) (x : As h0 h (rxE9 xb rest kv now av lv L why)) : CallsH Tryz.prog 133 [ptr xb, .int .i64 a, .int .i64 b] h
  (Ret fun r h' => (okSum a b ∧ r = .tuple #[.int .i64 (a + b), .bool true] ∧ RxO9 h0 h (rxE9 xb rest kv now av lv L why) h' (rxE9 xb rest kv now av lv L why)) ∨ (¬ okSum a b ∧ r = .tuple #[.int .i64 0, .bool false] ∧ RxO9 h0 h (rxE9 xb rest kv now av lv L why) h' (rxE9 xb rest kv now av lv L wOver))) := by
 obtain ⟨a0, a1⟩ := ha
 obtain ⟨b0, b1⟩ := hb
 have w := x.st
 refine f133_calls (by simp) ?_
 have no : ¬ okSum a b → ∀ {K : Heap → Prop}, (∀ h', RxO9 h0 h (rxE9 xb rest kv now av lv L why) h' (rxE9 xb rest kv now av lv L wOver) → K h') → ∃ l, Blk h xb l ∧ 4 + 1 ≤ l.length ∧ [Value.string wOver].length = 1 ∧ (∀ u ∈ [Value.string wOver], u.oneCell' = true) ∧ ∀ h', Put h h' xb (splice l 4 [.string wOver]) → K h' :=
  fun _ {K} hK => w.stw9 0 rfl fun h2 w => hK h2 (x.out w 0 rfl)
 have yes : ∀ z : Int, z = IntKind.i64.wrap (a + b) → okSum a b → z = a + b := fun z hz hk => by
  obtain ⟨k0, k1⟩ := hk
  exact hz.trans (wrap_in (by omega) (by omega))
 unfold okSum at *
 refine Ai rfl (Ai (fun h1 => ?_) (fun h1 => ?_))
 ·refine Ai rfl (fun z hz => ?_)
  have hz : z = 9223372036854775807 - b := hz.trans (wrap_in (by omega) (by omega))
  subst hz
  refine Ai rfl (Ai (fun h2 => ?_) (fun h2 => ?_))
  ·refine no (by omega) fun h' hr => ?_
   exact .inr ⟨by omega, rfl, hr⟩
  ·refine Ai rfl (Ai (fun h3 => absurd h3 (by omega)) (fun h3 => ?_))
   refine Ai rfl (fun z hz => ?_)
   have hz := yes z hz ⟨by omega, by omega⟩
   subst hz
   exact .inl ⟨⟨by omega, by omega⟩, rfl, x.out w 0 rfl⟩
 ·refine Ai rfl (Ai (fun h3 => ?_) (fun h3 => ?_))
  ·refine Ai rfl (fun z hz => ?_)
   have hz : z = -9223372036854775808 - b := hz.trans (wrap_in (by omega) (by omega))
   subst hz
   refine Ai rfl (Ai (fun h2 => ?_) (fun h2 => ?_))
   ·refine no (by omega) fun h' hr => ?_
    exact .inr ⟨by omega, rfl, hr⟩
   ·refine Ai rfl (fun z hz => ?_)
    have hz := yes z hz ⟨by omega, by omega⟩
    subst hz
    exact .inl ⟨⟨by omega, by omega⟩, rfl, x.out w 0 rfl⟩
  ·refine Ai rfl (fun z hz => ?_)
   have hz := yes z hz ⟨by omega, by omega⟩
   subst hz
   exact .inl ⟨⟨by omega, by omega⟩, rfl, x.out w 0 rfl⟩
end
end Go.Proofs.YtjnijlnmbjjgpaaGreatDoor
namespace Go.Proofs.YtjnijlnmbjjgpaaGreatDoor
open Go Go.Sx C
def hashE (key n t : ByteArray) : Eff := ⟨5, key, n, t, 0⟩
def unhashE (key n : ByteArray) : Eff := ⟨6, key, n, noText, 0⟩
section
variable (S : Space) (now : Int)
def hereL (there : ByteArray → Bool) (ns : List ByteArray) : List ByteArray := newL (fun n => !there n) [] ns
def twos : List ByteArray → List (ByteArray × ByteArray)
 |a :: b :: l => (a, b) :: twos l
 |_ => []
def fieldF (l : List Pair) (n : ByteArray) : Option ByteArray := (l.find? fun p => decide (p.name = n)).map Pair.text
def thereH (l : List Pair) (n : ByteArray) : Bool := (fieldF l n).isSome
def cHset : List ByteArray → Res
 |key :: l => if 2 ≤ l.length ∧ l.length < 65536 ∧ l.length % 2 = 0 then kindly S now 2 key fun t =>
   let n := (newL (thereH t.pairs) [] ((twos l).map Prod.fst)).length
   makes S now key (t.pairs.length + n) (l.all small) (numR n) ((twos l).map fun p => hashE key p.1 p.2) else .error wArgs
 |[] => .error wArgs
def cHget : List ByteArray → Res := arg2 fun key n => kindly S now 2 key fun t => match fieldF t.pairs n with
 |some s => .ok (textR s, [])
 |none => .ok (nilR, [])
def cAway (k : Int) (there : Thing → ByteArray → Bool) (e : ByteArray → ByteArray → Eff) : List ByteArray → Res
 |key :: l => if 1 ≤ l.length ∧ l.length < 65536 then kindly S now k key fun t => .ok (numR (hereL (there t) l).length, (hereL (there t) l).map (e key)) else .error wArgs
 |[] => .error wArgs
def cHdel : List ByteArray → Res := cAway S now 2 (fun t => thereH t.pairs) unhashE
def cHlen : List ByteArray → Res := arg1 fun key => kindly S now 2 key fun t => .ok (numR t.pairs.length, [])
def cHall : List ByteArray → Res := arg1 fun key => kindly S now 2 key fun t => .ok (listR (t.pairs.flatMap fun p => [p.name, p.text]), [])
def addTo (n by_ : Int) (f : Int → Res) : Res := if okSum n by_ then f (n + by_) else .error wOver
def cHincr : List ByteArray → Res := arg3 fun key n s => numbered s fun by_ => kindly S now 2 key fun t =>
 numbered ((fieldF t.pairs n).getD zeroS) fun m => addTo m by_ fun z =>
  makes S now key (t.pairs.length + (if thereH t.pairs n = true then 0 else 1)) (small n && small ⟨⟨Lib.itoa z⟩⟩) (numR z) [hashE key n ⟨⟨Lib.itoa z⟩⟩]
end
end Go.Proofs.YtjnijlnmbjjgpaaGreatDoor
set_option maxRecDepth 100000
namespace Go.Proofs.YtjnijlnmbjjgpaaGreatDoor.C
open Go Go.Sx Go.Sx.S
def f81r0 : LS := [o 1 (.box (t 0)),o 2 (.new [(.int .i64 0), (.int .i64 0), (.string ⟨#[]⟩), (.slice none 0 0)])]
def f81r1 : LS := [o 6 (.ld1 (t 1)),o 7 (.call 149 [(t 6), (i 3), (i 65536)])]
def f81r2 : LS := [o 8 (.ld1 (t 1)),o 9 (.nilck (t 8)),o 10 (.fa 11 (t 9)),o 11 (.ld1 (t 10)),o 12 (.len (t 11)),o 13 (.rem (t 12) (i 2)),o 14 (.cmp .eql (t 13) (i 1)),o 15 (.call 150 [(t 14), (.const (.string ⟨#[69, 82, 82, 32, 97, 114, 103, 115]⟩))])]
def f81r3 : LS := [o 16 (.ld1 (t 1)),o 17 (.call 151 [(t 16), (i 2)])]
def f81r4 : LS := [o 3 (.mv (i 0))]
def f81r5 : LS := [o 18 (.fn 153 [] [(t 1)]),o 19 (.call 152 [(t 18)]),o 4 (.mv (t 19))]
def f81r6 : LS := [o 5 (.mv (i 1))]
def f81r7 : LS := [o 20 (.mv (t 5)),o 21 (.ld1 (t 1)),o 22 (.nilck (t 21)),o 23 (.fa 11 (t 22)),o 24 (.ld1 (t 23)),o 25 (.len (t 24)),o 26 (.cmp .lss (t 20) (t 25))]
def f81r8 : LS := [o 29 (.mv (t 4)),o 30 (.ld1 (t 1)),o 31 (.nilck (t 30)),o 32 (.fa 11 (t 31)),o 33 (.ld1 (t 32)),o 34 (.mv (t 5)),o 35 (.ixs 1 (t 33) (t 34)),o 36 (.ld1 (t 35)),o 37 (.callv (t 29) [(t 36)])]
def f81r9 : LS := [o 38 (.mv (t 3)),o 39 (.ar .add (t 38) (i 1)),o 3 (.mv (t 39))]
def f81r10 : LS := [o 40 (.ld1 (t 1)),o 41 (.ld1 (t 1)),o 42 (.nilck (t 41)),o 43 (.fa 11 (t 42)),o 44 (.ld1 (t 43)),o 45 (.mv (t 5)),o 46 (.ixs 1 (t 44) (t 45)),o 47 (.ld1 (t 46)),o 48 (.ld1 (t 1)),o 49 (.nilck (t 48)),o 50 (.fa 11 (t 49)),o 51 (.ld1 (t 50)),o 52 (.mv (t 5)),o 53 (.ar .add (t 52) (i 1)),o 54 (.ixs 1 (t 51) (t 53)),o 55 (.ld1 (t 54)),o 56 (.build [(.int .i64 0), (.string ⟨#[]⟩), (.string ⟨#[]⟩), (.string ⟨#[]⟩), (.int .i64 0)] [(0, 1), (2, 1), (3, 1)] [(i 5), (t 47), (t 55)]),o 57 (.ld1 (t 1)),o 58 (.nilck (t 57)),o 59 (.fa 0 (t 58)),o 60 (.fa 2 (t 59)),o 61 (.ld1 (t 60)),o 62 (.len (t 61)),o 63 (.mv (t 3)),o 64 (.ar .add (t 62) (t 63)),o 65 (.call 155 [(t 40), (t 56), (t 64)])]
def f81r11 : LS := [o 27 (.mv (t 5)),o 28 (.ar .add (t 27) (i 2)),o 5 (.mv (t 28))]
def f81l12 : SCode := (.seq (.seq (.ops f81r7) (.cond (t 26) .skip (.exit 0))) (.seq (.block 1 (.seq (.seq (.ops f81r8) (.cond (t 37) (.ops f81r9) .skip)) (.ops f81r10))) (.ops f81r11)))
def f81r13 : LS := [o 66 (.mv (t 3)),o 67 (.call 156 [(t 66)]),
 q (.st 4 (t 2) (t 67))]
def f81 : SCode := (.seq (.ops f81r0) (.seq (.ops f81r1) (.seq (.ops f81r2) (.seq (.ops f81r3) (.seq (.ops f81r4) (.seq (.ops f81r5) (.seq (.seq (.ops f81r6) (.block 0 (.loop f81l12))) (.seq (.ops f81r13) .ret))))))))
theorem f81_calls : Sound Tryz.prog 81 68 f81 [.cn 2 4] := sound_of mixed Tryz.func81 rfl (by kernel_rfl) (by kernel_rfl) (by kernel_rfl)
def f82r0 : LS := [o 2 (.new [(.int .i64 0), (.int .i64 0), (.string ⟨#[]⟩), (.slice none 0 0)])]
def f82r1 : LS := [o 5 (.mv (t 0)),o 6 (.call 157 [(t 5), (i 2), (i 2), (i 2)])]
def f82r2 : LS := [o 8 (.mv (t 0)),o 9 (.mv (t 0)),o 10 (.nilck (t 9)),o 11 (.fa 11 (t 10)),o 12 (.ld1 (t 11)),o 13 (.ixs 1 (t 12) (i 1)),o 14 (.ld1 (t 13)),o 15 (.call 154 [(t 8), (t 14)]),o 7 (.mv (t 15)),o 16 (.ext (t 7) 0),o 17 (.ext (t 7) 1),o 3 (.mv (t 16)),o 4 (.mv (t 17))]
def f82r3 : LS := [o 18 (.mv (t 4)),o 19 (.un .not (t 18))]
def f82r4 : LS := [o 20 (.build [(.int .i64 0), (.int .i64 0), (.string ⟨#[]⟩), (.slice none 0 0)] [] []),
 q (.st 4 (t 2) (t 20))]
def f82r5 : LS := [o 21 (.mv (t 3)),o 22 (.call 158 [(t 21)]),
 q (.st 4 (t 2) (t 22))]
def f82 : SCode := (.seq (.ops f82r0) (.seq (.ops f82r1) (.seq (.ops f82r2) (.seq (.seq (.ops f82r3) (.cond (t 19) (.seq (.ops f82r4) .ret) .skip)) (.seq (.ops f82r5) .ret)))))
theorem f82_calls : Sound Tryz.prog 82 23 f82 [.cn 2 4] := sound_of mixed Tryz.func82 rfl (by kernel_rfl) (by kernel_rfl) (by kernel_rfl)
def f83r0 : LS := [o 1 (.box (t 0)),o 2 (.new [(.int .i64 0), (.int .i64 0), (.string ⟨#[]⟩), (.slice none 0 0)])]
def f83r1 : LS := [o 3 (.ld1 (t 1)),o 4 (.call 157 [(t 3), (i 2), (i 2), (i 65536)])]
def f83r2 : LS := [o 5 (.ld1 (t 1)),o 6 (.fn 160 [] [(t 1)]),o 7 (.call 159 [(t 5), (i 6), (t 6)]),
 q (.st 4 (t 2) (t 7))]
def f83 : SCode := (.seq (.ops f83r0) (.seq (.ops f83r1) (.seq (.ops f83r2) .ret)))
theorem f83_calls : Sound Tryz.prog 83 8 f83 [.cn 2 4] := sound_of mixed Tryz.func83 rfl (by kernel_rfl) (by kernel_rfl) (by kernel_rfl)
def f84r0 : LS := [o 2 (.new [(.int .i64 0), (.int .i64 0), (.string ⟨#[]⟩), (.slice none 0 0)])]
def f84r1 : LS := [o 3 (.mv (t 0)),o 4 (.call 157 [(t 3), (i 2), (i 1), (i 1)])]
def f84r2 : LS := [o 5 (.mv (t 0)),o 6 (.nilck (t 5)),o 7 (.fa 0 (t 6)),o 8 (.fa 2 (t 7)),o 9 (.ld1 (t 8)),o 10 (.len (t 9)),o 11 (.call 156 [(t 10)]),
 q (.st 4 (t 2) (t 11))]
def f84 : SCode := (.seq (.ops f84r0) (.seq (.ops f84r1) (.seq (.ops f84r2) .ret)))
theorem f84_calls : Sound Tryz.prog 84 12 f84 [.cn 2 4] := sound_of mixed Tryz.func84 rfl (by kernel_rfl) (by kernel_rfl) (by kernel_rfl)
def f85r0 : LS := [o 2 (.new [(.int .i64 0), (.int .i64 0), (.string ⟨#[]⟩), (.slice none 0 0)])]
def f85r1 : LS := [o 3 (.mv (t 0)),o 4 (.call 157 [(t 3), (i 2), (i 1), (i 1)])]
def f85r2 : LS := [o 5 (.mv (t 0)),o 6 (.nilck (t 5)),o 7 (.fa 0 (t 6)),o 8 (.fa 2 (t 7)),o 9 (.ld1 (t 8)),o 10 (.call 161 [(t 9), (u 162)]),
 q (.st 4 (t 2) (t 10))]
def f85 : SCode := (.seq (.ops f85r0) (.seq (.ops f85r1) (.seq (.ops f85r2) .ret)))
theorem f85_calls : Sound Tryz.prog 85 11 f85 [.cn 2 4] := sound_of mixed Tryz.func85 rfl (by kernel_rfl) (by kernel_rfl) (by kernel_rfl)
def f86r0 : LS := [o 2 (.new [(.int .i64 0), (.int .i64 0), (.string ⟨#[]⟩), (.slice none 0 0)])]
def f86r1 : LS := [o 9 (.mv (t 0)),o 10 (.call 149 [(t 9), (i 3), (i 3)])]
def f86r2 : LS := [o 11 (.mv (t 0)),o 12 (.call 163 [(t 11), (i 2)]),o 3 (.mv (t 12))]
def f86r3 : LS := [o 13 (.mv (t 0)),o 14 (.call 151 [(t 13), (i 2)])]
def f86r4 : LS := [o 16 (.mv (t 0)),o 17 (.mv (t 0)),o 18 (.nilck (t 17)),o 19 (.fa 11 (t 18)),o 20 (.ld1 (t 19)),o 21 (.ixs 1 (t 20) (i 1)),o 22 (.ld1 (t 21)),o 23 (.call 154 [(t 16), (t 22)]),o 15 (.mv (t 23)),o 24 (.ext (t 15) 0),o 25 (.ext (t 15) 1),o 4 (.mv (t 24)),o 5 (.mv (t 25))]
def f86r5 : LS := [o 26 (.mv (t 5)),o 27 (.un .not (t 26))]
def f86r6 : LS := [o 4 (.mv (.const (.string ⟨#[48]⟩)))]
def f86r7 : LS := [o 29 (.mv (t 4)),o 30 (.call 164 [(t 29)]),o 28 (.mv (t 30)),o 31 (.ext (t 28) 0),o 32 (.ext (t 28) 1),o 6 (.mv (t 31)),o 7 (.mv (t 32))]
def f86r8 : LS := [o 33 (.mv (t 7)),o 34 (.call 150 [(t 33), (.const (.string ⟨#[69, 82, 82, 32, 110, 117, 109, 98, 101, 114]⟩))])]
def f86r9 : LS := [o 35 (.mv (t 6)),o 36 (.mv (t 3)),o 37 (.call 165 [(t 35), (t 36)]),o 6 (.mv (t 37))]
def f86r10 : LS := [o 38 (.mv (t 0)),o 39 (.nilck (t 38)),o 40 (.fa 0 (t 39)),o 41 (.fa 2 (t 40)),o 42 (.ld1 (t 41)),o 43 (.len (t 42)),o 8 (.mv (t 43))]
def f86r11 : LS := [o 44 (.mv (t 5)),o 45 (.un .not (t 44))]
def f86r12 : LS := [o 46 (.mv (t 8)),o 47 (.ar .add (t 46) (i 1)),o 8 (.mv (t 47))]
def f86r13 : LS := [o 48 (.mv (t 0)),o 49 (.mv (t 0)),o 50 (.nilck (t 49)),o 51 (.fa 11 (t 50)),o 52 (.ld1 (t 51)),o 53 (.ixs 1 (t 52) (i 1)),o 54 (.ld1 (t 53)),o 55 (.mv (t 6)),o 58 (.mv (t 8)),o 56 (.callq 34 [(t 55), (i 10)]),o 57 (.build [(.int .i64 0), (.string ⟨#[]⟩), (.string ⟨#[]⟩), (.string ⟨#[]⟩), (.int .i64 0)] [(0, 1), (2, 1), (3, 1)] [(i 5), (t 54), (t 56)]),o 59 (.call 155 [(t 48), (t 57), (t 58)])]
def f86r14 : LS := [o 60 (.mv (t 6)),o 61 (.call 156 [(t 60)]),
 q (.st 4 (t 2) (t 61))]
def f86 : SCode := (.seq (.ops f86r0) (.seq (.ops f86r1) (.seq (.ops f86r2) (.seq (.ops f86r3) (.seq (.ops f86r4) (.seq (.seq (.ops f86r5) (.cond (t 27) (.ops f86r6) .skip)) (.seq (.ops f86r7) (.seq (.ops f86r8) (.seq (.ops f86r9) (.seq (.ops f86r10) (.seq (.seq (.ops f86r11) (.cond (t 45) (.ops f86r12) .skip)) (.seq (.ops f86r13) (.seq (.ops f86r14) .ret)))))))))))))
theorem f86_calls : Sound Tryz.prog 86 62 f86 [.cn 2 4] := sound_of mixed Tryz.func86 rfl (by kernel_rfl) (by kernel_rfl) (by kernel_rfl)
def f153r0 : LS := [o 3 (.mv (b false))]
def f153r1 : LS := [o 7 (.ld1 (t 1)),o 8 (.mv (t 0)),o 9 (.call 154 [(t 7), (t 8)]),o 6 (.mv (t 9)),o 10 (.ext (t 6) 0),o 11 (.ext (t 6) 1),o 4 (.mv (t 10)),o 5 (.mv (t 11))]
def f153r2 : LS := [o 12 (.mv (t 5)),o 3 (.mv (t 12))]
def f153 : SCode := (.seq (.ops f153r0) (.seq (.ops f153r1) (.seq (.ops f153r2) .ret)))
theorem f153_calls : Sound Tryz.prog 153 13 f153 [.t 3] := sound_of mixed Tryz.func153 rfl (by kernel_rfl) (by kernel_rfl) (by kernel_rfl)
def f154r0 : LS := [o 3 (.box (t 1)),o 4 (.mv e),o 5 (.mv (b false))]
def f154r1 : LS := [o 7 (.mv (t 0)),o 8 (.nilck (t 7)),o 9 (.fa 0 (t 8)),o 10 (.fa 2 (t 9)),o 11 (.ld1 (t 10)),o 12 (.fn 230 [] [(t 3)]),o 13 (.call 229 [(t 11), (t 12)]),o 6 (.mv (t 13))]
def f154r2 : LS := [o 14 (.mv (t 6)),o 15 (.cmp .lss (t 14) (i 0))]
def f154r3 : LS := [o 4 (.mv e),o 5 (.mv (b false))]
def f154r4 : LS := [o 16 (.mv (t 0)),o 17 (.nilck (t 16)),o 18 (.fa 0 (t 17)),o 19 (.fa 2 (t 18)),o 20 (.ld1 (t 19)),o 21 (.mv (t 6)),o 22 (.ixs 2 (t 20) (t 21)),o 23 (.fa 1 (t 22)),o 24 (.ld1 (t 23)),o 4 (.mv (t 24)),o 5 (.mv (b true))]
def f154 : SCode := (.seq (.ops f154r0) (.seq (.ops f154r1) (.seq (.seq (.ops f154r2) (.cond (t 15) (.seq (.ops f154r3) .ret) .skip)) (.seq (.ops f154r4) .ret))))
theorem f154_calls : Sound Tryz.prog 154 25 f154 [.t 4, .t 5] := sound_of mixed Tryz.func154 rfl (by kernel_rfl) (by kernel_rfl) (by kernel_rfl)
def f159r0 : LS := [o 5 (.box (t 2)),o 6 (.new [(.int .i64 0), (.int .i64 0), (.string ⟨#[]⟩), (.slice none 0 0)])]
def f159r1 : LS := [o 7 (.mv (i 0))]
def f159r2 : LS := [o 11 (.fn 232 [] [(t 5)]),o 12 (.call 152 [(t 11)]),o 8 (.mv (t 12))]
def f159r3 : LS := [o 13 (.mv (t 0)),o 14 (.nilck (t 13)),o 15 (.fa 11 (t 14)),o 16 (.ld1 (t 15)),o 17 (.slc 1 (t 16) (some (i 1)) none),o 18 (.len (t 17)),o 19 (.mv (i 0))]
def f159r4 : LS := [o 20 (.cmp .lss (t 19) (t 18))]
def f159r5 : LS := [o 21 (.ixs 1 (t 17) (t 19)),o 22 (.ld1 (t 21)),o 10 (.mv (t 22))]
def f159r6 : LS := [o 23 (.mv (t 8)),o 24 (.mv (t 10)),o 25 (.callv (t 23) [(t 24)])]
def f159r7 : LS := [o 26 (.mv (t 7)),o 27 (.ar .add (t 26) (i 1)),o 7 (.mv (t 27))]
def f159r8 : LS := [o 28 (.mv (t 0)),o 29 (.mv (t 1)),o 30 (.mv (t 10)),o 31 (.build [(.int .i64 0), (.string ⟨#[]⟩), (.string ⟨#[]⟩), (.string ⟨#[]⟩), (.int .i64 0)] [(0, 1), (2, 1)] [(t 29), (t 30)]),o 32 (.call 233 [(t 28), (t 31)])]
def f159r9 : LS := [o 33 (.ar .add (t 19) (i 1)),o 19 (.mv (t 33))]
def f159l10 : SCode := (.seq (.ops f159r4) (.seq (.cond (t 20) .skip (.exit 0)) (.seq (.block 1 (.seq (.ops f159r5) (.seq (.ops f159r6) (.cond (t 25) (.seq (.ops f159r7) (.ops f159r8)) .skip)))) (.ops f159r9))))
def f159r11 : LS := [o 34 (.mv (t 7)),o 35 (.call 156 [(t 34)]),
 q (.st 4 (t 6) (t 35))]
def f159 : SCode := (.seq (.ops f159r0) (.seq (.ops f159r1) (.seq (.ops f159r2) (.seq (.seq (.ops f159r3) (.block 0 (.loop f159l10))) (.seq (.ops f159r11) .ret)))))
theorem f159_calls : Sound Tryz.prog 159 36 f159 [.cn 6 4] := sound_of mixed Tryz.func159 rfl (by kernel_rfl) (by kernel_rfl) (by kernel_rfl)
def f160r0 : LS := [o 3 (.mv (b false))]
def f160r1 : LS := [o 7 (.ld1 (t 1)),o 8 (.mv (t 0)),o 9 (.call 154 [(t 7), (t 8)]),o 6 (.mv (t 9)),o 10 (.ext (t 6) 0),o 11 (.ext (t 6) 1),o 4 (.mv (t 10)),o 5 (.mv (t 11))]
def f160r2 : LS := [o 12 (.mv (t 5)),o 3 (.mv (t 12))]
def f160 : SCode := (.seq (.ops f160r0) (.seq (.ops f160r1) (.seq (.ops f160r2) .ret)))
theorem f160_calls : Sound Tryz.prog 160 13 f160 [.t 3] := sound_of mixed Tryz.func160 rfl (by kernel_rfl) (by kernel_rfl) (by kernel_rfl)
def f161r0 : LS := [o 4 (.new [(.int .i64 0), (.int .i64 0), (.string ⟨#[]⟩), (.slice none 0 0)])]
def f161r1 : LS := [o 10 (.build [(.int .i64 0), (.int .i64 0), (.string ⟨#[]⟩), (.slice none 0 0)] [(0, 1)] [(i 5)]),o 5 (.new [(.int .i64 0), (.int .i64 0), (.string ⟨#[]⟩), (.slice none 0 0)]),
 q (.st 4 (t 5) (t 10))]
def f161r2 : LS := [o 11 (.mv (t 0)),o 12 (.len (t 11)),o 13 (.mv (i 0))]
def f161r3 : LS := [o 14 (.cmp .lss (t 13) (t 12))]
def f161r4 : LS := [o 15 (.ixs 2 (t 11) (t 13)),o 16 (.ldn 2 (t 15)),o 7 (.new [(.string ⟨#[]⟩), (.string ⟨#[]⟩)]),
 q (.st 2 (t 7) (t 16))]
def f161r5 : LS := [o 17 (.mv (t 1)),o 18 (.ldn 2 (t 7)),o 19 (.callv (t 17) [(t 18)]),o 20 (.len (t 19)),o 21 (.mv (i 0))]
def f161r6 : LS := [o 22 (.cmp .lss (t 21) (t 20))]
def f161r7 : LS := [o 23 (.ixs 1 (t 19) (t 21)),o 24 (.ld1 (t 23)),o 9 (.mv (t 24))]
def f161r8 : LS := [o 25 (.fa 3 (t 5)),o 26 (.ld1 (t 25)),o 27 (.mv (t 9)),o 28 (.callq 158 [(t 27)]),o 29 (.bslice [(.int .i64 0), (.int .i64 0), (.string ⟨#[]⟩), (.slice none 0 0)] 1 [(0, 4)] [(t 28)]),o 30 (.app 4 56 [(.int .i64 0), (.int .i64 0), (.string ⟨#[]⟩), (.slice none 0 0)] (t 26) (t 29)),o 31 (.fa 3 (t 5)),
 q (.st 1 (t 31) (t 30))]
def f161r9 : LS := [o 32 (.ar .add (t 21) (i 1)),o 21 (.mv (t 32))]
def f161l10 : SCode := (.seq (.ops f161r6) (.seq (.cond (t 22) .skip (.exit 2)) (.seq (.block 3 (.seq (.ops f161r7) (.ops f161r8))) (.ops f161r9))))
def f161r11 : LS := [o 33 (.ar .add (t 13) (i 1)),o 13 (.mv (t 33))]
def f161l12 : SCode := (.seq (.ops f161r3) (.seq (.cond (t 14) .skip (.exit 0)) (.seq (.block 1 (.seq (.ops f161r4) (.seq (.ops f161r5) (.block 2 (.loop f161l10))))) (.ops f161r11))))
def f161r13 : LS := [o 34 (.ldn 4 (t 5)),
 q (.st 4 (t 4) (t 34))]
def f161 : SCode := (.seq (.ops f161r0) (.seq (.ops f161r1) (.seq (.seq (.ops f161r2) (.block 0 (.loop f161l12))) (.seq (.ops f161r13) .ret))))
theorem f161_calls : Sound Tryz.prog 161 35 f161 [.cn 4 4] := sound_of mixed Tryz.func161 rfl (by kernel_rfl) (by kernel_rfl) (by kernel_rfl)
def f162r0 : LS := [o 1 (.box (t 0)),o 2 (.mv (.const (.slice none 0 0)))]
def f162r1 : LS := [o 3 (.fa 0 (t 1)),o 4 (.ld1 (t 3)),o 5 (.fa 1 (t 1)),o 6 (.ld1 (t 5)),o 7 (.bslice [(.string ⟨#[]⟩), (.string ⟨#[]⟩)] 2 [(0, 1), (1, 1)] [(t 4), (t 6)]),o 2 (.mv (t 7))]
def f162 : SCode := (.seq (.ops f162r0) (.seq (.ops f162r1) .ret))
theorem f162_calls : Sound Tryz.prog 162 8 f162 [.t 2] := sound_of mixed Tryz.func162 rfl (by kernel_rfl) (by kernel_rfl) (by kernel_rfl)
def f165r0 : LS := [o 4 (.mv (i 0))]
def f165r1 : LS := [o 5 (.mv (t 1)),o 6 (.cmp .geq (t 5) (i 0)),o 7 (.mv (t 6)),
 g 8 7 (.mv (t 0)),
 g 9 7 (.mv (t 1)),
 g 10 7 (.ar .sub (i 9223372036854775807) (t 9)),
 g 11 7 (.cmp .leq (t 8) (t 10)),o 12 (.pick (t 7) (t 11) (b false)),o 13 (.mv (t 12)),
 n 14 13 (.mv (t 1)),
 n 15 13 (.cmp .lss (t 14) (i 0)),
 n 16 13 (.mv (t 15)),
 g 17 16 (.mv (t 0)),
 g 18 16 (.mv (t 1)),
 g 19 16 (.ar .sub (i (-9223372036854775808)) (t 18)),
 g 20 16 (.cmp .geq (t 17) (t 19)),
 n 21 13 (.pick (t 16) (t 20) (b false)),o 22 (.pick (t 13) (b true) (t 21)),o 23 (.call 150 [(t 22), (.const (.string ⟨#[69, 82, 82, 32, 111, 118, 101, 114]⟩))])]
def f165r2 : LS := [o 24 (.mv (t 0)),o 25 (.mv (t 1)),o 26 (.ar .add (t 24) (t 25)),o 4 (.mv (t 26))]
def f165 : SCode := (.seq (.ops f165r0) (.seq (.ops f165r1) (.seq (.ops f165r2) .ret)))
theorem f165_calls : Sound Tryz.prog 165 27 f165 [.t 4] := sound_of mixed Tryz.func165 rfl (by kernel_rfl) (by kernel_rfl) (by kernel_rfl)
def f230r0 : LS := [o 2 (.box (t 0)),o 3 (.mv (b false))]
def f230r1 : LS := [o 4 (.fa 0 (t 2)),o 5 (.ld1 (t 4)),o 6 (.ld1 (t 1)),o 7 (.cmp .eql (t 5) (t 6)),o 3 (.mv (t 7))]
def f230 : SCode := (.seq (.ops f230r0) (.seq (.ops f230r1) .ret))
theorem f230_calls : Sound Tryz.prog 230 8 f230 [.t 3] := sound_of mixed Tryz.func230 rfl (by kernel_rfl) (by kernel_rfl) (by kernel_rfl)
def f232r0 : LS := [o 3 (.mv (b false))]
def f232r1 : LS := [o 4 (.ld1 (t 1)),o 5 (.mv (t 0)),o 6 (.callv (t 4) [(t 5)]),o 7 (.un .not (t 6)),o 3 (.mv (t 7))]
def f232 : SCode := (.seq (.ops f232r0) (.seq (.ops f232r1) .ret))
theorem f232_calls : Sound Tryz.prog 232 8 f232 [.t 3] := sound_of mixed Tryz.func232 rfl (by kernel_rfl) (by kernel_rfl) (by kernel_rfl)
end Go.Proofs.YtjnijlnmbjjgpaaGreatDoor.C
set_option maxRecDepth 100000
namespace Go.Proofs.YtjnijlnmbjjgpaaGreatDoor.C
open Go Go.Sx Go.Sx.S
def f4r0 : LS := [o 3 (.box (t 0)),o 5 (.box (t 2)),o 6 (.mv (b false))]
def f4r1 : LS := [o 10 (.ldn 8 (t 3)),o 11 (.bslice [(.string ⟨#[]⟩), (.int .i64 0), (.string ⟨#[]⟩), (.slice none 0 0), (.slice none 0 0), (.slice none 0 0), (.bool false), (.int .i64 0)] 1 [(0, 8)] [(t 10)]),o 7 (.mv (t 11))]
def f4r2 : LS := [o 12 (.ldn 3 (t 5)),o 13 (.call 11 [(t 12)]),o 14 (.mv (t 13)),
 n 15 14 (.mv (t 7)),
 n 16 14 (.call 12 [(t 15), (.const (.slice none 0 0))]),o 17 (.pick (t 14) (b true) (t 16)),o 18 (.mv (t 17)),
 n 19 18 (.fa 0 (t 5)),
 n 20 18 (.ld1 (t 19)),
 n 21 18 (.len (t 20)),
 n 22 18 (.cmp .lss (t 21) (i 1)),o 23 (.pick (t 18) (b true) (t 22))]
def f4r3 : LS := [o 24 (.call 13 []),o 6 (.mv (t 24))]
def f4r4 : LS := [o 8 (.mv (.const (.slice none 0 0)))]
def f4r5 : LS := [o 9 (.mv (i 0))]
def f4r6 : LS := [o 25 (.mv (t 9)),o 26 (.fa 0 (t 5)),o 27 (.ld1 (t 26)),o 28 (.len (t 27)),o 29 (.cmp .lss (t 25) (t 28))]
def f4r7 : LS := [o 32 (.mv (t 8)),o 33 (.fa 0 (t 5)),o 34 (.ld1 (t 33)),o 35 (.mv (t 9)),o 36 (.ixs 1 (t 34) (t 35)),o 37 (.ld1 (t 36)),o 38 (.fa 1 (t 5)),o 39 (.ld1 (t 38)),o 40 (.bslice [(.string ⟨#[]⟩), (.string ⟨#[]⟩)] 2 [(0, 1), (1, 1)] [(t 37), (t 39)]),o 41 (.app 1 16 [(.string ⟨#[]⟩)] (t 32) (t 40)),o 8 (.mv (t 41))]
def f4r8 : LS := [o 30 (.mv (t 9)),o 31 (.ar .add (t 30) (i 1)),o 9 (.mv (t 31))]
def f4l9 : SCode := (.seq (.seq (.ops f4r6) (.cond (t 29) .skip (.exit 0))) (.seq (.block 1 (.ops f4r7)) (.ops f4r8)))
def f4r10 : LS := [o 42 (.mv (t 7)),o 43 (.mv (t 1)),o 44 (.mv (t 8)),o 45 (.fa 0 (t 3)),o 46 (.ld1 (t 45)),o 47 (.bslice [(.string ⟨#[]⟩), (.string ⟨#[]⟩)] 2 [(0, 1), (1, 1)] [(.const (.string ⟨#[72, 83, 69, 84]⟩)), (t 46)]),o 48 (.call 15 [(t 44), (t 47)]),o 49 (.call 14 [(t 42), (t 43), (t 48)]),o 50 (.mv (t 49)),
 g 51 50 (.mv (t 7)),
 g 52 50 (.mv (t 1)),
 g 53 50 (.fa 0 (t 3)),
 g 54 50 (.ld1 (t 53)),
 g 55 50 (.fa 0 (t 5)),
 g 56 50 (.ld1 (t 55)),
 g 57 50 (.ixs 1 (t 56) (i 0)),
 g 58 50 (.ld1 (t 57)),
 g 59 50 (.bslice [(.string ⟨#[]⟩), (.string ⟨#[]⟩), (.string ⟨#[]⟩)] 3 [(0, 1), (1, 1), (2, 1)] [(.const (.string ⟨#[72, 83, 69, 84]⟩)), (t 54), (t 58)]),
 g 60 50 (.call 14 [(t 51), (t 52), (t 59)]),o 61 (.pick (t 50) (t 60) (b false)),o 62 (.mv (t 61)),
 g 63 62 (.mv (t 7)),
 g 64 62 (.mv (t 1)),
 g 65 62 (.fa 0 (t 3)),
 g 66 62 (.ld1 (t 65)),
 g 67 62 (.fa 0 (t 5)),
 g 68 62 (.ld1 (t 67)),
 g 69 62 (.ixs 1 (t 68) (i 0)),
 g 70 62 (.ld1 (t 69)),
 g 71 62 (.bslice [(.string ⟨#[]⟩), (.string ⟨#[]⟩), (.string ⟨#[]⟩)] 3 [(0, 1), (1, 1), (2, 1)] [(.const (.string ⟨#[72, 71, 69, 84]⟩)), (t 66), (t 70)]),
 g 72 62 (.call 14 [(t 63), (t 64), (t 71)]),o 73 (.pick (t 62) (t 72) (b false)),o 74 (.mv (t 73)),
 g 75 74 (.mv (t 7)),
 g 76 74 (.mv (t 1)),
 g 77 74 (.fa 0 (t 5)),
 g 78 74 (.ld1 (t 77)),
 g 79 74 (.fa 0 (t 3)),
 g 80 74 (.ld1 (t 79)),
 g 81 74 (.bslice [(.string ⟨#[]⟩), (.string ⟨#[]⟩)] 2 [(0, 1), (1, 1)] [(.const (.string ⟨#[72, 68, 69, 76]⟩)), (t 80)]),
 g 82 74 (.call 15 [(t 78), (t 81)]),
 g 83 74 (.call 14 [(t 75), (t 76), (t 82)]),o 84 (.pick (t 74) (t 83) (b false)),o 85 (.mv (t 84)),
 g 86 85 (.mv (t 7)),
 g 87 85 (.mv (t 1)),
 g 88 85 (.fa 0 (t 3)),
 g 89 85 (.ld1 (t 88)),
 g 90 85 (.bslice [(.string ⟨#[]⟩), (.string ⟨#[]⟩)] 2 [(0, 1), (1, 1)] [(.const (.string ⟨#[72, 76, 69, 78]⟩)), (t 89)]),
 g 91 85 (.call 14 [(t 86), (t 87), (t 90)]),o 92 (.pick (t 85) (t 91) (b false)),o 93 (.mv (t 92)),
 g 94 93 (.mv (t 7)),
 g 95 93 (.mv (t 1)),
 g 96 93 (.fa 0 (t 3)),
 g 97 93 (.ld1 (t 96)),
 g 98 93 (.bslice [(.string ⟨#[]⟩), (.string ⟨#[]⟩)] 2 [(0, 1), (1, 1)] [(.const (.string ⟨#[72, 71, 69, 84, 65, 76, 76]⟩)), (t 97)]),
 g 99 93 (.call 14 [(t 94), (t 95), (t 98)]),o 100 (.pick (t 93) (t 99) (b false)),o 101 (.mv (t 100)),
 g 102 101 (.mv (t 7)),
 g 103 101 (.mv (t 1)),
 g 104 101 (.fa 0 (t 3)),
 g 105 101 (.ld1 (t 104)),
 g 106 101 (.fa 0 (t 5)),
 g 107 101 (.ld1 (t 106)),
 g 108 101 (.ixs 1 (t 107) (i 0)),
 g 109 101 (.ld1 (t 108)),
 g 110 101 (.fa 1 (t 5)),
 g 111 101 (.ld1 (t 110)),
 g 112 101 (.bslice [(.string ⟨#[]⟩), (.string ⟨#[]⟩), (.string ⟨#[]⟩), (.string ⟨#[]⟩)] 4 [(0, 1), (1, 1), (2, 1), (3, 1)] [(.const (.string ⟨#[72, 73, 78, 67, 82, 66, 89]⟩)), (t 105), (t 109), (t 111)]),
 g 113 101 (.call 14 [(t 102), (t 103), (t 112)]),o 114 (.pick (t 101) (t 113) (b false)),o 115 (.mv (t 114)),
 g 116 115 (.call 13 []),o 117 (.pick (t 115) (t 116) (b false)),o 6 (.mv (t 117))]
def f4 : SCode := (.seq (.ops f4r0) (.seq (.ops f4r1) (.seq (.seq (.ops f4r2) (.cond (t 23) (.seq (.ops f4r3) .ret) .skip)) (.seq (.ops f4r4) (.seq (.seq (.ops f4r5) (.block 0 (.loop f4l9))) (.seq (.ops f4r10) .ret))))))
theorem f4_calls : Sound Tryz.prog 4 118 f4 [.t 6] := sound_of mixed Tryz.func4 rfl (by kernel_rfl) (by kernel_rfl) (by kernel_rfl)
def f60r0 : LS := [o 4 (.new [(.int .i64 0), (.int .i64 0), (.string ⟨#[]⟩), (.slice none 0 0)])]
def f60r1 : LS := [o 18 (.mv (t 1))]
def f60r2 : LS := [o 20 (.cmp .eql (t 18) (.const (.string ⟨#[72, 83, 69, 84]⟩))),o 19 (.mv (t 20))]
def f60r3 : LS := [o 5 (.mv (i 0))]
def f60r4 : LS := [o 6 (.mv (i 1))]
def f60r5 : LS := [o 21 (.mv (t 6)),o 22 (.mv (t 0)),o 23 (.nilck (t 22)),o 24 (.fa 0 (t 23)),o 25 (.fa 2 (t 24)),o 26 (.ld1 (t 25)),o 27 (.len (t 26)),o 28 (.cmp .lss (t 21) (t 27))]
def f60r6 : LS := [o 31 (.mv (t 0)),o 32 (.mv (t 0)),o 33 (.nilck (t 32)),o 34 (.fa 0 (t 33)),o 35 (.fa 2 (t 34)),o 36 (.ld1 (t 35)),o 37 (.mv (t 6)),o 38 (.ixs 1 (t 36) (t 37)),o 39 (.ld1 (t 38)),o 40 (.call 125 [(t 31), (i 2), (t 39)]),o 41 (.un .not (t 40)),o 42 (.mv (t 41)),
 g 43 42 (.mv (t 0)),
 g 44 42 (.mv (t 6)),
 g 45 42 (.call 126 [(t 43), (t 44), (i 1), (i 2)]),
 g 46 42 (.un .not (t 45)),o 47 (.pick (t 42) (t 46) (b false))]
def f60r7 : LS := [o 48 (.mv (t 5)),o 49 (.ar .add (t 48) (i 1)),o 5 (.mv (t 49))]
def f60r8 : LS := [o 50 (.mv (t 0)),o 51 (.mv (t 0)),o 52 (.nilck (t 51)),o 53 (.fa 0 (t 52)),o 54 (.fa 2 (t 53)),o 55 (.ld1 (t 54)),o 56 (.mv (t 6)),o 57 (.ixs 1 (t 55) (t 56)),o 58 (.ld1 (t 57)),o 59 (.mv (t 0)),o 60 (.nilck (t 59)),o 61 (.fa 0 (t 60)),o 62 (.fa 2 (t 61)),o 63 (.ld1 (t 62)),o 64 (.mv (t 6)),o 65 (.ar .add (t 64) (i 1)),o 66 (.ixs 1 (t 63) (t 65)),o 67 (.ld1 (t 66)),o 68 (.build [(.int .i64 0), (.string ⟨#[]⟩), (.string ⟨#[]⟩), (.string ⟨#[]⟩), (.int .i64 0)] [(0, 1), (2, 1), (3, 1)] [(i 5), (t 58), (t 67)]),o 69 (.mv (t 0)),o 70 (.nilck (t 69)),o 71 (.fa 5 (t 70)),o 72 (.fa 2 (t 71)),o 73 (.ld1 (t 72)),o 74 (.len (t 73)),o 75 (.mv (t 5)),o 76 (.ar .add (t 74) (t 75)),o 77 (.call 127 [(t 50), (t 68), (t 76)]),o 78 (.un .not (t 77))]
def f60r9 : LS := [o 79 (.build [(.int .i64 0), (.int .i64 0), (.string ⟨#[]⟩), (.slice none 0 0)] [] []),
 q (.st 4 (t 4) (t 79))]
def f60r10 : LS := [o 29 (.mv (t 6)),o 30 (.ar .add (t 29) (i 2)),o 6 (.mv (t 30))]
def f60l11 : SCode := (.seq (.seq (.ops f60r5) (.cond (t 28) .skip (.exit 1))) (.seq (.block 2 (.seq (.seq (.ops f60r6) (.cond (t 47) (.ops f60r7) .skip)) (.seq (.ops f60r8) (.cond (t 78) (.seq (.ops f60r9) .ret) .skip)))) (.ops f60r10)))
def f60r12 : LS := [o 80 (.mv (t 5)),o 81 (.call 128 [(t 80)]),
 q (.st 4 (t 4) (t 81))]
def f60r13 : LS := [o 83 (.cmp .eql (t 18) (.const (.string ⟨#[72, 71, 69, 84]⟩))),o 82 (.mv (t 83))]
def f60r14 : LS := [o 85 (.mv (t 0)),o 86 (.mv (t 0)),o 87 (.nilck (t 86)),o 88 (.fa 0 (t 87)),o 89 (.fa 2 (t 88)),o 90 (.ld1 (t 89)),o 91 (.ixs 1 (t 90) (i 1)),o 92 (.ld1 (t 91)),o 93 (.call 129 [(t 85), (t 92)]),o 84 (.mv (t 93)),o 94 (.ext (t 84) 0),o 95 (.ext (t 84) 1),o 7 (.mv (t 94)),o 8 (.mv (t 95))]
def f60r15 : LS := [o 96 (.mv (t 8)),o 97 (.un .not (t 96))]
def f60r16 : LS := [o 98 (.build [(.int .i64 0), (.int .i64 0), (.string ⟨#[]⟩), (.slice none 0 0)] [] []),
 q (.st 4 (t 4) (t 98))]
def f60r17 : LS := [o 99 (.mv (t 7)),o 100 (.call 130 [(t 99)]),
 q (.st 4 (t 4) (t 100))]
def f60r18 : LS := [o 102 (.cmp .eql (t 18) (.const (.string ⟨#[72, 68, 69, 76]⟩))),o 101 (.mv (t 102))]
def f60r19 : LS := [o 103 (.mv (t 0)),o 104 (.call 131 [(t 103), (i 2), (i 6)]),
 q (.st 4 (t 4) (t 104))]
def f60r20 : LS := [o 106 (.cmp .eql (t 18) (.const (.string ⟨#[72, 76, 69, 78]⟩))),o 105 (.mv (t 106))]
def f60r21 : LS := [o 107 (.mv (t 0)),o 108 (.nilck (t 107)),o 109 (.fa 5 (t 108)),o 110 (.fa 2 (t 109)),o 111 (.ld1 (t 110)),o 112 (.len (t 111)),o 113 (.call 128 [(t 112)]),
 q (.st 4 (t 4) (t 113))]
def f60r22 : LS := [o 115 (.cmp .eql (t 18) (.const (.string ⟨#[72, 71, 69, 84, 65, 76, 76]⟩))),o 114 (.mv (t 115))]
def f60r23 : LS := [o 9 (.mv (.const (.slice none 0 0)))]
def f60r24 : LS := [o 10 (.mv (i 0))]
def f60r25 : LS := [o 116 (.mv (t 10)),o 117 (.mv (t 0)),o 118 (.nilck (t 117)),o 119 (.fa 5 (t 118)),o 120 (.fa 2 (t 119)),o 121 (.ld1 (t 120)),o 122 (.len (t 121)),o 123 (.cmp .lss (t 116) (t 122))]
def f60r26 : LS := [o 126 (.mv (t 9)),o 127 (.mv (t 0)),o 128 (.nilck (t 127)),o 129 (.fa 5 (t 128)),o 130 (.fa 2 (t 129)),o 131 (.ld1 (t 130)),o 132 (.mv (t 10)),o 133 (.ixs 2 (t 131) (t 132)),o 134 (.fa 0 (t 133)),o 135 (.ld1 (t 134)),o 136 (.mv (t 0)),o 137 (.nilck (t 136)),o 138 (.fa 5 (t 137)),o 139 (.fa 2 (t 138)),o 140 (.ld1 (t 139)),o 141 (.mv (t 10)),o 142 (.ixs 2 (t 140) (t 141)),o 143 (.fa 1 (t 142)),o 144 (.ld1 (t 143)),o 145 (.bslice [(.string ⟨#[]⟩), (.string ⟨#[]⟩)] 2 [(0, 1), (1, 1)] [(t 135), (t 144)]),o 146 (.app 1 16 [(.string ⟨#[]⟩)] (t 126) (t 145)),o 9 (.mv (t 146))]
def f60r27 : LS := [o 124 (.mv (t 10)),o 125 (.ar .add (t 124) (i 1)),o 10 (.mv (t 125))]
def f60l28 : SCode := (.seq (.seq (.ops f60r25) (.cond (t 123) .skip (.exit 3))) (.seq (.block 4 (.ops f60r26)) (.ops f60r27)))
def f60r29 : LS := [o 147 (.mv (t 9)),o 148 (.call 123 [(t 147)]),
 q (.st 4 (t 4) (t 148))]
def f60r30 : LS := [o 150 (.mv (t 0)),o 151 (.nilck (t 150)),o 152 (.fa 0 (t 151)),o 153 (.fa 2 (t 152)),o 154 (.ld1 (t 153)),o 155 (.ixs 1 (t 154) (i 2)),o 156 (.ld1 (t 155)),o 157 (.call 132 [(t 156)]),o 149 (.mv (t 157)),o 158 (.ext (t 149) 0),o 159 (.ext (t 149) 1),o 11 (.mv (t 158)),o 12 (.mv (t 159))]
def f60r31 : LS := [o 161 (.mv (t 0)),o 162 (.mv (t 0)),o 163 (.nilck (t 162)),o 164 (.fa 0 (t 163)),o 165 (.fa 2 (t 164)),o 166 (.ld1 (t 165)),o 167 (.ixs 1 (t 166) (i 1)),o 168 (.ld1 (t 167)),o 169 (.call 129 [(t 161), (t 168)]),o 160 (.mv (t 169)),o 170 (.ext (t 160) 0),o 171 (.ext (t 160) 1),o 13 (.mv (t 170)),o 14 (.mv (t 171))]
def f60r32 : LS := [o 15 (.mv (i 0)),o 16 (.mv (b true))]
def f60r33 : LS := [o 172 (.mv (t 0)),o 173 (.nilck (t 172)),o 174 (.fa 5 (t 173)),o 175 (.fa 2 (t 174)),o 176 (.ld1 (t 175)),o 177 (.len (t 176)),o 178 (.ar .add (t 177) (i 1)),o 17 (.mv (t 178))]
def f60r34 : LS := [o 179 (.mv (t 14))]
def f60r35 : LS := [o 180 (.mv (t 17)),o 181 (.ar .sub (t 180) (i 1)),o 17 (.mv (t 181))]
def f60r36 : LS := [o 183 (.mv (t 13)),o 184 (.call 132 [(t 183)]),o 182 (.mv (t 184)),o 185 (.ext (t 182) 0),o 186 (.ext (t 182) 1),o 15 (.mv (t 185)),o 16 (.mv (t 186))]
def f60r37 : LS := [o 187 (.mv (t 16)),o 188 (.un .not (t 187))]
def f60r38 : LS := [o 189 (.mv (t 0)),o 190 (.nilck (t 189)),o 191 (.fa 0 (t 190)),o 192 (.fa 4 (t 191)),
 q (.st 1 (t 192) (.const (.string ⟨#[69, 82, 82, 32, 110, 117, 109, 98, 101, 114]⟩)))]
def f60r39 : LS := [o 193 (.build [(.int .i64 0), (.int .i64 0), (.string ⟨#[]⟩), (.slice none 0 0)] [] []),
 q (.st 4 (t 4) (t 193))]
def f60r40 : LS := [o 195 (.mv (t 0)),o 196 (.nilck (t 195)),o 197 (.fa 0 (t 196)),o 198 (.mv (t 15)),o 199 (.mv (t 11)),o 200 (.call 133 [(t 197), (t 198), (t 199)]),o 194 (.mv (t 200)),o 201 (.ext (t 194) 0),o 202 (.ext (t 194) 1),o 15 (.mv (t 201)),o 16 (.mv (t 202))]
def f60r41 : LS := [o 203 (.mv (t 16))]
def f60r42 : LS := [o 204 (.mv (t 0)),o 205 (.mv (t 0)),o 206 (.nilck (t 205)),o 207 (.fa 0 (t 206)),o 208 (.fa 2 (t 207)),o 209 (.ld1 (t 208)),o 210 (.ixs 1 (t 209) (i 1)),o 211 (.ld1 (t 210)),o 212 (.mv (t 15)),o 215 (.mv (t 17)),o 213 (.callq 34 [(t 212), (i 10)]),o 214 (.build [(.int .i64 0), (.string ⟨#[]⟩), (.string ⟨#[]⟩), (.string ⟨#[]⟩), (.int .i64 0)] [(0, 1), (2, 1), (3, 1)] [(i 5), (t 211), (t 213)]),o 216 (.call 127 [(t 204), (t 214), (t 215)])]
def f60r43 : LS := [o 217 (.mv (t 15)),o 218 (.call 128 [(t 217)]),
 q (.st 4 (t 4) (t 218))]
def f60 : SCode := (.seq (.ops f60r0) (.seq (.seq (.ops f60r1) (.block 0 (.seq (.ops f60r2) (.cond (t 19) (.seq (.ops f60r3) (.seq (.seq (.ops f60r4) (.block 1 (.loop f60l11))) (.seq (.ops f60r12) .ret))) (.seq (.ops f60r13) (.cond (t 82) (.seq (.ops f60r14) (.seq (.seq (.ops f60r15) (.cond (t 97) (.seq (.ops f60r16) .ret) .skip)) (.seq (.ops f60r17) .ret))) (.seq (.ops f60r18) (.cond (t 101) (.seq (.ops f60r19) .ret) (.seq (.ops f60r20) (.cond (t 105) (.seq (.ops f60r21) .ret) (.seq (.ops f60r22) (.cond (t 114) (.seq (.ops f60r23) (.seq (.seq (.ops f60r24) (.block 3 (.loop f60l28))) (.seq (.ops f60r29) .ret))) .skip)))))))))))) (.seq (.ops f60r30) (.seq (.ops f60r31) (.seq (.ops f60r32) (.seq (.ops f60r33) (.seq (.seq (.ops f60r34) (.cond (t 179) (.seq (.ops f60r35) (.ops f60r36)) .skip)) (.seq (.seq (.ops f60r37) (.cond (t 188) (.seq (.ops f60r38) (.seq (.ops f60r39) .ret)) .skip)) (.seq (.ops f60r40) (.seq (.seq (.ops f60r41) (.cond (t 203) (.ops f60r42) .skip)) (.seq (.ops f60r43) .ret)))))))))))
theorem f60_calls : Sound Tryz.prog 60 219 f60 [.cn 4 4] := sound_of mixed Tryz.func60 rfl (by kernel_rfl) (by kernel_rfl) (by kernel_rfl)
def f125r0 : LS := [o 6 (.mv (b false))]
def f125r1 : LS := [o 12 (.mv (t 1)),o 13 (.cmp .eql (t 12) (i 2))]
def f125r2 : LS := [o 15 (.mv (t 0)),o 16 (.mv (t 2)),o 17 (.call 129 [(t 15), (t 16)]),o 14 (.mv (t 17)),o 18 (.ext (t 14) 0),o 19 (.ext (t 14) 1),o 7 (.mv (t 18)),o 8 (.mv (t 19))]
def f125r3 : LS := [o 20 (.mv (t 8)),o 6 (.mv (t 20))]
def f125r4 : LS := [o 21 (.mv (t 1)),o 22 (.cmp .eql (t 21) (i 4))]
def f125r5 : LS := [o 23 (.mv (t 0)),o 24 (.mv (t 2)),o 25 (.call 122 [(t 23), (t 24)]),o 6 (.mv (t 25))]
def f125r6 : LS := [o 27 (.mv (t 0)),o 28 (.mv (t 2)),o 29 (.call 138 [(t 27), (t 28)]),o 26 (.mv (t 29)),o 30 (.ext (t 26) 0),o 31 (.ext (t 26) 1),o 32 (.ext (t 26) 2),o 9 (.mv (t 30)),o 10 (.mv (t 31)),o 11 (.mv (t 32))]
def f125r7 : LS := [o 33 (.mv (t 11)),o 6 (.mv (t 33))]
def f125 : SCode := (.seq (.ops f125r0) (.seq (.seq (.ops f125r1) (.cond (t 13) (.seq (.ops f125r2) (.seq (.ops f125r3) .ret)) .skip)) (.seq (.seq (.ops f125r4) (.cond (t 22) (.seq (.ops f125r5) .ret) .skip)) (.seq (.ops f125r6) (.seq (.ops f125r7) .ret)))))
theorem f125_calls : Sound Tryz.prog 125 34 f125 [.t 6] := sound_of mixed Tryz.func125 rfl (by kernel_rfl) (by kernel_rfl) (by kernel_rfl)
def f126r0 : LS := [o 8 (.mv (b false))]
def f126r1 : LS := [o 10 (.mv (t 2)),o 9 (.mv (t 10))]
def f126r2 : LS := [o 11 (.mv (t 9)),o 12 (.mv (t 1)),o 13 (.cmp .lss (t 11) (t 12))]
def f126r3 : LS := [o 17 (.mv (t 0)),o 18 (.nilck (t 17)),o 19 (.fa 0 (t 18)),o 20 (.fa 2 (t 19)),o 21 (.ld1 (t 20)),o 22 (.mv (t 9)),o 23 (.ixs 1 (t 21) (t 22)),o 24 (.ld1 (t 23)),o 25 (.mv (t 0)),o 26 (.nilck (t 25)),o 27 (.fa 0 (t 26)),o 28 (.fa 2 (t 27)),o 29 (.ld1 (t 28)),o 30 (.mv (t 1)),o 31 (.ixs 1 (t 29) (t 30)),o 32 (.ld1 (t 31)),o 33 (.cmp .eql (t 24) (t 32))]
def f126r4 : LS := [o 8 (.mv (b true))]
def f126r5 : LS := [o 14 (.mv (t 9)),o 15 (.mv (t 3)),o 16 (.ar .add (t 14) (t 15)),o 9 (.mv (t 16))]
def f126l6 : SCode := (.seq (.seq (.ops f126r2) (.cond (t 13) .skip (.exit 0))) (.seq (.block 1 (.seq (.ops f126r3) (.cond (t 33) (.seq (.ops f126r4) .ret) .skip))) (.ops f126r5)))
def f126r7 : LS := [o 8 (.mv (b false))]
def f126 : SCode := (.seq (.ops f126r0) (.seq (.seq (.ops f126r1) (.block 0 (.loop f126l6))) (.seq (.ops f126r7) .ret)))
theorem f126_calls : Sound Tryz.prog 126 34 f126 [.t 8] := sound_of mixed Tryz.func126 rfl (by kernel_rfl) (by kernel_rfl) (by kernel_rfl)
def f129r0 : LS := [o 4 (.mv e),o 5 (.mv (b false))]
def f129r1 : LS := [o 6 (.mv (i 0))]
def f129r2 : LS := [o 7 (.mv (t 6)),o 8 (.mv (t 0)),o 9 (.nilck (t 8)),o 10 (.fa 5 (t 9)),o 11 (.fa 2 (t 10)),o 12 (.ld1 (t 11)),o 13 (.len (t 12)),o 14 (.cmp .lss (t 7) (t 13))]
def f129r3 : LS := [o 17 (.mv (t 0)),o 18 (.nilck (t 17)),o 19 (.fa 5 (t 18)),o 20 (.fa 2 (t 19)),o 21 (.ld1 (t 20)),o 22 (.mv (t 6)),o 23 (.ixs 2 (t 21) (t 22)),o 24 (.fa 0 (t 23)),o 25 (.ld1 (t 24)),o 26 (.mv (t 1)),o 27 (.cmp .eql (t 25) (t 26))]
def f129r4 : LS := [o 28 (.mv (t 0)),o 29 (.nilck (t 28)),o 30 (.fa 5 (t 29)),o 31 (.fa 2 (t 30)),o 32 (.ld1 (t 31)),o 33 (.mv (t 6)),o 34 (.ixs 2 (t 32) (t 33)),o 35 (.fa 1 (t 34)),o 36 (.ld1 (t 35)),o 4 (.mv (t 36)),o 5 (.mv (b true))]
def f129r5 : LS := [o 15 (.mv (t 6)),o 16 (.ar .add (t 15) (i 1)),o 6 (.mv (t 16))]
def f129l6 : SCode := (.seq (.seq (.ops f129r2) (.cond (t 14) .skip (.exit 0))) (.seq (.block 1 (.seq (.ops f129r3) (.cond (t 27) (.seq (.ops f129r4) .ret) .skip))) (.ops f129r5)))
def f129r7 : LS := [o 4 (.mv e),o 5 (.mv (b false))]
def f129 : SCode := (.seq (.ops f129r0) (.seq (.seq (.ops f129r1) (.block 0 (.loop f129l6))) (.seq (.ops f129r7) .ret)))
theorem f129_calls : Sound Tryz.prog 129 37 f129 [.t 4, .t 5] := sound_of mixed Tryz.func129 rfl (by kernel_rfl) (by kernel_rfl) (by kernel_rfl)
def f131r0 : LS := [o 6 (.new [(.int .i64 0), (.int .i64 0), (.string ⟨#[]⟩), (.slice none 0 0)])]
def f131r1 : LS := [o 7 (.mv (i 0))]
def f131r2 : LS := [o 8 (.mv (i 1))]
def f131r3 : LS := [o 9 (.mv (t 8)),o 10 (.mv (t 0)),o 11 (.nilck (t 10)),o 12 (.fa 0 (t 11)),o 13 (.fa 2 (t 12)),o 14 (.ld1 (t 13)),o 15 (.len (t 14)),o 16 (.cmp .lss (t 9) (t 15))]
def f131r4 : LS := [o 19 (.mv (t 0)),o 20 (.mv (t 1)),o 21 (.mv (t 0)),o 22 (.nilck (t 21)),o 23 (.fa 0 (t 22)),o 24 (.fa 2 (t 23)),o 25 (.ld1 (t 24)),o 26 (.mv (t 8)),o 27 (.ixs 1 (t 25) (t 26)),o 28 (.ld1 (t 27)),o 29 (.call 125 [(t 19), (t 20), (t 28)]),o 30 (.mv (t 29)),
 g 31 30 (.mv (t 0)),
 g 32 30 (.mv (t 8)),
 g 33 30 (.call 126 [(t 31), (t 32), (i 1), (i 1)]),
 g 34 30 (.un .not (t 33)),o 35 (.pick (t 30) (t 34) (b false))]
def f131r5 : LS := [o 36 (.mv (t 7)),o 37 (.ar .add (t 36) (i 1)),o 7 (.mv (t 37))]
def f131r6 : LS := [o 38 (.mv (t 0)),o 39 (.mv (t 2)),o 40 (.mv (t 0)),o 41 (.nilck (t 40)),o 42 (.fa 0 (t 41)),o 43 (.fa 2 (t 42)),o 44 (.ld1 (t 43)),o 45 (.mv (t 8)),o 46 (.ixs 1 (t 44) (t 45)),o 47 (.ld1 (t 46)),o 48 (.build [(.int .i64 0), (.string ⟨#[]⟩), (.string ⟨#[]⟩), (.string ⟨#[]⟩), (.int .i64 0)] [(0, 1), (2, 1)] [(t 39), (t 47)]),o 49 (.call 134 [(t 38), (t 48)])]
def f131r7 : LS := [o 17 (.mv (t 8)),o 18 (.ar .add (t 17) (i 1)),o 8 (.mv (t 18))]
def f131l8 : SCode := (.seq (.seq (.ops f131r3) (.cond (t 16) .skip (.exit 0))) (.seq (.block 1 (.seq (.ops f131r4) (.cond (t 35) (.seq (.ops f131r5) (.ops f131r6)) .skip))) (.ops f131r7)))
def f131r9 : LS := [o 50 (.mv (t 7)),o 51 (.call 128 [(t 50)]),
 q (.st 4 (t 6) (t 51))]
def f131 : SCode := (.seq (.ops f131r0) (.seq (.ops f131r1) (.seq (.seq (.ops f131r2) (.block 0 (.loop f131l8))) (.seq (.ops f131r9) .ret))))
theorem f131_calls : Sound Tryz.prog 131 52 f131 [.cn 6 4] := sound_of mixed Tryz.func131 rfl (by kernel_rfl) (by kernel_rfl) (by kernel_rfl)
end Go.Proofs.YtjnijlnmbjjgpaaGreatDoor.C
set_option maxRecDepth 100000
namespace Go.Proofs.YtjnijlnmbjjgpaaGreatDoor.C
open Go Go.Sx Go.Sx.S
def f229r0 : LS := [o 4 (.mv (i 0))]
def f229r1 : LS := [o 6 (.mv (t 0)),o 7 (.len (t 6)),o 8 (.mv (i 0))]
def f229r2 : LS := [o 9 (.cmp .lss (t 8) (t 7))]
def f229r3 : LS := [o 10 (.mv (t 8)),o 5 (.mv (t 10))]
def f229r4 : LS := [o 11 (.mv (t 1)),o 12 (.mv (t 0)),o 13 (.mv (t 5)),o 14 (.ixs 2 (t 12) (t 13)),o 15 (.ldn 2 (t 14)),o 16 (.callv (t 11) [(t 15)])]
def f229r5 : LS := [o 17 (.mv (t 5)),o 4 (.mv (t 17))]
def f229r6 : LS := [o 18 (.ar .add (t 8) (i 1)),o 8 (.mv (t 18))]
def f229l7 : SCode := (.seq (.ops f229r2) (.seq (.cond (t 9) .skip (.exit 0)) (.seq (.block 1 (.seq (.ops f229r3) (.seq (.ops f229r4) (.cond (t 16) (.seq (.ops f229r5) .ret) .skip)))) (.ops f229r6))))
def f229r8 : LS := [o 4 (.mv (i (-1)))]
def f229 : SCode := (.seq (.ops f229r0) (.seq (.seq (.ops f229r1) (.block 0 (.loop f229l7))) (.seq (.ops f229r8) .ret)))
theorem f229_calls : Sound Tryz.prog 229 19 f229 [.t 4] := sound_of mixed Tryz.func229 rfl (by kernel_rfl) (by kernel_rfl) (by kernel_rfl)
end Go.Proofs.YtjnijlnmbjjgpaaGreatDoor.C
namespace Go.Proofs.YtjnijlnmbjjgpaaGreatDoor
open Go Go.Sx C
theorem two9_calls {h : Heap} {p : Pair} : CallsH Tryz.prog 162 [.agg ⟨encP p⟩] h (Ret (EachR h [p.name, p.text])) := by
 refine f162_calls (by simp) ?_
 intro b1 h1 g1
 refine Ei _ (Ai (cell_blk g1.blk rfl) (Ei _ (Ai (cell_blk g1.blk rfl) ?_)))
 intro b h2 g2
 exact ⟨b, rfl, g2.blk, by have := g2.id; have := g1.size; omega, g1.chg.nil g2.chg⟩
theorem listPair_calls {h : Heap} {v : Value} {l : List Pair} (hs : SL encP h v l) (hl : l.length ≤ 100000) :
  CallsH Tryz.prog 161 [v, .func (.func 162) #[] #[]] h (Ret fun r h' => ListAt h.size h' r (qs (l.flatMap (fun p : Pair => [p.name, p.text]))) ∧ Chg [] h h') := by
 obtain ⟨a, cc, rfl, _⟩ := hs.form
 have two : ∀ x : Pair, ((fun p : Pair => [p.name, p.text]) x).length ≤ 2 := fun x => by simp
 refine f161_calls (by simp) ?_
 intro b4 h1 g1
 have w := (St.start h).new g1
 intro b5 h2 g2
 have w := w.new g2
 refine w.st1 0 rfl rfl rfl rfl fun h3 w => ?_
 have w := w.empty (enc := encQ) (size := 4)
 refine loop_intro (fun q : Nat × Value => [(1, .func (.func 162) #[] #[]), (4, ptr b4), (5, ptr b5), (11, .slice a l.length cc), (12, .int .i64 l.length), (13, .int .i64 q.1)])
  (fun q h' => q.1 ≤ l.length ∧ St [] h h' [.o encQ 4 q.2 (qs ((l.take q.1).flatMap (fun p : Pair => [p.name, p.text]))), .b b5 [.int .i64 5, .int .i64 0, .string noText, q.2], .b b4 [.int .i64 0, .int .i64 0, .string ⟨#[]⟩, .slice none 0 0]])
  (fun q => l.length - q.1) (0, .slice none 0 0) ⟨rfl, rfl, rfl, rfl, rfl, rfl, trivial⟩ ⟨Nat.zero_le _, w⟩ ?_
 rintro ⟨q, v⟩ h4 ⟨hq, w⟩
 have hq : q ≤ l.length := hq
 obtain ⟨a4, c4, rfl, _⟩ := (show OL encQ 4 h4 v (qs ((l.take q).flatMap (fun p : Pair => [p.name, p.text]))) from w.get 0 rfl).sl.form
 refine Ai rfl (Ai (fun hlt => ?_) (fun hge => ?_))
 ·have hlt : q < l.length := by omega
  obtain ⟨b, o, rfl⟩ := hs.addr (by omega)
  have hcs := (hs.ext w.chg).cells encP_len (List.getElem?_eq_getElem hlt)
  obtain ⟨ss, hss⟩ : ∃ ss, ss = (fun p : Pair => [p.name, p.text]) l[q] := ⟨_, rfl⟩
  obtain ⟨pre, hpe⟩ : ∃ pre, pre = (l.take q).flatMap (fun p : Pair => [p.name, p.text]) := ⟨_, rfl⟩
  have hsl : ss.length ≤ 2 := by rw [hss]; exact two _
  have hpre : pre.length ≤ 200000 := by rw [hpe]; have := flat_len two (l.take q); rw [List.length_take] at this; omega
  have e9 : qs ((l.take (q + 1)).flatMap (fun p : Pair => [p.name, p.text])) = qs (pre ++ ss.take ss.length) := by rw [flat_take hlt, List.take_length, hpe, hss]
  have ln : (qs ((l.take q).flatMap (fun p : Pair => [p.name, p.text]))).length = pre.length := by rw [hpe]; exact List.length_map _
  have e0 : qs ((l.take q).flatMap (fun p : Pair => [p.name, p.text])) = qs (pre ++ ss.take 0) := by rw [hpe]; simp
  rw [ln, e0] at w
  refine Ai (by omega) (Ai (by omega) (Ei (encP l[q]) (Ai rfl (Ai hcs ?_))))
  intro b7 h40 g40
  have w := w.new g40
  refine w.st1 0 rfl rfl rfl rfl fun h41 w => ?_
  refine w.ldw 0 rfl rfl ?_
  refine call_ret (show CallsH _ _ _ _ (Ret (EachR _ ss)) by rw [hss]; exact two9_calls) ?_
  rintro _ h5 ⟨bx, rfl, Bx, hbx, c5⟩
  have w := w.add (e := .b bx (ss.map .string)) c5 Bx (fun k hk => by simp [En.fp] at hk; omega)
  have w := w.pick [0, 2, 3, 4] (by decide)
  refine loop_intro (fun p : Nat × Value => [(1, .func (.func 162) #[] #[]), (4, ptr b4), (5, ptr b5), (11, .slice (some ⟨b, o, none⟩) l.length cc), (12, .int .i64 l.length), (13, .int .i64 q), (19, .slice (some ⟨bx, 0, none⟩) ss.length ss.length), (20, .int .i64 ss.length), (21, .int .i64 p.1)])
   (fun p h' => p.1 ≤ ss.length ∧ St [] h h' [.b bx (ss.map .string), .o encQ 4 p.2 (qs (pre ++ ss.take p.1)), .b b5 [.int .i64 5, .int .i64 0, .string noText, p.2], .b b4 [.int .i64 0, .int .i64 0, .string ⟨#[]⟩, .slice none 0 0]])
   (fun p => ss.length - p.1) (0, .slice a4 pre.length c4) ⟨rfl, rfl, rfl, rfl, rfl, rfl, rfl, rfl, rfl, trivial⟩ ⟨Nat.zero_le _, w⟩ ?_
  rintro ⟨j, v⟩ h6 ⟨hj, w⟩
  have hj : j ≤ ss.length := hj
  obtain ⟨a6, c6, rfl, _⟩ := (show OL encQ 4 h6 v (qs (pre ++ ss.take j)) from w.get 1 rfl).sl.form
  refine Ai rfl (Ai (fun hlt2 => ?_) (fun hge2 => ?_))
  ·have hlt2 : j < ss.length := by omega
   have hqn : (qs (pre ++ ss.take j)).length ≤ 200002 := by unfold qs; simp; omega
   refine ix9 (w.get 0 rfl) rfl hlt2 (v := .string ss[j]) (by simp [hlt2]) ?_
   refine w.ld1 2 rfl rfl ?_
   refine w.callqv text9_calls fun h7 w => ?_
   intro b9 h8 g8
   have w := w.new g8
   refine w.app 2 rfl encQ_len encQ_one rfl (SL.one encQ_len (x := (4, 0, ss[j])) (w.get 0 rfl)) (by simp only [List.length_singleton]; omega) fun v' h9 w => ?_
   rw [← qs_snoc hlt2] at w
   obtain ⟨a9, c9, rfl, _⟩ := (show OL encQ 4 h9 v' (qs (pre ++ ss.take (j + 1))) from w.get 2 rfl).sl.form
   refine w.st1 3 rfl rfl rfl rfl fun h10 w => ?_
   have w := w.pick [1, 2, 3, 4] (by decide)
   refine Ai rfl (fun z hz => ?_)
   have hz := add_in hz (by omega) (by omega)
   subst hz
   exact Ai rfl (Ei (j + 1, _) (Ai ⟨rfl, rfl, rfl, rfl, rfl, rfl, rfl, rfl, rfl, trivial⟩ (Ai ⟨hlt2, w⟩ (by simp only; omega))))
  ·have hjn : j = ss.length := by omega
   subst hjn
   rw [← e9] at w
   have w := w.pick [1, 2, 3] (by decide)
   refine Ai rfl (fun z hz => ?_)
   have hz := add_in hz (by omega) (by omega)
   subst hz
   exact Ai rfl (Ei (q + 1, _) (Ai ⟨rfl, rfl, rfl, rfl, rfl, rfl, trivial⟩ (Ai ⟨hlt, w⟩ (by simp only; omega))))
 ·have hkl : q = l.length := by omega
  subst hkl
  rw [List.take_length] at w
  refine w.ldw 1 rfl rfl ?_
  refine w.st1 2 rfl rfl rfl rfl fun h7 w => ?_
  refine ⟨_, rfl, cells_blk (w.get 2 rfl), ⟨_, _, _, rfl, (show OL encQ 4 h7 _ (qs (l.flatMap (fun p : Pair => [p.name, p.text]))) from w.get 0 rfl), fun b hb => ?_⟩, w.chg⟩
  rcases (w.ents 0 _ rfl).2 b hb with h9 | h9
  ·exact (nomatch h9)
  ·exact h9
section
variable {h0 h h1 h2 h' : Heap} {ab kb sb mb c b2 : Nat} {now lo hi kd items k n : Int} {av lv pv lw rv : Value} {key s why : ByteArray} {t : Thing} {is : Bool} {A : List ByteArray} {L E : List Eff} {m : List KI} {S : Space} {M : List En} {T : List Nat} {e e' : En} {res : Res} {q : Rep} {ls : List (Int × Int × ByteArray)}
theorem NoB.a2 {f : ByteArray → ByteArray → Thing → Res} (h : NoB S now A 2 2 kd why) : arg2 (fun key n => kindly S now kd key (f key n)) A = .error why := by
 rcases h with ⟨hb, rfl⟩ | ⟨hb, k0, hk0, hk, rfl⟩
 ·exact arg2_bad hb
 ·obtain ⟨k1, k2, rfl⟩ := two_arg hb
  cases hk0
  exact kindly_no hk
end
end Go.Proofs.YtjnijlnmbjjgpaaGreatDoor
namespace Go.Proofs.YtjnijlnmbjjgpaaGreatDoor
open Go Go.Sx C
def qHGET : ByteArray := ⟨#[72, 71, 69, 84]⟩
def qHDEL : ByteArray := ⟨#[72, 68, 69, 76]⟩
def qHLEN : ByteArray := ⟨#[72, 76, 69, 78]⟩
def qHGETALL : ByteArray := ⟨#[72, 71, 69, 84, 65, 76, 76]⟩
def qHINCRBY : ByteArray := ⟨#[72, 73, 78, 67, 82, 66, 89]⟩
section
variable {rest : List Value} {h0 h h1 h' : Heap} {xb i : Nat} {now n wh kd lo hi : Int} {kv av lv : Value} {k : List RX} {A l : List ByteArray} {L : List Eff} {why key N : ByteArray} {M : List En} {T : List Nat} {e e1 e2 : En} {res : Res}
end
end Go.Proofs.YtjnijlnmbjjgpaaGreatDoor
namespace Go.Proofs.YtjnijlnmbjjgpaaGreatDoor
open Go Go.Sx C
section
variable {S : Space} {k n key : ByteArray} {now kd : Int} {t : Thing} {e : Eff} {r : Rule} {E : List Eff}
theorem all_takes {mkE : ByteArray → Eff} {th : Thing → ByteArray → Bool} {D : Thing → ByteArray → Thing} (hfit : ∀ n, n.size ≤ 1048576 → ∃ r, FitE (mkE n) r ∧ r.kind = kd) (hkey : ∀ n, (mkE n).key = key)
  (hd : ∀ t n, doneT t (mkE n) = (D t n, if th t n then 0 else 5)) (hk : ∀ t n, (D t n).kind = t.kind) (hth : ∀ t n m, m ≠ n → th (D t n) m = th t m) (hc : ∀ t n, th t n = true → countT t ≠ 0) (hle : ∀ t n, countT (D t n) ≤ countT t) :
  ∀ {ns : List ByteArray} {S : Space} {t : Thing}, UpS S → findS S key = some t → t.kind = kd → countT t ≤ 65536 → ns.Nodup → (∀ n ∈ ns, th t n = true ∧ n.size ≤ 1048576) → ∃ S', allS S (ns.map mkE) = some S'
 |[], S, t, _, _, _, _, _, _ => ⟨S, rfl⟩
 |n :: ns, S, t, hu, hf, hkt, hct, hnd, hall => by
  obtain ⟨hn, hnd⟩ := List.nodup_cons.1 hnd
  obtain ⟨h1, h2⟩ := hall n (by simp)
  obtain ⟨r, fit, rk⟩ := hfit n h2
  have hfate : fateS S (mkE n) = endF (D t n, 0) true (decide (65536 ≤ S.length)) := by
   unfold fateS
   rw [hkey, hf, fit.is (fun _ => by rw [hkt, rk]), hd, h1]
   rfl
  have hrest : ∀ m ∈ ns, th (D t n) m = true ∧ m.size ≤ 1048576 := fun m hm => by
   have hne : m ≠ n := fun e => hn (e ▸ hm)
   rw [hth t n m hne]
   exact hall m (by simp [hm])
  have hle' := hle t n
  have hcs : (fateS S (mkE n)).num = 0 ∧ ∃ S', allS ((fateS S (mkE n)).space S (mkE n).key) (ns.map mkE) = some S' := by
   rw [hfate, hkey]
   unfold endF
   rw [if_neg (fun h => h rfl)]
   by_cases h0 : (D t n, (0 : Int)).1.kind ≠ 1 ∧ countT (D t n, (0 : Int)).1 = 0
   ·rw [if_pos h0]
    refine ⟨rfl, ?_⟩
    have : ns = [] := by
     cases ns with
     |nil => rfl
     |cons m ns => exact absurd h0.2 (hc _ m (hrest m (by simp)).1)
    subst this
    exact ⟨_, rfl⟩
   ·rw [if_neg h0, if_neg (by
     rintro (h | ⟨h, _⟩)
     ·have h : 65536 < countT (D t n) := h
      omega
     ·cases h)]
    refine ⟨rfl, ?_⟩
    exact all_takes hfit hkey hd hk hth hc hle (up_putS hu) (t := D t n) (by show findS (putS S key (D t n)) key = _; rw [find_put hu, if_pos rfl]) (by rw [hk]; exact hkt) (by omega) hnd hrest
  obtain ⟨hz, S', hS⟩ := hcs
  refine ⟨S', ?_⟩
  simp only [List.map_cons, allS]
  rw [if_pos hz]
  exact hS
end
theorem newL_ok {there : ByteArray → Bool} : ∀ {l pre : List ByteArray}, (newL there pre l).Nodup ∧ (∀ n ∈ newL there pre l, there n = false ∧ n ∉ pre ∧ n ∈ l) ∧ (newL there pre l).length ≤ l.length
 |[], pre => ⟨List.nodup_nil, fun n hn => (nomatch (show n ∈ ([] : List ByteArray) from hn)), Nat.le_refl _⟩
 |x :: l, pre => by
  obtain ⟨h1, h2, h3⟩ := newL_ok (there := there) (l := l) (pre := pre ++ [x])
  have h2' : ∀ n ∈ newL there (pre ++ [x]) l, there n = false ∧ n ∉ pre ∧ n ∈ x :: l := fun n hn => by
   obtain ⟨a, b, c⟩ := h2 n hn
   exact ⟨a, fun hm => b (by simp [hm]), by simp [c]⟩
  simp only [newL]
  split
  ·rename_i hc
   refine ⟨?_, ?_, by simp; omega⟩
   ·show (x :: newL there (pre ++ [x]) l).Nodup
    exact List.nodup_cons.2 ⟨fun hm => (h2 x hm).2.1 (by simp), h1⟩
   ·intro n hn
    rcases List.mem_cons.1 (show n ∈ x :: newL there (pre ++ [x]) l from hn) with rfl | hn
    ·exact ⟨hc.1, hc.2, by simp⟩
    ·exact h2' n hn
  ·refine ⟨h1, h2', by simp; omega⟩
theorem hereL_ok {there : ByteArray → Bool} {l : List ByteArray} : (hereL there l).Nodup ∧ (∀ n ∈ hereL there l, there n = true ∧ n ∈ l) ∧ (hereL there l).length ≤ l.length := by
 obtain ⟨h1, h2, h3⟩ := newL_ok (there := fun n => !there n) (l := l) (pre := [])
 refine ⟨h1, fun n hn => ?_, h3⟩
 obtain ⟨a, _, c⟩ := h2 n hn
 exact ⟨by simpa using a, c⟩
theorem twos_mem : ∀ {m : Nat} {l : List ByteArray} {p : ByteArray × ByteArray}, l.length ≤ m → p ∈ twos l → p.1 ∈ l ∧ p.2 ∈ l
 |_, [], p, _, h => (nomatch (show p ∈ ([] : List (ByteArray × ByteArray)) from h))
 |_, [a], p, _, h => (nomatch (show p ∈ ([] : List (ByteArray × ByteArray)) from h))
 |0, a :: b :: l, p, hm, _ => by simp at hm
 |m + 1, a :: b :: l, p, hm, h => by
  rcases List.mem_cons.1 (show p ∈ (a, b) :: twos l from h) with rfl | h
  ·exact ⟨by simp, by simp⟩
  ·obtain ⟨h1, h2⟩ := twos_mem (m := m) (l := l) (by simp at hm; omega) h
   exact ⟨by simp [h1], by simp [h2]⟩
theorem twos_len : ∀ {m : Nat} {l : List ByteArray}, l.length ≤ m → (twos l).length ≤ l.length
 |_, [], _ => Nat.le_refl _
 |_, [a], _ => Nat.zero_le _
 |0, a :: b :: l, hm => by simp at hm
 |m + 1, a :: b :: l, hm => by
  have := twos_len (m := m) (l := l) (by simp at hm; omega)
  show (twos l).length + 1 ≤ _
  simp; omega
section
variable {key n s : ByteArray} {z : Int}
theorem puts_hash (hk : key.size ≤ 1048576) (hn : n.size ≤ 1048576) (hs : s.size ≤ 1048576) : PutE (hashE key n s) 2 :=
 ⟨⟨⟨true, true, false, 2, true, 189⟩, ⟨rfl, (fun h => by cases h), (fun h => by cases h), fun _ => rfl, hk, hn, hs⟩, rfl, rfl⟩, fun t => by
  have h1 := putF_len (eq := fun x : Pair => decide (x.name = n)) (lt := fun x => sless n x.name) (y := ⟨n, s⟩) t.pairs false
  have h2 := List.length_pos_iff.2 (putF_ne (eq := fun x : Pair => decide (x.name = n)) (lt := fun x => sless n x.name) (y := ⟨n, s⟩) t.pairs)
  refine ⟨_, rfl, rfl, ?_, ?_⟩
  ·unfold countT; show (putF (fun x : Pair => decide (x.name = n)) (fun x => sless n x.name) ⟨n, s⟩ t.pairs false).length + t.list.length + t.ranks.length ≠ 0; omega
  ·unfold countT; show (putF (fun x : Pair => decide (x.name = n)) (fun x => sless n x.name) ⟨n, s⟩ t.pairs false).length + t.list.length + t.ranks.length ≤ _; omega⟩
end
end Go.Proofs.YtjnijlnmbjjgpaaGreatDoor
namespace Go.Proofs.YtjnijlnmbjjgpaaGreatDoor
open Go Go.Sx C
section
variable {S : Space} {k n key s : ByteArray} {now kd items at_ : Int} {t : Thing} {e : Eff} {r : Rep} {E : List Eff} {A : List ByteArray} {ok : Bool} {f : Thing → Res}
theorem anyH (l : List Pair) (n : ByteArray) : thereH l n = l.any fun x => decide (x.name = n) := by
 unfold thereH fieldF
 rw [Option.isSome_map, Bool.eq_iff_iff, List.find?_isSome]
 simp
theorem Fine.addTo {a b : Int} {f : Int → Res} (h : ∀ n, Fine S (f n)) : Fine S (addTo a b f) := Fine.ite (fun _ => h _) fun _ => Fine.bad
theorem fine_hset (f : Few S) (s : S9 S) : ∀ {A : List ByteArray}, A.length ≤ 20 → Fine S (cHset S now A)
 |[], _ => Fine.bad
 |key :: l, hA => by
  have hl : l.length + 1 ≤ 20 := hA
  refine Fine.ite (fun hc => Fine.kindly fun t g => ?_) fun _ => Fine.bad
  refine fine_makes f s g (by show (3 : Int) ≠ 2; decide) (fun hk hok e he => ?_) ?_
  ·obtain ⟨p, hp, rfl⟩ := List.mem_map.1 he
   obtain ⟨h1, h2⟩ := twos_mem (Nat.le_refl _) hp
   exact ⟨puts_hash hk (small_of hok h1) (small_of hok h2), rfl⟩
  ·have := twos_len (Nat.le_refl l.length)
   rw [List.length_map]; omega
theorem fine_hget : Fine S (cHget S now A) := Fine.arg2 fun x y => Fine.kindly fun t g => by
 split
 ·exact Fine.none_ (by show (4 : Int) ≠ 2; decide)
 ·exact Fine.none_ (by decide)
theorem fine_hlen : Fine S (cHlen S now A) := Fine.arg1 fun x _ => Fine.kindly fun t g => Fine.none_ (by show (3 : Int) ≠ 2; decide)
theorem fine_hall : Fine S (cHall S now A) := Fine.arg1 fun x _ => Fine.kindly fun t g => Fine.none_ (by show (5 : Int) ≠ 2; decide)
theorem fine_away {there : Thing → ByteArray → Bool} {mk : ByteArray → ByteArray → Eff} {D : Thing → ByteArray → Thing} (f : Few S) (s : S9 S) (h0 : ∀ n, there zeroT n = false) (hfit : ∀ key n, key.size ≤ 1048576 → n.size ≤ 1048576 → ∃ r, FitE (mk key n) r ∧ r.kind = kd) (hkey : ∀ key n, (mk key n).key = key)
  (hd : ∀ t key n, doneT t (mk key n) = (D t n, if there t n then 0 else 5)) (hk : ∀ t n, (D t n).kind = t.kind) (hth : ∀ t n m, m ≠ n → there (D t n) m = there t m) (hc : ∀ t n, there t n = true → countT t ≠ 0) (hle : ∀ t n, countT (D t n) ≤ countT t) :
  ∀ {A : List ByteArray}, A.length ≤ 20 → (∀ a ∈ A, a.size ≤ 300) → Fine S (cAway S now kd there mk A)
 |[], _, _ => Fine.bad
 |key :: l, hA, hz => by
  have hl : l.length + 1 ≤ 20 := hA
  refine Fine.ite (fun _ => Fine.kindly fun t g => ?_) fun _ => Fine.bad
  obtain ⟨h1, h2, h3⟩ := hereL_ok (there := there t) (l := l)
  refine Fine.of (by show (3 : Int) ≠ 2; decide) (by rw [List.length_map]; omega) ?_
  have hcn := g.count s
  rcases g with ⟨_, rfl⟩ | ⟨hg, hkd⟩
  ·have : hereL (there zeroT) l = [] := List.eq_nil_iff_forall_not_mem.2 fun n hn => by
    have := (h2 n hn).1
    rw [h0] at this
    cases this
   rw [this]
   exact ⟨S, rfl⟩
  ·have hfk := getS_find hg
   exact all_takes (th := there) (D := D) (key := key) (fun n hn => hfit key n (f.keys.of hfk) hn) (hkey key) (fun t n => hd t key n) hk hth hc hle f.up hfk hkd (by omega) h1 fun n hn => ⟨(h2 n hn).1, by have := hz n (by simp [(h2 n hn).2]); omega⟩
theorem del_any {α : Type} {nm : α → ByteArray} {l : List α} {n m : ByteArray} (h : m ≠ n) : (delF (fun x => decide (nm x = n)) l).any (fun x => decide (nm x = m)) = l.any fun x => decide (nm x = m) := by
 unfold delF
 rw [Bool.eq_iff_iff, List.any_eq_true, List.any_eq_true]
 constructor
 ·rintro ⟨x, hx, e⟩
  exact ⟨x, (List.mem_filter.1 hx).1, e⟩
 ·rintro ⟨x, hx, e⟩
  refine ⟨x, List.mem_filter.2 ⟨hx, ?_⟩, e⟩
  have e : nm x = m := of_decide_eq_true e
  simp [e, h]
theorem any_pos {α : Type} {p : α → Bool} {l : List α} (h : l.any p = true) : 0 < l.length := by
 cases l with
 |nil => cases h
 |cons x l => simp
theorem fine_hdel (f : Few S) (s : S9 S) (hA : A.length ≤ 20) (hz : ∀ a ∈ A, a.size ≤ 300) : Fine S (cHdel S now A) :=
 fine_away (D := fun t n => { t with pairs := delF (fun x => decide (x.name = n)) t.pairs }) f s (fun n => rfl)
  (fun key n hk hn => ⟨⟨true, false, false, 2, false, 190⟩, ⟨rfl, (fun h => by cases h), fun _ => rfl, fun _ => rfl, hk, hn, by show noText.size ≤ _; decide⟩, rfl⟩) (fun _ _ => rfl)
  (fun t key n => by rw [anyH]; rfl) (fun _ _ => rfl) (fun t n m h => by rw [anyH, anyH]; exact del_any h) (fun t n h => by rw [anyH] at h; have := any_pos h; unfold countT; omega)
  (fun t n => by have : (delF (fun x : Pair => decide (x.name = n)) t.pairs).length ≤ _ := List.length_filter_le _ _; unfold countT; show (delF (fun x : Pair => decide (x.name = n)) t.pairs).length + t.list.length + t.ranks.length ≤ t.pairs.length + t.list.length + t.ranks.length; omega) hA hz
theorem fine_hincr (f : Few S) (s : S9 S) : Fine S (cHincr S now A) := Fine.arg3 fun key n x => Fine.numbered fun by_ => Fine.kindly fun t g => Fine.numbered fun m => Fine.addTo fun z =>
 fine_makes f s g (by show (3 : Int) ≠ 2; decide) (fun hk hok e he => by
  rw [List.mem_singleton.1 he]
  rw [Bool.and_eq_true] at hok
  exact ⟨puts_hash hk (of_decide_eq_true hok.1) (of_decide_eq_true hok.2), rfl⟩) (by simp)
end
end Go.Proofs.YtjnijlnmbjjgpaaGreatDoor
namespace Go.Proofs.YtjnijlnmbjjgpaaGreatDoor
open Go Go.Sx C
theorem ixfP_calls {h : Heap} {v : Value} {l : List Pair} {g : Nat} {cap : List Value} {p : Pair → Bool} (hv : SL encP h v l) (hl : l.length < 4611686018427387904)
  (hg : ∀ h' x, Chg [] h h' → CallsH Tryz.prog g (.agg ⟨encP x⟩ :: cap) h' (Ret fun u h'' => u = .bool (p x) ∧ Chg [] h' h'')) :
  CallsH Tryz.prog 229 [v, .func (.func g) #[] ⟨cap⟩] h
   (Ret fun r h' => ((∃ (k : Nat) (hk : k < l.length), r = .int .i64 k ∧ p l[k] = true ∧ ∀ x ∈ l.take k, p x = false) ∨ (r = .int .i64 (-1) ∧ ∀ x ∈ l, p x = false)) ∧ Chg [] h h') := by
 obtain ⟨a, c, rfl, hlc⟩ := hv.form
 refine f229_calls (by simp) ?_
 refine loop_intro (fun k : Nat => [(0, .slice a l.length c), (1, .func (.func g) #[] ⟨cap⟩), (7, .int .i64 l.length), (8, .int .i64 k)]) (fun k h' => k ≤ l.length ∧ Chg [] h h' ∧ ∀ x ∈ l.take k, p x = false) (fun k => l.length - k) 0
  ⟨rfl, rfl, rfl, rfl, trivial⟩ ⟨Nat.zero_le _, Chg.refl h, by simp⟩ ?_
 rintro k h1 ⟨hk, hc, hall⟩
 refine Ai rfl (Ai (fun hlt => ?_) (fun hlt => ?_))
 ·have hlt : k < l.length := by omega
  have hv1 := hv.ext hc
  obtain ⟨b, o, rfl⟩ := hv1.addr (by omega)
  have hcs := hv1.cells encP_len (i := k) (x := l[k]) (by simp [hlt])
  refine Ai (by omega) (Ai (by omega) (Ei (encP l[k]) (Ai rfl (Ai hcs ?_))))
  refine call_ret (hg h1 l[k] hc) ?_
  rintro _ h2 ⟨rfl, hc2⟩
  cases hp : p l[k] with
  |true => exact Ai (.inl ⟨k, hlt, rfl, hp, hall⟩) (hc.nil hc2)
  |false =>
   refine Ai rfl (fun y hy => ?_)
   have hy := add_in hy (by omega) (by omega)
   subst hy
   refine Ai rfl (Ei (k + 1) (Ai ?_ (Ai ?_ ?_)))
   ·exact ⟨rfl, rfl, rfl, rfl, trivial⟩
   ·refine ⟨by omega, hc.nil hc2, fun x hx => ?_⟩
    rw [take_snoc l k hlt] at hx
    rcases List.mem_append.1 hx with hx | hx
    ·exact hall x hx
    ·simp at hx; rw [hx]; exact hp
   ·omega
 ·have hkl : k = l.length := by omega
  subst hkl
  rw [List.take_length] at hall
  exact Ai (.inr ⟨rfl, hall⟩) hc
theorem plus9_calls {h : Heap} {a b : Int} (ha : In64 a) (hb : In64 b) : CallsH Tryz.prog 165 [.int .i64 a, .int .i64 b] h (Out9 (fun r h' => okSum a b ∧ r = .int .i64 (a + b) ∧ h' = h) (fun why h' => ¬ okSum a b ∧ why = wOver ∧ h' = h)) := by
 obtain ⟨a0, a1⟩ := ha
 obtain ⟨b0, b1⟩ := hb
 unfold okSum
 have good : okSum a b → swp Tryz.prog (.seq (.ops f165r2) .ret) (retQ [.t 4] (Out9 (fun r h' => okSum a b ∧ r = .int .i64 (a + b) ∧ h' = h) (fun why h' => ¬ okSum a b ∧ why = wOver ∧ h' = h))) (mk [(0, .int .i64 a), (1, .int .i64 b)]) [] h := by
  intro hk
  obtain ⟨k0, k1⟩ := id hk
  refine Ai rfl (fun z hz => ?_)
  have hz : z = a + b := hz.trans (wrap_in (by omega) (by omega))
  subst hz
  exact ⟨hk, rfl, rfl⟩
 refine f165_calls (by simp) ?_
 refine Ai rfl (Ai (fun h1 => ?_) (fun h1 => ?_))
 ·refine Ai rfl (fun z hz => ?_)
  have hz : z = 9223372036854775807 - b := hz.trans (wrap_in (by omega) (by omega))
  subst hz
  refine Ai rfl (Ai (fun h2 => ?_) (fun h2 => ?_))
  ·refine must9_yes fun _ => ?_
   exact cut_at [(0, .int .i64 a), (1, .int .i64 b)] ⟨rfl, rfl, trivial⟩ (good ⟨by omega, by omega⟩)
  ·refine Ai rfl (Ai (fun h3 => absurd h3 (by omega)) (fun h3 => ?_))
   exact must9_no ⟨_, rfl, fun hk => by have := hk.2; omega, rfl, rfl⟩
 ·refine Ai rfl (Ai (fun h3 => ?_) (fun h3 => absurd (show b < 0 by omega) h3))
  refine Ai rfl (fun z hz => ?_)
  have hz : z = -9223372036854775808 - b := hz.trans (wrap_in (by omega) (by omega))
  subst hz
  refine Ai rfl (Ai (fun h2 => ?_) (fun h2 => ?_))
  ·refine must9_yes fun _ => ?_
   exact cut_at [(0, .int .i64 a), (1, .int .i64 b)] ⟨rfl, rfl, trivial⟩ (good ⟨by omega, by omega⟩)
  ·exact must9_no ⟨_, rfl, fun hk => by have := hk.1; omega, rfl, rfl⟩
section
variable {h0 h h1 h' : Heap} {ab kb sb mb c bs bt b1 b2 : Nat} {now : Int} {av lv pv lw rv fv : Value} {key s n : ByteArray} {t : Thing} {is : Bool} {A pre : List ByteArray} {L : List Eff} {M : List En} {T : List Nat} {p : ByteArray → Bool} {Z : Heap → Prop}
theorem fieldD1_calls {b : Nat} (B : Blk h b [.string n]) (x : Pair) : CallsH Tryz.prog 230 [.agg ⟨encP x⟩, ptr b] h (Ret fun u h' => u = .bool (decide (x.name = n)) ∧ Chg [] h h') := by
 refine f230_calls (by simp) ?_
 intro b2 h1 g1
 refine Ei _ (Ai (cell_blk g1.blk rfl) (Ei _ (Ai (cell_blk (B.chg g1.chg (by simp)) rfl) ?_)))
 refine Ai (fun he => ?_) (fun hne => ?_)
 ·exact ⟨by rw [decide_eq_true (show x.name = n from he)]; rfl, g1.chg⟩
 ·exact ⟨by rw [decide_eq_false (show ¬ x.name = n from hne)]; rfl, g1.chg⟩
theorem find_at {l : List Pair} {k : Nat} (hk : k < l.length) (hp : decide (l[k].name = n) = true) (hn : ∀ x ∈ l.take k, decide (x.name = n) = false) : fieldF l n = some l[k].text := by
 unfold fieldF
 have e : l = l.take k ++ l[k] :: l.drop (k + 1) := by rw [← List.drop_eq_getElem_cons hk, List.take_append_drop]
 have hf : l.find? (fun p => decide (p.name = n)) = some l[k] := by
  rw [List.find?_eq_some_iff_append]
  exact ⟨hp, l.take k, l.drop (k + 1), e, fun x hx => by rw [hn x hx]; rfl⟩
 rw [hf]; rfl
theorem find_no9 {l : List Pair} (hn : ∀ x ∈ l, decide (x.name = n) = false) : fieldF l n = none := by
 unfold fieldF
 rw [List.find?_eq_none.2 fun x hx => by rw [hn x hx]; simp]; rfl
theorem field9_calls (hE : (cE ab kb now av key t is pv lw rv lv L).at h) (hl : t.pairs.length < 4611686018427387904) :
  CallsH Tryz.prog 154 [ptr ab, .string n] h (Ret fun r h' => r = .tuple #[.string ((fieldF t.pairs n).getD noText), .bool (fieldF t.pairs n).isSome] ∧ Chg [] h h') := by
 have sp := (thC hE).1
 obtain ⟨pa, pc, rfl, _⟩ := sp.form
 refine f154_calls (by simp) ?_
 intro b3 h1 g1
 refine Ei _ (Ai (cell_blk (hE.1.chg g1.chg (by simp)) rfl) ?_)
 refine call_ret (ixfP_calls (g := 230) (cap := [ptr b3]) (p := fun x => decide (x.name = n)) (sp.ext g1.chg) hl fun h' x hc => fieldD1_calls (g1.blk.chg hc (by simp)) x) ?_
 rintro r h2 ⟨hr, c2⟩
 have c02 := g1.chg.nil c2
 rcases hr with ⟨k, hk, rfl, hp, hn⟩ | ⟨rfl, hn⟩
 ·rw [find_at hk hp hn]
  refine Ai rfl (Ai (fun h9 => absurd h9 (by omega)) (fun _ => ?_))
  refine Ei _ (Ai (cell_blk (hE.1.chg c02 (by simp)) rfl) ?_)
  have sp2 := sp.ext c02
  obtain ⟨b, o, rfl⟩ := sp2.addr (by omega)
  have hcs := sp2.cells encP_len (i := k) (x := t.pairs[k]) (by simp [hk])
  refine Ai (by omega) (Ai (by omega) (Ei _ (Ai (hcs 1 _ rfl) ?_)))
  exact ⟨rfl, c02⟩
 ·rw [find_no9 hn]
  refine Ai rfl (Ai (fun _ => ?_) (fun h9 => absurd (by decide) h9))
  exact ⟨rfl, c02⟩
theorem tc_hset (hl : t.pairs.length < 4611686018427387904) : TC ab kb now av t is pv lw rv (fun h => Blk h b1 [ptr ab]) (.func (.func 153) #[] #[ptr b1]) (thereH t.pairs) :=
 ⟨_, _, _, rfl, fun {h s key lv L} hE hZ => by
  refine f153_calls (by simp) ?_
  refine Ei _ (Ai (cell_blk hZ rfl) ?_)
  refine call_ret (field9_calls hE hl) ?_
  rintro _ h2 ⟨rfl, c2⟩
  exact ⟨rfl, c2⟩⟩
theorem tc_hdel (hl : t.pairs.length < 4611686018427387904) : TC ab kb now av t is pv lw rv (fun h => Blk h b1 [ptr ab]) (.func (.func 160) #[] #[ptr b1]) (thereH t.pairs) :=
 ⟨_, _, _, rfl, fun {h s key lv L} hE hZ => by
  refine f160_calls (by simp) ?_
  refine Ei _ (Ai (cell_blk hZ rfl) ?_)
  refine call_ret (field9_calls hE hl) ?_
  rintro _ h2 ⟨rfl, c2⟩
  exact ⟨rfl, c2⟩⟩
end
end Go.Proofs.YtjnijlnmbjjgpaaGreatDoor
namespace Go.Proofs.YtjnijlnmbjjgpaaGreatDoor
open Go Go.Sx C
theorem newL_le {th : ByteArray → Bool} {l : List ByteArray} (q : Nat) : (newL th [] (l.take q)).length ≤ (newL th [] l).length := by
 have := newL_app (th := th) (a := l.take q) (b := l.drop q) (pre := [])
 rw [List.take_append_drop] at this
 rw [this, List.length_append]
 omega
theorem twos_get : ∀ {q : Nat} {l : List ByteArray} (h : 2 * q + 1 < l.length), (twos l)[q]? = some (l[2 * q], l[2 * q + 1])
 |q, [], h => by simp at h
 |q, [a], h => by simp at h
 |0, a :: b :: l, _ => rfl
 |q + 1, a :: b :: l, h => by
  have := twos_get (q := q) (l := l) (by simp at h; omega)
  show (twos l)[q]? = _
  rw [this]
  rfl
theorem twos_half : ∀ {m : Nat} {l : List ByteArray}, l.length ≤ m → 2 * (twos l).length = 2 * (l.length / 2)
 |_, [], _ => rfl
 |_, [a], _ => by simp [twos]
 |0, a :: b :: l, hm => by simp at hm
 |m + 1, a :: b :: l, hm => by
  have := twos_half (m := m) (l := l) (by simp at hm; omega)
  show 2 * ((twos l).length + 1) = 2 * ((l.length + 2) / 2)
  omega
theorem twos_small : ∀ {m : Nat} {l : List ByteArray}, l.length ≤ m → l.length % 2 = 0 → (∀ p ∈ twos l, small p.1 = true ∧ small p.2 = true) → l.all small = true
 |_, [], _, _, _ => rfl
 |_, [a], _, h, _ => by simp at h
 |0, a :: b :: l, hm, _, _ => by simp at hm
 |m + 1, a :: b :: l, hm, h2, h => by
  have := twos_small (m := m) (l := l) (by simp at hm; omega) (by simp at h2; omega) fun p hp => h p (List.mem_cons_of_mem _ hp)
  obtain ⟨h3, h4⟩ := h (a, b) (List.mem_cons_self ..)
  simp only [List.all_cons, this, h3, h4, Bool.and_self]
theorem mv1 {P : Program} {F : List PanicEntry → Heap → Prop} {K : Env → Heap → Prop} {x : Operand} {d : Nat} {l : List SOper} {σ : Env} {h : Heap} {v : Value} (he : ev σ x = some v) (hs : sops P F K l (upd σ (some d) v) h) : sops P F K (⟨some d, none, .mv x⟩ :: l) σ h := by
 simp only [sops, sopr, sop, he]
 exact hs
theorem ext1 {P : Program} {F : List PanicEntry → Heap → Prop} {K : Env → Heap → Prop} {x : Operand} {d i : Nat} {l : List SOper} {σ : Env} {h : Heap} {vs : Array Value} {v : Value} (he : ev σ x = some (.tuple vs)) (hi : vs.toList[i]? = some v) (hs : sops P F K l (upd σ (some d) v) h) : sops P F K (⟨some d, none, .ext x i⟩ :: l) σ h := by
 simp only [sops, sopr, sop, he, hi]
 exact hs
theorem mv_two9 {P : Program} {F : List PanicEntry → Heap → Prop} {x y : Operand} {d e : Nat} {c : SCode} {Q : Post} {σ : Env} {ds : List Deferred} {h : Heap} {v u : Value} (he : ev σ x = some v) (hf : ev (upd σ (some d) v) y = some u) (hs : swp P c Q (upd (upd σ (some d) v) (some e) u) ds h) :
  sops P F (fun σ' h' => thenQ (swp P c Q) Q .normal σ' ds h') [⟨some d, none, .mv x⟩, ⟨some e, none, .mv y⟩] σ h := by
 simp only [sops, sopr, sop, he, hf]
 exact hs
section
variable {h0 h h1 h2 h' : Heap} {ab kb sb mb c b1 b2 bs bt mb2 : Nat} {now op kd : Int} {av lv pv lw rv fv v : Value} {key why : ByteArray} {t : Thing} {is : Bool} {A l pre : List ByteArray} {L : List Eff} {m : List KI} {S : Space} {M : List En} {T : List Nat} {res : Res} {th : ByteArray → Bool} {Z : Heap → Prop}
theorem fr_box (w : St T h0 h M) (i j : Nat) (hi : M[i]? = some (frE bs mb2 bt fv pre)) (hj : M[j]? = some (.b b1 [v])) (hij : i ≠ j) : ∀ h', Chg [mb2] h h' → Blk h' b1 [v] := fun h' c =>
 Blk.chg (w.get j hj) c fun hm => w.apart i j _ _ hi hj hij mb2 (by simp [frE, En.fp]) (by simp at hm; simp [En.fp, hm])
set_option maxHeartbeats 2000000 in
theorem hset9 (p : P9 h0 kb sb mb c m S av A) (hs9 : S9 S) (hA : ∀ a ∈ A, a.size < 281474976710656) (x : As h0 h (c0 ab kb now av)) : CallsH Tryz.prog 81 [ptr ab] h (Cmd9 h0 h ab kb now av (cHset S now A)) := by
 refine f81_calls (by simp) ?_
 intro b1 h1 g1
 have w := x.st.new g1
 intro b2 h2 g2
 have w := w.new g2
 refine w.ld1 1 rfl rfl ?_
 refine sub9_go (i := 2) x w rfl (fun x => many9_calls p (by decide) x) ?_ ?_
 rotate_left
 ·rintro why h3 ⟨hB, rfl⟩ c3
  refine bad9 ?_ c3
  cases A with
  |nil => rfl
  |cons k0 l => exact if_neg fun hh => hB ⟨by simp; omega, by simp; omega⟩
 rintro _ h3 _ ⟨hb, k0, hk0, rfl⟩ w
 obtain ⟨k9, l, rfl⟩ := cons_of (by decide) hb.1
 cases hk0
 obtain ⟨ba, oa, ac, rfl⟩ := p.argF (by simp)
 refine w.ld1 1 rfl rfl ?_
 refine w.ldc 2 rfl rfl ?_
 refine Ai rfl (Ai (by decide) (fun z hz => ?_))
 have hz : z = (((k0 :: l).length % 2 : Nat) : Int) := by rw [hz]; exact (Int.ofNat_tmod (k0 :: l).length 2).symm
 subst hz
 have hlc : (k0 :: l).length = l.length + 1 := rfl
 refine Ai rfl (Ai (fun hodd => ?_) (fun hev => must9_no (bad9 (if_neg fun hh => hev (by omega)) w.chg)))
 refine must9_yes fun _ => ?_
 have hc9 : 2 ≤ l.length ∧ l.length < 65536 ∧ l.length % 2 = 0 := ⟨by omega, by omega, by omega⟩
 have hc0 : ∀ (f : Thing → Res), kindly S now 2 k0 f = .error wType → (if 2 ≤ l.length ∧ l.length < 65536 ∧ l.length % 2 = 0 then kindly S now 2 k0 f else .error wArgs) = .error wType := fun f hf => (if_pos hc9).trans hf
 refine w.ld1 1 rfl rfl ?_
 refine sub9_go (i := 2) x w rfl (fun x => of9_calls p x) ?_ ?_
 rotate_left
 ·rintro why h4 ⟨hB, rfl⟩ c4
  exact bad9 (hc0 _ (kindly_no hB)) c4
 rintro _ h4 _ ⟨hk, p2, w2, r2, rfl⟩ w
 have htl := (hs9.get k0 now).ps
 have hk9 := hA k0 (by simp)
 have he : cHset S now (k0 :: l) = _ := (if_pos hc9).trans (kindly_ok hk)
 generalize (getS S k0 now).getD zeroT = t at *
 obtain ⟨pa, pc, rfl, _⟩ := (w.thc 2 rfl).1.form
 obtain ⟨names, hnames⟩ : ∃ names, names = (twos l).map Prod.fst := ⟨_, rfl⟩
 obtain ⟨D, hDe⟩ : ∃ D, D = (twos l).map fun p => hashE k0 p.1 p.2 := ⟨_, rfl⟩
 have he : cHset S now (k0 :: l) = makes S now k0 (t.pairs.length + (newL (thereH t.pairs) [] names).length) (l.all small) (numR (newL (thereH t.pairs) [] names).length) D := by rw [he, hnames, hDe]
 have hhalf := twos_half (Nat.le_refl l.length)
 have hnl : names.length = (twos l).length := by rw [hnames]; exact List.length_map _
 have hDl : D.length = (twos l).length := by rw [hDe]; exact List.length_map _
 have hD9 : D ≠ [] := fun e => by rw [e] at hDl; simp at hDl; omega
 have hnle := fun q => newL_le (th := thereH t.pairs) (l := names) q
 refine call_ret fresh9_calls ?_
 rintro _ h5 ⟨⟨bs, mb2, bt, rfl, hf, hfb⟩, c5⟩
 have w := w.add (e := frE bs mb2 bt (.func (.func 153) #[] #[ptr b1]) []) c5 hf (fun b hb => hfb b (by simpa [frE, En.fp] using hb))
 refine loop_intro (fun q : Nat × Nat × Value => [(1, ptr b1), (2, ptr b2), (3, .int .i64 q.2.1), (4, .func (.func 228) #[] #[ptr bs, ptr bt]), (5, .int .i64 (2 * q.1 + 1 : Nat))])
  (fun q h' => (2 * q.1 ≤ l.length ∧ q.2.1 = (newL (thereH t.pairs) [] (names.take q.1)).length ∧ (0 < q.1 → ((t.pairs.length : Int) + q.2.1 ≤ 65536 ∧ k0.size ≤ 1048576)) ∧ ∀ p ∈ (twos l).take q.1, small p.1 = true ∧ small p.2 = true) ∧
   St (c0 ab kb now (.slice (some ⟨ba, oa, none⟩) (k0 :: l).length ac)).fp h h' [frE bs mb2 bt (.func (.func 153) #[] #[ptr b1]) (names.take q.1), .b b2 [.int .i64 0, .int .i64 0, .string ⟨#[]⟩, .slice none 0 0], .b b1 [ptr ab],
    cE ab kb now (.slice (some ⟨ba, oa, none⟩) (k0 :: l).length ac) k0 t (getS S k0 now).isSome (.slice pa t.pairs.length pc) w2 r2 q.2.2 (accE S k0 now D q.1)])
  (fun q => l.length - 2 * q.1) (0, 0, nilV) ⟨rfl, rfl, rfl, rfl, rfl, trivial⟩ ⟨⟨Nat.zero_le _, rfl, fun h9 => absurd h9 (by simp), by simp⟩, w⟩ ?_
 rintro ⟨q, n, lv⟩ h6 ⟨⟨hq, hn0, hfits, hsm⟩, w⟩
 replace hq : 2 * q ≤ l.length := hq
 replace hn0 : n = (newL (thereH t.pairs) [] (names.take q)).length := hn0
 replace hfits : 0 < q → ((t.pairs.length : Int) + n ≤ 65536 ∧ k0.size ≤ 1048576) := hfits
 replace hsm : ∀ p ∈ (twos l).take q, small p.1 = true ∧ small p.2 = true := hsm
 have hnq : n ≤ q := by
  have h1 := newL_len (th := thereH t.pairs) (l := names.take q) (pre := [])
  rw [List.length_take] at h1
  omega
 refine w.ld1 2 rfl rfl ?_
 refine w.ldc 3 rfl rfl ?_
 refine Ai rfl (Ai (fun hlt => ?_) (fun hge => ?_))
 ·have hlt1 : 2 * q + 1 < l.length := by omega
  have htg := twos_get hlt1
  have hq2 : q < (twos l).length := by omega
  obtain ⟨nm, hnm⟩ : ∃ nm, nm = l[2 * q] := ⟨_, rfl⟩
  obtain ⟨tx, htx⟩ : ∃ tx, tx = l[2 * q + 1] := ⟨_, rfl⟩
  rw [← hnm, ← htx] at htg
  have hn1 : nm ∈ l := by rw [hnm]; exact List.getElem_mem _
  have ht1 : tx ∈ l := by rw [htx]; exact List.getElem_mem _
  have hn : (k0 :: l)[2 * q + 1]? = some nm := by rw [hnm]; simp
  have ht : (k0 :: l)[2 * q + 2]? = some tx := by rw [htx]; simp
  clear hnm htx
  have hz1 := hA nm (by simp [hn1])
  have hz2 := hA tx (by simp [ht1])
  have hD : ∀ q' (_ : q' < (twos l).length), q' = q → D[q']? = some { (⟨5, noText, nm, tx, 0⟩ : Eff) with key := k0 } := fun q' _ e => by subst e; rw [hDe, List.getElem?_map, htg]; rfl
  have hD : ∀ q' (_ : q' < (twos l).length), D[q]? = some { (⟨5, noText, nm, tx, 0⟩ : Eff) with key := k0 } := fun _ _ => hD q hq2 rfl
  have hal := acc_len (S := S) (key := k0) (now := now) D q (by omega)
  have htk : (twos l).take (q + 1) = (twos l).take q ++ [(nm, tx)] := by
   rw [List.take_succ_eq_append_getElem hq2]
   have := (List.getElem?_eq_some_iff.1 htg).2
   rw [this]
  have hqn : q < names.length := by omega
  have hnq9 : names[q] = nm := by
   have : names[q]? = some nm := by rw [hnames, List.getElem?_map, htg]; rfl
   exact (List.getElem?_eq_some_iff.1 this).2
  have htk2 : names.take (q + 1) = names.take q ++ [nm] := by rw [List.take_succ_eq_append_getElem hqn, hnq9]
  refine w.ld1 2 rfl rfl ?_
  refine w.ldc 3 rfl rfl ?_
  refine p.ix (x.base w) (2 * q + 1) rfl hn ?_
  refine w.fresh 0 3 rfl rfl (by decide) (tc_hset (by omega)) (fr_box w 0 2 rfl rfl (by decide)) (by rw [List.length_take]; omega) fun h7 w => ?_
  obtain ⟨bb, hbb⟩ : ∃ bb, bb = (!thereH t.pairs nm && decide (nm ∉ names.take q)) := ⟨_, rfl⟩
  have hcnt := newL_cnt (th := thereH t.pairs) hqn (b := bb) (by rw [hnq9]; exact hbb)
  have hcl := hnle (q + 1)
  rw [← hbb]
  cases bb with
  |true =>
   have hcnt : (newL (thereH t.pairs) [] (names.take (q + 1))).length = n + 1 := by rw [hcnt, hn0]; rfl
   refine Ai rfl (fun z hz => ?_)
   have hz := add_in hz (by simp only; omega) (by simp only; omega)
   subst hz
   refine w.ld1 2 rfl rfl ?_
   refine w.ld1 2 rfl rfl ?_
   refine w.ldc 3 rfl rfl ?_
   refine p.ix (x.base w) (2 * q + 1) rfl hn ?_
   refine w.ld1 2 rfl rfl ?_
   refine w.ldc 3 rfl rfl ?_
   refine Ai rfl (fun z hz => ?_)
   have hz := add_in hz (by simp only; omega) (by simp only; omega)
   subst hz
   refine p.ix (x.base w) (2 * q + 2) rfl ht ?_
   refine w.ld1 2 rfl rfl ?_
   refine w.ldc 3 rfl rfl ?_
   refine Ai rfl (fun z hz => ?_)
   have hz : z = (t.pairs.length : Int) + (n + 1 : Nat) := hz.trans (wrap_in (by simp only; omega) (by simp only; omega))
   subst hz
   refine sub9_go (i := 3) x w rfl (fun x => put9_calls p ⟨5, noText, nm, tx, 0⟩ x (by simp only; omega) (by omega) (by show nm.size < _; omega) (by show tx.size < _; omega)) ?_ ?_
   rotate_left
   ·rintro why h5 ⟨hB, rfl⟩ c5
    refine bad9 (he.trans (mkNo9 ?_)) c5
    rintro ⟨m1, m2, m3⟩
    exact hB ⟨by omega, m2, small_of9 m3 hn1, small_of9 m3 ht1⟩
   rintro _ h5 _ ⟨hfit, lv5, rfl⟩ w
   rw [acc_put (hD q hq2)] at w
   refine Ai rfl (fun z hz => ?_)
   have hz := add_in hz (by simp only; omega) (by simp only; omega)
   subst hz
   refine Ai rfl (Ei (q + 1, n + 1, lv5) (Ai ⟨rfl, rfl, rfl, rfl, rfl, trivial⟩ (Ai ⟨⟨by omega, by rw [hcnt], fun _ => ⟨?_, hfit.2.1⟩, ?_⟩, ?_⟩ (by simp only; omega))))
   ·have := hfit.1
    push_cast at this ⊢
    omega
   ·intro pr hpr
    rw [htk, List.mem_append] at hpr
    rcases hpr with hpr | hpr
    ·exact hsm pr hpr
    ·rw [List.mem_singleton.1 hpr]
     exact ⟨decide_eq_true hfit.2.2.1, decide_eq_true hfit.2.2.2⟩
   ·rw [htk2]; exact w
  |false =>
   have hcnt : (newL (thereH t.pairs) [] (names.take (q + 1))).length = n := by rw [hcnt, hn0]; rfl
   refine w.ld1 2 rfl rfl ?_
   refine w.ld1 2 rfl rfl ?_
   refine w.ldc 3 rfl rfl ?_
   refine p.ix (x.base w) (2 * q + 1) rfl hn ?_
   refine w.ld1 2 rfl rfl ?_
   refine w.ldc 3 rfl rfl ?_
   refine Ai rfl (fun z hz => ?_)
   have hz := add_in hz (by simp only; omega) (by simp only; omega)
   subst hz
   refine p.ix (x.base w) (2 * q + 2) rfl ht ?_
   refine w.ld1 2 rfl rfl ?_
   refine w.ldc 3 rfl rfl ?_
   refine Ai rfl (fun z hz => ?_)
   have hz : z = (t.pairs.length : Int) + (n : Nat) := hz.trans (wrap_in (by simp only; omega) (by simp only; omega))
   subst hz
   refine sub9_go (i := 3) x w rfl (fun x => put9_calls p ⟨5, noText, nm, tx, 0⟩ x (by simp only; omega) (by omega) (by show nm.size < _; omega) (by show tx.size < _; omega)) ?_ ?_
   rotate_left
   ·rintro why h5 ⟨hB, rfl⟩ c5
    refine bad9 (he.trans (mkNo9 ?_)) c5
    rintro ⟨m1, m2, m3⟩
    exact hB ⟨by omega, m2, small_of9 m3 hn1, small_of9 m3 ht1⟩
   rintro _ h5 _ ⟨hfit, lv5, rfl⟩ w
   rw [acc_put (hD q hq2)] at w
   refine Ai rfl (fun z hz => ?_)
   have hz := add_in hz (by simp only; omega) (by simp only; omega)
   subst hz
   refine Ai rfl (Ei (q + 1, n, lv5) (Ai ⟨rfl, rfl, rfl, rfl, rfl, trivial⟩ (Ai ⟨⟨by omega, by rw [hcnt], fun _ => ⟨?_, hfit.2.1⟩, ?_⟩, ?_⟩ (by simp only; omega))))
   ·have := hfit.1
    push_cast at this ⊢
    omega
   ·intro pr hpr
    rw [htk, List.mem_append] at hpr
    rcases hpr with hpr | hpr
    ·exact hsm pr hpr
    ·rw [List.mem_singleton.1 hpr]
     exact ⟨decide_eq_true hfit.2.2.1, decide_eq_true hfit.2.2.2⟩
   ·rw [htk2]; exact w
 ·have hql : 2 * q = l.length := by omega
  have hqt : q = (twos l).length := by omega
  have hnf : n = (newL (thereH t.pairs) [] names).length := by rw [hn0, List.take_of_length_le (by omega)]
  refine w.callv number9_calls fun h7 w => ?_
  refine w.st1 1 rfl rfl rfl rfl fun h8 w => ?_
  refine fin9 x w 1 3 rfl rfl ?_
  rw [he, mkOk9 ⟨by have := (hfits (by omega)).1; omega, (hfits (by omega)).2, twos_small (Nat.le_refl _) hc9.2.2 fun pr hpr => hsm pr (by rw [hqt, List.take_length]; exact hpr)⟩, hqt, ← hDl, acc_all hD9, hnf]
  rfl
theorem hget9 (p : P9 h0 kb sb mb c m S av A) (hs9 : S9 S) (x : As h0 h (c0 ab kb now av)) : CallsH Tryz.prog 82 [ptr ab] h (Cmd9 h0 h ab kb now av (cHget S now A)) := by
 refine f82_calls (by simp) ?_
 intro b2 h1 g1
 have w := x.st.new g1
 refine sub9_go (i := 1) x w rfl (fun x => begin9_calls p (by decide) x) ?_ ?_
 rotate_left
 ·rintro why h2 hB c2
  exact bad9 (NoB.a2 (f := fun _ n t => match fieldF t.pairs n with
   |some s => .ok (textR s, [])
   |none => .ok (nilR, [])) hB) c2
 rintro _ h2 _ ⟨hb, k0, hk0, hk, p2, w2, r2, rfl⟩ w
 obtain ⟨k9, n, rfl⟩ := two_arg hb
 cases hk0
 have he : cHget S now [k0, n] = _ := (show cHget S now [k0, n] = kindly S now 2 k0 (fun t => match fieldF t.pairs n with
   |some s => .ok (textR s, [])
   |none => .ok (nilR, [])) from rfl).trans (kindly_ok hk)
 have htl := (hs9.get k0 now).ps
 generalize (getS S k0 now).getD zeroT = t at *
 obtain ⟨b, o, cc, rfl⟩ := p.argF (by simp)
 refine w.ldc 1 rfl rfl ?_
 refine p.ix (x.base w) 1 rfl rfl ?_
 refine w.callv (field9_calls (w.get 1 rfl) (by omega)) fun h3 w => ?_
 generalize fieldF t.pairs n = fo at he ⊢
 cases fo with
 |none =>
  refine w.st1 0 rfl rfl rfl rfl fun h4 w => ?_
  exact fin9 x w 0 1 rfl rfl he
 |some s =>
  refine w.callv text9_calls fun h4 w => ?_
  refine w.st1 0 rfl rfl rfl rfl fun h5 w => ?_
  exact fin9 x w 0 1 rfl rfl he
theorem hlen9 (p : P9 h0 kb sb mb c m S av A) (x : As h0 h (c0 ab kb now av)) : CallsH Tryz.prog 84 [ptr ab] h (Cmd9 h0 h ab kb now av (cHlen S now A)) := by
 refine f84_calls (by simp) ?_
 intro b2 h1 g1
 have w := x.st.new g1
 refine sub9_go (i := 1) x w rfl (fun x => begin9_calls p (by decide) x) ?_ ?_
 rotate_left
 ·rintro why h2 hB c2
  exact bad9 (NoB.a1 (f := fun _ t => .ok (numR t.pairs.length, [])) hB) c2
 rintro _ h2 _ ⟨hb, k0, hk0, hk, p2, w2, r2, rfl⟩ w
 obtain ⟨k9, rfl⟩ := one_arg hb
 cases hk0
 obtain ⟨la, lc, rfl, _⟩ := (w.thc 1 rfl).1.form
 refine w.ldc 1 rfl rfl ?_
 refine w.callv number9_calls fun h3 w => ?_
 refine w.st1 0 rfl rfl rfl rfl fun h4 w => ?_
 have he : cHlen S now [k0] = _ := (show cHlen S now [k0] = kindly S now 2 k0 (fun t => .ok (numR t.pairs.length, [])) from rfl).trans (kindly_ok hk)
 exact fin9 x w 0 1 rfl rfl he
theorem hall9 (p : P9 h0 kb sb mb c m S av A) (hs9 : S9 S) (x : As h0 h (c0 ab kb now av)) : CallsH Tryz.prog 85 [ptr ab] h (Cmd9 h0 h ab kb now av (cHall S now A)) := by
 refine f85_calls (by simp) ?_
 intro b2 h1 g1
 have w := x.st.new g1
 refine sub9_go (i := 1) x w rfl (fun x => begin9_calls p (by decide) x) ?_ ?_
 rotate_left
 ·rintro why h2 hB c2
  exact bad9 (NoB.a1 (f := fun _ t => .ok (listR (t.pairs.flatMap fun p : Pair => [p.name, p.text]), [])) hB) c2
 rintro _ h2 _ ⟨hb, k0, hk0, hk, p2, w2, r2, rfl⟩ w
 obtain ⟨k9, rfl⟩ := one_arg hb
 cases hk0
 have htl := (hs9.get k0 now).ps
 have he : cHall S now [k0] = _ := (show cHall S now [k0] = kindly S now 2 k0 (fun t => .ok (listR (t.pairs.flatMap fun p => [p.name, p.text]), [])) from rfl).trans (kindly_ok hk)
 generalize (getS S k0 now).getD zeroT = t at *
 have hsv := (w.thc 1 rfl).1
 obtain ⟨la, lc, rfl, _⟩ := hsv.form
 refine w.ldc 1 rfl rfl ?_
 refine call_ret (listPair_calls hsv (by omega)) ?_
 rintro _ h5 ⟨⟨ra, rn, rc, rfl, ol, fr⟩, c5⟩
 have hz := w.size
 have w := w.add (e := .o encQ 4 (.slice ra rn rc) _) c5 ol fr
 refine w.st1 1 rfl rfl rfl rfl fun h6 w => ?_
 exact finl9 x w 1 2 0 rfl rfl rfl (fun b hb => by have := fr b hb; omega) he
theorem tc_away (tc : TC ab kb now av t is pv lw rv Z fv th) : TC ab kb now av t is pv lw rv (fun h => Blk h b1 [fv] ∧ Z h) (.func (.func 232) #[] #[ptr b1]) (fun s => !th s) := by
 obtain ⟨g, fi, cap, rfl, hg⟩ := tc
 refine ⟨_, _, _, rfl, fun {h s key lv L} hE hZ => ?_⟩
 refine f232_calls (by simp) ?_
 refine Ei _ (Ai (cell_blk hZ.1 rfl) ?_)
 refine call_ret (hg hE hZ.2) ?_
 rintro _ h2 ⟨rfl, c2⟩
 exact ⟨rfl, c2⟩
set_option maxHeartbeats 1000000 in
theorem away9_calls {k0 : ByteArray} (p : P9 h0 kb sb mb c m S av (k0 :: l)) (hl : 1 ≤ l.length ∧ l.length < 65536) (x : As h0 h (cE ab kb now av key t is pv lw rv nilV [])) (tc : TC ab kb now av t is pv lw rv Z fv th)
  (hZ : ∀ h', Chg (cE ab kb now av key t is pv lw rv nilV []).fp h h' → Z h') :
  CallsH Tryz.prog 159 [ptr ab, .int .i64 op, fv] h (Ret fun r h' => r = repV 3 (hereL th l).length noText ∧ ∃ lv', Tn h0 h (cE ab kb now av key t is pv lw rv nilV []) h' (cE ab kb now av key t is pv lw rv lv' ((hereL th l).map fun n => ⟨op, key, n, noText, 0⟩))) := by
 obtain ⟨ba, oa, ac, rfl⟩ := p.argF (by simp)
 obtain ⟨fg, ffi, fcap, rfl⟩ : ∃ g fi cap, fv = .func (.func g) fi cap := by
  obtain ⟨g, fi, cap, e, _⟩ := tc
  exact ⟨g, fi, cap, e⟩
 refine f159_calls (by simp) ?_
 intro b5 h1 g1
 have w := x.st.new g1
 intro b6 h2 g2
 have w := w.new g2
 have hlc : (k0 :: l).length = l.length + 1 := rfl
 refine call_ret fresh9_calls ?_
 rintro _ h5 ⟨⟨bs, mb2, bt, rfl, hf, hfb⟩, c5⟩
 have w := w.add (e := frE bs mb2 bt (.func (.func 232) #[] #[ptr b5]) []) c5 hf (fun b hb => hfb b (by simpa [frE, En.fp] using hb))
 refine w.ldc 3 rfl rfl ?_
 have hac := (p.args _ (x.base w)).len.2
 refine Ai (by decide) (Ai (by simp only [List.length_cons]; omega) (Ai (by omega) ?_))
 refine sl_slc (lo := 1) (hi := (k0 :: l).length) encS_len (p.args _ (x.base w)) (by simp) (Nat.le_refl _) fun v1 hv1 => ?_
 have e1 : ((k0 :: l).drop 1).take ((k0 :: l).length - 1) = l := by simp
 rw [e1] at hv1
 have hsl : ∀ {h'}, Chg [] h0 h' → SL encS h' v1 l := fun hc => hv1 _ (p.args _ hc)
 clear hv1
 obtain ⟨va, vc, rfl, _⟩ := (hsl (Chg.refl _)).form
 obtain ⟨vb, vo, rfl⟩ := (hsl (Chg.refl _)).addr (by omega)
 obtain ⟨th2, hth2⟩ : ∃ th2 : ByteArray → Bool, th2 = fun s => !th s := ⟨_, rfl⟩
 have tc2 := tc_away (b1 := b5) tc
 rw [show hereL th l = newL th2 [] l by rw [hth2]; rfl]
 rw [← hth2] at tc2
 refine loop_intro (fun q : Nat × Nat × Value => [(0, ptr ab), (1, .int .i64 op), (6, ptr b6), (7, .int .i64 q.2.1), (8, .func (.func 228) #[] #[ptr bs, ptr bt]), (17, .slice (some ⟨vb, vo, none⟩) l.length vc), (18, .int .i64 l.length), (19, .int .i64 q.1)])
  (fun q h' => (q.1 ≤ l.length ∧ q.2.1 = (newL th2 [] (l.take q.1)).length) ∧ St (cE ab kb now (.slice (some ⟨ba, oa, none⟩) (k0 :: l).length ac) key t is pv lw rv nilV []).fp h h' [frE bs mb2 bt (.func (.func 232) #[] #[ptr b5]) (l.take q.1), .b b6 [.int .i64 0, .int .i64 0, .string ⟨#[]⟩, .slice none 0 0], .b b5 [.func (.func fg) ffi fcap],
   cE ab kb now (.slice (some ⟨ba, oa, none⟩) (k0 :: l).length ac) key t is pv lw rv q.2.2 ((newL th2 [] (l.take q.1)).map fun n => ⟨op, key, n, noText, 0⟩)])
  (fun q => l.length - q.1) (0, 0, nilV) ⟨rfl, rfl, rfl, rfl, rfl, rfl, rfl, rfl, trivial⟩ ⟨⟨Nat.zero_le _, rfl⟩, w⟩ ?_
 rintro ⟨q, n, lv⟩ h6 ⟨⟨hq, hn0⟩, w⟩
 replace hq : q ≤ l.length := hq
 replace hn0 : n = (newL th2 [] (l.take q)).length := hn0
 have hnq : n ≤ q := by
  have h1 := newL_len (th := th2) (l := l.take q) (pre := [])
  rw [List.length_take] at h1
  omega
 refine Ai rfl (Ai (fun hlt => ?_) (fun hge => ?_))
 ·have hlt : q < l.length := by omega
  have htk := List.take_succ_eq_append_getElem hlt
  obtain ⟨s, hs⟩ : ∃ s, s = l[q] := ⟨_, rfl⟩
  rw [← hs] at htk
  refine sl_ix (s := s) (hsl (x.base w)) q rfl (by rw [hs]; exact List.getElem?_eq_getElem hlt) ?_
  refine w.fresh 0 3 rfl rfl (by decide) tc2 (fun h9 c9 => ⟨fr_box w 0 2 rfl rfl (by decide) h9 c9, hZ h9 (w.set (e' := En.nil) 0 rfl c9 (fun b hb => .inl (by simp at hb; simp [frE, En.fp, hb])) trivial (fun b hb => (nomatch (show b ∈ ([] : List Nat) from hb)))).chg⟩) (by rw [List.length_take]; omega) fun h7 w => ?_
  rw [← htk] at w
  obtain ⟨bb, hbb⟩ : ∃ bb, bb = (!th2 s && decide (s ∉ l.take q)) := ⟨_, rfl⟩
  have hsn := newL_snoc (th := th2) hlt
  rw [← hs, ← hbb] at hsn
  have hcnt := newL_cnt (th := th2) hlt (b := bb) (by rw [← hs]; exact hbb)
  rw [← hbb]
  cases bb with
  |true =>
   refine Ai rfl (fun z hz => ?_)
   have hz := add_in hz (by simp only; omega) (by simp only; omega)
   subst hz
   refine sub9_go (i := 3) x w rfl (fun x => take9_calls ⟨op, noText, s, noText, 0⟩ x (by rw [List.length_map]; simp only; omega)) ?_ ?_
   rotate_left
   ·rintro why h8 hB
    exact hB.elim
   rintro _ h8 _ ⟨lv8, rfl⟩ w
   have hm : (newL th2 [] (l.take q)).map (fun n => (⟨op, key, n, noText, 0⟩ : Eff)) ++ [⟨op, key, s, noText, 0⟩] = (newL th2 [] (l.take (q + 1))).map fun n => ⟨op, key, n, noText, 0⟩ := by
    rw [hsn, if_pos rfl, List.map_append]; rfl
   have w := (show St _ _ _ [_, _, _, cE ab kb now (.slice (some ⟨ba, oa, none⟩) (k0 :: l).length ac) key t is pv lw rv lv8 ((newL th2 [] (l.take q)).map (fun n => (⟨op, key, n, noText, 0⟩ : Eff)) ++ [⟨op, key, s, noText, 0⟩])] from w)
   rw [hm] at w
   refine Ai rfl (fun z hz => ?_)
   have hz := add_in hz (by simp only; omega) (by simp only; omega)
   subst hz
   exact Ai rfl (Ei (q + 1, n + 1, lv8) (Ai ⟨rfl, rfl, rfl, rfl, rfl, rfl, rfl, rfl, trivial⟩ (Ai ⟨⟨hlt, by rw [hcnt, hn0]; rfl⟩, w⟩ (by simp only; omega))))
  |false =>
   have hm : newL th2 [] (l.take q) = newL th2 [] (l.take (q + 1)) := by rw [hsn, if_neg (by decide), List.append_nil]
   have w := (show St _ _ _ [_, _, _, cE ab kb now (.slice (some ⟨ba, oa, none⟩) (k0 :: l).length ac) key t is pv lw rv lv ((newL th2 [] (l.take q)).map (fun n => (⟨op, key, n, noText, 0⟩ : Eff)))] from w)
   rw [hm] at w
   refine Ai rfl (fun z hz => ?_)
   have hz := add_in hz (by simp only; omega) (by simp only; omega)
   subst hz
   exact Ai rfl (Ei (q + 1, n, lv) (Ai ⟨rfl, rfl, rfl, rfl, rfl, rfl, rfl, rfl, trivial⟩ (Ai ⟨⟨hlt, by rw [hcnt, hn0]; rfl⟩, w⟩ (by simp only; omega))))
 ·have hkl : q = l.length := by omega
  subst hkl
  rw [List.take_length] at w hn0
  refine w.callv number9_calls fun h7 w => ?_
  refine w.st1 1 rfl rfl rfl rfl fun h8 w => ?_
  exact ⟨_, rfl, cells_blk (w.get 1 rfl), by rw [hn0]; rfl, lv, x.out w 3 rfl⟩
theorem hdel9 (p : P9 h0 kb sb mb c m S av A) (hs9 : S9 S) (x : As h0 h (c0 ab kb now av)) : CallsH Tryz.prog 83 [ptr ab] h (Cmd9 h0 h ab kb now av (cHdel S now A)) := by
 refine f83_calls (by simp) ?_
 intro b1 h1 g1
 have w := x.st.new g1
 intro b2 h2 g2
 have w := w.new g2
 refine w.ld1 1 rfl rfl ?_
 refine sub9_go (i := 2) x w rfl (fun x => begin9_calls p (by decide) x) ?_ ?_
 rotate_left
 ·rintro why h2 hB c2
  exact bad9 (no_away (f := fun key l t => .ok (numR (hereL (thereH t.pairs) l).length, (hereL (thereH t.pairs) l).map (unhashE key))) hB (fun _ _ => rfl) rfl) c2
 rintro _ h3 _ ⟨hb, k0, hk0, hk, p2, w2, r2, rfl⟩ w
 obtain ⟨k9, l, rfl⟩ := cons_of (by decide) hb.1
 cases hk0
 have hlc : (k0 :: l).length = l.length + 1 := rfl
 have hc9 : 1 ≤ l.length ∧ l.length < 65536 := ⟨by omega, by omega⟩
 have htl := (hs9.get k0 now).ps
 have he : cHdel S now (k0 :: l) = _ := (show cHdel S now (k0 :: l) = if 1 ≤ l.length ∧ l.length < 65536 then kindly S now 2 k0 (fun t => .ok (numR (hereL (thereH t.pairs) l).length, (hereL (thereH t.pairs) l).map (unhashE k0))) else .error wArgs from rfl).trans ((if_pos hc9).trans (kindly_ok hk))
 generalize (getS S k0 now).getD zeroT = t at *
 refine w.ld1 1 rfl rfl ?_
 refine call_ret (away9_calls p hc9 (x.out w 2 rfl).1 (tc_hdel (b1 := b1) (by omega)) (fun h9 c9 => Blk.chg (w.get 1 rfl) c9 (fun hm => w.apart 1 2 _ _ rfl rfl (by decide) b1 (by simp [En.fp]) hm))) ?_
 rintro _ h5 ⟨rfl, lv5, _, o5⟩
 have w := w.own 2 rfl o5
 refine w.st1 0 rfl rfl rfl rfl fun h6 w => ?_
 exact fin9 x w 0 2 rfl rfl he
theorem hincr9 (p : P9 h0 kb sb mb c m S av A) (hs9 : S9 S) (hl : LaidN h0) (hA : ∀ a ∈ A, a.size < 281474976710656) (x : As h0 h (c0 ab kb now av)) : CallsH Tryz.prog 86 [ptr ab] h (Cmd9 h0 h ab kb now av (cHincr S now A)) := by
 refine f86_calls (by simp) ?_
 intro b2 h1 g1
 have w := x.st.new g1
 refine sub9_go (i := 1) x w rfl (fun x => many9_calls p (by decide) x) ?_ ?_
 rotate_left
 ·rintro why h2 ⟨hB, rfl⟩ c2
  exact bad9 (arg3_bad hB) c2
 rintro _ h2 _ ⟨hb, k0, hk0, rfl⟩ w
 obtain ⟨k9, n, u, rfl⟩ := three_arg hb
 cases hk0
 refine sub9_go (i := 1) x w rfl (fun x => num9_calls (j := 2) p x hl rfl (hA u (by simp))) ?_ ?_
 rotate_left
 ·rintro why h3 ⟨hB, rfl⟩ c3
  refine bad9 ?_ c3
  show numbered u _ = _
  unfold numbered
  rw [hB]
 rintro _ h3 _ ⟨by_, hby, rfl, rfl⟩ w
 have hnn : ∀ f, numbered u f = f by_ := fun f => by unfold numbered; rw [hby]
 refine sub9_go (i := 1) x w rfl (fun x => of9_calls p x) ?_ ?_
 rotate_left
 ·rintro why h4 ⟨hB, rfl⟩ c4
  exact bad9 ((hnn _).trans (kindly_no hB)) c4
 rintro _ h4 _ ⟨hk, p2, w2, r2, rfl⟩ w
 have ht9 := hs9.get k0 now
 have hk9 := hA k0 (by simp)
 have hn9 := hA n (by simp)
 have he : cHincr S now [k0, n, u] = _ := (hnn _).trans (kindly_ok hk)
 generalize (getS S k0 now).getD zeroT = t at *
 have htl := ht9.ps
 obtain ⟨b, o, cc, rfl⟩ := p.argF (by simp)
 refine w.ldc 1 rfl rfl ?_
 refine p.ix (x.base w) 1 rfl rfl ?_
 refine w.callv (field9_calls (w.get 1 rfl) (by omega)) fun h5 w => ?_
 have hfs : ((fieldF t.pairs n).getD zeroS).size < 281474976710656 := by
  unfold fieldF
  cases hf : t.pairs.find? fun p => decide (p.name = n) with
  |none => decide
  |some pr =>
   have := ht9.pt pr (List.mem_of_find?_eq_some hf)
   show pr.text.size < _
   omega
 have hth : thereH t.pairs n = (fieldF t.pairs n).isSome := rfl
 rw [hth] at he
 generalize fieldF t.pairs n = fo at he hfs ⊢
 -- what stands behind the field's text
 have rest : ∀ {h6 : Heap} {s : ByteArray} {M : List En}, s = fo.getD zeroS → St (c0 ab kb now (.slice (some ⟨b, o, none⟩) 3 cc)).fp h h6 (.b b2 [.int .i64 0, .int .i64 0, .string ⟨#[]⟩, .slice none 0 0] :: cE ab kb now (.slice (some ⟨b, o, none⟩) 3 cc) k0 t (getS S k0 now).isSome p2 w2 r2 nilV [] :: M) →
   swp Tryz.prog (.seq (.ops f86r7) (.seq (.ops f86r8) (.seq (.ops f86r9) (.seq (.ops f86r10) (.seq (.seq (.ops f86r11) (.cond (.tmp 45) (.ops f86r12) .skip)) (.seq (.ops f86r13) (.seq (.ops f86r14) .ret)))))))
    (retQ [.cn 2 4] (Cmd9 h0 h ab kb now (.slice (some ⟨b, o, none⟩) 3 cc) (cHincr S now [k0, n, u]))) (mk [(0, ptr ab), (2, ptr b2), (3, .int .i64 by_), (4, .string s), (5, .bool fo.isSome)]) [] h6 := by
  intro h6 s M hs w
  rw [← hs] at hfs he
  obtain ⟨⟨sl⟩⟩ := s
  refine call_ret (bnum_calls (hl.ext (x.base w)) hfs) ?_
  rintro _ h7 ⟨rfl, c7⟩
  have w := w.ext c7
  have hnu : numOf ⟨⟨sl⟩⟩ = Num.num sl := rfl
  obtain ⟨nu, hnv⟩ : ∃ nu, nu = Num.num sl := ⟨_, rfl⟩
  rw [← hnv] at hnu ⊢
  cases nu with
  |none => exact must9_no (bad9 (by rw [he]; unfold numbered; rw [hnu]; rfl) w.chg)
  |some z =>
   have he : cHincr S now [k0, n, u] = _ := he.trans (show numbered _ _ = _ by unfold numbered; rw [hnu])
   refine must9_yes fun _ => ?_
   refine call_out9 (plus9_calls (numOf_in hnu) (numOf_in hby)) ?_ ?_
   rotate_left
   ·rintro why h8 ⟨hno, rfl, e⟩
    have e := e.symm
    subst e
    exact bad9 (he.trans (if_neg hno)) w.chg
   rintro _ h8 ⟨hok, rfl, e⟩
   have e := e.symm
   subst e
   have he := he.trans (if_pos hok)
   obtain ⟨pa, pc, rfl, _⟩ := (w.thc 1 rfl).1.form
   have hil := itoa_len hok
   have hisz : (⟨⟨Lib.itoa (z + by_)⟩⟩ : ByteArray).size ≤ 20 := hil
   have fin : ∀ {h9 : Heap} {items : Nat} {M : List En}, items = t.pairs.length + (if fo.isSome = true then 0 else 1) → St (c0 ab kb now (.slice (some ⟨b, o, none⟩) 3 cc)).fp h h9 (.b b2 [.int .i64 0, .int .i64 0, .string ⟨#[]⟩, .slice none 0 0] :: cE ab kb now (.slice (some ⟨b, o, none⟩) 3 cc) k0 t (getS S k0 now).isSome (.slice pa t.pairs.length pc) w2 r2 nilV [] :: M) →
     swp Tryz.prog (.seq (.ops f86r13) (.seq (.ops f86r14) .ret))
      (retQ [.cn 2 4] (Cmd9 h0 h ab kb now (.slice (some ⟨b, o, none⟩) 3 cc) (cHincr S now [k0, n, u]))) (mk [(0, ptr ab), (2, ptr b2), (6, .int .i64 (z + by_)), (8, .int .i64 items)]) [] h9 := by
    intro h9 items M hit w
    refine w.ldc 1 rfl rfl ?_
    refine p.ix (x.base w) 1 rfl rfl ?_
    refine w.callqv (format_calls (hl.ext (x.base w)) hok.1 hok.2) fun h10 w => ?_
    refine sub9_go (i := 1) x w rfl (fun x => put9_calls p ⟨5, noText, n, ⟨⟨Lib.itoa (z + by_)⟩⟩, 0⟩ x (by simp) (by omega) (by show n.size < _; omega) (by show (⟨⟨Lib.itoa (z + by_)⟩⟩ : ByteArray).size < _; omega)) ?_ ?_
    rotate_left
    ·rintro why h11 ⟨hB, rfl⟩ c11
     refine bad9 (he.trans (mkNo9 fun hh => hB ⟨?_, hh.2.1, ?_⟩)) c11
     ·have := hh.1
      rw [hit]
      push_cast
      split at this <;> simp_all
     ·have := hh.2.2
      rw [Bool.and_eq_true] at this
      exact ⟨of_decide_eq_true this.1, of_decide_eq_true this.2⟩
    rintro _ h11 _ ⟨hfit, lv11, rfl⟩ w
    refine w.callv number9_calls fun h12 w => ?_
    refine w.st1 0 rfl rfl rfl rfl fun h13 w => ?_
    refine fin9 x w 0 1 rfl rfl (he.trans (mkOk9 ⟨?_, hfit.2.1, ?_⟩))
    ·have := hfit.1
     rw [hit] at this
     push_cast at this
     split <;> simp_all
    ·rw [Bool.and_eq_true]
     exact ⟨decide_eq_true hfit.2.2.1, decide_eq_true hfit.2.2.2⟩
   refine w.ldc 1 rfl rfl ?_
   refine cut_at [(0, ptr ab), (2, ptr b2), (5, .bool fo.isSome), (6, .int .i64 (z + by_)), (8, .int .i64 t.pairs.length)] ⟨rfl, rfl, rfl, rfl, rfl, trivial⟩ ?_
   refine ass_go ?_
   refine not_go (v := fo.isSome) rfl rfl ?_
   refine cnd_go (t := !fo.isSome) rfl ?_
   cases fo with
   |none =>
    refine Ai rfl (fun z hz => ?_)
    have hz := add_in hz (by omega) (by omega)
    subst hz
    exact cut_at [(0, ptr ab), (2, ptr b2), (6, .int .i64 (z + by_)), (8, .int .i64 (t.pairs.length + 1 : Nat))] ⟨rfl, rfl, rfl, rfl, trivial⟩ (fin rfl w)
   |some s =>
    refine skp_go ?_
    exact cut_at [(0, ptr ab), (2, ptr b2), (6, .int .i64 (z + by_)), (8, .int .i64 t.pairs.length)] ⟨rfl, rfl, rfl, rfl, trivial⟩ (fin rfl w)
 refine mv1 rfl ?_
 refine ext1 rfl rfl ?_
 refine ext1 rfl rfl ?_
 refine mv_two9 rfl rfl ?_
 refine cut_at [(0, ptr ab), (2, ptr b2), (3, .int .i64 by_), (4, .string (fo.getD noText)), (5, .bool fo.isSome)] ⟨rfl, rfl, rfl, rfl, rfl, trivial⟩ ?_
 refine ass_go ?_
 refine not_go (v := fo.isSome) rfl rfl ?_
 refine cnd_go (t := !fo.isSome) rfl ?_
 cases fo with
 |none =>
  refine mv_go (v := .string zeroS) rfl ?_
  exact cut_at [(0, ptr ab), (2, ptr b2), (3, .int .i64 by_), (4, .string zeroS), (5, .bool false)] ⟨rfl, rfl, rfl, rfl, rfl, trivial⟩ (rest rfl w)
 |some s =>
  refine skp_go ?_
  exact cut_at [(0, ptr ab), (2, ptr b2), (3, .int .i64 by_), (4, .string s), (5, .bool true)] ⟨rfl, rfl, rfl, rfl, rfl, trivial⟩ (rest rfl w)
end
end Go.Proofs.YtjnijlnmbjjgpaaGreatDoor
namespace Go.Proofs.YtjnijlnmbjjgpaaGreatDoor
open Go Go.Sx C
section
variable {h0 h h1 h' : Heap} {xb i : Nat} {now n m : Int} {kv av lv pv lw rv : Value} {k : List RX} {A : List ByteArray} {L E : List Eff} {why key s u nm : ByteArray} {t : Thing} {M : List En} {T : List Nat} {res : Res}
theorem ix_first {α : Type} {l : List α} {p : α → Bool} {k : Nat} (hk : k < l.length) (hp : p l[k] = true) (hn : ∀ j (hj : j < l.length), j < k → p l[j] = false) : l.find? p = some l[k] := by
 rw [List.find?_eq_some_iff_append]
 refine ⟨hp, l.take k, l.drop (k + 1), ?_, fun x hx => ?_⟩
 ·rw [List.getElem_cons_drop, List.take_append_drop]
 ·obtain ⟨j, hj, rfl⟩ := List.mem_iff_getElem.1 hx
  rw [List.length_take] at hj
  rw [List.getElem_take, hn j (by omega) (by omega)]
  rfl
theorem rfield_calls (x : As h0 h (aT xb t pv lw rv key kv now av lv L why)) (g : RG9 h0 kv k av A key t pv lw rv) : CallsH Tryz.prog 129 [ptr xb, .string nm] h
  (Ret fun r h' => ((fieldF t.pairs nm = none ∧ r = .tuple #[.string noText, .bool false]) ∨ ∃ s, fieldF t.pairs nm = some s ∧ r = .tuple #[.string s, .bool true]) ∧ h' = h) := by
 have w := x.st
 have hsl := (th_lists (g.th h (x.base w))).1
 obtain ⟨la, lc, rfl, _⟩ := hsl.form
 have ln : t.pairs.length ≤ 2000 := g.t9.ps
 refine f129_calls (by simp) ?_
 refine loop_intro (fun i : Nat => [(0, ptr xb), (1, .string nm), (6, .int .i64 i)]) (fun i h' => i ≤ t.pairs.length ∧ (∀ j (hj : j < t.pairs.length), j < i → t.pairs[j].name ≠ nm) ∧ h' = h) (fun i => t.pairs.length - i) 0
  ⟨rfl, rfl, rfl, trivial⟩ ⟨Nat.zero_le _, fun j _ h => absurd h (by omega), rfl⟩ ?_
 rintro i h4 ⟨hi, hall, e⟩
 have e := e.symm
 subst e
 refine w.ldr9 0 rfl rfl ?_
 refine Ai rfl (Ai (fun hlt => ?_) (fun hge => ?_))
 ·have hlt : i < t.pairs.length := by omega
  obtain ⟨b, o, rfl⟩ := hsl.addr (by omega)
  have hcs := hsl.cells encP_len (List.getElem?_eq_getElem hlt)
  refine w.ldr9 0 rfl rfl ?_
  refine Ai (by omega) (Ai (by omega) (Ei _ (Ai (by simpa using hcs 0 _ rfl) ?_)))
  refine Ai (fun he => ?_) (fun hne => ?_)
  ·refine w.ldr9 0 rfl rfl ?_
   refine Ai (by omega) (Ai (by omega) (Ei _ (Ai (by simpa using hcs 1 _ rfl) ?_)))
   have hf : t.pairs.find? (fun p => decide (p.name = nm)) = some t.pairs[i] := ix_first hlt (decide_eq_true he) fun j hj h => decide_eq_false (hall j hj h)
   exact ⟨.inr ⟨t.pairs[i].text, by unfold fieldF; rw [hf]; rfl, rfl⟩, rfl⟩
  ·refine Ai rfl (fun z hz => ?_)
   have hz := add_in hz (by omega) (by omega)
   subst hz
   refine Ai rfl (Ei (i + 1) (Ai ⟨rfl, rfl, rfl, trivial⟩ (Ai ⟨hlt, fun j hj h => ?_, rfl⟩ (by omega))))
   rcases Nat.lt_or_ge j i with h3 | h3
   ·exact hall j hj h3
   ·obtain rfl : j = i := by omega
    exact hne
 ·have hf : fieldF t.pairs nm = none := by
   unfold fieldF
   rw [List.find?_eq_none.2 fun x hx => by
    obtain ⟨j, hj, rfl⟩ := List.mem_iff_getElem.1 hx
    rw [decide_eq_false (hall j hj (by omega))]; simp]
   rfl
  exact ⟨.inl ⟨hf, rfl⟩, rfl⟩
theorem rthere2_calls (x : As h0 h (aT xb t pv lw rv key kv now av lv L why)) (g : RG9 h0 kv k av A key t pv lw rv) : CallsH Tryz.prog 125 [ptr xb, .int .i64 2, .string nm] h
  (Ret fun r h' => ((thereH t.pairs nm = false ∧ r = .bool false) ∨ (thereH t.pairs nm = true ∧ r = .bool true)) ∧ h' = h) := by
 refine f125_calls (by simp) ?_
 refine Ai rfl (Ai (fun _ => ?_) (fun hne => absurd rfl hne))
 refine call_ret (rfield_calls x g) ?_
 rintro _ h2 ⟨hr, e⟩
 have e := e.symm
 subst e
 rcases hr with ⟨hf, rfl⟩ | ⟨s, hf, rfl⟩
 ·exact ⟨.inl ⟨by unfold thereH; rw [hf]; rfl, rfl⟩, rfl⟩
 ·exact ⟨.inr ⟨by unfold thereH; rw [hf]; rfl, rfl⟩, rfl⟩
theorem rahead_calls {p f0 st : Nat} (x : As h0 h (aT xb t pv lw rv key kv now av lv L why)) (c : RC9 h0 kv k av A) (hA : A.length ≤ 20) (hp : p < A.length) (hst : 1 ≤ st) (hs2 : st ≤ 2) : CallsH Tryz.prog 126 [ptr xb, .int .i64 p, .int .i64 f0, .int .i64 st] h
  (Ret fun r h' => (((∀ q, f0 + q * st < p → A[f0 + q * st]? ≠ A[p]?) ∧ r = .bool false) ∨ ((∃ q, f0 + q * st < p ∧ A[f0 + q * st]? = A[p]?) ∧ r = .bool true)) ∧ h' = h) := by
 have w := x.st
 obtain ⟨b, o, cc, rfl⟩ := c.argF (by omega)
 refine f126_calls (by simp) ?_
 refine loop_intro (fun q : Nat => [(0, ptr xb), (1, .int .i64 p), (3, .int .i64 st), (9, .int .i64 ((f0 + q * st : Nat) : Int))]) (fun q h' => (∀ j, j < q → f0 + j * st < p → A[f0 + j * st]? ≠ A[p]?) ∧ h' = h) (fun q => p + st - (f0 + q * st)) 0
  ⟨rfl, rfl, rfl, by show _ = some (Value.int .i64 ((f0 + 0 * st : Nat) : Int)); rw [Nat.zero_mul]; rfl, trivial⟩ ⟨fun j h => absurd h (by omega), rfl⟩ ?_
 rintro q h4 ⟨hall, e⟩
 have e := e.symm
 subst e
 refine Ai rfl (Ai (fun hlt => ?_) (fun hge => ?_))
 ·have hlt : f0 + q * st < p := by omega
  refine w.ldr9 0 rfl rfl ?_
  refine c.ix (x.base w) (f0 + q * st) rfl (List.getElem?_eq_getElem (by omega)) ?_
  refine w.ldr9 0 rfl rfl ?_
  refine c.ix (x.base w) p rfl (List.getElem?_eq_getElem hp) ?_
  refine Ai (fun he => ?_) (fun hne => ?_)
  ·exact ⟨.inr ⟨⟨q, hlt, by rw [List.getElem?_eq_getElem (by omega), List.getElem?_eq_getElem hp, he]⟩, rfl⟩, rfl⟩
  ·refine Ai rfl (fun z hz => ?_)
   have hm : (q + 1) * st = q * st + st := Nat.succ_mul q st
   have hz : z = ((f0 + (q + 1) * st : Nat) : Int) := (hz.trans (wrap_in (by omega) (by omega))).trans (by omega)
   subst hz
   refine Ai rfl (Ei (q + 1) (Ai ⟨rfl, rfl, rfl, rfl, trivial⟩ (Ai ⟨fun j hj h => ?_, rfl⟩ (by omega))))
   rcases Nat.lt_or_ge j q with h3 | h3
   ·exact hall j h3 h
   ·obtain rfl : j = q := by omega
    rw [List.getElem?_eq_getElem (by omega), List.getElem?_eq_getElem hp]
    exact fun he => hne (Option.some.inj he)
 ·refine ⟨.inl ⟨fun j hj => hall j ?_ hj, rfl⟩, rfl⟩
  rcases Nat.lt_or_ge j q with h3 | h3
  ·exact h3
  ·have := Nat.mul_le_mul_right st h3
   omega
end
end Go.Proofs.YtjnijlnmbjjgpaaGreatDoor
namespace Go.Proofs.YtjnijlnmbjjgpaaGreatDoor
open Go Go.Sx C
section
variable {h0 h h1 h' : Heap} {xb i : Nat} {now n m : Int} {kv av lv pv lw rv : Value} {k : List RX} {A l : List ByteArray} {L E : List Eff} {why key s u nm : ByteArray} {t : Thing} {M : List En} {T : List Nat} {res : Res}
theorem ahead_in9 {q : Nat} (hq : q < l.length) (h : ∃ j, 1 + j * 1 < q + 1 ∧ (key :: l)[1 + j * 1]? = (key :: l)[q + 1]?) : l[q] ∈ l.take q := by
 obtain ⟨j, h1, h2⟩ := h
 have e : 1 + j * 1 = j + 1 := by omega
 rw [e, List.getElem?_cons_succ, List.getElem?_cons_succ, List.getElem?_eq_getElem (by omega), List.getElem?_eq_getElem hq] at h2
 rw [← Option.some.inj h2]
 exact List.mem_iff_getElem.2 ⟨j, by rw [List.length_take]; omega, by rw [List.getElem_take]⟩
theorem ahead_no9 {q : Nat} (hq : q < l.length) (h : ∀ j, 1 + j * 1 < q + 1 → (key :: l)[1 + j * 1]? ≠ (key :: l)[q + 1]?) : l[q] ∉ l.take q := by
 intro hm
 obtain ⟨j, hj, he⟩ := List.mem_iff_getElem.1 hm
 rw [List.length_take] at hj
 rw [List.getElem_take] at he
 refine h j (by omega) ?_
 have e : 1 + j * 1 = j + 1 := by omega
 rw [e, List.getElem?_cons_succ, List.getElem?_cons_succ, List.getElem?_eq_getElem (by omega), List.getElem?_eq_getElem hq, he]
set_option maxHeartbeats 1000000 in
theorem raway_calls {kd op : Int} {th : ByteArray → Bool} (hth : ∀ {h1 : Heap} {lv : Value} {L : List Eff} {nm : ByteArray}, As h0 h1 (aT xb t pv lw rv key kv now av lv L noText) → CallsH Tryz.prog 125 [ptr xb, .int .i64 kd, .string nm] h1 (Ret fun r h' => ((th nm = false ∧ r = .bool false) ∨ (th nm = true ∧ r = .bool true)) ∧ h' = h1))
  (x : As h0 h (aT xb t pv lw rv key kv now av lv [] noText)) (g : RG9 h0 kv k av (key :: l) key t pv lw rv) : CallsH Tryz.prog 131 [ptr xb, .int .i64 kd, .int .i64 op] h
  (Ret (Reply9 h0 h xb t pv lw rv key kv now av lv (.ok (numR (hereL th l).length, (hereL th l).map fun n => ⟨op, key, n, noText, 0⟩)))) := by
 have al := g.al
 simp only [List.length_cons] at al
 obtain ⟨b, o, cc, rfl⟩ := g.c.argF (by simp)
 refine f131_calls (by simp) ?_
 intro b6 h1 g1
 have w := x.st.new g1
 have hlen : ∀ q, (newL (fun n => !th n) [] (l.take q)).length ≤ 20 := fun q => by
  have := newL_len (th := fun n => !th n) (l := l.take q) (pre := [])
  rw [List.length_take] at this
  omega
 obtain ⟨mk', hmk⟩ : ∃ mk' : ByteArray → Eff, mk' = fun n => ⟨op, key, n, noText, 0⟩ := ⟨_, rfl⟩
 refine loop_intro (fun q : Nat × Value => [(0, ptr xb), (1, .int .i64 kd), (2, .int .i64 op), (6, ptr b6), (7, .int .i64 ((newL (fun n => !th n) [] (l.take q.1)).length : Nat)), (8, .int .i64 ((q.1 + 1 : Nat) : Int))])
  (fun q h' => q.1 ≤ l.length ∧ St (xb :: vblk lv) h h' [.b b6 [.int .i64 0, .int .i64 0, .string ⟨#[]⟩, .slice none 0 0], aT xb t pv lw rv key kv now (.slice (some ⟨b, o, none⟩) (key :: l).length cc) q.2 ((newL (fun n => !th n) [] (l.take q.1)).map mk') noText])
  (fun q => l.length - q.1) (0, lv) ⟨rfl, rfl, rfl, rfl, rfl, rfl, trivial⟩ ⟨Nat.zero_le _, w⟩ ?_
 rintro ⟨q, lq⟩ h4 ⟨hq, w⟩
 have hq : q ≤ l.length := hq
 have hl4 := hlen q
 have hl5 : (newL (fun n => !th n) [] (l.take (q, lq).1)).length ≤ 20 := hl4
 have w : St (xb :: vblk lv) h h4 [.b b6 [.int .i64 0, .int .i64 0, .string ⟨#[]⟩, .slice none 0 0], aT xb t pv lw rv key kv now (.slice (some ⟨b, o, none⟩) (key :: l).length cc) lq ((newL (fun n => !th n) [] (l.take q)).map mk') noText] := w
 refine w.ldr9 1 rfl rfl ?_
 refine Ai rfl (Ai (fun hlt => ?_) (fun hge => ?_))
 ·have hlt : q < l.length := by simp only [List.length_cons] at hlt; omega
  have hsn := newL_snoc (th := fun n => !th n) hlt
  have next : ∀ {h5 : Heap} {lv2 : Value} {c : Bool}, (!(!th l[q]) && decide (l[q] ∉ l.take q)) = c → St (xb :: vblk lv) h h5 [.b b6 [.int .i64 0, .int .i64 0, .string ⟨#[]⟩, .slice none 0 0], aT xb t pv lw rv key kv now (.slice (some ⟨b, o, none⟩) (key :: l).length cc) lv2 ((newL (fun n => !th n) [] (l.take q)).map mk' ++ (if c = true then [mk' l[q]] else [])) noText] →
    St (xb :: vblk lv) h h5 [.b b6 [.int .i64 0, .int .i64 0, .string ⟨#[]⟩, .slice none 0 0], aT xb t pv lw rv key kv now (.slice (some ⟨b, o, none⟩) (key :: l).length cc) lv2 ((newL (fun n => !th n) [] (l.take (q + 1))).map mk') noText] := fun {h5 lv2 c} hc w => by
   rw [hsn, hc]
   cases c with
   |true => rw [if_pos rfl] at w ⊢; rw [List.map_append]; exact w
   |false => rw [if_neg (by decide)] at w ⊢; rw [List.map_append]; exact w
  refine w.ldr9 1 rfl rfl ?_
  refine g.c.ix (x.base w) (q + 1) rfl (s := l[q]) (by simp [hlt]) ?_
  refine call_ret (hth (x.out w 1 rfl).1) ?_
  rintro _ h5 ⟨hr, e5⟩
  have e5 := e5.symm
  subst e5
  have no : (!(!th l[q]) && decide (l[q] ∉ l.take q)) = false → St (xb :: vblk lv) h h4 [.b b6 [.int .i64 0, .int .i64 0, .string ⟨#[]⟩, .slice none 0 0], aT xb t pv lw rv key kv now (.slice (some ⟨b, o, none⟩) (key :: l).length cc) lq ((newL (fun n => !th n) [] (l.take (q + 1))).map mk') noText] ∧ (newL (fun n => !th n) [] (l.take (q + 1))).length = (newL (fun n => !th n) [] (l.take q)).length := fun hc =>
   ⟨next hc (by rw [if_neg (by decide), List.append_nil]; exact w), by rw [hsn, hc, if_neg (by decide), List.append_nil]⟩
  rcases hr with ⟨hf, rfl⟩ | ⟨hf, rfl⟩
  ·obtain ⟨w, hln⟩ := no (by rw [hf]; rfl)
   refine Ai rfl (fun z hz => ?_)
   have hz := add_in hz (by omega) (by omega)
   subst hz
   exact Ai rfl (Ei (q + 1, _) (Ai ⟨rfl, rfl, rfl, rfl, by rw [hln]; rfl, rfl, trivial⟩ (Ai ⟨hlt, w⟩ (by simp only; omega))))
  ·refine call_ret (rahead_calls (p := q + 1) (f0 := 1) (st := 1) (x.out w 1 rfl).1 g.c (by simp only [List.length_cons]; omega) (by simp only [List.length_cons]; omega) (Nat.le_refl _) (by omega)) ?_
   rintro _ h6 ⟨hr, e6⟩
   have e6 := e6.symm
   subst e6
   rcases hr with ⟨ha, rfl⟩ | ⟨ha, rfl⟩
   ·have hc : (!(!th l[q]) && decide (l[q] ∉ l.take q)) = true := by rw [hf, decide_eq_true (ahead_no9 hlt ha)]; rfl
    refine Ai rfl (fun z hz => ?_)
    have hz := add_in hz (by omega) (by omega)
    subst hz
    refine w.ldr9 1 rfl rfl ?_
    refine g.c.ix (x.base w) (q + 1) rfl (s := l[q]) (by simp [hlt]) ?_
    refine call_ret (rtake9_calls (x.out w 1 rfl).1 (by simp only [List.length_map]; omega)) ?_
    rintro _ h7 ⟨lv2, _, o7⟩
    have w := w.own 1 rfl o7
    have w := next hc (by rw [if_pos rfl, hmk]; rw [hmk] at w; exact w)
    have hln : (newL (fun n => !th n) [] (l.take (q + 1))).length = (newL (fun n => !th n) [] (l.take q)).length + 1 := by rw [hsn, hc, if_pos rfl]; simp
    refine Ai rfl (fun z hz => ?_)
    have hz := add_in hz (by omega) (by omega)
    subst hz
    exact Ai rfl (Ei (q + 1, _) (Ai ⟨rfl, rfl, rfl, rfl, by rw [hln]; rfl, rfl, trivial⟩ (Ai ⟨hlt, w⟩ (by simp only; omega))))
   ·obtain ⟨w, hln⟩ := no (by rw [decide_eq_false (fun hn => hn (ahead_in9 hlt ha)), Bool.and_false])
    refine Ai rfl (fun z hz => ?_)
    have hz := add_in hz (by omega) (by omega)
    subst hz
    exact Ai rfl (Ei (q + 1, _) (Ai ⟨rfl, rfl, rfl, rfl, by rw [hln]; rfl, rfl, trivial⟩ (Ai ⟨hlt, w⟩ (by simp only; omega))))
 ·have hkl : q = l.length := by simp only [List.length_cons] at hge; omega
  subst hkl
  refine w.callv rInt9_calls fun h6 w => ?_
  refine w.st1 0 rfl rfl rfl rfl fun h7 w => ?_
  rw [List.take_length] at w
  exact Reply9.fin x w 0 1 rfl rfl (Jd9.ok (by rw [hmk]; unfold hereL; rfl))
end
end Go.Proofs.YtjnijlnmbjjgpaaGreatDoor
namespace Go.Proofs.YtjnijlnmbjjgpaaGreatDoor
open Go Go.Sx C
section
variable {h : Heap} {kb sb mb : Nat} {now z : Int} {av : Value} {key n s : ByteArray}
theorem itoa_300 (hz : In64 z) : (⟨⟨Lib.itoa z⟩⟩ : ByteArray).size ≤ 300 := by
 have h9 : (Lib.itoa (0 + z)).length ≤ 20 := itoa_len (k := 0) (n := z) ⟨by have := hz.1; omega, by have := hz.2; omega⟩
 rw [Int.zero_add] at h9
 show (Lib.itoa z).length ≤ _
 omega
end
end Go.Proofs.YtjnijlnmbjjgpaaGreatDoor
namespace Go.Proofs.YtjnijlnmbjjgpaaGreatDoor
open Go Go.Sx C
section
variable {h0 h h1 h' : Heap} {xb i : Nat} {now n m : Int} {kv av lv pv lw rv : Value} {k : List RX} {A l : List ByteArray} {L E : List Eff} {why key s u nm : ByteArray} {t : Thing} {M : List En} {T : List Nat} {res : Res}
theorem rhlen_calls (x : As h0 h (aT xb t pv lw rv key kv now av lv [] noText)) (g : RG9 h0 kv k av A key t pv lw rv) : CallsH Tryz.prog 60 [ptr xb, .string ⟨#[72, 76, 69, 78]⟩] h
  (Ret (Reply9 h0 h xb t pv lw rv key kv now av lv (.ok (numR t.pairs.length, [])))) := by
 refine f60_calls (by simp) ?_
 intro b4 h1 g1
 have w := x.st.new g1
 have hsl := fun h2 hc => (th_lists (g.th h2 hc)).1
 obtain ⟨la, lc, rfl, _⟩ := (hsl h0 (Chg.refl _)).form
 have ln : t.pairs.length ≤ 2000 := g.t9.ps
 refine Ai (fun he => absurd he (by decide)) (fun _ => ?_)
 refine Ai (fun he => absurd he (by decide)) (fun _ => ?_)
 refine Ai (fun he => absurd he (by decide)) (fun _ => ?_)
 refine Ai (fun _ => ?_) (fun he => absurd rfl he)
 refine w.ldr9 1 rfl rfl ?_
 refine w.callv rInt9_calls fun h2 w => ?_
 refine w.st1 0 rfl rfl rfl rfl fun h3 w => ?_
 exact Reply9.fin x w 0 1 rfl rfl (Jd9.ok rfl)
theorem rhget_calls (x : As h0 h (aT xb t pv lw rv key kv now av lv [] noText)) (g : RG9 h0 kv k av [key, s] key t pv lw rv) : CallsH Tryz.prog 60 [ptr xb, .string ⟨#[72, 71, 69, 84]⟩] h
  (Ret (Reply9 h0 h xb t pv lw rv key kv now av lv (match fieldF t.pairs s with
   |some u => .ok (textR u, [])
   |none => .ok (nilR, [])))) := by
 refine f60_calls (by simp) ?_
 intro b4 h1 g1
 have w := x.st.new g1
 have hsl := fun h2 hc => (th_lists (g.th h2 hc)).1
 obtain ⟨la, lc, rfl, _⟩ := (hsl h0 (Chg.refl _)).form
 have ln : t.pairs.length ≤ 2000 := g.t9.ps
 obtain ⟨b, o, cc, rfl⟩ := g.c.argF (by simp)
 refine Ai (fun he => absurd he (by decide)) (fun _ => ?_)
 refine Ai (fun _ => ?_) (fun he => absurd rfl he)
 refine w.ldr9 1 rfl rfl ?_
 refine g.c.ix (x.base w) 1 rfl rfl ?_
 refine call_ret (rfield_calls (x.out w 1 rfl).1 g) ?_
 rintro _ h2 ⟨hr, e⟩
 have e := e.symm
 subst e
 rcases hr with ⟨hf, rfl⟩ | ⟨v, hf, rfl⟩
 ·refine w.st1 0 rfl rfl rfl rfl fun h3 w => ?_
  exact Reply9.fin (a := 0) (m := 0) (s := noText) x w 0 1 rfl rfl (Jd9.ok (by rw [hf]; rfl))
 ·refine w.callv rText9_calls fun h4 w => ?_
  refine w.st1 0 rfl rfl rfl rfl fun h5 w => ?_
  exact Reply9.fin x w 0 1 rfl rfl (Jd9.ok (by rw [hf]; rfl))
theorem rhall_calls (x : As h0 h (aT xb t pv lw rv key kv now av lv [] noText)) (g : RG9 h0 kv k av A key t pv lw rv) : CallsH Tryz.prog 60 [ptr xb, .string ⟨#[72, 71, 69, 84, 65, 76, 76]⟩] h
  (Ret (Reply9 h0 h xb t pv lw rv key kv now av lv (.ok (listR (t.pairs.flatMap fun p => [p.name, p.text]), [])))) := by
 refine f60_calls (by simp) ?_
 intro b4 h1 g1
 have w := x.st.new g1
 have hsl := fun h2 hc => (th_lists (g.th h2 hc)).1
 obtain ⟨la, lc, rfl, _⟩ := (hsl h0 (Chg.refl _)).form
 have ln : t.pairs.length ≤ 2000 := g.t9.ps
 refine Ai (fun he => absurd he (by decide)) (fun _ => ?_)
 refine Ai (fun he => absurd he (by decide)) (fun _ => ?_)
 refine Ai (fun he => absurd he (by decide)) (fun _ => ?_)
 refine Ai (fun he => absurd he (by decide)) (fun _ => ?_)
 refine Ai (fun _ => ?_) (fun he => absurd rfl he)
 have two : ∀ p : Pair, ((fun p : Pair => [p.name, p.text]) p).length ≤ 2 := fun p => Nat.le_refl _
 have w := w.empty (enc := encS) (size := 1)
 refine loop_intro (fun q : Nat × Value => [(0, ptr xb), (4, ptr b4), (9, q.2), (10, .int .i64 q.1)])
  (fun q h' => q.1 ≤ t.pairs.length ∧ St (xb :: vblk lv) h h' [.o encS 1 q.2 ((t.pairs.take q.1).flatMap fun p => [p.name, p.text]), .b b4 [.int .i64 0, .int .i64 0, .string ⟨#[]⟩, .slice none 0 0], aT xb t (.slice la t.pairs.length lc) lw rv key kv now av lv [] noText])
  (fun q => t.pairs.length - q.1) (0, .slice none 0 0) ⟨rfl, rfl, rfl, rfl, trivial⟩ ⟨Nat.zero_le _, w⟩ ?_
 rintro ⟨q, v⟩ h4 ⟨hq, w⟩
 have hq : q ≤ t.pairs.length := hq
 have w : St (xb :: vblk lv) h h4 [.o encS 1 v ((t.pairs.take q).flatMap fun p => [p.name, p.text]), .b b4 [.int .i64 0, .int .i64 0, .string ⟨#[]⟩, .slice none 0 0], aT xb t (.slice la t.pairs.length lc) lw rv key kv now av lv [] noText] := w
 have hln := flat_len two (t.pairs.take q)
 rw [List.length_take] at hln
 obtain ⟨a4, c4, rfl, _⟩ := (show OL encS 1 h4 v _ from w.get 0 rfl).sl.form
 refine w.ldr9 2 rfl rfl ?_
 refine Ai rfl (Ai (fun hlt => ?_) (fun hge => ?_))
 ·have hlt : q < t.pairs.length := by omega
  obtain ⟨b, o, rfl⟩ := (hsl h0 (Chg.refl _)).addr (by omega)
  have hcs := (hsl _ (x.base w)).cells encP_len (List.getElem?_eq_getElem hlt)
  refine w.ldr9 2 rfl rfl ?_
  refine Ai (by omega) (Ai (by omega) (Ei _ (Ai (by simpa using hcs 0 _ rfl) ?_)))
  refine w.ldr9 2 rfl rfl ?_
  refine Ai (by omega) (Ai (by omega) (Ei _ (Ai (by simpa using hcs 1 _ rfl) ?_)))
  intro b9 h8 g8
  have w := w.new g8
  have s2 : SL encS h8 (.slice (some ⟨b9, 0, none⟩) 2 2) [t.pairs[q].name, t.pairs[q].text] := ⟨_, 2, rfl, Nat.le_refl _, by exact cells_blk g8.blk⟩
  refine w.app 1 rfl encS_len encS_one rfl s2 (by simp only [List.length_cons, List.length_nil]; omega) fun v' h9 w => ?_
  rw [← flat_take (f := fun p : Pair => [p.name, p.text]) hlt] at w
  have w := w.pick [1, 2, 3] (by decide)
  refine Ai rfl (fun z hz => ?_)
  have hz := add_in hz (by omega) (by omega)
  subst hz
  exact Ai rfl (Ei (q + 1, _) (Ai ⟨rfl, rfl, rfl, rfl, trivial⟩ (Ai ⟨hlt, w⟩ (by simp only; omega))))
 ·have hkl : q = t.pairs.length := by omega
  subst hkl
  have se := (show OL encS 1 h4 _ ((t.pairs.take t.pairs.length).flatMap fun p => [p.name, p.text]) from w.get 0 rfl).sl
  have hle := Nat.min_le_left t.pairs.length t.pairs.length
  refine call_ret (rtexts_calls se (by omega)) ?_
  rintro _ h5 ⟨⟨ra, rn, rc, rfl, sl, fr⟩, c5⟩
  have zz := w.chg.size
  have l4 : b4 < h4.size := (show Blk h4 b4 _ from w.get 1 rfl).lt
  have w := w.ext c5
  refine w.st2 1 rfl rfl rfl rfl fun h6 w k6 => ?_
  exact ⟨_, rfl, cells_blk (w.get 1 rfl), listR ((t.pairs.take t.pairs.length).flatMap fun p => [p.name, p.text]), lv, [], noText, ⟨ra, rn, rc, rfl, sl.chg k6 (fun b hb => by have := fr b hb; simp; omega), fun b hb => by have := fr b hb; omega⟩, ⟨t, _, _, _, key, x.out w 2 rfl⟩, Jd9.ok (by rw [List.take_length])⟩
theorem rhdel_calls (x : As h0 h (aT xb t pv lw rv key kv now av lv [] noText)) (g : RG9 h0 kv k av (key :: l) key t pv lw rv) : CallsH Tryz.prog 60 [ptr xb, .string ⟨#[72, 68, 69, 76]⟩] h
  (Ret (Reply9 h0 h xb t pv lw rv key kv now av lv (.ok (numR (hereL (thereH t.pairs) l).length, (hereL (thereH t.pairs) l).map fun n => ⟨6, key, n, noText, 0⟩)))) := by
 refine f60_calls (by simp) ?_
 intro b4 h1 g1
 have w := x.st.new g1
 have hsl := fun h2 hc => (th_lists (g.th h2 hc)).1
 obtain ⟨la, lc, rfl, _⟩ := (hsl h0 (Chg.refl _)).form
 have ln : t.pairs.length ≤ 2000 := g.t9.ps
 refine Ai (fun he => absurd he (by decide)) (fun _ => ?_)
 refine Ai (fun he => absurd he (by decide)) (fun _ => ?_)
 refine Ai (fun _ => ?_) (fun he => absurd rfl he)
 refine call_ret (raway_calls (th := thereH t.pairs) (fun x => rthere2_calls x g) (x.out w 1 rfl).1 g) ?_
 rintro _ h2 ⟨q, lv', E, why, ⟨ra, rn, rc, rfl, sl, fr⟩, ⟨t', pv', lw', rv', key', _, o2⟩, hd⟩
 have l4 : b4 < h1.size := (show Blk h1 b4 _ from w.get 0 rfl).lt
 have z1 := w.chg.size
 have w := w.own 1 rfl o2
 refine w.st2 0 rfl rfl rfl rfl fun h3 w k3 => ?_
 exact ⟨_, rfl, cells_blk (w.get 0 rfl), q, lv', E, why, ⟨ra, rn, rc, rfl, sl.chg k3 (fun b hb => by have := fr b hb; simp; omega), fun b hb => by have := fr b hb; omega⟩, ⟨t', pv', lw', rv', key', x.out w 1 rfl⟩, hd⟩
set_option maxHeartbeats 1000000 in
theorem rhincr_calls (hn : numOf s = some n) (hla : LaidN h0) (x : As h0 h (aT xb t pv lw rv key kv now av lv [] noText)) (g : RG9 h0 kv k av [key, nm, s] key t pv lw rv) : CallsH Tryz.prog 60 [ptr xb, .string ⟨#[72, 73, 78, 67, 82, 66, 89]⟩] h
  (Ret (Reply9 h0 h xb t pv lw rv key kv now av lv (numbered ((fieldF t.pairs nm).getD zeroS) fun m => addTo m n fun z => .ok (numR z, dropsS (k.map RX.pr) key now ++ [hashE key nm ⟨⟨Lib.itoa z⟩⟩])))) := by
 refine f60_calls (by simp) ?_
 intro b4 h1 g1
 have w := x.st.new g1
 have hsl := fun h2 hc => (th_lists (g.th h2 hc)).1
 obtain ⟨la, lc, rfl, _⟩ := (hsl h0 (Chg.refl _)).form
 have ln : t.pairs.length ≤ 2000 := g.t9.ps
 obtain ⟨b, o, cc, rfl⟩ := g.c.argF (by simp)
 refine Ai (fun he => absurd he (by decide)) (fun _ => ?_)
 refine Ai (fun he => absurd he (by decide)) (fun _ => ?_)
 refine Ai (fun he => absurd he (by decide)) (fun _ => ?_)
 refine Ai (fun he => absurd he (by decide)) (fun _ => ?_)
 refine Ai (fun he => absurd he (by decide)) (fun _ => ?_)
 have zk := g.ks
 have zn := g.az nm (by simp)
 have zs := g.az s (by simp)
 have n64 := numOf_in hn
 have tail : ∀ {h2 : Heap} {m items : Int}, numOf ((fieldF t.pairs nm).getD zeroS) = some m → items ≤ 65536 → St (xb :: vblk lv) h h2 [.b b4 [.int .i64 0, .int .i64 0, .string ⟨#[]⟩, .slice none 0 0], aT xb t (.slice la t.pairs.length lc) lw rv key kv now (.slice (some ⟨b, o, none⟩) [key, nm, s].length cc) lv [] noText] →
   swp Tryz.prog (.seq (.ops f60r40) (.seq (.seq (.ops f60r41) (.cond (.tmp 203) (.ops f60r42) .skip)) (.seq (.ops f60r43) .ret)))
    (retQ [.cn 4 4] (Ret (Reply9 h0 h xb t (.slice la t.pairs.length lc) lw rv key kv now (.slice (some ⟨b, o, none⟩) [key, nm, s].length cc) lv (numbered ((fieldF t.pairs nm).getD zeroS) fun m => addTo m n fun z => .ok (numR z, dropsS (k.map RX.pr) key now ++ [hashE key nm ⟨⟨Lib.itoa z⟩⟩])))))
    (mk [(0, ptr xb), (4, ptr b4), (11, .int .i64 n), (15, .int .i64 m), (17, .int .i64 items)]) [] h2 := by
  intro h2 m items hm hi w
  unfold numbered
  rw [hm]
  refine call_ret (rplus9_calls (numOf_in hm) n64 (x.out w 1 rfl).1) ?_
  rintro _ h6 (⟨ho, rfl, _, o6⟩ | ⟨ho, rfl, _, o6⟩)
  ·have w := w.own 1 rfl o6
   have z300 := itoa_300 (z := m + n) ho
   refine w.ldr9 1 rfl rfl ?_
   refine g.c.ix (x.base w) 1 rfl rfl ?_
   refine w.callqv (format_calls (hla.ext (x.base w)) ho.1 ho.2) fun h7 w => ?_
   refine call_ret (rput9_calls g.c (x.out w 1 rfl).1 (by simp) hi (by omega) (by omega) (by omega)) ?_
   rintro _ h8 ⟨rfl, lv2, _, o8⟩
   have w := w.own 1 rfl o8
   refine w.callv rInt9_calls fun h9 w => ?_
   refine w.st1 0 rfl rfl rfl rfl fun h10 w => ?_
   exact Reply9.fin x w 0 1 rfl rfl (Jd9.ok (if_pos ho))
  ·have w := w.own 1 rfl o6
   refine w.callv rInt9_calls fun h9 w => ?_
   refine w.st1 0 rfl rfl rfl rfl fun h10 w => ?_
   exact Reply9.fin x w 0 1 rfl rfl (Jd9.no (why := wOver) (by decide) (if_neg ho))
 refine w.ldr9 1 rfl rfl ?_
 refine g.c.ix (x.base w) 2 rfl rfl ?_
 refine callp (rnum_some (by omega) hn) ?_
 refine w.ldr9 1 rfl rfl ?_
 refine g.c.ix (x.base w) 1 rfl rfl ?_
 refine call_ret (rfield_calls (x.out w 1 rfl).1 g) ?_
 rintro _ h2 ⟨hr, e⟩
 have e := e.symm
 subst e
 rcases hr with ⟨hf, rfl⟩ | ⟨v, hf, rfl⟩
 ·refine w.ldr9 1 rfl rfl ?_
  refine Ai rfl (fun z hz => ?_)
  have hz := add_in hz (by omega) (by omega)
  subst hz
  refine cut_at [(0, ptr xb), (4, ptr b4), (11, .int .i64 n), (14, .bool false), (15, .int .i64 0), (16, .bool true), (17, .int .i64 ((t.pairs.length + 1 : Nat) : Int))] ⟨rfl, rfl, rfl, rfl, rfl, rfl, rfl, trivial⟩ ?_
  refine ass_go ?_
  refine mv_go (v := .bool false) rfl ?_
  refine cnd_go (t := false) rfl ?_
  refine skp_go ?_
  refine ass_go ?_
  refine not_go (v := true) rfl rfl ?_
  refine cnd_go (t := false) rfl ?_
  refine skp_go ?_
  exact cut_at [(0, ptr xb), (4, ptr b4), (11, .int .i64 n), (15, .int .i64 0), (17, .int .i64 ((t.pairs.length + 1 : Nat) : Int))] ⟨rfl, rfl, rfl, rfl, rfl, trivial⟩ (tail (by rw [hf]; kernel_rfl) (by omega) w)
 ·refine w.ldr9 1 rfl rfl ?_
  refine Ai rfl (fun z hz => ?_)
  have hz := add_in hz (by omega) (by omega)
  subst hz
  refine Ai rfl (fun z hz => ?_)
  have hz : z = (t.pairs.length : Int) := hz.trans ((wrap_in (by omega) (by omega)).trans (by omega))
  subst hz
  have hv : v.size < 4611686018427387904 := by
   unfold fieldF at hf
   cases hp : t.pairs.find? (fun p => decide (p.name = nm)) with
   |none => rw [hp] at hf; cases hf
   |some p =>
    rw [hp] at hf
    have := g.t9.pt p (List.mem_of_find?_eq_some hp)
    rw [← Option.some.inj hf]
    omega
  cases hm : numOf v with
  |none =>
   refine callp (show CallsH _ _ _ _ (Ret fun r h' => r = .tuple #[.int .i64 0, .bool false] ∧ h' = h1) by have := rnum89_calls (h := h1) hv; rwa [hm] at this) ?_
   refine w.stw9 1 rfl fun h3 w => ?_
   refine w.st1 0 rfl rfl rfl rfl fun h4 w => ?_
   refine Reply9.fin (a := 0) (m := 0) (s := noText) x w 0 1 rfl rfl (Jd9.no (why := wNum) (by decide) ?_)
   unfold numbered
   rw [hf, show (some v).getD zeroS = v from rfl, hm]
  |some mm =>
   refine callp (rnum_some hv hm) ?_
   refine cut_at [(0, ptr xb), (4, ptr b4), (11, .int .i64 n), (15, .int .i64 mm), (16, .bool true), (17, .int .i64 (t.pairs.length : Int))] ⟨rfl, rfl, rfl, rfl, rfl, rfl, trivial⟩ ?_
   refine ass_go ?_
   refine not_go (v := true) rfl rfl ?_
   refine cnd_go (t := false) rfl ?_
   refine skp_go ?_
   exact cut_at [(0, ptr xb), (4, ptr b4), (11, .int .i64 n), (15, .int .i64 mm), (17, .int .i64 (t.pairs.length : Int))] ⟨rfl, rfl, rfl, rfl, rfl, trivial⟩ (tail (by rw [hf]; exact hm) (by omega) w)
end
end Go.Proofs.YtjnijlnmbjjgpaaGreatDoor
namespace Go.Proofs.YtjnijlnmbjjgpaaGreatDoor
open Go Go.Sx C
def accG (S : Space) (key : ByteArray) (now : Int) (Es : List Eff) (j : Nat) : List Eff := if j = 0 then [] else dropsS S key now ++ Es.take j
theorem accG_next {S : Space} {key : ByteArray} {now : Int} {Es : List Eff} {e : Eff} {j : Nat} (hj : Es[j]? = some e) : preL S key now (accG S key now Es j) ++ [e] = accG S key now Es (j + 1) := by
 obtain ⟨hlt, he⟩ := List.getElem?_eq_some_iff.1 hj
 unfold accG preL
 rw [if_neg (by omega : ¬ j + 1 = 0), List.take_succ_eq_append_getElem hlt, he]
 cases j with
 |zero => simp
 |succ j =>
  have h1 : ¬ (j + 1 = 0) := by omega
  have h2 : ¬ ((dropsS S key now ++ Es.take (j + 1)).length = 0) := by rw [List.length_append, List.length_take]; omega
  rw [if_neg h1, if_neg h2, List.append_assoc]
theorem accG_len {S : Space} {key : ByteArray} {now : Int} {Es : List Eff} {j : Nat} (hl : Es.length ≤ 20) : (accG S key now Es j).length ≤ 100 := by
 unfold accG
 have := drops_len S key now
 split
 ·simp
 ·simp only [List.length_append, List.length_take]; omega
section
variable {h0 h h1 h' : Heap} {xb i : Nat} {now n m : Int} {kv av lv pv lw rv : Value} {k : List RX} {A l : List ByteArray} {L E : List Eff} {why key s u nm : ByteArray} {t : Thing} {M : List En} {T : List Nat} {res : Res}
theorem twos_fst {q : Nat} (h : 2 * q + 1 < l.length) : ((twos l).map Prod.fst)[q]? = some l[2 * q] := by
 rw [List.getElem?_map, twos_get h]; rfl
theorem ahead2_in {q : Nat} (hq : 2 * q + 1 < l.length) (h : ∃ j, 1 + j * 2 < 1 + q * 2 ∧ (key :: l)[1 + j * 2]? = (key :: l)[1 + q * 2]?) : l[2 * q] ∈ ((twos l).map Prod.fst).take q := by
 obtain ⟨j, h1, h2⟩ := h
 have e : 1 + j * 2 = 2 * j + 1 := by omega
 have e' : 1 + q * 2 = 2 * q + 1 := by omega
 rw [e, e', List.getElem?_cons_succ, List.getElem?_cons_succ, List.getElem?_eq_getElem (by omega), List.getElem?_eq_getElem (by omega)] at h2
 rw [← Option.some.inj h2]
 refine List.mem_iff_getElem?.2 ⟨j, ?_⟩
 rw [List.getElem?_take_of_lt (by omega), twos_fst (by omega)]
theorem ahead2_no {q : Nat} (hq : 2 * q + 1 < l.length) (h : ∀ j, 1 + j * 2 < 1 + q * 2 → (key :: l)[1 + j * 2]? ≠ (key :: l)[1 + q * 2]?) : l[2 * q] ∉ ((twos l).map Prod.fst).take q := by
 intro hm
 obtain ⟨j, he⟩ := List.mem_iff_getElem?.1 hm
 have hj : j < q := by
  obtain ⟨hlt, _⟩ := List.getElem?_eq_some_iff.1 he
  rw [List.length_take] at hlt
  omega
 rw [List.getElem?_take_of_lt hj, twos_fst (by omega)] at he
 refine h j (by omega) ?_
 have e : 1 + j * 2 = 2 * j + 1 := by omega
 have e' : 1 + q * 2 = 2 * q + 1 := by omega
 rw [e, e', List.getElem?_cons_succ, List.getElem?_cons_succ, List.getElem?_eq_getElem (by omega), List.getElem?_eq_getElem (by omega), Option.some.inj he]
set_option maxHeartbeats 2000000 in
theorem rhset_calls (x : As h0 h (aT xb t pv lw rv key kv now av lv [] noText)) (g : RG9 h0 kv k av (key :: l) key t pv lw rv) (h2 : 2 ≤ l.length) (hev : l.length % 2 = 0) : CallsH Tryz.prog 60 [ptr xb, .string ⟨#[72, 83, 69, 84]⟩] h
  (Ret (Reply9 h0 h xb t pv lw rv key kv now av lv (.ok (numR (newL (thereH t.pairs) [] ((twos l).map Prod.fst)).length, dropsS (k.map RX.pr) key now ++ (twos l).map fun p => hashE key p.1 p.2)))) := by
 have al := g.al
 simp only [List.length_cons] at al
 obtain ⟨b, o, cc, rfl⟩ := g.c.argF (by simp)
 refine f60_calls (by simp) ?_
 intro b4 h1 g1
 have w := x.st.new g1
 have hsl := fun h2 hc => (th_lists (g.th h2 hc)).1
 obtain ⟨la, lc, rfl, _⟩ := (hsl h0 (Chg.refl _)).form
 have ln : t.pairs.length ≤ 2000 := g.t9.ps
 have zk := g.ks
 obtain ⟨N, hN⟩ : ∃ N, N = (twos l).map Prod.fst := ⟨_, rfl⟩
 obtain ⟨Es, hEs⟩ : ∃ Es, Es = (twos l).map fun p => hashE key p.1 p.2 := ⟨_, rfl⟩
 have hhalf := twos_half (Nat.le_refl l.length)
 have hNl : N.length = (twos l).length := by rw [hN]; exact List.length_map _
 have hEl : Es.length = (twos l).length := by rw [hEs]; exact List.length_map _
 have hnl : ∀ q, (newL (thereH t.pairs) [] (N.take q)).length ≤ 20 := fun q => by
  have := newL_len (th := thereH t.pairs) (l := N.take q) (pre := [])
  rw [List.length_take] at this
  omega
 rw [← hN, ← hEs]
 refine Ai (fun _ => ?_) (fun he => absurd rfl he)
 refine loop_intro (fun q : Nat × Value => [(0, ptr xb), (4, ptr b4), (5, .int .i64 ((newL (thereH t.pairs) [] (N.take q.1)).length : Nat)), (6, .int .i64 ((1 + q.1 * 2 : Nat) : Int))])
  (fun q h' => 2 * q.1 ≤ l.length ∧ St (xb :: vblk lv) h h' [.b b4 [.int .i64 0, .int .i64 0, .string ⟨#[]⟩, .slice none 0 0], aT xb t (.slice la t.pairs.length lc) lw rv key kv now (.slice (some ⟨b, o, none⟩) (key :: l).length cc) q.2 (accG (k.map RX.pr) key now Es q.1) noText])
  (fun q => l.length - 2 * q.1) (0, lv) ⟨rfl, rfl, rfl, rfl, trivial⟩ ⟨Nat.zero_le _, w⟩ ?_
 rintro ⟨q, lq⟩ h4 ⟨hq, w⟩
 have hq : 2 * q ≤ l.length := hq
 have hn4 := hnl q
 have hn5 : (newL (thereH t.pairs) [] (N.take (q, lq).1)).length ≤ 20 := hn4
 have la2 := accG_len (S := k.map RX.pr) (key := key) (now := now) (Es := Es) (j := q) (by omega)
 have w : St (xb :: vblk lv) h h4 [.b b4 [.int .i64 0, .int .i64 0, .string ⟨#[]⟩, .slice none 0 0], aT xb t (.slice la t.pairs.length lc) lw rv key kv now (.slice (some ⟨b, o, none⟩) (key :: l).length cc) lq (accG (k.map RX.pr) key now Es q) noText] := w
 refine w.ldr9 1 rfl rfl ?_
 refine Ai rfl (Ai (fun hlt => ?_) (fun hge => ?_))
 ·have hlt : 2 * q + 1 < l.length := by simp only [List.length_cons] at hlt; omega
  have hNq : N[q]? = some l[2 * q] := by have e := twos_fst hlt; rw [← hN] at e; exact e
  have hNlt : q < N.length := (List.getElem?_eq_some_iff.1 hNq).1
  have hNe : N[q] = l[2 * q] := (List.getElem?_eq_some_iff.1 hNq).2
  have hEq : Es[q]? = some ⟨5, key, l[2 * q], l[2 * q + 1], 0⟩ := by
   have e : ((twos l).map fun p => hashE key p.1 p.2)[q]? = some (hashE key l[2 * q] l[2 * q + 1]) := by rw [List.getElem?_map, twos_get hlt]; rfl
   rw [← hEs] at e; exact e
  have hA1 : (key :: l)[1 + q * 2]? = some l[2 * q] := by rw [show 1 + q * 2 = 2 * q + 1 by omega, List.getElem?_cons_succ, List.getElem?_eq_getElem (by omega)]
  have hA2 : (key :: l)[1 + q * 2 + 1]? = some l[2 * q + 1] := by rw [show 1 + q * 2 + 1 = (2 * q + 1) + 1 by omega, List.getElem?_cons_succ, List.getElem?_eq_getElem hlt]
  have zn := g.az l[2 * q] (List.mem_cons_of_mem _ (List.getElem_mem _))
  have zt := g.az l[2 * q + 1] (List.mem_cons_of_mem _ (List.getElem_mem _))
  have ain := ahead2_in (key := key) hlt
  have ano := ahead2_no (key := key) hlt
  rw [← hN] at ain ano
  have hsn := newL_snoc (th := thereH t.pairs) hNlt
  rw [hNe] at hsn
  refine w.ldr9 1 rfl rfl ?_
  refine g.c.ix (x.base w) (1 + q * 2) rfl hA1 ?_
  refine call_ret (rthere2_calls (x.out w 1 rfl).1 g) ?_
  rintro _ h5 ⟨hr, e5⟩
  have e5 := e5.symm
  subst e5
  have same : (!thereH t.pairs l[2 * q] && decide (l[2 * q] ∉ N.take q)) = false → (newL (thereH t.pairs) [] (N.take (q + 1))).length = (newL (thereH t.pairs) [] (N.take q)).length := fun hc => by rw [hsn, hc, if_neg (by decide), List.append_nil]
  rcases hr with ⟨hf, rfl⟩ | ⟨hf, rfl⟩
  ·refine call_ret (rahead_calls (p := 1 + q * 2) (f0 := 1) (st := 2) (x.out w 1 rfl).1 g.c (by simp only [List.length_cons]; omega) (by simp only [List.length_cons]; omega) (by omega) (Nat.le_refl _)) ?_
   rintro _ h6 ⟨hr, e6⟩
   have e6 := e6.symm
   subst e6
   rcases hr with ⟨ha, rfl⟩ | ⟨ha, rfl⟩
   ·have hc : (!thereH t.pairs l[2 * q] && decide (l[2 * q] ∉ N.take q)) = true := by rw [hf, decide_eq_true (ano ha)]; rfl
    have hln : (newL (thereH t.pairs) [] (N.take (q + 1))).length = (newL (thereH t.pairs) [] (N.take q)).length + 1 := by rw [hsn, hc, if_pos rfl]; simp
    refine Ai rfl (fun z hz => ?_)
    have hz := add_in hz (by omega) (by omega)
    subst hz
    refine w.ldr9 1 rfl rfl ?_
    refine g.c.ix (x.base w) (1 + q * 2) rfl hA1 ?_
    refine w.ldr9 1 rfl rfl ?_
    refine Ai rfl (fun z hz => ?_)
    have hz := add_in hz (by omega) (by omega)
    subst hz
    refine g.c.ix (x.base w) (1 + q * 2 + 1) rfl hA2 ?_
    refine w.ldr9 1 rfl rfl ?_
    refine Ai rfl (fun z hz => ?_)
    have hz : z = (t.pairs.length : Int) + (((newL (thereH t.pairs) [] (N.take q)).length + 1 : Nat) : Int) := hz.trans (wrap_in (by omega) (by omega))
    subst hz
    refine call_ret (rput9_calls g.c (x.out w 1 rfl).1 (Nat.le_trans la2 (by omega)) (by omega) (by omega) (by omega) (by omega)) ?_
    rintro _ h6 ⟨rfl, lv2, _, o6⟩
    have w := w.own 1 rfl o6
    rw [accG_next hEq] at w
    refine Ai rfl (fun z hz => ?_)
    have hz : z = ((1 + (q + 1) * 2 : Nat) : Int) := (hz.trans (wrap_in (by omega) (by omega))).trans (by omega)
    subst hz
    exact Ai rfl (Ei (q + 1, _) (Ai ⟨rfl, rfl, by rw [hln]; rfl, rfl, trivial⟩ (Ai ⟨by show 2 * (q + 1) ≤ _; omega, w⟩ (by simp only; omega))))
   ·have hln := same (by rw [decide_eq_false (fun hn => hn (ain ha)), Bool.and_false])
    refine w.ldr9 1 rfl rfl ?_
    refine g.c.ix (x.base w) (1 + q * 2) rfl hA1 ?_
    refine w.ldr9 1 rfl rfl ?_
    refine Ai rfl (fun z hz => ?_)
    have hz := add_in hz (by omega) (by omega)
    subst hz
    refine g.c.ix (x.base w) (1 + q * 2 + 1) rfl hA2 ?_
    refine w.ldr9 1 rfl rfl ?_
    refine Ai rfl (fun z hz => ?_)
    have hz : z = (t.pairs.length : Int) + (((newL (thereH t.pairs) [] (N.take q)).length : Nat) : Int) := hz.trans (wrap_in (by omega) (by omega))
    subst hz
    refine call_ret (rput9_calls g.c (x.out w 1 rfl).1 (Nat.le_trans la2 (by omega)) (by omega) (by omega) (by omega) (by omega)) ?_
    rintro _ h6 ⟨rfl, lv2, _, o6⟩
    have w := w.own 1 rfl o6
    rw [accG_next hEq] at w
    refine Ai rfl (fun z hz => ?_)
    have hz : z = ((1 + (q + 1) * 2 : Nat) : Int) := (hz.trans (wrap_in (by omega) (by omega))).trans (by omega)
    subst hz
    exact Ai rfl (Ei (q + 1, _) (Ai ⟨rfl, rfl, by rw [hln]; rfl, rfl, trivial⟩ (Ai ⟨by show 2 * (q + 1) ≤ _; omega, w⟩ (by simp only; omega))))
  ·have hln := same (by rw [hf]; rfl)
   refine w.ldr9 1 rfl rfl ?_
   refine g.c.ix (x.base w) (1 + q * 2) rfl hA1 ?_
   refine w.ldr9 1 rfl rfl ?_
   refine Ai rfl (fun z hz => ?_)
   have hz := add_in hz (by omega) (by omega)
   subst hz
   refine g.c.ix (x.base w) (1 + q * 2 + 1) rfl hA2 ?_
   refine w.ldr9 1 rfl rfl ?_
   refine Ai rfl (fun z hz => ?_)
   have hz : z = (t.pairs.length : Int) + (((newL (thereH t.pairs) [] (N.take q)).length : Nat) : Int) := hz.trans (wrap_in (by omega) (by omega))
   subst hz
   refine call_ret (rput9_calls g.c (x.out w 1 rfl).1 (Nat.le_trans la2 (by omega)) (by omega) (by omega) (by omega) (by omega)) ?_
   rintro _ h6 ⟨rfl, lv2, _, o6⟩
   have w := w.own 1 rfl o6
   rw [accG_next hEq] at w
   refine Ai rfl (fun z hz => ?_)
   have hz : z = ((1 + (q + 1) * 2 : Nat) : Int) := (hz.trans (wrap_in (by omega) (by omega))).trans (by omega)
   subst hz
   exact Ai rfl (Ei (q + 1, _) (Ai ⟨rfl, rfl, by rw [hln]; rfl, rfl, trivial⟩ (Ai ⟨by show 2 * (q + 1) ≤ _; omega, w⟩ (by simp only; omega))))
 ·have hkl : 2 * q = l.length := by simp only [List.length_cons] at hge; omega
  have hqN : N.length ≤ q := by omega
  have hqE : Es.length ≤ q := by omega
  refine w.callv rInt9_calls fun h6 w => ?_
  refine w.st1 0 rfl rfl rfl rfl fun h7 w => ?_
  exact Reply9.fin x w 0 1 rfl rfl (Jd9.ok (by unfold accG; rw [if_neg (by omega), List.take_of_length_le hqN, List.take_of_length_le hqE]; rfl))
end
end Go.Proofs.YtjnijlnmbjjgpaaGreatDoor
namespace Go.Proofs.YtjnijlnmbjjgpaaGreatDoor
open Go Go.Sx C
set_option maxHeartbeats 1000000 in
theorem rdoH_calls {h : Heap} {kv av : Value} {k : List RX} {now lo hi wh : Int} {w N : ByteArray} {A : List ByteArray} {res : Res} (hsl : SL encX h kv k) (hgx : GX h k) (hup : UpX k) (hlen : k.length < 4611686018427387904) (hfit : KeysFit k)
  (hA : SL encS h av (w :: A)) (hal : A.length + 1 ≤ 20) (hzw : w.size ≤ 300) (hz : ∀ s ∈ A, s.size ≤ 300) (hN : up w = N) (hb : BoundR9 N lo hi 2 wh) (hlo : 1 ≤ lo) (hn1 : N ≠ qHSET) (hn2 : N ≠ qZADD) (hn3 : N ≠ qSINTER)
  (hout : ¬ (lo ≤ A.length ∧ (A.length : Int) ≤ hi) → res = .error wArgs)
  (hnum : lo ≤ A.length → (A.length : Int) ≤ hi → (∃ j, 1 ≤ j ∧ j < A.length ∧ need9 wh j ∧ (A[j]?.bind numOf) = none) → res = .error wNum)
  (hkd : lo ≤ A.length → (A.length : Int) ≤ hi → NumsOk wh A → ∀ key, A[0]? = some key → okK 2 (getS (k.map RX.pr) key now) = false → res = .error wType)
  (ht9 : ∀ key, T9 ((getS (k.map RX.pr) key now).getD zeroT))
  (hf : ∀ {h1 : Heap} {xb : Nat} {av' pv lw rv : Value} {key : ByteArray}, A[0]? = some key → lo ≤ A.length → (A.length : Int) ≤ hi → NumsOk wh A → okK 2 (getS (k.map RX.pr) key now) = true → RG9 h kv k av' A key ((getS (k.map RX.pr) key now).getD zeroT) pv lw rv →
   As h h1 (aT xb ((getS (k.map RX.pr) key now).getD zeroT) pv lw rv key kv now av' (.slice none 0 0) [] noText) →
   CallsH Tryz.prog 60 [ptr xb, .string N] h1 (Ret (Reply9 h h1 xb ((getS (k.map RX.pr) key now).getD zeroT) pv lw rv key kv now av' (.slice none 0 0) res))) :
  CallsH Tryz.prog 31 [kv, .int .i64 now, av] h (Ret (DoR h res)) := by
 obtain ⟨ka, kc, rfl, _⟩ := hsl.form
 obtain ⟨a, cc, rfl, hcc⟩ := hA.form
 obtain ⟨b0, o0, rfl⟩ := hA.addr (by simp)
 have hl : (w :: A).length ≤ 20 := hal
 refine f31_calls (by simp) ?_
 intro b6 h1 g1
 have w1 := (St.start h).new g1
 refine Ai rfl (Ai (fun h0 => absurd h0 (by simp; omega)) (fun _ => ?_))
 have hc0 := (hA.ext w1.chg).cells encS_len (i := 0) (x := w) (by simp)
 refine Ai (by decide) (Ai (by simp) (Ei _ (Ai (by simpa using hc0 0 _ rfl) ?_)))
 refine w1.callv (rword_calls (by omega)) fun h2 w2 => ?_
 rw [hN]
 refine callp (hb h2) ?_
 refine Ai (by decide) (Ai (by simp only [List.length_cons]; omega) (Ai (by omega) ?_))
 refine sl_slc (lo := 1) (hi := (w :: A).length) encS_len (hA.ext w2.chg) (by simp) (Nat.le_refl _) fun v1 hv1 => ?_
 have e1 : ((w :: A).drop 1).take ((w :: A).length - 1) = A := by simp
 rw [e1] at hv1
 obtain ⟨a1, cc1, rfl, hcc1⟩ := (hv1 h hA).form
 intro xb h5 g5
 have w5 := w2.new g5
 have z2 := w2.chg.size
 have i5 := g5.id
 have c : RC9 h (.slice ka k.length kc) k (.slice a1 A.length cc1) A := ⟨hsl, hgx, hup, hlen, hfit, fun h' hc => hv1 h' (hA.ext hc)⟩
 have nomem : xb ∉ vblk (.slice none 0 0) := fun hm => (nomatch (show xb ∈ ([] : List Nat) from hm))
 have w : St [] h h5 [aT xb zeroT (.slice none 0 0) (.slice none 0 0) (.slice none 0 0) noText (.slice ka k.length kc) now (.slice a1 A.length cc1) (.slice none 0 0) [] noText, .b b6 [.int .i64 0, .int .i64 0, .string ⟨#[]⟩, .slice none 0 0]] :=
  w5.set 0 rfl (Chg.refl _) (by simp) ⟨w5.get 0 rfl, OL.nil, nomem⟩ (fun b hb => by
   rcases List.mem_cons.1 hb with rfl | hb
   ·exact .inl (by simp [En.fp])
   ·exact (nomatch (show b ∈ ([] : List Nat) from hb)))
 refine call_ret (rmany9_calls c (w.as 0 rfl)) ?_
 rintro _ h6 (⟨m1, m2, rfl, _, o6⟩ | ⟨mn, rfl, _, o6⟩)
 rotate_left
 ·have w := w.own 0 rfl o6
  refine w.ldr9 0 rfl rfl ?_
  refine w.callv rFail9_calls fun h7 w => ?_
  refine w.st1 1 rfl rfl rfl rfl fun h8 w => ?_
  rw [hout mn]
  exact ⟨_, rfl, cells_blk (w.get 1 rfl), w.chg, rfl⟩
 have w := w.own 0 rfl o6
 refine Ai (fun he => absurd he hn1) (fun _ => ?_)
 refine Ai (fun he => absurd he hn2) (fun _ => ?_)
 refine call_ret (rnums9_calls c (w.as 0 rfl) (by omega) hz) ?_
 rintro _ h7 (⟨hall, rfl, _, o7⟩ | ⟨hbad, rfl, _, o7⟩)
 rotate_left
 ·have w := w.own 0 rfl o7
  refine w.ldr9 0 rfl rfl ?_
  refine w.callv rFail9_calls fun h8 w => ?_
  refine w.st1 1 rfl rfl rfl rfl fun h9 w => ?_
  rw [hnum m1 m2 hbad]
  exact ⟨_, rfl, cells_blk (w.get 1 rfl), w.chg, rfl⟩
 have w := w.own 0 rfl o7
 have hpos : 0 < A.length := by omega
 obtain ⟨key, hkey⟩ : ∃ key, A[0]? = some key := ⟨_, List.getElem?_eq_getElem hpos⟩
 have hks : key.size ≤ 300 := hz key (List.mem_of_getElem? hkey)
 obtain ⟨b1, o1, cc2, he1⟩ := c.argF hpos
 obtain ⟨rfl, _, rfl⟩ := Value.slice.inj he1
 refine w.ldr9 0 rfl rfl ?_
 refine c.ix (w.chg) 0 rfl hkey ?_
 refine w.stK9 0 rfl fun h8 w => ?_
 intro b17 h9 g9
 have w := w.new g9
 refine Ai (fun he => absurd he hn3) (fun _ => ?_)
 refine call_ret (rof9_calls (kd := 2) c (w.as 1 rfl) (by omega)) ?_
 rintro _ h10 ⟨pv, lw, rv, rfl, hth, _, o10⟩
 have w := w.own 1 rfl o10
 have l6 : b6 < h10.size := (show Blk h10 b6 _ from w.get 2 rfl).lt
 have l17 : b17 < h10.size := (show Blk h10 b17 _ from w.get 0 rfl).lt
 have fail : ∀ {h' : Heap} {why : ByteArray} {t' : Thing} {pv' lw' rv' lv' : Value} {key' : ByteArray} {E : List Eff} {r17 : List Value}, why ≠ noText → res = .error why → St [] h h' [.b b17 r17, aT xb t' pv' lw' rv' key' (.slice ka k.length kc) now (.slice (some ⟨b1, o1, none⟩) A.length cc1) lv' E why, .b b6 [.int .i64 0, .int .i64 0, .string ⟨#[]⟩, .slice none 0 0]] →
   swp Tryz.prog (.seq (.seq (.ops f31r28) (.cond (.tmp 130) (.seq (.ops f31r29) .ret) .skip)) (.seq (.two f31p30 f31r30 f31s30) .ret)) (retQ [.cn 6 4, .t 7, .t 8] (Ret (DoR h res))) (mk [(6, ptr b6), (15, ptr xb), (17, ptr b17)]) [] h' := by
  intro h' why t' pv' lw' rv' lv' key' E r17 hw hr w
  refine w.ldr9 1 rfl rfl ?_
  refine Ai (fun _ => ?_) (fun h9 => absurd (fun e => hw e) h9)
  refine w.ldr9 1 rfl rfl ?_
  refine w.callv rFail9_calls fun h10 w => ?_
  refine w.st1 2 rfl rfl rfl rfl fun h11 w => ?_
  rw [hr]
  exact ⟨_, rfl, cells_blk (w.get 2 rfl), w.chg, rfl⟩
 cases hok : okK 2 (getS (k.map RX.pr) key now) with
 |false =>
  rw [hok] at w
  exact cut_at [(6, ptr b6), (15, ptr xb), (17, ptr b17)] ⟨rfl, rfl, rfl, trivial⟩ (fail (why := wType) (by decide) (hkd m1 m2 hall key hkey hok) w)
 |true =>
  rw [hok] at w
  refine Ai rfl (Ai (fun _ => ?_) (fun he => absurd rfl he))
  refine call_ret (hf hkey m1 m2 hall hok ⟨c, hth, ht9 key, hks, hz, by omega⟩ (w.as 1 rfl)) ?_
  rintro _ h11 ⟨q, lv', E, why, ⟨ra, rn, rc, rfl, sl, fr⟩, ⟨t', pv', lw', rv', key', _, o11⟩, hd⟩
  have w := w.own 1 rfl o11
  refine w.st2 0 rfl rfl rfl rfl fun h12 w k12 => ?_
  have sl12 : SL encQ h12 (.slice ra rn rc) q.l := sl.chg k12 (fun b hb => by have := fr b hb; simp; omega)
  rcases hd with ⟨rfl, hd⟩ | ⟨hne, hd⟩
  ·refine w.ldr9 1 rfl rfl ?_
   refine Ai (fun h9 => absurd rfl h9) (fun _ => ?_)
   obtain ⟨la, lc, rfl⟩ := w.rform9 1 rfl
   have fin : ∀ {h' : Heap}, St [] h h' [.b b17 [.int .i64 q.k, .int .i64 q.i, .string q.s, .slice ra rn rc], aT xb t' pv' lw' rv' key' (.slice ka k.length kc) now (.slice (some ⟨b1, o1, none⟩) A.length cc1) (.slice la E.length lc) E noText, .b b6 [.int .i64 q.k, .int .i64 q.i, .string q.s, .slice ra rn rc]] → Chg [b6] h12 h' →
     ∃ vs, vs.length = 4 ∧ Cells h' b6 0 vs ∧ DoR h res (.tuple ⟨[.agg ⟨vs⟩, .slice la E.length lc, .bool true]⟩) h' := fun w k => by
    rw [hd]
    refine ⟨_, rfl, cells_blk (w.get 2 rfl), w.chg, _, _, rfl, ⟨ra, rn, rc, rfl, sl12.chg k (fun b hb => by have := fr b hb; simp; omega), fun _ _ => Nat.zero_le _⟩, (w.get 1 rfl).2.1.sl, fun b hb => ?_⟩
    rcases (w.ents 1 _ rfl).2 b (List.mem_cons_of_mem _ hb) with h1 | h1
    ·cases h1
    ·exact h1
   refine w.ldw 0 rfl rfl ?_
   refine Ai ?_ ?_
   ·refine w.ldr9 1 rfl rfl ?_
    refine w.st2 2 rfl rfl rfl rfl fun h13 w k13 => ?_
    exact fin w k13
   ·refine w.st2 2 rfl rfl rfl rfl fun h13 w k13 => ?_
    refine w.ldr9 1 rfl rfl ?_
    exact fin w k13
  ·exact cut_at [(6, ptr b6), (15, ptr xb), (17, ptr b17)] ⟨rfl, rfl, rfl, trivial⟩ (fail hne hd w)
set_option maxHeartbeats 1000000 in
theorem rdoHp_calls {h : Heap} {kv av : Value} {k : List RX} {now lo hi wh : Int} {w N : ByteArray} {A : List ByteArray} {res : Res} (hsl : SL encX h kv k) (hgx : GX h k) (hup : UpX k) (hlen : k.length < 4611686018427387904) (hfit : KeysFit k)
  (hA : SL encS h av (w :: A)) (hal : A.length + 1 ≤ 20) (hzw : w.size ≤ 300) (hz : ∀ s ∈ A, s.size ≤ 300) (hN : up w = N) (hb : BoundR9 N lo hi 2 wh) (_hlo : 1 ≤ lo) (hNe : N = qHSET) (hpar : lo ≤ A.length → (A.length : Int) ≤ hi → A.length % 2 = 0 → res = .error wArgs)
  (hout : ¬ (lo ≤ A.length ∧ (A.length : Int) ≤ hi) → res = .error wArgs)
  (hnum : lo ≤ A.length → (A.length : Int) ≤ hi → A.length % 2 = 1 → (∃ j, 1 ≤ j ∧ j < A.length ∧ need9 wh j ∧ (A[j]?.bind numOf) = none) → res = .error wNum)
  (hkd : lo ≤ A.length → (A.length : Int) ≤ hi → A.length % 2 = 1 → NumsOk wh A → ∀ key, A[0]? = some key → okK 2 (getS (k.map RX.pr) key now) = false → res = .error wType)
  (ht9 : ∀ key, T9 ((getS (k.map RX.pr) key now).getD zeroT))
  (hf : ∀ {h1 : Heap} {xb : Nat} {av' pv lw rv : Value} {key : ByteArray}, A[0]? = some key → lo ≤ A.length → (A.length : Int) ≤ hi → A.length % 2 = 1 → NumsOk wh A → okK 2 (getS (k.map RX.pr) key now) = true → RG9 h kv k av' A key ((getS (k.map RX.pr) key now).getD zeroT) pv lw rv →
   As h h1 (aT xb ((getS (k.map RX.pr) key now).getD zeroT) pv lw rv key kv now av' (.slice none 0 0) [] noText) →
   CallsH Tryz.prog 60 [ptr xb, .string N] h1 (Ret (Reply9 h h1 xb ((getS (k.map RX.pr) key now).getD zeroT) pv lw rv key kv now av' (.slice none 0 0) res))) :
  CallsH Tryz.prog 31 [kv, .int .i64 now, av] h (Ret (DoR h res)) := by
 obtain ⟨ka, kc, rfl, _⟩ := hsl.form
 obtain ⟨a, cc, rfl, hcc⟩ := hA.form
 obtain ⟨b0, o0, rfl⟩ := hA.addr (by simp)
 have hl : (w :: A).length ≤ 20 := hal
 refine f31_calls (by simp) ?_
 intro b6 h1 g1
 have w1 := (St.start h).new g1
 refine Ai rfl (Ai (fun h0 => absurd h0 (by simp; omega)) (fun _ => ?_))
 have hc0 := (hA.ext w1.chg).cells encS_len (i := 0) (x := w) (by simp)
 refine Ai (by decide) (Ai (by simp) (Ei _ (Ai (by simpa using hc0 0 _ rfl) ?_)))
 refine w1.callv (rword_calls (by omega)) fun h2 w2 => ?_
 rw [hN]
 refine callp (hb h2) ?_
 refine Ai (by decide) (Ai (by simp only [List.length_cons]; omega) (Ai (by omega) ?_))
 refine sl_slc (lo := 1) (hi := (w :: A).length) encS_len (hA.ext w2.chg) (by simp) (Nat.le_refl _) fun v1 hv1 => ?_
 have e1 : ((w :: A).drop 1).take ((w :: A).length - 1) = A := by simp
 rw [e1] at hv1
 obtain ⟨a1, cc1, rfl, hcc1⟩ := (hv1 h hA).form
 intro xb h5 g5
 have w5 := w2.new g5
 have z2 := w2.chg.size
 have i5 := g5.id
 have c : RC9 h (.slice ka k.length kc) k (.slice a1 A.length cc1) A := ⟨hsl, hgx, hup, hlen, hfit, fun h' hc => hv1 h' (hA.ext hc)⟩
 have nomem : xb ∉ vblk (.slice none 0 0) := fun hm => (nomatch (show xb ∈ ([] : List Nat) from hm))
 have w : St [] h h5 [aT xb zeroT (.slice none 0 0) (.slice none 0 0) (.slice none 0 0) noText (.slice ka k.length kc) now (.slice a1 A.length cc1) (.slice none 0 0) [] noText, .b b6 [.int .i64 0, .int .i64 0, .string ⟨#[]⟩, .slice none 0 0]] :=
  w5.set 0 rfl (Chg.refl _) (by simp) ⟨w5.get 0 rfl, OL.nil, nomem⟩ (fun b hb => by
   rcases List.mem_cons.1 hb with rfl | hb
   ·exact .inl (by simp [En.fp])
   ·exact (nomatch (show b ∈ ([] : List Nat) from hb)))
 refine call_ret (rmany9_calls c (w.as 0 rfl)) ?_
 rintro _ h6 (⟨m1, m2, rfl, _, o6⟩ | ⟨mn, rfl, _, o6⟩)
 rotate_left
 ·have w := w.own 0 rfl o6
  refine w.ldr9 0 rfl rfl ?_
  refine w.callv rFail9_calls fun h7 w => ?_
  refine w.st1 1 rfl rfl rfl rfl fun h8 w => ?_
  rw [hout mn]
  exact ⟨_, rfl, cells_blk (w.get 1 rfl), w.chg, rfl⟩
 have w := w.own 0 rfl o6
 subst hNe
 refine Ai (fun _ => ?_) (fun he => absurd rfl he)
 refine w.ldr9 0 rfl rfl ?_
 refine Ai rfl (Ai (by decide) (fun z hz' => ?_))
 have hz' : z = ((A.length % 2 : Nat) : Int) := by rw [hz']; exact (Int.ofNat_tmod A.length 2).symm
 subst hz'
 refine Ai rfl (Ai (fun hev => ?_) (fun hodd => ?_))
 ·refine w.stw9 0 rfl fun h7 w => ?_
  refine w.ldr9 0 rfl rfl ?_
  refine w.callv rFail9_calls fun h8 w => ?_
  refine w.st1 1 rfl rfl rfl rfl fun h9 w => ?_
  rw [hpar m1 m2 (by omega)]
  exact ⟨_, rfl, cells_blk (w.get 1 rfl), w.chg, rfl⟩
 have hodd : A.length % 2 = 1 := by omega
 refine call_ret (rnums9_calls c (w.as 0 rfl) (by omega) hz) ?_
 rintro _ h7 (⟨hall, rfl, _, o7⟩ | ⟨hbad, rfl, _, o7⟩)
 rotate_left
 ·have w := w.own 0 rfl o7
  refine w.ldr9 0 rfl rfl ?_
  refine w.callv rFail9_calls fun h8 w => ?_
  refine w.st1 1 rfl rfl rfl rfl fun h9 w => ?_
  rw [hnum m1 m2 hodd hbad]
  exact ⟨_, rfl, cells_blk (w.get 1 rfl), w.chg, rfl⟩
 have w := w.own 0 rfl o7
 have hpos : 0 < A.length := by omega
 obtain ⟨key, hkey⟩ : ∃ key, A[0]? = some key := ⟨_, List.getElem?_eq_getElem hpos⟩
 have hks : key.size ≤ 300 := hz key (List.mem_of_getElem? hkey)
 obtain ⟨b1, o1, cc2, he1⟩ := c.argF hpos
 obtain ⟨rfl, _, rfl⟩ := Value.slice.inj he1
 refine w.ldr9 0 rfl rfl ?_
 refine c.ix (w.chg) 0 rfl hkey ?_
 refine w.stK9 0 rfl fun h8 w => ?_
 intro b17 h9 g9
 have w := w.new g9
 refine Ai (fun he => absurd he (by decide)) (fun _ => ?_)
 refine call_ret (rof9_calls (kd := 2) c (w.as 1 rfl) (by omega)) ?_
 rintro _ h10 ⟨pv, lw, rv, rfl, hth, _, o10⟩
 have w := w.own 1 rfl o10
 have l6 : b6 < h10.size := (show Blk h10 b6 _ from w.get 2 rfl).lt
 have l17 : b17 < h10.size := (show Blk h10 b17 _ from w.get 0 rfl).lt
 have fail : ∀ {h' : Heap} {why : ByteArray} {t' : Thing} {pv' lw' rv' lv' : Value} {key' : ByteArray} {E : List Eff} {r17 : List Value}, why ≠ noText → res = .error why → St [] h h' [.b b17 r17, aT xb t' pv' lw' rv' key' (.slice ka k.length kc) now (.slice (some ⟨b1, o1, none⟩) A.length cc1) lv' E why, .b b6 [.int .i64 0, .int .i64 0, .string ⟨#[]⟩, .slice none 0 0]] →
   swp Tryz.prog (.seq (.seq (.ops f31r28) (.cond (.tmp 130) (.seq (.ops f31r29) .ret) .skip)) (.seq (.two f31p30 f31r30 f31s30) .ret)) (retQ [.cn 6 4, .t 7, .t 8] (Ret (DoR h res))) (mk [(6, ptr b6), (15, ptr xb), (17, ptr b17)]) [] h' := by
  intro h' why t' pv' lw' rv' lv' key' E r17 hw hr w
  refine w.ldr9 1 rfl rfl ?_
  refine Ai (fun _ => ?_) (fun h9 => absurd (fun e => hw e) h9)
  refine w.ldr9 1 rfl rfl ?_
  refine w.callv rFail9_calls fun h10 w => ?_
  refine w.st1 2 rfl rfl rfl rfl fun h11 w => ?_
  rw [hr]
  exact ⟨_, rfl, cells_blk (w.get 2 rfl), w.chg, rfl⟩
 cases hok : okK 2 (getS (k.map RX.pr) key now) with
 |false =>
  rw [hok] at w
  exact cut_at [(6, ptr b6), (15, ptr xb), (17, ptr b17)] ⟨rfl, rfl, rfl, trivial⟩ (fail (why := wType) (by decide) (hkd m1 m2 hodd hall key hkey hok) w)
 |true =>
  rw [hok] at w
  refine Ai rfl (Ai (fun _ => ?_) (fun he => absurd rfl he))
  refine call_ret (hf hkey m1 m2 hodd hall hok ⟨c, hth, ht9 key, hks, hz, by omega⟩ (w.as 1 rfl)) ?_
  rintro _ h11 ⟨q, lv', E, why, ⟨ra, rn, rc, rfl, sl, fr⟩, ⟨t', pv', lw', rv', key', _, o11⟩, hd⟩
  have w := w.own 1 rfl o11
  refine w.st2 0 rfl rfl rfl rfl fun h12 w k12 => ?_
  have sl12 : SL encQ h12 (.slice ra rn rc) q.l := sl.chg k12 (fun b hb => by have := fr b hb; simp; omega)
  rcases hd with ⟨rfl, hd⟩ | ⟨hne, hd⟩
  ·refine w.ldr9 1 rfl rfl ?_
   refine Ai (fun h9 => absurd rfl h9) (fun _ => ?_)
   obtain ⟨la, lc, rfl⟩ := w.rform9 1 rfl
   have fin : ∀ {h' : Heap}, St [] h h' [.b b17 [.int .i64 q.k, .int .i64 q.i, .string q.s, .slice ra rn rc], aT xb t' pv' lw' rv' key' (.slice ka k.length kc) now (.slice (some ⟨b1, o1, none⟩) A.length cc1) (.slice la E.length lc) E noText, .b b6 [.int .i64 q.k, .int .i64 q.i, .string q.s, .slice ra rn rc]] → Chg [b6] h12 h' →
     ∃ vs, vs.length = 4 ∧ Cells h' b6 0 vs ∧ DoR h res (.tuple ⟨[.agg ⟨vs⟩, .slice la E.length lc, .bool true]⟩) h' := fun w k => by
    rw [hd]
    refine ⟨_, rfl, cells_blk (w.get 2 rfl), w.chg, _, _, rfl, ⟨ra, rn, rc, rfl, sl12.chg k (fun b hb => by have := fr b hb; simp; omega), fun _ _ => Nat.zero_le _⟩, (w.get 1 rfl).2.1.sl, fun b hb => ?_⟩
    rcases (w.ents 1 _ rfl).2 b (List.mem_cons_of_mem _ hb) with h1 | h1
    ·cases h1
    ·exact h1
   refine w.ldw 0 rfl rfl ?_
   refine Ai ?_ ?_
   ·refine w.ldr9 1 rfl rfl ?_
    refine w.st2 2 rfl rfl rfl rfl fun h13 w k13 => ?_
    exact fin w k13
   ·refine w.st2 2 rfl rfl rfl rfl fun h13 w k13 => ?_
    refine w.ldr9 1 rfl rfl ?_
    exact fin w k13
  ·exact cut_at [(6, ptr b6), (15, ptr xb), (17, ptr b17)] ⟨rfl, rfl, rfl, trivial⟩ (fail hne hd w)
theorem rb_HSET : BoundR9 qHSET 3 65536 2 0 := fun h => by
 refine f55_calls (by simp) ?_
 refine Ai (fun _ => ?_) (fun he => absurd rfl he)
 exact ⟨rfl, rfl⟩
theorem rb_HGET : BoundR9 qHGET 2 2 2 0 := fun h => by
 refine f55_calls (by simp) ?_
 refine Ai (fun he => absurd he (by decide)) (fun _ => ?_)
 refine Ai (fun _ => ?_) (fun he => absurd rfl he)
 exact ⟨rfl, rfl⟩
theorem rb_HDEL : BoundR9 qHDEL 2 65536 2 0 := fun h => by
 refine f55_calls (by simp) ?_
 refine Ai (fun he => absurd he (by decide)) (fun _ => ?_)
 refine Ai (fun he => absurd he (by decide)) (fun _ => ?_)
 refine Ai (fun _ => ?_) (fun he => absurd rfl he)
 exact ⟨rfl, rfl⟩
theorem rb_HLEN : BoundR9 qHLEN 1 1 2 0 := fun h => by
 refine f55_calls (by simp) ?_
 refine Ai (fun he => absurd he (by decide)) (fun _ => ?_)
 refine Ai (fun he => absurd he (by decide)) (fun _ => ?_)
 refine Ai (fun he => absurd he (by decide)) (fun _ => ?_)
 refine Ai (fun _ => ?_) (fun he => absurd rfl he)
 exact ⟨rfl, rfl⟩
theorem rb_HGETALL : BoundR9 qHGETALL 1 1 2 0 := fun h => by
 refine f55_calls (by simp) ?_
 refine Ai (fun he => absurd he (by decide)) (fun _ => ?_)
 refine Ai (fun he => absurd he (by decide)) (fun _ => ?_)
 refine Ai (fun he => absurd he (by decide)) (fun _ => ?_)
 refine Ai (fun he => absurd he (by decide)) (fun _ => ?_)
 refine Ai (fun _ => ?_) (fun he => absurd rfl he)
 exact ⟨rfl, rfl⟩
theorem rb_HINCRBY : BoundR9 qHINCRBY 3 3 2 2 := fun h => by
 refine f55_calls (by simp) ?_
 refine Ai (fun he => absurd he (by decide)) (fun _ => ?_)
 refine Ai (fun he => absurd he (by decide)) (fun _ => ?_)
 refine Ai (fun he => absurd he (by decide)) (fun _ => ?_)
 refine Ai (fun he => absurd he (by decide)) (fun _ => ?_)
 refine Ai (fun he => absurd he (by decide)) (fun _ => ?_)
 refine Ai (fun _ => ?_) (fun he => absurd rfl he)
 exact ⟨rfl, rfl⟩
section
variable {S : Space} {now kd : Int} {key s u nm : ByteArray} {l : List ByteArray} {f : Thing → Res} {res : Res} {r : Rep} {E : List Eff} {a b : Res}
theorem QL.add {n m : Int} {f : Int → Res} (h : ∀ z, QL (f z)) : QL (addTo n m f) := QL.ite (h _) QL.bad
def vHSET : ByteArray := ⟨#[72, 83, 69, 84]⟩
theorem byP_HSET (hln : l.length ≤ 12) (hz : ∀ a ∈ (key :: l), a.size ≤ 300) : ByP9 now (vHSET :: (key :: l)) (fun S => cHset S now (key :: l)) := by
 intro h kb sb mb c m S av kr hs s8 s9 hla ht hav
 have hA : ∀ a ∈ (key :: l : List ByteArray), a.size < 281474976710656 := fun a ha => by have := hz a ha; omega
 exact do9_calls (w := vHSET) kr hav (by simp only [List.length_cons]; omega) (by decide) (by kernel_rfl) (fun h2 ab av' hx x => hset9 ⟨kr, hs, hx⟩ s9 hA x)
theorem sh_HSET (hln : l.length ≤ 12) : ∀ S, S8 S → S9 S → Short (cHset S now (key :: l)) := fun S s8 s9 => short_of (fine_hset s8.few s9 (by simp only [List.length_cons]; omega)) (QL.ite (QL.kind (fun t ht => QL.make (by show (0 : Nat) ≤ _; omega)) s9) QL.bad)
theorem byR_HSET (hln : l.length ≤ 12) (hz : ∀ a ∈ (key :: l), a.size ≤ 300) : ByR9 now (vHSET :: (key :: l)) (fun S => cHset S now (key :: l)) := by
 intro h kv av k hsl hgx hup hlen hfit s8 s9 hla hav
 refine rdoHp_calls (N := qHSET) (A := (key :: l)) hsl hgx hup (by omega) hfit hav (by simp only [List.length_cons]; omega) (by decide) hz (by kernel_rfl) rb_HSET (by decide) rfl ?_ ?_ ?_ ?_ (fun key => s9.get key now) ?_
 ·intro m1 m2 hp
  show (if 2 ≤ l.length ∧ l.length < 65536 ∧ l.length % 2 = 0 then _ else _) = _
  rw [if_neg (fun hh => by simp only [List.length_cons] at hp; omega)]
 ·intro hh
  show (if 2 ≤ l.length ∧ l.length < 65536 ∧ l.length % 2 = 0 then _ else _) = _
  rw [if_neg (fun hc => hh ⟨by simp only [List.length_cons]; omega, by simp only [List.length_cons]; omega⟩)]
 ·rintro _ _ _ ⟨j, h1, h2, h3, _⟩
  unfold need9 at h3; omega
 ·intro m1 m2 hodd hall key' hk' hok
  obtain rfl : key = key' := Option.some.inj hk'
  have hp : 2 ≤ l.length ∧ l.length < 65536 ∧ l.length % 2 = 0 := by simp only [List.length_cons] at m1 hodd; omega
  show (if 2 ≤ l.length ∧ l.length < 65536 ∧ l.length % 2 = 0 then kindly _ _ _ _ _ else _) = _
  rw [if_pos hp, kindlyR_no hok]
 ·intro h1 xb av' pv lw rv key' hk' m1 m2 hodd hall hok g x
  obtain rfl : key = key' := Option.some.inj hk'
  have hp : 2 ≤ l.length ∧ l.length < 65536 ∧ l.length % 2 = 0 := by simp only [List.length_cons] at m1 hodd; omega
  have hl9 := g.t9.ps
  have e : cHset (k.map RX.pr) now (key :: l) = .ok (numR (newL (thereH ((getS (k.map RX.pr) key now).getD zeroT).pairs) [] ((twos l).map Prod.fst)).length, dropsS (k.map RX.pr) key now ++ (twos l).map fun p => hashE key p.1 p.2) := by
   show (if 2 ≤ l.length ∧ l.length < 65536 ∧ l.length % 2 = 0 then kindly _ _ _ _ _ else _) = _
   rw [if_pos hp, kindlyR_ok hok]
   have h3 := newL_len (th := thereH ((getS (k.map RX.pr) key now).getD zeroT).pairs) (l := (twos l).map Prod.fst) (pre := [])
   have h4 := twos_half (Nat.le_refl l.length)
   rw [List.length_map] at h3
   exact makes_ok (by omega) g.ks (all_small fun s hs => hz s (List.mem_cons_of_mem _ hs))
  have hh := rhset_calls x g hp.1 hp.2.2
  rw [← e] at hh
  exact hh
def vHGET : ByteArray := ⟨#[72, 71, 69, 84]⟩
theorem byP_HGET (hz : ∀ a ∈ [key, s], a.size ≤ 300) : ByP9 now (vHGET :: [key, s]) (fun S => cHget S now [key, s]) := by
 intro h kb sb mb c m S av kr hs s8 s9 hla ht hav
 have hA : ∀ a ∈ ([key, s] : List ByteArray), a.size < 281474976710656 := fun a ha => by have := hz a ha; omega
 exact do9_calls (w := vHGET) kr hav (by simp only [List.length_cons, List.length_nil]; omega) (by decide) (by kernel_rfl) (fun h2 ab av' hx x => hget9 ⟨kr, hs, hx⟩ s9 x)
theorem sh_HGET : ∀ S, S8 S → S9 S → Short (cHget S now [key, s]) := fun S s8 s9 => short_of (fine_hget) (by simp only [cHget, arg2]; exact QL.kind (fun t ht => by split <;> exact QL.one (by show (0 : Nat) ≤ _; omega)) s9)
theorem byR_HGET (hz : ∀ a ∈ [key, s], a.size ≤ 300) : ByR9 now (vHGET :: [key, s]) (fun S => cHget S now [key, s]) := by
 intro h kv av k hsl hgx hup hlen hfit s8 s9 hla hav
 refine rdoH_calls (N := qHGET) (A := [key, s]) hsl hgx hup (by omega) hfit hav (by simp only [List.length_cons, List.length_nil]; omega) (by decide) hz (by kernel_rfl) rb_HGET (by decide) (by decide) (by decide) (by decide) ?_ ?_ ?_ (fun key => s9.get key now) ?_
 ·intro hh; exact absurd ⟨by simp, by simp⟩ hh
 ·rintro _ _ ⟨j, h1, h2, h3, _⟩
  unfold need9 at h3; simp at h2; omega
 ·intro m1 m2 hall key' hk' hok
  obtain rfl : key = key' := Option.some.inj hk'
  simp only [cHget, arg2, kindlyR_no hok]
 ·intro h1 xb av' pv lw rv key' hk' m1 m2 hall hok g x
  obtain rfl : key = key' := Option.some.inj hk'
  simp only [cHget, arg2, kindlyR_ok hok]
  exact rhget_calls x g
def vHDEL : ByteArray := ⟨#[72, 68, 69, 76]⟩
theorem byP_HDEL (hln : l.length ≤ 12) (hz : ∀ a ∈ (key :: l), a.size ≤ 300) : ByP9 now (vHDEL :: (key :: l)) (fun S => cHdel S now (key :: l)) := by
 intro h kb sb mb c m S av kr hs s8 s9 hla ht hav
 have hA : ∀ a ∈ (key :: l : List ByteArray), a.size < 281474976710656 := fun a ha => by have := hz a ha; omega
 exact do9_calls (w := vHDEL) kr hav (by simp only [List.length_cons]; omega) (by decide) (by kernel_rfl) (fun h2 ab av' hx x => hdel9 ⟨kr, hs, hx⟩ s9 x)
theorem sh_HDEL (hln : l.length ≤ 12) (hz : ∀ a ∈ (key :: l), a.size ≤ 300) : ∀ S, S8 S → S9 S → Short (cHdel S now (key :: l)) := fun S s8 s9 => short_of (fine_hdel s8.few s9 (by simp only [List.length_cons]; omega) hz) (QL.ite (QL.kind (fun t ht => QL.one (by show (0 : Nat) ≤ _; omega)) s9) QL.bad)
theorem byR_HDEL (hln : l.length ≤ 12) (hz : ∀ a ∈ (key :: l), a.size ≤ 300) : ByR9 now (vHDEL :: (key :: l)) (fun S => cHdel S now (key :: l)) := by
 intro h kv av k hsl hgx hup hlen hfit s8 s9 hla hav
 refine rdoH_calls (N := qHDEL) (A := (key :: l)) hsl hgx hup (by omega) hfit hav (by simp only [List.length_cons]; omega) (by decide) hz (by kernel_rfl) rb_HDEL (by decide) (by decide) (by decide) (by decide) ?_ ?_ ?_ (fun key => s9.get key now) ?_
 ·intro hh
  cases l with
  |nil => rfl
  |cons a l => exact absurd ⟨by simp only [List.length_cons]; omega, by simp only [List.length_cons] at hln ⊢; omega⟩ hh
 ·rintro _ _ ⟨j, h1, h2, h3, _⟩
  unfold need9 at h3; omega
 ·intro m1 m2 hall key' hk' hok
  obtain rfl : key = key' := Option.some.inj hk'
  have hp : 1 ≤ l.length ∧ l.length < 65536 := ⟨by simp only [List.length_cons] at m1; omega, by omega⟩
  show (if 1 ≤ l.length ∧ l.length < 65536 then kindly _ _ _ _ _ else _) = _
  rw [if_pos hp, kindlyR_no hok]
 ·intro h1 xb av' pv lw rv key' hk' m1 m2 hall hok g x
  obtain rfl : key = key' := Option.some.inj hk'
  have hp : 1 ≤ l.length ∧ l.length < 65536 := ⟨by simp only [List.length_cons] at m1; omega, by omega⟩
  have e : cHdel (k.map RX.pr) now (key :: l) = .ok (numR (hereL (thereH ((getS (k.map RX.pr) key now).getD zeroT).pairs) l).length, (hereL (thereH ((getS (k.map RX.pr) key now).getD zeroT).pairs) l).map fun n => ⟨6, key, n, noText, 0⟩) := by
   show (if 1 ≤ l.length ∧ l.length < 65536 then kindly _ _ _ _ _ else _) = _
   rw [if_pos hp, kindlyR_ok hok]
   rfl
  have hh := rhdel_calls x g
  rw [← e] at hh
  exact hh
def vHLEN : ByteArray := ⟨#[72, 76, 69, 78]⟩
theorem byP_HLEN (hz : ∀ a ∈ [key], a.size ≤ 300) : ByP9 now (vHLEN :: [key]) (fun S => cHlen S now [key]) := by
 intro h kb sb mb c m S av kr hs s8 s9 hla ht hav
 have hA : ∀ a ∈ ([key] : List ByteArray), a.size < 281474976710656 := fun a ha => by have := hz a ha; omega
 exact do9_calls (w := vHLEN) kr hav (by simp only [List.length_cons, List.length_nil]; omega) (by decide) (by kernel_rfl) (fun h2 ab av' hx x => hlen9 ⟨kr, hs, hx⟩ x)
theorem sh_HLEN : ∀ S, S8 S → S9 S → Short (cHlen S now [key]) := fun S s8 s9 => short_of (fine_hlen) (by simp only [cHlen, arg1]; exact QL.kind (fun t ht => QL.one (by show (0 : Nat) ≤ _; omega)) s9)
theorem byR_HLEN (hz : ∀ a ∈ [key], a.size ≤ 300) : ByR9 now (vHLEN :: [key]) (fun S => cHlen S now [key]) := by
 intro h kv av k hsl hgx hup hlen hfit s8 s9 hla hav
 refine rdoH_calls (N := qHLEN) (A := [key]) hsl hgx hup (by omega) hfit hav (by simp only [List.length_cons, List.length_nil]; omega) (by decide) hz (by kernel_rfl) rb_HLEN (by decide) (by decide) (by decide) (by decide) ?_ ?_ ?_ (fun key => s9.get key now) ?_
 ·intro hh; exact absurd ⟨by simp, by simp⟩ hh
 ·rintro _ _ ⟨j, h1, h2, h3, _⟩
  unfold need9 at h3; simp at h2; omega
 ·intro m1 m2 hall key' hk' hok
  obtain rfl : key = key' := Option.some.inj hk'
  simp only [cHlen, arg1, kindlyR_no hok]
 ·intro h1 xb av' pv lw rv key' hk' m1 m2 hall hok g x
  obtain rfl : key = key' := Option.some.inj hk'
  simp only [cHlen, arg1, kindlyR_ok hok]
  exact rhlen_calls x g
def vHGETALL : ByteArray := ⟨#[72, 71, 69, 84, 65, 76, 76]⟩
theorem byP_HGETALL (hz : ∀ a ∈ [key], a.size ≤ 300) : ByP9 now (vHGETALL :: [key]) (fun S => cHall S now [key]) := by
 intro h kb sb mb c m S av kr hs s8 s9 hla ht hav
 have hA : ∀ a ∈ ([key] : List ByteArray), a.size < 281474976710656 := fun a ha => by have := hz a ha; omega
 exact do9_calls (w := vHGETALL) kr hav (by simp only [List.length_cons, List.length_nil]; omega) (by decide) (by kernel_rfl) (fun h2 ab av' hx x => hall9 ⟨kr, hs, hx⟩ s9 x)
theorem sh_HGETALL : ∀ S, S8 S → S9 S → Short (cHall S now [key]) := fun S s8 s9 => short_of (fine_hall) (by simp only [cHall, arg1]; exact QL.kind (fun t ht => QL.one (by show ((t.pairs.flatMap _).map _).length ≤ _; have := ht.ps; have h2 := flat_len (f := fun p : Pair => [p.name, p.text]) (fun _ => Nat.le_refl 2) t.pairs; rw [List.length_map]; omega)) s9)
theorem byR_HGETALL (hz : ∀ a ∈ [key], a.size ≤ 300) : ByR9 now (vHGETALL :: [key]) (fun S => cHall S now [key]) := by
 intro h kv av k hsl hgx hup hlen hfit s8 s9 hla hav
 refine rdoH_calls (N := qHGETALL) (A := [key]) hsl hgx hup (by omega) hfit hav (by simp only [List.length_cons, List.length_nil]; omega) (by decide) hz (by kernel_rfl) rb_HGETALL (by decide) (by decide) (by decide) (by decide) ?_ ?_ ?_ (fun key => s9.get key now) ?_
 ·intro hh; exact absurd ⟨by simp, by simp⟩ hh
 ·rintro _ _ ⟨j, h1, h2, h3, _⟩
  unfold need9 at h3; simp at h2; omega
 ·intro m1 m2 hall key' hk' hok
  obtain rfl : key = key' := Option.some.inj hk'
  simp only [cHall, arg1, kindlyR_no hok]
 ·intro h1 xb av' pv lw rv key' hk' m1 m2 hall hok g x
  obtain rfl : key = key' := Option.some.inj hk'
  simp only [cHall, arg1, kindlyR_ok hok]
  exact rhall_calls x g
def vHINCRBY : ByteArray := ⟨#[72, 73, 78, 67, 82, 66, 89]⟩
theorem byP_HINCRBY (hz : ∀ a ∈ [key, nm, s], a.size ≤ 300) : ByP9 now (vHINCRBY :: [key, nm, s]) (fun S => cHincr S now [key, nm, s]) := by
 intro h kb sb mb c m S av kr hs s8 s9 hla ht hav
 have hA : ∀ a ∈ ([key, nm, s] : List ByteArray), a.size < 281474976710656 := fun a ha => by have := hz a ha; omega
 exact do9_calls (w := vHINCRBY) kr hav (by simp only [List.length_cons, List.length_nil]; omega) (by decide) (by kernel_rfl) (fun h2 ab av' hx x => hincr9 ⟨kr, hs, hx⟩ s9 hla hA x)
theorem sh_HINCRBY : ∀ S, S8 S → S9 S → Short (cHincr S now [key, nm, s]) := fun S s8 s9 => short_of (fine_hincr s8.few s9) (by simp only [cHincr, arg3]; exact QL.num fun n => QL.kind (fun t ht => QL.num fun m => QL.add fun z => QL.make (by show (0 : Nat) ≤ _; omega)) s9)
theorem byR_HINCRBY (hz : ∀ a ∈ [key, nm, s], a.size ≤ 300) : ByR9 now (vHINCRBY :: [key, nm, s]) (fun S => cHincr S now [key, nm, s]) := by
 intro h kv av k hsl hgx hup hlen hfit s8 s9 hla hav
 refine rdoH_calls (N := qHINCRBY) (A := [key, nm, s]) hsl hgx hup (by omega) hfit hav (by simp only [List.length_cons, List.length_nil]; omega) (by decide) hz (by kernel_rfl) rb_HINCRBY (by decide) (by decide) (by decide) (by decide) ?_ ?_ ?_ (fun key => s9.get key now) ?_
 ·intro hh; exact absurd ⟨by simp, by simp⟩ hh
 ·rintro _ _ ⟨j, h1, h2, h3, h4⟩
  obtain rfl : j = 2 := by unfold need9 at h3; omega
  have h4 : numOf s = none := h4
  simp [cHincr, arg3, numbered, h4]
 ·intro m1 m2 hall key' hk' hok
  obtain rfl : key = key' := Option.some.inj hk'
  obtain ⟨nn, hn⟩ := hall 2 (by decide) (by simp) (.inr (.inr ⟨rfl, by decide⟩))
  have hn : numOf s = some nn := hn
  show numbered s _ = _
  unfold numbered
  rw [hn]
  exact kindlyR_no hok
 ·intro h1 xb av' pv lw rv key' hk' m1 m2 hall hok g x
  obtain rfl : key = key' := Option.some.inj hk'
  have hl9 := g.t9.ps
  obtain ⟨nn, hn⟩ := hall 2 (by decide) (by simp) (.inr (.inr ⟨rfl, by decide⟩))
  have hn : numOf s = some nn := hn
  have zn := hz nm (by simp)
  have hh := rhincr_calls hn hla x g
  have e : cHincr (k.map RX.pr) now [key, nm, s] = numbered ((fieldF ((getS (k.map RX.pr) key now).getD zeroT).pairs nm).getD zeroS) fun m => addTo m nn fun z => .ok (numR z, dropsS (k.map RX.pr) key now ++ [hashE key nm ⟨⟨Lib.itoa z⟩⟩]) := by
   show numbered s _ = _
   rw [show ∀ f : Int → Res, numbered s f = f nn from fun f => by unfold numbered; rw [hn]]
   show kindly _ _ _ _ _ = _
   rw [kindlyR_ok hok]
   show numbered _ _ = numbered _ _
   unfold numbered
   cases hm : numOf ((fieldF ((getS (k.map RX.pr) key now).getD zeroT).pairs nm).getD zeroS) with
   |none => rfl
   |some mm =>
    show addTo mm nn _ = addTo mm nn _
    unfold addTo
    by_cases ho : okSum mm nn
    ·rw [if_pos ho, if_pos ho]
     have z300 := itoa_300 (z := mm + nn) ho
     refine makes_ok ?_ g.ks ?_
     ·split <;> omega
     ·unfold small
      rw [decide_eq_true (by omega : nm.size ≤ 1048576), decide_eq_true (by omega : (⟨⟨Lib.itoa (mm + nn)⟩⟩ : ByteArray).size ≤ 1048576)]
      rfl
    ·rw [if_neg ho, if_neg ho]
  rw [← e] at hh
  exact hh
end
end Go.Proofs.YtjnijlnmbjjgpaaGreatDoor
namespace Go.Proofs.YtjnijlnmbjjgpaaGreatDoor
open Go Go.Sx C
set_option maxHeartbeats 2000000 in
theorem CollsHash_go {h : Heap} {kx : ByteArray} {tx : Thing} {pv lv rv : Value} {ox : ∀ u ∈ v7 tx pv lv rv, u.oneCell' = true} {nv : Value} {N : List ByteArray} {s u : ByteArray} {now : Int} (hx : TH h (v7 tx pv lv rv) tx) (hxf : XFit [(mkX kx tx pv lv rv ox)]) (hun : In64 tx.unt) (hri : ∀ r ∈ tx.ranks, In64 r.score) (hs : SL encS h nv N) (fd : SFit N) (z1 : s.size < 4611686018427387904) (z2 : u.size < 4611686018427387904) (hla : LaidN h) (ht : K5.TabH h) :
  CallsH Tryz.prog 4 [.agg ⟨encX (mkX kx tx pv lv rv ox)⟩, .int .i64 now, .agg ⟨[nv, .string s, .string u]⟩] h (Ret fun r h' => r = .bool true ∧ Chg [] h h') := by
 obtain ⟨na, nc, rfl, _⟩ := hs.form
 have gX : GX h [(mkX kx tx pv lv rv ox)] := fun y hy => by rw [List.mem_singleton.1 hy]; exact hx
 have unX : ∀ y ∈ [(mkX kx tx pv lv rv ox)], In64 y.thing.unt := fun y hy => by rw [List.mem_singleton.1 hy]; exact hun
 have riX : ∀ y ∈ [(mkX kx tx pv lv rv ox)], ∀ r ∈ y.thing.ranks, In64 r.score := fun y hy => by rw [List.mem_singleton.1 hy]; exact hri
 refine f4_calls (by simp) ?_
 intro b3 h1 g1
 have w : St [] h h1 [.b b3 (encX (mkX kx tx pv lv rv ox))] := (St.start h).new g1
 intro b5 h2 g2
 have w := w.new g2
 refine w.ldw 1 rfl (encX_len (mkX kx tx pv lv rv ox)) ?_
 intro b7 h3 g3
 have w : St [] h h3 [.b b7 (encX (mkX kx tx pv lv rv ox)), .b b5 [.slice na N.length nc, .string s, .string u], .b b3 (encX (mkX kx tx pv lv rv ox))] := w.new g3
 refine w.ldw 1 rfl rfl ?_
 refine call_ret (avast9_calls (hs.ext w.chg) fd z1 z2) ?_
 rintro _ h4 ⟨⟨b, rfl, hb⟩, c4⟩
 have w := w.ext c4
 cases b with
 |true => exact kn9 w.chg fun h' c => Ai rfl c
 |false =>
  obtain ⟨n6, n300, zs, zu⟩ := hb rfl
  refine call_ret (vast9_calls (SL.one encX_len (show Blk h4 b7 (encX (mkX kx tx pv lv rv ox)) from w.get 0 rfl)) SL.nil (gX.ext w.chg) hxf ⟨by decide, fun e he => (nomatch he)⟩) ?_
  rintro _ h5 ⟨⟨b', rfl, hb'⟩, c5⟩
  have w := w.ext c5
  cases b' with
  |true => exact kn9 w.chg fun h' c => Ai rfl c
  |false =>
   obtain ⟨nv, _⟩ := hb' rfl
   have zk : kx.size ≤ 300 := nv.keys (mkX kx tx pv lv rv ox) (by simp)
   refine w.ld1 1 rfl rfl ?_
   refine Ai rfl (Ai (fun hlt => ?_) (fun hge => ?_))
   ·exact kn9 w.chg fun h' c => Ai rfl c
   have hpos : 0 < N.length := by omega
   obtain ⟨nb, no, rfl⟩ := hs.addr hpos
   obtain ⟨n0, hn0⟩ : ∃ n0, N[0]? = some n0 := ⟨_, List.getElem?_eq_getElem hpos⟩
   have zn : n0.size ≤ 300 := n300 n0 (List.mem_of_getElem? hn0)
   have two : ∀ n : ByteArray, ((fun n : ByteArray => [n, s]) n).length ≤ 2 := fun n => Nat.le_refl _
   have w := w.empty (enc := encS) (size := 1)
   refine loop_intro (fun q : Nat × Value => [(1, .int .i64 now), (3, ptr b3), (5, ptr b5), (7, .slice (some ⟨b7, 0, none⟩) 1 1), (8, q.2), (9, .int .i64 q.1)])
    (fun q h' => q.1 ≤ N.length ∧ St [] h h' [.o encS 1 q.2 ((N.take q.1).flatMap fun n => [n, s]), .b b7 (encX (mkX kx tx pv lv rv ox)), .b b5 [.slice (some ⟨nb, no, none⟩) N.length nc, .string s, .string u], .b b3 (encX (mkX kx tx pv lv rv ox))])
    (fun q => N.length - q.1) (0, .slice none 0 0) ⟨rfl, rfl, rfl, rfl, rfl, rfl, trivial⟩ ⟨Nat.zero_le _, w⟩ ?_
   rintro ⟨q, v⟩ hL ⟨hq, w⟩
   have hq : q ≤ N.length := hq
   have w : St [] h hL [.o encS 1 v ((N.take q).flatMap fun n => [n, s]), .b b7 (encX (mkX kx tx pv lv rv ox)), .b b5 [.slice (some ⟨nb, no, none⟩) N.length nc, .string s, .string u], .b b3 (encX (mkX kx tx pv lv rv ox))] := w
   have hln := flat_len two (N.take q)
   rw [List.length_take] at hln
   obtain ⟨a4, c4', rfl, _⟩ := (show OL encS 1 hL v _ from w.get 0 rfl).sl.form
   refine w.ld1 2 rfl rfl ?_
   refine Ai rfl (Ai (fun hlt => ?_) (fun hge2 => ?_))
   ·have hlt : q < N.length := by omega
    refine w.ld1 2 rfl rfl ?_
    refine sl_ix (hs.ext w.chg) q rfl (List.getElem?_eq_getElem hlt) ?_
    refine w.ld1 2 rfl rfl ?_
    intro b9 h8 g8
    have w := w.new g8
    have s2 : SL encS h8 (.slice (some ⟨b9, 0, none⟩) 2 2) [N[q], s] := ⟨_, 2, rfl, Nat.le_refl _, by exact cells_blk g8.blk⟩
    refine w.app 1 rfl encS_len encS_one rfl s2 (by simp only [List.length_cons, List.length_nil]; omega) fun v' h9 w => ?_
    rw [← flat_take (f := fun n : ByteArray => [n, s]) hlt] at w
    have w := w.pick [1, 2, 3, 4] (by decide)
    refine Ai rfl (fun z hz => ?_)
    have hz := add_in hz (by omega) (by omega)
    subst hz
    exact Ai rfl (Ei (q + 1, _) (Ai ⟨rfl, rfl, rfl, rfl, rfl, rfl, trivial⟩ (Ai ⟨hlt, w⟩ (by simp only; omega))))
   obtain rfl : q = N.length := by omega
   have hle := Nat.min_le_left N.length N.length
   obtain ⟨Pl, hPl⟩ : ∃ Pl, Pl = (N.take N.length).flatMap fun n => [n, s] := ⟨_, rfl⟩
   have sPl := (show OL encS 1 hL _ ((N.take N.length).flatMap fun n => [n, s]) from w.get 0 rfl).sl
   have sPl2 : SL encS hL (Value.slice a4 ((N.take N.length).flatMap fun n => [n, s]).length c4') Pl := by rw [hPl]; exact sPl
   rw [← hPl] at hln
   have zPl : ∀ a ∈ kx :: Pl, a.size ≤ 300 := fun a ha => by
    rcases List.mem_cons.1 ha with rfl | ha
    ·exact zk
    ·rw [hPl, List.take_length] at ha
     obtain ⟨n, hn, ha⟩ := List.mem_flatMap.1 ha
     simp only [List.mem_cons, List.not_mem_nil, or_false] at ha
     rcases ha with rfl | rfl
     ·exact n300 _ hn
     ·exact zs
   have hvL : SL encX hL (.slice (some ⟨b7, 0, none⟩) 1 1) [(mkX kx tx pv lv rv ox)] := SL.one encX_len (show Blk hL b7 (encX (mkX kx tx pv lv rv ox)) from w.get 1 rfl)
   have w := w.pick [1, 2, 3] (by decide)
   have cL : Chg [] hL hL := Chg.refl _
   have hz9 : ∀ a ∈ kx :: N, a.size ≤ 300 := fun a ha => by
    rcases List.mem_cons.1 ha with rfl | ha
    ·exact zk
    ·exact n300 a ha
   have w0 := w
   -- HSET
   refine w.ld1 2 rfl (rfl : (encX (mkX kx tx pv lv rv ox))[0]? = some (.string kx)) ?_
   intro b11 h11 g11
   have w := w.ext g11.chg
   refine call_ret (with9_calls (A := [vHSET, kx]) (N := Pl) (OL.mk (rest := []) rfl (Nat.le_refl _) (by exact g11.blk) rfl) (sPl2.ext g11.chg) (by simp only [List.length_cons, List.length_nil]; omega)) ?_
   rintro rv12 h12 ⟨sa12, c12⟩
   have i11 := g11.id
   have d12 : Chg [] hL h12 := g11.chg.fresh c12 (fun k hk => by have hk : k = b11 := (by simpa [vblk, ablk] using hk); omega)
   have c12' := cL.nil d12
   have w := w0.ext d12
   refine call_ret (does9_calls (AA := vHSET :: kx :: Pl) (hvL.ext c12') (gX.ext w.chg) nv unX riX (hla.ext w.chg) (tab9 ht w.chg) sa12 (byP_HSET (by omega) zPl) (byR_HSET (by omega) zPl) (sh_HSET (by omega))) ?_
   rintro _ h13 ⟨rfl, c13⟩
   have w := w.ext c13
   have w0 := w
   have c13' := c12'.nil c13
   -- HSET
   refine w.ld1 2 rfl (rfl : (encX (mkX kx tx pv lv rv ox))[0]? = some (.string kx)) ?_
   refine w.ld1 1 rfl rfl ?_
   refine sl_ix (hs.ext w.chg) 0 rfl hn0 ?_
   intro b14 h14 g14
   have c14' := c13'.nil g14.chg
   have w := w.ext g14.chg
   refine call_ret (does9_calls (AA := [vHSET, kx, n0]) (hvL.ext c14') (gX.ext w.chg) nv unX riX (hla.ext w.chg) (tab9 ht w.chg) (show SL encS h14 (.slice (some ⟨b14, 0, none⟩) 3 3) [vHSET, kx, n0] from ⟨_, 3, rfl, Nat.le_refl _, by exact cells_blk g14.blk⟩) (byP_HSET (l := [n0]) (by simp) (fun a ha => by simp at ha; rcases ha with rfl | rfl <;> assumption)) (byR_HSET (l := [n0]) (by simp) (fun a ha => by simp at ha; rcases ha with rfl | rfl <;> assumption)) (sh_HSET (l := [n0]) (by simp))) ?_
   rintro _ h15 ⟨rfl, c15⟩
   have w := w.ext c15
   have w0 := w
   have c15' := c14'.nil c15
   -- HGET
   refine w.ld1 2 rfl (rfl : (encX (mkX kx tx pv lv rv ox))[0]? = some (.string kx)) ?_
   refine w.ld1 1 rfl rfl ?_
   refine sl_ix (hs.ext w.chg) 0 rfl hn0 ?_
   intro b16 h16 g16
   have c16' := c15'.nil g16.chg
   have w := w.ext g16.chg
   refine call_ret (does9_calls (AA := [vHGET, kx, n0]) (hvL.ext c16') (gX.ext w.chg) nv unX riX (hla.ext w.chg) (tab9 ht w.chg) (show SL encS h16 (.slice (some ⟨b16, 0, none⟩) 3 3) [vHGET, kx, n0] from ⟨_, 3, rfl, Nat.le_refl _, by exact cells_blk g16.blk⟩) (byP_HGET (fun a ha => by simp at ha; rcases ha with rfl | rfl <;> assumption)) (byR_HGET (fun a ha => by simp at ha; rcases ha with rfl | rfl <;> assumption)) (sh_HGET)) ?_
   rintro _ h17 ⟨rfl, c17⟩
   have w := w.ext c17
   have w0 := w
   have c17' := c16'.nil c17
   -- HDEL
   refine w.ld1 1 rfl rfl ?_
   refine w.ld1 2 rfl (rfl : (encX (mkX kx tx pv lv rv ox))[0]? = some (.string kx)) ?_
   intro b18 h18 g18
   have w := w.ext g18.chg
   refine call_ret (with9_calls (A := [vHDEL, kx]) (N := N) (OL.mk (rest := []) rfl (Nat.le_refl _) (by exact g18.blk) rfl) (hs.ext w.chg) (by simp only [List.length_cons, List.length_nil]; omega)) ?_
   rintro rv19 h19 ⟨sa19, c19⟩
   have i18 := g18.id
   have d19 : Chg [] h17 h19 := g18.chg.fresh c19 (fun k hk => by have hk : k = b18 := (by simpa [vblk, ablk] using hk); omega)
   have c19' := c17'.nil d19
   have w := w0.ext d19
   refine call_ret (does9_calls (AA := vHDEL :: kx :: N) (hvL.ext c19') (gX.ext w.chg) nv unX riX (hla.ext w.chg) (tab9 ht w.chg) sa19 (byP_HDEL (by omega) hz9) (byR_HDEL (by omega) hz9) (sh_HDEL (by omega) hz9)) ?_
   rintro _ h20 ⟨rfl, c20⟩
   have w := w.ext c20
   have w0 := w
   have c20' := c19'.nil c20
   -- HLEN
   refine w.ld1 2 rfl (rfl : (encX (mkX kx tx pv lv rv ox))[0]? = some (.string kx)) ?_
   intro b21 h21 g21
   have c21' := c20'.nil g21.chg
   have w := w.ext g21.chg
   refine call_ret (does9_calls (AA := [vHLEN, kx]) (hvL.ext c21') (gX.ext w.chg) nv unX riX (hla.ext w.chg) (tab9 ht w.chg) (show SL encS h21 (.slice (some ⟨b21, 0, none⟩) 2 2) [vHLEN, kx] from ⟨_, 2, rfl, Nat.le_refl _, by exact cells_blk g21.blk⟩) (byP_HLEN (fun a ha => by simp at ha; rcases ha with rfl <;> assumption)) (byR_HLEN (fun a ha => by simp at ha; rcases ha with rfl <;> assumption)) (sh_HLEN)) ?_
   rintro _ h22 ⟨rfl, c22⟩
   have w := w.ext c22
   have w0 := w
   have c22' := c21'.nil c22
   -- HGETALL
   refine w.ld1 2 rfl (rfl : (encX (mkX kx tx pv lv rv ox))[0]? = some (.string kx)) ?_
   intro b23 h23 g23
   have c23' := c22'.nil g23.chg
   have w := w.ext g23.chg
   refine call_ret (does9_calls (AA := [vHGETALL, kx]) (hvL.ext c23') (gX.ext w.chg) nv unX riX (hla.ext w.chg) (tab9 ht w.chg) (show SL encS h23 (.slice (some ⟨b23, 0, none⟩) 2 2) [vHGETALL, kx] from ⟨_, 2, rfl, Nat.le_refl _, by exact cells_blk g23.blk⟩) (byP_HGETALL (fun a ha => by simp at ha; rcases ha with rfl <;> assumption)) (byR_HGETALL (fun a ha => by simp at ha; rcases ha with rfl <;> assumption)) (sh_HGETALL)) ?_
   rintro _ h24 ⟨rfl, c24⟩
   have w := w.ext c24
   have w0 := w
   have c24' := c23'.nil c24
   -- HINCRBY
   refine w.ld1 2 rfl (rfl : (encX (mkX kx tx pv lv rv ox))[0]? = some (.string kx)) ?_
   refine w.ld1 1 rfl rfl ?_
   refine sl_ix (hs.ext w.chg) 0 rfl hn0 ?_
   refine w.ld1 1 rfl rfl ?_
   intro b25 h25 g25
   have c25' := c24'.nil g25.chg
   have w := w.ext g25.chg
   refine call_ret (does9_calls (AA := [vHINCRBY, kx, n0, s]) (hvL.ext c25') (gX.ext w.chg) nv unX riX (hla.ext w.chg) (tab9 ht w.chg) (show SL encS h25 (.slice (some ⟨b25, 0, none⟩) 4 4) [vHINCRBY, kx, n0, s] from ⟨_, 4, rfl, Nat.le_refl _, by exact cells_blk g25.blk⟩) (byP_HINCRBY (fun a ha => by simp at ha; rcases ha with rfl | rfl | rfl <;> assumption)) (byR_HINCRBY (fun a ha => by simp at ha; rcases ha with rfl | rfl | rfl <;> assumption)) (sh_HINCRBY)) ?_
   rintro _ h26 ⟨rfl, c26⟩
   have w := w.ext c26
   have w0 := w
   have c26' := c25'.nil c26
   refine call_ret known9_ret ?_
   rintro _ h9 ⟨rfl, c9⟩
   exact Ai rfl (w.chg.nil c9)
theorem CollsHash_calls {h : Heap} {x : RX} {nv : Value} {N : List ByteArray} {s u : ByteArray} {now : Int} (hx : TH h x.vs x.thing) (hxf : XFit [x]) (hun : In64 x.thing.unt) (hri : ∀ r ∈ x.thing.ranks, In64 r.score) (hs : SL encS h nv N) (fd : SFit N) (z1 : s.size < 4611686018427387904) (z2 : u.size < 4611686018427387904) (hla : LaidN h) (ht : K5.TabH h) :
  CallsH Tryz.prog 4 [.agg ⟨encX x⟩, .int .i64 now, .agg ⟨[nv, .string s, .string u]⟩] h (Ret fun r h' => r = .bool true ∧ Chg [] h h') := by
 obtain ⟨kx, tx, vx, lx, ox⟩ := x
 obtain ⟨pv, lv, rv, hvx, hr⟩ := id hx
 have hvx : vx = v7 tx pv lv rv := hvx
 subst hvx
 exact CollsHash_go (ox := ox) hx hxf hun hri hs fd z1 z2 hla ht
end Go.Proofs.YtjnijlnmbjjgpaaGreatDoor
