/-
  The table of what a run of tabor/taborlaw08.known reaches, and the run. Printed by a program (wip/prun.lean).
-/
import Derived.Test.YtigolfakcblnjaaGreatDoorSxYJ
import Derived.Test.YtigolfakcblnjaaGreatDoorProg
set_option maxRecDepth 100000
namespace Go.Proofs.YtigolfakcblnjaaGreatDoor.R
open Go Go.Sx Go.Sx.S

theorem mixed : Tryz.prog.follows .mixedOrders = true := by kernel_rfl

/-! 11: tabor/taborlaw08.known -/
def f11r0 : List SOper := [
 o 0 (.mv (b false))]
def f11r1 : List SOper := [
 o 5 (.call 18 []),
 o 1 (.mv (t 5))]
def f11r2 : List SOper := [
 o 7 (.mv (t 1)),
 o 8 (.bslice [(.string ⟨#[]⟩), (.string ⟨#[]⟩)] 2 [(0, 1), (1, 1)] [(.const (.string ⟨#[105, 110, 99, 114]⟩)), (.const (.string ⟨#[97]⟩))]),
 o 9 (.call 17 [(t 7), (i 0), (t 8)]),
 o 6 (.mv (t 9)),
 o 10 (.ext (t 6) 0),
 o 11 (.ext (t 6) 1),
 o 12 (.ext (t 6) 2),
 o 2 (.new [(.int .i64 0), (.int .i64 0), (.string ⟨#[]⟩), (.slice none 0 0)]),
 q (.st 4 (t 2) (t 10)),
 o 3 (.mv (t 11)),
 o 4 (.mv (t 12))]
def f11r3 : List SOper := [
 o 13 (.mv (t 4)),
 o 14 (.mv (t 13)),
 g 15 14 (.fa 0 (t 2)),
 g 16 14 (.ld1 (t 15)),
 g 17 14 (.cmp .eql (t 16) (i 3)),
 o 18 (.pick (t 14) (t 17) (b false)),
 o 19 (.mv (t 18)),
 g 20 19 (.fa 1 (t 2)),
 g 21 19 (.ld1 (t 20)),
 g 22 19 (.cmp .eql (t 21) (i 1)),
 o 23 (.pick (t 19) (t 22) (b false)),
 o 24 (.mv (t 23)),
 g 25 24 (.mv (t 3)),
 g 26 24 (.len (t 25)),
 g 27 24 (.cmp .eql (t 26) (i 1)),
 o 28 (.pick (t 24) (t 27) (b false)),
 o 29 (.mv (t 28)),
 g 30 29 (.mv (t 3)),
 g 31 29 (.ixs 5 (t 30) (i 0)),
 g 32 29 (.fa 0 (t 31)),
 g 33 29 (.ld1 (t 32)),
 g 34 29 (.cmp .eql (t 33) (i 2)),
 o 35 (.pick (t 29) (t 34) (b false)),
 o 36 (.mv (t 35)),
 g 37 36 (.mv (t 3)),
 g 38 36 (.ixs 5 (t 37) (i 0)),
 g 39 36 (.fa 3 (t 38)),
 g 40 36 (.ld1 (t 39)),
 g 41 36 (.cmp .eql (t 40) (.const (.string ⟨#[49]⟩))),
 o 42 (.pick (t 36) (t 41) (b false)),
 o 0 (.mv (t 42))]
def f11 : SCode := (.seq (.ops f11r0) (.seq (.ops f11r1) (.seq (.ops f11r2) (.seq (.ops f11r3) .ret))))
theorem f11_ok (oq : Nat → Value) (F : Nat → Prop) (h0 : Heap) : EntOK Tryz.prog oq F h0 11 (.code 43 f11 [.t 0]) := ⟨soundD_of (fl := false) mixed Tryz.func11 rfl (by kernel_rfl) (by kernel_rfl) (by kernel_rfl), soundF_of (fl := false) mixed Tryz.func11 rfl (by kernel_rfl) (by kernel_rfl) (by kernel_rfl)⟩

/-! 12: tabor/basics.Number -/
def f12r0 : List SOper := [
 o 2 (.mv (i 0)),
 o 3 (.mv (b false))]
def f12r1 : List SOper := [
 o 7 (.mv (t 0)),
 o 8 (.call 32 [(t 7), (i 10), (i 64)]),
 o 6 (.mv (t 8)),
 o 9 (.ext (t 6) 0),
 o 10 (.ext (t 6) 1),
 o 4 (.mv (t 9)),
 o 5 (.mv (t 10))]
def f12r2 : List SOper := [
 o 11 (.mv (t 5)),
 o 12 (.eqn 4 true (t 11)),
 o 13 (.mv (t 12)),
 n 14 13 (.mv (t 4)),
 n 15 13 (.call 33 [(t 14), (i 10)]),
 n 16 13 (.mv (t 0)),
 n 17 13 (.cmp .neq (t 15) (t 16)),
 o 18 (.pick (t 13) (b true) (t 17))]
def f12r3 : List SOper := [
 o 2 (.mv (i 0)),
 o 3 (.mv (b false))]
def f12r4 : List SOper := [
 o 19 (.mv (t 4)),
 o 2 (.mv (t 19)),
 o 3 (.mv (b true))]
def f12 : SCode := (.seq (.ops f12r0) (.seq (.ops f12r1) (.seq (.seq (.ops f12r2) (.cond (t 18) (.seq (.ops f12r3) .ret) .skip)) (.seq (.ops f12r4) .ret))))
theorem f12_ok (oq : Nat → Value) (F : Nat → Prop) (h0 : Heap) : EntOK Tryz.prog oq F h0 12 (.code 20 f12 [.t 2, .t 3]) := ⟨soundD_of (fl := false) mixed Tryz.func12 rfl (by kernel_rfl) (by kernel_rfl) (by kernel_rfl), soundF_of (fl := false) mixed Tryz.func12 rfl (by kernel_rfl) (by kernel_rfl) (by kernel_rfl)⟩

/-! 17: tabor/basics.Do -/
def f17r0 : List SOper := [
 o 6 (.new [(.int .i64 0), (.int .i64 0), (.string ⟨#[]⟩), (.slice none 0 0)]),
 o 7 (.new [(.slice none 0 0)]),
 o 8 (.mv (b false))]
def f17r1 : List SOper := [
 o 11 (.mv (t 2)),
 o 12 (.len (t 11)),
 o 13 (.cmp .eql (t 12) (i 0)),
 o 14 (.mv (t 13)),
 n 15 14 (.mv (t 0)),
 n 16 14 (.call 37 [(t 15), (.const (.pointer none))]),
 o 17 (.pick (t 14) (b true) (t 16))]
def f17r2 : List SOper := [
 o 18 (.build [(.int .i64 0), (.int .i64 0), (.string ⟨#[]⟩), (.slice none 0 0)] [] []),
 q (.st 4 (t 6) (t 18)),
 q (.st 1 (t 7) (.const (.slice none 0 0))),
 o 8 (.mv (b false))]
def f17t3 : OTree := (.one (o 21 (.mv (t 2)))
 (.one (o 22 (.ixs 1 (t 21) (i 0)))
 (.one (o 23 (.ld1 (t 22)))
 (.one (o 20 (.call 36 []))
 (.chk [o 23 (.ld1 (t 22))] (.one (o 24 (.call 38 [(t 23)]))
 (.one (o 25 (.look .str .nilFunc true (t 20) (t 24)))
 (.one (o 19 (.mv (t 25)))
 (.one (o 26 (.ext (t 19) 0))
 (.one (o 27 (.ext (t 19) 1))
 (.one (o 9 (.mv (t 26)))
 (.one (o 8 (.mv (t 27)))
 .done))))))))))))
def f17r4 : List SOper := [
 o 28 (.mv (t 8)),
 o 29 (.un .not (t 28))]
def f17r5 : List SOper := [
 o 30 (.build [(.int .i64 0), (.int .i64 0), (.string ⟨#[]⟩), (.slice none 0 0)] [] []),
 q (.st 4 (t 6) (t 30)),
 q (.st 1 (t 7) (.const (.slice none 0 0))),
 o 8 (.mv (b false))]
def f17r6 : List SOper := [
 o 31 (.fn 39 [] [(t 6), (t 7)])]
def f17r7 : List SOper := [
 o 32 (.mv (t 0)),
 o 33 (.mv (t 1)),
 o 34 (.mv (t 2)),
 o 35 (.slc 1 (t 34) (some (i 1)) none),
 o 36 (.build [(.pointer none), (.int .i64 0), (.slice none 0 0), (.slice none 0 0)] [(0, 1), (1, 1), (2, 1)] [(t 32), (t 33), (t 35)]),
 o 37 (.box (t 36)),
 o 10 (.mv (t 37))]
def f17r8 : List SOper := [
 o 38 (.mv (t 9)),
 o 39 (.mv (t 10)),
 o 40 (.callv (t 38) [(t 39)]),
 q (.st 4 (t 6) (t 40))]
def f17t9 : OTree := (.one (o 41 (.ldn 4 (t 6)))
 (.one (o 42 (.mv (t 10)))
 (.one (o 43 (.nilck (t 42)))
 (.one (o 44 (.fa 3 (t 43)))
 (.one (o 45 (.ld1 (t 44)))
 (.one (q (.st 4 (t 6) (t 41)))
 (.chk [o 45 (.ld1 (t 44))] (.one (q (.st 1 (t 7) (t 45)))
 (.one (o 8 (.mv (b true)))
 .done)))))))))
def f17 : SCode := (.seq (.ops f17r0) (.seq (.seq (.ops f17r1) (.cond (t 17) (.seq (.ops f17r2) .ret) .skip)) (.seq (.tree [20, 21, 22, 23, 24, 25, 19, 26, 27, 9, 8] f17t3) (.seq (.seq (.ops f17r4) (.cond (t 29) (.seq (.ops f17r5) .ret) .skip)) (.seq (.dfr f17r6 none (t 31) []) (.seq (.ops f17r7) (.seq (.ops f17r8) (.seq (.tree [41, 42, 43, 44, 45, 8] f17t9) .ret))))))))
theorem f17_ok (oq : Nat → Value) (F : Nat → Prop) (h0 : Heap) : EntOK Tryz.prog oq F h0 17 (.code 46 f17 [.cn 6 4, .c1 7, .t 8]) := ⟨soundD_of (fl := false) mixed Tryz.func17 rfl (by kernel_rfl) (by kernel_rfl) (by kernel_rfl), soundF_of (fl := false) mixed Tryz.func17 rfl (by kernel_rfl) (by kernel_rfl) (by kernel_rfl)⟩

/-! 18: tabor/keys.New -/
def f18r0 : List SOper := [
 o 0 (.mv (.const (.pointer none)))]
def f18r1 : List SOper := [
 o 1 (.mkm),
 o 2 (.build [(.map none)] [(0, 1)] [(t 1)]),
 o 3 (.box (t 2)),
 o 4 (.build [(.pointer none)] [(0, 1)] [(t 3)]),
 o 5 (.box (t 4)),
 o 0 (.mv (t 5))]
def f18 : SCode := (.seq (.ops f18r0) (.seq (.ops f18r1) .ret))
theorem f18_ok (oq : Nat → Value) (F : Nat → Prop) (h0 : Heap) : EntOK Tryz.prog oq F h0 18 (.code 6 f18 [.t 0]) := ⟨soundD_of (fl := false) mixed Tryz.func18 rfl (by kernel_rfl) (by kernel_rfl) (by kernel_rfl), soundF_of (fl := false) mixed Tryz.func18 rfl (by kernel_rfl) (by kernel_rfl) (by kernel_rfl)⟩

/-! 27: tabor/basics.Drops -/
def f27r0 : List SOper := [
 o 6 (.mv (.const (.slice none 0 0)))]
def f27r1 : List SOper := [
 o 12 (.mv (t 0)),
 o 13 (.mv (t 2)),
 o 14 (.call 49 [(t 12), (t 13)]),
 o 11 (.mv (t 14)),
 o 15 (.ext (t 11) 0),
 o 16 (.ext (t 11) 1),
 o 7 (.new [(.int .i64 0), (.string ⟨#[]⟩), (.slice none 0 0), (.slice none 0 0), (.slice none 0 0), (.bool false), (.int .i64 0)]),
 q (.st 7 (t 7) (t 15)),
 o 8 (.mv (t 16))]
def f27r2 : List SOper := [
 o 18 (.mv (t 0)),
 o 19 (.mv (t 2)),
 o 20 (.mv (t 1)),
 o 21 (.call 50 [(t 18), (t 19), (t 20)]),
 o 17 (.mv (t 21)),
 o 22 (.ext (t 17) 0),
 o 23 (.ext (t 17) 1),
 o 9 (.new [(.int .i64 0), (.string ⟨#[]⟩), (.slice none 0 0), (.slice none 0 0), (.slice none 0 0), (.bool false), (.int .i64 0)]),
 q (.st 7 (t 9) (t 22)),
 o 10 (.mv (t 23))]
def f27r3 : List SOper := [
 o 24 (.mv (t 8)),
 o 25 (.mv (t 24)),
 g 26 25 (.mv (t 10)),
 g 27 25 (.un .not (t 26)),
 o 28 (.pick (t 25) (t 27) (b false))]
def f27r4 : List SOper := [
 o 29 (.mv (t 2)),
 o 30 (.build [(.int .i64 0), (.string ⟨#[]⟩), (.string ⟨#[]⟩), (.string ⟨#[]⟩), (.int .i64 0)] [(0, 1), (1, 1)] [(i 1), (t 29)]),
 o 31 (.bslice [(.int .i64 0), (.string ⟨#[]⟩), (.string ⟨#[]⟩), (.string ⟨#[]⟩), (.int .i64 0)] 1 [(0, 5)] [(t 30)]),
 o 6 (.mv (t 31))]
def f27r5 : List SOper := [
 o 6 (.mv (.const (.slice none 0 0)))]
def f27 : SCode := (.seq (.ops f27r0) (.seq (.ops f27r1) (.seq (.seq (.ops f27r2) (.seq (.ops f27r3) (.cond (t 28) (.seq (.ops f27r4) .ret) .skip))) (.seq (.ops f27r5) .ret))))
theorem f27_ok (oq : Nat → Value) (F : Nat → Prop) (h0 : Heap) : EntOK Tryz.prog oq F h0 27 (.code 32 f27 [.t 6]) := ⟨soundD_of (fl := false) mixed Tryz.func27 rfl (by kernel_rfl) (by kernel_rfl) (by kernel_rfl), soundF_of (fl := false) mixed Tryz.func27 rfl (by kernel_rfl) (by kernel_rfl) (by kernel_rfl)⟩

/-! 32: strconv.ParseInt -/
def f32r0 : List SOper := [
 o 6 (.mv (i 0)),
 o 7 (.mv (.const .nilIface))]
def f32r1 : List SOper := [
 o 10 (.mv (t 0)),
 o 11 (.mv (t 1)),
 o 12 (.mv (t 2)),
 o 13 (.call 54 [(t 10), (t 11), (t 12)]),
 o 9 (.mv (t 13)),
 o 14 (.ext (t 9) 0),
 o 15 (.ext (t 9) 1),
 o 8 (.mv (t 14)),
 o 7 (.mv (t 15))]
def f32r2 : List SOper := [
 o 16 (.mv (t 7)),
 o 17 (.eqn 4 true (t 16))]
def f32r3 : List SOper := [
 o 18 (.mv (t 8)),
 o 19 (.mv (t 0)),
 o 20 (.mv (t 1)),
 o 21 (.mv (t 2)),
 o 22 (.mv (t 7)),
 o 23 (.call 55 [(.const (.string ⟨#[80, 97, 114, 115, 101, 73, 110, 116]⟩)), (t 19), (t 20), (t 21), (t 22)]),
 o 6 (.mv (t 18)),
 o 7 (.mv (t 23))]
def f32r4 : List SOper := [
 o 24 (.mv (t 8)),
 o 6 (.mv (t 24)),
 o 7 (.mv (.const .nilIface))]
def f32 : SCode := (.seq (.ops f32r0) (.seq (.ops f32r1) (.seq (.seq (.ops f32r2) (.cond (t 17) (.seq (.ops f32r3) .ret) .skip)) (.seq (.ops f32r4) .ret))))
theorem f32_ok (oq : Nat → Value) (F : Nat → Prop) (h0 : Heap) : EntOK Tryz.prog oq F h0 32 (.code 25 f32 [.t 6, .t 7]) := ⟨soundD_of (fl := false) mixed Tryz.func32 rfl (by kernel_rfl) (by kernel_rfl) (by kernel_rfl), soundF_of (fl := false) mixed Tryz.func32 rfl (by kernel_rfl) (by kernel_rfl) (by kernel_rfl)⟩

/-! 33: strconv.FormatInt -/
def f33r0 : List SOper := [
 o 4 (.mv e)]
def f33r1 : List SOper := [
 o 5 (.mv (t 0)),
 o 6 (.mv (t 1)),
 o 7 (.call 56 [(t 5), (t 6)]),
 o 4 (.mv (t 7))]
def f33 : SCode := (.seq (.ops f33r0) (.seq (.ops f33r1) .ret))
theorem f33_ok (oq : Nat → Value) (F : Nat → Prop) (h0 : Heap) : EntOK Tryz.prog oq F h0 33 (.code 8 f33 [.t 4]) := ⟨soundD_of (fl := false) mixed Tryz.func33 rfl (by kernel_rfl) (by kernel_rfl) (by kernel_rfl), soundF_of (fl := false) mixed Tryz.func33 rfl (by kernel_rfl) (by kernel_rfl) (by kernel_rfl)⟩

/-! 36: tabor/basics.commands -/
def f36r0 : List SOper := [
 o 0 (.mv (.const (.map none)))]
def f36r1 : List SOper := [
 o 1 (.mkm),
 q (.mup .str (t 1) (.const (.string ⟨#[83, 69, 84]⟩)) (u 60)),
 q (.mup .str (t 1) (.const (.string ⟨#[71, 69, 84]⟩)) (u 61)),
 q (.mup .str (t 1) (.const (.string ⟨#[68, 69, 76]⟩)) (u 62)),
 q (.mup .str (t 1) (.const (.string ⟨#[69, 88, 73, 83, 84, 83]⟩)) (u 63)),
 q (.mup .str (t 1) (.const (.string ⟨#[84, 89, 80, 69]⟩)) (u 64)),
 o 2 (.call 65 [(i 1)]),
 q (.mup .str (t 1) (.const (.string ⟨#[73, 78, 67, 82]⟩)) (t 2)),
 o 3 (.call 65 [(i (-1))]),
 q (.mup .str (t 1) (.const (.string ⟨#[68, 69, 67, 82]⟩)) (t 3)),
 q (.mup .str (t 1) (.const (.string ⟨#[73, 78, 67, 82, 66, 89]⟩)) (u 66)),
 q (.mup .str (t 1) (.const (.string ⟨#[65, 80, 80, 69, 78, 68]⟩)) (u 70)),
 q (.mup .str (t 1) (.const (.string ⟨#[83, 84, 82, 76, 69, 78]⟩)) (u 71)),
 q (.mup .str (t 1) (.const (.string ⟨#[77, 71, 69, 84]⟩)) (u 72)),
 q (.mup .str (t 1) (.const (.string ⟨#[77, 83, 69, 84]⟩)) (u 73)),
 q (.mup .str (t 1) (.const (.string ⟨#[80, 69, 88, 80, 73, 82, 69]⟩)) (u 74)),
 q (.mup .str (t 1) (.const (.string ⟨#[80, 69, 82, 83, 73, 83, 84]⟩)) (u 75)),
 q (.mup .str (t 1) (.const (.string ⟨#[80, 84, 84, 76]⟩)) (u 76)),
 q (.mup .str (t 1) (.const (.string ⟨#[75, 69, 89, 83]⟩)) (u 77)),
 q (.mup .str (t 1) (.const (.string ⟨#[68, 66, 83, 73, 90, 69]⟩)) (u 78)),
 q (.mup .str (t 1) (.const (.string ⟨#[70, 76, 85, 83, 72, 65, 76, 76]⟩)) (u 79)),
 o 4 (.mv (t 1)),
 o 0 (.mv (t 4))]
def f36 : SCode := (.seq (.ops f36r0) (.seq (.ops f36r1) .ret))
theorem f36_ok (oq : Nat → Value) (F : Nat → Prop) (h0 : Heap) : EntOK Tryz.prog oq F h0 36 (.code 5 f36 [.t 0]) := ⟨soundD_of (fl := false) mixed Tryz.func36 rfl (by kernel_rfl) (by kernel_rfl) (by kernel_rfl), soundF_of (fl := false) mixed Tryz.func36 rfl (by kernel_rfl) (by kernel_rfl) (by kernel_rfl)⟩

/-! 37: (*tabor/keys.Keys).Same -/
def f37r0 : List SOper := [
 o 4 (.mv (b false))]
def f37r1 : List SOper := [
 o 5 (.mv (t 0)),
 o 6 (.call 52 [(t 5)]),
 o 7 (.mv (t 6)),
 n 8 7 (.mv (t 1)),
 n 9 7 (.call 52 [(t 8)]),
 o 10 (.pick (t 7) (b true) (t 9))]
def f37r2 : List SOper := [
 o 11 (.mv (t 0)),
 o 12 (.call 52 [(t 11)]),
 o 13 (.mv (t 12)),
 g 14 13 (.mv (t 1)),
 g 15 13 (.call 52 [(t 14)]),
 o 16 (.pick (t 13) (t 15) (b false)),
 o 4 (.mv (t 16))]
def f37r3 : List SOper := [
 o 17 (.mv (t 0)),
 o 18 (.nilck (t 17)),
 o 19 (.fa 0 (t 18)),
 o 20 (.ld1 (t 19)),
 o 21 (.nilck (t 20)),
 o 22 (.fa 0 (t 21)),
 o 23 (.ld1 (t 22)),
 o 24 (.mv (t 1)),
 o 25 (.nilck (t 24)),
 o 26 (.fa 0 (t 25)),
 o 27 (.ld1 (t 26)),
 o 28 (.nilck (t 27)),
 o 29 (.fa 0 (t 28)),
 o 30 (.ld1 (t 29)),
 o 31 (.call 80 [(t 23), (t 30), (u 81)]),
 o 4 (.mv (t 31))]
def f37 : SCode := (.seq (.ops f37r0) (.seq (.seq (.ops f37r1) (.cond (t 10) (.seq (.ops f37r2) .ret) .skip)) (.seq (.ops f37r3) .ret)))
theorem f37_ok (oq : Nat → Value) (F : Nat → Prop) (h0 : Heap) : EntOK Tryz.prog oq F h0 37 (.code 32 f37 [.t 4]) := ⟨soundD_of (fl := false) mixed Tryz.func37 rfl (by kernel_rfl) (by kernel_rfl) (by kernel_rfl), soundF_of (fl := false) mixed Tryz.func37 rfl (by kernel_rfl) (by kernel_rfl) (by kernel_rfl)⟩

/-! 38: tabor/basics.word -/
def f38r0 : List SOper := [
 o 2 (.mv e)]
def f38r1 : List SOper := [
 o 6 (.mv (t 0)),
 o 7 (.byts (t 6)),
 o 3 (.mv (t 7))]
def f38r2 : List SOper := [
 o 8 (.mv (t 3)),
 o 9 (.len (t 8)),
 o 10 (.mv (i 0))]
def f38r3 : List SOper := [
 o 11 (.cmp .lss (t 10) (t 9))]
def f38r4 : List SOper := [
 o 12 (.mv (t 10)),
 o 13 (.ixs 1 (t 8) (t 10)),
 o 14 (.ld1 (t 13)),
 o 4 (.mv (t 12)),
 o 5 (.mv (t 14))]
def f38r5 : List SOper := [
 o 15 (.mv (t 5)),
 o 16 (.cmp .geq (t 15) (.const (.int .u8 97))),
 o 17 (.mv (t 16)),
 g 18 17 (.mv (t 5)),
 g 19 17 (.cmp .leq (t 18) (.const (.int .u8 122))),
 o 20 (.pick (t 17) (t 19) (b false))]
def f38r6 : List SOper := [
 o 21 (.mv (t 3)),
 o 22 (.mv (t 4)),
 o 23 (.mv (t 5)),
 o 24 (.ar .sub (t 23) (.const (.int .u8 97))),
 o 25 (.ar .add (t 24) (.const (.int .u8 65))),
 o 26 (.ixs 1 (t 21) (t 22)),
 q (.stb (t 26) (t 25))]
def f38r7 : List SOper := [
 o 27 (.ar .add (t 10) (i 1)),
 o 10 (.mv (t 27))]
def f38l8 : SCode := (.seq (.ops f38r3) (.seq (.cond (t 11) .skip (.exit 0)) (.seq (.block 1 (.seq (.ops f38r4) (.seq (.ops f38r5) (.cond (t 20) (.ops f38r6) .skip)))) (.ops f38r7))))
def f38r9 : List SOper := [
 o 28 (.mv (t 3)),
 o 29 (.bstr (t 28)),
 o 2 (.mv (t 29))]
def f38 : SCode := (.seq (.ops f38r0) (.seq (.ops f38r1) (.seq (.seq (.ops f38r2) (.block 0 (.loop f38l8))) (.seq (.ops f38r9) .ret))))
theorem f38_ok (oq : Nat → Value) (F : Nat → Prop) (h0 : Heap) : EntOK Tryz.prog oq F h0 38 (.code 30 f38 [.t 2]) := ⟨soundD_of (fl := false) mixed Tryz.func38 rfl (by kernel_rfl) (by kernel_rfl) (by kernel_rfl), soundF_of (fl := false) mixed Tryz.func38 rfl (by kernel_rfl) (by kernel_rfl) (by kernel_rfl)⟩

/-! 39: tabor/basics.Do$1 -/
def f39r0 : List SOper := [
 o 7 (.eqn 4 false (t 5))]
def f39r1 : List SOper := [
 o 2 (.mv (t 5))]
def f39r2 : List SOper := [
 o 8 (.tas 89 (.agg #[(.string ⟨#[]⟩)]) true (t 5)),
 o 9 (.ext (t 8) 1),
 o 10 (.ext (t 8) 0)]
def f39r3 : List SOper := [
 o 3 (.new [(.string ⟨#[]⟩)]),
 q (.st 1 (t 3) (t 10))]
def f39r4 : List SOper := [
 o 11 (.fa 0 (t 3)),
 o 12 (.ld1 (t 11)),
 o 13 (.call 20 [(t 12)]),
 q (.st 4 (t 0) (t 13)),
 q (.st 1 (t 1) (.const (.slice none 0 0)))]
def f39r5 : List SOper := [
 o 4 (.mv (t 5))]
def f39r6 : List SOper := [
 o 6 (.mv (t 4)),
 q (.pan (t 6))]
def f39 : SCode := (.seq (.rcv (some 5)) (.block 0 (.seq (.ops f39r0) (.cond (t 7) (.ops f39r1) (.seq (.ops f39r2) (.cond (t 9) (.seq (.ops f39r3) (.ops f39r4)) (.seq (.ops f39r5) (.ops f39r6))))))))
theorem f39_ok (oq : Nat → Value) (F : Nat → Prop) (h0 : Heap) : EntOK Tryz.prog oq F h0 39 (.code 14 f39 []) := ⟨soundD_of (fl := false) mixed Tryz.func39 rfl (by kernel_rfl) (by kernel_rfl) (by kernel_rfl), soundF_of (fl := false) mixed Tryz.func39 rfl (by kernel_rfl) (by kernel_rfl) (by kernel_rfl)⟩

/-! 49: (*tabor/keys.Keys).Look -/
def f49r0 : List SOper := [
 o 4 (.new [(.int .i64 0), (.string ⟨#[]⟩), (.slice none 0 0), (.slice none 0 0), (.slice none 0 0), (.bool false), (.int .i64 0)]),
 o 5 (.mv (b false))]
def f49r1 : List SOper := [
 o 6 (.mv (t 0)),
 o 7 (.call 52 [(t 6)]),
 o 8 (.mv (t 7)),
 n 9 8 (.mv (t 0)),
 n 10 8 (.nilck (t 9)),
 n 11 8 (.fa 0 (t 10)),
 n 12 8 (.ld1 (t 11)),
 n 13 8 (.nilck (t 12)),
 n 14 8 (.fa 0 (t 13)),
 n 15 8 (.ld1 (t 14)),
 n 16 8 (.mv (t 1)),
 n 17 8 (.look .str (.pointer none) false (t 15) (t 16)),
 n 18 8 (.eqn 0 false (t 17)),
 o 19 (.pick (t 8) (b true) (t 18))]
def f49r2 : List SOper := [
 o 20 (.build [(.int .i64 0), (.string ⟨#[]⟩), (.slice none 0 0), (.slice none 0 0), (.slice none 0 0), (.bool false), (.int .i64 0)] [] []),
 q (.st 7 (t 4) (t 20)),
 o 5 (.mv (b false))]
def f49r3 : List SOper := [
 o 21 (.mv (t 0)),
 o 22 (.nilck (t 21)),
 o 23 (.fa 0 (t 22)),
 o 24 (.ld1 (t 23)),
 o 25 (.nilck (t 24)),
 o 26 (.fa 0 (t 25)),
 o 27 (.ld1 (t 26)),
 o 28 (.mv (t 1)),
 o 29 (.look .str (.pointer none) false (t 27) (t 28)),
 o 30 (.nilck (t 29)),
 o 31 (.ldn 7 (t 30)),
 o 32 (.call 46 [(t 31)]),
 q (.st 7 (t 4) (t 32)),
 o 5 (.mv (b true))]
def f49 : SCode := (.seq (.ops f49r0) (.seq (.seq (.ops f49r1) (.cond (t 19) (.seq (.ops f49r2) .ret) .skip)) (.seq (.ops f49r3) .ret)))
theorem f49_ok (oq : Nat → Value) (F : Nat → Prop) (h0 : Heap) : EntOK Tryz.prog oq F h0 49 (.code 33 f49 [.cn 4 7, .t 5]) := ⟨soundD_of (fl := false) mixed Tryz.func49 rfl (by kernel_rfl) (by kernel_rfl) (by kernel_rfl), soundF_of (fl := false) mixed Tryz.func49 rfl (by kernel_rfl) (by kernel_rfl) (by kernel_rfl)⟩

/-! 50: (*tabor/keys.Keys).Get -/
def f50r0 : List SOper := [
 o 6 (.new [(.int .i64 0), (.string ⟨#[]⟩), (.slice none 0 0), (.slice none 0 0), (.slice none 0 0), (.bool false), (.int .i64 0)]),
 o 7 (.mv (b false))]
def f50r1 : List SOper := [
 o 11 (.mv (t 0)),
 o 12 (.mv (t 1)),
 o 13 (.call 49 [(t 11), (t 12)]),
 o 10 (.mv (t 13)),
 o 14 (.ext (t 10) 0),
 o 15 (.ext (t 10) 1),
 o 8 (.new [(.int .i64 0), (.string ⟨#[]⟩), (.slice none 0 0), (.slice none 0 0), (.slice none 0 0), (.bool false), (.int .i64 0)]),
 q (.st 7 (t 8) (t 14)),
 o 9 (.mv (t 15))]
def f50r2 : List SOper := [
 o 16 (.mv (t 9)),
 o 17 (.un .not (t 16)),
 o 18 (.mv (t 17)),
 n 19 18 (.ldn 7 (t 8)),
 n 20 18 (.mv (t 2)),
 n 21 18 (.call 103 [(t 19), (t 20)]),
 o 22 (.pick (t 18) (b true) (t 21))]
def f50r3 : List SOper := [
 o 23 (.build [(.int .i64 0), (.string ⟨#[]⟩), (.slice none 0 0), (.slice none 0 0), (.slice none 0 0), (.bool false), (.int .i64 0)] [] []),
 q (.st 7 (t 6) (t 23)),
 o 7 (.mv (b false))]
def f50r4 : List SOper := [
 o 24 (.ldn 7 (t 8)),
 q (.st 7 (t 6) (t 24)),
 o 7 (.mv (b true))]
def f50 : SCode := (.seq (.ops f50r0) (.seq (.ops f50r1) (.seq (.seq (.ops f50r2) (.cond (t 22) (.seq (.ops f50r3) .ret) .skip)) (.seq (.ops f50r4) .ret))))
theorem f50_ok (oq : Nat → Value) (F : Nat → Prop) (h0 : Heap) : EntOK Tryz.prog oq F h0 50 (.code 25 f50 [.cn 6 7, .t 7]) := ⟨soundD_of (fl := false) mixed Tryz.func50 rfl (by kernel_rfl) (by kernel_rfl) (by kernel_rfl), soundF_of (fl := false) mixed Tryz.func50 rfl (by kernel_rfl) (by kernel_rfl) (by kernel_rfl)⟩

/-! 52: (*tabor/keys.Keys).none -/
def f52r0 : List SOper := [
 o 2 (.mv (b false))]
def f52r1 : List SOper := [
 o 3 (.mv (t 0)),
 o 4 (.eqn 0 false (t 3)),
 o 5 (.mv (t 4)),
 n 6 5 (.mv (t 0)),
 n 7 5 (.nilck (t 6)),
 n 8 5 (.fa 0 (t 7)),
 n 9 5 (.ld1 (t 8)),
 n 10 5 (.eqn 0 false (t 9)),
 o 11 (.pick (t 5) (b true) (t 10)),
 o 2 (.mv (t 11))]
def f52 : SCode := (.seq (.ops f52r0) (.seq (.ops f52r1) .ret))
theorem f52_ok (oq : Nat → Value) (F : Nat → Prop) (h0 : Heap) : EntOK Tryz.prog oq F h0 52 (.code 12 f52 [.t 2]) := ⟨soundD_of (fl := false) mixed Tryz.func52 rfl (by kernel_rfl) (by kernel_rfl) (by kernel_rfl), soundF_of (fl := false) mixed Tryz.func52 rfl (by kernel_rfl) (by kernel_rfl) (by kernel_rfl)⟩

/-! 54: internal/strconv.ParseInt -/
def f54r0 : List SOper := [
 o 6 (.mv (i 0)),
 o 7 (.mv (.const .nilIface))]
def f54r1 : List SOper := [
 o 12 (.mv (t 0)),
 o 13 (.cmp .eql (t 12) e)]
def f54r2 : List SOper := [
 o 14 (.mki 155 (i 2)),
 o 6 (.mv (i 0)),
 o 7 (.mv (t 14))]
def f54r3 : List SOper := [
 o 8 (.mv (b false))]
def f54r4 : List SOper := [
 o 15 (.mv (t 0)),
 o 16 (.ixc (t 15) (i 0))]
def f54r5 : List SOper := [
 o 18 (.cmp .eql (t 16) (.const (.int .u8 43))),
 o 17 (.mv (t 18))]
def f54r6 : List SOper := [
 o 19 (.mv (t 0)),
 o 20 (.sls (t 19) (some (i 1)) none),
 o 0 (.mv (t 20))]
def f54r7 : List SOper := [
 o 22 (.cmp .eql (t 16) (.const (.int .u8 45))),
 o 21 (.mv (t 22))]
def f54r8 : List SOper := [
 o 23 (.mv (t 0)),
 o 24 (.sls (t 23) (some (i 1)) none),
 o 0 (.mv (t 24))]
def f54r9 : List SOper := [
 o 8 (.mv (b true))]
def f54r10 : List SOper := [
 o 9 (.mv (.const (.int .u64 0)))]
def f54r11 : List SOper := [
 o 26 (.mv (t 0)),
 o 27 (.mv (t 1)),
 o 28 (.mv (t 2)),
 o 29 (.call 105 [(t 26), (t 27), (t 28)]),
 o 25 (.mv (t 29)),
 o 30 (.ext (t 25) 0),
 o 31 (.ext (t 25) 1),
 o 9 (.mv (t 30)),
 o 7 (.mv (t 31))]
def f54r12 : List SOper := [
 o 32 (.mv (t 7)),
 o 33 (.eqn 4 true (t 32)),
 o 34 (.mv (t 33)),
 g 35 34 (.mv (t 7)),
 g 36 34 (.mki 155 (i 1)),
 g 37 34 (.eqi true (t 35) (t 36)),
 o 38 (.pick (t 34) (t 37) (b false))]
def f54r13 : List SOper := [
 o 39 (.mv (t 7)),
 o 6 (.mv (i 0)),
 o 7 (.mv (t 39))]
def f54r14 : List SOper := [
 o 40 (.mv (t 2)),
 o 41 (.cmp .eql (t 40) (i 0))]
def f54r15 : List SOper := [
 o 2 (.mv (i 64))]
def f54r16 : List SOper := [
 o 42 (.mv (t 2)),
 o 43 (.ar .sub (t 42) (i 1)),
 o 44 (.cvt .u64 (t 43)),
 o 45 (.shv .u64 true (.const (.int .u64 1)) (t 44)),
 o 10 (.mv (t 45))]
def f54r17 : List SOper := [
 o 46 (.mv (t 8)),
 o 47 (.un .not (t 46)),
 o 48 (.mv (t 47)),
 g 49 48 (.mv (t 9)),
 g 50 48 (.mv (t 10)),
 g 51 48 (.cmp .geq (t 49) (t 50)),
 o 52 (.pick (t 48) (t 51) (b false))]
def f54r18 : List SOper := [
 o 53 (.mv (t 10)),
 o 54 (.ar .sub (t 53) (.const (.int .u64 1))),
 o 55 (.cvt .i64 (t 54)),
 o 56 (.mki 155 (i 1)),
 o 6 (.mv (t 55)),
 o 7 (.mv (t 56))]
def f54r19 : List SOper := [
 o 57 (.mv (t 8)),
 o 58 (.mv (t 57)),
 g 59 58 (.mv (t 9)),
 g 60 58 (.mv (t 10)),
 g 61 58 (.cmp .gtr (t 59) (t 60)),
 o 62 (.pick (t 58) (t 61) (b false))]
def f54r20 : List SOper := [
 o 63 (.mv (t 10)),
 o 64 (.cvt .i64 (t 63)),
 o 65 (.un .neg (t 64)),
 o 66 (.mki 155 (i 1)),
 o 6 (.mv (t 65)),
 o 7 (.mv (t 66))]
def f54r21 : List SOper := [
 o 67 (.mv (t 9)),
 o 68 (.cvt .i64 (t 67)),
 o 11 (.mv (t 68))]
def f54r22 : List SOper := [
 o 69 (.mv (t 8))]
def f54r23 : List SOper := [
 o 70 (.mv (t 11)),
 o 71 (.un .neg (t 70)),
 o 11 (.mv (t 71))]
def f54r24 : List SOper := [
 o 72 (.mv (t 11)),
 o 6 (.mv (t 72)),
 o 7 (.mv (.const .nilIface))]
def f54 : SCode := (.seq (.ops f54r0) (.seq (.seq (.ops f54r1) (.cond (t 13) (.seq (.ops f54r2) .ret) .skip)) (.seq (.ops f54r3) (.seq (.seq (.ops f54r4) (.block 0 (.seq (.ops f54r5) (.cond (t 17) (.ops f54r6) (.seq (.ops f54r7) (.cond (t 21) (.seq (.ops f54r8) (.ops f54r9)) .skip)))))) (.seq (.ops f54r10) (.seq (.ops f54r11) (.seq (.seq (.ops f54r12) (.cond (t 38) (.seq (.ops f54r13) .ret) .skip)) (.seq (.seq (.ops f54r14) (.cond (t 41) (.ops f54r15) .skip)) (.seq (.ops f54r16) (.seq (.seq (.ops f54r17) (.cond (t 52) (.seq (.ops f54r18) .ret) .skip)) (.seq (.seq (.ops f54r19) (.cond (t 62) (.seq (.ops f54r20) .ret) .skip)) (.seq (.ops f54r21) (.seq (.seq (.ops f54r22) (.cond (t 69) (.ops f54r23) .skip)) (.seq (.ops f54r24) .ret))))))))))))))
theorem f54_ok (oq : Nat → Value) (F : Nat → Prop) (h0 : Heap) : EntOK Tryz.prog oq F h0 54 (.code 73 f54 [.t 6, .t 7]) := ⟨soundD_of (fl := false) mixed Tryz.func54 rfl (by kernel_rfl) (by kernel_rfl) (by kernel_rfl), soundF_of (fl := false) mixed Tryz.func54 rfl (by kernel_rfl) (by kernel_rfl) (by kernel_rfl)⟩

/-! 56: internal/strconv.FormatInt -/
def f56r0 : List SOper := [
 o 4 (.mv e)]
def f56r1 : List SOper := [
 o 10 (.mv (t 1)),
 o 11 (.cmp .eql (t 10) (i 10))]
def f56r2 : List SOper := [
 o 12 (.mv (t 0)),
 o 13 (.cmp .leq (i 0) (t 12)),
 o 14 (.mv (t 13)),
 g 15 14 (.mv (t 0)),
 g 16 14 (.cmp .lss (t 15) (i 100)),
 o 17 (.pick (t 14) (t 16) (b false))]
def f56r3 : List SOper := [
 o 18 (.mv (t 0)),
 o 19 (.call 110 [(t 18)]),
 o 4 (.mv (t 19))]
def f56r4 : List SOper := [
 o 5 (.new (List.replicate 24 (.int .u8 0)))]
def f56r5 : List SOper := [
 o 20 (.mv (t 0)),
 o 21 (.cvt .u64 (t 20)),
 o 6 (.mv (t 21))]
def f56r6 : List SOper := [
 o 22 (.mv (t 0)),
 o 23 (.cmp .lss (t 22) (i 0))]
def f56r7 : List SOper := [
 o 24 (.mv (t 6)),
 o 25 (.un .neg (t 24)),
 o 6 (.mv (t 25))]
def f56r8 : List SOper := [
 o 26 (.mv (t 6)),
 o 27 (.call 111 [(t 26)]),
 o 7 (.mv (t 27))]
def f56r9 : List SOper := [
 o 28 (.mv (t 7)),
 o 29 (.ar .add (i 1) (t 28)),
 o 30 (.slp 24 1 (t 5) (some (i 1)) (some (t 29))),
 o 31 (.mv (t 6)),
 o 32 (.call 112 [(t 30), (t 31)])]
def f56r10 : List SOper := [
 o 33 (.mv (t 0)),
 o 34 (.cmp .lss (t 33) (i 0))]
def f56r11 : List SOper := [
 o 35 (.ixa 24 1 (t 5) (i 0)),
 q (.stb (t 35) (.const (.int .u8 45)))]
def f56r12 : List SOper := [
 o 36 (.mv (t 7)),
 o 37 (.ar .add (i 1) (t 36)),
 o 38 (.slp 24 1 (t 5) none (some (t 37))),
 o 39 (.bstr (t 38)),
 o 4 (.mv (t 39))]
def f56r13 : List SOper := [
 o 40 (.mv (t 7)),
 o 41 (.ar .add (i 1) (t 40)),
 o 42 (.slp 24 1 (t 5) (some (i 1)) (some (t 41))),
 o 43 (.bstr (t 42)),
 o 4 (.mv (t 43))]
def f56r14 : List SOper := [
 o 45 (.mv (t 0)),
 o 46 (.cvt .u64 (t 45)),
 o 47 (.mv (t 1)),
 o 48 (.mv (t 0)),
 o 49 (.cmp .lss (t 48) (i 0)),
 o 50 (.call 113 [(.const (.slice none 0 0)), (t 46), (t 47), (t 49), (b false)]),
 o 44 (.mv (t 50)),
 o 51 (.ext (t 44) 0),
 o 52 (.ext (t 44) 1),
 o 8 (.mv (t 51)),
 o 9 (.mv (t 52))]
def f56r15 : List SOper := [
 o 53 (.mv (t 9)),
 o 4 (.mv (t 53))]
def f56 : SCode := (.seq (.ops f56r0) (.seq (.seq (.ops f56r1) (.cond (t 11) (.seq (.seq (.ops f56r2) (.cond (t 17) (.seq (.ops f56r3) .ret) .skip)) (.seq (.ops f56r4) (.seq (.ops f56r5) (.seq (.seq (.ops f56r6) (.cond (t 23) (.ops f56r7) .skip)) (.seq (.ops f56r8) (.seq (.ops f56r9) (.seq (.seq (.ops f56r10) (.cond (t 34) (.seq (.ops f56r11) (.seq (.ops f56r12) .ret)) .skip)) (.seq (.ops f56r13) .ret)))))))) .skip)) (.seq (.ops f56r14) (.seq (.ops f56r15) .ret))))
theorem f56_ok (oq : Nat → Value) (F : Nat → Prop) (h0 : Heap) : EntOK Tryz.prog oq F h0 56 (.code 54 f56 [.t 4]) := ⟨soundD_of (fl := false) mixed Tryz.func56 rfl (by kernel_rfl) (by kernel_rfl) (by kernel_rfl), soundF_of (fl := false) mixed Tryz.func56 rfl (by kernel_rfl) (by kernel_rfl) (by kernel_rfl)⟩

/-! 65: tabor/basics.step -/
def f65r0 : List SOper := [
 o 1 (.box (t 0)),
 o 2 (.mv (.const .nilFunc))]
def f65r1 : List SOper := [
 o 3 (.fn 125 [] [(t 1)]),
 o 2 (.mv (t 3))]
def f65 : SCode := (.seq (.ops f65r0) (.seq (.ops f65r1) .ret))
theorem f65_ok (oq : Nat → Value) (F : Nat → Prop) (h0 : Heap) : EntOK Tryz.prog oq F h0 65 (.code 4 f65 [.t 2]) := ⟨soundD_of (fl := false) mixed Tryz.func65 rfl (by kernel_rfl) (by kernel_rfl) (by kernel_rfl), soundF_of (fl := false) mixed Tryz.func65 rfl (by kernel_rfl) (by kernel_rfl) (by kernel_rfl)⟩

/-! 67: (*tabor/basics.asked).many -/
def f67r0 : List SOper := [
 o 6 (.mv (t 0)),
 o 7 (.nilck (t 6)),
 o 8 (.fa 2 (t 7)),
 o 9 (.ld1 (t 8)),
 o 10 (.len (t 9)),
 o 11 (.mv (t 1)),
 o 12 (.cmp .geq (t 10) (t 11)),
 o 13 (.mv (t 12)),
 g 14 13 (.mv (t 0)),
 g 15 13 (.nilck (t 14)),
 g 16 13 (.fa 2 (t 15)),
 g 17 13 (.ld1 (t 16)),
 g 18 13 (.len (t 17)),
 g 19 13 (.mv (t 2)),
 g 20 13 (.cmp .leq (t 18) (t 19)),
 o 21 (.pick (t 13) (t 20) (b false)),
 o 22 (.call 117 [(t 21), (.const (.string ⟨#[69, 82, 82, 32, 97, 114, 103, 115]⟩))])]
def f67 : SCode := (.ops f67r0)
theorem f67_ok (oq : Nat → Value) (F : Nat → Prop) (h0 : Heap) : EntOK Tryz.prog oq F h0 67 (.code 23 f67 []) := ⟨soundD_of (fl := false) mixed Tryz.func67 rfl (by kernel_rfl) (by kernel_rfl) (by kernel_rfl), soundF_of (fl := false) mixed Tryz.func67 rfl (by kernel_rfl) (by kernel_rfl) (by kernel_rfl)⟩

/-! 68: tabor/basics.by -/
def f68r0 : List SOper := [
 o 4 (.new [(.int .i64 0), (.int .i64 0), (.string ⟨#[]⟩), (.slice none 0 0)])]
def f68r1 : List SOper := [
 o 10 (.mv (t 0)),
 o 11 (.mv (t 0)),
 o 12 (.nilck (t 11)),
 o 13 (.fa 2 (t 12)),
 o 14 (.ld1 (t 13)),
 o 15 (.ixs 1 (t 14) (i 0)),
 o 16 (.ld1 (t 15)),
 o 17 (.call 122 [(t 10), (t 16)]),
 o 9 (.mv (t 17)),
 o 18 (.ext (t 9) 0),
 o 19 (.ext (t 9) 1),
 o 5 (.mv (t 18)),
 o 6 (.mv (t 19))]
def f68r2 : List SOper := [
 o 20 (.mv (t 6)),
 o 21 (.un .not (t 20))]
def f68r3 : List SOper := [
 o 5 (.mv (.const (.string ⟨#[48]⟩)))]
def f68r4 : List SOper := [
 o 23 (.mv (t 5)),
 o 24 (.call 12 [(t 23)]),
 o 22 (.mv (t 24)),
 o 25 (.ext (t 22) 0),
 o 26 (.ext (t 22) 1),
 o 7 (.mv (t 25)),
 o 8 (.mv (t 26))]
def f68r5 : List SOper := [
 o 27 (.mv (t 8)),
 o 28 (.call 117 [(t 27), (.const (.string ⟨#[69, 82, 82, 32, 110, 117, 109, 98, 101, 114]⟩))])]
def f68r6 : List SOper := [
 o 29 (.mv (t 7)),
 o 30 (.mv (t 1)),
 o 31 (.call 118 [(t 29), (t 30)]),
 o 7 (.mv (t 31))]
def f68t7 : OTree := (.one (o 32 (.mv (t 0)))
 (.one (o 33 (.mv (t 0)))
 (.one (o 34 (.nilck (t 33)))
 (.one (o 35 (.fa 2 (t 34)))
 (.one (o 39 (.mv (t 7)))
 (.one (o 36 (.ld1 (t 35)))
 (.one (o 37 (.ixs 1 (t 36) (i 0)))
 (.chk [o 36 (.ld1 (t 35))] (.one (o 38 (.ld1 (t 37)))
 (.one (o 40 (.call 33 [(t 39), (i 10)]))
 (.chk [o 38 (.ld1 (t 37)), o 36 (.ld1 (t 35))] (.one (o 41 (.call 119 [(t 32), (t 38), (t 40), (b true)]))
 .done))))))))))))
def f68r8 : List SOper := [
 o 42 (.mv (t 7)),
 o 43 (.call 124 [(t 42)]),
 q (.st 4 (t 4) (t 43))]
def f68 : SCode := (.seq (.ops f68r0) (.seq (.ops f68r1) (.seq (.seq (.ops f68r2) (.cond (t 21) (.ops f68r3) .skip)) (.seq (.ops f68r4) (.seq (.ops f68r5) (.seq (.ops f68r6) (.seq (.tree [32, 33, 34, 35, 36, 37, 38, 39, 40, 41] f68t7) (.seq (.ops f68r8) .ret))))))))
theorem f68_ok (oq : Nat → Value) (F : Nat → Prop) (h0 : Heap) : EntOK Tryz.prog oq F h0 68 (.code 44 f68 [.cn 4 4]) := ⟨soundD_of (fl := false) mixed Tryz.func68 rfl (by kernel_rfl) (by kernel_rfl) (by kernel_rfl), soundF_of (fl := false) mixed Tryz.func68 rfl (by kernel_rfl) (by kernel_rfl) (by kernel_rfl)⟩

/-! 105: internal/strconv.ParseUint -/
def f105r0 : List SOper := [
 o 6 (.mv (.const (.int .u64 0))),
 o 7 (.mv (.const .nilIface))]
def f105r1 : List SOper := [
 o 18 (.mv (t 0)),
 o 19 (.cmp .eql (t 18) e)]
def f105r2 : List SOper := [
 o 20 (.mki 155 (i 2)),
 o 6 (.mv (.const (.int .u64 0))),
 o 7 (.mv (t 20))]
def f105r3 : List SOper := [
 o 21 (.mv (t 1)),
 o 22 (.cmp .eql (t 21) (i 0)),
 o 8 (.mv (t 22))]
def f105r4 : List SOper := [
 o 23 (.mv (t 0)),
 o 9 (.mv (t 23))]
def f105r5 : List SOper := [
 o 26 (.mv (t 1)),
 o 27 (.cmp .leq (i 2) (t 26)),
 o 28 (.mv (t 27)),
 g 29 28 (.mv (t 1)),
 g 30 28 (.cmp .leq (t 29) (i 36)),
 o 31 (.pick (t 28) (t 30) (b false)),
 o 25 (.mv (t 31))]
def f105r6 : List SOper := [
 o 33 (.mv (t 1)),
 o 34 (.cmp .eql (t 33) (i 0)),
 o 32 (.mv (t 34))]
def f105r7 : List SOper := [
 o 1 (.mv (i 10))]
def f105r8 : List SOper := [
 o 35 (.mv (t 0)),
 o 36 (.ixc (t 35) (i 0)),
 o 37 (.cmp .eql (t 36) (.const (.int .u8 48)))]
def f105r9 : List SOper := [
 o 41 (.mv (t 0)),
 o 42 (.lens (t 41)),
 o 43 (.cmp .geq (t 42) (i 3)),
 o 44 (.mv (t 43)),
 g 45 44 (.mv (t 0)),
 g 46 44 (.ixc (t 45) (i 1)),
 g 47 44 (.call 163 [(t 46)]),
 g 48 44 (.cmp .eql (t 47) (.const (.int .u8 98))),
 o 49 (.pick (t 44) (t 48) (b false)),
 o 40 (.mv (t 49))]
def f105r10 : List SOper := [
 o 1 (.mv (i 2))]
def f105r11 : List SOper := [
 o 50 (.mv (t 0)),
 o 51 (.sls (t 50) (some (i 2)) none),
 o 0 (.mv (t 51))]
def f105r12 : List SOper := [
 o 53 (.mv (t 0)),
 o 54 (.lens (t 53)),
 o 55 (.cmp .geq (t 54) (i 3)),
 o 56 (.mv (t 55)),
 g 57 56 (.mv (t 0)),
 g 58 56 (.ixc (t 57) (i 1)),
 g 59 56 (.call 163 [(t 58)]),
 g 60 56 (.cmp .eql (t 59) (.const (.int .u8 111))),
 o 61 (.pick (t 56) (t 60) (b false)),
 o 52 (.mv (t 61))]
def f105r13 : List SOper := [
 o 1 (.mv (i 8))]
def f105r14 : List SOper := [
 o 62 (.mv (t 0)),
 o 63 (.sls (t 62) (some (i 2)) none),
 o 0 (.mv (t 63))]
def f105r15 : List SOper := [
 o 65 (.mv (t 0)),
 o 66 (.lens (t 65)),
 o 67 (.cmp .geq (t 66) (i 3)),
 o 68 (.mv (t 67)),
 g 69 68 (.mv (t 0)),
 g 70 68 (.ixc (t 69) (i 1)),
 g 71 68 (.call 163 [(t 70)]),
 g 72 68 (.cmp .eql (t 71) (.const (.int .u8 120))),
 o 73 (.pick (t 68) (t 72) (b false)),
 o 64 (.mv (t 73))]
def f105r16 : List SOper := [
 o 1 (.mv (i 16))]
def f105r17 : List SOper := [
 o 74 (.mv (t 0)),
 o 75 (.sls (t 74) (some (i 2)) none),
 o 0 (.mv (t 75))]
def f105r18 : List SOper := [
 o 1 (.mv (i 8))]
def f105r19 : List SOper := [
 o 38 (.mv (t 0)),
 o 39 (.sls (t 38) (some (i 1)) none),
 o 0 (.mv (t 39))]
def f105r20 : List SOper := [
 o 24 (.mki 155 (i 3)),
 o 6 (.mv (.const (.int .u64 0))),
 o 7 (.mv (t 24))]
def f105r21 : List SOper := [
 o 76 (.mv (t 2)),
 o 77 (.cmp .eql (t 76) (i 0))]
def f105r22 : List SOper := [
 o 2 (.mv (i 64))]
def f105r23 : List SOper := [
 o 78 (.mv (t 2)),
 o 79 (.cmp .lss (t 78) (i 0)),
 o 80 (.mv (t 79)),
 n 81 80 (.mv (t 2)),
 n 82 80 (.cmp .gtr (t 81) (i 64)),
 o 83 (.pick (t 80) (b true) (t 82))]
def f105r24 : List SOper := [
 o 84 (.mki 155 (i 4)),
 o 6 (.mv (.const (.int .u64 0))),
 o 7 (.mv (t 84))]
def f105r25 : List SOper := [
 o 10 (.mv (.const (.int .u64 0)))]
def f105r26 : List SOper := [
 o 85 (.mv (t 1))]
def f105r27 : List SOper := [
 o 91 (.cmp .eql (t 85) (i 10)),
 o 90 (.mv (t 91))]
def f105r28 : List SOper := [
 o 10 (.mv (.const (.int .u64 1844674407370955162)))]
def f105r29 : List SOper := [
 o 93 (.cmp .eql (t 85) (i 16)),
 o 92 (.mv (t 93))]
def f105r30 : List SOper := [
 o 10 (.mv (.const (.int .u64 1152921504606846976)))]
def f105r31 : List SOper := [
 o 86 (.mv (t 1)),
 o 87 (.cvt .u64 (t 86)),
 o 88 (.quo (.const (.int .u64 18446744073709551615)) (t 87)),
 o 89 (.ar .add (t 88) (.const (.int .u64 1))),
 o 10 (.mv (t 89))]
def f105r32 : List SOper := [
 o 94 (.mv (t 2)),
 o 95 (.cvt .u64 (t 94)),
 o 96 (.shv .u64 true (.const (.int .u64 1)) (t 95)),
 o 97 (.ar .sub (t 96) (.const (.int .u64 1))),
 o 11 (.mv (t 97))]
def f105r33 : List SOper := [
 o 12 (.mv (b false))]
def f105r34 : List SOper := [
 o 13 (.mv (.const (.int .u64 0)))]
def f105r35 : List SOper := [
 o 98 (.mv (t 0)),
 o 99 (.byts (t 98)),
 o 100 (.len (t 99)),
 o 101 (.mv (i 0))]
def f105r36 : List SOper := [
 o 102 (.cmp .lss (t 101) (t 100))]
def f105r37 : List SOper := [
 o 103 (.ixs 1 (t 99) (t 101)),
 o 104 (.ld1 (t 103)),
 o 15 (.mv (t 104))]
def f105r38 : List SOper := [
 o 16 (.mv (.const (.int .u8 0)))]
def f105r39 : List SOper := [
 o 107 (.mv (t 15)),
 o 108 (.cmp .eql (t 107) (.const (.int .u8 95))),
 o 109 (.mv (t 108)),
 g 110 109 (.mv (t 8)),
 o 111 (.pick (t 109) (t 110) (b false)),
 o 106 (.mv (t 111))]
def f105r40 : List SOper := [
 o 12 (.mv (b true))]
def f105r41 : List SOper := [
 o 113 (.mv (t 15)),
 o 114 (.cmp .leq (.const (.int .u8 48)) (t 113)),
 o 115 (.mv (t 114)),
 g 116 115 (.mv (t 15)),
 g 117 115 (.cmp .leq (t 116) (.const (.int .u8 57))),
 o 118 (.pick (t 115) (t 117) (b false)),
 o 112 (.mv (t 118))]
def f105r42 : List SOper := [
 o 119 (.mv (t 15)),
 o 120 (.ar .sub (t 119) (.const (.int .u8 48))),
 o 16 (.mv (t 120))]
def f105r43 : List SOper := [
 o 122 (.mv (t 15)),
 o 123 (.call 163 [(t 122)]),
 o 124 (.cmp .leq (.const (.int .u8 97)) (t 123)),
 o 125 (.mv (t 124)),
 g 126 125 (.mv (t 15)),
 g 127 125 (.call 163 [(t 126)]),
 g 128 125 (.cmp .leq (t 127) (.const (.int .u8 122))),
 o 129 (.pick (t 125) (t 128) (b false)),
 o 121 (.mv (t 129))]
def f105r44 : List SOper := [
 o 130 (.mv (t 15)),
 o 131 (.call 163 [(t 130)]),
 o 132 (.ar .sub (t 131) (.const (.int .u8 97))),
 o 133 (.ar .add (t 132) (.const (.int .u8 10))),
 o 16 (.mv (t 133))]
def f105r45 : List SOper := [
 o 105 (.mki 155 (i 2)),
 o 6 (.mv (.const (.int .u64 0))),
 o 7 (.mv (t 105))]
def f105r46 : List SOper := [
 o 134 (.mv (t 16)),
 o 135 (.mv (t 1)),
 o 136 (.cvt .u8 (t 135)),
 o 137 (.cmp .geq (t 134) (t 136))]
def f105r47 : List SOper := [
 o 138 (.mki 155 (i 2)),
 o 6 (.mv (.const (.int .u64 0))),
 o 7 (.mv (t 138))]
def f105r48 : List SOper := [
 o 139 (.mv (t 13)),
 o 140 (.mv (t 10)),
 o 141 (.cmp .geq (t 139) (t 140))]
def f105r49 : List SOper := [
 o 142 (.mv (t 11)),
 o 143 (.mki 155 (i 1)),
 o 6 (.mv (t 142)),
 o 7 (.mv (t 143))]
def f105r50 : List SOper := [
 o 144 (.mv (t 13)),
 o 145 (.mv (t 1)),
 o 146 (.cvt .u64 (t 145)),
 o 147 (.ar .mul (t 144) (t 146)),
 o 13 (.mv (t 147))]
def f105r51 : List SOper := [
 o 148 (.mv (t 13)),
 o 149 (.mv (t 16)),
 o 150 (.cvt .u64 (t 149)),
 o 151 (.ar .add (t 148) (t 150)),
 o 17 (.mv (t 151))]
def f105r52 : List SOper := [
 o 152 (.mv (t 17)),
 o 153 (.mv (t 13)),
 o 154 (.cmp .lss (t 152) (t 153)),
 o 155 (.mv (t 154)),
 n 156 155 (.mv (t 17)),
 n 157 155 (.mv (t 11)),
 n 158 155 (.cmp .gtr (t 156) (t 157)),
 o 159 (.pick (t 155) (b true) (t 158))]
def f105r53 : List SOper := [
 o 160 (.mv (t 11)),
 o 161 (.mki 155 (i 1)),
 o 6 (.mv (t 160)),
 o 7 (.mv (t 161))]
def f105r54 : List SOper := [
 o 162 (.mv (t 17)),
 o 13 (.mv (t 162))]
def f105r55 : List SOper := [
 o 163 (.ar .add (t 101) (i 1)),
 o 101 (.mv (t 163))]
def f105l56 : SCode := (.seq (.ops f105r36) (.seq (.cond (t 102) .skip (.exit 3)) (.seq (.block 4 (.seq (.ops f105r37) (.seq (.ops f105r38) (.seq (.block 5 (.seq (.ops f105r39) (.cond (t 106) (.seq (.ops f105r40) (.exit 4)) (.seq (.ops f105r41) (.cond (t 112) (.ops f105r42) (.seq (.ops f105r43) (.cond (t 121) (.ops f105r44) (.seq (.ops f105r45) .ret)))))))) (.seq (.seq (.ops f105r46) (.cond (t 137) (.seq (.ops f105r47) .ret) .skip)) (.seq (.seq (.ops f105r48) (.cond (t 141) (.seq (.ops f105r49) .ret) .skip)) (.seq (.ops f105r50) (.seq (.ops f105r51) (.seq (.seq (.ops f105r52) (.cond (t 159) (.seq (.ops f105r53) .ret) .skip)) (.ops f105r54)))))))))) (.ops f105r55))))
def f105r57 : List SOper := [
 o 164 (.mv (t 12)),
 o 165 (.mv (t 164)),
 g 166 165 (.mv (t 9)),
 g 167 165 (.call 164 [(t 166)]),
 g 168 165 (.un .not (t 167)),
 o 169 (.pick (t 165) (t 168) (b false))]
def f105r58 : List SOper := [
 o 170 (.mki 155 (i 2)),
 o 6 (.mv (.const (.int .u64 0))),
 o 7 (.mv (t 170))]
def f105r59 : List SOper := [
 o 171 (.mv (t 13)),
 o 6 (.mv (t 171)),
 o 7 (.mv (.const .nilIface))]
def f105 : SCode := (.seq (.ops f105r0) (.seq (.seq (.ops f105r1) (.cond (t 19) (.seq (.ops f105r2) .ret) .skip)) (.seq (.ops f105r3) (.seq (.ops f105r4) (.seq (.block 0 (.seq (.ops f105r5) (.cond (t 25) .skip (.seq (.ops f105r6) (.cond (t 32) (.seq (.ops f105r7) (.seq (.ops f105r8) (.cond (t 37) (.block 1 (.seq (.ops f105r9) (.cond (t 40) (.seq (.ops f105r10) (.ops f105r11)) (.seq (.ops f105r12) (.cond (t 52) (.seq (.ops f105r13) (.ops f105r14)) (.seq (.ops f105r15) (.cond (t 64) (.seq (.ops f105r16) (.ops f105r17)) (.seq (.ops f105r18) (.ops f105r19))))))))) .skip))) (.seq (.ops f105r20) .ret)))))) (.seq (.seq (.ops f105r21) (.cond (t 77) (.ops f105r22) (.seq (.ops f105r23) (.cond (t 83) (.seq (.ops f105r24) .ret) .skip)))) (.seq (.ops f105r25) (.seq (.seq (.ops f105r26) (.block 2 (.seq (.ops f105r27) (.cond (t 90) (.ops f105r28) (.seq (.ops f105r29) (.cond (t 92) (.ops f105r30) (.ops f105r31))))))) (.seq (.ops f105r32) (.seq (.ops f105r33) (.seq (.ops f105r34) (.seq (.seq (.ops f105r35) (.block 3 (.loop f105l56))) (.seq (.seq (.ops f105r57) (.cond (t 169) (.seq (.ops f105r58) .ret) .skip)) (.seq (.ops f105r59) .ret))))))))))))))
theorem f105_ok (oq : Nat → Value) (F : Nat → Prop) (h0 : Heap) : EntOK Tryz.prog oq F h0 105 (.code 172 f105 [.t 6, .t 7]) := ⟨soundD_of (fl := false) mixed Tryz.func105 rfl (by kernel_rfl) (by kernel_rfl) (by kernel_rfl), soundF_of (fl := false) mixed Tryz.func105 rfl (by kernel_rfl) (by kernel_rfl) (by kernel_rfl)⟩

/-! 110: internal/strconv.small -/
def f110r0 : List SOper := [
 o 2 (.mv e)]
def f110r1 : List SOper := [
 o 3 (.mv (t 0)),
 o 4 (.cmp .lss (t 3) (i 10))]
def f110r2 : List SOper := [
 o 5 (.mv (t 0)),
 o 6 (.mv (t 0)),
 o 7 (.ar .add (t 6) (i 1)),
 o 8 (.sls (.const (.string ⟨#[48, 49, 50, 51, 52, 53, 54, 55, 56, 57, 97, 98, 99, 100, 101, 102, 103, 104, 105, 106, 107, 108, 109, 110, 111, 112, 113, 114, 115, 116, 117, 118, 119, 120, 121, 122]⟩)) (some (t 5)) (some (t 7))),
 o 2 (.mv (t 8))]
def f110r3 : List SOper := [
 o 9 (.mv (t 0)),
 o 10 (.ar .mul (t 9) (i 2)),
 o 11 (.mv (t 0)),
 o 12 (.ar .mul (t 11) (i 2)),
 o 13 (.ar .add (t 12) (i 2)),
 o 14 (.sls (.const (.string ⟨#[48, 48, 48, 49, 48, 50, 48, 51, 48, 52, 48, 53, 48, 54, 48, 55, 48, 56, 48, 57, 49, 48, 49, 49, 49, 50, 49, 51, 49, 52, 49, 53, 49, 54, 49, 55, 49, 56, 49, 57, 50, 48, 50, 49, 50, 50, 50, 51, 50, 52, 50, 53, 50, 54, 50, 55, 50, 56, 50, 57, 51, 48, 51, 49, 51, 50, 51, 51, 51, 52, 51, 53, 51, 54, 51, 55, 51, 56, 51, 57, 52, 48, 52, 49, 52, 50, 52, 51, 52, 52, 52, 53, 52, 54, 52, 55, 52, 56, 52, 57, 53, 48, 53, 49, 53, 50, 53, 51, 53, 52, 53, 53, 53, 54, 53, 55, 53, 56, 53, 57, 54, 48, 54, 49, 54, 50, 54, 51, 54, 52, 54, 53, 54, 54, 54, 55, 54, 56, 54, 57, 55, 48, 55, 49, 55, 50, 55, 51, 55, 52, 55, 53, 55, 54, 55, 55, 55, 56, 55, 57, 56, 48, 56, 49, 56, 50, 56, 51, 56, 52, 56, 53, 56, 54, 56, 55, 56, 56, 56, 57, 57, 48, 57, 49, 57, 50, 57, 51, 57, 52, 57, 53, 57, 54, 57, 55, 57, 56, 57, 57]⟩)) (some (t 10)) (some (t 13))),
 o 2 (.mv (t 14))]
def f110 : SCode := (.seq (.ops f110r0) (.seq (.seq (.ops f110r1) (.cond (t 4) (.seq (.ops f110r2) .ret) .skip)) (.seq (.ops f110r3) .ret)))
theorem f110_ok (oq : Nat → Value) (F : Nat → Prop) (h0 : Heap) : EntOK Tryz.prog oq F h0 110 (.code 15 f110 [.t 2]) := ⟨soundD_of (fl := false) mixed Tryz.func110 rfl (by kernel_rfl) (by kernel_rfl) (by kernel_rfl), soundF_of (fl := false) mixed Tryz.func110 rfl (by kernel_rfl) (by kernel_rfl) (by kernel_rfl)⟩

/-! 117: tabor/basics.must -/
def f117r0 : List SOper := [
 o 4 (.mv (t 0)),
 o 5 (.un .not (t 4))]
def f117r1 : List SOper := [
 o 6 (.mv (t 1)),
 o 7 (.build [(.string ⟨#[]⟩)] [(0, 1)] [(t 6)]),
 o 8 (.mki 89 (t 7)),
 q (.pan (t 8))]
def f117 : SCode := (.seq (.ops f117r0) (.cond (t 5) (.ops f117r1) .skip))
theorem f117_ok (oq : Nat → Value) (F : Nat → Prop) (h0 : Heap) : EntOK Tryz.prog oq F h0 117 (.code 9 f117 []) := ⟨soundD_of (fl := false) mixed Tryz.func117 rfl (by kernel_rfl) (by kernel_rfl) (by kernel_rfl), soundF_of (fl := false) mixed Tryz.func117 rfl (by kernel_rfl) (by kernel_rfl) (by kernel_rfl)⟩

/-! 118: tabor/basics.plus -/
def f118r0 : List SOper := [
 o 4 (.mv (i 0))]
def f118r1 : List SOper := [
 o 5 (.mv (t 1)),
 o 6 (.cmp .geq (t 5) (i 0)),
 o 7 (.mv (t 6)),
 g 8 7 (.mv (t 0)),
 g 9 7 (.mv (t 1)),
 g 10 7 (.ar .sub (i 9223372036854775807) (t 9)),
 g 11 7 (.cmp .leq (t 8) (t 10)),
 o 12 (.pick (t 7) (t 11) (b false)),
 o 13 (.mv (t 12)),
 n 14 13 (.mv (t 1)),
 n 15 13 (.cmp .lss (t 14) (i 0)),
 n 16 13 (.mv (t 15)),
 g 17 16 (.mv (t 0)),
 g 18 16 (.mv (t 1)),
 g 19 16 (.ar .sub (i (-9223372036854775808)) (t 18)),
 g 20 16 (.cmp .geq (t 17) (t 19)),
 n 21 13 (.pick (t 16) (t 20) (b false)),
 o 22 (.pick (t 13) (b true) (t 21)),
 o 23 (.call 117 [(t 22), (.const (.string ⟨#[69, 82, 82, 32, 111, 118, 101, 114]⟩))])]
def f118r2 : List SOper := [
 o 24 (.mv (t 0)),
 o 25 (.mv (t 1)),
 o 26 (.ar .add (t 24) (t 25)),
 o 4 (.mv (t 26))]
def f118 : SCode := (.seq (.ops f118r0) (.seq (.ops f118r1) (.seq (.ops f118r2) .ret)))
theorem f118_ok (oq : Nat → Value) (F : Nat → Prop) (h0 : Heap) : EntOK Tryz.prog oq F h0 118 (.code 27 f118 [.t 4]) := ⟨soundD_of (fl := false) mixed Tryz.func118 rfl (by kernel_rfl) (by kernel_rfl) (by kernel_rfl), soundF_of (fl := false) mixed Tryz.func118 rfl (by kernel_rfl) (by kernel_rfl) (by kernel_rfl)⟩

/-! 119: (*tabor/basics.asked).put -/
def f119r0 : List SOper := [
 o 10 (.mv (t 2)),
 o 11 (.lens (t 10)),
 o 12 (.cmp .leq (t 11) (i 1048576)),
 o 13 (.mv (t 12)),
 g 14 13 (.mv (t 1)),
 g 15 13 (.lens (t 14)),
 g 16 13 (.cmp .leq (t 15) (i 1048576)),
 o 17 (.pick (t 13) (t 16) (b false)),
 o 18 (.call 117 [(t 17), (.const (.string ⟨#[69, 82, 82, 32, 108, 111, 110, 103]⟩))])]
def f119t1 : OTree := (.one (o 20 (.mv (t 0)))
 (.one (o 21 (.nilck (t 20)))
 (.one (o 22 (.fa 0 (t 21)))
 (.one (o 23 (.ld1 (t 22)))
 (.one (o 24 (.mv (t 1)))
 (.one (o 25 (.mv (t 0)))
 (.one (o 26 (.nilck (t 25)))
 (.one (o 27 (.fa 1 (t 26)))
 (.one (o 28 (.ld1 (t 27)))
 (.both (.one (o 29 (.call 50 [(t 23), (t 24), (t 28)]))
 (.one (o 19 (.mv (t 29)))
 (.one (o 30 (.ext (t 19) 0))
 (.one (o 31 (.ext (t 19) 1))
 (.one (o 8 (.new [(.int .i64 0), (.string ⟨#[]⟩), (.slice none 0 0), (.slice none 0 0), (.slice none 0 0), (.bool false), (.int .i64 0)]))
 (.one (q (.st 7 (t 8) (t 30)))
 (.one (o 9 (.mv (t 31)))
 .done))))))) (.one (o 8 (.new [(.int .i64 0), (.string ⟨#[]⟩), (.slice none 0 0), (.slice none 0 0), (.slice none 0 0), (.bool false), (.int .i64 0)]))
 (.one (o 29 (.call 50 [(t 23), (t 24), (t 28)]))
 (.one (o 19 (.mv (t 29)))
 (.one (o 30 (.ext (t 19) 0))
 (.one (o 31 (.ext (t 19) 1))
 (.one (q (.st 7 (t 8) (t 30)))
 (.one (o 9 (.mv (t 31)))
 .done)))))))))))))))))
def f119r2 : List SOper := [
 o 32 (.mv (t 0)),
 o 33 (.mv (t 0)),
 o 34 (.nilck (t 33)),
 o 35 (.fa 0 (t 34)),
 o 36 (.ld1 (t 35)),
 o 37 (.mv (t 0)),
 o 38 (.nilck (t 37)),
 o 39 (.fa 1 (t 38)),
 o 40 (.ld1 (t 39)),
 o 41 (.mv (t 1)),
 o 42 (.call 27 [(t 36), (t 40), (t 41)]),
 o 43 (.call 120 [(t 32), (t 42)])]
def f119r3 : List SOper := [
 o 44 (.mv (t 0)),
 o 45 (.mv (t 1)),
 o 46 (.mv (t 2)),
 o 47 (.build [(.int .i64 0), (.string ⟨#[]⟩), (.string ⟨#[]⟩), (.string ⟨#[]⟩), (.int .i64 0)] [(0, 1), (1, 1), (3, 1)] [(i 2), (t 45), (t 46)]),
 o 48 (.bslice [(.int .i64 0), (.string ⟨#[]⟩), (.string ⟨#[]⟩), (.string ⟨#[]⟩), (.int .i64 0)] 1 [(0, 5)] [(t 47)]),
 o 49 (.call 120 [(t 44), (t 48)])]
def f119r4 : List SOper := [
 o 50 (.mv (t 3)),
 o 51 (.mv (t 50)),
 g 52 51 (.mv (t 9)),
 o 53 (.pick (t 51) (t 52) (b false)),
 o 54 (.mv (t 53)),
 g 55 54 (.fa 5 (t 8)),
 g 56 54 (.ld1 (t 55)),
 o 57 (.pick (t 54) (t 56) (b false))]
def f119r5 : List SOper := [
 o 58 (.mv (t 0)),
 o 59 (.mv (t 1)),
 o 60 (.fa 6 (t 8)),
 o 61 (.ld1 (t 60)),
 o 62 (.build [(.int .i64 0), (.string ⟨#[]⟩), (.string ⟨#[]⟩), (.string ⟨#[]⟩), (.int .i64 0)] [(0, 1), (1, 1), (4, 1)] [(i 3), (t 59), (t 61)]),
 o 63 (.bslice [(.int .i64 0), (.string ⟨#[]⟩), (.string ⟨#[]⟩), (.string ⟨#[]⟩), (.int .i64 0)] 1 [(0, 5)] [(t 62)]),
 o 64 (.call 120 [(t 58), (t 63)])]
def f119 : SCode := (.seq (.ops f119r0) (.seq (.tree [20, 21, 22, 23, 24, 25, 26, 27, 28, 29, 19, 30, 31, 8, 9] f119t1) (.seq (.ops f119r2) (.seq (.ops f119r3) (.seq (.ops f119r4) (.cond (t 57) (.ops f119r5) .skip))))))
theorem f119_ok (oq : Nat → Value) (F : Nat → Prop) (h0 : Heap) : EntOK Tryz.prog oq F h0 119 (.code 65 f119 []) := ⟨soundD_of (fl := false) mixed Tryz.func119 rfl (by kernel_rfl) (by kernel_rfl) (by kernel_rfl), soundF_of (fl := false) mixed Tryz.func119 rfl (by kernel_rfl) (by kernel_rfl) (by kernel_rfl)⟩

/-! 120: (*tabor/basics.asked).add -/
def f120r0 : List SOper := [
 o 4 (.mv (t 0)),
 o 5 (.mv (t 0)),
 o 6 (.nilck (t 5)),
 o 7 (.fa 3 (t 6)),
 o 8 (.ld1 (t 7)),
 o 9 (.mv (t 1)),
 o 10 (.app 5 64 [(.int .i64 0), (.string ⟨#[]⟩), (.string ⟨#[]⟩), (.string ⟨#[]⟩), (.int .i64 0)] (t 8) (t 9)),
 o 11 (.nilck (t 4)),
 o 12 (.fa 3 (t 11)),
 q (.st 1 (t 12) (t 10))]
def f120 : SCode := (.ops f120r0)
theorem f120_ok (oq : Nat → Value) (F : Nat → Prop) (h0 : Heap) : EntOK Tryz.prog oq F h0 120 (.code 13 f120 []) := ⟨soundD_of (fl := false) mixed Tryz.func120 rfl (by kernel_rfl) (by kernel_rfl) (by kernel_rfl), soundF_of (fl := false) mixed Tryz.func120 rfl (by kernel_rfl) (by kernel_rfl) (by kernel_rfl)⟩

/-! 122: (*tabor/basics.asked).text -/
def f122r0 : List SOper := [
 o 4 (.mv e),
 o 5 (.mv (b false))]
def f122t1 : OTree := (.one (o 9 (.mv (t 0)))
 (.one (o 10 (.nilck (t 9)))
 (.one (o 11 (.fa 0 (t 10)))
 (.one (o 12 (.ld1 (t 11)))
 (.one (o 13 (.mv (t 1)))
 (.one (o 14 (.mv (t 0)))
 (.one (o 15 (.nilck (t 14)))
 (.one (o 16 (.fa 1 (t 15)))
 (.one (o 17 (.ld1 (t 16)))
 (.both (.one (o 18 (.call 50 [(t 12), (t 13), (t 17)]))
 (.one (o 8 (.mv (t 18)))
 (.one (o 19 (.ext (t 8) 0))
 (.one (o 20 (.ext (t 8) 1))
 (.one (o 6 (.new [(.int .i64 0), (.string ⟨#[]⟩), (.slice none 0 0), (.slice none 0 0), (.slice none 0 0), (.bool false), (.int .i64 0)]))
 (.one (q (.st 7 (t 6) (t 19)))
 (.one (o 7 (.mv (t 20)))
 .done))))))) (.one (o 6 (.new [(.int .i64 0), (.string ⟨#[]⟩), (.slice none 0 0), (.slice none 0 0), (.slice none 0 0), (.bool false), (.int .i64 0)]))
 (.one (o 18 (.call 50 [(t 12), (t 13), (t 17)]))
 (.one (o 8 (.mv (t 18)))
 (.one (o 19 (.ext (t 8) 0))
 (.one (o 20 (.ext (t 8) 1))
 (.one (q (.st 7 (t 6) (t 19)))
 (.one (o 7 (.mv (t 20)))
 .done)))))))))))))))))
def f122r2 : List SOper := [
 o 21 (.mv (t 7)),
 o 22 (.un .not (t 21)),
 o 23 (.mv (t 22)),
 n 24 23 (.fa 0 (t 6)),
 n 25 23 (.ld1 (t 24)),
 n 26 23 (.cmp .eql (t 25) (i 1)),
 o 27 (.pick (t 23) (b true) (t 26)),
 o 28 (.call 117 [(t 27), (.const (.string ⟨#[87, 82, 79, 78, 71, 84, 89, 80, 69]⟩))])]
def f122r3 : List SOper := [
 o 29 (.fa 1 (t 6)),
 o 30 (.ld1 (t 29)),
 o 31 (.mv (t 7)),
 o 4 (.mv (t 30)),
 o 5 (.mv (t 31))]
def f122 : SCode := (.seq (.ops f122r0) (.seq (.tree [9, 10, 11, 12, 13, 14, 15, 16, 17, 18, 8, 19, 20, 6, 7] f122t1) (.seq (.ops f122r2) (.seq (.ops f122r3) .ret))))
theorem f122_ok (oq : Nat → Value) (F : Nat → Prop) (h0 : Heap) : EntOK Tryz.prog oq F h0 122 (.code 32 f122 [.t 4, .t 5]) := ⟨soundD_of (fl := false) mixed Tryz.func122 rfl (by kernel_rfl) (by kernel_rfl) (by kernel_rfl), soundF_of (fl := false) mixed Tryz.func122 rfl (by kernel_rfl) (by kernel_rfl) (by kernel_rfl)⟩

/-! 124: tabor/basics.number -/
def f124r0 : List SOper := [
 o 2 (.new [(.int .i64 0), (.int .i64 0), (.string ⟨#[]⟩), (.slice none 0 0)])]
def f124r1 : List SOper := [
 o 3 (.mv (t 0)),
 o 4 (.build [(.int .i64 0), (.int .i64 0), (.string ⟨#[]⟩), (.slice none 0 0)] [(0, 1), (1, 1)] [(i 3), (t 3)]),
 q (.st 4 (t 2) (t 4))]
def f124 : SCode := (.seq (.ops f124r0) (.seq (.ops f124r1) .ret))
theorem f124_ok (oq : Nat → Value) (F : Nat → Prop) (h0 : Heap) : EntOK Tryz.prog oq F h0 124 (.code 5 f124 [.cn 2 4]) := ⟨soundD_of (fl := false) mixed Tryz.func124 rfl (by kernel_rfl) (by kernel_rfl) (by kernel_rfl), soundF_of (fl := false) mixed Tryz.func124 rfl (by kernel_rfl) (by kernel_rfl) (by kernel_rfl)⟩

/-! 125: tabor/basics.step$1 -/
def f125r0 : List SOper := [
 o 3 (.new [(.int .i64 0), (.int .i64 0), (.string ⟨#[]⟩), (.slice none 0 0)])]
def f125r1 : List SOper := [
 o 4 (.mv (t 0)),
 o 5 (.call 67 [(t 4), (i 1), (i 1)])]
def f125r2 : List SOper := [
 o 6 (.mv (t 0)),
 o 7 (.ld1 (t 1)),
 o 8 (.call 68 [(t 6), (t 7)]),
 q (.st 4 (t 3) (t 8))]
def f125 : SCode := (.seq (.ops f125r0) (.seq (.ops f125r1) (.seq (.ops f125r2) .ret)))
theorem f125_ok (oq : Nat → Value) (F : Nat → Prop) (h0 : Heap) : EntOK Tryz.prog oq F h0 125 (.code 9 f125 [.cn 3 4]) := ⟨soundD_of (fl := false) mixed Tryz.func125 rfl (by kernel_rfl) (by kernel_rfl) (by kernel_rfl), soundF_of (fl := false) mixed Tryz.func125 rfl (by kernel_rfl) (by kernel_rfl) (by kernel_rfl)⟩

def tb : Tbl := (.node (.node (.node (.node (.node .nil 11 (.code 43 f11 [.t 0]) .nil) 12 (.code 20 f12 [.t 2, .t 3]) (.node .nil 17 (.code 46 f17 [.cn 6 4, .c1 7, .t 8]) .nil)) 18 (.code 6 f18 [.t 0]) (.node (.node .nil 27 (.code 32 f27 [.t 6]) .nil) 32 (.code 25 f32 [.t 6, .t 7]) (.node .nil 33 (.code 8 f33 [.t 4]) .nil))) 36 (.code 5 f36 [.t 0]) (.node (.node (.node .nil 37 (.code 32 f37 [.t 4]) .nil) 38 (.code 30 f38 [.t 2]) (.node .nil 39 (.code 14 f39 []) .nil)) 49 (.code 33 f49 [.cn 4 7, .t 5]) (.node (.node .nil 50 (.code 25 f50 [.cn 6 7, .t 7]) .nil) 52 (.code 12 f52 [.t 2]) .nil))) 54 (.code 73 f54 [.t 6, .t 7]) (.node (.node (.node (.node .nil 56 (.code 54 f56 [.t 4]) .nil) 65 (.code 4 f65 [.t 2]) (.node .nil 67 (.code 23 f67 []) .nil)) 68 (.code 44 f68 [.cn 4 4]) (.node (.node .nil 105 (.code 172 f105 [.t 6, .t 7]) .nil) 110 (.code 15 f110 [.t 2]) .nil)) 117 (.code 9 f117 []) (.node (.node (.node .nil 118 (.code 27 f118 [.t 4]) .nil) 119 (.code 65 f119 []) (.node .nil 120 (.code 13 f120 []) .nil)) 122 (.code 32 f122 [.t 4, .t 5]) (.node (.node .nil 124 (.code 5 f124 [.cn 2 4]) .nil) 125 (.code 9 f125 [.cn 3 4]) .nil))))
theorem tb_ok (oq : Nat → Value) (F : Nat → Prop) (h0 : Heap) : TOK Tryz.prog oq F h0 tb := ⟨⟨⟨⟨⟨trivial, f11_ok oq F h0, trivial⟩, f12_ok oq F h0, ⟨trivial, f17_ok oq F h0, trivial⟩⟩, f18_ok oq F h0, ⟨⟨trivial, f27_ok oq F h0, trivial⟩, f32_ok oq F h0, ⟨trivial, f33_ok oq F h0, trivial⟩⟩⟩, f36_ok oq F h0, ⟨⟨⟨trivial, f37_ok oq F h0, trivial⟩, f38_ok oq F h0, ⟨trivial, f39_ok oq F h0, trivial⟩⟩, f49_ok oq F h0, ⟨⟨trivial, f50_ok oq F h0, trivial⟩, f52_ok oq F h0, trivial⟩⟩⟩, f54_ok oq F h0, ⟨⟨⟨⟨trivial, f56_ok oq F h0, trivial⟩, f65_ok oq F h0, ⟨trivial, f67_ok oq F h0, trivial⟩⟩, f68_ok oq F h0, ⟨⟨trivial, f105_ok oq F h0, trivial⟩, f110_ok oq F h0, trivial⟩⟩, f117_ok oq F h0, ⟨⟨⟨trivial, f118_ok oq F h0, trivial⟩, f119_ok oq F h0, ⟨trivial, f120_ok oq F h0, trivial⟩⟩, f122_ok oq F h0, ⟨⟨trivial, f124_ok oq F h0, trivial⟩, f125_ok oq F h0, trivial⟩⟩⟩⟩

theorem run : saysTrue (acall0 Tryz.prog tb 1000 11 []) = true := by kernel_rfl

theorem calls (h : Heap) : CallsH Tryz.prog 11 [] h fun e h' => e = .returned (.bool true) ∧ Ext h h' := run_ok (tb_ok _ _ _) run
end Go.Proofs.YtigolfakcblnjaaGreatDoor.R
