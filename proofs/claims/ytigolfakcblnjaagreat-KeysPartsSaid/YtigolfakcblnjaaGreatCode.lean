/-
  The simplified code of this seat's functions, and that it is what the program's code comes to. Printed by a program (wip/print.lean).
-/
import Derived.Test.YtigolfakcblnjaaGreatSxO
import Derived.Test.YtigolfakcblnjaaGreatProg
set_option maxRecDepth 100000
namespace Go.Proofs.YtigolfakcblnjaaGreat.C
open Go Go.Sx Go.Sx.S

theorem mixed : Tryz.prog.follows .mixedOrders = true := by kernel_rfl

/-! 0: main.main: not simplified -/
/-! 1: gosem.cut: not simplified -/
/-! 2: gosem.cut.init: not simplified -/
/-! 3: tabor/taborlaw07.KeysParts -/
def f3r0 : List SOper := [
 o 6 (.mv (b false))]
def f3r1 : List SOper := [
 o 19 (.mv (t 0)),
 o 20 (.mv (t 1)),
 o 21 (.call 4 [(t 19), (t 20)]),
 o 22 (.mv (t 21)),
 n 23 22 (.mv (t 2)),
 n 24 22 (.cmp .lss (t 23) (i 0)),
 o 25 (.pick (t 22) (b true) (t 24)),
 o 26 (.mv (t 25)),
 n 27 26 (.mv (t 2)),
 n 28 26 (.mv (t 1)),
 n 29 26 (.len (t 28)),
 n 30 26 (.cmp .gtr (t 27) (t 29)),
 o 31 (.pick (t 26) (b true) (t 30))]
def f3r2 : List SOper := [
 o 32 (.call 5 []),
 o 6 (.mv (t 32))]
def f3r3 : List SOper := [
 o 34 (.mv (t 0)),
 o 35 (.call 6 [(t 34)]),
 o 33 (.mv (t 35)),
 o 36 (.ext (t 33) 0),
 o 37 (.ext (t 33) 1),
 o 7 (.mv (t 36)),
 o 8 (.mv (t 37))]
def f3r4 : List SOper := [
 o 38 (.mv (t 8)),
 o 39 (.cmp .neq (t 38) (i 0))]
def f3r5 : List SOper := [
 o 40 (.mv (t 7)),
 o 41 (.eqn 0 false (t 40)),
 o 42 (.mv (t 41)),
 g 43 42 (.call 5 []),
 o 44 (.pick (t 42) (t 43) (b false)),
 o 6 (.mv (t 44))]
def f3r6 : List SOper := [
 o 45 (.mv (t 7)),
 o 46 (.call 7 [(t 45)]),
 o 47 (.mv (t 7)),
 o 48 (.call 7 [(t 47)]),
 o 9 (.mv (t 46)),
 o 10 (.mv (t 48))]
def f3r7 : List SOper := [
 o 50 (.mv (t 7)),
 o 51 (.mv (t 1)),
 o 52 (.call 8 [(t 50), (t 51)]),
 o 49 (.mv (t 52)),
 o 53 (.ext (t 49) 0),
 o 54 (.ext (t 49) 1),
 o 11 (.mv (t 53)),
 o 12 (.mv (t 54))]
def f3r8 : List SOper := [
 o 56 (.mv (t 9)),
 o 57 (.mv (t 1)),
 o 58 (.mv (t 2)),
 o 59 (.slc 5 (t 57) none (some (t 58))),
 o 60 (.call 8 [(t 56), (t 59)]),
 o 55 (.mv (t 60)),
 o 61 (.ext (t 55) 0),
 o 62 (.ext (t 55) 1),
 o 13 (.mv (t 61)),
 o 14 (.mv (t 62))]
def f3r9 : List SOper := [
 o 63 (.mv (t 14)),
 o 64 (.cmp .eql (t 63) (i 0))]
def f3r10 : List SOper := [
 o 66 (.mv (t 9)),
 o 67 (.mv (t 1)),
 o 68 (.mv (t 2)),
 o 69 (.slc 5 (t 67) (some (t 68)) none),
 o 70 (.call 8 [(t 66), (t 69)]),
 o 65 (.mv (t 70)),
 o 71 (.ext (t 65) 0),
 o 72 (.ext (t 65) 1),
 o 15 (.mv (t 71)),
 o 16 (.mv (t 72))]
def f3r11 : List SOper := [
 o 73 (.mv (t 13)),
 o 74 (.mv (t 15)),
 o 75 (.ar .add (t 73) (t 74)),
 o 76 (.mv (t 16)),
 o 13 (.mv (t 75)),
 o 14 (.mv (t 76))]
def f3r12 : List SOper := [
 o 78 (.mv (t 0)),
 o 79 (.call 6 [(t 78)]),
 o 77 (.mv (t 79)),
 o 80 (.ext (t 77) 0),
 o 81 (.ext (t 77) 1),
 o 17 (.mv (t 80)),
 o 18 (.mv (t 81))]
def f3r13 : List SOper := [
 o 82 (.mv (t 11)),
 o 83 (.mv (t 13)),
 o 84 (.cmp .eql (t 82) (t 83)),
 o 85 (.mv (t 84)),
 g 86 85 (.mv (t 12)),
 g 87 85 (.mv (t 14)),
 g 88 85 (.cmp .eql (t 86) (t 87)),
 o 89 (.pick (t 85) (t 88) (b false)),
 o 90 (.mv (t 89)),
 g 91 90 (.mv (t 7)),
 g 92 90 (.mv (t 9)),
 g 93 90 (.call 9 [(t 91), (t 92)]),
 o 94 (.pick (t 90) (t 93) (b false)),
 o 95 (.mv (t 94)),
 g 96 95 (.mv (t 9)),
 g 97 95 (.mv (t 7)),
 g 98 95 (.call 9 [(t 96), (t 97)]),
 o 99 (.pick (t 95) (t 98) (b false)),
 o 100 (.mv (t 99)),
 g 101 100 (.mv (t 18)),
 g 102 100 (.cmp .eql (t 101) (i 0)),
 o 103 (.pick (t 100) (t 102) (b false)),
 o 104 (.mv (t 103)),
 g 105 104 (.mv (t 10)),
 g 106 104 (.mv (t 17)),
 g 107 104 (.call 9 [(t 105), (t 106)]),
 o 108 (.pick (t 104) (t 107) (b false)),
 o 109 (.mv (t 108)),
 g 110 109 (.call 5 []),
 o 111 (.pick (t 109) (t 110) (b false)),
 o 6 (.mv (t 111))]
def f3 : SCode := (.seq (.ops f3r0) (.seq (.seq (.ops f3r1) (.cond (t 31) (.seq (.ops f3r2) .ret) .skip)) (.seq (.ops f3r3) (.seq (.seq (.ops f3r4) (.cond (t 39) (.seq (.ops f3r5) .ret) .skip)) (.seq (.ops f3r6) (.seq (.ops f3r7) (.seq (.ops f3r8) (.seq (.seq (.ops f3r9) (.cond (t 64) (.seq (.ops f3r10) (.ops f3r11)) .skip)) (.seq (.ops f3r12) (.seq (.ops f3r13) .ret))))))))))
theorem f3_calls : Sound Tryz.prog 3 112 f3 [.t 6] := sound_of mixed Tryz.func3 rfl (by kernel_rfl) (by kernel_rfl) (by kernel_rfl)

/-! 4: tabor/taborlaw07.vast -/
def f4r0 : List SOper := [
 o 4 (.mv (b false))]
def f4r1 : List SOper := [
 o 7 (.mv (t 0)),
 o 8 (.len (t 7)),
 o 9 (.cmp .gtr (t 8) (i 20)),
 o 10 (.mv (t 9)),
 n 11 10 (.mv (t 1)),
 n 12 10 (.len (t 11)),
 n 13 10 (.cmp .gtr (t 12) (i 60)),
 o 14 (.pick (t 10) (b true) (t 13))]
def f4r2 : List SOper := [
 o 4 (.mv (b true))]
def f4r3 : List SOper := [
 o 5 (.mv (i 0))]
def f4r4 : List SOper := [
 o 15 (.mv (t 5)),
 o 16 (.mv (t 0)),
 o 17 (.len (t 16)),
 o 18 (.cmp .lss (t 15) (t 17))]
def f4r5 : List SOper := [
 o 21 (.mv (t 0)),
 o 22 (.mv (t 5)),
 o 23 (.ixs 8 (t 21) (t 22)),
 o 24 (.fa 0 (t 23)),
 o 25 (.ld1 (t 24)),
 o 26 (.lens (t 25)),
 o 27 (.cmp .gtr (t 26) (i 300)),
 o 28 (.mv (t 27)),
 n 29 28 (.mv (t 0)),
 n 30 28 (.mv (t 5)),
 n 31 28 (.ixs 8 (t 29) (t 30)),
 n 32 28 (.fa 1 (t 31)),
 n 33 28 (.ldn 7 (t 32)),
 n 34 28 (.call 10 [(t 33)]),
 o 35 (.pick (t 28) (b true) (t 34))]
def f4r6 : List SOper := [
 o 4 (.mv (b true))]
def f4r7 : List SOper := [
 o 19 (.mv (t 5)),
 o 20 (.ar .add (t 19) (i 1)),
 o 5 (.mv (t 20))]
def f4l8 : SCode := (.seq (.seq (.ops f4r4) (.cond (t 18) .skip (.exit 0))) (.seq (.block 1 (.seq (.ops f4r5) (.cond (t 35) (.seq (.ops f4r6) .ret) .skip))) (.ops f4r7)))
def f4r9 : List SOper := [
 o 6 (.mv (i 0))]
def f4r10 : List SOper := [
 o 36 (.mv (t 6)),
 o 37 (.mv (t 1)),
 o 38 (.len (t 37)),
 o 39 (.cmp .lss (t 36) (t 38))]
def f4r11 : List SOper := [
 o 42 (.mv (t 1)),
 o 43 (.mv (t 6)),
 o 44 (.ixs 5 (t 42) (t 43)),
 o 45 (.fa 1 (t 44)),
 o 46 (.ld1 (t 45)),
 o 47 (.lens (t 46)),
 o 48 (.cmp .gtr (t 47) (i 300)),
 o 49 (.mv (t 48)),
 n 50 49 (.mv (t 1)),
 n 51 49 (.mv (t 6)),
 n 52 49 (.ixs 5 (t 50) (t 51)),
 n 53 49 (.fa 2 (t 52)),
 n 54 49 (.ld1 (t 53)),
 n 55 49 (.lens (t 54)),
 n 56 49 (.cmp .gtr (t 55) (i 300)),
 o 57 (.pick (t 49) (b true) (t 56)),
 o 58 (.mv (t 57)),
 n 59 58 (.mv (t 1)),
 n 60 58 (.mv (t 6)),
 n 61 58 (.ixs 5 (t 59) (t 60)),
 n 62 58 (.fa 3 (t 61)),
 n 63 58 (.ld1 (t 62)),
 n 64 58 (.lens (t 63)),
 n 65 58 (.cmp .gtr (t 64) (i 300)),
 o 66 (.pick (t 58) (b true) (t 65))]
def f4r12 : List SOper := [
 o 4 (.mv (b true))]
def f4r13 : List SOper := [
 o 40 (.mv (t 6)),
 o 41 (.ar .add (t 40) (i 1)),
 o 6 (.mv (t 41))]
def f4l14 : SCode := (.seq (.seq (.ops f4r10) (.cond (t 39) .skip (.exit 2))) (.seq (.block 3 (.seq (.ops f4r11) (.cond (t 66) (.seq (.ops f4r12) .ret) .skip))) (.ops f4r13)))
def f4r15 : List SOper := [
 o 4 (.mv (b false))]
def f4 : SCode := (.seq (.ops f4r0) (.seq (.seq (.ops f4r1) (.cond (t 14) (.seq (.ops f4r2) .ret) .skip)) (.seq (.seq (.ops f4r3) (.block 0 (.loop f4l8))) (.seq (.seq (.ops f4r9) (.block 2 (.loop f4l14))) (.seq (.ops f4r15) .ret)))))
theorem f4_calls : Sound Tryz.prog 4 67 f4 [.t 4] := sound_of mixed Tryz.func4 rfl (by kernel_rfl) (by kernel_rfl) (by kernel_rfl)

/-! 5: tabor/taborlaw07.known -/
def f5r0 : List SOper := [
 o 0 (.mv (b false))]
def f5r1 : List SOper := [
 o 6 (.call 11 []),
 o 1 (.mv (t 6))]
def f5r2 : List SOper := [
 o 8 (.mv (t 1)),
 o 9 (.build [(.int .i64 0), (.string ⟨#[]⟩), (.string ⟨#[]⟩), (.string ⟨#[]⟩), (.int .i64 0)] [(0, 1), (1, 1), (3, 1)] [(i 2), (.const (.string ⟨#[97]⟩)), (.const (.string ⟨#[120]⟩))]),
 o 10 (.bslice [(.int .i64 0), (.string ⟨#[]⟩), (.string ⟨#[]⟩), (.string ⟨#[]⟩), (.int .i64 0)] 1 [(0, 5)] [(t 9)]),
 o 11 (.call 8 [(t 8), (t 10)]),
 o 7 (.mv (t 11)),
 o 12 (.ext (t 7) 0),
 o 13 (.ext (t 7) 1),
 o 2 (.mv (t 12)),
 o 3 (.mv (t 13))]
def f5r3 : List SOper := [
 o 15 (.mv (t 1)),
 o 16 (.call 12 [(t 15), (.const (.string ⟨#[97]⟩)), (i 5)]),
 o 14 (.mv (t 16)),
 o 17 (.ext (t 14) 0),
 o 18 (.ext (t 14) 1),
 o 4 (.new [(.int .i64 0), (.string ⟨#[]⟩), (.slice none 0 0), (.slice none 0 0), (.slice none 0 0), (.bool false), (.int .i64 0)]),
 q (.st 7 (t 4) (t 17)),
 o 5 (.mv (t 18))]
def f5r4 : List SOper := [
 o 19 (.mv (t 2)),
 o 20 (.cmp .eql (t 19) (i 1)),
 o 21 (.mv (t 20)),
 g 22 21 (.mv (t 3)),
 g 23 21 (.cmp .eql (t 22) (i 0)),
 o 24 (.pick (t 21) (t 23) (b false)),
 o 25 (.mv (t 24)),
 g 26 25 (.mv (t 5)),
 o 27 (.pick (t 25) (t 26) (b false)),
 o 28 (.mv (t 27)),
 g 29 28 (.fa 0 (t 4)),
 g 30 28 (.ld1 (t 29)),
 g 31 28 (.cmp .eql (t 30) (i 1)),
 o 32 (.pick (t 28) (t 31) (b false)),
 o 33 (.mv (t 32)),
 g 34 33 (.fa 1 (t 4)),
 g 35 33 (.ld1 (t 34)),
 g 36 33 (.cmp .eql (t 35) (.const (.string ⟨#[120]⟩))),
 o 37 (.pick (t 33) (t 36) (b false)),
 o 0 (.mv (t 37))]
def f5 : SCode := (.seq (.ops f5r0) (.seq (.ops f5r1) (.seq (.ops f5r2) (.seq (.ops f5r3) (.seq (.ops f5r4) .ret)))))
theorem f5_calls : Sound Tryz.prog 5 38 f5 [.t 0] := sound_of mixed Tryz.func5 rfl (by kernel_rfl) (by kernel_rfl) (by kernel_rfl)

/-! 6: tabor/keys.Of -/
def f6r0 : List SOper := [
 o 2 (.mv (.const (.pointer none))),
 o 3 (.mv (i 0))]
def f6r1 : List SOper := [
 o 10 (.call 11 []),
 o 4 (.mv (t 10))]
def f6r2 : List SOper := [
 o 11 (.mv (t 0)),
 o 12 (.len (t 11)),
 o 13 (.mv (i 0))]
def f6r3 : List SOper := [
 o 14 (.cmp .lss (t 13) (t 12))]
def f6r4 : List SOper := [
 o 15 (.ixs 8 (t 11) (t 13)),
 o 16 (.ldn 8 (t 15)),
 o 6 (.new [(.string ⟨#[]⟩), (.int .i64 0), (.string ⟨#[]⟩), (.slice none 0 0), (.slice none 0 0), (.slice none 0 0), (.bool false), (.int .i64 0)]),
 q (.st 8 (t 6) (t 16))]
def f6r5 : List SOper := [
 o 18 (.mv (t 4)),
 o 19 (.nilck (t 18)),
 o 20 (.fa 0 (t 19)),
 o 21 (.ld1 (t 20)),
 o 22 (.nilck (t 21)),
 o 23 (.fa 0 (t 22)),
 o 24 (.ld1 (t 23)),
 o 25 (.fa 0 (t 6)),
 o 26 (.ld1 (t 25)),
 o 27 (.look .str (.pointer none) true (t 24) (t 26)),
 o 17 (.mv (t 27)),
 o 28 (.ext (t 17) 0),
 o 29 (.ext (t 17) 1),
 o 7 (.mv (t 28)),
 o 8 (.mv (t 29))]
def f6r6 : List SOper := [
 o 30 (.mv (t 8)),
 o 31 (.mv (t 30)),
 n 32 31 (.fa 0 (t 6)),
 n 33 31 (.ld1 (t 32)),
 n 34 31 (.lens (t 33)),
 n 35 31 (.cmp .gtr (t 34) (i 1048576)),
 o 36 (.pick (t 31) (b true) (t 35)),
 o 37 (.mv (t 36)),
 n 38 37 (.fa 1 (t 6)),
 n 39 37 (.ldn 7 (t 38)),
 n 40 37 (.call 13 [(t 39)]),
 n 41 37 (.un .not (t 40)),
 o 42 (.pick (t 37) (b true) (t 41))]
def f6r7 : List SOper := [
 o 2 (.mv (.const (.pointer none))),
 o 3 (.mv (i 2))]
def f6r8 : List SOper := [
 o 43 (.fa 1 (t 6)),
 o 44 (.ldn 7 (t 43)),
 o 45 (.call 14 [(t 44)]),
 o 9 (.new [(.int .i64 0), (.string ⟨#[]⟩), (.slice none 0 0), (.slice none 0 0), (.slice none 0 0), (.bool false), (.int .i64 0)]),
 q (.st 7 (t 9) (t 45))]
def f6r9 : List SOper := [
 o 46 (.mv (t 4)),
 o 47 (.nilck (t 46)),
 o 48 (.fa 0 (t 47)),
 o 49 (.ld1 (t 48)),
 o 50 (.nilck (t 49)),
 o 51 (.fa 0 (t 50)),
 o 52 (.ld1 (t 51)),
 o 53 (.fa 0 (t 6)),
 o 54 (.ld1 (t 53)),
 q (.mup .str (t 52) (t 54) (t 9))]
def f6r10 : List SOper := [
 o 55 (.ar .add (t 13) (i 1)),
 o 13 (.mv (t 55))]
def f6l11 : SCode := (.seq (.ops f6r3) (.seq (.cond (t 14) .skip (.exit 0)) (.seq (.block 1 (.seq (.ops f6r4) (.seq (.ops f6r5) (.seq (.seq (.ops f6r6) (.cond (t 42) (.seq (.ops f6r7) .ret) .skip)) (.seq (.ops f6r8) (.ops f6r9)))))) (.ops f6r10))))
def f6r12 : List SOper := [
 o 56 (.mv (t 0)),
 o 57 (.len (t 56)),
 o 58 (.cmp .gtr (t 57) (i 65536))]
def f6r13 : List SOper := [
 o 2 (.mv (.const (.pointer none))),
 o 3 (.mv (i 3))]
def f6r14 : List SOper := [
 o 59 (.mv (t 4)),
 o 2 (.mv (t 59)),
 o 3 (.mv (i 0))]
def f6 : SCode := (.seq (.ops f6r0) (.seq (.ops f6r1) (.seq (.seq (.ops f6r2) (.block 0 (.loop f6l11))) (.seq (.seq (.ops f6r12) (.cond (t 58) (.seq (.ops f6r13) .ret) .skip)) (.seq (.ops f6r14) .ret)))))
theorem f6_calls : Sound Tryz.prog 6 60 f6 [.t 2, .t 3] := sound_of mixed Tryz.func6 rfl (by kernel_rfl) (by kernel_rfl) (by kernel_rfl)

/-! 7: (*tabor/keys.Keys).Copy -/
def f7r0 : List SOper := [
 o 2 (.mv (.const (.pointer none)))]
def f7r1 : List SOper := [
 o 6 (.mv (t 0)),
 o 7 (.call 15 [(t 6)])]
def f7r2 : List SOper := [
 o 2 (.mv (.const (.pointer none)))]
def f7r3 : List SOper := [
 o 8 (.call 11 []),
 o 3 (.new [(.pointer none)]),
 q (.st 1 (t 3) (t 8))]
def f7r4 : List SOper := [
 o 9 (.mv (t 0)),
 o 10 (.call 16 [(t 9)])]
def f7r5 : List SOper := [
 o 4 (.mv (t 11))]
def f7r6 : List SOper := [
 o 5 (.new [(.int .i64 0), (.string ⟨#[]⟩), (.slice none 0 0), (.slice none 0 0), (.slice none 0 0), (.bool false), (.int .i64 0)]),
 q (.st 7 (t 5) (t 12))]
def f7r7 : List SOper := [
 o 13 (.ld1 (t 3)),
 o 14 (.nilck (t 13)),
 o 15 (.fa 0 (t 14)),
 o 16 (.ld1 (t 15)),
 o 17 (.nilck (t 16)),
 o 18 (.fa 0 (t 17)),
 o 19 (.ld1 (t 18)),
 o 20 (.mv (t 4)),
 q (.mup .str (t 19) (t 20) (t 5))]
def f7a8 : SCode := (.seq (.ops f7r5) (.ops f7r6))
def f7b8 : SCode := (.block 1 (.ops f7r7))
def f7r9 : List SOper := [
 o 21 (.ld1 (t 3)),
 o 2 (.mv (t 21))]
def f7 : SCode := (.seq (.ops f7r0) (.seq (.seq (.ops f7r1) (.cond (t 7) (.seq (.ops f7r2) .ret) .skip)) (.seq (.ops f7r3) (.seq (.seq (.ops f7r4) (.block 0 (.rangeF (t 10) [11, 12] f7a8 f7b8))) (.seq (.ops f7r9) .ret)))))
theorem f7_calls : Sound Tryz.prog 7 22 f7 [.t 2] := sound_of mixed Tryz.func7 rfl (by kernel_rfl) (by kernel_rfl) (by kernel_rfl)

/-! 8: (*tabor/keys.Keys).Apply -/
def f8r0 : List SOper := [
 o 4 (.mv (i 0)),
 o 5 (.mv (i 0))]
def f8r1 : List SOper := [
 o 10 (.mv (t 0)),
 o 11 (.call 15 [(t 10)])]
def f8r2 : List SOper := [
 o 4 (.mv (i 0)),
 o 5 (.mv (i 1))]
def f8r3 : List SOper := [
 o 6 (.mv (i 0))]
def f8r4 : List SOper := [
 o 7 (.mv (i 0))]
def f8r5 : List SOper := [
 o 12 (.mv (t 1)),
 o 13 (.len (t 12)),
 o 14 (.mv (i 0))]
def f8r6 : List SOper := [
 o 15 (.cmp .lss (t 14) (t 13))]
def f8r7 : List SOper := [
 o 16 (.ixs 5 (t 12) (t 14)),
 o 17 (.ldn 5 (t 16)),
 o 9 (.new [(.int .i64 0), (.string ⟨#[]⟩), (.string ⟨#[]⟩), (.string ⟨#[]⟩), (.int .i64 0)]),
 q (.st 5 (t 9) (t 17))]
def f8r8 : List SOper := [
 o 18 (.mv (t 0)),
 o 19 (.ldn 5 (t 9)),
 o 20 (.call 17 [(t 18), (t 19)]),
 o 7 (.mv (t 20))]
def f8r9 : List SOper := [
 o 21 (.mv (t 7)),
 o 22 (.cmp .neq (t 21) (i 0))]
def f8r10 : List SOper := [
 o 23 (.mv (t 6)),
 o 24 (.ar .add (t 23) (i 1)),
 o 6 (.mv (t 24))]
def f8r11 : List SOper := [
 o 25 (.ar .add (t 14) (i 1)),
 o 14 (.mv (t 25))]
def f8l12 : SCode := (.seq (.ops f8r6) (.seq (.cond (t 15) .skip (.exit 0)) (.seq (.block 1 (.seq (.ops f8r7) (.seq (.seq (.ops f8r8) (.seq (.ops f8r9) (.cond (t 22) (.exit 0) .skip))) (.ops f8r10)))) (.ops f8r11))))
def f8r13 : List SOper := [
 o 26 (.mv (t 6)),
 o 27 (.mv (t 7)),
 o 4 (.mv (t 26)),
 o 5 (.mv (t 27))]
def f8r14 : List SOper := [
 o 12 (.mv (t 1)),
 o 13 (.len (t 12)),
 o 14 (.mv (i 0))]
def f8r15 : List SOper := [
 o 15 (.cmp .lss (t 14) (t 13))]
def f8r16 : List SOper := [
 o 16 (.ixs 5 (t 12) (t 14)),
 o 17 (.ldn 5 (t 16)),
 o 9 (.new [(.int .i64 0), (.string ⟨#[]⟩), (.string ⟨#[]⟩), (.string ⟨#[]⟩), (.int .i64 0)]),
 q (.st 5 (t 9) (t 17))]
def f8r17 : List SOper := [
 o 18 (.mv (t 0)),
 o 19 (.ldn 5 (t 9)),
 o 20 (.call 17 [(t 18), (t 19)]),
 o 7 (.mv (t 20))]
def f8r18 : List SOper := [
 o 21 (.mv (t 7)),
 o 22 (.cmp .neq (t 21) (i 0))]
def f8r19 : List SOper := [
 o 23 (.mv (t 6)),
 o 24 (.ar .add (t 23) (i 1)),
 o 6 (.mv (t 24))]
def f8r20 : List SOper := [
 o 25 (.ar .add (t 14) (i 1)),
 o 14 (.mv (t 25))]
def f8l21 : SCode := (.seq (.ops f8r15) (.seq (.cond (t 15) .skip (.exit 0)) (.seq (.block 1 (.seq (.ops f8r16) (.seq (.seq (.ops f8r17) (.seq (.ops f8r18) (.cond (t 22) (.exit 0) .skip))) (.ops f8r19)))) (.ops f8r20))))
def f8r22 : List SOper := [
 o 26 (.mv (t 6)),
 o 27 (.mv (t 7)),
 o 4 (.mv (t 26)),
 o 5 (.mv (t 27))]
def f8 : SCode := (.seq (.ops f8r0) (.scopeG (.seq (.seq (.ops f8r1) (.cond (t 11) (.seq (.ops f8r2) .ret) .skip)) (.seq (.ops f8r3) (.seq (.ops f8r4) (.seq (.label 0) (.seq (.seq (.ops f8r5) (.block 0 (.loop f8l12))) (.seq (.ops f8r13) .ret)))))) 0 (.seq .skip (.seq (.seq (.ops f8r14) (.block 0 (.loop f8l21))) (.seq (.ops f8r22) .ret)))))
theorem f8_calls : Sound Tryz.prog 8 28 f8 [.t 4, .t 5] := sound_of mixed Tryz.func8 rfl (by kernel_rfl) (by kernel_rfl) (by kernel_rfl)

/-! 9: (*tabor/keys.Keys).Same -/
def f9r0 : List SOper := [
 o 4 (.mv (b false))]
def f9r1 : List SOper := [
 o 5 (.mv (t 0)),
 o 6 (.call 15 [(t 5)]),
 o 7 (.mv (t 6)),
 n 8 7 (.mv (t 1)),
 n 9 7 (.call 15 [(t 8)]),
 o 10 (.pick (t 7) (b true) (t 9))]
def f9r2 : List SOper := [
 o 11 (.mv (t 0)),
 o 12 (.call 15 [(t 11)]),
 o 13 (.mv (t 12)),
 g 14 13 (.mv (t 1)),
 g 15 13 (.call 15 [(t 14)]),
 o 16 (.pick (t 13) (t 15) (b false)),
 o 4 (.mv (t 16))]
def f9r3 : List SOper := [
 o 17 (.mv (t 0)),
 o 18 (.nilck (t 17)),
 o 19 (.fa 0 (t 18)),
 o 20 (.ld1 (t 19)),
 o 21 (.nilck (t 20)),
 o 22 (.fa 0 (t 21)),
 o 23 (.ld1 (t 22)),
 o 24 (.mv (t 1)),
 o 25 (.nilck (t 24)),
 o 26 (.fa 0 (t 25)),
 o 27 (.ld1 (t 26)),
 o 28 (.nilck (t 27)),
 o 29 (.fa 0 (t 28)),
 o 30 (.ld1 (t 29)),
 o 31 (.call 18 [(t 23), (t 30), (u 19)]),
 o 4 (.mv (t 31))]
def f9 : SCode := (.seq (.ops f9r0) (.seq (.seq (.ops f9r1) (.cond (t 10) (.seq (.ops f9r2) .ret) .skip)) (.seq (.ops f9r3) .ret)))
theorem f9_calls : Sound Tryz.prog 9 32 f9 [.t 4] := sound_of mixed Tryz.func9 rfl (by kernel_rfl) (by kernel_rfl) (by kernel_rfl)

/-! 10: tabor/taborlaw07.large -/
def f10r0 : List SOper := [
 o 1 (.box (t 0)),
 o 2 (.mv (b false))]
def f10r1 : List SOper := [
 o 7 (.fa 1 (t 1)),
 o 8 (.ld1 (t 7)),
 o 9 (.lens (t 8)),
 o 3 (.mv (t 9))]
def f10r2 : List SOper := [
 o 10 (.fa 2 (t 1)),
 o 11 (.ld1 (t 10)),
 o 12 (.len (t 11)),
 o 13 (.cmp .gtr (t 12) (i 40)),
 o 14 (.mv (t 13)),
 n 15 14 (.fa 3 (t 1)),
 n 16 14 (.ld1 (t 15)),
 n 17 14 (.len (t 16)),
 n 18 14 (.cmp .gtr (t 17) (i 40)),
 o 19 (.pick (t 14) (b true) (t 18)),
 o 20 (.mv (t 19)),
 n 21 20 (.fa 4 (t 1)),
 n 22 20 (.ld1 (t 21)),
 n 23 20 (.len (t 22)),
 n 24 20 (.cmp .gtr (t 23) (i 40)),
 o 25 (.pick (t 20) (b true) (t 24)),
 o 26 (.mv (t 25)),
 n 27 26 (.mv (t 3)),
 n 28 26 (.cmp .gtr (t 27) (i 2000)),
 o 29 (.pick (t 26) (b true) (t 28))]
def f10r3 : List SOper := [
 o 2 (.mv (b true))]
def f10r4 : List SOper := [
 o 4 (.mv (i 0))]
def f10r5 : List SOper := [
 o 30 (.mv (t 4)),
 o 31 (.fa 2 (t 1)),
 o 32 (.ld1 (t 31)),
 o 33 (.len (t 32)),
 o 34 (.cmp .lss (t 30) (t 33))]
def f10r6 : List SOper := [
 o 37 (.mv (t 3)),
 o 38 (.fa 2 (t 1)),
 o 39 (.ld1 (t 38)),
 o 40 (.mv (t 4)),
 o 41 (.ixs 2 (t 39) (t 40)),
 o 42 (.fa 0 (t 41)),
 o 43 (.ld1 (t 42)),
 o 44 (.lens (t 43)),
 o 45 (.ar .add (t 37) (t 44)),
 o 46 (.fa 2 (t 1)),
 o 47 (.ld1 (t 46)),
 o 48 (.mv (t 4)),
 o 49 (.ixs 2 (t 47) (t 48)),
 o 50 (.fa 1 (t 49)),
 o 51 (.ld1 (t 50)),
 o 52 (.lens (t 51)),
 o 53 (.ar .add (t 45) (t 52)),
 o 3 (.mv (t 53))]
def f10r7 : List SOper := [
 o 54 (.mv (t 3)),
 o 55 (.cmp .gtr (t 54) (i 2000))]
def f10r8 : List SOper := [
 o 2 (.mv (b true))]
def f10r9 : List SOper := [
 o 35 (.mv (t 4)),
 o 36 (.ar .add (t 35) (i 1)),
 o 4 (.mv (t 36))]
def f10l10 : SCode := (.seq (.seq (.ops f10r5) (.cond (t 34) .skip (.exit 0))) (.seq (.block 1 (.seq (.ops f10r6) (.seq (.ops f10r7) (.cond (t 55) (.seq (.ops f10r8) .ret) .skip)))) (.ops f10r9)))
def f10r11 : List SOper := [
 o 5 (.mv (i 0))]
def f10r12 : List SOper := [
 o 56 (.mv (t 5)),
 o 57 (.fa 3 (t 1)),
 o 58 (.ld1 (t 57)),
 o 59 (.len (t 58)),
 o 60 (.cmp .lss (t 56) (t 59))]
def f10r13 : List SOper := [
 o 63 (.mv (t 3)),
 o 64 (.fa 3 (t 1)),
 o 65 (.ld1 (t 64)),
 o 66 (.mv (t 5)),
 o 67 (.ixs 1 (t 65) (t 66)),
 o 68 (.ld1 (t 67)),
 o 69 (.lens (t 68)),
 o 70 (.ar .add (t 63) (t 69)),
 o 3 (.mv (t 70))]
def f10r14 : List SOper := [
 o 71 (.mv (t 3)),
 o 72 (.cmp .gtr (t 71) (i 2000))]
def f10r15 : List SOper := [
 o 2 (.mv (b true))]
def f10r16 : List SOper := [
 o 61 (.mv (t 5)),
 o 62 (.ar .add (t 61) (i 1)),
 o 5 (.mv (t 62))]
def f10l17 : SCode := (.seq (.seq (.ops f10r12) (.cond (t 60) .skip (.exit 2))) (.seq (.block 3 (.seq (.ops f10r13) (.seq (.ops f10r14) (.cond (t 72) (.seq (.ops f10r15) .ret) .skip)))) (.ops f10r16)))
def f10r18 : List SOper := [
 o 6 (.mv (i 0))]
def f10r19 : List SOper := [
 o 73 (.mv (t 6)),
 o 74 (.fa 4 (t 1)),
 o 75 (.ld1 (t 74)),
 o 76 (.len (t 75)),
 o 77 (.cmp .lss (t 73) (t 76))]
def f10r20 : List SOper := [
 o 80 (.mv (t 3)),
 o 81 (.fa 4 (t 1)),
 o 82 (.ld1 (t 81)),
 o 83 (.mv (t 6)),
 o 84 (.ixs 2 (t 82) (t 83)),
 o 85 (.fa 0 (t 84)),
 o 86 (.ld1 (t 85)),
 o 87 (.lens (t 86)),
 o 88 (.ar .add (t 80) (t 87)),
 o 3 (.mv (t 88))]
def f10r21 : List SOper := [
 o 89 (.mv (t 3)),
 o 90 (.cmp .gtr (t 89) (i 2000))]
def f10r22 : List SOper := [
 o 2 (.mv (b true))]
def f10r23 : List SOper := [
 o 78 (.mv (t 6)),
 o 79 (.ar .add (t 78) (i 1)),
 o 6 (.mv (t 79))]
def f10l24 : SCode := (.seq (.seq (.ops f10r19) (.cond (t 77) .skip (.exit 4))) (.seq (.block 5 (.seq (.ops f10r20) (.seq (.ops f10r21) (.cond (t 90) (.seq (.ops f10r22) .ret) .skip)))) (.ops f10r23)))
def f10r25 : List SOper := [
 o 2 (.mv (b false))]
def f10 : SCode := (.seq (.ops f10r0) (.seq (.ops f10r1) (.seq (.seq (.ops f10r2) (.cond (t 29) (.seq (.ops f10r3) .ret) .skip)) (.seq (.seq (.ops f10r4) (.block 0 (.loop f10l10))) (.seq (.seq (.ops f10r11) (.block 2 (.loop f10l17))) (.seq (.seq (.ops f10r18) (.block 4 (.loop f10l24))) (.seq (.ops f10r25) .ret)))))))
theorem f10_calls : Sound Tryz.prog 10 91 f10 [.t 2] := sound_of mixed Tryz.func10 rfl (by kernel_rfl) (by kernel_rfl) (by kernel_rfl)

/-! 11: tabor/keys.New -/
def f11r0 : List SOper := [
 o 0 (.mv (.const (.pointer none)))]
def f11r1 : List SOper := [
 o 1 (.mkm),
 o 2 (.build [(.map none)] [(0, 1)] [(t 1)]),
 o 3 (.box (t 2)),
 o 4 (.build [(.pointer none)] [(0, 1)] [(t 3)]),
 o 5 (.box (t 4)),
 o 0 (.mv (t 5))]
def f11 : SCode := (.seq (.ops f11r0) (.seq (.ops f11r1) .ret))
theorem f11_calls : Sound Tryz.prog 11 6 f11 [.t 0] := sound_of mixed Tryz.func11 rfl (by kernel_rfl) (by kernel_rfl) (by kernel_rfl)

/-! 12: (*tabor/keys.Keys).Get -/
def f12r0 : List SOper := [
 o 6 (.new [(.int .i64 0), (.string ⟨#[]⟩), (.slice none 0 0), (.slice none 0 0), (.slice none 0 0), (.bool false), (.int .i64 0)]),
 o 7 (.mv (b false))]
def f12r1 : List SOper := [
 o 11 (.mv (t 0)),
 o 12 (.mv (t 1)),
 o 13 (.call 21 [(t 11), (t 12)]),
 o 10 (.mv (t 13)),
 o 14 (.ext (t 10) 0),
 o 15 (.ext (t 10) 1),
 o 8 (.new [(.int .i64 0), (.string ⟨#[]⟩), (.slice none 0 0), (.slice none 0 0), (.slice none 0 0), (.bool false), (.int .i64 0)]),
 q (.st 7 (t 8) (t 14)),
 o 9 (.mv (t 15))]
def f12r2 : List SOper := [
 o 16 (.mv (t 9)),
 o 17 (.un .not (t 16)),
 o 18 (.mv (t 17)),
 n 19 18 (.ldn 7 (t 8)),
 n 20 18 (.mv (t 2)),
 n 21 18 (.call 22 [(t 19), (t 20)]),
 o 22 (.pick (t 18) (b true) (t 21))]
def f12r3 : List SOper := [
 o 23 (.build [(.int .i64 0), (.string ⟨#[]⟩), (.slice none 0 0), (.slice none 0 0), (.slice none 0 0), (.bool false), (.int .i64 0)] [] []),
 q (.st 7 (t 6) (t 23)),
 o 7 (.mv (b false))]
def f12r4 : List SOper := [
 o 24 (.ldn 7 (t 8)),
 q (.st 7 (t 6) (t 24)),
 o 7 (.mv (b true))]
def f12 : SCode := (.seq (.ops f12r0) (.seq (.ops f12r1) (.seq (.seq (.ops f12r2) (.cond (t 22) (.seq (.ops f12r3) .ret) .skip)) (.seq (.ops f12r4) .ret))))
theorem f12_calls : Sound Tryz.prog 12 25 f12 [.cn 6 7, .t 7] := sound_of mixed Tryz.func12 rfl (by kernel_rfl) (by kernel_rfl) (by kernel_rfl)

/-! 13: tabor/keys.Check -/
def f13r0 : List SOper := [
 o 1 (.box (t 0)),
 o 2 (.mv (b false))]
def f13r1 : List SOper := [
 o 6 (.fa 5 (t 1)),
 o 7 (.ld1 (t 6)),
 o 8 (.un .not (t 7)),
 o 9 (.mv (t 8)),
 g 10 9 (.fa 6 (t 1)),
 g 11 9 (.ld1 (t 10)),
 g 12 9 (.cmp .neq (t 11) (i 0)),
 o 13 (.pick (t 9) (t 12) (b false)),
 o 14 (.mv (t 13)),
 n 15 14 (.ldn 7 (t 1)),
 n 16 14 (.call 23 [(t 15)]),
 n 17 14 (.cmp .gtr (t 16) (i 65536)),
 o 18 (.pick (t 14) (b true) (t 17)),
 o 19 (.mv (t 18)),
 n 20 19 (.fa 1 (t 1)),
 n 21 19 (.ld1 (t 20)),
 n 22 19 (.bslice [(.string ⟨#[]⟩)] 1 [(0, 1)] [(t 21)]),
 n 23 19 (.call 24 [(t 22)]),
 n 24 19 (.un .not (t 23)),
 o 25 (.pick (t 19) (b true) (t 24)),
 o 26 (.mv (t 25)),
 n 27 26 (.fa 3 (t 1)),
 n 28 26 (.ld1 (t 27)),
 n 29 26 (.call 24 [(t 28)]),
 n 30 26 (.un .not (t 29)),
 o 31 (.pick (t 26) (b true) (t 30)),
 o 32 (.mv (t 31)),
 n 33 32 (.ldn 7 (t 1)),
 n 34 32 (.call 25 [(t 33)]),
 n 35 32 (.call 24 [(t 34)]),
 n 36 32 (.un .not (t 35)),
 o 37 (.pick (t 32) (b true) (t 36))]
def f13r2 : List SOper := [
 o 2 (.mv (b false))]
def f13r3 : List SOper := [
 o 38 (.fa 2 (t 1)),
 o 39 (.ld1 (t 38)),
 o 40 (.len (t 39)),
 o 41 (.fa 3 (t 1)),
 o 42 (.ld1 (t 41)),
 o 43 (.len (t 42)),
 o 44 (.fa 4 (t 1)),
 o 45 (.ld1 (t 44)),
 o 46 (.len (t 45)),
 o 3 (.mv (t 40)),
 o 4 (.mv (t 43)),
 o 5 (.mv (t 46))]
def f13r4 : List SOper := [
 o 47 (.fa 0 (t 1)),
 o 48 (.ld1 (t 47))]
def f13r5 : List SOper := [
 o 50 (.cmp .eql (t 48) (i 1)),
 o 49 (.mv (t 50))]
def f13r6 : List SOper := [
 o 51 (.mv (t 3)),
 o 52 (.mv (t 4)),
 o 53 (.ar .add (t 51) (t 52)),
 o 54 (.mv (t 5)),
 o 55 (.ar .add (t 53) (t 54)),
 o 56 (.cmp .eql (t 55) (i 0)),
 o 2 (.mv (t 56))]
def f13r7 : List SOper := [
 o 58 (.cmp .eql (t 48) (i 2)),
 o 57 (.mv (t 58))]
def f13r8 : List SOper := [
 o 59 (.mv (t 3)),
 o 60 (.cmp .gtr (t 59) (i 0)),
 o 61 (.mv (t 60)),
 g 62 61 (.mv (t 4)),
 g 63 61 (.mv (t 5)),
 g 64 61 (.ar .add (t 62) (t 63)),
 g 65 61 (.cmp .eql (t 64) (i 0)),
 o 66 (.pick (t 61) (t 65) (b false)),
 o 67 (.mv (t 66)),
 g 68 67 (.fa 1 (t 1)),
 g 69 67 (.ld1 (t 68)),
 g 70 67 (.cmp .eql (t 69) e),
 o 71 (.pick (t 67) (t 70) (b false)),
 o 72 (.mv (t 71)),
 g 73 72 (.fa 2 (t 1)),
 g 74 72 (.ld1 (t 73)),
 g 75 72 (.call 26 [(t 74), (u 27)]),
 o 76 (.pick (t 72) (t 75) (b false)),
 o 2 (.mv (t 76))]
def f13r9 : List SOper := [
 o 78 (.cmp .eql (t 48) (i 3)),
 o 77 (.mv (t 78))]
def f13r10 : List SOper := [
 o 79 (.mv (t 4)),
 o 80 (.cmp .gtr (t 79) (i 0)),
 o 81 (.mv (t 80)),
 g 82 81 (.mv (t 3)),
 g 83 81 (.mv (t 5)),
 g 84 81 (.ar .add (t 82) (t 83)),
 g 85 81 (.cmp .eql (t 84) (i 0)),
 o 86 (.pick (t 81) (t 85) (b false)),
 o 87 (.mv (t 86)),
 g 88 87 (.fa 1 (t 1)),
 g 89 87 (.ld1 (t 88)),
 g 90 87 (.cmp .eql (t 89) e),
 o 91 (.pick (t 87) (t 90) (b false)),
 o 2 (.mv (t 91))]
def f13r11 : List SOper := [
 o 93 (.cmp .eql (t 48) (i 4)),
 o 92 (.mv (t 93))]
def f13r12 : List SOper := [
 o 94 (.mv (t 4)),
 o 95 (.cmp .gtr (t 94) (i 0)),
 o 96 (.mv (t 95)),
 g 97 96 (.mv (t 3)),
 g 98 96 (.mv (t 5)),
 g 99 96 (.ar .add (t 97) (t 98)),
 g 100 96 (.cmp .eql (t 99) (i 0)),
 o 101 (.pick (t 96) (t 100) (b false)),
 o 102 (.mv (t 101)),
 g 103 102 (.fa 1 (t 1)),
 g 104 102 (.ld1 (t 103)),
 g 105 102 (.cmp .eql (t 104) e),
 o 106 (.pick (t 102) (t 105) (b false)),
 o 107 (.mv (t 106)),
 g 108 107 (.fa 3 (t 1)),
 g 109 107 (.ld1 (t 108)),
 g 110 107 (.call 29 [(t 109), (u 28)]),
 o 111 (.pick (t 107) (t 110) (b false)),
 o 2 (.mv (t 111))]
def f13r13 : List SOper := [
 o 113 (.cmp .eql (t 48) (i 5)),
 o 112 (.mv (t 113))]
def f13r14 : List SOper := [
 o 114 (.mv (t 5)),
 o 115 (.cmp .gtr (t 114) (i 0)),
 o 116 (.mv (t 115)),
 g 117 116 (.mv (t 3)),
 g 118 116 (.mv (t 4)),
 g 119 116 (.ar .add (t 117) (t 118)),
 g 120 116 (.cmp .eql (t 119) (i 0)),
 o 121 (.pick (t 116) (t 120) (b false)),
 o 122 (.mv (t 121)),
 g 123 122 (.fa 1 (t 1)),
 g 124 122 (.ld1 (t 123)),
 g 125 122 (.cmp .eql (t 124) e),
 o 126 (.pick (t 122) (t 125) (b false)),
 o 127 (.mv (t 126)),
 g 128 127 (.fa 4 (t 1)),
 g 129 127 (.ld1 (t 128)),
 g 130 127 (.call 30 [(t 129), (u 31)]),
 o 131 (.pick (t 127) (t 130) (b false)),
 o 132 (.mv (t 131)),
 g 133 132 (.fa 4 (t 1)),
 g 134 132 (.ld1 (t 133)),
 g 135 132 (.call 32 [(t 134)]),
 o 136 (.pick (t 132) (t 135) (b false)),
 o 2 (.mv (t 136))]
def f13r15 : List SOper := [
 o 2 (.mv (b false))]
def f13 : SCode := (.seq (.ops f13r0) (.seq (.seq (.ops f13r1) (.cond (t 37) (.seq (.ops f13r2) .ret) .skip)) (.seq (.ops f13r3) (.seq (.seq (.ops f13r4) (.block 0 (.seq (.ops f13r5) (.cond (t 49) (.seq (.ops f13r6) .ret) (.seq (.ops f13r7) (.cond (t 57) (.seq (.ops f13r8) .ret) (.seq (.ops f13r9) (.cond (t 77) (.seq (.ops f13r10) .ret) (.seq (.ops f13r11) (.cond (t 92) (.seq (.ops f13r12) .ret) (.seq (.ops f13r13) (.cond (t 112) (.seq (.ops f13r14) .ret) .skip)))))))))))) (.seq (.ops f13r15) .ret)))))
theorem f13_calls : Sound Tryz.prog 13 137 f13 [.t 2] := sound_of mixed Tryz.func13 rfl (by kernel_rfl) (by kernel_rfl) (by kernel_rfl)

/-! 14: tabor/keys.copied -/
def f14r0 : List SOper := [
 o 1 (.box (t 0)),
 o 2 (.new [(.int .i64 0), (.string ⟨#[]⟩), (.slice none 0 0), (.slice none 0 0), (.slice none 0 0), (.bool false), (.int .i64 0)])]
def f14r1 : List SOper := [
 o 3 (.fa 2 (t 1)),
 o 4 (.ld1 (t 3)),
 o 6 (.fa 3 (t 1)),
 o 7 (.ld1 (t 6)),
 o 9 (.fa 4 (t 1)),
 o 10 (.ld1 (t 9)),
 o 5 (.callq 33 [(t 4)]),
 o 12 (.fa 2 (t 1)),
 o 8 (.callq 34 [(t 7)]),
 o 11 (.callq 35 [(t 10)]),
 q (.st 1 (t 12) (t 5)),
 o 13 (.fa 3 (t 1)),
 q (.st 1 (t 13) (t 8)),
 o 14 (.fa 4 (t 1)),
 q (.st 1 (t 14) (t 11))]
def f14r2 : List SOper := [
 o 15 (.ldn 7 (t 1)),
 q (.st 7 (t 2) (t 15))]
def f14 : SCode := (.seq (.ops f14r0) (.seq (.ops f14r1) (.seq (.ops f14r2) .ret)))
theorem f14_calls : Sound Tryz.prog 14 16 f14 [.cn 2 7] := sound_of mixed Tryz.func14 rfl (by kernel_rfl) (by kernel_rfl) (by kernel_rfl)

/-! 15: (*tabor/keys.Keys).none -/
def f15r0 : List SOper := [
 o 2 (.mv (b false))]
def f15r1 : List SOper := [
 o 3 (.mv (t 0)),
 o 4 (.eqn 0 false (t 3)),
 o 5 (.mv (t 4)),
 n 6 5 (.mv (t 0)),
 n 7 5 (.nilck (t 6)),
 n 8 5 (.fa 0 (t 7)),
 n 9 5 (.ld1 (t 8)),
 n 10 5 (.eqn 0 false (t 9)),
 o 11 (.pick (t 5) (b true) (t 10)),
 o 2 (.mv (t 11))]
def f15 : SCode := (.seq (.ops f15r0) (.seq (.ops f15r1) .ret))
theorem f15_calls : Sound Tryz.prog 15 12 f15 [.t 2] := sound_of mixed Tryz.func15 rfl (by kernel_rfl) (by kernel_rfl) (by kernel_rfl)

/-! 16: (*tabor/keys.Keys).All -/
def f16r0 : List SOper := [
 o 1 (.box (t 0)),
 o 2 (.mv (.const .nilFunc))]
def f16r1 : List SOper := [
 o 3 (.fn 36 [] [(t 1)]),
 o 2 (.mv (t 3))]
def f16 : SCode := (.seq (.ops f16r0) (.seq (.ops f16r1) .ret))
theorem f16_calls : Sound Tryz.prog 16 4 f16 [.t 2] := sound_of mixed Tryz.func16 rfl (by kernel_rfl) (by kernel_rfl) (by kernel_rfl)

/-! 17: (*tabor/keys.Keys).one -/
def f17r0 : List SOper := [
 o 3 (.box (t 1)),
 o 4 (.mv (i 0))]
def f17p1 : List SOper := [
 o 12 (.fa 0 (t 3)),
 o 13 (.ld1 (t 12))]
def f17r1 : List SOper := [
 o 11 (.callq 39 []),
 o 14 (.look (.int .i64) (.agg #[(.bool false), (.bool false), (.bool false), (.int .i64 0), (.bool false), .nilFunc]) true (t 11) (t 13)),
 o 10 (.mv (t 14)),
 o 15 (.ext (t 10) 0),
 o 16 (.ext (t 10) 1),
 o 5 (.new [(.bool false), (.bool false), (.bool false), (.int .i64 0), (.bool false), .nilFunc]),
 q (.st 6 (t 5) (t 15)),
 o 6 (.mv (t 16))]
def f17s1 : List SOper := [
 o 5 (.new [(.bool false), (.bool false), (.bool false), (.int .i64 0), (.bool false), .nilFunc]),
 o 11 (.callq 39 []),
 o 14 (.look (.int .i64) (.agg #[(.bool false), (.bool false), (.bool false), (.int .i64 0), (.bool false), .nilFunc]) true (t 11) (t 13)),
 o 10 (.mv (t 14)),
 o 15 (.ext (t 10) 0),
 o 16 (.ext (t 10) 1),
 q (.st 6 (t 5) (t 15)),
 o 6 (.mv (t 16))]
def f17r2 : List SOper := [
 o 17 (.mv (t 6)),
 o 18 (.un .not (t 17)),
 o 19 (.mv (t 18)),
 n 20 19 (.fa 0 (t 5)),
 n 21 19 (.ld1 (t 20)),
 n 22 19 (.un .not (t 21)),
 n 23 19 (.mv (t 22)),
 g 24 23 (.fa 2 (t 3)),
 g 25 23 (.ld1 (t 24)),
 g 26 23 (.cmp .neq (t 25) e),
 n 27 19 (.pick (t 23) (t 26) (b false)),
 o 28 (.pick (t 19) (b true) (t 27)),
 o 29 (.mv (t 28)),
 n 30 29 (.fa 1 (t 5)),
 n 31 29 (.ld1 (t 30)),
 n 32 29 (.un .not (t 31)),
 n 33 29 (.mv (t 32)),
 g 34 33 (.fa 3 (t 3)),
 g 35 33 (.ld1 (t 34)),
 g 36 33 (.cmp .neq (t 35) e),
 n 37 29 (.pick (t 33) (t 36) (b false)),
 o 38 (.pick (t 29) (b true) (t 37)),
 o 39 (.mv (t 38)),
 n 40 39 (.fa 2 (t 5)),
 n 41 39 (.ld1 (t 40)),
 n 42 39 (.un .not (t 41)),
 n 43 39 (.mv (t 42)),
 g 44 43 (.fa 4 (t 3)),
 g 45 43 (.ld1 (t 44)),
 g 46 43 (.cmp .neq (t 45) (i 0)),
 n 47 39 (.pick (t 43) (t 46) (b false)),
 o 48 (.pick (t 39) (b true) (t 47))]
def f17r3 : List SOper := [
 o 4 (.mv (i 2))]
def f17r4 : List SOper := [
 o 49 (.fa 1 (t 3)),
 o 50 (.ld1 (t 49)),
 o 51 (.fa 2 (t 3)),
 o 52 (.ld1 (t 51)),
 o 53 (.fa 3 (t 3)),
 o 54 (.ld1 (t 53)),
 o 55 (.bslice [(.string ⟨#[]⟩), (.string ⟨#[]⟩), (.string ⟨#[]⟩)] 3 [(0, 1), (1, 1), (2, 1)] [(t 50), (t 52), (t 54)]),
 o 56 (.call 24 [(t 55)]),
 o 57 (.un .not (t 56))]
def f17r5 : List SOper := [
 o 4 (.mv (i 3))]
def f17r6 : List SOper := [
 o 59 (.mv (t 0)),
 o 60 (.fa 1 (t 3)),
 o 61 (.ld1 (t 60)),
 o 62 (.call 21 [(t 59), (t 61)]),
 o 58 (.mv (t 62)),
 o 63 (.ext (t 58) 0),
 o 64 (.ext (t 58) 1),
 o 7 (.new [(.int .i64 0), (.string ⟨#[]⟩), (.slice none 0 0), (.slice none 0 0), (.slice none 0 0), (.bool false), (.int .i64 0)]),
 q (.st 7 (t 7) (t 63)),
 o 8 (.mv (t 64))]
def f17r7 : List SOper := [
 o 66 (.mv (t 8)),
 o 67 (.un .not (t 66)),
 o 68 (.mv (t 67)),
 g 69 68 (.fa 4 (t 5)),
 g 70 68 (.ld1 (t 69)),
 g 71 68 (.un .not (t 70)),
 o 72 (.pick (t 68) (t 71) (b false)),
 o 65 (.mv (t 72))]
def f17r8 : List SOper := [
 o 4 (.mv (i 5))]
def f17r9 : List SOper := [
 o 74 (.mv (t 8)),
 o 75 (.un .not (t 74)),
 o 73 (.mv (t 75))]
def f17r10 : List SOper := [
 o 76 (.fa 3 (t 5)),
 o 77 (.ld1 (t 76)),
 o 78 (.fa 0 (t 7)),
 q (.st 1 (t 78) (t 77))]
def f17r11 : List SOper := [
 o 80 (.fa 3 (t 5)),
 o 81 (.ld1 (t 80)),
 o 82 (.cmp .neq (t 81) (i 0)),
 o 83 (.mv (t 82)),
 g 84 83 (.fa 0 (t 7)),
 g 85 83 (.ld1 (t 84)),
 g 86 83 (.fa 3 (t 5)),
 g 87 83 (.ld1 (t 86)),
 g 88 83 (.cmp .neq (t 85) (t 87)),
 o 89 (.pick (t 83) (t 88) (b false)),
 o 79 (.mv (t 89))]
def f17r12 : List SOper := [
 o 4 (.mv (i 170))]
def f17r13 : List SOper := [
 o 90 (.fa 5 (t 5)),
 o 91 (.ld1 (t 90)),
 o 92 (.ldn 5 (t 3)),
 o 93 (.callv (t 91) [(t 7), (t 92)]),
 o 9 (.mv (t 93))]
def f17r14 : List SOper := [
 o 94 (.mv (t 9)),
 o 95 (.cmp .neq (t 94) (i 0))]
def f17r15 : List SOper := [
 o 96 (.mv (t 9)),
 o 4 (.mv (t 96))]
def f17r16 : List SOper := [
 o 107 (.fa 0 (t 7)),
 o 108 (.ld1 (t 107)),
 o 109 (.cmp .neq (t 108) (i 1)),
 o 110 (.mv (t 109)),
 g 111 110 (.ldn 7 (t 7)),
 g 112 110 (.call 23 [(t 111)]),
 g 113 110 (.cmp .eql (t 112) (i 0)),
 o 114 (.pick (t 110) (t 113) (b false)),
 o 106 (.mv (t 114))]
def f17r17 : List SOper := [
 o 115 (.mv (t 0)),
 o 116 (.nilck (t 115)),
 o 117 (.fa 0 (t 116)),
 o 118 (.ld1 (t 117)),
 o 119 (.nilck (t 118)),
 o 120 (.fa 0 (t 119)),
 o 121 (.ld1 (t 120)),
 o 122 (.fa 1 (t 3)),
 o 123 (.ld1 (t 122)),
 q (.mdel .str (t 121) (t 123))]
def f17r18 : List SOper := [
 o 125 (.ldn 7 (t 7)),
 o 126 (.call 23 [(t 125)]),
 o 127 (.cmp .gtr (t 126) (i 65536)),
 o 128 (.mv (t 127)),
 n 129 128 (.mv (t 8)),
 n 130 128 (.un .not (t 129)),
 n 131 128 (.mv (t 130)),
 g 132 131 (.mv (t 0)),
 g 133 131 (.nilck (t 132)),
 g 134 131 (.fa 0 (t 133)),
 g 135 131 (.ld1 (t 134)),
 g 136 131 (.nilck (t 135)),
 g 137 131 (.fa 0 (t 136)),
 g 138 131 (.ld1 (t 137)),
 g 139 131 (.lenm (t 138)),
 g 140 131 (.cmp .geq (t 139) (i 65536)),
 n 141 128 (.pick (t 131) (t 140) (b false)),
 o 142 (.pick (t 128) (b true) (t 141)),
 o 124 (.mv (t 142))]
def f17r19 : List SOper := [
 o 4 (.mv (i 3))]
def f17r20 : List SOper := [
 o 97 (.mv (t 0)),
 o 98 (.nilck (t 97)),
 o 99 (.fa 0 (t 98)),
 o 100 (.ld1 (t 99)),
 o 101 (.nilck (t 100)),
 o 102 (.fa 0 (t 101)),
 o 103 (.ld1 (t 102)),
 o 104 (.fa 1 (t 3)),
 o 105 (.ld1 (t 104)),
 q (.mup .str (t 103) (t 105) (t 7))]
def f17r21 : List SOper := [
 o 4 (.mv (i 0))]
def f17 : SCode := (.seq (.ops f17r0) (.seq (.two f17p1 f17r1 f17s1) (.seq (.seq (.ops f17r2) (.cond (t 48) (.seq (.ops f17r3) .ret) .skip)) (.seq (.seq (.ops f17r4) (.cond (t 57) (.seq (.ops f17r5) .ret) .skip)) (.seq (.ops f17r6) (.seq (.block 0 (.seq (.ops f17r7) (.cond (t 65) (.seq (.ops f17r8) .ret) (.seq (.ops f17r9) (.cond (t 73) (.ops f17r10) (.seq (.ops f17r11) (.cond (t 79) (.seq (.ops f17r12) .ret) .skip))))))) (.seq (.seq (.ops f17r13) (.seq (.ops f17r14) (.cond (t 95) (.seq (.ops f17r15) .ret) .skip))) (.seq (.block 1 (.seq (.ops f17r16) (.cond (t 106) (.ops f17r17) (.seq (.ops f17r18) (.cond (t 124) (.seq (.ops f17r19) .ret) (.ops f17r20)))))) (.seq (.ops f17r21) .ret)))))))))
theorem f17_calls : Sound Tryz.prog 17 143 f17 [.t 4] := sound_of mixed Tryz.func17 rfl (by kernel_rfl) (by kernel_rfl) (by kernel_rfl)

/-! 18: maps.EqualFunc[map[string]*tabor/api.Thing,map[string]*tabor/api.Thing,string,*tabor/api.Thing,*tabor/api.Thing] -/
def f18r0 : List SOper := [
 o 6 (.mv (b false))]
def f18r1 : List SOper := [
 o 11 (.mv (t 0)),
 o 12 (.lenm (t 11)),
 o 13 (.mv (t 1)),
 o 14 (.lenm (t 13)),
 o 15 (.cmp .neq (t 12) (t 14))]
def f18r2 : List SOper := [
 o 6 (.mv (b false))]
def f18r3 : List SOper := [
 o 16 (.mv (t 0)),
 o 17 (.rng (t 16))]
def f18r4 : List SOper := [
 o 18 (.nxt (t 17)),
 o 19 (.ext (t 18) 0)]
def f18r5 : List SOper := [
 o 20 (.ent (t 17)),
 o 21 (.ext (t 20) 0),
 o 22 (.ext (t 20) 1),
 o 7 (.mv (t 21)),
 o 8 (.mv (t 22))]
def f18r6 : List SOper := [
 o 24 (.mv (t 1)),
 o 25 (.mv (t 7)),
 o 26 (.look .str (.pointer none) true (t 24) (t 25)),
 o 23 (.mv (t 26)),
 o 27 (.ext (t 23) 0),
 o 28 (.ext (t 23) 1),
 o 9 (.mv (t 27)),
 o 10 (.mv (t 28))]
def f18r7 : List SOper := [
 o 29 (.mv (t 10)),
 o 30 (.un .not (t 29)),
 o 31 (.mv (t 30)),
 n 32 31 (.mv (t 2)),
 n 33 31 (.mv (t 8)),
 n 34 31 (.mv (t 9)),
 n 35 31 (.callv (t 32) [(t 33), (t 34)]),
 n 36 31 (.un .not (t 35)),
 o 37 (.pick (t 31) (b true) (t 36))]
def f18r8 : List SOper := [
 o 6 (.mv (b false))]
def f18l9 : SCode := (.seq (.ops f18r4) (.seq (.cond (t 19) .skip (.exit 0)) (.block 1 (.seq (.ops f18r5) (.seq (.ops f18r6) (.seq (.ops f18r7) (.cond (t 37) (.seq (.ops f18r8) .ret) .skip)))))))
def f18r10 : List SOper := [
 o 6 (.mv (b true))]
def f18 : SCode := (.seq (.ops f18r0) (.seq (.seq (.ops f18r1) (.cond (t 15) (.seq (.ops f18r2) .ret) .skip)) (.seq (.seq (.ops f18r3) (.block 0 (.loop f18l9))) (.seq (.ops f18r10) .ret))))
theorem f18_calls : Sound Tryz.prog 18 38 f18 [.t 6] := sound_of mixed Tryz.func18 rfl (by kernel_rfl) (by kernel_rfl) (by kernel_rfl)

/-! 19: (*tabor/keys.Keys).Same$1 -/
def f19r0 : List SOper := [
 o 4 (.mv (b false))]
def f19r1 : List SOper := [
 o 5 (.mv (t 0)),
 o 6 (.nilck (t 5)),
 o 7 (.ldn 7 (t 6)),
 o 8 (.mv (t 1)),
 o 9 (.nilck (t 8)),
 o 10 (.ldn 7 (t 9)),
 o 11 (.call 20 [(t 7), (t 10)]),
 o 4 (.mv (t 11))]
def f19 : SCode := (.seq (.ops f19r0) (.seq (.ops f19r1) .ret))
theorem f19_calls : Sound Tryz.prog 19 12 f19 [.t 4] := sound_of mixed Tryz.func19 rfl (by kernel_rfl) (by kernel_rfl) (by kernel_rfl)

/-! 20: tabor/keys.SameThing -/
def f20r0 : List SOper := [
 o 2 (.box (t 0)),
 o 3 (.box (t 1)),
 o 4 (.mv (b false))]
def f20r1 : List SOper := [
 o 5 (.fa 0 (t 2)),
 o 6 (.ld1 (t 5)),
 o 7 (.fa 0 (t 3)),
 o 8 (.ld1 (t 7)),
 o 9 (.cmp .eql (t 6) (t 8)),
 o 10 (.mv (t 9)),
 g 11 10 (.fa 1 (t 2)),
 g 12 10 (.ld1 (t 11)),
 g 13 10 (.fa 1 (t 3)),
 g 14 10 (.ld1 (t 13)),
 g 15 10 (.cmp .eql (t 12) (t 14)),
 o 16 (.pick (t 10) (t 15) (b false)),
 o 17 (.mv (t 16)),
 g 18 17 (.fa 2 (t 2)),
 g 19 17 (.ld1 (t 18)),
 g 20 17 (.fa 2 (t 3)),
 g 21 17 (.ld1 (t 20)),
 g 22 17 (.call 40 [(t 19), (t 21)]),
 o 23 (.pick (t 17) (t 22) (b false)),
 o 24 (.mv (t 23)),
 g 25 24 (.fa 3 (t 2)),
 g 26 24 (.ld1 (t 25)),
 g 27 24 (.fa 3 (t 3)),
 g 28 24 (.ld1 (t 27)),
 g 29 24 (.call 41 [(t 26), (t 28)]),
 o 30 (.pick (t 24) (t 29) (b false)),
 o 31 (.mv (t 30)),
 g 32 31 (.fa 4 (t 2)),
 g 33 31 (.ld1 (t 32)),
 g 34 31 (.fa 4 (t 3)),
 g 35 31 (.ld1 (t 34)),
 g 36 31 (.call 42 [(t 33), (t 35)]),
 o 37 (.pick (t 31) (t 36) (b false)),
 o 38 (.mv (t 37)),
 g 39 38 (.fa 5 (t 2)),
 g 40 38 (.ld1 (t 39)),
 g 41 38 (.fa 5 (t 3)),
 g 42 38 (.ld1 (t 41)),
 g 43 38 (.cmpb false (t 40) (t 42)),
 o 44 (.pick (t 38) (t 43) (b false)),
 o 45 (.mv (t 44)),
 g 46 45 (.fa 6 (t 2)),
 g 47 45 (.ld1 (t 46)),
 g 48 45 (.fa 6 (t 3)),
 g 49 45 (.ld1 (t 48)),
 g 50 45 (.cmp .eql (t 47) (t 49)),
 o 51 (.pick (t 45) (t 50) (b false)),
 o 4 (.mv (t 51))]
def f20 : SCode := (.seq (.ops f20r0) (.seq (.ops f20r1) .ret))
theorem f20_calls : Sound Tryz.prog 20 52 f20 [.t 4] := sound_of mixed Tryz.func20 rfl (by kernel_rfl) (by kernel_rfl) (by kernel_rfl)

/-! 21: (*tabor/keys.Keys).Look -/
def f21r0 : List SOper := [
 o 4 (.new [(.int .i64 0), (.string ⟨#[]⟩), (.slice none 0 0), (.slice none 0 0), (.slice none 0 0), (.bool false), (.int .i64 0)]),
 o 5 (.mv (b false))]
def f21r1 : List SOper := [
 o 6 (.mv (t 0)),
 o 7 (.call 15 [(t 6)]),
 o 8 (.mv (t 7)),
 n 9 8 (.mv (t 0)),
 n 10 8 (.nilck (t 9)),
 n 11 8 (.fa 0 (t 10)),
 n 12 8 (.ld1 (t 11)),
 n 13 8 (.nilck (t 12)),
 n 14 8 (.fa 0 (t 13)),
 n 15 8 (.ld1 (t 14)),
 n 16 8 (.mv (t 1)),
 n 17 8 (.look .str (.pointer none) false (t 15) (t 16)),
 n 18 8 (.eqn 0 false (t 17)),
 o 19 (.pick (t 8) (b true) (t 18))]
def f21r2 : List SOper := [
 o 20 (.build [(.int .i64 0), (.string ⟨#[]⟩), (.slice none 0 0), (.slice none 0 0), (.slice none 0 0), (.bool false), (.int .i64 0)] [] []),
 q (.st 7 (t 4) (t 20)),
 o 5 (.mv (b false))]
def f21r3 : List SOper := [
 o 21 (.mv (t 0)),
 o 22 (.nilck (t 21)),
 o 23 (.fa 0 (t 22)),
 o 24 (.ld1 (t 23)),
 o 25 (.nilck (t 24)),
 o 26 (.fa 0 (t 25)),
 o 27 (.ld1 (t 26)),
 o 28 (.mv (t 1)),
 o 29 (.look .str (.pointer none) false (t 27) (t 28)),
 o 30 (.nilck (t 29)),
 o 31 (.ldn 7 (t 30)),
 o 32 (.call 14 [(t 31)]),
 q (.st 7 (t 4) (t 32)),
 o 5 (.mv (b true))]
def f21 : SCode := (.seq (.ops f21r0) (.seq (.seq (.ops f21r1) (.cond (t 19) (.seq (.ops f21r2) .ret) .skip)) (.seq (.ops f21r3) .ret)))
theorem f21_calls : Sound Tryz.prog 21 33 f21 [.cn 4 7, .t 5] := sound_of mixed Tryz.func21 rfl (by kernel_rfl) (by kernel_rfl) (by kernel_rfl)

/-! 22: tabor/keys.gone -/
def f22r0 : List SOper := [
 o 2 (.box (t 0)),
 o 4 (.mv (b false))]
def f22r1 : List SOper := [
 o 5 (.fa 5 (t 2)),
 o 6 (.ld1 (t 5)),
 o 7 (.mv (t 6)),
 g 8 7 (.fa 6 (t 2)),
 g 9 7 (.ld1 (t 8)),
 g 10 7 (.mv (t 1)),
 g 11 7 (.cmp .leq (t 9) (t 10)),
 o 12 (.pick (t 7) (t 11) (b false)),
 o 4 (.mv (t 12))]
def f22 : SCode := (.seq (.ops f22r0) (.seq (.ops f22r1) .ret))
theorem f22_calls : Sound Tryz.prog 22 13 f22 [.t 4] := sound_of mixed Tryz.func22 rfl (by kernel_rfl) (by kernel_rfl) (by kernel_rfl)

/-! 23: tabor/keys.count -/
def f23r0 : List SOper := [
 o 1 (.box (t 0)),
 o 2 (.mv (i 0))]
def f23r1 : List SOper := [
 o 3 (.fa 2 (t 1)),
 o 4 (.ld1 (t 3)),
 o 5 (.len (t 4)),
 o 6 (.fa 3 (t 1)),
 o 7 (.ld1 (t 6)),
 o 8 (.len (t 7)),
 o 9 (.ar .add (t 5) (t 8)),
 o 10 (.fa 4 (t 1)),
 o 11 (.ld1 (t 10)),
 o 12 (.len (t 11)),
 o 13 (.ar .add (t 9) (t 12)),
 o 2 (.mv (t 13))]
def f23 : SCode := (.seq (.ops f23r0) (.seq (.ops f23r1) .ret))
theorem f23_calls : Sound Tryz.prog 23 14 f23 [.t 2] := sound_of mixed Tryz.func23 rfl (by kernel_rfl) (by kernel_rfl) (by kernel_rfl)

/-! 24: tabor/keys.short -/
def f24r0 : List SOper := [
 o 2 (.mv (b false))]
def f24r1 : List SOper := [
 o 3 (.mv (t 0)),
 o 4 (.call 43 [(t 3), (u 44)]),
 o 5 (.un .not (t 4)),
 o 2 (.mv (t 5))]
def f24 : SCode := (.seq (.ops f24r0) (.seq (.ops f24r1) .ret))
theorem f24_calls : Sound Tryz.prog 24 6 f24 [.t 2] := sound_of mixed Tryz.func24 rfl (by kernel_rfl) (by kernel_rfl) (by kernel_rfl)

/-! 25: tabor/keys.names -/
def f25r0 : List SOper := [
 o 1 (.box (t 0)),
 o 2 (.mv (.const (.slice none 0 0)))]
def f25r1 : List SOper := [
 o 3 (.mv (.const (.slice none 0 0)))]
def f25r2 : List SOper := [
 o 8 (.fa 2 (t 1)),
 o 9 (.ld1 (t 8)),
 o 10 (.len (t 9)),
 o 11 (.mv (i 0))]
def f25r3 : List SOper := [
 o 12 (.cmp .lss (t 11) (t 10))]
def f25r4 : List SOper := [
 o 13 (.ixs 2 (t 9) (t 11)),
 o 14 (.ldn 2 (t 13)),
 o 5 (.new [(.string ⟨#[]⟩), (.string ⟨#[]⟩)]),
 q (.st 2 (t 5) (t 14))]
def f25r5 : List SOper := [
 o 15 (.mv (t 3)),
 o 16 (.fa 0 (t 5)),
 o 17 (.ld1 (t 16)),
 o 18 (.fa 1 (t 5)),
 o 19 (.ld1 (t 18)),
 o 20 (.bslice [(.string ⟨#[]⟩), (.string ⟨#[]⟩)] 2 [(0, 1), (1, 1)] [(t 17), (t 19)]),
 o 21 (.app 1 16 [(.string ⟨#[]⟩)] (t 15) (t 20)),
 o 3 (.mv (t 21))]
def f25r6 : List SOper := [
 o 22 (.ar .add (t 11) (i 1)),
 o 11 (.mv (t 22))]
def f25l7 : SCode := (.seq (.ops f25r3) (.seq (.cond (t 12) .skip (.exit 0)) (.seq (.block 1 (.seq (.ops f25r4) (.ops f25r5))) (.ops f25r6))))
def f25r8 : List SOper := [
 o 23 (.fa 4 (t 1)),
 o 24 (.ld1 (t 23)),
 o 25 (.len (t 24)),
 o 26 (.mv (i 0))]
def f25r9 : List SOper := [
 o 27 (.cmp .lss (t 26) (t 25))]
def f25r10 : List SOper := [
 o 28 (.ixs 2 (t 24) (t 26)),
 o 29 (.ldn 2 (t 28)),
 o 7 (.new [(.string ⟨#[]⟩), (.int .i64 0)]),
 q (.st 2 (t 7) (t 29))]
def f25r11 : List SOper := [
 o 30 (.mv (t 3)),
 o 31 (.fa 0 (t 7)),
 o 32 (.ld1 (t 31)),
 o 33 (.bslice [(.string ⟨#[]⟩)] 1 [(0, 1)] [(t 32)]),
 o 34 (.app 1 16 [(.string ⟨#[]⟩)] (t 30) (t 33)),
 o 3 (.mv (t 34))]
def f25r12 : List SOper := [
 o 35 (.ar .add (t 26) (i 1)),
 o 26 (.mv (t 35))]
def f25l13 : SCode := (.seq (.ops f25r9) (.seq (.cond (t 27) .skip (.exit 2)) (.seq (.block 3 (.seq (.ops f25r10) (.ops f25r11))) (.ops f25r12))))
def f25r14 : List SOper := [
 o 36 (.mv (t 3)),
 o 2 (.mv (t 36))]
def f25 : SCode := (.seq (.ops f25r0) (.seq (.ops f25r1) (.seq (.seq (.ops f25r2) (.block 0 (.loop f25l7))) (.seq (.seq (.ops f25r8) (.block 2 (.loop f25l13))) (.seq (.ops f25r14) .ret)))))
theorem f25_calls : Sound Tryz.prog 25 37 f25 [.t 2] := sound_of mixed Tryz.func25 rfl (by kernel_rfl) (by kernel_rfl) (by kernel_rfl)

/-! 26: tabor/keys.rising[tabor/api.Pair] -/
def f26r0 : List SOper := [
 o 4 (.mv (b false))]
def f26r1 : List SOper := [
 o 5 (.mv (i 1))]
def f26r2 : List SOper := [
 o 6 (.mv (t 5)),
 o 7 (.mv (t 0)),
 o 8 (.len (t 7)),
 o 9 (.cmp .lss (t 6) (t 8))]
def f26r3 : List SOper := [
 o 12 (.mv (t 1)),
 o 13 (.mv (t 0)),
 o 14 (.mv (t 5)),
 o 15 (.ar .sub (t 14) (i 1)),
 o 16 (.ixs 2 (t 13) (t 15)),
 o 17 (.ldn 2 (t 16)),
 o 18 (.mv (t 0)),
 o 19 (.mv (t 5)),
 o 20 (.ixs 2 (t 18) (t 19)),
 o 21 (.ldn 2 (t 20)),
 o 22 (.callv (t 12) [(t 17), (t 21)]),
 o 23 (.cmp .geq (t 22) (i 0))]
def f26r4 : List SOper := [
 o 4 (.mv (b false))]
def f26r5 : List SOper := [
 o 10 (.mv (t 5)),
 o 11 (.ar .add (t 10) (i 1)),
 o 5 (.mv (t 11))]
def f26l6 : SCode := (.seq (.seq (.ops f26r2) (.cond (t 9) .skip (.exit 0))) (.seq (.block 1 (.seq (.ops f26r3) (.cond (t 23) (.seq (.ops f26r4) .ret) .skip))) (.ops f26r5)))
def f26r7 : List SOper := [
 o 4 (.mv (b true))]
def f26 : SCode := (.seq (.ops f26r0) (.seq (.seq (.ops f26r1) (.block 0 (.loop f26l6))) (.seq (.ops f26r7) .ret)))
theorem f26_calls : Sound Tryz.prog 26 24 f26 [.t 4] := sound_of mixed Tryz.func26 rfl (by kernel_rfl) (by kernel_rfl) (by kernel_rfl)

/-! 27: tabor/keys.Check$1 -/
def f27r0 : List SOper := [
 o 2 (.box (t 0)),
 o 3 (.box (t 1)),
 o 4 (.mv (i 0))]
def f27r1 : List SOper := [
 o 5 (.fa 0 (t 2)),
 o 6 (.ld1 (t 5)),
 o 7 (.fa 0 (t 3)),
 o 8 (.ld1 (t 7)),
 o 9 (.call 28 [(t 6), (t 8)]),
 o 4 (.mv (t 9))]
def f27 : SCode := (.seq (.ops f27r0) (.seq (.ops f27r1) .ret))
theorem f27_calls : Sound Tryz.prog 27 10 f27 [.t 4] := sound_of mixed Tryz.func27 rfl (by kernel_rfl) (by kernel_rfl) (by kernel_rfl)

/-! 28: strings.Compare -/
def f28r0 : List SOper := [
 o 4 (.mv (i 0))]
def f28r1 : List SOper := [
 o 5 (.mv (t 0)),
 o 6 (.mv (t 1)),
 o 7 (.call 45 [(t 5), (t 6)]),
 o 4 (.mv (t 7))]
def f28 : SCode := (.seq (.ops f28r0) (.seq (.ops f28r1) .ret))
theorem f28_calls : Sound Tryz.prog 28 8 f28 [.t 4] := sound_of mixed Tryz.func28 rfl (by kernel_rfl) (by kernel_rfl) (by kernel_rfl)

/-! 29: tabor/keys.rising[string] -/
def f29r0 : List SOper := [
 o 4 (.mv (b false))]
def f29r1 : List SOper := [
 o 5 (.mv (i 1))]
def f29r2 : List SOper := [
 o 6 (.mv (t 5)),
 o 7 (.mv (t 0)),
 o 8 (.len (t 7)),
 o 9 (.cmp .lss (t 6) (t 8))]
def f29r3 : List SOper := [
 o 12 (.mv (t 1)),
 o 13 (.mv (t 0)),
 o 14 (.mv (t 5)),
 o 15 (.ar .sub (t 14) (i 1)),
 o 16 (.ixs 1 (t 13) (t 15)),
 o 17 (.ld1 (t 16)),
 o 18 (.mv (t 0)),
 o 19 (.mv (t 5)),
 o 20 (.ixs 1 (t 18) (t 19)),
 o 21 (.ld1 (t 20)),
 o 22 (.callv (t 12) [(t 17), (t 21)]),
 o 23 (.cmp .geq (t 22) (i 0))]
def f29r4 : List SOper := [
 o 4 (.mv (b false))]
def f29r5 : List SOper := [
 o 10 (.mv (t 5)),
 o 11 (.ar .add (t 10) (i 1)),
 o 5 (.mv (t 11))]
def f29l6 : SCode := (.seq (.seq (.ops f29r2) (.cond (t 9) .skip (.exit 0))) (.seq (.block 1 (.seq (.ops f29r3) (.cond (t 23) (.seq (.ops f29r4) .ret) .skip))) (.ops f29r5)))
def f29r7 : List SOper := [
 o 4 (.mv (b true))]
def f29 : SCode := (.seq (.ops f29r0) (.seq (.seq (.ops f29r1) (.block 0 (.loop f29l6))) (.seq (.ops f29r7) .ret)))
theorem f29_calls : Sound Tryz.prog 29 24 f29 [.t 4] := sound_of mixed Tryz.func29 rfl (by kernel_rfl) (by kernel_rfl) (by kernel_rfl)

/-! 30: tabor/keys.rising[tabor/api.Rank] -/
def f30r0 : List SOper := [
 o 4 (.mv (b false))]
def f30r1 : List SOper := [
 o 5 (.mv (i 1))]
def f30r2 : List SOper := [
 o 6 (.mv (t 5)),
 o 7 (.mv (t 0)),
 o 8 (.len (t 7)),
 o 9 (.cmp .lss (t 6) (t 8))]
def f30r3 : List SOper := [
 o 12 (.mv (t 1)),
 o 13 (.mv (t 0)),
 o 14 (.mv (t 5)),
 o 15 (.ar .sub (t 14) (i 1)),
 o 16 (.ixs 2 (t 13) (t 15)),
 o 17 (.ldn 2 (t 16)),
 o 18 (.mv (t 0)),
 o 19 (.mv (t 5)),
 o 20 (.ixs 2 (t 18) (t 19)),
 o 21 (.ldn 2 (t 20)),
 o 22 (.callv (t 12) [(t 17), (t 21)]),
 o 23 (.cmp .geq (t 22) (i 0))]
def f30r4 : List SOper := [
 o 4 (.mv (b false))]
def f30r5 : List SOper := [
 o 10 (.mv (t 5)),
 o 11 (.ar .add (t 10) (i 1)),
 o 5 (.mv (t 11))]
def f30l6 : SCode := (.seq (.seq (.ops f30r2) (.cond (t 9) .skip (.exit 0))) (.seq (.block 1 (.seq (.ops f30r3) (.cond (t 23) (.seq (.ops f30r4) .ret) .skip))) (.ops f30r5)))
def f30r7 : List SOper := [
 o 4 (.mv (b true))]
def f30 : SCode := (.seq (.ops f30r0) (.seq (.seq (.ops f30r1) (.block 0 (.loop f30l6))) (.seq (.ops f30r7) .ret)))
theorem f30_calls : Sound Tryz.prog 30 24 f30 [.t 4] := sound_of mixed Tryz.func30 rfl (by kernel_rfl) (by kernel_rfl) (by kernel_rfl)

/-! 31: tabor/keys.ahead -/
def f31r0 : List SOper := [
 o 2 (.box (t 0)),
 o 3 (.box (t 1)),
 o 4 (.mv (i 0))]
def f31r1 : List SOper := [
 o 6 (.fa 1 (t 2)),
 o 7 (.ld1 (t 6)),
 o 8 (.fa 1 (t 3)),
 o 9 (.ld1 (t 8)),
 o 10 (.cmp .lss (t 7) (t 9)),
 o 5 (.mv (t 10))]
def f31r2 : List SOper := [
 o 4 (.mv (i (-1)))]
def f31r3 : List SOper := [
 o 12 (.fa 1 (t 2)),
 o 13 (.ld1 (t 12)),
 o 14 (.fa 1 (t 3)),
 o 15 (.ld1 (t 14)),
 o 16 (.cmp .gtr (t 13) (t 15)),
 o 11 (.mv (t 16))]
def f31r4 : List SOper := [
 o 4 (.mv (i 1))]
def f31r5 : List SOper := [
 o 17 (.fa 0 (t 2)),
 o 18 (.ld1 (t 17)),
 o 19 (.fa 0 (t 3)),
 o 20 (.ld1 (t 19)),
 o 21 (.call 28 [(t 18), (t 20)]),
 o 4 (.mv (t 21))]
def f31 : SCode := (.seq (.ops f31r0) (.seq (.block 0 (.seq (.ops f31r1) (.cond (t 5) (.seq (.ops f31r2) .ret) (.seq (.ops f31r3) (.cond (t 11) (.seq (.ops f31r4) .ret) .skip))))) (.seq (.ops f31r5) .ret)))
theorem f31_calls : Sound Tryz.prog 31 22 f31 [.t 4] := sound_of mixed Tryz.func31 rfl (by kernel_rfl) (by kernel_rfl) (by kernel_rfl)

/-! 32: tabor/keys.once -/
def f32r0 : List SOper := [
 o 2 (.mv (b false))]
def f32r1 : List SOper := [
 o 6 (.mkm),
 o 3 (.mv (t 6))]
def f32r2 : List SOper := [
 o 7 (.mv (t 0)),
 o 8 (.len (t 7)),
 o 9 (.mv (i 0))]
def f32r3 : List SOper := [
 o 10 (.cmp .lss (t 9) (t 8))]
def f32r4 : List SOper := [
 o 11 (.ixs 2 (t 7) (t 9)),
 o 12 (.ldn 2 (t 11)),
 o 5 (.new [(.string ⟨#[]⟩), (.int .i64 0)]),
 q (.st 2 (t 5) (t 12))]
def f32r5 : List SOper := [
 o 13 (.mv (t 3)),
 o 14 (.fa 0 (t 5)),
 o 15 (.ld1 (t 14)),
 o 16 (.look .str (.int .i64 0) false (t 13) (t 15)),
 o 17 (.ar .add (t 16) (i 1)),
 q (.mup .str (t 13) (t 15) (t 17))]
def f32r6 : List SOper := [
 o 18 (.ar .add (t 9) (i 1)),
 o 9 (.mv (t 18))]
def f32l7 : SCode := (.seq (.ops f32r3) (.seq (.cond (t 10) .skip (.exit 0)) (.seq (.block 1 (.seq (.ops f32r4) (.ops f32r5))) (.ops f32r6))))
def f32r8 : List SOper := [
 o 19 (.mv (t 3)),
 o 20 (.lenm (t 19)),
 o 21 (.mv (t 0)),
 o 22 (.len (t 21)),
 o 23 (.cmp .eql (t 20) (t 22)),
 o 2 (.mv (t 23))]
def f32 : SCode := (.seq (.ops f32r0) (.seq (.ops f32r1) (.seq (.seq (.ops f32r2) (.block 0 (.loop f32l7))) (.seq (.ops f32r8) .ret))))
theorem f32_calls : Sound Tryz.prog 32 24 f32 [.t 2] := sound_of mixed Tryz.func32 rfl (by kernel_rfl) (by kernel_rfl) (by kernel_rfl)

/-! 33: slices.Clone[[]tabor/api.Pair,tabor/api.Pair] -/
def f33r0 : List SOper := [
 o 2 (.mv (.const (.slice none 0 0)))]
def f33r1 : List SOper := [
 o 3 (.mv (t 0)),
 o 4 (.eqn 1 false (t 3))]
def f33r2 : List SOper := [
 o 2 (.mv (.const (.slice none 0 0)))]
def f33r3 : List SOper := [
 o 5 (.bslice [] 0 [] []),
 o 6 (.mv (t 0)),
 o 7 (.app 2 32 [(.string ⟨#[]⟩), (.string ⟨#[]⟩)] (t 5) (t 6)),
 o 2 (.mv (t 7))]
def f33 : SCode := (.seq (.ops f33r0) (.seq (.seq (.ops f33r1) (.cond (t 4) (.seq (.ops f33r2) .ret) .skip)) (.seq (.ops f33r3) .ret)))
theorem f33_calls : Sound Tryz.prog 33 8 f33 [.t 2] := sound_of mixed Tryz.func33 rfl (by kernel_rfl) (by kernel_rfl) (by kernel_rfl)

/-! 34: slices.Clone[[]string,string] -/
def f34r0 : List SOper := [
 o 2 (.mv (.const (.slice none 0 0)))]
def f34r1 : List SOper := [
 o 3 (.mv (t 0)),
 o 4 (.eqn 1 false (t 3))]
def f34r2 : List SOper := [
 o 2 (.mv (.const (.slice none 0 0)))]
def f34r3 : List SOper := [
 o 5 (.bslice [] 0 [] []),
 o 6 (.mv (t 0)),
 o 7 (.app 1 16 [(.string ⟨#[]⟩)] (t 5) (t 6)),
 o 2 (.mv (t 7))]
def f34 : SCode := (.seq (.ops f34r0) (.seq (.seq (.ops f34r1) (.cond (t 4) (.seq (.ops f34r2) .ret) .skip)) (.seq (.ops f34r3) .ret)))
theorem f34_calls : Sound Tryz.prog 34 8 f34 [.t 2] := sound_of mixed Tryz.func34 rfl (by kernel_rfl) (by kernel_rfl) (by kernel_rfl)

/-! 35: slices.Clone[[]tabor/api.Rank,tabor/api.Rank] -/
def f35r0 : List SOper := [
 o 2 (.mv (.const (.slice none 0 0)))]
def f35r1 : List SOper := [
 o 3 (.mv (t 0)),
 o 4 (.eqn 1 false (t 3))]
def f35r2 : List SOper := [
 o 2 (.mv (.const (.slice none 0 0)))]
def f35r3 : List SOper := [
 o 5 (.bslice [] 0 [] []),
 o 6 (.mv (t 0)),
 o 7 (.app 2 24 [(.string ⟨#[]⟩), (.int .i64 0)] (t 5) (t 6)),
 o 2 (.mv (t 7))]
def f35 : SCode := (.seq (.ops f35r0) (.seq (.seq (.ops f35r1) (.cond (t 4) (.seq (.ops f35r2) .ret) .skip)) (.seq (.ops f35r3) .ret)))
theorem f35_calls : Sound Tryz.prog 35 8 f35 [.t 2] := sound_of mixed Tryz.func35 rfl (by kernel_rfl) (by kernel_rfl) (by kernel_rfl)

/-! 36: (*tabor/keys.Keys).All$1 -/
def f36r0 : List SOper := [
 o 6 (.ld1 (t 1)),
 o 7 (.call 15 [(t 6)])]
def f36r1 : List SOper := [
 o 8 (.ld1 (t 1)),
 o 9 (.nilck (t 8)),
 o 10 (.fa 0 (t 9)),
 o 11 (.ld1 (t 10)),
 o 12 (.nilck (t 11)),
 o 13 (.fa 0 (t 12)),
 o 14 (.ld1 (t 13)),
 o 15 (.call 38 [(t 14)]),
 o 16 (.call 37 [(t 15)]),
 o 17 (.len (t 16)),
 o 18 (.mv (i 0))]
def f36r2 : List SOper := [
 o 19 (.cmp .lss (t 18) (t 17))]
def f36r3 : List SOper := [
 o 20 (.ixs 1 (t 16) (t 18)),
 o 21 (.ld1 (t 20)),
 o 4 (.mv (t 21))]
def f36r4 : List SOper := [
 o 22 (.ld1 (t 1)),
 o 23 (.nilck (t 22)),
 o 24 (.fa 0 (t 23)),
 o 25 (.ld1 (t 24)),
 o 26 (.nilck (t 25)),
 o 27 (.fa 0 (t 26)),
 o 28 (.ld1 (t 27)),
 o 29 (.mv (t 4)),
 o 30 (.look .str (.pointer none) false (t 28) (t 29)),
 o 5 (.mv (t 30))]
def f36r5 : List SOper := [
 o 31 (.mv (t 5)),
 o 32 (.eqn 0 true (t 31)),
 o 33 (.mv (t 32)),
 g 34 33 (.mv (t 0)),
 g 35 33 (.mv (t 4)),
 g 36 33 (.mv (t 5)),
 g 37 33 (.nilck (t 36)),
 g 38 33 (.ldn 7 (t 37)),
 g 39 33 (.call 14 [(t 38)]),
 g 40 33 (.callv (t 34) [(t 35), (t 39)]),
 g 41 33 (.un .not (t 40)),
 o 42 (.pick (t 33) (t 41) (b false))]
def f36r6 : List SOper := [
 o 43 (.ar .add (t 18) (i 1)),
 o 18 (.mv (t 43))]
def f36l7 : SCode := (.seq (.ops f36r2) (.seq (.cond (t 19) .skip (.exit 0)) (.seq (.block 1 (.seq (.ops f36r3) (.seq (.ops f36r4) (.seq (.ops f36r5) (.cond (t 42) .ret .skip))))) (.ops f36r6))))
def f36 : SCode := (.seq (.seq (.ops f36r0) (.cond (t 7) .ret .skip)) (.seq (.ops f36r1) (.block 0 (.loop f36l7))))
theorem f36_calls : Sound Tryz.prog 36 44 f36 [] := sound_of mixed Tryz.func36 rfl (by kernel_rfl) (by kernel_rfl) (by kernel_rfl)

/-! 37: slices.Sorted[string] -/
def f37r0 : List SOper := [
 o 2 (.mv (.const (.slice none 0 0)))]
def f37r1 : List SOper := [
 o 4 (.mv (t 0)),
 o 5 (.call 46 [(t 4)]),
 o 3 (.mv (t 5))]
def f37r2 : List SOper := [
 o 6 (.mv (t 3)),
 o 7 (.call 47 [(t 6)])]
def f37r3 : List SOper := [
 o 8 (.mv (t 3)),
 o 2 (.mv (t 8))]
def f37 : SCode := (.seq (.ops f37r0) (.seq (.ops f37r1) (.seq (.ops f37r2) (.seq (.ops f37r3) .ret))))
theorem f37_calls : Sound Tryz.prog 37 9 f37 [.t 2] := sound_of mixed Tryz.func37 rfl (by kernel_rfl) (by kernel_rfl) (by kernel_rfl)

/-! 38: maps.Keys[map[string]*tabor/api.Thing,string,*tabor/api.Thing] -/
def f38r0 : List SOper := [
 o 1 (.box (t 0)),
 o 2 (.mv (.const .nilFunc))]
def f38r1 : List SOper := [
 o 3 (.fn 48 [] [(t 1)]),
 o 2 (.mv (t 3))]
def f38 : SCode := (.seq (.ops f38r0) (.seq (.ops f38r1) .ret))
theorem f38_calls : Sound Tryz.prog 38 4 f38 [.t 2] := sound_of mixed Tryz.func38 rfl (by kernel_rfl) (by kernel_rfl) (by kernel_rfl)

/-! 39: tabor/keys.rules -/
def f39r0 : List SOper := [
 o 0 (.mv (.const (.map none)))]
def f39r1 : List SOper := [
 o 1 (.mkm),
 o 2 (.build [(.bool false), (.bool false), (.bool false), (.int .i64 0), (.bool false), .nilFunc] [(5, 1)] [(u 49)]),
 q (.mup (.int .i64) (t 1) (i 1) (t 2)),
 o 3 (.build [(.bool false), (.bool false), (.bool false), (.int .i64 0), (.bool false), .nilFunc] [(1, 1), (4, 1), (5, 1)] [(b true), (b true), (u 50)]),
 q (.mup (.int .i64) (t 1) (i 2) (t 3)),
 o 4 (.build [(.bool false), (.bool false), (.bool false), (.int .i64 0), (.bool false), .nilFunc] [(2, 1), (5, 1)] [(b true), (u 51)]),
 q (.mup (.int .i64) (t 1) (i 3) (t 4)),
 o 5 (.build [(.bool false), (.bool false), (.bool false), (.int .i64 0), (.bool false), .nilFunc] [(5, 1)] [(u 52)]),
 q (.mup (.int .i64) (t 1) (i 4) (t 5)),
 o 6 (.build [(.bool false), (.bool false), (.bool false), (.int .i64 0), (.bool false), .nilFunc] [(0, 1), (1, 1), (3, 1), (4, 1), (5, 1)] [(b true), (b true), (i 2), (b true), (u 53)]),
 q (.mup (.int .i64) (t 1) (i 5) (t 6)),
 o 7 (.build [(.bool false), (.bool false), (.bool false), (.int .i64 0), (.bool false), .nilFunc] [(0, 1), (3, 1), (5, 1)] [(b true), (i 2), (u 54)]),
 q (.mup (.int .i64) (t 1) (i 6) (t 7)),
 o 8 (.build [(.bool false), (.bool false), (.bool false), (.int .i64 0), (.bool false), .nilFunc] [(1, 1), (3, 1), (4, 1), (5, 1)] [(b true), (i 3), (b true), (u 55)]),
 q (.mup (.int .i64) (t 1) (i 7) (t 8)),
 o 9 (.build [(.bool false), (.bool false), (.bool false), (.int .i64 0), (.bool false), .nilFunc] [(1, 1), (3, 1), (4, 1), (5, 1)] [(b true), (i 3), (b true), (u 57)]),
 q (.mup (.int .i64) (t 1) (i 8) (t 9)),
 o 10 (.build [(.bool false), (.bool false), (.bool false), (.int .i64 0), (.bool false), .nilFunc] [(3, 1), (5, 1)] [(i 3), (u 58)]),
 q (.mup (.int .i64) (t 1) (i 9) (t 10)),
 o 11 (.build [(.bool false), (.bool false), (.bool false), (.int .i64 0), (.bool false), .nilFunc] [(3, 1), (5, 1)] [(i 3), (u 59)]),
 q (.mup (.int .i64) (t 1) (i 10) (t 11)),
 o 12 (.build [(.bool false), (.bool false), (.bool false), (.int .i64 0), (.bool false), .nilFunc] [(1, 1), (2, 1), (3, 1), (5, 1)] [(b true), (b true), (i 3), (u 60)]),
 q (.mup (.int .i64) (t 1) (i 11) (t 12)),
 o 13 (.build [(.bool false), (.bool false), (.bool false), (.int .i64 0), (.bool false), .nilFunc] [(0, 1), (3, 1), (4, 1), (5, 1)] [(b true), (i 4), (b true), (u 61)]),
 q (.mup (.int .i64) (t 1) (i 12) (t 13)),
 o 14 (.build [(.bool false), (.bool false), (.bool false), (.int .i64 0), (.bool false), .nilFunc] [(0, 1), (3, 1), (5, 1)] [(b true), (i 4), (u 62)]),
 q (.mup (.int .i64) (t 1) (i 13) (t 14)),
 o 15 (.build [(.bool false), (.bool false), (.bool false), (.int .i64 0), (.bool false), .nilFunc] [(0, 1), (2, 1), (3, 1), (4, 1), (5, 1)] [(b true), (b true), (i 5), (b true), (u 63)]),
 q (.mup (.int .i64) (t 1) (i 14) (t 15)),
 o 16 (.build [(.bool false), (.bool false), (.bool false), (.int .i64 0), (.bool false), .nilFunc] [(0, 1), (3, 1), (5, 1)] [(b true), (i 5), (u 64)]),
 q (.mup (.int .i64) (t 1) (i 15) (t 16)),
 o 17 (.mv (t 1)),
 o 0 (.mv (t 17))]
def f39 : SCode := (.seq (.ops f39r0) (.seq (.ops f39r1) .ret))
theorem f39_calls : Sound Tryz.prog 39 18 f39 [.t 0] := sound_of mixed Tryz.func39 rfl (by kernel_rfl) (by kernel_rfl) (by kernel_rfl)

/-! 40: slices.Equal[[]tabor/api.Pair,tabor/api.Pair] -/
def f40r0 : List SOper := [
 o 4 (.mv (b false))]
def f40r1 : List SOper := [
 o 6 (.mv (t 0)),
 o 7 (.len (t 6)),
 o 8 (.mv (t 1)),
 o 9 (.len (t 8)),
 o 10 (.cmp .neq (t 7) (t 9))]
def f40r2 : List SOper := [
 o 4 (.mv (b false))]
def f40r3 : List SOper := [
 o 11 (.mv (t 0)),
 o 12 (.len (t 11)),
 o 13 (.mv (i 0))]
def f40r4 : List SOper := [
 o 14 (.cmp .lss (t 13) (t 12))]
def f40r5 : List SOper := [
 o 15 (.mv (t 13)),
 o 5 (.mv (t 15))]
def f40r6 : List SOper := [
 o 16 (.mv (t 0)),
 o 17 (.mv (t 5)),
 o 18 (.ixs 2 (t 16) (t 17)),
 o 19 (.ldn 2 (t 18)),
 o 20 (.mv (t 1)),
 o 21 (.mv (t 5)),
 o 22 (.ixs 2 (t 20) (t 21)),
 o 23 (.ldn 2 (t 22)),
 o 24 (.eqa true [.str, .str] (t 19) (t 23))]
def f40r7 : List SOper := [
 o 4 (.mv (b false))]
def f40r8 : List SOper := [
 o 25 (.ar .add (t 13) (i 1)),
 o 13 (.mv (t 25))]
def f40l9 : SCode := (.seq (.ops f40r4) (.seq (.cond (t 14) .skip (.exit 0)) (.seq (.block 1 (.seq (.ops f40r5) (.seq (.ops f40r6) (.cond (t 24) (.seq (.ops f40r7) .ret) .skip)))) (.ops f40r8))))
def f40r10 : List SOper := [
 o 4 (.mv (b true))]
def f40 : SCode := (.seq (.ops f40r0) (.seq (.seq (.ops f40r1) (.cond (t 10) (.seq (.ops f40r2) .ret) .skip)) (.seq (.seq (.ops f40r3) (.block 0 (.loop f40l9))) (.seq (.ops f40r10) .ret))))
theorem f40_calls : Sound Tryz.prog 40 26 f40 [.t 4] := sound_of mixed Tryz.func40 rfl (by kernel_rfl) (by kernel_rfl) (by kernel_rfl)

/-! 41: slices.Equal[[]string,string] -/
def f41r0 : List SOper := [
 o 4 (.mv (b false))]
def f41r1 : List SOper := [
 o 6 (.mv (t 0)),
 o 7 (.len (t 6)),
 o 8 (.mv (t 1)),
 o 9 (.len (t 8)),
 o 10 (.cmp .neq (t 7) (t 9))]
def f41r2 : List SOper := [
 o 4 (.mv (b false))]
def f41r3 : List SOper := [
 o 11 (.mv (t 0)),
 o 12 (.len (t 11)),
 o 13 (.mv (i 0))]
def f41r4 : List SOper := [
 o 14 (.cmp .lss (t 13) (t 12))]
def f41r5 : List SOper := [
 o 15 (.mv (t 13)),
 o 5 (.mv (t 15))]
def f41r6 : List SOper := [
 o 16 (.mv (t 0)),
 o 17 (.mv (t 5)),
 o 18 (.ixs 1 (t 16) (t 17)),
 o 19 (.ld1 (t 18)),
 o 20 (.mv (t 1)),
 o 21 (.mv (t 5)),
 o 22 (.ixs 1 (t 20) (t 21)),
 o 23 (.ld1 (t 22)),
 o 24 (.cmp .neq (t 19) (t 23))]
def f41r7 : List SOper := [
 o 4 (.mv (b false))]
def f41r8 : List SOper := [
 o 25 (.ar .add (t 13) (i 1)),
 o 13 (.mv (t 25))]
def f41l9 : SCode := (.seq (.ops f41r4) (.seq (.cond (t 14) .skip (.exit 0)) (.seq (.block 1 (.seq (.ops f41r5) (.seq (.ops f41r6) (.cond (t 24) (.seq (.ops f41r7) .ret) .skip)))) (.ops f41r8))))
def f41r10 : List SOper := [
 o 4 (.mv (b true))]
def f41 : SCode := (.seq (.ops f41r0) (.seq (.seq (.ops f41r1) (.cond (t 10) (.seq (.ops f41r2) .ret) .skip)) (.seq (.seq (.ops f41r3) (.block 0 (.loop f41l9))) (.seq (.ops f41r10) .ret))))
theorem f41_calls : Sound Tryz.prog 41 26 f41 [.t 4] := sound_of mixed Tryz.func41 rfl (by kernel_rfl) (by kernel_rfl) (by kernel_rfl)

/-! 42: slices.Equal[[]tabor/api.Rank,tabor/api.Rank] -/
def f42r0 : List SOper := [
 o 4 (.mv (b false))]
def f42r1 : List SOper := [
 o 6 (.mv (t 0)),
 o 7 (.len (t 6)),
 o 8 (.mv (t 1)),
 o 9 (.len (t 8)),
 o 10 (.cmp .neq (t 7) (t 9))]
def f42r2 : List SOper := [
 o 4 (.mv (b false))]
def f42r3 : List SOper := [
 o 11 (.mv (t 0)),
 o 12 (.len (t 11)),
 o 13 (.mv (i 0))]
def f42r4 : List SOper := [
 o 14 (.cmp .lss (t 13) (t 12))]
def f42r5 : List SOper := [
 o 15 (.mv (t 13)),
 o 5 (.mv (t 15))]
def f42r6 : List SOper := [
 o 16 (.mv (t 0)),
 o 17 (.mv (t 5)),
 o 18 (.ixs 2 (t 16) (t 17)),
 o 19 (.ldn 2 (t 18)),
 o 20 (.mv (t 1)),
 o 21 (.mv (t 5)),
 o 22 (.ixs 2 (t 20) (t 21)),
 o 23 (.ldn 2 (t 22)),
 o 24 (.eqa true [.str, (.int .i64)] (t 19) (t 23))]
def f42r7 : List SOper := [
 o 4 (.mv (b false))]
def f42r8 : List SOper := [
 o 25 (.ar .add (t 13) (i 1)),
 o 13 (.mv (t 25))]
def f42l9 : SCode := (.seq (.ops f42r4) (.seq (.cond (t 14) .skip (.exit 0)) (.seq (.block 1 (.seq (.ops f42r5) (.seq (.ops f42r6) (.cond (t 24) (.seq (.ops f42r7) .ret) .skip)))) (.ops f42r8))))
def f42r10 : List SOper := [
 o 4 (.mv (b true))]
def f42 : SCode := (.seq (.ops f42r0) (.seq (.seq (.ops f42r1) (.cond (t 10) (.seq (.ops f42r2) .ret) .skip)) (.seq (.seq (.ops f42r3) (.block 0 (.loop f42l9))) (.seq (.ops f42r10) .ret))))
theorem f42_calls : Sound Tryz.prog 42 26 f42 [.t 4] := sound_of mixed Tryz.func42 rfl (by kernel_rfl) (by kernel_rfl) (by kernel_rfl)

/-! 43: slices.ContainsFunc[[]string,string] -/
def f43r0 : List SOper := [
 o 4 (.mv (b false))]
def f43r1 : List SOper := [
 o 5 (.mv (t 0)),
 o 6 (.mv (t 1)),
 o 7 (.call 65 [(t 5), (t 6)]),
 o 8 (.cmp .geq (t 7) (i 0)),
 o 4 (.mv (t 8))]
def f43 : SCode := (.seq (.ops f43r0) (.seq (.ops f43r1) .ret))
theorem f43_calls : Sound Tryz.prog 43 9 f43 [.t 4] := sound_of mixed Tryz.func43 rfl (by kernel_rfl) (by kernel_rfl) (by kernel_rfl)

/-! 44: tabor/keys.short$1 -/
def f44r0 : List SOper := [
 o 2 (.mv (b false))]
def f44r1 : List SOper := [
 o 3 (.mv (t 0)),
 o 4 (.lens (t 3)),
 o 5 (.cmp .gtr (t 4) (i 1048576)),
 o 2 (.mv (t 5))]
def f44 : SCode := (.seq (.ops f44r0) (.seq (.ops f44r1) .ret))
theorem f44_calls : Sound Tryz.prog 44 6 f44 [.t 2] := sound_of mixed Tryz.func44 rfl (by kernel_rfl) (by kernel_rfl) (by kernel_rfl)

/-! 45: internal/bytealg.CompareString -/
def f45r0 : List SOper := [
 o 4 (.mv (i 0))]
def f45r1 : List SOper := [
 o 5 (.mv (t 0)),
 o 6 (.mv (t 1)),
 o 7 (.callx 66 [(t 5), (t 6)]),
 o 4 (.mv (t 7))]
def f45 : SCode := (.seq (.ops f45r0) (.seq (.ops f45r1) .ret))
theorem f45_calls : Sound Tryz.prog 45 8 f45 [.t 4] := sound_of mixed Tryz.func45 rfl (by kernel_rfl) (by kernel_rfl) (by kernel_rfl)

/-! 46: slices.Collect[string]: not simplified -/
/-! 47: slices.Sort[[]string,string] -/
def f47r0 : List SOper := [
 o 3 (.mv (t 0)),
 o 4 (.len (t 3)),
 o 2 (.mv (t 4))]
def f47r1 : List SOper := [
 o 5 (.mv (t 0)),
 o 6 (.mv (t 2)),
 o 7 (.mv (t 2)),
 o 8 (.cvt .u64 (t 7)),
 o 9 (.call 69 [(t 8)]),
 o 10 (.call 68 [(t 5), (i 0), (t 6), (t 9)])]
def f47 : SCode := (.seq (.ops f47r0) (.ops f47r1))
theorem f47_calls : Sound Tryz.prog 47 11 f47 [] := sound_of mixed Tryz.func47 rfl (by kernel_rfl) (by kernel_rfl) (by kernel_rfl)

/-! 48: maps.Keys[map[string]*tabor/api.Thing,string,*tabor/api.Thing]$1 -/
def f48r0 : List SOper := [
 o 4 (.ld1 (t 1)),
 o 5 (.rng (t 4))]
def f48r1 : List SOper := [
 o 6 (.nxt (t 5)),
 o 7 (.ext (t 6) 0)]
def f48r2 : List SOper := [
 o 8 (.ent (t 5)),
 o 9 (.ext (t 8) 0),
 o 3 (.mv (t 9))]
def f48r3 : List SOper := [
 o 10 (.mv (t 0)),
 o 11 (.mv (t 3)),
 o 12 (.callv (t 10) [(t 11)]),
 o 13 (.un .not (t 12))]
def f48l4 : SCode := (.seq (.ops f48r1) (.seq (.cond (t 7) .skip (.exit 0)) (.block 1 (.seq (.ops f48r2) (.seq (.ops f48r3) (.cond (t 13) .ret .skip))))))
def f48 : SCode := (.seq (.ops f48r0) (.block 0 (.loop f48l4)))
theorem f48_calls : Sound Tryz.prog 48 14 f48 [] := sound_of mixed Tryz.func48 rfl (by kernel_rfl) (by kernel_rfl) (by kernel_rfl)

/-! 49: tabor/keys.rules$1 -/
def f49r0 : List SOper := [
 o 3 (.box (t 1)),
 o 4 (.mv (i 0))]
def f49r1 : List SOper := [
 o 5 (.mv (t 0)),
 o 6 (.build [(.int .i64 0), (.string ⟨#[]⟩), (.slice none 0 0), (.slice none 0 0), (.slice none 0 0), (.bool false), (.int .i64 0)] [] []),
 o 7 (.nilck (t 5)),
 q (.st 7 (t 7) (t 6))]
def f49r2 : List SOper := [
 o 4 (.mv (i 0))]
def f49 : SCode := (.seq (.ops f49r0) (.seq (.ops f49r1) (.seq (.ops f49r2) .ret)))
theorem f49_calls : Sound Tryz.prog 49 8 f49 [.t 4] := sound_of mixed Tryz.func49 rfl (by kernel_rfl) (by kernel_rfl) (by kernel_rfl)

/-! 50: tabor/keys.rules$2 -/
def f50r0 : List SOper := [
 o 3 (.box (t 1)),
 o 4 (.mv (i 0))]
def f50r1 : List SOper := [
 o 5 (.mv (t 0)),
 o 6 (.fa 3 (t 3)),
 o 7 (.ld1 (t 6)),
 o 8 (.build [(.int .i64 0), (.string ⟨#[]⟩), (.slice none 0 0), (.slice none 0 0), (.slice none 0 0), (.bool false), (.int .i64 0)] [(0, 1), (1, 1)] [(i 1), (t 7)]),
 o 9 (.nilck (t 5)),
 q (.st 7 (t 9) (t 8))]
def f50r2 : List SOper := [
 o 4 (.mv (i 0))]
def f50 : SCode := (.seq (.ops f50r0) (.seq (.ops f50r1) (.seq (.ops f50r2) .ret)))
theorem f50_calls : Sound Tryz.prog 50 10 f50 [.t 4] := sound_of mixed Tryz.func50 rfl (by kernel_rfl) (by kernel_rfl) (by kernel_rfl)

/-! 51: tabor/keys.rules$3 -/
def f51r0 : List SOper := [
 o 3 (.box (t 1)),
 o 4 (.mv (i 0))]
def f51p1 : List SOper := [
 o 5 (.mv (t 0)),
 o 6 (.mv (t 0)),
 o 7 (.fa 4 (t 3)),
 o 9 (.nilck (t 5)),
 o 10 (.fa 5 (t 9))]
def f51r1 : List SOper := [
 o 8 (.ld1 (t 7)),
 q (.st 1 (t 10) (b true)),
 o 11 (.nilck (t 6)),
 o 12 (.fa 6 (t 11)),
 q (.st 1 (t 12) (t 8))]
def f51s1 : List SOper := [
 q (.st 1 (t 10) (b true)),
 o 8 (.ld1 (t 7)),
 o 11 (.nilck (t 6)),
 o 12 (.fa 6 (t 11)),
 q (.st 1 (t 12) (t 8))]
def f51r2 : List SOper := [
 o 4 (.mv (i 0))]
def f51 : SCode := (.seq (.ops f51r0) (.seq (.two f51p1 f51r1 f51s1) (.seq (.ops f51r2) .ret)))
theorem f51_calls : Sound Tryz.prog 51 13 f51 [.t 4] := sound_of mixed Tryz.func51 rfl (by kernel_rfl) (by kernel_rfl) (by kernel_rfl)

/-! 52: tabor/keys.rules$4 -/
def f52r0 : List SOper := [
 o 3 (.box (t 1)),
 o 4 (.mv (i 0))]
def f52r1 : List SOper := [
 o 5 (.mv (t 0)),
 o 6 (.mv (t 0)),
 o 7 (.nilck (t 5)),
 o 8 (.fa 5 (t 7)),
 q (.st 1 (t 8) (b false)),
 o 9 (.nilck (t 6)),
 o 10 (.fa 6 (t 9)),
 q (.st 1 (t 10) (i 0))]
def f52r2 : List SOper := [
 o 4 (.mv (i 0))]
def f52 : SCode := (.seq (.ops f52r0) (.seq (.ops f52r1) (.seq (.ops f52r2) .ret)))
theorem f52_calls : Sound Tryz.prog 52 11 f52 [.t 4] := sound_of mixed Tryz.func52 rfl (by kernel_rfl) (by kernel_rfl) (by kernel_rfl)

/-! 53: tabor/keys.hash -/
def f53r0 : List SOper := [
 o 3 (.box (t 1)),
 o 4 (.mv (i 0))]
def f53r1 : List SOper := [
 o 8 (.mv (t 0)),
 o 9 (.nilck (t 8)),
 o 10 (.fa 2 (t 9)),
 o 11 (.ld1 (t 10)),
 o 12 (.fa 2 (t 3)),
 o 13 (.ld1 (t 12)),
 o 14 (.call 70 [(t 11), (u 71), (t 13)]),
 o 7 (.mv (t 14)),
 o 15 (.ext (t 7) 0),
 o 16 (.ext (t 7) 1),
 o 5 (.mv (t 15)),
 o 6 (.mv (t 16))]
def f53r2 : List SOper := [
 o 17 (.mv (t 6)),
 o 18 (.un .not (t 17))]
def f53r3 : List SOper := [
 o 19 (.mv (t 0)),
 o 20 (.mv (t 0)),
 o 21 (.nilck (t 20)),
 o 22 (.fa 2 (t 21)),
 o 23 (.ld1 (t 22)),
 o 24 (.mv (t 5)),
 o 25 (.fa 2 (t 3)),
 o 26 (.ld1 (t 25)),
 o 27 (.build [(.string ⟨#[]⟩), (.string ⟨#[]⟩)] [(0, 1)] [(t 26)]),
 o 28 (.bslice [(.string ⟨#[]⟩), (.string ⟨#[]⟩)] 1 [(0, 2)] [(t 27)]),
 o 29 (.call 72 [(t 23), (t 24), (t 28)]),
 o 30 (.nilck (t 19)),
 o 31 (.fa 2 (t 30)),
 q (.st 1 (t 31) (t 29))]
def f53r4 : List SOper := [
 o 32 (.mv (t 0)),
 o 33 (.nilck (t 32)),
 o 34 (.fa 2 (t 33)),
 o 35 (.ld1 (t 34)),
 o 36 (.mv (t 5)),
 o 37 (.fa 3 (t 3)),
 o 38 (.ld1 (t 37)),
 o 39 (.ixs 2 (t 35) (t 36)),
 o 40 (.fa 1 (t 39)),
 q (.st 1 (t 40) (t 38))]
def f53r5 : List SOper := [
 o 4 (.mv (i 0))]
def f53 : SCode := (.seq (.ops f53r0) (.seq (.ops f53r1) (.seq (.seq (.ops f53r2) (.cond (t 18) (.ops f53r3) .skip)) (.seq (.ops f53r4) (.seq (.ops f53r5) .ret)))))
theorem f53_calls : Sound Tryz.prog 53 41 f53 [.t 4] := sound_of mixed Tryz.func53 rfl (by kernel_rfl) (by kernel_rfl) (by kernel_rfl)

/-! 54: tabor/keys.unhash -/
def f54r0 : List SOper := [
 o 3 (.box (t 1)),
 o 4 (.mv (i 0))]
def f54r1 : List SOper := [
 o 8 (.mv (t 0)),
 o 9 (.nilck (t 8)),
 o 10 (.fa 2 (t 9)),
 o 11 (.ld1 (t 10)),
 o 12 (.fa 2 (t 3)),
 o 13 (.ld1 (t 12)),
 o 14 (.call 70 [(t 11), (u 71), (t 13)]),
 o 7 (.mv (t 14)),
 o 15 (.ext (t 7) 0),
 o 16 (.ext (t 7) 1),
 o 5 (.mv (t 15)),
 o 6 (.mv (t 16))]
def f54r2 : List SOper := [
 o 17 (.mv (t 6)),
 o 18 (.un .not (t 17))]
def f54r3 : List SOper := [
 o 4 (.mv (i 5))]
def f54r4 : List SOper := [
 o 19 (.mv (t 0)),
 o 20 (.mv (t 0)),
 o 21 (.nilck (t 20)),
 o 22 (.fa 2 (t 21)),
 o 23 (.ld1 (t 22)),
 o 24 (.mv (t 5)),
 o 25 (.mv (t 5)),
 o 26 (.ar .add (t 25) (i 1)),
 o 27 (.call 73 [(t 23), (t 24), (t 26)]),
 o 28 (.nilck (t 19)),
 o 29 (.fa 2 (t 28)),
 q (.st 1 (t 29) (t 27))]
def f54r5 : List SOper := [
 o 4 (.mv (i 0))]
def f54 : SCode := (.seq (.ops f54r0) (.seq (.ops f54r1) (.seq (.seq (.ops f54r2) (.cond (t 18) (.seq (.ops f54r3) .ret) .skip)) (.seq (.ops f54r4) (.seq (.ops f54r5) .ret)))))
theorem f54_calls : Sound Tryz.prog 54 30 f54 [.t 4] := sound_of mixed Tryz.func54 rfl (by kernel_rfl) (by kernel_rfl) (by kernel_rfl)

/-! 55: tabor/keys.rules$5 -/
def f55r0 : List SOper := [
 o 3 (.box (t 1)),
 o 4 (.mv (i 0))]
def f55r1 : List SOper := [
 o 5 (.mv (t 0)),
 o 6 (.mv (t 0)),
 o 7 (.nilck (t 6)),
 o 8 (.fa 3 (t 7)),
 o 9 (.ld1 (t 8)),
 o 10 (.fa 3 (t 3)),
 o 11 (.ld1 (t 10)),
 o 12 (.bslice [(.string ⟨#[]⟩)] 1 [(0, 1)] [(t 11)]),
 o 13 (.call 56 [(t 9), (i 0), (t 12)]),
 o 14 (.nilck (t 5)),
 o 15 (.fa 3 (t 14)),
 q (.st 1 (t 15) (t 13))]
def f55r2 : List SOper := [
 o 4 (.mv (i 0))]
def f55 : SCode := (.seq (.ops f55r0) (.seq (.ops f55r1) (.seq (.ops f55r2) .ret)))
theorem f55_calls : Sound Tryz.prog 55 16 f55 [.t 4] := sound_of mixed Tryz.func55 rfl (by kernel_rfl) (by kernel_rfl) (by kernel_rfl)

/-! 56: slices.Insert[[]string,string] -/
def f56r0 : List SOper := [
 o 6 (.mv (.const (.slice none 0 0)))]
def f56r1 : List SOper := [
 o 10 (.mv (t 0)),
 o 11 (.mv (t 1)),
 o 12 (.slc 1 (t 10) (some (t 11)) none)]
def f56r2 : List SOper := [
 o 13 (.mv (t 2)),
 o 14 (.len (t 13)),
 o 7 (.mv (t 14))]
def f56r3 : List SOper := [
 o 15 (.mv (t 7)),
 o 16 (.cmp .eql (t 15) (i 0))]
def f56r4 : List SOper := [
 o 17 (.mv (t 0)),
 o 6 (.mv (t 17))]
def f56r5 : List SOper := [
 o 18 (.mv (t 0)),
 o 19 (.len (t 18)),
 o 8 (.mv (t 19))]
def f56r6 : List SOper := [
 o 20 (.mv (t 1)),
 o 21 (.mv (t 8)),
 o 22 (.cmp .eql (t 20) (t 21))]
def f56r7 : List SOper := [
 o 23 (.mv (t 0)),
 o 24 (.mv (t 2)),
 o 25 (.app 1 16 [(.string ⟨#[]⟩)] (t 23) (t 24)),
 o 6 (.mv (t 25))]
def f56r8 : List SOper := [
 o 26 (.mv (t 8)),
 o 27 (.mv (t 7)),
 o 28 (.ar .add (t 26) (t 27)),
 o 29 (.mv (t 0)),
 o 30 (.capc (t 29)),
 o 31 (.cmp .gtr (t 28) (t 30))]
def f56r9 : List SOper := [
 o 32 (.mv (t 0)),
 o 33 (.mv (t 1)),
 o 34 (.slc 1 (t 32) none (some (t 33))),
 o 35 (.mv (t 8)),
 o 36 (.mv (t 7)),
 o 37 (.ar .add (t 35) (t 36)),
 o 38 (.mv (t 1)),
 o 39 (.ar .sub (t 37) (t 38)),
 o 40 (.appz 1 16 [(.string ⟨#[]⟩)] (t 34) (t 39)),
 o 9 (.mv (t 40))]
def f56r10 : List SOper := [
 o 41 (.mv (t 9)),
 o 42 (.mv (t 1)),
 o 43 (.slc 1 (t 41) (some (t 42)) none),
 o 44 (.mv (t 2)),
 o 45 (.cpy 1 (t 43) (t 44))]
def f56r11 : List SOper := [
 o 46 (.mv (t 9)),
 o 47 (.mv (t 1)),
 o 48 (.mv (t 7)),
 o 49 (.ar .add (t 47) (t 48)),
 o 50 (.slc 1 (t 46) (some (t 49)) none),
 o 51 (.mv (t 0)),
 o 52 (.mv (t 1)),
 o 53 (.slc 1 (t 51) (some (t 52)) none),
 o 54 (.cpy 1 (t 50) (t 53))]
def f56r12 : List SOper := [
 o 55 (.mv (t 9)),
 o 6 (.mv (t 55))]
def f56r13 : List SOper := [
 o 56 (.mv (t 0)),
 o 57 (.mv (t 8)),
 o 58 (.mv (t 7)),
 o 59 (.ar .add (t 57) (t 58)),
 o 60 (.slc 1 (t 56) none (some (t 59))),
 o 0 (.mv (t 60))]
def f56r14 : List SOper := [
 o 61 (.mv (t 2)),
 o 62 (.mv (t 0)),
 o 63 (.mv (t 1)),
 o 64 (.mv (t 7)),
 o 65 (.ar .add (t 63) (t 64)),
 o 66 (.slc 1 (t 62) (some (t 65)) none),
 o 67 (.callx 74 [(t 61), (t 66)]),
 o 68 (.un .not (t 67))]
def f56r15 : List SOper := [
 o 69 (.mv (t 0)),
 o 70 (.mv (t 1)),
 o 71 (.mv (t 7)),
 o 72 (.ar .add (t 70) (t 71)),
 o 73 (.slc 1 (t 69) (some (t 72)) none),
 o 74 (.mv (t 0)),
 o 75 (.mv (t 1)),
 o 76 (.slc 1 (t 74) (some (t 75)) none),
 o 77 (.cpy 1 (t 73) (t 76))]
def f56r16 : List SOper := [
 o 78 (.mv (t 0)),
 o 79 (.mv (t 1)),
 o 80 (.slc 1 (t 78) (some (t 79)) none),
 o 81 (.mv (t 2)),
 o 82 (.cpy 1 (t 80) (t 81))]
def f56r17 : List SOper := [
 o 83 (.mv (t 0)),
 o 6 (.mv (t 83))]
def f56r18 : List SOper := [
 o 84 (.mv (t 0)),
 o 85 (.mv (t 8)),
 o 86 (.slc 1 (t 84) (some (t 85)) none),
 o 87 (.mv (t 2)),
 o 88 (.cpy 1 (t 86) (t 87))]
def f56r19 : List SOper := [
 o 89 (.mv (t 0)),
 o 90 (.mv (t 1)),
 o 91 (.slc 1 (t 89) (some (t 90)) none),
 o 92 (.mv (t 7)),
 o 93 (.call 75 [(t 91), (t 92)])]
def f56r20 : List SOper := [
 o 94 (.mv (t 0)),
 o 6 (.mv (t 94))]
def f56 : SCode := (.seq (.ops f56r0) (.seq (.ops f56r1) (.seq (.ops f56r2) (.seq (.seq (.ops f56r3) (.cond (t 16) (.seq (.ops f56r4) .ret) .skip)) (.seq (.ops f56r5) (.seq (.seq (.ops f56r6) (.cond (t 22) (.seq (.ops f56r7) .ret) .skip)) (.seq (.seq (.ops f56r8) (.cond (t 31) (.seq (.ops f56r9) (.seq (.ops f56r10) (.seq (.ops f56r11) (.seq (.ops f56r12) .ret)))) .skip)) (.seq (.ops f56r13) (.seq (.seq (.ops f56r14) (.cond (t 68) (.seq (.ops f56r15) (.seq (.ops f56r16) (.seq (.ops f56r17) .ret))) .skip)) (.seq (.ops f56r18) (.seq (.ops f56r19) (.seq (.ops f56r20) .ret))))))))))))
theorem f56_calls : Sound Tryz.prog 56 95 f56 [.t 6] := sound_of mixed Tryz.func56 rfl (by kernel_rfl) (by kernel_rfl) (by kernel_rfl)

/-! 57: tabor/keys.rules$6 -/
def f57r0 : List SOper := [
 o 3 (.box (t 1)),
 o 4 (.mv (i 0))]
def f57r1 : List SOper := [
 o 5 (.mv (t 0)),
 o 6 (.mv (t 0)),
 o 7 (.nilck (t 6)),
 o 8 (.fa 3 (t 7)),
 o 9 (.ld1 (t 8)),
 o 10 (.fa 3 (t 3)),
 o 11 (.ld1 (t 10)),
 o 12 (.bslice [(.string ⟨#[]⟩)] 1 [(0, 1)] [(t 11)]),
 o 13 (.app 1 16 [(.string ⟨#[]⟩)] (t 9) (t 12)),
 o 14 (.nilck (t 5)),
 o 15 (.fa 3 (t 14)),
 q (.st 1 (t 15) (t 13))]
def f57r2 : List SOper := [
 o 4 (.mv (i 0))]
def f57 : SCode := (.seq (.ops f57r0) (.seq (.ops f57r1) (.seq (.ops f57r2) .ret)))
theorem f57_calls : Sound Tryz.prog 57 16 f57 [.t 4] := sound_of mixed Tryz.func57 rfl (by kernel_rfl) (by kernel_rfl) (by kernel_rfl)

/-! 58: tabor/keys.rules$7 -/
def f58r0 : List SOper := [
 o 3 (.box (t 1)),
 o 4 (.mv (i 0))]
def f58r1 : List SOper := [
 o 5 (.mv (t 0)),
 o 6 (.mv (t 0)),
 o 7 (.nilck (t 6)),
 o 8 (.fa 3 (t 7)),
 o 9 (.ld1 (t 8)),
 o 10 (.slc 1 (t 9) (some (i 1)) none),
 o 11 (.nilck (t 5)),
 o 12 (.fa 3 (t 11)),
 q (.st 1 (t 12) (t 10))]
def f58r2 : List SOper := [
 o 4 (.mv (i 0))]
def f58 : SCode := (.seq (.ops f58r0) (.seq (.ops f58r1) (.seq (.ops f58r2) .ret)))
theorem f58_calls : Sound Tryz.prog 58 13 f58 [.t 4] := sound_of mixed Tryz.func58 rfl (by kernel_rfl) (by kernel_rfl) (by kernel_rfl)

/-! 59: tabor/keys.rules$8 -/
def f59r0 : List SOper := [
 o 3 (.box (t 1)),
 o 4 (.mv (i 0))]
def f59r1 : List SOper := [
 o 5 (.mv (t 0)),
 o 6 (.mv (t 0)),
 o 7 (.nilck (t 6)),
 o 8 (.fa 3 (t 7)),
 o 9 (.ld1 (t 8)),
 o 10 (.mv (t 0)),
 o 11 (.nilck (t 10)),
 o 12 (.fa 3 (t 11)),
 o 13 (.ld1 (t 12)),
 o 14 (.len (t 13)),
 o 15 (.ar .sub (t 14) (i 1)),
 o 16 (.slc 1 (t 9) none (some (t 15))),
 o 17 (.nilck (t 5)),
 o 18 (.fa 3 (t 17)),
 q (.st 1 (t 18) (t 16))]
def f59r2 : List SOper := [
 o 4 (.mv (i 0))]
def f59 : SCode := (.seq (.ops f59r0) (.seq (.ops f59r1) (.seq (.ops f59r2) .ret)))
theorem f59_calls : Sound Tryz.prog 59 19 f59 [.t 4] := sound_of mixed Tryz.func59 rfl (by kernel_rfl) (by kernel_rfl) (by kernel_rfl)

/-! 60: tabor/keys.at -/
def f60r0 : List SOper := [
 o 3 (.box (t 1)),
 o 4 (.mv (i 0))]
def f60r1 : List SOper := [
 o 5 (.fa 4 (t 3)),
 o 6 (.ld1 (t 5)),
 o 7 (.cmp .lss (t 6) (i 0)),
 o 8 (.mv (t 7)),
 n 9 8 (.fa 4 (t 3)),
 n 10 8 (.ld1 (t 9)),
 n 11 8 (.mv (t 0)),
 n 12 8 (.nilck (t 11)),
 n 13 8 (.fa 3 (t 12)),
 n 14 8 (.ld1 (t 13)),
 n 15 8 (.len (t 14)),
 n 16 8 (.cmp .geq (t 10) (t 15)),
 o 17 (.pick (t 8) (b true) (t 16))]
def f60r2 : List SOper := [
 o 4 (.mv (i 4))]
def f60r3 : List SOper := [
 o 18 (.mv (t 0)),
 o 19 (.nilck (t 18)),
 o 20 (.fa 3 (t 19)),
 o 21 (.ld1 (t 20)),
 o 22 (.fa 4 (t 3)),
 o 23 (.ld1 (t 22)),
 o 24 (.fa 3 (t 3)),
 o 25 (.ld1 (t 24)),
 o 26 (.ixs 1 (t 21) (t 23)),
 q (.st 1 (t 26) (t 25))]
def f60r4 : List SOper := [
 o 4 (.mv (i 0))]
def f60 : SCode := (.seq (.ops f60r0) (.seq (.seq (.ops f60r1) (.cond (t 17) (.seq (.ops f60r2) .ret) .skip)) (.seq (.ops f60r3) (.seq (.ops f60r4) .ret))))
theorem f60_calls : Sound Tryz.prog 60 27 f60 [.t 4] := sound_of mixed Tryz.func60 rfl (by kernel_rfl) (by kernel_rfl) (by kernel_rfl)

/-! 61: tabor/keys.add -/
def f61r0 : List SOper := [
 o 3 (.box (t 1)),
 o 4 (.mv (i 0))]
def f61r1 : List SOper := [
 o 8 (.mv (t 0)),
 o 9 (.nilck (t 8)),
 o 10 (.fa 3 (t 9)),
 o 11 (.ld1 (t 10)),
 o 12 (.fa 2 (t 3)),
 o 13 (.ld1 (t 12)),
 o 14 (.call 76 [(t 11), (u 77), (t 13)]),
 o 7 (.mv (t 14)),
 o 15 (.ext (t 7) 0),
 o 16 (.ext (t 7) 1),
 o 5 (.mv (t 15)),
 o 6 (.mv (t 16))]
def f61r2 : List SOper := [
 o 17 (.mv (t 6)),
 o 18 (.un .not (t 17))]
def f61r3 : List SOper := [
 o 19 (.mv (t 0)),
 o 20 (.mv (t 0)),
 o 21 (.nilck (t 20)),
 o 22 (.fa 3 (t 21)),
 o 23 (.ld1 (t 22)),
 o 24 (.mv (t 5)),
 o 25 (.fa 2 (t 3)),
 o 26 (.ld1 (t 25)),
 o 27 (.bslice [(.string ⟨#[]⟩)] 1 [(0, 1)] [(t 26)]),
 o 28 (.call 56 [(t 23), (t 24), (t 27)]),
 o 29 (.nilck (t 19)),
 o 30 (.fa 3 (t 29)),
 q (.st 1 (t 30) (t 28))]
def f61r4 : List SOper := [
 o 4 (.mv (i 0))]
def f61 : SCode := (.seq (.ops f61r0) (.seq (.seq (.ops f61r1) (.seq (.ops f61r2) (.cond (t 18) (.ops f61r3) .skip))) (.seq (.ops f61r4) .ret)))
theorem f61_calls : Sound Tryz.prog 61 31 f61 [.t 4] := sound_of mixed Tryz.func61 rfl (by kernel_rfl) (by kernel_rfl) (by kernel_rfl)

/-! 62: tabor/keys.remove -/
def f62r0 : List SOper := [
 o 3 (.box (t 1)),
 o 4 (.mv (i 0))]
def f62r1 : List SOper := [
 o 8 (.mv (t 0)),
 o 9 (.nilck (t 8)),
 o 10 (.fa 3 (t 9)),
 o 11 (.ld1 (t 10)),
 o 12 (.fa 2 (t 3)),
 o 13 (.ld1 (t 12)),
 o 14 (.call 76 [(t 11), (u 77), (t 13)]),
 o 7 (.mv (t 14)),
 o 15 (.ext (t 7) 0),
 o 16 (.ext (t 7) 1),
 o 5 (.mv (t 15)),
 o 6 (.mv (t 16))]
def f62r2 : List SOper := [
 o 17 (.mv (t 6)),
 o 18 (.un .not (t 17))]
def f62r3 : List SOper := [
 o 4 (.mv (i 5))]
def f62r4 : List SOper := [
 o 19 (.mv (t 0)),
 o 20 (.mv (t 0)),
 o 21 (.nilck (t 20)),
 o 22 (.fa 3 (t 21)),
 o 23 (.ld1 (t 22)),
 o 24 (.mv (t 5)),
 o 25 (.mv (t 5)),
 o 26 (.ar .add (t 25) (i 1)),
 o 27 (.call 78 [(t 23), (t 24), (t 26)]),
 o 28 (.nilck (t 19)),
 o 29 (.fa 3 (t 28)),
 q (.st 1 (t 29) (t 27))]
def f62r5 : List SOper := [
 o 4 (.mv (i 0))]
def f62 : SCode := (.seq (.ops f62r0) (.seq (.ops f62r1) (.seq (.seq (.ops f62r2) (.cond (t 18) (.seq (.ops f62r3) .ret) .skip)) (.seq (.ops f62r4) (.seq (.ops f62r5) .ret)))))
theorem f62_calls : Sound Tryz.prog 62 30 f62 [.t 4] := sound_of mixed Tryz.func62 rfl (by kernel_rfl) (by kernel_rfl) (by kernel_rfl)

/-! 63: tabor/keys.rank -/
def f63r0 : List SOper := [
 o 3 (.box (t 1)),
 o 4 (.mv (i 0))]
def f63r1 : List SOper := [
 o 8 (.mv (t 0)),
 o 9 (.ldn 5 (t 3)),
 o 10 (.call 64 [(t 8), (t 9)])]
def f63r2 : List SOper := [
 o 11 (.fa 2 (t 3)),
 o 12 (.ld1 (t 11)),
 o 13 (.fa 4 (t 3)),
 o 14 (.ld1 (t 13)),
 o 15 (.build [(.string ⟨#[]⟩), (.int .i64 0)] [(0, 1), (1, 1)] [(t 12), (t 14)]),
 o 5 (.new [(.string ⟨#[]⟩), (.int .i64 0)]),
 q (.st 2 (t 5) (t 15))]
def f63r3 : List SOper := [
 o 17 (.mv (t 0)),
 o 18 (.nilck (t 17)),
 o 19 (.fa 4 (t 18)),
 o 20 (.ld1 (t 19)),
 o 21 (.ldn 2 (t 5)),
 o 22 (.call 79 [(t 20), (t 21), (u 31)]),
 o 16 (.mv (t 22)),
 o 23 (.ext (t 16) 0),
 o 24 (.ext (t 16) 1),
 o 6 (.mv (t 23)),
 o 7 (.mv (t 24))]
def f63r4 : List SOper := [
 o 25 (.mv (t 0)),
 o 26 (.mv (t 0)),
 o 27 (.nilck (t 26)),
 o 28 (.fa 4 (t 27)),
 o 29 (.ld1 (t 28)),
 o 30 (.mv (t 6)),
 o 31 (.ldn 2 (t 5)),
 o 32 (.bslice [(.string ⟨#[]⟩), (.int .i64 0)] 1 [(0, 2)] [(t 31)]),
 o 33 (.call 80 [(t 29), (t 30), (t 32)]),
 o 34 (.nilck (t 25)),
 o 35 (.fa 4 (t 34)),
 q (.st 1 (t 35) (t 33))]
def f63r5 : List SOper := [
 o 4 (.mv (i 0))]
def f63 : SCode := (.seq (.ops f63r0) (.seq (.ops f63r1) (.seq (.ops f63r2) (.seq (.ops f63r3) (.seq (.ops f63r4) (.seq (.ops f63r5) .ret))))))
theorem f63_calls : Sound Tryz.prog 63 36 f63 [.t 4] := sound_of mixed Tryz.func63 rfl (by kernel_rfl) (by kernel_rfl) (by kernel_rfl)

/-! 64: tabor/keys.unrank -/
def f64r0 : List SOper := [
 o 3 (.box (t 1)),
 o 4 (.mv (i 0))]
def f64r1 : List SOper := [
 o 6 (.mv (t 0)),
 o 7 (.nilck (t 6)),
 o 8 (.fa 4 (t 7)),
 o 9 (.ld1 (t 8)),
 o 10 (.fn 82 [] [(t 3)]),
 o 11 (.call 81 [(t 9), (t 10)]),
 o 5 (.mv (t 11))]
def f64r2 : List SOper := [
 o 12 (.mv (t 5)),
 o 13 (.cmp .lss (t 12) (i 0))]
def f64r3 : List SOper := [
 o 4 (.mv (i 5))]
def f64r4 : List SOper := [
 o 14 (.mv (t 0)),
 o 15 (.mv (t 0)),
 o 16 (.nilck (t 15)),
 o 17 (.fa 4 (t 16)),
 o 18 (.ld1 (t 17)),
 o 19 (.mv (t 5)),
 o 20 (.mv (t 5)),
 o 21 (.ar .add (t 20) (i 1)),
 o 22 (.call 83 [(t 18), (t 19), (t 21)]),
 o 23 (.nilck (t 14)),
 o 24 (.fa 4 (t 23)),
 q (.st 1 (t 24) (t 22))]
def f64r5 : List SOper := [
 o 4 (.mv (i 0))]
def f64 : SCode := (.seq (.ops f64r0) (.seq (.ops f64r1) (.seq (.seq (.ops f64r2) (.cond (t 13) (.seq (.ops f64r3) .ret) .skip)) (.seq (.ops f64r4) (.seq (.ops f64r5) .ret)))))
theorem f64_calls : Sound Tryz.prog 64 25 f64 [.t 4] := sound_of mixed Tryz.func64 rfl (by kernel_rfl) (by kernel_rfl) (by kernel_rfl)

/-! 65: slices.IndexFunc[[]string,string] -/
def f65r0 : List SOper := [
 o 4 (.mv (i 0))]
def f65r1 : List SOper := [
 o 6 (.mv (t 0)),
 o 7 (.len (t 6)),
 o 8 (.mv (i 0))]
def f65r2 : List SOper := [
 o 9 (.cmp .lss (t 8) (t 7))]
def f65r3 : List SOper := [
 o 10 (.mv (t 8)),
 o 5 (.mv (t 10))]
def f65r4 : List SOper := [
 o 11 (.mv (t 1)),
 o 12 (.mv (t 0)),
 o 13 (.mv (t 5)),
 o 14 (.ixs 1 (t 12) (t 13)),
 o 15 (.ld1 (t 14)),
 o 16 (.callv (t 11) [(t 15)])]
def f65r5 : List SOper := [
 o 17 (.mv (t 5)),
 o 4 (.mv (t 17))]
def f65r6 : List SOper := [
 o 18 (.ar .add (t 8) (i 1)),
 o 8 (.mv (t 18))]
def f65l7 : SCode := (.seq (.ops f65r2) (.seq (.cond (t 9) .skip (.exit 0)) (.seq (.block 1 (.seq (.ops f65r3) (.seq (.ops f65r4) (.cond (t 16) (.seq (.ops f65r5) .ret) .skip)))) (.ops f65r6))))
def f65r8 : List SOper := [
 o 4 (.mv (i (-1)))]
def f65 : SCode := (.seq (.ops f65r0) (.seq (.seq (.ops f65r1) (.block 0 (.loop f65l7))) (.seq (.ops f65r8) .ret)))
theorem f65_calls : Sound Tryz.prog 65 19 f65 [.t 4] := sound_of mixed Tryz.func65 rfl (by kernel_rfl) (by kernel_rfl) (by kernel_rfl)

/-! 66: internal/bytealg.abigen_runtime_cmpstring: not simplified -/
/-! 67: slices.AppendSeq[[]string,string]: not simplified -/
/-! 68: slices.pdqsortOrdered[string]: not simplified -/
/-! 69: math/bits.Len: not simplified -/
/-! 70: tabor/keys.byName[tabor/api.Pair] -/
def f70r0 : List SOper := [
 o 4 (.box (t 1)),
 o 6 (.mv (i 0)),
 o 7 (.mv (b false))]
def f70r1 : List SOper := [
 o 8 (.mv (t 0)),
 o 9 (.mv (t 2)),
 o 10 (.fn 96 [] [(t 4)]),
 o 11 (.call 95 [(t 8), (t 9), (t 10)]),
 o 12 (.ext (t 11) 0),
 o 13 (.ext (t 11) 1),
 o 6 (.mv (t 12)),
 o 7 (.mv (t 13))]
def f70 : SCode := (.seq (.ops f70r0) (.seq (.ops f70r1) .ret))
theorem f70_calls : Sound Tryz.prog 70 14 f70 [.t 6, .t 7] := sound_of mixed Tryz.func70 rfl (by kernel_rfl) (by kernel_rfl) (by kernel_rfl)

/-! 71: tabor/keys.pairName -/
def f71r0 : List SOper := [
 o 1 (.box (t 0)),
 o 2 (.mv e)]
def f71r1 : List SOper := [
 o 3 (.fa 0 (t 1)),
 o 4 (.ld1 (t 3)),
 o 2 (.mv (t 4))]
def f71 : SCode := (.seq (.ops f71r0) (.seq (.ops f71r1) .ret))
theorem f71_calls : Sound Tryz.prog 71 5 f71 [.t 2] := sound_of mixed Tryz.func71 rfl (by kernel_rfl) (by kernel_rfl) (by kernel_rfl)

/-! 72: slices.Insert[[]tabor/api.Pair,tabor/api.Pair] -/
def f72r0 : List SOper := [
 o 6 (.mv (.const (.slice none 0 0)))]
def f72r1 : List SOper := [
 o 10 (.mv (t 0)),
 o 11 (.mv (t 1)),
 o 12 (.slc 2 (t 10) (some (t 11)) none)]
def f72r2 : List SOper := [
 o 13 (.mv (t 2)),
 o 14 (.len (t 13)),
 o 7 (.mv (t 14))]
def f72r3 : List SOper := [
 o 15 (.mv (t 7)),
 o 16 (.cmp .eql (t 15) (i 0))]
def f72r4 : List SOper := [
 o 17 (.mv (t 0)),
 o 6 (.mv (t 17))]
def f72r5 : List SOper := [
 o 18 (.mv (t 0)),
 o 19 (.len (t 18)),
 o 8 (.mv (t 19))]
def f72r6 : List SOper := [
 o 20 (.mv (t 1)),
 o 21 (.mv (t 8)),
 o 22 (.cmp .eql (t 20) (t 21))]
def f72r7 : List SOper := [
 o 23 (.mv (t 0)),
 o 24 (.mv (t 2)),
 o 25 (.app 2 32 [(.string ⟨#[]⟩), (.string ⟨#[]⟩)] (t 23) (t 24)),
 o 6 (.mv (t 25))]
def f72r8 : List SOper := [
 o 26 (.mv (t 8)),
 o 27 (.mv (t 7)),
 o 28 (.ar .add (t 26) (t 27)),
 o 29 (.mv (t 0)),
 o 30 (.capc (t 29)),
 o 31 (.cmp .gtr (t 28) (t 30))]
def f72r9 : List SOper := [
 o 32 (.mv (t 0)),
 o 33 (.mv (t 1)),
 o 34 (.slc 2 (t 32) none (some (t 33))),
 o 35 (.mv (t 8)),
 o 36 (.mv (t 7)),
 o 37 (.ar .add (t 35) (t 36)),
 o 38 (.mv (t 1)),
 o 39 (.ar .sub (t 37) (t 38)),
 o 40 (.appz 2 32 [(.string ⟨#[]⟩), (.string ⟨#[]⟩)] (t 34) (t 39)),
 o 9 (.mv (t 40))]
def f72r10 : List SOper := [
 o 41 (.mv (t 9)),
 o 42 (.mv (t 1)),
 o 43 (.slc 2 (t 41) (some (t 42)) none),
 o 44 (.mv (t 2)),
 o 45 (.cpy 2 (t 43) (t 44))]
def f72r11 : List SOper := [
 o 46 (.mv (t 9)),
 o 47 (.mv (t 1)),
 o 48 (.mv (t 7)),
 o 49 (.ar .add (t 47) (t 48)),
 o 50 (.slc 2 (t 46) (some (t 49)) none),
 o 51 (.mv (t 0)),
 o 52 (.mv (t 1)),
 o 53 (.slc 2 (t 51) (some (t 52)) none),
 o 54 (.cpy 2 (t 50) (t 53))]
def f72r12 : List SOper := [
 o 55 (.mv (t 9)),
 o 6 (.mv (t 55))]
def f72r13 : List SOper := [
 o 56 (.mv (t 0)),
 o 57 (.mv (t 8)),
 o 58 (.mv (t 7)),
 o 59 (.ar .add (t 57) (t 58)),
 o 60 (.slc 2 (t 56) none (some (t 59))),
 o 0 (.mv (t 60))]
def f72r14 : List SOper := [
 o 61 (.mv (t 2)),
 o 62 (.mv (t 0)),
 o 63 (.mv (t 1)),
 o 64 (.mv (t 7)),
 o 65 (.ar .add (t 63) (t 64)),
 o 66 (.slc 2 (t 62) (some (t 65)) none),
 o 67 (.callx 97 [(t 61), (t 66)]),
 o 68 (.un .not (t 67))]
def f72r15 : List SOper := [
 o 69 (.mv (t 0)),
 o 70 (.mv (t 1)),
 o 71 (.mv (t 7)),
 o 72 (.ar .add (t 70) (t 71)),
 o 73 (.slc 2 (t 69) (some (t 72)) none),
 o 74 (.mv (t 0)),
 o 75 (.mv (t 1)),
 o 76 (.slc 2 (t 74) (some (t 75)) none),
 o 77 (.cpy 2 (t 73) (t 76))]
def f72r16 : List SOper := [
 o 78 (.mv (t 0)),
 o 79 (.mv (t 1)),
 o 80 (.slc 2 (t 78) (some (t 79)) none),
 o 81 (.mv (t 2)),
 o 82 (.cpy 2 (t 80) (t 81))]
def f72r17 : List SOper := [
 o 83 (.mv (t 0)),
 o 6 (.mv (t 83))]
def f72r18 : List SOper := [
 o 84 (.mv (t 0)),
 o 85 (.mv (t 8)),
 o 86 (.slc 2 (t 84) (some (t 85)) none),
 o 87 (.mv (t 2)),
 o 88 (.cpy 2 (t 86) (t 87))]
def f72r19 : List SOper := [
 o 89 (.mv (t 0)),
 o 90 (.mv (t 1)),
 o 91 (.slc 2 (t 89) (some (t 90)) none),
 o 92 (.mv (t 7)),
 o 93 (.call 98 [(t 91), (t 92)])]
def f72r20 : List SOper := [
 o 94 (.mv (t 0)),
 o 6 (.mv (t 94))]
def f72 : SCode := (.seq (.ops f72r0) (.seq (.ops f72r1) (.seq (.ops f72r2) (.seq (.seq (.ops f72r3) (.cond (t 16) (.seq (.ops f72r4) .ret) .skip)) (.seq (.ops f72r5) (.seq (.seq (.ops f72r6) (.cond (t 22) (.seq (.ops f72r7) .ret) .skip)) (.seq (.seq (.ops f72r8) (.cond (t 31) (.seq (.ops f72r9) (.seq (.ops f72r10) (.seq (.ops f72r11) (.seq (.ops f72r12) .ret)))) .skip)) (.seq (.ops f72r13) (.seq (.seq (.ops f72r14) (.cond (t 68) (.seq (.ops f72r15) (.seq (.ops f72r16) (.seq (.ops f72r17) .ret))) .skip)) (.seq (.ops f72r18) (.seq (.ops f72r19) (.seq (.ops f72r20) .ret))))))))))))
theorem f72_calls : Sound Tryz.prog 72 95 f72 [.t 6] := sound_of mixed Tryz.func72 rfl (by kernel_rfl) (by kernel_rfl) (by kernel_rfl)

/-! 73: slices.Delete[[]tabor/api.Pair,tabor/api.Pair] -/
def f73r0 : List SOper := [
 o 6 (.mv (.const (.slice none 0 0)))]
def f73r1 : List SOper := [
 o 8 (.mv (t 0)),
 o 9 (.mv (t 1)),
 o 10 (.mv (t 2)),
 o 11 (.mv (t 0)),
 o 12 (.len (t 11)),
 o 13 (.slc3 2 (t 8) (some (t 9)) (t 10) (t 12))]
def f73r2 : List SOper := [
 o 14 (.mv (t 1)),
 o 15 (.mv (t 2)),
 o 16 (.cmp .eql (t 14) (t 15))]
def f73r3 : List SOper := [
 o 17 (.mv (t 0)),
 o 6 (.mv (t 17))]
def f73r4 : List SOper := [
 o 18 (.mv (t 0)),
 o 19 (.len (t 18)),
 o 7 (.mv (t 19))]
def f73r5 : List SOper := [
 o 20 (.mv (t 0)),
 o 21 (.mv (t 1)),
 o 22 (.slc 2 (t 20) none (some (t 21))),
 o 23 (.mv (t 0)),
 o 24 (.mv (t 2)),
 o 25 (.slc 2 (t 23) (some (t 24)) none),
 o 26 (.app 2 32 [(.string ⟨#[]⟩), (.string ⟨#[]⟩)] (t 22) (t 25)),
 o 0 (.mv (t 26))]
def f73r6 : List SOper := [
 o 27 (.mv (t 0)),
 o 28 (.mv (t 0)),
 o 29 (.len (t 28)),
 o 30 (.mv (t 7)),
 o 31 (.slc 2 (t 27) (some (t 29)) (some (t 30))),
 q (.clr [(.string ⟨#[]⟩), (.string ⟨#[]⟩)] (t 31))]
def f73r7 : List SOper := [
 o 32 (.mv (t 0)),
 o 6 (.mv (t 32))]
def f73 : SCode := (.seq (.ops f73r0) (.seq (.ops f73r1) (.seq (.seq (.ops f73r2) (.cond (t 16) (.seq (.ops f73r3) .ret) .skip)) (.seq (.ops f73r4) (.seq (.ops f73r5) (.seq (.ops f73r6) (.seq (.ops f73r7) .ret)))))))
theorem f73_calls : Sound Tryz.prog 73 33 f73 [.t 6] := sound_of mixed Tryz.func73 rfl (by kernel_rfl) (by kernel_rfl) (by kernel_rfl)

/-! 74: slices.overlaps[string]: not simplified -/
/-! 75: slices.rotateRight[string]: not simplified -/
/-! 76: tabor/keys.byName[string] -/
def f76r0 : List SOper := [
 o 4 (.box (t 1)),
 o 6 (.mv (i 0)),
 o 7 (.mv (b false))]
def f76r1 : List SOper := [
 o 8 (.mv (t 0)),
 o 9 (.mv (t 2)),
 o 10 (.fn 101 [] [(t 4)]),
 o 11 (.call 100 [(t 8), (t 9), (t 10)]),
 o 12 (.ext (t 11) 0),
 o 13 (.ext (t 11) 1),
 o 6 (.mv (t 12)),
 o 7 (.mv (t 13))]
def f76 : SCode := (.seq (.ops f76r0) (.seq (.ops f76r1) .ret))
theorem f76_calls : Sound Tryz.prog 76 14 f76 [.t 6, .t 7] := sound_of mixed Tryz.func76 rfl (by kernel_rfl) (by kernel_rfl) (by kernel_rfl)

/-! 77: tabor/keys.itself -/
def f77r0 : List SOper := [
 o 2 (.mv e)]
def f77r1 : List SOper := [
 o 3 (.mv (t 0)),
 o 2 (.mv (t 3))]
def f77 : SCode := (.seq (.ops f77r0) (.seq (.ops f77r1) .ret))
theorem f77_calls : Sound Tryz.prog 77 4 f77 [.t 2] := sound_of mixed Tryz.func77 rfl (by kernel_rfl) (by kernel_rfl) (by kernel_rfl)

/-! 78: slices.Delete[[]string,string] -/
def f78r0 : List SOper := [
 o 6 (.mv (.const (.slice none 0 0)))]
def f78r1 : List SOper := [
 o 8 (.mv (t 0)),
 o 9 (.mv (t 1)),
 o 10 (.mv (t 2)),
 o 11 (.mv (t 0)),
 o 12 (.len (t 11)),
 o 13 (.slc3 1 (t 8) (some (t 9)) (t 10) (t 12))]
def f78r2 : List SOper := [
 o 14 (.mv (t 1)),
 o 15 (.mv (t 2)),
 o 16 (.cmp .eql (t 14) (t 15))]
def f78r3 : List SOper := [
 o 17 (.mv (t 0)),
 o 6 (.mv (t 17))]
def f78r4 : List SOper := [
 o 18 (.mv (t 0)),
 o 19 (.len (t 18)),
 o 7 (.mv (t 19))]
def f78r5 : List SOper := [
 o 20 (.mv (t 0)),
 o 21 (.mv (t 1)),
 o 22 (.slc 1 (t 20) none (some (t 21))),
 o 23 (.mv (t 0)),
 o 24 (.mv (t 2)),
 o 25 (.slc 1 (t 23) (some (t 24)) none),
 o 26 (.app 1 16 [(.string ⟨#[]⟩)] (t 22) (t 25)),
 o 0 (.mv (t 26))]
def f78r6 : List SOper := [
 o 27 (.mv (t 0)),
 o 28 (.mv (t 0)),
 o 29 (.len (t 28)),
 o 30 (.mv (t 7)),
 o 31 (.slc 1 (t 27) (some (t 29)) (some (t 30))),
 q (.clr [(.string ⟨#[]⟩)] (t 31))]
def f78r7 : List SOper := [
 o 32 (.mv (t 0)),
 o 6 (.mv (t 32))]
def f78 : SCode := (.seq (.ops f78r0) (.seq (.ops f78r1) (.seq (.seq (.ops f78r2) (.cond (t 16) (.seq (.ops f78r3) .ret) .skip)) (.seq (.ops f78r4) (.seq (.ops f78r5) (.seq (.ops f78r6) (.seq (.ops f78r7) .ret)))))))
theorem f78_calls : Sound Tryz.prog 78 33 f78 [.t 6] := sound_of mixed Tryz.func78 rfl (by kernel_rfl) (by kernel_rfl) (by kernel_rfl)

/-! 79: slices.BinarySearchFunc[[]tabor/api.Rank,tabor/api.Rank,tabor/api.Rank] -/
def f79r0 : List SOper := [
 o 4 (.box (t 1)),
 o 6 (.mv (i 0)),
 o 7 (.mv (b false))]
def f79r1 : List SOper := [
 o 12 (.mv (t 0)),
 o 13 (.len (t 12)),
 o 8 (.mv (t 13))]
def f79r2 : List SOper := [
 o 14 (.mv (t 8)),
 o 9 (.mv (i 0)),
 o 10 (.mv (t 14))]
def f79r3 : List SOper := [
 o 15 (.mv (t 9)),
 o 16 (.mv (t 10)),
 o 17 (.cmp .lss (t 15) (t 16))]
def f79r4 : List SOper := [
 o 18 (.mv (t 9)),
 o 19 (.mv (t 10)),
 o 20 (.ar .add (t 18) (t 19)),
 o 21 (.cvt .u64 (t 20)),
 o 22 (.sh .u64 false 1 (t 21)),
 o 23 (.cvt .i64 (t 22)),
 o 11 (.mv (t 23))]
def f79r5 : List SOper := [
 o 24 (.mv (t 2)),
 o 25 (.mv (t 0)),
 o 26 (.mv (t 11)),
 o 27 (.ixs 2 (t 25) (t 26)),
 o 28 (.ldn 2 (t 27)),
 o 29 (.ldn 2 (t 4)),
 o 30 (.callv (t 24) [(t 28), (t 29)]),
 o 31 (.cmp .lss (t 30) (i 0))]
def f79r6 : List SOper := [
 o 32 (.mv (t 11)),
 o 33 (.ar .add (t 32) (i 1)),
 o 9 (.mv (t 33))]
def f79r7 : List SOper := [
 o 34 (.mv (t 11)),
 o 10 (.mv (t 34))]
def f79l8 : SCode := (.seq (.seq (.ops f79r3) (.cond (t 17) .skip (.exit 0))) (.block 1 (.seq (.ops f79r4) (.seq (.ops f79r5) (.cond (t 31) (.ops f79r6) (.ops f79r7))))))
def f79r9 : List SOper := [
 o 35 (.mv (t 9)),
 o 36 (.mv (t 9)),
 o 37 (.mv (t 8)),
 o 38 (.cmp .lss (t 36) (t 37)),
 o 39 (.mv (t 38)),
 g 40 39 (.mv (t 2)),
 g 41 39 (.mv (t 0)),
 g 42 39 (.mv (t 9)),
 g 43 39 (.ixs 2 (t 41) (t 42)),
 g 44 39 (.ldn 2 (t 43)),
 g 45 39 (.ldn 2 (t 4)),
 g 46 39 (.callv (t 40) [(t 44), (t 45)]),
 g 47 39 (.cmp .eql (t 46) (i 0)),
 o 48 (.pick (t 39) (t 47) (b false)),
 o 6 (.mv (t 35)),
 o 7 (.mv (t 48))]
def f79 : SCode := (.seq (.ops f79r0) (.seq (.ops f79r1) (.seq (.ops f79r2) (.seq (.block 0 (.loop f79l8)) (.seq (.ops f79r9) .ret)))))
theorem f79_calls : Sound Tryz.prog 79 49 f79 [.t 6, .t 7] := sound_of mixed Tryz.func79 rfl (by kernel_rfl) (by kernel_rfl) (by kernel_rfl)

/-! 80: slices.Insert[[]tabor/api.Rank,tabor/api.Rank] -/
def f80r0 : List SOper := [
 o 6 (.mv (.const (.slice none 0 0)))]
def f80r1 : List SOper := [
 o 10 (.mv (t 0)),
 o 11 (.mv (t 1)),
 o 12 (.slc 2 (t 10) (some (t 11)) none)]
def f80r2 : List SOper := [
 o 13 (.mv (t 2)),
 o 14 (.len (t 13)),
 o 7 (.mv (t 14))]
def f80r3 : List SOper := [
 o 15 (.mv (t 7)),
 o 16 (.cmp .eql (t 15) (i 0))]
def f80r4 : List SOper := [
 o 17 (.mv (t 0)),
 o 6 (.mv (t 17))]
def f80r5 : List SOper := [
 o 18 (.mv (t 0)),
 o 19 (.len (t 18)),
 o 8 (.mv (t 19))]
def f80r6 : List SOper := [
 o 20 (.mv (t 1)),
 o 21 (.mv (t 8)),
 o 22 (.cmp .eql (t 20) (t 21))]
def f80r7 : List SOper := [
 o 23 (.mv (t 0)),
 o 24 (.mv (t 2)),
 o 25 (.app 2 24 [(.string ⟨#[]⟩), (.int .i64 0)] (t 23) (t 24)),
 o 6 (.mv (t 25))]
def f80r8 : List SOper := [
 o 26 (.mv (t 8)),
 o 27 (.mv (t 7)),
 o 28 (.ar .add (t 26) (t 27)),
 o 29 (.mv (t 0)),
 o 30 (.capc (t 29)),
 o 31 (.cmp .gtr (t 28) (t 30))]
def f80r9 : List SOper := [
 o 32 (.mv (t 0)),
 o 33 (.mv (t 1)),
 o 34 (.slc 2 (t 32) none (some (t 33))),
 o 35 (.mv (t 8)),
 o 36 (.mv (t 7)),
 o 37 (.ar .add (t 35) (t 36)),
 o 38 (.mv (t 1)),
 o 39 (.ar .sub (t 37) (t 38)),
 o 40 (.appz 2 24 [(.string ⟨#[]⟩), (.int .i64 0)] (t 34) (t 39)),
 o 9 (.mv (t 40))]
def f80r10 : List SOper := [
 o 41 (.mv (t 9)),
 o 42 (.mv (t 1)),
 o 43 (.slc 2 (t 41) (some (t 42)) none),
 o 44 (.mv (t 2)),
 o 45 (.cpy 2 (t 43) (t 44))]
def f80r11 : List SOper := [
 o 46 (.mv (t 9)),
 o 47 (.mv (t 1)),
 o 48 (.mv (t 7)),
 o 49 (.ar .add (t 47) (t 48)),
 o 50 (.slc 2 (t 46) (some (t 49)) none),
 o 51 (.mv (t 0)),
 o 52 (.mv (t 1)),
 o 53 (.slc 2 (t 51) (some (t 52)) none),
 o 54 (.cpy 2 (t 50) (t 53))]
def f80r12 : List SOper := [
 o 55 (.mv (t 9)),
 o 6 (.mv (t 55))]
def f80r13 : List SOper := [
 o 56 (.mv (t 0)),
 o 57 (.mv (t 8)),
 o 58 (.mv (t 7)),
 o 59 (.ar .add (t 57) (t 58)),
 o 60 (.slc 2 (t 56) none (some (t 59))),
 o 0 (.mv (t 60))]
def f80r14 : List SOper := [
 o 61 (.mv (t 2)),
 o 62 (.mv (t 0)),
 o 63 (.mv (t 1)),
 o 64 (.mv (t 7)),
 o 65 (.ar .add (t 63) (t 64)),
 o 66 (.slc 2 (t 62) (some (t 65)) none),
 o 67 (.callx 102 [(t 61), (t 66)]),
 o 68 (.un .not (t 67))]
def f80r15 : List SOper := [
 o 69 (.mv (t 0)),
 o 70 (.mv (t 1)),
 o 71 (.mv (t 7)),
 o 72 (.ar .add (t 70) (t 71)),
 o 73 (.slc 2 (t 69) (some (t 72)) none),
 o 74 (.mv (t 0)),
 o 75 (.mv (t 1)),
 o 76 (.slc 2 (t 74) (some (t 75)) none),
 o 77 (.cpy 2 (t 73) (t 76))]
def f80r16 : List SOper := [
 o 78 (.mv (t 0)),
 o 79 (.mv (t 1)),
 o 80 (.slc 2 (t 78) (some (t 79)) none),
 o 81 (.mv (t 2)),
 o 82 (.cpy 2 (t 80) (t 81))]
def f80r17 : List SOper := [
 o 83 (.mv (t 0)),
 o 6 (.mv (t 83))]
def f80r18 : List SOper := [
 o 84 (.mv (t 0)),
 o 85 (.mv (t 8)),
 o 86 (.slc 2 (t 84) (some (t 85)) none),
 o 87 (.mv (t 2)),
 o 88 (.cpy 2 (t 86) (t 87))]
def f80r19 : List SOper := [
 o 89 (.mv (t 0)),
 o 90 (.mv (t 1)),
 o 91 (.slc 2 (t 89) (some (t 90)) none),
 o 92 (.mv (t 7)),
 o 93 (.call 103 [(t 91), (t 92)])]
def f80r20 : List SOper := [
 o 94 (.mv (t 0)),
 o 6 (.mv (t 94))]
def f80 : SCode := (.seq (.ops f80r0) (.seq (.ops f80r1) (.seq (.ops f80r2) (.seq (.seq (.ops f80r3) (.cond (t 16) (.seq (.ops f80r4) .ret) .skip)) (.seq (.ops f80r5) (.seq (.seq (.ops f80r6) (.cond (t 22) (.seq (.ops f80r7) .ret) .skip)) (.seq (.seq (.ops f80r8) (.cond (t 31) (.seq (.ops f80r9) (.seq (.ops f80r10) (.seq (.ops f80r11) (.seq (.ops f80r12) .ret)))) .skip)) (.seq (.ops f80r13) (.seq (.seq (.ops f80r14) (.cond (t 68) (.seq (.ops f80r15) (.seq (.ops f80r16) (.seq (.ops f80r17) .ret))) .skip)) (.seq (.ops f80r18) (.seq (.ops f80r19) (.seq (.ops f80r20) .ret))))))))))))
theorem f80_calls : Sound Tryz.prog 80 95 f80 [.t 6] := sound_of mixed Tryz.func80 rfl (by kernel_rfl) (by kernel_rfl) (by kernel_rfl)

/-! 81: slices.IndexFunc[[]tabor/api.Rank,tabor/api.Rank] -/
def f81r0 : List SOper := [
 o 4 (.mv (i 0))]
def f81r1 : List SOper := [
 o 6 (.mv (t 0)),
 o 7 (.len (t 6)),
 o 8 (.mv (i 0))]
def f81r2 : List SOper := [
 o 9 (.cmp .lss (t 8) (t 7))]
def f81r3 : List SOper := [
 o 10 (.mv (t 8)),
 o 5 (.mv (t 10))]
def f81r4 : List SOper := [
 o 11 (.mv (t 1)),
 o 12 (.mv (t 0)),
 o 13 (.mv (t 5)),
 o 14 (.ixs 2 (t 12) (t 13)),
 o 15 (.ldn 2 (t 14)),
 o 16 (.callv (t 11) [(t 15)])]
def f81r5 : List SOper := [
 o 17 (.mv (t 5)),
 o 4 (.mv (t 17))]
def f81r6 : List SOper := [
 o 18 (.ar .add (t 8) (i 1)),
 o 8 (.mv (t 18))]
def f81l7 : SCode := (.seq (.ops f81r2) (.seq (.cond (t 9) .skip (.exit 0)) (.seq (.block 1 (.seq (.ops f81r3) (.seq (.ops f81r4) (.cond (t 16) (.seq (.ops f81r5) .ret) .skip)))) (.ops f81r6))))
def f81r8 : List SOper := [
 o 4 (.mv (i (-1)))]
def f81 : SCode := (.seq (.ops f81r0) (.seq (.seq (.ops f81r1) (.block 0 (.loop f81l7))) (.seq (.ops f81r8) .ret)))
theorem f81_calls : Sound Tryz.prog 81 19 f81 [.t 4] := sound_of mixed Tryz.func81 rfl (by kernel_rfl) (by kernel_rfl) (by kernel_rfl)

/-! 82: tabor/keys.unrank$1 -/
def f82r0 : List SOper := [
 o 2 (.box (t 0)),
 o 3 (.mv (b false))]
def f82r1 : List SOper := [
 o 4 (.fa 0 (t 2)),
 o 5 (.ld1 (t 4)),
 o 6 (.fa 2 (t 1)),
 o 7 (.ld1 (t 6)),
 o 8 (.cmp .eql (t 5) (t 7)),
 o 3 (.mv (t 8))]
def f82 : SCode := (.seq (.ops f82r0) (.seq (.ops f82r1) .ret))
theorem f82_calls : Sound Tryz.prog 82 9 f82 [.t 3] := sound_of mixed Tryz.func82 rfl (by kernel_rfl) (by kernel_rfl) (by kernel_rfl)

/-! 83: slices.Delete[[]tabor/api.Rank,tabor/api.Rank] -/
def f83r0 : List SOper := [
 o 6 (.mv (.const (.slice none 0 0)))]
def f83r1 : List SOper := [
 o 8 (.mv (t 0)),
 o 9 (.mv (t 1)),
 o 10 (.mv (t 2)),
 o 11 (.mv (t 0)),
 o 12 (.len (t 11)),
 o 13 (.slc3 2 (t 8) (some (t 9)) (t 10) (t 12))]
def f83r2 : List SOper := [
 o 14 (.mv (t 1)),
 o 15 (.mv (t 2)),
 o 16 (.cmp .eql (t 14) (t 15))]
def f83r3 : List SOper := [
 o 17 (.mv (t 0)),
 o 6 (.mv (t 17))]
def f83r4 : List SOper := [
 o 18 (.mv (t 0)),
 o 19 (.len (t 18)),
 o 7 (.mv (t 19))]
def f83r5 : List SOper := [
 o 20 (.mv (t 0)),
 o 21 (.mv (t 1)),
 o 22 (.slc 2 (t 20) none (some (t 21))),
 o 23 (.mv (t 0)),
 o 24 (.mv (t 2)),
 o 25 (.slc 2 (t 23) (some (t 24)) none),
 o 26 (.app 2 24 [(.string ⟨#[]⟩), (.int .i64 0)] (t 22) (t 25)),
 o 0 (.mv (t 26))]
def f83r6 : List SOper := [
 o 27 (.mv (t 0)),
 o 28 (.mv (t 0)),
 o 29 (.len (t 28)),
 o 30 (.mv (t 7)),
 o 31 (.slc 2 (t 27) (some (t 29)) (some (t 30))),
 q (.clr [(.string ⟨#[]⟩), (.int .i64 0)] (t 31))]
def f83r7 : List SOper := [
 o 32 (.mv (t 0)),
 o 6 (.mv (t 32))]
def f83 : SCode := (.seq (.ops f83r0) (.seq (.ops f83r1) (.seq (.seq (.ops f83r2) (.cond (t 16) (.seq (.ops f83r3) .ret) .skip)) (.seq (.ops f83r4) (.seq (.ops f83r5) (.seq (.ops f83r6) (.seq (.ops f83r7) .ret)))))))
theorem f83_calls : Sound Tryz.prog 83 33 f83 [.t 6] := sound_of mixed Tryz.func83 rfl (by kernel_rfl) (by kernel_rfl) (by kernel_rfl)

/-! 84: slices.insertionSortOrdered[string]: not simplified -/
/-! 85: slices.heapSortOrdered[string]: not simplified -/
/-! 86: slices.breakPatternsOrdered[string]: not simplified -/
/-! 87: slices.choosePivotOrdered[string]: not simplified -/
/-! 88: slices.reverseRangeOrdered[string]: not simplified -/
/-! 89: slices.partialInsertionSortOrdered[string]: not simplified -/
/-! 90: cmp.Less[string]: not simplified -/
/-! 91: slices.partitionEqualOrdered[string]: not simplified -/
/-! 92: slices.partitionOrdered[string]: not simplified -/
/-! 93: math/bits.Len32: not simplified -/
/-! 94: math/bits.Len64: not simplified -/
/-! 95: slices.BinarySearchFunc[[]tabor/api.Pair,tabor/api.Pair,string] -/
def f95r0 : List SOper := [
 o 6 (.mv (i 0)),
 o 7 (.mv (b false))]
def f95r1 : List SOper := [
 o 12 (.mv (t 0)),
 o 13 (.len (t 12)),
 o 8 (.mv (t 13))]
def f95r2 : List SOper := [
 o 14 (.mv (t 8)),
 o 9 (.mv (i 0)),
 o 10 (.mv (t 14))]
def f95r3 : List SOper := [
 o 15 (.mv (t 9)),
 o 16 (.mv (t 10)),
 o 17 (.cmp .lss (t 15) (t 16))]
def f95r4 : List SOper := [
 o 18 (.mv (t 9)),
 o 19 (.mv (t 10)),
 o 20 (.ar .add (t 18) (t 19)),
 o 21 (.cvt .u64 (t 20)),
 o 22 (.sh .u64 false 1 (t 21)),
 o 23 (.cvt .i64 (t 22)),
 o 11 (.mv (t 23))]
def f95r5 : List SOper := [
 o 24 (.mv (t 2)),
 o 25 (.mv (t 0)),
 o 26 (.mv (t 11)),
 o 27 (.ixs 2 (t 25) (t 26)),
 o 28 (.ldn 2 (t 27)),
 o 29 (.mv (t 1)),
 o 30 (.callv (t 24) [(t 28), (t 29)]),
 o 31 (.cmp .lss (t 30) (i 0))]
def f95r6 : List SOper := [
 o 32 (.mv (t 11)),
 o 33 (.ar .add (t 32) (i 1)),
 o 9 (.mv (t 33))]
def f95r7 : List SOper := [
 o 34 (.mv (t 11)),
 o 10 (.mv (t 34))]
def f95l8 : SCode := (.seq (.seq (.ops f95r3) (.cond (t 17) .skip (.exit 0))) (.block 1 (.seq (.ops f95r4) (.seq (.ops f95r5) (.cond (t 31) (.ops f95r6) (.ops f95r7))))))
def f95r9 : List SOper := [
 o 35 (.mv (t 9)),
 o 36 (.mv (t 9)),
 o 37 (.mv (t 8)),
 o 38 (.cmp .lss (t 36) (t 37)),
 o 39 (.mv (t 38)),
 g 40 39 (.mv (t 2)),
 g 41 39 (.mv (t 0)),
 g 42 39 (.mv (t 9)),
 g 43 39 (.ixs 2 (t 41) (t 42)),
 g 44 39 (.ldn 2 (t 43)),
 g 45 39 (.mv (t 1)),
 g 46 39 (.callv (t 40) [(t 44), (t 45)]),
 g 47 39 (.cmp .eql (t 46) (i 0)),
 o 48 (.pick (t 39) (t 47) (b false)),
 o 6 (.mv (t 35)),
 o 7 (.mv (t 48))]
def f95 : SCode := (.seq (.ops f95r0) (.seq (.ops f95r1) (.seq (.ops f95r2) (.seq (.block 0 (.loop f95l8)) (.seq (.ops f95r9) .ret)))))
theorem f95_calls : Sound Tryz.prog 95 49 f95 [.t 6, .t 7] := sound_of mixed Tryz.func95 rfl (by kernel_rfl) (by kernel_rfl) (by kernel_rfl)

/-! 96: tabor/keys.byName[tabor/api.Pair]$1 -/
def f96r0 : List SOper := [
 o 3 (.box (t 0)),
 o 5 (.mv (i 0))]
def f96r1 : List SOper := [
 o 6 (.ld1 (t 2)),
 o 7 (.ldn 2 (t 3)),
 o 8 (.callv (t 6) [(t 7)]),
 o 9 (.mv (t 1)),
 o 10 (.call 28 [(t 8), (t 9)]),
 o 5 (.mv (t 10))]
def f96 : SCode := (.seq (.ops f96r0) (.seq (.ops f96r1) .ret))
theorem f96_calls : Sound Tryz.prog 96 11 f96 [.t 5] := sound_of mixed Tryz.func96 rfl (by kernel_rfl) (by kernel_rfl) (by kernel_rfl)

/-! 97: slices.overlaps[tabor/api.Pair]: not simplified -/
/-! 98: slices.rotateRight[tabor/api.Pair]: not simplified -/
/-! 99: slices.rotateLeft[string]: not simplified -/
/-! 100: slices.BinarySearchFunc[[]string,string,string] -/
def f100r0 : List SOper := [
 o 6 (.mv (i 0)),
 o 7 (.mv (b false))]
def f100r1 : List SOper := [
 o 12 (.mv (t 0)),
 o 13 (.len (t 12)),
 o 8 (.mv (t 13))]
def f100r2 : List SOper := [
 o 14 (.mv (t 8)),
 o 9 (.mv (i 0)),
 o 10 (.mv (t 14))]
def f100r3 : List SOper := [
 o 15 (.mv (t 9)),
 o 16 (.mv (t 10)),
 o 17 (.cmp .lss (t 15) (t 16))]
def f100r4 : List SOper := [
 o 18 (.mv (t 9)),
 o 19 (.mv (t 10)),
 o 20 (.ar .add (t 18) (t 19)),
 o 21 (.cvt .u64 (t 20)),
 o 22 (.sh .u64 false 1 (t 21)),
 o 23 (.cvt .i64 (t 22)),
 o 11 (.mv (t 23))]
def f100r5 : List SOper := [
 o 24 (.mv (t 2)),
 o 25 (.mv (t 0)),
 o 26 (.mv (t 11)),
 o 27 (.ixs 1 (t 25) (t 26)),
 o 28 (.ld1 (t 27)),
 o 29 (.mv (t 1)),
 o 30 (.callv (t 24) [(t 28), (t 29)]),
 o 31 (.cmp .lss (t 30) (i 0))]
def f100r6 : List SOper := [
 o 32 (.mv (t 11)),
 o 33 (.ar .add (t 32) (i 1)),
 o 9 (.mv (t 33))]
def f100r7 : List SOper := [
 o 34 (.mv (t 11)),
 o 10 (.mv (t 34))]
def f100l8 : SCode := (.seq (.seq (.ops f100r3) (.cond (t 17) .skip (.exit 0))) (.block 1 (.seq (.ops f100r4) (.seq (.ops f100r5) (.cond (t 31) (.ops f100r6) (.ops f100r7))))))
def f100r9 : List SOper := [
 o 35 (.mv (t 9)),
 o 36 (.mv (t 9)),
 o 37 (.mv (t 8)),
 o 38 (.cmp .lss (t 36) (t 37)),
 o 39 (.mv (t 38)),
 g 40 39 (.mv (t 2)),
 g 41 39 (.mv (t 0)),
 g 42 39 (.mv (t 9)),
 g 43 39 (.ixs 1 (t 41) (t 42)),
 g 44 39 (.ld1 (t 43)),
 g 45 39 (.mv (t 1)),
 g 46 39 (.callv (t 40) [(t 44), (t 45)]),
 g 47 39 (.cmp .eql (t 46) (i 0)),
 o 48 (.pick (t 39) (t 47) (b false)),
 o 6 (.mv (t 35)),
 o 7 (.mv (t 48))]
def f100 : SCode := (.seq (.ops f100r0) (.seq (.ops f100r1) (.seq (.ops f100r2) (.seq (.block 0 (.loop f100l8)) (.seq (.ops f100r9) .ret)))))
theorem f100_calls : Sound Tryz.prog 100 49 f100 [.t 6, .t 7] := sound_of mixed Tryz.func100 rfl (by kernel_rfl) (by kernel_rfl) (by kernel_rfl)

/-! 101: tabor/keys.byName[string]$1 -/
def f101r0 : List SOper := [
 o 5 (.mv (i 0))]
def f101r1 : List SOper := [
 o 6 (.ld1 (t 2)),
 o 7 (.mv (t 0)),
 o 8 (.callv (t 6) [(t 7)]),
 o 9 (.mv (t 1)),
 o 10 (.call 28 [(t 8), (t 9)]),
 o 5 (.mv (t 10))]
def f101 : SCode := (.seq (.ops f101r0) (.seq (.ops f101r1) .ret))
theorem f101_calls : Sound Tryz.prog 101 11 f101 [.t 5] := sound_of mixed Tryz.func101 rfl (by kernel_rfl) (by kernel_rfl) (by kernel_rfl)

/-! 102: slices.overlaps[tabor/api.Rank]: not simplified -/
/-! 103: slices.rotateRight[tabor/api.Rank]: not simplified -/
/-! 104: slices.siftDownOrdered[string]: not simplified -/
/-! 105: slices.nextPowerOfTwo: not simplified -/
/-! 106: (*slices.xorshift).Next: not simplified -/
/-! 107: slices.medianAdjacentOrdered[string]: not simplified -/
/-! 108: slices.medianOrdered[string]: not simplified -/
/-! 109: cmp.isNaN[string]: not simplified -/
/-! 110: slices.rotateLeft[tabor/api.Pair]: not simplified -/
/-! 111: slices.Reverse[[]string,string]: not simplified -/
/-! 112: slices.rotateLeft[tabor/api.Rank]: not simplified -/
/-! 113: slices.order2Ordered[string]: not simplified -/
/-! 114: slices.Reverse[[]tabor/api.Pair,tabor/api.Pair]: not simplified -/
/-! 115: slices.Reverse[[]tabor/api.Rank,tabor/api.Rank]: not simplified -/
/-! 116: (runtime.boundsError).Error: not simplified -/
/-! 117: (runtime.boundsError).RuntimeError: not simplified -/
/-! 118: (runtime.errorString).Error: not simplified -/
/-! 119: (runtime.errorString).RuntimeError: not simplified -/
/-! 120: (runtime.plainError).Error: not simplified -/
/-! 121: (runtime.plainError).RuntimeError: not simplified -/
/-! 122: (runtime.errorAddressString).Error: not simplified -/
/-! 123: (runtime.errorAddressString).RuntimeError: not simplified -/
/-! 124: (*runtime.TypeAssertionError).Error: not simplified -/
/-! 125: (*runtime.TypeAssertionError).RuntimeError: not simplified -/
/-! 126: (*runtime.PanicNilError).Error: not simplified -/
/-! 127: (*runtime.PanicNilError).RuntimeError: not simplified -/
/-! 128: (*internal/abi.Type).Align: not simplified -/
/-! 129: (internal/runtime/maps.unhashableTypeError).Error: not simplified -/
/-! 130: (internal/runtime/maps.unhashableTypeError).RuntimeError: not simplified -/
/-! 131: (tabor/api.Errno).Error: not simplified -/
/-! 132: (internal/abi.Kind).String: not simplified -/
end Go.Proofs.YtigolfakcblnjaaGreat.C
