/-
  The simplified code of this seat's functions, and that it is what the program's code comes to. Printed by a program (wip/print.lean).
-/
import Derived.Test.YtaffnlibmkcgiaaGreatSxO
import Derived.Test.YtaffnlibmkcgiaaGreatProg
set_option maxRecDepth 100000
namespace Go.Proofs.YtaffnlibmkcgiaaGreat.C
open Go Go.Sx Go.Sx.S

theorem mixed : Tryz.prog.follows .mixedOrders = true := by kernel_rfl

/-! 0: main.main: not simplified -/
/-! 1: gosem.cut: not simplified -/
/-! 2: gosem.cut.init: not simplified -/
/-! 3: tabor/taborlaw07.KeysApply -/
def f3r0 : List SOper := [
 o 4 (.mv (b false))]
def f3r1 : List SOper := [
 o 14 (.mv (t 0)),
 o 15 (.mv (t 1)),
 o 16 (.call 8 [(t 14), (t 15)])]
def f3r2 : List SOper := [
 o 17 (.call 9 []),
 o 4 (.mv (t 17))]
def f3r3 : List SOper := [
 o 19 (.mv (t 0)),
 o 20 (.call 10 [(t 19)]),
 o 18 (.mv (t 20)),
 o 21 (.ext (t 18) 0),
 o 22 (.ext (t 18) 1),
 o 5 (.mv (t 21)),
 o 6 (.mv (t 22))]
def f3r4 : List SOper := [
 o 24 (.mv (t 0)),
 o 25 (.call 11 [(t 24)]),
 o 23 (.mv (t 25)),
 o 26 (.ext (t 23) 0),
 o 27 (.ext (t 23) 1),
 o 7 (.mv (t 26)),
 o 8 (.mv (t 27))]
def f3r5 : List SOper := [
 o 28 (.mv (t 8)),
 o 29 (.cmp .neq (t 28) (i 0))]
def f3r6 : List SOper := [
 o 30 (.mv (t 5)),
 o 31 (.eqn 0 false (t 30)),
 o 32 (.mv (t 31)),
 g 33 32 (.mv (t 6)),
 g 34 32 (.mv (t 8)),
 g 35 32 (.cmp .eql (t 33) (t 34)),
 o 36 (.pick (t 32) (t 35) (b false)),
 o 37 (.mv (t 36)),
 g 38 37 (.call 9 []),
 o 39 (.pick (t 37) (t 38) (b false)),
 o 4 (.mv (t 39))]
def f3r7 : List SOper := [
 o 40 (.mv (t 6)),
 o 41 (.cmp .neq (t 40) (i 0))]
def f3r8 : List SOper := [
 o 4 (.mv (b false))]
def f3r9 : List SOper := [
 o 43 (.mv (t 5)),
 o 44 (.mv (t 1)),
 o 45 (.call 12 [(t 43), (t 44)]),
 o 42 (.mv (t 45)),
 o 46 (.ext (t 42) 0),
 o 47 (.ext (t 42) 1),
 o 9 (.mv (t 46)),
 o 10 (.mv (t 47))]
def f3r10 : List SOper := [
 o 49 (.mv (t 7)),
 o 50 (.mv (t 1)),
 o 51 (.call 13 [(t 49), (t 50)]),
 o 48 (.mv (t 51)),
 o 52 (.ext (t 48) 0),
 o 53 (.ext (t 48) 1),
 o 54 (.ext (t 48) 2),
 o 11 (.mv (t 52)),
 o 12 (.mv (t 53)),
 o 13 (.mv (t 54))]
def f3r11 : List SOper := [
 o 55 (.mv (t 9)),
 o 56 (.mv (t 12)),
 o 57 (.cmp .eql (t 55) (t 56)),
 o 58 (.mv (t 57)),
 g 59 58 (.mv (t 10)),
 g 60 58 (.mv (t 13)),
 g 61 58 (.cmp .eql (t 59) (t 60)),
 o 62 (.pick (t 58) (t 61) (b false)),
 o 63 (.mv (t 62)),
 g 64 63 (.mv (t 5)),
 g 65 63 (.mv (t 11)),
 g 66 63 (.call 14 [(t 64), (t 65)]),
 o 67 (.pick (t 63) (t 66) (b false)),
 o 68 (.mv (t 67)),
 g 69 68 (.call 9 []),
 o 70 (.pick (t 68) (t 69) (b false)),
 o 4 (.mv (t 70))]
def f3 : SCode := (.seq (.ops f3r0) (.seq (.seq (.ops f3r1) (.cond (t 16) (.seq (.ops f3r2) .ret) .skip)) (.seq (.ops f3r3) (.seq (.ops f3r4) (.seq (.seq (.ops f3r5) (.cond (t 29) (.seq (.ops f3r6) .ret) .skip)) (.seq (.seq (.ops f3r7) (.cond (t 41) (.seq (.ops f3r8) .ret) .skip)) (.seq (.ops f3r9) (.seq (.ops f3r10) (.seq (.ops f3r11) .ret)))))))))
theorem f3_calls : Sound Tryz.prog 3 71 f3 [.t 4] := sound_of mixed Tryz.func3 rfl (by kernel_rfl) (by kernel_rfl) (by kernel_rfl)

/-! 4: tabor/taborlaw07.KeysOne -/
def f4r0 : List SOper := [
 o 2 (.box (t 0)),
 o 3 (.box (t 1)),
 o 4 (.mv (b false))]
def f4r1 : List SOper := [
 o 11 (.ldn 8 (t 2)),
 o 12 (.bslice [(.string ⟨#[]⟩), (.int .i64 0), (.string ⟨#[]⟩), (.slice none 0 0), (.slice none 0 0), (.slice none 0 0), (.bool false), (.int .i64 0)] 1 [(0, 8)] [(t 11)]),
 o 13 (.ldn 5 (t 3)),
 o 14 (.bslice [(.int .i64 0), (.string ⟨#[]⟩), (.string ⟨#[]⟩), (.string ⟨#[]⟩), (.int .i64 0)] 1 [(0, 5)] [(t 13)]),
 o 15 (.call 8 [(t 12), (t 14)]),
 o 16 (.mv (t 15)),
 n 17 16 (.fa 1 (t 2)),
 n 18 16 (.ldn 7 (t 17)),
 n 19 16 (.call 15 [(t 18)]),
 n 20 16 (.un .not (t 19)),
 o 21 (.pick (t 16) (b true) (t 20))]
def f4r2 : List SOper := [
 o 22 (.call 9 []),
 o 4 (.mv (t 22))]
def f4r3 : List SOper := [
 o 24 (.ldn 8 (t 2)),
 o 25 (.bslice [(.string ⟨#[]⟩), (.int .i64 0), (.string ⟨#[]⟩), (.slice none 0 0), (.slice none 0 0), (.slice none 0 0), (.bool false), (.int .i64 0)] 1 [(0, 8)] [(t 24)]),
 o 26 (.call 10 [(t 25)]),
 o 23 (.mv (t 26)),
 o 27 (.ext (t 23) 0),
 o 28 (.ext (t 23) 1),
 o 5 (.mv (t 27)),
 o 6 (.mv (t 28))]
def f4r4 : List SOper := [
 o 29 (.mv (t 6)),
 o 30 (.cmp .neq (t 29) (i 0))]
def f4r5 : List SOper := [
 o 4 (.mv (b false))]
def f4r6 : List SOper := [
 o 32 (.mv (t 5)),
 o 33 (.ldn 5 (t 3)),
 o 34 (.bslice [(.int .i64 0), (.string ⟨#[]⟩), (.string ⟨#[]⟩), (.string ⟨#[]⟩), (.int .i64 0)] 1 [(0, 5)] [(t 33)]),
 o 35 (.call 12 [(t 32), (t 34)]),
 o 31 (.mv (t 35)),
 o 36 (.ext (t 31) 0),
 o 37 (.ext (t 31) 1),
 o 7 (.mv (t 36)),
 o 8 (.mv (t 37))]
def f4r7 : List SOper := [
 o 39 (.ldn 8 (t 2)),
 o 40 (.bslice [(.string ⟨#[]⟩), (.int .i64 0), (.string ⟨#[]⟩), (.slice none 0 0), (.slice none 0 0), (.slice none 0 0), (.bool false), (.int .i64 0)] 1 [(0, 8)] [(t 39)]),
 o 41 (.ldn 5 (t 3)),
 o 42 (.call 16 [(t 40), (t 41)]),
 o 38 (.mv (t 42)),
 o 43 (.ext (t 38) 0),
 o 44 (.ext (t 38) 1),
 o 9 (.mv (t 43)),
 o 10 (.mv (t 44))]
def f4r8 : List SOper := [
 o 45 (.mv (t 8)),
 o 46 (.mv (t 10)),
 o 47 (.cmp .eql (t 45) (t 46)),
 o 48 (.mv (t 47)),
 g 49 48 (.mv (t 5)),
 g 50 48 (.mv (t 9)),
 g 51 48 (.call 14 [(t 49), (t 50)]),
 o 52 (.pick (t 48) (t 51) (b false)),
 o 53 (.mv (t 52)),
 g 54 53 (.call 9 []),
 o 55 (.pick (t 53) (t 54) (b false)),
 o 4 (.mv (t 55))]
def f4 : SCode := (.seq (.ops f4r0) (.seq (.seq (.ops f4r1) (.cond (t 21) (.seq (.ops f4r2) .ret) .skip)) (.seq (.ops f4r3) (.seq (.seq (.ops f4r4) (.cond (t 30) (.seq (.ops f4r5) .ret) .skip)) (.seq (.ops f4r6) (.seq (.ops f4r7) (.seq (.ops f4r8) .ret)))))))
theorem f4_calls : Sound Tryz.prog 4 56 f4 [.t 4] := sound_of mixed Tryz.func4 rfl (by kernel_rfl) (by kernel_rfl) (by kernel_rfl)

/-! 5: tabor/taborlaw07.KeysAll -/
def f5r0 : List SOper := [
 o 3 (.box (t 1)),
 o 4 (.mv (b false))]
def f5r1 : List SOper := [
 o 10 (.mv (t 0)),
 o 11 (.call 8 [(t 10), (.const (.slice none 0 0))])]
def f5r2 : List SOper := [
 o 12 (.call 9 []),
 o 4 (.mv (t 12))]
def f5r3 : List SOper := [
 o 14 (.mv (t 0)),
 o 15 (.call 10 [(t 14)]),
 o 13 (.mv (t 15)),
 o 16 (.ext (t 13) 0),
 o 17 (.ext (t 13) 1),
 o 5 (.mv (t 16)),
 o 6 (.mv (t 17))]
def f5r4 : List SOper := [
 o 18 (.mv (t 6)),
 o 19 (.cmp .neq (t 18) (i 0))]
def f5r5 : List SOper := [
 o 20 (.mv (t 5)),
 o 21 (.eqn 0 false (t 20)),
 o 22 (.mv (t 21)),
 g 23 22 (.call 9 []),
 o 24 (.pick (t 22) (t 23) (b false)),
 o 4 (.mv (t 24))]
def f5r6 : List SOper := [
 o 25 (.mv (t 5)),
 o 26 (.call 17 [(t 25)]),
 o 7 (.mv (t 26))]
def f5r7 : List SOper := [
 o 27 (.mv (t 7)),
 o 28 (.eqn 3 false (t 27))]
def f5r8 : List SOper := [
 o 4 (.mv (b false))]
def f5r9 : List SOper := [
 o 8 (.new [(.int .i64 0)]),
 q (.st 1 (t 8) (i 0))]
def f5r10 : List SOper := [
 o 29 (.mv (t 7))]
def f5r11 : List SOper := [
 o 32 (.ld1 (t 8)),
 o 33 (.ar .add (t 32) (i 1)),
 q (.st 1 (t 8) (t 33))]
def f5a12 : SCode := .skip
def f5b12 : SCode := (.block 1 (.ops f5r11))
def f5r13 : List SOper := [
 o 9 (.new [(.int .i64 0)]),
 q (.st 1 (t 9) (i 0))]
def f5r14 : List SOper := [
 o 34 (.mv (t 7))]
def f5r15 : List SOper := [
 o 37 (.ld1 (t 9)),
 o 38 (.ar .add (t 37) (i 1)),
 q (.st 1 (t 9) (t 38))]
def f5r16 : List SOper := [
 o 39 (.ld1 (t 9)),
 o 40 (.ld1 (t 3)),
 o 41 (.cmp .geq (t 39) (t 40))]
def f5a17 : SCode := .skip
def f5b17 : SCode := (.block 3 (.seq (.ops f5r15) (.seq (.ops f5r16) (.cond (t 41) (.exit 2) .skip))))
def f5r18 : List SOper := [
 o 42 (.ld1 (t 8)),
 o 43 (.mv (t 0)),
 o 44 (.len (t 43)),
 o 45 (.cmp .eql (t 42) (t 44)),
 o 46 (.mv (t 45)),
 g 47 46 (.ld1 (t 9)),
 g 48 46 (.ld1 (t 8)),
 g 49 46 (.ld1 (t 3)),
 g 50 46 (.mx (i 1) (t 49)),
 g 51 46 (.mn (t 48) (t 50)),
 g 52 46 (.cmp .eql (t 47) (t 51)),
 o 53 (.pick (t 46) (t 52) (b false)),
 o 54 (.mv (t 53)),
 g 55 54 (.mv (t 5)),
 g 56 54 (.mv (t 0)),
 g 57 54 (.call 18 [(t 56)]),
 g 58 54 (.call 14 [(t 55), (t 57)]),
 o 59 (.pick (t 54) (t 58) (b false)),
 o 60 (.mv (t 59)),
 g 61 60 (.call 9 []),
 o 62 (.pick (t 60) (t 61) (b false)),
 o 4 (.mv (t 62))]
def f5 : SCode := (.seq (.ops f5r0) (.seq (.seq (.ops f5r1) (.cond (t 11) (.seq (.ops f5r2) .ret) .skip)) (.seq (.ops f5r3) (.seq (.seq (.ops f5r4) (.cond (t 19) (.seq (.ops f5r5) .ret) .skip)) (.seq (.ops f5r6) (.seq (.seq (.ops f5r7) (.cond (t 28) (.seq (.ops f5r8) .ret) .skip)) (.seq (.ops f5r9) (.seq (.seq (.ops f5r10) (.block 0 (.rangeF (t 29) [30, 31] f5a12 f5b12))) (.seq (.ops f5r13) (.seq (.seq (.ops f5r14) (.block 2 (.rangeF (t 34) [35, 36] f5a17 f5b17))) (.seq (.ops f5r18) .ret)))))))))))
theorem f5_calls : Sound Tryz.prog 5 63 f5 [.t 4] := sound_of mixed Tryz.func5 rfl (by kernel_rfl) (by kernel_rfl) (by kernel_rfl)

/-! 6: tabor/taborlaw07.KeysTells -/
def f6r0 : List SOper := [
 o 6 (.mv (b false))]
def f6r1 : List SOper := [
 o 22 (.mv (t 0)),
 o 23 (.call 8 [(t 22), (.const (.slice none 0 0))])]
def f6r2 : List SOper := [
 o 24 (.call 9 []),
 o 6 (.mv (t 24))]
def f6r3 : List SOper := [
 o 26 (.mv (t 0)),
 o 27 (.call 10 [(t 26)]),
 o 25 (.mv (t 27)),
 o 28 (.ext (t 25) 0),
 o 29 (.ext (t 25) 1),
 o 7 (.mv (t 28)),
 o 8 (.mv (t 29))]
def f6r4 : List SOper := [
 o 31 (.mv (t 0)),
 o 32 (.call 11 [(t 31)]),
 o 30 (.mv (t 32)),
 o 33 (.ext (t 30) 0),
 o 34 (.ext (t 30) 1),
 o 9 (.mv (t 33)),
 o 10 (.mv (t 34))]
def f6r5 : List SOper := [
 o 35 (.mv (t 10)),
 o 36 (.cmp .neq (t 35) (i 0)),
 o 37 (.mv (t 36)),
 n 38 37 (.mv (t 8)),
 n 39 37 (.cmp .neq (t 38) (i 0)),
 o 40 (.pick (t 37) (b true) (t 39))]
def f6r6 : List SOper := [
 o 41 (.mv (t 8)),
 o 42 (.mv (t 10)),
 o 43 (.cmp .eql (t 41) (t 42)),
 o 44 (.mv (t 43)),
 g 45 44 (.call 9 []),
 o 46 (.pick (t 44) (t 45) (b false)),
 o 6 (.mv (t 46))]
def f6r7 : List SOper := [
 o 48 (.mv (t 7)),
 o 49 (.mv (t 1)),
 o 50 (.call 19 [(t 48), (t 49)]),
 o 47 (.mv (t 50)),
 o 51 (.ext (t 47) 0),
 o 52 (.ext (t 47) 1),
 o 11 (.new [(.int .i64 0), (.string ⟨#[]⟩), (.slice none 0 0), (.slice none 0 0), (.slice none 0 0), (.bool false), (.int .i64 0)]),
 q (.st 7 (t 11) (t 51)),
 o 12 (.mv (t 52))]
def f6r8 : List SOper := [
 o 54 (.mv (t 9)),
 o 55 (.mv (t 1)),
 o 56 (.call 20 [(t 54), (t 55)]),
 o 53 (.mv (t 56)),
 o 57 (.ext (t 53) 0),
 o 58 (.ext (t 53) 1),
 o 13 (.mv (t 57)),
 o 14 (.mv (t 58))]
def f6r9 : List SOper := [
 o 59 (.mv (t 12)),
 o 60 (.mv (t 14)),
 o 61 (.cmpb true (t 59) (t 60)),
 o 62 (.mv (t 61)),
 n 63 62 (.mv (t 14)),
 n 64 62 (.mv (t 63)),
 g 65 64 (.ldn 7 (t 11)),
 g 66 64 (.mv (t 9)),
 g 67 64 (.mv (t 13)),
 g 68 64 (.ixs 8 (t 66) (t 67)),
 g 69 64 (.fa 1 (t 68)),
 g 70 64 (.ldn 7 (t 69)),
 g 71 64 (.call 21 [(t 65), (t 70)]),
 g 72 64 (.un .not (t 71)),
 n 73 62 (.pick (t 64) (t 72) (b false)),
 o 74 (.pick (t 62) (b true) (t 73)),
 o 75 (.mv (t 74)),
 n 76 75 (.mv (t 14)),
 n 77 75 (.un .not (t 76)),
 n 78 75 (.mv (t 77)),
 g 79 78 (.ldn 7 (t 11)),
 g 80 78 (.build [(.int .i64 0), (.string ⟨#[]⟩), (.slice none 0 0), (.slice none 0 0), (.slice none 0 0), (.bool false), (.int .i64 0)] [] []),
 g 81 78 (.call 21 [(t 79), (t 80)]),
 g 82 78 (.un .not (t 81)),
 n 83 75 (.pick (t 78) (t 82) (b false)),
 o 84 (.pick (t 75) (b true) (t 83))]
def f6r10 : List SOper := [
 o 6 (.mv (b false))]
def f6r11 : List SOper := [
 o 86 (.mv (t 7)),
 o 87 (.mv (t 1)),
 o 88 (.mv (t 2)),
 o 89 (.call 22 [(t 86), (t 87), (t 88)]),
 o 85 (.mv (t 89)),
 o 90 (.ext (t 85) 0),
 o 91 (.ext (t 85) 1),
 o 15 (.new [(.int .i64 0), (.string ⟨#[]⟩), (.slice none 0 0), (.slice none 0 0), (.slice none 0 0), (.bool false), (.int .i64 0)]),
 q (.st 7 (t 15) (t 90)),
 o 16 (.mv (t 91))]
def f6r12 : List SOper := [
 o 93 (.mv (t 9)),
 o 94 (.mv (t 1)),
 o 95 (.mv (t 2)),
 o 96 (.call 23 [(t 93), (t 94), (t 95)]),
 o 92 (.mv (t 96)),
 o 97 (.ext (t 92) 0),
 o 98 (.ext (t 92) 1),
 o 17 (.new [(.int .i64 0), (.string ⟨#[]⟩), (.slice none 0 0), (.slice none 0 0), (.slice none 0 0), (.bool false), (.int .i64 0)]),
 q (.st 7 (t 17) (t 97)),
 o 18 (.mv (t 98))]
def f6r13 : List SOper := [
 o 99 (.mv (t 9)),
 o 100 (.mv (t 2)),
 o 101 (.call 24 [(t 99), (t 100)]),
 o 19 (.mv (t 101))]
def f6r14 : List SOper := [
 o 102 (.mv (t 7)),
 o 103 (.mv (t 2)),
 o 104 (.call 25 [(t 102), (t 103)]),
 o 20 (.mv (t 104))]
def f6r15 : List SOper := [
 o 105 (.mv (t 16)),
 o 106 (.mv (t 18)),
 o 107 (.cmpb true (t 105) (t 106)),
 o 108 (.mv (t 107)),
 n 109 108 (.ldn 7 (t 15)),
 n 110 108 (.ldn 7 (t 17)),
 n 111 108 (.call 21 [(t 109), (t 110)]),
 n 112 108 (.un .not (t 111)),
 o 113 (.pick (t 108) (b true) (t 112)),
 o 114 (.mv (t 113)),
 n 115 114 (.mv (t 7)),
 n 116 114 (.mv (t 2)),
 n 117 114 (.call 26 [(t 115), (t 116)]),
 n 118 114 (.mv (t 19)),
 n 119 114 (.len (t 118)),
 n 120 114 (.cmp .neq (t 117) (t 119)),
 o 121 (.pick (t 114) (b true) (t 120)),
 o 122 (.mv (t 121)),
 n 123 122 (.mv (t 20)),
 n 124 122 (.len (t 123)),
 n 125 122 (.mv (t 19)),
 n 126 122 (.len (t 125)),
 n 127 122 (.cmp .neq (t 124) (t 126)),
 o 128 (.pick (t 122) (b true) (t 127))]
def f6r16 : List SOper := [
 o 6 (.mv (b false))]
def f6r17 : List SOper := [
 o 21 (.mv (i 0))]
def f6r18 : List SOper := [
 o 129 (.mv (t 21)),
 o 130 (.mv (t 20)),
 o 131 (.len (t 130)),
 o 132 (.cmp .lss (t 129) (t 131))]
def f6r19 : List SOper := [
 o 135 (.mv (t 20)),
 o 136 (.mv (t 21)),
 o 137 (.ixs 1 (t 135) (t 136)),
 o 138 (.ld1 (t 137)),
 o 139 (.mv (t 19)),
 o 140 (.mv (t 21)),
 o 141 (.ixs 1 (t 139) (t 140)),
 o 142 (.ld1 (t 141)),
 o 143 (.cmp .neq (t 138) (t 142))]
def f6r20 : List SOper := [
 o 6 (.mv (b false))]
def f6r21 : List SOper := [
 o 133 (.mv (t 21)),
 o 134 (.ar .add (t 133) (i 1)),
 o 21 (.mv (t 134))]
def f6l22 : SCode := (.seq (.seq (.ops f6r18) (.cond (t 132) .skip (.exit 0))) (.seq (.block 1 (.seq (.ops f6r19) (.cond (t 143) (.seq (.ops f6r20) .ret) .skip))) (.ops f6r21)))
def f6r23 : List SOper := [
 o 144 (.call 9 []),
 o 6 (.mv (t 144))]
def f6 : SCode := (.seq (.ops f6r0) (.seq (.seq (.ops f6r1) (.cond (t 23) (.seq (.ops f6r2) .ret) .skip)) (.seq (.ops f6r3) (.seq (.ops f6r4) (.seq (.seq (.ops f6r5) (.cond (t 40) (.seq (.ops f6r6) .ret) .skip)) (.seq (.ops f6r7) (.seq (.ops f6r8) (.seq (.seq (.ops f6r9) (.cond (t 84) (.seq (.ops f6r10) .ret) .skip)) (.seq (.ops f6r11) (.seq (.ops f6r12) (.seq (.ops f6r13) (.seq (.ops f6r14) (.seq (.seq (.ops f6r15) (.cond (t 128) (.seq (.ops f6r16) .ret) .skip)) (.seq (.seq (.ops f6r17) (.block 0 (.loop f6l22))) (.seq (.ops f6r23) .ret)))))))))))))))
theorem f6_calls : Sound Tryz.prog 6 145 f6 [.t 6] := sound_of mixed Tryz.func6 rfl (by kernel_rfl) (by kernel_rfl) (by kernel_rfl)

/-! 7: tabor/taborlaw07.KeysParts -/
def f7r0 : List SOper := [
 o 6 (.mv (b false))]
def f7r1 : List SOper := [
 o 19 (.mv (t 0)),
 o 20 (.mv (t 1)),
 o 21 (.call 8 [(t 19), (t 20)]),
 o 22 (.mv (t 21)),
 n 23 22 (.mv (t 2)),
 n 24 22 (.cmp .lss (t 23) (i 0)),
 o 25 (.pick (t 22) (b true) (t 24)),
 o 26 (.mv (t 25)),
 n 27 26 (.mv (t 2)),
 n 28 26 (.mv (t 1)),
 n 29 26 (.len (t 28)),
 n 30 26 (.cmp .gtr (t 27) (t 29)),
 o 31 (.pick (t 26) (b true) (t 30))]
def f7r2 : List SOper := [
 o 32 (.call 9 []),
 o 6 (.mv (t 32))]
def f7r3 : List SOper := [
 o 34 (.mv (t 0)),
 o 35 (.call 10 [(t 34)]),
 o 33 (.mv (t 35)),
 o 36 (.ext (t 33) 0),
 o 37 (.ext (t 33) 1),
 o 7 (.mv (t 36)),
 o 8 (.mv (t 37))]
def f7r4 : List SOper := [
 o 38 (.mv (t 8)),
 o 39 (.cmp .neq (t 38) (i 0))]
def f7r5 : List SOper := [
 o 40 (.mv (t 7)),
 o 41 (.eqn 0 false (t 40)),
 o 42 (.mv (t 41)),
 g 43 42 (.call 9 []),
 o 44 (.pick (t 42) (t 43) (b false)),
 o 6 (.mv (t 44))]
def f7r6 : List SOper := [
 o 45 (.mv (t 7)),
 o 46 (.call 27 [(t 45)]),
 o 47 (.mv (t 7)),
 o 48 (.call 27 [(t 47)]),
 o 9 (.mv (t 46)),
 o 10 (.mv (t 48))]
def f7r7 : List SOper := [
 o 50 (.mv (t 7)),
 o 51 (.mv (t 1)),
 o 52 (.call 12 [(t 50), (t 51)]),
 o 49 (.mv (t 52)),
 o 53 (.ext (t 49) 0),
 o 54 (.ext (t 49) 1),
 o 11 (.mv (t 53)),
 o 12 (.mv (t 54))]
def f7r8 : List SOper := [
 o 56 (.mv (t 9)),
 o 57 (.mv (t 1)),
 o 58 (.mv (t 2)),
 o 59 (.slc 5 (t 57) none (some (t 58))),
 o 60 (.call 12 [(t 56), (t 59)]),
 o 55 (.mv (t 60)),
 o 61 (.ext (t 55) 0),
 o 62 (.ext (t 55) 1),
 o 13 (.mv (t 61)),
 o 14 (.mv (t 62))]
def f7r9 : List SOper := [
 o 63 (.mv (t 14)),
 o 64 (.cmp .eql (t 63) (i 0))]
def f7r10 : List SOper := [
 o 66 (.mv (t 9)),
 o 67 (.mv (t 1)),
 o 68 (.mv (t 2)),
 o 69 (.slc 5 (t 67) (some (t 68)) none),
 o 70 (.call 12 [(t 66), (t 69)]),
 o 65 (.mv (t 70)),
 o 71 (.ext (t 65) 0),
 o 72 (.ext (t 65) 1),
 o 15 (.mv (t 71)),
 o 16 (.mv (t 72))]
def f7r11 : List SOper := [
 o 73 (.mv (t 13)),
 o 74 (.mv (t 15)),
 o 75 (.ar .add (t 73) (t 74)),
 o 76 (.mv (t 16)),
 o 13 (.mv (t 75)),
 o 14 (.mv (t 76))]
def f7r12 : List SOper := [
 o 78 (.mv (t 0)),
 o 79 (.call 10 [(t 78)]),
 o 77 (.mv (t 79)),
 o 80 (.ext (t 77) 0),
 o 81 (.ext (t 77) 1),
 o 17 (.mv (t 80)),
 o 18 (.mv (t 81))]
def f7r13 : List SOper := [
 o 82 (.mv (t 11)),
 o 83 (.mv (t 13)),
 o 84 (.cmp .eql (t 82) (t 83)),
 o 85 (.mv (t 84)),
 g 86 85 (.mv (t 12)),
 g 87 85 (.mv (t 14)),
 g 88 85 (.cmp .eql (t 86) (t 87)),
 o 89 (.pick (t 85) (t 88) (b false)),
 o 90 (.mv (t 89)),
 g 91 90 (.mv (t 7)),
 g 92 90 (.mv (t 9)),
 g 93 90 (.call 28 [(t 91), (t 92)]),
 o 94 (.pick (t 90) (t 93) (b false)),
 o 95 (.mv (t 94)),
 g 96 95 (.mv (t 9)),
 g 97 95 (.mv (t 7)),
 g 98 95 (.call 28 [(t 96), (t 97)]),
 o 99 (.pick (t 95) (t 98) (b false)),
 o 100 (.mv (t 99)),
 g 101 100 (.mv (t 18)),
 g 102 100 (.cmp .eql (t 101) (i 0)),
 o 103 (.pick (t 100) (t 102) (b false)),
 o 104 (.mv (t 103)),
 g 105 104 (.mv (t 10)),
 g 106 104 (.mv (t 17)),
 g 107 104 (.call 28 [(t 105), (t 106)]),
 o 108 (.pick (t 104) (t 107) (b false)),
 o 109 (.mv (t 108)),
 g 110 109 (.call 9 []),
 o 111 (.pick (t 109) (t 110) (b false)),
 o 6 (.mv (t 111))]
def f7 : SCode := (.seq (.ops f7r0) (.seq (.seq (.ops f7r1) (.cond (t 31) (.seq (.ops f7r2) .ret) .skip)) (.seq (.ops f7r3) (.seq (.seq (.ops f7r4) (.cond (t 39) (.seq (.ops f7r5) .ret) .skip)) (.seq (.ops f7r6) (.seq (.ops f7r7) (.seq (.ops f7r8) (.seq (.seq (.ops f7r9) (.cond (t 64) (.seq (.ops f7r10) (.ops f7r11)) .skip)) (.seq (.ops f7r12) (.seq (.ops f7r13) .ret))))))))))
theorem f7_calls : Sound Tryz.prog 7 112 f7 [.t 6] := sound_of mixed Tryz.func7 rfl (by kernel_rfl) (by kernel_rfl) (by kernel_rfl)

/-! 8: tabor/taborlaw07.vast -/
def f8r0 : List SOper := [
 o 4 (.mv (b false))]
def f8r1 : List SOper := [
 o 7 (.mv (t 0)),
 o 8 (.len (t 7)),
 o 9 (.cmp .gtr (t 8) (i 20)),
 o 10 (.mv (t 9)),
 n 11 10 (.mv (t 1)),
 n 12 10 (.len (t 11)),
 n 13 10 (.cmp .gtr (t 12) (i 60)),
 o 14 (.pick (t 10) (b true) (t 13))]
def f8r2 : List SOper := [
 o 4 (.mv (b true))]
def f8r3 : List SOper := [
 o 5 (.mv (i 0))]
def f8r4 : List SOper := [
 o 15 (.mv (t 5)),
 o 16 (.mv (t 0)),
 o 17 (.len (t 16)),
 o 18 (.cmp .lss (t 15) (t 17))]
def f8r5 : List SOper := [
 o 21 (.mv (t 0)),
 o 22 (.mv (t 5)),
 o 23 (.ixs 8 (t 21) (t 22)),
 o 24 (.fa 0 (t 23)),
 o 25 (.ld1 (t 24)),
 o 26 (.lens (t 25)),
 o 27 (.cmp .gtr (t 26) (i 300)),
 o 28 (.mv (t 27)),
 n 29 28 (.mv (t 0)),
 n 30 28 (.mv (t 5)),
 n 31 28 (.ixs 8 (t 29) (t 30)),
 n 32 28 (.fa 1 (t 31)),
 n 33 28 (.ldn 7 (t 32)),
 n 34 28 (.call 29 [(t 33)]),
 o 35 (.pick (t 28) (b true) (t 34))]
def f8r6 : List SOper := [
 o 4 (.mv (b true))]
def f8r7 : List SOper := [
 o 19 (.mv (t 5)),
 o 20 (.ar .add (t 19) (i 1)),
 o 5 (.mv (t 20))]
def f8l8 : SCode := (.seq (.seq (.ops f8r4) (.cond (t 18) .skip (.exit 0))) (.seq (.block 1 (.seq (.ops f8r5) (.cond (t 35) (.seq (.ops f8r6) .ret) .skip))) (.ops f8r7)))
def f8r9 : List SOper := [
 o 6 (.mv (i 0))]
def f8r10 : List SOper := [
 o 36 (.mv (t 6)),
 o 37 (.mv (t 1)),
 o 38 (.len (t 37)),
 o 39 (.cmp .lss (t 36) (t 38))]
def f8r11 : List SOper := [
 o 42 (.mv (t 1)),
 o 43 (.mv (t 6)),
 o 44 (.ixs 5 (t 42) (t 43)),
 o 45 (.fa 1 (t 44)),
 o 46 (.ld1 (t 45)),
 o 47 (.lens (t 46)),
 o 48 (.cmp .gtr (t 47) (i 300)),
 o 49 (.mv (t 48)),
 n 50 49 (.mv (t 1)),
 n 51 49 (.mv (t 6)),
 n 52 49 (.ixs 5 (t 50) (t 51)),
 n 53 49 (.fa 2 (t 52)),
 n 54 49 (.ld1 (t 53)),
 n 55 49 (.lens (t 54)),
 n 56 49 (.cmp .gtr (t 55) (i 300)),
 o 57 (.pick (t 49) (b true) (t 56)),
 o 58 (.mv (t 57)),
 n 59 58 (.mv (t 1)),
 n 60 58 (.mv (t 6)),
 n 61 58 (.ixs 5 (t 59) (t 60)),
 n 62 58 (.fa 3 (t 61)),
 n 63 58 (.ld1 (t 62)),
 n 64 58 (.lens (t 63)),
 n 65 58 (.cmp .gtr (t 64) (i 300)),
 o 66 (.pick (t 58) (b true) (t 65))]
def f8r12 : List SOper := [
 o 4 (.mv (b true))]
def f8r13 : List SOper := [
 o 40 (.mv (t 6)),
 o 41 (.ar .add (t 40) (i 1)),
 o 6 (.mv (t 41))]
def f8l14 : SCode := (.seq (.seq (.ops f8r10) (.cond (t 39) .skip (.exit 2))) (.seq (.block 3 (.seq (.ops f8r11) (.cond (t 66) (.seq (.ops f8r12) .ret) .skip))) (.ops f8r13)))
def f8r15 : List SOper := [
 o 4 (.mv (b false))]
def f8 : SCode := (.seq (.ops f8r0) (.seq (.seq (.ops f8r1) (.cond (t 14) (.seq (.ops f8r2) .ret) .skip)) (.seq (.seq (.ops f8r3) (.block 0 (.loop f8l8))) (.seq (.seq (.ops f8r9) (.block 2 (.loop f8l14))) (.seq (.ops f8r15) .ret)))))
theorem f8_calls : Sound Tryz.prog 8 67 f8 [.t 4] := sound_of mixed Tryz.func8 rfl (by kernel_rfl) (by kernel_rfl) (by kernel_rfl)

/-! 9: tabor/taborlaw07.known -/
def f9r0 : List SOper := [
 o 0 (.mv (b false))]
def f9r1 : List SOper := [
 o 6 (.call 30 []),
 o 1 (.mv (t 6))]
def f9r2 : List SOper := [
 o 8 (.mv (t 1)),
 o 9 (.build [(.int .i64 0), (.string ⟨#[]⟩), (.string ⟨#[]⟩), (.string ⟨#[]⟩), (.int .i64 0)] [(0, 1), (1, 1), (3, 1)] [(i 2), (.const (.string ⟨#[97]⟩)), (.const (.string ⟨#[120]⟩))]),
 o 10 (.bslice [(.int .i64 0), (.string ⟨#[]⟩), (.string ⟨#[]⟩), (.string ⟨#[]⟩), (.int .i64 0)] 1 [(0, 5)] [(t 9)]),
 o 11 (.call 12 [(t 8), (t 10)]),
 o 7 (.mv (t 11)),
 o 12 (.ext (t 7) 0),
 o 13 (.ext (t 7) 1),
 o 2 (.mv (t 12)),
 o 3 (.mv (t 13))]
def f9r3 : List SOper := [
 o 15 (.mv (t 1)),
 o 16 (.call 22 [(t 15), (.const (.string ⟨#[97]⟩)), (i 5)]),
 o 14 (.mv (t 16)),
 o 17 (.ext (t 14) 0),
 o 18 (.ext (t 14) 1),
 o 4 (.new [(.int .i64 0), (.string ⟨#[]⟩), (.slice none 0 0), (.slice none 0 0), (.slice none 0 0), (.bool false), (.int .i64 0)]),
 q (.st 7 (t 4) (t 17)),
 o 5 (.mv (t 18))]
def f9r4 : List SOper := [
 o 19 (.mv (t 2)),
 o 20 (.cmp .eql (t 19) (i 1)),
 o 21 (.mv (t 20)),
 g 22 21 (.mv (t 3)),
 g 23 21 (.cmp .eql (t 22) (i 0)),
 o 24 (.pick (t 21) (t 23) (b false)),
 o 25 (.mv (t 24)),
 g 26 25 (.mv (t 5)),
 o 27 (.pick (t 25) (t 26) (b false)),
 o 28 (.mv (t 27)),
 g 29 28 (.fa 0 (t 4)),
 g 30 28 (.ld1 (t 29)),
 g 31 28 (.cmp .eql (t 30) (i 1)),
 o 32 (.pick (t 28) (t 31) (b false)),
 o 33 (.mv (t 32)),
 g 34 33 (.fa 1 (t 4)),
 g 35 33 (.ld1 (t 34)),
 g 36 33 (.cmp .eql (t 35) (.const (.string ⟨#[120]⟩))),
 o 37 (.pick (t 33) (t 36) (b false)),
 o 0 (.mv (t 37))]
def f9 : SCode := (.seq (.ops f9r0) (.seq (.ops f9r1) (.seq (.ops f9r2) (.seq (.ops f9r3) (.seq (.ops f9r4) .ret)))))
theorem f9_calls : Sound Tryz.prog 9 38 f9 [.t 0] := sound_of mixed Tryz.func9 rfl (by kernel_rfl) (by kernel_rfl) (by kernel_rfl)

/-! 10: tabor/keys.Of -/
def f10r0 : List SOper := [
 o 2 (.mv (.const (.pointer none))),
 o 3 (.mv (i 0))]
def f10r1 : List SOper := [
 o 10 (.call 30 []),
 o 4 (.mv (t 10))]
def f10r2 : List SOper := [
 o 11 (.mv (t 0)),
 o 12 (.len (t 11)),
 o 13 (.mv (i 0))]
def f10r3 : List SOper := [
 o 14 (.cmp .lss (t 13) (t 12))]
def f10r4 : List SOper := [
 o 15 (.ixs 8 (t 11) (t 13)),
 o 16 (.ldn 8 (t 15)),
 o 6 (.new [(.string ⟨#[]⟩), (.int .i64 0), (.string ⟨#[]⟩), (.slice none 0 0), (.slice none 0 0), (.slice none 0 0), (.bool false), (.int .i64 0)]),
 q (.st 8 (t 6) (t 16))]
def f10r5 : List SOper := [
 o 18 (.mv (t 4)),
 o 19 (.nilck (t 18)),
 o 20 (.fa 0 (t 19)),
 o 21 (.ld1 (t 20)),
 o 22 (.nilck (t 21)),
 o 23 (.fa 0 (t 22)),
 o 24 (.ld1 (t 23)),
 o 25 (.fa 0 (t 6)),
 o 26 (.ld1 (t 25)),
 o 27 (.look .str (.pointer none) true (t 24) (t 26)),
 o 17 (.mv (t 27)),
 o 28 (.ext (t 17) 0),
 o 29 (.ext (t 17) 1),
 o 7 (.mv (t 28)),
 o 8 (.mv (t 29))]
def f10r6 : List SOper := [
 o 30 (.mv (t 8)),
 o 31 (.mv (t 30)),
 n 32 31 (.fa 0 (t 6)),
 n 33 31 (.ld1 (t 32)),
 n 34 31 (.lens (t 33)),
 n 35 31 (.cmp .gtr (t 34) (i 1048576)),
 o 36 (.pick (t 31) (b true) (t 35)),
 o 37 (.mv (t 36)),
 n 38 37 (.fa 1 (t 6)),
 n 39 37 (.ldn 7 (t 38)),
 n 40 37 (.call 31 [(t 39)]),
 n 41 37 (.un .not (t 40)),
 o 42 (.pick (t 37) (b true) (t 41))]
def f10r7 : List SOper := [
 o 2 (.mv (.const (.pointer none))),
 o 3 (.mv (i 2))]
def f10r8 : List SOper := [
 o 43 (.fa 1 (t 6)),
 o 44 (.ldn 7 (t 43)),
 o 45 (.call 32 [(t 44)]),
 o 9 (.new [(.int .i64 0), (.string ⟨#[]⟩), (.slice none 0 0), (.slice none 0 0), (.slice none 0 0), (.bool false), (.int .i64 0)]),
 q (.st 7 (t 9) (t 45))]
def f10r9 : List SOper := [
 o 46 (.mv (t 4)),
 o 47 (.nilck (t 46)),
 o 48 (.fa 0 (t 47)),
 o 49 (.ld1 (t 48)),
 o 50 (.nilck (t 49)),
 o 51 (.fa 0 (t 50)),
 o 52 (.ld1 (t 51)),
 o 53 (.fa 0 (t 6)),
 o 54 (.ld1 (t 53)),
 q (.mup .str (t 52) (t 54) (t 9))]
def f10r10 : List SOper := [
 o 55 (.ar .add (t 13) (i 1)),
 o 13 (.mv (t 55))]
def f10l11 : SCode := (.seq (.ops f10r3) (.seq (.cond (t 14) .skip (.exit 0)) (.seq (.block 1 (.seq (.ops f10r4) (.seq (.ops f10r5) (.seq (.seq (.ops f10r6) (.cond (t 42) (.seq (.ops f10r7) .ret) .skip)) (.seq (.ops f10r8) (.ops f10r9)))))) (.ops f10r10))))
def f10r12 : List SOper := [
 o 56 (.mv (t 0)),
 o 57 (.len (t 56)),
 o 58 (.cmp .gtr (t 57) (i 65536))]
def f10r13 : List SOper := [
 o 2 (.mv (.const (.pointer none))),
 o 3 (.mv (i 3))]
def f10r14 : List SOper := [
 o 59 (.mv (t 4)),
 o 2 (.mv (t 59)),
 o 3 (.mv (i 0))]
def f10 : SCode := (.seq (.ops f10r0) (.seq (.ops f10r1) (.seq (.seq (.ops f10r2) (.block 0 (.loop f10l11))) (.seq (.seq (.ops f10r12) (.cond (t 58) (.seq (.ops f10r13) .ret) .skip)) (.seq (.ops f10r14) .ret)))))
theorem f10_calls : Sound Tryz.prog 10 60 f10 [.t 2, .t 3] := sound_of mixed Tryz.func10 rfl (by kernel_rfl) (by kernel_rfl) (by kernel_rfl)

/-! 11: tabor/taborref07.Of -/
def f11r0 : List SOper := [
 o 2 (.mv (.const (.slice none 0 0))),
 o 3 (.mv (i 0))]
def f11r1 : List SOper := [
 o 4 (.mv (.const (.slice none 0 0)))]
def f11r2 : List SOper := [
 o 5 (.mv (i 0))]
def f11r3 : List SOper := [
 o 8 (.mv (t 5)),
 o 9 (.mv (t 0)),
 o 10 (.len (t 9)),
 o 11 (.cmp .lss (t 8) (t 10))]
def f11r4 : List SOper := [
 o 15 (.mv (t 4)),
 o 16 (.mv (t 0)),
 o 17 (.mv (t 5)),
 o 18 (.ixs 8 (t 16) (t 17)),
 o 19 (.fa 0 (t 18)),
 o 20 (.ld1 (t 19)),
 o 21 (.call 20 [(t 15), (t 20)]),
 o 14 (.mv (t 21)),
 o 22 (.ext (t 14) 0),
 o 23 (.ext (t 14) 1),
 o 6 (.mv (t 22)),
 o 7 (.mv (t 23))]
def f11r5 : List SOper := [
 o 24 (.mv (t 7)),
 o 25 (.mv (t 24)),
 n 26 25 (.mv (t 0)),
 n 27 25 (.mv (t 5)),
 n 28 25 (.ixs 8 (t 26) (t 27)),
 n 29 25 (.fa 0 (t 28)),
 n 30 25 (.ld1 (t 29)),
 n 31 25 (.lens (t 30)),
 n 32 25 (.cmp .gtr (t 31) (i 1048576)),
 o 33 (.pick (t 25) (b true) (t 32)),
 o 34 (.mv (t 33)),
 n 35 34 (.mv (t 0)),
 n 36 34 (.mv (t 5)),
 n 37 34 (.ixs 8 (t 35) (t 36)),
 n 38 34 (.fa 1 (t 37)),
 n 39 34 (.ldn 7 (t 38)),
 n 40 34 (.call 15 [(t 39)]),
 n 41 34 (.un .not (t 40)),
 o 42 (.pick (t 34) (b true) (t 41))]
def f11r6 : List SOper := [
 o 2 (.mv (.const (.slice none 0 0))),
 o 3 (.mv (i 2))]
def f11r7 : List SOper := [
 o 43 (.mv (t 4)),
 o 44 (.mv (t 0)),
 o 45 (.mv (t 5)),
 o 46 (.ixs 8 (t 44) (t 45)),
 o 47 (.fa 0 (t 46)),
 o 48 (.ld1 (t 47)),
 o 49 (.mv (t 0)),
 o 50 (.mv (t 5)),
 o 51 (.ixs 8 (t 49) (t 50)),
 o 52 (.fa 1 (t 51)),
 o 53 (.ldn 7 (t 52)),
 o 54 (.call 33 [(t 43), (t 48), (t 53)]),
 o 4 (.mv (t 54))]
def f11r8 : List SOper := [
 o 12 (.mv (t 5)),
 o 13 (.ar .add (t 12) (i 1)),
 o 5 (.mv (t 13))]
def f11l9 : SCode := (.seq (.seq (.ops f11r3) (.cond (t 11) .skip (.exit 0))) (.seq (.block 1 (.seq (.ops f11r4) (.seq (.seq (.ops f11r5) (.cond (t 42) (.seq (.ops f11r6) .ret) .skip)) (.ops f11r7)))) (.ops f11r8)))
def f11r10 : List SOper := [
 o 55 (.mv (t 0)),
 o 56 (.len (t 55)),
 o 57 (.cmp .gtr (t 56) (i 65536))]
def f11r11 : List SOper := [
 o 2 (.mv (.const (.slice none 0 0))),
 o 3 (.mv (i 3))]
def f11r12 : List SOper := [
 o 58 (.mv (t 4)),
 o 2 (.mv (t 58)),
 o 3 (.mv (i 0))]
def f11 : SCode := (.seq (.ops f11r0) (.seq (.ops f11r1) (.seq (.seq (.ops f11r2) (.block 0 (.loop f11l9))) (.seq (.seq (.ops f11r10) (.cond (t 57) (.seq (.ops f11r11) .ret) .skip)) (.seq (.ops f11r12) .ret)))))
theorem f11_calls : Sound Tryz.prog 11 59 f11 [.t 2, .t 3] := sound_of mixed Tryz.func11 rfl (by kernel_rfl) (by kernel_rfl) (by kernel_rfl)

/-! 12: (*tabor/keys.Keys).Apply -/
def f12r0 : List SOper := [
 o 4 (.mv (i 0)),
 o 5 (.mv (i 0))]
def f12r1 : List SOper := [
 o 10 (.mv (t 0)),
 o 11 (.call 34 [(t 10)])]
def f12r2 : List SOper := [
 o 4 (.mv (i 0)),
 o 5 (.mv (i 1))]
def f12r3 : List SOper := [
 o 6 (.mv (i 0))]
def f12r4 : List SOper := [
 o 7 (.mv (i 0))]
def f12r5 : List SOper := [
 o 12 (.mv (t 1)),
 o 13 (.len (t 12)),
 o 14 (.mv (i 0))]
def f12r6 : List SOper := [
 o 15 (.cmp .lss (t 14) (t 13))]
def f12r7 : List SOper := [
 o 16 (.ixs 5 (t 12) (t 14)),
 o 17 (.ldn 5 (t 16)),
 o 9 (.new [(.int .i64 0), (.string ⟨#[]⟩), (.string ⟨#[]⟩), (.string ⟨#[]⟩), (.int .i64 0)]),
 q (.st 5 (t 9) (t 17))]
def f12r8 : List SOper := [
 o 18 (.mv (t 0)),
 o 19 (.ldn 5 (t 9)),
 o 20 (.call 35 [(t 18), (t 19)]),
 o 7 (.mv (t 20))]
def f12r9 : List SOper := [
 o 21 (.mv (t 7)),
 o 22 (.cmp .neq (t 21) (i 0))]
def f12r10 : List SOper := [
 o 23 (.mv (t 6)),
 o 24 (.ar .add (t 23) (i 1)),
 o 6 (.mv (t 24))]
def f12r11 : List SOper := [
 o 25 (.ar .add (t 14) (i 1)),
 o 14 (.mv (t 25))]
def f12l12 : SCode := (.seq (.ops f12r6) (.seq (.cond (t 15) .skip (.exit 0)) (.seq (.block 1 (.seq (.ops f12r7) (.seq (.seq (.ops f12r8) (.seq (.ops f12r9) (.cond (t 22) (.exit 0) .skip))) (.ops f12r10)))) (.ops f12r11))))
def f12r13 : List SOper := [
 o 26 (.mv (t 6)),
 o 27 (.mv (t 7)),
 o 4 (.mv (t 26)),
 o 5 (.mv (t 27))]
def f12 : SCode := (.seq (.ops f12r0) (.scope (.seq (.seq (.ops f12r1) (.cond (t 11) (.seq (.ops f12r2) .ret) .skip)) (.seq (.ops f12r3) (.seq (.ops f12r4) (.seq .skip (.seq (.seq (.ops f12r5) (.block 0 (.loop f12l12))) (.seq (.ops f12r13) .ret))))))))
theorem f12_calls : Sound Tryz.prog 12 28 f12 [.t 4, .t 5] := sound_of mixed Tryz.func12 rfl (by kernel_rfl) (by kernel_rfl) (by kernel_rfl)

/-! 13: tabor/taborref07.Apply -/
def f13r0 : List SOper := [
 o 4 (.mv (.const (.slice none 0 0))),
 o 5 (.mv (i 0)),
 o 6 (.mv (i 0))]
def f13r1 : List SOper := [
 o 7 (.mv (i 0))]
def f13r2 : List SOper := [
 o 10 (.mv (t 7)),
 o 11 (.mv (t 1)),
 o 12 (.len (t 11)),
 o 13 (.cmp .lss (t 10) (t 12))]
def f13r3 : List SOper := [
 o 17 (.mv (t 0)),
 o 18 (.mv (t 1)),
 o 19 (.mv (t 7)),
 o 20 (.ixs 5 (t 18) (t 19)),
 o 21 (.ldn 5 (t 20)),
 o 22 (.call 16 [(t 17), (t 21)]),
 o 16 (.mv (t 22)),
 o 23 (.ext (t 16) 0),
 o 24 (.ext (t 16) 1),
 o 8 (.mv (t 23)),
 o 9 (.mv (t 24))]
def f13r4 : List SOper := [
 o 25 (.mv (t 9)),
 o 26 (.cmp .neq (t 25) (i 0))]
def f13r5 : List SOper := [
 o 27 (.mv (t 0)),
 o 28 (.mv (t 7)),
 o 29 (.mv (t 9)),
 o 4 (.mv (t 27)),
 o 5 (.mv (t 28)),
 o 6 (.mv (t 29))]
def f13r6 : List SOper := [
 o 30 (.mv (t 8)),
 o 0 (.mv (t 30))]
def f13r7 : List SOper := [
 o 14 (.mv (t 7)),
 o 15 (.ar .add (t 14) (i 1)),
 o 7 (.mv (t 15))]
def f13l8 : SCode := (.seq (.seq (.ops f13r2) (.cond (t 13) .skip (.exit 0))) (.seq (.block 1 (.seq (.ops f13r3) (.seq (.seq (.ops f13r4) (.cond (t 26) (.seq (.ops f13r5) .ret) .skip)) (.ops f13r6)))) (.ops f13r7)))
def f13r9 : List SOper := [
 o 31 (.mv (t 0)),
 o 32 (.mv (t 1)),
 o 33 (.len (t 32)),
 o 4 (.mv (t 31)),
 o 5 (.mv (t 33)),
 o 6 (.mv (i 0))]
def f13 : SCode := (.seq (.ops f13r0) (.seq (.seq (.ops f13r1) (.block 0 (.loop f13l8))) (.seq (.ops f13r9) .ret)))
theorem f13_calls : Sound Tryz.prog 13 34 f13 [.t 4, .t 5, .t 6] := sound_of mixed Tryz.func13 rfl (by kernel_rfl) (by kernel_rfl) (by kernel_rfl)

/-! 14: tabor/taborlaw07.same -/
def f14r0 : List SOper := [
 o 3 (.box (t 1)),
 o 4 (.new [(.bool false)])]
def f14r1 : List SOper := [
 o 5 (.new [(.int .i64 0)]),
 q (.st 1 (t 5) (i 0))]
def f14r2 : List SOper := [
 o 8 (.mv (t 0)),
 o 9 (.call 17 [(t 8)]),
 o 10 (.eqn 3 false (t 9))]
def f14r3 : List SOper := [
 q (.st 1 (t 4) (b false))]
def f14r4 : List SOper := [
 o 11 (.mv (t 0)),
 o 12 (.call 17 [(t 11)])]
def f14r5 : List SOper := [
 o 6 (.mv (t 13))]
def f14r6 : List SOper := [
 o 7 (.new [(.int .i64 0), (.string ⟨#[]⟩), (.slice none 0 0), (.slice none 0 0), (.slice none 0 0), (.bool false), (.int .i64 0)]),
 q (.st 7 (t 7) (t 14))]
def f14r7 : List SOper := [
 o 15 (.ld1 (t 5)),
 o 16 (.ld1 (t 3)),
 o 17 (.len (t 16)),
 o 18 (.cmp .geq (t 15) (t 17)),
 o 19 (.mv (t 18)),
 n 20 19 (.mv (t 6)),
 n 21 19 (.ld1 (t 3)),
 n 22 19 (.ld1 (t 5)),
 n 23 19 (.ixs 8 (t 21) (t 22)),
 n 24 19 (.fa 0 (t 23)),
 n 25 19 (.ld1 (t 24)),
 n 26 19 (.cmp .neq (t 20) (t 25)),
 o 27 (.pick (t 19) (b true) (t 26)),
 o 28 (.mv (t 27)),
 n 29 28 (.ldn 7 (t 7)),
 n 30 28 (.ld1 (t 3)),
 n 31 28 (.ld1 (t 5)),
 n 32 28 (.ixs 8 (t 30) (t 31)),
 n 33 28 (.fa 1 (t 32)),
 n 34 28 (.ldn 7 (t 33)),
 n 35 28 (.call 21 [(t 29), (t 34)]),
 n 36 28 (.un .not (t 35)),
 o 37 (.pick (t 28) (b true) (t 36))]
def f14r8 : List SOper := [
 q (.st 1 (t 4) (b false))]
def f14r9 : List SOper := [
 o 38 (.ld1 (t 5)),
 o 39 (.ar .add (t 38) (i 1)),
 q (.st 1 (t 5) (t 39))]
def f14a10 : SCode := (.seq (.ops f14r5) (.ops f14r6))
def f14b10 : SCode := (.block 1 (.seq (.seq (.ops f14r7) (.cond (t 37) (.seq (.ops f14r8) .ret) .skip)) (.ops f14r9)))
def f14r11 : List SOper := [
 o 40 (.ld1 (t 5)),
 o 41 (.ld1 (t 3)),
 o 42 (.len (t 41)),
 o 43 (.cmp .eql (t 40) (t 42)),
 q (.st 1 (t 4) (t 43))]
def f14 : SCode := (.seq (.ops f14r0) (.seq (.ops f14r1) (.seq (.seq (.ops f14r2) (.cond (t 10) (.seq (.ops f14r3) .ret) .skip)) (.seq (.seq (.ops f14r4) (.block 0 (.rangeF (t 12) [13, 14] f14a10 f14b10))) (.seq (.ops f14r11) .ret)))))
theorem f14_calls : Sound Tryz.prog 14 44 f14 [.c1 4] := sound_of mixed Tryz.func14 rfl (by kernel_rfl) (by kernel_rfl) (by kernel_rfl)

/-! 15: tabor/taborref07.Check -/
def f15r0 : List SOper := [
 o 1 (.box (t 0)),
 o 2 (.mv (b false))]
def f15r1 : List SOper := [
 o 10 (.fa 2 (t 1)),
 o 11 (.ld1 (t 10)),
 o 12 (.len (t 11)),
 o 13 (.fa 3 (t 1)),
 o 14 (.ld1 (t 13)),
 o 15 (.len (t 14)),
 o 16 (.fa 4 (t 1)),
 o 17 (.ld1 (t 16)),
 o 18 (.len (t 17)),
 o 3 (.mv (t 12)),
 o 4 (.mv (t 15)),
 o 5 (.mv (t 18))]
def f15r2 : List SOper := [
 o 19 (.fa 5 (t 1)),
 o 20 (.ld1 (t 19)),
 o 21 (.un .not (t 20)),
 o 22 (.mv (t 21)),
 g 23 22 (.fa 6 (t 1)),
 g 24 22 (.ld1 (t 23)),
 g 25 22 (.cmp .neq (t 24) (i 0)),
 o 26 (.pick (t 22) (t 25) (b false)),
 o 27 (.mv (t 26)),
 n 28 27 (.mv (t 3)),
 n 29 27 (.cmp .gtr (t 28) (i 65536)),
 o 30 (.pick (t 27) (b true) (t 29)),
 o 31 (.mv (t 30)),
 n 32 31 (.mv (t 4)),
 n 33 31 (.cmp .gtr (t 32) (i 65536)),
 o 34 (.pick (t 31) (b true) (t 33)),
 o 35 (.mv (t 34)),
 n 36 35 (.mv (t 5)),
 n 37 35 (.cmp .gtr (t 36) (i 65536)),
 o 38 (.pick (t 35) (b true) (t 37)),
 o 39 (.mv (t 38)),
 n 40 39 (.fa 1 (t 1)),
 n 41 39 (.ld1 (t 40)),
 n 42 39 (.lens (t 41)),
 n 43 39 (.cmp .gtr (t 42) (i 1048576)),
 o 44 (.pick (t 39) (b true) (t 43)),
 o 45 (.mv (t 44)),
 n 46 45 (.fa 0 (t 1)),
 n 47 45 (.ld1 (t 46)),
 n 48 45 (.cmp .neq (t 47) (i 1)),
 n 49 45 (.mv (t 48)),
 g 50 49 (.fa 1 (t 1)),
 g 51 49 (.ld1 (t 50)),
 g 52 49 (.cmp .neq (t 51) e),
 n 53 45 (.pick (t 49) (t 52) (b false)),
 o 54 (.pick (t 45) (b true) (t 53))]
def f15r3 : List SOper := [
 o 2 (.mv (b false))]
def f15r4 : List SOper := [
 o 6 (.mv (i 0))]
def f15r5 : List SOper := [
 o 55 (.mv (t 6)),
 o 56 (.mv (t 3)),
 o 57 (.cmp .lss (t 55) (t 56))]
def f15r6 : List SOper := [
 o 60 (.fa 2 (t 1)),
 o 61 (.ld1 (t 60)),
 o 62 (.mv (t 6)),
 o 63 (.ixs 2 (t 61) (t 62)),
 o 64 (.fa 0 (t 63)),
 o 65 (.ld1 (t 64)),
 o 66 (.lens (t 65)),
 o 67 (.cmp .gtr (t 66) (i 1048576)),
 o 68 (.mv (t 67)),
 n 69 68 (.fa 2 (t 1)),
 n 70 68 (.ld1 (t 69)),
 n 71 68 (.mv (t 6)),
 n 72 68 (.ixs 2 (t 70) (t 71)),
 n 73 68 (.fa 1 (t 72)),
 n 74 68 (.ld1 (t 73)),
 n 75 68 (.lens (t 74)),
 n 76 68 (.cmp .gtr (t 75) (i 1048576)),
 o 77 (.pick (t 68) (b true) (t 76)),
 o 78 (.mv (t 77)),
 n 79 78 (.mv (t 6)),
 n 80 78 (.cmp .gtr (t 79) (i 0)),
 n 81 78 (.mv (t 80)),
 g 82 81 (.fa 2 (t 1)),
 g 83 81 (.ld1 (t 82)),
 g 84 81 (.mv (t 6)),
 g 85 81 (.ar .sub (t 84) (i 1)),
 g 86 81 (.ixs 2 (t 83) (t 85)),
 g 87 81 (.fa 0 (t 86)),
 g 88 81 (.ld1 (t 87)),
 g 89 81 (.fa 2 (t 1)),
 g 90 81 (.ld1 (t 89)),
 g 91 81 (.mv (t 6)),
 g 92 81 (.ixs 2 (t 90) (t 91)),
 g 93 81 (.fa 0 (t 92)),
 g 94 81 (.ld1 (t 93)),
 g 95 81 (.call 36 [(t 88), (t 94)]),
 g 96 81 (.un .not (t 95)),
 n 97 78 (.pick (t 81) (t 96) (b false)),
 o 98 (.pick (t 78) (b true) (t 97))]
def f15r7 : List SOper := [
 o 2 (.mv (b false))]
def f15r8 : List SOper := [
 o 58 (.mv (t 6)),
 o 59 (.ar .add (t 58) (i 1)),
 o 6 (.mv (t 59))]
def f15l9 : SCode := (.seq (.seq (.ops f15r5) (.cond (t 57) .skip (.exit 0))) (.seq (.block 1 (.seq (.ops f15r6) (.cond (t 98) (.seq (.ops f15r7) .ret) .skip))) (.ops f15r8)))
def f15r10 : List SOper := [
 o 7 (.mv (i 0))]
def f15r11 : List SOper := [
 o 99 (.mv (t 7)),
 o 100 (.mv (t 4)),
 o 101 (.cmp .lss (t 99) (t 100))]
def f15r12 : List SOper := [
 o 104 (.fa 3 (t 1)),
 o 105 (.ld1 (t 104)),
 o 106 (.mv (t 7)),
 o 107 (.ixs 1 (t 105) (t 106)),
 o 108 (.ld1 (t 107)),
 o 109 (.lens (t 108)),
 o 110 (.cmp .gtr (t 109) (i 1048576)),
 o 111 (.mv (t 110)),
 n 112 111 (.fa 0 (t 1)),
 n 113 111 (.ld1 (t 112)),
 n 114 111 (.cmp .eql (t 113) (i 4)),
 n 115 111 (.mv (t 114)),
 g 116 115 (.mv (t 7)),
 g 117 115 (.cmp .gtr (t 116) (i 0)),
 n 118 111 (.pick (t 115) (t 117) (b false)),
 n 119 111 (.mv (t 118)),
 g 120 119 (.fa 3 (t 1)),
 g 121 119 (.ld1 (t 120)),
 g 122 119 (.mv (t 7)),
 g 123 119 (.ar .sub (t 122) (i 1)),
 g 124 119 (.ixs 1 (t 121) (t 123)),
 g 125 119 (.ld1 (t 124)),
 g 126 119 (.fa 3 (t 1)),
 g 127 119 (.ld1 (t 126)),
 g 128 119 (.mv (t 7)),
 g 129 119 (.ixs 1 (t 127) (t 128)),
 g 130 119 (.ld1 (t 129)),
 g 131 119 (.call 36 [(t 125), (t 130)]),
 g 132 119 (.un .not (t 131)),
 n 133 111 (.pick (t 119) (t 132) (b false)),
 o 134 (.pick (t 111) (b true) (t 133))]
def f15r13 : List SOper := [
 o 2 (.mv (b false))]
def f15r14 : List SOper := [
 o 102 (.mv (t 7)),
 o 103 (.ar .add (t 102) (i 1)),
 o 7 (.mv (t 103))]
def f15l15 : SCode := (.seq (.seq (.ops f15r11) (.cond (t 101) .skip (.exit 2))) (.seq (.block 3 (.seq (.ops f15r12) (.cond (t 134) (.seq (.ops f15r13) .ret) .skip))) (.ops f15r14)))
def f15r16 : List SOper := [
 o 8 (.mv (i 0))]
def f15r17 : List SOper := [
 o 135 (.mv (t 8)),
 o 136 (.mv (t 5)),
 o 137 (.cmp .lss (t 135) (t 136))]
def f15r18 : List SOper := [
 o 140 (.fa 4 (t 1)),
 o 141 (.ld1 (t 140)),
 o 142 (.mv (t 8)),
 o 143 (.ixs 2 (t 141) (t 142)),
 o 144 (.fa 0 (t 143)),
 o 145 (.ld1 (t 144)),
 o 146 (.lens (t 145)),
 o 147 (.cmp .gtr (t 146) (i 1048576)),
 o 148 (.mv (t 147)),
 n 149 148 (.mv (t 8)),
 n 150 148 (.cmp .gtr (t 149) (i 0)),
 n 151 148 (.mv (t 150)),
 g 152 151 (.fa 4 (t 1)),
 g 153 151 (.ld1 (t 152)),
 g 154 151 (.mv (t 8)),
 g 155 151 (.ar .sub (t 154) (i 1)),
 g 156 151 (.ixs 2 (t 153) (t 155)),
 g 157 151 (.ldn 2 (t 156)),
 g 158 151 (.fa 4 (t 1)),
 g 159 151 (.ld1 (t 158)),
 g 160 151 (.mv (t 8)),
 g 161 151 (.ixs 2 (t 159) (t 160)),
 g 162 151 (.ldn 2 (t 161)),
 g 163 151 (.call 37 [(t 157), (t 162)]),
 g 164 151 (.un .not (t 163)),
 n 165 148 (.pick (t 151) (t 164) (b false)),
 o 166 (.pick (t 148) (b true) (t 165))]
def f15r19 : List SOper := [
 o 2 (.mv (b false))]
def f15r20 : List SOper := [
 o 9 (.mv (i 0))]
def f15r21 : List SOper := [
 o 167 (.mv (t 9)),
 o 168 (.mv (t 8)),
 o 169 (.cmp .lss (t 167) (t 168))]
def f15r22 : List SOper := [
 o 172 (.fa 4 (t 1)),
 o 173 (.ld1 (t 172)),
 o 174 (.mv (t 9)),
 o 175 (.ixs 2 (t 173) (t 174)),
 o 176 (.fa 0 (t 175)),
 o 177 (.ld1 (t 176)),
 o 178 (.fa 4 (t 1)),
 o 179 (.ld1 (t 178)),
 o 180 (.mv (t 8)),
 o 181 (.ixs 2 (t 179) (t 180)),
 o 182 (.fa 0 (t 181)),
 o 183 (.ld1 (t 182)),
 o 184 (.cmp .eql (t 177) (t 183))]
def f15r23 : List SOper := [
 o 2 (.mv (b false))]
def f15r24 : List SOper := [
 o 170 (.mv (t 9)),
 o 171 (.ar .add (t 170) (i 1)),
 o 9 (.mv (t 171))]
def f15l25 : SCode := (.seq (.seq (.ops f15r21) (.cond (t 169) .skip (.exit 6))) (.seq (.block 7 (.seq (.ops f15r22) (.cond (t 184) (.seq (.ops f15r23) .ret) .skip))) (.ops f15r24)))
def f15r26 : List SOper := [
 o 138 (.mv (t 8)),
 o 139 (.ar .add (t 138) (i 1)),
 o 8 (.mv (t 139))]
def f15l27 : SCode := (.seq (.seq (.ops f15r17) (.cond (t 137) .skip (.exit 4))) (.seq (.block 5 (.seq (.seq (.ops f15r18) (.cond (t 166) (.seq (.ops f15r19) .ret) .skip)) (.seq (.ops f15r20) (.block 6 (.loop f15l25))))) (.ops f15r26)))
def f15r28 : List SOper := [
 o 185 (.fa 0 (t 1)),
 o 186 (.ld1 (t 185))]
def f15r29 : List SOper := [
 o 188 (.cmp .eql (t 186) (i 1)),
 o 187 (.mv (t 188))]
def f15r30 : List SOper := [
 o 189 (.mv (t 3)),
 o 190 (.mv (t 4)),
 o 191 (.ar .add (t 189) (t 190)),
 o 192 (.mv (t 5)),
 o 193 (.ar .add (t 191) (t 192)),
 o 194 (.cmp .eql (t 193) (i 0)),
 o 2 (.mv (t 194))]
def f15r31 : List SOper := [
 o 196 (.cmp .eql (t 186) (i 2)),
 o 195 (.mv (t 196))]
def f15r32 : List SOper := [
 o 197 (.mv (t 3)),
 o 198 (.cmp .gtr (t 197) (i 0)),
 o 199 (.mv (t 198)),
 g 200 199 (.mv (t 4)),
 g 201 199 (.mv (t 5)),
 g 202 199 (.ar .add (t 200) (t 201)),
 g 203 199 (.cmp .eql (t 202) (i 0)),
 o 204 (.pick (t 199) (t 203) (b false)),
 o 2 (.mv (t 204))]
def f15r33 : List SOper := [
 o 206 (.cmp .eql (t 186) (i 3)),
 o 205 (.mv (t 206))]
def f15r34 : List SOper := [
 o 207 (.cmp .eql (t 186) (i 4)),
 o 205 (.mv (t 207))]
def f15r35 : List SOper := [
 o 208 (.mv (t 4)),
 o 209 (.cmp .gtr (t 208) (i 0)),
 o 210 (.mv (t 209)),
 g 211 210 (.mv (t 3)),
 g 212 210 (.mv (t 5)),
 g 213 210 (.ar .add (t 211) (t 212)),
 g 214 210 (.cmp .eql (t 213) (i 0)),
 o 215 (.pick (t 210) (t 214) (b false)),
 o 2 (.mv (t 215))]
def f15r36 : List SOper := [
 o 217 (.cmp .eql (t 186) (i 5)),
 o 216 (.mv (t 217))]
def f15r37 : List SOper := [
 o 218 (.mv (t 5)),
 o 219 (.cmp .gtr (t 218) (i 0)),
 o 220 (.mv (t 219)),
 g 221 220 (.mv (t 3)),
 g 222 220 (.mv (t 4)),
 g 223 220 (.ar .add (t 221) (t 222)),
 g 224 220 (.cmp .eql (t 223) (i 0)),
 o 225 (.pick (t 220) (t 224) (b false)),
 o 2 (.mv (t 225))]
def f15r38 : List SOper := [
 o 2 (.mv (b false))]
def f15 : SCode := (.seq (.ops f15r0) (.seq (.ops f15r1) (.seq (.seq (.ops f15r2) (.cond (t 54) (.seq (.ops f15r3) .ret) .skip)) (.seq (.seq (.ops f15r4) (.block 0 (.loop f15l9))) (.seq (.seq (.ops f15r10) (.block 2 (.loop f15l15))) (.seq (.seq (.ops f15r16) (.block 4 (.loop f15l27))) (.seq (.seq (.ops f15r28) (.block 8 (.seq (.ops f15r29) (.cond (t 187) (.seq (.ops f15r30) .ret) (.seq (.ops f15r31) (.cond (t 195) (.seq (.ops f15r32) .ret) (.seq (.seq (.ops f15r33) (.cond (t 205) .skip (.ops f15r34))) (.cond (t 205) (.seq (.ops f15r35) .ret) (.seq (.ops f15r36) (.cond (t 216) (.seq (.ops f15r37) .ret) .skip)))))))))) (.seq (.ops f15r38) .ret))))))))
theorem f15_calls : Sound Tryz.prog 15 226 f15 [.t 2] := sound_of mixed Tryz.func15 rfl (by kernel_rfl) (by kernel_rfl) (by kernel_rfl)

/-! 16: tabor/taborref07.One -/
def f16r0 : List SOper := [
 o 3 (.box (t 1)),
 o 4 (.mv (.const (.slice none 0 0))),
 o 5 (.mv (i 0))]
def f16r1 : List SOper := [
 o 16 (.fa 0 (t 3)),
 o 17 (.ld1 (t 16)),
 o 6 (.mv (t 17))]
def f16r2 : List SOper := [
 o 19 (.mv (t 6)),
 o 20 (.call 38 [(t 19)]),
 o 18 (.mv (t 20)),
 o 21 (.ext (t 18) 0),
 o 22 (.ext (t 18) 1),
 o 23 (.ext (t 18) 2),
 o 24 (.ext (t 18) 3),
 o 7 (.mv (t 21)),
 o 8 (.mv (t 22)),
 o 9 (.mv (t 23)),
 o 10 (.mv (t 24))]
def f16r3 : List SOper := [
 o 25 (.mv (t 10)),
 o 26 (.un .not (t 25)),
 o 27 (.mv (t 26)),
 n 28 27 (.mv (t 7)),
 n 29 27 (.un .not (t 28)),
 n 30 27 (.mv (t 29)),
 g 31 30 (.fa 2 (t 3)),
 g 32 30 (.ld1 (t 31)),
 g 33 30 (.cmp .neq (t 32) e),
 n 34 27 (.pick (t 30) (t 33) (b false)),
 o 35 (.pick (t 27) (b true) (t 34)),
 o 36 (.mv (t 35)),
 n 37 36 (.mv (t 8)),
 n 38 36 (.un .not (t 37)),
 n 39 36 (.mv (t 38)),
 g 40 39 (.fa 3 (t 3)),
 g 41 39 (.ld1 (t 40)),
 g 42 39 (.cmp .neq (t 41) e),
 n 43 36 (.pick (t 39) (t 42) (b false)),
 o 44 (.pick (t 36) (b true) (t 43)),
 o 45 (.mv (t 44)),
 n 46 45 (.mv (t 9)),
 n 47 45 (.un .not (t 46)),
 n 48 45 (.mv (t 47)),
 g 49 48 (.fa 4 (t 3)),
 g 50 48 (.ld1 (t 49)),
 g 51 48 (.cmp .neq (t 50) (i 0)),
 n 52 45 (.pick (t 48) (t 51) (b false)),
 o 53 (.pick (t 45) (b true) (t 52))]
def f16r4 : List SOper := [
 o 54 (.mv (t 0)),
 o 4 (.mv (t 54)),
 o 5 (.mv (i 2))]
def f16r5 : List SOper := [
 o 55 (.fa 1 (t 3)),
 o 56 (.ld1 (t 55)),
 o 57 (.lens (t 56)),
 o 58 (.cmp .gtr (t 57) (i 1048576)),
 o 59 (.mv (t 58)),
 n 60 59 (.fa 2 (t 3)),
 n 61 59 (.ld1 (t 60)),
 n 62 59 (.lens (t 61)),
 n 63 59 (.cmp .gtr (t 62) (i 1048576)),
 o 64 (.pick (t 59) (b true) (t 63)),
 o 65 (.mv (t 64)),
 n 66 65 (.fa 3 (t 3)),
 n 67 65 (.ld1 (t 66)),
 n 68 65 (.lens (t 67)),
 n 69 65 (.cmp .gtr (t 68) (i 1048576)),
 o 70 (.pick (t 65) (b true) (t 69))]
def f16r6 : List SOper := [
 o 71 (.mv (t 0)),
 o 4 (.mv (t 71)),
 o 5 (.mv (i 3))]
def f16r7 : List SOper := [
 o 73 (.mv (t 0)),
 o 74 (.fa 1 (t 3)),
 o 75 (.ld1 (t 74)),
 o 76 (.call 20 [(t 73), (t 75)]),
 o 72 (.mv (t 76)),
 o 77 (.ext (t 72) 0),
 o 78 (.ext (t 72) 1),
 o 11 (.mv (t 77)),
 o 12 (.mv (t 78))]
def f16r8 : List SOper := [
 o 79 (.mv (t 6)),
 o 80 (.cmp .eql (t 79) (i 2)),
 o 81 (.mv (t 80)),
 n 82 81 (.mv (t 6)),
 n 83 81 (.cmp .eql (t 82) (i 5)),
 o 84 (.pick (t 81) (b true) (t 83)),
 o 85 (.mv (t 84)),
 n 86 85 (.mv (t 6)),
 n 87 85 (.cmp .eql (t 86) (i 7)),
 o 88 (.pick (t 85) (b true) (t 87)),
 o 89 (.mv (t 88)),
 n 90 89 (.mv (t 6)),
 n 91 89 (.cmp .eql (t 90) (i 8)),
 o 92 (.pick (t 89) (b true) (t 91)),
 o 93 (.mv (t 92)),
 n 94 93 (.mv (t 6)),
 n 95 93 (.cmp .eql (t 94) (i 12)),
 o 96 (.pick (t 93) (b true) (t 95)),
 o 97 (.mv (t 96)),
 n 98 97 (.mv (t 6)),
 n 99 97 (.cmp .eql (t 98) (i 14)),
 o 100 (.pick (t 97) (b true) (t 99)),
 o 13 (.mv (t 100))]
def f16r9 : List SOper := [
 o 101 (.mv (t 12)),
 o 102 (.un .not (t 101)),
 o 103 (.mv (t 102)),
 g 104 103 (.mv (t 13)),
 g 105 103 (.un .not (t 104)),
 o 106 (.pick (t 103) (t 105) (b false))]
def f16r10 : List SOper := [
 o 107 (.mv (t 0)),
 o 4 (.mv (t 107)),
 o 5 (.mv (i 5))]
def f16r11 : List SOper := [
 o 108 (.mv (t 6)),
 o 109 (.call 39 [(t 108)]),
 o 110 (.build [(.int .i64 0), (.string ⟨#[]⟩), (.slice none 0 0), (.slice none 0 0), (.slice none 0 0), (.bool false), (.int .i64 0)] [(0, 1)] [(t 109)]),
 o 14 (.new [(.int .i64 0), (.string ⟨#[]⟩), (.slice none 0 0), (.slice none 0 0), (.slice none 0 0), (.bool false), (.int .i64 0)]),
 q (.st 7 (t 14) (t 110))]
def f16r12 : List SOper := [
 o 111 (.mv (t 12))]
def f16r13 : List SOper := [
 o 112 (.mv (t 0)),
 o 113 (.mv (t 11)),
 o 114 (.ixs 8 (t 112) (t 113)),
 o 115 (.fa 1 (t 114)),
 o 116 (.ldn 7 (t 115)),
 q (.st 7 (t 14) (t 116))]
def f16r14 : List SOper := [
 o 117 (.mv (t 6)),
 o 118 (.callq 39 [(t 117)]),
 o 119 (.cmp .neq (t 118) (i 0)),
 o 120 (.mv (t 119)),
 g 121 120 (.fa 0 (t 14)),
 g 122 120 (.ld1 (t 121)),
 g 123 120 (.mv (t 6)),
 g 124 120 (.callq 39 [(t 123)]),
 g 125 120 (.cmp .neq (t 122) (t 124)),
 o 126 (.pick (t 120) (t 125) (b false))]
def f16r15 : List SOper := [
 o 127 (.mv (t 0)),
 o 4 (.mv (t 127)),
 o 5 (.mv (i 170))]
def f16r16 : List SOper := [
 o 129 (.ldn 7 (t 14)),
 o 130 (.ldn 5 (t 3)),
 o 131 (.call 40 [(t 129), (t 130)]),
 o 128 (.mv (t 131)),
 o 132 (.ext (t 128) 0),
 o 133 (.ext (t 128) 1),
 q (.st 7 (t 14) (t 132)),
 o 15 (.mv (t 133))]
def f16r17 : List SOper := [
 o 134 (.mv (t 15)),
 o 135 (.cmp .neq (t 134) (i 0))]
def f16r18 : List SOper := [
 o 136 (.mv (t 0)),
 o 137 (.mv (t 15)),
 o 4 (.mv (t 136)),
 o 5 (.mv (t 137))]
def f16r19 : List SOper := [
 o 138 (.fa 0 (t 14)),
 o 139 (.ld1 (t 138)),
 o 140 (.cmp .neq (t 139) (i 1)),
 o 141 (.mv (t 140)),
 g 142 141 (.ldn 7 (t 14)),
 g 143 141 (.call 41 [(t 142)]),
 g 144 141 (.cmp .eql (t 143) (i 0)),
 o 145 (.pick (t 141) (t 144) (b false))]
def f16r20 : List SOper := [
 o 146 (.mv (t 0)),
 o 147 (.fa 1 (t 3)),
 o 148 (.ld1 (t 147)),
 o 149 (.call 42 [(t 146), (t 148)]),
 o 4 (.mv (t 149)),
 o 5 (.mv (i 0))]
def f16r21 : List SOper := [
 o 150 (.ldn 7 (t 14)),
 o 151 (.call 41 [(t 150)]),
 o 152 (.cmp .gtr (t 151) (i 65536)),
 o 153 (.mv (t 152)),
 n 154 153 (.mv (t 12)),
 n 155 153 (.un .not (t 154)),
 n 156 153 (.mv (t 155)),
 g 157 156 (.mv (t 0)),
 g 158 156 (.len (t 157)),
 g 159 156 (.cmp .geq (t 158) (i 65536)),
 n 160 153 (.pick (t 156) (t 159) (b false)),
 o 161 (.pick (t 153) (b true) (t 160))]
def f16r22 : List SOper := [
 o 162 (.mv (t 0)),
 o 4 (.mv (t 162)),
 o 5 (.mv (i 3))]
def f16r23 : List SOper := [
 o 163 (.mv (t 0)),
 o 164 (.fa 1 (t 3)),
 o 165 (.ld1 (t 164)),
 o 166 (.ldn 7 (t 14)),
 o 167 (.call 33 [(t 163), (t 165), (t 166)]),
 o 4 (.mv (t 167)),
 o 5 (.mv (i 0))]
def f16 : SCode := (.seq (.ops f16r0) (.seq (.ops f16r1) (.seq (.ops f16r2) (.seq (.seq (.ops f16r3) (.cond (t 53) (.seq (.ops f16r4) .ret) .skip)) (.seq (.seq (.ops f16r5) (.cond (t 70) (.seq (.ops f16r6) .ret) .skip)) (.seq (.ops f16r7) (.seq (.ops f16r8) (.seq (.seq (.ops f16r9) (.cond (t 106) (.seq (.ops f16r10) .ret) .skip)) (.seq (.ops f16r11) (.seq (.seq (.ops f16r12) (.cond (t 111) (.ops f16r13) .skip)) (.seq (.seq (.ops f16r14) (.cond (t 126) (.seq (.ops f16r15) .ret) .skip)) (.seq (.ops f16r16) (.seq (.seq (.ops f16r17) (.cond (t 135) (.seq (.ops f16r18) .ret) .skip)) (.seq (.seq (.ops f16r19) (.cond (t 145) (.seq (.ops f16r20) .ret) .skip)) (.seq (.seq (.ops f16r21) (.cond (t 161) (.seq (.ops f16r22) .ret) .skip)) (.seq (.ops f16r23) .ret))))))))))))))))
theorem f16_calls : Sound Tryz.prog 16 168 f16 [.t 4, .t 5] := sound_of mixed Tryz.func16 rfl (by kernel_rfl) (by kernel_rfl) (by kernel_rfl)

/-! 17: (*tabor/keys.Keys).All -/
def f17r0 : List SOper := [
 o 1 (.box (t 0)),
 o 2 (.mv (.const .nilFunc))]
def f17r1 : List SOper := [
 o 3 (.fn 43 [] [(t 1)]),
 o 2 (.mv (t 3))]
def f17 : SCode := (.seq (.ops f17r0) (.seq (.ops f17r1) .ret))
theorem f17_calls : Sound Tryz.prog 17 4 f17 [.t 2] := sound_of mixed Tryz.func17 rfl (by kernel_rfl) (by kernel_rfl) (by kernel_rfl)

/-! 18: tabor/taborlaw07.sorted -/
def f18r0 : List SOper := [
 o 2 (.mv (.const (.slice none 0 0)))]
def f18r1 : List SOper := [
 o 3 (.mv (.const (.slice none 0 0)))]
def f18r2 : List SOper := [
 o 4 (.mv (i 0))]
def f18r3 : List SOper := [
 o 5 (.mv (t 4)),
 o 6 (.mv (t 0)),
 o 7 (.len (t 6)),
 o 8 (.cmp .lss (t 5) (t 7))]
def f18r4 : List SOper := [
 o 11 (.mv (t 3)),
 o 12 (.mv (t 0)),
 o 13 (.mv (t 4)),
 o 14 (.ixs 8 (t 12) (t 13)),
 o 15 (.fa 0 (t 14)),
 o 16 (.ld1 (t 15)),
 o 17 (.mv (t 0)),
 o 18 (.mv (t 4)),
 o 19 (.ixs 8 (t 17) (t 18)),
 o 20 (.fa 1 (t 19)),
 o 21 (.ldn 7 (t 20)),
 o 22 (.call 33 [(t 11), (t 16), (t 21)]),
 o 3 (.mv (t 22))]
def f18r5 : List SOper := [
 o 9 (.mv (t 4)),
 o 10 (.ar .add (t 9) (i 1)),
 o 4 (.mv (t 10))]
def f18l6 : SCode := (.seq (.seq (.ops f18r3) (.cond (t 8) .skip (.exit 0))) (.seq (.block 1 (.ops f18r4)) (.ops f18r5)))
def f18r7 : List SOper := [
 o 23 (.mv (t 3)),
 o 2 (.mv (t 23))]
def f18 : SCode := (.seq (.ops f18r0) (.seq (.ops f18r1) (.seq (.seq (.ops f18r2) (.block 0 (.loop f18l6))) (.seq (.ops f18r7) .ret))))
theorem f18_calls : Sound Tryz.prog 18 24 f18 [.t 2] := sound_of mixed Tryz.func18 rfl (by kernel_rfl) (by kernel_rfl) (by kernel_rfl)

/-! 19: (*tabor/keys.Keys).Look -/
def f19r0 : List SOper := [
 o 4 (.new [(.int .i64 0), (.string ⟨#[]⟩), (.slice none 0 0), (.slice none 0 0), (.slice none 0 0), (.bool false), (.int .i64 0)]),
 o 5 (.mv (b false))]
def f19r1 : List SOper := [
 o 6 (.mv (t 0)),
 o 7 (.call 34 [(t 6)]),
 o 8 (.mv (t 7)),
 n 9 8 (.mv (t 0)),
 n 10 8 (.nilck (t 9)),
 n 11 8 (.fa 0 (t 10)),
 n 12 8 (.ld1 (t 11)),
 n 13 8 (.nilck (t 12)),
 n 14 8 (.fa 0 (t 13)),
 n 15 8 (.ld1 (t 14)),
 n 16 8 (.mv (t 1)),
 n 17 8 (.look .str (.pointer none) false (t 15) (t 16)),
 n 18 8 (.eqn 0 false (t 17)),
 o 19 (.pick (t 8) (b true) (t 18))]
def f19r2 : List SOper := [
 o 20 (.build [(.int .i64 0), (.string ⟨#[]⟩), (.slice none 0 0), (.slice none 0 0), (.slice none 0 0), (.bool false), (.int .i64 0)] [] []),
 q (.st 7 (t 4) (t 20)),
 o 5 (.mv (b false))]
def f19r3 : List SOper := [
 o 21 (.mv (t 0)),
 o 22 (.nilck (t 21)),
 o 23 (.fa 0 (t 22)),
 o 24 (.ld1 (t 23)),
 o 25 (.nilck (t 24)),
 o 26 (.fa 0 (t 25)),
 o 27 (.ld1 (t 26)),
 o 28 (.mv (t 1)),
 o 29 (.look .str (.pointer none) false (t 27) (t 28)),
 o 30 (.nilck (t 29)),
 o 31 (.ldn 7 (t 30)),
 o 32 (.call 32 [(t 31)]),
 q (.st 7 (t 4) (t 32)),
 o 5 (.mv (b true))]
def f19 : SCode := (.seq (.ops f19r0) (.seq (.seq (.ops f19r1) (.cond (t 19) (.seq (.ops f19r2) .ret) .skip)) (.seq (.ops f19r3) .ret)))
theorem f19_calls : Sound Tryz.prog 19 33 f19 [.cn 4 7, .t 5] := sound_of mixed Tryz.func19 rfl (by kernel_rfl) (by kernel_rfl) (by kernel_rfl)

/-! 20: tabor/taborref07.Find -/
def f20r0 : List SOper := [
 o 4 (.mv (i 0)),
 o 5 (.mv (b false))]
def f20r1 : List SOper := [
 o 6 (.mv (i 0))]
def f20r2 : List SOper := [
 o 7 (.mv (t 6)),
 o 8 (.mv (t 0)),
 o 9 (.len (t 8)),
 o 10 (.cmp .lss (t 7) (t 9))]
def f20r3 : List SOper := [
 o 13 (.mv (t 0)),
 o 14 (.mv (t 6)),
 o 15 (.ixs 8 (t 13) (t 14)),
 o 16 (.fa 0 (t 15)),
 o 17 (.ld1 (t 16)),
 o 18 (.mv (t 1)),
 o 19 (.cmp .eql (t 17) (t 18))]
def f20r4 : List SOper := [
 o 20 (.mv (t 6)),
 o 4 (.mv (t 20)),
 o 5 (.mv (b true))]
def f20r5 : List SOper := [
 o 21 (.mv (t 1)),
 o 22 (.mv (t 0)),
 o 23 (.mv (t 6)),
 o 24 (.ixs 8 (t 22) (t 23)),
 o 25 (.fa 0 (t 24)),
 o 26 (.ld1 (t 25)),
 o 27 (.call 36 [(t 21), (t 26)])]
def f20r6 : List SOper := [
 o 28 (.mv (t 6)),
 o 4 (.mv (t 28)),
 o 5 (.mv (b false))]
def f20r7 : List SOper := [
 o 11 (.mv (t 6)),
 o 12 (.ar .add (t 11) (i 1)),
 o 6 (.mv (t 12))]
def f20l8 : SCode := (.seq (.seq (.ops f20r2) (.cond (t 10) .skip (.exit 0))) (.seq (.block 1 (.seq (.seq (.ops f20r3) (.cond (t 19) (.seq (.ops f20r4) .ret) .skip)) (.seq (.ops f20r5) (.cond (t 27) (.seq (.ops f20r6) .ret) .skip)))) (.ops f20r7)))
def f20r9 : List SOper := [
 o 29 (.mv (t 0)),
 o 30 (.len (t 29)),
 o 4 (.mv (t 30)),
 o 5 (.mv (b false))]
def f20 : SCode := (.seq (.ops f20r0) (.seq (.seq (.ops f20r1) (.block 0 (.loop f20l8))) (.seq (.ops f20r9) .ret)))
theorem f20_calls : Sound Tryz.prog 20 31 f20 [.t 4, .t 5] := sound_of mixed Tryz.func20 rfl (by kernel_rfl) (by kernel_rfl) (by kernel_rfl)

/-! 21: tabor/taborref07.SameThing -/
def f21r0 : List SOper := [
 o 2 (.box (t 0)),
 o 3 (.box (t 1)),
 o 4 (.mv (b false))]
def f21r1 : List SOper := [
 o 8 (.fa 0 (t 2)),
 o 9 (.ld1 (t 8)),
 o 10 (.fa 0 (t 3)),
 o 11 (.ld1 (t 10)),
 o 12 (.cmp .neq (t 9) (t 11)),
 o 13 (.mv (t 12)),
 n 14 13 (.fa 1 (t 2)),
 n 15 13 (.ld1 (t 14)),
 n 16 13 (.fa 1 (t 3)),
 n 17 13 (.ld1 (t 16)),
 n 18 13 (.cmp .neq (t 15) (t 17)),
 o 19 (.pick (t 13) (b true) (t 18)),
 o 20 (.mv (t 19)),
 n 21 20 (.fa 5 (t 2)),
 n 22 20 (.ld1 (t 21)),
 n 23 20 (.fa 5 (t 3)),
 n 24 20 (.ld1 (t 23)),
 n 25 20 (.cmpb true (t 22) (t 24)),
 o 26 (.pick (t 20) (b true) (t 25)),
 o 27 (.mv (t 26)),
 n 28 27 (.fa 6 (t 2)),
 n 29 27 (.ld1 (t 28)),
 n 30 27 (.fa 6 (t 3)),
 n 31 27 (.ld1 (t 30)),
 n 32 27 (.cmp .neq (t 29) (t 31)),
 o 33 (.pick (t 27) (b true) (t 32)),
 o 34 (.mv (t 33)),
 n 35 34 (.fa 2 (t 2)),
 n 36 34 (.ld1 (t 35)),
 n 37 34 (.len (t 36)),
 n 38 34 (.fa 2 (t 3)),
 n 39 34 (.ld1 (t 38)),
 n 40 34 (.len (t 39)),
 n 41 34 (.cmp .neq (t 37) (t 40)),
 o 42 (.pick (t 34) (b true) (t 41)),
 o 43 (.mv (t 42)),
 n 44 43 (.fa 3 (t 2)),
 n 45 43 (.ld1 (t 44)),
 n 46 43 (.len (t 45)),
 n 47 43 (.fa 3 (t 3)),
 n 48 43 (.ld1 (t 47)),
 n 49 43 (.len (t 48)),
 n 50 43 (.cmp .neq (t 46) (t 49)),
 o 51 (.pick (t 43) (b true) (t 50)),
 o 52 (.mv (t 51)),
 n 53 52 (.fa 4 (t 2)),
 n 54 52 (.ld1 (t 53)),
 n 55 52 (.len (t 54)),
 n 56 52 (.fa 4 (t 3)),
 n 57 52 (.ld1 (t 56)),
 n 58 52 (.len (t 57)),
 n 59 52 (.cmp .neq (t 55) (t 58)),
 o 60 (.pick (t 52) (b true) (t 59))]
def f21r2 : List SOper := [
 o 4 (.mv (b false))]
def f21r3 : List SOper := [
 o 5 (.mv (i 0))]
def f21r4 : List SOper := [
 o 61 (.mv (t 5)),
 o 62 (.fa 2 (t 2)),
 o 63 (.ld1 (t 62)),
 o 64 (.len (t 63)),
 o 65 (.cmp .lss (t 61) (t 64))]
def f21r5 : List SOper := [
 o 68 (.fa 2 (t 2)),
 o 69 (.ld1 (t 68)),
 o 70 (.mv (t 5)),
 o 71 (.ixs 2 (t 69) (t 70)),
 o 72 (.ldn 2 (t 71)),
 o 73 (.fa 2 (t 3)),
 o 74 (.ld1 (t 73)),
 o 75 (.mv (t 5)),
 o 76 (.ixs 2 (t 74) (t 75)),
 o 77 (.ldn 2 (t 76)),
 o 78 (.eqa true [.str, .str] (t 72) (t 77))]
def f21r6 : List SOper := [
 o 4 (.mv (b false))]
def f21r7 : List SOper := [
 o 66 (.mv (t 5)),
 o 67 (.ar .add (t 66) (i 1)),
 o 5 (.mv (t 67))]
def f21l8 : SCode := (.seq (.seq (.ops f21r4) (.cond (t 65) .skip (.exit 0))) (.seq (.block 1 (.seq (.ops f21r5) (.cond (t 78) (.seq (.ops f21r6) .ret) .skip))) (.ops f21r7)))
def f21r9 : List SOper := [
 o 6 (.mv (i 0))]
def f21r10 : List SOper := [
 o 79 (.mv (t 6)),
 o 80 (.fa 3 (t 2)),
 o 81 (.ld1 (t 80)),
 o 82 (.len (t 81)),
 o 83 (.cmp .lss (t 79) (t 82))]
def f21r11 : List SOper := [
 o 86 (.fa 3 (t 2)),
 o 87 (.ld1 (t 86)),
 o 88 (.mv (t 6)),
 o 89 (.ixs 1 (t 87) (t 88)),
 o 90 (.ld1 (t 89)),
 o 91 (.fa 3 (t 3)),
 o 92 (.ld1 (t 91)),
 o 93 (.mv (t 6)),
 o 94 (.ixs 1 (t 92) (t 93)),
 o 95 (.ld1 (t 94)),
 o 96 (.cmp .neq (t 90) (t 95))]
def f21r12 : List SOper := [
 o 4 (.mv (b false))]
def f21r13 : List SOper := [
 o 84 (.mv (t 6)),
 o 85 (.ar .add (t 84) (i 1)),
 o 6 (.mv (t 85))]
def f21l14 : SCode := (.seq (.seq (.ops f21r10) (.cond (t 83) .skip (.exit 2))) (.seq (.block 3 (.seq (.ops f21r11) (.cond (t 96) (.seq (.ops f21r12) .ret) .skip))) (.ops f21r13)))
def f21r15 : List SOper := [
 o 7 (.mv (i 0))]
def f21r16 : List SOper := [
 o 97 (.mv (t 7)),
 o 98 (.fa 4 (t 2)),
 o 99 (.ld1 (t 98)),
 o 100 (.len (t 99)),
 o 101 (.cmp .lss (t 97) (t 100))]
def f21r17 : List SOper := [
 o 104 (.fa 4 (t 2)),
 o 105 (.ld1 (t 104)),
 o 106 (.mv (t 7)),
 o 107 (.ixs 2 (t 105) (t 106)),
 o 108 (.ldn 2 (t 107)),
 o 109 (.fa 4 (t 3)),
 o 110 (.ld1 (t 109)),
 o 111 (.mv (t 7)),
 o 112 (.ixs 2 (t 110) (t 111)),
 o 113 (.ldn 2 (t 112)),
 o 114 (.eqa true [.str, (.int .i64)] (t 108) (t 113))]
def f21r18 : List SOper := [
 o 4 (.mv (b false))]
def f21r19 : List SOper := [
 o 102 (.mv (t 7)),
 o 103 (.ar .add (t 102) (i 1)),
 o 7 (.mv (t 103))]
def f21l20 : SCode := (.seq (.seq (.ops f21r16) (.cond (t 101) .skip (.exit 4))) (.seq (.block 5 (.seq (.ops f21r17) (.cond (t 114) (.seq (.ops f21r18) .ret) .skip))) (.ops f21r19)))
def f21r21 : List SOper := [
 o 4 (.mv (b true))]
def f21 : SCode := (.seq (.ops f21r0) (.seq (.seq (.ops f21r1) (.cond (t 60) (.seq (.ops f21r2) .ret) .skip)) (.seq (.seq (.ops f21r3) (.block 0 (.loop f21l8))) (.seq (.seq (.ops f21r9) (.block 2 (.loop f21l14))) (.seq (.seq (.ops f21r15) (.block 4 (.loop f21l20))) (.seq (.ops f21r21) .ret))))))
theorem f21_calls : Sound Tryz.prog 21 115 f21 [.t 4] := sound_of mixed Tryz.func21 rfl (by kernel_rfl) (by kernel_rfl) (by kernel_rfl)

/-! 22: (*tabor/keys.Keys).Get -/
def f22r0 : List SOper := [
 o 6 (.new [(.int .i64 0), (.string ⟨#[]⟩), (.slice none 0 0), (.slice none 0 0), (.slice none 0 0), (.bool false), (.int .i64 0)]),
 o 7 (.mv (b false))]
def f22r1 : List SOper := [
 o 11 (.mv (t 0)),
 o 12 (.mv (t 1)),
 o 13 (.call 19 [(t 11), (t 12)]),
 o 10 (.mv (t 13)),
 o 14 (.ext (t 10) 0),
 o 15 (.ext (t 10) 1),
 o 8 (.new [(.int .i64 0), (.string ⟨#[]⟩), (.slice none 0 0), (.slice none 0 0), (.slice none 0 0), (.bool false), (.int .i64 0)]),
 q (.st 7 (t 8) (t 14)),
 o 9 (.mv (t 15))]
def f22r2 : List SOper := [
 o 16 (.mv (t 9)),
 o 17 (.un .not (t 16)),
 o 18 (.mv (t 17)),
 n 19 18 (.ldn 7 (t 8)),
 n 20 18 (.mv (t 2)),
 n 21 18 (.call 46 [(t 19), (t 20)]),
 o 22 (.pick (t 18) (b true) (t 21))]
def f22r3 : List SOper := [
 o 23 (.build [(.int .i64 0), (.string ⟨#[]⟩), (.slice none 0 0), (.slice none 0 0), (.slice none 0 0), (.bool false), (.int .i64 0)] [] []),
 q (.st 7 (t 6) (t 23)),
 o 7 (.mv (b false))]
def f22r4 : List SOper := [
 o 24 (.ldn 7 (t 8)),
 q (.st 7 (t 6) (t 24)),
 o 7 (.mv (b true))]
def f22 : SCode := (.seq (.ops f22r0) (.seq (.ops f22r1) (.seq (.seq (.ops f22r2) (.cond (t 22) (.seq (.ops f22r3) .ret) .skip)) (.seq (.ops f22r4) .ret))))
theorem f22_calls : Sound Tryz.prog 22 25 f22 [.cn 6 7, .t 7] := sound_of mixed Tryz.func22 rfl (by kernel_rfl) (by kernel_rfl) (by kernel_rfl)

/-! 23: tabor/taborref07.Get -/
def f23r0 : List SOper := [
 o 6 (.new [(.int .i64 0), (.string ⟨#[]⟩), (.slice none 0 0), (.slice none 0 0), (.slice none 0 0), (.bool false), (.int .i64 0)]),
 o 7 (.mv (b false))]
def f23r1 : List SOper := [
 o 11 (.mv (t 0)),
 o 12 (.mv (t 1)),
 o 13 (.call 20 [(t 11), (t 12)]),
 o 10 (.mv (t 13)),
 o 14 (.ext (t 10) 0),
 o 15 (.ext (t 10) 1),
 o 8 (.mv (t 14)),
 o 9 (.mv (t 15))]
def f23r2 : List SOper := [
 o 16 (.mv (t 9)),
 o 17 (.un .not (t 16)),
 o 18 (.mv (t 17)),
 n 19 18 (.mv (t 0)),
 n 20 18 (.mv (t 8)),
 n 21 18 (.ixs 8 (t 19) (t 20)),
 n 22 18 (.fa 1 (t 21)),
 n 23 18 (.fa 5 (t 22)),
 n 24 18 (.ld1 (t 23)),
 n 25 18 (.mv (t 24)),
 g 26 25 (.mv (t 0)),
 g 27 25 (.mv (t 8)),
 g 28 25 (.ixs 8 (t 26) (t 27)),
 g 29 25 (.fa 1 (t 28)),
 g 30 25 (.fa 6 (t 29)),
 g 31 25 (.ld1 (t 30)),
 g 32 25 (.mv (t 2)),
 g 33 25 (.cmp .leq (t 31) (t 32)),
 n 34 18 (.pick (t 25) (t 33) (b false)),
 o 35 (.pick (t 18) (b true) (t 34))]
def f23r3 : List SOper := [
 o 36 (.build [(.int .i64 0), (.string ⟨#[]⟩), (.slice none 0 0), (.slice none 0 0), (.slice none 0 0), (.bool false), (.int .i64 0)] [] []),
 q (.st 7 (t 6) (t 36)),
 o 7 (.mv (b false))]
def f23r4 : List SOper := [
 o 37 (.mv (t 0)),
 o 38 (.mv (t 8)),
 o 39 (.ixs 8 (t 37) (t 38)),
 o 40 (.fa 1 (t 39)),
 o 41 (.ldn 7 (t 40)),
 q (.st 7 (t 6) (t 41)),
 o 7 (.mv (b true))]
def f23 : SCode := (.seq (.ops f23r0) (.seq (.ops f23r1) (.seq (.seq (.ops f23r2) (.cond (t 35) (.seq (.ops f23r3) .ret) .skip)) (.seq (.ops f23r4) .ret))))
theorem f23_calls : Sound Tryz.prog 23 42 f23 [.cn 6 7, .t 7] := sound_of mixed Tryz.func23 rfl (by kernel_rfl) (by kernel_rfl) (by kernel_rfl)

/-! 24: tabor/taborref07.Names -/
def f24r0 : List SOper := [
 o 4 (.mv (.const (.slice none 0 0)))]
def f24r1 : List SOper := [
 o 5 (.mv (.const (.slice none 0 0)))]
def f24r2 : List SOper := [
 o 6 (.mv (i 0))]
def f24r3 : List SOper := [
 o 9 (.mv (t 6)),
 o 10 (.mv (t 0)),
 o 11 (.len (t 10)),
 o 12 (.cmp .lss (t 9) (t 11))]
def f24r4 : List SOper := [
 o 16 (.mv (t 0)),
 o 17 (.mv (t 0)),
 o 18 (.mv (t 6)),
 o 19 (.ixs 8 (t 17) (t 18)),
 o 20 (.fa 0 (t 19)),
 o 21 (.ld1 (t 20)),
 o 22 (.mv (t 1)),
 o 23 (.call 23 [(t 16), (t 21), (t 22)]),
 o 15 (.mv (t 23)),
 o 24 (.ext (t 15) 0),
 o 25 (.ext (t 15) 1),
 o 7 (.new [(.int .i64 0), (.string ⟨#[]⟩), (.slice none 0 0), (.slice none 0 0), (.slice none 0 0), (.bool false), (.int .i64 0)]),
 q (.st 7 (t 7) (t 24)),
 o 8 (.mv (t 25))]
def f24r5 : List SOper := [
 o 26 (.mv (t 8))]
def f24r6 : List SOper := [
 o 27 (.mv (t 5)),
 o 28 (.mv (t 0)),
 o 29 (.mv (t 6)),
 o 30 (.ixs 8 (t 28) (t 29)),
 o 31 (.fa 0 (t 30)),
 o 32 (.ld1 (t 31)),
 o 33 (.bslice [(.string ⟨#[]⟩)] 1 [(0, 1)] [(t 32)]),
 o 34 (.app 1 16 [(.string ⟨#[]⟩)] (t 27) (t 33)),
 o 5 (.mv (t 34))]
def f24r7 : List SOper := [
 o 13 (.mv (t 6)),
 o 14 (.ar .add (t 13) (i 1)),
 o 6 (.mv (t 14))]
def f24l8 : SCode := (.seq (.seq (.ops f24r3) (.cond (t 12) .skip (.exit 0))) (.seq (.block 1 (.seq (.ops f24r4) (.seq (.ops f24r5) (.cond (t 26) (.ops f24r6) .skip)))) (.ops f24r7)))
def f24r9 : List SOper := [
 o 35 (.mv (t 5)),
 o 4 (.mv (t 35))]
def f24 : SCode := (.seq (.ops f24r0) (.seq (.ops f24r1) (.seq (.seq (.ops f24r2) (.block 0 (.loop f24l8))) (.seq (.ops f24r9) .ret))))
theorem f24_calls : Sound Tryz.prog 24 36 f24 [.t 4] := sound_of mixed Tryz.func24 rfl (by kernel_rfl) (by kernel_rfl) (by kernel_rfl)

/-! 25: (*tabor/keys.Keys).Names -/
def f25r0 : List SOper := [
 o 3 (.box (t 1)),
 o 4 (.mv (.const (.slice none 0 0)))]
def f25r1 : List SOper := [
 o 5 (.new [(.slice none 0 0)])]
def f25r2 : List SOper := [
 o 8 (.mv (t 0)),
 o 9 (.call 17 [(t 8)])]
def f25r3 : List SOper := [
 o 6 (.mv (t 10))]
def f25r4 : List SOper := [
 o 7 (.new [(.int .i64 0), (.string ⟨#[]⟩), (.slice none 0 0), (.slice none 0 0), (.slice none 0 0), (.bool false), (.int .i64 0)]),
 q (.st 7 (t 7) (t 11))]
def f25r5 : List SOper := [
 o 12 (.ldn 7 (t 7)),
 o 13 (.ld1 (t 3)),
 o 14 (.call 46 [(t 12), (t 13)]),
 o 15 (.un .not (t 14))]
def f25r6 : List SOper := [
 o 16 (.ld1 (t 5)),
 o 17 (.mv (t 6)),
 o 18 (.bslice [(.string ⟨#[]⟩)] 1 [(0, 1)] [(t 17)]),
 o 19 (.app 1 16 [(.string ⟨#[]⟩)] (t 16) (t 18)),
 q (.st 1 (t 5) (t 19))]
def f25a7 : SCode := (.seq (.ops f25r3) (.ops f25r4))
def f25b7 : SCode := (.block 1 (.seq (.ops f25r5) (.cond (t 15) (.ops f25r6) .skip)))
def f25r8 : List SOper := [
 o 20 (.ld1 (t 5)),
 o 4 (.mv (t 20))]
def f25 : SCode := (.seq (.ops f25r0) (.seq (.ops f25r1) (.seq (.seq (.ops f25r2) (.block 0 (.rangeF (t 9) [10, 11] f25a7 f25b7))) (.seq (.ops f25r8) .ret))))
theorem f25_calls : Sound Tryz.prog 25 21 f25 [.t 4] := sound_of mixed Tryz.func25 rfl (by kernel_rfl) (by kernel_rfl) (by kernel_rfl)

/-! 26: (*tabor/keys.Keys).Size -/
def f26r0 : List SOper := [
 o 4 (.mv (i 0))]
def f26r1 : List SOper := [
 o 5 (.mv (t 0)),
 o 6 (.mv (t 1)),
 o 7 (.call 25 [(t 5), (t 6)]),
 o 8 (.len (t 7)),
 o 4 (.mv (t 8))]
def f26 : SCode := (.seq (.ops f26r0) (.seq (.ops f26r1) .ret))
theorem f26_calls : Sound Tryz.prog 26 9 f26 [.t 4] := sound_of mixed Tryz.func26 rfl (by kernel_rfl) (by kernel_rfl) (by kernel_rfl)

/-! 27: (*tabor/keys.Keys).Copy -/
def f27r0 : List SOper := [
 o 2 (.mv (.const (.pointer none)))]
def f27r1 : List SOper := [
 o 6 (.mv (t 0)),
 o 7 (.call 34 [(t 6)])]
def f27r2 : List SOper := [
 o 2 (.mv (.const (.pointer none)))]
def f27r3 : List SOper := [
 o 8 (.call 30 []),
 o 3 (.new [(.pointer none)]),
 q (.st 1 (t 3) (t 8))]
def f27r4 : List SOper := [
 o 9 (.mv (t 0)),
 o 10 (.call 17 [(t 9)])]
def f27r5 : List SOper := [
 o 4 (.mv (t 11))]
def f27r6 : List SOper := [
 o 5 (.new [(.int .i64 0), (.string ⟨#[]⟩), (.slice none 0 0), (.slice none 0 0), (.slice none 0 0), (.bool false), (.int .i64 0)]),
 q (.st 7 (t 5) (t 12))]
def f27r7 : List SOper := [
 o 13 (.ld1 (t 3)),
 o 14 (.nilck (t 13)),
 o 15 (.fa 0 (t 14)),
 o 16 (.ld1 (t 15)),
 o 17 (.nilck (t 16)),
 o 18 (.fa 0 (t 17)),
 o 19 (.ld1 (t 18)),
 o 20 (.mv (t 4)),
 q (.mup .str (t 19) (t 20) (t 5))]
def f27a8 : SCode := (.seq (.ops f27r5) (.ops f27r6))
def f27b8 : SCode := (.block 1 (.ops f27r7))
def f27r9 : List SOper := [
 o 21 (.ld1 (t 3)),
 o 2 (.mv (t 21))]
def f27 : SCode := (.seq (.ops f27r0) (.seq (.seq (.ops f27r1) (.cond (t 7) (.seq (.ops f27r2) .ret) .skip)) (.seq (.ops f27r3) (.seq (.seq (.ops f27r4) (.block 0 (.rangeF (t 10) [11, 12] f27a8 f27b8))) (.seq (.ops f27r9) .ret)))))
theorem f27_calls : Sound Tryz.prog 27 22 f27 [.t 2] := sound_of mixed Tryz.func27 rfl (by kernel_rfl) (by kernel_rfl) (by kernel_rfl)

/-! 28: (*tabor/keys.Keys).Same -/
def f28r0 : List SOper := [
 o 4 (.mv (b false))]
def f28r1 : List SOper := [
 o 5 (.mv (t 0)),
 o 6 (.call 34 [(t 5)]),
 o 7 (.mv (t 6)),
 n 8 7 (.mv (t 1)),
 n 9 7 (.call 34 [(t 8)]),
 o 10 (.pick (t 7) (b true) (t 9))]
def f28r2 : List SOper := [
 o 11 (.mv (t 0)),
 o 12 (.call 34 [(t 11)]),
 o 13 (.mv (t 12)),
 g 14 13 (.mv (t 1)),
 g 15 13 (.call 34 [(t 14)]),
 o 16 (.pick (t 13) (t 15) (b false)),
 o 4 (.mv (t 16))]
def f28r3 : List SOper := [
 o 17 (.mv (t 0)),
 o 18 (.nilck (t 17)),
 o 19 (.fa 0 (t 18)),
 o 20 (.ld1 (t 19)),
 o 21 (.nilck (t 20)),
 o 22 (.fa 0 (t 21)),
 o 23 (.ld1 (t 22)),
 o 24 (.mv (t 1)),
 o 25 (.nilck (t 24)),
 o 26 (.fa 0 (t 25)),
 o 27 (.ld1 (t 26)),
 o 28 (.nilck (t 27)),
 o 29 (.fa 0 (t 28)),
 o 30 (.ld1 (t 29)),
 o 31 (.call 47 [(t 23), (t 30), (u 48)]),
 o 4 (.mv (t 31))]
def f28 : SCode := (.seq (.ops f28r0) (.seq (.seq (.ops f28r1) (.cond (t 10) (.seq (.ops f28r2) .ret) .skip)) (.seq (.ops f28r3) .ret)))
theorem f28_calls : Sound Tryz.prog 28 32 f28 [.t 4] := sound_of mixed Tryz.func28 rfl (by kernel_rfl) (by kernel_rfl) (by kernel_rfl)

/-! 29: tabor/taborlaw07.large -/
def f29r0 : List SOper := [
 o 1 (.box (t 0)),
 o 2 (.mv (b false))]
def f29r1 : List SOper := [
 o 7 (.fa 1 (t 1)),
 o 8 (.ld1 (t 7)),
 o 9 (.lens (t 8)),
 o 3 (.mv (t 9))]
def f29r2 : List SOper := [
 o 10 (.fa 2 (t 1)),
 o 11 (.ld1 (t 10)),
 o 12 (.len (t 11)),
 o 13 (.cmp .gtr (t 12) (i 40)),
 o 14 (.mv (t 13)),
 n 15 14 (.fa 3 (t 1)),
 n 16 14 (.ld1 (t 15)),
 n 17 14 (.len (t 16)),
 n 18 14 (.cmp .gtr (t 17) (i 40)),
 o 19 (.pick (t 14) (b true) (t 18)),
 o 20 (.mv (t 19)),
 n 21 20 (.fa 4 (t 1)),
 n 22 20 (.ld1 (t 21)),
 n 23 20 (.len (t 22)),
 n 24 20 (.cmp .gtr (t 23) (i 40)),
 o 25 (.pick (t 20) (b true) (t 24)),
 o 26 (.mv (t 25)),
 n 27 26 (.mv (t 3)),
 n 28 26 (.cmp .gtr (t 27) (i 2000)),
 o 29 (.pick (t 26) (b true) (t 28))]
def f29r3 : List SOper := [
 o 2 (.mv (b true))]
def f29r4 : List SOper := [
 o 4 (.mv (i 0))]
def f29r5 : List SOper := [
 o 30 (.mv (t 4)),
 o 31 (.fa 2 (t 1)),
 o 32 (.ld1 (t 31)),
 o 33 (.len (t 32)),
 o 34 (.cmp .lss (t 30) (t 33))]
def f29r6 : List SOper := [
 o 37 (.mv (t 3)),
 o 38 (.fa 2 (t 1)),
 o 39 (.ld1 (t 38)),
 o 40 (.mv (t 4)),
 o 41 (.ixs 2 (t 39) (t 40)),
 o 42 (.fa 0 (t 41)),
 o 43 (.ld1 (t 42)),
 o 44 (.lens (t 43)),
 o 45 (.ar .add (t 37) (t 44)),
 o 46 (.fa 2 (t 1)),
 o 47 (.ld1 (t 46)),
 o 48 (.mv (t 4)),
 o 49 (.ixs 2 (t 47) (t 48)),
 o 50 (.fa 1 (t 49)),
 o 51 (.ld1 (t 50)),
 o 52 (.lens (t 51)),
 o 53 (.ar .add (t 45) (t 52)),
 o 3 (.mv (t 53))]
def f29r7 : List SOper := [
 o 54 (.mv (t 3)),
 o 55 (.cmp .gtr (t 54) (i 2000))]
def f29r8 : List SOper := [
 o 2 (.mv (b true))]
def f29r9 : List SOper := [
 o 35 (.mv (t 4)),
 o 36 (.ar .add (t 35) (i 1)),
 o 4 (.mv (t 36))]
def f29l10 : SCode := (.seq (.seq (.ops f29r5) (.cond (t 34) .skip (.exit 0))) (.seq (.block 1 (.seq (.ops f29r6) (.seq (.ops f29r7) (.cond (t 55) (.seq (.ops f29r8) .ret) .skip)))) (.ops f29r9)))
def f29r11 : List SOper := [
 o 5 (.mv (i 0))]
def f29r12 : List SOper := [
 o 56 (.mv (t 5)),
 o 57 (.fa 3 (t 1)),
 o 58 (.ld1 (t 57)),
 o 59 (.len (t 58)),
 o 60 (.cmp .lss (t 56) (t 59))]
def f29r13 : List SOper := [
 o 63 (.mv (t 3)),
 o 64 (.fa 3 (t 1)),
 o 65 (.ld1 (t 64)),
 o 66 (.mv (t 5)),
 o 67 (.ixs 1 (t 65) (t 66)),
 o 68 (.ld1 (t 67)),
 o 69 (.lens (t 68)),
 o 70 (.ar .add (t 63) (t 69)),
 o 3 (.mv (t 70))]
def f29r14 : List SOper := [
 o 71 (.mv (t 3)),
 o 72 (.cmp .gtr (t 71) (i 2000))]
def f29r15 : List SOper := [
 o 2 (.mv (b true))]
def f29r16 : List SOper := [
 o 61 (.mv (t 5)),
 o 62 (.ar .add (t 61) (i 1)),
 o 5 (.mv (t 62))]
def f29l17 : SCode := (.seq (.seq (.ops f29r12) (.cond (t 60) .skip (.exit 2))) (.seq (.block 3 (.seq (.ops f29r13) (.seq (.ops f29r14) (.cond (t 72) (.seq (.ops f29r15) .ret) .skip)))) (.ops f29r16)))
def f29r18 : List SOper := [
 o 6 (.mv (i 0))]
def f29r19 : List SOper := [
 o 73 (.mv (t 6)),
 o 74 (.fa 4 (t 1)),
 o 75 (.ld1 (t 74)),
 o 76 (.len (t 75)),
 o 77 (.cmp .lss (t 73) (t 76))]
def f29r20 : List SOper := [
 o 80 (.mv (t 3)),
 o 81 (.fa 4 (t 1)),
 o 82 (.ld1 (t 81)),
 o 83 (.mv (t 6)),
 o 84 (.ixs 2 (t 82) (t 83)),
 o 85 (.fa 0 (t 84)),
 o 86 (.ld1 (t 85)),
 o 87 (.lens (t 86)),
 o 88 (.ar .add (t 80) (t 87)),
 o 3 (.mv (t 88))]
def f29r21 : List SOper := [
 o 89 (.mv (t 3)),
 o 90 (.cmp .gtr (t 89) (i 2000))]
def f29r22 : List SOper := [
 o 2 (.mv (b true))]
def f29r23 : List SOper := [
 o 78 (.mv (t 6)),
 o 79 (.ar .add (t 78) (i 1)),
 o 6 (.mv (t 79))]
def f29l24 : SCode := (.seq (.seq (.ops f29r19) (.cond (t 77) .skip (.exit 4))) (.seq (.block 5 (.seq (.ops f29r20) (.seq (.ops f29r21) (.cond (t 90) (.seq (.ops f29r22) .ret) .skip)))) (.ops f29r23)))
def f29r25 : List SOper := [
 o 2 (.mv (b false))]
def f29 : SCode := (.seq (.ops f29r0) (.seq (.ops f29r1) (.seq (.seq (.ops f29r2) (.cond (t 29) (.seq (.ops f29r3) .ret) .skip)) (.seq (.seq (.ops f29r4) (.block 0 (.loop f29l10))) (.seq (.seq (.ops f29r11) (.block 2 (.loop f29l17))) (.seq (.seq (.ops f29r18) (.block 4 (.loop f29l24))) (.seq (.ops f29r25) .ret)))))))
theorem f29_calls : Sound Tryz.prog 29 91 f29 [.t 2] := sound_of mixed Tryz.func29 rfl (by kernel_rfl) (by kernel_rfl) (by kernel_rfl)

/-! 30: tabor/keys.New -/
def f30r0 : List SOper := [
 o 0 (.mv (.const (.pointer none)))]
def f30r1 : List SOper := [
 o 1 (.mkm),
 o 2 (.build [(.map none)] [(0, 1)] [(t 1)]),
 o 3 (.box (t 2)),
 o 4 (.build [(.pointer none)] [(0, 1)] [(t 3)]),
 o 5 (.box (t 4)),
 o 0 (.mv (t 5))]
def f30 : SCode := (.seq (.ops f30r0) (.seq (.ops f30r1) .ret))
theorem f30_calls : Sound Tryz.prog 30 6 f30 [.t 0] := sound_of mixed Tryz.func30 rfl (by kernel_rfl) (by kernel_rfl) (by kernel_rfl)

/-! 31: tabor/keys.Check -/
def f31r0 : List SOper := [
 o 1 (.box (t 0)),
 o 2 (.mv (b false))]
def f31r1 : List SOper := [
 o 6 (.fa 5 (t 1)),
 o 7 (.ld1 (t 6)),
 o 8 (.un .not (t 7)),
 o 9 (.mv (t 8)),
 g 10 9 (.fa 6 (t 1)),
 g 11 9 (.ld1 (t 10)),
 g 12 9 (.cmp .neq (t 11) (i 0)),
 o 13 (.pick (t 9) (t 12) (b false)),
 o 14 (.mv (t 13)),
 n 15 14 (.ldn 7 (t 1)),
 n 16 14 (.call 50 [(t 15)]),
 n 17 14 (.cmp .gtr (t 16) (i 65536)),
 o 18 (.pick (t 14) (b true) (t 17)),
 o 19 (.mv (t 18)),
 n 20 19 (.fa 1 (t 1)),
 n 21 19 (.ld1 (t 20)),
 n 22 19 (.bslice [(.string ⟨#[]⟩)] 1 [(0, 1)] [(t 21)]),
 n 23 19 (.call 51 [(t 22)]),
 n 24 19 (.un .not (t 23)),
 o 25 (.pick (t 19) (b true) (t 24)),
 o 26 (.mv (t 25)),
 n 27 26 (.fa 3 (t 1)),
 n 28 26 (.ld1 (t 27)),
 n 29 26 (.call 51 [(t 28)]),
 n 30 26 (.un .not (t 29)),
 o 31 (.pick (t 26) (b true) (t 30)),
 o 32 (.mv (t 31)),
 n 33 32 (.ldn 7 (t 1)),
 n 34 32 (.call 52 [(t 33)]),
 n 35 32 (.call 51 [(t 34)]),
 n 36 32 (.un .not (t 35)),
 o 37 (.pick (t 32) (b true) (t 36))]
def f31r2 : List SOper := [
 o 2 (.mv (b false))]
def f31r3 : List SOper := [
 o 38 (.fa 2 (t 1)),
 o 39 (.ld1 (t 38)),
 o 40 (.len (t 39)),
 o 41 (.fa 3 (t 1)),
 o 42 (.ld1 (t 41)),
 o 43 (.len (t 42)),
 o 44 (.fa 4 (t 1)),
 o 45 (.ld1 (t 44)),
 o 46 (.len (t 45)),
 o 3 (.mv (t 40)),
 o 4 (.mv (t 43)),
 o 5 (.mv (t 46))]
def f31r4 : List SOper := [
 o 47 (.fa 0 (t 1)),
 o 48 (.ld1 (t 47))]
def f31r5 : List SOper := [
 o 50 (.cmp .eql (t 48) (i 1)),
 o 49 (.mv (t 50))]
def f31r6 : List SOper := [
 o 51 (.mv (t 3)),
 o 52 (.mv (t 4)),
 o 53 (.ar .add (t 51) (t 52)),
 o 54 (.mv (t 5)),
 o 55 (.ar .add (t 53) (t 54)),
 o 56 (.cmp .eql (t 55) (i 0)),
 o 2 (.mv (t 56))]
def f31r7 : List SOper := [
 o 58 (.cmp .eql (t 48) (i 2)),
 o 57 (.mv (t 58))]
def f31r8 : List SOper := [
 o 59 (.mv (t 3)),
 o 60 (.cmp .gtr (t 59) (i 0)),
 o 61 (.mv (t 60)),
 g 62 61 (.mv (t 4)),
 g 63 61 (.mv (t 5)),
 g 64 61 (.ar .add (t 62) (t 63)),
 g 65 61 (.cmp .eql (t 64) (i 0)),
 o 66 (.pick (t 61) (t 65) (b false)),
 o 67 (.mv (t 66)),
 g 68 67 (.fa 1 (t 1)),
 g 69 67 (.ld1 (t 68)),
 g 70 67 (.cmp .eql (t 69) e),
 o 71 (.pick (t 67) (t 70) (b false)),
 o 72 (.mv (t 71)),
 g 73 72 (.fa 2 (t 1)),
 g 74 72 (.ld1 (t 73)),
 g 75 72 (.call 53 [(t 74), (u 54)]),
 o 76 (.pick (t 72) (t 75) (b false)),
 o 2 (.mv (t 76))]
def f31r9 : List SOper := [
 o 78 (.cmp .eql (t 48) (i 3)),
 o 77 (.mv (t 78))]
def f31r10 : List SOper := [
 o 79 (.mv (t 4)),
 o 80 (.cmp .gtr (t 79) (i 0)),
 o 81 (.mv (t 80)),
 g 82 81 (.mv (t 3)),
 g 83 81 (.mv (t 5)),
 g 84 81 (.ar .add (t 82) (t 83)),
 g 85 81 (.cmp .eql (t 84) (i 0)),
 o 86 (.pick (t 81) (t 85) (b false)),
 o 87 (.mv (t 86)),
 g 88 87 (.fa 1 (t 1)),
 g 89 87 (.ld1 (t 88)),
 g 90 87 (.cmp .eql (t 89) e),
 o 91 (.pick (t 87) (t 90) (b false)),
 o 2 (.mv (t 91))]
def f31r11 : List SOper := [
 o 93 (.cmp .eql (t 48) (i 4)),
 o 92 (.mv (t 93))]
def f31r12 : List SOper := [
 o 94 (.mv (t 4)),
 o 95 (.cmp .gtr (t 94) (i 0)),
 o 96 (.mv (t 95)),
 g 97 96 (.mv (t 3)),
 g 98 96 (.mv (t 5)),
 g 99 96 (.ar .add (t 97) (t 98)),
 g 100 96 (.cmp .eql (t 99) (i 0)),
 o 101 (.pick (t 96) (t 100) (b false)),
 o 102 (.mv (t 101)),
 g 103 102 (.fa 1 (t 1)),
 g 104 102 (.ld1 (t 103)),
 g 105 102 (.cmp .eql (t 104) e),
 o 106 (.pick (t 102) (t 105) (b false)),
 o 107 (.mv (t 106)),
 g 108 107 (.fa 3 (t 1)),
 g 109 107 (.ld1 (t 108)),
 g 110 107 (.call 56 [(t 109), (u 55)]),
 o 111 (.pick (t 107) (t 110) (b false)),
 o 2 (.mv (t 111))]
def f31r13 : List SOper := [
 o 113 (.cmp .eql (t 48) (i 5)),
 o 112 (.mv (t 113))]
def f31r14 : List SOper := [
 o 114 (.mv (t 5)),
 o 115 (.cmp .gtr (t 114) (i 0)),
 o 116 (.mv (t 115)),
 g 117 116 (.mv (t 3)),
 g 118 116 (.mv (t 4)),
 g 119 116 (.ar .add (t 117) (t 118)),
 g 120 116 (.cmp .eql (t 119) (i 0)),
 o 121 (.pick (t 116) (t 120) (b false)),
 o 122 (.mv (t 121)),
 g 123 122 (.fa 1 (t 1)),
 g 124 122 (.ld1 (t 123)),
 g 125 122 (.cmp .eql (t 124) e),
 o 126 (.pick (t 122) (t 125) (b false)),
 o 127 (.mv (t 126)),
 g 128 127 (.fa 4 (t 1)),
 g 129 127 (.ld1 (t 128)),
 g 130 127 (.call 57 [(t 129), (u 58)]),
 o 131 (.pick (t 127) (t 130) (b false)),
 o 132 (.mv (t 131)),
 g 133 132 (.fa 4 (t 1)),
 g 134 132 (.ld1 (t 133)),
 g 135 132 (.call 59 [(t 134)]),
 o 136 (.pick (t 132) (t 135) (b false)),
 o 2 (.mv (t 136))]
def f31r15 : List SOper := [
 o 2 (.mv (b false))]
def f31 : SCode := (.seq (.ops f31r0) (.seq (.seq (.ops f31r1) (.cond (t 37) (.seq (.ops f31r2) .ret) .skip)) (.seq (.ops f31r3) (.seq (.seq (.ops f31r4) (.block 0 (.seq (.ops f31r5) (.cond (t 49) (.seq (.ops f31r6) .ret) (.seq (.ops f31r7) (.cond (t 57) (.seq (.ops f31r8) .ret) (.seq (.ops f31r9) (.cond (t 77) (.seq (.ops f31r10) .ret) (.seq (.ops f31r11) (.cond (t 92) (.seq (.ops f31r12) .ret) (.seq (.ops f31r13) (.cond (t 112) (.seq (.ops f31r14) .ret) .skip)))))))))))) (.seq (.ops f31r15) .ret)))))
theorem f31_calls : Sound Tryz.prog 31 137 f31 [.t 2] := sound_of mixed Tryz.func31 rfl (by kernel_rfl) (by kernel_rfl) (by kernel_rfl)

/-! 32: tabor/keys.copied -/
def f32r0 : List SOper := [
 o 1 (.box (t 0)),
 o 2 (.new [(.int .i64 0), (.string ⟨#[]⟩), (.slice none 0 0), (.slice none 0 0), (.slice none 0 0), (.bool false), (.int .i64 0)])]
def f32r1 : List SOper := [
 o 3 (.fa 2 (t 1)),
 o 4 (.ld1 (t 3)),
 o 6 (.fa 3 (t 1)),
 o 7 (.ld1 (t 6)),
 o 9 (.fa 4 (t 1)),
 o 10 (.ld1 (t 9)),
 o 5 (.callq 60 [(t 4)]),
 o 12 (.fa 2 (t 1)),
 o 8 (.callq 61 [(t 7)]),
 o 11 (.callq 62 [(t 10)]),
 q (.st 1 (t 12) (t 5)),
 o 13 (.fa 3 (t 1)),
 q (.st 1 (t 13) (t 8)),
 o 14 (.fa 4 (t 1)),
 q (.st 1 (t 14) (t 11))]
def f32r2 : List SOper := [
 o 15 (.ldn 7 (t 1)),
 q (.st 7 (t 2) (t 15))]
def f32 : SCode := (.seq (.ops f32r0) (.seq (.ops f32r1) (.seq (.ops f32r2) .ret)))
theorem f32_calls : Sound Tryz.prog 32 16 f32 [.cn 2 7] := sound_of mixed Tryz.func32 rfl (by kernel_rfl) (by kernel_rfl) (by kernel_rfl)

/-! 33: tabor/taborref07.Put -/
def f33r0 : List SOper := [
 o 5 (.box (t 2)),
 o 6 (.mv (.const (.slice none 0 0)))]
def f33r1 : List SOper := [
 o 11 (.mv (t 0)),
 o 12 (.mv (t 1)),
 o 13 (.call 20 [(t 11), (t 12)]),
 o 10 (.mv (t 13)),
 o 14 (.ext (t 10) 0),
 o 15 (.ext (t 10) 1),
 o 7 (.mv (t 14)),
 o 8 (.mv (t 15))]
def f33r2 : List SOper := [
 o 16 (.mv (t 0)),
 o 17 (.mv (t 7)),
 o 18 (.slc 8 (t 16) none (some (t 17))),
 o 19 (.appn 8 128 [(.string ⟨#[]⟩), (.int .i64 0), (.string ⟨#[]⟩), (.slice none 0 0), (.slice none 0 0), (.slice none 0 0), (.bool false), (.int .i64 0)] (t 18)),
 o 9 (.mv (t 19))]
def f33r3 : List SOper := [
 o 20 (.mv (t 9)),
 o 21 (.mv (t 1)),
 o 22 (.ldn 7 (t 5)),
 o 23 (.build [(.string ⟨#[]⟩), (.int .i64 0), (.string ⟨#[]⟩), (.slice none 0 0), (.slice none 0 0), (.slice none 0 0), (.bool false), (.int .i64 0)] [(0, 1), (1, 7)] [(t 21), (t 22)]),
 o 24 (.bslice [(.string ⟨#[]⟩), (.int .i64 0), (.string ⟨#[]⟩), (.slice none 0 0), (.slice none 0 0), (.slice none 0 0), (.bool false), (.int .i64 0)] 1 [(0, 8)] [(t 23)]),
 o 25 (.app 8 128 [(.string ⟨#[]⟩), (.int .i64 0), (.string ⟨#[]⟩), (.slice none 0 0), (.slice none 0 0), (.slice none 0 0), (.bool false), (.int .i64 0)] (t 20) (t 24)),
 o 9 (.mv (t 25))]
def f33r4 : List SOper := [
 o 26 (.mv (t 8))]
def f33r5 : List SOper := [
 o 27 (.mv (t 7)),
 o 28 (.ar .add (t 27) (i 1)),
 o 7 (.mv (t 28))]
def f33r6 : List SOper := [
 o 29 (.mv (t 9)),
 o 30 (.mv (t 0)),
 o 31 (.mv (t 7)),
 o 32 (.slc 8 (t 30) (some (t 31)) none),
 o 33 (.app 8 128 [(.string ⟨#[]⟩), (.int .i64 0), (.string ⟨#[]⟩), (.slice none 0 0), (.slice none 0 0), (.slice none 0 0), (.bool false), (.int .i64 0)] (t 29) (t 32)),
 o 6 (.mv (t 33))]
def f33 : SCode := (.seq (.ops f33r0) (.seq (.ops f33r1) (.seq (.ops f33r2) (.seq (.ops f33r3) (.seq (.seq (.ops f33r4) (.cond (t 26) (.ops f33r5) .skip)) (.seq (.ops f33r6) .ret))))))
theorem f33_calls : Sound Tryz.prog 33 34 f33 [.t 6] := sound_of mixed Tryz.func33 rfl (by kernel_rfl) (by kernel_rfl) (by kernel_rfl)

/-! 34: (*tabor/keys.Keys).none -/
def f34r0 : List SOper := [
 o 2 (.mv (b false))]
def f34r1 : List SOper := [
 o 3 (.mv (t 0)),
 o 4 (.eqn 0 false (t 3)),
 o 5 (.mv (t 4)),
 n 6 5 (.mv (t 0)),
 n 7 5 (.nilck (t 6)),
 n 8 5 (.fa 0 (t 7)),
 n 9 5 (.ld1 (t 8)),
 n 10 5 (.eqn 0 false (t 9)),
 o 11 (.pick (t 5) (b true) (t 10)),
 o 2 (.mv (t 11))]
def f34 : SCode := (.seq (.ops f34r0) (.seq (.ops f34r1) .ret))
theorem f34_calls : Sound Tryz.prog 34 12 f34 [.t 2] := sound_of mixed Tryz.func34 rfl (by kernel_rfl) (by kernel_rfl) (by kernel_rfl)

/-! 35: (*tabor/keys.Keys).one -/
def f35r0 : List SOper := [
 o 3 (.box (t 1)),
 o 4 (.mv (i 0))]
def f35p1 : List SOper := [
 o 12 (.fa 0 (t 3)),
 o 13 (.ld1 (t 12))]
def f35r1 : List SOper := [
 o 11 (.callq 63 []),
 o 14 (.look (.int .i64) (.agg #[(.bool false), (.bool false), (.bool false), (.int .i64 0), (.bool false), .nilFunc]) true (t 11) (t 13)),
 o 10 (.mv (t 14)),
 o 15 (.ext (t 10) 0),
 o 16 (.ext (t 10) 1),
 o 5 (.new [(.bool false), (.bool false), (.bool false), (.int .i64 0), (.bool false), .nilFunc]),
 q (.st 6 (t 5) (t 15)),
 o 6 (.mv (t 16))]
def f35s1 : List SOper := [
 o 5 (.new [(.bool false), (.bool false), (.bool false), (.int .i64 0), (.bool false), .nilFunc]),
 o 11 (.callq 63 []),
 o 14 (.look (.int .i64) (.agg #[(.bool false), (.bool false), (.bool false), (.int .i64 0), (.bool false), .nilFunc]) true (t 11) (t 13)),
 o 10 (.mv (t 14)),
 o 15 (.ext (t 10) 0),
 o 16 (.ext (t 10) 1),
 q (.st 6 (t 5) (t 15)),
 o 6 (.mv (t 16))]
def f35r2 : List SOper := [
 o 17 (.mv (t 6)),
 o 18 (.un .not (t 17)),
 o 19 (.mv (t 18)),
 n 20 19 (.fa 0 (t 5)),
 n 21 19 (.ld1 (t 20)),
 n 22 19 (.un .not (t 21)),
 n 23 19 (.mv (t 22)),
 g 24 23 (.fa 2 (t 3)),
 g 25 23 (.ld1 (t 24)),
 g 26 23 (.cmp .neq (t 25) e),
 n 27 19 (.pick (t 23) (t 26) (b false)),
 o 28 (.pick (t 19) (b true) (t 27)),
 o 29 (.mv (t 28)),
 n 30 29 (.fa 1 (t 5)),
 n 31 29 (.ld1 (t 30)),
 n 32 29 (.un .not (t 31)),
 n 33 29 (.mv (t 32)),
 g 34 33 (.fa 3 (t 3)),
 g 35 33 (.ld1 (t 34)),
 g 36 33 (.cmp .neq (t 35) e),
 n 37 29 (.pick (t 33) (t 36) (b false)),
 o 38 (.pick (t 29) (b true) (t 37)),
 o 39 (.mv (t 38)),
 n 40 39 (.fa 2 (t 5)),
 n 41 39 (.ld1 (t 40)),
 n 42 39 (.un .not (t 41)),
 n 43 39 (.mv (t 42)),
 g 44 43 (.fa 4 (t 3)),
 g 45 43 (.ld1 (t 44)),
 g 46 43 (.cmp .neq (t 45) (i 0)),
 n 47 39 (.pick (t 43) (t 46) (b false)),
 o 48 (.pick (t 39) (b true) (t 47))]
def f35r3 : List SOper := [
 o 4 (.mv (i 2))]
def f35r4 : List SOper := [
 o 49 (.fa 1 (t 3)),
 o 50 (.ld1 (t 49)),
 o 51 (.fa 2 (t 3)),
 o 52 (.ld1 (t 51)),
 o 53 (.fa 3 (t 3)),
 o 54 (.ld1 (t 53)),
 o 55 (.bslice [(.string ⟨#[]⟩), (.string ⟨#[]⟩), (.string ⟨#[]⟩)] 3 [(0, 1), (1, 1), (2, 1)] [(t 50), (t 52), (t 54)]),
 o 56 (.call 51 [(t 55)]),
 o 57 (.un .not (t 56))]
def f35r5 : List SOper := [
 o 4 (.mv (i 3))]
def f35r6 : List SOper := [
 o 59 (.mv (t 0)),
 o 60 (.fa 1 (t 3)),
 o 61 (.ld1 (t 60)),
 o 62 (.call 19 [(t 59), (t 61)]),
 o 58 (.mv (t 62)),
 o 63 (.ext (t 58) 0),
 o 64 (.ext (t 58) 1),
 o 7 (.new [(.int .i64 0), (.string ⟨#[]⟩), (.slice none 0 0), (.slice none 0 0), (.slice none 0 0), (.bool false), (.int .i64 0)]),
 q (.st 7 (t 7) (t 63)),
 o 8 (.mv (t 64))]
def f35r7 : List SOper := [
 o 66 (.mv (t 8)),
 o 67 (.un .not (t 66)),
 o 68 (.mv (t 67)),
 g 69 68 (.fa 4 (t 5)),
 g 70 68 (.ld1 (t 69)),
 g 71 68 (.un .not (t 70)),
 o 72 (.pick (t 68) (t 71) (b false)),
 o 65 (.mv (t 72))]
def f35r8 : List SOper := [
 o 4 (.mv (i 5))]
def f35r9 : List SOper := [
 o 74 (.mv (t 8)),
 o 75 (.un .not (t 74)),
 o 73 (.mv (t 75))]
def f35r10 : List SOper := [
 o 76 (.fa 3 (t 5)),
 o 77 (.ld1 (t 76)),
 o 78 (.fa 0 (t 7)),
 q (.st 1 (t 78) (t 77))]
def f35r11 : List SOper := [
 o 80 (.fa 3 (t 5)),
 o 81 (.ld1 (t 80)),
 o 82 (.cmp .neq (t 81) (i 0)),
 o 83 (.mv (t 82)),
 g 84 83 (.fa 0 (t 7)),
 g 85 83 (.ld1 (t 84)),
 g 86 83 (.fa 3 (t 5)),
 g 87 83 (.ld1 (t 86)),
 g 88 83 (.cmp .neq (t 85) (t 87)),
 o 89 (.pick (t 83) (t 88) (b false)),
 o 79 (.mv (t 89))]
def f35r12 : List SOper := [
 o 4 (.mv (i 170))]
def f35r13 : List SOper := [
 o 90 (.fa 5 (t 5)),
 o 91 (.ld1 (t 90)),
 o 92 (.ldn 5 (t 3)),
 o 93 (.callv (t 91) [(t 7), (t 92)]),
 o 9 (.mv (t 93))]
def f35r14 : List SOper := [
 o 94 (.mv (t 9)),
 o 95 (.cmp .neq (t 94) (i 0))]
def f35r15 : List SOper := [
 o 96 (.mv (t 9)),
 o 4 (.mv (t 96))]
def f35r16 : List SOper := [
 o 107 (.fa 0 (t 7)),
 o 108 (.ld1 (t 107)),
 o 109 (.cmp .neq (t 108) (i 1)),
 o 110 (.mv (t 109)),
 g 111 110 (.ldn 7 (t 7)),
 g 112 110 (.call 50 [(t 111)]),
 g 113 110 (.cmp .eql (t 112) (i 0)),
 o 114 (.pick (t 110) (t 113) (b false)),
 o 106 (.mv (t 114))]
def f35r17 : List SOper := [
 o 115 (.mv (t 0)),
 o 116 (.nilck (t 115)),
 o 117 (.fa 0 (t 116)),
 o 118 (.ld1 (t 117)),
 o 119 (.nilck (t 118)),
 o 120 (.fa 0 (t 119)),
 o 121 (.ld1 (t 120)),
 o 122 (.fa 1 (t 3)),
 o 123 (.ld1 (t 122)),
 q (.mdel .str (t 121) (t 123))]
def f35r18 : List SOper := [
 o 125 (.ldn 7 (t 7)),
 o 126 (.call 50 [(t 125)]),
 o 127 (.cmp .gtr (t 126) (i 65536)),
 o 128 (.mv (t 127)),
 n 129 128 (.mv (t 8)),
 n 130 128 (.un .not (t 129)),
 n 131 128 (.mv (t 130)),
 g 132 131 (.mv (t 0)),
 g 133 131 (.nilck (t 132)),
 g 134 131 (.fa 0 (t 133)),
 g 135 131 (.ld1 (t 134)),
 g 136 131 (.nilck (t 135)),
 g 137 131 (.fa 0 (t 136)),
 g 138 131 (.ld1 (t 137)),
 g 139 131 (.lenm (t 138)),
 g 140 131 (.cmp .geq (t 139) (i 65536)),
 n 141 128 (.pick (t 131) (t 140) (b false)),
 o 142 (.pick (t 128) (b true) (t 141)),
 o 124 (.mv (t 142))]
def f35r19 : List SOper := [
 o 4 (.mv (i 3))]
def f35r20 : List SOper := [
 o 97 (.mv (t 0)),
 o 98 (.nilck (t 97)),
 o 99 (.fa 0 (t 98)),
 o 100 (.ld1 (t 99)),
 o 101 (.nilck (t 100)),
 o 102 (.fa 0 (t 101)),
 o 103 (.ld1 (t 102)),
 o 104 (.fa 1 (t 3)),
 o 105 (.ld1 (t 104)),
 q (.mup .str (t 103) (t 105) (t 7))]
def f35r21 : List SOper := [
 o 4 (.mv (i 0))]
def f35 : SCode := (.seq (.ops f35r0) (.seq (.two f35p1 f35r1 f35s1) (.seq (.seq (.ops f35r2) (.cond (t 48) (.seq (.ops f35r3) .ret) .skip)) (.seq (.seq (.ops f35r4) (.cond (t 57) (.seq (.ops f35r5) .ret) .skip)) (.seq (.ops f35r6) (.seq (.block 0 (.seq (.ops f35r7) (.cond (t 65) (.seq (.ops f35r8) .ret) (.seq (.ops f35r9) (.cond (t 73) (.ops f35r10) (.seq (.ops f35r11) (.cond (t 79) (.seq (.ops f35r12) .ret) .skip))))))) (.seq (.seq (.ops f35r13) (.seq (.ops f35r14) (.cond (t 95) (.seq (.ops f35r15) .ret) .skip))) (.seq (.block 1 (.seq (.ops f35r16) (.cond (t 106) (.ops f35r17) (.seq (.ops f35r18) (.cond (t 124) (.seq (.ops f35r19) .ret) (.ops f35r20)))))) (.seq (.ops f35r21) .ret)))))))))
theorem f35_calls : Sound Tryz.prog 35 143 f35 [.t 4] := sound_of mixed Tryz.func35 rfl (by kernel_rfl) (by kernel_rfl) (by kernel_rfl)

/-! 36: tabor/taborref07.Less -/
def f36r0 : List SOper := [
 o 4 (.mv (b false))]
def f36r1 : List SOper := [
 o 5 (.mv (i 0))]
def f36r2 : List SOper := [
 o 6 (.mv (t 5)),
 o 7 (.mv (t 0)),
 o 8 (.lens (t 7)),
 o 9 (.cmp .lss (t 6) (t 8)),
 o 10 (.mv (t 9)),
 g 11 10 (.mv (t 5)),
 g 12 10 (.mv (t 1)),
 g 13 10 (.lens (t 12)),
 g 14 10 (.cmp .lss (t 11) (t 13)),
 o 15 (.pick (t 10) (t 14) (b false))]
def f36r3 : List SOper := [
 o 18 (.mv (t 0)),
 o 19 (.mv (t 5)),
 o 20 (.ixc (t 18) (t 19)),
 o 21 (.mv (t 1)),
 o 22 (.mv (t 5)),
 o 23 (.ixc (t 21) (t 22)),
 o 24 (.cmp .neq (t 20) (t 23))]
def f36r4 : List SOper := [
 o 25 (.mv (t 0)),
 o 26 (.mv (t 5)),
 o 27 (.ixc (t 25) (t 26)),
 o 28 (.mv (t 1)),
 o 29 (.mv (t 5)),
 o 30 (.ixc (t 28) (t 29)),
 o 31 (.cmp .lss (t 27) (t 30)),
 o 4 (.mv (t 31))]
def f36r5 : List SOper := [
 o 16 (.mv (t 5)),
 o 17 (.ar .add (t 16) (i 1)),
 o 5 (.mv (t 17))]
def f36l6 : SCode := (.seq (.seq (.ops f36r2) (.cond (t 15) .skip (.exit 0))) (.seq (.block 1 (.seq (.ops f36r3) (.cond (t 24) (.seq (.ops f36r4) .ret) .skip))) (.ops f36r5)))
def f36r7 : List SOper := [
 o 32 (.mv (t 0)),
 o 33 (.lens (t 32)),
 o 34 (.mv (t 1)),
 o 35 (.lens (t 34)),
 o 36 (.cmp .lss (t 33) (t 35)),
 o 4 (.mv (t 36))]
def f36 : SCode := (.seq (.ops f36r0) (.seq (.seq (.ops f36r1) (.block 0 (.loop f36l6))) (.seq (.ops f36r7) .ret)))
theorem f36_calls : Sound Tryz.prog 36 37 f36 [.t 4] := sound_of mixed Tryz.func36 rfl (by kernel_rfl) (by kernel_rfl) (by kernel_rfl)

/-! 37: tabor/taborref07.Ahead -/
def f37r0 : List SOper := [
 o 2 (.box (t 0)),
 o 3 (.box (t 1)),
 o 4 (.mv (b false))]
def f37r1 : List SOper := [
 o 5 (.fa 1 (t 2)),
 o 6 (.ld1 (t 5)),
 o 7 (.fa 1 (t 3)),
 o 8 (.ld1 (t 7)),
 o 9 (.cmp .lss (t 6) (t 8)),
 o 10 (.mv (t 9)),
 n 11 10 (.fa 1 (t 2)),
 n 12 10 (.ld1 (t 11)),
 n 13 10 (.fa 1 (t 3)),
 n 14 10 (.ld1 (t 13)),
 n 15 10 (.cmp .eql (t 12) (t 14)),
 n 16 10 (.mv (t 15)),
 g 17 16 (.fa 0 (t 2)),
 g 18 16 (.ld1 (t 17)),
 g 19 16 (.fa 0 (t 3)),
 g 20 16 (.ld1 (t 19)),
 g 21 16 (.call 36 [(t 18), (t 20)]),
 n 22 10 (.pick (t 16) (t 21) (b false)),
 o 23 (.pick (t 10) (b true) (t 22)),
 o 4 (.mv (t 23))]
def f37 : SCode := (.seq (.ops f37r0) (.seq (.ops f37r1) .ret))
theorem f37_calls : Sound Tryz.prog 37 24 f37 [.t 4] := sound_of mixed Tryz.func37 rfl (by kernel_rfl) (by kernel_rfl) (by kernel_rfl)

/-! 38: tabor/taborref07.uses -/
def f38r0 : List SOper := [
 o 2 (.mv (b false)),
 o 3 (.mv (b false)),
 o 4 (.mv (b false)),
 o 5 (.mv (b false))]
def f38r1 : List SOper := [
 o 6 (.mv (t 0))]
def f38r2 : List SOper := [
 o 8 (.cmp .eql (t 6) (i 1)),
 o 7 (.mv (t 8))]
def f38r3 : List SOper := [
 o 9 (.cmp .eql (t 6) (i 4)),
 o 7 (.mv (t 9))]
def f38r4 : List SOper := [
 o 10 (.cmp .eql (t 6) (i 9)),
 o 7 (.mv (t 10))]
def f38r5 : List SOper := [
 o 11 (.cmp .eql (t 6) (i 10)),
 o 7 (.mv (t 11))]
def f38r6 : List SOper := [
 o 2 (.mv (b false)),
 o 3 (.mv (b false)),
 o 4 (.mv (b false)),
 o 5 (.mv (b true))]
def f38r7 : List SOper := [
 o 13 (.cmp .eql (t 6) (i 2)),
 o 12 (.mv (t 13))]
def f38r8 : List SOper := [
 o 14 (.cmp .eql (t 6) (i 7)),
 o 12 (.mv (t 14))]
def f38r9 : List SOper := [
 o 15 (.cmp .eql (t 6) (i 8)),
 o 12 (.mv (t 15))]
def f38r10 : List SOper := [
 o 2 (.mv (b false)),
 o 3 (.mv (b true)),
 o 4 (.mv (b false)),
 o 5 (.mv (b true))]
def f38r11 : List SOper := [
 o 17 (.cmp .eql (t 6) (i 3)),
 o 16 (.mv (t 17))]
def f38r12 : List SOper := [
 o 2 (.mv (b false)),
 o 3 (.mv (b false)),
 o 4 (.mv (b true)),
 o 5 (.mv (b true))]
def f38r13 : List SOper := [
 o 19 (.cmp .eql (t 6) (i 5)),
 o 18 (.mv (t 19))]
def f38r14 : List SOper := [
 o 2 (.mv (b true)),
 o 3 (.mv (b true)),
 o 4 (.mv (b false)),
 o 5 (.mv (b true))]
def f38r15 : List SOper := [
 o 21 (.cmp .eql (t 6) (i 6)),
 o 20 (.mv (t 21))]
def f38r16 : List SOper := [
 o 22 (.cmp .eql (t 6) (i 12)),
 o 20 (.mv (t 22))]
def f38r17 : List SOper := [
 o 23 (.cmp .eql (t 6) (i 13)),
 o 20 (.mv (t 23))]
def f38r18 : List SOper := [
 o 24 (.cmp .eql (t 6) (i 15)),
 o 20 (.mv (t 24))]
def f38r19 : List SOper := [
 o 2 (.mv (b true)),
 o 3 (.mv (b false)),
 o 4 (.mv (b false)),
 o 5 (.mv (b true))]
def f38r20 : List SOper := [
 o 26 (.cmp .eql (t 6) (i 11)),
 o 25 (.mv (t 26))]
def f38r21 : List SOper := [
 o 2 (.mv (b false)),
 o 3 (.mv (b true)),
 o 4 (.mv (b true)),
 o 5 (.mv (b true))]
def f38r22 : List SOper := [
 o 28 (.cmp .eql (t 6) (i 14)),
 o 27 (.mv (t 28))]
def f38r23 : List SOper := [
 o 2 (.mv (b true)),
 o 3 (.mv (b false)),
 o 4 (.mv (b true)),
 o 5 (.mv (b true))]
def f38r24 : List SOper := [
 o 2 (.mv (b false)),
 o 3 (.mv (b false)),
 o 4 (.mv (b false)),
 o 5 (.mv (b false))]
def f38 : SCode := (.seq (.ops f38r0) (.seq (.seq (.ops f38r1) (.block 0 (.seq (.seq (.ops f38r2) (.cond (t 7) .skip (.seq (.ops f38r3) (.cond (t 7) .skip (.seq (.ops f38r4) (.cond (t 7) .skip (.ops f38r5))))))) (.cond (t 7) (.seq (.ops f38r6) .ret) (.seq (.seq (.ops f38r7) (.cond (t 12) .skip (.seq (.ops f38r8) (.cond (t 12) .skip (.ops f38r9))))) (.cond (t 12) (.seq (.ops f38r10) .ret) (.seq (.ops f38r11) (.cond (t 16) (.seq (.ops f38r12) .ret) (.seq (.ops f38r13) (.cond (t 18) (.seq (.ops f38r14) .ret) (.seq (.seq (.ops f38r15) (.cond (t 20) .skip (.seq (.ops f38r16) (.cond (t 20) .skip (.seq (.ops f38r17) (.cond (t 20) .skip (.ops f38r18))))))) (.cond (t 20) (.seq (.ops f38r19) .ret) (.seq (.ops f38r20) (.cond (t 25) (.seq (.ops f38r21) .ret) (.seq (.ops f38r22) (.cond (t 27) (.seq (.ops f38r23) .ret) .skip)))))))))))))))) (.seq (.ops f38r24) .ret)))
theorem f38_calls : Sound Tryz.prog 38 29 f38 [.t 2, .t 3, .t 4, .t 5] := sound_of mixed Tryz.func38 rfl (by kernel_rfl) (by kernel_rfl) (by kernel_rfl)

/-! 39: tabor/taborref07.kind -/
def f39r0 : List SOper := [
 o 2 (.mv (i 0))]
def f39r1 : List SOper := [
 o 3 (.mv (t 0))]
def f39r2 : List SOper := [
 o 5 (.cmp .eql (t 3) (i 5)),
 o 4 (.mv (t 5))]
def f39r3 : List SOper := [
 o 6 (.cmp .eql (t 3) (i 6)),
 o 4 (.mv (t 6))]
def f39r4 : List SOper := [
 o 2 (.mv (i 2))]
def f39r5 : List SOper := [
 o 8 (.cmp .eql (t 3) (i 7)),
 o 7 (.mv (t 8))]
def f39r6 : List SOper := [
 o 9 (.cmp .eql (t 3) (i 8)),
 o 7 (.mv (t 9))]
def f39r7 : List SOper := [
 o 10 (.cmp .eql (t 3) (i 9)),
 o 7 (.mv (t 10))]
def f39r8 : List SOper := [
 o 11 (.cmp .eql (t 3) (i 10)),
 o 7 (.mv (t 11))]
def f39r9 : List SOper := [
 o 12 (.cmp .eql (t 3) (i 11)),
 o 7 (.mv (t 12))]
def f39r10 : List SOper := [
 o 2 (.mv (i 3))]
def f39r11 : List SOper := [
 o 14 (.cmp .eql (t 3) (i 12)),
 o 13 (.mv (t 14))]
def f39r12 : List SOper := [
 o 15 (.cmp .eql (t 3) (i 13)),
 o 13 (.mv (t 15))]
def f39r13 : List SOper := [
 o 2 (.mv (i 4))]
def f39r14 : List SOper := [
 o 17 (.cmp .eql (t 3) (i 14)),
 o 16 (.mv (t 17))]
def f39r15 : List SOper := [
 o 18 (.cmp .eql (t 3) (i 15)),
 o 16 (.mv (t 18))]
def f39r16 : List SOper := [
 o 2 (.mv (i 5))]
def f39r17 : List SOper := [
 o 2 (.mv (i 0))]
def f39 : SCode := (.seq (.ops f39r0) (.seq (.seq (.ops f39r1) (.block 0 (.seq (.seq (.ops f39r2) (.cond (t 4) .skip (.ops f39r3))) (.cond (t 4) (.seq (.ops f39r4) .ret) (.seq (.seq (.ops f39r5) (.cond (t 7) .skip (.seq (.ops f39r6) (.cond (t 7) .skip (.seq (.ops f39r7) (.cond (t 7) .skip (.seq (.ops f39r8) (.cond (t 7) .skip (.ops f39r9))))))))) (.cond (t 7) (.seq (.ops f39r10) .ret) (.seq (.seq (.ops f39r11) (.cond (t 13) .skip (.ops f39r12))) (.cond (t 13) (.seq (.ops f39r13) .ret) (.seq (.seq (.ops f39r14) (.cond (t 16) .skip (.ops f39r15))) (.cond (t 16) (.seq (.ops f39r16) .ret) .skip)))))))))) (.seq (.ops f39r17) .ret)))
theorem f39_calls : Sound Tryz.prog 39 19 f39 [.t 2] := sound_of mixed Tryz.func39 rfl (by kernel_rfl) (by kernel_rfl) (by kernel_rfl)

/-! 40: tabor/taborref07.done -/
def f40r0 : List SOper := [
 o 2 (.box (t 0)),
 o 3 (.box (t 1)),
 o 4 (.new [(.int .i64 0), (.string ⟨#[]⟩), (.slice none 0 0), (.slice none 0 0), (.slice none 0 0), (.bool false), (.int .i64 0)]),
 o 5 (.mv (i 0))]
def f40r1 : List SOper := [
 o 6 (.mv (b true))]
def f40r2 : List SOper := [
 o 7 (.fa 0 (t 3)),
 o 8 (.ld1 (t 7))]
def f40r3 : List SOper := [
 o 10 (.cmp .eql (t 8) (i 1)),
 o 9 (.mv (t 10))]
def f40r4 : List SOper := [
 o 11 (.build [(.int .i64 0), (.string ⟨#[]⟩), (.slice none 0 0), (.slice none 0 0), (.slice none 0 0), (.bool false), (.int .i64 0)] [] []),
 q (.st 7 (t 4) (t 11)),
 o 5 (.mv (i 0))]
def f40r5 : List SOper := [
 o 13 (.cmp .eql (t 8) (i 2)),
 o 12 (.mv (t 13))]
def f40r6 : List SOper := [
 o 14 (.fa 3 (t 3)),
 o 15 (.ld1 (t 14)),
 o 16 (.build [(.int .i64 0), (.string ⟨#[]⟩), (.slice none 0 0), (.slice none 0 0), (.slice none 0 0), (.bool false), (.int .i64 0)] [(0, 1), (1, 1)] [(i 1), (t 15)]),
 q (.st 7 (t 4) (t 16)),
 o 5 (.mv (i 0))]
def f40r7 : List SOper := [
 o 18 (.cmp .eql (t 8) (i 3)),
 o 17 (.mv (t 18))]
def f40p8 : List SOper := [
 o 19 (.fa 4 (t 3)),
 o 21 (.fa 5 (t 2))]
def f40r8 : List SOper := [
 o 20 (.ld1 (t 19)),
 q (.st 1 (t 21) (b true)),
 o 22 (.fa 6 (t 2)),
 q (.st 1 (t 22) (t 20))]
def f40s8 : List SOper := [
 q (.st 1 (t 21) (b true)),
 o 20 (.ld1 (t 19)),
 o 22 (.fa 6 (t 2)),
 q (.st 1 (t 22) (t 20))]
def f40r9 : List SOper := [
 o 24 (.cmp .eql (t 8) (i 4)),
 o 23 (.mv (t 24))]
def f40r10 : List SOper := [
 o 25 (.fa 5 (t 2)),
 q (.st 1 (t 25) (b false)),
 o 26 (.fa 6 (t 2)),
 q (.st 1 (t 26) (i 0))]
def f40r11 : List SOper := [
 o 28 (.cmp .eql (t 8) (i 5)),
 o 27 (.mv (t 28))]
def f40r12 : List SOper := [
 o 30 (.fa 2 (t 2)),
 o 31 (.ld1 (t 30)),
 o 32 (.fa 2 (t 3)),
 o 33 (.ld1 (t 32)),
 o 34 (.fa 3 (t 3)),
 o 35 (.ld1 (t 34)),
 o 36 (.call 64 [(t 31), (t 33), (t 35), (b true)]),
 o 29 (.mv (t 36)),
 o 37 (.ext (t 29) 0),
 o 38 (.ext (t 29) 1),
 o 39 (.fa 2 (t 2)),
 q (.st 1 (t 39) (t 37))]
def f40r13 : List SOper := [
 o 41 (.cmp .eql (t 8) (i 6)),
 o 40 (.mv (t 41))]
def f40r14 : List SOper := [
 o 43 (.fa 2 (t 2)),
 o 44 (.ld1 (t 43)),
 o 45 (.fa 2 (t 3)),
 o 46 (.ld1 (t 45)),
 o 47 (.call 64 [(t 44), (t 46), e, (b false)]),
 o 42 (.mv (t 47)),
 o 48 (.ext (t 42) 0),
 o 49 (.ext (t 42) 1),
 o 50 (.fa 2 (t 2)),
 q (.st 1 (t 50) (t 48)),
 o 6 (.mv (t 49))]
def f40r15 : List SOper := [
 o 52 (.cmp .eql (t 8) (i 7)),
 o 51 (.mv (t 52))]
def f40r16 : List SOper := [
 o 53 (.fa 3 (t 3)),
 o 54 (.ld1 (t 53)),
 o 55 (.bslice [(.string ⟨#[]⟩)] 1 [(0, 1)] [(t 54)]),
 o 56 (.fa 3 (t 2)),
 o 57 (.ld1 (t 56)),
 o 58 (.app 1 16 [(.string ⟨#[]⟩)] (t 55) (t 57)),
 o 59 (.fa 3 (t 2)),
 q (.st 1 (t 59) (t 58))]
def f40r17 : List SOper := [
 o 61 (.cmp .eql (t 8) (i 8)),
 o 60 (.mv (t 61))]
def f40p18 : List SOper := [
 o 62 (.fa 3 (t 2)),
 o 63 (.ld1 (t 62)),
 o 65 (.fa 3 (t 3)),
 o 66 (.ld1 (t 65))]
def f40r18 : List SOper := [
 o 64 (.appn 1 16 [(.string ⟨#[]⟩)] (t 63)),
 o 67 (.bslice [(.string ⟨#[]⟩)] 1 [(0, 1)] [(t 66)]),
 o 68 (.app 1 16 [(.string ⟨#[]⟩)] (t 64) (t 67)),
 o 69 (.fa 3 (t 2)),
 q (.st 1 (t 69) (t 68))]
def f40s18 : List SOper := [
 o 67 (.bslice [(.string ⟨#[]⟩)] 1 [(0, 1)] [(t 66)]),
 o 64 (.appn 1 16 [(.string ⟨#[]⟩)] (t 63)),
 o 68 (.app 1 16 [(.string ⟨#[]⟩)] (t 64) (t 67)),
 o 69 (.fa 3 (t 2)),
 q (.st 1 (t 69) (t 68))]
def f40r19 : List SOper := [
 o 71 (.cmp .eql (t 8) (i 9)),
 o 70 (.mv (t 71))]
def f40r20 : List SOper := [
 o 72 (.fa 3 (t 2)),
 o 73 (.ld1 (t 72)),
 o 74 (.slc 1 (t 73) (some (i 1)) none),
 o 75 (.appn 1 16 [(.string ⟨#[]⟩)] (t 74)),
 o 76 (.fa 3 (t 2)),
 q (.st 1 (t 76) (t 75))]
def f40r21 : List SOper := [
 o 78 (.cmp .eql (t 8) (i 10)),
 o 77 (.mv (t 78))]
def f40r22 : List SOper := [
 o 79 (.fa 3 (t 2)),
 o 80 (.ld1 (t 79)),
 o 81 (.fa 3 (t 2)),
 o 82 (.ld1 (t 81)),
 o 83 (.len (t 82)),
 o 84 (.ar .sub (t 83) (i 1)),
 o 85 (.slc 1 (t 80) none (some (t 84))),
 o 86 (.appn 1 16 [(.string ⟨#[]⟩)] (t 85)),
 o 87 (.fa 3 (t 2)),
 q (.st 1 (t 87) (t 86))]
def f40r23 : List SOper := [
 o 89 (.cmp .eql (t 8) (i 11)),
 o 88 (.mv (t 89))]
def f40r24 : List SOper := [
 o 90 (.fa 4 (t 3)),
 o 91 (.ld1 (t 90)),
 o 92 (.cmp .lss (t 91) (i 0)),
 o 93 (.mv (t 92)),
 n 94 93 (.fa 4 (t 3)),
 n 95 93 (.ld1 (t 94)),
 n 96 93 (.fa 3 (t 2)),
 n 97 93 (.ld1 (t 96)),
 n 98 93 (.len (t 97)),
 n 99 93 (.cmp .geq (t 95) (t 98)),
 o 100 (.pick (t 93) (b true) (t 99))]
def f40r25 : List SOper := [
 o 101 (.ldn 7 (t 2)),
 q (.st 7 (t 4) (t 101)),
 o 5 (.mv (i 4))]
def f40r26 : List SOper := [
 o 102 (.fa 3 (t 2)),
 o 103 (.ld1 (t 102)),
 o 104 (.appn 1 16 [(.string ⟨#[]⟩)] (t 103)),
 o 105 (.fa 3 (t 2)),
 q (.st 1 (t 105) (t 104))]
def f40r27 : List SOper := [
 o 106 (.fa 3 (t 2)),
 o 107 (.ld1 (t 106)),
 o 108 (.fa 4 (t 3)),
 o 109 (.ld1 (t 108)),
 o 110 (.fa 3 (t 3)),
 o 111 (.ld1 (t 110)),
 o 112 (.ixs 1 (t 107) (t 109)),
 q (.st 1 (t 112) (t 111))]
def f40r28 : List SOper := [
 o 114 (.cmp .eql (t 8) (i 12)),
 o 113 (.mv (t 114))]
def f40r29 : List SOper := [
 o 116 (.fa 3 (t 2)),
 o 117 (.ld1 (t 116)),
 o 118 (.fa 2 (t 3)),
 o 119 (.ld1 (t 118)),
 o 120 (.call 65 [(t 117), (t 119), (b true)]),
 o 115 (.mv (t 120)),
 o 121 (.ext (t 115) 0),
 o 122 (.ext (t 115) 1),
 o 123 (.fa 3 (t 2)),
 q (.st 1 (t 123) (t 121))]
def f40r30 : List SOper := [
 o 125 (.cmp .eql (t 8) (i 13)),
 o 124 (.mv (t 125))]
def f40r31 : List SOper := [
 o 127 (.fa 3 (t 2)),
 o 128 (.ld1 (t 127)),
 o 129 (.fa 2 (t 3)),
 o 130 (.ld1 (t 129)),
 o 131 (.call 65 [(t 128), (t 130), (b false)]),
 o 126 (.mv (t 131)),
 o 132 (.ext (t 126) 0),
 o 133 (.ext (t 126) 1),
 o 134 (.fa 3 (t 2)),
 q (.st 1 (t 134) (t 132)),
 o 6 (.mv (t 133))]
def f40r32 : List SOper := [
 o 136 (.cmp .eql (t 8) (i 14)),
 o 135 (.mv (t 136))]
def f40r33 : List SOper := [
 o 138 (.fa 4 (t 2)),
 o 139 (.ld1 (t 138)),
 o 140 (.fa 2 (t 3)),
 o 141 (.ld1 (t 140)),
 o 142 (.fa 4 (t 3)),
 o 143 (.ld1 (t 142)),
 o 144 (.build [(.string ⟨#[]⟩), (.int .i64 0)] [(0, 1), (1, 1)] [(t 141), (t 143)]),
 o 145 (.call 66 [(t 139), (t 144), (b true)]),
 o 137 (.mv (t 145)),
 o 146 (.ext (t 137) 0),
 o 147 (.ext (t 137) 1),
 o 148 (.fa 4 (t 2)),
 q (.st 1 (t 148) (t 146))]
def f40r34 : List SOper := [
 o 150 (.cmp .eql (t 8) (i 15)),
 o 149 (.mv (t 150))]
def f40r35 : List SOper := [
 o 152 (.fa 4 (t 2)),
 o 153 (.ld1 (t 152)),
 o 154 (.fa 2 (t 3)),
 o 155 (.ld1 (t 154)),
 o 156 (.build [(.string ⟨#[]⟩), (.int .i64 0)] [(0, 1)] [(t 155)]),
 o 157 (.call 66 [(t 153), (t 156), (b false)]),
 o 151 (.mv (t 157)),
 o 158 (.ext (t 151) 0),
 o 159 (.ext (t 151) 1),
 o 160 (.fa 4 (t 2)),
 q (.st 1 (t 160) (t 158)),
 o 6 (.mv (t 159))]
def f40r36 : List SOper := [
 o 161 (.mv (t 6)),
 o 162 (.un .not (t 161))]
def f40r37 : List SOper := [
 o 163 (.ldn 7 (t 2)),
 q (.st 7 (t 4) (t 163)),
 o 5 (.mv (i 5))]
def f40r38 : List SOper := [
 o 164 (.ldn 7 (t 2)),
 q (.st 7 (t 4) (t 164)),
 o 5 (.mv (i 0))]
def f40 : SCode := (.seq (.ops f40r0) (.seq (.ops f40r1) (.seq (.seq (.ops f40r2) (.block 0 (.seq (.ops f40r3) (.cond (t 9) (.seq (.ops f40r4) .ret) (.seq (.ops f40r5) (.cond (t 12) (.seq (.ops f40r6) .ret) (.seq (.ops f40r7) (.cond (t 17) (.two f40p8 f40r8 f40s8) (.seq (.ops f40r9) (.cond (t 23) (.ops f40r10) (.seq (.ops f40r11) (.cond (t 27) (.ops f40r12) (.seq (.ops f40r13) (.cond (t 40) (.ops f40r14) (.seq (.ops f40r15) (.cond (t 51) (.ops f40r16) (.seq (.ops f40r17) (.cond (t 60) (.two f40p18 f40r18 f40s18) (.seq (.ops f40r19) (.cond (t 70) (.ops f40r20) (.seq (.ops f40r21) (.cond (t 77) (.ops f40r22) (.seq (.ops f40r23) (.cond (t 88) (.seq (.seq (.ops f40r24) (.cond (t 100) (.seq (.ops f40r25) .ret) .skip)) (.seq (.ops f40r26) (.ops f40r27))) (.seq (.ops f40r28) (.cond (t 113) (.ops f40r29) (.seq (.ops f40r30) (.cond (t 124) (.ops f40r31) (.seq (.ops f40r32) (.cond (t 135) (.ops f40r33) (.seq (.ops f40r34) (.cond (t 149) (.ops f40r35) .skip)))))))))))))))))))))))))))))))) (.seq (.seq (.ops f40r36) (.cond (t 162) (.seq (.ops f40r37) .ret) .skip)) (.seq (.ops f40r38) .ret)))))
theorem f40_calls : Sound Tryz.prog 40 165 f40 [.cn 4 7, .t 5] := sound_of mixed Tryz.func40 rfl (by kernel_rfl) (by kernel_rfl) (by kernel_rfl)

/-! 41: tabor/taborref07.Count -/
def f41r0 : List SOper := [
 o 1 (.box (t 0)),
 o 2 (.mv (i 0))]
def f41r1 : List SOper := [
 o 3 (.fa 2 (t 1)),
 o 4 (.ld1 (t 3)),
 o 5 (.len (t 4)),
 o 6 (.fa 3 (t 1)),
 o 7 (.ld1 (t 6)),
 o 8 (.len (t 7)),
 o 9 (.ar .add (t 5) (t 8)),
 o 10 (.fa 4 (t 1)),
 o 11 (.ld1 (t 10)),
 o 12 (.len (t 11)),
 o 13 (.ar .add (t 9) (t 12)),
 o 2 (.mv (t 13))]
def f41 : SCode := (.seq (.ops f41r0) (.seq (.ops f41r1) .ret))
theorem f41_calls : Sound Tryz.prog 41 14 f41 [.t 2] := sound_of mixed Tryz.func41 rfl (by kernel_rfl) (by kernel_rfl) (by kernel_rfl)

/-! 42: tabor/taborref07.Drop -/
def f42r0 : List SOper := [
 o 4 (.mv (.const (.slice none 0 0)))]
def f42r1 : List SOper := [
 o 8 (.mv (t 0)),
 o 9 (.mv (t 1)),
 o 10 (.call 20 [(t 8), (t 9)]),
 o 7 (.mv (t 10)),
 o 11 (.ext (t 7) 0),
 o 12 (.ext (t 7) 1),
 o 5 (.mv (t 11)),
 o 6 (.mv (t 12))]
def f42r2 : List SOper := [
 o 13 (.mv (t 6)),
 o 14 (.un .not (t 13))]
def f42r3 : List SOper := [
 o 15 (.mv (t 0)),
 o 4 (.mv (t 15))]
def f42r4 : List SOper := [
 o 16 (.mv (t 0)),
 o 17 (.mv (t 5)),
 o 18 (.slc 8 (t 16) none (some (t 17))),
 o 20 (.mv (t 0)),
 o 21 (.mv (t 5)),
 o 22 (.ar .add (t 21) (i 1)),
 o 23 (.slc 8 (t 20) (some (t 22)) none),
 o 19 (.appn 8 128 [(.string ⟨#[]⟩), (.int .i64 0), (.string ⟨#[]⟩), (.slice none 0 0), (.slice none 0 0), (.slice none 0 0), (.bool false), (.int .i64 0)] (t 18)),
 o 24 (.app 8 128 [(.string ⟨#[]⟩), (.int .i64 0), (.string ⟨#[]⟩), (.slice none 0 0), (.slice none 0 0), (.slice none 0 0), (.bool false), (.int .i64 0)] (t 19) (t 23)),
 o 4 (.mv (t 24))]
def f42 : SCode := (.seq (.ops f42r0) (.seq (.ops f42r1) (.seq (.seq (.ops f42r2) (.cond (t 14) (.seq (.ops f42r3) .ret) .skip)) (.seq (.ops f42r4) .ret))))
theorem f42_calls : Sound Tryz.prog 42 25 f42 [.t 4] := sound_of mixed Tryz.func42 rfl (by kernel_rfl) (by kernel_rfl) (by kernel_rfl)

/-! 43: (*tabor/keys.Keys).All$1 -/
def f43r0 : List SOper := [
 o 6 (.ld1 (t 1)),
 o 7 (.call 34 [(t 6)])]
def f43r1 : List SOper := [
 o 8 (.ld1 (t 1)),
 o 9 (.nilck (t 8)),
 o 10 (.fa 0 (t 9)),
 o 11 (.ld1 (t 10)),
 o 12 (.nilck (t 11)),
 o 13 (.fa 0 (t 12)),
 o 14 (.ld1 (t 13)),
 o 15 (.call 45 [(t 14)]),
 o 16 (.call 44 [(t 15)]),
 o 17 (.len (t 16)),
 o 18 (.mv (i 0))]
def f43r2 : List SOper := [
 o 19 (.cmp .lss (t 18) (t 17))]
def f43r3 : List SOper := [
 o 20 (.ixs 1 (t 16) (t 18)),
 o 21 (.ld1 (t 20)),
 o 4 (.mv (t 21))]
def f43r4 : List SOper := [
 o 22 (.ld1 (t 1)),
 o 23 (.nilck (t 22)),
 o 24 (.fa 0 (t 23)),
 o 25 (.ld1 (t 24)),
 o 26 (.nilck (t 25)),
 o 27 (.fa 0 (t 26)),
 o 28 (.ld1 (t 27)),
 o 29 (.mv (t 4)),
 o 30 (.look .str (.pointer none) false (t 28) (t 29)),
 o 5 (.mv (t 30))]
def f43r5 : List SOper := [
 o 31 (.mv (t 5)),
 o 32 (.eqn 0 true (t 31)),
 o 33 (.mv (t 32)),
 g 34 33 (.mv (t 0)),
 g 35 33 (.mv (t 4)),
 g 36 33 (.mv (t 5)),
 g 37 33 (.nilck (t 36)),
 g 38 33 (.ldn 7 (t 37)),
 g 39 33 (.call 32 [(t 38)]),
 g 40 33 (.callv (t 34) [(t 35), (t 39)]),
 g 41 33 (.un .not (t 40)),
 o 42 (.pick (t 33) (t 41) (b false))]
def f43r6 : List SOper := [
 o 43 (.ar .add (t 18) (i 1)),
 o 18 (.mv (t 43))]
def f43l7 : SCode := (.seq (.ops f43r2) (.seq (.cond (t 19) .skip (.exit 0)) (.seq (.block 1 (.seq (.ops f43r3) (.seq (.ops f43r4) (.seq (.ops f43r5) (.cond (t 42) .ret .skip))))) (.ops f43r6))))
def f43 : SCode := (.seq (.seq (.ops f43r0) (.cond (t 7) .ret .skip)) (.seq (.ops f43r1) (.block 0 (.loop f43l7))))
theorem f43_calls : Sound Tryz.prog 43 44 f43 [] := sound_of mixed Tryz.func43 rfl (by kernel_rfl) (by kernel_rfl) (by kernel_rfl)

/-! 44: slices.Sorted[string] -/
def f44r0 : List SOper := [
 o 2 (.mv (.const (.slice none 0 0)))]
def f44r1 : List SOper := [
 o 4 (.mv (t 0)),
 o 5 (.call 67 [(t 4)]),
 o 3 (.mv (t 5))]
def f44r2 : List SOper := [
 o 6 (.mv (t 3)),
 o 7 (.call 68 [(t 6)])]
def f44r3 : List SOper := [
 o 8 (.mv (t 3)),
 o 2 (.mv (t 8))]
def f44 : SCode := (.seq (.ops f44r0) (.seq (.ops f44r1) (.seq (.ops f44r2) (.seq (.ops f44r3) .ret))))
theorem f44_calls : Sound Tryz.prog 44 9 f44 [.t 2] := sound_of mixed Tryz.func44 rfl (by kernel_rfl) (by kernel_rfl) (by kernel_rfl)

/-! 45: maps.Keys[map[string]*tabor/api.Thing,string,*tabor/api.Thing] -/
def f45r0 : List SOper := [
 o 1 (.box (t 0)),
 o 2 (.mv (.const .nilFunc))]
def f45r1 : List SOper := [
 o 3 (.fn 69 [] [(t 1)]),
 o 2 (.mv (t 3))]
def f45 : SCode := (.seq (.ops f45r0) (.seq (.ops f45r1) .ret))
theorem f45_calls : Sound Tryz.prog 45 4 f45 [.t 2] := sound_of mixed Tryz.func45 rfl (by kernel_rfl) (by kernel_rfl) (by kernel_rfl)

/-! 46: tabor/keys.gone -/
def f46r0 : List SOper := [
 o 2 (.box (t 0)),
 o 4 (.mv (b false))]
def f46r1 : List SOper := [
 o 5 (.fa 5 (t 2)),
 o 6 (.ld1 (t 5)),
 o 7 (.mv (t 6)),
 g 8 7 (.fa 6 (t 2)),
 g 9 7 (.ld1 (t 8)),
 g 10 7 (.mv (t 1)),
 g 11 7 (.cmp .leq (t 9) (t 10)),
 o 12 (.pick (t 7) (t 11) (b false)),
 o 4 (.mv (t 12))]
def f46 : SCode := (.seq (.ops f46r0) (.seq (.ops f46r1) .ret))
theorem f46_calls : Sound Tryz.prog 46 13 f46 [.t 4] := sound_of mixed Tryz.func46 rfl (by kernel_rfl) (by kernel_rfl) (by kernel_rfl)

/-! 47: maps.EqualFunc[map[string]*tabor/api.Thing,map[string]*tabor/api.Thing,string,*tabor/api.Thing,*tabor/api.Thing]: not simplified -/
/-! 48: (*tabor/keys.Keys).Same$1: not simplified -/
/-! 49: tabor/keys.SameThing -/
def f49r0 : List SOper := [
 o 2 (.box (t 0)),
 o 3 (.box (t 1)),
 o 4 (.mv (b false))]
def f49r1 : List SOper := [
 o 5 (.fa 0 (t 2)),
 o 6 (.ld1 (t 5)),
 o 7 (.fa 0 (t 3)),
 o 8 (.ld1 (t 7)),
 o 9 (.cmp .eql (t 6) (t 8)),
 o 10 (.mv (t 9)),
 g 11 10 (.fa 1 (t 2)),
 g 12 10 (.ld1 (t 11)),
 g 13 10 (.fa 1 (t 3)),
 g 14 10 (.ld1 (t 13)),
 g 15 10 (.cmp .eql (t 12) (t 14)),
 o 16 (.pick (t 10) (t 15) (b false)),
 o 17 (.mv (t 16)),
 g 18 17 (.fa 2 (t 2)),
 g 19 17 (.ld1 (t 18)),
 g 20 17 (.fa 2 (t 3)),
 g 21 17 (.ld1 (t 20)),
 g 22 17 (.call 70 [(t 19), (t 21)]),
 o 23 (.pick (t 17) (t 22) (b false)),
 o 24 (.mv (t 23)),
 g 25 24 (.fa 3 (t 2)),
 g 26 24 (.ld1 (t 25)),
 g 27 24 (.fa 3 (t 3)),
 g 28 24 (.ld1 (t 27)),
 g 29 24 (.call 71 [(t 26), (t 28)]),
 o 30 (.pick (t 24) (t 29) (b false)),
 o 31 (.mv (t 30)),
 g 32 31 (.fa 4 (t 2)),
 g 33 31 (.ld1 (t 32)),
 g 34 31 (.fa 4 (t 3)),
 g 35 31 (.ld1 (t 34)),
 g 36 31 (.call 72 [(t 33), (t 35)]),
 o 37 (.pick (t 31) (t 36) (b false)),
 o 38 (.mv (t 37)),
 g 39 38 (.fa 5 (t 2)),
 g 40 38 (.ld1 (t 39)),
 g 41 38 (.fa 5 (t 3)),
 g 42 38 (.ld1 (t 41)),
 g 43 38 (.cmpb false (t 40) (t 42)),
 o 44 (.pick (t 38) (t 43) (b false)),
 o 45 (.mv (t 44)),
 g 46 45 (.fa 6 (t 2)),
 g 47 45 (.ld1 (t 46)),
 g 48 45 (.fa 6 (t 3)),
 g 49 45 (.ld1 (t 48)),
 g 50 45 (.cmp .eql (t 47) (t 49)),
 o 51 (.pick (t 45) (t 50) (b false)),
 o 4 (.mv (t 51))]
def f49 : SCode := (.seq (.ops f49r0) (.seq (.ops f49r1) .ret))
theorem f49_calls : Sound Tryz.prog 49 52 f49 [.t 4] := sound_of mixed Tryz.func49 rfl (by kernel_rfl) (by kernel_rfl) (by kernel_rfl)

/-! 50: tabor/keys.count -/
def f50r0 : List SOper := [
 o 1 (.box (t 0)),
 o 2 (.mv (i 0))]
def f50r1 : List SOper := [
 o 3 (.fa 2 (t 1)),
 o 4 (.ld1 (t 3)),
 o 5 (.len (t 4)),
 o 6 (.fa 3 (t 1)),
 o 7 (.ld1 (t 6)),
 o 8 (.len (t 7)),
 o 9 (.ar .add (t 5) (t 8)),
 o 10 (.fa 4 (t 1)),
 o 11 (.ld1 (t 10)),
 o 12 (.len (t 11)),
 o 13 (.ar .add (t 9) (t 12)),
 o 2 (.mv (t 13))]
def f50 : SCode := (.seq (.ops f50r0) (.seq (.ops f50r1) .ret))
theorem f50_calls : Sound Tryz.prog 50 14 f50 [.t 2] := sound_of mixed Tryz.func50 rfl (by kernel_rfl) (by kernel_rfl) (by kernel_rfl)

/-! 51: tabor/keys.short -/
def f51r0 : List SOper := [
 o 2 (.mv (b false))]
def f51r1 : List SOper := [
 o 3 (.mv (t 0)),
 o 4 (.call 73 [(t 3), (u 74)]),
 o 5 (.un .not (t 4)),
 o 2 (.mv (t 5))]
def f51 : SCode := (.seq (.ops f51r0) (.seq (.ops f51r1) .ret))
theorem f51_calls : Sound Tryz.prog 51 6 f51 [.t 2] := sound_of mixed Tryz.func51 rfl (by kernel_rfl) (by kernel_rfl) (by kernel_rfl)

/-! 52: tabor/keys.names -/
def f52r0 : List SOper := [
 o 1 (.box (t 0)),
 o 2 (.mv (.const (.slice none 0 0)))]
def f52r1 : List SOper := [
 o 3 (.mv (.const (.slice none 0 0)))]
def f52r2 : List SOper := [
 o 8 (.fa 2 (t 1)),
 o 9 (.ld1 (t 8)),
 o 10 (.len (t 9)),
 o 11 (.mv (i 0))]
def f52r3 : List SOper := [
 o 12 (.cmp .lss (t 11) (t 10))]
def f52r4 : List SOper := [
 o 13 (.ixs 2 (t 9) (t 11)),
 o 14 (.ldn 2 (t 13)),
 o 5 (.new [(.string ⟨#[]⟩), (.string ⟨#[]⟩)]),
 q (.st 2 (t 5) (t 14))]
def f52r5 : List SOper := [
 o 15 (.mv (t 3)),
 o 16 (.fa 0 (t 5)),
 o 17 (.ld1 (t 16)),
 o 18 (.fa 1 (t 5)),
 o 19 (.ld1 (t 18)),
 o 20 (.bslice [(.string ⟨#[]⟩), (.string ⟨#[]⟩)] 2 [(0, 1), (1, 1)] [(t 17), (t 19)]),
 o 21 (.app 1 16 [(.string ⟨#[]⟩)] (t 15) (t 20)),
 o 3 (.mv (t 21))]
def f52r6 : List SOper := [
 o 22 (.ar .add (t 11) (i 1)),
 o 11 (.mv (t 22))]
def f52l7 : SCode := (.seq (.ops f52r3) (.seq (.cond (t 12) .skip (.exit 0)) (.seq (.block 1 (.seq (.ops f52r4) (.ops f52r5))) (.ops f52r6))))
def f52r8 : List SOper := [
 o 23 (.fa 4 (t 1)),
 o 24 (.ld1 (t 23)),
 o 25 (.len (t 24)),
 o 26 (.mv (i 0))]
def f52r9 : List SOper := [
 o 27 (.cmp .lss (t 26) (t 25))]
def f52r10 : List SOper := [
 o 28 (.ixs 2 (t 24) (t 26)),
 o 29 (.ldn 2 (t 28)),
 o 7 (.new [(.string ⟨#[]⟩), (.int .i64 0)]),
 q (.st 2 (t 7) (t 29))]
def f52r11 : List SOper := [
 o 30 (.mv (t 3)),
 o 31 (.fa 0 (t 7)),
 o 32 (.ld1 (t 31)),
 o 33 (.bslice [(.string ⟨#[]⟩)] 1 [(0, 1)] [(t 32)]),
 o 34 (.app 1 16 [(.string ⟨#[]⟩)] (t 30) (t 33)),
 o 3 (.mv (t 34))]
def f52r12 : List SOper := [
 o 35 (.ar .add (t 26) (i 1)),
 o 26 (.mv (t 35))]
def f52l13 : SCode := (.seq (.ops f52r9) (.seq (.cond (t 27) .skip (.exit 2)) (.seq (.block 3 (.seq (.ops f52r10) (.ops f52r11))) (.ops f52r12))))
def f52r14 : List SOper := [
 o 36 (.mv (t 3)),
 o 2 (.mv (t 36))]
def f52 : SCode := (.seq (.ops f52r0) (.seq (.ops f52r1) (.seq (.seq (.ops f52r2) (.block 0 (.loop f52l7))) (.seq (.seq (.ops f52r8) (.block 2 (.loop f52l13))) (.seq (.ops f52r14) .ret)))))
theorem f52_calls : Sound Tryz.prog 52 37 f52 [.t 2] := sound_of mixed Tryz.func52 rfl (by kernel_rfl) (by kernel_rfl) (by kernel_rfl)

/-! 53: tabor/keys.rising[tabor/api.Pair] -/
def f53r0 : List SOper := [
 o 4 (.mv (b false))]
def f53r1 : List SOper := [
 o 5 (.mv (i 1))]
def f53r2 : List SOper := [
 o 6 (.mv (t 5)),
 o 7 (.mv (t 0)),
 o 8 (.len (t 7)),
 o 9 (.cmp .lss (t 6) (t 8))]
def f53r3 : List SOper := [
 o 12 (.mv (t 1)),
 o 13 (.mv (t 0)),
 o 14 (.mv (t 5)),
 o 15 (.ar .sub (t 14) (i 1)),
 o 16 (.ixs 2 (t 13) (t 15)),
 o 17 (.ldn 2 (t 16)),
 o 18 (.mv (t 0)),
 o 19 (.mv (t 5)),
 o 20 (.ixs 2 (t 18) (t 19)),
 o 21 (.ldn 2 (t 20)),
 o 22 (.callv (t 12) [(t 17), (t 21)]),
 o 23 (.cmp .geq (t 22) (i 0))]
def f53r4 : List SOper := [
 o 4 (.mv (b false))]
def f53r5 : List SOper := [
 o 10 (.mv (t 5)),
 o 11 (.ar .add (t 10) (i 1)),
 o 5 (.mv (t 11))]
def f53l6 : SCode := (.seq (.seq (.ops f53r2) (.cond (t 9) .skip (.exit 0))) (.seq (.block 1 (.seq (.ops f53r3) (.cond (t 23) (.seq (.ops f53r4) .ret) .skip))) (.ops f53r5)))
def f53r7 : List SOper := [
 o 4 (.mv (b true))]
def f53 : SCode := (.seq (.ops f53r0) (.seq (.seq (.ops f53r1) (.block 0 (.loop f53l6))) (.seq (.ops f53r7) .ret)))
theorem f53_calls : Sound Tryz.prog 53 24 f53 [.t 4] := sound_of mixed Tryz.func53 rfl (by kernel_rfl) (by kernel_rfl) (by kernel_rfl)

/-! 54: tabor/keys.Check$1 -/
def f54r0 : List SOper := [
 o 2 (.box (t 0)),
 o 3 (.box (t 1)),
 o 4 (.mv (i 0))]
def f54r1 : List SOper := [
 o 5 (.fa 0 (t 2)),
 o 6 (.ld1 (t 5)),
 o 7 (.fa 0 (t 3)),
 o 8 (.ld1 (t 7)),
 o 9 (.call 55 [(t 6), (t 8)]),
 o 4 (.mv (t 9))]
def f54 : SCode := (.seq (.ops f54r0) (.seq (.ops f54r1) .ret))
theorem f54_calls : Sound Tryz.prog 54 10 f54 [.t 4] := sound_of mixed Tryz.func54 rfl (by kernel_rfl) (by kernel_rfl) (by kernel_rfl)

/-! 55: strings.Compare -/
def f55r0 : List SOper := [
 o 4 (.mv (i 0))]
def f55r1 : List SOper := [
 o 5 (.mv (t 0)),
 o 6 (.mv (t 1)),
 o 7 (.call 75 [(t 5), (t 6)]),
 o 4 (.mv (t 7))]
def f55 : SCode := (.seq (.ops f55r0) (.seq (.ops f55r1) .ret))
theorem f55_calls : Sound Tryz.prog 55 8 f55 [.t 4] := sound_of mixed Tryz.func55 rfl (by kernel_rfl) (by kernel_rfl) (by kernel_rfl)

/-! 56: tabor/keys.rising[string] -/
def f56r0 : List SOper := [
 o 4 (.mv (b false))]
def f56r1 : List SOper := [
 o 5 (.mv (i 1))]
def f56r2 : List SOper := [
 o 6 (.mv (t 5)),
 o 7 (.mv (t 0)),
 o 8 (.len (t 7)),
 o 9 (.cmp .lss (t 6) (t 8))]
def f56r3 : List SOper := [
 o 12 (.mv (t 1)),
 o 13 (.mv (t 0)),
 o 14 (.mv (t 5)),
 o 15 (.ar .sub (t 14) (i 1)),
 o 16 (.ixs 1 (t 13) (t 15)),
 o 17 (.ld1 (t 16)),
 o 18 (.mv (t 0)),
 o 19 (.mv (t 5)),
 o 20 (.ixs 1 (t 18) (t 19)),
 o 21 (.ld1 (t 20)),
 o 22 (.callv (t 12) [(t 17), (t 21)]),
 o 23 (.cmp .geq (t 22) (i 0))]
def f56r4 : List SOper := [
 o 4 (.mv (b false))]
def f56r5 : List SOper := [
 o 10 (.mv (t 5)),
 o 11 (.ar .add (t 10) (i 1)),
 o 5 (.mv (t 11))]
def f56l6 : SCode := (.seq (.seq (.ops f56r2) (.cond (t 9) .skip (.exit 0))) (.seq (.block 1 (.seq (.ops f56r3) (.cond (t 23) (.seq (.ops f56r4) .ret) .skip))) (.ops f56r5)))
def f56r7 : List SOper := [
 o 4 (.mv (b true))]
def f56 : SCode := (.seq (.ops f56r0) (.seq (.seq (.ops f56r1) (.block 0 (.loop f56l6))) (.seq (.ops f56r7) .ret)))
theorem f56_calls : Sound Tryz.prog 56 24 f56 [.t 4] := sound_of mixed Tryz.func56 rfl (by kernel_rfl) (by kernel_rfl) (by kernel_rfl)

/-! 57: tabor/keys.rising[tabor/api.Rank] -/
def f57r0 : List SOper := [
 o 4 (.mv (b false))]
def f57r1 : List SOper := [
 o 5 (.mv (i 1))]
def f57r2 : List SOper := [
 o 6 (.mv (t 5)),
 o 7 (.mv (t 0)),
 o 8 (.len (t 7)),
 o 9 (.cmp .lss (t 6) (t 8))]
def f57r3 : List SOper := [
 o 12 (.mv (t 1)),
 o 13 (.mv (t 0)),
 o 14 (.mv (t 5)),
 o 15 (.ar .sub (t 14) (i 1)),
 o 16 (.ixs 2 (t 13) (t 15)),
 o 17 (.ldn 2 (t 16)),
 o 18 (.mv (t 0)),
 o 19 (.mv (t 5)),
 o 20 (.ixs 2 (t 18) (t 19)),
 o 21 (.ldn 2 (t 20)),
 o 22 (.callv (t 12) [(t 17), (t 21)]),
 o 23 (.cmp .geq (t 22) (i 0))]
def f57r4 : List SOper := [
 o 4 (.mv (b false))]
def f57r5 : List SOper := [
 o 10 (.mv (t 5)),
 o 11 (.ar .add (t 10) (i 1)),
 o 5 (.mv (t 11))]
def f57l6 : SCode := (.seq (.seq (.ops f57r2) (.cond (t 9) .skip (.exit 0))) (.seq (.block 1 (.seq (.ops f57r3) (.cond (t 23) (.seq (.ops f57r4) .ret) .skip))) (.ops f57r5)))
def f57r7 : List SOper := [
 o 4 (.mv (b true))]
def f57 : SCode := (.seq (.ops f57r0) (.seq (.seq (.ops f57r1) (.block 0 (.loop f57l6))) (.seq (.ops f57r7) .ret)))
theorem f57_calls : Sound Tryz.prog 57 24 f57 [.t 4] := sound_of mixed Tryz.func57 rfl (by kernel_rfl) (by kernel_rfl) (by kernel_rfl)

/-! 58: tabor/keys.ahead -/
def f58r0 : List SOper := [
 o 2 (.box (t 0)),
 o 3 (.box (t 1)),
 o 4 (.mv (i 0))]
def f58r1 : List SOper := [
 o 6 (.fa 1 (t 2)),
 o 7 (.ld1 (t 6)),
 o 8 (.fa 1 (t 3)),
 o 9 (.ld1 (t 8)),
 o 10 (.cmp .lss (t 7) (t 9)),
 o 5 (.mv (t 10))]
def f58r2 : List SOper := [
 o 4 (.mv (i (-1)))]
def f58r3 : List SOper := [
 o 12 (.fa 1 (t 2)),
 o 13 (.ld1 (t 12)),
 o 14 (.fa 1 (t 3)),
 o 15 (.ld1 (t 14)),
 o 16 (.cmp .gtr (t 13) (t 15)),
 o 11 (.mv (t 16))]
def f58r4 : List SOper := [
 o 4 (.mv (i 1))]
def f58r5 : List SOper := [
 o 17 (.fa 0 (t 2)),
 o 18 (.ld1 (t 17)),
 o 19 (.fa 0 (t 3)),
 o 20 (.ld1 (t 19)),
 o 21 (.call 55 [(t 18), (t 20)]),
 o 4 (.mv (t 21))]
def f58 : SCode := (.seq (.ops f58r0) (.seq (.block 0 (.seq (.ops f58r1) (.cond (t 5) (.seq (.ops f58r2) .ret) (.seq (.ops f58r3) (.cond (t 11) (.seq (.ops f58r4) .ret) .skip))))) (.seq (.ops f58r5) .ret)))
theorem f58_calls : Sound Tryz.prog 58 22 f58 [.t 4] := sound_of mixed Tryz.func58 rfl (by kernel_rfl) (by kernel_rfl) (by kernel_rfl)

/-! 59: tabor/keys.once -/
def f59r0 : List SOper := [
 o 2 (.mv (b false))]
def f59r1 : List SOper := [
 o 6 (.mkm),
 o 3 (.mv (t 6))]
def f59r2 : List SOper := [
 o 7 (.mv (t 0)),
 o 8 (.len (t 7)),
 o 9 (.mv (i 0))]
def f59r3 : List SOper := [
 o 10 (.cmp .lss (t 9) (t 8))]
def f59r4 : List SOper := [
 o 11 (.ixs 2 (t 7) (t 9)),
 o 12 (.ldn 2 (t 11)),
 o 5 (.new [(.string ⟨#[]⟩), (.int .i64 0)]),
 q (.st 2 (t 5) (t 12))]
def f59r5 : List SOper := [
 o 13 (.mv (t 3)),
 o 14 (.fa 0 (t 5)),
 o 15 (.ld1 (t 14)),
 o 16 (.look .str (.int .i64 0) false (t 13) (t 15)),
 o 17 (.ar .add (t 16) (i 1)),
 q (.mup .str (t 13) (t 15) (t 17))]
def f59r6 : List SOper := [
 o 18 (.ar .add (t 9) (i 1)),
 o 9 (.mv (t 18))]
def f59l7 : SCode := (.seq (.ops f59r3) (.seq (.cond (t 10) .skip (.exit 0)) (.seq (.block 1 (.seq (.ops f59r4) (.ops f59r5))) (.ops f59r6))))
def f59r8 : List SOper := [
 o 19 (.mv (t 3)),
 o 20 (.lenm (t 19)),
 o 21 (.mv (t 0)),
 o 22 (.len (t 21)),
 o 23 (.cmp .eql (t 20) (t 22)),
 o 2 (.mv (t 23))]
def f59 : SCode := (.seq (.ops f59r0) (.seq (.ops f59r1) (.seq (.seq (.ops f59r2) (.block 0 (.loop f59l7))) (.seq (.ops f59r8) .ret))))
theorem f59_calls : Sound Tryz.prog 59 24 f59 [.t 2] := sound_of mixed Tryz.func59 rfl (by kernel_rfl) (by kernel_rfl) (by kernel_rfl)

/-! 60: slices.Clone[[]tabor/api.Pair,tabor/api.Pair] -/
def f60r0 : List SOper := [
 o 2 (.mv (.const (.slice none 0 0)))]
def f60r1 : List SOper := [
 o 3 (.mv (t 0)),
 o 4 (.eqn 1 false (t 3))]
def f60r2 : List SOper := [
 o 2 (.mv (.const (.slice none 0 0)))]
def f60r3 : List SOper := [
 o 5 (.bslice [] 0 [] []),
 o 6 (.mv (t 0)),
 o 7 (.app 2 32 [(.string ⟨#[]⟩), (.string ⟨#[]⟩)] (t 5) (t 6)),
 o 2 (.mv (t 7))]
def f60 : SCode := (.seq (.ops f60r0) (.seq (.seq (.ops f60r1) (.cond (t 4) (.seq (.ops f60r2) .ret) .skip)) (.seq (.ops f60r3) .ret)))
theorem f60_calls : Sound Tryz.prog 60 8 f60 [.t 2] := sound_of mixed Tryz.func60 rfl (by kernel_rfl) (by kernel_rfl) (by kernel_rfl)

/-! 61: slices.Clone[[]string,string] -/
def f61r0 : List SOper := [
 o 2 (.mv (.const (.slice none 0 0)))]
def f61r1 : List SOper := [
 o 3 (.mv (t 0)),
 o 4 (.eqn 1 false (t 3))]
def f61r2 : List SOper := [
 o 2 (.mv (.const (.slice none 0 0)))]
def f61r3 : List SOper := [
 o 5 (.bslice [] 0 [] []),
 o 6 (.mv (t 0)),
 o 7 (.app 1 16 [(.string ⟨#[]⟩)] (t 5) (t 6)),
 o 2 (.mv (t 7))]
def f61 : SCode := (.seq (.ops f61r0) (.seq (.seq (.ops f61r1) (.cond (t 4) (.seq (.ops f61r2) .ret) .skip)) (.seq (.ops f61r3) .ret)))
theorem f61_calls : Sound Tryz.prog 61 8 f61 [.t 2] := sound_of mixed Tryz.func61 rfl (by kernel_rfl) (by kernel_rfl) (by kernel_rfl)

/-! 62: slices.Clone[[]tabor/api.Rank,tabor/api.Rank] -/
def f62r0 : List SOper := [
 o 2 (.mv (.const (.slice none 0 0)))]
def f62r1 : List SOper := [
 o 3 (.mv (t 0)),
 o 4 (.eqn 1 false (t 3))]
def f62r2 : List SOper := [
 o 2 (.mv (.const (.slice none 0 0)))]
def f62r3 : List SOper := [
 o 5 (.bslice [] 0 [] []),
 o 6 (.mv (t 0)),
 o 7 (.app 2 24 [(.string ⟨#[]⟩), (.int .i64 0)] (t 5) (t 6)),
 o 2 (.mv (t 7))]
def f62 : SCode := (.seq (.ops f62r0) (.seq (.seq (.ops f62r1) (.cond (t 4) (.seq (.ops f62r2) .ret) .skip)) (.seq (.ops f62r3) .ret)))
theorem f62_calls : Sound Tryz.prog 62 8 f62 [.t 2] := sound_of mixed Tryz.func62 rfl (by kernel_rfl) (by kernel_rfl) (by kernel_rfl)

/-! 63: tabor/keys.rules -/
def f63r0 : List SOper := [
 o 0 (.mv (.const (.map none)))]
def f63r1 : List SOper := [
 o 1 (.mkm),
 o 2 (.build [(.bool false), (.bool false), (.bool false), (.int .i64 0), (.bool false), .nilFunc] [(5, 1)] [(u 76)]),
 q (.mup (.int .i64) (t 1) (i 1) (t 2)),
 o 3 (.build [(.bool false), (.bool false), (.bool false), (.int .i64 0), (.bool false), .nilFunc] [(1, 1), (4, 1), (5, 1)] [(b true), (b true), (u 77)]),
 q (.mup (.int .i64) (t 1) (i 2) (t 3)),
 o 4 (.build [(.bool false), (.bool false), (.bool false), (.int .i64 0), (.bool false), .nilFunc] [(2, 1), (5, 1)] [(b true), (u 78)]),
 q (.mup (.int .i64) (t 1) (i 3) (t 4)),
 o 5 (.build [(.bool false), (.bool false), (.bool false), (.int .i64 0), (.bool false), .nilFunc] [(5, 1)] [(u 79)]),
 q (.mup (.int .i64) (t 1) (i 4) (t 5)),
 o 6 (.build [(.bool false), (.bool false), (.bool false), (.int .i64 0), (.bool false), .nilFunc] [(0, 1), (1, 1), (3, 1), (4, 1), (5, 1)] [(b true), (b true), (i 2), (b true), (u 80)]),
 q (.mup (.int .i64) (t 1) (i 5) (t 6)),
 o 7 (.build [(.bool false), (.bool false), (.bool false), (.int .i64 0), (.bool false), .nilFunc] [(0, 1), (3, 1), (5, 1)] [(b true), (i 2), (u 81)]),
 q (.mup (.int .i64) (t 1) (i 6) (t 7)),
 o 8 (.build [(.bool false), (.bool false), (.bool false), (.int .i64 0), (.bool false), .nilFunc] [(1, 1), (3, 1), (4, 1), (5, 1)] [(b true), (i 3), (b true), (u 82)]),
 q (.mup (.int .i64) (t 1) (i 7) (t 8)),
 o 9 (.build [(.bool false), (.bool false), (.bool false), (.int .i64 0), (.bool false), .nilFunc] [(1, 1), (3, 1), (4, 1), (5, 1)] [(b true), (i 3), (b true), (u 84)]),
 q (.mup (.int .i64) (t 1) (i 8) (t 9)),
 o 10 (.build [(.bool false), (.bool false), (.bool false), (.int .i64 0), (.bool false), .nilFunc] [(3, 1), (5, 1)] [(i 3), (u 85)]),
 q (.mup (.int .i64) (t 1) (i 9) (t 10)),
 o 11 (.build [(.bool false), (.bool false), (.bool false), (.int .i64 0), (.bool false), .nilFunc] [(3, 1), (5, 1)] [(i 3), (u 86)]),
 q (.mup (.int .i64) (t 1) (i 10) (t 11)),
 o 12 (.build [(.bool false), (.bool false), (.bool false), (.int .i64 0), (.bool false), .nilFunc] [(1, 1), (2, 1), (3, 1), (5, 1)] [(b true), (b true), (i 3), (u 87)]),
 q (.mup (.int .i64) (t 1) (i 11) (t 12)),
 o 13 (.build [(.bool false), (.bool false), (.bool false), (.int .i64 0), (.bool false), .nilFunc] [(0, 1), (3, 1), (4, 1), (5, 1)] [(b true), (i 4), (b true), (u 88)]),
 q (.mup (.int .i64) (t 1) (i 12) (t 13)),
 o 14 (.build [(.bool false), (.bool false), (.bool false), (.int .i64 0), (.bool false), .nilFunc] [(0, 1), (3, 1), (5, 1)] [(b true), (i 4), (u 89)]),
 q (.mup (.int .i64) (t 1) (i 13) (t 14)),
 o 15 (.build [(.bool false), (.bool false), (.bool false), (.int .i64 0), (.bool false), .nilFunc] [(0, 1), (2, 1), (3, 1), (4, 1), (5, 1)] [(b true), (b true), (i 5), (b true), (u 90)]),
 q (.mup (.int .i64) (t 1) (i 14) (t 15)),
 o 16 (.build [(.bool false), (.bool false), (.bool false), (.int .i64 0), (.bool false), .nilFunc] [(0, 1), (3, 1), (5, 1)] [(b true), (i 5), (u 91)]),
 q (.mup (.int .i64) (t 1) (i 15) (t 16)),
 o 17 (.mv (t 1)),
 o 0 (.mv (t 17))]
def f63 : SCode := (.seq (.ops f63r0) (.seq (.ops f63r1) .ret))
theorem f63_calls : Sound Tryz.prog 63 18 f63 [.t 0] := sound_of mixed Tryz.func63 rfl (by kernel_rfl) (by kernel_rfl) (by kernel_rfl)

/-! 64: tabor/taborref07.pairs: not simplified -/
/-! 65: tabor/taborref07.members: not simplified -/
/-! 66: tabor/taborref07.ranks: not simplified -/
/-! 67: slices.Collect[string]: not simplified -/
/-! 68: slices.Sort[[]string,string] -/
def f68r0 : List SOper := [
 o 3 (.mv (t 0)),
 o 4 (.len (t 3)),
 o 2 (.mv (t 4))]
def f68r1 : List SOper := [
 o 5 (.mv (t 0)),
 o 6 (.mv (t 2)),
 o 7 (.mv (t 2)),
 o 8 (.cvt .u64 (t 7)),
 o 9 (.call 94 [(t 8)]),
 o 10 (.call 93 [(t 5), (i 0), (t 6), (t 9)])]
def f68 : SCode := (.seq (.ops f68r0) (.ops f68r1))
theorem f68_calls : Sound Tryz.prog 68 11 f68 [] := sound_of mixed Tryz.func68 rfl (by kernel_rfl) (by kernel_rfl) (by kernel_rfl)

/-! 69: maps.Keys[map[string]*tabor/api.Thing,string,*tabor/api.Thing]$1: not simplified -/
/-! 70: slices.Equal[[]tabor/api.Pair,tabor/api.Pair] -/
def f70r0 : List SOper := [
 o 4 (.mv (b false))]
def f70r1 : List SOper := [
 o 6 (.mv (t 0)),
 o 7 (.len (t 6)),
 o 8 (.mv (t 1)),
 o 9 (.len (t 8)),
 o 10 (.cmp .neq (t 7) (t 9))]
def f70r2 : List SOper := [
 o 4 (.mv (b false))]
def f70r3 : List SOper := [
 o 11 (.mv (t 0)),
 o 12 (.len (t 11)),
 o 13 (.mv (i 0))]
def f70r4 : List SOper := [
 o 14 (.cmp .lss (t 13) (t 12))]
def f70r5 : List SOper := [
 o 15 (.mv (t 13)),
 o 5 (.mv (t 15))]
def f70r6 : List SOper := [
 o 16 (.mv (t 0)),
 o 17 (.mv (t 5)),
 o 18 (.ixs 2 (t 16) (t 17)),
 o 19 (.ldn 2 (t 18)),
 o 20 (.mv (t 1)),
 o 21 (.mv (t 5)),
 o 22 (.ixs 2 (t 20) (t 21)),
 o 23 (.ldn 2 (t 22)),
 o 24 (.eqa true [.str, .str] (t 19) (t 23))]
def f70r7 : List SOper := [
 o 4 (.mv (b false))]
def f70r8 : List SOper := [
 o 25 (.ar .add (t 13) (i 1)),
 o 13 (.mv (t 25))]
def f70l9 : SCode := (.seq (.ops f70r4) (.seq (.cond (t 14) .skip (.exit 0)) (.seq (.block 1 (.seq (.ops f70r5) (.seq (.ops f70r6) (.cond (t 24) (.seq (.ops f70r7) .ret) .skip)))) (.ops f70r8))))
def f70r10 : List SOper := [
 o 4 (.mv (b true))]
def f70 : SCode := (.seq (.ops f70r0) (.seq (.seq (.ops f70r1) (.cond (t 10) (.seq (.ops f70r2) .ret) .skip)) (.seq (.seq (.ops f70r3) (.block 0 (.loop f70l9))) (.seq (.ops f70r10) .ret))))
theorem f70_calls : Sound Tryz.prog 70 26 f70 [.t 4] := sound_of mixed Tryz.func70 rfl (by kernel_rfl) (by kernel_rfl) (by kernel_rfl)

/-! 71: slices.Equal[[]string,string] -/
def f71r0 : List SOper := [
 o 4 (.mv (b false))]
def f71r1 : List SOper := [
 o 6 (.mv (t 0)),
 o 7 (.len (t 6)),
 o 8 (.mv (t 1)),
 o 9 (.len (t 8)),
 o 10 (.cmp .neq (t 7) (t 9))]
def f71r2 : List SOper := [
 o 4 (.mv (b false))]
def f71r3 : List SOper := [
 o 11 (.mv (t 0)),
 o 12 (.len (t 11)),
 o 13 (.mv (i 0))]
def f71r4 : List SOper := [
 o 14 (.cmp .lss (t 13) (t 12))]
def f71r5 : List SOper := [
 o 15 (.mv (t 13)),
 o 5 (.mv (t 15))]
def f71r6 : List SOper := [
 o 16 (.mv (t 0)),
 o 17 (.mv (t 5)),
 o 18 (.ixs 1 (t 16) (t 17)),
 o 19 (.ld1 (t 18)),
 o 20 (.mv (t 1)),
 o 21 (.mv (t 5)),
 o 22 (.ixs 1 (t 20) (t 21)),
 o 23 (.ld1 (t 22)),
 o 24 (.cmp .neq (t 19) (t 23))]
def f71r7 : List SOper := [
 o 4 (.mv (b false))]
def f71r8 : List SOper := [
 o 25 (.ar .add (t 13) (i 1)),
 o 13 (.mv (t 25))]
def f71l9 : SCode := (.seq (.ops f71r4) (.seq (.cond (t 14) .skip (.exit 0)) (.seq (.block 1 (.seq (.ops f71r5) (.seq (.ops f71r6) (.cond (t 24) (.seq (.ops f71r7) .ret) .skip)))) (.ops f71r8))))
def f71r10 : List SOper := [
 o 4 (.mv (b true))]
def f71 : SCode := (.seq (.ops f71r0) (.seq (.seq (.ops f71r1) (.cond (t 10) (.seq (.ops f71r2) .ret) .skip)) (.seq (.seq (.ops f71r3) (.block 0 (.loop f71l9))) (.seq (.ops f71r10) .ret))))
theorem f71_calls : Sound Tryz.prog 71 26 f71 [.t 4] := sound_of mixed Tryz.func71 rfl (by kernel_rfl) (by kernel_rfl) (by kernel_rfl)

/-! 72: slices.Equal[[]tabor/api.Rank,tabor/api.Rank] -/
def f72r0 : List SOper := [
 o 4 (.mv (b false))]
def f72r1 : List SOper := [
 o 6 (.mv (t 0)),
 o 7 (.len (t 6)),
 o 8 (.mv (t 1)),
 o 9 (.len (t 8)),
 o 10 (.cmp .neq (t 7) (t 9))]
def f72r2 : List SOper := [
 o 4 (.mv (b false))]
def f72r3 : List SOper := [
 o 11 (.mv (t 0)),
 o 12 (.len (t 11)),
 o 13 (.mv (i 0))]
def f72r4 : List SOper := [
 o 14 (.cmp .lss (t 13) (t 12))]
def f72r5 : List SOper := [
 o 15 (.mv (t 13)),
 o 5 (.mv (t 15))]
def f72r6 : List SOper := [
 o 16 (.mv (t 0)),
 o 17 (.mv (t 5)),
 o 18 (.ixs 2 (t 16) (t 17)),
 o 19 (.ldn 2 (t 18)),
 o 20 (.mv (t 1)),
 o 21 (.mv (t 5)),
 o 22 (.ixs 2 (t 20) (t 21)),
 o 23 (.ldn 2 (t 22)),
 o 24 (.eqa true [.str, (.int .i64)] (t 19) (t 23))]
def f72r7 : List SOper := [
 o 4 (.mv (b false))]
def f72r8 : List SOper := [
 o 25 (.ar .add (t 13) (i 1)),
 o 13 (.mv (t 25))]
def f72l9 : SCode := (.seq (.ops f72r4) (.seq (.cond (t 14) .skip (.exit 0)) (.seq (.block 1 (.seq (.ops f72r5) (.seq (.ops f72r6) (.cond (t 24) (.seq (.ops f72r7) .ret) .skip)))) (.ops f72r8))))
def f72r10 : List SOper := [
 o 4 (.mv (b true))]
def f72 : SCode := (.seq (.ops f72r0) (.seq (.seq (.ops f72r1) (.cond (t 10) (.seq (.ops f72r2) .ret) .skip)) (.seq (.seq (.ops f72r3) (.block 0 (.loop f72l9))) (.seq (.ops f72r10) .ret))))
theorem f72_calls : Sound Tryz.prog 72 26 f72 [.t 4] := sound_of mixed Tryz.func72 rfl (by kernel_rfl) (by kernel_rfl) (by kernel_rfl)

/-! 73: slices.ContainsFunc[[]string,string] -/
def f73r0 : List SOper := [
 o 4 (.mv (b false))]
def f73r1 : List SOper := [
 o 5 (.mv (t 0)),
 o 6 (.mv (t 1)),
 o 7 (.call 95 [(t 5), (t 6)]),
 o 8 (.cmp .geq (t 7) (i 0)),
 o 4 (.mv (t 8))]
def f73 : SCode := (.seq (.ops f73r0) (.seq (.ops f73r1) .ret))
theorem f73_calls : Sound Tryz.prog 73 9 f73 [.t 4] := sound_of mixed Tryz.func73 rfl (by kernel_rfl) (by kernel_rfl) (by kernel_rfl)

/-! 74: tabor/keys.short$1 -/
def f74r0 : List SOper := [
 o 2 (.mv (b false))]
def f74r1 : List SOper := [
 o 3 (.mv (t 0)),
 o 4 (.lens (t 3)),
 o 5 (.cmp .gtr (t 4) (i 1048576)),
 o 2 (.mv (t 5))]
def f74 : SCode := (.seq (.ops f74r0) (.seq (.ops f74r1) .ret))
theorem f74_calls : Sound Tryz.prog 74 6 f74 [.t 2] := sound_of mixed Tryz.func74 rfl (by kernel_rfl) (by kernel_rfl) (by kernel_rfl)

/-! 75: internal/bytealg.CompareString -/
def f75r0 : List SOper := [
 o 4 (.mv (i 0))]
def f75r1 : List SOper := [
 o 5 (.mv (t 0)),
 o 6 (.mv (t 1)),
 o 7 (.callx 96 [(t 5), (t 6)]),
 o 4 (.mv (t 7))]
def f75 : SCode := (.seq (.ops f75r0) (.seq (.ops f75r1) .ret))
theorem f75_calls : Sound Tryz.prog 75 8 f75 [.t 4] := sound_of mixed Tryz.func75 rfl (by kernel_rfl) (by kernel_rfl) (by kernel_rfl)

/-! 76: tabor/keys.rules$1 -/
def f76r0 : List SOper := [
 o 3 (.box (t 1)),
 o 4 (.mv (i 0))]
def f76r1 : List SOper := [
 o 5 (.mv (t 0)),
 o 6 (.build [(.int .i64 0), (.string ⟨#[]⟩), (.slice none 0 0), (.slice none 0 0), (.slice none 0 0), (.bool false), (.int .i64 0)] [] []),
 o 7 (.nilck (t 5)),
 q (.st 7 (t 7) (t 6))]
def f76r2 : List SOper := [
 o 4 (.mv (i 0))]
def f76 : SCode := (.seq (.ops f76r0) (.seq (.ops f76r1) (.seq (.ops f76r2) .ret)))
theorem f76_calls : Sound Tryz.prog 76 8 f76 [.t 4] := sound_of mixed Tryz.func76 rfl (by kernel_rfl) (by kernel_rfl) (by kernel_rfl)

/-! 77: tabor/keys.rules$2 -/
def f77r0 : List SOper := [
 o 3 (.box (t 1)),
 o 4 (.mv (i 0))]
def f77r1 : List SOper := [
 o 5 (.mv (t 0)),
 o 6 (.fa 3 (t 3)),
 o 7 (.ld1 (t 6)),
 o 8 (.build [(.int .i64 0), (.string ⟨#[]⟩), (.slice none 0 0), (.slice none 0 0), (.slice none 0 0), (.bool false), (.int .i64 0)] [(0, 1), (1, 1)] [(i 1), (t 7)]),
 o 9 (.nilck (t 5)),
 q (.st 7 (t 9) (t 8))]
def f77r2 : List SOper := [
 o 4 (.mv (i 0))]
def f77 : SCode := (.seq (.ops f77r0) (.seq (.ops f77r1) (.seq (.ops f77r2) .ret)))
theorem f77_calls : Sound Tryz.prog 77 10 f77 [.t 4] := sound_of mixed Tryz.func77 rfl (by kernel_rfl) (by kernel_rfl) (by kernel_rfl)

/-! 78: tabor/keys.rules$3 -/
def f78r0 : List SOper := [
 o 3 (.box (t 1)),
 o 4 (.mv (i 0))]
def f78p1 : List SOper := [
 o 5 (.mv (t 0)),
 o 6 (.mv (t 0)),
 o 7 (.fa 4 (t 3)),
 o 9 (.nilck (t 5)),
 o 10 (.fa 5 (t 9))]
def f78r1 : List SOper := [
 o 8 (.ld1 (t 7)),
 q (.st 1 (t 10) (b true)),
 o 11 (.nilck (t 6)),
 o 12 (.fa 6 (t 11)),
 q (.st 1 (t 12) (t 8))]
def f78s1 : List SOper := [
 q (.st 1 (t 10) (b true)),
 o 8 (.ld1 (t 7)),
 o 11 (.nilck (t 6)),
 o 12 (.fa 6 (t 11)),
 q (.st 1 (t 12) (t 8))]
def f78r2 : List SOper := [
 o 4 (.mv (i 0))]
def f78 : SCode := (.seq (.ops f78r0) (.seq (.two f78p1 f78r1 f78s1) (.seq (.ops f78r2) .ret)))
theorem f78_calls : Sound Tryz.prog 78 13 f78 [.t 4] := sound_of mixed Tryz.func78 rfl (by kernel_rfl) (by kernel_rfl) (by kernel_rfl)

/-! 79: tabor/keys.rules$4 -/
def f79r0 : List SOper := [
 o 3 (.box (t 1)),
 o 4 (.mv (i 0))]
def f79r1 : List SOper := [
 o 5 (.mv (t 0)),
 o 6 (.mv (t 0)),
 o 7 (.nilck (t 5)),
 o 8 (.fa 5 (t 7)),
 q (.st 1 (t 8) (b false)),
 o 9 (.nilck (t 6)),
 o 10 (.fa 6 (t 9)),
 q (.st 1 (t 10) (i 0))]
def f79r2 : List SOper := [
 o 4 (.mv (i 0))]
def f79 : SCode := (.seq (.ops f79r0) (.seq (.ops f79r1) (.seq (.ops f79r2) .ret)))
theorem f79_calls : Sound Tryz.prog 79 11 f79 [.t 4] := sound_of mixed Tryz.func79 rfl (by kernel_rfl) (by kernel_rfl) (by kernel_rfl)

/-! 80: tabor/keys.hash -/
def f80r0 : List SOper := [
 o 3 (.box (t 1)),
 o 4 (.mv (i 0))]
def f80r1 : List SOper := [
 o 8 (.mv (t 0)),
 o 9 (.nilck (t 8)),
 o 10 (.fa 2 (t 9)),
 o 11 (.ld1 (t 10)),
 o 12 (.fa 2 (t 3)),
 o 13 (.ld1 (t 12)),
 o 14 (.call 97 [(t 11), (u 98), (t 13)]),
 o 7 (.mv (t 14)),
 o 15 (.ext (t 7) 0),
 o 16 (.ext (t 7) 1),
 o 5 (.mv (t 15)),
 o 6 (.mv (t 16))]
def f80r2 : List SOper := [
 o 17 (.mv (t 6)),
 o 18 (.un .not (t 17))]
def f80r3 : List SOper := [
 o 19 (.mv (t 0)),
 o 20 (.mv (t 0)),
 o 21 (.nilck (t 20)),
 o 22 (.fa 2 (t 21)),
 o 23 (.ld1 (t 22)),
 o 24 (.mv (t 5)),
 o 25 (.fa 2 (t 3)),
 o 26 (.ld1 (t 25)),
 o 27 (.build [(.string ⟨#[]⟩), (.string ⟨#[]⟩)] [(0, 1)] [(t 26)]),
 o 28 (.bslice [(.string ⟨#[]⟩), (.string ⟨#[]⟩)] 1 [(0, 2)] [(t 27)]),
 o 29 (.call 99 [(t 23), (t 24), (t 28)]),
 o 30 (.nilck (t 19)),
 o 31 (.fa 2 (t 30)),
 q (.st 1 (t 31) (t 29))]
def f80r4 : List SOper := [
 o 32 (.mv (t 0)),
 o 33 (.nilck (t 32)),
 o 34 (.fa 2 (t 33)),
 o 35 (.ld1 (t 34)),
 o 36 (.mv (t 5)),
 o 37 (.fa 3 (t 3)),
 o 38 (.ld1 (t 37)),
 o 39 (.ixs 2 (t 35) (t 36)),
 o 40 (.fa 1 (t 39)),
 q (.st 1 (t 40) (t 38))]
def f80r5 : List SOper := [
 o 4 (.mv (i 0))]
def f80 : SCode := (.seq (.ops f80r0) (.seq (.ops f80r1) (.seq (.seq (.ops f80r2) (.cond (t 18) (.ops f80r3) .skip)) (.seq (.ops f80r4) (.seq (.ops f80r5) .ret)))))
theorem f80_calls : Sound Tryz.prog 80 41 f80 [.t 4] := sound_of mixed Tryz.func80 rfl (by kernel_rfl) (by kernel_rfl) (by kernel_rfl)

/-! 81: tabor/keys.unhash -/
def f81r0 : List SOper := [
 o 3 (.box (t 1)),
 o 4 (.mv (i 0))]
def f81r1 : List SOper := [
 o 8 (.mv (t 0)),
 o 9 (.nilck (t 8)),
 o 10 (.fa 2 (t 9)),
 o 11 (.ld1 (t 10)),
 o 12 (.fa 2 (t 3)),
 o 13 (.ld1 (t 12)),
 o 14 (.call 97 [(t 11), (u 98), (t 13)]),
 o 7 (.mv (t 14)),
 o 15 (.ext (t 7) 0),
 o 16 (.ext (t 7) 1),
 o 5 (.mv (t 15)),
 o 6 (.mv (t 16))]
def f81r2 : List SOper := [
 o 17 (.mv (t 6)),
 o 18 (.un .not (t 17))]
def f81r3 : List SOper := [
 o 4 (.mv (i 5))]
def f81r4 : List SOper := [
 o 19 (.mv (t 0)),
 o 20 (.mv (t 0)),
 o 21 (.nilck (t 20)),
 o 22 (.fa 2 (t 21)),
 o 23 (.ld1 (t 22)),
 o 24 (.mv (t 5)),
 o 25 (.mv (t 5)),
 o 26 (.ar .add (t 25) (i 1)),
 o 27 (.call 100 [(t 23), (t 24), (t 26)]),
 o 28 (.nilck (t 19)),
 o 29 (.fa 2 (t 28)),
 q (.st 1 (t 29) (t 27))]
def f81r5 : List SOper := [
 o 4 (.mv (i 0))]
def f81 : SCode := (.seq (.ops f81r0) (.seq (.ops f81r1) (.seq (.seq (.ops f81r2) (.cond (t 18) (.seq (.ops f81r3) .ret) .skip)) (.seq (.ops f81r4) (.seq (.ops f81r5) .ret)))))
theorem f81_calls : Sound Tryz.prog 81 30 f81 [.t 4] := sound_of mixed Tryz.func81 rfl (by kernel_rfl) (by kernel_rfl) (by kernel_rfl)

/-! 82: tabor/keys.rules$5 -/
def f82r0 : List SOper := [
 o 3 (.box (t 1)),
 o 4 (.mv (i 0))]
def f82r1 : List SOper := [
 o 5 (.mv (t 0)),
 o 6 (.mv (t 0)),
 o 7 (.nilck (t 6)),
 o 8 (.fa 3 (t 7)),
 o 9 (.ld1 (t 8)),
 o 10 (.fa 3 (t 3)),
 o 11 (.ld1 (t 10)),
 o 12 (.bslice [(.string ⟨#[]⟩)] 1 [(0, 1)] [(t 11)]),
 o 13 (.call 83 [(t 9), (i 0), (t 12)]),
 o 14 (.nilck (t 5)),
 o 15 (.fa 3 (t 14)),
 q (.st 1 (t 15) (t 13))]
def f82r2 : List SOper := [
 o 4 (.mv (i 0))]
def f82 : SCode := (.seq (.ops f82r0) (.seq (.ops f82r1) (.seq (.ops f82r2) .ret)))
theorem f82_calls : Sound Tryz.prog 82 16 f82 [.t 4] := sound_of mixed Tryz.func82 rfl (by kernel_rfl) (by kernel_rfl) (by kernel_rfl)

/-! 83: slices.Insert[[]string,string] -/
def f83r0 : List SOper := [
 o 6 (.mv (.const (.slice none 0 0)))]
def f83r1 : List SOper := [
 o 10 (.mv (t 0)),
 o 11 (.mv (t 1)),
 o 12 (.slc 1 (t 10) (some (t 11)) none)]
def f83r2 : List SOper := [
 o 13 (.mv (t 2)),
 o 14 (.len (t 13)),
 o 7 (.mv (t 14))]
def f83r3 : List SOper := [
 o 15 (.mv (t 7)),
 o 16 (.cmp .eql (t 15) (i 0))]
def f83r4 : List SOper := [
 o 17 (.mv (t 0)),
 o 6 (.mv (t 17))]
def f83r5 : List SOper := [
 o 18 (.mv (t 0)),
 o 19 (.len (t 18)),
 o 8 (.mv (t 19))]
def f83r6 : List SOper := [
 o 20 (.mv (t 1)),
 o 21 (.mv (t 8)),
 o 22 (.cmp .eql (t 20) (t 21))]
def f83r7 : List SOper := [
 o 23 (.mv (t 0)),
 o 24 (.mv (t 2)),
 o 25 (.app 1 16 [(.string ⟨#[]⟩)] (t 23) (t 24)),
 o 6 (.mv (t 25))]
def f83r8 : List SOper := [
 o 26 (.mv (t 8)),
 o 27 (.mv (t 7)),
 o 28 (.ar .add (t 26) (t 27)),
 o 29 (.mv (t 0)),
 o 30 (.capc (t 29)),
 o 31 (.cmp .gtr (t 28) (t 30))]
def f83r9 : List SOper := [
 o 32 (.mv (t 0)),
 o 33 (.mv (t 1)),
 o 34 (.slc 1 (t 32) none (some (t 33))),
 o 35 (.mv (t 8)),
 o 36 (.mv (t 7)),
 o 37 (.ar .add (t 35) (t 36)),
 o 38 (.mv (t 1)),
 o 39 (.ar .sub (t 37) (t 38)),
 o 40 (.appz 1 16 [(.string ⟨#[]⟩)] (t 34) (t 39)),
 o 9 (.mv (t 40))]
def f83r10 : List SOper := [
 o 41 (.mv (t 9)),
 o 42 (.mv (t 1)),
 o 43 (.slc 1 (t 41) (some (t 42)) none),
 o 44 (.mv (t 2)),
 o 45 (.cpy 1 (t 43) (t 44))]
def f83r11 : List SOper := [
 o 46 (.mv (t 9)),
 o 47 (.mv (t 1)),
 o 48 (.mv (t 7)),
 o 49 (.ar .add (t 47) (t 48)),
 o 50 (.slc 1 (t 46) (some (t 49)) none),
 o 51 (.mv (t 0)),
 o 52 (.mv (t 1)),
 o 53 (.slc 1 (t 51) (some (t 52)) none),
 o 54 (.cpy 1 (t 50) (t 53))]
def f83r12 : List SOper := [
 o 55 (.mv (t 9)),
 o 6 (.mv (t 55))]
def f83r13 : List SOper := [
 o 56 (.mv (t 0)),
 o 57 (.mv (t 8)),
 o 58 (.mv (t 7)),
 o 59 (.ar .add (t 57) (t 58)),
 o 60 (.slc 1 (t 56) none (some (t 59))),
 o 0 (.mv (t 60))]
def f83r14 : List SOper := [
 o 61 (.mv (t 2)),
 o 62 (.mv (t 0)),
 o 63 (.mv (t 1)),
 o 64 (.mv (t 7)),
 o 65 (.ar .add (t 63) (t 64)),
 o 66 (.slc 1 (t 62) (some (t 65)) none),
 o 67 (.callx 101 [(t 61), (t 66)]),
 o 68 (.un .not (t 67))]
def f83r15 : List SOper := [
 o 69 (.mv (t 0)),
 o 70 (.mv (t 1)),
 o 71 (.mv (t 7)),
 o 72 (.ar .add (t 70) (t 71)),
 o 73 (.slc 1 (t 69) (some (t 72)) none),
 o 74 (.mv (t 0)),
 o 75 (.mv (t 1)),
 o 76 (.slc 1 (t 74) (some (t 75)) none),
 o 77 (.cpy 1 (t 73) (t 76))]
def f83r16 : List SOper := [
 o 78 (.mv (t 0)),
 o 79 (.mv (t 1)),
 o 80 (.slc 1 (t 78) (some (t 79)) none),
 o 81 (.mv (t 2)),
 o 82 (.cpy 1 (t 80) (t 81))]
def f83r17 : List SOper := [
 o 83 (.mv (t 0)),
 o 6 (.mv (t 83))]
def f83r18 : List SOper := [
 o 84 (.mv (t 0)),
 o 85 (.mv (t 8)),
 o 86 (.slc 1 (t 84) (some (t 85)) none),
 o 87 (.mv (t 2)),
 o 88 (.cpy 1 (t 86) (t 87))]
def f83r19 : List SOper := [
 o 89 (.mv (t 0)),
 o 90 (.mv (t 1)),
 o 91 (.slc 1 (t 89) (some (t 90)) none),
 o 92 (.mv (t 7)),
 o 93 (.call 102 [(t 91), (t 92)])]
def f83r20 : List SOper := [
 o 94 (.mv (t 0)),
 o 6 (.mv (t 94))]
def f83 : SCode := (.seq (.ops f83r0) (.seq (.ops f83r1) (.seq (.ops f83r2) (.seq (.seq (.ops f83r3) (.cond (t 16) (.seq (.ops f83r4) .ret) .skip)) (.seq (.ops f83r5) (.seq (.seq (.ops f83r6) (.cond (t 22) (.seq (.ops f83r7) .ret) .skip)) (.seq (.seq (.ops f83r8) (.cond (t 31) (.seq (.ops f83r9) (.seq (.ops f83r10) (.seq (.ops f83r11) (.seq (.ops f83r12) .ret)))) .skip)) (.seq (.ops f83r13) (.seq (.seq (.ops f83r14) (.cond (t 68) (.seq (.ops f83r15) (.seq (.ops f83r16) (.seq (.ops f83r17) .ret))) .skip)) (.seq (.ops f83r18) (.seq (.ops f83r19) (.seq (.ops f83r20) .ret))))))))))))
theorem f83_calls : Sound Tryz.prog 83 95 f83 [.t 6] := sound_of mixed Tryz.func83 rfl (by kernel_rfl) (by kernel_rfl) (by kernel_rfl)

/-! 84: tabor/keys.rules$6 -/
def f84r0 : List SOper := [
 o 3 (.box (t 1)),
 o 4 (.mv (i 0))]
def f84r1 : List SOper := [
 o 5 (.mv (t 0)),
 o 6 (.mv (t 0)),
 o 7 (.nilck (t 6)),
 o 8 (.fa 3 (t 7)),
 o 9 (.ld1 (t 8)),
 o 10 (.fa 3 (t 3)),
 o 11 (.ld1 (t 10)),
 o 12 (.bslice [(.string ⟨#[]⟩)] 1 [(0, 1)] [(t 11)]),
 o 13 (.app 1 16 [(.string ⟨#[]⟩)] (t 9) (t 12)),
 o 14 (.nilck (t 5)),
 o 15 (.fa 3 (t 14)),
 q (.st 1 (t 15) (t 13))]
def f84r2 : List SOper := [
 o 4 (.mv (i 0))]
def f84 : SCode := (.seq (.ops f84r0) (.seq (.ops f84r1) (.seq (.ops f84r2) .ret)))
theorem f84_calls : Sound Tryz.prog 84 16 f84 [.t 4] := sound_of mixed Tryz.func84 rfl (by kernel_rfl) (by kernel_rfl) (by kernel_rfl)

/-! 85: tabor/keys.rules$7 -/
def f85r0 : List SOper := [
 o 3 (.box (t 1)),
 o 4 (.mv (i 0))]
def f85r1 : List SOper := [
 o 5 (.mv (t 0)),
 o 6 (.mv (t 0)),
 o 7 (.nilck (t 6)),
 o 8 (.fa 3 (t 7)),
 o 9 (.ld1 (t 8)),
 o 10 (.slc 1 (t 9) (some (i 1)) none),
 o 11 (.nilck (t 5)),
 o 12 (.fa 3 (t 11)),
 q (.st 1 (t 12) (t 10))]
def f85r2 : List SOper := [
 o 4 (.mv (i 0))]
def f85 : SCode := (.seq (.ops f85r0) (.seq (.ops f85r1) (.seq (.ops f85r2) .ret)))
theorem f85_calls : Sound Tryz.prog 85 13 f85 [.t 4] := sound_of mixed Tryz.func85 rfl (by kernel_rfl) (by kernel_rfl) (by kernel_rfl)

/-! 86: tabor/keys.rules$8 -/
def f86r0 : List SOper := [
 o 3 (.box (t 1)),
 o 4 (.mv (i 0))]
def f86r1 : List SOper := [
 o 5 (.mv (t 0)),
 o 6 (.mv (t 0)),
 o 7 (.nilck (t 6)),
 o 8 (.fa 3 (t 7)),
 o 9 (.ld1 (t 8)),
 o 10 (.mv (t 0)),
 o 11 (.nilck (t 10)),
 o 12 (.fa 3 (t 11)),
 o 13 (.ld1 (t 12)),
 o 14 (.len (t 13)),
 o 15 (.ar .sub (t 14) (i 1)),
 o 16 (.slc 1 (t 9) none (some (t 15))),
 o 17 (.nilck (t 5)),
 o 18 (.fa 3 (t 17)),
 q (.st 1 (t 18) (t 16))]
def f86r2 : List SOper := [
 o 4 (.mv (i 0))]
def f86 : SCode := (.seq (.ops f86r0) (.seq (.ops f86r1) (.seq (.ops f86r2) .ret)))
theorem f86_calls : Sound Tryz.prog 86 19 f86 [.t 4] := sound_of mixed Tryz.func86 rfl (by kernel_rfl) (by kernel_rfl) (by kernel_rfl)

/-! 87: tabor/keys.at -/
def f87r0 : List SOper := [
 o 3 (.box (t 1)),
 o 4 (.mv (i 0))]
def f87r1 : List SOper := [
 o 5 (.fa 4 (t 3)),
 o 6 (.ld1 (t 5)),
 o 7 (.cmp .lss (t 6) (i 0)),
 o 8 (.mv (t 7)),
 n 9 8 (.fa 4 (t 3)),
 n 10 8 (.ld1 (t 9)),
 n 11 8 (.mv (t 0)),
 n 12 8 (.nilck (t 11)),
 n 13 8 (.fa 3 (t 12)),
 n 14 8 (.ld1 (t 13)),
 n 15 8 (.len (t 14)),
 n 16 8 (.cmp .geq (t 10) (t 15)),
 o 17 (.pick (t 8) (b true) (t 16))]
def f87r2 : List SOper := [
 o 4 (.mv (i 4))]
def f87r3 : List SOper := [
 o 18 (.mv (t 0)),
 o 19 (.nilck (t 18)),
 o 20 (.fa 3 (t 19)),
 o 21 (.ld1 (t 20)),
 o 22 (.fa 4 (t 3)),
 o 23 (.ld1 (t 22)),
 o 24 (.fa 3 (t 3)),
 o 25 (.ld1 (t 24)),
 o 26 (.ixs 1 (t 21) (t 23)),
 q (.st 1 (t 26) (t 25))]
def f87r4 : List SOper := [
 o 4 (.mv (i 0))]
def f87 : SCode := (.seq (.ops f87r0) (.seq (.seq (.ops f87r1) (.cond (t 17) (.seq (.ops f87r2) .ret) .skip)) (.seq (.ops f87r3) (.seq (.ops f87r4) .ret))))
theorem f87_calls : Sound Tryz.prog 87 27 f87 [.t 4] := sound_of mixed Tryz.func87 rfl (by kernel_rfl) (by kernel_rfl) (by kernel_rfl)

/-! 88: tabor/keys.add -/
def f88r0 : List SOper := [
 o 3 (.box (t 1)),
 o 4 (.mv (i 0))]
def f88r1 : List SOper := [
 o 8 (.mv (t 0)),
 o 9 (.nilck (t 8)),
 o 10 (.fa 3 (t 9)),
 o 11 (.ld1 (t 10)),
 o 12 (.fa 2 (t 3)),
 o 13 (.ld1 (t 12)),
 o 14 (.call 103 [(t 11), (u 104), (t 13)]),
 o 7 (.mv (t 14)),
 o 15 (.ext (t 7) 0),
 o 16 (.ext (t 7) 1),
 o 5 (.mv (t 15)),
 o 6 (.mv (t 16))]
def f88r2 : List SOper := [
 o 17 (.mv (t 6)),
 o 18 (.un .not (t 17))]
def f88r3 : List SOper := [
 o 19 (.mv (t 0)),
 o 20 (.mv (t 0)),
 o 21 (.nilck (t 20)),
 o 22 (.fa 3 (t 21)),
 o 23 (.ld1 (t 22)),
 o 24 (.mv (t 5)),
 o 25 (.fa 2 (t 3)),
 o 26 (.ld1 (t 25)),
 o 27 (.bslice [(.string ⟨#[]⟩)] 1 [(0, 1)] [(t 26)]),
 o 28 (.call 83 [(t 23), (t 24), (t 27)]),
 o 29 (.nilck (t 19)),
 o 30 (.fa 3 (t 29)),
 q (.st 1 (t 30) (t 28))]
def f88r4 : List SOper := [
 o 4 (.mv (i 0))]
def f88 : SCode := (.seq (.ops f88r0) (.seq (.seq (.ops f88r1) (.seq (.ops f88r2) (.cond (t 18) (.ops f88r3) .skip))) (.seq (.ops f88r4) .ret)))
theorem f88_calls : Sound Tryz.prog 88 31 f88 [.t 4] := sound_of mixed Tryz.func88 rfl (by kernel_rfl) (by kernel_rfl) (by kernel_rfl)

/-! 89: tabor/keys.remove -/
def f89r0 : List SOper := [
 o 3 (.box (t 1)),
 o 4 (.mv (i 0))]
def f89r1 : List SOper := [
 o 8 (.mv (t 0)),
 o 9 (.nilck (t 8)),
 o 10 (.fa 3 (t 9)),
 o 11 (.ld1 (t 10)),
 o 12 (.fa 2 (t 3)),
 o 13 (.ld1 (t 12)),
 o 14 (.call 103 [(t 11), (u 104), (t 13)]),
 o 7 (.mv (t 14)),
 o 15 (.ext (t 7) 0),
 o 16 (.ext (t 7) 1),
 o 5 (.mv (t 15)),
 o 6 (.mv (t 16))]
def f89r2 : List SOper := [
 o 17 (.mv (t 6)),
 o 18 (.un .not (t 17))]
def f89r3 : List SOper := [
 o 4 (.mv (i 5))]
def f89r4 : List SOper := [
 o 19 (.mv (t 0)),
 o 20 (.mv (t 0)),
 o 21 (.nilck (t 20)),
 o 22 (.fa 3 (t 21)),
 o 23 (.ld1 (t 22)),
 o 24 (.mv (t 5)),
 o 25 (.mv (t 5)),
 o 26 (.ar .add (t 25) (i 1)),
 o 27 (.call 105 [(t 23), (t 24), (t 26)]),
 o 28 (.nilck (t 19)),
 o 29 (.fa 3 (t 28)),
 q (.st 1 (t 29) (t 27))]
def f89r5 : List SOper := [
 o 4 (.mv (i 0))]
def f89 : SCode := (.seq (.ops f89r0) (.seq (.ops f89r1) (.seq (.seq (.ops f89r2) (.cond (t 18) (.seq (.ops f89r3) .ret) .skip)) (.seq (.ops f89r4) (.seq (.ops f89r5) .ret)))))
theorem f89_calls : Sound Tryz.prog 89 30 f89 [.t 4] := sound_of mixed Tryz.func89 rfl (by kernel_rfl) (by kernel_rfl) (by kernel_rfl)

/-! 90: tabor/keys.rank -/
def f90r0 : List SOper := [
 o 3 (.box (t 1)),
 o 4 (.mv (i 0))]
def f90r1 : List SOper := [
 o 8 (.mv (t 0)),
 o 9 (.ldn 5 (t 3)),
 o 10 (.call 91 [(t 8), (t 9)])]
def f90r2 : List SOper := [
 o 11 (.fa 2 (t 3)),
 o 12 (.ld1 (t 11)),
 o 13 (.fa 4 (t 3)),
 o 14 (.ld1 (t 13)),
 o 15 (.build [(.string ⟨#[]⟩), (.int .i64 0)] [(0, 1), (1, 1)] [(t 12), (t 14)]),
 o 5 (.new [(.string ⟨#[]⟩), (.int .i64 0)]),
 q (.st 2 (t 5) (t 15))]
def f90r3 : List SOper := [
 o 17 (.mv (t 0)),
 o 18 (.nilck (t 17)),
 o 19 (.fa 4 (t 18)),
 o 20 (.ld1 (t 19)),
 o 21 (.ldn 2 (t 5)),
 o 22 (.call 106 [(t 20), (t 21), (u 58)]),
 o 16 (.mv (t 22)),
 o 23 (.ext (t 16) 0),
 o 24 (.ext (t 16) 1),
 o 6 (.mv (t 23)),
 o 7 (.mv (t 24))]
def f90r4 : List SOper := [
 o 25 (.mv (t 0)),
 o 26 (.mv (t 0)),
 o 27 (.nilck (t 26)),
 o 28 (.fa 4 (t 27)),
 o 29 (.ld1 (t 28)),
 o 30 (.mv (t 6)),
 o 31 (.ldn 2 (t 5)),
 o 32 (.bslice [(.string ⟨#[]⟩), (.int .i64 0)] 1 [(0, 2)] [(t 31)]),
 o 33 (.call 107 [(t 29), (t 30), (t 32)]),
 o 34 (.nilck (t 25)),
 o 35 (.fa 4 (t 34)),
 q (.st 1 (t 35) (t 33))]
def f90r5 : List SOper := [
 o 4 (.mv (i 0))]
def f90 : SCode := (.seq (.ops f90r0) (.seq (.ops f90r1) (.seq (.ops f90r2) (.seq (.ops f90r3) (.seq (.ops f90r4) (.seq (.ops f90r5) .ret))))))
theorem f90_calls : Sound Tryz.prog 90 36 f90 [.t 4] := sound_of mixed Tryz.func90 rfl (by kernel_rfl) (by kernel_rfl) (by kernel_rfl)

/-! 91: tabor/keys.unrank -/
def f91r0 : List SOper := [
 o 3 (.box (t 1)),
 o 4 (.mv (i 0))]
def f91r1 : List SOper := [
 o 6 (.mv (t 0)),
 o 7 (.nilck (t 6)),
 o 8 (.fa 4 (t 7)),
 o 9 (.ld1 (t 8)),
 o 10 (.fn 109 [] [(t 3)]),
 o 11 (.call 108 [(t 9), (t 10)]),
 o 5 (.mv (t 11))]
def f91r2 : List SOper := [
 o 12 (.mv (t 5)),
 o 13 (.cmp .lss (t 12) (i 0))]
def f91r3 : List SOper := [
 o 4 (.mv (i 5))]
def f91r4 : List SOper := [
 o 14 (.mv (t 0)),
 o 15 (.mv (t 0)),
 o 16 (.nilck (t 15)),
 o 17 (.fa 4 (t 16)),
 o 18 (.ld1 (t 17)),
 o 19 (.mv (t 5)),
 o 20 (.mv (t 5)),
 o 21 (.ar .add (t 20) (i 1)),
 o 22 (.call 110 [(t 18), (t 19), (t 21)]),
 o 23 (.nilck (t 14)),
 o 24 (.fa 4 (t 23)),
 q (.st 1 (t 24) (t 22))]
def f91r5 : List SOper := [
 o 4 (.mv (i 0))]
def f91 : SCode := (.seq (.ops f91r0) (.seq (.ops f91r1) (.seq (.seq (.ops f91r2) (.cond (t 13) (.seq (.ops f91r3) .ret) .skip)) (.seq (.ops f91r4) (.seq (.ops f91r5) .ret)))))
theorem f91_calls : Sound Tryz.prog 91 25 f91 [.t 4] := sound_of mixed Tryz.func91 rfl (by kernel_rfl) (by kernel_rfl) (by kernel_rfl)

/-! 92: slices.AppendSeq[[]string,string]: not simplified -/
/-! 93: slices.pdqsortOrdered[string]: not simplified -/
/-! 94: math/bits.Len: not simplified -/
/-! 95: slices.IndexFunc[[]string,string] -/
def f95r0 : List SOper := [
 o 4 (.mv (i 0))]
def f95r1 : List SOper := [
 o 6 (.mv (t 0)),
 o 7 (.len (t 6)),
 o 8 (.mv (i 0))]
def f95r2 : List SOper := [
 o 9 (.cmp .lss (t 8) (t 7))]
def f95r3 : List SOper := [
 o 10 (.mv (t 8)),
 o 5 (.mv (t 10))]
def f95r4 : List SOper := [
 o 11 (.mv (t 1)),
 o 12 (.mv (t 0)),
 o 13 (.mv (t 5)),
 o 14 (.ixs 1 (t 12) (t 13)),
 o 15 (.ld1 (t 14)),
 o 16 (.callv (t 11) [(t 15)])]
def f95r5 : List SOper := [
 o 17 (.mv (t 5)),
 o 4 (.mv (t 17))]
def f95r6 : List SOper := [
 o 18 (.ar .add (t 8) (i 1)),
 o 8 (.mv (t 18))]
def f95l7 : SCode := (.seq (.ops f95r2) (.seq (.cond (t 9) .skip (.exit 0)) (.seq (.block 1 (.seq (.ops f95r3) (.seq (.ops f95r4) (.cond (t 16) (.seq (.ops f95r5) .ret) .skip)))) (.ops f95r6))))
def f95r8 : List SOper := [
 o 4 (.mv (i (-1)))]
def f95 : SCode := (.seq (.ops f95r0) (.seq (.seq (.ops f95r1) (.block 0 (.loop f95l7))) (.seq (.ops f95r8) .ret)))
theorem f95_calls : Sound Tryz.prog 95 19 f95 [.t 4] := sound_of mixed Tryz.func95 rfl (by kernel_rfl) (by kernel_rfl) (by kernel_rfl)

/-! 96: internal/bytealg.abigen_runtime_cmpstring: not simplified -/
/-! 97: tabor/keys.byName[tabor/api.Pair] -/
def f97r0 : List SOper := [
 o 4 (.box (t 1)),
 o 6 (.mv (i 0)),
 o 7 (.mv (b false))]
def f97r1 : List SOper := [
 o 8 (.mv (t 0)),
 o 9 (.mv (t 2)),
 o 10 (.fn 123 [] [(t 4)]),
 o 11 (.call 122 [(t 8), (t 9), (t 10)]),
 o 12 (.ext (t 11) 0),
 o 13 (.ext (t 11) 1),
 o 6 (.mv (t 12)),
 o 7 (.mv (t 13))]
def f97 : SCode := (.seq (.ops f97r0) (.seq (.ops f97r1) .ret))
theorem f97_calls : Sound Tryz.prog 97 14 f97 [.t 6, .t 7] := sound_of mixed Tryz.func97 rfl (by kernel_rfl) (by kernel_rfl) (by kernel_rfl)

/-! 98: tabor/keys.pairName -/
def f98r0 : List SOper := [
 o 1 (.box (t 0)),
 o 2 (.mv e)]
def f98r1 : List SOper := [
 o 3 (.fa 0 (t 1)),
 o 4 (.ld1 (t 3)),
 o 2 (.mv (t 4))]
def f98 : SCode := (.seq (.ops f98r0) (.seq (.ops f98r1) .ret))
theorem f98_calls : Sound Tryz.prog 98 5 f98 [.t 2] := sound_of mixed Tryz.func98 rfl (by kernel_rfl) (by kernel_rfl) (by kernel_rfl)

/-! 99: slices.Insert[[]tabor/api.Pair,tabor/api.Pair] -/
def f99r0 : List SOper := [
 o 6 (.mv (.const (.slice none 0 0)))]
def f99r1 : List SOper := [
 o 10 (.mv (t 0)),
 o 11 (.mv (t 1)),
 o 12 (.slc 2 (t 10) (some (t 11)) none)]
def f99r2 : List SOper := [
 o 13 (.mv (t 2)),
 o 14 (.len (t 13)),
 o 7 (.mv (t 14))]
def f99r3 : List SOper := [
 o 15 (.mv (t 7)),
 o 16 (.cmp .eql (t 15) (i 0))]
def f99r4 : List SOper := [
 o 17 (.mv (t 0)),
 o 6 (.mv (t 17))]
def f99r5 : List SOper := [
 o 18 (.mv (t 0)),
 o 19 (.len (t 18)),
 o 8 (.mv (t 19))]
def f99r6 : List SOper := [
 o 20 (.mv (t 1)),
 o 21 (.mv (t 8)),
 o 22 (.cmp .eql (t 20) (t 21))]
def f99r7 : List SOper := [
 o 23 (.mv (t 0)),
 o 24 (.mv (t 2)),
 o 25 (.app 2 32 [(.string ⟨#[]⟩), (.string ⟨#[]⟩)] (t 23) (t 24)),
 o 6 (.mv (t 25))]
def f99r8 : List SOper := [
 o 26 (.mv (t 8)),
 o 27 (.mv (t 7)),
 o 28 (.ar .add (t 26) (t 27)),
 o 29 (.mv (t 0)),
 o 30 (.capc (t 29)),
 o 31 (.cmp .gtr (t 28) (t 30))]
def f99r9 : List SOper := [
 o 32 (.mv (t 0)),
 o 33 (.mv (t 1)),
 o 34 (.slc 2 (t 32) none (some (t 33))),
 o 35 (.mv (t 8)),
 o 36 (.mv (t 7)),
 o 37 (.ar .add (t 35) (t 36)),
 o 38 (.mv (t 1)),
 o 39 (.ar .sub (t 37) (t 38)),
 o 40 (.appz 2 32 [(.string ⟨#[]⟩), (.string ⟨#[]⟩)] (t 34) (t 39)),
 o 9 (.mv (t 40))]
def f99r10 : List SOper := [
 o 41 (.mv (t 9)),
 o 42 (.mv (t 1)),
 o 43 (.slc 2 (t 41) (some (t 42)) none),
 o 44 (.mv (t 2)),
 o 45 (.cpy 2 (t 43) (t 44))]
def f99r11 : List SOper := [
 o 46 (.mv (t 9)),
 o 47 (.mv (t 1)),
 o 48 (.mv (t 7)),
 o 49 (.ar .add (t 47) (t 48)),
 o 50 (.slc 2 (t 46) (some (t 49)) none),
 o 51 (.mv (t 0)),
 o 52 (.mv (t 1)),
 o 53 (.slc 2 (t 51) (some (t 52)) none),
 o 54 (.cpy 2 (t 50) (t 53))]
def f99r12 : List SOper := [
 o 55 (.mv (t 9)),
 o 6 (.mv (t 55))]
def f99r13 : List SOper := [
 o 56 (.mv (t 0)),
 o 57 (.mv (t 8)),
 o 58 (.mv (t 7)),
 o 59 (.ar .add (t 57) (t 58)),
 o 60 (.slc 2 (t 56) none (some (t 59))),
 o 0 (.mv (t 60))]
def f99r14 : List SOper := [
 o 61 (.mv (t 2)),
 o 62 (.mv (t 0)),
 o 63 (.mv (t 1)),
 o 64 (.mv (t 7)),
 o 65 (.ar .add (t 63) (t 64)),
 o 66 (.slc 2 (t 62) (some (t 65)) none),
 o 67 (.callx 124 [(t 61), (t 66)]),
 o 68 (.un .not (t 67))]
def f99r15 : List SOper := [
 o 69 (.mv (t 0)),
 o 70 (.mv (t 1)),
 o 71 (.mv (t 7)),
 o 72 (.ar .add (t 70) (t 71)),
 o 73 (.slc 2 (t 69) (some (t 72)) none),
 o 74 (.mv (t 0)),
 o 75 (.mv (t 1)),
 o 76 (.slc 2 (t 74) (some (t 75)) none),
 o 77 (.cpy 2 (t 73) (t 76))]
def f99r16 : List SOper := [
 o 78 (.mv (t 0)),
 o 79 (.mv (t 1)),
 o 80 (.slc 2 (t 78) (some (t 79)) none),
 o 81 (.mv (t 2)),
 o 82 (.cpy 2 (t 80) (t 81))]
def f99r17 : List SOper := [
 o 83 (.mv (t 0)),
 o 6 (.mv (t 83))]
def f99r18 : List SOper := [
 o 84 (.mv (t 0)),
 o 85 (.mv (t 8)),
 o 86 (.slc 2 (t 84) (some (t 85)) none),
 o 87 (.mv (t 2)),
 o 88 (.cpy 2 (t 86) (t 87))]
def f99r19 : List SOper := [
 o 89 (.mv (t 0)),
 o 90 (.mv (t 1)),
 o 91 (.slc 2 (t 89) (some (t 90)) none),
 o 92 (.mv (t 7)),
 o 93 (.call 125 [(t 91), (t 92)])]
def f99r20 : List SOper := [
 o 94 (.mv (t 0)),
 o 6 (.mv (t 94))]
def f99 : SCode := (.seq (.ops f99r0) (.seq (.ops f99r1) (.seq (.ops f99r2) (.seq (.seq (.ops f99r3) (.cond (t 16) (.seq (.ops f99r4) .ret) .skip)) (.seq (.ops f99r5) (.seq (.seq (.ops f99r6) (.cond (t 22) (.seq (.ops f99r7) .ret) .skip)) (.seq (.seq (.ops f99r8) (.cond (t 31) (.seq (.ops f99r9) (.seq (.ops f99r10) (.seq (.ops f99r11) (.seq (.ops f99r12) .ret)))) .skip)) (.seq (.ops f99r13) (.seq (.seq (.ops f99r14) (.cond (t 68) (.seq (.ops f99r15) (.seq (.ops f99r16) (.seq (.ops f99r17) .ret))) .skip)) (.seq (.ops f99r18) (.seq (.ops f99r19) (.seq (.ops f99r20) .ret))))))))))))
theorem f99_calls : Sound Tryz.prog 99 95 f99 [.t 6] := sound_of mixed Tryz.func99 rfl (by kernel_rfl) (by kernel_rfl) (by kernel_rfl)

/-! 100: slices.Delete[[]tabor/api.Pair,tabor/api.Pair] -/
def f100r0 : List SOper := [
 o 6 (.mv (.const (.slice none 0 0)))]
def f100r1 : List SOper := [
 o 8 (.mv (t 0)),
 o 9 (.mv (t 1)),
 o 10 (.mv (t 2)),
 o 11 (.mv (t 0)),
 o 12 (.len (t 11)),
 o 13 (.slc3 2 (t 8) (some (t 9)) (t 10) (t 12))]
def f100r2 : List SOper := [
 o 14 (.mv (t 1)),
 o 15 (.mv (t 2)),
 o 16 (.cmp .eql (t 14) (t 15))]
def f100r3 : List SOper := [
 o 17 (.mv (t 0)),
 o 6 (.mv (t 17))]
def f100r4 : List SOper := [
 o 18 (.mv (t 0)),
 o 19 (.len (t 18)),
 o 7 (.mv (t 19))]
def f100r5 : List SOper := [
 o 20 (.mv (t 0)),
 o 21 (.mv (t 1)),
 o 22 (.slc 2 (t 20) none (some (t 21))),
 o 23 (.mv (t 0)),
 o 24 (.mv (t 2)),
 o 25 (.slc 2 (t 23) (some (t 24)) none),
 o 26 (.app 2 32 [(.string ⟨#[]⟩), (.string ⟨#[]⟩)] (t 22) (t 25)),
 o 0 (.mv (t 26))]
def f100r6 : List SOper := [
 o 27 (.mv (t 0)),
 o 28 (.mv (t 0)),
 o 29 (.len (t 28)),
 o 30 (.mv (t 7)),
 o 31 (.slc 2 (t 27) (some (t 29)) (some (t 30))),
 q (.clr [(.string ⟨#[]⟩), (.string ⟨#[]⟩)] (t 31))]
def f100r7 : List SOper := [
 o 32 (.mv (t 0)),
 o 6 (.mv (t 32))]
def f100 : SCode := (.seq (.ops f100r0) (.seq (.ops f100r1) (.seq (.seq (.ops f100r2) (.cond (t 16) (.seq (.ops f100r3) .ret) .skip)) (.seq (.ops f100r4) (.seq (.ops f100r5) (.seq (.ops f100r6) (.seq (.ops f100r7) .ret)))))))
theorem f100_calls : Sound Tryz.prog 100 33 f100 [.t 6] := sound_of mixed Tryz.func100 rfl (by kernel_rfl) (by kernel_rfl) (by kernel_rfl)

/-! 101: slices.overlaps[string]: not simplified -/
/-! 102: slices.rotateRight[string]: not simplified -/
/-! 103: tabor/keys.byName[string] -/
def f103r0 : List SOper := [
 o 4 (.box (t 1)),
 o 6 (.mv (i 0)),
 o 7 (.mv (b false))]
def f103r1 : List SOper := [
 o 8 (.mv (t 0)),
 o 9 (.mv (t 2)),
 o 10 (.fn 128 [] [(t 4)]),
 o 11 (.call 127 [(t 8), (t 9), (t 10)]),
 o 12 (.ext (t 11) 0),
 o 13 (.ext (t 11) 1),
 o 6 (.mv (t 12)),
 o 7 (.mv (t 13))]
def f103 : SCode := (.seq (.ops f103r0) (.seq (.ops f103r1) .ret))
theorem f103_calls : Sound Tryz.prog 103 14 f103 [.t 6, .t 7] := sound_of mixed Tryz.func103 rfl (by kernel_rfl) (by kernel_rfl) (by kernel_rfl)

/-! 104: tabor/keys.itself -/
def f104r0 : List SOper := [
 o 2 (.mv e)]
def f104r1 : List SOper := [
 o 3 (.mv (t 0)),
 o 2 (.mv (t 3))]
def f104 : SCode := (.seq (.ops f104r0) (.seq (.ops f104r1) .ret))
theorem f104_calls : Sound Tryz.prog 104 4 f104 [.t 2] := sound_of mixed Tryz.func104 rfl (by kernel_rfl) (by kernel_rfl) (by kernel_rfl)

/-! 105: slices.Delete[[]string,string] -/
def f105r0 : List SOper := [
 o 6 (.mv (.const (.slice none 0 0)))]
def f105r1 : List SOper := [
 o 8 (.mv (t 0)),
 o 9 (.mv (t 1)),
 o 10 (.mv (t 2)),
 o 11 (.mv (t 0)),
 o 12 (.len (t 11)),
 o 13 (.slc3 1 (t 8) (some (t 9)) (t 10) (t 12))]
def f105r2 : List SOper := [
 o 14 (.mv (t 1)),
 o 15 (.mv (t 2)),
 o 16 (.cmp .eql (t 14) (t 15))]
def f105r3 : List SOper := [
 o 17 (.mv (t 0)),
 o 6 (.mv (t 17))]
def f105r4 : List SOper := [
 o 18 (.mv (t 0)),
 o 19 (.len (t 18)),
 o 7 (.mv (t 19))]
def f105r5 : List SOper := [
 o 20 (.mv (t 0)),
 o 21 (.mv (t 1)),
 o 22 (.slc 1 (t 20) none (some (t 21))),
 o 23 (.mv (t 0)),
 o 24 (.mv (t 2)),
 o 25 (.slc 1 (t 23) (some (t 24)) none),
 o 26 (.app 1 16 [(.string ⟨#[]⟩)] (t 22) (t 25)),
 o 0 (.mv (t 26))]
def f105r6 : List SOper := [
 o 27 (.mv (t 0)),
 o 28 (.mv (t 0)),
 o 29 (.len (t 28)),
 o 30 (.mv (t 7)),
 o 31 (.slc 1 (t 27) (some (t 29)) (some (t 30))),
 q (.clr [(.string ⟨#[]⟩)] (t 31))]
def f105r7 : List SOper := [
 o 32 (.mv (t 0)),
 o 6 (.mv (t 32))]
def f105 : SCode := (.seq (.ops f105r0) (.seq (.ops f105r1) (.seq (.seq (.ops f105r2) (.cond (t 16) (.seq (.ops f105r3) .ret) .skip)) (.seq (.ops f105r4) (.seq (.ops f105r5) (.seq (.ops f105r6) (.seq (.ops f105r7) .ret)))))))
theorem f105_calls : Sound Tryz.prog 105 33 f105 [.t 6] := sound_of mixed Tryz.func105 rfl (by kernel_rfl) (by kernel_rfl) (by kernel_rfl)

/-! 106: slices.BinarySearchFunc[[]tabor/api.Rank,tabor/api.Rank,tabor/api.Rank] -/
def f106r0 : List SOper := [
 o 4 (.box (t 1)),
 o 6 (.mv (i 0)),
 o 7 (.mv (b false))]
def f106r1 : List SOper := [
 o 12 (.mv (t 0)),
 o 13 (.len (t 12)),
 o 8 (.mv (t 13))]
def f106r2 : List SOper := [
 o 14 (.mv (t 8)),
 o 9 (.mv (i 0)),
 o 10 (.mv (t 14))]
def f106r3 : List SOper := [
 o 15 (.mv (t 9)),
 o 16 (.mv (t 10)),
 o 17 (.cmp .lss (t 15) (t 16))]
def f106r4 : List SOper := [
 o 18 (.mv (t 9)),
 o 19 (.mv (t 10)),
 o 20 (.ar .add (t 18) (t 19)),
 o 21 (.cvt .u64 (t 20)),
 o 22 (.sh .u64 false 1 (t 21)),
 o 23 (.cvt .i64 (t 22)),
 o 11 (.mv (t 23))]
def f106r5 : List SOper := [
 o 24 (.mv (t 2)),
 o 25 (.mv (t 0)),
 o 26 (.mv (t 11)),
 o 27 (.ixs 2 (t 25) (t 26)),
 o 28 (.ldn 2 (t 27)),
 o 29 (.ldn 2 (t 4)),
 o 30 (.callv (t 24) [(t 28), (t 29)]),
 o 31 (.cmp .lss (t 30) (i 0))]
def f106r6 : List SOper := [
 o 32 (.mv (t 11)),
 o 33 (.ar .add (t 32) (i 1)),
 o 9 (.mv (t 33))]
def f106r7 : List SOper := [
 o 34 (.mv (t 11)),
 o 10 (.mv (t 34))]
def f106l8 : SCode := (.seq (.seq (.ops f106r3) (.cond (t 17) .skip (.exit 0))) (.block 1 (.seq (.ops f106r4) (.seq (.ops f106r5) (.cond (t 31) (.ops f106r6) (.ops f106r7))))))
def f106r9 : List SOper := [
 o 35 (.mv (t 9)),
 o 36 (.mv (t 9)),
 o 37 (.mv (t 8)),
 o 38 (.cmp .lss (t 36) (t 37)),
 o 39 (.mv (t 38)),
 g 40 39 (.mv (t 2)),
 g 41 39 (.mv (t 0)),
 g 42 39 (.mv (t 9)),
 g 43 39 (.ixs 2 (t 41) (t 42)),
 g 44 39 (.ldn 2 (t 43)),
 g 45 39 (.ldn 2 (t 4)),
 g 46 39 (.callv (t 40) [(t 44), (t 45)]),
 g 47 39 (.cmp .eql (t 46) (i 0)),
 o 48 (.pick (t 39) (t 47) (b false)),
 o 6 (.mv (t 35)),
 o 7 (.mv (t 48))]
def f106 : SCode := (.seq (.ops f106r0) (.seq (.ops f106r1) (.seq (.ops f106r2) (.seq (.block 0 (.loop f106l8)) (.seq (.ops f106r9) .ret)))))
theorem f106_calls : Sound Tryz.prog 106 49 f106 [.t 6, .t 7] := sound_of mixed Tryz.func106 rfl (by kernel_rfl) (by kernel_rfl) (by kernel_rfl)

/-! 107: slices.Insert[[]tabor/api.Rank,tabor/api.Rank] -/
def f107r0 : List SOper := [
 o 6 (.mv (.const (.slice none 0 0)))]
def f107r1 : List SOper := [
 o 10 (.mv (t 0)),
 o 11 (.mv (t 1)),
 o 12 (.slc 2 (t 10) (some (t 11)) none)]
def f107r2 : List SOper := [
 o 13 (.mv (t 2)),
 o 14 (.len (t 13)),
 o 7 (.mv (t 14))]
def f107r3 : List SOper := [
 o 15 (.mv (t 7)),
 o 16 (.cmp .eql (t 15) (i 0))]
def f107r4 : List SOper := [
 o 17 (.mv (t 0)),
 o 6 (.mv (t 17))]
def f107r5 : List SOper := [
 o 18 (.mv (t 0)),
 o 19 (.len (t 18)),
 o 8 (.mv (t 19))]
def f107r6 : List SOper := [
 o 20 (.mv (t 1)),
 o 21 (.mv (t 8)),
 o 22 (.cmp .eql (t 20) (t 21))]
def f107r7 : List SOper := [
 o 23 (.mv (t 0)),
 o 24 (.mv (t 2)),
 o 25 (.app 2 24 [(.string ⟨#[]⟩), (.int .i64 0)] (t 23) (t 24)),
 o 6 (.mv (t 25))]
def f107r8 : List SOper := [
 o 26 (.mv (t 8)),
 o 27 (.mv (t 7)),
 o 28 (.ar .add (t 26) (t 27)),
 o 29 (.mv (t 0)),
 o 30 (.capc (t 29)),
 o 31 (.cmp .gtr (t 28) (t 30))]
def f107r9 : List SOper := [
 o 32 (.mv (t 0)),
 o 33 (.mv (t 1)),
 o 34 (.slc 2 (t 32) none (some (t 33))),
 o 35 (.mv (t 8)),
 o 36 (.mv (t 7)),
 o 37 (.ar .add (t 35) (t 36)),
 o 38 (.mv (t 1)),
 o 39 (.ar .sub (t 37) (t 38)),
 o 40 (.appz 2 24 [(.string ⟨#[]⟩), (.int .i64 0)] (t 34) (t 39)),
 o 9 (.mv (t 40))]
def f107r10 : List SOper := [
 o 41 (.mv (t 9)),
 o 42 (.mv (t 1)),
 o 43 (.slc 2 (t 41) (some (t 42)) none),
 o 44 (.mv (t 2)),
 o 45 (.cpy 2 (t 43) (t 44))]
def f107r11 : List SOper := [
 o 46 (.mv (t 9)),
 o 47 (.mv (t 1)),
 o 48 (.mv (t 7)),
 o 49 (.ar .add (t 47) (t 48)),
 o 50 (.slc 2 (t 46) (some (t 49)) none),
 o 51 (.mv (t 0)),
 o 52 (.mv (t 1)),
 o 53 (.slc 2 (t 51) (some (t 52)) none),
 o 54 (.cpy 2 (t 50) (t 53))]
def f107r12 : List SOper := [
 o 55 (.mv (t 9)),
 o 6 (.mv (t 55))]
def f107r13 : List SOper := [
 o 56 (.mv (t 0)),
 o 57 (.mv (t 8)),
 o 58 (.mv (t 7)),
 o 59 (.ar .add (t 57) (t 58)),
 o 60 (.slc 2 (t 56) none (some (t 59))),
 o 0 (.mv (t 60))]
def f107r14 : List SOper := [
 o 61 (.mv (t 2)),
 o 62 (.mv (t 0)),
 o 63 (.mv (t 1)),
 o 64 (.mv (t 7)),
 o 65 (.ar .add (t 63) (t 64)),
 o 66 (.slc 2 (t 62) (some (t 65)) none),
 o 67 (.callx 129 [(t 61), (t 66)]),
 o 68 (.un .not (t 67))]
def f107r15 : List SOper := [
 o 69 (.mv (t 0)),
 o 70 (.mv (t 1)),
 o 71 (.mv (t 7)),
 o 72 (.ar .add (t 70) (t 71)),
 o 73 (.slc 2 (t 69) (some (t 72)) none),
 o 74 (.mv (t 0)),
 o 75 (.mv (t 1)),
 o 76 (.slc 2 (t 74) (some (t 75)) none),
 o 77 (.cpy 2 (t 73) (t 76))]
def f107r16 : List SOper := [
 o 78 (.mv (t 0)),
 o 79 (.mv (t 1)),
 o 80 (.slc 2 (t 78) (some (t 79)) none),
 o 81 (.mv (t 2)),
 o 82 (.cpy 2 (t 80) (t 81))]
def f107r17 : List SOper := [
 o 83 (.mv (t 0)),
 o 6 (.mv (t 83))]
def f107r18 : List SOper := [
 o 84 (.mv (t 0)),
 o 85 (.mv (t 8)),
 o 86 (.slc 2 (t 84) (some (t 85)) none),
 o 87 (.mv (t 2)),
 o 88 (.cpy 2 (t 86) (t 87))]
def f107r19 : List SOper := [
 o 89 (.mv (t 0)),
 o 90 (.mv (t 1)),
 o 91 (.slc 2 (t 89) (some (t 90)) none),
 o 92 (.mv (t 7)),
 o 93 (.call 130 [(t 91), (t 92)])]
def f107r20 : List SOper := [
 o 94 (.mv (t 0)),
 o 6 (.mv (t 94))]
def f107 : SCode := (.seq (.ops f107r0) (.seq (.ops f107r1) (.seq (.ops f107r2) (.seq (.seq (.ops f107r3) (.cond (t 16) (.seq (.ops f107r4) .ret) .skip)) (.seq (.ops f107r5) (.seq (.seq (.ops f107r6) (.cond (t 22) (.seq (.ops f107r7) .ret) .skip)) (.seq (.seq (.ops f107r8) (.cond (t 31) (.seq (.ops f107r9) (.seq (.ops f107r10) (.seq (.ops f107r11) (.seq (.ops f107r12) .ret)))) .skip)) (.seq (.ops f107r13) (.seq (.seq (.ops f107r14) (.cond (t 68) (.seq (.ops f107r15) (.seq (.ops f107r16) (.seq (.ops f107r17) .ret))) .skip)) (.seq (.ops f107r18) (.seq (.ops f107r19) (.seq (.ops f107r20) .ret))))))))))))
theorem f107_calls : Sound Tryz.prog 107 95 f107 [.t 6] := sound_of mixed Tryz.func107 rfl (by kernel_rfl) (by kernel_rfl) (by kernel_rfl)

/-! 108: slices.IndexFunc[[]tabor/api.Rank,tabor/api.Rank] -/
def f108r0 : List SOper := [
 o 4 (.mv (i 0))]
def f108r1 : List SOper := [
 o 6 (.mv (t 0)),
 o 7 (.len (t 6)),
 o 8 (.mv (i 0))]
def f108r2 : List SOper := [
 o 9 (.cmp .lss (t 8) (t 7))]
def f108r3 : List SOper := [
 o 10 (.mv (t 8)),
 o 5 (.mv (t 10))]
def f108r4 : List SOper := [
 o 11 (.mv (t 1)),
 o 12 (.mv (t 0)),
 o 13 (.mv (t 5)),
 o 14 (.ixs 2 (t 12) (t 13)),
 o 15 (.ldn 2 (t 14)),
 o 16 (.callv (t 11) [(t 15)])]
def f108r5 : List SOper := [
 o 17 (.mv (t 5)),
 o 4 (.mv (t 17))]
def f108r6 : List SOper := [
 o 18 (.ar .add (t 8) (i 1)),
 o 8 (.mv (t 18))]
def f108l7 : SCode := (.seq (.ops f108r2) (.seq (.cond (t 9) .skip (.exit 0)) (.seq (.block 1 (.seq (.ops f108r3) (.seq (.ops f108r4) (.cond (t 16) (.seq (.ops f108r5) .ret) .skip)))) (.ops f108r6))))
def f108r8 : List SOper := [
 o 4 (.mv (i (-1)))]
def f108 : SCode := (.seq (.ops f108r0) (.seq (.seq (.ops f108r1) (.block 0 (.loop f108l7))) (.seq (.ops f108r8) .ret)))
theorem f108_calls : Sound Tryz.prog 108 19 f108 [.t 4] := sound_of mixed Tryz.func108 rfl (by kernel_rfl) (by kernel_rfl) (by kernel_rfl)

/-! 109: tabor/keys.unrank$1 -/
def f109r0 : List SOper := [
 o 2 (.box (t 0)),
 o 3 (.mv (b false))]
def f109r1 : List SOper := [
 o 4 (.fa 0 (t 2)),
 o 5 (.ld1 (t 4)),
 o 6 (.fa 2 (t 1)),
 o 7 (.ld1 (t 6)),
 o 8 (.cmp .eql (t 5) (t 7)),
 o 3 (.mv (t 8))]
def f109 : SCode := (.seq (.ops f109r0) (.seq (.ops f109r1) .ret))
theorem f109_calls : Sound Tryz.prog 109 9 f109 [.t 3] := sound_of mixed Tryz.func109 rfl (by kernel_rfl) (by kernel_rfl) (by kernel_rfl)

/-! 110: slices.Delete[[]tabor/api.Rank,tabor/api.Rank] -/
def f110r0 : List SOper := [
 o 6 (.mv (.const (.slice none 0 0)))]
def f110r1 : List SOper := [
 o 8 (.mv (t 0)),
 o 9 (.mv (t 1)),
 o 10 (.mv (t 2)),
 o 11 (.mv (t 0)),
 o 12 (.len (t 11)),
 o 13 (.slc3 2 (t 8) (some (t 9)) (t 10) (t 12))]
def f110r2 : List SOper := [
 o 14 (.mv (t 1)),
 o 15 (.mv (t 2)),
 o 16 (.cmp .eql (t 14) (t 15))]
def f110r3 : List SOper := [
 o 17 (.mv (t 0)),
 o 6 (.mv (t 17))]
def f110r4 : List SOper := [
 o 18 (.mv (t 0)),
 o 19 (.len (t 18)),
 o 7 (.mv (t 19))]
def f110r5 : List SOper := [
 o 20 (.mv (t 0)),
 o 21 (.mv (t 1)),
 o 22 (.slc 2 (t 20) none (some (t 21))),
 o 23 (.mv (t 0)),
 o 24 (.mv (t 2)),
 o 25 (.slc 2 (t 23) (some (t 24)) none),
 o 26 (.app 2 24 [(.string ⟨#[]⟩), (.int .i64 0)] (t 22) (t 25)),
 o 0 (.mv (t 26))]
def f110r6 : List SOper := [
 o 27 (.mv (t 0)),
 o 28 (.mv (t 0)),
 o 29 (.len (t 28)),
 o 30 (.mv (t 7)),
 o 31 (.slc 2 (t 27) (some (t 29)) (some (t 30))),
 q (.clr [(.string ⟨#[]⟩), (.int .i64 0)] (t 31))]
def f110r7 : List SOper := [
 o 32 (.mv (t 0)),
 o 6 (.mv (t 32))]
def f110 : SCode := (.seq (.ops f110r0) (.seq (.ops f110r1) (.seq (.seq (.ops f110r2) (.cond (t 16) (.seq (.ops f110r3) .ret) .skip)) (.seq (.ops f110r4) (.seq (.ops f110r5) (.seq (.ops f110r6) (.seq (.ops f110r7) .ret)))))))
theorem f110_calls : Sound Tryz.prog 110 33 f110 [.t 6] := sound_of mixed Tryz.func110 rfl (by kernel_rfl) (by kernel_rfl) (by kernel_rfl)

/-! 111: slices.insertionSortOrdered[string]: not simplified -/
/-! 112: slices.heapSortOrdered[string]: not simplified -/
/-! 113: slices.breakPatternsOrdered[string]: not simplified -/
/-! 114: slices.choosePivotOrdered[string]: not simplified -/
/-! 115: slices.reverseRangeOrdered[string]: not simplified -/
/-! 116: slices.partialInsertionSortOrdered[string]: not simplified -/
/-! 117: cmp.Less[string]: not simplified -/
/-! 118: slices.partitionEqualOrdered[string]: not simplified -/
/-! 119: slices.partitionOrdered[string]: not simplified -/
/-! 120: math/bits.Len32: not simplified -/
/-! 121: math/bits.Len64: not simplified -/
/-! 122: slices.BinarySearchFunc[[]tabor/api.Pair,tabor/api.Pair,string] -/
def f122r0 : List SOper := [
 o 6 (.mv (i 0)),
 o 7 (.mv (b false))]
def f122r1 : List SOper := [
 o 12 (.mv (t 0)),
 o 13 (.len (t 12)),
 o 8 (.mv (t 13))]
def f122r2 : List SOper := [
 o 14 (.mv (t 8)),
 o 9 (.mv (i 0)),
 o 10 (.mv (t 14))]
def f122r3 : List SOper := [
 o 15 (.mv (t 9)),
 o 16 (.mv (t 10)),
 o 17 (.cmp .lss (t 15) (t 16))]
def f122r4 : List SOper := [
 o 18 (.mv (t 9)),
 o 19 (.mv (t 10)),
 o 20 (.ar .add (t 18) (t 19)),
 o 21 (.cvt .u64 (t 20)),
 o 22 (.sh .u64 false 1 (t 21)),
 o 23 (.cvt .i64 (t 22)),
 o 11 (.mv (t 23))]
def f122r5 : List SOper := [
 o 24 (.mv (t 2)),
 o 25 (.mv (t 0)),
 o 26 (.mv (t 11)),
 o 27 (.ixs 2 (t 25) (t 26)),
 o 28 (.ldn 2 (t 27)),
 o 29 (.mv (t 1)),
 o 30 (.callv (t 24) [(t 28), (t 29)]),
 o 31 (.cmp .lss (t 30) (i 0))]
def f122r6 : List SOper := [
 o 32 (.mv (t 11)),
 o 33 (.ar .add (t 32) (i 1)),
 o 9 (.mv (t 33))]
def f122r7 : List SOper := [
 o 34 (.mv (t 11)),
 o 10 (.mv (t 34))]
def f122l8 : SCode := (.seq (.seq (.ops f122r3) (.cond (t 17) .skip (.exit 0))) (.block 1 (.seq (.ops f122r4) (.seq (.ops f122r5) (.cond (t 31) (.ops f122r6) (.ops f122r7))))))
def f122r9 : List SOper := [
 o 35 (.mv (t 9)),
 o 36 (.mv (t 9)),
 o 37 (.mv (t 8)),
 o 38 (.cmp .lss (t 36) (t 37)),
 o 39 (.mv (t 38)),
 g 40 39 (.mv (t 2)),
 g 41 39 (.mv (t 0)),
 g 42 39 (.mv (t 9)),
 g 43 39 (.ixs 2 (t 41) (t 42)),
 g 44 39 (.ldn 2 (t 43)),
 g 45 39 (.mv (t 1)),
 g 46 39 (.callv (t 40) [(t 44), (t 45)]),
 g 47 39 (.cmp .eql (t 46) (i 0)),
 o 48 (.pick (t 39) (t 47) (b false)),
 o 6 (.mv (t 35)),
 o 7 (.mv (t 48))]
def f122 : SCode := (.seq (.ops f122r0) (.seq (.ops f122r1) (.seq (.ops f122r2) (.seq (.block 0 (.loop f122l8)) (.seq (.ops f122r9) .ret)))))
theorem f122_calls : Sound Tryz.prog 122 49 f122 [.t 6, .t 7] := sound_of mixed Tryz.func122 rfl (by kernel_rfl) (by kernel_rfl) (by kernel_rfl)

/-! 123: tabor/keys.byName[tabor/api.Pair]$1 -/
def f123r0 : List SOper := [
 o 3 (.box (t 0)),
 o 5 (.mv (i 0))]
def f123r1 : List SOper := [
 o 6 (.ld1 (t 2)),
 o 7 (.ldn 2 (t 3)),
 o 8 (.callv (t 6) [(t 7)]),
 o 9 (.mv (t 1)),
 o 10 (.call 55 [(t 8), (t 9)]),
 o 5 (.mv (t 10))]
def f123 : SCode := (.seq (.ops f123r0) (.seq (.ops f123r1) .ret))
theorem f123_calls : Sound Tryz.prog 123 11 f123 [.t 5] := sound_of mixed Tryz.func123 rfl (by kernel_rfl) (by kernel_rfl) (by kernel_rfl)

/-! 124: slices.overlaps[tabor/api.Pair]: not simplified -/
/-! 125: slices.rotateRight[tabor/api.Pair]: not simplified -/
/-! 126: slices.rotateLeft[string]: not simplified -/
/-! 127: slices.BinarySearchFunc[[]string,string,string] -/
def f127r0 : List SOper := [
 o 6 (.mv (i 0)),
 o 7 (.mv (b false))]
def f127r1 : List SOper := [
 o 12 (.mv (t 0)),
 o 13 (.len (t 12)),
 o 8 (.mv (t 13))]
def f127r2 : List SOper := [
 o 14 (.mv (t 8)),
 o 9 (.mv (i 0)),
 o 10 (.mv (t 14))]
def f127r3 : List SOper := [
 o 15 (.mv (t 9)),
 o 16 (.mv (t 10)),
 o 17 (.cmp .lss (t 15) (t 16))]
def f127r4 : List SOper := [
 o 18 (.mv (t 9)),
 o 19 (.mv (t 10)),
 o 20 (.ar .add (t 18) (t 19)),
 o 21 (.cvt .u64 (t 20)),
 o 22 (.sh .u64 false 1 (t 21)),
 o 23 (.cvt .i64 (t 22)),
 o 11 (.mv (t 23))]
def f127r5 : List SOper := [
 o 24 (.mv (t 2)),
 o 25 (.mv (t 0)),
 o 26 (.mv (t 11)),
 o 27 (.ixs 1 (t 25) (t 26)),
 o 28 (.ld1 (t 27)),
 o 29 (.mv (t 1)),
 o 30 (.callv (t 24) [(t 28), (t 29)]),
 o 31 (.cmp .lss (t 30) (i 0))]
def f127r6 : List SOper := [
 o 32 (.mv (t 11)),
 o 33 (.ar .add (t 32) (i 1)),
 o 9 (.mv (t 33))]
def f127r7 : List SOper := [
 o 34 (.mv (t 11)),
 o 10 (.mv (t 34))]
def f127l8 : SCode := (.seq (.seq (.ops f127r3) (.cond (t 17) .skip (.exit 0))) (.block 1 (.seq (.ops f127r4) (.seq (.ops f127r5) (.cond (t 31) (.ops f127r6) (.ops f127r7))))))
def f127r9 : List SOper := [
 o 35 (.mv (t 9)),
 o 36 (.mv (t 9)),
 o 37 (.mv (t 8)),
 o 38 (.cmp .lss (t 36) (t 37)),
 o 39 (.mv (t 38)),
 g 40 39 (.mv (t 2)),
 g 41 39 (.mv (t 0)),
 g 42 39 (.mv (t 9)),
 g 43 39 (.ixs 1 (t 41) (t 42)),
 g 44 39 (.ld1 (t 43)),
 g 45 39 (.mv (t 1)),
 g 46 39 (.callv (t 40) [(t 44), (t 45)]),
 g 47 39 (.cmp .eql (t 46) (i 0)),
 o 48 (.pick (t 39) (t 47) (b false)),
 o 6 (.mv (t 35)),
 o 7 (.mv (t 48))]
def f127 : SCode := (.seq (.ops f127r0) (.seq (.ops f127r1) (.seq (.ops f127r2) (.seq (.block 0 (.loop f127l8)) (.seq (.ops f127r9) .ret)))))
theorem f127_calls : Sound Tryz.prog 127 49 f127 [.t 6, .t 7] := sound_of mixed Tryz.func127 rfl (by kernel_rfl) (by kernel_rfl) (by kernel_rfl)

/-! 128: tabor/keys.byName[string]$1 -/
def f128r0 : List SOper := [
 o 5 (.mv (i 0))]
def f128r1 : List SOper := [
 o 6 (.ld1 (t 2)),
 o 7 (.mv (t 0)),
 o 8 (.callv (t 6) [(t 7)]),
 o 9 (.mv (t 1)),
 o 10 (.call 55 [(t 8), (t 9)]),
 o 5 (.mv (t 10))]
def f128 : SCode := (.seq (.ops f128r0) (.seq (.ops f128r1) .ret))
theorem f128_calls : Sound Tryz.prog 128 11 f128 [.t 5] := sound_of mixed Tryz.func128 rfl (by kernel_rfl) (by kernel_rfl) (by kernel_rfl)

/-! 129: slices.overlaps[tabor/api.Rank]: not simplified -/
/-! 130: slices.rotateRight[tabor/api.Rank]: not simplified -/
/-! 131: slices.siftDownOrdered[string]: not simplified -/
/-! 132: slices.nextPowerOfTwo: not simplified -/
/-! 133: (*slices.xorshift).Next: not simplified -/
/-! 134: slices.medianAdjacentOrdered[string]: not simplified -/
/-! 135: slices.medianOrdered[string]: not simplified -/
/-! 136: cmp.isNaN[string]: not simplified -/
/-! 137: slices.rotateLeft[tabor/api.Pair]: not simplified -/
/-! 138: slices.Reverse[[]string,string]: not simplified -/
/-! 139: slices.rotateLeft[tabor/api.Rank]: not simplified -/
/-! 140: slices.order2Ordered[string]: not simplified -/
/-! 141: slices.Reverse[[]tabor/api.Pair,tabor/api.Pair]: not simplified -/
/-! 142: slices.Reverse[[]tabor/api.Rank,tabor/api.Rank]: not simplified -/
/-! 143: (runtime.boundsError).Error: not simplified -/
/-! 144: (runtime.boundsError).RuntimeError: not simplified -/
/-! 145: (runtime.errorString).Error: not simplified -/
/-! 146: (runtime.errorString).RuntimeError: not simplified -/
/-! 147: (runtime.plainError).Error: not simplified -/
/-! 148: (runtime.plainError).RuntimeError: not simplified -/
/-! 149: (runtime.errorAddressString).Error: not simplified -/
/-! 150: (runtime.errorAddressString).RuntimeError: not simplified -/
/-! 151: (*runtime.TypeAssertionError).Error: not simplified -/
/-! 152: (*runtime.TypeAssertionError).RuntimeError: not simplified -/
/-! 153: (*runtime.PanicNilError).Error: not simplified -/
/-! 154: (*runtime.PanicNilError).RuntimeError: not simplified -/
/-! 155: (*internal/abi.Type).Align: not simplified -/
/-! 156: (internal/runtime/maps.unhashableTypeError).Error: not simplified -/
/-! 157: (internal/runtime/maps.unhashableTypeError).RuntimeError: not simplified -/
/-! 158: (tabor/api.Errno).Error: not simplified -/
/-! 159: (internal/abi.Kind).String: not simplified -/
end Go.Proofs.YtaffnlibmkcgiaaGreat.C
