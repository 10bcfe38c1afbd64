/-
  The simplified code of this seat's functions, and that it is what the program's code comes to. Printed by a program (wip/print.lean).
-/
import Derived.Test.YtigolfakcblnjaaGreatDoorCode
import Derived.Test.YtigolfakcblnjaaGreatDoorProg
set_option maxRecDepth 100000
namespace Go.Proofs.YtigolfakcblnjaaGreatDoor.C
open Go Go.Sx Go.Sx.S


/-! 8: tabor/taborlaw08.BasicsDrops -/
def f8r0 : List SOper := [
 o 6 (.mv (b false))]
def f8r1 : List SOper := [
 o 16 (.mv (t 0)),
 o 17 (.mv (t 2)),
 o 18 (.bslice [(.string ⟨#[]⟩)] 1 [(0, 1)] [(t 17)]),
 o 19 (.call 23 [(t 16), (t 18)])]
def f8r2 : List SOper := [
 o 20 (.call 11 []),
 o 6 (.mv (t 20))]
def f8r3 : List SOper := [
 o 22 (.mv (t 0)),
 o 23 (.call 25 [(t 22)]),
 o 21 (.mv (t 23)),
 o 24 (.ext (t 21) 0),
 o 25 (.ext (t 21) 1),
 o 7 (.mv (t 24)),
 o 8 (.mv (t 25))]
def f8r4 : List SOper := [
 o 27 (.mv (t 0)),
 o 28 (.call 26 [(t 27)]),
 o 26 (.mv (t 28)),
 o 29 (.ext (t 26) 0),
 o 30 (.ext (t 26) 1),
 o 9 (.mv (t 29)),
 o 10 (.mv (t 30))]
def f8r5 : List SOper := [
 o 31 (.mv (t 10)),
 o 32 (.cmp .neq (t 31) (i 0)),
 o 33 (.mv (t 32)),
 n 34 33 (.mv (t 8)),
 n 35 33 (.cmp .neq (t 34) (i 0)),
 o 36 (.pick (t 33) (b true) (t 35))]
def f8r6 : List SOper := [
 o 37 (.mv (t 8)),
 o 38 (.mv (t 10)),
 o 39 (.cmp .eql (t 37) (t 38)),
 o 40 (.mv (t 39)),
 g 41 40 (.call 11 []),
 o 42 (.pick (t 40) (t 41) (b false)),
 o 6 (.mv (t 42))]
def f8r7 : List SOper := [
 o 43 (.mv (t 7)),
 o 44 (.mv (t 1)),
 o 45 (.mv (t 2)),
 o 46 (.call 27 [(t 43), (t 44), (t 45)]),
 o 11 (.mv (t 46))]
def f8r8 : List SOper := [
 o 48 (.mv (t 9)),
 o 49 (.mv (t 2)),
 o 50 (.call 28 [(t 48), (t 49)]),
 o 47 (.mv (t 50)),
 o 51 (.ext (t 47) 0),
 o 52 (.ext (t 47) 1),
 o 12 (.mv (t 51)),
 o 13 (.mv (t 52))]
def f8r9 : List SOper := [
 o 54 (.mv (t 9)),
 o 55 (.mv (t 2)),
 o 56 (.mv (t 1)),
 o 57 (.call 29 [(t 54), (t 55), (t 56)]),
 o 53 (.mv (t 57)),
 o 58 (.ext (t 53) 0),
 o 59 (.ext (t 53) 1),
 o 14 (.new [(.int .i64 0), (.string ⟨#[]⟩), (.slice none 0 0), (.slice none 0 0), (.slice none 0 0), (.bool false), (.int .i64 0)]),
 q (.st 7 (t 14) (t 58)),
 o 15 (.mv (t 59))]
def f8r10 : List SOper := [
 o 60 (.mv (t 13)),
 o 61 (.mv (t 60)),
 g 62 61 (.mv (t 15)),
 g 63 61 (.un .not (t 62)),
 o 64 (.pick (t 61) (t 63) (b false))]
def f8r11 : List SOper := [
 o 65 (.mv (t 11)),
 o 66 (.len (t 65)),
 o 67 (.cmp .eql (t 66) (i 1)),
 o 68 (.mv (t 67)),
 g 69 68 (.mv (t 11)),
 g 70 68 (.ixs 5 (t 69) (i 0)),
 g 71 68 (.ldn 5 (t 70)),
 g 72 68 (.mv (t 2)),
 g 73 68 (.build [(.int .i64 0), (.string ⟨#[]⟩), (.string ⟨#[]⟩), (.string ⟨#[]⟩), (.int .i64 0)] [(0, 1), (1, 1)] [(i 1), (t 72)]),
 g 74 68 (.eqa false [(.int .i64), .str, .str, .str, (.int .i64)] (t 71) (t 73)),
 o 75 (.pick (t 68) (t 74) (b false)),
 o 76 (.mv (t 75)),
 g 77 76 (.call 11 []),
 o 78 (.pick (t 76) (t 77) (b false)),
 o 6 (.mv (t 78))]
def f8r12 : List SOper := [
 o 79 (.mv (t 11)),
 o 80 (.len (t 79)),
 o 81 (.cmp .eql (t 80) (i 0)),
 o 82 (.mv (t 81)),
 g 83 82 (.call 11 []),
 o 84 (.pick (t 82) (t 83) (b false)),
 o 6 (.mv (t 84))]
def f8 : SCode := (.seq (.ops f8r0) (.seq (.seq (.ops f8r1) (.cond (t 19) (.seq (.ops f8r2) .ret) .skip)) (.seq (.ops f8r3) (.seq (.ops f8r4) (.seq (.seq (.ops f8r5) (.cond (t 36) (.seq (.ops f8r6) .ret) .skip)) (.seq (.ops f8r7) (.seq (.ops f8r8) (.seq (.ops f8r9) (.seq (.seq (.ops f8r10) (.cond (t 64) (.seq (.ops f8r11) .ret) .skip)) (.seq (.ops f8r12) .ret))))))))))
theorem f8_calls : Sound Tryz.prog 8 85 f8 [.t 6] := sound_of mixed Tryz.func8 rfl (by kernel_rfl) (by kernel_rfl) (by kernel_rfl)

/-! 23: tabor/taborlaw08.vast -/
def f23r0 : List SOper := [
 o 4 (.mv (b false))]
def f23r1 : List SOper := [
 o 7 (.mv (t 0)),
 o 8 (.len (t 7)),
 o 9 (.cmp .gtr (t 8) (i 20)),
 o 10 (.mv (t 9)),
 n 11 10 (.mv (t 1)),
 n 12 10 (.len (t 11)),
 n 13 10 (.cmp .gtr (t 12) (i 20)),
 o 14 (.pick (t 10) (b true) (t 13))]
def f23r2 : List SOper := [
 o 4 (.mv (b true))]
def f23r3 : List SOper := [
 o 5 (.mv (i 0))]
def f23r4 : List SOper := [
 o 15 (.mv (t 5)),
 o 16 (.mv (t 0)),
 o 17 (.len (t 16)),
 o 18 (.cmp .lss (t 15) (t 17))]
def f23r5 : List SOper := [
 o 21 (.mv (t 0)),
 o 22 (.mv (t 5)),
 o 23 (.ixs 8 (t 21) (t 22)),
 o 24 (.fa 0 (t 23)),
 o 25 (.ld1 (t 24)),
 o 26 (.lens (t 25)),
 o 27 (.cmp .gtr (t 26) (i 300)),
 o 28 (.mv (t 27)),
 n 29 28 (.mv (t 0)),
 n 30 28 (.mv (t 5)),
 n 31 28 (.ixs 8 (t 29) (t 30)),
 n 32 28 (.fa 1 (t 31)),
 n 33 28 (.ldn 7 (t 32)),
 n 34 28 (.call 41 [(t 33)]),
 o 35 (.pick (t 28) (b true) (t 34))]
def f23r6 : List SOper := [
 o 4 (.mv (b true))]
def f23r7 : List SOper := [
 o 19 (.mv (t 5)),
 o 20 (.ar .add (t 19) (i 1)),
 o 5 (.mv (t 20))]
def f23l8 : SCode := (.seq (.seq (.ops f23r4) (.cond (t 18) .skip (.exit 0))) (.seq (.block 1 (.seq (.ops f23r5) (.cond (t 35) (.seq (.ops f23r6) .ret) .skip))) (.ops f23r7)))
def f23r9 : List SOper := [
 o 6 (.mv (i 0))]
def f23r10 : List SOper := [
 o 36 (.mv (t 6)),
 o 37 (.mv (t 1)),
 o 38 (.len (t 37)),
 o 39 (.cmp .lss (t 36) (t 38))]
def f23r11 : List SOper := [
 o 42 (.mv (t 1)),
 o 43 (.mv (t 6)),
 o 44 (.ixs 1 (t 42) (t 43)),
 o 45 (.ld1 (t 44)),
 o 46 (.lens (t 45)),
 o 47 (.cmp .gtr (t 46) (i 300))]
def f23r12 : List SOper := [
 o 4 (.mv (b true))]
def f23r13 : List SOper := [
 o 40 (.mv (t 6)),
 o 41 (.ar .add (t 40) (i 1)),
 o 6 (.mv (t 41))]
def f23l14 : SCode := (.seq (.seq (.ops f23r10) (.cond (t 39) .skip (.exit 2))) (.seq (.block 3 (.seq (.ops f23r11) (.cond (t 47) (.seq (.ops f23r12) .ret) .skip))) (.ops f23r13)))
def f23r15 : List SOper := [
 o 4 (.mv (b false))]
def f23 : SCode := (.seq (.ops f23r0) (.seq (.seq (.ops f23r1) (.cond (t 14) (.seq (.ops f23r2) .ret) .skip)) (.seq (.seq (.ops f23r3) (.block 0 (.loop f23l8))) (.seq (.seq (.ops f23r9) (.block 2 (.loop f23l14))) (.seq (.ops f23r15) .ret)))))
theorem f23_calls : Sound Tryz.prog 23 48 f23 [.t 4] := sound_of mixed Tryz.func23 rfl (by kernel_rfl) (by kernel_rfl) (by kernel_rfl)

/-! 27: tabor/basics.Drops -/
def f27r0 : List SOper := [
 o 6 (.mv (.const (.slice none 0 0)))]
def f27r1 : List SOper := [
 o 12 (.mv (t 0)),
 o 13 (.mv (t 2)),
 o 14 (.call 49 [(t 12), (t 13)]),
 o 11 (.mv (t 14)),
 o 15 (.ext (t 11) 0),
 o 16 (.ext (t 11) 1),
 o 7 (.new [(.int .i64 0), (.string ⟨#[]⟩), (.slice none 0 0), (.slice none 0 0), (.slice none 0 0), (.bool false), (.int .i64 0)]),
 q (.st 7 (t 7) (t 15)),
 o 8 (.mv (t 16))]
def f27r2 : List SOper := [
 o 18 (.mv (t 0)),
 o 19 (.mv (t 2)),
 o 20 (.mv (t 1)),
 o 21 (.call 50 [(t 18), (t 19), (t 20)]),
 o 17 (.mv (t 21)),
 o 22 (.ext (t 17) 0),
 o 23 (.ext (t 17) 1),
 o 9 (.new [(.int .i64 0), (.string ⟨#[]⟩), (.slice none 0 0), (.slice none 0 0), (.slice none 0 0), (.bool false), (.int .i64 0)]),
 q (.st 7 (t 9) (t 22)),
 o 10 (.mv (t 23))]
def f27r3 : List SOper := [
 o 24 (.mv (t 8)),
 o 25 (.mv (t 24)),
 g 26 25 (.mv (t 10)),
 g 27 25 (.un .not (t 26)),
 o 28 (.pick (t 25) (t 27) (b false))]
def f27r4 : List SOper := [
 o 29 (.mv (t 2)),
 o 30 (.build [(.int .i64 0), (.string ⟨#[]⟩), (.string ⟨#[]⟩), (.string ⟨#[]⟩), (.int .i64 0)] [(0, 1), (1, 1)] [(i 1), (t 29)]),
 o 31 (.bslice [(.int .i64 0), (.string ⟨#[]⟩), (.string ⟨#[]⟩), (.string ⟨#[]⟩), (.int .i64 0)] 1 [(0, 5)] [(t 30)]),
 o 6 (.mv (t 31))]
def f27r5 : List SOper := [
 o 6 (.mv (.const (.slice none 0 0)))]
def f27 : SCode := (.seq (.ops f27r0) (.seq (.ops f27r1) (.seq (.seq (.ops f27r2) (.seq (.ops f27r3) (.cond (t 28) (.seq (.ops f27r4) .ret) .skip))) (.seq (.ops f27r5) .ret))))
theorem f27_calls : Sound Tryz.prog 27 32 f27 [.t 6] := sound_of mixed Tryz.func27 rfl (by kernel_rfl) (by kernel_rfl) (by kernel_rfl)

/-! 41: tabor/taborlaw08.large -/
def f41r0 : List SOper := [
 o 1 (.box (t 0)),
 o 2 (.mv (b false))]
def f41r1 : List SOper := [
 o 7 (.fa 1 (t 1)),
 o 8 (.ld1 (t 7)),
 o 9 (.lens (t 8)),
 o 3 (.mv (t 9))]
def f41r2 : List SOper := [
 o 10 (.fa 2 (t 1)),
 o 11 (.ld1 (t 10)),
 o 12 (.len (t 11)),
 o 13 (.cmp .gtr (t 12) (i 40)),
 o 14 (.mv (t 13)),
 n 15 14 (.fa 3 (t 1)),
 n 16 14 (.ld1 (t 15)),
 n 17 14 (.len (t 16)),
 n 18 14 (.cmp .gtr (t 17) (i 40)),
 o 19 (.pick (t 14) (b true) (t 18)),
 o 20 (.mv (t 19)),
 n 21 20 (.fa 4 (t 1)),
 n 22 20 (.ld1 (t 21)),
 n 23 20 (.len (t 22)),
 n 24 20 (.cmp .gtr (t 23) (i 40)),
 o 25 (.pick (t 20) (b true) (t 24)),
 o 26 (.mv (t 25)),
 n 27 26 (.mv (t 3)),
 n 28 26 (.cmp .gtr (t 27) (i 2000)),
 o 29 (.pick (t 26) (b true) (t 28))]
def f41r3 : List SOper := [
 o 2 (.mv (b true))]
def f41r4 : List SOper := [
 o 4 (.mv (i 0))]
def f41r5 : List SOper := [
 o 30 (.mv (t 4)),
 o 31 (.fa 2 (t 1)),
 o 32 (.ld1 (t 31)),
 o 33 (.len (t 32)),
 o 34 (.cmp .lss (t 30) (t 33))]
def f41r6 : List SOper := [
 o 37 (.mv (t 3)),
 o 38 (.fa 2 (t 1)),
 o 39 (.ld1 (t 38)),
 o 40 (.mv (t 4)),
 o 41 (.ixs 2 (t 39) (t 40)),
 o 42 (.fa 0 (t 41)),
 o 43 (.ld1 (t 42)),
 o 44 (.lens (t 43)),
 o 45 (.ar .add (t 37) (t 44)),
 o 46 (.fa 2 (t 1)),
 o 47 (.ld1 (t 46)),
 o 48 (.mv (t 4)),
 o 49 (.ixs 2 (t 47) (t 48)),
 o 50 (.fa 1 (t 49)),
 o 51 (.ld1 (t 50)),
 o 52 (.lens (t 51)),
 o 53 (.ar .add (t 45) (t 52)),
 o 3 (.mv (t 53))]
def f41r7 : List SOper := [
 o 54 (.mv (t 3)),
 o 55 (.cmp .gtr (t 54) (i 2000))]
def f41r8 : List SOper := [
 o 2 (.mv (b true))]
def f41r9 : List SOper := [
 o 35 (.mv (t 4)),
 o 36 (.ar .add (t 35) (i 1)),
 o 4 (.mv (t 36))]
def f41l10 : SCode := (.seq (.seq (.ops f41r5) (.cond (t 34) .skip (.exit 0))) (.seq (.block 1 (.seq (.ops f41r6) (.seq (.ops f41r7) (.cond (t 55) (.seq (.ops f41r8) .ret) .skip)))) (.ops f41r9)))
def f41r11 : List SOper := [
 o 5 (.mv (i 0))]
def f41r12 : List SOper := [
 o 56 (.mv (t 5)),
 o 57 (.fa 3 (t 1)),
 o 58 (.ld1 (t 57)),
 o 59 (.len (t 58)),
 o 60 (.cmp .lss (t 56) (t 59))]
def f41r13 : List SOper := [
 o 63 (.mv (t 3)),
 o 64 (.fa 3 (t 1)),
 o 65 (.ld1 (t 64)),
 o 66 (.mv (t 5)),
 o 67 (.ixs 1 (t 65) (t 66)),
 o 68 (.ld1 (t 67)),
 o 69 (.lens (t 68)),
 o 70 (.ar .add (t 63) (t 69)),
 o 3 (.mv (t 70))]
def f41r14 : List SOper := [
 o 71 (.mv (t 3)),
 o 72 (.cmp .gtr (t 71) (i 2000))]
def f41r15 : List SOper := [
 o 2 (.mv (b true))]
def f41r16 : List SOper := [
 o 61 (.mv (t 5)),
 o 62 (.ar .add (t 61) (i 1)),
 o 5 (.mv (t 62))]
def f41l17 : SCode := (.seq (.seq (.ops f41r12) (.cond (t 60) .skip (.exit 2))) (.seq (.block 3 (.seq (.ops f41r13) (.seq (.ops f41r14) (.cond (t 72) (.seq (.ops f41r15) .ret) .skip)))) (.ops f41r16)))
def f41r18 : List SOper := [
 o 6 (.mv (i 0))]
def f41r19 : List SOper := [
 o 73 (.mv (t 6)),
 o 74 (.fa 4 (t 1)),
 o 75 (.ld1 (t 74)),
 o 76 (.len (t 75)),
 o 77 (.cmp .lss (t 73) (t 76))]
def f41r20 : List SOper := [
 o 80 (.mv (t 3)),
 o 81 (.fa 4 (t 1)),
 o 82 (.ld1 (t 81)),
 o 83 (.mv (t 6)),
 o 84 (.ixs 2 (t 82) (t 83)),
 o 85 (.fa 0 (t 84)),
 o 86 (.ld1 (t 85)),
 o 87 (.lens (t 86)),
 o 88 (.ar .add (t 80) (t 87)),
 o 3 (.mv (t 88))]
def f41r21 : List SOper := [
 o 89 (.mv (t 3)),
 o 90 (.cmp .gtr (t 89) (i 2000))]
def f41r22 : List SOper := [
 o 2 (.mv (b true))]
def f41r23 : List SOper := [
 o 78 (.mv (t 6)),
 o 79 (.ar .add (t 78) (i 1)),
 o 6 (.mv (t 79))]
def f41l24 : SCode := (.seq (.seq (.ops f41r19) (.cond (t 77) .skip (.exit 4))) (.seq (.block 5 (.seq (.ops f41r20) (.seq (.ops f41r21) (.cond (t 90) (.seq (.ops f41r22) .ret) .skip)))) (.ops f41r23)))
def f41r25 : List SOper := [
 o 2 (.mv (b false))]
def f41 : SCode := (.seq (.ops f41r0) (.seq (.ops f41r1) (.seq (.seq (.ops f41r2) (.cond (t 29) (.seq (.ops f41r3) .ret) .skip)) (.seq (.seq (.ops f41r4) (.block 0 (.loop f41l10))) (.seq (.seq (.ops f41r11) (.block 2 (.loop f41l17))) (.seq (.seq (.ops f41r18) (.block 4 (.loop f41l24))) (.seq (.ops f41r25) .ret)))))))
theorem f41_calls : Sound Tryz.prog 41 91 f41 [.t 2] := sound_of mixed Tryz.func41 rfl (by kernel_rfl) (by kernel_rfl) (by kernel_rfl)

end Go.Proofs.YtigolfakcblnjaaGreatDoor.C
