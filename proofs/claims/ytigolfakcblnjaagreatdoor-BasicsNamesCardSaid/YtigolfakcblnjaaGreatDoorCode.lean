/-
  The simplified code of this seat's functions, and that it is what the program's code comes to. Printed by a program (wip/print.lean).
-/
import Derived.Test.YtigolfakcblnjaaGreatDoorSxO
import Derived.Test.YtigolfakcblnjaaGreatDoorProg
set_option maxRecDepth 100000
namespace Go.Proofs.YtigolfakcblnjaaGreatDoor.C
open Go Go.Sx Go.Sx.S

theorem mixed : Tryz.prog.follows .mixedOrders = true := by kernel_rfl

/-! 0: main.main: not simplified -/
/-! 1: gosem.cut: not simplified -/
/-! 2: gosem.cut.init: not simplified -/
/-! 3: tabor/taborlaw08.BasicsNumber: not simplified -/
/-! 4: tabor/taborlaw08.BasicsNames: not simplified -/
/-! 5: tabor/taborlaw08.BasicsSame -/
def f5r0 : List SOper := [
 o 2 (.box (t 0)),
 o 3 (.box (t 1)),
 o 4 (.mv (b false))]
def f5r1 : List SOper := [
 o 6 (.ldn 4 (t 2)),
 o 7 (.call 19 [(t 6), (i 30)]),
 o 8 (.cmp .gtr (t 7) (i 30)),
 o 9 (.mv (t 8)),
 n 10 9 (.ldn 4 (t 3)),
 n 11 9 (.call 19 [(t 10), (i 30)]),
 n 12 9 (.cmp .gtr (t 11) (i 30)),
 o 13 (.pick (t 9) (b true) (t 12))]
def f5r2 : List SOper := [
 o 14 (.call 11 []),
 o 4 (.mv (t 14))]
def f5r3 : List SOper := [
 o 15 (.fa 2 (t 2)),
 o 16 (.ld1 (t 15)),
 o 17 (.call 20 [(t 16)]),
 o 5 (.new [(.int .i64 0), (.int .i64 0), (.string ⟨#[]⟩), (.slice none 0 0)]),
 q (.st 4 (t 5) (t 17))]
def f5r4 : List SOper := [
 o 18 (.ldn 4 (t 2)),
 o 19 (.ldn 4 (t 3)),
 o 21 (.ldn 4 (t 2)),
 o 22 (.ldn 4 (t 3)),
 o 20 (.callq 21 [(t 18), (t 19)]),
 o 23 (.callq 22 [(t 21), (t 22)]),
 o 24 (.cmpb false (t 20) (t 23)),
 o 25 (.mv (t 24)),
 g 26 25 (.ldn 4 (t 2)),
 g 27 25 (.ldn 4 (t 2)),
 g 28 25 (.callq 21 [(t 26), (t 27)]),
 o 29 (.pick (t 25) (t 28) (b false)),
 o 30 (.mv (t 29)),
 g 31 30 (.fa 0 (t 5)),
 g 32 30 (.ld1 (t 31)),
 g 33 30 (.cmp .eql (t 32) (i 2)),
 o 34 (.pick (t 30) (t 33) (b false)),
 o 35 (.mv (t 34)),
 g 36 35 (.fa 2 (t 5)),
 g 37 35 (.ld1 (t 36)),
 g 38 35 (.fa 2 (t 2)),
 g 39 35 (.ld1 (t 38)),
 g 40 35 (.cmp .eql (t 37) (t 39)),
 o 41 (.pick (t 35) (t 40) (b false)),
 o 42 (.mv (t 41)),
 g 43 42 (.fa 1 (t 5)),
 g 44 42 (.ld1 (t 43)),
 g 45 42 (.cmp .eql (t 44) (i 0)),
 o 46 (.pick (t 42) (t 45) (b false)),
 o 47 (.mv (t 46)),
 g 48 47 (.fa 3 (t 5)),
 g 49 47 (.ld1 (t 48)),
 g 50 47 (.len (t 49)),
 g 51 47 (.cmp .eql (t 50) (i 0)),
 o 52 (.pick (t 47) (t 51) (b false)),
 o 53 (.mv (t 52)),
 g 54 53 (.callq 11 []),
 o 55 (.pick (t 53) (t 54) (b false)),
 o 4 (.mv (t 55))]
def f5 : SCode := (.seq (.ops f5r0) (.seq (.seq (.ops f5r1) (.cond (t 13) (.seq (.ops f5r2) .ret) .skip)) (.seq (.ops f5r3) (.seq (.ops f5r4) .ret))))
theorem f5_calls : Sound Tryz.prog 5 56 f5 [.t 4] := sound_of mixed Tryz.func5 rfl (by kernel_rfl) (by kernel_rfl) (by kernel_rfl)

/-! 6: tabor/taborlaw08.BasicsCounts: not simplified -/
/-! 7: tabor/taborlaw08.BasicsMany: not simplified -/
/-! 8: tabor/taborlaw08.BasicsDrops -/
def f8r0 : List SOper := [
 o 6 (.mv (b false))]
def f8r1 : List SOper := [
 o 16 (.mv (t 0)),
 o 17 (.mv (t 2)),
 o 18 (.bslice [(.string ⟨#[]⟩)] 1 [(0, 1)] [(t 17)]),
 o 19 (.call 23 [(t 16), (t 18)])]
def f8r2 : List SOper := [
 o 20 (.call 11 []),
 o 6 (.mv (t 20))]
def f8r3 : List SOper := [
 o 22 (.mv (t 0)),
 o 23 (.call 25 [(t 22)]),
 o 21 (.mv (t 23)),
 o 24 (.ext (t 21) 0),
 o 25 (.ext (t 21) 1),
 o 7 (.mv (t 24)),
 o 8 (.mv (t 25))]
def f8r4 : List SOper := [
 o 27 (.mv (t 0)),
 o 28 (.call 26 [(t 27)]),
 o 26 (.mv (t 28)),
 o 29 (.ext (t 26) 0),
 o 30 (.ext (t 26) 1),
 o 9 (.mv (t 29)),
 o 10 (.mv (t 30))]
def f8r5 : List SOper := [
 o 31 (.mv (t 10)),
 o 32 (.cmp .neq (t 31) (i 0)),
 o 33 (.mv (t 32)),
 n 34 33 (.mv (t 8)),
 n 35 33 (.cmp .neq (t 34) (i 0)),
 o 36 (.pick (t 33) (b true) (t 35))]
def f8r6 : List SOper := [
 o 37 (.mv (t 8)),
 o 38 (.mv (t 10)),
 o 39 (.cmp .eql (t 37) (t 38)),
 o 40 (.mv (t 39)),
 g 41 40 (.call 11 []),
 o 42 (.pick (t 40) (t 41) (b false)),
 o 6 (.mv (t 42))]
def f8r7 : List SOper := [
 o 43 (.mv (t 7)),
 o 44 (.mv (t 1)),
 o 45 (.mv (t 2)),
 o 46 (.call 27 [(t 43), (t 44), (t 45)]),
 o 11 (.mv (t 46))]
def f8r8 : List SOper := [
 o 48 (.mv (t 9)),
 o 49 (.mv (t 2)),
 o 50 (.call 28 [(t 48), (t 49)]),
 o 47 (.mv (t 50)),
 o 51 (.ext (t 47) 0),
 o 52 (.ext (t 47) 1),
 o 12 (.mv (t 51)),
 o 13 (.mv (t 52))]
def f8r9 : List SOper := [
 o 54 (.mv (t 9)),
 o 55 (.mv (t 2)),
 o 56 (.mv (t 1)),
 o 57 (.call 29 [(t 54), (t 55), (t 56)]),
 o 53 (.mv (t 57)),
 o 58 (.ext (t 53) 0),
 o 59 (.ext (t 53) 1),
 o 14 (.new [(.int .i64 0), (.string ⟨#[]⟩), (.slice none 0 0), (.slice none 0 0), (.slice none 0 0), (.bool false), (.int .i64 0)]),
 q (.st 7 (t 14) (t 58)),
 o 15 (.mv (t 59))]
def f8r10 : List SOper := [
 o 60 (.mv (t 13)),
 o 61 (.mv (t 60)),
 g 62 61 (.mv (t 15)),
 g 63 61 (.un .not (t 62)),
 o 64 (.pick (t 61) (t 63) (b false))]
def f8r11 : List SOper := [
 o 65 (.mv (t 11)),
 o 66 (.len (t 65)),
 o 67 (.cmp .eql (t 66) (i 1)),
 o 68 (.mv (t 67)),
 g 69 68 (.mv (t 11)),
 g 70 68 (.ixs 5 (t 69) (i 0)),
 g 71 68 (.ldn 5 (t 70)),
 g 72 68 (.mv (t 2)),
 g 73 68 (.build [(.int .i64 0), (.string ⟨#[]⟩), (.string ⟨#[]⟩), (.string ⟨#[]⟩), (.int .i64 0)] [(0, 1), (1, 1)] [(i 1), (t 72)]),
 g 74 68 (.eqa false [(.int .i64), .str, .str, .str, (.int .i64)] (t 71) (t 73)),
 o 75 (.pick (t 68) (t 74) (b false)),
 o 76 (.mv (t 75)),
 g 77 76 (.call 11 []),
 o 78 (.pick (t 76) (t 77) (b false)),
 o 6 (.mv (t 78))]
def f8r12 : List SOper := [
 o 79 (.mv (t 11)),
 o 80 (.len (t 79)),
 o 81 (.cmp .eql (t 80) (i 0)),
 o 82 (.mv (t 81)),
 g 83 82 (.call 11 []),
 o 84 (.pick (t 82) (t 83) (b false)),
 o 6 (.mv (t 84))]
def f8 : SCode := (.seq (.ops f8r0) (.seq (.seq (.ops f8r1) (.cond (t 19) (.seq (.ops f8r2) .ret) .skip)) (.seq (.ops f8r3) (.seq (.ops f8r4) (.seq (.seq (.ops f8r5) (.cond (t 36) (.seq (.ops f8r6) .ret) .skip)) (.seq (.ops f8r7) (.seq (.ops f8r8) (.seq (.ops f8r9) (.seq (.seq (.ops f8r10) (.cond (t 64) (.seq (.ops f8r11) .ret) .skip)) (.seq (.ops f8r12) .ret))))))))))
theorem f8_calls : Sound Tryz.prog 8 85 f8 [.t 6] := sound_of mixed Tryz.func8 rfl (by kernel_rfl) (by kernel_rfl) (by kernel_rfl)

/-! 9: tabor/taborlaw08.BasicsEffects: not simplified -/
/-! 10: tabor/taborlaw08.BasicsTold: not simplified -/
/-! 11: tabor/taborlaw08.known -/
def f11r0 : List SOper := [
 o 0 (.mv (b false))]
def f11r1 : List SOper := [
 o 5 (.call 18 []),
 o 1 (.mv (t 5))]
def f11r2 : List SOper := [
 o 7 (.mv (t 1)),
 o 8 (.bslice [(.string ⟨#[]⟩), (.string ⟨#[]⟩)] 2 [(0, 1), (1, 1)] [(.const (.string ⟨#[105, 110, 99, 114]⟩)), (.const (.string ⟨#[97]⟩))]),
 o 9 (.call 17 [(t 7), (i 0), (t 8)]),
 o 6 (.mv (t 9)),
 o 10 (.ext (t 6) 0),
 o 11 (.ext (t 6) 1),
 o 12 (.ext (t 6) 2),
 o 2 (.new [(.int .i64 0), (.int .i64 0), (.string ⟨#[]⟩), (.slice none 0 0)]),
 q (.st 4 (t 2) (t 10)),
 o 3 (.mv (t 11)),
 o 4 (.mv (t 12))]
def f11r3 : List SOper := [
 o 13 (.mv (t 4)),
 o 14 (.mv (t 13)),
 g 15 14 (.fa 0 (t 2)),
 g 16 14 (.ld1 (t 15)),
 g 17 14 (.cmp .eql (t 16) (i 3)),
 o 18 (.pick (t 14) (t 17) (b false)),
 o 19 (.mv (t 18)),
 g 20 19 (.fa 1 (t 2)),
 g 21 19 (.ld1 (t 20)),
 g 22 19 (.cmp .eql (t 21) (i 1)),
 o 23 (.pick (t 19) (t 22) (b false)),
 o 24 (.mv (t 23)),
 g 25 24 (.mv (t 3)),
 g 26 24 (.len (t 25)),
 g 27 24 (.cmp .eql (t 26) (i 1)),
 o 28 (.pick (t 24) (t 27) (b false)),
 o 29 (.mv (t 28)),
 g 30 29 (.mv (t 3)),
 g 31 29 (.ixs 5 (t 30) (i 0)),
 g 32 29 (.fa 0 (t 31)),
 g 33 29 (.ld1 (t 32)),
 g 34 29 (.cmp .eql (t 33) (i 2)),
 o 35 (.pick (t 29) (t 34) (b false)),
 o 36 (.mv (t 35)),
 g 37 36 (.mv (t 3)),
 g 38 36 (.ixs 5 (t 37) (i 0)),
 g 39 36 (.fa 3 (t 38)),
 g 40 36 (.ld1 (t 39)),
 g 41 36 (.cmp .eql (t 40) (.const (.string ⟨#[49]⟩))),
 o 42 (.pick (t 36) (t 41) (b false)),
 o 0 (.mv (t 42))]
def f11 : SCode := (.seq (.ops f11r0) (.seq (.ops f11r1) (.seq (.ops f11r2) (.seq (.ops f11r3) .ret))))
theorem f11_calls : Sound Tryz.prog 11 43 f11 [.t 0] := sound_of mixed Tryz.func11 rfl (by kernel_rfl) (by kernel_rfl) (by kernel_rfl)

/-! 12: tabor/basics.Number: not simplified -/
/-! 13: tabor/taborref08.Number: not simplified -/
/-! 14: tabor/basics.Names: not simplified -/
/-! 15: tabor/taborref08.Names: not simplified -/
/-! 16: tabor/taborref08.Word: not simplified -/
/-! 17: tabor/basics.Do: not simplified -/
/-! 18: tabor/keys.New: not simplified -/
/-! 19: tabor/taborlaw08.wide -/
def f19r0 : List SOper := [
 o 2 (.box (t 0)),
 o 4 (.mv (i 0))]
def f19r1 : List SOper := [
 o 7 (.fa 2 (t 2)),
 o 8 (.ld1 (t 7)),
 o 9 (.lens (t 8)),
 o 10 (.quo (t 9) (i 300)),
 o 11 (.ar .add (i 1) (t 10)),
 o 5 (.mv (t 11))]
def f19r2 : List SOper := [
 o 6 (.mv (i 0))]
def f19r3 : List SOper := [
 o 12 (.mv (t 6)),
 o 13 (.fa 3 (t 2)),
 o 14 (.ld1 (t 13)),
 o 15 (.len (t 14)),
 o 16 (.cmp .lss (t 12) (t 15)),
 o 17 (.mv (t 16)),
 g 18 17 (.mv (t 5)),
 g 19 17 (.mv (t 1)),
 g 20 17 (.cmp .leq (t 18) (t 19)),
 o 21 (.pick (t 17) (t 20) (b false))]
def f19r4 : List SOper := [
 o 24 (.mv (t 5)),
 o 25 (.fa 3 (t 2)),
 o 26 (.ld1 (t 25)),
 o 27 (.mv (t 6)),
 o 28 (.ixs 4 (t 26) (t 27)),
 o 29 (.ldn 4 (t 28)),
 o 30 (.mv (t 1)),
 o 31 (.mv (t 5)),
 o 32 (.ar .sub (t 30) (t 31)),
 o 33 (.call 19 [(t 29), (t 32)]),
 o 34 (.ar .add (t 24) (t 33)),
 o 5 (.mv (t 34))]
def f19r5 : List SOper := [
 o 22 (.mv (t 6)),
 o 23 (.ar .add (t 22) (i 1)),
 o 6 (.mv (t 23))]
def f19l6 : SCode := (.seq (.seq (.ops f19r3) (.cond (t 21) .skip (.exit 0))) (.seq (.block 1 (.ops f19r4)) (.ops f19r5)))
def f19r7 : List SOper := [
 o 35 (.mv (t 5)),
 o 4 (.mv (t 35))]
def f19 : SCode := (.seq (.ops f19r0) (.seq (.ops f19r1) (.seq (.seq (.ops f19r2) (.block 0 (.loop f19l6))) (.seq (.ops f19r7) .ret))))
theorem f19_calls : Sound Tryz.prog 19 36 f19 [.t 4] := sound_of mixed Tryz.func19 rfl (by kernel_rfl) (by kernel_rfl) (by kernel_rfl)

/-! 20: tabor/basics.Fail -/
def f20r0 : List SOper := [
 o 2 (.new [(.int .i64 0), (.int .i64 0), (.string ⟨#[]⟩), (.slice none 0 0)])]
def f20r1 : List SOper := [
 o 3 (.mv (t 0)),
 o 4 (.build [(.int .i64 0), (.int .i64 0), (.string ⟨#[]⟩), (.slice none 0 0)] [(0, 1), (2, 1)] [(i 2), (t 3)]),
 q (.st 4 (t 2) (t 4))]
def f20 : SCode := (.seq (.ops f20r0) (.seq (.ops f20r1) .ret))
theorem f20_calls : Sound Tryz.prog 20 5 f20 [.cn 2 4] := sound_of mixed Tryz.func20 rfl (by kernel_rfl) (by kernel_rfl) (by kernel_rfl)

/-! 21: tabor/basics.Same -/
def f21r0 : List SOper := [
 o 2 (.box (t 0)),
 o 3 (.box (t 1)),
 o 4 (.mv (b false))]
def f21r1 : List SOper := [
 o 5 (.fa 0 (t 2)),
 o 6 (.ld1 (t 5)),
 o 7 (.fa 0 (t 3)),
 o 8 (.ld1 (t 7)),
 o 9 (.cmp .eql (t 6) (t 8)),
 o 10 (.mv (t 9)),
 g 11 10 (.fa 1 (t 2)),
 g 12 10 (.ld1 (t 11)),
 g 13 10 (.fa 1 (t 3)),
 g 14 10 (.ld1 (t 13)),
 g 15 10 (.cmp .eql (t 12) (t 14)),
 o 16 (.pick (t 10) (t 15) (b false)),
 o 17 (.mv (t 16)),
 g 18 17 (.fa 2 (t 2)),
 g 19 17 (.ld1 (t 18)),
 g 20 17 (.fa 2 (t 3)),
 g 21 17 (.ld1 (t 20)),
 g 22 17 (.cmp .eql (t 19) (t 21)),
 o 23 (.pick (t 17) (t 22) (b false)),
 o 24 (.mv (t 23)),
 g 25 24 (.fa 3 (t 2)),
 g 26 24 (.ld1 (t 25)),
 g 27 24 (.fa 3 (t 3)),
 g 28 24 (.ld1 (t 27)),
 g 29 24 (.call 40 [(t 26), (t 28), (u 21)]),
 o 30 (.pick (t 24) (t 29) (b false)),
 o 4 (.mv (t 30))]
def f21 : SCode := (.seq (.ops f21r0) (.seq (.ops f21r1) .ret))
theorem f21_calls : Sound Tryz.prog 21 31 f21 [.t 4] := sound_of mixed Tryz.func21 rfl (by kernel_rfl) (by kernel_rfl) (by kernel_rfl)

/-! 22: tabor/taborref08.Same -/
def f22r0 : List SOper := [
 o 2 (.box (t 0)),
 o 3 (.box (t 1)),
 o 4 (.mv (b false))]
def f22r1 : List SOper := [
 o 6 (.fa 0 (t 2)),
 o 7 (.ld1 (t 6)),
 o 8 (.fa 0 (t 3)),
 o 9 (.ld1 (t 8)),
 o 10 (.cmp .neq (t 7) (t 9)),
 o 11 (.mv (t 10)),
 n 12 11 (.fa 1 (t 2)),
 n 13 11 (.ld1 (t 12)),
 n 14 11 (.fa 1 (t 3)),
 n 15 11 (.ld1 (t 14)),
 n 16 11 (.cmp .neq (t 13) (t 15)),
 o 17 (.pick (t 11) (b true) (t 16)),
 o 18 (.mv (t 17)),
 n 19 18 (.fa 2 (t 2)),
 n 20 18 (.ld1 (t 19)),
 n 21 18 (.fa 2 (t 3)),
 n 22 18 (.ld1 (t 21)),
 n 23 18 (.cmp .neq (t 20) (t 22)),
 o 24 (.pick (t 18) (b true) (t 23)),
 o 25 (.mv (t 24)),
 n 26 25 (.fa 3 (t 2)),
 n 27 25 (.ld1 (t 26)),
 n 28 25 (.len (t 27)),
 n 29 25 (.fa 3 (t 3)),
 n 30 25 (.ld1 (t 29)),
 n 31 25 (.len (t 30)),
 n 32 25 (.cmp .neq (t 28) (t 31)),
 o 33 (.pick (t 25) (b true) (t 32))]
def f22r2 : List SOper := [
 o 4 (.mv (b false))]
def f22r3 : List SOper := [
 o 5 (.mv (i 0))]
def f22r4 : List SOper := [
 o 34 (.mv (t 5)),
 o 35 (.fa 3 (t 2)),
 o 36 (.ld1 (t 35)),
 o 37 (.len (t 36)),
 o 38 (.cmp .lss (t 34) (t 37))]
def f22r5 : List SOper := [
 o 41 (.fa 3 (t 2)),
 o 42 (.ld1 (t 41)),
 o 43 (.mv (t 5)),
 o 44 (.ixs 4 (t 42) (t 43)),
 o 45 (.ldn 4 (t 44)),
 o 46 (.fa 3 (t 3)),
 o 47 (.ld1 (t 46)),
 o 48 (.mv (t 5)),
 o 49 (.ixs 4 (t 47) (t 48)),
 o 50 (.ldn 4 (t 49)),
 o 51 (.call 22 [(t 45), (t 50)]),
 o 52 (.un .not (t 51))]
def f22r6 : List SOper := [
 o 4 (.mv (b false))]
def f22r7 : List SOper := [
 o 39 (.mv (t 5)),
 o 40 (.ar .add (t 39) (i 1)),
 o 5 (.mv (t 40))]
def f22l8 : SCode := (.seq (.seq (.ops f22r4) (.cond (t 38) .skip (.exit 0))) (.seq (.block 1 (.seq (.ops f22r5) (.cond (t 52) (.seq (.ops f22r6) .ret) .skip))) (.ops f22r7)))
def f22r9 : List SOper := [
 o 4 (.mv (b true))]
def f22 : SCode := (.seq (.ops f22r0) (.seq (.seq (.ops f22r1) (.cond (t 33) (.seq (.ops f22r2) .ret) .skip)) (.seq (.seq (.ops f22r3) (.block 0 (.loop f22l8))) (.seq (.ops f22r9) .ret))))
theorem f22_calls : Sound Tryz.prog 22 53 f22 [.t 4] := sound_of mixed Tryz.func22 rfl (by kernel_rfl) (by kernel_rfl) (by kernel_rfl)

/-! 23: tabor/taborlaw08.vast -/
def f23r0 : List SOper := [
 o 4 (.mv (b false))]
def f23r1 : List SOper := [
 o 7 (.mv (t 0)),
 o 8 (.len (t 7)),
 o 9 (.cmp .gtr (t 8) (i 20)),
 o 10 (.mv (t 9)),
 n 11 10 (.mv (t 1)),
 n 12 10 (.len (t 11)),
 n 13 10 (.cmp .gtr (t 12) (i 20)),
 o 14 (.pick (t 10) (b true) (t 13))]
def f23r2 : List SOper := [
 o 4 (.mv (b true))]
def f23r3 : List SOper := [
 o 5 (.mv (i 0))]
def f23r4 : List SOper := [
 o 15 (.mv (t 5)),
 o 16 (.mv (t 0)),
 o 17 (.len (t 16)),
 o 18 (.cmp .lss (t 15) (t 17))]
def f23r5 : List SOper := [
 o 21 (.mv (t 0)),
 o 22 (.mv (t 5)),
 o 23 (.ixs 8 (t 21) (t 22)),
 o 24 (.fa 0 (t 23)),
 o 25 (.ld1 (t 24)),
 o 26 (.lens (t 25)),
 o 27 (.cmp .gtr (t 26) (i 300)),
 o 28 (.mv (t 27)),
 n 29 28 (.mv (t 0)),
 n 30 28 (.mv (t 5)),
 n 31 28 (.ixs 8 (t 29) (t 30)),
 n 32 28 (.fa 1 (t 31)),
 n 33 28 (.ldn 7 (t 32)),
 n 34 28 (.call 41 [(t 33)]),
 o 35 (.pick (t 28) (b true) (t 34))]
def f23r6 : List SOper := [
 o 4 (.mv (b true))]
def f23r7 : List SOper := [
 o 19 (.mv (t 5)),
 o 20 (.ar .add (t 19) (i 1)),
 o 5 (.mv (t 20))]
def f23l8 : SCode := (.seq (.seq (.ops f23r4) (.cond (t 18) .skip (.exit 0))) (.seq (.block 1 (.seq (.ops f23r5) (.cond (t 35) (.seq (.ops f23r6) .ret) .skip))) (.ops f23r7)))
def f23r9 : List SOper := [
 o 6 (.mv (i 0))]
def f23r10 : List SOper := [
 o 36 (.mv (t 6)),
 o 37 (.mv (t 1)),
 o 38 (.len (t 37)),
 o 39 (.cmp .lss (t 36) (t 38))]
def f23r11 : List SOper := [
 o 42 (.mv (t 1)),
 o 43 (.mv (t 6)),
 o 44 (.ixs 1 (t 42) (t 43)),
 o 45 (.ld1 (t 44)),
 o 46 (.lens (t 45)),
 o 47 (.cmp .gtr (t 46) (i 300))]
def f23r12 : List SOper := [
 o 4 (.mv (b true))]
def f23r13 : List SOper := [
 o 40 (.mv (t 6)),
 o 41 (.ar .add (t 40) (i 1)),
 o 6 (.mv (t 41))]
def f23l14 : SCode := (.seq (.seq (.ops f23r10) (.cond (t 39) .skip (.exit 2))) (.seq (.block 3 (.seq (.ops f23r11) (.cond (t 47) (.seq (.ops f23r12) .ret) .skip))) (.ops f23r13)))
def f23r15 : List SOper := [
 o 4 (.mv (b false))]
def f23 : SCode := (.seq (.ops f23r0) (.seq (.seq (.ops f23r1) (.cond (t 14) (.seq (.ops f23r2) .ret) .skip)) (.seq (.seq (.ops f23r3) (.block 0 (.loop f23l8))) (.seq (.seq (.ops f23r9) (.block 2 (.loop f23l14))) (.seq (.ops f23r15) .ret)))))
theorem f23_calls : Sound Tryz.prog 23 48 f23 [.t 4] := sound_of mixed Tryz.func23 rfl (by kernel_rfl) (by kernel_rfl) (by kernel_rfl)

/-! 24: tabor/taborlaw08.does: not simplified -/
/-! 25: tabor/keys.Of -/
def f25r0 : List SOper := [
 o 2 (.mv (.const (.pointer none))),
 o 3 (.mv (i 0))]
def f25r1 : List SOper := [
 o 10 (.call 18 []),
 o 4 (.mv (t 10))]
def f25r2 : List SOper := [
 o 11 (.mv (t 0)),
 o 12 (.len (t 11)),
 o 13 (.mv (i 0))]
def f25r3 : List SOper := [
 o 14 (.cmp .lss (t 13) (t 12))]
def f25r4 : List SOper := [
 o 15 (.ixs 8 (t 11) (t 13)),
 o 16 (.ldn 8 (t 15)),
 o 6 (.new [(.string ⟨#[]⟩), (.int .i64 0), (.string ⟨#[]⟩), (.slice none 0 0), (.slice none 0 0), (.slice none 0 0), (.bool false), (.int .i64 0)]),
 q (.st 8 (t 6) (t 16))]
def f25r5 : List SOper := [
 o 18 (.mv (t 4)),
 o 19 (.nilck (t 18)),
 o 20 (.fa 0 (t 19)),
 o 21 (.ld1 (t 20)),
 o 22 (.nilck (t 21)),
 o 23 (.fa 0 (t 22)),
 o 24 (.ld1 (t 23)),
 o 25 (.fa 0 (t 6)),
 o 26 (.ld1 (t 25)),
 o 27 (.look .str (.pointer none) true (t 24) (t 26)),
 o 17 (.mv (t 27)),
 o 28 (.ext (t 17) 0),
 o 29 (.ext (t 17) 1),
 o 7 (.mv (t 28)),
 o 8 (.mv (t 29))]
def f25r6 : List SOper := [
 o 30 (.mv (t 8)),
 o 31 (.mv (t 30)),
 n 32 31 (.fa 0 (t 6)),
 n 33 31 (.ld1 (t 32)),
 n 34 31 (.lens (t 33)),
 n 35 31 (.cmp .gtr (t 34) (i 1048576)),
 o 36 (.pick (t 31) (b true) (t 35)),
 o 37 (.mv (t 36)),
 n 38 37 (.fa 1 (t 6)),
 n 39 37 (.ldn 7 (t 38)),
 n 40 37 (.call 45 [(t 39)]),
 n 41 37 (.un .not (t 40)),
 o 42 (.pick (t 37) (b true) (t 41))]
def f25r7 : List SOper := [
 o 2 (.mv (.const (.pointer none))),
 o 3 (.mv (i 2))]
def f25r8 : List SOper := [
 o 43 (.fa 1 (t 6)),
 o 44 (.ldn 7 (t 43)),
 o 45 (.call 46 [(t 44)]),
 o 9 (.new [(.int .i64 0), (.string ⟨#[]⟩), (.slice none 0 0), (.slice none 0 0), (.slice none 0 0), (.bool false), (.int .i64 0)]),
 q (.st 7 (t 9) (t 45))]
def f25r9 : List SOper := [
 o 46 (.mv (t 4)),
 o 47 (.nilck (t 46)),
 o 48 (.fa 0 (t 47)),
 o 49 (.ld1 (t 48)),
 o 50 (.nilck (t 49)),
 o 51 (.fa 0 (t 50)),
 o 52 (.ld1 (t 51)),
 o 53 (.fa 0 (t 6)),
 o 54 (.ld1 (t 53)),
 q (.mup .str (t 52) (t 54) (t 9))]
def f25r10 : List SOper := [
 o 55 (.ar .add (t 13) (i 1)),
 o 13 (.mv (t 55))]
def f25l11 : SCode := (.seq (.ops f25r3) (.seq (.cond (t 14) .skip (.exit 0)) (.seq (.block 1 (.seq (.ops f25r4) (.seq (.ops f25r5) (.seq (.seq (.ops f25r6) (.cond (t 42) (.seq (.ops f25r7) .ret) .skip)) (.seq (.ops f25r8) (.ops f25r9)))))) (.ops f25r10))))
def f25r12 : List SOper := [
 o 56 (.mv (t 0)),
 o 57 (.len (t 56)),
 o 58 (.cmp .gtr (t 57) (i 65536))]
def f25r13 : List SOper := [
 o 2 (.mv (.const (.pointer none))),
 o 3 (.mv (i 3))]
def f25r14 : List SOper := [
 o 59 (.mv (t 4)),
 o 2 (.mv (t 59)),
 o 3 (.mv (i 0))]
def f25 : SCode := (.seq (.ops f25r0) (.seq (.ops f25r1) (.seq (.seq (.ops f25r2) (.block 0 (.loop f25l11))) (.seq (.seq (.ops f25r12) (.cond (t 58) (.seq (.ops f25r13) .ret) .skip)) (.seq (.ops f25r14) .ret)))))
theorem f25_calls : Sound Tryz.prog 25 60 f25 [.t 2, .t 3] := sound_of mixed Tryz.func25 rfl (by kernel_rfl) (by kernel_rfl) (by kernel_rfl)

/-! 26: tabor/taborref07.Of -/
def f26r0 : List SOper := [
 o 2 (.mv (.const (.slice none 0 0))),
 o 3 (.mv (i 0))]
def f26r1 : List SOper := [
 o 4 (.mv (.const (.slice none 0 0)))]
def f26r2 : List SOper := [
 o 5 (.mv (i 0))]
def f26r3 : List SOper := [
 o 8 (.mv (t 5)),
 o 9 (.mv (t 0)),
 o 10 (.len (t 9)),
 o 11 (.cmp .lss (t 8) (t 10))]
def f26r4 : List SOper := [
 o 15 (.mv (t 4)),
 o 16 (.mv (t 0)),
 o 17 (.mv (t 5)),
 o 18 (.ixs 8 (t 16) (t 17)),
 o 19 (.fa 0 (t 18)),
 o 20 (.ld1 (t 19)),
 o 21 (.call 28 [(t 15), (t 20)]),
 o 14 (.mv (t 21)),
 o 22 (.ext (t 14) 0),
 o 23 (.ext (t 14) 1),
 o 6 (.mv (t 22)),
 o 7 (.mv (t 23))]
def f26r5 : List SOper := [
 o 24 (.mv (t 7)),
 o 25 (.mv (t 24)),
 n 26 25 (.mv (t 0)),
 n 27 25 (.mv (t 5)),
 n 28 25 (.ixs 8 (t 26) (t 27)),
 n 29 25 (.fa 0 (t 28)),
 n 30 25 (.ld1 (t 29)),
 n 31 25 (.lens (t 30)),
 n 32 25 (.cmp .gtr (t 31) (i 1048576)),
 o 33 (.pick (t 25) (b true) (t 32)),
 o 34 (.mv (t 33)),
 n 35 34 (.mv (t 0)),
 n 36 34 (.mv (t 5)),
 n 37 34 (.ixs 8 (t 35) (t 36)),
 n 38 34 (.fa 1 (t 37)),
 n 39 34 (.ldn 7 (t 38)),
 n 40 34 (.call 47 [(t 39)]),
 n 41 34 (.un .not (t 40)),
 o 42 (.pick (t 34) (b true) (t 41))]
def f26r6 : List SOper := [
 o 2 (.mv (.const (.slice none 0 0))),
 o 3 (.mv (i 2))]
def f26r7 : List SOper := [
 o 43 (.mv (t 4)),
 o 44 (.mv (t 0)),
 o 45 (.mv (t 5)),
 o 46 (.ixs 8 (t 44) (t 45)),
 o 47 (.fa 0 (t 46)),
 o 48 (.ld1 (t 47)),
 o 49 (.mv (t 0)),
 o 50 (.mv (t 5)),
 o 51 (.ixs 8 (t 49) (t 50)),
 o 52 (.fa 1 (t 51)),
 o 53 (.ldn 7 (t 52)),
 o 54 (.call 48 [(t 43), (t 48), (t 53)]),
 o 4 (.mv (t 54))]
def f26r8 : List SOper := [
 o 12 (.mv (t 5)),
 o 13 (.ar .add (t 12) (i 1)),
 o 5 (.mv (t 13))]
def f26l9 : SCode := (.seq (.seq (.ops f26r3) (.cond (t 11) .skip (.exit 0))) (.seq (.block 1 (.seq (.ops f26r4) (.seq (.seq (.ops f26r5) (.cond (t 42) (.seq (.ops f26r6) .ret) .skip)) (.ops f26r7)))) (.ops f26r8)))
def f26r10 : List SOper := [
 o 55 (.mv (t 0)),
 o 56 (.len (t 55)),
 o 57 (.cmp .gtr (t 56) (i 65536))]
def f26r11 : List SOper := [
 o 2 (.mv (.const (.slice none 0 0))),
 o 3 (.mv (i 3))]
def f26r12 : List SOper := [
 o 58 (.mv (t 4)),
 o 2 (.mv (t 58)),
 o 3 (.mv (i 0))]
def f26 : SCode := (.seq (.ops f26r0) (.seq (.ops f26r1) (.seq (.seq (.ops f26r2) (.block 0 (.loop f26l9))) (.seq (.seq (.ops f26r10) (.cond (t 57) (.seq (.ops f26r11) .ret) .skip)) (.seq (.ops f26r12) .ret)))))
theorem f26_calls : Sound Tryz.prog 26 59 f26 [.t 2, .t 3] := sound_of mixed Tryz.func26 rfl (by kernel_rfl) (by kernel_rfl) (by kernel_rfl)

/-! 27: tabor/basics.Drops -/
def f27r0 : List SOper := [
 o 6 (.mv (.const (.slice none 0 0)))]
def f27r1 : List SOper := [
 o 12 (.mv (t 0)),
 o 13 (.mv (t 2)),
 o 14 (.call 49 [(t 12), (t 13)]),
 o 11 (.mv (t 14)),
 o 15 (.ext (t 11) 0),
 o 16 (.ext (t 11) 1),
 o 7 (.new [(.int .i64 0), (.string ⟨#[]⟩), (.slice none 0 0), (.slice none 0 0), (.slice none 0 0), (.bool false), (.int .i64 0)]),
 q (.st 7 (t 7) (t 15)),
 o 8 (.mv (t 16))]
def f27r2 : List SOper := [
 o 18 (.mv (t 0)),
 o 19 (.mv (t 2)),
 o 20 (.mv (t 1)),
 o 21 (.call 50 [(t 18), (t 19), (t 20)]),
 o 17 (.mv (t 21)),
 o 22 (.ext (t 17) 0),
 o 23 (.ext (t 17) 1),
 o 9 (.new [(.int .i64 0), (.string ⟨#[]⟩), (.slice none 0 0), (.slice none 0 0), (.slice none 0 0), (.bool false), (.int .i64 0)]),
 q (.st 7 (t 9) (t 22)),
 o 10 (.mv (t 23))]
def f27r3 : List SOper := [
 o 24 (.mv (t 8)),
 o 25 (.mv (t 24)),
 g 26 25 (.mv (t 10)),
 g 27 25 (.un .not (t 26)),
 o 28 (.pick (t 25) (t 27) (b false))]
def f27r4 : List SOper := [
 o 29 (.mv (t 2)),
 o 30 (.build [(.int .i64 0), (.string ⟨#[]⟩), (.string ⟨#[]⟩), (.string ⟨#[]⟩), (.int .i64 0)] [(0, 1), (1, 1)] [(i 1), (t 29)]),
 o 31 (.bslice [(.int .i64 0), (.string ⟨#[]⟩), (.string ⟨#[]⟩), (.string ⟨#[]⟩), (.int .i64 0)] 1 [(0, 5)] [(t 30)]),
 o 6 (.mv (t 31))]
def f27r5 : List SOper := [
 o 6 (.mv (.const (.slice none 0 0)))]
def f27 : SCode := (.seq (.ops f27r0) (.seq (.ops f27r1) (.seq (.seq (.ops f27r2) (.seq (.ops f27r3) (.cond (t 28) (.seq (.ops f27r4) .ret) .skip))) (.seq (.ops f27r5) .ret))))
theorem f27_calls : Sound Tryz.prog 27 32 f27 [.t 6] := sound_of mixed Tryz.func27 rfl (by kernel_rfl) (by kernel_rfl) (by kernel_rfl)

/-! 28: tabor/taborref07.Find -/
def f28r0 : List SOper := [
 o 4 (.mv (i 0)),
 o 5 (.mv (b false))]
def f28r1 : List SOper := [
 o 6 (.mv (i 0))]
def f28r2 : List SOper := [
 o 7 (.mv (t 6)),
 o 8 (.mv (t 0)),
 o 9 (.len (t 8)),
 o 10 (.cmp .lss (t 7) (t 9))]
def f28r3 : List SOper := [
 o 13 (.mv (t 0)),
 o 14 (.mv (t 6)),
 o 15 (.ixs 8 (t 13) (t 14)),
 o 16 (.fa 0 (t 15)),
 o 17 (.ld1 (t 16)),
 o 18 (.mv (t 1)),
 o 19 (.cmp .eql (t 17) (t 18))]
def f28r4 : List SOper := [
 o 20 (.mv (t 6)),
 o 4 (.mv (t 20)),
 o 5 (.mv (b true))]
def f28r5 : List SOper := [
 o 21 (.mv (t 1)),
 o 22 (.mv (t 0)),
 o 23 (.mv (t 6)),
 o 24 (.ixs 8 (t 22) (t 23)),
 o 25 (.fa 0 (t 24)),
 o 26 (.ld1 (t 25)),
 o 27 (.call 51 [(t 21), (t 26)])]
def f28r6 : List SOper := [
 o 28 (.mv (t 6)),
 o 4 (.mv (t 28)),
 o 5 (.mv (b false))]
def f28r7 : List SOper := [
 o 11 (.mv (t 6)),
 o 12 (.ar .add (t 11) (i 1)),
 o 6 (.mv (t 12))]
def f28l8 : SCode := (.seq (.seq (.ops f28r2) (.cond (t 10) .skip (.exit 0))) (.seq (.block 1 (.seq (.seq (.ops f28r3) (.cond (t 19) (.seq (.ops f28r4) .ret) .skip)) (.seq (.ops f28r5) (.cond (t 27) (.seq (.ops f28r6) .ret) .skip)))) (.ops f28r7)))
def f28r9 : List SOper := [
 o 29 (.mv (t 0)),
 o 30 (.len (t 29)),
 o 4 (.mv (t 30)),
 o 5 (.mv (b false))]
def f28 : SCode := (.seq (.ops f28r0) (.seq (.seq (.ops f28r1) (.block 0 (.loop f28l8))) (.seq (.ops f28r9) .ret)))
theorem f28_calls : Sound Tryz.prog 28 31 f28 [.t 4, .t 5] := sound_of mixed Tryz.func28 rfl (by kernel_rfl) (by kernel_rfl) (by kernel_rfl)

/-! 29: tabor/taborref07.Get -/
def f29r0 : List SOper := [
 o 6 (.new [(.int .i64 0), (.string ⟨#[]⟩), (.slice none 0 0), (.slice none 0 0), (.slice none 0 0), (.bool false), (.int .i64 0)]),
 o 7 (.mv (b false))]
def f29r1 : List SOper := [
 o 11 (.mv (t 0)),
 o 12 (.mv (t 1)),
 o 13 (.call 28 [(t 11), (t 12)]),
 o 10 (.mv (t 13)),
 o 14 (.ext (t 10) 0),
 o 15 (.ext (t 10) 1),
 o 8 (.mv (t 14)),
 o 9 (.mv (t 15))]
def f29r2 : List SOper := [
 o 16 (.mv (t 9)),
 o 17 (.un .not (t 16)),
 o 18 (.mv (t 17)),
 n 19 18 (.mv (t 0)),
 n 20 18 (.mv (t 8)),
 n 21 18 (.ixs 8 (t 19) (t 20)),
 n 22 18 (.fa 1 (t 21)),
 n 23 18 (.fa 5 (t 22)),
 n 24 18 (.ld1 (t 23)),
 n 25 18 (.mv (t 24)),
 g 26 25 (.mv (t 0)),
 g 27 25 (.mv (t 8)),
 g 28 25 (.ixs 8 (t 26) (t 27)),
 g 29 25 (.fa 1 (t 28)),
 g 30 25 (.fa 6 (t 29)),
 g 31 25 (.ld1 (t 30)),
 g 32 25 (.mv (t 2)),
 g 33 25 (.cmp .leq (t 31) (t 32)),
 n 34 18 (.pick (t 25) (t 33) (b false)),
 o 35 (.pick (t 18) (b true) (t 34))]
def f29r3 : List SOper := [
 o 36 (.build [(.int .i64 0), (.string ⟨#[]⟩), (.slice none 0 0), (.slice none 0 0), (.slice none 0 0), (.bool false), (.int .i64 0)] [] []),
 q (.st 7 (t 6) (t 36)),
 o 7 (.mv (b false))]
def f29r4 : List SOper := [
 o 37 (.mv (t 0)),
 o 38 (.mv (t 8)),
 o 39 (.ixs 8 (t 37) (t 38)),
 o 40 (.fa 1 (t 39)),
 o 41 (.ldn 7 (t 40)),
 q (.st 7 (t 6) (t 41)),
 o 7 (.mv (b true))]
def f29 : SCode := (.seq (.ops f29r0) (.seq (.ops f29r1) (.seq (.seq (.ops f29r2) (.cond (t 35) (.seq (.ops f29r3) .ret) .skip)) (.seq (.ops f29r4) .ret))))
theorem f29_calls : Sound Tryz.prog 29 42 f29 [.cn 6 7, .t 7] := sound_of mixed Tryz.func29 rfl (by kernel_rfl) (by kernel_rfl) (by kernel_rfl)

/-! 30: (*tabor/keys.Keys).Apply: not simplified -/
/-! 31: tabor/taborref08.Digits: not simplified -/
/-! 32: strconv.ParseInt: not simplified -/
/-! 33: strconv.FormatInt: not simplified -/
/-! 34: slices.Sorted[string]: not simplified -/
/-! 35: maps.Keys[map[string]func(a *tabor/basics.asked) tabor/api.Reply,string,func(a *tabor/basics.asked) tabor/api.Reply]: not simplified -/
/-! 36: tabor/basics.commands: not simplified -/
/-! 37: (*tabor/keys.Keys).Same: not simplified -/
/-! 38: tabor/basics.word: not simplified -/
/-! 39: tabor/basics.Do$1: not simplified -/
/-! 40: slices.EqualFunc[[]tabor/api.Reply,[]tabor/api.Reply,tabor/api.Reply,tabor/api.Reply] -/
def f40r0 : List SOper := [
 o 6 (.mv (b false))]
def f40r1 : List SOper := [
 o 10 (.mv (t 0)),
 o 11 (.len (t 10)),
 o 12 (.mv (t 1)),
 o 13 (.len (t 12)),
 o 14 (.cmp .neq (t 11) (t 13))]
def f40r2 : List SOper := [
 o 6 (.mv (b false))]
def f40r3 : List SOper := [
 o 15 (.mv (t 0)),
 o 16 (.len (t 15)),
 o 17 (.mv (i 0))]
def f40r4 : List SOper := [
 o 18 (.cmp .lss (t 17) (t 16))]
def f40r5 : List SOper := [
 o 19 (.mv (t 17)),
 o 20 (.ixs 4 (t 15) (t 17)),
 o 21 (.ldn 4 (t 20)),
 o 8 (.new [(.int .i64 0), (.int .i64 0), (.string ⟨#[]⟩), (.slice none 0 0)]),
 o 7 (.mv (t 19)),
 q (.st 4 (t 8) (t 21))]
def f40r6 : List SOper := [
 o 22 (.mv (t 1)),
 o 23 (.mv (t 7)),
 o 24 (.ixs 4 (t 22) (t 23)),
 o 25 (.ldn 4 (t 24)),
 o 9 (.new [(.int .i64 0), (.int .i64 0), (.string ⟨#[]⟩), (.slice none 0 0)]),
 q (.st 4 (t 9) (t 25))]
def f40r7 : List SOper := [
 o 26 (.mv (t 2)),
 o 27 (.ldn 4 (t 8)),
 o 28 (.ldn 4 (t 9)),
 o 29 (.callv (t 26) [(t 27), (t 28)]),
 o 30 (.un .not (t 29))]
def f40r8 : List SOper := [
 o 6 (.mv (b false))]
def f40r9 : List SOper := [
 o 31 (.ar .add (t 17) (i 1)),
 o 17 (.mv (t 31))]
def f40l10 : SCode := (.seq (.ops f40r4) (.seq (.cond (t 18) .skip (.exit 0)) (.seq (.block 1 (.seq (.ops f40r5) (.seq (.ops f40r6) (.seq (.ops f40r7) (.cond (t 30) (.seq (.ops f40r8) .ret) .skip))))) (.ops f40r9))))
def f40r11 : List SOper := [
 o 6 (.mv (b true))]
def f40 : SCode := (.seq (.ops f40r0) (.seq (.seq (.ops f40r1) (.cond (t 14) (.seq (.ops f40r2) .ret) .skip)) (.seq (.seq (.ops f40r3) (.block 0 (.loop f40l10))) (.seq (.ops f40r11) .ret))))
theorem f40_calls : Sound Tryz.prog 40 32 f40 [.t 6] := sound_of mixed Tryz.func40 rfl (by kernel_rfl) (by kernel_rfl) (by kernel_rfl)

/-! 41: tabor/taborlaw08.large -/
def f41r0 : List SOper := [
 o 1 (.box (t 0)),
 o 2 (.mv (b false))]
def f41r1 : List SOper := [
 o 7 (.fa 1 (t 1)),
 o 8 (.ld1 (t 7)),
 o 9 (.lens (t 8)),
 o 3 (.mv (t 9))]
def f41r2 : List SOper := [
 o 10 (.fa 2 (t 1)),
 o 11 (.ld1 (t 10)),
 o 12 (.len (t 11)),
 o 13 (.cmp .gtr (t 12) (i 40)),
 o 14 (.mv (t 13)),
 n 15 14 (.fa 3 (t 1)),
 n 16 14 (.ld1 (t 15)),
 n 17 14 (.len (t 16)),
 n 18 14 (.cmp .gtr (t 17) (i 40)),
 o 19 (.pick (t 14) (b true) (t 18)),
 o 20 (.mv (t 19)),
 n 21 20 (.fa 4 (t 1)),
 n 22 20 (.ld1 (t 21)),
 n 23 20 (.len (t 22)),
 n 24 20 (.cmp .gtr (t 23) (i 40)),
 o 25 (.pick (t 20) (b true) (t 24)),
 o 26 (.mv (t 25)),
 n 27 26 (.mv (t 3)),
 n 28 26 (.cmp .gtr (t 27) (i 2000)),
 o 29 (.pick (t 26) (b true) (t 28))]
def f41r3 : List SOper := [
 o 2 (.mv (b true))]
def f41r4 : List SOper := [
 o 4 (.mv (i 0))]
def f41r5 : List SOper := [
 o 30 (.mv (t 4)),
 o 31 (.fa 2 (t 1)),
 o 32 (.ld1 (t 31)),
 o 33 (.len (t 32)),
 o 34 (.cmp .lss (t 30) (t 33))]
def f41r6 : List SOper := [
 o 37 (.mv (t 3)),
 o 38 (.fa 2 (t 1)),
 o 39 (.ld1 (t 38)),
 o 40 (.mv (t 4)),
 o 41 (.ixs 2 (t 39) (t 40)),
 o 42 (.fa 0 (t 41)),
 o 43 (.ld1 (t 42)),
 o 44 (.lens (t 43)),
 o 45 (.ar .add (t 37) (t 44)),
 o 46 (.fa 2 (t 1)),
 o 47 (.ld1 (t 46)),
 o 48 (.mv (t 4)),
 o 49 (.ixs 2 (t 47) (t 48)),
 o 50 (.fa 1 (t 49)),
 o 51 (.ld1 (t 50)),
 o 52 (.lens (t 51)),
 o 53 (.ar .add (t 45) (t 52)),
 o 3 (.mv (t 53))]
def f41r7 : List SOper := [
 o 54 (.mv (t 3)),
 o 55 (.cmp .gtr (t 54) (i 2000))]
def f41r8 : List SOper := [
 o 2 (.mv (b true))]
def f41r9 : List SOper := [
 o 35 (.mv (t 4)),
 o 36 (.ar .add (t 35) (i 1)),
 o 4 (.mv (t 36))]
def f41l10 : SCode := (.seq (.seq (.ops f41r5) (.cond (t 34) .skip (.exit 0))) (.seq (.block 1 (.seq (.ops f41r6) (.seq (.ops f41r7) (.cond (t 55) (.seq (.ops f41r8) .ret) .skip)))) (.ops f41r9)))
def f41r11 : List SOper := [
 o 5 (.mv (i 0))]
def f41r12 : List SOper := [
 o 56 (.mv (t 5)),
 o 57 (.fa 3 (t 1)),
 o 58 (.ld1 (t 57)),
 o 59 (.len (t 58)),
 o 60 (.cmp .lss (t 56) (t 59))]
def f41r13 : List SOper := [
 o 63 (.mv (t 3)),
 o 64 (.fa 3 (t 1)),
 o 65 (.ld1 (t 64)),
 o 66 (.mv (t 5)),
 o 67 (.ixs 1 (t 65) (t 66)),
 o 68 (.ld1 (t 67)),
 o 69 (.lens (t 68)),
 o 70 (.ar .add (t 63) (t 69)),
 o 3 (.mv (t 70))]
def f41r14 : List SOper := [
 o 71 (.mv (t 3)),
 o 72 (.cmp .gtr (t 71) (i 2000))]
def f41r15 : List SOper := [
 o 2 (.mv (b true))]
def f41r16 : List SOper := [
 o 61 (.mv (t 5)),
 o 62 (.ar .add (t 61) (i 1)),
 o 5 (.mv (t 62))]
def f41l17 : SCode := (.seq (.seq (.ops f41r12) (.cond (t 60) .skip (.exit 2))) (.seq (.block 3 (.seq (.ops f41r13) (.seq (.ops f41r14) (.cond (t 72) (.seq (.ops f41r15) .ret) .skip)))) (.ops f41r16)))
def f41r18 : List SOper := [
 o 6 (.mv (i 0))]
def f41r19 : List SOper := [
 o 73 (.mv (t 6)),
 o 74 (.fa 4 (t 1)),
 o 75 (.ld1 (t 74)),
 o 76 (.len (t 75)),
 o 77 (.cmp .lss (t 73) (t 76))]
def f41r20 : List SOper := [
 o 80 (.mv (t 3)),
 o 81 (.fa 4 (t 1)),
 o 82 (.ld1 (t 81)),
 o 83 (.mv (t 6)),
 o 84 (.ixs 2 (t 82) (t 83)),
 o 85 (.fa 0 (t 84)),
 o 86 (.ld1 (t 85)),
 o 87 (.lens (t 86)),
 o 88 (.ar .add (t 80) (t 87)),
 o 3 (.mv (t 88))]
def f41r21 : List SOper := [
 o 89 (.mv (t 3)),
 o 90 (.cmp .gtr (t 89) (i 2000))]
def f41r22 : List SOper := [
 o 2 (.mv (b true))]
def f41r23 : List SOper := [
 o 78 (.mv (t 6)),
 o 79 (.ar .add (t 78) (i 1)),
 o 6 (.mv (t 79))]
def f41l24 : SCode := (.seq (.seq (.ops f41r19) (.cond (t 77) .skip (.exit 4))) (.seq (.block 5 (.seq (.ops f41r20) (.seq (.ops f41r21) (.cond (t 90) (.seq (.ops f41r22) .ret) .skip)))) (.ops f41r23)))
def f41r25 : List SOper := [
 o 2 (.mv (b false))]
def f41 : SCode := (.seq (.ops f41r0) (.seq (.ops f41r1) (.seq (.seq (.ops f41r2) (.cond (t 29) (.seq (.ops f41r3) .ret) .skip)) (.seq (.seq (.ops f41r4) (.block 0 (.loop f41l10))) (.seq (.seq (.ops f41r11) (.block 2 (.loop f41l17))) (.seq (.seq (.ops f41r18) (.block 4 (.loop f41l24))) (.seq (.ops f41r25) .ret)))))))
theorem f41_calls : Sound Tryz.prog 41 91 f41 [.t 2] := sound_of mixed Tryz.func41 rfl (by kernel_rfl) (by kernel_rfl) (by kernel_rfl)

/-! 42: tabor/taborref08.Do: not simplified -/
/-! 43: tabor/taborref08.SameEffects: not simplified -/
/-! 44: tabor/taborlaw08.same: not simplified -/
/-! 45: tabor/keys.Check: not simplified -/
/-! 46: tabor/keys.copied: not simplified -/
/-! 47: tabor/taborref07.Check: not simplified -/
/-! 48: tabor/taborref07.Put: not simplified -/
/-! 49: (*tabor/keys.Keys).Look -/
def f49r0 : List SOper := [
 o 4 (.new [(.int .i64 0), (.string ⟨#[]⟩), (.slice none 0 0), (.slice none 0 0), (.slice none 0 0), (.bool false), (.int .i64 0)]),
 o 5 (.mv (b false))]
def f49r1 : List SOper := [
 o 6 (.mv (t 0)),
 o 7 (.call 52 [(t 6)]),
 o 8 (.mv (t 7)),
 n 9 8 (.mv (t 0)),
 n 10 8 (.nilck (t 9)),
 n 11 8 (.fa 0 (t 10)),
 n 12 8 (.ld1 (t 11)),
 n 13 8 (.nilck (t 12)),
 n 14 8 (.fa 0 (t 13)),
 n 15 8 (.ld1 (t 14)),
 n 16 8 (.mv (t 1)),
 n 17 8 (.look .str (.pointer none) false (t 15) (t 16)),
 n 18 8 (.eqn 0 false (t 17)),
 o 19 (.pick (t 8) (b true) (t 18))]
def f49r2 : List SOper := [
 o 20 (.build [(.int .i64 0), (.string ⟨#[]⟩), (.slice none 0 0), (.slice none 0 0), (.slice none 0 0), (.bool false), (.int .i64 0)] [] []),
 q (.st 7 (t 4) (t 20)),
 o 5 (.mv (b false))]
def f49r3 : List SOper := [
 o 21 (.mv (t 0)),
 o 22 (.nilck (t 21)),
 o 23 (.fa 0 (t 22)),
 o 24 (.ld1 (t 23)),
 o 25 (.nilck (t 24)),
 o 26 (.fa 0 (t 25)),
 o 27 (.ld1 (t 26)),
 o 28 (.mv (t 1)),
 o 29 (.look .str (.pointer none) false (t 27) (t 28)),
 o 30 (.nilck (t 29)),
 o 31 (.ldn 7 (t 30)),
 o 32 (.call 46 [(t 31)]),
 q (.st 7 (t 4) (t 32)),
 o 5 (.mv (b true))]
def f49 : SCode := (.seq (.ops f49r0) (.seq (.seq (.ops f49r1) (.cond (t 19) (.seq (.ops f49r2) .ret) .skip)) (.seq (.ops f49r3) .ret)))
theorem f49_calls : Sound Tryz.prog 49 33 f49 [.cn 4 7, .t 5] := sound_of mixed Tryz.func49 rfl (by kernel_rfl) (by kernel_rfl) (by kernel_rfl)

/-! 50: (*tabor/keys.Keys).Get -/
def f50r0 : List SOper := [
 o 6 (.new [(.int .i64 0), (.string ⟨#[]⟩), (.slice none 0 0), (.slice none 0 0), (.slice none 0 0), (.bool false), (.int .i64 0)]),
 o 7 (.mv (b false))]
def f50r1 : List SOper := [
 o 11 (.mv (t 0)),
 o 12 (.mv (t 1)),
 o 13 (.call 49 [(t 11), (t 12)]),
 o 10 (.mv (t 13)),
 o 14 (.ext (t 10) 0),
 o 15 (.ext (t 10) 1),
 o 8 (.new [(.int .i64 0), (.string ⟨#[]⟩), (.slice none 0 0), (.slice none 0 0), (.slice none 0 0), (.bool false), (.int .i64 0)]),
 q (.st 7 (t 8) (t 14)),
 o 9 (.mv (t 15))]
def f50r2 : List SOper := [
 o 16 (.mv (t 9)),
 o 17 (.un .not (t 16)),
 o 18 (.mv (t 17)),
 n 19 18 (.ldn 7 (t 8)),
 n 20 18 (.mv (t 2)),
 n 21 18 (.call 103 [(t 19), (t 20)]),
 o 22 (.pick (t 18) (b true) (t 21))]
def f50r3 : List SOper := [
 o 23 (.build [(.int .i64 0), (.string ⟨#[]⟩), (.slice none 0 0), (.slice none 0 0), (.slice none 0 0), (.bool false), (.int .i64 0)] [] []),
 q (.st 7 (t 6) (t 23)),
 o 7 (.mv (b false))]
def f50r4 : List SOper := [
 o 24 (.ldn 7 (t 8)),
 q (.st 7 (t 6) (t 24)),
 o 7 (.mv (b true))]
def f50 : SCode := (.seq (.ops f50r0) (.seq (.ops f50r1) (.seq (.seq (.ops f50r2) (.cond (t 22) (.seq (.ops f50r3) .ret) .skip)) (.seq (.ops f50r4) .ret))))
theorem f50_calls : Sound Tryz.prog 50 25 f50 [.cn 6 7, .t 7] := sound_of mixed Tryz.func50 rfl (by kernel_rfl) (by kernel_rfl) (by kernel_rfl)

/-! 51: tabor/taborref07.Less: not simplified -/
/-! 52: (*tabor/keys.Keys).none: not simplified -/
/-! 53: (*tabor/keys.Keys).one: not simplified -/
/-! 54: internal/strconv.ParseInt: not simplified -/
/-! 55: strconv.toError: not simplified -/
/-! 56: internal/strconv.FormatInt: not simplified -/
/-! 57: slices.Collect[string]: not simplified -/
/-! 58: slices.Sort[[]string,string]: not simplified -/
/-! 59: maps.Keys[map[string]func(a *tabor/basics.asked) tabor/api.Reply,string,func(a *tabor/basics.asked) tabor/api.Reply]$1: not simplified -/
/-! 60: tabor/basics.set: not simplified -/
/-! 61: tabor/basics.get: not simplified -/
/-! 62: tabor/basics.del: not simplified -/
/-! 63: tabor/basics.exists: not simplified -/
/-! 64: tabor/basics.kind: not simplified -/
/-! 65: tabor/basics.step: not simplified -/
/-! 66: tabor/basics.commands$1: not simplified -/
/-! 67: (*tabor/basics.asked).many: not simplified -/
/-! 68: tabor/basics.by: not simplified -/
/-! 69: (*tabor/basics.asked).number: not simplified -/
/-! 70: tabor/basics.more: not simplified -/
/-! 71: tabor/basics.long: not simplified -/
/-! 72: tabor/basics.mget: not simplified -/
/-! 73: tabor/basics.mset: not simplified -/
/-! 74: tabor/basics.expire: not simplified -/
/-! 75: tabor/basics.persist: not simplified -/
/-! 76: tabor/basics.left: not simplified -/
/-! 77: tabor/basics.names: not simplified -/
/-! 78: tabor/basics.size: not simplified -/
/-! 79: tabor/basics.flush: not simplified -/
/-! 80: maps.EqualFunc[map[string]*tabor/api.Thing,map[string]*tabor/api.Thing,string,*tabor/api.Thing,*tabor/api.Thing]: not simplified -/
/-! 81: (*tabor/keys.Keys).Same$1: not simplified -/
/-! 82: tabor/keys.SameThing: not simplified -/
/-! 83: tabor/taborref08.bounds: not simplified -/
/-! 84: (*tabor/taborref08.Asked).Many: not simplified -/
/-! 85: tabor/taborref08.Fail: not simplified -/
/-! 86: (*tabor/taborref08.Asked).reply: not simplified -/
/-! 87: (*tabor/keys.Keys).All: not simplified -/
/-! 88: tabor/taborref07.SameThing: not simplified -/
/-! 89: tabor/keys.count: not simplified -/
/-! 90: tabor/keys.short: not simplified -/
/-! 91: tabor/keys.names: not simplified -/
/-! 92: tabor/keys.rising[tabor/api.Pair]: not simplified -/
/-! 93: tabor/keys.Check$1: not simplified -/
/-! 94: strings.Compare: not simplified -/
/-! 95: tabor/keys.rising[string]: not simplified -/
/-! 96: tabor/keys.rising[tabor/api.Rank]: not simplified -/
/-! 97: tabor/keys.ahead: not simplified -/
/-! 98: tabor/keys.once: not simplified -/
/-! 99: slices.Clone[[]tabor/api.Pair,tabor/api.Pair]: not simplified -/
/-! 100: slices.Clone[[]string,string]: not simplified -/
/-! 101: slices.Clone[[]tabor/api.Rank,tabor/api.Rank]: not simplified -/
/-! 102: tabor/taborref07.Ahead: not simplified -/
/-! 103: tabor/keys.gone: not simplified -/
/-! 104: tabor/keys.rules: not simplified -/
/-! 105: internal/strconv.ParseUint: not simplified -/
/-! 106: strconv.syntaxError: not simplified -/
/-! 107: strconv.rangeError: not simplified -/
/-! 108: strconv.baseError: not simplified -/
/-! 109: strconv.bitSizeError: not simplified -/
/-! 110: internal/strconv.small: not simplified -/
/-! 111: internal/strconv.numDigits: not simplified -/
/-! 112: internal/strconv.formatBase10: not simplified -/
/-! 113: internal/strconv.formatBits: not simplified -/
/-! 114: slices.AppendSeq[[]string,string]: not simplified -/
/-! 115: slices.pdqsortOrdered[string]: not simplified -/
/-! 116: math/bits.Len: not simplified -/
/-! 117: tabor/basics.must: not simplified -/
/-! 118: tabor/basics.plus: not simplified -/
/-! 119: (*tabor/basics.asked).put: not simplified -/
/-! 120: (*tabor/basics.asked).add: not simplified -/
/-! 121: tabor/basics.ok: not simplified -/
/-! 122: (*tabor/basics.asked).text: not simplified -/
/-! 123: tabor/basics.text: not simplified -/
/-! 124: tabor/basics.number: not simplified -/
/-! 125: tabor/basics.step$1: not simplified -/
/-! 126: tabor/basics.list: not simplified -/
/-! 127: tabor/basics.minus: not simplified -/
/-! 128: (*tabor/keys.Keys).Names: not simplified -/
/-! 129: (*tabor/keys.Keys).Size: not simplified -/
/-! 130: slices.Equal[[]tabor/api.Pair,tabor/api.Pair]: not simplified -/
/-! 131: slices.Equal[[]string,string]: not simplified -/
/-! 132: slices.Equal[[]tabor/api.Rank,tabor/api.Rank]: not simplified -/
/-! 133: (*tabor/taborref08.Asked).set: not simplified -/
/-! 134: (*tabor/taborref08.Asked).text: not simplified -/
/-! 135: (*tabor/taborref08.Asked).count: not simplified -/
/-! 136: tabor/taborref08.Status: not simplified -/
/-! 137: (*tabor/taborref08.Asked).Num: not simplified -/
/-! 138: (*tabor/taborref08.Asked).by: not simplified -/
/-! 139: (*tabor/taborref08.Asked).texts: not simplified -/
/-! 140: (*tabor/taborref08.Asked).times: not simplified -/
/-! 141: (*tabor/taborref08.Asked).whole: not simplified -/
/-! 142: (*tabor/keys.Keys).All$1: not simplified -/
/-! 143: maps.Keys[map[string]*tabor/api.Thing,string,*tabor/api.Thing]: not simplified -/
/-! 144: slices.ContainsFunc[[]string,string]: not simplified -/
/-! 145: tabor/keys.short$1: not simplified -/
/-! 146: internal/bytealg.CompareString: not simplified -/
/-! 147: tabor/keys.rules$1: not simplified -/
/-! 148: tabor/keys.rules$2: not simplified -/
/-! 149: tabor/keys.rules$3: not simplified -/
/-! 150: tabor/keys.rules$4: not simplified -/
/-! 151: tabor/keys.hash: not simplified -/
/-! 152: tabor/keys.unhash: not simplified -/
/-! 153: tabor/keys.rules$5: not simplified -/
/-! 154: slices.Insert[[]string,string]: not simplified -/
/-! 155: tabor/keys.rules$6: not simplified -/
/-! 156: tabor/keys.rules$7: not simplified -/
/-! 157: tabor/keys.rules$8: not simplified -/
/-! 158: tabor/keys.at: not simplified -/
/-! 159: tabor/keys.add: not simplified -/
/-! 160: tabor/keys.remove: not simplified -/
/-! 161: tabor/keys.rank: not simplified -/
/-! 162: tabor/keys.unrank: not simplified -/
/-! 163: internal/strconv.lower: not simplified -/
/-! 164: internal/strconv.underscoreOK: not simplified -/
/-! 165: internal/stringslite.Clone: not simplified -/
/-! 166: errors.New: not simplified -/
/-! 167: strconv.Itoa: not simplified -/
/-! 168: internal/strconv.log10Pow2: not simplified -/
/-! 169: math/bits.Len64: not simplified -/
/-! 170: internal/strconv.bool2[int]: not simplified -/
/-! 171: internal/strconv.isPowerOfTwo: not simplified -/
/-! 172: math/bits.TrailingZeros: not simplified -/
/-! 173: slices.insertionSortOrdered[string]: not simplified -/
/-! 174: slices.heapSortOrdered[string]: not simplified -/
/-! 175: slices.breakPatternsOrdered[string]: not simplified -/
/-! 176: slices.choosePivotOrdered[string]: not simplified -/
/-! 177: slices.reverseRangeOrdered[string]: not simplified -/
/-! 178: slices.partialInsertionSortOrdered[string]: not simplified -/
/-! 179: cmp.Less[string]: not simplified -/
/-! 180: slices.partitionEqualOrdered[string]: not simplified -/
/-! 181: slices.partitionOrdered[string]: not simplified -/
/-! 182: math/bits.Len32: not simplified -/
/-! 183: (*tabor/taborref08.Asked).Plus: not simplified -/
/-! 184: (*tabor/taborref08.Asked).put: not simplified -/
/-! 185: (*tabor/taborref08.Asked).Thing: not simplified -/
/-! 186: tabor/taborref08.Int: not simplified -/
/-! 187: tabor/taborref08.Text: not simplified -/
/-! 188: (*tabor/taborref08.Asked).named: not simplified -/
/-! 189: (*tabor/taborref08.Asked).Gone: not simplified -/
/-! 190: tabor/taborref07.Names: not simplified -/
/-! 191: maps.Keys[map[string]*tabor/api.Thing,string,*tabor/api.Thing]$1: not simplified -/
/-! 192: slices.IndexFunc[[]string,string]: not simplified -/
/-! 193: internal/bytealg.abigen_runtime_cmpstring: not simplified -/
/-! 194: tabor/keys.byName[tabor/api.Pair]: not simplified -/
/-! 195: tabor/keys.pairName: not simplified -/
/-! 196: slices.Insert[[]tabor/api.Pair,tabor/api.Pair]: not simplified -/
/-! 197: slices.Delete[[]tabor/api.Pair,tabor/api.Pair]: not simplified -/
/-! 198: slices.overlaps[string]: not simplified -/
/-! 199: slices.rotateRight[string]: not simplified -/
/-! 200: tabor/keys.byName[string]: not simplified -/
/-! 201: tabor/keys.itself: not simplified -/
/-! 202: slices.Delete[[]string,string]: not simplified -/
/-! 203: slices.BinarySearchFunc[[]tabor/api.Rank,tabor/api.Rank,tabor/api.Rank]: not simplified -/
/-! 204: slices.Insert[[]tabor/api.Rank,tabor/api.Rank]: not simplified -/
/-! 205: slices.IndexFunc[[]tabor/api.Rank,tabor/api.Rank]: not simplified -/
/-! 206: tabor/keys.unrank$1: not simplified -/
/-! 207: slices.Delete[[]tabor/api.Rank,tabor/api.Rank]: not simplified -/
/-! 208: internal/strconv.Itoa: not simplified -/
/-! 209: math/bits.TrailingZeros32: not simplified -/
/-! 210: math/bits.TrailingZeros64: not simplified -/
/-! 211: slices.siftDownOrdered[string]: not simplified -/
/-! 212: slices.nextPowerOfTwo: not simplified -/
/-! 213: (*slices.xorshift).Next: not simplified -/
/-! 214: slices.medianAdjacentOrdered[string]: not simplified -/
/-! 215: slices.medianOrdered[string]: not simplified -/
/-! 216: cmp.isNaN[string]: not simplified -/
/-! 217: slices.BinarySearchFunc[[]tabor/api.Pair,tabor/api.Pair,string]: not simplified -/
/-! 218: tabor/keys.byName[tabor/api.Pair]$1: not simplified -/
/-! 219: slices.overlaps[tabor/api.Pair]: not simplified -/
/-! 220: slices.rotateRight[tabor/api.Pair]: not simplified -/
/-! 221: slices.rotateLeft[string]: not simplified -/
/-! 222: slices.BinarySearchFunc[[]string,string,string]: not simplified -/
/-! 223: tabor/keys.byName[string]$1: not simplified -/
/-! 224: slices.overlaps[tabor/api.Rank]: not simplified -/
/-! 225: slices.rotateRight[tabor/api.Rank]: not simplified -/
/-! 226: slices.order2Ordered[string]: not simplified -/
/-! 227: slices.rotateLeft[tabor/api.Pair]: not simplified -/
/-! 228: slices.Reverse[[]string,string]: not simplified -/
/-! 229: slices.rotateLeft[tabor/api.Rank]: not simplified -/
/-! 230: slices.Reverse[[]tabor/api.Pair,tabor/api.Pair]: not simplified -/
/-! 231: slices.Reverse[[]tabor/api.Rank,tabor/api.Rank]: not simplified -/
/-! 232: (runtime.boundsError).Error: not simplified -/
/-! 233: (runtime.boundsError).RuntimeError: not simplified -/
/-! 234: (runtime.errorString).Error: not simplified -/
/-! 235: (runtime.errorString).RuntimeError: not simplified -/
/-! 236: (runtime.plainError).Error: not simplified -/
/-! 237: (runtime.plainError).RuntimeError: not simplified -/
/-! 238: (runtime.errorAddressString).Error: not simplified -/
/-! 239: (runtime.errorAddressString).RuntimeError: not simplified -/
/-! 240: (*runtime.TypeAssertionError).Error: not simplified -/
/-! 241: (*runtime.TypeAssertionError).RuntimeError: not simplified -/
/-! 242: (*runtime.PanicNilError).Error: not simplified -/
/-! 243: (*runtime.PanicNilError).RuntimeError: not simplified -/
/-! 244: (*internal/abi.Type).Align: not simplified -/
/-! 245: (internal/runtime/maps.unhashableTypeError).Error: not simplified -/
/-! 246: (internal/runtime/maps.unhashableTypeError).RuntimeError: not simplified -/
/-! 247: (tabor/api.Errno).Error: not simplified -/
/-! 248: (internal/strconv.Error).Error: not simplified -/
/-! 249: (*strconv.NumError).Error: not simplified -/
/-! 250: (*errors.errorString).Error: not simplified -/
/-! 251: (internal/abi.Kind).String: not simplified -/
/-! 252: var's door: gosem.cut.vars holds initialisers alone; see the manifest's row cutvarsword (look 11, test files too): not simplified -/
/-! 253: var's door: internal/strconv.uint64pow10 is laid by its own initialiser, plain data (look 11): not simplified -/
/-! 254: var's door: math/bits.deBruijn32tab is laid by its own initialiser, plain data (look 11): not simplified -/
/-! 255: var's door: math/bits.deBruijn64tab is laid by its own initialiser, plain data (look 11): not simplified -/
/-! 256: var's door: strconv.ErrRange is laid by its own call of errors.New on one literal (look 11): not simplified -/
/-! 257: var's door: strconv.ErrSyntax is laid by its own call of errors.New on one literal (look 11): not simplified -/
/-! 258: var's door: the look of gosem.cut.vars went over the folder that the caller named as the repository's root (look 11): not simplified -/
/-! 259: gosem.cut.vars: not simplified -/
end Go.Proofs.YtigolfakcblnjaaGreatDoor.C
