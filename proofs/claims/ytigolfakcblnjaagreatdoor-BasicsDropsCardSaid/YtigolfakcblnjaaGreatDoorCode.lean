/-
  The simplified code of this seat's functions, and that it is what the program's code comes to. Printed by a program (wip/print.lean).
-/
import Derived.Test.YtigolfakcblnjaaGreatDoorSxO
import Derived.Test.YtigolfakcblnjaaGreatDoorProg
set_option maxRecDepth 100000
namespace Go.Proofs.YtigolfakcblnjaaGreatDoor.C
open Go Go.Sx Go.Sx.S

theorem mixed : Tryz.prog.follows .mixedOrders = true := by kernel_rfl

/-! 0: main.main: not simplified -/
/-! 1: gosem.cut: not simplified -/
/-! 2: gosem.cut.init: not simplified -/
/-! 3: tabor/taborlaw08.BasicsNumber -/
def f3r0 : List SOper := [
 o 2 (.mv (b false))]
def f3r1 : List SOper := [
 o 7 (.mv (t 0)),
 o 8 (.lens (t 7)),
 o 9 (.cmp .gtr (t 8) (i 300))]
def f3r2 : List SOper := [
 o 10 (.call 11 []),
 o 2 (.mv (t 10))]
def f3r3 : List SOper := [
 o 12 (.mv (t 0)),
 o 13 (.call 12 [(t 12)]),
 o 11 (.mv (t 13)),
 o 14 (.ext (t 11) 0),
 o 15 (.ext (t 11) 1),
 o 3 (.mv (t 14)),
 o 4 (.mv (t 15))]
def f3r4 : List SOper := [
 o 17 (.mv (t 0)),
 o 18 (.call 13 [(t 17)]),
 o 16 (.mv (t 18)),
 o 19 (.ext (t 16) 0),
 o 20 (.ext (t 16) 1),
 o 5 (.mv (t 19)),
 o 6 (.mv (t 20))]
def f3r5 : List SOper := [
 o 21 (.mv (t 3)),
 o 22 (.mv (t 5)),
 o 23 (.cmp .eql (t 21) (t 22)),
 o 24 (.mv (t 23)),
 g 25 24 (.mv (t 4)),
 g 26 24 (.mv (t 6)),
 g 27 24 (.cmpb false (t 25) (t 26)),
 o 28 (.pick (t 24) (t 27) (b false)),
 o 29 (.mv (t 28)),
 g 30 29 (.call 11 []),
 o 31 (.pick (t 29) (t 30) (b false)),
 o 2 (.mv (t 31))]
def f3 : SCode := (.seq (.ops f3r0) (.seq (.seq (.ops f3r1) (.cond (t 9) (.seq (.ops f3r2) .ret) .skip)) (.seq (.ops f3r3) (.seq (.ops f3r4) (.seq (.ops f3r5) .ret)))))
theorem f3_calls : Sound Tryz.prog 3 32 f3 [.t 2] := sound_of mixed Tryz.func3 rfl (by kernel_rfl) (by kernel_rfl) (by kernel_rfl)

/-! 4: tabor/taborlaw08.BasicsNames: not simplified -/
/-! 5: tabor/taborlaw08.BasicsSame: not simplified -/
/-! 6: tabor/taborlaw08.BasicsCounts: not simplified -/
/-! 7: tabor/taborlaw08.BasicsMany: not simplified -/
/-! 8: tabor/taborlaw08.BasicsDrops: not simplified -/
/-! 9: tabor/taborlaw08.BasicsEffects: not simplified -/
/-! 10: tabor/taborlaw08.BasicsTold: not simplified -/
/-! 11: tabor/taborlaw08.known: not simplified -/
/-! 12: tabor/basics.Number -/
def f12r0 : List SOper := [
 o 2 (.mv (i 0)),
 o 3 (.mv (b false))]
def f12r1 : List SOper := [
 o 7 (.mv (t 0)),
 o 8 (.call 32 [(t 7), (i 10), (i 64)]),
 o 6 (.mv (t 8)),
 o 9 (.ext (t 6) 0),
 o 10 (.ext (t 6) 1),
 o 4 (.mv (t 9)),
 o 5 (.mv (t 10))]
def f12r2 : List SOper := [
 o 11 (.mv (t 5)),
 o 12 (.eqn 4 true (t 11)),
 o 13 (.mv (t 12)),
 n 14 13 (.mv (t 4)),
 n 15 13 (.call 33 [(t 14), (i 10)]),
 n 16 13 (.mv (t 0)),
 n 17 13 (.cmp .neq (t 15) (t 16)),
 o 18 (.pick (t 13) (b true) (t 17))]
def f12r3 : List SOper := [
 o 2 (.mv (i 0)),
 o 3 (.mv (b false))]
def f12r4 : List SOper := [
 o 19 (.mv (t 4)),
 o 2 (.mv (t 19)),
 o 3 (.mv (b true))]
def f12 : SCode := (.seq (.ops f12r0) (.seq (.ops f12r1) (.seq (.seq (.ops f12r2) (.cond (t 18) (.seq (.ops f12r3) .ret) .skip)) (.seq (.ops f12r4) .ret))))
theorem f12_calls : Sound Tryz.prog 12 20 f12 [.t 2, .t 3] := sound_of mixed Tryz.func12 rfl (by kernel_rfl) (by kernel_rfl) (by kernel_rfl)

/-! 13: tabor/taborref08.Number -/
def f13r0 : List SOper := [
 o 2 (.mv (i 0)),
 o 3 (.mv (b false))]
def f13r1 : List SOper := [
 o 9 (.mv (t 0)),
 o 10 (.cmp .eql (t 9) e),
 o 11 (.mv (t 10)),
 n 12 11 (.mv (t 0)),
 n 13 11 (.lens (t 12)),
 n 14 11 (.cmp .gtr (t 13) (i 20)),
 o 15 (.pick (t 11) (b true) (t 14))]
def f13r2 : List SOper := [
 o 2 (.mv (i 0)),
 o 3 (.mv (b false))]
def f13r3 : List SOper := [
 o 16 (.mv (t 0)),
 o 17 (.ixc (t 16) (i 0)),
 o 18 (.cmp .eql (t 17) (.const (.int .u8 45))),
 o 4 (.mv (t 18))]
def f13r4 : List SOper := [
 o 19 (.mv (t 0)),
 o 5 (.mv (t 19))]
def f13r5 : List SOper := [
 o 20 (.mv (t 4))]
def f13r6 : List SOper := [
 o 21 (.mv (t 0)),
 o 22 (.sls (t 21) (some (i 1)) none),
 o 5 (.mv (t 22))]
def f13r7 : List SOper := [
 o 23 (.mv (t 5)),
 o 24 (.cmp .eql (t 23) e),
 o 25 (.mv (t 24)),
 n 26 25 (.mv (t 5)),
 n 27 25 (.lens (t 26)),
 n 28 25 (.cmp .gtr (t 27) (i 1)),
 n 29 25 (.mv (t 28)),
 g 30 29 (.mv (t 5)),
 g 31 29 (.ixc (t 30) (i 0)),
 g 32 29 (.cmp .eql (t 31) (.const (.int .u8 48))),
 n 33 25 (.pick (t 29) (t 32) (b false)),
 o 34 (.pick (t 25) (b true) (t 33)),
 o 35 (.mv (t 34)),
 n 36 35 (.mv (t 4)),
 n 37 35 (.mv (t 36)),
 g 38 37 (.mv (t 5)),
 g 39 37 (.cmp .eql (t 38) (.const (.string ⟨#[48]⟩))),
 n 40 35 (.pick (t 37) (t 39) (b false)),
 o 41 (.pick (t 35) (b true) (t 40))]
def f13r8 : List SOper := [
 o 2 (.mv (i 0)),
 o 3 (.mv (b false))]
def f13r9 : List SOper := [
 o 6 (.mv (i 0))]
def f13r10 : List SOper := [
 o 7 (.mv (i 0))]
def f13r11 : List SOper := [
 o 42 (.mv (t 7)),
 o 43 (.mv (t 5)),
 o 44 (.lens (t 43)),
 o 45 (.cmp .lss (t 42) (t 44))]
def f13r12 : List SOper := [
 o 48 (.mv (t 5)),
 o 49 (.mv (t 7)),
 o 50 (.ixc (t 48) (t 49)),
 o 51 (.cmp .lss (t 50) (.const (.int .u8 48))),
 o 52 (.mv (t 51)),
 n 53 52 (.mv (t 5)),
 n 54 52 (.mv (t 7)),
 n 55 52 (.ixc (t 53) (t 54)),
 n 56 52 (.cmp .gtr (t 55) (.const (.int .u8 57))),
 o 57 (.pick (t 52) (b true) (t 56))]
def f13r13 : List SOper := [
 o 2 (.mv (i 0)),
 o 3 (.mv (b false))]
def f13r14 : List SOper := [
 o 58 (.mv (t 5)),
 o 59 (.mv (t 7)),
 o 60 (.ixc (t 58) (t 59)),
 o 61 (.ar .sub (t 60) (.const (.int .u8 48))),
 o 62 (.cvt .i64 (t 61)),
 o 8 (.mv (t 62))]
def f13r15 : List SOper := [
 o 63 (.mv (t 6)),
 o 64 (.mv (t 8)),
 o 65 (.ar .add (i (-9223372036854775808)) (t 64)),
 o 66 (.quo (t 65) (i 10)),
 o 67 (.cmp .lss (t 63) (t 66))]
def f13r16 : List SOper := [
 o 2 (.mv (i 0)),
 o 3 (.mv (b false))]
def f13r17 : List SOper := [
 o 68 (.mv (t 6)),
 o 69 (.ar .mul (t 68) (i 10)),
 o 70 (.mv (t 8)),
 o 71 (.ar .sub (t 69) (t 70)),
 o 6 (.mv (t 71))]
def f13r18 : List SOper := [
 o 46 (.mv (t 7)),
 o 47 (.ar .add (t 46) (i 1)),
 o 7 (.mv (t 47))]
def f13l19 : SCode := (.seq (.seq (.ops f13r11) (.cond (t 45) .skip (.exit 0))) (.seq (.block 1 (.seq (.seq (.ops f13r12) (.cond (t 57) (.seq (.ops f13r13) .ret) .skip)) (.seq (.ops f13r14) (.seq (.seq (.ops f13r15) (.cond (t 67) (.seq (.ops f13r16) .ret) .skip)) (.ops f13r17))))) (.ops f13r18)))
def f13r20 : List SOper := [
 o 72 (.mv (t 4))]
def f13r21 : List SOper := [
 o 73 (.mv (t 6)),
 o 2 (.mv (t 73)),
 o 3 (.mv (b true))]
def f13r22 : List SOper := [
 o 74 (.mv (t 6)),
 o 75 (.cmp .eql (t 74) (i (-9223372036854775808)))]
def f13r23 : List SOper := [
 o 2 (.mv (i 0)),
 o 3 (.mv (b false))]
def f13r24 : List SOper := [
 o 76 (.mv (t 6)),
 o 77 (.un .neg (t 76)),
 o 2 (.mv (t 77)),
 o 3 (.mv (b true))]
def f13 : SCode := (.seq (.ops f13r0) (.seq (.seq (.ops f13r1) (.cond (t 15) (.seq (.ops f13r2) .ret) .skip)) (.seq (.ops f13r3) (.seq (.ops f13r4) (.seq (.seq (.ops f13r5) (.cond (t 20) (.ops f13r6) .skip)) (.seq (.seq (.ops f13r7) (.cond (t 41) (.seq (.ops f13r8) .ret) .skip)) (.seq (.ops f13r9) (.seq (.seq (.ops f13r10) (.block 0 (.loop f13l19))) (.seq (.seq (.ops f13r20) (.cond (t 72) (.seq (.ops f13r21) .ret) .skip)) (.seq (.seq (.ops f13r22) (.cond (t 75) (.seq (.ops f13r23) .ret) .skip)) (.seq (.ops f13r24) .ret)))))))))))
theorem f13_calls : Sound Tryz.prog 13 78 f13 [.t 2, .t 3] := sound_of mixed Tryz.func13 rfl (by kernel_rfl) (by kernel_rfl) (by kernel_rfl)

/-! 14: tabor/basics.Names: not simplified -/
/-! 15: tabor/taborref08.Names: not simplified -/
/-! 16: tabor/taborref08.Word: not simplified -/
/-! 17: tabor/basics.Do: not simplified -/
/-! 18: tabor/keys.New -/
def f18r0 : List SOper := [
 o 0 (.mv (.const (.pointer none)))]
def f18r1 : List SOper := [
 o 1 (.mkm),
 o 2 (.build [(.map none)] [(0, 1)] [(t 1)]),
 o 3 (.box (t 2)),
 o 4 (.build [(.pointer none)] [(0, 1)] [(t 3)]),
 o 5 (.box (t 4)),
 o 0 (.mv (t 5))]
def f18 : SCode := (.seq (.ops f18r0) (.seq (.ops f18r1) .ret))
theorem f18_calls : Sound Tryz.prog 18 6 f18 [.t 0] := sound_of mixed Tryz.func18 rfl (by kernel_rfl) (by kernel_rfl) (by kernel_rfl)

/-! 19: tabor/taborlaw08.wide: not simplified -/
/-! 20: tabor/basics.Fail: not simplified -/
/-! 21: tabor/basics.Same: not simplified -/
/-! 22: tabor/taborref08.Same: not simplified -/
/-! 23: tabor/taborlaw08.vast: not simplified -/
/-! 24: tabor/taborlaw08.does: not simplified -/
/-! 25: tabor/keys.Of -/
def f25r0 : List SOper := [
 o 2 (.mv (.const (.pointer none))),
 o 3 (.mv (i 0))]
def f25r1 : List SOper := [
 o 10 (.call 18 []),
 o 4 (.mv (t 10))]
def f25r2 : List SOper := [
 o 11 (.mv (t 0)),
 o 12 (.len (t 11)),
 o 13 (.mv (i 0))]
def f25r3 : List SOper := [
 o 14 (.cmp .lss (t 13) (t 12))]
def f25r4 : List SOper := [
 o 15 (.ixs 8 (t 11) (t 13)),
 o 16 (.ldn 8 (t 15)),
 o 6 (.new [(.string ⟨#[]⟩), (.int .i64 0), (.string ⟨#[]⟩), (.slice none 0 0), (.slice none 0 0), (.slice none 0 0), (.bool false), (.int .i64 0)]),
 q (.st 8 (t 6) (t 16))]
def f25r5 : List SOper := [
 o 18 (.mv (t 4)),
 o 19 (.nilck (t 18)),
 o 20 (.fa 0 (t 19)),
 o 21 (.ld1 (t 20)),
 o 22 (.nilck (t 21)),
 o 23 (.fa 0 (t 22)),
 o 24 (.ld1 (t 23)),
 o 25 (.fa 0 (t 6)),
 o 26 (.ld1 (t 25)),
 o 27 (.look .str (.pointer none) true (t 24) (t 26)),
 o 17 (.mv (t 27)),
 o 28 (.ext (t 17) 0),
 o 29 (.ext (t 17) 1),
 o 7 (.mv (t 28)),
 o 8 (.mv (t 29))]
def f25r6 : List SOper := [
 o 30 (.mv (t 8)),
 o 31 (.mv (t 30)),
 n 32 31 (.fa 0 (t 6)),
 n 33 31 (.ld1 (t 32)),
 n 34 31 (.lens (t 33)),
 n 35 31 (.cmp .gtr (t 34) (i 1048576)),
 o 36 (.pick (t 31) (b true) (t 35)),
 o 37 (.mv (t 36)),
 n 38 37 (.fa 1 (t 6)),
 n 39 37 (.ldn 7 (t 38)),
 n 40 37 (.call 45 [(t 39)]),
 n 41 37 (.un .not (t 40)),
 o 42 (.pick (t 37) (b true) (t 41))]
def f25r7 : List SOper := [
 o 2 (.mv (.const (.pointer none))),
 o 3 (.mv (i 2))]
def f25r8 : List SOper := [
 o 43 (.fa 1 (t 6)),
 o 44 (.ldn 7 (t 43)),
 o 45 (.call 46 [(t 44)]),
 o 9 (.new [(.int .i64 0), (.string ⟨#[]⟩), (.slice none 0 0), (.slice none 0 0), (.slice none 0 0), (.bool false), (.int .i64 0)]),
 q (.st 7 (t 9) (t 45))]
def f25r9 : List SOper := [
 o 46 (.mv (t 4)),
 o 47 (.nilck (t 46)),
 o 48 (.fa 0 (t 47)),
 o 49 (.ld1 (t 48)),
 o 50 (.nilck (t 49)),
 o 51 (.fa 0 (t 50)),
 o 52 (.ld1 (t 51)),
 o 53 (.fa 0 (t 6)),
 o 54 (.ld1 (t 53)),
 q (.mup .str (t 52) (t 54) (t 9))]
def f25r10 : List SOper := [
 o 55 (.ar .add (t 13) (i 1)),
 o 13 (.mv (t 55))]
def f25l11 : SCode := (.seq (.ops f25r3) (.seq (.cond (t 14) .skip (.exit 0)) (.seq (.block 1 (.seq (.ops f25r4) (.seq (.ops f25r5) (.seq (.seq (.ops f25r6) (.cond (t 42) (.seq (.ops f25r7) .ret) .skip)) (.seq (.ops f25r8) (.ops f25r9)))))) (.ops f25r10))))
def f25r12 : List SOper := [
 o 56 (.mv (t 0)),
 o 57 (.len (t 56)),
 o 58 (.cmp .gtr (t 57) (i 65536))]
def f25r13 : List SOper := [
 o 2 (.mv (.const (.pointer none))),
 o 3 (.mv (i 3))]
def f25r14 : List SOper := [
 o 59 (.mv (t 4)),
 o 2 (.mv (t 59)),
 o 3 (.mv (i 0))]
def f25 : SCode := (.seq (.ops f25r0) (.seq (.ops f25r1) (.seq (.seq (.ops f25r2) (.block 0 (.loop f25l11))) (.seq (.seq (.ops f25r12) (.cond (t 58) (.seq (.ops f25r13) .ret) .skip)) (.seq (.ops f25r14) .ret)))))
theorem f25_calls : Sound Tryz.prog 25 60 f25 [.t 2, .t 3] := sound_of mixed Tryz.func25 rfl (by kernel_rfl) (by kernel_rfl) (by kernel_rfl)

/-! 26: tabor/taborref07.Of -/
def f26r0 : List SOper := [
 o 2 (.mv (.const (.slice none 0 0))),
 o 3 (.mv (i 0))]
def f26r1 : List SOper := [
 o 4 (.mv (.const (.slice none 0 0)))]
def f26r2 : List SOper := [
 o 5 (.mv (i 0))]
def f26r3 : List SOper := [
 o 8 (.mv (t 5)),
 o 9 (.mv (t 0)),
 o 10 (.len (t 9)),
 o 11 (.cmp .lss (t 8) (t 10))]
def f26r4 : List SOper := [
 o 15 (.mv (t 4)),
 o 16 (.mv (t 0)),
 o 17 (.mv (t 5)),
 o 18 (.ixs 8 (t 16) (t 17)),
 o 19 (.fa 0 (t 18)),
 o 20 (.ld1 (t 19)),
 o 21 (.call 28 [(t 15), (t 20)]),
 o 14 (.mv (t 21)),
 o 22 (.ext (t 14) 0),
 o 23 (.ext (t 14) 1),
 o 6 (.mv (t 22)),
 o 7 (.mv (t 23))]
def f26r5 : List SOper := [
 o 24 (.mv (t 7)),
 o 25 (.mv (t 24)),
 n 26 25 (.mv (t 0)),
 n 27 25 (.mv (t 5)),
 n 28 25 (.ixs 8 (t 26) (t 27)),
 n 29 25 (.fa 0 (t 28)),
 n 30 25 (.ld1 (t 29)),
 n 31 25 (.lens (t 30)),
 n 32 25 (.cmp .gtr (t 31) (i 1048576)),
 o 33 (.pick (t 25) (b true) (t 32)),
 o 34 (.mv (t 33)),
 n 35 34 (.mv (t 0)),
 n 36 34 (.mv (t 5)),
 n 37 34 (.ixs 8 (t 35) (t 36)),
 n 38 34 (.fa 1 (t 37)),
 n 39 34 (.ldn 7 (t 38)),
 n 40 34 (.call 47 [(t 39)]),
 n 41 34 (.un .not (t 40)),
 o 42 (.pick (t 34) (b true) (t 41))]
def f26r6 : List SOper := [
 o 2 (.mv (.const (.slice none 0 0))),
 o 3 (.mv (i 2))]
def f26r7 : List SOper := [
 o 43 (.mv (t 4)),
 o 44 (.mv (t 0)),
 o 45 (.mv (t 5)),
 o 46 (.ixs 8 (t 44) (t 45)),
 o 47 (.fa 0 (t 46)),
 o 48 (.ld1 (t 47)),
 o 49 (.mv (t 0)),
 o 50 (.mv (t 5)),
 o 51 (.ixs 8 (t 49) (t 50)),
 o 52 (.fa 1 (t 51)),
 o 53 (.ldn 7 (t 52)),
 o 54 (.call 48 [(t 43), (t 48), (t 53)]),
 o 4 (.mv (t 54))]
def f26r8 : List SOper := [
 o 12 (.mv (t 5)),
 o 13 (.ar .add (t 12) (i 1)),
 o 5 (.mv (t 13))]
def f26l9 : SCode := (.seq (.seq (.ops f26r3) (.cond (t 11) .skip (.exit 0))) (.seq (.block 1 (.seq (.ops f26r4) (.seq (.seq (.ops f26r5) (.cond (t 42) (.seq (.ops f26r6) .ret) .skip)) (.ops f26r7)))) (.ops f26r8)))
def f26r10 : List SOper := [
 o 55 (.mv (t 0)),
 o 56 (.len (t 55)),
 o 57 (.cmp .gtr (t 56) (i 65536))]
def f26r11 : List SOper := [
 o 2 (.mv (.const (.slice none 0 0))),
 o 3 (.mv (i 3))]
def f26r12 : List SOper := [
 o 58 (.mv (t 4)),
 o 2 (.mv (t 58)),
 o 3 (.mv (i 0))]
def f26 : SCode := (.seq (.ops f26r0) (.seq (.ops f26r1) (.seq (.seq (.ops f26r2) (.block 0 (.loop f26l9))) (.seq (.seq (.ops f26r10) (.cond (t 57) (.seq (.ops f26r11) .ret) .skip)) (.seq (.ops f26r12) .ret)))))
theorem f26_calls : Sound Tryz.prog 26 59 f26 [.t 2, .t 3] := sound_of mixed Tryz.func26 rfl (by kernel_rfl) (by kernel_rfl) (by kernel_rfl)

/-! 27: tabor/basics.Drops: not simplified -/
/-! 28: tabor/taborref07.Find -/
def f28r0 : List SOper := [
 o 4 (.mv (i 0)),
 o 5 (.mv (b false))]
def f28r1 : List SOper := [
 o 6 (.mv (i 0))]
def f28r2 : List SOper := [
 o 7 (.mv (t 6)),
 o 8 (.mv (t 0)),
 o 9 (.len (t 8)),
 o 10 (.cmp .lss (t 7) (t 9))]
def f28r3 : List SOper := [
 o 13 (.mv (t 0)),
 o 14 (.mv (t 6)),
 o 15 (.ixs 8 (t 13) (t 14)),
 o 16 (.fa 0 (t 15)),
 o 17 (.ld1 (t 16)),
 o 18 (.mv (t 1)),
 o 19 (.cmp .eql (t 17) (t 18))]
def f28r4 : List SOper := [
 o 20 (.mv (t 6)),
 o 4 (.mv (t 20)),
 o 5 (.mv (b true))]
def f28r5 : List SOper := [
 o 21 (.mv (t 1)),
 o 22 (.mv (t 0)),
 o 23 (.mv (t 6)),
 o 24 (.ixs 8 (t 22) (t 23)),
 o 25 (.fa 0 (t 24)),
 o 26 (.ld1 (t 25)),
 o 27 (.call 51 [(t 21), (t 26)])]
def f28r6 : List SOper := [
 o 28 (.mv (t 6)),
 o 4 (.mv (t 28)),
 o 5 (.mv (b false))]
def f28r7 : List SOper := [
 o 11 (.mv (t 6)),
 o 12 (.ar .add (t 11) (i 1)),
 o 6 (.mv (t 12))]
def f28l8 : SCode := (.seq (.seq (.ops f28r2) (.cond (t 10) .skip (.exit 0))) (.seq (.block 1 (.seq (.seq (.ops f28r3) (.cond (t 19) (.seq (.ops f28r4) .ret) .skip)) (.seq (.ops f28r5) (.cond (t 27) (.seq (.ops f28r6) .ret) .skip)))) (.ops f28r7)))
def f28r9 : List SOper := [
 o 29 (.mv (t 0)),
 o 30 (.len (t 29)),
 o 4 (.mv (t 30)),
 o 5 (.mv (b false))]
def f28 : SCode := (.seq (.ops f28r0) (.seq (.seq (.ops f28r1) (.block 0 (.loop f28l8))) (.seq (.ops f28r9) .ret)))
theorem f28_calls : Sound Tryz.prog 28 31 f28 [.t 4, .t 5] := sound_of mixed Tryz.func28 rfl (by kernel_rfl) (by kernel_rfl) (by kernel_rfl)

/-! 29: tabor/taborref07.Get -/
def f29r0 : List SOper := [
 o 6 (.new [(.int .i64 0), (.string ⟨#[]⟩), (.slice none 0 0), (.slice none 0 0), (.slice none 0 0), (.bool false), (.int .i64 0)]),
 o 7 (.mv (b false))]
def f29r1 : List SOper := [
 o 11 (.mv (t 0)),
 o 12 (.mv (t 1)),
 o 13 (.call 28 [(t 11), (t 12)]),
 o 10 (.mv (t 13)),
 o 14 (.ext (t 10) 0),
 o 15 (.ext (t 10) 1),
 o 8 (.mv (t 14)),
 o 9 (.mv (t 15))]
def f29r2 : List SOper := [
 o 16 (.mv (t 9)),
 o 17 (.un .not (t 16)),
 o 18 (.mv (t 17)),
 n 19 18 (.mv (t 0)),
 n 20 18 (.mv (t 8)),
 n 21 18 (.ixs 8 (t 19) (t 20)),
 n 22 18 (.fa 1 (t 21)),
 n 23 18 (.fa 5 (t 22)),
 n 24 18 (.ld1 (t 23)),
 n 25 18 (.mv (t 24)),
 g 26 25 (.mv (t 0)),
 g 27 25 (.mv (t 8)),
 g 28 25 (.ixs 8 (t 26) (t 27)),
 g 29 25 (.fa 1 (t 28)),
 g 30 25 (.fa 6 (t 29)),
 g 31 25 (.ld1 (t 30)),
 g 32 25 (.mv (t 2)),
 g 33 25 (.cmp .leq (t 31) (t 32)),
 n 34 18 (.pick (t 25) (t 33) (b false)),
 o 35 (.pick (t 18) (b true) (t 34))]
def f29r3 : List SOper := [
 o 36 (.build [(.int .i64 0), (.string ⟨#[]⟩), (.slice none 0 0), (.slice none 0 0), (.slice none 0 0), (.bool false), (.int .i64 0)] [] []),
 q (.st 7 (t 6) (t 36)),
 o 7 (.mv (b false))]
def f29r4 : List SOper := [
 o 37 (.mv (t 0)),
 o 38 (.mv (t 8)),
 o 39 (.ixs 8 (t 37) (t 38)),
 o 40 (.fa 1 (t 39)),
 o 41 (.ldn 7 (t 40)),
 q (.st 7 (t 6) (t 41)),
 o 7 (.mv (b true))]
def f29 : SCode := (.seq (.ops f29r0) (.seq (.ops f29r1) (.seq (.seq (.ops f29r2) (.cond (t 35) (.seq (.ops f29r3) .ret) .skip)) (.seq (.ops f29r4) .ret))))
theorem f29_calls : Sound Tryz.prog 29 42 f29 [.cn 6 7, .t 7] := sound_of mixed Tryz.func29 rfl (by kernel_rfl) (by kernel_rfl) (by kernel_rfl)

/-! 30: (*tabor/keys.Keys).Apply -/
def f30r0 : List SOper := [
 o 4 (.mv (i 0)),
 o 5 (.mv (i 0))]
def f30r1 : List SOper := [
 o 10 (.mv (t 0)),
 o 11 (.call 52 [(t 10)])]
def f30r2 : List SOper := [
 o 4 (.mv (i 0)),
 o 5 (.mv (i 1))]
def f30r3 : List SOper := [
 o 6 (.mv (i 0))]
def f30r4 : List SOper := [
 o 7 (.mv (i 0))]
def f30r5 : List SOper := [
 o 12 (.mv (t 1)),
 o 13 (.len (t 12)),
 o 14 (.mv (i 0))]
def f30r6 : List SOper := [
 o 15 (.cmp .lss (t 14) (t 13))]
def f30r7 : List SOper := [
 o 16 (.ixs 5 (t 12) (t 14)),
 o 17 (.ldn 5 (t 16)),
 o 9 (.new [(.int .i64 0), (.string ⟨#[]⟩), (.string ⟨#[]⟩), (.string ⟨#[]⟩), (.int .i64 0)]),
 q (.st 5 (t 9) (t 17))]
def f30r8 : List SOper := [
 o 18 (.mv (t 0)),
 o 19 (.ldn 5 (t 9)),
 o 20 (.call 53 [(t 18), (t 19)]),
 o 7 (.mv (t 20))]
def f30r9 : List SOper := [
 o 21 (.mv (t 7)),
 o 22 (.cmp .neq (t 21) (i 0))]
def f30r10 : List SOper := [
 o 23 (.mv (t 6)),
 o 24 (.ar .add (t 23) (i 1)),
 o 6 (.mv (t 24))]
def f30r11 : List SOper := [
 o 25 (.ar .add (t 14) (i 1)),
 o 14 (.mv (t 25))]
def f30l12 : SCode := (.seq (.ops f30r6) (.seq (.cond (t 15) .skip (.exit 0)) (.seq (.block 1 (.seq (.ops f30r7) (.seq (.seq (.ops f30r8) (.seq (.ops f30r9) (.cond (t 22) (.exit 0) .skip))) (.ops f30r10)))) (.ops f30r11))))
def f30r13 : List SOper := [
 o 26 (.mv (t 6)),
 o 27 (.mv (t 7)),
 o 4 (.mv (t 26)),
 o 5 (.mv (t 27))]
def f30r14 : List SOper := [
 o 12 (.mv (t 1)),
 o 13 (.len (t 12)),
 o 14 (.mv (i 0))]
def f30r15 : List SOper := [
 o 15 (.cmp .lss (t 14) (t 13))]
def f30r16 : List SOper := [
 o 16 (.ixs 5 (t 12) (t 14)),
 o 17 (.ldn 5 (t 16)),
 o 9 (.new [(.int .i64 0), (.string ⟨#[]⟩), (.string ⟨#[]⟩), (.string ⟨#[]⟩), (.int .i64 0)]),
 q (.st 5 (t 9) (t 17))]
def f30r17 : List SOper := [
 o 18 (.mv (t 0)),
 o 19 (.ldn 5 (t 9)),
 o 20 (.call 53 [(t 18), (t 19)]),
 o 7 (.mv (t 20))]
def f30r18 : List SOper := [
 o 21 (.mv (t 7)),
 o 22 (.cmp .neq (t 21) (i 0))]
def f30r19 : List SOper := [
 o 23 (.mv (t 6)),
 o 24 (.ar .add (t 23) (i 1)),
 o 6 (.mv (t 24))]
def f30r20 : List SOper := [
 o 25 (.ar .add (t 14) (i 1)),
 o 14 (.mv (t 25))]
def f30l21 : SCode := (.seq (.ops f30r15) (.seq (.cond (t 15) .skip (.exit 0)) (.seq (.block 1 (.seq (.ops f30r16) (.seq (.seq (.ops f30r17) (.seq (.ops f30r18) (.cond (t 22) (.exit 0) .skip))) (.ops f30r19)))) (.ops f30r20))))
def f30r22 : List SOper := [
 o 26 (.mv (t 6)),
 o 27 (.mv (t 7)),
 o 4 (.mv (t 26)),
 o 5 (.mv (t 27))]
def f30 : SCode := (.seq (.ops f30r0) (.scopeG (.seq (.seq (.ops f30r1) (.cond (t 11) (.seq (.ops f30r2) .ret) .skip)) (.seq (.ops f30r3) (.seq (.ops f30r4) (.seq (.label 0) (.seq (.seq (.ops f30r5) (.block 0 (.loop f30l12))) (.seq (.ops f30r13) .ret)))))) 0 (.seq .skip (.seq (.seq (.ops f30r14) (.block 0 (.loop f30l21))) (.seq (.ops f30r22) .ret)))))
theorem f30_calls : Sound Tryz.prog 30 28 f30 [.t 4, .t 5] := sound_of mixed Tryz.func30 rfl (by kernel_rfl) (by kernel_rfl) (by kernel_rfl)

/-! 31: tabor/taborref08.Digits: not simplified -/
/-! 32: strconv.ParseInt: not simplified -/
/-! 33: strconv.FormatInt: not simplified -/
/-! 34: slices.Sorted[string] -/
def f34r0 : List SOper := [
 o 2 (.mv (.const (.slice none 0 0)))]
def f34r1 : List SOper := [
 o 4 (.mv (t 0)),
 o 5 (.call 57 [(t 4)]),
 o 3 (.mv (t 5))]
def f34r2 : List SOper := [
 o 6 (.mv (t 3)),
 o 7 (.call 58 [(t 6)])]
def f34r3 : List SOper := [
 o 8 (.mv (t 3)),
 o 2 (.mv (t 8))]
def f34 : SCode := (.seq (.ops f34r0) (.seq (.ops f34r1) (.seq (.ops f34r2) (.seq (.ops f34r3) .ret))))
theorem f34_calls : Sound Tryz.prog 34 9 f34 [.t 2] := sound_of mixed Tryz.func34 rfl (by kernel_rfl) (by kernel_rfl) (by kernel_rfl)

/-! 35: maps.Keys[map[string]func(a *tabor/basics.asked) tabor/api.Reply,string,func(a *tabor/basics.asked) tabor/api.Reply]: not simplified -/
/-! 36: tabor/basics.commands: not simplified -/
/-! 37: (*tabor/keys.Keys).Same -/
def f37r0 : List SOper := [
 o 4 (.mv (b false))]
def f37r1 : List SOper := [
 o 5 (.mv (t 0)),
 o 6 (.call 52 [(t 5)]),
 o 7 (.mv (t 6)),
 n 8 7 (.mv (t 1)),
 n 9 7 (.call 52 [(t 8)]),
 o 10 (.pick (t 7) (b true) (t 9))]
def f37r2 : List SOper := [
 o 11 (.mv (t 0)),
 o 12 (.call 52 [(t 11)]),
 o 13 (.mv (t 12)),
 g 14 13 (.mv (t 1)),
 g 15 13 (.call 52 [(t 14)]),
 o 16 (.pick (t 13) (t 15) (b false)),
 o 4 (.mv (t 16))]
def f37r3 : List SOper := [
 o 17 (.mv (t 0)),
 o 18 (.nilck (t 17)),
 o 19 (.fa 0 (t 18)),
 o 20 (.ld1 (t 19)),
 o 21 (.nilck (t 20)),
 o 22 (.fa 0 (t 21)),
 o 23 (.ld1 (t 22)),
 o 24 (.mv (t 1)),
 o 25 (.nilck (t 24)),
 o 26 (.fa 0 (t 25)),
 o 27 (.ld1 (t 26)),
 o 28 (.nilck (t 27)),
 o 29 (.fa 0 (t 28)),
 o 30 (.ld1 (t 29)),
 o 31 (.call 80 [(t 23), (t 30), (u 81)]),
 o 4 (.mv (t 31))]
def f37 : SCode := (.seq (.ops f37r0) (.seq (.seq (.ops f37r1) (.cond (t 10) (.seq (.ops f37r2) .ret) .skip)) (.seq (.ops f37r3) .ret)))
theorem f37_calls : Sound Tryz.prog 37 32 f37 [.t 4] := sound_of mixed Tryz.func37 rfl (by kernel_rfl) (by kernel_rfl) (by kernel_rfl)

/-! 38: tabor/basics.word: not simplified -/
/-! 39: tabor/basics.Do$1: not simplified -/
/-! 40: slices.EqualFunc[[]tabor/api.Reply,[]tabor/api.Reply,tabor/api.Reply,tabor/api.Reply]: not simplified -/
/-! 41: tabor/taborlaw08.large: not simplified -/
/-! 42: tabor/taborref08.Do: not simplified -/
/-! 43: tabor/taborref08.SameEffects: not simplified -/
/-! 44: tabor/taborlaw08.same: not simplified -/
/-! 45: tabor/keys.Check -/
def f45r0 : List SOper := [
 o 1 (.box (t 0)),
 o 2 (.mv (b false))]
def f45r1 : List SOper := [
 o 6 (.fa 5 (t 1)),
 o 7 (.ld1 (t 6)),
 o 8 (.un .not (t 7)),
 o 9 (.mv (t 8)),
 g 10 9 (.fa 6 (t 1)),
 g 11 9 (.ld1 (t 10)),
 g 12 9 (.cmp .neq (t 11) (i 0)),
 o 13 (.pick (t 9) (t 12) (b false)),
 o 14 (.mv (t 13)),
 n 15 14 (.ldn 7 (t 1)),
 n 16 14 (.call 89 [(t 15)]),
 n 17 14 (.cmp .gtr (t 16) (i 65536)),
 o 18 (.pick (t 14) (b true) (t 17)),
 o 19 (.mv (t 18)),
 n 20 19 (.fa 1 (t 1)),
 n 21 19 (.ld1 (t 20)),
 n 22 19 (.bslice [(.string ⟨#[]⟩)] 1 [(0, 1)] [(t 21)]),
 n 23 19 (.call 90 [(t 22)]),
 n 24 19 (.un .not (t 23)),
 o 25 (.pick (t 19) (b true) (t 24)),
 o 26 (.mv (t 25)),
 n 27 26 (.fa 3 (t 1)),
 n 28 26 (.ld1 (t 27)),
 n 29 26 (.call 90 [(t 28)]),
 n 30 26 (.un .not (t 29)),
 o 31 (.pick (t 26) (b true) (t 30)),
 o 32 (.mv (t 31)),
 n 33 32 (.ldn 7 (t 1)),
 n 34 32 (.call 91 [(t 33)]),
 n 35 32 (.call 90 [(t 34)]),
 n 36 32 (.un .not (t 35)),
 o 37 (.pick (t 32) (b true) (t 36))]
def f45r2 : List SOper := [
 o 2 (.mv (b false))]
def f45r3 : List SOper := [
 o 38 (.fa 2 (t 1)),
 o 39 (.ld1 (t 38)),
 o 40 (.len (t 39)),
 o 41 (.fa 3 (t 1)),
 o 42 (.ld1 (t 41)),
 o 43 (.len (t 42)),
 o 44 (.fa 4 (t 1)),
 o 45 (.ld1 (t 44)),
 o 46 (.len (t 45)),
 o 3 (.mv (t 40)),
 o 4 (.mv (t 43)),
 o 5 (.mv (t 46))]
def f45r4 : List SOper := [
 o 47 (.fa 0 (t 1)),
 o 48 (.ld1 (t 47))]
def f45r5 : List SOper := [
 o 50 (.cmp .eql (t 48) (i 1)),
 o 49 (.mv (t 50))]
def f45r6 : List SOper := [
 o 51 (.mv (t 3)),
 o 52 (.mv (t 4)),
 o 53 (.ar .add (t 51) (t 52)),
 o 54 (.mv (t 5)),
 o 55 (.ar .add (t 53) (t 54)),
 o 56 (.cmp .eql (t 55) (i 0)),
 o 2 (.mv (t 56))]
def f45r7 : List SOper := [
 o 58 (.cmp .eql (t 48) (i 2)),
 o 57 (.mv (t 58))]
def f45r8 : List SOper := [
 o 59 (.mv (t 3)),
 o 60 (.cmp .gtr (t 59) (i 0)),
 o 61 (.mv (t 60)),
 g 62 61 (.mv (t 4)),
 g 63 61 (.mv (t 5)),
 g 64 61 (.ar .add (t 62) (t 63)),
 g 65 61 (.cmp .eql (t 64) (i 0)),
 o 66 (.pick (t 61) (t 65) (b false)),
 o 67 (.mv (t 66)),
 g 68 67 (.fa 1 (t 1)),
 g 69 67 (.ld1 (t 68)),
 g 70 67 (.cmp .eql (t 69) e),
 o 71 (.pick (t 67) (t 70) (b false)),
 o 72 (.mv (t 71)),
 g 73 72 (.fa 2 (t 1)),
 g 74 72 (.ld1 (t 73)),
 g 75 72 (.call 92 [(t 74), (u 93)]),
 o 76 (.pick (t 72) (t 75) (b false)),
 o 2 (.mv (t 76))]
def f45r9 : List SOper := [
 o 78 (.cmp .eql (t 48) (i 3)),
 o 77 (.mv (t 78))]
def f45r10 : List SOper := [
 o 79 (.mv (t 4)),
 o 80 (.cmp .gtr (t 79) (i 0)),
 o 81 (.mv (t 80)),
 g 82 81 (.mv (t 3)),
 g 83 81 (.mv (t 5)),
 g 84 81 (.ar .add (t 82) (t 83)),
 g 85 81 (.cmp .eql (t 84) (i 0)),
 o 86 (.pick (t 81) (t 85) (b false)),
 o 87 (.mv (t 86)),
 g 88 87 (.fa 1 (t 1)),
 g 89 87 (.ld1 (t 88)),
 g 90 87 (.cmp .eql (t 89) e),
 o 91 (.pick (t 87) (t 90) (b false)),
 o 2 (.mv (t 91))]
def f45r11 : List SOper := [
 o 93 (.cmp .eql (t 48) (i 4)),
 o 92 (.mv (t 93))]
def f45r12 : List SOper := [
 o 94 (.mv (t 4)),
 o 95 (.cmp .gtr (t 94) (i 0)),
 o 96 (.mv (t 95)),
 g 97 96 (.mv (t 3)),
 g 98 96 (.mv (t 5)),
 g 99 96 (.ar .add (t 97) (t 98)),
 g 100 96 (.cmp .eql (t 99) (i 0)),
 o 101 (.pick (t 96) (t 100) (b false)),
 o 102 (.mv (t 101)),
 g 103 102 (.fa 1 (t 1)),
 g 104 102 (.ld1 (t 103)),
 g 105 102 (.cmp .eql (t 104) e),
 o 106 (.pick (t 102) (t 105) (b false)),
 o 107 (.mv (t 106)),
 g 108 107 (.fa 3 (t 1)),
 g 109 107 (.ld1 (t 108)),
 g 110 107 (.call 95 [(t 109), (u 94)]),
 o 111 (.pick (t 107) (t 110) (b false)),
 o 2 (.mv (t 111))]
def f45r13 : List SOper := [
 o 113 (.cmp .eql (t 48) (i 5)),
 o 112 (.mv (t 113))]
def f45r14 : List SOper := [
 o 114 (.mv (t 5)),
 o 115 (.cmp .gtr (t 114) (i 0)),
 o 116 (.mv (t 115)),
 g 117 116 (.mv (t 3)),
 g 118 116 (.mv (t 4)),
 g 119 116 (.ar .add (t 117) (t 118)),
 g 120 116 (.cmp .eql (t 119) (i 0)),
 o 121 (.pick (t 116) (t 120) (b false)),
 o 122 (.mv (t 121)),
 g 123 122 (.fa 1 (t 1)),
 g 124 122 (.ld1 (t 123)),
 g 125 122 (.cmp .eql (t 124) e),
 o 126 (.pick (t 122) (t 125) (b false)),
 o 127 (.mv (t 126)),
 g 128 127 (.fa 4 (t 1)),
 g 129 127 (.ld1 (t 128)),
 g 130 127 (.call 96 [(t 129), (u 97)]),
 o 131 (.pick (t 127) (t 130) (b false)),
 o 132 (.mv (t 131)),
 g 133 132 (.fa 4 (t 1)),
 g 134 132 (.ld1 (t 133)),
 g 135 132 (.call 98 [(t 134)]),
 o 136 (.pick (t 132) (t 135) (b false)),
 o 2 (.mv (t 136))]
def f45r15 : List SOper := [
 o 2 (.mv (b false))]
def f45 : SCode := (.seq (.ops f45r0) (.seq (.seq (.ops f45r1) (.cond (t 37) (.seq (.ops f45r2) .ret) .skip)) (.seq (.ops f45r3) (.seq (.seq (.ops f45r4) (.block 0 (.seq (.ops f45r5) (.cond (t 49) (.seq (.ops f45r6) .ret) (.seq (.ops f45r7) (.cond (t 57) (.seq (.ops f45r8) .ret) (.seq (.ops f45r9) (.cond (t 77) (.seq (.ops f45r10) .ret) (.seq (.ops f45r11) (.cond (t 92) (.seq (.ops f45r12) .ret) (.seq (.ops f45r13) (.cond (t 112) (.seq (.ops f45r14) .ret) .skip)))))))))))) (.seq (.ops f45r15) .ret)))))
theorem f45_calls : Sound Tryz.prog 45 137 f45 [.t 2] := sound_of mixed Tryz.func45 rfl (by kernel_rfl) (by kernel_rfl) (by kernel_rfl)

/-! 46: tabor/keys.copied -/
def f46r0 : List SOper := [
 o 1 (.box (t 0)),
 o 2 (.new [(.int .i64 0), (.string ⟨#[]⟩), (.slice none 0 0), (.slice none 0 0), (.slice none 0 0), (.bool false), (.int .i64 0)])]
def f46r1 : List SOper := [
 o 3 (.fa 2 (t 1)),
 o 4 (.ld1 (t 3)),
 o 6 (.fa 3 (t 1)),
 o 7 (.ld1 (t 6)),
 o 9 (.fa 4 (t 1)),
 o 10 (.ld1 (t 9)),
 o 5 (.callq 99 [(t 4)]),
 o 12 (.fa 2 (t 1)),
 o 8 (.callq 100 [(t 7)]),
 o 11 (.callq 101 [(t 10)]),
 q (.st 1 (t 12) (t 5)),
 o 13 (.fa 3 (t 1)),
 q (.st 1 (t 13) (t 8)),
 o 14 (.fa 4 (t 1)),
 q (.st 1 (t 14) (t 11))]
def f46r2 : List SOper := [
 o 15 (.ldn 7 (t 1)),
 q (.st 7 (t 2) (t 15))]
def f46 : SCode := (.seq (.ops f46r0) (.seq (.ops f46r1) (.seq (.ops f46r2) .ret)))
theorem f46_calls : Sound Tryz.prog 46 16 f46 [.cn 2 7] := sound_of mixed Tryz.func46 rfl (by kernel_rfl) (by kernel_rfl) (by kernel_rfl)

/-! 47: tabor/taborref07.Check -/
def f47r0 : List SOper := [
 o 1 (.box (t 0)),
 o 2 (.mv (b false))]
def f47r1 : List SOper := [
 o 10 (.fa 2 (t 1)),
 o 11 (.ld1 (t 10)),
 o 12 (.len (t 11)),
 o 13 (.fa 3 (t 1)),
 o 14 (.ld1 (t 13)),
 o 15 (.len (t 14)),
 o 16 (.fa 4 (t 1)),
 o 17 (.ld1 (t 16)),
 o 18 (.len (t 17)),
 o 3 (.mv (t 12)),
 o 4 (.mv (t 15)),
 o 5 (.mv (t 18))]
def f47r2 : List SOper := [
 o 19 (.fa 5 (t 1)),
 o 20 (.ld1 (t 19)),
 o 21 (.un .not (t 20)),
 o 22 (.mv (t 21)),
 g 23 22 (.fa 6 (t 1)),
 g 24 22 (.ld1 (t 23)),
 g 25 22 (.cmp .neq (t 24) (i 0)),
 o 26 (.pick (t 22) (t 25) (b false)),
 o 27 (.mv (t 26)),
 n 28 27 (.mv (t 3)),
 n 29 27 (.cmp .gtr (t 28) (i 65536)),
 o 30 (.pick (t 27) (b true) (t 29)),
 o 31 (.mv (t 30)),
 n 32 31 (.mv (t 4)),
 n 33 31 (.cmp .gtr (t 32) (i 65536)),
 o 34 (.pick (t 31) (b true) (t 33)),
 o 35 (.mv (t 34)),
 n 36 35 (.mv (t 5)),
 n 37 35 (.cmp .gtr (t 36) (i 65536)),
 o 38 (.pick (t 35) (b true) (t 37)),
 o 39 (.mv (t 38)),
 n 40 39 (.fa 1 (t 1)),
 n 41 39 (.ld1 (t 40)),
 n 42 39 (.lens (t 41)),
 n 43 39 (.cmp .gtr (t 42) (i 1048576)),
 o 44 (.pick (t 39) (b true) (t 43)),
 o 45 (.mv (t 44)),
 n 46 45 (.fa 0 (t 1)),
 n 47 45 (.ld1 (t 46)),
 n 48 45 (.cmp .neq (t 47) (i 1)),
 n 49 45 (.mv (t 48)),
 g 50 49 (.fa 1 (t 1)),
 g 51 49 (.ld1 (t 50)),
 g 52 49 (.cmp .neq (t 51) e),
 n 53 45 (.pick (t 49) (t 52) (b false)),
 o 54 (.pick (t 45) (b true) (t 53))]
def f47r3 : List SOper := [
 o 2 (.mv (b false))]
def f47r4 : List SOper := [
 o 6 (.mv (i 0))]
def f47r5 : List SOper := [
 o 55 (.mv (t 6)),
 o 56 (.mv (t 3)),
 o 57 (.cmp .lss (t 55) (t 56))]
def f47r6 : List SOper := [
 o 60 (.fa 2 (t 1)),
 o 61 (.ld1 (t 60)),
 o 62 (.mv (t 6)),
 o 63 (.ixs 2 (t 61) (t 62)),
 o 64 (.fa 0 (t 63)),
 o 65 (.ld1 (t 64)),
 o 66 (.lens (t 65)),
 o 67 (.cmp .gtr (t 66) (i 1048576)),
 o 68 (.mv (t 67)),
 n 69 68 (.fa 2 (t 1)),
 n 70 68 (.ld1 (t 69)),
 n 71 68 (.mv (t 6)),
 n 72 68 (.ixs 2 (t 70) (t 71)),
 n 73 68 (.fa 1 (t 72)),
 n 74 68 (.ld1 (t 73)),
 n 75 68 (.lens (t 74)),
 n 76 68 (.cmp .gtr (t 75) (i 1048576)),
 o 77 (.pick (t 68) (b true) (t 76)),
 o 78 (.mv (t 77)),
 n 79 78 (.mv (t 6)),
 n 80 78 (.cmp .gtr (t 79) (i 0)),
 n 81 78 (.mv (t 80)),
 g 82 81 (.fa 2 (t 1)),
 g 83 81 (.ld1 (t 82)),
 g 84 81 (.mv (t 6)),
 g 85 81 (.ar .sub (t 84) (i 1)),
 g 86 81 (.ixs 2 (t 83) (t 85)),
 g 87 81 (.fa 0 (t 86)),
 g 88 81 (.ld1 (t 87)),
 g 89 81 (.fa 2 (t 1)),
 g 90 81 (.ld1 (t 89)),
 g 91 81 (.mv (t 6)),
 g 92 81 (.ixs 2 (t 90) (t 91)),
 g 93 81 (.fa 0 (t 92)),
 g 94 81 (.ld1 (t 93)),
 g 95 81 (.call 51 [(t 88), (t 94)]),
 g 96 81 (.un .not (t 95)),
 n 97 78 (.pick (t 81) (t 96) (b false)),
 o 98 (.pick (t 78) (b true) (t 97))]
def f47r7 : List SOper := [
 o 2 (.mv (b false))]
def f47r8 : List SOper := [
 o 58 (.mv (t 6)),
 o 59 (.ar .add (t 58) (i 1)),
 o 6 (.mv (t 59))]
def f47l9 : SCode := (.seq (.seq (.ops f47r5) (.cond (t 57) .skip (.exit 0))) (.seq (.block 1 (.seq (.ops f47r6) (.cond (t 98) (.seq (.ops f47r7) .ret) .skip))) (.ops f47r8)))
def f47r10 : List SOper := [
 o 7 (.mv (i 0))]
def f47r11 : List SOper := [
 o 99 (.mv (t 7)),
 o 100 (.mv (t 4)),
 o 101 (.cmp .lss (t 99) (t 100))]
def f47r12 : List SOper := [
 o 104 (.fa 3 (t 1)),
 o 105 (.ld1 (t 104)),
 o 106 (.mv (t 7)),
 o 107 (.ixs 1 (t 105) (t 106)),
 o 108 (.ld1 (t 107)),
 o 109 (.lens (t 108)),
 o 110 (.cmp .gtr (t 109) (i 1048576)),
 o 111 (.mv (t 110)),
 n 112 111 (.fa 0 (t 1)),
 n 113 111 (.ld1 (t 112)),
 n 114 111 (.cmp .eql (t 113) (i 4)),
 n 115 111 (.mv (t 114)),
 g 116 115 (.mv (t 7)),
 g 117 115 (.cmp .gtr (t 116) (i 0)),
 n 118 111 (.pick (t 115) (t 117) (b false)),
 n 119 111 (.mv (t 118)),
 g 120 119 (.fa 3 (t 1)),
 g 121 119 (.ld1 (t 120)),
 g 122 119 (.mv (t 7)),
 g 123 119 (.ar .sub (t 122) (i 1)),
 g 124 119 (.ixs 1 (t 121) (t 123)),
 g 125 119 (.ld1 (t 124)),
 g 126 119 (.fa 3 (t 1)),
 g 127 119 (.ld1 (t 126)),
 g 128 119 (.mv (t 7)),
 g 129 119 (.ixs 1 (t 127) (t 128)),
 g 130 119 (.ld1 (t 129)),
 g 131 119 (.call 51 [(t 125), (t 130)]),
 g 132 119 (.un .not (t 131)),
 n 133 111 (.pick (t 119) (t 132) (b false)),
 o 134 (.pick (t 111) (b true) (t 133))]
def f47r13 : List SOper := [
 o 2 (.mv (b false))]
def f47r14 : List SOper := [
 o 102 (.mv (t 7)),
 o 103 (.ar .add (t 102) (i 1)),
 o 7 (.mv (t 103))]
def f47l15 : SCode := (.seq (.seq (.ops f47r11) (.cond (t 101) .skip (.exit 2))) (.seq (.block 3 (.seq (.ops f47r12) (.cond (t 134) (.seq (.ops f47r13) .ret) .skip))) (.ops f47r14)))
def f47r16 : List SOper := [
 o 8 (.mv (i 0))]
def f47r17 : List SOper := [
 o 135 (.mv (t 8)),
 o 136 (.mv (t 5)),
 o 137 (.cmp .lss (t 135) (t 136))]
def f47r18 : List SOper := [
 o 140 (.fa 4 (t 1)),
 o 141 (.ld1 (t 140)),
 o 142 (.mv (t 8)),
 o 143 (.ixs 2 (t 141) (t 142)),
 o 144 (.fa 0 (t 143)),
 o 145 (.ld1 (t 144)),
 o 146 (.lens (t 145)),
 o 147 (.cmp .gtr (t 146) (i 1048576)),
 o 148 (.mv (t 147)),
 n 149 148 (.mv (t 8)),
 n 150 148 (.cmp .gtr (t 149) (i 0)),
 n 151 148 (.mv (t 150)),
 g 152 151 (.fa 4 (t 1)),
 g 153 151 (.ld1 (t 152)),
 g 154 151 (.mv (t 8)),
 g 155 151 (.ar .sub (t 154) (i 1)),
 g 156 151 (.ixs 2 (t 153) (t 155)),
 g 157 151 (.ldn 2 (t 156)),
 g 158 151 (.fa 4 (t 1)),
 g 159 151 (.ld1 (t 158)),
 g 160 151 (.mv (t 8)),
 g 161 151 (.ixs 2 (t 159) (t 160)),
 g 162 151 (.ldn 2 (t 161)),
 g 163 151 (.call 102 [(t 157), (t 162)]),
 g 164 151 (.un .not (t 163)),
 n 165 148 (.pick (t 151) (t 164) (b false)),
 o 166 (.pick (t 148) (b true) (t 165))]
def f47r19 : List SOper := [
 o 2 (.mv (b false))]
def f47r20 : List SOper := [
 o 9 (.mv (i 0))]
def f47r21 : List SOper := [
 o 167 (.mv (t 9)),
 o 168 (.mv (t 8)),
 o 169 (.cmp .lss (t 167) (t 168))]
def f47r22 : List SOper := [
 o 172 (.fa 4 (t 1)),
 o 173 (.ld1 (t 172)),
 o 174 (.mv (t 9)),
 o 175 (.ixs 2 (t 173) (t 174)),
 o 176 (.fa 0 (t 175)),
 o 177 (.ld1 (t 176)),
 o 178 (.fa 4 (t 1)),
 o 179 (.ld1 (t 178)),
 o 180 (.mv (t 8)),
 o 181 (.ixs 2 (t 179) (t 180)),
 o 182 (.fa 0 (t 181)),
 o 183 (.ld1 (t 182)),
 o 184 (.cmp .eql (t 177) (t 183))]
def f47r23 : List SOper := [
 o 2 (.mv (b false))]
def f47r24 : List SOper := [
 o 170 (.mv (t 9)),
 o 171 (.ar .add (t 170) (i 1)),
 o 9 (.mv (t 171))]
def f47l25 : SCode := (.seq (.seq (.ops f47r21) (.cond (t 169) .skip (.exit 6))) (.seq (.block 7 (.seq (.ops f47r22) (.cond (t 184) (.seq (.ops f47r23) .ret) .skip))) (.ops f47r24)))
def f47r26 : List SOper := [
 o 138 (.mv (t 8)),
 o 139 (.ar .add (t 138) (i 1)),
 o 8 (.mv (t 139))]
def f47l27 : SCode := (.seq (.seq (.ops f47r17) (.cond (t 137) .skip (.exit 4))) (.seq (.block 5 (.seq (.seq (.ops f47r18) (.cond (t 166) (.seq (.ops f47r19) .ret) .skip)) (.seq (.ops f47r20) (.block 6 (.loop f47l25))))) (.ops f47r26)))
def f47r28 : List SOper := [
 o 185 (.fa 0 (t 1)),
 o 186 (.ld1 (t 185))]
def f47r29 : List SOper := [
 o 188 (.cmp .eql (t 186) (i 1)),
 o 187 (.mv (t 188))]
def f47r30 : List SOper := [
 o 189 (.mv (t 3)),
 o 190 (.mv (t 4)),
 o 191 (.ar .add (t 189) (t 190)),
 o 192 (.mv (t 5)),
 o 193 (.ar .add (t 191) (t 192)),
 o 194 (.cmp .eql (t 193) (i 0)),
 o 2 (.mv (t 194))]
def f47r31 : List SOper := [
 o 196 (.cmp .eql (t 186) (i 2)),
 o 195 (.mv (t 196))]
def f47r32 : List SOper := [
 o 197 (.mv (t 3)),
 o 198 (.cmp .gtr (t 197) (i 0)),
 o 199 (.mv (t 198)),
 g 200 199 (.mv (t 4)),
 g 201 199 (.mv (t 5)),
 g 202 199 (.ar .add (t 200) (t 201)),
 g 203 199 (.cmp .eql (t 202) (i 0)),
 o 204 (.pick (t 199) (t 203) (b false)),
 o 2 (.mv (t 204))]
def f47r33 : List SOper := [
 o 206 (.cmp .eql (t 186) (i 3)),
 o 205 (.mv (t 206))]
def f47r34 : List SOper := [
 o 207 (.cmp .eql (t 186) (i 4)),
 o 205 (.mv (t 207))]
def f47r35 : List SOper := [
 o 208 (.mv (t 4)),
 o 209 (.cmp .gtr (t 208) (i 0)),
 o 210 (.mv (t 209)),
 g 211 210 (.mv (t 3)),
 g 212 210 (.mv (t 5)),
 g 213 210 (.ar .add (t 211) (t 212)),
 g 214 210 (.cmp .eql (t 213) (i 0)),
 o 215 (.pick (t 210) (t 214) (b false)),
 o 2 (.mv (t 215))]
def f47r36 : List SOper := [
 o 217 (.cmp .eql (t 186) (i 5)),
 o 216 (.mv (t 217))]
def f47r37 : List SOper := [
 o 218 (.mv (t 5)),
 o 219 (.cmp .gtr (t 218) (i 0)),
 o 220 (.mv (t 219)),
 g 221 220 (.mv (t 3)),
 g 222 220 (.mv (t 4)),
 g 223 220 (.ar .add (t 221) (t 222)),
 g 224 220 (.cmp .eql (t 223) (i 0)),
 o 225 (.pick (t 220) (t 224) (b false)),
 o 2 (.mv (t 225))]
def f47r38 : List SOper := [
 o 2 (.mv (b false))]
def f47 : SCode := (.seq (.ops f47r0) (.seq (.ops f47r1) (.seq (.seq (.ops f47r2) (.cond (t 54) (.seq (.ops f47r3) .ret) .skip)) (.seq (.seq (.ops f47r4) (.block 0 (.loop f47l9))) (.seq (.seq (.ops f47r10) (.block 2 (.loop f47l15))) (.seq (.seq (.ops f47r16) (.block 4 (.loop f47l27))) (.seq (.seq (.ops f47r28) (.block 8 (.seq (.ops f47r29) (.cond (t 187) (.seq (.ops f47r30) .ret) (.seq (.ops f47r31) (.cond (t 195) (.seq (.ops f47r32) .ret) (.seq (.seq (.ops f47r33) (.cond (t 205) .skip (.ops f47r34))) (.cond (t 205) (.seq (.ops f47r35) .ret) (.seq (.ops f47r36) (.cond (t 216) (.seq (.ops f47r37) .ret) .skip)))))))))) (.seq (.ops f47r38) .ret))))))))
theorem f47_calls : Sound Tryz.prog 47 226 f47 [.t 2] := sound_of mixed Tryz.func47 rfl (by kernel_rfl) (by kernel_rfl) (by kernel_rfl)

/-! 48: tabor/taborref07.Put -/
def f48r0 : List SOper := [
 o 5 (.box (t 2)),
 o 6 (.mv (.const (.slice none 0 0)))]
def f48r1 : List SOper := [
 o 11 (.mv (t 0)),
 o 12 (.mv (t 1)),
 o 13 (.call 28 [(t 11), (t 12)]),
 o 10 (.mv (t 13)),
 o 14 (.ext (t 10) 0),
 o 15 (.ext (t 10) 1),
 o 7 (.mv (t 14)),
 o 8 (.mv (t 15))]
def f48r2 : List SOper := [
 o 16 (.mv (t 0)),
 o 17 (.mv (t 7)),
 o 18 (.slc 8 (t 16) none (some (t 17))),
 o 19 (.appn 8 128 [(.string ⟨#[]⟩), (.int .i64 0), (.string ⟨#[]⟩), (.slice none 0 0), (.slice none 0 0), (.slice none 0 0), (.bool false), (.int .i64 0)] (t 18)),
 o 9 (.mv (t 19))]
def f48r3 : List SOper := [
 o 20 (.mv (t 9)),
 o 21 (.mv (t 1)),
 o 22 (.ldn 7 (t 5)),
 o 23 (.build [(.string ⟨#[]⟩), (.int .i64 0), (.string ⟨#[]⟩), (.slice none 0 0), (.slice none 0 0), (.slice none 0 0), (.bool false), (.int .i64 0)] [(0, 1), (1, 7)] [(t 21), (t 22)]),
 o 24 (.bslice [(.string ⟨#[]⟩), (.int .i64 0), (.string ⟨#[]⟩), (.slice none 0 0), (.slice none 0 0), (.slice none 0 0), (.bool false), (.int .i64 0)] 1 [(0, 8)] [(t 23)]),
 o 25 (.app 8 128 [(.string ⟨#[]⟩), (.int .i64 0), (.string ⟨#[]⟩), (.slice none 0 0), (.slice none 0 0), (.slice none 0 0), (.bool false), (.int .i64 0)] (t 20) (t 24)),
 o 9 (.mv (t 25))]
def f48r4 : List SOper := [
 o 26 (.mv (t 8))]
def f48r5 : List SOper := [
 o 27 (.mv (t 7)),
 o 28 (.ar .add (t 27) (i 1)),
 o 7 (.mv (t 28))]
def f48r6 : List SOper := [
 o 29 (.mv (t 9)),
 o 30 (.mv (t 0)),
 o 31 (.mv (t 7)),
 o 32 (.slc 8 (t 30) (some (t 31)) none),
 o 33 (.app 8 128 [(.string ⟨#[]⟩), (.int .i64 0), (.string ⟨#[]⟩), (.slice none 0 0), (.slice none 0 0), (.slice none 0 0), (.bool false), (.int .i64 0)] (t 29) (t 32)),
 o 6 (.mv (t 33))]
def f48 : SCode := (.seq (.ops f48r0) (.seq (.ops f48r1) (.seq (.ops f48r2) (.seq (.ops f48r3) (.seq (.seq (.ops f48r4) (.cond (t 26) (.ops f48r5) .skip)) (.seq (.ops f48r6) .ret))))))
theorem f48_calls : Sound Tryz.prog 48 34 f48 [.t 6] := sound_of mixed Tryz.func48 rfl (by kernel_rfl) (by kernel_rfl) (by kernel_rfl)

/-! 49: (*tabor/keys.Keys).Look -/
def f49r0 : List SOper := [
 o 4 (.new [(.int .i64 0), (.string ⟨#[]⟩), (.slice none 0 0), (.slice none 0 0), (.slice none 0 0), (.bool false), (.int .i64 0)]),
 o 5 (.mv (b false))]
def f49r1 : List SOper := [
 o 6 (.mv (t 0)),
 o 7 (.call 52 [(t 6)]),
 o 8 (.mv (t 7)),
 n 9 8 (.mv (t 0)),
 n 10 8 (.nilck (t 9)),
 n 11 8 (.fa 0 (t 10)),
 n 12 8 (.ld1 (t 11)),
 n 13 8 (.nilck (t 12)),
 n 14 8 (.fa 0 (t 13)),
 n 15 8 (.ld1 (t 14)),
 n 16 8 (.mv (t 1)),
 n 17 8 (.look .str (.pointer none) false (t 15) (t 16)),
 n 18 8 (.eqn 0 false (t 17)),
 o 19 (.pick (t 8) (b true) (t 18))]
def f49r2 : List SOper := [
 o 20 (.build [(.int .i64 0), (.string ⟨#[]⟩), (.slice none 0 0), (.slice none 0 0), (.slice none 0 0), (.bool false), (.int .i64 0)] [] []),
 q (.st 7 (t 4) (t 20)),
 o 5 (.mv (b false))]
def f49r3 : List SOper := [
 o 21 (.mv (t 0)),
 o 22 (.nilck (t 21)),
 o 23 (.fa 0 (t 22)),
 o 24 (.ld1 (t 23)),
 o 25 (.nilck (t 24)),
 o 26 (.fa 0 (t 25)),
 o 27 (.ld1 (t 26)),
 o 28 (.mv (t 1)),
 o 29 (.look .str (.pointer none) false (t 27) (t 28)),
 o 30 (.nilck (t 29)),
 o 31 (.ldn 7 (t 30)),
 o 32 (.call 46 [(t 31)]),
 q (.st 7 (t 4) (t 32)),
 o 5 (.mv (b true))]
def f49 : SCode := (.seq (.ops f49r0) (.seq (.seq (.ops f49r1) (.cond (t 19) (.seq (.ops f49r2) .ret) .skip)) (.seq (.ops f49r3) .ret)))
theorem f49_calls : Sound Tryz.prog 49 33 f49 [.cn 4 7, .t 5] := sound_of mixed Tryz.func49 rfl (by kernel_rfl) (by kernel_rfl) (by kernel_rfl)

/-! 50: (*tabor/keys.Keys).Get -/
def f50r0 : List SOper := [
 o 6 (.new [(.int .i64 0), (.string ⟨#[]⟩), (.slice none 0 0), (.slice none 0 0), (.slice none 0 0), (.bool false), (.int .i64 0)]),
 o 7 (.mv (b false))]
def f50r1 : List SOper := [
 o 11 (.mv (t 0)),
 o 12 (.mv (t 1)),
 o 13 (.call 49 [(t 11), (t 12)]),
 o 10 (.mv (t 13)),
 o 14 (.ext (t 10) 0),
 o 15 (.ext (t 10) 1),
 o 8 (.new [(.int .i64 0), (.string ⟨#[]⟩), (.slice none 0 0), (.slice none 0 0), (.slice none 0 0), (.bool false), (.int .i64 0)]),
 q (.st 7 (t 8) (t 14)),
 o 9 (.mv (t 15))]
def f50r2 : List SOper := [
 o 16 (.mv (t 9)),
 o 17 (.un .not (t 16)),
 o 18 (.mv (t 17)),
 n 19 18 (.ldn 7 (t 8)),
 n 20 18 (.mv (t 2)),
 n 21 18 (.call 103 [(t 19), (t 20)]),
 o 22 (.pick (t 18) (b true) (t 21))]
def f50r3 : List SOper := [
 o 23 (.build [(.int .i64 0), (.string ⟨#[]⟩), (.slice none 0 0), (.slice none 0 0), (.slice none 0 0), (.bool false), (.int .i64 0)] [] []),
 q (.st 7 (t 6) (t 23)),
 o 7 (.mv (b false))]
def f50r4 : List SOper := [
 o 24 (.ldn 7 (t 8)),
 q (.st 7 (t 6) (t 24)),
 o 7 (.mv (b true))]
def f50 : SCode := (.seq (.ops f50r0) (.seq (.ops f50r1) (.seq (.seq (.ops f50r2) (.cond (t 22) (.seq (.ops f50r3) .ret) .skip)) (.seq (.ops f50r4) .ret))))
theorem f50_calls : Sound Tryz.prog 50 25 f50 [.cn 6 7, .t 7] := sound_of mixed Tryz.func50 rfl (by kernel_rfl) (by kernel_rfl) (by kernel_rfl)

/-! 51: tabor/taborref07.Less -/
def f51r0 : List SOper := [
 o 4 (.mv (b false))]
def f51r1 : List SOper := [
 o 5 (.mv (i 0))]
def f51r2 : List SOper := [
 o 6 (.mv (t 5)),
 o 7 (.mv (t 0)),
 o 8 (.lens (t 7)),
 o 9 (.cmp .lss (t 6) (t 8)),
 o 10 (.mv (t 9)),
 g 11 10 (.mv (t 5)),
 g 12 10 (.mv (t 1)),
 g 13 10 (.lens (t 12)),
 g 14 10 (.cmp .lss (t 11) (t 13)),
 o 15 (.pick (t 10) (t 14) (b false))]
def f51r3 : List SOper := [
 o 18 (.mv (t 0)),
 o 19 (.mv (t 5)),
 o 20 (.ixc (t 18) (t 19)),
 o 21 (.mv (t 1)),
 o 22 (.mv (t 5)),
 o 23 (.ixc (t 21) (t 22)),
 o 24 (.cmp .neq (t 20) (t 23))]
def f51r4 : List SOper := [
 o 25 (.mv (t 0)),
 o 26 (.mv (t 5)),
 o 27 (.ixc (t 25) (t 26)),
 o 28 (.mv (t 1)),
 o 29 (.mv (t 5)),
 o 30 (.ixc (t 28) (t 29)),
 o 31 (.cmp .lss (t 27) (t 30)),
 o 4 (.mv (t 31))]
def f51r5 : List SOper := [
 o 16 (.mv (t 5)),
 o 17 (.ar .add (t 16) (i 1)),
 o 5 (.mv (t 17))]
def f51l6 : SCode := (.seq (.seq (.ops f51r2) (.cond (t 15) .skip (.exit 0))) (.seq (.block 1 (.seq (.ops f51r3) (.cond (t 24) (.seq (.ops f51r4) .ret) .skip))) (.ops f51r5)))
def f51r7 : List SOper := [
 o 32 (.mv (t 0)),
 o 33 (.lens (t 32)),
 o 34 (.mv (t 1)),
 o 35 (.lens (t 34)),
 o 36 (.cmp .lss (t 33) (t 35)),
 o 4 (.mv (t 36))]
def f51 : SCode := (.seq (.ops f51r0) (.seq (.seq (.ops f51r1) (.block 0 (.loop f51l6))) (.seq (.ops f51r7) .ret)))
theorem f51_calls : Sound Tryz.prog 51 37 f51 [.t 4] := sound_of mixed Tryz.func51 rfl (by kernel_rfl) (by kernel_rfl) (by kernel_rfl)

/-! 52: (*tabor/keys.Keys).none -/
def f52r0 : List SOper := [
 o 2 (.mv (b false))]
def f52r1 : List SOper := [
 o 3 (.mv (t 0)),
 o 4 (.eqn 0 false (t 3)),
 o 5 (.mv (t 4)),
 n 6 5 (.mv (t 0)),
 n 7 5 (.nilck (t 6)),
 n 8 5 (.fa 0 (t 7)),
 n 9 5 (.ld1 (t 8)),
 n 10 5 (.eqn 0 false (t 9)),
 o 11 (.pick (t 5) (b true) (t 10)),
 o 2 (.mv (t 11))]
def f52 : SCode := (.seq (.ops f52r0) (.seq (.ops f52r1) .ret))
theorem f52_calls : Sound Tryz.prog 52 12 f52 [.t 2] := sound_of mixed Tryz.func52 rfl (by kernel_rfl) (by kernel_rfl) (by kernel_rfl)

/-! 53: (*tabor/keys.Keys).one -/
def f53r0 : List SOper := [
 o 3 (.box (t 1)),
 o 4 (.mv (i 0))]
def f53p1 : List SOper := [
 o 12 (.fa 0 (t 3)),
 o 13 (.ld1 (t 12))]
def f53r1 : List SOper := [
 o 11 (.callq 104 []),
 o 14 (.look (.int .i64) (.agg #[(.bool false), (.bool false), (.bool false), (.int .i64 0), (.bool false), .nilFunc]) true (t 11) (t 13)),
 o 10 (.mv (t 14)),
 o 15 (.ext (t 10) 0),
 o 16 (.ext (t 10) 1),
 o 5 (.new [(.bool false), (.bool false), (.bool false), (.int .i64 0), (.bool false), .nilFunc]),
 q (.st 6 (t 5) (t 15)),
 o 6 (.mv (t 16))]
def f53s1 : List SOper := [
 o 5 (.new [(.bool false), (.bool false), (.bool false), (.int .i64 0), (.bool false), .nilFunc]),
 o 11 (.callq 104 []),
 o 14 (.look (.int .i64) (.agg #[(.bool false), (.bool false), (.bool false), (.int .i64 0), (.bool false), .nilFunc]) true (t 11) (t 13)),
 o 10 (.mv (t 14)),
 o 15 (.ext (t 10) 0),
 o 16 (.ext (t 10) 1),
 q (.st 6 (t 5) (t 15)),
 o 6 (.mv (t 16))]
def f53r2 : List SOper := [
 o 17 (.mv (t 6)),
 o 18 (.un .not (t 17)),
 o 19 (.mv (t 18)),
 n 20 19 (.fa 0 (t 5)),
 n 21 19 (.ld1 (t 20)),
 n 22 19 (.un .not (t 21)),
 n 23 19 (.mv (t 22)),
 g 24 23 (.fa 2 (t 3)),
 g 25 23 (.ld1 (t 24)),
 g 26 23 (.cmp .neq (t 25) e),
 n 27 19 (.pick (t 23) (t 26) (b false)),
 o 28 (.pick (t 19) (b true) (t 27)),
 o 29 (.mv (t 28)),
 n 30 29 (.fa 1 (t 5)),
 n 31 29 (.ld1 (t 30)),
 n 32 29 (.un .not (t 31)),
 n 33 29 (.mv (t 32)),
 g 34 33 (.fa 3 (t 3)),
 g 35 33 (.ld1 (t 34)),
 g 36 33 (.cmp .neq (t 35) e),
 n 37 29 (.pick (t 33) (t 36) (b false)),
 o 38 (.pick (t 29) (b true) (t 37)),
 o 39 (.mv (t 38)),
 n 40 39 (.fa 2 (t 5)),
 n 41 39 (.ld1 (t 40)),
 n 42 39 (.un .not (t 41)),
 n 43 39 (.mv (t 42)),
 g 44 43 (.fa 4 (t 3)),
 g 45 43 (.ld1 (t 44)),
 g 46 43 (.cmp .neq (t 45) (i 0)),
 n 47 39 (.pick (t 43) (t 46) (b false)),
 o 48 (.pick (t 39) (b true) (t 47))]
def f53r3 : List SOper := [
 o 4 (.mv (i 2))]
def f53r4 : List SOper := [
 o 49 (.fa 1 (t 3)),
 o 50 (.ld1 (t 49)),
 o 51 (.fa 2 (t 3)),
 o 52 (.ld1 (t 51)),
 o 53 (.fa 3 (t 3)),
 o 54 (.ld1 (t 53)),
 o 55 (.bslice [(.string ⟨#[]⟩), (.string ⟨#[]⟩), (.string ⟨#[]⟩)] 3 [(0, 1), (1, 1), (2, 1)] [(t 50), (t 52), (t 54)]),
 o 56 (.call 90 [(t 55)]),
 o 57 (.un .not (t 56))]
def f53r5 : List SOper := [
 o 4 (.mv (i 3))]
def f53r6 : List SOper := [
 o 59 (.mv (t 0)),
 o 60 (.fa 1 (t 3)),
 o 61 (.ld1 (t 60)),
 o 62 (.call 49 [(t 59), (t 61)]),
 o 58 (.mv (t 62)),
 o 63 (.ext (t 58) 0),
 o 64 (.ext (t 58) 1),
 o 7 (.new [(.int .i64 0), (.string ⟨#[]⟩), (.slice none 0 0), (.slice none 0 0), (.slice none 0 0), (.bool false), (.int .i64 0)]),
 q (.st 7 (t 7) (t 63)),
 o 8 (.mv (t 64))]
def f53r7 : List SOper := [
 o 66 (.mv (t 8)),
 o 67 (.un .not (t 66)),
 o 68 (.mv (t 67)),
 g 69 68 (.fa 4 (t 5)),
 g 70 68 (.ld1 (t 69)),
 g 71 68 (.un .not (t 70)),
 o 72 (.pick (t 68) (t 71) (b false)),
 o 65 (.mv (t 72))]
def f53r8 : List SOper := [
 o 4 (.mv (i 5))]
def f53r9 : List SOper := [
 o 74 (.mv (t 8)),
 o 75 (.un .not (t 74)),
 o 73 (.mv (t 75))]
def f53r10 : List SOper := [
 o 76 (.fa 3 (t 5)),
 o 77 (.ld1 (t 76)),
 o 78 (.fa 0 (t 7)),
 q (.st 1 (t 78) (t 77))]
def f53r11 : List SOper := [
 o 80 (.fa 3 (t 5)),
 o 81 (.ld1 (t 80)),
 o 82 (.cmp .neq (t 81) (i 0)),
 o 83 (.mv (t 82)),
 g 84 83 (.fa 0 (t 7)),
 g 85 83 (.ld1 (t 84)),
 g 86 83 (.fa 3 (t 5)),
 g 87 83 (.ld1 (t 86)),
 g 88 83 (.cmp .neq (t 85) (t 87)),
 o 89 (.pick (t 83) (t 88) (b false)),
 o 79 (.mv (t 89))]
def f53r12 : List SOper := [
 o 4 (.mv (i 170))]
def f53r13 : List SOper := [
 o 90 (.fa 5 (t 5)),
 o 91 (.ld1 (t 90)),
 o 92 (.ldn 5 (t 3)),
 o 93 (.callv (t 91) [(t 7), (t 92)]),
 o 9 (.mv (t 93))]
def f53r14 : List SOper := [
 o 94 (.mv (t 9)),
 o 95 (.cmp .neq (t 94) (i 0))]
def f53r15 : List SOper := [
 o 96 (.mv (t 9)),
 o 4 (.mv (t 96))]
def f53r16 : List SOper := [
 o 107 (.fa 0 (t 7)),
 o 108 (.ld1 (t 107)),
 o 109 (.cmp .neq (t 108) (i 1)),
 o 110 (.mv (t 109)),
 g 111 110 (.ldn 7 (t 7)),
 g 112 110 (.call 89 [(t 111)]),
 g 113 110 (.cmp .eql (t 112) (i 0)),
 o 114 (.pick (t 110) (t 113) (b false)),
 o 106 (.mv (t 114))]
def f53r17 : List SOper := [
 o 115 (.mv (t 0)),
 o 116 (.nilck (t 115)),
 o 117 (.fa 0 (t 116)),
 o 118 (.ld1 (t 117)),
 o 119 (.nilck (t 118)),
 o 120 (.fa 0 (t 119)),
 o 121 (.ld1 (t 120)),
 o 122 (.fa 1 (t 3)),
 o 123 (.ld1 (t 122)),
 q (.mdel .str (t 121) (t 123))]
def f53r18 : List SOper := [
 o 125 (.ldn 7 (t 7)),
 o 126 (.call 89 [(t 125)]),
 o 127 (.cmp .gtr (t 126) (i 65536)),
 o 128 (.mv (t 127)),
 n 129 128 (.mv (t 8)),
 n 130 128 (.un .not (t 129)),
 n 131 128 (.mv (t 130)),
 g 132 131 (.mv (t 0)),
 g 133 131 (.nilck (t 132)),
 g 134 131 (.fa 0 (t 133)),
 g 135 131 (.ld1 (t 134)),
 g 136 131 (.nilck (t 135)),
 g 137 131 (.fa 0 (t 136)),
 g 138 131 (.ld1 (t 137)),
 g 139 131 (.lenm (t 138)),
 g 140 131 (.cmp .geq (t 139) (i 65536)),
 n 141 128 (.pick (t 131) (t 140) (b false)),
 o 142 (.pick (t 128) (b true) (t 141)),
 o 124 (.mv (t 142))]
def f53r19 : List SOper := [
 o 4 (.mv (i 3))]
def f53r20 : List SOper := [
 o 97 (.mv (t 0)),
 o 98 (.nilck (t 97)),
 o 99 (.fa 0 (t 98)),
 o 100 (.ld1 (t 99)),
 o 101 (.nilck (t 100)),
 o 102 (.fa 0 (t 101)),
 o 103 (.ld1 (t 102)),
 o 104 (.fa 1 (t 3)),
 o 105 (.ld1 (t 104)),
 q (.mup .str (t 103) (t 105) (t 7))]
def f53r21 : List SOper := [
 o 4 (.mv (i 0))]
def f53 : SCode := (.seq (.ops f53r0) (.seq (.two f53p1 f53r1 f53s1) (.seq (.seq (.ops f53r2) (.cond (t 48) (.seq (.ops f53r3) .ret) .skip)) (.seq (.seq (.ops f53r4) (.cond (t 57) (.seq (.ops f53r5) .ret) .skip)) (.seq (.ops f53r6) (.seq (.block 0 (.seq (.ops f53r7) (.cond (t 65) (.seq (.ops f53r8) .ret) (.seq (.ops f53r9) (.cond (t 73) (.ops f53r10) (.seq (.ops f53r11) (.cond (t 79) (.seq (.ops f53r12) .ret) .skip))))))) (.seq (.seq (.ops f53r13) (.seq (.ops f53r14) (.cond (t 95) (.seq (.ops f53r15) .ret) .skip))) (.seq (.block 1 (.seq (.ops f53r16) (.cond (t 106) (.ops f53r17) (.seq (.ops f53r18) (.cond (t 124) (.seq (.ops f53r19) .ret) (.ops f53r20)))))) (.seq (.ops f53r21) .ret)))))))))
theorem f53_calls : Sound Tryz.prog 53 143 f53 [.t 4] := sound_of mixed Tryz.func53 rfl (by kernel_rfl) (by kernel_rfl) (by kernel_rfl)

/-! 54: internal/strconv.ParseInt: not simplified -/
/-! 55: strconv.toError: not simplified -/
/-! 56: internal/strconv.FormatInt: not simplified -/
/-! 57: slices.Collect[string]: not simplified -/
/-! 58: slices.Sort[[]string,string] -/
def f58r0 : List SOper := [
 o 3 (.mv (t 0)),
 o 4 (.len (t 3)),
 o 2 (.mv (t 4))]
def f58r1 : List SOper := [
 o 5 (.mv (t 0)),
 o 6 (.mv (t 2)),
 o 7 (.mv (t 2)),
 o 8 (.cvt .u64 (t 7)),
 o 9 (.call 116 [(t 8)]),
 o 10 (.call 115 [(t 5), (i 0), (t 6), (t 9)])]
def f58 : SCode := (.seq (.ops f58r0) (.ops f58r1))
theorem f58_calls : Sound Tryz.prog 58 11 f58 [] := sound_of mixed Tryz.func58 rfl (by kernel_rfl) (by kernel_rfl) (by kernel_rfl)

/-! 59: maps.Keys[map[string]func(a *tabor/basics.asked) tabor/api.Reply,string,func(a *tabor/basics.asked) tabor/api.Reply]$1: not simplified -/
/-! 60: tabor/basics.set: not simplified -/
/-! 61: tabor/basics.get: not simplified -/
/-! 62: tabor/basics.del: not simplified -/
/-! 63: tabor/basics.exists: not simplified -/
/-! 64: tabor/basics.kind: not simplified -/
/-! 65: tabor/basics.step: not simplified -/
/-! 66: tabor/basics.commands$1: not simplified -/
/-! 67: (*tabor/basics.asked).many: not simplified -/
/-! 68: tabor/basics.by: not simplified -/
/-! 69: (*tabor/basics.asked).number: not simplified -/
/-! 70: tabor/basics.more: not simplified -/
/-! 71: tabor/basics.long: not simplified -/
/-! 72: tabor/basics.mget: not simplified -/
/-! 73: tabor/basics.mset: not simplified -/
/-! 74: tabor/basics.expire: not simplified -/
/-! 75: tabor/basics.persist: not simplified -/
/-! 76: tabor/basics.left: not simplified -/
/-! 77: tabor/basics.names: not simplified -/
/-! 78: tabor/basics.size: not simplified -/
/-! 79: tabor/basics.flush: not simplified -/
/-! 80: maps.EqualFunc[map[string]*tabor/api.Thing,map[string]*tabor/api.Thing,string,*tabor/api.Thing,*tabor/api.Thing]: not simplified -/
/-! 81: (*tabor/keys.Keys).Same$1: not simplified -/
/-! 82: tabor/keys.SameThing -/
def f82r0 : List SOper := [
 o 2 (.box (t 0)),
 o 3 (.box (t 1)),
 o 4 (.mv (b false))]
def f82r1 : List SOper := [
 o 5 (.fa 0 (t 2)),
 o 6 (.ld1 (t 5)),
 o 7 (.fa 0 (t 3)),
 o 8 (.ld1 (t 7)),
 o 9 (.cmp .eql (t 6) (t 8)),
 o 10 (.mv (t 9)),
 g 11 10 (.fa 1 (t 2)),
 g 12 10 (.ld1 (t 11)),
 g 13 10 (.fa 1 (t 3)),
 g 14 10 (.ld1 (t 13)),
 g 15 10 (.cmp .eql (t 12) (t 14)),
 o 16 (.pick (t 10) (t 15) (b false)),
 o 17 (.mv (t 16)),
 g 18 17 (.fa 2 (t 2)),
 g 19 17 (.ld1 (t 18)),
 g 20 17 (.fa 2 (t 3)),
 g 21 17 (.ld1 (t 20)),
 g 22 17 (.call 130 [(t 19), (t 21)]),
 o 23 (.pick (t 17) (t 22) (b false)),
 o 24 (.mv (t 23)),
 g 25 24 (.fa 3 (t 2)),
 g 26 24 (.ld1 (t 25)),
 g 27 24 (.fa 3 (t 3)),
 g 28 24 (.ld1 (t 27)),
 g 29 24 (.call 131 [(t 26), (t 28)]),
 o 30 (.pick (t 24) (t 29) (b false)),
 o 31 (.mv (t 30)),
 g 32 31 (.fa 4 (t 2)),
 g 33 31 (.ld1 (t 32)),
 g 34 31 (.fa 4 (t 3)),
 g 35 31 (.ld1 (t 34)),
 g 36 31 (.call 132 [(t 33), (t 35)]),
 o 37 (.pick (t 31) (t 36) (b false)),
 o 38 (.mv (t 37)),
 g 39 38 (.fa 5 (t 2)),
 g 40 38 (.ld1 (t 39)),
 g 41 38 (.fa 5 (t 3)),
 g 42 38 (.ld1 (t 41)),
 g 43 38 (.cmpb false (t 40) (t 42)),
 o 44 (.pick (t 38) (t 43) (b false)),
 o 45 (.mv (t 44)),
 g 46 45 (.fa 6 (t 2)),
 g 47 45 (.ld1 (t 46)),
 g 48 45 (.fa 6 (t 3)),
 g 49 45 (.ld1 (t 48)),
 g 50 45 (.cmp .eql (t 47) (t 49)),
 o 51 (.pick (t 45) (t 50) (b false)),
 o 4 (.mv (t 51))]
def f82 : SCode := (.seq (.ops f82r0) (.seq (.ops f82r1) .ret))
theorem f82_calls : Sound Tryz.prog 82 52 f82 [.t 4] := sound_of mixed Tryz.func82 rfl (by kernel_rfl) (by kernel_rfl) (by kernel_rfl)

/-! 83: tabor/taborref08.bounds: not simplified -/
/-! 84: (*tabor/taborref08.Asked).Many: not simplified -/
/-! 85: tabor/taborref08.Fail: not simplified -/
/-! 86: (*tabor/taborref08.Asked).reply: not simplified -/
/-! 87: (*tabor/keys.Keys).All -/
def f87r0 : List SOper := [
 o 1 (.box (t 0)),
 o 2 (.mv (.const .nilFunc))]
def f87r1 : List SOper := [
 o 3 (.fn 142 [] [(t 1)]),
 o 2 (.mv (t 3))]
def f87 : SCode := (.seq (.ops f87r0) (.seq (.ops f87r1) .ret))
theorem f87_calls : Sound Tryz.prog 87 4 f87 [.t 2] := sound_of mixed Tryz.func87 rfl (by kernel_rfl) (by kernel_rfl) (by kernel_rfl)

/-! 88: tabor/taborref07.SameThing -/
def f88r0 : List SOper := [
 o 2 (.box (t 0)),
 o 3 (.box (t 1)),
 o 4 (.mv (b false))]
def f88r1 : List SOper := [
 o 8 (.fa 0 (t 2)),
 o 9 (.ld1 (t 8)),
 o 10 (.fa 0 (t 3)),
 o 11 (.ld1 (t 10)),
 o 12 (.cmp .neq (t 9) (t 11)),
 o 13 (.mv (t 12)),
 n 14 13 (.fa 1 (t 2)),
 n 15 13 (.ld1 (t 14)),
 n 16 13 (.fa 1 (t 3)),
 n 17 13 (.ld1 (t 16)),
 n 18 13 (.cmp .neq (t 15) (t 17)),
 o 19 (.pick (t 13) (b true) (t 18)),
 o 20 (.mv (t 19)),
 n 21 20 (.fa 5 (t 2)),
 n 22 20 (.ld1 (t 21)),
 n 23 20 (.fa 5 (t 3)),
 n 24 20 (.ld1 (t 23)),
 n 25 20 (.cmpb true (t 22) (t 24)),
 o 26 (.pick (t 20) (b true) (t 25)),
 o 27 (.mv (t 26)),
 n 28 27 (.fa 6 (t 2)),
 n 29 27 (.ld1 (t 28)),
 n 30 27 (.fa 6 (t 3)),
 n 31 27 (.ld1 (t 30)),
 n 32 27 (.cmp .neq (t 29) (t 31)),
 o 33 (.pick (t 27) (b true) (t 32)),
 o 34 (.mv (t 33)),
 n 35 34 (.fa 2 (t 2)),
 n 36 34 (.ld1 (t 35)),
 n 37 34 (.len (t 36)),
 n 38 34 (.fa 2 (t 3)),
 n 39 34 (.ld1 (t 38)),
 n 40 34 (.len (t 39)),
 n 41 34 (.cmp .neq (t 37) (t 40)),
 o 42 (.pick (t 34) (b true) (t 41)),
 o 43 (.mv (t 42)),
 n 44 43 (.fa 3 (t 2)),
 n 45 43 (.ld1 (t 44)),
 n 46 43 (.len (t 45)),
 n 47 43 (.fa 3 (t 3)),
 n 48 43 (.ld1 (t 47)),
 n 49 43 (.len (t 48)),
 n 50 43 (.cmp .neq (t 46) (t 49)),
 o 51 (.pick (t 43) (b true) (t 50)),
 o 52 (.mv (t 51)),
 n 53 52 (.fa 4 (t 2)),
 n 54 52 (.ld1 (t 53)),
 n 55 52 (.len (t 54)),
 n 56 52 (.fa 4 (t 3)),
 n 57 52 (.ld1 (t 56)),
 n 58 52 (.len (t 57)),
 n 59 52 (.cmp .neq (t 55) (t 58)),
 o 60 (.pick (t 52) (b true) (t 59))]
def f88r2 : List SOper := [
 o 4 (.mv (b false))]
def f88r3 : List SOper := [
 o 5 (.mv (i 0))]
def f88r4 : List SOper := [
 o 61 (.mv (t 5)),
 o 62 (.fa 2 (t 2)),
 o 63 (.ld1 (t 62)),
 o 64 (.len (t 63)),
 o 65 (.cmp .lss (t 61) (t 64))]
def f88r5 : List SOper := [
 o 68 (.fa 2 (t 2)),
 o 69 (.ld1 (t 68)),
 o 70 (.mv (t 5)),
 o 71 (.ixs 2 (t 69) (t 70)),
 o 72 (.ldn 2 (t 71)),
 o 73 (.fa 2 (t 3)),
 o 74 (.ld1 (t 73)),
 o 75 (.mv (t 5)),
 o 76 (.ixs 2 (t 74) (t 75)),
 o 77 (.ldn 2 (t 76)),
 o 78 (.eqa true [.str, .str] (t 72) (t 77))]
def f88r6 : List SOper := [
 o 4 (.mv (b false))]
def f88r7 : List SOper := [
 o 66 (.mv (t 5)),
 o 67 (.ar .add (t 66) (i 1)),
 o 5 (.mv (t 67))]
def f88l8 : SCode := (.seq (.seq (.ops f88r4) (.cond (t 65) .skip (.exit 0))) (.seq (.block 1 (.seq (.ops f88r5) (.cond (t 78) (.seq (.ops f88r6) .ret) .skip))) (.ops f88r7)))
def f88r9 : List SOper := [
 o 6 (.mv (i 0))]
def f88r10 : List SOper := [
 o 79 (.mv (t 6)),
 o 80 (.fa 3 (t 2)),
 o 81 (.ld1 (t 80)),
 o 82 (.len (t 81)),
 o 83 (.cmp .lss (t 79) (t 82))]
def f88r11 : List SOper := [
 o 86 (.fa 3 (t 2)),
 o 87 (.ld1 (t 86)),
 o 88 (.mv (t 6)),
 o 89 (.ixs 1 (t 87) (t 88)),
 o 90 (.ld1 (t 89)),
 o 91 (.fa 3 (t 3)),
 o 92 (.ld1 (t 91)),
 o 93 (.mv (t 6)),
 o 94 (.ixs 1 (t 92) (t 93)),
 o 95 (.ld1 (t 94)),
 o 96 (.cmp .neq (t 90) (t 95))]
def f88r12 : List SOper := [
 o 4 (.mv (b false))]
def f88r13 : List SOper := [
 o 84 (.mv (t 6)),
 o 85 (.ar .add (t 84) (i 1)),
 o 6 (.mv (t 85))]
def f88l14 : SCode := (.seq (.seq (.ops f88r10) (.cond (t 83) .skip (.exit 2))) (.seq (.block 3 (.seq (.ops f88r11) (.cond (t 96) (.seq (.ops f88r12) .ret) .skip))) (.ops f88r13)))
def f88r15 : List SOper := [
 o 7 (.mv (i 0))]
def f88r16 : List SOper := [
 o 97 (.mv (t 7)),
 o 98 (.fa 4 (t 2)),
 o 99 (.ld1 (t 98)),
 o 100 (.len (t 99)),
 o 101 (.cmp .lss (t 97) (t 100))]
def f88r17 : List SOper := [
 o 104 (.fa 4 (t 2)),
 o 105 (.ld1 (t 104)),
 o 106 (.mv (t 7)),
 o 107 (.ixs 2 (t 105) (t 106)),
 o 108 (.ldn 2 (t 107)),
 o 109 (.fa 4 (t 3)),
 o 110 (.ld1 (t 109)),
 o 111 (.mv (t 7)),
 o 112 (.ixs 2 (t 110) (t 111)),
 o 113 (.ldn 2 (t 112)),
 o 114 (.eqa true [.str, (.int .i64)] (t 108) (t 113))]
def f88r18 : List SOper := [
 o 4 (.mv (b false))]
def f88r19 : List SOper := [
 o 102 (.mv (t 7)),
 o 103 (.ar .add (t 102) (i 1)),
 o 7 (.mv (t 103))]
def f88l20 : SCode := (.seq (.seq (.ops f88r16) (.cond (t 101) .skip (.exit 4))) (.seq (.block 5 (.seq (.ops f88r17) (.cond (t 114) (.seq (.ops f88r18) .ret) .skip))) (.ops f88r19)))
def f88r21 : List SOper := [
 o 4 (.mv (b true))]
def f88 : SCode := (.seq (.ops f88r0) (.seq (.seq (.ops f88r1) (.cond (t 60) (.seq (.ops f88r2) .ret) .skip)) (.seq (.seq (.ops f88r3) (.block 0 (.loop f88l8))) (.seq (.seq (.ops f88r9) (.block 2 (.loop f88l14))) (.seq (.seq (.ops f88r15) (.block 4 (.loop f88l20))) (.seq (.ops f88r21) .ret))))))
theorem f88_calls : Sound Tryz.prog 88 115 f88 [.t 4] := sound_of mixed Tryz.func88 rfl (by kernel_rfl) (by kernel_rfl) (by kernel_rfl)

/-! 89: tabor/keys.count -/
def f89r0 : List SOper := [
 o 1 (.box (t 0)),
 o 2 (.mv (i 0))]
def f89r1 : List SOper := [
 o 3 (.fa 2 (t 1)),
 o 4 (.ld1 (t 3)),
 o 5 (.len (t 4)),
 o 6 (.fa 3 (t 1)),
 o 7 (.ld1 (t 6)),
 o 8 (.len (t 7)),
 o 9 (.ar .add (t 5) (t 8)),
 o 10 (.fa 4 (t 1)),
 o 11 (.ld1 (t 10)),
 o 12 (.len (t 11)),
 o 13 (.ar .add (t 9) (t 12)),
 o 2 (.mv (t 13))]
def f89 : SCode := (.seq (.ops f89r0) (.seq (.ops f89r1) .ret))
theorem f89_calls : Sound Tryz.prog 89 14 f89 [.t 2] := sound_of mixed Tryz.func89 rfl (by kernel_rfl) (by kernel_rfl) (by kernel_rfl)

/-! 90: tabor/keys.short -/
def f90r0 : List SOper := [
 o 2 (.mv (b false))]
def f90r1 : List SOper := [
 o 3 (.mv (t 0)),
 o 4 (.call 144 [(t 3), (u 145)]),
 o 5 (.un .not (t 4)),
 o 2 (.mv (t 5))]
def f90 : SCode := (.seq (.ops f90r0) (.seq (.ops f90r1) .ret))
theorem f90_calls : Sound Tryz.prog 90 6 f90 [.t 2] := sound_of mixed Tryz.func90 rfl (by kernel_rfl) (by kernel_rfl) (by kernel_rfl)

/-! 91: tabor/keys.names -/
def f91r0 : List SOper := [
 o 1 (.box (t 0)),
 o 2 (.mv (.const (.slice none 0 0)))]
def f91r1 : List SOper := [
 o 3 (.mv (.const (.slice none 0 0)))]
def f91r2 : List SOper := [
 o 8 (.fa 2 (t 1)),
 o 9 (.ld1 (t 8)),
 o 10 (.len (t 9)),
 o 11 (.mv (i 0))]
def f91r3 : List SOper := [
 o 12 (.cmp .lss (t 11) (t 10))]
def f91r4 : List SOper := [
 o 13 (.ixs 2 (t 9) (t 11)),
 o 14 (.ldn 2 (t 13)),
 o 5 (.new [(.string ⟨#[]⟩), (.string ⟨#[]⟩)]),
 q (.st 2 (t 5) (t 14))]
def f91r5 : List SOper := [
 o 15 (.mv (t 3)),
 o 16 (.fa 0 (t 5)),
 o 17 (.ld1 (t 16)),
 o 18 (.fa 1 (t 5)),
 o 19 (.ld1 (t 18)),
 o 20 (.bslice [(.string ⟨#[]⟩), (.string ⟨#[]⟩)] 2 [(0, 1), (1, 1)] [(t 17), (t 19)]),
 o 21 (.app 1 16 [(.string ⟨#[]⟩)] (t 15) (t 20)),
 o 3 (.mv (t 21))]
def f91r6 : List SOper := [
 o 22 (.ar .add (t 11) (i 1)),
 o 11 (.mv (t 22))]
def f91l7 : SCode := (.seq (.ops f91r3) (.seq (.cond (t 12) .skip (.exit 0)) (.seq (.block 1 (.seq (.ops f91r4) (.ops f91r5))) (.ops f91r6))))
def f91r8 : List SOper := [
 o 23 (.fa 4 (t 1)),
 o 24 (.ld1 (t 23)),
 o 25 (.len (t 24)),
 o 26 (.mv (i 0))]
def f91r9 : List SOper := [
 o 27 (.cmp .lss (t 26) (t 25))]
def f91r10 : List SOper := [
 o 28 (.ixs 2 (t 24) (t 26)),
 o 29 (.ldn 2 (t 28)),
 o 7 (.new [(.string ⟨#[]⟩), (.int .i64 0)]),
 q (.st 2 (t 7) (t 29))]
def f91r11 : List SOper := [
 o 30 (.mv (t 3)),
 o 31 (.fa 0 (t 7)),
 o 32 (.ld1 (t 31)),
 o 33 (.bslice [(.string ⟨#[]⟩)] 1 [(0, 1)] [(t 32)]),
 o 34 (.app 1 16 [(.string ⟨#[]⟩)] (t 30) (t 33)),
 o 3 (.mv (t 34))]
def f91r12 : List SOper := [
 o 35 (.ar .add (t 26) (i 1)),
 o 26 (.mv (t 35))]
def f91l13 : SCode := (.seq (.ops f91r9) (.seq (.cond (t 27) .skip (.exit 2)) (.seq (.block 3 (.seq (.ops f91r10) (.ops f91r11))) (.ops f91r12))))
def f91r14 : List SOper := [
 o 36 (.mv (t 3)),
 o 2 (.mv (t 36))]
def f91 : SCode := (.seq (.ops f91r0) (.seq (.ops f91r1) (.seq (.seq (.ops f91r2) (.block 0 (.loop f91l7))) (.seq (.seq (.ops f91r8) (.block 2 (.loop f91l13))) (.seq (.ops f91r14) .ret)))))
theorem f91_calls : Sound Tryz.prog 91 37 f91 [.t 2] := sound_of mixed Tryz.func91 rfl (by kernel_rfl) (by kernel_rfl) (by kernel_rfl)

/-! 92: tabor/keys.rising[tabor/api.Pair] -/
def f92r0 : List SOper := [
 o 4 (.mv (b false))]
def f92r1 : List SOper := [
 o 5 (.mv (i 1))]
def f92r2 : List SOper := [
 o 6 (.mv (t 5)),
 o 7 (.mv (t 0)),
 o 8 (.len (t 7)),
 o 9 (.cmp .lss (t 6) (t 8))]
def f92r3 : List SOper := [
 o 12 (.mv (t 1)),
 o 13 (.mv (t 0)),
 o 14 (.mv (t 5)),
 o 15 (.ar .sub (t 14) (i 1)),
 o 16 (.ixs 2 (t 13) (t 15)),
 o 17 (.ldn 2 (t 16)),
 o 18 (.mv (t 0)),
 o 19 (.mv (t 5)),
 o 20 (.ixs 2 (t 18) (t 19)),
 o 21 (.ldn 2 (t 20)),
 o 22 (.callv (t 12) [(t 17), (t 21)]),
 o 23 (.cmp .geq (t 22) (i 0))]
def f92r4 : List SOper := [
 o 4 (.mv (b false))]
def f92r5 : List SOper := [
 o 10 (.mv (t 5)),
 o 11 (.ar .add (t 10) (i 1)),
 o 5 (.mv (t 11))]
def f92l6 : SCode := (.seq (.seq (.ops f92r2) (.cond (t 9) .skip (.exit 0))) (.seq (.block 1 (.seq (.ops f92r3) (.cond (t 23) (.seq (.ops f92r4) .ret) .skip))) (.ops f92r5)))
def f92r7 : List SOper := [
 o 4 (.mv (b true))]
def f92 : SCode := (.seq (.ops f92r0) (.seq (.seq (.ops f92r1) (.block 0 (.loop f92l6))) (.seq (.ops f92r7) .ret)))
theorem f92_calls : Sound Tryz.prog 92 24 f92 [.t 4] := sound_of mixed Tryz.func92 rfl (by kernel_rfl) (by kernel_rfl) (by kernel_rfl)

/-! 93: tabor/keys.Check$1 -/
def f93r0 : List SOper := [
 o 2 (.box (t 0)),
 o 3 (.box (t 1)),
 o 4 (.mv (i 0))]
def f93r1 : List SOper := [
 o 5 (.fa 0 (t 2)),
 o 6 (.ld1 (t 5)),
 o 7 (.fa 0 (t 3)),
 o 8 (.ld1 (t 7)),
 o 9 (.call 94 [(t 6), (t 8)]),
 o 4 (.mv (t 9))]
def f93 : SCode := (.seq (.ops f93r0) (.seq (.ops f93r1) .ret))
theorem f93_calls : Sound Tryz.prog 93 10 f93 [.t 4] := sound_of mixed Tryz.func93 rfl (by kernel_rfl) (by kernel_rfl) (by kernel_rfl)

/-! 94: strings.Compare -/
def f94r0 : List SOper := [
 o 4 (.mv (i 0))]
def f94r1 : List SOper := [
 o 5 (.mv (t 0)),
 o 6 (.mv (t 1)),
 o 7 (.call 146 [(t 5), (t 6)]),
 o 4 (.mv (t 7))]
def f94 : SCode := (.seq (.ops f94r0) (.seq (.ops f94r1) .ret))
theorem f94_calls : Sound Tryz.prog 94 8 f94 [.t 4] := sound_of mixed Tryz.func94 rfl (by kernel_rfl) (by kernel_rfl) (by kernel_rfl)

/-! 95: tabor/keys.rising[string] -/
def f95r0 : List SOper := [
 o 4 (.mv (b false))]
def f95r1 : List SOper := [
 o 5 (.mv (i 1))]
def f95r2 : List SOper := [
 o 6 (.mv (t 5)),
 o 7 (.mv (t 0)),
 o 8 (.len (t 7)),
 o 9 (.cmp .lss (t 6) (t 8))]
def f95r3 : List SOper := [
 o 12 (.mv (t 1)),
 o 13 (.mv (t 0)),
 o 14 (.mv (t 5)),
 o 15 (.ar .sub (t 14) (i 1)),
 o 16 (.ixs 1 (t 13) (t 15)),
 o 17 (.ld1 (t 16)),
 o 18 (.mv (t 0)),
 o 19 (.mv (t 5)),
 o 20 (.ixs 1 (t 18) (t 19)),
 o 21 (.ld1 (t 20)),
 o 22 (.callv (t 12) [(t 17), (t 21)]),
 o 23 (.cmp .geq (t 22) (i 0))]
def f95r4 : List SOper := [
 o 4 (.mv (b false))]
def f95r5 : List SOper := [
 o 10 (.mv (t 5)),
 o 11 (.ar .add (t 10) (i 1)),
 o 5 (.mv (t 11))]
def f95l6 : SCode := (.seq (.seq (.ops f95r2) (.cond (t 9) .skip (.exit 0))) (.seq (.block 1 (.seq (.ops f95r3) (.cond (t 23) (.seq (.ops f95r4) .ret) .skip))) (.ops f95r5)))
def f95r7 : List SOper := [
 o 4 (.mv (b true))]
def f95 : SCode := (.seq (.ops f95r0) (.seq (.seq (.ops f95r1) (.block 0 (.loop f95l6))) (.seq (.ops f95r7) .ret)))
theorem f95_calls : Sound Tryz.prog 95 24 f95 [.t 4] := sound_of mixed Tryz.func95 rfl (by kernel_rfl) (by kernel_rfl) (by kernel_rfl)

/-! 96: tabor/keys.rising[tabor/api.Rank] -/
def f96r0 : List SOper := [
 o 4 (.mv (b false))]
def f96r1 : List SOper := [
 o 5 (.mv (i 1))]
def f96r2 : List SOper := [
 o 6 (.mv (t 5)),
 o 7 (.mv (t 0)),
 o 8 (.len (t 7)),
 o 9 (.cmp .lss (t 6) (t 8))]
def f96r3 : List SOper := [
 o 12 (.mv (t 1)),
 o 13 (.mv (t 0)),
 o 14 (.mv (t 5)),
 o 15 (.ar .sub (t 14) (i 1)),
 o 16 (.ixs 2 (t 13) (t 15)),
 o 17 (.ldn 2 (t 16)),
 o 18 (.mv (t 0)),
 o 19 (.mv (t 5)),
 o 20 (.ixs 2 (t 18) (t 19)),
 o 21 (.ldn 2 (t 20)),
 o 22 (.callv (t 12) [(t 17), (t 21)]),
 o 23 (.cmp .geq (t 22) (i 0))]
def f96r4 : List SOper := [
 o 4 (.mv (b false))]
def f96r5 : List SOper := [
 o 10 (.mv (t 5)),
 o 11 (.ar .add (t 10) (i 1)),
 o 5 (.mv (t 11))]
def f96l6 : SCode := (.seq (.seq (.ops f96r2) (.cond (t 9) .skip (.exit 0))) (.seq (.block 1 (.seq (.ops f96r3) (.cond (t 23) (.seq (.ops f96r4) .ret) .skip))) (.ops f96r5)))
def f96r7 : List SOper := [
 o 4 (.mv (b true))]
def f96 : SCode := (.seq (.ops f96r0) (.seq (.seq (.ops f96r1) (.block 0 (.loop f96l6))) (.seq (.ops f96r7) .ret)))
theorem f96_calls : Sound Tryz.prog 96 24 f96 [.t 4] := sound_of mixed Tryz.func96 rfl (by kernel_rfl) (by kernel_rfl) (by kernel_rfl)

/-! 97: tabor/keys.ahead -/
def f97r0 : List SOper := [
 o 2 (.box (t 0)),
 o 3 (.box (t 1)),
 o 4 (.mv (i 0))]
def f97r1 : List SOper := [
 o 6 (.fa 1 (t 2)),
 o 7 (.ld1 (t 6)),
 o 8 (.fa 1 (t 3)),
 o 9 (.ld1 (t 8)),
 o 10 (.cmp .lss (t 7) (t 9)),
 o 5 (.mv (t 10))]
def f97r2 : List SOper := [
 o 4 (.mv (i (-1)))]
def f97r3 : List SOper := [
 o 12 (.fa 1 (t 2)),
 o 13 (.ld1 (t 12)),
 o 14 (.fa 1 (t 3)),
 o 15 (.ld1 (t 14)),
 o 16 (.cmp .gtr (t 13) (t 15)),
 o 11 (.mv (t 16))]
def f97r4 : List SOper := [
 o 4 (.mv (i 1))]
def f97r5 : List SOper := [
 o 17 (.fa 0 (t 2)),
 o 18 (.ld1 (t 17)),
 o 19 (.fa 0 (t 3)),
 o 20 (.ld1 (t 19)),
 o 21 (.call 94 [(t 18), (t 20)]),
 o 4 (.mv (t 21))]
def f97 : SCode := (.seq (.ops f97r0) (.seq (.block 0 (.seq (.ops f97r1) (.cond (t 5) (.seq (.ops f97r2) .ret) (.seq (.ops f97r3) (.cond (t 11) (.seq (.ops f97r4) .ret) .skip))))) (.seq (.ops f97r5) .ret)))
theorem f97_calls : Sound Tryz.prog 97 22 f97 [.t 4] := sound_of mixed Tryz.func97 rfl (by kernel_rfl) (by kernel_rfl) (by kernel_rfl)

/-! 98: tabor/keys.once -/
def f98r0 : List SOper := [
 o 2 (.mv (b false))]
def f98r1 : List SOper := [
 o 6 (.mkm),
 o 3 (.mv (t 6))]
def f98r2 : List SOper := [
 o 7 (.mv (t 0)),
 o 8 (.len (t 7)),
 o 9 (.mv (i 0))]
def f98r3 : List SOper := [
 o 10 (.cmp .lss (t 9) (t 8))]
def f98r4 : List SOper := [
 o 11 (.ixs 2 (t 7) (t 9)),
 o 12 (.ldn 2 (t 11)),
 o 5 (.new [(.string ⟨#[]⟩), (.int .i64 0)]),
 q (.st 2 (t 5) (t 12))]
def f98r5 : List SOper := [
 o 13 (.mv (t 3)),
 o 14 (.fa 0 (t 5)),
 o 15 (.ld1 (t 14)),
 o 16 (.look .str (.int .i64 0) false (t 13) (t 15)),
 o 17 (.ar .add (t 16) (i 1)),
 q (.mup .str (t 13) (t 15) (t 17))]
def f98r6 : List SOper := [
 o 18 (.ar .add (t 9) (i 1)),
 o 9 (.mv (t 18))]
def f98l7 : SCode := (.seq (.ops f98r3) (.seq (.cond (t 10) .skip (.exit 0)) (.seq (.block 1 (.seq (.ops f98r4) (.ops f98r5))) (.ops f98r6))))
def f98r8 : List SOper := [
 o 19 (.mv (t 3)),
 o 20 (.lenm (t 19)),
 o 21 (.mv (t 0)),
 o 22 (.len (t 21)),
 o 23 (.cmp .eql (t 20) (t 22)),
 o 2 (.mv (t 23))]
def f98 : SCode := (.seq (.ops f98r0) (.seq (.ops f98r1) (.seq (.seq (.ops f98r2) (.block 0 (.loop f98l7))) (.seq (.ops f98r8) .ret))))
theorem f98_calls : Sound Tryz.prog 98 24 f98 [.t 2] := sound_of mixed Tryz.func98 rfl (by kernel_rfl) (by kernel_rfl) (by kernel_rfl)

/-! 99: slices.Clone[[]tabor/api.Pair,tabor/api.Pair] -/
def f99r0 : List SOper := [
 o 2 (.mv (.const (.slice none 0 0)))]
def f99r1 : List SOper := [
 o 3 (.mv (t 0)),
 o 4 (.eqn 1 false (t 3))]
def f99r2 : List SOper := [
 o 2 (.mv (.const (.slice none 0 0)))]
def f99r3 : List SOper := [
 o 5 (.bslice [] 0 [] []),
 o 6 (.mv (t 0)),
 o 7 (.app 2 32 [(.string ⟨#[]⟩), (.string ⟨#[]⟩)] (t 5) (t 6)),
 o 2 (.mv (t 7))]
def f99 : SCode := (.seq (.ops f99r0) (.seq (.seq (.ops f99r1) (.cond (t 4) (.seq (.ops f99r2) .ret) .skip)) (.seq (.ops f99r3) .ret)))
theorem f99_calls : Sound Tryz.prog 99 8 f99 [.t 2] := sound_of mixed Tryz.func99 rfl (by kernel_rfl) (by kernel_rfl) (by kernel_rfl)

/-! 100: slices.Clone[[]string,string] -/
def f100r0 : List SOper := [
 o 2 (.mv (.const (.slice none 0 0)))]
def f100r1 : List SOper := [
 o 3 (.mv (t 0)),
 o 4 (.eqn 1 false (t 3))]
def f100r2 : List SOper := [
 o 2 (.mv (.const (.slice none 0 0)))]
def f100r3 : List SOper := [
 o 5 (.bslice [] 0 [] []),
 o 6 (.mv (t 0)),
 o 7 (.app 1 16 [(.string ⟨#[]⟩)] (t 5) (t 6)),
 o 2 (.mv (t 7))]
def f100 : SCode := (.seq (.ops f100r0) (.seq (.seq (.ops f100r1) (.cond (t 4) (.seq (.ops f100r2) .ret) .skip)) (.seq (.ops f100r3) .ret)))
theorem f100_calls : Sound Tryz.prog 100 8 f100 [.t 2] := sound_of mixed Tryz.func100 rfl (by kernel_rfl) (by kernel_rfl) (by kernel_rfl)

/-! 101: slices.Clone[[]tabor/api.Rank,tabor/api.Rank] -/
def f101r0 : List SOper := [
 o 2 (.mv (.const (.slice none 0 0)))]
def f101r1 : List SOper := [
 o 3 (.mv (t 0)),
 o 4 (.eqn 1 false (t 3))]
def f101r2 : List SOper := [
 o 2 (.mv (.const (.slice none 0 0)))]
def f101r3 : List SOper := [
 o 5 (.bslice [] 0 [] []),
 o 6 (.mv (t 0)),
 o 7 (.app 2 24 [(.string ⟨#[]⟩), (.int .i64 0)] (t 5) (t 6)),
 o 2 (.mv (t 7))]
def f101 : SCode := (.seq (.ops f101r0) (.seq (.seq (.ops f101r1) (.cond (t 4) (.seq (.ops f101r2) .ret) .skip)) (.seq (.ops f101r3) .ret)))
theorem f101_calls : Sound Tryz.prog 101 8 f101 [.t 2] := sound_of mixed Tryz.func101 rfl (by kernel_rfl) (by kernel_rfl) (by kernel_rfl)

/-! 102: tabor/taborref07.Ahead -/
def f102r0 : List SOper := [
 o 2 (.box (t 0)),
 o 3 (.box (t 1)),
 o 4 (.mv (b false))]
def f102r1 : List SOper := [
 o 5 (.fa 1 (t 2)),
 o 6 (.ld1 (t 5)),
 o 7 (.fa 1 (t 3)),
 o 8 (.ld1 (t 7)),
 o 9 (.cmp .lss (t 6) (t 8)),
 o 10 (.mv (t 9)),
 n 11 10 (.fa 1 (t 2)),
 n 12 10 (.ld1 (t 11)),
 n 13 10 (.fa 1 (t 3)),
 n 14 10 (.ld1 (t 13)),
 n 15 10 (.cmp .eql (t 12) (t 14)),
 n 16 10 (.mv (t 15)),
 g 17 16 (.fa 0 (t 2)),
 g 18 16 (.ld1 (t 17)),
 g 19 16 (.fa 0 (t 3)),
 g 20 16 (.ld1 (t 19)),
 g 21 16 (.call 51 [(t 18), (t 20)]),
 n 22 10 (.pick (t 16) (t 21) (b false)),
 o 23 (.pick (t 10) (b true) (t 22)),
 o 4 (.mv (t 23))]
def f102 : SCode := (.seq (.ops f102r0) (.seq (.ops f102r1) .ret))
theorem f102_calls : Sound Tryz.prog 102 24 f102 [.t 4] := sound_of mixed Tryz.func102 rfl (by kernel_rfl) (by kernel_rfl) (by kernel_rfl)

/-! 103: tabor/keys.gone -/
def f103r0 : List SOper := [
 o 2 (.box (t 0)),
 o 4 (.mv (b false))]
def f103r1 : List SOper := [
 o 5 (.fa 5 (t 2)),
 o 6 (.ld1 (t 5)),
 o 7 (.mv (t 6)),
 g 8 7 (.fa 6 (t 2)),
 g 9 7 (.ld1 (t 8)),
 g 10 7 (.mv (t 1)),
 g 11 7 (.cmp .leq (t 9) (t 10)),
 o 12 (.pick (t 7) (t 11) (b false)),
 o 4 (.mv (t 12))]
def f103 : SCode := (.seq (.ops f103r0) (.seq (.ops f103r1) .ret))
theorem f103_calls : Sound Tryz.prog 103 13 f103 [.t 4] := sound_of mixed Tryz.func103 rfl (by kernel_rfl) (by kernel_rfl) (by kernel_rfl)

/-! 104: tabor/keys.rules -/
def f104r0 : List SOper := [
 o 0 (.mv (.const (.map none)))]
def f104r1 : List SOper := [
 o 1 (.mkm),
 o 2 (.build [(.bool false), (.bool false), (.bool false), (.int .i64 0), (.bool false), .nilFunc] [(5, 1)] [(u 147)]),
 q (.mup (.int .i64) (t 1) (i 1) (t 2)),
 o 3 (.build [(.bool false), (.bool false), (.bool false), (.int .i64 0), (.bool false), .nilFunc] [(1, 1), (4, 1), (5, 1)] [(b true), (b true), (u 148)]),
 q (.mup (.int .i64) (t 1) (i 2) (t 3)),
 o 4 (.build [(.bool false), (.bool false), (.bool false), (.int .i64 0), (.bool false), .nilFunc] [(2, 1), (5, 1)] [(b true), (u 149)]),
 q (.mup (.int .i64) (t 1) (i 3) (t 4)),
 o 5 (.build [(.bool false), (.bool false), (.bool false), (.int .i64 0), (.bool false), .nilFunc] [(5, 1)] [(u 150)]),
 q (.mup (.int .i64) (t 1) (i 4) (t 5)),
 o 6 (.build [(.bool false), (.bool false), (.bool false), (.int .i64 0), (.bool false), .nilFunc] [(0, 1), (1, 1), (3, 1), (4, 1), (5, 1)] [(b true), (b true), (i 2), (b true), (u 151)]),
 q (.mup (.int .i64) (t 1) (i 5) (t 6)),
 o 7 (.build [(.bool false), (.bool false), (.bool false), (.int .i64 0), (.bool false), .nilFunc] [(0, 1), (3, 1), (5, 1)] [(b true), (i 2), (u 152)]),
 q (.mup (.int .i64) (t 1) (i 6) (t 7)),
 o 8 (.build [(.bool false), (.bool false), (.bool false), (.int .i64 0), (.bool false), .nilFunc] [(1, 1), (3, 1), (4, 1), (5, 1)] [(b true), (i 3), (b true), (u 153)]),
 q (.mup (.int .i64) (t 1) (i 7) (t 8)),
 o 9 (.build [(.bool false), (.bool false), (.bool false), (.int .i64 0), (.bool false), .nilFunc] [(1, 1), (3, 1), (4, 1), (5, 1)] [(b true), (i 3), (b true), (u 155)]),
 q (.mup (.int .i64) (t 1) (i 8) (t 9)),
 o 10 (.build [(.bool false), (.bool false), (.bool false), (.int .i64 0), (.bool false), .nilFunc] [(3, 1), (5, 1)] [(i 3), (u 156)]),
 q (.mup (.int .i64) (t 1) (i 9) (t 10)),
 o 11 (.build [(.bool false), (.bool false), (.bool false), (.int .i64 0), (.bool false), .nilFunc] [(3, 1), (5, 1)] [(i 3), (u 157)]),
 q (.mup (.int .i64) (t 1) (i 10) (t 11)),
 o 12 (.build [(.bool false), (.bool false), (.bool false), (.int .i64 0), (.bool false), .nilFunc] [(1, 1), (2, 1), (3, 1), (5, 1)] [(b true), (b true), (i 3), (u 158)]),
 q (.mup (.int .i64) (t 1) (i 11) (t 12)),
 o 13 (.build [(.bool false), (.bool false), (.bool false), (.int .i64 0), (.bool false), .nilFunc] [(0, 1), (3, 1), (4, 1), (5, 1)] [(b true), (i 4), (b true), (u 159)]),
 q (.mup (.int .i64) (t 1) (i 12) (t 13)),
 o 14 (.build [(.bool false), (.bool false), (.bool false), (.int .i64 0), (.bool false), .nilFunc] [(0, 1), (3, 1), (5, 1)] [(b true), (i 4), (u 160)]),
 q (.mup (.int .i64) (t 1) (i 13) (t 14)),
 o 15 (.build [(.bool false), (.bool false), (.bool false), (.int .i64 0), (.bool false), .nilFunc] [(0, 1), (2, 1), (3, 1), (4, 1), (5, 1)] [(b true), (b true), (i 5), (b true), (u 161)]),
 q (.mup (.int .i64) (t 1) (i 14) (t 15)),
 o 16 (.build [(.bool false), (.bool false), (.bool false), (.int .i64 0), (.bool false), .nilFunc] [(0, 1), (3, 1), (5, 1)] [(b true), (i 5), (u 162)]),
 q (.mup (.int .i64) (t 1) (i 15) (t 16)),
 o 17 (.mv (t 1)),
 o 0 (.mv (t 17))]
def f104 : SCode := (.seq (.ops f104r0) (.seq (.ops f104r1) .ret))
theorem f104_calls : Sound Tryz.prog 104 18 f104 [.t 0] := sound_of mixed Tryz.func104 rfl (by kernel_rfl) (by kernel_rfl) (by kernel_rfl)

/-! 105: internal/strconv.ParseUint: not simplified -/
/-! 106: strconv.syntaxError: not simplified -/
/-! 107: strconv.rangeError: not simplified -/
/-! 108: strconv.baseError: not simplified -/
/-! 109: strconv.bitSizeError: not simplified -/
/-! 110: internal/strconv.small: not simplified -/
/-! 111: internal/strconv.numDigits: not simplified -/
/-! 112: internal/strconv.formatBase10: not simplified -/
/-! 113: internal/strconv.formatBits: not simplified -/
/-! 114: slices.AppendSeq[[]string,string]: not simplified -/
/-! 115: slices.pdqsortOrdered[string]: not simplified -/
/-! 116: math/bits.Len: not simplified -/
/-! 117: tabor/basics.must: not simplified -/
/-! 118: tabor/basics.plus: not simplified -/
/-! 119: (*tabor/basics.asked).put: not simplified -/
/-! 120: (*tabor/basics.asked).add: not simplified -/
/-! 121: tabor/basics.ok: not simplified -/
/-! 122: (*tabor/basics.asked).text: not simplified -/
/-! 123: tabor/basics.text: not simplified -/
/-! 124: tabor/basics.number: not simplified -/
/-! 125: tabor/basics.step$1: not simplified -/
/-! 126: tabor/basics.list: not simplified -/
/-! 127: tabor/basics.minus: not simplified -/
/-! 128: (*tabor/keys.Keys).Names -/
def f128r0 : List SOper := [
 o 3 (.box (t 1)),
 o 4 (.mv (.const (.slice none 0 0)))]
def f128r1 : List SOper := [
 o 5 (.new [(.slice none 0 0)])]
def f128r2 : List SOper := [
 o 8 (.mv (t 0)),
 o 9 (.call 87 [(t 8)])]
def f128r3 : List SOper := [
 o 6 (.mv (t 10))]
def f128r4 : List SOper := [
 o 7 (.new [(.int .i64 0), (.string ⟨#[]⟩), (.slice none 0 0), (.slice none 0 0), (.slice none 0 0), (.bool false), (.int .i64 0)]),
 q (.st 7 (t 7) (t 11))]
def f128r5 : List SOper := [
 o 12 (.ldn 7 (t 7)),
 o 13 (.ld1 (t 3)),
 o 14 (.call 103 [(t 12), (t 13)]),
 o 15 (.un .not (t 14))]
def f128r6 : List SOper := [
 o 16 (.ld1 (t 5)),
 o 17 (.mv (t 6)),
 o 18 (.bslice [(.string ⟨#[]⟩)] 1 [(0, 1)] [(t 17)]),
 o 19 (.app 1 16 [(.string ⟨#[]⟩)] (t 16) (t 18)),
 q (.st 1 (t 5) (t 19))]
def f128a7 : SCode := (.seq (.ops f128r3) (.ops f128r4))
def f128b7 : SCode := (.block 1 (.seq (.ops f128r5) (.cond (t 15) (.ops f128r6) .skip)))
def f128r8 : List SOper := [
 o 20 (.ld1 (t 5)),
 o 4 (.mv (t 20))]
def f128 : SCode := (.seq (.ops f128r0) (.seq (.ops f128r1) (.seq (.seq (.ops f128r2) (.block 0 (.rangeF (t 9) [10, 11] f128a7 f128b7))) (.seq (.ops f128r8) .ret))))
theorem f128_calls : Sound Tryz.prog 128 21 f128 [.t 4] := sound_of mixed Tryz.func128 rfl (by kernel_rfl) (by kernel_rfl) (by kernel_rfl)

/-! 129: (*tabor/keys.Keys).Size -/
def f129r0 : List SOper := [
 o 4 (.mv (i 0))]
def f129r1 : List SOper := [
 o 5 (.mv (t 0)),
 o 6 (.mv (t 1)),
 o 7 (.call 128 [(t 5), (t 6)]),
 o 8 (.len (t 7)),
 o 4 (.mv (t 8))]
def f129 : SCode := (.seq (.ops f129r0) (.seq (.ops f129r1) .ret))
theorem f129_calls : Sound Tryz.prog 129 9 f129 [.t 4] := sound_of mixed Tryz.func129 rfl (by kernel_rfl) (by kernel_rfl) (by kernel_rfl)

/-! 130: slices.Equal[[]tabor/api.Pair,tabor/api.Pair] -/
def f130r0 : List SOper := [
 o 4 (.mv (b false))]
def f130r1 : List SOper := [
 o 6 (.mv (t 0)),
 o 7 (.len (t 6)),
 o 8 (.mv (t 1)),
 o 9 (.len (t 8)),
 o 10 (.cmp .neq (t 7) (t 9))]
def f130r2 : List SOper := [
 o 4 (.mv (b false))]
def f130r3 : List SOper := [
 o 11 (.mv (t 0)),
 o 12 (.len (t 11)),
 o 13 (.mv (i 0))]
def f130r4 : List SOper := [
 o 14 (.cmp .lss (t 13) (t 12))]
def f130r5 : List SOper := [
 o 15 (.mv (t 13)),
 o 5 (.mv (t 15))]
def f130r6 : List SOper := [
 o 16 (.mv (t 0)),
 o 17 (.mv (t 5)),
 o 18 (.ixs 2 (t 16) (t 17)),
 o 19 (.ldn 2 (t 18)),
 o 20 (.mv (t 1)),
 o 21 (.mv (t 5)),
 o 22 (.ixs 2 (t 20) (t 21)),
 o 23 (.ldn 2 (t 22)),
 o 24 (.eqa true [.str, .str] (t 19) (t 23))]
def f130r7 : List SOper := [
 o 4 (.mv (b false))]
def f130r8 : List SOper := [
 o 25 (.ar .add (t 13) (i 1)),
 o 13 (.mv (t 25))]
def f130l9 : SCode := (.seq (.ops f130r4) (.seq (.cond (t 14) .skip (.exit 0)) (.seq (.block 1 (.seq (.ops f130r5) (.seq (.ops f130r6) (.cond (t 24) (.seq (.ops f130r7) .ret) .skip)))) (.ops f130r8))))
def f130r10 : List SOper := [
 o 4 (.mv (b true))]
def f130 : SCode := (.seq (.ops f130r0) (.seq (.seq (.ops f130r1) (.cond (t 10) (.seq (.ops f130r2) .ret) .skip)) (.seq (.seq (.ops f130r3) (.block 0 (.loop f130l9))) (.seq (.ops f130r10) .ret))))
theorem f130_calls : Sound Tryz.prog 130 26 f130 [.t 4] := sound_of mixed Tryz.func130 rfl (by kernel_rfl) (by kernel_rfl) (by kernel_rfl)

/-! 131: slices.Equal[[]string,string] -/
def f131r0 : List SOper := [
 o 4 (.mv (b false))]
def f131r1 : List SOper := [
 o 6 (.mv (t 0)),
 o 7 (.len (t 6)),
 o 8 (.mv (t 1)),
 o 9 (.len (t 8)),
 o 10 (.cmp .neq (t 7) (t 9))]
def f131r2 : List SOper := [
 o 4 (.mv (b false))]
def f131r3 : List SOper := [
 o 11 (.mv (t 0)),
 o 12 (.len (t 11)),
 o 13 (.mv (i 0))]
def f131r4 : List SOper := [
 o 14 (.cmp .lss (t 13) (t 12))]
def f131r5 : List SOper := [
 o 15 (.mv (t 13)),
 o 5 (.mv (t 15))]
def f131r6 : List SOper := [
 o 16 (.mv (t 0)),
 o 17 (.mv (t 5)),
 o 18 (.ixs 1 (t 16) (t 17)),
 o 19 (.ld1 (t 18)),
 o 20 (.mv (t 1)),
 o 21 (.mv (t 5)),
 o 22 (.ixs 1 (t 20) (t 21)),
 o 23 (.ld1 (t 22)),
 o 24 (.cmp .neq (t 19) (t 23))]
def f131r7 : List SOper := [
 o 4 (.mv (b false))]
def f131r8 : List SOper := [
 o 25 (.ar .add (t 13) (i 1)),
 o 13 (.mv (t 25))]
def f131l9 : SCode := (.seq (.ops f131r4) (.seq (.cond (t 14) .skip (.exit 0)) (.seq (.block 1 (.seq (.ops f131r5) (.seq (.ops f131r6) (.cond (t 24) (.seq (.ops f131r7) .ret) .skip)))) (.ops f131r8))))
def f131r10 : List SOper := [
 o 4 (.mv (b true))]
def f131 : SCode := (.seq (.ops f131r0) (.seq (.seq (.ops f131r1) (.cond (t 10) (.seq (.ops f131r2) .ret) .skip)) (.seq (.seq (.ops f131r3) (.block 0 (.loop f131l9))) (.seq (.ops f131r10) .ret))))
theorem f131_calls : Sound Tryz.prog 131 26 f131 [.t 4] := sound_of mixed Tryz.func131 rfl (by kernel_rfl) (by kernel_rfl) (by kernel_rfl)

/-! 132: slices.Equal[[]tabor/api.Rank,tabor/api.Rank] -/
def f132r0 : List SOper := [
 o 4 (.mv (b false))]
def f132r1 : List SOper := [
 o 6 (.mv (t 0)),
 o 7 (.len (t 6)),
 o 8 (.mv (t 1)),
 o 9 (.len (t 8)),
 o 10 (.cmp .neq (t 7) (t 9))]
def f132r2 : List SOper := [
 o 4 (.mv (b false))]
def f132r3 : List SOper := [
 o 11 (.mv (t 0)),
 o 12 (.len (t 11)),
 o 13 (.mv (i 0))]
def f132r4 : List SOper := [
 o 14 (.cmp .lss (t 13) (t 12))]
def f132r5 : List SOper := [
 o 15 (.mv (t 13)),
 o 5 (.mv (t 15))]
def f132r6 : List SOper := [
 o 16 (.mv (t 0)),
 o 17 (.mv (t 5)),
 o 18 (.ixs 2 (t 16) (t 17)),
 o 19 (.ldn 2 (t 18)),
 o 20 (.mv (t 1)),
 o 21 (.mv (t 5)),
 o 22 (.ixs 2 (t 20) (t 21)),
 o 23 (.ldn 2 (t 22)),
 o 24 (.eqa true [.str, (.int .i64)] (t 19) (t 23))]
def f132r7 : List SOper := [
 o 4 (.mv (b false))]
def f132r8 : List SOper := [
 o 25 (.ar .add (t 13) (i 1)),
 o 13 (.mv (t 25))]
def f132l9 : SCode := (.seq (.ops f132r4) (.seq (.cond (t 14) .skip (.exit 0)) (.seq (.block 1 (.seq (.ops f132r5) (.seq (.ops f132r6) (.cond (t 24) (.seq (.ops f132r7) .ret) .skip)))) (.ops f132r8))))
def f132r10 : List SOper := [
 o 4 (.mv (b true))]
def f132 : SCode := (.seq (.ops f132r0) (.seq (.seq (.ops f132r1) (.cond (t 10) (.seq (.ops f132r2) .ret) .skip)) (.seq (.seq (.ops f132r3) (.block 0 (.loop f132l9))) (.seq (.ops f132r10) .ret))))
theorem f132_calls : Sound Tryz.prog 132 26 f132 [.t 4] := sound_of mixed Tryz.func132 rfl (by kernel_rfl) (by kernel_rfl) (by kernel_rfl)

/-! 133: (*tabor/taborref08.Asked).set: not simplified -/
/-! 134: (*tabor/taborref08.Asked).text: not simplified -/
/-! 135: (*tabor/taborref08.Asked).count: not simplified -/
/-! 136: tabor/taborref08.Status: not simplified -/
/-! 137: (*tabor/taborref08.Asked).Num: not simplified -/
/-! 138: (*tabor/taborref08.Asked).by: not simplified -/
/-! 139: (*tabor/taborref08.Asked).texts: not simplified -/
/-! 140: (*tabor/taborref08.Asked).times: not simplified -/
/-! 141: (*tabor/taborref08.Asked).whole: not simplified -/
/-! 142: (*tabor/keys.Keys).All$1 -/
def f142r0 : List SOper := [
 o 6 (.ld1 (t 1)),
 o 7 (.call 52 [(t 6)])]
def f142r1 : List SOper := [
 o 8 (.ld1 (t 1)),
 o 9 (.nilck (t 8)),
 o 10 (.fa 0 (t 9)),
 o 11 (.ld1 (t 10)),
 o 12 (.nilck (t 11)),
 o 13 (.fa 0 (t 12)),
 o 14 (.ld1 (t 13)),
 o 15 (.call 143 [(t 14)]),
 o 16 (.call 34 [(t 15)]),
 o 17 (.len (t 16)),
 o 18 (.mv (i 0))]
def f142r2 : List SOper := [
 o 19 (.cmp .lss (t 18) (t 17))]
def f142r3 : List SOper := [
 o 20 (.ixs 1 (t 16) (t 18)),
 o 21 (.ld1 (t 20)),
 o 4 (.mv (t 21))]
def f142r4 : List SOper := [
 o 22 (.ld1 (t 1)),
 o 23 (.nilck (t 22)),
 o 24 (.fa 0 (t 23)),
 o 25 (.ld1 (t 24)),
 o 26 (.nilck (t 25)),
 o 27 (.fa 0 (t 26)),
 o 28 (.ld1 (t 27)),
 o 29 (.mv (t 4)),
 o 30 (.look .str (.pointer none) false (t 28) (t 29)),
 o 5 (.mv (t 30))]
def f142r5 : List SOper := [
 o 31 (.mv (t 5)),
 o 32 (.eqn 0 true (t 31)),
 o 33 (.mv (t 32)),
 g 34 33 (.mv (t 0)),
 g 35 33 (.mv (t 4)),
 g 36 33 (.mv (t 5)),
 g 37 33 (.nilck (t 36)),
 g 38 33 (.ldn 7 (t 37)),
 g 39 33 (.call 46 [(t 38)]),
 g 40 33 (.callv (t 34) [(t 35), (t 39)]),
 g 41 33 (.un .not (t 40)),
 o 42 (.pick (t 33) (t 41) (b false))]
def f142r6 : List SOper := [
 o 43 (.ar .add (t 18) (i 1)),
 o 18 (.mv (t 43))]
def f142l7 : SCode := (.seq (.ops f142r2) (.seq (.cond (t 19) .skip (.exit 0)) (.seq (.block 1 (.seq (.ops f142r3) (.seq (.ops f142r4) (.seq (.ops f142r5) (.cond (t 42) .ret .skip))))) (.ops f142r6))))
def f142 : SCode := (.seq (.seq (.ops f142r0) (.cond (t 7) .ret .skip)) (.seq (.ops f142r1) (.block 0 (.loop f142l7))))
theorem f142_calls : Sound Tryz.prog 142 44 f142 [] := sound_of mixed Tryz.func142 rfl (by kernel_rfl) (by kernel_rfl) (by kernel_rfl)

/-! 143: maps.Keys[map[string]*tabor/api.Thing,string,*tabor/api.Thing] -/
def f143r0 : List SOper := [
 o 1 (.box (t 0)),
 o 2 (.mv (.const .nilFunc))]
def f143r1 : List SOper := [
 o 3 (.fn 191 [] [(t 1)]),
 o 2 (.mv (t 3))]
def f143 : SCode := (.seq (.ops f143r0) (.seq (.ops f143r1) .ret))
theorem f143_calls : Sound Tryz.prog 143 4 f143 [.t 2] := sound_of mixed Tryz.func143 rfl (by kernel_rfl) (by kernel_rfl) (by kernel_rfl)

/-! 144: slices.ContainsFunc[[]string,string] -/
def f144r0 : List SOper := [
 o 4 (.mv (b false))]
def f144r1 : List SOper := [
 o 5 (.mv (t 0)),
 o 6 (.mv (t 1)),
 o 7 (.call 192 [(t 5), (t 6)]),
 o 8 (.cmp .geq (t 7) (i 0)),
 o 4 (.mv (t 8))]
def f144 : SCode := (.seq (.ops f144r0) (.seq (.ops f144r1) .ret))
theorem f144_calls : Sound Tryz.prog 144 9 f144 [.t 4] := sound_of mixed Tryz.func144 rfl (by kernel_rfl) (by kernel_rfl) (by kernel_rfl)

/-! 145: tabor/keys.short$1 -/
def f145r0 : List SOper := [
 o 2 (.mv (b false))]
def f145r1 : List SOper := [
 o 3 (.mv (t 0)),
 o 4 (.lens (t 3)),
 o 5 (.cmp .gtr (t 4) (i 1048576)),
 o 2 (.mv (t 5))]
def f145 : SCode := (.seq (.ops f145r0) (.seq (.ops f145r1) .ret))
theorem f145_calls : Sound Tryz.prog 145 6 f145 [.t 2] := sound_of mixed Tryz.func145 rfl (by kernel_rfl) (by kernel_rfl) (by kernel_rfl)

/-! 146: internal/bytealg.CompareString -/
def f146r0 : List SOper := [
 o 4 (.mv (i 0))]
def f146r1 : List SOper := [
 o 5 (.mv (t 0)),
 o 6 (.mv (t 1)),
 o 7 (.callx 193 [(t 5), (t 6)]),
 o 4 (.mv (t 7))]
def f146 : SCode := (.seq (.ops f146r0) (.seq (.ops f146r1) .ret))
theorem f146_calls : Sound Tryz.prog 146 8 f146 [.t 4] := sound_of mixed Tryz.func146 rfl (by kernel_rfl) (by kernel_rfl) (by kernel_rfl)

/-! 147: tabor/keys.rules$1 -/
def f147r0 : List SOper := [
 o 3 (.box (t 1)),
 o 4 (.mv (i 0))]
def f147r1 : List SOper := [
 o 5 (.mv (t 0)),
 o 6 (.build [(.int .i64 0), (.string ⟨#[]⟩), (.slice none 0 0), (.slice none 0 0), (.slice none 0 0), (.bool false), (.int .i64 0)] [] []),
 o 7 (.nilck (t 5)),
 q (.st 7 (t 7) (t 6))]
def f147r2 : List SOper := [
 o 4 (.mv (i 0))]
def f147 : SCode := (.seq (.ops f147r0) (.seq (.ops f147r1) (.seq (.ops f147r2) .ret)))
theorem f147_calls : Sound Tryz.prog 147 8 f147 [.t 4] := sound_of mixed Tryz.func147 rfl (by kernel_rfl) (by kernel_rfl) (by kernel_rfl)

/-! 148: tabor/keys.rules$2 -/
def f148r0 : List SOper := [
 o 3 (.box (t 1)),
 o 4 (.mv (i 0))]
def f148r1 : List SOper := [
 o 5 (.mv (t 0)),
 o 6 (.fa 3 (t 3)),
 o 7 (.ld1 (t 6)),
 o 8 (.build [(.int .i64 0), (.string ⟨#[]⟩), (.slice none 0 0), (.slice none 0 0), (.slice none 0 0), (.bool false), (.int .i64 0)] [(0, 1), (1, 1)] [(i 1), (t 7)]),
 o 9 (.nilck (t 5)),
 q (.st 7 (t 9) (t 8))]
def f148r2 : List SOper := [
 o 4 (.mv (i 0))]
def f148 : SCode := (.seq (.ops f148r0) (.seq (.ops f148r1) (.seq (.ops f148r2) .ret)))
theorem f148_calls : Sound Tryz.prog 148 10 f148 [.t 4] := sound_of mixed Tryz.func148 rfl (by kernel_rfl) (by kernel_rfl) (by kernel_rfl)

/-! 149: tabor/keys.rules$3 -/
def f149r0 : List SOper := [
 o 3 (.box (t 1)),
 o 4 (.mv (i 0))]
def f149p1 : List SOper := [
 o 5 (.mv (t 0)),
 o 6 (.mv (t 0)),
 o 7 (.fa 4 (t 3)),
 o 9 (.nilck (t 5)),
 o 10 (.fa 5 (t 9))]
def f149r1 : List SOper := [
 o 8 (.ld1 (t 7)),
 q (.st 1 (t 10) (b true)),
 o 11 (.nilck (t 6)),
 o 12 (.fa 6 (t 11)),
 q (.st 1 (t 12) (t 8))]
def f149s1 : List SOper := [
 q (.st 1 (t 10) (b true)),
 o 8 (.ld1 (t 7)),
 o 11 (.nilck (t 6)),
 o 12 (.fa 6 (t 11)),
 q (.st 1 (t 12) (t 8))]
def f149r2 : List SOper := [
 o 4 (.mv (i 0))]
def f149 : SCode := (.seq (.ops f149r0) (.seq (.two f149p1 f149r1 f149s1) (.seq (.ops f149r2) .ret)))
theorem f149_calls : Sound Tryz.prog 149 13 f149 [.t 4] := sound_of mixed Tryz.func149 rfl (by kernel_rfl) (by kernel_rfl) (by kernel_rfl)

/-! 150: tabor/keys.rules$4 -/
def f150r0 : List SOper := [
 o 3 (.box (t 1)),
 o 4 (.mv (i 0))]
def f150r1 : List SOper := [
 o 5 (.mv (t 0)),
 o 6 (.mv (t 0)),
 o 7 (.nilck (t 5)),
 o 8 (.fa 5 (t 7)),
 q (.st 1 (t 8) (b false)),
 o 9 (.nilck (t 6)),
 o 10 (.fa 6 (t 9)),
 q (.st 1 (t 10) (i 0))]
def f150r2 : List SOper := [
 o 4 (.mv (i 0))]
def f150 : SCode := (.seq (.ops f150r0) (.seq (.ops f150r1) (.seq (.ops f150r2) .ret)))
theorem f150_calls : Sound Tryz.prog 150 11 f150 [.t 4] := sound_of mixed Tryz.func150 rfl (by kernel_rfl) (by kernel_rfl) (by kernel_rfl)

/-! 151: tabor/keys.hash -/
def f151r0 : List SOper := [
 o 3 (.box (t 1)),
 o 4 (.mv (i 0))]
def f151r1 : List SOper := [
 o 8 (.mv (t 0)),
 o 9 (.nilck (t 8)),
 o 10 (.fa 2 (t 9)),
 o 11 (.ld1 (t 10)),
 o 12 (.fa 2 (t 3)),
 o 13 (.ld1 (t 12)),
 o 14 (.call 194 [(t 11), (u 195), (t 13)]),
 o 7 (.mv (t 14)),
 o 15 (.ext (t 7) 0),
 o 16 (.ext (t 7) 1),
 o 5 (.mv (t 15)),
 o 6 (.mv (t 16))]
def f151r2 : List SOper := [
 o 17 (.mv (t 6)),
 o 18 (.un .not (t 17))]
def f151r3 : List SOper := [
 o 19 (.mv (t 0)),
 o 20 (.mv (t 0)),
 o 21 (.nilck (t 20)),
 o 22 (.fa 2 (t 21)),
 o 23 (.ld1 (t 22)),
 o 24 (.mv (t 5)),
 o 25 (.fa 2 (t 3)),
 o 26 (.ld1 (t 25)),
 o 27 (.build [(.string ⟨#[]⟩), (.string ⟨#[]⟩)] [(0, 1)] [(t 26)]),
 o 28 (.bslice [(.string ⟨#[]⟩), (.string ⟨#[]⟩)] 1 [(0, 2)] [(t 27)]),
 o 29 (.call 196 [(t 23), (t 24), (t 28)]),
 o 30 (.nilck (t 19)),
 o 31 (.fa 2 (t 30)),
 q (.st 1 (t 31) (t 29))]
def f151r4 : List SOper := [
 o 32 (.mv (t 0)),
 o 33 (.nilck (t 32)),
 o 34 (.fa 2 (t 33)),
 o 35 (.ld1 (t 34)),
 o 36 (.mv (t 5)),
 o 37 (.fa 3 (t 3)),
 o 38 (.ld1 (t 37)),
 o 39 (.ixs 2 (t 35) (t 36)),
 o 40 (.fa 1 (t 39)),
 q (.st 1 (t 40) (t 38))]
def f151r5 : List SOper := [
 o 4 (.mv (i 0))]
def f151 : SCode := (.seq (.ops f151r0) (.seq (.ops f151r1) (.seq (.seq (.ops f151r2) (.cond (t 18) (.ops f151r3) .skip)) (.seq (.ops f151r4) (.seq (.ops f151r5) .ret)))))
theorem f151_calls : Sound Tryz.prog 151 41 f151 [.t 4] := sound_of mixed Tryz.func151 rfl (by kernel_rfl) (by kernel_rfl) (by kernel_rfl)

/-! 152: tabor/keys.unhash -/
def f152r0 : List SOper := [
 o 3 (.box (t 1)),
 o 4 (.mv (i 0))]
def f152r1 : List SOper := [
 o 8 (.mv (t 0)),
 o 9 (.nilck (t 8)),
 o 10 (.fa 2 (t 9)),
 o 11 (.ld1 (t 10)),
 o 12 (.fa 2 (t 3)),
 o 13 (.ld1 (t 12)),
 o 14 (.call 194 [(t 11), (u 195), (t 13)]),
 o 7 (.mv (t 14)),
 o 15 (.ext (t 7) 0),
 o 16 (.ext (t 7) 1),
 o 5 (.mv (t 15)),
 o 6 (.mv (t 16))]
def f152r2 : List SOper := [
 o 17 (.mv (t 6)),
 o 18 (.un .not (t 17))]
def f152r3 : List SOper := [
 o 4 (.mv (i 5))]
def f152r4 : List SOper := [
 o 19 (.mv (t 0)),
 o 20 (.mv (t 0)),
 o 21 (.nilck (t 20)),
 o 22 (.fa 2 (t 21)),
 o 23 (.ld1 (t 22)),
 o 24 (.mv (t 5)),
 o 25 (.mv (t 5)),
 o 26 (.ar .add (t 25) (i 1)),
 o 27 (.call 197 [(t 23), (t 24), (t 26)]),
 o 28 (.nilck (t 19)),
 o 29 (.fa 2 (t 28)),
 q (.st 1 (t 29) (t 27))]
def f152r5 : List SOper := [
 o 4 (.mv (i 0))]
def f152 : SCode := (.seq (.ops f152r0) (.seq (.ops f152r1) (.seq (.seq (.ops f152r2) (.cond (t 18) (.seq (.ops f152r3) .ret) .skip)) (.seq (.ops f152r4) (.seq (.ops f152r5) .ret)))))
theorem f152_calls : Sound Tryz.prog 152 30 f152 [.t 4] := sound_of mixed Tryz.func152 rfl (by kernel_rfl) (by kernel_rfl) (by kernel_rfl)

/-! 153: tabor/keys.rules$5 -/
def f153r0 : List SOper := [
 o 3 (.box (t 1)),
 o 4 (.mv (i 0))]
def f153r1 : List SOper := [
 o 5 (.mv (t 0)),
 o 6 (.mv (t 0)),
 o 7 (.nilck (t 6)),
 o 8 (.fa 3 (t 7)),
 o 9 (.ld1 (t 8)),
 o 10 (.fa 3 (t 3)),
 o 11 (.ld1 (t 10)),
 o 12 (.bslice [(.string ⟨#[]⟩)] 1 [(0, 1)] [(t 11)]),
 o 13 (.call 154 [(t 9), (i 0), (t 12)]),
 o 14 (.nilck (t 5)),
 o 15 (.fa 3 (t 14)),
 q (.st 1 (t 15) (t 13))]
def f153r2 : List SOper := [
 o 4 (.mv (i 0))]
def f153 : SCode := (.seq (.ops f153r0) (.seq (.ops f153r1) (.seq (.ops f153r2) .ret)))
theorem f153_calls : Sound Tryz.prog 153 16 f153 [.t 4] := sound_of mixed Tryz.func153 rfl (by kernel_rfl) (by kernel_rfl) (by kernel_rfl)

/-! 154: slices.Insert[[]string,string] -/
def f154r0 : List SOper := [
 o 6 (.mv (.const (.slice none 0 0)))]
def f154r1 : List SOper := [
 o 10 (.mv (t 0)),
 o 11 (.mv (t 1)),
 o 12 (.slc 1 (t 10) (some (t 11)) none)]
def f154r2 : List SOper := [
 o 13 (.mv (t 2)),
 o 14 (.len (t 13)),
 o 7 (.mv (t 14))]
def f154r3 : List SOper := [
 o 15 (.mv (t 7)),
 o 16 (.cmp .eql (t 15) (i 0))]
def f154r4 : List SOper := [
 o 17 (.mv (t 0)),
 o 6 (.mv (t 17))]
def f154r5 : List SOper := [
 o 18 (.mv (t 0)),
 o 19 (.len (t 18)),
 o 8 (.mv (t 19))]
def f154r6 : List SOper := [
 o 20 (.mv (t 1)),
 o 21 (.mv (t 8)),
 o 22 (.cmp .eql (t 20) (t 21))]
def f154r7 : List SOper := [
 o 23 (.mv (t 0)),
 o 24 (.mv (t 2)),
 o 25 (.app 1 16 [(.string ⟨#[]⟩)] (t 23) (t 24)),
 o 6 (.mv (t 25))]
def f154r8 : List SOper := [
 o 26 (.mv (t 8)),
 o 27 (.mv (t 7)),
 o 28 (.ar .add (t 26) (t 27)),
 o 29 (.mv (t 0)),
 o 30 (.capc (t 29)),
 o 31 (.cmp .gtr (t 28) (t 30))]
def f154r9 : List SOper := [
 o 32 (.mv (t 0)),
 o 33 (.mv (t 1)),
 o 34 (.slc 1 (t 32) none (some (t 33))),
 o 35 (.mv (t 8)),
 o 36 (.mv (t 7)),
 o 37 (.ar .add (t 35) (t 36)),
 o 38 (.mv (t 1)),
 o 39 (.ar .sub (t 37) (t 38)),
 o 40 (.appz 1 16 [(.string ⟨#[]⟩)] (t 34) (t 39)),
 o 9 (.mv (t 40))]
def f154r10 : List SOper := [
 o 41 (.mv (t 9)),
 o 42 (.mv (t 1)),
 o 43 (.slc 1 (t 41) (some (t 42)) none),
 o 44 (.mv (t 2)),
 o 45 (.cpy 1 (t 43) (t 44))]
def f154r11 : List SOper := [
 o 46 (.mv (t 9)),
 o 47 (.mv (t 1)),
 o 48 (.mv (t 7)),
 o 49 (.ar .add (t 47) (t 48)),
 o 50 (.slc 1 (t 46) (some (t 49)) none),
 o 51 (.mv (t 0)),
 o 52 (.mv (t 1)),
 o 53 (.slc 1 (t 51) (some (t 52)) none),
 o 54 (.cpy 1 (t 50) (t 53))]
def f154r12 : List SOper := [
 o 55 (.mv (t 9)),
 o 6 (.mv (t 55))]
def f154r13 : List SOper := [
 o 56 (.mv (t 0)),
 o 57 (.mv (t 8)),
 o 58 (.mv (t 7)),
 o 59 (.ar .add (t 57) (t 58)),
 o 60 (.slc 1 (t 56) none (some (t 59))),
 o 0 (.mv (t 60))]
def f154r14 : List SOper := [
 o 61 (.mv (t 2)),
 o 62 (.mv (t 0)),
 o 63 (.mv (t 1)),
 o 64 (.mv (t 7)),
 o 65 (.ar .add (t 63) (t 64)),
 o 66 (.slc 1 (t 62) (some (t 65)) none),
 o 67 (.callx 198 [(t 61), (t 66)]),
 o 68 (.un .not (t 67))]
def f154r15 : List SOper := [
 o 69 (.mv (t 0)),
 o 70 (.mv (t 1)),
 o 71 (.mv (t 7)),
 o 72 (.ar .add (t 70) (t 71)),
 o 73 (.slc 1 (t 69) (some (t 72)) none),
 o 74 (.mv (t 0)),
 o 75 (.mv (t 1)),
 o 76 (.slc 1 (t 74) (some (t 75)) none),
 o 77 (.cpy 1 (t 73) (t 76))]
def f154r16 : List SOper := [
 o 78 (.mv (t 0)),
 o 79 (.mv (t 1)),
 o 80 (.slc 1 (t 78) (some (t 79)) none),
 o 81 (.mv (t 2)),
 o 82 (.cpy 1 (t 80) (t 81))]
def f154r17 : List SOper := [
 o 83 (.mv (t 0)),
 o 6 (.mv (t 83))]
def f154r18 : List SOper := [
 o 84 (.mv (t 0)),
 o 85 (.mv (t 8)),
 o 86 (.slc 1 (t 84) (some (t 85)) none),
 o 87 (.mv (t 2)),
 o 88 (.cpy 1 (t 86) (t 87))]
def f154r19 : List SOper := [
 o 89 (.mv (t 0)),
 o 90 (.mv (t 1)),
 o 91 (.slc 1 (t 89) (some (t 90)) none),
 o 92 (.mv (t 7)),
 o 93 (.call 199 [(t 91), (t 92)])]
def f154r20 : List SOper := [
 o 94 (.mv (t 0)),
 o 6 (.mv (t 94))]
def f154 : SCode := (.seq (.ops f154r0) (.seq (.ops f154r1) (.seq (.ops f154r2) (.seq (.seq (.ops f154r3) (.cond (t 16) (.seq (.ops f154r4) .ret) .skip)) (.seq (.ops f154r5) (.seq (.seq (.ops f154r6) (.cond (t 22) (.seq (.ops f154r7) .ret) .skip)) (.seq (.seq (.ops f154r8) (.cond (t 31) (.seq (.ops f154r9) (.seq (.ops f154r10) (.seq (.ops f154r11) (.seq (.ops f154r12) .ret)))) .skip)) (.seq (.ops f154r13) (.seq (.seq (.ops f154r14) (.cond (t 68) (.seq (.ops f154r15) (.seq (.ops f154r16) (.seq (.ops f154r17) .ret))) .skip)) (.seq (.ops f154r18) (.seq (.ops f154r19) (.seq (.ops f154r20) .ret))))))))))))
theorem f154_calls : Sound Tryz.prog 154 95 f154 [.t 6] := sound_of mixed Tryz.func154 rfl (by kernel_rfl) (by kernel_rfl) (by kernel_rfl)

/-! 155: tabor/keys.rules$6 -/
def f155r0 : List SOper := [
 o 3 (.box (t 1)),
 o 4 (.mv (i 0))]
def f155r1 : List SOper := [
 o 5 (.mv (t 0)),
 o 6 (.mv (t 0)),
 o 7 (.nilck (t 6)),
 o 8 (.fa 3 (t 7)),
 o 9 (.ld1 (t 8)),
 o 10 (.fa 3 (t 3)),
 o 11 (.ld1 (t 10)),
 o 12 (.bslice [(.string ⟨#[]⟩)] 1 [(0, 1)] [(t 11)]),
 o 13 (.app 1 16 [(.string ⟨#[]⟩)] (t 9) (t 12)),
 o 14 (.nilck (t 5)),
 o 15 (.fa 3 (t 14)),
 q (.st 1 (t 15) (t 13))]
def f155r2 : List SOper := [
 o 4 (.mv (i 0))]
def f155 : SCode := (.seq (.ops f155r0) (.seq (.ops f155r1) (.seq (.ops f155r2) .ret)))
theorem f155_calls : Sound Tryz.prog 155 16 f155 [.t 4] := sound_of mixed Tryz.func155 rfl (by kernel_rfl) (by kernel_rfl) (by kernel_rfl)

/-! 156: tabor/keys.rules$7 -/
def f156r0 : List SOper := [
 o 3 (.box (t 1)),
 o 4 (.mv (i 0))]
def f156r1 : List SOper := [
 o 5 (.mv (t 0)),
 o 6 (.mv (t 0)),
 o 7 (.nilck (t 6)),
 o 8 (.fa 3 (t 7)),
 o 9 (.ld1 (t 8)),
 o 10 (.slc 1 (t 9) (some (i 1)) none),
 o 11 (.nilck (t 5)),
 o 12 (.fa 3 (t 11)),
 q (.st 1 (t 12) (t 10))]
def f156r2 : List SOper := [
 o 4 (.mv (i 0))]
def f156 : SCode := (.seq (.ops f156r0) (.seq (.ops f156r1) (.seq (.ops f156r2) .ret)))
theorem f156_calls : Sound Tryz.prog 156 13 f156 [.t 4] := sound_of mixed Tryz.func156 rfl (by kernel_rfl) (by kernel_rfl) (by kernel_rfl)

/-! 157: tabor/keys.rules$8 -/
def f157r0 : List SOper := [
 o 3 (.box (t 1)),
 o 4 (.mv (i 0))]
def f157r1 : List SOper := [
 o 5 (.mv (t 0)),
 o 6 (.mv (t 0)),
 o 7 (.nilck (t 6)),
 o 8 (.fa 3 (t 7)),
 o 9 (.ld1 (t 8)),
 o 10 (.mv (t 0)),
 o 11 (.nilck (t 10)),
 o 12 (.fa 3 (t 11)),
 o 13 (.ld1 (t 12)),
 o 14 (.len (t 13)),
 o 15 (.ar .sub (t 14) (i 1)),
 o 16 (.slc 1 (t 9) none (some (t 15))),
 o 17 (.nilck (t 5)),
 o 18 (.fa 3 (t 17)),
 q (.st 1 (t 18) (t 16))]
def f157r2 : List SOper := [
 o 4 (.mv (i 0))]
def f157 : SCode := (.seq (.ops f157r0) (.seq (.ops f157r1) (.seq (.ops f157r2) .ret)))
theorem f157_calls : Sound Tryz.prog 157 19 f157 [.t 4] := sound_of mixed Tryz.func157 rfl (by kernel_rfl) (by kernel_rfl) (by kernel_rfl)

/-! 158: tabor/keys.at -/
def f158r0 : List SOper := [
 o 3 (.box (t 1)),
 o 4 (.mv (i 0))]
def f158r1 : List SOper := [
 o 5 (.fa 4 (t 3)),
 o 6 (.ld1 (t 5)),
 o 7 (.cmp .lss (t 6) (i 0)),
 o 8 (.mv (t 7)),
 n 9 8 (.fa 4 (t 3)),
 n 10 8 (.ld1 (t 9)),
 n 11 8 (.mv (t 0)),
 n 12 8 (.nilck (t 11)),
 n 13 8 (.fa 3 (t 12)),
 n 14 8 (.ld1 (t 13)),
 n 15 8 (.len (t 14)),
 n 16 8 (.cmp .geq (t 10) (t 15)),
 o 17 (.pick (t 8) (b true) (t 16))]
def f158r2 : List SOper := [
 o 4 (.mv (i 4))]
def f158r3 : List SOper := [
 o 18 (.mv (t 0)),
 o 19 (.nilck (t 18)),
 o 20 (.fa 3 (t 19)),
 o 21 (.ld1 (t 20)),
 o 22 (.fa 4 (t 3)),
 o 23 (.ld1 (t 22)),
 o 24 (.fa 3 (t 3)),
 o 25 (.ld1 (t 24)),
 o 26 (.ixs 1 (t 21) (t 23)),
 q (.st 1 (t 26) (t 25))]
def f158r4 : List SOper := [
 o 4 (.mv (i 0))]
def f158 : SCode := (.seq (.ops f158r0) (.seq (.seq (.ops f158r1) (.cond (t 17) (.seq (.ops f158r2) .ret) .skip)) (.seq (.ops f158r3) (.seq (.ops f158r4) .ret))))
theorem f158_calls : Sound Tryz.prog 158 27 f158 [.t 4] := sound_of mixed Tryz.func158 rfl (by kernel_rfl) (by kernel_rfl) (by kernel_rfl)

/-! 159: tabor/keys.add -/
def f159r0 : List SOper := [
 o 3 (.box (t 1)),
 o 4 (.mv (i 0))]
def f159r1 : List SOper := [
 o 8 (.mv (t 0)),
 o 9 (.nilck (t 8)),
 o 10 (.fa 3 (t 9)),
 o 11 (.ld1 (t 10)),
 o 12 (.fa 2 (t 3)),
 o 13 (.ld1 (t 12)),
 o 14 (.call 200 [(t 11), (u 201), (t 13)]),
 o 7 (.mv (t 14)),
 o 15 (.ext (t 7) 0),
 o 16 (.ext (t 7) 1),
 o 5 (.mv (t 15)),
 o 6 (.mv (t 16))]
def f159r2 : List SOper := [
 o 17 (.mv (t 6)),
 o 18 (.un .not (t 17))]
def f159r3 : List SOper := [
 o 19 (.mv (t 0)),
 o 20 (.mv (t 0)),
 o 21 (.nilck (t 20)),
 o 22 (.fa 3 (t 21)),
 o 23 (.ld1 (t 22)),
 o 24 (.mv (t 5)),
 o 25 (.fa 2 (t 3)),
 o 26 (.ld1 (t 25)),
 o 27 (.bslice [(.string ⟨#[]⟩)] 1 [(0, 1)] [(t 26)]),
 o 28 (.call 154 [(t 23), (t 24), (t 27)]),
 o 29 (.nilck (t 19)),
 o 30 (.fa 3 (t 29)),
 q (.st 1 (t 30) (t 28))]
def f159r4 : List SOper := [
 o 4 (.mv (i 0))]
def f159 : SCode := (.seq (.ops f159r0) (.seq (.seq (.ops f159r1) (.seq (.ops f159r2) (.cond (t 18) (.ops f159r3) .skip))) (.seq (.ops f159r4) .ret)))
theorem f159_calls : Sound Tryz.prog 159 31 f159 [.t 4] := sound_of mixed Tryz.func159 rfl (by kernel_rfl) (by kernel_rfl) (by kernel_rfl)

/-! 160: tabor/keys.remove -/
def f160r0 : List SOper := [
 o 3 (.box (t 1)),
 o 4 (.mv (i 0))]
def f160r1 : List SOper := [
 o 8 (.mv (t 0)),
 o 9 (.nilck (t 8)),
 o 10 (.fa 3 (t 9)),
 o 11 (.ld1 (t 10)),
 o 12 (.fa 2 (t 3)),
 o 13 (.ld1 (t 12)),
 o 14 (.call 200 [(t 11), (u 201), (t 13)]),
 o 7 (.mv (t 14)),
 o 15 (.ext (t 7) 0),
 o 16 (.ext (t 7) 1),
 o 5 (.mv (t 15)),
 o 6 (.mv (t 16))]
def f160r2 : List SOper := [
 o 17 (.mv (t 6)),
 o 18 (.un .not (t 17))]
def f160r3 : List SOper := [
 o 4 (.mv (i 5))]
def f160r4 : List SOper := [
 o 19 (.mv (t 0)),
 o 20 (.mv (t 0)),
 o 21 (.nilck (t 20)),
 o 22 (.fa 3 (t 21)),
 o 23 (.ld1 (t 22)),
 o 24 (.mv (t 5)),
 o 25 (.mv (t 5)),
 o 26 (.ar .add (t 25) (i 1)),
 o 27 (.call 202 [(t 23), (t 24), (t 26)]),
 o 28 (.nilck (t 19)),
 o 29 (.fa 3 (t 28)),
 q (.st 1 (t 29) (t 27))]
def f160r5 : List SOper := [
 o 4 (.mv (i 0))]
def f160 : SCode := (.seq (.ops f160r0) (.seq (.ops f160r1) (.seq (.seq (.ops f160r2) (.cond (t 18) (.seq (.ops f160r3) .ret) .skip)) (.seq (.ops f160r4) (.seq (.ops f160r5) .ret)))))
theorem f160_calls : Sound Tryz.prog 160 30 f160 [.t 4] := sound_of mixed Tryz.func160 rfl (by kernel_rfl) (by kernel_rfl) (by kernel_rfl)

/-! 161: tabor/keys.rank -/
def f161r0 : List SOper := [
 o 3 (.box (t 1)),
 o 4 (.mv (i 0))]
def f161r1 : List SOper := [
 o 8 (.mv (t 0)),
 o 9 (.ldn 5 (t 3)),
 o 10 (.call 162 [(t 8), (t 9)])]
def f161r2 : List SOper := [
 o 11 (.fa 2 (t 3)),
 o 12 (.ld1 (t 11)),
 o 13 (.fa 4 (t 3)),
 o 14 (.ld1 (t 13)),
 o 15 (.build [(.string ⟨#[]⟩), (.int .i64 0)] [(0, 1), (1, 1)] [(t 12), (t 14)]),
 o 5 (.new [(.string ⟨#[]⟩), (.int .i64 0)]),
 q (.st 2 (t 5) (t 15))]
def f161r3 : List SOper := [
 o 17 (.mv (t 0)),
 o 18 (.nilck (t 17)),
 o 19 (.fa 4 (t 18)),
 o 20 (.ld1 (t 19)),
 o 21 (.ldn 2 (t 5)),
 o 22 (.call 203 [(t 20), (t 21), (u 97)]),
 o 16 (.mv (t 22)),
 o 23 (.ext (t 16) 0),
 o 24 (.ext (t 16) 1),
 o 6 (.mv (t 23)),
 o 7 (.mv (t 24))]
def f161r4 : List SOper := [
 o 25 (.mv (t 0)),
 o 26 (.mv (t 0)),
 o 27 (.nilck (t 26)),
 o 28 (.fa 4 (t 27)),
 o 29 (.ld1 (t 28)),
 o 30 (.mv (t 6)),
 o 31 (.ldn 2 (t 5)),
 o 32 (.bslice [(.string ⟨#[]⟩), (.int .i64 0)] 1 [(0, 2)] [(t 31)]),
 o 33 (.call 204 [(t 29), (t 30), (t 32)]),
 o 34 (.nilck (t 25)),
 o 35 (.fa 4 (t 34)),
 q (.st 1 (t 35) (t 33))]
def f161r5 : List SOper := [
 o 4 (.mv (i 0))]
def f161 : SCode := (.seq (.ops f161r0) (.seq (.ops f161r1) (.seq (.ops f161r2) (.seq (.ops f161r3) (.seq (.ops f161r4) (.seq (.ops f161r5) .ret))))))
theorem f161_calls : Sound Tryz.prog 161 36 f161 [.t 4] := sound_of mixed Tryz.func161 rfl (by kernel_rfl) (by kernel_rfl) (by kernel_rfl)

/-! 162: tabor/keys.unrank -/
def f162r0 : List SOper := [
 o 3 (.box (t 1)),
 o 4 (.mv (i 0))]
def f162r1 : List SOper := [
 o 6 (.mv (t 0)),
 o 7 (.nilck (t 6)),
 o 8 (.fa 4 (t 7)),
 o 9 (.ld1 (t 8)),
 o 10 (.fn 206 [] [(t 3)]),
 o 11 (.call 205 [(t 9), (t 10)]),
 o 5 (.mv (t 11))]
def f162r2 : List SOper := [
 o 12 (.mv (t 5)),
 o 13 (.cmp .lss (t 12) (i 0))]
def f162r3 : List SOper := [
 o 4 (.mv (i 5))]
def f162r4 : List SOper := [
 o 14 (.mv (t 0)),
 o 15 (.mv (t 0)),
 o 16 (.nilck (t 15)),
 o 17 (.fa 4 (t 16)),
 o 18 (.ld1 (t 17)),
 o 19 (.mv (t 5)),
 o 20 (.mv (t 5)),
 o 21 (.ar .add (t 20) (i 1)),
 o 22 (.call 207 [(t 18), (t 19), (t 21)]),
 o 23 (.nilck (t 14)),
 o 24 (.fa 4 (t 23)),
 q (.st 1 (t 24) (t 22))]
def f162r5 : List SOper := [
 o 4 (.mv (i 0))]
def f162 : SCode := (.seq (.ops f162r0) (.seq (.ops f162r1) (.seq (.seq (.ops f162r2) (.cond (t 13) (.seq (.ops f162r3) .ret) .skip)) (.seq (.ops f162r4) (.seq (.ops f162r5) .ret)))))
theorem f162_calls : Sound Tryz.prog 162 25 f162 [.t 4] := sound_of mixed Tryz.func162 rfl (by kernel_rfl) (by kernel_rfl) (by kernel_rfl)

/-! 163: internal/strconv.lower: not simplified -/
/-! 164: internal/strconv.underscoreOK: not simplified -/
/-! 165: internal/stringslite.Clone: not simplified -/
/-! 166: errors.New: not simplified -/
/-! 167: strconv.Itoa: not simplified -/
/-! 168: internal/strconv.log10Pow2: not simplified -/
/-! 169: math/bits.Len64: not simplified -/
/-! 170: internal/strconv.bool2[int]: not simplified -/
/-! 171: internal/strconv.isPowerOfTwo: not simplified -/
/-! 172: math/bits.TrailingZeros: not simplified -/
/-! 173: slices.insertionSortOrdered[string]: not simplified -/
/-! 174: slices.heapSortOrdered[string]: not simplified -/
/-! 175: slices.breakPatternsOrdered[string]: not simplified -/
/-! 176: slices.choosePivotOrdered[string]: not simplified -/
/-! 177: slices.reverseRangeOrdered[string]: not simplified -/
/-! 178: slices.partialInsertionSortOrdered[string]: not simplified -/
/-! 179: cmp.Less[string]: not simplified -/
/-! 180: slices.partitionEqualOrdered[string]: not simplified -/
/-! 181: slices.partitionOrdered[string]: not simplified -/
/-! 182: math/bits.Len32: not simplified -/
/-! 183: (*tabor/taborref08.Asked).Plus: not simplified -/
/-! 184: (*tabor/taborref08.Asked).put: not simplified -/
/-! 185: (*tabor/taborref08.Asked).Thing: not simplified -/
/-! 186: tabor/taborref08.Int: not simplified -/
/-! 187: tabor/taborref08.Text: not simplified -/
/-! 188: (*tabor/taborref08.Asked).named: not simplified -/
/-! 189: (*tabor/taborref08.Asked).Gone: not simplified -/
/-! 190: tabor/taborref07.Names -/
def f190r0 : List SOper := [
 o 4 (.mv (.const (.slice none 0 0)))]
def f190r1 : List SOper := [
 o 5 (.mv (.const (.slice none 0 0)))]
def f190r2 : List SOper := [
 o 6 (.mv (i 0))]
def f190r3 : List SOper := [
 o 9 (.mv (t 6)),
 o 10 (.mv (t 0)),
 o 11 (.len (t 10)),
 o 12 (.cmp .lss (t 9) (t 11))]
def f190r4 : List SOper := [
 o 16 (.mv (t 0)),
 o 17 (.mv (t 0)),
 o 18 (.mv (t 6)),
 o 19 (.ixs 8 (t 17) (t 18)),
 o 20 (.fa 0 (t 19)),
 o 21 (.ld1 (t 20)),
 o 22 (.mv (t 1)),
 o 23 (.call 29 [(t 16), (t 21), (t 22)]),
 o 15 (.mv (t 23)),
 o 24 (.ext (t 15) 0),
 o 25 (.ext (t 15) 1),
 o 7 (.new [(.int .i64 0), (.string ⟨#[]⟩), (.slice none 0 0), (.slice none 0 0), (.slice none 0 0), (.bool false), (.int .i64 0)]),
 q (.st 7 (t 7) (t 24)),
 o 8 (.mv (t 25))]
def f190r5 : List SOper := [
 o 26 (.mv (t 8))]
def f190r6 : List SOper := [
 o 27 (.mv (t 5)),
 o 28 (.mv (t 0)),
 o 29 (.mv (t 6)),
 o 30 (.ixs 8 (t 28) (t 29)),
 o 31 (.fa 0 (t 30)),
 o 32 (.ld1 (t 31)),
 o 33 (.bslice [(.string ⟨#[]⟩)] 1 [(0, 1)] [(t 32)]),
 o 34 (.app 1 16 [(.string ⟨#[]⟩)] (t 27) (t 33)),
 o 5 (.mv (t 34))]
def f190r7 : List SOper := [
 o 13 (.mv (t 6)),
 o 14 (.ar .add (t 13) (i 1)),
 o 6 (.mv (t 14))]
def f190l8 : SCode := (.seq (.seq (.ops f190r3) (.cond (t 12) .skip (.exit 0))) (.seq (.block 1 (.seq (.ops f190r4) (.seq (.ops f190r5) (.cond (t 26) (.ops f190r6) .skip)))) (.ops f190r7)))
def f190r9 : List SOper := [
 o 35 (.mv (t 5)),
 o 4 (.mv (t 35))]
def f190 : SCode := (.seq (.ops f190r0) (.seq (.ops f190r1) (.seq (.seq (.ops f190r2) (.block 0 (.loop f190l8))) (.seq (.ops f190r9) .ret))))
theorem f190_calls : Sound Tryz.prog 190 36 f190 [.t 4] := sound_of mixed Tryz.func190 rfl (by kernel_rfl) (by kernel_rfl) (by kernel_rfl)

/-! 191: maps.Keys[map[string]*tabor/api.Thing,string,*tabor/api.Thing]$1 -/
def f191r0 : List SOper := [
 o 4 (.ld1 (t 1)),
 o 5 (.rng (t 4))]
def f191r1 : List SOper := [
 o 6 (.nxt (t 5)),
 o 7 (.ext (t 6) 0)]
def f191r2 : List SOper := [
 o 8 (.ent (t 5)),
 o 9 (.ext (t 8) 0),
 o 3 (.mv (t 9))]
def f191r3 : List SOper := [
 o 10 (.mv (t 0)),
 o 11 (.mv (t 3)),
 o 12 (.callv (t 10) [(t 11)]),
 o 13 (.un .not (t 12))]
def f191l4 : SCode := (.seq (.ops f191r1) (.seq (.cond (t 7) .skip (.exit 0)) (.block 1 (.seq (.ops f191r2) (.seq (.ops f191r3) (.cond (t 13) .ret .skip))))))
def f191 : SCode := (.seq (.ops f191r0) (.block 0 (.loop f191l4)))
theorem f191_calls : Sound Tryz.prog 191 14 f191 [] := sound_of mixed Tryz.func191 rfl (by kernel_rfl) (by kernel_rfl) (by kernel_rfl)

/-! 192: slices.IndexFunc[[]string,string] -/
def f192r0 : List SOper := [
 o 4 (.mv (i 0))]
def f192r1 : List SOper := [
 o 6 (.mv (t 0)),
 o 7 (.len (t 6)),
 o 8 (.mv (i 0))]
def f192r2 : List SOper := [
 o 9 (.cmp .lss (t 8) (t 7))]
def f192r3 : List SOper := [
 o 10 (.mv (t 8)),
 o 5 (.mv (t 10))]
def f192r4 : List SOper := [
 o 11 (.mv (t 1)),
 o 12 (.mv (t 0)),
 o 13 (.mv (t 5)),
 o 14 (.ixs 1 (t 12) (t 13)),
 o 15 (.ld1 (t 14)),
 o 16 (.callv (t 11) [(t 15)])]
def f192r5 : List SOper := [
 o 17 (.mv (t 5)),
 o 4 (.mv (t 17))]
def f192r6 : List SOper := [
 o 18 (.ar .add (t 8) (i 1)),
 o 8 (.mv (t 18))]
def f192l7 : SCode := (.seq (.ops f192r2) (.seq (.cond (t 9) .skip (.exit 0)) (.seq (.block 1 (.seq (.ops f192r3) (.seq (.ops f192r4) (.cond (t 16) (.seq (.ops f192r5) .ret) .skip)))) (.ops f192r6))))
def f192r8 : List SOper := [
 o 4 (.mv (i (-1)))]
def f192 : SCode := (.seq (.ops f192r0) (.seq (.seq (.ops f192r1) (.block 0 (.loop f192l7))) (.seq (.ops f192r8) .ret)))
theorem f192_calls : Sound Tryz.prog 192 19 f192 [.t 4] := sound_of mixed Tryz.func192 rfl (by kernel_rfl) (by kernel_rfl) (by kernel_rfl)

/-! 193: internal/bytealg.abigen_runtime_cmpstring: not simplified -/
/-! 194: tabor/keys.byName[tabor/api.Pair] -/
def f194r0 : List SOper := [
 o 4 (.box (t 1)),
 o 6 (.mv (i 0)),
 o 7 (.mv (b false))]
def f194r1 : List SOper := [
 o 8 (.mv (t 0)),
 o 9 (.mv (t 2)),
 o 10 (.fn 218 [] [(t 4)]),
 o 11 (.call 217 [(t 8), (t 9), (t 10)]),
 o 12 (.ext (t 11) 0),
 o 13 (.ext (t 11) 1),
 o 6 (.mv (t 12)),
 o 7 (.mv (t 13))]
def f194 : SCode := (.seq (.ops f194r0) (.seq (.ops f194r1) .ret))
theorem f194_calls : Sound Tryz.prog 194 14 f194 [.t 6, .t 7] := sound_of mixed Tryz.func194 rfl (by kernel_rfl) (by kernel_rfl) (by kernel_rfl)

/-! 195: tabor/keys.pairName -/
def f195r0 : List SOper := [
 o 1 (.box (t 0)),
 o 2 (.mv e)]
def f195r1 : List SOper := [
 o 3 (.fa 0 (t 1)),
 o 4 (.ld1 (t 3)),
 o 2 (.mv (t 4))]
def f195 : SCode := (.seq (.ops f195r0) (.seq (.ops f195r1) .ret))
theorem f195_calls : Sound Tryz.prog 195 5 f195 [.t 2] := sound_of mixed Tryz.func195 rfl (by kernel_rfl) (by kernel_rfl) (by kernel_rfl)

/-! 196: slices.Insert[[]tabor/api.Pair,tabor/api.Pair] -/
def f196r0 : List SOper := [
 o 6 (.mv (.const (.slice none 0 0)))]
def f196r1 : List SOper := [
 o 10 (.mv (t 0)),
 o 11 (.mv (t 1)),
 o 12 (.slc 2 (t 10) (some (t 11)) none)]
def f196r2 : List SOper := [
 o 13 (.mv (t 2)),
 o 14 (.len (t 13)),
 o 7 (.mv (t 14))]
def f196r3 : List SOper := [
 o 15 (.mv (t 7)),
 o 16 (.cmp .eql (t 15) (i 0))]
def f196r4 : List SOper := [
 o 17 (.mv (t 0)),
 o 6 (.mv (t 17))]
def f196r5 : List SOper := [
 o 18 (.mv (t 0)),
 o 19 (.len (t 18)),
 o 8 (.mv (t 19))]
def f196r6 : List SOper := [
 o 20 (.mv (t 1)),
 o 21 (.mv (t 8)),
 o 22 (.cmp .eql (t 20) (t 21))]
def f196r7 : List SOper := [
 o 23 (.mv (t 0)),
 o 24 (.mv (t 2)),
 o 25 (.app 2 32 [(.string ⟨#[]⟩), (.string ⟨#[]⟩)] (t 23) (t 24)),
 o 6 (.mv (t 25))]
def f196r8 : List SOper := [
 o 26 (.mv (t 8)),
 o 27 (.mv (t 7)),
 o 28 (.ar .add (t 26) (t 27)),
 o 29 (.mv (t 0)),
 o 30 (.capc (t 29)),
 o 31 (.cmp .gtr (t 28) (t 30))]
def f196r9 : List SOper := [
 o 32 (.mv (t 0)),
 o 33 (.mv (t 1)),
 o 34 (.slc 2 (t 32) none (some (t 33))),
 o 35 (.mv (t 8)),
 o 36 (.mv (t 7)),
 o 37 (.ar .add (t 35) (t 36)),
 o 38 (.mv (t 1)),
 o 39 (.ar .sub (t 37) (t 38)),
 o 40 (.appz 2 32 [(.string ⟨#[]⟩), (.string ⟨#[]⟩)] (t 34) (t 39)),
 o 9 (.mv (t 40))]
def f196r10 : List SOper := [
 o 41 (.mv (t 9)),
 o 42 (.mv (t 1)),
 o 43 (.slc 2 (t 41) (some (t 42)) none),
 o 44 (.mv (t 2)),
 o 45 (.cpy 2 (t 43) (t 44))]
def f196r11 : List SOper := [
 o 46 (.mv (t 9)),
 o 47 (.mv (t 1)),
 o 48 (.mv (t 7)),
 o 49 (.ar .add (t 47) (t 48)),
 o 50 (.slc 2 (t 46) (some (t 49)) none),
 o 51 (.mv (t 0)),
 o 52 (.mv (t 1)),
 o 53 (.slc 2 (t 51) (some (t 52)) none),
 o 54 (.cpy 2 (t 50) (t 53))]
def f196r12 : List SOper := [
 o 55 (.mv (t 9)),
 o 6 (.mv (t 55))]
def f196r13 : List SOper := [
 o 56 (.mv (t 0)),
 o 57 (.mv (t 8)),
 o 58 (.mv (t 7)),
 o 59 (.ar .add (t 57) (t 58)),
 o 60 (.slc 2 (t 56) none (some (t 59))),
 o 0 (.mv (t 60))]
def f196r14 : List SOper := [
 o 61 (.mv (t 2)),
 o 62 (.mv (t 0)),
 o 63 (.mv (t 1)),
 o 64 (.mv (t 7)),
 o 65 (.ar .add (t 63) (t 64)),
 o 66 (.slc 2 (t 62) (some (t 65)) none),
 o 67 (.callx 219 [(t 61), (t 66)]),
 o 68 (.un .not (t 67))]
def f196r15 : List SOper := [
 o 69 (.mv (t 0)),
 o 70 (.mv (t 1)),
 o 71 (.mv (t 7)),
 o 72 (.ar .add (t 70) (t 71)),
 o 73 (.slc 2 (t 69) (some (t 72)) none),
 o 74 (.mv (t 0)),
 o 75 (.mv (t 1)),
 o 76 (.slc 2 (t 74) (some (t 75)) none),
 o 77 (.cpy 2 (t 73) (t 76))]
def f196r16 : List SOper := [
 o 78 (.mv (t 0)),
 o 79 (.mv (t 1)),
 o 80 (.slc 2 (t 78) (some (t 79)) none),
 o 81 (.mv (t 2)),
 o 82 (.cpy 2 (t 80) (t 81))]
def f196r17 : List SOper := [
 o 83 (.mv (t 0)),
 o 6 (.mv (t 83))]
def f196r18 : List SOper := [
 o 84 (.mv (t 0)),
 o 85 (.mv (t 8)),
 o 86 (.slc 2 (t 84) (some (t 85)) none),
 o 87 (.mv (t 2)),
 o 88 (.cpy 2 (t 86) (t 87))]
def f196r19 : List SOper := [
 o 89 (.mv (t 0)),
 o 90 (.mv (t 1)),
 o 91 (.slc 2 (t 89) (some (t 90)) none),
 o 92 (.mv (t 7)),
 o 93 (.call 220 [(t 91), (t 92)])]
def f196r20 : List SOper := [
 o 94 (.mv (t 0)),
 o 6 (.mv (t 94))]
def f196 : SCode := (.seq (.ops f196r0) (.seq (.ops f196r1) (.seq (.ops f196r2) (.seq (.seq (.ops f196r3) (.cond (t 16) (.seq (.ops f196r4) .ret) .skip)) (.seq (.ops f196r5) (.seq (.seq (.ops f196r6) (.cond (t 22) (.seq (.ops f196r7) .ret) .skip)) (.seq (.seq (.ops f196r8) (.cond (t 31) (.seq (.ops f196r9) (.seq (.ops f196r10) (.seq (.ops f196r11) (.seq (.ops f196r12) .ret)))) .skip)) (.seq (.ops f196r13) (.seq (.seq (.ops f196r14) (.cond (t 68) (.seq (.ops f196r15) (.seq (.ops f196r16) (.seq (.ops f196r17) .ret))) .skip)) (.seq (.ops f196r18) (.seq (.ops f196r19) (.seq (.ops f196r20) .ret))))))))))))
theorem f196_calls : Sound Tryz.prog 196 95 f196 [.t 6] := sound_of mixed Tryz.func196 rfl (by kernel_rfl) (by kernel_rfl) (by kernel_rfl)

/-! 197: slices.Delete[[]tabor/api.Pair,tabor/api.Pair] -/
def f197r0 : List SOper := [
 o 6 (.mv (.const (.slice none 0 0)))]
def f197r1 : List SOper := [
 o 8 (.mv (t 0)),
 o 9 (.mv (t 1)),
 o 10 (.mv (t 2)),
 o 11 (.mv (t 0)),
 o 12 (.len (t 11)),
 o 13 (.slc3 2 (t 8) (some (t 9)) (t 10) (t 12))]
def f197r2 : List SOper := [
 o 14 (.mv (t 1)),
 o 15 (.mv (t 2)),
 o 16 (.cmp .eql (t 14) (t 15))]
def f197r3 : List SOper := [
 o 17 (.mv (t 0)),
 o 6 (.mv (t 17))]
def f197r4 : List SOper := [
 o 18 (.mv (t 0)),
 o 19 (.len (t 18)),
 o 7 (.mv (t 19))]
def f197r5 : List SOper := [
 o 20 (.mv (t 0)),
 o 21 (.mv (t 1)),
 o 22 (.slc 2 (t 20) none (some (t 21))),
 o 23 (.mv (t 0)),
 o 24 (.mv (t 2)),
 o 25 (.slc 2 (t 23) (some (t 24)) none),
 o 26 (.app 2 32 [(.string ⟨#[]⟩), (.string ⟨#[]⟩)] (t 22) (t 25)),
 o 0 (.mv (t 26))]
def f197r6 : List SOper := [
 o 27 (.mv (t 0)),
 o 28 (.mv (t 0)),
 o 29 (.len (t 28)),
 o 30 (.mv (t 7)),
 o 31 (.slc 2 (t 27) (some (t 29)) (some (t 30))),
 q (.clr [(.string ⟨#[]⟩), (.string ⟨#[]⟩)] (t 31))]
def f197r7 : List SOper := [
 o 32 (.mv (t 0)),
 o 6 (.mv (t 32))]
def f197 : SCode := (.seq (.ops f197r0) (.seq (.ops f197r1) (.seq (.seq (.ops f197r2) (.cond (t 16) (.seq (.ops f197r3) .ret) .skip)) (.seq (.ops f197r4) (.seq (.ops f197r5) (.seq (.ops f197r6) (.seq (.ops f197r7) .ret)))))))
theorem f197_calls : Sound Tryz.prog 197 33 f197 [.t 6] := sound_of mixed Tryz.func197 rfl (by kernel_rfl) (by kernel_rfl) (by kernel_rfl)

/-! 198: slices.overlaps[string]: not simplified -/
/-! 199: slices.rotateRight[string]: not simplified -/
/-! 200: tabor/keys.byName[string] -/
def f200r0 : List SOper := [
 o 4 (.box (t 1)),
 o 6 (.mv (i 0)),
 o 7 (.mv (b false))]
def f200r1 : List SOper := [
 o 8 (.mv (t 0)),
 o 9 (.mv (t 2)),
 o 10 (.fn 223 [] [(t 4)]),
 o 11 (.call 222 [(t 8), (t 9), (t 10)]),
 o 12 (.ext (t 11) 0),
 o 13 (.ext (t 11) 1),
 o 6 (.mv (t 12)),
 o 7 (.mv (t 13))]
def f200 : SCode := (.seq (.ops f200r0) (.seq (.ops f200r1) .ret))
theorem f200_calls : Sound Tryz.prog 200 14 f200 [.t 6, .t 7] := sound_of mixed Tryz.func200 rfl (by kernel_rfl) (by kernel_rfl) (by kernel_rfl)

/-! 201: tabor/keys.itself -/
def f201r0 : List SOper := [
 o 2 (.mv e)]
def f201r1 : List SOper := [
 o 3 (.mv (t 0)),
 o 2 (.mv (t 3))]
def f201 : SCode := (.seq (.ops f201r0) (.seq (.ops f201r1) .ret))
theorem f201_calls : Sound Tryz.prog 201 4 f201 [.t 2] := sound_of mixed Tryz.func201 rfl (by kernel_rfl) (by kernel_rfl) (by kernel_rfl)

/-! 202: slices.Delete[[]string,string] -/
def f202r0 : List SOper := [
 o 6 (.mv (.const (.slice none 0 0)))]
def f202r1 : List SOper := [
 o 8 (.mv (t 0)),
 o 9 (.mv (t 1)),
 o 10 (.mv (t 2)),
 o 11 (.mv (t 0)),
 o 12 (.len (t 11)),
 o 13 (.slc3 1 (t 8) (some (t 9)) (t 10) (t 12))]
def f202r2 : List SOper := [
 o 14 (.mv (t 1)),
 o 15 (.mv (t 2)),
 o 16 (.cmp .eql (t 14) (t 15))]
def f202r3 : List SOper := [
 o 17 (.mv (t 0)),
 o 6 (.mv (t 17))]
def f202r4 : List SOper := [
 o 18 (.mv (t 0)),
 o 19 (.len (t 18)),
 o 7 (.mv (t 19))]
def f202r5 : List SOper := [
 o 20 (.mv (t 0)),
 o 21 (.mv (t 1)),
 o 22 (.slc 1 (t 20) none (some (t 21))),
 o 23 (.mv (t 0)),
 o 24 (.mv (t 2)),
 o 25 (.slc 1 (t 23) (some (t 24)) none),
 o 26 (.app 1 16 [(.string ⟨#[]⟩)] (t 22) (t 25)),
 o 0 (.mv (t 26))]
def f202r6 : List SOper := [
 o 27 (.mv (t 0)),
 o 28 (.mv (t 0)),
 o 29 (.len (t 28)),
 o 30 (.mv (t 7)),
 o 31 (.slc 1 (t 27) (some (t 29)) (some (t 30))),
 q (.clr [(.string ⟨#[]⟩)] (t 31))]
def f202r7 : List SOper := [
 o 32 (.mv (t 0)),
 o 6 (.mv (t 32))]
def f202 : SCode := (.seq (.ops f202r0) (.seq (.ops f202r1) (.seq (.seq (.ops f202r2) (.cond (t 16) (.seq (.ops f202r3) .ret) .skip)) (.seq (.ops f202r4) (.seq (.ops f202r5) (.seq (.ops f202r6) (.seq (.ops f202r7) .ret)))))))
theorem f202_calls : Sound Tryz.prog 202 33 f202 [.t 6] := sound_of mixed Tryz.func202 rfl (by kernel_rfl) (by kernel_rfl) (by kernel_rfl)

/-! 203: slices.BinarySearchFunc[[]tabor/api.Rank,tabor/api.Rank,tabor/api.Rank] -/
def f203r0 : List SOper := [
 o 4 (.box (t 1)),
 o 6 (.mv (i 0)),
 o 7 (.mv (b false))]
def f203r1 : List SOper := [
 o 12 (.mv (t 0)),
 o 13 (.len (t 12)),
 o 8 (.mv (t 13))]
def f203r2 : List SOper := [
 o 14 (.mv (t 8)),
 o 9 (.mv (i 0)),
 o 10 (.mv (t 14))]
def f203r3 : List SOper := [
 o 15 (.mv (t 9)),
 o 16 (.mv (t 10)),
 o 17 (.cmp .lss (t 15) (t 16))]
def f203r4 : List SOper := [
 o 18 (.mv (t 9)),
 o 19 (.mv (t 10)),
 o 20 (.ar .add (t 18) (t 19)),
 o 21 (.cvt .u64 (t 20)),
 o 22 (.sh .u64 false 1 (t 21)),
 o 23 (.cvt .i64 (t 22)),
 o 11 (.mv (t 23))]
def f203r5 : List SOper := [
 o 24 (.mv (t 2)),
 o 25 (.mv (t 0)),
 o 26 (.mv (t 11)),
 o 27 (.ixs 2 (t 25) (t 26)),
 o 28 (.ldn 2 (t 27)),
 o 29 (.ldn 2 (t 4)),
 o 30 (.callv (t 24) [(t 28), (t 29)]),
 o 31 (.cmp .lss (t 30) (i 0))]
def f203r6 : List SOper := [
 o 32 (.mv (t 11)),
 o 33 (.ar .add (t 32) (i 1)),
 o 9 (.mv (t 33))]
def f203r7 : List SOper := [
 o 34 (.mv (t 11)),
 o 10 (.mv (t 34))]
def f203l8 : SCode := (.seq (.seq (.ops f203r3) (.cond (t 17) .skip (.exit 0))) (.block 1 (.seq (.ops f203r4) (.seq (.ops f203r5) (.cond (t 31) (.ops f203r6) (.ops f203r7))))))
def f203r9 : List SOper := [
 o 35 (.mv (t 9)),
 o 36 (.mv (t 9)),
 o 37 (.mv (t 8)),
 o 38 (.cmp .lss (t 36) (t 37)),
 o 39 (.mv (t 38)),
 g 40 39 (.mv (t 2)),
 g 41 39 (.mv (t 0)),
 g 42 39 (.mv (t 9)),
 g 43 39 (.ixs 2 (t 41) (t 42)),
 g 44 39 (.ldn 2 (t 43)),
 g 45 39 (.ldn 2 (t 4)),
 g 46 39 (.callv (t 40) [(t 44), (t 45)]),
 g 47 39 (.cmp .eql (t 46) (i 0)),
 o 48 (.pick (t 39) (t 47) (b false)),
 o 6 (.mv (t 35)),
 o 7 (.mv (t 48))]
def f203 : SCode := (.seq (.ops f203r0) (.seq (.ops f203r1) (.seq (.ops f203r2) (.seq (.block 0 (.loop f203l8)) (.seq (.ops f203r9) .ret)))))
theorem f203_calls : Sound Tryz.prog 203 49 f203 [.t 6, .t 7] := sound_of mixed Tryz.func203 rfl (by kernel_rfl) (by kernel_rfl) (by kernel_rfl)

/-! 204: slices.Insert[[]tabor/api.Rank,tabor/api.Rank] -/
def f204r0 : List SOper := [
 o 6 (.mv (.const (.slice none 0 0)))]
def f204r1 : List SOper := [
 o 10 (.mv (t 0)),
 o 11 (.mv (t 1)),
 o 12 (.slc 2 (t 10) (some (t 11)) none)]
def f204r2 : List SOper := [
 o 13 (.mv (t 2)),
 o 14 (.len (t 13)),
 o 7 (.mv (t 14))]
def f204r3 : List SOper := [
 o 15 (.mv (t 7)),
 o 16 (.cmp .eql (t 15) (i 0))]
def f204r4 : List SOper := [
 o 17 (.mv (t 0)),
 o 6 (.mv (t 17))]
def f204r5 : List SOper := [
 o 18 (.mv (t 0)),
 o 19 (.len (t 18)),
 o 8 (.mv (t 19))]
def f204r6 : List SOper := [
 o 20 (.mv (t 1)),
 o 21 (.mv (t 8)),
 o 22 (.cmp .eql (t 20) (t 21))]
def f204r7 : List SOper := [
 o 23 (.mv (t 0)),
 o 24 (.mv (t 2)),
 o 25 (.app 2 24 [(.string ⟨#[]⟩), (.int .i64 0)] (t 23) (t 24)),
 o 6 (.mv (t 25))]
def f204r8 : List SOper := [
 o 26 (.mv (t 8)),
 o 27 (.mv (t 7)),
 o 28 (.ar .add (t 26) (t 27)),
 o 29 (.mv (t 0)),
 o 30 (.capc (t 29)),
 o 31 (.cmp .gtr (t 28) (t 30))]
def f204r9 : List SOper := [
 o 32 (.mv (t 0)),
 o 33 (.mv (t 1)),
 o 34 (.slc 2 (t 32) none (some (t 33))),
 o 35 (.mv (t 8)),
 o 36 (.mv (t 7)),
 o 37 (.ar .add (t 35) (t 36)),
 o 38 (.mv (t 1)),
 o 39 (.ar .sub (t 37) (t 38)),
 o 40 (.appz 2 24 [(.string ⟨#[]⟩), (.int .i64 0)] (t 34) (t 39)),
 o 9 (.mv (t 40))]
def f204r10 : List SOper := [
 o 41 (.mv (t 9)),
 o 42 (.mv (t 1)),
 o 43 (.slc 2 (t 41) (some (t 42)) none),
 o 44 (.mv (t 2)),
 o 45 (.cpy 2 (t 43) (t 44))]
def f204r11 : List SOper := [
 o 46 (.mv (t 9)),
 o 47 (.mv (t 1)),
 o 48 (.mv (t 7)),
 o 49 (.ar .add (t 47) (t 48)),
 o 50 (.slc 2 (t 46) (some (t 49)) none),
 o 51 (.mv (t 0)),
 o 52 (.mv (t 1)),
 o 53 (.slc 2 (t 51) (some (t 52)) none),
 o 54 (.cpy 2 (t 50) (t 53))]
def f204r12 : List SOper := [
 o 55 (.mv (t 9)),
 o 6 (.mv (t 55))]
def f204r13 : List SOper := [
 o 56 (.mv (t 0)),
 o 57 (.mv (t 8)),
 o 58 (.mv (t 7)),
 o 59 (.ar .add (t 57) (t 58)),
 o 60 (.slc 2 (t 56) none (some (t 59))),
 o 0 (.mv (t 60))]
def f204r14 : List SOper := [
 o 61 (.mv (t 2)),
 o 62 (.mv (t 0)),
 o 63 (.mv (t 1)),
 o 64 (.mv (t 7)),
 o 65 (.ar .add (t 63) (t 64)),
 o 66 (.slc 2 (t 62) (some (t 65)) none),
 o 67 (.callx 224 [(t 61), (t 66)]),
 o 68 (.un .not (t 67))]
def f204r15 : List SOper := [
 o 69 (.mv (t 0)),
 o 70 (.mv (t 1)),
 o 71 (.mv (t 7)),
 o 72 (.ar .add (t 70) (t 71)),
 o 73 (.slc 2 (t 69) (some (t 72)) none),
 o 74 (.mv (t 0)),
 o 75 (.mv (t 1)),
 o 76 (.slc 2 (t 74) (some (t 75)) none),
 o 77 (.cpy 2 (t 73) (t 76))]
def f204r16 : List SOper := [
 o 78 (.mv (t 0)),
 o 79 (.mv (t 1)),
 o 80 (.slc 2 (t 78) (some (t 79)) none),
 o 81 (.mv (t 2)),
 o 82 (.cpy 2 (t 80) (t 81))]
def f204r17 : List SOper := [
 o 83 (.mv (t 0)),
 o 6 (.mv (t 83))]
def f204r18 : List SOper := [
 o 84 (.mv (t 0)),
 o 85 (.mv (t 8)),
 o 86 (.slc 2 (t 84) (some (t 85)) none),
 o 87 (.mv (t 2)),
 o 88 (.cpy 2 (t 86) (t 87))]
def f204r19 : List SOper := [
 o 89 (.mv (t 0)),
 o 90 (.mv (t 1)),
 o 91 (.slc 2 (t 89) (some (t 90)) none),
 o 92 (.mv (t 7)),
 o 93 (.call 225 [(t 91), (t 92)])]
def f204r20 : List SOper := [
 o 94 (.mv (t 0)),
 o 6 (.mv (t 94))]
def f204 : SCode := (.seq (.ops f204r0) (.seq (.ops f204r1) (.seq (.ops f204r2) (.seq (.seq (.ops f204r3) (.cond (t 16) (.seq (.ops f204r4) .ret) .skip)) (.seq (.ops f204r5) (.seq (.seq (.ops f204r6) (.cond (t 22) (.seq (.ops f204r7) .ret) .skip)) (.seq (.seq (.ops f204r8) (.cond (t 31) (.seq (.ops f204r9) (.seq (.ops f204r10) (.seq (.ops f204r11) (.seq (.ops f204r12) .ret)))) .skip)) (.seq (.ops f204r13) (.seq (.seq (.ops f204r14) (.cond (t 68) (.seq (.ops f204r15) (.seq (.ops f204r16) (.seq (.ops f204r17) .ret))) .skip)) (.seq (.ops f204r18) (.seq (.ops f204r19) (.seq (.ops f204r20) .ret))))))))))))
theorem f204_calls : Sound Tryz.prog 204 95 f204 [.t 6] := sound_of mixed Tryz.func204 rfl (by kernel_rfl) (by kernel_rfl) (by kernel_rfl)

/-! 205: slices.IndexFunc[[]tabor/api.Rank,tabor/api.Rank] -/
def f205r0 : List SOper := [
 o 4 (.mv (i 0))]
def f205r1 : List SOper := [
 o 6 (.mv (t 0)),
 o 7 (.len (t 6)),
 o 8 (.mv (i 0))]
def f205r2 : List SOper := [
 o 9 (.cmp .lss (t 8) (t 7))]
def f205r3 : List SOper := [
 o 10 (.mv (t 8)),
 o 5 (.mv (t 10))]
def f205r4 : List SOper := [
 o 11 (.mv (t 1)),
 o 12 (.mv (t 0)),
 o 13 (.mv (t 5)),
 o 14 (.ixs 2 (t 12) (t 13)),
 o 15 (.ldn 2 (t 14)),
 o 16 (.callv (t 11) [(t 15)])]
def f205r5 : List SOper := [
 o 17 (.mv (t 5)),
 o 4 (.mv (t 17))]
def f205r6 : List SOper := [
 o 18 (.ar .add (t 8) (i 1)),
 o 8 (.mv (t 18))]
def f205l7 : SCode := (.seq (.ops f205r2) (.seq (.cond (t 9) .skip (.exit 0)) (.seq (.block 1 (.seq (.ops f205r3) (.seq (.ops f205r4) (.cond (t 16) (.seq (.ops f205r5) .ret) .skip)))) (.ops f205r6))))
def f205r8 : List SOper := [
 o 4 (.mv (i (-1)))]
def f205 : SCode := (.seq (.ops f205r0) (.seq (.seq (.ops f205r1) (.block 0 (.loop f205l7))) (.seq (.ops f205r8) .ret)))
theorem f205_calls : Sound Tryz.prog 205 19 f205 [.t 4] := sound_of mixed Tryz.func205 rfl (by kernel_rfl) (by kernel_rfl) (by kernel_rfl)

/-! 206: tabor/keys.unrank$1 -/
def f206r0 : List SOper := [
 o 2 (.box (t 0)),
 o 3 (.mv (b false))]
def f206r1 : List SOper := [
 o 4 (.fa 0 (t 2)),
 o 5 (.ld1 (t 4)),
 o 6 (.fa 2 (t 1)),
 o 7 (.ld1 (t 6)),
 o 8 (.cmp .eql (t 5) (t 7)),
 o 3 (.mv (t 8))]
def f206 : SCode := (.seq (.ops f206r0) (.seq (.ops f206r1) .ret))
theorem f206_calls : Sound Tryz.prog 206 9 f206 [.t 3] := sound_of mixed Tryz.func206 rfl (by kernel_rfl) (by kernel_rfl) (by kernel_rfl)

/-! 207: slices.Delete[[]tabor/api.Rank,tabor/api.Rank] -/
def f207r0 : List SOper := [
 o 6 (.mv (.const (.slice none 0 0)))]
def f207r1 : List SOper := [
 o 8 (.mv (t 0)),
 o 9 (.mv (t 1)),
 o 10 (.mv (t 2)),
 o 11 (.mv (t 0)),
 o 12 (.len (t 11)),
 o 13 (.slc3 2 (t 8) (some (t 9)) (t 10) (t 12))]
def f207r2 : List SOper := [
 o 14 (.mv (t 1)),
 o 15 (.mv (t 2)),
 o 16 (.cmp .eql (t 14) (t 15))]
def f207r3 : List SOper := [
 o 17 (.mv (t 0)),
 o 6 (.mv (t 17))]
def f207r4 : List SOper := [
 o 18 (.mv (t 0)),
 o 19 (.len (t 18)),
 o 7 (.mv (t 19))]
def f207r5 : List SOper := [
 o 20 (.mv (t 0)),
 o 21 (.mv (t 1)),
 o 22 (.slc 2 (t 20) none (some (t 21))),
 o 23 (.mv (t 0)),
 o 24 (.mv (t 2)),
 o 25 (.slc 2 (t 23) (some (t 24)) none),
 o 26 (.app 2 24 [(.string ⟨#[]⟩), (.int .i64 0)] (t 22) (t 25)),
 o 0 (.mv (t 26))]
def f207r6 : List SOper := [
 o 27 (.mv (t 0)),
 o 28 (.mv (t 0)),
 o 29 (.len (t 28)),
 o 30 (.mv (t 7)),
 o 31 (.slc 2 (t 27) (some (t 29)) (some (t 30))),
 q (.clr [(.string ⟨#[]⟩), (.int .i64 0)] (t 31))]
def f207r7 : List SOper := [
 o 32 (.mv (t 0)),
 o 6 (.mv (t 32))]
def f207 : SCode := (.seq (.ops f207r0) (.seq (.ops f207r1) (.seq (.seq (.ops f207r2) (.cond (t 16) (.seq (.ops f207r3) .ret) .skip)) (.seq (.ops f207r4) (.seq (.ops f207r5) (.seq (.ops f207r6) (.seq (.ops f207r7) .ret)))))))
theorem f207_calls : Sound Tryz.prog 207 33 f207 [.t 6] := sound_of mixed Tryz.func207 rfl (by kernel_rfl) (by kernel_rfl) (by kernel_rfl)

/-! 208: internal/strconv.Itoa: not simplified -/
/-! 209: math/bits.TrailingZeros32: not simplified -/
/-! 210: math/bits.TrailingZeros64: not simplified -/
/-! 211: slices.siftDownOrdered[string]: not simplified -/
/-! 212: slices.nextPowerOfTwo: not simplified -/
/-! 213: (*slices.xorshift).Next: not simplified -/
/-! 214: slices.medianAdjacentOrdered[string]: not simplified -/
/-! 215: slices.medianOrdered[string]: not simplified -/
/-! 216: cmp.isNaN[string]: not simplified -/
/-! 217: slices.BinarySearchFunc[[]tabor/api.Pair,tabor/api.Pair,string] -/
def f217r0 : List SOper := [
 o 6 (.mv (i 0)),
 o 7 (.mv (b false))]
def f217r1 : List SOper := [
 o 12 (.mv (t 0)),
 o 13 (.len (t 12)),
 o 8 (.mv (t 13))]
def f217r2 : List SOper := [
 o 14 (.mv (t 8)),
 o 9 (.mv (i 0)),
 o 10 (.mv (t 14))]
def f217r3 : List SOper := [
 o 15 (.mv (t 9)),
 o 16 (.mv (t 10)),
 o 17 (.cmp .lss (t 15) (t 16))]
def f217r4 : List SOper := [
 o 18 (.mv (t 9)),
 o 19 (.mv (t 10)),
 o 20 (.ar .add (t 18) (t 19)),
 o 21 (.cvt .u64 (t 20)),
 o 22 (.sh .u64 false 1 (t 21)),
 o 23 (.cvt .i64 (t 22)),
 o 11 (.mv (t 23))]
def f217r5 : List SOper := [
 o 24 (.mv (t 2)),
 o 25 (.mv (t 0)),
 o 26 (.mv (t 11)),
 o 27 (.ixs 2 (t 25) (t 26)),
 o 28 (.ldn 2 (t 27)),
 o 29 (.mv (t 1)),
 o 30 (.callv (t 24) [(t 28), (t 29)]),
 o 31 (.cmp .lss (t 30) (i 0))]
def f217r6 : List SOper := [
 o 32 (.mv (t 11)),
 o 33 (.ar .add (t 32) (i 1)),
 o 9 (.mv (t 33))]
def f217r7 : List SOper := [
 o 34 (.mv (t 11)),
 o 10 (.mv (t 34))]
def f217l8 : SCode := (.seq (.seq (.ops f217r3) (.cond (t 17) .skip (.exit 0))) (.block 1 (.seq (.ops f217r4) (.seq (.ops f217r5) (.cond (t 31) (.ops f217r6) (.ops f217r7))))))
def f217r9 : List SOper := [
 o 35 (.mv (t 9)),
 o 36 (.mv (t 9)),
 o 37 (.mv (t 8)),
 o 38 (.cmp .lss (t 36) (t 37)),
 o 39 (.mv (t 38)),
 g 40 39 (.mv (t 2)),
 g 41 39 (.mv (t 0)),
 g 42 39 (.mv (t 9)),
 g 43 39 (.ixs 2 (t 41) (t 42)),
 g 44 39 (.ldn 2 (t 43)),
 g 45 39 (.mv (t 1)),
 g 46 39 (.callv (t 40) [(t 44), (t 45)]),
 g 47 39 (.cmp .eql (t 46) (i 0)),
 o 48 (.pick (t 39) (t 47) (b false)),
 o 6 (.mv (t 35)),
 o 7 (.mv (t 48))]
def f217 : SCode := (.seq (.ops f217r0) (.seq (.ops f217r1) (.seq (.ops f217r2) (.seq (.block 0 (.loop f217l8)) (.seq (.ops f217r9) .ret)))))
theorem f217_calls : Sound Tryz.prog 217 49 f217 [.t 6, .t 7] := sound_of mixed Tryz.func217 rfl (by kernel_rfl) (by kernel_rfl) (by kernel_rfl)

/-! 218: tabor/keys.byName[tabor/api.Pair]$1 -/
def f218r0 : List SOper := [
 o 3 (.box (t 0)),
 o 5 (.mv (i 0))]
def f218r1 : List SOper := [
 o 6 (.ld1 (t 2)),
 o 7 (.ldn 2 (t 3)),
 o 8 (.callv (t 6) [(t 7)]),
 o 9 (.mv (t 1)),
 o 10 (.call 94 [(t 8), (t 9)]),
 o 5 (.mv (t 10))]
def f218 : SCode := (.seq (.ops f218r0) (.seq (.ops f218r1) .ret))
theorem f218_calls : Sound Tryz.prog 218 11 f218 [.t 5] := sound_of mixed Tryz.func218 rfl (by kernel_rfl) (by kernel_rfl) (by kernel_rfl)

/-! 219: slices.overlaps[tabor/api.Pair]: not simplified -/
/-! 220: slices.rotateRight[tabor/api.Pair]: not simplified -/
/-! 221: slices.rotateLeft[string]: not simplified -/
/-! 222: slices.BinarySearchFunc[[]string,string,string] -/
def f222r0 : List SOper := [
 o 6 (.mv (i 0)),
 o 7 (.mv (b false))]
def f222r1 : List SOper := [
 o 12 (.mv (t 0)),
 o 13 (.len (t 12)),
 o 8 (.mv (t 13))]
def f222r2 : List SOper := [
 o 14 (.mv (t 8)),
 o 9 (.mv (i 0)),
 o 10 (.mv (t 14))]
def f222r3 : List SOper := [
 o 15 (.mv (t 9)),
 o 16 (.mv (t 10)),
 o 17 (.cmp .lss (t 15) (t 16))]
def f222r4 : List SOper := [
 o 18 (.mv (t 9)),
 o 19 (.mv (t 10)),
 o 20 (.ar .add (t 18) (t 19)),
 o 21 (.cvt .u64 (t 20)),
 o 22 (.sh .u64 false 1 (t 21)),
 o 23 (.cvt .i64 (t 22)),
 o 11 (.mv (t 23))]
def f222r5 : List SOper := [
 o 24 (.mv (t 2)),
 o 25 (.mv (t 0)),
 o 26 (.mv (t 11)),
 o 27 (.ixs 1 (t 25) (t 26)),
 o 28 (.ld1 (t 27)),
 o 29 (.mv (t 1)),
 o 30 (.callv (t 24) [(t 28), (t 29)]),
 o 31 (.cmp .lss (t 30) (i 0))]
def f222r6 : List SOper := [
 o 32 (.mv (t 11)),
 o 33 (.ar .add (t 32) (i 1)),
 o 9 (.mv (t 33))]
def f222r7 : List SOper := [
 o 34 (.mv (t 11)),
 o 10 (.mv (t 34))]
def f222l8 : SCode := (.seq (.seq (.ops f222r3) (.cond (t 17) .skip (.exit 0))) (.block 1 (.seq (.ops f222r4) (.seq (.ops f222r5) (.cond (t 31) (.ops f222r6) (.ops f222r7))))))
def f222r9 : List SOper := [
 o 35 (.mv (t 9)),
 o 36 (.mv (t 9)),
 o 37 (.mv (t 8)),
 o 38 (.cmp .lss (t 36) (t 37)),
 o 39 (.mv (t 38)),
 g 40 39 (.mv (t 2)),
 g 41 39 (.mv (t 0)),
 g 42 39 (.mv (t 9)),
 g 43 39 (.ixs 1 (t 41) (t 42)),
 g 44 39 (.ld1 (t 43)),
 g 45 39 (.mv (t 1)),
 g 46 39 (.callv (t 40) [(t 44), (t 45)]),
 g 47 39 (.cmp .eql (t 46) (i 0)),
 o 48 (.pick (t 39) (t 47) (b false)),
 o 6 (.mv (t 35)),
 o 7 (.mv (t 48))]
def f222 : SCode := (.seq (.ops f222r0) (.seq (.ops f222r1) (.seq (.ops f222r2) (.seq (.block 0 (.loop f222l8)) (.seq (.ops f222r9) .ret)))))
theorem f222_calls : Sound Tryz.prog 222 49 f222 [.t 6, .t 7] := sound_of mixed Tryz.func222 rfl (by kernel_rfl) (by kernel_rfl) (by kernel_rfl)

/-! 223: tabor/keys.byName[string]$1 -/
def f223r0 : List SOper := [
 o 5 (.mv (i 0))]
def f223r1 : List SOper := [
 o 6 (.ld1 (t 2)),
 o 7 (.mv (t 0)),
 o 8 (.callv (t 6) [(t 7)]),
 o 9 (.mv (t 1)),
 o 10 (.call 94 [(t 8), (t 9)]),
 o 5 (.mv (t 10))]
def f223 : SCode := (.seq (.ops f223r0) (.seq (.ops f223r1) .ret))
theorem f223_calls : Sound Tryz.prog 223 11 f223 [.t 5] := sound_of mixed Tryz.func223 rfl (by kernel_rfl) (by kernel_rfl) (by kernel_rfl)

/-! 224: slices.overlaps[tabor/api.Rank]: not simplified -/
/-! 225: slices.rotateRight[tabor/api.Rank]: not simplified -/
/-! 226: slices.order2Ordered[string]: not simplified -/
/-! 227: slices.rotateLeft[tabor/api.Pair]: not simplified -/
/-! 228: slices.Reverse[[]string,string]: not simplified -/
/-! 229: slices.rotateLeft[tabor/api.Rank]: not simplified -/
/-! 230: slices.Reverse[[]tabor/api.Pair,tabor/api.Pair]: not simplified -/
/-! 231: slices.Reverse[[]tabor/api.Rank,tabor/api.Rank]: not simplified -/
/-! 232: (runtime.boundsError).Error: not simplified -/
/-! 233: (runtime.boundsError).RuntimeError: not simplified -/
/-! 234: (runtime.errorString).Error: not simplified -/
/-! 235: (runtime.errorString).RuntimeError: not simplified -/
/-! 236: (runtime.plainError).Error: not simplified -/
/-! 237: (runtime.plainError).RuntimeError: not simplified -/
/-! 238: (runtime.errorAddressString).Error: not simplified -/
/-! 239: (runtime.errorAddressString).RuntimeError: not simplified -/
/-! 240: (*runtime.TypeAssertionError).Error: not simplified -/
/-! 241: (*runtime.TypeAssertionError).RuntimeError: not simplified -/
/-! 242: (*runtime.PanicNilError).Error: not simplified -/
/-! 243: (*runtime.PanicNilError).RuntimeError: not simplified -/
/-! 244: (*internal/abi.Type).Align: not simplified -/
/-! 245: (internal/runtime/maps.unhashableTypeError).Error: not simplified -/
/-! 246: (internal/runtime/maps.unhashableTypeError).RuntimeError: not simplified -/
/-! 247: (tabor/api.Errno).Error: not simplified -/
/-! 248: (internal/strconv.Error).Error: not simplified -/
/-! 249: (*strconv.NumError).Error: not simplified -/
/-! 250: (*errors.errorString).Error: not simplified -/
/-! 251: (internal/abi.Kind).String: not simplified -/
/-! 252: var's door: gosem.cut.vars holds initialisers alone; see the manifest's row cutvarsword (look 11, test files too): not simplified -/
/-! 253: var's door: internal/strconv.uint64pow10 is laid by its own initialiser, plain data (look 11): not simplified -/
/-! 254: var's door: math/bits.deBruijn32tab is laid by its own initialiser, plain data (look 11): not simplified -/
/-! 255: var's door: math/bits.deBruijn64tab is laid by its own initialiser, plain data (look 11): not simplified -/
/-! 256: var's door: strconv.ErrRange is laid by its own call of errors.New on one literal (look 11): not simplified -/
/-! 257: var's door: strconv.ErrSyntax is laid by its own call of errors.New on one literal (look 11): not simplified -/
/-! 258: var's door: the look of gosem.cut.vars went over the folder that the caller named as the repository's root (look 11): not simplified -/
/-! 259: gosem.cut.vars: not simplified -/
end Go.Proofs.YtigolfakcblnjaaGreatDoor.C
