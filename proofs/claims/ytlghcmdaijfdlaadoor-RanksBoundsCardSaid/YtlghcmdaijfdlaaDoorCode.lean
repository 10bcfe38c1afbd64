/-
  The simplified code of this seat's functions, and that it is what the program's code comes to. Printed by a program (wip/print.lean).
-/
import Derived.Test.YtlghcmdaijfdlaaDoorSxO
import Derived.Test.YtlghcmdaijfdlaaDoorProg
set_option maxRecDepth 100000
namespace Go.Proofs.YtlghcmdaijfdlaaDoor.C
open Go Go.Sx

theorem mixed : Tryd.prog.follows .mixedOrders = true := by kernel_rfl

/-! 2: gosem.cut.init -/
def f2r0 : List SOper := [
  ⟨(some 0), none, .call 1 []⟩]
def f2 : SCode := (.ops f2r0)
theorem f2_calls {args : List Value} {h : Heap} {R : Ending → Heap → Prop} (ha : args.length ≤ 1) (hs : swp Tryd.prog f2 (retQ [] R) (argEnv 0 args) [] h) : CallsH Tryd.prog 2 args h R :=
  calls_of_swp mixed Tryd.func2 rfl (by kernel_rfl) (by kernel_rfl) (by kernel_rfl) ha hs

/-! 3: tabor/taborlaw05.RanksTells -/
def f3r0 : List SOper := [
  ⟨(some 3), none, .box (.tmp 1)⟩,
  ⟨(some 4), none, .mv (.const (.bool false))⟩]
def f3r1 : List SOper := [
  ⟨(some 14), none, .mv (.tmp 0)⟩,
  ⟨(some 15), none, .call 7 [(.tmp 14)]⟩,
  ⟨(some 16), none, .un .not (.tmp 15)⟩,
  ⟨(some 17), none, .mv (.tmp 16)⟩,
  ⟨(some 18), (some (17, false)), .fa 0 (.tmp 3)⟩,
  ⟨(some 19), (some (17, false)), .ld1 (.tmp 18)⟩,
  ⟨(some 20), (some (17, false)), .lens (.tmp 19)⟩,
  ⟨(some 21), (some (17, false)), .cmp .gtr (.tmp 20) (.const (.int .i64 3000))⟩,
  ⟨(some 22), none, .pick (.tmp 17) (.const (.bool true)) (.tmp 21)⟩]
def f3r2 : List SOper := [
  ⟨(some 23), none, .call 8 []⟩,
  ⟨(some 4), none, .mv (.tmp 23)⟩]
def f3r3 : List SOper := [
  ⟨(some 25), none, .mv (.tmp 0)⟩,
  ⟨(some 26), none, .call 9 [(.tmp 25), (.const (.slice none 0 0))]⟩,
  ⟨(some 24), none, .mv (.tmp 26)⟩,
  ⟨(some 27), none, .ext (.tmp 24) 0⟩,
  ⟨(some 28), none, .ext (.tmp 24) 1⟩,
  ⟨(some 5), none, .mv (.tmp 27)⟩,
  ⟨(some 6), none, .mv (.tmp 28)⟩]
def f3r4 : List SOper := [
  ⟨(some 30), none, .mv (.tmp 0)⟩,
  ⟨(some 31), none, .call 10 [(.tmp 30)]⟩,
  ⟨(some 29), none, .mv (.tmp 31)⟩,
  ⟨(some 32), none, .ext (.tmp 29) 0⟩,
  ⟨(some 33), none, .ext (.tmp 29) 1⟩,
  ⟨(some 7), none, .mv (.tmp 32)⟩,
  ⟨(some 8), none, .mv (.tmp 33)⟩]
def f3r5 : List SOper := [
  ⟨(some 34), none, .mv (.tmp 6)⟩,
  ⟨(some 35), none, .call 11 [(.tmp 34)]⟩,
  ⟨(some 36), none, .mv (.tmp 8)⟩,
  ⟨(some 37), none, .cmp .neq (.tmp 35) (.tmp 36)⟩,
  ⟨(some 38), none, .mv (.tmp 37)⟩,
  ⟨(some 39), (some (38, false)), .mv (.tmp 8)⟩,
  ⟨(some 40), (some (38, false)), .cmp .neq (.tmp 39) (.const (.int .i64 0))⟩,
  ⟨(some 41), none, .pick (.tmp 38) (.const (.bool true)) (.tmp 40)⟩]
def f3r6 : List SOper := [
  ⟨(some 42), none, .mv (.tmp 6)⟩,
  ⟨(some 43), none, .call 11 [(.tmp 42)]⟩,
  ⟨(some 44), none, .mv (.tmp 8)⟩,
  ⟨(some 45), none, .cmp .eql (.tmp 43) (.tmp 44)⟩,
  ⟨(some 46), none, .mv (.tmp 45)⟩,
  ⟨(some 47), (some (46, true)), .call 8 []⟩,
  ⟨(some 48), none, .pick (.tmp 46) (.tmp 47) (.const (.bool false))⟩,
  ⟨(some 4), none, .mv (.tmp 48)⟩]
def f3r7 : List SOper := [
  ⟨(some 50), none, .mv (.tmp 5)⟩,
  ⟨(some 51), none, .fa 0 (.tmp 3)⟩,
  ⟨(some 52), none, .ld1 (.tmp 51)⟩,
  ⟨(some 53), none, .call 12 [(.tmp 50), (.tmp 52)]⟩,
  ⟨(some 49), none, .mv (.tmp 53)⟩,
  ⟨(some 54), none, .ext (.tmp 49) 0⟩,
  ⟨(some 55), none, .ext (.tmp 49) 1⟩,
  ⟨(some 9), none, .mv (.tmp 54)⟩,
  ⟨(some 10), none, .mv (.tmp 55)⟩]
def f3r8 : List SOper := [
  ⟨(some 57), none, .mv (.tmp 5)⟩,
  ⟨(some 58), none, .fa 0 (.tmp 3)⟩,
  ⟨(some 59), none, .ld1 (.tmp 58)⟩,
  ⟨(some 60), none, .call 13 [(.tmp 57), (.tmp 59)]⟩,
  ⟨(some 56), none, .mv (.tmp 60)⟩,
  ⟨(some 61), none, .ext (.tmp 56) 0⟩,
  ⟨(some 62), none, .ext (.tmp 56) 1⟩,
  ⟨(some 11), none, .mv (.tmp 61)⟩,
  ⟨(some 12), none, .mv (.tmp 62)⟩]
def f3r9 : List SOper := [
  ⟨(some 63), none, .mv (.tmp 7)⟩,
  ⟨(some 64), none, .fa 0 (.tmp 3)⟩,
  ⟨(some 65), none, .ld1 (.tmp 64)⟩,
  ⟨(some 66), none, .call 14 [(.tmp 63), (.tmp 65)]⟩,
  ⟨(some 13), none, .mv (.tmp 66)⟩]
def f3r10 : List SOper := [
  ⟨(some 67), none, .mv (.tmp 13)⟩,
  ⟨(some 68), none, .cmp .lss (.tmp 67) (.const (.int .i64 0))⟩,
  ⟨(some 69), none, .mv (.tmp 68)⟩,
  ⟨(some 70), (some (69, true)), .mv (.tmp 9)⟩,
  ⟨(some 71), (some (69, true)), .cmp .neq (.tmp 70) (.const (.int .i64 0))⟩,
  ⟨(some 72), (some (69, true)), .mv (.tmp 71)⟩,
  ⟨(some 73), (some (72, false)), .mv (.tmp 10)⟩,
  ⟨(some 74), (some (69, true)), .pick (.tmp 72) (.const (.bool true)) (.tmp 73)⟩,
  ⟨(some 75), (some (69, true)), .mv (.tmp 74)⟩,
  ⟨(some 76), (some (75, false)), .mv (.tmp 11)⟩,
  ⟨(some 77), (some (75, false)), .cmp .neq (.tmp 76) (.const (.int .i64 0))⟩,
  ⟨(some 78), (some (69, true)), .pick (.tmp 75) (.const (.bool true)) (.tmp 77)⟩,
  ⟨(some 79), (some (69, true)), .mv (.tmp 78)⟩,
  ⟨(some 80), (some (79, false)), .mv (.tmp 12)⟩,
  ⟨(some 81), (some (69, true)), .pick (.tmp 79) (.const (.bool true)) (.tmp 80)⟩,
  ⟨(some 82), none, .pick (.tmp 69) (.tmp 81) (.const (.bool false))⟩]
def f3r11 : List SOper := [
  ⟨(some 4), none, .mv (.const (.bool false))⟩]
def f3r12 : List SOper := [
  ⟨(some 83), none, .mv (.tmp 13)⟩,
  ⟨(some 84), none, .cmp .geq (.tmp 83) (.const (.int .i64 0))⟩,
  ⟨(some 85), none, .mv (.tmp 84)⟩,
  ⟨(some 86), (some (85, true)), .mv (.tmp 9)⟩,
  ⟨(some 87), (some (85, true)), .mv (.tmp 13)⟩,
  ⟨(some 88), (some (85, true)), .cmp .neq (.tmp 86) (.tmp 87)⟩,
  ⟨(some 89), (some (85, true)), .mv (.tmp 88)⟩,
  ⟨(some 90), (some (89, false)), .mv (.tmp 10)⟩,
  ⟨(some 91), (some (89, false)), .un .not (.tmp 90)⟩,
  ⟨(some 92), (some (85, true)), .pick (.tmp 89) (.const (.bool true)) (.tmp 91)⟩,
  ⟨(some 93), (some (85, true)), .mv (.tmp 92)⟩,
  ⟨(some 94), (some (93, false)), .mv (.tmp 11)⟩,
  ⟨(some 95), (some (93, false)), .mv (.tmp 7)⟩,
  ⟨(some 96), (some (93, false)), .mv (.tmp 13)⟩,
  ⟨(some 97), (some (93, false)), .ixs 2 (.tmp 95) (.tmp 96)⟩,
  ⟨(some 98), (some (93, false)), .fa 1 (.tmp 97)⟩,
  ⟨(some 99), (some (93, false)), .ld1 (.tmp 98)⟩,
  ⟨(some 100), (some (93, false)), .cmp .neq (.tmp 94) (.tmp 99)⟩,
  ⟨(some 101), (some (85, true)), .pick (.tmp 93) (.const (.bool true)) (.tmp 100)⟩,
  ⟨(some 102), (some (85, true)), .mv (.tmp 101)⟩,
  ⟨(some 103), (some (102, false)), .mv (.tmp 12)⟩,
  ⟨(some 104), (some (102, false)), .un .not (.tmp 103)⟩,
  ⟨(some 105), (some (85, true)), .pick (.tmp 102) (.const (.bool true)) (.tmp 104)⟩,
  ⟨(some 106), none, .pick (.tmp 85) (.tmp 105) (.const (.bool false))⟩]
def f3r13 : List SOper := [
  ⟨(some 4), none, .mv (.const (.bool false))⟩]
def f3r14 : List SOper := [
  ⟨(some 107), none, .mv (.tmp 5)⟩,
  ⟨(some 108), none, .fa 1 (.tmp 3)⟩,
  ⟨(some 109), none, .ld1 (.tmp 108)⟩,
  ⟨(some 110), none, .fa 2 (.tmp 3)⟩,
  ⟨(some 111), none, .ld1 (.tmp 110)⟩,
  ⟨(some 113), none, .mv (.tmp 7)⟩,
  ⟨(some 114), none, .fa 1 (.tmp 3)⟩,
  ⟨(some 115), none, .ld1 (.tmp 114)⟩,
  ⟨(some 116), none, .fa 2 (.tmp 3)⟩,
  ⟨(some 117), none, .ld1 (.tmp 116)⟩,
  ⟨(some 112), none, .callq 16 [(.tmp 107), (.tmp 109), (.tmp 111)]⟩,
  ⟨(some 118), none, .callq 17 [(.tmp 113), (.tmp 115), (.tmp 117)]⟩,
  ⟨(some 119), none, .callq 15 [(.tmp 112), (.tmp 118)]⟩,
  ⟨(some 120), none, .mv (.tmp 119)⟩,
  ⟨(some 121), (some (120, true)), .mv (.tmp 5)⟩,
  ⟨(some 122), (some (120, true)), .fa 3 (.tmp 3)⟩,
  ⟨(some 123), (some (120, true)), .ld1 (.tmp 122)⟩,
  ⟨(some 124), (some (120, true)), .fa 4 (.tmp 3)⟩,
  ⟨(some 125), (some (120, true)), .ld1 (.tmp 124)⟩,
  ⟨(some 127), (some (120, true)), .mv (.tmp 7)⟩,
  ⟨(some 128), (some (120, true)), .fa 3 (.tmp 3)⟩,
  ⟨(some 129), (some (120, true)), .ld1 (.tmp 128)⟩,
  ⟨(some 130), (some (120, true)), .fa 4 (.tmp 3)⟩,
  ⟨(some 131), (some (120, true)), .ld1 (.tmp 130)⟩,
  ⟨(some 126), (some (120, true)), .callq 18 [(.tmp 121), (.tmp 123), (.tmp 125)]⟩,
  ⟨(some 132), (some (120, true)), .callq 19 [(.tmp 127), (.tmp 129), (.tmp 131)]⟩,
  ⟨(some 133), (some (120, true)), .callq 15 [(.tmp 126), (.tmp 132)]⟩,
  ⟨(some 134), none, .pick (.tmp 120) (.tmp 133) (.const (.bool false))⟩,
  ⟨(some 135), none, .mv (.tmp 134)⟩,
  ⟨(some 136), (some (135, true)), .callq 8 []⟩,
  ⟨(some 137), none, .pick (.tmp 135) (.tmp 136) (.const (.bool false))⟩,
  ⟨(some 4), none, .mv (.tmp 137)⟩]
def f3 : SCode := (.seq (.ops f3r0) (.seq (.seq (.ops f3r1) (.cond (.tmp 22) (.seq (.ops f3r2) .ret) .skip)) (.seq (.ops f3r3) (.seq (.ops f3r4) (.seq (.seq (.ops f3r5) (.cond (.tmp 41) (.seq (.ops f3r6) .ret) .skip)) (.seq (.ops f3r7) (.seq (.ops f3r8) (.seq (.ops f3r9) (.seq (.seq (.ops f3r10) (.cond (.tmp 82) (.seq (.ops f3r11) .ret) .skip)) (.seq (.seq (.ops f3r12) (.cond (.tmp 106) (.seq (.ops f3r13) .ret) .skip)) (.seq (.ops f3r14) .ret)))))))))))
theorem f3_calls {args : List Value} {h : Heap} {R : Ending → Heap → Prop} (ha : args.length ≤ 138) (hs : swp Tryd.prog f3 (retQ [.t 4] R) (argEnv 0 args) [] h) : CallsH Tryd.prog 3 args h R :=
  calls_of_swp mixed Tryd.func3 rfl (by kernel_rfl) (by kernel_rfl) (by kernel_rfl) ha hs

/-! 4: tabor/taborlaw05.RanksDrops -/
def f4r0 : List SOper := [
  ⟨(some 4), none, .mv (.const (.bool false))⟩]
def f4r1 : List SOper := [
  ⟨(some 9), none, .mv (.tmp 0)⟩,
  ⟨(some 10), none, .call 7 [(.tmp 9)]⟩,
  ⟨(some 11), none, .un .not (.tmp 10)⟩,
  ⟨(some 12), none, .mv (.tmp 11)⟩,
  ⟨(some 13), (some (12, false)), .mv (.tmp 1)⟩,
  ⟨(some 14), (some (12, false)), .lens (.tmp 13)⟩,
  ⟨(some 15), (some (12, false)), .cmp .gtr (.tmp 14) (.const (.int .i64 3000))⟩,
  ⟨(some 16), none, .pick (.tmp 12) (.const (.bool true)) (.tmp 15)⟩]
def f4r2 : List SOper := [
  ⟨(some 17), none, .call 8 []⟩,
  ⟨(some 4), none, .mv (.tmp 17)⟩]
def f4r3 : List SOper := [
  ⟨(some 19), none, .mv (.tmp 0)⟩,
  ⟨(some 20), none, .call 9 [(.tmp 19), (.const (.slice none 0 0))]⟩,
  ⟨(some 18), none, .mv (.tmp 20)⟩,
  ⟨(some 21), none, .ext (.tmp 18) 0⟩,
  ⟨(some 22), none, .ext (.tmp 18) 1⟩,
  ⟨(some 5), none, .mv (.tmp 21)⟩,
  ⟨(some 6), none, .mv (.tmp 22)⟩]
def f4r4 : List SOper := [
  ⟨(some 24), none, .mv (.tmp 0)⟩,
  ⟨(some 25), none, .call 10 [(.tmp 24)]⟩,
  ⟨(some 23), none, .mv (.tmp 25)⟩,
  ⟨(some 26), none, .ext (.tmp 23) 0⟩,
  ⟨(some 27), none, .ext (.tmp 23) 1⟩,
  ⟨(some 7), none, .mv (.tmp 26)⟩,
  ⟨(some 8), none, .mv (.tmp 27)⟩]
def f4r5 : List SOper := [
  ⟨(some 28), none, .mv (.tmp 6)⟩,
  ⟨(some 29), none, .call 11 [(.tmp 28)]⟩,
  ⟨(some 30), none, .mv (.tmp 8)⟩,
  ⟨(some 31), none, .cmp .neq (.tmp 29) (.tmp 30)⟩,
  ⟨(some 32), none, .mv (.tmp 31)⟩,
  ⟨(some 33), (some (32, false)), .mv (.tmp 8)⟩,
  ⟨(some 34), (some (32, false)), .cmp .neq (.tmp 33) (.const (.int .i64 0))⟩,
  ⟨(some 35), none, .pick (.tmp 32) (.const (.bool true)) (.tmp 34)⟩]
def f4r6 : List SOper := [
  ⟨(some 36), none, .mv (.tmp 6)⟩,
  ⟨(some 37), none, .call 11 [(.tmp 36)]⟩,
  ⟨(some 38), none, .mv (.tmp 8)⟩,
  ⟨(some 39), none, .cmp .eql (.tmp 37) (.tmp 38)⟩,
  ⟨(some 40), none, .mv (.tmp 39)⟩,
  ⟨(some 41), (some (40, true)), .call 8 []⟩,
  ⟨(some 42), none, .pick (.tmp 40) (.tmp 41) (.const (.bool false))⟩,
  ⟨(some 4), none, .mv (.tmp 42)⟩]
def f4r7 : List SOper := [
  ⟨(some 43), none, .mv (.tmp 5)⟩,
  ⟨(some 44), none, .mv (.tmp 1)⟩,
  ⟨(some 45), none, .call 20 [(.tmp 43), (.tmp 44)]⟩,
  ⟨(some 46), none, .mv (.tmp 7)⟩,
  ⟨(some 47), none, .mv (.tmp 1)⟩,
  ⟨(some 48), none, .call 14 [(.tmp 46), (.tmp 47)]⟩,
  ⟨(some 49), none, .cmp .geq (.tmp 48) (.const (.int .i64 0))⟩,
  ⟨(some 50), none, .cmpb false (.tmp 45) (.tmp 49)⟩,
  ⟨(some 51), none, .mv (.tmp 50)⟩,
  ⟨(some 52), (some (51, true)), .mv (.tmp 5)⟩,
  ⟨(some 53), (some (51, true)), .mv (.tmp 7)⟩,
  ⟨(some 54), (some (51, true)), .mv (.tmp 1)⟩,
  ⟨(some 55), (some (51, true)), .call 22 [(.tmp 53), (.tmp 54)]⟩,
  ⟨(some 56), (some (51, true)), .call 21 [(.tmp 52), (.tmp 55)]⟩,
  ⟨(some 57), none, .pick (.tmp 51) (.tmp 56) (.const (.bool false))⟩,
  ⟨(some 58), none, .mv (.tmp 57)⟩,
  ⟨(some 59), (some (58, true)), .call 8 []⟩,
  ⟨(some 60), none, .pick (.tmp 58) (.tmp 59) (.const (.bool false))⟩,
  ⟨(some 4), none, .mv (.tmp 60)⟩]
def f4 : SCode := (.seq (.ops f4r0) (.seq (.seq (.ops f4r1) (.cond (.tmp 16) (.seq (.ops f4r2) .ret) .skip)) (.seq (.ops f4r3) (.seq (.ops f4r4) (.seq (.seq (.ops f4r5) (.cond (.tmp 35) (.seq (.ops f4r6) .ret) .skip)) (.seq (.ops f4r7) .ret))))))
theorem f4_calls {args : List Value} {h : Heap} {R : Ending → Heap → Prop} (ha : args.length ≤ 61) (hs : swp Tryd.prog f4 (retQ [.t 4] R) (argEnv 0 args) [] h) : CallsH Tryd.prog 4 args h R :=
  calls_of_swp mixed Tryd.func4 rfl (by kernel_rfl) (by kernel_rfl) (by kernel_rfl) ha hs

/-! 5: tabor/taborlaw05.RanksPlays -/
def f5r0 : List SOper := [
  ⟨(some 2), none, .mv (.const (.bool false))⟩]
def f5r1 : List SOper := [
  ⟨(some 3), none, .mv (.const (.int .i64 0))⟩]
def f5r2 : List SOper := [
  ⟨(some 4), none, .mv (.const (.int .i64 0))⟩]
def f5r3 : List SOper := [
  ⟨(some 15), none, .mv (.tmp 4)⟩,
  ⟨(some 16), none, .mv (.tmp 0)⟩,
  ⟨(some 17), none, .len (.tmp 16)⟩,
  ⟨(some 18), none, .cmp .lss (.tmp 15) (.tmp 17)⟩,
  ⟨(some 19), none, .mv (.tmp 18)⟩,
  ⟨(some 20), (some (19, true)), .mv (.tmp 3)⟩,
  ⟨(some 21), (some (19, true)), .cmp .leq (.tmp 20) (.const (.int .i64 3000))⟩,
  ⟨(some 22), none, .pick (.tmp 19) (.tmp 21) (.const (.bool false))⟩]
def f5r4 : List SOper := [
  ⟨(some 25), none, .mv (.tmp 3)⟩,
  ⟨(some 26), none, .ar .add (.tmp 25) (.const (.int .i64 50))⟩,
  ⟨(some 27), none, .mv (.tmp 0)⟩,
  ⟨(some 28), none, .mv (.tmp 4)⟩,
  ⟨(some 29), none, .ixs 4 (.tmp 27) (.tmp 28)⟩,
  ⟨(some 30), none, .fa 2 (.tmp 29)⟩,
  ⟨(some 31), none, .fa 0 (.tmp 30)⟩,
  ⟨(some 32), none, .ld1 (.tmp 31)⟩,
  ⟨(some 33), none, .lens (.tmp 32)⟩,
  ⟨(some 34), none, .ar .add (.tmp 26) (.tmp 33)⟩,
  ⟨(some 3), none, .mv (.tmp 34)⟩]
def f5r5 : List SOper := [
  ⟨(some 23), none, .mv (.tmp 4)⟩,
  ⟨(some 24), none, .ar .add (.tmp 23) (.const (.int .i64 1))⟩,
  ⟨(some 4), none, .mv (.tmp 24)⟩]
def f5l6 : SCode := (.seq (.seq (.ops f5r3) (.cond (.tmp 22) .skip (.exit 0))) (.seq (.block 1 (.ops f5r4)) (.ops f5r5)))
def f5r7 : List SOper := [
  ⟨(some 35), none, .mv (.tmp 3)⟩,
  ⟨(some 36), none, .cmp .gtr (.tmp 35) (.const (.int .i64 3000))⟩]
def f5r8 : List SOper := [
  ⟨(some 37), none, .call 8 []⟩,
  ⟨(some 2), none, .mv (.tmp 37)⟩]
def f5r9 : List SOper := [
  ⟨(some 39), none, .call 9 [(.const (.slice none 0 0)), (.const (.slice none 0 0))]⟩,
  ⟨(some 38), none, .mv (.tmp 39)⟩,
  ⟨(some 40), none, .ext (.tmp 38) 0⟩,
  ⟨(some 41), none, .ext (.tmp 38) 1⟩,
  ⟨(some 5), none, .mv (.tmp 40)⟩,
  ⟨(some 6), none, .mv (.tmp 41)⟩]
def f5r10 : List SOper := [
  ⟨(some 7), none, .mv (.const (.slice none 0 0))⟩]
def f5r11 : List SOper := [
  ⟨(some 8), none, .mv (.const (.int .i64 0))⟩]
def f5r12 : List SOper := [
  ⟨(some 42), none, .mv (.tmp 8)⟩,
  ⟨(some 43), none, .mv (.tmp 0)⟩,
  ⟨(some 44), none, .len (.tmp 43)⟩,
  ⟨(some 45), none, .cmp .lss (.tmp 42) (.tmp 44)⟩]
def f5r13 : List SOper := [
  ⟨(some 48), none, .mv (.tmp 0)⟩,
  ⟨(some 49), none, .mv (.tmp 8)⟩,
  ⟨(some 50), none, .ixs 4 (.tmp 48) (.tmp 49)⟩,
  ⟨(some 51), none, .fa 2 (.tmp 50)⟩,
  ⟨(some 52), none, .ldn 2 (.tmp 51)⟩,
  ⟨(some 9), none, .new [(.string ⟨#[]⟩), (.int .i64 0)]⟩,
  ⟨none, none, .st 2 (.tmp 9) (.tmp 52)⟩]
def f5r14 : List SOper := [
  ⟨(some 53), none, .mv (.tmp 7)⟩,
  ⟨(some 54), none, .fa 0 (.tmp 9)⟩,
  ⟨(some 55), none, .ld1 (.tmp 54)⟩,
  ⟨(some 56), none, .call 14 [(.tmp 53), (.tmp 55)]⟩,
  ⟨(some 57), none, .cmp .geq (.tmp 56) (.const (.int .i64 0))⟩,
  ⟨(some 10), none, .mv (.tmp 57)⟩]
def f5r15 : List SOper := [
  ⟨(some 58), none, .mv (.tmp 0)⟩,
  ⟨(some 59), none, .mv (.tmp 8)⟩,
  ⟨(some 60), none, .ixs 4 (.tmp 58) (.tmp 59)⟩,
  ⟨(some 61), none, .fa 0 (.tmp 60)⟩,
  ⟨(some 62), none, .ld1 (.tmp 61)⟩,
  ⟨(some 63), none, .cmp .eql (.tmp 62) (.const (.int .i64 1))⟩]
def f5r16 : List SOper := [
  ⟨(some 64), none, .mv (.tmp 7)⟩,
  ⟨(some 65), none, .fa 0 (.tmp 9)⟩,
  ⟨(some 66), none, .ld1 (.tmp 65)⟩,
  ⟨(some 67), none, .call 22 [(.tmp 64), (.tmp 66)]⟩,
  ⟨(some 7), none, .mv (.tmp 67)⟩]
def f5r17 : List SOper := [
  ⟨(some 68), none, .mv (.tmp 5)⟩,
  ⟨(some 69), none, .fa 0 (.tmp 9)⟩,
  ⟨(some 70), none, .ld1 (.tmp 69)⟩,
  ⟨(some 71), none, .call 20 [(.tmp 68), (.tmp 70)]⟩,
  ⟨(some 72), none, .mv (.tmp 10)⟩,
  ⟨(some 73), none, .cmpb true (.tmp 71) (.tmp 72)⟩]
def f5r18 : List SOper := [
  ⟨(some 2), none, .mv (.const (.bool false))⟩]
def f5r19 : List SOper := [
  ⟨(some 75), none, .mv (.tmp 7)⟩,
  ⟨(some 76), none, .ldn 2 (.tmp 9)⟩,
  ⟨(some 77), none, .call 23 [(.tmp 75), (.tmp 76)]⟩,
  ⟨(some 74), none, .mv (.tmp 77)⟩,
  ⟨(some 78), none, .ext (.tmp 74) 0⟩,
  ⟨(some 79), none, .ext (.tmp 74) 1⟩,
  ⟨(some 11), none, .mv (.tmp 78)⟩,
  ⟨(some 12), none, .mv (.tmp 79)⟩]
def f5r20 : List SOper := [
  ⟨(some 80), none, .mv (.tmp 11)⟩,
  ⟨(some 7), none, .mv (.tmp 80)⟩]
def f5r21 : List SOper := [
  ⟨(some 82), none, .mv (.tmp 5)⟩,
  ⟨(some 83), none, .fa 0 (.tmp 9)⟩,
  ⟨(some 84), none, .ld1 (.tmp 83)⟩,
  ⟨(some 85), none, .fa 1 (.tmp 9)⟩,
  ⟨(some 86), none, .ld1 (.tmp 85)⟩,
  ⟨(some 87), none, .mv (.tmp 0)⟩,
  ⟨(some 88), none, .mv (.tmp 8)⟩,
  ⟨(some 89), none, .ixs 4 (.tmp 87) (.tmp 88)⟩,
  ⟨(some 90), none, .fa 1 (.tmp 89)⟩,
  ⟨(some 91), none, .ld1 (.tmp 90)⟩,
  ⟨(some 92), none, .call 24 [(.tmp 82), (.tmp 84), (.tmp 86), (.tmp 91)]⟩,
  ⟨(some 81), none, .mv (.tmp 92)⟩,
  ⟨(some 93), none, .ext (.tmp 81) 0⟩,
  ⟨(some 94), none, .ext (.tmp 81) 1⟩,
  ⟨(some 13), none, .mv (.tmp 93)⟩,
  ⟨(some 14), none, .mv (.tmp 94)⟩]
def f5r22 : List SOper := [
  ⟨(some 95), none, .mv (.tmp 13)⟩,
  ⟨(some 96), none, .mv (.tmp 10)⟩,
  ⟨(some 97), none, .cmpb false (.tmp 95) (.tmp 96)⟩,
  ⟨(some 98), none, .mv (.tmp 97)⟩,
  ⟨(some 99), (some (98, false)), .mv (.tmp 14)⟩,
  ⟨(some 100), (some (98, false)), .call 11 [(.tmp 99)]⟩,
  ⟨(some 101), (some (98, false)), .cmp .neq (.tmp 100) (.const (.int .i64 0))⟩,
  ⟨(some 102), none, .pick (.tmp 98) (.const (.bool true)) (.tmp 101)⟩]
def f5r23 : List SOper := [
  ⟨(some 2), none, .mv (.const (.bool false))⟩]
def f5r24 : List SOper := [
  ⟨(some 46), none, .mv (.tmp 8)⟩,
  ⟨(some 47), none, .ar .add (.tmp 46) (.const (.int .i64 1))⟩,
  ⟨(some 8), none, .mv (.tmp 47)⟩]
def f5l25 : SCode := (.seq (.seq (.ops f5r12) (.cond (.tmp 45) .skip (.exit 2))) (.seq (.block 3 (.seq (.ops f5r13) (.seq (.ops f5r14) (.seq (.seq (.ops f5r15) (.cond (.tmp 63) (.seq (.ops f5r16) (.seq (.seq (.ops f5r17) (.cond (.tmp 73) (.seq (.ops f5r18) .ret) .skip)) (.exit 3))) .skip)) (.seq (.ops f5r19) (.seq (.ops f5r20) (.seq (.ops f5r21) (.seq (.ops f5r22) (.cond (.tmp 102) (.seq (.ops f5r23) .ret) .skip))))))))) (.ops f5r24)))
def f5r26 : List SOper := [
  ⟨(some 103), none, .mv (.tmp 6)⟩,
  ⟨(some 104), none, .call 11 [(.tmp 103)]⟩,
  ⟨(some 105), none, .cmp .eql (.tmp 104) (.const (.int .i64 0))⟩,
  ⟨(some 106), none, .mv (.tmp 105)⟩,
  ⟨(some 107), (some (106, true)), .mv (.tmp 5)⟩,
  ⟨(some 108), (some (106, true)), .mv (.tmp 7)⟩,
  ⟨(some 109), (some (106, true)), .call 21 [(.tmp 107), (.tmp 108)]⟩,
  ⟨(some 110), none, .pick (.tmp 106) (.tmp 109) (.const (.bool false))⟩,
  ⟨(some 111), none, .mv (.tmp 110)⟩,
  ⟨(some 112), (some (111, true)), .call 8 []⟩,
  ⟨(some 113), none, .pick (.tmp 111) (.tmp 112) (.const (.bool false))⟩,
  ⟨(some 2), none, .mv (.tmp 113)⟩]
def f5 : SCode := (.seq (.ops f5r0) (.seq (.ops f5r1) (.seq (.seq (.ops f5r2) (.block 0 (.loop f5l6))) (.seq (.seq (.ops f5r7) (.cond (.tmp 36) (.seq (.ops f5r8) .ret) .skip)) (.seq (.ops f5r9) (.seq (.ops f5r10) (.seq (.seq (.ops f5r11) (.block 2 (.loop f5l25))) (.seq (.ops f5r26) .ret))))))))
theorem f5_calls {args : List Value} {h : Heap} {R : Ending → Heap → Prop} (ha : args.length ≤ 114) (hs : swp Tryd.prog f5 (retQ [.t 2] R) (argEnv 0 args) [] h) : CallsH Tryd.prog 5 args h R :=
  calls_of_swp mixed Tryd.func5 rfl (by kernel_rfl) (by kernel_rfl) (by kernel_rfl) ha hs

/-! 6: tabor/taborlaw05.RanksBounds -/
def f6r0 : List SOper := [
  ⟨(some 0), none, .mv (.const (.bool false))⟩]
def f6r1 : List SOper := [
  ⟨(some 27), none, .mks 24 [(.string ⟨#[]⟩), (.int .i64 0)] (.const (.int .i64 65537)) (.const (.int .i64 65537))⟩,
  ⟨(some 1), none, .mv (.tmp 27)⟩]
def f6r2 : List SOper := [
  ⟨(some 28), none, .mks 8 [(.int .i64 0)] (.const (.int .i64 65537)) (.const (.int .i64 65537))⟩,
  ⟨(some 2), none, .mv (.tmp 28)⟩]
def f6r3 : List SOper := [
  ⟨(some 3), none, .mv (.const (.int .i64 0))⟩]
def f6r4 : List SOper := [
  ⟨(some 29), none, .mv (.tmp 3)⟩,
  ⟨(some 30), none, .mv (.tmp 1)⟩,
  ⟨(some 31), none, .len (.tmp 30)⟩,
  ⟨(some 32), none, .cmp .lss (.tmp 29) (.tmp 31)⟩]
def f6r5 : List SOper := [
  ⟨(some 35), none, .mv (.tmp 1)⟩,
  ⟨(some 36), none, .mv (.tmp 3)⟩,
  ⟨(some 37), none, .mv (.tmp 3)⟩,
  ⟨(some 38), none, .sh .i64 false 16 (.tmp 37)⟩,
  ⟨(some 39), none, .cvt .u8 (.tmp 38)⟩,
  ⟨(some 40), none, .mv (.tmp 3)⟩,
  ⟨(some 41), none, .sh .i64 false 8 (.tmp 40)⟩,
  ⟨(some 42), none, .cvt .u8 (.tmp 41)⟩,
  ⟨(some 43), none, .mv (.tmp 3)⟩,
  ⟨(some 44), none, .cvt .u8 (.tmp 43)⟩,
  ⟨(some 45), none, .bslice [(.int .u8 0), (.int .u8 0), (.int .u8 0)] 3 [(0, 1), (1, 1), (2, 1)] [(.tmp 39), (.tmp 42), (.tmp 44)]⟩,
  ⟨(some 46), none, .bstr (.tmp 45)⟩,
  ⟨(some 47), none, .mv (.tmp 3)⟩,
  ⟨(some 48), none, .rem (.tmp 47) (.const (.int .i64 7))⟩,
  ⟨(some 49), none, .build [(.string ⟨#[]⟩), (.int .i64 0)] [(0, 1), (1, 1)] [(.tmp 46), (.tmp 48)]⟩,
  ⟨(some 50), none, .ixs 2 (.tmp 35) (.tmp 36)⟩,
  ⟨none, none, .st 2 (.tmp 50) (.tmp 49)⟩]
def f6r6 : List SOper := [
  ⟨(some 51), none, .mv (.tmp 3)⟩,
  ⟨(some 52), none, .ar .add (.tmp 51) (.const (.int .i64 1))⟩,
  ⟨(some 4), none, .mv (.tmp 52)⟩]
def f6r7 : List SOper := [
  ⟨(some 53), none, .mv (.tmp 4)⟩,
  ⟨(some 54), none, .rem (.tmp 53) (.const (.int .i64 2))⟩,
  ⟨(some 55), none, .cmp .eql (.tmp 54) (.const (.int .i64 0))⟩]
def f6r8 : List SOper := [
  ⟨(some 58), none, .mv (.tmp 2)⟩,
  ⟨(some 59), none, .mv (.tmp 3)⟩,
  ⟨(some 60), none, .ixs 1 (.tmp 58) (.tmp 59)⟩,
  ⟨(some 61), none, .ld1 (.tmp 60)⟩,
  ⟨(some 62), none, .ar .add (.tmp 61) (.const (.int .i64 1))⟩,
  ⟨(some 63), none, .ixs 1 (.tmp 58) (.tmp 59)⟩,
  ⟨none, none, .st 1 (.tmp 63) (.tmp 62)⟩]
def f6r9 : List SOper := [
  ⟨(some 56), none, .mv (.tmp 4)⟩,
  ⟨(some 57), none, .quo (.tmp 56) (.const (.int .i64 2))⟩,
  ⟨(some 4), none, .mv (.tmp 57)⟩]
def f6l10 : SCode := (.seq (.seq (.ops f6r7) (.cond (.tmp 55) .skip (.exit 2))) (.seq (.block 3 (.ops f6r8)) (.ops f6r9)))
def f6r11 : List SOper := [
  ⟨(some 33), none, .mv (.tmp 3)⟩,
  ⟨(some 34), none, .ar .add (.tmp 33) (.const (.int .i64 1))⟩,
  ⟨(some 3), none, .mv (.tmp 34)⟩]
def f6l12 : SCode := (.seq (.seq (.ops f6r4) (.cond (.tmp 32) .skip (.exit 0))) (.seq (.block 1 (.seq (.ops f6r5) (.seq (.ops f6r6) (.block 2 (.loop f6l10))))) (.ops f6r11)))
def f6r13 : List SOper := [
  ⟨(some 65), none, .mv (.tmp 1)⟩,
  ⟨(some 66), none, .slc 2 (.tmp 65) none (some (.const (.int .i64 65536)))⟩,
  ⟨(some 67), none, .mv (.tmp 2)⟩,
  ⟨(some 68), none, .call 9 [(.tmp 66), (.tmp 67)]⟩,
  ⟨(some 64), none, .mv (.tmp 68)⟩,
  ⟨(some 69), none, .ext (.tmp 64) 0⟩,
  ⟨(some 70), none, .ext (.tmp 64) 1⟩,
  ⟨(some 5), none, .mv (.tmp 69)⟩,
  ⟨(some 6), none, .mv (.tmp 70)⟩]
def f6r14 : List SOper := [
  ⟨(some 72), none, .mv (.tmp 1)⟩,
  ⟨(some 73), none, .call 9 [(.tmp 72), (.const (.slice none 0 0))]⟩,
  ⟨(some 71), none, .mv (.tmp 73)⟩,
  ⟨(some 74), none, .ext (.tmp 71) 0⟩,
  ⟨(some 75), none, .ext (.tmp 71) 1⟩,
  ⟨(some 7), none, .mv (.tmp 74)⟩,
  ⟨(some 8), none, .mv (.tmp 75)⟩]
def f6r15 : List SOper := [
  ⟨(some 77), none, .mv (.tmp 5)⟩,
  ⟨(some 78), none, .call 24 [(.tmp 77), (.const (.string ⟨#[111, 110, 101, 32, 109, 111, 114, 101]⟩)), (.const (.int .i64 0)), (.const (.int .i64 0))]⟩,
  ⟨(some 76), none, .mv (.tmp 78)⟩,
  ⟨(some 79), none, .ext (.tmp 76) 0⟩,
  ⟨(some 80), none, .ext (.tmp 76) 1⟩,
  ⟨(some 9), none, .mv (.tmp 79)⟩,
  ⟨(some 10), none, .mv (.tmp 80)⟩]
def f6r16 : List SOper := [
  ⟨(some 82), none, .mv (.tmp 5)⟩,
  ⟨(some 83), none, .mv (.tmp 1)⟩,
  ⟨(some 84), none, .ixs 2 (.tmp 83) (.const (.int .i64 5))⟩,
  ⟨(some 85), none, .fa 0 (.tmp 84)⟩,
  ⟨(some 86), none, .ld1 (.tmp 85)⟩,
  ⟨(some 87), none, .call 24 [(.tmp 82), (.tmp 86), (.const (.int .i64 9)), (.const (.int .i64 0))]⟩,
  ⟨(some 81), none, .mv (.tmp 87)⟩,
  ⟨(some 88), none, .ext (.tmp 81) 0⟩,
  ⟨(some 89), none, .ext (.tmp 81) 1⟩,
  ⟨(some 11), none, .mv (.tmp 88)⟩,
  ⟨(some 12), none, .mv (.tmp 89)⟩]
def f6r17 : List SOper := [
  ⟨(some 90), none, .mks 1 [(.int .u8 0)] (.const (.int .i64 1048577)) (.const (.int .i64 1048577))⟩,
  ⟨(some 91), none, .bstr (.tmp 90)⟩,
  ⟨(some 13), none, .mv (.tmp 91)⟩]
def f6r18 : List SOper := [
  ⟨(some 93), none, .mv (.tmp 13)⟩,
  ⟨(some 94), none, .sls (.tmp 93) none (some (.const (.int .i64 1048576)))⟩,
  ⟨(some 95), none, .build [(.string ⟨#[]⟩), (.int .i64 0)] [(0, 1)] [(.tmp 94)]⟩,
  ⟨(some 96), none, .bslice [(.string ⟨#[]⟩), (.int .i64 0)] 1 [(0, 2)] [(.tmp 95)]⟩,
  ⟨(some 97), none, .call 9 [(.tmp 96), (.const (.slice none 0 0))]⟩,
  ⟨(some 92), none, .mv (.tmp 97)⟩,
  ⟨(some 98), none, .ext (.tmp 92) 0⟩,
  ⟨(some 99), none, .ext (.tmp 92) 1⟩,
  ⟨(some 14), none, .mv (.tmp 98)⟩,
  ⟨(some 15), none, .mv (.tmp 99)⟩]
def f6r19 : List SOper := [
  ⟨(some 101), none, .mv (.tmp 13)⟩,
  ⟨(some 102), none, .build [(.string ⟨#[]⟩), (.int .i64 0)] [(0, 1)] [(.tmp 101)]⟩,
  ⟨(some 103), none, .bslice [(.string ⟨#[]⟩), (.int .i64 0)] 1 [(0, 2)] [(.tmp 102)]⟩,
  ⟨(some 104), none, .call 9 [(.tmp 103), (.const (.slice none 0 0))]⟩,
  ⟨(some 100), none, .mv (.tmp 104)⟩,
  ⟨(some 105), none, .ext (.tmp 100) 0⟩,
  ⟨(some 106), none, .ext (.tmp 100) 1⟩,
  ⟨(some 16), none, .mv (.tmp 105)⟩,
  ⟨(some 17), none, .mv (.tmp 106)⟩]
def f6r20 : List SOper := [
  ⟨(some 108), none, .mv (.tmp 14)⟩,
  ⟨(some 109), none, .mv (.tmp 13)⟩,
  ⟨(some 110), none, .call 24 [(.tmp 108), (.tmp 109), (.const (.int .i64 0)), (.const (.int .i64 0))]⟩,
  ⟨(some 107), none, .mv (.tmp 110)⟩,
  ⟨(some 111), none, .ext (.tmp 107) 0⟩,
  ⟨(some 112), none, .ext (.tmp 107) 1⟩,
  ⟨(some 18), none, .mv (.tmp 111)⟩,
  ⟨(some 19), none, .mv (.tmp 112)⟩]
def f6r21 : List SOper := [
  ⟨(some 20), none, .mv (.const (.pointer none))⟩]
def f6r22 : List SOper := [
  ⟨(some 114), none, .mv (.tmp 20)⟩,
  ⟨(some 115), none, .call 24 [(.tmp 114), (.const (.string ⟨#[97]⟩)), (.const (.int .i64 0)), (.const (.int .i64 0))]⟩,
  ⟨(some 113), none, .mv (.tmp 115)⟩,
  ⟨(some 116), none, .ext (.tmp 113) 0⟩,
  ⟨(some 117), none, .ext (.tmp 113) 1⟩,
  ⟨(some 21), none, .mv (.tmp 116)⟩,
  ⟨(some 22), none, .mv (.tmp 117)⟩]
def f6r23 : List SOper := [
  ⟨(some 119), none, .mv (.tmp 20)⟩,
  ⟨(some 120), none, .call 12 [(.tmp 119), (.const (.string ⟨#[97]⟩))]⟩,
  ⟨(some 118), none, .mv (.tmp 120)⟩,
  ⟨(some 121), none, .ext (.tmp 118) 0⟩,
  ⟨(some 122), none, .ext (.tmp 118) 1⟩,
  ⟨(some 23), none, .mv (.tmp 121)⟩,
  ⟨(some 24), none, .mv (.tmp 122)⟩]
def f6r24 : List SOper := [
  ⟨(some 124), none, .mv (.tmp 20)⟩,
  ⟨(some 125), none, .call 25 [(.tmp 124)]⟩,
  ⟨(some 123), none, .mv (.tmp 125)⟩,
  ⟨(some 126), none, .ext (.tmp 123) 0⟩,
  ⟨(some 127), none, .ext (.tmp 123) 1⟩,
  ⟨(some 25), none, .mv (.tmp 126)⟩,
  ⟨(some 26), none, .mv (.tmp 127)⟩]
def f6r25 : List SOper := [
  ⟨(some 128), none, .mv (.tmp 6)⟩,
  ⟨(some 129), none, .call 11 [(.tmp 128)]⟩,
  ⟨(some 130), none, .cmp .eql (.tmp 129) (.const (.int .i64 0))⟩,
  ⟨(some 131), none, .mv (.tmp 130)⟩,
  ⟨(some 132), (some (131, true)), .mv (.tmp 5)⟩,
  ⟨(some 133), (some (131, true)), .call 26 [(.tmp 132)]⟩,
  ⟨(some 134), (some (131, true)), .cmp .eql (.tmp 133) (.const (.int .i64 65536))⟩,
  ⟨(some 135), none, .pick (.tmp 131) (.tmp 134) (.const (.bool false))⟩,
  ⟨(some 136), none, .mv (.tmp 135)⟩,
  ⟨(some 137), (some (136, true)), .mv (.tmp 7)⟩,
  ⟨(some 138), (some (136, true)), .eqn 0 false (.tmp 137)⟩,
  ⟨(some 139), none, .pick (.tmp 136) (.tmp 138) (.const (.bool false))⟩,
  ⟨(some 140), none, .mv (.tmp 139)⟩,
  ⟨(some 141), (some (140, true)), .mv (.tmp 8)⟩,
  ⟨(some 142), (some (140, true)), .call 11 [(.tmp 141)]⟩,
  ⟨(some 143), (some (140, true)), .cmp .eql (.tmp 142) (.const (.int .i64 3))⟩,
  ⟨(some 144), none, .pick (.tmp 140) (.tmp 143) (.const (.bool false))⟩,
  ⟨(some 145), none, .mv (.tmp 144)⟩,
  ⟨(some 146), (some (145, true)), .mv (.tmp 10)⟩,
  ⟨(some 147), (some (145, true)), .call 11 [(.tmp 146)]⟩,
  ⟨(some 148), (some (145, true)), .cmp .eql (.tmp 147) (.const (.int .i64 3))⟩,
  ⟨(some 149), none, .pick (.tmp 145) (.tmp 148) (.const (.bool false))⟩,
  ⟨(some 150), none, .mv (.tmp 149)⟩,
  ⟨(some 151), (some (150, true)), .mv (.tmp 11)⟩,
  ⟨(some 152), (some (150, true)), .un .not (.tmp 151)⟩,
  ⟨(some 153), none, .pick (.tmp 150) (.tmp 152) (.const (.bool false))⟩,
  ⟨(some 154), none, .mv (.tmp 153)⟩,
  ⟨(some 155), (some (154, true)), .mv (.tmp 12)⟩,
  ⟨(some 156), (some (154, true)), .call 11 [(.tmp 155)]⟩,
  ⟨(some 157), (some (154, true)), .cmp .eql (.tmp 156) (.const (.int .i64 0))⟩,
  ⟨(some 158), none, .pick (.tmp 154) (.tmp 157) (.const (.bool false))⟩,
  ⟨(some 159), none, .mv (.tmp 158)⟩,
  ⟨(some 160), (some (159, true)), .mv (.tmp 15)⟩,
  ⟨(some 161), (some (159, true)), .call 11 [(.tmp 160)]⟩,
  ⟨(some 162), (some (159, true)), .cmp .eql (.tmp 161) (.const (.int .i64 0))⟩,
  ⟨(some 163), none, .pick (.tmp 159) (.tmp 162) (.const (.bool false))⟩,
  ⟨(some 164), none, .mv (.tmp 163)⟩,
  ⟨(some 165), (some (164, true)), .mv (.tmp 16)⟩,
  ⟨(some 166), (some (164, true)), .eqn 0 false (.tmp 165)⟩,
  ⟨(some 167), none, .pick (.tmp 164) (.tmp 166) (.const (.bool false))⟩,
  ⟨(some 168), none, .mv (.tmp 167)⟩,
  ⟨(some 169), (some (168, true)), .mv (.tmp 17)⟩,
  ⟨(some 170), (some (168, true)), .call 11 [(.tmp 169)]⟩,
  ⟨(some 171), (some (168, true)), .cmp .eql (.tmp 170) (.const (.int .i64 3))⟩,
  ⟨(some 172), none, .pick (.tmp 168) (.tmp 171) (.const (.bool false))⟩,
  ⟨(some 173), none, .mv (.tmp 172)⟩,
  ⟨(some 174), (some (173, true)), .mv (.tmp 19)⟩,
  ⟨(some 175), (some (173, true)), .call 11 [(.tmp 174)]⟩,
  ⟨(some 176), (some (173, true)), .cmp .eql (.tmp 175) (.const (.int .i64 3))⟩,
  ⟨(some 177), none, .pick (.tmp 173) (.tmp 176) (.const (.bool false))⟩,
  ⟨(some 178), none, .mv (.tmp 177)⟩,
  ⟨(some 179), (some (178, true)), .mv (.tmp 22)⟩,
  ⟨(some 180), (some (178, true)), .call 11 [(.tmp 179)]⟩,
  ⟨(some 181), (some (178, true)), .cmp .eql (.tmp 180) (.const (.int .i64 1))⟩,
  ⟨(some 182), none, .pick (.tmp 178) (.tmp 181) (.const (.bool false))⟩,
  ⟨(some 183), none, .mv (.tmp 182)⟩,
  ⟨(some 184), (some (183, true)), .mv (.tmp 23)⟩,
  ⟨(some 185), (some (183, true)), .cmp .eql (.tmp 184) (.const (.int .i64 0))⟩,
  ⟨(some 186), none, .pick (.tmp 183) (.tmp 185) (.const (.bool false))⟩,
  ⟨(some 187), none, .mv (.tmp 186)⟩,
  ⟨(some 188), (some (187, true)), .mv (.tmp 24)⟩,
  ⟨(some 189), (some (187, true)), .un .not (.tmp 188)⟩,
  ⟨(some 190), none, .pick (.tmp 187) (.tmp 189) (.const (.bool false))⟩,
  ⟨(some 191), none, .mv (.tmp 190)⟩,
  ⟨(some 192), (some (191, true)), .mv (.tmp 25)⟩,
  ⟨(some 193), (some (191, true)), .len (.tmp 192)⟩,
  ⟨(some 194), (some (191, true)), .cmp .eql (.tmp 193) (.const (.int .i64 0))⟩,
  ⟨(some 195), none, .pick (.tmp 191) (.tmp 194) (.const (.bool false))⟩,
  ⟨(some 196), none, .mv (.tmp 195)⟩,
  ⟨(some 197), (some (196, true)), .mv (.tmp 26)⟩,
  ⟨(some 198), none, .pick (.tmp 196) (.tmp 197) (.const (.bool false))⟩,
  ⟨(some 199), none, .mv (.tmp 198)⟩,
  ⟨(some 200), (some (199, true)), .mv (.tmp 20)⟩,
  ⟨(some 201), (some (199, true)), .call 26 [(.tmp 200)]⟩,
  ⟨(some 202), (some (199, true)), .cmp .eql (.tmp 201) (.const (.int .i64 0))⟩,
  ⟨(some 203), none, .pick (.tmp 199) (.tmp 202) (.const (.bool false))⟩,
  ⟨(some 204), none, .mv (.tmp 203)⟩,
  ⟨(some 205), (some (204, true)), .mv (.tmp 20)⟩,
  ⟨(some 206), (some (204, true)), .call 20 [(.tmp 205), (.const (.string ⟨#[97]⟩))]⟩,
  ⟨(some 207), (some (204, true)), .un .not (.tmp 206)⟩,
  ⟨(some 208), none, .pick (.tmp 204) (.tmp 207) (.const (.bool false))⟩,
  ⟨(some 209), none, .mv (.tmp 208)⟩,
  ⟨(some 210), (some (209, true)), .mv (.tmp 20)⟩,
  ⟨(some 211), (some (209, true)), .call 27 [(.tmp 210)]⟩,
  ⟨(some 212), (some (209, true)), .eqn 0 false (.tmp 211)⟩,
  ⟨(some 213), none, .pick (.tmp 209) (.tmp 212) (.const (.bool false))⟩,
  ⟨(some 214), none, .mv (.tmp 213)⟩,
  ⟨(some 215), (some (214, true)), .mv (.tmp 20)⟩,
  ⟨(some 216), (some (214, true)), .call 16 [(.tmp 215), (.const (.int .i64 0)), (.const (.int .i64 1))]⟩,
  ⟨(some 217), (some (214, true)), .len (.tmp 216)⟩,
  ⟨(some 218), (some (214, true)), .mv (.tmp 20)⟩,
  ⟨(some 219), (some (214, true)), .call 18 [(.tmp 218), (.const (.int .i64 0)), (.const (.int .i64 1))]⟩,
  ⟨(some 220), (some (214, true)), .len (.tmp 219)⟩,
  ⟨(some 221), (some (214, true)), .ar .add (.tmp 217) (.tmp 220)⟩,
  ⟨(some 222), (some (214, true)), .cmp .eql (.tmp 221) (.const (.int .i64 0))⟩,
  ⟨(some 223), none, .pick (.tmp 214) (.tmp 222) (.const (.bool false))⟩,
  ⟨(some 224), none, .mv (.tmp 223)⟩,
  ⟨(some 225), (some (224, true)), .call 8 []⟩,
  ⟨(some 226), none, .pick (.tmp 224) (.tmp 225) (.const (.bool false))⟩,
  ⟨(some 0), none, .mv (.tmp 226)⟩]
def f6 : SCode := (.seq (.ops f6r0) (.seq (.ops f6r1) (.seq (.ops f6r2) (.seq (.seq (.ops f6r3) (.block 0 (.loop f6l12))) (.seq (.ops f6r13) (.seq (.ops f6r14) (.seq (.ops f6r15) (.seq (.ops f6r16) (.seq (.ops f6r17) (.seq (.ops f6r18) (.seq (.ops f6r19) (.seq (.ops f6r20) (.seq (.ops f6r21) (.seq (.ops f6r22) (.seq (.ops f6r23) (.seq (.ops f6r24) (.seq (.ops f6r25) .ret)))))))))))))))))
theorem f6_calls {args : List Value} {h : Heap} {R : Ending → Heap → Prop} (ha : args.length ≤ 227) (hs : swp Tryd.prog f6 (retQ [.t 0] R) (argEnv 0 args) [] h) : CallsH Tryd.prog 6 args h R :=
  calls_of_swp mixed Tryd.func6 rfl (by kernel_rfl) (by kernel_rfl) (by kernel_rfl) ha hs

/-! 7: tabor/taborlaw05.few -/
def f7r0 : List SOper := [
  ⟨(some 2), none, .mv (.const (.bool false))⟩]
def f7r1 : List SOper := [
  ⟨(some 3), none, .mv (.const (.int .i64 0))⟩]
def f7r2 : List SOper := [
  ⟨(some 4), none, .mv (.const (.int .i64 0))⟩]
def f7r3 : List SOper := [
  ⟨(some 5), none, .mv (.tmp 4)⟩,
  ⟨(some 6), none, .mv (.tmp 0)⟩,
  ⟨(some 7), none, .len (.tmp 6)⟩,
  ⟨(some 8), none, .cmp .lss (.tmp 5) (.tmp 7)⟩,
  ⟨(some 9), none, .mv (.tmp 8)⟩,
  ⟨(some 10), (some (9, true)), .mv (.tmp 3)⟩,
  ⟨(some 11), (some (9, true)), .cmp .leq (.tmp 10) (.const (.int .i64 3000))⟩,
  ⟨(some 12), none, .pick (.tmp 9) (.tmp 11) (.const (.bool false))⟩]
def f7r4 : List SOper := [
  ⟨(some 15), none, .mv (.tmp 3)⟩,
  ⟨(some 16), none, .ar .add (.tmp 15) (.const (.int .i64 10))⟩,
  ⟨(some 17), none, .mv (.tmp 0)⟩,
  ⟨(some 18), none, .mv (.tmp 4)⟩,
  ⟨(some 19), none, .ixs 2 (.tmp 17) (.tmp 18)⟩,
  ⟨(some 20), none, .fa 0 (.tmp 19)⟩,
  ⟨(some 21), none, .ld1 (.tmp 20)⟩,
  ⟨(some 22), none, .lens (.tmp 21)⟩,
  ⟨(some 23), none, .ar .add (.tmp 16) (.tmp 22)⟩,
  ⟨(some 3), none, .mv (.tmp 23)⟩]
def f7r5 : List SOper := [
  ⟨(some 13), none, .mv (.tmp 4)⟩,
  ⟨(some 14), none, .ar .add (.tmp 13) (.const (.int .i64 1))⟩,
  ⟨(some 4), none, .mv (.tmp 14)⟩]
def f7l6 : SCode := (.seq (.seq (.ops f7r3) (.cond (.tmp 12) .skip (.exit 0))) (.seq (.block 1 (.ops f7r4)) (.ops f7r5)))
def f7r7 : List SOper := [
  ⟨(some 24), none, .mv (.tmp 3)⟩,
  ⟨(some 25), none, .cmp .leq (.tmp 24) (.const (.int .i64 3000))⟩,
  ⟨(some 2), none, .mv (.tmp 25)⟩]
def f7 : SCode := (.seq (.ops f7r0) (.seq (.ops f7r1) (.seq (.seq (.ops f7r2) (.block 0 (.loop f7l6))) (.seq (.ops f7r7) .ret))))
theorem f7_calls {args : List Value} {h : Heap} {R : Ending → Heap → Prop} (ha : args.length ≤ 26) (hs : swp Tryd.prog f7 (retQ [.t 2] R) (argEnv 0 args) [] h) : CallsH Tryd.prog 7 args h R :=
  calls_of_swp mixed Tryd.func7 rfl (by kernel_rfl) (by kernel_rfl) (by kernel_rfl) ha hs

/-! 8: tabor/taborlaw05.works -/
def f8r0 : List SOper := [
  ⟨(some 0), none, .mv (.const (.bool false))⟩]
def f8r1 : List SOper := [
  ⟨(some 9), none, .build [(.string ⟨#[]⟩), (.int .i64 0)] [(0, 1), (1, 1)] [(.const (.string ⟨#[98]⟩)), (.const (.int .i64 2))]⟩,
  ⟨(some 10), none, .build [(.string ⟨#[]⟩), (.int .i64 0)] [(0, 1), (1, 1)] [(.const (.string ⟨#[97]⟩)), (.const (.int .i64 2))]⟩,
  ⟨(some 11), none, .build [(.string ⟨#[]⟩), (.int .i64 0)] [(0, 1), (1, 1)] [(.const (.string ⟨#[99]⟩)), (.const (.int .i64 1))]⟩,
  ⟨(some 12), none, .bslice [(.string ⟨#[]⟩), (.int .i64 0), (.string ⟨#[]⟩), (.int .i64 0), (.string ⟨#[]⟩), (.int .i64 0)] 3 [(0, 2), (2, 2), (4, 2)] [(.tmp 9), (.tmp 10), (.tmp 11)]⟩,
  ⟨(some 13), none, .bslice [(.int .i64 0), (.int .i64 0), (.int .i64 0)] 3 [(0, 1), (1, 1), (2, 1)] [(.const (.int .i64 3)), (.const (.int .i64 0)), (.const (.int .i64 9))]⟩,
  ⟨(some 14), none, .call 9 [(.tmp 12), (.tmp 13)]⟩,
  ⟨(some 8), none, .mv (.tmp 14)⟩,
  ⟨(some 15), none, .ext (.tmp 8) 0⟩,
  ⟨(some 16), none, .ext (.tmp 8) 1⟩,
  ⟨(some 1), none, .mv (.tmp 15)⟩,
  ⟨(some 2), none, .mv (.tmp 16)⟩]
def f8r2 : List SOper := [
  ⟨(some 18), none, .mv (.tmp 1)⟩,
  ⟨(some 19), none, .call 12 [(.tmp 18), (.const (.string ⟨#[98]⟩))]⟩,
  ⟨(some 17), none, .mv (.tmp 19)⟩,
  ⟨(some 20), none, .ext (.tmp 17) 0⟩,
  ⟨(some 21), none, .ext (.tmp 17) 1⟩,
  ⟨(some 3), none, .mv (.tmp 20)⟩,
  ⟨(some 4), none, .mv (.tmp 21)⟩]
def f8r3 : List SOper := [
  ⟨(some 23), none, .mv (.tmp 1)⟩,
  ⟨(some 24), none, .call 24 [(.tmp 23), (.const (.string ⟨#[99]⟩)), (.const (.int .i64 7)), (.const (.int .i64 3))]⟩,
  ⟨(some 22), none, .mv (.tmp 24)⟩,
  ⟨(some 25), none, .ext (.tmp 22) 0⟩,
  ⟨(some 26), none, .ext (.tmp 22) 1⟩,
  ⟨(some 5), none, .mv (.tmp 25)⟩,
  ⟨(some 6), none, .mv (.tmp 26)⟩]
def f8r4 : List SOper := [
  ⟨(some 27), none, .mv (.tmp 1)⟩,
  ⟨(some 28), none, .call 16 [(.tmp 27), (.const (.int .i64 (-1))), (.const (.int .i64 9))]⟩,
  ⟨(some 7), none, .mv (.tmp 28)⟩]
def f8r5 : List SOper := [
  ⟨(some 29), none, .mv (.tmp 2)⟩,
  ⟨(some 30), none, .call 11 [(.tmp 29)]⟩,
  ⟨(some 31), none, .mv (.tmp 6)⟩,
  ⟨(some 32), none, .call 11 [(.tmp 31)]⟩,
  ⟨(some 33), none, .ar .add (.tmp 30) (.tmp 32)⟩,
  ⟨(some 34), none, .cmp .eql (.tmp 33) (.const (.int .i64 0))⟩,
  ⟨(some 35), none, .mv (.tmp 34)⟩,
  ⟨(some 36), (some (35, true)), .mv (.tmp 3)⟩,
  ⟨(some 37), (some (35, true)), .cmp .eql (.tmp 36) (.const (.int .i64 2))⟩,
  ⟨(some 38), none, .pick (.tmp 35) (.tmp 37) (.const (.bool false))⟩,
  ⟨(some 39), none, .mv (.tmp 38)⟩,
  ⟨(some 40), (some (39, true)), .mv (.tmp 4)⟩,
  ⟨(some 41), none, .pick (.tmp 39) (.tmp 40) (.const (.bool false))⟩,
  ⟨(some 42), none, .mv (.tmp 41)⟩,
  ⟨(some 43), (some (42, true)), .mv (.tmp 5)⟩,
  ⟨(some 44), (some (42, true)), .un .not (.tmp 43)⟩,
  ⟨(some 45), none, .pick (.tmp 42) (.tmp 44) (.const (.bool false))⟩,
  ⟨(some 46), none, .mv (.tmp 45)⟩,
  ⟨(some 47), (some (46, true)), .mv (.tmp 7)⟩,
  ⟨(some 48), (some (46, true)), .len (.tmp 47)⟩,
  ⟨(some 49), (some (46, true)), .cmp .eql (.tmp 48) (.const (.int .i64 3))⟩,
  ⟨(some 50), none, .pick (.tmp 46) (.tmp 49) (.const (.bool false))⟩,
  ⟨(some 51), none, .mv (.tmp 50)⟩,
  ⟨(some 52), (some (51, true)), .mv (.tmp 7)⟩,
  ⟨(some 53), (some (51, true)), .ixs 2 (.tmp 52) (.const (.int .i64 2))⟩,
  ⟨(some 54), (some (51, true)), .ldn 2 (.tmp 53)⟩,
  ⟨(some 55), (some (51, true)), .build [(.string ⟨#[]⟩), (.int .i64 0)] [(0, 1), (1, 1)] [(.const (.string ⟨#[99]⟩)), (.const (.int .i64 7))]⟩,
  ⟨(some 56), (some (51, true)), .eqa false [.str, (.int .i64)] (.tmp 54) (.tmp 55)⟩,
  ⟨(some 57), none, .pick (.tmp 51) (.tmp 56) (.const (.bool false))⟩,
  ⟨(some 58), none, .mv (.tmp 57)⟩,
  ⟨(some 59), (some (58, true)), .mv (.tmp 1)⟩,
  ⟨(some 60), (some (58, true)), .call 20 [(.tmp 59), (.const (.string ⟨#[97]⟩))]⟩,
  ⟨(some 61), none, .pick (.tmp 58) (.tmp 60) (.const (.bool false))⟩,
  ⟨(some 62), none, .mv (.tmp 61)⟩,
  ⟨(some 63), (some (62, true)), .mv (.tmp 1)⟩,
  ⟨(some 64), (some (62, true)), .call 20 [(.tmp 63), (.const (.string ⟨#[97]⟩))]⟩,
  ⟨(some 65), (some (62, true)), .un .not (.tmp 64)⟩,
  ⟨(some 66), none, .pick (.tmp 62) (.tmp 65) (.const (.bool false))⟩,
  ⟨(some 67), none, .mv (.tmp 66)⟩,
  ⟨(some 68), (some (67, true)), .mv (.tmp 1)⟩,
  ⟨(some 69), (some (67, true)), .call 26 [(.tmp 68)]⟩,
  ⟨(some 70), (some (67, true)), .cmp .eql (.tmp 69) (.const (.int .i64 2))⟩,
  ⟨(some 71), none, .pick (.tmp 67) (.tmp 70) (.const (.bool false))⟩,
  ⟨(some 0), none, .mv (.tmp 71)⟩]
def f8 : SCode := (.seq (.ops f8r0) (.seq (.ops f8r1) (.seq (.ops f8r2) (.seq (.ops f8r3) (.seq (.ops f8r4) (.seq (.ops f8r5) .ret))))))
theorem f8_calls {args : List Value} {h : Heap} {R : Ending → Heap → Prop} (ha : args.length ≤ 72) (hs : swp Tryd.prog f8 (retQ [.t 0] R) (argEnv 0 args) [] h) : CallsH Tryd.prog 8 args h R :=
  calls_of_swp mixed Tryd.func8 rfl (by kernel_rfl) (by kernel_rfl) (by kernel_rfl) ha hs

/-! 9: tabor/ranks.Of -/
def f9r0 : List SOper := [
  ⟨(some 4), none, .mv (.const (.pointer none))⟩,
  ⟨(some 5), none, .mv (.const (.int .i64 0))⟩]
def f9r1 : List SOper := [
  ⟨(some 14), none, .mv (.tmp 0)⟩,
  ⟨(some 15), none, .len (.tmp 14)⟩,
  ⟨(some 16), none, .cmp .gtr (.tmp 15) (.const (.int .i64 65536))⟩]
def f9r2 : List SOper := [
  ⟨(some 4), none, .mv (.const (.pointer none))⟩,
  ⟨(some 5), none, .mv (.const (.int .i64 3))⟩]
def f9r3 : List SOper := [
  ⟨(some 17), none, .mv (.tmp 0)⟩,
  ⟨(some 18), none, .len (.tmp 17)⟩,
  ⟨(some 19), none, .mv (.const (.int .i64 0))⟩]
def f9r4 : List SOper := [
  ⟨(some 20), none, .cmp .lss (.tmp 19) (.tmp 18)⟩]
def f9r5 : List SOper := [
  ⟨(some 21), none, .ixs 2 (.tmp 17) (.tmp 19)⟩,
  ⟨(some 22), none, .ldn 2 (.tmp 21)⟩,
  ⟨(some 7), none, .new [(.string ⟨#[]⟩), (.int .i64 0)]⟩,
  ⟨none, none, .st 2 (.tmp 7) (.tmp 22)⟩]
def f9r6 : List SOper := [
  ⟨(some 23), none, .fa 0 (.tmp 7)⟩,
  ⟨(some 24), none, .ld1 (.tmp 23)⟩,
  ⟨(some 25), none, .lens (.tmp 24)⟩,
  ⟨(some 26), none, .cmp .gtr (.tmp 25) (.const (.int .i64 1048576))⟩]
def f9r7 : List SOper := [
  ⟨(some 4), none, .mv (.const (.pointer none))⟩,
  ⟨(some 5), none, .mv (.const (.int .i64 3))⟩]
def f9r8 : List SOper := [
  ⟨(some 27), none, .ar .add (.tmp 19) (.const (.int .i64 1))⟩,
  ⟨(some 19), none, .mv (.tmp 27)⟩]
def f9l9 : SCode := (.seq (.ops f9r4) (.seq (.cond (.tmp 20) .skip (.exit 0)) (.seq (.block 1 (.seq (.ops f9r5) (.seq (.ops f9r6) (.cond (.tmp 26) (.seq (.ops f9r7) .ret) .skip)))) (.ops f9r8))))
def f9r10 : List SOper := [
  ⟨(some 28), none, .call 28 []⟩,
  ⟨(some 8), none, .mv (.tmp 28)⟩]
def f9r11 : List SOper := [
  ⟨(some 29), none, .mv (.tmp 0)⟩,
  ⟨(some 30), none, .len (.tmp 29)⟩,
  ⟨(some 31), none, .mv (.const (.int .i64 0))⟩]
def f9r12 : List SOper := [
  ⟨(some 32), none, .cmp .lss (.tmp 31) (.tmp 30)⟩]
def f9r13 : List SOper := [
  ⟨(some 33), none, .mv (.tmp 31)⟩,
  ⟨(some 34), none, .ixs 2 (.tmp 29) (.tmp 31)⟩,
  ⟨(some 35), none, .ldn 2 (.tmp 34)⟩,
  ⟨(some 10), none, .new [(.string ⟨#[]⟩), (.int .i64 0)]⟩,
  ⟨(some 9), none, .mv (.tmp 33)⟩,
  ⟨none, none, .st 2 (.tmp 10) (.tmp 35)⟩]
def f9r14 : List SOper := [
  ⟨(some 37), none, .mv (.tmp 8)⟩,
  ⟨(some 38), none, .nilck (.tmp 37)⟩,
  ⟨(some 39), none, .fa 1 (.tmp 38)⟩,
  ⟨(some 40), none, .ld1 (.tmp 39)⟩,
  ⟨(some 41), none, .fa 0 (.tmp 10)⟩,
  ⟨(some 42), none, .ld1 (.tmp 41)⟩,
  ⟨(some 43), none, .look .str (.pointer none) true (.tmp 40) (.tmp 42)⟩,
  ⟨(some 36), none, .mv (.tmp 43)⟩,
  ⟨(some 44), none, .ext (.tmp 36) 0⟩,
  ⟨(some 45), none, .ext (.tmp 36) 1⟩,
  ⟨(some 11), none, .mv (.tmp 44)⟩,
  ⟨(some 12), none, .mv (.tmp 45)⟩]
def f9r15 : List SOper := [
  ⟨(some 46), none, .mv (.tmp 12)⟩]
def f9r16 : List SOper := [
  ⟨(some 4), none, .mv (.const (.pointer none))⟩,
  ⟨(some 5), none, .mv (.const (.int .i64 2))⟩]
def f9r17 : List SOper := [
  ⟨(some 13), none, .mv (.const (.int .i64 0))⟩]
def f9r18 : List SOper := [
  ⟨(some 47), none, .mv (.tmp 9)⟩,
  ⟨(some 48), none, .mv (.tmp 1)⟩,
  ⟨(some 49), none, .len (.tmp 48)⟩,
  ⟨(some 50), none, .cmp .lss (.tmp 47) (.tmp 49)⟩]
def f9r19 : List SOper := [
  ⟨(some 51), none, .mv (.tmp 1)⟩,
  ⟨(some 52), none, .mv (.tmp 9)⟩,
  ⟨(some 53), none, .ixs 1 (.tmp 51) (.tmp 52)⟩,
  ⟨(some 54), none, .ld1 (.tmp 53)⟩,
  ⟨(some 13), none, .mv (.tmp 54)⟩]
def f9r20 : List SOper := [
  ⟨(some 55), none, .mv (.tmp 8)⟩,
  ⟨(some 56), none, .ldn 2 (.tmp 10)⟩,
  ⟨(some 57), none, .mv (.tmp 13)⟩,
  ⟨(some 58), none, .call 29 [(.tmp 55), (.tmp 56), (.tmp 57)]⟩]
def f9r21 : List SOper := [
  ⟨(some 59), none, .ar .add (.tmp 31) (.const (.int .i64 1))⟩,
  ⟨(some 31), none, .mv (.tmp 59)⟩]
def f9l22 : SCode := (.seq (.ops f9r12) (.seq (.cond (.tmp 32) .skip (.exit 2)) (.seq (.block 3 (.seq (.ops f9r13) (.seq (.seq (.ops f9r14) (.seq (.ops f9r15) (.cond (.tmp 46) (.seq (.ops f9r16) .ret) .skip))) (.seq (.ops f9r17) (.seq (.seq (.ops f9r18) (.cond (.tmp 50) (.ops f9r19) .skip)) (.ops f9r20)))))) (.ops f9r21))))
def f9r23 : List SOper := [
  ⟨(some 60), none, .mv (.tmp 8)⟩,
  ⟨(some 4), none, .mv (.tmp 60)⟩,
  ⟨(some 5), none, .mv (.const (.int .i64 0))⟩]
def f9 : SCode := (.seq (.ops f9r0) (.seq (.seq (.ops f9r1) (.cond (.tmp 16) (.seq (.ops f9r2) .ret) .skip)) (.seq (.seq (.ops f9r3) (.block 0 (.loop f9l9))) (.seq (.ops f9r10) (.seq (.seq (.ops f9r11) (.block 2 (.loop f9l22))) (.seq (.ops f9r23) .ret))))))
theorem f9_calls {args : List Value} {h : Heap} {R : Ending → Heap → Prop} (ha : args.length ≤ 61) (hs : swp Tryd.prog f9 (retQ [.t 4, .t 5] R) (argEnv 0 args) [] h) : CallsH Tryd.prog 9 args h R :=
  calls_of_swp mixed Tryd.func9 rfl (by kernel_rfl) (by kernel_rfl) (by kernel_rfl) ha hs

/-! 10: tabor/taborref05.Of -/
def f10r0 : List SOper := [
  ⟨(some 2), none, .mv (.const (.slice none 0 0))⟩,
  ⟨(some 3), none, .mv (.const (.int .i64 0))⟩]
def f10r1 : List SOper := [
  ⟨(some 9), none, .mv (.tmp 0)⟩,
  ⟨(some 10), none, .len (.tmp 9)⟩,
  ⟨(some 11), none, .cmp .gtr (.tmp 10) (.const (.int .i64 65536))⟩]
def f10r2 : List SOper := [
  ⟨(some 2), none, .mv (.const (.slice none 0 0))⟩,
  ⟨(some 3), none, .mv (.const (.int .i64 3))⟩]
def f10r3 : List SOper := [
  ⟨(some 4), none, .mv (.const (.int .i64 0))⟩]
def f10r4 : List SOper := [
  ⟨(some 12), none, .mv (.tmp 4)⟩,
  ⟨(some 13), none, .mv (.tmp 0)⟩,
  ⟨(some 14), none, .len (.tmp 13)⟩,
  ⟨(some 15), none, .cmp .lss (.tmp 12) (.tmp 14)⟩]
def f10r5 : List SOper := [
  ⟨(some 18), none, .mv (.tmp 0)⟩,
  ⟨(some 19), none, .mv (.tmp 4)⟩,
  ⟨(some 20), none, .ixs 2 (.tmp 18) (.tmp 19)⟩,
  ⟨(some 21), none, .fa 0 (.tmp 20)⟩,
  ⟨(some 22), none, .ld1 (.tmp 21)⟩,
  ⟨(some 23), none, .lens (.tmp 22)⟩,
  ⟨(some 24), none, .cmp .gtr (.tmp 23) (.const (.int .i64 1048576))⟩]
def f10r6 : List SOper := [
  ⟨(some 2), none, .mv (.const (.slice none 0 0))⟩,
  ⟨(some 3), none, .mv (.const (.int .i64 3))⟩]
def f10r7 : List SOper := [
  ⟨(some 16), none, .mv (.tmp 4)⟩,
  ⟨(some 17), none, .ar .add (.tmp 16) (.const (.int .i64 1))⟩,
  ⟨(some 4), none, .mv (.tmp 17)⟩]
def f10l8 : SCode := (.seq (.seq (.ops f10r4) (.cond (.tmp 15) .skip (.exit 0))) (.seq (.block 1 (.seq (.ops f10r5) (.cond (.tmp 24) (.seq (.ops f10r6) .ret) .skip))) (.ops f10r7)))
def f10r9 : List SOper := [
  ⟨(some 5), none, .mv (.const (.slice none 0 0))⟩]
def f10r10 : List SOper := [
  ⟨(some 6), none, .mv (.const (.int .i64 0))⟩]
def f10r11 : List SOper := [
  ⟨(some 25), none, .mv (.tmp 6)⟩,
  ⟨(some 26), none, .mv (.tmp 0)⟩,
  ⟨(some 27), none, .len (.tmp 26)⟩,
  ⟨(some 28), none, .cmp .lss (.tmp 25) (.tmp 27)⟩]
def f10r12 : List SOper := [
  ⟨(some 31), none, .mv (.tmp 5)⟩,
  ⟨(some 32), none, .mv (.tmp 0)⟩,
  ⟨(some 33), none, .mv (.tmp 6)⟩,
  ⟨(some 34), none, .ixs 2 (.tmp 32) (.tmp 33)⟩,
  ⟨(some 35), none, .fa 0 (.tmp 34)⟩,
  ⟨(some 36), none, .ld1 (.tmp 35)⟩,
  ⟨(some 37), none, .call 14 [(.tmp 31), (.tmp 36)]⟩,
  ⟨(some 38), none, .cmp .geq (.tmp 37) (.const (.int .i64 0))⟩]
def f10r13 : List SOper := [
  ⟨(some 2), none, .mv (.const (.slice none 0 0))⟩,
  ⟨(some 3), none, .mv (.const (.int .i64 2))⟩]
def f10r14 : List SOper := [
  ⟨(some 40), none, .mv (.tmp 5)⟩,
  ⟨(some 41), none, .mv (.tmp 0)⟩,
  ⟨(some 42), none, .mv (.tmp 6)⟩,
  ⟨(some 43), none, .ixs 2 (.tmp 41) (.tmp 42)⟩,
  ⟨(some 44), none, .ldn 2 (.tmp 43)⟩,
  ⟨(some 45), none, .call 23 [(.tmp 40), (.tmp 44)]⟩,
  ⟨(some 39), none, .mv (.tmp 45)⟩,
  ⟨(some 46), none, .ext (.tmp 39) 0⟩,
  ⟨(some 47), none, .ext (.tmp 39) 1⟩,
  ⟨(some 7), none, .mv (.tmp 46)⟩,
  ⟨(some 8), none, .mv (.tmp 47)⟩]
def f10r15 : List SOper := [
  ⟨(some 48), none, .mv (.tmp 7)⟩,
  ⟨(some 5), none, .mv (.tmp 48)⟩]
def f10r16 : List SOper := [
  ⟨(some 29), none, .mv (.tmp 6)⟩,
  ⟨(some 30), none, .ar .add (.tmp 29) (.const (.int .i64 1))⟩,
  ⟨(some 6), none, .mv (.tmp 30)⟩]
def f10l17 : SCode := (.seq (.seq (.ops f10r11) (.cond (.tmp 28) .skip (.exit 2))) (.seq (.block 3 (.seq (.seq (.ops f10r12) (.cond (.tmp 38) (.seq (.ops f10r13) .ret) .skip)) (.seq (.ops f10r14) (.ops f10r15)))) (.ops f10r16)))
def f10r18 : List SOper := [
  ⟨(some 49), none, .mv (.tmp 5)⟩,
  ⟨(some 2), none, .mv (.tmp 49)⟩,
  ⟨(some 3), none, .mv (.const (.int .i64 0))⟩]
def f10 : SCode := (.seq (.ops f10r0) (.seq (.seq (.ops f10r1) (.cond (.tmp 11) (.seq (.ops f10r2) .ret) .skip)) (.seq (.seq (.ops f10r3) (.block 0 (.loop f10l8))) (.seq (.ops f10r9) (.seq (.seq (.ops f10r10) (.block 2 (.loop f10l17))) (.seq (.ops f10r18) .ret))))))
theorem f10_calls {args : List Value} {h : Heap} {R : Ending → Heap → Prop} (ha : args.length ≤ 50) (hs : swp Tryd.prog f10 (retQ [.t 2, .t 3] R) (argEnv 0 args) [] h) : CallsH Tryd.prog 10 args h R :=
  calls_of_swp mixed Tryd.func10 rfl (by kernel_rfl) (by kernel_rfl) (by kernel_rfl) ha hs

/-! 11: tabor/taborlaw05.num -/
def f11r0 : List SOper := [
  ⟨(some 2), none, .mv (.const (.int .i64 0))⟩]
def f11r1 : List SOper := [
  ⟨(some 3), none, .mv (.tmp 0)⟩,
  ⟨(some 2), none, .mv (.tmp 3)⟩]
def f11 : SCode := (.seq (.ops f11r0) (.seq (.ops f11r1) .ret))
theorem f11_calls {args : List Value} {h : Heap} {R : Ending → Heap → Prop} (ha : args.length ≤ 4) (hs : swp Tryd.prog f11 (retQ [.t 2] R) (argEnv 0 args) [] h) : CallsH Tryd.prog 11 args h R :=
  calls_of_swp mixed Tryd.func11 rfl (by kernel_rfl) (by kernel_rfl) (by kernel_rfl) ha hs

/-! 12: (*tabor/ranks.Ranks).Rank -/
def f12r0 : List SOper := [
  ⟨(some 4), none, .mv (.const (.int .i64 0))⟩,
  ⟨(some 5), none, .mv (.const (.bool false))⟩]
def f12r1 : List SOper := [
  ⟨(some 8), none, .mv (.tmp 0)⟩,
  ⟨(some 9), none, .call 30 [(.tmp 8)]⟩]
def f12r2 : List SOper := [
  ⟨(some 4), none, .mv (.const (.int .i64 0))⟩,
  ⟨(some 5), none, .mv (.const (.bool false))⟩]
def f12r3 : List SOper := [
  ⟨(some 11), none, .mv (.tmp 0)⟩,
  ⟨(some 12), none, .nilck (.tmp 11)⟩,
  ⟨(some 13), none, .fa 1 (.tmp 12)⟩,
  ⟨(some 14), none, .ld1 (.tmp 13)⟩,
  ⟨(some 15), none, .mv (.tmp 1)⟩,
  ⟨(some 16), none, .look .str (.pointer none) true (.tmp 14) (.tmp 15)⟩,
  ⟨(some 10), none, .mv (.tmp 16)⟩,
  ⟨(some 17), none, .ext (.tmp 10) 0⟩,
  ⟨(some 18), none, .ext (.tmp 10) 1⟩,
  ⟨(some 6), none, .mv (.tmp 17)⟩,
  ⟨(some 7), none, .mv (.tmp 18)⟩]
def f12r4 : List SOper := [
  ⟨(some 19), none, .mv (.tmp 7)⟩,
  ⟨(some 20), none, .un .not (.tmp 19)⟩]
def f12r5 : List SOper := [
  ⟨(some 4), none, .mv (.const (.int .i64 0))⟩,
  ⟨(some 5), none, .mv (.const (.bool false))⟩]
def f12r6 : List SOper := [
  ⟨(some 21), none, .mv (.tmp 0)⟩,
  ⟨(some 22), none, .mv (.tmp 6)⟩,
  ⟨(some 23), none, .nilck (.tmp 22)⟩,
  ⟨(some 24), none, .fa 0 (.tmp 23)⟩,
  ⟨(some 25), none, .ldn 2 (.tmp 24)⟩,
  ⟨(some 26), none, .call 32 [(.tmp 25)]⟩,
  ⟨(some 27), none, .call 31 [(.tmp 21), (.tmp 26)]⟩,
  ⟨(some 28), none, .nilck (.tmp 27)⟩,
  ⟨(some 29), none, .fa 16 (.tmp 28)⟩,
  ⟨(some 30), none, .ixa 16 1 (.tmp 29) (.const (.int .i64 0))⟩,
  ⟨(some 31), none, .ld1 (.tmp 30)⟩,
  ⟨(some 4), none, .mv (.tmp 31)⟩,
  ⟨(some 5), none, .mv (.const (.bool true))⟩]
def f12 : SCode := (.seq (.ops f12r0) (.seq (.seq (.ops f12r1) (.cond (.tmp 9) (.seq (.ops f12r2) .ret) .skip)) (.seq (.ops f12r3) (.seq (.seq (.ops f12r4) (.cond (.tmp 20) (.seq (.ops f12r5) .ret) .skip)) (.seq (.ops f12r6) .ret)))))
theorem f12_calls {args : List Value} {h : Heap} {R : Ending → Heap → Prop} (ha : args.length ≤ 32) (hs : swp Tryd.prog f12 (retQ [.t 4, .t 5] R) (argEnv 0 args) [] h) : CallsH Tryd.prog 12 args h R :=
  calls_of_swp mixed Tryd.func12 rfl (by kernel_rfl) (by kernel_rfl) (by kernel_rfl) ha hs

/-! 13: (*tabor/ranks.Ranks).Score -/
def f13r0 : List SOper := [
  ⟨(some 4), none, .mv (.const (.int .i64 0))⟩,
  ⟨(some 5), none, .mv (.const (.bool false))⟩]
def f13r1 : List SOper := [
  ⟨(some 8), none, .mv (.tmp 0)⟩,
  ⟨(some 9), none, .call 30 [(.tmp 8)]⟩]
def f13r2 : List SOper := [
  ⟨(some 4), none, .mv (.const (.int .i64 0))⟩,
  ⟨(some 5), none, .mv (.const (.bool false))⟩]
def f13r3 : List SOper := [
  ⟨(some 11), none, .mv (.tmp 0)⟩,
  ⟨(some 12), none, .nilck (.tmp 11)⟩,
  ⟨(some 13), none, .fa 1 (.tmp 12)⟩,
  ⟨(some 14), none, .ld1 (.tmp 13)⟩,
  ⟨(some 15), none, .mv (.tmp 1)⟩,
  ⟨(some 16), none, .look .str (.pointer none) true (.tmp 14) (.tmp 15)⟩,
  ⟨(some 10), none, .mv (.tmp 16)⟩,
  ⟨(some 17), none, .ext (.tmp 10) 0⟩,
  ⟨(some 18), none, .ext (.tmp 10) 1⟩,
  ⟨(some 6), none, .mv (.tmp 17)⟩,
  ⟨(some 7), none, .mv (.tmp 18)⟩]
def f13r4 : List SOper := [
  ⟨(some 19), none, .mv (.tmp 7)⟩,
  ⟨(some 20), none, .un .not (.tmp 19)⟩]
def f13r5 : List SOper := [
  ⟨(some 4), none, .mv (.const (.int .i64 0))⟩,
  ⟨(some 5), none, .mv (.const (.bool false))⟩]
def f13r6 : List SOper := [
  ⟨(some 21), none, .mv (.tmp 6)⟩,
  ⟨(some 22), none, .nilck (.tmp 21)⟩,
  ⟨(some 23), none, .fa 0 (.tmp 22)⟩,
  ⟨(some 24), none, .fa 1 (.tmp 23)⟩,
  ⟨(some 25), none, .ld1 (.tmp 24)⟩,
  ⟨(some 4), none, .mv (.tmp 25)⟩,
  ⟨(some 5), none, .mv (.const (.bool true))⟩]
def f13 : SCode := (.seq (.ops f13r0) (.seq (.seq (.ops f13r1) (.cond (.tmp 9) (.seq (.ops f13r2) .ret) .skip)) (.seq (.ops f13r3) (.seq (.seq (.ops f13r4) (.cond (.tmp 20) (.seq (.ops f13r5) .ret) .skip)) (.seq (.ops f13r6) .ret)))))
theorem f13_calls {args : List Value} {h : Heap} {R : Ending → Heap → Prop} (ha : args.length ≤ 26) (hs : swp Tryd.prog f13 (retQ [.t 4, .t 5] R) (argEnv 0 args) [] h) : CallsH Tryd.prog 13 args h R :=
  calls_of_swp mixed Tryd.func13 rfl (by kernel_rfl) (by kernel_rfl) (by kernel_rfl) ha hs

/-! 14: tabor/taborref05.Find -/
def f14r0 : List SOper := [
  ⟨(some 4), none, .mv (.const (.int .i64 0))⟩]
def f14r1 : List SOper := [
  ⟨(some 5), none, .mv (.const (.int .i64 0))⟩]
def f14r2 : List SOper := [
  ⟨(some 6), none, .mv (.tmp 5)⟩,
  ⟨(some 7), none, .mv (.tmp 0)⟩,
  ⟨(some 8), none, .len (.tmp 7)⟩,
  ⟨(some 9), none, .cmp .lss (.tmp 6) (.tmp 8)⟩]
def f14r3 : List SOper := [
  ⟨(some 12), none, .mv (.tmp 0)⟩,
  ⟨(some 13), none, .mv (.tmp 5)⟩,
  ⟨(some 14), none, .ixs 2 (.tmp 12) (.tmp 13)⟩,
  ⟨(some 15), none, .fa 0 (.tmp 14)⟩,
  ⟨(some 16), none, .ld1 (.tmp 15)⟩,
  ⟨(some 17), none, .mv (.tmp 1)⟩,
  ⟨(some 18), none, .cmp .eql (.tmp 16) (.tmp 17)⟩]
def f14r4 : List SOper := [
  ⟨(some 19), none, .mv (.tmp 5)⟩,
  ⟨(some 4), none, .mv (.tmp 19)⟩]
def f14r5 : List SOper := [
  ⟨(some 10), none, .mv (.tmp 5)⟩,
  ⟨(some 11), none, .ar .add (.tmp 10) (.const (.int .i64 1))⟩,
  ⟨(some 5), none, .mv (.tmp 11)⟩]
def f14l6 : SCode := (.seq (.seq (.ops f14r2) (.cond (.tmp 9) .skip (.exit 0))) (.seq (.block 1 (.seq (.ops f14r3) (.cond (.tmp 18) (.seq (.ops f14r4) .ret) .skip))) (.ops f14r5)))
def f14r7 : List SOper := [
  ⟨(some 4), none, .mv (.const (.int .i64 (-1)))⟩]
def f14 : SCode := (.seq (.ops f14r0) (.seq (.seq (.ops f14r1) (.block 0 (.loop f14l6))) (.seq (.ops f14r7) .ret)))
theorem f14_calls {args : List Value} {h : Heap} {R : Ending → Heap → Prop} (ha : args.length ≤ 20) (hs : swp Tryd.prog f14 (retQ [.t 4] R) (argEnv 0 args) [] h) : CallsH Tryd.prog 14 args h R :=
  calls_of_swp mixed Tryd.func14 rfl (by kernel_rfl) (by kernel_rfl) (by kernel_rfl) ha hs

/-! 15: tabor/taborref05.Same -/
def f15r0 : List SOper := [
  ⟨(some 4), none, .mv (.const (.bool false))⟩]
def f15r1 : List SOper := [
  ⟨(some 6), none, .mv (.tmp 0)⟩,
  ⟨(some 7), none, .len (.tmp 6)⟩,
  ⟨(some 8), none, .mv (.tmp 1)⟩,
  ⟨(some 9), none, .len (.tmp 8)⟩,
  ⟨(some 10), none, .cmp .neq (.tmp 7) (.tmp 9)⟩]
def f15r2 : List SOper := [
  ⟨(some 4), none, .mv (.const (.bool false))⟩]
def f15r3 : List SOper := [
  ⟨(some 5), none, .mv (.const (.int .i64 0))⟩]
def f15r4 : List SOper := [
  ⟨(some 11), none, .mv (.tmp 5)⟩,
  ⟨(some 12), none, .mv (.tmp 0)⟩,
  ⟨(some 13), none, .len (.tmp 12)⟩,
  ⟨(some 14), none, .cmp .lss (.tmp 11) (.tmp 13)⟩]
def f15r5 : List SOper := [
  ⟨(some 17), none, .mv (.tmp 0)⟩,
  ⟨(some 18), none, .mv (.tmp 5)⟩,
  ⟨(some 19), none, .ixs 2 (.tmp 17) (.tmp 18)⟩,
  ⟨(some 20), none, .ldn 2 (.tmp 19)⟩,
  ⟨(some 21), none, .mv (.tmp 1)⟩,
  ⟨(some 22), none, .mv (.tmp 5)⟩,
  ⟨(some 23), none, .ixs 2 (.tmp 21) (.tmp 22)⟩,
  ⟨(some 24), none, .ldn 2 (.tmp 23)⟩,
  ⟨(some 25), none, .eqa true [.str, (.int .i64)] (.tmp 20) (.tmp 24)⟩]
def f15r6 : List SOper := [
  ⟨(some 4), none, .mv (.const (.bool false))⟩]
def f15r7 : List SOper := [
  ⟨(some 15), none, .mv (.tmp 5)⟩,
  ⟨(some 16), none, .ar .add (.tmp 15) (.const (.int .i64 1))⟩,
  ⟨(some 5), none, .mv (.tmp 16)⟩]
def f15l8 : SCode := (.seq (.seq (.ops f15r4) (.cond (.tmp 14) .skip (.exit 0))) (.seq (.block 1 (.seq (.ops f15r5) (.cond (.tmp 25) (.seq (.ops f15r6) .ret) .skip))) (.ops f15r7)))
def f15r9 : List SOper := [
  ⟨(some 4), none, .mv (.const (.bool true))⟩]
def f15 : SCode := (.seq (.ops f15r0) (.seq (.seq (.ops f15r1) (.cond (.tmp 10) (.seq (.ops f15r2) .ret) .skip)) (.seq (.seq (.ops f15r3) (.block 0 (.loop f15l8))) (.seq (.ops f15r9) .ret))))
theorem f15_calls {args : List Value} {h : Heap} {R : Ending → Heap → Prop} (ha : args.length ≤ 26) (hs : swp Tryd.prog f15 (retQ [.t 4] R) (argEnv 0 args) [] h) : CallsH Tryd.prog 15 args h R :=
  calls_of_swp mixed Tryd.func15 rfl (by kernel_rfl) (by kernel_rfl) (by kernel_rfl) ha hs

/-! 16: (*tabor/ranks.Ranks).At -/
def f16r0 : List SOper := [
  ⟨(some 4), none, .box (.tmp 1)⟩,
  ⟨(some 5), none, .box (.tmp 2)⟩,
  ⟨(some 6), none, .mv (.const (.slice none 0 0))⟩]
def f16r1 : List SOper := [
  ⟨(some 7), none, .mv (.tmp 0)⟩,
  ⟨(some 8), none, .fn 34 [] [(.tmp 4)]⟩,
  ⟨(some 9), none, .fn 35 [] [(.tmp 5)]⟩,
  ⟨(some 10), none, .call 33 [(.tmp 7), (.tmp 8), (.tmp 9)]⟩,
  ⟨(some 6), none, .mv (.tmp 10)⟩]
def f16 : SCode := (.seq (.ops f16r0) (.seq (.ops f16r1) .ret))
theorem f16_calls {args : List Value} {h : Heap} {R : Ending → Heap → Prop} (ha : args.length ≤ 11) (hs : swp Tryd.prog f16 (retQ [.t 6] R) (argEnv 0 args) [] h) : CallsH Tryd.prog 16 args h R :=
  calls_of_swp mixed Tryd.func16 rfl (by kernel_rfl) (by kernel_rfl) (by kernel_rfl) ha hs

/-! 17: tabor/taborref05.At -/
def f17r0 : List SOper := [
  ⟨(some 6), none, .mv (.const (.slice none 0 0))⟩]
def f17r1 : List SOper := [
  ⟨(some 7), none, .mv (.const (.slice none 0 0))⟩]
def f17r2 : List SOper := [
  ⟨(some 8), none, .mv (.const (.int .i64 0))⟩]
def f17r3 : List SOper := [
  ⟨(some 9), none, .mv (.tmp 8)⟩,
  ⟨(some 10), none, .mv (.tmp 0)⟩,
  ⟨(some 11), none, .len (.tmp 10)⟩,
  ⟨(some 12), none, .cmp .lss (.tmp 9) (.tmp 11)⟩]
def f17r4 : List SOper := [
  ⟨(some 15), none, .mv (.tmp 8)⟩,
  ⟨(some 16), none, .mv (.tmp 1)⟩,
  ⟨(some 17), none, .cmp .geq (.tmp 15) (.tmp 16)⟩,
  ⟨(some 18), none, .mv (.tmp 17)⟩,
  ⟨(some 19), (some (18, true)), .mv (.tmp 8)⟩,
  ⟨(some 20), (some (18, true)), .mv (.tmp 2)⟩,
  ⟨(some 21), (some (18, true)), .cmp .lss (.tmp 19) (.tmp 20)⟩,
  ⟨(some 22), none, .pick (.tmp 18) (.tmp 21) (.const (.bool false))⟩]
def f17r5 : List SOper := [
  ⟨(some 23), none, .mv (.tmp 7)⟩,
  ⟨(some 24), none, .mv (.tmp 0)⟩,
  ⟨(some 25), none, .mv (.tmp 8)⟩,
  ⟨(some 26), none, .ixs 2 (.tmp 24) (.tmp 25)⟩,
  ⟨(some 27), none, .ldn 2 (.tmp 26)⟩,
  ⟨(some 28), none, .bslice [(.string ⟨#[]⟩), (.int .i64 0)] 1 [(0, 2)] [(.tmp 27)]⟩,
  ⟨(some 29), none, .app 2 24 [(.string ⟨#[]⟩), (.int .i64 0)] (.tmp 23) (.tmp 28)⟩,
  ⟨(some 7), none, .mv (.tmp 29)⟩]
def f17r6 : List SOper := [
  ⟨(some 13), none, .mv (.tmp 8)⟩,
  ⟨(some 14), none, .ar .add (.tmp 13) (.const (.int .i64 1))⟩,
  ⟨(some 8), none, .mv (.tmp 14)⟩]
def f17l7 : SCode := (.seq (.seq (.ops f17r3) (.cond (.tmp 12) .skip (.exit 0))) (.seq (.block 1 (.seq (.ops f17r4) (.cond (.tmp 22) (.ops f17r5) .skip))) (.ops f17r6)))
def f17r8 : List SOper := [
  ⟨(some 30), none, .mv (.tmp 7)⟩,
  ⟨(some 6), none, .mv (.tmp 30)⟩]
def f17 : SCode := (.seq (.ops f17r0) (.seq (.ops f17r1) (.seq (.seq (.ops f17r2) (.block 0 (.loop f17l7))) (.seq (.ops f17r8) .ret))))
theorem f17_calls {args : List Value} {h : Heap} {R : Ending → Heap → Prop} (ha : args.length ≤ 31) (hs : swp Tryd.prog f17 (retQ [.t 6] R) (argEnv 0 args) [] h) : CallsH Tryd.prog 17 args h R :=
  calls_of_swp mixed Tryd.func17 rfl (by kernel_rfl) (by kernel_rfl) (by kernel_rfl) ha hs

/-! 18: (*tabor/ranks.Ranks).Between -/
def f18r0 : List SOper := [
  ⟨(some 4), none, .box (.tmp 1)⟩,
  ⟨(some 5), none, .box (.tmp 2)⟩,
  ⟨(some 6), none, .mv (.const (.slice none 0 0))⟩]
def f18r1 : List SOper := [
  ⟨(some 7), none, .mv (.tmp 0)⟩,
  ⟨(some 8), none, .fn 36 [] [(.tmp 4)]⟩,
  ⟨(some 9), none, .fn 37 [] [(.tmp 5)]⟩,
  ⟨(some 10), none, .call 33 [(.tmp 7), (.tmp 8), (.tmp 9)]⟩,
  ⟨(some 6), none, .mv (.tmp 10)⟩]
def f18 : SCode := (.seq (.ops f18r0) (.seq (.ops f18r1) .ret))
theorem f18_calls {args : List Value} {h : Heap} {R : Ending → Heap → Prop} (ha : args.length ≤ 11) (hs : swp Tryd.prog f18 (retQ [.t 6] R) (argEnv 0 args) [] h) : CallsH Tryd.prog 18 args h R :=
  calls_of_swp mixed Tryd.func18 rfl (by kernel_rfl) (by kernel_rfl) (by kernel_rfl) ha hs

/-! 19: tabor/taborref05.Between -/
def f19r0 : List SOper := [
  ⟨(some 6), none, .mv (.const (.slice none 0 0))⟩]
def f19r1 : List SOper := [
  ⟨(some 7), none, .mv (.const (.slice none 0 0))⟩]
def f19r2 : List SOper := [
  ⟨(some 8), none, .mv (.const (.int .i64 0))⟩]
def f19r3 : List SOper := [
  ⟨(some 9), none, .mv (.tmp 8)⟩,
  ⟨(some 10), none, .mv (.tmp 0)⟩,
  ⟨(some 11), none, .len (.tmp 10)⟩,
  ⟨(some 12), none, .cmp .lss (.tmp 9) (.tmp 11)⟩]
def f19r4 : List SOper := [
  ⟨(some 15), none, .mv (.tmp 0)⟩,
  ⟨(some 16), none, .mv (.tmp 8)⟩,
  ⟨(some 17), none, .ixs 2 (.tmp 15) (.tmp 16)⟩,
  ⟨(some 18), none, .fa 1 (.tmp 17)⟩,
  ⟨(some 19), none, .ld1 (.tmp 18)⟩,
  ⟨(some 20), none, .mv (.tmp 1)⟩,
  ⟨(some 21), none, .cmp .geq (.tmp 19) (.tmp 20)⟩,
  ⟨(some 22), none, .mv (.tmp 21)⟩,
  ⟨(some 23), (some (22, true)), .mv (.tmp 0)⟩,
  ⟨(some 24), (some (22, true)), .mv (.tmp 8)⟩,
  ⟨(some 25), (some (22, true)), .ixs 2 (.tmp 23) (.tmp 24)⟩,
  ⟨(some 26), (some (22, true)), .fa 1 (.tmp 25)⟩,
  ⟨(some 27), (some (22, true)), .ld1 (.tmp 26)⟩,
  ⟨(some 28), (some (22, true)), .mv (.tmp 2)⟩,
  ⟨(some 29), (some (22, true)), .cmp .leq (.tmp 27) (.tmp 28)⟩,
  ⟨(some 30), none, .pick (.tmp 22) (.tmp 29) (.const (.bool false))⟩]
def f19r5 : List SOper := [
  ⟨(some 31), none, .mv (.tmp 7)⟩,
  ⟨(some 32), none, .mv (.tmp 0)⟩,
  ⟨(some 33), none, .mv (.tmp 8)⟩,
  ⟨(some 34), none, .ixs 2 (.tmp 32) (.tmp 33)⟩,
  ⟨(some 35), none, .ldn 2 (.tmp 34)⟩,
  ⟨(some 36), none, .bslice [(.string ⟨#[]⟩), (.int .i64 0)] 1 [(0, 2)] [(.tmp 35)]⟩,
  ⟨(some 37), none, .app 2 24 [(.string ⟨#[]⟩), (.int .i64 0)] (.tmp 31) (.tmp 36)⟩,
  ⟨(some 7), none, .mv (.tmp 37)⟩]
def f19r6 : List SOper := [
  ⟨(some 13), none, .mv (.tmp 8)⟩,
  ⟨(some 14), none, .ar .add (.tmp 13) (.const (.int .i64 1))⟩,
  ⟨(some 8), none, .mv (.tmp 14)⟩]
def f19l7 : SCode := (.seq (.seq (.ops f19r3) (.cond (.tmp 12) .skip (.exit 0))) (.seq (.block 1 (.seq (.ops f19r4) (.cond (.tmp 30) (.ops f19r5) .skip))) (.ops f19r6)))
def f19r8 : List SOper := [
  ⟨(some 38), none, .mv (.tmp 7)⟩,
  ⟨(some 6), none, .mv (.tmp 38)⟩]
def f19 : SCode := (.seq (.ops f19r0) (.seq (.ops f19r1) (.seq (.seq (.ops f19r2) (.block 0 (.loop f19l7))) (.seq (.ops f19r8) .ret))))
theorem f19_calls {args : List Value} {h : Heap} {R : Ending → Heap → Prop} (ha : args.length ≤ 39) (hs : swp Tryd.prog f19 (retQ [.t 6] R) (argEnv 0 args) [] h) : CallsH Tryd.prog 19 args h R :=
  calls_of_swp mixed Tryd.func19 rfl (by kernel_rfl) (by kernel_rfl) (by kernel_rfl) ha hs

/-! 20: (*tabor/ranks.Ranks).Drop -/
def f20r0 : List SOper := [
  ⟨(some 4), none, .mv (.const (.bool false))⟩]
def f20r1 : List SOper := [
  ⟨(some 7), none, .mv (.tmp 0)⟩,
  ⟨(some 8), none, .call 30 [(.tmp 7)]⟩]
def f20r2 : List SOper := [
  ⟨(some 4), none, .mv (.const (.bool false))⟩]
def f20r3 : List SOper := [
  ⟨(some 10), none, .mv (.tmp 0)⟩,
  ⟨(some 11), none, .nilck (.tmp 10)⟩,
  ⟨(some 12), none, .fa 1 (.tmp 11)⟩,
  ⟨(some 13), none, .ld1 (.tmp 12)⟩,
  ⟨(some 14), none, .mv (.tmp 1)⟩,
  ⟨(some 15), none, .look .str (.pointer none) true (.tmp 13) (.tmp 14)⟩,
  ⟨(some 9), none, .mv (.tmp 15)⟩,
  ⟨(some 16), none, .ext (.tmp 9) 0⟩,
  ⟨(some 17), none, .ext (.tmp 9) 1⟩,
  ⟨(some 5), none, .mv (.tmp 16)⟩,
  ⟨(some 6), none, .mv (.tmp 17)⟩]
def f20r4 : List SOper := [
  ⟨(some 18), none, .mv (.tmp 6)⟩]
def f20r5 : List SOper := [
  ⟨(some 19), none, .mv (.tmp 0)⟩,
  ⟨(some 20), none, .mv (.tmp 5)⟩,
  ⟨(some 21), none, .call 38 [(.tmp 19), (.tmp 20)]⟩]
def f20r6 : List SOper := [
  ⟨(some 22), none, .mv (.tmp 6)⟩,
  ⟨(some 4), none, .mv (.tmp 22)⟩]
def f20 : SCode := (.seq (.ops f20r0) (.seq (.seq (.ops f20r1) (.cond (.tmp 8) (.seq (.ops f20r2) .ret) .skip)) (.seq (.ops f20r3) (.seq (.seq (.ops f20r4) (.cond (.tmp 18) (.ops f20r5) .skip)) (.seq (.ops f20r6) .ret)))))
theorem f20_calls {args : List Value} {h : Heap} {R : Ending → Heap → Prop} (ha : args.length ≤ 23) (hs : swp Tryd.prog f20 (retQ [.t 4] R) (argEnv 0 args) [] h) : CallsH Tryd.prog 20 args h R :=
  calls_of_swp mixed Tryd.func20 rfl (by kernel_rfl) (by kernel_rfl) (by kernel_rfl) ha hs

/-! 21: tabor/taborlaw05.is -/
def f21r0 : List SOper := [
  ⟨(some 4), none, .mv (.const (.bool false))⟩]
def f21r1 : List SOper := [
  ⟨(some 13), none, .mv (.tmp 0)⟩,
  ⟨(some 14), none, .call 25 [(.tmp 13)]⟩,
  ⟨(some 12), none, .mv (.tmp 14)⟩,
  ⟨(some 15), none, .ext (.tmp 12) 0⟩,
  ⟨(some 16), none, .ext (.tmp 12) 1⟩,
  ⟨(some 5), none, .mv (.tmp 15)⟩,
  ⟨(some 6), none, .mv (.tmp 16)⟩]
def f21r2 : List SOper := [
  ⟨(some 17), none, .mv (.tmp 6)⟩,
  ⟨(some 18), none, .un .not (.tmp 17)⟩,
  ⟨(some 19), none, .mv (.tmp 18)⟩,
  ⟨(some 20), (some (19, false)), .mv (.tmp 5)⟩,
  ⟨(some 21), (some (19, false)), .mv (.tmp 1)⟩,
  ⟨(some 22), (some (19, false)), .call 15 [(.tmp 20), (.tmp 21)]⟩,
  ⟨(some 23), (some (19, false)), .un .not (.tmp 22)⟩,
  ⟨(some 24), none, .pick (.tmp 19) (.const (.bool true)) (.tmp 23)⟩,
  ⟨(some 25), none, .mv (.tmp 24)⟩,
  ⟨(some 26), (some (25, false)), .mv (.tmp 0)⟩,
  ⟨(some 27), (some (25, false)), .call 26 [(.tmp 26)]⟩,
  ⟨(some 28), (some (25, false)), .mv (.tmp 1)⟩,
  ⟨(some 29), (some (25, false)), .len (.tmp 28)⟩,
  ⟨(some 30), (some (25, false)), .cmp .neq (.tmp 27) (.tmp 29)⟩,
  ⟨(some 31), none, .pick (.tmp 25) (.const (.bool true)) (.tmp 30)⟩,
  ⟨(some 32), none, .mv (.tmp 31)⟩,
  ⟨(some 33), (some (32, false)), .mv (.tmp 0)⟩,
  ⟨(some 34), (some (32, false)), .mv (.tmp 1)⟩,
  ⟨(some 35), (some (32, false)), .len (.tmp 34)⟩,
  ⟨(some 36), (some (32, false)), .call 16 [(.tmp 33), (.const (.int .i64 0)), (.tmp 35)]⟩,
  ⟨(some 37), (some (32, false)), .mv (.tmp 1)⟩,
  ⟨(some 38), (some (32, false)), .call 15 [(.tmp 36), (.tmp 37)]⟩,
  ⟨(some 39), (some (32, false)), .un .not (.tmp 38)⟩,
  ⟨(some 40), none, .pick (.tmp 32) (.const (.bool true)) (.tmp 39)⟩]
def f21r3 : List SOper := [
  ⟨(some 4), none, .mv (.const (.bool false))⟩]
def f21r4 : List SOper := [
  ⟨(some 7), none, .mv (.const (.int .i64 0))⟩]
def f21r5 : List SOper := [
  ⟨(some 41), none, .mv (.tmp 7)⟩,
  ⟨(some 42), none, .mv (.tmp 1)⟩,
  ⟨(some 43), none, .len (.tmp 42)⟩,
  ⟨(some 44), none, .cmp .lss (.tmp 41) (.tmp 43)⟩]
def f21r6 : List SOper := [
  ⟨(some 48), none, .mv (.tmp 0)⟩,
  ⟨(some 49), none, .mv (.tmp 1)⟩,
  ⟨(some 50), none, .mv (.tmp 7)⟩,
  ⟨(some 51), none, .ixs 2 (.tmp 49) (.tmp 50)⟩,
  ⟨(some 52), none, .fa 0 (.tmp 51)⟩,
  ⟨(some 53), none, .ld1 (.tmp 52)⟩,
  ⟨(some 54), none, .call 12 [(.tmp 48), (.tmp 53)]⟩,
  ⟨(some 47), none, .mv (.tmp 54)⟩,
  ⟨(some 55), none, .ext (.tmp 47) 0⟩,
  ⟨(some 56), none, .ext (.tmp 47) 1⟩,
  ⟨(some 8), none, .mv (.tmp 55)⟩,
  ⟨(some 9), none, .mv (.tmp 56)⟩]
def f21r7 : List SOper := [
  ⟨(some 58), none, .mv (.tmp 0)⟩,
  ⟨(some 59), none, .mv (.tmp 1)⟩,
  ⟨(some 60), none, .mv (.tmp 7)⟩,
  ⟨(some 61), none, .ixs 2 (.tmp 59) (.tmp 60)⟩,
  ⟨(some 62), none, .fa 0 (.tmp 61)⟩,
  ⟨(some 63), none, .ld1 (.tmp 62)⟩,
  ⟨(some 64), none, .call 13 [(.tmp 58), (.tmp 63)]⟩,
  ⟨(some 57), none, .mv (.tmp 64)⟩,
  ⟨(some 65), none, .ext (.tmp 57) 0⟩,
  ⟨(some 66), none, .ext (.tmp 57) 1⟩,
  ⟨(some 10), none, .mv (.tmp 65)⟩,
  ⟨(some 11), none, .mv (.tmp 66)⟩]
def f21r8 : List SOper := [
  ⟨(some 67), none, .mv (.tmp 8)⟩,
  ⟨(some 68), none, .mv (.tmp 7)⟩,
  ⟨(some 69), none, .cmp .neq (.tmp 67) (.tmp 68)⟩,
  ⟨(some 70), none, .mv (.tmp 69)⟩,
  ⟨(some 71), (some (70, false)), .mv (.tmp 9)⟩,
  ⟨(some 72), (some (70, false)), .un .not (.tmp 71)⟩,
  ⟨(some 73), none, .pick (.tmp 70) (.const (.bool true)) (.tmp 72)⟩,
  ⟨(some 74), none, .mv (.tmp 73)⟩,
  ⟨(some 75), (some (74, false)), .mv (.tmp 10)⟩,
  ⟨(some 76), (some (74, false)), .mv (.tmp 1)⟩,
  ⟨(some 77), (some (74, false)), .mv (.tmp 7)⟩,
  ⟨(some 78), (some (74, false)), .ixs 2 (.tmp 76) (.tmp 77)⟩,
  ⟨(some 79), (some (74, false)), .fa 1 (.tmp 78)⟩,
  ⟨(some 80), (some (74, false)), .ld1 (.tmp 79)⟩,
  ⟨(some 81), (some (74, false)), .cmp .neq (.tmp 75) (.tmp 80)⟩,
  ⟨(some 82), none, .pick (.tmp 74) (.const (.bool true)) (.tmp 81)⟩,
  ⟨(some 83), none, .mv (.tmp 82)⟩,
  ⟨(some 84), (some (83, false)), .mv (.tmp 11)⟩,
  ⟨(some 85), (some (83, false)), .un .not (.tmp 84)⟩,
  ⟨(some 86), none, .pick (.tmp 83) (.const (.bool true)) (.tmp 85)⟩]
def f21r9 : List SOper := [
  ⟨(some 4), none, .mv (.const (.bool false))⟩]
def f21r10 : List SOper := [
  ⟨(some 45), none, .mv (.tmp 7)⟩,
  ⟨(some 46), none, .ar .add (.tmp 45) (.const (.int .i64 1))⟩,
  ⟨(some 7), none, .mv (.tmp 46)⟩]
def f21l11 : SCode := (.seq (.seq (.ops f21r5) (.cond (.tmp 44) .skip (.exit 0))) (.seq (.block 1 (.seq (.ops f21r6) (.seq (.ops f21r7) (.seq (.ops f21r8) (.cond (.tmp 86) (.seq (.ops f21r9) .ret) .skip))))) (.ops f21r10)))
def f21r12 : List SOper := [
  ⟨(some 4), none, .mv (.const (.bool true))⟩]
def f21 : SCode := (.seq (.ops f21r0) (.seq (.ops f21r1) (.seq (.seq (.ops f21r2) (.cond (.tmp 40) (.seq (.ops f21r3) .ret) .skip)) (.seq (.seq (.ops f21r4) (.block 0 (.loop f21l11))) (.seq (.ops f21r12) .ret)))))
theorem f21_calls {args : List Value} {h : Heap} {R : Ending → Heap → Prop} (ha : args.length ≤ 87) (hs : swp Tryd.prog f21 (retQ [.t 4] R) (argEnv 0 args) [] h) : CallsH Tryd.prog 21 args h R :=
  calls_of_swp mixed Tryd.func21 rfl (by kernel_rfl) (by kernel_rfl) (by kernel_rfl) ha hs

/-! 22: tabor/taborref05.Drop -/
def f22r0 : List SOper := [
  ⟨(some 4), none, .mv (.const (.slice none 0 0))⟩]
def f22r1 : List SOper := [
  ⟨(some 5), none, .mv (.const (.slice none 0 0))⟩]
def f22r2 : List SOper := [
  ⟨(some 6), none, .mv (.const (.int .i64 0))⟩]
def f22r3 : List SOper := [
  ⟨(some 7), none, .mv (.tmp 6)⟩,
  ⟨(some 8), none, .mv (.tmp 0)⟩,
  ⟨(some 9), none, .len (.tmp 8)⟩,
  ⟨(some 10), none, .cmp .lss (.tmp 7) (.tmp 9)⟩]
def f22r4 : List SOper := [
  ⟨(some 13), none, .mv (.tmp 0)⟩,
  ⟨(some 14), none, .mv (.tmp 6)⟩,
  ⟨(some 15), none, .ixs 2 (.tmp 13) (.tmp 14)⟩,
  ⟨(some 16), none, .fa 0 (.tmp 15)⟩,
  ⟨(some 17), none, .ld1 (.tmp 16)⟩,
  ⟨(some 18), none, .mv (.tmp 1)⟩,
  ⟨(some 19), none, .cmp .neq (.tmp 17) (.tmp 18)⟩]
def f22r5 : List SOper := [
  ⟨(some 20), none, .mv (.tmp 5)⟩,
  ⟨(some 21), none, .mv (.tmp 0)⟩,
  ⟨(some 22), none, .mv (.tmp 6)⟩,
  ⟨(some 23), none, .ixs 2 (.tmp 21) (.tmp 22)⟩,
  ⟨(some 24), none, .ldn 2 (.tmp 23)⟩,
  ⟨(some 25), none, .bslice [(.string ⟨#[]⟩), (.int .i64 0)] 1 [(0, 2)] [(.tmp 24)]⟩,
  ⟨(some 26), none, .app 2 24 [(.string ⟨#[]⟩), (.int .i64 0)] (.tmp 20) (.tmp 25)⟩,
  ⟨(some 5), none, .mv (.tmp 26)⟩]
def f22r6 : List SOper := [
  ⟨(some 11), none, .mv (.tmp 6)⟩,
  ⟨(some 12), none, .ar .add (.tmp 11) (.const (.int .i64 1))⟩,
  ⟨(some 6), none, .mv (.tmp 12)⟩]
def f22l7 : SCode := (.seq (.seq (.ops f22r3) (.cond (.tmp 10) .skip (.exit 0))) (.seq (.block 1 (.seq (.ops f22r4) (.cond (.tmp 19) (.ops f22r5) .skip))) (.ops f22r6)))
def f22r8 : List SOper := [
  ⟨(some 27), none, .mv (.tmp 5)⟩,
  ⟨(some 4), none, .mv (.tmp 27)⟩]
def f22 : SCode := (.seq (.ops f22r0) (.seq (.ops f22r1) (.seq (.seq (.ops f22r2) (.block 0 (.loop f22l7))) (.seq (.ops f22r8) .ret))))
theorem f22_calls {args : List Value} {h : Heap} {R : Ending → Heap → Prop} (ha : args.length ≤ 28) (hs : swp Tryd.prog f22 (retQ [.t 4] R) (argEnv 0 args) [] h) : CallsH Tryd.prog 22 args h R :=
  calls_of_swp mixed Tryd.func22 rfl (by kernel_rfl) (by kernel_rfl) (by kernel_rfl) ha hs

/-! 23: tabor/taborref05.Set -/
def f23r0 : List SOper := [
  ⟨(some 3), none, .box (.tmp 1)⟩,
  ⟨(some 4), none, .mv (.const (.slice none 0 0))⟩,
  ⟨(some 5), none, .mv (.const (.int .i64 0))⟩]
def f23r1 : List SOper := [
  ⟨(some 10), none, .mv (.tmp 0)⟩,
  ⟨(some 11), none, .fa 0 (.tmp 3)⟩,
  ⟨(some 12), none, .ld1 (.tmp 11)⟩,
  ⟨(some 13), none, .call 14 [(.tmp 10), (.tmp 12)]⟩,
  ⟨(some 14), none, .cmp .geq (.tmp 13) (.const (.int .i64 0))⟩,
  ⟨(some 6), none, .mv (.tmp 14)⟩]
def f23r2 : List SOper := [
  ⟨(some 15), none, .fa 0 (.tmp 3)⟩,
  ⟨(some 16), none, .ld1 (.tmp 15)⟩,
  ⟨(some 17), none, .lens (.tmp 16)⟩,
  ⟨(some 18), none, .cmp .gtr (.tmp 17) (.const (.int .i64 1048576))⟩,
  ⟨(some 19), none, .mv (.tmp 18)⟩,
  ⟨(some 20), (some (19, false)), .mv (.tmp 6)⟩,
  ⟨(some 21), (some (19, false)), .un .not (.tmp 20)⟩,
  ⟨(some 22), (some (19, false)), .mv (.tmp 21)⟩,
  ⟨(some 23), (some (22, true)), .mv (.tmp 0)⟩,
  ⟨(some 24), (some (22, true)), .len (.tmp 23)⟩,
  ⟨(some 25), (some (22, true)), .cmp .geq (.tmp 24) (.const (.int .i64 65536))⟩,
  ⟨(some 26), (some (19, false)), .pick (.tmp 22) (.tmp 25) (.const (.bool false))⟩,
  ⟨(some 27), none, .pick (.tmp 19) (.const (.bool true)) (.tmp 26)⟩]
def f23r3 : List SOper := [
  ⟨(some 28), none, .mv (.tmp 0)⟩,
  ⟨(some 4), none, .mv (.tmp 28)⟩,
  ⟨(some 5), none, .mv (.const (.int .i64 3))⟩]
def f23r4 : List SOper := [
  ⟨(some 29), none, .mv (.tmp 0)⟩,
  ⟨(some 30), none, .fa 0 (.tmp 3)⟩,
  ⟨(some 31), none, .ld1 (.tmp 30)⟩,
  ⟨(some 32), none, .call 22 [(.tmp 29), (.tmp 31)]⟩,
  ⟨(some 7), none, .mv (.tmp 32)⟩]
def f23r5 : List SOper := [
  ⟨(some 8), none, .mv (.const (.slice none 0 0))⟩]
def f23r6 : List SOper := [
  ⟨(some 9), none, .mv (.const (.int .i64 0))⟩]
def f23r7 : List SOper := [
  ⟨(some 33), none, .mv (.tmp 9)⟩,
  ⟨(some 34), none, .mv (.tmp 7)⟩,
  ⟨(some 35), none, .len (.tmp 34)⟩,
  ⟨(some 36), none, .cmp .lss (.tmp 33) (.tmp 35)⟩,
  ⟨(some 37), none, .mv (.tmp 36)⟩,
  ⟨(some 38), (some (37, true)), .mv (.tmp 7)⟩,
  ⟨(some 39), (some (37, true)), .mv (.tmp 9)⟩,
  ⟨(some 40), (some (37, true)), .ixs 2 (.tmp 38) (.tmp 39)⟩,
  ⟨(some 41), (some (37, true)), .ldn 2 (.tmp 40)⟩,
  ⟨(some 42), (some (37, true)), .ldn 2 (.tmp 3)⟩,
  ⟨(some 43), (some (37, true)), .call 39 [(.tmp 41), (.tmp 42)]⟩,
  ⟨(some 44), none, .pick (.tmp 37) (.tmp 43) (.const (.bool false))⟩]
def f23r8 : List SOper := [
  ⟨(some 45), none, .mv (.tmp 9)⟩,
  ⟨(some 46), none, .ar .add (.tmp 45) (.const (.int .i64 1))⟩,
  ⟨(some 9), none, .mv (.tmp 46)⟩]
def f23l9 : SCode := (.seq (.seq (.ops f23r7) (.cond (.tmp 44) .skip (.exit 0))) (.block 1 (.ops f23r8)))
def f23r10 : List SOper := [
  ⟨(some 47), none, .mv (.tmp 8)⟩,
  ⟨(some 48), none, .mv (.tmp 7)⟩,
  ⟨(some 49), none, .mv (.tmp 9)⟩,
  ⟨(some 50), none, .slc 2 (.tmp 48) none (some (.tmp 49))⟩,
  ⟨(some 51), none, .app 2 24 [(.string ⟨#[]⟩), (.int .i64 0)] (.tmp 47) (.tmp 50)⟩,
  ⟨(some 8), none, .mv (.tmp 51)⟩]
def f23r11 : List SOper := [
  ⟨(some 52), none, .mv (.tmp 8)⟩,
  ⟨(some 53), none, .ldn 2 (.tmp 3)⟩,
  ⟨(some 54), none, .bslice [(.string ⟨#[]⟩), (.int .i64 0)] 1 [(0, 2)] [(.tmp 53)]⟩,
  ⟨(some 55), none, .app 2 24 [(.string ⟨#[]⟩), (.int .i64 0)] (.tmp 52) (.tmp 54)⟩,
  ⟨(some 8), none, .mv (.tmp 55)⟩]
def f23r12 : List SOper := [
  ⟨(some 56), none, .mv (.tmp 8)⟩,
  ⟨(some 57), none, .mv (.tmp 7)⟩,
  ⟨(some 58), none, .mv (.tmp 9)⟩,
  ⟨(some 59), none, .slc 2 (.tmp 57) (some (.tmp 58)) none⟩,
  ⟨(some 60), none, .app 2 24 [(.string ⟨#[]⟩), (.int .i64 0)] (.tmp 56) (.tmp 59)⟩,
  ⟨(some 4), none, .mv (.tmp 60)⟩,
  ⟨(some 5), none, .mv (.const (.int .i64 0))⟩]
def f23 : SCode := (.seq (.ops f23r0) (.seq (.ops f23r1) (.seq (.seq (.ops f23r2) (.cond (.tmp 27) (.seq (.ops f23r3) .ret) .skip)) (.seq (.ops f23r4) (.seq (.ops f23r5) (.seq (.ops f23r6) (.seq (.block 0 (.loop f23l9)) (.seq (.ops f23r10) (.seq (.ops f23r11) (.seq (.ops f23r12) .ret))))))))))
theorem f23_calls {args : List Value} {h : Heap} {R : Ending → Heap → Prop} (ha : args.length ≤ 61) (hs : swp Tryd.prog f23 (retQ [.t 4, .t 5] R) (argEnv 0 args) [] h) : CallsH Tryd.prog 23 args h R :=
  calls_of_swp mixed Tryd.func23 rfl (by kernel_rfl) (by kernel_rfl) (by kernel_rfl) ha hs

/-! 24: (*tabor/ranks.Ranks).Set -/
def f24r0 : List SOper := [
  ⟨(some 8), none, .mv (.const (.bool false))⟩,
  ⟨(some 9), none, .mv (.const (.int .i64 0))⟩]
def f24r1 : List SOper := [
  ⟨(some 12), none, .mv (.tmp 0)⟩,
  ⟨(some 13), none, .call 30 [(.tmp 12)]⟩]
def f24r2 : List SOper := [
  ⟨(some 8), none, .mv (.const (.bool false))⟩,
  ⟨(some 9), none, .mv (.const (.int .i64 1))⟩]
def f24r3 : List SOper := [
  ⟨(some 15), none, .mv (.tmp 0)⟩,
  ⟨(some 16), none, .nilck (.tmp 15)⟩,
  ⟨(some 17), none, .fa 1 (.tmp 16)⟩,
  ⟨(some 18), none, .ld1 (.tmp 17)⟩,
  ⟨(some 19), none, .mv (.tmp 1)⟩,
  ⟨(some 20), none, .look .str (.pointer none) true (.tmp 18) (.tmp 19)⟩,
  ⟨(some 14), none, .mv (.tmp 20)⟩,
  ⟨(some 21), none, .ext (.tmp 14) 0⟩,
  ⟨(some 22), none, .ext (.tmp 14) 1⟩,
  ⟨(some 10), none, .mv (.tmp 21)⟩,
  ⟨(some 11), none, .mv (.tmp 22)⟩]
def f24r4 : List SOper := [
  ⟨(some 23), none, .mv (.tmp 1)⟩,
  ⟨(some 24), none, .lens (.tmp 23)⟩,
  ⟨(some 25), none, .cmp .gtr (.tmp 24) (.const (.int .i64 1048576))⟩,
  ⟨(some 26), none, .mv (.tmp 25)⟩,
  ⟨(some 27), (some (26, false)), .mv (.tmp 11)⟩,
  ⟨(some 28), (some (26, false)), .un .not (.tmp 27)⟩,
  ⟨(some 29), (some (26, false)), .mv (.tmp 28)⟩,
  ⟨(some 30), (some (29, true)), .mv (.tmp 0)⟩,
  ⟨(some 31), (some (29, true)), .nilck (.tmp 30)⟩,
  ⟨(some 32), (some (29, true)), .fa 1 (.tmp 31)⟩,
  ⟨(some 33), (some (29, true)), .ld1 (.tmp 32)⟩,
  ⟨(some 34), (some (29, true)), .lenm (.tmp 33)⟩,
  ⟨(some 35), (some (29, true)), .cmp .geq (.tmp 34) (.const (.int .i64 65536))⟩,
  ⟨(some 36), (some (26, false)), .pick (.tmp 29) (.tmp 35) (.const (.bool false))⟩,
  ⟨(some 37), none, .pick (.tmp 26) (.const (.bool true)) (.tmp 36)⟩]
def f24r5 : List SOper := [
  ⟨(some 8), none, .mv (.const (.bool false))⟩,
  ⟨(some 9), none, .mv (.const (.int .i64 3))⟩]
def f24r6 : List SOper := [
  ⟨(some 38), none, .mv (.tmp 11)⟩]
def f24r7 : List SOper := [
  ⟨(some 39), none, .mv (.tmp 0)⟩,
  ⟨(some 40), none, .mv (.tmp 10)⟩,
  ⟨(some 41), none, .call 38 [(.tmp 39), (.tmp 40)]⟩]
def f24r8 : List SOper := [
  ⟨(some 42), none, .mv (.tmp 0)⟩,
  ⟨(some 43), none, .mv (.tmp 1)⟩,
  ⟨(some 44), none, .mv (.tmp 2)⟩,
  ⟨(some 45), none, .build [(.string ⟨#[]⟩), (.int .i64 0)] [(0, 1), (1, 1)] [(.tmp 43), (.tmp 44)]⟩,
  ⟨(some 46), none, .mv (.tmp 3)⟩,
  ⟨(some 47), none, .call 29 [(.tmp 42), (.tmp 45), (.tmp 46)]⟩]
def f24r9 : List SOper := [
  ⟨(some 48), none, .mv (.tmp 11)⟩,
  ⟨(some 49), none, .un .not (.tmp 48)⟩,
  ⟨(some 8), none, .mv (.tmp 49)⟩,
  ⟨(some 9), none, .mv (.const (.int .i64 0))⟩]
def f24 : SCode := (.seq (.ops f24r0) (.seq (.seq (.ops f24r1) (.cond (.tmp 13) (.seq (.ops f24r2) .ret) .skip)) (.seq (.ops f24r3) (.seq (.seq (.ops f24r4) (.cond (.tmp 37) (.seq (.ops f24r5) .ret) .skip)) (.seq (.seq (.ops f24r6) (.cond (.tmp 38) (.ops f24r7) .skip)) (.seq (.ops f24r8) (.seq (.ops f24r9) .ret)))))))
theorem f24_calls {args : List Value} {h : Heap} {R : Ending → Heap → Prop} (ha : args.length ≤ 50) (hs : swp Tryd.prog f24 (retQ [.t 8, .t 9] R) (argEnv 0 args) [] h) : CallsH Tryd.prog 24 args h R :=
  calls_of_swp mixed Tryd.func24 rfl (by kernel_rfl) (by kernel_rfl) (by kernel_rfl) ha hs

/-! 25: tabor/taborlaw05.all -/
def f25r0 : List SOper := [
  ⟨(some 2), none, .mv (.const (.slice none 0 0))⟩,
  ⟨(some 3), none, .mv (.const (.bool false))⟩]
def f25r1 : List SOper := [
  ⟨(some 4), none, .new [(.slice none 0 0)]⟩]
def f25r2 : List SOper := [
  ⟨(some 5), none, .new [(.bool false)]⟩,
  ⟨none, none, .st 1 (.tmp 5) (.const (.bool true))⟩]
def f25r3 : List SOper := [
  ⟨(some 8), none, .mv (.tmp 0)⟩,
  ⟨(some 9), none, .call 40 [(.tmp 8)]⟩,
  ⟨(some 10), none, .eqn 3 false (.tmp 9)⟩]
def f25r4 : List SOper := [
  ⟨(some 2), none, .mv (.const (.slice none 0 0))⟩,
  ⟨(some 3), none, .mv (.const (.bool false))⟩]
def f25r5 : List SOper := [
  ⟨(some 11), none, .mv (.tmp 0)⟩,
  ⟨(some 12), none, .call 40 [(.tmp 11)]⟩]
def f25r6 : List SOper := [
  ⟨(some 6), none, .mv (.tmp 13)⟩]
def f25r7 : List SOper := [
  ⟨(some 7), none, .new [(.string ⟨#[]⟩), (.int .i64 0)]⟩,
  ⟨none, none, .st 2 (.tmp 7) (.tmp 14)⟩]
def f25r8 : List SOper := [
  ⟨(some 15), none, .ld1 (.tmp 5)⟩,
  ⟨(some 16), none, .mv (.tmp 15)⟩,
  ⟨(some 17), (some (16, true)), .mv (.tmp 6)⟩,
  ⟨(some 18), (some (16, true)), .ld1 (.tmp 4)⟩,
  ⟨(some 19), (some (16, true)), .len (.tmp 18)⟩,
  ⟨(some 20), (some (16, true)), .cmp .eql (.tmp 17) (.tmp 19)⟩,
  ⟨(some 21), none, .pick (.tmp 16) (.tmp 20) (.const (.bool false))⟩,
  ⟨none, none, .st 1 (.tmp 5) (.tmp 21)⟩]
def f25r9 : List SOper := [
  ⟨(some 22), none, .ld1 (.tmp 4)⟩,
  ⟨(some 23), none, .ldn 2 (.tmp 7)⟩,
  ⟨(some 24), none, .bslice [(.string ⟨#[]⟩), (.int .i64 0)] 1 [(0, 2)] [(.tmp 23)]⟩,
  ⟨(some 25), none, .app 2 24 [(.string ⟨#[]⟩), (.int .i64 0)] (.tmp 22) (.tmp 24)⟩,
  ⟨none, none, .st 1 (.tmp 4) (.tmp 25)⟩]
def f25a10 : SCode := (.seq (.ops f25r6) (.ops f25r7))
def f25b10 : SCode := (.block 1 (.seq (.ops f25r8) (.ops f25r9)))
def f25r11 : List SOper := [
  ⟨(some 26), none, .ld1 (.tmp 4)⟩,
  ⟨(some 27), none, .ld1 (.tmp 5)⟩,
  ⟨(some 2), none, .mv (.tmp 26)⟩,
  ⟨(some 3), none, .mv (.tmp 27)⟩]
def f25 : SCode := (.seq (.ops f25r0) (.seq (.ops f25r1) (.seq (.ops f25r2) (.seq (.seq (.ops f25r3) (.cond (.tmp 10) (.seq (.ops f25r4) .ret) .skip)) (.seq (.seq (.ops f25r5) (.block 0 (.rangeF (.tmp 12) [13, 14] f25a10 f25b10))) (.seq (.ops f25r11) .ret))))))
theorem f25_calls {args : List Value} {h : Heap} {R : Ending → Heap → Prop} (ha : args.length ≤ 28) (hs : swp Tryd.prog f25 (retQ [.t 2, .t 3] R) (argEnv 0 args) [] h) : CallsH Tryd.prog 25 args h R :=
  calls_of_swp mixed Tryd.func25 rfl (by kernel_rfl) (by kernel_rfl) (by kernel_rfl) ha hs

/-! 26: (*tabor/ranks.Ranks).Len -/
def f26r0 : List SOper := [
  ⟨(some 2), none, .mv (.const (.int .i64 0))⟩]
def f26r1 : List SOper := [
  ⟨(some 3), none, .mv (.tmp 0)⟩,
  ⟨(some 4), none, .call 30 [(.tmp 3)]⟩]
def f26r2 : List SOper := [
  ⟨(some 2), none, .mv (.const (.int .i64 0))⟩]
def f26r3 : List SOper := [
  ⟨(some 5), none, .mv (.tmp 0)⟩,
  ⟨(some 6), none, .nilck (.tmp 5)⟩,
  ⟨(some 7), none, .fa 1 (.tmp 6)⟩,
  ⟨(some 8), none, .ld1 (.tmp 7)⟩,
  ⟨(some 9), none, .lenm (.tmp 8)⟩,
  ⟨(some 2), none, .mv (.tmp 9)⟩]
def f26 : SCode := (.seq (.ops f26r0) (.seq (.seq (.ops f26r1) (.cond (.tmp 4) (.seq (.ops f26r2) .ret) .skip)) (.seq (.ops f26r3) .ret)))
theorem f26_calls {args : List Value} {h : Heap} {R : Ending → Heap → Prop} (ha : args.length ≤ 10) (hs : swp Tryd.prog f26 (retQ [.t 2] R) (argEnv 0 args) [] h) : CallsH Tryd.prog 26 args h R :=
  calls_of_swp mixed Tryd.func26 rfl (by kernel_rfl) (by kernel_rfl) (by kernel_rfl) ha hs

/-! 27: (*tabor/ranks.Ranks).Copy -/
def f27r0 : List SOper := [
  ⟨(some 2), none, .mv (.const (.pointer none))⟩]
def f27r1 : List SOper := [
  ⟨(some 6), none, .mv (.tmp 0)⟩,
  ⟨(some 7), none, .call 30 [(.tmp 6)]⟩]
def f27r2 : List SOper := [
  ⟨(some 2), none, .mv (.const (.pointer none))⟩]
def f27r3 : List SOper := [
  ⟨(some 8), none, .call 28 []⟩,
  ⟨(some 3), none, .new [(.pointer none)]⟩,
  ⟨none, none, .st 1 (.tmp 3) (.tmp 8)⟩]
def f27r4 : List SOper := [
  ⟨(some 9), none, .mv (.tmp 0)⟩,
  ⟨(some 10), none, .call 40 [(.tmp 9)]⟩]
def f27r5 : List SOper := [
  ⟨(some 5), none, .new [(.string ⟨#[]⟩), (.int .i64 0)]⟩,
  ⟨none, none, .st 2 (.tmp 5) (.tmp 12)⟩]
def f27r6 : List SOper := [
  ⟨(some 13), none, .ld1 (.tmp 3)⟩,
  ⟨(some 14), none, .ldn 2 (.tmp 5)⟩,
  ⟨(some 15), none, .call 29 [(.tmp 13), (.tmp 14), (.const (.int .i64 0))]⟩]
def f27a7 : SCode := (.ops f27r5)
def f27b7 : SCode := (.block 1 (.ops f27r6))
def f27r8 : List SOper := [
  ⟨(some 16), none, .ld1 (.tmp 3)⟩,
  ⟨(some 2), none, .mv (.tmp 16)⟩]
def f27 : SCode := (.seq (.ops f27r0) (.seq (.seq (.ops f27r1) (.cond (.tmp 7) (.seq (.ops f27r2) .ret) .skip)) (.seq (.ops f27r3) (.seq (.seq (.ops f27r4) (.block 0 (.rangeF (.tmp 10) [11, 12] f27a7 f27b7))) (.seq (.ops f27r8) .ret)))))
theorem f27_calls {args : List Value} {h : Heap} {R : Ending → Heap → Prop} (ha : args.length ≤ 17) (hs : swp Tryd.prog f27 (retQ [.t 2] R) (argEnv 0 args) [] h) : CallsH Tryd.prog 27 args h R :=
  calls_of_swp mixed Tryd.func27 rfl (by kernel_rfl) (by kernel_rfl) (by kernel_rfl) ha hs

/-! 28: tabor/ranks.begun -/
def f28r0 : List SOper := [
  ⟨(some 0), none, .mv (.const (.pointer none))⟩]
def f28r1 : List SOper := [
  ⟨(some 1), none, .mks 16 [(.pointer none), (.int .i64 0)] (.const (.int .i64 16)) (.const (.int .i64 16))⟩,
  ⟨(some 2), none, .build [(.string ⟨#[]⟩), (.int .i64 0), (.slice none 0 0)] [(2, 1)] [(.tmp 1)]⟩,
  ⟨(some 3), none, .box (.tmp 2)⟩,
  ⟨(some 4), none, .mkm⟩,
  ⟨(some 5), none, .build [(.pointer none), (.map none)] [(0, 1), (1, 1)] [(.tmp 3), (.tmp 4)]⟩,
  ⟨(some 6), none, .box (.tmp 5)⟩,
  ⟨(some 0), none, .mv (.tmp 6)⟩]
def f28 : SCode := (.seq (.ops f28r0) (.seq (.ops f28r1) .ret))
theorem f28_calls {args : List Value} {h : Heap} {R : Ending → Heap → Prop} (ha : args.length ≤ 7) (hs : swp Tryd.prog f28 (retQ [.t 0] R) (argEnv 0 args) [] h) : CallsH Tryd.prog 28 args h R :=
  calls_of_swp mixed Tryd.func28 rfl (by kernel_rfl) (by kernel_rfl) (by kernel_rfl) ha hs

/-! 29: (*tabor/ranks.Ranks).put -/
def f29r0 : List SOper := [
  ⟨(some 4), none, .box (.tmp 1)⟩]
def f29r1 : List SOper := [
  ⟨(some 11), none, .mv (.tmp 0)⟩,
  ⟨(some 12), none, .ldn 2 (.tmp 4)⟩,
  ⟨(some 13), none, .call 32 [(.tmp 12)]⟩,
  ⟨(some 14), none, .call 31 [(.tmp 11), (.tmp 13)]⟩,
  ⟨(some 6), none, .mv (.tmp 14)⟩]
def f29r2 : List SOper := [
  ⟨(some 15), none, .ldn 2 (.tmp 4)⟩,
  ⟨(some 16), none, .mv (.tmp 0)⟩,
  ⟨(some 17), none, .nilck (.tmp 16)⟩,
  ⟨(some 18), none, .fa 1 (.tmp 17)⟩,
  ⟨(some 19), none, .ld1 (.tmp 18)⟩,
  ⟨(some 20), none, .lenm (.tmp 19)⟩,
  ⟨(some 21), none, .ar .add (.tmp 20) (.const (.int .i64 1))⟩,
  ⟨(some 22), none, .cvt .u64 (.tmp 21)⟩,
  ⟨(some 24), none, .mv (.tmp 2)⟩,
  ⟨(some 25), none, .bit .and (.tmp 24) (.const (.int .i64 1))⟩,
  ⟨(some 23), none, .callq 41 [(.tmp 22)]⟩,
  ⟨(some 26), none, .ar .add (.tmp 23) (.tmp 25)⟩,
  ⟨(some 27), none, .mn (.const (.int .i64 15)) (.tmp 26)⟩,
  ⟨(some 28), none, .ar .add (.const (.int .i64 1)) (.tmp 27)⟩,
  ⟨(some 29), none, .mks 16 [(.pointer none), (.int .i64 0)] (.tmp 28) (.tmp 28)⟩,
  ⟨(some 30), none, .build [(.string ⟨#[]⟩), (.int .i64 0), (.slice none 0 0)] [(0, 2), (2, 1)] [(.tmp 15), (.tmp 29)]⟩,
  ⟨(some 31), none, .box (.tmp 30)⟩,
  ⟨(some 7), none, .mv (.tmp 31)⟩]
def f29r3 : List SOper := [
  ⟨(some 32), none, .mv (.const (.int .i64 0))⟩]
def f29r4 : List SOper := [
  ⟨(some 33), none, .cmp .lss (.tmp 32) (.const (.int .i64 16))⟩]
def f29r5 : List SOper := [
  ⟨(some 34), none, .mv (.tmp 32)⟩,
  ⟨(some 8), none, .mv (.tmp 34)⟩]
def f29r6 : List SOper := [
  ⟨(some 35), none, .mv (.tmp 6)⟩,
  ⟨(some 36), none, .mv (.tmp 8)⟩,
  ⟨(some 37), none, .nilck (.tmp 35)⟩,
  ⟨(some 38), none, .fa 0 (.tmp 37)⟩,
  ⟨(some 39), none, .ixa 16 1 (.tmp 38) (.tmp 36)⟩,
  ⟨(some 40), none, .ld1 (.tmp 39)⟩,
  ⟨(some 41), none, .nilck (.tmp 40)⟩,
  ⟨(some 42), none, .fa 2 (.tmp 41)⟩,
  ⟨(some 43), none, .ld1 (.tmp 42)⟩,
  ⟨(some 44), none, .mv (.tmp 8)⟩,
  ⟨(some 45), none, .ixs 2 (.tmp 43) (.tmp 44)⟩,
  ⟨(some 9), none, .mv (.tmp 45)⟩]
def f29r7 : List SOper := [
  ⟨(some 46), none, .mv (.tmp 8)⟩,
  ⟨(some 47), none, .mv (.tmp 7)⟩,
  ⟨(some 48), none, .nilck (.tmp 47)⟩,
  ⟨(some 49), none, .fa 2 (.tmp 48)⟩,
  ⟨(some 50), none, .ld1 (.tmp 49)⟩,
  ⟨(some 51), none, .len (.tmp 50)⟩,
  ⟨(some 52), none, .cmp .geq (.tmp 46) (.tmp 51)⟩]
def f29r8 : List SOper := [
  ⟨(some 53), none, .mv (.tmp 9)⟩,
  ⟨(some 54), none, .nilck (.tmp 53)⟩,
  ⟨(some 55), none, .fa 1 (.tmp 54)⟩,
  ⟨(some 56), none, .ld1 (.tmp 55)⟩,
  ⟨(some 57), none, .ar .add (.tmp 56) (.const (.int .i64 1))⟩,
  ⟨(some 58), none, .nilck (.tmp 53)⟩,
  ⟨(some 59), none, .fa 1 (.tmp 58)⟩,
  ⟨none, none, .st 1 (.tmp 59) (.tmp 57)⟩]
def f29r9 : List SOper := [
  ⟨(some 60), none, .mv (.tmp 6)⟩,
  ⟨(some 61), none, .nilck (.tmp 60)⟩,
  ⟨(some 62), none, .fa 16 (.tmp 61)⟩,
  ⟨(some 63), none, .ixa 16 1 (.tmp 62) (.const (.int .i64 0))⟩,
  ⟨(some 64), none, .ld1 (.tmp 63)⟩,
  ⟨(some 65), none, .mv (.tmp 6)⟩,
  ⟨(some 66), none, .mv (.tmp 8)⟩,
  ⟨(some 67), none, .nilck (.tmp 65)⟩,
  ⟨(some 68), none, .fa 16 (.tmp 67)⟩,
  ⟨(some 69), none, .ixa 16 1 (.tmp 68) (.tmp 66)⟩,
  ⟨(some 70), none, .ld1 (.tmp 69)⟩,
  ⟨(some 71), none, .ar .sub (.tmp 64) (.tmp 70)⟩,
  ⟨(some 10), none, .mv (.tmp 71)⟩]
def f29r10 : List SOper := [
  ⟨(some 72), none, .mv (.tmp 7)⟩,
  ⟨(some 73), none, .nilck (.tmp 72)⟩,
  ⟨(some 74), none, .fa 2 (.tmp 73)⟩,
  ⟨(some 75), none, .ld1 (.tmp 74)⟩,
  ⟨(some 76), none, .mv (.tmp 8)⟩,
  ⟨(some 77), none, .mv (.tmp 9)⟩,
  ⟨(some 78), none, .nilck (.tmp 77)⟩,
  ⟨(some 79), none, .fa 0 (.tmp 78)⟩,
  ⟨(some 80), none, .ld1 (.tmp 79)⟩,
  ⟨(some 81), none, .mv (.tmp 9)⟩,
  ⟨(some 82), none, .nilck (.tmp 81)⟩,
  ⟨(some 83), none, .fa 1 (.tmp 82)⟩,
  ⟨(some 84), none, .ld1 (.tmp 83)⟩,
  ⟨(some 85), none, .mv (.tmp 10)⟩,
  ⟨(some 86), none, .ar .sub (.tmp 84) (.tmp 85)⟩,
  ⟨(some 87), none, .build [(.pointer none), (.int .i64 0)] [(0, 1), (1, 1)] [(.tmp 80), (.tmp 86)]⟩,
  ⟨(some 88), none, .ixs 2 (.tmp 75) (.tmp 76)⟩,
  ⟨none, none, .st 2 (.tmp 88) (.tmp 87)⟩]
def f29r11 : List SOper := [
  ⟨(some 89), none, .mv (.tmp 9)⟩,
  ⟨(some 90), none, .mv (.tmp 7)⟩,
  ⟨(some 91), none, .mv (.tmp 10)⟩,
  ⟨(some 92), none, .ar .add (.tmp 91) (.const (.int .i64 1))⟩,
  ⟨(some 93), none, .build [(.pointer none), (.int .i64 0)] [(0, 1), (1, 1)] [(.tmp 90), (.tmp 92)]⟩,
  ⟨(some 94), none, .nilck (.tmp 89)⟩,
  ⟨none, none, .st 2 (.tmp 94) (.tmp 93)⟩]
def f29r12 : List SOper := [
  ⟨(some 95), none, .ar .add (.tmp 32) (.const (.int .i64 1))⟩,
  ⟨(some 32), none, .mv (.tmp 95)⟩]
def f29l13 : SCode := (.seq (.ops f29r4) (.seq (.cond (.tmp 33) .skip (.exit 0)) (.seq (.block 1 (.seq (.ops f29r5) (.seq (.ops f29r6) (.seq (.seq (.ops f29r7) (.cond (.tmp 52) (.seq (.ops f29r8) (.exit 1)) .skip)) (.seq (.ops f29r9) (.seq (.ops f29r10) (.ops f29r11))))))) (.ops f29r12))))
def f29r14 : List SOper := [
  ⟨(some 96), none, .mv (.tmp 0)⟩,
  ⟨(some 97), none, .nilck (.tmp 96)⟩,
  ⟨(some 98), none, .fa 1 (.tmp 97)⟩,
  ⟨(some 99), none, .ld1 (.tmp 98)⟩,
  ⟨(some 100), none, .fa 0 (.tmp 4)⟩,
  ⟨(some 101), none, .ld1 (.tmp 100)⟩,
  ⟨(some 102), none, .mv (.tmp 7)⟩,
  ⟨none, none, .mup .str (.tmp 99) (.tmp 101) (.tmp 102)⟩]
def f29 : SCode := (.seq (.ops f29r0) (.seq (.ops f29r1) (.seq (.ops f29r2) (.seq (.seq (.ops f29r3) (.block 0 (.loop f29l13))) (.ops f29r14)))))
theorem f29_calls {args : List Value} {h : Heap} {R : Ending → Heap → Prop} (ha : args.length ≤ 103) (hs : swp Tryd.prog f29 (retQ [] R) (argEnv 0 args) [] h) : CallsH Tryd.prog 29 args h R :=
  calls_of_swp mixed Tryd.func29 rfl (by kernel_rfl) (by kernel_rfl) (by kernel_rfl) ha hs

/-! 30: (*tabor/ranks.Ranks).none -/
def f30r0 : List SOper := [
  ⟨(some 2), none, .mv (.const (.bool false))⟩]
def f30r1 : List SOper := [
  ⟨(some 3), none, .mv (.tmp 0)⟩,
  ⟨(some 4), none, .eqn 0 false (.tmp 3)⟩,
  ⟨(some 5), none, .mv (.tmp 4)⟩,
  ⟨(some 6), (some (5, false)), .mv (.tmp 0)⟩,
  ⟨(some 7), (some (5, false)), .nilck (.tmp 6)⟩,
  ⟨(some 8), (some (5, false)), .fa 0 (.tmp 7)⟩,
  ⟨(some 9), (some (5, false)), .ld1 (.tmp 8)⟩,
  ⟨(some 10), (some (5, false)), .eqn 0 false (.tmp 9)⟩,
  ⟨(some 11), none, .pick (.tmp 5) (.const (.bool true)) (.tmp 10)⟩,
  ⟨(some 2), none, .mv (.tmp 11)⟩]
def f30 : SCode := (.seq (.ops f30r0) (.seq (.ops f30r1) .ret))
theorem f30_calls {args : List Value} {h : Heap} {R : Ending → Heap → Prop} (ha : args.length ≤ 12) (hs : swp Tryd.prog f30 (retQ [.t 2] R) (argEnv 0 args) [] h) : CallsH Tryd.prog 30 args h R :=
  calls_of_swp mixed Tryd.func30 rfl (by kernel_rfl) (by kernel_rfl) (by kernel_rfl) ha hs

/-! 31: (*tabor/ranks.Ranks).down -/
def f31r0 : List SOper := [
  ⟨(some 4), none, .mv (.const (.pointer none))⟩]
def f31r1 : List SOper := [
  ⟨(some 5), none, .new [(.pointer none), (.pointer none), (.pointer none), (.pointer none), (.pointer none), (.pointer none), (.pointer none), (.pointer none), (.pointer none), (.pointer none), (.pointer none), (.pointer none), (.pointer none), (.pointer none), (.pointer none), (.pointer none), (.int .i64 0), (.int .i64 0), (.int .i64 0), (.int .i64 0), (.int .i64 0), (.int .i64 0), (.int .i64 0), (.int .i64 0), (.int .i64 0), (.int .i64 0), (.int .i64 0), (.int .i64 0), (.int .i64 0), (.int .i64 0), (.int .i64 0), (.int .i64 0)]⟩]
def f31r2 : List SOper := [
  ⟨(some 10), none, .mv (.tmp 0)⟩,
  ⟨(some 11), none, .nilck (.tmp 10)⟩,
  ⟨(some 12), none, .fa 0 (.tmp 11)⟩,
  ⟨(some 13), none, .ld1 (.tmp 12)⟩,
  ⟨(some 6), none, .mv (.tmp 13)⟩,
  ⟨(some 7), none, .mv (.const (.int .i64 0))⟩]
def f31r3 : List SOper := [
  ⟨(some 8), none, .mv (.const (.int .i64 15))⟩]
def f31r4 : List SOper := [
  ⟨(some 14), none, .mv (.tmp 8)⟩,
  ⟨(some 15), none, .cmp .geq (.tmp 14) (.const (.int .i64 0))⟩]
def f31r5 : List SOper := [
  ⟨(some 18), none, .mv (.tmp 6)⟩,
  ⟨(some 19), none, .nilck (.tmp 18)⟩,
  ⟨(some 20), none, .fa 2 (.tmp 19)⟩,
  ⟨(some 21), none, .ld1 (.tmp 20)⟩,
  ⟨(some 22), none, .mv (.tmp 8)⟩,
  ⟨(some 23), none, .ixs 2 (.tmp 21) (.tmp 22)⟩,
  ⟨(some 24), none, .ldn 2 (.tmp 23)⟩,
  ⟨(some 9), none, .new [(.pointer none), (.int .i64 0)]⟩,
  ⟨none, none, .st 2 (.tmp 9) (.tmp 24)⟩]
def f31r6 : List SOper := [
  ⟨(some 25), none, .fa 0 (.tmp 9)⟩,
  ⟨(some 26), none, .ld1 (.tmp 25)⟩,
  ⟨(some 27), none, .eqn 0 false (.tmp 26)⟩,
  ⟨(some 28), none, .mv (.tmp 27)⟩,
  ⟨(some 29), (some (28, false)), .mv (.tmp 1)⟩,
  ⟨(some 30), (some (28, false)), .fa 0 (.tmp 9)⟩,
  ⟨(some 31), (some (28, false)), .ld1 (.tmp 30)⟩,
  ⟨(some 32), (some (28, false)), .nilck (.tmp 31)⟩,
  ⟨(some 33), (some (28, false)), .fa 0 (.tmp 32)⟩,
  ⟨(some 34), (some (28, false)), .ldn 2 (.tmp 33)⟩,
  ⟨(some 35), (some (28, false)), .mv (.tmp 7)⟩,
  ⟨(some 36), (some (28, false)), .fa 1 (.tmp 9)⟩,
  ⟨(some 37), (some (28, false)), .ld1 (.tmp 36)⟩,
  ⟨(some 38), (some (28, false)), .ar .add (.tmp 35) (.tmp 37)⟩,
  ⟨(some 39), (some (28, false)), .ar .sub (.tmp 38) (.const (.int .i64 1))⟩,
  ⟨(some 40), (some (28, false)), .callv (.tmp 29) [(.tmp 34), (.tmp 39)]⟩,
  ⟨(some 41), (some (28, false)), .un .not (.tmp 40)⟩,
  ⟨(some 42), none, .pick (.tmp 28) (.const (.bool true)) (.tmp 41)⟩]
def f31r7 : List SOper := [
  ⟨(some 43), none, .fa 0 (.tmp 9)⟩,
  ⟨(some 44), none, .ld1 (.tmp 43)⟩,
  ⟨(some 45), none, .mv (.tmp 7)⟩,
  ⟨(some 46), none, .fa 1 (.tmp 9)⟩,
  ⟨(some 47), none, .ld1 (.tmp 46)⟩,
  ⟨(some 48), none, .ar .add (.tmp 45) (.tmp 47)⟩,
  ⟨(some 6), none, .mv (.tmp 44)⟩,
  ⟨(some 7), none, .mv (.tmp 48)⟩]
def f31l8 : SCode := (.block 3 (.seq (.ops f31r5) (.seq (.seq (.ops f31r6) (.cond (.tmp 42) (.exit 2) .skip)) (.ops f31r7))))
def f31r9 : List SOper := [
  ⟨(some 49), none, .mv (.tmp 8)⟩,
  ⟨(some 50), none, .mv (.tmp 8)⟩,
  ⟨(some 51), none, .mv (.tmp 6)⟩,
  ⟨(some 52), none, .mv (.tmp 7)⟩,
  ⟨(some 53), none, .fa 0 (.tmp 5)⟩,
  ⟨(some 54), none, .ixa 16 1 (.tmp 53) (.tmp 49)⟩,
  ⟨none, none, .st 1 (.tmp 54) (.tmp 51)⟩,
  ⟨(some 55), none, .fa 16 (.tmp 5)⟩,
  ⟨(some 56), none, .ixa 16 1 (.tmp 55) (.tmp 50)⟩,
  ⟨none, none, .st 1 (.tmp 56) (.tmp 52)⟩]
def f31r10 : List SOper := [
  ⟨(some 16), none, .mv (.tmp 8)⟩,
  ⟨(some 17), none, .ar .sub (.tmp 16) (.const (.int .i64 1))⟩,
  ⟨(some 8), none, .mv (.tmp 17)⟩]
def f31l11 : SCode := (.seq (.seq (.ops f31r4) (.cond (.tmp 15) .skip (.exit 0))) (.seq (.block 1 (.seq (.block 2 (.loop f31l8)) (.ops f31r9))) (.ops f31r10)))
def f31r12 : List SOper := [
  ⟨(some 4), none, .mv (.tmp 5)⟩]
def f31 : SCode := (.seq (.ops f31r0) (.seq (.ops f31r1) (.seq (.ops f31r2) (.seq (.seq (.ops f31r3) (.block 0 (.loop f31l11))) (.seq (.ops f31r12) .ret)))))
theorem f31_calls {args : List Value} {h : Heap} {R : Ending → Heap → Prop} (ha : args.length ≤ 57) (hs : swp Tryd.prog f31 (retQ [.t 4] R) (argEnv 0 args) [] h) : CallsH Tryd.prog 31 args h R :=
  calls_of_swp mixed Tryd.func31 rfl (by kernel_rfl) (by kernel_rfl) (by kernel_rfl) ha hs

/-! 32: tabor/ranks.less -/
def f32r0 : List SOper := [
  ⟨(some 1), none, .box (.tmp 0)⟩,
  ⟨(some 2), none, .mv (.const .nilFunc)⟩]
def f32r1 : List SOper := [
  ⟨(some 3), none, .fn 42 [] [(.tmp 1)]⟩,
  ⟨(some 2), none, .mv (.tmp 3)⟩]
def f32 : SCode := (.seq (.ops f32r0) (.seq (.ops f32r1) .ret))
theorem f32_calls {args : List Value} {h : Heap} {R : Ending → Heap → Prop} (ha : args.length ≤ 4) (hs : swp Tryd.prog f32 (retQ [.t 2] R) (argEnv 0 args) [] h) : CallsH Tryd.prog 32 args h R :=
  calls_of_swp mixed Tryd.func32 rfl (by kernel_rfl) (by kernel_rfl) (by kernel_rfl) ha hs

/-! 33: (*tabor/ranks.Ranks).from -/
def f33r0 : List SOper := [
  ⟨(some 6), none, .mv (.const (.slice none 0 0))⟩]
def f33r1 : List SOper := [
  ⟨(some 11), none, .mv (.tmp 0)⟩,
  ⟨(some 12), none, .call 30 [(.tmp 11)]⟩]
def f33r2 : List SOper := [
  ⟨(some 6), none, .mv (.const (.slice none 0 0))⟩]
def f33r3 : List SOper := [
  ⟨(some 7), none, .mv (.const (.slice none 0 0))⟩]
def f33r4 : List SOper := [
  ⟨(some 13), none, .mv (.tmp 0)⟩,
  ⟨(some 14), none, .mv (.tmp 1)⟩,
  ⟨(some 15), none, .call 31 [(.tmp 13), (.tmp 14)]⟩,
  ⟨(some 8), none, .mv (.tmp 15)⟩]
def f33r5 : List SOper := [
  ⟨(some 16), none, .mv (.tmp 8)⟩,
  ⟨(some 17), none, .nilck (.tmp 16)⟩,
  ⟨(some 18), none, .fa 16 (.tmp 17)⟩,
  ⟨(some 19), none, .ixa 16 1 (.tmp 18) (.const (.int .i64 0))⟩,
  ⟨(some 20), none, .ld1 (.tmp 19)⟩,
  ⟨(some 9), none, .mv (.tmp 20)⟩]
def f33r6 : List SOper := [
  ⟨(some 21), none, .mv (.tmp 8)⟩,
  ⟨(some 22), none, .nilck (.tmp 21)⟩,
  ⟨(some 23), none, .fa 0 (.tmp 22)⟩,
  ⟨(some 24), none, .ixa 16 1 (.tmp 23) (.const (.int .i64 0))⟩,
  ⟨(some 25), none, .ld1 (.tmp 24)⟩,
  ⟨(some 26), none, .nilck (.tmp 25)⟩,
  ⟨(some 27), none, .fa 2 (.tmp 26)⟩,
  ⟨(some 28), none, .ld1 (.tmp 27)⟩,
  ⟨(some 29), none, .ixs 2 (.tmp 28) (.const (.int .i64 0))⟩,
  ⟨(some 30), none, .fa 0 (.tmp 29)⟩,
  ⟨(some 31), none, .ld1 (.tmp 30)⟩,
  ⟨(some 10), none, .mv (.tmp 31)⟩]
def f33r7 : List SOper := [
  ⟨(some 32), none, .mv (.tmp 10)⟩,
  ⟨(some 33), none, .eqn 0 true (.tmp 32)⟩,
  ⟨(some 34), none, .mv (.tmp 33)⟩,
  ⟨(some 35), (some (34, true)), .mv (.tmp 2)⟩,
  ⟨(some 36), (some (34, true)), .mv (.tmp 10)⟩,
  ⟨(some 37), (some (34, true)), .nilck (.tmp 36)⟩,
  ⟨(some 38), (some (34, true)), .fa 0 (.tmp 37)⟩,
  ⟨(some 39), (some (34, true)), .ldn 2 (.tmp 38)⟩,
  ⟨(some 40), (some (34, true)), .mv (.tmp 9)⟩,
  ⟨(some 41), (some (34, true)), .callv (.tmp 35) [(.tmp 39), (.tmp 40)]⟩,
  ⟨(some 42), none, .pick (.tmp 34) (.tmp 41) (.const (.bool false))⟩]
def f33r8 : List SOper := [
  ⟨(some 50), none, .mv (.tmp 7)⟩,
  ⟨(some 51), none, .mv (.tmp 10)⟩,
  ⟨(some 52), none, .nilck (.tmp 51)⟩,
  ⟨(some 53), none, .fa 0 (.tmp 52)⟩,
  ⟨(some 54), none, .ldn 2 (.tmp 53)⟩,
  ⟨(some 55), none, .bslice [(.string ⟨#[]⟩), (.int .i64 0)] 1 [(0, 2)] [(.tmp 54)]⟩,
  ⟨(some 56), none, .app 2 24 [(.string ⟨#[]⟩), (.int .i64 0)] (.tmp 50) (.tmp 55)⟩,
  ⟨(some 7), none, .mv (.tmp 56)⟩]
def f33r9 : List SOper := [
  ⟨(some 57), none, .mv (.tmp 9)⟩,
  ⟨(some 58), none, .ar .add (.tmp 57) (.const (.int .i64 1))⟩,
  ⟨(some 9), none, .mv (.tmp 58)⟩]
def f33r10 : List SOper := [
  ⟨(some 43), none, .mv (.tmp 10)⟩,
  ⟨(some 44), none, .nilck (.tmp 43)⟩,
  ⟨(some 45), none, .fa 2 (.tmp 44)⟩,
  ⟨(some 46), none, .ld1 (.tmp 45)⟩,
  ⟨(some 47), none, .ixs 2 (.tmp 46) (.const (.int .i64 0))⟩,
  ⟨(some 48), none, .fa 0 (.tmp 47)⟩,
  ⟨(some 49), none, .ld1 (.tmp 48)⟩,
  ⟨(some 10), none, .mv (.tmp 49)⟩]
def f33l11 : SCode := (.seq (.seq (.ops f33r7) (.cond (.tmp 42) .skip (.exit 0))) (.seq (.block 1 (.seq (.ops f33r8) (.ops f33r9))) (.ops f33r10)))
def f33r12 : List SOper := [
  ⟨(some 59), none, .mv (.tmp 7)⟩,
  ⟨(some 6), none, .mv (.tmp 59)⟩]
def f33 : SCode := (.seq (.ops f33r0) (.seq (.seq (.ops f33r1) (.cond (.tmp 12) (.seq (.ops f33r2) .ret) .skip)) (.seq (.ops f33r3) (.seq (.ops f33r4) (.seq (.ops f33r5) (.seq (.seq (.ops f33r6) (.block 0 (.loop f33l11))) (.seq (.ops f33r12) .ret)))))))
theorem f33_calls {args : List Value} {h : Heap} {R : Ending → Heap → Prop} (ha : args.length ≤ 60) (hs : swp Tryd.prog f33 (retQ [.t 6] R) (argEnv 0 args) [] h) : CallsH Tryd.prog 33 args h R :=
  calls_of_swp mixed Tryd.func33 rfl (by kernel_rfl) (by kernel_rfl) (by kernel_rfl) ha hs

/-! 34: (*tabor/ranks.Ranks).At$1 -/
def f34r0 : List SOper := [
  ⟨(some 3), none, .box (.tmp 0)⟩,
  ⟨(some 5), none, .mv (.const (.bool false))⟩]
def f34r1 : List SOper := [
  ⟨(some 6), none, .mv (.tmp 1)⟩,
  ⟨(some 7), none, .ld1 (.tmp 2)⟩,
  ⟨(some 8), none, .cmp .lss (.tmp 6) (.tmp 7)⟩,
  ⟨(some 5), none, .mv (.tmp 8)⟩]
def f34 : SCode := (.seq (.ops f34r0) (.seq (.ops f34r1) .ret))
theorem f34_calls {args : List Value} {h : Heap} {R : Ending → Heap → Prop} (ha : args.length ≤ 9) (hs : swp Tryd.prog f34 (retQ [.t 5] R) (argEnv 0 args) [] h) : CallsH Tryd.prog 34 args h R :=
  calls_of_swp mixed Tryd.func34 rfl (by kernel_rfl) (by kernel_rfl) (by kernel_rfl) ha hs

/-! 35: (*tabor/ranks.Ranks).At$2 -/
def f35r0 : List SOper := [
  ⟨(some 3), none, .box (.tmp 0)⟩,
  ⟨(some 5), none, .mv (.const (.bool false))⟩]
def f35r1 : List SOper := [
  ⟨(some 6), none, .mv (.tmp 1)⟩,
  ⟨(some 7), none, .ld1 (.tmp 2)⟩,
  ⟨(some 8), none, .cmp .lss (.tmp 6) (.tmp 7)⟩,
  ⟨(some 5), none, .mv (.tmp 8)⟩]
def f35 : SCode := (.seq (.ops f35r0) (.seq (.ops f35r1) .ret))
theorem f35_calls {args : List Value} {h : Heap} {R : Ending → Heap → Prop} (ha : args.length ≤ 9) (hs : swp Tryd.prog f35 (retQ [.t 5] R) (argEnv 0 args) [] h) : CallsH Tryd.prog 35 args h R :=
  calls_of_swp mixed Tryd.func35 rfl (by kernel_rfl) (by kernel_rfl) (by kernel_rfl) ha hs

/-! 36: (*tabor/ranks.Ranks).Between$1 -/
def f36r0 : List SOper := [
  ⟨(some 3), none, .box (.tmp 0)⟩,
  ⟨(some 5), none, .mv (.const (.bool false))⟩]
def f36r1 : List SOper := [
  ⟨(some 6), none, .fa 1 (.tmp 3)⟩,
  ⟨(some 7), none, .ld1 (.tmp 6)⟩,
  ⟨(some 8), none, .ld1 (.tmp 2)⟩,
  ⟨(some 9), none, .cmp .lss (.tmp 7) (.tmp 8)⟩,
  ⟨(some 5), none, .mv (.tmp 9)⟩]
def f36 : SCode := (.seq (.ops f36r0) (.seq (.ops f36r1) .ret))
theorem f36_calls {args : List Value} {h : Heap} {R : Ending → Heap → Prop} (ha : args.length ≤ 10) (hs : swp Tryd.prog f36 (retQ [.t 5] R) (argEnv 0 args) [] h) : CallsH Tryd.prog 36 args h R :=
  calls_of_swp mixed Tryd.func36 rfl (by kernel_rfl) (by kernel_rfl) (by kernel_rfl) ha hs

/-! 37: (*tabor/ranks.Ranks).Between$2 -/
def f37r0 : List SOper := [
  ⟨(some 3), none, .box (.tmp 0)⟩,
  ⟨(some 5), none, .mv (.const (.bool false))⟩]
def f37r1 : List SOper := [
  ⟨(some 6), none, .fa 1 (.tmp 3)⟩,
  ⟨(some 7), none, .ld1 (.tmp 6)⟩,
  ⟨(some 8), none, .ld1 (.tmp 2)⟩,
  ⟨(some 9), none, .cmp .leq (.tmp 7) (.tmp 8)⟩,
  ⟨(some 5), none, .mv (.tmp 9)⟩]
def f37 : SCode := (.seq (.ops f37r0) (.seq (.ops f37r1) .ret))
theorem f37_calls {args : List Value} {h : Heap} {R : Ending → Heap → Prop} (ha : args.length ≤ 10) (hs : swp Tryd.prog f37 (retQ [.t 5] R) (argEnv 0 args) [] h) : CallsH Tryd.prog 37 args h R :=
  calls_of_swp mixed Tryd.func37 rfl (by kernel_rfl) (by kernel_rfl) (by kernel_rfl) ha hs

/-! 38: (*tabor/ranks.Ranks).take -/
def f38r0 : List SOper := [
  ⟨(some 7), none, .mv (.tmp 0)⟩,
  ⟨(some 8), none, .mv (.tmp 1)⟩,
  ⟨(some 9), none, .nilck (.tmp 8)⟩,
  ⟨(some 10), none, .fa 0 (.tmp 9)⟩,
  ⟨(some 11), none, .ldn 2 (.tmp 10)⟩,
  ⟨(some 12), none, .call 32 [(.tmp 11)]⟩,
  ⟨(some 13), none, .call 31 [(.tmp 7), (.tmp 12)]⟩,
  ⟨(some 4), none, .mv (.tmp 13)⟩]
def f38r1 : List SOper := [
  ⟨(some 14), none, .mv (.const (.int .i64 0))⟩]
def f38r2 : List SOper := [
  ⟨(some 15), none, .cmp .lss (.tmp 14) (.const (.int .i64 16))⟩]
def f38r3 : List SOper := [
  ⟨(some 16), none, .mv (.tmp 14)⟩,
  ⟨(some 5), none, .mv (.tmp 16)⟩]
def f38r4 : List SOper := [
  ⟨(some 17), none, .mv (.tmp 4)⟩,
  ⟨(some 18), none, .mv (.tmp 5)⟩,
  ⟨(some 19), none, .nilck (.tmp 17)⟩,
  ⟨(some 20), none, .fa 0 (.tmp 19)⟩,
  ⟨(some 21), none, .ixa 16 1 (.tmp 20) (.tmp 18)⟩,
  ⟨(some 22), none, .ld1 (.tmp 21)⟩,
  ⟨(some 23), none, .nilck (.tmp 22)⟩,
  ⟨(some 24), none, .fa 2 (.tmp 23)⟩,
  ⟨(some 25), none, .ld1 (.tmp 24)⟩,
  ⟨(some 26), none, .mv (.tmp 5)⟩,
  ⟨(some 27), none, .ixs 2 (.tmp 25) (.tmp 26)⟩,
  ⟨(some 6), none, .mv (.tmp 27)⟩]
def f38r5 : List SOper := [
  ⟨(some 28), none, .mv (.tmp 6)⟩,
  ⟨(some 29), none, .nilck (.tmp 28)⟩,
  ⟨(some 30), none, .fa 0 (.tmp 29)⟩,
  ⟨(some 31), none, .ld1 (.tmp 30)⟩,
  ⟨(some 32), none, .mv (.tmp 1)⟩,
  ⟨(some 33), none, .eqp false (.tmp 31) (.tmp 32)⟩]
def f38r6 : List SOper := [
  ⟨(some 34), none, .mv (.tmp 6)⟩,
  ⟨(some 35), none, .mv (.tmp 1)⟩,
  ⟨(some 36), none, .nilck (.tmp 35)⟩,
  ⟨(some 37), none, .fa 2 (.tmp 36)⟩,
  ⟨(some 38), none, .ld1 (.tmp 37)⟩,
  ⟨(some 39), none, .mv (.tmp 5)⟩,
  ⟨(some 40), none, .ixs 2 (.tmp 38) (.tmp 39)⟩,
  ⟨(some 41), none, .fa 0 (.tmp 40)⟩,
  ⟨(some 42), none, .ld1 (.tmp 41)⟩,
  ⟨(some 43), none, .mv (.tmp 6)⟩,
  ⟨(some 44), none, .nilck (.tmp 43)⟩,
  ⟨(some 45), none, .fa 1 (.tmp 44)⟩,
  ⟨(some 46), none, .ld1 (.tmp 45)⟩,
  ⟨(some 47), none, .mv (.tmp 1)⟩,
  ⟨(some 48), none, .nilck (.tmp 47)⟩,
  ⟨(some 49), none, .fa 2 (.tmp 48)⟩,
  ⟨(some 50), none, .ld1 (.tmp 49)⟩,
  ⟨(some 51), none, .mv (.tmp 5)⟩,
  ⟨(some 52), none, .ixs 2 (.tmp 50) (.tmp 51)⟩,
  ⟨(some 53), none, .fa 1 (.tmp 52)⟩,
  ⟨(some 54), none, .ld1 (.tmp 53)⟩,
  ⟨(some 55), none, .ar .add (.tmp 46) (.tmp 54)⟩,
  ⟨(some 56), none, .ar .sub (.tmp 55) (.const (.int .i64 1))⟩,
  ⟨(some 57), none, .build [(.pointer none), (.int .i64 0)] [(0, 1), (1, 1)] [(.tmp 42), (.tmp 56)]⟩,
  ⟨(some 58), none, .nilck (.tmp 34)⟩,
  ⟨none, none, .st 2 (.tmp 58) (.tmp 57)⟩]
def f38r7 : List SOper := [
  ⟨(some 59), none, .mv (.tmp 6)⟩,
  ⟨(some 60), none, .nilck (.tmp 59)⟩,
  ⟨(some 61), none, .fa 1 (.tmp 60)⟩,
  ⟨(some 62), none, .ld1 (.tmp 61)⟩,
  ⟨(some 63), none, .ar .sub (.tmp 62) (.const (.int .i64 1))⟩,
  ⟨(some 64), none, .nilck (.tmp 59)⟩,
  ⟨(some 65), none, .fa 1 (.tmp 64)⟩,
  ⟨none, none, .st 1 (.tmp 65) (.tmp 63)⟩]
def f38r8 : List SOper := [
  ⟨(some 66), none, .ar .add (.tmp 14) (.const (.int .i64 1))⟩,
  ⟨(some 14), none, .mv (.tmp 66)⟩]
def f38l9 : SCode := (.seq (.ops f38r2) (.seq (.cond (.tmp 15) .skip (.exit 0)) (.seq (.block 1 (.seq (.ops f38r3) (.seq (.ops f38r4) (.seq (.seq (.ops f38r5) (.cond (.tmp 33) (.seq (.ops f38r6) (.exit 1)) .skip)) (.ops f38r7))))) (.ops f38r8))))
def f38r10 : List SOper := [
  ⟨(some 67), none, .mv (.tmp 0)⟩,
  ⟨(some 68), none, .nilck (.tmp 67)⟩,
  ⟨(some 69), none, .fa 1 (.tmp 68)⟩,
  ⟨(some 70), none, .ld1 (.tmp 69)⟩,
  ⟨(some 71), none, .mv (.tmp 1)⟩,
  ⟨(some 72), none, .nilck (.tmp 71)⟩,
  ⟨(some 73), none, .fa 0 (.tmp 72)⟩,
  ⟨(some 74), none, .fa 0 (.tmp 73)⟩,
  ⟨(some 75), none, .ld1 (.tmp 74)⟩,
  ⟨none, none, .mdel .str (.tmp 70) (.tmp 75)⟩]
def f38 : SCode := (.seq (.ops f38r0) (.seq (.seq (.ops f38r1) (.block 0 (.loop f38l9))) (.ops f38r10)))
theorem f38_calls {args : List Value} {h : Heap} {R : Ending → Heap → Prop} (ha : args.length ≤ 76) (hs : swp Tryd.prog f38 (retQ [] R) (argEnv 0 args) [] h) : CallsH Tryd.prog 38 args h R :=
  calls_of_swp mixed Tryd.func38 rfl (by kernel_rfl) (by kernel_rfl) (by kernel_rfl) ha hs

/-! 39: tabor/taborref05.Ahead -/
def f39r0 : List SOper := [
  ⟨(some 2), none, .box (.tmp 0)⟩,
  ⟨(some 3), none, .box (.tmp 1)⟩,
  ⟨(some 4), none, .mv (.const (.bool false))⟩]
def f39r1 : List SOper := [
  ⟨(some 5), none, .fa 1 (.tmp 2)⟩,
  ⟨(some 6), none, .ld1 (.tmp 5)⟩,
  ⟨(some 7), none, .fa 1 (.tmp 3)⟩,
  ⟨(some 8), none, .ld1 (.tmp 7)⟩,
  ⟨(some 9), none, .cmp .lss (.tmp 6) (.tmp 8)⟩,
  ⟨(some 10), none, .mv (.tmp 9)⟩,
  ⟨(some 11), (some (10, false)), .fa 1 (.tmp 2)⟩,
  ⟨(some 12), (some (10, false)), .ld1 (.tmp 11)⟩,
  ⟨(some 13), (some (10, false)), .fa 1 (.tmp 3)⟩,
  ⟨(some 14), (some (10, false)), .ld1 (.tmp 13)⟩,
  ⟨(some 15), (some (10, false)), .cmp .eql (.tmp 12) (.tmp 14)⟩,
  ⟨(some 16), (some (10, false)), .mv (.tmp 15)⟩,
  ⟨(some 17), (some (16, true)), .fa 0 (.tmp 2)⟩,
  ⟨(some 18), (some (16, true)), .ld1 (.tmp 17)⟩,
  ⟨(some 19), (some (16, true)), .fa 0 (.tmp 3)⟩,
  ⟨(some 20), (some (16, true)), .ld1 (.tmp 19)⟩,
  ⟨(some 21), (some (16, true)), .cmp .lss (.tmp 18) (.tmp 20)⟩,
  ⟨(some 22), (some (10, false)), .pick (.tmp 16) (.tmp 21) (.const (.bool false))⟩,
  ⟨(some 23), none, .pick (.tmp 10) (.const (.bool true)) (.tmp 22)⟩,
  ⟨(some 4), none, .mv (.tmp 23)⟩]
def f39 : SCode := (.seq (.ops f39r0) (.seq (.ops f39r1) .ret))
theorem f39_calls {args : List Value} {h : Heap} {R : Ending → Heap → Prop} (ha : args.length ≤ 24) (hs : swp Tryd.prog f39 (retQ [.t 4] R) (argEnv 0 args) [] h) : CallsH Tryd.prog 39 args h R :=
  calls_of_swp mixed Tryd.func39 rfl (by kernel_rfl) (by kernel_rfl) (by kernel_rfl) ha hs

/-! 40: (*tabor/ranks.Ranks).All -/
def f40r0 : List SOper := [
  ⟨(some 2), none, .mv (.const .nilFunc)⟩]
def f40r1 : List SOper := [
  ⟨(some 4), none, .mv (.tmp 0)⟩,
  ⟨(some 5), none, .call 16 [(.tmp 4), (.const (.int .i64 0)), (.const (.int .i64 9223372036854775807))]⟩,
  ⟨(some 3), none, .new [(.slice none 0 0)]⟩,
  ⟨none, none, .st 1 (.tmp 3) (.tmp 5)⟩]
def f40r2 : List SOper := [
  ⟨(some 6), none, .fn 43 [] [(.tmp 3)]⟩,
  ⟨(some 2), none, .mv (.tmp 6)⟩]
def f40 : SCode := (.seq (.ops f40r0) (.seq (.ops f40r1) (.seq (.ops f40r2) .ret)))
theorem f40_calls {args : List Value} {h : Heap} {R : Ending → Heap → Prop} (ha : args.length ≤ 7) (hs : swp Tryd.prog f40 (retQ [.t 2] R) (argEnv 0 args) [] h) : CallsH Tryd.prog 40 args h R :=
  calls_of_swp mixed Tryd.func40 rfl (by kernel_rfl) (by kernel_rfl) (by kernel_rfl) ha hs

/-! 41: math/bits.TrailingZeros -/
def f41r0 : List SOper := [
  ⟨(some 2), none, .mv (.const (.int .i64 0))⟩]
def f41r1 : List SOper := [
  ⟨(some 3), none, .mv (.tmp 0)⟩,
  ⟨(some 4), none, .cvt .u32 (.tmp 3)⟩,
  ⟨(some 5), none, .call 44 [(.tmp 4)]⟩,
  ⟨(some 2), none, .mv (.tmp 5)⟩]
def f41r2 : List SOper := [
  ⟨(some 6), none, .mv (.tmp 0)⟩,
  ⟨(some 7), none, .call 45 [(.tmp 6)]⟩,
  ⟨(some 2), none, .mv (.tmp 7)⟩]
def f41 : SCode := (.seq (.ops f41r0) (.seq (.cond (.const (.bool false)) (.seq (.ops f41r1) .ret) .skip) (.seq (.ops f41r2) .ret)))
theorem f41_calls {args : List Value} {h : Heap} {R : Ending → Heap → Prop} (ha : args.length ≤ 8) (hs : swp Tryd.prog f41 (retQ [.t 2] R) (argEnv 0 args) [] h) : CallsH Tryd.prog 41 args h R :=
  calls_of_swp mixed Tryd.func41 rfl (by kernel_rfl) (by kernel_rfl) (by kernel_rfl) ha hs

/-! 42: tabor/ranks.less$1 -/
def f42r0 : List SOper := [
  ⟨(some 3), none, .box (.tmp 0)⟩,
  ⟨(some 5), none, .mv (.const (.bool false))⟩]
def f42r1 : List SOper := [
  ⟨(some 6), none, .fa 1 (.tmp 3)⟩,
  ⟨(some 7), none, .ld1 (.tmp 6)⟩,
  ⟨(some 8), none, .fa 1 (.tmp 2)⟩,
  ⟨(some 9), none, .ld1 (.tmp 8)⟩,
  ⟨(some 10), none, .cmp .lss (.tmp 7) (.tmp 9)⟩,
  ⟨(some 11), none, .mv (.tmp 10)⟩,
  ⟨(some 12), (some (11, false)), .fa 1 (.tmp 3)⟩,
  ⟨(some 13), (some (11, false)), .ld1 (.tmp 12)⟩,
  ⟨(some 14), (some (11, false)), .fa 1 (.tmp 2)⟩,
  ⟨(some 15), (some (11, false)), .ld1 (.tmp 14)⟩,
  ⟨(some 16), (some (11, false)), .cmp .eql (.tmp 13) (.tmp 15)⟩,
  ⟨(some 17), (some (11, false)), .mv (.tmp 16)⟩,
  ⟨(some 18), (some (17, true)), .fa 0 (.tmp 3)⟩,
  ⟨(some 19), (some (17, true)), .ld1 (.tmp 18)⟩,
  ⟨(some 20), (some (17, true)), .fa 0 (.tmp 2)⟩,
  ⟨(some 21), (some (17, true)), .ld1 (.tmp 20)⟩,
  ⟨(some 22), (some (17, true)), .cmp .lss (.tmp 19) (.tmp 21)⟩,
  ⟨(some 23), (some (11, false)), .pick (.tmp 17) (.tmp 22) (.const (.bool false))⟩,
  ⟨(some 24), none, .pick (.tmp 11) (.const (.bool true)) (.tmp 23)⟩,
  ⟨(some 5), none, .mv (.tmp 24)⟩]
def f42 : SCode := (.seq (.ops f42r0) (.seq (.ops f42r1) .ret))
theorem f42_calls {args : List Value} {h : Heap} {R : Ending → Heap → Prop} (ha : args.length ≤ 25) (hs : swp Tryd.prog f42 (retQ [.t 5] R) (argEnv 0 args) [] h) : CallsH Tryd.prog 42 args h R :=
  calls_of_swp mixed Tryd.func42 rfl (by kernel_rfl) (by kernel_rfl) (by kernel_rfl) ha hs

/-! 43: (*tabor/ranks.Ranks).All$1 -/
def f43r0 : List SOper := [
  ⟨(some 5), none, .ld1 (.tmp 1)⟩,
  ⟨(some 6), none, .len (.tmp 5)⟩,
  ⟨(some 7), none, .mv (.const (.int .i64 0))⟩]
def f43r1 : List SOper := [
  ⟨(some 8), none, .cmp .lss (.tmp 7) (.tmp 6)⟩]
def f43r2 : List SOper := [
  ⟨(some 9), none, .mv (.tmp 7)⟩,
  ⟨(some 10), none, .ixs 2 (.tmp 5) (.tmp 7)⟩,
  ⟨(some 11), none, .ldn 2 (.tmp 10)⟩,
  ⟨(some 4), none, .new [(.string ⟨#[]⟩), (.int .i64 0)]⟩,
  ⟨(some 3), none, .mv (.tmp 9)⟩,
  ⟨none, none, .st 2 (.tmp 4) (.tmp 11)⟩]
def f43r3 : List SOper := [
  ⟨(some 12), none, .mv (.tmp 0)⟩,
  ⟨(some 13), none, .mv (.tmp 3)⟩,
  ⟨(some 14), none, .ldn 2 (.tmp 4)⟩,
  ⟨(some 15), none, .callv (.tmp 12) [(.tmp 13), (.tmp 14)]⟩,
  ⟨(some 16), none, .un .not (.tmp 15)⟩]
def f43r4 : List SOper := [
  ⟨(some 17), none, .ar .add (.tmp 7) (.const (.int .i64 1))⟩,
  ⟨(some 7), none, .mv (.tmp 17)⟩]
def f43l5 : SCode := (.seq (.ops f43r1) (.seq (.cond (.tmp 8) .skip (.exit 0)) (.seq (.block 1 (.seq (.ops f43r2) (.seq (.ops f43r3) (.cond (.tmp 16) .ret .skip)))) (.ops f43r4))))
def f43 : SCode := (.seq (.ops f43r0) (.block 0 (.loop f43l5)))
theorem f43_calls {args : List Value} {h : Heap} {R : Ending → Heap → Prop} (ha : args.length ≤ 18) (hs : swp Tryd.prog f43 (retQ [] R) (argEnv 0 args) [] h) : CallsH Tryd.prog 43 args h R :=
  calls_of_swp mixed Tryd.func43 rfl (by kernel_rfl) (by kernel_rfl) (by kernel_rfl) ha hs

/-! 44: math/bits.TrailingZeros32 -/
def f44r0 : List SOper := [
  ⟨(some 2), none, .mv (.const (.int .i64 0))⟩]
def f44r1 : List SOper := [
  ⟨(some 3), none, .mv (.tmp 0)⟩,
  ⟨(some 4), none, .cmp .eql (.tmp 3) (.const (.int .u32 0))⟩]
def f44r2 : List SOper := [
  ⟨(some 2), none, .mv (.const (.int .i64 32))⟩]
def f44r3 : List SOper := [
  ⟨(some 5), none, .mv (.tmp 0)⟩,
  ⟨(some 6), none, .mv (.tmp 0)⟩,
  ⟨(some 7), none, .un .neg (.tmp 6)⟩,
  ⟨(some 8), none, .bit .and (.tmp 5) (.tmp 7)⟩,
  ⟨(some 9), none, .ar .mul (.tmp 8) (.const (.int .u32 125613361))⟩,
  ⟨(some 10), none, .sh .u32 false 27 (.tmp 9)⟩,
  ⟨(some 11), none, .ixa 32 1 (.global 0) (.tmp 10)⟩,
  ⟨(some 12), none, .ld1 (.tmp 11)⟩,
  ⟨(some 13), none, .cvt .i64 (.tmp 12)⟩,
  ⟨(some 2), none, .mv (.tmp 13)⟩]
def f44 : SCode := (.seq (.ops f44r0) (.seq (.seq (.ops f44r1) (.cond (.tmp 4) (.seq (.ops f44r2) .ret) .skip)) (.seq (.ops f44r3) .ret)))
theorem f44_calls {args : List Value} {h : Heap} {R : Ending → Heap → Prop} (ha : args.length ≤ 14) (hs : swp Tryd.prog f44 (retQ [.t 2] R) (argEnv 0 args) [] h) : CallsH Tryd.prog 44 args h R :=
  calls_of_swp mixed Tryd.func44 rfl (by kernel_rfl) (by kernel_rfl) (by kernel_rfl) ha hs

/-! 45: math/bits.TrailingZeros64 -/
def f45r0 : List SOper := [
  ⟨(some 2), none, .mv (.const (.int .i64 0))⟩]
def f45r1 : List SOper := [
  ⟨(some 3), none, .mv (.tmp 0)⟩,
  ⟨(some 4), none, .cmp .eql (.tmp 3) (.const (.int .u64 0))⟩]
def f45r2 : List SOper := [
  ⟨(some 2), none, .mv (.const (.int .i64 64))⟩]
def f45r3 : List SOper := [
  ⟨(some 5), none, .mv (.tmp 0)⟩,
  ⟨(some 6), none, .mv (.tmp 0)⟩,
  ⟨(some 7), none, .un .neg (.tmp 6)⟩,
  ⟨(some 8), none, .bit .and (.tmp 5) (.tmp 7)⟩,
  ⟨(some 9), none, .ar .mul (.tmp 8) (.const (.int .u64 285870213051353865))⟩,
  ⟨(some 10), none, .sh .u64 false 58 (.tmp 9)⟩,
  ⟨(some 11), none, .ixa 64 1 (.global 1) (.tmp 10)⟩,
  ⟨(some 12), none, .ld1 (.tmp 11)⟩,
  ⟨(some 13), none, .cvt .i64 (.tmp 12)⟩,
  ⟨(some 2), none, .mv (.tmp 13)⟩]
def f45 : SCode := (.seq (.ops f45r0) (.seq (.seq (.ops f45r1) (.cond (.tmp 4) (.seq (.ops f45r2) .ret) .skip)) (.seq (.ops f45r3) .ret)))
theorem f45_calls {args : List Value} {h : Heap} {R : Ending → Heap → Prop} (ha : args.length ≤ 14) (hs : swp Tryd.prog f45 (retQ [.t 2] R) (argEnv 0 args) [] h) : CallsH Tryd.prog 45 args h R :=
  calls_of_swp mixed Tryd.func45 rfl (by kernel_rfl) (by kernel_rfl) (by kernel_rfl) ha hs

/-! 67: gosem.cut.vars -/
def f67r0 : List SOper := [
  ⟨(some 0), none, .build (List.replicate 32 (.int .u8 0)) [(0, 1), (1, 1), (2, 1), (3, 1), (4, 1), (5, 1), (6, 1), (7, 1), (8, 1), (9, 1), (10, 1), (11, 1), (12, 1), (13, 1), (14, 1), (15, 1), (16, 1), (17, 1), (18, 1), (19, 1), (20, 1), (21, 1), (22, 1), (23, 1), (24, 1), (25, 1), (26, 1), (27, 1), (28, 1), (29, 1), (30, 1), (31, 1)] [(.const (.int .u8 0)), (.const (.int .u8 1)), (.const (.int .u8 28)), (.const (.int .u8 2)), (.const (.int .u8 29)), (.const (.int .u8 14)), (.const (.int .u8 24)), (.const (.int .u8 3)), (.const (.int .u8 30)), (.const (.int .u8 22)), (.const (.int .u8 20)), (.const (.int .u8 15)), (.const (.int .u8 25)), (.const (.int .u8 17)), (.const (.int .u8 4)), (.const (.int .u8 8)), (.const (.int .u8 31)), (.const (.int .u8 27)), (.const (.int .u8 13)), (.const (.int .u8 23)), (.const (.int .u8 21)), (.const (.int .u8 19)), (.const (.int .u8 16)), (.const (.int .u8 7)), (.const (.int .u8 26)), (.const (.int .u8 12)), (.const (.int .u8 18)), (.const (.int .u8 6)), (.const (.int .u8 11)), (.const (.int .u8 5)), (.const (.int .u8 10)), (.const (.int .u8 9))]⟩,
  ⟨none, none, .st 32 (.global 0) (.tmp 0)⟩]
def f67r1 : List SOper := [
  ⟨(some 1), none, .build (List.replicate 64 (.int .u8 0)) [(0, 1), (1, 1), (2, 1), (3, 1), (4, 1), (5, 1), (6, 1), (7, 1), (8, 1), (9, 1), (10, 1), (11, 1), (12, 1), (13, 1), (14, 1), (15, 1), (16, 1), (17, 1), (18, 1), (19, 1), (20, 1), (21, 1), (22, 1), (23, 1), (24, 1), (25, 1), (26, 1), (27, 1), (28, 1), (29, 1), (30, 1), (31, 1), (32, 1), (33, 1), (34, 1), (35, 1), (36, 1), (37, 1), (38, 1), (39, 1), (40, 1), (41, 1), (42, 1), (43, 1), (44, 1), (45, 1), (46, 1), (47, 1), (48, 1), (49, 1), (50, 1), (51, 1), (52, 1), (53, 1), (54, 1), (55, 1), (56, 1), (57, 1), (58, 1), (59, 1), (60, 1), (61, 1), (62, 1), (63, 1)] [(.const (.int .u8 0)), (.const (.int .u8 1)), (.const (.int .u8 56)), (.const (.int .u8 2)), (.const (.int .u8 57)), (.const (.int .u8 49)), (.const (.int .u8 28)), (.const (.int .u8 3)), (.const (.int .u8 61)), (.const (.int .u8 58)), (.const (.int .u8 42)), (.const (.int .u8 50)), (.const (.int .u8 38)), (.const (.int .u8 29)), (.const (.int .u8 17)), (.const (.int .u8 4)), (.const (.int .u8 62)), (.const (.int .u8 47)), (.const (.int .u8 59)), (.const (.int .u8 36)), (.const (.int .u8 45)), (.const (.int .u8 43)), (.const (.int .u8 51)), (.const (.int .u8 22)), (.const (.int .u8 53)), (.const (.int .u8 39)), (.const (.int .u8 33)), (.const (.int .u8 30)), (.const (.int .u8 24)), (.const (.int .u8 18)), (.const (.int .u8 12)), (.const (.int .u8 5)), (.const (.int .u8 63)), (.const (.int .u8 55)), (.const (.int .u8 48)), (.const (.int .u8 27)), (.const (.int .u8 60)), (.const (.int .u8 41)), (.const (.int .u8 37)), (.const (.int .u8 16)), (.const (.int .u8 46)), (.const (.int .u8 35)), (.const (.int .u8 44)), (.const (.int .u8 21)), (.const (.int .u8 52)), (.const (.int .u8 32)), (.const (.int .u8 23)), (.const (.int .u8 11)), (.const (.int .u8 54)), (.const (.int .u8 26)), (.const (.int .u8 40)), (.const (.int .u8 15)), (.const (.int .u8 34)), (.const (.int .u8 20)), (.const (.int .u8 31)), (.const (.int .u8 10)), (.const (.int .u8 25)), (.const (.int .u8 14)), (.const (.int .u8 19)), (.const (.int .u8 9)), (.const (.int .u8 13)), (.const (.int .u8 8)), (.const (.int .u8 7)), (.const (.int .u8 6))]⟩,
  ⟨none, none, .st 64 (.global 1) (.tmp 1)⟩]
def f67 : SCode := (.seq (.ops f67r0) (.ops f67r1))
theorem f67_calls {args : List Value} {h : Heap} {R : Ending → Heap → Prop} (ha : args.length ≤ 2) (hs : swp Tryd.prog f67 (retQ [] R) (argEnv 0 args) [] h) : CallsH Tryd.prog 67 args h R :=
  calls_of_swp mixed Tryd.func67 rfl (by kernel_rfl) (by kernel_rfl) (by kernel_rfl) ha hs

end Go.Proofs.YtlghcmdaijfdlaaDoor.C
