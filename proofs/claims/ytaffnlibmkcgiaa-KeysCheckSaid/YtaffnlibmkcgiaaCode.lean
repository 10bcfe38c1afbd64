/-
  The simplified code of this seat's functions, and that it is what the program's code comes to. Printed by a program (wip/print.lean).
-/
import Derived.Test.YtaffnlibmkcgiaaSxO
import Derived.Test.YtaffnlibmkcgiaaProg
set_option maxRecDepth 100000
namespace Go.Proofs.Ytaffnlibmkcgiaa.C
open Go Go.Sx

theorem mixed : Try.prog.follows .mixedOrders = true := by kernel_rfl

/-! 0: main.main: not simplified -/

/-! 1: gosem.cut: not simplified -/

/-! 2: gosem.cut.init -/
def f2r0 : List SOper := [
  ⟨(some 0), none, .call 1 []⟩]
def f2 : SCode := (.ops f2r0)
theorem f2_calls {args : List Value} {h : Heap} {R : Ending → Heap → Prop} (ha : args.length ≤ 1) (hs : swp Try.prog f2 (retQ [] R) (argEnv 0 args) [] h) : CallsH Try.prog 2 args h R :=
  calls_of_swp mixed Try.func2 rfl (by kernel_rfl) (by kernel_rfl) (by kernel_rfl) ha hs

/-! 3: tabor/taborlaw07.KeysCheck -/
def f3r0 : List SOper := [
  ⟨(some 2), none, .box (.tmp 0)⟩,
  ⟨(some 3), none, .box (.tmp 1)⟩,
  ⟨(some 4), none, .mv (.const (.bool false))⟩]
def f3r1 : List SOper := [
  ⟨(some 5), none, .ldn 7 (.tmp 2)⟩,
  ⟨(some 6), none, .call 4 [(.tmp 5)]⟩,
  ⟨(some 7), none, .mv (.tmp 6)⟩,
  ⟨(some 8), (some (7, false)), .ldn 7 (.tmp 3)⟩,
  ⟨(some 9), (some (7, false)), .call 4 [(.tmp 8)]⟩,
  ⟨(some 10), none, .pick (.tmp 7) (.const (.bool true)) (.tmp 9)⟩]
def f3r2 : List SOper := [
  ⟨(some 11), none, .call 5 []⟩,
  ⟨(some 4), none, .mv (.tmp 11)⟩]
def f3r3 : List SOper := [
  ⟨(some 12), none, .ldn 7 (.tmp 2)⟩,
  ⟨(some 14), none, .ldn 7 (.tmp 2)⟩,
  ⟨(some 13), none, .callq 6 [(.tmp 12)]⟩,
  ⟨(some 15), none, .callq 7 [(.tmp 14)]⟩,
  ⟨(some 16), none, .cmpb false (.tmp 13) (.tmp 15)⟩,
  ⟨(some 17), none, .mv (.tmp 16)⟩,
  ⟨(some 18), (some (17, true)), .ldn 7 (.tmp 2)⟩,
  ⟨(some 19), (some (17, true)), .ldn 7 (.tmp 3)⟩,
  ⟨(some 21), (some (17, true)), .ldn 7 (.tmp 2)⟩,
  ⟨(some 22), (some (17, true)), .ldn 7 (.tmp 3)⟩,
  ⟨(some 20), (some (17, true)), .callq 8 [(.tmp 18), (.tmp 19)]⟩,
  ⟨(some 23), (some (17, true)), .callq 9 [(.tmp 21), (.tmp 22)]⟩,
  ⟨(some 24), (some (17, true)), .cmpb false (.tmp 20) (.tmp 23)⟩,
  ⟨(some 25), none, .pick (.tmp 17) (.tmp 24) (.const (.bool false))⟩,
  ⟨(some 26), none, .mv (.tmp 25)⟩,
  ⟨(some 27), (some (26, true)), .ldn 7 (.tmp 2)⟩,
  ⟨(some 28), (some (26, true)), .ldn 7 (.tmp 2)⟩,
  ⟨(some 29), (some (26, true)), .callq 8 [(.tmp 27), (.tmp 28)]⟩,
  ⟨(some 30), none, .pick (.tmp 26) (.tmp 29) (.const (.bool false))⟩,
  ⟨(some 31), none, .mv (.tmp 30)⟩,
  ⟨(some 32), (some (31, true)), .callq 5 []⟩,
  ⟨(some 33), none, .pick (.tmp 31) (.tmp 32) (.const (.bool false))⟩,
  ⟨(some 4), none, .mv (.tmp 33)⟩]
def f3 : SCode := (.seq (.ops f3r0) (.seq (.seq (.ops f3r1) (.cond (.tmp 10) (.seq (.ops f3r2) .ret) .skip)) (.seq (.ops f3r3) .ret)))
theorem f3_calls {args : List Value} {h : Heap} {R : Ending → Heap → Prop} (ha : args.length ≤ 34) (hs : swp Try.prog f3 (retQ [.t 4] R) (argEnv 0 args) [] h) : CallsH Try.prog 3 args h R :=
  calls_of_swp mixed Try.func3 rfl (by kernel_rfl) (by kernel_rfl) (by kernel_rfl) ha hs

/-! 4: tabor/taborlaw07.large -/
def f4r0 : List SOper := [
  ⟨(some 1), none, .box (.tmp 0)⟩,
  ⟨(some 2), none, .mv (.const (.bool false))⟩]
def f4r1 : List SOper := [
  ⟨(some 7), none, .fa 1 (.tmp 1)⟩,
  ⟨(some 8), none, .ld1 (.tmp 7)⟩,
  ⟨(some 9), none, .lens (.tmp 8)⟩,
  ⟨(some 3), none, .mv (.tmp 9)⟩]
def f4r2 : List SOper := [
  ⟨(some 10), none, .fa 2 (.tmp 1)⟩,
  ⟨(some 11), none, .ld1 (.tmp 10)⟩,
  ⟨(some 12), none, .len (.tmp 11)⟩,
  ⟨(some 13), none, .cmp .gtr (.tmp 12) (.const (.int .i64 40))⟩,
  ⟨(some 14), none, .mv (.tmp 13)⟩,
  ⟨(some 15), (some (14, false)), .fa 3 (.tmp 1)⟩,
  ⟨(some 16), (some (14, false)), .ld1 (.tmp 15)⟩,
  ⟨(some 17), (some (14, false)), .len (.tmp 16)⟩,
  ⟨(some 18), (some (14, false)), .cmp .gtr (.tmp 17) (.const (.int .i64 40))⟩,
  ⟨(some 19), none, .pick (.tmp 14) (.const (.bool true)) (.tmp 18)⟩,
  ⟨(some 20), none, .mv (.tmp 19)⟩,
  ⟨(some 21), (some (20, false)), .fa 4 (.tmp 1)⟩,
  ⟨(some 22), (some (20, false)), .ld1 (.tmp 21)⟩,
  ⟨(some 23), (some (20, false)), .len (.tmp 22)⟩,
  ⟨(some 24), (some (20, false)), .cmp .gtr (.tmp 23) (.const (.int .i64 40))⟩,
  ⟨(some 25), none, .pick (.tmp 20) (.const (.bool true)) (.tmp 24)⟩,
  ⟨(some 26), none, .mv (.tmp 25)⟩,
  ⟨(some 27), (some (26, false)), .mv (.tmp 3)⟩,
  ⟨(some 28), (some (26, false)), .cmp .gtr (.tmp 27) (.const (.int .i64 2000))⟩,
  ⟨(some 29), none, .pick (.tmp 26) (.const (.bool true)) (.tmp 28)⟩]
def f4r3 : List SOper := [
  ⟨(some 2), none, .mv (.const (.bool true))⟩]
def f4r4 : List SOper := [
  ⟨(some 4), none, .mv (.const (.int .i64 0))⟩]
def f4r5 : List SOper := [
  ⟨(some 30), none, .mv (.tmp 4)⟩,
  ⟨(some 31), none, .fa 2 (.tmp 1)⟩,
  ⟨(some 32), none, .ld1 (.tmp 31)⟩,
  ⟨(some 33), none, .len (.tmp 32)⟩,
  ⟨(some 34), none, .cmp .lss (.tmp 30) (.tmp 33)⟩]
def f4r6 : List SOper := [
  ⟨(some 37), none, .mv (.tmp 3)⟩,
  ⟨(some 38), none, .fa 2 (.tmp 1)⟩,
  ⟨(some 39), none, .ld1 (.tmp 38)⟩,
  ⟨(some 40), none, .mv (.tmp 4)⟩,
  ⟨(some 41), none, .ixs 2 (.tmp 39) (.tmp 40)⟩,
  ⟨(some 42), none, .fa 0 (.tmp 41)⟩,
  ⟨(some 43), none, .ld1 (.tmp 42)⟩,
  ⟨(some 44), none, .lens (.tmp 43)⟩,
  ⟨(some 45), none, .ar .add (.tmp 37) (.tmp 44)⟩,
  ⟨(some 46), none, .fa 2 (.tmp 1)⟩,
  ⟨(some 47), none, .ld1 (.tmp 46)⟩,
  ⟨(some 48), none, .mv (.tmp 4)⟩,
  ⟨(some 49), none, .ixs 2 (.tmp 47) (.tmp 48)⟩,
  ⟨(some 50), none, .fa 1 (.tmp 49)⟩,
  ⟨(some 51), none, .ld1 (.tmp 50)⟩,
  ⟨(some 52), none, .lens (.tmp 51)⟩,
  ⟨(some 53), none, .ar .add (.tmp 45) (.tmp 52)⟩,
  ⟨(some 3), none, .mv (.tmp 53)⟩]
def f4r7 : List SOper := [
  ⟨(some 54), none, .mv (.tmp 3)⟩,
  ⟨(some 55), none, .cmp .gtr (.tmp 54) (.const (.int .i64 2000))⟩]
def f4r8 : List SOper := [
  ⟨(some 2), none, .mv (.const (.bool true))⟩]
def f4r9 : List SOper := [
  ⟨(some 35), none, .mv (.tmp 4)⟩,
  ⟨(some 36), none, .ar .add (.tmp 35) (.const (.int .i64 1))⟩,
  ⟨(some 4), none, .mv (.tmp 36)⟩]
def f4l10 : SCode := (.seq (.seq (.ops f4r5) (.cond (.tmp 34) .skip (.exit 0))) (.seq (.block 1 (.seq (.ops f4r6) (.seq (.ops f4r7) (.cond (.tmp 55) (.seq (.ops f4r8) .ret) .skip)))) (.ops f4r9)))
def f4r11 : List SOper := [
  ⟨(some 5), none, .mv (.const (.int .i64 0))⟩]
def f4r12 : List SOper := [
  ⟨(some 56), none, .mv (.tmp 5)⟩,
  ⟨(some 57), none, .fa 3 (.tmp 1)⟩,
  ⟨(some 58), none, .ld1 (.tmp 57)⟩,
  ⟨(some 59), none, .len (.tmp 58)⟩,
  ⟨(some 60), none, .cmp .lss (.tmp 56) (.tmp 59)⟩]
def f4r13 : List SOper := [
  ⟨(some 63), none, .mv (.tmp 3)⟩,
  ⟨(some 64), none, .fa 3 (.tmp 1)⟩,
  ⟨(some 65), none, .ld1 (.tmp 64)⟩,
  ⟨(some 66), none, .mv (.tmp 5)⟩,
  ⟨(some 67), none, .ixs 1 (.tmp 65) (.tmp 66)⟩,
  ⟨(some 68), none, .ld1 (.tmp 67)⟩,
  ⟨(some 69), none, .lens (.tmp 68)⟩,
  ⟨(some 70), none, .ar .add (.tmp 63) (.tmp 69)⟩,
  ⟨(some 3), none, .mv (.tmp 70)⟩]
def f4r14 : List SOper := [
  ⟨(some 71), none, .mv (.tmp 3)⟩,
  ⟨(some 72), none, .cmp .gtr (.tmp 71) (.const (.int .i64 2000))⟩]
def f4r15 : List SOper := [
  ⟨(some 2), none, .mv (.const (.bool true))⟩]
def f4r16 : List SOper := [
  ⟨(some 61), none, .mv (.tmp 5)⟩,
  ⟨(some 62), none, .ar .add (.tmp 61) (.const (.int .i64 1))⟩,
  ⟨(some 5), none, .mv (.tmp 62)⟩]
def f4l17 : SCode := (.seq (.seq (.ops f4r12) (.cond (.tmp 60) .skip (.exit 2))) (.seq (.block 3 (.seq (.ops f4r13) (.seq (.ops f4r14) (.cond (.tmp 72) (.seq (.ops f4r15) .ret) .skip)))) (.ops f4r16)))
def f4r18 : List SOper := [
  ⟨(some 6), none, .mv (.const (.int .i64 0))⟩]
def f4r19 : List SOper := [
  ⟨(some 73), none, .mv (.tmp 6)⟩,
  ⟨(some 74), none, .fa 4 (.tmp 1)⟩,
  ⟨(some 75), none, .ld1 (.tmp 74)⟩,
  ⟨(some 76), none, .len (.tmp 75)⟩,
  ⟨(some 77), none, .cmp .lss (.tmp 73) (.tmp 76)⟩]
def f4r20 : List SOper := [
  ⟨(some 80), none, .mv (.tmp 3)⟩,
  ⟨(some 81), none, .fa 4 (.tmp 1)⟩,
  ⟨(some 82), none, .ld1 (.tmp 81)⟩,
  ⟨(some 83), none, .mv (.tmp 6)⟩,
  ⟨(some 84), none, .ixs 2 (.tmp 82) (.tmp 83)⟩,
  ⟨(some 85), none, .fa 0 (.tmp 84)⟩,
  ⟨(some 86), none, .ld1 (.tmp 85)⟩,
  ⟨(some 87), none, .lens (.tmp 86)⟩,
  ⟨(some 88), none, .ar .add (.tmp 80) (.tmp 87)⟩,
  ⟨(some 3), none, .mv (.tmp 88)⟩]
def f4r21 : List SOper := [
  ⟨(some 89), none, .mv (.tmp 3)⟩,
  ⟨(some 90), none, .cmp .gtr (.tmp 89) (.const (.int .i64 2000))⟩]
def f4r22 : List SOper := [
  ⟨(some 2), none, .mv (.const (.bool true))⟩]
def f4r23 : List SOper := [
  ⟨(some 78), none, .mv (.tmp 6)⟩,
  ⟨(some 79), none, .ar .add (.tmp 78) (.const (.int .i64 1))⟩,
  ⟨(some 6), none, .mv (.tmp 79)⟩]
def f4l24 : SCode := (.seq (.seq (.ops f4r19) (.cond (.tmp 77) .skip (.exit 4))) (.seq (.block 5 (.seq (.ops f4r20) (.seq (.ops f4r21) (.cond (.tmp 90) (.seq (.ops f4r22) .ret) .skip)))) (.ops f4r23)))
def f4r25 : List SOper := [
  ⟨(some 2), none, .mv (.const (.bool false))⟩]
def f4 : SCode := (.seq (.ops f4r0) (.seq (.ops f4r1) (.seq (.seq (.ops f4r2) (.cond (.tmp 29) (.seq (.ops f4r3) .ret) .skip)) (.seq (.seq (.ops f4r4) (.block 0 (.loop f4l10))) (.seq (.seq (.ops f4r11) (.block 2 (.loop f4l17))) (.seq (.seq (.ops f4r18) (.block 4 (.loop f4l24))) (.seq (.ops f4r25) .ret)))))))
theorem f4_calls {args : List Value} {h : Heap} {R : Ending → Heap → Prop} (ha : args.length ≤ 91) (hs : swp Try.prog f4 (retQ [.t 2] R) (argEnv 0 args) [] h) : CallsH Try.prog 4 args h R :=
  calls_of_swp mixed Try.func4 rfl (by kernel_rfl) (by kernel_rfl) (by kernel_rfl) ha hs

/-! 5: tabor/taborlaw07.known -/
def f5r0 : List SOper := [
  ⟨(some 0), none, .mv (.const (.bool false))⟩]
def f5r1 : List SOper := [
  ⟨(some 6), none, .call 10 []⟩,
  ⟨(some 1), none, .mv (.tmp 6)⟩]
def f5r2 : List SOper := [
  ⟨(some 8), none, .mv (.tmp 1)⟩,
  ⟨(some 9), none, .build [(.int .i64 0), (.string ⟨#[]⟩), (.string ⟨#[]⟩), (.string ⟨#[]⟩), (.int .i64 0)] [(0, 1), (1, 1), (3, 1)] [(.const (.int .i64 2)), (.const (.string ⟨#[97]⟩)), (.const (.string ⟨#[120]⟩))]⟩,
  ⟨(some 10), none, .bslice [(.int .i64 0), (.string ⟨#[]⟩), (.string ⟨#[]⟩), (.string ⟨#[]⟩), (.int .i64 0)] 1 [(0, 5)] [(.tmp 9)]⟩,
  ⟨(some 11), none, .call 11 [(.tmp 8), (.tmp 10)]⟩,
  ⟨(some 7), none, .mv (.tmp 11)⟩,
  ⟨(some 12), none, .ext (.tmp 7) 0⟩,
  ⟨(some 13), none, .ext (.tmp 7) 1⟩,
  ⟨(some 2), none, .mv (.tmp 12)⟩,
  ⟨(some 3), none, .mv (.tmp 13)⟩]
def f5r3 : List SOper := [
  ⟨(some 15), none, .mv (.tmp 1)⟩,
  ⟨(some 16), none, .call 12 [(.tmp 15), (.const (.string ⟨#[97]⟩)), (.const (.int .i64 5))]⟩,
  ⟨(some 14), none, .mv (.tmp 16)⟩,
  ⟨(some 17), none, .ext (.tmp 14) 0⟩,
  ⟨(some 18), none, .ext (.tmp 14) 1⟩,
  ⟨(some 4), none, .new [(.int .i64 0), (.string ⟨#[]⟩), (.slice none 0 0), (.slice none 0 0), (.slice none 0 0), (.bool false), (.int .i64 0)]⟩,
  ⟨none, none, .st 7 (.tmp 4) (.tmp 17)⟩,
  ⟨(some 5), none, .mv (.tmp 18)⟩]
def f5r4 : List SOper := [
  ⟨(some 19), none, .mv (.tmp 2)⟩,
  ⟨(some 20), none, .cmp .eql (.tmp 19) (.const (.int .i64 1))⟩,
  ⟨(some 21), none, .mv (.tmp 20)⟩,
  ⟨(some 22), (some (21, true)), .mv (.tmp 3)⟩,
  ⟨(some 23), (some (21, true)), .cmp .eql (.tmp 22) (.const (.int .i64 0))⟩,
  ⟨(some 24), none, .pick (.tmp 21) (.tmp 23) (.const (.bool false))⟩,
  ⟨(some 25), none, .mv (.tmp 24)⟩,
  ⟨(some 26), (some (25, true)), .mv (.tmp 5)⟩,
  ⟨(some 27), none, .pick (.tmp 25) (.tmp 26) (.const (.bool false))⟩,
  ⟨(some 28), none, .mv (.tmp 27)⟩,
  ⟨(some 29), (some (28, true)), .fa 0 (.tmp 4)⟩,
  ⟨(some 30), (some (28, true)), .ld1 (.tmp 29)⟩,
  ⟨(some 31), (some (28, true)), .cmp .eql (.tmp 30) (.const (.int .i64 1))⟩,
  ⟨(some 32), none, .pick (.tmp 28) (.tmp 31) (.const (.bool false))⟩,
  ⟨(some 33), none, .mv (.tmp 32)⟩,
  ⟨(some 34), (some (33, true)), .fa 1 (.tmp 4)⟩,
  ⟨(some 35), (some (33, true)), .ld1 (.tmp 34)⟩,
  ⟨(some 36), (some (33, true)), .cmp .eql (.tmp 35) (.const (.string ⟨#[120]⟩))⟩,
  ⟨(some 37), none, .pick (.tmp 33) (.tmp 36) (.const (.bool false))⟩,
  ⟨(some 0), none, .mv (.tmp 37)⟩]
def f5 : SCode := (.seq (.ops f5r0) (.seq (.ops f5r1) (.seq (.ops f5r2) (.seq (.ops f5r3) (.seq (.ops f5r4) .ret)))))
theorem f5_calls {args : List Value} {h : Heap} {R : Ending → Heap → Prop} (ha : args.length ≤ 38) (hs : swp Try.prog f5 (retQ [.t 0] R) (argEnv 0 args) [] h) : CallsH Try.prog 5 args h R :=
  calls_of_swp mixed Try.func5 rfl (by kernel_rfl) (by kernel_rfl) (by kernel_rfl) ha hs

/-! 6: tabor/keys.Check -/
def f6r0 : List SOper := [
  ⟨(some 1), none, .box (.tmp 0)⟩,
  ⟨(some 2), none, .mv (.const (.bool false))⟩]
def f6r1 : List SOper := [
  ⟨(some 6), none, .fa 5 (.tmp 1)⟩,
  ⟨(some 7), none, .ld1 (.tmp 6)⟩,
  ⟨(some 8), none, .un .not (.tmp 7)⟩,
  ⟨(some 9), none, .mv (.tmp 8)⟩,
  ⟨(some 10), (some (9, true)), .fa 6 (.tmp 1)⟩,
  ⟨(some 11), (some (9, true)), .ld1 (.tmp 10)⟩,
  ⟨(some 12), (some (9, true)), .cmp .neq (.tmp 11) (.const (.int .i64 0))⟩,
  ⟨(some 13), none, .pick (.tmp 9) (.tmp 12) (.const (.bool false))⟩,
  ⟨(some 14), none, .mv (.tmp 13)⟩,
  ⟨(some 15), (some (14, false)), .ldn 7 (.tmp 1)⟩,
  ⟨(some 16), (some (14, false)), .call 13 [(.tmp 15)]⟩,
  ⟨(some 17), (some (14, false)), .cmp .gtr (.tmp 16) (.const (.int .i64 65536))⟩,
  ⟨(some 18), none, .pick (.tmp 14) (.const (.bool true)) (.tmp 17)⟩,
  ⟨(some 19), none, .mv (.tmp 18)⟩,
  ⟨(some 20), (some (19, false)), .fa 1 (.tmp 1)⟩,
  ⟨(some 21), (some (19, false)), .ld1 (.tmp 20)⟩,
  ⟨(some 22), (some (19, false)), .bslice [(.string ⟨#[]⟩)] 1 [(0, 1)] [(.tmp 21)]⟩,
  ⟨(some 23), (some (19, false)), .call 14 [(.tmp 22)]⟩,
  ⟨(some 24), (some (19, false)), .un .not (.tmp 23)⟩,
  ⟨(some 25), none, .pick (.tmp 19) (.const (.bool true)) (.tmp 24)⟩,
  ⟨(some 26), none, .mv (.tmp 25)⟩,
  ⟨(some 27), (some (26, false)), .fa 3 (.tmp 1)⟩,
  ⟨(some 28), (some (26, false)), .ld1 (.tmp 27)⟩,
  ⟨(some 29), (some (26, false)), .call 14 [(.tmp 28)]⟩,
  ⟨(some 30), (some (26, false)), .un .not (.tmp 29)⟩,
  ⟨(some 31), none, .pick (.tmp 26) (.const (.bool true)) (.tmp 30)⟩,
  ⟨(some 32), none, .mv (.tmp 31)⟩,
  ⟨(some 33), (some (32, false)), .ldn 7 (.tmp 1)⟩,
  ⟨(some 34), (some (32, false)), .call 15 [(.tmp 33)]⟩,
  ⟨(some 35), (some (32, false)), .call 14 [(.tmp 34)]⟩,
  ⟨(some 36), (some (32, false)), .un .not (.tmp 35)⟩,
  ⟨(some 37), none, .pick (.tmp 32) (.const (.bool true)) (.tmp 36)⟩]
def f6r2 : List SOper := [
  ⟨(some 2), none, .mv (.const (.bool false))⟩]
def f6r3 : List SOper := [
  ⟨(some 38), none, .fa 2 (.tmp 1)⟩,
  ⟨(some 39), none, .ld1 (.tmp 38)⟩,
  ⟨(some 40), none, .len (.tmp 39)⟩,
  ⟨(some 41), none, .fa 3 (.tmp 1)⟩,
  ⟨(some 42), none, .ld1 (.tmp 41)⟩,
  ⟨(some 43), none, .len (.tmp 42)⟩,
  ⟨(some 44), none, .fa 4 (.tmp 1)⟩,
  ⟨(some 45), none, .ld1 (.tmp 44)⟩,
  ⟨(some 46), none, .len (.tmp 45)⟩,
  ⟨(some 3), none, .mv (.tmp 40)⟩,
  ⟨(some 4), none, .mv (.tmp 43)⟩,
  ⟨(some 5), none, .mv (.tmp 46)⟩]
def f6r4 : List SOper := [
  ⟨(some 47), none, .fa 0 (.tmp 1)⟩,
  ⟨(some 48), none, .ld1 (.tmp 47)⟩]
def f6r5 : List SOper := [
  ⟨(some 50), none, .cmp .eql (.tmp 48) (.const (.int .i64 1))⟩,
  ⟨(some 49), none, .mv (.tmp 50)⟩]
def f6r6 : List SOper := [
  ⟨(some 51), none, .mv (.tmp 3)⟩,
  ⟨(some 52), none, .mv (.tmp 4)⟩,
  ⟨(some 53), none, .ar .add (.tmp 51) (.tmp 52)⟩,
  ⟨(some 54), none, .mv (.tmp 5)⟩,
  ⟨(some 55), none, .ar .add (.tmp 53) (.tmp 54)⟩,
  ⟨(some 56), none, .cmp .eql (.tmp 55) (.const (.int .i64 0))⟩,
  ⟨(some 2), none, .mv (.tmp 56)⟩]
def f6r7 : List SOper := [
  ⟨(some 58), none, .cmp .eql (.tmp 48) (.const (.int .i64 2))⟩,
  ⟨(some 57), none, .mv (.tmp 58)⟩]
def f6r8 : List SOper := [
  ⟨(some 59), none, .mv (.tmp 3)⟩,
  ⟨(some 60), none, .cmp .gtr (.tmp 59) (.const (.int .i64 0))⟩,
  ⟨(some 61), none, .mv (.tmp 60)⟩,
  ⟨(some 62), (some (61, true)), .mv (.tmp 4)⟩,
  ⟨(some 63), (some (61, true)), .mv (.tmp 5)⟩,
  ⟨(some 64), (some (61, true)), .ar .add (.tmp 62) (.tmp 63)⟩,
  ⟨(some 65), (some (61, true)), .cmp .eql (.tmp 64) (.const (.int .i64 0))⟩,
  ⟨(some 66), none, .pick (.tmp 61) (.tmp 65) (.const (.bool false))⟩,
  ⟨(some 67), none, .mv (.tmp 66)⟩,
  ⟨(some 68), (some (67, true)), .fa 1 (.tmp 1)⟩,
  ⟨(some 69), (some (67, true)), .ld1 (.tmp 68)⟩,
  ⟨(some 70), (some (67, true)), .cmp .eql (.tmp 69) (.const (.string ⟨#[]⟩))⟩,
  ⟨(some 71), none, .pick (.tmp 67) (.tmp 70) (.const (.bool false))⟩,
  ⟨(some 72), none, .mv (.tmp 71)⟩,
  ⟨(some 73), (some (72, true)), .fa 2 (.tmp 1)⟩,
  ⟨(some 74), (some (72, true)), .ld1 (.tmp 73)⟩,
  ⟨(some 75), (some (72, true)), .call 16 [(.tmp 74), (.func 17)]⟩,
  ⟨(some 76), none, .pick (.tmp 72) (.tmp 75) (.const (.bool false))⟩,
  ⟨(some 2), none, .mv (.tmp 76)⟩]
def f6r9 : List SOper := [
  ⟨(some 78), none, .cmp .eql (.tmp 48) (.const (.int .i64 3))⟩,
  ⟨(some 77), none, .mv (.tmp 78)⟩]
def f6r10 : List SOper := [
  ⟨(some 79), none, .mv (.tmp 4)⟩,
  ⟨(some 80), none, .cmp .gtr (.tmp 79) (.const (.int .i64 0))⟩,
  ⟨(some 81), none, .mv (.tmp 80)⟩,
  ⟨(some 82), (some (81, true)), .mv (.tmp 3)⟩,
  ⟨(some 83), (some (81, true)), .mv (.tmp 5)⟩,
  ⟨(some 84), (some (81, true)), .ar .add (.tmp 82) (.tmp 83)⟩,
  ⟨(some 85), (some (81, true)), .cmp .eql (.tmp 84) (.const (.int .i64 0))⟩,
  ⟨(some 86), none, .pick (.tmp 81) (.tmp 85) (.const (.bool false))⟩,
  ⟨(some 87), none, .mv (.tmp 86)⟩,
  ⟨(some 88), (some (87, true)), .fa 1 (.tmp 1)⟩,
  ⟨(some 89), (some (87, true)), .ld1 (.tmp 88)⟩,
  ⟨(some 90), (some (87, true)), .cmp .eql (.tmp 89) (.const (.string ⟨#[]⟩))⟩,
  ⟨(some 91), none, .pick (.tmp 87) (.tmp 90) (.const (.bool false))⟩,
  ⟨(some 2), none, .mv (.tmp 91)⟩]
def f6r11 : List SOper := [
  ⟨(some 93), none, .cmp .eql (.tmp 48) (.const (.int .i64 4))⟩,
  ⟨(some 92), none, .mv (.tmp 93)⟩]
def f6r12 : List SOper := [
  ⟨(some 94), none, .mv (.tmp 4)⟩,
  ⟨(some 95), none, .cmp .gtr (.tmp 94) (.const (.int .i64 0))⟩,
  ⟨(some 96), none, .mv (.tmp 95)⟩,
  ⟨(some 97), (some (96, true)), .mv (.tmp 3)⟩,
  ⟨(some 98), (some (96, true)), .mv (.tmp 5)⟩,
  ⟨(some 99), (some (96, true)), .ar .add (.tmp 97) (.tmp 98)⟩,
  ⟨(some 100), (some (96, true)), .cmp .eql (.tmp 99) (.const (.int .i64 0))⟩,
  ⟨(some 101), none, .pick (.tmp 96) (.tmp 100) (.const (.bool false))⟩,
  ⟨(some 102), none, .mv (.tmp 101)⟩,
  ⟨(some 103), (some (102, true)), .fa 1 (.tmp 1)⟩,
  ⟨(some 104), (some (102, true)), .ld1 (.tmp 103)⟩,
  ⟨(some 105), (some (102, true)), .cmp .eql (.tmp 104) (.const (.string ⟨#[]⟩))⟩,
  ⟨(some 106), none, .pick (.tmp 102) (.tmp 105) (.const (.bool false))⟩,
  ⟨(some 107), none, .mv (.tmp 106)⟩,
  ⟨(some 108), (some (107, true)), .fa 3 (.tmp 1)⟩,
  ⟨(some 109), (some (107, true)), .ld1 (.tmp 108)⟩,
  ⟨(some 110), (some (107, true)), .call 19 [(.tmp 109), (.func 18)]⟩,
  ⟨(some 111), none, .pick (.tmp 107) (.tmp 110) (.const (.bool false))⟩,
  ⟨(some 2), none, .mv (.tmp 111)⟩]
def f6r13 : List SOper := [
  ⟨(some 113), none, .cmp .eql (.tmp 48) (.const (.int .i64 5))⟩,
  ⟨(some 112), none, .mv (.tmp 113)⟩]
def f6r14 : List SOper := [
  ⟨(some 114), none, .mv (.tmp 5)⟩,
  ⟨(some 115), none, .cmp .gtr (.tmp 114) (.const (.int .i64 0))⟩,
  ⟨(some 116), none, .mv (.tmp 115)⟩,
  ⟨(some 117), (some (116, true)), .mv (.tmp 3)⟩,
  ⟨(some 118), (some (116, true)), .mv (.tmp 4)⟩,
  ⟨(some 119), (some (116, true)), .ar .add (.tmp 117) (.tmp 118)⟩,
  ⟨(some 120), (some (116, true)), .cmp .eql (.tmp 119) (.const (.int .i64 0))⟩,
  ⟨(some 121), none, .pick (.tmp 116) (.tmp 120) (.const (.bool false))⟩,
  ⟨(some 122), none, .mv (.tmp 121)⟩,
  ⟨(some 123), (some (122, true)), .fa 1 (.tmp 1)⟩,
  ⟨(some 124), (some (122, true)), .ld1 (.tmp 123)⟩,
  ⟨(some 125), (some (122, true)), .cmp .eql (.tmp 124) (.const (.string ⟨#[]⟩))⟩,
  ⟨(some 126), none, .pick (.tmp 122) (.tmp 125) (.const (.bool false))⟩,
  ⟨(some 127), none, .mv (.tmp 126)⟩,
  ⟨(some 128), (some (127, true)), .fa 4 (.tmp 1)⟩,
  ⟨(some 129), (some (127, true)), .ld1 (.tmp 128)⟩,
  ⟨(some 130), (some (127, true)), .call 20 [(.tmp 129), (.func 21)]⟩,
  ⟨(some 131), none, .pick (.tmp 127) (.tmp 130) (.const (.bool false))⟩,
  ⟨(some 132), none, .mv (.tmp 131)⟩,
  ⟨(some 133), (some (132, true)), .fa 4 (.tmp 1)⟩,
  ⟨(some 134), (some (132, true)), .ld1 (.tmp 133)⟩,
  ⟨(some 135), (some (132, true)), .call 22 [(.tmp 134)]⟩,
  ⟨(some 136), none, .pick (.tmp 132) (.tmp 135) (.const (.bool false))⟩,
  ⟨(some 2), none, .mv (.tmp 136)⟩]
def f6r15 : List SOper := [
  ⟨(some 2), none, .mv (.const (.bool false))⟩]
def f6 : SCode := (.seq (.ops f6r0) (.seq (.seq (.ops f6r1) (.cond (.tmp 37) (.seq (.ops f6r2) .ret) .skip)) (.seq (.ops f6r3) (.seq (.seq (.ops f6r4) (.block 0 (.seq (.ops f6r5) (.cond (.tmp 49) (.seq (.ops f6r6) .ret) (.seq (.ops f6r7) (.cond (.tmp 57) (.seq (.ops f6r8) .ret) (.seq (.ops f6r9) (.cond (.tmp 77) (.seq (.ops f6r10) .ret) (.seq (.ops f6r11) (.cond (.tmp 92) (.seq (.ops f6r12) .ret) (.seq (.ops f6r13) (.cond (.tmp 112) (.seq (.ops f6r14) .ret) .skip)))))))))))) (.seq (.ops f6r15) .ret)))))
theorem f6_calls {args : List Value} {h : Heap} {R : Ending → Heap → Prop} (ha : args.length ≤ 137) (hs : swp Try.prog f6 (retQ [.t 2] R) (argEnv 0 args) [] h) : CallsH Try.prog 6 args h R :=
  calls_of_swp mixed Try.func6 rfl (by kernel_rfl) (by kernel_rfl) (by kernel_rfl) ha hs

/-! 7: tabor/taborref07.Check -/
def f7r0 : List SOper := [
  ⟨(some 1), none, .box (.tmp 0)⟩,
  ⟨(some 2), none, .mv (.const (.bool false))⟩]
def f7r1 : List SOper := [
  ⟨(some 10), none, .fa 2 (.tmp 1)⟩,
  ⟨(some 11), none, .ld1 (.tmp 10)⟩,
  ⟨(some 12), none, .len (.tmp 11)⟩,
  ⟨(some 13), none, .fa 3 (.tmp 1)⟩,
  ⟨(some 14), none, .ld1 (.tmp 13)⟩,
  ⟨(some 15), none, .len (.tmp 14)⟩,
  ⟨(some 16), none, .fa 4 (.tmp 1)⟩,
  ⟨(some 17), none, .ld1 (.tmp 16)⟩,
  ⟨(some 18), none, .len (.tmp 17)⟩,
  ⟨(some 3), none, .mv (.tmp 12)⟩,
  ⟨(some 4), none, .mv (.tmp 15)⟩,
  ⟨(some 5), none, .mv (.tmp 18)⟩]
def f7r2 : List SOper := [
  ⟨(some 19), none, .fa 5 (.tmp 1)⟩,
  ⟨(some 20), none, .ld1 (.tmp 19)⟩,
  ⟨(some 21), none, .un .not (.tmp 20)⟩,
  ⟨(some 22), none, .mv (.tmp 21)⟩,
  ⟨(some 23), (some (22, true)), .fa 6 (.tmp 1)⟩,
  ⟨(some 24), (some (22, true)), .ld1 (.tmp 23)⟩,
  ⟨(some 25), (some (22, true)), .cmp .neq (.tmp 24) (.const (.int .i64 0))⟩,
  ⟨(some 26), none, .pick (.tmp 22) (.tmp 25) (.const (.bool false))⟩,
  ⟨(some 27), none, .mv (.tmp 26)⟩,
  ⟨(some 28), (some (27, false)), .mv (.tmp 3)⟩,
  ⟨(some 29), (some (27, false)), .cmp .gtr (.tmp 28) (.const (.int .i64 65536))⟩,
  ⟨(some 30), none, .pick (.tmp 27) (.const (.bool true)) (.tmp 29)⟩,
  ⟨(some 31), none, .mv (.tmp 30)⟩,
  ⟨(some 32), (some (31, false)), .mv (.tmp 4)⟩,
  ⟨(some 33), (some (31, false)), .cmp .gtr (.tmp 32) (.const (.int .i64 65536))⟩,
  ⟨(some 34), none, .pick (.tmp 31) (.const (.bool true)) (.tmp 33)⟩,
  ⟨(some 35), none, .mv (.tmp 34)⟩,
  ⟨(some 36), (some (35, false)), .mv (.tmp 5)⟩,
  ⟨(some 37), (some (35, false)), .cmp .gtr (.tmp 36) (.const (.int .i64 65536))⟩,
  ⟨(some 38), none, .pick (.tmp 35) (.const (.bool true)) (.tmp 37)⟩,
  ⟨(some 39), none, .mv (.tmp 38)⟩,
  ⟨(some 40), (some (39, false)), .fa 1 (.tmp 1)⟩,
  ⟨(some 41), (some (39, false)), .ld1 (.tmp 40)⟩,
  ⟨(some 42), (some (39, false)), .lens (.tmp 41)⟩,
  ⟨(some 43), (some (39, false)), .cmp .gtr (.tmp 42) (.const (.int .i64 1048576))⟩,
  ⟨(some 44), none, .pick (.tmp 39) (.const (.bool true)) (.tmp 43)⟩,
  ⟨(some 45), none, .mv (.tmp 44)⟩,
  ⟨(some 46), (some (45, false)), .fa 0 (.tmp 1)⟩,
  ⟨(some 47), (some (45, false)), .ld1 (.tmp 46)⟩,
  ⟨(some 48), (some (45, false)), .cmp .neq (.tmp 47) (.const (.int .i64 1))⟩,
  ⟨(some 49), (some (45, false)), .mv (.tmp 48)⟩,
  ⟨(some 50), (some (49, true)), .fa 1 (.tmp 1)⟩,
  ⟨(some 51), (some (49, true)), .ld1 (.tmp 50)⟩,
  ⟨(some 52), (some (49, true)), .cmp .neq (.tmp 51) (.const (.string ⟨#[]⟩))⟩,
  ⟨(some 53), (some (45, false)), .pick (.tmp 49) (.tmp 52) (.const (.bool false))⟩,
  ⟨(some 54), none, .pick (.tmp 45) (.const (.bool true)) (.tmp 53)⟩]
def f7r3 : List SOper := [
  ⟨(some 2), none, .mv (.const (.bool false))⟩]
def f7r4 : List SOper := [
  ⟨(some 6), none, .mv (.const (.int .i64 0))⟩]
def f7r5 : List SOper := [
  ⟨(some 55), none, .mv (.tmp 6)⟩,
  ⟨(some 56), none, .mv (.tmp 3)⟩,
  ⟨(some 57), none, .cmp .lss (.tmp 55) (.tmp 56)⟩]
def f7r6 : List SOper := [
  ⟨(some 60), none, .fa 2 (.tmp 1)⟩,
  ⟨(some 61), none, .ld1 (.tmp 60)⟩,
  ⟨(some 62), none, .mv (.tmp 6)⟩,
  ⟨(some 63), none, .ixs 2 (.tmp 61) (.tmp 62)⟩,
  ⟨(some 64), none, .fa 0 (.tmp 63)⟩,
  ⟨(some 65), none, .ld1 (.tmp 64)⟩,
  ⟨(some 66), none, .lens (.tmp 65)⟩,
  ⟨(some 67), none, .cmp .gtr (.tmp 66) (.const (.int .i64 1048576))⟩,
  ⟨(some 68), none, .mv (.tmp 67)⟩,
  ⟨(some 69), (some (68, false)), .fa 2 (.tmp 1)⟩,
  ⟨(some 70), (some (68, false)), .ld1 (.tmp 69)⟩,
  ⟨(some 71), (some (68, false)), .mv (.tmp 6)⟩,
  ⟨(some 72), (some (68, false)), .ixs 2 (.tmp 70) (.tmp 71)⟩,
  ⟨(some 73), (some (68, false)), .fa 1 (.tmp 72)⟩,
  ⟨(some 74), (some (68, false)), .ld1 (.tmp 73)⟩,
  ⟨(some 75), (some (68, false)), .lens (.tmp 74)⟩,
  ⟨(some 76), (some (68, false)), .cmp .gtr (.tmp 75) (.const (.int .i64 1048576))⟩,
  ⟨(some 77), none, .pick (.tmp 68) (.const (.bool true)) (.tmp 76)⟩,
  ⟨(some 78), none, .mv (.tmp 77)⟩,
  ⟨(some 79), (some (78, false)), .mv (.tmp 6)⟩,
  ⟨(some 80), (some (78, false)), .cmp .gtr (.tmp 79) (.const (.int .i64 0))⟩,
  ⟨(some 81), (some (78, false)), .mv (.tmp 80)⟩,
  ⟨(some 82), (some (81, true)), .fa 2 (.tmp 1)⟩,
  ⟨(some 83), (some (81, true)), .ld1 (.tmp 82)⟩,
  ⟨(some 84), (some (81, true)), .mv (.tmp 6)⟩,
  ⟨(some 85), (some (81, true)), .ar .sub (.tmp 84) (.const (.int .i64 1))⟩,
  ⟨(some 86), (some (81, true)), .ixs 2 (.tmp 83) (.tmp 85)⟩,
  ⟨(some 87), (some (81, true)), .fa 0 (.tmp 86)⟩,
  ⟨(some 88), (some (81, true)), .ld1 (.tmp 87)⟩,
  ⟨(some 89), (some (81, true)), .fa 2 (.tmp 1)⟩,
  ⟨(some 90), (some (81, true)), .ld1 (.tmp 89)⟩,
  ⟨(some 91), (some (81, true)), .mv (.tmp 6)⟩,
  ⟨(some 92), (some (81, true)), .ixs 2 (.tmp 90) (.tmp 91)⟩,
  ⟨(some 93), (some (81, true)), .fa 0 (.tmp 92)⟩,
  ⟨(some 94), (some (81, true)), .ld1 (.tmp 93)⟩,
  ⟨(some 95), (some (81, true)), .call 23 [(.tmp 88), (.tmp 94)]⟩,
  ⟨(some 96), (some (81, true)), .un .not (.tmp 95)⟩,
  ⟨(some 97), (some (78, false)), .pick (.tmp 81) (.tmp 96) (.const (.bool false))⟩,
  ⟨(some 98), none, .pick (.tmp 78) (.const (.bool true)) (.tmp 97)⟩]
def f7r7 : List SOper := [
  ⟨(some 2), none, .mv (.const (.bool false))⟩]
def f7r8 : List SOper := [
  ⟨(some 58), none, .mv (.tmp 6)⟩,
  ⟨(some 59), none, .ar .add (.tmp 58) (.const (.int .i64 1))⟩,
  ⟨(some 6), none, .mv (.tmp 59)⟩]
def f7l9 : SCode := (.seq (.seq (.ops f7r5) (.cond (.tmp 57) .skip (.exit 0))) (.seq (.block 1 (.seq (.ops f7r6) (.cond (.tmp 98) (.seq (.ops f7r7) .ret) .skip))) (.ops f7r8)))
def f7r10 : List SOper := [
  ⟨(some 7), none, .mv (.const (.int .i64 0))⟩]
def f7r11 : List SOper := [
  ⟨(some 99), none, .mv (.tmp 7)⟩,
  ⟨(some 100), none, .mv (.tmp 4)⟩,
  ⟨(some 101), none, .cmp .lss (.tmp 99) (.tmp 100)⟩]
def f7r12 : List SOper := [
  ⟨(some 104), none, .fa 3 (.tmp 1)⟩,
  ⟨(some 105), none, .ld1 (.tmp 104)⟩,
  ⟨(some 106), none, .mv (.tmp 7)⟩,
  ⟨(some 107), none, .ixs 1 (.tmp 105) (.tmp 106)⟩,
  ⟨(some 108), none, .ld1 (.tmp 107)⟩,
  ⟨(some 109), none, .lens (.tmp 108)⟩,
  ⟨(some 110), none, .cmp .gtr (.tmp 109) (.const (.int .i64 1048576))⟩,
  ⟨(some 111), none, .mv (.tmp 110)⟩,
  ⟨(some 112), (some (111, false)), .fa 0 (.tmp 1)⟩,
  ⟨(some 113), (some (111, false)), .ld1 (.tmp 112)⟩,
  ⟨(some 114), (some (111, false)), .cmp .eql (.tmp 113) (.const (.int .i64 4))⟩,
  ⟨(some 115), (some (111, false)), .mv (.tmp 114)⟩,
  ⟨(some 116), (some (115, true)), .mv (.tmp 7)⟩,
  ⟨(some 117), (some (115, true)), .cmp .gtr (.tmp 116) (.const (.int .i64 0))⟩,
  ⟨(some 118), (some (111, false)), .pick (.tmp 115) (.tmp 117) (.const (.bool false))⟩,
  ⟨(some 119), (some (111, false)), .mv (.tmp 118)⟩,
  ⟨(some 120), (some (119, true)), .fa 3 (.tmp 1)⟩,
  ⟨(some 121), (some (119, true)), .ld1 (.tmp 120)⟩,
  ⟨(some 122), (some (119, true)), .mv (.tmp 7)⟩,
  ⟨(some 123), (some (119, true)), .ar .sub (.tmp 122) (.const (.int .i64 1))⟩,
  ⟨(some 124), (some (119, true)), .ixs 1 (.tmp 121) (.tmp 123)⟩,
  ⟨(some 125), (some (119, true)), .ld1 (.tmp 124)⟩,
  ⟨(some 126), (some (119, true)), .fa 3 (.tmp 1)⟩,
  ⟨(some 127), (some (119, true)), .ld1 (.tmp 126)⟩,
  ⟨(some 128), (some (119, true)), .mv (.tmp 7)⟩,
  ⟨(some 129), (some (119, true)), .ixs 1 (.tmp 127) (.tmp 128)⟩,
  ⟨(some 130), (some (119, true)), .ld1 (.tmp 129)⟩,
  ⟨(some 131), (some (119, true)), .call 23 [(.tmp 125), (.tmp 130)]⟩,
  ⟨(some 132), (some (119, true)), .un .not (.tmp 131)⟩,
  ⟨(some 133), (some (111, false)), .pick (.tmp 119) (.tmp 132) (.const (.bool false))⟩,
  ⟨(some 134), none, .pick (.tmp 111) (.const (.bool true)) (.tmp 133)⟩]
def f7r13 : List SOper := [
  ⟨(some 2), none, .mv (.const (.bool false))⟩]
def f7r14 : List SOper := [
  ⟨(some 102), none, .mv (.tmp 7)⟩,
  ⟨(some 103), none, .ar .add (.tmp 102) (.const (.int .i64 1))⟩,
  ⟨(some 7), none, .mv (.tmp 103)⟩]
def f7l15 : SCode := (.seq (.seq (.ops f7r11) (.cond (.tmp 101) .skip (.exit 2))) (.seq (.block 3 (.seq (.ops f7r12) (.cond (.tmp 134) (.seq (.ops f7r13) .ret) .skip))) (.ops f7r14)))
def f7r16 : List SOper := [
  ⟨(some 8), none, .mv (.const (.int .i64 0))⟩]
def f7r17 : List SOper := [
  ⟨(some 135), none, .mv (.tmp 8)⟩,
  ⟨(some 136), none, .mv (.tmp 5)⟩,
  ⟨(some 137), none, .cmp .lss (.tmp 135) (.tmp 136)⟩]
def f7r18 : List SOper := [
  ⟨(some 140), none, .fa 4 (.tmp 1)⟩,
  ⟨(some 141), none, .ld1 (.tmp 140)⟩,
  ⟨(some 142), none, .mv (.tmp 8)⟩,
  ⟨(some 143), none, .ixs 2 (.tmp 141) (.tmp 142)⟩,
  ⟨(some 144), none, .fa 0 (.tmp 143)⟩,
  ⟨(some 145), none, .ld1 (.tmp 144)⟩,
  ⟨(some 146), none, .lens (.tmp 145)⟩,
  ⟨(some 147), none, .cmp .gtr (.tmp 146) (.const (.int .i64 1048576))⟩,
  ⟨(some 148), none, .mv (.tmp 147)⟩,
  ⟨(some 149), (some (148, false)), .mv (.tmp 8)⟩,
  ⟨(some 150), (some (148, false)), .cmp .gtr (.tmp 149) (.const (.int .i64 0))⟩,
  ⟨(some 151), (some (148, false)), .mv (.tmp 150)⟩,
  ⟨(some 152), (some (151, true)), .fa 4 (.tmp 1)⟩,
  ⟨(some 153), (some (151, true)), .ld1 (.tmp 152)⟩,
  ⟨(some 154), (some (151, true)), .mv (.tmp 8)⟩,
  ⟨(some 155), (some (151, true)), .ar .sub (.tmp 154) (.const (.int .i64 1))⟩,
  ⟨(some 156), (some (151, true)), .ixs 2 (.tmp 153) (.tmp 155)⟩,
  ⟨(some 157), (some (151, true)), .ldn 2 (.tmp 156)⟩,
  ⟨(some 158), (some (151, true)), .fa 4 (.tmp 1)⟩,
  ⟨(some 159), (some (151, true)), .ld1 (.tmp 158)⟩,
  ⟨(some 160), (some (151, true)), .mv (.tmp 8)⟩,
  ⟨(some 161), (some (151, true)), .ixs 2 (.tmp 159) (.tmp 160)⟩,
  ⟨(some 162), (some (151, true)), .ldn 2 (.tmp 161)⟩,
  ⟨(some 163), (some (151, true)), .call 24 [(.tmp 157), (.tmp 162)]⟩,
  ⟨(some 164), (some (151, true)), .un .not (.tmp 163)⟩,
  ⟨(some 165), (some (148, false)), .pick (.tmp 151) (.tmp 164) (.const (.bool false))⟩,
  ⟨(some 166), none, .pick (.tmp 148) (.const (.bool true)) (.tmp 165)⟩]
def f7r19 : List SOper := [
  ⟨(some 2), none, .mv (.const (.bool false))⟩]
def f7r20 : List SOper := [
  ⟨(some 9), none, .mv (.const (.int .i64 0))⟩]
def f7r21 : List SOper := [
  ⟨(some 167), none, .mv (.tmp 9)⟩,
  ⟨(some 168), none, .mv (.tmp 8)⟩,
  ⟨(some 169), none, .cmp .lss (.tmp 167) (.tmp 168)⟩]
def f7r22 : List SOper := [
  ⟨(some 172), none, .fa 4 (.tmp 1)⟩,
  ⟨(some 173), none, .ld1 (.tmp 172)⟩,
  ⟨(some 174), none, .mv (.tmp 9)⟩,
  ⟨(some 175), none, .ixs 2 (.tmp 173) (.tmp 174)⟩,
  ⟨(some 176), none, .fa 0 (.tmp 175)⟩,
  ⟨(some 177), none, .ld1 (.tmp 176)⟩,
  ⟨(some 178), none, .fa 4 (.tmp 1)⟩,
  ⟨(some 179), none, .ld1 (.tmp 178)⟩,
  ⟨(some 180), none, .mv (.tmp 8)⟩,
  ⟨(some 181), none, .ixs 2 (.tmp 179) (.tmp 180)⟩,
  ⟨(some 182), none, .fa 0 (.tmp 181)⟩,
  ⟨(some 183), none, .ld1 (.tmp 182)⟩,
  ⟨(some 184), none, .cmp .eql (.tmp 177) (.tmp 183)⟩]
def f7r23 : List SOper := [
  ⟨(some 2), none, .mv (.const (.bool false))⟩]
def f7r24 : List SOper := [
  ⟨(some 170), none, .mv (.tmp 9)⟩,
  ⟨(some 171), none, .ar .add (.tmp 170) (.const (.int .i64 1))⟩,
  ⟨(some 9), none, .mv (.tmp 171)⟩]
def f7l25 : SCode := (.seq (.seq (.ops f7r21) (.cond (.tmp 169) .skip (.exit 6))) (.seq (.block 7 (.seq (.ops f7r22) (.cond (.tmp 184) (.seq (.ops f7r23) .ret) .skip))) (.ops f7r24)))
def f7r26 : List SOper := [
  ⟨(some 138), none, .mv (.tmp 8)⟩,
  ⟨(some 139), none, .ar .add (.tmp 138) (.const (.int .i64 1))⟩,
  ⟨(some 8), none, .mv (.tmp 139)⟩]
def f7l27 : SCode := (.seq (.seq (.ops f7r17) (.cond (.tmp 137) .skip (.exit 4))) (.seq (.block 5 (.seq (.seq (.ops f7r18) (.cond (.tmp 166) (.seq (.ops f7r19) .ret) .skip)) (.seq (.ops f7r20) (.block 6 (.loop f7l25))))) (.ops f7r26)))
def f7r28 : List SOper := [
  ⟨(some 185), none, .fa 0 (.tmp 1)⟩,
  ⟨(some 186), none, .ld1 (.tmp 185)⟩]
def f7r29 : List SOper := [
  ⟨(some 188), none, .cmp .eql (.tmp 186) (.const (.int .i64 1))⟩,
  ⟨(some 187), none, .mv (.tmp 188)⟩]
def f7r30 : List SOper := [
  ⟨(some 189), none, .mv (.tmp 3)⟩,
  ⟨(some 190), none, .mv (.tmp 4)⟩,
  ⟨(some 191), none, .ar .add (.tmp 189) (.tmp 190)⟩,
  ⟨(some 192), none, .mv (.tmp 5)⟩,
  ⟨(some 193), none, .ar .add (.tmp 191) (.tmp 192)⟩,
  ⟨(some 194), none, .cmp .eql (.tmp 193) (.const (.int .i64 0))⟩,
  ⟨(some 2), none, .mv (.tmp 194)⟩]
def f7r31 : List SOper := [
  ⟨(some 196), none, .cmp .eql (.tmp 186) (.const (.int .i64 2))⟩,
  ⟨(some 195), none, .mv (.tmp 196)⟩]
def f7r32 : List SOper := [
  ⟨(some 197), none, .mv (.tmp 3)⟩,
  ⟨(some 198), none, .cmp .gtr (.tmp 197) (.const (.int .i64 0))⟩,
  ⟨(some 199), none, .mv (.tmp 198)⟩,
  ⟨(some 200), (some (199, true)), .mv (.tmp 4)⟩,
  ⟨(some 201), (some (199, true)), .mv (.tmp 5)⟩,
  ⟨(some 202), (some (199, true)), .ar .add (.tmp 200) (.tmp 201)⟩,
  ⟨(some 203), (some (199, true)), .cmp .eql (.tmp 202) (.const (.int .i64 0))⟩,
  ⟨(some 204), none, .pick (.tmp 199) (.tmp 203) (.const (.bool false))⟩,
  ⟨(some 2), none, .mv (.tmp 204)⟩]
def f7r33 : List SOper := [
  ⟨(some 206), none, .cmp .eql (.tmp 186) (.const (.int .i64 3))⟩,
  ⟨(some 205), none, .mv (.tmp 206)⟩]
def f7r34 : List SOper := [
  ⟨(some 207), none, .cmp .eql (.tmp 186) (.const (.int .i64 4))⟩,
  ⟨(some 205), none, .mv (.tmp 207)⟩]
def f7r35 : List SOper := [
  ⟨(some 208), none, .mv (.tmp 4)⟩,
  ⟨(some 209), none, .cmp .gtr (.tmp 208) (.const (.int .i64 0))⟩,
  ⟨(some 210), none, .mv (.tmp 209)⟩,
  ⟨(some 211), (some (210, true)), .mv (.tmp 3)⟩,
  ⟨(some 212), (some (210, true)), .mv (.tmp 5)⟩,
  ⟨(some 213), (some (210, true)), .ar .add (.tmp 211) (.tmp 212)⟩,
  ⟨(some 214), (some (210, true)), .cmp .eql (.tmp 213) (.const (.int .i64 0))⟩,
  ⟨(some 215), none, .pick (.tmp 210) (.tmp 214) (.const (.bool false))⟩,
  ⟨(some 2), none, .mv (.tmp 215)⟩]
def f7r36 : List SOper := [
  ⟨(some 217), none, .cmp .eql (.tmp 186) (.const (.int .i64 5))⟩,
  ⟨(some 216), none, .mv (.tmp 217)⟩]
def f7r37 : List SOper := [
  ⟨(some 218), none, .mv (.tmp 5)⟩,
  ⟨(some 219), none, .cmp .gtr (.tmp 218) (.const (.int .i64 0))⟩,
  ⟨(some 220), none, .mv (.tmp 219)⟩,
  ⟨(some 221), (some (220, true)), .mv (.tmp 3)⟩,
  ⟨(some 222), (some (220, true)), .mv (.tmp 4)⟩,
  ⟨(some 223), (some (220, true)), .ar .add (.tmp 221) (.tmp 222)⟩,
  ⟨(some 224), (some (220, true)), .cmp .eql (.tmp 223) (.const (.int .i64 0))⟩,
  ⟨(some 225), none, .pick (.tmp 220) (.tmp 224) (.const (.bool false))⟩,
  ⟨(some 2), none, .mv (.tmp 225)⟩]
def f7r38 : List SOper := [
  ⟨(some 2), none, .mv (.const (.bool false))⟩]
def f7 : SCode := (.seq (.ops f7r0) (.seq (.ops f7r1) (.seq (.seq (.ops f7r2) (.cond (.tmp 54) (.seq (.ops f7r3) .ret) .skip)) (.seq (.seq (.ops f7r4) (.block 0 (.loop f7l9))) (.seq (.seq (.ops f7r10) (.block 2 (.loop f7l15))) (.seq (.seq (.ops f7r16) (.block 4 (.loop f7l27))) (.seq (.seq (.ops f7r28) (.block 8 (.seq (.ops f7r29) (.cond (.tmp 187) (.seq (.ops f7r30) .ret) (.seq (.ops f7r31) (.cond (.tmp 195) (.seq (.ops f7r32) .ret) (.seq (.seq (.ops f7r33) (.cond (.tmp 205) .skip (.ops f7r34))) (.cond (.tmp 205) (.seq (.ops f7r35) .ret) (.seq (.ops f7r36) (.cond (.tmp 216) (.seq (.ops f7r37) .ret) .skip)))))))))) (.seq (.ops f7r38) .ret))))))))
theorem f7_calls {args : List Value} {h : Heap} {R : Ending → Heap → Prop} (ha : args.length ≤ 226) (hs : swp Try.prog f7 (retQ [.t 2] R) (argEnv 0 args) [] h) : CallsH Try.prog 7 args h R :=
  calls_of_swp mixed Try.func7 rfl (by kernel_rfl) (by kernel_rfl) (by kernel_rfl) ha hs

/-! 8: tabor/keys.SameThing -/
def f8r0 : List SOper := [
  ⟨(some 2), none, .box (.tmp 0)⟩,
  ⟨(some 3), none, .box (.tmp 1)⟩,
  ⟨(some 4), none, .mv (.const (.bool false))⟩]
def f8r1 : List SOper := [
  ⟨(some 5), none, .fa 0 (.tmp 2)⟩,
  ⟨(some 6), none, .ld1 (.tmp 5)⟩,
  ⟨(some 7), none, .fa 0 (.tmp 3)⟩,
  ⟨(some 8), none, .ld1 (.tmp 7)⟩,
  ⟨(some 9), none, .cmp .eql (.tmp 6) (.tmp 8)⟩,
  ⟨(some 10), none, .mv (.tmp 9)⟩,
  ⟨(some 11), (some (10, true)), .fa 1 (.tmp 2)⟩,
  ⟨(some 12), (some (10, true)), .ld1 (.tmp 11)⟩,
  ⟨(some 13), (some (10, true)), .fa 1 (.tmp 3)⟩,
  ⟨(some 14), (some (10, true)), .ld1 (.tmp 13)⟩,
  ⟨(some 15), (some (10, true)), .cmp .eql (.tmp 12) (.tmp 14)⟩,
  ⟨(some 16), none, .pick (.tmp 10) (.tmp 15) (.const (.bool false))⟩,
  ⟨(some 17), none, .mv (.tmp 16)⟩,
  ⟨(some 18), (some (17, true)), .fa 2 (.tmp 2)⟩,
  ⟨(some 19), (some (17, true)), .ld1 (.tmp 18)⟩,
  ⟨(some 20), (some (17, true)), .fa 2 (.tmp 3)⟩,
  ⟨(some 21), (some (17, true)), .ld1 (.tmp 20)⟩,
  ⟨(some 22), (some (17, true)), .call 25 [(.tmp 19), (.tmp 21)]⟩,
  ⟨(some 23), none, .pick (.tmp 17) (.tmp 22) (.const (.bool false))⟩,
  ⟨(some 24), none, .mv (.tmp 23)⟩,
  ⟨(some 25), (some (24, true)), .fa 3 (.tmp 2)⟩,
  ⟨(some 26), (some (24, true)), .ld1 (.tmp 25)⟩,
  ⟨(some 27), (some (24, true)), .fa 3 (.tmp 3)⟩,
  ⟨(some 28), (some (24, true)), .ld1 (.tmp 27)⟩,
  ⟨(some 29), (some (24, true)), .call 26 [(.tmp 26), (.tmp 28)]⟩,
  ⟨(some 30), none, .pick (.tmp 24) (.tmp 29) (.const (.bool false))⟩,
  ⟨(some 31), none, .mv (.tmp 30)⟩,
  ⟨(some 32), (some (31, true)), .fa 4 (.tmp 2)⟩,
  ⟨(some 33), (some (31, true)), .ld1 (.tmp 32)⟩,
  ⟨(some 34), (some (31, true)), .fa 4 (.tmp 3)⟩,
  ⟨(some 35), (some (31, true)), .ld1 (.tmp 34)⟩,
  ⟨(some 36), (some (31, true)), .call 27 [(.tmp 33), (.tmp 35)]⟩,
  ⟨(some 37), none, .pick (.tmp 31) (.tmp 36) (.const (.bool false))⟩,
  ⟨(some 38), none, .mv (.tmp 37)⟩,
  ⟨(some 39), (some (38, true)), .fa 5 (.tmp 2)⟩,
  ⟨(some 40), (some (38, true)), .ld1 (.tmp 39)⟩,
  ⟨(some 41), (some (38, true)), .fa 5 (.tmp 3)⟩,
  ⟨(some 42), (some (38, true)), .ld1 (.tmp 41)⟩,
  ⟨(some 43), (some (38, true)), .cmpb false (.tmp 40) (.tmp 42)⟩,
  ⟨(some 44), none, .pick (.tmp 38) (.tmp 43) (.const (.bool false))⟩,
  ⟨(some 45), none, .mv (.tmp 44)⟩,
  ⟨(some 46), (some (45, true)), .fa 6 (.tmp 2)⟩,
  ⟨(some 47), (some (45, true)), .ld1 (.tmp 46)⟩,
  ⟨(some 48), (some (45, true)), .fa 6 (.tmp 3)⟩,
  ⟨(some 49), (some (45, true)), .ld1 (.tmp 48)⟩,
  ⟨(some 50), (some (45, true)), .cmp .eql (.tmp 47) (.tmp 49)⟩,
  ⟨(some 51), none, .pick (.tmp 45) (.tmp 50) (.const (.bool false))⟩,
  ⟨(some 4), none, .mv (.tmp 51)⟩]
def f8 : SCode := (.seq (.ops f8r0) (.seq (.ops f8r1) .ret))
theorem f8_calls {args : List Value} {h : Heap} {R : Ending → Heap → Prop} (ha : args.length ≤ 52) (hs : swp Try.prog f8 (retQ [.t 4] R) (argEnv 0 args) [] h) : CallsH Try.prog 8 args h R :=
  calls_of_swp mixed Try.func8 rfl (by kernel_rfl) (by kernel_rfl) (by kernel_rfl) ha hs

/-! 9: tabor/taborref07.SameThing -/
def f9r0 : List SOper := [
  ⟨(some 2), none, .box (.tmp 0)⟩,
  ⟨(some 3), none, .box (.tmp 1)⟩,
  ⟨(some 4), none, .mv (.const (.bool false))⟩]
def f9r1 : List SOper := [
  ⟨(some 8), none, .fa 0 (.tmp 2)⟩,
  ⟨(some 9), none, .ld1 (.tmp 8)⟩,
  ⟨(some 10), none, .fa 0 (.tmp 3)⟩,
  ⟨(some 11), none, .ld1 (.tmp 10)⟩,
  ⟨(some 12), none, .cmp .neq (.tmp 9) (.tmp 11)⟩,
  ⟨(some 13), none, .mv (.tmp 12)⟩,
  ⟨(some 14), (some (13, false)), .fa 1 (.tmp 2)⟩,
  ⟨(some 15), (some (13, false)), .ld1 (.tmp 14)⟩,
  ⟨(some 16), (some (13, false)), .fa 1 (.tmp 3)⟩,
  ⟨(some 17), (some (13, false)), .ld1 (.tmp 16)⟩,
  ⟨(some 18), (some (13, false)), .cmp .neq (.tmp 15) (.tmp 17)⟩,
  ⟨(some 19), none, .pick (.tmp 13) (.const (.bool true)) (.tmp 18)⟩,
  ⟨(some 20), none, .mv (.tmp 19)⟩,
  ⟨(some 21), (some (20, false)), .fa 5 (.tmp 2)⟩,
  ⟨(some 22), (some (20, false)), .ld1 (.tmp 21)⟩,
  ⟨(some 23), (some (20, false)), .fa 5 (.tmp 3)⟩,
  ⟨(some 24), (some (20, false)), .ld1 (.tmp 23)⟩,
  ⟨(some 25), (some (20, false)), .cmpb true (.tmp 22) (.tmp 24)⟩,
  ⟨(some 26), none, .pick (.tmp 20) (.const (.bool true)) (.tmp 25)⟩,
  ⟨(some 27), none, .mv (.tmp 26)⟩,
  ⟨(some 28), (some (27, false)), .fa 6 (.tmp 2)⟩,
  ⟨(some 29), (some (27, false)), .ld1 (.tmp 28)⟩,
  ⟨(some 30), (some (27, false)), .fa 6 (.tmp 3)⟩,
  ⟨(some 31), (some (27, false)), .ld1 (.tmp 30)⟩,
  ⟨(some 32), (some (27, false)), .cmp .neq (.tmp 29) (.tmp 31)⟩,
  ⟨(some 33), none, .pick (.tmp 27) (.const (.bool true)) (.tmp 32)⟩,
  ⟨(some 34), none, .mv (.tmp 33)⟩,
  ⟨(some 35), (some (34, false)), .fa 2 (.tmp 2)⟩,
  ⟨(some 36), (some (34, false)), .ld1 (.tmp 35)⟩,
  ⟨(some 37), (some (34, false)), .len (.tmp 36)⟩,
  ⟨(some 38), (some (34, false)), .fa 2 (.tmp 3)⟩,
  ⟨(some 39), (some (34, false)), .ld1 (.tmp 38)⟩,
  ⟨(some 40), (some (34, false)), .len (.tmp 39)⟩,
  ⟨(some 41), (some (34, false)), .cmp .neq (.tmp 37) (.tmp 40)⟩,
  ⟨(some 42), none, .pick (.tmp 34) (.const (.bool true)) (.tmp 41)⟩,
  ⟨(some 43), none, .mv (.tmp 42)⟩,
  ⟨(some 44), (some (43, false)), .fa 3 (.tmp 2)⟩,
  ⟨(some 45), (some (43, false)), .ld1 (.tmp 44)⟩,
  ⟨(some 46), (some (43, false)), .len (.tmp 45)⟩,
  ⟨(some 47), (some (43, false)), .fa 3 (.tmp 3)⟩,
  ⟨(some 48), (some (43, false)), .ld1 (.tmp 47)⟩,
  ⟨(some 49), (some (43, false)), .len (.tmp 48)⟩,
  ⟨(some 50), (some (43, false)), .cmp .neq (.tmp 46) (.tmp 49)⟩,
  ⟨(some 51), none, .pick (.tmp 43) (.const (.bool true)) (.tmp 50)⟩,
  ⟨(some 52), none, .mv (.tmp 51)⟩,
  ⟨(some 53), (some (52, false)), .fa 4 (.tmp 2)⟩,
  ⟨(some 54), (some (52, false)), .ld1 (.tmp 53)⟩,
  ⟨(some 55), (some (52, false)), .len (.tmp 54)⟩,
  ⟨(some 56), (some (52, false)), .fa 4 (.tmp 3)⟩,
  ⟨(some 57), (some (52, false)), .ld1 (.tmp 56)⟩,
  ⟨(some 58), (some (52, false)), .len (.tmp 57)⟩,
  ⟨(some 59), (some (52, false)), .cmp .neq (.tmp 55) (.tmp 58)⟩,
  ⟨(some 60), none, .pick (.tmp 52) (.const (.bool true)) (.tmp 59)⟩]
def f9r2 : List SOper := [
  ⟨(some 4), none, .mv (.const (.bool false))⟩]
def f9r3 : List SOper := [
  ⟨(some 5), none, .mv (.const (.int .i64 0))⟩]
def f9r4 : List SOper := [
  ⟨(some 61), none, .mv (.tmp 5)⟩,
  ⟨(some 62), none, .fa 2 (.tmp 2)⟩,
  ⟨(some 63), none, .ld1 (.tmp 62)⟩,
  ⟨(some 64), none, .len (.tmp 63)⟩,
  ⟨(some 65), none, .cmp .lss (.tmp 61) (.tmp 64)⟩]
def f9r5 : List SOper := [
  ⟨(some 68), none, .fa 2 (.tmp 2)⟩,
  ⟨(some 69), none, .ld1 (.tmp 68)⟩,
  ⟨(some 70), none, .mv (.tmp 5)⟩,
  ⟨(some 71), none, .ixs 2 (.tmp 69) (.tmp 70)⟩,
  ⟨(some 72), none, .ldn 2 (.tmp 71)⟩,
  ⟨(some 73), none, .fa 2 (.tmp 3)⟩,
  ⟨(some 74), none, .ld1 (.tmp 73)⟩,
  ⟨(some 75), none, .mv (.tmp 5)⟩,
  ⟨(some 76), none, .ixs 2 (.tmp 74) (.tmp 75)⟩,
  ⟨(some 77), none, .ldn 2 (.tmp 76)⟩,
  ⟨(some 78), none, .eqa true [.str, .str] (.tmp 72) (.tmp 77)⟩]
def f9r6 : List SOper := [
  ⟨(some 4), none, .mv (.const (.bool false))⟩]
def f9r7 : List SOper := [
  ⟨(some 66), none, .mv (.tmp 5)⟩,
  ⟨(some 67), none, .ar .add (.tmp 66) (.const (.int .i64 1))⟩,
  ⟨(some 5), none, .mv (.tmp 67)⟩]
def f9l8 : SCode := (.seq (.seq (.ops f9r4) (.cond (.tmp 65) .skip (.exit 0))) (.seq (.block 1 (.seq (.ops f9r5) (.cond (.tmp 78) (.seq (.ops f9r6) .ret) .skip))) (.ops f9r7)))
def f9r9 : List SOper := [
  ⟨(some 6), none, .mv (.const (.int .i64 0))⟩]
def f9r10 : List SOper := [
  ⟨(some 79), none, .mv (.tmp 6)⟩,
  ⟨(some 80), none, .fa 3 (.tmp 2)⟩,
  ⟨(some 81), none, .ld1 (.tmp 80)⟩,
  ⟨(some 82), none, .len (.tmp 81)⟩,
  ⟨(some 83), none, .cmp .lss (.tmp 79) (.tmp 82)⟩]
def f9r11 : List SOper := [
  ⟨(some 86), none, .fa 3 (.tmp 2)⟩,
  ⟨(some 87), none, .ld1 (.tmp 86)⟩,
  ⟨(some 88), none, .mv (.tmp 6)⟩,
  ⟨(some 89), none, .ixs 1 (.tmp 87) (.tmp 88)⟩,
  ⟨(some 90), none, .ld1 (.tmp 89)⟩,
  ⟨(some 91), none, .fa 3 (.tmp 3)⟩,
  ⟨(some 92), none, .ld1 (.tmp 91)⟩,
  ⟨(some 93), none, .mv (.tmp 6)⟩,
  ⟨(some 94), none, .ixs 1 (.tmp 92) (.tmp 93)⟩,
  ⟨(some 95), none, .ld1 (.tmp 94)⟩,
  ⟨(some 96), none, .cmp .neq (.tmp 90) (.tmp 95)⟩]
def f9r12 : List SOper := [
  ⟨(some 4), none, .mv (.const (.bool false))⟩]
def f9r13 : List SOper := [
  ⟨(some 84), none, .mv (.tmp 6)⟩,
  ⟨(some 85), none, .ar .add (.tmp 84) (.const (.int .i64 1))⟩,
  ⟨(some 6), none, .mv (.tmp 85)⟩]
def f9l14 : SCode := (.seq (.seq (.ops f9r10) (.cond (.tmp 83) .skip (.exit 2))) (.seq (.block 3 (.seq (.ops f9r11) (.cond (.tmp 96) (.seq (.ops f9r12) .ret) .skip))) (.ops f9r13)))
def f9r15 : List SOper := [
  ⟨(some 7), none, .mv (.const (.int .i64 0))⟩]
def f9r16 : List SOper := [
  ⟨(some 97), none, .mv (.tmp 7)⟩,
  ⟨(some 98), none, .fa 4 (.tmp 2)⟩,
  ⟨(some 99), none, .ld1 (.tmp 98)⟩,
  ⟨(some 100), none, .len (.tmp 99)⟩,
  ⟨(some 101), none, .cmp .lss (.tmp 97) (.tmp 100)⟩]
def f9r17 : List SOper := [
  ⟨(some 104), none, .fa 4 (.tmp 2)⟩,
  ⟨(some 105), none, .ld1 (.tmp 104)⟩,
  ⟨(some 106), none, .mv (.tmp 7)⟩,
  ⟨(some 107), none, .ixs 2 (.tmp 105) (.tmp 106)⟩,
  ⟨(some 108), none, .ldn 2 (.tmp 107)⟩,
  ⟨(some 109), none, .fa 4 (.tmp 3)⟩,
  ⟨(some 110), none, .ld1 (.tmp 109)⟩,
  ⟨(some 111), none, .mv (.tmp 7)⟩,
  ⟨(some 112), none, .ixs 2 (.tmp 110) (.tmp 111)⟩,
  ⟨(some 113), none, .ldn 2 (.tmp 112)⟩,
  ⟨(some 114), none, .eqa true [.str, (.int .i64)] (.tmp 108) (.tmp 113)⟩]
def f9r18 : List SOper := [
  ⟨(some 4), none, .mv (.const (.bool false))⟩]
def f9r19 : List SOper := [
  ⟨(some 102), none, .mv (.tmp 7)⟩,
  ⟨(some 103), none, .ar .add (.tmp 102) (.const (.int .i64 1))⟩,
  ⟨(some 7), none, .mv (.tmp 103)⟩]
def f9l20 : SCode := (.seq (.seq (.ops f9r16) (.cond (.tmp 101) .skip (.exit 4))) (.seq (.block 5 (.seq (.ops f9r17) (.cond (.tmp 114) (.seq (.ops f9r18) .ret) .skip))) (.ops f9r19)))
def f9r21 : List SOper := [
  ⟨(some 4), none, .mv (.const (.bool true))⟩]
def f9 : SCode := (.seq (.ops f9r0) (.seq (.seq (.ops f9r1) (.cond (.tmp 60) (.seq (.ops f9r2) .ret) .skip)) (.seq (.seq (.ops f9r3) (.block 0 (.loop f9l8))) (.seq (.seq (.ops f9r9) (.block 2 (.loop f9l14))) (.seq (.seq (.ops f9r15) (.block 4 (.loop f9l20))) (.seq (.ops f9r21) .ret))))))
theorem f9_calls {args : List Value} {h : Heap} {R : Ending → Heap → Prop} (ha : args.length ≤ 115) (hs : swp Try.prog f9 (retQ [.t 4] R) (argEnv 0 args) [] h) : CallsH Try.prog 9 args h R :=
  calls_of_swp mixed Try.func9 rfl (by kernel_rfl) (by kernel_rfl) (by kernel_rfl) ha hs

/-! 10: tabor/keys.New -/
def f10r0 : List SOper := [
  ⟨(some 0), none, .mv (.const (.pointer none))⟩]
def f10r1 : List SOper := [
  ⟨(some 1), none, .mkm⟩,
  ⟨(some 2), none, .build [(.map none)] [(0, 1)] [(.tmp 1)]⟩,
  ⟨(some 3), none, .box (.tmp 2)⟩,
  ⟨(some 4), none, .build [(.pointer none)] [(0, 1)] [(.tmp 3)]⟩,
  ⟨(some 5), none, .box (.tmp 4)⟩,
  ⟨(some 0), none, .mv (.tmp 5)⟩]
def f10 : SCode := (.seq (.ops f10r0) (.seq (.ops f10r1) .ret))
theorem f10_calls {args : List Value} {h : Heap} {R : Ending → Heap → Prop} (ha : args.length ≤ 6) (hs : swp Try.prog f10 (retQ [.t 0] R) (argEnv 0 args) [] h) : CallsH Try.prog 10 args h R :=
  calls_of_swp mixed Try.func10 rfl (by kernel_rfl) (by kernel_rfl) (by kernel_rfl) ha hs

/-! 11: (*tabor/keys.Keys).Apply -/
def f11r0 : List SOper := [
  ⟨(some 4), none, .mv (.const (.int .i64 0))⟩,
  ⟨(some 5), none, .mv (.const (.int .i64 0))⟩]
def f11r1 : List SOper := [
  ⟨(some 10), none, .mv (.tmp 0)⟩,
  ⟨(some 11), none, .call 28 [(.tmp 10)]⟩]
def f11r2 : List SOper := [
  ⟨(some 4), none, .mv (.const (.int .i64 0))⟩,
  ⟨(some 5), none, .mv (.const (.int .i64 1))⟩]
def f11r3 : List SOper := [
  ⟨(some 6), none, .mv (.const (.int .i64 0))⟩]
def f11r4 : List SOper := [
  ⟨(some 7), none, .mv (.const (.int .i64 0))⟩]
def f11r5 : List SOper := [
  ⟨(some 12), none, .mv (.tmp 1)⟩,
  ⟨(some 13), none, .len (.tmp 12)⟩,
  ⟨(some 14), none, .mv (.const (.int .i64 0))⟩]
def f11r6 : List SOper := [
  ⟨(some 15), none, .cmp .lss (.tmp 14) (.tmp 13)⟩]
def f11r7 : List SOper := [
  ⟨(some 16), none, .ixs 5 (.tmp 12) (.tmp 14)⟩,
  ⟨(some 17), none, .ldn 5 (.tmp 16)⟩,
  ⟨(some 9), none, .new [(.int .i64 0), (.string ⟨#[]⟩), (.string ⟨#[]⟩), (.string ⟨#[]⟩), (.int .i64 0)]⟩,
  ⟨none, none, .st 5 (.tmp 9) (.tmp 17)⟩]
def f11r8 : List SOper := [
  ⟨(some 18), none, .mv (.tmp 0)⟩,
  ⟨(some 19), none, .ldn 5 (.tmp 9)⟩,
  ⟨(some 20), none, .call 29 [(.tmp 18), (.tmp 19)]⟩,
  ⟨(some 7), none, .mv (.tmp 20)⟩]
def f11r9 : List SOper := [
  ⟨(some 21), none, .mv (.tmp 7)⟩,
  ⟨(some 22), none, .cmp .neq (.tmp 21) (.const (.int .i64 0))⟩]
def f11r10 : List SOper := [
  ⟨(some 23), none, .mv (.tmp 6)⟩,
  ⟨(some 24), none, .ar .add (.tmp 23) (.const (.int .i64 1))⟩,
  ⟨(some 6), none, .mv (.tmp 24)⟩]
def f11r11 : List SOper := [
  ⟨(some 25), none, .ar .add (.tmp 14) (.const (.int .i64 1))⟩,
  ⟨(some 14), none, .mv (.tmp 25)⟩]
def f11l12 : SCode := (.seq (.ops f11r6) (.seq (.cond (.tmp 15) .skip (.exit 0)) (.seq (.block 1 (.seq (.ops f11r7) (.seq (.seq (.ops f11r8) (.seq (.ops f11r9) (.cond (.tmp 22) (.exit 0) .skip))) (.ops f11r10)))) (.ops f11r11))))
def f11r13 : List SOper := [
  ⟨(some 26), none, .mv (.tmp 6)⟩,
  ⟨(some 27), none, .mv (.tmp 7)⟩,
  ⟨(some 4), none, .mv (.tmp 26)⟩,
  ⟨(some 5), none, .mv (.tmp 27)⟩]
def f11 : SCode := (.seq (.ops f11r0) (.scope (.seq (.seq (.ops f11r1) (.cond (.tmp 11) (.seq (.ops f11r2) .ret) .skip)) (.seq (.ops f11r3) (.seq (.ops f11r4) (.seq .skip (.seq (.seq (.ops f11r5) (.block 0 (.loop f11l12))) (.seq (.ops f11r13) .ret))))))))
theorem f11_calls {args : List Value} {h : Heap} {R : Ending → Heap → Prop} (ha : args.length ≤ 28) (hs : swp Try.prog f11 (retQ [.t 4, .t 5] R) (argEnv 0 args) [] h) : CallsH Try.prog 11 args h R :=
  calls_of_swp mixed Try.func11 rfl (by kernel_rfl) (by kernel_rfl) (by kernel_rfl) ha hs

/-! 12: (*tabor/keys.Keys).Get -/
def f12r0 : List SOper := [
  ⟨(some 6), none, .new [(.int .i64 0), (.string ⟨#[]⟩), (.slice none 0 0), (.slice none 0 0), (.slice none 0 0), (.bool false), (.int .i64 0)]⟩,
  ⟨(some 7), none, .mv (.const (.bool false))⟩]
def f12r1 : List SOper := [
  ⟨(some 11), none, .mv (.tmp 0)⟩,
  ⟨(some 12), none, .mv (.tmp 1)⟩,
  ⟨(some 13), none, .call 30 [(.tmp 11), (.tmp 12)]⟩,
  ⟨(some 10), none, .mv (.tmp 13)⟩,
  ⟨(some 14), none, .ext (.tmp 10) 0⟩,
  ⟨(some 15), none, .ext (.tmp 10) 1⟩,
  ⟨(some 8), none, .new [(.int .i64 0), (.string ⟨#[]⟩), (.slice none 0 0), (.slice none 0 0), (.slice none 0 0), (.bool false), (.int .i64 0)]⟩,
  ⟨none, none, .st 7 (.tmp 8) (.tmp 14)⟩,
  ⟨(some 9), none, .mv (.tmp 15)⟩]
def f12r2 : List SOper := [
  ⟨(some 16), none, .mv (.tmp 9)⟩,
  ⟨(some 17), none, .un .not (.tmp 16)⟩,
  ⟨(some 18), none, .mv (.tmp 17)⟩,
  ⟨(some 19), (some (18, false)), .ldn 7 (.tmp 8)⟩,
  ⟨(some 20), (some (18, false)), .mv (.tmp 2)⟩,
  ⟨(some 21), (some (18, false)), .call 31 [(.tmp 19), (.tmp 20)]⟩,
  ⟨(some 22), none, .pick (.tmp 18) (.const (.bool true)) (.tmp 21)⟩]
def f12r3 : List SOper := [
  ⟨(some 23), none, .build [(.int .i64 0), (.string ⟨#[]⟩), (.slice none 0 0), (.slice none 0 0), (.slice none 0 0), (.bool false), (.int .i64 0)] [] []⟩,
  ⟨none, none, .st 7 (.tmp 6) (.tmp 23)⟩,
  ⟨(some 7), none, .mv (.const (.bool false))⟩]
def f12r4 : List SOper := [
  ⟨(some 24), none, .ldn 7 (.tmp 8)⟩,
  ⟨none, none, .st 7 (.tmp 6) (.tmp 24)⟩,
  ⟨(some 7), none, .mv (.const (.bool true))⟩]
def f12 : SCode := (.seq (.ops f12r0) (.seq (.ops f12r1) (.seq (.seq (.ops f12r2) (.cond (.tmp 22) (.seq (.ops f12r3) .ret) .skip)) (.seq (.ops f12r4) .ret))))
theorem f12_calls {args : List Value} {h : Heap} {R : Ending → Heap → Prop} (ha : args.length ≤ 25) (hs : swp Try.prog f12 (retQ [.cn 6 7, .t 7] R) (argEnv 0 args) [] h) : CallsH Try.prog 12 args h R :=
  calls_of_swp mixed Try.func12 rfl (by kernel_rfl) (by kernel_rfl) (by kernel_rfl) ha hs

/-! 13: tabor/keys.count -/
def f13r0 : List SOper := [
  ⟨(some 1), none, .box (.tmp 0)⟩,
  ⟨(some 2), none, .mv (.const (.int .i64 0))⟩]
def f13r1 : List SOper := [
  ⟨(some 3), none, .fa 2 (.tmp 1)⟩,
  ⟨(some 4), none, .ld1 (.tmp 3)⟩,
  ⟨(some 5), none, .len (.tmp 4)⟩,
  ⟨(some 6), none, .fa 3 (.tmp 1)⟩,
  ⟨(some 7), none, .ld1 (.tmp 6)⟩,
  ⟨(some 8), none, .len (.tmp 7)⟩,
  ⟨(some 9), none, .ar .add (.tmp 5) (.tmp 8)⟩,
  ⟨(some 10), none, .fa 4 (.tmp 1)⟩,
  ⟨(some 11), none, .ld1 (.tmp 10)⟩,
  ⟨(some 12), none, .len (.tmp 11)⟩,
  ⟨(some 13), none, .ar .add (.tmp 9) (.tmp 12)⟩,
  ⟨(some 2), none, .mv (.tmp 13)⟩]
def f13 : SCode := (.seq (.ops f13r0) (.seq (.ops f13r1) .ret))
theorem f13_calls {args : List Value} {h : Heap} {R : Ending → Heap → Prop} (ha : args.length ≤ 14) (hs : swp Try.prog f13 (retQ [.t 2] R) (argEnv 0 args) [] h) : CallsH Try.prog 13 args h R :=
  calls_of_swp mixed Try.func13 rfl (by kernel_rfl) (by kernel_rfl) (by kernel_rfl) ha hs

/-! 14: tabor/keys.short -/
def f14r0 : List SOper := [
  ⟨(some 2), none, .mv (.const (.bool false))⟩]
def f14r1 : List SOper := [
  ⟨(some 3), none, .mv (.tmp 0)⟩,
  ⟨(some 4), none, .call 32 [(.tmp 3), (.func 33)]⟩,
  ⟨(some 5), none, .un .not (.tmp 4)⟩,
  ⟨(some 2), none, .mv (.tmp 5)⟩]
def f14 : SCode := (.seq (.ops f14r0) (.seq (.ops f14r1) .ret))
theorem f14_calls {args : List Value} {h : Heap} {R : Ending → Heap → Prop} (ha : args.length ≤ 6) (hs : swp Try.prog f14 (retQ [.t 2] R) (argEnv 0 args) [] h) : CallsH Try.prog 14 args h R :=
  calls_of_swp mixed Try.func14 rfl (by kernel_rfl) (by kernel_rfl) (by kernel_rfl) ha hs

/-! 15: tabor/keys.names -/
def f15r0 : List SOper := [
  ⟨(some 1), none, .box (.tmp 0)⟩,
  ⟨(some 2), none, .mv (.const (.slice none 0 0))⟩]
def f15r1 : List SOper := [
  ⟨(some 3), none, .mv (.const (.slice none 0 0))⟩]
def f15r2 : List SOper := [
  ⟨(some 8), none, .fa 2 (.tmp 1)⟩,
  ⟨(some 9), none, .ld1 (.tmp 8)⟩,
  ⟨(some 10), none, .len (.tmp 9)⟩,
  ⟨(some 11), none, .mv (.const (.int .i64 0))⟩]
def f15r3 : List SOper := [
  ⟨(some 12), none, .cmp .lss (.tmp 11) (.tmp 10)⟩]
def f15r4 : List SOper := [
  ⟨(some 13), none, .ixs 2 (.tmp 9) (.tmp 11)⟩,
  ⟨(some 14), none, .ldn 2 (.tmp 13)⟩,
  ⟨(some 5), none, .new [(.string ⟨#[]⟩), (.string ⟨#[]⟩)]⟩,
  ⟨none, none, .st 2 (.tmp 5) (.tmp 14)⟩]
def f15r5 : List SOper := [
  ⟨(some 15), none, .mv (.tmp 3)⟩,
  ⟨(some 16), none, .fa 0 (.tmp 5)⟩,
  ⟨(some 17), none, .ld1 (.tmp 16)⟩,
  ⟨(some 18), none, .fa 1 (.tmp 5)⟩,
  ⟨(some 19), none, .ld1 (.tmp 18)⟩,
  ⟨(some 20), none, .bslice [(.string ⟨#[]⟩), (.string ⟨#[]⟩)] 2 [(0, 1), (1, 1)] [(.tmp 17), (.tmp 19)]⟩,
  ⟨(some 21), none, .app 1 16 [(.string ⟨#[]⟩)] (.tmp 15) (.tmp 20)⟩,
  ⟨(some 3), none, .mv (.tmp 21)⟩]
def f15r6 : List SOper := [
  ⟨(some 22), none, .ar .add (.tmp 11) (.const (.int .i64 1))⟩,
  ⟨(some 11), none, .mv (.tmp 22)⟩]
def f15l7 : SCode := (.seq (.ops f15r3) (.seq (.cond (.tmp 12) .skip (.exit 0)) (.seq (.block 1 (.seq (.ops f15r4) (.ops f15r5))) (.ops f15r6))))
def f15r8 : List SOper := [
  ⟨(some 23), none, .fa 4 (.tmp 1)⟩,
  ⟨(some 24), none, .ld1 (.tmp 23)⟩,
  ⟨(some 25), none, .len (.tmp 24)⟩,
  ⟨(some 26), none, .mv (.const (.int .i64 0))⟩]
def f15r9 : List SOper := [
  ⟨(some 27), none, .cmp .lss (.tmp 26) (.tmp 25)⟩]
def f15r10 : List SOper := [
  ⟨(some 28), none, .ixs 2 (.tmp 24) (.tmp 26)⟩,
  ⟨(some 29), none, .ldn 2 (.tmp 28)⟩,
  ⟨(some 7), none, .new [(.string ⟨#[]⟩), (.int .i64 0)]⟩,
  ⟨none, none, .st 2 (.tmp 7) (.tmp 29)⟩]
def f15r11 : List SOper := [
  ⟨(some 30), none, .mv (.tmp 3)⟩,
  ⟨(some 31), none, .fa 0 (.tmp 7)⟩,
  ⟨(some 32), none, .ld1 (.tmp 31)⟩,
  ⟨(some 33), none, .bslice [(.string ⟨#[]⟩)] 1 [(0, 1)] [(.tmp 32)]⟩,
  ⟨(some 34), none, .app 1 16 [(.string ⟨#[]⟩)] (.tmp 30) (.tmp 33)⟩,
  ⟨(some 3), none, .mv (.tmp 34)⟩]
def f15r12 : List SOper := [
  ⟨(some 35), none, .ar .add (.tmp 26) (.const (.int .i64 1))⟩,
  ⟨(some 26), none, .mv (.tmp 35)⟩]
def f15l13 : SCode := (.seq (.ops f15r9) (.seq (.cond (.tmp 27) .skip (.exit 2)) (.seq (.block 3 (.seq (.ops f15r10) (.ops f15r11))) (.ops f15r12))))
def f15r14 : List SOper := [
  ⟨(some 36), none, .mv (.tmp 3)⟩,
  ⟨(some 2), none, .mv (.tmp 36)⟩]
def f15 : SCode := (.seq (.ops f15r0) (.seq (.ops f15r1) (.seq (.seq (.ops f15r2) (.block 0 (.loop f15l7))) (.seq (.seq (.ops f15r8) (.block 2 (.loop f15l13))) (.seq (.ops f15r14) .ret)))))
theorem f15_calls {args : List Value} {h : Heap} {R : Ending → Heap → Prop} (ha : args.length ≤ 37) (hs : swp Try.prog f15 (retQ [.t 2] R) (argEnv 0 args) [] h) : CallsH Try.prog 15 args h R :=
  calls_of_swp mixed Try.func15 rfl (by kernel_rfl) (by kernel_rfl) (by kernel_rfl) ha hs

/-! 16: tabor/keys.rising[tabor/api.Pair] -/
def f16r0 : List SOper := [
  ⟨(some 4), none, .mv (.const (.bool false))⟩]
def f16r1 : List SOper := [
  ⟨(some 5), none, .mv (.const (.int .i64 1))⟩]
def f16r2 : List SOper := [
  ⟨(some 6), none, .mv (.tmp 5)⟩,
  ⟨(some 7), none, .mv (.tmp 0)⟩,
  ⟨(some 8), none, .len (.tmp 7)⟩,
  ⟨(some 9), none, .cmp .lss (.tmp 6) (.tmp 8)⟩]
def f16r3 : List SOper := [
  ⟨(some 12), none, .mv (.tmp 1)⟩,
  ⟨(some 13), none, .mv (.tmp 0)⟩,
  ⟨(some 14), none, .mv (.tmp 5)⟩,
  ⟨(some 15), none, .ar .sub (.tmp 14) (.const (.int .i64 1))⟩,
  ⟨(some 16), none, .ixs 2 (.tmp 13) (.tmp 15)⟩,
  ⟨(some 17), none, .ldn 2 (.tmp 16)⟩,
  ⟨(some 18), none, .mv (.tmp 0)⟩,
  ⟨(some 19), none, .mv (.tmp 5)⟩,
  ⟨(some 20), none, .ixs 2 (.tmp 18) (.tmp 19)⟩,
  ⟨(some 21), none, .ldn 2 (.tmp 20)⟩,
  ⟨(some 22), none, .callv (.tmp 12) [(.tmp 17), (.tmp 21)]⟩,
  ⟨(some 23), none, .cmp .geq (.tmp 22) (.const (.int .i64 0))⟩]
def f16r4 : List SOper := [
  ⟨(some 4), none, .mv (.const (.bool false))⟩]
def f16r5 : List SOper := [
  ⟨(some 10), none, .mv (.tmp 5)⟩,
  ⟨(some 11), none, .ar .add (.tmp 10) (.const (.int .i64 1))⟩,
  ⟨(some 5), none, .mv (.tmp 11)⟩]
def f16l6 : SCode := (.seq (.seq (.ops f16r2) (.cond (.tmp 9) .skip (.exit 0))) (.seq (.block 1 (.seq (.ops f16r3) (.cond (.tmp 23) (.seq (.ops f16r4) .ret) .skip))) (.ops f16r5)))
def f16r7 : List SOper := [
  ⟨(some 4), none, .mv (.const (.bool true))⟩]
def f16 : SCode := (.seq (.ops f16r0) (.seq (.seq (.ops f16r1) (.block 0 (.loop f16l6))) (.seq (.ops f16r7) .ret)))
theorem f16_calls {args : List Value} {h : Heap} {R : Ending → Heap → Prop} (ha : args.length ≤ 24) (hs : swp Try.prog f16 (retQ [.t 4] R) (argEnv 0 args) [] h) : CallsH Try.prog 16 args h R :=
  calls_of_swp mixed Try.func16 rfl (by kernel_rfl) (by kernel_rfl) (by kernel_rfl) ha hs

/-! 17: tabor/keys.Check$1 -/
def f17r0 : List SOper := [
  ⟨(some 2), none, .box (.tmp 0)⟩,
  ⟨(some 3), none, .box (.tmp 1)⟩,
  ⟨(some 4), none, .mv (.const (.int .i64 0))⟩]
def f17r1 : List SOper := [
  ⟨(some 5), none, .fa 0 (.tmp 2)⟩,
  ⟨(some 6), none, .ld1 (.tmp 5)⟩,
  ⟨(some 7), none, .fa 0 (.tmp 3)⟩,
  ⟨(some 8), none, .ld1 (.tmp 7)⟩,
  ⟨(some 9), none, .call 18 [(.tmp 6), (.tmp 8)]⟩,
  ⟨(some 4), none, .mv (.tmp 9)⟩]
def f17 : SCode := (.seq (.ops f17r0) (.seq (.ops f17r1) .ret))
theorem f17_calls {args : List Value} {h : Heap} {R : Ending → Heap → Prop} (ha : args.length ≤ 10) (hs : swp Try.prog f17 (retQ [.t 4] R) (argEnv 0 args) [] h) : CallsH Try.prog 17 args h R :=
  calls_of_swp mixed Try.func17 rfl (by kernel_rfl) (by kernel_rfl) (by kernel_rfl) ha hs

/-! 18: strings.Compare -/
def f18r0 : List SOper := [
  ⟨(some 4), none, .mv (.const (.int .i64 0))⟩]
def f18r1 : List SOper := [
  ⟨(some 5), none, .mv (.tmp 0)⟩,
  ⟨(some 6), none, .mv (.tmp 1)⟩,
  ⟨(some 7), none, .call 34 [(.tmp 5), (.tmp 6)]⟩,
  ⟨(some 4), none, .mv (.tmp 7)⟩]
def f18 : SCode := (.seq (.ops f18r0) (.seq (.ops f18r1) .ret))
theorem f18_calls {args : List Value} {h : Heap} {R : Ending → Heap → Prop} (ha : args.length ≤ 8) (hs : swp Try.prog f18 (retQ [.t 4] R) (argEnv 0 args) [] h) : CallsH Try.prog 18 args h R :=
  calls_of_swp mixed Try.func18 rfl (by kernel_rfl) (by kernel_rfl) (by kernel_rfl) ha hs

/-! 19: tabor/keys.rising[string] -/
def f19r0 : List SOper := [
  ⟨(some 4), none, .mv (.const (.bool false))⟩]
def f19r1 : List SOper := [
  ⟨(some 5), none, .mv (.const (.int .i64 1))⟩]
def f19r2 : List SOper := [
  ⟨(some 6), none, .mv (.tmp 5)⟩,
  ⟨(some 7), none, .mv (.tmp 0)⟩,
  ⟨(some 8), none, .len (.tmp 7)⟩,
  ⟨(some 9), none, .cmp .lss (.tmp 6) (.tmp 8)⟩]
def f19r3 : List SOper := [
  ⟨(some 12), none, .mv (.tmp 1)⟩,
  ⟨(some 13), none, .mv (.tmp 0)⟩,
  ⟨(some 14), none, .mv (.tmp 5)⟩,
  ⟨(some 15), none, .ar .sub (.tmp 14) (.const (.int .i64 1))⟩,
  ⟨(some 16), none, .ixs 1 (.tmp 13) (.tmp 15)⟩,
  ⟨(some 17), none, .ld1 (.tmp 16)⟩,
  ⟨(some 18), none, .mv (.tmp 0)⟩,
  ⟨(some 19), none, .mv (.tmp 5)⟩,
  ⟨(some 20), none, .ixs 1 (.tmp 18) (.tmp 19)⟩,
  ⟨(some 21), none, .ld1 (.tmp 20)⟩,
  ⟨(some 22), none, .callv (.tmp 12) [(.tmp 17), (.tmp 21)]⟩,
  ⟨(some 23), none, .cmp .geq (.tmp 22) (.const (.int .i64 0))⟩]
def f19r4 : List SOper := [
  ⟨(some 4), none, .mv (.const (.bool false))⟩]
def f19r5 : List SOper := [
  ⟨(some 10), none, .mv (.tmp 5)⟩,
  ⟨(some 11), none, .ar .add (.tmp 10) (.const (.int .i64 1))⟩,
  ⟨(some 5), none, .mv (.tmp 11)⟩]
def f19l6 : SCode := (.seq (.seq (.ops f19r2) (.cond (.tmp 9) .skip (.exit 0))) (.seq (.block 1 (.seq (.ops f19r3) (.cond (.tmp 23) (.seq (.ops f19r4) .ret) .skip))) (.ops f19r5)))
def f19r7 : List SOper := [
  ⟨(some 4), none, .mv (.const (.bool true))⟩]
def f19 : SCode := (.seq (.ops f19r0) (.seq (.seq (.ops f19r1) (.block 0 (.loop f19l6))) (.seq (.ops f19r7) .ret)))
theorem f19_calls {args : List Value} {h : Heap} {R : Ending → Heap → Prop} (ha : args.length ≤ 24) (hs : swp Try.prog f19 (retQ [.t 4] R) (argEnv 0 args) [] h) : CallsH Try.prog 19 args h R :=
  calls_of_swp mixed Try.func19 rfl (by kernel_rfl) (by kernel_rfl) (by kernel_rfl) ha hs

/-! 20: tabor/keys.rising[tabor/api.Rank] -/
def f20r0 : List SOper := [
  ⟨(some 4), none, .mv (.const (.bool false))⟩]
def f20r1 : List SOper := [
  ⟨(some 5), none, .mv (.const (.int .i64 1))⟩]
def f20r2 : List SOper := [
  ⟨(some 6), none, .mv (.tmp 5)⟩,
  ⟨(some 7), none, .mv (.tmp 0)⟩,
  ⟨(some 8), none, .len (.tmp 7)⟩,
  ⟨(some 9), none, .cmp .lss (.tmp 6) (.tmp 8)⟩]
def f20r3 : List SOper := [
  ⟨(some 12), none, .mv (.tmp 1)⟩,
  ⟨(some 13), none, .mv (.tmp 0)⟩,
  ⟨(some 14), none, .mv (.tmp 5)⟩,
  ⟨(some 15), none, .ar .sub (.tmp 14) (.const (.int .i64 1))⟩,
  ⟨(some 16), none, .ixs 2 (.tmp 13) (.tmp 15)⟩,
  ⟨(some 17), none, .ldn 2 (.tmp 16)⟩,
  ⟨(some 18), none, .mv (.tmp 0)⟩,
  ⟨(some 19), none, .mv (.tmp 5)⟩,
  ⟨(some 20), none, .ixs 2 (.tmp 18) (.tmp 19)⟩,
  ⟨(some 21), none, .ldn 2 (.tmp 20)⟩,
  ⟨(some 22), none, .callv (.tmp 12) [(.tmp 17), (.tmp 21)]⟩,
  ⟨(some 23), none, .cmp .geq (.tmp 22) (.const (.int .i64 0))⟩]
def f20r4 : List SOper := [
  ⟨(some 4), none, .mv (.const (.bool false))⟩]
def f20r5 : List SOper := [
  ⟨(some 10), none, .mv (.tmp 5)⟩,
  ⟨(some 11), none, .ar .add (.tmp 10) (.const (.int .i64 1))⟩,
  ⟨(some 5), none, .mv (.tmp 11)⟩]
def f20l6 : SCode := (.seq (.seq (.ops f20r2) (.cond (.tmp 9) .skip (.exit 0))) (.seq (.block 1 (.seq (.ops f20r3) (.cond (.tmp 23) (.seq (.ops f20r4) .ret) .skip))) (.ops f20r5)))
def f20r7 : List SOper := [
  ⟨(some 4), none, .mv (.const (.bool true))⟩]
def f20 : SCode := (.seq (.ops f20r0) (.seq (.seq (.ops f20r1) (.block 0 (.loop f20l6))) (.seq (.ops f20r7) .ret)))
theorem f20_calls {args : List Value} {h : Heap} {R : Ending → Heap → Prop} (ha : args.length ≤ 24) (hs : swp Try.prog f20 (retQ [.t 4] R) (argEnv 0 args) [] h) : CallsH Try.prog 20 args h R :=
  calls_of_swp mixed Try.func20 rfl (by kernel_rfl) (by kernel_rfl) (by kernel_rfl) ha hs

/-! 21: tabor/keys.ahead -/
def f21r0 : List SOper := [
  ⟨(some 2), none, .box (.tmp 0)⟩,
  ⟨(some 3), none, .box (.tmp 1)⟩,
  ⟨(some 4), none, .mv (.const (.int .i64 0))⟩]
def f21r1 : List SOper := [
  ⟨(some 6), none, .fa 1 (.tmp 2)⟩,
  ⟨(some 7), none, .ld1 (.tmp 6)⟩,
  ⟨(some 8), none, .fa 1 (.tmp 3)⟩,
  ⟨(some 9), none, .ld1 (.tmp 8)⟩,
  ⟨(some 10), none, .cmp .lss (.tmp 7) (.tmp 9)⟩,
  ⟨(some 5), none, .mv (.tmp 10)⟩]
def f21r2 : List SOper := [
  ⟨(some 4), none, .mv (.const (.int .i64 (-1)))⟩]
def f21r3 : List SOper := [
  ⟨(some 12), none, .fa 1 (.tmp 2)⟩,
  ⟨(some 13), none, .ld1 (.tmp 12)⟩,
  ⟨(some 14), none, .fa 1 (.tmp 3)⟩,
  ⟨(some 15), none, .ld1 (.tmp 14)⟩,
  ⟨(some 16), none, .cmp .gtr (.tmp 13) (.tmp 15)⟩,
  ⟨(some 11), none, .mv (.tmp 16)⟩]
def f21r4 : List SOper := [
  ⟨(some 4), none, .mv (.const (.int .i64 1))⟩]
def f21r5 : List SOper := [
  ⟨(some 17), none, .fa 0 (.tmp 2)⟩,
  ⟨(some 18), none, .ld1 (.tmp 17)⟩,
  ⟨(some 19), none, .fa 0 (.tmp 3)⟩,
  ⟨(some 20), none, .ld1 (.tmp 19)⟩,
  ⟨(some 21), none, .call 18 [(.tmp 18), (.tmp 20)]⟩,
  ⟨(some 4), none, .mv (.tmp 21)⟩]
def f21 : SCode := (.seq (.ops f21r0) (.seq (.block 0 (.seq (.ops f21r1) (.cond (.tmp 5) (.seq (.ops f21r2) .ret) (.seq (.ops f21r3) (.cond (.tmp 11) (.seq (.ops f21r4) .ret) .skip))))) (.seq (.ops f21r5) .ret)))
theorem f21_calls {args : List Value} {h : Heap} {R : Ending → Heap → Prop} (ha : args.length ≤ 22) (hs : swp Try.prog f21 (retQ [.t 4] R) (argEnv 0 args) [] h) : CallsH Try.prog 21 args h R :=
  calls_of_swp mixed Try.func21 rfl (by kernel_rfl) (by kernel_rfl) (by kernel_rfl) ha hs

/-! 22: tabor/keys.once -/
def f22r0 : List SOper := [
  ⟨(some 2), none, .mv (.const (.bool false))⟩]
def f22r1 : List SOper := [
  ⟨(some 6), none, .mkm⟩,
  ⟨(some 3), none, .mv (.tmp 6)⟩]
def f22r2 : List SOper := [
  ⟨(some 7), none, .mv (.tmp 0)⟩,
  ⟨(some 8), none, .len (.tmp 7)⟩,
  ⟨(some 9), none, .mv (.const (.int .i64 0))⟩]
def f22r3 : List SOper := [
  ⟨(some 10), none, .cmp .lss (.tmp 9) (.tmp 8)⟩]
def f22r4 : List SOper := [
  ⟨(some 11), none, .ixs 2 (.tmp 7) (.tmp 9)⟩,
  ⟨(some 12), none, .ldn 2 (.tmp 11)⟩,
  ⟨(some 5), none, .new [(.string ⟨#[]⟩), (.int .i64 0)]⟩,
  ⟨none, none, .st 2 (.tmp 5) (.tmp 12)⟩]
def f22r5 : List SOper := [
  ⟨(some 13), none, .mv (.tmp 3)⟩,
  ⟨(some 14), none, .fa 0 (.tmp 5)⟩,
  ⟨(some 15), none, .ld1 (.tmp 14)⟩,
  ⟨(some 16), none, .look .str (.int .i64 0) false (.tmp 13) (.tmp 15)⟩,
  ⟨(some 17), none, .ar .add (.tmp 16) (.const (.int .i64 1))⟩,
  ⟨none, none, .mup .str (.tmp 13) (.tmp 15) (.tmp 17)⟩]
def f22r6 : List SOper := [
  ⟨(some 18), none, .ar .add (.tmp 9) (.const (.int .i64 1))⟩,
  ⟨(some 9), none, .mv (.tmp 18)⟩]
def f22l7 : SCode := (.seq (.ops f22r3) (.seq (.cond (.tmp 10) .skip (.exit 0)) (.seq (.block 1 (.seq (.ops f22r4) (.ops f22r5))) (.ops f22r6))))
def f22r8 : List SOper := [
  ⟨(some 19), none, .mv (.tmp 3)⟩,
  ⟨(some 20), none, .lenm (.tmp 19)⟩,
  ⟨(some 21), none, .mv (.tmp 0)⟩,
  ⟨(some 22), none, .len (.tmp 21)⟩,
  ⟨(some 23), none, .cmp .eql (.tmp 20) (.tmp 22)⟩,
  ⟨(some 2), none, .mv (.tmp 23)⟩]
def f22 : SCode := (.seq (.ops f22r0) (.seq (.ops f22r1) (.seq (.seq (.ops f22r2) (.block 0 (.loop f22l7))) (.seq (.ops f22r8) .ret))))
theorem f22_calls {args : List Value} {h : Heap} {R : Ending → Heap → Prop} (ha : args.length ≤ 24) (hs : swp Try.prog f22 (retQ [.t 2] R) (argEnv 0 args) [] h) : CallsH Try.prog 22 args h R :=
  calls_of_swp mixed Try.func22 rfl (by kernel_rfl) (by kernel_rfl) (by kernel_rfl) ha hs

/-! 23: tabor/taborref07.Less -/
def f23r0 : List SOper := [
  ⟨(some 4), none, .mv (.const (.bool false))⟩]
def f23r1 : List SOper := [
  ⟨(some 5), none, .mv (.const (.int .i64 0))⟩]
def f23r2 : List SOper := [
  ⟨(some 6), none, .mv (.tmp 5)⟩,
  ⟨(some 7), none, .mv (.tmp 0)⟩,
  ⟨(some 8), none, .lens (.tmp 7)⟩,
  ⟨(some 9), none, .cmp .lss (.tmp 6) (.tmp 8)⟩,
  ⟨(some 10), none, .mv (.tmp 9)⟩,
  ⟨(some 11), (some (10, true)), .mv (.tmp 5)⟩,
  ⟨(some 12), (some (10, true)), .mv (.tmp 1)⟩,
  ⟨(some 13), (some (10, true)), .lens (.tmp 12)⟩,
  ⟨(some 14), (some (10, true)), .cmp .lss (.tmp 11) (.tmp 13)⟩,
  ⟨(some 15), none, .pick (.tmp 10) (.tmp 14) (.const (.bool false))⟩]
def f23r3 : List SOper := [
  ⟨(some 18), none, .mv (.tmp 0)⟩,
  ⟨(some 19), none, .mv (.tmp 5)⟩,
  ⟨(some 20), none, .ixc (.tmp 18) (.tmp 19)⟩,
  ⟨(some 21), none, .mv (.tmp 1)⟩,
  ⟨(some 22), none, .mv (.tmp 5)⟩,
  ⟨(some 23), none, .ixc (.tmp 21) (.tmp 22)⟩,
  ⟨(some 24), none, .cmp .neq (.tmp 20) (.tmp 23)⟩]
def f23r4 : List SOper := [
  ⟨(some 25), none, .mv (.tmp 0)⟩,
  ⟨(some 26), none, .mv (.tmp 5)⟩,
  ⟨(some 27), none, .ixc (.tmp 25) (.tmp 26)⟩,
  ⟨(some 28), none, .mv (.tmp 1)⟩,
  ⟨(some 29), none, .mv (.tmp 5)⟩,
  ⟨(some 30), none, .ixc (.tmp 28) (.tmp 29)⟩,
  ⟨(some 31), none, .cmp .lss (.tmp 27) (.tmp 30)⟩,
  ⟨(some 4), none, .mv (.tmp 31)⟩]
def f23r5 : List SOper := [
  ⟨(some 16), none, .mv (.tmp 5)⟩,
  ⟨(some 17), none, .ar .add (.tmp 16) (.const (.int .i64 1))⟩,
  ⟨(some 5), none, .mv (.tmp 17)⟩]
def f23l6 : SCode := (.seq (.seq (.ops f23r2) (.cond (.tmp 15) .skip (.exit 0))) (.seq (.block 1 (.seq (.ops f23r3) (.cond (.tmp 24) (.seq (.ops f23r4) .ret) .skip))) (.ops f23r5)))
def f23r7 : List SOper := [
  ⟨(some 32), none, .mv (.tmp 0)⟩,
  ⟨(some 33), none, .lens (.tmp 32)⟩,
  ⟨(some 34), none, .mv (.tmp 1)⟩,
  ⟨(some 35), none, .lens (.tmp 34)⟩,
  ⟨(some 36), none, .cmp .lss (.tmp 33) (.tmp 35)⟩,
  ⟨(some 4), none, .mv (.tmp 36)⟩]
def f23 : SCode := (.seq (.ops f23r0) (.seq (.seq (.ops f23r1) (.block 0 (.loop f23l6))) (.seq (.ops f23r7) .ret)))
theorem f23_calls {args : List Value} {h : Heap} {R : Ending → Heap → Prop} (ha : args.length ≤ 37) (hs : swp Try.prog f23 (retQ [.t 4] R) (argEnv 0 args) [] h) : CallsH Try.prog 23 args h R :=
  calls_of_swp mixed Try.func23 rfl (by kernel_rfl) (by kernel_rfl) (by kernel_rfl) ha hs

/-! 24: tabor/taborref07.Ahead -/
def f24r0 : List SOper := [
  ⟨(some 2), none, .box (.tmp 0)⟩,
  ⟨(some 3), none, .box (.tmp 1)⟩,
  ⟨(some 4), none, .mv (.const (.bool false))⟩]
def f24r1 : List SOper := [
  ⟨(some 5), none, .fa 1 (.tmp 2)⟩,
  ⟨(some 6), none, .ld1 (.tmp 5)⟩,
  ⟨(some 7), none, .fa 1 (.tmp 3)⟩,
  ⟨(some 8), none, .ld1 (.tmp 7)⟩,
  ⟨(some 9), none, .cmp .lss (.tmp 6) (.tmp 8)⟩,
  ⟨(some 10), none, .mv (.tmp 9)⟩,
  ⟨(some 11), (some (10, false)), .fa 1 (.tmp 2)⟩,
  ⟨(some 12), (some (10, false)), .ld1 (.tmp 11)⟩,
  ⟨(some 13), (some (10, false)), .fa 1 (.tmp 3)⟩,
  ⟨(some 14), (some (10, false)), .ld1 (.tmp 13)⟩,
  ⟨(some 15), (some (10, false)), .cmp .eql (.tmp 12) (.tmp 14)⟩,
  ⟨(some 16), (some (10, false)), .mv (.tmp 15)⟩,
  ⟨(some 17), (some (16, true)), .fa 0 (.tmp 2)⟩,
  ⟨(some 18), (some (16, true)), .ld1 (.tmp 17)⟩,
  ⟨(some 19), (some (16, true)), .fa 0 (.tmp 3)⟩,
  ⟨(some 20), (some (16, true)), .ld1 (.tmp 19)⟩,
  ⟨(some 21), (some (16, true)), .call 23 [(.tmp 18), (.tmp 20)]⟩,
  ⟨(some 22), (some (10, false)), .pick (.tmp 16) (.tmp 21) (.const (.bool false))⟩,
  ⟨(some 23), none, .pick (.tmp 10) (.const (.bool true)) (.tmp 22)⟩,
  ⟨(some 4), none, .mv (.tmp 23)⟩]
def f24 : SCode := (.seq (.ops f24r0) (.seq (.ops f24r1) .ret))
theorem f24_calls {args : List Value} {h : Heap} {R : Ending → Heap → Prop} (ha : args.length ≤ 24) (hs : swp Try.prog f24 (retQ [.t 4] R) (argEnv 0 args) [] h) : CallsH Try.prog 24 args h R :=
  calls_of_swp mixed Try.func24 rfl (by kernel_rfl) (by kernel_rfl) (by kernel_rfl) ha hs

/-! 25: slices.Equal[[]tabor/api.Pair,tabor/api.Pair] -/
def f25r0 : List SOper := [
  ⟨(some 4), none, .mv (.const (.bool false))⟩]
def f25r1 : List SOper := [
  ⟨(some 6), none, .mv (.tmp 0)⟩,
  ⟨(some 7), none, .len (.tmp 6)⟩,
  ⟨(some 8), none, .mv (.tmp 1)⟩,
  ⟨(some 9), none, .len (.tmp 8)⟩,
  ⟨(some 10), none, .cmp .neq (.tmp 7) (.tmp 9)⟩]
def f25r2 : List SOper := [
  ⟨(some 4), none, .mv (.const (.bool false))⟩]
def f25r3 : List SOper := [
  ⟨(some 11), none, .mv (.tmp 0)⟩,
  ⟨(some 12), none, .len (.tmp 11)⟩,
  ⟨(some 13), none, .mv (.const (.int .i64 0))⟩]
def f25r4 : List SOper := [
  ⟨(some 14), none, .cmp .lss (.tmp 13) (.tmp 12)⟩]
def f25r5 : List SOper := [
  ⟨(some 15), none, .mv (.tmp 13)⟩,
  ⟨(some 5), none, .mv (.tmp 15)⟩]
def f25r6 : List SOper := [
  ⟨(some 16), none, .mv (.tmp 0)⟩,
  ⟨(some 17), none, .mv (.tmp 5)⟩,
  ⟨(some 18), none, .ixs 2 (.tmp 16) (.tmp 17)⟩,
  ⟨(some 19), none, .ldn 2 (.tmp 18)⟩,
  ⟨(some 20), none, .mv (.tmp 1)⟩,
  ⟨(some 21), none, .mv (.tmp 5)⟩,
  ⟨(some 22), none, .ixs 2 (.tmp 20) (.tmp 21)⟩,
  ⟨(some 23), none, .ldn 2 (.tmp 22)⟩,
  ⟨(some 24), none, .eqa true [.str, .str] (.tmp 19) (.tmp 23)⟩]
def f25r7 : List SOper := [
  ⟨(some 4), none, .mv (.const (.bool false))⟩]
def f25r8 : List SOper := [
  ⟨(some 25), none, .ar .add (.tmp 13) (.const (.int .i64 1))⟩,
  ⟨(some 13), none, .mv (.tmp 25)⟩]
def f25l9 : SCode := (.seq (.ops f25r4) (.seq (.cond (.tmp 14) .skip (.exit 0)) (.seq (.block 1 (.seq (.ops f25r5) (.seq (.ops f25r6) (.cond (.tmp 24) (.seq (.ops f25r7) .ret) .skip)))) (.ops f25r8))))
def f25r10 : List SOper := [
  ⟨(some 4), none, .mv (.const (.bool true))⟩]
def f25 : SCode := (.seq (.ops f25r0) (.seq (.seq (.ops f25r1) (.cond (.tmp 10) (.seq (.ops f25r2) .ret) .skip)) (.seq (.seq (.ops f25r3) (.block 0 (.loop f25l9))) (.seq (.ops f25r10) .ret))))
theorem f25_calls {args : List Value} {h : Heap} {R : Ending → Heap → Prop} (ha : args.length ≤ 26) (hs : swp Try.prog f25 (retQ [.t 4] R) (argEnv 0 args) [] h) : CallsH Try.prog 25 args h R :=
  calls_of_swp mixed Try.func25 rfl (by kernel_rfl) (by kernel_rfl) (by kernel_rfl) ha hs

/-! 26: slices.Equal[[]string,string] -/
def f26r0 : List SOper := [
  ⟨(some 4), none, .mv (.const (.bool false))⟩]
def f26r1 : List SOper := [
  ⟨(some 6), none, .mv (.tmp 0)⟩,
  ⟨(some 7), none, .len (.tmp 6)⟩,
  ⟨(some 8), none, .mv (.tmp 1)⟩,
  ⟨(some 9), none, .len (.tmp 8)⟩,
  ⟨(some 10), none, .cmp .neq (.tmp 7) (.tmp 9)⟩]
def f26r2 : List SOper := [
  ⟨(some 4), none, .mv (.const (.bool false))⟩]
def f26r3 : List SOper := [
  ⟨(some 11), none, .mv (.tmp 0)⟩,
  ⟨(some 12), none, .len (.tmp 11)⟩,
  ⟨(some 13), none, .mv (.const (.int .i64 0))⟩]
def f26r4 : List SOper := [
  ⟨(some 14), none, .cmp .lss (.tmp 13) (.tmp 12)⟩]
def f26r5 : List SOper := [
  ⟨(some 15), none, .mv (.tmp 13)⟩,
  ⟨(some 5), none, .mv (.tmp 15)⟩]
def f26r6 : List SOper := [
  ⟨(some 16), none, .mv (.tmp 0)⟩,
  ⟨(some 17), none, .mv (.tmp 5)⟩,
  ⟨(some 18), none, .ixs 1 (.tmp 16) (.tmp 17)⟩,
  ⟨(some 19), none, .ld1 (.tmp 18)⟩,
  ⟨(some 20), none, .mv (.tmp 1)⟩,
  ⟨(some 21), none, .mv (.tmp 5)⟩,
  ⟨(some 22), none, .ixs 1 (.tmp 20) (.tmp 21)⟩,
  ⟨(some 23), none, .ld1 (.tmp 22)⟩,
  ⟨(some 24), none, .cmp .neq (.tmp 19) (.tmp 23)⟩]
def f26r7 : List SOper := [
  ⟨(some 4), none, .mv (.const (.bool false))⟩]
def f26r8 : List SOper := [
  ⟨(some 25), none, .ar .add (.tmp 13) (.const (.int .i64 1))⟩,
  ⟨(some 13), none, .mv (.tmp 25)⟩]
def f26l9 : SCode := (.seq (.ops f26r4) (.seq (.cond (.tmp 14) .skip (.exit 0)) (.seq (.block 1 (.seq (.ops f26r5) (.seq (.ops f26r6) (.cond (.tmp 24) (.seq (.ops f26r7) .ret) .skip)))) (.ops f26r8))))
def f26r10 : List SOper := [
  ⟨(some 4), none, .mv (.const (.bool true))⟩]
def f26 : SCode := (.seq (.ops f26r0) (.seq (.seq (.ops f26r1) (.cond (.tmp 10) (.seq (.ops f26r2) .ret) .skip)) (.seq (.seq (.ops f26r3) (.block 0 (.loop f26l9))) (.seq (.ops f26r10) .ret))))
theorem f26_calls {args : List Value} {h : Heap} {R : Ending → Heap → Prop} (ha : args.length ≤ 26) (hs : swp Try.prog f26 (retQ [.t 4] R) (argEnv 0 args) [] h) : CallsH Try.prog 26 args h R :=
  calls_of_swp mixed Try.func26 rfl (by kernel_rfl) (by kernel_rfl) (by kernel_rfl) ha hs

/-! 27: slices.Equal[[]tabor/api.Rank,tabor/api.Rank] -/
def f27r0 : List SOper := [
  ⟨(some 4), none, .mv (.const (.bool false))⟩]
def f27r1 : List SOper := [
  ⟨(some 6), none, .mv (.tmp 0)⟩,
  ⟨(some 7), none, .len (.tmp 6)⟩,
  ⟨(some 8), none, .mv (.tmp 1)⟩,
  ⟨(some 9), none, .len (.tmp 8)⟩,
  ⟨(some 10), none, .cmp .neq (.tmp 7) (.tmp 9)⟩]
def f27r2 : List SOper := [
  ⟨(some 4), none, .mv (.const (.bool false))⟩]
def f27r3 : List SOper := [
  ⟨(some 11), none, .mv (.tmp 0)⟩,
  ⟨(some 12), none, .len (.tmp 11)⟩,
  ⟨(some 13), none, .mv (.const (.int .i64 0))⟩]
def f27r4 : List SOper := [
  ⟨(some 14), none, .cmp .lss (.tmp 13) (.tmp 12)⟩]
def f27r5 : List SOper := [
  ⟨(some 15), none, .mv (.tmp 13)⟩,
  ⟨(some 5), none, .mv (.tmp 15)⟩]
def f27r6 : List SOper := [
  ⟨(some 16), none, .mv (.tmp 0)⟩,
  ⟨(some 17), none, .mv (.tmp 5)⟩,
  ⟨(some 18), none, .ixs 2 (.tmp 16) (.tmp 17)⟩,
  ⟨(some 19), none, .ldn 2 (.tmp 18)⟩,
  ⟨(some 20), none, .mv (.tmp 1)⟩,
  ⟨(some 21), none, .mv (.tmp 5)⟩,
  ⟨(some 22), none, .ixs 2 (.tmp 20) (.tmp 21)⟩,
  ⟨(some 23), none, .ldn 2 (.tmp 22)⟩,
  ⟨(some 24), none, .eqa true [.str, (.int .i64)] (.tmp 19) (.tmp 23)⟩]
def f27r7 : List SOper := [
  ⟨(some 4), none, .mv (.const (.bool false))⟩]
def f27r8 : List SOper := [
  ⟨(some 25), none, .ar .add (.tmp 13) (.const (.int .i64 1))⟩,
  ⟨(some 13), none, .mv (.tmp 25)⟩]
def f27l9 : SCode := (.seq (.ops f27r4) (.seq (.cond (.tmp 14) .skip (.exit 0)) (.seq (.block 1 (.seq (.ops f27r5) (.seq (.ops f27r6) (.cond (.tmp 24) (.seq (.ops f27r7) .ret) .skip)))) (.ops f27r8))))
def f27r10 : List SOper := [
  ⟨(some 4), none, .mv (.const (.bool true))⟩]
def f27 : SCode := (.seq (.ops f27r0) (.seq (.seq (.ops f27r1) (.cond (.tmp 10) (.seq (.ops f27r2) .ret) .skip)) (.seq (.seq (.ops f27r3) (.block 0 (.loop f27l9))) (.seq (.ops f27r10) .ret))))
theorem f27_calls {args : List Value} {h : Heap} {R : Ending → Heap → Prop} (ha : args.length ≤ 26) (hs : swp Try.prog f27 (retQ [.t 4] R) (argEnv 0 args) [] h) : CallsH Try.prog 27 args h R :=
  calls_of_swp mixed Try.func27 rfl (by kernel_rfl) (by kernel_rfl) (by kernel_rfl) ha hs

/-! 28: (*tabor/keys.Keys).none -/
def f28r0 : List SOper := [
  ⟨(some 2), none, .mv (.const (.bool false))⟩]
def f28r1 : List SOper := [
  ⟨(some 3), none, .mv (.tmp 0)⟩,
  ⟨(some 4), none, .eqn 0 false (.tmp 3)⟩,
  ⟨(some 5), none, .mv (.tmp 4)⟩,
  ⟨(some 6), (some (5, false)), .mv (.tmp 0)⟩,
  ⟨(some 7), (some (5, false)), .nilck (.tmp 6)⟩,
  ⟨(some 8), (some (5, false)), .fa 0 (.tmp 7)⟩,
  ⟨(some 9), (some (5, false)), .ld1 (.tmp 8)⟩,
  ⟨(some 10), (some (5, false)), .eqn 0 false (.tmp 9)⟩,
  ⟨(some 11), none, .pick (.tmp 5) (.const (.bool true)) (.tmp 10)⟩,
  ⟨(some 2), none, .mv (.tmp 11)⟩]
def f28 : SCode := (.seq (.ops f28r0) (.seq (.ops f28r1) .ret))
theorem f28_calls {args : List Value} {h : Heap} {R : Ending → Heap → Prop} (ha : args.length ≤ 12) (hs : swp Try.prog f28 (retQ [.t 2] R) (argEnv 0 args) [] h) : CallsH Try.prog 28 args h R :=
  calls_of_swp mixed Try.func28 rfl (by kernel_rfl) (by kernel_rfl) (by kernel_rfl) ha hs

/-! 29: (*tabor/keys.Keys).one -/
def f29r0 : List SOper := [
  ⟨(some 3), none, .box (.tmp 1)⟩,
  ⟨(some 4), none, .mv (.const (.int .i64 0))⟩]
def f29p1 : List SOper := [
  ⟨(some 12), none, .fa 0 (.tmp 3)⟩,
  ⟨(some 13), none, .ld1 (.tmp 12)⟩]
def f29r1 : List SOper := [
  ⟨(some 11), none, .callq 35 []⟩,
  ⟨(some 14), none, .look (.int .i64) (.agg #[(.bool false), (.bool false), (.bool false), (.int .i64 0), (.bool false), .nilFunc]) true (.tmp 11) (.tmp 13)⟩,
  ⟨(some 10), none, .mv (.tmp 14)⟩,
  ⟨(some 15), none, .ext (.tmp 10) 0⟩,
  ⟨(some 16), none, .ext (.tmp 10) 1⟩,
  ⟨(some 5), none, .new [(.bool false), (.bool false), (.bool false), (.int .i64 0), (.bool false), .nilFunc]⟩,
  ⟨none, none, .st 6 (.tmp 5) (.tmp 15)⟩,
  ⟨(some 6), none, .mv (.tmp 16)⟩]
def f29s1 : List SOper := [
  ⟨(some 5), none, .new [(.bool false), (.bool false), (.bool false), (.int .i64 0), (.bool false), .nilFunc]⟩,
  ⟨(some 11), none, .callq 35 []⟩,
  ⟨(some 14), none, .look (.int .i64) (.agg #[(.bool false), (.bool false), (.bool false), (.int .i64 0), (.bool false), .nilFunc]) true (.tmp 11) (.tmp 13)⟩,
  ⟨(some 10), none, .mv (.tmp 14)⟩,
  ⟨(some 15), none, .ext (.tmp 10) 0⟩,
  ⟨(some 16), none, .ext (.tmp 10) 1⟩,
  ⟨none, none, .st 6 (.tmp 5) (.tmp 15)⟩,
  ⟨(some 6), none, .mv (.tmp 16)⟩]
def f29r2 : List SOper := [
  ⟨(some 17), none, .mv (.tmp 6)⟩,
  ⟨(some 18), none, .un .not (.tmp 17)⟩,
  ⟨(some 19), none, .mv (.tmp 18)⟩,
  ⟨(some 20), (some (19, false)), .fa 0 (.tmp 5)⟩,
  ⟨(some 21), (some (19, false)), .ld1 (.tmp 20)⟩,
  ⟨(some 22), (some (19, false)), .un .not (.tmp 21)⟩,
  ⟨(some 23), (some (19, false)), .mv (.tmp 22)⟩,
  ⟨(some 24), (some (23, true)), .fa 2 (.tmp 3)⟩,
  ⟨(some 25), (some (23, true)), .ld1 (.tmp 24)⟩,
  ⟨(some 26), (some (23, true)), .cmp .neq (.tmp 25) (.const (.string ⟨#[]⟩))⟩,
  ⟨(some 27), (some (19, false)), .pick (.tmp 23) (.tmp 26) (.const (.bool false))⟩,
  ⟨(some 28), none, .pick (.tmp 19) (.const (.bool true)) (.tmp 27)⟩,
  ⟨(some 29), none, .mv (.tmp 28)⟩,
  ⟨(some 30), (some (29, false)), .fa 1 (.tmp 5)⟩,
  ⟨(some 31), (some (29, false)), .ld1 (.tmp 30)⟩,
  ⟨(some 32), (some (29, false)), .un .not (.tmp 31)⟩,
  ⟨(some 33), (some (29, false)), .mv (.tmp 32)⟩,
  ⟨(some 34), (some (33, true)), .fa 3 (.tmp 3)⟩,
  ⟨(some 35), (some (33, true)), .ld1 (.tmp 34)⟩,
  ⟨(some 36), (some (33, true)), .cmp .neq (.tmp 35) (.const (.string ⟨#[]⟩))⟩,
  ⟨(some 37), (some (29, false)), .pick (.tmp 33) (.tmp 36) (.const (.bool false))⟩,
  ⟨(some 38), none, .pick (.tmp 29) (.const (.bool true)) (.tmp 37)⟩,
  ⟨(some 39), none, .mv (.tmp 38)⟩,
  ⟨(some 40), (some (39, false)), .fa 2 (.tmp 5)⟩,
  ⟨(some 41), (some (39, false)), .ld1 (.tmp 40)⟩,
  ⟨(some 42), (some (39, false)), .un .not (.tmp 41)⟩,
  ⟨(some 43), (some (39, false)), .mv (.tmp 42)⟩,
  ⟨(some 44), (some (43, true)), .fa 4 (.tmp 3)⟩,
  ⟨(some 45), (some (43, true)), .ld1 (.tmp 44)⟩,
  ⟨(some 46), (some (43, true)), .cmp .neq (.tmp 45) (.const (.int .i64 0))⟩,
  ⟨(some 47), (some (39, false)), .pick (.tmp 43) (.tmp 46) (.const (.bool false))⟩,
  ⟨(some 48), none, .pick (.tmp 39) (.const (.bool true)) (.tmp 47)⟩]
def f29r3 : List SOper := [
  ⟨(some 4), none, .mv (.const (.int .i64 2))⟩]
def f29r4 : List SOper := [
  ⟨(some 49), none, .fa 1 (.tmp 3)⟩,
  ⟨(some 50), none, .ld1 (.tmp 49)⟩,
  ⟨(some 51), none, .fa 2 (.tmp 3)⟩,
  ⟨(some 52), none, .ld1 (.tmp 51)⟩,
  ⟨(some 53), none, .fa 3 (.tmp 3)⟩,
  ⟨(some 54), none, .ld1 (.tmp 53)⟩,
  ⟨(some 55), none, .bslice [(.string ⟨#[]⟩), (.string ⟨#[]⟩), (.string ⟨#[]⟩)] 3 [(0, 1), (1, 1), (2, 1)] [(.tmp 50), (.tmp 52), (.tmp 54)]⟩,
  ⟨(some 56), none, .call 14 [(.tmp 55)]⟩,
  ⟨(some 57), none, .un .not (.tmp 56)⟩]
def f29r5 : List SOper := [
  ⟨(some 4), none, .mv (.const (.int .i64 3))⟩]
def f29r6 : List SOper := [
  ⟨(some 59), none, .mv (.tmp 0)⟩,
  ⟨(some 60), none, .fa 1 (.tmp 3)⟩,
  ⟨(some 61), none, .ld1 (.tmp 60)⟩,
  ⟨(some 62), none, .call 30 [(.tmp 59), (.tmp 61)]⟩,
  ⟨(some 58), none, .mv (.tmp 62)⟩,
  ⟨(some 63), none, .ext (.tmp 58) 0⟩,
  ⟨(some 64), none, .ext (.tmp 58) 1⟩,
  ⟨(some 7), none, .new [(.int .i64 0), (.string ⟨#[]⟩), (.slice none 0 0), (.slice none 0 0), (.slice none 0 0), (.bool false), (.int .i64 0)]⟩,
  ⟨none, none, .st 7 (.tmp 7) (.tmp 63)⟩,
  ⟨(some 8), none, .mv (.tmp 64)⟩]
def f29r7 : List SOper := [
  ⟨(some 66), none, .mv (.tmp 8)⟩,
  ⟨(some 67), none, .un .not (.tmp 66)⟩,
  ⟨(some 68), none, .mv (.tmp 67)⟩,
  ⟨(some 69), (some (68, true)), .fa 4 (.tmp 5)⟩,
  ⟨(some 70), (some (68, true)), .ld1 (.tmp 69)⟩,
  ⟨(some 71), (some (68, true)), .un .not (.tmp 70)⟩,
  ⟨(some 72), none, .pick (.tmp 68) (.tmp 71) (.const (.bool false))⟩,
  ⟨(some 65), none, .mv (.tmp 72)⟩]
def f29r8 : List SOper := [
  ⟨(some 4), none, .mv (.const (.int .i64 5))⟩]
def f29r9 : List SOper := [
  ⟨(some 74), none, .mv (.tmp 8)⟩,
  ⟨(some 75), none, .un .not (.tmp 74)⟩,
  ⟨(some 73), none, .mv (.tmp 75)⟩]
def f29r10 : List SOper := [
  ⟨(some 76), none, .fa 3 (.tmp 5)⟩,
  ⟨(some 77), none, .ld1 (.tmp 76)⟩,
  ⟨(some 78), none, .fa 0 (.tmp 7)⟩,
  ⟨none, none, .st 1 (.tmp 78) (.tmp 77)⟩]
def f29r11 : List SOper := [
  ⟨(some 80), none, .fa 3 (.tmp 5)⟩,
  ⟨(some 81), none, .ld1 (.tmp 80)⟩,
  ⟨(some 82), none, .cmp .neq (.tmp 81) (.const (.int .i64 0))⟩,
  ⟨(some 83), none, .mv (.tmp 82)⟩,
  ⟨(some 84), (some (83, true)), .fa 0 (.tmp 7)⟩,
  ⟨(some 85), (some (83, true)), .ld1 (.tmp 84)⟩,
  ⟨(some 86), (some (83, true)), .fa 3 (.tmp 5)⟩,
  ⟨(some 87), (some (83, true)), .ld1 (.tmp 86)⟩,
  ⟨(some 88), (some (83, true)), .cmp .neq (.tmp 85) (.tmp 87)⟩,
  ⟨(some 89), none, .pick (.tmp 83) (.tmp 88) (.const (.bool false))⟩,
  ⟨(some 79), none, .mv (.tmp 89)⟩]
def f29r12 : List SOper := [
  ⟨(some 4), none, .mv (.const (.int .i64 170))⟩]
def f29r13 : List SOper := [
  ⟨(some 90), none, .fa 5 (.tmp 5)⟩,
  ⟨(some 91), none, .ld1 (.tmp 90)⟩,
  ⟨(some 92), none, .ldn 5 (.tmp 3)⟩,
  ⟨(some 93), none, .callv (.tmp 91) [(.tmp 7), (.tmp 92)]⟩,
  ⟨(some 9), none, .mv (.tmp 93)⟩]
def f29r14 : List SOper := [
  ⟨(some 94), none, .mv (.tmp 9)⟩,
  ⟨(some 95), none, .cmp .neq (.tmp 94) (.const (.int .i64 0))⟩]
def f29r15 : List SOper := [
  ⟨(some 96), none, .mv (.tmp 9)⟩,
  ⟨(some 4), none, .mv (.tmp 96)⟩]
def f29r16 : List SOper := [
  ⟨(some 107), none, .fa 0 (.tmp 7)⟩,
  ⟨(some 108), none, .ld1 (.tmp 107)⟩,
  ⟨(some 109), none, .cmp .neq (.tmp 108) (.const (.int .i64 1))⟩,
  ⟨(some 110), none, .mv (.tmp 109)⟩,
  ⟨(some 111), (some (110, true)), .ldn 7 (.tmp 7)⟩,
  ⟨(some 112), (some (110, true)), .call 13 [(.tmp 111)]⟩,
  ⟨(some 113), (some (110, true)), .cmp .eql (.tmp 112) (.const (.int .i64 0))⟩,
  ⟨(some 114), none, .pick (.tmp 110) (.tmp 113) (.const (.bool false))⟩,
  ⟨(some 106), none, .mv (.tmp 114)⟩]
def f29r17 : List SOper := [
  ⟨(some 115), none, .mv (.tmp 0)⟩,
  ⟨(some 116), none, .nilck (.tmp 115)⟩,
  ⟨(some 117), none, .fa 0 (.tmp 116)⟩,
  ⟨(some 118), none, .ld1 (.tmp 117)⟩,
  ⟨(some 119), none, .nilck (.tmp 118)⟩,
  ⟨(some 120), none, .fa 0 (.tmp 119)⟩,
  ⟨(some 121), none, .ld1 (.tmp 120)⟩,
  ⟨(some 122), none, .fa 1 (.tmp 3)⟩,
  ⟨(some 123), none, .ld1 (.tmp 122)⟩,
  ⟨none, none, .mdel .str (.tmp 121) (.tmp 123)⟩]
def f29r18 : List SOper := [
  ⟨(some 125), none, .ldn 7 (.tmp 7)⟩,
  ⟨(some 126), none, .call 13 [(.tmp 125)]⟩,
  ⟨(some 127), none, .cmp .gtr (.tmp 126) (.const (.int .i64 65536))⟩,
  ⟨(some 128), none, .mv (.tmp 127)⟩,
  ⟨(some 129), (some (128, false)), .mv (.tmp 8)⟩,
  ⟨(some 130), (some (128, false)), .un .not (.tmp 129)⟩,
  ⟨(some 131), (some (128, false)), .mv (.tmp 130)⟩,
  ⟨(some 132), (some (131, true)), .mv (.tmp 0)⟩,
  ⟨(some 133), (some (131, true)), .nilck (.tmp 132)⟩,
  ⟨(some 134), (some (131, true)), .fa 0 (.tmp 133)⟩,
  ⟨(some 135), (some (131, true)), .ld1 (.tmp 134)⟩,
  ⟨(some 136), (some (131, true)), .nilck (.tmp 135)⟩,
  ⟨(some 137), (some (131, true)), .fa 0 (.tmp 136)⟩,
  ⟨(some 138), (some (131, true)), .ld1 (.tmp 137)⟩,
  ⟨(some 139), (some (131, true)), .lenm (.tmp 138)⟩,
  ⟨(some 140), (some (131, true)), .cmp .geq (.tmp 139) (.const (.int .i64 65536))⟩,
  ⟨(some 141), (some (128, false)), .pick (.tmp 131) (.tmp 140) (.const (.bool false))⟩,
  ⟨(some 142), none, .pick (.tmp 128) (.const (.bool true)) (.tmp 141)⟩,
  ⟨(some 124), none, .mv (.tmp 142)⟩]
def f29r19 : List SOper := [
  ⟨(some 4), none, .mv (.const (.int .i64 3))⟩]
def f29r20 : List SOper := [
  ⟨(some 97), none, .mv (.tmp 0)⟩,
  ⟨(some 98), none, .nilck (.tmp 97)⟩,
  ⟨(some 99), none, .fa 0 (.tmp 98)⟩,
  ⟨(some 100), none, .ld1 (.tmp 99)⟩,
  ⟨(some 101), none, .nilck (.tmp 100)⟩,
  ⟨(some 102), none, .fa 0 (.tmp 101)⟩,
  ⟨(some 103), none, .ld1 (.tmp 102)⟩,
  ⟨(some 104), none, .fa 1 (.tmp 3)⟩,
  ⟨(some 105), none, .ld1 (.tmp 104)⟩,
  ⟨none, none, .mup .str (.tmp 103) (.tmp 105) (.tmp 7)⟩]
def f29r21 : List SOper := [
  ⟨(some 4), none, .mv (.const (.int .i64 0))⟩]
def f29 : SCode := (.seq (.ops f29r0) (.seq (.two f29p1 f29r1 f29s1) (.seq (.seq (.ops f29r2) (.cond (.tmp 48) (.seq (.ops f29r3) .ret) .skip)) (.seq (.seq (.ops f29r4) (.cond (.tmp 57) (.seq (.ops f29r5) .ret) .skip)) (.seq (.ops f29r6) (.seq (.block 0 (.seq (.ops f29r7) (.cond (.tmp 65) (.seq (.ops f29r8) .ret) (.seq (.ops f29r9) (.cond (.tmp 73) (.ops f29r10) (.seq (.ops f29r11) (.cond (.tmp 79) (.seq (.ops f29r12) .ret) .skip))))))) (.seq (.seq (.ops f29r13) (.seq (.ops f29r14) (.cond (.tmp 95) (.seq (.ops f29r15) .ret) .skip))) (.seq (.block 1 (.seq (.ops f29r16) (.cond (.tmp 106) (.ops f29r17) (.seq (.ops f29r18) (.cond (.tmp 124) (.seq (.ops f29r19) .ret) (.ops f29r20)))))) (.seq (.ops f29r21) .ret)))))))))
theorem f29_calls {args : List Value} {h : Heap} {R : Ending → Heap → Prop} (ha : args.length ≤ 143) (hs : swp Try.prog f29 (retQ [.t 4] R) (argEnv 0 args) [] h) : CallsH Try.prog 29 args h R :=
  calls_of_swp mixed Try.func29 rfl (by kernel_rfl) (by kernel_rfl) (by kernel_rfl) ha hs

/-! 30: (*tabor/keys.Keys).Look -/
def f30r0 : List SOper := [
  ⟨(some 4), none, .new [(.int .i64 0), (.string ⟨#[]⟩), (.slice none 0 0), (.slice none 0 0), (.slice none 0 0), (.bool false), (.int .i64 0)]⟩,
  ⟨(some 5), none, .mv (.const (.bool false))⟩]
def f30r1 : List SOper := [
  ⟨(some 6), none, .mv (.tmp 0)⟩,
  ⟨(some 7), none, .call 28 [(.tmp 6)]⟩,
  ⟨(some 8), none, .mv (.tmp 7)⟩,
  ⟨(some 9), (some (8, false)), .mv (.tmp 0)⟩,
  ⟨(some 10), (some (8, false)), .nilck (.tmp 9)⟩,
  ⟨(some 11), (some (8, false)), .fa 0 (.tmp 10)⟩,
  ⟨(some 12), (some (8, false)), .ld1 (.tmp 11)⟩,
  ⟨(some 13), (some (8, false)), .nilck (.tmp 12)⟩,
  ⟨(some 14), (some (8, false)), .fa 0 (.tmp 13)⟩,
  ⟨(some 15), (some (8, false)), .ld1 (.tmp 14)⟩,
  ⟨(some 16), (some (8, false)), .mv (.tmp 1)⟩,
  ⟨(some 17), (some (8, false)), .look .str (.pointer none) false (.tmp 15) (.tmp 16)⟩,
  ⟨(some 18), (some (8, false)), .eqn 0 false (.tmp 17)⟩,
  ⟨(some 19), none, .pick (.tmp 8) (.const (.bool true)) (.tmp 18)⟩]
def f30r2 : List SOper := [
  ⟨(some 20), none, .build [(.int .i64 0), (.string ⟨#[]⟩), (.slice none 0 0), (.slice none 0 0), (.slice none 0 0), (.bool false), (.int .i64 0)] [] []⟩,
  ⟨none, none, .st 7 (.tmp 4) (.tmp 20)⟩,
  ⟨(some 5), none, .mv (.const (.bool false))⟩]
def f30r3 : List SOper := [
  ⟨(some 21), none, .mv (.tmp 0)⟩,
  ⟨(some 22), none, .nilck (.tmp 21)⟩,
  ⟨(some 23), none, .fa 0 (.tmp 22)⟩,
  ⟨(some 24), none, .ld1 (.tmp 23)⟩,
  ⟨(some 25), none, .nilck (.tmp 24)⟩,
  ⟨(some 26), none, .fa 0 (.tmp 25)⟩,
  ⟨(some 27), none, .ld1 (.tmp 26)⟩,
  ⟨(some 28), none, .mv (.tmp 1)⟩,
  ⟨(some 29), none, .look .str (.pointer none) false (.tmp 27) (.tmp 28)⟩,
  ⟨(some 30), none, .nilck (.tmp 29)⟩,
  ⟨(some 31), none, .ldn 7 (.tmp 30)⟩,
  ⟨(some 32), none, .call 36 [(.tmp 31)]⟩,
  ⟨none, none, .st 7 (.tmp 4) (.tmp 32)⟩,
  ⟨(some 5), none, .mv (.const (.bool true))⟩]
def f30 : SCode := (.seq (.ops f30r0) (.seq (.seq (.ops f30r1) (.cond (.tmp 19) (.seq (.ops f30r2) .ret) .skip)) (.seq (.ops f30r3) .ret)))
theorem f30_calls {args : List Value} {h : Heap} {R : Ending → Heap → Prop} (ha : args.length ≤ 33) (hs : swp Try.prog f30 (retQ [.cn 4 7, .t 5] R) (argEnv 0 args) [] h) : CallsH Try.prog 30 args h R :=
  calls_of_swp mixed Try.func30 rfl (by kernel_rfl) (by kernel_rfl) (by kernel_rfl) ha hs

/-! 31: tabor/keys.gone -/
def f31r0 : List SOper := [
  ⟨(some 2), none, .box (.tmp 0)⟩,
  ⟨(some 4), none, .mv (.const (.bool false))⟩]
def f31r1 : List SOper := [
  ⟨(some 5), none, .fa 5 (.tmp 2)⟩,
  ⟨(some 6), none, .ld1 (.tmp 5)⟩,
  ⟨(some 7), none, .mv (.tmp 6)⟩,
  ⟨(some 8), (some (7, true)), .fa 6 (.tmp 2)⟩,
  ⟨(some 9), (some (7, true)), .ld1 (.tmp 8)⟩,
  ⟨(some 10), (some (7, true)), .mv (.tmp 1)⟩,
  ⟨(some 11), (some (7, true)), .cmp .leq (.tmp 9) (.tmp 10)⟩,
  ⟨(some 12), none, .pick (.tmp 7) (.tmp 11) (.const (.bool false))⟩,
  ⟨(some 4), none, .mv (.tmp 12)⟩]
def f31 : SCode := (.seq (.ops f31r0) (.seq (.ops f31r1) .ret))
theorem f31_calls {args : List Value} {h : Heap} {R : Ending → Heap → Prop} (ha : args.length ≤ 13) (hs : swp Try.prog f31 (retQ [.t 4] R) (argEnv 0 args) [] h) : CallsH Try.prog 31 args h R :=
  calls_of_swp mixed Try.func31 rfl (by kernel_rfl) (by kernel_rfl) (by kernel_rfl) ha hs

/-! 32: slices.ContainsFunc[[]string,string] -/
def f32r0 : List SOper := [
  ⟨(some 4), none, .mv (.const (.bool false))⟩]
def f32r1 : List SOper := [
  ⟨(some 5), none, .mv (.tmp 0)⟩,
  ⟨(some 6), none, .mv (.tmp 1)⟩,
  ⟨(some 7), none, .call 37 [(.tmp 5), (.tmp 6)]⟩,
  ⟨(some 8), none, .cmp .geq (.tmp 7) (.const (.int .i64 0))⟩,
  ⟨(some 4), none, .mv (.tmp 8)⟩]
def f32 : SCode := (.seq (.ops f32r0) (.seq (.ops f32r1) .ret))
theorem f32_calls {args : List Value} {h : Heap} {R : Ending → Heap → Prop} (ha : args.length ≤ 9) (hs : swp Try.prog f32 (retQ [.t 4] R) (argEnv 0 args) [] h) : CallsH Try.prog 32 args h R :=
  calls_of_swp mixed Try.func32 rfl (by kernel_rfl) (by kernel_rfl) (by kernel_rfl) ha hs

/-! 33: tabor/keys.short$1 -/
def f33r0 : List SOper := [
  ⟨(some 2), none, .mv (.const (.bool false))⟩]
def f33r1 : List SOper := [
  ⟨(some 3), none, .mv (.tmp 0)⟩,
  ⟨(some 4), none, .lens (.tmp 3)⟩,
  ⟨(some 5), none, .cmp .gtr (.tmp 4) (.const (.int .i64 1048576))⟩,
  ⟨(some 2), none, .mv (.tmp 5)⟩]
def f33 : SCode := (.seq (.ops f33r0) (.seq (.ops f33r1) .ret))
theorem f33_calls {args : List Value} {h : Heap} {R : Ending → Heap → Prop} (ha : args.length ≤ 6) (hs : swp Try.prog f33 (retQ [.t 2] R) (argEnv 0 args) [] h) : CallsH Try.prog 33 args h R :=
  calls_of_swp mixed Try.func33 rfl (by kernel_rfl) (by kernel_rfl) (by kernel_rfl) ha hs

/-! 34: internal/bytealg.CompareString -/
def f34r0 : List SOper := [
  ⟨(some 4), none, .mv (.const (.int .i64 0))⟩]
def f34r1 : List SOper := [
  ⟨(some 5), none, .mv (.tmp 0)⟩,
  ⟨(some 6), none, .mv (.tmp 1)⟩,
  ⟨(some 7), none, .call 38 [(.tmp 5), (.tmp 6)]⟩,
  ⟨(some 4), none, .mv (.tmp 7)⟩]
def f34 : SCode := (.seq (.ops f34r0) (.seq (.ops f34r1) .ret))
theorem f34_calls {args : List Value} {h : Heap} {R : Ending → Heap → Prop} (ha : args.length ≤ 8) (hs : swp Try.prog f34 (retQ [.t 4] R) (argEnv 0 args) [] h) : CallsH Try.prog 34 args h R :=
  calls_of_swp mixed Try.func34 rfl (by kernel_rfl) (by kernel_rfl) (by kernel_rfl) ha hs

/-! 35: tabor/keys.rules -/
def f35r0 : List SOper := [
  ⟨(some 0), none, .mv (.const (.map none))⟩]
def f35r1 : List SOper := [
  ⟨(some 1), none, .mkm⟩,
  ⟨(some 2), none, .build [(.bool false), (.bool false), (.bool false), (.int .i64 0), (.bool false), .nilFunc] [(5, 1)] [(.func 39)]⟩,
  ⟨none, none, .mup (.int .i64) (.tmp 1) (.const (.int .i64 1)) (.tmp 2)⟩,
  ⟨(some 3), none, .build [(.bool false), (.bool false), (.bool false), (.int .i64 0), (.bool false), .nilFunc] [(1, 1), (4, 1), (5, 1)] [(.const (.bool true)), (.const (.bool true)), (.func 40)]⟩,
  ⟨none, none, .mup (.int .i64) (.tmp 1) (.const (.int .i64 2)) (.tmp 3)⟩,
  ⟨(some 4), none, .build [(.bool false), (.bool false), (.bool false), (.int .i64 0), (.bool false), .nilFunc] [(2, 1), (5, 1)] [(.const (.bool true)), (.func 41)]⟩,
  ⟨none, none, .mup (.int .i64) (.tmp 1) (.const (.int .i64 3)) (.tmp 4)⟩,
  ⟨(some 5), none, .build [(.bool false), (.bool false), (.bool false), (.int .i64 0), (.bool false), .nilFunc] [(5, 1)] [(.func 42)]⟩,
  ⟨none, none, .mup (.int .i64) (.tmp 1) (.const (.int .i64 4)) (.tmp 5)⟩,
  ⟨(some 6), none, .build [(.bool false), (.bool false), (.bool false), (.int .i64 0), (.bool false), .nilFunc] [(0, 1), (1, 1), (3, 1), (4, 1), (5, 1)] [(.const (.bool true)), (.const (.bool true)), (.const (.int .i64 2)), (.const (.bool true)), (.func 43)]⟩,
  ⟨none, none, .mup (.int .i64) (.tmp 1) (.const (.int .i64 5)) (.tmp 6)⟩,
  ⟨(some 7), none, .build [(.bool false), (.bool false), (.bool false), (.int .i64 0), (.bool false), .nilFunc] [(0, 1), (3, 1), (5, 1)] [(.const (.bool true)), (.const (.int .i64 2)), (.func 44)]⟩,
  ⟨none, none, .mup (.int .i64) (.tmp 1) (.const (.int .i64 6)) (.tmp 7)⟩,
  ⟨(some 8), none, .build [(.bool false), (.bool false), (.bool false), (.int .i64 0), (.bool false), .nilFunc] [(1, 1), (3, 1), (4, 1), (5, 1)] [(.const (.bool true)), (.const (.int .i64 3)), (.const (.bool true)), (.func 45)]⟩,
  ⟨none, none, .mup (.int .i64) (.tmp 1) (.const (.int .i64 7)) (.tmp 8)⟩,
  ⟨(some 9), none, .build [(.bool false), (.bool false), (.bool false), (.int .i64 0), (.bool false), .nilFunc] [(1, 1), (3, 1), (4, 1), (5, 1)] [(.const (.bool true)), (.const (.int .i64 3)), (.const (.bool true)), (.func 47)]⟩,
  ⟨none, none, .mup (.int .i64) (.tmp 1) (.const (.int .i64 8)) (.tmp 9)⟩,
  ⟨(some 10), none, .build [(.bool false), (.bool false), (.bool false), (.int .i64 0), (.bool false), .nilFunc] [(3, 1), (5, 1)] [(.const (.int .i64 3)), (.func 48)]⟩,
  ⟨none, none, .mup (.int .i64) (.tmp 1) (.const (.int .i64 9)) (.tmp 10)⟩,
  ⟨(some 11), none, .build [(.bool false), (.bool false), (.bool false), (.int .i64 0), (.bool false), .nilFunc] [(3, 1), (5, 1)] [(.const (.int .i64 3)), (.func 49)]⟩,
  ⟨none, none, .mup (.int .i64) (.tmp 1) (.const (.int .i64 10)) (.tmp 11)⟩,
  ⟨(some 12), none, .build [(.bool false), (.bool false), (.bool false), (.int .i64 0), (.bool false), .nilFunc] [(1, 1), (2, 1), (3, 1), (5, 1)] [(.const (.bool true)), (.const (.bool true)), (.const (.int .i64 3)), (.func 50)]⟩,
  ⟨none, none, .mup (.int .i64) (.tmp 1) (.const (.int .i64 11)) (.tmp 12)⟩,
  ⟨(some 13), none, .build [(.bool false), (.bool false), (.bool false), (.int .i64 0), (.bool false), .nilFunc] [(0, 1), (3, 1), (4, 1), (5, 1)] [(.const (.bool true)), (.const (.int .i64 4)), (.const (.bool true)), (.func 51)]⟩,
  ⟨none, none, .mup (.int .i64) (.tmp 1) (.const (.int .i64 12)) (.tmp 13)⟩,
  ⟨(some 14), none, .build [(.bool false), (.bool false), (.bool false), (.int .i64 0), (.bool false), .nilFunc] [(0, 1), (3, 1), (5, 1)] [(.const (.bool true)), (.const (.int .i64 4)), (.func 52)]⟩,
  ⟨none, none, .mup (.int .i64) (.tmp 1) (.const (.int .i64 13)) (.tmp 14)⟩,
  ⟨(some 15), none, .build [(.bool false), (.bool false), (.bool false), (.int .i64 0), (.bool false), .nilFunc] [(0, 1), (2, 1), (3, 1), (4, 1), (5, 1)] [(.const (.bool true)), (.const (.bool true)), (.const (.int .i64 5)), (.const (.bool true)), (.func 53)]⟩,
  ⟨none, none, .mup (.int .i64) (.tmp 1) (.const (.int .i64 14)) (.tmp 15)⟩,
  ⟨(some 16), none, .build [(.bool false), (.bool false), (.bool false), (.int .i64 0), (.bool false), .nilFunc] [(0, 1), (3, 1), (5, 1)] [(.const (.bool true)), (.const (.int .i64 5)), (.func 54)]⟩,
  ⟨none, none, .mup (.int .i64) (.tmp 1) (.const (.int .i64 15)) (.tmp 16)⟩,
  ⟨(some 17), none, .mv (.tmp 1)⟩,
  ⟨(some 0), none, .mv (.tmp 17)⟩]
def f35 : SCode := (.seq (.ops f35r0) (.seq (.ops f35r1) .ret))
theorem f35_calls {args : List Value} {h : Heap} {R : Ending → Heap → Prop} (ha : args.length ≤ 18) (hs : swp Try.prog f35 (retQ [.t 0] R) (argEnv 0 args) [] h) : CallsH Try.prog 35 args h R :=
  calls_of_swp mixed Try.func35 rfl (by kernel_rfl) (by kernel_rfl) (by kernel_rfl) ha hs

/-! 36: tabor/keys.copied -/
def f36r0 : List SOper := [
  ⟨(some 1), none, .box (.tmp 0)⟩,
  ⟨(some 2), none, .new [(.int .i64 0), (.string ⟨#[]⟩), (.slice none 0 0), (.slice none 0 0), (.slice none 0 0), (.bool false), (.int .i64 0)]⟩]
def f36r1 : List SOper := [
  ⟨(some 3), none, .fa 2 (.tmp 1)⟩,
  ⟨(some 4), none, .ld1 (.tmp 3)⟩,
  ⟨(some 6), none, .fa 3 (.tmp 1)⟩,
  ⟨(some 7), none, .ld1 (.tmp 6)⟩,
  ⟨(some 9), none, .fa 4 (.tmp 1)⟩,
  ⟨(some 10), none, .ld1 (.tmp 9)⟩,
  ⟨(some 5), none, .callq 55 [(.tmp 4)]⟩,
  ⟨(some 12), none, .fa 2 (.tmp 1)⟩,
  ⟨(some 8), none, .callq 56 [(.tmp 7)]⟩,
  ⟨(some 11), none, .callq 57 [(.tmp 10)]⟩,
  ⟨none, none, .st 1 (.tmp 12) (.tmp 5)⟩,
  ⟨(some 13), none, .fa 3 (.tmp 1)⟩,
  ⟨none, none, .st 1 (.tmp 13) (.tmp 8)⟩,
  ⟨(some 14), none, .fa 4 (.tmp 1)⟩,
  ⟨none, none, .st 1 (.tmp 14) (.tmp 11)⟩]
def f36r2 : List SOper := [
  ⟨(some 15), none, .ldn 7 (.tmp 1)⟩,
  ⟨none, none, .st 7 (.tmp 2) (.tmp 15)⟩]
def f36 : SCode := (.seq (.ops f36r0) (.seq (.ops f36r1) (.seq (.ops f36r2) .ret)))
theorem f36_calls {args : List Value} {h : Heap} {R : Ending → Heap → Prop} (ha : args.length ≤ 16) (hs : swp Try.prog f36 (retQ [.cn 2 7] R) (argEnv 0 args) [] h) : CallsH Try.prog 36 args h R :=
  calls_of_swp mixed Try.func36 rfl (by kernel_rfl) (by kernel_rfl) (by kernel_rfl) ha hs

/-! 37: slices.IndexFunc[[]string,string] -/
def f37r0 : List SOper := [
  ⟨(some 4), none, .mv (.const (.int .i64 0))⟩]
def f37r1 : List SOper := [
  ⟨(some 6), none, .mv (.tmp 0)⟩,
  ⟨(some 7), none, .len (.tmp 6)⟩,
  ⟨(some 8), none, .mv (.const (.int .i64 0))⟩]
def f37r2 : List SOper := [
  ⟨(some 9), none, .cmp .lss (.tmp 8) (.tmp 7)⟩]
def f37r3 : List SOper := [
  ⟨(some 10), none, .mv (.tmp 8)⟩,
  ⟨(some 5), none, .mv (.tmp 10)⟩]
def f37r4 : List SOper := [
  ⟨(some 11), none, .mv (.tmp 1)⟩,
  ⟨(some 12), none, .mv (.tmp 0)⟩,
  ⟨(some 13), none, .mv (.tmp 5)⟩,
  ⟨(some 14), none, .ixs 1 (.tmp 12) (.tmp 13)⟩,
  ⟨(some 15), none, .ld1 (.tmp 14)⟩,
  ⟨(some 16), none, .callv (.tmp 11) [(.tmp 15)]⟩]
def f37r5 : List SOper := [
  ⟨(some 17), none, .mv (.tmp 5)⟩,
  ⟨(some 4), none, .mv (.tmp 17)⟩]
def f37r6 : List SOper := [
  ⟨(some 18), none, .ar .add (.tmp 8) (.const (.int .i64 1))⟩,
  ⟨(some 8), none, .mv (.tmp 18)⟩]
def f37l7 : SCode := (.seq (.ops f37r2) (.seq (.cond (.tmp 9) .skip (.exit 0)) (.seq (.block 1 (.seq (.ops f37r3) (.seq (.ops f37r4) (.cond (.tmp 16) (.seq (.ops f37r5) .ret) .skip)))) (.ops f37r6))))
def f37r8 : List SOper := [
  ⟨(some 4), none, .mv (.const (.int .i64 (-1)))⟩]
def f37 : SCode := (.seq (.ops f37r0) (.seq (.seq (.ops f37r1) (.block 0 (.loop f37l7))) (.seq (.ops f37r8) .ret)))
theorem f37_calls {args : List Value} {h : Heap} {R : Ending → Heap → Prop} (ha : args.length ≤ 19) (hs : swp Try.prog f37 (retQ [.t 4] R) (argEnv 0 args) [] h) : CallsH Try.prog 37 args h R :=
  calls_of_swp mixed Try.func37 rfl (by kernel_rfl) (by kernel_rfl) (by kernel_rfl) ha hs

/-! 38: internal/bytealg.abigen_runtime_cmpstring: not simplified -/

/-! 39: tabor/keys.rules$1 -/
def f39r0 : List SOper := [
  ⟨(some 3), none, .box (.tmp 1)⟩,
  ⟨(some 4), none, .mv (.const (.int .i64 0))⟩]
def f39r1 : List SOper := [
  ⟨(some 5), none, .mv (.tmp 0)⟩,
  ⟨(some 6), none, .build [(.int .i64 0), (.string ⟨#[]⟩), (.slice none 0 0), (.slice none 0 0), (.slice none 0 0), (.bool false), (.int .i64 0)] [] []⟩,
  ⟨(some 7), none, .nilck (.tmp 5)⟩,
  ⟨none, none, .st 7 (.tmp 7) (.tmp 6)⟩]
def f39r2 : List SOper := [
  ⟨(some 4), none, .mv (.const (.int .i64 0))⟩]
def f39 : SCode := (.seq (.ops f39r0) (.seq (.ops f39r1) (.seq (.ops f39r2) .ret)))
theorem f39_calls {args : List Value} {h : Heap} {R : Ending → Heap → Prop} (ha : args.length ≤ 8) (hs : swp Try.prog f39 (retQ [.t 4] R) (argEnv 0 args) [] h) : CallsH Try.prog 39 args h R :=
  calls_of_swp mixed Try.func39 rfl (by kernel_rfl) (by kernel_rfl) (by kernel_rfl) ha hs

/-! 40: tabor/keys.rules$2 -/
def f40r0 : List SOper := [
  ⟨(some 3), none, .box (.tmp 1)⟩,
  ⟨(some 4), none, .mv (.const (.int .i64 0))⟩]
def f40r1 : List SOper := [
  ⟨(some 5), none, .mv (.tmp 0)⟩,
  ⟨(some 6), none, .fa 3 (.tmp 3)⟩,
  ⟨(some 7), none, .ld1 (.tmp 6)⟩,
  ⟨(some 8), none, .build [(.int .i64 0), (.string ⟨#[]⟩), (.slice none 0 0), (.slice none 0 0), (.slice none 0 0), (.bool false), (.int .i64 0)] [(0, 1), (1, 1)] [(.const (.int .i64 1)), (.tmp 7)]⟩,
  ⟨(some 9), none, .nilck (.tmp 5)⟩,
  ⟨none, none, .st 7 (.tmp 9) (.tmp 8)⟩]
def f40r2 : List SOper := [
  ⟨(some 4), none, .mv (.const (.int .i64 0))⟩]
def f40 : SCode := (.seq (.ops f40r0) (.seq (.ops f40r1) (.seq (.ops f40r2) .ret)))
theorem f40_calls {args : List Value} {h : Heap} {R : Ending → Heap → Prop} (ha : args.length ≤ 10) (hs : swp Try.prog f40 (retQ [.t 4] R) (argEnv 0 args) [] h) : CallsH Try.prog 40 args h R :=
  calls_of_swp mixed Try.func40 rfl (by kernel_rfl) (by kernel_rfl) (by kernel_rfl) ha hs

/-! 41: tabor/keys.rules$3: not simplified -/

/-! 42: tabor/keys.rules$4 -/
def f42r0 : List SOper := [
  ⟨(some 3), none, .box (.tmp 1)⟩,
  ⟨(some 4), none, .mv (.const (.int .i64 0))⟩]
def f42r1 : List SOper := [
  ⟨(some 5), none, .mv (.tmp 0)⟩,
  ⟨(some 6), none, .mv (.tmp 0)⟩,
  ⟨(some 7), none, .nilck (.tmp 5)⟩,
  ⟨(some 8), none, .fa 5 (.tmp 7)⟩,
  ⟨none, none, .st 1 (.tmp 8) (.const (.bool false))⟩,
  ⟨(some 9), none, .nilck (.tmp 6)⟩,
  ⟨(some 10), none, .fa 6 (.tmp 9)⟩,
  ⟨none, none, .st 1 (.tmp 10) (.const (.int .i64 0))⟩]
def f42r2 : List SOper := [
  ⟨(some 4), none, .mv (.const (.int .i64 0))⟩]
def f42 : SCode := (.seq (.ops f42r0) (.seq (.ops f42r1) (.seq (.ops f42r2) .ret)))
theorem f42_calls {args : List Value} {h : Heap} {R : Ending → Heap → Prop} (ha : args.length ≤ 11) (hs : swp Try.prog f42 (retQ [.t 4] R) (argEnv 0 args) [] h) : CallsH Try.prog 42 args h R :=
  calls_of_swp mixed Try.func42 rfl (by kernel_rfl) (by kernel_rfl) (by kernel_rfl) ha hs

/-! 43: tabor/keys.hash -/
def f43r0 : List SOper := [
  ⟨(some 3), none, .box (.tmp 1)⟩,
  ⟨(some 4), none, .mv (.const (.int .i64 0))⟩]
def f43r1 : List SOper := [
  ⟨(some 8), none, .mv (.tmp 0)⟩,
  ⟨(some 9), none, .nilck (.tmp 8)⟩,
  ⟨(some 10), none, .fa 2 (.tmp 9)⟩,
  ⟨(some 11), none, .ld1 (.tmp 10)⟩,
  ⟨(some 12), none, .fa 2 (.tmp 3)⟩,
  ⟨(some 13), none, .ld1 (.tmp 12)⟩,
  ⟨(some 14), none, .call 58 [(.tmp 11), (.func 59), (.tmp 13)]⟩,
  ⟨(some 7), none, .mv (.tmp 14)⟩,
  ⟨(some 15), none, .ext (.tmp 7) 0⟩,
  ⟨(some 16), none, .ext (.tmp 7) 1⟩,
  ⟨(some 5), none, .mv (.tmp 15)⟩,
  ⟨(some 6), none, .mv (.tmp 16)⟩]
def f43r2 : List SOper := [
  ⟨(some 17), none, .mv (.tmp 6)⟩,
  ⟨(some 18), none, .un .not (.tmp 17)⟩]
def f43r3 : List SOper := [
  ⟨(some 19), none, .mv (.tmp 0)⟩,
  ⟨(some 20), none, .mv (.tmp 0)⟩,
  ⟨(some 21), none, .nilck (.tmp 20)⟩,
  ⟨(some 22), none, .fa 2 (.tmp 21)⟩,
  ⟨(some 23), none, .ld1 (.tmp 22)⟩,
  ⟨(some 24), none, .mv (.tmp 5)⟩,
  ⟨(some 25), none, .fa 2 (.tmp 3)⟩,
  ⟨(some 26), none, .ld1 (.tmp 25)⟩,
  ⟨(some 27), none, .build [(.string ⟨#[]⟩), (.string ⟨#[]⟩)] [(0, 1)] [(.tmp 26)]⟩,
  ⟨(some 28), none, .bslice [(.string ⟨#[]⟩), (.string ⟨#[]⟩)] 1 [(0, 2)] [(.tmp 27)]⟩,
  ⟨(some 29), none, .call 60 [(.tmp 23), (.tmp 24), (.tmp 28)]⟩,
  ⟨(some 30), none, .nilck (.tmp 19)⟩,
  ⟨(some 31), none, .fa 2 (.tmp 30)⟩,
  ⟨none, none, .st 1 (.tmp 31) (.tmp 29)⟩]
def f43r4 : List SOper := [
  ⟨(some 32), none, .mv (.tmp 0)⟩,
  ⟨(some 33), none, .nilck (.tmp 32)⟩,
  ⟨(some 34), none, .fa 2 (.tmp 33)⟩,
  ⟨(some 35), none, .ld1 (.tmp 34)⟩,
  ⟨(some 36), none, .mv (.tmp 5)⟩,
  ⟨(some 37), none, .fa 3 (.tmp 3)⟩,
  ⟨(some 38), none, .ld1 (.tmp 37)⟩,
  ⟨(some 39), none, .ixs 2 (.tmp 35) (.tmp 36)⟩,
  ⟨(some 40), none, .fa 1 (.tmp 39)⟩,
  ⟨none, none, .st 1 (.tmp 40) (.tmp 38)⟩]
def f43r5 : List SOper := [
  ⟨(some 4), none, .mv (.const (.int .i64 0))⟩]
def f43 : SCode := (.seq (.ops f43r0) (.seq (.ops f43r1) (.seq (.seq (.ops f43r2) (.cond (.tmp 18) (.ops f43r3) .skip)) (.seq (.ops f43r4) (.seq (.ops f43r5) .ret)))))
theorem f43_calls {args : List Value} {h : Heap} {R : Ending → Heap → Prop} (ha : args.length ≤ 41) (hs : swp Try.prog f43 (retQ [.t 4] R) (argEnv 0 args) [] h) : CallsH Try.prog 43 args h R :=
  calls_of_swp mixed Try.func43 rfl (by kernel_rfl) (by kernel_rfl) (by kernel_rfl) ha hs

/-! 44: tabor/keys.unhash -/
def f44r0 : List SOper := [
  ⟨(some 3), none, .box (.tmp 1)⟩,
  ⟨(some 4), none, .mv (.const (.int .i64 0))⟩]
def f44r1 : List SOper := [
  ⟨(some 8), none, .mv (.tmp 0)⟩,
  ⟨(some 9), none, .nilck (.tmp 8)⟩,
  ⟨(some 10), none, .fa 2 (.tmp 9)⟩,
  ⟨(some 11), none, .ld1 (.tmp 10)⟩,
  ⟨(some 12), none, .fa 2 (.tmp 3)⟩,
  ⟨(some 13), none, .ld1 (.tmp 12)⟩,
  ⟨(some 14), none, .call 58 [(.tmp 11), (.func 59), (.tmp 13)]⟩,
  ⟨(some 7), none, .mv (.tmp 14)⟩,
  ⟨(some 15), none, .ext (.tmp 7) 0⟩,
  ⟨(some 16), none, .ext (.tmp 7) 1⟩,
  ⟨(some 5), none, .mv (.tmp 15)⟩,
  ⟨(some 6), none, .mv (.tmp 16)⟩]
def f44r2 : List SOper := [
  ⟨(some 17), none, .mv (.tmp 6)⟩,
  ⟨(some 18), none, .un .not (.tmp 17)⟩]
def f44r3 : List SOper := [
  ⟨(some 4), none, .mv (.const (.int .i64 5))⟩]
def f44r4 : List SOper := [
  ⟨(some 19), none, .mv (.tmp 0)⟩,
  ⟨(some 20), none, .mv (.tmp 0)⟩,
  ⟨(some 21), none, .nilck (.tmp 20)⟩,
  ⟨(some 22), none, .fa 2 (.tmp 21)⟩,
  ⟨(some 23), none, .ld1 (.tmp 22)⟩,
  ⟨(some 24), none, .mv (.tmp 5)⟩,
  ⟨(some 25), none, .mv (.tmp 5)⟩,
  ⟨(some 26), none, .ar .add (.tmp 25) (.const (.int .i64 1))⟩,
  ⟨(some 27), none, .call 61 [(.tmp 23), (.tmp 24), (.tmp 26)]⟩,
  ⟨(some 28), none, .nilck (.tmp 19)⟩,
  ⟨(some 29), none, .fa 2 (.tmp 28)⟩,
  ⟨none, none, .st 1 (.tmp 29) (.tmp 27)⟩]
def f44r5 : List SOper := [
  ⟨(some 4), none, .mv (.const (.int .i64 0))⟩]
def f44 : SCode := (.seq (.ops f44r0) (.seq (.ops f44r1) (.seq (.seq (.ops f44r2) (.cond (.tmp 18) (.seq (.ops f44r3) .ret) .skip)) (.seq (.ops f44r4) (.seq (.ops f44r5) .ret)))))
theorem f44_calls {args : List Value} {h : Heap} {R : Ending → Heap → Prop} (ha : args.length ≤ 30) (hs : swp Try.prog f44 (retQ [.t 4] R) (argEnv 0 args) [] h) : CallsH Try.prog 44 args h R :=
  calls_of_swp mixed Try.func44 rfl (by kernel_rfl) (by kernel_rfl) (by kernel_rfl) ha hs

/-! 45: tabor/keys.rules$5 -/
def f45r0 : List SOper := [
  ⟨(some 3), none, .box (.tmp 1)⟩,
  ⟨(some 4), none, .mv (.const (.int .i64 0))⟩]
def f45r1 : List SOper := [
  ⟨(some 5), none, .mv (.tmp 0)⟩,
  ⟨(some 6), none, .mv (.tmp 0)⟩,
  ⟨(some 7), none, .nilck (.tmp 6)⟩,
  ⟨(some 8), none, .fa 3 (.tmp 7)⟩,
  ⟨(some 9), none, .ld1 (.tmp 8)⟩,
  ⟨(some 10), none, .fa 3 (.tmp 3)⟩,
  ⟨(some 11), none, .ld1 (.tmp 10)⟩,
  ⟨(some 12), none, .bslice [(.string ⟨#[]⟩)] 1 [(0, 1)] [(.tmp 11)]⟩,
  ⟨(some 13), none, .call 46 [(.tmp 9), (.const (.int .i64 0)), (.tmp 12)]⟩,
  ⟨(some 14), none, .nilck (.tmp 5)⟩,
  ⟨(some 15), none, .fa 3 (.tmp 14)⟩,
  ⟨none, none, .st 1 (.tmp 15) (.tmp 13)⟩]
def f45r2 : List SOper := [
  ⟨(some 4), none, .mv (.const (.int .i64 0))⟩]
def f45 : SCode := (.seq (.ops f45r0) (.seq (.ops f45r1) (.seq (.ops f45r2) .ret)))
theorem f45_calls {args : List Value} {h : Heap} {R : Ending → Heap → Prop} (ha : args.length ≤ 16) (hs : swp Try.prog f45 (retQ [.t 4] R) (argEnv 0 args) [] h) : CallsH Try.prog 45 args h R :=
  calls_of_swp mixed Try.func45 rfl (by kernel_rfl) (by kernel_rfl) (by kernel_rfl) ha hs

/-! 46: slices.Insert[[]string,string]: not simplified -/

/-! 47: tabor/keys.rules$6 -/
def f47r0 : List SOper := [
  ⟨(some 3), none, .box (.tmp 1)⟩,
  ⟨(some 4), none, .mv (.const (.int .i64 0))⟩]
def f47r1 : List SOper := [
  ⟨(some 5), none, .mv (.tmp 0)⟩,
  ⟨(some 6), none, .mv (.tmp 0)⟩,
  ⟨(some 7), none, .nilck (.tmp 6)⟩,
  ⟨(some 8), none, .fa 3 (.tmp 7)⟩,
  ⟨(some 9), none, .ld1 (.tmp 8)⟩,
  ⟨(some 10), none, .fa 3 (.tmp 3)⟩,
  ⟨(some 11), none, .ld1 (.tmp 10)⟩,
  ⟨(some 12), none, .bslice [(.string ⟨#[]⟩)] 1 [(0, 1)] [(.tmp 11)]⟩,
  ⟨(some 13), none, .app 1 16 [(.string ⟨#[]⟩)] (.tmp 9) (.tmp 12)⟩,
  ⟨(some 14), none, .nilck (.tmp 5)⟩,
  ⟨(some 15), none, .fa 3 (.tmp 14)⟩,
  ⟨none, none, .st 1 (.tmp 15) (.tmp 13)⟩]
def f47r2 : List SOper := [
  ⟨(some 4), none, .mv (.const (.int .i64 0))⟩]
def f47 : SCode := (.seq (.ops f47r0) (.seq (.ops f47r1) (.seq (.ops f47r2) .ret)))
theorem f47_calls {args : List Value} {h : Heap} {R : Ending → Heap → Prop} (ha : args.length ≤ 16) (hs : swp Try.prog f47 (retQ [.t 4] R) (argEnv 0 args) [] h) : CallsH Try.prog 47 args h R :=
  calls_of_swp mixed Try.func47 rfl (by kernel_rfl) (by kernel_rfl) (by kernel_rfl) ha hs

/-! 48: tabor/keys.rules$7 -/
def f48r0 : List SOper := [
  ⟨(some 3), none, .box (.tmp 1)⟩,
  ⟨(some 4), none, .mv (.const (.int .i64 0))⟩]
def f48r1 : List SOper := [
  ⟨(some 5), none, .mv (.tmp 0)⟩,
  ⟨(some 6), none, .mv (.tmp 0)⟩,
  ⟨(some 7), none, .nilck (.tmp 6)⟩,
  ⟨(some 8), none, .fa 3 (.tmp 7)⟩,
  ⟨(some 9), none, .ld1 (.tmp 8)⟩,
  ⟨(some 10), none, .slc 1 (.tmp 9) (some (.const (.int .i64 1))) none⟩,
  ⟨(some 11), none, .nilck (.tmp 5)⟩,
  ⟨(some 12), none, .fa 3 (.tmp 11)⟩,
  ⟨none, none, .st 1 (.tmp 12) (.tmp 10)⟩]
def f48r2 : List SOper := [
  ⟨(some 4), none, .mv (.const (.int .i64 0))⟩]
def f48 : SCode := (.seq (.ops f48r0) (.seq (.ops f48r1) (.seq (.ops f48r2) .ret)))
theorem f48_calls {args : List Value} {h : Heap} {R : Ending → Heap → Prop} (ha : args.length ≤ 13) (hs : swp Try.prog f48 (retQ [.t 4] R) (argEnv 0 args) [] h) : CallsH Try.prog 48 args h R :=
  calls_of_swp mixed Try.func48 rfl (by kernel_rfl) (by kernel_rfl) (by kernel_rfl) ha hs

/-! 49: tabor/keys.rules$8 -/
def f49r0 : List SOper := [
  ⟨(some 3), none, .box (.tmp 1)⟩,
  ⟨(some 4), none, .mv (.const (.int .i64 0))⟩]
def f49r1 : List SOper := [
  ⟨(some 5), none, .mv (.tmp 0)⟩,
  ⟨(some 6), none, .mv (.tmp 0)⟩,
  ⟨(some 7), none, .nilck (.tmp 6)⟩,
  ⟨(some 8), none, .fa 3 (.tmp 7)⟩,
  ⟨(some 9), none, .ld1 (.tmp 8)⟩,
  ⟨(some 10), none, .mv (.tmp 0)⟩,
  ⟨(some 11), none, .nilck (.tmp 10)⟩,
  ⟨(some 12), none, .fa 3 (.tmp 11)⟩,
  ⟨(some 13), none, .ld1 (.tmp 12)⟩,
  ⟨(some 14), none, .len (.tmp 13)⟩,
  ⟨(some 15), none, .ar .sub (.tmp 14) (.const (.int .i64 1))⟩,
  ⟨(some 16), none, .slc 1 (.tmp 9) none (some (.tmp 15))⟩,
  ⟨(some 17), none, .nilck (.tmp 5)⟩,
  ⟨(some 18), none, .fa 3 (.tmp 17)⟩,
  ⟨none, none, .st 1 (.tmp 18) (.tmp 16)⟩]
def f49r2 : List SOper := [
  ⟨(some 4), none, .mv (.const (.int .i64 0))⟩]
def f49 : SCode := (.seq (.ops f49r0) (.seq (.ops f49r1) (.seq (.ops f49r2) .ret)))
theorem f49_calls {args : List Value} {h : Heap} {R : Ending → Heap → Prop} (ha : args.length ≤ 19) (hs : swp Try.prog f49 (retQ [.t 4] R) (argEnv 0 args) [] h) : CallsH Try.prog 49 args h R :=
  calls_of_swp mixed Try.func49 rfl (by kernel_rfl) (by kernel_rfl) (by kernel_rfl) ha hs

/-! 50: tabor/keys.at -/
def f50r0 : List SOper := [
  ⟨(some 3), none, .box (.tmp 1)⟩,
  ⟨(some 4), none, .mv (.const (.int .i64 0))⟩]
def f50r1 : List SOper := [
  ⟨(some 5), none, .fa 4 (.tmp 3)⟩,
  ⟨(some 6), none, .ld1 (.tmp 5)⟩,
  ⟨(some 7), none, .cmp .lss (.tmp 6) (.const (.int .i64 0))⟩,
  ⟨(some 8), none, .mv (.tmp 7)⟩,
  ⟨(some 9), (some (8, false)), .fa 4 (.tmp 3)⟩,
  ⟨(some 10), (some (8, false)), .ld1 (.tmp 9)⟩,
  ⟨(some 11), (some (8, false)), .mv (.tmp 0)⟩,
  ⟨(some 12), (some (8, false)), .nilck (.tmp 11)⟩,
  ⟨(some 13), (some (8, false)), .fa 3 (.tmp 12)⟩,
  ⟨(some 14), (some (8, false)), .ld1 (.tmp 13)⟩,
  ⟨(some 15), (some (8, false)), .len (.tmp 14)⟩,
  ⟨(some 16), (some (8, false)), .cmp .geq (.tmp 10) (.tmp 15)⟩,
  ⟨(some 17), none, .pick (.tmp 8) (.const (.bool true)) (.tmp 16)⟩]
def f50r2 : List SOper := [
  ⟨(some 4), none, .mv (.const (.int .i64 4))⟩]
def f50r3 : List SOper := [
  ⟨(some 18), none, .mv (.tmp 0)⟩,
  ⟨(some 19), none, .nilck (.tmp 18)⟩,
  ⟨(some 20), none, .fa 3 (.tmp 19)⟩,
  ⟨(some 21), none, .ld1 (.tmp 20)⟩,
  ⟨(some 22), none, .fa 4 (.tmp 3)⟩,
  ⟨(some 23), none, .ld1 (.tmp 22)⟩,
  ⟨(some 24), none, .fa 3 (.tmp 3)⟩,
  ⟨(some 25), none, .ld1 (.tmp 24)⟩,
  ⟨(some 26), none, .ixs 1 (.tmp 21) (.tmp 23)⟩,
  ⟨none, none, .st 1 (.tmp 26) (.tmp 25)⟩]
def f50r4 : List SOper := [
  ⟨(some 4), none, .mv (.const (.int .i64 0))⟩]
def f50 : SCode := (.seq (.ops f50r0) (.seq (.seq (.ops f50r1) (.cond (.tmp 17) (.seq (.ops f50r2) .ret) .skip)) (.seq (.ops f50r3) (.seq (.ops f50r4) .ret))))
theorem f50_calls {args : List Value} {h : Heap} {R : Ending → Heap → Prop} (ha : args.length ≤ 27) (hs : swp Try.prog f50 (retQ [.t 4] R) (argEnv 0 args) [] h) : CallsH Try.prog 50 args h R :=
  calls_of_swp mixed Try.func50 rfl (by kernel_rfl) (by kernel_rfl) (by kernel_rfl) ha hs

/-! 51: tabor/keys.add -/
def f51r0 : List SOper := [
  ⟨(some 3), none, .box (.tmp 1)⟩,
  ⟨(some 4), none, .mv (.const (.int .i64 0))⟩]
def f51r1 : List SOper := [
  ⟨(some 8), none, .mv (.tmp 0)⟩,
  ⟨(some 9), none, .nilck (.tmp 8)⟩,
  ⟨(some 10), none, .fa 3 (.tmp 9)⟩,
  ⟨(some 11), none, .ld1 (.tmp 10)⟩,
  ⟨(some 12), none, .fa 2 (.tmp 3)⟩,
  ⟨(some 13), none, .ld1 (.tmp 12)⟩,
  ⟨(some 14), none, .call 64 [(.tmp 11), (.func 65), (.tmp 13)]⟩,
  ⟨(some 7), none, .mv (.tmp 14)⟩,
  ⟨(some 15), none, .ext (.tmp 7) 0⟩,
  ⟨(some 16), none, .ext (.tmp 7) 1⟩,
  ⟨(some 5), none, .mv (.tmp 15)⟩,
  ⟨(some 6), none, .mv (.tmp 16)⟩]
def f51r2 : List SOper := [
  ⟨(some 17), none, .mv (.tmp 6)⟩,
  ⟨(some 18), none, .un .not (.tmp 17)⟩]
def f51r3 : List SOper := [
  ⟨(some 19), none, .mv (.tmp 0)⟩,
  ⟨(some 20), none, .mv (.tmp 0)⟩,
  ⟨(some 21), none, .nilck (.tmp 20)⟩,
  ⟨(some 22), none, .fa 3 (.tmp 21)⟩,
  ⟨(some 23), none, .ld1 (.tmp 22)⟩,
  ⟨(some 24), none, .mv (.tmp 5)⟩,
  ⟨(some 25), none, .fa 2 (.tmp 3)⟩,
  ⟨(some 26), none, .ld1 (.tmp 25)⟩,
  ⟨(some 27), none, .bslice [(.string ⟨#[]⟩)] 1 [(0, 1)] [(.tmp 26)]⟩,
  ⟨(some 28), none, .call 46 [(.tmp 23), (.tmp 24), (.tmp 27)]⟩,
  ⟨(some 29), none, .nilck (.tmp 19)⟩,
  ⟨(some 30), none, .fa 3 (.tmp 29)⟩,
  ⟨none, none, .st 1 (.tmp 30) (.tmp 28)⟩]
def f51r4 : List SOper := [
  ⟨(some 4), none, .mv (.const (.int .i64 0))⟩]
def f51 : SCode := (.seq (.ops f51r0) (.seq (.seq (.ops f51r1) (.seq (.ops f51r2) (.cond (.tmp 18) (.ops f51r3) .skip))) (.seq (.ops f51r4) .ret)))
theorem f51_calls {args : List Value} {h : Heap} {R : Ending → Heap → Prop} (ha : args.length ≤ 31) (hs : swp Try.prog f51 (retQ [.t 4] R) (argEnv 0 args) [] h) : CallsH Try.prog 51 args h R :=
  calls_of_swp mixed Try.func51 rfl (by kernel_rfl) (by kernel_rfl) (by kernel_rfl) ha hs

/-! 52: tabor/keys.remove -/
def f52r0 : List SOper := [
  ⟨(some 3), none, .box (.tmp 1)⟩,
  ⟨(some 4), none, .mv (.const (.int .i64 0))⟩]
def f52r1 : List SOper := [
  ⟨(some 8), none, .mv (.tmp 0)⟩,
  ⟨(some 9), none, .nilck (.tmp 8)⟩,
  ⟨(some 10), none, .fa 3 (.tmp 9)⟩,
  ⟨(some 11), none, .ld1 (.tmp 10)⟩,
  ⟨(some 12), none, .fa 2 (.tmp 3)⟩,
  ⟨(some 13), none, .ld1 (.tmp 12)⟩,
  ⟨(some 14), none, .call 64 [(.tmp 11), (.func 65), (.tmp 13)]⟩,
  ⟨(some 7), none, .mv (.tmp 14)⟩,
  ⟨(some 15), none, .ext (.tmp 7) 0⟩,
  ⟨(some 16), none, .ext (.tmp 7) 1⟩,
  ⟨(some 5), none, .mv (.tmp 15)⟩,
  ⟨(some 6), none, .mv (.tmp 16)⟩]
def f52r2 : List SOper := [
  ⟨(some 17), none, .mv (.tmp 6)⟩,
  ⟨(some 18), none, .un .not (.tmp 17)⟩]
def f52r3 : List SOper := [
  ⟨(some 4), none, .mv (.const (.int .i64 5))⟩]
def f52r4 : List SOper := [
  ⟨(some 19), none, .mv (.tmp 0)⟩,
  ⟨(some 20), none, .mv (.tmp 0)⟩,
  ⟨(some 21), none, .nilck (.tmp 20)⟩,
  ⟨(some 22), none, .fa 3 (.tmp 21)⟩,
  ⟨(some 23), none, .ld1 (.tmp 22)⟩,
  ⟨(some 24), none, .mv (.tmp 5)⟩,
  ⟨(some 25), none, .mv (.tmp 5)⟩,
  ⟨(some 26), none, .ar .add (.tmp 25) (.const (.int .i64 1))⟩,
  ⟨(some 27), none, .call 66 [(.tmp 23), (.tmp 24), (.tmp 26)]⟩,
  ⟨(some 28), none, .nilck (.tmp 19)⟩,
  ⟨(some 29), none, .fa 3 (.tmp 28)⟩,
  ⟨none, none, .st 1 (.tmp 29) (.tmp 27)⟩]
def f52r5 : List SOper := [
  ⟨(some 4), none, .mv (.const (.int .i64 0))⟩]
def f52 : SCode := (.seq (.ops f52r0) (.seq (.ops f52r1) (.seq (.seq (.ops f52r2) (.cond (.tmp 18) (.seq (.ops f52r3) .ret) .skip)) (.seq (.ops f52r4) (.seq (.ops f52r5) .ret)))))
theorem f52_calls {args : List Value} {h : Heap} {R : Ending → Heap → Prop} (ha : args.length ≤ 30) (hs : swp Try.prog f52 (retQ [.t 4] R) (argEnv 0 args) [] h) : CallsH Try.prog 52 args h R :=
  calls_of_swp mixed Try.func52 rfl (by kernel_rfl) (by kernel_rfl) (by kernel_rfl) ha hs

/-! 53: tabor/keys.rank -/
def f53r0 : List SOper := [
  ⟨(some 3), none, .box (.tmp 1)⟩,
  ⟨(some 4), none, .mv (.const (.int .i64 0))⟩]
def f53r1 : List SOper := [
  ⟨(some 8), none, .mv (.tmp 0)⟩,
  ⟨(some 9), none, .ldn 5 (.tmp 3)⟩,
  ⟨(some 10), none, .call 54 [(.tmp 8), (.tmp 9)]⟩]
def f53r2 : List SOper := [
  ⟨(some 11), none, .fa 2 (.tmp 3)⟩,
  ⟨(some 12), none, .ld1 (.tmp 11)⟩,
  ⟨(some 13), none, .fa 4 (.tmp 3)⟩,
  ⟨(some 14), none, .ld1 (.tmp 13)⟩,
  ⟨(some 15), none, .build [(.string ⟨#[]⟩), (.int .i64 0)] [(0, 1), (1, 1)] [(.tmp 12), (.tmp 14)]⟩,
  ⟨(some 5), none, .new [(.string ⟨#[]⟩), (.int .i64 0)]⟩,
  ⟨none, none, .st 2 (.tmp 5) (.tmp 15)⟩]
def f53r3 : List SOper := [
  ⟨(some 17), none, .mv (.tmp 0)⟩,
  ⟨(some 18), none, .nilck (.tmp 17)⟩,
  ⟨(some 19), none, .fa 4 (.tmp 18)⟩,
  ⟨(some 20), none, .ld1 (.tmp 19)⟩,
  ⟨(some 21), none, .ldn 2 (.tmp 5)⟩,
  ⟨(some 22), none, .call 67 [(.tmp 20), (.tmp 21), (.func 21)]⟩,
  ⟨(some 16), none, .mv (.tmp 22)⟩,
  ⟨(some 23), none, .ext (.tmp 16) 0⟩,
  ⟨(some 24), none, .ext (.tmp 16) 1⟩,
  ⟨(some 6), none, .mv (.tmp 23)⟩,
  ⟨(some 7), none, .mv (.tmp 24)⟩]
def f53r4 : List SOper := [
  ⟨(some 25), none, .mv (.tmp 0)⟩,
  ⟨(some 26), none, .mv (.tmp 0)⟩,
  ⟨(some 27), none, .nilck (.tmp 26)⟩,
  ⟨(some 28), none, .fa 4 (.tmp 27)⟩,
  ⟨(some 29), none, .ld1 (.tmp 28)⟩,
  ⟨(some 30), none, .mv (.tmp 6)⟩,
  ⟨(some 31), none, .ldn 2 (.tmp 5)⟩,
  ⟨(some 32), none, .bslice [(.string ⟨#[]⟩), (.int .i64 0)] 1 [(0, 2)] [(.tmp 31)]⟩,
  ⟨(some 33), none, .call 68 [(.tmp 29), (.tmp 30), (.tmp 32)]⟩,
  ⟨(some 34), none, .nilck (.tmp 25)⟩,
  ⟨(some 35), none, .fa 4 (.tmp 34)⟩,
  ⟨none, none, .st 1 (.tmp 35) (.tmp 33)⟩]
def f53r5 : List SOper := [
  ⟨(some 4), none, .mv (.const (.int .i64 0))⟩]
def f53 : SCode := (.seq (.ops f53r0) (.seq (.ops f53r1) (.seq (.ops f53r2) (.seq (.ops f53r3) (.seq (.ops f53r4) (.seq (.ops f53r5) .ret))))))
theorem f53_calls {args : List Value} {h : Heap} {R : Ending → Heap → Prop} (ha : args.length ≤ 36) (hs : swp Try.prog f53 (retQ [.t 4] R) (argEnv 0 args) [] h) : CallsH Try.prog 53 args h R :=
  calls_of_swp mixed Try.func53 rfl (by kernel_rfl) (by kernel_rfl) (by kernel_rfl) ha hs

/-! 54: tabor/keys.unrank -/
def f54r0 : List SOper := [
  ⟨(some 3), none, .box (.tmp 1)⟩,
  ⟨(some 4), none, .mv (.const (.int .i64 0))⟩]
def f54r1 : List SOper := [
  ⟨(some 6), none, .mv (.tmp 0)⟩,
  ⟨(some 7), none, .nilck (.tmp 6)⟩,
  ⟨(some 8), none, .fa 4 (.tmp 7)⟩,
  ⟨(some 9), none, .ld1 (.tmp 8)⟩,
  ⟨(some 10), none, .fn 70 [] [(.tmp 3)]⟩,
  ⟨(some 11), none, .call 69 [(.tmp 9), (.tmp 10)]⟩,
  ⟨(some 5), none, .mv (.tmp 11)⟩]
def f54r2 : List SOper := [
  ⟨(some 12), none, .mv (.tmp 5)⟩,
  ⟨(some 13), none, .cmp .lss (.tmp 12) (.const (.int .i64 0))⟩]
def f54r3 : List SOper := [
  ⟨(some 4), none, .mv (.const (.int .i64 5))⟩]
def f54r4 : List SOper := [
  ⟨(some 14), none, .mv (.tmp 0)⟩,
  ⟨(some 15), none, .mv (.tmp 0)⟩,
  ⟨(some 16), none, .nilck (.tmp 15)⟩,
  ⟨(some 17), none, .fa 4 (.tmp 16)⟩,
  ⟨(some 18), none, .ld1 (.tmp 17)⟩,
  ⟨(some 19), none, .mv (.tmp 5)⟩,
  ⟨(some 20), none, .mv (.tmp 5)⟩,
  ⟨(some 21), none, .ar .add (.tmp 20) (.const (.int .i64 1))⟩,
  ⟨(some 22), none, .call 71 [(.tmp 18), (.tmp 19), (.tmp 21)]⟩,
  ⟨(some 23), none, .nilck (.tmp 14)⟩,
  ⟨(some 24), none, .fa 4 (.tmp 23)⟩,
  ⟨none, none, .st 1 (.tmp 24) (.tmp 22)⟩]
def f54r5 : List SOper := [
  ⟨(some 4), none, .mv (.const (.int .i64 0))⟩]
def f54 : SCode := (.seq (.ops f54r0) (.seq (.ops f54r1) (.seq (.seq (.ops f54r2) (.cond (.tmp 13) (.seq (.ops f54r3) .ret) .skip)) (.seq (.ops f54r4) (.seq (.ops f54r5) .ret)))))
theorem f54_calls {args : List Value} {h : Heap} {R : Ending → Heap → Prop} (ha : args.length ≤ 25) (hs : swp Try.prog f54 (retQ [.t 4] R) (argEnv 0 args) [] h) : CallsH Try.prog 54 args h R :=
  calls_of_swp mixed Try.func54 rfl (by kernel_rfl) (by kernel_rfl) (by kernel_rfl) ha hs

/-! 55: slices.Clone[[]tabor/api.Pair,tabor/api.Pair] -/
def f55r0 : List SOper := [
  ⟨(some 2), none, .mv (.const (.slice none 0 0))⟩]
def f55r1 : List SOper := [
  ⟨(some 3), none, .mv (.tmp 0)⟩,
  ⟨(some 4), none, .eqn 1 false (.tmp 3)⟩]
def f55r2 : List SOper := [
  ⟨(some 2), none, .mv (.const (.slice none 0 0))⟩]
def f55r3 : List SOper := [
  ⟨(some 5), none, .bslice [] 0 [] []⟩,
  ⟨(some 6), none, .mv (.tmp 0)⟩,
  ⟨(some 7), none, .app 2 32 [(.string ⟨#[]⟩), (.string ⟨#[]⟩)] (.tmp 5) (.tmp 6)⟩,
  ⟨(some 2), none, .mv (.tmp 7)⟩]
def f55 : SCode := (.seq (.ops f55r0) (.seq (.seq (.ops f55r1) (.cond (.tmp 4) (.seq (.ops f55r2) .ret) .skip)) (.seq (.ops f55r3) .ret)))
theorem f55_calls {args : List Value} {h : Heap} {R : Ending → Heap → Prop} (ha : args.length ≤ 8) (hs : swp Try.prog f55 (retQ [.t 2] R) (argEnv 0 args) [] h) : CallsH Try.prog 55 args h R :=
  calls_of_swp mixed Try.func55 rfl (by kernel_rfl) (by kernel_rfl) (by kernel_rfl) ha hs

/-! 56: slices.Clone[[]string,string] -/
def f56r0 : List SOper := [
  ⟨(some 2), none, .mv (.const (.slice none 0 0))⟩]
def f56r1 : List SOper := [
  ⟨(some 3), none, .mv (.tmp 0)⟩,
  ⟨(some 4), none, .eqn 1 false (.tmp 3)⟩]
def f56r2 : List SOper := [
  ⟨(some 2), none, .mv (.const (.slice none 0 0))⟩]
def f56r3 : List SOper := [
  ⟨(some 5), none, .bslice [] 0 [] []⟩,
  ⟨(some 6), none, .mv (.tmp 0)⟩,
  ⟨(some 7), none, .app 1 16 [(.string ⟨#[]⟩)] (.tmp 5) (.tmp 6)⟩,
  ⟨(some 2), none, .mv (.tmp 7)⟩]
def f56 : SCode := (.seq (.ops f56r0) (.seq (.seq (.ops f56r1) (.cond (.tmp 4) (.seq (.ops f56r2) .ret) .skip)) (.seq (.ops f56r3) .ret)))
theorem f56_calls {args : List Value} {h : Heap} {R : Ending → Heap → Prop} (ha : args.length ≤ 8) (hs : swp Try.prog f56 (retQ [.t 2] R) (argEnv 0 args) [] h) : CallsH Try.prog 56 args h R :=
  calls_of_swp mixed Try.func56 rfl (by kernel_rfl) (by kernel_rfl) (by kernel_rfl) ha hs

/-! 57: slices.Clone[[]tabor/api.Rank,tabor/api.Rank] -/
def f57r0 : List SOper := [
  ⟨(some 2), none, .mv (.const (.slice none 0 0))⟩]
def f57r1 : List SOper := [
  ⟨(some 3), none, .mv (.tmp 0)⟩,
  ⟨(some 4), none, .eqn 1 false (.tmp 3)⟩]
def f57r2 : List SOper := [
  ⟨(some 2), none, .mv (.const (.slice none 0 0))⟩]
def f57r3 : List SOper := [
  ⟨(some 5), none, .bslice [] 0 [] []⟩,
  ⟨(some 6), none, .mv (.tmp 0)⟩,
  ⟨(some 7), none, .app 2 24 [(.string ⟨#[]⟩), (.int .i64 0)] (.tmp 5) (.tmp 6)⟩,
  ⟨(some 2), none, .mv (.tmp 7)⟩]
def f57 : SCode := (.seq (.ops f57r0) (.seq (.seq (.ops f57r1) (.cond (.tmp 4) (.seq (.ops f57r2) .ret) .skip)) (.seq (.ops f57r3) .ret)))
theorem f57_calls {args : List Value} {h : Heap} {R : Ending → Heap → Prop} (ha : args.length ≤ 8) (hs : swp Try.prog f57 (retQ [.t 2] R) (argEnv 0 args) [] h) : CallsH Try.prog 57 args h R :=
  calls_of_swp mixed Try.func57 rfl (by kernel_rfl) (by kernel_rfl) (by kernel_rfl) ha hs

/-! 58: tabor/keys.byName[tabor/api.Pair] -/
def f58r0 : List SOper := [
  ⟨(some 4), none, .box (.tmp 1)⟩,
  ⟨(some 6), none, .mv (.const (.int .i64 0))⟩,
  ⟨(some 7), none, .mv (.const (.bool false))⟩]
def f58r1 : List SOper := [
  ⟨(some 8), none, .mv (.tmp 0)⟩,
  ⟨(some 9), none, .mv (.tmp 2)⟩,
  ⟨(some 10), none, .fn 73 [] [(.tmp 4)]⟩,
  ⟨(some 11), none, .call 72 [(.tmp 8), (.tmp 9), (.tmp 10)]⟩,
  ⟨(some 12), none, .ext (.tmp 11) 0⟩,
  ⟨(some 13), none, .ext (.tmp 11) 1⟩,
  ⟨(some 6), none, .mv (.tmp 12)⟩,
  ⟨(some 7), none, .mv (.tmp 13)⟩]
def f58 : SCode := (.seq (.ops f58r0) (.seq (.ops f58r1) .ret))
theorem f58_calls {args : List Value} {h : Heap} {R : Ending → Heap → Prop} (ha : args.length ≤ 14) (hs : swp Try.prog f58 (retQ [.t 6, .t 7] R) (argEnv 0 args) [] h) : CallsH Try.prog 58 args h R :=
  calls_of_swp mixed Try.func58 rfl (by kernel_rfl) (by kernel_rfl) (by kernel_rfl) ha hs

/-! 59: tabor/keys.pairName -/
def f59r0 : List SOper := [
  ⟨(some 1), none, .box (.tmp 0)⟩,
  ⟨(some 2), none, .mv (.const (.string ⟨#[]⟩))⟩]
def f59r1 : List SOper := [
  ⟨(some 3), none, .fa 0 (.tmp 1)⟩,
  ⟨(some 4), none, .ld1 (.tmp 3)⟩,
  ⟨(some 2), none, .mv (.tmp 4)⟩]
def f59 : SCode := (.seq (.ops f59r0) (.seq (.ops f59r1) .ret))
theorem f59_calls {args : List Value} {h : Heap} {R : Ending → Heap → Prop} (ha : args.length ≤ 5) (hs : swp Try.prog f59 (retQ [.t 2] R) (argEnv 0 args) [] h) : CallsH Try.prog 59 args h R :=
  calls_of_swp mixed Try.func59 rfl (by kernel_rfl) (by kernel_rfl) (by kernel_rfl) ha hs

/-! 60: slices.Insert[[]tabor/api.Pair,tabor/api.Pair]: not simplified -/

/-! 61: slices.Delete[[]tabor/api.Pair,tabor/api.Pair]: not simplified -/

/-! 62: slices.overlaps[string]: not simplified -/

/-! 63: slices.rotateRight[string] -/
def f63r0 : List SOper := [
  ⟨(some 4), none, .mv (.tmp 0)⟩,
  ⟨(some 5), none, .mv (.tmp 0)⟩,
  ⟨(some 6), none, .len (.tmp 5)⟩,
  ⟨(some 7), none, .mv (.tmp 1)⟩,
  ⟨(some 8), none, .ar .sub (.tmp 6) (.tmp 7)⟩,
  ⟨(some 9), none, .call 76 [(.tmp 4), (.tmp 8)]⟩]
def f63 : SCode := (.ops f63r0)
theorem f63_calls {args : List Value} {h : Heap} {R : Ending → Heap → Prop} (ha : args.length ≤ 10) (hs : swp Try.prog f63 (retQ [] R) (argEnv 0 args) [] h) : CallsH Try.prog 63 args h R :=
  calls_of_swp mixed Try.func63 rfl (by kernel_rfl) (by kernel_rfl) (by kernel_rfl) ha hs

/-! 64: tabor/keys.byName[string] -/
def f64r0 : List SOper := [
  ⟨(some 4), none, .box (.tmp 1)⟩,
  ⟨(some 6), none, .mv (.const (.int .i64 0))⟩,
  ⟨(some 7), none, .mv (.const (.bool false))⟩]
def f64r1 : List SOper := [
  ⟨(some 8), none, .mv (.tmp 0)⟩,
  ⟨(some 9), none, .mv (.tmp 2)⟩,
  ⟨(some 10), none, .fn 78 [] [(.tmp 4)]⟩,
  ⟨(some 11), none, .call 77 [(.tmp 8), (.tmp 9), (.tmp 10)]⟩,
  ⟨(some 12), none, .ext (.tmp 11) 0⟩,
  ⟨(some 13), none, .ext (.tmp 11) 1⟩,
  ⟨(some 6), none, .mv (.tmp 12)⟩,
  ⟨(some 7), none, .mv (.tmp 13)⟩]
def f64 : SCode := (.seq (.ops f64r0) (.seq (.ops f64r1) .ret))
theorem f64_calls {args : List Value} {h : Heap} {R : Ending → Heap → Prop} (ha : args.length ≤ 14) (hs : swp Try.prog f64 (retQ [.t 6, .t 7] R) (argEnv 0 args) [] h) : CallsH Try.prog 64 args h R :=
  calls_of_swp mixed Try.func64 rfl (by kernel_rfl) (by kernel_rfl) (by kernel_rfl) ha hs

/-! 65: tabor/keys.itself -/
def f65r0 : List SOper := [
  ⟨(some 2), none, .mv (.const (.string ⟨#[]⟩))⟩]
def f65r1 : List SOper := [
  ⟨(some 3), none, .mv (.tmp 0)⟩,
  ⟨(some 2), none, .mv (.tmp 3)⟩]
def f65 : SCode := (.seq (.ops f65r0) (.seq (.ops f65r1) .ret))
theorem f65_calls {args : List Value} {h : Heap} {R : Ending → Heap → Prop} (ha : args.length ≤ 4) (hs : swp Try.prog f65 (retQ [.t 2] R) (argEnv 0 args) [] h) : CallsH Try.prog 65 args h R :=
  calls_of_swp mixed Try.func65 rfl (by kernel_rfl) (by kernel_rfl) (by kernel_rfl) ha hs

/-! 66: slices.Delete[[]string,string]: not simplified -/

/-! 67: slices.BinarySearchFunc[[]tabor/api.Rank,tabor/api.Rank,tabor/api.Rank] -/
def f67r0 : List SOper := [
  ⟨(some 4), none, .box (.tmp 1)⟩,
  ⟨(some 6), none, .mv (.const (.int .i64 0))⟩,
  ⟨(some 7), none, .mv (.const (.bool false))⟩]
def f67r1 : List SOper := [
  ⟨(some 12), none, .mv (.tmp 0)⟩,
  ⟨(some 13), none, .len (.tmp 12)⟩,
  ⟨(some 8), none, .mv (.tmp 13)⟩]
def f67r2 : List SOper := [
  ⟨(some 14), none, .mv (.tmp 8)⟩,
  ⟨(some 9), none, .mv (.const (.int .i64 0))⟩,
  ⟨(some 10), none, .mv (.tmp 14)⟩]
def f67r3 : List SOper := [
  ⟨(some 15), none, .mv (.tmp 9)⟩,
  ⟨(some 16), none, .mv (.tmp 10)⟩,
  ⟨(some 17), none, .cmp .lss (.tmp 15) (.tmp 16)⟩]
def f67r4 : List SOper := [
  ⟨(some 18), none, .mv (.tmp 9)⟩,
  ⟨(some 19), none, .mv (.tmp 10)⟩,
  ⟨(some 20), none, .ar .add (.tmp 18) (.tmp 19)⟩,
  ⟨(some 21), none, .cvt .u64 (.tmp 20)⟩,
  ⟨(some 22), none, .sh .u64 false 1 (.tmp 21)⟩,
  ⟨(some 23), none, .cvt .i64 (.tmp 22)⟩,
  ⟨(some 11), none, .mv (.tmp 23)⟩]
def f67r5 : List SOper := [
  ⟨(some 24), none, .mv (.tmp 2)⟩,
  ⟨(some 25), none, .mv (.tmp 0)⟩,
  ⟨(some 26), none, .mv (.tmp 11)⟩,
  ⟨(some 27), none, .ixs 2 (.tmp 25) (.tmp 26)⟩,
  ⟨(some 28), none, .ldn 2 (.tmp 27)⟩,
  ⟨(some 29), none, .ldn 2 (.tmp 4)⟩,
  ⟨(some 30), none, .callv (.tmp 24) [(.tmp 28), (.tmp 29)]⟩,
  ⟨(some 31), none, .cmp .lss (.tmp 30) (.const (.int .i64 0))⟩]
def f67r6 : List SOper := [
  ⟨(some 32), none, .mv (.tmp 11)⟩,
  ⟨(some 33), none, .ar .add (.tmp 32) (.const (.int .i64 1))⟩,
  ⟨(some 9), none, .mv (.tmp 33)⟩]
def f67r7 : List SOper := [
  ⟨(some 34), none, .mv (.tmp 11)⟩,
  ⟨(some 10), none, .mv (.tmp 34)⟩]
def f67l8 : SCode := (.seq (.seq (.ops f67r3) (.cond (.tmp 17) .skip (.exit 0))) (.block 1 (.seq (.ops f67r4) (.seq (.ops f67r5) (.cond (.tmp 31) (.ops f67r6) (.ops f67r7))))))
def f67r9 : List SOper := [
  ⟨(some 35), none, .mv (.tmp 9)⟩,
  ⟨(some 36), none, .mv (.tmp 9)⟩,
  ⟨(some 37), none, .mv (.tmp 8)⟩,
  ⟨(some 38), none, .cmp .lss (.tmp 36) (.tmp 37)⟩,
  ⟨(some 39), none, .mv (.tmp 38)⟩,
  ⟨(some 40), (some (39, true)), .mv (.tmp 2)⟩,
  ⟨(some 41), (some (39, true)), .mv (.tmp 0)⟩,
  ⟨(some 42), (some (39, true)), .mv (.tmp 9)⟩,
  ⟨(some 43), (some (39, true)), .ixs 2 (.tmp 41) (.tmp 42)⟩,
  ⟨(some 44), (some (39, true)), .ldn 2 (.tmp 43)⟩,
  ⟨(some 45), (some (39, true)), .ldn 2 (.tmp 4)⟩,
  ⟨(some 46), (some (39, true)), .callv (.tmp 40) [(.tmp 44), (.tmp 45)]⟩,
  ⟨(some 47), (some (39, true)), .cmp .eql (.tmp 46) (.const (.int .i64 0))⟩,
  ⟨(some 48), none, .pick (.tmp 39) (.tmp 47) (.const (.bool false))⟩,
  ⟨(some 6), none, .mv (.tmp 35)⟩,
  ⟨(some 7), none, .mv (.tmp 48)⟩]
def f67 : SCode := (.seq (.ops f67r0) (.seq (.ops f67r1) (.seq (.ops f67r2) (.seq (.block 0 (.loop f67l8)) (.seq (.ops f67r9) .ret)))))
theorem f67_calls {args : List Value} {h : Heap} {R : Ending → Heap → Prop} (ha : args.length ≤ 49) (hs : swp Try.prog f67 (retQ [.t 6, .t 7] R) (argEnv 0 args) [] h) : CallsH Try.prog 67 args h R :=
  calls_of_swp mixed Try.func67 rfl (by kernel_rfl) (by kernel_rfl) (by kernel_rfl) ha hs

/-! 68: slices.Insert[[]tabor/api.Rank,tabor/api.Rank]: not simplified -/

/-! 69: slices.IndexFunc[[]tabor/api.Rank,tabor/api.Rank] -/
def f69r0 : List SOper := [
  ⟨(some 4), none, .mv (.const (.int .i64 0))⟩]
def f69r1 : List SOper := [
  ⟨(some 6), none, .mv (.tmp 0)⟩,
  ⟨(some 7), none, .len (.tmp 6)⟩,
  ⟨(some 8), none, .mv (.const (.int .i64 0))⟩]
def f69r2 : List SOper := [
  ⟨(some 9), none, .cmp .lss (.tmp 8) (.tmp 7)⟩]
def f69r3 : List SOper := [
  ⟨(some 10), none, .mv (.tmp 8)⟩,
  ⟨(some 5), none, .mv (.tmp 10)⟩]
def f69r4 : List SOper := [
  ⟨(some 11), none, .mv (.tmp 1)⟩,
  ⟨(some 12), none, .mv (.tmp 0)⟩,
  ⟨(some 13), none, .mv (.tmp 5)⟩,
  ⟨(some 14), none, .ixs 2 (.tmp 12) (.tmp 13)⟩,
  ⟨(some 15), none, .ldn 2 (.tmp 14)⟩,
  ⟨(some 16), none, .callv (.tmp 11) [(.tmp 15)]⟩]
def f69r5 : List SOper := [
  ⟨(some 17), none, .mv (.tmp 5)⟩,
  ⟨(some 4), none, .mv (.tmp 17)⟩]
def f69r6 : List SOper := [
  ⟨(some 18), none, .ar .add (.tmp 8) (.const (.int .i64 1))⟩,
  ⟨(some 8), none, .mv (.tmp 18)⟩]
def f69l7 : SCode := (.seq (.ops f69r2) (.seq (.cond (.tmp 9) .skip (.exit 0)) (.seq (.block 1 (.seq (.ops f69r3) (.seq (.ops f69r4) (.cond (.tmp 16) (.seq (.ops f69r5) .ret) .skip)))) (.ops f69r6))))
def f69r8 : List SOper := [
  ⟨(some 4), none, .mv (.const (.int .i64 (-1)))⟩]
def f69 : SCode := (.seq (.ops f69r0) (.seq (.seq (.ops f69r1) (.block 0 (.loop f69l7))) (.seq (.ops f69r8) .ret)))
theorem f69_calls {args : List Value} {h : Heap} {R : Ending → Heap → Prop} (ha : args.length ≤ 19) (hs : swp Try.prog f69 (retQ [.t 4] R) (argEnv 0 args) [] h) : CallsH Try.prog 69 args h R :=
  calls_of_swp mixed Try.func69 rfl (by kernel_rfl) (by kernel_rfl) (by kernel_rfl) ha hs

/-! 70: tabor/keys.unrank$1 -/
def f70r0 : List SOper := [
  ⟨(some 2), none, .box (.tmp 0)⟩,
  ⟨(some 3), none, .mv (.const (.bool false))⟩]
def f70r1 : List SOper := [
  ⟨(some 4), none, .fa 0 (.tmp 2)⟩,
  ⟨(some 5), none, .ld1 (.tmp 4)⟩,
  ⟨(some 6), none, .fa 2 (.tmp 1)⟩,
  ⟨(some 7), none, .ld1 (.tmp 6)⟩,
  ⟨(some 8), none, .cmp .eql (.tmp 5) (.tmp 7)⟩,
  ⟨(some 3), none, .mv (.tmp 8)⟩]
def f70 : SCode := (.seq (.ops f70r0) (.seq (.ops f70r1) .ret))
theorem f70_calls {args : List Value} {h : Heap} {R : Ending → Heap → Prop} (ha : args.length ≤ 9) (hs : swp Try.prog f70 (retQ [.t 3] R) (argEnv 0 args) [] h) : CallsH Try.prog 70 args h R :=
  calls_of_swp mixed Try.func70 rfl (by kernel_rfl) (by kernel_rfl) (by kernel_rfl) ha hs

/-! 71: slices.Delete[[]tabor/api.Rank,tabor/api.Rank]: not simplified -/

/-! 72: slices.BinarySearchFunc[[]tabor/api.Pair,tabor/api.Pair,string] -/
def f72r0 : List SOper := [
  ⟨(some 6), none, .mv (.const (.int .i64 0))⟩,
  ⟨(some 7), none, .mv (.const (.bool false))⟩]
def f72r1 : List SOper := [
  ⟨(some 12), none, .mv (.tmp 0)⟩,
  ⟨(some 13), none, .len (.tmp 12)⟩,
  ⟨(some 8), none, .mv (.tmp 13)⟩]
def f72r2 : List SOper := [
  ⟨(some 14), none, .mv (.tmp 8)⟩,
  ⟨(some 9), none, .mv (.const (.int .i64 0))⟩,
  ⟨(some 10), none, .mv (.tmp 14)⟩]
def f72r3 : List SOper := [
  ⟨(some 15), none, .mv (.tmp 9)⟩,
  ⟨(some 16), none, .mv (.tmp 10)⟩,
  ⟨(some 17), none, .cmp .lss (.tmp 15) (.tmp 16)⟩]
def f72r4 : List SOper := [
  ⟨(some 18), none, .mv (.tmp 9)⟩,
  ⟨(some 19), none, .mv (.tmp 10)⟩,
  ⟨(some 20), none, .ar .add (.tmp 18) (.tmp 19)⟩,
  ⟨(some 21), none, .cvt .u64 (.tmp 20)⟩,
  ⟨(some 22), none, .sh .u64 false 1 (.tmp 21)⟩,
  ⟨(some 23), none, .cvt .i64 (.tmp 22)⟩,
  ⟨(some 11), none, .mv (.tmp 23)⟩]
def f72r5 : List SOper := [
  ⟨(some 24), none, .mv (.tmp 2)⟩,
  ⟨(some 25), none, .mv (.tmp 0)⟩,
  ⟨(some 26), none, .mv (.tmp 11)⟩,
  ⟨(some 27), none, .ixs 2 (.tmp 25) (.tmp 26)⟩,
  ⟨(some 28), none, .ldn 2 (.tmp 27)⟩,
  ⟨(some 29), none, .mv (.tmp 1)⟩,
  ⟨(some 30), none, .callv (.tmp 24) [(.tmp 28), (.tmp 29)]⟩,
  ⟨(some 31), none, .cmp .lss (.tmp 30) (.const (.int .i64 0))⟩]
def f72r6 : List SOper := [
  ⟨(some 32), none, .mv (.tmp 11)⟩,
  ⟨(some 33), none, .ar .add (.tmp 32) (.const (.int .i64 1))⟩,
  ⟨(some 9), none, .mv (.tmp 33)⟩]
def f72r7 : List SOper := [
  ⟨(some 34), none, .mv (.tmp 11)⟩,
  ⟨(some 10), none, .mv (.tmp 34)⟩]
def f72l8 : SCode := (.seq (.seq (.ops f72r3) (.cond (.tmp 17) .skip (.exit 0))) (.block 1 (.seq (.ops f72r4) (.seq (.ops f72r5) (.cond (.tmp 31) (.ops f72r6) (.ops f72r7))))))
def f72r9 : List SOper := [
  ⟨(some 35), none, .mv (.tmp 9)⟩,
  ⟨(some 36), none, .mv (.tmp 9)⟩,
  ⟨(some 37), none, .mv (.tmp 8)⟩,
  ⟨(some 38), none, .cmp .lss (.tmp 36) (.tmp 37)⟩,
  ⟨(some 39), none, .mv (.tmp 38)⟩,
  ⟨(some 40), (some (39, true)), .mv (.tmp 2)⟩,
  ⟨(some 41), (some (39, true)), .mv (.tmp 0)⟩,
  ⟨(some 42), (some (39, true)), .mv (.tmp 9)⟩,
  ⟨(some 43), (some (39, true)), .ixs 2 (.tmp 41) (.tmp 42)⟩,
  ⟨(some 44), (some (39, true)), .ldn 2 (.tmp 43)⟩,
  ⟨(some 45), (some (39, true)), .mv (.tmp 1)⟩,
  ⟨(some 46), (some (39, true)), .callv (.tmp 40) [(.tmp 44), (.tmp 45)]⟩,
  ⟨(some 47), (some (39, true)), .cmp .eql (.tmp 46) (.const (.int .i64 0))⟩,
  ⟨(some 48), none, .pick (.tmp 39) (.tmp 47) (.const (.bool false))⟩,
  ⟨(some 6), none, .mv (.tmp 35)⟩,
  ⟨(some 7), none, .mv (.tmp 48)⟩]
def f72 : SCode := (.seq (.ops f72r0) (.seq (.ops f72r1) (.seq (.ops f72r2) (.seq (.block 0 (.loop f72l8)) (.seq (.ops f72r9) .ret)))))
theorem f72_calls {args : List Value} {h : Heap} {R : Ending → Heap → Prop} (ha : args.length ≤ 49) (hs : swp Try.prog f72 (retQ [.t 6, .t 7] R) (argEnv 0 args) [] h) : CallsH Try.prog 72 args h R :=
  calls_of_swp mixed Try.func72 rfl (by kernel_rfl) (by kernel_rfl) (by kernel_rfl) ha hs

/-! 73: tabor/keys.byName[tabor/api.Pair]$1 -/
def f73r0 : List SOper := [
  ⟨(some 3), none, .box (.tmp 0)⟩,
  ⟨(some 5), none, .mv (.const (.int .i64 0))⟩]
def f73r1 : List SOper := [
  ⟨(some 6), none, .ld1 (.tmp 2)⟩,
  ⟨(some 7), none, .ldn 2 (.tmp 3)⟩,
  ⟨(some 8), none, .callv (.tmp 6) [(.tmp 7)]⟩,
  ⟨(some 9), none, .mv (.tmp 1)⟩,
  ⟨(some 10), none, .call 18 [(.tmp 8), (.tmp 9)]⟩,
  ⟨(some 5), none, .mv (.tmp 10)⟩]
def f73 : SCode := (.seq (.ops f73r0) (.seq (.ops f73r1) .ret))
theorem f73_calls {args : List Value} {h : Heap} {R : Ending → Heap → Prop} (ha : args.length ≤ 11) (hs : swp Try.prog f73 (retQ [.t 5] R) (argEnv 0 args) [] h) : CallsH Try.prog 73 args h R :=
  calls_of_swp mixed Try.func73 rfl (by kernel_rfl) (by kernel_rfl) (by kernel_rfl) ha hs

/-! 74: slices.overlaps[tabor/api.Pair]: not simplified -/

/-! 75: slices.rotateRight[tabor/api.Pair] -/
def f75r0 : List SOper := [
  ⟨(some 4), none, .mv (.tmp 0)⟩,
  ⟨(some 5), none, .mv (.tmp 0)⟩,
  ⟨(some 6), none, .len (.tmp 5)⟩,
  ⟨(some 7), none, .mv (.tmp 1)⟩,
  ⟨(some 8), none, .ar .sub (.tmp 6) (.tmp 7)⟩,
  ⟨(some 9), none, .call 81 [(.tmp 4), (.tmp 8)]⟩]
def f75 : SCode := (.ops f75r0)
theorem f75_calls {args : List Value} {h : Heap} {R : Ending → Heap → Prop} (ha : args.length ≤ 10) (hs : swp Try.prog f75 (retQ [] R) (argEnv 0 args) [] h) : CallsH Try.prog 75 args h R :=
  calls_of_swp mixed Try.func75 rfl (by kernel_rfl) (by kernel_rfl) (by kernel_rfl) ha hs

/-! 76: slices.rotateLeft[string] -/
def f76r0 : List SOper := [
  ⟨(some 4), none, .mv (.tmp 0)⟩,
  ⟨(some 5), none, .mv (.tmp 1)⟩,
  ⟨(some 6), none, .slc 1 (.tmp 4) none (some (.tmp 5))⟩,
  ⟨(some 7), none, .call 82 [(.tmp 6)]⟩]
def f76r1 : List SOper := [
  ⟨(some 8), none, .mv (.tmp 0)⟩,
  ⟨(some 9), none, .mv (.tmp 1)⟩,
  ⟨(some 10), none, .slc 1 (.tmp 8) (some (.tmp 9)) none⟩,
  ⟨(some 11), none, .call 82 [(.tmp 10)]⟩]
def f76r2 : List SOper := [
  ⟨(some 12), none, .mv (.tmp 0)⟩,
  ⟨(some 13), none, .call 82 [(.tmp 12)]⟩]
def f76 : SCode := (.seq (.ops f76r0) (.seq (.ops f76r1) (.ops f76r2)))
theorem f76_calls {args : List Value} {h : Heap} {R : Ending → Heap → Prop} (ha : args.length ≤ 14) (hs : swp Try.prog f76 (retQ [] R) (argEnv 0 args) [] h) : CallsH Try.prog 76 args h R :=
  calls_of_swp mixed Try.func76 rfl (by kernel_rfl) (by kernel_rfl) (by kernel_rfl) ha hs

/-! 77: slices.BinarySearchFunc[[]string,string,string] -/
def f77r0 : List SOper := [
  ⟨(some 6), none, .mv (.const (.int .i64 0))⟩,
  ⟨(some 7), none, .mv (.const (.bool false))⟩]
def f77r1 : List SOper := [
  ⟨(some 12), none, .mv (.tmp 0)⟩,
  ⟨(some 13), none, .len (.tmp 12)⟩,
  ⟨(some 8), none, .mv (.tmp 13)⟩]
def f77r2 : List SOper := [
  ⟨(some 14), none, .mv (.tmp 8)⟩,
  ⟨(some 9), none, .mv (.const (.int .i64 0))⟩,
  ⟨(some 10), none, .mv (.tmp 14)⟩]
def f77r3 : List SOper := [
  ⟨(some 15), none, .mv (.tmp 9)⟩,
  ⟨(some 16), none, .mv (.tmp 10)⟩,
  ⟨(some 17), none, .cmp .lss (.tmp 15) (.tmp 16)⟩]
def f77r4 : List SOper := [
  ⟨(some 18), none, .mv (.tmp 9)⟩,
  ⟨(some 19), none, .mv (.tmp 10)⟩,
  ⟨(some 20), none, .ar .add (.tmp 18) (.tmp 19)⟩,
  ⟨(some 21), none, .cvt .u64 (.tmp 20)⟩,
  ⟨(some 22), none, .sh .u64 false 1 (.tmp 21)⟩,
  ⟨(some 23), none, .cvt .i64 (.tmp 22)⟩,
  ⟨(some 11), none, .mv (.tmp 23)⟩]
def f77r5 : List SOper := [
  ⟨(some 24), none, .mv (.tmp 2)⟩,
  ⟨(some 25), none, .mv (.tmp 0)⟩,
  ⟨(some 26), none, .mv (.tmp 11)⟩,
  ⟨(some 27), none, .ixs 1 (.tmp 25) (.tmp 26)⟩,
  ⟨(some 28), none, .ld1 (.tmp 27)⟩,
  ⟨(some 29), none, .mv (.tmp 1)⟩,
  ⟨(some 30), none, .callv (.tmp 24) [(.tmp 28), (.tmp 29)]⟩,
  ⟨(some 31), none, .cmp .lss (.tmp 30) (.const (.int .i64 0))⟩]
def f77r6 : List SOper := [
  ⟨(some 32), none, .mv (.tmp 11)⟩,
  ⟨(some 33), none, .ar .add (.tmp 32) (.const (.int .i64 1))⟩,
  ⟨(some 9), none, .mv (.tmp 33)⟩]
def f77r7 : List SOper := [
  ⟨(some 34), none, .mv (.tmp 11)⟩,
  ⟨(some 10), none, .mv (.tmp 34)⟩]
def f77l8 : SCode := (.seq (.seq (.ops f77r3) (.cond (.tmp 17) .skip (.exit 0))) (.block 1 (.seq (.ops f77r4) (.seq (.ops f77r5) (.cond (.tmp 31) (.ops f77r6) (.ops f77r7))))))
def f77r9 : List SOper := [
  ⟨(some 35), none, .mv (.tmp 9)⟩,
  ⟨(some 36), none, .mv (.tmp 9)⟩,
  ⟨(some 37), none, .mv (.tmp 8)⟩,
  ⟨(some 38), none, .cmp .lss (.tmp 36) (.tmp 37)⟩,
  ⟨(some 39), none, .mv (.tmp 38)⟩,
  ⟨(some 40), (some (39, true)), .mv (.tmp 2)⟩,
  ⟨(some 41), (some (39, true)), .mv (.tmp 0)⟩,
  ⟨(some 42), (some (39, true)), .mv (.tmp 9)⟩,
  ⟨(some 43), (some (39, true)), .ixs 1 (.tmp 41) (.tmp 42)⟩,
  ⟨(some 44), (some (39, true)), .ld1 (.tmp 43)⟩,
  ⟨(some 45), (some (39, true)), .mv (.tmp 1)⟩,
  ⟨(some 46), (some (39, true)), .callv (.tmp 40) [(.tmp 44), (.tmp 45)]⟩,
  ⟨(some 47), (some (39, true)), .cmp .eql (.tmp 46) (.const (.int .i64 0))⟩,
  ⟨(some 48), none, .pick (.tmp 39) (.tmp 47) (.const (.bool false))⟩,
  ⟨(some 6), none, .mv (.tmp 35)⟩,
  ⟨(some 7), none, .mv (.tmp 48)⟩]
def f77 : SCode := (.seq (.ops f77r0) (.seq (.ops f77r1) (.seq (.ops f77r2) (.seq (.block 0 (.loop f77l8)) (.seq (.ops f77r9) .ret)))))
theorem f77_calls {args : List Value} {h : Heap} {R : Ending → Heap → Prop} (ha : args.length ≤ 49) (hs : swp Try.prog f77 (retQ [.t 6, .t 7] R) (argEnv 0 args) [] h) : CallsH Try.prog 77 args h R :=
  calls_of_swp mixed Try.func77 rfl (by kernel_rfl) (by kernel_rfl) (by kernel_rfl) ha hs

/-! 78: tabor/keys.byName[string]$1 -/
def f78r0 : List SOper := [
  ⟨(some 5), none, .mv (.const (.int .i64 0))⟩]
def f78r1 : List SOper := [
  ⟨(some 6), none, .ld1 (.tmp 2)⟩,
  ⟨(some 7), none, .mv (.tmp 0)⟩,
  ⟨(some 8), none, .callv (.tmp 6) [(.tmp 7)]⟩,
  ⟨(some 9), none, .mv (.tmp 1)⟩,
  ⟨(some 10), none, .call 18 [(.tmp 8), (.tmp 9)]⟩,
  ⟨(some 5), none, .mv (.tmp 10)⟩]
def f78 : SCode := (.seq (.ops f78r0) (.seq (.ops f78r1) .ret))
theorem f78_calls {args : List Value} {h : Heap} {R : Ending → Heap → Prop} (ha : args.length ≤ 11) (hs : swp Try.prog f78 (retQ [.t 5] R) (argEnv 0 args) [] h) : CallsH Try.prog 78 args h R :=
  calls_of_swp mixed Try.func78 rfl (by kernel_rfl) (by kernel_rfl) (by kernel_rfl) ha hs

/-! 79: slices.overlaps[tabor/api.Rank]: not simplified -/

/-! 80: slices.rotateRight[tabor/api.Rank] -/
def f80r0 : List SOper := [
  ⟨(some 4), none, .mv (.tmp 0)⟩,
  ⟨(some 5), none, .mv (.tmp 0)⟩,
  ⟨(some 6), none, .len (.tmp 5)⟩,
  ⟨(some 7), none, .mv (.tmp 1)⟩,
  ⟨(some 8), none, .ar .sub (.tmp 6) (.tmp 7)⟩,
  ⟨(some 9), none, .call 83 [(.tmp 4), (.tmp 8)]⟩]
def f80 : SCode := (.ops f80r0)
theorem f80_calls {args : List Value} {h : Heap} {R : Ending → Heap → Prop} (ha : args.length ≤ 10) (hs : swp Try.prog f80 (retQ [] R) (argEnv 0 args) [] h) : CallsH Try.prog 80 args h R :=
  calls_of_swp mixed Try.func80 rfl (by kernel_rfl) (by kernel_rfl) (by kernel_rfl) ha hs

/-! 81: slices.rotateLeft[tabor/api.Pair] -/
def f81r0 : List SOper := [
  ⟨(some 4), none, .mv (.tmp 0)⟩,
  ⟨(some 5), none, .mv (.tmp 1)⟩,
  ⟨(some 6), none, .slc 2 (.tmp 4) none (some (.tmp 5))⟩,
  ⟨(some 7), none, .call 84 [(.tmp 6)]⟩]
def f81r1 : List SOper := [
  ⟨(some 8), none, .mv (.tmp 0)⟩,
  ⟨(some 9), none, .mv (.tmp 1)⟩,
  ⟨(some 10), none, .slc 2 (.tmp 8) (some (.tmp 9)) none⟩,
  ⟨(some 11), none, .call 84 [(.tmp 10)]⟩]
def f81r2 : List SOper := [
  ⟨(some 12), none, .mv (.tmp 0)⟩,
  ⟨(some 13), none, .call 84 [(.tmp 12)]⟩]
def f81 : SCode := (.seq (.ops f81r0) (.seq (.ops f81r1) (.ops f81r2)))
theorem f81_calls {args : List Value} {h : Heap} {R : Ending → Heap → Prop} (ha : args.length ≤ 14) (hs : swp Try.prog f81 (retQ [] R) (argEnv 0 args) [] h) : CallsH Try.prog 81 args h R :=
  calls_of_swp mixed Try.func81 rfl (by kernel_rfl) (by kernel_rfl) (by kernel_rfl) ha hs

/-! 82: slices.Reverse[[]string,string] -/
def f82r0 : List SOper := [
  ⟨(some 4), none, .mv (.tmp 0)⟩,
  ⟨(some 5), none, .len (.tmp 4)⟩,
  ⟨(some 6), none, .ar .sub (.tmp 5) (.const (.int .i64 1))⟩,
  ⟨(some 2), none, .mv (.const (.int .i64 0))⟩,
  ⟨(some 3), none, .mv (.tmp 6)⟩]
def f82r1 : List SOper := [
  ⟨(some 7), none, .mv (.tmp 2)⟩,
  ⟨(some 8), none, .mv (.tmp 3)⟩,
  ⟨(some 9), none, .cmp .lss (.tmp 7) (.tmp 8)⟩]
def f82r2 : List SOper := [
  ⟨(some 14), none, .mv (.tmp 0)⟩,
  ⟨(some 15), none, .mv (.tmp 2)⟩,
  ⟨(some 16), none, .mv (.tmp 0)⟩,
  ⟨(some 17), none, .mv (.tmp 3)⟩,
  ⟨(some 18), none, .mv (.tmp 0)⟩,
  ⟨(some 19), none, .mv (.tmp 3)⟩,
  ⟨(some 20), none, .ixs 1 (.tmp 18) (.tmp 19)⟩,
  ⟨(some 21), none, .ld1 (.tmp 20)⟩,
  ⟨(some 22), none, .mv (.tmp 0)⟩,
  ⟨(some 23), none, .mv (.tmp 2)⟩,
  ⟨(some 24), none, .ixs 1 (.tmp 22) (.tmp 23)⟩,
  ⟨(some 25), none, .ld1 (.tmp 24)⟩,
  ⟨(some 26), none, .ixs 1 (.tmp 14) (.tmp 15)⟩,
  ⟨none, none, .st 1 (.tmp 26) (.tmp 21)⟩,
  ⟨(some 27), none, .ixs 1 (.tmp 16) (.tmp 17)⟩,
  ⟨none, none, .st 1 (.tmp 27) (.tmp 25)⟩]
def f82r3 : List SOper := [
  ⟨(some 10), none, .mv (.tmp 2)⟩,
  ⟨(some 11), none, .ar .add (.tmp 10) (.const (.int .i64 1))⟩,
  ⟨(some 12), none, .mv (.tmp 3)⟩,
  ⟨(some 13), none, .ar .sub (.tmp 12) (.const (.int .i64 1))⟩,
  ⟨(some 2), none, .mv (.tmp 11)⟩,
  ⟨(some 3), none, .mv (.tmp 13)⟩]
def f82l4 : SCode := (.seq (.seq (.ops f82r1) (.cond (.tmp 9) .skip (.exit 0))) (.seq (.block 1 (.ops f82r2)) (.ops f82r3)))
def f82 : SCode := (.seq (.ops f82r0) (.block 0 (.loop f82l4)))
theorem f82_calls {args : List Value} {h : Heap} {R : Ending → Heap → Prop} (ha : args.length ≤ 28) (hs : swp Try.prog f82 (retQ [] R) (argEnv 0 args) [] h) : CallsH Try.prog 82 args h R :=
  calls_of_swp mixed Try.func82 rfl (by kernel_rfl) (by kernel_rfl) (by kernel_rfl) ha hs

/-! 83: slices.rotateLeft[tabor/api.Rank] -/
def f83r0 : List SOper := [
  ⟨(some 4), none, .mv (.tmp 0)⟩,
  ⟨(some 5), none, .mv (.tmp 1)⟩,
  ⟨(some 6), none, .slc 2 (.tmp 4) none (some (.tmp 5))⟩,
  ⟨(some 7), none, .call 85 [(.tmp 6)]⟩]
def f83r1 : List SOper := [
  ⟨(some 8), none, .mv (.tmp 0)⟩,
  ⟨(some 9), none, .mv (.tmp 1)⟩,
  ⟨(some 10), none, .slc 2 (.tmp 8) (some (.tmp 9)) none⟩,
  ⟨(some 11), none, .call 85 [(.tmp 10)]⟩]
def f83r2 : List SOper := [
  ⟨(some 12), none, .mv (.tmp 0)⟩,
  ⟨(some 13), none, .call 85 [(.tmp 12)]⟩]
def f83 : SCode := (.seq (.ops f83r0) (.seq (.ops f83r1) (.ops f83r2)))
theorem f83_calls {args : List Value} {h : Heap} {R : Ending → Heap → Prop} (ha : args.length ≤ 14) (hs : swp Try.prog f83 (retQ [] R) (argEnv 0 args) [] h) : CallsH Try.prog 83 args h R :=
  calls_of_swp mixed Try.func83 rfl (by kernel_rfl) (by kernel_rfl) (by kernel_rfl) ha hs

/-! 84: slices.Reverse[[]tabor/api.Pair,tabor/api.Pair] -/
def f84r0 : List SOper := [
  ⟨(some 4), none, .mv (.tmp 0)⟩,
  ⟨(some 5), none, .len (.tmp 4)⟩,
  ⟨(some 6), none, .ar .sub (.tmp 5) (.const (.int .i64 1))⟩,
  ⟨(some 2), none, .mv (.const (.int .i64 0))⟩,
  ⟨(some 3), none, .mv (.tmp 6)⟩]
def f84r1 : List SOper := [
  ⟨(some 7), none, .mv (.tmp 2)⟩,
  ⟨(some 8), none, .mv (.tmp 3)⟩,
  ⟨(some 9), none, .cmp .lss (.tmp 7) (.tmp 8)⟩]
def f84r2 : List SOper := [
  ⟨(some 14), none, .mv (.tmp 0)⟩,
  ⟨(some 15), none, .mv (.tmp 2)⟩,
  ⟨(some 16), none, .mv (.tmp 0)⟩,
  ⟨(some 17), none, .mv (.tmp 3)⟩,
  ⟨(some 18), none, .mv (.tmp 0)⟩,
  ⟨(some 19), none, .mv (.tmp 3)⟩,
  ⟨(some 20), none, .ixs 2 (.tmp 18) (.tmp 19)⟩,
  ⟨(some 21), none, .ldn 2 (.tmp 20)⟩,
  ⟨(some 22), none, .mv (.tmp 0)⟩,
  ⟨(some 23), none, .mv (.tmp 2)⟩,
  ⟨(some 24), none, .ixs 2 (.tmp 22) (.tmp 23)⟩,
  ⟨(some 25), none, .ldn 2 (.tmp 24)⟩,
  ⟨(some 26), none, .ixs 2 (.tmp 14) (.tmp 15)⟩,
  ⟨none, none, .st 2 (.tmp 26) (.tmp 21)⟩,
  ⟨(some 27), none, .ixs 2 (.tmp 16) (.tmp 17)⟩,
  ⟨none, none, .st 2 (.tmp 27) (.tmp 25)⟩]
def f84r3 : List SOper := [
  ⟨(some 10), none, .mv (.tmp 2)⟩,
  ⟨(some 11), none, .ar .add (.tmp 10) (.const (.int .i64 1))⟩,
  ⟨(some 12), none, .mv (.tmp 3)⟩,
  ⟨(some 13), none, .ar .sub (.tmp 12) (.const (.int .i64 1))⟩,
  ⟨(some 2), none, .mv (.tmp 11)⟩,
  ⟨(some 3), none, .mv (.tmp 13)⟩]
def f84l4 : SCode := (.seq (.seq (.ops f84r1) (.cond (.tmp 9) .skip (.exit 0))) (.seq (.block 1 (.ops f84r2)) (.ops f84r3)))
def f84 : SCode := (.seq (.ops f84r0) (.block 0 (.loop f84l4)))
theorem f84_calls {args : List Value} {h : Heap} {R : Ending → Heap → Prop} (ha : args.length ≤ 28) (hs : swp Try.prog f84 (retQ [] R) (argEnv 0 args) [] h) : CallsH Try.prog 84 args h R :=
  calls_of_swp mixed Try.func84 rfl (by kernel_rfl) (by kernel_rfl) (by kernel_rfl) ha hs

/-! 85: slices.Reverse[[]tabor/api.Rank,tabor/api.Rank] -/
def f85r0 : List SOper := [
  ⟨(some 4), none, .mv (.tmp 0)⟩,
  ⟨(some 5), none, .len (.tmp 4)⟩,
  ⟨(some 6), none, .ar .sub (.tmp 5) (.const (.int .i64 1))⟩,
  ⟨(some 2), none, .mv (.const (.int .i64 0))⟩,
  ⟨(some 3), none, .mv (.tmp 6)⟩]
def f85r1 : List SOper := [
  ⟨(some 7), none, .mv (.tmp 2)⟩,
  ⟨(some 8), none, .mv (.tmp 3)⟩,
  ⟨(some 9), none, .cmp .lss (.tmp 7) (.tmp 8)⟩]
def f85r2 : List SOper := [
  ⟨(some 14), none, .mv (.tmp 0)⟩,
  ⟨(some 15), none, .mv (.tmp 2)⟩,
  ⟨(some 16), none, .mv (.tmp 0)⟩,
  ⟨(some 17), none, .mv (.tmp 3)⟩,
  ⟨(some 18), none, .mv (.tmp 0)⟩,
  ⟨(some 19), none, .mv (.tmp 3)⟩,
  ⟨(some 20), none, .ixs 2 (.tmp 18) (.tmp 19)⟩,
  ⟨(some 21), none, .ldn 2 (.tmp 20)⟩,
  ⟨(some 22), none, .mv (.tmp 0)⟩,
  ⟨(some 23), none, .mv (.tmp 2)⟩,
  ⟨(some 24), none, .ixs 2 (.tmp 22) (.tmp 23)⟩,
  ⟨(some 25), none, .ldn 2 (.tmp 24)⟩,
  ⟨(some 26), none, .ixs 2 (.tmp 14) (.tmp 15)⟩,
  ⟨none, none, .st 2 (.tmp 26) (.tmp 21)⟩,
  ⟨(some 27), none, .ixs 2 (.tmp 16) (.tmp 17)⟩,
  ⟨none, none, .st 2 (.tmp 27) (.tmp 25)⟩]
def f85r3 : List SOper := [
  ⟨(some 10), none, .mv (.tmp 2)⟩,
  ⟨(some 11), none, .ar .add (.tmp 10) (.const (.int .i64 1))⟩,
  ⟨(some 12), none, .mv (.tmp 3)⟩,
  ⟨(some 13), none, .ar .sub (.tmp 12) (.const (.int .i64 1))⟩,
  ⟨(some 2), none, .mv (.tmp 11)⟩,
  ⟨(some 3), none, .mv (.tmp 13)⟩]
def f85l4 : SCode := (.seq (.seq (.ops f85r1) (.cond (.tmp 9) .skip (.exit 0))) (.seq (.block 1 (.ops f85r2)) (.ops f85r3)))
def f85 : SCode := (.seq (.ops f85r0) (.block 0 (.loop f85l4)))
theorem f85_calls {args : List Value} {h : Heap} {R : Ending → Heap → Prop} (ha : args.length ≤ 28) (hs : swp Try.prog f85 (retQ [] R) (argEnv 0 args) [] h) : CallsH Try.prog 85 args h R :=
  calls_of_swp mixed Try.func85 rfl (by kernel_rfl) (by kernel_rfl) (by kernel_rfl) ha hs

/-! 86: (runtime.boundsError).Error: not simplified -/

/-! 87: (runtime.boundsError).RuntimeError: not simplified -/

/-! 88: (runtime.errorString).Error: not simplified -/

/-! 89: (runtime.errorString).RuntimeError: not simplified -/

/-! 90: (runtime.plainError).Error: not simplified -/

/-! 91: (runtime.plainError).RuntimeError: not simplified -/

/-! 92: (runtime.errorAddressString).Error: not simplified -/

/-! 93: (runtime.errorAddressString).RuntimeError: not simplified -/

/-! 94: (*runtime.TypeAssertionError).Error: not simplified -/

/-! 95: (*runtime.TypeAssertionError).RuntimeError: not simplified -/

/-! 96: (*runtime.PanicNilError).Error: not simplified -/

/-! 97: (*runtime.PanicNilError).RuntimeError: not simplified -/

/-! 98: (*internal/abi.Type).Align: not simplified -/

/-! 99: (internal/runtime/maps.unhashableTypeError).Error: not simplified -/

/-! 100: (internal/runtime/maps.unhashableTypeError).RuntimeError: not simplified -/

/-! 101: (tabor/api.Errno).Error: not simplified -/

/-! 102: (internal/abi.Kind).String: not simplified -/

end Go.Proofs.Ytaffnlibmkcgiaa.C
