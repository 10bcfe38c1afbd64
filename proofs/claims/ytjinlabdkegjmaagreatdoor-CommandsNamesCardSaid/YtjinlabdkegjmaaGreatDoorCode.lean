/-
  The simplified code of this seat's functions, and that it is what the program's code comes to. Printed by a program (wip/print.lean).
-/
import Derived.Test.YtjinlabdkegjmaaGreatDoorSxO
import Derived.Test.YtjinlabdkegjmaaGreatDoorProg
set_option maxRecDepth 100000
namespace Go.Proofs.YtjinlabdkegjmaaGreatDoor.C
open Go Go.Sx Go.Sx.S

theorem mixed : Tryz.prog.follows .mixedOrders = true := by kernel_rfl

/-! 0: main.main: not simplified -/
/-! 1: gosem.cut: not simplified -/
/-! 2: gosem.cut.init: not simplified -/
/-! 3: tabor/taborlaw09.CollsNames: not simplified -/
/-! 4: tabor/taborlaw10.CommandsNil -/
def f4r0 : List SOper := [
 o 4 (.mv (b false))]
def f4r1 : List SOper := [
 o 9 (.mv (t 1)),
 o 10 (.call 12 [(.const (.slice none 0 0)), (t 9)])]
def f4r2 : List SOper := [
 o 11 (.call 13 []),
 o 4 (.mv (t 11))]
def f4r3 : List SOper := [
 o 13 (.mv (t 0)),
 o 14 (.mv (t 1)),
 o 15 (.call 14 [(.const (.pointer none)), (t 13), (t 14)]),
 o 12 (.mv (t 15)),
 o 16 (.ext (t 12) 0),
 o 17 (.ext (t 12) 1),
 o 5 (.new [(.int .i64 0), (.int .i64 0), (.string ⟨#[]⟩), (.slice none 0 0)]),
 q (.st 4 (t 5) (t 16)),
 o 6 (.mv (t 17))]
def f4r4 : List SOper := [
 o 19 (.build [(.pointer none)] [] []),
 o 20 (.box (t 19)),
 o 21 (.mv (t 0)),
 o 22 (.mv (t 1)),
 o 23 (.call 15 [(t 20), (t 21), (t 22)]),
 o 18 (.mv (t 23)),
 o 24 (.ext (t 18) 0),
 o 25 (.ext (t 18) 1),
 o 7 (.new [(.int .i64 0), (.int .i64 0), (.string ⟨#[]⟩), (.slice none 0 0)]),
 q (.st 4 (t 7) (t 24)),
 o 8 (.mv (t 25))]
def f4r5 : List SOper := [
 o 26 (.fa 0 (t 5)),
 o 27 (.ld1 (t 26)),
 o 28 (.cmp .eql (t 27) (i 2)),
 o 29 (.mv (t 28)),
 g 30 29 (.fa 2 (t 5)),
 g 31 29 (.ld1 (t 30)),
 g 32 29 (.cmp .eql (t 31) (.const (.string ⟨#[69, 82, 82, 32, 117, 110, 107, 110, 111, 119, 110]⟩))),
 o 33 (.pick (t 29) (t 32) (b false)),
 o 34 (.mv (t 33)),
 g 35 34 (.mv (t 6)),
 g 36 34 (.len (t 35)),
 g 37 34 (.cmp .eql (t 36) (i 0)),
 o 38 (.pick (t 34) (t 37) (b false)),
 o 39 (.mv (t 38)),
 g 40 39 (.ldn 4 (t 5)),
 g 41 39 (.ldn 4 (t 7)),
 g 42 39 (.call 16 [(t 40), (t 41)]),
 o 43 (.pick (t 39) (t 42) (b false)),
 o 44 (.mv (t 43)),
 g 45 44 (.mv (t 8)),
 g 46 44 (.len (t 45)),
 g 47 44 (.cmp .eql (t 46) (i 0)),
 o 48 (.pick (t 44) (t 47) (b false)),
 o 49 (.mv (t 48)),
 g 50 49 (.call 13 []),
 o 51 (.pick (t 49) (t 50) (b false)),
 o 4 (.mv (t 51))]
def f4 : SCode := (.seq (.ops f4r0) (.seq (.seq (.ops f4r1) (.cond (t 10) (.seq (.ops f4r2) .ret) .skip)) (.seq (.ops f4r3) (.seq (.ops f4r4) (.seq (.ops f4r5) .ret)))))
theorem f4_calls : Sound Tryz.prog 4 52 f4 [.t 4] := sound_of mixed Tryz.func4 rfl (by kernel_rfl) (by kernel_rfl) (by kernel_rfl)

/-! 5: tabor/taborlaw10.CommandsNames: not simplified -/
/-! 6: tabor/taborlaw09.known: not simplified -/
/-! 7: tabor/colls.Names: not simplified -/
/-! 8: tabor/taborref09.Names: not simplified -/
/-! 9: tabor/taborref08.Word: not simplified -/
/-! 10: tabor/colls.Do -/
def f10r0 : List SOper := [
 o 6 (.new [(.int .i64 0), (.int .i64 0), (.string ⟨#[]⟩), (.slice none 0 0)]),
 o 7 (.new [(.slice none 0 0)]),
 o 8 (.mv (b false))]
def f10r1 : List SOper := [
 o 11 (.mv (t 2)),
 o 12 (.len (t 11)),
 o 13 (.cmp .eql (t 12) (i 0)),
 o 14 (.mv (t 13)),
 n 15 14 (.mv (t 0)),
 n 16 14 (.call 24 [(t 15), (.const (.pointer none))]),
 o 17 (.pick (t 14) (b true) (t 16))]
def f10r2 : List SOper := [
 o 18 (.build [(.int .i64 0), (.int .i64 0), (.string ⟨#[]⟩), (.slice none 0 0)] [] []),
 q (.st 4 (t 6) (t 18)),
 q (.st 1 (t 7) (.const (.slice none 0 0))),
 o 8 (.mv (b false))]
def f10r3 : List SOper := [
 o 21 (.mv (t 2)),
 o 22 (.ixs 1 (t 21) (i 0)),
 o 23 (.ld1 (t 22)),
 o 20 (.callq 23 []),
 o 24 (.callq 25 [(t 23)]),
 o 25 (.look .str .nilFunc true (t 20) (t 24)),
 o 19 (.mv (t 25)),
 o 26 (.ext (t 19) 0),
 o 27 (.ext (t 19) 1),
 o 9 (.mv (t 26)),
 o 8 (.mv (t 27))]
def f10r4 : List SOper := [
 o 28 (.mv (t 8)),
 o 29 (.un .not (t 28))]
def f10r5 : List SOper := [
 o 30 (.build [(.int .i64 0), (.int .i64 0), (.string ⟨#[]⟩), (.slice none 0 0)] [] []),
 q (.st 4 (t 6) (t 30)),
 q (.st 1 (t 7) (.const (.slice none 0 0))),
 o 8 (.mv (b false))]
def f10r6 : List SOper := [
 o 31 (.fn 26 [] [(t 6), (t 7)])]
def f10r7 : List SOper := [
 o 32 (.mv (t 0)),
 o 33 (.mv (t 1)),
 o 34 (.mv (t 2)),
 o 35 (.slc 1 (t 34) (some (i 1)) none),
 o 36 (.build [(.int .i64 0), (.string ⟨#[]⟩), (.slice none 0 0), (.slice none 0 0), (.slice none 0 0), (.bool false), (.int .i64 0), (.bool false), (.pointer none), (.int .i64 0), (.string ⟨#[]⟩), (.slice none 0 0), (.slice none 0 0)] [(8, 1), (9, 1), (11, 1)] [(t 32), (t 33), (t 35)]),
 o 37 (.box (t 36)),
 o 10 (.mv (t 37))]
def f10r8 : List SOper := [
 o 38 (.mv (t 9)),
 o 39 (.mv (t 10)),
 o 40 (.callv (t 38) [(t 39)]),
 q (.st 4 (t 6) (t 40))]
def f10p9 : List SOper := [
 o 41 (.ldn 4 (t 6)),
 o 42 (.mv (t 10)),
 o 43 (.nilck (t 42)),
 o 44 (.fa 12 (t 43))]
def f10r9 : List SOper := [
 o 45 (.ld1 (t 44)),
 q (.st 4 (t 6) (t 41)),
 q (.st 1 (t 7) (t 45)),
 o 8 (.mv (b true))]
def f10s9 : List SOper := [
 q (.st 4 (t 6) (t 41)),
 o 45 (.ld1 (t 44)),
 q (.st 1 (t 7) (t 45)),
 o 8 (.mv (b true))]
def f10 : SCode := (.seq (.ops f10r0) (.seq (.seq (.ops f10r1) (.cond (t 17) (.seq (.ops f10r2) .ret) .skip)) (.seq (.ops f10r3) (.seq (.seq (.ops f10r4) (.cond (t 29) (.seq (.ops f10r5) .ret) .skip)) (.seq (.dfr f10r6 none (t 31) []) (.seq (.ops f10r7) (.seq (.ops f10r8) (.seq (.two f10p9 f10r9 f10s9) .ret))))))))
theorem f10_calls : Sound Tryz.prog 10 46 f10 [.cn 6 4, .c1 7, .t 8] := sound_of mixed Tryz.func10 rfl (by kernel_rfl) (by kernel_rfl) (by kernel_rfl)

/-! 11: tabor/keys.New: not simplified -/
/-! 12: tabor/taborlaw10.vast -/
def f12r0 : List SOper := [
 o 4 (.mv (b false))]
def f12r1 : List SOper := [
 o 7 (.mv (t 0)),
 o 8 (.len (t 7)),
 o 9 (.cmp .gtr (t 8) (i 20)),
 o 10 (.mv (t 9)),
 n 11 10 (.mv (t 1)),
 n 12 10 (.len (t 11)),
 n 13 10 (.cmp .gtr (t 12) (i 20)),
 o 14 (.pick (t 10) (b true) (t 13))]
def f12r2 : List SOper := [
 o 4 (.mv (b true))]
def f12r3 : List SOper := [
 o 5 (.mv (i 0))]
def f12r4 : List SOper := [
 o 15 (.mv (t 5)),
 o 16 (.mv (t 0)),
 o 17 (.len (t 16)),
 o 18 (.cmp .lss (t 15) (t 17))]
def f12r5 : List SOper := [
 o 21 (.mv (t 0)),
 o 22 (.mv (t 5)),
 o 23 (.ixs 8 (t 21) (t 22)),
 o 24 (.fa 0 (t 23)),
 o 25 (.ld1 (t 24)),
 o 26 (.lens (t 25)),
 o 27 (.cmp .gtr (t 26) (i 300)),
 o 28 (.mv (t 27)),
 n 29 28 (.mv (t 0)),
 n 30 28 (.mv (t 5)),
 n 31 28 (.ixs 8 (t 29) (t 30)),
 n 32 28 (.fa 1 (t 31)),
 n 33 28 (.ldn 7 (t 32)),
 n 34 28 (.call 28 [(t 33)]),
 o 35 (.pick (t 28) (b true) (t 34))]
def f12r6 : List SOper := [
 o 4 (.mv (b true))]
def f12r7 : List SOper := [
 o 19 (.mv (t 5)),
 o 20 (.ar .add (t 19) (i 1)),
 o 5 (.mv (t 20))]
def f12l8 : SCode := (.seq (.seq (.ops f12r4) (.cond (t 18) .skip (.exit 0))) (.seq (.block 1 (.seq (.ops f12r5) (.cond (t 35) (.seq (.ops f12r6) .ret) .skip))) (.ops f12r7)))
def f12r9 : List SOper := [
 o 6 (.mv (i 0))]
def f12r10 : List SOper := [
 o 36 (.mv (t 6)),
 o 37 (.mv (t 1)),
 o 38 (.len (t 37)),
 o 39 (.cmp .lss (t 36) (t 38))]
def f12r11 : List SOper := [
 o 42 (.mv (t 1)),
 o 43 (.mv (t 6)),
 o 44 (.ixs 1 (t 42) (t 43)),
 o 45 (.ld1 (t 44)),
 o 46 (.lens (t 45)),
 o 47 (.cmp .gtr (t 46) (i 300))]
def f12r12 : List SOper := [
 o 4 (.mv (b true))]
def f12r13 : List SOper := [
 o 40 (.mv (t 6)),
 o 41 (.ar .add (t 40) (i 1)),
 o 6 (.mv (t 41))]
def f12l14 : SCode := (.seq (.seq (.ops f12r10) (.cond (t 39) .skip (.exit 2))) (.seq (.block 3 (.seq (.ops f12r11) (.cond (t 47) (.seq (.ops f12r12) .ret) .skip))) (.ops f12r13)))
def f12r15 : List SOper := [
 o 4 (.mv (b false))]
def f12 : SCode := (.seq (.ops f12r0) (.seq (.seq (.ops f12r1) (.cond (t 14) (.seq (.ops f12r2) .ret) .skip)) (.seq (.seq (.ops f12r3) (.block 0 (.loop f12l8))) (.seq (.seq (.ops f12r9) (.block 2 (.loop f12l14))) (.seq (.ops f12r15) .ret)))))
theorem f12_calls : Sound Tryz.prog 12 48 f12 [.t 4] := sound_of mixed Tryz.func12 rfl (by kernel_rfl) (by kernel_rfl) (by kernel_rfl)

/-! 13: tabor/taborlaw10.known -/
def f13r0 : List SOper := [
 o 0 (.mv (b false))]
def f13r1 : List SOper := [
 o 6 (.call 11 []),
 o 1 (.mv (t 6))]
def f13r2 : List SOper := [
 o 8 (.mv (t 1)),
 o 9 (.bslice [(.string ⟨#[]⟩), (.string ⟨#[]⟩)] 2 [(0, 1), (1, 1)] [(.const (.string ⟨#[105, 110, 99, 114]⟩)), (.const (.string ⟨#[97]⟩))]),
 o 10 (.call 14 [(t 8), (i 0), (t 9)]),
 o 7 (.mv (t 10)),
 o 11 (.ext (t 7) 0),
 o 12 (.ext (t 7) 1),
 o 2 (.new [(.int .i64 0), (.int .i64 0), (.string ⟨#[]⟩), (.slice none 0 0)]),
 q (.st 4 (t 2) (t 11)),
 o 3 (.mv (t 12))]
def f13r3 : List SOper := [
 o 14 (.mv (t 1)),
 o 15 (.call 29 [(t 14), (.const (.string ⟨#[97]⟩)), (i 0)]),
 o 13 (.mv (t 15)),
 o 16 (.ext (t 13) 0),
 o 17 (.ext (t 13) 1),
 o 4 (.new [(.int .i64 0), (.string ⟨#[]⟩), (.slice none 0 0), (.slice none 0 0), (.slice none 0 0), (.bool false), (.int .i64 0)]),
 q (.st 7 (t 4) (t 16)),
 o 5 (.mv (t 17))]
def f13r4 : List SOper := [
 o 18 (.fa 0 (t 2)),
 o 19 (.ld1 (t 18)),
 o 20 (.cmp .eql (t 19) (i 3)),
 o 21 (.mv (t 20)),
 g 22 21 (.fa 1 (t 2)),
 g 23 21 (.ld1 (t 22)),
 g 24 21 (.cmp .eql (t 23) (i 1)),
 o 25 (.pick (t 21) (t 24) (b false)),
 o 26 (.mv (t 25)),
 g 27 26 (.mv (t 3)),
 g 28 26 (.len (t 27)),
 g 29 26 (.cmp .eql (t 28) (i 1)),
 o 30 (.pick (t 26) (t 29) (b false)),
 o 31 (.mv (t 30)),
 g 32 31 (.mv (t 5)),
 o 33 (.pick (t 31) (t 32) (b false)),
 o 34 (.mv (t 33)),
 g 35 34 (.fa 1 (t 4)),
 g 36 34 (.ld1 (t 35)),
 g 37 34 (.cmp .eql (t 36) (.const (.string ⟨#[49]⟩))),
 o 38 (.pick (t 34) (t 37) (b false)),
 o 0 (.mv (t 38))]
def f13 : SCode := (.seq (.ops f13r0) (.seq (.ops f13r1) (.seq (.ops f13r2) (.seq (.ops f13r3) (.seq (.ops f13r4) .ret)))))
theorem f13_calls : Sound Tryz.prog 13 39 f13 [.t 0] := sound_of mixed Tryz.func13 rfl (by kernel_rfl) (by kernel_rfl) (by kernel_rfl)

/-! 14: tabor/commands.Do -/
def f14r0 : List SOper := [
 o 6 (.new [(.int .i64 0), (.int .i64 0), (.string ⟨#[]⟩), (.slice none 0 0)]),
 o 7 (.mv (.const (.slice none 0 0)))]
def f14r1 : List SOper := [
 o 11 (.mv (t 0)),
 o 12 (.mv (t 1)),
 o 13 (.mv (t 2)),
 o 14 (.call 15 [(t 11), (t 12), (t 13)]),
 o 10 (.mv (t 14)),
 o 15 (.ext (t 10) 0),
 o 16 (.ext (t 10) 1),
 o 8 (.new [(.int .i64 0), (.int .i64 0), (.string ⟨#[]⟩), (.slice none 0 0)]),
 q (.st 4 (t 8) (t 15)),
 o 9 (.mv (t 16))]
def f14r2 : List SOper := [
 o 17 (.mv (t 0)),
 o 18 (.mv (t 9)),
 o 19 (.call 30 [(t 17), (t 18)])]
def f14r3 : List SOper := [
 o 20 (.ldn 4 (t 8)),
 o 21 (.mv (t 9)),
 q (.st 4 (t 6) (t 20)),
 o 7 (.mv (t 21))]
def f14 : SCode := (.seq (.ops f14r0) (.seq (.ops f14r1) (.seq (.ops f14r2) (.seq (.ops f14r3) .ret))))
theorem f14_calls : Sound Tryz.prog 14 22 f14 [.cn 6 4, .t 7] := sound_of mixed Tryz.func14 rfl (by kernel_rfl) (by kernel_rfl) (by kernel_rfl)

/-! 15: tabor/commands.Ask -/
def f15r0 : List SOper := [
 o 6 (.new [(.int .i64 0), (.int .i64 0), (.string ⟨#[]⟩), (.slice none 0 0)]),
 o 7 (.mv (.const (.slice none 0 0)))]
def f15r1 : List SOper := [
 o 15 (.mv (t 2)),
 o 16 (.call 31 [(t 15)]),
 o 17 (.mv (t 16)),
 g 18 17 (.mv (t 0)),
 g 19 17 (.call 24 [(t 18), (.const (.pointer none))]),
 g 20 17 (.un .not (t 19)),
 o 21 (.pick (t 17) (t 20) (b false))]
def f15r2 : List SOper := [
 o 22 (.call 27 [(.const (.string ⟨#[69, 82, 82, 32, 108, 111, 110, 103]⟩))]),
 q (.st 4 (t 6) (t 22)),
 o 7 (.mv (.const (.slice none 0 0)))]
def f15r3 : List SOper := [
 o 23 (.build [(.int .i64 0), (.int .i64 0), (.string ⟨#[]⟩), (.slice none 0 0)] [] []),
 o 8 (.new [(.int .i64 0), (.int .i64 0), (.string ⟨#[]⟩), (.slice none 0 0)]),
 q (.st 4 (t 8) (t 23)),
 o 9 (.mv (.const (.slice none 0 0))),
 o 10 (.mv (b false))]
def f15r4 : List SOper := [
 o 24 (.call 32 []),
 o 25 (.len (t 24)),
 o 26 (.mv (i 0))]
def f15r5 : List SOper := [
 o 27 (.cmp .lss (t 26) (t 25))]
def f15r6 : List SOper := [
 o 28 (.ixs 1 (t 24) (t 26)),
 o 29 (.ld1 (t 28)),
 o 12 (.mv (t 29))]
def f15r7 : List SOper := [
 o 31 (.mv (t 12)),
 o 32 (.mv (t 0)),
 o 33 (.mv (t 1)),
 o 34 (.mv (t 2)),
 o 35 (.callv (t 31) [(t 32), (t 33), (t 34)]),
 o 30 (.mv (t 35)),
 o 36 (.ext (t 30) 0),
 o 37 (.ext (t 30) 1),
 o 38 (.ext (t 30) 2),
 q (.st 4 (t 8) (t 36)),
 o 9 (.mv (t 37)),
 o 10 (.mv (t 38))]
def f15r8 : List SOper := [
 o 39 (.mv (t 10))]
def f15r9 : List SOper := [
 o 40 (.ar .add (t 26) (i 1)),
 o 26 (.mv (t 40))]
def f15l10 : SCode := (.seq (.ops f15r5) (.seq (.cond (t 27) .skip (.exit 0)) (.seq (.block 1 (.seq (.ops f15r6) (.seq (.ops f15r7) (.seq (.ops f15r8) (.cond (t 39) (.exit 0) .skip))))) (.ops f15r9))))
def f15r11 : List SOper := [
 o 41 (.mv (t 10)),
 o 42 (.un .not (t 41))]
def f15r12 : List SOper := [
 o 43 (.call 27 [(.const (.string ⟨#[69, 82, 82, 32, 117, 110, 107, 110, 111, 119, 110]⟩))]),
 q (.st 4 (t 6) (t 43)),
 o 7 (.mv (.const (.slice none 0 0)))]
def f15r13 : List SOper := [
 o 44 (.mv (t 9)),
 o 45 (.len (t 44)),
 o 46 (.cmp .gtr (t 45) (i 0))]
def f15r14 : List SOper := [
 o 48 (.mv (t 0)),
 o 49 (.call 33 [(t 48)]),
 o 50 (.mv (t 9)),
 o 51 (.call 30 [(t 49), (t 50)]),
 o 47 (.mv (t 51)),
 o 52 (.ext (t 47) 0),
 o 53 (.ext (t 47) 1),
 o 13 (.mv (t 52)),
 o 14 (.mv (t 53))]
def f15r15 : List SOper := [
 o 54 (.mv (t 14)),
 o 55 (.cmp .neq (t 54) (i 0))]
def f15r16 : List SOper := [
 o 56 (.call 27 [(.const (.string ⟨#[69, 82, 82, 32, 102, 117, 108, 108]⟩))]),
 q (.st 4 (t 6) (t 56)),
 o 7 (.mv (.const (.slice none 0 0)))]
def f15r17 : List SOper := [
 o 57 (.ldn 4 (t 8)),
 o 58 (.mv (t 9)),
 q (.st 4 (t 6) (t 57)),
 o 7 (.mv (t 58))]
def f15r18 : List SOper := [
 o 24 (.call 32 []),
 o 25 (.len (t 24)),
 o 26 (.mv (i 0))]
def f15r19 : List SOper := [
 o 27 (.cmp .lss (t 26) (t 25))]
def f15r20 : List SOper := [
 o 28 (.ixs 1 (t 24) (t 26)),
 o 29 (.ld1 (t 28)),
 o 12 (.mv (t 29))]
def f15r21 : List SOper := [
 o 31 (.mv (t 12)),
 o 32 (.mv (t 0)),
 o 33 (.mv (t 1)),
 o 34 (.mv (t 2)),
 o 35 (.callv (t 31) [(t 32), (t 33), (t 34)]),
 o 30 (.mv (t 35)),
 o 36 (.ext (t 30) 0),
 o 37 (.ext (t 30) 1),
 o 38 (.ext (t 30) 2),
 q (.st 4 (t 8) (t 36)),
 o 9 (.mv (t 37)),
 o 10 (.mv (t 38))]
def f15r22 : List SOper := [
 o 39 (.mv (t 10))]
def f15r23 : List SOper := [
 o 40 (.ar .add (t 26) (i 1)),
 o 26 (.mv (t 40))]
def f15l24 : SCode := (.seq (.ops f15r19) (.seq (.cond (t 27) .skip (.exit 0)) (.seq (.block 1 (.seq (.ops f15r20) (.seq (.ops f15r21) (.seq (.ops f15r22) (.cond (t 39) (.exit 0) .skip))))) (.ops f15r23))))
def f15r25 : List SOper := [
 o 41 (.mv (t 10)),
 o 42 (.un .not (t 41))]
def f15r26 : List SOper := [
 o 43 (.call 27 [(.const (.string ⟨#[69, 82, 82, 32, 117, 110, 107, 110, 111, 119, 110]⟩))]),
 q (.st 4 (t 6) (t 43)),
 o 7 (.mv (.const (.slice none 0 0)))]
def f15r27 : List SOper := [
 o 44 (.mv (t 9)),
 o 45 (.len (t 44)),
 o 46 (.cmp .gtr (t 45) (i 0))]
def f15r28 : List SOper := [
 o 48 (.mv (t 0)),
 o 49 (.call 33 [(t 48)]),
 o 50 (.mv (t 9)),
 o 51 (.call 30 [(t 49), (t 50)]),
 o 47 (.mv (t 51)),
 o 52 (.ext (t 47) 0),
 o 53 (.ext (t 47) 1),
 o 13 (.mv (t 52)),
 o 14 (.mv (t 53))]
def f15r29 : List SOper := [
 o 54 (.mv (t 14)),
 o 55 (.cmp .neq (t 54) (i 0))]
def f15r30 : List SOper := [
 o 56 (.call 27 [(.const (.string ⟨#[69, 82, 82, 32, 102, 117, 108, 108]⟩))]),
 q (.st 4 (t 6) (t 56)),
 o 7 (.mv (.const (.slice none 0 0)))]
def f15r31 : List SOper := [
 o 57 (.ldn 4 (t 8)),
 o 58 (.mv (t 9)),
 q (.st 4 (t 6) (t 57)),
 o 7 (.mv (t 58))]
def f15 : SCode := (.seq (.ops f15r0) (.scopeG (.seq (.seq (.ops f15r1) (.cond (t 21) (.seq (.ops f15r2) .ret) .skip)) (.seq (.ops f15r3) (.seq (.label 0) (.seq (.seq (.ops f15r4) (.block 0 (.loop f15l10))) (.seq (.seq (.ops f15r11) (.cond (t 42) (.seq (.ops f15r12) .ret) .skip)) (.seq (.seq (.ops f15r13) (.cond (t 46) (.seq (.ops f15r14) (.seq (.ops f15r15) (.cond (t 55) (.seq (.ops f15r16) .ret) .skip))) .skip)) (.seq (.ops f15r17) .ret))))))) 0 (.seq .skip (.seq (.seq (.ops f15r18) (.block 0 (.loop f15l24))) (.seq (.seq (.ops f15r25) (.cond (t 42) (.seq (.ops f15r26) .ret) .skip)) (.seq (.seq (.ops f15r27) (.cond (t 46) (.seq (.ops f15r28) (.seq (.ops f15r29) (.cond (t 55) (.seq (.ops f15r30) .ret) .skip))) .skip)) (.seq (.ops f15r31) .ret)))))))
theorem f15_calls : Sound Tryz.prog 15 59 f15 [.cn 6 4, .t 7] := sound_of mixed Tryz.func15 rfl (by kernel_rfl) (by kernel_rfl) (by kernel_rfl)

/-! 16: tabor/taborref08.Same -/
def f16r0 : List SOper := [
 o 2 (.box (t 0)),
 o 3 (.box (t 1)),
 o 4 (.mv (b false))]
def f16r1 : List SOper := [
 o 6 (.fa 0 (t 2)),
 o 7 (.ld1 (t 6)),
 o 8 (.fa 0 (t 3)),
 o 9 (.ld1 (t 8)),
 o 10 (.cmp .neq (t 7) (t 9)),
 o 11 (.mv (t 10)),
 n 12 11 (.fa 1 (t 2)),
 n 13 11 (.ld1 (t 12)),
 n 14 11 (.fa 1 (t 3)),
 n 15 11 (.ld1 (t 14)),
 n 16 11 (.cmp .neq (t 13) (t 15)),
 o 17 (.pick (t 11) (b true) (t 16)),
 o 18 (.mv (t 17)),
 n 19 18 (.fa 2 (t 2)),
 n 20 18 (.ld1 (t 19)),
 n 21 18 (.fa 2 (t 3)),
 n 22 18 (.ld1 (t 21)),
 n 23 18 (.cmp .neq (t 20) (t 22)),
 o 24 (.pick (t 18) (b true) (t 23)),
 o 25 (.mv (t 24)),
 n 26 25 (.fa 3 (t 2)),
 n 27 25 (.ld1 (t 26)),
 n 28 25 (.len (t 27)),
 n 29 25 (.fa 3 (t 3)),
 n 30 25 (.ld1 (t 29)),
 n 31 25 (.len (t 30)),
 n 32 25 (.cmp .neq (t 28) (t 31)),
 o 33 (.pick (t 25) (b true) (t 32))]
def f16r2 : List SOper := [
 o 4 (.mv (b false))]
def f16r3 : List SOper := [
 o 5 (.mv (i 0))]
def f16r4 : List SOper := [
 o 34 (.mv (t 5)),
 o 35 (.fa 3 (t 2)),
 o 36 (.ld1 (t 35)),
 o 37 (.len (t 36)),
 o 38 (.cmp .lss (t 34) (t 37))]
def f16r5 : List SOper := [
 o 41 (.fa 3 (t 2)),
 o 42 (.ld1 (t 41)),
 o 43 (.mv (t 5)),
 o 44 (.ixs 4 (t 42) (t 43)),
 o 45 (.ldn 4 (t 44)),
 o 46 (.fa 3 (t 3)),
 o 47 (.ld1 (t 46)),
 o 48 (.mv (t 5)),
 o 49 (.ixs 4 (t 47) (t 48)),
 o 50 (.ldn 4 (t 49)),
 o 51 (.call 16 [(t 45), (t 50)]),
 o 52 (.un .not (t 51))]
def f16r6 : List SOper := [
 o 4 (.mv (b false))]
def f16r7 : List SOper := [
 o 39 (.mv (t 5)),
 o 40 (.ar .add (t 39) (i 1)),
 o 5 (.mv (t 40))]
def f16l8 : SCode := (.seq (.seq (.ops f16r4) (.cond (t 38) .skip (.exit 0))) (.seq (.block 1 (.seq (.ops f16r5) (.cond (t 52) (.seq (.ops f16r6) .ret) .skip))) (.ops f16r7)))
def f16r9 : List SOper := [
 o 4 (.mv (b true))]
def f16 : SCode := (.seq (.ops f16r0) (.seq (.seq (.ops f16r1) (.cond (t 33) (.seq (.ops f16r2) .ret) .skip)) (.seq (.seq (.ops f16r3) (.block 0 (.loop f16l8))) (.seq (.ops f16r9) .ret))))
theorem f16_calls : Sound Tryz.prog 16 53 f16 [.t 4] := sound_of mixed Tryz.func16 rfl (by kernel_rfl) (by kernel_rfl) (by kernel_rfl)

/-! 17: tabor/commands.Names: not simplified -/
/-! 18: tabor/taborref08.Names: not simplified -/
/-! 19: tabor/taborref07.Less: not simplified -/
/-! 20: tabor/commands.Known: not simplified -/
/-! 21: slices.Sorted[string]: not simplified -/
/-! 22: maps.Keys[map[string]func(*tabor/colls.asked) tabor/api.Reply,string,func(*tabor/colls.asked) tabor/api.Reply]: not simplified -/
/-! 23: tabor/colls.commands: not simplified -/
/-! 24: (*tabor/keys.Keys).Same -/
def f24r0 : List SOper := [
 o 4 (.mv (b false))]
def f24r1 : List SOper := [
 o 5 (.mv (t 0)),
 o 6 (.call 69 [(t 5)]),
 o 7 (.mv (t 6)),
 n 8 7 (.mv (t 1)),
 n 9 7 (.call 69 [(t 8)]),
 o 10 (.pick (t 7) (b true) (t 9))]
def f24r2 : List SOper := [
 o 11 (.mv (t 0)),
 o 12 (.call 69 [(t 11)]),
 o 13 (.mv (t 12)),
 g 14 13 (.mv (t 1)),
 g 15 13 (.call 69 [(t 14)]),
 o 16 (.pick (t 13) (t 15) (b false)),
 o 4 (.mv (t 16))]
def f24r3 : List SOper := [
 o 17 (.mv (t 0)),
 o 18 (.nilck (t 17)),
 o 19 (.fa 0 (t 18)),
 o 20 (.ld1 (t 19)),
 o 21 (.nilck (t 20)),
 o 22 (.fa 0 (t 21)),
 o 23 (.ld1 (t 22)),
 o 24 (.mv (t 1)),
 o 25 (.nilck (t 24)),
 o 26 (.fa 0 (t 25)),
 o 27 (.ld1 (t 26)),
 o 28 (.nilck (t 27)),
 o 29 (.fa 0 (t 28)),
 o 30 (.ld1 (t 29)),
 o 31 (.call 70 [(t 23), (t 30), (u 71)]),
 o 4 (.mv (t 31))]
def f24 : SCode := (.seq (.ops f24r0) (.seq (.seq (.ops f24r1) (.cond (t 10) (.seq (.ops f24r2) .ret) .skip)) (.seq (.ops f24r3) .ret)))
theorem f24_calls : Sound Tryz.prog 24 32 f24 [.t 4] := sound_of mixed Tryz.func24 rfl (by kernel_rfl) (by kernel_rfl) (by kernel_rfl)

/-! 25: tabor/colls.word: not simplified -/
/-! 26: tabor/colls.Do$1: not simplified -/
/-! 27: tabor/basics.Fail -/
def f27r0 : List SOper := [
 o 2 (.new [(.int .i64 0), (.int .i64 0), (.string ⟨#[]⟩), (.slice none 0 0)])]
def f27r1 : List SOper := [
 o 3 (.mv (t 0)),
 o 4 (.build [(.int .i64 0), (.int .i64 0), (.string ⟨#[]⟩), (.slice none 0 0)] [(0, 1), (2, 1)] [(i 2), (t 3)]),
 q (.st 4 (t 2) (t 4))]
def f27 : SCode := (.seq (.ops f27r0) (.seq (.ops f27r1) .ret))
theorem f27_calls : Sound Tryz.prog 27 5 f27 [.cn 2 4] := sound_of mixed Tryz.func27 rfl (by kernel_rfl) (by kernel_rfl) (by kernel_rfl)

/-! 28: tabor/taborlaw10.large: not simplified -/
/-! 29: (*tabor/keys.Keys).Get: not simplified -/
/-! 30: (*tabor/keys.Keys).Apply -/
def f30r0 : List SOper := [
 o 4 (.mv (i 0)),
 o 5 (.mv (i 0))]
def f30r1 : List SOper := [
 o 10 (.mv (t 0)),
 o 11 (.call 69 [(t 10)])]
def f30r2 : List SOper := [
 o 4 (.mv (i 0)),
 o 5 (.mv (i 1))]
def f30r3 : List SOper := [
 o 6 (.mv (i 0))]
def f30r4 : List SOper := [
 o 7 (.mv (i 0))]
def f30r5 : List SOper := [
 o 12 (.mv (t 1)),
 o 13 (.len (t 12)),
 o 14 (.mv (i 0))]
def f30r6 : List SOper := [
 o 15 (.cmp .lss (t 14) (t 13))]
def f30r7 : List SOper := [
 o 16 (.ixs 5 (t 12) (t 14)),
 o 17 (.ldn 5 (t 16)),
 o 9 (.new [(.int .i64 0), (.string ⟨#[]⟩), (.string ⟨#[]⟩), (.string ⟨#[]⟩), (.int .i64 0)]),
 q (.st 5 (t 9) (t 17))]
def f30r8 : List SOper := [
 o 18 (.mv (t 0)),
 o 19 (.ldn 5 (t 9)),
 o 20 (.call 75 [(t 18), (t 19)]),
 o 7 (.mv (t 20))]
def f30r9 : List SOper := [
 o 21 (.mv (t 7)),
 o 22 (.cmp .neq (t 21) (i 0))]
def f30r10 : List SOper := [
 o 23 (.mv (t 6)),
 o 24 (.ar .add (t 23) (i 1)),
 o 6 (.mv (t 24))]
def f30r11 : List SOper := [
 o 25 (.ar .add (t 14) (i 1)),
 o 14 (.mv (t 25))]
def f30l12 : SCode := (.seq (.ops f30r6) (.seq (.cond (t 15) .skip (.exit 0)) (.seq (.block 1 (.seq (.ops f30r7) (.seq (.seq (.ops f30r8) (.seq (.ops f30r9) (.cond (t 22) (.exit 0) .skip))) (.ops f30r10)))) (.ops f30r11))))
def f30r13 : List SOper := [
 o 26 (.mv (t 6)),
 o 27 (.mv (t 7)),
 o 4 (.mv (t 26)),
 o 5 (.mv (t 27))]
def f30r14 : List SOper := [
 o 12 (.mv (t 1)),
 o 13 (.len (t 12)),
 o 14 (.mv (i 0))]
def f30r15 : List SOper := [
 o 15 (.cmp .lss (t 14) (t 13))]
def f30r16 : List SOper := [
 o 16 (.ixs 5 (t 12) (t 14)),
 o 17 (.ldn 5 (t 16)),
 o 9 (.new [(.int .i64 0), (.string ⟨#[]⟩), (.string ⟨#[]⟩), (.string ⟨#[]⟩), (.int .i64 0)]),
 q (.st 5 (t 9) (t 17))]
def f30r17 : List SOper := [
 o 18 (.mv (t 0)),
 o 19 (.ldn 5 (t 9)),
 o 20 (.call 75 [(t 18), (t 19)]),
 o 7 (.mv (t 20))]
def f30r18 : List SOper := [
 o 21 (.mv (t 7)),
 o 22 (.cmp .neq (t 21) (i 0))]
def f30r19 : List SOper := [
 o 23 (.mv (t 6)),
 o 24 (.ar .add (t 23) (i 1)),
 o 6 (.mv (t 24))]
def f30r20 : List SOper := [
 o 25 (.ar .add (t 14) (i 1)),
 o 14 (.mv (t 25))]
def f30l21 : SCode := (.seq (.ops f30r15) (.seq (.cond (t 15) .skip (.exit 0)) (.seq (.block 1 (.seq (.ops f30r16) (.seq (.seq (.ops f30r17) (.seq (.ops f30r18) (.cond (t 22) (.exit 0) .skip))) (.ops f30r19)))) (.ops f30r20))))
def f30r22 : List SOper := [
 o 26 (.mv (t 6)),
 o 27 (.mv (t 7)),
 o 4 (.mv (t 26)),
 o 5 (.mv (t 27))]
def f30 : SCode := (.seq (.ops f30r0) (.scopeG (.seq (.seq (.ops f30r1) (.cond (t 11) (.seq (.ops f30r2) .ret) .skip)) (.seq (.ops f30r3) (.seq (.ops f30r4) (.seq (.label 0) (.seq (.seq (.ops f30r5) (.block 0 (.loop f30l12))) (.seq (.ops f30r13) .ret)))))) 0 (.seq .skip (.seq (.seq (.ops f30r14) (.block 0 (.loop f30l21))) (.seq (.ops f30r22) .ret)))))
theorem f30_calls : Sound Tryz.prog 30 28 f30 [.t 4, .t 5] := sound_of mixed Tryz.func30 rfl (by kernel_rfl) (by kernel_rfl) (by kernel_rfl)

/-! 31: tabor/commands.long -/
def f31r0 : List SOper := [
 o 2 (.mv (b false))]
def f31r1 : List SOper := [
 o 3 (.mv (t 0)),
 o 4 (.len (t 3)),
 o 5 (.cmp .gtr (t 4) (i 65536)),
 o 6 (.mv (t 5)),
 n 7 6 (.mv (t 0)),
 n 8 6 (.call 76 [(t 7), (u 77)]),
 o 9 (.pick (t 6) (b true) (t 8)),
 o 2 (.mv (t 9))]
def f31 : SCode := (.seq (.ops f31r0) (.seq (.ops f31r1) .ret))
theorem f31_calls : Sound Tryz.prog 31 10 f31 [.t 2] := sound_of mixed Tryz.func31 rfl (by kernel_rfl) (by kernel_rfl) (by kernel_rfl)

/-! 32: tabor/commands.layers -/
def f32r0 : List SOper := [
 o 0 (.mv (.const (.slice none 0 0)))]
def f32r1 : List SOper := [
 o 1 (.bslice [.nilFunc, .nilFunc] 2 [(0, 1), (1, 1)] [(u 37), (u 10)]),
 o 0 (.mv (t 1))]
def f32 : SCode := (.seq (.ops f32r0) (.seq (.ops f32r1) .ret))
theorem f32_calls : Sound Tryz.prog 32 2 f32 [.t 0] := sound_of mixed Tryz.func32 rfl (by kernel_rfl) (by kernel_rfl) (by kernel_rfl)

/-! 33: (*tabor/keys.Keys).Copy: not simplified -/
/-! 34: slices.Concat[[]string,string]: not simplified -/
/-! 35: tabor/basics.Names: not simplified -/
/-! 36: maps.Keys[map[string]int,string,int]: not simplified -/
/-! 37: tabor/basics.Do -/
def f37r0 : List SOper := [
 o 6 (.new [(.int .i64 0), (.int .i64 0), (.string ⟨#[]⟩), (.slice none 0 0)]),
 o 7 (.new [(.slice none 0 0)]),
 o 8 (.mv (b false))]
def f37r1 : List SOper := [
 o 11 (.mv (t 2)),
 o 12 (.len (t 11)),
 o 13 (.cmp .eql (t 12) (i 0)),
 o 14 (.mv (t 13)),
 n 15 14 (.mv (t 0)),
 n 16 14 (.call 24 [(t 15), (.const (.pointer none))]),
 o 17 (.pick (t 14) (b true) (t 16))]
def f37r2 : List SOper := [
 o 18 (.build [(.int .i64 0), (.int .i64 0), (.string ⟨#[]⟩), (.slice none 0 0)] [] []),
 q (.st 4 (t 6) (t 18)),
 q (.st 1 (t 7) (.const (.slice none 0 0))),
 o 8 (.mv (b false))]
def f37r3 : List SOper := [
 o 21 (.mv (t 2)),
 o 22 (.ixs 1 (t 21) (i 0)),
 o 23 (.ld1 (t 22)),
 o 20 (.callq 81 []),
 o 24 (.callq 83 [(t 23)]),
 o 25 (.look .str .nilFunc true (t 20) (t 24)),
 o 19 (.mv (t 25)),
 o 26 (.ext (t 19) 0),
 o 27 (.ext (t 19) 1),
 o 9 (.mv (t 26)),
 o 8 (.mv (t 27))]
def f37r4 : List SOper := [
 o 28 (.mv (t 8)),
 o 29 (.un .not (t 28))]
def f37r5 : List SOper := [
 o 30 (.build [(.int .i64 0), (.int .i64 0), (.string ⟨#[]⟩), (.slice none 0 0)] [] []),
 q (.st 4 (t 6) (t 30)),
 q (.st 1 (t 7) (.const (.slice none 0 0))),
 o 8 (.mv (b false))]
def f37r6 : List SOper := [
 o 31 (.fn 84 [] [(t 6), (t 7)])]
def f37r7 : List SOper := [
 o 32 (.mv (t 0)),
 o 33 (.mv (t 1)),
 o 34 (.mv (t 2)),
 o 35 (.slc 1 (t 34) (some (i 1)) none),
 o 36 (.build [(.pointer none), (.int .i64 0), (.slice none 0 0), (.slice none 0 0)] [(0, 1), (1, 1), (2, 1)] [(t 32), (t 33), (t 35)]),
 o 37 (.box (t 36)),
 o 10 (.mv (t 37))]
def f37r8 : List SOper := [
 o 38 (.mv (t 9)),
 o 39 (.mv (t 10)),
 o 40 (.callv (t 38) [(t 39)]),
 q (.st 4 (t 6) (t 40))]
def f37p9 : List SOper := [
 o 41 (.ldn 4 (t 6)),
 o 42 (.mv (t 10)),
 o 43 (.nilck (t 42)),
 o 44 (.fa 3 (t 43))]
def f37r9 : List SOper := [
 o 45 (.ld1 (t 44)),
 q (.st 4 (t 6) (t 41)),
 q (.st 1 (t 7) (t 45)),
 o 8 (.mv (b true))]
def f37s9 : List SOper := [
 q (.st 4 (t 6) (t 41)),
 o 45 (.ld1 (t 44)),
 q (.st 1 (t 7) (t 45)),
 o 8 (.mv (b true))]
def f37 : SCode := (.seq (.ops f37r0) (.seq (.seq (.ops f37r1) (.cond (t 17) (.seq (.ops f37r2) .ret) .skip)) (.seq (.ops f37r3) (.seq (.seq (.ops f37r4) (.cond (t 29) (.seq (.ops f37r5) .ret) .skip)) (.seq (.dfr f37r6 none (t 31) []) (.seq (.ops f37r7) (.seq (.ops f37r8) (.seq (.two f37p9 f37r9 f37s9) .ret))))))))
theorem f37_calls : Sound Tryz.prog 37 46 f37 [.cn 6 4, .c1 7, .t 8] := sound_of mixed Tryz.func37 rfl (by kernel_rfl) (by kernel_rfl) (by kernel_rfl)

/-! 38: slices.Collect[string]: not simplified -/
/-! 39: slices.Sort[[]string,string]: not simplified -/
/-! 40: maps.Keys[map[string]func(*tabor/colls.asked) tabor/api.Reply,string,func(*tabor/colls.asked) tabor/api.Reply]$1: not simplified -/
/-! 41: (*tabor/colls.asked).hset: not simplified -/
/-! 42: (*tabor/colls.asked).hget: not simplified -/
/-! 43: (*tabor/colls.asked).hdel: not simplified -/
/-! 44: (*tabor/colls.asked).hlen: not simplified -/
/-! 45: (*tabor/colls.asked).hgetall: not simplified -/
/-! 46: (*tabor/colls.asked).hincrby: not simplified -/
/-! 47: (*tabor/colls.asked).lpush: not simplified -/
/-! 48: (*tabor/colls.asked).rpush: not simplified -/
/-! 49: (*tabor/colls.asked).lpop: not simplified -/
/-! 50: (*tabor/colls.asked).rpop: not simplified -/
/-! 51: (*tabor/colls.asked).llen: not simplified -/
/-! 52: (*tabor/colls.asked).lindex: not simplified -/
/-! 53: (*tabor/colls.asked).lrange: not simplified -/
/-! 54: (*tabor/colls.asked).lset: not simplified -/
/-! 55: (*tabor/colls.asked).sadd: not simplified -/
/-! 56: (*tabor/colls.asked).srem: not simplified -/
/-! 57: (*tabor/colls.asked).sismember: not simplified -/
/-! 58: (*tabor/colls.asked).scard: not simplified -/
/-! 59: (*tabor/colls.asked).smembers: not simplified -/
/-! 60: (*tabor/colls.asked).sinter: not simplified -/
/-! 61: (*tabor/colls.asked).zadd: not simplified -/
/-! 62: (*tabor/colls.asked).zrem: not simplified -/
/-! 63: (*tabor/colls.asked).zscore: not simplified -/
/-! 64: (*tabor/colls.asked).zincrby: not simplified -/
/-! 65: (*tabor/colls.asked).zcard: not simplified -/
/-! 66: (*tabor/colls.asked).zrank: not simplified -/
/-! 67: (*tabor/colls.asked).zrange: not simplified -/
/-! 68: (*tabor/colls.asked).zrangebyscore: not simplified -/
/-! 69: (*tabor/keys.Keys).none -/
def f69r0 : List SOper := [
 o 2 (.mv (b false))]
def f69r1 : List SOper := [
 o 3 (.mv (t 0)),
 o 4 (.eqn 0 false (t 3)),
 o 5 (.mv (t 4)),
 n 6 5 (.mv (t 0)),
 n 7 5 (.nilck (t 6)),
 n 8 5 (.fa 0 (t 7)),
 n 9 5 (.ld1 (t 8)),
 n 10 5 (.eqn 0 false (t 9)),
 o 11 (.pick (t 5) (b true) (t 10)),
 o 2 (.mv (t 11))]
def f69 : SCode := (.seq (.ops f69r0) (.seq (.ops f69r1) .ret))
theorem f69_calls : Sound Tryz.prog 69 12 f69 [.t 2] := sound_of mixed Tryz.func69 rfl (by kernel_rfl) (by kernel_rfl) (by kernel_rfl)

/-! 70: maps.EqualFunc[map[string]*tabor/api.Thing,map[string]*tabor/api.Thing,string,*tabor/api.Thing,*tabor/api.Thing]: not simplified -/
/-! 71: (*tabor/keys.Keys).Same$1: not simplified -/
/-! 72: tabor/keys.SameThing: not simplified -/
/-! 73: (*tabor/keys.Keys).Look: not simplified -/
/-! 74: tabor/keys.gone: not simplified -/
/-! 75: (*tabor/keys.Keys).one: not simplified -/
/-! 76: slices.ContainsFunc[[]string,string] -/
def f76r0 : List SOper := [
 o 4 (.mv (b false))]
def f76r1 : List SOper := [
 o 5 (.mv (t 0)),
 o 6 (.mv (t 1)),
 o 7 (.call 131 [(t 5), (t 6)]),
 o 8 (.cmp .geq (t 7) (i 0)),
 o 4 (.mv (t 8))]
def f76 : SCode := (.seq (.ops f76r0) (.seq (.ops f76r1) .ret))
theorem f76_calls : Sound Tryz.prog 76 9 f76 [.t 4] := sound_of mixed Tryz.func76 rfl (by kernel_rfl) (by kernel_rfl) (by kernel_rfl)

/-! 77: tabor/commands.long$1 -/
def f77r0 : List SOper := [
 o 2 (.mv (b false))]
def f77r1 : List SOper := [
 o 3 (.mv (t 0)),
 o 4 (.lens (t 3)),
 o 5 (.cmp .gtr (t 4) (i 1048576)),
 o 2 (.mv (t 5))]
def f77 : SCode := (.seq (.ops f77r0) (.seq (.ops f77r1) .ret))
theorem f77_calls : Sound Tryz.prog 77 6 f77 [.t 2] := sound_of mixed Tryz.func77 rfl (by kernel_rfl) (by kernel_rfl) (by kernel_rfl)

/-! 78: (*tabor/keys.Keys).All: not simplified -/
/-! 79: slices.Grow[[]string,string]: not simplified -/
/-! 80: maps.Keys[map[string]func(a *tabor/basics.asked) tabor/api.Reply,string,func(a *tabor/basics.asked) tabor/api.Reply]: not simplified -/
/-! 81: tabor/basics.commands: not simplified -/
/-! 82: maps.Keys[map[string]int,string,int]$1: not simplified -/
/-! 83: tabor/basics.word: not simplified -/
/-! 84: tabor/basics.Do$1: not simplified -/
/-! 85: slices.AppendSeq[[]string,string]: not simplified -/
/-! 86: slices.pdqsortOrdered[string]: not simplified -/
/-! 87: math/bits.Len: not simplified -/
/-! 88: (*tabor/colls.asked).many: not simplified -/
/-! 89: tabor/colls.must: not simplified -/
/-! 90: (*tabor/colls.asked).of: not simplified -/
/-! 91: tabor/colls.fresh: not simplified -/
/-! 92: (*tabor/colls.asked).hset$1: not simplified -/
/-! 93: (*tabor/colls.asked).field: not simplified -/
/-! 94: (*tabor/colls.asked).put: not simplified -/
/-! 95: tabor/colls.number: not simplified -/
/-! 96: (*tabor/colls.asked).begin: not simplified -/
/-! 97: tabor/colls.text: not simplified -/
/-! 98: (*tabor/colls.asked).away: not simplified -/
/-! 99: (*tabor/colls.asked).hdel$1: not simplified -/
/-! 100: tabor/colls.list[tabor/api.Pair]: not simplified -/
/-! 101: (*tabor/colls.asked).hgetall$1: not simplified -/
/-! 102: (*tabor/colls.asked).number: not simplified -/
/-! 103: tabor/basics.Number: not simplified -/
/-! 104: tabor/colls.plus: not simplified -/
/-! 105: strconv.FormatInt: not simplified -/
/-! 106: (*tabor/colls.asked).push: not simplified -/
/-! 107: (*tabor/colls.asked).pop: not simplified -/
/-! 108: tabor/deque.Place: not simplified -/
/-! 109: tabor/deque.Span: not simplified -/
/-! 110: tabor/colls.list[string]: not simplified -/
/-! 111: tabor/colls.one: not simplified -/
/-! 112: (*tabor/colls.asked).member: not simplified -/
/-! 113: tabor/colls.truth: not simplified -/
/-! 114: (*tabor/colls.asked).numbers: not simplified -/
/-! 115: (*tabor/colls.asked).zadd$1: not simplified -/
/-! 116: (*tabor/colls.asked).score: not simplified -/
/-! 117: (*tabor/colls.asked).zrem$1: not simplified -/
/-! 118: tabor/ranks.Of: not simplified -/
/-! 119: (*tabor/ranks.Ranks).Rank: not simplified -/
/-! 120: tabor/colls.list[tabor/api.Rank]: not simplified -/
/-! 121: (*tabor/ranks.Ranks).At: not simplified -/
/-! 122: tabor/colls.name: not simplified -/
/-! 123: (*tabor/ranks.Ranks).Between: not simplified -/
/-! 124: slices.Equal[[]tabor/api.Pair,tabor/api.Pair]: not simplified -/
/-! 125: slices.Equal[[]string,string]: not simplified -/
/-! 126: slices.Equal[[]tabor/api.Rank,tabor/api.Rank]: not simplified -/
/-! 127: tabor/keys.copied: not simplified -/
/-! 128: tabor/keys.rules: not simplified -/
/-! 129: tabor/keys.short: not simplified -/
/-! 130: tabor/keys.count: not simplified -/
/-! 131: slices.IndexFunc[[]string,string] -/
def f131r0 : List SOper := [
 o 4 (.mv (i 0))]
def f131r1 : List SOper := [
 o 6 (.mv (t 0)),
 o 7 (.len (t 6)),
 o 8 (.mv (i 0))]
def f131r2 : List SOper := [
 o 9 (.cmp .lss (t 8) (t 7))]
def f131r3 : List SOper := [
 o 10 (.mv (t 8)),
 o 5 (.mv (t 10))]
def f131r4 : List SOper := [
 o 11 (.mv (t 1)),
 o 12 (.mv (t 0)),
 o 13 (.mv (t 5)),
 o 14 (.ixs 1 (t 12) (t 13)),
 o 15 (.ld1 (t 14)),
 o 16 (.callv (t 11) [(t 15)])]
def f131r5 : List SOper := [
 o 17 (.mv (t 5)),
 o 4 (.mv (t 17))]
def f131r6 : List SOper := [
 o 18 (.ar .add (t 8) (i 1)),
 o 8 (.mv (t 18))]
def f131l7 : SCode := (.seq (.ops f131r2) (.seq (.cond (t 9) .skip (.exit 0)) (.seq (.block 1 (.seq (.ops f131r3) (.seq (.ops f131r4) (.cond (t 16) (.seq (.ops f131r5) .ret) .skip)))) (.ops f131r6))))
def f131r8 : List SOper := [
 o 4 (.mv (i (-1)))]
def f131 : SCode := (.seq (.ops f131r0) (.seq (.seq (.ops f131r1) (.block 0 (.loop f131l7))) (.seq (.ops f131r8) .ret)))
theorem f131_calls : Sound Tryz.prog 131 19 f131 [.t 4] := sound_of mixed Tryz.func131 rfl (by kernel_rfl) (by kernel_rfl) (by kernel_rfl)

/-! 132: (*tabor/keys.Keys).All$1: not simplified -/
/-! 133: maps.Keys[map[string]*tabor/api.Thing,string,*tabor/api.Thing]: not simplified -/
/-! 134: maps.Keys[map[string]func(a *tabor/basics.asked) tabor/api.Reply,string,func(a *tabor/basics.asked) tabor/api.Reply]$1: not simplified -/
/-! 135: tabor/basics.set: not simplified -/
/-! 136: tabor/basics.get: not simplified -/
/-! 137: tabor/basics.del: not simplified -/
/-! 138: tabor/basics.exists: not simplified -/
/-! 139: tabor/basics.kind: not simplified -/
/-! 140: tabor/basics.step: not simplified -/
/-! 141: tabor/basics.commands$1: not simplified -/
/-! 142: (*tabor/basics.asked).many: not simplified -/
/-! 143: tabor/basics.by: not simplified -/
/-! 144: (*tabor/basics.asked).number: not simplified -/
/-! 145: tabor/basics.more: not simplified -/
/-! 146: tabor/basics.long: not simplified -/
/-! 147: tabor/basics.mget: not simplified -/
/-! 148: tabor/basics.mset: not simplified -/
/-! 149: tabor/basics.expire: not simplified -/
/-! 150: tabor/basics.persist: not simplified -/
/-! 151: tabor/basics.left: not simplified -/
/-! 152: tabor/basics.names: not simplified -/
/-! 153: tabor/basics.size: not simplified -/
/-! 154: tabor/basics.flush: not simplified -/
/-! 155: slices.insertionSortOrdered[string]: not simplified -/
/-! 156: slices.heapSortOrdered[string]: not simplified -/
/-! 157: slices.breakPatternsOrdered[string]: not simplified -/
/-! 158: slices.choosePivotOrdered[string]: not simplified -/
/-! 159: slices.reverseRangeOrdered[string]: not simplified -/
/-! 160: slices.partialInsertionSortOrdered[string]: not simplified -/
/-! 161: cmp.Less[string]: not simplified -/
/-! 162: slices.partitionEqualOrdered[string]: not simplified -/
/-! 163: slices.partitionOrdered[string]: not simplified -/
/-! 164: math/bits.Len32: not simplified -/
/-! 165: math/bits.Len64: not simplified -/
/-! 166: tabor/colls.fresh$1: not simplified -/
/-! 167: slices.IndexFunc[[]tabor/api.Pair,tabor/api.Pair]: not simplified -/
/-! 168: (*tabor/colls.asked).field$1: not simplified -/
/-! 169: tabor/basics.Drops: not simplified -/
/-! 170: (*tabor/colls.asked).away$1: not simplified -/
/-! 171: (*tabor/colls.asked).take: not simplified -/
/-! 172: strconv.ParseInt: not simplified -/
/-! 173: internal/strconv.FormatInt: not simplified -/
/-! 174: slices.BinarySearch[[]string,string]: not simplified -/
/-! 175: (*tabor/ranks.Ranks).Score: not simplified -/
/-! 176: tabor/ranks.begun: not simplified -/
/-! 177: (*tabor/ranks.Ranks).put: not simplified -/
/-! 178: (*tabor/ranks.Ranks).none: not simplified -/
/-! 179: (*tabor/ranks.Ranks).down: not simplified -/
/-! 180: tabor/ranks.less: not simplified -/
/-! 181: (*tabor/ranks.Ranks).from: not simplified -/
/-! 182: (*tabor/ranks.Ranks).At$1: not simplified -/
/-! 183: (*tabor/ranks.Ranks).At$2: not simplified -/
/-! 184: (*tabor/ranks.Ranks).Between$1: not simplified -/
/-! 185: (*tabor/ranks.Ranks).Between$2: not simplified -/
/-! 186: slices.Clone[[]tabor/api.Pair,tabor/api.Pair]: not simplified -/
/-! 187: slices.Clone[[]string,string]: not simplified -/
/-! 188: slices.Clone[[]tabor/api.Rank,tabor/api.Rank]: not simplified -/
/-! 189: tabor/keys.rules$1: not simplified -/
/-! 190: tabor/keys.rules$2: not simplified -/
/-! 191: tabor/keys.rules$3: not simplified -/
/-! 192: tabor/keys.rules$4: not simplified -/
/-! 193: tabor/keys.hash: not simplified -/
/-! 194: tabor/keys.unhash: not simplified -/
/-! 195: tabor/keys.rules$5: not simplified -/
/-! 196: slices.Insert[[]string,string]: not simplified -/
/-! 197: tabor/keys.rules$6: not simplified -/
/-! 198: tabor/keys.rules$7: not simplified -/
/-! 199: tabor/keys.rules$8: not simplified -/
/-! 200: tabor/keys.at: not simplified -/
/-! 201: tabor/keys.add: not simplified -/
/-! 202: tabor/keys.remove: not simplified -/
/-! 203: tabor/keys.rank: not simplified -/
/-! 204: tabor/keys.unrank: not simplified -/
/-! 205: tabor/keys.short$1: not simplified -/
/-! 206: maps.Keys[map[string]*tabor/api.Thing,string,*tabor/api.Thing]$1: not simplified -/
/-! 207: tabor/basics.must: not simplified -/
/-! 208: tabor/basics.plus: not simplified -/
/-! 209: (*tabor/basics.asked).put: not simplified -/
/-! 210: (*tabor/basics.asked).add: not simplified -/
/-! 211: tabor/basics.ok: not simplified -/
/-! 212: (*tabor/basics.asked).text: not simplified -/
/-! 213: tabor/basics.text: not simplified -/
/-! 214: tabor/basics.number: not simplified -/
/-! 215: tabor/basics.step$1: not simplified -/
/-! 216: tabor/basics.list: not simplified -/
/-! 217: tabor/basics.minus: not simplified -/
/-! 218: (*tabor/keys.Keys).Names: not simplified -/
/-! 219: (*tabor/keys.Keys).Size: not simplified -/
/-! 220: slices.siftDownOrdered[string]: not simplified -/
/-! 221: slices.nextPowerOfTwo: not simplified -/
/-! 222: (*slices.xorshift).Next: not simplified -/
/-! 223: slices.medianAdjacentOrdered[string]: not simplified -/
/-! 224: slices.medianOrdered[string]: not simplified -/
/-! 225: cmp.isNaN[string]: not simplified -/
/-! 226: internal/strconv.ParseInt: not simplified -/
/-! 227: strconv.toError: not simplified -/
/-! 228: internal/strconv.small: not simplified -/
/-! 229: internal/strconv.numDigits: not simplified -/
/-! 230: internal/strconv.formatBase10: not simplified -/
/-! 231: internal/strconv.formatBits: not simplified -/
/-! 232: slices.isNaN[string]: not simplified -/
/-! 233: math/bits.TrailingZeros: not simplified -/
/-! 234: tabor/ranks.less$1: not simplified -/
/-! 235: tabor/keys.byName[tabor/api.Pair]: not simplified -/
/-! 236: tabor/keys.pairName: not simplified -/
/-! 237: slices.Insert[[]tabor/api.Pair,tabor/api.Pair]: not simplified -/
/-! 238: slices.Delete[[]tabor/api.Pair,tabor/api.Pair]: not simplified -/
/-! 239: slices.overlaps[string]: not simplified -/
/-! 240: slices.rotateRight[string]: not simplified -/
/-! 241: tabor/keys.byName[string]: not simplified -/
/-! 242: tabor/keys.itself: not simplified -/
/-! 243: slices.Delete[[]string,string]: not simplified -/
/-! 244: slices.BinarySearchFunc[[]tabor/api.Rank,tabor/api.Rank,tabor/api.Rank]: not simplified -/
/-! 245: tabor/keys.ahead: not simplified -/
/-! 246: slices.Insert[[]tabor/api.Rank,tabor/api.Rank]: not simplified -/
/-! 247: slices.IndexFunc[[]tabor/api.Rank,tabor/api.Rank]: not simplified -/
/-! 248: tabor/keys.unrank$1: not simplified -/
/-! 249: slices.Delete[[]tabor/api.Rank,tabor/api.Rank]: not simplified -/
/-! 250: slices.order2Ordered[string]: not simplified -/
/-! 251: internal/strconv.ParseUint: not simplified -/
/-! 252: strconv.syntaxError: not simplified -/
/-! 253: strconv.rangeError: not simplified -/
/-! 254: strconv.baseError: not simplified -/
/-! 255: strconv.bitSizeError: not simplified -/
/-! 256: internal/strconv.log10Pow2: not simplified -/
/-! 257: internal/strconv.bool2[int]: not simplified -/
/-! 258: internal/strconv.isPowerOfTwo: not simplified -/
/-! 259: math/bits.TrailingZeros32: not simplified -/
/-! 260: math/bits.TrailingZeros64: not simplified -/
/-! 261: slices.BinarySearchFunc[[]tabor/api.Pair,tabor/api.Pair,string]: not simplified -/
/-! 262: tabor/keys.byName[tabor/api.Pair]$1: not simplified -/
/-! 263: strings.Compare: not simplified -/
/-! 264: slices.overlaps[tabor/api.Pair]: not simplified -/
/-! 265: slices.rotateRight[tabor/api.Pair]: not simplified -/
/-! 266: slices.rotateLeft[string]: not simplified -/
/-! 267: slices.BinarySearchFunc[[]string,string,string]: not simplified -/
/-! 268: tabor/keys.byName[string]$1: not simplified -/
/-! 269: slices.overlaps[tabor/api.Rank]: not simplified -/
/-! 270: slices.rotateRight[tabor/api.Rank]: not simplified -/
/-! 271: internal/strconv.lower: not simplified -/
/-! 272: internal/strconv.underscoreOK: not simplified -/
/-! 273: internal/stringslite.Clone: not simplified -/
/-! 274: errors.New: not simplified -/
/-! 275: strconv.Itoa: not simplified -/
/-! 276: internal/bytealg.CompareString: not simplified -/
/-! 277: slices.rotateLeft[tabor/api.Pair]: not simplified -/
/-! 278: slices.Reverse[[]string,string]: not simplified -/
/-! 279: slices.rotateLeft[tabor/api.Rank]: not simplified -/
/-! 280: internal/strconv.Itoa: not simplified -/
/-! 281: internal/bytealg.abigen_runtime_cmpstring: not simplified -/
/-! 282: slices.Reverse[[]tabor/api.Pair,tabor/api.Pair]: not simplified -/
/-! 283: slices.Reverse[[]tabor/api.Rank,tabor/api.Rank]: not simplified -/
/-! 284: (runtime.boundsError).Error: not simplified -/
/-! 285: (runtime.boundsError).RuntimeError: not simplified -/
/-! 286: (runtime.errorString).Error: not simplified -/
/-! 287: (runtime.errorString).RuntimeError: not simplified -/
/-! 288: (runtime.plainError).Error: not simplified -/
/-! 289: (runtime.plainError).RuntimeError: not simplified -/
/-! 290: (runtime.errorAddressString).Error: not simplified -/
/-! 291: (runtime.errorAddressString).RuntimeError: not simplified -/
/-! 292: (*runtime.TypeAssertionError).Error: not simplified -/
/-! 293: (*runtime.TypeAssertionError).RuntimeError: not simplified -/
/-! 294: (*runtime.PanicNilError).Error: not simplified -/
/-! 295: (*runtime.PanicNilError).RuntimeError: not simplified -/
/-! 296: (*internal/abi.Type).Align: not simplified -/
/-! 297: (internal/runtime/maps.unhashableTypeError).Error: not simplified -/
/-! 298: (internal/runtime/maps.unhashableTypeError).RuntimeError: not simplified -/
/-! 299: (tabor/api.Errno).Error: not simplified -/
/-! 300: (*tabor/ranks.Ranks).Len: not simplified -/
/-! 301: (internal/strconv.Error).Error: not simplified -/
/-! 302: (*strconv.NumError).Error: not simplified -/
/-! 303: (*errors.errorString).Error: not simplified -/
/-! 304: (internal/abi.Kind).String: not simplified -/
/-! 305: var's door: gosem.cut.vars holds initialisers alone; see the manifest's row cutvarsword (look 11, test files too): not simplified -/
/-! 306: var's door: internal/strconv.uint64pow10 is laid by its own initialiser, plain data (look 11): not simplified -/
/-! 307: var's door: math/bits.deBruijn32tab is laid by its own initialiser, plain data (look 11): not simplified -/
/-! 308: var's door: math/bits.deBruijn64tab is laid by its own initialiser, plain data (look 11): not simplified -/
/-! 309: var's door: strconv.ErrRange is laid by its own call of errors.New on one literal (look 11): not simplified -/
/-! 310: var's door: strconv.ErrSyntax is laid by its own call of errors.New on one literal (look 11): not simplified -/
/-! 311: var's door: the look of gosem.cut.vars went over the folder that the caller named as the repository's root (look 11): not simplified -/
/-! 312: gosem.cut.vars: not simplified -/
end Go.Proofs.YtjinlabdkegjmaaGreatDoor.C
