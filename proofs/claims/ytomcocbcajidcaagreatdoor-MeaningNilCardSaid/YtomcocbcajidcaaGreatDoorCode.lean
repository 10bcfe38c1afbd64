/-
  The simplified code of this seat's functions, and that it is what the program's code comes to. Printed by a program (wip/print.lean).
-/
import Derived.Test.YtomcocbcajidcaaGreatDoorSxO
import Derived.Test.YtomcocbcajidcaaGreatDoorProg
set_option maxRecDepth 100000
namespace Go.Proofs.YtomcocbcajidcaaGreatDoor.C
open Go Go.Sx Go.Sx.S

theorem mixed : Tryz.prog.follows .mixedOrders = true := by kernel_rfl

/-! 0: main.main: not simplified -/
/-! 1: gosem.cut: not simplified -/
/-! 2: gosem.cut.init: not simplified -/
/-! 3: tabor/taborlaw17.MeaningNil -/
def f3r0 : List SOper := [
 o 2 (.box (t 0)),
 o 3 (.box (t 1)),
 o 4 (.mv (b false))]
def f3r1 : List SOper := [
 o 11 (.ldn 6 (t 3)),
 o 12 (.call 4 [(.const (.slice none 0 0)), (t 11)]),
 o 13 (.mv (t 12)),
 n 14 13 (.ldn 6 (t 2)),
 n 15 13 (.call 5 [(t 14)]),
 o 16 (.pick (t 13) (b true) (t 15))]
def f3r2 : List SOper := [
 o 17 (.call 6 []),
 o 4 (.mv (t 17))]
def f3r3 : List SOper := [
 o 19 (.ldn 6 (t 2)),
 o 20 (.ldn 6 (t 3)),
 o 21 (.call 7 [(.const (.pointer none)), (t 19), (t 20)]),
 o 18 (.mv (t 21)),
 o 22 (.ext (t 18) 0),
 o 23 (.ext (t 18) 1),
 o 5 (.new [(.int .i64 0), (.int .i64 0), (.string ⟨#[]⟩), (.slice none 0 0), (.slice none 0 0), (.int .i64 0), (.int .i64 0)]),
 q (.st 7 (t 5) (t 22)),
 o 6 (.mv (t 23))]
def f3r4 : List SOper := [
 o 25 (.build [(.pointer none)] [] []),
 o 26 (.box (t 25)),
 o 27 (.ldn 6 (t 2)),
 o 28 (.ldn 6 (t 3)),
 o 29 (.call 7 [(t 26), (t 27), (t 28)]),
 o 24 (.mv (t 29)),
 o 30 (.ext (t 24) 0),
 o 31 (.ext (t 24) 1),
 o 7 (.new [(.int .i64 0), (.int .i64 0), (.string ⟨#[]⟩), (.slice none 0 0), (.slice none 0 0), (.int .i64 0), (.int .i64 0)]),
 q (.st 7 (t 7) (t 30)),
 o 8 (.mv (t 31))]
def f3r5 : List SOper := [
 o 33 (.ldn 6 (t 3)),
 o 34 (.call 8 [(.const (.pointer none)), (.const (.string ⟨#[114, 101, 116, 117, 114, 110, 32, 49]⟩)), (t 33)]),
 o 32 (.mv (t 34)),
 o 35 (.ext (t 32) 0),
 o 36 (.ext (t 32) 1),
 o 9 (.new [(.int .i64 0), (.int .i64 0), (.string ⟨#[]⟩), (.slice none 0 0), (.slice none 0 0), (.int .i64 0), (.int .i64 0)]),
 q (.st 7 (t 9) (t 35)),
 o 10 (.mv (t 36))]
def f3r6 : List SOper := [
 o 37 (.mv (t 6)),
 o 38 (.cmp .eql (t 37) (i 1)),
 o 39 (.mv (t 38)),
 g 40 39 (.mv (t 8)),
 g 41 39 (.cmp .eql (t 40) (i 1)),
 o 42 (.pick (t 39) (t 41) (b false)),
 o 43 (.mv (t 42)),
 g 44 43 (.mv (t 10)),
 g 45 43 (.cmp .eql (t 44) (i 1)),
 o 46 (.pick (t 43) (t 45) (b false)),
 o 47 (.mv (t 46)),
 g 48 47 (.call 6 []),
 o 49 (.pick (t 47) (t 48) (b false)),
 o 4 (.mv (t 49))]
def f3 : SCode := (.seq (.ops f3r0) (.seq (.seq (.ops f3r1) (.cond (t 16) (.seq (.ops f3r2) .ret) .skip)) (.seq (.ops f3r3) (.seq (.ops f3r4) (.seq (.ops f3r5) (.seq (.ops f3r6) .ret))))))
theorem f3_calls : Sound Tryz.prog 3 50 f3 [.t 4] := sound_of mixed Tryz.func3 rfl (by kernel_rfl) (by kernel_rfl) (by kernel_rfl)

/-! 4: tabor/taborlaw17.large -/
def f4r0 : List SOper := [
 o 3 (.box (t 1)),
 o 4 (.mv (b false))]
def f4r1 : List SOper := [
 o 8 (.mv (t 0)),
 o 9 (.len (t 8)),
 o 10 (.cmp .gtr (t 9) (i 10)),
 o 11 (.mv (t 10)),
 n 12 11 (.fa 0 (t 3)),
 n 13 11 (.ld1 (t 12)),
 n 14 11 (.len (t 13)),
 n 15 11 (.fa 1 (t 3)),
 n 16 11 (.ld1 (t 15)),
 n 17 11 (.len (t 16)),
 n 18 11 (.ar .add (t 14) (t 17)),
 n 19 11 (.cmp .gtr (t 18) (i 10)),
 o 20 (.pick (t 11) (b true) (t 19)),
 o 21 (.mv (t 20)),
 n 22 21 (.fa 3 (t 3)),
 n 23 21 (.ld1 (t 22)),
 n 24 21 (.cmp .gtr (t 23) (i 5000)),
 o 25 (.pick (t 21) (b true) (t 24))]
def f4r2 : List SOper := [
 o 4 (.mv (b true))]
def f4r3 : List SOper := [
 o 5 (.mv (i 0))]
def f4r4 : List SOper := [
 o 26 (.mv (t 5)),
 o 27 (.mv (t 0)),
 o 28 (.len (t 27)),
 o 29 (.cmp .lss (t 26) (t 28))]
def f4r5 : List SOper := [
 o 32 (.mv (t 0)),
 o 33 (.mv (t 5)),
 o 34 (.ixs 8 (t 32) (t 33)),
 o 35 (.fa 0 (t 34)),
 o 36 (.ld1 (t 35)),
 o 37 (.lens (t 36)),
 o 38 (.cmp .gtr (t 37) (i 300)),
 o 39 (.mv (t 38)),
 n 40 39 (.mv (t 0)),
 n 41 39 (.mv (t 5)),
 n 42 39 (.ixs 8 (t 40) (t 41)),
 n 43 39 (.fa 1 (t 42)),
 n 44 39 (.ldn 7 (t 43)),
 n 45 39 (.call 9 [(t 44)]),
 o 46 (.pick (t 39) (b true) (t 45))]
def f4r6 : List SOper := [
 o 4 (.mv (b true))]
def f4r7 : List SOper := [
 o 30 (.mv (t 5)),
 o 31 (.ar .add (t 30) (i 1)),
 o 5 (.mv (t 31))]
def f4l8 : SCode := (.seq (.seq (.ops f4r4) (.cond (t 29) .skip (.exit 0))) (.seq (.block 1 (.seq (.ops f4r5) (.cond (t 46) (.seq (.ops f4r6) .ret) .skip))) (.ops f4r7)))
def f4r9 : List SOper := [
 o 6 (.mv (i 0))]
def f4r10 : List SOper := [
 o 47 (.mv (t 6)),
 o 48 (.fa 0 (t 3)),
 o 49 (.ld1 (t 48)),
 o 50 (.len (t 49)),
 o 51 (.cmp .lss (t 47) (t 50))]
def f4r11 : List SOper := [
 o 54 (.fa 0 (t 3)),
 o 55 (.ld1 (t 54)),
 o 56 (.mv (t 6)),
 o 57 (.ixs 1 (t 55) (t 56)),
 o 58 (.ld1 (t 57)),
 o 59 (.lens (t 58)),
 o 60 (.cmp .gtr (t 59) (i 100))]
def f4r12 : List SOper := [
 o 4 (.mv (b true))]
def f4r13 : List SOper := [
 o 52 (.mv (t 6)),
 o 53 (.ar .add (t 52) (i 1)),
 o 6 (.mv (t 53))]
def f4l14 : SCode := (.seq (.seq (.ops f4r10) (.cond (t 51) .skip (.exit 2))) (.seq (.block 3 (.seq (.ops f4r11) (.cond (t 60) (.seq (.ops f4r12) .ret) .skip))) (.ops f4r13)))
def f4r15 : List SOper := [
 o 7 (.mv (i 0))]
def f4r16 : List SOper := [
 o 61 (.mv (t 7)),
 o 62 (.fa 1 (t 3)),
 o 63 (.ld1 (t 62)),
 o 64 (.len (t 63)),
 o 65 (.cmp .lss (t 61) (t 64))]
def f4r17 : List SOper := [
 o 68 (.fa 1 (t 3)),
 o 69 (.ld1 (t 68)),
 o 70 (.mv (t 7)),
 o 71 (.ixs 1 (t 69) (t 70)),
 o 72 (.ld1 (t 71)),
 o 73 (.lens (t 72)),
 o 74 (.cmp .gtr (t 73) (i 100))]
def f4r18 : List SOper := [
 o 4 (.mv (b true))]
def f4r19 : List SOper := [
 o 66 (.mv (t 7)),
 o 67 (.ar .add (t 66) (i 1)),
 o 7 (.mv (t 67))]
def f4l20 : SCode := (.seq (.seq (.ops f4r16) (.cond (t 65) .skip (.exit 4))) (.seq (.block 5 (.seq (.ops f4r17) (.cond (t 74) (.seq (.ops f4r18) .ret) .skip))) (.ops f4r19)))
def f4r21 : List SOper := [
 o 75 (.fa 4 (t 3)),
 o 76 (.ld1 (t 75)),
 o 77 (.cmp .gtr (t 76) (i 5000)),
 o 4 (.mv (t 77))]
def f4 : SCode := (.seq (.ops f4r0) (.seq (.seq (.ops f4r1) (.cond (t 25) (.seq (.ops f4r2) .ret) .skip)) (.seq (.seq (.ops f4r3) (.block 0 (.loop f4l8))) (.seq (.seq (.ops f4r9) (.block 2 (.loop f4l14))) (.seq (.seq (.ops f4r15) (.block 4 (.loop f4l20))) (.seq (.ops f4r21) .ret))))))
theorem f4_calls : Sound Tryz.prog 4 78 f4 [.t 4] := sound_of mixed Tryz.func4 rfl (by kernel_rfl) (by kernel_rfl) (by kernel_rfl)

/-! 5: tabor/taborlaw17.wide -/
def f5r0 : List SOper := [
 o 1 (.box (t 0)),
 o 2 (.mv (b false))]
def f5r1 : List SOper := [
 o 3 (.ldn 6 (t 1)),
 o 4 (.call 10 [(t 3), (i 200)]),
 o 5 (.cmp .gtr (t 4) (i 200)),
 o 6 (.mv (t 5)),
 n 7 6 (.ldn 6 (t 1)),
 n 8 6 (.call 11 [(t 7)]),
 n 9 6 (.cmp .gtr (t 8) (i 2000)),
 o 10 (.pick (t 6) (b true) (t 9)),
 o 2 (.mv (t 10))]
def f5 : SCode := (.seq (.ops f5r0) (.seq (.ops f5r1) .ret))
theorem f5_calls : Sound Tryz.prog 5 11 f5 [.t 2] := sound_of mixed Tryz.func5 rfl (by kernel_rfl) (by kernel_rfl) (by kernel_rfl)

/-! 6: tabor/taborlaw17.known -/
def f6r0 : List SOper := [
 o 0 (.mv (b false))]
def f6r1 : List SOper := [
 o 4 (.call 12 []),
 o 5 (.build [(.slice none 0 0), (.slice none 0 0), (.int .i64 0), (.int .i64 0), (.int .i64 0), (.int .i64 0)] [(3, 1), (4, 1), (5, 1)] [(i 10), (i 10), (i 1)]),
 o 6 (.call 8 [(t 4), (.const (.string ⟨#[114, 101, 116, 117, 114, 110, 32, 50, 32, 43, 32, 51]⟩)), (t 5)]),
 o 3 (.mv (t 6)),
 o 7 (.ext (t 3) 0),
 o 8 (.ext (t 3) 1),
 o 1 (.new [(.int .i64 0), (.int .i64 0), (.string ⟨#[]⟩), (.slice none 0 0), (.slice none 0 0), (.int .i64 0), (.int .i64 0)]),
 q (.st 7 (t 1) (t 7)),
 o 2 (.mv (t 8))]
def f6r2 : List SOper := [
 o 9 (.mv (t 2)),
 o 10 (.cmp .eql (t 9) (i 0)),
 o 11 (.mv (t 10)),
 g 12 11 (.fa 0 (t 1)),
 g 13 11 (.fa 0 (t 12)),
 g 14 11 (.ld1 (t 13)),
 g 15 11 (.cmp .eql (t 14) (i 3)),
 o 16 (.pick (t 11) (t 15) (b false)),
 o 17 (.mv (t 16)),
 g 18 17 (.fa 0 (t 1)),
 g 19 17 (.fa 1 (t 18)),
 g 20 17 (.ld1 (t 19)),
 g 21 17 (.cmp .eql (t 20) (i 5)),
 o 22 (.pick (t 17) (t 21) (b false)),
 o 23 (.mv (t 22)),
 g 24 23 (.fa 5 (t 1)),
 g 25 23 (.ld1 (t 24)),
 g 26 23 (.cmp .eql (t 25) (i 5)),
 o 27 (.pick (t 23) (t 26) (b false)),
 o 0 (.mv (t 27))]
def f6 : SCode := (.seq (.ops f6r0) (.seq (.ops f6r1) (.seq (.ops f6r2) .ret)))
theorem f6_calls : Sound Tryz.prog 6 28 f6 [.t 0] := sound_of mixed Tryz.func6 rfl (by kernel_rfl) (by kernel_rfl) (by kernel_rfl)

/-! 7: tabor/meaning.Run -/
def f7r0 : List SOper := [
 o 4 (.box (t 1)),
 o 5 (.box (t 2)),
 o 6 (.new [(.int .i64 0), (.int .i64 0), (.string ⟨#[]⟩), (.slice none 0 0), (.slice none 0 0), (.int .i64 0), (.int .i64 0)]),
 o 7 (.mv (i 0))]
def f7r1 : List SOper := [
 o 16 (.mv (t 0)),
 o 17 (.call 13 [(t 16), (.const (.pointer none))]),
 o 15 (.mv (t 17))]
def f7r2 : List SOper := [
 o 18 (.build [(.int .i64 0), (.int .i64 0), (.string ⟨#[]⟩), (.slice none 0 0), (.slice none 0 0), (.int .i64 0), (.int .i64 0)] [] []),
 q (.st 7 (t 6) (t 18)),
 o 7 (.mv (i 1))]
def f7r3 : List SOper := [
 o 20 (.ldn 6 (t 4)),
 o 21 (.call 14 [(t 20)]),
 o 22 (.cmp .neq (t 21) (i 0)),
 o 23 (.mv (t 22)),
 n 24 23 (.fa 0 (t 5)),
 n 25 23 (.ld1 (t 24)),
 n 26 23 (.fa 1 (t 5)),
 n 27 23 (.ld1 (t 26)),
 n 28 23 (.bslice [(.slice none 0 0), (.slice none 0 0)] 2 [(0, 1), (1, 1)] [(t 25), (t 27)]),
 n 29 23 (.call 16 [(t 28)]),
 n 30 23 (.call 15 [(t 29)]),
 n 31 23 (.un .not (t 30)),
 o 32 (.pick (t 23) (b true) (t 31)),
 o 19 (.mv (t 32))]
def f7r4 : List SOper := [
 o 33 (.build [(.int .i64 0), (.int .i64 0), (.string ⟨#[]⟩), (.slice none 0 0), (.slice none 0 0), (.int .i64 0), (.int .i64 0)] [] []),
 q (.st 7 (t 6) (t 33)),
 o 7 (.mv (i 2))]
def f7r5 : List SOper := [
 o 35 (.ldn 6 (t 4)),
 o 36 (.call 17 [(t 35)]),
 o 34 (.mv (t 36)),
 o 37 (.ext (t 34) 0),
 o 38 (.ext (t 34) 1),
 o 39 (.ext (t 34) 2),
 o 8 (.new [(.int .i64 0), (.string ⟨#[]⟩), (.string ⟨#[]⟩), (.int .i64 0), (.slice none 0 0), (.slice none 0 0)]),
 q (.st 6 (t 8) (t 37)),
 o 9 (.mv (t 38)),
 o 10 (.mv (t 39))]
def f7r6 : List SOper := [
 o 40 (.mv (t 10)),
 o 41 (.cmp .neq (t 40) (i 0))]
def f7r7 : List SOper := [
 o 42 (.build [(.int .i64 0), (.int .i64 0), (.string ⟨#[]⟩), (.slice none 0 0), (.slice none 0 0), (.int .i64 0), (.int .i64 0)] [] []),
 o 43 (.mv (t 10)),
 q (.st 7 (t 6) (t 42)),
 o 7 (.mv (t 43))]
def f7r8 : List SOper := [
 o 44 (.fa 3 (t 5)),
 o 45 (.ld1 (t 44)),
 o 46 (.mx (t 45) (i 0)),
 o 47 (.mn (t 46) (i 16777216)),
 o 11 (.mv (t 47))]
def f7t9 : OTree := (.one (o 48 (.mv (t 11)))
 (.one (o 49 (.fa 5 (t 5)))
 (.one (o 54 (.fa 4 (t 5)))
 (.one (o 58 (.mv (t 0)))
 (.one (o 59 (.fa 2 (t 5)))
 (.one (o 64 (.mv (t 9)))
 (.one (o 50 (.ld1 (t 49)))
 (.one (o 51 (.mx (t 50) (i 0)))
 (.chk [o 50 (.ld1 (t 49))] (.one (o 52 (.mn (t 51) (i 200)))
 (.chk [o 50 (.ld1 (t 49))] (.one (o 53 (.build [(.int .i64 0), (.int .i64 0)] [(0, 1), (1, 1)] [(t 48), (t 52)]))
 (.chk [o 50 (.ld1 (t 49))] (.one (o 55 (.ld1 (t 54)))
 (.one (o 56 (.mn (t 55) (i 1048576)))
 (.chk [o 55 (.ld1 (t 54)), o 50 (.ld1 (t 49))] (.one (o 60 (.ld1 (t 59)))
 (.one (o 62 (.ldn 6 (t 8)))
 (.both (.one (o 57 (.call 18 [(t 56)]))
 (.chk [o 62 (.ldn 6 (t 8)), o 60 (.ld1 (t 59)), o 50 (.ld1 (t 49))] (.both (.one (o 61 (.mkm))
 (.chk [o 62 (.ldn 6 (t 8)), o 60 (.ld1 (t 59)), o 50 (.ld1 (t 49))] (.both (.one (q (.mup (.int .i64) (t 61) (i 0) (t 62)))
 (.chk [o 60 (.ld1 (t 59)), o 50 (.ld1 (t 49))] (.one (o 63 (.mv (t 61)))
 (.chk [o 60 (.ld1 (t 59)), o 50 (.ld1 (t 49))] (.one (o 65 (.build [(.int .i64 0), (.int .i64 0), (.pointer none), (.pointer none), (.int .i64 0), (.map none), (.slice none 0 0), (.int .i64 0), (.int .i64 0), (.string ⟨#[]⟩), (.int .i64 0), (.int .i64 0), (.string ⟨#[]⟩), (.slice none 0 0)] [(0, 2), (2, 1), (3, 1), (4, 1), (5, 1), (6, 1)] [(t 53), (t 57), (t 58), (t 60), (t 63), (t 64)]))
 (.chk [o 60 (.ld1 (t 59)), o 50 (.ld1 (t 49))] (.both (.one (o 66 (.box (t 65)))
 (.one (o 12 (.new [(.pointer none)]))
 (.one (q (.st 1 (t 12) (t 66)))
 .done))) (.one (o 12 (.new [(.pointer none)]))
 (.chk [o 60 (.ld1 (t 59)), o 50 (.ld1 (t 49))] (.one (o 66 (.box (t 65)))
 (.one (q (.st 1 (t 12) (t 66)))
 .done))))))))))) (.one (o 12 (.new [(.pointer none)]))
 (.chk [o 62 (.ldn 6 (t 8)), o 60 (.ld1 (t 59)), o 50 (.ld1 (t 49))] (.one (q (.mup (.int .i64) (t 61) (i 0) (t 62)))
 (.chk [o 60 (.ld1 (t 59)), o 50 (.ld1 (t 49))] (.one (o 63 (.mv (t 61)))
 (.chk [o 60 (.ld1 (t 59)), o 50 (.ld1 (t 49))] (.one (o 65 (.build [(.int .i64 0), (.int .i64 0), (.pointer none), (.pointer none), (.int .i64 0), (.map none), (.slice none 0 0), (.int .i64 0), (.int .i64 0), (.string ⟨#[]⟩), (.int .i64 0), (.int .i64 0), (.string ⟨#[]⟩), (.slice none 0 0)] [(0, 2), (2, 1), (3, 1), (4, 1), (5, 1), (6, 1)] [(t 53), (t 57), (t 58), (t 60), (t 63), (t 64)]))
 (.chk [o 60 (.ld1 (t 59)), o 50 (.ld1 (t 49))] (.one (o 66 (.box (t 65)))
 (.one (q (.st 1 (t 12) (t 66)))
 .done))))))))))))) (.one (o 12 (.new [(.pointer none)]))
 (.chk [o 62 (.ldn 6 (t 8)), o 60 (.ld1 (t 59)), o 50 (.ld1 (t 49))] (.one (o 61 (.mkm))
 (.chk [o 62 (.ldn 6 (t 8)), o 60 (.ld1 (t 59)), o 50 (.ld1 (t 49))] (.one (q (.mup (.int .i64) (t 61) (i 0) (t 62)))
 (.chk [o 60 (.ld1 (t 59)), o 50 (.ld1 (t 49))] (.one (o 63 (.mv (t 61)))
 (.chk [o 60 (.ld1 (t 59)), o 50 (.ld1 (t 49))] (.one (o 65 (.build [(.int .i64 0), (.int .i64 0), (.pointer none), (.pointer none), (.int .i64 0), (.map none), (.slice none 0 0), (.int .i64 0), (.int .i64 0), (.string ⟨#[]⟩), (.int .i64 0), (.int .i64 0), (.string ⟨#[]⟩), (.slice none 0 0)] [(0, 2), (2, 1), (3, 1), (4, 1), (5, 1), (6, 1)] [(t 53), (t 57), (t 58), (t 60), (t 63), (t 64)]))
 (.chk [o 60 (.ld1 (t 59)), o 50 (.ld1 (t 49))] (.one (o 66 (.box (t 65)))
 (.one (q (.st 1 (t 12) (t 66)))
 .done))))))))))))))) (.both (.one (o 61 (.mkm))
 (.chk [o 62 (.ldn 6 (t 8)), o 60 (.ld1 (t 59)), o 55 (.ld1 (t 54)), o 50 (.ld1 (t 49))] (.both (.one (o 57 (.call 18 [(t 56)]))
 (.chk [o 62 (.ldn 6 (t 8)), o 60 (.ld1 (t 59)), o 50 (.ld1 (t 49))] (.both (.one (q (.mup (.int .i64) (t 61) (i 0) (t 62)))
 (.chk [o 60 (.ld1 (t 59)), o 50 (.ld1 (t 49))] (.one (o 63 (.mv (t 61)))
 (.chk [o 60 (.ld1 (t 59)), o 50 (.ld1 (t 49))] (.one (o 65 (.build [(.int .i64 0), (.int .i64 0), (.pointer none), (.pointer none), (.int .i64 0), (.map none), (.slice none 0 0), (.int .i64 0), (.int .i64 0), (.string ⟨#[]⟩), (.int .i64 0), (.int .i64 0), (.string ⟨#[]⟩), (.slice none 0 0)] [(0, 2), (2, 1), (3, 1), (4, 1), (5, 1), (6, 1)] [(t 53), (t 57), (t 58), (t 60), (t 63), (t 64)]))
 (.chk [o 60 (.ld1 (t 59)), o 50 (.ld1 (t 49))] (.both (.one (o 66 (.box (t 65)))
 (.one (o 12 (.new [(.pointer none)]))
 (.one (q (.st 1 (t 12) (t 66)))
 .done))) (.one (o 12 (.new [(.pointer none)]))
 (.chk [o 60 (.ld1 (t 59)), o 50 (.ld1 (t 49))] (.one (o 66 (.box (t 65)))
 (.one (q (.st 1 (t 12) (t 66)))
 .done))))))))))) (.one (o 12 (.new [(.pointer none)]))
 (.chk [o 62 (.ldn 6 (t 8)), o 60 (.ld1 (t 59)), o 50 (.ld1 (t 49))] (.one (q (.mup (.int .i64) (t 61) (i 0) (t 62)))
 (.chk [o 60 (.ld1 (t 59)), o 50 (.ld1 (t 49))] (.one (o 63 (.mv (t 61)))
 (.chk [o 60 (.ld1 (t 59)), o 50 (.ld1 (t 49))] (.one (o 65 (.build [(.int .i64 0), (.int .i64 0), (.pointer none), (.pointer none), (.int .i64 0), (.map none), (.slice none 0 0), (.int .i64 0), (.int .i64 0), (.string ⟨#[]⟩), (.int .i64 0), (.int .i64 0), (.string ⟨#[]⟩), (.slice none 0 0)] [(0, 2), (2, 1), (3, 1), (4, 1), (5, 1), (6, 1)] [(t 53), (t 57), (t 58), (t 60), (t 63), (t 64)]))
 (.chk [o 60 (.ld1 (t 59)), o 50 (.ld1 (t 49))] (.one (o 66 (.box (t 65)))
 (.one (q (.st 1 (t 12) (t 66)))
 .done))))))))))))) (.both (.one (q (.mup (.int .i64) (t 61) (i 0) (t 62)))
 (.chk [o 60 (.ld1 (t 59)), o 55 (.ld1 (t 54)), o 50 (.ld1 (t 49))] (.one (o 63 (.mv (t 61)))
 (.chk [o 60 (.ld1 (t 59)), o 55 (.ld1 (t 54)), o 50 (.ld1 (t 49))] (.both (.one (o 57 (.call 18 [(t 56)]))
 (.chk [o 60 (.ld1 (t 59)), o 50 (.ld1 (t 49))] (.one (o 65 (.build [(.int .i64 0), (.int .i64 0), (.pointer none), (.pointer none), (.int .i64 0), (.map none), (.slice none 0 0), (.int .i64 0), (.int .i64 0), (.string ⟨#[]⟩), (.int .i64 0), (.int .i64 0), (.string ⟨#[]⟩), (.slice none 0 0)] [(0, 2), (2, 1), (3, 1), (4, 1), (5, 1), (6, 1)] [(t 53), (t 57), (t 58), (t 60), (t 63), (t 64)]))
 (.chk [o 60 (.ld1 (t 59)), o 50 (.ld1 (t 49))] (.both (.one (o 66 (.box (t 65)))
 (.one (o 12 (.new [(.pointer none)]))
 (.one (q (.st 1 (t 12) (t 66)))
 .done))) (.one (o 12 (.new [(.pointer none)]))
 (.chk [o 60 (.ld1 (t 59)), o 50 (.ld1 (t 49))] (.one (o 66 (.box (t 65)))
 (.one (q (.st 1 (t 12) (t 66)))
 .done))))))))) (.one (o 12 (.new [(.pointer none)]))
 (.chk [o 60 (.ld1 (t 59)), o 55 (.ld1 (t 54)), o 50 (.ld1 (t 49))] (.one (o 57 (.call 18 [(t 56)]))
 (.chk [o 60 (.ld1 (t 59)), o 50 (.ld1 (t 49))] (.one (o 65 (.build [(.int .i64 0), (.int .i64 0), (.pointer none), (.pointer none), (.int .i64 0), (.map none), (.slice none 0 0), (.int .i64 0), (.int .i64 0), (.string ⟨#[]⟩), (.int .i64 0), (.int .i64 0), (.string ⟨#[]⟩), (.slice none 0 0)] [(0, 2), (2, 1), (3, 1), (4, 1), (5, 1), (6, 1)] [(t 53), (t 57), (t 58), (t 60), (t 63), (t 64)]))
 (.chk [o 60 (.ld1 (t 59)), o 50 (.ld1 (t 49))] (.one (o 66 (.box (t 65)))
 (.one (q (.st 1 (t 12) (t 66)))
 .done))))))))))))) (.one (o 12 (.new [(.pointer none)]))
 (.chk [o 62 (.ldn 6 (t 8)), o 60 (.ld1 (t 59)), o 55 (.ld1 (t 54)), o 50 (.ld1 (t 49))] (.both (.one (o 57 (.call 18 [(t 56)]))
 (.chk [o 62 (.ldn 6 (t 8)), o 60 (.ld1 (t 59)), o 50 (.ld1 (t 49))] (.one (q (.mup (.int .i64) (t 61) (i 0) (t 62)))
 (.chk [o 60 (.ld1 (t 59)), o 50 (.ld1 (t 49))] (.one (o 63 (.mv (t 61)))
 (.chk [o 60 (.ld1 (t 59)), o 50 (.ld1 (t 49))] (.one (o 65 (.build [(.int .i64 0), (.int .i64 0), (.pointer none), (.pointer none), (.int .i64 0), (.map none), (.slice none 0 0), (.int .i64 0), (.int .i64 0), (.string ⟨#[]⟩), (.int .i64 0), (.int .i64 0), (.string ⟨#[]⟩), (.slice none 0 0)] [(0, 2), (2, 1), (3, 1), (4, 1), (5, 1), (6, 1)] [(t 53), (t 57), (t 58), (t 60), (t 63), (t 64)]))
 (.chk [o 60 (.ld1 (t 59)), o 50 (.ld1 (t 49))] (.one (o 66 (.box (t 65)))
 (.one (q (.st 1 (t 12) (t 66)))
 .done)))))))))) (.one (q (.mup (.int .i64) (t 61) (i 0) (t 62)))
 (.chk [o 60 (.ld1 (t 59)), o 55 (.ld1 (t 54)), o 50 (.ld1 (t 49))] (.one (o 63 (.mv (t 61)))
 (.chk [o 60 (.ld1 (t 59)), o 55 (.ld1 (t 54)), o 50 (.ld1 (t 49))] (.one (o 57 (.call 18 [(t 56)]))
 (.chk [o 60 (.ld1 (t 59)), o 50 (.ld1 (t 49))] (.one (o 65 (.build [(.int .i64 0), (.int .i64 0), (.pointer none), (.pointer none), (.int .i64 0), (.map none), (.slice none 0 0), (.int .i64 0), (.int .i64 0), (.string ⟨#[]⟩), (.int .i64 0), (.int .i64 0), (.string ⟨#[]⟩), (.slice none 0 0)] [(0, 2), (2, 1), (3, 1), (4, 1), (5, 1), (6, 1)] [(t 53), (t 57), (t 58), (t 60), (t 63), (t 64)]))
 (.chk [o 60 (.ld1 (t 59)), o 50 (.ld1 (t 49))] (.one (o 66 (.box (t 65)))
 (.one (q (.st 1 (t 12) (t 66)))
 .done))))))))))))))))) (.one (o 12 (.new [(.pointer none)]))
 (.chk [o 62 (.ldn 6 (t 8)), o 60 (.ld1 (t 59)), o 55 (.ld1 (t 54)), o 50 (.ld1 (t 49))] (.both (.one (o 57 (.call 18 [(t 56)]))
 (.chk [o 62 (.ldn 6 (t 8)), o 60 (.ld1 (t 59)), o 50 (.ld1 (t 49))] (.one (o 61 (.mkm))
 (.chk [o 62 (.ldn 6 (t 8)), o 60 (.ld1 (t 59)), o 50 (.ld1 (t 49))] (.one (q (.mup (.int .i64) (t 61) (i 0) (t 62)))
 (.chk [o 60 (.ld1 (t 59)), o 50 (.ld1 (t 49))] (.one (o 63 (.mv (t 61)))
 (.chk [o 60 (.ld1 (t 59)), o 50 (.ld1 (t 49))] (.one (o 65 (.build [(.int .i64 0), (.int .i64 0), (.pointer none), (.pointer none), (.int .i64 0), (.map none), (.slice none 0 0), (.int .i64 0), (.int .i64 0), (.string ⟨#[]⟩), (.int .i64 0), (.int .i64 0), (.string ⟨#[]⟩), (.slice none 0 0)] [(0, 2), (2, 1), (3, 1), (4, 1), (5, 1), (6, 1)] [(t 53), (t 57), (t 58), (t 60), (t 63), (t 64)]))
 (.chk [o 60 (.ld1 (t 59)), o 50 (.ld1 (t 49))] (.one (o 66 (.box (t 65)))
 (.one (q (.st 1 (t 12) (t 66)))
 .done)))))))))))) (.one (o 61 (.mkm))
 (.chk [o 62 (.ldn 6 (t 8)), o 60 (.ld1 (t 59)), o 55 (.ld1 (t 54)), o 50 (.ld1 (t 49))] (.both (.one (o 57 (.call 18 [(t 56)]))
 (.chk [o 62 (.ldn 6 (t 8)), o 60 (.ld1 (t 59)), o 50 (.ld1 (t 49))] (.one (q (.mup (.int .i64) (t 61) (i 0) (t 62)))
 (.chk [o 60 (.ld1 (t 59)), o 50 (.ld1 (t 49))] (.one (o 63 (.mv (t 61)))
 (.chk [o 60 (.ld1 (t 59)), o 50 (.ld1 (t 49))] (.one (o 65 (.build [(.int .i64 0), (.int .i64 0), (.pointer none), (.pointer none), (.int .i64 0), (.map none), (.slice none 0 0), (.int .i64 0), (.int .i64 0), (.string ⟨#[]⟩), (.int .i64 0), (.int .i64 0), (.string ⟨#[]⟩), (.slice none 0 0)] [(0, 2), (2, 1), (3, 1), (4, 1), (5, 1), (6, 1)] [(t 53), (t 57), (t 58), (t 60), (t 63), (t 64)]))
 (.chk [o 60 (.ld1 (t 59)), o 50 (.ld1 (t 49))] (.one (o 66 (.box (t 65)))
 (.one (q (.st 1 (t 12) (t 66)))
 .done)))))))))) (.one (q (.mup (.int .i64) (t 61) (i 0) (t 62)))
 (.chk [o 60 (.ld1 (t 59)), o 55 (.ld1 (t 54)), o 50 (.ld1 (t 49))] (.one (o 63 (.mv (t 61)))
 (.chk [o 60 (.ld1 (t 59)), o 55 (.ld1 (t 54)), o 50 (.ld1 (t 49))] (.one (o 57 (.call 18 [(t 56)]))
 (.chk [o 60 (.ld1 (t 59)), o 50 (.ld1 (t 49))] (.one (o 65 (.build [(.int .i64 0), (.int .i64 0), (.pointer none), (.pointer none), (.int .i64 0), (.map none), (.slice none 0 0), (.int .i64 0), (.int .i64 0), (.string ⟨#[]⟩), (.int .i64 0), (.int .i64 0), (.string ⟨#[]⟩), (.slice none 0 0)] [(0, 2), (2, 1), (3, 1), (4, 1), (5, 1), (6, 1)] [(t 53), (t 57), (t 58), (t 60), (t 63), (t 64)]))
 (.chk [o 60 (.ld1 (t 59)), o 50 (.ld1 (t 49))] (.one (o 66 (.box (t 65)))
 (.one (q (.st 1 (t 12) (t 66)))
 .done))))))))))))))))))))))))))))))))))))
def f7r10 : List SOper := [
 o 67 (.ldn 6 (t 8)),
 o 68 (.call 19 [(t 67)])]
def f7r11 : List SOper := [
 o 13 (.new [(.int .i64 0), (.string ⟨#[]⟩), (.string ⟨#[]⟩), (.int .i64 0), (.slice none 0 0), (.slice none 0 0)]),
 q (.st 6 (t 13) (t 69))]
def f7r12 : List SOper := [
 o 70 (.fa 0 (t 13)),
 o 71 (.ld1 (t 70)),
 o 72 (.cmp .eql (t 71) (i 9))]
def f7r13 : List SOper := [
 o 73 (.ld1 (t 12)),
 o 74 (.nilck (t 73)),
 o 75 (.fa 5 (t 74)),
 o 76 (.ld1 (t 75)),
 o 77 (.fa 3 (t 13)),
 o 78 (.ld1 (t 77)),
 o 79 (.fa 5 (t 13)),
 o 80 (.ld1 (t 79)),
 o 81 (.ixs 6 (t 80) (i 0)),
 o 82 (.ldn 6 (t 81)),
 q (.mup (.int .i64) (t 76) (t 78) (t 82))]
def f7a14 : SCode := (.ops f7r11)
def f7b14 : SCode := (.block 2 (.seq (.ops f7r12) (.cond (t 72) (.ops f7r13) .skip)))
def f7r15 : List SOper := [
 o 83 (.ld1 (t 12)),
 o 84 (.ldn 6 (t 5)),
 o 85 (.call 20 [(t 83), (t 84)]),
 o 14 (.new [(.int .i64 0), (.int .i64 0), (.string ⟨#[]⟩), (.slice none 0 0)]),
 q (.st 4 (t 14) (t 85))]
def f7r16 : List SOper := [
 o 86 (.ldn 4 (t 14)),
 o 87 (.ld1 (t 12)),
 o 88 (.nilck (t 87)),
 o 89 (.fa 13 (t 88)),
 o 90 (.ld1 (t 89)),
 o 91 (.mv (t 11)),
 o 92 (.ld1 (t 12)),
 o 93 (.nilck (t 92)),
 o 94 (.fa 0 (t 93)),
 o 95 (.fa 0 (t 94)),
 o 96 (.ld1 (t 95)),
 o 97 (.ar .sub (t 91) (t 96)),
 o 98 (.ld1 (t 12)),
 o 99 (.nilck (t 98)),
 o 100 (.fa 2 (t 99)),
 o 101 (.ld1 (t 100)),
 o 102 (.callq 21 [(t 101)]),
 o 103 (.build [(.int .i64 0), (.int .i64 0), (.string ⟨#[]⟩), (.slice none 0 0), (.slice none 0 0), (.int .i64 0), (.int .i64 0)] [(0, 4), (4, 1), (5, 1), (6, 1)] [(t 86), (t 90), (t 97), (t 102)]),
 q (.st 7 (t 6) (t 103)),
 o 7 (.mv (i 0))]
def f7 : SCode := (.seq (.ops f7r0) (.seq (.block 0 (.seq (.ops f7r1) (.cond (t 15) (.seq (.ops f7r2) .ret) (.seq (.ops f7r3) (.cond (t 19) (.seq (.ops f7r4) .ret) .skip))))) (.seq (.ops f7r5) (.seq (.seq (.ops f7r6) (.cond (t 41) (.seq (.ops f7r7) .ret) .skip)) (.seq (.ops f7r8) (.seq (.tree [48, 49, 50, 51, 52, 53, 54, 55, 56, 57, 58, 59, 60, 61, 62, 63, 64, 65, 66, 12] f7t9) (.seq (.seq (.ops f7r10) (.block 1 (.rangeF (t 68) [69] f7a14 f7b14))) (.seq (.ops f7r15) (.seq (.ops f7r16) .ret)))))))))
theorem f7_calls : Sound Tryz.prog 7 104 f7 [.cn 6 7, .t 7] := sound_of mixed Tryz.func7 rfl (by kernel_rfl) (by kernel_rfl) (by kernel_rfl)

/-! 8: tabor/meaning.Text -/
def f8r0 : List SOper := [
 o 5 (.box (t 2)),
 o 6 (.new [(.int .i64 0), (.int .i64 0), (.string ⟨#[]⟩), (.slice none 0 0), (.slice none 0 0), (.int .i64 0), (.int .i64 0)]),
 o 7 (.mv (i 0))]
def f8r1 : List SOper := [
 o 12 (.mv (t 1)),
 o 13 (.call 22 [(t 12)]),
 o 11 (.mv (t 13)),
 o 14 (.ext (t 11) 0),
 o 15 (.ext (t 11) 1),
 o 16 (.ext (t 11) 2),
 o 8 (.new [(.int .i64 0), (.string ⟨#[]⟩), (.string ⟨#[]⟩), (.int .i64 0), (.slice none 0 0), (.slice none 0 0)]),
 q (.st 6 (t 8) (t 14)),
 o 9 (.mv (t 15)),
 o 10 (.mv (t 16))]
def f8r2 : List SOper := [
 o 17 (.mv (t 10)),
 o 18 (.cmp .neq (t 17) (i 0))]
def f8r3 : List SOper := [
 o 19 (.build [(.int .i64 0), (.int .i64 0), (.string ⟨#[]⟩), (.slice none 0 0), (.slice none 0 0), (.int .i64 0), (.int .i64 0)] [] []),
 o 20 (.mv (t 10)),
 q (.st 7 (t 6) (t 19)),
 o 7 (.mv (t 20))]
def f8r4 : List SOper := [
 o 21 (.mv (t 0)),
 o 22 (.ldn 6 (t 8)),
 o 23 (.ldn 6 (t 5)),
 o 24 (.call 7 [(t 21), (t 22), (t 23)]),
 o 25 (.ext (t 24) 0),
 o 26 (.ext (t 24) 1),
 q (.st 7 (t 6) (t 25)),
 o 7 (.mv (t 26))]
def f8 : SCode := (.seq (.ops f8r0) (.seq (.ops f8r1) (.seq (.seq (.ops f8r2) (.cond (t 18) (.seq (.ops f8r3) .ret) .skip)) (.seq (.ops f8r4) .ret))))
theorem f8_calls : Sound Tryz.prog 8 27 f8 [.cn 6 7, .t 7] := sound_of mixed Tryz.func8 rfl (by kernel_rfl) (by kernel_rfl) (by kernel_rfl)

/-! 9: tabor/taborlaw17.heavy: not simplified -/
/-! 10: tabor/taborref12.Count -/
def f10r0 : List SOper := [
 o 2 (.box (t 0)),
 o 4 (.mv (i 0))]
def f10r1 : List SOper := [
 o 5 (.mv (i 1))]
def f10r2 : List SOper := [
 o 6 (.mv (i 0))]
def f10r3 : List SOper := [
 o 7 (.mv (t 6)),
 o 8 (.fa 5 (t 2)),
 o 9 (.ld1 (t 8)),
 o 10 (.len (t 9)),
 o 11 (.cmp .lss (t 7) (t 10)),
 o 12 (.mv (t 11)),
 g 13 12 (.mv (t 5)),
 g 14 12 (.mv (t 1)),
 g 15 12 (.cmp .leq (t 13) (t 14)),
 o 16 (.pick (t 12) (t 15) (b false))]
def f10r4 : List SOper := [
 o 19 (.mv (t 5)),
 o 20 (.fa 5 (t 2)),
 o 21 (.ld1 (t 20)),
 o 22 (.mv (t 6)),
 o 23 (.ixs 6 (t 21) (t 22)),
 o 24 (.ldn 6 (t 23)),
 o 25 (.mv (t 1)),
 o 26 (.mv (t 5)),
 o 27 (.ar .sub (t 25) (t 26)),
 o 28 (.call 10 [(t 24), (t 27)]),
 o 29 (.ar .add (t 19) (t 28)),
 o 5 (.mv (t 29))]
def f10r5 : List SOper := [
 o 17 (.mv (t 6)),
 o 18 (.ar .add (t 17) (i 1)),
 o 6 (.mv (t 18))]
def f10l6 : SCode := (.seq (.seq (.ops f10r3) (.cond (t 16) .skip (.exit 0))) (.seq (.block 1 (.ops f10r4)) (.ops f10r5)))
def f10r7 : List SOper := [
 o 30 (.mv (t 5)),
 o 4 (.mv (t 30))]
def f10 : SCode := (.seq (.ops f10r0) (.seq (.ops f10r1) (.seq (.seq (.ops f10r2) (.block 0 (.loop f10l6))) (.seq (.ops f10r7) .ret))))
theorem f10_calls : Sound Tryz.prog 10 31 f10 [.t 4] := sound_of mixed Tryz.func10 rfl (by kernel_rfl) (by kernel_rfl) (by kernel_rfl)

/-! 11: tabor/taborlaw17.texts -/
def f11r0 : List SOper := [
 o 1 (.box (t 0)),
 o 2 (.mv (i 0))]
def f11r1 : List SOper := [
 o 6 (.fa 1 (t 1)),
 o 7 (.ld1 (t 6)),
 o 8 (.lens (t 7)),
 o 9 (.fa 2 (t 1)),
 o 10 (.ld1 (t 9)),
 o 11 (.lens (t 10)),
 o 12 (.ar .add (t 8) (t 11)),
 o 13 (.fa 4 (t 1)),
 o 14 (.ld1 (t 13)),
 o 15 (.len (t 14)),
 o 16 (.ar .add (t 12) (t 15)),
 o 3 (.mv (t 16))]
def f11r2 : List SOper := [
 o 4 (.mv (i 0))]
def f11r3 : List SOper := [
 o 17 (.mv (t 4)),
 o 18 (.fa 4 (t 1)),
 o 19 (.ld1 (t 18)),
 o 20 (.len (t 19)),
 o 21 (.cmp .lss (t 17) (t 20))]
def f11r4 : List SOper := [
 o 24 (.mv (t 3)),
 o 25 (.fa 4 (t 1)),
 o 26 (.ld1 (t 25)),
 o 27 (.mv (t 4)),
 o 28 (.ixs 1 (t 26) (t 27)),
 o 29 (.ld1 (t 28)),
 o 30 (.lens (t 29)),
 o 31 (.ar .add (t 24) (t 30)),
 o 3 (.mv (t 31))]
def f11r5 : List SOper := [
 o 22 (.mv (t 4)),
 o 23 (.ar .add (t 22) (i 1)),
 o 4 (.mv (t 23))]
def f11l6 : SCode := (.seq (.seq (.ops f11r3) (.cond (t 21) .skip (.exit 0))) (.seq (.block 1 (.ops f11r4)) (.ops f11r5)))
def f11r7 : List SOper := [
 o 5 (.mv (i 0))]
def f11r8 : List SOper := [
 o 32 (.mv (t 5)),
 o 33 (.fa 5 (t 1)),
 o 34 (.ld1 (t 33)),
 o 35 (.len (t 34)),
 o 36 (.cmp .lss (t 32) (t 35))]
def f11r9 : List SOper := [
 o 39 (.mv (t 3)),
 o 40 (.fa 5 (t 1)),
 o 41 (.ld1 (t 40)),
 o 42 (.mv (t 5)),
 o 43 (.ixs 6 (t 41) (t 42)),
 o 44 (.ldn 6 (t 43)),
 o 45 (.call 11 [(t 44)]),
 o 46 (.ar .add (t 39) (t 45)),
 o 3 (.mv (t 46))]
def f11r10 : List SOper := [
 o 37 (.mv (t 5)),
 o 38 (.ar .add (t 37) (i 1)),
 o 5 (.mv (t 38))]
def f11l11 : SCode := (.seq (.seq (.ops f11r8) (.cond (t 36) .skip (.exit 2))) (.seq (.block 3 (.ops f11r9)) (.ops f11r10)))
def f11r12 : List SOper := [
 o 47 (.mv (t 3)),
 o 2 (.mv (t 47))]
def f11 : SCode := (.seq (.ops f11r0) (.seq (.ops f11r1) (.seq (.seq (.ops f11r2) (.block 0 (.loop f11l6))) (.seq (.seq (.ops f11r7) (.block 2 (.loop f11l11))) (.seq (.ops f11r12) .ret)))))
theorem f11_calls : Sound Tryz.prog 11 48 f11 [.t 2] := sound_of mixed Tryz.func11 rfl (by kernel_rfl) (by kernel_rfl) (by kernel_rfl)

/-! 12: tabor/keys.New: not simplified -/
/-! 13: (*tabor/keys.Keys).Same -/
def f13r0 : List SOper := [
 o 4 (.mv (b false))]
def f13r1 : List SOper := [
 o 5 (.mv (t 0)),
 o 6 (.call 23 [(t 5)]),
 o 7 (.mv (t 6)),
 n 8 7 (.mv (t 1)),
 n 9 7 (.call 23 [(t 8)]),
 o 10 (.pick (t 7) (b true) (t 9))]
def f13r2 : List SOper := [
 o 11 (.mv (t 0)),
 o 12 (.call 23 [(t 11)]),
 o 13 (.mv (t 12)),
 g 14 13 (.mv (t 1)),
 g 15 13 (.call 23 [(t 14)]),
 o 16 (.pick (t 13) (t 15) (b false)),
 o 4 (.mv (t 16))]
def f13r3 : List SOper := [
 o 17 (.mv (t 0)),
 o 18 (.nilck (t 17)),
 o 19 (.fa 0 (t 18)),
 o 20 (.ld1 (t 19)),
 o 21 (.nilck (t 20)),
 o 22 (.fa 0 (t 21)),
 o 23 (.ld1 (t 22)),
 o 24 (.mv (t 1)),
 o 25 (.nilck (t 24)),
 o 26 (.fa 0 (t 25)),
 o 27 (.ld1 (t 26)),
 o 28 (.nilck (t 27)),
 o 29 (.fa 0 (t 28)),
 o 30 (.ld1 (t 29)),
 o 31 (.call 24 [(t 23), (t 30), (u 25)]),
 o 4 (.mv (t 31))]
def f13 : SCode := (.seq (.ops f13r0) (.seq (.seq (.ops f13r1) (.cond (t 10) (.seq (.ops f13r2) .ret) .skip)) (.seq (.ops f13r3) .ret)))
theorem f13_calls : Sound Tryz.prog 13 32 f13 [.t 4] := sound_of mixed Tryz.func13 rfl (by kernel_rfl) (by kernel_rfl) (by kernel_rfl)

/-! 14: tabor/syntax.Check: not simplified -/
/-! 15: tabor/meaning.short: not simplified -/
/-! 16: slices.Concat[[]string,string]: not simplified -/
/-! 17: tabor/scopes.Resolve: not simplified -/
/-! 18: tabor/values.New: not simplified -/
/-! 19: tabor/syntax.All: not simplified -/
/-! 20: (*tabor/meaning.run).done: not simplified -/
/-! 21: (*tabor/values.Heap).Spent: not simplified -/
/-! 22: tabor/syntax.Parse -/
def f22r0 : List SOper := [
 o 2 (.new [(.int .i64 0), (.string ⟨#[]⟩), (.string ⟨#[]⟩), (.int .i64 0), (.slice none 0 0), (.slice none 0 0)]),
 o 3 (.new [(.int .i64 0)]),
 o 4 (.new [(.int .i64 0)])]
def f22r1 : List SOper := [
 o 8 (.mv (t 0)),
 o 9 (.call 42 [(t 8)]),
 o 7 (.mv (t 9)),
 o 10 (.ext (t 7) 0),
 o 11 (.ext (t 7) 1),
 o 12 (.ext (t 7) 2),
 o 5 (.mv (t 10)),
 q (.st 1 (t 3) (t 11)),
 q (.st 1 (t 4) (t 12))]
def f22r2 : List SOper := [
 o 13 (.ld1 (t 4)),
 o 14 (.cmp .neq (t 13) (i 0))]
def f22t3 : OTree := (.one (o 15 (.build [(.int .i64 0), (.string ⟨#[]⟩), (.string ⟨#[]⟩), (.int .i64 0), (.slice none 0 0), (.slice none 0 0)] [] []))
 (.one (o 16 (.ld1 (t 3)))
 (.one (o 17 (.ld1 (t 4)))
 (.one (q (.st 6 (t 2) (t 15)))
 (.chk [o 17 (.ld1 (t 4)), o 16 (.ld1 (t 3))] (.one (q (.st 1 (t 3) (t 16)))
 (.chk [o 17 (.ld1 (t 4))] (.one (q (.st 1 (t 4) (t 17)))
 .done))))))))
def f22r4 : List SOper := [
 o 18 (.fn 43 [] [(t 2), (t 3), (t 4)])]
def f22r5 : List SOper := [
 o 19 (.mv (t 5)),
 o 20 (.mv (t 0)),
 o 21 (.lens (t 20)),
 o 22 (.build [(.slice none 0 0), (.int .i64 0), (.int .i64 0), (.int .i64 0)] [(0, 1), (2, 1)] [(t 19), (t 21)]),
 o 23 (.box (t 22)),
 o 6 (.mv (t 23))]
def f22r6 : List SOper := [
 o 24 (.mv (t 6)),
 o 25 (.call 44 [(t 24)]),
 q (.st 6 (t 2) (t 25))]
def f22r7 : List SOper := [
 o 26 (.mv (t 6)),
 o 27 (.mv (t 6)),
 o 28 (.nilck (t 27)),
 o 29 (.fa 1 (t 28)),
 o 30 (.ld1 (t 29)),
 o 31 (.mv (t 6)),
 o 32 (.nilck (t 31)),
 o 33 (.fa 0 (t 32)),
 o 34 (.ld1 (t 33)),
 o 35 (.len (t 34)),
 o 36 (.cmp .eql (t 30) (t 35)),
 o 37 (.call 45 [(t 26), (t 36)])]
def f22r8 : List SOper := [
 o 38 (.ldn 6 (t 2)),
 o 39 (.call 14 [(t 38)]),
 o 40 (.cmp .neq (t 39) (i 0))]
def f22r9 : List SOper := [
 o 41 (.build [(.int .i64 0), (.string ⟨#[]⟩), (.string ⟨#[]⟩), (.int .i64 0), (.slice none 0 0), (.slice none 0 0)] [] []),
 q (.st 6 (t 2) (t 41)),
 q (.st 1 (t 3) (i 0)),
 q (.st 1 (t 4) (i 221))]
def f22r10 : List SOper := [
 o 42 (.ldn 6 (t 2)),
 q (.st 6 (t 2) (t 42)),
 q (.st 1 (t 3) (i 0)),
 q (.st 1 (t 4) (i 0))]
def f22 : SCode := (.seq (.ops f22r0) (.seq (.ops f22r1) (.seq (.seq (.ops f22r2) (.cond (t 14) (.seq (.tree [15, 16, 17] f22t3) .ret) .skip)) (.seq (.dfr f22r4 none (t 18) []) (.seq (.ops f22r5) (.seq (.ops f22r6) (.seq (.ops f22r7) (.seq (.seq (.ops f22r8) (.cond (t 40) (.seq (.ops f22r9) .ret) .skip)) (.seq (.ops f22r10) .ret)))))))))
theorem f22_calls : Sound Tryz.prog 22 43 f22 [.cn 2 6, .c1 3, .c1 4] := sound_of mixed Tryz.func22 rfl (by kernel_rfl) (by kernel_rfl) (by kernel_rfl)

/-! 23: (*tabor/keys.Keys).none -/
def f23r0 : List SOper := [
 o 2 (.mv (b false))]
def f23r1 : List SOper := [
 o 3 (.mv (t 0)),
 o 4 (.eqn 0 false (t 3)),
 o 5 (.mv (t 4)),
 n 6 5 (.mv (t 0)),
 n 7 5 (.nilck (t 6)),
 n 8 5 (.fa 0 (t 7)),
 n 9 5 (.ld1 (t 8)),
 n 10 5 (.eqn 0 false (t 9)),
 o 11 (.pick (t 5) (b true) (t 10)),
 o 2 (.mv (t 11))]
def f23 : SCode := (.seq (.ops f23r0) (.seq (.ops f23r1) .ret))
theorem f23_calls : Sound Tryz.prog 23 12 f23 [.t 2] := sound_of mixed Tryz.func23 rfl (by kernel_rfl) (by kernel_rfl) (by kernel_rfl)

/-! 24: maps.EqualFunc[map[string]*tabor/api.Thing,map[string]*tabor/api.Thing,string,*tabor/api.Thing,*tabor/api.Thing]: not simplified -/
/-! 25: (*tabor/keys.Keys).Same$1: not simplified -/
/-! 26: tabor/keys.SameThing: not simplified -/
/-! 27: tabor/syntax.deep: not simplified -/
/-! 28: tabor/syntax.may: not simplified -/
/-! 29: slices.ContainsFunc[[]string,string]: not simplified -/
/-! 30: tabor/meaning.short$1: not simplified -/
/-! 31: slices.Grow[[]string,string]: not simplified -/
/-! 32: tabor/scopes.Resolve$1: not simplified -/
/-! 33: (*tabor/scopes.walker).node: not simplified -/
/-! 34: tabor/syntax.All$1: not simplified -/
/-! 35: tabor/syntax.All$1$1: not simplified -/
/-! 36: (*tabor/meaning.run).done$1: not simplified -/
/-! 37: tabor/basics.Fail: not simplified -/
/-! 38: (*tabor/meaning.run).list: not simplified -/
/-! 39: tabor/bridge.Reply: not simplified -/
/-! 40: (*tabor/meaning.run).function: not simplified -/
/-! 41: tabor/meaning.must: not simplified -/
/-! 42: tabor/words.Lex: not simplified -/
/-! 43: tabor/syntax.Parse$1: not simplified -/
/-! 44: (*tabor/syntax.reader).block: not simplified -/
/-! 45: (*tabor/syntax.reader).must: not simplified -/
/-! 46: slices.Equal[[]tabor/api.Pair,tabor/api.Pair]: not simplified -/
/-! 47: slices.Equal[[]string,string]: not simplified -/
/-! 48: slices.Equal[[]tabor/api.Rank,tabor/api.Rank]: not simplified -/
/-! 49: slices.ContainsFunc[[]tabor/api.Node,tabor/api.Node]: not simplified -/
/-! 50: tabor/syntax.deep$1: not simplified -/
/-! 51: tabor/syntax.may$1: not simplified -/
/-! 52: tabor/syntax.block: not simplified -/
/-! 53: tabor/syntax.shapes: not simplified -/
/-! 54: tabor/syntax.may$2: not simplified -/
/-! 55: tabor/words.Name: not simplified -/
/-! 56: tabor/syntax.operators: not simplified -/
/-! 57: slices.IndexFunc[[]string,string]: not simplified -/
/-! 58: slices.Clone[[]string,string]: not simplified -/
/-! 59: (*tabor/scopes.walker).block: not simplified -/
/-! 60: (*tabor/scopes.walker).node$1: not simplified -/
/-! 61: (*tabor/scopes.walker).kids: not simplified -/
/-! 62: (*tabor/scopes.walker).add: not simplified -/
/-! 63: (*tabor/scopes.walker).function: not simplified -/
/-! 64: (*tabor/scopes.walker).loop: not simplified -/
/-! 65: tabor/scopes.must: not simplified -/
/-! 66: (*tabor/scopes.walker).name: not simplified -/
/-! 67: (*tabor/scopes.walker).call: not simplified -/
/-! 68: (*tabor/values.Heap).Table: not simplified -/
/-! 69: (*tabor/values.Heap).Set: not simplified -/
/-! 70: tabor/values.Int: not simplified -/
/-! 71: tabor/values.Text: not simplified -/
/-! 72: tabor/bridge.Reply$1: not simplified -/
/-! 73: tabor/bridge.caught: not simplified -/
/-! 74: (*tabor/values.Heap).Len: not simplified -/
/-! 75: tabor/bridge.must: not simplified -/
/-! 76: (*tabor/bridge.walk).reply: not simplified -/
/-! 77: tabor/resp.Check: not simplified -/
/-! 78: (*tabor/meaning.run).function$1: not simplified -/
/-! 79: (*tabor/meaning.frame).node: not simplified -/
/-! 80: tabor/words.all: not simplified -/
/-! 81: (*tabor/syntax.reader).is: not simplified -/
/-! 82: (*tabor/syntax.reader).statement: not simplified -/
/-! 83: (*tabor/syntax.reader).take: not simplified -/
/-! 84: (*tabor/syntax.reader).at: not simplified -/
/-! 85: slices.IndexFunc[[]tabor/api.Node,tabor/api.Node]: not simplified -/
/-! 86: tabor/syntax.count: not simplified -/
/-! 87: tabor/syntax.exprs: not simplified -/
/-! 88: tabor/syntax.shapes$1: not simplified -/
/-! 89: tabor/syntax.shapes$2: not simplified -/
/-! 90: tabor/syntax.blockAt: not simplified -/
/-! 91: tabor/syntax.branches: not simplified -/
/-! 92: tabor/syntax.shapes$3: not simplified -/
/-! 93: tabor/syntax.shapes$4: not simplified -/
/-! 94: tabor/syntax.shapes$5: not simplified -/
/-! 95: tabor/syntax.shapes$6: not simplified -/
/-! 96: tabor/syntax.shapes$7: not simplified -/
/-! 97: tabor/syntax.shapes$7$1: not simplified -/
/-! 98: tabor/words.letter: not simplified -/
/-! 99: tabor/words.language: not simplified -/
/-! 100: tabor/words.digit: not simplified -/
/-! 101: slices.ContainsFunc[[]map[string]bool,map[string]bool]: not simplified -/
/-! 102: tabor/syntax.bonds: not simplified -/
/-! 103: tabor/syntax.operators$1: not simplified -/
/-! 104: (*tabor/scopes.walker).block$1: not simplified -/
/-! 105: slices.Contains[[]string,string]: not simplified -/
/-! 106: (*tabor/scopes.walker).function$1: not simplified -/
/-! 107: slices.Clone[[]tabor/scopes.seen,tabor/scopes.seen]: not simplified -/
/-! 108: (*tabor/scopes.walker).loop$1: not simplified -/
/-! 109: tabor/scopes.last[string]: not simplified -/
/-! 110: tabor/scopes.last[tabor/scopes.seen]: not simplified -/
/-! 111: tabor/scopes.Builtin: not simplified -/
/-! 112: (*tabor/values.Heap).take: not simplified -/
/-! 113: (*tabor/values.Heap).Get: not simplified -/
/-! 114: tabor/values.Check: not simplified -/
/-! 115: (*tabor/values.Heap).of: not simplified -/
/-! 116: tabor/values.put[int64]: not simplified -/
/-! 117: tabor/values.put[string]: not simplified -/
/-! 118: (*tabor/bridge.walk).reply$1: not simplified -/
/-! 119: (*tabor/bridge.walk).reply$2: not simplified -/
/-! 120: (*tabor/bridge.walk).reply$3: not simplified -/
/-! 121: (*tabor/bridge.room).text: not simplified -/
/-! 122: (*tabor/bridge.walk).reply$4: not simplified -/
/-! 123: (*tabor/bridge.walk).table: not simplified -/
/-! 124: tabor/resp.Encode: not simplified -/
/-! 125: tabor/meaning.kinds: not simplified -/
/-! 126: tabor/words.all$1: not simplified -/
/-! 127: tabor/words.blank: not simplified -/
/-! 128: tabor/words.word: not simplified -/
/-! 129: (*tabor/syntax.reader).local: not simplified -/
/-! 130: (*tabor/syntax.reader).ended: not simplified -/
/-! 131: (*tabor/syntax.reader).choice: not simplified -/
/-! 132: (*tabor/syntax.reader).expr: not simplified -/
/-! 133: (*tabor/syntax.reader).want: not simplified -/
/-! 134: (*tabor/syntax.reader).loop: not simplified -/
/-! 135: (*tabor/syntax.reader).behind: not simplified -/
/-! 136: tabor/syntax.count$1: not simplified -/
/-! 137: tabor/syntax.exprs$1: not simplified -/
/-! 138: tabor/syntax.expression: not simplified -/
/-! 139: strings.FieldsSeq: not simplified -/
/-! 140: slices.IndexFunc[[]map[string]bool,map[string]bool]: not simplified -/
/-! 141: tabor/syntax.bonds$1: not simplified -/
/-! 142: slices.Index[[]string,string]: not simplified -/
/-! 143: slices.Backward[[]string,string]: not simplified -/
/-! 144: slices.Backward[[]tabor/scopes.seen,tabor/scopes.seen]: not simplified -/
/-! 145: tabor/scopes.builtins: not simplified -/
/-! 146: tabor/bridge.got: not simplified -/
/-! 147: (*tabor/bridge.room).item: not simplified -/
/-! 148: tabor/resp.Encode$1: not simplified -/
/-! 149: tabor/resp.caught: not simplified -/
/-! 150: tabor/resp.Encode$2: not simplified -/
/-! 151: tabor/resp.must: not simplified -/
/-! 152: (*strings.Builder).WriteString: not simplified -/
/-! 153: strings.Contains: not simplified -/
/-! 154: strconv.FormatInt: not simplified -/
/-! 155: strconv.Itoa: not simplified -/
/-! 156: (*strings.Builder).String: not simplified -/
/-! 157: (*tabor/meaning.frame).block: not simplified -/
/-! 158: (*tabor/meaning.frame).local: not simplified -/
/-! 159: (*tabor/meaning.frame).assign: not simplified -/
/-! 160: (*tabor/meaning.frame).first: not simplified -/
/-! 161: (*tabor/meaning.frame).choice: not simplified -/
/-! 162: (*tabor/meaning.frame).while: not simplified -/
/-! 163: (*tabor/meaning.frame).loop: not simplified -/
/-! 164: (*tabor/meaning.frame).returns: not simplified -/
/-! 165: (*tabor/meaning.frame).breaks: not simplified -/
/-! 166: (*tabor/meaning.frame).nothing: not simplified -/
/-! 167: (*tabor/meaning.frame).truth: not simplified -/
/-! 168: (*tabor/meaning.frame).number: not simplified -/
/-! 169: (*tabor/meaning.frame).text: not simplified -/
/-! 170: (*tabor/meaning.frame).name: not simplified -/
/-! 171: (*tabor/meaning.frame).index: not simplified -/
/-! 172: (*tabor/meaning.frame).call: not simplified -/
/-! 173: (*tabor/meaning.frame).table: not simplified -/
/-! 174: (*tabor/meaning.frame).bin: not simplified -/
/-! 175: (*tabor/meaning.frame).not: not simplified -/
/-! 176: (*tabor/meaning.frame).neg: not simplified -/
/-! 177: (*tabor/meaning.frame).long: not simplified -/
/-! 178: strings.HasPrefix: not simplified -/
/-! 179: strings.IndexByte: not simplified -/
/-! 180: tabor/words.run: not simplified -/
/-! 181: strconv.ParseUint: not simplified -/
/-! 182: tabor/words.text: not simplified -/
/-! 183: tabor/words.signs: not simplified -/
/-! 184: (*tabor/syntax.reader).name: not simplified -/
/-! 185: (*tabor/syntax.reader).names: not simplified -/
/-! 186: (*tabor/syntax.reader).list: not simplified -/
/-! 187: (*tabor/syntax.reader).opened: not simplified -/
/-! 188: (*tabor/syntax.reader).unary: not simplified -/
/-! 189: (*tabor/syntax.reader).operator: not simplified -/
/-! 190: tabor/syntax.bin: not simplified -/
/-! 191: (*tabor/syntax.reader).operand: not simplified -/
/-! 192: (*tabor/syntax.reader).bracketed: not simplified -/
/-! 193: strings.FieldsSeq$1: not simplified -/
/-! 194: unicode/utf8.DecodeRuneInString: not simplified -/
/-! 195: unicode.IsSpace: not simplified -/
/-! 196: slices.Backward[[]string,string]$1: not simplified -/
/-! 197: slices.Backward[[]tabor/scopes.seen,tabor/scopes.seen]$1: not simplified -/
/-! 198: (*strings.Builder).copyCheck: not simplified -/
/-! 199: strings.Index: not simplified -/
/-! 200: internal/strconv.FormatInt: not simplified -/
/-! 201: internal/strconv.Itoa: not simplified -/
/-! 202: (*tabor/meaning.frame).all: not simplified -/
/-! 203: slices.Concat[[]tabor/api.Node,tabor/api.Node]: not simplified -/
/-! 204: tabor/values.So: not simplified -/
/-! 205: tabor/meaning.caught: not simplified -/
/-! 206: (*tabor/meaning.frame).while$1: not simplified -/
/-! 207: slices.ContainsFunc[[]tabor/api.Val,tabor/api.Val]: not simplified -/
/-! 208: (*tabor/meaning.frame).loop$1: not simplified -/
/-! 209: (*tabor/meaning.frame).loop$2: not simplified -/
/-! 210: tabor/values.Bool: not simplified -/
/-! 211: (*tabor/meaning.frame).command: not simplified -/
/-! 212: tabor/values.Told: not simplified -/
/-! 213: tabor/library.Call: not simplified -/
/-! 214: (*tabor/values.Heap).Op: not simplified -/
/-! 215: tabor/values.Neg: not simplified -/
/-! 216: internal/stringslite.HasPrefix: not simplified -/
/-! 217: internal/stringslite.IndexByte: not simplified -/
/-! 218: internal/strconv.ParseUint: not simplified -/
/-! 219: strconv.toError: not simplified -/
/-! 220: tabor/words.escaped: not simplified -/
/-! 221: (*tabor/syntax.reader).kind: not simplified -/
/-! 222: (*tabor/syntax.reader).within: not simplified -/
/-! 223: (*tabor/syntax.reader).opened$1: not simplified -/
/-! 224: slices.Backward[[]tabor/api.NodeKind,tabor/api.NodeKind]: not simplified -/
/-! 225: (*tabor/syntax.reader).call: not simplified -/
/-! 226: (*tabor/syntax.reader).table: not simplified -/
/-! 227: (*tabor/syntax.reader).bracketed$1: not simplified -/
/-! 228: unicode/utf8.decodeRuneInStringSlow: not simplified -/
/-! 229: unicode.isExcludingLatin: not simplified -/
/-! 230: internal/abi.NoEscape: not simplified -/
/-! 231: internal/stringslite.Index: not simplified -/
/-! 232: internal/strconv.small: not simplified -/
/-! 233: internal/strconv.numDigits: not simplified -/
/-! 234: internal/strconv.formatBase10: not simplified -/
/-! 235: internal/strconv.formatBits: not simplified -/
/-! 236: slices.Grow[[]tabor/api.Node,tabor/api.Node]: not simplified -/
/-! 237: tabor/meaning.caught$1: not simplified -/
/-! 238: slices.IndexFunc[[]tabor/api.Val,tabor/api.Val]: not simplified -/
/-! 239: tabor/commands.Do: not simplified -/
/-! 240: tabor/bridge.Value: not simplified -/
/-! 241: strconv.FormatBool: not simplified -/
/-! 242: tabor/library.functions: not simplified -/
/-! 243: tabor/library.Call$1: not simplified -/
/-! 244: tabor/library.asked: not simplified -/
/-! 245: tabor/values.operators: not simplified -/
/-! 246: internal/bytealg.IndexByteString: not simplified -/
/-! 247: internal/strconv.lower: not simplified -/
/-! 248: internal/strconv.underscoreOK: not simplified -/
/-! 249: strconv.syntaxError: not simplified -/
/-! 250: strconv.rangeError: not simplified -/
/-! 251: strconv.baseError: not simplified -/
/-! 252: strconv.bitSizeError: not simplified -/
/-! 253: slices.Backward[[]tabor/api.NodeKind,tabor/api.NodeKind]$1: not simplified -/
/-! 254: (*tabor/syntax.reader).call$1: not simplified -/
/-! 255: (*tabor/syntax.reader).table$1: not simplified -/
/-! 256: (*tabor/syntax.reader).item: not simplified -/
/-! 257: unicode.is16: not simplified -/
/-! 258: unicode.is32: not simplified -/
/-! 259: internal/bytealg.IndexString: not simplified -/
/-! 260: internal/bytealg.Cutover: not simplified -/
/-! 261: internal/bytealg.IndexRabinKarp[string]: not simplified -/
/-! 262: internal/strconv.log10Pow2: not simplified -/
/-! 263: math/bits.Len64: not simplified -/
/-! 264: internal/strconv.bool2[int]: not simplified -/
/-! 265: internal/strconv.isPowerOfTwo: not simplified -/
/-! 266: math/bits.TrailingZeros: not simplified -/
/-! 267: tabor/commands.Ask: not simplified -/
/-! 268: (*tabor/keys.Keys).Apply: not simplified -/
/-! 269: tabor/bridge.Value$1: not simplified -/
/-! 270: tabor/bridge.Value$2: not simplified -/
/-! 271: tabor/bridge.Value$3: not simplified -/
/-! 272: tabor/bridge.Value$3$1: not simplified -/
/-! 273: (*tabor/values.Heap).Make: not simplified -/
/-! 274: tabor/bridge.Value$4: not simplified -/
/-! 275: tabor/bridge.Value$5: not simplified -/
/-! 276: tabor/bridge.Value$6: not simplified -/
/-! 277: tabor/bridge.Value$7: not simplified -/
/-! 278: tabor/bridge.Value$8: not simplified -/
/-! 279: internal/strconv.FormatBool: not simplified -/
/-! 280: tabor/library.functions$1: not simplified -/
/-! 281: tabor/library.got: not simplified -/
/-! 282: tabor/library.functions$2: not simplified -/
/-! 283: tabor/library.tonumber: not simplified -/
/-! 284: tabor/library.functions$3: not simplified -/
/-! 285: tabor/library.long: not simplified -/
/-! 286: tabor/library.sub: not simplified -/
/-! 287: tabor/library.functions$4: not simplified -/
/-! 288: tabor/library.must: not simplified -/
/-! 289: strings.Repeat: not simplified -/
/-! 290: tabor/library.functions$5: not simplified -/
/-! 291: tabor/library.functions$6: not simplified -/
/-! 292: tabor/library.place: not simplified -/
/-! 293: tabor/library.char: not simplified -/
/-! 294: tabor/library.concat: not simplified -/
/-! 295: tabor/library.insert: not simplified -/
/-! 296: tabor/library.remove: not simplified -/
/-! 297: tabor/library.keys: not simplified -/
/-! 298: tabor/library.asked$1: not simplified -/
/-! 299: tabor/values.arith: not simplified -/
/-! 300: tabor/values.order: not simplified -/
/-! 301: tabor/values.same: not simplified -/
/-! 302: tabor/values.join: not simplified -/
/-! 303: internal/stringslite.Clone: not simplified -/
/-! 304: errors.New: not simplified -/
/-! 305: internal/bytealg.hashStr[string]: not simplified -/
/-! 306: math/bits.TrailingZeros32: not simplified -/
/-! 307: math/bits.TrailingZeros64: not simplified -/
/-! 308: tabor/commands.long: not simplified -/
/-! 309: tabor/commands.layers: not simplified -/
/-! 310: (*tabor/keys.Keys).Copy: not simplified -/
/-! 311: (*tabor/keys.Keys).one: not simplified -/
/-! 312: strconv.ParseInt: not simplified -/
/-! 313: math/bits.Mul: not simplified -/
/-! 314: (*strings.Builder).Grow: not simplified -/
/-! 315: (*strings.Builder).Len: not simplified -/
/-! 316: tabor/library.within[int64]: not simplified -/
/-! 317: tabor/library.items: not simplified -/
/-! 318: tabor/library.set: not simplified -/
/-! 319: (*tabor/values.Heap).Keys: not simplified -/
/-! 320: tabor/values.number: not simplified -/
/-! 321: tabor/values.holds[int64]: not simplified -/
/-! 322: tabor/values.holds[string]: not simplified -/
/-! 323: tabor/values.Same: not simplified -/
/-! 324: tabor/values.joined: not simplified -/
/-! 325: tabor/commands.long$1: not simplified -/
/-! 326: tabor/basics.Do: not simplified -/
/-! 327: tabor/colls.Do: not simplified -/
/-! 328: (*tabor/keys.Keys).All: not simplified -/
/-! 329: tabor/keys.rules: not simplified -/
/-! 330: tabor/keys.short: not simplified -/
/-! 331: (*tabor/keys.Keys).Look: not simplified -/
/-! 332: tabor/keys.count: not simplified -/
/-! 333: internal/strconv.ParseInt: not simplified -/
/-! 334: math/bits.Mul32: not simplified -/
/-! 335: math/bits.Mul64: not simplified -/
/-! 336: (*strings.Builder).grow: not simplified -/
/-! 337: tabor/library.items$1: not simplified -/
/-! 338: slices.Sorted[int64]: not simplified -/
/-! 339: maps.Keys[map[int64]tabor/api.Val,int64,tabor/api.Val]: not simplified -/
/-! 340: slices.Sorted[string]: not simplified -/
/-! 341: maps.Keys[map[string]tabor/api.Val,string,tabor/api.Val]: not simplified -/
/-! 342: tabor/values.plus: not simplified -/
/-! 343: tabor/values.minus: not simplified -/
/-! 344: tabor/values.times: not simplified -/
/-! 345: tabor/values.divided: not simplified -/
/-! 346: cmp.Compare[int64]: not simplified -/
/-! 347: cmp.Compare[string]: not simplified -/
/-! 348: tabor/basics.commands: not simplified -/
/-! 349: tabor/basics.word: not simplified -/
/-! 350: tabor/basics.Do$1: not simplified -/
/-! 351: tabor/colls.commands: not simplified -/
/-! 352: tabor/colls.word: not simplified -/
/-! 353: tabor/colls.Do$1: not simplified -/
/-! 354: (*tabor/keys.Keys).All$1: not simplified -/
/-! 355: maps.Keys[map[string]*tabor/api.Thing,string,*tabor/api.Thing]: not simplified -/
/-! 356: tabor/keys.copied: not simplified -/
/-! 357: tabor/keys.rules$1: not simplified -/
/-! 358: tabor/keys.rules$2: not simplified -/
/-! 359: tabor/keys.rules$3: not simplified -/
/-! 360: tabor/keys.rules$4: not simplified -/
/-! 361: tabor/keys.hash: not simplified -/
/-! 362: tabor/keys.unhash: not simplified -/
/-! 363: tabor/keys.rules$5: not simplified -/
/-! 364: slices.Insert[[]string,string]: not simplified -/
/-! 365: tabor/keys.rules$6: not simplified -/
/-! 366: tabor/keys.rules$7: not simplified -/
/-! 367: tabor/keys.rules$8: not simplified -/
/-! 368: tabor/keys.at: not simplified -/
/-! 369: tabor/keys.add: not simplified -/
/-! 370: tabor/keys.remove: not simplified -/
/-! 371: tabor/keys.rank: not simplified -/
/-! 372: tabor/keys.unrank: not simplified -/
/-! 373: tabor/keys.short$1: not simplified -/
/-! 374: internal/bytealg.MakeNoZero: not simplified -/
/-! 375: slices.Collect[int64]: not simplified -/
/-! 376: slices.Sort[[]int64,int64]: not simplified -/
/-! 377: maps.Keys[map[int64]tabor/api.Val,int64,tabor/api.Val]$1: not simplified -/
/-! 378: slices.Collect[string]: not simplified -/
/-! 379: slices.Sort[[]string,string]: not simplified -/
/-! 380: maps.Keys[map[string]tabor/api.Val,string,tabor/api.Val]$1: not simplified -/
/-! 381: tabor/values.size: not simplified -/
/-! 382: cmp.isNaN[int64]: not simplified -/
/-! 383: cmp.isNaN[string]: not simplified -/
/-! 384: tabor/basics.set: not simplified -/
/-! 385: tabor/basics.get: not simplified -/
/-! 386: tabor/basics.del: not simplified -/
/-! 387: tabor/basics.exists: not simplified -/
/-! 388: tabor/basics.kind: not simplified -/
/-! 389: tabor/basics.step: not simplified -/
/-! 390: tabor/basics.commands$1: not simplified -/
/-! 391: (*tabor/basics.asked).many: not simplified -/
/-! 392: tabor/basics.by: not simplified -/
/-! 393: (*tabor/basics.asked).number: not simplified -/
/-! 394: tabor/basics.more: not simplified -/
/-! 395: tabor/basics.long: not simplified -/
/-! 396: tabor/basics.mget: not simplified -/
/-! 397: tabor/basics.mset: not simplified -/
/-! 398: tabor/basics.expire: not simplified -/
/-! 399: tabor/basics.persist: not simplified -/
/-! 400: tabor/basics.left: not simplified -/
/-! 401: tabor/basics.names: not simplified -/
/-! 402: tabor/basics.size: not simplified -/
/-! 403: tabor/basics.flush: not simplified -/
/-! 404: (*tabor/colls.asked).hset: not simplified -/
/-! 405: (*tabor/colls.asked).hget: not simplified -/
/-! 406: (*tabor/colls.asked).hdel: not simplified -/
/-! 407: (*tabor/colls.asked).hlen: not simplified -/
/-! 408: (*tabor/colls.asked).hgetall: not simplified -/
/-! 409: (*tabor/colls.asked).hincrby: not simplified -/
/-! 410: (*tabor/colls.asked).lpush: not simplified -/
/-! 411: (*tabor/colls.asked).rpush: not simplified -/
/-! 412: (*tabor/colls.asked).lpop: not simplified -/
/-! 413: (*tabor/colls.asked).rpop: not simplified -/
/-! 414: (*tabor/colls.asked).llen: not simplified -/
/-! 415: (*tabor/colls.asked).lindex: not simplified -/
/-! 416: (*tabor/colls.asked).lrange: not simplified -/
/-! 417: (*tabor/colls.asked).lset: not simplified -/
/-! 418: (*tabor/colls.asked).sadd: not simplified -/
/-! 419: (*tabor/colls.asked).srem: not simplified -/
/-! 420: (*tabor/colls.asked).sismember: not simplified -/
/-! 421: (*tabor/colls.asked).scard: not simplified -/
/-! 422: (*tabor/colls.asked).smembers: not simplified -/
/-! 423: (*tabor/colls.asked).sinter: not simplified -/
/-! 424: (*tabor/colls.asked).zadd: not simplified -/
/-! 425: (*tabor/colls.asked).zrem: not simplified -/
/-! 426: (*tabor/colls.asked).zscore: not simplified -/
/-! 427: (*tabor/colls.asked).zincrby: not simplified -/
/-! 428: (*tabor/colls.asked).zcard: not simplified -/
/-! 429: (*tabor/colls.asked).zrank: not simplified -/
/-! 430: (*tabor/colls.asked).zrange: not simplified -/
/-! 431: (*tabor/colls.asked).zrangebyscore: not simplified -/
/-! 432: maps.Keys[map[string]*tabor/api.Thing,string,*tabor/api.Thing]$1: not simplified -/
/-! 433: slices.Clone[[]tabor/api.Pair,tabor/api.Pair]: not simplified -/
/-! 434: slices.Clone[[]tabor/api.Rank,tabor/api.Rank]: not simplified -/
/-! 435: tabor/keys.byName[tabor/api.Pair]: not simplified -/
/-! 436: tabor/keys.pairName: not simplified -/
/-! 437: slices.Insert[[]tabor/api.Pair,tabor/api.Pair]: not simplified -/
/-! 438: slices.Delete[[]tabor/api.Pair,tabor/api.Pair]: not simplified -/
/-! 439: slices.overlaps[string]: not simplified -/
/-! 440: slices.rotateRight[string]: not simplified -/
/-! 441: tabor/keys.byName[string]: not simplified -/
/-! 442: tabor/keys.itself: not simplified -/
/-! 443: slices.Delete[[]string,string]: not simplified -/
/-! 444: slices.BinarySearchFunc[[]tabor/api.Rank,tabor/api.Rank,tabor/api.Rank]: not simplified -/
/-! 445: tabor/keys.ahead: not simplified -/
/-! 446: slices.Insert[[]tabor/api.Rank,tabor/api.Rank]: not simplified -/
/-! 447: slices.IndexFunc[[]tabor/api.Rank,tabor/api.Rank]: not simplified -/
/-! 448: tabor/keys.unrank$1: not simplified -/
/-! 449: slices.Delete[[]tabor/api.Rank,tabor/api.Rank]: not simplified -/
/-! 450: slices.AppendSeq[[]int64,int64]: not simplified -/
/-! 451: slices.pdqsortOrdered[int64]: not simplified -/
/-! 452: math/bits.Len: not simplified -/
/-! 453: slices.AppendSeq[[]string,string]: not simplified -/
/-! 454: slices.pdqsortOrdered[string]: not simplified -/
/-! 455: tabor/basics.must: not simplified -/
/-! 456: tabor/basics.plus: not simplified -/
/-! 457: (*tabor/basics.asked).put: not simplified -/
/-! 458: (*tabor/basics.asked).add: not simplified -/
/-! 459: tabor/basics.ok: not simplified -/
/-! 460: (*tabor/keys.Keys).Get: not simplified -/
/-! 461: (*tabor/basics.asked).text: not simplified -/
/-! 462: tabor/basics.text: not simplified -/
/-! 463: tabor/basics.number: not simplified -/
/-! 464: tabor/basics.step$1: not simplified -/
/-! 465: tabor/basics.Number: not simplified -/
/-! 466: tabor/basics.list: not simplified -/
/-! 467: tabor/basics.Drops: not simplified -/
/-! 468: tabor/basics.minus: not simplified -/
/-! 469: (*tabor/keys.Keys).Names: not simplified -/
/-! 470: (*tabor/keys.Keys).Size: not simplified -/
/-! 471: (*tabor/colls.asked).many: not simplified -/
/-! 472: tabor/colls.must: not simplified -/
/-! 473: (*tabor/colls.asked).of: not simplified -/
/-! 474: tabor/colls.fresh: not simplified -/
/-! 475: (*tabor/colls.asked).hset$1: not simplified -/
/-! 476: (*tabor/colls.asked).field: not simplified -/
/-! 477: (*tabor/colls.asked).put: not simplified -/
/-! 478: tabor/colls.number: not simplified -/
/-! 479: (*tabor/colls.asked).begin: not simplified -/
/-! 480: tabor/colls.text: not simplified -/
/-! 481: (*tabor/colls.asked).away: not simplified -/
/-! 482: (*tabor/colls.asked).hdel$1: not simplified -/
/-! 483: tabor/colls.list[tabor/api.Pair]: not simplified -/
/-! 484: (*tabor/colls.asked).hgetall$1: not simplified -/
/-! 485: (*tabor/colls.asked).number: not simplified -/
/-! 486: tabor/colls.plus: not simplified -/
/-! 487: (*tabor/colls.asked).push: not simplified -/
/-! 488: (*tabor/colls.asked).pop: not simplified -/
/-! 489: tabor/deque.Place: not simplified -/
/-! 490: tabor/deque.Span: not simplified -/
/-! 491: tabor/colls.list[string]: not simplified -/
/-! 492: tabor/colls.one: not simplified -/
/-! 493: (*tabor/colls.asked).member: not simplified -/
/-! 494: tabor/colls.truth: not simplified -/
/-! 495: maps.Keys[map[string]int,string,int]: not simplified -/
/-! 496: (*tabor/colls.asked).numbers: not simplified -/
/-! 497: (*tabor/colls.asked).zadd$1: not simplified -/
/-! 498: (*tabor/colls.asked).score: not simplified -/
/-! 499: (*tabor/colls.asked).zrem$1: not simplified -/
/-! 500: tabor/ranks.Of: not simplified -/
/-! 501: (*tabor/ranks.Ranks).Rank: not simplified -/
/-! 502: tabor/colls.list[tabor/api.Rank]: not simplified -/
/-! 503: (*tabor/ranks.Ranks).At: not simplified -/
/-! 504: tabor/colls.name: not simplified -/
/-! 505: (*tabor/ranks.Ranks).Between: not simplified -/
/-! 506: slices.BinarySearchFunc[[]tabor/api.Pair,tabor/api.Pair,string]: not simplified -/
/-! 507: tabor/keys.byName[tabor/api.Pair]$1: not simplified -/
/-! 508: strings.Compare: not simplified -/
/-! 509: slices.overlaps[tabor/api.Pair]: not simplified -/
/-! 510: slices.rotateRight[tabor/api.Pair]: not simplified -/
/-! 511: slices.rotateLeft[string]: not simplified -/
/-! 512: slices.BinarySearchFunc[[]string,string,string]: not simplified -/
/-! 513: tabor/keys.byName[string]$1: not simplified -/
/-! 514: slices.overlaps[tabor/api.Rank]: not simplified -/
/-! 515: slices.rotateRight[tabor/api.Rank]: not simplified -/
/-! 516: slices.insertionSortOrdered[int64]: not simplified -/
/-! 517: slices.heapSortOrdered[int64]: not simplified -/
/-! 518: slices.breakPatternsOrdered[int64]: not simplified -/
/-! 519: slices.choosePivotOrdered[int64]: not simplified -/
/-! 520: slices.reverseRangeOrdered[int64]: not simplified -/
/-! 521: slices.partialInsertionSortOrdered[int64]: not simplified -/
/-! 522: cmp.Less[int64]: not simplified -/
/-! 523: slices.partitionEqualOrdered[int64]: not simplified -/
/-! 524: slices.partitionOrdered[int64]: not simplified -/
/-! 525: math/bits.Len32: not simplified -/
/-! 526: slices.insertionSortOrdered[string]: not simplified -/
/-! 527: slices.heapSortOrdered[string]: not simplified -/
/-! 528: slices.breakPatternsOrdered[string]: not simplified -/
/-! 529: slices.choosePivotOrdered[string]: not simplified -/
/-! 530: slices.reverseRangeOrdered[string]: not simplified -/
/-! 531: slices.partialInsertionSortOrdered[string]: not simplified -/
/-! 532: cmp.Less[string]: not simplified -/
/-! 533: slices.partitionEqualOrdered[string]: not simplified -/
/-! 534: slices.partitionOrdered[string]: not simplified -/
/-! 535: tabor/keys.gone: not simplified -/
/-! 536: tabor/colls.fresh$1: not simplified -/
/-! 537: slices.IndexFunc[[]tabor/api.Pair,tabor/api.Pair]: not simplified -/
/-! 538: (*tabor/colls.asked).field$1: not simplified -/
/-! 539: (*tabor/colls.asked).away$1: not simplified -/
/-! 540: (*tabor/colls.asked).take: not simplified -/
/-! 541: slices.BinarySearch[[]string,string]: not simplified -/
/-! 542: maps.Keys[map[string]int,string,int]$1: not simplified -/
/-! 543: (*tabor/ranks.Ranks).Score: not simplified -/
/-! 544: tabor/ranks.begun: not simplified -/
/-! 545: (*tabor/ranks.Ranks).put: not simplified -/
/-! 546: (*tabor/ranks.Ranks).none: not simplified -/
/-! 547: (*tabor/ranks.Ranks).down: not simplified -/
/-! 548: tabor/ranks.less: not simplified -/
/-! 549: (*tabor/ranks.Ranks).from: not simplified -/
/-! 550: (*tabor/ranks.Ranks).At$1: not simplified -/
/-! 551: (*tabor/ranks.Ranks).At$2: not simplified -/
/-! 552: (*tabor/ranks.Ranks).Between$1: not simplified -/
/-! 553: (*tabor/ranks.Ranks).Between$2: not simplified -/
/-! 554: internal/bytealg.CompareString: not simplified -/
/-! 555: slices.rotateLeft[tabor/api.Pair]: not simplified -/
/-! 556: slices.Reverse[[]string,string]: not simplified -/
/-! 557: slices.rotateLeft[tabor/api.Rank]: not simplified -/
/-! 558: slices.siftDownOrdered[int64]: not simplified -/
/-! 559: slices.nextPowerOfTwo: not simplified -/
/-! 560: (*slices.xorshift).Next: not simplified -/
/-! 561: slices.medianAdjacentOrdered[int64]: not simplified -/
/-! 562: slices.medianOrdered[int64]: not simplified -/
/-! 563: slices.siftDownOrdered[string]: not simplified -/
/-! 564: slices.medianAdjacentOrdered[string]: not simplified -/
/-! 565: slices.medianOrdered[string]: not simplified -/
/-! 566: slices.isNaN[string]: not simplified -/
/-! 567: tabor/ranks.less$1: not simplified -/
/-! 568: internal/bytealg.abigen_runtime_cmpstring: not simplified -/
/-! 569: slices.Reverse[[]tabor/api.Pair,tabor/api.Pair]: not simplified -/
/-! 570: slices.Reverse[[]tabor/api.Rank,tabor/api.Rank]: not simplified -/
/-! 571: slices.order2Ordered[int64]: not simplified -/
/-! 572: slices.order2Ordered[string]: not simplified -/
/-! 573: (runtime.boundsError).Error: not simplified -/
/-! 574: (runtime.boundsError).RuntimeError: not simplified -/
/-! 575: (runtime.errorString).Error: not simplified -/
/-! 576: (runtime.errorString).RuntimeError: not simplified -/
/-! 577: (runtime.plainError).Error: not simplified -/
/-! 578: (runtime.plainError).RuntimeError: not simplified -/
/-! 579: (runtime.errorAddressString).Error: not simplified -/
/-! 580: (runtime.errorAddressString).RuntimeError: not simplified -/
/-! 581: (*runtime.TypeAssertionError).Error: not simplified -/
/-! 582: (*runtime.TypeAssertionError).RuntimeError: not simplified -/
/-! 583: (*runtime.PanicNilError).Error: not simplified -/
/-! 584: (*runtime.PanicNilError).RuntimeError: not simplified -/
/-! 585: (*internal/abi.Type).Align: not simplified -/
/-! 586: (internal/runtime/maps.unhashableTypeError).Error: not simplified -/
/-! 587: (internal/runtime/maps.unhashableTypeError).RuntimeError: not simplified -/
/-! 588: (tabor/api.Errno).Error: not simplified -/
/-! 589: (*strings.Builder).Reset: not simplified -/
/-! 590: (internal/strconv.Error).Error: not simplified -/
/-! 591: (*strconv.NumError).Error: not simplified -/
/-! 592: (*errors.errorString).Error: not simplified -/
/-! 593: (*tabor/ranks.Ranks).Len: not simplified -/
/-! 594: (internal/abi.Kind).String: not simplified -/
/-! 595: var's door: unicode.White_Space holds what its initialiser lays, and nothing in the loaded text writes it or what it leads to (look 11-elder): not simplified -/
/-! 596: var's door: unicode._White_Space holds what its initialiser lays, and nothing in the loaded text writes it or what it leads to (look 11-elder): not simplified -/
/-! 597: var's door: gosem.cut.vars holds initialisers alone; see the manifest's row cutvarsword (look 11, test files too): not simplified -/
/-! 598: var's door: internal/strconv.uint64pow10 is laid by its own initialiser, plain data (look 11): not simplified -/
/-! 599: var's door: math/bits.deBruijn32tab is laid by its own initialiser, plain data (look 11): not simplified -/
/-! 600: var's door: math/bits.deBruijn64tab is laid by its own initialiser, plain data (look 11): not simplified -/
/-! 601: var's door: strconv.ErrRange is laid by its own call of errors.New on one literal (look 11): not simplified -/
/-! 602: var's door: strconv.ErrSyntax is laid by its own call of errors.New on one literal (look 11): not simplified -/
/-! 603: var's door: strings.asciiSpace is laid by its own initialiser, plain data (look 11): not simplified -/
/-! 604: var's door: the look of gosem.cut.vars went over the folder that the caller named as the repository's root (look 11): not simplified -/
/-! 605: var's door: unicode.White_Space is laid by its own initialiser, on the list of Go's own tables (list 10): not simplified -/
/-! 606: var's door: unicode._White_Space is laid by its own initialiser, on the list of Go's own tables (list 10): not simplified -/
/-! 607: var's door: unicode/utf8.acceptRanges is laid by its own initialiser, plain data (look 11): not simplified -/
/-! 608: var's door: unicode/utf8.first is laid by its text alone (pinned 1): not simplified -/
/-! 609: gosem.cut.vars: not simplified -/
end Go.Proofs.YtomcocbcajidcaaGreatDoor.C
