/-
  Functions as runs take them. Printed by a program (wip/prun.lean).
-/
import Derived.Test.YtaeabfemedamhaaGreatDoorMKD
import Derived.Test.YtaeabfemedamhaaGreatDoorProg
set_option maxRecDepth 100000
namespace Go.Proofs.YtaeabfemedamhaaGreatDoor.Q
open Go Go.Sx Go.Sx.S

theorem mixed : Tryz.prog.follows .mixedOrders = true := by kernel_rfl

/-! 4: tabor/machine.Run -/
def f4r0 : List SOper := [
 o 4 (.box (t 1)),
 o 5 (.box (t 2)),
 o 6 (.new [(.int .i64 0), (.int .i64 0), (.string ⟨#[]⟩), (.slice none 0 0), (.slice none 0 0), (.int .i64 0), (.int .i64 0)]),
 o 7 (.mv (i 0))]
def f4r1 : List SOper := [
 o 12 (.mv (t 0)),
 o 13 (.call 7 [(t 12), (.const (.pointer none))]),
 o 11 (.mv (t 13))]
def f4r2 : List SOper := [
 o 14 (.build [(.int .i64 0), (.int .i64 0), (.string ⟨#[]⟩), (.slice none 0 0), (.slice none 0 0), (.int .i64 0), (.int .i64 0)] [] []),
 q (.st 7 (t 6) (t 14)),
 o 7 (.mv (i 1))]
def f4r3 : List SOper := [
 o 16 (.ldn 3 (t 4)),
 o 17 (.call 8 [(t 16)]),
 o 18 (.cmp .neq (t 17) (i 0)),
 o 19 (.mv (t 18)),
 n 20 19 (.fa 0 (t 5)),
 n 21 19 (.ld1 (t 20)),
 n 22 19 (.fa 1 (t 5)),
 n 23 19 (.ld1 (t 22)),
 n 24 19 (.bslice [(.slice none 0 0), (.slice none 0 0)] 2 [(0, 1), (1, 1)] [(t 21), (t 23)]),
 n 25 19 (.call 10 [(t 24)]),
 n 26 19 (.call 9 [(t 25)]),
 n 27 19 (.un .not (t 26)),
 o 28 (.pick (t 19) (b true) (t 27)),
 o 15 (.mv (t 28))]
def f4r4 : List SOper := [
 o 29 (.build [(.int .i64 0), (.int .i64 0), (.string ⟨#[]⟩), (.slice none 0 0), (.slice none 0 0), (.int .i64 0), (.int .i64 0)] [] []),
 q (.st 7 (t 6) (t 29)),
 o 7 (.mv (i 2))]
def f4r5 : List SOper := [
 o 30 (.fa 3 (t 5)),
 o 31 (.ld1 (t 30)),
 o 32 (.mx (t 31) (i 0)),
 o 33 (.mn (t 32) (i 16777216)),
 o 8 (.mv (t 33))]
def f4t6 : OTree := (.one (o 35 (.fa 4 (t 5)))
 (.one (o 36 (.ld1 (t 35)))
 (.one (o 37 (.mn (t 36) (i 1048576)))
 (.one (o 39 (.mv (t 0)))
 (.one (o 40 (.fa 2 (t 5)))
 (.one (o 42 (.mv (t 8)))
 (.one (o 43 (.fa 5 (t 5)))
 (.one (o 34 (.ldn 3 (t 4)))
 (.one (o 41 (.ld1 (t 40)))
 (.one (o 44 (.ld1 (t 43)))
 (.one (o 45 (.mx (t 44) (i 0)))
 (.chk [o 44 (.ld1 (t 43)), o 41 (.ld1 (t 40)), o 34 (.ldn 3 (t 4))] (.one (o 46 (.mn (t 45) (i 200)))
 (.chk [o 44 (.ld1 (t 43)), o 41 (.ld1 (t 40)), o 34 (.ldn 3 (t 4))] (.one (o 38 (.call 11 [(t 37)]))
 (.chk [o 44 (.ld1 (t 43)), o 41 (.ld1 (t 40)), o 34 (.ldn 3 (t 4))] (.one (o 47 (.build [(.slice none 0 0), (.slice none 0 0), (.slice none 0 0), (.pointer none), (.pointer none), (.int .i64 0), (.int .i64 0), (.int .i64 0), (.int .i64 0), (.int .i64 0), (.string ⟨#[]⟩), (.int .i64 0), (.int .i64 0), (.string ⟨#[]⟩), (.slice none 0 0), (.slice none 0 0), (.int .i64 0), (.int .i64 0), (.string ⟨#[]⟩)] [(0, 3), (3, 1), (4, 1), (5, 1), (6, 1), (7, 1)] [(t 34), (t 38), (t 39), (t 41), (t 42), (t 46)]))
 (.chk [o 44 (.ld1 (t 43)), o 41 (.ld1 (t 40)), o 34 (.ldn 3 (t 4))] (.one (o 48 (.box (t 47)))
 (.one (o 9 (.mv (t 48)))
 .done))))))))))))))))))))
def f4r7 : List SOper := [
 o 49 (.mv (t 9)),
 o 50 (.ldn 6 (t 5)),
 o 51 (.call 12 [(t 49), (t 50)]),
 o 10 (.new [(.int .i64 0), (.int .i64 0), (.string ⟨#[]⟩), (.slice none 0 0)]),
 q (.st 4 (t 10) (t 51))]
def f4t8 : OTree := (.one (o 53 (.mv (t 9)))
 (.one (o 54 (.nilck (t 53)))
 (.one (o 55 (.fa 15 (t 54)))
 (.one (o 57 (.mv (t 8)))
 (.one (o 58 (.mv (t 9)))
 (.one (o 59 (.nilck (t 58)))
 (.one (o 60 (.fa 6 (t 59)))
 (.one (o 63 (.mv (t 9)))
 (.one (o 64 (.nilck (t 63)))
 (.one (o 65 (.fa 3 (t 64)))
 (.one (o 66 (.ld1 (t 65)))
 (.one (o 52 (.ldn 4 (t 10)))
 (.one (o 56 (.ld1 (t 55)))
 (.one (o 61 (.ld1 (t 60)))
 (.one (o 62 (.ar .sub (t 57) (t 61)))
 (.chk [o 61 (.ld1 (t 60)), o 56 (.ld1 (t 55)), o 52 (.ldn 4 (t 10))] (.one (o 67 (.call 13 [(t 66)]))
 (.chk [o 61 (.ld1 (t 60)), o 56 (.ld1 (t 55)), o 52 (.ldn 4 (t 10))] (.one (o 68 (.build [(.int .i64 0), (.int .i64 0), (.string ⟨#[]⟩), (.slice none 0 0), (.slice none 0 0), (.int .i64 0), (.int .i64 0)] [(0, 4), (4, 1), (5, 1), (6, 1)] [(t 52), (t 56), (t 62), (t 67)]))
 (.chk [o 61 (.ld1 (t 60)), o 56 (.ld1 (t 55)), o 52 (.ldn 4 (t 10))] (.one (q (.st 7 (t 6) (t 68)))
 (.one (o 7 (.mv (i 0)))
 .done))))))))))))))))))))))
def f4 : SCode := (.seq (.ops f4r0) (.seq (.block 0 (.seq (.ops f4r1) (.cond (t 11) (.seq (.ops f4r2) .ret) (.seq (.ops f4r3) (.cond (t 15) (.seq (.ops f4r4) .ret) .skip))))) (.seq (.ops f4r5) (.seq (.tree [34, 35, 36, 37, 38, 39, 40, 41, 42, 43, 44, 45, 46, 47, 48, 9] f4t6) (.seq (.ops f4r7) (.seq (.tree [52, 53, 54, 55, 56, 57, 58, 59, 60, 61, 62, 63, 64, 65, 66, 67, 68, 7] f4t8) .ret))))))
def f4_ent : Ent := .code 69 f4 [.cn 6 7, .t 7]
theorem f4_ok (oq : Nat → Value) (F : Nat → Prop) (h0 : Heap) : EntOK Tryz.prog oq F h0 4 f4_ent := ⟨soundD_of (fl := false) mixed Tryz.func4 rfl (by kernel_rfl) (by kernel_rfl) (by kernel_rfl), soundF_of (fl := false) mixed Tryz.func4 rfl (by kernel_rfl) (by kernel_rfl) (by kernel_rfl)⟩

/-! 8: tabor/code.Check -/
def f8r0 : List SOper := [
 o 1 (.box (t 0)),
 o 2 (.mv (i 0))]
def f8t1 : OTree := (.one (o 11 (.fa 0 (t 1)))
 (.one (o 12 (.ld1 (t 11)))
 (.one (o 13 (.len (t 12)))
 (.one (o 14 (.cmp .lss (t 13) (i 1)))
 (.one (o 15 (.mv (t 14)))
 (.one (n 16 15 (.fa 0 (t 1)))
 (.one (n 17 15 (.ld1 (t 16)))
 (.one (n 18 15 (.len (t 17)))
 (.one (n 19 15 (.cmp .gtr (t 18) (i 1000)))
 (.one (o 20 (.pick (t 15) (b true) (t 19)))
 (.one (o 21 (.mv (t 20)))
 (.one (n 22 21 (.fa 0 (t 1)))
 (.one (n 23 21 (.ld1 (t 22)))
 (.one (n 24 21 (.ixs 3 (t 23) (i 0)))
 (.one (n 25 21 (.fa 0 (t 24)))
 (.one (n 26 21 (.ld1 (t 25)))
 (.one (n 27 21 (.cmp .neq (t 26) (i 0)))
 (.one (o 28 (.pick (t 21) (b true) (t 27)))
 (.one (o 29 (.mv (t 28)))
 (.one (n 30 29 (.ldn 3 (t 1)))
 (.one (n 32 29 (.fa 1 (t 1)))
 (.one (n 36 29 (.fa 2 (t 1)))
 (.one (n 33 29 (.ld1 (t 32)))
 (.one (n 34 29 (.len (t 33)))
 (.chk [n 33 29 (.ld1 (t 32))] (.one (n 37 29 (.ld1 (t 36)))
 (.one (n 38 29 (.len (t 37)))
 (.chk [n 37 29 (.ld1 (t 36)), n 33 29 (.ld1 (t 32))] (.one (n 31 29 (.call 20 [(t 30)]))
 (.chk [n 37 29 (.ld1 (t 36)), n 33 29 (.ld1 (t 32))] (.one (n 35 29 (.ar .add (t 31) (t 34)))
 (.chk [n 37 29 (.ld1 (t 36)), n 33 29 (.ld1 (t 32))] (.one (n 39 29 (.ar .add (t 35) (t 38)))
 (.chk [n 37 29 (.ld1 (t 36)), n 33 29 (.ld1 (t 32))] (.one (n 40 29 (.cmp .gtr (t 39) (i 65536)))
 (.chk [n 37 29 (.ld1 (t 36)), n 33 29 (.ld1 (t 32))] (.one (o 41 (.pick (t 29) (b true) (t 40)))
 (.chk [n 37 29 (.ld1 (t 36)), n 33 29 (.ld1 (t 32))] .done))))))))))))))))))))))))))))))))))))))
def f8r2 : List SOper := [
 o 2 (.mv (i 2))]
def f8r3 : List SOper := [
 o 42 (.fa 2 (t 1)),
 o 43 (.ld1 (t 42)),
 o 44 (.call 21 [(t 43), (u 22)]),
 o 45 (.un .not (t 44)),
 o 3 (.mv (t 45))]
def f8r4 : List SOper := [
 o 46 (.fa 0 (t 1)),
 o 47 (.ld1 (t 46)),
 o 48 (.len (t 47)),
 o 49 (.mv (i 0))]
def f8r5 : List SOper := [
 o 50 (.cmp .lss (t 49) (t 48))]
def f8r6 : List SOper := [
 o 51 (.ixs 3 (t 47) (t 49)),
 o 52 (.ldn 3 (t 51)),
 o 5 (.new [(.int .i64 0), (.int .i64 0), (.slice none 0 0)]),
 q (.st 3 (t 5) (t 52))]
def f8r7 : List SOper := [
 o 53 (.mv (t 3)),
 o 54 (.mv (t 53)),
 g 55 54 (.fa 0 (t 5)),
 g 56 54 (.ld1 (t 55)),
 g 57 54 (.cmp .geq (t 56) (i 0)),
 o 58 (.pick (t 54) (t 57) (b false)),
 o 59 (.mv (t 58)),
 g 60 59 (.fa 0 (t 5)),
 g 61 59 (.ld1 (t 60)),
 g 62 59 (.fa 1 (t 5)),
 g 63 59 (.ld1 (t 62)),
 g 64 59 (.cmp .leq (t 61) (t 63)),
 o 65 (.pick (t 59) (t 64) (b false)),
 o 66 (.mv (t 65)),
 g 67 66 (.fa 1 (t 5)),
 g 68 66 (.ld1 (t 67)),
 g 69 66 (.cmp .leq (t 68) (i 500)),
 o 70 (.pick (t 66) (t 69) (b false)),
 o 3 (.mv (t 70))]
def f8r8 : List SOper := [
 o 71 (.ar .add (t 49) (i 1)),
 o 49 (.mv (t 71))]
def f8l9 : SCode := (.seq (.ops f8r5) (.seq (.cond (t 50) .skip (.exit 0)) (.seq (.block 1 (.seq (.ops f8r6) (.ops f8r7))) (.ops f8r8))))
def f8r10 : List SOper := [
 o 72 (.mv (t 3)),
 o 73 (.un .not (t 72))]
def f8r11 : List SOper := [
 o 2 (.mv (i 2))]
def f8r12 : List SOper := [
 o 74 (.fa 0 (t 1)),
 o 75 (.ld1 (t 74)),
 o 76 (.len (t 75)),
 o 77 (.mv (i 0))]
def f8r13 : List SOper := [
 o 78 (.cmp .lss (t 77) (t 76))]
def f8r14 : List SOper := [
 o 79 (.ixs 3 (t 75) (t 77)),
 o 80 (.ldn 3 (t 79)),
 o 7 (.new [(.int .i64 0), (.int .i64 0), (.slice none 0 0)]),
 q (.st 3 (t 7) (t 80))]
def f8r15 : List SOper := [
 o 81 (.ldn 3 (t 1)),
 o 82 (.ldn 3 (t 7)),
 o 83 (.build [(.slice none 0 0), (.slice none 0 0), (.slice none 0 0), (.int .i64 0), (.int .i64 0), (.slice none 0 0)] [(0, 3), (3, 3)] [(t 81), (t 82)]),
 o 8 (.new [(.slice none 0 0), (.slice none 0 0), (.slice none 0 0), (.int .i64 0), (.int .i64 0), (.slice none 0 0)]),
 q (.st 6 (t 8) (t 83))]
def f8r16 : List SOper := [
 o 84 (.fa 2 (t 7)),
 o 85 (.ld1 (t 84)),
 o 86 (.call 23 [(t 85)]),
 o 3 (.mv (t 86))]
def f8r17 : List SOper := [
 o 87 (.mv (t 3)),
 o 88 (.un .not (t 87))]
def f8r18 : List SOper := [
 o 89 (.fa 2 (t 7)),
 o 90 (.ld1 (t 89)),
 o 91 (.len (t 90)),
 o 92 (.mv (i 0))]
def f8r19 : List SOper := [
 o 93 (.cmp .lss (t 92) (t 91))]
def f8r20 : List SOper := [
 o 94 (.ixs 4 (t 90) (t 92)),
 o 95 (.ldn 4 (t 94)),
 o 10 (.new [(.int .i64 0), (.int .i64 0), (.int .i64 0), (.int .i64 0)]),
 q (.st 4 (t 10) (t 95))]
def f8r21 : List SOper := [
 o 96 (.ldn 6 (t 8)),
 o 97 (.ldn 4 (t 10)),
 o 98 (.call 24 [(t 96), (t 97)]),
 o 3 (.mv (t 98))]
def f8r22 : List SOper := [
 o 99 (.mv (t 3)),
 o 100 (.un .not (t 99))]
def f8r23 : List SOper := [
 o 101 (.ar .add (t 92) (i 1)),
 o 92 (.mv (t 101))]
def f8l24 : SCode := (.seq (.ops f8r19) (.seq (.cond (t 93) .skip (.exit 4)) (.seq (.block 5 (.seq (.ops f8r20) (.seq (.ops f8r21) (.seq (.ops f8r22) (.cond (t 100) (.exit 2) .skip))))) (.ops f8r23))))
def f8r25 : List SOper := [
 o 102 (.ar .add (t 77) (i 1)),
 o 77 (.mv (t 102))]
def f8l26 : SCode := (.seq (.ops f8r13) (.seq (.cond (t 78) .skip (.exit 2)) (.seq (.block 3 (.seq (.ops f8r14) (.seq (.ops f8r15) (.seq (.seq (.ops f8r16) (.seq (.ops f8r17) (.cond (t 88) (.exit 2) .skip))) (.seq (.ops f8r18) (.block 4 (.loop f8l24))))))) (.ops f8r25))))
def f8r27 : List SOper := [
 o 103 (.mv (t 3)),
 o 104 (.un .not (t 103))]
def f8r28 : List SOper := [
 o 2 (.mv (i 2))]
def f8r29 : List SOper := [
 o 2 (.mv (i 0))]
def f8r30 : List SOper := [
 o 74 (.fa 0 (t 1)),
 o 75 (.ld1 (t 74)),
 o 76 (.len (t 75)),
 o 77 (.mv (i 0))]
def f8r31 : List SOper := [
 o 78 (.cmp .lss (t 77) (t 76))]
def f8r32 : List SOper := [
 o 79 (.ixs 3 (t 75) (t 77)),
 o 80 (.ldn 3 (t 79)),
 o 7 (.new [(.int .i64 0), (.int .i64 0), (.slice none 0 0)]),
 q (.st 3 (t 7) (t 80))]
def f8r33 : List SOper := [
 o 81 (.ldn 3 (t 1)),
 o 82 (.ldn 3 (t 7)),
 o 83 (.build [(.slice none 0 0), (.slice none 0 0), (.slice none 0 0), (.int .i64 0), (.int .i64 0), (.slice none 0 0)] [(0, 3), (3, 3)] [(t 81), (t 82)]),
 o 8 (.new [(.slice none 0 0), (.slice none 0 0), (.slice none 0 0), (.int .i64 0), (.int .i64 0), (.slice none 0 0)]),
 q (.st 6 (t 8) (t 83))]
def f8r34 : List SOper := [
 o 84 (.fa 2 (t 7)),
 o 85 (.ld1 (t 84)),
 o 86 (.call 23 [(t 85)]),
 o 3 (.mv (t 86))]
def f8r35 : List SOper := [
 o 87 (.mv (t 3)),
 o 88 (.un .not (t 87))]
def f8r36 : List SOper := [
 o 89 (.fa 2 (t 7)),
 o 90 (.ld1 (t 89)),
 o 91 (.len (t 90)),
 o 92 (.mv (i 0))]
def f8r37 : List SOper := [
 o 93 (.cmp .lss (t 92) (t 91))]
def f8r38 : List SOper := [
 o 94 (.ixs 4 (t 90) (t 92)),
 o 95 (.ldn 4 (t 94)),
 o 10 (.new [(.int .i64 0), (.int .i64 0), (.int .i64 0), (.int .i64 0)]),
 q (.st 4 (t 10) (t 95))]
def f8r39 : List SOper := [
 o 96 (.ldn 6 (t 8)),
 o 97 (.ldn 4 (t 10)),
 o 98 (.call 24 [(t 96), (t 97)]),
 o 3 (.mv (t 98))]
def f8r40 : List SOper := [
 o 99 (.mv (t 3)),
 o 100 (.un .not (t 99))]
def f8r41 : List SOper := [
 o 101 (.ar .add (t 92) (i 1)),
 o 92 (.mv (t 101))]
def f8l42 : SCode := (.seq (.ops f8r37) (.seq (.cond (t 93) .skip (.exit 4)) (.seq (.block 5 (.seq (.ops f8r38) (.seq (.ops f8r39) (.seq (.ops f8r40) (.cond (t 100) (.exit 2) .skip))))) (.ops f8r41))))
def f8r43 : List SOper := [
 o 102 (.ar .add (t 77) (i 1)),
 o 77 (.mv (t 102))]
def f8l44 : SCode := (.seq (.ops f8r31) (.seq (.cond (t 78) .skip (.exit 2)) (.seq (.block 3 (.seq (.ops f8r32) (.seq (.ops f8r33) (.seq (.seq (.ops f8r34) (.seq (.ops f8r35) (.cond (t 88) (.exit 2) .skip))) (.seq (.ops f8r36) (.block 4 (.loop f8l42))))))) (.ops f8r43))))
def f8r45 : List SOper := [
 o 103 (.mv (t 3)),
 o 104 (.un .not (t 103))]
def f8r46 : List SOper := [
 o 2 (.mv (i 2))]
def f8r47 : List SOper := [
 o 2 (.mv (i 0))]
def f8 : SCode := (.seq (.ops f8r0) (.scopeG (.seq (.seq (.tree [11, 12, 13, 14, 15, 16, 17, 18, 19, 20, 21, 22, 23, 24, 25, 26, 27, 28, 29, 30, 31, 32, 33, 34, 35, 36, 37, 38, 39, 40, 41] f8t1) (.cond (t 41) (.seq (.ops f8r2) .ret) .skip)) (.seq (.ops f8r3) (.seq (.seq (.ops f8r4) (.block 0 (.loop f8l9))) (.seq (.seq (.ops f8r10) (.cond (t 73) (.seq (.ops f8r11) .ret) .skip)) (.seq (.label 0) (.seq (.seq (.ops f8r12) (.block 2 (.loop f8l26))) (.seq (.seq (.ops f8r27) (.cond (t 104) (.seq (.ops f8r28) .ret) .skip)) (.seq (.ops f8r29) .ret)))))))) 0 (.seq .skip (.seq (.seq (.ops f8r30) (.block 2 (.loop f8l44))) (.seq (.seq (.ops f8r45) (.cond (t 104) (.seq (.ops f8r46) .ret) .skip)) (.seq (.ops f8r47) .ret))))))
def f8_ent : Ent := .code 105 f8 [.t 2]
theorem f8_ok (oq : Nat → Value) (F : Nat → Prop) (h0 : Heap) : EntOK Tryz.prog oq F h0 8 f8_ent := ⟨soundD_of (fl := false) mixed Tryz.func8 rfl (by kernel_rfl) (by kernel_rfl) (by kernel_rfl), soundF_of (fl := false) mixed Tryz.func8 rfl (by kernel_rfl) (by kernel_rfl) (by kernel_rfl)⟩

/-! 12: (*tabor/machine.run).done -/
def f12r0 : List SOper := [
 o 2 (.box (t 0)),
 o 3 (.box (t 1)),
 o 4 (.new [(.int .i64 0), (.int .i64 0), (.string ⟨#[]⟩), (.slice none 0 0)])]
def f12r1 : List SOper := [
 o 8 (.fn 27 [] [(t 4)])]
def f12t2 : OTree := (.one (o 11 (.ld1 (t 2)))
 (.one (o 12 (.fa 0 (t 3)))
 (.one (o 13 (.ld1 (t 12)))
 (.one (o 16 (.fa 1 (t 3)))
 (.one (o 9 (.ld1 (t 2)))
 (.one (o 10 (.ld1 (t 2)))
 (.one (o 15 (.ld1 (t 2)))
 (.one (o 17 (.ld1 (t 16)))
 (.one (o 14 (.call 29 [(t 11), (t 13)]))
 (.chk [o 17 (.ld1 (t 16)), o 15 (.ld1 (t 2)), o 10 (.ld1 (t 2)), o 9 (.ld1 (t 2))] (.one (o 18 (.call 29 [(t 15), (t 17)]))
 (.chk [o 10 (.ld1 (t 2)), o 9 (.ld1 (t 2))] (.one (o 19 (.nilck (t 9)))
 (.chk [o 10 (.ld1 (t 2)), o 9 (.ld1 (t 2))] (.one (o 20 (.fa 8 (t 19)))
 (.chk [o 10 (.ld1 (t 2)), o 9 (.ld1 (t 2))] (.one (q (.st 3 (t 20) (t 14)))
 (.chk [o 10 (.ld1 (t 2))] (.one (o 21 (.nilck (t 10)))
 (.chk [o 10 (.ld1 (t 2))] (.one (o 22 (.fa 11 (t 21)))
 (.chk [o 10 (.ld1 (t 2))] (.one (q (.st 3 (t 22) (t 18)))
 .done)))))))))))))))))))))))
def f12r3 : List SOper := [
 o 23 (.ld1 (t 2)),
 o 24 (.call 30 [(t 23)]),
 o 5 (.new (List.replicate 36 .nilFunc)),
 q (.st 36 (t 5) (t 24))]
def f12r4 : List SOper := [
 o 25 (.ld1 (t 2)),
 o 26 (.call 31 [(t 25), (i 0), (i 0), (.const (.slice none 0 0))])]
def f12r5 : List SOper := [
 o 27 (.ld1 (t 2)),
 o 28 (.call 32 [(t 27)])]
def f12r6 : List SOper := [
 o 6 (.new [(.int .i64 0), (.int .i64 0), (.int .i64 0), (.int .i64 0)]),
 q (.st 4 (t 6) (t 29))]
def f12r7 : List SOper := [
 o 30 (.fa 0 (t 6)),
 o 31 (.ld1 (t 30)),
 o 32 (.ixa 36 1 (t 5) (t 31)),
 o 33 (.ld1 (t 32)),
 o 34 (.ldn 4 (t 6)),
 o 35 (.callv (t 33) [(t 34)])]
def f12r8 : List SOper := [
 o 36 (.ld1 (t 2)),
 o 37 (.nilck (t 36)),
 o 38 (.fa 14 (t 37)),
 o 39 (.ld1 (t 38)),
 o 40 (.len (t 39)),
 o 41 (.cmp .eql (t 40) (i 0))]
def f12a9 : SCode := (.ops f12r6)
def f12b9 : SCode := (.block 1 (.seq (.ops f12r7) (.seq (.ops f12r8) (.cond (t 41) (.exit 0) .skip))))
def f12r10 : List SOper := [
 o 43 (.ld1 (t 2)),
 o 44 (.nilck (t 43)),
 o 45 (.fa 3 (t 44)),
 o 46 (.ld1 (t 45)),
 o 47 (.ld1 (t 2)),
 o 48 (.nilck (t 47)),
 o 49 (.fa 16 (t 48)),
 o 50 (.ldn 3 (t 49)),
 o 51 (.call 33 [(t 46), (t 50)]),
 o 42 (.mv (t 51)),
 o 52 (.ext (t 42) 0),
 o 53 (.ext (t 42) 1),
 q (.st 4 (t 4) (t 52)),
 o 7 (.mv (t 53))]
def f12r11 : List SOper := [
 o 54 (.mv (t 7)),
 o 55 (.call 34 [(t 54)])]
def f12r12 : List SOper := [
 o 56 (.ldn 4 (t 4)),
 q (.st 4 (t 4) (t 56))]
def f12r13 : List SOper := [
 o 27 (.ld1 (t 2)),
 o 28 (.call 32 [(t 27)])]
def f12r14 : List SOper := [
 o 6 (.new [(.int .i64 0), (.int .i64 0), (.int .i64 0), (.int .i64 0)]),
 q (.st 4 (t 6) (t 29))]
def f12r15 : List SOper := [
 o 30 (.fa 0 (t 6)),
 o 31 (.ld1 (t 30)),
 o 32 (.ixa 36 1 (t 5) (t 31)),
 o 33 (.ld1 (t 32)),
 o 34 (.ldn 4 (t 6)),
 o 35 (.callv (t 33) [(t 34)])]
def f12r16 : List SOper := [
 o 36 (.ld1 (t 2)),
 o 37 (.nilck (t 36)),
 o 38 (.fa 14 (t 37)),
 o 39 (.ld1 (t 38)),
 o 40 (.len (t 39)),
 o 41 (.cmp .eql (t 40) (i 0))]
def f12a17 : SCode := (.ops f12r14)
def f12b17 : SCode := (.block 1 (.seq (.ops f12r15) (.seq (.ops f12r16) (.cond (t 41) (.exit 0) .skip))))
def f12r18 : List SOper := [
 o 43 (.ld1 (t 2)),
 o 44 (.nilck (t 43)),
 o 45 (.fa 3 (t 44)),
 o 46 (.ld1 (t 45)),
 o 47 (.ld1 (t 2)),
 o 48 (.nilck (t 47)),
 o 49 (.fa 16 (t 48)),
 o 50 (.ldn 3 (t 49)),
 o 51 (.call 33 [(t 46), (t 50)]),
 o 42 (.mv (t 51)),
 o 52 (.ext (t 42) 0),
 o 53 (.ext (t 42) 1),
 q (.st 4 (t 4) (t 52)),
 o 7 (.mv (t 53))]
def f12r19 : List SOper := [
 o 54 (.mv (t 7)),
 o 55 (.call 34 [(t 54)])]
def f12r20 : List SOper := [
 o 56 (.ldn 4 (t 4)),
 q (.st 4 (t 4) (t 56))]
def f12 : SCode := (.seq (.ops f12r0) (.scopeG (.seq (.dfr f12r1 none (t 8) []) (.seq (.tree [9, 10, 11, 12, 13, 14, 15, 16, 17, 18, 19, 20, 21, 22] f12t2) (.seq (.ops f12r3) (.seq (.ops f12r4) (.seq (.label 0) (.seq (.seq (.ops f12r5) (.block 0 (.rangeF (t 28) [29] f12a9 f12b9))) (.seq (.ops f12r10) (.seq (.ops f12r11) (.seq (.ops f12r12) .ret))))))))) 0 (.seq .skip (.seq (.seq (.ops f12r13) (.block 0 (.rangeF (t 28) [29] f12a17 f12b17))) (.seq (.ops f12r18) (.seq (.ops f12r19) (.seq (.ops f12r20) .ret)))))))
def f12_ent : Ent := .code 57 f12 [.cn 4 4]
theorem f12_ok (oq : Nat → Value) (F : Nat → Prop) (h0 : Heap) : EntOK Tryz.prog oq F h0 12 f12_ent := ⟨soundD_of (fl := false) mixed Tryz.func12 rfl (by kernel_rfl) (by kernel_rfl) (by kernel_rfl), soundF_of (fl := false) mixed Tryz.func12 rfl (by kernel_rfl) (by kernel_rfl) (by kernel_rfl)⟩

/-! 24: (tabor/code.asked).instr -/
def f24r0 : List SOper := [
 o 2 (.box (t 0)),
 o 3 (.box (t 1)),
 o 4 (.mv (b false))]
def f24r1 : List SOper := [
 o 6 (.fa 0 (t 3)),
 o 7 (.ld1 (t 6)),
 o 8 (.cmp .lss (t 7) (i 1)),
 o 9 (.mv (t 8)),
 n 10 9 (.fa 0 (t 3)),
 n 11 9 (.ld1 (t 10)),
 n 12 9 (.cmp .gtr (t 11) (i 35)),
 o 13 (.pick (t 9) (b true) (t 12))]
def f24r2 : List SOper := [
 o 4 (.mv (b false))]
def f24t3 : OTree := (.one (o 15 (.fa 0 (t 3)))
 (.one (o 16 (.ld1 (t 15)))
 (.both (.one (o 14 (.call 41 []))
 (.chk [o 16 (.ld1 (t 15))] (.one (o 17 (.ixw 36 3 (t 14) (t 16)))
 (.chk [o 16 (.ld1 (t 15))] (.one (o 5 (.new [(.int .i64 0), (.int .i64 0), (.int .i64 0)]))
 (.chk [o 16 (.ld1 (t 15))] (.one (q (.st 3 (t 5) (t 17)))
 .done))))))) (.one (o 5 (.new [(.int .i64 0), (.int .i64 0), (.int .i64 0)]))
 (.chk [o 16 (.ld1 (t 15))] (.one (o 14 (.call 41 []))
 (.chk [o 16 (.ld1 (t 15))] (.one (o 17 (.ixw 36 3 (t 14) (t 16)))
 (.chk [o 16 (.ld1 (t 15))] (.one (q (.st 3 (t 5) (t 17)))
 .done))))))))))
def f24r4 : List SOper := [
 o 18 (.ldn 6 (t 2)),
 o 19 (.fa 0 (t 5)),
 o 20 (.ld1 (t 19)),
 o 21 (.fa 1 (t 3)),
 o 22 (.ld1 (t 21)),
 o 23 (.call 42 [(t 18), (t 20), (t 22)]),
 o 24 (.un .not (t 23)),
 o 25 (.mv (t 24)),
 n 26 25 (.ldn 6 (t 2)),
 n 27 25 (.fa 1 (t 5)),
 n 28 25 (.ld1 (t 27)),
 n 29 25 (.fa 2 (t 3)),
 n 30 25 (.ld1 (t 29)),
 n 31 25 (.call 42 [(t 26), (t 28), (t 30)]),
 n 32 25 (.un .not (t 31)),
 o 33 (.pick (t 25) (b true) (t 32)),
 o 34 (.mv (t 33)),
 n 35 34 (.ldn 6 (t 2)),
 n 36 34 (.fa 2 (t 5)),
 n 37 34 (.ld1 (t 36)),
 n 38 34 (.fa 3 (t 3)),
 n 39 34 (.ld1 (t 38)),
 n 40 34 (.call 42 [(t 35), (t 37), (t 39)]),
 n 41 34 (.un .not (t 40)),
 o 42 (.pick (t 34) (b true) (t 41))]
def f24r5 : List SOper := [
 o 4 (.mv (b false))]
def f24r6 : List SOper := [
 o 43 (.fa 0 (t 3)),
 o 44 (.ld1 (t 43))]
def f24r7 : List SOper := [
 o 46 (.cmp .eql (t 44) (i 1)),
 o 45 (.mv (t 46))]
def f24r8 : List SOper := [
 o 47 (.fa 2 (t 3)),
 o 48 (.ld1 (t 47)),
 o 49 (.fa 1 (t 3)),
 o 50 (.ld1 (t 49)),
 o 51 (.cmp .geq (t 48) (t 50)),
 o 4 (.mv (t 51))]
def f24r9 : List SOper := [
 o 53 (.cmp .eql (t 44) (i 30)),
 o 52 (.mv (t 53))]
def f24r10 : List SOper := [
 o 54 (.cmp .eql (t 44) (i 31)),
 o 52 (.mv (t 54))]
def f24r11 : List SOper := [
 o 55 (.fa 1 (t 3)),
 o 56 (.ld1 (t 55)),
 o 57 (.ar .add (t 56) (i 2)),
 o 58 (.fa 3 (t 2)),
 o 59 (.fa 1 (t 58)),
 o 60 (.ld1 (t 59)),
 o 61 (.cmp .lss (t 57) (t 60)),
 o 4 (.mv (t 61))]
def f24r12 : List SOper := [
 o 63 (.cmp .eql (t 44) (i 32)),
 o 62 (.mv (t 63))]
def f24r13 : List SOper := [
 o 64 (.fa 1 (t 3)),
 o 65 (.ld1 (t 64)),
 o 66 (.fa 0 (t 2)),
 o 67 (.fa 0 (t 66)),
 o 68 (.ld1 (t 67)),
 o 69 (.fa 2 (t 3)),
 o 70 (.ld1 (t 69)),
 o 71 (.ixs 3 (t 68) (t 70)),
 o 72 (.fa 0 (t 71)),
 o 73 (.ld1 (t 72)),
 o 74 (.ar .add (t 65) (t 73)),
 o 75 (.fa 3 (t 2)),
 o 76 (.fa 1 (t 75)),
 o 77 (.ld1 (t 76)),
 o 78 (.cmp .leq (t 74) (t 77)),
 o 4 (.mv (t 78))]
def f24r14 : List SOper := [
 o 80 (.cmp .eql (t 44) (i 33)),
 o 79 (.mv (t 80))]
def f24r15 : List SOper := [
 o 81 (.fa 1 (t 3)),
 o 82 (.ld1 (t 81)),
 o 83 (.fa 3 (t 3)),
 o 84 (.ld1 (t 83)),
 o 85 (.ar .add (t 82) (t 84)),
 o 86 (.fa 3 (t 2)),
 o 87 (.fa 1 (t 86)),
 o 88 (.ld1 (t 87)),
 o 89 (.cmp .leq (t 85) (t 88)),
 o 4 (.mv (t 89))]
def f24r16 : List SOper := [
 o 4 (.mv (b true))]
def f24 : SCode := (.seq (.ops f24r0) (.seq (.seq (.ops f24r1) (.cond (t 13) (.seq (.ops f24r2) .ret) .skip)) (.seq (.tree [14, 15, 16, 17, 5] f24t3) (.seq (.seq (.ops f24r4) (.cond (t 42) (.seq (.ops f24r5) .ret) .skip)) (.seq (.seq (.ops f24r6) (.block 0 (.seq (.ops f24r7) (.cond (t 45) (.seq (.ops f24r8) .ret) (.seq (.seq (.ops f24r9) (.cond (t 52) .skip (.ops f24r10))) (.cond (t 52) (.seq (.ops f24r11) .ret) (.seq (.ops f24r12) (.cond (t 62) (.seq (.ops f24r13) .ret) (.seq (.ops f24r14) (.cond (t 79) (.seq (.ops f24r15) .ret) .skip)))))))))) (.seq (.ops f24r16) .ret))))))
def f24_ent : Ent := .code 90 f24 [.t 4]
theorem f24_ok (oq : Nat → Value) (F : Nat → Prop) (h0 : Heap) : EntOK Tryz.prog oq F h0 24 f24_ent := ⟨soundD_of (fl := false) mixed Tryz.func24 rfl (by kernel_rfl) (by kernel_rfl) (by kernel_rfl), soundF_of (fl := false) mixed Tryz.func24 rfl (by kernel_rfl) (by kernel_rfl) (by kernel_rfl)⟩

/-! 29: (*tabor/machine.run).list -/
def f29r0 : List SOper := [
 o 4 (.new [(.int .i64 0), (.int .i64 0), (.string ⟨#[]⟩)])]
def f29r1 : List SOper := [
 o 10 (.mv (t 0)),
 o 11 (.nilck (t 10)),
 o 12 (.fa 3 (t 11)),
 o 13 (.ld1 (t 12)),
 o 14 (.call 43 [(t 13)]),
 o 9 (.mv (t 14)),
 o 15 (.ext (t 9) 0),
 o 16 (.ext (t 9) 1),
 o 5 (.new [(.int .i64 0), (.int .i64 0), (.string ⟨#[]⟩)]),
 q (.st 3 (t 5) (t 15)),
 o 6 (.mv (t 16))]
def f29r2 : List SOper := [
 o 17 (.mv (t 6)),
 o 18 (.call 34 [(t 17)])]
def f29r3 : List SOper := [
 o 19 (.mv (t 1)),
 o 20 (.len (t 19)),
 o 21 (.mv (i 0))]
def f29r4 : List SOper := [
 o 22 (.cmp .lss (t 21) (t 20))]
def f29r5 : List SOper := [
 o 23 (.mv (t 21)),
 o 24 (.ixs 1 (t 19) (t 21)),
 o 25 (.ld1 (t 24)),
 o 7 (.mv (t 23)),
 o 8 (.mv (t 25))]
def f29t6 : OTree := (.one (o 26 (.mv (t 0)))
 (.one (o 27 (.nilck (t 26)))
 (.one (o 28 (.fa 3 (t 27)))
 (.one (o 31 (.mv (t 7)))
 (.one (o 32 (.ar .add (t 31) (i 1)))
 (.one (o 34 (.mv (t 8)))
 (.one (o 29 (.ld1 (t 28)))
 (.one (o 30 (.ldn 3 (t 5)))
 (.one (o 33 (.call 45 [(t 32)]))
 (.chk [o 30 (.ldn 3 (t 5)), o 29 (.ld1 (t 28))] (.one (o 35 (.call 46 [(t 34)]))
 (.chk [o 30 (.ldn 3 (t 5)), o 29 (.ld1 (t 28))] (.one (o 36 (.call 44 [(t 29), (t 30), (t 33), (t 35)]))
 (.one (o 37 (.call 34 [(t 36)]))
 .done))))))))))))))
def f29r7 : List SOper := [
 o 38 (.ar .add (t 21) (i 1)),
 o 21 (.mv (t 38))]
def f29l8 : SCode := (.seq (.ops f29r4) (.seq (.cond (t 22) .skip (.exit 0)) (.seq (.block 1 (.seq (.ops f29r5) (.tree [26, 27, 28, 29, 30, 31, 32, 33, 34, 35, 36, 37] f29t6))) (.ops f29r7))))
def f29r9 : List SOper := [
 o 39 (.ldn 3 (t 5)),
 q (.st 3 (t 4) (t 39))]
def f29 : SCode := (.seq (.ops f29r0) (.seq (.ops f29r1) (.seq (.ops f29r2) (.seq (.seq (.ops f29r3) (.block 0 (.loop f29l8))) (.seq (.ops f29r9) .ret)))))
def f29_ent : Ent := .code 40 f29 [.cn 4 3]
theorem f29_ok (oq : Nat → Value) (F : Nat → Prop) (h0 : Heap) : EntOK Tryz.prog oq F h0 29 f29_ent := ⟨soundD_of (fl := false) mixed Tryz.func29 rfl (by kernel_rfl) (by kernel_rfl) (by kernel_rfl), soundF_of (fl := false) mixed Tryz.func29 rfl (by kernel_rfl) (by kernel_rfl) (by kernel_rfl)⟩

/-! 31: (*tabor/machine.run).enter -/
def f31r0 : List SOper := [
 o 10 (.mv (t 0)),
 o 11 (.nilck (t 10)),
 o 12 (.fa 14 (t 11)),
 o 13 (.ld1 (t 12)),
 o 14 (.len (t 13)),
 o 15 (.mv (t 0)),
 o 16 (.nilck (t 15)),
 o 17 (.fa 7 (t 16)),
 o 18 (.ld1 (t 17)),
 o 19 (.cmp .geq (t 14) (t 18))]
def f31r1 : List SOper := [
 o 20 (.build [(.string ⟨#[]⟩)] [(0, 1)] [(.const (.string ⟨#[69, 82, 82, 32, 100, 101, 112, 116, 104]⟩))]),
 o 21 (.mki 95 (t 20)),
 q (.pan (t 21))]
def f31r2 : List SOper := [
 o 22 (.mv (t 0)),
 o 23 (.nilck (t 22)),
 o 24 (.fa 0 (t 23)),
 o 25 (.fa 0 (t 24)),
 o 26 (.ld1 (t 25)),
 o 27 (.mv (t 1)),
 o 28 (.ixs 3 (t 26) (t 27)),
 o 29 (.ldn 3 (t 28)),
 o 8 (.new [(.int .i64 0), (.int .i64 0), (.slice none 0 0)]),
 q (.st 3 (t 8) (t 29))]
def f31t3 : OTree := (.one (o 30 (.ldn 3 (t 8)))
 (.one (o 31 (.fa 1 (t 8)))
 (.one (o 32 (.ld1 (t 31)))
 (.one (o 34 (.mv (t 2)))
 (.both (.one (o 33 (.mks 32 [(.int .i64 0), (.int .i64 0), (.string ⟨#[]⟩)] (t 32) (t 32)))
 (.one (o 35 (.build [(.int .i64 0), (.int .i64 0), (.slice none 0 0), (.slice none 0 0), (.int .i64 0), (.int .i64 0)] [(0, 3), (3, 1), (5, 1)] [(t 30), (t 33), (t 34)]))
 (.one (o 9 (.new [(.int .i64 0), (.int .i64 0), (.slice none 0 0), (.slice none 0 0), (.int .i64 0), (.int .i64 0)]))
 (.one (q (.st 6 (t 9) (t 35)))
 .done)))) (.one (o 9 (.new [(.int .i64 0), (.int .i64 0), (.slice none 0 0), (.slice none 0 0), (.int .i64 0), (.int .i64 0)]))
 (.one (o 33 (.mks 32 [(.int .i64 0), (.int .i64 0), (.string ⟨#[]⟩)] (t 32) (t 32)))
 (.one (o 35 (.build [(.int .i64 0), (.int .i64 0), (.slice none 0 0), (.slice none 0 0), (.int .i64 0), (.int .i64 0)] [(0, 3), (3, 1), (5, 1)] [(t 30), (t 33), (t 34)]))
 (.one (q (.st 6 (t 9) (t 35)))
 .done)))))))))
def f31r4 : List SOper := [
 o 36 (.fa 3 (t 9)),
 o 37 (.ld1 (t 36)),
 o 38 (.mv (t 3)),
 o 39 (.cpy 3 (t 37) (t 38))]
def f31r5 : List SOper := [
 o 40 (.mv (t 0)),
 o 41 (.mv (t 0)),
 o 42 (.nilck (t 41)),
 o 43 (.fa 14 (t 42)),
 o 44 (.ld1 (t 43)),
 o 45 (.ldn 6 (t 9)),
 o 46 (.bslice [(.int .i64 0), (.int .i64 0), (.slice none 0 0), (.slice none 0 0), (.int .i64 0), (.int .i64 0)] 1 [(0, 6)] [(t 45)]),
 o 47 (.app 6 80 [(.int .i64 0), (.int .i64 0), (.slice none 0 0), (.slice none 0 0), (.int .i64 0), (.int .i64 0)] (t 44) (t 46)),
 o 48 (.nilck (t 40)),
 o 49 (.fa 14 (t 48)),
 q (.st 1 (t 49) (t 47))]
def f31 : SCode := (.seq (.seq (.ops f31r0) (.cond (t 19) (.ops f31r1) .skip)) (.seq (.ops f31r2) (.seq (.tree [30, 31, 32, 33, 34, 35, 9] f31t3) (.seq (.ops f31r4) (.ops f31r5)))))
def f31_ent : Ent := .code 50 f31 []
theorem f31_ok (oq : Nat → Value) (F : Nat → Prop) (h0 : Heap) : EntOK Tryz.prog oq F h0 31 f31_ent := ⟨soundD_of (fl := false) mixed Tryz.func31 rfl (by kernel_rfl) (by kernel_rfl) (by kernel_rfl), soundF_of (fl := false) mixed Tryz.func31 rfl (by kernel_rfl) (by kernel_rfl) (by kernel_rfl)⟩

/-! 35: tabor/syntax.Parse -/
def f35r0 : List SOper := [
 o 2 (.new [(.int .i64 0), (.string ⟨#[]⟩), (.string ⟨#[]⟩), (.int .i64 0), (.slice none 0 0), (.slice none 0 0)]),
 o 3 (.new [(.int .i64 0)]),
 o 4 (.new [(.int .i64 0)])]
def f35r1 : List SOper := [
 o 8 (.mv (t 0)),
 o 9 (.call 65 [(t 8)]),
 o 7 (.mv (t 9)),
 o 10 (.ext (t 7) 0),
 o 11 (.ext (t 7) 1),
 o 12 (.ext (t 7) 2),
 o 5 (.mv (t 10)),
 q (.st 1 (t 3) (t 11)),
 q (.st 1 (t 4) (t 12))]
def f35r2 : List SOper := [
 o 13 (.ld1 (t 4)),
 o 14 (.cmp .neq (t 13) (i 0))]
def f35t3 : OTree := (.one (o 15 (.build [(.int .i64 0), (.string ⟨#[]⟩), (.string ⟨#[]⟩), (.int .i64 0), (.slice none 0 0), (.slice none 0 0)] [] []))
 (.one (o 16 (.ld1 (t 3)))
 (.one (o 17 (.ld1 (t 4)))
 (.one (q (.st 6 (t 2) (t 15)))
 (.chk [o 17 (.ld1 (t 4)), o 16 (.ld1 (t 3))] (.one (q (.st 1 (t 3) (t 16)))
 (.chk [o 17 (.ld1 (t 4))] (.one (q (.st 1 (t 4) (t 17)))
 .done))))))))
def f35r4 : List SOper := [
 o 18 (.fn 66 [] [(t 2), (t 3), (t 4)])]
def f35r5 : List SOper := [
 o 19 (.mv (t 5)),
 o 20 (.mv (t 0)),
 o 21 (.lens (t 20)),
 o 22 (.build [(.slice none 0 0), (.int .i64 0), (.int .i64 0), (.int .i64 0)] [(0, 1), (2, 1)] [(t 19), (t 21)]),
 o 23 (.box (t 22)),
 o 6 (.mv (t 23))]
def f35r6 : List SOper := [
 o 24 (.mv (t 6)),
 o 25 (.call 67 [(t 24)]),
 q (.st 6 (t 2) (t 25))]
def f35r7 : List SOper := [
 o 26 (.mv (t 6)),
 o 27 (.mv (t 6)),
 o 28 (.nilck (t 27)),
 o 29 (.fa 1 (t 28)),
 o 30 (.ld1 (t 29)),
 o 31 (.mv (t 6)),
 o 32 (.nilck (t 31)),
 o 33 (.fa 0 (t 32)),
 o 34 (.ld1 (t 33)),
 o 35 (.len (t 34)),
 o 36 (.cmp .eql (t 30) (t 35)),
 o 37 (.call 68 [(t 26), (t 36)])]
def f35r8 : List SOper := [
 o 38 (.ldn 6 (t 2)),
 o 39 (.call 69 [(t 38)]),
 o 40 (.cmp .neq (t 39) (i 0))]
def f35r9 : List SOper := [
 o 41 (.build [(.int .i64 0), (.string ⟨#[]⟩), (.string ⟨#[]⟩), (.int .i64 0), (.slice none 0 0), (.slice none 0 0)] [] []),
 q (.st 6 (t 2) (t 41)),
 q (.st 1 (t 3) (i 0)),
 q (.st 1 (t 4) (i 221))]
def f35r10 : List SOper := [
 o 42 (.ldn 6 (t 2)),
 q (.st 6 (t 2) (t 42)),
 q (.st 1 (t 3) (i 0)),
 q (.st 1 (t 4) (i 0))]
def f35 : SCode := (.seq (.ops f35r0) (.seq (.ops f35r1) (.seq (.seq (.ops f35r2) (.cond (t 14) (.seq (.tree [15, 16, 17] f35t3) .ret) .skip)) (.seq (.dfr f35r4 none (t 18) []) (.seq (.ops f35r5) (.seq (.ops f35r6) (.seq (.ops f35r7) (.seq (.seq (.ops f35r8) (.cond (t 40) (.seq (.ops f35r9) .ret) .skip)) (.seq (.ops f35r10) .ret)))))))))
def f35_ent : Ent := .code 43 f35 [.cn 2 6, .c1 3, .c1 4]
theorem f35_ok (oq : Nat → Value) (F : Nat → Prop) (h0 : Heap) : EntOK Tryz.prog oq F h0 35 f35_ent := ⟨soundD_of (fl := false) mixed Tryz.func35 rfl (by kernel_rfl) (by kernel_rfl) (by kernel_rfl), soundF_of (fl := false) mixed Tryz.func35 rfl (by kernel_rfl) (by kernel_rfl) (by kernel_rfl)⟩

/-! 36: tabor/compile.Tree -/
def f36r0 : List SOper := [
 o 1 (.box (t 0)),
 o 2 (.new [(.slice none 0 0), (.slice none 0 0), (.slice none 0 0)]),
 o 3 (.new [(.int .i64 0)])]
def f36r1 : List SOper := [
 o 12 (.ldn 6 (t 1)),
 o 13 (.call 70 [(t 12)]),
 o 11 (.mv (t 13)),
 o 14 (.ext (t 11) 0),
 o 15 (.ext (t 11) 1),
 o 16 (.ext (t 11) 2),
 o 4 (.new [(.int .i64 0), (.string ⟨#[]⟩), (.string ⟨#[]⟩), (.int .i64 0), (.slice none 0 0), (.slice none 0 0)]),
 q (.st 6 (t 4) (t 14)),
 o 5 (.mv (t 15)),
 q (.st 1 (t 3) (t 16))]
def f36r2 : List SOper := [
 o 17 (.ld1 (t 3)),
 o 18 (.cmp .neq (t 17) (i 0))]
def f36t3 : OTree := (.one (o 19 (.build [(.slice none 0 0), (.slice none 0 0), (.slice none 0 0)] [] []))
 (.one (o 20 (.ld1 (t 3)))
 (.one (q (.st 3 (t 2) (t 19)))
 (.chk [o 20 (.ld1 (t 3))] (.one (q (.st 1 (t 3) (t 20)))
 .done)))))
def f36r4 : List SOper := [
 o 21 (.fn 71 [] [(t 2), (t 3)])]
def f36r5 : List SOper := [
 o 22 (.mkm),
 o 23 (.ldn 6 (t 4)),
 q (.mup (.int .i64) (t 22) (i 0) (t 23)),
 o 24 (.mv (t 22)),
 o 6 (.new [(.map none)]),
 q (.st 1 (t 6) (t 24))]
def f36r6 : List SOper := [
 o 25 (.ldn 6 (t 4)),
 o 26 (.call 72 [(t 25)])]
def f36r7 : List SOper := [
 o 7 (.new [(.int .i64 0), (.string ⟨#[]⟩), (.string ⟨#[]⟩), (.int .i64 0), (.slice none 0 0), (.slice none 0 0)]),
 q (.st 6 (t 7) (t 27))]
def f36r8 : List SOper := [
 o 28 (.fa 0 (t 7)),
 o 29 (.ld1 (t 28)),
 o 30 (.cmp .eql (t 29) (i 9))]
def f36r9 : List SOper := [
 o 31 (.ld1 (t 6)),
 o 32 (.fa 3 (t 7)),
 o 33 (.ld1 (t 32)),
 o 34 (.fa 5 (t 7)),
 o 35 (.ld1 (t 34)),
 o 36 (.ixs 6 (t 35) (i 0)),
 o 37 (.ldn 6 (t 36)),
 q (.mup (.int .i64) (t 31) (t 33) (t 37))]
def f36a10 : SCode := (.ops f36r7)
def f36b10 : SCode := (.block 1 (.seq (.ops f36r8) (.cond (t 30) (.ops f36r9) .skip)))
def f36r11 : List SOper := [
 o 38 (.mkm),
 o 39 (.mkm),
 o 40 (.build [(.map none), (.map none), (.pointer none)] [(0, 1), (1, 1), (2, 1)] [(t 38), (t 39), (t 2)]),
 o 41 (.box (t 40)),
 o 8 (.mv (t 41))]
def f36r12 : List SOper := [
 o 42 (.mv (t 5)),
 o 43 (.len (t 42)),
 o 44 (.mv (i 0))]
def f36r13 : List SOper := [
 o 45 (.cmp .lss (t 44) (t 43))]
def f36r14 : List SOper := [
 o 46 (.mv (t 44)),
 o 47 (.ixs 3 (t 42) (t 44)),
 o 48 (.ldn 3 (t 47)),
 o 10 (.new [(.string ⟨#[]⟩), (.int .i64 0), (.int .i64 0)]),
 o 9 (.mv (t 46)),
 q (.st 3 (t 10) (t 48))]
def f36t15 : OTree := (.one (o 49 (.fa 0 (t 2)))
 (.one (o 51 (.mv (t 8)))
 (.one (o 52 (.ldn 3 (t 10)))
 (.one (o 53 (.ld1 (t 6)))
 (.one (o 54 (.mv (t 9)))
 (.one (o 55 (.look (.int .i64) (.agg #[(.int .i64 0), (.string ⟨#[]⟩), (.string ⟨#[]⟩), (.int .i64 0), (.slice none 0 0), (.slice none 0 0)]) false (t 53) (t 54)))
 (.one (o 50 (.ld1 (t 49)))
 (.one (o 56 (.call 73 [(t 51), (t 52), (t 55)]))
 (.chk [o 50 (.ld1 (t 49))] (.one (o 57 (.bslice [(.int .i64 0), (.int .i64 0), (.slice none 0 0)] 1 [(0, 3)] [(t 56)]))
 (.chk [o 50 (.ld1 (t 49))] (.one (o 58 (.app 3 40 [(.int .i64 0), (.int .i64 0), (.slice none 0 0)] (t 50) (t 57)))
 (.one (o 59 (.fa 0 (t 2)))
 (.one (q (.st 1 (t 59) (t 58)))
 .done))))))))))))))
def f36r16 : List SOper := [
 o 60 (.ar .add (t 44) (i 1)),
 o 44 (.mv (t 60))]
def f36l17 : SCode := (.seq (.ops f36r13) (.seq (.cond (t 45) .skip (.exit 2)) (.seq (.block 3 (.seq (.ops f36r14) (.tree [49, 50, 51, 52, 53, 54, 55, 56, 57, 58, 59] f36t15))) (.ops f36r16))))
def f36r18 : List SOper := [
 o 61 (.ldn 3 (t 2)),
 o 62 (.call 8 [(t 61)]),
 o 63 (.cmp .neq (t 62) (i 0))]
def f36r19 : List SOper := [
 o 64 (.build [(.slice none 0 0), (.slice none 0 0), (.slice none 0 0)] [] []),
 q (.st 3 (t 2) (t 64)),
 q (.st 1 (t 3) (i 3))]
def f36r20 : List SOper := [
 o 65 (.ldn 3 (t 2)),
 q (.st 3 (t 2) (t 65)),
 q (.st 1 (t 3) (i 0))]
def f36 : SCode := (.seq (.ops f36r0) (.seq (.ops f36r1) (.seq (.seq (.ops f36r2) (.cond (t 18) (.seq (.tree [19, 20] f36t3) .ret) .skip)) (.seq (.dfr f36r4 none (t 21) []) (.seq (.ops f36r5) (.seq (.seq (.ops f36r6) (.block 0 (.rangeF (t 26) [27] f36a10 f36b10))) (.seq (.ops f36r11) (.seq (.seq (.ops f36r12) (.block 2 (.loop f36l17))) (.seq (.seq (.ops f36r18) (.cond (t 63) (.seq (.ops f36r19) .ret) .skip)) (.seq (.ops f36r20) .ret))))))))))
def f36_ent : Ent := .code 66 f36 [.cn 2 3, .c1 3]
theorem f36_ok (oq : Nat → Value) (F : Nat → Prop) (h0 : Heap) : EntOK Tryz.prog oq F h0 36 f36_ent := ⟨soundD_of (fl := false) mixed Tryz.func36 rfl (by kernel_rfl) (by kernel_rfl) (by kernel_rfl), soundF_of (fl := false) mixed Tryz.func36 rfl (by kernel_rfl) (by kernel_rfl) (by kernel_rfl)⟩

/-! 47: (*tabor/machine.run).load -/
def f47r0 : List SOper := [
 o 3 (.box (t 1))]
def f47r1 : List SOper := [
 o 6 (.build [(.int .i64 0), (.int .i64 0), (.string ⟨#[]⟩)] [] []),
 o 4 (.new [(.int .i64 0), (.int .i64 0), (.string ⟨#[]⟩)]),
 q (.st 3 (t 4) (t 6))]
def f47r2 : List SOper := [
 o 7 (.fa 0 (t 3)),
 o 8 (.ld1 (t 7))]
def f47r3 : List SOper := [
 o 10 (.cmp .eql (t 8) (i 1)),
 o 9 (.mv (t 10))]
def f47r4 : List SOper := [
 o 11 (.fa 1 (t 3)),
 o 12 (.ld1 (t 11)),
 o 5 (.mv (t 12))]
def f47r5 : List SOper := [
 o 13 (.mv (t 5)),
 o 14 (.fa 2 (t 3)),
 o 15 (.ld1 (t 14)),
 o 16 (.cmp .leq (t 13) (t 15))]
def f47t6 : OTree := (.one (o 19 (.mv (t 0)))
 (.one (o 24 (.mv (t 5)))
 (.one (o 25 (.ldn 3 (t 4)))
 (.one (o 20 (.call 58 [(t 19)]))
 (.chk [o 25 (.ldn 3 (t 4))] (.one (o 21 (.nilck (t 20)))
 (.chk [o 25 (.ldn 3 (t 4))] (.one (o 22 (.fa 3 (t 21)))
 (.chk [o 25 (.ldn 3 (t 4))] (.one (o 23 (.ld1 (t 22)))
 (.chk [o 25 (.ldn 3 (t 4))] (.one (o 26 (.ixs 3 (t 23) (t 24)))
 (.chk [o 25 (.ldn 3 (t 4))] (.one (q (.st 3 (t 26) (t 25)))
 .done))))))))))))))
def f47r7 : List SOper := [
 o 17 (.mv (t 5)),
 o 18 (.ar .add (t 17) (i 1)),
 o 5 (.mv (t 18))]
def f47l8 : SCode := (.seq (.seq (.ops f47r5) (.cond (t 16) .skip (.exit 1))) (.seq (.block 2 (.tree [19, 20, 21, 22, 23, 24, 25, 26] f47t6)) (.ops f47r7)))
def f47r9 : List SOper := [
 o 28 (.cmp .eql (t 8) (i 2)),
 o 27 (.mv (t 28))]
def f47r10 : List SOper := [
 o 29 (.cmp .eql (t 8) (i 3)),
 o 27 (.mv (t 29))]
def f47r11 : List SOper := [
 o 30 (.fa 0 (t 3)),
 o 31 (.ld1 (t 30)),
 o 32 (.cmp .eql (t 31) (i 2)),
 o 33 (.call 89 [(t 32)]),
 q (.st 3 (t 4) (t 33))]
def f47r12 : List SOper := [
 o 35 (.cmp .eql (t 8) (i 4)),
 o 34 (.mv (t 35))]
def f47r13 : List SOper := [
 o 36 (.mv (t 0)),
 o 37 (.nilck (t 36)),
 o 38 (.fa 0 (t 37)),
 o 39 (.fa 1 (t 38)),
 o 40 (.ld1 (t 39)),
 o 41 (.fa 2 (t 3)),
 o 42 (.ld1 (t 41)),
 o 43 (.ixs 1 (t 40) (t 42)),
 o 44 (.ld1 (t 43)),
 o 45 (.call 45 [(t 44)]),
 q (.st 3 (t 4) (t 45))]
def f47r14 : List SOper := [
 o 47 (.cmp .eql (t 8) (i 5)),
 o 46 (.mv (t 47))]
def f47r15 : List SOper := [
 o 48 (.mv (t 0)),
 o 49 (.nilck (t 48)),
 o 50 (.fa 0 (t 49)),
 o 51 (.fa 2 (t 50)),
 o 52 (.ld1 (t 51)),
 o 53 (.fa 2 (t 3)),
 o 54 (.ld1 (t 53)),
 o 55 (.ixs 1 (t 52) (t 54)),
 o 56 (.ld1 (t 55)),
 o 57 (.call 46 [(t 56)]),
 q (.st 3 (t 4) (t 57))]
def f47r16 : List SOper := [
 o 59 (.cmp .eql (t 8) (i 6)),
 o 58 (.mv (t 59))]
def f47r17 : List SOper := [
 o 60 (.mv (t 0)),
 o 61 (.fa 2 (t 3)),
 o 62 (.ld1 (t 61)),
 o 63 (.call 90 [(t 60), (t 62)]),
 q (.st 3 (t 4) (t 63))]
def f47r18 : List SOper := [
 o 65 (.cmp .eql (t 8) (i 7)),
 o 64 (.mv (t 65))]
def f47r19 : List SOper := [
 o 66 (.mv (t 0)),
 o 67 (.nilck (t 66)),
 o 68 (.fa 8 (t 67)),
 o 69 (.ldn 3 (t 68)),
 q (.st 3 (t 4) (t 69))]
def f47r20 : List SOper := [
 o 71 (.cmp .eql (t 8) (i 8)),
 o 70 (.mv (t 71))]
def f47r21 : List SOper := [
 o 72 (.mv (t 0)),
 o 73 (.nilck (t 72)),
 o 74 (.fa 11 (t 73)),
 o 75 (.ldn 3 (t 74)),
 q (.st 3 (t 4) (t 75))]
def f47r22 : List SOper := [
 o 76 (.mv (t 0)),
 o 77 (.ldn 4 (t 3)),
 o 78 (.ldn 3 (t 4)),
 o 79 (.call 91 [(t 76), (t 77), (t 78), e])]
def f47 : SCode := (.seq (.ops f47r0) (.seq (.ops f47r1) (.seq (.seq (.ops f47r2) (.block 0 (.seq (.ops f47r3) (.cond (t 9) (.seq (.seq (.ops f47r4) (.block 1 (.loop f47l8))) .ret) (.seq (.seq (.ops f47r9) (.cond (t 27) .skip (.ops f47r10))) (.cond (t 27) (.ops f47r11) (.seq (.ops f47r12) (.cond (t 34) (.ops f47r13) (.seq (.ops f47r14) (.cond (t 46) (.ops f47r15) (.seq (.ops f47r16) (.cond (t 58) (.ops f47r17) (.seq (.ops f47r18) (.cond (t 64) (.ops f47r19) (.seq (.ops f47r20) (.cond (t 70) (.ops f47r21) .skip)))))))))))))))) (.ops f47r22))))
def f47_ent : Ent := .code 80 f47 []
theorem f47_ok (oq : Nat → Value) (F : Nat → Prop) (h0 : Heap) : EntOK Tryz.prog oq F h0 47 f47_ent := ⟨soundD_of (fl := false) mixed Tryz.func47 rfl (by kernel_rfl) (by kernel_rfl) (by kernel_rfl), soundF_of (fl := false) mixed Tryz.func47 rfl (by kernel_rfl) (by kernel_rfl) (by kernel_rfl)⟩

/-! 56: (*tabor/machine.run).op -/
def f56r0 : List SOper := [
 o 3 (.box (t 1))]
def f56t1 : OTree := (.one (o 7 (.mv (t 0)))
 (.one (o 8 (.nilck (t 7)))
 (.one (o 9 (.fa 3 (t 8)))
 (.one (o 12 (.fa 0 (t 3)))
 (.one (o 16 (.mv (t 0)))
 (.one (o 17 (.fa 2 (t 3)))
 (.one (o 20 (.mv (t 0)))
 (.one (o 21 (.fa 3 (t 3)))
 (.one (o 10 (.ld1 (t 9)))
 (.one (o 13 (.ld1 (t 12)))
 (.one (o 14 (.ar .sub (t 13) (i 12)))
 (.chk [o 13 (.ld1 (t 12)), o 10 (.ld1 (t 9))] (.one (o 18 (.ld1 (t 17)))
 (.one (o 22 (.ld1 (t 21)))
 (.both (.one (o 11 (.call 103 []))
 (.chk [o 22 (.ld1 (t 21)), o 18 (.ld1 (t 17)), o 13 (.ld1 (t 12)), o 10 (.ld1 (t 9))] (.one (o 15 (.ixv 12 1 (t 11) (t 14)))
 (.chk [o 22 (.ld1 (t 21)), o 18 (.ld1 (t 17)), o 13 (.ld1 (t 12)), o 10 (.ld1 (t 9))] (.both (.one (o 19 (.call 90 [(t 16), (t 18)]))
 (.chk [o 22 (.ld1 (t 21)), o 13 (.ld1 (t 12)), o 10 (.ld1 (t 9))] (.both (.one (o 23 (.call 90 [(t 20), (t 22)]))
 (.chk [o 13 (.ld1 (t 12)), o 10 (.ld1 (t 9))] (.both (.one (o 24 (.call 102 [(t 10), (t 15), (t 19), (t 23)]))
 (.one (o 6 (.mv (t 24)))
 (.one (o 25 (.ext (t 6) 0))
 (.one (o 26 (.ext (t 6) 1))
 (.one (o 4 (.new [(.int .i64 0), (.int .i64 0), (.string ⟨#[]⟩)]))
 (.one (q (.st 3 (t 4) (t 25)))
 (.one (o 5 (.mv (t 26)))
 .done))))))) (.one (o 4 (.new [(.int .i64 0), (.int .i64 0), (.string ⟨#[]⟩)]))
 (.chk [o 13 (.ld1 (t 12)), o 10 (.ld1 (t 9))] (.one (o 24 (.call 102 [(t 10), (t 15), (t 19), (t 23)]))
 (.one (o 6 (.mv (t 24)))
 (.one (o 25 (.ext (t 6) 0))
 (.one (o 26 (.ext (t 6) 1))
 (.one (q (.st 3 (t 4) (t 25)))
 (.one (o 5 (.mv (t 26)))
 .done))))))))))) (.one (o 4 (.new [(.int .i64 0), (.int .i64 0), (.string ⟨#[]⟩)]))
 (.chk [o 22 (.ld1 (t 21)), o 13 (.ld1 (t 12)), o 10 (.ld1 (t 9))] (.one (o 23 (.call 90 [(t 20), (t 22)]))
 (.chk [o 13 (.ld1 (t 12)), o 10 (.ld1 (t 9))] (.one (o 24 (.call 102 [(t 10), (t 15), (t 19), (t 23)]))
 (.one (o 6 (.mv (t 24)))
 (.one (o 25 (.ext (t 6) 0))
 (.one (o 26 (.ext (t 6) 1))
 (.one (q (.st 3 (t 4) (t 25)))
 (.one (o 5 (.mv (t 26)))
 .done))))))))))))) (.one (o 4 (.new [(.int .i64 0), (.int .i64 0), (.string ⟨#[]⟩)]))
 (.chk [o 22 (.ld1 (t 21)), o 18 (.ld1 (t 17)), o 13 (.ld1 (t 12)), o 10 (.ld1 (t 9))] (.one (o 19 (.call 90 [(t 16), (t 18)]))
 (.chk [o 22 (.ld1 (t 21)), o 13 (.ld1 (t 12)), o 10 (.ld1 (t 9))] (.one (o 23 (.call 90 [(t 20), (t 22)]))
 (.chk [o 13 (.ld1 (t 12)), o 10 (.ld1 (t 9))] (.one (o 24 (.call 102 [(t 10), (t 15), (t 19), (t 23)]))
 (.one (o 6 (.mv (t 24)))
 (.one (o 25 (.ext (t 6) 0))
 (.one (o 26 (.ext (t 6) 1))
 (.one (q (.st 3 (t 4) (t 25)))
 (.one (o 5 (.mv (t 26)))
 .done))))))))))))))))) (.one (o 4 (.new [(.int .i64 0), (.int .i64 0), (.string ⟨#[]⟩)]))
 (.chk [o 22 (.ld1 (t 21)), o 18 (.ld1 (t 17)), o 13 (.ld1 (t 12)), o 10 (.ld1 (t 9))] (.one (o 11 (.call 103 []))
 (.chk [o 22 (.ld1 (t 21)), o 18 (.ld1 (t 17)), o 13 (.ld1 (t 12)), o 10 (.ld1 (t 9))] (.one (o 15 (.ixv 12 1 (t 11) (t 14)))
 (.chk [o 22 (.ld1 (t 21)), o 18 (.ld1 (t 17)), o 13 (.ld1 (t 12)), o 10 (.ld1 (t 9))] (.one (o 19 (.call 90 [(t 16), (t 18)]))
 (.chk [o 22 (.ld1 (t 21)), o 13 (.ld1 (t 12)), o 10 (.ld1 (t 9))] (.one (o 23 (.call 90 [(t 20), (t 22)]))
 (.chk [o 13 (.ld1 (t 12)), o 10 (.ld1 (t 9))] (.one (o 24 (.call 102 [(t 10), (t 15), (t 19), (t 23)]))
 (.one (o 6 (.mv (t 24)))
 (.one (o 25 (.ext (t 6) 0))
 (.one (o 26 (.ext (t 6) 1))
 (.one (q (.st 3 (t 4) (t 25)))
 (.one (o 5 (.mv (t 26)))
 .done)))))))))))))))))))))))))))))))
def f56r2 : List SOper := [
 o 27 (.mv (t 0)),
 o 28 (.ldn 4 (t 3)),
 o 29 (.ldn 3 (t 4)),
 o 30 (.mv (t 5)),
 o 31 (.call 91 [(t 27), (t 28), (t 29), (t 30)])]
def f56 : SCode := (.seq (.ops f56r0) (.seq (.tree [7, 8, 9, 10, 11, 12, 13, 14, 15, 16, 17, 18, 19, 20, 21, 22, 23, 24, 6, 25, 26, 4, 5] f56t1) (.ops f56r2)))
def f56_ent : Ent := .code 32 f56 []
theorem f56_ok (oq : Nat → Value) (F : Nat → Prop) (h0 : Heap) : EntOK Tryz.prog oq F h0 56 f56_ent := ⟨soundD_of (fl := false) mixed Tryz.func56 rfl (by kernel_rfl) (by kernel_rfl) (by kernel_rfl), soundF_of (fl := false) mixed Tryz.func56 rfl (by kernel_rfl) (by kernel_rfl) (by kernel_rfl)⟩

/-! 65: tabor/words.Lex -/
def f65r0 : List SOper := [
 o 2 (.new [(.slice none 0 0)]),
 o 3 (.new [(.int .i64 0)]),
 o 4 (.new [(.int .i64 0)])]
def f65r1 : List SOper := [
 o 8 (.mv (t 0)),
 o 9 (.lens (t 8)),
 o 10 (.cmp .gtr (t 9) (i 1048576))]
def f65r2 : List SOper := [
 q (.st 1 (t 2) (.const (.slice none 0 0))),
 q (.st 1 (t 3) (i 0)),
 q (.st 1 (t 4) (i 3))]
def f65r3 : List SOper := [
 o 5 (.new [(.slice none 0 0)])]
def f65r4 : List SOper := [
 o 11 (.mv (t 0)),
 o 12 (.call 111 [(t 11)])]
def f65r5 : List SOper := [
 o 6 (.new [(.int .i64 0), (.string ⟨#[]⟩), (.int .i64 0), (.int .i64 0)]),
 q (.st 4 (t 6) (t 13))]
def f65r6 : List SOper := [
 o 7 (.mv (t 14))]
def f65r7 : List SOper := [
 o 15 (.mv (t 7)),
 o 16 (.cmp .eql (t 15) (i 0))]
def f65t8 : OTree := (.one (o 17 (.fa 3 (t 6)))
 (.one (o 18 (.ld1 (t 17)))
 (.one (q (.st 1 (t 2) (.const (.slice none 0 0))))
 (.chk [o 18 (.ld1 (t 17))] (.one (q (.st 1 (t 3) (t 18)))
 (.one (q (.st 1 (t 4) (i 210)))
 .done))))))
def f65r9 : List SOper := [
 o 19 (.ld1 (t 5)),
 o 20 (.ldn 4 (t 6)),
 o 21 (.bslice [(.int .i64 0), (.string ⟨#[]⟩), (.int .i64 0), (.int .i64 0)] 1 [(0, 4)] [(t 20)]),
 o 22 (.app 4 40 [(.int .i64 0), (.string ⟨#[]⟩), (.int .i64 0), (.int .i64 0)] (t 19) (t 21)),
 q (.st 1 (t 5) (t 22))]
def f65a10 : SCode := (.seq (.ops f65r5) (.ops f65r6))
def f65b10 : SCode := (.block 1 (.seq (.seq (.ops f65r7) (.cond (t 16) (.seq (.tree [17, 18] f65t8) .ret) .skip)) (.ops f65r9)))
def f65r11 : List SOper := [
 o 23 (.ld1 (t 5)),
 q (.st 1 (t 2) (t 23)),
 q (.st 1 (t 3) (i 0)),
 q (.st 1 (t 4) (i 0))]
def f65 : SCode := (.seq (.ops f65r0) (.seq (.seq (.ops f65r1) (.cond (t 10) (.seq (.ops f65r2) .ret) .skip)) (.seq (.ops f65r3) (.seq (.seq (.ops f65r4) (.block 0 (.rangeF (t 12) [13, 14] f65a10 f65b10))) (.seq (.ops f65r11) .ret)))))
def f65_ent : Ent := .code 24 f65 [.c1 2, .c1 3, .c1 4]
theorem f65_ok (oq : Nat → Value) (F : Nat → Prop) (h0 : Heap) : EntOK Tryz.prog oq F h0 65 f65_ent := ⟨soundD_of (fl := false) mixed Tryz.func65 rfl (by kernel_rfl) (by kernel_rfl) (by kernel_rfl), soundF_of (fl := false) mixed Tryz.func65 rfl (by kernel_rfl) (by kernel_rfl) (by kernel_rfl)⟩

/-! 66: tabor/syntax.Parse$1 -/
def f66r0 : List SOper := [
 o 8 (.eqn 4 false (t 6))]
def f66r1 : List SOper := [
 o 3 (.mv (t 6))]
def f66r2 : List SOper := [
 o 9 (.tas 157 (.agg #[(.int .i64 0), (.int .i64 0)]) true (t 6)),
 o 10 (.ext (t 9) 1),
 o 11 (.ext (t 9) 0)]
def f66r3 : List SOper := [
 o 4 (.new [(.int .i64 0), (.int .i64 0)]),
 q (.st 2 (t 4) (t 11))]
def f66t4 : OTree := (.one (o 12 (.build [(.int .i64 0), (.string ⟨#[]⟩), (.string ⟨#[]⟩), (.int .i64 0), (.slice none 0 0), (.slice none 0 0)] [] []))
 (.one (o 13 (.fa 0 (t 4)))
 (.one (o 15 (.fa 1 (t 4)))
 (.one (o 14 (.ld1 (t 13)))
 (.one (o 16 (.ld1 (t 15)))
 (.one (q (.st 6 (t 0) (t 12)))
 (.chk [o 16 (.ld1 (t 15)), o 14 (.ld1 (t 13))] (.one (q (.st 1 (t 1) (t 14)))
 (.chk [o 16 (.ld1 (t 15))] (.one (q (.st 1 (t 2) (t 16)))
 .done))))))))))
def f66r5 : List SOper := [
 o 5 (.mv (t 6))]
def f66r6 : List SOper := [
 o 7 (.mv (t 5)),
 q (.pan (t 7))]
def f66 : SCode := (.seq (.rcv (some 6)) (.block 0 (.seq (.ops f66r0) (.cond (t 8) (.ops f66r1) (.seq (.ops f66r2) (.cond (t 10) (.seq (.ops f66r3) (.tree [12, 13, 14, 15, 16] f66t4)) (.seq (.ops f66r5) (.ops f66r6))))))))
def f66_ent : Ent := .code 17 f66 []
theorem f66_ok (oq : Nat → Value) (F : Nat → Prop) (h0 : Heap) : EntOK Tryz.prog oq F h0 66 f66_ent := ⟨soundD_of (fl := false) mixed Tryz.func66 rfl (by kernel_rfl) (by kernel_rfl) (by kernel_rfl), soundF_of (fl := false) mixed Tryz.func66 rfl (by kernel_rfl) (by kernel_rfl) (by kernel_rfl)⟩

/-! 70: tabor/scopes.Resolve -/
def f70r0 : List SOper := [
 o 1 (.box (t 0)),
 o 2 (.new [(.int .i64 0), (.string ⟨#[]⟩), (.string ⟨#[]⟩), (.int .i64 0), (.slice none 0 0), (.slice none 0 0)]),
 o 3 (.new [(.slice none 0 0)]),
 o 4 (.new [(.int .i64 0)])]
def f70r1 : List SOper := [
 o 6 (.ldn 6 (t 1)),
 o 7 (.call 69 [(t 6)]),
 o 8 (.cmp .neq (t 7) (i 0))]
def f70r2 : List SOper := [
 o 9 (.build [(.int .i64 0), (.string ⟨#[]⟩), (.string ⟨#[]⟩), (.int .i64 0), (.slice none 0 0), (.slice none 0 0)] [] []),
 q (.st 6 (t 2) (t 9)),
 q (.st 1 (t 3) (.const (.slice none 0 0))),
 q (.st 1 (t 4) (i 2))]
def f70r3 : List SOper := [
 o 10 (.fn 118 [] [(t 2), (t 3), (t 4)])]
def f70r4 : List SOper := [
 o 11 (.build [(.string ⟨#[]⟩), (.int .i64 0), (.int .i64 0)] [] []),
 o 12 (.bslice [(.string ⟨#[]⟩), (.int .i64 0), (.int .i64 0)] 1 [(0, 3)] [(t 11)]),
 o 13 (.build [(.slice none 0 0), (.slice none 0 0), (.int .i64 0), (.int .i64 0), (.slice none 0 0)] [(4, 1)] [(t 12)]),
 o 14 (.box (t 13)),
 o 5 (.mv (t 14))]
def f70r5 : List SOper := [
 o 15 (.mv (t 5)),
 o 16 (.ldn 6 (t 1)),
 o 17 (.call 119 [(t 15), (t 16)]),
 q (.st 6 (t 2) (t 17))]
def f70t6 : OTree := (.one (o 18 (.ldn 6 (t 2)))
 (.one (o 19 (.mv (t 5)))
 (.one (o 20 (.nilck (t 19)))
 (.one (o 21 (.fa 4 (t 20)))
 (.one (o 22 (.ld1 (t 21)))
 (.one (q (.st 6 (t 2) (t 18)))
 (.chk [o 22 (.ld1 (t 21))] (.one (q (.st 1 (t 3) (t 22)))
 (.one (q (.st 1 (t 4) (i 0)))
 .done)))))))))
def f70 : SCode := (.seq (.ops f70r0) (.seq (.seq (.ops f70r1) (.cond (t 8) (.seq (.ops f70r2) .ret) .skip)) (.seq (.dfr f70r3 none (t 10) []) (.seq (.ops f70r4) (.seq (.ops f70r5) (.seq (.tree [18, 19, 20, 21, 22] f70t6) .ret))))))
def f70_ent : Ent := .code 23 f70 [.cn 2 6, .c1 3, .c1 4]
theorem f70_ok (oq : Nat → Value) (F : Nat → Prop) (h0 : Heap) : EntOK Tryz.prog oq F h0 70 f70_ent := ⟨soundD_of (fl := false) mixed Tryz.func70 rfl (by kernel_rfl) (by kernel_rfl) (by kernel_rfl), soundF_of (fl := false) mixed Tryz.func70 rfl (by kernel_rfl) (by kernel_rfl) (by kernel_rfl)⟩

/-! 71: tabor/compile.Tree$1 -/
def f71r0 : List SOper := [
 o 7 (.eqn 4 false (t 5))]
def f71r1 : List SOper := [
 o 2 (.mv (t 5))]
def f71r2 : List SOper := [
 o 8 (.tas 168 (.agg #[(.int .i64 0)]) true (t 5)),
 o 9 (.ext (t 8) 1),
 o 10 (.ext (t 8) 0)]
def f71r3 : List SOper := [
 o 3 (.new [(.int .i64 0)]),
 q (.st 1 (t 3) (t 10))]
def f71t4 : OTree := (.one (o 11 (.build [(.slice none 0 0), (.slice none 0 0), (.slice none 0 0)] [] []))
 (.one (o 12 (.fa 0 (t 3)))
 (.one (o 13 (.ld1 (t 12)))
 (.one (q (.st 3 (t 0) (t 11)))
 (.chk [o 13 (.ld1 (t 12))] (.one (q (.st 1 (t 1) (t 13)))
 .done))))))
def f71r5 : List SOper := [
 o 4 (.mv (t 5))]
def f71r6 : List SOper := [
 o 6 (.mv (t 4)),
 q (.pan (t 6))]
def f71 : SCode := (.seq (.rcv (some 5)) (.block 0 (.seq (.ops f71r0) (.cond (t 7) (.ops f71r1) (.seq (.ops f71r2) (.cond (t 9) (.seq (.ops f71r3) (.tree [11, 12, 13] f71t4)) (.seq (.ops f71r5) (.ops f71r6))))))))
def f71_ent : Ent := .code 14 f71 []
theorem f71_ok (oq : Nat → Value) (F : Nat → Prop) (h0 : Heap) : EntOK Tryz.prog oq F h0 71 f71_ent := ⟨soundD_of (fl := false) mixed Tryz.func71 rfl (by kernel_rfl) (by kernel_rfl) (by kernel_rfl), soundF_of (fl := false) mixed Tryz.func71 rfl (by kernel_rfl) (by kernel_rfl) (by kernel_rfl)⟩

/-! 85: tabor/values.Check -/
def f85r0 : List SOper := [
 o 1 (.box (t 0)),
 o 2 (.mv (b false))]
def f85r1 : List SOper := [
 o 3 (.fa 0 (t 1)),
 o 4 (.ld1 (t 3))]
def f85r2 : List SOper := [
 o 6 (.cmp .eql (t 4) (i 0)),
 o 5 (.mv (t 6))]
def f85r3 : List SOper := [
 o 7 (.ldn 3 (t 1)),
 o 8 (.build [(.int .i64 0), (.int .i64 0), (.string ⟨#[]⟩)] [] []),
 o 9 (.eqa false [(.int .i64), (.int .i64), .str] (t 7) (t 8)),
 o 2 (.mv (t 9))]
def f85r4 : List SOper := [
 o 11 (.cmp .eql (t 4) (i 1)),
 o 10 (.mv (t 11))]
def f85r5 : List SOper := [
 o 12 (.fa 2 (t 1)),
 o 13 (.ld1 (t 12)),
 o 14 (.cmp .eql (t 13) e),
 o 15 (.mv (t 14)),
 g 16 15 (.fa 1 (t 1)),
 g 17 15 (.ld1 (t 16)),
 g 18 15 (.cmp .eql (t 17) (i 0)),
 g 19 15 (.mv (t 18)),
 n 20 19 (.fa 1 (t 1)),
 n 21 19 (.ld1 (t 20)),
 n 22 19 (.cmp .eql (t 21) (i 1)),
 g 23 15 (.pick (t 19) (b true) (t 22)),
 o 24 (.pick (t 15) (t 23) (b false)),
 o 2 (.mv (t 24))]
def f85r6 : List SOper := [
 o 26 (.cmp .eql (t 4) (i 2)),
 o 25 (.mv (t 26))]
def f85r7 : List SOper := [
 o 27 (.fa 2 (t 1)),
 o 28 (.ld1 (t 27)),
 o 29 (.cmp .eql (t 28) e),
 o 2 (.mv (t 29))]
def f85r8 : List SOper := [
 o 31 (.cmp .eql (t 4) (i 3)),
 o 30 (.mv (t 31))]
def f85r9 : List SOper := [
 o 32 (.fa 1 (t 1)),
 o 33 (.ld1 (t 32)),
 o 34 (.cmp .eql (t 33) (i 0)),
 o 35 (.mv (t 34)),
 g 36 35 (.fa 2 (t 1)),
 g 37 35 (.ld1 (t 36)),
 g 38 35 (.lens (t 37)),
 g 39 35 (.cmp .leq (t 38) (i 1048576)),
 o 40 (.pick (t 35) (t 39) (b false)),
 o 2 (.mv (t 40))]
def f85r10 : List SOper := [
 o 42 (.cmp .eql (t 4) (i 4)),
 o 41 (.mv (t 42))]
def f85r11 : List SOper := [
 o 43 (.fa 2 (t 1)),
 o 44 (.ld1 (t 43)),
 o 45 (.cmp .eql (t 44) e),
 o 46 (.mv (t 45)),
 g 47 46 (.fa 1 (t 1)),
 g 48 46 (.ld1 (t 47)),
 g 49 46 (.cmp .geq (t 48) (i 0)),
 o 50 (.pick (t 46) (t 49) (b false)),
 o 2 (.mv (t 50))]
def f85r12 : List SOper := [
 o 2 (.mv (b false))]
def f85 : SCode := (.seq (.ops f85r0) (.seq (.seq (.ops f85r1) (.block 0 (.seq (.ops f85r2) (.cond (t 5) (.seq (.ops f85r3) .ret) (.seq (.ops f85r4) (.cond (t 10) (.seq (.ops f85r5) .ret) (.seq (.ops f85r6) (.cond (t 25) (.seq (.ops f85r7) .ret) (.seq (.ops f85r8) (.cond (t 30) (.seq (.ops f85r9) .ret) (.seq (.ops f85r10) (.cond (t 41) (.seq (.ops f85r11) .ret) .skip)))))))))))) (.seq (.ops f85r12) .ret)))
def f85_ent : Ent := .code 51 f85 [.t 2]
theorem f85_ok (oq : Nat → Value) (F : Nat → Prop) (h0 : Heap) : EntOK Tryz.prog oq F h0 85 f85_ent := ⟨soundD_of (fl := false) mixed Tryz.func85 rfl (by kernel_rfl) (by kernel_rfl) (by kernel_rfl), soundF_of (fl := false) mixed Tryz.func85 rfl (by kernel_rfl) (by kernel_rfl) (by kernel_rfl)⟩

/-! 91: (*tabor/machine.run).set -/
def f91r0 : List SOper := [
 o 5 (.box (t 1)),
 o 6 (.box (t 2))]
def f91r1 : List SOper := [
 o 8 (.mv (t 3)),
 o 9 (.call 34 [(t 8)])]
def f91t2 : OTree := (.one (o 10 (.mv (t 0)))
 (.one (o 15 (.fa 1 (t 5)))
 (.one (o 16 (.ld1 (t 15)))
 (.one (o 17 (.ldn 3 (t 6)))
 (.one (o 11 (.call 58 [(t 10)]))
 (.chk [o 17 (.ldn 3 (t 6)), o 16 (.ld1 (t 15))] (.one (o 12 (.nilck (t 11)))
 (.chk [o 17 (.ldn 3 (t 6)), o 16 (.ld1 (t 15))] (.one (o 13 (.fa 3 (t 12)))
 (.chk [o 17 (.ldn 3 (t 6)), o 16 (.ld1 (t 15))] (.one (o 14 (.ld1 (t 13)))
 (.chk [o 17 (.ldn 3 (t 6)), o 16 (.ld1 (t 15))] (.one (o 18 (.ixs 3 (t 14) (t 16)))
 (.chk [o 17 (.ldn 3 (t 6)), o 16 (.ld1 (t 15))] (.one (q (.st 3 (t 18) (t 17)))
 .done)))))))))))))))
def f91 : SCode := (.seq (.ops f91r0) (.seq (.ops f91r1) (.tree [10, 11, 12, 13, 14, 15, 16, 17, 18] f91t2)))
def f91_ent : Ent := .code 19 f91 []
theorem f91_ok (oq : Nat → Value) (F : Nat → Prop) (h0 : Heap) : EntOK Tryz.prog oq F h0 91 f91_ent := ⟨soundD_of (fl := false) mixed Tryz.func91 rfl (by kernel_rfl) (by kernel_rfl) (by kernel_rfl), soundF_of (fl := false) mixed Tryz.func91 rfl (by kernel_rfl) (by kernel_rfl) (by kernel_rfl)⟩

/-! 101: (*tabor/machine.run).leave -/
def f101r0 : List SOper := [
 o 3 (.box (t 1))]
def f101r1 : List SOper := [
 o 5 (.mv (t 0)),
 o 6 (.call 58 [(t 5)]),
 o 7 (.nilck (t 6)),
 o 8 (.fa 5 (t 7)),
 o 9 (.ld1 (t 8)),
 o 4 (.mv (t 9))]
def f101r2 : List SOper := [
 o 10 (.mv (t 0)),
 o 11 (.mv (t 0)),
 o 12 (.nilck (t 11)),
 o 13 (.fa 14 (t 12)),
 o 14 (.ld1 (t 13)),
 o 15 (.mv (t 0)),
 o 16 (.nilck (t 15)),
 o 17 (.fa 14 (t 16)),
 o 18 (.ld1 (t 17)),
 o 19 (.len (t 18)),
 o 20 (.ar .sub (t 19) (i 1)),
 o 21 (.slc 6 (t 14) none (some (t 20))),
 o 22 (.nilck (t 10)),
 o 23 (.fa 14 (t 22)),
 q (.st 1 (t 23) (t 21))]
def f101r3 : List SOper := [
 o 24 (.mv (t 0)),
 o 25 (.nilck (t 24)),
 o 26 (.fa 14 (t 25)),
 o 27 (.ld1 (t 26)),
 o 28 (.len (t 27)),
 o 29 (.cmp .eql (t 28) (i 0))]
def f101r4 : List SOper := [
 o 30 (.mv (t 0)),
 o 31 (.ldn 3 (t 3)),
 o 32 (.nilck (t 30)),
 o 33 (.fa 16 (t 32)),
 q (.st 3 (t 33) (t 31))]
def f101t5 : OTree := (.one (o 34 (.mv (t 0)))
 (.one (o 39 (.mv (t 4)))
 (.one (o 40 (.ldn 3 (t 3)))
 (.one (o 35 (.call 58 [(t 34)]))
 (.chk [o 40 (.ldn 3 (t 3))] (.one (o 36 (.nilck (t 35)))
 (.chk [o 40 (.ldn 3 (t 3))] (.one (o 37 (.fa 3 (t 36)))
 (.chk [o 40 (.ldn 3 (t 3))] (.one (o 38 (.ld1 (t 37)))
 (.chk [o 40 (.ldn 3 (t 3))] (.one (o 41 (.ixs 3 (t 38) (t 39)))
 (.chk [o 40 (.ldn 3 (t 3))] (.one (q (.st 3 (t 41) (t 40)))
 .done))))))))))))))
def f101 : SCode := (.seq (.ops f101r0) (.seq (.ops f101r1) (.seq (.ops f101r2) (.seq (.seq (.ops f101r3) (.cond (t 29) (.seq (.ops f101r4) .ret) .skip)) (.tree [34, 35, 36, 37, 38, 39, 40, 41] f101t5)))))
def f101_ent : Ent := .code 42 f101 []
theorem f101_ok (oq : Nat → Value) (F : Nat → Prop) (h0 : Heap) : EntOK Tryz.prog oq F h0 101 f101_ent := ⟨soundD_of (fl := false) mixed Tryz.func101 rfl (by kernel_rfl) (by kernel_rfl) (by kernel_rfl), soundF_of (fl := false) mixed Tryz.func101 rfl (by kernel_rfl) (by kernel_rfl) (by kernel_rfl)⟩

/-! 113: (*tabor/syntax.reader).statement -/
def f113r0 : List SOper := [
 o 2 (.new [(.int .i64 0), (.string ⟨#[]⟩), (.string ⟨#[]⟩), (.int .i64 0), (.slice none 0 0), (.slice none 0 0)])]
def f113r1 : List SOper := [
 o 8 (.mv (t 0)),
 o 9 (.call 114 [(t 8), (.const (.string ⟨#[108, 111, 99, 97, 108]⟩))]),
 o 7 (.mv (t 9))]
def f113r2 : List SOper := [
 o 10 (.mv (t 0)),
 o 11 (.call 148 [(t 10)]),
 q (.st 6 (t 2) (t 11))]
def f113r3 : List SOper := [
 o 13 (.mv (t 0)),
 o 14 (.call 114 [(t 13), (.const (.string ⟨#[100, 111]⟩))]),
 o 12 (.mv (t 14))]
def f113r4 : List SOper := [
 o 15 (.mv (t 0)),
 o 16 (.call 149 [(t 15)]),
 o 17 (.bslice [(.int .i64 0), (.string ⟨#[]⟩), (.string ⟨#[]⟩), (.int .i64 0), (.slice none 0 0), (.slice none 0 0)] 1 [(0, 6)] [(t 16)]),
 o 18 (.build [(.int .i64 0), (.string ⟨#[]⟩), (.string ⟨#[]⟩), (.int .i64 0), (.slice none 0 0), (.slice none 0 0)] [(0, 1), (5, 1)] [(i 3), (t 17)]),
 q (.st 6 (t 2) (t 18))]
def f113r5 : List SOper := [
 o 20 (.mv (t 0)),
 o 21 (.call 114 [(t 20), (.const (.string ⟨#[105, 102]⟩))]),
 o 19 (.mv (t 21))]
def f113r6 : List SOper := [
 o 22 (.mv (t 0)),
 o 23 (.call 150 [(t 22)]),
 q (.st 6 (t 2) (t 23))]
def f113r7 : List SOper := [
 o 25 (.mv (t 0)),
 o 26 (.call 114 [(t 25), (.const (.string ⟨#[119, 104, 105, 108, 101]⟩))]),
 o 24 (.mv (t 26))]
def f113r8 : List SOper := [
 o 27 (.mv (t 0)),
 o 28 (.call 151 [(t 27), (i 0)]),
 o 29 (.bslice [(.int .i64 0), (.string ⟨#[]⟩), (.string ⟨#[]⟩), (.int .i64 0), (.slice none 0 0), (.slice none 0 0)] 1 [(0, 6)] [(t 28)]),
 o 30 (.build [(.int .i64 0), (.string ⟨#[]⟩), (.string ⟨#[]⟩), (.int .i64 0), (.slice none 0 0), (.slice none 0 0)] [(0, 1), (5, 1)] [(i 5), (t 29)]),
 o 3 (.new [(.int .i64 0), (.string ⟨#[]⟩), (.string ⟨#[]⟩), (.int .i64 0), (.slice none 0 0), (.slice none 0 0)]),
 q (.st 6 (t 3) (t 30))]
def f113r9 : List SOper := [
 o 31 (.mv (t 0)),
 o 32 (.call 152 [(t 31), (.const (.string ⟨#[100, 111]⟩))])]
def f113t10 : OTree := (.one (o 33 (.fa 5 (t 3)))
 (.one (o 35 (.mv (t 0)))
 (.one (o 34 (.ld1 (t 33)))
 (.one (o 36 (.call 149 [(t 35)]))
 (.chk [o 34 (.ld1 (t 33))] (.one (o 37 (.bslice [(.int .i64 0), (.string ⟨#[]⟩), (.string ⟨#[]⟩), (.int .i64 0), (.slice none 0 0), (.slice none 0 0)] 1 [(0, 6)] [(t 36)]))
 (.chk [o 34 (.ld1 (t 33))] (.one (o 38 (.app 6 96 [(.int .i64 0), (.string ⟨#[]⟩), (.string ⟨#[]⟩), (.int .i64 0), (.slice none 0 0), (.slice none 0 0)] (t 34) (t 37)))
 (.one (o 39 (.fa 5 (t 3)))
 (.one (q (.st 1 (t 39) (t 38)))
 .done))))))))))
def f113r11 : List SOper := [
 o 40 (.ldn 6 (t 3)),
 q (.st 6 (t 2) (t 40))]
def f113r12 : List SOper := [
 o 42 (.mv (t 0)),
 o 43 (.call 114 [(t 42), (.const (.string ⟨#[102, 111, 114]⟩))]),
 o 41 (.mv (t 43))]
def f113r13 : List SOper := [
 o 44 (.mv (t 0)),
 o 45 (.call 153 [(t 44)]),
 q (.st 6 (t 2) (t 45))]
def f113r14 : List SOper := [
 o 47 (.mv (t 0)),
 o 48 (.call 114 [(t 47), (.const (.string ⟨#[98, 114, 101, 97, 107]⟩))]),
 o 46 (.mv (t 48))]
def f113r15 : List SOper := [
 o 49 (.build [(.int .i64 0), (.string ⟨#[]⟩), (.string ⟨#[]⟩), (.int .i64 0), (.slice none 0 0), (.slice none 0 0)] [(0, 1)] [(i 8)]),
 q (.st 6 (t 2) (t 49))]
def f113r16 : List SOper := [
 o 51 (.mv (t 0)),
 o 52 (.call 114 [(t 51), (.const (.string ⟨#[114, 101, 116, 117, 114, 110]⟩))]),
 o 50 (.mv (t 52))]
def f113r17 : List SOper := [
 o 53 (.build [(.int .i64 0), (.string ⟨#[]⟩), (.string ⟨#[]⟩), (.int .i64 0), (.slice none 0 0), (.slice none 0 0)] [(0, 1)] [(i 7)]),
 o 4 (.new [(.int .i64 0), (.string ⟨#[]⟩), (.string ⟨#[]⟩), (.int .i64 0), (.slice none 0 0), (.slice none 0 0)]),
 q (.st 6 (t 4) (t 53))]
def f113r18 : List SOper := [
 o 54 (.mv (t 0)),
 o 55 (.nilck (t 54)),
 o 56 (.fa 1 (t 55)),
 o 57 (.ld1 (t 56)),
 o 58 (.mv (t 0)),
 o 59 (.nilck (t 58)),
 o 60 (.fa 0 (t 59)),
 o 61 (.ld1 (t 60)),
 o 62 (.len (t 61)),
 o 63 (.cmp .lss (t 57) (t 62)),
 o 64 (.mv (t 63)),
 g 65 64 (.mv (t 0)),
 g 66 64 (.call 112 [(t 65), (.const (.string ⟨#[59]⟩))]),
 g 67 64 (.un .not (t 66)),
 o 68 (.pick (t 64) (t 67) (b false)),
 o 69 (.mv (t 68)),
 g 70 69 (.mv (t 0)),
 g 71 69 (.call 112 [(t 70), (.const (.string ⟨#[101, 110, 100]⟩))]),
 g 72 69 (.un .not (t 71)),
 o 73 (.pick (t 69) (t 72) (b false)),
 o 74 (.mv (t 73)),
 g 75 74 (.mv (t 0)),
 g 76 74 (.call 112 [(t 75), (.const (.string ⟨#[101, 108, 115, 101]⟩))]),
 g 77 74 (.un .not (t 76)),
 o 78 (.pick (t 74) (t 77) (b false)),
 o 79 (.mv (t 78)),
 g 80 79 (.mv (t 0)),
 g 81 79 (.call 112 [(t 80), (.const (.string ⟨#[101, 108, 115, 101, 105, 102]⟩))]),
 g 82 79 (.un .not (t 81)),
 o 83 (.pick (t 79) (t 82) (b false))]
def f113r19 : List SOper := [
 o 84 (.mv (t 0)),
 o 85 (.call 151 [(t 84), (i 0)]),
 o 86 (.bslice [(.int .i64 0), (.string ⟨#[]⟩), (.string ⟨#[]⟩), (.int .i64 0), (.slice none 0 0), (.slice none 0 0)] 1 [(0, 6)] [(t 85)]),
 o 87 (.fa 5 (t 4)),
 q (.st 1 (t 87) (t 86))]
def f113r20 : List SOper := [
 o 88 (.ldn 6 (t 4)),
 q (.st 6 (t 2) (t 88))]
def f113r21 : List SOper := [
 o 89 (.mv (t 0)),
 o 90 (.call 115 [(t 89)]),
 o 5 (.mv (t 90))]
def f113r22 : List SOper := [
 o 91 (.mv (t 0)),
 o 92 (.call 154 [(t 91)]),
 o 6 (.new [(.int .i64 0), (.string ⟨#[]⟩), (.string ⟨#[]⟩), (.int .i64 0), (.slice none 0 0), (.slice none 0 0)]),
 q (.st 6 (t 6) (t 92))]
def f113r23 : List SOper := [
 o 93 (.fa 0 (t 6)),
 o 94 (.ld1 (t 93)),
 o 95 (.cmp .eql (t 94) (i 17)),
 o 96 (.mv (t 95)),
 g 97 96 (.mv (t 0)),
 g 98 96 (.call 112 [(t 97), (.const (.string ⟨#[61]⟩))]),
 g 99 96 (.un .not (t 98)),
 o 100 (.pick (t 96) (t 99) (b false))]
def f113r24 : List SOper := [
 o 101 (.ldn 6 (t 6)),
 q (.st 6 (t 2) (t 101))]
def f113r25 : List SOper := [
 o 102 (.fa 0 (t 6)),
 o 103 (.ld1 (t 102)),
 o 104 (.cmp .neq (t 103) (i 15)),
 o 105 (.mv (t 104)),
 g 106 105 (.fa 0 (t 6)),
 g 107 105 (.ld1 (t 106)),
 g 108 105 (.cmp .neq (t 107) (i 16)),
 o 109 (.pick (t 105) (t 108) (b false))]
def f113r26 : List SOper := [
 o 110 (.mv (t 5)),
 o 111 (.build [(.int .i64 0), (.int .i64 0)] [(0, 1), (1, 1)] [(t 110), (i 220)]),
 o 112 (.mki 157 (t 111)),
 q (.pan (t 112))]
def f113r27 : List SOper := [
 o 113 (.mv (t 0)),
 o 114 (.call 152 [(t 113), (.const (.string ⟨#[61]⟩))])]
def f113t28 : OTree := (.one (o 116 (.mv (t 0)))
 (.one (o 115 (.ldn 6 (t 6)))
 (.one (o 117 (.call 151 [(t 116), (i 0)]))
 (.chk [o 115 (.ldn 6 (t 6))] (.one (o 118 (.bslice [(.int .i64 0), (.string ⟨#[]⟩), (.string ⟨#[]⟩), (.int .i64 0), (.slice none 0 0), (.slice none 0 0), (.int .i64 0), (.string ⟨#[]⟩), (.string ⟨#[]⟩), (.int .i64 0), (.slice none 0 0), (.slice none 0 0)] 2 [(0, 6), (6, 6)] [(t 115), (t 117)]))
 (.one (o 119 (.build [(.int .i64 0), (.string ⟨#[]⟩), (.string ⟨#[]⟩), (.int .i64 0), (.slice none 0 0), (.slice none 0 0)] [(0, 1), (5, 1)] [(i 2), (t 118)]))
 (.one (q (.st 6 (t 2) (t 119)))
 .done)))))))
def f113 : SCode := (.seq (.ops f113r0) (.seq (.block 0 (.seq (.ops f113r1) (.cond (t 7) (.seq (.ops f113r2) .ret) (.seq (.ops f113r3) (.cond (t 12) (.seq (.ops f113r4) .ret) (.seq (.ops f113r5) (.cond (t 19) (.seq (.ops f113r6) .ret) (.seq (.ops f113r7) (.cond (t 24) (.seq (.ops f113r8) (.seq (.ops f113r9) (.seq (.tree [33, 34, 35, 36, 37, 38, 39] f113t10) (.seq (.ops f113r11) .ret)))) (.seq (.ops f113r12) (.cond (t 41) (.seq (.ops f113r13) .ret) (.seq (.ops f113r14) (.cond (t 46) (.seq (.ops f113r15) .ret) (.seq (.ops f113r16) (.cond (t 50) (.seq (.ops f113r17) (.seq (.seq (.ops f113r18) (.cond (t 83) (.ops f113r19) .skip)) (.seq (.ops f113r20) .ret))) .skip))))))))))))))) (.seq (.ops f113r21) (.seq (.ops f113r22) (.seq (.seq (.ops f113r23) (.cond (t 100) (.seq (.ops f113r24) .ret) .skip)) (.seq (.seq (.ops f113r25) (.cond (t 109) (.ops f113r26) .skip)) (.seq (.ops f113r27) (.seq (.tree [115, 116, 117, 118, 119] f113t28) .ret))))))))
def f113_ent : Ent := .code 120 f113 [.cn 2 6]
theorem f113_ok (oq : Nat → Value) (F : Nat → Prop) (h0 : Heap) : EntOK Tryz.prog oq F h0 113 f113_ent := ⟨soundD_of (fl := false) mixed Tryz.func113 rfl (by kernel_rfl) (by kernel_rfl) (by kernel_rfl), soundF_of (fl := false) mixed Tryz.func113 rfl (by kernel_rfl) (by kernel_rfl) (by kernel_rfl)⟩

/-! 117: tabor/syntax.may -/
def f117r0 : List SOper := [
 o 1 (.box (t 0)),
 o 2 (.mv (b false))]
def f117r1 : List SOper := [
 o 5 (.fa 5 (t 1)),
 o 6 (.ld1 (t 5)),
 o 7 (.call 155 [(t 6), (u 157)])]
def f117r2 : List SOper := [
 o 2 (.mv (b false))]
def f117r3 : List SOper := [
 o 8 (.fa 0 (t 1)),
 o 9 (.ld1 (t 8)),
 o 10 (.cmp .eql (t 9) (i 0))]
def f117r4 : List SOper := [
 o 11 (.fa 1 (t 1)),
 o 12 (.ld1 (t 11)),
 o 13 (.cmp .eql (t 12) e),
 o 14 (.mv (t 13)),
 g 15 14 (.fa 2 (t 1)),
 g 16 14 (.ld1 (t 15)),
 g 17 14 (.cmp .eql (t 16) e),
 o 18 (.pick (t 14) (t 17) (b false)),
 o 19 (.mv (t 18)),
 g 20 19 (.fa 3 (t 1)),
 g 21 19 (.ld1 (t 20)),
 g 22 19 (.cmp .eql (t 21) (i 0)),
 o 23 (.pick (t 19) (t 22) (b false)),
 o 24 (.mv (t 23)),
 g 25 24 (.fa 4 (t 1)),
 g 26 24 (.ld1 (t 25)),
 g 27 24 (.len (t 26)),
 g 28 24 (.cmp .eql (t 27) (i 0)),
 o 29 (.pick (t 24) (t 28) (b false)),
 o 30 (.mv (t 29)),
 g 31 30 (.fa 5 (t 1)),
 g 32 30 (.ld1 (t 31)),
 g 33 30 (.call 158 [(t 32)]),
 o 34 (.pick (t 30) (t 33) (b false)),
 o 2 (.mv (t 34))]
def f117t5 : OTree := (.one (o 37 (.fa 0 (t 1)))
 (.one (o 38 (.ld1 (t 37)))
 (.both (.one (o 36 (.call 159 []))
 (.chk [o 38 (.ld1 (t 37))] (.one (o 39 (.look (.int .i64) (.agg #[(.bool false), (.bool false), (.bool false), (.bool false), (.int .i64 0), (.int .i64 0), (.bool false), .nilFunc]) true (t 36) (t 38)))
 (.chk [o 38 (.ld1 (t 37))] (.one (o 35 (.mv (t 39)))
 (.chk [o 38 (.ld1 (t 37))] (.one (o 40 (.ext (t 35) 0))
 (.chk [o 38 (.ld1 (t 37))] (.one (o 41 (.ext (t 35) 1))
 (.chk [o 38 (.ld1 (t 37))] (.one (o 3 (.new [(.bool false), (.bool false), (.bool false), (.bool false), (.int .i64 0), (.int .i64 0), (.bool false), .nilFunc]))
 (.chk [o 38 (.ld1 (t 37))] (.one (q (.st 8 (t 3) (t 40)))
 (.one (o 4 (.mv (t 41)))
 .done)))))))))))))) (.one (o 3 (.new [(.bool false), (.bool false), (.bool false), (.bool false), (.int .i64 0), (.int .i64 0), (.bool false), .nilFunc]))
 (.chk [o 38 (.ld1 (t 37))] (.one (o 36 (.call 159 []))
 (.chk [o 38 (.ld1 (t 37))] (.one (o 39 (.look (.int .i64) (.agg #[(.bool false), (.bool false), (.bool false), (.bool false), (.int .i64 0), (.int .i64 0), (.bool false), .nilFunc]) true (t 36) (t 38)))
 (.chk [o 38 (.ld1 (t 37))] (.one (o 35 (.mv (t 39)))
 (.chk [o 38 (.ld1 (t 37))] (.one (o 40 (.ext (t 35) 0))
 (.chk [o 38 (.ld1 (t 37))] (.one (o 41 (.ext (t 35) 1))
 (.chk [o 38 (.ld1 (t 37))] (.one (q (.st 8 (t 3) (t 40)))
 (.one (o 4 (.mv (t 41)))
 .done)))))))))))))))))
def f117r6 : List SOper := [
 o 43 (.mv (t 4)),
 o 44 (.un .not (t 43)),
 o 45 (.mv (t 44)),
 n 46 45 (.fa 7 (t 3)),
 n 47 45 (.ld1 (t 46)),
 n 48 45 (.fa 5 (t 1)),
 n 49 45 (.ld1 (t 48)),
 n 50 45 (.callv (t 47) [(t 49)]),
 n 51 45 (.un .not (t 50)),
 o 52 (.pick (t 45) (b true) (t 51)),
 o 53 (.mv (t 52)),
 n 54 53 (.fa 4 (t 1)),
 n 55 53 (.ld1 (t 54)),
 n 56 53 (.len (t 55)),
 n 57 53 (.fa 4 (t 3)),
 n 58 53 (.ld1 (t 57)),
 n 59 53 (.cmp .lss (t 56) (t 58)),
 o 60 (.pick (t 53) (b true) (t 59)),
 o 61 (.mv (t 60)),
 n 62 61 (.fa 4 (t 1)),
 n 63 61 (.ld1 (t 62)),
 n 64 61 (.len (t 63)),
 n 65 61 (.fa 5 (t 3)),
 n 66 61 (.ld1 (t 65)),
 n 67 61 (.cmp .gtr (t 64) (t 66)),
 o 68 (.pick (t 61) (b true) (t 67)),
 o 69 (.mv (t 68)),
 n 70 69 (.fa 4 (t 1)),
 n 71 69 (.ld1 (t 70)),
 n 72 69 (.call 21 [(t 71), (u 160)]),
 o 73 (.pick (t 69) (b true) (t 72)),
 o 42 (.mv (t 73))]
def f117r7 : List SOper := [
 o 2 (.mv (b false))]
def f117r8 : List SOper := [
 o 75 (.fa 0 (t 3)),
 o 76 (.ld1 (t 75)),
 o 77 (.mv (t 76)),
 g 78 77 (.fa 1 (t 1)),
 g 79 77 (.ld1 (t 78)),
 g 80 77 (.call 161 [(t 79)]),
 g 81 77 (.un .not (t 80)),
 o 82 (.pick (t 77) (t 81) (b false)),
 o 83 (.mv (t 82)),
 n 84 83 (.fa 1 (t 3)),
 n 85 83 (.ld1 (t 84)),
 n 86 83 (.mv (t 85)),
 g 87 86 (.fa 1 (t 1)),
 g 88 86 (.ld1 (t 87)),
 g 89 86 (.call 162 [(t 88)]),
 g 90 86 (.un .not (t 89)),
 n 91 83 (.pick (t 86) (t 90) (b false)),
 o 92 (.pick (t 83) (b true) (t 91)),
 o 93 (.mv (t 92)),
 n 94 93 (.fa 0 (t 3)),
 n 95 93 (.ld1 (t 94)),
 n 96 93 (.un .not (t 95)),
 n 97 93 (.mv (t 96)),
 g 98 97 (.fa 1 (t 3)),
 g 99 97 (.ld1 (t 98)),
 g 100 97 (.un .not (t 99)),
 n 101 93 (.pick (t 97) (t 100) (b false)),
 n 102 93 (.mv (t 101)),
 g 103 102 (.fa 1 (t 1)),
 g 104 102 (.ld1 (t 103)),
 g 105 102 (.cmp .neq (t 104) e),
 n 106 93 (.pick (t 102) (t 105) (b false)),
 o 107 (.pick (t 93) (b true) (t 106)),
 o 74 (.mv (t 107))]
def f117r9 : List SOper := [
 o 2 (.mv (b false))]
def f117r10 : List SOper := [
 o 109 (.fa 2 (t 3)),
 o 110 (.ld1 (t 109)),
 o 111 (.un .not (t 110)),
 o 112 (.mv (t 111)),
 g 113 112 (.fa 2 (t 1)),
 g 114 112 (.ld1 (t 113)),
 g 115 112 (.cmp .neq (t 114) e),
 o 116 (.pick (t 112) (t 115) (b false)),
 o 117 (.mv (t 116)),
 n 118 117 (.fa 3 (t 3)),
 n 119 117 (.ld1 (t 118)),
 n 120 117 (.un .not (t 119)),
 n 121 117 (.mv (t 120)),
 g 122 121 (.fa 3 (t 1)),
 g 123 121 (.ld1 (t 122)),
 g 124 121 (.cmp .neq (t 123) (i 0)),
 n 125 117 (.pick (t 121) (t 124) (b false)),
 o 126 (.pick (t 117) (b true) (t 125)),
 o 127 (.mv (t 126)),
 n 128 127 (.fa 3 (t 1)),
 n 129 127 (.ld1 (t 128)),
 n 130 127 (.cmp .lss (t 129) (i 0)),
 o 131 (.pick (t 127) (b true) (t 130)),
 o 108 (.mv (t 131))]
def f117r11 : List SOper := [
 o 2 (.mv (b false))]
def f117r12 : List SOper := [
 o 132 (.fa 0 (t 1)),
 o 133 (.ld1 (t 132)),
 o 134 (.cmp .neq (t 133) (i 1)),
 o 135 (.mv (t 134)),
 n 136 135 (.fa 5 (t 1)),
 n 137 135 (.ld1 (t 136)),
 n 138 135 (.len (t 137)),
 n 139 135 (.fa 4 (t 1)),
 n 140 135 (.ld1 (t 139)),
 n 141 135 (.len (t 140)),
 n 142 135 (.cmp .leq (t 138) (t 141)),
 o 143 (.pick (t 135) (b true) (t 142)),
 o 2 (.mv (t 143))]
def f117 : SCode := (.seq (.ops f117r0) (.seq (.seq (.ops f117r1) (.cond (t 7) (.seq (.ops f117r2) .ret) .skip)) (.seq (.seq (.ops f117r3) (.cond (t 10) (.seq (.ops f117r4) .ret) .skip)) (.seq (.tree [36, 37, 38, 39, 35, 40, 41, 3, 4] f117t5) (.seq (.block 0 (.seq (.ops f117r6) (.cond (t 42) (.seq (.ops f117r7) .ret) (.seq (.ops f117r8) (.cond (t 74) (.seq (.ops f117r9) .ret) (.seq (.ops f117r10) (.cond (t 108) (.seq (.ops f117r11) .ret) .skip))))))) (.seq (.ops f117r12) .ret))))))
def f117_ent : Ent := .code 144 f117 [.t 2]
theorem f117_ok (oq : Nat → Value) (F : Nat → Prop) (h0 : Heap) : EntOK Tryz.prog oq F h0 117 f117_ent := ⟨soundD_of (fl := false) mixed Tryz.func117 rfl (by kernel_rfl) (by kernel_rfl) (by kernel_rfl), soundF_of (fl := false) mixed Tryz.func117 rfl (by kernel_rfl) (by kernel_rfl) (by kernel_rfl)⟩

/-! 118: tabor/scopes.Resolve$1 -/
def f118r0 : List SOper := [
 o 8 (.eqn 4 false (t 6))]
def f118r1 : List SOper := [
 o 3 (.mv (t 6))]
def f118r2 : List SOper := [
 o 9 (.tas 229 (.agg #[(.int .i64 0)]) true (t 6)),
 o 10 (.ext (t 9) 1),
 o 11 (.ext (t 9) 0)]
def f118r3 : List SOper := [
 o 4 (.new [(.int .i64 0)]),
 q (.st 1 (t 4) (t 11))]
def f118t4 : OTree := (.one (o 12 (.build [(.int .i64 0), (.string ⟨#[]⟩), (.string ⟨#[]⟩), (.int .i64 0), (.slice none 0 0), (.slice none 0 0)] [] []))
 (.one (o 13 (.fa 0 (t 4)))
 (.one (o 14 (.ld1 (t 13)))
 (.one (q (.st 6 (t 0) (t 12)))
 (.chk [o 14 (.ld1 (t 13))] (.one (q (.st 1 (t 1) (.const (.slice none 0 0))))
 (.chk [o 14 (.ld1 (t 13))] (.one (q (.st 1 (t 2) (t 14)))
 .done))))))))
def f118r5 : List SOper := [
 o 5 (.mv (t 6))]
def f118r6 : List SOper := [
 o 7 (.mv (t 5)),
 q (.pan (t 7))]
def f118 : SCode := (.seq (.rcv (some 6)) (.block 0 (.seq (.ops f118r0) (.cond (t 8) (.ops f118r1) (.seq (.ops f118r2) (.cond (t 10) (.seq (.ops f118r3) (.tree [12, 13, 14] f118t4)) (.seq (.ops f118r5) (.ops f118r6))))))))
def f118_ent : Ent := .code 15 f118 []
theorem f118_ok (oq : Nat → Value) (F : Nat → Prop) (h0 : Heap) : EntOK Tryz.prog oq F h0 118 f118_ent := ⟨soundD_of (fl := false) mixed Tryz.func118 rfl (by kernel_rfl) (by kernel_rfl) (by kernel_rfl), soundF_of (fl := false) mixed Tryz.func118 rfl (by kernel_rfl) (by kernel_rfl) (by kernel_rfl)⟩

/-! 119: (*tabor/scopes.walker).node -/
def f119r0 : List SOper := [
 o 2 (.box (t 0)),
 o 3 (.box (t 1)),
 o 4 (.new [(.int .i64 0), (.string ⟨#[]⟩), (.string ⟨#[]⟩), (.int .i64 0), (.slice none 0 0), (.slice none 0 0)])]
def f119r1 : List SOper := [
 o 7 (.fa 4 (t 3)),
 o 8 (.ld1 (t 7)),
 o 9 (.call 163 [(t 8)]),
 o 10 (.fa 4 (t 3)),
 q (.st 1 (t 10) (t 9))]
def f119r2 : List SOper := [
 o 11 (.fa 0 (t 3)),
 o 12 (.ld1 (t 11))]
def f119r3 : List SOper := [
 o 14 (.cmp .eql (t 12) (i 0)),
 o 13 (.mv (t 14))]
def f119r4 : List SOper := [
 o 15 (.ld1 (t 2)),
 o 16 (.fn 165 [] [(t 2), (t 3)]),
 o 17 (.call 164 [(t 15), (t 16)])]
def f119r5 : List SOper := [
 o 18 (.ldn 6 (t 3)),
 q (.st 6 (t 4) (t 18))]
def f119r6 : List SOper := [
 o 20 (.cmp .eql (t 12) (i 1)),
 o 19 (.mv (t 20))]
def f119r7 : List SOper := [
 o 21 (.ld1 (t 2)),
 o 22 (.fa 5 (t 3)),
 o 23 (.ld1 (t 22)),
 o 24 (.call 166 [(t 21), (t 23)]),
 o 25 (.fa 5 (t 3)),
 q (.st 1 (t 25) (t 24))]
def f119r8 : List SOper := [
 o 26 (.ld1 (t 2)),
 o 27 (.fa 4 (t 3)),
 o 28 (.ld1 (t 27)),
 o 29 (.call 167 [(t 26), (t 28)]),
 o 30 (.fa 3 (t 3)),
 q (.st 1 (t 30) (t 29))]
def f119r9 : List SOper := [
 o 31 (.ldn 6 (t 3)),
 q (.st 6 (t 4) (t 31))]
def f119r10 : List SOper := [
 o 33 (.cmp .eql (t 12) (i 9)),
 o 32 (.mv (t 33))]
def f119r11 : List SOper := [
 o 34 (.ld1 (t 2)),
 o 35 (.ldn 6 (t 3)),
 o 36 (.call 168 [(t 34), (t 35)]),
 q (.st 6 (t 4) (t 36))]
def f119r12 : List SOper := [
 o 38 (.cmp .eql (t 12) (i 6)),
 o 37 (.mv (t 38))]
def f119r13 : List SOper := [
 o 39 (.ld1 (t 2)),
 o 40 (.ldn 6 (t 3)),
 o 41 (.call 169 [(t 39), (t 40)]),
 q (.st 6 (t 4) (t 41))]
def f119r14 : List SOper := [
 o 43 (.cmp .eql (t 12) (i 5)),
 o 42 (.mv (t 43))]
def f119t15 : OTree := (.one (o 44 (.ld1 (t 2)))
 (.one (o 45 (.fa 5 (t 3)))
 (.one (o 46 (.ld1 (t 45)))
 (.one (o 47 (.ixs 6 (t 46) (i 0)))
 (.one (o 48 (.ldn 6 (t 47)))
 (.both (.one (o 49 (.call 119 [(t 44), (t 48)]))
 (.one (o 5 (.new [(.int .i64 0), (.string ⟨#[]⟩), (.string ⟨#[]⟩), (.int .i64 0), (.slice none 0 0), (.slice none 0 0)]))
 (.one (q (.st 6 (t 5) (t 49)))
 .done))) (.one (o 5 (.new [(.int .i64 0), (.string ⟨#[]⟩), (.string ⟨#[]⟩), (.int .i64 0), (.slice none 0 0), (.slice none 0 0)]))
 (.one (o 49 (.call 119 [(t 44), (t 48)]))
 (.one (q (.st 6 (t 5) (t 49)))
 .done)))))))))
def f119r16 : List SOper := [
 o 50 (.ld1 (t 2)),
 o 51 (.nilck (t 50)),
 o 52 (.fa 0 (t 51)),
 o 53 (.fa 3 (t 52)),
 o 54 (.ld1 (t 53)),
 o 55 (.ar .add (t 54) (i 1)),
 o 56 (.nilck (t 50)),
 o 57 (.fa 0 (t 56)),
 o 58 (.fa 3 (t 57)),
 q (.st 1 (t 58) (t 55))]
def f119t17 : OTree := (.one (o 60 (.ld1 (t 2)))
 (.one (o 61 (.fa 5 (t 3)))
 (.one (o 62 (.ld1 (t 61)))
 (.one (o 63 (.ixs 6 (t 62) (i 1)))
 (.one (o 64 (.ldn 6 (t 63)))
 (.one (o 59 (.ldn 6 (t 5)))
 (.one (o 65 (.call 119 [(t 60), (t 64)]))
 (.chk [o 59 (.ldn 6 (t 5))] (.one (o 66 (.bslice [(.int .i64 0), (.string ⟨#[]⟩), (.string ⟨#[]⟩), (.int .i64 0), (.slice none 0 0), (.slice none 0 0), (.int .i64 0), (.string ⟨#[]⟩), (.string ⟨#[]⟩), (.int .i64 0), (.slice none 0 0), (.slice none 0 0)] 2 [(0, 6), (6, 6)] [(t 59), (t 65)]))
 (.one (o 67 (.fa 5 (t 3)))
 (.one (q (.st 1 (t 67) (t 66)))
 .done)))))))))))
def f119r18 : List SOper := [
 o 68 (.ld1 (t 2)),
 o 69 (.nilck (t 68)),
 o 70 (.fa 0 (t 69)),
 o 71 (.fa 3 (t 70)),
 o 72 (.ld1 (t 71)),
 o 73 (.ar .sub (t 72) (i 1)),
 o 74 (.nilck (t 68)),
 o 75 (.fa 0 (t 74)),
 o 76 (.fa 3 (t 75)),
 q (.st 1 (t 76) (t 73))]
def f119r19 : List SOper := [
 o 77 (.ldn 6 (t 3)),
 q (.st 6 (t 4) (t 77))]
def f119r20 : List SOper := [
 o 79 (.cmp .eql (t 12) (i 8)),
 o 78 (.mv (t 79))]
def f119r21 : List SOper := [
 o 80 (.ld1 (t 2)),
 o 81 (.nilck (t 80)),
 o 82 (.fa 0 (t 81)),
 o 83 (.fa 3 (t 82)),
 o 84 (.ld1 (t 83)),
 o 85 (.cmp .gtr (t 84) (i 0)),
 o 86 (.call 170 [(t 85), (i 232)])]
def f119r22 : List SOper := [
 o 88 (.cmp .eql (t 12) (i 15)),
 o 87 (.mv (t 88))]
def f119r23 : List SOper := [
 o 89 (.ld1 (t 2)),
 o 90 (.fa 1 (t 3)),
 o 91 (.ld1 (t 90)),
 o 92 (.call 171 [(t 89), (t 91)]),
 o 93 (.fa 3 (t 3)),
 q (.st 1 (t 93) (t 92))]
def f119r24 : List SOper := [
 o 95 (.cmp .eql (t 12) (i 17)),
 o 94 (.mv (t 95))]
def f119r25 : List SOper := [
 o 96 (.ld1 (t 2)),
 o 97 (.fa 1 (t 3)),
 o 98 (.ld1 (t 97)),
 o 99 (.fa 5 (t 3)),
 o 100 (.ld1 (t 99)),
 o 101 (.len (t 100)),
 o 102 (.call 172 [(t 96), (t 98), (t 101)]),
 o 103 (.fa 3 (t 3)),
 q (.st 1 (t 103) (t 102))]
def f119r26 : List SOper := [
 o 105 (.cmp .eql (t 12) (i 2)),
 o 104 (.mv (t 105))]
def f119r27 : List SOper := [
 o 106 (.fa 5 (t 3)),
 o 107 (.ld1 (t 106)),
 o 108 (.ixs 6 (t 107) (i 0)),
 o 109 (.ldn 6 (t 108)),
 o 6 (.new [(.int .i64 0), (.string ⟨#[]⟩), (.string ⟨#[]⟩), (.int .i64 0), (.slice none 0 0), (.slice none 0 0)]),
 q (.st 6 (t 6) (t 109))]
def f119r28 : List SOper := [
 o 110 (.fa 0 (t 6)),
 o 111 (.ld1 (t 110)),
 o 112 (.cmp .neq (t 111) (i 15)),
 o 113 (.mv (t 112)),
 n 114 113 (.ld1 (t 2)),
 n 115 113 (.fa 1 (t 6)),
 n 116 113 (.ld1 (t 115)),
 n 117 113 (.call 171 [(t 114), (t 116)]),
 n 118 113 (.cmp .geq (t 117) (i 0)),
 o 119 (.pick (t 113) (b true) (t 118)),
 o 120 (.call 170 [(t 119), (i 234)])]
def f119r29 : List SOper := [
 o 121 (.ld1 (t 2)),
 o 122 (.fa 5 (t 3)),
 o 123 (.ld1 (t 122)),
 o 124 (.call 166 [(t 121), (t 123)]),
 o 125 (.fa 5 (t 3)),
 q (.st 1 (t 125) (t 124))]
def f119r30 : List SOper := [
 o 126 (.ldn 6 (t 3)),
 q (.st 6 (t 4) (t 126))]
def f119 : SCode := (.seq (.ops f119r0) (.seq (.ops f119r1) (.seq (.seq (.ops f119r2) (.block 0 (.seq (.ops f119r3) (.cond (t 13) (.seq (.ops f119r4) (.seq (.ops f119r5) .ret)) (.seq (.ops f119r6) (.cond (t 19) (.seq (.ops f119r7) (.seq (.ops f119r8) (.seq (.ops f119r9) .ret))) (.seq (.ops f119r10) (.cond (t 32) (.seq (.ops f119r11) .ret) (.seq (.ops f119r12) (.cond (t 37) (.seq (.ops f119r13) .ret) (.seq (.ops f119r14) (.cond (t 42) (.seq (.tree [44, 45, 46, 47, 48, 49, 5] f119t15) (.seq (.ops f119r16) (.seq (.tree [59, 60, 61, 62, 63, 64, 65, 66, 67] f119t17) (.seq (.ops f119r18) (.seq (.ops f119r19) .ret))))) (.seq (.ops f119r20) (.cond (t 78) (.ops f119r21) (.seq (.ops f119r22) (.cond (t 87) (.ops f119r23) (.seq (.ops f119r24) (.cond (t 94) (.ops f119r25) (.seq (.ops f119r26) (.cond (t 104) (.seq (.ops f119r27) (.ops f119r28)) .skip)))))))))))))))))))) (.seq (.ops f119r29) (.seq (.ops f119r30) .ret)))))
def f119_ent : Ent := .code 127 f119 [.cn 4 6]
theorem f119_ok (oq : Nat → Value) (F : Nat → Prop) (h0 : Heap) : EntOK Tryz.prog oq F h0 119 f119_ent := ⟨soundD_of (fl := false) mixed Tryz.func119 rfl (by kernel_rfl) (by kernel_rfl) (by kernel_rfl), soundF_of (fl := false) mixed Tryz.func119 rfl (by kernel_rfl) (by kernel_rfl) (by kernel_rfl)⟩

/-! 139: tabor/resp.Encode$2 -/
def f139r0 : List SOper := [
 o 6 (.box (t 0))]
def f139r1 : List SOper := [
 o 11 (.fa 0 (t 6)),
 o 12 (.ld1 (t 11)),
 o 13 (.build [(.int .i64 0), (.int .i64 0), (.string ⟨#[]⟩), (.slice none 0 0)] [(0, 1)] [(t 12)]),
 o 8 (.new [(.int .i64 0), (.int .i64 0), (.string ⟨#[]⟩), (.slice none 0 0)]),
 q (.st 4 (t 8) (t 13))]
def f139r2 : List SOper := [
 o 14 (.ld1 (t 2)),
 o 15 (.fa 2 (t 6)),
 o 16 (.ld1 (t 15)),
 o 17 (.lens (t 16)),
 o 18 (.mn (t 17) (i 1048577)),
 o 19 (.ar .sub (t 14) (t 18)),
 q (.st 1 (t 2) (t 19))]
def f139r3 : List SOper := [
 o 20 (.ld1 (t 3)),
 o 21 (.fa 3 (t 6)),
 o 22 (.ld1 (t 21)),
 o 23 (.len (t 22)),
 o 24 (.mn (t 23) (i 65537)),
 o 25 (.ar .sub (t 20) (t 24)),
 q (.st 1 (t 3) (t 25))]
def f139r4 : List SOper := [
 o 26 (.ld1 (t 2)),
 o 27 (.cmp .geq (t 26) (i 0)),
 o 28 (.mv (t 27)),
 g 29 28 (.ld1 (t 3)),
 g 30 28 (.cmp .geq (t 29) (i 0)),
 o 31 (.pick (t 28) (t 30) (b false)),
 o 32 (.call 140 [(t 31), (i 2)])]
def f139r5 : List SOper := [
 o 33 (.fa 0 (t 6)),
 o 34 (.ld1 (t 33))]
def f139r6 : List SOper := [
 o 37 (.cmp .eql (t 34) (i 0)),
 o 36 (.mv (t 37))]
def f139r7 : List SOper := [
 o 38 (.call 141 [(t 4), (.const (.string ⟨#[36, 45, 49, 13, 10]⟩))])]
def f139r8 : List SOper := [
 o 40 (.cmp .eql (t 34) (i 1)),
 o 39 (.mv (t 40))]
def f139r9 : List SOper := [
 o 41 (.cmp .eql (t 34) (i 2)),
 o 39 (.mv (t 41))]
def f139r10 : List SOper := [
 o 42 (.fa 2 (t 6)),
 o 43 (.ld1 (t 42)),
 o 44 (.call 142 [(t 43), (.const (.string ⟨#[13]⟩))]),
 o 45 (.un .not (t 44)),
 o 46 (.mv (t 45)),
 g 47 46 (.fa 2 (t 6)),
 g 48 46 (.ld1 (t 47)),
 g 49 46 (.call 142 [(t 48), (.const (.string ⟨#[10]⟩))]),
 g 50 46 (.un .not (t 49)),
 o 51 (.pick (t 46) (t 50) (b false)),
 o 52 (.call 140 [(t 51), (i 2)])]
def f139r11 : List SOper := [
 o 53 (.fa 0 (t 6)),
 o 54 (.ld1 (t 53)),
 o 55 (.ar .sub (t 54) (i 1)),
 o 56 (.sls (.const (.string ⟨#[43, 45]⟩)) (some (t 55)) none),
 o 57 (.sls (t 56) none (some (i 1))),
 o 58 (.fa 2 (t 6)),
 o 59 (.ld1 (t 58)),
 o 60 (.cat (t 57) (t 59)),
 o 61 (.cat (t 60) (.const (.string ⟨#[13, 10]⟩))),
 o 62 (.call 141 [(t 4), (t 61)])]
def f139r12 : List SOper := [
 o 63 (.fa 2 (t 6)),
 o 64 (.ld1 (t 63)),
 o 65 (.fa 2 (t 8)),
 q (.st 1 (t 65) (t 64))]
def f139r13 : List SOper := [
 o 67 (.cmp .eql (t 34) (i 3)),
 o 66 (.mv (t 67))]
def f139r14 : List SOper := [
 o 68 (.fa 1 (t 6)),
 o 69 (.ld1 (t 68)),
 o 70 (.call 130 [(t 69), (i 10)]),
 o 71 (.cat (.const (.string ⟨#[58]⟩)) (t 70)),
 o 72 (.cat (t 71) (.const (.string ⟨#[13, 10]⟩))),
 o 73 (.call 141 [(t 4), (t 72)])]
def f139r15 : List SOper := [
 o 74 (.fa 1 (t 6)),
 o 75 (.ld1 (t 74)),
 o 76 (.fa 1 (t 8)),
 q (.st 1 (t 76) (t 75))]
def f139r16 : List SOper := [
 o 78 (.cmp .eql (t 34) (i 4)),
 o 77 (.mv (t 78))]
def f139t17 : OTree := (.one (o 79 (.fa 2 (t 6)))
 (.one (o 80 (.ld1 (t 79)))
 (.one (o 81 (.lens (t 80)))
 (.one (o 85 (.fa 2 (t 6)))
 (.one (o 86 (.ld1 (t 85)))
 (.one (o 82 (.call 143 [(t 81)]))
 (.chk [o 86 (.ld1 (t 85))] (.one (o 83 (.cat (.const (.string ⟨#[36]⟩)) (t 82)))
 (.chk [o 86 (.ld1 (t 85))] (.one (o 84 (.cat (t 83) (.const (.string ⟨#[13, 10]⟩))))
 (.chk [o 86 (.ld1 (t 85))] (.one (o 87 (.cat (t 84) (t 86)))
 (.chk [o 86 (.ld1 (t 85))] (.one (o 88 (.cat (t 87) (.const (.string ⟨#[13, 10]⟩))))
 (.chk [o 86 (.ld1 (t 85))] (.one (o 89 (.call 141 [(t 4), (t 88)]))
 .done))))))))))))))))
def f139r18 : List SOper := [
 o 90 (.fa 2 (t 6)),
 o 91 (.ld1 (t 90)),
 o 92 (.fa 2 (t 8)),
 q (.st 1 (t 92) (t 91))]
def f139r19 : List SOper := [
 o 94 (.cmp .eql (t 34) (i 5)),
 o 93 (.mv (t 94))]
def f139r20 : List SOper := [
 o 95 (.mv (t 1)),
 o 96 (.cmp .gtr (t 95) (i 0)),
 o 97 (.call 140 [(t 96), (i 2)])]
def f139r21 : List SOper := [
 o 98 (.fa 3 (t 6)),
 o 99 (.ld1 (t 98)),
 o 100 (.len (t 99)),
 o 101 (.call 143 [(t 100)]),
 o 102 (.cat (.const (.string ⟨#[42]⟩)) (t 101)),
 o 103 (.cat (t 102) (.const (.string ⟨#[13, 10]⟩))),
 o 104 (.call 141 [(t 4), (t 103)])]
def f139r22 : List SOper := [
 o 105 (.fa 3 (t 6)),
 o 106 (.ld1 (t 105)),
 o 107 (.len (t 106)),
 o 108 (.mv (i 0))]
def f139r23 : List SOper := [
 o 109 (.cmp .lss (t 108) (t 107))]
def f139r24 : List SOper := [
 o 110 (.ixs 4 (t 106) (t 108)),
 o 111 (.ldn 4 (t 110)),
 o 10 (.new [(.int .i64 0), (.int .i64 0), (.string ⟨#[]⟩), (.slice none 0 0)]),
 q (.st 4 (t 10) (t 111))]
def f139r25 : List SOper := [
 o 112 (.ld1 (t 5)),
 o 113 (.ldn 4 (t 10)),
 o 114 (.mv (t 1)),
 o 115 (.ar .sub (t 114) (i 1)),
 o 116 (.callv (t 112) [(t 113), (t 115)])]
def f139r26 : List SOper := [
 o 117 (.ar .add (t 108) (i 1)),
 o 108 (.mv (t 117))]
def f139l27 : SCode := (.seq (.ops f139r23) (.seq (.cond (t 109) .skip (.exit 1)) (.seq (.block 2 (.seq (.ops f139r24) (.ops f139r25))) (.ops f139r26))))
def f139r28 : List SOper := [
 o 118 (.fa 3 (t 6)),
 o 119 (.ld1 (t 118)),
 o 120 (.fa 3 (t 8)),
 q (.st 1 (t 120) (t 119))]
def f139r29 : List SOper := [
 o 35 (.call 140 [(b false), (i 2)])]
def f139r30 : List SOper := [
 o 121 (.fa 1 (t 8)),
 o 122 (.ld1 (t 121)),
 o 123 (.fa 1 (t 6)),
 o 124 (.ld1 (t 123)),
 o 125 (.cmp .eql (t 122) (t 124)),
 o 126 (.mv (t 125)),
 g 127 126 (.fa 2 (t 8)),
 g 128 126 (.ld1 (t 127)),
 g 129 126 (.fa 2 (t 6)),
 g 130 126 (.ld1 (t 129)),
 g 131 126 (.cmp .eql (t 128) (t 130)),
 o 132 (.pick (t 126) (t 131) (b false)),
 o 133 (.mv (t 132)),
 g 134 133 (.fa 3 (t 8)),
 g 135 133 (.ld1 (t 134)),
 g 136 133 (.len (t 135)),
 g 137 133 (.fa 3 (t 6)),
 g 138 133 (.ld1 (t 137)),
 g 139 133 (.len (t 138)),
 g 140 133 (.cmp .eql (t 136) (t 139)),
 o 141 (.pick (t 133) (t 140) (b false)),
 o 142 (.call 140 [(t 141), (i 2)])]
def f139 : SCode := (.seq (.ops f139r0) (.seq (.ops f139r1) (.seq (.ops f139r2) (.seq (.ops f139r3) (.seq (.ops f139r4) (.seq (.seq (.ops f139r5) (.block 0 (.seq (.ops f139r6) (.cond (t 36) (.ops f139r7) (.seq (.seq (.ops f139r8) (.cond (t 39) .skip (.ops f139r9))) (.cond (t 39) (.seq (.ops f139r10) (.seq (.ops f139r11) (.ops f139r12))) (.seq (.ops f139r13) (.cond (t 66) (.seq (.ops f139r14) (.ops f139r15)) (.seq (.ops f139r16) (.cond (t 77) (.seq (.tree [79, 80, 81, 82, 83, 84, 85, 86, 87, 88, 89] f139t17) (.ops f139r18)) (.seq (.ops f139r19) (.cond (t 93) (.seq (.ops f139r20) (.seq (.ops f139r21) (.seq (.seq (.ops f139r22) (.block 1 (.loop f139l27))) (.ops f139r28)))) (.ops f139r29))))))))))))) (.ops f139r30)))))))
def f139_ent : Ent := .code 143 f139 []
theorem f139_ok (oq : Nat → Value) (F : Nat → Prop) (h0 : Heap) : EntOK Tryz.prog oq F h0 139 f139_ent := ⟨soundD_of (fl := false) mixed Tryz.func139 rfl (by kernel_rfl) (by kernel_rfl) (by kernel_rfl), soundF_of (fl := false) mixed Tryz.func139 rfl (by kernel_rfl) (by kernel_rfl) (by kernel_rfl)⟩

/-! 147: tabor/words.word -/
def f147r0 : List SOper := [
 o 2 (.new [(.int .i64 0), (.string ⟨#[]⟩), (.int .i64 0), (.int .i64 0)]),
 o 3 (.mv (i 0))]
def f147r1 : List SOper := [
 o 12 (.mv (t 0)),
 o 13 (.call 219 [(t 12)]),
 o 4 (.mv (t 13))]
def f147r2 : List SOper := [
 o 14 (.build [(.int .i64 0), (.string ⟨#[]⟩), (.int .i64 0), (.int .i64 0)] [] []),
 o 5 (.new [(.int .i64 0), (.string ⟨#[]⟩), (.int .i64 0), (.int .i64 0)]),
 q (.st 4 (t 5) (t 14))]
def f147r3 : List SOper := [
 o 16 (.mv (t 4)),
 o 17 (.cmp .gtr (t 16) (i 0)),
 o 18 (.mv (t 17)),
 g 19 18 (.mv (t 0)),
 g 20 18 (.ixc (t 19) (i 0)),
 g 21 18 (.call 220 [(t 20)]),
 o 22 (.pick (t 18) (t 21) (b false)),
 o 15 (.mv (t 22))]
def f147r4 : List SOper := [
 o 23 (.mv (t 0)),
 o 24 (.mv (t 4)),
 o 25 (.sls (t 23) none (some (t 24))),
 o 26 (.fa 1 (t 5)),
 q (.st 1 (t 26) (t 25))]
def f147t5 : OTree := (.one (o 28 (.fa 1 (t 5)))
 (.one (o 29 (.ld1 (t 28)))
 (.one (o 27 (.call 221 []))
 (.chk [o 29 (.ld1 (t 28))] (.one (o 30 (.look .str (.int .i64 0) false (t 27) (t 29)))
 (.chk [o 29 (.ld1 (t 28))] (.one (o 31 (.cmp .gtr (t 30) (i 0)))
 (.chk [o 29 (.ld1 (t 28))] .done))))))))
def f147r6 : List SOper := [
 o 32 (.fa 0 (t 5)),
 q (.st 1 (t 32) (i 1))]
def f147r7 : List SOper := [
 o 33 (.fa 1 (t 5)),
 o 34 (.ld1 (t 33)),
 o 35 (.call 161 [(t 34)]),
 o 36 (.un .not (t 35))]
def f147r8 : List SOper := [
 o 37 (.ldn 4 (t 5)),
 o 38 (.mv (t 4)),
 q (.st 4 (t 2) (t 37)),
 o 3 (.mv (t 38))]
def f147r9 : List SOper := [
 o 40 (.mv (t 4)),
 o 41 (.cmp .gtr (t 40) (i 0)),
 o 39 (.mv (t 41))]
def f147r10 : List SOper := [
 o 43 (.mv (t 0)),
 o 44 (.mv (t 4)),
 o 45 (.sls (t 43) none (some (t 44))),
 o 46 (.call 222 [(t 45), (i 10), (i 63)]),
 o 42 (.mv (t 46)),
 o 47 (.ext (t 42) 0),
 o 48 (.ext (t 42) 1),
 o 6 (.mv (t 47)),
 o 7 (.mv (t 48))]
def f147r11 : List SOper := [
 o 49 (.mv (t 7)),
 o 50 (.eqn 4 true (t 49))]
def f147r12 : List SOper := [
 o 51 (.mv (t 6)),
 o 52 (.cvt .i64 (t 51)),
 o 53 (.build [(.int .i64 0), (.string ⟨#[]⟩), (.int .i64 0), (.int .i64 0)] [(0, 1), (2, 1)] [(i 2), (t 52)]),
 o 54 (.mv (t 4)),
 q (.st 4 (t 2) (t 53)),
 o 3 (.mv (t 54))]
def f147r13 : List SOper := [
 o 56 (.mv (t 0)),
 o 57 (.ixc (t 56) (i 0)),
 o 58 (.cmp .eql (t 57) (.const (.int .u8 39))),
 o 59 (.mv (t 58)),
 n 60 59 (.mv (t 0)),
 n 61 59 (.ixc (t 60) (i 0)),
 n 62 59 (.cmp .eql (t 61) (.const (.int .u8 34))),
 o 63 (.pick (t 59) (b true) (t 62)),
 o 55 (.mv (t 63))]
def f147r14 : List SOper := [
 o 65 (.mv (t 0)),
 o 66 (.call 223 [(t 65)]),
 o 64 (.mv (t 66)),
 o 67 (.ext (t 64) 0),
 o 68 (.ext (t 64) 1),
 o 8 (.mv (t 67)),
 o 9 (.mv (t 68))]
def f147r15 : List SOper := [
 o 69 (.mv (t 9)),
 o 70 (.cmp .eql (t 69) (i 0))]
def f147r16 : List SOper := [
 o 71 (.mv (t 8)),
 o 72 (.build [(.int .i64 0), (.string ⟨#[]⟩), (.int .i64 0), (.int .i64 0)] [(0, 1), (1, 1)] [(i 3), (t 71)]),
 o 73 (.mv (t 9)),
 q (.st 4 (t 2) (t 72)),
 o 3 (.mv (t 73))]
def f147r17 : List SOper := [
 o 74 (.call 224 []),
 o 75 (.mv (i 0))]
def f147r18 : List SOper := [
 o 76 (.cmp .lss (t 75) (i 24))]
def f147r19 : List SOper := [
 o 77 (.ixv 24 1 (t 74) (t 75)),
 o 11 (.mv (t 77))]
def f147r20 : List SOper := [
 o 78 (.mv (t 0)),
 o 79 (.mv (t 11)),
 o 80 (.call 217 [(t 78), (t 79)])]
def f147r21 : List SOper := [
 o 81 (.mv (t 11)),
 o 82 (.build [(.int .i64 0), (.string ⟨#[]⟩), (.int .i64 0), (.int .i64 0)] [(0, 1), (1, 1)] [(i 4), (t 81)]),
 o 83 (.mv (t 11)),
 o 84 (.lens (t 83)),
 q (.st 4 (t 2) (t 82)),
 o 3 (.mv (t 84))]
def f147r22 : List SOper := [
 o 85 (.ar .add (t 75) (i 1)),
 o 75 (.mv (t 85))]
def f147l23 : SCode := (.seq (.ops f147r18) (.seq (.cond (t 76) .skip (.exit 1)) (.seq (.block 2 (.seq (.ops f147r19) (.seq (.ops f147r20) (.cond (t 80) (.seq (.ops f147r21) .ret) .skip)))) (.ops f147r22))))
def f147r24 : List SOper := [
 o 86 (.build [(.int .i64 0), (.string ⟨#[]⟩), (.int .i64 0), (.int .i64 0)] [] []),
 q (.st 4 (t 2) (t 86)),
 o 3 (.mv (i 0))]
def f147r25 : List SOper := [
 o 86 (.build [(.int .i64 0), (.string ⟨#[]⟩), (.int .i64 0), (.int .i64 0)] [] []),
 q (.st 4 (t 2) (t 86)),
 o 3 (.mv (i 0))]
def f147 : SCode := (.seq (.ops f147r0) (.scopeG (.seq (.ops f147r1) (.seq (.ops f147r2) (.seq (.block 0 (.seq (.ops f147r3) (.cond (t 15) (.seq (.ops f147r4) (.seq (.seq (.tree [27, 28, 29, 30, 31] f147t5) (.cond (t 31) (.ops f147r6) (.seq (.ops f147r7) (.cond (t 36) (.goto 0) .skip)))) (.seq (.ops f147r8) .ret))) (.seq (.ops f147r9) (.cond (t 39) (.seq (.ops f147r10) (.seq (.seq (.ops f147r11) (.cond (t 50) (.goto 0) .skip)) (.seq (.ops f147r12) .ret))) (.seq (.ops f147r13) (.cond (t 55) (.seq (.ops f147r14) (.seq (.seq (.ops f147r15) (.cond (t 70) (.goto 0) .skip)) (.seq (.ops f147r16) .ret))) .skip))))))) (.seq (.seq (.ops f147r17) (.block 1 (.loop f147l23))) (.seq (.label 0) (.seq (.ops f147r24) .ret)))))) 0 (.seq .skip (.seq (.ops f147r25) .ret))))
def f147_ent : Ent := .code 87 f147 [.cn 2 4, .t 3]
theorem f147_ok (oq : Nat → Value) (F : Nat → Prop) (h0 : Heap) : EntOK Tryz.prog oq F h0 147 f147_ent := ⟨soundD_of (fl := false) mixed Tryz.func147 rfl (by kernel_rfl) (by kernel_rfl) (by kernel_rfl), soundF_of (fl := false) mixed Tryz.func147 rfl (by kernel_rfl) (by kernel_rfl) (by kernel_rfl)⟩

/-! 154: (*tabor/syntax.reader).behind -/
def f154r0 : List SOper := [
 o 2 (.new [(.int .i64 0), (.string ⟨#[]⟩), (.string ⟨#[]⟩), (.int .i64 0), (.slice none 0 0), (.slice none 0 0)])]
def f154r1 : List SOper := [
 o 6 (.mv (t 0)),
 o 7 (.call 233 [(t 6)]),
 o 5 (.mv (t 7)),
 o 8 (.ext (t 5) 0),
 o 9 (.ext (t 5) 1),
 o 3 (.new [(.int .i64 0), (.string ⟨#[]⟩), (.string ⟨#[]⟩), (.int .i64 0), (.slice none 0 0), (.slice none 0 0)]),
 q (.st 6 (t 3) (t 8)),
 o 4 (.mv (t 9))]
def f154r2 : List SOper := [
 o 10 (.mv (t 4))]
def f154r3 : List SOper := [
 o 13 (.mv (t 0)),
 o 14 (.call 114 [(t 13), (.const (.string ⟨#[91]⟩))]),
 o 12 (.mv (t 14))]
def f154t4 : OTree := (.one (o 16 (.mv (t 0)))
 (.one (o 15 (.ldn 6 (t 3)))
 (.one (o 17 (.call 234 [(t 16), (.const (.string ⟨#[93]⟩))]))
 (.chk [o 15 (.ldn 6 (t 3))] (.one (o 18 (.bslice [(.int .i64 0), (.string ⟨#[]⟩), (.string ⟨#[]⟩), (.int .i64 0), (.slice none 0 0), (.slice none 0 0), (.int .i64 0), (.string ⟨#[]⟩), (.string ⟨#[]⟩), (.int .i64 0), (.slice none 0 0), (.slice none 0 0)] 2 [(0, 6), (6, 6)] [(t 15), (t 17)]))
 (.one (o 19 (.build [(.int .i64 0), (.string ⟨#[]⟩), (.string ⟨#[]⟩), (.int .i64 0), (.slice none 0 0), (.slice none 0 0)] [(0, 1), (5, 1)] [(i 16), (t 18)]))
 (.one (q (.st 6 (t 3) (t 19)))
 .done)))))))
def f154r5 : List SOper := [
 o 21 (.mv (t 0)),
 o 22 (.call 114 [(t 21), (.const (.string ⟨#[46]⟩))]),
 o 20 (.mv (t 22))]
def f154t6 : OTree := (.one (o 24 (.mv (t 0)))
 (.one (o 23 (.ldn 6 (t 3)))
 (.one (o 25 (.call 225 [(t 24)]))
 (.chk [o 23 (.ldn 6 (t 3))] (.one (o 26 (.build [(.int .i64 0), (.string ⟨#[]⟩), (.string ⟨#[]⟩), (.int .i64 0), (.slice none 0 0), (.slice none 0 0)] [(0, 1), (2, 1)] [(i 14), (t 25)]))
 (.chk [o 23 (.ldn 6 (t 3))] (.one (o 27 (.bslice [(.int .i64 0), (.string ⟨#[]⟩), (.string ⟨#[]⟩), (.int .i64 0), (.slice none 0 0), (.slice none 0 0), (.int .i64 0), (.string ⟨#[]⟩), (.string ⟨#[]⟩), (.int .i64 0), (.slice none 0 0), (.slice none 0 0)] 2 [(0, 6), (6, 6)] [(t 23), (t 26)]))
 (.one (o 28 (.build [(.int .i64 0), (.string ⟨#[]⟩), (.string ⟨#[]⟩), (.int .i64 0), (.slice none 0 0), (.slice none 0 0)] [(0, 1), (5, 1)] [(i 16), (t 27)]))
 (.one (q (.st 6 (t 3) (t 28)))
 .done)))))))))
def f154r7 : List SOper := [
 o 11 (.ldn 6 (t 3)),
 q (.st 6 (t 2) (t 11))]
def f154l8 : SCode := (.seq (.seq (.ops f154r2) (.cond (t 10) .skip (.exit 0))) (.block 1 (.block 2 (.seq (.ops f154r3) (.cond (t 12) (.tree [15, 16, 17, 18, 19] f154t4) (.seq (.ops f154r5) (.cond (t 20) (.tree [23, 24, 25, 26, 27, 28] f154t6) (.seq (.ops f154r7) .ret))))))))
def f154r9 : List SOper := [
 o 29 (.ldn 6 (t 3)),
 q (.st 6 (t 2) (t 29))]
def f154 : SCode := (.seq (.ops f154r0) (.seq (.ops f154r1) (.seq (.block 0 (.loop f154l8)) (.seq (.ops f154r9) .ret))))
def f154_ent : Ent := .code 30 f154 [.cn 2 6]
theorem f154_ok (oq : Nat → Value) (F : Nat → Prop) (h0 : Heap) : EntOK Tryz.prog oq F h0 154 f154_ent := ⟨soundD_of (fl := false) mixed Tryz.func154 rfl (by kernel_rfl) (by kernel_rfl) (by kernel_rfl), soundF_of (fl := false) mixed Tryz.func154 rfl (by kernel_rfl) (by kernel_rfl) (by kernel_rfl)⟩

/-! 158: tabor/syntax.block -/
def f158r0 : List SOper := [
 o 2 (.mv (b false))]
def f158r1 : List SOper := [
 o 5 (.mv (t 0)),
 o 6 (.len (t 5)),
 o 7 (.mv (i 0))]
def f158r2 : List SOper := [
 o 8 (.cmp .lss (t 7) (t 6))]
def f158r3 : List SOper := [
 o 9 (.mv (t 7)),
 o 10 (.ixs 6 (t 5) (t 7)),
 o 11 (.ldn 6 (t 10)),
 o 4 (.new [(.int .i64 0), (.string ⟨#[]⟩), (.string ⟨#[]⟩), (.int .i64 0), (.slice none 0 0), (.slice none 0 0)]),
 o 3 (.mv (t 9)),
 q (.st 6 (t 4) (t 11))]
def f158t4 : OTree := (.one (o 13 (.fa 0 (t 4)))
 (.one (o 14 (.ld1 (t 13)))
 (.one (o 12 (.call 159 []))
 (.chk [o 14 (.ld1 (t 13))] (.one (o 15 (.look (.int .i64) (.agg #[(.bool false), (.bool false), (.bool false), (.bool false), (.int .i64 0), (.int .i64 0), (.bool false), .nilFunc]) false (t 12) (t 14)))
 (.chk [o 14 (.ld1 (t 13))] (.one (o 16 (.fl1 6 (t 15)))
 (.chk [o 14 (.ld1 (t 13))] (.one (o 17 (.un .not (t 16)))
 (.chk [o 14 (.ld1 (t 13))] (.one (o 18 (.mv (t 17)))
 (.chk [o 14 (.ld1 (t 13))] (.one (n 19 18 (.mv (t 3)))
 (.chk [o 14 (.ld1 (t 13))] (.one (n 20 18 (.mv (t 0)))
 (.chk [o 14 (.ld1 (t 13))] (.one (n 21 18 (.len (t 20)))
 (.chk [o 14 (.ld1 (t 13))] (.one (n 22 18 (.ar .sub (t 21) (i 1)))
 (.chk [o 14 (.ld1 (t 13))] (.one (n 23 18 (.cmp .lss (t 19) (t 22)))
 (.chk [o 14 (.ld1 (t 13))] (.one (n 24 18 (.mv (t 23)))
 (.chk [o 14 (.ld1 (t 13))] (.one (g 25 24 (.fa 0 (t 4)))
 (.chk [o 14 (.ld1 (t 13))] (.one (g 26 24 (.ld1 (t 25)))
 (.chk [o 14 (.ld1 (t 13))] (.one (g 27 24 (.cmp .eql (t 26) (i 7)))
 (.chk [o 14 (.ld1 (t 13))] (.one (g 28 24 (.mv (t 27)))
 (.chk [o 14 (.ld1 (t 13))] (.one (n 29 28 (.fa 0 (t 4)))
 (.chk [o 14 (.ld1 (t 13))] (.one (n 30 28 (.ld1 (t 29)))
 (.chk [o 14 (.ld1 (t 13))] (.one (n 31 28 (.cmp .eql (t 30) (i 8)))
 (.chk [o 14 (.ld1 (t 13))] (.one (g 32 24 (.pick (t 28) (b true) (t 31)))
 (.chk [o 14 (.ld1 (t 13))] (.one (n 33 18 (.pick (t 24) (t 32) (b false)))
 (.chk [o 14 (.ld1 (t 13))] (.one (o 34 (.pick (t 18) (b true) (t 33)))
 (.chk [o 14 (.ld1 (t 13))] .done))))))))))))))))))))))))))))))))))))))))))))
def f158r5 : List SOper := [
 o 2 (.mv (b false))]
def f158r6 : List SOper := [
 o 35 (.ar .add (t 7) (i 1)),
 o 7 (.mv (t 35))]
def f158l7 : SCode := (.seq (.ops f158r2) (.seq (.cond (t 8) .skip (.exit 0)) (.seq (.block 1 (.seq (.ops f158r3) (.seq (.tree [12, 13, 14, 15, 16, 17, 18, 19, 20, 21, 22, 23, 24, 25, 26, 27, 28, 29, 30, 31, 32, 33, 34] f158t4) (.cond (t 34) (.seq (.ops f158r5) .ret) .skip)))) (.ops f158r6))))
def f158r8 : List SOper := [
 o 2 (.mv (b true))]
def f158 : SCode := (.seq (.ops f158r0) (.seq (.seq (.ops f158r1) (.block 0 (.loop f158l7))) (.seq (.ops f158r8) .ret)))
def f158_ent : Ent := .code 36 f158 [.t 2]
theorem f158_ok (oq : Nat → Value) (F : Nat → Prop) (h0 : Heap) : EntOK Tryz.prog oq F h0 158 f158_ent := ⟨soundD_of (fl := false) mixed Tryz.func158 rfl (by kernel_rfl) (by kernel_rfl) (by kernel_rfl), soundF_of (fl := false) mixed Tryz.func158 rfl (by kernel_rfl) (by kernel_rfl) (by kernel_rfl)⟩

/-! 164: (*tabor/scopes.walker).block -/
def f164r0 : List SOper := [
 o 2 (.box (t 0))]
def f164t1 : OTree := (.one (o 6 (.ld1 (t 2)))
 (.one (o 7 (.nilck (t 6)))
 (.one (o 8 (.fa 0 (t 7)))
 (.one (o 9 (.fa 0 (t 8)))
 (.one (o 10 (.ld1 (t 9)))
 (.one (o 11 (.len (t 10)))
 (.one (o 12 (.ld1 (t 2)))
 (.one (o 13 (.nilck (t 12)))
 (.chk [o 12 (.ld1 (t 2))] (.one (o 14 (.fa 0 (t 13)))
 (.chk [o 12 (.ld1 (t 2))] (.one (o 15 (.fa 1 (t 14)))
 (.chk [o 12 (.ld1 (t 2))] (.one (o 16 (.ld1 (t 15)))
 (.one (o 17 (.len (t 16)))
 (.chk [o 16 (.ld1 (t 15)), o 12 (.ld1 (t 2))] (.both (.one (o 4 (.new [(.int .i64 0)]))
 (.chk [o 16 (.ld1 (t 15)), o 12 (.ld1 (t 2))] (.one (o 5 (.new [(.int .i64 0)]))
 (.chk [o 16 (.ld1 (t 15)), o 12 (.ld1 (t 2))] (.one (q (.st 1 (t 4) (t 11)))
 (.chk [o 16 (.ld1 (t 15)), o 12 (.ld1 (t 2))] (.one (q (.st 1 (t 5) (t 17)))
 .done))))))) (.one (o 5 (.new [(.int .i64 0)]))
 (.chk [o 16 (.ld1 (t 15)), o 12 (.ld1 (t 2))] (.one (o 4 (.new [(.int .i64 0)]))
 (.chk [o 16 (.ld1 (t 15)), o 12 (.ld1 (t 2))] (.one (q (.st 1 (t 4) (t 11)))
 (.chk [o 16 (.ld1 (t 15)), o 12 (.ld1 (t 2))] (.one (q (.st 1 (t 5) (t 17)))
 .done))))))))))))))))))))))))
def f164r2 : List SOper := [
 o 18 (.fn 251 [] [(t 2), (t 4), (t 5)])]
def f164r3 : List SOper := [
 o 19 (.mv (t 1)),
 o 20 (.callv (t 19) [])]
def f164 : SCode := (.seq (.ops f164r0) (.seq (.tree [6, 7, 8, 9, 10, 11, 12, 13, 14, 15, 16, 17, 4, 5] f164t1) (.seq (.dfr f164r2 none (t 18) []) (.ops f164r3))))
def f164_ent : Ent := .code 21 f164 []
theorem f164_ok (oq : Nat → Value) (F : Nat → Prop) (h0 : Heap) : EntOK Tryz.prog oq F h0 164 f164_ent := ⟨soundD_of (fl := false) mixed Tryz.func164 rfl (by kernel_rfl) (by kernel_rfl) (by kernel_rfl), soundF_of (fl := false) mixed Tryz.func164 rfl (by kernel_rfl) (by kernel_rfl) (by kernel_rfl)⟩

/-! 175: (*tabor/compile.maker).statement -/
def f175r0 : List SOper := [
 o 3 (.box (t 1))]
def f175t1 : OTree := (.one (o 5 (.fa 0 (t 3)))
 (.one (o 8 (.mv (t 0)))
 (.one (o 6 (.ld1 (t 5)))
 (.one (o 9 (.ldn 6 (t 3)))
 (.one (o 4 (.call 258 []))
 (.chk [o 9 (.ldn 6 (t 3)), o 6 (.ld1 (t 5))] (.one (o 7 (.look (.int .i64) .nilFunc false (t 4) (t 6)))
 (.chk [o 9 (.ldn 6 (t 3)), o 6 (.ld1 (t 5))] (.one (o 10 (.callv (t 7) [(t 8), (t 9)]))
 .done)))))))))
def f175 : SCode := (.seq (.ops f175r0) (.tree [4, 5, 6, 7, 8, 9, 10] f175t1))
def f175_ent : Ent := .code 11 f175 []
theorem f175_ok (oq : Nat → Value) (F : Nat → Prop) (h0 : Heap) : EntOK Tryz.prog oq F h0 175 f175_ent := ⟨soundD_of (fl := false) mixed Tryz.func175 rfl (by kernel_rfl) (by kernel_rfl) (by kernel_rfl), soundF_of (fl := false) mixed Tryz.func175 rfl (by kernel_rfl) (by kernel_rfl) (by kernel_rfl)⟩

/-! 231: (*tabor/syntax.reader).operator -/
def f231r0 : List SOper := [
 o 4 (.mv e),
 o 5 (.mv (b false))]
def f231t1 : OTree := (.one (o 6 (.mv (t 0)))
 (.one (o 7 (.nilck (t 6)))
 (.one (o 8 (.fa 1 (t 7)))
 (.one (o 9 (.ld1 (t 8)))
 (.one (o 10 (.mv (t 0)))
 (.one (o 11 (.nilck (t 10)))
 (.one (o 12 (.fa 0 (t 11)))
 (.one (o 13 (.ld1 (t 12)))
 (.one (o 14 (.len (t 13)))
 (.one (o 15 (.cmp .lss (t 9) (t 14)))
 (.one (o 16 (.mv (t 15)))
 (.one (g 17 16 (.mv (t 0)))
 (.one (g 18 16 (.nilck (t 17)))
 (.one (g 19 16 (.fa 0 (t 18)))
 (.one (g 20 16 (.ld1 (t 19)))
 (.one (g 21 16 (.mv (t 0)))
 (.one (g 22 16 (.nilck (t 21)))
 (.one (g 23 16 (.fa 1 (t 22)))
 (.one (g 24 16 (.ld1 (t 23)))
 (.one (g 25 16 (.ixs 4 (t 20) (t 24)))
 (.one (g 26 16 (.fa 0 (t 25)))
 (.one (g 27 16 (.ld1 (t 26)))
 (.one (g 28 16 (.cmp .eql (t 27) (i 4)))
 (.one (g 29 16 (.mv (t 28)))
 (.one (n 30 29 (.mv (t 0)))
 (.one (n 31 29 (.nilck (t 30)))
 (.one (n 32 29 (.fa 0 (t 31)))
 (.one (n 33 29 (.ld1 (t 32)))
 (.one (n 34 29 (.mv (t 0)))
 (.one (n 35 29 (.nilck (t 34)))
 (.one (n 36 29 (.fa 1 (t 35)))
 (.one (n 37 29 (.ld1 (t 36)))
 (.one (n 38 29 (.ixs 4 (t 33) (t 37)))
 (.one (n 39 29 (.fa 0 (t 38)))
 (.one (n 40 29 (.ld1 (t 39)))
 (.one (n 41 29 (.cmp .eql (t 40) (i 1)))
 (.one (g 42 16 (.pick (t 29) (b true) (t 41)))
 (.one (o 43 (.pick (t 16) (t 42) (b false)))
 (.one (o 44 (.mv (t 43)))
 (.one (g 46 44 (.mv (t 1)))
 (.one (g 49 44 (.mv (t 0)))
 (.one (g 50 44 (.nilck (t 49)))
 (.one (g 51 44 (.fa 0 (t 50)))
 (.one (g 53 44 (.mv (t 0)))
 (.one (g 54 44 (.nilck (t 53)))
 (.one (g 55 44 (.fa 1 (t 54)))
 (.one (g 52 44 (.ld1 (t 51)))
 (.one (g 56 44 (.ld1 (t 55)))
 (.one (g 57 44 (.ixs 4 (t 52) (t 56)))
 (.chk [g 56 44 (.ld1 (t 55)), g 52 44 (.ld1 (t 51))] (.one (g 58 44 (.fa 1 (t 57)))
 (.chk [g 56 44 (.ld1 (t 55)), g 52 44 (.ld1 (t 51))] (.one (g 59 44 (.ld1 (t 58)))
 (.one (g 45 44 (.call 229 []))
 (.chk [g 59 44 (.ld1 (t 58)), g 56 44 (.ld1 (t 55)), g 52 44 (.ld1 (t 51))] (.one (g 47 44 (.ixs 1 (t 45) (t 46)))
 (.chk [g 59 44 (.ld1 (t 58)), g 56 44 (.ld1 (t 55)), g 52 44 (.ld1 (t 51))] (.one (g 48 44 (.ld1 (t 47)))
 (.chk [g 59 44 (.ld1 (t 58)), g 56 44 (.ld1 (t 55)), g 52 44 (.ld1 (t 51))] (.one (g 60 44 (.look .str (.bool false) false (t 48) (t 59)))
 (.chk [g 59 44 (.ld1 (t 58)), g 56 44 (.ld1 (t 55)), g 52 44 (.ld1 (t 51))] (.one (o 61 (.pick (t 44) (t 60) (b false)))
 (.chk [g 59 44 (.ld1 (t 58)), g 56 44 (.ld1 (t 55)), g 52 44 (.ld1 (t 51))] .done)))))))))))))))))))))))))))))))))))))))))))))))))))))))))))))))
def f231r2 : List SOper := [
 o 62 (.mv (t 0)),
 o 63 (.nilck (t 62)),
 o 64 (.fa 1 (t 63)),
 o 65 (.ld1 (t 64)),
 o 66 (.ar .add (t 65) (i 1)),
 o 67 (.nilck (t 62)),
 o 68 (.fa 1 (t 67)),
 q (.st 1 (t 68) (t 66))]
def f231r3 : List SOper := [
 o 69 (.mv (t 0)),
 o 70 (.nilck (t 69)),
 o 71 (.fa 0 (t 70)),
 o 72 (.ld1 (t 71)),
 o 73 (.mv (t 0)),
 o 74 (.nilck (t 73)),
 o 75 (.fa 1 (t 74)),
 o 76 (.ld1 (t 75)),
 o 77 (.ar .sub (t 76) (i 1)),
 o 78 (.ixs 4 (t 72) (t 77)),
 o 79 (.fa 1 (t 78)),
 o 80 (.ld1 (t 79)),
 o 4 (.mv (t 80)),
 o 5 (.mv (b true))]
def f231r4 : List SOper := [
 o 4 (.mv e),
 o 5 (.mv (b false))]
def f231 : SCode := (.seq (.ops f231r0) (.seq (.seq (.tree [6, 7, 8, 9, 10, 11, 12, 13, 14, 15, 16, 17, 18, 19, 20, 21, 22, 23, 24, 25, 26, 27, 28, 29, 30, 31, 32, 33, 34, 35, 36, 37, 38, 39, 40, 41, 42, 43, 44, 45, 46, 47, 48, 49, 50, 51, 52, 53, 54, 55, 56, 57, 58, 59, 60, 61] f231t1) (.cond (t 61) (.seq (.ops f231r2) (.seq (.ops f231r3) .ret)) .skip)) (.seq (.ops f231r4) .ret)))
def f231_ent : Ent := .code 81 f231 [.t 4, .t 5]
theorem f231_ok (oq : Nat → Value) (F : Nat → Prop) (h0 : Heap) : EntOK Tryz.prog oq F h0 231 f231_ent := ⟨soundD_of (fl := false) mixed Tryz.func231 rfl (by kernel_rfl) (by kernel_rfl) (by kernel_rfl), soundF_of (fl := false) mixed Tryz.func231 rfl (by kernel_rfl) (by kernel_rfl) (by kernel_rfl)⟩

/-! 367: (*tabor/compile.constants).int -/
def f367r0 : List SOper := [
 o 4 (.mv (i 0))]
def f367r1 : List SOper := [
 o 8 (.mv (t 0)),
 o 9 (.nilck (t 8)),
 o 10 (.fa 0 (t 9)),
 o 11 (.ld1 (t 10)),
 o 12 (.mv (t 1)),
 o 13 (.look (.int .i64) (.int .i64 0) true (t 11) (t 12)),
 o 7 (.mv (t 13)),
 o 14 (.ext (t 7) 0),
 o 15 (.ext (t 7) 1),
 o 5 (.mv (t 14)),
 o 6 (.mv (t 15))]
def f367r2 : List SOper := [
 o 16 (.mv (t 6)),
 o 17 (.un .not (t 16))]
def f367r3 : List SOper := [
 o 18 (.mv (t 0)),
 o 19 (.nilck (t 18)),
 o 20 (.fa 2 (t 19)),
 o 21 (.ld1 (t 20)),
 o 22 (.nilck (t 21)),
 o 23 (.fa 1 (t 22)),
 o 24 (.ld1 (t 23)),
 o 25 (.len (t 24)),
 o 5 (.mv (t 25))]
def f367r4 : List SOper := [
 o 26 (.mv (t 0)),
 o 27 (.nilck (t 26)),
 o 28 (.fa 0 (t 27)),
 o 29 (.ld1 (t 28)),
 o 30 (.mv (t 1)),
 o 31 (.mv (t 5)),
 q (.mup (.int .i64) (t 29) (t 30) (t 31))]
def f367t5 : OTree := (.one (o 32 (.mv (t 0)))
 (.one (o 33 (.nilck (t 32)))
 (.one (o 34 (.fa 2 (t 33)))
 (.one (o 36 (.mv (t 0)))
 (.one (o 37 (.nilck (t 36)))
 (.one (o 38 (.fa 2 (t 37)))
 (.one (o 39 (.ld1 (t 38)))
 (.one (o 40 (.nilck (t 39)))
 (.one (o 41 (.fa 1 (t 40)))
 (.one (o 42 (.ld1 (t 41)))
 (.one (o 43 (.mv (t 1)))
 (.one (o 35 (.ld1 (t 34)))
 (.one (o 44 (.bslice [(.int .i64 0)] 1 [(0, 1)] [(t 43)]))
 (.chk [o 35 (.ld1 (t 34))] (.one (o 45 (.app 1 8 [(.int .i64 0)] (t 42) (t 44)))
 (.chk [o 35 (.ld1 (t 34))] (.one (o 46 (.nilck (t 35)))
 (.chk [o 35 (.ld1 (t 34))] (.one (o 47 (.fa 1 (t 46)))
 (.chk [o 35 (.ld1 (t 34))] (.one (q (.st 1 (t 47) (t 45)))
 .done)))))))))))))))))))))
def f367r6 : List SOper := [
 o 48 (.mv (t 5)),
 o 4 (.mv (t 48))]
def f367 : SCode := (.seq (.ops f367r0) (.seq (.ops f367r1) (.seq (.seq (.ops f367r2) (.cond (t 17) (.seq (.ops f367r3) (.seq (.ops f367r4) (.tree [32, 33, 34, 35, 36, 37, 38, 39, 40, 41, 42, 43, 44, 45, 46, 47] f367t5))) .skip)) (.seq (.ops f367r6) .ret))))
def f367_ent : Ent := .code 49 f367 [.t 4]
theorem f367_ok (oq : Nat → Value) (F : Nat → Prop) (h0 : Heap) : EntOK Tryz.prog oq F h0 367 f367_ent := ⟨soundD_of (fl := false) mixed Tryz.func367 rfl (by kernel_rfl) (by kernel_rfl) (by kernel_rfl), soundF_of (fl := false) mixed Tryz.func367 rfl (by kernel_rfl) (by kernel_rfl) (by kernel_rfl)⟩

/-! 411: (*tabor/compile.maker).into$1 -/
def f411t0 : OTree := (.one (o 4 (.fa 0 (t 0)))
 (.one (o 5 (.ld1 (t 4)))
 (.one (o 7 (.ld1 (t 1)))
 (.one (o 8 (.ld1 (t 2)))
 (.one (o 9 (.ldn 6 (t 0)))
 (.one (o 3 (.call 412 []))
 (.chk [o 9 (.ldn 6 (t 0)), o 8 (.ld1 (t 2)), o 7 (.ld1 (t 1)), o 5 (.ld1 (t 4))] (.one (o 6 (.look (.int .i64) .nilFunc false (t 3) (t 5)))
 (.chk [o 9 (.ldn 6 (t 0)), o 8 (.ld1 (t 2)), o 7 (.ld1 (t 1)), o 5 (.ld1 (t 4))] (.one (o 10 (.callv (t 6) [(t 7), (t 8), (t 9)]))
 .done))))))))))
def f411 : SCode := (.tree [3, 4, 5, 6, 7, 8, 9, 10] f411t0)
def f411_ent : Ent := .code 11 f411 []
theorem f411_ok (oq : Nat → Value) (F : Nat → Prop) (h0 : Heap) : EntOK Tryz.prog oq F h0 411 f411_ent := ⟨soundD_of (fl := false) mixed Tryz.func411 rfl (by kernel_rfl) (by kernel_rfl) (by kernel_rfl), soundF_of (fl := false) mixed Tryz.func411 rfl (by kernel_rfl) (by kernel_rfl) (by kernel_rfl)⟩

/-! 493: (*tabor/compile.maker).bin -/
def f493r0 : List SOper := [
 o 5 (.box (t 2))]
def f493r1 : List SOper := [
 o 8 (.mv (t 0)),
 o 9 (.mv (t 1)),
 o 10 (.fa 5 (t 5)),
 o 11 (.ld1 (t 10)),
 o 12 (.ixs 6 (t 11) (i 0)),
 o 13 (.ldn 6 (t 12)),
 o 14 (.call 362 [(t 8), (t 9), (t 13)])]
def f493r2 : List SOper := [
 o 15 (.fa 1 (t 5)),
 o 16 (.ld1 (t 15)),
 o 17 (.cmp .eql (t 16) (.const (.string ⟨#[97, 110, 100]⟩))),
 o 18 (.mv (t 17)),
 n 19 18 (.fa 1 (t 5)),
 n 20 18 (.ld1 (t 19)),
 n 21 18 (.cmp .eql (t 20) (.const (.string ⟨#[111, 114]⟩))),
 o 22 (.pick (t 18) (b true) (t 21))]
def f493r3 : List SOper := [
 o 6 (.mv (i 28))]
def f493r4 : List SOper := [
 o 23 (.fa 1 (t 5)),
 o 24 (.ld1 (t 23)),
 o 25 (.cmp .eql (t 24) (.const (.string ⟨#[111, 114]⟩)))]
def f493r5 : List SOper := [
 o 6 (.mv (i 29))]
def f493r6 : List SOper := [
 o 26 (.mv (t 0)),
 o 27 (.mv (t 6)),
 o 28 (.mv (t 1)),
 o 29 (.call 364 [(t 26), (t 27), (t 28)]),
 o 7 (.mv (t 29))]
def f493r7 : List SOper := [
 o 30 (.mv (t 0)),
 o 31 (.mv (t 1)),
 o 32 (.fa 5 (t 5)),
 o 33 (.ld1 (t 32)),
 o 34 (.ixs 6 (t 33) (i 1)),
 o 35 (.ldn 6 (t 34)),
 o 36 (.call 362 [(t 30), (t 31), (t 35)])]
def f493r8 : List SOper := [
 o 37 (.mv (t 7)),
 o 38 (.callv (t 37) [])]
def f493t9 : OTree := (.one (o 39 (.mv (t 0)))
 (.one (o 41 (.fa 1 (t 5)))
 (.one (o 44 (.mv (t 1)))
 (.one (o 45 (.mv (t 1)))
 (.one (o 46 (.mv (t 0)))
 (.one (o 47 (.fa 5 (t 5)))
 (.one (o 42 (.ld1 (t 41)))
 (.one (o 48 (.ld1 (t 47)))
 (.one (o 49 (.ixs 6 (t 48) (i 1)))
 (.chk [o 48 (.ld1 (t 47)), o 42 (.ld1 (t 41))] (.one (o 50 (.ldn 6 (t 49)))
 (.one (o 40 (.call 577 []))
 (.chk [o 50 (.ldn 6 (t 49)), o 48 (.ld1 (t 47)), o 42 (.ld1 (t 41))] (.one (o 43 (.look .str (.int .i64 0) false (t 40) (t 42)))
 (.one (o 51 (.call 360 [(t 46), (t 50)]))
 (.chk [o 43 (.look .str (.int .i64 0) false (t 40) (t 42)), o 42 (.ld1 (t 41))] (.one (o 52 (.call 123 [(t 39), (t 43), (t 44), (t 45), (t 51)]))
 .done)))))))))))))))))
def f493 : SCode := (.seq (.ops f493r0) (.seq (.ops f493r1) (.seq (.seq (.ops f493r2) (.cond (t 22) (.seq (.ops f493r3) (.seq (.seq (.ops f493r4) (.cond (t 25) (.ops f493r5) .skip)) (.seq (.ops f493r6) (.seq (.ops f493r7) (.seq (.ops f493r8) .ret))))) .skip)) (.tree [39, 40, 41, 42, 43, 44, 45, 46, 47, 48, 49, 50, 51, 52] f493t9))))
def f493_ent : Ent := .code 53 f493 []
theorem f493_ok (oq : Nat → Value) (F : Nat → Prop) (h0 : Heap) : EntOK Tryz.prog oq F h0 493 f493_ent := ⟨soundD_of (fl := false) mixed Tryz.func493 rfl (by kernel_rfl) (by kernel_rfl) (by kernel_rfl), soundF_of (fl := false) mixed Tryz.func493 rfl (by kernel_rfl) (by kernel_rfl) (by kernel_rfl)⟩

end Go.Proofs.YtaeabfemedamhaaGreatDoor.Q
