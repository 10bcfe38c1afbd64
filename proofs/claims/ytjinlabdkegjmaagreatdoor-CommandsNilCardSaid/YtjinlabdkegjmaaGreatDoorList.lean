/-
  Functions as runs take them. Printed by a program (wip/prun.lean).
-/
import Derived.Test.YtjinlabdkegjmaaGreatDoorSxYJ
import Derived.Test.YtjinlabdkegjmaaGreatDoorProg
set_option maxRecDepth 100000
namespace Go.Proofs.YtjinlabdkegjmaaGreatDoor.Q
open Go Go.Sx Go.Sx.S

theorem mixed : Tryz.prog.follows .mixedOrders = true := by kernel_rfl

/-! 14: tabor/commands.Do -/
def f14r0 : List SOper := [
 o 6 (.new [(.int .i64 0), (.int .i64 0), (.string ⟨#[]⟩), (.slice none 0 0)]),
 o 7 (.mv (.const (.slice none 0 0)))]
def f14r1 : List SOper := [
 o 11 (.mv (t 0)),
 o 12 (.mv (t 1)),
 o 13 (.mv (t 2)),
 o 14 (.call 15 [(t 11), (t 12), (t 13)]),
 o 10 (.mv (t 14)),
 o 15 (.ext (t 10) 0),
 o 16 (.ext (t 10) 1),
 o 8 (.new [(.int .i64 0), (.int .i64 0), (.string ⟨#[]⟩), (.slice none 0 0)]),
 q (.st 4 (t 8) (t 15)),
 o 9 (.mv (t 16))]
def f14r2 : List SOper := [
 o 17 (.mv (t 0)),
 o 18 (.mv (t 9)),
 o 19 (.call 30 [(t 17), (t 18)])]
def f14r3 : List SOper := [
 o 20 (.ldn 4 (t 8)),
 o 21 (.mv (t 9)),
 q (.st 4 (t 6) (t 20)),
 o 7 (.mv (t 21))]
def f14 : SCode := (.seq (.ops f14r0) (.seq (.ops f14r1) (.seq (.ops f14r2) (.seq (.ops f14r3) .ret))))
def f14_ent : Ent := .code 22 f14 [.cn 6 4, .t 7]
theorem f14_ok (oq : Nat → Value) (F : Nat → Prop) (h0 : Heap) : EntOK Tryz.prog oq F h0 14 f14_ent := ⟨soundD_of (fl := false) mixed Tryz.func14 rfl (by kernel_rfl) (by kernel_rfl) (by kernel_rfl), soundF_of (fl := false) mixed Tryz.func14 rfl (by kernel_rfl) (by kernel_rfl) (by kernel_rfl)⟩

/-! 15: tabor/commands.Ask -/
def f15r0 : List SOper := [
 o 6 (.new [(.int .i64 0), (.int .i64 0), (.string ⟨#[]⟩), (.slice none 0 0)]),
 o 7 (.mv (.const (.slice none 0 0)))]
def f15r1 : List SOper := [
 o 15 (.mv (t 2)),
 o 16 (.call 31 [(t 15)]),
 o 17 (.mv (t 16)),
 g 18 17 (.mv (t 0)),
 g 19 17 (.call 24 [(t 18), (.const (.pointer none))]),
 g 20 17 (.un .not (t 19)),
 o 21 (.pick (t 17) (t 20) (b false))]
def f15r2 : List SOper := [
 o 22 (.call 27 [(.const (.string ⟨#[69, 82, 82, 32, 108, 111, 110, 103]⟩))]),
 q (.st 4 (t 6) (t 22)),
 o 7 (.mv (.const (.slice none 0 0)))]
def f15r3 : List SOper := [
 o 23 (.build [(.int .i64 0), (.int .i64 0), (.string ⟨#[]⟩), (.slice none 0 0)] [] []),
 o 8 (.new [(.int .i64 0), (.int .i64 0), (.string ⟨#[]⟩), (.slice none 0 0)]),
 q (.st 4 (t 8) (t 23)),
 o 9 (.mv (.const (.slice none 0 0))),
 o 10 (.mv (b false))]
def f15r4 : List SOper := [
 o 24 (.call 32 []),
 o 25 (.len (t 24)),
 o 26 (.mv (i 0))]
def f15r5 : List SOper := [
 o 27 (.cmp .lss (t 26) (t 25))]
def f15r6 : List SOper := [
 o 28 (.ixs 1 (t 24) (t 26)),
 o 29 (.ld1 (t 28)),
 o 12 (.mv (t 29))]
def f15r7 : List SOper := [
 o 31 (.mv (t 12)),
 o 32 (.mv (t 0)),
 o 33 (.mv (t 1)),
 o 34 (.mv (t 2)),
 o 35 (.callv (t 31) [(t 32), (t 33), (t 34)]),
 o 30 (.mv (t 35)),
 o 36 (.ext (t 30) 0),
 o 37 (.ext (t 30) 1),
 o 38 (.ext (t 30) 2),
 q (.st 4 (t 8) (t 36)),
 o 9 (.mv (t 37)),
 o 10 (.mv (t 38))]
def f15r8 : List SOper := [
 o 39 (.mv (t 10))]
def f15r9 : List SOper := [
 o 40 (.ar .add (t 26) (i 1)),
 o 26 (.mv (t 40))]
def f15l10 : SCode := (.seq (.ops f15r5) (.seq (.cond (t 27) .skip (.exit 0)) (.seq (.block 1 (.seq (.ops f15r6) (.seq (.ops f15r7) (.seq (.ops f15r8) (.cond (t 39) (.exit 0) .skip))))) (.ops f15r9))))
def f15r11 : List SOper := [
 o 41 (.mv (t 10)),
 o 42 (.un .not (t 41))]
def f15r12 : List SOper := [
 o 43 (.call 27 [(.const (.string ⟨#[69, 82, 82, 32, 117, 110, 107, 110, 111, 119, 110]⟩))]),
 q (.st 4 (t 6) (t 43)),
 o 7 (.mv (.const (.slice none 0 0)))]
def f15r13 : List SOper := [
 o 44 (.mv (t 9)),
 o 45 (.len (t 44)),
 o 46 (.cmp .gtr (t 45) (i 0))]
def f15r14 : List SOper := [
 o 48 (.mv (t 0)),
 o 49 (.call 33 [(t 48)]),
 o 50 (.mv (t 9)),
 o 51 (.call 30 [(t 49), (t 50)]),
 o 47 (.mv (t 51)),
 o 52 (.ext (t 47) 0),
 o 53 (.ext (t 47) 1),
 o 13 (.mv (t 52)),
 o 14 (.mv (t 53))]
def f15r15 : List SOper := [
 o 54 (.mv (t 14)),
 o 55 (.cmp .neq (t 54) (i 0))]
def f15r16 : List SOper := [
 o 56 (.call 27 [(.const (.string ⟨#[69, 82, 82, 32, 102, 117, 108, 108]⟩))]),
 q (.st 4 (t 6) (t 56)),
 o 7 (.mv (.const (.slice none 0 0)))]
def f15r17 : List SOper := [
 o 57 (.ldn 4 (t 8)),
 o 58 (.mv (t 9)),
 q (.st 4 (t 6) (t 57)),
 o 7 (.mv (t 58))]
def f15r18 : List SOper := [
 o 24 (.call 32 []),
 o 25 (.len (t 24)),
 o 26 (.mv (i 0))]
def f15r19 : List SOper := [
 o 27 (.cmp .lss (t 26) (t 25))]
def f15r20 : List SOper := [
 o 28 (.ixs 1 (t 24) (t 26)),
 o 29 (.ld1 (t 28)),
 o 12 (.mv (t 29))]
def f15r21 : List SOper := [
 o 31 (.mv (t 12)),
 o 32 (.mv (t 0)),
 o 33 (.mv (t 1)),
 o 34 (.mv (t 2)),
 o 35 (.callv (t 31) [(t 32), (t 33), (t 34)]),
 o 30 (.mv (t 35)),
 o 36 (.ext (t 30) 0),
 o 37 (.ext (t 30) 1),
 o 38 (.ext (t 30) 2),
 q (.st 4 (t 8) (t 36)),
 o 9 (.mv (t 37)),
 o 10 (.mv (t 38))]
def f15r22 : List SOper := [
 o 39 (.mv (t 10))]
def f15r23 : List SOper := [
 o 40 (.ar .add (t 26) (i 1)),
 o 26 (.mv (t 40))]
def f15l24 : SCode := (.seq (.ops f15r19) (.seq (.cond (t 27) .skip (.exit 0)) (.seq (.block 1 (.seq (.ops f15r20) (.seq (.ops f15r21) (.seq (.ops f15r22) (.cond (t 39) (.exit 0) .skip))))) (.ops f15r23))))
def f15r25 : List SOper := [
 o 41 (.mv (t 10)),
 o 42 (.un .not (t 41))]
def f15r26 : List SOper := [
 o 43 (.call 27 [(.const (.string ⟨#[69, 82, 82, 32, 117, 110, 107, 110, 111, 119, 110]⟩))]),
 q (.st 4 (t 6) (t 43)),
 o 7 (.mv (.const (.slice none 0 0)))]
def f15r27 : List SOper := [
 o 44 (.mv (t 9)),
 o 45 (.len (t 44)),
 o 46 (.cmp .gtr (t 45) (i 0))]
def f15r28 : List SOper := [
 o 48 (.mv (t 0)),
 o 49 (.call 33 [(t 48)]),
 o 50 (.mv (t 9)),
 o 51 (.call 30 [(t 49), (t 50)]),
 o 47 (.mv (t 51)),
 o 52 (.ext (t 47) 0),
 o 53 (.ext (t 47) 1),
 o 13 (.mv (t 52)),
 o 14 (.mv (t 53))]
def f15r29 : List SOper := [
 o 54 (.mv (t 14)),
 o 55 (.cmp .neq (t 54) (i 0))]
def f15r30 : List SOper := [
 o 56 (.call 27 [(.const (.string ⟨#[69, 82, 82, 32, 102, 117, 108, 108]⟩))]),
 q (.st 4 (t 6) (t 56)),
 o 7 (.mv (.const (.slice none 0 0)))]
def f15r31 : List SOper := [
 o 57 (.ldn 4 (t 8)),
 o 58 (.mv (t 9)),
 q (.st 4 (t 6) (t 57)),
 o 7 (.mv (t 58))]
def f15 : SCode := (.seq (.ops f15r0) (.scopeG (.seq (.seq (.ops f15r1) (.cond (t 21) (.seq (.ops f15r2) .ret) .skip)) (.seq (.ops f15r3) (.seq (.label 0) (.seq (.seq (.ops f15r4) (.block 0 (.loop f15l10))) (.seq (.seq (.ops f15r11) (.cond (t 42) (.seq (.ops f15r12) .ret) .skip)) (.seq (.seq (.ops f15r13) (.cond (t 46) (.seq (.ops f15r14) (.seq (.ops f15r15) (.cond (t 55) (.seq (.ops f15r16) .ret) .skip))) .skip)) (.seq (.ops f15r17) .ret))))))) 0 (.seq .skip (.seq (.seq (.ops f15r18) (.block 0 (.loop f15l24))) (.seq (.seq (.ops f15r25) (.cond (t 42) (.seq (.ops f15r26) .ret) .skip)) (.seq (.seq (.ops f15r27) (.cond (t 46) (.seq (.ops f15r28) (.seq (.ops f15r29) (.cond (t 55) (.seq (.ops f15r30) .ret) .skip))) .skip)) (.seq (.ops f15r31) .ret)))))))
def f15_ent : Ent := .code 59 f15 [.cn 6 4, .t 7]
theorem f15_ok (oq : Nat → Value) (F : Nat → Prop) (h0 : Heap) : EntOK Tryz.prog oq F h0 15 f15_ent := ⟨soundD_of (fl := false) mixed Tryz.func15 rfl (by kernel_rfl) (by kernel_rfl) (by kernel_rfl), soundF_of (fl := false) mixed Tryz.func15 rfl (by kernel_rfl) (by kernel_rfl) (by kernel_rfl)⟩

/-! 16: tabor/taborref08.Same -/
def f16r0 : List SOper := [
 o 2 (.box (t 0)),
 o 3 (.box (t 1)),
 o 4 (.mv (b false))]
def f16r1 : List SOper := [
 o 6 (.fa 0 (t 2)),
 o 7 (.ld1 (t 6)),
 o 8 (.fa 0 (t 3)),
 o 9 (.ld1 (t 8)),
 o 10 (.cmp .neq (t 7) (t 9)),
 o 11 (.mv (t 10)),
 n 12 11 (.fa 1 (t 2)),
 n 13 11 (.ld1 (t 12)),
 n 14 11 (.fa 1 (t 3)),
 n 15 11 (.ld1 (t 14)),
 n 16 11 (.cmp .neq (t 13) (t 15)),
 o 17 (.pick (t 11) (b true) (t 16)),
 o 18 (.mv (t 17)),
 n 19 18 (.fa 2 (t 2)),
 n 20 18 (.ld1 (t 19)),
 n 21 18 (.fa 2 (t 3)),
 n 22 18 (.ld1 (t 21)),
 n 23 18 (.cmp .neq (t 20) (t 22)),
 o 24 (.pick (t 18) (b true) (t 23)),
 o 25 (.mv (t 24)),
 n 26 25 (.fa 3 (t 2)),
 n 27 25 (.ld1 (t 26)),
 n 28 25 (.len (t 27)),
 n 29 25 (.fa 3 (t 3)),
 n 30 25 (.ld1 (t 29)),
 n 31 25 (.len (t 30)),
 n 32 25 (.cmp .neq (t 28) (t 31)),
 o 33 (.pick (t 25) (b true) (t 32))]
def f16r2 : List SOper := [
 o 4 (.mv (b false))]
def f16r3 : List SOper := [
 o 5 (.mv (i 0))]
def f16r4 : List SOper := [
 o 34 (.mv (t 5)),
 o 35 (.fa 3 (t 2)),
 o 36 (.ld1 (t 35)),
 o 37 (.len (t 36)),
 o 38 (.cmp .lss (t 34) (t 37))]
def f16r5 : List SOper := [
 o 41 (.fa 3 (t 2)),
 o 42 (.ld1 (t 41)),
 o 43 (.mv (t 5)),
 o 44 (.ixs 4 (t 42) (t 43)),
 o 45 (.ldn 4 (t 44)),
 o 46 (.fa 3 (t 3)),
 o 47 (.ld1 (t 46)),
 o 48 (.mv (t 5)),
 o 49 (.ixs 4 (t 47) (t 48)),
 o 50 (.ldn 4 (t 49)),
 o 51 (.call 16 [(t 45), (t 50)]),
 o 52 (.un .not (t 51))]
def f16r6 : List SOper := [
 o 4 (.mv (b false))]
def f16r7 : List SOper := [
 o 39 (.mv (t 5)),
 o 40 (.ar .add (t 39) (i 1)),
 o 5 (.mv (t 40))]
def f16l8 : SCode := (.seq (.seq (.ops f16r4) (.cond (t 38) .skip (.exit 0))) (.seq (.block 1 (.seq (.ops f16r5) (.cond (t 52) (.seq (.ops f16r6) .ret) .skip))) (.ops f16r7)))
def f16r9 : List SOper := [
 o 4 (.mv (b true))]
def f16 : SCode := (.seq (.ops f16r0) (.seq (.seq (.ops f16r1) (.cond (t 33) (.seq (.ops f16r2) .ret) .skip)) (.seq (.seq (.ops f16r3) (.block 0 (.loop f16l8))) (.seq (.ops f16r9) .ret))))
def f16_ent : Ent := .code 53 f16 [.t 4]
theorem f16_ok (oq : Nat → Value) (F : Nat → Prop) (h0 : Heap) : EntOK Tryz.prog oq F h0 16 f16_ent := ⟨soundD_of (fl := false) mixed Tryz.func16 rfl (by kernel_rfl) (by kernel_rfl) (by kernel_rfl), soundF_of (fl := false) mixed Tryz.func16 rfl (by kernel_rfl) (by kernel_rfl) (by kernel_rfl)⟩

/-! 24: (*tabor/keys.Keys).Same -/
def f24r0 : List SOper := [
 o 4 (.mv (b false))]
def f24r1 : List SOper := [
 o 5 (.mv (t 0)),
 o 6 (.call 69 [(t 5)]),
 o 7 (.mv (t 6)),
 n 8 7 (.mv (t 1)),
 n 9 7 (.call 69 [(t 8)]),
 o 10 (.pick (t 7) (b true) (t 9))]
def f24r2 : List SOper := [
 o 11 (.mv (t 0)),
 o 12 (.call 69 [(t 11)]),
 o 13 (.mv (t 12)),
 g 14 13 (.mv (t 1)),
 g 15 13 (.call 69 [(t 14)]),
 o 16 (.pick (t 13) (t 15) (b false)),
 o 4 (.mv (t 16))]
def f24r3 : List SOper := [
 o 17 (.mv (t 0)),
 o 18 (.nilck (t 17)),
 o 19 (.fa 0 (t 18)),
 o 20 (.ld1 (t 19)),
 o 21 (.nilck (t 20)),
 o 22 (.fa 0 (t 21)),
 o 23 (.ld1 (t 22)),
 o 24 (.mv (t 1)),
 o 25 (.nilck (t 24)),
 o 26 (.fa 0 (t 25)),
 o 27 (.ld1 (t 26)),
 o 28 (.nilck (t 27)),
 o 29 (.fa 0 (t 28)),
 o 30 (.ld1 (t 29)),
 o 31 (.call 70 [(t 23), (t 30), (u 71)]),
 o 4 (.mv (t 31))]
def f24 : SCode := (.seq (.ops f24r0) (.seq (.seq (.ops f24r1) (.cond (t 10) (.seq (.ops f24r2) .ret) .skip)) (.seq (.ops f24r3) .ret)))
def f24_ent : Ent := .code 32 f24 [.t 4]
theorem f24_ok (oq : Nat → Value) (F : Nat → Prop) (h0 : Heap) : EntOK Tryz.prog oq F h0 24 f24_ent := ⟨soundD_of (fl := false) mixed Tryz.func24 rfl (by kernel_rfl) (by kernel_rfl) (by kernel_rfl), soundF_of (fl := false) mixed Tryz.func24 rfl (by kernel_rfl) (by kernel_rfl) (by kernel_rfl)⟩

/-! 27: tabor/basics.Fail -/
def f27r0 : List SOper := [
 o 2 (.new [(.int .i64 0), (.int .i64 0), (.string ⟨#[]⟩), (.slice none 0 0)])]
def f27r1 : List SOper := [
 o 3 (.mv (t 0)),
 o 4 (.build [(.int .i64 0), (.int .i64 0), (.string ⟨#[]⟩), (.slice none 0 0)] [(0, 1), (2, 1)] [(i 2), (t 3)]),
 q (.st 4 (t 2) (t 4))]
def f27 : SCode := (.seq (.ops f27r0) (.seq (.ops f27r1) .ret))
def f27_ent : Ent := .code 5 f27 [.cn 2 4]
theorem f27_ok (oq : Nat → Value) (F : Nat → Prop) (h0 : Heap) : EntOK Tryz.prog oq F h0 27 f27_ent := ⟨soundD_of (fl := false) mixed Tryz.func27 rfl (by kernel_rfl) (by kernel_rfl) (by kernel_rfl), soundF_of (fl := false) mixed Tryz.func27 rfl (by kernel_rfl) (by kernel_rfl) (by kernel_rfl)⟩

/-! 30: (*tabor/keys.Keys).Apply -/
def f30r0 : List SOper := [
 o 4 (.mv (i 0)),
 o 5 (.mv (i 0))]
def f30r1 : List SOper := [
 o 10 (.mv (t 0)),
 o 11 (.call 69 [(t 10)])]
def f30r2 : List SOper := [
 o 4 (.mv (i 0)),
 o 5 (.mv (i 1))]
def f30r3 : List SOper := [
 o 6 (.mv (i 0))]
def f30r4 : List SOper := [
 o 7 (.mv (i 0))]
def f30r5 : List SOper := [
 o 12 (.mv (t 1)),
 o 13 (.len (t 12)),
 o 14 (.mv (i 0))]
def f30r6 : List SOper := [
 o 15 (.cmp .lss (t 14) (t 13))]
def f30r7 : List SOper := [
 o 16 (.ixs 5 (t 12) (t 14)),
 o 17 (.ldn 5 (t 16)),
 o 9 (.new [(.int .i64 0), (.string ⟨#[]⟩), (.string ⟨#[]⟩), (.string ⟨#[]⟩), (.int .i64 0)]),
 q (.st 5 (t 9) (t 17))]
def f30r8 : List SOper := [
 o 18 (.mv (t 0)),
 o 19 (.ldn 5 (t 9)),
 o 20 (.call 75 [(t 18), (t 19)]),
 o 7 (.mv (t 20))]
def f30r9 : List SOper := [
 o 21 (.mv (t 7)),
 o 22 (.cmp .neq (t 21) (i 0))]
def f30r10 : List SOper := [
 o 23 (.mv (t 6)),
 o 24 (.ar .add (t 23) (i 1)),
 o 6 (.mv (t 24))]
def f30r11 : List SOper := [
 o 25 (.ar .add (t 14) (i 1)),
 o 14 (.mv (t 25))]
def f30l12 : SCode := (.seq (.ops f30r6) (.seq (.cond (t 15) .skip (.exit 0)) (.seq (.block 1 (.seq (.ops f30r7) (.seq (.seq (.ops f30r8) (.seq (.ops f30r9) (.cond (t 22) (.exit 0) .skip))) (.ops f30r10)))) (.ops f30r11))))
def f30r13 : List SOper := [
 o 26 (.mv (t 6)),
 o 27 (.mv (t 7)),
 o 4 (.mv (t 26)),
 o 5 (.mv (t 27))]
def f30r14 : List SOper := [
 o 12 (.mv (t 1)),
 o 13 (.len (t 12)),
 o 14 (.mv (i 0))]
def f30r15 : List SOper := [
 o 15 (.cmp .lss (t 14) (t 13))]
def f30r16 : List SOper := [
 o 16 (.ixs 5 (t 12) (t 14)),
 o 17 (.ldn 5 (t 16)),
 o 9 (.new [(.int .i64 0), (.string ⟨#[]⟩), (.string ⟨#[]⟩), (.string ⟨#[]⟩), (.int .i64 0)]),
 q (.st 5 (t 9) (t 17))]
def f30r17 : List SOper := [
 o 18 (.mv (t 0)),
 o 19 (.ldn 5 (t 9)),
 o 20 (.call 75 [(t 18), (t 19)]),
 o 7 (.mv (t 20))]
def f30r18 : List SOper := [
 o 21 (.mv (t 7)),
 o 22 (.cmp .neq (t 21) (i 0))]
def f30r19 : List SOper := [
 o 23 (.mv (t 6)),
 o 24 (.ar .add (t 23) (i 1)),
 o 6 (.mv (t 24))]
def f30r20 : List SOper := [
 o 25 (.ar .add (t 14) (i 1)),
 o 14 (.mv (t 25))]
def f30l21 : SCode := (.seq (.ops f30r15) (.seq (.cond (t 15) .skip (.exit 0)) (.seq (.block 1 (.seq (.ops f30r16) (.seq (.seq (.ops f30r17) (.seq (.ops f30r18) (.cond (t 22) (.exit 0) .skip))) (.ops f30r19)))) (.ops f30r20))))
def f30r22 : List SOper := [
 o 26 (.mv (t 6)),
 o 27 (.mv (t 7)),
 o 4 (.mv (t 26)),
 o 5 (.mv (t 27))]
def f30 : SCode := (.seq (.ops f30r0) (.scopeG (.seq (.seq (.ops f30r1) (.cond (t 11) (.seq (.ops f30r2) .ret) .skip)) (.seq (.ops f30r3) (.seq (.ops f30r4) (.seq (.label 0) (.seq (.seq (.ops f30r5) (.block 0 (.loop f30l12))) (.seq (.ops f30r13) .ret)))))) 0 (.seq .skip (.seq (.seq (.ops f30r14) (.block 0 (.loop f30l21))) (.seq (.ops f30r22) .ret)))))
def f30_ent : Ent := .code 28 f30 [.t 4, .t 5]
theorem f30_ok (oq : Nat → Value) (F : Nat → Prop) (h0 : Heap) : EntOK Tryz.prog oq F h0 30 f30_ent := ⟨soundD_of (fl := false) mixed Tryz.func30 rfl (by kernel_rfl) (by kernel_rfl) (by kernel_rfl), soundF_of (fl := false) mixed Tryz.func30 rfl (by kernel_rfl) (by kernel_rfl) (by kernel_rfl)⟩

/-! 32: tabor/commands.layers -/
def f32r0 : List SOper := [
 o 0 (.mv (.const (.slice none 0 0)))]
def f32r1 : List SOper := [
 o 1 (.bslice [.nilFunc, .nilFunc] 2 [(0, 1), (1, 1)] [(u 37), (u 10)]),
 o 0 (.mv (t 1))]
def f32 : SCode := (.seq (.ops f32r0) (.seq (.ops f32r1) .ret))
def f32_ent : Ent := .code 2 f32 [.t 0]
theorem f32_ok (oq : Nat → Value) (F : Nat → Prop) (h0 : Heap) : EntOK Tryz.prog oq F h0 32 f32_ent := ⟨soundD_of (fl := false) mixed Tryz.func32 rfl (by kernel_rfl) (by kernel_rfl) (by kernel_rfl), soundF_of (fl := false) mixed Tryz.func32 rfl (by kernel_rfl) (by kernel_rfl) (by kernel_rfl)⟩

/-! 69: (*tabor/keys.Keys).none -/
def f69r0 : List SOper := [
 o 2 (.mv (b false))]
def f69r1 : List SOper := [
 o 3 (.mv (t 0)),
 o 4 (.eqn 0 false (t 3)),
 o 5 (.mv (t 4)),
 n 6 5 (.mv (t 0)),
 n 7 5 (.nilck (t 6)),
 n 8 5 (.fa 0 (t 7)),
 n 9 5 (.ld1 (t 8)),
 n 10 5 (.eqn 0 false (t 9)),
 o 11 (.pick (t 5) (b true) (t 10)),
 o 2 (.mv (t 11))]
def f69 : SCode := (.seq (.ops f69r0) (.seq (.ops f69r1) .ret))
def f69_ent : Ent := .code 12 f69 [.t 2]
theorem f69_ok (oq : Nat → Value) (F : Nat → Prop) (h0 : Heap) : EntOK Tryz.prog oq F h0 69 f69_ent := ⟨soundD_of (fl := false) mixed Tryz.func69 rfl (by kernel_rfl) (by kernel_rfl) (by kernel_rfl), soundF_of (fl := false) mixed Tryz.func69 rfl (by kernel_rfl) (by kernel_rfl) (by kernel_rfl)⟩

end Go.Proofs.YtjinlabdkegjmaaGreatDoor.Q
