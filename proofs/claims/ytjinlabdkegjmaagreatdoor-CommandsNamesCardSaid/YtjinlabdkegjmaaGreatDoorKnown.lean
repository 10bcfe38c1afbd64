/-
  The table of what a run of tabor/taborlaw10.known reaches, and the run. Printed by a program (wip/prun.lean).
-/
import Derived.Test.YtjinlabdkegjmaaGreatDoorSxYJ
import Derived.Test.YtjinlabdkegjmaaGreatDoorProg
set_option maxRecDepth 100000
namespace Go.Proofs.YtjinlabdkegjmaaGreatDoor.R
open Go Go.Sx Go.Sx.S

theorem mixed : Tryz.prog.follows .mixedOrders = true := by kernel_rfl

/-! 11: tabor/keys.New -/
def f11r0 : List SOper := [
 o 0 (.mv (.const (.pointer none)))]
def f11r1 : List SOper := [
 o 1 (.mkm),
 o 2 (.build [(.map none)] [(0, 1)] [(t 1)]),
 o 3 (.box (t 2)),
 o 4 (.build [(.pointer none)] [(0, 1)] [(t 3)]),
 o 5 (.box (t 4)),
 o 0 (.mv (t 5))]
def f11 : SCode := (.seq (.ops f11r0) (.seq (.ops f11r1) .ret))
theorem f11_ok (oq : Nat → Value) (F : Nat → Prop) (h0 : Heap) : EntOK Tryz.prog oq F h0 11 (.code 6 f11 [.t 0]) := ⟨soundD_of (fl := false) mixed Tryz.func11 rfl (by kernel_rfl) (by kernel_rfl) (by kernel_rfl), soundF_of (fl := false) mixed Tryz.func11 rfl (by kernel_rfl) (by kernel_rfl) (by kernel_rfl)⟩

/-! 13: tabor/taborlaw10.known -/
def f13r0 : List SOper := [
 o 0 (.mv (b false))]
def f13r1 : List SOper := [
 o 6 (.call 11 []),
 o 1 (.mv (t 6))]
def f13r2 : List SOper := [
 o 8 (.mv (t 1)),
 o 9 (.bslice [(.string ⟨#[]⟩), (.string ⟨#[]⟩)] 2 [(0, 1), (1, 1)] [(.const (.string ⟨#[105, 110, 99, 114]⟩)), (.const (.string ⟨#[97]⟩))]),
 o 10 (.call 14 [(t 8), (i 0), (t 9)]),
 o 7 (.mv (t 10)),
 o 11 (.ext (t 7) 0),
 o 12 (.ext (t 7) 1),
 o 2 (.new [(.int .i64 0), (.int .i64 0), (.string ⟨#[]⟩), (.slice none 0 0)]),
 q (.st 4 (t 2) (t 11)),
 o 3 (.mv (t 12))]
def f13r3 : List SOper := [
 o 14 (.mv (t 1)),
 o 15 (.call 29 [(t 14), (.const (.string ⟨#[97]⟩)), (i 0)]),
 o 13 (.mv (t 15)),
 o 16 (.ext (t 13) 0),
 o 17 (.ext (t 13) 1),
 o 4 (.new [(.int .i64 0), (.string ⟨#[]⟩), (.slice none 0 0), (.slice none 0 0), (.slice none 0 0), (.bool false), (.int .i64 0)]),
 q (.st 7 (t 4) (t 16)),
 o 5 (.mv (t 17))]
def f13r4 : List SOper := [
 o 18 (.fa 0 (t 2)),
 o 19 (.ld1 (t 18)),
 o 20 (.cmp .eql (t 19) (i 3)),
 o 21 (.mv (t 20)),
 g 22 21 (.fa 1 (t 2)),
 g 23 21 (.ld1 (t 22)),
 g 24 21 (.cmp .eql (t 23) (i 1)),
 o 25 (.pick (t 21) (t 24) (b false)),
 o 26 (.mv (t 25)),
 g 27 26 (.mv (t 3)),
 g 28 26 (.len (t 27)),
 g 29 26 (.cmp .eql (t 28) (i 1)),
 o 30 (.pick (t 26) (t 29) (b false)),
 o 31 (.mv (t 30)),
 g 32 31 (.mv (t 5)),
 o 33 (.pick (t 31) (t 32) (b false)),
 o 34 (.mv (t 33)),
 g 35 34 (.fa 1 (t 4)),
 g 36 34 (.ld1 (t 35)),
 g 37 34 (.cmp .eql (t 36) (.const (.string ⟨#[49]⟩))),
 o 38 (.pick (t 34) (t 37) (b false)),
 o 0 (.mv (t 38))]
def f13 : SCode := (.seq (.ops f13r0) (.seq (.ops f13r1) (.seq (.ops f13r2) (.seq (.ops f13r3) (.seq (.ops f13r4) .ret)))))
theorem f13_ok (oq : Nat → Value) (F : Nat → Prop) (h0 : Heap) : EntOK Tryz.prog oq F h0 13 (.code 39 f13 [.t 0]) := ⟨soundD_of (fl := false) mixed Tryz.func13 rfl (by kernel_rfl) (by kernel_rfl) (by kernel_rfl), soundF_of (fl := false) mixed Tryz.func13 rfl (by kernel_rfl) (by kernel_rfl) (by kernel_rfl)⟩

/-! 14: tabor/commands.Do -/
def f14r0 : List SOper := [
 o 6 (.new [(.int .i64 0), (.int .i64 0), (.string ⟨#[]⟩), (.slice none 0 0)]),
 o 7 (.mv (.const (.slice none 0 0)))]
def f14r1 : List SOper := [
 o 11 (.mv (t 0)),
 o 12 (.mv (t 1)),
 o 13 (.mv (t 2)),
 o 14 (.call 15 [(t 11), (t 12), (t 13)]),
 o 10 (.mv (t 14)),
 o 15 (.ext (t 10) 0),
 o 16 (.ext (t 10) 1),
 o 8 (.new [(.int .i64 0), (.int .i64 0), (.string ⟨#[]⟩), (.slice none 0 0)]),
 q (.st 4 (t 8) (t 15)),
 o 9 (.mv (t 16))]
def f14r2 : List SOper := [
 o 17 (.mv (t 0)),
 o 18 (.mv (t 9)),
 o 19 (.call 30 [(t 17), (t 18)])]
def f14r3 : List SOper := [
 o 20 (.ldn 4 (t 8)),
 o 21 (.mv (t 9)),
 q (.st 4 (t 6) (t 20)),
 o 7 (.mv (t 21))]
def f14 : SCode := (.seq (.ops f14r0) (.seq (.ops f14r1) (.seq (.ops f14r2) (.seq (.ops f14r3) .ret))))
theorem f14_ok (oq : Nat → Value) (F : Nat → Prop) (h0 : Heap) : EntOK Tryz.prog oq F h0 14 (.code 22 f14 [.cn 6 4, .t 7]) := ⟨soundD_of (fl := false) mixed Tryz.func14 rfl (by kernel_rfl) (by kernel_rfl) (by kernel_rfl), soundF_of (fl := false) mixed Tryz.func14 rfl (by kernel_rfl) (by kernel_rfl) (by kernel_rfl)⟩

/-! 15: tabor/commands.Ask -/
def f15r0 : List SOper := [
 o 6 (.new [(.int .i64 0), (.int .i64 0), (.string ⟨#[]⟩), (.slice none 0 0)]),
 o 7 (.mv (.const (.slice none 0 0)))]
def f15r1 : List SOper := [
 o 15 (.mv (t 2)),
 o 16 (.call 31 [(t 15)]),
 o 17 (.mv (t 16)),
 g 18 17 (.mv (t 0)),
 g 19 17 (.call 24 [(t 18), (.const (.pointer none))]),
 g 20 17 (.un .not (t 19)),
 o 21 (.pick (t 17) (t 20) (b false))]
def f15r2 : List SOper := [
 o 22 (.call 27 [(.const (.string ⟨#[69, 82, 82, 32, 108, 111, 110, 103]⟩))]),
 q (.st 4 (t 6) (t 22)),
 o 7 (.mv (.const (.slice none 0 0)))]
def f15r3 : List SOper := [
 o 23 (.build [(.int .i64 0), (.int .i64 0), (.string ⟨#[]⟩), (.slice none 0 0)] [] []),
 o 8 (.new [(.int .i64 0), (.int .i64 0), (.string ⟨#[]⟩), (.slice none 0 0)]),
 q (.st 4 (t 8) (t 23)),
 o 9 (.mv (.const (.slice none 0 0))),
 o 10 (.mv (b false))]
def f15r4 : List SOper := [
 o 24 (.call 32 []),
 o 25 (.len (t 24)),
 o 26 (.mv (i 0))]
def f15r5 : List SOper := [
 o 27 (.cmp .lss (t 26) (t 25))]
def f15r6 : List SOper := [
 o 28 (.ixs 1 (t 24) (t 26)),
 o 29 (.ld1 (t 28)),
 o 12 (.mv (t 29))]
def f15r7 : List SOper := [
 o 31 (.mv (t 12)),
 o 32 (.mv (t 0)),
 o 33 (.mv (t 1)),
 o 34 (.mv (t 2)),
 o 35 (.callv (t 31) [(t 32), (t 33), (t 34)]),
 o 30 (.mv (t 35)),
 o 36 (.ext (t 30) 0),
 o 37 (.ext (t 30) 1),
 o 38 (.ext (t 30) 2),
 q (.st 4 (t 8) (t 36)),
 o 9 (.mv (t 37)),
 o 10 (.mv (t 38))]
def f15r8 : List SOper := [
 o 39 (.mv (t 10))]
def f15r9 : List SOper := [
 o 40 (.ar .add (t 26) (i 1)),
 o 26 (.mv (t 40))]
def f15l10 : SCode := (.seq (.ops f15r5) (.seq (.cond (t 27) .skip (.exit 0)) (.seq (.block 1 (.seq (.ops f15r6) (.seq (.ops f15r7) (.seq (.ops f15r8) (.cond (t 39) (.exit 0) .skip))))) (.ops f15r9))))
def f15r11 : List SOper := [
 o 41 (.mv (t 10)),
 o 42 (.un .not (t 41))]
def f15r12 : List SOper := [
 o 43 (.call 27 [(.const (.string ⟨#[69, 82, 82, 32, 117, 110, 107, 110, 111, 119, 110]⟩))]),
 q (.st 4 (t 6) (t 43)),
 o 7 (.mv (.const (.slice none 0 0)))]
def f15r13 : List SOper := [
 o 44 (.mv (t 9)),
 o 45 (.len (t 44)),
 o 46 (.cmp .gtr (t 45) (i 0))]
def f15r14 : List SOper := [
 o 48 (.mv (t 0)),
 o 49 (.call 33 [(t 48)]),
 o 50 (.mv (t 9)),
 o 51 (.call 30 [(t 49), (t 50)]),
 o 47 (.mv (t 51)),
 o 52 (.ext (t 47) 0),
 o 53 (.ext (t 47) 1),
 o 13 (.mv (t 52)),
 o 14 (.mv (t 53))]
def f15r15 : List SOper := [
 o 54 (.mv (t 14)),
 o 55 (.cmp .neq (t 54) (i 0))]
def f15r16 : List SOper := [
 o 56 (.call 27 [(.const (.string ⟨#[69, 82, 82, 32, 102, 117, 108, 108]⟩))]),
 q (.st 4 (t 6) (t 56)),
 o 7 (.mv (.const (.slice none 0 0)))]
def f15r17 : List SOper := [
 o 57 (.ldn 4 (t 8)),
 o 58 (.mv (t 9)),
 q (.st 4 (t 6) (t 57)),
 o 7 (.mv (t 58))]
def f15r18 : List SOper := [
 o 24 (.call 32 []),
 o 25 (.len (t 24)),
 o 26 (.mv (i 0))]
def f15r19 : List SOper := [
 o 27 (.cmp .lss (t 26) (t 25))]
def f15r20 : List SOper := [
 o 28 (.ixs 1 (t 24) (t 26)),
 o 29 (.ld1 (t 28)),
 o 12 (.mv (t 29))]
def f15r21 : List SOper := [
 o 31 (.mv (t 12)),
 o 32 (.mv (t 0)),
 o 33 (.mv (t 1)),
 o 34 (.mv (t 2)),
 o 35 (.callv (t 31) [(t 32), (t 33), (t 34)]),
 o 30 (.mv (t 35)),
 o 36 (.ext (t 30) 0),
 o 37 (.ext (t 30) 1),
 o 38 (.ext (t 30) 2),
 q (.st 4 (t 8) (t 36)),
 o 9 (.mv (t 37)),
 o 10 (.mv (t 38))]
def f15r22 : List SOper := [
 o 39 (.mv (t 10))]
def f15r23 : List SOper := [
 o 40 (.ar .add (t 26) (i 1)),
 o 26 (.mv (t 40))]
def f15l24 : SCode := (.seq (.ops f15r19) (.seq (.cond (t 27) .skip (.exit 0)) (.seq (.block 1 (.seq (.ops f15r20) (.seq (.ops f15r21) (.seq (.ops f15r22) (.cond (t 39) (.exit 0) .skip))))) (.ops f15r23))))
def f15r25 : List SOper := [
 o 41 (.mv (t 10)),
 o 42 (.un .not (t 41))]
def f15r26 : List SOper := [
 o 43 (.call 27 [(.const (.string ⟨#[69, 82, 82, 32, 117, 110, 107, 110, 111, 119, 110]⟩))]),
 q (.st 4 (t 6) (t 43)),
 o 7 (.mv (.const (.slice none 0 0)))]
def f15r27 : List SOper := [
 o 44 (.mv (t 9)),
 o 45 (.len (t 44)),
 o 46 (.cmp .gtr (t 45) (i 0))]
def f15r28 : List SOper := [
 o 48 (.mv (t 0)),
 o 49 (.call 33 [(t 48)]),
 o 50 (.mv (t 9)),
 o 51 (.call 30 [(t 49), (t 50)]),
 o 47 (.mv (t 51)),
 o 52 (.ext (t 47) 0),
 o 53 (.ext (t 47) 1),
 o 13 (.mv (t 52)),
 o 14 (.mv (t 53))]
def f15r29 : List SOper := [
 o 54 (.mv (t 14)),
 o 55 (.cmp .neq (t 54) (i 0))]
def f15r30 : List SOper := [
 o 56 (.call 27 [(.const (.string ⟨#[69, 82, 82, 32, 102, 117, 108, 108]⟩))]),
 q (.st 4 (t 6) (t 56)),
 o 7 (.mv (.const (.slice none 0 0)))]
def f15r31 : List SOper := [
 o 57 (.ldn 4 (t 8)),
 o 58 (.mv (t 9)),
 q (.st 4 (t 6) (t 57)),
 o 7 (.mv (t 58))]
def f15 : SCode := (.seq (.ops f15r0) (.scopeG (.seq (.seq (.ops f15r1) (.cond (t 21) (.seq (.ops f15r2) .ret) .skip)) (.seq (.ops f15r3) (.seq (.label 0) (.seq (.seq (.ops f15r4) (.block 0 (.loop f15l10))) (.seq (.seq (.ops f15r11) (.cond (t 42) (.seq (.ops f15r12) .ret) .skip)) (.seq (.seq (.ops f15r13) (.cond (t 46) (.seq (.ops f15r14) (.seq (.ops f15r15) (.cond (t 55) (.seq (.ops f15r16) .ret) .skip))) .skip)) (.seq (.ops f15r17) .ret))))))) 0 (.seq .skip (.seq (.seq (.ops f15r18) (.block 0 (.loop f15l24))) (.seq (.seq (.ops f15r25) (.cond (t 42) (.seq (.ops f15r26) .ret) .skip)) (.seq (.seq (.ops f15r27) (.cond (t 46) (.seq (.ops f15r28) (.seq (.ops f15r29) (.cond (t 55) (.seq (.ops f15r30) .ret) .skip))) .skip)) (.seq (.ops f15r31) .ret)))))))
theorem f15_ok (oq : Nat → Value) (F : Nat → Prop) (h0 : Heap) : EntOK Tryz.prog oq F h0 15 (.code 59 f15 [.cn 6 4, .t 7]) := ⟨soundD_of (fl := false) mixed Tryz.func15 rfl (by kernel_rfl) (by kernel_rfl) (by kernel_rfl), soundF_of (fl := false) mixed Tryz.func15 rfl (by kernel_rfl) (by kernel_rfl) (by kernel_rfl)⟩

/-! 21: slices.Sorted[string] -/
def f21r0 : List SOper := [
 o 2 (.mv (.const (.slice none 0 0)))]
def f21r1 : List SOper := [
 o 4 (.mv (t 0)),
 o 5 (.call 38 [(t 4)]),
 o 3 (.mv (t 5))]
def f21r2 : List SOper := [
 o 6 (.mv (t 3)),
 o 7 (.call 39 [(t 6)])]
def f21r3 : List SOper := [
 o 8 (.mv (t 3)),
 o 2 (.mv (t 8))]
def f21 : SCode := (.seq (.ops f21r0) (.seq (.ops f21r1) (.seq (.ops f21r2) (.seq (.ops f21r3) .ret))))
theorem f21_ok (oq : Nat → Value) (F : Nat → Prop) (h0 : Heap) : EntOK Tryz.prog oq F h0 21 (.code 9 f21 [.t 2]) := ⟨soundD_of (fl := false) mixed Tryz.func21 rfl (by kernel_rfl) (by kernel_rfl) (by kernel_rfl), soundF_of (fl := false) mixed Tryz.func21 rfl (by kernel_rfl) (by kernel_rfl) (by kernel_rfl)⟩

/-! 24: (*tabor/keys.Keys).Same -/
def f24r0 : List SOper := [
 o 4 (.mv (b false))]
def f24r1 : List SOper := [
 o 5 (.mv (t 0)),
 o 6 (.call 69 [(t 5)]),
 o 7 (.mv (t 6)),
 n 8 7 (.mv (t 1)),
 n 9 7 (.call 69 [(t 8)]),
 o 10 (.pick (t 7) (b true) (t 9))]
def f24r2 : List SOper := [
 o 11 (.mv (t 0)),
 o 12 (.call 69 [(t 11)]),
 o 13 (.mv (t 12)),
 g 14 13 (.mv (t 1)),
 g 15 13 (.call 69 [(t 14)]),
 o 16 (.pick (t 13) (t 15) (b false)),
 o 4 (.mv (t 16))]
def f24r3 : List SOper := [
 o 17 (.mv (t 0)),
 o 18 (.nilck (t 17)),
 o 19 (.fa 0 (t 18)),
 o 20 (.ld1 (t 19)),
 o 21 (.nilck (t 20)),
 o 22 (.fa 0 (t 21)),
 o 23 (.ld1 (t 22)),
 o 24 (.mv (t 1)),
 o 25 (.nilck (t 24)),
 o 26 (.fa 0 (t 25)),
 o 27 (.ld1 (t 26)),
 o 28 (.nilck (t 27)),
 o 29 (.fa 0 (t 28)),
 o 30 (.ld1 (t 29)),
 o 31 (.call 70 [(t 23), (t 30), (u 71)]),
 o 4 (.mv (t 31))]
def f24 : SCode := (.seq (.ops f24r0) (.seq (.seq (.ops f24r1) (.cond (t 10) (.seq (.ops f24r2) .ret) .skip)) (.seq (.ops f24r3) .ret)))
theorem f24_ok (oq : Nat → Value) (F : Nat → Prop) (h0 : Heap) : EntOK Tryz.prog oq F h0 24 (.code 32 f24 [.t 4]) := ⟨soundD_of (fl := false) mixed Tryz.func24 rfl (by kernel_rfl) (by kernel_rfl) (by kernel_rfl), soundF_of (fl := false) mixed Tryz.func24 rfl (by kernel_rfl) (by kernel_rfl) (by kernel_rfl)⟩

/-! 29: (*tabor/keys.Keys).Get -/
def f29r0 : List SOper := [
 o 6 (.new [(.int .i64 0), (.string ⟨#[]⟩), (.slice none 0 0), (.slice none 0 0), (.slice none 0 0), (.bool false), (.int .i64 0)]),
 o 7 (.mv (b false))]
def f29r1 : List SOper := [
 o 11 (.mv (t 0)),
 o 12 (.mv (t 1)),
 o 13 (.call 73 [(t 11), (t 12)]),
 o 10 (.mv (t 13)),
 o 14 (.ext (t 10) 0),
 o 15 (.ext (t 10) 1),
 o 8 (.new [(.int .i64 0), (.string ⟨#[]⟩), (.slice none 0 0), (.slice none 0 0), (.slice none 0 0), (.bool false), (.int .i64 0)]),
 q (.st 7 (t 8) (t 14)),
 o 9 (.mv (t 15))]
def f29r2 : List SOper := [
 o 16 (.mv (t 9)),
 o 17 (.un .not (t 16)),
 o 18 (.mv (t 17)),
 n 19 18 (.ldn 7 (t 8)),
 n 20 18 (.mv (t 2)),
 n 21 18 (.call 74 [(t 19), (t 20)]),
 o 22 (.pick (t 18) (b true) (t 21))]
def f29r3 : List SOper := [
 o 23 (.build [(.int .i64 0), (.string ⟨#[]⟩), (.slice none 0 0), (.slice none 0 0), (.slice none 0 0), (.bool false), (.int .i64 0)] [] []),
 q (.st 7 (t 6) (t 23)),
 o 7 (.mv (b false))]
def f29r4 : List SOper := [
 o 24 (.ldn 7 (t 8)),
 q (.st 7 (t 6) (t 24)),
 o 7 (.mv (b true))]
def f29 : SCode := (.seq (.ops f29r0) (.seq (.ops f29r1) (.seq (.seq (.ops f29r2) (.cond (t 22) (.seq (.ops f29r3) .ret) .skip)) (.seq (.ops f29r4) .ret))))
theorem f29_ok (oq : Nat → Value) (F : Nat → Prop) (h0 : Heap) : EntOK Tryz.prog oq F h0 29 (.code 25 f29 [.cn 6 7, .t 7]) := ⟨soundD_of (fl := false) mixed Tryz.func29 rfl (by kernel_rfl) (by kernel_rfl) (by kernel_rfl), soundF_of (fl := false) mixed Tryz.func29 rfl (by kernel_rfl) (by kernel_rfl) (by kernel_rfl)⟩

/-! 30: (*tabor/keys.Keys).Apply -/
def f30r0 : List SOper := [
 o 4 (.mv (i 0)),
 o 5 (.mv (i 0))]
def f30r1 : List SOper := [
 o 10 (.mv (t 0)),
 o 11 (.call 69 [(t 10)])]
def f30r2 : List SOper := [
 o 4 (.mv (i 0)),
 o 5 (.mv (i 1))]
def f30r3 : List SOper := [
 o 6 (.mv (i 0))]
def f30r4 : List SOper := [
 o 7 (.mv (i 0))]
def f30r5 : List SOper := [
 o 12 (.mv (t 1)),
 o 13 (.len (t 12)),
 o 14 (.mv (i 0))]
def f30r6 : List SOper := [
 o 15 (.cmp .lss (t 14) (t 13))]
def f30r7 : List SOper := [
 o 16 (.ixs 5 (t 12) (t 14)),
 o 17 (.ldn 5 (t 16)),
 o 9 (.new [(.int .i64 0), (.string ⟨#[]⟩), (.string ⟨#[]⟩), (.string ⟨#[]⟩), (.int .i64 0)]),
 q (.st 5 (t 9) (t 17))]
def f30r8 : List SOper := [
 o 18 (.mv (t 0)),
 o 19 (.ldn 5 (t 9)),
 o 20 (.call 75 [(t 18), (t 19)]),
 o 7 (.mv (t 20))]
def f30r9 : List SOper := [
 o 21 (.mv (t 7)),
 o 22 (.cmp .neq (t 21) (i 0))]
def f30r10 : List SOper := [
 o 23 (.mv (t 6)),
 o 24 (.ar .add (t 23) (i 1)),
 o 6 (.mv (t 24))]
def f30r11 : List SOper := [
 o 25 (.ar .add (t 14) (i 1)),
 o 14 (.mv (t 25))]
def f30l12 : SCode := (.seq (.ops f30r6) (.seq (.cond (t 15) .skip (.exit 0)) (.seq (.block 1 (.seq (.ops f30r7) (.seq (.seq (.ops f30r8) (.seq (.ops f30r9) (.cond (t 22) (.exit 0) .skip))) (.ops f30r10)))) (.ops f30r11))))
def f30r13 : List SOper := [
 o 26 (.mv (t 6)),
 o 27 (.mv (t 7)),
 o 4 (.mv (t 26)),
 o 5 (.mv (t 27))]
def f30r14 : List SOper := [
 o 12 (.mv (t 1)),
 o 13 (.len (t 12)),
 o 14 (.mv (i 0))]
def f30r15 : List SOper := [
 o 15 (.cmp .lss (t 14) (t 13))]
def f30r16 : List SOper := [
 o 16 (.ixs 5 (t 12) (t 14)),
 o 17 (.ldn 5 (t 16)),
 o 9 (.new [(.int .i64 0), (.string ⟨#[]⟩), (.string ⟨#[]⟩), (.string ⟨#[]⟩), (.int .i64 0)]),
 q (.st 5 (t 9) (t 17))]
def f30r17 : List SOper := [
 o 18 (.mv (t 0)),
 o 19 (.ldn 5 (t 9)),
 o 20 (.call 75 [(t 18), (t 19)]),
 o 7 (.mv (t 20))]
def f30r18 : List SOper := [
 o 21 (.mv (t 7)),
 o 22 (.cmp .neq (t 21) (i 0))]
def f30r19 : List SOper := [
 o 23 (.mv (t 6)),
 o 24 (.ar .add (t 23) (i 1)),
 o 6 (.mv (t 24))]
def f30r20 : List SOper := [
 o 25 (.ar .add (t 14) (i 1)),
 o 14 (.mv (t 25))]
def f30l21 : SCode := (.seq (.ops f30r15) (.seq (.cond (t 15) .skip (.exit 0)) (.seq (.block 1 (.seq (.ops f30r16) (.seq (.seq (.ops f30r17) (.seq (.ops f30r18) (.cond (t 22) (.exit 0) .skip))) (.ops f30r19)))) (.ops f30r20))))
def f30r22 : List SOper := [
 o 26 (.mv (t 6)),
 o 27 (.mv (t 7)),
 o 4 (.mv (t 26)),
 o 5 (.mv (t 27))]
def f30 : SCode := (.seq (.ops f30r0) (.scopeG (.seq (.seq (.ops f30r1) (.cond (t 11) (.seq (.ops f30r2) .ret) .skip)) (.seq (.ops f30r3) (.seq (.ops f30r4) (.seq (.label 0) (.seq (.seq (.ops f30r5) (.block 0 (.loop f30l12))) (.seq (.ops f30r13) .ret)))))) 0 (.seq .skip (.seq (.seq (.ops f30r14) (.block 0 (.loop f30l21))) (.seq (.ops f30r22) .ret)))))
theorem f30_ok (oq : Nat → Value) (F : Nat → Prop) (h0 : Heap) : EntOK Tryz.prog oq F h0 30 (.code 28 f30 [.t 4, .t 5]) := ⟨soundD_of (fl := false) mixed Tryz.func30 rfl (by kernel_rfl) (by kernel_rfl) (by kernel_rfl), soundF_of (fl := false) mixed Tryz.func30 rfl (by kernel_rfl) (by kernel_rfl) (by kernel_rfl)⟩

/-! 31: tabor/commands.long -/
def f31r0 : List SOper := [
 o 2 (.mv (b false))]
def f31r1 : List SOper := [
 o 3 (.mv (t 0)),
 o 4 (.len (t 3)),
 o 5 (.cmp .gtr (t 4) (i 65536)),
 o 6 (.mv (t 5)),
 n 7 6 (.mv (t 0)),
 n 8 6 (.call 76 [(t 7), (u 77)]),
 o 9 (.pick (t 6) (b true) (t 8)),
 o 2 (.mv (t 9))]
def f31 : SCode := (.seq (.ops f31r0) (.seq (.ops f31r1) .ret))
theorem f31_ok (oq : Nat → Value) (F : Nat → Prop) (h0 : Heap) : EntOK Tryz.prog oq F h0 31 (.code 10 f31 [.t 2]) := ⟨soundD_of (fl := false) mixed Tryz.func31 rfl (by kernel_rfl) (by kernel_rfl) (by kernel_rfl), soundF_of (fl := false) mixed Tryz.func31 rfl (by kernel_rfl) (by kernel_rfl) (by kernel_rfl)⟩

/-! 32: tabor/commands.layers -/
def f32r0 : List SOper := [
 o 0 (.mv (.const (.slice none 0 0)))]
def f32r1 : List SOper := [
 o 1 (.bslice [.nilFunc, .nilFunc] 2 [(0, 1), (1, 1)] [(u 37), (u 10)]),
 o 0 (.mv (t 1))]
def f32 : SCode := (.seq (.ops f32r0) (.seq (.ops f32r1) .ret))
theorem f32_ok (oq : Nat → Value) (F : Nat → Prop) (h0 : Heap) : EntOK Tryz.prog oq F h0 32 (.code 2 f32 [.t 0]) := ⟨soundD_of (fl := false) mixed Tryz.func32 rfl (by kernel_rfl) (by kernel_rfl) (by kernel_rfl), soundF_of (fl := false) mixed Tryz.func32 rfl (by kernel_rfl) (by kernel_rfl) (by kernel_rfl)⟩

/-! 33: (*tabor/keys.Keys).Copy -/
def f33r0 : List SOper := [
 o 2 (.mv (.const (.pointer none)))]
def f33r1 : List SOper := [
 o 6 (.mv (t 0)),
 o 7 (.call 69 [(t 6)])]
def f33r2 : List SOper := [
 o 2 (.mv (.const (.pointer none)))]
def f33r3 : List SOper := [
 o 8 (.call 11 []),
 o 3 (.new [(.pointer none)]),
 q (.st 1 (t 3) (t 8))]
def f33r4 : List SOper := [
 o 9 (.mv (t 0)),
 o 10 (.call 78 [(t 9)])]
def f33r5 : List SOper := [
 o 4 (.mv (t 11))]
def f33r6 : List SOper := [
 o 5 (.new [(.int .i64 0), (.string ⟨#[]⟩), (.slice none 0 0), (.slice none 0 0), (.slice none 0 0), (.bool false), (.int .i64 0)]),
 q (.st 7 (t 5) (t 12))]
def f33r7 : List SOper := [
 o 13 (.ld1 (t 3)),
 o 14 (.nilck (t 13)),
 o 15 (.fa 0 (t 14)),
 o 16 (.ld1 (t 15)),
 o 17 (.nilck (t 16)),
 o 18 (.fa 0 (t 17)),
 o 19 (.ld1 (t 18)),
 o 20 (.mv (t 4)),
 q (.mup .str (t 19) (t 20) (t 5))]
def f33a8 : SCode := (.seq (.ops f33r5) (.ops f33r6))
def f33b8 : SCode := (.block 1 (.ops f33r7))
def f33r9 : List SOper := [
 o 21 (.ld1 (t 3)),
 o 2 (.mv (t 21))]
def f33 : SCode := (.seq (.ops f33r0) (.seq (.seq (.ops f33r1) (.cond (t 7) (.seq (.ops f33r2) .ret) .skip)) (.seq (.ops f33r3) (.seq (.seq (.ops f33r4) (.block 0 (.rangeF (t 10) [11, 12] f33a8 f33b8))) (.seq (.ops f33r9) .ret)))))
theorem f33_ok (oq : Nat → Value) (F : Nat → Prop) (h0 : Heap) : EntOK Tryz.prog oq F h0 33 (.code 22 f33 [.t 2]) := ⟨soundD_of (fl := false) mixed Tryz.func33 rfl (by kernel_rfl) (by kernel_rfl) (by kernel_rfl), soundF_of (fl := false) mixed Tryz.func33 rfl (by kernel_rfl) (by kernel_rfl) (by kernel_rfl)⟩

/-! 37: tabor/basics.Do -/
def f37r0 : List SOper := [
 o 6 (.new [(.int .i64 0), (.int .i64 0), (.string ⟨#[]⟩), (.slice none 0 0)]),
 o 7 (.new [(.slice none 0 0)]),
 o 8 (.mv (b false))]
def f37r1 : List SOper := [
 o 11 (.mv (t 2)),
 o 12 (.len (t 11)),
 o 13 (.cmp .eql (t 12) (i 0)),
 o 14 (.mv (t 13)),
 n 15 14 (.mv (t 0)),
 n 16 14 (.call 24 [(t 15), (.const (.pointer none))]),
 o 17 (.pick (t 14) (b true) (t 16))]
def f37r2 : List SOper := [
 o 18 (.build [(.int .i64 0), (.int .i64 0), (.string ⟨#[]⟩), (.slice none 0 0)] [] []),
 q (.st 4 (t 6) (t 18)),
 q (.st 1 (t 7) (.const (.slice none 0 0))),
 o 8 (.mv (b false))]
def f37t3 : OTree := (.one (o 21 (.mv (t 2)))
 (.one (o 22 (.ixs 1 (t 21) (i 0)))
 (.one (o 23 (.ld1 (t 22)))
 (.one (o 20 (.call 81 []))
 (.chk [o 23 (.ld1 (t 22))] (.one (o 24 (.call 83 [(t 23)]))
 (.one (o 25 (.look .str .nilFunc true (t 20) (t 24)))
 (.one (o 19 (.mv (t 25)))
 (.one (o 26 (.ext (t 19) 0))
 (.one (o 27 (.ext (t 19) 1))
 (.one (o 9 (.mv (t 26)))
 (.one (o 8 (.mv (t 27)))
 .done))))))))))))
def f37r4 : List SOper := [
 o 28 (.mv (t 8)),
 o 29 (.un .not (t 28))]
def f37r5 : List SOper := [
 o 30 (.build [(.int .i64 0), (.int .i64 0), (.string ⟨#[]⟩), (.slice none 0 0)] [] []),
 q (.st 4 (t 6) (t 30)),
 q (.st 1 (t 7) (.const (.slice none 0 0))),
 o 8 (.mv (b false))]
def f37r6 : List SOper := [
 o 31 (.fn 84 [] [(t 6), (t 7)])]
def f37r7 : List SOper := [
 o 32 (.mv (t 0)),
 o 33 (.mv (t 1)),
 o 34 (.mv (t 2)),
 o 35 (.slc 1 (t 34) (some (i 1)) none),
 o 36 (.build [(.pointer none), (.int .i64 0), (.slice none 0 0), (.slice none 0 0)] [(0, 1), (1, 1), (2, 1)] [(t 32), (t 33), (t 35)]),
 o 37 (.box (t 36)),
 o 10 (.mv (t 37))]
def f37r8 : List SOper := [
 o 38 (.mv (t 9)),
 o 39 (.mv (t 10)),
 o 40 (.callv (t 38) [(t 39)]),
 q (.st 4 (t 6) (t 40))]
def f37t9 : OTree := (.one (o 41 (.ldn 4 (t 6)))
 (.one (o 42 (.mv (t 10)))
 (.one (o 43 (.nilck (t 42)))
 (.one (o 44 (.fa 3 (t 43)))
 (.one (o 45 (.ld1 (t 44)))
 (.one (q (.st 4 (t 6) (t 41)))
 (.chk [o 45 (.ld1 (t 44))] (.one (q (.st 1 (t 7) (t 45)))
 (.one (o 8 (.mv (b true)))
 .done)))))))))
def f37 : SCode := (.seq (.ops f37r0) (.seq (.seq (.ops f37r1) (.cond (t 17) (.seq (.ops f37r2) .ret) .skip)) (.seq (.tree [20, 21, 22, 23, 24, 25, 19, 26, 27, 9, 8] f37t3) (.seq (.seq (.ops f37r4) (.cond (t 29) (.seq (.ops f37r5) .ret) .skip)) (.seq (.dfr f37r6 none (t 31) []) (.seq (.ops f37r7) (.seq (.ops f37r8) (.seq (.tree [41, 42, 43, 44, 45, 8] f37t9) .ret))))))))
theorem f37_ok (oq : Nat → Value) (F : Nat → Prop) (h0 : Heap) : EntOK Tryz.prog oq F h0 37 (.code 46 f37 [.cn 6 4, .c1 7, .t 8]) := ⟨soundD_of (fl := false) mixed Tryz.func37 rfl (by kernel_rfl) (by kernel_rfl) (by kernel_rfl), soundF_of (fl := false) mixed Tryz.func37 rfl (by kernel_rfl) (by kernel_rfl) (by kernel_rfl)⟩

/-! 38: slices.Collect[string] -/
def f38r0 : List SOper := [
 o 2 (.mv (.const (.slice none 0 0)))]
def f38r1 : List SOper := [
 o 3 (.mv (t 0)),
 o 4 (.call 85 [(.const (.slice none 0 0)), (t 3)]),
 o 2 (.mv (t 4))]
def f38 : SCode := (.seq (.ops f38r0) (.seq (.ops f38r1) .ret))
theorem f38_ok (oq : Nat → Value) (F : Nat → Prop) (h0 : Heap) : EntOK Tryz.prog oq F h0 38 (.code 5 f38 [.t 2]) := ⟨soundD_of (fl := false) mixed Tryz.func38 rfl (by kernel_rfl) (by kernel_rfl) (by kernel_rfl), soundF_of (fl := false) mixed Tryz.func38 rfl (by kernel_rfl) (by kernel_rfl) (by kernel_rfl)⟩

/-! 39: slices.Sort[[]string,string] -/
def f39r0 : List SOper := [
 o 3 (.mv (t 0)),
 o 4 (.len (t 3)),
 o 2 (.mv (t 4))]
def f39r1 : List SOper := [
 o 5 (.mv (t 0)),
 o 6 (.mv (t 2)),
 o 7 (.mv (t 2)),
 o 8 (.cvt .u64 (t 7)),
 o 9 (.call 87 [(t 8)]),
 o 10 (.call 86 [(t 5), (i 0), (t 6), (t 9)])]
def f39 : SCode := (.seq (.ops f39r0) (.ops f39r1))
theorem f39_ok (oq : Nat → Value) (F : Nat → Prop) (h0 : Heap) : EntOK Tryz.prog oq F h0 39 (.code 11 f39 []) := ⟨soundD_of (fl := false) mixed Tryz.func39 rfl (by kernel_rfl) (by kernel_rfl) (by kernel_rfl), soundF_of (fl := false) mixed Tryz.func39 rfl (by kernel_rfl) (by kernel_rfl) (by kernel_rfl)⟩

/-! 69: (*tabor/keys.Keys).none -/
def f69r0 : List SOper := [
 o 2 (.mv (b false))]
def f69r1 : List SOper := [
 o 3 (.mv (t 0)),
 o 4 (.eqn 0 false (t 3)),
 o 5 (.mv (t 4)),
 n 6 5 (.mv (t 0)),
 n 7 5 (.nilck (t 6)),
 n 8 5 (.fa 0 (t 7)),
 n 9 5 (.ld1 (t 8)),
 n 10 5 (.eqn 0 false (t 9)),
 o 11 (.pick (t 5) (b true) (t 10)),
 o 2 (.mv (t 11))]
def f69 : SCode := (.seq (.ops f69r0) (.seq (.ops f69r1) .ret))
theorem f69_ok (oq : Nat → Value) (F : Nat → Prop) (h0 : Heap) : EntOK Tryz.prog oq F h0 69 (.code 12 f69 [.t 2]) := ⟨soundD_of (fl := false) mixed Tryz.func69 rfl (by kernel_rfl) (by kernel_rfl) (by kernel_rfl), soundF_of (fl := false) mixed Tryz.func69 rfl (by kernel_rfl) (by kernel_rfl) (by kernel_rfl)⟩

/-! 73: (*tabor/keys.Keys).Look -/
def f73r0 : List SOper := [
 o 4 (.new [(.int .i64 0), (.string ⟨#[]⟩), (.slice none 0 0), (.slice none 0 0), (.slice none 0 0), (.bool false), (.int .i64 0)]),
 o 5 (.mv (b false))]
def f73r1 : List SOper := [
 o 6 (.mv (t 0)),
 o 7 (.call 69 [(t 6)]),
 o 8 (.mv (t 7)),
 n 9 8 (.mv (t 0)),
 n 10 8 (.nilck (t 9)),
 n 11 8 (.fa 0 (t 10)),
 n 12 8 (.ld1 (t 11)),
 n 13 8 (.nilck (t 12)),
 n 14 8 (.fa 0 (t 13)),
 n 15 8 (.ld1 (t 14)),
 n 16 8 (.mv (t 1)),
 n 17 8 (.look .str (.pointer none) false (t 15) (t 16)),
 n 18 8 (.eqn 0 false (t 17)),
 o 19 (.pick (t 8) (b true) (t 18))]
def f73r2 : List SOper := [
 o 20 (.build [(.int .i64 0), (.string ⟨#[]⟩), (.slice none 0 0), (.slice none 0 0), (.slice none 0 0), (.bool false), (.int .i64 0)] [] []),
 q (.st 7 (t 4) (t 20)),
 o 5 (.mv (b false))]
def f73r3 : List SOper := [
 o 21 (.mv (t 0)),
 o 22 (.nilck (t 21)),
 o 23 (.fa 0 (t 22)),
 o 24 (.ld1 (t 23)),
 o 25 (.nilck (t 24)),
 o 26 (.fa 0 (t 25)),
 o 27 (.ld1 (t 26)),
 o 28 (.mv (t 1)),
 o 29 (.look .str (.pointer none) false (t 27) (t 28)),
 o 30 (.nilck (t 29)),
 o 31 (.ldn 7 (t 30)),
 o 32 (.call 127 [(t 31)]),
 q (.st 7 (t 4) (t 32)),
 o 5 (.mv (b true))]
def f73 : SCode := (.seq (.ops f73r0) (.seq (.seq (.ops f73r1) (.cond (t 19) (.seq (.ops f73r2) .ret) .skip)) (.seq (.ops f73r3) .ret)))
theorem f73_ok (oq : Nat → Value) (F : Nat → Prop) (h0 : Heap) : EntOK Tryz.prog oq F h0 73 (.code 33 f73 [.cn 4 7, .t 5]) := ⟨soundD_of (fl := false) mixed Tryz.func73 rfl (by kernel_rfl) (by kernel_rfl) (by kernel_rfl), soundF_of (fl := false) mixed Tryz.func73 rfl (by kernel_rfl) (by kernel_rfl) (by kernel_rfl)⟩

/-! 74: tabor/keys.gone -/
def f74r0 : List SOper := [
 o 2 (.box (t 0)),
 o 4 (.mv (b false))]
def f74r1 : List SOper := [
 o 5 (.fa 5 (t 2)),
 o 6 (.ld1 (t 5)),
 o 7 (.mv (t 6)),
 g 8 7 (.fa 6 (t 2)),
 g 9 7 (.ld1 (t 8)),
 g 10 7 (.mv (t 1)),
 g 11 7 (.cmp .leq (t 9) (t 10)),
 o 12 (.pick (t 7) (t 11) (b false)),
 o 4 (.mv (t 12))]
def f74 : SCode := (.seq (.ops f74r0) (.seq (.ops f74r1) .ret))
theorem f74_ok (oq : Nat → Value) (F : Nat → Prop) (h0 : Heap) : EntOK Tryz.prog oq F h0 74 (.code 13 f74 [.t 4]) := ⟨soundD_of (fl := false) mixed Tryz.func74 rfl (by kernel_rfl) (by kernel_rfl) (by kernel_rfl), soundF_of (fl := false) mixed Tryz.func74 rfl (by kernel_rfl) (by kernel_rfl) (by kernel_rfl)⟩

/-! 75: (*tabor/keys.Keys).one -/
def f75r0 : List SOper := [
 o 3 (.box (t 1)),
 o 4 (.mv (i 0))]
def f75t1 : OTree := (.one (o 12 (.fa 0 (t 3)))
 (.one (o 13 (.ld1 (t 12)))
 (.both (.one (o 11 (.call 128 []))
 (.chk [o 13 (.ld1 (t 12))] (.one (o 14 (.look (.int .i64) (.agg #[(.bool false), (.bool false), (.bool false), (.int .i64 0), (.bool false), .nilFunc]) true (t 11) (t 13)))
 (.chk [o 13 (.ld1 (t 12))] (.one (o 10 (.mv (t 14)))
 (.chk [o 13 (.ld1 (t 12))] (.one (o 15 (.ext (t 10) 0))
 (.chk [o 13 (.ld1 (t 12))] (.one (o 16 (.ext (t 10) 1))
 (.chk [o 13 (.ld1 (t 12))] (.one (o 5 (.new [(.bool false), (.bool false), (.bool false), (.int .i64 0), (.bool false), .nilFunc]))
 (.chk [o 13 (.ld1 (t 12))] (.one (q (.st 6 (t 5) (t 15)))
 (.one (o 6 (.mv (t 16)))
 .done)))))))))))))) (.one (o 5 (.new [(.bool false), (.bool false), (.bool false), (.int .i64 0), (.bool false), .nilFunc]))
 (.chk [o 13 (.ld1 (t 12))] (.one (o 11 (.call 128 []))
 (.chk [o 13 (.ld1 (t 12))] (.one (o 14 (.look (.int .i64) (.agg #[(.bool false), (.bool false), (.bool false), (.int .i64 0), (.bool false), .nilFunc]) true (t 11) (t 13)))
 (.chk [o 13 (.ld1 (t 12))] (.one (o 10 (.mv (t 14)))
 (.chk [o 13 (.ld1 (t 12))] (.one (o 15 (.ext (t 10) 0))
 (.chk [o 13 (.ld1 (t 12))] (.one (o 16 (.ext (t 10) 1))
 (.chk [o 13 (.ld1 (t 12))] (.one (q (.st 6 (t 5) (t 15)))
 (.one (o 6 (.mv (t 16)))
 .done)))))))))))))))))
def f75r2 : List SOper := [
 o 17 (.mv (t 6)),
 o 18 (.un .not (t 17)),
 o 19 (.mv (t 18)),
 n 20 19 (.fa 0 (t 5)),
 n 21 19 (.ld1 (t 20)),
 n 22 19 (.un .not (t 21)),
 n 23 19 (.mv (t 22)),
 g 24 23 (.fa 2 (t 3)),
 g 25 23 (.ld1 (t 24)),
 g 26 23 (.cmp .neq (t 25) e),
 n 27 19 (.pick (t 23) (t 26) (b false)),
 o 28 (.pick (t 19) (b true) (t 27)),
 o 29 (.mv (t 28)),
 n 30 29 (.fa 1 (t 5)),
 n 31 29 (.ld1 (t 30)),
 n 32 29 (.un .not (t 31)),
 n 33 29 (.mv (t 32)),
 g 34 33 (.fa 3 (t 3)),
 g 35 33 (.ld1 (t 34)),
 g 36 33 (.cmp .neq (t 35) e),
 n 37 29 (.pick (t 33) (t 36) (b false)),
 o 38 (.pick (t 29) (b true) (t 37)),
 o 39 (.mv (t 38)),
 n 40 39 (.fa 2 (t 5)),
 n 41 39 (.ld1 (t 40)),
 n 42 39 (.un .not (t 41)),
 n 43 39 (.mv (t 42)),
 g 44 43 (.fa 4 (t 3)),
 g 45 43 (.ld1 (t 44)),
 g 46 43 (.cmp .neq (t 45) (i 0)),
 n 47 39 (.pick (t 43) (t 46) (b false)),
 o 48 (.pick (t 39) (b true) (t 47))]
def f75r3 : List SOper := [
 o 4 (.mv (i 2))]
def f75r4 : List SOper := [
 o 49 (.fa 1 (t 3)),
 o 50 (.ld1 (t 49)),
 o 51 (.fa 2 (t 3)),
 o 52 (.ld1 (t 51)),
 o 53 (.fa 3 (t 3)),
 o 54 (.ld1 (t 53)),
 o 55 (.bslice [(.string ⟨#[]⟩), (.string ⟨#[]⟩), (.string ⟨#[]⟩)] 3 [(0, 1), (1, 1), (2, 1)] [(t 50), (t 52), (t 54)]),
 o 56 (.call 129 [(t 55)]),
 o 57 (.un .not (t 56))]
def f75r5 : List SOper := [
 o 4 (.mv (i 3))]
def f75r6 : List SOper := [
 o 59 (.mv (t 0)),
 o 60 (.fa 1 (t 3)),
 o 61 (.ld1 (t 60)),
 o 62 (.call 73 [(t 59), (t 61)]),
 o 58 (.mv (t 62)),
 o 63 (.ext (t 58) 0),
 o 64 (.ext (t 58) 1),
 o 7 (.new [(.int .i64 0), (.string ⟨#[]⟩), (.slice none 0 0), (.slice none 0 0), (.slice none 0 0), (.bool false), (.int .i64 0)]),
 q (.st 7 (t 7) (t 63)),
 o 8 (.mv (t 64))]
def f75r7 : List SOper := [
 o 66 (.mv (t 8)),
 o 67 (.un .not (t 66)),
 o 68 (.mv (t 67)),
 g 69 68 (.fa 4 (t 5)),
 g 70 68 (.ld1 (t 69)),
 g 71 68 (.un .not (t 70)),
 o 72 (.pick (t 68) (t 71) (b false)),
 o 65 (.mv (t 72))]
def f75r8 : List SOper := [
 o 4 (.mv (i 5))]
def f75r9 : List SOper := [
 o 74 (.mv (t 8)),
 o 75 (.un .not (t 74)),
 o 73 (.mv (t 75))]
def f75r10 : List SOper := [
 o 76 (.fa 3 (t 5)),
 o 77 (.ld1 (t 76)),
 o 78 (.fa 0 (t 7)),
 q (.st 1 (t 78) (t 77))]
def f75r11 : List SOper := [
 o 80 (.fa 3 (t 5)),
 o 81 (.ld1 (t 80)),
 o 82 (.cmp .neq (t 81) (i 0)),
 o 83 (.mv (t 82)),
 g 84 83 (.fa 0 (t 7)),
 g 85 83 (.ld1 (t 84)),
 g 86 83 (.fa 3 (t 5)),
 g 87 83 (.ld1 (t 86)),
 g 88 83 (.cmp .neq (t 85) (t 87)),
 o 89 (.pick (t 83) (t 88) (b false)),
 o 79 (.mv (t 89))]
def f75r12 : List SOper := [
 o 4 (.mv (i 170))]
def f75r13 : List SOper := [
 o 90 (.fa 5 (t 5)),
 o 91 (.ld1 (t 90)),
 o 92 (.ldn 5 (t 3)),
 o 93 (.callv (t 91) [(t 7), (t 92)]),
 o 9 (.mv (t 93))]
def f75r14 : List SOper := [
 o 94 (.mv (t 9)),
 o 95 (.cmp .neq (t 94) (i 0))]
def f75r15 : List SOper := [
 o 96 (.mv (t 9)),
 o 4 (.mv (t 96))]
def f75r16 : List SOper := [
 o 107 (.fa 0 (t 7)),
 o 108 (.ld1 (t 107)),
 o 109 (.cmp .neq (t 108) (i 1)),
 o 110 (.mv (t 109)),
 g 111 110 (.ldn 7 (t 7)),
 g 112 110 (.call 130 [(t 111)]),
 g 113 110 (.cmp .eql (t 112) (i 0)),
 o 114 (.pick (t 110) (t 113) (b false)),
 o 106 (.mv (t 114))]
def f75r17 : List SOper := [
 o 115 (.mv (t 0)),
 o 116 (.nilck (t 115)),
 o 117 (.fa 0 (t 116)),
 o 118 (.ld1 (t 117)),
 o 119 (.nilck (t 118)),
 o 120 (.fa 0 (t 119)),
 o 121 (.ld1 (t 120)),
 o 122 (.fa 1 (t 3)),
 o 123 (.ld1 (t 122)),
 q (.mdel .str (t 121) (t 123))]
def f75r18 : List SOper := [
 o 125 (.ldn 7 (t 7)),
 o 126 (.call 130 [(t 125)]),
 o 127 (.cmp .gtr (t 126) (i 65536)),
 o 128 (.mv (t 127)),
 n 129 128 (.mv (t 8)),
 n 130 128 (.un .not (t 129)),
 n 131 128 (.mv (t 130)),
 g 132 131 (.mv (t 0)),
 g 133 131 (.nilck (t 132)),
 g 134 131 (.fa 0 (t 133)),
 g 135 131 (.ld1 (t 134)),
 g 136 131 (.nilck (t 135)),
 g 137 131 (.fa 0 (t 136)),
 g 138 131 (.ld1 (t 137)),
 g 139 131 (.lenm (t 138)),
 g 140 131 (.cmp .geq (t 139) (i 65536)),
 n 141 128 (.pick (t 131) (t 140) (b false)),
 o 142 (.pick (t 128) (b true) (t 141)),
 o 124 (.mv (t 142))]
def f75r19 : List SOper := [
 o 4 (.mv (i 3))]
def f75r20 : List SOper := [
 o 97 (.mv (t 0)),
 o 98 (.nilck (t 97)),
 o 99 (.fa 0 (t 98)),
 o 100 (.ld1 (t 99)),
 o 101 (.nilck (t 100)),
 o 102 (.fa 0 (t 101)),
 o 103 (.ld1 (t 102)),
 o 104 (.fa 1 (t 3)),
 o 105 (.ld1 (t 104)),
 q (.mup .str (t 103) (t 105) (t 7))]
def f75r21 : List SOper := [
 o 4 (.mv (i 0))]
def f75 : SCode := (.seq (.ops f75r0) (.seq (.tree [11, 12, 13, 14, 10, 15, 16, 5, 6] f75t1) (.seq (.seq (.ops f75r2) (.cond (t 48) (.seq (.ops f75r3) .ret) .skip)) (.seq (.seq (.ops f75r4) (.cond (t 57) (.seq (.ops f75r5) .ret) .skip)) (.seq (.ops f75r6) (.seq (.block 0 (.seq (.ops f75r7) (.cond (t 65) (.seq (.ops f75r8) .ret) (.seq (.ops f75r9) (.cond (t 73) (.ops f75r10) (.seq (.ops f75r11) (.cond (t 79) (.seq (.ops f75r12) .ret) .skip))))))) (.seq (.seq (.ops f75r13) (.seq (.ops f75r14) (.cond (t 95) (.seq (.ops f75r15) .ret) .skip))) (.seq (.block 1 (.seq (.ops f75r16) (.cond (t 106) (.ops f75r17) (.seq (.ops f75r18) (.cond (t 124) (.seq (.ops f75r19) .ret) (.ops f75r20)))))) (.seq (.ops f75r21) .ret)))))))))
theorem f75_ok (oq : Nat → Value) (F : Nat → Prop) (h0 : Heap) : EntOK Tryz.prog oq F h0 75 (.code 143 f75 [.t 4]) := ⟨soundD_of (fl := false) mixed Tryz.func75 rfl (by kernel_rfl) (by kernel_rfl) (by kernel_rfl), soundF_of (fl := false) mixed Tryz.func75 rfl (by kernel_rfl) (by kernel_rfl) (by kernel_rfl)⟩

/-! 76: slices.ContainsFunc[[]string,string] -/
def f76r0 : List SOper := [
 o 4 (.mv (b false))]
def f76r1 : List SOper := [
 o 5 (.mv (t 0)),
 o 6 (.mv (t 1)),
 o 7 (.call 131 [(t 5), (t 6)]),
 o 8 (.cmp .geq (t 7) (i 0)),
 o 4 (.mv (t 8))]
def f76 : SCode := (.seq (.ops f76r0) (.seq (.ops f76r1) .ret))
theorem f76_ok (oq : Nat → Value) (F : Nat → Prop) (h0 : Heap) : EntOK Tryz.prog oq F h0 76 (.code 9 f76 [.t 4]) := ⟨soundD_of (fl := false) mixed Tryz.func76 rfl (by kernel_rfl) (by kernel_rfl) (by kernel_rfl), soundF_of (fl := false) mixed Tryz.func76 rfl (by kernel_rfl) (by kernel_rfl) (by kernel_rfl)⟩

/-! 77: tabor/commands.long$1 -/
def f77r0 : List SOper := [
 o 2 (.mv (b false))]
def f77r1 : List SOper := [
 o 3 (.mv (t 0)),
 o 4 (.lens (t 3)),
 o 5 (.cmp .gtr (t 4) (i 1048576)),
 o 2 (.mv (t 5))]
def f77 : SCode := (.seq (.ops f77r0) (.seq (.ops f77r1) .ret))
theorem f77_ok (oq : Nat → Value) (F : Nat → Prop) (h0 : Heap) : EntOK Tryz.prog oq F h0 77 (.code 6 f77 [.t 2]) := ⟨soundD_of (fl := false) mixed Tryz.func77 rfl (by kernel_rfl) (by kernel_rfl) (by kernel_rfl), soundF_of (fl := false) mixed Tryz.func77 rfl (by kernel_rfl) (by kernel_rfl) (by kernel_rfl)⟩

/-! 78: (*tabor/keys.Keys).All -/
def f78r0 : List SOper := [
 o 1 (.box (t 0)),
 o 2 (.mv (.const .nilFunc))]
def f78r1 : List SOper := [
 o 3 (.fn 132 [] [(t 1)]),
 o 2 (.mv (t 3))]
def f78 : SCode := (.seq (.ops f78r0) (.seq (.ops f78r1) .ret))
theorem f78_ok (oq : Nat → Value) (F : Nat → Prop) (h0 : Heap) : EntOK Tryz.prog oq F h0 78 (.code 4 f78 [.t 2]) := ⟨soundD_of (fl := false) mixed Tryz.func78 rfl (by kernel_rfl) (by kernel_rfl) (by kernel_rfl), soundF_of (fl := false) mixed Tryz.func78 rfl (by kernel_rfl) (by kernel_rfl) (by kernel_rfl)⟩

/-! 81: tabor/basics.commands -/
def f81r0 : List SOper := [
 o 0 (.mv (.const (.map none)))]
def f81r1 : List SOper := [
 o 1 (.mkm),
 q (.mup .str (t 1) (.const (.string ⟨#[83, 69, 84]⟩)) (u 135)),
 q (.mup .str (t 1) (.const (.string ⟨#[71, 69, 84]⟩)) (u 136)),
 q (.mup .str (t 1) (.const (.string ⟨#[68, 69, 76]⟩)) (u 137)),
 q (.mup .str (t 1) (.const (.string ⟨#[69, 88, 73, 83, 84, 83]⟩)) (u 138)),
 q (.mup .str (t 1) (.const (.string ⟨#[84, 89, 80, 69]⟩)) (u 139)),
 o 2 (.call 140 [(i 1)]),
 q (.mup .str (t 1) (.const (.string ⟨#[73, 78, 67, 82]⟩)) (t 2)),
 o 3 (.call 140 [(i (-1))]),
 q (.mup .str (t 1) (.const (.string ⟨#[68, 69, 67, 82]⟩)) (t 3)),
 q (.mup .str (t 1) (.const (.string ⟨#[73, 78, 67, 82, 66, 89]⟩)) (u 141)),
 q (.mup .str (t 1) (.const (.string ⟨#[65, 80, 80, 69, 78, 68]⟩)) (u 145)),
 q (.mup .str (t 1) (.const (.string ⟨#[83, 84, 82, 76, 69, 78]⟩)) (u 146)),
 q (.mup .str (t 1) (.const (.string ⟨#[77, 71, 69, 84]⟩)) (u 147)),
 q (.mup .str (t 1) (.const (.string ⟨#[77, 83, 69, 84]⟩)) (u 148)),
 q (.mup .str (t 1) (.const (.string ⟨#[80, 69, 88, 80, 73, 82, 69]⟩)) (u 149)),
 q (.mup .str (t 1) (.const (.string ⟨#[80, 69, 82, 83, 73, 83, 84]⟩)) (u 150)),
 q (.mup .str (t 1) (.const (.string ⟨#[80, 84, 84, 76]⟩)) (u 151)),
 q (.mup .str (t 1) (.const (.string ⟨#[75, 69, 89, 83]⟩)) (u 152)),
 q (.mup .str (t 1) (.const (.string ⟨#[68, 66, 83, 73, 90, 69]⟩)) (u 153)),
 q (.mup .str (t 1) (.const (.string ⟨#[70, 76, 85, 83, 72, 65, 76, 76]⟩)) (u 154)),
 o 4 (.mv (t 1)),
 o 0 (.mv (t 4))]
def f81 : SCode := (.seq (.ops f81r0) (.seq (.ops f81r1) .ret))
theorem f81_ok (oq : Nat → Value) (F : Nat → Prop) (h0 : Heap) : EntOK Tryz.prog oq F h0 81 (.code 5 f81 [.t 0]) := ⟨soundD_of (fl := false) mixed Tryz.func81 rfl (by kernel_rfl) (by kernel_rfl) (by kernel_rfl), soundF_of (fl := false) mixed Tryz.func81 rfl (by kernel_rfl) (by kernel_rfl) (by kernel_rfl)⟩

/-! 83: tabor/basics.word -/
def f83r0 : List SOper := [
 o 2 (.mv e)]
def f83r1 : List SOper := [
 o 6 (.mv (t 0)),
 o 7 (.byts (t 6)),
 o 3 (.mv (t 7))]
def f83r2 : List SOper := [
 o 8 (.mv (t 3)),
 o 9 (.len (t 8)),
 o 10 (.mv (i 0))]
def f83r3 : List SOper := [
 o 11 (.cmp .lss (t 10) (t 9))]
def f83r4 : List SOper := [
 o 12 (.mv (t 10)),
 o 13 (.ixs 1 (t 8) (t 10)),
 o 14 (.ld1 (t 13)),
 o 4 (.mv (t 12)),
 o 5 (.mv (t 14))]
def f83r5 : List SOper := [
 o 15 (.mv (t 5)),
 o 16 (.cmp .geq (t 15) (.const (.int .u8 97))),
 o 17 (.mv (t 16)),
 g 18 17 (.mv (t 5)),
 g 19 17 (.cmp .leq (t 18) (.const (.int .u8 122))),
 o 20 (.pick (t 17) (t 19) (b false))]
def f83r6 : List SOper := [
 o 21 (.mv (t 3)),
 o 22 (.mv (t 4)),
 o 23 (.mv (t 5)),
 o 24 (.ar .sub (t 23) (.const (.int .u8 97))),
 o 25 (.ar .add (t 24) (.const (.int .u8 65))),
 o 26 (.ixs 1 (t 21) (t 22)),
 q (.stb (t 26) (t 25))]
def f83r7 : List SOper := [
 o 27 (.ar .add (t 10) (i 1)),
 o 10 (.mv (t 27))]
def f83l8 : SCode := (.seq (.ops f83r3) (.seq (.cond (t 11) .skip (.exit 0)) (.seq (.block 1 (.seq (.ops f83r4) (.seq (.ops f83r5) (.cond (t 20) (.ops f83r6) .skip)))) (.ops f83r7))))
def f83r9 : List SOper := [
 o 28 (.mv (t 3)),
 o 29 (.bstr (t 28)),
 o 2 (.mv (t 29))]
def f83 : SCode := (.seq (.ops f83r0) (.seq (.ops f83r1) (.seq (.seq (.ops f83r2) (.block 0 (.loop f83l8))) (.seq (.ops f83r9) .ret))))
theorem f83_ok (oq : Nat → Value) (F : Nat → Prop) (h0 : Heap) : EntOK Tryz.prog oq F h0 83 (.code 30 f83 [.t 2]) := ⟨soundD_of (fl := false) mixed Tryz.func83 rfl (by kernel_rfl) (by kernel_rfl) (by kernel_rfl), soundF_of (fl := false) mixed Tryz.func83 rfl (by kernel_rfl) (by kernel_rfl) (by kernel_rfl)⟩

/-! 84: tabor/basics.Do$1 -/
def f84r0 : List SOper := [
 o 7 (.eqn 4 false (t 5))]
def f84r1 : List SOper := [
 o 2 (.mv (t 5))]
def f84r2 : List SOper := [
 o 8 (.tas 113 (.agg #[(.string ⟨#[]⟩)]) true (t 5)),
 o 9 (.ext (t 8) 1),
 o 10 (.ext (t 8) 0)]
def f84r3 : List SOper := [
 o 3 (.new [(.string ⟨#[]⟩)]),
 q (.st 1 (t 3) (t 10))]
def f84r4 : List SOper := [
 o 11 (.fa 0 (t 3)),
 o 12 (.ld1 (t 11)),
 o 13 (.call 27 [(t 12)]),
 q (.st 4 (t 0) (t 13)),
 q (.st 1 (t 1) (.const (.slice none 0 0)))]
def f84r5 : List SOper := [
 o 4 (.mv (t 5))]
def f84r6 : List SOper := [
 o 6 (.mv (t 4)),
 q (.pan (t 6))]
def f84 : SCode := (.seq (.rcv (some 5)) (.block 0 (.seq (.ops f84r0) (.cond (t 7) (.ops f84r1) (.seq (.ops f84r2) (.cond (t 9) (.seq (.ops f84r3) (.ops f84r4)) (.seq (.ops f84r5) (.ops f84r6))))))))
theorem f84_ok (oq : Nat → Value) (F : Nat → Prop) (h0 : Heap) : EntOK Tryz.prog oq F h0 84 (.code 14 f84 []) := ⟨soundD_of (fl := false) mixed Tryz.func84 rfl (by kernel_rfl) (by kernel_rfl) (by kernel_rfl), soundF_of (fl := false) mixed Tryz.func84 rfl (by kernel_rfl) (by kernel_rfl) (by kernel_rfl)⟩

/-! 85: slices.AppendSeq[[]string,string] -/
def f85r0 : List SOper := [
 o 2 (.box (t 0)),
 o 4 (.mv (.const (.slice none 0 0)))]
def f85r1 : List SOper := [
 o 6 (.mv (t 1))]
def f85r2 : List SOper := [
 o 5 (.mv (t 7))]
def f85r3 : List SOper := [
 o 8 (.ld1 (t 2)),
 o 9 (.mv (t 5)),
 o 10 (.bslice [(.string ⟨#[]⟩)] 1 [(0, 1)] [(t 9)]),
 o 11 (.app 1 16 [(.string ⟨#[]⟩)] (t 8) (t 10)),
 q (.st 1 (t 2) (t 11))]
def f85a4 : SCode := (.ops f85r2)
def f85b4 : SCode := (.block 1 (.ops f85r3))
def f85r5 : List SOper := [
 o 12 (.ld1 (t 2)),
 o 4 (.mv (t 12))]
def f85 : SCode := (.seq (.ops f85r0) (.seq (.seq (.ops f85r1) (.block 0 (.rangeF (t 6) [7] f85a4 f85b4))) (.seq (.ops f85r5) .ret)))
theorem f85_ok (oq : Nat → Value) (F : Nat → Prop) (h0 : Heap) : EntOK Tryz.prog oq F h0 85 (.code 13 f85 [.t 4]) := ⟨soundD_of (fl := false) mixed Tryz.func85 rfl (by kernel_rfl) (by kernel_rfl) (by kernel_rfl), soundF_of (fl := false) mixed Tryz.func85 rfl (by kernel_rfl) (by kernel_rfl) (by kernel_rfl)⟩

/-! 86: slices.pdqsortOrdered[string] -/
def f86r0 : List SOper := [
 o 8 (.mv (b true))]
def f86r1 : List SOper := [
 o 9 (.mv (b true))]
def f86r2 : List SOper := [
 o 19 (.mv (t 2)),
 o 20 (.mv (t 1)),
 o 21 (.ar .sub (t 19) (t 20)),
 o 10 (.mv (t 21))]
def f86r3 : List SOper := [
 o 22 (.mv (t 10)),
 o 23 (.cmp .leq (t 22) (i 12))]
def f86r4 : List SOper := [
 o 24 (.mv (t 0)),
 o 25 (.mv (t 1)),
 o 26 (.mv (t 2)),
 o 27 (.call 155 [(t 24), (t 25), (t 26)])]
def f86r5 : List SOper := [
 o 28 (.mv (t 3)),
 o 29 (.cmp .eql (t 28) (i 0))]
def f86r6 : List SOper := [
 o 30 (.mv (t 0)),
 o 31 (.mv (t 1)),
 o 32 (.mv (t 2)),
 o 33 (.call 156 [(t 30), (t 31), (t 32)])]
def f86r7 : List SOper := [
 o 34 (.mv (t 8)),
 o 35 (.un .not (t 34))]
def f86r8 : List SOper := [
 o 36 (.mv (t 0)),
 o 37 (.mv (t 1)),
 o 38 (.mv (t 2)),
 o 39 (.call 157 [(t 36), (t 37), (t 38)])]
def f86r9 : List SOper := [
 o 40 (.mv (t 3)),
 o 41 (.ar .sub (t 40) (i 1)),
 o 3 (.mv (t 41))]
def f86r10 : List SOper := [
 o 43 (.mv (t 0)),
 o 44 (.mv (t 1)),
 o 45 (.mv (t 2)),
 o 46 (.call 158 [(t 43), (t 44), (t 45)]),
 o 42 (.mv (t 46)),
 o 47 (.ext (t 42) 0),
 o 48 (.ext (t 42) 1),
 o 11 (.mv (t 47)),
 o 12 (.mv (t 48))]
def f86r11 : List SOper := [
 o 49 (.mv (t 12)),
 o 50 (.cmp .eql (t 49) (i 2))]
def f86r12 : List SOper := [
 o 51 (.mv (t 0)),
 o 52 (.mv (t 1)),
 o 53 (.mv (t 2)),
 o 54 (.call 159 [(t 51), (t 52), (t 53)])]
def f86r13 : List SOper := [
 o 55 (.mv (t 2)),
 o 56 (.ar .sub (t 55) (i 1)),
 o 57 (.mv (t 11)),
 o 58 (.mv (t 1)),
 o 59 (.ar .sub (t 57) (t 58)),
 o 60 (.ar .sub (t 56) (t 59)),
 o 11 (.mv (t 60))]
def f86r14 : List SOper := [
 o 12 (.mv (i 1))]
def f86r15 : List SOper := [
 o 61 (.mv (t 8)),
 o 62 (.mv (t 61)),
 g 63 62 (.mv (t 9)),
 o 64 (.pick (t 62) (t 63) (b false)),
 o 65 (.mv (t 64)),
 g 66 65 (.mv (t 12)),
 g 67 65 (.cmp .eql (t 66) (i 1)),
 o 68 (.pick (t 65) (t 67) (b false))]
def f86r16 : List SOper := [
 o 69 (.mv (t 0)),
 o 70 (.mv (t 1)),
 o 71 (.mv (t 2)),
 o 72 (.call 160 [(t 69), (t 70), (t 71)])]
def f86r17 : List SOper := [
 o 73 (.mv (t 1)),
 o 74 (.cmp .gtr (t 73) (i 0)),
 o 75 (.mv (t 74)),
 g 76 75 (.mv (t 0)),
 g 77 75 (.mv (t 1)),
 g 78 75 (.ar .sub (t 77) (i 1)),
 g 79 75 (.ixs 1 (t 76) (t 78)),
 g 80 75 (.ld1 (t 79)),
 g 81 75 (.mv (t 0)),
 g 82 75 (.mv (t 11)),
 g 83 75 (.ixs 1 (t 81) (t 82)),
 g 84 75 (.ld1 (t 83)),
 g 85 75 (.call 161 [(t 80), (t 84)]),
 g 86 75 (.un .not (t 85)),
 o 87 (.pick (t 75) (t 86) (b false))]
def f86r18 : List SOper := [
 o 88 (.mv (t 0)),
 o 89 (.mv (t 1)),
 o 90 (.mv (t 2)),
 o 91 (.mv (t 11)),
 o 92 (.call 162 [(t 88), (t 89), (t 90), (t 91)]),
 o 13 (.mv (t 92))]
def f86r19 : List SOper := [
 o 93 (.mv (t 13)),
 o 1 (.mv (t 93))]
def f86r20 : List SOper := [
 o 95 (.mv (t 0)),
 o 96 (.mv (t 1)),
 o 97 (.mv (t 2)),
 o 98 (.mv (t 11)),
 o 99 (.call 163 [(t 95), (t 96), (t 97), (t 98)]),
 o 94 (.mv (t 99)),
 o 100 (.ext (t 94) 0),
 o 101 (.ext (t 94) 1),
 o 14 (.mv (t 100)),
 o 15 (.mv (t 101))]
def f86r21 : List SOper := [
 o 102 (.mv (t 15)),
 o 9 (.mv (t 102))]
def f86r22 : List SOper := [
 o 103 (.mv (t 14)),
 o 104 (.mv (t 1)),
 o 105 (.ar .sub (t 103) (t 104)),
 o 106 (.mv (t 2)),
 o 107 (.mv (t 14)),
 o 108 (.ar .sub (t 106) (t 107)),
 o 16 (.mv (t 105)),
 o 17 (.mv (t 108))]
def f86r23 : List SOper := [
 o 109 (.mv (t 10)),
 o 110 (.quo (t 109) (i 8)),
 o 18 (.mv (t 110))]
def f86r24 : List SOper := [
 o 111 (.mv (t 16)),
 o 112 (.mv (t 17)),
 o 113 (.cmp .lss (t 111) (t 112))]
def f86r25 : List SOper := [
 o 114 (.mv (t 16)),
 o 115 (.mv (t 18)),
 o 116 (.cmp .geq (t 114) (t 115)),
 o 8 (.mv (t 116))]
def f86r26 : List SOper := [
 o 117 (.mv (t 0)),
 o 118 (.mv (t 1)),
 o 119 (.mv (t 14)),
 o 120 (.mv (t 3)),
 o 121 (.call 86 [(t 117), (t 118), (t 119), (t 120)])]
def f86r27 : List SOper := [
 o 122 (.mv (t 14)),
 o 123 (.ar .add (t 122) (i 1)),
 o 1 (.mv (t 123))]
def f86r28 : List SOper := [
 o 124 (.mv (t 17)),
 o 125 (.mv (t 18)),
 o 126 (.cmp .geq (t 124) (t 125)),
 o 8 (.mv (t 126))]
def f86r29 : List SOper := [
 o 127 (.mv (t 0)),
 o 128 (.mv (t 14)),
 o 129 (.ar .add (t 128) (i 1)),
 o 130 (.mv (t 2)),
 o 131 (.mv (t 3)),
 o 132 (.call 86 [(t 127), (t 129), (t 130), (t 131)])]
def f86r30 : List SOper := [
 o 133 (.mv (t 14)),
 o 2 (.mv (t 133))]
def f86l31 : SCode := (.block 1 (.seq (.ops f86r2) (.seq (.seq (.ops f86r3) (.cond (t 23) (.seq (.ops f86r4) .ret) .skip)) (.seq (.seq (.ops f86r5) (.cond (t 29) (.seq (.ops f86r6) .ret) .skip)) (.seq (.seq (.ops f86r7) (.cond (t 35) (.seq (.ops f86r8) (.ops f86r9)) .skip)) (.seq (.ops f86r10) (.seq (.seq (.ops f86r11) (.cond (t 50) (.seq (.ops f86r12) (.seq (.ops f86r13) (.ops f86r14))) .skip)) (.seq (.seq (.ops f86r15) (.cond (t 68) (.seq (.ops f86r16) (.cond (t 72) .ret .skip)) .skip)) (.seq (.seq (.ops f86r17) (.cond (t 87) (.seq (.ops f86r18) (.seq (.ops f86r19) (.exit 1))) .skip)) (.seq (.ops f86r20) (.seq (.ops f86r21) (.seq (.ops f86r22) (.seq (.ops f86r23) (.seq (.ops f86r24) (.cond (t 113) (.seq (.ops f86r25) (.seq (.ops f86r26) (.ops f86r27))) (.seq (.ops f86r28) (.seq (.ops f86r29) (.ops f86r30))))))))))))))))))
def f86 : SCode := (.seq (.ops f86r0) (.seq (.ops f86r1) (.block 0 (.loop f86l31))))
theorem f86_ok (oq : Nat → Value) (F : Nat → Prop) (h0 : Heap) : EntOK Tryz.prog oq F h0 86 (.code 134 f86 []) := ⟨soundD_of (fl := false) mixed Tryz.func86 rfl (by kernel_rfl) (by kernel_rfl) (by kernel_rfl), soundF_of (fl := false) mixed Tryz.func86 rfl (by kernel_rfl) (by kernel_rfl) (by kernel_rfl)⟩

/-! 87: math/bits.Len -/
def f87r0 : List SOper := [
 o 2 (.mv (i 0))]
def f87r1 : List SOper := [
 o 3 (.mv (t 0)),
 o 4 (.cvt .u32 (t 3)),
 o 5 (.call 164 [(t 4)]),
 o 2 (.mv (t 5))]
def f87r2 : List SOper := [
 o 6 (.mv (t 0)),
 o 7 (.call 165 [(t 6)]),
 o 2 (.mv (t 7))]
def f87 : SCode := (.seq (.ops f87r0) (.seq (.cond (b false) (.seq (.ops f87r1) .ret) .skip) (.seq (.ops f87r2) .ret)))
theorem f87_ok (oq : Nat → Value) (F : Nat → Prop) (h0 : Heap) : EntOK Tryz.prog oq F h0 87 (.code 8 f87 [.t 2]) := ⟨soundD_of (fl := false) mixed Tryz.func87 rfl (by kernel_rfl) (by kernel_rfl) (by kernel_rfl), soundF_of (fl := false) mixed Tryz.func87 rfl (by kernel_rfl) (by kernel_rfl) (by kernel_rfl)⟩

/-! 103: tabor/basics.Number -/
def f103r0 : List SOper := [
 o 2 (.mv (i 0)),
 o 3 (.mv (b false))]
def f103r1 : List SOper := [
 o 7 (.mv (t 0)),
 o 8 (.call 172 [(t 7), (i 10), (i 64)]),
 o 6 (.mv (t 8)),
 o 9 (.ext (t 6) 0),
 o 10 (.ext (t 6) 1),
 o 4 (.mv (t 9)),
 o 5 (.mv (t 10))]
def f103r2 : List SOper := [
 o 11 (.mv (t 5)),
 o 12 (.eqn 4 true (t 11)),
 o 13 (.mv (t 12)),
 n 14 13 (.mv (t 4)),
 n 15 13 (.call 105 [(t 14), (i 10)]),
 n 16 13 (.mv (t 0)),
 n 17 13 (.cmp .neq (t 15) (t 16)),
 o 18 (.pick (t 13) (b true) (t 17))]
def f103r3 : List SOper := [
 o 2 (.mv (i 0)),
 o 3 (.mv (b false))]
def f103r4 : List SOper := [
 o 19 (.mv (t 4)),
 o 2 (.mv (t 19)),
 o 3 (.mv (b true))]
def f103 : SCode := (.seq (.ops f103r0) (.seq (.ops f103r1) (.seq (.seq (.ops f103r2) (.cond (t 18) (.seq (.ops f103r3) .ret) .skip)) (.seq (.ops f103r4) .ret))))
theorem f103_ok (oq : Nat → Value) (F : Nat → Prop) (h0 : Heap) : EntOK Tryz.prog oq F h0 103 (.code 20 f103 [.t 2, .t 3]) := ⟨soundD_of (fl := false) mixed Tryz.func103 rfl (by kernel_rfl) (by kernel_rfl) (by kernel_rfl), soundF_of (fl := false) mixed Tryz.func103 rfl (by kernel_rfl) (by kernel_rfl) (by kernel_rfl)⟩

/-! 105: strconv.FormatInt -/
def f105r0 : List SOper := [
 o 4 (.mv e)]
def f105r1 : List SOper := [
 o 5 (.mv (t 0)),
 o 6 (.mv (t 1)),
 o 7 (.call 173 [(t 5), (t 6)]),
 o 4 (.mv (t 7))]
def f105 : SCode := (.seq (.ops f105r0) (.seq (.ops f105r1) .ret))
theorem f105_ok (oq : Nat → Value) (F : Nat → Prop) (h0 : Heap) : EntOK Tryz.prog oq F h0 105 (.code 8 f105 [.t 4]) := ⟨soundD_of (fl := false) mixed Tryz.func105 rfl (by kernel_rfl) (by kernel_rfl) (by kernel_rfl), soundF_of (fl := false) mixed Tryz.func105 rfl (by kernel_rfl) (by kernel_rfl) (by kernel_rfl)⟩

/-! 127: tabor/keys.copied -/
def f127r0 : List SOper := [
 o 1 (.box (t 0)),
 o 2 (.new [(.int .i64 0), (.string ⟨#[]⟩), (.slice none 0 0), (.slice none 0 0), (.slice none 0 0), (.bool false), (.int .i64 0)])]
def f127t1 : OTree := (.one (o 3 (.fa 2 (t 1)))
 (.one (o 4 (.ld1 (t 3)))
 (.one (o 6 (.fa 3 (t 1)))
 (.one (o 9 (.fa 4 (t 1)))
 (.one (o 7 (.ld1 (t 6)))
 (.one (o 10 (.ld1 (t 9)))
 (.one (o 5 (.call 186 [(t 4)]))
 (.chk [o 10 (.ld1 (t 9)), o 7 (.ld1 (t 6))] (.one (o 12 (.fa 2 (t 1)))
 (.chk [o 10 (.ld1 (t 9)), o 7 (.ld1 (t 6))] (.one (o 8 (.call 187 [(t 7)]))
 (.chk [o 10 (.ld1 (t 9))] (.one (o 11 (.call 188 [(t 10)]))
 (.one (q (.st 1 (t 12) (t 5)))
 (.one (o 13 (.fa 3 (t 1)))
 (.one (q (.st 1 (t 13) (t 8)))
 (.one (o 14 (.fa 4 (t 1)))
 (.one (q (.st 1 (t 14) (t 11)))
 .done))))))))))))))))))
def f127r2 : List SOper := [
 o 15 (.ldn 7 (t 1)),
 q (.st 7 (t 2) (t 15))]
def f127 : SCode := (.seq (.ops f127r0) (.seq (.tree [3, 4, 5, 6, 7, 8, 9, 10, 11, 12, 13, 14] f127t1) (.seq (.ops f127r2) .ret)))
theorem f127_ok (oq : Nat → Value) (F : Nat → Prop) (h0 : Heap) : EntOK Tryz.prog oq F h0 127 (.code 16 f127 [.cn 2 7]) := ⟨soundD_of (fl := false) mixed Tryz.func127 rfl (by kernel_rfl) (by kernel_rfl) (by kernel_rfl), soundF_of (fl := false) mixed Tryz.func127 rfl (by kernel_rfl) (by kernel_rfl) (by kernel_rfl)⟩

/-! 128: tabor/keys.rules -/
def f128r0 : List SOper := [
 o 0 (.mv (.const (.map none)))]
def f128r1 : List SOper := [
 o 1 (.mkm),
 o 2 (.build [(.bool false), (.bool false), (.bool false), (.int .i64 0), (.bool false), .nilFunc] [(5, 1)] [(u 189)]),
 q (.mup (.int .i64) (t 1) (i 1) (t 2)),
 o 3 (.build [(.bool false), (.bool false), (.bool false), (.int .i64 0), (.bool false), .nilFunc] [(1, 1), (4, 1), (5, 1)] [(b true), (b true), (u 190)]),
 q (.mup (.int .i64) (t 1) (i 2) (t 3)),
 o 4 (.build [(.bool false), (.bool false), (.bool false), (.int .i64 0), (.bool false), .nilFunc] [(2, 1), (5, 1)] [(b true), (u 191)]),
 q (.mup (.int .i64) (t 1) (i 3) (t 4)),
 o 5 (.build [(.bool false), (.bool false), (.bool false), (.int .i64 0), (.bool false), .nilFunc] [(5, 1)] [(u 192)]),
 q (.mup (.int .i64) (t 1) (i 4) (t 5)),
 o 6 (.build [(.bool false), (.bool false), (.bool false), (.int .i64 0), (.bool false), .nilFunc] [(0, 1), (1, 1), (3, 1), (4, 1), (5, 1)] [(b true), (b true), (i 2), (b true), (u 193)]),
 q (.mup (.int .i64) (t 1) (i 5) (t 6)),
 o 7 (.build [(.bool false), (.bool false), (.bool false), (.int .i64 0), (.bool false), .nilFunc] [(0, 1), (3, 1), (5, 1)] [(b true), (i 2), (u 194)]),
 q (.mup (.int .i64) (t 1) (i 6) (t 7)),
 o 8 (.build [(.bool false), (.bool false), (.bool false), (.int .i64 0), (.bool false), .nilFunc] [(1, 1), (3, 1), (4, 1), (5, 1)] [(b true), (i 3), (b true), (u 195)]),
 q (.mup (.int .i64) (t 1) (i 7) (t 8)),
 o 9 (.build [(.bool false), (.bool false), (.bool false), (.int .i64 0), (.bool false), .nilFunc] [(1, 1), (3, 1), (4, 1), (5, 1)] [(b true), (i 3), (b true), (u 197)]),
 q (.mup (.int .i64) (t 1) (i 8) (t 9)),
 o 10 (.build [(.bool false), (.bool false), (.bool false), (.int .i64 0), (.bool false), .nilFunc] [(3, 1), (5, 1)] [(i 3), (u 198)]),
 q (.mup (.int .i64) (t 1) (i 9) (t 10)),
 o 11 (.build [(.bool false), (.bool false), (.bool false), (.int .i64 0), (.bool false), .nilFunc] [(3, 1), (5, 1)] [(i 3), (u 199)]),
 q (.mup (.int .i64) (t 1) (i 10) (t 11)),
 o 12 (.build [(.bool false), (.bool false), (.bool false), (.int .i64 0), (.bool false), .nilFunc] [(1, 1), (2, 1), (3, 1), (5, 1)] [(b true), (b true), (i 3), (u 200)]),
 q (.mup (.int .i64) (t 1) (i 11) (t 12)),
 o 13 (.build [(.bool false), (.bool false), (.bool false), (.int .i64 0), (.bool false), .nilFunc] [(0, 1), (3, 1), (4, 1), (5, 1)] [(b true), (i 4), (b true), (u 201)]),
 q (.mup (.int .i64) (t 1) (i 12) (t 13)),
 o 14 (.build [(.bool false), (.bool false), (.bool false), (.int .i64 0), (.bool false), .nilFunc] [(0, 1), (3, 1), (5, 1)] [(b true), (i 4), (u 202)]),
 q (.mup (.int .i64) (t 1) (i 13) (t 14)),
 o 15 (.build [(.bool false), (.bool false), (.bool false), (.int .i64 0), (.bool false), .nilFunc] [(0, 1), (2, 1), (3, 1), (4, 1), (5, 1)] [(b true), (b true), (i 5), (b true), (u 203)]),
 q (.mup (.int .i64) (t 1) (i 14) (t 15)),
 o 16 (.build [(.bool false), (.bool false), (.bool false), (.int .i64 0), (.bool false), .nilFunc] [(0, 1), (3, 1), (5, 1)] [(b true), (i 5), (u 204)]),
 q (.mup (.int .i64) (t 1) (i 15) (t 16)),
 o 17 (.mv (t 1)),
 o 0 (.mv (t 17))]
def f128 : SCode := (.seq (.ops f128r0) (.seq (.ops f128r1) .ret))
theorem f128_ok (oq : Nat → Value) (F : Nat → Prop) (h0 : Heap) : EntOK Tryz.prog oq F h0 128 (.code 18 f128 [.t 0]) := ⟨soundD_of (fl := false) mixed Tryz.func128 rfl (by kernel_rfl) (by kernel_rfl) (by kernel_rfl), soundF_of (fl := false) mixed Tryz.func128 rfl (by kernel_rfl) (by kernel_rfl) (by kernel_rfl)⟩

/-! 129: tabor/keys.short -/
def f129r0 : List SOper := [
 o 2 (.mv (b false))]
def f129r1 : List SOper := [
 o 3 (.mv (t 0)),
 o 4 (.call 76 [(t 3), (u 205)]),
 o 5 (.un .not (t 4)),
 o 2 (.mv (t 5))]
def f129 : SCode := (.seq (.ops f129r0) (.seq (.ops f129r1) .ret))
theorem f129_ok (oq : Nat → Value) (F : Nat → Prop) (h0 : Heap) : EntOK Tryz.prog oq F h0 129 (.code 6 f129 [.t 2]) := ⟨soundD_of (fl := false) mixed Tryz.func129 rfl (by kernel_rfl) (by kernel_rfl) (by kernel_rfl), soundF_of (fl := false) mixed Tryz.func129 rfl (by kernel_rfl) (by kernel_rfl) (by kernel_rfl)⟩

/-! 130: tabor/keys.count -/
def f130r0 : List SOper := [
 o 1 (.box (t 0)),
 o 2 (.mv (i 0))]
def f130r1 : List SOper := [
 o 3 (.fa 2 (t 1)),
 o 4 (.ld1 (t 3)),
 o 5 (.len (t 4)),
 o 6 (.fa 3 (t 1)),
 o 7 (.ld1 (t 6)),
 o 8 (.len (t 7)),
 o 9 (.ar .add (t 5) (t 8)),
 o 10 (.fa 4 (t 1)),
 o 11 (.ld1 (t 10)),
 o 12 (.len (t 11)),
 o 13 (.ar .add (t 9) (t 12)),
 o 2 (.mv (t 13))]
def f130 : SCode := (.seq (.ops f130r0) (.seq (.ops f130r1) .ret))
theorem f130_ok (oq : Nat → Value) (F : Nat → Prop) (h0 : Heap) : EntOK Tryz.prog oq F h0 130 (.code 14 f130 [.t 2]) := ⟨soundD_of (fl := false) mixed Tryz.func130 rfl (by kernel_rfl) (by kernel_rfl) (by kernel_rfl), soundF_of (fl := false) mixed Tryz.func130 rfl (by kernel_rfl) (by kernel_rfl) (by kernel_rfl)⟩

/-! 131: slices.IndexFunc[[]string,string] -/
def f131r0 : List SOper := [
 o 4 (.mv (i 0))]
def f131r1 : List SOper := [
 o 6 (.mv (t 0)),
 o 7 (.len (t 6)),
 o 8 (.mv (i 0))]
def f131r2 : List SOper := [
 o 9 (.cmp .lss (t 8) (t 7))]
def f131r3 : List SOper := [
 o 10 (.mv (t 8)),
 o 5 (.mv (t 10))]
def f131r4 : List SOper := [
 o 11 (.mv (t 1)),
 o 12 (.mv (t 0)),
 o 13 (.mv (t 5)),
 o 14 (.ixs 1 (t 12) (t 13)),
 o 15 (.ld1 (t 14)),
 o 16 (.callv (t 11) [(t 15)])]
def f131r5 : List SOper := [
 o 17 (.mv (t 5)),
 o 4 (.mv (t 17))]
def f131r6 : List SOper := [
 o 18 (.ar .add (t 8) (i 1)),
 o 8 (.mv (t 18))]
def f131l7 : SCode := (.seq (.ops f131r2) (.seq (.cond (t 9) .skip (.exit 0)) (.seq (.block 1 (.seq (.ops f131r3) (.seq (.ops f131r4) (.cond (t 16) (.seq (.ops f131r5) .ret) .skip)))) (.ops f131r6))))
def f131r8 : List SOper := [
 o 4 (.mv (i (-1)))]
def f131 : SCode := (.seq (.ops f131r0) (.seq (.seq (.ops f131r1) (.block 0 (.loop f131l7))) (.seq (.ops f131r8) .ret)))
theorem f131_ok (oq : Nat → Value) (F : Nat → Prop) (h0 : Heap) : EntOK Tryz.prog oq F h0 131 (.code 19 f131 [.t 4]) := ⟨soundD_of (fl := false) mixed Tryz.func131 rfl (by kernel_rfl) (by kernel_rfl) (by kernel_rfl), soundF_of (fl := false) mixed Tryz.func131 rfl (by kernel_rfl) (by kernel_rfl) (by kernel_rfl)⟩

/-! 132: (*tabor/keys.Keys).All$1 -/
def f132r0 : List SOper := [
 o 6 (.ld1 (t 1)),
 o 7 (.call 69 [(t 6)])]
def f132r1 : List SOper := [
 o 8 (.ld1 (t 1)),
 o 9 (.nilck (t 8)),
 o 10 (.fa 0 (t 9)),
 o 11 (.ld1 (t 10)),
 o 12 (.nilck (t 11)),
 o 13 (.fa 0 (t 12)),
 o 14 (.ld1 (t 13)),
 o 15 (.call 133 [(t 14)]),
 o 16 (.call 21 [(t 15)]),
 o 17 (.len (t 16)),
 o 18 (.mv (i 0))]
def f132r2 : List SOper := [
 o 19 (.cmp .lss (t 18) (t 17))]
def f132r3 : List SOper := [
 o 20 (.ixs 1 (t 16) (t 18)),
 o 21 (.ld1 (t 20)),
 o 4 (.mv (t 21))]
def f132r4 : List SOper := [
 o 22 (.ld1 (t 1)),
 o 23 (.nilck (t 22)),
 o 24 (.fa 0 (t 23)),
 o 25 (.ld1 (t 24)),
 o 26 (.nilck (t 25)),
 o 27 (.fa 0 (t 26)),
 o 28 (.ld1 (t 27)),
 o 29 (.mv (t 4)),
 o 30 (.look .str (.pointer none) false (t 28) (t 29)),
 o 5 (.mv (t 30))]
def f132r5 : List SOper := [
 o 31 (.mv (t 5)),
 o 32 (.eqn 0 true (t 31)),
 o 33 (.mv (t 32)),
 g 34 33 (.mv (t 0)),
 g 35 33 (.mv (t 4)),
 g 36 33 (.mv (t 5)),
 g 37 33 (.nilck (t 36)),
 g 38 33 (.ldn 7 (t 37)),
 g 39 33 (.call 127 [(t 38)]),
 g 40 33 (.callv (t 34) [(t 35), (t 39)]),
 g 41 33 (.un .not (t 40)),
 o 42 (.pick (t 33) (t 41) (b false))]
def f132r6 : List SOper := [
 o 43 (.ar .add (t 18) (i 1)),
 o 18 (.mv (t 43))]
def f132l7 : SCode := (.seq (.ops f132r2) (.seq (.cond (t 19) .skip (.exit 0)) (.seq (.block 1 (.seq (.ops f132r3) (.seq (.ops f132r4) (.seq (.ops f132r5) (.cond (t 42) .ret .skip))))) (.ops f132r6))))
def f132 : SCode := (.seq (.seq (.ops f132r0) (.cond (t 7) .ret .skip)) (.seq (.ops f132r1) (.block 0 (.loop f132l7))))
theorem f132_ok (oq : Nat → Value) (F : Nat → Prop) (h0 : Heap) : EntOK Tryz.prog oq F h0 132 (.code 44 f132 []) := ⟨soundD_of (fl := false) mixed Tryz.func132 rfl (by kernel_rfl) (by kernel_rfl) (by kernel_rfl), soundF_of (fl := false) mixed Tryz.func132 rfl (by kernel_rfl) (by kernel_rfl) (by kernel_rfl)⟩

/-! 133: maps.Keys[map[string]*tabor/api.Thing,string,*tabor/api.Thing] -/
def f133r0 : List SOper := [
 o 1 (.box (t 0)),
 o 2 (.mv (.const .nilFunc))]
def f133r1 : List SOper := [
 o 3 (.fn 206 [] [(t 1)]),
 o 2 (.mv (t 3))]
def f133 : SCode := (.seq (.ops f133r0) (.seq (.ops f133r1) .ret))
theorem f133_ok (oq : Nat → Value) (F : Nat → Prop) (h0 : Heap) : EntOK Tryz.prog oq F h0 133 (.code 4 f133 [.t 2]) := ⟨soundD_of (fl := false) mixed Tryz.func133 rfl (by kernel_rfl) (by kernel_rfl) (by kernel_rfl), soundF_of (fl := false) mixed Tryz.func133 rfl (by kernel_rfl) (by kernel_rfl) (by kernel_rfl)⟩

/-! 140: tabor/basics.step -/
def f140r0 : List SOper := [
 o 1 (.box (t 0)),
 o 2 (.mv (.const .nilFunc))]
def f140r1 : List SOper := [
 o 3 (.fn 215 [] [(t 1)]),
 o 2 (.mv (t 3))]
def f140 : SCode := (.seq (.ops f140r0) (.seq (.ops f140r1) .ret))
theorem f140_ok (oq : Nat → Value) (F : Nat → Prop) (h0 : Heap) : EntOK Tryz.prog oq F h0 140 (.code 4 f140 [.t 2]) := ⟨soundD_of (fl := false) mixed Tryz.func140 rfl (by kernel_rfl) (by kernel_rfl) (by kernel_rfl), soundF_of (fl := false) mixed Tryz.func140 rfl (by kernel_rfl) (by kernel_rfl) (by kernel_rfl)⟩

/-! 142: (*tabor/basics.asked).many -/
def f142r0 : List SOper := [
 o 6 (.mv (t 0)),
 o 7 (.nilck (t 6)),
 o 8 (.fa 2 (t 7)),
 o 9 (.ld1 (t 8)),
 o 10 (.len (t 9)),
 o 11 (.mv (t 1)),
 o 12 (.cmp .geq (t 10) (t 11)),
 o 13 (.mv (t 12)),
 g 14 13 (.mv (t 0)),
 g 15 13 (.nilck (t 14)),
 g 16 13 (.fa 2 (t 15)),
 g 17 13 (.ld1 (t 16)),
 g 18 13 (.len (t 17)),
 g 19 13 (.mv (t 2)),
 g 20 13 (.cmp .leq (t 18) (t 19)),
 o 21 (.pick (t 13) (t 20) (b false)),
 o 22 (.call 207 [(t 21), (.const (.string ⟨#[69, 82, 82, 32, 97, 114, 103, 115]⟩))])]
def f142 : SCode := (.ops f142r0)
theorem f142_ok (oq : Nat → Value) (F : Nat → Prop) (h0 : Heap) : EntOK Tryz.prog oq F h0 142 (.code 23 f142 []) := ⟨soundD_of (fl := false) mixed Tryz.func142 rfl (by kernel_rfl) (by kernel_rfl) (by kernel_rfl), soundF_of (fl := false) mixed Tryz.func142 rfl (by kernel_rfl) (by kernel_rfl) (by kernel_rfl)⟩

/-! 143: tabor/basics.by -/
def f143r0 : List SOper := [
 o 4 (.new [(.int .i64 0), (.int .i64 0), (.string ⟨#[]⟩), (.slice none 0 0)])]
def f143r1 : List SOper := [
 o 10 (.mv (t 0)),
 o 11 (.mv (t 0)),
 o 12 (.nilck (t 11)),
 o 13 (.fa 2 (t 12)),
 o 14 (.ld1 (t 13)),
 o 15 (.ixs 1 (t 14) (i 0)),
 o 16 (.ld1 (t 15)),
 o 17 (.call 212 [(t 10), (t 16)]),
 o 9 (.mv (t 17)),
 o 18 (.ext (t 9) 0),
 o 19 (.ext (t 9) 1),
 o 5 (.mv (t 18)),
 o 6 (.mv (t 19))]
def f143r2 : List SOper := [
 o 20 (.mv (t 6)),
 o 21 (.un .not (t 20))]
def f143r3 : List SOper := [
 o 5 (.mv (.const (.string ⟨#[48]⟩)))]
def f143r4 : List SOper := [
 o 23 (.mv (t 5)),
 o 24 (.call 103 [(t 23)]),
 o 22 (.mv (t 24)),
 o 25 (.ext (t 22) 0),
 o 26 (.ext (t 22) 1),
 o 7 (.mv (t 25)),
 o 8 (.mv (t 26))]
def f143r5 : List SOper := [
 o 27 (.mv (t 8)),
 o 28 (.call 207 [(t 27), (.const (.string ⟨#[69, 82, 82, 32, 110, 117, 109, 98, 101, 114]⟩))])]
def f143r6 : List SOper := [
 o 29 (.mv (t 7)),
 o 30 (.mv (t 1)),
 o 31 (.call 208 [(t 29), (t 30)]),
 o 7 (.mv (t 31))]
def f143t7 : OTree := (.one (o 32 (.mv (t 0)))
 (.one (o 33 (.mv (t 0)))
 (.one (o 34 (.nilck (t 33)))
 (.one (o 35 (.fa 2 (t 34)))
 (.one (o 39 (.mv (t 7)))
 (.one (o 36 (.ld1 (t 35)))
 (.one (o 37 (.ixs 1 (t 36) (i 0)))
 (.chk [o 36 (.ld1 (t 35))] (.one (o 38 (.ld1 (t 37)))
 (.one (o 40 (.call 105 [(t 39), (i 10)]))
 (.chk [o 38 (.ld1 (t 37)), o 36 (.ld1 (t 35))] (.one (o 41 (.call 209 [(t 32), (t 38), (t 40), (b true)]))
 .done))))))))))))
def f143r8 : List SOper := [
 o 42 (.mv (t 7)),
 o 43 (.call 214 [(t 42)]),
 q (.st 4 (t 4) (t 43))]
def f143 : SCode := (.seq (.ops f143r0) (.seq (.ops f143r1) (.seq (.seq (.ops f143r2) (.cond (t 21) (.ops f143r3) .skip)) (.seq (.ops f143r4) (.seq (.ops f143r5) (.seq (.ops f143r6) (.seq (.tree [32, 33, 34, 35, 36, 37, 38, 39, 40, 41] f143t7) (.seq (.ops f143r8) .ret))))))))
theorem f143_ok (oq : Nat → Value) (F : Nat → Prop) (h0 : Heap) : EntOK Tryz.prog oq F h0 143 (.code 44 f143 [.cn 4 4]) := ⟨soundD_of (fl := false) mixed Tryz.func143 rfl (by kernel_rfl) (by kernel_rfl) (by kernel_rfl), soundF_of (fl := false) mixed Tryz.func143 rfl (by kernel_rfl) (by kernel_rfl) (by kernel_rfl)⟩

/-! 155: slices.insertionSortOrdered[string] -/
def f155r0 : List SOper := [
 o 8 (.mv (t 1)),
 o 9 (.ar .add (t 8) (i 1)),
 o 6 (.mv (t 9))]
def f155r1 : List SOper := [
 o 10 (.mv (t 6)),
 o 11 (.mv (t 2)),
 o 12 (.cmp .lss (t 10) (t 11))]
def f155r2 : List SOper := [
 o 15 (.mv (t 6)),
 o 7 (.mv (t 15))]
def f155r3 : List SOper := [
 o 16 (.mv (t 7)),
 o 17 (.mv (t 1)),
 o 18 (.cmp .gtr (t 16) (t 17)),
 o 19 (.mv (t 18)),
 g 20 19 (.mv (t 0)),
 g 21 19 (.mv (t 7)),
 g 22 19 (.ixs 1 (t 20) (t 21)),
 g 23 19 (.ld1 (t 22)),
 g 24 19 (.mv (t 0)),
 g 25 19 (.mv (t 7)),
 g 26 19 (.ar .sub (t 25) (i 1)),
 g 27 19 (.ixs 1 (t 24) (t 26)),
 g 28 19 (.ld1 (t 27)),
 g 29 19 (.call 161 [(t 23), (t 28)]),
 o 30 (.pick (t 19) (t 29) (b false))]
def f155r4 : List SOper := [
 o 33 (.mv (t 0)),
 o 34 (.mv (t 7)),
 o 35 (.mv (t 0)),
 o 36 (.mv (t 7)),
 o 37 (.ar .sub (t 36) (i 1)),
 o 38 (.mv (t 0)),
 o 39 (.mv (t 7)),
 o 40 (.ar .sub (t 39) (i 1)),
 o 41 (.ixs 1 (t 38) (t 40)),
 o 42 (.ld1 (t 41)),
 o 43 (.mv (t 0)),
 o 44 (.mv (t 7)),
 o 45 (.ixs 1 (t 43) (t 44)),
 o 46 (.ld1 (t 45)),
 o 47 (.ixs 1 (t 33) (t 34)),
 q (.st 1 (t 47) (t 42)),
 o 48 (.ixs 1 (t 35) (t 37)),
 q (.st 1 (t 48) (t 46))]
def f155r5 : List SOper := [
 o 31 (.mv (t 7)),
 o 32 (.ar .sub (t 31) (i 1)),
 o 7 (.mv (t 32))]
def f155l6 : SCode := (.seq (.seq (.ops f155r3) (.cond (t 30) .skip (.exit 2))) (.seq (.block 3 (.ops f155r4)) (.ops f155r5)))
def f155r7 : List SOper := [
 o 13 (.mv (t 6)),
 o 14 (.ar .add (t 13) (i 1)),
 o 6 (.mv (t 14))]
def f155l8 : SCode := (.seq (.seq (.ops f155r1) (.cond (t 12) .skip (.exit 0))) (.seq (.block 1 (.seq (.ops f155r2) (.block 2 (.loop f155l6)))) (.ops f155r7)))
def f155 : SCode := (.seq (.ops f155r0) (.block 0 (.loop f155l8)))
theorem f155_ok (oq : Nat → Value) (F : Nat → Prop) (h0 : Heap) : EntOK Tryz.prog oq F h0 155 (.code 49 f155 []) := ⟨soundD_of (fl := false) mixed Tryz.func155 rfl (by kernel_rfl) (by kernel_rfl) (by kernel_rfl), soundF_of (fl := false) mixed Tryz.func155 rfl (by kernel_rfl) (by kernel_rfl) (by kernel_rfl)⟩

/-! 165: math/bits.Len64 -/
def f165r0 : List SOper := [
 o 2 (.mv (i 0))]
def f165r1 : List SOper := [
 o 3 (.mv (t 0)),
 o 4 (.cmp .geq (t 3) (.const (.int .u64 4294967296)))]
def f165r2 : List SOper := [
 o 5 (.mv (t 0)),
 o 6 (.sh .u64 false 32 (t 5)),
 o 0 (.mv (t 6))]
def f165r3 : List SOper := [
 o 2 (.mv (i 32))]
def f165r4 : List SOper := [
 o 7 (.mv (t 0)),
 o 8 (.cmp .geq (t 7) (.const (.int .u64 65536)))]
def f165r5 : List SOper := [
 o 9 (.mv (t 0)),
 o 10 (.sh .u64 false 16 (t 9)),
 o 0 (.mv (t 10))]
def f165r6 : List SOper := [
 o 11 (.mv (t 2)),
 o 12 (.ar .add (t 11) (i 16)),
 o 2 (.mv (t 12))]
def f165r7 : List SOper := [
 o 13 (.mv (t 0)),
 o 14 (.cmp .geq (t 13) (.const (.int .u64 256)))]
def f165r8 : List SOper := [
 o 15 (.mv (t 0)),
 o 16 (.sh .u64 false 8 (t 15)),
 o 0 (.mv (t 16))]
def f165r9 : List SOper := [
 o 17 (.mv (t 2)),
 o 18 (.ar .add (t 17) (i 8)),
 o 2 (.mv (t 18))]
def f165r10 : List SOper := [
 o 19 (.mv (t 2)),
 o 20 (.mv (t 0)),
 o 21 (.cvt .u8 (t 20)),
 o 22 (.ixc (.const (.string ⟨#[0, 1, 2, 2, 3, 3, 3, 3, 4, 4, 4, 4, 4, 4, 4, 4, 5, 5, 5, 5, 5, 5, 5, 5, 5, 5, 5, 5, 5, 5, 5, 5, 6, 6, 6, 6, 6, 6, 6, 6, 6, 6, 6, 6, 6, 6, 6, 6, 6, 6, 6, 6, 6, 6, 6, 6, 6, 6, 6, 6, 6, 6, 6, 6, 7, 7, 7, 7, 7, 7, 7, 7, 7, 7, 7, 7, 7, 7, 7, 7, 7, 7, 7, 7, 7, 7, 7, 7, 7, 7, 7, 7, 7, 7, 7, 7, 7, 7, 7, 7, 7, 7, 7, 7, 7, 7, 7, 7, 7, 7, 7, 7, 7, 7, 7, 7, 7, 7, 7, 7, 7, 7, 7, 7, 7, 7, 7, 7, 8, 8, 8, 8, 8, 8, 8, 8, 8, 8, 8, 8, 8, 8, 8, 8, 8, 8, 8, 8, 8, 8, 8, 8, 8, 8, 8, 8, 8, 8, 8, 8, 8, 8, 8, 8, 8, 8, 8, 8, 8, 8, 8, 8, 8, 8, 8, 8, 8, 8, 8, 8, 8, 8, 8, 8, 8, 8, 8, 8, 8, 8, 8, 8, 8, 8, 8, 8, 8, 8, 8, 8, 8, 8, 8, 8, 8, 8, 8, 8, 8, 8, 8, 8, 8, 8, 8, 8, 8, 8, 8, 8, 8, 8, 8, 8, 8, 8, 8, 8, 8, 8, 8, 8, 8, 8, 8, 8, 8, 8, 8, 8, 8, 8, 8, 8, 8, 8, 8, 8, 8, 8, 8, 8, 8, 8, 8, 8]⟩)) (t 21)),
 o 23 (.cvt .i64 (t 22)),
 o 24 (.ar .add (t 19) (t 23)),
 o 2 (.mv (t 24))]
def f165 : SCode := (.seq (.ops f165r0) (.seq (.seq (.ops f165r1) (.cond (t 4) (.seq (.ops f165r2) (.ops f165r3)) .skip)) (.seq (.seq (.ops f165r4) (.cond (t 8) (.seq (.ops f165r5) (.ops f165r6)) .skip)) (.seq (.seq (.ops f165r7) (.cond (t 14) (.seq (.ops f165r8) (.ops f165r9)) .skip)) (.seq (.ops f165r10) .ret)))))
theorem f165_ok (oq : Nat → Value) (F : Nat → Prop) (h0 : Heap) : EntOK Tryz.prog oq F h0 165 (.code 25 f165 [.t 2]) := ⟨soundD_of (fl := false) mixed Tryz.func165 rfl (by kernel_rfl) (by kernel_rfl) (by kernel_rfl), soundF_of (fl := false) mixed Tryz.func165 rfl (by kernel_rfl) (by kernel_rfl) (by kernel_rfl)⟩

/-! 169: tabor/basics.Drops -/
def f169r0 : List SOper := [
 o 6 (.mv (.const (.slice none 0 0)))]
def f169r1 : List SOper := [
 o 12 (.mv (t 0)),
 o 13 (.mv (t 2)),
 o 14 (.call 73 [(t 12), (t 13)]),
 o 11 (.mv (t 14)),
 o 15 (.ext (t 11) 0),
 o 16 (.ext (t 11) 1),
 o 7 (.new [(.int .i64 0), (.string ⟨#[]⟩), (.slice none 0 0), (.slice none 0 0), (.slice none 0 0), (.bool false), (.int .i64 0)]),
 q (.st 7 (t 7) (t 15)),
 o 8 (.mv (t 16))]
def f169r2 : List SOper := [
 o 18 (.mv (t 0)),
 o 19 (.mv (t 2)),
 o 20 (.mv (t 1)),
 o 21 (.call 29 [(t 18), (t 19), (t 20)]),
 o 17 (.mv (t 21)),
 o 22 (.ext (t 17) 0),
 o 23 (.ext (t 17) 1),
 o 9 (.new [(.int .i64 0), (.string ⟨#[]⟩), (.slice none 0 0), (.slice none 0 0), (.slice none 0 0), (.bool false), (.int .i64 0)]),
 q (.st 7 (t 9) (t 22)),
 o 10 (.mv (t 23))]
def f169r3 : List SOper := [
 o 24 (.mv (t 8)),
 o 25 (.mv (t 24)),
 g 26 25 (.mv (t 10)),
 g 27 25 (.un .not (t 26)),
 o 28 (.pick (t 25) (t 27) (b false))]
def f169r4 : List SOper := [
 o 29 (.mv (t 2)),
 o 30 (.build [(.int .i64 0), (.string ⟨#[]⟩), (.string ⟨#[]⟩), (.string ⟨#[]⟩), (.int .i64 0)] [(0, 1), (1, 1)] [(i 1), (t 29)]),
 o 31 (.bslice [(.int .i64 0), (.string ⟨#[]⟩), (.string ⟨#[]⟩), (.string ⟨#[]⟩), (.int .i64 0)] 1 [(0, 5)] [(t 30)]),
 o 6 (.mv (t 31))]
def f169r5 : List SOper := [
 o 6 (.mv (.const (.slice none 0 0)))]
def f169 : SCode := (.seq (.ops f169r0) (.seq (.ops f169r1) (.seq (.seq (.ops f169r2) (.seq (.ops f169r3) (.cond (t 28) (.seq (.ops f169r4) .ret) .skip))) (.seq (.ops f169r5) .ret))))
theorem f169_ok (oq : Nat → Value) (F : Nat → Prop) (h0 : Heap) : EntOK Tryz.prog oq F h0 169 (.code 32 f169 [.t 6]) := ⟨soundD_of (fl := false) mixed Tryz.func169 rfl (by kernel_rfl) (by kernel_rfl) (by kernel_rfl), soundF_of (fl := false) mixed Tryz.func169 rfl (by kernel_rfl) (by kernel_rfl) (by kernel_rfl)⟩

/-! 172: strconv.ParseInt -/
def f172r0 : List SOper := [
 o 6 (.mv (i 0)),
 o 7 (.mv (.const .nilIface))]
def f172r1 : List SOper := [
 o 10 (.mv (t 0)),
 o 11 (.mv (t 1)),
 o 12 (.mv (t 2)),
 o 13 (.call 226 [(t 10), (t 11), (t 12)]),
 o 9 (.mv (t 13)),
 o 14 (.ext (t 9) 0),
 o 15 (.ext (t 9) 1),
 o 8 (.mv (t 14)),
 o 7 (.mv (t 15))]
def f172r2 : List SOper := [
 o 16 (.mv (t 7)),
 o 17 (.eqn 4 true (t 16))]
def f172r3 : List SOper := [
 o 18 (.mv (t 8)),
 o 19 (.mv (t 0)),
 o 20 (.mv (t 1)),
 o 21 (.mv (t 2)),
 o 22 (.mv (t 7)),
 o 23 (.call 227 [(.const (.string ⟨#[80, 97, 114, 115, 101, 73, 110, 116]⟩)), (t 19), (t 20), (t 21), (t 22)]),
 o 6 (.mv (t 18)),
 o 7 (.mv (t 23))]
def f172r4 : List SOper := [
 o 24 (.mv (t 8)),
 o 6 (.mv (t 24)),
 o 7 (.mv (.const .nilIface))]
def f172 : SCode := (.seq (.ops f172r0) (.seq (.ops f172r1) (.seq (.seq (.ops f172r2) (.cond (t 17) (.seq (.ops f172r3) .ret) .skip)) (.seq (.ops f172r4) .ret))))
theorem f172_ok (oq : Nat → Value) (F : Nat → Prop) (h0 : Heap) : EntOK Tryz.prog oq F h0 172 (.code 25 f172 [.t 6, .t 7]) := ⟨soundD_of (fl := false) mixed Tryz.func172 rfl (by kernel_rfl) (by kernel_rfl) (by kernel_rfl), soundF_of (fl := false) mixed Tryz.func172 rfl (by kernel_rfl) (by kernel_rfl) (by kernel_rfl)⟩

/-! 173: internal/strconv.FormatInt -/
def f173r0 : List SOper := [
 o 4 (.mv e)]
def f173r1 : List SOper := [
 o 10 (.mv (t 1)),
 o 11 (.cmp .eql (t 10) (i 10))]
def f173r2 : List SOper := [
 o 12 (.mv (t 0)),
 o 13 (.cmp .leq (i 0) (t 12)),
 o 14 (.mv (t 13)),
 g 15 14 (.mv (t 0)),
 g 16 14 (.cmp .lss (t 15) (i 100)),
 o 17 (.pick (t 14) (t 16) (b false))]
def f173r3 : List SOper := [
 o 18 (.mv (t 0)),
 o 19 (.call 228 [(t 18)]),
 o 4 (.mv (t 19))]
def f173r4 : List SOper := [
 o 5 (.new (List.replicate 24 (.int .u8 0)))]
def f173r5 : List SOper := [
 o 20 (.mv (t 0)),
 o 21 (.cvt .u64 (t 20)),
 o 6 (.mv (t 21))]
def f173r6 : List SOper := [
 o 22 (.mv (t 0)),
 o 23 (.cmp .lss (t 22) (i 0))]
def f173r7 : List SOper := [
 o 24 (.mv (t 6)),
 o 25 (.un .neg (t 24)),
 o 6 (.mv (t 25))]
def f173r8 : List SOper := [
 o 26 (.mv (t 6)),
 o 27 (.call 229 [(t 26)]),
 o 7 (.mv (t 27))]
def f173r9 : List SOper := [
 o 28 (.mv (t 7)),
 o 29 (.ar .add (i 1) (t 28)),
 o 30 (.slp 24 1 (t 5) (some (i 1)) (some (t 29))),
 o 31 (.mv (t 6)),
 o 32 (.call 230 [(t 30), (t 31)])]
def f173r10 : List SOper := [
 o 33 (.mv (t 0)),
 o 34 (.cmp .lss (t 33) (i 0))]
def f173r11 : List SOper := [
 o 35 (.ixa 24 1 (t 5) (i 0)),
 q (.stb (t 35) (.const (.int .u8 45)))]
def f173r12 : List SOper := [
 o 36 (.mv (t 7)),
 o 37 (.ar .add (i 1) (t 36)),
 o 38 (.slp 24 1 (t 5) none (some (t 37))),
 o 39 (.bstr (t 38)),
 o 4 (.mv (t 39))]
def f173r13 : List SOper := [
 o 40 (.mv (t 7)),
 o 41 (.ar .add (i 1) (t 40)),
 o 42 (.slp 24 1 (t 5) (some (i 1)) (some (t 41))),
 o 43 (.bstr (t 42)),
 o 4 (.mv (t 43))]
def f173r14 : List SOper := [
 o 45 (.mv (t 0)),
 o 46 (.cvt .u64 (t 45)),
 o 47 (.mv (t 1)),
 o 48 (.mv (t 0)),
 o 49 (.cmp .lss (t 48) (i 0)),
 o 50 (.call 231 [(.const (.slice none 0 0)), (t 46), (t 47), (t 49), (b false)]),
 o 44 (.mv (t 50)),
 o 51 (.ext (t 44) 0),
 o 52 (.ext (t 44) 1),
 o 8 (.mv (t 51)),
 o 9 (.mv (t 52))]
def f173r15 : List SOper := [
 o 53 (.mv (t 9)),
 o 4 (.mv (t 53))]
def f173 : SCode := (.seq (.ops f173r0) (.seq (.seq (.ops f173r1) (.cond (t 11) (.seq (.seq (.ops f173r2) (.cond (t 17) (.seq (.ops f173r3) .ret) .skip)) (.seq (.ops f173r4) (.seq (.ops f173r5) (.seq (.seq (.ops f173r6) (.cond (t 23) (.ops f173r7) .skip)) (.seq (.ops f173r8) (.seq (.ops f173r9) (.seq (.seq (.ops f173r10) (.cond (t 34) (.seq (.ops f173r11) (.seq (.ops f173r12) .ret)) .skip)) (.seq (.ops f173r13) .ret)))))))) .skip)) (.seq (.ops f173r14) (.seq (.ops f173r15) .ret))))
theorem f173_ok (oq : Nat → Value) (F : Nat → Prop) (h0 : Heap) : EntOK Tryz.prog oq F h0 173 (.code 54 f173 [.t 4]) := ⟨soundD_of (fl := false) mixed Tryz.func173 rfl (by kernel_rfl) (by kernel_rfl) (by kernel_rfl), soundF_of (fl := false) mixed Tryz.func173 rfl (by kernel_rfl) (by kernel_rfl) (by kernel_rfl)⟩

/-! 186: slices.Clone[[]tabor/api.Pair,tabor/api.Pair] -/
def f186r0 : List SOper := [
 o 2 (.mv (.const (.slice none 0 0)))]
def f186r1 : List SOper := [
 o 3 (.mv (t 0)),
 o 4 (.eqn 1 false (t 3))]
def f186r2 : List SOper := [
 o 2 (.mv (.const (.slice none 0 0)))]
def f186r3 : List SOper := [
 o 5 (.bslice [] 0 [] []),
 o 6 (.mv (t 0)),
 o 7 (.app 2 32 [(.string ⟨#[]⟩), (.string ⟨#[]⟩)] (t 5) (t 6)),
 o 2 (.mv (t 7))]
def f186 : SCode := (.seq (.ops f186r0) (.seq (.seq (.ops f186r1) (.cond (t 4) (.seq (.ops f186r2) .ret) .skip)) (.seq (.ops f186r3) .ret)))
theorem f186_ok (oq : Nat → Value) (F : Nat → Prop) (h0 : Heap) : EntOK Tryz.prog oq F h0 186 (.code 8 f186 [.t 2]) := ⟨soundD_of (fl := false) mixed Tryz.func186 rfl (by kernel_rfl) (by kernel_rfl) (by kernel_rfl), soundF_of (fl := false) mixed Tryz.func186 rfl (by kernel_rfl) (by kernel_rfl) (by kernel_rfl)⟩

/-! 187: slices.Clone[[]string,string] -/
def f187r0 : List SOper := [
 o 2 (.mv (.const (.slice none 0 0)))]
def f187r1 : List SOper := [
 o 3 (.mv (t 0)),
 o 4 (.eqn 1 false (t 3))]
def f187r2 : List SOper := [
 o 2 (.mv (.const (.slice none 0 0)))]
def f187r3 : List SOper := [
 o 5 (.bslice [] 0 [] []),
 o 6 (.mv (t 0)),
 o 7 (.app 1 16 [(.string ⟨#[]⟩)] (t 5) (t 6)),
 o 2 (.mv (t 7))]
def f187 : SCode := (.seq (.ops f187r0) (.seq (.seq (.ops f187r1) (.cond (t 4) (.seq (.ops f187r2) .ret) .skip)) (.seq (.ops f187r3) .ret)))
theorem f187_ok (oq : Nat → Value) (F : Nat → Prop) (h0 : Heap) : EntOK Tryz.prog oq F h0 187 (.code 8 f187 [.t 2]) := ⟨soundD_of (fl := false) mixed Tryz.func187 rfl (by kernel_rfl) (by kernel_rfl) (by kernel_rfl), soundF_of (fl := false) mixed Tryz.func187 rfl (by kernel_rfl) (by kernel_rfl) (by kernel_rfl)⟩

/-! 188: slices.Clone[[]tabor/api.Rank,tabor/api.Rank] -/
def f188r0 : List SOper := [
 o 2 (.mv (.const (.slice none 0 0)))]
def f188r1 : List SOper := [
 o 3 (.mv (t 0)),
 o 4 (.eqn 1 false (t 3))]
def f188r2 : List SOper := [
 o 2 (.mv (.const (.slice none 0 0)))]
def f188r3 : List SOper := [
 o 5 (.bslice [] 0 [] []),
 o 6 (.mv (t 0)),
 o 7 (.app 2 24 [(.string ⟨#[]⟩), (.int .i64 0)] (t 5) (t 6)),
 o 2 (.mv (t 7))]
def f188 : SCode := (.seq (.ops f188r0) (.seq (.seq (.ops f188r1) (.cond (t 4) (.seq (.ops f188r2) .ret) .skip)) (.seq (.ops f188r3) .ret)))
theorem f188_ok (oq : Nat → Value) (F : Nat → Prop) (h0 : Heap) : EntOK Tryz.prog oq F h0 188 (.code 8 f188 [.t 2]) := ⟨soundD_of (fl := false) mixed Tryz.func188 rfl (by kernel_rfl) (by kernel_rfl) (by kernel_rfl), soundF_of (fl := false) mixed Tryz.func188 rfl (by kernel_rfl) (by kernel_rfl) (by kernel_rfl)⟩

/-! 190: tabor/keys.rules$2 -/
def f190r0 : List SOper := [
 o 3 (.box (t 1)),
 o 4 (.mv (i 0))]
def f190r1 : List SOper := [
 o 5 (.mv (t 0)),
 o 6 (.fa 3 (t 3)),
 o 7 (.ld1 (t 6)),
 o 8 (.build [(.int .i64 0), (.string ⟨#[]⟩), (.slice none 0 0), (.slice none 0 0), (.slice none 0 0), (.bool false), (.int .i64 0)] [(0, 1), (1, 1)] [(i 1), (t 7)]),
 o 9 (.nilck (t 5)),
 q (.st 7 (t 9) (t 8))]
def f190r2 : List SOper := [
 o 4 (.mv (i 0))]
def f190 : SCode := (.seq (.ops f190r0) (.seq (.ops f190r1) (.seq (.ops f190r2) .ret)))
theorem f190_ok (oq : Nat → Value) (F : Nat → Prop) (h0 : Heap) : EntOK Tryz.prog oq F h0 190 (.code 10 f190 [.t 4]) := ⟨soundD_of (fl := false) mixed Tryz.func190 rfl (by kernel_rfl) (by kernel_rfl) (by kernel_rfl), soundF_of (fl := false) mixed Tryz.func190 rfl (by kernel_rfl) (by kernel_rfl) (by kernel_rfl)⟩

/-! 205: tabor/keys.short$1 -/
def f205r0 : List SOper := [
 o 2 (.mv (b false))]
def f205r1 : List SOper := [
 o 3 (.mv (t 0)),
 o 4 (.lens (t 3)),
 o 5 (.cmp .gtr (t 4) (i 1048576)),
 o 2 (.mv (t 5))]
def f205 : SCode := (.seq (.ops f205r0) (.seq (.ops f205r1) .ret))
theorem f205_ok (oq : Nat → Value) (F : Nat → Prop) (h0 : Heap) : EntOK Tryz.prog oq F h0 205 (.code 6 f205 [.t 2]) := ⟨soundD_of (fl := false) mixed Tryz.func205 rfl (by kernel_rfl) (by kernel_rfl) (by kernel_rfl), soundF_of (fl := false) mixed Tryz.func205 rfl (by kernel_rfl) (by kernel_rfl) (by kernel_rfl)⟩

/-! 206: maps.Keys[map[string]*tabor/api.Thing,string,*tabor/api.Thing]$1 -/
def f206r0 : List SOper := [
 o 4 (.ld1 (t 1)),
 o 5 (.rng (t 4))]
def f206r1 : List SOper := [
 o 6 (.nxt (t 5)),
 o 7 (.ext (t 6) 0)]
def f206r2 : List SOper := [
 o 8 (.ent (t 5)),
 o 9 (.ext (t 8) 0),
 o 3 (.mv (t 9))]
def f206r3 : List SOper := [
 o 10 (.mv (t 0)),
 o 11 (.mv (t 3)),
 o 12 (.callv (t 10) [(t 11)]),
 o 13 (.un .not (t 12))]
def f206l4 : SCode := (.seq (.ops f206r1) (.seq (.cond (t 7) .skip (.exit 0)) (.block 1 (.seq (.ops f206r2) (.seq (.ops f206r3) (.cond (t 13) .ret .skip))))))
def f206 : SCode := (.seq (.ops f206r0) (.block 0 (.loop f206l4)))
theorem f206_ok (oq : Nat → Value) (F : Nat → Prop) (h0 : Heap) : EntOK Tryz.prog oq F h0 206 (.code 14 f206 []) := ⟨soundD_of (fl := false) mixed Tryz.func206 rfl (by kernel_rfl) (by kernel_rfl) (by kernel_rfl), soundF_of (fl := false) mixed Tryz.func206 rfl (by kernel_rfl) (by kernel_rfl) (by kernel_rfl)⟩

/-! 207: tabor/basics.must -/
def f207r0 : List SOper := [
 o 4 (.mv (t 0)),
 o 5 (.un .not (t 4))]
def f207r1 : List SOper := [
 o 6 (.mv (t 1)),
 o 7 (.build [(.string ⟨#[]⟩)] [(0, 1)] [(t 6)]),
 o 8 (.mki 113 (t 7)),
 q (.pan (t 8))]
def f207 : SCode := (.seq (.ops f207r0) (.cond (t 5) (.ops f207r1) .skip))
theorem f207_ok (oq : Nat → Value) (F : Nat → Prop) (h0 : Heap) : EntOK Tryz.prog oq F h0 207 (.code 9 f207 []) := ⟨soundD_of (fl := false) mixed Tryz.func207 rfl (by kernel_rfl) (by kernel_rfl) (by kernel_rfl), soundF_of (fl := false) mixed Tryz.func207 rfl (by kernel_rfl) (by kernel_rfl) (by kernel_rfl)⟩

/-! 208: tabor/basics.plus -/
def f208r0 : List SOper := [
 o 4 (.mv (i 0))]
def f208r1 : List SOper := [
 o 5 (.mv (t 1)),
 o 6 (.cmp .geq (t 5) (i 0)),
 o 7 (.mv (t 6)),
 g 8 7 (.mv (t 0)),
 g 9 7 (.mv (t 1)),
 g 10 7 (.ar .sub (i 9223372036854775807) (t 9)),
 g 11 7 (.cmp .leq (t 8) (t 10)),
 o 12 (.pick (t 7) (t 11) (b false)),
 o 13 (.mv (t 12)),
 n 14 13 (.mv (t 1)),
 n 15 13 (.cmp .lss (t 14) (i 0)),
 n 16 13 (.mv (t 15)),
 g 17 16 (.mv (t 0)),
 g 18 16 (.mv (t 1)),
 g 19 16 (.ar .sub (i (-9223372036854775808)) (t 18)),
 g 20 16 (.cmp .geq (t 17) (t 19)),
 n 21 13 (.pick (t 16) (t 20) (b false)),
 o 22 (.pick (t 13) (b true) (t 21)),
 o 23 (.call 207 [(t 22), (.const (.string ⟨#[69, 82, 82, 32, 111, 118, 101, 114]⟩))])]
def f208r2 : List SOper := [
 o 24 (.mv (t 0)),
 o 25 (.mv (t 1)),
 o 26 (.ar .add (t 24) (t 25)),
 o 4 (.mv (t 26))]
def f208 : SCode := (.seq (.ops f208r0) (.seq (.ops f208r1) (.seq (.ops f208r2) .ret)))
theorem f208_ok (oq : Nat → Value) (F : Nat → Prop) (h0 : Heap) : EntOK Tryz.prog oq F h0 208 (.code 27 f208 [.t 4]) := ⟨soundD_of (fl := false) mixed Tryz.func208 rfl (by kernel_rfl) (by kernel_rfl) (by kernel_rfl), soundF_of (fl := false) mixed Tryz.func208 rfl (by kernel_rfl) (by kernel_rfl) (by kernel_rfl)⟩

/-! 209: (*tabor/basics.asked).put -/
def f209r0 : List SOper := [
 o 10 (.mv (t 2)),
 o 11 (.lens (t 10)),
 o 12 (.cmp .leq (t 11) (i 1048576)),
 o 13 (.mv (t 12)),
 g 14 13 (.mv (t 1)),
 g 15 13 (.lens (t 14)),
 g 16 13 (.cmp .leq (t 15) (i 1048576)),
 o 17 (.pick (t 13) (t 16) (b false)),
 o 18 (.call 207 [(t 17), (.const (.string ⟨#[69, 82, 82, 32, 108, 111, 110, 103]⟩))])]
def f209t1 : OTree := (.one (o 20 (.mv (t 0)))
 (.one (o 21 (.nilck (t 20)))
 (.one (o 22 (.fa 0 (t 21)))
 (.one (o 23 (.ld1 (t 22)))
 (.one (o 24 (.mv (t 1)))
 (.one (o 25 (.mv (t 0)))
 (.one (o 26 (.nilck (t 25)))
 (.one (o 27 (.fa 1 (t 26)))
 (.one (o 28 (.ld1 (t 27)))
 (.both (.one (o 29 (.call 29 [(t 23), (t 24), (t 28)]))
 (.one (o 19 (.mv (t 29)))
 (.one (o 30 (.ext (t 19) 0))
 (.one (o 31 (.ext (t 19) 1))
 (.one (o 8 (.new [(.int .i64 0), (.string ⟨#[]⟩), (.slice none 0 0), (.slice none 0 0), (.slice none 0 0), (.bool false), (.int .i64 0)]))
 (.one (q (.st 7 (t 8) (t 30)))
 (.one (o 9 (.mv (t 31)))
 .done))))))) (.one (o 8 (.new [(.int .i64 0), (.string ⟨#[]⟩), (.slice none 0 0), (.slice none 0 0), (.slice none 0 0), (.bool false), (.int .i64 0)]))
 (.one (o 29 (.call 29 [(t 23), (t 24), (t 28)]))
 (.one (o 19 (.mv (t 29)))
 (.one (o 30 (.ext (t 19) 0))
 (.one (o 31 (.ext (t 19) 1))
 (.one (q (.st 7 (t 8) (t 30)))
 (.one (o 9 (.mv (t 31)))
 .done)))))))))))))))))
def f209r2 : List SOper := [
 o 32 (.mv (t 0)),
 o 33 (.mv (t 0)),
 o 34 (.nilck (t 33)),
 o 35 (.fa 0 (t 34)),
 o 36 (.ld1 (t 35)),
 o 37 (.mv (t 0)),
 o 38 (.nilck (t 37)),
 o 39 (.fa 1 (t 38)),
 o 40 (.ld1 (t 39)),
 o 41 (.mv (t 1)),
 o 42 (.call 169 [(t 36), (t 40), (t 41)]),
 o 43 (.call 210 [(t 32), (t 42)])]
def f209r3 : List SOper := [
 o 44 (.mv (t 0)),
 o 45 (.mv (t 1)),
 o 46 (.mv (t 2)),
 o 47 (.build [(.int .i64 0), (.string ⟨#[]⟩), (.string ⟨#[]⟩), (.string ⟨#[]⟩), (.int .i64 0)] [(0, 1), (1, 1), (3, 1)] [(i 2), (t 45), (t 46)]),
 o 48 (.bslice [(.int .i64 0), (.string ⟨#[]⟩), (.string ⟨#[]⟩), (.string ⟨#[]⟩), (.int .i64 0)] 1 [(0, 5)] [(t 47)]),
 o 49 (.call 210 [(t 44), (t 48)])]
def f209r4 : List SOper := [
 o 50 (.mv (t 3)),
 o 51 (.mv (t 50)),
 g 52 51 (.mv (t 9)),
 o 53 (.pick (t 51) (t 52) (b false)),
 o 54 (.mv (t 53)),
 g 55 54 (.fa 5 (t 8)),
 g 56 54 (.ld1 (t 55)),
 o 57 (.pick (t 54) (t 56) (b false))]
def f209r5 : List SOper := [
 o 58 (.mv (t 0)),
 o 59 (.mv (t 1)),
 o 60 (.fa 6 (t 8)),
 o 61 (.ld1 (t 60)),
 o 62 (.build [(.int .i64 0), (.string ⟨#[]⟩), (.string ⟨#[]⟩), (.string ⟨#[]⟩), (.int .i64 0)] [(0, 1), (1, 1), (4, 1)] [(i 3), (t 59), (t 61)]),
 o 63 (.bslice [(.int .i64 0), (.string ⟨#[]⟩), (.string ⟨#[]⟩), (.string ⟨#[]⟩), (.int .i64 0)] 1 [(0, 5)] [(t 62)]),
 o 64 (.call 210 [(t 58), (t 63)])]
def f209 : SCode := (.seq (.ops f209r0) (.seq (.tree [20, 21, 22, 23, 24, 25, 26, 27, 28, 29, 19, 30, 31, 8, 9] f209t1) (.seq (.ops f209r2) (.seq (.ops f209r3) (.seq (.ops f209r4) (.cond (t 57) (.ops f209r5) .skip))))))
theorem f209_ok (oq : Nat → Value) (F : Nat → Prop) (h0 : Heap) : EntOK Tryz.prog oq F h0 209 (.code 65 f209 []) := ⟨soundD_of (fl := false) mixed Tryz.func209 rfl (by kernel_rfl) (by kernel_rfl) (by kernel_rfl), soundF_of (fl := false) mixed Tryz.func209 rfl (by kernel_rfl) (by kernel_rfl) (by kernel_rfl)⟩

/-! 210: (*tabor/basics.asked).add -/
def f210r0 : List SOper := [
 o 4 (.mv (t 0)),
 o 5 (.mv (t 0)),
 o 6 (.nilck (t 5)),
 o 7 (.fa 3 (t 6)),
 o 8 (.ld1 (t 7)),
 o 9 (.mv (t 1)),
 o 10 (.app 5 64 [(.int .i64 0), (.string ⟨#[]⟩), (.string ⟨#[]⟩), (.string ⟨#[]⟩), (.int .i64 0)] (t 8) (t 9)),
 o 11 (.nilck (t 4)),
 o 12 (.fa 3 (t 11)),
 q (.st 1 (t 12) (t 10))]
def f210 : SCode := (.ops f210r0)
theorem f210_ok (oq : Nat → Value) (F : Nat → Prop) (h0 : Heap) : EntOK Tryz.prog oq F h0 210 (.code 13 f210 []) := ⟨soundD_of (fl := false) mixed Tryz.func210 rfl (by kernel_rfl) (by kernel_rfl) (by kernel_rfl), soundF_of (fl := false) mixed Tryz.func210 rfl (by kernel_rfl) (by kernel_rfl) (by kernel_rfl)⟩

/-! 212: (*tabor/basics.asked).text -/
def f212r0 : List SOper := [
 o 4 (.mv e),
 o 5 (.mv (b false))]
def f212t1 : OTree := (.one (o 9 (.mv (t 0)))
 (.one (o 10 (.nilck (t 9)))
 (.one (o 11 (.fa 0 (t 10)))
 (.one (o 12 (.ld1 (t 11)))
 (.one (o 13 (.mv (t 1)))
 (.one (o 14 (.mv (t 0)))
 (.one (o 15 (.nilck (t 14)))
 (.one (o 16 (.fa 1 (t 15)))
 (.one (o 17 (.ld1 (t 16)))
 (.both (.one (o 18 (.call 29 [(t 12), (t 13), (t 17)]))
 (.one (o 8 (.mv (t 18)))
 (.one (o 19 (.ext (t 8) 0))
 (.one (o 20 (.ext (t 8) 1))
 (.one (o 6 (.new [(.int .i64 0), (.string ⟨#[]⟩), (.slice none 0 0), (.slice none 0 0), (.slice none 0 0), (.bool false), (.int .i64 0)]))
 (.one (q (.st 7 (t 6) (t 19)))
 (.one (o 7 (.mv (t 20)))
 .done))))))) (.one (o 6 (.new [(.int .i64 0), (.string ⟨#[]⟩), (.slice none 0 0), (.slice none 0 0), (.slice none 0 0), (.bool false), (.int .i64 0)]))
 (.one (o 18 (.call 29 [(t 12), (t 13), (t 17)]))
 (.one (o 8 (.mv (t 18)))
 (.one (o 19 (.ext (t 8) 0))
 (.one (o 20 (.ext (t 8) 1))
 (.one (q (.st 7 (t 6) (t 19)))
 (.one (o 7 (.mv (t 20)))
 .done)))))))))))))))))
def f212r2 : List SOper := [
 o 21 (.mv (t 7)),
 o 22 (.un .not (t 21)),
 o 23 (.mv (t 22)),
 n 24 23 (.fa 0 (t 6)),
 n 25 23 (.ld1 (t 24)),
 n 26 23 (.cmp .eql (t 25) (i 1)),
 o 27 (.pick (t 23) (b true) (t 26)),
 o 28 (.call 207 [(t 27), (.const (.string ⟨#[87, 82, 79, 78, 71, 84, 89, 80, 69]⟩))])]
def f212r3 : List SOper := [
 o 29 (.fa 1 (t 6)),
 o 30 (.ld1 (t 29)),
 o 31 (.mv (t 7)),
 o 4 (.mv (t 30)),
 o 5 (.mv (t 31))]
def f212 : SCode := (.seq (.ops f212r0) (.seq (.tree [9, 10, 11, 12, 13, 14, 15, 16, 17, 18, 8, 19, 20, 6, 7] f212t1) (.seq (.ops f212r2) (.seq (.ops f212r3) .ret))))
theorem f212_ok (oq : Nat → Value) (F : Nat → Prop) (h0 : Heap) : EntOK Tryz.prog oq F h0 212 (.code 32 f212 [.t 4, .t 5]) := ⟨soundD_of (fl := false) mixed Tryz.func212 rfl (by kernel_rfl) (by kernel_rfl) (by kernel_rfl), soundF_of (fl := false) mixed Tryz.func212 rfl (by kernel_rfl) (by kernel_rfl) (by kernel_rfl)⟩

/-! 214: tabor/basics.number -/
def f214r0 : List SOper := [
 o 2 (.new [(.int .i64 0), (.int .i64 0), (.string ⟨#[]⟩), (.slice none 0 0)])]
def f214r1 : List SOper := [
 o 3 (.mv (t 0)),
 o 4 (.build [(.int .i64 0), (.int .i64 0), (.string ⟨#[]⟩), (.slice none 0 0)] [(0, 1), (1, 1)] [(i 3), (t 3)]),
 q (.st 4 (t 2) (t 4))]
def f214 : SCode := (.seq (.ops f214r0) (.seq (.ops f214r1) .ret))
theorem f214_ok (oq : Nat → Value) (F : Nat → Prop) (h0 : Heap) : EntOK Tryz.prog oq F h0 214 (.code 5 f214 [.cn 2 4]) := ⟨soundD_of (fl := false) mixed Tryz.func214 rfl (by kernel_rfl) (by kernel_rfl) (by kernel_rfl), soundF_of (fl := false) mixed Tryz.func214 rfl (by kernel_rfl) (by kernel_rfl) (by kernel_rfl)⟩

/-! 215: tabor/basics.step$1 -/
def f215r0 : List SOper := [
 o 3 (.new [(.int .i64 0), (.int .i64 0), (.string ⟨#[]⟩), (.slice none 0 0)])]
def f215r1 : List SOper := [
 o 4 (.mv (t 0)),
 o 5 (.call 142 [(t 4), (i 1), (i 1)])]
def f215r2 : List SOper := [
 o 6 (.mv (t 0)),
 o 7 (.ld1 (t 1)),
 o 8 (.call 143 [(t 6), (t 7)]),
 q (.st 4 (t 3) (t 8))]
def f215 : SCode := (.seq (.ops f215r0) (.seq (.ops f215r1) (.seq (.ops f215r2) .ret)))
theorem f215_ok (oq : Nat → Value) (F : Nat → Prop) (h0 : Heap) : EntOK Tryz.prog oq F h0 215 (.code 9 f215 [.cn 3 4]) := ⟨soundD_of (fl := false) mixed Tryz.func215 rfl (by kernel_rfl) (by kernel_rfl) (by kernel_rfl), soundF_of (fl := false) mixed Tryz.func215 rfl (by kernel_rfl) (by kernel_rfl) (by kernel_rfl)⟩

/-! 226: internal/strconv.ParseInt -/
def f226r0 : List SOper := [
 o 6 (.mv (i 0)),
 o 7 (.mv (.const .nilIface))]
def f226r1 : List SOper := [
 o 12 (.mv (t 0)),
 o 13 (.cmp .eql (t 12) e)]
def f226r2 : List SOper := [
 o 14 (.mki 254 (i 2)),
 o 6 (.mv (i 0)),
 o 7 (.mv (t 14))]
def f226r3 : List SOper := [
 o 8 (.mv (b false))]
def f226r4 : List SOper := [
 o 15 (.mv (t 0)),
 o 16 (.ixc (t 15) (i 0))]
def f226r5 : List SOper := [
 o 18 (.cmp .eql (t 16) (.const (.int .u8 43))),
 o 17 (.mv (t 18))]
def f226r6 : List SOper := [
 o 19 (.mv (t 0)),
 o 20 (.sls (t 19) (some (i 1)) none),
 o 0 (.mv (t 20))]
def f226r7 : List SOper := [
 o 22 (.cmp .eql (t 16) (.const (.int .u8 45))),
 o 21 (.mv (t 22))]
def f226r8 : List SOper := [
 o 23 (.mv (t 0)),
 o 24 (.sls (t 23) (some (i 1)) none),
 o 0 (.mv (t 24))]
def f226r9 : List SOper := [
 o 8 (.mv (b true))]
def f226r10 : List SOper := [
 o 9 (.mv (.const (.int .u64 0)))]
def f226r11 : List SOper := [
 o 26 (.mv (t 0)),
 o 27 (.mv (t 1)),
 o 28 (.mv (t 2)),
 o 29 (.call 251 [(t 26), (t 27), (t 28)]),
 o 25 (.mv (t 29)),
 o 30 (.ext (t 25) 0),
 o 31 (.ext (t 25) 1),
 o 9 (.mv (t 30)),
 o 7 (.mv (t 31))]
def f226r12 : List SOper := [
 o 32 (.mv (t 7)),
 o 33 (.eqn 4 true (t 32)),
 o 34 (.mv (t 33)),
 g 35 34 (.mv (t 7)),
 g 36 34 (.mki 254 (i 1)),
 g 37 34 (.eqi true (t 35) (t 36)),
 o 38 (.pick (t 34) (t 37) (b false))]
def f226r13 : List SOper := [
 o 39 (.mv (t 7)),
 o 6 (.mv (i 0)),
 o 7 (.mv (t 39))]
def f226r14 : List SOper := [
 o 40 (.mv (t 2)),
 o 41 (.cmp .eql (t 40) (i 0))]
def f226r15 : List SOper := [
 o 2 (.mv (i 64))]
def f226r16 : List SOper := [
 o 42 (.mv (t 2)),
 o 43 (.ar .sub (t 42) (i 1)),
 o 44 (.cvt .u64 (t 43)),
 o 45 (.shv .u64 true (.const (.int .u64 1)) (t 44)),
 o 10 (.mv (t 45))]
def f226r17 : List SOper := [
 o 46 (.mv (t 8)),
 o 47 (.un .not (t 46)),
 o 48 (.mv (t 47)),
 g 49 48 (.mv (t 9)),
 g 50 48 (.mv (t 10)),
 g 51 48 (.cmp .geq (t 49) (t 50)),
 o 52 (.pick (t 48) (t 51) (b false))]
def f226r18 : List SOper := [
 o 53 (.mv (t 10)),
 o 54 (.ar .sub (t 53) (.const (.int .u64 1))),
 o 55 (.cvt .i64 (t 54)),
 o 56 (.mki 254 (i 1)),
 o 6 (.mv (t 55)),
 o 7 (.mv (t 56))]
def f226r19 : List SOper := [
 o 57 (.mv (t 8)),
 o 58 (.mv (t 57)),
 g 59 58 (.mv (t 9)),
 g 60 58 (.mv (t 10)),
 g 61 58 (.cmp .gtr (t 59) (t 60)),
 o 62 (.pick (t 58) (t 61) (b false))]
def f226r20 : List SOper := [
 o 63 (.mv (t 10)),
 o 64 (.cvt .i64 (t 63)),
 o 65 (.un .neg (t 64)),
 o 66 (.mki 254 (i 1)),
 o 6 (.mv (t 65)),
 o 7 (.mv (t 66))]
def f226r21 : List SOper := [
 o 67 (.mv (t 9)),
 o 68 (.cvt .i64 (t 67)),
 o 11 (.mv (t 68))]
def f226r22 : List SOper := [
 o 69 (.mv (t 8))]
def f226r23 : List SOper := [
 o 70 (.mv (t 11)),
 o 71 (.un .neg (t 70)),
 o 11 (.mv (t 71))]
def f226r24 : List SOper := [
 o 72 (.mv (t 11)),
 o 6 (.mv (t 72)),
 o 7 (.mv (.const .nilIface))]
def f226 : SCode := (.seq (.ops f226r0) (.seq (.seq (.ops f226r1) (.cond (t 13) (.seq (.ops f226r2) .ret) .skip)) (.seq (.ops f226r3) (.seq (.seq (.ops f226r4) (.block 0 (.seq (.ops f226r5) (.cond (t 17) (.ops f226r6) (.seq (.ops f226r7) (.cond (t 21) (.seq (.ops f226r8) (.ops f226r9)) .skip)))))) (.seq (.ops f226r10) (.seq (.ops f226r11) (.seq (.seq (.ops f226r12) (.cond (t 38) (.seq (.ops f226r13) .ret) .skip)) (.seq (.seq (.ops f226r14) (.cond (t 41) (.ops f226r15) .skip)) (.seq (.ops f226r16) (.seq (.seq (.ops f226r17) (.cond (t 52) (.seq (.ops f226r18) .ret) .skip)) (.seq (.seq (.ops f226r19) (.cond (t 62) (.seq (.ops f226r20) .ret) .skip)) (.seq (.ops f226r21) (.seq (.seq (.ops f226r22) (.cond (t 69) (.ops f226r23) .skip)) (.seq (.ops f226r24) .ret))))))))))))))
theorem f226_ok (oq : Nat → Value) (F : Nat → Prop) (h0 : Heap) : EntOK Tryz.prog oq F h0 226 (.code 73 f226 [.t 6, .t 7]) := ⟨soundD_of (fl := false) mixed Tryz.func226 rfl (by kernel_rfl) (by kernel_rfl) (by kernel_rfl), soundF_of (fl := false) mixed Tryz.func226 rfl (by kernel_rfl) (by kernel_rfl) (by kernel_rfl)⟩

/-! 228: internal/strconv.small -/
def f228r0 : List SOper := [
 o 2 (.mv e)]
def f228r1 : List SOper := [
 o 3 (.mv (t 0)),
 o 4 (.cmp .lss (t 3) (i 10))]
def f228r2 : List SOper := [
 o 5 (.mv (t 0)),
 o 6 (.mv (t 0)),
 o 7 (.ar .add (t 6) (i 1)),
 o 8 (.sls (.const (.string ⟨#[48, 49, 50, 51, 52, 53, 54, 55, 56, 57, 97, 98, 99, 100, 101, 102, 103, 104, 105, 106, 107, 108, 109, 110, 111, 112, 113, 114, 115, 116, 117, 118, 119, 120, 121, 122]⟩)) (some (t 5)) (some (t 7))),
 o 2 (.mv (t 8))]
def f228r3 : List SOper := [
 o 9 (.mv (t 0)),
 o 10 (.ar .mul (t 9) (i 2)),
 o 11 (.mv (t 0)),
 o 12 (.ar .mul (t 11) (i 2)),
 o 13 (.ar .add (t 12) (i 2)),
 o 14 (.sls (.const (.string ⟨#[48, 48, 48, 49, 48, 50, 48, 51, 48, 52, 48, 53, 48, 54, 48, 55, 48, 56, 48, 57, 49, 48, 49, 49, 49, 50, 49, 51, 49, 52, 49, 53, 49, 54, 49, 55, 49, 56, 49, 57, 50, 48, 50, 49, 50, 50, 50, 51, 50, 52, 50, 53, 50, 54, 50, 55, 50, 56, 50, 57, 51, 48, 51, 49, 51, 50, 51, 51, 51, 52, 51, 53, 51, 54, 51, 55, 51, 56, 51, 57, 52, 48, 52, 49, 52, 50, 52, 51, 52, 52, 52, 53, 52, 54, 52, 55, 52, 56, 52, 57, 53, 48, 53, 49, 53, 50, 53, 51, 53, 52, 53, 53, 53, 54, 53, 55, 53, 56, 53, 57, 54, 48, 54, 49, 54, 50, 54, 51, 54, 52, 54, 53, 54, 54, 54, 55, 54, 56, 54, 57, 55, 48, 55, 49, 55, 50, 55, 51, 55, 52, 55, 53, 55, 54, 55, 55, 55, 56, 55, 57, 56, 48, 56, 49, 56, 50, 56, 51, 56, 52, 56, 53, 56, 54, 56, 55, 56, 56, 56, 57, 57, 48, 57, 49, 57, 50, 57, 51, 57, 52, 57, 53, 57, 54, 57, 55, 57, 56, 57, 57]⟩)) (some (t 10)) (some (t 13))),
 o 2 (.mv (t 14))]
def f228 : SCode := (.seq (.ops f228r0) (.seq (.seq (.ops f228r1) (.cond (t 4) (.seq (.ops f228r2) .ret) .skip)) (.seq (.ops f228r3) .ret)))
theorem f228_ok (oq : Nat → Value) (F : Nat → Prop) (h0 : Heap) : EntOK Tryz.prog oq F h0 228 (.code 15 f228 [.t 2]) := ⟨soundD_of (fl := false) mixed Tryz.func228 rfl (by kernel_rfl) (by kernel_rfl) (by kernel_rfl), soundF_of (fl := false) mixed Tryz.func228 rfl (by kernel_rfl) (by kernel_rfl) (by kernel_rfl)⟩

/-! 251: internal/strconv.ParseUint -/
def f251r0 : List SOper := [
 o 6 (.mv (.const (.int .u64 0))),
 o 7 (.mv (.const .nilIface))]
def f251r1 : List SOper := [
 o 18 (.mv (t 0)),
 o 19 (.cmp .eql (t 18) e)]
def f251r2 : List SOper := [
 o 20 (.mki 254 (i 2)),
 o 6 (.mv (.const (.int .u64 0))),
 o 7 (.mv (t 20))]
def f251r3 : List SOper := [
 o 21 (.mv (t 1)),
 o 22 (.cmp .eql (t 21) (i 0)),
 o 8 (.mv (t 22))]
def f251r4 : List SOper := [
 o 23 (.mv (t 0)),
 o 9 (.mv (t 23))]
def f251r5 : List SOper := [
 o 26 (.mv (t 1)),
 o 27 (.cmp .leq (i 2) (t 26)),
 o 28 (.mv (t 27)),
 g 29 28 (.mv (t 1)),
 g 30 28 (.cmp .leq (t 29) (i 36)),
 o 31 (.pick (t 28) (t 30) (b false)),
 o 25 (.mv (t 31))]
def f251r6 : List SOper := [
 o 33 (.mv (t 1)),
 o 34 (.cmp .eql (t 33) (i 0)),
 o 32 (.mv (t 34))]
def f251r7 : List SOper := [
 o 1 (.mv (i 10))]
def f251r8 : List SOper := [
 o 35 (.mv (t 0)),
 o 36 (.ixc (t 35) (i 0)),
 o 37 (.cmp .eql (t 36) (.const (.int .u8 48)))]
def f251r9 : List SOper := [
 o 41 (.mv (t 0)),
 o 42 (.lens (t 41)),
 o 43 (.cmp .geq (t 42) (i 3)),
 o 44 (.mv (t 43)),
 g 45 44 (.mv (t 0)),
 g 46 44 (.ixc (t 45) (i 1)),
 g 47 44 (.call 271 [(t 46)]),
 g 48 44 (.cmp .eql (t 47) (.const (.int .u8 98))),
 o 49 (.pick (t 44) (t 48) (b false)),
 o 40 (.mv (t 49))]
def f251r10 : List SOper := [
 o 1 (.mv (i 2))]
def f251r11 : List SOper := [
 o 50 (.mv (t 0)),
 o 51 (.sls (t 50) (some (i 2)) none),
 o 0 (.mv (t 51))]
def f251r12 : List SOper := [
 o 53 (.mv (t 0)),
 o 54 (.lens (t 53)),
 o 55 (.cmp .geq (t 54) (i 3)),
 o 56 (.mv (t 55)),
 g 57 56 (.mv (t 0)),
 g 58 56 (.ixc (t 57) (i 1)),
 g 59 56 (.call 271 [(t 58)]),
 g 60 56 (.cmp .eql (t 59) (.const (.int .u8 111))),
 o 61 (.pick (t 56) (t 60) (b false)),
 o 52 (.mv (t 61))]
def f251r13 : List SOper := [
 o 1 (.mv (i 8))]
def f251r14 : List SOper := [
 o 62 (.mv (t 0)),
 o 63 (.sls (t 62) (some (i 2)) none),
 o 0 (.mv (t 63))]
def f251r15 : List SOper := [
 o 65 (.mv (t 0)),
 o 66 (.lens (t 65)),
 o 67 (.cmp .geq (t 66) (i 3)),
 o 68 (.mv (t 67)),
 g 69 68 (.mv (t 0)),
 g 70 68 (.ixc (t 69) (i 1)),
 g 71 68 (.call 271 [(t 70)]),
 g 72 68 (.cmp .eql (t 71) (.const (.int .u8 120))),
 o 73 (.pick (t 68) (t 72) (b false)),
 o 64 (.mv (t 73))]
def f251r16 : List SOper := [
 o 1 (.mv (i 16))]
def f251r17 : List SOper := [
 o 74 (.mv (t 0)),
 o 75 (.sls (t 74) (some (i 2)) none),
 o 0 (.mv (t 75))]
def f251r18 : List SOper := [
 o 1 (.mv (i 8))]
def f251r19 : List SOper := [
 o 38 (.mv (t 0)),
 o 39 (.sls (t 38) (some (i 1)) none),
 o 0 (.mv (t 39))]
def f251r20 : List SOper := [
 o 24 (.mki 254 (i 3)),
 o 6 (.mv (.const (.int .u64 0))),
 o 7 (.mv (t 24))]
def f251r21 : List SOper := [
 o 76 (.mv (t 2)),
 o 77 (.cmp .eql (t 76) (i 0))]
def f251r22 : List SOper := [
 o 2 (.mv (i 64))]
def f251r23 : List SOper := [
 o 78 (.mv (t 2)),
 o 79 (.cmp .lss (t 78) (i 0)),
 o 80 (.mv (t 79)),
 n 81 80 (.mv (t 2)),
 n 82 80 (.cmp .gtr (t 81) (i 64)),
 o 83 (.pick (t 80) (b true) (t 82))]
def f251r24 : List SOper := [
 o 84 (.mki 254 (i 4)),
 o 6 (.mv (.const (.int .u64 0))),
 o 7 (.mv (t 84))]
def f251r25 : List SOper := [
 o 10 (.mv (.const (.int .u64 0)))]
def f251r26 : List SOper := [
 o 85 (.mv (t 1))]
def f251r27 : List SOper := [
 o 91 (.cmp .eql (t 85) (i 10)),
 o 90 (.mv (t 91))]
def f251r28 : List SOper := [
 o 10 (.mv (.const (.int .u64 1844674407370955162)))]
def f251r29 : List SOper := [
 o 93 (.cmp .eql (t 85) (i 16)),
 o 92 (.mv (t 93))]
def f251r30 : List SOper := [
 o 10 (.mv (.const (.int .u64 1152921504606846976)))]
def f251r31 : List SOper := [
 o 86 (.mv (t 1)),
 o 87 (.cvt .u64 (t 86)),
 o 88 (.quo (.const (.int .u64 18446744073709551615)) (t 87)),
 o 89 (.ar .add (t 88) (.const (.int .u64 1))),
 o 10 (.mv (t 89))]
def f251r32 : List SOper := [
 o 94 (.mv (t 2)),
 o 95 (.cvt .u64 (t 94)),
 o 96 (.shv .u64 true (.const (.int .u64 1)) (t 95)),
 o 97 (.ar .sub (t 96) (.const (.int .u64 1))),
 o 11 (.mv (t 97))]
def f251r33 : List SOper := [
 o 12 (.mv (b false))]
def f251r34 : List SOper := [
 o 13 (.mv (.const (.int .u64 0)))]
def f251r35 : List SOper := [
 o 98 (.mv (t 0)),
 o 99 (.byts (t 98)),
 o 100 (.len (t 99)),
 o 101 (.mv (i 0))]
def f251r36 : List SOper := [
 o 102 (.cmp .lss (t 101) (t 100))]
def f251r37 : List SOper := [
 o 103 (.ixs 1 (t 99) (t 101)),
 o 104 (.ld1 (t 103)),
 o 15 (.mv (t 104))]
def f251r38 : List SOper := [
 o 16 (.mv (.const (.int .u8 0)))]
def f251r39 : List SOper := [
 o 107 (.mv (t 15)),
 o 108 (.cmp .eql (t 107) (.const (.int .u8 95))),
 o 109 (.mv (t 108)),
 g 110 109 (.mv (t 8)),
 o 111 (.pick (t 109) (t 110) (b false)),
 o 106 (.mv (t 111))]
def f251r40 : List SOper := [
 o 12 (.mv (b true))]
def f251r41 : List SOper := [
 o 113 (.mv (t 15)),
 o 114 (.cmp .leq (.const (.int .u8 48)) (t 113)),
 o 115 (.mv (t 114)),
 g 116 115 (.mv (t 15)),
 g 117 115 (.cmp .leq (t 116) (.const (.int .u8 57))),
 o 118 (.pick (t 115) (t 117) (b false)),
 o 112 (.mv (t 118))]
def f251r42 : List SOper := [
 o 119 (.mv (t 15)),
 o 120 (.ar .sub (t 119) (.const (.int .u8 48))),
 o 16 (.mv (t 120))]
def f251r43 : List SOper := [
 o 122 (.mv (t 15)),
 o 123 (.call 271 [(t 122)]),
 o 124 (.cmp .leq (.const (.int .u8 97)) (t 123)),
 o 125 (.mv (t 124)),
 g 126 125 (.mv (t 15)),
 g 127 125 (.call 271 [(t 126)]),
 g 128 125 (.cmp .leq (t 127) (.const (.int .u8 122))),
 o 129 (.pick (t 125) (t 128) (b false)),
 o 121 (.mv (t 129))]
def f251r44 : List SOper := [
 o 130 (.mv (t 15)),
 o 131 (.call 271 [(t 130)]),
 o 132 (.ar .sub (t 131) (.const (.int .u8 97))),
 o 133 (.ar .add (t 132) (.const (.int .u8 10))),
 o 16 (.mv (t 133))]
def f251r45 : List SOper := [
 o 105 (.mki 254 (i 2)),
 o 6 (.mv (.const (.int .u64 0))),
 o 7 (.mv (t 105))]
def f251r46 : List SOper := [
 o 134 (.mv (t 16)),
 o 135 (.mv (t 1)),
 o 136 (.cvt .u8 (t 135)),
 o 137 (.cmp .geq (t 134) (t 136))]
def f251r47 : List SOper := [
 o 138 (.mki 254 (i 2)),
 o 6 (.mv (.const (.int .u64 0))),
 o 7 (.mv (t 138))]
def f251r48 : List SOper := [
 o 139 (.mv (t 13)),
 o 140 (.mv (t 10)),
 o 141 (.cmp .geq (t 139) (t 140))]
def f251r49 : List SOper := [
 o 142 (.mv (t 11)),
 o 143 (.mki 254 (i 1)),
 o 6 (.mv (t 142)),
 o 7 (.mv (t 143))]
def f251r50 : List SOper := [
 o 144 (.mv (t 13)),
 o 145 (.mv (t 1)),
 o 146 (.cvt .u64 (t 145)),
 o 147 (.ar .mul (t 144) (t 146)),
 o 13 (.mv (t 147))]
def f251r51 : List SOper := [
 o 148 (.mv (t 13)),
 o 149 (.mv (t 16)),
 o 150 (.cvt .u64 (t 149)),
 o 151 (.ar .add (t 148) (t 150)),
 o 17 (.mv (t 151))]
def f251r52 : List SOper := [
 o 152 (.mv (t 17)),
 o 153 (.mv (t 13)),
 o 154 (.cmp .lss (t 152) (t 153)),
 o 155 (.mv (t 154)),
 n 156 155 (.mv (t 17)),
 n 157 155 (.mv (t 11)),
 n 158 155 (.cmp .gtr (t 156) (t 157)),
 o 159 (.pick (t 155) (b true) (t 158))]
def f251r53 : List SOper := [
 o 160 (.mv (t 11)),
 o 161 (.mki 254 (i 1)),
 o 6 (.mv (t 160)),
 o 7 (.mv (t 161))]
def f251r54 : List SOper := [
 o 162 (.mv (t 17)),
 o 13 (.mv (t 162))]
def f251r55 : List SOper := [
 o 163 (.ar .add (t 101) (i 1)),
 o 101 (.mv (t 163))]
def f251l56 : SCode := (.seq (.ops f251r36) (.seq (.cond (t 102) .skip (.exit 3)) (.seq (.block 4 (.seq (.ops f251r37) (.seq (.ops f251r38) (.seq (.block 5 (.seq (.ops f251r39) (.cond (t 106) (.seq (.ops f251r40) (.exit 4)) (.seq (.ops f251r41) (.cond (t 112) (.ops f251r42) (.seq (.ops f251r43) (.cond (t 121) (.ops f251r44) (.seq (.ops f251r45) .ret)))))))) (.seq (.seq (.ops f251r46) (.cond (t 137) (.seq (.ops f251r47) .ret) .skip)) (.seq (.seq (.ops f251r48) (.cond (t 141) (.seq (.ops f251r49) .ret) .skip)) (.seq (.ops f251r50) (.seq (.ops f251r51) (.seq (.seq (.ops f251r52) (.cond (t 159) (.seq (.ops f251r53) .ret) .skip)) (.ops f251r54)))))))))) (.ops f251r55))))
def f251r57 : List SOper := [
 o 164 (.mv (t 12)),
 o 165 (.mv (t 164)),
 g 166 165 (.mv (t 9)),
 g 167 165 (.call 272 [(t 166)]),
 g 168 165 (.un .not (t 167)),
 o 169 (.pick (t 165) (t 168) (b false))]
def f251r58 : List SOper := [
 o 170 (.mki 254 (i 2)),
 o 6 (.mv (.const (.int .u64 0))),
 o 7 (.mv (t 170))]
def f251r59 : List SOper := [
 o 171 (.mv (t 13)),
 o 6 (.mv (t 171)),
 o 7 (.mv (.const .nilIface))]
def f251 : SCode := (.seq (.ops f251r0) (.seq (.seq (.ops f251r1) (.cond (t 19) (.seq (.ops f251r2) .ret) .skip)) (.seq (.ops f251r3) (.seq (.ops f251r4) (.seq (.block 0 (.seq (.ops f251r5) (.cond (t 25) .skip (.seq (.ops f251r6) (.cond (t 32) (.seq (.ops f251r7) (.seq (.ops f251r8) (.cond (t 37) (.block 1 (.seq (.ops f251r9) (.cond (t 40) (.seq (.ops f251r10) (.ops f251r11)) (.seq (.ops f251r12) (.cond (t 52) (.seq (.ops f251r13) (.ops f251r14)) (.seq (.ops f251r15) (.cond (t 64) (.seq (.ops f251r16) (.ops f251r17)) (.seq (.ops f251r18) (.ops f251r19))))))))) .skip))) (.seq (.ops f251r20) .ret)))))) (.seq (.seq (.ops f251r21) (.cond (t 77) (.ops f251r22) (.seq (.ops f251r23) (.cond (t 83) (.seq (.ops f251r24) .ret) .skip)))) (.seq (.ops f251r25) (.seq (.seq (.ops f251r26) (.block 2 (.seq (.ops f251r27) (.cond (t 90) (.ops f251r28) (.seq (.ops f251r29) (.cond (t 92) (.ops f251r30) (.ops f251r31))))))) (.seq (.ops f251r32) (.seq (.ops f251r33) (.seq (.ops f251r34) (.seq (.seq (.ops f251r35) (.block 3 (.loop f251l56))) (.seq (.seq (.ops f251r57) (.cond (t 169) (.seq (.ops f251r58) .ret) .skip)) (.seq (.ops f251r59) .ret))))))))))))))
theorem f251_ok (oq : Nat → Value) (F : Nat → Prop) (h0 : Heap) : EntOK Tryz.prog oq F h0 251 (.code 172 f251 [.t 6, .t 7]) := ⟨soundD_of (fl := false) mixed Tryz.func251 rfl (by kernel_rfl) (by kernel_rfl) (by kernel_rfl), soundF_of (fl := false) mixed Tryz.func251 rfl (by kernel_rfl) (by kernel_rfl) (by kernel_rfl)⟩

def tb : Tbl := (.node (.node (.node (.node (.node (.node .nil 11 (.code 6 f11 [.t 0]) .nil) 13 (.code 39 f13 [.t 0]) (.node .nil 14 (.code 22 f14 [.cn 6 4, .t 7]) .nil)) 15 (.code 59 f15 [.cn 6 4, .t 7]) (.node (.node .nil 21 (.code 9 f21 [.t 2]) .nil) 24 (.code 32 f24 [.t 4]) (.node .nil 29 (.code 25 f29 [.cn 6 7, .t 7]) .nil))) 30 (.code 28 f30 [.t 4, .t 5]) (.node (.node (.node .nil 31 (.code 10 f31 [.t 2]) .nil) 32 (.code 2 f32 [.t 0]) (.node .nil 33 (.code 22 f33 [.t 2]) .nil)) 37 (.code 46 f37 [.cn 6 4, .c1 7, .t 8]) (.node (.node .nil 38 (.code 5 f38 [.t 2]) .nil) 39 (.code 11 f39 []) (.node .nil 69 (.code 12 f69 [.t 2]) .nil)))) 73 (.code 33 f73 [.cn 4 7, .t 5]) (.node (.node (.node (.node .nil 74 (.code 13 f74 [.t 4]) .nil) 75 (.code 143 f75 [.t 4]) (.node .nil 76 (.code 9 f76 [.t 4]) .nil)) 77 (.code 6 f77 [.t 2]) (.node (.node .nil 78 (.code 4 f78 [.t 2]) .nil) 81 (.code 5 f81 [.t 0]) (.node .nil 83 (.code 30 f83 [.t 2]) .nil))) 84 (.code 14 f84 []) (.node (.node (.node .nil 85 (.code 13 f85 [.t 4]) .nil) 86 (.code 134 f86 []) (.node .nil 87 (.code 8 f87 [.t 2]) .nil)) 103 (.code 20 f103 [.t 2, .t 3]) (.node (.node .nil 105 (.code 8 f105 [.t 4]) .nil) 127 (.code 16 f127 [.cn 2 7]) .nil)))) 128 (.code 18 f128 [.t 0]) (.node (.node (.node (.node (.node .nil 129 (.code 6 f129 [.t 2]) .nil) 130 (.code 14 f130 [.t 2]) (.node .nil 131 (.code 19 f131 [.t 4]) .nil)) 132 (.code 44 f132 []) (.node (.node .nil 133 (.code 4 f133 [.t 2]) .nil) 140 (.code 4 f140 [.t 2]) (.node .nil 142 (.code 23 f142 []) .nil))) 143 (.code 44 f143 [.cn 4 4]) (.node (.node (.node .nil 155 (.code 49 f155 []) .nil) 165 (.code 25 f165 [.t 2]) (.node .nil 169 (.code 32 f169 [.t 6]) .nil)) 172 (.code 25 f172 [.t 6, .t 7]) (.node (.node .nil 173 (.code 54 f173 [.t 4]) .nil) 186 (.code 8 f186 [.t 2]) .nil))) 187 (.code 8 f187 [.t 2]) (.node (.node (.node (.node .nil 188 (.code 8 f188 [.t 2]) .nil) 190 (.code 10 f190 [.t 4]) (.node .nil 205 (.code 6 f205 [.t 2]) .nil)) 206 (.code 14 f206 []) (.node (.node .nil 207 (.code 9 f207 []) .nil) 208 (.code 27 f208 [.t 4]) (.node .nil 209 (.code 65 f209 []) .nil))) 210 (.code 13 f210 []) (.node (.node (.node .nil 212 (.code 32 f212 [.t 4, .t 5]) .nil) 214 (.code 5 f214 [.cn 2 4]) (.node .nil 215 (.code 9 f215 [.cn 3 4]) .nil)) 226 (.code 73 f226 [.t 6, .t 7]) (.node (.node .nil 228 (.code 15 f228 [.t 2]) .nil) 251 (.code 172 f251 [.t 6, .t 7]) .nil)))))
theorem tb_ok (oq : Nat → Value) (F : Nat → Prop) (h0 : Heap) : TOK Tryz.prog oq F h0 tb := ⟨⟨⟨⟨⟨⟨trivial, f11_ok oq F h0, trivial⟩, f13_ok oq F h0, ⟨trivial, f14_ok oq F h0, trivial⟩⟩, f15_ok oq F h0, ⟨⟨trivial, f21_ok oq F h0, trivial⟩, f24_ok oq F h0, ⟨trivial, f29_ok oq F h0, trivial⟩⟩⟩, f30_ok oq F h0, ⟨⟨⟨trivial, f31_ok oq F h0, trivial⟩, f32_ok oq F h0, ⟨trivial, f33_ok oq F h0, trivial⟩⟩, f37_ok oq F h0, ⟨⟨trivial, f38_ok oq F h0, trivial⟩, f39_ok oq F h0, ⟨trivial, f69_ok oq F h0, trivial⟩⟩⟩⟩, f73_ok oq F h0, ⟨⟨⟨⟨trivial, f74_ok oq F h0, trivial⟩, f75_ok oq F h0, ⟨trivial, f76_ok oq F h0, trivial⟩⟩, f77_ok oq F h0, ⟨⟨trivial, f78_ok oq F h0, trivial⟩, f81_ok oq F h0, ⟨trivial, f83_ok oq F h0, trivial⟩⟩⟩, f84_ok oq F h0, ⟨⟨⟨trivial, f85_ok oq F h0, trivial⟩, f86_ok oq F h0, ⟨trivial, f87_ok oq F h0, trivial⟩⟩, f103_ok oq F h0, ⟨⟨trivial, f105_ok oq F h0, trivial⟩, f127_ok oq F h0, trivial⟩⟩⟩⟩, f128_ok oq F h0, ⟨⟨⟨⟨⟨trivial, f129_ok oq F h0, trivial⟩, f130_ok oq F h0, ⟨trivial, f131_ok oq F h0, trivial⟩⟩, f132_ok oq F h0, ⟨⟨trivial, f133_ok oq F h0, trivial⟩, f140_ok oq F h0, ⟨trivial, f142_ok oq F h0, trivial⟩⟩⟩, f143_ok oq F h0, ⟨⟨⟨trivial, f155_ok oq F h0, trivial⟩, f165_ok oq F h0, ⟨trivial, f169_ok oq F h0, trivial⟩⟩, f172_ok oq F h0, ⟨⟨trivial, f173_ok oq F h0, trivial⟩, f186_ok oq F h0, trivial⟩⟩⟩, f187_ok oq F h0, ⟨⟨⟨⟨trivial, f188_ok oq F h0, trivial⟩, f190_ok oq F h0, ⟨trivial, f205_ok oq F h0, trivial⟩⟩, f206_ok oq F h0, ⟨⟨trivial, f207_ok oq F h0, trivial⟩, f208_ok oq F h0, ⟨trivial, f209_ok oq F h0, trivial⟩⟩⟩, f210_ok oq F h0, ⟨⟨⟨trivial, f212_ok oq F h0, trivial⟩, f214_ok oq F h0, ⟨trivial, f215_ok oq F h0, trivial⟩⟩, f226_ok oq F h0, ⟨⟨trivial, f228_ok oq F h0, trivial⟩, f251_ok oq F h0, trivial⟩⟩⟩⟩⟩

theorem run : saysTrue (acall0 Tryz.prog tb 1000 13 []) = true := by kernel_rfl

theorem calls (h : Heap) : CallsH Tryz.prog 13 [] h fun e h' => e = .returned (.bool true) ∧ Ext h h' := run_ok (tb_ok _ _ _) run
end Go.Proofs.YtjinlabdkegjmaaGreatDoor.R
