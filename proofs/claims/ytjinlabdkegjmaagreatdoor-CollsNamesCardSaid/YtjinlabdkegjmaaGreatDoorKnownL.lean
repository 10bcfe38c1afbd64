/-
  The table of what a run of tabor/taborlaw09.known reaches, and the run. Printed by a program (wip/prun.lean).
-/
import Derived.Test.YtjinlabdkegjmaaGreatDoorSxYJ
import Derived.Test.YtjinlabdkegjmaaGreatDoorProg
set_option maxRecDepth 100000
namespace Go.Proofs.YtjinlabdkegjmaaGreatDoor.R
open Go Go.Sx Go.Sx.S

theorem mixed : Tryz.prog.follows .mixedOrders = true := by kernel_rfl

/-! 6: tabor/taborlaw09.known -/
def f6r0 : List SOper := [
 o 0 (.mv (b false))]
def f6r1 : List SOper := [
 o 5 (.call 11 []),
 o 1 (.mv (t 5))]
def f6r2 : List SOper := [
 o 7 (.mv (t 1)),
 o 8 (.bslice [(.string ⟨#[]⟩), (.string ⟨#[]⟩), (.string ⟨#[]⟩)] 3 [(0, 1), (1, 1), (2, 1)] [(.const (.string ⟨#[115, 97, 100, 100]⟩)), (.const (.string ⟨#[97]⟩)), (.const (.string ⟨#[109]⟩))]),
 o 9 (.call 10 [(t 7), (i 0), (t 8)]),
 o 6 (.mv (t 9)),
 o 10 (.ext (t 6) 0),
 o 11 (.ext (t 6) 1),
 o 12 (.ext (t 6) 2),
 o 2 (.new [(.int .i64 0), (.int .i64 0), (.string ⟨#[]⟩), (.slice none 0 0)]),
 q (.st 4 (t 2) (t 10)),
 o 3 (.mv (t 11)),
 o 4 (.mv (t 12))]
def f6r3 : List SOper := [
 o 13 (.mv (t 4)),
 o 14 (.mv (t 13)),
 g 15 14 (.fa 0 (t 2)),
 g 16 14 (.ld1 (t 15)),
 g 17 14 (.cmp .eql (t 16) (i 3)),
 o 18 (.pick (t 14) (t 17) (b false)),
 o 19 (.mv (t 18)),
 g 20 19 (.fa 1 (t 2)),
 g 21 19 (.ld1 (t 20)),
 g 22 19 (.cmp .eql (t 21) (i 1)),
 o 23 (.pick (t 19) (t 22) (b false)),
 o 24 (.mv (t 23)),
 g 25 24 (.mv (t 3)),
 g 26 24 (.len (t 25)),
 g 27 24 (.cmp .eql (t 26) (i 1)),
 o 28 (.pick (t 24) (t 27) (b false)),
 o 29 (.mv (t 28)),
 g 30 29 (.mv (t 3)),
 g 31 29 (.ixs 5 (t 30) (i 0)),
 g 32 29 (.fa 0 (t 31)),
 g 33 29 (.ld1 (t 32)),
 g 34 29 (.cmp .eql (t 33) (i 12)),
 o 35 (.pick (t 29) (t 34) (b false)),
 o 36 (.mv (t 35)),
 g 37 36 (.mv (t 3)),
 g 38 36 (.ixs 5 (t 37) (i 0)),
 g 39 36 (.fa 2 (t 38)),
 g 40 36 (.ld1 (t 39)),
 g 41 36 (.cmp .eql (t 40) (.const (.string ⟨#[109]⟩))),
 o 42 (.pick (t 36) (t 41) (b false)),
 o 0 (.mv (t 42))]
def f6 : SCode := (.seq (.ops f6r0) (.seq (.ops f6r1) (.seq (.ops f6r2) (.seq (.ops f6r3) .ret))))
theorem f6_ok (oq : Nat → Value) (F : Nat → Prop) (h0 : Heap) : EntOK Tryz.prog oq F h0 6 (.code 43 f6 [.t 0]) := ⟨soundD_of (fl := false) mixed Tryz.func6 rfl (by kernel_rfl) (by kernel_rfl) (by kernel_rfl), soundF_of (fl := false) mixed Tryz.func6 rfl (by kernel_rfl) (by kernel_rfl) (by kernel_rfl)⟩

/-! 10: tabor/colls.Do -/
def f10r0 : List SOper := [
 o 6 (.new [(.int .i64 0), (.int .i64 0), (.string ⟨#[]⟩), (.slice none 0 0)]),
 o 7 (.new [(.slice none 0 0)]),
 o 8 (.mv (b false))]
def f10r1 : List SOper := [
 o 11 (.mv (t 2)),
 o 12 (.len (t 11)),
 o 13 (.cmp .eql (t 12) (i 0)),
 o 14 (.mv (t 13)),
 n 15 14 (.mv (t 0)),
 n 16 14 (.call 24 [(t 15), (.const (.pointer none))]),
 o 17 (.pick (t 14) (b true) (t 16))]
def f10r2 : List SOper := [
 o 18 (.build [(.int .i64 0), (.int .i64 0), (.string ⟨#[]⟩), (.slice none 0 0)] [] []),
 q (.st 4 (t 6) (t 18)),
 q (.st 1 (t 7) (.const (.slice none 0 0))),
 o 8 (.mv (b false))]
def f10t3 : OTree := (.one (o 21 (.mv (t 2)))
 (.one (o 22 (.ixs 1 (t 21) (i 0)))
 (.one (o 23 (.ld1 (t 22)))
 (.one (o 20 (.call 23 []))
 (.chk [o 23 (.ld1 (t 22))] (.one (o 24 (.call 25 [(t 23)]))
 (.one (o 25 (.look .str .nilFunc true (t 20) (t 24)))
 (.one (o 19 (.mv (t 25)))
 (.one (o 26 (.ext (t 19) 0))
 (.one (o 27 (.ext (t 19) 1))
 (.one (o 9 (.mv (t 26)))
 (.one (o 8 (.mv (t 27)))
 .done))))))))))))
def f10r4 : List SOper := [
 o 28 (.mv (t 8)),
 o 29 (.un .not (t 28))]
def f10r5 : List SOper := [
 o 30 (.build [(.int .i64 0), (.int .i64 0), (.string ⟨#[]⟩), (.slice none 0 0)] [] []),
 q (.st 4 (t 6) (t 30)),
 q (.st 1 (t 7) (.const (.slice none 0 0))),
 o 8 (.mv (b false))]
def f10r6 : List SOper := [
 o 31 (.fn 26 [] [(t 6), (t 7)])]
def f10r7 : List SOper := [
 o 32 (.mv (t 0)),
 o 33 (.mv (t 1)),
 o 34 (.mv (t 2)),
 o 35 (.slc 1 (t 34) (some (i 1)) none),
 o 36 (.build [(.int .i64 0), (.string ⟨#[]⟩), (.slice none 0 0), (.slice none 0 0), (.slice none 0 0), (.bool false), (.int .i64 0), (.bool false), (.pointer none), (.int .i64 0), (.string ⟨#[]⟩), (.slice none 0 0), (.slice none 0 0)] [(8, 1), (9, 1), (11, 1)] [(t 32), (t 33), (t 35)]),
 o 37 (.box (t 36)),
 o 10 (.mv (t 37))]
def f10r8 : List SOper := [
 o 38 (.mv (t 9)),
 o 39 (.mv (t 10)),
 o 40 (.callv (t 38) [(t 39)]),
 q (.st 4 (t 6) (t 40))]
def f10t9 : OTree := (.one (o 41 (.ldn 4 (t 6)))
 (.one (o 42 (.mv (t 10)))
 (.one (o 43 (.nilck (t 42)))
 (.one (o 44 (.fa 12 (t 43)))
 (.one (o 45 (.ld1 (t 44)))
 (.one (q (.st 4 (t 6) (t 41)))
 (.chk [o 45 (.ld1 (t 44))] (.one (q (.st 1 (t 7) (t 45)))
 (.one (o 8 (.mv (b true)))
 .done)))))))))
def f10 : SCode := (.seq (.ops f10r0) (.seq (.seq (.ops f10r1) (.cond (t 17) (.seq (.ops f10r2) .ret) .skip)) (.seq (.tree [20, 21, 22, 23, 24, 25, 19, 26, 27, 9, 8] f10t3) (.seq (.seq (.ops f10r4) (.cond (t 29) (.seq (.ops f10r5) .ret) .skip)) (.seq (.dfr f10r6 none (t 31) []) (.seq (.ops f10r7) (.seq (.ops f10r8) (.seq (.tree [41, 42, 43, 44, 45, 8] f10t9) .ret))))))))
theorem f10_ok (oq : Nat → Value) (F : Nat → Prop) (h0 : Heap) : EntOK Tryz.prog oq F h0 10 (.code 46 f10 [.cn 6 4, .c1 7, .t 8]) := ⟨soundD_of (fl := false) mixed Tryz.func10 rfl (by kernel_rfl) (by kernel_rfl) (by kernel_rfl), soundF_of (fl := false) mixed Tryz.func10 rfl (by kernel_rfl) (by kernel_rfl) (by kernel_rfl)⟩

/-! 11: tabor/keys.New -/
def f11r0 : List SOper := [
 o 0 (.mv (.const (.pointer none)))]
def f11r1 : List SOper := [
 o 1 (.mkm),
 o 2 (.build [(.map none)] [(0, 1)] [(t 1)]),
 o 3 (.box (t 2)),
 o 4 (.build [(.pointer none)] [(0, 1)] [(t 3)]),
 o 5 (.box (t 4)),
 o 0 (.mv (t 5))]
def f11 : SCode := (.seq (.ops f11r0) (.seq (.ops f11r1) .ret))
theorem f11_ok (oq : Nat → Value) (F : Nat → Prop) (h0 : Heap) : EntOK Tryz.prog oq F h0 11 (.code 6 f11 [.t 0]) := ⟨soundD_of (fl := false) mixed Tryz.func11 rfl (by kernel_rfl) (by kernel_rfl) (by kernel_rfl), soundF_of (fl := false) mixed Tryz.func11 rfl (by kernel_rfl) (by kernel_rfl) (by kernel_rfl)⟩

/-! 23: tabor/colls.commands -/
def f23r0 : List SOper := [
 o 0 (.mv (.const (.map none)))]
def f23r1 : List SOper := [
 o 1 (.mkm),
 q (.mup .str (t 1) (.const (.string ⟨#[72, 83, 69, 84]⟩)) (u 41)),
 q (.mup .str (t 1) (.const (.string ⟨#[72, 71, 69, 84]⟩)) (u 42)),
 q (.mup .str (t 1) (.const (.string ⟨#[72, 68, 69, 76]⟩)) (u 43)),
 q (.mup .str (t 1) (.const (.string ⟨#[72, 76, 69, 78]⟩)) (u 44)),
 q (.mup .str (t 1) (.const (.string ⟨#[72, 71, 69, 84, 65, 76, 76]⟩)) (u 45)),
 q (.mup .str (t 1) (.const (.string ⟨#[72, 73, 78, 67, 82, 66, 89]⟩)) (u 46)),
 q (.mup .str (t 1) (.const (.string ⟨#[76, 80, 85, 83, 72]⟩)) (u 47)),
 q (.mup .str (t 1) (.const (.string ⟨#[82, 80, 85, 83, 72]⟩)) (u 48)),
 q (.mup .str (t 1) (.const (.string ⟨#[76, 80, 79, 80]⟩)) (u 49)),
 q (.mup .str (t 1) (.const (.string ⟨#[82, 80, 79, 80]⟩)) (u 50)),
 q (.mup .str (t 1) (.const (.string ⟨#[76, 76, 69, 78]⟩)) (u 51)),
 q (.mup .str (t 1) (.const (.string ⟨#[76, 73, 78, 68, 69, 88]⟩)) (u 52)),
 q (.mup .str (t 1) (.const (.string ⟨#[76, 82, 65, 78, 71, 69]⟩)) (u 53)),
 q (.mup .str (t 1) (.const (.string ⟨#[76, 83, 69, 84]⟩)) (u 54)),
 q (.mup .str (t 1) (.const (.string ⟨#[83, 65, 68, 68]⟩)) (u 55)),
 q (.mup .str (t 1) (.const (.string ⟨#[83, 82, 69, 77]⟩)) (u 56)),
 q (.mup .str (t 1) (.const (.string ⟨#[83, 73, 83, 77, 69, 77, 66, 69, 82]⟩)) (u 57)),
 q (.mup .str (t 1) (.const (.string ⟨#[83, 67, 65, 82, 68]⟩)) (u 58)),
 q (.mup .str (t 1) (.const (.string ⟨#[83, 77, 69, 77, 66, 69, 82, 83]⟩)) (u 59)),
 q (.mup .str (t 1) (.const (.string ⟨#[83, 73, 78, 84, 69, 82]⟩)) (u 60)),
 q (.mup .str (t 1) (.const (.string ⟨#[90, 65, 68, 68]⟩)) (u 61)),
 q (.mup .str (t 1) (.const (.string ⟨#[90, 82, 69, 77]⟩)) (u 62)),
 q (.mup .str (t 1) (.const (.string ⟨#[90, 83, 67, 79, 82, 69]⟩)) (u 63)),
 q (.mup .str (t 1) (.const (.string ⟨#[90, 73, 78, 67, 82, 66, 89]⟩)) (u 64)),
 q (.mup .str (t 1) (.const (.string ⟨#[90, 67, 65, 82, 68]⟩)) (u 65)),
 q (.mup .str (t 1) (.const (.string ⟨#[90, 82, 65, 78, 75]⟩)) (u 66)),
 q (.mup .str (t 1) (.const (.string ⟨#[90, 82, 65, 78, 71, 69]⟩)) (u 67)),
 q (.mup .str (t 1) (.const (.string ⟨#[90, 82, 65, 78, 71, 69, 66, 89, 83, 67, 79, 82, 69]⟩)) (u 68)),
 o 2 (.mv (t 1)),
 o 0 (.mv (t 2))]
def f23 : SCode := (.seq (.ops f23r0) (.seq (.ops f23r1) .ret))
theorem f23_ok (oq : Nat → Value) (F : Nat → Prop) (h0 : Heap) : EntOK Tryz.prog oq F h0 23 (.code 3 f23 [.t 0]) := ⟨soundD_of (fl := false) mixed Tryz.func23 rfl (by kernel_rfl) (by kernel_rfl) (by kernel_rfl), soundF_of (fl := false) mixed Tryz.func23 rfl (by kernel_rfl) (by kernel_rfl) (by kernel_rfl)⟩

/-! 24: (*tabor/keys.Keys).Same -/
def f24r0 : List SOper := [
 o 4 (.mv (b false))]
def f24r1 : List SOper := [
 o 5 (.mv (t 0)),
 o 6 (.call 69 [(t 5)]),
 o 7 (.mv (t 6)),
 n 8 7 (.mv (t 1)),
 n 9 7 (.call 69 [(t 8)]),
 o 10 (.pick (t 7) (b true) (t 9))]
def f24r2 : List SOper := [
 o 11 (.mv (t 0)),
 o 12 (.call 69 [(t 11)]),
 o 13 (.mv (t 12)),
 g 14 13 (.mv (t 1)),
 g 15 13 (.call 69 [(t 14)]),
 o 16 (.pick (t 13) (t 15) (b false)),
 o 4 (.mv (t 16))]
def f24r3 : List SOper := [
 o 17 (.mv (t 0)),
 o 18 (.nilck (t 17)),
 o 19 (.fa 0 (t 18)),
 o 20 (.ld1 (t 19)),
 o 21 (.nilck (t 20)),
 o 22 (.fa 0 (t 21)),
 o 23 (.ld1 (t 22)),
 o 24 (.mv (t 1)),
 o 25 (.nilck (t 24)),
 o 26 (.fa 0 (t 25)),
 o 27 (.ld1 (t 26)),
 o 28 (.nilck (t 27)),
 o 29 (.fa 0 (t 28)),
 o 30 (.ld1 (t 29)),
 o 31 (.call 70 [(t 23), (t 30), (u 71)]),
 o 4 (.mv (t 31))]
def f24 : SCode := (.seq (.ops f24r0) (.seq (.seq (.ops f24r1) (.cond (t 10) (.seq (.ops f24r2) .ret) .skip)) (.seq (.ops f24r3) .ret)))
theorem f24_ok (oq : Nat → Value) (F : Nat → Prop) (h0 : Heap) : EntOK Tryz.prog oq F h0 24 (.code 32 f24 [.t 4]) := ⟨soundD_of (fl := false) mixed Tryz.func24 rfl (by kernel_rfl) (by kernel_rfl) (by kernel_rfl), soundF_of (fl := false) mixed Tryz.func24 rfl (by kernel_rfl) (by kernel_rfl) (by kernel_rfl)⟩

/-! 25: tabor/colls.word -/
def f25r0 : List SOper := [
 o 2 (.mv e)]
def f25r1 : List SOper := [
 o 6 (.mv (t 0)),
 o 7 (.byts (t 6)),
 o 3 (.mv (t 7))]
def f25r2 : List SOper := [
 o 8 (.mv (t 3)),
 o 9 (.len (t 8)),
 o 10 (.mv (i 0))]
def f25r3 : List SOper := [
 o 11 (.cmp .lss (t 10) (t 9))]
def f25r4 : List SOper := [
 o 12 (.mv (t 10)),
 o 13 (.ixs 1 (t 8) (t 10)),
 o 14 (.ld1 (t 13)),
 o 4 (.mv (t 12)),
 o 5 (.mv (t 14))]
def f25r5 : List SOper := [
 o 15 (.mv (t 5)),
 o 16 (.cmp .geq (t 15) (.const (.int .u8 97))),
 o 17 (.mv (t 16)),
 g 18 17 (.mv (t 5)),
 g 19 17 (.cmp .leq (t 18) (.const (.int .u8 122))),
 o 20 (.pick (t 17) (t 19) (b false))]
def f25r6 : List SOper := [
 o 21 (.mv (t 3)),
 o 22 (.mv (t 4)),
 o 23 (.mv (t 5)),
 o 24 (.ar .sub (t 23) (.const (.int .u8 97))),
 o 25 (.ar .add (t 24) (.const (.int .u8 65))),
 o 26 (.ixs 1 (t 21) (t 22)),
 q (.stb (t 26) (t 25))]
def f25r7 : List SOper := [
 o 27 (.ar .add (t 10) (i 1)),
 o 10 (.mv (t 27))]
def f25l8 : SCode := (.seq (.ops f25r3) (.seq (.cond (t 11) .skip (.exit 0)) (.seq (.block 1 (.seq (.ops f25r4) (.seq (.ops f25r5) (.cond (t 20) (.ops f25r6) .skip)))) (.ops f25r7))))
def f25r9 : List SOper := [
 o 28 (.mv (t 3)),
 o 29 (.bstr (t 28)),
 o 2 (.mv (t 29))]
def f25 : SCode := (.seq (.ops f25r0) (.seq (.ops f25r1) (.seq (.seq (.ops f25r2) (.block 0 (.loop f25l8))) (.seq (.ops f25r9) .ret))))
theorem f25_ok (oq : Nat → Value) (F : Nat → Prop) (h0 : Heap) : EntOK Tryz.prog oq F h0 25 (.code 30 f25 [.t 2]) := ⟨soundD_of (fl := false) mixed Tryz.func25 rfl (by kernel_rfl) (by kernel_rfl) (by kernel_rfl), soundF_of (fl := false) mixed Tryz.func25 rfl (by kernel_rfl) (by kernel_rfl) (by kernel_rfl)⟩

/-! 26: tabor/colls.Do$1 -/
def f26r0 : List SOper := [
 o 7 (.eqn 4 false (t 5))]
def f26r1 : List SOper := [
 o 2 (.mv (t 5))]
def f26r2 : List SOper := [
 o 8 (.tas 59 (.agg #[(.string ⟨#[]⟩)]) true (t 5)),
 o 9 (.ext (t 8) 1),
 o 10 (.ext (t 8) 0)]
def f26r3 : List SOper := [
 o 3 (.new [(.string ⟨#[]⟩)]),
 q (.st 1 (t 3) (t 10))]
def f26r4 : List SOper := [
 o 11 (.fa 0 (t 3)),
 o 12 (.ld1 (t 11)),
 o 13 (.call 27 [(t 12)]),
 q (.st 4 (t 0) (t 13)),
 q (.st 1 (t 1) (.const (.slice none 0 0)))]
def f26r5 : List SOper := [
 o 4 (.mv (t 5))]
def f26r6 : List SOper := [
 o 6 (.mv (t 4)),
 q (.pan (t 6))]
def f26 : SCode := (.seq (.rcv (some 5)) (.block 0 (.seq (.ops f26r0) (.cond (t 7) (.ops f26r1) (.seq (.ops f26r2) (.cond (t 9) (.seq (.ops f26r3) (.ops f26r4)) (.seq (.ops f26r5) (.ops f26r6))))))))
theorem f26_ok (oq : Nat → Value) (F : Nat → Prop) (h0 : Heap) : EntOK Tryz.prog oq F h0 26 (.code 14 f26 []) := ⟨soundD_of (fl := false) mixed Tryz.func26 rfl (by kernel_rfl) (by kernel_rfl) (by kernel_rfl), soundF_of (fl := false) mixed Tryz.func26 rfl (by kernel_rfl) (by kernel_rfl) (by kernel_rfl)⟩

/-! 29: (*tabor/keys.Keys).Get -/
def f29r0 : List SOper := [
 o 6 (.new [(.int .i64 0), (.string ⟨#[]⟩), (.slice none 0 0), (.slice none 0 0), (.slice none 0 0), (.bool false), (.int .i64 0)]),
 o 7 (.mv (b false))]
def f29r1 : List SOper := [
 o 11 (.mv (t 0)),
 o 12 (.mv (t 1)),
 o 13 (.call 73 [(t 11), (t 12)]),
 o 10 (.mv (t 13)),
 o 14 (.ext (t 10) 0),
 o 15 (.ext (t 10) 1),
 o 8 (.new [(.int .i64 0), (.string ⟨#[]⟩), (.slice none 0 0), (.slice none 0 0), (.slice none 0 0), (.bool false), (.int .i64 0)]),
 q (.st 7 (t 8) (t 14)),
 o 9 (.mv (t 15))]
def f29r2 : List SOper := [
 o 16 (.mv (t 9)),
 o 17 (.un .not (t 16)),
 o 18 (.mv (t 17)),
 n 19 18 (.ldn 7 (t 8)),
 n 20 18 (.mv (t 2)),
 n 21 18 (.call 74 [(t 19), (t 20)]),
 o 22 (.pick (t 18) (b true) (t 21))]
def f29r3 : List SOper := [
 o 23 (.build [(.int .i64 0), (.string ⟨#[]⟩), (.slice none 0 0), (.slice none 0 0), (.slice none 0 0), (.bool false), (.int .i64 0)] [] []),
 q (.st 7 (t 6) (t 23)),
 o 7 (.mv (b false))]
def f29r4 : List SOper := [
 o 24 (.ldn 7 (t 8)),
 q (.st 7 (t 6) (t 24)),
 o 7 (.mv (b true))]
def f29 : SCode := (.seq (.ops f29r0) (.seq (.ops f29r1) (.seq (.seq (.ops f29r2) (.cond (t 22) (.seq (.ops f29r3) .ret) .skip)) (.seq (.ops f29r4) .ret))))
theorem f29_ok (oq : Nat → Value) (F : Nat → Prop) (h0 : Heap) : EntOK Tryz.prog oq F h0 29 (.code 25 f29 [.cn 6 7, .t 7]) := ⟨soundD_of (fl := false) mixed Tryz.func29 rfl (by kernel_rfl) (by kernel_rfl) (by kernel_rfl), soundF_of (fl := false) mixed Tryz.func29 rfl (by kernel_rfl) (by kernel_rfl) (by kernel_rfl)⟩

/-! 55: (*tabor/colls.asked).sadd -/
def f55r0 : List SOper := [
 o 2 (.new [(.int .i64 0), (.int .i64 0), (.string ⟨#[]⟩), (.slice none 0 0)])]
def f55r1 : List SOper := [
 o 7 (.mv (t 0)),
 o 8 (.call 96 [(t 7), (i 4), (i 2), (i 65536)])]
def f55r2 : List SOper := [
 o 3 (.mv (i 0))]
def f55r3 : List SOper := [
 o 9 (.mv (t 0)),
 o 10 (.fn 112 [(t 9)] []),
 o 11 (.call 91 [(t 10)]),
 o 4 (.mv (t 11))]
def f55r4 : List SOper := [
 o 12 (.mv (t 0)),
 o 13 (.nilck (t 12)),
 o 14 (.fa 11 (t 13)),
 o 15 (.ld1 (t 14)),
 o 16 (.slc 1 (t 15) (some (i 1)) none),
 o 17 (.len (t 16)),
 o 18 (.mv (i 0))]
def f55r5 : List SOper := [
 o 19 (.cmp .lss (t 18) (t 17))]
def f55r6 : List SOper := [
 o 20 (.ixs 1 (t 16) (t 18)),
 o 21 (.ld1 (t 20)),
 o 6 (.mv (t 21))]
def f55r7 : List SOper := [
 o 22 (.mv (t 4)),
 o 23 (.mv (t 6)),
 o 24 (.callv (t 22) [(t 23)])]
def f55r8 : List SOper := [
 o 25 (.mv (t 3)),
 o 26 (.ar .add (t 25) (i 1)),
 o 3 (.mv (t 26))]
def f55r9 : List SOper := [
 o 27 (.mv (t 0)),
 o 28 (.mv (t 6)),
 o 29 (.build [(.int .i64 0), (.string ⟨#[]⟩), (.string ⟨#[]⟩), (.string ⟨#[]⟩), (.int .i64 0)] [(0, 1), (2, 1)] [(i 12), (t 28)]),
 o 30 (.mv (t 0)),
 o 31 (.nilck (t 30)),
 o 32 (.fa 0 (t 31)),
 o 33 (.fa 3 (t 32)),
 o 34 (.ld1 (t 33)),
 o 35 (.len (t 34)),
 o 36 (.mv (t 3)),
 o 37 (.ar .add (t 35) (t 36)),
 o 38 (.call 94 [(t 27), (t 29), (t 37)])]
def f55r10 : List SOper := [
 o 39 (.ar .add (t 18) (i 1)),
 o 18 (.mv (t 39))]
def f55l11 : SCode := (.seq (.ops f55r5) (.seq (.cond (t 19) .skip (.exit 0)) (.seq (.block 1 (.seq (.ops f55r6) (.seq (.ops f55r7) (.cond (t 24) (.seq (.ops f55r8) (.ops f55r9)) .skip)))) (.ops f55r10))))
def f55r12 : List SOper := [
 o 40 (.mv (t 3)),
 o 41 (.call 95 [(t 40)]),
 q (.st 4 (t 2) (t 41))]
def f55 : SCode := (.seq (.ops f55r0) (.seq (.ops f55r1) (.seq (.ops f55r2) (.seq (.ops f55r3) (.seq (.seq (.ops f55r4) (.block 0 (.loop f55l11))) (.seq (.ops f55r12) .ret))))))
theorem f55_ok (oq : Nat → Value) (F : Nat → Prop) (h0 : Heap) : EntOK Tryz.prog oq F h0 55 (.code 42 f55 [.cn 2 4]) := ⟨soundD_of (fl := false) mixed Tryz.func55 rfl (by kernel_rfl) (by kernel_rfl) (by kernel_rfl), soundF_of (fl := false) mixed Tryz.func55 rfl (by kernel_rfl) (by kernel_rfl) (by kernel_rfl)⟩

/-! 69: (*tabor/keys.Keys).none -/
def f69r0 : List SOper := [
 o 2 (.mv (b false))]
def f69r1 : List SOper := [
 o 3 (.mv (t 0)),
 o 4 (.eqn 0 false (t 3)),
 o 5 (.mv (t 4)),
 n 6 5 (.mv (t 0)),
 n 7 5 (.nilck (t 6)),
 n 8 5 (.fa 0 (t 7)),
 n 9 5 (.ld1 (t 8)),
 n 10 5 (.eqn 0 false (t 9)),
 o 11 (.pick (t 5) (b true) (t 10)),
 o 2 (.mv (t 11))]
def f69 : SCode := (.seq (.ops f69r0) (.seq (.ops f69r1) .ret))
theorem f69_ok (oq : Nat → Value) (F : Nat → Prop) (h0 : Heap) : EntOK Tryz.prog oq F h0 69 (.code 12 f69 [.t 2]) := ⟨soundD_of (fl := false) mixed Tryz.func69 rfl (by kernel_rfl) (by kernel_rfl) (by kernel_rfl), soundF_of (fl := false) mixed Tryz.func69 rfl (by kernel_rfl) (by kernel_rfl) (by kernel_rfl)⟩

/-! 73: (*tabor/keys.Keys).Look -/
def f73r0 : List SOper := [
 o 4 (.new [(.int .i64 0), (.string ⟨#[]⟩), (.slice none 0 0), (.slice none 0 0), (.slice none 0 0), (.bool false), (.int .i64 0)]),
 o 5 (.mv (b false))]
def f73r1 : List SOper := [
 o 6 (.mv (t 0)),
 o 7 (.call 69 [(t 6)]),
 o 8 (.mv (t 7)),
 n 9 8 (.mv (t 0)),
 n 10 8 (.nilck (t 9)),
 n 11 8 (.fa 0 (t 10)),
 n 12 8 (.ld1 (t 11)),
 n 13 8 (.nilck (t 12)),
 n 14 8 (.fa 0 (t 13)),
 n 15 8 (.ld1 (t 14)),
 n 16 8 (.mv (t 1)),
 n 17 8 (.look .str (.pointer none) false (t 15) (t 16)),
 n 18 8 (.eqn 0 false (t 17)),
 o 19 (.pick (t 8) (b true) (t 18))]
def f73r2 : List SOper := [
 o 20 (.build [(.int .i64 0), (.string ⟨#[]⟩), (.slice none 0 0), (.slice none 0 0), (.slice none 0 0), (.bool false), (.int .i64 0)] [] []),
 q (.st 7 (t 4) (t 20)),
 o 5 (.mv (b false))]
def f73r3 : List SOper := [
 o 21 (.mv (t 0)),
 o 22 (.nilck (t 21)),
 o 23 (.fa 0 (t 22)),
 o 24 (.ld1 (t 23)),
 o 25 (.nilck (t 24)),
 o 26 (.fa 0 (t 25)),
 o 27 (.ld1 (t 26)),
 o 28 (.mv (t 1)),
 o 29 (.look .str (.pointer none) false (t 27) (t 28)),
 o 30 (.nilck (t 29)),
 o 31 (.ldn 7 (t 30)),
 o 32 (.call 127 [(t 31)]),
 q (.st 7 (t 4) (t 32)),
 o 5 (.mv (b true))]
def f73 : SCode := (.seq (.ops f73r0) (.seq (.seq (.ops f73r1) (.cond (t 19) (.seq (.ops f73r2) .ret) .skip)) (.seq (.ops f73r3) .ret)))
theorem f73_ok (oq : Nat → Value) (F : Nat → Prop) (h0 : Heap) : EntOK Tryz.prog oq F h0 73 (.code 33 f73 [.cn 4 7, .t 5]) := ⟨soundD_of (fl := false) mixed Tryz.func73 rfl (by kernel_rfl) (by kernel_rfl) (by kernel_rfl), soundF_of (fl := false) mixed Tryz.func73 rfl (by kernel_rfl) (by kernel_rfl) (by kernel_rfl)⟩

/-! 88: (*tabor/colls.asked).many -/
def f88r0 : List SOper := [
 o 6 (.mv (t 0)),
 o 7 (.nilck (t 6)),
 o 8 (.fa 11 (t 7)),
 o 9 (.ld1 (t 8)),
 o 10 (.len (t 9)),
 o 11 (.mv (t 1)),
 o 12 (.cmp .geq (t 10) (t 11)),
 o 13 (.mv (t 12)),
 g 14 13 (.mv (t 0)),
 g 15 13 (.nilck (t 14)),
 g 16 13 (.fa 11 (t 15)),
 g 17 13 (.ld1 (t 16)),
 g 18 13 (.len (t 17)),
 g 19 13 (.mv (t 2)),
 g 20 13 (.cmp .leq (t 18) (t 19)),
 o 21 (.pick (t 13) (t 20) (b false)),
 o 22 (.call 89 [(t 21), (.const (.string ⟨#[69, 82, 82, 32, 97, 114, 103, 115]⟩))])]
def f88r1 : List SOper := [
 o 23 (.mv (t 0)),
 o 24 (.mv (t 0)),
 o 25 (.nilck (t 24)),
 o 26 (.fa 11 (t 25)),
 o 27 (.ld1 (t 26)),
 o 28 (.ixs 1 (t 27) (i 0)),
 o 29 (.ld1 (t 28)),
 o 30 (.nilck (t 23)),
 o 31 (.fa 10 (t 30)),
 q (.st 1 (t 31) (t 29))]
def f88 : SCode := (.seq (.ops f88r0) (.ops f88r1))
theorem f88_ok (oq : Nat → Value) (F : Nat → Prop) (h0 : Heap) : EntOK Tryz.prog oq F h0 88 (.code 32 f88 []) := ⟨soundD_of (fl := false) mixed Tryz.func88 rfl (by kernel_rfl) (by kernel_rfl) (by kernel_rfl), soundF_of (fl := false) mixed Tryz.func88 rfl (by kernel_rfl) (by kernel_rfl) (by kernel_rfl)⟩

/-! 89: tabor/colls.must -/
def f89r0 : List SOper := [
 o 4 (.mv (t 0)),
 o 5 (.un .not (t 4))]
def f89r1 : List SOper := [
 o 6 (.mv (t 1)),
 o 7 (.build [(.string ⟨#[]⟩)] [(0, 1)] [(t 6)]),
 o 8 (.mki 59 (t 7)),
 q (.pan (t 8))]
def f89 : SCode := (.seq (.ops f89r0) (.cond (t 5) (.ops f89r1) .skip))
theorem f89_ok (oq : Nat → Value) (F : Nat → Prop) (h0 : Heap) : EntOK Tryz.prog oq F h0 89 (.code 9 f89 []) := ⟨soundD_of (fl := false) mixed Tryz.func89 rfl (by kernel_rfl) (by kernel_rfl) (by kernel_rfl), soundF_of (fl := false) mixed Tryz.func89 rfl (by kernel_rfl) (by kernel_rfl) (by kernel_rfl)⟩

/-! 90: (*tabor/colls.asked).of -/
def f90r0 : List SOper := [
 o 5 (.mv (t 0)),
 o 6 (.mv (t 0)),
 o 7 (.mv (t 0)),
 o 8 (.nilck (t 7)),
 o 9 (.fa 8 (t 8)),
 o 10 (.ld1 (t 9)),
 o 11 (.mv (t 0)),
 o 12 (.nilck (t 11)),
 o 13 (.fa 10 (t 12)),
 o 14 (.ld1 (t 13)),
 o 15 (.mv (t 0)),
 o 16 (.nilck (t 15)),
 o 17 (.fa 9 (t 16)),
 o 18 (.ld1 (t 17)),
 o 19 (.call 29 [(t 10), (t 14), (t 18)]),
 o 4 (.mv (t 19)),
 o 20 (.ext (t 4) 0),
 o 21 (.ext (t 4) 1),
 o 22 (.nilck (t 5)),
 o 23 (.fa 0 (t 22)),
 q (.st 7 (t 23) (t 20)),
 o 24 (.nilck (t 6)),
 o 25 (.fa 7 (t 24)),
 q (.st 1 (t 25) (t 21))]
def f90r1 : List SOper := [
 o 26 (.mv (t 0)),
 o 27 (.nilck (t 26)),
 o 28 (.fa 7 (t 27)),
 o 29 (.ld1 (t 28)),
 o 30 (.un .not (t 29)),
 o 31 (.mv (t 30)),
 n 32 31 (.mv (t 0)),
 n 33 31 (.nilck (t 32)),
 n 34 31 (.fa 0 (t 33)),
 n 35 31 (.fa 0 (t 34)),
 n 36 31 (.ld1 (t 35)),
 n 37 31 (.mv (t 1)),
 n 38 31 (.cmp .eql (t 36) (t 37)),
 o 39 (.pick (t 31) (b true) (t 38)),
 o 40 (.call 89 [(t 39), (.const (.string ⟨#[87, 82, 79, 78, 71, 84, 89, 80, 69]⟩))])]
def f90 : SCode := (.seq (.ops f90r0) (.ops f90r1))
theorem f90_ok (oq : Nat → Value) (F : Nat → Prop) (h0 : Heap) : EntOK Tryz.prog oq F h0 90 (.code 41 f90 []) := ⟨soundD_of (fl := false) mixed Tryz.func90 rfl (by kernel_rfl) (by kernel_rfl) (by kernel_rfl), soundF_of (fl := false) mixed Tryz.func90 rfl (by kernel_rfl) (by kernel_rfl) (by kernel_rfl)⟩

/-! 91: tabor/colls.fresh -/
def f91r0 : List SOper := [
 o 1 (.box (t 0)),
 o 2 (.mv (.const .nilFunc))]
def f91r1 : List SOper := [
 o 4 (.mkm),
 o 3 (.new [(.map none)]),
 q (.st 1 (t 3) (t 4))]
def f91r2 : List SOper := [
 o 5 (.fn 166 [] [(t 3), (t 1)]),
 o 2 (.mv (t 5))]
def f91 : SCode := (.seq (.ops f91r0) (.seq (.ops f91r1) (.seq (.ops f91r2) .ret)))
theorem f91_ok (oq : Nat → Value) (F : Nat → Prop) (h0 : Heap) : EntOK Tryz.prog oq F h0 91 (.code 6 f91 [.t 2]) := ⟨soundD_of (fl := false) mixed Tryz.func91 rfl (by kernel_rfl) (by kernel_rfl) (by kernel_rfl), soundF_of (fl := false) mixed Tryz.func91 rfl (by kernel_rfl) (by kernel_rfl) (by kernel_rfl)⟩

/-! 94: (*tabor/colls.asked).put -/
def f94r0 : List SOper := [
 o 4 (.box (t 1))]
def f94r1 : List SOper := [
 o 6 (.mv (t 2)),
 o 7 (.cmp .leq (t 6) (i 65536)),
 o 8 (.mv (t 7)),
 g 9 8 (.mv (t 0)),
 g 10 8 (.nilck (t 9)),
 g 11 8 (.fa 10 (t 10)),
 g 12 8 (.ld1 (t 11)),
 g 13 8 (.lens (t 12)),
 g 14 8 (.cmp .leq (t 13) (i 1048576)),
 o 15 (.pick (t 8) (t 14) (b false)),
 o 16 (.mv (t 15)),
 g 17 16 (.fa 2 (t 4)),
 g 18 16 (.ld1 (t 17)),
 g 19 16 (.lens (t 18)),
 g 20 16 (.cmp .leq (t 19) (i 1048576)),
 o 21 (.pick (t 16) (t 20) (b false)),
 o 22 (.mv (t 21)),
 g 23 22 (.fa 3 (t 4)),
 g 24 22 (.ld1 (t 23)),
 g 25 22 (.lens (t 24)),
 g 26 22 (.cmp .leq (t 25) (i 1048576)),
 o 27 (.pick (t 22) (t 26) (b false)),
 o 28 (.call 89 [(t 27), (.const (.string ⟨#[69, 82, 82, 32, 108, 111, 110, 103]⟩))])]
def f94r2 : List SOper := [
 o 29 (.mv (t 0)),
 o 30 (.nilck (t 29)),
 o 31 (.fa 12 (t 30)),
 o 32 (.ld1 (t 31)),
 o 33 (.len (t 32)),
 o 34 (.cmp .eql (t 33) (i 0))]
def f94r3 : List SOper := [
 o 35 (.mv (t 0)),
 o 36 (.mv (t 0)),
 o 37 (.nilck (t 36)),
 o 38 (.fa 8 (t 37)),
 o 39 (.ld1 (t 38)),
 o 40 (.mv (t 0)),
 o 41 (.nilck (t 40)),
 o 42 (.fa 9 (t 41)),
 o 43 (.ld1 (t 42)),
 o 44 (.mv (t 0)),
 o 45 (.nilck (t 44)),
 o 46 (.fa 10 (t 45)),
 o 47 (.ld1 (t 46)),
 o 48 (.call 169 [(t 39), (t 43), (t 47)]),
 o 49 (.nilck (t 35)),
 o 50 (.fa 12 (t 49)),
 q (.st 1 (t 50) (t 48))]
def f94r4 : List SOper := [
 o 51 (.mv (t 0)),
 o 52 (.nilck (t 51)),
 o 53 (.fa 10 (t 52)),
 o 54 (.ld1 (t 53)),
 o 55 (.fa 1 (t 4)),
 q (.st 1 (t 55) (t 54))]
def f94r5 : List SOper := [
 o 56 (.mv (t 0)),
 o 57 (.mv (t 0)),
 o 58 (.nilck (t 57)),
 o 59 (.fa 12 (t 58)),
 o 60 (.ld1 (t 59)),
 o 61 (.ldn 5 (t 4)),
 o 62 (.bslice [(.int .i64 0), (.string ⟨#[]⟩), (.string ⟨#[]⟩), (.string ⟨#[]⟩), (.int .i64 0)] 1 [(0, 5)] [(t 61)]),
 o 63 (.app 5 64 [(.int .i64 0), (.string ⟨#[]⟩), (.string ⟨#[]⟩), (.string ⟨#[]⟩), (.int .i64 0)] (t 60) (t 62)),
 o 64 (.nilck (t 56)),
 o 65 (.fa 12 (t 64)),
 q (.st 1 (t 65) (t 63))]
def f94 : SCode := (.seq (.ops f94r0) (.seq (.ops f94r1) (.seq (.seq (.ops f94r2) (.cond (t 34) (.ops f94r3) .skip)) (.seq (.ops f94r4) (.ops f94r5)))))
theorem f94_ok (oq : Nat → Value) (F : Nat → Prop) (h0 : Heap) : EntOK Tryz.prog oq F h0 94 (.code 66 f94 []) := ⟨soundD_of (fl := false) mixed Tryz.func94 rfl (by kernel_rfl) (by kernel_rfl) (by kernel_rfl), soundF_of (fl := false) mixed Tryz.func94 rfl (by kernel_rfl) (by kernel_rfl) (by kernel_rfl)⟩

/-! 95: tabor/colls.number -/
def f95r0 : List SOper := [
 o 2 (.new [(.int .i64 0), (.int .i64 0), (.string ⟨#[]⟩), (.slice none 0 0)])]
def f95r1 : List SOper := [
 o 3 (.mv (t 0)),
 o 4 (.build [(.int .i64 0), (.int .i64 0), (.string ⟨#[]⟩), (.slice none 0 0)] [(0, 1), (1, 1)] [(i 3), (t 3)]),
 q (.st 4 (t 2) (t 4))]
def f95 : SCode := (.seq (.ops f95r0) (.seq (.ops f95r1) .ret))
theorem f95_ok (oq : Nat → Value) (F : Nat → Prop) (h0 : Heap) : EntOK Tryz.prog oq F h0 95 (.code 5 f95 [.cn 2 4]) := ⟨soundD_of (fl := false) mixed Tryz.func95 rfl (by kernel_rfl) (by kernel_rfl) (by kernel_rfl), soundF_of (fl := false) mixed Tryz.func95 rfl (by kernel_rfl) (by kernel_rfl) (by kernel_rfl)⟩

/-! 96: (*tabor/colls.asked).begin -/
def f96r0 : List SOper := [
 o 8 (.mv (t 0)),
 o 9 (.mv (t 2)),
 o 10 (.mv (t 3)),
 o 11 (.call 88 [(t 8), (t 9), (t 10)])]
def f96r1 : List SOper := [
 o 12 (.mv (t 0)),
 o 13 (.mv (t 1)),
 o 14 (.call 90 [(t 12), (t 13)])]
def f96 : SCode := (.seq (.ops f96r0) (.ops f96r1))
theorem f96_ok (oq : Nat → Value) (F : Nat → Prop) (h0 : Heap) : EntOK Tryz.prog oq F h0 96 (.code 15 f96 []) := ⟨soundD_of (fl := false) mixed Tryz.func96 rfl (by kernel_rfl) (by kernel_rfl) (by kernel_rfl), soundF_of (fl := false) mixed Tryz.func96 rfl (by kernel_rfl) (by kernel_rfl) (by kernel_rfl)⟩

/-! 112: (*tabor/colls.asked).member -/
def f112r0 : List SOper := [
 o 4 (.mv (b false))]
def f112r1 : List SOper := [
 o 8 (.mv (t 0)),
 o 9 (.nilck (t 8)),
 o 10 (.fa 0 (t 9)),
 o 11 (.fa 3 (t 10)),
 o 12 (.ld1 (t 11)),
 o 13 (.mv (t 1)),
 o 14 (.call 174 [(t 12), (t 13)]),
 o 7 (.mv (t 14)),
 o 15 (.ext (t 7) 0),
 o 16 (.ext (t 7) 1),
 o 5 (.mv (t 15)),
 o 6 (.mv (t 16))]
def f112r2 : List SOper := [
 o 17 (.mv (t 6)),
 o 4 (.mv (t 17))]
def f112 : SCode := (.seq (.ops f112r0) (.seq (.ops f112r1) (.seq (.ops f112r2) .ret)))
theorem f112_ok (oq : Nat → Value) (F : Nat → Prop) (h0 : Heap) : EntOK Tryz.prog oq F h0 112 (.code 18 f112 [.t 4]) := ⟨soundD_of (fl := false) mixed Tryz.func112 rfl (by kernel_rfl) (by kernel_rfl) (by kernel_rfl), soundF_of (fl := false) mixed Tryz.func112 rfl (by kernel_rfl) (by kernel_rfl) (by kernel_rfl)⟩

/-! 166: tabor/colls.fresh$1 -/
def f166r0 : List SOper := [
 o 4 (.mv (b false))]
def f166r1 : List SOper := [
 o 5 (.ld1 (t 1)),
 o 6 (.mv (t 0)),
 o 7 (.look .str (.int .i64 0) false (t 5) (t 6)),
 o 8 (.ar .add (t 7) (i 1)),
 q (.mup .str (t 5) (t 6) (t 8))]
def f166r2 : List SOper := [
 o 9 (.ld1 (t 1)),
 o 10 (.mv (t 0)),
 o 11 (.look .str (.int .i64 0) false (t 9) (t 10)),
 o 12 (.cmp .eql (t 11) (i 1)),
 o 13 (.mv (t 12)),
 g 14 13 (.ld1 (t 2)),
 g 15 13 (.mv (t 0)),
 g 16 13 (.callv (t 14) [(t 15)]),
 g 17 13 (.un .not (t 16)),
 o 18 (.pick (t 13) (t 17) (b false)),
 o 4 (.mv (t 18))]
def f166 : SCode := (.seq (.ops f166r0) (.seq (.ops f166r1) (.seq (.ops f166r2) .ret)))
theorem f166_ok (oq : Nat → Value) (F : Nat → Prop) (h0 : Heap) : EntOK Tryz.prog oq F h0 166 (.code 19 f166 [.t 4]) := ⟨soundD_of (fl := false) mixed Tryz.func166 rfl (by kernel_rfl) (by kernel_rfl) (by kernel_rfl), soundF_of (fl := false) mixed Tryz.func166 rfl (by kernel_rfl) (by kernel_rfl) (by kernel_rfl)⟩

/-! 169: tabor/basics.Drops -/
def f169r0 : List SOper := [
 o 6 (.mv (.const (.slice none 0 0)))]
def f169r1 : List SOper := [
 o 12 (.mv (t 0)),
 o 13 (.mv (t 2)),
 o 14 (.call 73 [(t 12), (t 13)]),
 o 11 (.mv (t 14)),
 o 15 (.ext (t 11) 0),
 o 16 (.ext (t 11) 1),
 o 7 (.new [(.int .i64 0), (.string ⟨#[]⟩), (.slice none 0 0), (.slice none 0 0), (.slice none 0 0), (.bool false), (.int .i64 0)]),
 q (.st 7 (t 7) (t 15)),
 o 8 (.mv (t 16))]
def f169r2 : List SOper := [
 o 18 (.mv (t 0)),
 o 19 (.mv (t 2)),
 o 20 (.mv (t 1)),
 o 21 (.call 29 [(t 18), (t 19), (t 20)]),
 o 17 (.mv (t 21)),
 o 22 (.ext (t 17) 0),
 o 23 (.ext (t 17) 1),
 o 9 (.new [(.int .i64 0), (.string ⟨#[]⟩), (.slice none 0 0), (.slice none 0 0), (.slice none 0 0), (.bool false), (.int .i64 0)]),
 q (.st 7 (t 9) (t 22)),
 o 10 (.mv (t 23))]
def f169r3 : List SOper := [
 o 24 (.mv (t 8)),
 o 25 (.mv (t 24)),
 g 26 25 (.mv (t 10)),
 g 27 25 (.un .not (t 26)),
 o 28 (.pick (t 25) (t 27) (b false))]
def f169r4 : List SOper := [
 o 29 (.mv (t 2)),
 o 30 (.build [(.int .i64 0), (.string ⟨#[]⟩), (.string ⟨#[]⟩), (.string ⟨#[]⟩), (.int .i64 0)] [(0, 1), (1, 1)] [(i 1), (t 29)]),
 o 31 (.bslice [(.int .i64 0), (.string ⟨#[]⟩), (.string ⟨#[]⟩), (.string ⟨#[]⟩), (.int .i64 0)] 1 [(0, 5)] [(t 30)]),
 o 6 (.mv (t 31))]
def f169r5 : List SOper := [
 o 6 (.mv (.const (.slice none 0 0)))]
def f169 : SCode := (.seq (.ops f169r0) (.seq (.ops f169r1) (.seq (.seq (.ops f169r2) (.seq (.ops f169r3) (.cond (t 28) (.seq (.ops f169r4) .ret) .skip))) (.seq (.ops f169r5) .ret))))
theorem f169_ok (oq : Nat → Value) (F : Nat → Prop) (h0 : Heap) : EntOK Tryz.prog oq F h0 169 (.code 32 f169 [.t 6]) := ⟨soundD_of (fl := false) mixed Tryz.func169 rfl (by kernel_rfl) (by kernel_rfl) (by kernel_rfl), soundF_of (fl := false) mixed Tryz.func169 rfl (by kernel_rfl) (by kernel_rfl) (by kernel_rfl)⟩

/-! 174: slices.BinarySearch[[]string,string] -/
def f174r0 : List SOper := [
 o 4 (.mv (i 0)),
 o 5 (.mv (b false))]
def f174r1 : List SOper := [
 o 10 (.mv (t 0)),
 o 11 (.len (t 10)),
 o 6 (.mv (t 11))]
def f174r2 : List SOper := [
 o 12 (.mv (t 6)),
 o 7 (.mv (i 0)),
 o 8 (.mv (t 12))]
def f174r3 : List SOper := [
 o 13 (.mv (t 7)),
 o 14 (.mv (t 8)),
 o 15 (.cmp .lss (t 13) (t 14))]
def f174r4 : List SOper := [
 o 16 (.mv (t 7)),
 o 17 (.mv (t 8)),
 o 18 (.ar .add (t 16) (t 17)),
 o 19 (.cvt .u64 (t 18)),
 o 20 (.sh .u64 false 1 (t 19)),
 o 21 (.cvt .i64 (t 20)),
 o 9 (.mv (t 21))]
def f174r5 : List SOper := [
 o 22 (.mv (t 0)),
 o 23 (.mv (t 9)),
 o 24 (.ixs 1 (t 22) (t 23)),
 o 25 (.ld1 (t 24)),
 o 26 (.mv (t 1)),
 o 27 (.call 161 [(t 25), (t 26)])]
def f174r6 : List SOper := [
 o 28 (.mv (t 9)),
 o 29 (.ar .add (t 28) (i 1)),
 o 7 (.mv (t 29))]
def f174r7 : List SOper := [
 o 30 (.mv (t 9)),
 o 8 (.mv (t 30))]
def f174l8 : SCode := (.seq (.seq (.ops f174r3) (.cond (t 15) .skip (.exit 0))) (.block 1 (.seq (.ops f174r4) (.seq (.ops f174r5) (.cond (t 27) (.ops f174r6) (.ops f174r7))))))
def f174r9 : List SOper := [
 o 31 (.mv (t 7)),
 o 32 (.mv (t 7)),
 o 33 (.mv (t 6)),
 o 34 (.cmp .lss (t 32) (t 33)),
 o 35 (.mv (t 34)),
 g 36 35 (.mv (t 0)),
 g 37 35 (.mv (t 7)),
 g 38 35 (.ixs 1 (t 36) (t 37)),
 g 39 35 (.ld1 (t 38)),
 g 40 35 (.mv (t 1)),
 g 41 35 (.cmp .eql (t 39) (t 40)),
 g 42 35 (.mv (t 41)),
 n 43 42 (.mv (t 0)),
 n 44 42 (.mv (t 7)),
 n 45 42 (.ixs 1 (t 43) (t 44)),
 n 46 42 (.ld1 (t 45)),
 n 47 42 (.call 232 [(t 46)]),
 n 48 42 (.mv (t 47)),
 g 49 48 (.mv (t 1)),
 g 50 48 (.call 232 [(t 49)]),
 n 51 42 (.pick (t 48) (t 50) (b false)),
 g 52 35 (.pick (t 42) (b true) (t 51)),
 o 53 (.pick (t 35) (t 52) (b false)),
 o 4 (.mv (t 31)),
 o 5 (.mv (t 53))]
def f174 : SCode := (.seq (.ops f174r0) (.seq (.ops f174r1) (.seq (.ops f174r2) (.seq (.block 0 (.loop f174l8)) (.seq (.ops f174r9) .ret)))))
theorem f174_ok (oq : Nat → Value) (F : Nat → Prop) (h0 : Heap) : EntOK Tryz.prog oq F h0 174 (.code 54 f174 [.t 4, .t 5]) := ⟨soundD_of (fl := false) mixed Tryz.func174 rfl (by kernel_rfl) (by kernel_rfl) (by kernel_rfl), soundF_of (fl := false) mixed Tryz.func174 rfl (by kernel_rfl) (by kernel_rfl) (by kernel_rfl)⟩

def tb : Tbl := (.node (.node (.node (.node (.node .nil 6 (.code 43 f6 [.t 0]) .nil) 10 (.code 46 f10 [.cn 6 4, .c1 7, .t 8]) .nil) 11 (.code 6 f11 [.t 0]) (.node (.node .nil 23 (.code 3 f23 [.t 0]) .nil) 24 (.code 32 f24 [.t 4]) .nil)) 25 (.code 30 f25 [.t 2]) (.node (.node (.node .nil 26 (.code 14 f26 []) .nil) 29 (.code 25 f29 [.cn 6 7, .t 7]) .nil) 55 (.code 42 f55 [.cn 2 4]) (.node (.node .nil 69 (.code 12 f69 [.t 2]) .nil) 73 (.code 33 f73 [.cn 4 7, .t 5]) .nil))) 88 (.code 32 f88 []) (.node (.node (.node (.node .nil 89 (.code 9 f89 []) .nil) 90 (.code 41 f90 []) .nil) 91 (.code 6 f91 [.t 2]) (.node (.node .nil 94 (.code 66 f94 []) .nil) 95 (.code 5 f95 [.cn 2 4]) .nil)) 96 (.code 15 f96 []) (.node (.node (.node .nil 112 (.code 18 f112 [.t 4]) .nil) 166 (.code 19 f166 [.t 4]) .nil) 169 (.code 32 f169 [.t 6]) (.node .nil 174 (.code 54 f174 [.t 4, .t 5]) .nil))))
theorem tb_ok (oq : Nat → Value) (F : Nat → Prop) (h0 : Heap) : TOK Tryz.prog oq F h0 tb := ⟨⟨⟨⟨⟨trivial, f6_ok oq F h0, trivial⟩, f10_ok oq F h0, trivial⟩, f11_ok oq F h0, ⟨⟨trivial, f23_ok oq F h0, trivial⟩, f24_ok oq F h0, trivial⟩⟩, f25_ok oq F h0, ⟨⟨⟨trivial, f26_ok oq F h0, trivial⟩, f29_ok oq F h0, trivial⟩, f55_ok oq F h0, ⟨⟨trivial, f69_ok oq F h0, trivial⟩, f73_ok oq F h0, trivial⟩⟩⟩, f88_ok oq F h0, ⟨⟨⟨⟨trivial, f89_ok oq F h0, trivial⟩, f90_ok oq F h0, trivial⟩, f91_ok oq F h0, ⟨⟨trivial, f94_ok oq F h0, trivial⟩, f95_ok oq F h0, trivial⟩⟩, f96_ok oq F h0, ⟨⟨⟨trivial, f112_ok oq F h0, trivial⟩, f166_ok oq F h0, trivial⟩, f169_ok oq F h0, ⟨trivial, f174_ok oq F h0, trivial⟩⟩⟩⟩

theorem run : saysTrue (acall0 Tryz.prog tb 1000 6 []) = true := by kernel_rfl

theorem calls (h : Heap) : CallsH Tryz.prog 6 [] h fun e h' => e = .returned (.bool true) ∧ Ext h h' := run_ok (tb_ok _ _ _) run
end Go.Proofs.YtjinlabdkegjmaaGreatDoor.R
