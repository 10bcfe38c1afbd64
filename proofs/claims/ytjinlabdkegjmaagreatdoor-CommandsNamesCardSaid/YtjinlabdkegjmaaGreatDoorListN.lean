/-
  Functions as runs take them. Printed by a program (wip/prun.lean).
-/
import Derived.Test.YtjinlabdkegjmaaGreatDoorSxYJ
import Derived.Test.YtjinlabdkegjmaaGreatDoorProg
set_option maxRecDepth 100000
namespace Go.Proofs.YtjinlabdkegjmaaGreatDoor.Q
open Go Go.Sx Go.Sx.S

theorem mixed : Tryz.prog.follows .mixedOrders = true := by kernel_rfl

/-! 10: tabor/colls.Do -/
def f10r0 : List SOper := [
 o 6 (.new [(.int .i64 0), (.int .i64 0), (.string ⟨#[]⟩), (.slice none 0 0)]),
 o 7 (.new [(.slice none 0 0)]),
 o 8 (.mv (b false))]
def f10r1 : List SOper := [
 o 11 (.mv (t 2)),
 o 12 (.len (t 11)),
 o 13 (.cmp .eql (t 12) (i 0)),
 o 14 (.mv (t 13)),
 n 15 14 (.mv (t 0)),
 n 16 14 (.call 24 [(t 15), (.const (.pointer none))]),
 o 17 (.pick (t 14) (b true) (t 16))]
def f10r2 : List SOper := [
 o 18 (.build [(.int .i64 0), (.int .i64 0), (.string ⟨#[]⟩), (.slice none 0 0)] [] []),
 q (.st 4 (t 6) (t 18)),
 q (.st 1 (t 7) (.const (.slice none 0 0))),
 o 8 (.mv (b false))]
def f10t3 : OTree := (.one (o 21 (.mv (t 2)))
 (.one (o 22 (.ixs 1 (t 21) (i 0)))
 (.one (o 23 (.ld1 (t 22)))
 (.one (o 20 (.call 23 []))
 (.chk [o 23 (.ld1 (t 22))] (.one (o 24 (.call 25 [(t 23)]))
 (.one (o 25 (.look .str .nilFunc true (t 20) (t 24)))
 (.one (o 19 (.mv (t 25)))
 (.one (o 26 (.ext (t 19) 0))
 (.one (o 27 (.ext (t 19) 1))
 (.one (o 9 (.mv (t 26)))
 (.one (o 8 (.mv (t 27)))
 .done))))))))))))
def f10r4 : List SOper := [
 o 28 (.mv (t 8)),
 o 29 (.un .not (t 28))]
def f10r5 : List SOper := [
 o 30 (.build [(.int .i64 0), (.int .i64 0), (.string ⟨#[]⟩), (.slice none 0 0)] [] []),
 q (.st 4 (t 6) (t 30)),
 q (.st 1 (t 7) (.const (.slice none 0 0))),
 o 8 (.mv (b false))]
def f10r6 : List SOper := [
 o 31 (.fn 26 [] [(t 6), (t 7)])]
def f10r7 : List SOper := [
 o 32 (.mv (t 0)),
 o 33 (.mv (t 1)),
 o 34 (.mv (t 2)),
 o 35 (.slc 1 (t 34) (some (i 1)) none),
 o 36 (.build [(.int .i64 0), (.string ⟨#[]⟩), (.slice none 0 0), (.slice none 0 0), (.slice none 0 0), (.bool false), (.int .i64 0), (.bool false), (.pointer none), (.int .i64 0), (.string ⟨#[]⟩), (.slice none 0 0), (.slice none 0 0)] [(8, 1), (9, 1), (11, 1)] [(t 32), (t 33), (t 35)]),
 o 37 (.box (t 36)),
 o 10 (.mv (t 37))]
def f10r8 : List SOper := [
 o 38 (.mv (t 9)),
 o 39 (.mv (t 10)),
 o 40 (.callv (t 38) [(t 39)]),
 q (.st 4 (t 6) (t 40))]
def f10t9 : OTree := (.one (o 41 (.ldn 4 (t 6)))
 (.one (o 42 (.mv (t 10)))
 (.one (o 43 (.nilck (t 42)))
 (.one (o 44 (.fa 12 (t 43)))
 (.one (o 45 (.ld1 (t 44)))
 (.one (q (.st 4 (t 6) (t 41)))
 (.chk [o 45 (.ld1 (t 44))] (.one (q (.st 1 (t 7) (t 45)))
 (.one (o 8 (.mv (b true)))
 .done)))))))))
def f10 : SCode := (.seq (.ops f10r0) (.seq (.seq (.ops f10r1) (.cond (t 17) (.seq (.ops f10r2) .ret) .skip)) (.seq (.tree [20, 21, 22, 23, 24, 25, 19, 26, 27, 9, 8] f10t3) (.seq (.seq (.ops f10r4) (.cond (t 29) (.seq (.ops f10r5) .ret) .skip)) (.seq (.dfr f10r6 none (t 31) []) (.seq (.ops f10r7) (.seq (.ops f10r8) (.seq (.tree [41, 42, 43, 44, 45, 8] f10t9) .ret))))))))
def f10_ent : Ent := .code 46 f10 [.cn 6 4, .c1 7, .t 8]
theorem f10_ok (oq : Nat → Value) (F : Nat → Prop) (h0 : Heap) : EntOK Tryz.prog oq F h0 10 f10_ent := ⟨soundD_of (fl := false) mixed Tryz.func10 rfl (by kernel_rfl) (by kernel_rfl) (by kernel_rfl), soundF_of (fl := false) mixed Tryz.func10 rfl (by kernel_rfl) (by kernel_rfl) (by kernel_rfl)⟩

/-! 11: tabor/keys.New -/
def f11r0 : List SOper := [
 o 0 (.mv (.const (.pointer none)))]
def f11r1 : List SOper := [
 o 1 (.mkm),
 o 2 (.build [(.map none)] [(0, 1)] [(t 1)]),
 o 3 (.box (t 2)),
 o 4 (.build [(.pointer none)] [(0, 1)] [(t 3)]),
 o 5 (.box (t 4)),
 o 0 (.mv (t 5))]
def f11 : SCode := (.seq (.ops f11r0) (.seq (.ops f11r1) .ret))
def f11_ent : Ent := .code 6 f11 [.t 0]
theorem f11_ok (oq : Nat → Value) (F : Nat → Prop) (h0 : Heap) : EntOK Tryz.prog oq F h0 11 f11_ent := ⟨soundD_of (fl := false) mixed Tryz.func11 rfl (by kernel_rfl) (by kernel_rfl) (by kernel_rfl), soundF_of (fl := false) mixed Tryz.func11 rfl (by kernel_rfl) (by kernel_rfl) (by kernel_rfl)⟩

/-! 19: tabor/taborref07.Less -/
def f19r0 : List SOper := [
 o 4 (.mv (b false))]
def f19r1 : List SOper := [
 o 5 (.mv (i 0))]
def f19r2 : List SOper := [
 o 6 (.mv (t 5)),
 o 7 (.mv (t 0)),
 o 8 (.lens (t 7)),
 o 9 (.cmp .lss (t 6) (t 8)),
 o 10 (.mv (t 9)),
 g 11 10 (.mv (t 5)),
 g 12 10 (.mv (t 1)),
 g 13 10 (.lens (t 12)),
 g 14 10 (.cmp .lss (t 11) (t 13)),
 o 15 (.pick (t 10) (t 14) (b false))]
def f19r3 : List SOper := [
 o 18 (.mv (t 0)),
 o 19 (.mv (t 5)),
 o 20 (.ixc (t 18) (t 19)),
 o 21 (.mv (t 1)),
 o 22 (.mv (t 5)),
 o 23 (.ixc (t 21) (t 22)),
 o 24 (.cmp .neq (t 20) (t 23))]
def f19r4 : List SOper := [
 o 25 (.mv (t 0)),
 o 26 (.mv (t 5)),
 o 27 (.ixc (t 25) (t 26)),
 o 28 (.mv (t 1)),
 o 29 (.mv (t 5)),
 o 30 (.ixc (t 28) (t 29)),
 o 31 (.cmp .lss (t 27) (t 30)),
 o 4 (.mv (t 31))]
def f19r5 : List SOper := [
 o 16 (.mv (t 5)),
 o 17 (.ar .add (t 16) (i 1)),
 o 5 (.mv (t 17))]
def f19l6 : SCode := (.seq (.seq (.ops f19r2) (.cond (t 15) .skip (.exit 0))) (.seq (.block 1 (.seq (.ops f19r3) (.cond (t 24) (.seq (.ops f19r4) .ret) .skip))) (.ops f19r5)))
def f19r7 : List SOper := [
 o 32 (.mv (t 0)),
 o 33 (.lens (t 32)),
 o 34 (.mv (t 1)),
 o 35 (.lens (t 34)),
 o 36 (.cmp .lss (t 33) (t 35)),
 o 4 (.mv (t 36))]
def f19 : SCode := (.seq (.ops f19r0) (.seq (.seq (.ops f19r1) (.block 0 (.loop f19l6))) (.seq (.ops f19r7) .ret)))
def f19_ent : Ent := .code 37 f19 [.t 4]
theorem f19_ok (oq : Nat → Value) (F : Nat → Prop) (h0 : Heap) : EntOK Tryz.prog oq F h0 19 f19_ent := ⟨soundD_of (fl := false) mixed Tryz.func19 rfl (by kernel_rfl) (by kernel_rfl) (by kernel_rfl), soundF_of (fl := false) mixed Tryz.func19 rfl (by kernel_rfl) (by kernel_rfl) (by kernel_rfl)⟩

/-! 20: tabor/commands.Known -/
def f20r0 : List SOper := [
 o 2 (.mv (b false))]
def f20r1 : List SOper := [
 o 10 (.call 11 []),
 o 11 (.mv (t 0)),
 o 12 (.bslice [(.string ⟨#[]⟩)] 1 [(0, 1)] [(t 11)]),
 o 13 (.call 37 [(t 10), (i 0), (t 12)]),
 o 9 (.mv (t 13)),
 o 14 (.ext (t 9) 0),
 o 15 (.ext (t 9) 1),
 o 16 (.ext (t 9) 2),
 o 3 (.new [(.int .i64 0), (.int .i64 0), (.string ⟨#[]⟩), (.slice none 0 0)]),
 q (.st 4 (t 3) (t 14)),
 o 4 (.mv (t 15)),
 o 5 (.mv (t 16))]
def f20r2 : List SOper := [
 o 18 (.call 11 []),
 o 19 (.mv (t 0)),
 o 20 (.bslice [(.string ⟨#[]⟩)] 1 [(0, 1)] [(t 19)]),
 o 21 (.call 10 [(t 18), (i 0), (t 20)]),
 o 17 (.mv (t 21)),
 o 22 (.ext (t 17) 0),
 o 23 (.ext (t 17) 1),
 o 24 (.ext (t 17) 2),
 o 6 (.new [(.int .i64 0), (.int .i64 0), (.string ⟨#[]⟩), (.slice none 0 0)]),
 q (.st 4 (t 6) (t 22)),
 o 7 (.mv (t 23)),
 o 8 (.mv (t 24))]
def f20r3 : List SOper := [
 o 25 (.mv (t 5)),
 o 26 (.mv (t 25)),
 n 27 26 (.mv (t 8)),
 o 28 (.pick (t 26) (b true) (t 27)),
 o 2 (.mv (t 28))]
def f20 : SCode := (.seq (.ops f20r0) (.seq (.ops f20r1) (.seq (.ops f20r2) (.seq (.ops f20r3) .ret))))
def f20_ent : Ent := .code 29 f20 [.t 2]
theorem f20_ok (oq : Nat → Value) (F : Nat → Prop) (h0 : Heap) : EntOK Tryz.prog oq F h0 20 f20_ent := ⟨soundD_of (fl := false) mixed Tryz.func20 rfl (by kernel_rfl) (by kernel_rfl) (by kernel_rfl), soundF_of (fl := false) mixed Tryz.func20 rfl (by kernel_rfl) (by kernel_rfl) (by kernel_rfl)⟩

/-! 21: slices.Sorted[string] -/
def f21r0 : List SOper := [
 o 2 (.mv (.const (.slice none 0 0)))]
def f21r1 : List SOper := [
 o 4 (.mv (t 0)),
 o 5 (.call 38 [(t 4)]),
 o 3 (.mv (t 5))]
def f21r2 : List SOper := [
 o 6 (.mv (t 3)),
 o 7 (.call 39 [(t 6)])]
def f21r3 : List SOper := [
 o 8 (.mv (t 3)),
 o 2 (.mv (t 8))]
def f21 : SCode := (.seq (.ops f21r0) (.seq (.ops f21r1) (.seq (.ops f21r2) (.seq (.ops f21r3) .ret))))
def f21_ent : Ent := .code 9 f21 [.t 2]
theorem f21_ok (oq : Nat → Value) (F : Nat → Prop) (h0 : Heap) : EntOK Tryz.prog oq F h0 21 f21_ent := ⟨soundD_of (fl := false) mixed Tryz.func21 rfl (by kernel_rfl) (by kernel_rfl) (by kernel_rfl), soundF_of (fl := false) mixed Tryz.func21 rfl (by kernel_rfl) (by kernel_rfl) (by kernel_rfl)⟩

/-! 23: tabor/colls.commands -/
def f23r0 : List SOper := [
 o 0 (.mv (.const (.map none)))]
def f23r1 : List SOper := [
 o 1 (.mkm),
 q (.mup .str (t 1) (.const (.string ⟨#[72, 83, 69, 84]⟩)) (u 41)),
 q (.mup .str (t 1) (.const (.string ⟨#[72, 71, 69, 84]⟩)) (u 42)),
 q (.mup .str (t 1) (.const (.string ⟨#[72, 68, 69, 76]⟩)) (u 43)),
 q (.mup .str (t 1) (.const (.string ⟨#[72, 76, 69, 78]⟩)) (u 44)),
 q (.mup .str (t 1) (.const (.string ⟨#[72, 71, 69, 84, 65, 76, 76]⟩)) (u 45)),
 q (.mup .str (t 1) (.const (.string ⟨#[72, 73, 78, 67, 82, 66, 89]⟩)) (u 46)),
 q (.mup .str (t 1) (.const (.string ⟨#[76, 80, 85, 83, 72]⟩)) (u 47)),
 q (.mup .str (t 1) (.const (.string ⟨#[82, 80, 85, 83, 72]⟩)) (u 48)),
 q (.mup .str (t 1) (.const (.string ⟨#[76, 80, 79, 80]⟩)) (u 49)),
 q (.mup .str (t 1) (.const (.string ⟨#[82, 80, 79, 80]⟩)) (u 50)),
 q (.mup .str (t 1) (.const (.string ⟨#[76, 76, 69, 78]⟩)) (u 51)),
 q (.mup .str (t 1) (.const (.string ⟨#[76, 73, 78, 68, 69, 88]⟩)) (u 52)),
 q (.mup .str (t 1) (.const (.string ⟨#[76, 82, 65, 78, 71, 69]⟩)) (u 53)),
 q (.mup .str (t 1) (.const (.string ⟨#[76, 83, 69, 84]⟩)) (u 54)),
 q (.mup .str (t 1) (.const (.string ⟨#[83, 65, 68, 68]⟩)) (u 55)),
 q (.mup .str (t 1) (.const (.string ⟨#[83, 82, 69, 77]⟩)) (u 56)),
 q (.mup .str (t 1) (.const (.string ⟨#[83, 73, 83, 77, 69, 77, 66, 69, 82]⟩)) (u 57)),
 q (.mup .str (t 1) (.const (.string ⟨#[83, 67, 65, 82, 68]⟩)) (u 58)),
 q (.mup .str (t 1) (.const (.string ⟨#[83, 77, 69, 77, 66, 69, 82, 83]⟩)) (u 59)),
 q (.mup .str (t 1) (.const (.string ⟨#[83, 73, 78, 84, 69, 82]⟩)) (u 60)),
 q (.mup .str (t 1) (.const (.string ⟨#[90, 65, 68, 68]⟩)) (u 61)),
 q (.mup .str (t 1) (.const (.string ⟨#[90, 82, 69, 77]⟩)) (u 62)),
 q (.mup .str (t 1) (.const (.string ⟨#[90, 83, 67, 79, 82, 69]⟩)) (u 63)),
 q (.mup .str (t 1) (.const (.string ⟨#[90, 73, 78, 67, 82, 66, 89]⟩)) (u 64)),
 q (.mup .str (t 1) (.const (.string ⟨#[90, 67, 65, 82, 68]⟩)) (u 65)),
 q (.mup .str (t 1) (.const (.string ⟨#[90, 82, 65, 78, 75]⟩)) (u 66)),
 q (.mup .str (t 1) (.const (.string ⟨#[90, 82, 65, 78, 71, 69]⟩)) (u 67)),
 q (.mup .str (t 1) (.const (.string ⟨#[90, 82, 65, 78, 71, 69, 66, 89, 83, 67, 79, 82, 69]⟩)) (u 68)),
 o 2 (.mv (t 1)),
 o 0 (.mv (t 2))]
def f23 : SCode := (.seq (.ops f23r0) (.seq (.ops f23r1) .ret))
def f23_ent : Ent := .code 3 f23 [.t 0]
theorem f23_ok (oq : Nat → Value) (F : Nat → Prop) (h0 : Heap) : EntOK Tryz.prog oq F h0 23 f23_ent := ⟨soundD_of (fl := false) mixed Tryz.func23 rfl (by kernel_rfl) (by kernel_rfl) (by kernel_rfl), soundF_of (fl := false) mixed Tryz.func23 rfl (by kernel_rfl) (by kernel_rfl) (by kernel_rfl)⟩

/-! 24: (*tabor/keys.Keys).Same -/
def f24r0 : List SOper := [
 o 4 (.mv (b false))]
def f24r1 : List SOper := [
 o 5 (.mv (t 0)),
 o 6 (.call 69 [(t 5)]),
 o 7 (.mv (t 6)),
 n 8 7 (.mv (t 1)),
 n 9 7 (.call 69 [(t 8)]),
 o 10 (.pick (t 7) (b true) (t 9))]
def f24r2 : List SOper := [
 o 11 (.mv (t 0)),
 o 12 (.call 69 [(t 11)]),
 o 13 (.mv (t 12)),
 g 14 13 (.mv (t 1)),
 g 15 13 (.call 69 [(t 14)]),
 o 16 (.pick (t 13) (t 15) (b false)),
 o 4 (.mv (t 16))]
def f24r3 : List SOper := [
 o 17 (.mv (t 0)),
 o 18 (.nilck (t 17)),
 o 19 (.fa 0 (t 18)),
 o 20 (.ld1 (t 19)),
 o 21 (.nilck (t 20)),
 o 22 (.fa 0 (t 21)),
 o 23 (.ld1 (t 22)),
 o 24 (.mv (t 1)),
 o 25 (.nilck (t 24)),
 o 26 (.fa 0 (t 25)),
 o 27 (.ld1 (t 26)),
 o 28 (.nilck (t 27)),
 o 29 (.fa 0 (t 28)),
 o 30 (.ld1 (t 29)),
 o 31 (.call 70 [(t 23), (t 30), (u 71)]),
 o 4 (.mv (t 31))]
def f24 : SCode := (.seq (.ops f24r0) (.seq (.seq (.ops f24r1) (.cond (t 10) (.seq (.ops f24r2) .ret) .skip)) (.seq (.ops f24r3) .ret)))
def f24_ent : Ent := .code 32 f24 [.t 4]
theorem f24_ok (oq : Nat → Value) (F : Nat → Prop) (h0 : Heap) : EntOK Tryz.prog oq F h0 24 f24_ent := ⟨soundD_of (fl := false) mixed Tryz.func24 rfl (by kernel_rfl) (by kernel_rfl) (by kernel_rfl), soundF_of (fl := false) mixed Tryz.func24 rfl (by kernel_rfl) (by kernel_rfl) (by kernel_rfl)⟩

/-! 26: tabor/colls.Do$1 -/
def f26r0 : List SOper := [
 o 7 (.eqn 4 false (t 5))]
def f26r1 : List SOper := [
 o 2 (.mv (t 5))]
def f26r2 : List SOper := [
 o 8 (.tas 59 (.agg #[(.string ⟨#[]⟩)]) true (t 5)),
 o 9 (.ext (t 8) 1),
 o 10 (.ext (t 8) 0)]
def f26r3 : List SOper := [
 o 3 (.new [(.string ⟨#[]⟩)]),
 q (.st 1 (t 3) (t 10))]
def f26r4 : List SOper := [
 o 11 (.fa 0 (t 3)),
 o 12 (.ld1 (t 11)),
 o 13 (.call 27 [(t 12)]),
 q (.st 4 (t 0) (t 13)),
 q (.st 1 (t 1) (.const (.slice none 0 0)))]
def f26r5 : List SOper := [
 o 4 (.mv (t 5))]
def f26r6 : List SOper := [
 o 6 (.mv (t 4)),
 q (.pan (t 6))]
def f26 : SCode := (.seq (.rcv (some 5)) (.block 0 (.seq (.ops f26r0) (.cond (t 7) (.ops f26r1) (.seq (.ops f26r2) (.cond (t 9) (.seq (.ops f26r3) (.ops f26r4)) (.seq (.ops f26r5) (.ops f26r6))))))))
def f26_ent : Ent := .code 14 f26 []
theorem f26_ok (oq : Nat → Value) (F : Nat → Prop) (h0 : Heap) : EntOK Tryz.prog oq F h0 26 f26_ent := ⟨soundD_of (fl := false) mixed Tryz.func26 rfl (by kernel_rfl) (by kernel_rfl) (by kernel_rfl), soundF_of (fl := false) mixed Tryz.func26 rfl (by kernel_rfl) (by kernel_rfl) (by kernel_rfl)⟩

/-! 27: tabor/basics.Fail -/
def f27r0 : List SOper := [
 o 2 (.new [(.int .i64 0), (.int .i64 0), (.string ⟨#[]⟩), (.slice none 0 0)])]
def f27r1 : List SOper := [
 o 3 (.mv (t 0)),
 o 4 (.build [(.int .i64 0), (.int .i64 0), (.string ⟨#[]⟩), (.slice none 0 0)] [(0, 1), (2, 1)] [(i 2), (t 3)]),
 q (.st 4 (t 2) (t 4))]
def f27 : SCode := (.seq (.ops f27r0) (.seq (.ops f27r1) .ret))
def f27_ent : Ent := .code 5 f27 [.cn 2 4]
theorem f27_ok (oq : Nat → Value) (F : Nat → Prop) (h0 : Heap) : EntOK Tryz.prog oq F h0 27 f27_ent := ⟨soundD_of (fl := false) mixed Tryz.func27 rfl (by kernel_rfl) (by kernel_rfl) (by kernel_rfl), soundF_of (fl := false) mixed Tryz.func27 rfl (by kernel_rfl) (by kernel_rfl) (by kernel_rfl)⟩

/-! 34: slices.Concat[[]string,string] -/
def f34r0 : List SOper := [
 o 2 (.mv (.const (.slice none 0 0)))]
def f34r1 : List SOper := [
 o 3 (.mv (i 0))]
def f34r2 : List SOper := [
 o 9 (.mv (t 0)),
 o 10 (.len (t 9)),
 o 11 (.mv (i 0))]
def f34r3 : List SOper := [
 o 12 (.cmp .lss (t 11) (t 10))]
def f34r4 : List SOper := [
 o 13 (.ixs 1 (t 9) (t 11)),
 o 14 (.ld1 (t 13)),
 o 5 (.mv (t 14))]
def f34r5 : List SOper := [
 o 15 (.mv (t 3)),
 o 16 (.mv (t 5)),
 o 17 (.len (t 16)),
 o 18 (.ar .add (t 15) (t 17)),
 o 3 (.mv (t 18))]
def f34r6 : List SOper := [
 o 19 (.mv (t 3)),
 o 20 (.cmp .lss (t 19) (i 0))]
def f34r7 : List SOper := [
 o 21 (.mki 9 (.const (.string ⟨#[108, 101, 110, 32, 111, 117, 116, 32, 111, 102, 32, 114, 97, 110, 103, 101]⟩))),
 q (.pan (t 21))]
def f34r8 : List SOper := [
 o 22 (.ar .add (t 11) (i 1)),
 o 11 (.mv (t 22))]
def f34l9 : SCode := (.seq (.ops f34r3) (.seq (.cond (t 12) .skip (.exit 0)) (.seq (.block 1 (.seq (.ops f34r4) (.seq (.ops f34r5) (.seq (.ops f34r6) (.cond (t 20) (.ops f34r7) .skip))))) (.ops f34r8))))
def f34r10 : List SOper := [
 o 23 (.mv (t 3)),
 o 24 (.call 79 [(.const (.slice none 0 0)), (t 23)]),
 o 6 (.mv (t 24))]
def f34r11 : List SOper := [
 o 25 (.mv (t 0)),
 o 26 (.len (t 25)),
 o 27 (.mv (i 0))]
def f34r12 : List SOper := [
 o 28 (.cmp .lss (t 27) (t 26))]
def f34r13 : List SOper := [
 o 29 (.ixs 1 (t 25) (t 27)),
 o 30 (.ld1 (t 29)),
 o 8 (.mv (t 30))]
def f34r14 : List SOper := [
 o 31 (.mv (t 6)),
 o 32 (.mv (t 8)),
 o 33 (.app 1 16 [(.string ⟨#[]⟩)] (t 31) (t 32)),
 o 6 (.mv (t 33))]
def f34r15 : List SOper := [
 o 34 (.ar .add (t 27) (i 1)),
 o 27 (.mv (t 34))]
def f34l16 : SCode := (.seq (.ops f34r12) (.seq (.cond (t 28) .skip (.exit 2)) (.seq (.block 3 (.seq (.ops f34r13) (.ops f34r14))) (.ops f34r15))))
def f34r17 : List SOper := [
 o 35 (.mv (t 6)),
 o 2 (.mv (t 35))]
def f34 : SCode := (.seq (.ops f34r0) (.seq (.ops f34r1) (.seq (.seq (.ops f34r2) (.block 0 (.loop f34l9))) (.seq (.ops f34r10) (.seq (.seq (.ops f34r11) (.block 2 (.loop f34l16))) (.seq (.ops f34r17) .ret))))))
def f34_ent : Ent := .code 36 f34 [.t 2]
theorem f34_ok (oq : Nat → Value) (F : Nat → Prop) (h0 : Heap) : EntOK Tryz.prog oq F h0 34 f34_ent := ⟨soundD_of (fl := false) mixed Tryz.func34 rfl (by kernel_rfl) (by kernel_rfl) (by kernel_rfl), soundF_of (fl := false) mixed Tryz.func34 rfl (by kernel_rfl) (by kernel_rfl) (by kernel_rfl)⟩

/-! 37: tabor/basics.Do -/
def f37r0 : List SOper := [
 o 6 (.new [(.int .i64 0), (.int .i64 0), (.string ⟨#[]⟩), (.slice none 0 0)]),
 o 7 (.new [(.slice none 0 0)]),
 o 8 (.mv (b false))]
def f37r1 : List SOper := [
 o 11 (.mv (t 2)),
 o 12 (.len (t 11)),
 o 13 (.cmp .eql (t 12) (i 0)),
 o 14 (.mv (t 13)),
 n 15 14 (.mv (t 0)),
 n 16 14 (.call 24 [(t 15), (.const (.pointer none))]),
 o 17 (.pick (t 14) (b true) (t 16))]
def f37r2 : List SOper := [
 o 18 (.build [(.int .i64 0), (.int .i64 0), (.string ⟨#[]⟩), (.slice none 0 0)] [] []),
 q (.st 4 (t 6) (t 18)),
 q (.st 1 (t 7) (.const (.slice none 0 0))),
 o 8 (.mv (b false))]
def f37t3 : OTree := (.one (o 21 (.mv (t 2)))
 (.one (o 22 (.ixs 1 (t 21) (i 0)))
 (.one (o 23 (.ld1 (t 22)))
 (.one (o 20 (.call 81 []))
 (.chk [o 23 (.ld1 (t 22))] (.one (o 24 (.call 83 [(t 23)]))
 (.one (o 25 (.look .str .nilFunc true (t 20) (t 24)))
 (.one (o 19 (.mv (t 25)))
 (.one (o 26 (.ext (t 19) 0))
 (.one (o 27 (.ext (t 19) 1))
 (.one (o 9 (.mv (t 26)))
 (.one (o 8 (.mv (t 27)))
 .done))))))))))))
def f37r4 : List SOper := [
 o 28 (.mv (t 8)),
 o 29 (.un .not (t 28))]
def f37r5 : List SOper := [
 o 30 (.build [(.int .i64 0), (.int .i64 0), (.string ⟨#[]⟩), (.slice none 0 0)] [] []),
 q (.st 4 (t 6) (t 30)),
 q (.st 1 (t 7) (.const (.slice none 0 0))),
 o 8 (.mv (b false))]
def f37r6 : List SOper := [
 o 31 (.fn 84 [] [(t 6), (t 7)])]
def f37r7 : List SOper := [
 o 32 (.mv (t 0)),
 o 33 (.mv (t 1)),
 o 34 (.mv (t 2)),
 o 35 (.slc 1 (t 34) (some (i 1)) none),
 o 36 (.build [(.pointer none), (.int .i64 0), (.slice none 0 0), (.slice none 0 0)] [(0, 1), (1, 1), (2, 1)] [(t 32), (t 33), (t 35)]),
 o 37 (.box (t 36)),
 o 10 (.mv (t 37))]
def f37r8 : List SOper := [
 o 38 (.mv (t 9)),
 o 39 (.mv (t 10)),
 o 40 (.callv (t 38) [(t 39)]),
 q (.st 4 (t 6) (t 40))]
def f37t9 : OTree := (.one (o 41 (.ldn 4 (t 6)))
 (.one (o 42 (.mv (t 10)))
 (.one (o 43 (.nilck (t 42)))
 (.one (o 44 (.fa 3 (t 43)))
 (.one (o 45 (.ld1 (t 44)))
 (.one (q (.st 4 (t 6) (t 41)))
 (.chk [o 45 (.ld1 (t 44))] (.one (q (.st 1 (t 7) (t 45)))
 (.one (o 8 (.mv (b true)))
 .done)))))))))
def f37 : SCode := (.seq (.ops f37r0) (.seq (.seq (.ops f37r1) (.cond (t 17) (.seq (.ops f37r2) .ret) .skip)) (.seq (.tree [20, 21, 22, 23, 24, 25, 19, 26, 27, 9, 8] f37t3) (.seq (.seq (.ops f37r4) (.cond (t 29) (.seq (.ops f37r5) .ret) .skip)) (.seq (.dfr f37r6 none (t 31) []) (.seq (.ops f37r7) (.seq (.ops f37r8) (.seq (.tree [41, 42, 43, 44, 45, 8] f37t9) .ret))))))))
def f37_ent : Ent := .code 46 f37 [.cn 6 4, .c1 7, .t 8]
theorem f37_ok (oq : Nat → Value) (F : Nat → Prop) (h0 : Heap) : EntOK Tryz.prog oq F h0 37 f37_ent := ⟨soundD_of (fl := false) mixed Tryz.func37 rfl (by kernel_rfl) (by kernel_rfl) (by kernel_rfl), soundF_of (fl := false) mixed Tryz.func37 rfl (by kernel_rfl) (by kernel_rfl) (by kernel_rfl)⟩

/-! 38: slices.Collect[string] -/
def f38r0 : List SOper := [
 o 2 (.mv (.const (.slice none 0 0)))]
def f38r1 : List SOper := [
 o 3 (.mv (t 0)),
 o 4 (.call 85 [(.const (.slice none 0 0)), (t 3)]),
 o 2 (.mv (t 4))]
def f38 : SCode := (.seq (.ops f38r0) (.seq (.ops f38r1) .ret))
def f38_ent : Ent := .code 5 f38 [.t 2]
theorem f38_ok (oq : Nat → Value) (F : Nat → Prop) (h0 : Heap) : EntOK Tryz.prog oq F h0 38 f38_ent := ⟨soundD_of (fl := false) mixed Tryz.func38 rfl (by kernel_rfl) (by kernel_rfl) (by kernel_rfl), soundF_of (fl := false) mixed Tryz.func38 rfl (by kernel_rfl) (by kernel_rfl) (by kernel_rfl)⟩

/-! 39: slices.Sort[[]string,string] -/
def f39r0 : List SOper := [
 o 3 (.mv (t 0)),
 o 4 (.len (t 3)),
 o 2 (.mv (t 4))]
def f39r1 : List SOper := [
 o 5 (.mv (t 0)),
 o 6 (.mv (t 2)),
 o 7 (.mv (t 2)),
 o 8 (.cvt .u64 (t 7)),
 o 9 (.call 87 [(t 8)]),
 o 10 (.call 86 [(t 5), (i 0), (t 6), (t 9)])]
def f39 : SCode := (.seq (.ops f39r0) (.ops f39r1))
def f39_ent : Ent := .code 11 f39 []
theorem f39_ok (oq : Nat → Value) (F : Nat → Prop) (h0 : Heap) : EntOK Tryz.prog oq F h0 39 f39_ent := ⟨soundD_of (fl := false) mixed Tryz.func39 rfl (by kernel_rfl) (by kernel_rfl) (by kernel_rfl), soundF_of (fl := false) mixed Tryz.func39 rfl (by kernel_rfl) (by kernel_rfl) (by kernel_rfl)⟩

/-! 41: (*tabor/colls.asked).hset -/
def f41r0 : List SOper := [
 o 1 (.box (t 0)),
 o 2 (.new [(.int .i64 0), (.int .i64 0), (.string ⟨#[]⟩), (.slice none 0 0)])]
def f41r1 : List SOper := [
 o 6 (.ld1 (t 1)),
 o 7 (.call 88 [(t 6), (i 3), (i 65536)])]
def f41r2 : List SOper := [
 o 8 (.ld1 (t 1)),
 o 9 (.nilck (t 8)),
 o 10 (.fa 11 (t 9)),
 o 11 (.ld1 (t 10)),
 o 12 (.len (t 11)),
 o 13 (.rem (t 12) (i 2)),
 o 14 (.cmp .eql (t 13) (i 1)),
 o 15 (.call 89 [(t 14), (.const (.string ⟨#[69, 82, 82, 32, 97, 114, 103, 115]⟩))])]
def f41r3 : List SOper := [
 o 16 (.ld1 (t 1)),
 o 17 (.call 90 [(t 16), (i 2)])]
def f41r4 : List SOper := [
 o 3 (.mv (i 0))]
def f41r5 : List SOper := [
 o 18 (.fn 92 [] [(t 1)]),
 o 19 (.call 91 [(t 18)]),
 o 4 (.mv (t 19))]
def f41r6 : List SOper := [
 o 5 (.mv (i 1))]
def f41r7 : List SOper := [
 o 20 (.mv (t 5)),
 o 21 (.ld1 (t 1)),
 o 22 (.nilck (t 21)),
 o 23 (.fa 11 (t 22)),
 o 24 (.ld1 (t 23)),
 o 25 (.len (t 24)),
 o 26 (.cmp .lss (t 20) (t 25))]
def f41r8 : List SOper := [
 o 29 (.mv (t 4)),
 o 30 (.ld1 (t 1)),
 o 31 (.nilck (t 30)),
 o 32 (.fa 11 (t 31)),
 o 33 (.ld1 (t 32)),
 o 34 (.mv (t 5)),
 o 35 (.ixs 1 (t 33) (t 34)),
 o 36 (.ld1 (t 35)),
 o 37 (.callv (t 29) [(t 36)])]
def f41r9 : List SOper := [
 o 38 (.mv (t 3)),
 o 39 (.ar .add (t 38) (i 1)),
 o 3 (.mv (t 39))]
def f41r10 : List SOper := [
 o 40 (.ld1 (t 1)),
 o 41 (.ld1 (t 1)),
 o 42 (.nilck (t 41)),
 o 43 (.fa 11 (t 42)),
 o 44 (.ld1 (t 43)),
 o 45 (.mv (t 5)),
 o 46 (.ixs 1 (t 44) (t 45)),
 o 47 (.ld1 (t 46)),
 o 48 (.ld1 (t 1)),
 o 49 (.nilck (t 48)),
 o 50 (.fa 11 (t 49)),
 o 51 (.ld1 (t 50)),
 o 52 (.mv (t 5)),
 o 53 (.ar .add (t 52) (i 1)),
 o 54 (.ixs 1 (t 51) (t 53)),
 o 55 (.ld1 (t 54)),
 o 56 (.build [(.int .i64 0), (.string ⟨#[]⟩), (.string ⟨#[]⟩), (.string ⟨#[]⟩), (.int .i64 0)] [(0, 1), (2, 1), (3, 1)] [(i 5), (t 47), (t 55)]),
 o 57 (.ld1 (t 1)),
 o 58 (.nilck (t 57)),
 o 59 (.fa 0 (t 58)),
 o 60 (.fa 2 (t 59)),
 o 61 (.ld1 (t 60)),
 o 62 (.len (t 61)),
 o 63 (.mv (t 3)),
 o 64 (.ar .add (t 62) (t 63)),
 o 65 (.call 94 [(t 40), (t 56), (t 64)])]
def f41r11 : List SOper := [
 o 27 (.mv (t 5)),
 o 28 (.ar .add (t 27) (i 2)),
 o 5 (.mv (t 28))]
def f41l12 : SCode := (.seq (.seq (.ops f41r7) (.cond (t 26) .skip (.exit 0))) (.seq (.block 1 (.seq (.seq (.ops f41r8) (.cond (t 37) (.ops f41r9) .skip)) (.ops f41r10))) (.ops f41r11)))
def f41r13 : List SOper := [
 o 66 (.mv (t 3)),
 o 67 (.call 95 [(t 66)]),
 q (.st 4 (t 2) (t 67))]
def f41 : SCode := (.seq (.ops f41r0) (.seq (.ops f41r1) (.seq (.ops f41r2) (.seq (.ops f41r3) (.seq (.ops f41r4) (.seq (.ops f41r5) (.seq (.seq (.ops f41r6) (.block 0 (.loop f41l12))) (.seq (.ops f41r13) .ret))))))))
def f41_ent : Ent := .code 68 f41 [.cn 2 4]
theorem f41_ok (oq : Nat → Value) (F : Nat → Prop) (h0 : Heap) : EntOK Tryz.prog oq F h0 41 f41_ent := ⟨soundD_of (fl := false) mixed Tryz.func41 rfl (by kernel_rfl) (by kernel_rfl) (by kernel_rfl), soundF_of (fl := false) mixed Tryz.func41 rfl (by kernel_rfl) (by kernel_rfl) (by kernel_rfl)⟩

/-! 42: (*tabor/colls.asked).hget -/
def f42r0 : List SOper := [
 o 2 (.new [(.int .i64 0), (.int .i64 0), (.string ⟨#[]⟩), (.slice none 0 0)])]
def f42r1 : List SOper := [
 o 5 (.mv (t 0)),
 o 6 (.call 96 [(t 5), (i 2), (i 2), (i 2)])]
def f42r2 : List SOper := [
 o 8 (.mv (t 0)),
 o 9 (.mv (t 0)),
 o 10 (.nilck (t 9)),
 o 11 (.fa 11 (t 10)),
 o 12 (.ld1 (t 11)),
 o 13 (.ixs 1 (t 12) (i 1)),
 o 14 (.ld1 (t 13)),
 o 15 (.call 93 [(t 8), (t 14)]),
 o 7 (.mv (t 15)),
 o 16 (.ext (t 7) 0),
 o 17 (.ext (t 7) 1),
 o 3 (.mv (t 16)),
 o 4 (.mv (t 17))]
def f42r3 : List SOper := [
 o 18 (.mv (t 4)),
 o 19 (.un .not (t 18))]
def f42r4 : List SOper := [
 o 20 (.build [(.int .i64 0), (.int .i64 0), (.string ⟨#[]⟩), (.slice none 0 0)] [] []),
 q (.st 4 (t 2) (t 20))]
def f42r5 : List SOper := [
 o 21 (.mv (t 3)),
 o 22 (.call 97 [(t 21)]),
 q (.st 4 (t 2) (t 22))]
def f42 : SCode := (.seq (.ops f42r0) (.seq (.ops f42r1) (.seq (.ops f42r2) (.seq (.seq (.ops f42r3) (.cond (t 19) (.seq (.ops f42r4) .ret) .skip)) (.seq (.ops f42r5) .ret)))))
def f42_ent : Ent := .code 23 f42 [.cn 2 4]
theorem f42_ok (oq : Nat → Value) (F : Nat → Prop) (h0 : Heap) : EntOK Tryz.prog oq F h0 42 f42_ent := ⟨soundD_of (fl := false) mixed Tryz.func42 rfl (by kernel_rfl) (by kernel_rfl) (by kernel_rfl), soundF_of (fl := false) mixed Tryz.func42 rfl (by kernel_rfl) (by kernel_rfl) (by kernel_rfl)⟩

/-! 43: (*tabor/colls.asked).hdel -/
def f43r0 : List SOper := [
 o 1 (.box (t 0)),
 o 2 (.new [(.int .i64 0), (.int .i64 0), (.string ⟨#[]⟩), (.slice none 0 0)])]
def f43r1 : List SOper := [
 o 3 (.ld1 (t 1)),
 o 4 (.call 96 [(t 3), (i 2), (i 2), (i 65536)])]
def f43r2 : List SOper := [
 o 5 (.ld1 (t 1)),
 o 6 (.fn 99 [] [(t 1)]),
 o 7 (.call 98 [(t 5), (i 6), (t 6)]),
 q (.st 4 (t 2) (t 7))]
def f43 : SCode := (.seq (.ops f43r0) (.seq (.ops f43r1) (.seq (.ops f43r2) .ret)))
def f43_ent : Ent := .code 8 f43 [.cn 2 4]
theorem f43_ok (oq : Nat → Value) (F : Nat → Prop) (h0 : Heap) : EntOK Tryz.prog oq F h0 43 f43_ent := ⟨soundD_of (fl := false) mixed Tryz.func43 rfl (by kernel_rfl) (by kernel_rfl) (by kernel_rfl), soundF_of (fl := false) mixed Tryz.func43 rfl (by kernel_rfl) (by kernel_rfl) (by kernel_rfl)⟩

/-! 44: (*tabor/colls.asked).hlen -/
def f44r0 : List SOper := [
 o 2 (.new [(.int .i64 0), (.int .i64 0), (.string ⟨#[]⟩), (.slice none 0 0)])]
def f44r1 : List SOper := [
 o 3 (.mv (t 0)),
 o 4 (.call 96 [(t 3), (i 2), (i 1), (i 1)])]
def f44r2 : List SOper := [
 o 5 (.mv (t 0)),
 o 6 (.nilck (t 5)),
 o 7 (.fa 0 (t 6)),
 o 8 (.fa 2 (t 7)),
 o 9 (.ld1 (t 8)),
 o 10 (.len (t 9)),
 o 11 (.call 95 [(t 10)]),
 q (.st 4 (t 2) (t 11))]
def f44 : SCode := (.seq (.ops f44r0) (.seq (.ops f44r1) (.seq (.ops f44r2) .ret)))
def f44_ent : Ent := .code 12 f44 [.cn 2 4]
theorem f44_ok (oq : Nat → Value) (F : Nat → Prop) (h0 : Heap) : EntOK Tryz.prog oq F h0 44 f44_ent := ⟨soundD_of (fl := false) mixed Tryz.func44 rfl (by kernel_rfl) (by kernel_rfl) (by kernel_rfl), soundF_of (fl := false) mixed Tryz.func44 rfl (by kernel_rfl) (by kernel_rfl) (by kernel_rfl)⟩

/-! 45: (*tabor/colls.asked).hgetall -/
def f45r0 : List SOper := [
 o 2 (.new [(.int .i64 0), (.int .i64 0), (.string ⟨#[]⟩), (.slice none 0 0)])]
def f45r1 : List SOper := [
 o 3 (.mv (t 0)),
 o 4 (.call 96 [(t 3), (i 2), (i 1), (i 1)])]
def f45r2 : List SOper := [
 o 5 (.mv (t 0)),
 o 6 (.nilck (t 5)),
 o 7 (.fa 0 (t 6)),
 o 8 (.fa 2 (t 7)),
 o 9 (.ld1 (t 8)),
 o 10 (.call 100 [(t 9), (u 101)]),
 q (.st 4 (t 2) (t 10))]
def f45 : SCode := (.seq (.ops f45r0) (.seq (.ops f45r1) (.seq (.ops f45r2) .ret)))
def f45_ent : Ent := .code 11 f45 [.cn 2 4]
theorem f45_ok (oq : Nat → Value) (F : Nat → Prop) (h0 : Heap) : EntOK Tryz.prog oq F h0 45 f45_ent := ⟨soundD_of (fl := false) mixed Tryz.func45 rfl (by kernel_rfl) (by kernel_rfl) (by kernel_rfl), soundF_of (fl := false) mixed Tryz.func45 rfl (by kernel_rfl) (by kernel_rfl) (by kernel_rfl)⟩

/-! 46: (*tabor/colls.asked).hincrby -/
def f46r0 : List SOper := [
 o 2 (.new [(.int .i64 0), (.int .i64 0), (.string ⟨#[]⟩), (.slice none 0 0)])]
def f46r1 : List SOper := [
 o 9 (.mv (t 0)),
 o 10 (.call 88 [(t 9), (i 3), (i 3)])]
def f46r2 : List SOper := [
 o 11 (.mv (t 0)),
 o 12 (.call 102 [(t 11), (i 2)]),
 o 3 (.mv (t 12))]
def f46r3 : List SOper := [
 o 13 (.mv (t 0)),
 o 14 (.call 90 [(t 13), (i 2)])]
def f46r4 : List SOper := [
 o 16 (.mv (t 0)),
 o 17 (.mv (t 0)),
 o 18 (.nilck (t 17)),
 o 19 (.fa 11 (t 18)),
 o 20 (.ld1 (t 19)),
 o 21 (.ixs 1 (t 20) (i 1)),
 o 22 (.ld1 (t 21)),
 o 23 (.call 93 [(t 16), (t 22)]),
 o 15 (.mv (t 23)),
 o 24 (.ext (t 15) 0),
 o 25 (.ext (t 15) 1),
 o 4 (.mv (t 24)),
 o 5 (.mv (t 25))]
def f46r5 : List SOper := [
 o 26 (.mv (t 5)),
 o 27 (.un .not (t 26))]
def f46r6 : List SOper := [
 o 4 (.mv (.const (.string ⟨#[48]⟩)))]
def f46r7 : List SOper := [
 o 29 (.mv (t 4)),
 o 30 (.call 103 [(t 29)]),
 o 28 (.mv (t 30)),
 o 31 (.ext (t 28) 0),
 o 32 (.ext (t 28) 1),
 o 6 (.mv (t 31)),
 o 7 (.mv (t 32))]
def f46r8 : List SOper := [
 o 33 (.mv (t 7)),
 o 34 (.call 89 [(t 33), (.const (.string ⟨#[69, 82, 82, 32, 110, 117, 109, 98, 101, 114]⟩))])]
def f46r9 : List SOper := [
 o 35 (.mv (t 6)),
 o 36 (.mv (t 3)),
 o 37 (.call 104 [(t 35), (t 36)]),
 o 6 (.mv (t 37))]
def f46r10 : List SOper := [
 o 38 (.mv (t 0)),
 o 39 (.nilck (t 38)),
 o 40 (.fa 0 (t 39)),
 o 41 (.fa 2 (t 40)),
 o 42 (.ld1 (t 41)),
 o 43 (.len (t 42)),
 o 8 (.mv (t 43))]
def f46r11 : List SOper := [
 o 44 (.mv (t 5)),
 o 45 (.un .not (t 44))]
def f46r12 : List SOper := [
 o 46 (.mv (t 8)),
 o 47 (.ar .add (t 46) (i 1)),
 o 8 (.mv (t 47))]
def f46t13 : OTree := (.one (o 48 (.mv (t 0)))
 (.one (o 49 (.mv (t 0)))
 (.one (o 50 (.nilck (t 49)))
 (.one (o 51 (.fa 11 (t 50)))
 (.one (o 55 (.mv (t 6)))
 (.one (o 58 (.mv (t 8)))
 (.one (o 52 (.ld1 (t 51)))
 (.one (o 53 (.ixs 1 (t 52) (i 1)))
 (.chk [o 52 (.ld1 (t 51))] (.one (o 54 (.ld1 (t 53)))
 (.one (o 56 (.call 105 [(t 55), (i 10)]))
 (.chk [o 54 (.ld1 (t 53)), o 52 (.ld1 (t 51))] (.one (o 57 (.build [(.int .i64 0), (.string ⟨#[]⟩), (.string ⟨#[]⟩), (.string ⟨#[]⟩), (.int .i64 0)] [(0, 1), (2, 1), (3, 1)] [(i 5), (t 54), (t 56)]))
 (.chk [o 54 (.ld1 (t 53)), o 52 (.ld1 (t 51))] (.one (o 59 (.call 94 [(t 48), (t 57), (t 58)]))
 .done)))))))))))))))
def f46r14 : List SOper := [
 o 60 (.mv (t 6)),
 o 61 (.call 95 [(t 60)]),
 q (.st 4 (t 2) (t 61))]
def f46 : SCode := (.seq (.ops f46r0) (.seq (.ops f46r1) (.seq (.ops f46r2) (.seq (.ops f46r3) (.seq (.ops f46r4) (.seq (.seq (.ops f46r5) (.cond (t 27) (.ops f46r6) .skip)) (.seq (.ops f46r7) (.seq (.ops f46r8) (.seq (.ops f46r9) (.seq (.ops f46r10) (.seq (.seq (.ops f46r11) (.cond (t 45) (.ops f46r12) .skip)) (.seq (.tree [48, 49, 50, 51, 52, 53, 54, 55, 56, 57, 58, 59] f46t13) (.seq (.ops f46r14) .ret)))))))))))))
def f46_ent : Ent := .code 62 f46 [.cn 2 4]
theorem f46_ok (oq : Nat → Value) (F : Nat → Prop) (h0 : Heap) : EntOK Tryz.prog oq F h0 46 f46_ent := ⟨soundD_of (fl := false) mixed Tryz.func46 rfl (by kernel_rfl) (by kernel_rfl) (by kernel_rfl), soundF_of (fl := false) mixed Tryz.func46 rfl (by kernel_rfl) (by kernel_rfl) (by kernel_rfl)⟩

/-! 47: (*tabor/colls.asked).lpush -/
def f47r0 : List SOper := [
 o 2 (.new [(.int .i64 0), (.int .i64 0), (.string ⟨#[]⟩), (.slice none 0 0)])]
def f47r1 : List SOper := [
 o 3 (.mv (t 0)),
 o 4 (.call 106 [(t 3), (i 7)]),
 q (.st 4 (t 2) (t 4))]
def f47 : SCode := (.seq (.ops f47r0) (.seq (.ops f47r1) .ret))
def f47_ent : Ent := .code 5 f47 [.cn 2 4]
theorem f47_ok (oq : Nat → Value) (F : Nat → Prop) (h0 : Heap) : EntOK Tryz.prog oq F h0 47 f47_ent := ⟨soundD_of (fl := false) mixed Tryz.func47 rfl (by kernel_rfl) (by kernel_rfl) (by kernel_rfl), soundF_of (fl := false) mixed Tryz.func47 rfl (by kernel_rfl) (by kernel_rfl) (by kernel_rfl)⟩

/-! 48: (*tabor/colls.asked).rpush -/
def f48r0 : List SOper := [
 o 2 (.new [(.int .i64 0), (.int .i64 0), (.string ⟨#[]⟩), (.slice none 0 0)])]
def f48r1 : List SOper := [
 o 3 (.mv (t 0)),
 o 4 (.call 106 [(t 3), (i 8)]),
 q (.st 4 (t 2) (t 4))]
def f48 : SCode := (.seq (.ops f48r0) (.seq (.ops f48r1) .ret))
def f48_ent : Ent := .code 5 f48 [.cn 2 4]
theorem f48_ok (oq : Nat → Value) (F : Nat → Prop) (h0 : Heap) : EntOK Tryz.prog oq F h0 48 f48_ent := ⟨soundD_of (fl := false) mixed Tryz.func48 rfl (by kernel_rfl) (by kernel_rfl) (by kernel_rfl), soundF_of (fl := false) mixed Tryz.func48 rfl (by kernel_rfl) (by kernel_rfl) (by kernel_rfl)⟩

/-! 49: (*tabor/colls.asked).lpop -/
def f49r0 : List SOper := [
 o 2 (.new [(.int .i64 0), (.int .i64 0), (.string ⟨#[]⟩), (.slice none 0 0)])]
def f49r1 : List SOper := [
 o 3 (.mv (t 0)),
 o 4 (.call 107 [(t 3), (i 9), (i 0)]),
 q (.st 4 (t 2) (t 4))]
def f49 : SCode := (.seq (.ops f49r0) (.seq (.ops f49r1) .ret))
def f49_ent : Ent := .code 5 f49 [.cn 2 4]
theorem f49_ok (oq : Nat → Value) (F : Nat → Prop) (h0 : Heap) : EntOK Tryz.prog oq F h0 49 f49_ent := ⟨soundD_of (fl := false) mixed Tryz.func49 rfl (by kernel_rfl) (by kernel_rfl) (by kernel_rfl), soundF_of (fl := false) mixed Tryz.func49 rfl (by kernel_rfl) (by kernel_rfl) (by kernel_rfl)⟩

/-! 50: (*tabor/colls.asked).rpop -/
def f50r0 : List SOper := [
 o 2 (.new [(.int .i64 0), (.int .i64 0), (.string ⟨#[]⟩), (.slice none 0 0)])]
def f50r1 : List SOper := [
 o 3 (.mv (t 0)),
 o 4 (.call 107 [(t 3), (i 10), (i (-1))]),
 q (.st 4 (t 2) (t 4))]
def f50 : SCode := (.seq (.ops f50r0) (.seq (.ops f50r1) .ret))
def f50_ent : Ent := .code 5 f50 [.cn 2 4]
theorem f50_ok (oq : Nat → Value) (F : Nat → Prop) (h0 : Heap) : EntOK Tryz.prog oq F h0 50 f50_ent := ⟨soundD_of (fl := false) mixed Tryz.func50 rfl (by kernel_rfl) (by kernel_rfl) (by kernel_rfl), soundF_of (fl := false) mixed Tryz.func50 rfl (by kernel_rfl) (by kernel_rfl) (by kernel_rfl)⟩

/-! 51: (*tabor/colls.asked).llen -/
def f51r0 : List SOper := [
 o 2 (.new [(.int .i64 0), (.int .i64 0), (.string ⟨#[]⟩), (.slice none 0 0)])]
def f51r1 : List SOper := [
 o 3 (.mv (t 0)),
 o 4 (.call 96 [(t 3), (i 3), (i 1), (i 1)])]
def f51r2 : List SOper := [
 o 5 (.mv (t 0)),
 o 6 (.nilck (t 5)),
 o 7 (.fa 0 (t 6)),
 o 8 (.fa 3 (t 7)),
 o 9 (.ld1 (t 8)),
 o 10 (.len (t 9)),
 o 11 (.call 95 [(t 10)]),
 q (.st 4 (t 2) (t 11))]
def f51 : SCode := (.seq (.ops f51r0) (.seq (.ops f51r1) (.seq (.ops f51r2) .ret)))
def f51_ent : Ent := .code 12 f51 [.cn 2 4]
theorem f51_ok (oq : Nat → Value) (F : Nat → Prop) (h0 : Heap) : EntOK Tryz.prog oq F h0 51 f51_ent := ⟨soundD_of (fl := false) mixed Tryz.func51 rfl (by kernel_rfl) (by kernel_rfl) (by kernel_rfl), soundF_of (fl := false) mixed Tryz.func51 rfl (by kernel_rfl) (by kernel_rfl) (by kernel_rfl)⟩

/-! 52: (*tabor/colls.asked).lindex -/
def f52r0 : List SOper := [
 o 2 (.new [(.int .i64 0), (.int .i64 0), (.string ⟨#[]⟩), (.slice none 0 0)])]
def f52r1 : List SOper := [
 o 6 (.mv (t 0)),
 o 7 (.call 88 [(t 6), (i 2), (i 2)])]
def f52r2 : List SOper := [
 o 8 (.mv (t 0)),
 o 9 (.call 102 [(t 8), (i 1)]),
 o 3 (.mv (t 9))]
def f52r3 : List SOper := [
 o 10 (.mv (t 0)),
 o 11 (.call 90 [(t 10), (i 3)])]
def f52r4 : List SOper := [
 o 13 (.mv (t 0)),
 o 14 (.nilck (t 13)),
 o 15 (.fa 0 (t 14)),
 o 16 (.fa 3 (t 15)),
 o 17 (.ld1 (t 16)),
 o 18 (.len (t 17)),
 o 19 (.mv (t 3)),
 o 20 (.call 108 [(t 18), (t 19)]),
 o 12 (.mv (t 20)),
 o 21 (.ext (t 12) 0),
 o 22 (.ext (t 12) 1),
 o 4 (.mv (t 21)),
 o 5 (.mv (t 22))]
def f52r5 : List SOper := [
 o 23 (.mv (t 5)),
 o 24 (.un .not (t 23))]
def f52r6 : List SOper := [
 o 25 (.build [(.int .i64 0), (.int .i64 0), (.string ⟨#[]⟩), (.slice none 0 0)] [] []),
 q (.st 4 (t 2) (t 25))]
def f52r7 : List SOper := [
 o 26 (.mv (t 0)),
 o 27 (.nilck (t 26)),
 o 28 (.fa 0 (t 27)),
 o 29 (.fa 3 (t 28)),
 o 30 (.ld1 (t 29)),
 o 31 (.mv (t 4)),
 o 32 (.ixs 1 (t 30) (t 31)),
 o 33 (.ld1 (t 32)),
 o 34 (.call 97 [(t 33)]),
 q (.st 4 (t 2) (t 34))]
def f52 : SCode := (.seq (.ops f52r0) (.seq (.ops f52r1) (.seq (.ops f52r2) (.seq (.ops f52r3) (.seq (.ops f52r4) (.seq (.seq (.ops f52r5) (.cond (t 24) (.seq (.ops f52r6) .ret) .skip)) (.seq (.ops f52r7) .ret)))))))
def f52_ent : Ent := .code 35 f52 [.cn 2 4]
theorem f52_ok (oq : Nat → Value) (F : Nat → Prop) (h0 : Heap) : EntOK Tryz.prog oq F h0 52 f52_ent := ⟨soundD_of (fl := false) mixed Tryz.func52 rfl (by kernel_rfl) (by kernel_rfl) (by kernel_rfl), soundF_of (fl := false) mixed Tryz.func52 rfl (by kernel_rfl) (by kernel_rfl) (by kernel_rfl)⟩

/-! 53: (*tabor/colls.asked).lrange -/
def f53r0 : List SOper := [
 o 2 (.new [(.int .i64 0), (.int .i64 0), (.string ⟨#[]⟩), (.slice none 0 0)])]
def f53r1 : List SOper := [
 o 7 (.mv (t 0)),
 o 8 (.call 88 [(t 7), (i 3), (i 3)])]
def f53r2 : List SOper := [
 o 9 (.mv (t 0)),
 o 10 (.call 102 [(t 9), (i 1)]),
 o 11 (.mv (t 0)),
 o 12 (.call 102 [(t 11), (i 2)]),
 o 3 (.mv (t 10)),
 o 4 (.mv (t 12))]
def f53r3 : List SOper := [
 o 13 (.mv (t 0)),
 o 14 (.call 90 [(t 13), (i 3)])]
def f53r4 : List SOper := [
 o 16 (.mv (t 0)),
 o 17 (.nilck (t 16)),
 o 18 (.fa 0 (t 17)),
 o 19 (.fa 3 (t 18)),
 o 20 (.ld1 (t 19)),
 o 21 (.len (t 20)),
 o 22 (.mv (t 3)),
 o 23 (.mv (t 4)),
 o 24 (.call 109 [(t 21), (t 22), (t 23)]),
 o 15 (.mv (t 24)),
 o 25 (.ext (t 15) 0),
 o 26 (.ext (t 15) 1),
 o 5 (.mv (t 25)),
 o 6 (.mv (t 26))]
def f53r5 : List SOper := [
 o 27 (.mv (t 0)),
 o 28 (.nilck (t 27)),
 o 29 (.fa 0 (t 28)),
 o 30 (.fa 3 (t 29)),
 o 31 (.ld1 (t 30)),
 o 32 (.mv (t 5)),
 o 33 (.mv (t 6)),
 o 34 (.slc 1 (t 31) (some (t 32)) (some (t 33))),
 o 35 (.call 110 [(t 34), (u 111)]),
 q (.st 4 (t 2) (t 35))]
def f53 : SCode := (.seq (.ops f53r0) (.seq (.ops f53r1) (.seq (.ops f53r2) (.seq (.ops f53r3) (.seq (.ops f53r4) (.seq (.ops f53r5) .ret))))))
def f53_ent : Ent := .code 36 f53 [.cn 2 4]
theorem f53_ok (oq : Nat → Value) (F : Nat → Prop) (h0 : Heap) : EntOK Tryz.prog oq F h0 53 f53_ent := ⟨soundD_of (fl := false) mixed Tryz.func53 rfl (by kernel_rfl) (by kernel_rfl) (by kernel_rfl), soundF_of (fl := false) mixed Tryz.func53 rfl (by kernel_rfl) (by kernel_rfl) (by kernel_rfl)⟩

/-! 54: (*tabor/colls.asked).lset -/
def f54r0 : List SOper := [
 o 2 (.new [(.int .i64 0), (.int .i64 0), (.string ⟨#[]⟩), (.slice none 0 0)])]
def f54r1 : List SOper := [
 o 6 (.mv (t 0)),
 o 7 (.call 88 [(t 6), (i 3), (i 3)])]
def f54r2 : List SOper := [
 o 8 (.mv (t 0)),
 o 9 (.call 102 [(t 8), (i 1)]),
 o 3 (.mv (t 9))]
def f54r3 : List SOper := [
 o 10 (.mv (t 0)),
 o 11 (.call 90 [(t 10), (i 3)])]
def f54r4 : List SOper := [
 o 13 (.mv (t 0)),
 o 14 (.nilck (t 13)),
 o 15 (.fa 0 (t 14)),
 o 16 (.fa 3 (t 15)),
 o 17 (.ld1 (t 16)),
 o 18 (.len (t 17)),
 o 19 (.mv (t 3)),
 o 20 (.call 108 [(t 18), (t 19)]),
 o 12 (.mv (t 20)),
 o 21 (.ext (t 12) 0),
 o 22 (.ext (t 12) 1),
 o 4 (.mv (t 21)),
 o 5 (.mv (t 22))]
def f54r5 : List SOper := [
 o 23 (.mv (t 5)),
 o 24 (.call 89 [(t 23), (.const (.string ⟨#[69, 82, 82, 32, 114, 97, 110, 103, 101]⟩))])]
def f54r6 : List SOper := [
 o 25 (.mv (t 0)),
 o 26 (.mv (t 4)),
 o 27 (.mv (t 0)),
 o 28 (.nilck (t 27)),
 o 29 (.fa 11 (t 28)),
 o 30 (.ld1 (t 29)),
 o 31 (.ixs 1 (t 30) (i 2)),
 o 32 (.ld1 (t 31)),
 o 33 (.build [(.int .i64 0), (.string ⟨#[]⟩), (.string ⟨#[]⟩), (.string ⟨#[]⟩), (.int .i64 0)] [(0, 1), (4, 1), (3, 1)] [(i 11), (t 26), (t 32)]),
 o 34 (.mv (t 0)),
 o 35 (.nilck (t 34)),
 o 36 (.fa 0 (t 35)),
 o 37 (.fa 3 (t 36)),
 o 38 (.ld1 (t 37)),
 o 39 (.len (t 38)),
 o 40 (.call 94 [(t 25), (t 33), (t 39)])]
def f54r7 : List SOper := [
 o 41 (.build [(.int .i64 0), (.int .i64 0), (.string ⟨#[]⟩), (.slice none 0 0)] [(0, 1), (2, 1)] [(i 1), (.const (.string ⟨#[79, 75]⟩))]),
 q (.st 4 (t 2) (t 41))]
def f54 : SCode := (.seq (.ops f54r0) (.seq (.ops f54r1) (.seq (.ops f54r2) (.seq (.ops f54r3) (.seq (.ops f54r4) (.seq (.ops f54r5) (.seq (.ops f54r6) (.seq (.ops f54r7) .ret))))))))
def f54_ent : Ent := .code 42 f54 [.cn 2 4]
theorem f54_ok (oq : Nat → Value) (F : Nat → Prop) (h0 : Heap) : EntOK Tryz.prog oq F h0 54 f54_ent := ⟨soundD_of (fl := false) mixed Tryz.func54 rfl (by kernel_rfl) (by kernel_rfl) (by kernel_rfl), soundF_of (fl := false) mixed Tryz.func54 rfl (by kernel_rfl) (by kernel_rfl) (by kernel_rfl)⟩

/-! 55: (*tabor/colls.asked).sadd -/
def f55r0 : List SOper := [
 o 2 (.new [(.int .i64 0), (.int .i64 0), (.string ⟨#[]⟩), (.slice none 0 0)])]
def f55r1 : List SOper := [
 o 7 (.mv (t 0)),
 o 8 (.call 96 [(t 7), (i 4), (i 2), (i 65536)])]
def f55r2 : List SOper := [
 o 3 (.mv (i 0))]
def f55r3 : List SOper := [
 o 9 (.mv (t 0)),
 o 10 (.fn 112 [(t 9)] []),
 o 11 (.call 91 [(t 10)]),
 o 4 (.mv (t 11))]
def f55r4 : List SOper := [
 o 12 (.mv (t 0)),
 o 13 (.nilck (t 12)),
 o 14 (.fa 11 (t 13)),
 o 15 (.ld1 (t 14)),
 o 16 (.slc 1 (t 15) (some (i 1)) none),
 o 17 (.len (t 16)),
 o 18 (.mv (i 0))]
def f55r5 : List SOper := [
 o 19 (.cmp .lss (t 18) (t 17))]
def f55r6 : List SOper := [
 o 20 (.ixs 1 (t 16) (t 18)),
 o 21 (.ld1 (t 20)),
 o 6 (.mv (t 21))]
def f55r7 : List SOper := [
 o 22 (.mv (t 4)),
 o 23 (.mv (t 6)),
 o 24 (.callv (t 22) [(t 23)])]
def f55r8 : List SOper := [
 o 25 (.mv (t 3)),
 o 26 (.ar .add (t 25) (i 1)),
 o 3 (.mv (t 26))]
def f55r9 : List SOper := [
 o 27 (.mv (t 0)),
 o 28 (.mv (t 6)),
 o 29 (.build [(.int .i64 0), (.string ⟨#[]⟩), (.string ⟨#[]⟩), (.string ⟨#[]⟩), (.int .i64 0)] [(0, 1), (2, 1)] [(i 12), (t 28)]),
 o 30 (.mv (t 0)),
 o 31 (.nilck (t 30)),
 o 32 (.fa 0 (t 31)),
 o 33 (.fa 3 (t 32)),
 o 34 (.ld1 (t 33)),
 o 35 (.len (t 34)),
 o 36 (.mv (t 3)),
 o 37 (.ar .add (t 35) (t 36)),
 o 38 (.call 94 [(t 27), (t 29), (t 37)])]
def f55r10 : List SOper := [
 o 39 (.ar .add (t 18) (i 1)),
 o 18 (.mv (t 39))]
def f55l11 : SCode := (.seq (.ops f55r5) (.seq (.cond (t 19) .skip (.exit 0)) (.seq (.block 1 (.seq (.ops f55r6) (.seq (.ops f55r7) (.cond (t 24) (.seq (.ops f55r8) (.ops f55r9)) .skip)))) (.ops f55r10))))
def f55r12 : List SOper := [
 o 40 (.mv (t 3)),
 o 41 (.call 95 [(t 40)]),
 q (.st 4 (t 2) (t 41))]
def f55 : SCode := (.seq (.ops f55r0) (.seq (.ops f55r1) (.seq (.ops f55r2) (.seq (.ops f55r3) (.seq (.seq (.ops f55r4) (.block 0 (.loop f55l11))) (.seq (.ops f55r12) .ret))))))
def f55_ent : Ent := .code 42 f55 [.cn 2 4]
theorem f55_ok (oq : Nat → Value) (F : Nat → Prop) (h0 : Heap) : EntOK Tryz.prog oq F h0 55 f55_ent := ⟨soundD_of (fl := false) mixed Tryz.func55 rfl (by kernel_rfl) (by kernel_rfl) (by kernel_rfl), soundF_of (fl := false) mixed Tryz.func55 rfl (by kernel_rfl) (by kernel_rfl) (by kernel_rfl)⟩

/-! 56: (*tabor/colls.asked).srem -/
def f56r0 : List SOper := [
 o 2 (.new [(.int .i64 0), (.int .i64 0), (.string ⟨#[]⟩), (.slice none 0 0)])]
def f56r1 : List SOper := [
 o 3 (.mv (t 0)),
 o 4 (.call 96 [(t 3), (i 4), (i 2), (i 65536)])]
def f56r2 : List SOper := [
 o 5 (.mv (t 0)),
 o 6 (.mv (t 0)),
 o 7 (.fn 112 [(t 6)] []),
 o 8 (.call 98 [(t 5), (i 13), (t 7)]),
 q (.st 4 (t 2) (t 8))]
def f56 : SCode := (.seq (.ops f56r0) (.seq (.ops f56r1) (.seq (.ops f56r2) .ret)))
def f56_ent : Ent := .code 9 f56 [.cn 2 4]
theorem f56_ok (oq : Nat → Value) (F : Nat → Prop) (h0 : Heap) : EntOK Tryz.prog oq F h0 56 f56_ent := ⟨soundD_of (fl := false) mixed Tryz.func56 rfl (by kernel_rfl) (by kernel_rfl) (by kernel_rfl), soundF_of (fl := false) mixed Tryz.func56 rfl (by kernel_rfl) (by kernel_rfl) (by kernel_rfl)⟩

/-! 57: (*tabor/colls.asked).sismember -/
def f57r0 : List SOper := [
 o 2 (.new [(.int .i64 0), (.int .i64 0), (.string ⟨#[]⟩), (.slice none 0 0)])]
def f57r1 : List SOper := [
 o 3 (.mv (t 0)),
 o 4 (.call 96 [(t 3), (i 4), (i 2), (i 2)])]
def f57r2 : List SOper := [
 o 5 (.mv (t 0)),
 o 6 (.mv (t 0)),
 o 7 (.nilck (t 6)),
 o 8 (.fa 11 (t 7)),
 o 9 (.ld1 (t 8)),
 o 10 (.ixs 1 (t 9) (i 1)),
 o 11 (.ld1 (t 10)),
 o 12 (.call 112 [(t 5), (t 11)]),
 o 13 (.call 113 [(t 12)]),
 q (.st 4 (t 2) (t 13))]
def f57 : SCode := (.seq (.ops f57r0) (.seq (.ops f57r1) (.seq (.ops f57r2) .ret)))
def f57_ent : Ent := .code 14 f57 [.cn 2 4]
theorem f57_ok (oq : Nat → Value) (F : Nat → Prop) (h0 : Heap) : EntOK Tryz.prog oq F h0 57 f57_ent := ⟨soundD_of (fl := false) mixed Tryz.func57 rfl (by kernel_rfl) (by kernel_rfl) (by kernel_rfl), soundF_of (fl := false) mixed Tryz.func57 rfl (by kernel_rfl) (by kernel_rfl) (by kernel_rfl)⟩

/-! 58: (*tabor/colls.asked).scard -/
def f58r0 : List SOper := [
 o 2 (.new [(.int .i64 0), (.int .i64 0), (.string ⟨#[]⟩), (.slice none 0 0)])]
def f58r1 : List SOper := [
 o 3 (.mv (t 0)),
 o 4 (.call 96 [(t 3), (i 4), (i 1), (i 1)])]
def f58r2 : List SOper := [
 o 5 (.mv (t 0)),
 o 6 (.nilck (t 5)),
 o 7 (.fa 0 (t 6)),
 o 8 (.fa 3 (t 7)),
 o 9 (.ld1 (t 8)),
 o 10 (.len (t 9)),
 o 11 (.call 95 [(t 10)]),
 q (.st 4 (t 2) (t 11))]
def f58 : SCode := (.seq (.ops f58r0) (.seq (.ops f58r1) (.seq (.ops f58r2) .ret)))
def f58_ent : Ent := .code 12 f58 [.cn 2 4]
theorem f58_ok (oq : Nat → Value) (F : Nat → Prop) (h0 : Heap) : EntOK Tryz.prog oq F h0 58 f58_ent := ⟨soundD_of (fl := false) mixed Tryz.func58 rfl (by kernel_rfl) (by kernel_rfl) (by kernel_rfl), soundF_of (fl := false) mixed Tryz.func58 rfl (by kernel_rfl) (by kernel_rfl) (by kernel_rfl)⟩

/-! 59: (*tabor/colls.asked).smembers -/
def f59r0 : List SOper := [
 o 2 (.new [(.int .i64 0), (.int .i64 0), (.string ⟨#[]⟩), (.slice none 0 0)])]
def f59r1 : List SOper := [
 o 3 (.mv (t 0)),
 o 4 (.call 96 [(t 3), (i 4), (i 1), (i 1)])]
def f59r2 : List SOper := [
 o 5 (.mv (t 0)),
 o 6 (.nilck (t 5)),
 o 7 (.fa 0 (t 6)),
 o 8 (.fa 3 (t 7)),
 o 9 (.ld1 (t 8)),
 o 10 (.call 110 [(t 9), (u 111)]),
 q (.st 4 (t 2) (t 10))]
def f59 : SCode := (.seq (.ops f59r0) (.seq (.ops f59r1) (.seq (.ops f59r2) .ret)))
def f59_ent : Ent := .code 11 f59 [.cn 2 4]
theorem f59_ok (oq : Nat → Value) (F : Nat → Prop) (h0 : Heap) : EntOK Tryz.prog oq F h0 59 f59_ent := ⟨soundD_of (fl := false) mixed Tryz.func59 rfl (by kernel_rfl) (by kernel_rfl) (by kernel_rfl), soundF_of (fl := false) mixed Tryz.func59 rfl (by kernel_rfl) (by kernel_rfl) (by kernel_rfl)⟩

/-! 60: (*tabor/colls.asked).sinter -/
def f60r0 : List SOper := [
 o 2 (.new [(.int .i64 0), (.int .i64 0), (.string ⟨#[]⟩), (.slice none 0 0)])]
def f60r1 : List SOper := [
 o 11 (.mv (t 0)),
 o 12 (.call 88 [(t 11), (i 1), (i 65536)])]
def f60r2 : List SOper := [
 o 13 (.mkm),
 o 3 (.mv (t 13))]
def f60r3 : List SOper := [
 o 14 (.mv (t 0)),
 o 15 (.nilck (t 14)),
 o 16 (.fa 11 (t 15)),
 o 17 (.ld1 (t 16)),
 o 18 (.len (t 17)),
 o 19 (.mv (i 0))]
def f60r4 : List SOper := [
 o 20 (.cmp .lss (t 19) (t 18))]
def f60r5 : List SOper := [
 o 21 (.mv (t 19)),
 o 22 (.ixs 1 (t 17) (t 19)),
 o 23 (.ld1 (t 22)),
 o 4 (.mv (t 21)),
 o 5 (.mv (t 23))]
def f60r6 : List SOper := [
 o 24 (.mv (t 0)),
 o 25 (.mv (t 5)),
 o 26 (.nilck (t 24)),
 o 27 (.fa 10 (t 26)),
 q (.st 1 (t 27) (t 25))]
def f60r7 : List SOper := [
 o 28 (.mv (t 0)),
 o 29 (.call 90 [(t 28), (i 4)])]
def f60r8 : List SOper := [
 o 30 (.mv (t 0)),
 o 31 (.nilck (t 30)),
 o 32 (.fa 0 (t 31)),
 o 33 (.fa 3 (t 32)),
 o 34 (.ld1 (t 33)),
 o 35 (.len (t 34)),
 o 36 (.mv (i 0))]
def f60r9 : List SOper := [
 o 37 (.cmp .lss (t 36) (t 35))]
def f60r10 : List SOper := [
 o 38 (.ixs 1 (t 34) (t 36)),
 o 39 (.ld1 (t 38)),
 o 7 (.mv (t 39))]
def f60r11 : List SOper := [
 o 40 (.mv (t 3)),
 o 41 (.mv (t 7)),
 o 42 (.look .str (.int .i64 0) false (t 40) (t 41)),
 o 43 (.mv (t 4)),
 o 44 (.cmp .eql (t 42) (t 43))]
def f60r12 : List SOper := [
 o 45 (.mv (t 3)),
 o 46 (.mv (t 7)),
 o 47 (.look .str (.int .i64 0) false (t 45) (t 46)),
 o 48 (.ar .add (t 47) (i 1)),
 q (.mup .str (t 45) (t 46) (t 48))]
def f60r13 : List SOper := [
 o 49 (.ar .add (t 36) (i 1)),
 o 36 (.mv (t 49))]
def f60l14 : SCode := (.seq (.ops f60r9) (.seq (.cond (t 37) .skip (.exit 2)) (.seq (.block 3 (.seq (.ops f60r10) (.seq (.ops f60r11) (.cond (t 44) (.ops f60r12) .skip)))) (.ops f60r13))))
def f60r15 : List SOper := [
 o 50 (.ar .add (t 19) (i 1)),
 o 19 (.mv (t 50))]
def f60l16 : SCode := (.seq (.ops f60r4) (.seq (.cond (t 20) .skip (.exit 0)) (.seq (.block 1 (.seq (.ops f60r5) (.seq (.ops f60r6) (.seq (.ops f60r7) (.seq (.ops f60r8) (.block 2 (.loop f60l14))))))) (.ops f60r15))))
def f60r17 : List SOper := [
 o 8 (.mv (.const (.slice none 0 0)))]
def f60r18 : List SOper := [
 o 51 (.mv (t 3)),
 o 52 (.call 36 [(t 51)]),
 o 53 (.call 21 [(t 52)]),
 o 54 (.len (t 53)),
 o 55 (.mv (i 0))]
def f60r19 : List SOper := [
 o 56 (.cmp .lss (t 55) (t 54))]
def f60r20 : List SOper := [
 o 57 (.ixs 1 (t 53) (t 55)),
 o 58 (.ld1 (t 57)),
 o 10 (.mv (t 58))]
def f60r21 : List SOper := [
 o 59 (.mv (t 3)),
 o 60 (.mv (t 10)),
 o 61 (.look .str (.int .i64 0) false (t 59) (t 60)),
 o 62 (.mv (t 0)),
 o 63 (.nilck (t 62)),
 o 64 (.fa 11 (t 63)),
 o 65 (.ld1 (t 64)),
 o 66 (.len (t 65)),
 o 67 (.cmp .eql (t 61) (t 66))]
def f60r22 : List SOper := [
 o 68 (.mv (t 8)),
 o 69 (.mv (t 10)),
 o 70 (.bslice [(.string ⟨#[]⟩)] 1 [(0, 1)] [(t 69)]),
 o 71 (.app 1 16 [(.string ⟨#[]⟩)] (t 68) (t 70)),
 o 8 (.mv (t 71))]
def f60r23 : List SOper := [
 o 72 (.ar .add (t 55) (i 1)),
 o 55 (.mv (t 72))]
def f60l24 : SCode := (.seq (.ops f60r19) (.seq (.cond (t 56) .skip (.exit 4)) (.seq (.block 5 (.seq (.ops f60r20) (.seq (.ops f60r21) (.cond (t 67) (.ops f60r22) .skip)))) (.ops f60r23))))
def f60r25 : List SOper := [
 o 73 (.mv (t 8)),
 o 74 (.call 110 [(t 73), (u 111)]),
 q (.st 4 (t 2) (t 74))]
def f60 : SCode := (.seq (.ops f60r0) (.seq (.ops f60r1) (.seq (.ops f60r2) (.seq (.seq (.ops f60r3) (.block 0 (.loop f60l16))) (.seq (.ops f60r17) (.seq (.seq (.ops f60r18) (.block 4 (.loop f60l24))) (.seq (.ops f60r25) .ret)))))))
def f60_ent : Ent := .code 75 f60 [.cn 2 4]
theorem f60_ok (oq : Nat → Value) (F : Nat → Prop) (h0 : Heap) : EntOK Tryz.prog oq F h0 60 f60_ent := ⟨soundD_of (fl := false) mixed Tryz.func60 rfl (by kernel_rfl) (by kernel_rfl) (by kernel_rfl), soundF_of (fl := false) mixed Tryz.func60 rfl (by kernel_rfl) (by kernel_rfl) (by kernel_rfl)⟩

/-! 61: (*tabor/colls.asked).zadd -/
def f61r0 : List SOper := [
 o 1 (.box (t 0)),
 o 2 (.new [(.int .i64 0), (.int .i64 0), (.string ⟨#[]⟩), (.slice none 0 0)])]
def f61r1 : List SOper := [
 o 6 (.ld1 (t 1)),
 o 7 (.call 88 [(t 6), (i 3), (i 65536)])]
def f61r2 : List SOper := [
 o 8 (.ld1 (t 1)),
 o 9 (.nilck (t 8)),
 o 10 (.fa 11 (t 9)),
 o 11 (.ld1 (t 10)),
 o 12 (.len (t 11)),
 o 13 (.rem (t 12) (i 2)),
 o 14 (.cmp .eql (t 13) (i 1)),
 o 15 (.call 89 [(t 14), (.const (.string ⟨#[69, 82, 82, 32, 97, 114, 103, 115]⟩))])]
def f61r3 : List SOper := [
 o 16 (.ld1 (t 1)),
 o 17 (.call 114 [(t 16), (i 1)])]
def f61r4 : List SOper := [
 o 18 (.ld1 (t 1)),
 o 19 (.call 90 [(t 18), (i 5)])]
def f61r5 : List SOper := [
 o 3 (.mv (i 0))]
def f61r6 : List SOper := [
 o 20 (.fn 115 [] [(t 1)]),
 o 21 (.call 91 [(t 20)]),
 o 4 (.mv (t 21))]
def f61r7 : List SOper := [
 o 5 (.mv (i 1))]
def f61r8 : List SOper := [
 o 22 (.mv (t 5)),
 o 23 (.ld1 (t 1)),
 o 24 (.nilck (t 23)),
 o 25 (.fa 11 (t 24)),
 o 26 (.ld1 (t 25)),
 o 27 (.len (t 26)),
 o 28 (.cmp .lss (t 22) (t 27))]
def f61r9 : List SOper := [
 o 31 (.mv (t 4)),
 o 32 (.ld1 (t 1)),
 o 33 (.nilck (t 32)),
 o 34 (.fa 11 (t 33)),
 o 35 (.ld1 (t 34)),
 o 36 (.mv (t 5)),
 o 37 (.ar .add (t 36) (i 1)),
 o 38 (.ixs 1 (t 35) (t 37)),
 o 39 (.ld1 (t 38)),
 o 40 (.callv (t 31) [(t 39)])]
def f61r10 : List SOper := [
 o 41 (.mv (t 3)),
 o 42 (.ar .add (t 41) (i 1)),
 o 3 (.mv (t 42))]
def f61t11 : OTree := (.one (o 48 (.mv (t 5)))
 (.one (o 49 (.ar .add (t 48) (i 1)))
 (.one (o 52 (.ld1 (t 1)))
 (.one (o 53 (.mv (t 5)))
 (.one (o 62 (.mv (t 3)))
 (.one (o 43 (.ld1 (t 1)))
 (.one (o 44 (.ld1 (t 1)))
 (.one (o 45 (.nilck (t 44)))
 (.chk [o 44 (.ld1 (t 1)), o 43 (.ld1 (t 1))] (.one (o 46 (.fa 11 (t 45)))
 (.chk [o 44 (.ld1 (t 1)), o 43 (.ld1 (t 1))] (.one (o 47 (.ld1 (t 46)))
 (.one (o 50 (.ixs 1 (t 47) (t 49)))
 (.chk [o 47 (.ld1 (t 46)), o 44 (.ld1 (t 1)), o 43 (.ld1 (t 1))] (.one (o 51 (.ld1 (t 50)))
 (.one (o 56 (.ld1 (t 1)))
 (.one (o 57 (.nilck (t 56)))
 (.chk [o 56 (.ld1 (t 1)), o 51 (.ld1 (t 50)), o 47 (.ld1 (t 46)), o 44 (.ld1 (t 1)), o 43 (.ld1 (t 1))] (.one (o 58 (.fa 0 (t 57)))
 (.chk [o 56 (.ld1 (t 1)), o 51 (.ld1 (t 50)), o 47 (.ld1 (t 46)), o 44 (.ld1 (t 1)), o 43 (.ld1 (t 1))] (.one (o 59 (.fa 4 (t 58)))
 (.chk [o 56 (.ld1 (t 1)), o 51 (.ld1 (t 50)), o 47 (.ld1 (t 46)), o 44 (.ld1 (t 1)), o 43 (.ld1 (t 1))] (.one (o 60 (.ld1 (t 59)))
 (.one (o 61 (.len (t 60)))
 (.chk [o 60 (.ld1 (t 59)), o 56 (.ld1 (t 1)), o 51 (.ld1 (t 50)), o 47 (.ld1 (t 46)), o 44 (.ld1 (t 1)), o 43 (.ld1 (t 1))] (.one (o 63 (.ar .add (t 61) (t 62)))
 (.chk [o 60 (.ld1 (t 59)), o 56 (.ld1 (t 1)), o 51 (.ld1 (t 50)), o 47 (.ld1 (t 46)), o 44 (.ld1 (t 1)), o 43 (.ld1 (t 1))] (.one (o 54 (.call 102 [(t 52), (t 53)]))
 (.chk [o 60 (.ld1 (t 59)), o 56 (.ld1 (t 1)), o 51 (.ld1 (t 50)), o 47 (.ld1 (t 46)), o 44 (.ld1 (t 1)), o 43 (.ld1 (t 1))] (.one (o 55 (.build [(.int .i64 0), (.string ⟨#[]⟩), (.string ⟨#[]⟩), (.string ⟨#[]⟩), (.int .i64 0)] [(0, 1), (2, 1), (4, 1)] [(i 14), (t 51), (t 54)]))
 (.chk [o 60 (.ld1 (t 59)), o 56 (.ld1 (t 1)), o 51 (.ld1 (t 50)), o 47 (.ld1 (t 46)), o 44 (.ld1 (t 1)), o 43 (.ld1 (t 1))] (.one (o 64 (.call 94 [(t 43), (t 55), (t 63)]))
 .done))))))))))))))))))))))))))))))))
def f61r12 : List SOper := [
 o 29 (.mv (t 5)),
 o 30 (.ar .add (t 29) (i 2)),
 o 5 (.mv (t 30))]
def f61l13 : SCode := (.seq (.seq (.ops f61r8) (.cond (t 28) .skip (.exit 0))) (.seq (.block 1 (.seq (.seq (.ops f61r9) (.cond (t 40) (.ops f61r10) .skip)) (.tree [43, 44, 45, 46, 47, 48, 49, 50, 51, 52, 53, 54, 55, 56, 57, 58, 59, 60, 61, 62, 63, 64] f61t11))) (.ops f61r12)))
def f61r14 : List SOper := [
 o 65 (.mv (t 3)),
 o 66 (.call 95 [(t 65)]),
 q (.st 4 (t 2) (t 66))]
def f61 : SCode := (.seq (.ops f61r0) (.seq (.ops f61r1) (.seq (.ops f61r2) (.seq (.ops f61r3) (.seq (.ops f61r4) (.seq (.ops f61r5) (.seq (.ops f61r6) (.seq (.seq (.ops f61r7) (.block 0 (.loop f61l13))) (.seq (.ops f61r14) .ret)))))))))
def f61_ent : Ent := .code 67 f61 [.cn 2 4]
theorem f61_ok (oq : Nat → Value) (F : Nat → Prop) (h0 : Heap) : EntOK Tryz.prog oq F h0 61 f61_ent := ⟨soundD_of (fl := false) mixed Tryz.func61 rfl (by kernel_rfl) (by kernel_rfl) (by kernel_rfl), soundF_of (fl := false) mixed Tryz.func61 rfl (by kernel_rfl) (by kernel_rfl) (by kernel_rfl)⟩

/-! 62: (*tabor/colls.asked).zrem -/
def f62r0 : List SOper := [
 o 1 (.box (t 0)),
 o 2 (.new [(.int .i64 0), (.int .i64 0), (.string ⟨#[]⟩), (.slice none 0 0)])]
def f62r1 : List SOper := [
 o 3 (.ld1 (t 1)),
 o 4 (.call 96 [(t 3), (i 5), (i 2), (i 65536)])]
def f62r2 : List SOper := [
 o 5 (.ld1 (t 1)),
 o 6 (.fn 117 [] [(t 1)]),
 o 7 (.call 98 [(t 5), (i 15), (t 6)]),
 q (.st 4 (t 2) (t 7))]
def f62 : SCode := (.seq (.ops f62r0) (.seq (.ops f62r1) (.seq (.ops f62r2) .ret)))
def f62_ent : Ent := .code 8 f62 [.cn 2 4]
theorem f62_ok (oq : Nat → Value) (F : Nat → Prop) (h0 : Heap) : EntOK Tryz.prog oq F h0 62 f62_ent := ⟨soundD_of (fl := false) mixed Tryz.func62 rfl (by kernel_rfl) (by kernel_rfl) (by kernel_rfl), soundF_of (fl := false) mixed Tryz.func62 rfl (by kernel_rfl) (by kernel_rfl) (by kernel_rfl)⟩

/-! 63: (*tabor/colls.asked).zscore -/
def f63r0 : List SOper := [
 o 2 (.new [(.int .i64 0), (.int .i64 0), (.string ⟨#[]⟩), (.slice none 0 0)])]
def f63r1 : List SOper := [
 o 5 (.mv (t 0)),
 o 6 (.call 96 [(t 5), (i 5), (i 2), (i 2)])]
def f63r2 : List SOper := [
 o 8 (.mv (t 0)),
 o 9 (.mv (t 0)),
 o 10 (.nilck (t 9)),
 o 11 (.fa 11 (t 10)),
 o 12 (.ld1 (t 11)),
 o 13 (.ixs 1 (t 12) (i 1)),
 o 14 (.ld1 (t 13)),
 o 15 (.call 116 [(t 8), (t 14)]),
 o 7 (.mv (t 15)),
 o 16 (.ext (t 7) 0),
 o 17 (.ext (t 7) 1),
 o 3 (.mv (t 16)),
 o 4 (.mv (t 17))]
def f63r3 : List SOper := [
 o 18 (.mv (t 4)),
 o 19 (.un .not (t 18))]
def f63r4 : List SOper := [
 o 20 (.build [(.int .i64 0), (.int .i64 0), (.string ⟨#[]⟩), (.slice none 0 0)] [] []),
 q (.st 4 (t 2) (t 20))]
def f63r5 : List SOper := [
 o 21 (.mv (t 3)),
 o 22 (.call 105 [(t 21), (i 10)]),
 o 23 (.call 97 [(t 22)]),
 q (.st 4 (t 2) (t 23))]
def f63 : SCode := (.seq (.ops f63r0) (.seq (.ops f63r1) (.seq (.ops f63r2) (.seq (.seq (.ops f63r3) (.cond (t 19) (.seq (.ops f63r4) .ret) .skip)) (.seq (.ops f63r5) .ret)))))
def f63_ent : Ent := .code 24 f63 [.cn 2 4]
theorem f63_ok (oq : Nat → Value) (F : Nat → Prop) (h0 : Heap) : EntOK Tryz.prog oq F h0 63 f63_ent := ⟨soundD_of (fl := false) mixed Tryz.func63 rfl (by kernel_rfl) (by kernel_rfl) (by kernel_rfl), soundF_of (fl := false) mixed Tryz.func63 rfl (by kernel_rfl) (by kernel_rfl) (by kernel_rfl)⟩

/-! 64: (*tabor/colls.asked).zincrby -/
def f64r0 : List SOper := [
 o 2 (.new [(.int .i64 0), (.int .i64 0), (.string ⟨#[]⟩), (.slice none 0 0)])]
def f64r1 : List SOper := [
 o 7 (.mv (t 0)),
 o 8 (.call 88 [(t 7), (i 3), (i 3)])]
def f64r2 : List SOper := [
 o 9 (.mv (t 0)),
 o 10 (.call 102 [(t 9), (i 1)]),
 o 3 (.mv (t 10))]
def f64r3 : List SOper := [
 o 11 (.mv (t 0)),
 o 12 (.call 90 [(t 11), (i 5)])]
def f64r4 : List SOper := [
 o 14 (.mv (t 0)),
 o 15 (.mv (t 0)),
 o 16 (.nilck (t 15)),
 o 17 (.fa 11 (t 16)),
 o 18 (.ld1 (t 17)),
 o 19 (.ixs 1 (t 18) (i 2)),
 o 20 (.ld1 (t 19)),
 o 21 (.call 116 [(t 14), (t 20)]),
 o 13 (.mv (t 21)),
 o 22 (.ext (t 13) 0),
 o 23 (.ext (t 13) 1),
 o 4 (.mv (t 22)),
 o 5 (.mv (t 23))]
def f64r5 : List SOper := [
 o 24 (.mv (t 4)),
 o 25 (.mv (t 3)),
 o 26 (.call 104 [(t 24), (t 25)]),
 o 4 (.mv (t 26))]
def f64r6 : List SOper := [
 o 27 (.mv (t 0)),
 o 28 (.nilck (t 27)),
 o 29 (.fa 0 (t 28)),
 o 30 (.fa 4 (t 29)),
 o 31 (.ld1 (t 30)),
 o 32 (.len (t 31)),
 o 6 (.mv (t 32))]
def f64r7 : List SOper := [
 o 33 (.mv (t 5)),
 o 34 (.un .not (t 33))]
def f64r8 : List SOper := [
 o 35 (.mv (t 6)),
 o 36 (.ar .add (t 35) (i 1)),
 o 6 (.mv (t 36))]
def f64r9 : List SOper := [
 o 37 (.mv (t 0)),
 o 38 (.mv (t 0)),
 o 39 (.nilck (t 38)),
 o 40 (.fa 11 (t 39)),
 o 41 (.ld1 (t 40)),
 o 42 (.ixs 1 (t 41) (i 2)),
 o 43 (.ld1 (t 42)),
 o 44 (.mv (t 4)),
 o 45 (.build [(.int .i64 0), (.string ⟨#[]⟩), (.string ⟨#[]⟩), (.string ⟨#[]⟩), (.int .i64 0)] [(0, 1), (2, 1), (4, 1)] [(i 14), (t 43), (t 44)]),
 o 46 (.mv (t 6)),
 o 47 (.call 94 [(t 37), (t 45), (t 46)])]
def f64r10 : List SOper := [
 o 48 (.mv (t 4)),
 o 49 (.call 105 [(t 48), (i 10)]),
 o 50 (.call 97 [(t 49)]),
 q (.st 4 (t 2) (t 50))]
def f64 : SCode := (.seq (.ops f64r0) (.seq (.ops f64r1) (.seq (.ops f64r2) (.seq (.ops f64r3) (.seq (.ops f64r4) (.seq (.ops f64r5) (.seq (.ops f64r6) (.seq (.seq (.ops f64r7) (.cond (t 34) (.ops f64r8) .skip)) (.seq (.ops f64r9) (.seq (.ops f64r10) .ret))))))))))
def f64_ent : Ent := .code 51 f64 [.cn 2 4]
theorem f64_ok (oq : Nat → Value) (F : Nat → Prop) (h0 : Heap) : EntOK Tryz.prog oq F h0 64 f64_ent := ⟨soundD_of (fl := false) mixed Tryz.func64 rfl (by kernel_rfl) (by kernel_rfl) (by kernel_rfl), soundF_of (fl := false) mixed Tryz.func64 rfl (by kernel_rfl) (by kernel_rfl) (by kernel_rfl)⟩

/-! 65: (*tabor/colls.asked).zcard -/
def f65r0 : List SOper := [
 o 2 (.new [(.int .i64 0), (.int .i64 0), (.string ⟨#[]⟩), (.slice none 0 0)])]
def f65r1 : List SOper := [
 o 3 (.mv (t 0)),
 o 4 (.call 96 [(t 3), (i 5), (i 1), (i 1)])]
def f65r2 : List SOper := [
 o 5 (.mv (t 0)),
 o 6 (.nilck (t 5)),
 o 7 (.fa 0 (t 6)),
 o 8 (.fa 4 (t 7)),
 o 9 (.ld1 (t 8)),
 o 10 (.len (t 9)),
 o 11 (.call 95 [(t 10)]),
 q (.st 4 (t 2) (t 11))]
def f65 : SCode := (.seq (.ops f65r0) (.seq (.ops f65r1) (.seq (.ops f65r2) .ret)))
def f65_ent : Ent := .code 12 f65 [.cn 2 4]
theorem f65_ok (oq : Nat → Value) (F : Nat → Prop) (h0 : Heap) : EntOK Tryz.prog oq F h0 65 f65_ent := ⟨soundD_of (fl := false) mixed Tryz.func65 rfl (by kernel_rfl) (by kernel_rfl) (by kernel_rfl), soundF_of (fl := false) mixed Tryz.func65 rfl (by kernel_rfl) (by kernel_rfl) (by kernel_rfl)⟩

/-! 66: (*tabor/colls.asked).zrank -/
def f66r0 : List SOper := [
 o 2 (.new [(.int .i64 0), (.int .i64 0), (.string ⟨#[]⟩), (.slice none 0 0)])]
def f66r1 : List SOper := [
 o 7 (.mv (t 0)),
 o 8 (.call 96 [(t 7), (i 5), (i 2), (i 2)])]
def f66r2 : List SOper := [
 o 10 (.mv (t 0)),
 o 11 (.nilck (t 10)),
 o 12 (.fa 0 (t 11)),
 o 13 (.fa 4 (t 12)),
 o 14 (.ld1 (t 13)),
 o 15 (.call 118 [(t 14), (.const (.slice none 0 0))]),
 o 9 (.mv (t 15)),
 o 16 (.ext (t 9) 0),
 o 17 (.ext (t 9) 1),
 o 3 (.mv (t 16)),
 o 4 (.mv (t 17))]
def f66r3 : List SOper := [
 o 19 (.mv (t 3)),
 o 20 (.mv (t 0)),
 o 21 (.nilck (t 20)),
 o 22 (.fa 11 (t 21)),
 o 23 (.ld1 (t 22)),
 o 24 (.ixs 1 (t 23) (i 1)),
 o 25 (.ld1 (t 24)),
 o 26 (.call 119 [(t 19), (t 25)]),
 o 18 (.mv (t 26)),
 o 27 (.ext (t 18) 0),
 o 28 (.ext (t 18) 1),
 o 5 (.mv (t 27)),
 o 6 (.mv (t 28))]
def f66r4 : List SOper := [
 o 29 (.mv (t 6)),
 o 30 (.un .not (t 29))]
def f66r5 : List SOper := [
 o 31 (.build [(.int .i64 0), (.int .i64 0), (.string ⟨#[]⟩), (.slice none 0 0)] [] []),
 q (.st 4 (t 2) (t 31))]
def f66r6 : List SOper := [
 o 32 (.mv (t 5)),
 o 33 (.call 95 [(t 32)]),
 q (.st 4 (t 2) (t 33))]
def f66 : SCode := (.seq (.ops f66r0) (.seq (.ops f66r1) (.seq (.ops f66r2) (.seq (.ops f66r3) (.seq (.seq (.ops f66r4) (.cond (t 30) (.seq (.ops f66r5) .ret) .skip)) (.seq (.ops f66r6) .ret))))))
def f66_ent : Ent := .code 34 f66 [.cn 2 4]
theorem f66_ok (oq : Nat → Value) (F : Nat → Prop) (h0 : Heap) : EntOK Tryz.prog oq F h0 66 f66_ent := ⟨soundD_of (fl := false) mixed Tryz.func66 rfl (by kernel_rfl) (by kernel_rfl) (by kernel_rfl), soundF_of (fl := false) mixed Tryz.func66 rfl (by kernel_rfl) (by kernel_rfl) (by kernel_rfl)⟩

/-! 67: (*tabor/colls.asked).zrange -/
def f67r0 : List SOper := [
 o 2 (.new [(.int .i64 0), (.int .i64 0), (.string ⟨#[]⟩), (.slice none 0 0)])]
def f67r1 : List SOper := [
 o 9 (.mv (t 0)),
 o 10 (.call 88 [(t 9), (i 3), (i 3)])]
def f67r2 : List SOper := [
 o 11 (.mv (t 0)),
 o 12 (.call 102 [(t 11), (i 1)]),
 o 13 (.mv (t 0)),
 o 14 (.call 102 [(t 13), (i 2)]),
 o 3 (.mv (t 12)),
 o 4 (.mv (t 14))]
def f67r3 : List SOper := [
 o 15 (.mv (t 0)),
 o 16 (.call 90 [(t 15), (i 5)])]
def f67r4 : List SOper := [
 o 18 (.mv (t 0)),
 o 19 (.nilck (t 18)),
 o 20 (.fa 0 (t 19)),
 o 21 (.fa 4 (t 20)),
 o 22 (.ld1 (t 21)),
 o 23 (.len (t 22)),
 o 24 (.mv (t 3)),
 o 25 (.mv (t 4)),
 o 26 (.call 109 [(t 23), (t 24), (t 25)]),
 o 17 (.mv (t 26)),
 o 27 (.ext (t 17) 0),
 o 28 (.ext (t 17) 1),
 o 5 (.mv (t 27)),
 o 6 (.mv (t 28))]
def f67r5 : List SOper := [
 o 30 (.mv (t 0)),
 o 31 (.nilck (t 30)),
 o 32 (.fa 0 (t 31)),
 o 33 (.fa 4 (t 32)),
 o 34 (.ld1 (t 33)),
 o 35 (.call 118 [(t 34), (.const (.slice none 0 0))]),
 o 29 (.mv (t 35)),
 o 36 (.ext (t 29) 0),
 o 37 (.ext (t 29) 1),
 o 7 (.mv (t 36)),
 o 8 (.mv (t 37))]
def f67r6 : List SOper := [
 o 38 (.mv (t 7)),
 o 39 (.mv (t 5)),
 o 40 (.mv (t 6)),
 o 41 (.call 121 [(t 38), (t 39), (t 40)]),
 o 42 (.call 120 [(t 41), (u 122)]),
 q (.st 4 (t 2) (t 42))]
def f67 : SCode := (.seq (.ops f67r0) (.seq (.ops f67r1) (.seq (.ops f67r2) (.seq (.ops f67r3) (.seq (.ops f67r4) (.seq (.ops f67r5) (.seq (.ops f67r6) .ret)))))))
def f67_ent : Ent := .code 43 f67 [.cn 2 4]
theorem f67_ok (oq : Nat → Value) (F : Nat → Prop) (h0 : Heap) : EntOK Tryz.prog oq F h0 67 f67_ent := ⟨soundD_of (fl := false) mixed Tryz.func67 rfl (by kernel_rfl) (by kernel_rfl) (by kernel_rfl), soundF_of (fl := false) mixed Tryz.func67 rfl (by kernel_rfl) (by kernel_rfl) (by kernel_rfl)⟩

/-! 68: (*tabor/colls.asked).zrangebyscore -/
def f68r0 : List SOper := [
 o 2 (.new [(.int .i64 0), (.int .i64 0), (.string ⟨#[]⟩), (.slice none 0 0)])]
def f68r1 : List SOper := [
 o 7 (.mv (t 0)),
 o 8 (.call 88 [(t 7), (i 3), (i 3)])]
def f68r2 : List SOper := [
 o 9 (.mv (t 0)),
 o 10 (.call 102 [(t 9), (i 1)]),
 o 11 (.mv (t 0)),
 o 12 (.call 102 [(t 11), (i 2)]),
 o 3 (.mv (t 10)),
 o 4 (.mv (t 12))]
def f68r3 : List SOper := [
 o 13 (.mv (t 0)),
 o 14 (.call 90 [(t 13), (i 5)])]
def f68r4 : List SOper := [
 o 16 (.mv (t 0)),
 o 17 (.nilck (t 16)),
 o 18 (.fa 0 (t 17)),
 o 19 (.fa 4 (t 18)),
 o 20 (.ld1 (t 19)),
 o 21 (.call 118 [(t 20), (.const (.slice none 0 0))]),
 o 15 (.mv (t 21)),
 o 22 (.ext (t 15) 0),
 o 23 (.ext (t 15) 1),
 o 5 (.mv (t 22)),
 o 6 (.mv (t 23))]
def f68r5 : List SOper := [
 o 24 (.mv (t 5)),
 o 25 (.mv (t 3)),
 o 26 (.mv (t 4)),
 o 27 (.call 123 [(t 24), (t 25), (t 26)]),
 o 28 (.call 120 [(t 27), (u 122)]),
 q (.st 4 (t 2) (t 28))]
def f68 : SCode := (.seq (.ops f68r0) (.seq (.ops f68r1) (.seq (.ops f68r2) (.seq (.ops f68r3) (.seq (.ops f68r4) (.seq (.ops f68r5) .ret))))))
def f68_ent : Ent := .code 29 f68 [.cn 2 4]
theorem f68_ok (oq : Nat → Value) (F : Nat → Prop) (h0 : Heap) : EntOK Tryz.prog oq F h0 68 f68_ent := ⟨soundD_of (fl := false) mixed Tryz.func68 rfl (by kernel_rfl) (by kernel_rfl) (by kernel_rfl), soundF_of (fl := false) mixed Tryz.func68 rfl (by kernel_rfl) (by kernel_rfl) (by kernel_rfl)⟩

/-! 69: (*tabor/keys.Keys).none -/
def f69r0 : List SOper := [
 o 2 (.mv (b false))]
def f69r1 : List SOper := [
 o 3 (.mv (t 0)),
 o 4 (.eqn 0 false (t 3)),
 o 5 (.mv (t 4)),
 n 6 5 (.mv (t 0)),
 n 7 5 (.nilck (t 6)),
 n 8 5 (.fa 0 (t 7)),
 n 9 5 (.ld1 (t 8)),
 n 10 5 (.eqn 0 false (t 9)),
 o 11 (.pick (t 5) (b true) (t 10)),
 o 2 (.mv (t 11))]
def f69 : SCode := (.seq (.ops f69r0) (.seq (.ops f69r1) .ret))
def f69_ent : Ent := .code 12 f69 [.t 2]
theorem f69_ok (oq : Nat → Value) (F : Nat → Prop) (h0 : Heap) : EntOK Tryz.prog oq F h0 69 f69_ent := ⟨soundD_of (fl := false) mixed Tryz.func69 rfl (by kernel_rfl) (by kernel_rfl) (by kernel_rfl), soundF_of (fl := false) mixed Tryz.func69 rfl (by kernel_rfl) (by kernel_rfl) (by kernel_rfl)⟩

/-! 78: (*tabor/keys.Keys).All -/
def f78r0 : List SOper := [
 o 1 (.box (t 0)),
 o 2 (.mv (.const .nilFunc))]
def f78r1 : List SOper := [
 o 3 (.fn 132 [] [(t 1)]),
 o 2 (.mv (t 3))]
def f78 : SCode := (.seq (.ops f78r0) (.seq (.ops f78r1) .ret))
def f78_ent : Ent := .code 4 f78 [.t 2]
theorem f78_ok (oq : Nat → Value) (F : Nat → Prop) (h0 : Heap) : EntOK Tryz.prog oq F h0 78 f78_ent := ⟨soundD_of (fl := false) mixed Tryz.func78 rfl (by kernel_rfl) (by kernel_rfl) (by kernel_rfl), soundF_of (fl := false) mixed Tryz.func78 rfl (by kernel_rfl) (by kernel_rfl) (by kernel_rfl)⟩

/-! 79: slices.Grow[[]string,string] -/
def f79r0 : List SOper := [
 o 4 (.mv (.const (.slice none 0 0)))]
def f79r1 : List SOper := [
 o 5 (.mv (t 1)),
 o 6 (.cmp .lss (t 5) (i 0))]
def f79r2 : List SOper := [
 o 7 (.mki 9 (.const (.string ⟨#[99, 97, 110, 110, 111, 116, 32, 98, 101, 32, 110, 101, 103, 97, 116, 105, 118, 101]⟩))),
 q (.pan (t 7))]
def f79r3 : List SOper := [
 o 8 (.mv (t 1)),
 o 9 (.mv (t 0)),
 o 10 (.capc (t 9)),
 o 11 (.mv (t 0)),
 o 12 (.len (t 11)),
 o 13 (.ar .sub (t 10) (t 12)),
 o 14 (.ar .sub (t 8) (t 13)),
 o 1 (.mv (t 14))]
def f79r4 : List SOper := [
 o 15 (.mv (t 1)),
 o 16 (.cmp .gtr (t 15) (i 0))]
def f79r5 : List SOper := [
 o 17 (.mv (t 0)),
 o 18 (.mv (t 0)),
 o 19 (.capc (t 18)),
 o 20 (.slc 1 (t 17) none (some (t 19))),
 o 21 (.mv (t 1)),
 o 22 (.appz 1 16 [(.string ⟨#[]⟩)] (t 20) (t 21)),
 o 23 (.mv (t 0)),
 o 24 (.len (t 23)),
 o 25 (.slc 1 (t 22) none (some (t 24))),
 o 0 (.mv (t 25))]
def f79r6 : List SOper := [
 o 26 (.mv (t 0)),
 o 4 (.mv (t 26))]
def f79 : SCode := (.seq (.ops f79r0) (.seq (.seq (.ops f79r1) (.cond (t 6) (.ops f79r2) .skip)) (.seq (.seq (.ops f79r3) (.seq (.ops f79r4) (.cond (t 16) (.ops f79r5) .skip))) (.seq (.ops f79r6) .ret))))
def f79_ent : Ent := .code 27 f79 [.t 4]
theorem f79_ok (oq : Nat → Value) (F : Nat → Prop) (h0 : Heap) : EntOK Tryz.prog oq F h0 79 f79_ent := ⟨soundD_of (fl := false) mixed Tryz.func79 rfl (by kernel_rfl) (by kernel_rfl) (by kernel_rfl), soundF_of (fl := false) mixed Tryz.func79 rfl (by kernel_rfl) (by kernel_rfl) (by kernel_rfl)⟩

/-! 81: tabor/basics.commands -/
def f81r0 : List SOper := [
 o 0 (.mv (.const (.map none)))]
def f81r1 : List SOper := [
 o 1 (.mkm),
 q (.mup .str (t 1) (.const (.string ⟨#[83, 69, 84]⟩)) (u 135)),
 q (.mup .str (t 1) (.const (.string ⟨#[71, 69, 84]⟩)) (u 136)),
 q (.mup .str (t 1) (.const (.string ⟨#[68, 69, 76]⟩)) (u 137)),
 q (.mup .str (t 1) (.const (.string ⟨#[69, 88, 73, 83, 84, 83]⟩)) (u 138)),
 q (.mup .str (t 1) (.const (.string ⟨#[84, 89, 80, 69]⟩)) (u 139)),
 o 2 (.call 140 [(i 1)]),
 q (.mup .str (t 1) (.const (.string ⟨#[73, 78, 67, 82]⟩)) (t 2)),
 o 3 (.call 140 [(i (-1))]),
 q (.mup .str (t 1) (.const (.string ⟨#[68, 69, 67, 82]⟩)) (t 3)),
 q (.mup .str (t 1) (.const (.string ⟨#[73, 78, 67, 82, 66, 89]⟩)) (u 141)),
 q (.mup .str (t 1) (.const (.string ⟨#[65, 80, 80, 69, 78, 68]⟩)) (u 145)),
 q (.mup .str (t 1) (.const (.string ⟨#[83, 84, 82, 76, 69, 78]⟩)) (u 146)),
 q (.mup .str (t 1) (.const (.string ⟨#[77, 71, 69, 84]⟩)) (u 147)),
 q (.mup .str (t 1) (.const (.string ⟨#[77, 83, 69, 84]⟩)) (u 148)),
 q (.mup .str (t 1) (.const (.string ⟨#[80, 69, 88, 80, 73, 82, 69]⟩)) (u 149)),
 q (.mup .str (t 1) (.const (.string ⟨#[80, 69, 82, 83, 73, 83, 84]⟩)) (u 150)),
 q (.mup .str (t 1) (.const (.string ⟨#[80, 84, 84, 76]⟩)) (u 151)),
 q (.mup .str (t 1) (.const (.string ⟨#[75, 69, 89, 83]⟩)) (u 152)),
 q (.mup .str (t 1) (.const (.string ⟨#[68, 66, 83, 73, 90, 69]⟩)) (u 153)),
 q (.mup .str (t 1) (.const (.string ⟨#[70, 76, 85, 83, 72, 65, 76, 76]⟩)) (u 154)),
 o 4 (.mv (t 1)),
 o 0 (.mv (t 4))]
def f81 : SCode := (.seq (.ops f81r0) (.seq (.ops f81r1) .ret))
def f81_ent : Ent := .code 5 f81 [.t 0]
theorem f81_ok (oq : Nat → Value) (F : Nat → Prop) (h0 : Heap) : EntOK Tryz.prog oq F h0 81 f81_ent := ⟨soundD_of (fl := false) mixed Tryz.func81 rfl (by kernel_rfl) (by kernel_rfl) (by kernel_rfl), soundF_of (fl := false) mixed Tryz.func81 rfl (by kernel_rfl) (by kernel_rfl) (by kernel_rfl)⟩

/-! 84: tabor/basics.Do$1 -/
def f84r0 : List SOper := [
 o 7 (.eqn 4 false (t 5))]
def f84r1 : List SOper := [
 o 2 (.mv (t 5))]
def f84r2 : List SOper := [
 o 8 (.tas 113 (.agg #[(.string ⟨#[]⟩)]) true (t 5)),
 o 9 (.ext (t 8) 1),
 o 10 (.ext (t 8) 0)]
def f84r3 : List SOper := [
 o 3 (.new [(.string ⟨#[]⟩)]),
 q (.st 1 (t 3) (t 10))]
def f84r4 : List SOper := [
 o 11 (.fa 0 (t 3)),
 o 12 (.ld1 (t 11)),
 o 13 (.call 27 [(t 12)]),
 q (.st 4 (t 0) (t 13)),
 q (.st 1 (t 1) (.const (.slice none 0 0)))]
def f84r5 : List SOper := [
 o 4 (.mv (t 5))]
def f84r6 : List SOper := [
 o 6 (.mv (t 4)),
 q (.pan (t 6))]
def f84 : SCode := (.seq (.rcv (some 5)) (.block 0 (.seq (.ops f84r0) (.cond (t 7) (.ops f84r1) (.seq (.ops f84r2) (.cond (t 9) (.seq (.ops f84r3) (.ops f84r4)) (.seq (.ops f84r5) (.ops f84r6))))))))
def f84_ent : Ent := .code 14 f84 []
theorem f84_ok (oq : Nat → Value) (F : Nat → Prop) (h0 : Heap) : EntOK Tryz.prog oq F h0 84 f84_ent := ⟨soundD_of (fl := false) mixed Tryz.func84 rfl (by kernel_rfl) (by kernel_rfl) (by kernel_rfl), soundF_of (fl := false) mixed Tryz.func84 rfl (by kernel_rfl) (by kernel_rfl) (by kernel_rfl)⟩

/-! 85: slices.AppendSeq[[]string,string] -/
def f85r0 : List SOper := [
 o 2 (.box (t 0)),
 o 4 (.mv (.const (.slice none 0 0)))]
def f85r1 : List SOper := [
 o 6 (.mv (t 1))]
def f85r2 : List SOper := [
 o 5 (.mv (t 7))]
def f85r3 : List SOper := [
 o 8 (.ld1 (t 2)),
 o 9 (.mv (t 5)),
 o 10 (.bslice [(.string ⟨#[]⟩)] 1 [(0, 1)] [(t 9)]),
 o 11 (.app 1 16 [(.string ⟨#[]⟩)] (t 8) (t 10)),
 q (.st 1 (t 2) (t 11))]
def f85a4 : SCode := (.ops f85r2)
def f85b4 : SCode := (.block 1 (.ops f85r3))
def f85r5 : List SOper := [
 o 12 (.ld1 (t 2)),
 o 4 (.mv (t 12))]
def f85 : SCode := (.seq (.ops f85r0) (.seq (.seq (.ops f85r1) (.block 0 (.rangeF (t 6) [7] f85a4 f85b4))) (.seq (.ops f85r5) .ret)))
def f85_ent : Ent := .code 13 f85 [.t 4]
theorem f85_ok (oq : Nat → Value) (F : Nat → Prop) (h0 : Heap) : EntOK Tryz.prog oq F h0 85 f85_ent := ⟨soundD_of (fl := false) mixed Tryz.func85 rfl (by kernel_rfl) (by kernel_rfl) (by kernel_rfl), soundF_of (fl := false) mixed Tryz.func85 rfl (by kernel_rfl) (by kernel_rfl) (by kernel_rfl)⟩

/-! 86: slices.pdqsortOrdered[string] -/
def f86r0 : List SOper := [
 o 8 (.mv (b true))]
def f86r1 : List SOper := [
 o 9 (.mv (b true))]
def f86r2 : List SOper := [
 o 19 (.mv (t 2)),
 o 20 (.mv (t 1)),
 o 21 (.ar .sub (t 19) (t 20)),
 o 10 (.mv (t 21))]
def f86r3 : List SOper := [
 o 22 (.mv (t 10)),
 o 23 (.cmp .leq (t 22) (i 12))]
def f86r4 : List SOper := [
 o 24 (.mv (t 0)),
 o 25 (.mv (t 1)),
 o 26 (.mv (t 2)),
 o 27 (.call 155 [(t 24), (t 25), (t 26)])]
def f86r5 : List SOper := [
 o 28 (.mv (t 3)),
 o 29 (.cmp .eql (t 28) (i 0))]
def f86r6 : List SOper := [
 o 30 (.mv (t 0)),
 o 31 (.mv (t 1)),
 o 32 (.mv (t 2)),
 o 33 (.call 156 [(t 30), (t 31), (t 32)])]
def f86r7 : List SOper := [
 o 34 (.mv (t 8)),
 o 35 (.un .not (t 34))]
def f86r8 : List SOper := [
 o 36 (.mv (t 0)),
 o 37 (.mv (t 1)),
 o 38 (.mv (t 2)),
 o 39 (.call 157 [(t 36), (t 37), (t 38)])]
def f86r9 : List SOper := [
 o 40 (.mv (t 3)),
 o 41 (.ar .sub (t 40) (i 1)),
 o 3 (.mv (t 41))]
def f86r10 : List SOper := [
 o 43 (.mv (t 0)),
 o 44 (.mv (t 1)),
 o 45 (.mv (t 2)),
 o 46 (.call 158 [(t 43), (t 44), (t 45)]),
 o 42 (.mv (t 46)),
 o 47 (.ext (t 42) 0),
 o 48 (.ext (t 42) 1),
 o 11 (.mv (t 47)),
 o 12 (.mv (t 48))]
def f86r11 : List SOper := [
 o 49 (.mv (t 12)),
 o 50 (.cmp .eql (t 49) (i 2))]
def f86r12 : List SOper := [
 o 51 (.mv (t 0)),
 o 52 (.mv (t 1)),
 o 53 (.mv (t 2)),
 o 54 (.call 159 [(t 51), (t 52), (t 53)])]
def f86r13 : List SOper := [
 o 55 (.mv (t 2)),
 o 56 (.ar .sub (t 55) (i 1)),
 o 57 (.mv (t 11)),
 o 58 (.mv (t 1)),
 o 59 (.ar .sub (t 57) (t 58)),
 o 60 (.ar .sub (t 56) (t 59)),
 o 11 (.mv (t 60))]
def f86r14 : List SOper := [
 o 12 (.mv (i 1))]
def f86r15 : List SOper := [
 o 61 (.mv (t 8)),
 o 62 (.mv (t 61)),
 g 63 62 (.mv (t 9)),
 o 64 (.pick (t 62) (t 63) (b false)),
 o 65 (.mv (t 64)),
 g 66 65 (.mv (t 12)),
 g 67 65 (.cmp .eql (t 66) (i 1)),
 o 68 (.pick (t 65) (t 67) (b false))]
def f86r16 : List SOper := [
 o 69 (.mv (t 0)),
 o 70 (.mv (t 1)),
 o 71 (.mv (t 2)),
 o 72 (.call 160 [(t 69), (t 70), (t 71)])]
def f86r17 : List SOper := [
 o 73 (.mv (t 1)),
 o 74 (.cmp .gtr (t 73) (i 0)),
 o 75 (.mv (t 74)),
 g 76 75 (.mv (t 0)),
 g 77 75 (.mv (t 1)),
 g 78 75 (.ar .sub (t 77) (i 1)),
 g 79 75 (.ixs 1 (t 76) (t 78)),
 g 80 75 (.ld1 (t 79)),
 g 81 75 (.mv (t 0)),
 g 82 75 (.mv (t 11)),
 g 83 75 (.ixs 1 (t 81) (t 82)),
 g 84 75 (.ld1 (t 83)),
 g 85 75 (.call 161 [(t 80), (t 84)]),
 g 86 75 (.un .not (t 85)),
 o 87 (.pick (t 75) (t 86) (b false))]
def f86r18 : List SOper := [
 o 88 (.mv (t 0)),
 o 89 (.mv (t 1)),
 o 90 (.mv (t 2)),
 o 91 (.mv (t 11)),
 o 92 (.call 162 [(t 88), (t 89), (t 90), (t 91)]),
 o 13 (.mv (t 92))]
def f86r19 : List SOper := [
 o 93 (.mv (t 13)),
 o 1 (.mv (t 93))]
def f86r20 : List SOper := [
 o 95 (.mv (t 0)),
 o 96 (.mv (t 1)),
 o 97 (.mv (t 2)),
 o 98 (.mv (t 11)),
 o 99 (.call 163 [(t 95), (t 96), (t 97), (t 98)]),
 o 94 (.mv (t 99)),
 o 100 (.ext (t 94) 0),
 o 101 (.ext (t 94) 1),
 o 14 (.mv (t 100)),
 o 15 (.mv (t 101))]
def f86r21 : List SOper := [
 o 102 (.mv (t 15)),
 o 9 (.mv (t 102))]
def f86r22 : List SOper := [
 o 103 (.mv (t 14)),
 o 104 (.mv (t 1)),
 o 105 (.ar .sub (t 103) (t 104)),
 o 106 (.mv (t 2)),
 o 107 (.mv (t 14)),
 o 108 (.ar .sub (t 106) (t 107)),
 o 16 (.mv (t 105)),
 o 17 (.mv (t 108))]
def f86r23 : List SOper := [
 o 109 (.mv (t 10)),
 o 110 (.quo (t 109) (i 8)),
 o 18 (.mv (t 110))]
def f86r24 : List SOper := [
 o 111 (.mv (t 16)),
 o 112 (.mv (t 17)),
 o 113 (.cmp .lss (t 111) (t 112))]
def f86r25 : List SOper := [
 o 114 (.mv (t 16)),
 o 115 (.mv (t 18)),
 o 116 (.cmp .geq (t 114) (t 115)),
 o 8 (.mv (t 116))]
def f86r26 : List SOper := [
 o 117 (.mv (t 0)),
 o 118 (.mv (t 1)),
 o 119 (.mv (t 14)),
 o 120 (.mv (t 3)),
 o 121 (.call 86 [(t 117), (t 118), (t 119), (t 120)])]
def f86r27 : List SOper := [
 o 122 (.mv (t 14)),
 o 123 (.ar .add (t 122) (i 1)),
 o 1 (.mv (t 123))]
def f86r28 : List SOper := [
 o 124 (.mv (t 17)),
 o 125 (.mv (t 18)),
 o 126 (.cmp .geq (t 124) (t 125)),
 o 8 (.mv (t 126))]
def f86r29 : List SOper := [
 o 127 (.mv (t 0)),
 o 128 (.mv (t 14)),
 o 129 (.ar .add (t 128) (i 1)),
 o 130 (.mv (t 2)),
 o 131 (.mv (t 3)),
 o 132 (.call 86 [(t 127), (t 129), (t 130), (t 131)])]
def f86r30 : List SOper := [
 o 133 (.mv (t 14)),
 o 2 (.mv (t 133))]
def f86l31 : SCode := (.block 1 (.seq (.ops f86r2) (.seq (.seq (.ops f86r3) (.cond (t 23) (.seq (.ops f86r4) .ret) .skip)) (.seq (.seq (.ops f86r5) (.cond (t 29) (.seq (.ops f86r6) .ret) .skip)) (.seq (.seq (.ops f86r7) (.cond (t 35) (.seq (.ops f86r8) (.ops f86r9)) .skip)) (.seq (.ops f86r10) (.seq (.seq (.ops f86r11) (.cond (t 50) (.seq (.ops f86r12) (.seq (.ops f86r13) (.ops f86r14))) .skip)) (.seq (.seq (.ops f86r15) (.cond (t 68) (.seq (.ops f86r16) (.cond (t 72) .ret .skip)) .skip)) (.seq (.seq (.ops f86r17) (.cond (t 87) (.seq (.ops f86r18) (.seq (.ops f86r19) (.exit 1))) .skip)) (.seq (.ops f86r20) (.seq (.ops f86r21) (.seq (.ops f86r22) (.seq (.ops f86r23) (.seq (.ops f86r24) (.cond (t 113) (.seq (.ops f86r25) (.seq (.ops f86r26) (.ops f86r27))) (.seq (.ops f86r28) (.seq (.ops f86r29) (.ops f86r30))))))))))))))))))
def f86 : SCode := (.seq (.ops f86r0) (.seq (.ops f86r1) (.block 0 (.loop f86l31))))
def f86_ent : Ent := .code 134 f86 []
theorem f86_ok (oq : Nat → Value) (F : Nat → Prop) (h0 : Heap) : EntOK Tryz.prog oq F h0 86 f86_ent := ⟨soundD_of (fl := false) mixed Tryz.func86 rfl (by kernel_rfl) (by kernel_rfl) (by kernel_rfl), soundF_of (fl := false) mixed Tryz.func86 rfl (by kernel_rfl) (by kernel_rfl) (by kernel_rfl)⟩

/-! 87: math/bits.Len -/
def f87r0 : List SOper := [
 o 2 (.mv (i 0))]
def f87r1 : List SOper := [
 o 3 (.mv (t 0)),
 o 4 (.cvt .u32 (t 3)),
 o 5 (.call 164 [(t 4)]),
 o 2 (.mv (t 5))]
def f87r2 : List SOper := [
 o 6 (.mv (t 0)),
 o 7 (.call 165 [(t 6)]),
 o 2 (.mv (t 7))]
def f87 : SCode := (.seq (.ops f87r0) (.seq (.cond (b false) (.seq (.ops f87r1) .ret) .skip) (.seq (.ops f87r2) .ret)))
def f87_ent : Ent := .code 8 f87 [.t 2]
theorem f87_ok (oq : Nat → Value) (F : Nat → Prop) (h0 : Heap) : EntOK Tryz.prog oq F h0 87 f87_ent := ⟨soundD_of (fl := false) mixed Tryz.func87 rfl (by kernel_rfl) (by kernel_rfl) (by kernel_rfl), soundF_of (fl := false) mixed Tryz.func87 rfl (by kernel_rfl) (by kernel_rfl) (by kernel_rfl)⟩

/-! 88: (*tabor/colls.asked).many -/
def f88r0 : List SOper := [
 o 6 (.mv (t 0)),
 o 7 (.nilck (t 6)),
 o 8 (.fa 11 (t 7)),
 o 9 (.ld1 (t 8)),
 o 10 (.len (t 9)),
 o 11 (.mv (t 1)),
 o 12 (.cmp .geq (t 10) (t 11)),
 o 13 (.mv (t 12)),
 g 14 13 (.mv (t 0)),
 g 15 13 (.nilck (t 14)),
 g 16 13 (.fa 11 (t 15)),
 g 17 13 (.ld1 (t 16)),
 g 18 13 (.len (t 17)),
 g 19 13 (.mv (t 2)),
 g 20 13 (.cmp .leq (t 18) (t 19)),
 o 21 (.pick (t 13) (t 20) (b false)),
 o 22 (.call 89 [(t 21), (.const (.string ⟨#[69, 82, 82, 32, 97, 114, 103, 115]⟩))])]
def f88r1 : List SOper := [
 o 23 (.mv (t 0)),
 o 24 (.mv (t 0)),
 o 25 (.nilck (t 24)),
 o 26 (.fa 11 (t 25)),
 o 27 (.ld1 (t 26)),
 o 28 (.ixs 1 (t 27) (i 0)),
 o 29 (.ld1 (t 28)),
 o 30 (.nilck (t 23)),
 o 31 (.fa 10 (t 30)),
 q (.st 1 (t 31) (t 29))]
def f88 : SCode := (.seq (.ops f88r0) (.ops f88r1))
def f88_ent : Ent := .code 32 f88 []
theorem f88_ok (oq : Nat → Value) (F : Nat → Prop) (h0 : Heap) : EntOK Tryz.prog oq F h0 88 f88_ent := ⟨soundD_of (fl := false) mixed Tryz.func88 rfl (by kernel_rfl) (by kernel_rfl) (by kernel_rfl), soundF_of (fl := false) mixed Tryz.func88 rfl (by kernel_rfl) (by kernel_rfl) (by kernel_rfl)⟩

/-! 89: tabor/colls.must -/
def f89r0 : List SOper := [
 o 4 (.mv (t 0)),
 o 5 (.un .not (t 4))]
def f89r1 : List SOper := [
 o 6 (.mv (t 1)),
 o 7 (.build [(.string ⟨#[]⟩)] [(0, 1)] [(t 6)]),
 o 8 (.mki 59 (t 7)),
 q (.pan (t 8))]
def f89 : SCode := (.seq (.ops f89r0) (.cond (t 5) (.ops f89r1) .skip))
def f89_ent : Ent := .code 9 f89 []
theorem f89_ok (oq : Nat → Value) (F : Nat → Prop) (h0 : Heap) : EntOK Tryz.prog oq F h0 89 f89_ent := ⟨soundD_of (fl := false) mixed Tryz.func89 rfl (by kernel_rfl) (by kernel_rfl) (by kernel_rfl), soundF_of (fl := false) mixed Tryz.func89 rfl (by kernel_rfl) (by kernel_rfl) (by kernel_rfl)⟩

/-! 96: (*tabor/colls.asked).begin -/
def f96r0 : List SOper := [
 o 8 (.mv (t 0)),
 o 9 (.mv (t 2)),
 o 10 (.mv (t 3)),
 o 11 (.call 88 [(t 8), (t 9), (t 10)])]
def f96r1 : List SOper := [
 o 12 (.mv (t 0)),
 o 13 (.mv (t 1)),
 o 14 (.call 90 [(t 12), (t 13)])]
def f96 : SCode := (.seq (.ops f96r0) (.ops f96r1))
def f96_ent : Ent := .code 15 f96 []
theorem f96_ok (oq : Nat → Value) (F : Nat → Prop) (h0 : Heap) : EntOK Tryz.prog oq F h0 96 f96_ent := ⟨soundD_of (fl := false) mixed Tryz.func96 rfl (by kernel_rfl) (by kernel_rfl) (by kernel_rfl), soundF_of (fl := false) mixed Tryz.func96 rfl (by kernel_rfl) (by kernel_rfl) (by kernel_rfl)⟩

/-! 106: (*tabor/colls.asked).push -/
def f106r0 : List SOper := [
 o 4 (.new [(.int .i64 0), (.int .i64 0), (.string ⟨#[]⟩), (.slice none 0 0)])]
def f106r1 : List SOper := [
 o 7 (.mv (t 0)),
 o 8 (.call 96 [(t 7), (i 3), (i 2), (i 65536)])]
def f106r2 : List SOper := [
 o 9 (.mv (t 0)),
 o 10 (.nilck (t 9)),
 o 11 (.fa 11 (t 10)),
 o 12 (.ld1 (t 11)),
 o 13 (.slc 1 (t 12) (some (i 1)) none),
 o 14 (.len (t 13)),
 o 15 (.mv (i 0))]
def f106r3 : List SOper := [
 o 16 (.cmp .lss (t 15) (t 14))]
def f106r4 : List SOper := [
 o 17 (.mv (t 15)),
 o 18 (.ixs 1 (t 13) (t 15)),
 o 19 (.ld1 (t 18)),
 o 5 (.mv (t 17)),
 o 6 (.mv (t 19))]
def f106r5 : List SOper := [
 o 20 (.mv (t 0)),
 o 21 (.mv (t 1)),
 o 22 (.mv (t 6)),
 o 23 (.build [(.int .i64 0), (.string ⟨#[]⟩), (.string ⟨#[]⟩), (.string ⟨#[]⟩), (.int .i64 0)] [(0, 1), (3, 1)] [(t 21), (t 22)]),
 o 24 (.mv (t 0)),
 o 25 (.nilck (t 24)),
 o 26 (.fa 0 (t 25)),
 o 27 (.fa 3 (t 26)),
 o 28 (.ld1 (t 27)),
 o 29 (.len (t 28)),
 o 30 (.mv (t 5)),
 o 31 (.ar .add (t 29) (t 30)),
 o 32 (.ar .add (t 31) (i 1)),
 o 33 (.call 94 [(t 20), (t 23), (t 32)])]
def f106r6 : List SOper := [
 o 34 (.ar .add (t 15) (i 1)),
 o 15 (.mv (t 34))]
def f106l7 : SCode := (.seq (.ops f106r3) (.seq (.cond (t 16) .skip (.exit 0)) (.seq (.block 1 (.seq (.ops f106r4) (.ops f106r5))) (.ops f106r6))))
def f106r8 : List SOper := [
 o 35 (.mv (t 0)),
 o 36 (.nilck (t 35)),
 o 37 (.fa 0 (t 36)),
 o 38 (.fa 3 (t 37)),
 o 39 (.ld1 (t 38)),
 o 40 (.len (t 39)),
 o 41 (.mv (t 0)),
 o 42 (.nilck (t 41)),
 o 43 (.fa 11 (t 42)),
 o 44 (.ld1 (t 43)),
 o 45 (.len (t 44)),
 o 46 (.ar .add (t 40) (t 45)),
 o 47 (.ar .sub (t 46) (i 1)),
 o 48 (.call 95 [(t 47)]),
 q (.st 4 (t 4) (t 48))]
def f106 : SCode := (.seq (.ops f106r0) (.seq (.ops f106r1) (.seq (.seq (.ops f106r2) (.block 0 (.loop f106l7))) (.seq (.ops f106r8) .ret))))
def f106_ent : Ent := .code 49 f106 [.cn 4 4]
theorem f106_ok (oq : Nat → Value) (F : Nat → Prop) (h0 : Heap) : EntOK Tryz.prog oq F h0 106 f106_ent := ⟨soundD_of (fl := false) mixed Tryz.func106 rfl (by kernel_rfl) (by kernel_rfl) (by kernel_rfl), soundF_of (fl := false) mixed Tryz.func106 rfl (by kernel_rfl) (by kernel_rfl) (by kernel_rfl)⟩

/-! 107: (*tabor/colls.asked).pop -/
def f107r0 : List SOper := [
 o 6 (.new [(.int .i64 0), (.int .i64 0), (.string ⟨#[]⟩), (.slice none 0 0)])]
def f107r1 : List SOper := [
 o 9 (.mv (t 0)),
 o 10 (.call 96 [(t 9), (i 3), (i 1), (i 1)])]
def f107r2 : List SOper := [
 o 12 (.mv (t 0)),
 o 13 (.nilck (t 12)),
 o 14 (.fa 0 (t 13)),
 o 15 (.fa 3 (t 14)),
 o 16 (.ld1 (t 15)),
 o 17 (.len (t 16)),
 o 18 (.mv (t 2)),
 o 19 (.call 108 [(t 17), (t 18)]),
 o 11 (.mv (t 19)),
 o 20 (.ext (t 11) 0),
 o 21 (.ext (t 11) 1),
 o 7 (.mv (t 20)),
 o 8 (.mv (t 21))]
def f107r3 : List SOper := [
 o 22 (.mv (t 8)),
 o 23 (.un .not (t 22))]
def f107r4 : List SOper := [
 o 24 (.build [(.int .i64 0), (.int .i64 0), (.string ⟨#[]⟩), (.slice none 0 0)] [] []),
 q (.st 4 (t 6) (t 24))]
def f107r5 : List SOper := [
 o 25 (.mv (t 0)),
 o 26 (.mv (t 1)),
 o 27 (.build [(.int .i64 0), (.string ⟨#[]⟩), (.string ⟨#[]⟩), (.string ⟨#[]⟩), (.int .i64 0)] [(0, 1)] [(t 26)]),
 o 28 (.call 171 [(t 25), (t 27)])]
def f107r6 : List SOper := [
 o 29 (.mv (t 0)),
 o 30 (.nilck (t 29)),
 o 31 (.fa 0 (t 30)),
 o 32 (.fa 3 (t 31)),
 o 33 (.ld1 (t 32)),
 o 34 (.mv (t 7)),
 o 35 (.ixs 1 (t 33) (t 34)),
 o 36 (.ld1 (t 35)),
 o 37 (.call 97 [(t 36)]),
 q (.st 4 (t 6) (t 37))]
def f107 : SCode := (.seq (.ops f107r0) (.seq (.ops f107r1) (.seq (.ops f107r2) (.seq (.seq (.ops f107r3) (.cond (t 23) (.seq (.ops f107r4) .ret) .skip)) (.seq (.ops f107r5) (.seq (.ops f107r6) .ret))))))
def f107_ent : Ent := .code 38 f107 [.cn 6 4]
theorem f107_ok (oq : Nat → Value) (F : Nat → Prop) (h0 : Heap) : EntOK Tryz.prog oq F h0 107 f107_ent := ⟨soundD_of (fl := false) mixed Tryz.func107 rfl (by kernel_rfl) (by kernel_rfl) (by kernel_rfl), soundF_of (fl := false) mixed Tryz.func107 rfl (by kernel_rfl) (by kernel_rfl) (by kernel_rfl)⟩

/-! 132: (*tabor/keys.Keys).All$1 -/
def f132r0 : List SOper := [
 o 6 (.ld1 (t 1)),
 o 7 (.call 69 [(t 6)])]
def f132r1 : List SOper := [
 o 8 (.ld1 (t 1)),
 o 9 (.nilck (t 8)),
 o 10 (.fa 0 (t 9)),
 o 11 (.ld1 (t 10)),
 o 12 (.nilck (t 11)),
 o 13 (.fa 0 (t 12)),
 o 14 (.ld1 (t 13)),
 o 15 (.call 133 [(t 14)]),
 o 16 (.call 21 [(t 15)]),
 o 17 (.len (t 16)),
 o 18 (.mv (i 0))]
def f132r2 : List SOper := [
 o 19 (.cmp .lss (t 18) (t 17))]
def f132r3 : List SOper := [
 o 20 (.ixs 1 (t 16) (t 18)),
 o 21 (.ld1 (t 20)),
 o 4 (.mv (t 21))]
def f132r4 : List SOper := [
 o 22 (.ld1 (t 1)),
 o 23 (.nilck (t 22)),
 o 24 (.fa 0 (t 23)),
 o 25 (.ld1 (t 24)),
 o 26 (.nilck (t 25)),
 o 27 (.fa 0 (t 26)),
 o 28 (.ld1 (t 27)),
 o 29 (.mv (t 4)),
 o 30 (.look .str (.pointer none) false (t 28) (t 29)),
 o 5 (.mv (t 30))]
def f132r5 : List SOper := [
 o 31 (.mv (t 5)),
 o 32 (.eqn 0 true (t 31)),
 o 33 (.mv (t 32)),
 g 34 33 (.mv (t 0)),
 g 35 33 (.mv (t 4)),
 g 36 33 (.mv (t 5)),
 g 37 33 (.nilck (t 36)),
 g 38 33 (.ldn 7 (t 37)),
 g 39 33 (.call 127 [(t 38)]),
 g 40 33 (.callv (t 34) [(t 35), (t 39)]),
 g 41 33 (.un .not (t 40)),
 o 42 (.pick (t 33) (t 41) (b false))]
def f132r6 : List SOper := [
 o 43 (.ar .add (t 18) (i 1)),
 o 18 (.mv (t 43))]
def f132l7 : SCode := (.seq (.ops f132r2) (.seq (.cond (t 19) .skip (.exit 0)) (.seq (.block 1 (.seq (.ops f132r3) (.seq (.ops f132r4) (.seq (.ops f132r5) (.cond (t 42) .ret .skip))))) (.ops f132r6))))
def f132 : SCode := (.seq (.seq (.ops f132r0) (.cond (t 7) .ret .skip)) (.seq (.ops f132r1) (.block 0 (.loop f132l7))))
def f132_ent : Ent := .code 44 f132 []
theorem f132_ok (oq : Nat → Value) (F : Nat → Prop) (h0 : Heap) : EntOK Tryz.prog oq F h0 132 f132_ent := ⟨soundD_of (fl := false) mixed Tryz.func132 rfl (by kernel_rfl) (by kernel_rfl) (by kernel_rfl), soundF_of (fl := false) mixed Tryz.func132 rfl (by kernel_rfl) (by kernel_rfl) (by kernel_rfl)⟩

/-! 133: maps.Keys[map[string]*tabor/api.Thing,string,*tabor/api.Thing] -/
def f133r0 : List SOper := [
 o 1 (.box (t 0)),
 o 2 (.mv (.const .nilFunc))]
def f133r1 : List SOper := [
 o 3 (.fn 206 [] [(t 1)]),
 o 2 (.mv (t 3))]
def f133 : SCode := (.seq (.ops f133r0) (.seq (.ops f133r1) .ret))
def f133_ent : Ent := .code 4 f133 [.t 2]
theorem f133_ok (oq : Nat → Value) (F : Nat → Prop) (h0 : Heap) : EntOK Tryz.prog oq F h0 133 f133_ent := ⟨soundD_of (fl := false) mixed Tryz.func133 rfl (by kernel_rfl) (by kernel_rfl) (by kernel_rfl), soundF_of (fl := false) mixed Tryz.func133 rfl (by kernel_rfl) (by kernel_rfl) (by kernel_rfl)⟩

/-! 135: tabor/basics.set -/
def f135r0 : List SOper := [
 o 2 (.new [(.int .i64 0), (.int .i64 0), (.string ⟨#[]⟩), (.slice none 0 0)])]
def f135r1 : List SOper := [
 o 11 (.mv (t 0)),
 o 12 (.call 142 [(t 11), (i 2), (i 4)])]
def f135r2 : List SOper := [
 o 13 (.mv (t 0)),
 o 14 (.nilck (t 13)),
 o 15 (.fa 2 (t 14)),
 o 16 (.ld1 (t 15)),
 o 17 (.ixs 1 (t 16) (i 0)),
 o 18 (.ld1 (t 17)),
 o 19 (.mv (t 0)),
 o 20 (.nilck (t 19)),
 o 21 (.fa 2 (t 20)),
 o 22 (.ld1 (t 21)),
 o 23 (.ixs 1 (t 22) (i 1)),
 o 24 (.ld1 (t 23)),
 o 3 (.mv (t 18)),
 o 4 (.mv (t 24))]
def f135r3 : List SOper := [
 o 25 (.mv (t 0)),
 o 26 (.nilck (t 25)),
 o 27 (.fa 2 (t 26)),
 o 28 (.ld1 (t 27)),
 o 29 (.len (t 28)),
 o 30 (.cmp .eql (t 29) (i 4)),
 o 31 (.mv (t 30)),
 g 32 31 (.mv (t 0)),
 g 33 31 (.nilck (t 32)),
 g 34 31 (.fa 2 (t 33)),
 g 35 31 (.ld1 (t 34)),
 g 36 31 (.ixs 1 (t 35) (i 2)),
 g 37 31 (.ld1 (t 36)),
 g 38 31 (.call 83 [(t 37)]),
 g 39 31 (.cmp .eql (t 38) (.const (.string ⟨#[80, 88]⟩))),
 o 40 (.pick (t 31) (t 39) (b false)),
 o 5 (.mv (t 40))]
def f135r4 : List SOper := [
 o 41 (.mv (t 0)),
 o 42 (.nilck (t 41)),
 o 43 (.fa 2 (t 42)),
 o 44 (.ld1 (t 43)),
 o 45 (.len (t 44)),
 o 46 (.cmp .eql (t 45) (i 3)),
 o 47 (.mv (t 46)),
 g 48 47 (.mv (t 0)),
 g 49 47 (.nilck (t 48)),
 g 50 47 (.fa 2 (t 49)),
 g 51 47 (.ld1 (t 50)),
 g 52 47 (.ixs 1 (t 51) (i 2)),
 g 53 47 (.ld1 (t 52)),
 g 54 47 (.call 83 [(t 53)]),
 g 55 47 (.cmp .eql (t 54) (.const (.string ⟨#[78, 88]⟩))),
 o 56 (.pick (t 47) (t 55) (b false)),
 o 6 (.mv (t 56))]
def f135r5 : List SOper := [
 o 57 (.mv (t 0)),
 o 58 (.nilck (t 57)),
 o 59 (.fa 2 (t 58)),
 o 60 (.ld1 (t 59)),
 o 61 (.len (t 60)),
 o 62 (.cmp .eql (t 61) (i 2)),
 o 63 (.mv (t 62)),
 n 64 63 (.mv (t 5)),
 o 65 (.pick (t 63) (b true) (t 64)),
 o 66 (.mv (t 65)),
 n 67 66 (.mv (t 6)),
 o 68 (.pick (t 66) (b true) (t 67)),
 o 69 (.call 207 [(t 68), (.const (.string ⟨#[69, 82, 82, 32, 97, 114, 103, 115]⟩))])]
def f135r6 : List SOper := [
 o 70 (.mv (t 5))]
def f135r7 : List SOper := [
 o 71 (.mv (t 0)),
 o 72 (.call 144 [(t 71), (i 3)]),
 o 7 (.mv (t 72))]
def f135r8 : List SOper := [
 o 73 (.mv (t 7)),
 o 74 (.cmp .geq (t 73) (i 1)),
 o 75 (.call 207 [(t 74), (.const (.string ⟨#[69, 82, 82, 32, 114, 97, 110, 103, 101]⟩))])]
def f135r9 : List SOper := [
 o 76 (.mv (t 0)),
 o 77 (.nilck (t 76)),
 o 78 (.fa 1 (t 77)),
 o 79 (.ld1 (t 78)),
 o 80 (.mv (t 7)),
 o 81 (.call 208 [(t 79), (t 80)]),
 o 8 (.mv (t 81))]
def f135r10 : List SOper := [
 o 82 (.mv (t 0)),
 o 83 (.mv (t 3)),
 o 84 (.mv (t 4)),
 o 85 (.call 209 [(t 82), (t 83), (t 84), (b false)])]
def f135r11 : List SOper := [
 o 86 (.mv (t 0)),
 o 87 (.mv (t 3)),
 o 88 (.mv (t 8)),
 o 89 (.build [(.int .i64 0), (.string ⟨#[]⟩), (.string ⟨#[]⟩), (.string ⟨#[]⟩), (.int .i64 0)] [(0, 1), (1, 1), (4, 1)] [(i 3), (t 87), (t 88)]),
 o 90 (.bslice [(.int .i64 0), (.string ⟨#[]⟩), (.string ⟨#[]⟩), (.string ⟨#[]⟩), (.int .i64 0)] 1 [(0, 5)] [(t 89)]),
 o 91 (.call 210 [(t 86), (t 90)])]
def f135r12 : List SOper := [
 o 92 (.call 211 []),
 q (.st 4 (t 2) (t 92))]
def f135t13 : OTree := (.one (o 94 (.mv (t 0)))
 (.one (o 95 (.nilck (t 94)))
 (.one (o 96 (.fa 0 (t 95)))
 (.one (o 97 (.ld1 (t 96)))
 (.one (o 98 (.mv (t 3)))
 (.one (o 99 (.mv (t 0)))
 (.one (o 100 (.nilck (t 99)))
 (.one (o 101 (.fa 1 (t 100)))
 (.one (o 102 (.ld1 (t 101)))
 (.both (.one (o 103 (.call 29 [(t 97), (t 98), (t 102)]))
 (.one (o 93 (.mv (t 103)))
 (.one (o 104 (.ext (t 93) 0))
 (.one (o 105 (.ext (t 93) 1))
 (.one (o 9 (.new [(.int .i64 0), (.string ⟨#[]⟩), (.slice none 0 0), (.slice none 0 0), (.slice none 0 0), (.bool false), (.int .i64 0)]))
 (.one (q (.st 7 (t 9) (t 104)))
 (.one (o 10 (.mv (t 105)))
 .done))))))) (.one (o 9 (.new [(.int .i64 0), (.string ⟨#[]⟩), (.slice none 0 0), (.slice none 0 0), (.slice none 0 0), (.bool false), (.int .i64 0)]))
 (.one (o 103 (.call 29 [(t 97), (t 98), (t 102)]))
 (.one (o 93 (.mv (t 103)))
 (.one (o 104 (.ext (t 93) 0))
 (.one (o 105 (.ext (t 93) 1))
 (.one (q (.st 7 (t 9) (t 104)))
 (.one (o 10 (.mv (t 105)))
 .done)))))))))))))))))
def f135r14 : List SOper := [
 o 106 (.mv (t 6)),
 o 107 (.mv (t 106)),
 g 108 107 (.mv (t 10)),
 o 109 (.pick (t 107) (t 108) (b false))]
def f135r15 : List SOper := [
 o 110 (.build [(.int .i64 0), (.int .i64 0), (.string ⟨#[]⟩), (.slice none 0 0)] [] []),
 q (.st 4 (t 2) (t 110))]
def f135r16 : List SOper := [
 o 111 (.mv (t 0)),
 o 112 (.mv (t 3)),
 o 113 (.mv (t 4)),
 o 114 (.call 209 [(t 111), (t 112), (t 113), (b false)])]
def f135r17 : List SOper := [
 o 115 (.call 211 []),
 q (.st 4 (t 2) (t 115))]
def f135 : SCode := (.seq (.ops f135r0) (.seq (.ops f135r1) (.seq (.ops f135r2) (.seq (.ops f135r3) (.seq (.ops f135r4) (.seq (.ops f135r5) (.seq (.seq (.ops f135r6) (.cond (t 70) (.seq (.ops f135r7) (.seq (.ops f135r8) (.seq (.ops f135r9) (.seq (.ops f135r10) (.seq (.ops f135r11) (.seq (.ops f135r12) .ret)))))) .skip)) (.seq (.seq (.tree [94, 95, 96, 97, 98, 99, 100, 101, 102, 103, 93, 104, 105, 9, 10] f135t13) (.seq (.ops f135r14) (.cond (t 109) (.seq (.ops f135r15) .ret) .skip))) (.seq (.ops f135r16) (.seq (.ops f135r17) .ret))))))))))
def f135_ent : Ent := .code 116 f135 [.cn 2 4]
theorem f135_ok (oq : Nat → Value) (F : Nat → Prop) (h0 : Heap) : EntOK Tryz.prog oq F h0 135 f135_ent := ⟨soundD_of (fl := false) mixed Tryz.func135 rfl (by kernel_rfl) (by kernel_rfl) (by kernel_rfl), soundF_of (fl := false) mixed Tryz.func135 rfl (by kernel_rfl) (by kernel_rfl) (by kernel_rfl)⟩

/-! 136: tabor/basics.get -/
def f136r0 : List SOper := [
 o 2 (.new [(.int .i64 0), (.int .i64 0), (.string ⟨#[]⟩), (.slice none 0 0)])]
def f136r1 : List SOper := [
 o 5 (.mv (t 0)),
 o 6 (.call 142 [(t 5), (i 1), (i 1)])]
def f136r2 : List SOper := [
 o 8 (.mv (t 0)),
 o 9 (.mv (t 0)),
 o 10 (.nilck (t 9)),
 o 11 (.fa 2 (t 10)),
 o 12 (.ld1 (t 11)),
 o 13 (.ixs 1 (t 12) (i 0)),
 o 14 (.ld1 (t 13)),
 o 15 (.call 212 [(t 8), (t 14)]),
 o 7 (.mv (t 15)),
 o 16 (.ext (t 7) 0),
 o 17 (.ext (t 7) 1),
 o 3 (.mv (t 16)),
 o 4 (.mv (t 17))]
def f136r3 : List SOper := [
 o 18 (.mv (t 4)),
 o 19 (.un .not (t 18))]
def f136r4 : List SOper := [
 o 20 (.build [(.int .i64 0), (.int .i64 0), (.string ⟨#[]⟩), (.slice none 0 0)] [] []),
 q (.st 4 (t 2) (t 20))]
def f136r5 : List SOper := [
 o 21 (.mv (t 3)),
 o 22 (.call 213 [(t 21)]),
 q (.st 4 (t 2) (t 22))]
def f136 : SCode := (.seq (.ops f136r0) (.seq (.ops f136r1) (.seq (.ops f136r2) (.seq (.seq (.ops f136r3) (.cond (t 19) (.seq (.ops f136r4) .ret) .skip)) (.seq (.ops f136r5) .ret)))))
def f136_ent : Ent := .code 23 f136 [.cn 2 4]
theorem f136_ok (oq : Nat → Value) (F : Nat → Prop) (h0 : Heap) : EntOK Tryz.prog oq F h0 136 f136_ent := ⟨soundD_of (fl := false) mixed Tryz.func136 rfl (by kernel_rfl) (by kernel_rfl) (by kernel_rfl), soundF_of (fl := false) mixed Tryz.func136 rfl (by kernel_rfl) (by kernel_rfl) (by kernel_rfl)⟩

/-! 137: tabor/basics.del -/
def f137r0 : List SOper := [
 o 2 (.new [(.int .i64 0), (.int .i64 0), (.string ⟨#[]⟩), (.slice none 0 0)])]
def f137r1 : List SOper := [
 o 9 (.mv (t 0)),
 o 10 (.call 142 [(t 9), (i 1), (i 65536)])]
def f137r2 : List SOper := [
 o 11 (.mkm),
 o 3 (.mv (t 11))]
def f137r3 : List SOper := [
 o 4 (.mv (i 0))]
def f137r4 : List SOper := [
 o 12 (.mv (t 0)),
 o 13 (.nilck (t 12)),
 o 14 (.fa 2 (t 13)),
 o 15 (.ld1 (t 14)),
 o 16 (.len (t 15)),
 o 17 (.mv (i 0))]
def f137r5 : List SOper := [
 o 18 (.cmp .lss (t 17) (t 16))]
def f137r6 : List SOper := [
 o 19 (.ixs 1 (t 15) (t 17)),
 o 20 (.ld1 (t 19)),
 o 6 (.mv (t 20))]
def f137r7 : List SOper := [
 o 21 (.mv (t 3)),
 o 22 (.mv (t 6)),
 o 23 (.look .str (.int .i64 0) false (t 21) (t 22)),
 o 24 (.ar .add (t 23) (i 1)),
 q (.mup .str (t 21) (t 22) (t 24))]
def f137r8 : List SOper := [
 o 25 (.mv (t 3)),
 o 26 (.mv (t 6)),
 o 27 (.look .str (.int .i64 0) false (t 25) (t 26)),
 o 28 (.cmp .gtr (t 27) (i 1))]
def f137t9 : OTree := (.one (o 30 (.mv (t 0)))
 (.one (o 31 (.nilck (t 30)))
 (.one (o 32 (.fa 0 (t 31)))
 (.one (o 33 (.ld1 (t 32)))
 (.one (o 34 (.mv (t 6)))
 (.one (o 35 (.mv (t 0)))
 (.one (o 36 (.nilck (t 35)))
 (.one (o 37 (.fa 1 (t 36)))
 (.one (o 38 (.ld1 (t 37)))
 (.both (.one (o 39 (.call 29 [(t 33), (t 34), (t 38)]))
 (.one (o 29 (.mv (t 39)))
 (.one (o 40 (.ext (t 29) 0))
 (.one (o 41 (.ext (t 29) 1))
 (.one (o 7 (.new [(.int .i64 0), (.string ⟨#[]⟩), (.slice none 0 0), (.slice none 0 0), (.slice none 0 0), (.bool false), (.int .i64 0)]))
 (.one (q (.st 7 (t 7) (t 40)))
 (.one (o 8 (.mv (t 41)))
 .done))))))) (.one (o 7 (.new [(.int .i64 0), (.string ⟨#[]⟩), (.slice none 0 0), (.slice none 0 0), (.slice none 0 0), (.bool false), (.int .i64 0)]))
 (.one (o 39 (.call 29 [(t 33), (t 34), (t 38)]))
 (.one (o 29 (.mv (t 39)))
 (.one (o 40 (.ext (t 29) 0))
 (.one (o 41 (.ext (t 29) 1))
 (.one (q (.st 7 (t 7) (t 40)))
 (.one (o 8 (.mv (t 41)))
 .done)))))))))))))))))
def f137r10 : List SOper := [
 o 42 (.mv (t 8))]
def f137r11 : List SOper := [
 o 43 (.mv (t 4)),
 o 44 (.ar .add (t 43) (i 1)),
 o 4 (.mv (t 44))]
def f137r12 : List SOper := [
 o 45 (.mv (t 0)),
 o 46 (.mv (t 6)),
 o 47 (.build [(.int .i64 0), (.string ⟨#[]⟩), (.string ⟨#[]⟩), (.string ⟨#[]⟩), (.int .i64 0)] [(0, 1), (1, 1)] [(i 1), (t 46)]),
 o 48 (.bslice [(.int .i64 0), (.string ⟨#[]⟩), (.string ⟨#[]⟩), (.string ⟨#[]⟩), (.int .i64 0)] 1 [(0, 5)] [(t 47)]),
 o 49 (.call 210 [(t 45), (t 48)])]
def f137r13 : List SOper := [
 o 50 (.ar .add (t 17) (i 1)),
 o 17 (.mv (t 50))]
def f137l14 : SCode := (.seq (.ops f137r5) (.seq (.cond (t 18) .skip (.exit 0)) (.seq (.block 1 (.seq (.ops f137r6) (.seq (.seq (.ops f137r7) (.seq (.ops f137r8) (.cond (t 28) (.exit 1) .skip))) (.seq (.tree [30, 31, 32, 33, 34, 35, 36, 37, 38, 39, 29, 40, 41, 7, 8] f137t9) (.seq (.ops f137r10) (.cond (t 42) (.seq (.ops f137r11) (.ops f137r12)) .skip)))))) (.ops f137r13))))
def f137r15 : List SOper := [
 o 51 (.mv (t 4)),
 o 52 (.call 214 [(t 51)]),
 q (.st 4 (t 2) (t 52))]
def f137 : SCode := (.seq (.ops f137r0) (.seq (.ops f137r1) (.seq (.ops f137r2) (.seq (.ops f137r3) (.seq (.seq (.ops f137r4) (.block 0 (.loop f137l14))) (.seq (.ops f137r15) .ret))))))
def f137_ent : Ent := .code 53 f137 [.cn 2 4]
theorem f137_ok (oq : Nat → Value) (F : Nat → Prop) (h0 : Heap) : EntOK Tryz.prog oq F h0 137 f137_ent := ⟨soundD_of (fl := false) mixed Tryz.func137 rfl (by kernel_rfl) (by kernel_rfl) (by kernel_rfl), soundF_of (fl := false) mixed Tryz.func137 rfl (by kernel_rfl) (by kernel_rfl) (by kernel_rfl)⟩

/-! 138: tabor/basics.exists -/
def f138r0 : List SOper := [
 o 2 (.new [(.int .i64 0), (.int .i64 0), (.string ⟨#[]⟩), (.slice none 0 0)])]
def f138r1 : List SOper := [
 o 8 (.mv (t 0)),
 o 9 (.call 142 [(t 8), (i 1), (i 65536)])]
def f138r2 : List SOper := [
 o 3 (.mv (i 0))]
def f138r3 : List SOper := [
 o 10 (.mv (t 0)),
 o 11 (.nilck (t 10)),
 o 12 (.fa 2 (t 11)),
 o 13 (.ld1 (t 12)),
 o 14 (.len (t 13)),
 o 15 (.mv (i 0))]
def f138r4 : List SOper := [
 o 16 (.cmp .lss (t 15) (t 14))]
def f138r5 : List SOper := [
 o 17 (.ixs 1 (t 13) (t 15)),
 o 18 (.ld1 (t 17)),
 o 5 (.mv (t 18))]
def f138t6 : OTree := (.one (o 20 (.mv (t 0)))
 (.one (o 21 (.nilck (t 20)))
 (.one (o 22 (.fa 0 (t 21)))
 (.one (o 23 (.ld1 (t 22)))
 (.one (o 24 (.mv (t 5)))
 (.one (o 25 (.mv (t 0)))
 (.one (o 26 (.nilck (t 25)))
 (.one (o 27 (.fa 1 (t 26)))
 (.one (o 28 (.ld1 (t 27)))
 (.both (.one (o 29 (.call 29 [(t 23), (t 24), (t 28)]))
 (.one (o 19 (.mv (t 29)))
 (.one (o 30 (.ext (t 19) 0))
 (.one (o 31 (.ext (t 19) 1))
 (.one (o 6 (.new [(.int .i64 0), (.string ⟨#[]⟩), (.slice none 0 0), (.slice none 0 0), (.slice none 0 0), (.bool false), (.int .i64 0)]))
 (.one (q (.st 7 (t 6) (t 30)))
 (.one (o 7 (.mv (t 31)))
 .done))))))) (.one (o 6 (.new [(.int .i64 0), (.string ⟨#[]⟩), (.slice none 0 0), (.slice none 0 0), (.slice none 0 0), (.bool false), (.int .i64 0)]))
 (.one (o 29 (.call 29 [(t 23), (t 24), (t 28)]))
 (.one (o 19 (.mv (t 29)))
 (.one (o 30 (.ext (t 19) 0))
 (.one (o 31 (.ext (t 19) 1))
 (.one (q (.st 7 (t 6) (t 30)))
 (.one (o 7 (.mv (t 31)))
 .done)))))))))))))))))
def f138r7 : List SOper := [
 o 32 (.mv (t 7))]
def f138r8 : List SOper := [
 o 33 (.mv (t 3)),
 o 34 (.ar .add (t 33) (i 1)),
 o 3 (.mv (t 34))]
def f138r9 : List SOper := [
 o 35 (.ar .add (t 15) (i 1)),
 o 15 (.mv (t 35))]
def f138l10 : SCode := (.seq (.ops f138r4) (.seq (.cond (t 16) .skip (.exit 0)) (.seq (.block 1 (.seq (.ops f138r5) (.seq (.tree [20, 21, 22, 23, 24, 25, 26, 27, 28, 29, 19, 30, 31, 6, 7] f138t6) (.seq (.ops f138r7) (.cond (t 32) (.ops f138r8) .skip))))) (.ops f138r9))))
def f138r11 : List SOper := [
 o 36 (.mv (t 3)),
 o 37 (.call 214 [(t 36)]),
 q (.st 4 (t 2) (t 37))]
def f138 : SCode := (.seq (.ops f138r0) (.seq (.ops f138r1) (.seq (.ops f138r2) (.seq (.seq (.ops f138r3) (.block 0 (.loop f138l10))) (.seq (.ops f138r11) .ret)))))
def f138_ent : Ent := .code 38 f138 [.cn 2 4]
theorem f138_ok (oq : Nat → Value) (F : Nat → Prop) (h0 : Heap) : EntOK Tryz.prog oq F h0 138 f138_ent := ⟨soundD_of (fl := false) mixed Tryz.func138 rfl (by kernel_rfl) (by kernel_rfl) (by kernel_rfl), soundF_of (fl := false) mixed Tryz.func138 rfl (by kernel_rfl) (by kernel_rfl) (by kernel_rfl)⟩

/-! 139: tabor/basics.kind -/
def f139r0 : List SOper := [
 o 2 (.new [(.int .i64 0), (.int .i64 0), (.string ⟨#[]⟩), (.slice none 0 0)])]
def f139r1 : List SOper := [
 o 5 (.mv (t 0)),
 o 6 (.call 142 [(t 5), (i 1), (i 1)])]
def f139t2 : OTree := (.one (o 8 (.mv (t 0)))
 (.one (o 9 (.nilck (t 8)))
 (.one (o 10 (.fa 0 (t 9)))
 (.one (o 11 (.ld1 (t 10)))
 (.one (o 12 (.mv (t 0)))
 (.one (o 13 (.nilck (t 12)))
 (.one (o 14 (.fa 2 (t 13)))
 (.one (o 15 (.ld1 (t 14)))
 (.one (o 16 (.ixs 1 (t 15) (i 0)))
 (.one (o 17 (.ld1 (t 16)))
 (.one (o 18 (.mv (t 0)))
 (.one (o 19 (.nilck (t 18)))
 (.one (o 20 (.fa 1 (t 19)))
 (.one (o 21 (.ld1 (t 20)))
 (.both (.one (o 22 (.call 29 [(t 11), (t 17), (t 21)]))
 (.one (o 7 (.mv (t 22)))
 (.one (o 23 (.ext (t 7) 0))
 (.one (o 24 (.ext (t 7) 1))
 (.one (o 3 (.new [(.int .i64 0), (.string ⟨#[]⟩), (.slice none 0 0), (.slice none 0 0), (.slice none 0 0), (.bool false), (.int .i64 0)]))
 (.one (q (.st 7 (t 3) (t 23)))
 (.one (o 4 (.mv (t 24)))
 .done))))))) (.one (o 3 (.new [(.int .i64 0), (.string ⟨#[]⟩), (.slice none 0 0), (.slice none 0 0), (.slice none 0 0), (.bool false), (.int .i64 0)]))
 (.one (o 22 (.call 29 [(t 11), (t 17), (t 21)]))
 (.one (o 7 (.mv (t 22)))
 (.one (o 23 (.ext (t 7) 0))
 (.one (o 24 (.ext (t 7) 1))
 (.one (q (.st 7 (t 3) (t 23)))
 (.one (o 4 (.mv (t 24)))
 .done))))))))))))))))))))))
def f139r3 : List SOper := [
 o 25 (.build [(.string ⟨#[]⟩), (.string ⟨#[]⟩), (.string ⟨#[]⟩), (.string ⟨#[]⟩), (.string ⟨#[]⟩), (.string ⟨#[]⟩)] [(0, 1), (1, 1), (2, 1), (3, 1), (4, 1), (5, 1)] [(.const (.string ⟨#[110, 111, 110, 101]⟩)), (.const (.string ⟨#[115, 116, 114, 105, 110, 103]⟩)), (.const (.string ⟨#[104, 97, 115, 104]⟩)), (.const (.string ⟨#[108, 105, 115, 116]⟩)), (.const (.string ⟨#[115, 101, 116]⟩)), (.const (.string ⟨#[122, 115, 101, 116]⟩))]),
 o 26 (.fa 0 (t 3)),
 o 27 (.ld1 (t 26)),
 o 28 (.ixv 6 1 (t 25) (t 27)),
 o 29 (.build [(.int .i64 0), (.int .i64 0), (.string ⟨#[]⟩), (.slice none 0 0)] [(0, 1), (2, 1)] [(i 1), (t 28)]),
 q (.st 4 (t 2) (t 29))]
def f139 : SCode := (.seq (.ops f139r0) (.seq (.ops f139r1) (.seq (.tree [8, 9, 10, 11, 12, 13, 14, 15, 16, 17, 18, 19, 20, 21, 22, 7, 23, 24, 3, 4] f139t2) (.seq (.ops f139r3) .ret))))
def f139_ent : Ent := .code 30 f139 [.cn 2 4]
theorem f139_ok (oq : Nat → Value) (F : Nat → Prop) (h0 : Heap) : EntOK Tryz.prog oq F h0 139 f139_ent := ⟨soundD_of (fl := false) mixed Tryz.func139 rfl (by kernel_rfl) (by kernel_rfl) (by kernel_rfl), soundF_of (fl := false) mixed Tryz.func139 rfl (by kernel_rfl) (by kernel_rfl) (by kernel_rfl)⟩

/-! 140: tabor/basics.step -/
def f140r0 : List SOper := [
 o 1 (.box (t 0)),
 o 2 (.mv (.const .nilFunc))]
def f140r1 : List SOper := [
 o 3 (.fn 215 [] [(t 1)]),
 o 2 (.mv (t 3))]
def f140 : SCode := (.seq (.ops f140r0) (.seq (.ops f140r1) .ret))
def f140_ent : Ent := .code 4 f140 [.t 2]
theorem f140_ok (oq : Nat → Value) (F : Nat → Prop) (h0 : Heap) : EntOK Tryz.prog oq F h0 140 f140_ent := ⟨soundD_of (fl := false) mixed Tryz.func140 rfl (by kernel_rfl) (by kernel_rfl) (by kernel_rfl), soundF_of (fl := false) mixed Tryz.func140 rfl (by kernel_rfl) (by kernel_rfl) (by kernel_rfl)⟩

/-! 141: tabor/basics.commands$1 -/
def f141r0 : List SOper := [
 o 2 (.new [(.int .i64 0), (.int .i64 0), (.string ⟨#[]⟩), (.slice none 0 0)])]
def f141r1 : List SOper := [
 o 3 (.mv (t 0)),
 o 4 (.call 142 [(t 3), (i 2), (i 2)])]
def f141r2 : List SOper := [
 o 5 (.mv (t 0)),
 o 6 (.mv (t 0)),
 o 7 (.call 144 [(t 6), (i 1)]),
 o 8 (.call 143 [(t 5), (t 7)]),
 q (.st 4 (t 2) (t 8))]
def f141 : SCode := (.seq (.ops f141r0) (.seq (.ops f141r1) (.seq (.ops f141r2) .ret)))
def f141_ent : Ent := .code 9 f141 [.cn 2 4]
theorem f141_ok (oq : Nat → Value) (F : Nat → Prop) (h0 : Heap) : EntOK Tryz.prog oq F h0 141 f141_ent := ⟨soundD_of (fl := false) mixed Tryz.func141 rfl (by kernel_rfl) (by kernel_rfl) (by kernel_rfl), soundF_of (fl := false) mixed Tryz.func141 rfl (by kernel_rfl) (by kernel_rfl) (by kernel_rfl)⟩

/-! 142: (*tabor/basics.asked).many -/
def f142r0 : List SOper := [
 o 6 (.mv (t 0)),
 o 7 (.nilck (t 6)),
 o 8 (.fa 2 (t 7)),
 o 9 (.ld1 (t 8)),
 o 10 (.len (t 9)),
 o 11 (.mv (t 1)),
 o 12 (.cmp .geq (t 10) (t 11)),
 o 13 (.mv (t 12)),
 g 14 13 (.mv (t 0)),
 g 15 13 (.nilck (t 14)),
 g 16 13 (.fa 2 (t 15)),
 g 17 13 (.ld1 (t 16)),
 g 18 13 (.len (t 17)),
 g 19 13 (.mv (t 2)),
 g 20 13 (.cmp .leq (t 18) (t 19)),
 o 21 (.pick (t 13) (t 20) (b false)),
 o 22 (.call 207 [(t 21), (.const (.string ⟨#[69, 82, 82, 32, 97, 114, 103, 115]⟩))])]
def f142 : SCode := (.ops f142r0)
def f142_ent : Ent := .code 23 f142 []
theorem f142_ok (oq : Nat → Value) (F : Nat → Prop) (h0 : Heap) : EntOK Tryz.prog oq F h0 142 f142_ent := ⟨soundD_of (fl := false) mixed Tryz.func142 rfl (by kernel_rfl) (by kernel_rfl) (by kernel_rfl), soundF_of (fl := false) mixed Tryz.func142 rfl (by kernel_rfl) (by kernel_rfl) (by kernel_rfl)⟩

/-! 145: tabor/basics.more -/
def f145r0 : List SOper := [
 o 2 (.new [(.int .i64 0), (.int .i64 0), (.string ⟨#[]⟩), (.slice none 0 0)])]
def f145r1 : List SOper := [
 o 5 (.mv (t 0)),
 o 6 (.call 142 [(t 5), (i 2), (i 2)])]
def f145r2 : List SOper := [
 o 8 (.mv (t 0)),
 o 9 (.mv (t 0)),
 o 10 (.nilck (t 9)),
 o 11 (.fa 2 (t 10)),
 o 12 (.ld1 (t 11)),
 o 13 (.ixs 1 (t 12) (i 0)),
 o 14 (.ld1 (t 13)),
 o 15 (.call 212 [(t 8), (t 14)]),
 o 7 (.mv (t 15)),
 o 16 (.ext (t 7) 0),
 o 17 (.ext (t 7) 1),
 o 3 (.mv (t 16)),
 o 4 (.mv (t 17))]
def f145r3 : List SOper := [
 o 18 (.mv (t 0)),
 o 19 (.mv (t 0)),
 o 20 (.nilck (t 19)),
 o 21 (.fa 2 (t 20)),
 o 22 (.ld1 (t 21)),
 o 23 (.ixs 1 (t 22) (i 0)),
 o 24 (.ld1 (t 23)),
 o 25 (.mv (t 3)),
 o 26 (.mv (t 0)),
 o 27 (.nilck (t 26)),
 o 28 (.fa 2 (t 27)),
 o 29 (.ld1 (t 28)),
 o 30 (.ixs 1 (t 29) (i 1)),
 o 31 (.ld1 (t 30)),
 o 32 (.cat (t 25) (t 31)),
 o 33 (.call 209 [(t 18), (t 24), (t 32), (b true)])]
def f145r4 : List SOper := [
 o 34 (.mv (t 3)),
 o 35 (.lens (t 34)),
 o 36 (.mv (t 0)),
 o 37 (.nilck (t 36)),
 o 38 (.fa 2 (t 37)),
 o 39 (.ld1 (t 38)),
 o 40 (.ixs 1 (t 39) (i 1)),
 o 41 (.ld1 (t 40)),
 o 42 (.lens (t 41)),
 o 43 (.ar .add (t 35) (t 42)),
 o 44 (.call 214 [(t 43)]),
 q (.st 4 (t 2) (t 44))]
def f145 : SCode := (.seq (.ops f145r0) (.seq (.ops f145r1) (.seq (.ops f145r2) (.seq (.ops f145r3) (.seq (.ops f145r4) .ret)))))
def f145_ent : Ent := .code 45 f145 [.cn 2 4]
theorem f145_ok (oq : Nat → Value) (F : Nat → Prop) (h0 : Heap) : EntOK Tryz.prog oq F h0 145 f145_ent := ⟨soundD_of (fl := false) mixed Tryz.func145 rfl (by kernel_rfl) (by kernel_rfl) (by kernel_rfl), soundF_of (fl := false) mixed Tryz.func145 rfl (by kernel_rfl) (by kernel_rfl) (by kernel_rfl)⟩

/-! 146: tabor/basics.long -/
def f146r0 : List SOper := [
 o 2 (.new [(.int .i64 0), (.int .i64 0), (.string ⟨#[]⟩), (.slice none 0 0)])]
def f146r1 : List SOper := [
 o 5 (.mv (t 0)),
 o 6 (.call 142 [(t 5), (i 1), (i 1)])]
def f146r2 : List SOper := [
 o 8 (.mv (t 0)),
 o 9 (.mv (t 0)),
 o 10 (.nilck (t 9)),
 o 11 (.fa 2 (t 10)),
 o 12 (.ld1 (t 11)),
 o 13 (.ixs 1 (t 12) (i 0)),
 o 14 (.ld1 (t 13)),
 o 15 (.call 212 [(t 8), (t 14)]),
 o 7 (.mv (t 15)),
 o 16 (.ext (t 7) 0),
 o 17 (.ext (t 7) 1),
 o 3 (.mv (t 16)),
 o 4 (.mv (t 17))]
def f146r3 : List SOper := [
 o 18 (.mv (t 3)),
 o 19 (.lens (t 18)),
 o 20 (.call 214 [(t 19)]),
 q (.st 4 (t 2) (t 20))]
def f146 : SCode := (.seq (.ops f146r0) (.seq (.ops f146r1) (.seq (.ops f146r2) (.seq (.ops f146r3) .ret))))
def f146_ent : Ent := .code 21 f146 [.cn 2 4]
theorem f146_ok (oq : Nat → Value) (F : Nat → Prop) (h0 : Heap) : EntOK Tryz.prog oq F h0 146 f146_ent := ⟨soundD_of (fl := false) mixed Tryz.func146 rfl (by kernel_rfl) (by kernel_rfl) (by kernel_rfl), soundF_of (fl := false) mixed Tryz.func146 rfl (by kernel_rfl) (by kernel_rfl) (by kernel_rfl)⟩

/-! 147: tabor/basics.mget -/
def f147r0 : List SOper := [
 o 2 (.new [(.int .i64 0), (.int .i64 0), (.string ⟨#[]⟩), (.slice none 0 0)])]
def f147r1 : List SOper := [
 o 8 (.mv (t 0)),
 o 9 (.call 142 [(t 8), (i 1), (i 65536)])]
def f147r2 : List SOper := [
 o 3 (.mv (.const (.slice none 0 0)))]
def f147r3 : List SOper := [
 o 10 (.mv (t 0)),
 o 11 (.nilck (t 10)),
 o 12 (.fa 2 (t 11)),
 o 13 (.ld1 (t 12)),
 o 14 (.len (t 13)),
 o 15 (.mv (i 0))]
def f147r4 : List SOper := [
 o 16 (.cmp .lss (t 15) (t 14))]
def f147r5 : List SOper := [
 o 17 (.ixs 1 (t 13) (t 15)),
 o 18 (.ld1 (t 17)),
 o 5 (.mv (t 18))]
def f147t6 : OTree := (.one (o 20 (.mv (t 0)))
 (.one (o 21 (.nilck (t 20)))
 (.one (o 22 (.fa 0 (t 21)))
 (.one (o 23 (.ld1 (t 22)))
 (.one (o 24 (.mv (t 5)))
 (.one (o 25 (.mv (t 0)))
 (.one (o 26 (.nilck (t 25)))
 (.one (o 27 (.fa 1 (t 26)))
 (.one (o 28 (.ld1 (t 27)))
 (.both (.one (o 29 (.call 29 [(t 23), (t 24), (t 28)]))
 (.one (o 19 (.mv (t 29)))
 (.one (o 30 (.ext (t 19) 0))
 (.one (o 31 (.ext (t 19) 1))
 (.one (o 6 (.new [(.int .i64 0), (.string ⟨#[]⟩), (.slice none 0 0), (.slice none 0 0), (.slice none 0 0), (.bool false), (.int .i64 0)]))
 (.one (q (.st 7 (t 6) (t 30)))
 (.one (o 7 (.mv (t 31)))
 .done))))))) (.one (o 6 (.new [(.int .i64 0), (.string ⟨#[]⟩), (.slice none 0 0), (.slice none 0 0), (.slice none 0 0), (.bool false), (.int .i64 0)]))
 (.one (o 29 (.call 29 [(t 23), (t 24), (t 28)]))
 (.one (o 19 (.mv (t 29)))
 (.one (o 30 (.ext (t 19) 0))
 (.one (o 31 (.ext (t 19) 1))
 (.one (q (.st 7 (t 6) (t 30)))
 (.one (o 7 (.mv (t 31)))
 .done)))))))))))))))))
def f147r7 : List SOper := [
 o 32 (.mv (t 7)),
 o 33 (.mv (t 32)),
 g 34 33 (.fa 0 (t 6)),
 g 35 33 (.ld1 (t 34)),
 g 36 33 (.cmp .eql (t 35) (i 1)),
 o 37 (.pick (t 33) (t 36) (b false))]
def f147r8 : List SOper := [
 o 38 (.mv (t 3)),
 o 39 (.fa 1 (t 6)),
 o 40 (.ld1 (t 39)),
 o 41 (.call 213 [(t 40)]),
 o 42 (.bslice [(.int .i64 0), (.int .i64 0), (.string ⟨#[]⟩), (.slice none 0 0)] 1 [(0, 4)] [(t 41)]),
 o 43 (.app 4 56 [(.int .i64 0), (.int .i64 0), (.string ⟨#[]⟩), (.slice none 0 0)] (t 38) (t 42)),
 o 3 (.mv (t 43))]
def f147r9 : List SOper := [
 o 44 (.mv (t 3)),
 o 45 (.build [(.int .i64 0), (.int .i64 0), (.string ⟨#[]⟩), (.slice none 0 0)] [] []),
 o 46 (.bslice [(.int .i64 0), (.int .i64 0), (.string ⟨#[]⟩), (.slice none 0 0)] 1 [(0, 4)] [(t 45)]),
 o 47 (.app 4 56 [(.int .i64 0), (.int .i64 0), (.string ⟨#[]⟩), (.slice none 0 0)] (t 44) (t 46)),
 o 3 (.mv (t 47))]
def f147r10 : List SOper := [
 o 48 (.ar .add (t 15) (i 1)),
 o 15 (.mv (t 48))]
def f147l11 : SCode := (.seq (.ops f147r4) (.seq (.cond (t 16) .skip (.exit 0)) (.seq (.block 1 (.seq (.ops f147r5) (.seq (.tree [20, 21, 22, 23, 24, 25, 26, 27, 28, 29, 19, 30, 31, 6, 7] f147t6) (.seq (.ops f147r7) (.cond (t 37) (.ops f147r8) (.ops f147r9)))))) (.ops f147r10))))
def f147r12 : List SOper := [
 o 49 (.mv (t 3)),
 o 50 (.call 216 [(t 49)]),
 q (.st 4 (t 2) (t 50))]
def f147 : SCode := (.seq (.ops f147r0) (.seq (.ops f147r1) (.seq (.ops f147r2) (.seq (.seq (.ops f147r3) (.block 0 (.loop f147l11))) (.seq (.ops f147r12) .ret)))))
def f147_ent : Ent := .code 51 f147 [.cn 2 4]
theorem f147_ok (oq : Nat → Value) (F : Nat → Prop) (h0 : Heap) : EntOK Tryz.prog oq F h0 147 f147_ent := ⟨soundD_of (fl := false) mixed Tryz.func147 rfl (by kernel_rfl) (by kernel_rfl) (by kernel_rfl), soundF_of (fl := false) mixed Tryz.func147 rfl (by kernel_rfl) (by kernel_rfl) (by kernel_rfl)⟩

/-! 148: tabor/basics.mset -/
def f148r0 : List SOper := [
 o 2 (.new [(.int .i64 0), (.int .i64 0), (.string ⟨#[]⟩), (.slice none 0 0)])]
def f148r1 : List SOper := [
 o 7 (.mv (t 0)),
 o 8 (.call 142 [(t 7), (i 2), (i 65536)])]
def f148r2 : List SOper := [
 o 9 (.mv (t 0)),
 o 10 (.nilck (t 9)),
 o 11 (.fa 2 (t 10)),
 o 12 (.ld1 (t 11)),
 o 13 (.len (t 12)),
 o 14 (.rem (t 13) (i 2)),
 o 15 (.cmp .eql (t 14) (i 0)),
 o 16 (.call 207 [(t 15), (.const (.string ⟨#[69, 82, 82, 32, 97, 114, 103, 115]⟩))])]
def f148r3 : List SOper := [
 o 17 (.mkm),
 o 3 (.mv (t 17))]
def f148r4 : List SOper := [
 o 4 (.mv (i 0))]
def f148r5 : List SOper := [
 o 18 (.mv (t 4)),
 o 19 (.mv (t 0)),
 o 20 (.nilck (t 19)),
 o 21 (.fa 2 (t 20)),
 o 22 (.ld1 (t 21)),
 o 23 (.len (t 22)),
 o 24 (.cmp .lss (t 18) (t 23))]
def f148r6 : List SOper := [
 o 27 (.mv (t 0)),
 o 28 (.nilck (t 27)),
 o 29 (.fa 2 (t 28)),
 o 30 (.ld1 (t 29)),
 o 31 (.mv (t 4)),
 o 32 (.ixs 1 (t 30) (t 31)),
 o 33 (.ld1 (t 32)),
 o 34 (.mv (t 0)),
 o 35 (.nilck (t 34)),
 o 36 (.fa 2 (t 35)),
 o 37 (.ld1 (t 36)),
 o 38 (.mv (t 4)),
 o 39 (.ar .add (t 38) (i 1)),
 o 40 (.ixs 1 (t 37) (t 39)),
 o 41 (.ld1 (t 40)),
 o 5 (.mv (t 33)),
 o 6 (.mv (t 41))]
def f148r7 : List SOper := [
 o 42 (.mv (t 6)),
 o 43 (.lens (t 42)),
 o 44 (.cmp .leq (t 43) (i 1048576)),
 o 45 (.mv (t 44)),
 g 46 45 (.mv (t 5)),
 g 47 45 (.lens (t 46)),
 g 48 45 (.cmp .leq (t 47) (i 1048576)),
 o 49 (.pick (t 45) (t 48) (b false)),
 o 50 (.call 207 [(t 49), (.const (.string ⟨#[69, 82, 82, 32, 108, 111, 110, 103]⟩))])]
def f148r8 : List SOper := [
 o 51 (.mv (t 3)),
 o 52 (.mv (t 5)),
 o 53 (.look .str (.int .i64 0) false (t 51) (t 52)),
 o 54 (.ar .add (t 53) (i 1)),
 q (.mup .str (t 51) (t 52) (t 54))]
def f148r9 : List SOper := [
 o 55 (.mv (t 3)),
 o 56 (.mv (t 5)),
 o 57 (.look .str (.int .i64 0) false (t 55) (t 56)),
 o 58 (.cmp .eql (t 57) (i 1))]
def f148r10 : List SOper := [
 o 59 (.mv (t 0)),
 o 60 (.mv (t 0)),
 o 61 (.nilck (t 60)),
 o 62 (.fa 0 (t 61)),
 o 63 (.ld1 (t 62)),
 o 64 (.mv (t 0)),
 o 65 (.nilck (t 64)),
 o 66 (.fa 1 (t 65)),
 o 67 (.ld1 (t 66)),
 o 68 (.mv (t 5)),
 o 69 (.call 169 [(t 63), (t 67), (t 68)]),
 o 70 (.call 210 [(t 59), (t 69)])]
def f148r11 : List SOper := [
 o 71 (.mv (t 0)),
 o 72 (.mv (t 5)),
 o 73 (.mv (t 6)),
 o 74 (.build [(.int .i64 0), (.string ⟨#[]⟩), (.string ⟨#[]⟩), (.string ⟨#[]⟩), (.int .i64 0)] [(0, 1), (1, 1), (3, 1)] [(i 2), (t 72), (t 73)]),
 o 75 (.bslice [(.int .i64 0), (.string ⟨#[]⟩), (.string ⟨#[]⟩), (.string ⟨#[]⟩), (.int .i64 0)] 1 [(0, 5)] [(t 74)]),
 o 76 (.call 210 [(t 71), (t 75)])]
def f148r12 : List SOper := [
 o 25 (.mv (t 4)),
 o 26 (.ar .add (t 25) (i 2)),
 o 4 (.mv (t 26))]
def f148l13 : SCode := (.seq (.seq (.ops f148r5) (.cond (t 24) .skip (.exit 0))) (.seq (.block 1 (.seq (.ops f148r6) (.seq (.ops f148r7) (.seq (.seq (.ops f148r8) (.seq (.ops f148r9) (.cond (t 58) (.ops f148r10) .skip))) (.ops f148r11))))) (.ops f148r12)))
def f148r14 : List SOper := [
 o 77 (.call 211 []),
 q (.st 4 (t 2) (t 77))]
def f148 : SCode := (.seq (.ops f148r0) (.seq (.ops f148r1) (.seq (.ops f148r2) (.seq (.ops f148r3) (.seq (.seq (.ops f148r4) (.block 0 (.loop f148l13))) (.seq (.ops f148r14) .ret))))))
def f148_ent : Ent := .code 78 f148 [.cn 2 4]
theorem f148_ok (oq : Nat → Value) (F : Nat → Prop) (h0 : Heap) : EntOK Tryz.prog oq F h0 148 f148_ent := ⟨soundD_of (fl := false) mixed Tryz.func148 rfl (by kernel_rfl) (by kernel_rfl) (by kernel_rfl), soundF_of (fl := false) mixed Tryz.func148 rfl (by kernel_rfl) (by kernel_rfl) (by kernel_rfl)⟩

/-! 149: tabor/basics.expire -/
def f149r0 : List SOper := [
 o 2 (.new [(.int .i64 0), (.int .i64 0), (.string ⟨#[]⟩), (.slice none 0 0)])]
def f149r1 : List SOper := [
 o 6 (.mv (t 0)),
 o 7 (.call 142 [(t 6), (i 2), (i 2)])]
def f149r2 : List SOper := [
 o 8 (.mv (t 0)),
 o 9 (.call 144 [(t 8), (i 1)]),
 o 3 (.mv (t 9))]
def f149t3 : OTree := (.one (o 11 (.mv (t 0)))
 (.one (o 12 (.nilck (t 11)))
 (.one (o 13 (.fa 0 (t 12)))
 (.one (o 14 (.ld1 (t 13)))
 (.one (o 15 (.mv (t 0)))
 (.one (o 16 (.nilck (t 15)))
 (.one (o 17 (.fa 2 (t 16)))
 (.one (o 18 (.ld1 (t 17)))
 (.one (o 19 (.ixs 1 (t 18) (i 0)))
 (.one (o 20 (.ld1 (t 19)))
 (.one (o 21 (.mv (t 0)))
 (.one (o 22 (.nilck (t 21)))
 (.one (o 23 (.fa 1 (t 22)))
 (.one (o 24 (.ld1 (t 23)))
 (.both (.one (o 25 (.call 29 [(t 14), (t 20), (t 24)]))
 (.one (o 10 (.mv (t 25)))
 (.one (o 26 (.ext (t 10) 0))
 (.one (o 27 (.ext (t 10) 1))
 (.one (o 4 (.new [(.int .i64 0), (.string ⟨#[]⟩), (.slice none 0 0), (.slice none 0 0), (.slice none 0 0), (.bool false), (.int .i64 0)]))
 (.one (q (.st 7 (t 4) (t 26)))
 (.one (o 5 (.mv (t 27)))
 .done))))))) (.one (o 4 (.new [(.int .i64 0), (.string ⟨#[]⟩), (.slice none 0 0), (.slice none 0 0), (.slice none 0 0), (.bool false), (.int .i64 0)]))
 (.one (o 25 (.call 29 [(t 14), (t 20), (t 24)]))
 (.one (o 10 (.mv (t 25)))
 (.one (o 26 (.ext (t 10) 0))
 (.one (o 27 (.ext (t 10) 1))
 (.one (q (.st 7 (t 4) (t 26)))
 (.one (o 5 (.mv (t 27)))
 .done))))))))))))))))))))))
def f149r4 : List SOper := [
 o 28 (.mv (t 5)),
 o 29 (.un .not (t 28))]
def f149r5 : List SOper := [
 o 30 (.call 214 [(i 0)]),
 q (.st 4 (t 2) (t 30))]
def f149r6 : List SOper := [
 o 31 (.mv (t 3)),
 o 32 (.cmp .lss (t 31) (i 1))]
def f149r7 : List SOper := [
 o 33 (.mv (t 0)),
 o 34 (.mv (t 0)),
 o 35 (.nilck (t 34)),
 o 36 (.fa 2 (t 35)),
 o 37 (.ld1 (t 36)),
 o 38 (.ixs 1 (t 37) (i 0)),
 o 39 (.ld1 (t 38)),
 o 40 (.build [(.int .i64 0), (.string ⟨#[]⟩), (.string ⟨#[]⟩), (.string ⟨#[]⟩), (.int .i64 0)] [(0, 1), (1, 1)] [(i 1), (t 39)]),
 o 41 (.bslice [(.int .i64 0), (.string ⟨#[]⟩), (.string ⟨#[]⟩), (.string ⟨#[]⟩), (.int .i64 0)] 1 [(0, 5)] [(t 40)]),
 o 42 (.call 210 [(t 33), (t 41)])]
def f149t8 : OTree := (.one (o 43 (.mv (t 0)))
 (.one (o 44 (.mv (t 0)))
 (.one (o 45 (.nilck (t 44)))
 (.one (o 46 (.fa 2 (t 45)))
 (.one (o 50 (.mv (t 0)))
 (.one (o 51 (.nilck (t 50)))
 (.one (o 52 (.fa 1 (t 51)))
 (.one (o 53 (.ld1 (t 52)))
 (.one (o 54 (.mv (t 3)))
 (.one (o 47 (.ld1 (t 46)))
 (.one (o 48 (.ixs 1 (t 47) (i 0)))
 (.chk [o 47 (.ld1 (t 46))] (.one (o 49 (.ld1 (t 48)))
 (.one (o 55 (.call 208 [(t 53), (t 54)]))
 (.chk [o 49 (.ld1 (t 48)), o 47 (.ld1 (t 46))] (.one (o 56 (.build [(.int .i64 0), (.string ⟨#[]⟩), (.string ⟨#[]⟩), (.string ⟨#[]⟩), (.int .i64 0)] [(0, 1), (1, 1), (4, 1)] [(i 3), (t 49), (t 55)]))
 (.chk [o 49 (.ld1 (t 48)), o 47 (.ld1 (t 46))] (.one (o 57 (.bslice [(.int .i64 0), (.string ⟨#[]⟩), (.string ⟨#[]⟩), (.string ⟨#[]⟩), (.int .i64 0)] 1 [(0, 5)] [(t 56)]))
 (.one (o 58 (.call 210 [(t 43), (t 57)]))
 .done)))))))))))))))))))
def f149r9 : List SOper := [
 o 59 (.call 214 [(i 1)]),
 q (.st 4 (t 2) (t 59))]
def f149 : SCode := (.seq (.ops f149r0) (.seq (.ops f149r1) (.seq (.ops f149r2) (.seq (.seq (.tree [11, 12, 13, 14, 15, 16, 17, 18, 19, 20, 21, 22, 23, 24, 25, 10, 26, 27, 4, 5] f149t3) (.seq (.ops f149r4) (.cond (t 29) (.seq (.ops f149r5) .ret) .skip))) (.seq (.seq (.ops f149r6) (.cond (t 32) (.ops f149r7) (.tree [43, 44, 45, 46, 47, 48, 49, 50, 51, 52, 53, 54, 55, 56, 57, 58] f149t8))) (.seq (.ops f149r9) .ret))))))
def f149_ent : Ent := .code 60 f149 [.cn 2 4]
theorem f149_ok (oq : Nat → Value) (F : Nat → Prop) (h0 : Heap) : EntOK Tryz.prog oq F h0 149 f149_ent := ⟨soundD_of (fl := false) mixed Tryz.func149 rfl (by kernel_rfl) (by kernel_rfl) (by kernel_rfl), soundF_of (fl := false) mixed Tryz.func149 rfl (by kernel_rfl) (by kernel_rfl) (by kernel_rfl)⟩

/-! 150: tabor/basics.persist -/
def f150r0 : List SOper := [
 o 2 (.new [(.int .i64 0), (.int .i64 0), (.string ⟨#[]⟩), (.slice none 0 0)])]
def f150r1 : List SOper := [
 o 5 (.mv (t 0)),
 o 6 (.call 142 [(t 5), (i 1), (i 1)])]
def f150t2 : OTree := (.one (o 8 (.mv (t 0)))
 (.one (o 9 (.nilck (t 8)))
 (.one (o 10 (.fa 0 (t 9)))
 (.one (o 11 (.ld1 (t 10)))
 (.one (o 12 (.mv (t 0)))
 (.one (o 13 (.nilck (t 12)))
 (.one (o 14 (.fa 2 (t 13)))
 (.one (o 15 (.ld1 (t 14)))
 (.one (o 16 (.ixs 1 (t 15) (i 0)))
 (.one (o 17 (.ld1 (t 16)))
 (.one (o 18 (.mv (t 0)))
 (.one (o 19 (.nilck (t 18)))
 (.one (o 20 (.fa 1 (t 19)))
 (.one (o 21 (.ld1 (t 20)))
 (.both (.one (o 22 (.call 29 [(t 11), (t 17), (t 21)]))
 (.one (o 7 (.mv (t 22)))
 (.one (o 23 (.ext (t 7) 0))
 (.one (o 24 (.ext (t 7) 1))
 (.one (o 3 (.new [(.int .i64 0), (.string ⟨#[]⟩), (.slice none 0 0), (.slice none 0 0), (.slice none 0 0), (.bool false), (.int .i64 0)]))
 (.one (q (.st 7 (t 3) (t 23)))
 (.one (o 4 (.mv (t 24)))
 .done))))))) (.one (o 3 (.new [(.int .i64 0), (.string ⟨#[]⟩), (.slice none 0 0), (.slice none 0 0), (.slice none 0 0), (.bool false), (.int .i64 0)]))
 (.one (o 22 (.call 29 [(t 11), (t 17), (t 21)]))
 (.one (o 7 (.mv (t 22)))
 (.one (o 23 (.ext (t 7) 0))
 (.one (o 24 (.ext (t 7) 1))
 (.one (q (.st 7 (t 3) (t 23)))
 (.one (o 4 (.mv (t 24)))
 .done))))))))))))))))))))))
def f150r3 : List SOper := [
 o 25 (.mv (t 4)),
 o 26 (.un .not (t 25)),
 o 27 (.mv (t 26)),
 n 28 27 (.fa 5 (t 3)),
 n 29 27 (.ld1 (t 28)),
 n 30 27 (.un .not (t 29)),
 o 31 (.pick (t 27) (b true) (t 30))]
def f150r4 : List SOper := [
 o 32 (.call 214 [(i 0)]),
 q (.st 4 (t 2) (t 32))]
def f150r5 : List SOper := [
 o 33 (.mv (t 0)),
 o 34 (.mv (t 0)),
 o 35 (.nilck (t 34)),
 o 36 (.fa 2 (t 35)),
 o 37 (.ld1 (t 36)),
 o 38 (.ixs 1 (t 37) (i 0)),
 o 39 (.ld1 (t 38)),
 o 40 (.build [(.int .i64 0), (.string ⟨#[]⟩), (.string ⟨#[]⟩), (.string ⟨#[]⟩), (.int .i64 0)] [(0, 1), (1, 1)] [(i 4), (t 39)]),
 o 41 (.bslice [(.int .i64 0), (.string ⟨#[]⟩), (.string ⟨#[]⟩), (.string ⟨#[]⟩), (.int .i64 0)] 1 [(0, 5)] [(t 40)]),
 o 42 (.call 210 [(t 33), (t 41)])]
def f150r6 : List SOper := [
 o 43 (.call 214 [(i 1)]),
 q (.st 4 (t 2) (t 43))]
def f150 : SCode := (.seq (.ops f150r0) (.seq (.ops f150r1) (.seq (.tree [8, 9, 10, 11, 12, 13, 14, 15, 16, 17, 18, 19, 20, 21, 22, 7, 23, 24, 3, 4] f150t2) (.seq (.seq (.ops f150r3) (.cond (t 31) (.seq (.ops f150r4) .ret) .skip)) (.seq (.ops f150r5) (.seq (.ops f150r6) .ret))))))
def f150_ent : Ent := .code 44 f150 [.cn 2 4]
theorem f150_ok (oq : Nat → Value) (F : Nat → Prop) (h0 : Heap) : EntOK Tryz.prog oq F h0 150 f150_ent := ⟨soundD_of (fl := false) mixed Tryz.func150 rfl (by kernel_rfl) (by kernel_rfl) (by kernel_rfl), soundF_of (fl := false) mixed Tryz.func150 rfl (by kernel_rfl) (by kernel_rfl) (by kernel_rfl)⟩

/-! 151: tabor/basics.left -/
def f151r0 : List SOper := [
 o 2 (.new [(.int .i64 0), (.int .i64 0), (.string ⟨#[]⟩), (.slice none 0 0)])]
def f151r1 : List SOper := [
 o 5 (.mv (t 0)),
 o 6 (.call 142 [(t 5), (i 1), (i 1)])]
def f151t2 : OTree := (.one (o 8 (.mv (t 0)))
 (.one (o 9 (.nilck (t 8)))
 (.one (o 10 (.fa 0 (t 9)))
 (.one (o 11 (.ld1 (t 10)))
 (.one (o 12 (.mv (t 0)))
 (.one (o 13 (.nilck (t 12)))
 (.one (o 14 (.fa 2 (t 13)))
 (.one (o 15 (.ld1 (t 14)))
 (.one (o 16 (.ixs 1 (t 15) (i 0)))
 (.one (o 17 (.ld1 (t 16)))
 (.one (o 18 (.mv (t 0)))
 (.one (o 19 (.nilck (t 18)))
 (.one (o 20 (.fa 1 (t 19)))
 (.one (o 21 (.ld1 (t 20)))
 (.both (.one (o 22 (.call 29 [(t 11), (t 17), (t 21)]))
 (.one (o 7 (.mv (t 22)))
 (.one (o 23 (.ext (t 7) 0))
 (.one (o 24 (.ext (t 7) 1))
 (.one (o 3 (.new [(.int .i64 0), (.string ⟨#[]⟩), (.slice none 0 0), (.slice none 0 0), (.slice none 0 0), (.bool false), (.int .i64 0)]))
 (.one (q (.st 7 (t 3) (t 23)))
 (.one (o 4 (.mv (t 24)))
 .done))))))) (.one (o 3 (.new [(.int .i64 0), (.string ⟨#[]⟩), (.slice none 0 0), (.slice none 0 0), (.slice none 0 0), (.bool false), (.int .i64 0)]))
 (.one (o 22 (.call 29 [(t 11), (t 17), (t 21)]))
 (.one (o 7 (.mv (t 22)))
 (.one (o 23 (.ext (t 7) 0))
 (.one (o 24 (.ext (t 7) 1))
 (.one (q (.st 7 (t 3) (t 23)))
 (.one (o 4 (.mv (t 24)))
 .done))))))))))))))))))))))
def f151r3 : List SOper := [
 o 26 (.mv (t 4)),
 o 27 (.un .not (t 26)),
 o 25 (.mv (t 27))]
def f151r4 : List SOper := [
 o 28 (.call 214 [(i (-2))]),
 q (.st 4 (t 2) (t 28))]
def f151r5 : List SOper := [
 o 30 (.fa 5 (t 3)),
 o 31 (.ld1 (t 30)),
 o 32 (.un .not (t 31)),
 o 29 (.mv (t 32))]
def f151r6 : List SOper := [
 o 33 (.call 214 [(i (-1))]),
 q (.st 4 (t 2) (t 33))]
def f151r7 : List SOper := [
 o 34 (.fa 6 (t 3)),
 o 35 (.ld1 (t 34)),
 o 36 (.mv (t 0)),
 o 37 (.nilck (t 36)),
 o 38 (.fa 1 (t 37)),
 o 39 (.ld1 (t 38)),
 o 40 (.call 217 [(t 35), (t 39)]),
 o 41 (.call 214 [(t 40)]),
 q (.st 4 (t 2) (t 41))]
def f151 : SCode := (.seq (.ops f151r0) (.seq (.ops f151r1) (.seq (.tree [8, 9, 10, 11, 12, 13, 14, 15, 16, 17, 18, 19, 20, 21, 22, 7, 23, 24, 3, 4] f151t2) (.seq (.block 0 (.seq (.ops f151r3) (.cond (t 25) (.seq (.ops f151r4) .ret) (.seq (.ops f151r5) (.cond (t 29) (.seq (.ops f151r6) .ret) .skip))))) (.seq (.ops f151r7) .ret)))))
def f151_ent : Ent := .code 42 f151 [.cn 2 4]
theorem f151_ok (oq : Nat → Value) (F : Nat → Prop) (h0 : Heap) : EntOK Tryz.prog oq F h0 151 f151_ent := ⟨soundD_of (fl := false) mixed Tryz.func151 rfl (by kernel_rfl) (by kernel_rfl) (by kernel_rfl), soundF_of (fl := false) mixed Tryz.func151 rfl (by kernel_rfl) (by kernel_rfl) (by kernel_rfl)⟩

/-! 152: tabor/basics.names -/
def f152r0 : List SOper := [
 o 2 (.new [(.int .i64 0), (.int .i64 0), (.string ⟨#[]⟩), (.slice none 0 0)])]
def f152r1 : List SOper := [
 o 6 (.mv (t 0)),
 o 7 (.call 142 [(t 6), (i 0), (i 0)])]
def f152r2 : List SOper := [
 o 3 (.mv (.const (.slice none 0 0)))]
def f152r3 : List SOper := [
 o 8 (.mv (t 0)),
 o 9 (.nilck (t 8)),
 o 10 (.fa 0 (t 9)),
 o 11 (.ld1 (t 10)),
 o 12 (.mv (t 0)),
 o 13 (.nilck (t 12)),
 o 14 (.fa 1 (t 13)),
 o 15 (.ld1 (t 14)),
 o 18 (.mv (i 0)),
 o 16 (.call 218 [(t 11), (t 15)]),
 o 17 (.len (t 16))]
def f152r4 : List SOper := [
 o 19 (.cmp .lss (t 18) (t 17))]
def f152r5 : List SOper := [
 o 20 (.ixs 1 (t 16) (t 18)),
 o 21 (.ld1 (t 20)),
 o 5 (.mv (t 21))]
def f152r6 : List SOper := [
 o 22 (.mv (t 3)),
 o 23 (.mv (t 5)),
 o 24 (.call 213 [(t 23)]),
 o 25 (.bslice [(.int .i64 0), (.int .i64 0), (.string ⟨#[]⟩), (.slice none 0 0)] 1 [(0, 4)] [(t 24)]),
 o 26 (.app 4 56 [(.int .i64 0), (.int .i64 0), (.string ⟨#[]⟩), (.slice none 0 0)] (t 22) (t 25)),
 o 3 (.mv (t 26))]
def f152r7 : List SOper := [
 o 27 (.ar .add (t 18) (i 1)),
 o 18 (.mv (t 27))]
def f152l8 : SCode := (.seq (.ops f152r4) (.seq (.cond (t 19) .skip (.exit 0)) (.seq (.block 1 (.seq (.ops f152r5) (.ops f152r6))) (.ops f152r7))))
def f152r9 : List SOper := [
 o 28 (.mv (t 3)),
 o 29 (.call 216 [(t 28)]),
 q (.st 4 (t 2) (t 29))]
def f152 : SCode := (.seq (.ops f152r0) (.seq (.ops f152r1) (.seq (.ops f152r2) (.seq (.seq (.ops f152r3) (.block 0 (.loop f152l8))) (.seq (.ops f152r9) .ret)))))
def f152_ent : Ent := .code 30 f152 [.cn 2 4]
theorem f152_ok (oq : Nat → Value) (F : Nat → Prop) (h0 : Heap) : EntOK Tryz.prog oq F h0 152 f152_ent := ⟨soundD_of (fl := false) mixed Tryz.func152 rfl (by kernel_rfl) (by kernel_rfl) (by kernel_rfl), soundF_of (fl := false) mixed Tryz.func152 rfl (by kernel_rfl) (by kernel_rfl) (by kernel_rfl)⟩

/-! 153: tabor/basics.size -/
def f153r0 : List SOper := [
 o 2 (.new [(.int .i64 0), (.int .i64 0), (.string ⟨#[]⟩), (.slice none 0 0)])]
def f153r1 : List SOper := [
 o 3 (.mv (t 0)),
 o 4 (.call 142 [(t 3), (i 0), (i 0)])]
def f153r2 : List SOper := [
 o 5 (.mv (t 0)),
 o 6 (.nilck (t 5)),
 o 7 (.fa 0 (t 6)),
 o 8 (.ld1 (t 7)),
 o 9 (.mv (t 0)),
 o 10 (.nilck (t 9)),
 o 11 (.fa 1 (t 10)),
 o 12 (.ld1 (t 11)),
 o 13 (.call 219 [(t 8), (t 12)]),
 o 14 (.call 214 [(t 13)]),
 q (.st 4 (t 2) (t 14))]
def f153 : SCode := (.seq (.ops f153r0) (.seq (.ops f153r1) (.seq (.ops f153r2) .ret)))
def f153_ent : Ent := .code 15 f153 [.cn 2 4]
theorem f153_ok (oq : Nat → Value) (F : Nat → Prop) (h0 : Heap) : EntOK Tryz.prog oq F h0 153 f153_ent := ⟨soundD_of (fl := false) mixed Tryz.func153 rfl (by kernel_rfl) (by kernel_rfl) (by kernel_rfl), soundF_of (fl := false) mixed Tryz.func153 rfl (by kernel_rfl) (by kernel_rfl) (by kernel_rfl)⟩

/-! 154: tabor/basics.flush -/
def f154r0 : List SOper := [
 o 1 (.box (t 0)),
 o 2 (.new [(.int .i64 0), (.int .i64 0), (.string ⟨#[]⟩), (.slice none 0 0)])]
def f154r1 : List SOper := [
 o 4 (.ld1 (t 1)),
 o 5 (.call 142 [(t 4), (i 0), (i 0)])]
def f154r2 : List SOper := [
 o 6 (.ld1 (t 1)),
 o 7 (.nilck (t 6)),
 o 8 (.fa 0 (t 7)),
 o 9 (.ld1 (t 8)),
 o 10 (.call 78 [(t 9)])]
def f154r3 : List SOper := [
 o 3 (.mv (t 11))]
def f154r4 : List SOper := [
 o 13 (.ld1 (t 1)),
 o 14 (.mv (t 3)),
 o 15 (.build [(.int .i64 0), (.string ⟨#[]⟩), (.string ⟨#[]⟩), (.string ⟨#[]⟩), (.int .i64 0)] [(0, 1), (1, 1)] [(i 1), (t 14)]),
 o 16 (.bslice [(.int .i64 0), (.string ⟨#[]⟩), (.string ⟨#[]⟩), (.string ⟨#[]⟩), (.int .i64 0)] 1 [(0, 5)] [(t 15)]),
 o 17 (.call 210 [(t 13), (t 16)])]
def f154a5 : SCode := (.ops f154r3)
def f154b5 : SCode := (.block 1 (.ops f154r4))
def f154r6 : List SOper := [
 o 18 (.call 211 []),
 q (.st 4 (t 2) (t 18))]
def f154 : SCode := (.seq (.ops f154r0) (.seq (.ops f154r1) (.seq (.seq (.ops f154r2) (.block 0 (.rangeF (t 10) [11, 12] f154a5 f154b5))) (.seq (.ops f154r6) .ret))))
def f154_ent : Ent := .code 19 f154 [.cn 2 4]
theorem f154_ok (oq : Nat → Value) (F : Nat → Prop) (h0 : Heap) : EntOK Tryz.prog oq F h0 154 f154_ent := ⟨soundD_of (fl := false) mixed Tryz.func154 rfl (by kernel_rfl) (by kernel_rfl) (by kernel_rfl), soundF_of (fl := false) mixed Tryz.func154 rfl (by kernel_rfl) (by kernel_rfl) (by kernel_rfl)⟩

/-! 155: slices.insertionSortOrdered[string] -/
def f155r0 : List SOper := [
 o 8 (.mv (t 1)),
 o 9 (.ar .add (t 8) (i 1)),
 o 6 (.mv (t 9))]
def f155r1 : List SOper := [
 o 10 (.mv (t 6)),
 o 11 (.mv (t 2)),
 o 12 (.cmp .lss (t 10) (t 11))]
def f155r2 : List SOper := [
 o 15 (.mv (t 6)),
 o 7 (.mv (t 15))]
def f155r3 : List SOper := [
 o 16 (.mv (t 7)),
 o 17 (.mv (t 1)),
 o 18 (.cmp .gtr (t 16) (t 17)),
 o 19 (.mv (t 18)),
 g 20 19 (.mv (t 0)),
 g 21 19 (.mv (t 7)),
 g 22 19 (.ixs 1 (t 20) (t 21)),
 g 23 19 (.ld1 (t 22)),
 g 24 19 (.mv (t 0)),
 g 25 19 (.mv (t 7)),
 g 26 19 (.ar .sub (t 25) (i 1)),
 g 27 19 (.ixs 1 (t 24) (t 26)),
 g 28 19 (.ld1 (t 27)),
 g 29 19 (.call 161 [(t 23), (t 28)]),
 o 30 (.pick (t 19) (t 29) (b false))]
def f155r4 : List SOper := [
 o 33 (.mv (t 0)),
 o 34 (.mv (t 7)),
 o 35 (.mv (t 0)),
 o 36 (.mv (t 7)),
 o 37 (.ar .sub (t 36) (i 1)),
 o 38 (.mv (t 0)),
 o 39 (.mv (t 7)),
 o 40 (.ar .sub (t 39) (i 1)),
 o 41 (.ixs 1 (t 38) (t 40)),
 o 42 (.ld1 (t 41)),
 o 43 (.mv (t 0)),
 o 44 (.mv (t 7)),
 o 45 (.ixs 1 (t 43) (t 44)),
 o 46 (.ld1 (t 45)),
 o 47 (.ixs 1 (t 33) (t 34)),
 q (.st 1 (t 47) (t 42)),
 o 48 (.ixs 1 (t 35) (t 37)),
 q (.st 1 (t 48) (t 46))]
def f155r5 : List SOper := [
 o 31 (.mv (t 7)),
 o 32 (.ar .sub (t 31) (i 1)),
 o 7 (.mv (t 32))]
def f155l6 : SCode := (.seq (.seq (.ops f155r3) (.cond (t 30) .skip (.exit 2))) (.seq (.block 3 (.ops f155r4)) (.ops f155r5)))
def f155r7 : List SOper := [
 o 13 (.mv (t 6)),
 o 14 (.ar .add (t 13) (i 1)),
 o 6 (.mv (t 14))]
def f155l8 : SCode := (.seq (.seq (.ops f155r1) (.cond (t 12) .skip (.exit 0))) (.seq (.block 1 (.seq (.ops f155r2) (.block 2 (.loop f155l6)))) (.ops f155r7)))
def f155 : SCode := (.seq (.ops f155r0) (.block 0 (.loop f155l8)))
def f155_ent : Ent := .code 49 f155 []
theorem f155_ok (oq : Nat → Value) (F : Nat → Prop) (h0 : Heap) : EntOK Tryz.prog oq F h0 155 f155_ent := ⟨soundD_of (fl := false) mixed Tryz.func155 rfl (by kernel_rfl) (by kernel_rfl) (by kernel_rfl), soundF_of (fl := false) mixed Tryz.func155 rfl (by kernel_rfl) (by kernel_rfl) (by kernel_rfl)⟩

/-! 165: math/bits.Len64 -/
def f165r0 : List SOper := [
 o 2 (.mv (i 0))]
def f165r1 : List SOper := [
 o 3 (.mv (t 0)),
 o 4 (.cmp .geq (t 3) (.const (.int .u64 4294967296)))]
def f165r2 : List SOper := [
 o 5 (.mv (t 0)),
 o 6 (.sh .u64 false 32 (t 5)),
 o 0 (.mv (t 6))]
def f165r3 : List SOper := [
 o 2 (.mv (i 32))]
def f165r4 : List SOper := [
 o 7 (.mv (t 0)),
 o 8 (.cmp .geq (t 7) (.const (.int .u64 65536)))]
def f165r5 : List SOper := [
 o 9 (.mv (t 0)),
 o 10 (.sh .u64 false 16 (t 9)),
 o 0 (.mv (t 10))]
def f165r6 : List SOper := [
 o 11 (.mv (t 2)),
 o 12 (.ar .add (t 11) (i 16)),
 o 2 (.mv (t 12))]
def f165r7 : List SOper := [
 o 13 (.mv (t 0)),
 o 14 (.cmp .geq (t 13) (.const (.int .u64 256)))]
def f165r8 : List SOper := [
 o 15 (.mv (t 0)),
 o 16 (.sh .u64 false 8 (t 15)),
 o 0 (.mv (t 16))]
def f165r9 : List SOper := [
 o 17 (.mv (t 2)),
 o 18 (.ar .add (t 17) (i 8)),
 o 2 (.mv (t 18))]
def f165r10 : List SOper := [
 o 19 (.mv (t 2)),
 o 20 (.mv (t 0)),
 o 21 (.cvt .u8 (t 20)),
 o 22 (.ixc (.const (.string ⟨#[0, 1, 2, 2, 3, 3, 3, 3, 4, 4, 4, 4, 4, 4, 4, 4, 5, 5, 5, 5, 5, 5, 5, 5, 5, 5, 5, 5, 5, 5, 5, 5, 6, 6, 6, 6, 6, 6, 6, 6, 6, 6, 6, 6, 6, 6, 6, 6, 6, 6, 6, 6, 6, 6, 6, 6, 6, 6, 6, 6, 6, 6, 6, 6, 7, 7, 7, 7, 7, 7, 7, 7, 7, 7, 7, 7, 7, 7, 7, 7, 7, 7, 7, 7, 7, 7, 7, 7, 7, 7, 7, 7, 7, 7, 7, 7, 7, 7, 7, 7, 7, 7, 7, 7, 7, 7, 7, 7, 7, 7, 7, 7, 7, 7, 7, 7, 7, 7, 7, 7, 7, 7, 7, 7, 7, 7, 7, 7, 8, 8, 8, 8, 8, 8, 8, 8, 8, 8, 8, 8, 8, 8, 8, 8, 8, 8, 8, 8, 8, 8, 8, 8, 8, 8, 8, 8, 8, 8, 8, 8, 8, 8, 8, 8, 8, 8, 8, 8, 8, 8, 8, 8, 8, 8, 8, 8, 8, 8, 8, 8, 8, 8, 8, 8, 8, 8, 8, 8, 8, 8, 8, 8, 8, 8, 8, 8, 8, 8, 8, 8, 8, 8, 8, 8, 8, 8, 8, 8, 8, 8, 8, 8, 8, 8, 8, 8, 8, 8, 8, 8, 8, 8, 8, 8, 8, 8, 8, 8, 8, 8, 8, 8, 8, 8, 8, 8, 8, 8, 8, 8, 8, 8, 8, 8, 8, 8, 8, 8, 8, 8, 8, 8, 8, 8, 8, 8]⟩)) (t 21)),
 o 23 (.cvt .i64 (t 22)),
 o 24 (.ar .add (t 19) (t 23)),
 o 2 (.mv (t 24))]
def f165 : SCode := (.seq (.ops f165r0) (.seq (.seq (.ops f165r1) (.cond (t 4) (.seq (.ops f165r2) (.ops f165r3)) .skip)) (.seq (.seq (.ops f165r4) (.cond (t 8) (.seq (.ops f165r5) (.ops f165r6)) .skip)) (.seq (.seq (.ops f165r7) (.cond (t 14) (.seq (.ops f165r8) (.ops f165r9)) .skip)) (.seq (.ops f165r10) .ret)))))
def f165_ent : Ent := .code 25 f165 [.t 2]
theorem f165_ok (oq : Nat → Value) (F : Nat → Prop) (h0 : Heap) : EntOK Tryz.prog oq F h0 165 f165_ent := ⟨soundD_of (fl := false) mixed Tryz.func165 rfl (by kernel_rfl) (by kernel_rfl) (by kernel_rfl), soundF_of (fl := false) mixed Tryz.func165 rfl (by kernel_rfl) (by kernel_rfl) (by kernel_rfl)⟩

/-! 206: maps.Keys[map[string]*tabor/api.Thing,string,*tabor/api.Thing]$1 -/
def f206r0 : List SOper := [
 o 4 (.ld1 (t 1)),
 o 5 (.rng (t 4))]
def f206r1 : List SOper := [
 o 6 (.nxt (t 5)),
 o 7 (.ext (t 6) 0)]
def f206r2 : List SOper := [
 o 8 (.ent (t 5)),
 o 9 (.ext (t 8) 0),
 o 3 (.mv (t 9))]
def f206r3 : List SOper := [
 o 10 (.mv (t 0)),
 o 11 (.mv (t 3)),
 o 12 (.callv (t 10) [(t 11)]),
 o 13 (.un .not (t 12))]
def f206l4 : SCode := (.seq (.ops f206r1) (.seq (.cond (t 7) .skip (.exit 0)) (.block 1 (.seq (.ops f206r2) (.seq (.ops f206r3) (.cond (t 13) .ret .skip))))))
def f206 : SCode := (.seq (.ops f206r0) (.block 0 (.loop f206l4)))
def f206_ent : Ent := .code 14 f206 []
theorem f206_ok (oq : Nat → Value) (F : Nat → Prop) (h0 : Heap) : EntOK Tryz.prog oq F h0 206 f206_ent := ⟨soundD_of (fl := false) mixed Tryz.func206 rfl (by kernel_rfl) (by kernel_rfl) (by kernel_rfl), soundF_of (fl := false) mixed Tryz.func206 rfl (by kernel_rfl) (by kernel_rfl) (by kernel_rfl)⟩

/-! 207: tabor/basics.must -/
def f207r0 : List SOper := [
 o 4 (.mv (t 0)),
 o 5 (.un .not (t 4))]
def f207r1 : List SOper := [
 o 6 (.mv (t 1)),
 o 7 (.build [(.string ⟨#[]⟩)] [(0, 1)] [(t 6)]),
 o 8 (.mki 113 (t 7)),
 q (.pan (t 8))]
def f207 : SCode := (.seq (.ops f207r0) (.cond (t 5) (.ops f207r1) .skip))
def f207_ent : Ent := .code 9 f207 []
theorem f207_ok (oq : Nat → Value) (F : Nat → Prop) (h0 : Heap) : EntOK Tryz.prog oq F h0 207 f207_ent := ⟨soundD_of (fl := false) mixed Tryz.func207 rfl (by kernel_rfl) (by kernel_rfl) (by kernel_rfl), soundF_of (fl := false) mixed Tryz.func207 rfl (by kernel_rfl) (by kernel_rfl) (by kernel_rfl)⟩

/-! 211: tabor/basics.ok -/
def f211r0 : List SOper := [
 o 0 (.new [(.int .i64 0), (.int .i64 0), (.string ⟨#[]⟩), (.slice none 0 0)])]
def f211r1 : List SOper := [
 o 1 (.build [(.int .i64 0), (.int .i64 0), (.string ⟨#[]⟩), (.slice none 0 0)] [(0, 1), (2, 1)] [(i 1), (.const (.string ⟨#[79, 75]⟩))]),
 q (.st 4 (t 0) (t 1))]
def f211 : SCode := (.seq (.ops f211r0) (.seq (.ops f211r1) .ret))
def f211_ent : Ent := .code 2 f211 [.cn 0 4]
theorem f211_ok (oq : Nat → Value) (F : Nat → Prop) (h0 : Heap) : EntOK Tryz.prog oq F h0 211 f211_ent := ⟨soundD_of (fl := false) mixed Tryz.func211 rfl (by kernel_rfl) (by kernel_rfl) (by kernel_rfl), soundF_of (fl := false) mixed Tryz.func211 rfl (by kernel_rfl) (by kernel_rfl) (by kernel_rfl)⟩

/-! 214: tabor/basics.number -/
def f214r0 : List SOper := [
 o 2 (.new [(.int .i64 0), (.int .i64 0), (.string ⟨#[]⟩), (.slice none 0 0)])]
def f214r1 : List SOper := [
 o 3 (.mv (t 0)),
 o 4 (.build [(.int .i64 0), (.int .i64 0), (.string ⟨#[]⟩), (.slice none 0 0)] [(0, 1), (1, 1)] [(i 3), (t 3)]),
 q (.st 4 (t 2) (t 4))]
def f214 : SCode := (.seq (.ops f214r0) (.seq (.ops f214r1) .ret))
def f214_ent : Ent := .code 5 f214 [.cn 2 4]
theorem f214_ok (oq : Nat → Value) (F : Nat → Prop) (h0 : Heap) : EntOK Tryz.prog oq F h0 214 f214_ent := ⟨soundD_of (fl := false) mixed Tryz.func214 rfl (by kernel_rfl) (by kernel_rfl) (by kernel_rfl), soundF_of (fl := false) mixed Tryz.func214 rfl (by kernel_rfl) (by kernel_rfl) (by kernel_rfl)⟩

/-! 215: tabor/basics.step$1 -/
def f215r0 : List SOper := [
 o 3 (.new [(.int .i64 0), (.int .i64 0), (.string ⟨#[]⟩), (.slice none 0 0)])]
def f215r1 : List SOper := [
 o 4 (.mv (t 0)),
 o 5 (.call 142 [(t 4), (i 1), (i 1)])]
def f215r2 : List SOper := [
 o 6 (.mv (t 0)),
 o 7 (.ld1 (t 1)),
 o 8 (.call 143 [(t 6), (t 7)]),
 q (.st 4 (t 3) (t 8))]
def f215 : SCode := (.seq (.ops f215r0) (.seq (.ops f215r1) (.seq (.ops f215r2) .ret)))
def f215_ent : Ent := .code 9 f215 [.cn 3 4]
theorem f215_ok (oq : Nat → Value) (F : Nat → Prop) (h0 : Heap) : EntOK Tryz.prog oq F h0 215 f215_ent := ⟨soundD_of (fl := false) mixed Tryz.func215 rfl (by kernel_rfl) (by kernel_rfl) (by kernel_rfl), soundF_of (fl := false) mixed Tryz.func215 rfl (by kernel_rfl) (by kernel_rfl) (by kernel_rfl)⟩

/-! 216: tabor/basics.list -/
def f216r0 : List SOper := [
 o 2 (.new [(.int .i64 0), (.int .i64 0), (.string ⟨#[]⟩), (.slice none 0 0)])]
def f216r1 : List SOper := [
 o 3 (.mv (t 0)),
 o 4 (.build [(.int .i64 0), (.int .i64 0), (.string ⟨#[]⟩), (.slice none 0 0)] [(0, 1), (3, 1)] [(i 5), (t 3)]),
 q (.st 4 (t 2) (t 4))]
def f216 : SCode := (.seq (.ops f216r0) (.seq (.ops f216r1) .ret))
def f216_ent : Ent := .code 5 f216 [.cn 2 4]
theorem f216_ok (oq : Nat → Value) (F : Nat → Prop) (h0 : Heap) : EntOK Tryz.prog oq F h0 216 f216_ent := ⟨soundD_of (fl := false) mixed Tryz.func216 rfl (by kernel_rfl) (by kernel_rfl) (by kernel_rfl), soundF_of (fl := false) mixed Tryz.func216 rfl (by kernel_rfl) (by kernel_rfl) (by kernel_rfl)⟩

/-! 218: (*tabor/keys.Keys).Names -/
def f218r0 : List SOper := [
 o 3 (.box (t 1)),
 o 4 (.mv (.const (.slice none 0 0)))]
def f218r1 : List SOper := [
 o 5 (.new [(.slice none 0 0)])]
def f218r2 : List SOper := [
 o 8 (.mv (t 0)),
 o 9 (.call 78 [(t 8)])]
def f218r3 : List SOper := [
 o 6 (.mv (t 10))]
def f218r4 : List SOper := [
 o 7 (.new [(.int .i64 0), (.string ⟨#[]⟩), (.slice none 0 0), (.slice none 0 0), (.slice none 0 0), (.bool false), (.int .i64 0)]),
 q (.st 7 (t 7) (t 11))]
def f218r5 : List SOper := [
 o 12 (.ldn 7 (t 7)),
 o 13 (.ld1 (t 3)),
 o 14 (.call 74 [(t 12), (t 13)]),
 o 15 (.un .not (t 14))]
def f218r6 : List SOper := [
 o 16 (.ld1 (t 5)),
 o 17 (.mv (t 6)),
 o 18 (.bslice [(.string ⟨#[]⟩)] 1 [(0, 1)] [(t 17)]),
 o 19 (.app 1 16 [(.string ⟨#[]⟩)] (t 16) (t 18)),
 q (.st 1 (t 5) (t 19))]
def f218a7 : SCode := (.seq (.ops f218r3) (.ops f218r4))
def f218b7 : SCode := (.block 1 (.seq (.ops f218r5) (.cond (t 15) (.ops f218r6) .skip)))
def f218r8 : List SOper := [
 o 20 (.ld1 (t 5)),
 o 4 (.mv (t 20))]
def f218 : SCode := (.seq (.ops f218r0) (.seq (.ops f218r1) (.seq (.seq (.ops f218r2) (.block 0 (.rangeF (t 9) [10, 11] f218a7 f218b7))) (.seq (.ops f218r8) .ret))))
def f218_ent : Ent := .code 21 f218 [.t 4]
theorem f218_ok (oq : Nat → Value) (F : Nat → Prop) (h0 : Heap) : EntOK Tryz.prog oq F h0 218 f218_ent := ⟨soundD_of (fl := false) mixed Tryz.func218 rfl (by kernel_rfl) (by kernel_rfl) (by kernel_rfl), soundF_of (fl := false) mixed Tryz.func218 rfl (by kernel_rfl) (by kernel_rfl) (by kernel_rfl)⟩

/-! 219: (*tabor/keys.Keys).Size -/
def f219r0 : List SOper := [
 o 4 (.mv (i 0))]
def f219r1 : List SOper := [
 o 5 (.mv (t 0)),
 o 6 (.mv (t 1)),
 o 7 (.call 218 [(t 5), (t 6)]),
 o 8 (.len (t 7)),
 o 4 (.mv (t 8))]
def f219 : SCode := (.seq (.ops f219r0) (.seq (.ops f219r1) .ret))
def f219_ent : Ent := .code 9 f219 [.t 4]
theorem f219_ok (oq : Nat → Value) (F : Nat → Prop) (h0 : Heap) : EntOK Tryz.prog oq F h0 219 f219_ent := ⟨soundD_of (fl := false) mixed Tryz.func219 rfl (by kernel_rfl) (by kernel_rfl) (by kernel_rfl), soundF_of (fl := false) mixed Tryz.func219 rfl (by kernel_rfl) (by kernel_rfl) (by kernel_rfl)⟩

end Go.Proofs.YtjinlabdkegjmaaGreatDoor.Q
