/-
  Functions as runs take them. Printed by a program (wip/prun.lean).
-/
import Derived.Test.YtigolfakcblnjaaGreatDoorSxYJ
import Derived.Test.YtigolfakcblnjaaGreatDoorProg
set_option maxRecDepth 100000
namespace Go.Proofs.YtigolfakcblnjaaGreatDoor.Q
open Go Go.Sx Go.Sx.S

theorem mixed : Tryz.prog.follows .mixedOrders = true := by kernel_rfl

/-! 17: tabor/basics.Do -/
def f17r0 : List SOper := [
 o 6 (.new [(.int .i64 0), (.int .i64 0), (.string ⟨#[]⟩), (.slice none 0 0)]),
 o 7 (.new [(.slice none 0 0)]),
 o 8 (.mv (b false))]
def f17r1 : List SOper := [
 o 11 (.mv (t 2)),
 o 12 (.len (t 11)),
 o 13 (.cmp .eql (t 12) (i 0)),
 o 14 (.mv (t 13)),
 n 15 14 (.mv (t 0)),
 n 16 14 (.call 37 [(t 15), (.const (.pointer none))]),
 o 17 (.pick (t 14) (b true) (t 16))]
def f17r2 : List SOper := [
 o 18 (.build [(.int .i64 0), (.int .i64 0), (.string ⟨#[]⟩), (.slice none 0 0)] [] []),
 q (.st 4 (t 6) (t 18)),
 q (.st 1 (t 7) (.const (.slice none 0 0))),
 o 8 (.mv (b false))]
def f17t3 : OTree := (.one (o 21 (.mv (t 2)))
 (.one (o 22 (.ixs 1 (t 21) (i 0)))
 (.one (o 23 (.ld1 (t 22)))
 (.one (o 20 (.call 36 []))
 (.chk [o 23 (.ld1 (t 22))] (.one (o 24 (.call 38 [(t 23)]))
 (.one (o 25 (.look .str .nilFunc true (t 20) (t 24)))
 (.one (o 19 (.mv (t 25)))
 (.one (o 26 (.ext (t 19) 0))
 (.one (o 27 (.ext (t 19) 1))
 (.one (o 9 (.mv (t 26)))
 (.one (o 8 (.mv (t 27)))
 .done))))))))))))
def f17r4 : List SOper := [
 o 28 (.mv (t 8)),
 o 29 (.un .not (t 28))]
def f17r5 : List SOper := [
 o 30 (.build [(.int .i64 0), (.int .i64 0), (.string ⟨#[]⟩), (.slice none 0 0)] [] []),
 q (.st 4 (t 6) (t 30)),
 q (.st 1 (t 7) (.const (.slice none 0 0))),
 o 8 (.mv (b false))]
def f17r6 : List SOper := [
 o 31 (.fn 39 [] [(t 6), (t 7)])]
def f17r7 : List SOper := [
 o 32 (.mv (t 0)),
 o 33 (.mv (t 1)),
 o 34 (.mv (t 2)),
 o 35 (.slc 1 (t 34) (some (i 1)) none),
 o 36 (.build [(.pointer none), (.int .i64 0), (.slice none 0 0), (.slice none 0 0)] [(0, 1), (1, 1), (2, 1)] [(t 32), (t 33), (t 35)]),
 o 37 (.box (t 36)),
 o 10 (.mv (t 37))]
def f17r8 : List SOper := [
 o 38 (.mv (t 9)),
 o 39 (.mv (t 10)),
 o 40 (.callv (t 38) [(t 39)]),
 q (.st 4 (t 6) (t 40))]
def f17t9 : OTree := (.one (o 41 (.ldn 4 (t 6)))
 (.one (o 42 (.mv (t 10)))
 (.one (o 43 (.nilck (t 42)))
 (.one (o 44 (.fa 3 (t 43)))
 (.one (o 45 (.ld1 (t 44)))
 (.one (q (.st 4 (t 6) (t 41)))
 (.chk [o 45 (.ld1 (t 44))] (.one (q (.st 1 (t 7) (t 45)))
 (.one (o 8 (.mv (b true)))
 .done)))))))))
def f17 : SCode := (.seq (.ops f17r0) (.seq (.seq (.ops f17r1) (.cond (t 17) (.seq (.ops f17r2) .ret) .skip)) (.seq (.tree [20, 21, 22, 23, 24, 25, 19, 26, 27, 9, 8] f17t3) (.seq (.seq (.ops f17r4) (.cond (t 29) (.seq (.ops f17r5) .ret) .skip)) (.seq (.dfr f17r6 none (t 31) []) (.seq (.ops f17r7) (.seq (.ops f17r8) (.seq (.tree [41, 42, 43, 44, 45, 8] f17t9) .ret))))))))
def f17_ent : Ent := .code 46 f17 [.cn 6 4, .c1 7, .t 8]
theorem f17_ok (oq : Nat → Value) (F : Nat → Prop) (h0 : Heap) : EntOK Tryz.prog oq F h0 17 f17_ent := ⟨soundD_of (fl := false) mixed Tryz.func17 rfl (by kernel_rfl) (by kernel_rfl) (by kernel_rfl), soundF_of (fl := false) mixed Tryz.func17 rfl (by kernel_rfl) (by kernel_rfl) (by kernel_rfl)⟩

/-! 18: tabor/keys.New -/
def f18r0 : List SOper := [
 o 0 (.mv (.const (.pointer none)))]
def f18r1 : List SOper := [
 o 1 (.mkm),
 o 2 (.build [(.map none)] [(0, 1)] [(t 1)]),
 o 3 (.box (t 2)),
 o 4 (.build [(.pointer none)] [(0, 1)] [(t 3)]),
 o 5 (.box (t 4)),
 o 0 (.mv (t 5))]
def f18 : SCode := (.seq (.ops f18r0) (.seq (.ops f18r1) .ret))
def f18_ent : Ent := .code 6 f18 [.t 0]
theorem f18_ok (oq : Nat → Value) (F : Nat → Prop) (h0 : Heap) : EntOK Tryz.prog oq F h0 18 f18_ent := ⟨soundD_of (fl := false) mixed Tryz.func18 rfl (by kernel_rfl) (by kernel_rfl) (by kernel_rfl), soundF_of (fl := false) mixed Tryz.func18 rfl (by kernel_rfl) (by kernel_rfl) (by kernel_rfl)⟩

/-! 20: tabor/basics.Fail -/
def f20r0 : List SOper := [
 o 2 (.new [(.int .i64 0), (.int .i64 0), (.string ⟨#[]⟩), (.slice none 0 0)])]
def f20r1 : List SOper := [
 o 3 (.mv (t 0)),
 o 4 (.build [(.int .i64 0), (.int .i64 0), (.string ⟨#[]⟩), (.slice none 0 0)] [(0, 1), (2, 1)] [(i 2), (t 3)]),
 q (.st 4 (t 2) (t 4))]
def f20 : SCode := (.seq (.ops f20r0) (.seq (.ops f20r1) .ret))
def f20_ent : Ent := .code 5 f20 [.cn 2 4]
theorem f20_ok (oq : Nat → Value) (F : Nat → Prop) (h0 : Heap) : EntOK Tryz.prog oq F h0 20 f20_ent := ⟨soundD_of (fl := false) mixed Tryz.func20 rfl (by kernel_rfl) (by kernel_rfl) (by kernel_rfl), soundF_of (fl := false) mixed Tryz.func20 rfl (by kernel_rfl) (by kernel_rfl) (by kernel_rfl)⟩

/-! 34: slices.Sorted[string] -/
def f34r0 : List SOper := [
 o 2 (.mv (.const (.slice none 0 0)))]
def f34r1 : List SOper := [
 o 4 (.mv (t 0)),
 o 5 (.call 57 [(t 4)]),
 o 3 (.mv (t 5))]
def f34r2 : List SOper := [
 o 6 (.mv (t 3)),
 o 7 (.call 58 [(t 6)])]
def f34r3 : List SOper := [
 o 8 (.mv (t 3)),
 o 2 (.mv (t 8))]
def f34 : SCode := (.seq (.ops f34r0) (.seq (.ops f34r1) (.seq (.ops f34r2) (.seq (.ops f34r3) .ret))))
def f34_ent : Ent := .code 9 f34 [.t 2]
theorem f34_ok (oq : Nat → Value) (F : Nat → Prop) (h0 : Heap) : EntOK Tryz.prog oq F h0 34 f34_ent := ⟨soundD_of (fl := false) mixed Tryz.func34 rfl (by kernel_rfl) (by kernel_rfl) (by kernel_rfl), soundF_of (fl := false) mixed Tryz.func34 rfl (by kernel_rfl) (by kernel_rfl) (by kernel_rfl)⟩

/-! 36: tabor/basics.commands -/
def f36r0 : List SOper := [
 o 0 (.mv (.const (.map none)))]
def f36r1 : List SOper := [
 o 1 (.mkm),
 q (.mup .str (t 1) (.const (.string ⟨#[83, 69, 84]⟩)) (u 60)),
 q (.mup .str (t 1) (.const (.string ⟨#[71, 69, 84]⟩)) (u 61)),
 q (.mup .str (t 1) (.const (.string ⟨#[68, 69, 76]⟩)) (u 62)),
 q (.mup .str (t 1) (.const (.string ⟨#[69, 88, 73, 83, 84, 83]⟩)) (u 63)),
 q (.mup .str (t 1) (.const (.string ⟨#[84, 89, 80, 69]⟩)) (u 64)),
 o 2 (.call 65 [(i 1)]),
 q (.mup .str (t 1) (.const (.string ⟨#[73, 78, 67, 82]⟩)) (t 2)),
 o 3 (.call 65 [(i (-1))]),
 q (.mup .str (t 1) (.const (.string ⟨#[68, 69, 67, 82]⟩)) (t 3)),
 q (.mup .str (t 1) (.const (.string ⟨#[73, 78, 67, 82, 66, 89]⟩)) (u 66)),
 q (.mup .str (t 1) (.const (.string ⟨#[65, 80, 80, 69, 78, 68]⟩)) (u 70)),
 q (.mup .str (t 1) (.const (.string ⟨#[83, 84, 82, 76, 69, 78]⟩)) (u 71)),
 q (.mup .str (t 1) (.const (.string ⟨#[77, 71, 69, 84]⟩)) (u 72)),
 q (.mup .str (t 1) (.const (.string ⟨#[77, 83, 69, 84]⟩)) (u 73)),
 q (.mup .str (t 1) (.const (.string ⟨#[80, 69, 88, 80, 73, 82, 69]⟩)) (u 74)),
 q (.mup .str (t 1) (.const (.string ⟨#[80, 69, 82, 83, 73, 83, 84]⟩)) (u 75)),
 q (.mup .str (t 1) (.const (.string ⟨#[80, 84, 84, 76]⟩)) (u 76)),
 q (.mup .str (t 1) (.const (.string ⟨#[75, 69, 89, 83]⟩)) (u 77)),
 q (.mup .str (t 1) (.const (.string ⟨#[68, 66, 83, 73, 90, 69]⟩)) (u 78)),
 q (.mup .str (t 1) (.const (.string ⟨#[70, 76, 85, 83, 72, 65, 76, 76]⟩)) (u 79)),
 o 4 (.mv (t 1)),
 o 0 (.mv (t 4))]
def f36 : SCode := (.seq (.ops f36r0) (.seq (.ops f36r1) .ret))
def f36_ent : Ent := .code 5 f36 [.t 0]
theorem f36_ok (oq : Nat → Value) (F : Nat → Prop) (h0 : Heap) : EntOK Tryz.prog oq F h0 36 f36_ent := ⟨soundD_of (fl := false) mixed Tryz.func36 rfl (by kernel_rfl) (by kernel_rfl) (by kernel_rfl), soundF_of (fl := false) mixed Tryz.func36 rfl (by kernel_rfl) (by kernel_rfl) (by kernel_rfl)⟩

/-! 37: (*tabor/keys.Keys).Same -/
def f37r0 : List SOper := [
 o 4 (.mv (b false))]
def f37r1 : List SOper := [
 o 5 (.mv (t 0)),
 o 6 (.call 52 [(t 5)]),
 o 7 (.mv (t 6)),
 n 8 7 (.mv (t 1)),
 n 9 7 (.call 52 [(t 8)]),
 o 10 (.pick (t 7) (b true) (t 9))]
def f37r2 : List SOper := [
 o 11 (.mv (t 0)),
 o 12 (.call 52 [(t 11)]),
 o 13 (.mv (t 12)),
 g 14 13 (.mv (t 1)),
 g 15 13 (.call 52 [(t 14)]),
 o 16 (.pick (t 13) (t 15) (b false)),
 o 4 (.mv (t 16))]
def f37r3 : List SOper := [
 o 17 (.mv (t 0)),
 o 18 (.nilck (t 17)),
 o 19 (.fa 0 (t 18)),
 o 20 (.ld1 (t 19)),
 o 21 (.nilck (t 20)),
 o 22 (.fa 0 (t 21)),
 o 23 (.ld1 (t 22)),
 o 24 (.mv (t 1)),
 o 25 (.nilck (t 24)),
 o 26 (.fa 0 (t 25)),
 o 27 (.ld1 (t 26)),
 o 28 (.nilck (t 27)),
 o 29 (.fa 0 (t 28)),
 o 30 (.ld1 (t 29)),
 o 31 (.call 80 [(t 23), (t 30), (u 81)]),
 o 4 (.mv (t 31))]
def f37 : SCode := (.seq (.ops f37r0) (.seq (.seq (.ops f37r1) (.cond (t 10) (.seq (.ops f37r2) .ret) .skip)) (.seq (.ops f37r3) .ret)))
def f37_ent : Ent := .code 32 f37 [.t 4]
theorem f37_ok (oq : Nat → Value) (F : Nat → Prop) (h0 : Heap) : EntOK Tryz.prog oq F h0 37 f37_ent := ⟨soundD_of (fl := false) mixed Tryz.func37 rfl (by kernel_rfl) (by kernel_rfl) (by kernel_rfl), soundF_of (fl := false) mixed Tryz.func37 rfl (by kernel_rfl) (by kernel_rfl) (by kernel_rfl)⟩

/-! 39: tabor/basics.Do$1 -/
def f39r0 : List SOper := [
 o 7 (.eqn 4 false (t 5))]
def f39r1 : List SOper := [
 o 2 (.mv (t 5))]
def f39r2 : List SOper := [
 o 8 (.tas 89 (.agg #[(.string ⟨#[]⟩)]) true (t 5)),
 o 9 (.ext (t 8) 1),
 o 10 (.ext (t 8) 0)]
def f39r3 : List SOper := [
 o 3 (.new [(.string ⟨#[]⟩)]),
 q (.st 1 (t 3) (t 10))]
def f39r4 : List SOper := [
 o 11 (.fa 0 (t 3)),
 o 12 (.ld1 (t 11)),
 o 13 (.call 20 [(t 12)]),
 q (.st 4 (t 0) (t 13)),
 q (.st 1 (t 1) (.const (.slice none 0 0)))]
def f39r5 : List SOper := [
 o 4 (.mv (t 5))]
def f39r6 : List SOper := [
 o 6 (.mv (t 4)),
 q (.pan (t 6))]
def f39 : SCode := (.seq (.rcv (some 5)) (.block 0 (.seq (.ops f39r0) (.cond (t 7) (.ops f39r1) (.seq (.ops f39r2) (.cond (t 9) (.seq (.ops f39r3) (.ops f39r4)) (.seq (.ops f39r5) (.ops f39r6))))))))
def f39_ent : Ent := .code 14 f39 []
theorem f39_ok (oq : Nat → Value) (F : Nat → Prop) (h0 : Heap) : EntOK Tryz.prog oq F h0 39 f39_ent := ⟨soundD_of (fl := false) mixed Tryz.func39 rfl (by kernel_rfl) (by kernel_rfl) (by kernel_rfl), soundF_of (fl := false) mixed Tryz.func39 rfl (by kernel_rfl) (by kernel_rfl) (by kernel_rfl)⟩

/-! 52: (*tabor/keys.Keys).none -/
def f52r0 : List SOper := [
 o 2 (.mv (b false))]
def f52r1 : List SOper := [
 o 3 (.mv (t 0)),
 o 4 (.eqn 0 false (t 3)),
 o 5 (.mv (t 4)),
 n 6 5 (.mv (t 0)),
 n 7 5 (.nilck (t 6)),
 n 8 5 (.fa 0 (t 7)),
 n 9 5 (.ld1 (t 8)),
 n 10 5 (.eqn 0 false (t 9)),
 o 11 (.pick (t 5) (b true) (t 10)),
 o 2 (.mv (t 11))]
def f52 : SCode := (.seq (.ops f52r0) (.seq (.ops f52r1) .ret))
def f52_ent : Ent := .code 12 f52 [.t 2]
theorem f52_ok (oq : Nat → Value) (F : Nat → Prop) (h0 : Heap) : EntOK Tryz.prog oq F h0 52 f52_ent := ⟨soundD_of (fl := false) mixed Tryz.func52 rfl (by kernel_rfl) (by kernel_rfl) (by kernel_rfl), soundF_of (fl := false) mixed Tryz.func52 rfl (by kernel_rfl) (by kernel_rfl) (by kernel_rfl)⟩

/-! 57: slices.Collect[string] -/
def f57r0 : List SOper := [
 o 2 (.mv (.const (.slice none 0 0)))]
def f57r1 : List SOper := [
 o 3 (.mv (t 0)),
 o 4 (.call 114 [(.const (.slice none 0 0)), (t 3)]),
 o 2 (.mv (t 4))]
def f57 : SCode := (.seq (.ops f57r0) (.seq (.ops f57r1) .ret))
def f57_ent : Ent := .code 5 f57 [.t 2]
theorem f57_ok (oq : Nat → Value) (F : Nat → Prop) (h0 : Heap) : EntOK Tryz.prog oq F h0 57 f57_ent := ⟨soundD_of (fl := false) mixed Tryz.func57 rfl (by kernel_rfl) (by kernel_rfl) (by kernel_rfl), soundF_of (fl := false) mixed Tryz.func57 rfl (by kernel_rfl) (by kernel_rfl) (by kernel_rfl)⟩

/-! 58: slices.Sort[[]string,string] -/
def f58r0 : List SOper := [
 o 3 (.mv (t 0)),
 o 4 (.len (t 3)),
 o 2 (.mv (t 4))]
def f58r1 : List SOper := [
 o 5 (.mv (t 0)),
 o 6 (.mv (t 2)),
 o 7 (.mv (t 2)),
 o 8 (.cvt .u64 (t 7)),
 o 9 (.call 116 [(t 8)]),
 o 10 (.call 115 [(t 5), (i 0), (t 6), (t 9)])]
def f58 : SCode := (.seq (.ops f58r0) (.ops f58r1))
def f58_ent : Ent := .code 11 f58 []
theorem f58_ok (oq : Nat → Value) (F : Nat → Prop) (h0 : Heap) : EntOK Tryz.prog oq F h0 58 f58_ent := ⟨soundD_of (fl := false) mixed Tryz.func58 rfl (by kernel_rfl) (by kernel_rfl) (by kernel_rfl), soundF_of (fl := false) mixed Tryz.func58 rfl (by kernel_rfl) (by kernel_rfl) (by kernel_rfl)⟩

/-! 60: tabor/basics.set -/
def f60r0 : List SOper := [
 o 2 (.new [(.int .i64 0), (.int .i64 0), (.string ⟨#[]⟩), (.slice none 0 0)])]
def f60r1 : List SOper := [
 o 11 (.mv (t 0)),
 o 12 (.call 67 [(t 11), (i 2), (i 4)])]
def f60r2 : List SOper := [
 o 13 (.mv (t 0)),
 o 14 (.nilck (t 13)),
 o 15 (.fa 2 (t 14)),
 o 16 (.ld1 (t 15)),
 o 17 (.ixs 1 (t 16) (i 0)),
 o 18 (.ld1 (t 17)),
 o 19 (.mv (t 0)),
 o 20 (.nilck (t 19)),
 o 21 (.fa 2 (t 20)),
 o 22 (.ld1 (t 21)),
 o 23 (.ixs 1 (t 22) (i 1)),
 o 24 (.ld1 (t 23)),
 o 3 (.mv (t 18)),
 o 4 (.mv (t 24))]
def f60r3 : List SOper := [
 o 25 (.mv (t 0)),
 o 26 (.nilck (t 25)),
 o 27 (.fa 2 (t 26)),
 o 28 (.ld1 (t 27)),
 o 29 (.len (t 28)),
 o 30 (.cmp .eql (t 29) (i 4)),
 o 31 (.mv (t 30)),
 g 32 31 (.mv (t 0)),
 g 33 31 (.nilck (t 32)),
 g 34 31 (.fa 2 (t 33)),
 g 35 31 (.ld1 (t 34)),
 g 36 31 (.ixs 1 (t 35) (i 2)),
 g 37 31 (.ld1 (t 36)),
 g 38 31 (.call 38 [(t 37)]),
 g 39 31 (.cmp .eql (t 38) (.const (.string ⟨#[80, 88]⟩))),
 o 40 (.pick (t 31) (t 39) (b false)),
 o 5 (.mv (t 40))]
def f60r4 : List SOper := [
 o 41 (.mv (t 0)),
 o 42 (.nilck (t 41)),
 o 43 (.fa 2 (t 42)),
 o 44 (.ld1 (t 43)),
 o 45 (.len (t 44)),
 o 46 (.cmp .eql (t 45) (i 3)),
 o 47 (.mv (t 46)),
 g 48 47 (.mv (t 0)),
 g 49 47 (.nilck (t 48)),
 g 50 47 (.fa 2 (t 49)),
 g 51 47 (.ld1 (t 50)),
 g 52 47 (.ixs 1 (t 51) (i 2)),
 g 53 47 (.ld1 (t 52)),
 g 54 47 (.call 38 [(t 53)]),
 g 55 47 (.cmp .eql (t 54) (.const (.string ⟨#[78, 88]⟩))),
 o 56 (.pick (t 47) (t 55) (b false)),
 o 6 (.mv (t 56))]
def f60r5 : List SOper := [
 o 57 (.mv (t 0)),
 o 58 (.nilck (t 57)),
 o 59 (.fa 2 (t 58)),
 o 60 (.ld1 (t 59)),
 o 61 (.len (t 60)),
 o 62 (.cmp .eql (t 61) (i 2)),
 o 63 (.mv (t 62)),
 n 64 63 (.mv (t 5)),
 o 65 (.pick (t 63) (b true) (t 64)),
 o 66 (.mv (t 65)),
 n 67 66 (.mv (t 6)),
 o 68 (.pick (t 66) (b true) (t 67)),
 o 69 (.call 117 [(t 68), (.const (.string ⟨#[69, 82, 82, 32, 97, 114, 103, 115]⟩))])]
def f60r6 : List SOper := [
 o 70 (.mv (t 5))]
def f60r7 : List SOper := [
 o 71 (.mv (t 0)),
 o 72 (.call 69 [(t 71), (i 3)]),
 o 7 (.mv (t 72))]
def f60r8 : List SOper := [
 o 73 (.mv (t 7)),
 o 74 (.cmp .geq (t 73) (i 1)),
 o 75 (.call 117 [(t 74), (.const (.string ⟨#[69, 82, 82, 32, 114, 97, 110, 103, 101]⟩))])]
def f60r9 : List SOper := [
 o 76 (.mv (t 0)),
 o 77 (.nilck (t 76)),
 o 78 (.fa 1 (t 77)),
 o 79 (.ld1 (t 78)),
 o 80 (.mv (t 7)),
 o 81 (.call 118 [(t 79), (t 80)]),
 o 8 (.mv (t 81))]
def f60r10 : List SOper := [
 o 82 (.mv (t 0)),
 o 83 (.mv (t 3)),
 o 84 (.mv (t 4)),
 o 85 (.call 119 [(t 82), (t 83), (t 84), (b false)])]
def f60r11 : List SOper := [
 o 86 (.mv (t 0)),
 o 87 (.mv (t 3)),
 o 88 (.mv (t 8)),
 o 89 (.build [(.int .i64 0), (.string ⟨#[]⟩), (.string ⟨#[]⟩), (.string ⟨#[]⟩), (.int .i64 0)] [(0, 1), (1, 1), (4, 1)] [(i 3), (t 87), (t 88)]),
 o 90 (.bslice [(.int .i64 0), (.string ⟨#[]⟩), (.string ⟨#[]⟩), (.string ⟨#[]⟩), (.int .i64 0)] 1 [(0, 5)] [(t 89)]),
 o 91 (.call 120 [(t 86), (t 90)])]
def f60r12 : List SOper := [
 o 92 (.call 121 []),
 q (.st 4 (t 2) (t 92))]
def f60t13 : OTree := (.one (o 94 (.mv (t 0)))
 (.one (o 95 (.nilck (t 94)))
 (.one (o 96 (.fa 0 (t 95)))
 (.one (o 97 (.ld1 (t 96)))
 (.one (o 98 (.mv (t 3)))
 (.one (o 99 (.mv (t 0)))
 (.one (o 100 (.nilck (t 99)))
 (.one (o 101 (.fa 1 (t 100)))
 (.one (o 102 (.ld1 (t 101)))
 (.both (.one (o 103 (.call 50 [(t 97), (t 98), (t 102)]))
 (.one (o 93 (.mv (t 103)))
 (.one (o 104 (.ext (t 93) 0))
 (.one (o 105 (.ext (t 93) 1))
 (.one (o 9 (.new [(.int .i64 0), (.string ⟨#[]⟩), (.slice none 0 0), (.slice none 0 0), (.slice none 0 0), (.bool false), (.int .i64 0)]))
 (.one (q (.st 7 (t 9) (t 104)))
 (.one (o 10 (.mv (t 105)))
 .done))))))) (.one (o 9 (.new [(.int .i64 0), (.string ⟨#[]⟩), (.slice none 0 0), (.slice none 0 0), (.slice none 0 0), (.bool false), (.int .i64 0)]))
 (.one (o 103 (.call 50 [(t 97), (t 98), (t 102)]))
 (.one (o 93 (.mv (t 103)))
 (.one (o 104 (.ext (t 93) 0))
 (.one (o 105 (.ext (t 93) 1))
 (.one (q (.st 7 (t 9) (t 104)))
 (.one (o 10 (.mv (t 105)))
 .done)))))))))))))))))
def f60r14 : List SOper := [
 o 106 (.mv (t 6)),
 o 107 (.mv (t 106)),
 g 108 107 (.mv (t 10)),
 o 109 (.pick (t 107) (t 108) (b false))]
def f60r15 : List SOper := [
 o 110 (.build [(.int .i64 0), (.int .i64 0), (.string ⟨#[]⟩), (.slice none 0 0)] [] []),
 q (.st 4 (t 2) (t 110))]
def f60r16 : List SOper := [
 o 111 (.mv (t 0)),
 o 112 (.mv (t 3)),
 o 113 (.mv (t 4)),
 o 114 (.call 119 [(t 111), (t 112), (t 113), (b false)])]
def f60r17 : List SOper := [
 o 115 (.call 121 []),
 q (.st 4 (t 2) (t 115))]
def f60 : SCode := (.seq (.ops f60r0) (.seq (.ops f60r1) (.seq (.ops f60r2) (.seq (.ops f60r3) (.seq (.ops f60r4) (.seq (.ops f60r5) (.seq (.seq (.ops f60r6) (.cond (t 70) (.seq (.ops f60r7) (.seq (.ops f60r8) (.seq (.ops f60r9) (.seq (.ops f60r10) (.seq (.ops f60r11) (.seq (.ops f60r12) .ret)))))) .skip)) (.seq (.seq (.tree [94, 95, 96, 97, 98, 99, 100, 101, 102, 103, 93, 104, 105, 9, 10] f60t13) (.seq (.ops f60r14) (.cond (t 109) (.seq (.ops f60r15) .ret) .skip))) (.seq (.ops f60r16) (.seq (.ops f60r17) .ret))))))))))
def f60_ent : Ent := .code 116 f60 [.cn 2 4]
theorem f60_ok (oq : Nat → Value) (F : Nat → Prop) (h0 : Heap) : EntOK Tryz.prog oq F h0 60 f60_ent := ⟨soundD_of (fl := false) mixed Tryz.func60 rfl (by kernel_rfl) (by kernel_rfl) (by kernel_rfl), soundF_of (fl := false) mixed Tryz.func60 rfl (by kernel_rfl) (by kernel_rfl) (by kernel_rfl)⟩

/-! 61: tabor/basics.get -/
def f61r0 : List SOper := [
 o 2 (.new [(.int .i64 0), (.int .i64 0), (.string ⟨#[]⟩), (.slice none 0 0)])]
def f61r1 : List SOper := [
 o 5 (.mv (t 0)),
 o 6 (.call 67 [(t 5), (i 1), (i 1)])]
def f61r2 : List SOper := [
 o 8 (.mv (t 0)),
 o 9 (.mv (t 0)),
 o 10 (.nilck (t 9)),
 o 11 (.fa 2 (t 10)),
 o 12 (.ld1 (t 11)),
 o 13 (.ixs 1 (t 12) (i 0)),
 o 14 (.ld1 (t 13)),
 o 15 (.call 122 [(t 8), (t 14)]),
 o 7 (.mv (t 15)),
 o 16 (.ext (t 7) 0),
 o 17 (.ext (t 7) 1),
 o 3 (.mv (t 16)),
 o 4 (.mv (t 17))]
def f61r3 : List SOper := [
 o 18 (.mv (t 4)),
 o 19 (.un .not (t 18))]
def f61r4 : List SOper := [
 o 20 (.build [(.int .i64 0), (.int .i64 0), (.string ⟨#[]⟩), (.slice none 0 0)] [] []),
 q (.st 4 (t 2) (t 20))]
def f61r5 : List SOper := [
 o 21 (.mv (t 3)),
 o 22 (.call 123 [(t 21)]),
 q (.st 4 (t 2) (t 22))]
def f61 : SCode := (.seq (.ops f61r0) (.seq (.ops f61r1) (.seq (.ops f61r2) (.seq (.seq (.ops f61r3) (.cond (t 19) (.seq (.ops f61r4) .ret) .skip)) (.seq (.ops f61r5) .ret)))))
def f61_ent : Ent := .code 23 f61 [.cn 2 4]
theorem f61_ok (oq : Nat → Value) (F : Nat → Prop) (h0 : Heap) : EntOK Tryz.prog oq F h0 61 f61_ent := ⟨soundD_of (fl := false) mixed Tryz.func61 rfl (by kernel_rfl) (by kernel_rfl) (by kernel_rfl), soundF_of (fl := false) mixed Tryz.func61 rfl (by kernel_rfl) (by kernel_rfl) (by kernel_rfl)⟩

/-! 62: tabor/basics.del -/
def f62r0 : List SOper := [
 o 2 (.new [(.int .i64 0), (.int .i64 0), (.string ⟨#[]⟩), (.slice none 0 0)])]
def f62r1 : List SOper := [
 o 9 (.mv (t 0)),
 o 10 (.call 67 [(t 9), (i 1), (i 65536)])]
def f62r2 : List SOper := [
 o 11 (.mkm),
 o 3 (.mv (t 11))]
def f62r3 : List SOper := [
 o 4 (.mv (i 0))]
def f62r4 : List SOper := [
 o 12 (.mv (t 0)),
 o 13 (.nilck (t 12)),
 o 14 (.fa 2 (t 13)),
 o 15 (.ld1 (t 14)),
 o 16 (.len (t 15)),
 o 17 (.mv (i 0))]
def f62r5 : List SOper := [
 o 18 (.cmp .lss (t 17) (t 16))]
def f62r6 : List SOper := [
 o 19 (.ixs 1 (t 15) (t 17)),
 o 20 (.ld1 (t 19)),
 o 6 (.mv (t 20))]
def f62r7 : List SOper := [
 o 21 (.mv (t 3)),
 o 22 (.mv (t 6)),
 o 23 (.look .str (.int .i64 0) false (t 21) (t 22)),
 o 24 (.ar .add (t 23) (i 1)),
 q (.mup .str (t 21) (t 22) (t 24))]
def f62r8 : List SOper := [
 o 25 (.mv (t 3)),
 o 26 (.mv (t 6)),
 o 27 (.look .str (.int .i64 0) false (t 25) (t 26)),
 o 28 (.cmp .gtr (t 27) (i 1))]
def f62t9 : OTree := (.one (o 30 (.mv (t 0)))
 (.one (o 31 (.nilck (t 30)))
 (.one (o 32 (.fa 0 (t 31)))
 (.one (o 33 (.ld1 (t 32)))
 (.one (o 34 (.mv (t 6)))
 (.one (o 35 (.mv (t 0)))
 (.one (o 36 (.nilck (t 35)))
 (.one (o 37 (.fa 1 (t 36)))
 (.one (o 38 (.ld1 (t 37)))
 (.both (.one (o 39 (.call 50 [(t 33), (t 34), (t 38)]))
 (.one (o 29 (.mv (t 39)))
 (.one (o 40 (.ext (t 29) 0))
 (.one (o 41 (.ext (t 29) 1))
 (.one (o 7 (.new [(.int .i64 0), (.string ⟨#[]⟩), (.slice none 0 0), (.slice none 0 0), (.slice none 0 0), (.bool false), (.int .i64 0)]))
 (.one (q (.st 7 (t 7) (t 40)))
 (.one (o 8 (.mv (t 41)))
 .done))))))) (.one (o 7 (.new [(.int .i64 0), (.string ⟨#[]⟩), (.slice none 0 0), (.slice none 0 0), (.slice none 0 0), (.bool false), (.int .i64 0)]))
 (.one (o 39 (.call 50 [(t 33), (t 34), (t 38)]))
 (.one (o 29 (.mv (t 39)))
 (.one (o 40 (.ext (t 29) 0))
 (.one (o 41 (.ext (t 29) 1))
 (.one (q (.st 7 (t 7) (t 40)))
 (.one (o 8 (.mv (t 41)))
 .done)))))))))))))))))
def f62r10 : List SOper := [
 o 42 (.mv (t 8))]
def f62r11 : List SOper := [
 o 43 (.mv (t 4)),
 o 44 (.ar .add (t 43) (i 1)),
 o 4 (.mv (t 44))]
def f62r12 : List SOper := [
 o 45 (.mv (t 0)),
 o 46 (.mv (t 6)),
 o 47 (.build [(.int .i64 0), (.string ⟨#[]⟩), (.string ⟨#[]⟩), (.string ⟨#[]⟩), (.int .i64 0)] [(0, 1), (1, 1)] [(i 1), (t 46)]),
 o 48 (.bslice [(.int .i64 0), (.string ⟨#[]⟩), (.string ⟨#[]⟩), (.string ⟨#[]⟩), (.int .i64 0)] 1 [(0, 5)] [(t 47)]),
 o 49 (.call 120 [(t 45), (t 48)])]
def f62r13 : List SOper := [
 o 50 (.ar .add (t 17) (i 1)),
 o 17 (.mv (t 50))]
def f62l14 : SCode := (.seq (.ops f62r5) (.seq (.cond (t 18) .skip (.exit 0)) (.seq (.block 1 (.seq (.ops f62r6) (.seq (.seq (.ops f62r7) (.seq (.ops f62r8) (.cond (t 28) (.exit 1) .skip))) (.seq (.tree [30, 31, 32, 33, 34, 35, 36, 37, 38, 39, 29, 40, 41, 7, 8] f62t9) (.seq (.ops f62r10) (.cond (t 42) (.seq (.ops f62r11) (.ops f62r12)) .skip)))))) (.ops f62r13))))
def f62r15 : List SOper := [
 o 51 (.mv (t 4)),
 o 52 (.call 124 [(t 51)]),
 q (.st 4 (t 2) (t 52))]
def f62 : SCode := (.seq (.ops f62r0) (.seq (.ops f62r1) (.seq (.ops f62r2) (.seq (.ops f62r3) (.seq (.seq (.ops f62r4) (.block 0 (.loop f62l14))) (.seq (.ops f62r15) .ret))))))
def f62_ent : Ent := .code 53 f62 [.cn 2 4]
theorem f62_ok (oq : Nat → Value) (F : Nat → Prop) (h0 : Heap) : EntOK Tryz.prog oq F h0 62 f62_ent := ⟨soundD_of (fl := false) mixed Tryz.func62 rfl (by kernel_rfl) (by kernel_rfl) (by kernel_rfl), soundF_of (fl := false) mixed Tryz.func62 rfl (by kernel_rfl) (by kernel_rfl) (by kernel_rfl)⟩

/-! 63: tabor/basics.exists -/
def f63r0 : List SOper := [
 o 2 (.new [(.int .i64 0), (.int .i64 0), (.string ⟨#[]⟩), (.slice none 0 0)])]
def f63r1 : List SOper := [
 o 8 (.mv (t 0)),
 o 9 (.call 67 [(t 8), (i 1), (i 65536)])]
def f63r2 : List SOper := [
 o 3 (.mv (i 0))]
def f63r3 : List SOper := [
 o 10 (.mv (t 0)),
 o 11 (.nilck (t 10)),
 o 12 (.fa 2 (t 11)),
 o 13 (.ld1 (t 12)),
 o 14 (.len (t 13)),
 o 15 (.mv (i 0))]
def f63r4 : List SOper := [
 o 16 (.cmp .lss (t 15) (t 14))]
def f63r5 : List SOper := [
 o 17 (.ixs 1 (t 13) (t 15)),
 o 18 (.ld1 (t 17)),
 o 5 (.mv (t 18))]
def f63t6 : OTree := (.one (o 20 (.mv (t 0)))
 (.one (o 21 (.nilck (t 20)))
 (.one (o 22 (.fa 0 (t 21)))
 (.one (o 23 (.ld1 (t 22)))
 (.one (o 24 (.mv (t 5)))
 (.one (o 25 (.mv (t 0)))
 (.one (o 26 (.nilck (t 25)))
 (.one (o 27 (.fa 1 (t 26)))
 (.one (o 28 (.ld1 (t 27)))
 (.both (.one (o 29 (.call 50 [(t 23), (t 24), (t 28)]))
 (.one (o 19 (.mv (t 29)))
 (.one (o 30 (.ext (t 19) 0))
 (.one (o 31 (.ext (t 19) 1))
 (.one (o 6 (.new [(.int .i64 0), (.string ⟨#[]⟩), (.slice none 0 0), (.slice none 0 0), (.slice none 0 0), (.bool false), (.int .i64 0)]))
 (.one (q (.st 7 (t 6) (t 30)))
 (.one (o 7 (.mv (t 31)))
 .done))))))) (.one (o 6 (.new [(.int .i64 0), (.string ⟨#[]⟩), (.slice none 0 0), (.slice none 0 0), (.slice none 0 0), (.bool false), (.int .i64 0)]))
 (.one (o 29 (.call 50 [(t 23), (t 24), (t 28)]))
 (.one (o 19 (.mv (t 29)))
 (.one (o 30 (.ext (t 19) 0))
 (.one (o 31 (.ext (t 19) 1))
 (.one (q (.st 7 (t 6) (t 30)))
 (.one (o 7 (.mv (t 31)))
 .done)))))))))))))))))
def f63r7 : List SOper := [
 o 32 (.mv (t 7))]
def f63r8 : List SOper := [
 o 33 (.mv (t 3)),
 o 34 (.ar .add (t 33) (i 1)),
 o 3 (.mv (t 34))]
def f63r9 : List SOper := [
 o 35 (.ar .add (t 15) (i 1)),
 o 15 (.mv (t 35))]
def f63l10 : SCode := (.seq (.ops f63r4) (.seq (.cond (t 16) .skip (.exit 0)) (.seq (.block 1 (.seq (.ops f63r5) (.seq (.tree [20, 21, 22, 23, 24, 25, 26, 27, 28, 29, 19, 30, 31, 6, 7] f63t6) (.seq (.ops f63r7) (.cond (t 32) (.ops f63r8) .skip))))) (.ops f63r9))))
def f63r11 : List SOper := [
 o 36 (.mv (t 3)),
 o 37 (.call 124 [(t 36)]),
 q (.st 4 (t 2) (t 37))]
def f63 : SCode := (.seq (.ops f63r0) (.seq (.ops f63r1) (.seq (.ops f63r2) (.seq (.seq (.ops f63r3) (.block 0 (.loop f63l10))) (.seq (.ops f63r11) .ret)))))
def f63_ent : Ent := .code 38 f63 [.cn 2 4]
theorem f63_ok (oq : Nat → Value) (F : Nat → Prop) (h0 : Heap) : EntOK Tryz.prog oq F h0 63 f63_ent := ⟨soundD_of (fl := false) mixed Tryz.func63 rfl (by kernel_rfl) (by kernel_rfl) (by kernel_rfl), soundF_of (fl := false) mixed Tryz.func63 rfl (by kernel_rfl) (by kernel_rfl) (by kernel_rfl)⟩

/-! 64: tabor/basics.kind -/
def f64r0 : List SOper := [
 o 2 (.new [(.int .i64 0), (.int .i64 0), (.string ⟨#[]⟩), (.slice none 0 0)])]
def f64r1 : List SOper := [
 o 5 (.mv (t 0)),
 o 6 (.call 67 [(t 5), (i 1), (i 1)])]
def f64t2 : OTree := (.one (o 8 (.mv (t 0)))
 (.one (o 9 (.nilck (t 8)))
 (.one (o 10 (.fa 0 (t 9)))
 (.one (o 11 (.ld1 (t 10)))
 (.one (o 12 (.mv (t 0)))
 (.one (o 13 (.nilck (t 12)))
 (.one (o 14 (.fa 2 (t 13)))
 (.one (o 15 (.ld1 (t 14)))
 (.one (o 16 (.ixs 1 (t 15) (i 0)))
 (.one (o 17 (.ld1 (t 16)))
 (.one (o 18 (.mv (t 0)))
 (.one (o 19 (.nilck (t 18)))
 (.one (o 20 (.fa 1 (t 19)))
 (.one (o 21 (.ld1 (t 20)))
 (.both (.one (o 22 (.call 50 [(t 11), (t 17), (t 21)]))
 (.one (o 7 (.mv (t 22)))
 (.one (o 23 (.ext (t 7) 0))
 (.one (o 24 (.ext (t 7) 1))
 (.one (o 3 (.new [(.int .i64 0), (.string ⟨#[]⟩), (.slice none 0 0), (.slice none 0 0), (.slice none 0 0), (.bool false), (.int .i64 0)]))
 (.one (q (.st 7 (t 3) (t 23)))
 (.one (o 4 (.mv (t 24)))
 .done))))))) (.one (o 3 (.new [(.int .i64 0), (.string ⟨#[]⟩), (.slice none 0 0), (.slice none 0 0), (.slice none 0 0), (.bool false), (.int .i64 0)]))
 (.one (o 22 (.call 50 [(t 11), (t 17), (t 21)]))
 (.one (o 7 (.mv (t 22)))
 (.one (o 23 (.ext (t 7) 0))
 (.one (o 24 (.ext (t 7) 1))
 (.one (q (.st 7 (t 3) (t 23)))
 (.one (o 4 (.mv (t 24)))
 .done))))))))))))))))))))))
def f64r3 : List SOper := [
 o 25 (.build [(.string ⟨#[]⟩), (.string ⟨#[]⟩), (.string ⟨#[]⟩), (.string ⟨#[]⟩), (.string ⟨#[]⟩), (.string ⟨#[]⟩)] [(0, 1), (1, 1), (2, 1), (3, 1), (4, 1), (5, 1)] [(.const (.string ⟨#[110, 111, 110, 101]⟩)), (.const (.string ⟨#[115, 116, 114, 105, 110, 103]⟩)), (.const (.string ⟨#[104, 97, 115, 104]⟩)), (.const (.string ⟨#[108, 105, 115, 116]⟩)), (.const (.string ⟨#[115, 101, 116]⟩)), (.const (.string ⟨#[122, 115, 101, 116]⟩))]),
 o 26 (.fa 0 (t 3)),
 o 27 (.ld1 (t 26)),
 o 28 (.ixv 6 1 (t 25) (t 27)),
 o 29 (.build [(.int .i64 0), (.int .i64 0), (.string ⟨#[]⟩), (.slice none 0 0)] [(0, 1), (2, 1)] [(i 1), (t 28)]),
 q (.st 4 (t 2) (t 29))]
def f64 : SCode := (.seq (.ops f64r0) (.seq (.ops f64r1) (.seq (.tree [8, 9, 10, 11, 12, 13, 14, 15, 16, 17, 18, 19, 20, 21, 22, 7, 23, 24, 3, 4] f64t2) (.seq (.ops f64r3) .ret))))
def f64_ent : Ent := .code 30 f64 [.cn 2 4]
theorem f64_ok (oq : Nat → Value) (F : Nat → Prop) (h0 : Heap) : EntOK Tryz.prog oq F h0 64 f64_ent := ⟨soundD_of (fl := false) mixed Tryz.func64 rfl (by kernel_rfl) (by kernel_rfl) (by kernel_rfl), soundF_of (fl := false) mixed Tryz.func64 rfl (by kernel_rfl) (by kernel_rfl) (by kernel_rfl)⟩

/-! 65: tabor/basics.step -/
def f65r0 : List SOper := [
 o 1 (.box (t 0)),
 o 2 (.mv (.const .nilFunc))]
def f65r1 : List SOper := [
 o 3 (.fn 125 [] [(t 1)]),
 o 2 (.mv (t 3))]
def f65 : SCode := (.seq (.ops f65r0) (.seq (.ops f65r1) .ret))
def f65_ent : Ent := .code 4 f65 [.t 2]
theorem f65_ok (oq : Nat → Value) (F : Nat → Prop) (h0 : Heap) : EntOK Tryz.prog oq F h0 65 f65_ent := ⟨soundD_of (fl := false) mixed Tryz.func65 rfl (by kernel_rfl) (by kernel_rfl) (by kernel_rfl), soundF_of (fl := false) mixed Tryz.func65 rfl (by kernel_rfl) (by kernel_rfl) (by kernel_rfl)⟩

/-! 66: tabor/basics.commands$1 -/
def f66r0 : List SOper := [
 o 2 (.new [(.int .i64 0), (.int .i64 0), (.string ⟨#[]⟩), (.slice none 0 0)])]
def f66r1 : List SOper := [
 o 3 (.mv (t 0)),
 o 4 (.call 67 [(t 3), (i 2), (i 2)])]
def f66r2 : List SOper := [
 o 5 (.mv (t 0)),
 o 6 (.mv (t 0)),
 o 7 (.call 69 [(t 6), (i 1)]),
 o 8 (.call 68 [(t 5), (t 7)]),
 q (.st 4 (t 2) (t 8))]
def f66 : SCode := (.seq (.ops f66r0) (.seq (.ops f66r1) (.seq (.ops f66r2) .ret)))
def f66_ent : Ent := .code 9 f66 [.cn 2 4]
theorem f66_ok (oq : Nat → Value) (F : Nat → Prop) (h0 : Heap) : EntOK Tryz.prog oq F h0 66 f66_ent := ⟨soundD_of (fl := false) mixed Tryz.func66 rfl (by kernel_rfl) (by kernel_rfl) (by kernel_rfl), soundF_of (fl := false) mixed Tryz.func66 rfl (by kernel_rfl) (by kernel_rfl) (by kernel_rfl)⟩

/-! 67: (*tabor/basics.asked).many -/
def f67r0 : List SOper := [
 o 6 (.mv (t 0)),
 o 7 (.nilck (t 6)),
 o 8 (.fa 2 (t 7)),
 o 9 (.ld1 (t 8)),
 o 10 (.len (t 9)),
 o 11 (.mv (t 1)),
 o 12 (.cmp .geq (t 10) (t 11)),
 o 13 (.mv (t 12)),
 g 14 13 (.mv (t 0)),
 g 15 13 (.nilck (t 14)),
 g 16 13 (.fa 2 (t 15)),
 g 17 13 (.ld1 (t 16)),
 g 18 13 (.len (t 17)),
 g 19 13 (.mv (t 2)),
 g 20 13 (.cmp .leq (t 18) (t 19)),
 o 21 (.pick (t 13) (t 20) (b false)),
 o 22 (.call 117 [(t 21), (.const (.string ⟨#[69, 82, 82, 32, 97, 114, 103, 115]⟩))])]
def f67 : SCode := (.ops f67r0)
def f67_ent : Ent := .code 23 f67 []
theorem f67_ok (oq : Nat → Value) (F : Nat → Prop) (h0 : Heap) : EntOK Tryz.prog oq F h0 67 f67_ent := ⟨soundD_of (fl := false) mixed Tryz.func67 rfl (by kernel_rfl) (by kernel_rfl) (by kernel_rfl), soundF_of (fl := false) mixed Tryz.func67 rfl (by kernel_rfl) (by kernel_rfl) (by kernel_rfl)⟩

/-! 70: tabor/basics.more -/
def f70r0 : List SOper := [
 o 2 (.new [(.int .i64 0), (.int .i64 0), (.string ⟨#[]⟩), (.slice none 0 0)])]
def f70r1 : List SOper := [
 o 5 (.mv (t 0)),
 o 6 (.call 67 [(t 5), (i 2), (i 2)])]
def f70r2 : List SOper := [
 o 8 (.mv (t 0)),
 o 9 (.mv (t 0)),
 o 10 (.nilck (t 9)),
 o 11 (.fa 2 (t 10)),
 o 12 (.ld1 (t 11)),
 o 13 (.ixs 1 (t 12) (i 0)),
 o 14 (.ld1 (t 13)),
 o 15 (.call 122 [(t 8), (t 14)]),
 o 7 (.mv (t 15)),
 o 16 (.ext (t 7) 0),
 o 17 (.ext (t 7) 1),
 o 3 (.mv (t 16)),
 o 4 (.mv (t 17))]
def f70r3 : List SOper := [
 o 18 (.mv (t 0)),
 o 19 (.mv (t 0)),
 o 20 (.nilck (t 19)),
 o 21 (.fa 2 (t 20)),
 o 22 (.ld1 (t 21)),
 o 23 (.ixs 1 (t 22) (i 0)),
 o 24 (.ld1 (t 23)),
 o 25 (.mv (t 3)),
 o 26 (.mv (t 0)),
 o 27 (.nilck (t 26)),
 o 28 (.fa 2 (t 27)),
 o 29 (.ld1 (t 28)),
 o 30 (.ixs 1 (t 29) (i 1)),
 o 31 (.ld1 (t 30)),
 o 32 (.cat (t 25) (t 31)),
 o 33 (.call 119 [(t 18), (t 24), (t 32), (b true)])]
def f70r4 : List SOper := [
 o 34 (.mv (t 3)),
 o 35 (.lens (t 34)),
 o 36 (.mv (t 0)),
 o 37 (.nilck (t 36)),
 o 38 (.fa 2 (t 37)),
 o 39 (.ld1 (t 38)),
 o 40 (.ixs 1 (t 39) (i 1)),
 o 41 (.ld1 (t 40)),
 o 42 (.lens (t 41)),
 o 43 (.ar .add (t 35) (t 42)),
 o 44 (.call 124 [(t 43)]),
 q (.st 4 (t 2) (t 44))]
def f70 : SCode := (.seq (.ops f70r0) (.seq (.ops f70r1) (.seq (.ops f70r2) (.seq (.ops f70r3) (.seq (.ops f70r4) .ret)))))
def f70_ent : Ent := .code 45 f70 [.cn 2 4]
theorem f70_ok (oq : Nat → Value) (F : Nat → Prop) (h0 : Heap) : EntOK Tryz.prog oq F h0 70 f70_ent := ⟨soundD_of (fl := false) mixed Tryz.func70 rfl (by kernel_rfl) (by kernel_rfl) (by kernel_rfl), soundF_of (fl := false) mixed Tryz.func70 rfl (by kernel_rfl) (by kernel_rfl) (by kernel_rfl)⟩

/-! 71: tabor/basics.long -/
def f71r0 : List SOper := [
 o 2 (.new [(.int .i64 0), (.int .i64 0), (.string ⟨#[]⟩), (.slice none 0 0)])]
def f71r1 : List SOper := [
 o 5 (.mv (t 0)),
 o 6 (.call 67 [(t 5), (i 1), (i 1)])]
def f71r2 : List SOper := [
 o 8 (.mv (t 0)),
 o 9 (.mv (t 0)),
 o 10 (.nilck (t 9)),
 o 11 (.fa 2 (t 10)),
 o 12 (.ld1 (t 11)),
 o 13 (.ixs 1 (t 12) (i 0)),
 o 14 (.ld1 (t 13)),
 o 15 (.call 122 [(t 8), (t 14)]),
 o 7 (.mv (t 15)),
 o 16 (.ext (t 7) 0),
 o 17 (.ext (t 7) 1),
 o 3 (.mv (t 16)),
 o 4 (.mv (t 17))]
def f71r3 : List SOper := [
 o 18 (.mv (t 3)),
 o 19 (.lens (t 18)),
 o 20 (.call 124 [(t 19)]),
 q (.st 4 (t 2) (t 20))]
def f71 : SCode := (.seq (.ops f71r0) (.seq (.ops f71r1) (.seq (.ops f71r2) (.seq (.ops f71r3) .ret))))
def f71_ent : Ent := .code 21 f71 [.cn 2 4]
theorem f71_ok (oq : Nat → Value) (F : Nat → Prop) (h0 : Heap) : EntOK Tryz.prog oq F h0 71 f71_ent := ⟨soundD_of (fl := false) mixed Tryz.func71 rfl (by kernel_rfl) (by kernel_rfl) (by kernel_rfl), soundF_of (fl := false) mixed Tryz.func71 rfl (by kernel_rfl) (by kernel_rfl) (by kernel_rfl)⟩

/-! 72: tabor/basics.mget -/
def f72r0 : List SOper := [
 o 2 (.new [(.int .i64 0), (.int .i64 0), (.string ⟨#[]⟩), (.slice none 0 0)])]
def f72r1 : List SOper := [
 o 8 (.mv (t 0)),
 o 9 (.call 67 [(t 8), (i 1), (i 65536)])]
def f72r2 : List SOper := [
 o 3 (.mv (.const (.slice none 0 0)))]
def f72r3 : List SOper := [
 o 10 (.mv (t 0)),
 o 11 (.nilck (t 10)),
 o 12 (.fa 2 (t 11)),
 o 13 (.ld1 (t 12)),
 o 14 (.len (t 13)),
 o 15 (.mv (i 0))]
def f72r4 : List SOper := [
 o 16 (.cmp .lss (t 15) (t 14))]
def f72r5 : List SOper := [
 o 17 (.ixs 1 (t 13) (t 15)),
 o 18 (.ld1 (t 17)),
 o 5 (.mv (t 18))]
def f72t6 : OTree := (.one (o 20 (.mv (t 0)))
 (.one (o 21 (.nilck (t 20)))
 (.one (o 22 (.fa 0 (t 21)))
 (.one (o 23 (.ld1 (t 22)))
 (.one (o 24 (.mv (t 5)))
 (.one (o 25 (.mv (t 0)))
 (.one (o 26 (.nilck (t 25)))
 (.one (o 27 (.fa 1 (t 26)))
 (.one (o 28 (.ld1 (t 27)))
 (.both (.one (o 29 (.call 50 [(t 23), (t 24), (t 28)]))
 (.one (o 19 (.mv (t 29)))
 (.one (o 30 (.ext (t 19) 0))
 (.one (o 31 (.ext (t 19) 1))
 (.one (o 6 (.new [(.int .i64 0), (.string ⟨#[]⟩), (.slice none 0 0), (.slice none 0 0), (.slice none 0 0), (.bool false), (.int .i64 0)]))
 (.one (q (.st 7 (t 6) (t 30)))
 (.one (o 7 (.mv (t 31)))
 .done))))))) (.one (o 6 (.new [(.int .i64 0), (.string ⟨#[]⟩), (.slice none 0 0), (.slice none 0 0), (.slice none 0 0), (.bool false), (.int .i64 0)]))
 (.one (o 29 (.call 50 [(t 23), (t 24), (t 28)]))
 (.one (o 19 (.mv (t 29)))
 (.one (o 30 (.ext (t 19) 0))
 (.one (o 31 (.ext (t 19) 1))
 (.one (q (.st 7 (t 6) (t 30)))
 (.one (o 7 (.mv (t 31)))
 .done)))))))))))))))))
def f72r7 : List SOper := [
 o 32 (.mv (t 7)),
 o 33 (.mv (t 32)),
 g 34 33 (.fa 0 (t 6)),
 g 35 33 (.ld1 (t 34)),
 g 36 33 (.cmp .eql (t 35) (i 1)),
 o 37 (.pick (t 33) (t 36) (b false))]
def f72r8 : List SOper := [
 o 38 (.mv (t 3)),
 o 39 (.fa 1 (t 6)),
 o 40 (.ld1 (t 39)),
 o 41 (.call 123 [(t 40)]),
 o 42 (.bslice [(.int .i64 0), (.int .i64 0), (.string ⟨#[]⟩), (.slice none 0 0)] 1 [(0, 4)] [(t 41)]),
 o 43 (.app 4 56 [(.int .i64 0), (.int .i64 0), (.string ⟨#[]⟩), (.slice none 0 0)] (t 38) (t 42)),
 o 3 (.mv (t 43))]
def f72r9 : List SOper := [
 o 44 (.mv (t 3)),
 o 45 (.build [(.int .i64 0), (.int .i64 0), (.string ⟨#[]⟩), (.slice none 0 0)] [] []),
 o 46 (.bslice [(.int .i64 0), (.int .i64 0), (.string ⟨#[]⟩), (.slice none 0 0)] 1 [(0, 4)] [(t 45)]),
 o 47 (.app 4 56 [(.int .i64 0), (.int .i64 0), (.string ⟨#[]⟩), (.slice none 0 0)] (t 44) (t 46)),
 o 3 (.mv (t 47))]
def f72r10 : List SOper := [
 o 48 (.ar .add (t 15) (i 1)),
 o 15 (.mv (t 48))]
def f72l11 : SCode := (.seq (.ops f72r4) (.seq (.cond (t 16) .skip (.exit 0)) (.seq (.block 1 (.seq (.ops f72r5) (.seq (.tree [20, 21, 22, 23, 24, 25, 26, 27, 28, 29, 19, 30, 31, 6, 7] f72t6) (.seq (.ops f72r7) (.cond (t 37) (.ops f72r8) (.ops f72r9)))))) (.ops f72r10))))
def f72r12 : List SOper := [
 o 49 (.mv (t 3)),
 o 50 (.call 126 [(t 49)]),
 q (.st 4 (t 2) (t 50))]
def f72 : SCode := (.seq (.ops f72r0) (.seq (.ops f72r1) (.seq (.ops f72r2) (.seq (.seq (.ops f72r3) (.block 0 (.loop f72l11))) (.seq (.ops f72r12) .ret)))))
def f72_ent : Ent := .code 51 f72 [.cn 2 4]
theorem f72_ok (oq : Nat → Value) (F : Nat → Prop) (h0 : Heap) : EntOK Tryz.prog oq F h0 72 f72_ent := ⟨soundD_of (fl := false) mixed Tryz.func72 rfl (by kernel_rfl) (by kernel_rfl) (by kernel_rfl), soundF_of (fl := false) mixed Tryz.func72 rfl (by kernel_rfl) (by kernel_rfl) (by kernel_rfl)⟩

/-! 73: tabor/basics.mset -/
def f73r0 : List SOper := [
 o 2 (.new [(.int .i64 0), (.int .i64 0), (.string ⟨#[]⟩), (.slice none 0 0)])]
def f73r1 : List SOper := [
 o 7 (.mv (t 0)),
 o 8 (.call 67 [(t 7), (i 2), (i 65536)])]
def f73r2 : List SOper := [
 o 9 (.mv (t 0)),
 o 10 (.nilck (t 9)),
 o 11 (.fa 2 (t 10)),
 o 12 (.ld1 (t 11)),
 o 13 (.len (t 12)),
 o 14 (.rem (t 13) (i 2)),
 o 15 (.cmp .eql (t 14) (i 0)),
 o 16 (.call 117 [(t 15), (.const (.string ⟨#[69, 82, 82, 32, 97, 114, 103, 115]⟩))])]
def f73r3 : List SOper := [
 o 17 (.mkm),
 o 3 (.mv (t 17))]
def f73r4 : List SOper := [
 o 4 (.mv (i 0))]
def f73r5 : List SOper := [
 o 18 (.mv (t 4)),
 o 19 (.mv (t 0)),
 o 20 (.nilck (t 19)),
 o 21 (.fa 2 (t 20)),
 o 22 (.ld1 (t 21)),
 o 23 (.len (t 22)),
 o 24 (.cmp .lss (t 18) (t 23))]
def f73r6 : List SOper := [
 o 27 (.mv (t 0)),
 o 28 (.nilck (t 27)),
 o 29 (.fa 2 (t 28)),
 o 30 (.ld1 (t 29)),
 o 31 (.mv (t 4)),
 o 32 (.ixs 1 (t 30) (t 31)),
 o 33 (.ld1 (t 32)),
 o 34 (.mv (t 0)),
 o 35 (.nilck (t 34)),
 o 36 (.fa 2 (t 35)),
 o 37 (.ld1 (t 36)),
 o 38 (.mv (t 4)),
 o 39 (.ar .add (t 38) (i 1)),
 o 40 (.ixs 1 (t 37) (t 39)),
 o 41 (.ld1 (t 40)),
 o 5 (.mv (t 33)),
 o 6 (.mv (t 41))]
def f73r7 : List SOper := [
 o 42 (.mv (t 6)),
 o 43 (.lens (t 42)),
 o 44 (.cmp .leq (t 43) (i 1048576)),
 o 45 (.mv (t 44)),
 g 46 45 (.mv (t 5)),
 g 47 45 (.lens (t 46)),
 g 48 45 (.cmp .leq (t 47) (i 1048576)),
 o 49 (.pick (t 45) (t 48) (b false)),
 o 50 (.call 117 [(t 49), (.const (.string ⟨#[69, 82, 82, 32, 108, 111, 110, 103]⟩))])]
def f73r8 : List SOper := [
 o 51 (.mv (t 3)),
 o 52 (.mv (t 5)),
 o 53 (.look .str (.int .i64 0) false (t 51) (t 52)),
 o 54 (.ar .add (t 53) (i 1)),
 q (.mup .str (t 51) (t 52) (t 54))]
def f73r9 : List SOper := [
 o 55 (.mv (t 3)),
 o 56 (.mv (t 5)),
 o 57 (.look .str (.int .i64 0) false (t 55) (t 56)),
 o 58 (.cmp .eql (t 57) (i 1))]
def f73r10 : List SOper := [
 o 59 (.mv (t 0)),
 o 60 (.mv (t 0)),
 o 61 (.nilck (t 60)),
 o 62 (.fa 0 (t 61)),
 o 63 (.ld1 (t 62)),
 o 64 (.mv (t 0)),
 o 65 (.nilck (t 64)),
 o 66 (.fa 1 (t 65)),
 o 67 (.ld1 (t 66)),
 o 68 (.mv (t 5)),
 o 69 (.call 27 [(t 63), (t 67), (t 68)]),
 o 70 (.call 120 [(t 59), (t 69)])]
def f73r11 : List SOper := [
 o 71 (.mv (t 0)),
 o 72 (.mv (t 5)),
 o 73 (.mv (t 6)),
 o 74 (.build [(.int .i64 0), (.string ⟨#[]⟩), (.string ⟨#[]⟩), (.string ⟨#[]⟩), (.int .i64 0)] [(0, 1), (1, 1), (3, 1)] [(i 2), (t 72), (t 73)]),
 o 75 (.bslice [(.int .i64 0), (.string ⟨#[]⟩), (.string ⟨#[]⟩), (.string ⟨#[]⟩), (.int .i64 0)] 1 [(0, 5)] [(t 74)]),
 o 76 (.call 120 [(t 71), (t 75)])]
def f73r12 : List SOper := [
 o 25 (.mv (t 4)),
 o 26 (.ar .add (t 25) (i 2)),
 o 4 (.mv (t 26))]
def f73l13 : SCode := (.seq (.seq (.ops f73r5) (.cond (t 24) .skip (.exit 0))) (.seq (.block 1 (.seq (.ops f73r6) (.seq (.ops f73r7) (.seq (.seq (.ops f73r8) (.seq (.ops f73r9) (.cond (t 58) (.ops f73r10) .skip))) (.ops f73r11))))) (.ops f73r12)))
def f73r14 : List SOper := [
 o 77 (.call 121 []),
 q (.st 4 (t 2) (t 77))]
def f73 : SCode := (.seq (.ops f73r0) (.seq (.ops f73r1) (.seq (.ops f73r2) (.seq (.ops f73r3) (.seq (.seq (.ops f73r4) (.block 0 (.loop f73l13))) (.seq (.ops f73r14) .ret))))))
def f73_ent : Ent := .code 78 f73 [.cn 2 4]
theorem f73_ok (oq : Nat → Value) (F : Nat → Prop) (h0 : Heap) : EntOK Tryz.prog oq F h0 73 f73_ent := ⟨soundD_of (fl := false) mixed Tryz.func73 rfl (by kernel_rfl) (by kernel_rfl) (by kernel_rfl), soundF_of (fl := false) mixed Tryz.func73 rfl (by kernel_rfl) (by kernel_rfl) (by kernel_rfl)⟩

/-! 74: tabor/basics.expire -/
def f74r0 : List SOper := [
 o 2 (.new [(.int .i64 0), (.int .i64 0), (.string ⟨#[]⟩), (.slice none 0 0)])]
def f74r1 : List SOper := [
 o 6 (.mv (t 0)),
 o 7 (.call 67 [(t 6), (i 2), (i 2)])]
def f74r2 : List SOper := [
 o 8 (.mv (t 0)),
 o 9 (.call 69 [(t 8), (i 1)]),
 o 3 (.mv (t 9))]
def f74t3 : OTree := (.one (o 11 (.mv (t 0)))
 (.one (o 12 (.nilck (t 11)))
 (.one (o 13 (.fa 0 (t 12)))
 (.one (o 14 (.ld1 (t 13)))
 (.one (o 15 (.mv (t 0)))
 (.one (o 16 (.nilck (t 15)))
 (.one (o 17 (.fa 2 (t 16)))
 (.one (o 18 (.ld1 (t 17)))
 (.one (o 19 (.ixs 1 (t 18) (i 0)))
 (.one (o 20 (.ld1 (t 19)))
 (.one (o 21 (.mv (t 0)))
 (.one (o 22 (.nilck (t 21)))
 (.one (o 23 (.fa 1 (t 22)))
 (.one (o 24 (.ld1 (t 23)))
 (.both (.one (o 25 (.call 50 [(t 14), (t 20), (t 24)]))
 (.one (o 10 (.mv (t 25)))
 (.one (o 26 (.ext (t 10) 0))
 (.one (o 27 (.ext (t 10) 1))
 (.one (o 4 (.new [(.int .i64 0), (.string ⟨#[]⟩), (.slice none 0 0), (.slice none 0 0), (.slice none 0 0), (.bool false), (.int .i64 0)]))
 (.one (q (.st 7 (t 4) (t 26)))
 (.one (o 5 (.mv (t 27)))
 .done))))))) (.one (o 4 (.new [(.int .i64 0), (.string ⟨#[]⟩), (.slice none 0 0), (.slice none 0 0), (.slice none 0 0), (.bool false), (.int .i64 0)]))
 (.one (o 25 (.call 50 [(t 14), (t 20), (t 24)]))
 (.one (o 10 (.mv (t 25)))
 (.one (o 26 (.ext (t 10) 0))
 (.one (o 27 (.ext (t 10) 1))
 (.one (q (.st 7 (t 4) (t 26)))
 (.one (o 5 (.mv (t 27)))
 .done))))))))))))))))))))))
def f74r4 : List SOper := [
 o 28 (.mv (t 5)),
 o 29 (.un .not (t 28))]
def f74r5 : List SOper := [
 o 30 (.call 124 [(i 0)]),
 q (.st 4 (t 2) (t 30))]
def f74r6 : List SOper := [
 o 31 (.mv (t 3)),
 o 32 (.cmp .lss (t 31) (i 1))]
def f74r7 : List SOper := [
 o 33 (.mv (t 0)),
 o 34 (.mv (t 0)),
 o 35 (.nilck (t 34)),
 o 36 (.fa 2 (t 35)),
 o 37 (.ld1 (t 36)),
 o 38 (.ixs 1 (t 37) (i 0)),
 o 39 (.ld1 (t 38)),
 o 40 (.build [(.int .i64 0), (.string ⟨#[]⟩), (.string ⟨#[]⟩), (.string ⟨#[]⟩), (.int .i64 0)] [(0, 1), (1, 1)] [(i 1), (t 39)]),
 o 41 (.bslice [(.int .i64 0), (.string ⟨#[]⟩), (.string ⟨#[]⟩), (.string ⟨#[]⟩), (.int .i64 0)] 1 [(0, 5)] [(t 40)]),
 o 42 (.call 120 [(t 33), (t 41)])]
def f74t8 : OTree := (.one (o 43 (.mv (t 0)))
 (.one (o 44 (.mv (t 0)))
 (.one (o 45 (.nilck (t 44)))
 (.one (o 46 (.fa 2 (t 45)))
 (.one (o 50 (.mv (t 0)))
 (.one (o 51 (.nilck (t 50)))
 (.one (o 52 (.fa 1 (t 51)))
 (.one (o 53 (.ld1 (t 52)))
 (.one (o 54 (.mv (t 3)))
 (.one (o 47 (.ld1 (t 46)))
 (.one (o 48 (.ixs 1 (t 47) (i 0)))
 (.chk [o 47 (.ld1 (t 46))] (.one (o 49 (.ld1 (t 48)))
 (.one (o 55 (.call 118 [(t 53), (t 54)]))
 (.chk [o 49 (.ld1 (t 48)), o 47 (.ld1 (t 46))] (.one (o 56 (.build [(.int .i64 0), (.string ⟨#[]⟩), (.string ⟨#[]⟩), (.string ⟨#[]⟩), (.int .i64 0)] [(0, 1), (1, 1), (4, 1)] [(i 3), (t 49), (t 55)]))
 (.chk [o 49 (.ld1 (t 48)), o 47 (.ld1 (t 46))] (.one (o 57 (.bslice [(.int .i64 0), (.string ⟨#[]⟩), (.string ⟨#[]⟩), (.string ⟨#[]⟩), (.int .i64 0)] 1 [(0, 5)] [(t 56)]))
 (.one (o 58 (.call 120 [(t 43), (t 57)]))
 .done)))))))))))))))))))
def f74r9 : List SOper := [
 o 59 (.call 124 [(i 1)]),
 q (.st 4 (t 2) (t 59))]
def f74 : SCode := (.seq (.ops f74r0) (.seq (.ops f74r1) (.seq (.ops f74r2) (.seq (.seq (.tree [11, 12, 13, 14, 15, 16, 17, 18, 19, 20, 21, 22, 23, 24, 25, 10, 26, 27, 4, 5] f74t3) (.seq (.ops f74r4) (.cond (t 29) (.seq (.ops f74r5) .ret) .skip))) (.seq (.seq (.ops f74r6) (.cond (t 32) (.ops f74r7) (.tree [43, 44, 45, 46, 47, 48, 49, 50, 51, 52, 53, 54, 55, 56, 57, 58] f74t8))) (.seq (.ops f74r9) .ret))))))
def f74_ent : Ent := .code 60 f74 [.cn 2 4]
theorem f74_ok (oq : Nat → Value) (F : Nat → Prop) (h0 : Heap) : EntOK Tryz.prog oq F h0 74 f74_ent := ⟨soundD_of (fl := false) mixed Tryz.func74 rfl (by kernel_rfl) (by kernel_rfl) (by kernel_rfl), soundF_of (fl := false) mixed Tryz.func74 rfl (by kernel_rfl) (by kernel_rfl) (by kernel_rfl)⟩

/-! 75: tabor/basics.persist -/
def f75r0 : List SOper := [
 o 2 (.new [(.int .i64 0), (.int .i64 0), (.string ⟨#[]⟩), (.slice none 0 0)])]
def f75r1 : List SOper := [
 o 5 (.mv (t 0)),
 o 6 (.call 67 [(t 5), (i 1), (i 1)])]
def f75t2 : OTree := (.one (o 8 (.mv (t 0)))
 (.one (o 9 (.nilck (t 8)))
 (.one (o 10 (.fa 0 (t 9)))
 (.one (o 11 (.ld1 (t 10)))
 (.one (o 12 (.mv (t 0)))
 (.one (o 13 (.nilck (t 12)))
 (.one (o 14 (.fa 2 (t 13)))
 (.one (o 15 (.ld1 (t 14)))
 (.one (o 16 (.ixs 1 (t 15) (i 0)))
 (.one (o 17 (.ld1 (t 16)))
 (.one (o 18 (.mv (t 0)))
 (.one (o 19 (.nilck (t 18)))
 (.one (o 20 (.fa 1 (t 19)))
 (.one (o 21 (.ld1 (t 20)))
 (.both (.one (o 22 (.call 50 [(t 11), (t 17), (t 21)]))
 (.one (o 7 (.mv (t 22)))
 (.one (o 23 (.ext (t 7) 0))
 (.one (o 24 (.ext (t 7) 1))
 (.one (o 3 (.new [(.int .i64 0), (.string ⟨#[]⟩), (.slice none 0 0), (.slice none 0 0), (.slice none 0 0), (.bool false), (.int .i64 0)]))
 (.one (q (.st 7 (t 3) (t 23)))
 (.one (o 4 (.mv (t 24)))
 .done))))))) (.one (o 3 (.new [(.int .i64 0), (.string ⟨#[]⟩), (.slice none 0 0), (.slice none 0 0), (.slice none 0 0), (.bool false), (.int .i64 0)]))
 (.one (o 22 (.call 50 [(t 11), (t 17), (t 21)]))
 (.one (o 7 (.mv (t 22)))
 (.one (o 23 (.ext (t 7) 0))
 (.one (o 24 (.ext (t 7) 1))
 (.one (q (.st 7 (t 3) (t 23)))
 (.one (o 4 (.mv (t 24)))
 .done))))))))))))))))))))))
def f75r3 : List SOper := [
 o 25 (.mv (t 4)),
 o 26 (.un .not (t 25)),
 o 27 (.mv (t 26)),
 n 28 27 (.fa 5 (t 3)),
 n 29 27 (.ld1 (t 28)),
 n 30 27 (.un .not (t 29)),
 o 31 (.pick (t 27) (b true) (t 30))]
def f75r4 : List SOper := [
 o 32 (.call 124 [(i 0)]),
 q (.st 4 (t 2) (t 32))]
def f75r5 : List SOper := [
 o 33 (.mv (t 0)),
 o 34 (.mv (t 0)),
 o 35 (.nilck (t 34)),
 o 36 (.fa 2 (t 35)),
 o 37 (.ld1 (t 36)),
 o 38 (.ixs 1 (t 37) (i 0)),
 o 39 (.ld1 (t 38)),
 o 40 (.build [(.int .i64 0), (.string ⟨#[]⟩), (.string ⟨#[]⟩), (.string ⟨#[]⟩), (.int .i64 0)] [(0, 1), (1, 1)] [(i 4), (t 39)]),
 o 41 (.bslice [(.int .i64 0), (.string ⟨#[]⟩), (.string ⟨#[]⟩), (.string ⟨#[]⟩), (.int .i64 0)] 1 [(0, 5)] [(t 40)]),
 o 42 (.call 120 [(t 33), (t 41)])]
def f75r6 : List SOper := [
 o 43 (.call 124 [(i 1)]),
 q (.st 4 (t 2) (t 43))]
def f75 : SCode := (.seq (.ops f75r0) (.seq (.ops f75r1) (.seq (.tree [8, 9, 10, 11, 12, 13, 14, 15, 16, 17, 18, 19, 20, 21, 22, 7, 23, 24, 3, 4] f75t2) (.seq (.seq (.ops f75r3) (.cond (t 31) (.seq (.ops f75r4) .ret) .skip)) (.seq (.ops f75r5) (.seq (.ops f75r6) .ret))))))
def f75_ent : Ent := .code 44 f75 [.cn 2 4]
theorem f75_ok (oq : Nat → Value) (F : Nat → Prop) (h0 : Heap) : EntOK Tryz.prog oq F h0 75 f75_ent := ⟨soundD_of (fl := false) mixed Tryz.func75 rfl (by kernel_rfl) (by kernel_rfl) (by kernel_rfl), soundF_of (fl := false) mixed Tryz.func75 rfl (by kernel_rfl) (by kernel_rfl) (by kernel_rfl)⟩

/-! 76: tabor/basics.left -/
def f76r0 : List SOper := [
 o 2 (.new [(.int .i64 0), (.int .i64 0), (.string ⟨#[]⟩), (.slice none 0 0)])]
def f76r1 : List SOper := [
 o 5 (.mv (t 0)),
 o 6 (.call 67 [(t 5), (i 1), (i 1)])]
def f76t2 : OTree := (.one (o 8 (.mv (t 0)))
 (.one (o 9 (.nilck (t 8)))
 (.one (o 10 (.fa 0 (t 9)))
 (.one (o 11 (.ld1 (t 10)))
 (.one (o 12 (.mv (t 0)))
 (.one (o 13 (.nilck (t 12)))
 (.one (o 14 (.fa 2 (t 13)))
 (.one (o 15 (.ld1 (t 14)))
 (.one (o 16 (.ixs 1 (t 15) (i 0)))
 (.one (o 17 (.ld1 (t 16)))
 (.one (o 18 (.mv (t 0)))
 (.one (o 19 (.nilck (t 18)))
 (.one (o 20 (.fa 1 (t 19)))
 (.one (o 21 (.ld1 (t 20)))
 (.both (.one (o 22 (.call 50 [(t 11), (t 17), (t 21)]))
 (.one (o 7 (.mv (t 22)))
 (.one (o 23 (.ext (t 7) 0))
 (.one (o 24 (.ext (t 7) 1))
 (.one (o 3 (.new [(.int .i64 0), (.string ⟨#[]⟩), (.slice none 0 0), (.slice none 0 0), (.slice none 0 0), (.bool false), (.int .i64 0)]))
 (.one (q (.st 7 (t 3) (t 23)))
 (.one (o 4 (.mv (t 24)))
 .done))))))) (.one (o 3 (.new [(.int .i64 0), (.string ⟨#[]⟩), (.slice none 0 0), (.slice none 0 0), (.slice none 0 0), (.bool false), (.int .i64 0)]))
 (.one (o 22 (.call 50 [(t 11), (t 17), (t 21)]))
 (.one (o 7 (.mv (t 22)))
 (.one (o 23 (.ext (t 7) 0))
 (.one (o 24 (.ext (t 7) 1))
 (.one (q (.st 7 (t 3) (t 23)))
 (.one (o 4 (.mv (t 24)))
 .done))))))))))))))))))))))
def f76r3 : List SOper := [
 o 26 (.mv (t 4)),
 o 27 (.un .not (t 26)),
 o 25 (.mv (t 27))]
def f76r4 : List SOper := [
 o 28 (.call 124 [(i (-2))]),
 q (.st 4 (t 2) (t 28))]
def f76r5 : List SOper := [
 o 30 (.fa 5 (t 3)),
 o 31 (.ld1 (t 30)),
 o 32 (.un .not (t 31)),
 o 29 (.mv (t 32))]
def f76r6 : List SOper := [
 o 33 (.call 124 [(i (-1))]),
 q (.st 4 (t 2) (t 33))]
def f76r7 : List SOper := [
 o 34 (.fa 6 (t 3)),
 o 35 (.ld1 (t 34)),
 o 36 (.mv (t 0)),
 o 37 (.nilck (t 36)),
 o 38 (.fa 1 (t 37)),
 o 39 (.ld1 (t 38)),
 o 40 (.call 127 [(t 35), (t 39)]),
 o 41 (.call 124 [(t 40)]),
 q (.st 4 (t 2) (t 41))]
def f76 : SCode := (.seq (.ops f76r0) (.seq (.ops f76r1) (.seq (.tree [8, 9, 10, 11, 12, 13, 14, 15, 16, 17, 18, 19, 20, 21, 22, 7, 23, 24, 3, 4] f76t2) (.seq (.block 0 (.seq (.ops f76r3) (.cond (t 25) (.seq (.ops f76r4) .ret) (.seq (.ops f76r5) (.cond (t 29) (.seq (.ops f76r6) .ret) .skip))))) (.seq (.ops f76r7) .ret)))))
def f76_ent : Ent := .code 42 f76 [.cn 2 4]
theorem f76_ok (oq : Nat → Value) (F : Nat → Prop) (h0 : Heap) : EntOK Tryz.prog oq F h0 76 f76_ent := ⟨soundD_of (fl := false) mixed Tryz.func76 rfl (by kernel_rfl) (by kernel_rfl) (by kernel_rfl), soundF_of (fl := false) mixed Tryz.func76 rfl (by kernel_rfl) (by kernel_rfl) (by kernel_rfl)⟩

/-! 77: tabor/basics.names -/
def f77r0 : List SOper := [
 o 2 (.new [(.int .i64 0), (.int .i64 0), (.string ⟨#[]⟩), (.slice none 0 0)])]
def f77r1 : List SOper := [
 o 6 (.mv (t 0)),
 o 7 (.call 67 [(t 6), (i 0), (i 0)])]
def f77r2 : List SOper := [
 o 3 (.mv (.const (.slice none 0 0)))]
def f77r3 : List SOper := [
 o 8 (.mv (t 0)),
 o 9 (.nilck (t 8)),
 o 10 (.fa 0 (t 9)),
 o 11 (.ld1 (t 10)),
 o 12 (.mv (t 0)),
 o 13 (.nilck (t 12)),
 o 14 (.fa 1 (t 13)),
 o 15 (.ld1 (t 14)),
 o 18 (.mv (i 0)),
 o 16 (.call 128 [(t 11), (t 15)]),
 o 17 (.len (t 16))]
def f77r4 : List SOper := [
 o 19 (.cmp .lss (t 18) (t 17))]
def f77r5 : List SOper := [
 o 20 (.ixs 1 (t 16) (t 18)),
 o 21 (.ld1 (t 20)),
 o 5 (.mv (t 21))]
def f77r6 : List SOper := [
 o 22 (.mv (t 3)),
 o 23 (.mv (t 5)),
 o 24 (.call 123 [(t 23)]),
 o 25 (.bslice [(.int .i64 0), (.int .i64 0), (.string ⟨#[]⟩), (.slice none 0 0)] 1 [(0, 4)] [(t 24)]),
 o 26 (.app 4 56 [(.int .i64 0), (.int .i64 0), (.string ⟨#[]⟩), (.slice none 0 0)] (t 22) (t 25)),
 o 3 (.mv (t 26))]
def f77r7 : List SOper := [
 o 27 (.ar .add (t 18) (i 1)),
 o 18 (.mv (t 27))]
def f77l8 : SCode := (.seq (.ops f77r4) (.seq (.cond (t 19) .skip (.exit 0)) (.seq (.block 1 (.seq (.ops f77r5) (.ops f77r6))) (.ops f77r7))))
def f77r9 : List SOper := [
 o 28 (.mv (t 3)),
 o 29 (.call 126 [(t 28)]),
 q (.st 4 (t 2) (t 29))]
def f77 : SCode := (.seq (.ops f77r0) (.seq (.ops f77r1) (.seq (.ops f77r2) (.seq (.seq (.ops f77r3) (.block 0 (.loop f77l8))) (.seq (.ops f77r9) .ret)))))
def f77_ent : Ent := .code 30 f77 [.cn 2 4]
theorem f77_ok (oq : Nat → Value) (F : Nat → Prop) (h0 : Heap) : EntOK Tryz.prog oq F h0 77 f77_ent := ⟨soundD_of (fl := false) mixed Tryz.func77 rfl (by kernel_rfl) (by kernel_rfl) (by kernel_rfl), soundF_of (fl := false) mixed Tryz.func77 rfl (by kernel_rfl) (by kernel_rfl) (by kernel_rfl)⟩

/-! 78: tabor/basics.size -/
def f78r0 : List SOper := [
 o 2 (.new [(.int .i64 0), (.int .i64 0), (.string ⟨#[]⟩), (.slice none 0 0)])]
def f78r1 : List SOper := [
 o 3 (.mv (t 0)),
 o 4 (.call 67 [(t 3), (i 0), (i 0)])]
def f78r2 : List SOper := [
 o 5 (.mv (t 0)),
 o 6 (.nilck (t 5)),
 o 7 (.fa 0 (t 6)),
 o 8 (.ld1 (t 7)),
 o 9 (.mv (t 0)),
 o 10 (.nilck (t 9)),
 o 11 (.fa 1 (t 10)),
 o 12 (.ld1 (t 11)),
 o 13 (.call 129 [(t 8), (t 12)]),
 o 14 (.call 124 [(t 13)]),
 q (.st 4 (t 2) (t 14))]
def f78 : SCode := (.seq (.ops f78r0) (.seq (.ops f78r1) (.seq (.ops f78r2) .ret)))
def f78_ent : Ent := .code 15 f78 [.cn 2 4]
theorem f78_ok (oq : Nat → Value) (F : Nat → Prop) (h0 : Heap) : EntOK Tryz.prog oq F h0 78 f78_ent := ⟨soundD_of (fl := false) mixed Tryz.func78 rfl (by kernel_rfl) (by kernel_rfl) (by kernel_rfl), soundF_of (fl := false) mixed Tryz.func78 rfl (by kernel_rfl) (by kernel_rfl) (by kernel_rfl)⟩

/-! 79: tabor/basics.flush -/
def f79r0 : List SOper := [
 o 1 (.box (t 0)),
 o 2 (.new [(.int .i64 0), (.int .i64 0), (.string ⟨#[]⟩), (.slice none 0 0)])]
def f79r1 : List SOper := [
 o 4 (.ld1 (t 1)),
 o 5 (.call 67 [(t 4), (i 0), (i 0)])]
def f79r2 : List SOper := [
 o 6 (.ld1 (t 1)),
 o 7 (.nilck (t 6)),
 o 8 (.fa 0 (t 7)),
 o 9 (.ld1 (t 8)),
 o 10 (.call 87 [(t 9)])]
def f79r3 : List SOper := [
 o 3 (.mv (t 11))]
def f79r4 : List SOper := [
 o 13 (.ld1 (t 1)),
 o 14 (.mv (t 3)),
 o 15 (.build [(.int .i64 0), (.string ⟨#[]⟩), (.string ⟨#[]⟩), (.string ⟨#[]⟩), (.int .i64 0)] [(0, 1), (1, 1)] [(i 1), (t 14)]),
 o 16 (.bslice [(.int .i64 0), (.string ⟨#[]⟩), (.string ⟨#[]⟩), (.string ⟨#[]⟩), (.int .i64 0)] 1 [(0, 5)] [(t 15)]),
 o 17 (.call 120 [(t 13), (t 16)])]
def f79a5 : SCode := (.ops f79r3)
def f79b5 : SCode := (.block 1 (.ops f79r4))
def f79r6 : List SOper := [
 o 18 (.call 121 []),
 q (.st 4 (t 2) (t 18))]
def f79 : SCode := (.seq (.ops f79r0) (.seq (.ops f79r1) (.seq (.seq (.ops f79r2) (.block 0 (.rangeF (t 10) [11, 12] f79a5 f79b5))) (.seq (.ops f79r6) .ret))))
def f79_ent : Ent := .code 19 f79 [.cn 2 4]
theorem f79_ok (oq : Nat → Value) (F : Nat → Prop) (h0 : Heap) : EntOK Tryz.prog oq F h0 79 f79_ent := ⟨soundD_of (fl := false) mixed Tryz.func79 rfl (by kernel_rfl) (by kernel_rfl) (by kernel_rfl), soundF_of (fl := false) mixed Tryz.func79 rfl (by kernel_rfl) (by kernel_rfl) (by kernel_rfl)⟩

/-! 87: (*tabor/keys.Keys).All -/
def f87r0 : List SOper := [
 o 1 (.box (t 0)),
 o 2 (.mv (.const .nilFunc))]
def f87r1 : List SOper := [
 o 3 (.fn 142 [] [(t 1)]),
 o 2 (.mv (t 3))]
def f87 : SCode := (.seq (.ops f87r0) (.seq (.ops f87r1) .ret))
def f87_ent : Ent := .code 4 f87 [.t 2]
theorem f87_ok (oq : Nat → Value) (F : Nat → Prop) (h0 : Heap) : EntOK Tryz.prog oq F h0 87 f87_ent := ⟨soundD_of (fl := false) mixed Tryz.func87 rfl (by kernel_rfl) (by kernel_rfl) (by kernel_rfl), soundF_of (fl := false) mixed Tryz.func87 rfl (by kernel_rfl) (by kernel_rfl) (by kernel_rfl)⟩

/-! 114: slices.AppendSeq[[]string,string] -/
def f114r0 : List SOper := [
 o 2 (.box (t 0)),
 o 4 (.mv (.const (.slice none 0 0)))]
def f114r1 : List SOper := [
 o 6 (.mv (t 1))]
def f114r2 : List SOper := [
 o 5 (.mv (t 7))]
def f114r3 : List SOper := [
 o 8 (.ld1 (t 2)),
 o 9 (.mv (t 5)),
 o 10 (.bslice [(.string ⟨#[]⟩)] 1 [(0, 1)] [(t 9)]),
 o 11 (.app 1 16 [(.string ⟨#[]⟩)] (t 8) (t 10)),
 q (.st 1 (t 2) (t 11))]
def f114a4 : SCode := (.ops f114r2)
def f114b4 : SCode := (.block 1 (.ops f114r3))
def f114r5 : List SOper := [
 o 12 (.ld1 (t 2)),
 o 4 (.mv (t 12))]
def f114 : SCode := (.seq (.ops f114r0) (.seq (.seq (.ops f114r1) (.block 0 (.rangeF (t 6) [7] f114a4 f114b4))) (.seq (.ops f114r5) .ret)))
def f114_ent : Ent := .code 13 f114 [.t 4]
theorem f114_ok (oq : Nat → Value) (F : Nat → Prop) (h0 : Heap) : EntOK Tryz.prog oq F h0 114 f114_ent := ⟨soundD_of (fl := false) mixed Tryz.func114 rfl (by kernel_rfl) (by kernel_rfl) (by kernel_rfl), soundF_of (fl := false) mixed Tryz.func114 rfl (by kernel_rfl) (by kernel_rfl) (by kernel_rfl)⟩

/-! 115: slices.pdqsortOrdered[string] -/
def f115r0 : List SOper := [
 o 8 (.mv (b true))]
def f115r1 : List SOper := [
 o 9 (.mv (b true))]
def f115r2 : List SOper := [
 o 19 (.mv (t 2)),
 o 20 (.mv (t 1)),
 o 21 (.ar .sub (t 19) (t 20)),
 o 10 (.mv (t 21))]
def f115r3 : List SOper := [
 o 22 (.mv (t 10)),
 o 23 (.cmp .leq (t 22) (i 12))]
def f115r4 : List SOper := [
 o 24 (.mv (t 0)),
 o 25 (.mv (t 1)),
 o 26 (.mv (t 2)),
 o 27 (.call 173 [(t 24), (t 25), (t 26)])]
def f115r5 : List SOper := [
 o 28 (.mv (t 3)),
 o 29 (.cmp .eql (t 28) (i 0))]
def f115r6 : List SOper := [
 o 30 (.mv (t 0)),
 o 31 (.mv (t 1)),
 o 32 (.mv (t 2)),
 o 33 (.call 174 [(t 30), (t 31), (t 32)])]
def f115r7 : List SOper := [
 o 34 (.mv (t 8)),
 o 35 (.un .not (t 34))]
def f115r8 : List SOper := [
 o 36 (.mv (t 0)),
 o 37 (.mv (t 1)),
 o 38 (.mv (t 2)),
 o 39 (.call 175 [(t 36), (t 37), (t 38)])]
def f115r9 : List SOper := [
 o 40 (.mv (t 3)),
 o 41 (.ar .sub (t 40) (i 1)),
 o 3 (.mv (t 41))]
def f115r10 : List SOper := [
 o 43 (.mv (t 0)),
 o 44 (.mv (t 1)),
 o 45 (.mv (t 2)),
 o 46 (.call 176 [(t 43), (t 44), (t 45)]),
 o 42 (.mv (t 46)),
 o 47 (.ext (t 42) 0),
 o 48 (.ext (t 42) 1),
 o 11 (.mv (t 47)),
 o 12 (.mv (t 48))]
def f115r11 : List SOper := [
 o 49 (.mv (t 12)),
 o 50 (.cmp .eql (t 49) (i 2))]
def f115r12 : List SOper := [
 o 51 (.mv (t 0)),
 o 52 (.mv (t 1)),
 o 53 (.mv (t 2)),
 o 54 (.call 177 [(t 51), (t 52), (t 53)])]
def f115r13 : List SOper := [
 o 55 (.mv (t 2)),
 o 56 (.ar .sub (t 55) (i 1)),
 o 57 (.mv (t 11)),
 o 58 (.mv (t 1)),
 o 59 (.ar .sub (t 57) (t 58)),
 o 60 (.ar .sub (t 56) (t 59)),
 o 11 (.mv (t 60))]
def f115r14 : List SOper := [
 o 12 (.mv (i 1))]
def f115r15 : List SOper := [
 o 61 (.mv (t 8)),
 o 62 (.mv (t 61)),
 g 63 62 (.mv (t 9)),
 o 64 (.pick (t 62) (t 63) (b false)),
 o 65 (.mv (t 64)),
 g 66 65 (.mv (t 12)),
 g 67 65 (.cmp .eql (t 66) (i 1)),
 o 68 (.pick (t 65) (t 67) (b false))]
def f115r16 : List SOper := [
 o 69 (.mv (t 0)),
 o 70 (.mv (t 1)),
 o 71 (.mv (t 2)),
 o 72 (.call 178 [(t 69), (t 70), (t 71)])]
def f115r17 : List SOper := [
 o 73 (.mv (t 1)),
 o 74 (.cmp .gtr (t 73) (i 0)),
 o 75 (.mv (t 74)),
 g 76 75 (.mv (t 0)),
 g 77 75 (.mv (t 1)),
 g 78 75 (.ar .sub (t 77) (i 1)),
 g 79 75 (.ixs 1 (t 76) (t 78)),
 g 80 75 (.ld1 (t 79)),
 g 81 75 (.mv (t 0)),
 g 82 75 (.mv (t 11)),
 g 83 75 (.ixs 1 (t 81) (t 82)),
 g 84 75 (.ld1 (t 83)),
 g 85 75 (.call 179 [(t 80), (t 84)]),
 g 86 75 (.un .not (t 85)),
 o 87 (.pick (t 75) (t 86) (b false))]
def f115r18 : List SOper := [
 o 88 (.mv (t 0)),
 o 89 (.mv (t 1)),
 o 90 (.mv (t 2)),
 o 91 (.mv (t 11)),
 o 92 (.call 180 [(t 88), (t 89), (t 90), (t 91)]),
 o 13 (.mv (t 92))]
def f115r19 : List SOper := [
 o 93 (.mv (t 13)),
 o 1 (.mv (t 93))]
def f115r20 : List SOper := [
 o 95 (.mv (t 0)),
 o 96 (.mv (t 1)),
 o 97 (.mv (t 2)),
 o 98 (.mv (t 11)),
 o 99 (.call 181 [(t 95), (t 96), (t 97), (t 98)]),
 o 94 (.mv (t 99)),
 o 100 (.ext (t 94) 0),
 o 101 (.ext (t 94) 1),
 o 14 (.mv (t 100)),
 o 15 (.mv (t 101))]
def f115r21 : List SOper := [
 o 102 (.mv (t 15)),
 o 9 (.mv (t 102))]
def f115r22 : List SOper := [
 o 103 (.mv (t 14)),
 o 104 (.mv (t 1)),
 o 105 (.ar .sub (t 103) (t 104)),
 o 106 (.mv (t 2)),
 o 107 (.mv (t 14)),
 o 108 (.ar .sub (t 106) (t 107)),
 o 16 (.mv (t 105)),
 o 17 (.mv (t 108))]
def f115r23 : List SOper := [
 o 109 (.mv (t 10)),
 o 110 (.quo (t 109) (i 8)),
 o 18 (.mv (t 110))]
def f115r24 : List SOper := [
 o 111 (.mv (t 16)),
 o 112 (.mv (t 17)),
 o 113 (.cmp .lss (t 111) (t 112))]
def f115r25 : List SOper := [
 o 114 (.mv (t 16)),
 o 115 (.mv (t 18)),
 o 116 (.cmp .geq (t 114) (t 115)),
 o 8 (.mv (t 116))]
def f115r26 : List SOper := [
 o 117 (.mv (t 0)),
 o 118 (.mv (t 1)),
 o 119 (.mv (t 14)),
 o 120 (.mv (t 3)),
 o 121 (.call 115 [(t 117), (t 118), (t 119), (t 120)])]
def f115r27 : List SOper := [
 o 122 (.mv (t 14)),
 o 123 (.ar .add (t 122) (i 1)),
 o 1 (.mv (t 123))]
def f115r28 : List SOper := [
 o 124 (.mv (t 17)),
 o 125 (.mv (t 18)),
 o 126 (.cmp .geq (t 124) (t 125)),
 o 8 (.mv (t 126))]
def f115r29 : List SOper := [
 o 127 (.mv (t 0)),
 o 128 (.mv (t 14)),
 o 129 (.ar .add (t 128) (i 1)),
 o 130 (.mv (t 2)),
 o 131 (.mv (t 3)),
 o 132 (.call 115 [(t 127), (t 129), (t 130), (t 131)])]
def f115r30 : List SOper := [
 o 133 (.mv (t 14)),
 o 2 (.mv (t 133))]
def f115l31 : SCode := (.block 1 (.seq (.ops f115r2) (.seq (.seq (.ops f115r3) (.cond (t 23) (.seq (.ops f115r4) .ret) .skip)) (.seq (.seq (.ops f115r5) (.cond (t 29) (.seq (.ops f115r6) .ret) .skip)) (.seq (.seq (.ops f115r7) (.cond (t 35) (.seq (.ops f115r8) (.ops f115r9)) .skip)) (.seq (.ops f115r10) (.seq (.seq (.ops f115r11) (.cond (t 50) (.seq (.ops f115r12) (.seq (.ops f115r13) (.ops f115r14))) .skip)) (.seq (.seq (.ops f115r15) (.cond (t 68) (.seq (.ops f115r16) (.cond (t 72) .ret .skip)) .skip)) (.seq (.seq (.ops f115r17) (.cond (t 87) (.seq (.ops f115r18) (.seq (.ops f115r19) (.exit 1))) .skip)) (.seq (.ops f115r20) (.seq (.ops f115r21) (.seq (.ops f115r22) (.seq (.ops f115r23) (.seq (.ops f115r24) (.cond (t 113) (.seq (.ops f115r25) (.seq (.ops f115r26) (.ops f115r27))) (.seq (.ops f115r28) (.seq (.ops f115r29) (.ops f115r30))))))))))))))))))
def f115 : SCode := (.seq (.ops f115r0) (.seq (.ops f115r1) (.block 0 (.loop f115l31))))
def f115_ent : Ent := .code 134 f115 []
theorem f115_ok (oq : Nat → Value) (F : Nat → Prop) (h0 : Heap) : EntOK Tryz.prog oq F h0 115 f115_ent := ⟨soundD_of (fl := false) mixed Tryz.func115 rfl (by kernel_rfl) (by kernel_rfl) (by kernel_rfl), soundF_of (fl := false) mixed Tryz.func115 rfl (by kernel_rfl) (by kernel_rfl) (by kernel_rfl)⟩

/-! 116: math/bits.Len -/
def f116r0 : List SOper := [
 o 2 (.mv (i 0))]
def f116r1 : List SOper := [
 o 3 (.mv (t 0)),
 o 4 (.cvt .u32 (t 3)),
 o 5 (.call 182 [(t 4)]),
 o 2 (.mv (t 5))]
def f116r2 : List SOper := [
 o 6 (.mv (t 0)),
 o 7 (.call 169 [(t 6)]),
 o 2 (.mv (t 7))]
def f116 : SCode := (.seq (.ops f116r0) (.seq (.cond (b false) (.seq (.ops f116r1) .ret) .skip) (.seq (.ops f116r2) .ret)))
def f116_ent : Ent := .code 8 f116 [.t 2]
theorem f116_ok (oq : Nat → Value) (F : Nat → Prop) (h0 : Heap) : EntOK Tryz.prog oq F h0 116 f116_ent := ⟨soundD_of (fl := false) mixed Tryz.func116 rfl (by kernel_rfl) (by kernel_rfl) (by kernel_rfl), soundF_of (fl := false) mixed Tryz.func116 rfl (by kernel_rfl) (by kernel_rfl) (by kernel_rfl)⟩

/-! 117: tabor/basics.must -/
def f117r0 : List SOper := [
 o 4 (.mv (t 0)),
 o 5 (.un .not (t 4))]
def f117r1 : List SOper := [
 o 6 (.mv (t 1)),
 o 7 (.build [(.string ⟨#[]⟩)] [(0, 1)] [(t 6)]),
 o 8 (.mki 89 (t 7)),
 q (.pan (t 8))]
def f117 : SCode := (.seq (.ops f117r0) (.cond (t 5) (.ops f117r1) .skip))
def f117_ent : Ent := .code 9 f117 []
theorem f117_ok (oq : Nat → Value) (F : Nat → Prop) (h0 : Heap) : EntOK Tryz.prog oq F h0 117 f117_ent := ⟨soundD_of (fl := false) mixed Tryz.func117 rfl (by kernel_rfl) (by kernel_rfl) (by kernel_rfl), soundF_of (fl := false) mixed Tryz.func117 rfl (by kernel_rfl) (by kernel_rfl) (by kernel_rfl)⟩

/-! 121: tabor/basics.ok -/
def f121r0 : List SOper := [
 o 0 (.new [(.int .i64 0), (.int .i64 0), (.string ⟨#[]⟩), (.slice none 0 0)])]
def f121r1 : List SOper := [
 o 1 (.build [(.int .i64 0), (.int .i64 0), (.string ⟨#[]⟩), (.slice none 0 0)] [(0, 1), (2, 1)] [(i 1), (.const (.string ⟨#[79, 75]⟩))]),
 q (.st 4 (t 0) (t 1))]
def f121 : SCode := (.seq (.ops f121r0) (.seq (.ops f121r1) .ret))
def f121_ent : Ent := .code 2 f121 [.cn 0 4]
theorem f121_ok (oq : Nat → Value) (F : Nat → Prop) (h0 : Heap) : EntOK Tryz.prog oq F h0 121 f121_ent := ⟨soundD_of (fl := false) mixed Tryz.func121 rfl (by kernel_rfl) (by kernel_rfl) (by kernel_rfl), soundF_of (fl := false) mixed Tryz.func121 rfl (by kernel_rfl) (by kernel_rfl) (by kernel_rfl)⟩

/-! 124: tabor/basics.number -/
def f124r0 : List SOper := [
 o 2 (.new [(.int .i64 0), (.int .i64 0), (.string ⟨#[]⟩), (.slice none 0 0)])]
def f124r1 : List SOper := [
 o 3 (.mv (t 0)),
 o 4 (.build [(.int .i64 0), (.int .i64 0), (.string ⟨#[]⟩), (.slice none 0 0)] [(0, 1), (1, 1)] [(i 3), (t 3)]),
 q (.st 4 (t 2) (t 4))]
def f124 : SCode := (.seq (.ops f124r0) (.seq (.ops f124r1) .ret))
def f124_ent : Ent := .code 5 f124 [.cn 2 4]
theorem f124_ok (oq : Nat → Value) (F : Nat → Prop) (h0 : Heap) : EntOK Tryz.prog oq F h0 124 f124_ent := ⟨soundD_of (fl := false) mixed Tryz.func124 rfl (by kernel_rfl) (by kernel_rfl) (by kernel_rfl), soundF_of (fl := false) mixed Tryz.func124 rfl (by kernel_rfl) (by kernel_rfl) (by kernel_rfl)⟩

/-! 125: tabor/basics.step$1 -/
def f125r0 : List SOper := [
 o 3 (.new [(.int .i64 0), (.int .i64 0), (.string ⟨#[]⟩), (.slice none 0 0)])]
def f125r1 : List SOper := [
 o 4 (.mv (t 0)),
 o 5 (.call 67 [(t 4), (i 1), (i 1)])]
def f125r2 : List SOper := [
 o 6 (.mv (t 0)),
 o 7 (.ld1 (t 1)),
 o 8 (.call 68 [(t 6), (t 7)]),
 q (.st 4 (t 3) (t 8))]
def f125 : SCode := (.seq (.ops f125r0) (.seq (.ops f125r1) (.seq (.ops f125r2) .ret)))
def f125_ent : Ent := .code 9 f125 [.cn 3 4]
theorem f125_ok (oq : Nat → Value) (F : Nat → Prop) (h0 : Heap) : EntOK Tryz.prog oq F h0 125 f125_ent := ⟨soundD_of (fl := false) mixed Tryz.func125 rfl (by kernel_rfl) (by kernel_rfl) (by kernel_rfl), soundF_of (fl := false) mixed Tryz.func125 rfl (by kernel_rfl) (by kernel_rfl) (by kernel_rfl)⟩

/-! 126: tabor/basics.list -/
def f126r0 : List SOper := [
 o 2 (.new [(.int .i64 0), (.int .i64 0), (.string ⟨#[]⟩), (.slice none 0 0)])]
def f126r1 : List SOper := [
 o 3 (.mv (t 0)),
 o 4 (.build [(.int .i64 0), (.int .i64 0), (.string ⟨#[]⟩), (.slice none 0 0)] [(0, 1), (3, 1)] [(i 5), (t 3)]),
 q (.st 4 (t 2) (t 4))]
def f126 : SCode := (.seq (.ops f126r0) (.seq (.ops f126r1) .ret))
def f126_ent : Ent := .code 5 f126 [.cn 2 4]
theorem f126_ok (oq : Nat → Value) (F : Nat → Prop) (h0 : Heap) : EntOK Tryz.prog oq F h0 126 f126_ent := ⟨soundD_of (fl := false) mixed Tryz.func126 rfl (by kernel_rfl) (by kernel_rfl) (by kernel_rfl), soundF_of (fl := false) mixed Tryz.func126 rfl (by kernel_rfl) (by kernel_rfl) (by kernel_rfl)⟩

/-! 128: (*tabor/keys.Keys).Names -/
def f128r0 : List SOper := [
 o 3 (.box (t 1)),
 o 4 (.mv (.const (.slice none 0 0)))]
def f128r1 : List SOper := [
 o 5 (.new [(.slice none 0 0)])]
def f128r2 : List SOper := [
 o 8 (.mv (t 0)),
 o 9 (.call 87 [(t 8)])]
def f128r3 : List SOper := [
 o 6 (.mv (t 10))]
def f128r4 : List SOper := [
 o 7 (.new [(.int .i64 0), (.string ⟨#[]⟩), (.slice none 0 0), (.slice none 0 0), (.slice none 0 0), (.bool false), (.int .i64 0)]),
 q (.st 7 (t 7) (t 11))]
def f128r5 : List SOper := [
 o 12 (.ldn 7 (t 7)),
 o 13 (.ld1 (t 3)),
 o 14 (.call 103 [(t 12), (t 13)]),
 o 15 (.un .not (t 14))]
def f128r6 : List SOper := [
 o 16 (.ld1 (t 5)),
 o 17 (.mv (t 6)),
 o 18 (.bslice [(.string ⟨#[]⟩)] 1 [(0, 1)] [(t 17)]),
 o 19 (.app 1 16 [(.string ⟨#[]⟩)] (t 16) (t 18)),
 q (.st 1 (t 5) (t 19))]
def f128a7 : SCode := (.seq (.ops f128r3) (.ops f128r4))
def f128b7 : SCode := (.block 1 (.seq (.ops f128r5) (.cond (t 15) (.ops f128r6) .skip)))
def f128r8 : List SOper := [
 o 20 (.ld1 (t 5)),
 o 4 (.mv (t 20))]
def f128 : SCode := (.seq (.ops f128r0) (.seq (.ops f128r1) (.seq (.seq (.ops f128r2) (.block 0 (.rangeF (t 9) [10, 11] f128a7 f128b7))) (.seq (.ops f128r8) .ret))))
def f128_ent : Ent := .code 21 f128 [.t 4]
theorem f128_ok (oq : Nat → Value) (F : Nat → Prop) (h0 : Heap) : EntOK Tryz.prog oq F h0 128 f128_ent := ⟨soundD_of (fl := false) mixed Tryz.func128 rfl (by kernel_rfl) (by kernel_rfl) (by kernel_rfl), soundF_of (fl := false) mixed Tryz.func128 rfl (by kernel_rfl) (by kernel_rfl) (by kernel_rfl)⟩

/-! 129: (*tabor/keys.Keys).Size -/
def f129r0 : List SOper := [
 o 4 (.mv (i 0))]
def f129r1 : List SOper := [
 o 5 (.mv (t 0)),
 o 6 (.mv (t 1)),
 o 7 (.call 128 [(t 5), (t 6)]),
 o 8 (.len (t 7)),
 o 4 (.mv (t 8))]
def f129 : SCode := (.seq (.ops f129r0) (.seq (.ops f129r1) .ret))
def f129_ent : Ent := .code 9 f129 [.t 4]
theorem f129_ok (oq : Nat → Value) (F : Nat → Prop) (h0 : Heap) : EntOK Tryz.prog oq F h0 129 f129_ent := ⟨soundD_of (fl := false) mixed Tryz.func129 rfl (by kernel_rfl) (by kernel_rfl) (by kernel_rfl), soundF_of (fl := false) mixed Tryz.func129 rfl (by kernel_rfl) (by kernel_rfl) (by kernel_rfl)⟩

/-! 142: (*tabor/keys.Keys).All$1 -/
def f142r0 : List SOper := [
 o 6 (.ld1 (t 1)),
 o 7 (.call 52 [(t 6)])]
def f142r1 : List SOper := [
 o 8 (.ld1 (t 1)),
 o 9 (.nilck (t 8)),
 o 10 (.fa 0 (t 9)),
 o 11 (.ld1 (t 10)),
 o 12 (.nilck (t 11)),
 o 13 (.fa 0 (t 12)),
 o 14 (.ld1 (t 13)),
 o 15 (.call 143 [(t 14)]),
 o 16 (.call 34 [(t 15)]),
 o 17 (.len (t 16)),
 o 18 (.mv (i 0))]
def f142r2 : List SOper := [
 o 19 (.cmp .lss (t 18) (t 17))]
def f142r3 : List SOper := [
 o 20 (.ixs 1 (t 16) (t 18)),
 o 21 (.ld1 (t 20)),
 o 4 (.mv (t 21))]
def f142r4 : List SOper := [
 o 22 (.ld1 (t 1)),
 o 23 (.nilck (t 22)),
 o 24 (.fa 0 (t 23)),
 o 25 (.ld1 (t 24)),
 o 26 (.nilck (t 25)),
 o 27 (.fa 0 (t 26)),
 o 28 (.ld1 (t 27)),
 o 29 (.mv (t 4)),
 o 30 (.look .str (.pointer none) false (t 28) (t 29)),
 o 5 (.mv (t 30))]
def f142r5 : List SOper := [
 o 31 (.mv (t 5)),
 o 32 (.eqn 0 true (t 31)),
 o 33 (.mv (t 32)),
 g 34 33 (.mv (t 0)),
 g 35 33 (.mv (t 4)),
 g 36 33 (.mv (t 5)),
 g 37 33 (.nilck (t 36)),
 g 38 33 (.ldn 7 (t 37)),
 g 39 33 (.call 46 [(t 38)]),
 g 40 33 (.callv (t 34) [(t 35), (t 39)]),
 g 41 33 (.un .not (t 40)),
 o 42 (.pick (t 33) (t 41) (b false))]
def f142r6 : List SOper := [
 o 43 (.ar .add (t 18) (i 1)),
 o 18 (.mv (t 43))]
def f142l7 : SCode := (.seq (.ops f142r2) (.seq (.cond (t 19) .skip (.exit 0)) (.seq (.block 1 (.seq (.ops f142r3) (.seq (.ops f142r4) (.seq (.ops f142r5) (.cond (t 42) .ret .skip))))) (.ops f142r6))))
def f142 : SCode := (.seq (.seq (.ops f142r0) (.cond (t 7) .ret .skip)) (.seq (.ops f142r1) (.block 0 (.loop f142l7))))
def f142_ent : Ent := .code 44 f142 []
theorem f142_ok (oq : Nat → Value) (F : Nat → Prop) (h0 : Heap) : EntOK Tryz.prog oq F h0 142 f142_ent := ⟨soundD_of (fl := false) mixed Tryz.func142 rfl (by kernel_rfl) (by kernel_rfl) (by kernel_rfl), soundF_of (fl := false) mixed Tryz.func142 rfl (by kernel_rfl) (by kernel_rfl) (by kernel_rfl)⟩

/-! 143: maps.Keys[map[string]*tabor/api.Thing,string,*tabor/api.Thing] -/
def f143r0 : List SOper := [
 o 1 (.box (t 0)),
 o 2 (.mv (.const .nilFunc))]
def f143r1 : List SOper := [
 o 3 (.fn 191 [] [(t 1)]),
 o 2 (.mv (t 3))]
def f143 : SCode := (.seq (.ops f143r0) (.seq (.ops f143r1) .ret))
def f143_ent : Ent := .code 4 f143 [.t 2]
theorem f143_ok (oq : Nat → Value) (F : Nat → Prop) (h0 : Heap) : EntOK Tryz.prog oq F h0 143 f143_ent := ⟨soundD_of (fl := false) mixed Tryz.func143 rfl (by kernel_rfl) (by kernel_rfl) (by kernel_rfl), soundF_of (fl := false) mixed Tryz.func143 rfl (by kernel_rfl) (by kernel_rfl) (by kernel_rfl)⟩

/-! 169: math/bits.Len64 -/
def f169r0 : List SOper := [
 o 2 (.mv (i 0))]
def f169r1 : List SOper := [
 o 3 (.mv (t 0)),
 o 4 (.cmp .geq (t 3) (.const (.int .u64 4294967296)))]
def f169r2 : List SOper := [
 o 5 (.mv (t 0)),
 o 6 (.sh .u64 false 32 (t 5)),
 o 0 (.mv (t 6))]
def f169r3 : List SOper := [
 o 2 (.mv (i 32))]
def f169r4 : List SOper := [
 o 7 (.mv (t 0)),
 o 8 (.cmp .geq (t 7) (.const (.int .u64 65536)))]
def f169r5 : List SOper := [
 o 9 (.mv (t 0)),
 o 10 (.sh .u64 false 16 (t 9)),
 o 0 (.mv (t 10))]
def f169r6 : List SOper := [
 o 11 (.mv (t 2)),
 o 12 (.ar .add (t 11) (i 16)),
 o 2 (.mv (t 12))]
def f169r7 : List SOper := [
 o 13 (.mv (t 0)),
 o 14 (.cmp .geq (t 13) (.const (.int .u64 256)))]
def f169r8 : List SOper := [
 o 15 (.mv (t 0)),
 o 16 (.sh .u64 false 8 (t 15)),
 o 0 (.mv (t 16))]
def f169r9 : List SOper := [
 o 17 (.mv (t 2)),
 o 18 (.ar .add (t 17) (i 8)),
 o 2 (.mv (t 18))]
def f169r10 : List SOper := [
 o 19 (.mv (t 2)),
 o 20 (.mv (t 0)),
 o 21 (.cvt .u8 (t 20)),
 o 22 (.ixc (.const (.string ⟨#[0, 1, 2, 2, 3, 3, 3, 3, 4, 4, 4, 4, 4, 4, 4, 4, 5, 5, 5, 5, 5, 5, 5, 5, 5, 5, 5, 5, 5, 5, 5, 5, 6, 6, 6, 6, 6, 6, 6, 6, 6, 6, 6, 6, 6, 6, 6, 6, 6, 6, 6, 6, 6, 6, 6, 6, 6, 6, 6, 6, 6, 6, 6, 6, 7, 7, 7, 7, 7, 7, 7, 7, 7, 7, 7, 7, 7, 7, 7, 7, 7, 7, 7, 7, 7, 7, 7, 7, 7, 7, 7, 7, 7, 7, 7, 7, 7, 7, 7, 7, 7, 7, 7, 7, 7, 7, 7, 7, 7, 7, 7, 7, 7, 7, 7, 7, 7, 7, 7, 7, 7, 7, 7, 7, 7, 7, 7, 7, 8, 8, 8, 8, 8, 8, 8, 8, 8, 8, 8, 8, 8, 8, 8, 8, 8, 8, 8, 8, 8, 8, 8, 8, 8, 8, 8, 8, 8, 8, 8, 8, 8, 8, 8, 8, 8, 8, 8, 8, 8, 8, 8, 8, 8, 8, 8, 8, 8, 8, 8, 8, 8, 8, 8, 8, 8, 8, 8, 8, 8, 8, 8, 8, 8, 8, 8, 8, 8, 8, 8, 8, 8, 8, 8, 8, 8, 8, 8, 8, 8, 8, 8, 8, 8, 8, 8, 8, 8, 8, 8, 8, 8, 8, 8, 8, 8, 8, 8, 8, 8, 8, 8, 8, 8, 8, 8, 8, 8, 8, 8, 8, 8, 8, 8, 8, 8, 8, 8, 8, 8, 8, 8, 8, 8, 8, 8, 8]⟩)) (t 21)),
 o 23 (.cvt .i64 (t 22)),
 o 24 (.ar .add (t 19) (t 23)),
 o 2 (.mv (t 24))]
def f169 : SCode := (.seq (.ops f169r0) (.seq (.seq (.ops f169r1) (.cond (t 4) (.seq (.ops f169r2) (.ops f169r3)) .skip)) (.seq (.seq (.ops f169r4) (.cond (t 8) (.seq (.ops f169r5) (.ops f169r6)) .skip)) (.seq (.seq (.ops f169r7) (.cond (t 14) (.seq (.ops f169r8) (.ops f169r9)) .skip)) (.seq (.ops f169r10) .ret)))))
def f169_ent : Ent := .code 25 f169 [.t 2]
theorem f169_ok (oq : Nat → Value) (F : Nat → Prop) (h0 : Heap) : EntOK Tryz.prog oq F h0 169 f169_ent := ⟨soundD_of (fl := false) mixed Tryz.func169 rfl (by kernel_rfl) (by kernel_rfl) (by kernel_rfl), soundF_of (fl := false) mixed Tryz.func169 rfl (by kernel_rfl) (by kernel_rfl) (by kernel_rfl)⟩

/-! 173: slices.insertionSortOrdered[string] -/
def f173r0 : List SOper := [
 o 8 (.mv (t 1)),
 o 9 (.ar .add (t 8) (i 1)),
 o 6 (.mv (t 9))]
def f173r1 : List SOper := [
 o 10 (.mv (t 6)),
 o 11 (.mv (t 2)),
 o 12 (.cmp .lss (t 10) (t 11))]
def f173r2 : List SOper := [
 o 15 (.mv (t 6)),
 o 7 (.mv (t 15))]
def f173r3 : List SOper := [
 o 16 (.mv (t 7)),
 o 17 (.mv (t 1)),
 o 18 (.cmp .gtr (t 16) (t 17)),
 o 19 (.mv (t 18)),
 g 20 19 (.mv (t 0)),
 g 21 19 (.mv (t 7)),
 g 22 19 (.ixs 1 (t 20) (t 21)),
 g 23 19 (.ld1 (t 22)),
 g 24 19 (.mv (t 0)),
 g 25 19 (.mv (t 7)),
 g 26 19 (.ar .sub (t 25) (i 1)),
 g 27 19 (.ixs 1 (t 24) (t 26)),
 g 28 19 (.ld1 (t 27)),
 g 29 19 (.call 179 [(t 23), (t 28)]),
 o 30 (.pick (t 19) (t 29) (b false))]
def f173r4 : List SOper := [
 o 33 (.mv (t 0)),
 o 34 (.mv (t 7)),
 o 35 (.mv (t 0)),
 o 36 (.mv (t 7)),
 o 37 (.ar .sub (t 36) (i 1)),
 o 38 (.mv (t 0)),
 o 39 (.mv (t 7)),
 o 40 (.ar .sub (t 39) (i 1)),
 o 41 (.ixs 1 (t 38) (t 40)),
 o 42 (.ld1 (t 41)),
 o 43 (.mv (t 0)),
 o 44 (.mv (t 7)),
 o 45 (.ixs 1 (t 43) (t 44)),
 o 46 (.ld1 (t 45)),
 o 47 (.ixs 1 (t 33) (t 34)),
 q (.st 1 (t 47) (t 42)),
 o 48 (.ixs 1 (t 35) (t 37)),
 q (.st 1 (t 48) (t 46))]
def f173r5 : List SOper := [
 o 31 (.mv (t 7)),
 o 32 (.ar .sub (t 31) (i 1)),
 o 7 (.mv (t 32))]
def f173l6 : SCode := (.seq (.seq (.ops f173r3) (.cond (t 30) .skip (.exit 2))) (.seq (.block 3 (.ops f173r4)) (.ops f173r5)))
def f173r7 : List SOper := [
 o 13 (.mv (t 6)),
 o 14 (.ar .add (t 13) (i 1)),
 o 6 (.mv (t 14))]
def f173l8 : SCode := (.seq (.seq (.ops f173r1) (.cond (t 12) .skip (.exit 0))) (.seq (.block 1 (.seq (.ops f173r2) (.block 2 (.loop f173l6)))) (.ops f173r7)))
def f173 : SCode := (.seq (.ops f173r0) (.block 0 (.loop f173l8)))
def f173_ent : Ent := .code 49 f173 []
theorem f173_ok (oq : Nat → Value) (F : Nat → Prop) (h0 : Heap) : EntOK Tryz.prog oq F h0 173 f173_ent := ⟨soundD_of (fl := false) mixed Tryz.func173 rfl (by kernel_rfl) (by kernel_rfl) (by kernel_rfl), soundF_of (fl := false) mixed Tryz.func173 rfl (by kernel_rfl) (by kernel_rfl) (by kernel_rfl)⟩

/-! 191: maps.Keys[map[string]*tabor/api.Thing,string,*tabor/api.Thing]$1 -/
def f191r0 : List SOper := [
 o 4 (.ld1 (t 1)),
 o 5 (.rng (t 4))]
def f191r1 : List SOper := [
 o 6 (.nxt (t 5)),
 o 7 (.ext (t 6) 0)]
def f191r2 : List SOper := [
 o 8 (.ent (t 5)),
 o 9 (.ext (t 8) 0),
 o 3 (.mv (t 9))]
def f191r3 : List SOper := [
 o 10 (.mv (t 0)),
 o 11 (.mv (t 3)),
 o 12 (.callv (t 10) [(t 11)]),
 o 13 (.un .not (t 12))]
def f191l4 : SCode := (.seq (.ops f191r1) (.seq (.cond (t 7) .skip (.exit 0)) (.block 1 (.seq (.ops f191r2) (.seq (.ops f191r3) (.cond (t 13) .ret .skip))))))
def f191 : SCode := (.seq (.ops f191r0) (.block 0 (.loop f191l4)))
def f191_ent : Ent := .code 14 f191 []
theorem f191_ok (oq : Nat → Value) (F : Nat → Prop) (h0 : Heap) : EntOK Tryz.prog oq F h0 191 f191_ent := ⟨soundD_of (fl := false) mixed Tryz.func191 rfl (by kernel_rfl) (by kernel_rfl) (by kernel_rfl), soundF_of (fl := false) mixed Tryz.func191 rfl (by kernel_rfl) (by kernel_rfl) (by kernel_rfl)⟩

end Go.Proofs.YtigolfakcblnjaaGreatDoor.Q
