/-
  The simplified code of this seat's functions, and that it is what the program's code comes to. Printed by a program (wip/print.lean).
-/
import Derived.Test.YtigolfakcblnjaaGreatDoorCode
import Derived.Test.YtigolfakcblnjaaGreatDoorProg
set_option maxRecDepth 100000
namespace Go.Proofs.YtigolfakcblnjaaGreatDoor.C
open Go Go.Sx Go.Sx.S


/-! 4: tabor/taborlaw08.BasicsNames -/
def f4r0 : List SOper := [
 o 2 (.mv (b false))]
def f4r1 : List SOper := [
 o 10 (.mv (t 0)),
 o 11 (.lens (t 10)),
 o 12 (.cmp .gtr (t 11) (i 300))]
def f4r2 : List SOper := [
 o 13 (.call 11 []),
 o 2 (.mv (t 13))]
def f4r3 : List SOper := [
 o 14 (.call 14 []),
 o 15 (.call 15 []),
 o 3 (.mv (t 14)),
 o 4 (.mv (t 15))]
def f4r4 : List SOper := [
 o 16 (.mv (t 3)),
 o 17 (.len (t 16)),
 o 18 (.mv (t 4)),
 o 19 (.len (t 18)),
 o 20 (.cmp .neq (t 17) (t 19))]
def f4r5 : List SOper := [
 o 2 (.mv (b false))]
def f4r6 : List SOper := [
 o 5 (.mv (b false))]
def f4r7 : List SOper := [
 o 6 (.mv (i 0))]
def f4r8 : List SOper := [
 o 21 (.mv (t 6)),
 o 22 (.mv (t 3)),
 o 23 (.len (t 22)),
 o 24 (.cmp .lss (t 21) (t 23))]
def f4r9 : List SOper := [
 o 27 (.mv (t 3)),
 o 28 (.mv (t 6)),
 o 29 (.ixs 1 (t 27) (t 28)),
 o 30 (.ld1 (t 29)),
 o 31 (.mv (t 4)),
 o 32 (.mv (t 6)),
 o 33 (.ixs 1 (t 31) (t 32)),
 o 34 (.ld1 (t 33)),
 o 35 (.cmp .neq (t 30) (t 34))]
def f4r10 : List SOper := [
 o 2 (.mv (b false))]
def f4r11 : List SOper := [
 o 36 (.mv (t 5)),
 o 37 (.mv (t 36)),
 n 38 37 (.mv (t 4)),
 n 39 37 (.mv (t 6)),
 n 40 37 (.ixs 1 (t 38) (t 39)),
 n 41 37 (.ld1 (t 40)),
 n 42 37 (.mv (t 0)),
 n 43 37 (.callq 16 [(t 42)]),
 n 44 37 (.cmp .eql (t 41) (t 43)),
 o 45 (.pick (t 37) (b true) (t 44)),
 o 5 (.mv (t 45))]
def f4r12 : List SOper := [
 o 25 (.mv (t 6)),
 o 26 (.ar .add (t 25) (i 1)),
 o 6 (.mv (t 26))]
def f4l13 : SCode := (.seq (.seq (.ops f4r8) (.cond (t 24) .skip (.exit 0))) (.seq (.block 1 (.seq (.seq (.ops f4r9) (.cond (t 35) (.seq (.ops f4r10) .ret) .skip)) (.ops f4r11))) (.ops f4r12)))
def f4r14 : List SOper := [
 o 47 (.call 18 []),
 o 48 (.mv (t 0)),
 o 49 (.bslice [(.string ⟨#[]⟩)] 1 [(0, 1)] [(t 48)]),
 o 50 (.call 17 [(t 47), (i 0), (t 49)]),
 o 46 (.mv (t 50)),
 o 51 (.ext (t 46) 0),
 o 52 (.ext (t 46) 1),
 o 53 (.ext (t 46) 2),
 o 7 (.new [(.int .i64 0), (.int .i64 0), (.string ⟨#[]⟩), (.slice none 0 0)]),
 q (.st 4 (t 7) (t 51)),
 o 8 (.mv (t 52)),
 o 9 (.mv (t 53))]
def f4r15 : List SOper := [
 o 54 (.mv (t 9)),
 o 55 (.mv (t 5)),
 o 56 (.cmpb false (t 54) (t 55)),
 o 57 (.mv (t 56)),
 g 58 57 (.call 11 []),
 o 59 (.pick (t 57) (t 58) (b false)),
 o 2 (.mv (t 59))]
def f4 : SCode := (.seq (.ops f4r0) (.seq (.seq (.ops f4r1) (.cond (t 12) (.seq (.ops f4r2) .ret) .skip)) (.seq (.ops f4r3) (.seq (.seq (.ops f4r4) (.cond (t 20) (.seq (.ops f4r5) .ret) .skip)) (.seq (.ops f4r6) (.seq (.seq (.ops f4r7) (.block 0 (.loop f4l13))) (.seq (.ops f4r14) (.seq (.ops f4r15) .ret))))))))
theorem f4_calls : Sound Tryz.prog 4 60 f4 [.t 2] := sound_of mixed Tryz.func4 rfl (by kernel_rfl) (by kernel_rfl) (by kernel_rfl)

/-! 14: tabor/basics.Names -/
def f14r0 : List SOper := [
 o 0 (.mv (.const (.slice none 0 0)))]
def f14r1 : List SOper := [
 o 1 (.call 36 []),
 o 2 (.call 35 [(t 1)]),
 o 3 (.call 34 [(t 2)]),
 o 0 (.mv (t 3))]
def f14 : SCode := (.seq (.ops f14r0) (.seq (.ops f14r1) .ret))
theorem f14_calls : Sound Tryz.prog 14 4 f14 [.t 0] := sound_of mixed Tryz.func14 rfl (by kernel_rfl) (by kernel_rfl) (by kernel_rfl)

/-! 15: tabor/taborref08.Names -/
def f15r0 : List SOper := [
 o 0 (.mv (.const (.slice none 0 0)))]
def f15r1 : List SOper := [
 o 1 (.bslice (List.replicate 18 (.string ⟨#[]⟩)) 18 [(0, 1), (1, 1), (2, 1), (3, 1), (4, 1), (5, 1), (6, 1), (7, 1), (8, 1), (9, 1), (10, 1), (11, 1), (12, 1), (13, 1), (14, 1), (15, 1), (16, 1), (17, 1)] [(.const (.string ⟨#[65, 80, 80, 69, 78, 68]⟩)), (.const (.string ⟨#[68, 66, 83, 73, 90, 69]⟩)), (.const (.string ⟨#[68, 69, 67, 82]⟩)), (.const (.string ⟨#[68, 69, 76]⟩)), (.const (.string ⟨#[69, 88, 73, 83, 84, 83]⟩)), (.const (.string ⟨#[70, 76, 85, 83, 72, 65, 76, 76]⟩)), (.const (.string ⟨#[71, 69, 84]⟩)), (.const (.string ⟨#[73, 78, 67, 82]⟩)), (.const (.string ⟨#[73, 78, 67, 82, 66, 89]⟩)), (.const (.string ⟨#[75, 69, 89, 83]⟩)), (.const (.string ⟨#[77, 71, 69, 84]⟩)), (.const (.string ⟨#[77, 83, 69, 84]⟩)), (.const (.string ⟨#[80, 69, 82, 83, 73, 83, 84]⟩)), (.const (.string ⟨#[80, 69, 88, 80, 73, 82, 69]⟩)), (.const (.string ⟨#[80, 84, 84, 76]⟩)), (.const (.string ⟨#[83, 69, 84]⟩)), (.const (.string ⟨#[83, 84, 82, 76, 69, 78]⟩)), (.const (.string ⟨#[84, 89, 80, 69]⟩))]),
 o 0 (.mv (t 1))]
def f15 : SCode := (.seq (.ops f15r0) (.seq (.ops f15r1) .ret))
theorem f15_calls : Sound Tryz.prog 15 2 f15 [.t 0] := sound_of mixed Tryz.func15 rfl (by kernel_rfl) (by kernel_rfl) (by kernel_rfl)

/-! 16: tabor/taborref08.Word -/
def f16r0 : List SOper := [
 o 2 (.mv e)]
def f16r1 : List SOper := [
 o 5 (.mv (t 0)),
 o 6 (.byts (t 5)),
 o 3 (.mv (t 6))]
def f16r2 : List SOper := [
 o 4 (.mv (i 0))]
def f16r3 : List SOper := [
 o 7 (.mv (t 4)),
 o 8 (.mv (t 3)),
 o 9 (.len (t 8)),
 o 10 (.cmp .lss (t 7) (t 9))]
def f16r4 : List SOper := [
 o 13 (.mv (t 3)),
 o 14 (.mv (t 4)),
 o 15 (.ixs 1 (t 13) (t 14)),
 o 16 (.ld1 (t 15)),
 o 17 (.cmp .geq (t 16) (.const (.int .u8 97))),
 o 18 (.mv (t 17)),
 g 19 18 (.mv (t 3)),
 g 20 18 (.mv (t 4)),
 g 21 18 (.ixs 1 (t 19) (t 20)),
 g 22 18 (.ld1 (t 21)),
 g 23 18 (.cmp .leq (t 22) (.const (.int .u8 122))),
 o 24 (.pick (t 18) (t 23) (b false))]
def f16r5 : List SOper := [
 o 25 (.mv (t 3)),
 o 26 (.mv (t 4)),
 o 27 (.mv (t 3)),
 o 28 (.mv (t 4)),
 o 29 (.ixs 1 (t 27) (t 28)),
 o 30 (.ld1 (t 29)),
 o 31 (.ar .sub (t 30) (.const (.int .u8 32))),
 o 32 (.ixs 1 (t 25) (t 26)),
 q (.stb (t 32) (t 31))]
def f16r6 : List SOper := [
 o 11 (.mv (t 4)),
 o 12 (.ar .add (t 11) (i 1)),
 o 4 (.mv (t 12))]
def f16l7 : SCode := (.seq (.seq (.ops f16r3) (.cond (t 10) .skip (.exit 0))) (.seq (.block 1 (.seq (.ops f16r4) (.cond (t 24) (.ops f16r5) .skip))) (.ops f16r6)))
def f16r8 : List SOper := [
 o 33 (.mv (t 3)),
 o 34 (.bstr (t 33)),
 o 2 (.mv (t 34))]
def f16 : SCode := (.seq (.ops f16r0) (.seq (.ops f16r1) (.seq (.seq (.ops f16r2) (.block 0 (.loop f16l7))) (.seq (.ops f16r8) .ret))))
theorem f16_calls : Sound Tryz.prog 16 35 f16 [.t 2] := sound_of mixed Tryz.func16 rfl (by kernel_rfl) (by kernel_rfl) (by kernel_rfl)

/-! 17: tabor/basics.Do -/
def f17r0 : List SOper := [
 o 6 (.new [(.int .i64 0), (.int .i64 0), (.string ⟨#[]⟩), (.slice none 0 0)]),
 o 7 (.new [(.slice none 0 0)]),
 o 8 (.mv (b false))]
def f17r1 : List SOper := [
 o 11 (.mv (t 2)),
 o 12 (.len (t 11)),
 o 13 (.cmp .eql (t 12) (i 0)),
 o 14 (.mv (t 13)),
 n 15 14 (.mv (t 0)),
 n 16 14 (.call 37 [(t 15), (.const (.pointer none))]),
 o 17 (.pick (t 14) (b true) (t 16))]
def f17r2 : List SOper := [
 o 18 (.build [(.int .i64 0), (.int .i64 0), (.string ⟨#[]⟩), (.slice none 0 0)] [] []),
 q (.st 4 (t 6) (t 18)),
 q (.st 1 (t 7) (.const (.slice none 0 0))),
 o 8 (.mv (b false))]
def f17r3 : List SOper := [
 o 21 (.mv (t 2)),
 o 22 (.ixs 1 (t 21) (i 0)),
 o 23 (.ld1 (t 22)),
 o 20 (.callq 36 []),
 o 24 (.callq 38 [(t 23)]),
 o 25 (.look .str .nilFunc true (t 20) (t 24)),
 o 19 (.mv (t 25)),
 o 26 (.ext (t 19) 0),
 o 27 (.ext (t 19) 1),
 o 9 (.mv (t 26)),
 o 8 (.mv (t 27))]
def f17r4 : List SOper := [
 o 28 (.mv (t 8)),
 o 29 (.un .not (t 28))]
def f17r5 : List SOper := [
 o 30 (.build [(.int .i64 0), (.int .i64 0), (.string ⟨#[]⟩), (.slice none 0 0)] [] []),
 q (.st 4 (t 6) (t 30)),
 q (.st 1 (t 7) (.const (.slice none 0 0))),
 o 8 (.mv (b false))]
def f17r6 : List SOper := [
 o 31 (.fn 39 [] [(t 6), (t 7)])]
def f17r7 : List SOper := [
 o 32 (.mv (t 0)),
 o 33 (.mv (t 1)),
 o 34 (.mv (t 2)),
 o 35 (.slc 1 (t 34) (some (i 1)) none),
 o 36 (.build [(.pointer none), (.int .i64 0), (.slice none 0 0), (.slice none 0 0)] [(0, 1), (1, 1), (2, 1)] [(t 32), (t 33), (t 35)]),
 o 37 (.box (t 36)),
 o 10 (.mv (t 37))]
def f17r8 : List SOper := [
 o 38 (.mv (t 9)),
 o 39 (.mv (t 10)),
 o 40 (.callv (t 38) [(t 39)]),
 q (.st 4 (t 6) (t 40))]
def f17p9 : List SOper := [
 o 41 (.ldn 4 (t 6)),
 o 42 (.mv (t 10)),
 o 43 (.nilck (t 42)),
 o 44 (.fa 3 (t 43))]
def f17r9 : List SOper := [
 o 45 (.ld1 (t 44)),
 q (.st 4 (t 6) (t 41)),
 q (.st 1 (t 7) (t 45)),
 o 8 (.mv (b true))]
def f17s9 : List SOper := [
 q (.st 4 (t 6) (t 41)),
 o 45 (.ld1 (t 44)),
 q (.st 1 (t 7) (t 45)),
 o 8 (.mv (b true))]
def f17 : SCode := (.seq (.ops f17r0) (.seq (.seq (.ops f17r1) (.cond (t 17) (.seq (.ops f17r2) .ret) .skip)) (.seq (.ops f17r3) (.seq (.seq (.ops f17r4) (.cond (t 29) (.seq (.ops f17r5) .ret) .skip)) (.seq (.dfr f17r6 none (t 31) []) (.seq (.ops f17r7) (.seq (.ops f17r8) (.seq (.two f17p9 f17r9 f17s9) .ret))))))))
theorem f17_calls : Sound Tryz.prog 17 46 f17 [.cn 6 4, .c1 7, .t 8] := sound_of mixed Tryz.func17 rfl (by kernel_rfl) (by kernel_rfl) (by kernel_rfl)

/-! 18: tabor/keys.New -/
def f18r0 : List SOper := [
 o 0 (.mv (.const (.pointer none)))]
def f18r1 : List SOper := [
 o 1 (.mkm),
 o 2 (.build [(.map none)] [(0, 1)] [(t 1)]),
 o 3 (.box (t 2)),
 o 4 (.build [(.pointer none)] [(0, 1)] [(t 3)]),
 o 5 (.box (t 4)),
 o 0 (.mv (t 5))]
def f18 : SCode := (.seq (.ops f18r0) (.seq (.ops f18r1) .ret))
theorem f18_calls : Sound Tryz.prog 18 6 f18 [.t 0] := sound_of mixed Tryz.func18 rfl (by kernel_rfl) (by kernel_rfl) (by kernel_rfl)

/-! 36: tabor/basics.commands -/
def f36r0 : List SOper := [
 o 0 (.mv (.const (.map none)))]
def f36r1 : List SOper := [
 o 1 (.mkm),
 q (.mup .str (t 1) (.const (.string ⟨#[83, 69, 84]⟩)) (u 60)),
 q (.mup .str (t 1) (.const (.string ⟨#[71, 69, 84]⟩)) (u 61)),
 q (.mup .str (t 1) (.const (.string ⟨#[68, 69, 76]⟩)) (u 62)),
 q (.mup .str (t 1) (.const (.string ⟨#[69, 88, 73, 83, 84, 83]⟩)) (u 63)),
 q (.mup .str (t 1) (.const (.string ⟨#[84, 89, 80, 69]⟩)) (u 64)),
 o 2 (.call 65 [(i 1)]),
 q (.mup .str (t 1) (.const (.string ⟨#[73, 78, 67, 82]⟩)) (t 2)),
 o 3 (.call 65 [(i (-1))]),
 q (.mup .str (t 1) (.const (.string ⟨#[68, 69, 67, 82]⟩)) (t 3)),
 q (.mup .str (t 1) (.const (.string ⟨#[73, 78, 67, 82, 66, 89]⟩)) (u 66)),
 q (.mup .str (t 1) (.const (.string ⟨#[65, 80, 80, 69, 78, 68]⟩)) (u 70)),
 q (.mup .str (t 1) (.const (.string ⟨#[83, 84, 82, 76, 69, 78]⟩)) (u 71)),
 q (.mup .str (t 1) (.const (.string ⟨#[77, 71, 69, 84]⟩)) (u 72)),
 q (.mup .str (t 1) (.const (.string ⟨#[77, 83, 69, 84]⟩)) (u 73)),
 q (.mup .str (t 1) (.const (.string ⟨#[80, 69, 88, 80, 73, 82, 69]⟩)) (u 74)),
 q (.mup .str (t 1) (.const (.string ⟨#[80, 69, 82, 83, 73, 83, 84]⟩)) (u 75)),
 q (.mup .str (t 1) (.const (.string ⟨#[80, 84, 84, 76]⟩)) (u 76)),
 q (.mup .str (t 1) (.const (.string ⟨#[75, 69, 89, 83]⟩)) (u 77)),
 q (.mup .str (t 1) (.const (.string ⟨#[68, 66, 83, 73, 90, 69]⟩)) (u 78)),
 q (.mup .str (t 1) (.const (.string ⟨#[70, 76, 85, 83, 72, 65, 76, 76]⟩)) (u 79)),
 o 4 (.mv (t 1)),
 o 0 (.mv (t 4))]
def f36 : SCode := (.seq (.ops f36r0) (.seq (.ops f36r1) .ret))
theorem f36_calls : Sound Tryz.prog 36 5 f36 [.t 0] := sound_of mixed Tryz.func36 rfl (by kernel_rfl) (by kernel_rfl) (by kernel_rfl)

/-! 37: (*tabor/keys.Keys).Same -/
def f37r0 : List SOper := [
 o 4 (.mv (b false))]
def f37r1 : List SOper := [
 o 5 (.mv (t 0)),
 o 6 (.call 52 [(t 5)]),
 o 7 (.mv (t 6)),
 n 8 7 (.mv (t 1)),
 n 9 7 (.call 52 [(t 8)]),
 o 10 (.pick (t 7) (b true) (t 9))]
def f37r2 : List SOper := [
 o 11 (.mv (t 0)),
 o 12 (.call 52 [(t 11)]),
 o 13 (.mv (t 12)),
 g 14 13 (.mv (t 1)),
 g 15 13 (.call 52 [(t 14)]),
 o 16 (.pick (t 13) (t 15) (b false)),
 o 4 (.mv (t 16))]
def f37r3 : List SOper := [
 o 17 (.mv (t 0)),
 o 18 (.nilck (t 17)),
 o 19 (.fa 0 (t 18)),
 o 20 (.ld1 (t 19)),
 o 21 (.nilck (t 20)),
 o 22 (.fa 0 (t 21)),
 o 23 (.ld1 (t 22)),
 o 24 (.mv (t 1)),
 o 25 (.nilck (t 24)),
 o 26 (.fa 0 (t 25)),
 o 27 (.ld1 (t 26)),
 o 28 (.nilck (t 27)),
 o 29 (.fa 0 (t 28)),
 o 30 (.ld1 (t 29)),
 o 31 (.call 80 [(t 23), (t 30), (u 81)]),
 o 4 (.mv (t 31))]
def f37 : SCode := (.seq (.ops f37r0) (.seq (.seq (.ops f37r1) (.cond (t 10) (.seq (.ops f37r2) .ret) .skip)) (.seq (.ops f37r3) .ret)))
theorem f37_calls : Sound Tryz.prog 37 32 f37 [.t 4] := sound_of mixed Tryz.func37 rfl (by kernel_rfl) (by kernel_rfl) (by kernel_rfl)

/-! 38: tabor/basics.word -/
def f38r0 : List SOper := [
 o 2 (.mv e)]
def f38r1 : List SOper := [
 o 6 (.mv (t 0)),
 o 7 (.byts (t 6)),
 o 3 (.mv (t 7))]
def f38r2 : List SOper := [
 o 8 (.mv (t 3)),
 o 9 (.len (t 8)),
 o 10 (.mv (i 0))]
def f38r3 : List SOper := [
 o 11 (.cmp .lss (t 10) (t 9))]
def f38r4 : List SOper := [
 o 12 (.mv (t 10)),
 o 13 (.ixs 1 (t 8) (t 10)),
 o 14 (.ld1 (t 13)),
 o 4 (.mv (t 12)),
 o 5 (.mv (t 14))]
def f38r5 : List SOper := [
 o 15 (.mv (t 5)),
 o 16 (.cmp .geq (t 15) (.const (.int .u8 97))),
 o 17 (.mv (t 16)),
 g 18 17 (.mv (t 5)),
 g 19 17 (.cmp .leq (t 18) (.const (.int .u8 122))),
 o 20 (.pick (t 17) (t 19) (b false))]
def f38r6 : List SOper := [
 o 21 (.mv (t 3)),
 o 22 (.mv (t 4)),
 o 23 (.mv (t 5)),
 o 24 (.ar .sub (t 23) (.const (.int .u8 97))),
 o 25 (.ar .add (t 24) (.const (.int .u8 65))),
 o 26 (.ixs 1 (t 21) (t 22)),
 q (.stb (t 26) (t 25))]
def f38r7 : List SOper := [
 o 27 (.ar .add (t 10) (i 1)),
 o 10 (.mv (t 27))]
def f38l8 : SCode := (.seq (.ops f38r3) (.seq (.cond (t 11) .skip (.exit 0)) (.seq (.block 1 (.seq (.ops f38r4) (.seq (.ops f38r5) (.cond (t 20) (.ops f38r6) .skip)))) (.ops f38r7))))
def f38r9 : List SOper := [
 o 28 (.mv (t 3)),
 o 29 (.bstr (t 28)),
 o 2 (.mv (t 29))]
def f38 : SCode := (.seq (.ops f38r0) (.seq (.ops f38r1) (.seq (.seq (.ops f38r2) (.block 0 (.loop f38l8))) (.seq (.ops f38r9) .ret))))
theorem f38_calls : Sound Tryz.prog 38 30 f38 [.t 2] := sound_of mixed Tryz.func38 rfl (by kernel_rfl) (by kernel_rfl) (by kernel_rfl)

/-! 52: (*tabor/keys.Keys).none -/
def f52r0 : List SOper := [
 o 2 (.mv (b false))]
def f52r1 : List SOper := [
 o 3 (.mv (t 0)),
 o 4 (.eqn 0 false (t 3)),
 o 5 (.mv (t 4)),
 n 6 5 (.mv (t 0)),
 n 7 5 (.nilck (t 6)),
 n 8 5 (.fa 0 (t 7)),
 n 9 5 (.ld1 (t 8)),
 n 10 5 (.eqn 0 false (t 9)),
 o 11 (.pick (t 5) (b true) (t 10)),
 o 2 (.mv (t 11))]
def f52 : SCode := (.seq (.ops f52r0) (.seq (.ops f52r1) .ret))
theorem f52_calls : Sound Tryz.prog 52 12 f52 [.t 2] := sound_of mixed Tryz.func52 rfl (by kernel_rfl) (by kernel_rfl) (by kernel_rfl)

end Go.Proofs.YtigolfakcblnjaaGreatDoor.C
