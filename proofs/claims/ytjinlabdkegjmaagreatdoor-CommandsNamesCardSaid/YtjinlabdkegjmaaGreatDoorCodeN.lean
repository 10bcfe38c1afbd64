/-
  The simplified code of this seat's functions, and that it is what the program's code comes to. Printed by a program (wip/print.lean).
-/
import Derived.Test.YtjinlabdkegjmaaGreatDoorCode
import Derived.Test.YtjinlabdkegjmaaGreatDoorProg
set_option maxRecDepth 100000
namespace Go.Proofs.YtjinlabdkegjmaaGreatDoor.C
open Go Go.Sx Go.Sx.S


/-! 3: tabor/taborlaw09.CollsNames -/
def f3r0 : List SOper := [
 o 2 (.mv (b false))]
def f3r1 : List SOper := [
 o 10 (.mv (t 0)),
 o 11 (.lens (t 10)),
 o 12 (.cmp .gtr (t 11) (i 300))]
def f3r2 : List SOper := [
 o 13 (.call 6 []),
 o 2 (.mv (t 13))]
def f3r3 : List SOper := [
 o 14 (.call 7 []),
 o 15 (.call 8 []),
 o 3 (.mv (t 14)),
 o 4 (.mv (t 15))]
def f3r4 : List SOper := [
 o 16 (.mv (t 3)),
 o 17 (.len (t 16)),
 o 18 (.mv (t 4)),
 o 19 (.len (t 18)),
 o 20 (.cmp .neq (t 17) (t 19))]
def f3r5 : List SOper := [
 o 2 (.mv (b false))]
def f3r6 : List SOper := [
 o 5 (.mv (b false))]
def f3r7 : List SOper := [
 o 6 (.mv (i 0))]
def f3r8 : List SOper := [
 o 21 (.mv (t 6)),
 o 22 (.mv (t 3)),
 o 23 (.len (t 22)),
 o 24 (.cmp .lss (t 21) (t 23))]
def f3r9 : List SOper := [
 o 27 (.mv (t 3)),
 o 28 (.mv (t 6)),
 o 29 (.ixs 1 (t 27) (t 28)),
 o 30 (.ld1 (t 29)),
 o 31 (.mv (t 4)),
 o 32 (.mv (t 6)),
 o 33 (.ixs 1 (t 31) (t 32)),
 o 34 (.ld1 (t 33)),
 o 35 (.cmp .neq (t 30) (t 34))]
def f3r10 : List SOper := [
 o 2 (.mv (b false))]
def f3r11 : List SOper := [
 o 36 (.mv (t 5)),
 o 37 (.mv (t 36)),
 n 38 37 (.mv (t 4)),
 n 39 37 (.mv (t 6)),
 n 40 37 (.ixs 1 (t 38) (t 39)),
 n 41 37 (.ld1 (t 40)),
 n 42 37 (.mv (t 0)),
 n 43 37 (.callq 9 [(t 42)]),
 n 44 37 (.cmp .eql (t 41) (t 43)),
 o 45 (.pick (t 37) (b true) (t 44)),
 o 5 (.mv (t 45))]
def f3r12 : List SOper := [
 o 25 (.mv (t 6)),
 o 26 (.ar .add (t 25) (i 1)),
 o 6 (.mv (t 26))]
def f3l13 : SCode := (.seq (.seq (.ops f3r8) (.cond (t 24) .skip (.exit 0))) (.seq (.block 1 (.seq (.seq (.ops f3r9) (.cond (t 35) (.seq (.ops f3r10) .ret) .skip)) (.ops f3r11))) (.ops f3r12)))
def f3r14 : List SOper := [
 o 47 (.call 11 []),
 o 48 (.mv (t 0)),
 o 49 (.bslice [(.string ⟨#[]⟩)] 1 [(0, 1)] [(t 48)]),
 o 50 (.call 10 [(t 47), (i 0), (t 49)]),
 o 46 (.mv (t 50)),
 o 51 (.ext (t 46) 0),
 o 52 (.ext (t 46) 1),
 o 53 (.ext (t 46) 2),
 o 7 (.new [(.int .i64 0), (.int .i64 0), (.string ⟨#[]⟩), (.slice none 0 0)]),
 q (.st 4 (t 7) (t 51)),
 o 8 (.mv (t 52)),
 o 9 (.mv (t 53))]
def f3r15 : List SOper := [
 o 54 (.mv (t 9)),
 o 55 (.mv (t 5)),
 o 56 (.cmpb false (t 54) (t 55)),
 o 57 (.mv (t 56)),
 g 58 57 (.call 6 []),
 o 59 (.pick (t 57) (t 58) (b false)),
 o 2 (.mv (t 59))]
def f3 : SCode := (.seq (.ops f3r0) (.seq (.seq (.ops f3r1) (.cond (t 12) (.seq (.ops f3r2) .ret) .skip)) (.seq (.ops f3r3) (.seq (.seq (.ops f3r4) (.cond (t 20) (.seq (.ops f3r5) .ret) .skip)) (.seq (.ops f3r6) (.seq (.seq (.ops f3r7) (.block 0 (.loop f3l13))) (.seq (.ops f3r14) (.seq (.ops f3r15) .ret))))))))
theorem f3_calls : Sound Tryz.prog 3 60 f3 [.t 2] := sound_of mixed Tryz.func3 rfl (by kernel_rfl) (by kernel_rfl) (by kernel_rfl)

/-! 5: tabor/taborlaw10.CommandsNames -/
def f5r0 : List SOper := [
 o 2 (.mv (b false))]
def f5r1 : List SOper := [
 o 10 (.mv (t 0)),
 o 11 (.lens (t 10)),
 o 12 (.cmp .gtr (t 11) (i 300))]
def f5r2 : List SOper := [
 o 13 (.call 13 []),
 o 2 (.mv (t 13))]
def f5r3 : List SOper := [
 o 14 (.call 17 []),
 o 3 (.mv (t 14))]
def f5r4 : List SOper := [
 o 15 (.call 18 []),
 o 16 (.call 8 []),
 o 4 (.mv (t 15)),
 o 5 (.mv (t 16))]
def f5r5 : List SOper := [
 o 17 (.mv (t 3)),
 o 18 (.len (t 17)),
 o 19 (.mv (t 4)),
 o 20 (.len (t 19)),
 o 21 (.mv (t 5)),
 o 22 (.len (t 21)),
 o 23 (.ar .add (t 20) (t 22)),
 o 24 (.cmp .neq (t 18) (t 23))]
def f5r6 : List SOper := [
 o 2 (.mv (b false))]
def f5r7 : List SOper := [
 o 6 (.mv (b false))]
def f5r8 : List SOper := [
 o 7 (.mv (i 0))]
def f5r9 : List SOper := [
 o 25 (.mv (t 7)),
 o 26 (.mv (t 3)),
 o 27 (.len (t 26)),
 o 28 (.cmp .lss (t 25) (t 27))]
def f5r10 : List SOper := [
 o 31 (.mv (t 7)),
 o 32 (.cmp .gtr (t 31) (i 0)),
 o 33 (.mv (t 32)),
 g 34 33 (.mv (t 3)),
 g 35 33 (.mv (t 7)),
 g 36 33 (.ar .sub (t 35) (i 1)),
 g 37 33 (.ixs 1 (t 34) (t 36)),
 g 38 33 (.ld1 (t 37)),
 g 39 33 (.mv (t 3)),
 g 40 33 (.mv (t 7)),
 g 41 33 (.ixs 1 (t 39) (t 40)),
 g 42 33 (.ld1 (t 41)),
 g 43 33 (.call 19 [(t 38), (t 42)]),
 g 44 33 (.un .not (t 43)),
 o 45 (.pick (t 33) (t 44) (b false))]
def f5r11 : List SOper := [
 o 2 (.mv (b false))]
def f5r12 : List SOper := [
 o 46 (.mv (t 6)),
 o 47 (.mv (t 46)),
 n 48 47 (.mv (t 3)),
 n 49 47 (.mv (t 7)),
 n 50 47 (.ixs 1 (t 48) (t 49)),
 n 51 47 (.ld1 (t 50)),
 n 52 47 (.mv (t 0)),
 n 53 47 (.callq 9 [(t 52)]),
 n 54 47 (.cmp .eql (t 51) (t 53)),
 o 55 (.pick (t 47) (b true) (t 54)),
 o 6 (.mv (t 55))]
def f5r13 : List SOper := [
 o 29 (.mv (t 7)),
 o 30 (.ar .add (t 29) (i 1)),
 o 7 (.mv (t 30))]
def f5l14 : SCode := (.seq (.seq (.ops f5r9) (.cond (t 28) .skip (.exit 0))) (.seq (.block 1 (.seq (.seq (.ops f5r10) (.cond (t 45) (.seq (.ops f5r11) .ret) .skip)) (.ops f5r12))) (.ops f5r13)))
def f5r15 : List SOper := [
 o 8 (.mv (i 0))]
def f5r16 : List SOper := [
 o 56 (.mv (t 8)),
 o 57 (.mv (t 4)),
 o 58 (.len (t 57)),
 o 59 (.cmp .lss (t 56) (t 58))]
def f5r17 : List SOper := [
 o 62 (.mv (t 4)),
 o 63 (.mv (t 8)),
 o 64 (.ixs 1 (t 62) (t 63)),
 o 65 (.ld1 (t 64)),
 o 66 (.call 20 [(t 65)]),
 o 67 (.un .not (t 66))]
def f5r18 : List SOper := [
 o 2 (.mv (b false))]
def f5r19 : List SOper := [
 o 60 (.mv (t 8)),
 o 61 (.ar .add (t 60) (i 1)),
 o 8 (.mv (t 61))]
def f5l20 : SCode := (.seq (.seq (.ops f5r16) (.cond (t 59) .skip (.exit 2))) (.seq (.block 3 (.seq (.ops f5r17) (.cond (t 67) (.seq (.ops f5r18) .ret) .skip))) (.ops f5r19)))
def f5r21 : List SOper := [
 o 9 (.mv (i 0))]
def f5r22 : List SOper := [
 o 68 (.mv (t 9)),
 o 69 (.mv (t 5)),
 o 70 (.len (t 69)),
 o 71 (.cmp .lss (t 68) (t 70))]
def f5r23 : List SOper := [
 o 74 (.mv (t 5)),
 o 75 (.mv (t 9)),
 o 76 (.ixs 1 (t 74) (t 75)),
 o 77 (.ld1 (t 76)),
 o 78 (.call 20 [(t 77)]),
 o 79 (.un .not (t 78))]
def f5r24 : List SOper := [
 o 2 (.mv (b false))]
def f5r25 : List SOper := [
 o 72 (.mv (t 9)),
 o 73 (.ar .add (t 72) (i 1)),
 o 9 (.mv (t 73))]
def f5l26 : SCode := (.seq (.seq (.ops f5r22) (.cond (t 71) .skip (.exit 4))) (.seq (.block 5 (.seq (.ops f5r23) (.cond (t 79) (.seq (.ops f5r24) .ret) .skip))) (.ops f5r25)))
def f5r27 : List SOper := [
 o 80 (.mv (t 0)),
 o 81 (.call 20 [(t 80)]),
 o 82 (.mv (t 6)),
 o 83 (.cmpb false (t 81) (t 82)),
 o 84 (.mv (t 83)),
 g 85 84 (.call 13 []),
 o 86 (.pick (t 84) (t 85) (b false)),
 o 2 (.mv (t 86))]
def f5 : SCode := (.seq (.ops f5r0) (.seq (.seq (.ops f5r1) (.cond (t 12) (.seq (.ops f5r2) .ret) .skip)) (.seq (.ops f5r3) (.seq (.ops f5r4) (.seq (.seq (.ops f5r5) (.cond (t 24) (.seq (.ops f5r6) .ret) .skip)) (.seq (.ops f5r7) (.seq (.seq (.ops f5r8) (.block 0 (.loop f5l14))) (.seq (.seq (.ops f5r15) (.block 2 (.loop f5l20))) (.seq (.seq (.ops f5r21) (.block 4 (.loop f5l26))) (.seq (.ops f5r27) .ret))))))))))
theorem f5_calls : Sound Tryz.prog 5 87 f5 [.t 2] := sound_of mixed Tryz.func5 rfl (by kernel_rfl) (by kernel_rfl) (by kernel_rfl)

/-! 7: tabor/colls.Names -/
def f7r0 : List SOper := [
 o 0 (.mv (.const (.slice none 0 0)))]
def f7r1 : List SOper := [
 o 1 (.call 23 []),
 o 2 (.call 22 [(t 1)]),
 o 3 (.call 21 [(t 2)]),
 o 0 (.mv (t 3))]
def f7 : SCode := (.seq (.ops f7r0) (.seq (.ops f7r1) .ret))
theorem f7_calls : Sound Tryz.prog 7 4 f7 [.t 0] := sound_of mixed Tryz.func7 rfl (by kernel_rfl) (by kernel_rfl) (by kernel_rfl)

/-! 8: tabor/taborref09.Names -/
def f8r0 : List SOper := [
 o 0 (.mv (.const (.slice none 0 0)))]
def f8r1 : List SOper := [
 o 1 (.bslice (List.replicate 28 (.string ⟨#[]⟩)) 28 [(0, 1), (1, 1), (2, 1), (3, 1), (4, 1), (5, 1), (6, 1), (7, 1), (8, 1), (9, 1), (10, 1), (11, 1), (12, 1), (13, 1), (14, 1), (15, 1), (16, 1), (17, 1), (18, 1), (19, 1), (20, 1), (21, 1), (22, 1), (23, 1), (24, 1), (25, 1), (26, 1), (27, 1)] [(.const (.string ⟨#[72, 68, 69, 76]⟩)), (.const (.string ⟨#[72, 71, 69, 84]⟩)), (.const (.string ⟨#[72, 71, 69, 84, 65, 76, 76]⟩)), (.const (.string ⟨#[72, 73, 78, 67, 82, 66, 89]⟩)), (.const (.string ⟨#[72, 76, 69, 78]⟩)), (.const (.string ⟨#[72, 83, 69, 84]⟩)), (.const (.string ⟨#[76, 73, 78, 68, 69, 88]⟩)), (.const (.string ⟨#[76, 76, 69, 78]⟩)), (.const (.string ⟨#[76, 80, 79, 80]⟩)), (.const (.string ⟨#[76, 80, 85, 83, 72]⟩)), (.const (.string ⟨#[76, 82, 65, 78, 71, 69]⟩)), (.const (.string ⟨#[76, 83, 69, 84]⟩)), (.const (.string ⟨#[82, 80, 79, 80]⟩)), (.const (.string ⟨#[82, 80, 85, 83, 72]⟩)), (.const (.string ⟨#[83, 65, 68, 68]⟩)), (.const (.string ⟨#[83, 67, 65, 82, 68]⟩)), (.const (.string ⟨#[83, 73, 78, 84, 69, 82]⟩)), (.const (.string ⟨#[83, 73, 83, 77, 69, 77, 66, 69, 82]⟩)), (.const (.string ⟨#[83, 77, 69, 77, 66, 69, 82, 83]⟩)), (.const (.string ⟨#[83, 82, 69, 77]⟩)), (.const (.string ⟨#[90, 65, 68, 68]⟩)), (.const (.string ⟨#[90, 67, 65, 82, 68]⟩)), (.const (.string ⟨#[90, 73, 78, 67, 82, 66, 89]⟩)), (.const (.string ⟨#[90, 82, 65, 78, 71, 69]⟩)), (.const (.string ⟨#[90, 82, 65, 78, 71, 69, 66, 89, 83, 67, 79, 82, 69]⟩)), (.const (.string ⟨#[90, 82, 65, 78, 75]⟩)), (.const (.string ⟨#[90, 82, 69, 77]⟩)), (.const (.string ⟨#[90, 83, 67, 79, 82, 69]⟩))]),
 o 0 (.mv (t 1))]
def f8 : SCode := (.seq (.ops f8r0) (.seq (.ops f8r1) .ret))
theorem f8_calls : Sound Tryz.prog 8 2 f8 [.t 0] := sound_of mixed Tryz.func8 rfl (by kernel_rfl) (by kernel_rfl) (by kernel_rfl)

/-! 9: tabor/taborref08.Word -/
def f9r0 : List SOper := [
 o 2 (.mv e)]
def f9r1 : List SOper := [
 o 5 (.mv (t 0)),
 o 6 (.byts (t 5)),
 o 3 (.mv (t 6))]
def f9r2 : List SOper := [
 o 4 (.mv (i 0))]
def f9r3 : List SOper := [
 o 7 (.mv (t 4)),
 o 8 (.mv (t 3)),
 o 9 (.len (t 8)),
 o 10 (.cmp .lss (t 7) (t 9))]
def f9r4 : List SOper := [
 o 13 (.mv (t 3)),
 o 14 (.mv (t 4)),
 o 15 (.ixs 1 (t 13) (t 14)),
 o 16 (.ld1 (t 15)),
 o 17 (.cmp .geq (t 16) (.const (.int .u8 97))),
 o 18 (.mv (t 17)),
 g 19 18 (.mv (t 3)),
 g 20 18 (.mv (t 4)),
 g 21 18 (.ixs 1 (t 19) (t 20)),
 g 22 18 (.ld1 (t 21)),
 g 23 18 (.cmp .leq (t 22) (.const (.int .u8 122))),
 o 24 (.pick (t 18) (t 23) (b false))]
def f9r5 : List SOper := [
 o 25 (.mv (t 3)),
 o 26 (.mv (t 4)),
 o 27 (.mv (t 3)),
 o 28 (.mv (t 4)),
 o 29 (.ixs 1 (t 27) (t 28)),
 o 30 (.ld1 (t 29)),
 o 31 (.ar .sub (t 30) (.const (.int .u8 32))),
 o 32 (.ixs 1 (t 25) (t 26)),
 q (.stb (t 32) (t 31))]
def f9r6 : List SOper := [
 o 11 (.mv (t 4)),
 o 12 (.ar .add (t 11) (i 1)),
 o 4 (.mv (t 12))]
def f9l7 : SCode := (.seq (.seq (.ops f9r3) (.cond (t 10) .skip (.exit 0))) (.seq (.block 1 (.seq (.ops f9r4) (.cond (t 24) (.ops f9r5) .skip))) (.ops f9r6)))
def f9r8 : List SOper := [
 o 33 (.mv (t 3)),
 o 34 (.bstr (t 33)),
 o 2 (.mv (t 34))]
def f9 : SCode := (.seq (.ops f9r0) (.seq (.ops f9r1) (.seq (.seq (.ops f9r2) (.block 0 (.loop f9l7))) (.seq (.ops f9r8) .ret))))
theorem f9_calls : Sound Tryz.prog 9 35 f9 [.t 2] := sound_of mixed Tryz.func9 rfl (by kernel_rfl) (by kernel_rfl) (by kernel_rfl)

/-! 11: tabor/keys.New -/
def f11r0 : List SOper := [
 o 0 (.mv (.const (.pointer none)))]
def f11r1 : List SOper := [
 o 1 (.mkm),
 o 2 (.build [(.map none)] [(0, 1)] [(t 1)]),
 o 3 (.box (t 2)),
 o 4 (.build [(.pointer none)] [(0, 1)] [(t 3)]),
 o 5 (.box (t 4)),
 o 0 (.mv (t 5))]
def f11 : SCode := (.seq (.ops f11r0) (.seq (.ops f11r1) .ret))
theorem f11_calls : Sound Tryz.prog 11 6 f11 [.t 0] := sound_of mixed Tryz.func11 rfl (by kernel_rfl) (by kernel_rfl) (by kernel_rfl)

/-! 17: tabor/commands.Names -/
def f17r0 : List SOper := [
 o 0 (.mv (.const (.slice none 0 0)))]
def f17r1 : List SOper := [
 o 4 (.mkm),
 o 1 (.mv (t 4))]
def f17r2 : List SOper := [
 o 5 (.call 35 []),
 o 6 (.call 7 []),
 o 7 (.bslice [(.slice none 0 0), (.slice none 0 0)] 2 [(0, 1), (1, 1)] [(t 5), (t 6)]),
 o 8 (.call 34 [(t 7)]),
 o 9 (.len (t 8)),
 o 10 (.mv (i 0))]
def f17r3 : List SOper := [
 o 11 (.cmp .lss (t 10) (t 9))]
def f17r4 : List SOper := [
 o 12 (.ixs 1 (t 8) (t 10)),
 o 13 (.ld1 (t 12)),
 o 3 (.mv (t 13))]
def f17r5 : List SOper := [
 o 14 (.mv (t 1)),
 o 15 (.mv (t 3)),
 o 16 (.look .str (.int .i64 0) false (t 14) (t 15)),
 o 17 (.ar .add (t 16) (i 1)),
 q (.mup .str (t 14) (t 15) (t 17))]
def f17r6 : List SOper := [
 o 18 (.ar .add (t 10) (i 1)),
 o 10 (.mv (t 18))]
def f17l7 : SCode := (.seq (.ops f17r3) (.seq (.cond (t 11) .skip (.exit 0)) (.seq (.block 1 (.seq (.ops f17r4) (.ops f17r5))) (.ops f17r6))))
def f17r8 : List SOper := [
 o 19 (.mv (t 1)),
 o 20 (.call 36 [(t 19)]),
 o 21 (.call 21 [(t 20)]),
 o 0 (.mv (t 21))]
def f17 : SCode := (.seq (.ops f17r0) (.seq (.ops f17r1) (.seq (.seq (.ops f17r2) (.block 0 (.loop f17l7))) (.seq (.ops f17r8) .ret))))
theorem f17_calls : Sound Tryz.prog 17 22 f17 [.t 0] := sound_of mixed Tryz.func17 rfl (by kernel_rfl) (by kernel_rfl) (by kernel_rfl)

/-! 18: tabor/taborref08.Names -/
def f18r0 : List SOper := [
 o 0 (.mv (.const (.slice none 0 0)))]
def f18r1 : List SOper := [
 o 1 (.bslice (List.replicate 18 (.string ⟨#[]⟩)) 18 [(0, 1), (1, 1), (2, 1), (3, 1), (4, 1), (5, 1), (6, 1), (7, 1), (8, 1), (9, 1), (10, 1), (11, 1), (12, 1), (13, 1), (14, 1), (15, 1), (16, 1), (17, 1)] [(.const (.string ⟨#[65, 80, 80, 69, 78, 68]⟩)), (.const (.string ⟨#[68, 66, 83, 73, 90, 69]⟩)), (.const (.string ⟨#[68, 69, 67, 82]⟩)), (.const (.string ⟨#[68, 69, 76]⟩)), (.const (.string ⟨#[69, 88, 73, 83, 84, 83]⟩)), (.const (.string ⟨#[70, 76, 85, 83, 72, 65, 76, 76]⟩)), (.const (.string ⟨#[71, 69, 84]⟩)), (.const (.string ⟨#[73, 78, 67, 82]⟩)), (.const (.string ⟨#[73, 78, 67, 82, 66, 89]⟩)), (.const (.string ⟨#[75, 69, 89, 83]⟩)), (.const (.string ⟨#[77, 71, 69, 84]⟩)), (.const (.string ⟨#[77, 83, 69, 84]⟩)), (.const (.string ⟨#[80, 69, 82, 83, 73, 83, 84]⟩)), (.const (.string ⟨#[80, 69, 88, 80, 73, 82, 69]⟩)), (.const (.string ⟨#[80, 84, 84, 76]⟩)), (.const (.string ⟨#[83, 69, 84]⟩)), (.const (.string ⟨#[83, 84, 82, 76, 69, 78]⟩)), (.const (.string ⟨#[84, 89, 80, 69]⟩))]),
 o 0 (.mv (t 1))]
def f18 : SCode := (.seq (.ops f18r0) (.seq (.ops f18r1) .ret))
theorem f18_calls : Sound Tryz.prog 18 2 f18 [.t 0] := sound_of mixed Tryz.func18 rfl (by kernel_rfl) (by kernel_rfl) (by kernel_rfl)

/-! 20: tabor/commands.Known -/
def f20r0 : List SOper := [
 o 2 (.mv (b false))]
def f20r1 : List SOper := [
 o 10 (.call 11 []),
 o 11 (.mv (t 0)),
 o 12 (.bslice [(.string ⟨#[]⟩)] 1 [(0, 1)] [(t 11)]),
 o 13 (.call 37 [(t 10), (i 0), (t 12)]),
 o 9 (.mv (t 13)),
 o 14 (.ext (t 9) 0),
 o 15 (.ext (t 9) 1),
 o 16 (.ext (t 9) 2),
 o 3 (.new [(.int .i64 0), (.int .i64 0), (.string ⟨#[]⟩), (.slice none 0 0)]),
 q (.st 4 (t 3) (t 14)),
 o 4 (.mv (t 15)),
 o 5 (.mv (t 16))]
def f20r2 : List SOper := [
 o 18 (.call 11 []),
 o 19 (.mv (t 0)),
 o 20 (.bslice [(.string ⟨#[]⟩)] 1 [(0, 1)] [(t 19)]),
 o 21 (.call 10 [(t 18), (i 0), (t 20)]),
 o 17 (.mv (t 21)),
 o 22 (.ext (t 17) 0),
 o 23 (.ext (t 17) 1),
 o 24 (.ext (t 17) 2),
 o 6 (.new [(.int .i64 0), (.int .i64 0), (.string ⟨#[]⟩), (.slice none 0 0)]),
 q (.st 4 (t 6) (t 22)),
 o 7 (.mv (t 23)),
 o 8 (.mv (t 24))]
def f20r3 : List SOper := [
 o 25 (.mv (t 5)),
 o 26 (.mv (t 25)),
 n 27 26 (.mv (t 8)),
 o 28 (.pick (t 26) (b true) (t 27)),
 o 2 (.mv (t 28))]
def f20 : SCode := (.seq (.ops f20r0) (.seq (.ops f20r1) (.seq (.ops f20r2) (.seq (.ops f20r3) .ret))))
theorem f20_calls : Sound Tryz.prog 20 29 f20 [.t 2] := sound_of mixed Tryz.func20 rfl (by kernel_rfl) (by kernel_rfl) (by kernel_rfl)

/-! 23: tabor/colls.commands -/
def f23r0 : List SOper := [
 o 0 (.mv (.const (.map none)))]
def f23r1 : List SOper := [
 o 1 (.mkm),
 q (.mup .str (t 1) (.const (.string ⟨#[72, 83, 69, 84]⟩)) (u 41)),
 q (.mup .str (t 1) (.const (.string ⟨#[72, 71, 69, 84]⟩)) (u 42)),
 q (.mup .str (t 1) (.const (.string ⟨#[72, 68, 69, 76]⟩)) (u 43)),
 q (.mup .str (t 1) (.const (.string ⟨#[72, 76, 69, 78]⟩)) (u 44)),
 q (.mup .str (t 1) (.const (.string ⟨#[72, 71, 69, 84, 65, 76, 76]⟩)) (u 45)),
 q (.mup .str (t 1) (.const (.string ⟨#[72, 73, 78, 67, 82, 66, 89]⟩)) (u 46)),
 q (.mup .str (t 1) (.const (.string ⟨#[76, 80, 85, 83, 72]⟩)) (u 47)),
 q (.mup .str (t 1) (.const (.string ⟨#[82, 80, 85, 83, 72]⟩)) (u 48)),
 q (.mup .str (t 1) (.const (.string ⟨#[76, 80, 79, 80]⟩)) (u 49)),
 q (.mup .str (t 1) (.const (.string ⟨#[82, 80, 79, 80]⟩)) (u 50)),
 q (.mup .str (t 1) (.const (.string ⟨#[76, 76, 69, 78]⟩)) (u 51)),
 q (.mup .str (t 1) (.const (.string ⟨#[76, 73, 78, 68, 69, 88]⟩)) (u 52)),
 q (.mup .str (t 1) (.const (.string ⟨#[76, 82, 65, 78, 71, 69]⟩)) (u 53)),
 q (.mup .str (t 1) (.const (.string ⟨#[76, 83, 69, 84]⟩)) (u 54)),
 q (.mup .str (t 1) (.const (.string ⟨#[83, 65, 68, 68]⟩)) (u 55)),
 q (.mup .str (t 1) (.const (.string ⟨#[83, 82, 69, 77]⟩)) (u 56)),
 q (.mup .str (t 1) (.const (.string ⟨#[83, 73, 83, 77, 69, 77, 66, 69, 82]⟩)) (u 57)),
 q (.mup .str (t 1) (.const (.string ⟨#[83, 67, 65, 82, 68]⟩)) (u 58)),
 q (.mup .str (t 1) (.const (.string ⟨#[83, 77, 69, 77, 66, 69, 82, 83]⟩)) (u 59)),
 q (.mup .str (t 1) (.const (.string ⟨#[83, 73, 78, 84, 69, 82]⟩)) (u 60)),
 q (.mup .str (t 1) (.const (.string ⟨#[90, 65, 68, 68]⟩)) (u 61)),
 q (.mup .str (t 1) (.const (.string ⟨#[90, 82, 69, 77]⟩)) (u 62)),
 q (.mup .str (t 1) (.const (.string ⟨#[90, 83, 67, 79, 82, 69]⟩)) (u 63)),
 q (.mup .str (t 1) (.const (.string ⟨#[90, 73, 78, 67, 82, 66, 89]⟩)) (u 64)),
 q (.mup .str (t 1) (.const (.string ⟨#[90, 67, 65, 82, 68]⟩)) (u 65)),
 q (.mup .str (t 1) (.const (.string ⟨#[90, 82, 65, 78, 75]⟩)) (u 66)),
 q (.mup .str (t 1) (.const (.string ⟨#[90, 82, 65, 78, 71, 69]⟩)) (u 67)),
 q (.mup .str (t 1) (.const (.string ⟨#[90, 82, 65, 78, 71, 69, 66, 89, 83, 67, 79, 82, 69]⟩)) (u 68)),
 o 2 (.mv (t 1)),
 o 0 (.mv (t 2))]
def f23 : SCode := (.seq (.ops f23r0) (.seq (.ops f23r1) .ret))
theorem f23_calls : Sound Tryz.prog 23 3 f23 [.t 0] := sound_of mixed Tryz.func23 rfl (by kernel_rfl) (by kernel_rfl) (by kernel_rfl)

/-! 25: tabor/colls.word -/
def f25r0 : List SOper := [
 o 2 (.mv e)]
def f25r1 : List SOper := [
 o 6 (.mv (t 0)),
 o 7 (.byts (t 6)),
 o 3 (.mv (t 7))]
def f25r2 : List SOper := [
 o 8 (.mv (t 3)),
 o 9 (.len (t 8)),
 o 10 (.mv (i 0))]
def f25r3 : List SOper := [
 o 11 (.cmp .lss (t 10) (t 9))]
def f25r4 : List SOper := [
 o 12 (.mv (t 10)),
 o 13 (.ixs 1 (t 8) (t 10)),
 o 14 (.ld1 (t 13)),
 o 4 (.mv (t 12)),
 o 5 (.mv (t 14))]
def f25r5 : List SOper := [
 o 15 (.mv (t 5)),
 o 16 (.cmp .geq (t 15) (.const (.int .u8 97))),
 o 17 (.mv (t 16)),
 g 18 17 (.mv (t 5)),
 g 19 17 (.cmp .leq (t 18) (.const (.int .u8 122))),
 o 20 (.pick (t 17) (t 19) (b false))]
def f25r6 : List SOper := [
 o 21 (.mv (t 3)),
 o 22 (.mv (t 4)),
 o 23 (.mv (t 5)),
 o 24 (.ar .sub (t 23) (.const (.int .u8 97))),
 o 25 (.ar .add (t 24) (.const (.int .u8 65))),
 o 26 (.ixs 1 (t 21) (t 22)),
 q (.stb (t 26) (t 25))]
def f25r7 : List SOper := [
 o 27 (.ar .add (t 10) (i 1)),
 o 10 (.mv (t 27))]
def f25l8 : SCode := (.seq (.ops f25r3) (.seq (.cond (t 11) .skip (.exit 0)) (.seq (.block 1 (.seq (.ops f25r4) (.seq (.ops f25r5) (.cond (t 20) (.ops f25r6) .skip)))) (.ops f25r7))))
def f25r9 : List SOper := [
 o 28 (.mv (t 3)),
 o 29 (.bstr (t 28)),
 o 2 (.mv (t 29))]
def f25 : SCode := (.seq (.ops f25r0) (.seq (.ops f25r1) (.seq (.seq (.ops f25r2) (.block 0 (.loop f25l8))) (.seq (.ops f25r9) .ret))))
theorem f25_calls : Sound Tryz.prog 25 30 f25 [.t 2] := sound_of mixed Tryz.func25 rfl (by kernel_rfl) (by kernel_rfl) (by kernel_rfl)

/-! 35: tabor/basics.Names -/
def f35r0 : List SOper := [
 o 0 (.mv (.const (.slice none 0 0)))]
def f35r1 : List SOper := [
 o 1 (.call 81 []),
 o 2 (.call 80 [(t 1)]),
 o 3 (.call 21 [(t 2)]),
 o 0 (.mv (t 3))]
def f35 : SCode := (.seq (.ops f35r0) (.seq (.ops f35r1) .ret))
theorem f35_calls : Sound Tryz.prog 35 4 f35 [.t 0] := sound_of mixed Tryz.func35 rfl (by kernel_rfl) (by kernel_rfl) (by kernel_rfl)

/-! 83: tabor/basics.word -/
def f83r0 : List SOper := [
 o 2 (.mv e)]
def f83r1 : List SOper := [
 o 6 (.mv (t 0)),
 o 7 (.byts (t 6)),
 o 3 (.mv (t 7))]
def f83r2 : List SOper := [
 o 8 (.mv (t 3)),
 o 9 (.len (t 8)),
 o 10 (.mv (i 0))]
def f83r3 : List SOper := [
 o 11 (.cmp .lss (t 10) (t 9))]
def f83r4 : List SOper := [
 o 12 (.mv (t 10)),
 o 13 (.ixs 1 (t 8) (t 10)),
 o 14 (.ld1 (t 13)),
 o 4 (.mv (t 12)),
 o 5 (.mv (t 14))]
def f83r5 : List SOper := [
 o 15 (.mv (t 5)),
 o 16 (.cmp .geq (t 15) (.const (.int .u8 97))),
 o 17 (.mv (t 16)),
 g 18 17 (.mv (t 5)),
 g 19 17 (.cmp .leq (t 18) (.const (.int .u8 122))),
 o 20 (.pick (t 17) (t 19) (b false))]
def f83r6 : List SOper := [
 o 21 (.mv (t 3)),
 o 22 (.mv (t 4)),
 o 23 (.mv (t 5)),
 o 24 (.ar .sub (t 23) (.const (.int .u8 97))),
 o 25 (.ar .add (t 24) (.const (.int .u8 65))),
 o 26 (.ixs 1 (t 21) (t 22)),
 q (.stb (t 26) (t 25))]
def f83r7 : List SOper := [
 o 27 (.ar .add (t 10) (i 1)),
 o 10 (.mv (t 27))]
def f83l8 : SCode := (.seq (.ops f83r3) (.seq (.cond (t 11) .skip (.exit 0)) (.seq (.block 1 (.seq (.ops f83r4) (.seq (.ops f83r5) (.cond (t 20) (.ops f83r6) .skip)))) (.ops f83r7))))
def f83r9 : List SOper := [
 o 28 (.mv (t 3)),
 o 29 (.bstr (t 28)),
 o 2 (.mv (t 29))]
def f83 : SCode := (.seq (.ops f83r0) (.seq (.ops f83r1) (.seq (.seq (.ops f83r2) (.block 0 (.loop f83l8))) (.seq (.ops f83r9) .ret))))
theorem f83_calls : Sound Tryz.prog 83 30 f83 [.t 2] := sound_of mixed Tryz.func83 rfl (by kernel_rfl) (by kernel_rfl) (by kernel_rfl)

end Go.Proofs.YtjinlabdkegjmaaGreatDoor.C
