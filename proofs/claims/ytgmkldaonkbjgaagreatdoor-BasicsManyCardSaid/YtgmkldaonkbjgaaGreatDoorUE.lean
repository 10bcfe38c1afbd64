/-
  The simplified code of this seat's functions, and that it is what the program's code comes to. Printed by a program (wip/print.lean).
  The simplified code of this seat's functions, and that it is what the program's code comes to. Printed by a program (wip/print.lean).
  Layer 8: GET, STRLEN, INCR, DECR, INCRBY, APPEND.
  Layer 8: INCR, DECR, INCRBY, APPEND.
  Layer 8: what the commands come to; plain.
  Layer 8: the document's answer: what is asked stands in one block; its small functions.
  Layer 8: the document's answer: a gone thing, a text that is put, a thing of a kind.
  Layer 8: the document's answer: by, text.
  Layer 8: the document's answer: bounds and replies of the words that count.
  Layer 8: TYPE, PERSIST, PTTL, PEXPIRE, DBSIZE.
  Layer 8: EXISTS, DEL, DBSIZE.
  Layer 8: MGET, KEYS, DEL, MSET.
  Layer 8: DEL, MSET.
  Layer 8: the document's answer: DEL, EXISTS, MGET, MSET.
  Layer 8: the document's answer: MGET, MSET.
  Layer 8: what Do does behind a command: a stop is an error's reply.
  The simplified code of this seat's functions, and that it is what the program's code comes to. Printed by a program (wip/print.lean).
  Layer 8: a text in capital letters, by the document and by the program.
  Layer 8: the map of commands: which function stands under which word; by a walk.
  Layer 8: Do, for a word that is a command's.
  Layer 8: the document's answer: Do.
  Layer 8: replies as they stand in memory; whether two are the same.
  Layer 8: SET, FLUSHALL.
  Layer 8: what effects make of a keyspace, one behind the other; plain.
-/
import Derived.Test.YtgmkldaonkbjgaaGreatDoorProg
import Derived.Test.YtgmkldaonkbjgaaGreatDoorUD
set_option maxRecDepth 100000
namespace Go.Proofs.YtgmkldaonkbjgaaGreatDoor.C
open Go Go.Sx Go.Sx.S


def f25r0 : List SOper := [
 o 2 (.mv e)]
def f25r1 : List SOper := [
 o 6 (.mv (t 0)),
 o 7 (.byts (t 6)),
 o 3 (.mv (t 7))]
def f25r2 : List SOper := [
 o 8 (.mv (t 3)),
 o 9 (.len (t 8)),
 o 10 (.mv (i 0))]
def f25r3 : List SOper := [
 o 11 (.cmp .lss (t 10) (t 9))]
def f25r4 : List SOper := [
 o 12 (.mv (t 10)),
 o 13 (.ixs 1 (t 8) (t 10)),
 o 14 (.ld1 (t 13)),
 o 4 (.mv (t 12)),
 o 5 (.mv (t 14))]
def f25r5 : List SOper := [
 o 15 (.mv (t 5)),
 o 16 (.cmp .geq (t 15) (.const (.int .u8 97))),
 o 17 (.mv (t 16)),
 g 18 17 (.mv (t 5)),
 g 19 17 (.cmp .leq (t 18) (.const (.int .u8 122))),
 o 20 (.pick (t 17) (t 19) (b false))]
def f25r6 : List SOper := [
 o 21 (.mv (t 3)),
 o 22 (.mv (t 4)),
 o 23 (.mv (t 5)),
 o 24 (.ar .sub (t 23) (.const (.int .u8 97))),
 o 25 (.ar .add (t 24) (.const (.int .u8 65))),
 o 26 (.ixs 1 (t 21) (t 22)),
 q (.stb (t 26) (t 25))]
def f25r7 : List SOper := [
 o 27 (.ar .add (t 10) (i 1)),
 o 10 (.mv (t 27))]
def f25l8 : SCode := (.seq (.ops f25r3) (.seq (.cond (t 11) .skip (.exit 0)) (.seq (.block 1 (.seq (.ops f25r4) (.seq (.ops f25r5) (.cond (t 20) (.ops f25r6) .skip)))) (.ops f25r7))))
def f25r9 : List SOper := [
 o 28 (.mv (t 3)),
 o 29 (.bstr (t 28)),
 o 2 (.mv (t 29))]
def f25 : SCode := (.seq (.ops f25r0) (.seq (.ops f25r1) (.seq (.seq (.ops f25r2) (.block 0 (.loop f25l8))) (.seq (.ops f25r9) .ret))))
theorem f25_calls : Sound Tryz.prog 25 30 f25 [.t 2] := sound_of mixed Tryz.func25 rfl (by kernel_rfl) (by kernel_rfl) (by kernel_rfl)

end Go.Proofs.YtgmkldaonkbjgaaGreatDoor.C
set_option maxRecDepth 100000
namespace Go.Proofs.YtgmkldaonkbjgaaGreatDoor.C
open Go Go.Sx Go.Sx.S


def f3r0 : List SOper := [
 o 3 (.box (t 0)),
 o 6 (.mv (b false))]
def f3r1 : List SOper := [
 o 8 (.ldn 8 (t 3)),
 o 9 (.bslice [(.string ⟨#[]⟩), (.int .i64 0), (.string ⟨#[]⟩), (.slice none 0 0), (.slice none 0 0), (.slice none 0 0), (.bool false), (.int .i64 0)] 1 [(0, 8)] [(t 8)]),
 o 7 (.mv (t 9))]
def f3r2 : List SOper := [
 o 10 (.mv (t 7)),
 o 11 (.mv (t 2)),
 o 12 (.bslice [(.string ⟨#[]⟩)] 1 [(0, 1)] [(t 11)]),
 o 13 (.call 7 [(t 10), (t 12)])]
def f3r3 : List SOper := [
 o 14 (.call 8 []),
 o 6 (.mv (t 14))]
def f3r4 : List SOper := [
 o 15 (.mv (t 7)),
 o 16 (.mv (t 1)),
 o 17 (.fa 0 (t 3)),
 o 18 (.ld1 (t 17)),
 o 19 (.mv (t 2)),
 o 20 (.bslice [(.string ⟨#[]⟩), (.string ⟨#[]⟩), (.string ⟨#[]⟩)] 3 [(0, 1), (1, 1), (2, 1)] [(.const (.string ⟨#[73, 78, 67, 82, 66, 89]⟩)), (t 18), (t 19)]),
 o 21 (.call 9 [(t 15), (t 16), (t 20)]),
 o 22 (.mv (t 21)),
 g 23 22 (.mv (t 7)),
 g 24 22 (.mv (t 1)),
 g 25 22 (.fa 0 (t 3)),
 g 26 22 (.ld1 (t 25)),
 g 27 22 (.bslice [(.string ⟨#[]⟩), (.string ⟨#[]⟩)] 2 [(0, 1), (1, 1)] [(.const (.string ⟨#[73, 78, 67, 82]⟩)), (t 26)]),
 g 28 22 (.call 9 [(t 23), (t 24), (t 27)]),
 o 29 (.pick (t 22) (t 28) (b false)),
 o 30 (.mv (t 29)),
 g 31 30 (.mv (t 7)),
 g 32 30 (.mv (t 1)),
 g 33 30 (.fa 0 (t 3)),
 g 34 30 (.ld1 (t 33)),
 g 35 30 (.bslice [(.string ⟨#[]⟩), (.string ⟨#[]⟩)] 2 [(0, 1), (1, 1)] [(.const (.string ⟨#[68, 69, 67, 82]⟩)), (t 34)]),
 g 36 30 (.call 9 [(t 31), (t 32), (t 35)]),
 o 37 (.pick (t 30) (t 36) (b false)),
 o 38 (.mv (t 37)),
 g 39 38 (.mv (t 7)),
 g 40 38 (.mv (t 1)),
 g 41 38 (.fa 0 (t 3)),
 g 42 38 (.ld1 (t 41)),
 g 43 38 (.mv (t 2)),
 g 44 38 (.bslice [(.string ⟨#[]⟩), (.string ⟨#[]⟩), (.string ⟨#[]⟩)] 3 [(0, 1), (1, 1), (2, 1)] [(.const (.string ⟨#[65, 80, 80, 69, 78, 68]⟩)), (t 42), (t 43)]),
 g 45 38 (.call 9 [(t 39), (t 40), (t 44)]),
 o 46 (.pick (t 38) (t 45) (b false)),
 o 47 (.mv (t 46)),
 g 48 47 (.mv (t 7)),
 g 49 47 (.mv (t 1)),
 g 50 47 (.fa 0 (t 3)),
 g 51 47 (.ld1 (t 50)),
 g 52 47 (.bslice [(.string ⟨#[]⟩), (.string ⟨#[]⟩)] 2 [(0, 1), (1, 1)] [(.const (.string ⟨#[83, 84, 82, 76, 69, 78]⟩)), (t 51)]),
 g 53 47 (.call 9 [(t 48), (t 49), (t 52)]),
 o 54 (.pick (t 47) (t 53) (b false)),
 o 55 (.mv (t 54)),
 g 56 55 (.mv (t 7)),
 g 57 55 (.mv (t 1)),
 g 58 55 (.fa 0 (t 3)),
 g 59 55 (.ld1 (t 58)),
 g 60 55 (.bslice [(.string ⟨#[]⟩), (.string ⟨#[]⟩)] 2 [(0, 1), (1, 1)] [(.const (.string ⟨#[71, 69, 84]⟩)), (t 59)]),
 g 61 55 (.call 9 [(t 56), (t 57), (t 60)]),
 o 62 (.pick (t 55) (t 61) (b false)),
 o 63 (.mv (t 62)),
 g 64 63 (.call 8 []),
 o 65 (.pick (t 63) (t 64) (b false)),
 o 6 (.mv (t 65))]
def f3 : SCode := (.seq (.ops f3r0) (.seq (.ops f3r1) (.seq (.seq (.ops f3r2) (.cond (t 13) (.seq (.ops f3r3) .ret) .skip)) (.seq (.ops f3r4) .ret))))
def f4r0 : List SOper := [
 o 6 (.mv (b false))]
def f4r1 : List SOper := [
 o 13 (.mv (t 0)),
 o 14 (.mv (t 2)),
 o 15 (.call 7 [(t 13), (t 14)]),
 o 16 (.mv (t 15)),
 n 17 16 (.mv (t 2)),
 n 18 16 (.len (t 17)),
 n 19 16 (.cmp .gtr (t 18) (i 10)),
 o 20 (.pick (t 16) (b true) (t 19))]
def f4r2 : List SOper := [
 o 21 (.call 8 []),
 o 6 (.mv (t 21))]
def f4r3 : List SOper := [
 o 7 (.mv (.const (.slice none 0 0)))]
def f4r4 : List SOper := [
 o 8 (.mv (i 0))]
def f4r5 : List SOper := [
 o 22 (.mv (t 8)),
 o 23 (.mv (t 2)),
 o 24 (.len (t 23)),
 o 25 (.cmp .lss (t 22) (t 24))]
def f4r6 : List SOper := [
 o 28 (.mv (t 7)),
 o 29 (.mv (t 2)),
 o 30 (.mv (t 8)),
 o 31 (.ixs 1 (t 29) (t 30)),
 o 32 (.ld1 (t 31)),
 o 33 (.bslice [(.string ⟨#[]⟩), (.string ⟨#[]⟩)] 2 [(0, 1), (1, 1)] [(t 32), (.const (.string ⟨#[118]⟩))]),
 o 34 (.app 1 16 [(.string ⟨#[]⟩)] (t 28) (t 33)),
 o 7 (.mv (t 34))]
def f4r7 : List SOper := [
 o 26 (.mv (t 8)),
 o 27 (.ar .add (t 26) (i 1)),
 o 8 (.mv (t 27))]
def f4l8 : SCode := (.seq (.seq (.ops f4r5) (.cond (t 25) .skip (.exit 0))) (.seq (.block 1 (.ops f4r6)) (.ops f4r7)))
def f4r9 : List SOper := [
 o 35 (.bslice [(.string ⟨#[]⟩)] 1 [(0, 1)] [(.const (.string ⟨#[68, 69, 76]⟩))]),
 o 36 (.mv (t 2)),
 o 37 (.app 1 16 [(.string ⟨#[]⟩)] (t 35) (t 36)),
 o 38 (.bslice [(.string ⟨#[]⟩)] 1 [(0, 1)] [(.const (.string ⟨#[69, 88, 73, 83, 84, 83]⟩))]),
 o 39 (.mv (t 2)),
 o 40 (.app 1 16 [(.string ⟨#[]⟩)] (t 38) (t 39)),
 o 41 (.bslice [(.string ⟨#[]⟩)] 1 [(0, 1)] [(.const (.string ⟨#[77, 71, 69, 84]⟩))]),
 o 42 (.mv (t 2)),
 o 43 (.app 1 16 [(.string ⟨#[]⟩)] (t 41) (t 42)),
 o 44 (.bslice [(.string ⟨#[]⟩)] 1 [(0, 1)] [(.const (.string ⟨#[77, 83, 69, 84]⟩))]),
 o 45 (.mv (t 7)),
 o 46 (.app 1 16 [(.string ⟨#[]⟩)] (t 44) (t 45)),
 o 9 (.mv (t 37)),
 o 10 (.mv (t 40)),
 o 11 (.mv (t 43)),
 o 12 (.mv (t 46))]
def f4r10 : List SOper := [
 o 47 (.mv (t 0)),
 o 48 (.mv (t 1)),
 o 49 (.mv (t 9)),
 o 50 (.call 9 [(t 47), (t 48), (t 49)]),
 o 51 (.mv (t 50)),
 g 52 51 (.mv (t 0)),
 g 53 51 (.mv (t 1)),
 g 54 51 (.mv (t 10)),
 g 55 51 (.call 9 [(t 52), (t 53), (t 54)]),
 o 56 (.pick (t 51) (t 55) (b false)),
 o 57 (.mv (t 56)),
 g 58 57 (.mv (t 0)),
 g 59 57 (.mv (t 1)),
 g 60 57 (.mv (t 11)),
 g 61 57 (.call 9 [(t 58), (t 59), (t 60)]),
 o 62 (.pick (t 57) (t 61) (b false)),
 o 63 (.mv (t 62)),
 g 64 63 (.mv (t 0)),
 g 65 63 (.mv (t 1)),
 g 66 63 (.mv (t 12)),
 g 67 63 (.call 9 [(t 64), (t 65), (t 66)]),
 o 68 (.pick (t 63) (t 67) (b false)),
 o 69 (.mv (t 68)),
 g 70 69 (.mv (t 0)),
 g 71 69 (.mv (t 1)),
 g 72 69 (.bslice [(.string ⟨#[]⟩)] 1 [(0, 1)] [(.const (.string ⟨#[75, 69, 89, 83]⟩))]),
 g 73 69 (.call 9 [(t 70), (t 71), (t 72)]),
 o 74 (.pick (t 69) (t 73) (b false)),
 o 75 (.mv (t 74)),
 g 76 75 (.mv (t 0)),
 g 77 75 (.mv (t 1)),
 g 78 75 (.bslice [(.string ⟨#[]⟩)] 1 [(0, 1)] [(.const (.string ⟨#[68, 66, 83, 73, 90, 69]⟩))]),
 g 79 75 (.call 9 [(t 76), (t 77), (t 78)]),
 o 80 (.pick (t 75) (t 79) (b false)),
 o 81 (.mv (t 80)),
 g 82 81 (.mv (t 0)),
 g 83 81 (.mv (t 1)),
 g 84 81 (.bslice [(.string ⟨#[]⟩)] 1 [(0, 1)] [(.const (.string ⟨#[70, 76, 85, 83, 72, 65, 76, 76]⟩))]),
 g 85 81 (.call 9 [(t 82), (t 83), (t 84)]),
 o 86 (.pick (t 81) (t 85) (b false)),
 o 87 (.mv (t 86)),
 g 88 87 (.call 8 []),
 o 89 (.pick (t 87) (t 88) (b false)),
 o 6 (.mv (t 89))]
def f4 : SCode := (.seq (.ops f4r0) (.seq (.seq (.ops f4r1) (.cond (t 20) (.seq (.ops f4r2) .ret) .skip)) (.seq (.ops f4r3) (.seq (.seq (.ops f4r4) (.block 0 (.loop f4l8))) (.seq (.ops f4r9) (.seq (.ops f4r10) .ret))))))
theorem f4_calls : Sound Tryz.prog 4 90 f4 [.t 6] := sound_of mixed Tryz.func4 rfl (by kernel_rfl) (by kernel_rfl) (by kernel_rfl)

def f6r0 : List SOper := [
 o 3 (.box (t 1)),
 o 4 (.mv (b false))]
def f6r1 : List SOper := [
 o 24 (.mv (t 0)),
 o 25 (.fa 0 (t 3)),
 o 26 (.ld1 (t 25)),
 o 27 (.fa 1 (t 3)),
 o 28 (.ld1 (t 27)),
 o 29 (.bslice [(.string ⟨#[]⟩), (.string ⟨#[]⟩)] 2 [(0, 1), (1, 1)] [(t 26), (t 28)]),
 o 30 (.call 7 [(t 24), (t 29)]),
 o 31 (.mv (t 30)),
 n 32 31 (.fa 2 (t 3)),
 n 33 31 (.ld1 (t 32)),
 n 34 31 (.cmp .lss (t 33) (i 0)),
 o 35 (.pick (t 31) (b true) (t 34)),
 o 36 (.mv (t 35)),
 n 37 36 (.fa 2 (t 3)),
 n 38 36 (.ld1 (t 37)),
 n 39 36 (.cmp .gtr (t 38) (i 1099511627776)),
 o 40 (.pick (t 36) (b true) (t 39)),
 o 41 (.mv (t 40)),
 n 42 41 (.fa 3 (t 3)),
 n 43 41 (.ld1 (t 42)),
 n 44 41 (.cmp .lss (t 43) (i 1)),
 o 45 (.pick (t 41) (b true) (t 44)),
 o 46 (.mv (t 45)),
 n 47 46 (.fa 3 (t 3)),
 n 48 46 (.ld1 (t 47)),
 n 49 46 (.cmp .gtr (t 48) (i 1099511627776)),
 o 50 (.pick (t 46) (b true) (t 49))]
def f6r2 : List SOper := [
 o 51 (.call 8 []),
 o 4 (.mv (t 51))]
def f6r3 : List SOper := [
 o 53 (.mv (t 0)),
 o 54 (.call 10 [(t 53)]),
 o 52 (.mv (t 54)),
 o 55 (.ext (t 52) 0),
 o 56 (.ext (t 52) 1),
 o 5 (.mv (t 55)),
 o 6 (.mv (t 56))]
def f6r4 : List SOper := [
 o 57 (.mv (t 6)),
 o 58 (.cmp .neq (t 57) (i 0))]
def f6r5 : List SOper := [
 o 59 (.mv (t 5)),
 o 60 (.eqn 0 false (t 59)),
 o 61 (.mv (t 60)),
 g 62 61 (.call 8 []),
 o 63 (.pick (t 61) (t 62) (b false)),
 o 4 (.mv (t 63))]
def f6r6 : List SOper := [
 o 65 (.mv (t 5)),
 o 66 (.fa 2 (t 3)),
 o 67 (.ld1 (t 66)),
 o 68 (.fa 0 (t 3)),
 o 69 (.ld1 (t 68)),
 o 70 (.fa 1 (t 3)),
 o 71 (.ld1 (t 70)),
 o 72 (.bslice [(.string ⟨#[]⟩), (.string ⟨#[]⟩), (.string ⟨#[]⟩)] 3 [(0, 1), (1, 1), (2, 1)] [(.const (.string ⟨#[83, 69, 84]⟩)), (t 69), (t 71)]),
 o 73 (.call 11 [(t 65), (t 67), (t 72)]),
 o 64 (.mv (t 73)),
 o 74 (.ext (t 64) 0),
 o 75 (.ext (t 64) 1),
 o 76 (.ext (t 64) 2),
 o 7 (.new [(.int .i64 0), (.int .i64 0), (.string ⟨#[]⟩), (.slice none 0 0)]),
 q (.st 4 (t 7) (t 74)),
 o 8 (.mv (t 75)),
 o 9 (.mv (t 76))]
def f6r7 : List SOper := [
 o 78 (.mv (t 5)),
 o 79 (.mv (t 8)),
 o 80 (.call 12 [(t 78), (t 79)]),
 o 77 (.mv (t 80)),
 o 81 (.ext (t 77) 0),
 o 82 (.ext (t 77) 1),
 o 10 (.mv (t 81)),
 o 11 (.mv (t 82))]
def f6r8 : List SOper := [
 o 84 (.mv (t 5)),
 o 85 (.fa 2 (t 3)),
 o 86 (.ld1 (t 85)),
 o 87 (.fa 0 (t 3)),
 o 88 (.ld1 (t 87)),
 o 89 (.bslice [(.string ⟨#[]⟩), (.string ⟨#[]⟩)] 2 [(0, 1), (1, 1)] [(.const (.string ⟨#[71, 69, 84]⟩)), (t 88)]),
 o 90 (.call 11 [(t 84), (t 86), (t 89)]),
 o 83 (.mv (t 90)),
 o 91 (.ext (t 83) 0),
 o 92 (.ext (t 83) 1),
 o 93 (.ext (t 83) 2),
 o 12 (.new [(.int .i64 0), (.int .i64 0), (.string ⟨#[]⟩), (.slice none 0 0)]),
 q (.st 4 (t 12) (t 91)),
 o 13 (.mv (t 92)),
 o 14 (.mv (t 93))]
def f6r9 : List SOper := [
 o 94 (.fa 2 (t 7)),
 o 95 (.ld1 (t 94)),
 o 96 (.cmp .neq (t 95) (.const (.string ⟨#[79, 75]⟩))),
 o 97 (.mv (t 96)),
 n 98 97 (.mv (t 11)),
 n 99 97 (.cmp .neq (t 98) (i 0)),
 o 100 (.pick (t 97) (b true) (t 99)),
 o 101 (.mv (t 100)),
 n 102 101 (.fa 0 (t 12)),
 n 103 101 (.ld1 (t 102)),
 n 104 101 (.cmp .neq (t 103) (i 4)),
 o 105 (.pick (t 101) (b true) (t 104)),
 o 106 (.mv (t 105)),
 n 107 106 (.fa 2 (t 12)),
 n 108 106 (.ld1 (t 107)),
 n 109 106 (.fa 1 (t 3)),
 n 110 106 (.ld1 (t 109)),
 n 111 106 (.cmp .neq (t 108) (t 110)),
 o 112 (.pick (t 106) (b true) (t 111)),
 o 113 (.mv (t 112)),
 n 114 113 (.mv (t 13)),
 n 115 113 (.len (t 114)),
 n 116 113 (.cmp .neq (t 115) (i 0)),
 o 117 (.pick (t 113) (b true) (t 116))]
def f6r10 : List SOper := [
 o 4 (.mv (b false))]
def f6r11 : List SOper := [
 o 119 (.mv (t 5)),
 o 120 (.fa 2 (t 3)),
 o 121 (.ld1 (t 120)),
 o 122 (.fa 0 (t 3)),
 o 123 (.ld1 (t 122)),
 o 124 (.fa 3 (t 3)),
 o 125 (.ld1 (t 124)),
 o 126 (.callq 13 [(t 125)]),
 o 127 (.bslice [(.string ⟨#[]⟩), (.string ⟨#[]⟩), (.string ⟨#[]⟩)] 3 [(0, 1), (1, 1), (2, 1)] [(.const (.string ⟨#[80, 69, 88, 80, 73, 82, 69]⟩)), (t 123), (t 126)]),
 o 128 (.callq 11 [(t 119), (t 121), (t 127)]),
 o 118 (.mv (t 128)),
 o 129 (.ext (t 118) 0),
 o 130 (.ext (t 118) 1),
 o 131 (.ext (t 118) 2),
 o 8 (.mv (t 130))]
def f6r12 : List SOper := [
 o 133 (.mv (t 5)),
 o 134 (.mv (t 8)),
 o 135 (.call 12 [(t 133), (t 134)]),
 o 132 (.mv (t 135)),
 o 136 (.ext (t 132) 0),
 o 137 (.ext (t 132) 1),
 o 11 (.mv (t 137))]
def f6r13 : List SOper := [
 o 139 (.mv (t 5)),
 o 140 (.fa 2 (t 3)),
 o 141 (.ld1 (t 140)),
 o 142 (.fa 3 (t 3)),
 o 143 (.ld1 (t 142)),
 o 144 (.ar .add (t 141) (t 143)),
 o 145 (.ar .sub (t 144) (i 1)),
 o 146 (.fa 0 (t 3)),
 o 147 (.ld1 (t 146)),
 o 148 (.bslice [(.string ⟨#[]⟩), (.string ⟨#[]⟩)] 2 [(0, 1), (1, 1)] [(.const (.string ⟨#[69, 88, 73, 83, 84, 83]⟩)), (t 147)]),
 o 149 (.call 11 [(t 139), (t 145), (t 148)]),
 o 138 (.mv (t 149)),
 o 150 (.ext (t 138) 0),
 o 151 (.ext (t 138) 1),
 o 152 (.ext (t 138) 2),
 o 15 (.new [(.int .i64 0), (.int .i64 0), (.string ⟨#[]⟩), (.slice none 0 0)]),
 q (.st 4 (t 15) (t 150)),
 o 16 (.mv (t 151)),
 o 17 (.mv (t 152))]
def f6r14 : List SOper := [
 o 154 (.mv (t 5)),
 o 155 (.fa 2 (t 3)),
 o 156 (.ld1 (t 155)),
 o 157 (.fa 3 (t 3)),
 o 158 (.ld1 (t 157)),
 o 159 (.ar .add (t 156) (t 158)),
 o 160 (.fa 0 (t 3)),
 o 161 (.ld1 (t 160)),
 o 162 (.bslice [(.string ⟨#[]⟩), (.string ⟨#[]⟩)] 2 [(0, 1), (1, 1)] [(.const (.string ⟨#[69, 88, 73, 83, 84, 83]⟩)), (t 161)]),
 o 163 (.call 11 [(t 154), (t 159), (t 162)]),
 o 153 (.mv (t 163)),
 o 164 (.ext (t 153) 0),
 o 165 (.ext (t 153) 1),
 o 166 (.ext (t 153) 2),
 o 18 (.new [(.int .i64 0), (.int .i64 0), (.string ⟨#[]⟩), (.slice none 0 0)]),
 q (.st 4 (t 18) (t 164)),
 o 19 (.mv (t 165)),
 o 20 (.mv (t 166))]
def f6r15 : List SOper := [
 o 168 (.mv (t 5)),
 o 169 (.fa 2 (t 3)),
 o 170 (.ld1 (t 169)),
 o 171 (.fa 0 (t 3)),
 o 172 (.ld1 (t 171)),
 o 173 (.bslice [(.string ⟨#[]⟩), (.string ⟨#[]⟩)] 2 [(0, 1), (1, 1)] [(.const (.string ⟨#[80, 84, 84, 76]⟩)), (t 172)]),
 o 174 (.call 11 [(t 168), (t 170), (t 173)]),
 o 167 (.mv (t 174)),
 o 175 (.ext (t 167) 0),
 o 176 (.ext (t 167) 1),
 o 177 (.ext (t 167) 2),
 o 21 (.new [(.int .i64 0), (.int .i64 0), (.string ⟨#[]⟩), (.slice none 0 0)]),
 q (.st 4 (t 21) (t 175)),
 o 22 (.mv (t 176)),
 o 23 (.mv (t 177))]
def f6r16 : List SOper := [
 o 178 (.mv (t 11)),
 o 179 (.cmp .eql (t 178) (i 0)),
 o 180 (.mv (t 179)),
 g 181 180 (.fa 1 (t 15)),
 g 182 180 (.ld1 (t 181)),
 g 183 180 (.cmp .eql (t 182) (i 1)),
 o 184 (.pick (t 180) (t 183) (b false)),
 o 185 (.mv (t 184)),
 g 186 185 (.fa 0 (t 18)),
 g 187 185 (.ld1 (t 186)),
 g 188 185 (.cmp .eql (t 187) (i 3)),
 o 189 (.pick (t 185) (t 188) (b false)),
 o 190 (.mv (t 189)),
 g 191 190 (.fa 1 (t 18)),
 g 192 190 (.ld1 (t 191)),
 g 193 190 (.cmp .eql (t 192) (i 0)),
 o 194 (.pick (t 190) (t 193) (b false)),
 o 195 (.mv (t 194)),
 g 196 195 (.fa 1 (t 21)),
 g 197 195 (.ld1 (t 196)),
 g 198 195 (.fa 3 (t 3)),
 g 199 195 (.ld1 (t 198)),
 g 200 195 (.cmp .eql (t 197) (t 199)),
 o 201 (.pick (t 195) (t 200) (b false)),
 o 202 (.mv (t 201)),
 g 203 202 (.call 8 []),
 o 204 (.pick (t 202) (t 203) (b false)),
 o 4 (.mv (t 204))]
def f6 : SCode := (.seq (.ops f6r0) (.seq (.seq (.ops f6r1) (.cond (t 50) (.seq (.ops f6r2) .ret) .skip)) (.seq (.ops f6r3) (.seq (.seq (.ops f6r4) (.cond (t 58) (.seq (.ops f6r5) .ret) .skip)) (.seq (.ops f6r6) (.seq (.ops f6r7) (.seq (.ops f6r8) (.seq (.seq (.ops f6r9) (.cond (t 117) (.seq (.ops f6r10) .ret) .skip)) (.seq (.ops f6r11) (.seq (.ops f6r12) (.seq (.ops f6r13) (.seq (.ops f6r14) (.seq (.ops f6r15) (.seq (.ops f6r16) .ret))))))))))))))
def f9r0 : List SOper := [
 o 6 (.mv (b false))]
def f9r1 : List SOper := [
 o 18 (.mv (t 0)),
 o 19 (.call 10 [(t 18)]),
 o 17 (.mv (t 19)),
 o 20 (.ext (t 17) 0),
 o 21 (.ext (t 17) 1),
 o 7 (.mv (t 20)),
 o 8 (.mv (t 21))]
def f9r2 : List SOper := [
 o 23 (.mv (t 0)),
 o 24 (.call 16 [(t 23)]),
 o 22 (.mv (t 24)),
 o 25 (.ext (t 22) 0),
 o 26 (.ext (t 22) 1),
 o 9 (.mv (t 25)),
 o 10 (.mv (t 26))]
def f9r3 : List SOper := [
 o 27 (.mv (t 10)),
 o 28 (.cmp .neq (t 27) (i 0)),
 o 29 (.mv (t 28)),
 n 30 29 (.mv (t 8)),
 n 31 29 (.cmp .neq (t 30) (i 0)),
 o 32 (.pick (t 29) (b true) (t 31))]
def f9r4 : List SOper := [
 o 33 (.mv (t 8)),
 o 34 (.mv (t 10)),
 o 35 (.cmp .eql (t 33) (t 34)),
 o 6 (.mv (t 35))]
def f9r5 : List SOper := [
 o 37 (.mv (t 7)),
 o 38 (.mv (t 1)),
 o 39 (.mv (t 2)),
 o 40 (.call 11 [(t 37), (t 38), (t 39)]),
 o 36 (.mv (t 40)),
 o 41 (.ext (t 36) 0),
 o 42 (.ext (t 36) 1),
 o 43 (.ext (t 36) 2),
 o 11 (.new [(.int .i64 0), (.int .i64 0), (.string ⟨#[]⟩), (.slice none 0 0)]),
 q (.st 4 (t 11) (t 41)),
 o 12 (.mv (t 42)),
 o 13 (.mv (t 43))]
def f9r6 : List SOper := [
 o 45 (.mv (t 9)),
 o 46 (.mv (t 1)),
 o 47 (.mv (t 2)),
 o 48 (.call 17 [(t 45), (t 46), (t 47)]),
 o 44 (.mv (t 48)),
 o 49 (.ext (t 44) 0),
 o 50 (.ext (t 44) 1),
 o 51 (.ext (t 44) 2),
 o 14 (.new [(.int .i64 0), (.int .i64 0), (.string ⟨#[]⟩), (.slice none 0 0)]),
 q (.st 4 (t 14) (t 49)),
 o 15 (.mv (t 50)),
 o 16 (.mv (t 51))]
def f9r7 : List SOper := [
 o 52 (.mv (t 13)),
 o 53 (.mv (t 16)),
 o 54 (.cmpb false (t 52) (t 53)),
 o 55 (.mv (t 54)),
 g 56 55 (.ldn 4 (t 11)),
 g 57 55 (.ldn 4 (t 14)),
 g 58 55 (.call 18 [(t 56), (t 57)]),
 o 59 (.pick (t 55) (t 58) (b false)),
 o 60 (.mv (t 59)),
 g 61 60 (.mv (t 12)),
 g 62 60 (.mv (t 15)),
 g 63 60 (.call 19 [(t 61), (t 62)]),
 o 64 (.pick (t 60) (t 63) (b false)),
 o 65 (.mv (t 64)),
 g 66 65 (.mv (t 7)),
 g 67 65 (.mv (t 9)),
 g 68 65 (.call 20 [(t 66), (t 67)]),
 o 69 (.pick (t 65) (t 68) (b false)),
 o 6 (.mv (t 69))]
def f9 : SCode := (.seq (.ops f9r0) (.seq (.ops f9r1) (.seq (.ops f9r2) (.seq (.seq (.ops f9r3) (.cond (t 32) (.seq (.ops f9r4) .ret) .skip)) (.seq (.ops f9r5) (.seq (.ops f9r6) (.seq (.ops f9r7) .ret)))))))
theorem f9_calls : Sound Tryz.prog 9 70 f9 [.t 6] := sound_of mixed Tryz.func9 rfl (by kernel_rfl) (by kernel_rfl) (by kernel_rfl)

def f17r0 : List SOper := [
 o 6 (.new [(.int .i64 0), (.int .i64 0), (.string ⟨#[]⟩), (.slice none 0 0)]),
 o 7 (.mv (.const (.slice none 0 0))),
 o 8 (.mv (b false))]
def f17r1 : List SOper := [
 o 15 (.mv (t 2)),
 o 16 (.len (t 15)),
 o 17 (.cmp .eql (t 16) (i 0))]
def f17r2 : List SOper := [
 o 18 (.build [(.int .i64 0), (.int .i64 0), (.string ⟨#[]⟩), (.slice none 0 0)] [] []),
 q (.st 4 (t 6) (t 18)),
 o 7 (.mv (.const (.slice none 0 0))),
 o 8 (.mv (b false))]
def f17r3 : List SOper := [
 o 19 (.mv (t 2)),
 o 20 (.ixs 1 (t 19) (i 0)),
 o 21 (.ld1 (t 20)),
 o 22 (.call 34 [(t 21)]),
 o 9 (.mv (t 22))]
def f17r4 : List SOper := [
 o 24 (.mv (t 9)),
 o 25 (.call 35 [(t 24)]),
 o 23 (.mv (t 25)),
 o 26 (.ext (t 23) 0),
 o 27 (.ext (t 23) 1),
 o 28 (.ext (t 23) 2),
 o 10 (.mv (t 26)),
 o 11 (.mv (t 27)),
 o 12 (.mv (t 28))]
def f17r5 : List SOper := [
 o 29 (.mv (t 12)),
 o 30 (.un .not (t 29))]
def f17r6 : List SOper := [
 o 31 (.build [(.int .i64 0), (.int .i64 0), (.string ⟨#[]⟩), (.slice none 0 0)] [] []),
 q (.st 4 (t 6) (t 31)),
 o 7 (.mv (.const (.slice none 0 0))),
 o 8 (.mv (b false))]
def f17r7 : List SOper := [
 o 32 (.mv (t 0)),
 o 33 (.mv (t 1)),
 o 34 (.mv (t 2)),
 o 35 (.slc 1 (t 34) (some (i 1)) none),
 o 36 (.build [(.slice none 0 0), (.int .i64 0), (.slice none 0 0), (.slice none 0 0), (.string ⟨#[]⟩)] [(0, 1), (1, 1), (2, 1)] [(t 32), (t 33), (t 35)]),
 o 37 (.box (t 36)),
 o 13 (.mv (t 37))]
def f17r8 : List SOper := [
 o 38 (.mv (t 13)),
 o 39 (.mv (t 10)),
 o 40 (.mv (t 11)),
 o 41 (.call 36 [(t 38), (t 39), (t 40)]),
 o 42 (.un .not (t 41))]
def f17r9 : List SOper := [
 o 43 (.mv (t 13)),
 o 44 (.nilck (t 43)),
 o 45 (.fa 4 (t 44)),
 o 46 (.ld1 (t 45)),
 o 47 (.call 37 [(t 46)]),
 q (.st 4 (t 6) (t 47)),
 o 7 (.mv (.const (.slice none 0 0))),
 o 8 (.mv (b true))]
def f17r10 : List SOper := [
 o 48 (.mv (t 13)),
 o 49 (.mv (t 9)),
 o 50 (.call 38 [(t 48), (t 49)]),
 o 14 (.new [(.int .i64 0), (.int .i64 0), (.string ⟨#[]⟩), (.slice none 0 0)]),
 q (.st 4 (t 14) (t 50))]
def f17r11 : List SOper := [
 o 51 (.mv (t 13)),
 o 52 (.nilck (t 51)),
 o 53 (.fa 4 (t 52)),
 o 54 (.ld1 (t 53)),
 o 55 (.cmp .neq (t 54) e)]
def f17r12 : List SOper := [
 o 56 (.mv (t 13)),
 o 57 (.nilck (t 56)),
 o 58 (.fa 4 (t 57)),
 o 59 (.ld1 (t 58)),
 o 60 (.call 37 [(t 59)]),
 q (.st 4 (t 6) (t 60)),
 o 7 (.mv (.const (.slice none 0 0))),
 o 8 (.mv (b true))]
def f17p13 : List SOper := [
 o 61 (.ldn 4 (t 14)),
 o 62 (.mv (t 13)),
 o 63 (.nilck (t 62)),
 o 64 (.fa 3 (t 63))]
def f17r13 : List SOper := [
 o 65 (.ld1 (t 64)),
 q (.st 4 (t 6) (t 61)),
 o 7 (.mv (t 65)),
 o 8 (.mv (b true))]
def f17s13 : List SOper := [
 q (.st 4 (t 6) (t 61)),
 o 65 (.ld1 (t 64)),
 o 7 (.mv (t 65)),
 o 8 (.mv (b true))]
def f17 : SCode := (.seq (.ops f17r0) (.seq (.seq (.ops f17r1) (.cond (t 17) (.seq (.ops f17r2) .ret) .skip)) (.seq (.ops f17r3) (.seq (.ops f17r4) (.seq (.seq (.ops f17r5) (.cond (t 30) (.seq (.ops f17r6) .ret) .skip)) (.seq (.ops f17r7) (.seq (.seq (.ops f17r8) (.cond (t 42) (.seq (.ops f17r9) .ret) .skip)) (.seq (.ops f17r10) (.seq (.seq (.ops f17r11) (.cond (t 55) (.seq (.ops f17r12) .ret) .skip)) (.seq (.two f17p13 f17r13 f17s13) .ret))))))))))
theorem f17_calls : Sound Tryz.prog 17 66 f17 [.cn 6 4, .t 7, .t 8] := sound_of mixed Tryz.func17 rfl (by kernel_rfl) (by kernel_rfl) (by kernel_rfl)

def f18r0 : List SOper := [
 o 2 (.box (t 0)),
 o 3 (.box (t 1)),
 o 4 (.mv (b false))]
def f18r1 : List SOper := [
 o 6 (.fa 0 (t 2)),
 o 7 (.ld1 (t 6)),
 o 8 (.fa 0 (t 3)),
 o 9 (.ld1 (t 8)),
 o 10 (.cmp .neq (t 7) (t 9)),
 o 11 (.mv (t 10)),
 n 12 11 (.fa 1 (t 2)),
 n 13 11 (.ld1 (t 12)),
 n 14 11 (.fa 1 (t 3)),
 n 15 11 (.ld1 (t 14)),
 n 16 11 (.cmp .neq (t 13) (t 15)),
 o 17 (.pick (t 11) (b true) (t 16)),
 o 18 (.mv (t 17)),
 n 19 18 (.fa 2 (t 2)),
 n 20 18 (.ld1 (t 19)),
 n 21 18 (.fa 2 (t 3)),
 n 22 18 (.ld1 (t 21)),
 n 23 18 (.cmp .neq (t 20) (t 22)),
 o 24 (.pick (t 18) (b true) (t 23)),
 o 25 (.mv (t 24)),
 n 26 25 (.fa 3 (t 2)),
 n 27 25 (.ld1 (t 26)),
 n 28 25 (.len (t 27)),
 n 29 25 (.fa 3 (t 3)),
 n 30 25 (.ld1 (t 29)),
 n 31 25 (.len (t 30)),
 n 32 25 (.cmp .neq (t 28) (t 31)),
 o 33 (.pick (t 25) (b true) (t 32))]
def f18r2 : List SOper := [
 o 4 (.mv (b false))]
def f18r3 : List SOper := [
 o 5 (.mv (i 0))]
def f18r4 : List SOper := [
 o 34 (.mv (t 5)),
 o 35 (.fa 3 (t 2)),
 o 36 (.ld1 (t 35)),
 o 37 (.len (t 36)),
 o 38 (.cmp .lss (t 34) (t 37))]
def f18r5 : List SOper := [
 o 41 (.fa 3 (t 2)),
 o 42 (.ld1 (t 41)),
 o 43 (.mv (t 5)),
 o 44 (.ixs 4 (t 42) (t 43)),
 o 45 (.ldn 4 (t 44)),
 o 46 (.fa 3 (t 3)),
 o 47 (.ld1 (t 46)),
 o 48 (.mv (t 5)),
 o 49 (.ixs 4 (t 47) (t 48)),
 o 50 (.ldn 4 (t 49)),
 o 51 (.call 18 [(t 45), (t 50)]),
 o 52 (.un .not (t 51))]
def f18r6 : List SOper := [
 o 4 (.mv (b false))]
def f18r7 : List SOper := [
 o 39 (.mv (t 5)),
 o 40 (.ar .add (t 39) (i 1)),
 o 5 (.mv (t 40))]
def f18l8 : SCode := (.seq (.seq (.ops f18r4) (.cond (t 38) .skip (.exit 0))) (.seq (.block 1 (.seq (.ops f18r5) (.cond (t 52) (.seq (.ops f18r6) .ret) .skip))) (.ops f18r7)))
def f18r9 : List SOper := [
 o 4 (.mv (b true))]
def f18 : SCode := (.seq (.ops f18r0) (.seq (.seq (.ops f18r1) (.cond (t 33) (.seq (.ops f18r2) .ret) .skip)) (.seq (.seq (.ops f18r3) (.block 0 (.loop f18l8))) (.seq (.ops f18r9) .ret))))
theorem f18_calls : Sound Tryz.prog 18 53 f18 [.t 4] := sound_of mixed Tryz.func18 rfl (by kernel_rfl) (by kernel_rfl) (by kernel_rfl)

def f19r0 : List SOper := [
 o 4 (.mv (b false))]
def f19r1 : List SOper := [
 o 6 (.mv (t 0)),
 o 7 (.len (t 6)),
 o 8 (.mv (t 1)),
 o 9 (.len (t 8)),
 o 10 (.cmp .neq (t 7) (t 9))]
def f19r2 : List SOper := [
 o 4 (.mv (b false))]
def f19r3 : List SOper := [
 o 5 (.mv (i 0))]
def f19r4 : List SOper := [
 o 11 (.mv (t 5)),
 o 12 (.mv (t 0)),
 o 13 (.len (t 12)),
 o 14 (.cmp .lss (t 11) (t 13))]
def f19r5 : List SOper := [
 o 17 (.mv (t 0)),
 o 18 (.mv (t 5)),
 o 19 (.ixs 5 (t 17) (t 18)),
 o 20 (.ldn 5 (t 19)),
 o 21 (.mv (t 1)),
 o 22 (.mv (t 5)),
 o 23 (.ixs 5 (t 21) (t 22)),
 o 24 (.ldn 5 (t 23)),
 o 25 (.eqa true [(.int .i64), .str, .str, .str, (.int .i64)] (t 20) (t 24))]
def f19r6 : List SOper := [
 o 4 (.mv (b false))]
def f19r7 : List SOper := [
 o 15 (.mv (t 5)),
 o 16 (.ar .add (t 15) (i 1)),
 o 5 (.mv (t 16))]
def f19l8 : SCode := (.seq (.seq (.ops f19r4) (.cond (t 14) .skip (.exit 0))) (.seq (.block 1 (.seq (.ops f19r5) (.cond (t 25) (.seq (.ops f19r6) .ret) .skip))) (.ops f19r7)))
def f19r9 : List SOper := [
 o 4 (.mv (b true))]
def f19 : SCode := (.seq (.ops f19r0) (.seq (.seq (.ops f19r1) (.cond (t 10) (.seq (.ops f19r2) .ret) .skip)) (.seq (.seq (.ops f19r3) (.block 0 (.loop f19l8))) (.seq (.ops f19r9) .ret))))
theorem f19_calls : Sound Tryz.prog 19 26 f19 [.t 4] := sound_of mixed Tryz.func19 rfl (by kernel_rfl) (by kernel_rfl) (by kernel_rfl)

def f20r0 : List SOper := [
 o 3 (.box (t 1)),
 o 4 (.new [(.bool false)])]
def f20r1 : List SOper := [
 o 5 (.new [(.int .i64 0)]),
 q (.st 1 (t 5) (i 0))]
def f20r2 : List SOper := [
 o 9 (.mv (t 0)),
 o 10 (.call 39 [(t 9)]),
 o 6 (.mv (t 10))]
def f20r3 : List SOper := [
 o 11 (.mv (t 6)),
 o 12 (.eqn 3 false (t 11))]
def f20r4 : List SOper := [
 q (.st 1 (t 4) (b false))]
def f20r5 : List SOper := [
 o 13 (.mv (t 6))]
def f20r6 : List SOper := [
 o 7 (.mv (t 14))]
def f20r7 : List SOper := [
 o 8 (.new [(.int .i64 0), (.string ⟨#[]⟩), (.slice none 0 0), (.slice none 0 0), (.slice none 0 0), (.bool false), (.int .i64 0)]),
 q (.st 7 (t 8) (t 15))]
def f20r8 : List SOper := [
 o 16 (.ld1 (t 5)),
 o 17 (.ld1 (t 3)),
 o 18 (.len (t 17)),
 o 19 (.cmp .geq (t 16) (t 18)),
 o 20 (.mv (t 19)),
 n 21 20 (.mv (t 7)),
 n 22 20 (.ld1 (t 3)),
 n 23 20 (.ld1 (t 5)),
 n 24 20 (.ixs 8 (t 22) (t 23)),
 n 25 20 (.fa 0 (t 24)),
 n 26 20 (.ld1 (t 25)),
 n 27 20 (.cmp .neq (t 21) (t 26)),
 o 28 (.pick (t 20) (b true) (t 27)),
 o 29 (.mv (t 28)),
 n 30 29 (.ldn 7 (t 8)),
 n 31 29 (.ld1 (t 3)),
 n 32 29 (.ld1 (t 5)),
 n 33 29 (.ixs 8 (t 31) (t 32)),
 n 34 29 (.fa 1 (t 33)),
 n 35 29 (.ldn 7 (t 34)),
 n 36 29 (.call 40 [(t 30), (t 35)]),
 n 37 29 (.un .not (t 36)),
 o 38 (.pick (t 29) (b true) (t 37))]
def f20r9 : List SOper := [
 q (.st 1 (t 4) (b false))]
def f20r10 : List SOper := [
 o 39 (.ld1 (t 5)),
 o 40 (.ar .add (t 39) (i 1)),
 q (.st 1 (t 5) (t 40))]
def f20a11 : SCode := (.seq (.ops f20r6) (.ops f20r7))
def f20b11 : SCode := (.block 1 (.seq (.seq (.ops f20r8) (.cond (t 38) (.seq (.ops f20r9) .ret) .skip)) (.ops f20r10)))
def f20r12 : List SOper := [
 o 41 (.ld1 (t 5)),
 o 42 (.ld1 (t 3)),
 o 43 (.len (t 42)),
 o 44 (.cmp .eql (t 41) (t 43)),
 q (.st 1 (t 4) (t 44))]
def f20 : SCode := (.seq (.ops f20r0) (.seq (.ops f20r1) (.seq (.ops f20r2) (.seq (.seq (.ops f20r3) (.cond (t 12) (.seq (.ops f20r4) .ret) .skip)) (.seq (.seq (.ops f20r5) (.block 0 (.rangeF (t 13) [14, 15] f20a11 f20b11))) (.seq (.ops f20r12) .ret))))))
theorem f20_calls : Sound Tryz.prog 20 45 f20 [.c1 4] := sound_of mixed Tryz.func20 rfl (by kernel_rfl) (by kernel_rfl) (by kernel_rfl)

def f34r0 : List SOper := [
 o 2 (.mv e)]
def f34r1 : List SOper := [
 o 5 (.mv (t 0)),
 o 6 (.byts (t 5)),
 o 3 (.mv (t 6))]
def f34r2 : List SOper := [
 o 4 (.mv (i 0))]
def f34r3 : List SOper := [
 o 7 (.mv (t 4)),
 o 8 (.mv (t 3)),
 o 9 (.len (t 8)),
 o 10 (.cmp .lss (t 7) (t 9))]
def f34r4 : List SOper := [
 o 13 (.mv (t 3)),
 o 14 (.mv (t 4)),
 o 15 (.ixs 1 (t 13) (t 14)),
 o 16 (.ld1 (t 15)),
 o 17 (.cmp .geq (t 16) (.const (.int .u8 97))),
 o 18 (.mv (t 17)),
 g 19 18 (.mv (t 3)),
 g 20 18 (.mv (t 4)),
 g 21 18 (.ixs 1 (t 19) (t 20)),
 g 22 18 (.ld1 (t 21)),
 g 23 18 (.cmp .leq (t 22) (.const (.int .u8 122))),
 o 24 (.pick (t 18) (t 23) (b false))]
def f34r5 : List SOper := [
 o 25 (.mv (t 3)),
 o 26 (.mv (t 4)),
 o 27 (.mv (t 3)),
 o 28 (.mv (t 4)),
 o 29 (.ixs 1 (t 27) (t 28)),
 o 30 (.ld1 (t 29)),
 o 31 (.ar .sub (t 30) (.const (.int .u8 32))),
 o 32 (.ixs 1 (t 25) (t 26)),
 q (.stb (t 32) (t 31))]
def f34r6 : List SOper := [
 o 11 (.mv (t 4)),
 o 12 (.ar .add (t 11) (i 1)),
 o 4 (.mv (t 12))]
def f34l7 : SCode := (.seq (.seq (.ops f34r3) (.cond (t 10) .skip (.exit 0))) (.seq (.block 1 (.seq (.ops f34r4) (.cond (t 24) (.ops f34r5) .skip))) (.ops f34r6)))
def f34r8 : List SOper := [
 o 33 (.mv (t 3)),
 o 34 (.bstr (t 33)),
 o 2 (.mv (t 34))]
def f34 : SCode := (.seq (.ops f34r0) (.seq (.ops f34r1) (.seq (.seq (.ops f34r2) (.block 0 (.loop f34l7))) (.seq (.ops f34r8) .ret))))
theorem f34_calls : Sound Tryz.prog 34 35 f34 [.t 2] := sound_of mixed Tryz.func34 rfl (by kernel_rfl) (by kernel_rfl) (by kernel_rfl)

def f35r0 : List SOper := [
 o 2 (.mv (i 0)),
 o 3 (.mv (i 0)),
 o 4 (.mv (b false))]
def f35r1 : List SOper := [
 o 5 (.mv (t 0))]
def f35r2 : List SOper := [
 o 7 (.cmp .eql (t 5) (.const (.string ⟨#[83, 69, 84]⟩))),
 o 6 (.mv (t 7))]
def f35r3 : List SOper := [
 o 2 (.mv (i 2)),
 o 3 (.mv (i 4)),
 o 4 (.mv (b true))]
def f35r4 : List SOper := [
 o 9 (.cmp .eql (t 5) (.const (.string ⟨#[71, 69, 84]⟩))),
 o 8 (.mv (t 9))]
def f35r5 : List SOper := [
 o 10 (.cmp .eql (t 5) (.const (.string ⟨#[84, 89, 80, 69]⟩))),
 o 8 (.mv (t 10))]
def f35r6 : List SOper := [
 o 11 (.cmp .eql (t 5) (.const (.string ⟨#[73, 78, 67, 82]⟩))),
 o 8 (.mv (t 11))]
def f35r7 : List SOper := [
 o 12 (.cmp .eql (t 5) (.const (.string ⟨#[68, 69, 67, 82]⟩))),
 o 8 (.mv (t 12))]
def f35r8 : List SOper := [
 o 13 (.cmp .eql (t 5) (.const (.string ⟨#[83, 84, 82, 76, 69, 78]⟩))),
 o 8 (.mv (t 13))]
def f35r9 : List SOper := [
 o 14 (.cmp .eql (t 5) (.const (.string ⟨#[80, 69, 82, 83, 73, 83, 84]⟩))),
 o 8 (.mv (t 14))]
def f35r10 : List SOper := [
 o 15 (.cmp .eql (t 5) (.const (.string ⟨#[80, 84, 84, 76]⟩))),
 o 8 (.mv (t 15))]
def f35r11 : List SOper := [
 o 2 (.mv (i 1)),
 o 3 (.mv (i 1)),
 o 4 (.mv (b true))]
def f35r12 : List SOper := [
 o 17 (.cmp .eql (t 5) (.const (.string ⟨#[68, 69, 76]⟩))),
 o 16 (.mv (t 17))]
def f35r13 : List SOper := [
 o 18 (.cmp .eql (t 5) (.const (.string ⟨#[69, 88, 73, 83, 84, 83]⟩))),
 o 16 (.mv (t 18))]
def f35r14 : List SOper := [
 o 19 (.cmp .eql (t 5) (.const (.string ⟨#[77, 71, 69, 84]⟩))),
 o 16 (.mv (t 19))]
def f35r15 : List SOper := [
 o 2 (.mv (i 1)),
 o 3 (.mv (i 65536)),
 o 4 (.mv (b true))]
def f35r16 : List SOper := [
 o 21 (.cmp .eql (t 5) (.const (.string ⟨#[77, 83, 69, 84]⟩))),
 o 20 (.mv (t 21))]
def f35r17 : List SOper := [
 o 2 (.mv (i 2)),
 o 3 (.mv (i 65536)),
 o 4 (.mv (b true))]
def f35r18 : List SOper := [
 o 23 (.cmp .eql (t 5) (.const (.string ⟨#[73, 78, 67, 82, 66, 89]⟩))),
 o 22 (.mv (t 23))]
def f35r19 : List SOper := [
 o 24 (.cmp .eql (t 5) (.const (.string ⟨#[65, 80, 80, 69, 78, 68]⟩))),
 o 22 (.mv (t 24))]
def f35r20 : List SOper := [
 o 25 (.cmp .eql (t 5) (.const (.string ⟨#[80, 69, 88, 80, 73, 82, 69]⟩))),
 o 22 (.mv (t 25))]
def f35r21 : List SOper := [
 o 2 (.mv (i 2)),
 o 3 (.mv (i 2)),
 o 4 (.mv (b true))]
def f35r22 : List SOper := [
 o 27 (.cmp .eql (t 5) (.const (.string ⟨#[75, 69, 89, 83]⟩))),
 o 26 (.mv (t 27))]
def f35r23 : List SOper := [
 o 28 (.cmp .eql (t 5) (.const (.string ⟨#[68, 66, 83, 73, 90, 69]⟩))),
 o 26 (.mv (t 28))]
def f35r24 : List SOper := [
 o 29 (.cmp .eql (t 5) (.const (.string ⟨#[70, 76, 85, 83, 72, 65, 76, 76]⟩))),
 o 26 (.mv (t 29))]
def f35r25 : List SOper := [
 o 2 (.mv (i 0)),
 o 3 (.mv (i 0)),
 o 4 (.mv (b true))]
def f35r26 : List SOper := [
 o 2 (.mv (i 0)),
 o 3 (.mv (i 0)),
 o 4 (.mv (b false))]
def f35 : SCode := (.seq (.ops f35r0) (.seq (.seq (.ops f35r1) (.block 0 (.seq (.ops f35r2) (.cond (t 6) (.seq (.ops f35r3) .ret) (.seq (.seq (.ops f35r4) (.cond (t 8) .skip (.seq (.ops f35r5) (.cond (t 8) .skip (.seq (.ops f35r6) (.cond (t 8) .skip (.seq (.ops f35r7) (.cond (t 8) .skip (.seq (.ops f35r8) (.cond (t 8) .skip (.seq (.ops f35r9) (.cond (t 8) .skip (.ops f35r10))))))))))))) (.cond (t 8) (.seq (.ops f35r11) .ret) (.seq (.seq (.ops f35r12) (.cond (t 16) .skip (.seq (.ops f35r13) (.cond (t 16) .skip (.ops f35r14))))) (.cond (t 16) (.seq (.ops f35r15) .ret) (.seq (.ops f35r16) (.cond (t 20) (.seq (.ops f35r17) .ret) (.seq (.seq (.ops f35r18) (.cond (t 22) .skip (.seq (.ops f35r19) (.cond (t 22) .skip (.ops f35r20))))) (.cond (t 22) (.seq (.ops f35r21) .ret) (.seq (.seq (.ops f35r22) (.cond (t 26) .skip (.seq (.ops f35r23) (.cond (t 26) .skip (.ops f35r24))))) (.cond (t 26) (.seq (.ops f35r25) .ret) .skip)))))))))))))) (.seq (.ops f35r26) .ret)))
theorem f35_calls : Sound Tryz.prog 35 30 f35 [.t 2, .t 3, .t 4] := sound_of mixed Tryz.func35 rfl (by kernel_rfl) (by kernel_rfl) (by kernel_rfl)

def f36r0 : List SOper := [
 o 6 (.mv (b false))]
def f36r1 : List SOper := [
 o 7 (.mv (t 0)),
 o 8 (.nilck (t 7)),
 o 9 (.fa 2 (t 8)),
 o 10 (.ld1 (t 9)),
 o 11 (.len (t 10)),
 o 12 (.mv (t 1)),
 o 13 (.cmp .lss (t 11) (t 12)),
 o 14 (.mv (t 13)),
 n 15 14 (.mv (t 0)),
 n 16 14 (.nilck (t 15)),
 n 17 14 (.fa 2 (t 16)),
 n 18 14 (.ld1 (t 17)),
 n 19 14 (.len (t 18)),
 n 20 14 (.mv (t 2)),
 n 21 14 (.cmp .gtr (t 19) (t 20)),
 o 22 (.pick (t 14) (b true) (t 21))]
def f36r2 : List SOper := [
 o 23 (.mv (t 0)),
 o 24 (.nilck (t 23)),
 o 25 (.fa 4 (t 24)),
 q (.st 1 (t 25) (.const (.string ⟨#[69, 82, 82, 32, 97, 114, 103, 115]⟩)))]
def f36r3 : List SOper := [
 o 6 (.mv (b false))]
def f36r4 : List SOper := [
 o 6 (.mv (b true))]
def f36 : SCode := (.seq (.ops f36r0) (.seq (.seq (.ops f36r1) (.cond (t 22) (.seq (.ops f36r2) (.seq (.ops f36r3) .ret)) .skip)) (.seq (.ops f36r4) .ret)))
theorem f36_calls : Sound Tryz.prog 36 26 f36 [.t 6] := sound_of mixed Tryz.func36 rfl (by kernel_rfl) (by kernel_rfl) (by kernel_rfl)

def f37r0 : List SOper := [
 o 2 (.new [(.int .i64 0), (.int .i64 0), (.string ⟨#[]⟩), (.slice none 0 0)])]
def f37r1 : List SOper := [
 o 3 (.mv (t 0)),
 o 4 (.build [(.int .i64 0), (.int .i64 0), (.string ⟨#[]⟩), (.slice none 0 0)] [(0, 1), (2, 1)] [(i 2), (t 3)]),
 q (.st 4 (t 2) (t 4))]
def f37 : SCode := (.seq (.ops f37r0) (.seq (.ops f37r1) .ret))
theorem f37_calls : Sound Tryz.prog 37 5 f37 [.cn 2 4] := sound_of mixed Tryz.func37 rfl (by kernel_rfl) (by kernel_rfl) (by kernel_rfl)

def f38r0 : List SOper := [
 o 4 (.new [(.int .i64 0), (.int .i64 0), (.string ⟨#[]⟩), (.slice none 0 0)])]
def f38r1 : List SOper := [
 o 9 (.mv (t 1))]
def f38r2 : List SOper := [
 o 11 (.cmp .eql (t 9) (.const (.string ⟨#[83, 69, 84]⟩))),
 o 10 (.mv (t 11))]
def f38r3 : List SOper := [
 o 12 (.mv (t 0)),
 o 13 (.call 82 [(t 12)]),
 q (.st 4 (t 4) (t 13))]
def f38r4 : List SOper := [
 o 15 (.cmp .eql (t 9) (.const (.string ⟨#[71, 69, 84]⟩))),
 o 14 (.mv (t 15))]
def f38r5 : List SOper := [
 o 16 (.cmp .eql (t 9) (.const (.string ⟨#[83, 84, 82, 76, 69, 78]⟩))),
 o 14 (.mv (t 16))]
def f38r6 : List SOper := [
 o 17 (.cmp .eql (t 9) (.const (.string ⟨#[65, 80, 80, 69, 78, 68]⟩))),
 o 14 (.mv (t 17))]
def f38r7 : List SOper := [
 o 18 (.mv (t 0)),
 o 19 (.mv (t 1)),
 o 20 (.call 83 [(t 18), (t 19)]),
 q (.st 4 (t 4) (t 20))]
def f38r8 : List SOper := [
 o 22 (.cmp .eql (t 9) (.const (.string ⟨#[68, 69, 76]⟩))),
 o 21 (.mv (t 22))]
def f38r9 : List SOper := [
 o 23 (.cmp .eql (t 9) (.const (.string ⟨#[69, 88, 73, 83, 84, 83]⟩))),
 o 21 (.mv (t 23))]
def f38r10 : List SOper := [
 o 24 (.mv (t 0)),
 o 25 (.mv (t 1)),
 o 26 (.cmp .eql (t 25) (.const (.string ⟨#[68, 69, 76]⟩))),
 o 27 (.call 84 [(t 24), (t 26)]),
 q (.st 4 (t 4) (t 27))]
def f38r11 : List SOper := [
 o 29 (.cmp .eql (t 9) (.const (.string ⟨#[84, 89, 80, 69]⟩))),
 o 28 (.mv (t 29))]
def f38p12 : List SOper := [
 o 31 (.mv (t 0)),
 o 32 (.nilck (t 31)),
 o 33 (.fa 0 (t 32)),
 o 34 (.ld1 (t 33)),
 o 35 (.mv (t 0)),
 o 36 (.nilck (t 35)),
 o 37 (.fa 2 (t 36)),
 o 38 (.ld1 (t 37)),
 o 39 (.ixs 1 (t 38) (i 0)),
 o 40 (.ld1 (t 39)),
 o 41 (.mv (t 0)),
 o 42 (.nilck (t 41)),
 o 43 (.fa 1 (t 42)),
 o 44 (.ld1 (t 43))]
def f38r12 : List SOper := [
 o 45 (.callq 85 [(t 34), (t 40), (t 44)]),
 o 30 (.mv (t 45)),
 o 46 (.ext (t 30) 0),
 o 47 (.ext (t 30) 1),
 o 5 (.new [(.int .i64 0), (.string ⟨#[]⟩), (.slice none 0 0), (.slice none 0 0), (.slice none 0 0), (.bool false), (.int .i64 0)]),
 q (.st 7 (t 5) (t 46)),
 o 6 (.mv (t 47))]
def f38s12 : List SOper := [
 o 5 (.new [(.int .i64 0), (.string ⟨#[]⟩), (.slice none 0 0), (.slice none 0 0), (.slice none 0 0), (.bool false), (.int .i64 0)]),
 o 45 (.callq 85 [(t 34), (t 40), (t 44)]),
 o 30 (.mv (t 45)),
 o 46 (.ext (t 30) 0),
 o 47 (.ext (t 30) 1),
 q (.st 7 (t 5) (t 46)),
 o 6 (.mv (t 47))]
def f38r13 : List SOper := [
 o 48 (.bslice [(.string ⟨#[]⟩), (.string ⟨#[]⟩), (.string ⟨#[]⟩), (.string ⟨#[]⟩), (.string ⟨#[]⟩), (.string ⟨#[]⟩)] 6 [(0, 1), (1, 1), (2, 1), (3, 1), (4, 1), (5, 1)] [(.const (.string ⟨#[110, 111, 110, 101]⟩)), (.const (.string ⟨#[115, 116, 114, 105, 110, 103]⟩)), (.const (.string ⟨#[104, 97, 115, 104]⟩)), (.const (.string ⟨#[108, 105, 115, 116]⟩)), (.const (.string ⟨#[115, 101, 116]⟩)), (.const (.string ⟨#[122, 115, 101, 116]⟩))]),
 o 49 (.fa 0 (t 5)),
 o 50 (.ld1 (t 49)),
 o 51 (.ixs 1 (t 48) (t 50)),
 o 52 (.ld1 (t 51)),
 o 53 (.call 86 [(t 52)]),
 q (.st 4 (t 4) (t 53))]
def f38r14 : List SOper := [
 o 55 (.cmp .eql (t 9) (.const (.string ⟨#[73, 78, 67, 82, 66, 89]⟩))),
 o 54 (.mv (t 55))]
def f38r15 : List SOper := [
 o 57 (.mv (t 0)),
 o 58 (.call 87 [(t 57), (i 1)]),
 o 56 (.mv (t 58)),
 o 59 (.ext (t 56) 0),
 o 60 (.ext (t 56) 1),
 o 7 (.mv (t 59)),
 o 8 (.mv (t 60))]
def f38r16 : List SOper := [
 o 61 (.mv (t 8)),
 o 62 (.un .not (t 61))]
def f38r17 : List SOper := [
 o 63 (.build [(.int .i64 0), (.int .i64 0), (.string ⟨#[]⟩), (.slice none 0 0)] [] []),
 q (.st 4 (t 4) (t 63))]
def f38r18 : List SOper := [
 o 64 (.mv (t 0)),
 o 65 (.mv (t 7)),
 o 66 (.call 88 [(t 64), (t 65)]),
 q (.st 4 (t 4) (t 66))]
def f38r19 : List SOper := [
 o 68 (.cmp .eql (t 9) (.const (.string ⟨#[73, 78, 67, 82]⟩))),
 o 67 (.mv (t 68))]
def f38r20 : List SOper := [
 o 69 (.mv (t 0)),
 o 70 (.call 88 [(t 69), (i 1)]),
 q (.st 4 (t 4) (t 70))]
def f38r21 : List SOper := [
 o 72 (.cmp .eql (t 9) (.const (.string ⟨#[68, 69, 67, 82]⟩))),
 o 71 (.mv (t 72))]
def f38r22 : List SOper := [
 o 73 (.mv (t 0)),
 o 74 (.call 88 [(t 73), (i (-1))]),
 q (.st 4 (t 4) (t 74))]
def f38r23 : List SOper := [
 o 76 (.cmp .eql (t 9) (.const (.string ⟨#[77, 71, 69, 84]⟩))),
 o 75 (.mv (t 76))]
def f38r24 : List SOper := [
 o 77 (.cmp .eql (t 9) (.const (.string ⟨#[77, 83, 69, 84]⟩))),
 o 75 (.mv (t 77))]
def f38r25 : List SOper := [
 o 78 (.mv (t 0)),
 o 79 (.mv (t 1)),
 o 80 (.cmp .eql (t 79) (.const (.string ⟨#[77, 83, 69, 84]⟩))),
 o 81 (.call 89 [(t 78), (t 80)]),
 q (.st 4 (t 4) (t 81))]
def f38r26 : List SOper := [
 o 83 (.cmp .eql (t 9) (.const (.string ⟨#[80, 69, 88, 80, 73, 82, 69]⟩))),
 o 82 (.mv (t 83))]
def f38r27 : List SOper := [
 o 84 (.cmp .eql (t 9) (.const (.string ⟨#[80, 69, 82, 83, 73, 83, 84]⟩))),
 o 82 (.mv (t 84))]
def f38r28 : List SOper := [
 o 85 (.cmp .eql (t 9) (.const (.string ⟨#[80, 84, 84, 76]⟩))),
 o 82 (.mv (t 85))]
def f38r29 : List SOper := [
 o 86 (.mv (t 0)),
 o 87 (.mv (t 1)),
 o 88 (.call 90 [(t 86), (t 87)]),
 q (.st 4 (t 4) (t 88))]
def f38r30 : List SOper := [
 o 89 (.mv (t 0)),
 o 90 (.mv (t 1)),
 o 91 (.call 91 [(t 89), (t 90)]),
 q (.st 4 (t 4) (t 91))]
def f38 : SCode := (.seq (.ops f38r0) (.seq (.seq (.ops f38r1) (.block 0 (.seq (.ops f38r2) (.cond (t 10) (.seq (.ops f38r3) .ret) (.seq (.seq (.ops f38r4) (.cond (t 14) .skip (.seq (.ops f38r5) (.cond (t 14) .skip (.ops f38r6))))) (.cond (t 14) (.seq (.ops f38r7) .ret) (.seq (.seq (.ops f38r8) (.cond (t 21) .skip (.ops f38r9))) (.cond (t 21) (.seq (.ops f38r10) .ret) (.seq (.ops f38r11) (.cond (t 28) (.seq (.two f38p12 f38r12 f38s12) (.seq (.ops f38r13) .ret)) (.seq (.ops f38r14) (.cond (t 54) (.seq (.ops f38r15) (.seq (.seq (.ops f38r16) (.cond (t 62) (.seq (.ops f38r17) .ret) .skip)) (.seq (.ops f38r18) .ret))) (.seq (.ops f38r19) (.cond (t 67) (.seq (.ops f38r20) .ret) (.seq (.ops f38r21) (.cond (t 71) (.seq (.ops f38r22) .ret) (.seq (.seq (.ops f38r23) (.cond (t 75) .skip (.ops f38r24))) (.cond (t 75) (.seq (.ops f38r25) .ret) (.seq (.seq (.ops f38r26) (.cond (t 82) .skip (.seq (.ops f38r27) (.cond (t 82) .skip (.ops f38r28))))) (.cond (t 82) (.seq (.ops f38r29) .ret) .skip)))))))))))))))))))) (.seq (.ops f38r30) .ret)))
theorem f38_calls : Sound Tryz.prog 38 92 f38 [.cn 4 4] := sound_of mixed Tryz.func38 rfl (by kernel_rfl) (by kernel_rfl) (by kernel_rfl)

def f84r0 : List SOper := [
 o 4 (.new [(.int .i64 0), (.int .i64 0), (.string ⟨#[]⟩), (.slice none 0 0)])]
def f84r1 : List SOper := [
 o 5 (.mv (i 0))]
def f84r2 : List SOper := [
 o 6 (.mv (i 0))]
def f84r3 : List SOper := [
 o 9 (.mv (t 6)),
 o 10 (.mv (t 0)),
 o 11 (.nilck (t 10)),
 o 12 (.fa 2 (t 11)),
 o 13 (.ld1 (t 12)),
 o 14 (.len (t 13)),
 o 15 (.cmp .lss (t 9) (t 14))]
def f84p4 : List SOper := [
 o 19 (.mv (t 0)),
 o 20 (.nilck (t 19)),
 o 21 (.fa 0 (t 20)),
 o 22 (.ld1 (t 21)),
 o 23 (.mv (t 0)),
 o 24 (.nilck (t 23)),
 o 25 (.fa 2 (t 24)),
 o 26 (.ld1 (t 25)),
 o 27 (.mv (t 6)),
 o 28 (.ixs 1 (t 26) (t 27)),
 o 29 (.ld1 (t 28)),
 o 30 (.mv (t 0)),
 o 31 (.nilck (t 30)),
 o 32 (.fa 1 (t 31)),
 o 33 (.ld1 (t 32))]
def f84r4 : List SOper := [
 o 34 (.callq 85 [(t 22), (t 29), (t 33)]),
 o 18 (.mv (t 34)),
 o 35 (.ext (t 18) 0),
 o 36 (.ext (t 18) 1),
 o 7 (.new [(.int .i64 0), (.string ⟨#[]⟩), (.slice none 0 0), (.slice none 0 0), (.slice none 0 0), (.bool false), (.int .i64 0)]),
 q (.st 7 (t 7) (t 35)),
 o 8 (.mv (t 36))]
def f84s4 : List SOper := [
 o 7 (.new [(.int .i64 0), (.string ⟨#[]⟩), (.slice none 0 0), (.slice none 0 0), (.slice none 0 0), (.bool false), (.int .i64 0)]),
 o 34 (.callq 85 [(t 22), (t 29), (t 33)]),
 o 18 (.mv (t 34)),
 o 35 (.ext (t 18) 0),
 o 36 (.ext (t 18) 1),
 q (.st 7 (t 7) (t 35)),
 o 8 (.mv (t 36))]
def f84r5 : List SOper := [
 o 37 (.mv (t 8)),
 o 38 (.un .not (t 37)),
 o 39 (.mv (t 38)),
 n 40 39 (.mv (t 1)),
 n 41 39 (.mv (t 40)),
 g 42 41 (.mv (t 0)),
 g 43 41 (.mv (t 0)),
 g 44 41 (.nilck (t 43)),
 g 45 41 (.fa 2 (t 44)),
 g 46 41 (.ld1 (t 45)),
 g 47 41 (.mv (t 6)),
 g 48 41 (.ixs 1 (t 46) (t 47)),
 g 49 41 (.ld1 (t 48)),
 g 50 41 (.mv (t 6)),
 g 51 41 (.call 142 [(t 42), (t 49), (t 50), (i 1)]),
 n 52 39 (.pick (t 41) (t 51) (b false)),
 o 53 (.pick (t 39) (b true) (t 52))]
def f84r6 : List SOper := [
 o 54 (.mv (t 5)),
 o 55 (.ar .add (t 54) (i 1)),
 o 5 (.mv (t 55))]
def f84r7 : List SOper := [
 o 56 (.mv (t 1))]
def f84r8 : List SOper := [
 o 57 (.mv (t 0)),
 o 58 (.mv (t 0)),
 o 59 (.nilck (t 58)),
 o 60 (.fa 3 (t 59)),
 o 61 (.ld1 (t 60)),
 o 62 (.mv (t 0)),
 o 63 (.nilck (t 62)),
 o 64 (.fa 2 (t 63)),
 o 65 (.ld1 (t 64)),
 o 66 (.mv (t 6)),
 o 67 (.ixs 1 (t 65) (t 66)),
 o 68 (.ld1 (t 67)),
 o 69 (.build [(.int .i64 0), (.string ⟨#[]⟩), (.string ⟨#[]⟩), (.string ⟨#[]⟩), (.int .i64 0)] [(0, 1), (1, 1)] [(i 1), (t 68)]),
 o 70 (.bslice [(.int .i64 0), (.string ⟨#[]⟩), (.string ⟨#[]⟩), (.string ⟨#[]⟩), (.int .i64 0)] 1 [(0, 5)] [(t 69)]),
 o 71 (.app 5 64 [(.int .i64 0), (.string ⟨#[]⟩), (.string ⟨#[]⟩), (.string ⟨#[]⟩), (.int .i64 0)] (t 61) (t 70)),
 o 72 (.nilck (t 57)),
 o 73 (.fa 3 (t 72)),
 q (.st 1 (t 73) (t 71))]
def f84r9 : List SOper := [
 o 16 (.mv (t 6)),
 o 17 (.ar .add (t 16) (i 1)),
 o 6 (.mv (t 17))]
def f84l10 : SCode := (.seq (.seq (.ops f84r3) (.cond (t 15) .skip (.exit 0))) (.seq (.block 1 (.seq (.two f84p4 f84r4 f84s4) (.seq (.seq (.ops f84r5) (.cond (t 53) (.exit 1) .skip)) (.seq (.ops f84r6) (.seq (.ops f84r7) (.cond (t 56) (.ops f84r8) .skip)))))) (.ops f84r9)))
def f84r11 : List SOper := [
 o 74 (.mv (t 5)),
 o 75 (.call 140 [(t 74)]),
 q (.st 4 (t 4) (t 75))]
def f84 : SCode := (.seq (.ops f84r0) (.seq (.ops f84r1) (.seq (.seq (.ops f84r2) (.block 0 (.loop f84l10))) (.seq (.ops f84r11) .ret))))
theorem f84_calls : Sound Tryz.prog 84 76 f84 [.cn 4 4] := sound_of mixed Tryz.func84 rfl (by kernel_rfl) (by kernel_rfl) (by kernel_rfl)

def f86r0 : List SOper := [
 o 2 (.new [(.int .i64 0), (.int .i64 0), (.string ⟨#[]⟩), (.slice none 0 0)])]
def f86r1 : List SOper := [
 o 3 (.mv (t 0)),
 o 4 (.build [(.int .i64 0), (.int .i64 0), (.string ⟨#[]⟩), (.slice none 0 0)] [(0, 1), (2, 1)] [(i 1), (t 3)]),
 q (.st 4 (t 2) (t 4))]
def f86 : SCode := (.seq (.ops f86r0) (.seq (.ops f86r1) .ret))
theorem f86_calls : Sound Tryz.prog 86 5 f86 [.cn 2 4] := sound_of mixed Tryz.func86 rfl (by kernel_rfl) (by kernel_rfl) (by kernel_rfl)

def f89r0 : List SOper := [
 o 4 (.new [(.int .i64 0), (.int .i64 0), (.string ⟨#[]⟩), (.slice none 0 0)])]
def f89r1 : List SOper := [
 o 10 (.build [(.int .i64 0), (.int .i64 0), (.string ⟨#[]⟩), (.slice none 0 0)] [(0, 1)] [(i 5)]),
 o 5 (.new [(.int .i64 0), (.int .i64 0), (.string ⟨#[]⟩), (.slice none 0 0)]),
 q (.st 4 (t 5) (t 10))]
def f89r2 : List SOper := [
 o 11 (.mv (t 1)),
 o 12 (.mv (t 11)),
 g 13 12 (.mv (t 0)),
 g 14 12 (.nilck (t 13)),
 g 15 12 (.fa 2 (t 14)),
 g 16 12 (.ld1 (t 15)),
 g 17 12 (.len (t 16)),
 g 18 12 (.rem (t 17) (i 2)),
 g 19 12 (.cmp .eql (t 18) (i 1)),
 o 20 (.pick (t 12) (t 19) (b false))]
def f89r3 : List SOper := [
 o 21 (.mv (t 0)),
 o 22 (.nilck (t 21)),
 o 23 (.fa 4 (t 22)),
 q (.st 1 (t 23) (.const (.string ⟨#[69, 82, 82, 32, 97, 114, 103, 115]⟩)))]
def f89r4 : List SOper := [
 o 24 (.ldn 4 (t 5)),
 q (.st 4 (t 4) (t 24))]
def f89r5 : List SOper := [
 o 6 (.mv (i 0))]
def f89r6 : List SOper := [
 o 25 (.mv (t 6)),
 o 26 (.mv (t 0)),
 o 27 (.nilck (t 26)),
 o 28 (.fa 2 (t 27)),
 o 29 (.ld1 (t 28)),
 o 30 (.len (t 29)),
 o 31 (.cmp .lss (t 25) (t 30))]
def f89r7 : List SOper := [
 o 34 (.mv (t 1)),
 o 35 (.un .not (t 34))]
def f89p8 : List SOper := [
 o 37 (.mv (t 0)),
 o 38 (.nilck (t 37)),
 o 39 (.fa 0 (t 38)),
 o 40 (.ld1 (t 39)),
 o 41 (.mv (t 0)),
 o 42 (.nilck (t 41)),
 o 43 (.fa 2 (t 42)),
 o 44 (.ld1 (t 43)),
 o 45 (.mv (t 6)),
 o 46 (.ixs 1 (t 44) (t 45)),
 o 47 (.ld1 (t 46)),
 o 48 (.mv (t 0)),
 o 49 (.nilck (t 48)),
 o 50 (.fa 1 (t 49)),
 o 51 (.ld1 (t 50))]
def f89r8 : List SOper := [
 o 52 (.callq 85 [(t 40), (t 47), (t 51)]),
 o 36 (.mv (t 52)),
 o 53 (.ext (t 36) 0),
 o 54 (.ext (t 36) 1),
 o 7 (.new [(.int .i64 0), (.string ⟨#[]⟩), (.slice none 0 0), (.slice none 0 0), (.slice none 0 0), (.bool false), (.int .i64 0)]),
 q (.st 7 (t 7) (t 53)),
 o 8 (.mv (t 54))]
def f89s8 : List SOper := [
 o 7 (.new [(.int .i64 0), (.string ⟨#[]⟩), (.slice none 0 0), (.slice none 0 0), (.slice none 0 0), (.bool false), (.int .i64 0)]),
 o 52 (.callq 85 [(t 40), (t 47), (t 51)]),
 o 36 (.mv (t 52)),
 o 53 (.ext (t 36) 0),
 o 54 (.ext (t 36) 1),
 q (.st 7 (t 7) (t 53)),
 o 8 (.mv (t 54))]
def f89r9 : List SOper := [
 o 55 (.build [(.int .i64 0), (.int .i64 0), (.string ⟨#[]⟩), (.slice none 0 0)] [] []),
 o 9 (.new [(.int .i64 0), (.int .i64 0), (.string ⟨#[]⟩), (.slice none 0 0)]),
 q (.st 4 (t 9) (t 55))]
def f89r10 : List SOper := [
 o 56 (.mv (t 8)),
 o 57 (.mv (t 56)),
 g 58 57 (.fa 0 (t 7)),
 g 59 57 (.ld1 (t 58)),
 g 60 57 (.cmp .eql (t 59) (i 1)),
 o 61 (.pick (t 57) (t 60) (b false))]
def f89r11 : List SOper := [
 o 62 (.fa 1 (t 7)),
 o 63 (.ld1 (t 62)),
 o 64 (.call 141 [(t 63)]),
 q (.st 4 (t 9) (t 64))]
def f89r12 : List SOper := [
 o 65 (.fa 3 (t 5)),
 o 66 (.ld1 (t 65)),
 o 67 (.ldn 4 (t 9)),
 o 68 (.bslice [(.int .i64 0), (.int .i64 0), (.string ⟨#[]⟩), (.slice none 0 0)] 1 [(0, 4)] [(t 67)]),
 o 69 (.app 4 56 [(.int .i64 0), (.int .i64 0), (.string ⟨#[]⟩), (.slice none 0 0)] (t 66) (t 68)),
 o 70 (.fa 3 (t 5)),
 q (.st 1 (t 70) (t 69))]
def f89r13 : List SOper := [
 o 71 (.mv (t 0)),
 o 72 (.nilck (t 71)),
 o 73 (.fa 2 (t 72)),
 o 74 (.ld1 (t 73)),
 o 75 (.mv (t 6)),
 o 76 (.ixs 1 (t 74) (t 75)),
 o 77 (.ld1 (t 76)),
 o 78 (.lens (t 77)),
 o 79 (.cmp .gtr (t 78) (i 1048576)),
 o 80 (.mv (t 79)),
 n 81 80 (.mv (t 0)),
 n 82 80 (.nilck (t 81)),
 n 83 80 (.fa 2 (t 82)),
 n 84 80 (.ld1 (t 83)),
 n 85 80 (.mv (t 6)),
 n 86 80 (.ar .add (t 85) (i 1)),
 n 87 80 (.ixs 1 (t 84) (t 86)),
 n 88 80 (.ld1 (t 87)),
 n 89 80 (.lens (t 88)),
 n 90 80 (.cmp .gtr (t 89) (i 1048576)),
 o 91 (.pick (t 80) (b true) (t 90))]
def f89r14 : List SOper := [
 o 92 (.mv (t 0)),
 o 93 (.nilck (t 92)),
 o 94 (.fa 4 (t 93)),
 q (.st 1 (t 94) (.const (.string ⟨#[69, 82, 82, 32, 108, 111, 110, 103]⟩)))]
def f89r15 : List SOper := [
 o 95 (.ldn 4 (t 5)),
 q (.st 4 (t 4) (t 95))]
def f89r16 : List SOper := [
 o 96 (.mv (t 0)),
 o 97 (.mv (t 0)),
 o 98 (.nilck (t 97)),
 o 99 (.fa 2 (t 98)),
 o 100 (.ld1 (t 99)),
 o 101 (.mv (t 6)),
 o 102 (.ixs 1 (t 100) (t 101)),
 o 103 (.ld1 (t 102)),
 o 104 (.mv (t 6)),
 o 105 (.call 142 [(t 96), (t 103), (t 104), (i 2)]),
 o 106 (.un .not (t 105))]
def f89r17 : List SOper := [
 o 107 (.mv (t 0)),
 o 108 (.mv (t 0)),
 o 109 (.nilck (t 108)),
 o 110 (.fa 2 (t 109)),
 o 111 (.ld1 (t 110)),
 o 112 (.mv (t 6)),
 o 113 (.ixs 1 (t 111) (t 112)),
 o 114 (.ld1 (t 113)),
 o 115 (.call 144 [(t 107), (t 114)])]
def f89r18 : List SOper := [
 o 116 (.mv (t 0)),
 o 117 (.mv (t 0)),
 o 118 (.nilck (t 117)),
 o 119 (.fa 3 (t 118)),
 o 120 (.ld1 (t 119)),
 o 121 (.mv (t 0)),
 o 122 (.nilck (t 121)),
 o 123 (.fa 2 (t 122)),
 o 124 (.ld1 (t 123)),
 o 125 (.mv (t 6)),
 o 126 (.ixs 1 (t 124) (t 125)),
 o 127 (.ld1 (t 126)),
 o 128 (.mv (t 0)),
 o 129 (.nilck (t 128)),
 o 130 (.fa 2 (t 129)),
 o 131 (.ld1 (t 130)),
 o 132 (.mv (t 6)),
 o 133 (.ar .add (t 132) (i 1)),
 o 134 (.ixs 1 (t 131) (t 133)),
 o 135 (.ld1 (t 134)),
 o 136 (.build [(.int .i64 0), (.string ⟨#[]⟩), (.string ⟨#[]⟩), (.string ⟨#[]⟩), (.int .i64 0)] [(0, 1), (1, 1), (3, 1)] [(i 2), (t 127), (t 135)]),
 o 137 (.bslice [(.int .i64 0), (.string ⟨#[]⟩), (.string ⟨#[]⟩), (.string ⟨#[]⟩), (.int .i64 0)] 1 [(0, 5)] [(t 136)]),
 o 138 (.app 5 64 [(.int .i64 0), (.string ⟨#[]⟩), (.string ⟨#[]⟩), (.string ⟨#[]⟩), (.int .i64 0)] (t 120) (t 137)),
 o 139 (.nilck (t 116)),
 o 140 (.fa 3 (t 139)),
 q (.st 1 (t 140) (t 138))]
def f89r19 : List SOper := [
 o 141 (.mv (t 6)),
 o 142 (.ar .add (t 141) (i 1)),
 o 6 (.mv (t 142))]
def f89r20 : List SOper := [
 o 32 (.mv (t 6)),
 o 33 (.ar .add (t 32) (i 1)),
 o 6 (.mv (t 33))]
def f89l21 : SCode := (.seq (.seq (.ops f89r6) (.cond (t 31) .skip (.exit 0))) (.seq (.block 1 (.seq (.seq (.ops f89r7) (.cond (t 35) (.seq (.two f89p8 f89r8 f89s8) (.seq (.ops f89r9) (.seq (.seq (.ops f89r10) (.cond (t 61) (.ops f89r11) .skip)) (.seq (.ops f89r12) (.exit 1))))) .skip)) (.seq (.seq (.ops f89r13) (.cond (t 91) (.seq (.ops f89r14) (.seq (.ops f89r15) .ret)) .skip)) (.seq (.seq (.ops f89r16) (.cond (t 106) (.ops f89r17) .skip)) (.seq (.ops f89r18) (.ops f89r19)))))) (.ops f89r20)))
def f89r22 : List SOper := [
 o 143 (.mv (t 1))]
def f89r23 : List SOper := [
 o 144 (.call 86 [(.const (.string ⟨#[79, 75]⟩))]),
 q (.st 4 (t 4) (t 144))]
def f89r24 : List SOper := [
 o 145 (.ldn 4 (t 5)),
 q (.st 4 (t 4) (t 145))]
def f89 : SCode := (.seq (.ops f89r0) (.seq (.ops f89r1) (.seq (.seq (.ops f89r2) (.cond (t 20) (.seq (.ops f89r3) (.seq (.ops f89r4) .ret)) .skip)) (.seq (.seq (.ops f89r5) (.block 0 (.loop f89l21))) (.seq (.seq (.ops f89r22) (.cond (t 143) (.seq (.ops f89r23) .ret) .skip)) (.seq (.ops f89r24) .ret))))))
theorem f89_calls : Sound Tryz.prog 89 146 f89 [.cn 4 4] := sound_of mixed Tryz.func89 rfl (by kernel_rfl) (by kernel_rfl) (by kernel_rfl)

def f91r0 : List SOper := [
 o 4 (.new [(.int .i64 0), (.int .i64 0), (.string ⟨#[]⟩), (.slice none 0 0)])]
def f91r1 : List SOper := [
 o 9 (.mv (t 0)),
 o 10 (.nilck (t 9)),
 o 11 (.fa 0 (t 10)),
 o 12 (.ld1 (t 11)),
 o 13 (.mv (t 0)),
 o 14 (.nilck (t 13)),
 o 15 (.fa 1 (t 14)),
 o 16 (.ld1 (t 15)),
 o 17 (.call 145 [(t 12), (t 16)]),
 o 5 (.mv (t 17))]
def f91r2 : List SOper := [
 o 18 (.mv (t 1)),
 o 19 (.cmp .eql (t 18) (.const (.string ⟨#[68, 66, 83, 73, 90, 69]⟩)))]
def f91r3 : List SOper := [
 o 20 (.mv (t 5)),
 o 21 (.len (t 20)),
 o 22 (.call 140 [(t 21)]),
 q (.st 4 (t 4) (t 22))]
def f91r4 : List SOper := [
 o 23 (.mv (t 1)),
 o 24 (.cmp .eql (t 23) (.const (.string ⟨#[70, 76, 85, 83, 72, 65, 76, 76]⟩)))]
def f91r5 : List SOper := [
 o 6 (.mv (i 0))]
def f91r6 : List SOper := [
 o 25 (.mv (t 6)),
 o 26 (.mv (t 0)),
 o 27 (.nilck (t 26)),
 o 28 (.fa 0 (t 27)),
 o 29 (.ld1 (t 28)),
 o 30 (.len (t 29)),
 o 31 (.cmp .lss (t 25) (t 30))]
def f91r7 : List SOper := [
 o 34 (.mv (t 0)),
 o 35 (.mv (t 0)),
 o 36 (.nilck (t 35)),
 o 37 (.fa 3 (t 36)),
 o 38 (.ld1 (t 37)),
 o 39 (.mv (t 0)),
 o 40 (.nilck (t 39)),
 o 41 (.fa 0 (t 40)),
 o 42 (.ld1 (t 41)),
 o 43 (.mv (t 6)),
 o 44 (.ixs 8 (t 42) (t 43)),
 o 45 (.fa 0 (t 44)),
 o 46 (.ld1 (t 45)),
 o 47 (.build [(.int .i64 0), (.string ⟨#[]⟩), (.string ⟨#[]⟩), (.string ⟨#[]⟩), (.int .i64 0)] [(0, 1), (1, 1)] [(i 1), (t 46)]),
 o 48 (.bslice [(.int .i64 0), (.string ⟨#[]⟩), (.string ⟨#[]⟩), (.string ⟨#[]⟩), (.int .i64 0)] 1 [(0, 5)] [(t 47)]),
 o 49 (.app 5 64 [(.int .i64 0), (.string ⟨#[]⟩), (.string ⟨#[]⟩), (.string ⟨#[]⟩), (.int .i64 0)] (t 38) (t 48)),
 o 50 (.nilck (t 34)),
 o 51 (.fa 3 (t 50)),
 q (.st 1 (t 51) (t 49))]
def f91r8 : List SOper := [
 o 32 (.mv (t 6)),
 o 33 (.ar .add (t 32) (i 1)),
 o 6 (.mv (t 33))]
def f91l9 : SCode := (.seq (.seq (.ops f91r6) (.cond (t 31) .skip (.exit 0))) (.seq (.block 1 (.ops f91r7)) (.ops f91r8)))
def f91r10 : List SOper := [
 o 52 (.call 86 [(.const (.string ⟨#[79, 75]⟩))]),
 q (.st 4 (t 4) (t 52))]
def f91r11 : List SOper := [
 o 53 (.build [(.int .i64 0), (.int .i64 0), (.string ⟨#[]⟩), (.slice none 0 0)] [(0, 1)] [(i 5)]),
 o 7 (.new [(.int .i64 0), (.int .i64 0), (.string ⟨#[]⟩), (.slice none 0 0)]),
 q (.st 4 (t 7) (t 53))]
def f91r12 : List SOper := [
 o 8 (.mv (i 0))]
def f91r13 : List SOper := [
 o 54 (.mv (t 8)),
 o 55 (.mv (t 5)),
 o 56 (.len (t 55)),
 o 57 (.cmp .lss (t 54) (t 56))]
def f91r14 : List SOper := [
 o 60 (.fa 3 (t 7)),
 o 61 (.ld1 (t 60)),
 o 62 (.mv (t 5)),
 o 63 (.mv (t 8)),
 o 64 (.ixs 1 (t 62) (t 63)),
 o 65 (.ld1 (t 64)),
 o 66 (.callq 141 [(t 65)]),
 o 67 (.bslice [(.int .i64 0), (.int .i64 0), (.string ⟨#[]⟩), (.slice none 0 0)] 1 [(0, 4)] [(t 66)]),
 o 68 (.app 4 56 [(.int .i64 0), (.int .i64 0), (.string ⟨#[]⟩), (.slice none 0 0)] (t 61) (t 67)),
 o 69 (.fa 3 (t 7)),
 q (.st 1 (t 69) (t 68))]
def f91r15 : List SOper := [
 o 58 (.mv (t 8)),
 o 59 (.ar .add (t 58) (i 1)),
 o 8 (.mv (t 59))]
def f91l16 : SCode := (.seq (.seq (.ops f91r13) (.cond (t 57) .skip (.exit 2))) (.seq (.block 3 (.ops f91r14)) (.ops f91r15)))
def f91r17 : List SOper := [
 o 70 (.ldn 4 (t 7)),
 q (.st 4 (t 4) (t 70))]
def f91 : SCode := (.seq (.ops f91r0) (.seq (.ops f91r1) (.seq (.seq (.ops f91r2) (.cond (t 19) (.seq (.ops f91r3) .ret) .skip)) (.seq (.seq (.ops f91r4) (.cond (t 24) (.seq (.seq (.ops f91r5) (.block 0 (.loop f91l9))) (.seq (.ops f91r10) .ret)) .skip)) (.seq (.ops f91r11) (.seq (.seq (.ops f91r12) (.block 2 (.loop f91l16))) (.seq (.ops f91r17) .ret)))))))
theorem f91_calls : Sound Tryz.prog 91 71 f91 [.cn 4 4] := sound_of mixed Tryz.func91 rfl (by kernel_rfl) (by kernel_rfl) (by kernel_rfl)

def f140r0 : List SOper := [
 o 2 (.new [(.int .i64 0), (.int .i64 0), (.string ⟨#[]⟩), (.slice none 0 0)])]
def f140r1 : List SOper := [
 o 3 (.mv (t 0)),
 o 4 (.build [(.int .i64 0), (.int .i64 0), (.string ⟨#[]⟩), (.slice none 0 0)] [(0, 1), (1, 1)] [(i 3), (t 3)]),
 q (.st 4 (t 2) (t 4))]
def f140 : SCode := (.seq (.ops f140r0) (.seq (.ops f140r1) .ret))
theorem f140_calls : Sound Tryz.prog 140 5 f140 [.cn 2 4] := sound_of mixed Tryz.func140 rfl (by kernel_rfl) (by kernel_rfl) (by kernel_rfl)

def f141r0 : List SOper := [
 o 2 (.new [(.int .i64 0), (.int .i64 0), (.string ⟨#[]⟩), (.slice none 0 0)])]
def f141r1 : List SOper := [
 o 3 (.mv (t 0)),
 o 4 (.build [(.int .i64 0), (.int .i64 0), (.string ⟨#[]⟩), (.slice none 0 0)] [(0, 1), (2, 1)] [(i 4), (t 3)]),
 q (.st 4 (t 2) (t 4))]
def f141 : SCode := (.seq (.ops f141r0) (.seq (.ops f141r1) .ret))
theorem f141_calls : Sound Tryz.prog 141 5 f141 [.cn 2 4] := sound_of mixed Tryz.func141 rfl (by kernel_rfl) (by kernel_rfl) (by kernel_rfl)

def f142r0 : List SOper := [
 o 8 (.mv (b false))]
def f142r1 : List SOper := [
 o 9 (.mv (i 0))]
def f142r2 : List SOper := [
 o 10 (.mv (t 9)),
 o 11 (.mv (t 2)),
 o 12 (.cmp .lss (t 10) (t 11))]
def f142r3 : List SOper := [
 o 16 (.mv (t 0)),
 o 17 (.nilck (t 16)),
 o 18 (.fa 2 (t 17)),
 o 19 (.ld1 (t 18)),
 o 20 (.mv (t 9)),
 o 21 (.ixs 1 (t 19) (t 20)),
 o 22 (.ld1 (t 21)),
 o 23 (.mv (t 1)),
 o 24 (.cmp .eql (t 22) (t 23))]
def f142r4 : List SOper := [
 o 8 (.mv (b true))]
def f142r5 : List SOper := [
 o 13 (.mv (t 9)),
 o 14 (.mv (t 3)),
 o 15 (.ar .add (t 13) (t 14)),
 o 9 (.mv (t 15))]
def f142l6 : SCode := (.seq (.seq (.ops f142r2) (.cond (t 12) .skip (.exit 0))) (.seq (.block 1 (.seq (.ops f142r3) (.cond (t 24) (.seq (.ops f142r4) .ret) .skip))) (.ops f142r5)))
def f142r7 : List SOper := [
 o 8 (.mv (b false))]
def f142 : SCode := (.seq (.ops f142r0) (.seq (.seq (.ops f142r1) (.block 0 (.loop f142l6))) (.seq (.ops f142r7) .ret)))
theorem f142_calls : Sound Tryz.prog 142 25 f142 [.t 8] := sound_of mixed Tryz.func142 rfl (by kernel_rfl) (by kernel_rfl) (by kernel_rfl)

def f144r0 : List SOper := [
 o 9 (.mv (t 0)),
 o 10 (.nilck (t 9)),
 o 11 (.fa 0 (t 10)),
 o 12 (.ld1 (t 11)),
 o 13 (.mv (t 1)),
 o 14 (.call 31 [(t 12), (t 13)]),
 o 8 (.mv (t 14)),
 o 15 (.ext (t 8) 0),
 o 16 (.ext (t 8) 1),
 o 4 (.mv (t 15)),
 o 5 (.mv (t 16))]
def f144p1 : List SOper := [
 o 18 (.mv (t 0)),
 o 19 (.nilck (t 18)),
 o 20 (.fa 0 (t 19)),
 o 21 (.ld1 (t 20)),
 o 22 (.mv (t 1)),
 o 23 (.mv (t 0)),
 o 24 (.nilck (t 23)),
 o 25 (.fa 1 (t 24)),
 o 26 (.ld1 (t 25))]
def f144r1 : List SOper := [
 o 27 (.callq 85 [(t 21), (t 22), (t 26)]),
 o 17 (.mv (t 27)),
 o 28 (.ext (t 17) 0),
 o 29 (.ext (t 17) 1),
 o 6 (.new [(.int .i64 0), (.string ⟨#[]⟩), (.slice none 0 0), (.slice none 0 0), (.slice none 0 0), (.bool false), (.int .i64 0)]),
 q (.st 7 (t 6) (t 28)),
 o 7 (.mv (t 29))]
def f144s1 : List SOper := [
 o 6 (.new [(.int .i64 0), (.string ⟨#[]⟩), (.slice none 0 0), (.slice none 0 0), (.slice none 0 0), (.bool false), (.int .i64 0)]),
 o 27 (.callq 85 [(t 21), (t 22), (t 26)]),
 o 17 (.mv (t 27)),
 o 28 (.ext (t 17) 0),
 o 29 (.ext (t 17) 1),
 q (.st 7 (t 6) (t 28)),
 o 7 (.mv (t 29))]
def f144r2 : List SOper := [
 o 30 (.mv (t 5)),
 o 31 (.mv (t 30)),
 g 32 31 (.mv (t 7)),
 g 33 31 (.un .not (t 32)),
 o 34 (.pick (t 31) (t 33) (b false))]
def f144r3 : List SOper := [
 o 35 (.mv (t 0)),
 o 36 (.mv (t 0)),
 o 37 (.nilck (t 36)),
 o 38 (.fa 3 (t 37)),
 o 39 (.ld1 (t 38)),
 o 40 (.mv (t 1)),
 o 41 (.build [(.int .i64 0), (.string ⟨#[]⟩), (.string ⟨#[]⟩), (.string ⟨#[]⟩), (.int .i64 0)] [(0, 1), (1, 1)] [(i 1), (t 40)]),
 o 42 (.bslice [(.int .i64 0), (.string ⟨#[]⟩), (.string ⟨#[]⟩), (.string ⟨#[]⟩), (.int .i64 0)] 1 [(0, 5)] [(t 41)]),
 o 43 (.app 5 64 [(.int .i64 0), (.string ⟨#[]⟩), (.string ⟨#[]⟩), (.string ⟨#[]⟩), (.int .i64 0)] (t 39) (t 42)),
 o 44 (.nilck (t 35)),
 o 45 (.fa 3 (t 44)),
 q (.st 1 (t 45) (t 43))]
def f144 : SCode := (.seq (.ops f144r0) (.seq (.two f144p1 f144r1 f144s1) (.seq (.ops f144r2) (.cond (t 34) (.ops f144r3) .skip))))
theorem f144_calls : Sound Tryz.prog 144 46 f144 [] := sound_of mixed Tryz.func144 rfl (by kernel_rfl) (by kernel_rfl) (by kernel_rfl)

end Go.Proofs.YtgmkldaonkbjgaaGreatDoor.C
namespace Go.Proofs.YtgmkldaonkbjgaaGreatDoor
open Go Go.Sx Go.Proofs.YtgmkldaonkbjgaaGreatDoor.C

section
variable {h0 h : Heap} {ab kb sb mb c : Nat} {now n : Int} {av lv : Value} {A : List ByteArray} {m : List KI} {S : Space} {key s a : ByteArray} {t : Thing} {go : Option Thing}

def okT (go : Option Thing) : Bool := match go with
  | none => true
  | some t => decide (t.kind = 1)
theorem okT_yes (h : ∀ t, go = some t → t.kind = 1) : okT go = true := by
  cases go with
  | none => rfl
  | some t => exact decide_eq_true (h t rfl)

instance (a b : Int) : Decidable (okSum a b) := by unfold okSum; infer_instance
def putR (S : Space) (key s : ByteArray) (now : Int) (stays : Bool) (r : Rep) : Except ByteArray (Rep × List Eff) :=
  if s.size ≤ 1048576 ∧ key.size ≤ 1048576 then .ok (r, putE S key s now stays) else .error wLong
def byStep (S : Space) (key : ByteArray) (now n : Int) (s : ByteArray) : Except ByteArray (Rep × List Eff) := match numOf s with
  | none => .error wNum
  | some m => if okSum m n then putR S key ⟨⟨Lib.itoa (m + n)⟩⟩ now true (rep 3 (m + n) noText) else .error wOver
theorem byStep_none (h : numOf s = none) : byStep S key now n s = .error wNum := by unfold byStep; rw [h]
theorem byStep_over {m : Int} (h : numOf s = some m) (ho : ¬ okSum m n) : byStep S key now n s = .error wOver := by unfold byStep; rw [h]; exact if_neg ho
theorem byStep_ok {m : Int} (h : numOf s = some m) (ho : okSum m n) : byStep S key now n s = putR S key ⟨⟨Lib.itoa (m + n)⟩⟩ now true (rep 3 (m + n) noText) := by unfold byStep; rw [h]; exact if_pos ho
def zeroS : ByteArray := ⟨#[48]⟩
def by0 : Option Thing → ByteArray
  | none => zeroS
  | some t => t.text
def gBy (S : Space) (key : ByteArray) (now n : Int) (go : Option Thing) : Except ByteArray (Rep × List Eff) := if okT go = true then byStep S key now n (by0 go) else .error wType
theorem gBy_no (h : t.kind ≠ 1) : gBy S key now n (some t) = .error wType := if_neg (by simp [okT, h])

theorem numOf_in {v : Int} (h : numOf s = some v) : In64 v := by
  obtain ⟨⟨a, b⟩, _⟩ := (Num.num_iff rfl s.data.toList v).1 h
  exact ⟨by omega, by omega⟩
theorem itoa_len {k n : Int} (h : okSum k n) : (Lib.itoa (k + n)).length ≤ 20 := by
  obtain ⟨h0, h1⟩ := h
  unfold Lib.itoa
  split
  · have := Num.dec_len 18 (k + n).natAbs (by omega)
    simp; omega
  · have := Num.dec_len 18 (k + n).toNat (by omega)
    omega

theorem by_rest {h1 : Heap} {b4 : Nat} (x : AS h0 h ab kb now av A lv []) (kr0 : KR h0 kb sb mb c m) (hs : Sorted m S) (hl : LaidN h0) (hA : A[0]? = some key) (hn : In64 n) (hz : s.size < 281474976710656) (hk : key.size < 281474976710656)
    (w : St (ab :: vblk lv) h h1 [.b b4 [.int .i64 0, .int .i64 0, .string ⟨#[]⟩, .slice none 0 0], asE ab kb now av lv []]) :
    swp Tryz.prog (.seq (.ops f65r4) (.seq (.ops f65r5) (.seq (.ops f65r6) (.seq (.ops f65r7) (.seq (.ops f65r8) .ret))))) (retQ [.cn 4 4] (CmdR h0 h ab kb now av A lv (byStep S key now n s)))
      (mk [(0, ptr ab), (1, .int .i64 n), (4, ptr b4), (5, .string s)]) [] h1 := by
  obtain ⟨⟨⟨l⟩⟩, hl2⟩ : ∃ s', s' = s := ⟨_, rfl⟩
  subst hl2
  obtain ⟨u, hu⟩ : ∃ u, u = Num.num l := ⟨_, rfl⟩
  have hu2 : numOf ⟨⟨l⟩⟩ = u := hu.symm
  refine w.call (bnum_calls (hl.ext (x.base w)) hz) ?_
  rintro _ h2 rfl w
  rw [← hu]
  cases u with
  | none => exact must_no (x.bad w (byStep_none hu2))
  | some k =>
    refine must_yes fun _ => ?_
    refine plus_go (numOf_in hu2) hn (fun hok => ?_) (fun hb => x.bad w (byStep_over hu2 hb))
    rw [byStep_ok hu2 hok]
    obtain ⟨b, o, cc, rfl⟩ := x.argF (List.getElem?_eq_some_iff.1 hA).1
    refine w.lda 1 rfl rfl ?_
    refine x.ix (x.base w) 0 rfl hA ?_
    refine w.callqv (format_calls (hl.ext (x.base w)) hok.1 hok.2) fun h3 w => ?_
    have hlen : (⟨⟨Lib.itoa (k + n)⟩⟩ : ByteArray).size < 4611686018427387904 := by
      have h9 : (Lib.itoa (k + n)).length ≤ 20 := itoa_len hok
      show (Lib.itoa (k + n)).length < _
      omega
    refine x.put kr0 hs w 1 rfl (by simp) (by omega) hlen (fun _ h4 lv2 hfit w => ?_) (fun hb => x.bad w (if_neg hb))
    refine w.callv Bnumber_calls fun h5 w => ?_
    refine w.st1 0 rfl rfl rfl rfl fun h6 w => ?_
    exact x.fin w 0 1 rfl rfl (if_pos hfit)

theorem mv_go {P : Program} {x : Operand} {d : Nat} {c : SCode} {Q : Post} {σ : Env} {ds : List Deferred} {h : Heap} {v : Value} (he : ev σ x = some v) (hs : swp P c Q (upd σ (some d) v) ds h) :
    swp P (.seq (.ops [⟨some d, none, .mv x⟩]) c) Q σ ds h := by
  simp only [swp, sops, sopr, sop, he]
  exact hs
theorem not_go {P : Program} {x y : Operand} {d e : Nat} {c : SCode} {Q : Post} {σ : Env} {ds : List Deferred} {h : Heap} {v : Bool} (he : ev σ x = some (.bool v)) (hf : ev (upd σ (some d) (.bool v)) y = some (.bool v))
    (hs : swp P c Q (upd (upd σ (some d) (.bool v)) (some e) (.bool !v)) ds h) : swp P (.seq (.ops [⟨some d, none, .mv x⟩, ⟨some e, none, .un .not y⟩]) c) Q σ ds h := by
  simp only [swp, sops, sopr, sop, he, hf]
  exact hs
theorem cnd_go {P : Program} {x : Operand} {a b c : SCode} {Q : Post} {σ : Env} {ds : List Deferred} {h : Heap} {t : Bool} (he : ev σ x = some (.bool t)) (hs : swp P (.seq (bif t then a else b) c) Q σ ds h) : swp P (.seq (.cond x a b) c) Q σ ds h := by
  cases t with
  | true => simp only [swp, he]; exact hs
  | false => simp only [swp, he]; exact hs
theorem ass_go {P : Program} {a b c : SCode} {Q : Post} {σ : Env} {ds : List Deferred} {h : Heap} (hs : swp P (.seq a (.seq b c)) Q σ ds h) : swp P (.seq (.seq a b) c) Q σ ds h := by
  have e : thenQ (swp P b (thenQ (swp P c Q) Q)) (thenQ (swp P c Q) Q) = thenQ (swp P b (thenQ (swp P c Q) Q)) Q := by
    funext x; cases x <;> rfl
  simp only [swp] at hs ⊢
  rw [e]; exact hs
theorem skp_go {P : Program} {c : SCode} {Q : Post} {σ : Env} {ds : List Deferred} {h : Heap} (hs : swp P c Q σ ds h) : swp P (.seq .skip c) Q σ ds h := hs

def TextS (S : Space) : Prop := ∀ p ∈ S, p.2.text.size < 281474976710656
theorem getS_text (hT : TextS S) (h : getS S key now = some t) : t.text.size < 281474976710656 := by
  unfold getS at h
  split at h
  · rename_i t' hf
    split at h
    · cases h
    · cases h
      exact hT _ (findS_mem hf)
  · cases h
theorem by_calls (x : AS h0 h ab kb now av A lv []) (kr0 : KR h0 kb sb mb c m) (hs : Sorted m S) (hl : LaidN h0) (hA : A[0]? = some key) (hn : In64 n) (hk : key.size < 281474976710656) (hT : TextS S) :
    CallsH Tryz.prog 65 [ptr ab, .int .i64 n] h (CmdR h0 h ab kb now av A lv (gBy S key now n (getS S key now))) := by
  refine f65_calls (by simp) ?_
  intro b4 h1 g1
  have w := x.st.new g1
  obtain ⟨b, o, cc, rfl⟩ := x.argF (List.getElem?_eq_some_iff.1 hA).1
  refine w.lda 1 rfl rfl ?_
  refine x.ix (x.base w) 0 rfl hA ?_
  refine x.text kr0 hs w 1 rfl (fun h2 hok w => ?_) (fun h2 t ht hb w => x.bad w (by rw [ht]; exact gBy_no hb))
  obtain ⟨go, hgo⟩ : ∃ go, go = getS S key now := ⟨_, rfl⟩
  rw [← hgo] at hok ⊢
  refine cut_at [(0, ptr ab), (1, .int .i64 n), (4, ptr b4), (5, .string (go.getD zeroT).text), (6, .bool go.isSome)] ⟨rfl, rfl, rfl, rfl, rfl, trivial⟩ ?_
  refine ass_go ?_
  refine not_go (v := go.isSome) rfl rfl ?_
  refine cnd_go (t := !go.isSome) rfl ?_
  rw [show gBy S key now n go = byStep S key now n (by0 go) from if_pos (okT_yes hok)]
  cases go with
  | none =>
    refine mv_go (v := .string zeroS) rfl ?_
    exact cut_at [(0, ptr ab), (1, .int .i64 n), (4, ptr b4), (5, .string zeroS)] ⟨rfl, rfl, rfl, rfl, trivial⟩ (by_rest (s := zeroS) x kr0 hs hl hA hn (by decide) hk w)
  | some t =>
    refine skp_go ?_
    exact cut_at [(0, ptr ab), (1, .int .i64 n), (4, ptr b4), (5, .string t.text)] ⟨rfl, rfl, rfl, rfl, trivial⟩ (by_rest x kr0 hs hl hA hn (getS_text hT hgo.symm) hk w)
end

end Go.Proofs.YtgmkldaonkbjgaaGreatDoor
namespace Go.Proofs.YtgmkldaonkbjgaaGreatDoor
open Go Go.Sx Go.Proofs.YtgmkldaonkbjgaaGreatDoor.C

section
variable {h0 h : Heap} {ab kb sb mb c : Nat} {now n : Int} {av lv : Value} {A : List ByteArray} {m : List KI} {S : Space} {key s a : ByteArray} {t : Thing} {go : Option Thing} {q : Rep} {E : List Eff}

theorem putR_rep {stays : Bool} {r : Rep} (h : putR S key s now stays r = .ok (q, E)) : q = r := by
  unfold putR at h
  split at h
  · simp at h; exact h.1.symm
  · cases h
theorem byStep_rep (h : byStep S key now n s = .ok (q, E)) : q.l = [] := by
  cases hn : numOf s with
  | none => rw [byStep_none hn] at h; cases h
  | some m =>
    by_cases ho : okSum m n
    · rw [byStep_ok hn ho] at h; rw [putR_rep h]
    · rw [byStep_over hn ho] at h; cases h
theorem gBy_rep (h : gBy S key now n go = .ok (q, E)) : q.l = [] := by
  unfold gBy at h
  split at h
  · exact byStep_rep h
  · cases h
theorem RepAt.any {h' : Heap} {z : Nat} {a : Option Addr} {n c : Nat} (hq : q.l = []) (x : SL encQ h (.slice a n c) q.l) (hz : ∀ b ∈ ablk a, z ≤ b) : RepAt z h' (.agg ⟨[.int .i64 q.k, .int .i64 q.i, .string q.s, .slice a n c]⟩) q := by
  refine ⟨a, n, c, rfl, ?_, hz⟩
  rw [hq] at x ⊢
  obtain ⟨a', c', e, h1, h2⟩ := x
  cases e
  refine ⟨_, _, rfl, h1, ?_⟩
  cases a with
  | none => exact h2
  | some a' =>
    obtain ⟨b, o, sp⟩ := a'
    cases sp with
    | none => intro i v hv; simp at hv
    | some z => exact h2

theorem AS.by {h1 : Heap} {b2 : Nat} {res : Except ByteArray (Rep × List Eff)} {K : Value → Heap → Prop} {Qp : List PanicEntry → Heap → Prop} (x : AS h0 h ab kb now av A lv []) (kr0 : KR h0 kb sb mb c m) (hs : Sorted m S) (hl : LaidN h0)
    (w : St (ab :: vblk lv) h h1 [.b b2 [.int .i64 0, .int .i64 0, .string ⟨#[]⟩, .slice none 0 0], asE ab kb now av lv []]) (hA : A[0]? = some key) (hn : In64 n) (hk : key.size < 281474976710656) (hT : TextS S) (hres : res = gBy S key now n (getS S key now))
    (hok : ∀ v h', v.cells.toList.length = 4 → (∀ u ∈ v.cells.toList, u.oneCell' = true) → Blk h' b2 [.int .i64 0, .int .i64 0, .string ⟨#[]⟩, .slice none 0 0] →
      (∀ h2, Put h' h2 b2 v.cells.toList → ∃ vs, vs.length = 4 ∧ Cells h2 b2 0 vs ∧ CmdR h0 h ab kb now av A lv res (.returned (.agg ⟨vs⟩)) h2) → K v h')
    (hbad : ∀ why h', CmdR h0 h ab kb now av A lv res (.panicked (stopE why)) h' → Qp (stopE why) h') : CallsH Tryz.prog 65 [ptr ab, .int .i64 n] h1 (after K Qp) := by
  have x1 := (x.out w 1 rfl).1
  refine call_out (by_calls x1 kr0 hs hl hA hn hk hT) ?_ ?_
  · rintro v h2 ⟨q, E, he, ⟨a, n', c', rfl, sl, fr⟩, lv2, x2, a2⟩
    have w2 := w.aside 1 rfl x2 a2
    refine hok _ h2 rfl ?_ (w2.get 0 rfl) fun h3 p => ?_
    · intro u hu
      have hu : u ∈ [Value.int .i64 q.k, .int .i64 q.i, .string q.s, .slice a n' c'] := hu
      simp at hu
      rcases hu with rfl | rfl | rfl | rfl <;> rfl
    · have w3 := w2.put 0 rfl p
      exact ⟨_, rfl, cells_blk (w3.get 0 rfl), x.ends w3 1 rfl (RepAt.any (gBy_rep he) sl fun b hb => by have := fr b hb; have := w.size; omega) (hres.trans he)⟩
  · rintro why h2 ⟨he, c2⟩
    exact hbad why h2 ⟨why, rfl, hres.trans he, w.chg.trans c2 (fun _ hk => hk) (fun _ hk _ => hk)⟩

def cStep (S : Space) (now n : Int) : List ByteArray → Except ByteArray (Rep × List Eff) := arg1 fun key => gBy S key now n (getS S key now)

theorem step_calls {bn on : Nat} (x : AS h0 h ab kb now av A lv []) (kr0 : KR h0 kb sb mb c m) (hs : Sorted m S) (hl : LaidN h0) (Bn : cell h bn on = some (.int .i64 n)) (hn : In64 n) (hA : ∀ s ∈ A, s.size < 281474976710656) (hT : TextS S) :
    CallsH Tryz.prog 110 [ptr ab, .pointer (some ⟨bn, on, none⟩)] h (CmdR h0 h ab kb now av A lv (cStep S now n A)) := by
  refine f110_calls (by simp) ?_
  intro b2 h1 g1
  have w := x.st.new g1
  refine x.many w 1 rfl (fun hok _ => ?_) (fun hb => x.bad w (arg1_bad hb))
  obtain ⟨key, rfl⟩ := one_arg hok
  refine Exists.intro _ (And.intro (cell_chg Bn g1.chg (by simp)) ?_)
  refine x.by kr0 hs hl w rfl hn (hA key (by simp)) hT rfl (fun v h2 l4 h1 B hend => ?_) fun why h2 hb => hb
  refine Exists.intro _ (And.intro B (And.intro (by simp) (And.intro l4 (And.intro h1 ?_))))
  intro h3 p3
  rw [four rfl l4] at p3
  exact hend h3 p3

end

end Go.Proofs.YtgmkldaonkbjgaaGreatDoor
namespace Go.Proofs.YtgmkldaonkbjgaaGreatDoor
open Go Go.Sx Go.Proofs.YtgmkldaonkbjgaaGreatDoor.C

abbrev Res := Except ByteArray (Rep × List Eff)
def okR : Rep := rep 1 0 ⟨#[79, 75]⟩
def numR (n : Int) : Rep := rep 3 n noText
instance memB (k : ByteArray) (l : List ByteArray) : Decidable (k ∈ l) := @List.instDecidableMemOfLawfulBEq _ instBEqOfDecidableEq _ k l
def cntB (k : ByteArray) (l : List ByteArray) : Nat := l.countP fun x => decide (x = k)
theorem cntB_zero {k : ByteArray} {l : List ByteArray} (h : k ∉ l) : cntB k l = 0 := List.countP_eq_zero.2 fun x hx he => h (of_decide_eq_true he ▸ hx)
theorem cntB_pos {k : ByteArray} {l : List ByteArray} (h : k ∈ l) : 0 < cntB k l := List.countP_pos_iff.2 ⟨k, h, decide_eq_true rfl⟩
theorem cntB_le {k : ByteArray} {l : List ByteArray} : cntB k l ≤ l.length := List.countP_le_length
theorem cntB_snoc {pre : List ByteArray} {k k' : ByteArray} : cntB k' (pre ++ [k]) = cntB k' pre + (if k' = k then 1 else 0) := by
  unfold cntB
  rw [List.countP_append, List.countP_singleton]
  by_cases h : k' = k
  · rw [if_pos (decide_eq_true h.symm), if_pos h]
  · rw [if_neg (by simp; exact fun e => h e.symm), if_neg h]

section
variable (S : Space) (now : Int)
def here (key : ByteArray) : Bool := (getS S key now).isSome

def delL : List ByteArray → List ByteArray → List Eff
  | _, [] => []
  | pre, k :: ks => (if here S now k = true ∧ k ∉ pre then [goneE k] else []) ++ delL (pre ++ [k]) ks
def inMost (lo hi : Int) (A : List ByteArray) (r : Res) : Res := if lo ≤ A.length ∧ A.length ≤ hi then r else .error wArgs
def cDel (A : List ByteArray) : Res := inMost 1 65536 A (.ok (numR (delL S now [] A).length, delL S now [] A))
def cExists (A : List ByteArray) : Res := inMost 1 65536 A (.ok (numR (A.countP (here S now)), []))

def mgetQ (key : ByteArray) : Int × Int × ByteArray := match getS S key now with
  | some t => if t.kind = 1 then (4, 0, t.text) else (0, 0, noText)
  | none => (0, 0, noText)
def cMget (A : List ByteArray) : Res := inMost 1 65536 A (.ok (⟨5, 0, noText, A.map (mgetQ S now)⟩, []))
def msetL : List ByteArray → List ByteArray → List Eff → Res
  | pre, k :: s :: r, E => if s.size ≤ 1048576 ∧ k.size ≤ 1048576 then msetL (pre ++ [k]) r (E ++ ((if k ∈ pre then [] else dropsS S k now) ++ [textE k s])) else .error wLong
  | _, _, E => .ok (okR, E)
def cMset (A : List ByteArray) : Res := inMost 2 65536 A (if A.length % 2 = 0 then msetL S now [] A [] else .error wArgs)

def okLeft (a b : Int) : Prop := -9223372036854775808 ≤ a - b ∧ a - b ≤ 9223372036854775807
instance (a b : Int) : Decidable (okLeft a b) := by unfold okLeft; infer_instance
def arg0 (r : Res) : List ByteArray → Res
  | [] => r
  | _ => .error wArgs
def cNames : List ByteArray → Res := arg0 (.ok (⟨5, 0, noText, (liveS now S).map fun s => (4, 0, s)⟩, []))
def cSize : List ByteArray → Res := arg0 (.ok (numR (liveS now S).length, []))
def cFlush : List ByteArray → Res := arg0 (.ok (okR, S.map fun p => goneE p.1))
end

theorem arg0_bad {r : Res} {A : List ByteArray} (h : ¬ ((0 : Int) ≤ A.length ∧ (A.length : Int) ≤ 0)) : arg0 r A = .error wArgs := by
  match A, h with
  | [], h => exact absurd ⟨by simp, by simp⟩ h
  | x :: l, _ => rfl
theorem no_arg {α : Type} {A : List α} (h : (0 : Int) ≤ A.length ∧ (A.length : Int) ≤ 0) : A = [] := by
  match A, h with
  | [], _ => rfl
  | x :: l, h => simp at h; omega
theorem inMost_yes {lo hi : Int} {A : List ByteArray} {r : Res} (h : lo ≤ A.length ∧ A.length ≤ hi) : inMost lo hi A r = r := if_pos h
theorem inMost_no {lo hi : Int} {A : List ByteArray} {r : Res} (h : ¬ (lo ≤ A.length ∧ A.length ≤ hi)) : inMost lo hi A r = .error wArgs := if_neg h

end Go.Proofs.YtgmkldaonkbjgaaGreatDoor
namespace Go.Proofs.YtgmkldaonkbjgaaGreatDoor
open Go Go.Sx Go.Proofs.YtgmkldaonkbjgaaGreatDoor.C

def rxE (xb : Nat) (kv : Value) (now : Int) (av lv : Value) (L : List Eff) (why : ByteArray) : En :=
  .x (xb :: vblk lv) (fun h => Blk h xb [kv, .int .i64 now, av, lv, .string why] ∧ OL encD 5 h lv L ∧ xb ∉ vblk lv)
    (fun S h h' hc hn ⟨h1, h2, h3⟩ => ⟨h1.chg hc (hn _ (by simp)), h2.chg hc (fun b hb => hn _ (by simp [hb])), h3⟩)
    (fun h ⟨h1, h2, _⟩ b hb => by
      rcases List.mem_cons.1 hb with rfl | hb
      · exact h1.lt
      · exact OL.lt h2 b hb)

structure RC (h0 : Heap) (kv : Value) (k : List RX) (av : Value) (A : List ByteArray) : Prop where
  sl : SL encX h0 kv k
  gx : GX h0 k
  up : UpX k
  len : k.length < 4611686018427387904
  fit : KeysFit k
  args : ∀ h', Chg [] h0 h' → SL encS h' av A

def RxO (h0 h : Heap) (e : En) (h' : Heap) (e' : En) : Prop := As h0 h' e' ∧ Sx.Own e h e' h'

section
variable {h0 h h1 h' : Heap} {xb i : Nat} {now n : Int} {kv av lv : Value} {k : List RX} {A : List ByteArray} {L : List Eff} {why : ByteArray} {M : List En} {T : List Nat} {e e' : En}

theorem RxO.refl (x : As h0 h e) (hc : Chg [] h h') : RxO h0 h e h' e := ⟨x.ext hc, Sx.Own.refl x.at_ hc⟩

theorem _root_.Go.Sx.St.ldr {o : Nat} {v : Value} {K : Value → Prop} (w : St T h1 h M) (i : Nat) (hi : M[i]? = some (rxE xb kv now av lv L why)) (hv : [kv, .int .i64 now, av, lv, .string why][o]? = some v) (k : K v) : ∃ v, cell h xb o = some v ∧ K v := ⟨v, cell_blk (w.get i hi).1 hv, k⟩

theorem _root_.Go.Sx.St.stw {K : Heap → Prop} {why2 : ByteArray} (w : St T h1 h M) (i : Nat) (hi : M[i]? = some (rxE xb kv now av lv L why)) (k : ∀ h', St T h1 h' (M.set i (rxE xb kv now av lv L why2)) → K h') :
    ∃ l, Blk h xb l ∧ 4 + 1 ≤ l.length ∧ [Value.string why2].length = 1 ∧ (∀ u ∈ [Value.string why2], u.oneCell' = true) ∧ ∀ h', Put h h' xb (splice l 4 [.string why2]) → K h' := by
  obtain ⟨hB, hO, hn⟩ := w.get i hi
  refine ⟨_, hB, by simp, rfl, ones1 rfl, fun h' p => k h' ?_⟩
  have hO2 := hO.chg p.chg (fun b hb => by simp; rintro rfl; exact hn hb)
  exact w.set i hi p.chg (fun b hb => .inl (by simp at hb; simp [rxE, En.fp, hb])) ⟨p.blk, hO2, hn⟩ (fun b hb => .inl hb)

theorem _root_.Go.Sx.St.rapp {a a' : Option Addr} {n c m c2 : Nat} {F : List Eff} {z : List Value} {K : Value → Heap → Prop} (w : St T h1 h M) (i : Nat) (hi : M[i]? = some (rxE xb kv now av (.slice a n c) L why)) (hz : z.length = 5) (hsrc : SL encD h (.slice a' m c2) F) (hb : ((L.length + F.length) * 2 + 768) * 64 ≤ 281474976710656)
    (k : ∀ a3 c3 h', (∀ {K' : Heap → Prop}, (∀ h'', St T h1 h'' (M.set i (rxE xb kv now av (.slice a3 (L ++ F).length c3) (L ++ F) why)) → K' h'') →
      ∃ l, Blk h' xb l ∧ 3 + 1 ≤ l.length ∧ [Value.slice a3 (L ++ F).length c3].length = 1 ∧ (∀ u ∈ [Value.slice a3 (L ++ F).length c3], u.oneCell' = true) ∧ ∀ h'', Put h' h'' xb (splice l 3 [.slice a3 (L ++ F).length c3]) → K' h'') → K (.slice a3 (L ++ F).length c3) h') : appP h K 5 64 z a n c a' m := by
  obtain ⟨hB, hO, hn⟩ := w.get i hi
  have hlt := hB.lt
  refine app_own encD_len encD_one hz hO hsrc hb fun v' h' ho hc hbv => ?_
  have hxn : xb ∉ vblk v' := fun hm => by
    rcases hbv xb hm with h3 | h3
    · exact hn h3
    · omega
  have hB1 := hB.chg hc hn
  obtain ⟨a3, c3, rfl, _⟩ := ho.sl.form
  refine k a3 c3 h' fun {K'} hK => ?_
  refine ⟨_, hB1, by simp, rfl, ones1 rfl, fun h'' p => hK h'' ?_⟩
  have ct : Chg (xb :: ablk a) h h'' := (hc.mono (fun b hb => List.mem_cons_of_mem _ hb)).trans p.chg (fun _ hk => hk) (fun b hb _ => by simp at hb; simp [hb])
  refine w.set i hi ct (fun b hb => .inl hb) ⟨p.blk, ho.chg p.chg (fun b hb => by simp; rintro rfl; exact hxn hb), hxn⟩ (fun b hb => ?_)
  rcases List.mem_cons.1 hb with rfl | hb
  · exact .inl (List.mem_cons_self ..)
  · rcases hbv b hb with h3 | h3
    · exact .inl (List.mem_cons_of_mem _ h3)
    · exact .inr h3

theorem _root_.Go.Sx.St.rform (w : St T h1 h M) (i : Nat) (hi : M[i]? = some (rxE xb kv now av lv L why)) : ∃ a c, lv = .slice a L.length c := by
  obtain ⟨a, c, e, _⟩ := (show OL encD 5 h lv L from (w.get i hi).2.1).sl.form
  exact ⟨a, c, e⟩

theorem RC.argF (c : RC h0 kv k av A) (hi : 0 < A.length) : ∃ b o cc, av = .slice (some ⟨b, o, none⟩) A.length cc := by
  have hs := c.args h0 (Chg.refl _)
  obtain ⟨a, cc, rfl, hcc⟩ := hs.form
  obtain ⟨b, o, rfl⟩ := hs.addr hi
  exact ⟨b, o, cc, rfl⟩
theorem RC.argN (c : RC h0 kv k av A) : ∃ a cc, av = .slice a A.length cc := by
  obtain ⟨a, cc, rfl, hcc⟩ := (c.args h0 (Chg.refl _)).form
  exact ⟨a, cc, rfl⟩
theorem RC.ix {i : Int} {b o n cc : Nat} {s : ByteArray} {K : Value → Prop} (c : RC h0 kv k (.slice (some ⟨b, o, none⟩) n cc) A) (hc : Chg [] h0 h1) (j : Nat) (e : i = j) (hs : A[j]? = some s) (hk : K (.string s)) :
    0 ≤ i ∧ i < (n : Int) ∧ ∃ v, cell h1 b (o + i.toNat * 1) = some v ∧ K v := by
  subst e
  have hj := (List.getElem?_eq_some_iff.1 hs).1
  have hcs := (c.args h1 hc).cells encS_len hs
  have hn := (c.args h1 hc).len.1
  refine ⟨by omega, by omega, _, ?_, hk⟩
  have := hcs 0 _ rfl
  simpa using this

def GetS (h : Heap) (f : Nat) (vs : List Value) (go : Option Thing) : Prop :=
  ∀ {h1}, Chg [] h h1 → CallsH Tryz.prog f vs h1 (Ret fun r h' => (∃ pv lv rv, r = .tuple #[.agg ⟨cellsT (go.getD zeroT) pv lv rv⟩, .bool go.isSome] ∧ ∀ u ∈ cellsT (go.getD zeroT) pv lv rv, u.oneCell' = true) ∧ Chg [] h1 h')

theorem RC.getS (c : RC h0 kv k av A) (hc : Chg [] h0 h) (key : ByteArray) (hk : key.size < 4611686018427387904) : GetS h 85 [kv, .string key, .int .i64 now] (getS (k.map RX.pr) key now) := by
  intro h1 c1
  refine (RGet_calls key now (c.sl.ext (hc.nil c1)) (c.gx.ext (hc.nil c1)) c.len hk c.fit).mono ?_
  intro e h' he
  cases e with
  | returned r =>
    obtain ⟨⟨us, rfl, tu⟩, c2⟩ := he
    rw [get_get c.up key now] at tu ⊢
    have ho := thing_one tu
    obtain ⟨pv, lv, rv, rfl, _⟩ := tu
    exact ⟨⟨pv, lv, rv, rfl, ho⟩, c2⟩
  | panicked ch => exact he
  | outgrown => exact he

theorem get_twoR {σ : Env} {Qp : List PanicEntry → Heap → Prop} {K : Env → Heap → Prop} {f : Nat} {v1 v2 v3 : Value} {go : Option Thing} {c d e0 e1 b v a1 a2 a3 : Nat} (w : St T h0 h M) (get : GetS h f [v1, v2, v3] go) (E : List (Nat × Value))
    (h1 : σ a1 = some v1) (h2 : σ a2 = some v2) (h3 : σ a3 = some v3) (hE : SubL σ E) (ha : apart7 c d e0 e1 b v a1 a2 a3 E = true) (hm : MonoE K)
    (k : ∀ h' b6 pv lv rv, St T h0 h' (.b b6 (cellsT (go.getD zeroT) pv lv rv) :: M) → (∀ u ∈ cellsT (go.getD zeroT) pv lv rv, u.oneCell' = true) → K (mk ((b, ptr b6) :: (v, .bool go.isSome) :: E)) h') :
    sops Tryz.prog Qp K [⟨some c, none, .callq f [.tmp a1, .tmp a2, .tmp a3]⟩, ⟨some d, none, .mv (.tmp c)⟩, ⟨some e0, none, .ext (.tmp d) 0⟩, ⟨some e1, none, .ext (.tmp d) 1⟩, ⟨some b, none, .new [(.int .i64 0), (.string ⟨#[]⟩), (.slice none 0 0), (.slice none 0 0), (.slice none 0 0), (.bool false), (.int .i64 0)]⟩,
      ⟨none, none, .st 7 (.tmp b) (.tmp e0)⟩, ⟨some v, none, .mv (.tmp e1)⟩] σ h ∧
    sops Tryz.prog Qp K [⟨some b, none, .new [(.int .i64 0), (.string ⟨#[]⟩), (.slice none 0 0), (.slice none 0 0), (.slice none 0 0), (.bool false), (.int .i64 0)]⟩, ⟨some c, none, .callq f [.tmp a1, .tmp a2, .tmp a3]⟩, ⟨some d, none, .mv (.tmp c)⟩, ⟨some e0, none, .ext (.tmp d) 0⟩, ⟨some e1, none, .ext (.tmp d) 1⟩,
      ⟨none, none, .st 7 (.tmp b) (.tmp e0)⟩, ⟨some v, none, .mv (.tmp e1)⟩] σ h := by
  simp only [apart7, Bool.and_eq_true, Bool.not_eq_true'] at ha
  obtain ⟨⟨⟨⟨⟨⟨⟨⟨⟨⟨⟨n1, n2⟩, n3⟩, n4⟩, n5⟩, n6⟩, n7⟩, n8⟩, n9⟩, n10⟩, n11⟩, ha⟩ := ha
  have n2' : Nat.beq b e0 = false := beqT (Ne.symm (beqF n2))
  have fin : ∀ {τ : Env} {h' : Heap} {b6 : Nat} {pv lv rv : Value}, (∀ u ∈ cellsT (go.getD zeroT) pv lv rv, u.oneCell' = true) → τ b = some (ptr b6) → τ v = some (.bool go.isSome) → (∀ t, t ≠ c → t ≠ d → t ≠ e0 → t ≠ e1 → t ≠ b → t ≠ v → τ t = σ t) →
      St T h0 h' (.b b6 (cellsT (go.getD zeroT) pv lv rv) :: M) → K τ h' := fun h1 hb hv ho w => hm _ _ _ (sub_mk (l := (b, ptr _) :: (v, .bool go.isSome) :: E) ⟨hb, hv, sub7 hE ha ho⟩) (k _ _ _ _ _ w h1)
  refine ⟨?_, ?_⟩
  · simp only [sops, sopr, sop, evs, ev, h1, h2, h3]
    refine callq_ret (get (Chg.refl h)) ?_
    rintro _ h4 ⟨⟨pv, lv, rv, rfl, hone⟩, c4⟩
    refine ⟨c4.ext, ?_⟩
    have w4 := w.ext c4
    simp only [upd, Nat.beq_refl, cond_true, cond_false, n1, n2, n2', n3, n4, n5, n6, n7, n8]
    intro b6 h5 g5
    have w5 := w4.new g5
    refine w5.st3 0 rfl rfl rfl hone fun h6 w6 => ?_
    refine fin hone ?_ ?_ ?_ w6
    · simp [upd, n5]; rfl
    · simp [upd]
    · intro t t1 t2 t3 t4 t5 t6
      simp [upd, beqT t1, beqT t2, beqT t3, beqT t4, beqT t5, beqT t6]
  · simp only [sops, sopr, sop, evs, ev]
    intro b6 h4 g4
    have w4 := w.new g4
    simp only [upd, Nat.beq_refl, cond_true, cond_false, n9, n10, n11, h1, h2, h3]
    refine callq_ret (get g4.chg) ?_
    rintro _ h5 ⟨⟨pv, lv, rv, rfl, hone⟩, c5⟩
    refine ⟨c5.ext, ?_⟩
    have w5 := w4.ext c5
    simp only [upd, Nat.beq_refl, cond_true, cond_false, n1, n2, n2', n3, n4, n5, n6, n7, n8]
    refine w5.st3 0 rfl rfl rfl hone fun h6 w6 => ?_
    refine fin hone ?_ ?_ ?_ w6
    · simp [upd, n5, n6, n7, n8, n2']; rfl
    · simp [upd]
    · intro t t1 t2 t3 t4 t5 t6
      simp [upd, beqT t1, beqT t2, beqT t3, beqT t4, beqT t5, beqT t6]

theorem rInt_calls {h : Heap} {n : Int} : CallsH Tryz.prog 140 [.int .i64 n] h (Ret fun r h' => r = repV 3 n noText ∧ Chg [] h h') := by
  refine f140_calls (by simp) ?_
  intro b h1 g1
  refine Exists.intro _ (And.intro g1.blk (And.intro (by decide) (And.intro rfl (And.intro (repV_ones 3 n noText) ?_))))
  intro h2 p2
  have g2 := g1.put p2
  exact ⟨_, rfl, cells_blk g2.blk, rfl, g2.chg⟩
theorem rText_calls {h : Heap} {s : ByteArray} : CallsH Tryz.prog 141 [.string s] h (Ret fun r h' => r = repV 4 0 s ∧ Chg [] h h') := by
  refine f141_calls (by simp) ?_
  intro b h1 g1
  refine Exists.intro _ (And.intro g1.blk (And.intro (by decide) (And.intro rfl (And.intro (repV_ones 4 0 s) ?_))))
  intro h2 p2
  have g2 := g1.put p2
  exact ⟨_, rfl, cells_blk g2.blk, rfl, g2.chg⟩
theorem rStatus_calls {h : Heap} {s : ByteArray} : CallsH Tryz.prog 86 [.string s] h (Ret fun r h' => r = repV 1 0 s ∧ Chg [] h h') := by
  refine f86_calls (by simp) ?_
  intro b h1 g1
  refine Exists.intro _ (And.intro g1.blk (And.intro (by decide) (And.intro rfl (And.intro (repV_ones 1 0 s) ?_))))
  intro h2 p2
  have g2 := g1.put p2
  exact ⟨_, rfl, cells_blk g2.blk, rfl, g2.chg⟩
theorem rFail_calls {h : Heap} {s : ByteArray} : CallsH Tryz.prog 37 [.string s] h (Ret fun r h' => r = repV 2 0 s ∧ Chg [] h h') := by
  refine f37_calls (by simp) ?_
  intro b h1 g1
  refine Exists.intro _ (And.intro g1.blk (And.intro (by decide) (And.intro rfl (And.intro (repV_ones 2 0 s) ?_))))
  intro h2 p2
  have g2 := g1.put p2
  exact ⟨_, rfl, cells_blk g2.blk, rfl, g2.chg⟩

theorem rmany_calls {lo hi : Int} (c : RC h0 kv k av A) (x : As h0 h (rxE xb kv now av lv L why)) : CallsH Tryz.prog 36 [ptr xb, .int .i64 lo, .int .i64 hi] h
    (Ret fun r h' => (lo ≤ A.length ∧ A.length ≤ hi ∧ r = .bool true ∧ RxO h0 h (rxE xb kv now av lv L why) h' (rxE xb kv now av lv L why)) ∨ (¬ (lo ≤ A.length ∧ A.length ≤ hi) ∧ r = .bool false ∧ RxO h0 h (rxE xb kv now av lv L why) h' (rxE xb kv now av lv L wArgs))) := by
  obtain ⟨a, cc, rfl⟩ := c.argN
  refine f36_calls (by simp) ?_
  have w := x.st
  refine w.ldr 0 rfl rfl ?_
  refine And.intro rfl (And.intro (fun h1 => ?_) (fun h1 => ?_))
  · refine w.stw 0 rfl fun h2 w => ?_
    exact .inr ⟨fun hh => by omega, rfl, x.out w 0 rfl⟩
  · refine w.ldr 0 rfl rfl ?_
    refine And.intro rfl (And.intro (fun h2 => ?_) (fun h2 => ?_))
    · refine w.stw 0 rfl fun h2 w => ?_
      exact .inr ⟨fun hh => by omega, rfl, x.out w 0 rfl⟩
    · exact .inl ⟨by omega, by omega, rfl, x.out w 0 rfl⟩

end

end Go.Proofs.YtgmkldaonkbjgaaGreatDoor
namespace Go.Proofs.YtgmkldaonkbjgaaGreatDoor
open Go Go.Sx Go.Proofs.YtgmkldaonkbjgaaGreatDoor.C

theorem find_is8 {l : List RX} (hu : UpX l) (key : ByteArray) : (findX key l).2 = (findS (l.map RX.pr) key).isSome := by
  cases hb : (findX key l).2 with
  | true =>
    obtain ⟨hlt, hk⟩ := findX_hit key l hb
    rw [find_yes hu hlt hk]; rfl
  | false => rw [find_no hu hb]; rfl

section
variable {h0 h h1 h' : Heap} {xb i : Nat} {now n : Int} {kv av lv : Value} {k : List RX} {A : List ByteArray} {L : List Eff} {why key s : ByteArray} {M : List En} {T : List Nat} {e e' : En}

theorem rgone_calls (c : RC h0 kv k av A) (x : As h0 h (rxE xb kv now av lv L why)) (hk : key.size < 4611686018427387904) (hL : L.length ≤ 1000000) : CallsH Tryz.prog 144 [ptr xb, .string key] h
    (Ret fun _ h' => ∃ lv', RxO h0 h (rxE xb kv now av lv L why) h' (rxE xb kv now av lv' (L ++ dropsS (k.map RX.pr) key now) why)) := by
  obtain ⟨a, cc, rfl⟩ := x.st.rform 0 rfl
  refine f144_calls (by simp) ?_
  have w := x.st
  refine w.ldr 0 rfl rfl ?_
  refine callp (Find_calls key (c.sl.ext (x.base w)) c.len hk c.fit) ?_
  rw [find_is8 c.up key]
  refine w.ldr 0 rfl rfl ?_
  refine w.ldr 0 rfl rfl ?_
  refine get_twoR w (c.getS (x.base w) key hk) [(0, ptr xb), (1, .string key), (5, .bool (findS (k.map RX.pr) key).isSome)] rfl rfl rfl ⟨rfl, rfl, rfl, trivial⟩ rfl (mono_at mono_retQ) fun h2 b6 pv lw rv w _ => ?_
  unfold dropsS
  generalize (findS (k.map RX.pr) key).isSome = fs
  generalize (getS (k.map RX.pr) key now).getD zeroT = t at w
  generalize (getS (k.map RX.pr) key now).isSome = gs
  cases fs with
  | false =>
    refine ⟨.slice a L.length cc, ?_⟩
    rw [if_neg (by simp), List.append_nil]
    exact x.out w 1 rfl
  | true =>
    cases gs with
    | true =>
      refine ⟨.slice a L.length cc, ?_⟩
      rw [if_neg (by simp), List.append_nil]
      exact x.out w 1 rfl
    | false =>
      refine w.ldr 1 rfl rfl ?_
      intro b7 h3 g3
      have w := w.new g3
      refine w.rapp 2 rfl rfl (one_sl (e := goneE key) (w.get 0 rfl)) (by simp only [List.length_singleton]; omega) fun a4 n4 h4 hst => ?_
      refine hst fun h5 w => ?_
      refine ⟨.slice a4 (L ++ [goneE key]).length n4, ?_⟩
      rw [if_pos ⟨rfl, rfl⟩]
      exact x.out w 2 rfl

end

end Go.Proofs.YtgmkldaonkbjgaaGreatDoor
namespace Go.Proofs.YtgmkldaonkbjgaaGreatDoor
open Go Go.Sx Go.Proofs.YtgmkldaonkbjgaaGreatDoor.C

def Jd (res : Res) (q : Rep) (E : List Eff) (why : ByteArray) : Prop := (why = noText ∧ res = .ok (q, E)) ∨ (why ≠ noText ∧ res = .error why)

section
variable {h0 h h1 h' : Heap} {xb i : Nat} {now n : Int} {kv av lv : Value} {k : List RX} {A : List ByteArray} {L : List Eff} {why key s : ByteArray} {M : List En} {T : List Nat} {e e' : En} {res : Res}

def ReplyR (h0 h : Heap) (xb : Nat) (kv : Value) (now : Int) (av lv : Value) (res : Res) (r : Value) (h' : Heap) : Prop :=
  ∃ q lv' E why, RepAt h.size h' r q ∧ RxO h0 h (rxE xb kv now av lv [] noText) h' (rxE xb kv now av lv' E why) ∧ Jd res q E why

theorem rep_at {z a i : Int} {s : ByteArray} {zz : Nat} : RepAt zz h (.agg ⟨[.int .i64 a, .int .i64 i, .string s, .slice none 0 0]⟩) (rep a i s) := ⟨none, 0, 0, rfl, SL.nil, fun b hb => (nomatch (show b ∈ ([] : List Nat) from hb))⟩

theorem ReplyR.fin {b4 j : Nat} {a m : Int} {lv' : Value} {E : List Eff} (x : As h0 h (rxE xb kv now av lv [] noText)) (w : St (xb :: vblk lv) h h' M) (i j : Nat) (hi : M[i]? = some (.b b4 [.int .i64 a, .int .i64 m, .string s, .slice none 0 0])) (hj : M[j]? = some (rxE xb kv now av lv' E why))
    (hd : Jd res (rep a m s) E why) : ∃ vs, vs.length = 4 ∧ Cells h' b4 0 vs ∧ ReplyR h0 h xb kv now av lv res (.agg ⟨vs⟩) h' :=
  ⟨_, rfl, cells_blk (w.get i hi), rep a m s, lv', E, why, rep_at (z := 0), x.out w j hj, hd⟩

theorem Jd.ok {q : Rep} {E : List Eff} (h : res = .ok (q, E)) : Jd res q E noText := .inl ⟨rfl, h⟩
theorem Jd.no {q : Rep} {E : List Eff} (hw : why ≠ noText) (h : res = .error why) : Jd res q E why := .inr ⟨hw, h⟩

end

end Go.Proofs.YtgmkldaonkbjgaaGreatDoor
namespace Go.Proofs.YtgmkldaonkbjgaaGreatDoor
open Go Go.Sx Go.Proofs.YtgmkldaonkbjgaaGreatDoor.C

def BoundR (N : ByteArray) (lo hi : Int) : Prop := ∀ h, CallsH Tryz.prog 35 [.string N] h (Ret fun r h' => r = .tuple #[.int .i64 lo, .int .i64 hi, .bool true] ∧ h' = h)
section
variable {h0 h : Heap} {xb : Nat} {now : Int} {kv av lv : Value} {k : List RX} {A : List ByteArray} {key s : ByteArray}
end

end Go.Proofs.YtgmkldaonkbjgaaGreatDoor
namespace Go.Proofs.YtgmkldaonkbjgaaGreatDoor
open Go Go.Sx Go.Proofs.YtgmkldaonkbjgaaGreatDoor.C

section
variable {h0 h : Heap} {ab kb sb mb c : Nat} {now n : Int} {av lv : Value} {A : List ByteArray} {m : List KI} {S : Space} {key s a : ByteArray} {t : Thing} {go : Option Thing} {q : Rep} {E : List Eff}

def KindS (S : Space) : Prop := ∀ p ∈ S, 1 ≤ p.2.kind ∧ p.2.kind ≤ 5
def UntS (S : Space) : Prop := ∀ p ∈ S, In64 p.2.unt
end

end Go.Proofs.YtgmkldaonkbjgaaGreatDoor
namespace Go.Proofs.YtgmkldaonkbjgaaGreatDoor
open Go Go.Sx Go.Proofs.YtgmkldaonkbjgaaGreatDoor.C

section
variable {h0 h : Heap} {ab kb sb mb c : Nat} {now n : Int} {av lv : Value} {A : List ByteArray} {m : List KI} {S : Space}

theorem size_calls (x : AS h0 h ab kb now av A lv []) (kr0 : KR h0 kb sb mb c m) (hs : Sorted m S) : CallsH Tryz.prog 75 [ptr ab] h (CmdR h0 h ab kb now av A lv (cSize S now A)) := by
  refine f75_calls (by simp) ?_
  intro b2 h1 g1
  have w := x.st.new g1
  refine x.many w 1 rfl (fun hok _ => ?_) (fun hb => x.bad w (arg0_bad hb))
  obtain rfl := no_arg hok
  refine w.lda 1 rfl rfl ?_
  refine w.lda 1 rfl rfl ?_
  refine w.callv (Size_calls now (kr0.ext (x.base w)) hs) fun h3 w => ?_
  refine w.callv Bnumber_calls fun h4 w => ?_
  refine w.st1 0 rfl rfl rfl rfl fun h5 w => ?_
  exact x.fin w 0 1 rfl rfl rfl

theorem take_count {α : Type} (p : α → Bool) (l : List α) (q : Nat) (hq : q < l.length) : (l.take (q + 1)).countP p = (l.take q).countP p + (if p l[q] = true then 1 else 0) := by
  rw [List.take_succ_eq_append_getElem hq, List.countP_append, List.countP_singleton]

theorem exists_calls (x : AS h0 h ab kb now av A lv []) (kr0 : KR h0 kb sb mb c m) (hs : Sorted m S) : CallsH Tryz.prog 60 [ptr ab] h (CmdR h0 h ab kb now av A lv (cExists S now A)) := by
  refine f60_calls (by simp) ?_
  intro b2 h1 g1
  have w := x.st.new g1
  refine x.many w 1 rfl (fun hok _ => ?_) (fun hb => x.bad w (inMost_no hb))
  obtain ⟨b, o, cc, rfl⟩ := x.argF (by omega)
  rw [show cExists S now A = .ok (numR (A.countP (here S now)), []) from inMost_yes hok]
  refine w.lda 1 rfl rfl ?_
  refine loop_intro (fun q : Nat => [(0, ptr ab), (2, ptr b2), (3, .int .i64 ((A.take q).countP (here S now))), (13, .slice (some ⟨b, o, none⟩) A.length cc), (14, .int .i64 A.length), (15, .int .i64 q)])
    (fun q h' => q ≤ A.length ∧ St (ab :: vblk lv) h h' [.b b2 [.int .i64 0, .int .i64 0, .string ⟨#[]⟩, .slice none 0 0], asE ab kb now (.slice (some ⟨b, o, none⟩) A.length cc) lv []]) (fun q => A.length - q) 0 ⟨rfl, rfl, rfl, rfl, rfl, rfl, trivial⟩ ⟨Nat.zero_le _, w⟩ ?_
  rintro q h2 ⟨hq, w⟩
  refine And.intro rfl (And.intro (fun hlt => ?_) (fun hge => ?_))
  · have hlt : q < A.length := by omega
    have hcn := take_count (here S now) A q hlt
    have hle : (A.take q).countP (here S now) ≤ q := Nat.le_trans List.countP_le_length (by simp; omega)
    refine x.ix (x.base w) q rfl (List.getElem?_eq_getElem hlt) ?_
    refine w.lda 1 rfl rfl ?_
    refine w.lda 1 rfl rfl ?_
    refine get_two w (x.getc kr0 hs w A[q]) [(0, ptr ab), (2, ptr b2), (3, .int .i64 ((A.take q).countP (here S now))), (13, .slice (some ⟨b, o, none⟩) A.length cc), (14, .int .i64 A.length), (15, .int .i64 q)] rfl rfl rfl ⟨rfl, rfl, rfl, rfl, rfl, rfl, trivial⟩ rfl
      (mono_at (mono_blockQ (mono_seq (mono_round (mono_blockQ (mono_seq mono_retQ)))))) fun h3 b3 pv lw rv w => ?_
    rw [show here S now A[q] = (getS S A[q] now).isSome from rfl] at hcn
    generalize (getS S A[q] now).isSome = bo at hcn ⊢
    generalize getS S A[q] now = go at w
    have w' := w.pick [2, 3] (by decide)
    cases bo with
    | false =>
      refine And.intro rfl (fun z hz => ?_)
      have hz := add_in hz (by omega) (by omega)
      subst hz
      refine And.intro rfl (Exists.intro (q + 1) (And.intro ⟨rfl, rfl, ?_, rfl, rfl, rfl, trivial⟩ (And.intro ⟨by omega, w'⟩ (by omega))))
      rw [hcn]; rfl
    | true =>
      refine And.intro rfl (fun y hy => ?_)
      have hy := add_in hy (by omega) (by omega)
      subst hy
      refine And.intro rfl (fun z hz => ?_)
      have hz := add_in hz (by omega) (by omega)
      subst hz
      refine And.intro rfl (Exists.intro (q + 1) (And.intro ⟨rfl, rfl, ?_, rfl, rfl, rfl, trivial⟩ (And.intro ⟨by omega, w'⟩ (by omega))))
      rw [hcn]; rfl
  · have hkl : q = A.length := by omega
    subst hkl
    rw [List.take_length]
    refine w.callv Bnumber_calls fun h4 w => ?_
    refine w.st1 0 rfl rfl rfl rfl fun h5 w => ?_
    exact x.fin w 0 1 rfl rfl rfl
end

structure CM (es : List MapEntry) (pre : List ByteArray) : Prop where
  fits : ∀ e ∈ es, fits .str e.key = true
  cnt : ∀ k, (mfind (.string k) es 0 = none ∧ k ∉ pre) ∨ (∃ i, mfind (.string k) es 0 = some (i, .int .i64 (cntB k pre)) ∧ k ∈ pre)

theorem CM.nil : CM [] [] := ⟨by simp, fun k => .inl ⟨rfl, by simp⟩⟩
theorem key_same {e : MapEntry} {k : ByteArray} (hf : fits .str e.key = true) : Instr.sameBits 10000 (.string k) e.key = true ↔ e.key = .string k := by
  constructor
  · intro hs; exact (sameBits_eq (k := .str) (by rfl) hf hs).symm
  · intro e; rw [e]; exact sameBits_refl (k := .str) rfl
theorem mfind_app {k k' : ByteArray} {v : Value} {c : Nat} : ∀ {es : List MapEntry} {i : Nat}, (∀ e ∈ es, fits .str e.key = true) → mfind (.string k) es i = none →
    mfind (.string k') (es ++ [{ key := .string k, val := v, born := c }]) i = (if k' = k then some (i + es.length, v) else mfind (.string k') es i)
  | [], i, _, _ => by
    simp only [List.nil_append, mfind]
    by_cases h : k' = k
    · rw [if_pos h, if_pos (by rw [h]; exact sameBits_refl (k := .str) rfl)]; rfl
    · rw [if_neg h, if_neg]
      intro hs
      have := sameBits_eq (k := .str) (by rfl) (by rfl) hs
      simp at this
      exact h this
  | e :: es, i, hf, hn => by
    have hfe := hf e (by simp)
    simp only [mfind] at hn
    split at hn
    · cases hn
    · rename_i hne
      have ih := mfind_app (k := k) (k' := k') (v := v) (c := c) (es := es) (i := i + 1) (fun e he => hf e (by simp [he])) hn
      simp only [List.cons_append, mfind]
      rw [ih]
      by_cases h : k' = k
      · rw [if_pos h, if_pos h, h, if_neg hne]
        simp only [List.length_cons]
        congr 2; omega
      · rw [if_neg h, if_neg h]
theorem mfind_mod {k k' : ByteArray} {v u : Value} : ∀ {es : List MapEntry} {i j : Nat}, (∀ e ∈ es, fits .str e.key = true) → mfind (.string k) es i = some (i + j, u) →
    (k' = k → mfind (.string k') (es.modify j fun e => { e with val := v }) i = some (i + j, v)) ∧ (k' ≠ k → mfind (.string k') (es.modify j fun e => { e with val := v }) i = mfind (.string k') es i)
  | [], i, j, _, h => by simp [mfind] at h
  | e :: es, i, j, hf, h => by
    have hfe := hf e (by simp)
    simp only [mfind] at h
    split at h
    · rename_i hs
      simp at h
      have hj : j = 0 := by omega
      subst hj
      have hk := (key_same hfe).1 hs
      simp only [List.modify_zero_cons, mfind]
      refine ⟨fun e1 => ?_, fun hne => ?_⟩
      · rw [e1, if_pos hs]; rfl
      · have : ¬ (Instr.sameBits 10000 (.string k') e.key = true) := fun h2 => by
          have := (key_same hfe).1 h2
          rw [hk] at this
          simp at this
          exact hne this.symm
        rw [if_neg this, if_neg this]
    · rename_i hs
      cases j with
      | zero =>
        exfalso
        have : ∀ {es : List MapEntry} {i p : Nat} {u : Value}, mfind (.string k) es i = some (p, u) → i ≤ p := by
          intro es
          induction es with
          | nil => intro i p u h; simp [mfind] at h
          | cons e es ih =>
            intro i p u h
            simp only [mfind] at h
            split at h
            · simp at h; omega
            · have := ih h; omega
        have := this h
        omega
      | succ j =>
        have h : mfind (.string k) es (i + 1) = some (i + 1 + j, u) := by rw [h]; congr 2; omega
        obtain ⟨m1, m2⟩ := mfind_mod (k := k) (k' := k') (v := v) (fun e he => hf e (by simp [he])) h
        simp only [List.modify_succ_cons, mfind]
        refine ⟨fun e1 => ?_, fun hne => ?_⟩
        · rw [m1 e1, e1, if_neg hs]; congr 2; omega
        · rw [m2 hne]

theorem CM.put0 {es : List MapEntry} {pre : List ByteArray} (x : CM es pre) {k : ByteArray} {c : Nat} {n : Int} (h1 : mfind (.string k) es 0 = none) (h2 : k ∉ pre) (hn : n = 1) :
    CM (es ++ [{ key := .string k, val := .int .i64 n, born := c }]) (pre ++ [k]) := by
  have h0 : cntB k pre = 0 := cntB_zero h2
  refine ⟨fun e he => ?_, fun k' => ?_⟩
  · rcases List.mem_append.1 he with he | he
    · exact x.fits e he
    · rw [List.mem_singleton.1 he]; rfl
  · rw [mfind_app x.fits h1, cntB_snoc]
    by_cases hk : k' = k
    · rw [if_pos hk, if_pos hk]
      refine .inr ⟨0 + es.length, ?_, by simp [hk]⟩
      rw [hk, h0, hn]; rfl
    · rw [if_neg hk, if_neg hk]
      rcases x.cnt k' with ⟨h3, h4⟩ | ⟨j, h3, h4⟩
      · exact .inl ⟨h3, by simp [h4, hk]⟩
      · exact .inr ⟨j, by simpa using h3, by simp [h4]⟩
theorem CM.put1 {es : List MapEntry} {pre : List ByteArray} (x : CM es pre) {k : ByteArray} {i : Nat} {n : Int} (h1 : mfind (.string k) es 0 = some (i, .int .i64 (cntB k pre))) (hn : n = cntB k pre + 1) :
    CM (es.modify i fun e => { e with val := .int .i64 n }) (pre ++ [k]) := by
  have h1' : mfind (.string k) es 0 = some (0 + i, .int .i64 (cntB k pre)) := by rw [h1]; simp
  refine ⟨fun e he => ?_, fun k' => ?_⟩
  · obtain ⟨j, hj⟩ := List.getElem?_of_mem he
    rw [List.getElem?_modify] at hj
    obtain ⟨e0, he0, rfl⟩ := Option.map_eq_some_iff.1 hj
    have := x.fits e0 (List.mem_of_getElem? he0)
    split <;> exact this
  · obtain ⟨m1, m2⟩ := mfind_mod (k' := k') (v := .int .i64 n) x.fits h1'
    rw [cntB_snoc]
    by_cases hk : k' = k
    · rw [if_pos hk]
      refine .inr ⟨0 + i, ?_, by simp [hk]⟩
      rw [m1 hk, hk, hn]; rfl
    · rw [if_neg hk]
      rw [m2 hk]
      rcases x.cnt k' with ⟨h3, h4⟩ | ⟨j, h3, h4⟩
      · exact .inl ⟨h3, by simp [h4, hk]⟩
      · exact .inr ⟨j, by simpa using h3, by simp [h4]⟩
theorem CM.hit {es : List MapEntry} {pre : List ByteArray} {k : ByteArray} (x : CM es (pre ++ [k])) : ∃ i, mfind (.string k) es 0 = some (i, .int .i64 (cntB k pre + 1 : Nat)) := by
  rcases x.cnt k with ⟨_, h2⟩ | ⟨i, h1, _⟩
  · exact absurd (by simp) h2
  · rw [cntB_snoc, if_pos rfl] at h1
    exact ⟨i, h1⟩

end Go.Proofs.YtgmkldaonkbjgaaGreatDoor
namespace Go.Proofs.YtgmkldaonkbjgaaGreatDoor
open Go Go.Sx Go.Proofs.YtgmkldaonkbjgaaGreatDoor.C

def listV (a : Option Addr) (n c : Nat) : Value := .agg ⟨[.int .i64 5, .int .i64 0, .string noText, .slice a n c]⟩
theorem listV_ones (a : Option Addr) (n c : Nat) : ∀ u ∈ (listV a n c).cells.toList, u.oneCell' = true := by
  intro u hu
  have hu : u ∈ [Value.int .i64 5, .int .i64 0, .string noText, .slice a n c] := hu
  simp at hu
  rcases hu with rfl | rfl | rfl | rfl <;> rfl
theorem Blist_calls {h : Heap} {a : Option Addr} {n c : Nat} : CallsH Tryz.prog 112 [.slice a n c] h (Ret fun r h' => r = listV a n c ∧ Chg [] h h') := by
  refine f112_calls (by simp) ?_
  intro b h1 g1
  refine Exists.intro _ (And.intro g1.blk (And.intro (by decide) (And.intro rfl (And.intro (listV_ones a n c) ?_))))
  intro h2 p2
  have g2 := g1.put p2
  exact ⟨_, rfl, cells_blk g2.blk, rfl, g2.chg⟩

section
variable {h0 h h' : Heap} {ab kb sb mb c b2 : Nat} {now n : Int} {av lv v : Value} {A : List ByteArray} {m : List KI} {S : Space} {M : List En} {E : List Eff} {res : Except ByteArray (Rep × List Eff)} {ls : List (Int × Int × ByteArray)}

theorem AS.finl {a : Option Addr} {n c : Nat} {L0 : List Eff} (x : AS h0 h ab kb now av A lv L0) (w : St (ab :: vblk lv) h h' M) (i j l : Nat) (hi : M[i]? = some (.b b2 [.int .i64 5, .int .i64 0, .string noText, .slice a n c])) (hj : M[j]? = some (asE ab kb now av lv E))
    (hl : M[l]? = some (.o encQ 4 (.slice a n c) ls)) (hjl : l ≠ j) (he : res = .ok (⟨5, 0, noText, ls⟩, E)) : ∃ vs, vs.length = 4 ∧ Cells h' b2 0 vs ∧ CmdR h0 h ab kb now av A lv res (.returned (.agg ⟨vs⟩)) h' := by
  refine ⟨_, rfl, cells_blk (w.get i hi), x.ends w j hj ⟨a, n, c, rfl, (show OL encQ 4 h' (.slice a n c) ls from w.get l hl).sl, fun b hb => ?_⟩ he⟩
  rcases (w.ents l _ hl).2 b hb with h1 | h1
  · exact absurd h1 (w.apart l j _ _ hl hj hjl b hb)
  · exact h1

theorem _root_.Go.Sx.St.empty {T : List Nat} {α : Type} {enc : α → List Value} {size : Nat} (w : St T h0 h M) : St T h0 h (.o enc size (.slice none 0 0) ([] : List α) :: M) :=
  w.add (e := .o enc size (.slice none 0 0) ([] : List α)) (Chg.refl _) OL.nil (fun b hb => (nomatch (show b ∈ ([] : List Nat) from hb)))

def gMg : Option Thing → Int × Int × ByteArray
  | some t => if t.kind = 1 then (4, 0, t.text) else (0, 0, noText)
  | none => (0, 0, noText)
theorem mgetQ_eq (key : ByteArray) : mgetQ S now key = gMg (getS S key now) := by
  unfold mgetQ gMg
  cases getS S key now <;> rfl
theorem take_map {α β : Type} (f : α → β) (l : List α) (q : Nat) (hq : q < l.length) : (l.take (q + 1)).map f = (l.take q).map f ++ [f l[q]] := by
  rw [List.take_succ_eq_append_getElem hq, List.map_append]; rfl

theorem mget_calls (x : AS h0 h ab kb now av A lv []) (kr0 : KR h0 kb sb mb c m) (hs : Sorted m S) : CallsH Tryz.prog 69 [ptr ab] h (CmdR h0 h ab kb now av A lv (cMget S now A)) := by
  refine f69_calls (by simp) ?_
  intro b2 h1 g1
  have w := x.st.new g1
  refine x.many w 1 rfl (fun hok _ => ?_) (fun hb => x.bad w (inMost_no hb))
  obtain ⟨b, o, cc, rfl⟩ := x.argF (by omega)
  rw [show cMget S now A = .ok (⟨5, 0, noText, A.map (mgetQ S now)⟩, []) from inMost_yes hok]
  refine w.lda 1 rfl rfl ?_
  have w := w.empty (enc := encQ) (size := 4)
  refine loop_intro (fun q : Nat × Value => [(0, ptr ab), (2, ptr b2), (3, q.2), (13, .slice (some ⟨b, o, none⟩) A.length cc), (14, .int .i64 A.length), (15, .int .i64 q.1)])
    (fun q h' => q.1 ≤ A.length ∧ St (ab :: vblk lv) h h' [.o encQ 4 q.2 ((A.take q.1).map (mgetQ S now)), .b b2 [.int .i64 0, .int .i64 0, .string ⟨#[]⟩, .slice none 0 0], asE ab kb now (.slice (some ⟨b, o, none⟩) A.length cc) lv []])
    (fun q => A.length - q.1) (0, .slice none 0 0) ⟨rfl, rfl, rfl, rfl, rfl, rfl, trivial⟩ ⟨Nat.zero_le _, w⟩ ?_
  rintro ⟨q, v⟩ h2 ⟨hq, w⟩
  obtain ⟨a, c3, rfl, _⟩ := (show OL encQ 4 h2 v ((A.take q).map (mgetQ S now)) from w.get 0 rfl).sl.form
  have hq : q ≤ A.length := hq
  refine And.intro rfl (And.intro (fun hlt => ?_) (fun hge => ?_))
  · have hlt : q < A.length := by omega
    have hmp := take_map (mgetQ S now) A q hlt
    rw [mgetQ_eq (key := A[q])] at hmp
    have hln : ((A.take q).map (mgetQ S now)).length ≤ 65536 := by simp; omega
    refine x.ix (x.base w) q rfl (List.getElem?_eq_getElem hlt) ?_
    refine w.lda 2 rfl rfl ?_
    refine w.lda 2 rfl rfl ?_
    refine get_two w (x.getc kr0 hs w A[q]) [(0, ptr ab), (2, ptr b2), (3, .slice a ((A.take q).map (mgetQ S now)).length c3), (13, .slice (some ⟨b, o, none⟩) A.length cc), (14, .int .i64 A.length), (15, .int .i64 q)] rfl rfl rfl ⟨rfl, rfl, rfl, rfl, rfl, rfl, trivial⟩ rfl
      (mono_at (mono_blockQ (mono_seq (mono_round (mono_blockQ (mono_seq mono_retQ)))))) fun h3 b3 pv lw rv w => ?_
    generalize getS S A[q] now = go at w hmp
    have nil_ : ∀ {h4 : Heap} {b4 : Nat} {L : List En}, gMg go = (0, 0, noText) → St (ab :: vblk lv) h h4 (.b b4 [.int .i64 0, .int .i64 0, .string ⟨#[]⟩, .slice none 0 0] :: .b b3 (cellsT (go.getD zeroT) pv lw rv) :: thE (go.getD zeroT) pv lw rv :: .o encQ 4 (.slice a ((A.take q).map (mgetQ S now)).length c3) ((A.take q).map (mgetQ S now)) :: L) →
        SL encQ h4 (.slice (some ⟨b4, 0, none⟩) 1 1) [gMg go] := fun hg w => by
      rw [hg]; exact SL.one encQ_len (x := (0, 0, noText)) (w.get 0 rfl)
    cases go with
    | none =>
      intro b4 h4 g4
      have w := w.new g4
      refine w.app 3 rfl encQ_len encQ_one rfl (nil_ rfl w) (by simp only [List.length_singleton]; omega) fun v' h5 w => ?_
      rw [← hmp] at w
      have w := w.pick [3, 4, 5] (by decide)
      refine And.intro rfl (fun z hz => ?_)
      have hz := add_in hz (by omega) (by omega)
      subst hz
      exact And.intro rfl (Exists.intro (q + 1, v') (And.intro ⟨rfl, rfl, rfl, rfl, rfl, rfl, trivial⟩ (And.intro ⟨hlt, w⟩ (by simp only; omega))))
    | some t =>
      refine w.ld1 0 rfl rfl ?_
      refine And.intro rfl (And.intro (fun h1 => ?_) (fun h1 => ?_))
      · have hgm : gMg (some t) = (4, 0, t.text) := if_pos h1
        refine w.ld1 0 rfl rfl ?_
        refine w.callv Btext_calls fun h4 w => ?_
        intro b4 h5 g5
        have w := w.new g5
        refine w.app 3 rfl encQ_len encQ_one rfl (by rw [hgm] at hmp; exact SL.one encQ_len (x := (4, 0, t.text)) (w.get 0 rfl)) (by simp only [List.length_singleton]; omega) fun v' h6 w => ?_
        rw [← hgm, ← hmp] at w
        have w := w.pick [3, 4, 5] (by decide)
        refine And.intro rfl (fun z hz => ?_)
        have hz := add_in hz (by omega) (by omega)
        subst hz
        exact And.intro rfl (Exists.intro (q + 1, v') (And.intro ⟨rfl, rfl, rfl, rfl, rfl, rfl, trivial⟩ (And.intro ⟨hlt, w⟩ (by simp only; omega))))
      · intro b4 h4 g4
        have w := w.new g4
        refine w.app 3 rfl encQ_len encQ_one rfl (nil_ (if_neg h1) w) (by simp only [List.length_singleton]; omega) fun v' h5 w => ?_
        rw [← hmp] at w
        have w := w.pick [3, 4, 5] (by decide)
        refine And.intro rfl (fun z hz => ?_)
        have hz := add_in hz (by omega) (by omega)
        subst hz
        exact And.intro rfl (Exists.intro (q + 1, v') (And.intro ⟨rfl, rfl, rfl, rfl, rfl, rfl, trivial⟩ (And.intro ⟨hlt, w⟩ (by simp only; omega))))
  · have hkl : q = A.length := by omega
    subst hkl
    refine w.callv Blist_calls fun h4 w => ?_
    refine w.st1 1 rfl rfl rfl rfl fun h5 w => ?_
    exact x.finl w 1 2 0 rfl rfl rfl (by decide) (by rw [List.take_length])

theorem namesC_calls (x : AS h0 h ab kb now av A lv []) (kr0 : KR h0 kb sb mb c m) (hs : Sorted m S) (hn : S.length < 65537) : CallsH Tryz.prog 74 [ptr ab] h (CmdR h0 h ab kb now av A lv (cNames S now A)) := by
  refine f74_calls (by simp) ?_
  intro b2 h1 g1
  have w := x.st.new g1
  refine x.many w 1 rfl (fun hok _ => ?_) (fun hb => x.bad w (arg0_bad hb))
  obtain rfl := no_arg hok
  rw [show cNames S now [] = .ok (⟨5, 0, noText, (liveS now S).map fun s => (4, 0, s)⟩, []) from rfl]
  refine w.lda 1 rfl rfl ?_
  refine w.lda 1 rfl rfl ?_
  refine w.call (KNames_calls now (kr0.ext (x.base w)) hs) fun r h2 hr w => ?_
  have hll : (liveS now S).length ≤ 65536 := by
    have := liveS_len (now := now) (S := S); omega
  generalize hL : liveS now S = L at hr hll ⊢
  obtain ⟨a, cc, rfl, _⟩ := hr.form
  have u := (St.start h2).empty (enc := encQ) (size := 4)
  refine loop_intro (fun q : Nat × Value => [(0, ptr ab), (2, ptr b2), (3, q.2), (16, .slice a L.length cc), (17, .int .i64 L.length), (18, .int .i64 q.1)])
    (fun q h' => q.1 ≤ L.length ∧ St [] h2 h' [.o encQ 4 q.2 ((L.take q.1).map fun s => (4, 0, s))])
    (fun q => L.length - q.1) (0, .slice none 0 0) ⟨rfl, rfl, rfl, rfl, rfl, rfl, trivial⟩ ⟨Nat.zero_le _, u⟩ ?_
  rintro ⟨q, v⟩ h3 ⟨hq, u⟩
  obtain ⟨a3, c3, rfl, _⟩ := (show OL encQ 4 h3 v ((L.take q).map fun s => (4, 0, s)) from u.get 0 rfl).sl.form
  have hq : q ≤ L.length := hq
  refine And.intro rfl (And.intro (fun hlt => ?_) (fun hge => ?_))
  · have hlt : q < L.length := by omega
    have hmp := take_map (fun s : ByteArray => ((4 : Int), (0 : Int), s)) L q hlt
    have hln : ((L.take q).map fun s : ByteArray => ((4 : Int), (0 : Int), s)).length ≤ 65536 := by simp; omega
    obtain ⟨b, o, rfl⟩ := hr.addr (by omega)
    have hcs := (hr.ext u.chg).cells encS_len (List.getElem?_eq_getElem hlt)
    refine And.intro (by omega) (And.intro (by omega) (Exists.intro _ (And.intro (by simpa using hcs 0 _ rfl) ?_)))
    refine u.callv Btext_calls fun h4 u => ?_
    intro b4 h5 g5
    have u := u.new g5
    refine u.app 1 rfl encQ_len encQ_one rfl (SL.one encQ_len (x := (4, 0, L[q])) (u.get 0 rfl)) (by simp only [List.length_singleton]; omega) fun v' h6 u => ?_
    rw [← hmp] at u
    have u := u.pick [1] (by decide)
    refine And.intro rfl (fun z hz => ?_)
    have hz := add_in hz (by omega) (by omega)
    subst hz
    exact And.intro rfl (Exists.intro (q + 1, v') (And.intro ⟨rfl, rfl, rfl, rfl, rfl, rfl, trivial⟩ (And.intro ⟨hlt, u⟩ (by simp only; omega))))
  · have hkl : q = L.length := by omega
    subst hkl
    have w := w.add u.chg (u.get 0 rfl) (fun b hb => by
      rcases (u.ents 0 _ rfl).2 b hb with h1 | h1
      · cases h1
      · exact h1)
    refine w.callv Blist_calls fun h4 w => ?_
    refine w.st1 1 rfl rfl rfl rfl fun h5 w => ?_
    exact x.finl w 1 2 0 rfl rfl rfl (by decide) (by rw [List.take_length])
end

end Go.Proofs.YtgmkldaonkbjgaaGreatDoor
namespace Go.Proofs.YtgmkldaonkbjgaaGreatDoor
open Go Go.Sx Go.Proofs.YtgmkldaonkbjgaaGreatDoor.C

section
variable {h0 h : Heap} {ab kb sb mb c : Nat} {now n : Int} {av lv : Value} {A : List ByteArray} {m : List KI} {S : Space}

theorem delL_snoc {k : ByteArray} : ∀ {L pre : List ByteArray}, delL S now pre (L ++ [k]) = delL S now pre L ++ (if here S now k = true ∧ k ∉ pre ++ L then [goneE k] else [])
  | [], pre => by simp [delL]
  | x :: L, pre => by
    simp only [List.cons_append, delL]
    rw [delL_snoc (L := L) (pre := pre ++ [x])]
    simp [List.append_assoc]
theorem delL_take {q : Nat} (hq : q < A.length) : delL S now [] (A.take (q + 1)) = delL S now [] (A.take q) ++ (if here S now A[q] = true ∧ A[q] ∉ A.take q then [goneE A[q]] else []) := by
  rw [List.take_succ_eq_append_getElem hq, delL_snoc]; rfl
theorem delL_len : ∀ {L pre : List ByteArray}, (delL S now pre L).length ≤ L.length
  | [], pre => Nat.le_refl _
  | x :: L, pre => by
    have := delL_len (L := L) (pre := pre ++ [x])
    simp only [delL, List.length_append, List.length_cons]
    split <;> simp <;> omega

theorem del_calls (x : AS h0 h ab kb now av A lv []) (kr0 : KR h0 kb sb mb c m) (hs : Sorted m S) : CallsH Tryz.prog 59 [ptr ab] h (CmdR h0 h ab kb now av A lv (cDel S now A)) := by
  refine f59_calls (by simp) ?_
  intro b2 h1 g1
  have w := x.st.new g1
  refine x.many w 1 rfl (fun hok _ => ?_) (fun hb => x.bad w (inMost_no hb))
  obtain ⟨b, o, cc, rfl⟩ := x.argF (by omega)
  rw [show cDel S now A = .ok (numR (delL S now [] A).length, delL S now [] A) from inMost_yes hok]
  intro mb' h2 g2
  have w := w.newm g2
  refine w.lda 2 rfl rfl ?_
  refine loop_intro (fun q : Nat => [(0, ptr ab), (2, ptr b2), (3, .map (some mb')), (4, .int .i64 (delL S now [] (A.take q)).length), (15, .slice (some ⟨b, o, none⟩) A.length cc), (16, .int .i64 A.length), (17, .int .i64 q)])
    (fun q h' => q ≤ A.length ∧ ∃ es c' lv', CM es (A.take q) ∧ St (ab :: vblk lv) h h' [.m mb' es c', .b b2 [.int .i64 0, .int .i64 0, .string ⟨#[]⟩, .slice none 0 0], asE ab kb now (.slice (some ⟨b, o, none⟩) A.length cc) lv' (delL S now [] (A.take q))])
    (fun q => A.length - q) 0 ⟨rfl, rfl, rfl, rfl, rfl, rfl, rfl, trivial⟩ ⟨Nat.zero_le _, [], 0, lv, CM.nil, w⟩ ?_
  rintro q h3 ⟨hq, es, c', lv', cm, w⟩
  refine And.intro rfl (And.intro (fun hlt => ?_) (fun hge => ?_))
  · have hlt : q < A.length := by omega
    have hdt := delL_take (S := S) (now := now) hlt
    have hdl := delL_len (S := S) (now := now) (L := A.take q) (pre := [])
    have hdl : (delL S now [] (A.take q)).length ≤ q := Nat.le_trans hdl (by simp; omega)
    have htk : A.take (q + 1) = A.take q ++ [A[q]] := List.take_succ_eq_append_getElem hlt
    have hcl : cntB A[q] (A.take q) ≤ q := Nat.le_trans cntB_le (by simp; omega)
    refine x.ix (x.base w) q rfl (List.getElem?_eq_getElem hlt) ?_
    rcases cm.cnt A[q] with ⟨e1, hn⟩ | ⟨j, e1, hm⟩
    · have h0c : cntB A[q] (A.take q) = 0 := cntB_zero hn
      refine And.intro rfl (Exists.intro es (Exists.intro c' (And.intro (w.get 0 rfl) (And.intro cm.fits ?_))))
      rw [e1]
      refine And.intro rfl (fun z hz => ?_)
      have hz : z = 1 := by have := add_in hz (by omega) (by omega); omega
      subst hz
      refine And.intro rfl (Exists.intro es (Exists.intro c' (And.intro (w.get 0 rfl) (And.intro cm.fits ?_))))
      rw [e1]
      intro h4 p4
      have w := w.mput 0 rfl p4
      have cm := cm.put0 (c := c') e1 hn rfl
      obtain ⟨j2, e2⟩ := cm.hit
      rw [← htk] at cm
      refine And.intro rfl (Exists.intro _ (Exists.intro _ (And.intro (w.get 0 rfl) (And.intro cm.fits ?_))))
      rw [e2]
      refine And.intro rfl (And.intro (fun h9 => absurd h9 (by rw [h0c]; decide)) (fun _ => ?_))
      refine w.lda 2 rfl rfl ?_
      refine w.lda 2 rfl rfl ?_
      refine get_two w (x.getc kr0 hs w A[q]) [(0, ptr ab), (2, ptr b2), (3, .map (some mb')), (4, .int .i64 (delL S now [] (A.take q)).length), (6, .string A[q]), (15, .slice (some ⟨b, o, none⟩) A.length cc), (16, .int .i64 A.length), (17, .int .i64 q)] rfl rfl rfl
        ⟨rfl, rfl, rfl, rfl, rfl, rfl, rfl, rfl, trivial⟩ rfl (mono_at (mono_blockQ (mono_seq (mono_round (mono_blockQ (mono_seq mono_retQ)))))) fun h5 b3 pv lw rv w => ?_
      rw [show here S now A[q] = (getS S A[q] now).isSome from rfl] at hdt
      generalize getS S A[q] now = go at w hdt ⊢
      cases go with
      | none =>
        have w := w.pick [2, 3, 4] (by decide)
        rw [if_neg (by simp), List.append_nil] at hdt
        rw [← hdt] at w
        refine And.intro rfl (fun z hz => ?_)
        have hz := add_in hz (by omega) (by omega)
        subst hz
        refine And.intro rfl (Exists.intro (q + 1) (And.intro ⟨rfl, rfl, rfl, ?_, rfl, rfl, rfl, trivial⟩ (And.intro ⟨hlt, _, _, _, cm, w⟩ (by omega))))
        rw [hdt]; rfl
      | some t =>
        rw [if_pos ⟨rfl, hn⟩] at hdt
        refine And.intro rfl (fun y hy => ?_)
        have hy := add_in hy (by omega) (by omega)
        subst hy
        intro b5 h6 g6
        have w := w.new g6
        refine x.add w 5 rfl (one_sl (e := goneE A[q]) (w.get 0 rfl)) (by simp only [List.length_singleton]; omega) fun _ h7 lv2 w => ?_
        have w := w.pick [3, 4, 5] (by decide)
        rw [← hdt] at w
        refine And.intro rfl (fun z hz => ?_)
        have hz := add_in hz (by omega) (by omega)
        subst hz
        refine And.intro rfl (Exists.intro (q + 1) (And.intro ⟨rfl, rfl, rfl, ?_, rfl, rfl, rfl, trivial⟩ (And.intro ⟨hlt, _, _, _, cm, w⟩ (by omega))))
        rw [hdt, List.length_append]; rfl
    · have hpos : 0 < cntB A[q] (A.take q) := cntB_pos hm
      rw [if_neg (fun h => h.2 hm), List.append_nil] at hdt
      refine And.intro rfl (Exists.intro es (Exists.intro c' (And.intro (w.get 0 rfl) (And.intro cm.fits ?_))))
      rw [e1]
      refine And.intro rfl (fun z hz => ?_)
      have hz := add_in hz (by omega) (by omega)
      subst hz
      refine And.intro rfl (Exists.intro es (Exists.intro c' (And.intro (w.get 0 rfl) (And.intro cm.fits ?_))))
      rw [e1]
      intro h4 p4
      have w := w.mput 0 rfl p4
      have cm := cm.put1 e1 rfl
      obtain ⟨j2, e2⟩ := cm.hit
      rw [← htk] at cm
      refine And.intro rfl (Exists.intro _ (Exists.intro _ (And.intro (w.get 0 rfl) (And.intro cm.fits ?_))))
      rw [e2]
      refine And.intro rfl (And.intro (fun _ => ?_) (fun h9 => absurd h9 (by simp; omega)))
      rw [← hdt] at w
      refine And.intro rfl (fun z hz => ?_)
      have hz := add_in hz (by omega) (by omega)
      subst hz
      refine And.intro rfl (Exists.intro (q + 1) (And.intro ⟨rfl, rfl, rfl, ?_, rfl, rfl, rfl, trivial⟩ (And.intro ⟨hlt, _, _, _, cm, w⟩ (by omega))))
      rw [hdt]; rfl
  · have hkl : q = A.length := by omega
    subst hkl
    rw [List.take_length] at w ⊢
    refine w.callv Bnumber_calls fun h4 w => ?_
    refine w.st1 1 rfl rfl rfl rfl fun h5 w => ?_
    exact x.fin w 1 2 rfl rfl rfl

theorem msetL_two {k s : ByteArray} {r pre : List ByteArray} {E : List Eff} : msetL S now pre (k :: s :: r) E = (if s.size ≤ 1048576 ∧ k.size ≤ 1048576 then msetL S now (pre ++ [k]) r (E ++ ((if k ∈ pre then [] else dropsS S k now) ++ [textE k s])) else .error wLong) := rfl
theorem drop_pair {q : Nat} (h : q + 1 < A.length) : A.drop q = A[q] :: A[q + 1] :: A.drop (q + 2) := by
  rw [List.drop_eq_getElem_cons (by omega), List.drop_eq_getElem_cons h]

theorem mset_calls (x : AS h0 h ab kb now av A lv []) (kr0 : KR h0 kb sb mb c m) (hs : Sorted m S) (hA : ∀ s ∈ A, s.size < 281474976710656) : CallsH Tryz.prog 70 [ptr ab] h (CmdR h0 h ab kb now av A lv (cMset S now A)) := by
  refine f70_calls (by simp) ?_
  intro b2 h1 g1
  have w := x.st.new g1
  refine x.many w 1 rfl (fun hok _ => ?_) (fun hb => x.bad w (inMost_no hb))
  obtain ⟨b, o, cc, rfl⟩ := x.argF (by omega)
  rw [show cMset S now A = (if A.length % 2 = 0 then msetL S now [] A [] else .error wArgs) from inMost_yes hok]
  refine w.lda 1 rfl rfl ?_
  refine And.intro rfl (And.intro (by decide) (fun z hz => ?_))
  have hz : z = ((A.length % 2 : Nat) : Int) := by rw [hz]; exact (Int.ofNat_tmod A.length 2).symm
  subst hz
  refine And.intro rfl (And.intro (fun hev => must_yes fun _ => ?_) (fun hodd => must_no (x.bad w (if_neg (by omega)))))
  have hev : A.length % 2 = 0 := by omega
  rw [if_pos hev]
  intro mb' h2 g2
  have w := w.newm g2
  refine loop_intro (fun q : Nat => [(0, ptr ab), (2, ptr b2), (3, .map (some mb')), (4, .int .i64 (2 * q : Nat))])
    (fun q h' => 2 * q ≤ A.length ∧ ∃ es c' lv' pre E, CM es pre ∧ pre.length = q ∧ E.length ≤ 2 * q ∧ msetL S now [] A [] = msetL S now pre (A.drop (2 * q)) E ∧
      St (ab :: vblk lv) h h' [.m mb' es c', .b b2 [.int .i64 0, .int .i64 0, .string ⟨#[]⟩, .slice none 0 0], asE ab kb now (.slice (some ⟨b, o, none⟩) A.length cc) lv' E])
    (fun q => A.length - 2 * q) 0 ⟨rfl, rfl, rfl, rfl, trivial⟩ ⟨Nat.zero_le _, [], 0, lv, [], [], CM.nil, rfl, Nat.le_refl _, rfl, w⟩ ?_
  rintro q h3 ⟨hq, es, c', lv', pre, E, cm, hpl, hEl, heq, w⟩
  rw [heq]
  refine w.lda 2 rfl rfl ?_
  refine And.intro rfl (And.intro (fun hlt => ?_) (fun hge => ?_))
  · have hlt : 2 * q < A.length := by omega
    have hlt1 : 2 * q + 1 < A.length := by omega
    have hdr := drop_pair hlt1
    have hdt2 : A.drop (2 * (q + 1)) = A.drop (2 * q + 2) := rfl
    rw [hdr, msetL_two] at heq ⊢
    have hk9 := hA A[2 * q] (List.getElem_mem _)
    have hs9 := hA A[2 * q + 1] (List.getElem_mem _)
    generalize hk : A[2 * q] = k at heq hk9 ⊢
    generalize hsv : A[2 * q + 1] = s at heq hs9 ⊢
    have hcl : cntB k pre ≤ q := Nat.le_trans cntB_le (by omega)
    refine w.lda 2 rfl rfl ?_
    refine x.ix (x.base w) (2 * q) rfl (by rw [List.getElem?_eq_getElem hlt, hk]) ?_
    refine w.lda 2 rfl rfl ?_
    refine And.intro rfl (fun z hz => ?_)
    have hz := add_in hz (by omega) (by omega)
    subst hz
    refine x.ix (x.base w) (2 * q + 1) (by simp) (by rw [List.getElem?_eq_getElem hlt1, hsv]) ?_
    refine And.intro rfl (And.intro (fun h9 => ?_) (fun h9 => must_no (x.bad w (if_neg (fun hh => h9 (by omega))))))
    refine And.intro rfl (And.intro (fun h8 => ?_) (fun h8 => must_no (x.bad w (if_neg (fun hh => h8 (by omega))))))
    refine must_yes fun _ => ?_
    rw [if_pos ⟨by omega, by omega⟩] at heq ⊢
    rcases cm.cnt k with ⟨e1, hn⟩ | ⟨j, e1, hm⟩
    · have h0c : cntB k pre = 0 := cntB_zero hn
      rw [if_neg hn] at heq ⊢
      refine And.intro rfl (Exists.intro es (Exists.intro c' (And.intro (w.get 0 rfl) (And.intro cm.fits ?_))))
      rw [e1]
      refine And.intro rfl (fun z hz => ?_)
      have hz : z = 1 := by have := add_in hz (by omega) (by omega); omega
      subst hz
      refine And.intro rfl (Exists.intro es (Exists.intro c' (And.intro (w.get 0 rfl) (And.intro cm.fits ?_))))
      rw [e1]
      intro h4 p4
      have w := w.mput 0 rfl p4
      have cm := cm.put0 (c := c') e1 hn rfl
      obtain ⟨j2, e2⟩ := cm.hit
      refine And.intro rfl (Exists.intro _ (Exists.intro _ (And.intro (w.get 0 rfl) (And.intro cm.fits ?_))))
      rw [e2]
      refine And.intro rfl (And.intro (fun _ => ?_) (fun h7 => absurd (by rw [h0c]; rfl) h7))
      refine w.lda 2 rfl rfl ?_
      refine w.lda 2 rfl rfl ?_
      have dl := drops_len S k now
      refine call_ret (BDrops_calls k now (kr0.ext (x.base w)) hs) ?_
      rintro rd h5 ⟨od, hbd, c5⟩
      have w := w.ext c5
      refine x.add w 2 rfl od.sl (by omega) fun _ h6 lv2 w => ?_
      intro b5 h7 g7
      have w := w.new g7
      refine x.add w 3 rfl (one_sl (e := textE k s) (w.get 0 rfl)) (by simp only [List.length_singleton, List.length_append]; omega) fun _ h8 lv3 w => ?_
      have w := w.pick [1, 2, 3] (by decide)
      rw [List.append_assoc] at w
      refine And.intro rfl (fun z hz => ?_)
      have hz := add_in hz (by omega) (by omega)
      subst hz
      exact And.intro rfl (Exists.intro (q + 1) (And.intro ⟨rfl, rfl, rfl, rfl, trivial⟩ (And.intro ⟨by omega, _, _, _, _, _, cm, by simp [hpl], by simp only [List.length_append, List.length_singleton]; omega, rfl, w⟩ (by omega))))
    · have hpos : 0 < cntB k pre := cntB_pos hm
      rw [if_pos hm, List.nil_append] at heq ⊢
      refine And.intro rfl (Exists.intro es (Exists.intro c' (And.intro (w.get 0 rfl) (And.intro cm.fits ?_))))
      rw [e1]
      refine And.intro rfl (fun z hz => ?_)
      have hz := add_in hz (by omega) (by omega)
      subst hz
      refine And.intro rfl (Exists.intro es (Exists.intro c' (And.intro (w.get 0 rfl) (And.intro cm.fits ?_))))
      rw [e1]
      intro h4 p4
      have w := w.mput 0 rfl p4
      have cm := cm.put1 e1 rfl
      obtain ⟨j2, e2⟩ := cm.hit
      refine And.intro rfl (Exists.intro _ (Exists.intro _ (And.intro (w.get 0 rfl) (And.intro cm.fits ?_))))
      rw [e2]
      refine And.intro rfl (And.intro (fun h7 => absurd h7 (by simp; omega)) (fun _ => ?_))
      intro b5 h7 g7
      have w := w.new g7
      refine x.add w 3 rfl (one_sl (e := textE k s) (w.get 0 rfl)) (by simp only [List.length_singleton]; omega) fun _ h8 lv3 w => ?_
      have w := w.pick [1, 2, 3] (by decide)
      refine And.intro rfl (fun z hz => ?_)
      have hz := add_in hz (by omega) (by omega)
      subst hz
      exact And.intro rfl (Exists.intro (q + 1) (And.intro ⟨rfl, rfl, rfl, rfl, trivial⟩ (And.intro ⟨by omega, _, _, _, _, _, cm, by simp [hpl], by simp only [List.length_append, List.length_singleton]; omega, rfl, w⟩ (by omega))))
  · have hkl : A.drop (2 * q) = [] := List.drop_eq_nil_of_le (by omega)
    rw [hkl]
    refine w.callv Bok_calls fun h4 w => ?_
    refine w.st1 1 rfl rfl rfl rfl fun h5 w => ?_
    exact x.fin w 1 2 rfl rfl rfl
end

end Go.Proofs.YtgmkldaonkbjgaaGreatDoor
namespace Go.Proofs.YtgmkldaonkbjgaaGreatDoor
open Go Go.Sx Go.Proofs.YtgmkldaonkbjgaaGreatDoor.C

section
variable {h0 h h1 h' : Heap} {xb i : Nat} {now n : Int} {kv av lv : Value} {k : List RX} {A B : List ByteArray} {L : List Eff} {why key s : ByteArray} {M : List En} {T : List Nat} {res : Res}

theorem rnamed_calls {st u : Nat} (c : RC h0 kv k av A) (x : As h0 h (rxE xb kv now av lv L why)) (hB : ∀ j (hj : j < B.length), A[st * j]? = some B[j]) (hu : u = st * B.length) (hst : st = 1 ∨ st = 2) (hl : B.length ≤ 65536) :
    CallsH Tryz.prog 142 [ptr xb, .string key, .int .i64 u, .int .i64 st] h (Ret fun r h' => r = .bool (decide (key ∈ B)) ∧ h' = h) := by
  refine f142_calls (by simp) ?_
  have w := x.st
  refine loop_intro (fun q : Nat => [(0, ptr xb), (1, .string key), (2, .int .i64 u), (3, .int .i64 st), (9, .int .i64 (st * q : Nat))]) (fun q h' => q ≤ B.length ∧ h' = h ∧ key ∉ B.take q) (fun q => B.length - q) 0 ⟨rfl, rfl, rfl, rfl, rfl, trivial⟩ ⟨Nat.zero_le _, rfl, by simp⟩ ?_
  rintro q h' ⟨hq, e, hno⟩
  have e := e.symm
  subst e
  have hstep : st * (q + 1) = st * q + st := by rw [Nat.mul_succ]
  refine And.intro rfl (And.intro (fun hlt => ?_) (fun hge => ?_))
  · have hlt : q < B.length := by rcases hst with rfl | rfl <;> omega
    have hA := hB q hlt
    have hqa := (List.getElem?_eq_some_iff.1 hA).1
    obtain ⟨b, o, cc, rfl⟩ := c.argF (by omega)
    have htk : B.take (q + 1) = B.take q ++ [B[q]] := List.take_succ_eq_append_getElem hlt
    refine w.ldr 0 rfl rfl ?_
    refine c.ix (x.base w) (st * q) rfl hA ?_
    refine And.intro (fun he => ?_) (fun hne => ?_)
    · have he : B[q] = key := he
      have hm : key ∈ B := he ▸ List.getElem_mem hlt
      exact And.intro (by rw [decide_eq_true hm]; rfl) rfl
    · have hne : ¬ B[q] = key := hne
      refine And.intro rfl (fun z hz => ?_)
      have hz := add_in hz (by omega) (by rcases hst with rfl | rfl <;> omega)
      subst hz
      refine And.intro rfl (Exists.intro (q + 1) (And.intro ⟨rfl, rfl, rfl, rfl, ?_, trivial⟩ (And.intro ⟨hlt, rfl, ?_⟩ (by omega))))
      · show some (Value.int .i64 ((st * q : Nat) + (st : Int))) = some (.int .i64 ((st * (q + 1) : Nat) : Int))
        rw [hstep]; rfl
      · rw [htk]
        intro hm
        rcases List.mem_append.1 hm with hm | hm
        · exact hno hm
        · exact hne (List.mem_singleton.1 hm).symm
  · have hkl : q = B.length := by rcases hst with rfl | rfl <;> omega
    subst hkl
    rw [List.take_length] at hno
    exact And.intro (by rw [decide_eq_false hno]; rfl) rfl

theorem rexi_calls (c : RC h0 kv k av A) (x : As h0 h (rxE xb kv now av lv [] noText)) (hA : ∀ a ∈ A, a.size < 281474976710656) (hl : A.length ≤ 65536) : CallsH Tryz.prog 84 [ptr xb, .bool false] h
    (Ret (ReplyR h0 h xb kv now av lv (.ok (numR (A.countP (here (k.map RX.pr) now)), [])))) := by
  refine f84_calls (by simp) ?_
  intro b4 h1 g1
  have w := x.st.new g1
  refine loop_intro (fun q : Nat => [(0, ptr xb), (1, .bool false), (4, ptr b4), (5, .int .i64 ((A.take q).countP (here (k.map RX.pr) now))), (6, .int .i64 q)])
    (fun q h' => q ≤ A.length ∧ St (xb :: vblk lv) h h' [.b b4 [.int .i64 0, .int .i64 0, .string ⟨#[]⟩, .slice none 0 0], rxE xb kv now av lv [] noText]) (fun q => A.length - q) 0 ⟨rfl, rfl, rfl, rfl, rfl, trivial⟩ ⟨Nat.zero_le _, w⟩ ?_
  rintro q h2 ⟨hq, w⟩
  obtain ⟨a0, cc0, rfl⟩ := c.argN
  refine w.ldr 1 rfl rfl ?_
  refine And.intro rfl (And.intro (fun hlt => ?_) (fun hge => ?_))
  · have hlt : q < A.length := by omega
    obtain ⟨b, o, cc, e⟩ := c.argF (by omega)
    obtain ⟨rfl, rfl⟩ : a0 = some ⟨b, o, none⟩ ∧ cc0 = cc := by cases e; exact ⟨rfl, rfl⟩
    have hcn := take_count (here (k.map RX.pr) now) A q hlt
    have hle : (A.take q).countP (here (k.map RX.pr) now) ≤ q := Nat.le_trans List.countP_le_length (by simp; omega)
    have hsz := hA A[q] (List.getElem_mem hlt)
    refine w.ldr 1 rfl rfl ?_
    refine w.ldr 1 rfl rfl ?_
    refine c.ix (x.base w) q rfl (List.getElem?_eq_getElem hlt) ?_
    refine w.ldr 1 rfl rfl ?_
    refine get_twoR w (c.getS (x.base w) A[q] (by omega)) [(0, ptr xb), (1, .bool false), (4, ptr b4), (5, .int .i64 ((A.take q).countP (here (k.map RX.pr) now))), (6, .int .i64 q)] rfl rfl rfl ⟨rfl, rfl, rfl, rfl, rfl, trivial⟩ rfl
      (mono_at (mono_blockQ (mono_seq (mono_round (mono_blockQ (mono_seq mono_retQ)))))) fun h3 b7 pv lw rv w _ => ?_
    rw [show here (k.map RX.pr) now A[q] = (getS (k.map RX.pr) A[q] now).isSome from rfl] at hcn
    generalize (getS (k.map RX.pr) A[q] now).isSome = bo at hcn ⊢
    generalize (getS (k.map RX.pr) A[q] now).getD zeroT = t at w
    have w' := w.pick [1, 2] (by decide)
    cases bo with
    | false =>
      refine And.intro rfl (fun z hz => ?_)
      have hz := add_in hz (by omega) (by omega)
      subst hz
      refine And.intro rfl (Exists.intro (q + 1) (And.intro ⟨rfl, rfl, rfl, ?_, rfl, trivial⟩ (And.intro ⟨hlt, w'⟩ (by omega))))
      rw [hcn]; rfl
    | true =>
      refine And.intro rfl (fun y hy => ?_)
      have hy := add_in hy (by omega) (by omega)
      subst hy
      refine And.intro rfl (fun z hz => ?_)
      have hz := add_in hz (by omega) (by omega)
      subst hz
      refine And.intro rfl (Exists.intro (q + 1) (And.intro ⟨rfl, rfl, rfl, ?_, rfl, trivial⟩ (And.intro ⟨hlt, w'⟩ (by omega))))
      rw [hcn]; rfl
  · have hkl : q = A.length := by omega
    subst hkl
    rw [List.take_length]
    refine w.callv rInt_calls fun h4 w => ?_
    refine w.st1 0 rfl rfl rfl rfl fun h5 w => ?_
    exact ReplyR.fin (j := 0) x w 0 1 rfl rfl (Jd.ok rfl)

theorem rdel_calls (c : RC h0 kv k av A) (x : As h0 h (rxE xb kv now av lv [] noText)) (hA : ∀ a ∈ A, a.size < 281474976710656) (hl : A.length ≤ 65536) : CallsH Tryz.prog 84 [ptr xb, .bool true] h
    (Ret (ReplyR h0 h xb kv now av lv (.ok (numR (delL (k.map RX.pr) now [] A).length, delL (k.map RX.pr) now [] A)))) := by
  refine f84_calls (by simp) ?_
  intro b4 h1 g1
  have w := x.st.new g1
  refine loop_intro (fun q : Nat => [(0, ptr xb), (1, .bool true), (4, ptr b4), (5, .int .i64 (delL (k.map RX.pr) now [] (A.take q)).length), (6, .int .i64 q)])
    (fun q h' => q ≤ A.length ∧ ∃ lv', St (xb :: vblk lv) h h' [.b b4 [.int .i64 0, .int .i64 0, .string ⟨#[]⟩, .slice none 0 0], rxE xb kv now av lv' (delL (k.map RX.pr) now [] (A.take q)) noText]) (fun q => A.length - q) 0 ⟨rfl, rfl, rfl, rfl, rfl, trivial⟩ ⟨Nat.zero_le _, lv, w⟩ ?_
  rintro q h2 ⟨hq, lv', w⟩
  obtain ⟨a0, cc0, rfl⟩ := c.argN
  refine w.ldr 1 rfl rfl ?_
  refine And.intro rfl (And.intro (fun hlt => ?_) (fun hge => ?_))
  · have hlt : q < A.length := by omega
    obtain ⟨b, o, cc, e⟩ := c.argF (by omega)
    obtain ⟨rfl, rfl⟩ : a0 = some ⟨b, o, none⟩ ∧ cc0 = cc := by cases e; exact ⟨rfl, rfl⟩
    have hdt := delL_take (S := k.map RX.pr) (now := now) hlt
    have hdl := delL_len (S := k.map RX.pr) (now := now) (L := A.take q) (pre := [])
    have hdl : (delL (k.map RX.pr) now [] (A.take q)).length ≤ q := Nat.le_trans hdl (by simp; omega)
    have hsz := hA A[q] (List.getElem_mem hlt)
    refine w.ldr 1 rfl rfl ?_
    refine w.ldr 1 rfl rfl ?_
    refine c.ix (x.base w) q rfl (List.getElem?_eq_getElem hlt) ?_
    refine w.ldr 1 rfl rfl ?_
    refine get_twoR w (c.getS (x.base w) A[q] (by omega)) [(0, ptr xb), (1, .bool true), (4, ptr b4), (5, .int .i64 (delL (k.map RX.pr) now [] (A.take q)).length), (6, .int .i64 q)] rfl rfl rfl ⟨rfl, rfl, rfl, rfl, rfl, trivial⟩ rfl
      (mono_at (mono_blockQ (mono_seq (mono_round (mono_blockQ (mono_seq mono_retQ)))))) fun h3 b7 pv lw rv w _ => ?_
    rw [show here (k.map RX.pr) now A[q] = (getS (k.map RX.pr) A[q] now).isSome from rfl] at hdt
    generalize (getS (k.map RX.pr) A[q] now).isSome = bo at hdt ⊢
    generalize (getS (k.map RX.pr) A[q] now).getD zeroT = t at w
    have skip : (¬ (bo = true ∧ A[q] ∉ A.take q)) → ∀ {h4 : Heap}, St (xb :: vblk lv) h h4 [.b b4 [.int .i64 0, .int .i64 0, .string ⟨#[]⟩, .slice none 0 0], rxE xb kv now (.slice (some ⟨b, o, none⟩) A.length cc0) lv' (delL (k.map RX.pr) now [] (A.take q)) noText] →
        delL (k.map RX.pr) now [] (A.take (q + 1)) = delL (k.map RX.pr) now [] (A.take q) ∧ ∃ lv', St (xb :: vblk lv) h h4 [.b b4 [.int .i64 0, .int .i64 0, .string ⟨#[]⟩, .slice none 0 0], rxE xb kv now (.slice (some ⟨b, o, none⟩) A.length cc0) lv' (delL (k.map RX.pr) now [] (A.take (q + 1))) noText] := fun hn {h4} w => by
      rw [if_neg hn, List.append_nil] at hdt
      rw [hdt]
      exact ⟨rfl, _, w⟩
    cases bo with
    | false =>
      obtain ⟨e1, w'⟩ := skip (by simp) (w.pick [1, 2] (by decide))
      refine And.intro rfl (fun z hz => ?_)
      have hz := add_in hz (by omega) (by omega)
      subst hz
      refine And.intro rfl (Exists.intro (q + 1) (And.intro ⟨rfl, rfl, rfl, ?_, rfl, trivial⟩ (And.intro ⟨hlt, w'⟩ (by omega))))
      rw [e1]; rfl
    | true =>
      refine w.ldr 2 rfl rfl ?_
      refine c.ix (x.base w) q rfl (List.getElem?_eq_getElem hlt) ?_
      refine callp (rnamed_calls (st := 1) (u := q) (B := A.take q) c (x.out w 2 rfl).1 (fun j hj => by
        have hj' : j < q := by simp at hj; omega
        rw [Nat.one_mul, List.getElem_take, List.getElem?_eq_getElem (by omega)]) (by simp; omega) (.inl rfl) (by simp; omega)) ?_
      by_cases hm : A[q] ∈ A.take q
      · rw [decide_eq_true hm]
        obtain ⟨e1, w'⟩ := skip (fun hh => hh.2 hm) (w.pick [1, 2] (by decide))
        refine And.intro rfl (fun z hz => ?_)
        have hz := add_in hz (by omega) (by omega)
        subst hz
        refine And.intro rfl (Exists.intro (q + 1) (And.intro ⟨rfl, rfl, rfl, ?_, rfl, trivial⟩ (And.intro ⟨hlt, w'⟩ (by omega))))
        rw [e1]; rfl
      · rw [decide_eq_false hm]
        rw [if_pos ⟨rfl, hm⟩] at hdt
        obtain ⟨la, lc, rfl⟩ := w.rform 2 rfl
        refine And.intro rfl (fun y hy => ?_)
        have hy := add_in hy (by omega) (by omega)
        subst hy
        refine w.ldr 2 rfl rfl ?_
        refine w.ldr 2 rfl rfl ?_
        refine c.ix (x.base w) q rfl (List.getElem?_eq_getElem hlt) ?_
        intro b8 h4 g4
        have w := w.new g4
        refine w.rapp 3 rfl rfl (one_sl (e := goneE A[q]) (w.get 0 rfl)) (by simp only [List.length_cons, List.length_nil]; omega) fun a5 c5 h5 hst => ?_
        refine hst fun h6 w => ?_
        have w := w.pick [2, 3] (by decide)
        rw [← hdt] at w
        refine And.intro rfl (fun z hz => ?_)
        have hz := add_in hz (by omega) (by omega)
        subst hz
        refine And.intro rfl (Exists.intro (q + 1) (And.intro ⟨rfl, rfl, rfl, ?_, rfl, trivial⟩ (And.intro ⟨hlt, _, w⟩ (by omega))))
        rw [hdt, List.length_append]; rfl
  · have hkl : q = A.length := by omega
    subst hkl
    rw [List.take_length] at w ⊢
    refine w.callv rInt_calls fun h4 w => ?_
    refine w.st1 0 rfl rfl rfl rfl fun h5 w => ?_
    exact ReplyR.fin (j := 0) x w 0 1 rfl rfl (Jd.ok rfl)
end

end Go.Proofs.YtgmkldaonkbjgaaGreatDoor
namespace Go.Proofs.YtgmkldaonkbjgaaGreatDoor
open Go Go.Sx Go.Proofs.YtgmkldaonkbjgaaGreatDoor.C

section
variable {h0 h h1 h' : Heap} {xb i b4 : Nat} {now n : Int} {kv av lv : Value} {k : List RX} {A B : List ByteArray} {L E : List Eff} {why key s : ByteArray} {M : List En} {T : List Nat} {res : Res} {ls : List (Int × Int × ByteArray)}

theorem ReplyR.finl {a : Option Addr} {m c : Nat} {lv' : Value} (x : As h0 h (rxE xb kv now av lv [] noText)) (w : St (xb :: vblk lv) h h' M) (i j l : Nat) (hi : M[i]? = some (.b b4 [.int .i64 5, .int .i64 0, .string noText, .slice a m c])) (hj : M[j]? = some (rxE xb kv now av lv' E why))
    (hl : M[l]? = some (.o encQ 4 (.slice a m c) ls)) (hf : ∀ b ∈ ablk a, h.size ≤ b) (hd : Jd res ⟨5, 0, noText, ls⟩ E why) : ∃ vs, vs.length = 4 ∧ Cells h' b4 0 vs ∧ ReplyR h0 h xb kv now av lv res (.agg ⟨vs⟩) h' :=
  ⟨_, rfl, cells_blk (w.get i hi), ⟨5, 0, noText, ls⟩, lv', E, why, ⟨a, m, c, rfl, (show OL encQ 4 h' (.slice a m c) ls from w.get l hl).sl, hf⟩, x.out w j hj, hd⟩

theorem own_fresh {v : Value} {lv' : Value} {L' : List Eff} (w : St (xb :: vblk lv) h h' M) (l j : Nat) (hl : M[l]? = some (.o encQ 4 v ls)) (hj : M[j]? = some (rxE xb kv now av lv L' why)) (hlj : l ≠ j) : ∀ b ∈ vblk v, h.size ≤ b := fun b hb => by
  rcases (w.ents l _ hl).2 b hb with h1 | h1
  · exact absurd h1 (w.apart l j _ _ hl hj hlj b hb)
  · exact h1

theorem rmget_calls (c : RC h0 kv k av A) (x : As h0 h (rxE xb kv now av lv [] noText)) (hA : ∀ a ∈ A, a.size < 281474976710656) (hl : A.length ≤ 65536) : CallsH Tryz.prog 89 [ptr xb, .bool false] h
    (Ret (ReplyR h0 h xb kv now av lv (.ok (⟨5, 0, noText, A.map (mgetQ (k.map RX.pr) now)⟩, [])))) := by
  refine f89_calls (by simp) ?_
  intro b4 h1 g1
  have w := x.st.new g1
  intro b5 h2 g2
  have w := w.new g2
  refine w.st1 0 rfl rfl rfl rfl fun h3 w => ?_
  have w := w.empty (enc := encQ) (size := 4)
  refine loop_intro (fun q : Nat => [(0, ptr xb), (1, .bool false), (4, ptr b4), (5, ptr b5), (6, .int .i64 q)])
    (fun q h' => q ≤ A.length ∧ ∃ v, St (xb :: vblk lv) h h' [.o encQ 4 v ((A.take q).map (mgetQ (k.map RX.pr) now)), .b b5 [.int .i64 5, .int .i64 0, .string ⟨#[]⟩, v], .b b4 [.int .i64 0, .int .i64 0, .string ⟨#[]⟩, .slice none 0 0], rxE xb kv now av lv [] noText])
    (fun q => A.length - q) 0 ⟨rfl, rfl, rfl, rfl, rfl, trivial⟩ ⟨Nat.zero_le _, .slice none 0 0, w⟩ ?_
  rintro q h2 ⟨hq, v, w⟩
  obtain ⟨a3, c3, rfl, _⟩ := (show OL encQ 4 h2 v ((A.take q).map (mgetQ (k.map RX.pr) now)) from w.get 0 rfl).sl.form
  obtain ⟨a0, cc0, rfl⟩ := c.argN
  refine w.ldr 3 rfl rfl ?_
  refine And.intro rfl (And.intro (fun hlt => ?_) (fun hge => ?_))
  · have hlt : q < A.length := by omega
    obtain ⟨b, o, cc, e⟩ := c.argF (by omega)
    obtain ⟨rfl, rfl⟩ : a0 = some ⟨b, o, none⟩ ∧ cc0 = cc := by cases e; exact ⟨rfl, rfl⟩
    have hmp := take_map (mgetQ (k.map RX.pr) now) A q hlt
    rw [mgetQ_eq (key := A[q])] at hmp
    have hln : ((A.take q).map (mgetQ (k.map RX.pr) now)).length ≤ 65536 := by simp; omega
    have hsz := hA A[q] (List.getElem_mem hlt)
    refine w.ldr 3 rfl rfl ?_
    refine w.ldr 3 rfl rfl ?_
    refine c.ix (x.base w) q rfl (List.getElem?_eq_getElem hlt) ?_
    refine w.ldr 3 rfl rfl ?_
    refine get_twoR w (c.getS (x.base w) A[q] (by omega)) [(0, ptr xb), (1, .bool false), (4, ptr b4), (5, ptr b5), (6, .int .i64 q)] rfl rfl rfl ⟨rfl, rfl, rfl, rfl, rfl, trivial⟩ rfl
      (mono_at (mono_seq (mono_blockQ (mono_seq (mono_round (mono_blockQ (mono_seq mono_retQ))))))) fun h3 b7 pv lw rv w _ => ?_
    generalize getS (k.map RX.pr) A[q] now = go at w hmp
    have nxt : ∀ {v : Value} {h' : Heap}, St (xb :: vblk lv) h h' [.o encQ 4 v ((A.take (q + 1)).map (mgetQ (k.map RX.pr) now)), .b b5 [.int .i64 5, .int .i64 0, .string ⟨#[]⟩, v], .b b4 [.int .i64 0, .int .i64 0, .string ⟨#[]⟩, .slice none 0 0], rxE xb kv now (.slice (some ⟨b, o, none⟩) A.length cc0) lv [] noText] →
      ∃ v, St (xb :: vblk lv) h h' [.o encQ 4 v ((A.take (q + 1)).map (mgetQ (k.map RX.pr) now)), .b b5 [.int .i64 5, .int .i64 0, .string ⟨#[]⟩, v], .b b4 [.int .i64 0, .int .i64 0, .string ⟨#[]⟩, .slice none 0 0], rxE xb kv now (.slice (some ⟨b, o, none⟩) A.length cc0) lv [] noText] := fun w => ⟨_, w⟩
    intro b9 h4 g4
    have w := w.new g4
    refine w.st1 0 rfl rfl rfl rfl fun h5 w => ?_
    cases go with
    | none =>
      refine w.ld1 3 rfl rfl ?_
      refine w.ldw 0 rfl rfl ?_
      intro b10 h8 g8
      have w := w.new g8
      refine w.app 3 rfl encQ_len encQ_one rfl (SL.one encQ_len (x := (0, 0, noText)) (w.get 0 rfl)) (by simp only [List.length_cons, List.length_nil]; omega) fun v' h9 w => ?_
      rw [show ((0, 0, noText) : Int × Int × ByteArray) = gMg none from rfl, ← hmp] at w
      obtain ⟨a6, c6, rfl, _⟩ := (show OL encQ 4 h9 v' ((A.take (q + 1)).map (mgetQ (k.map RX.pr) now)) from w.get 3 rfl).sl.form
      refine w.st1 4 rfl rfl rfl rfl fun h10 w => ?_
      have w := w.pick [3, 4, 5, 6] (by decide)
      refine And.intro rfl (fun z hz => ?_)
      have hz := add_in hz (by omega) (by omega)
      subst hz
      exact And.intro rfl (Exists.intro (q + 1) (And.intro ⟨rfl, rfl, rfl, rfl, rfl, trivial⟩ (And.intro ⟨hlt, nxt w⟩ (by omega))))
    | some t =>
      refine w.ld1 1 rfl rfl ?_
      refine And.intro rfl (And.intro (fun h1 => ?_) (fun h1 => ?_))
      · refine w.ld1 1 rfl rfl ?_
        refine w.callv rText_calls fun h6 w => ?_
        refine w.st1 0 rfl rfl rfl rfl fun h7 w => ?_
        refine w.ld1 3 rfl rfl ?_
        refine w.ldw 0 rfl rfl ?_
        intro b10 h8 g8
        have w := w.new g8
        refine w.app 3 rfl encQ_len encQ_one rfl (SL.one encQ_len (x := (4, 0, t.text)) (w.get 0 rfl)) (by simp only [List.length_cons, List.length_nil]; omega) fun v' h9 w => ?_
        rw [show ((4, 0, t.text) : Int × Int × ByteArray) = gMg (some t) from (if_pos h1).symm, ← hmp] at w
        obtain ⟨a6, c6, rfl, _⟩ := (show OL encQ 4 h9 v' ((A.take (q + 1)).map (mgetQ (k.map RX.pr) now)) from w.get 3 rfl).sl.form
        refine w.st1 4 rfl rfl rfl rfl fun h10 w => ?_
        have w := w.pick [3, 4, 5, 6] (by decide)
        refine And.intro rfl (fun z hz => ?_)
        have hz := add_in hz (by omega) (by omega)
        subst hz
        exact And.intro rfl (Exists.intro (q + 1) (And.intro ⟨rfl, rfl, rfl, rfl, rfl, trivial⟩ (And.intro ⟨hlt, nxt w⟩ (by omega))))
      · refine w.ld1 3 rfl rfl ?_
        refine w.ldw 0 rfl rfl ?_
        intro b10 h8 g8
        have w := w.new g8
        refine w.app 3 rfl encQ_len encQ_one rfl (SL.one encQ_len (x := (0, 0, noText)) (w.get 0 rfl)) (by simp only [List.length_cons, List.length_nil]; omega) fun v' h9 w => ?_
        rw [show ((0, 0, noText) : Int × Int × ByteArray) = gMg (some t) from (if_neg h1).symm, ← hmp] at w
        obtain ⟨a6, c6, rfl, _⟩ := (show OL encQ 4 h9 v' ((A.take (q + 1)).map (mgetQ (k.map RX.pr) now)) from w.get 3 rfl).sl.form
        refine w.st1 4 rfl rfl rfl rfl fun h10 w => ?_
        have w := w.pick [3, 4, 5, 6] (by decide)
        refine And.intro rfl (fun z hz => ?_)
        have hz := add_in hz (by omega) (by omega)
        subst hz
        exact And.intro rfl (Exists.intro (q + 1) (And.intro ⟨rfl, rfl, rfl, rfl, rfl, trivial⟩ (And.intro ⟨hlt, nxt w⟩ (by omega))))
  · have hkl : q = A.length := by omega
    subst hkl
    refine w.ldw 1 rfl rfl ?_
    refine w.st1 2 rfl rfl rfl rfl fun h4 w => ?_
    refine ReplyR.finl x w 2 3 0 rfl rfl rfl (own_fresh (lv' := lv) w 0 3 rfl rfl (by decide)) (Jd.ok (by rw [List.take_length]))

theorem rmset_calls (c : RC h0 kv k av A) (x : As h0 h (rxE xb kv now av lv [] noText)) (hA : ∀ a ∈ A, a.size < 281474976710656) (hl : A.length ≤ 1000) : CallsH Tryz.prog 89 [ptr xb, .bool true] h
    (Ret (ReplyR h0 h xb kv now av lv (if A.length % 2 = 0 then msetL (k.map RX.pr) now [] A [] else .error wArgs))) := by
  refine f89_calls (by simp) ?_
  intro b4 h1 g1
  have w := x.st.new g1
  intro b5 h2 g2
  have w := w.new g2
  refine w.st1 0 rfl rfl rfl rfl fun h3 w => ?_
  obtain ⟨a0, cc0, rfl⟩ := c.argN
  refine w.ldr 2 rfl rfl ?_
  refine And.intro rfl (And.intro (by decide) (fun z hz => ?_))
  have hz : z = ((A.length % 2 : Nat) : Int) := by rw [hz]; exact (Int.ofNat_tmod A.length 2).symm
  subst hz
  have bad : ∀ {h4 : Heap} {E : List Eff} {lv' : Value} {why : ByteArray} {res : Res}, res = .error why → why ≠ noText → St (xb :: vblk lv) h h4 [.b b5 [.int .i64 5, .int .i64 0, .string ⟨#[]⟩, .slice none 0 0], .b b4 [.int .i64 5, .int .i64 0, .string ⟨#[]⟩, .slice none 0 0], rxE xb kv now (.slice a0 A.length cc0) lv' E why] →
      ∃ vs, vs.length = 4 ∧ Cells h4 b4 0 vs ∧ ReplyR h0 h xb kv now (.slice a0 A.length cc0) lv res (.agg ⟨vs⟩) h4 := fun hr hw w => ReplyR.fin (j := 0) x w 1 2 rfl rfl (Jd.no hw hr)
  refine And.intro rfl (And.intro (fun hodd => ?_) (fun hev => ?_))
  · rw [if_neg (by omega)]
    refine w.stw 2 rfl fun h4 w => ?_
    refine w.ldw 0 rfl rfl ?_
    refine w.st1 1 rfl rfl rfl rfl fun h5 w => ?_
    exact bad rfl (by decide) w
  have hev : A.length % 2 = 0 := by omega
  rw [if_pos hev]
  refine loop_intro (fun q : Nat => [(0, ptr xb), (1, .bool true), (4, ptr b4), (5, ptr b5), (6, .int .i64 (2 * q : Nat))])
    (fun q h' => 2 * q ≤ A.length ∧ ∃ lv' pre E, pre.length = q ∧ (∀ j (hj : j < pre.length), A[2 * j]? = some pre[j]) ∧ E.length ≤ 2 * q ∧ msetL (k.map RX.pr) now [] A [] = msetL (k.map RX.pr) now pre (A.drop (2 * q)) E ∧
      St (xb :: vblk lv) h h' [.b b5 [.int .i64 5, .int .i64 0, .string ⟨#[]⟩, .slice none 0 0], .b b4 [.int .i64 0, .int .i64 0, .string ⟨#[]⟩, .slice none 0 0], rxE xb kv now (.slice a0 A.length cc0) lv' E noText])
    (fun q => A.length - 2 * q) 0 ⟨rfl, rfl, rfl, rfl, rfl, trivial⟩ ⟨Nat.zero_le _, lv, [], [], rfl, fun j hj => (nomatch hj), Nat.le_refl _, rfl, w⟩ ?_
  rintro q h4 ⟨hq, lv', pre, E, hpl, hpa, hEl, heq, w⟩
  rw [heq]
  refine w.ldr 2 rfl rfl ?_
  refine And.intro rfl (And.intro (fun hlt => ?_) (fun hge => ?_))
  · have hlt : 2 * q < A.length := by omega
    have hlt1 : 2 * q + 1 < A.length := by omega
    obtain ⟨b, o, cc, e⟩ := c.argF (by omega)
    obtain ⟨rfl, rfl⟩ : a0 = some ⟨b, o, none⟩ ∧ cc0 = cc := by cases e; exact ⟨rfl, rfl⟩
    have hdr := drop_pair hlt1
    rw [hdr, msetL_two] at heq ⊢
    have hk9 := hA A[2 * q] (List.getElem_mem _)
    have hs9 := hA A[2 * q + 1] (List.getElem_mem _)
    have g0 : A[2 * q]? = some A[2 * q] := List.getElem?_eq_getElem hlt
    have g1 : A[2 * q + 1]? = some A[2 * q + 1] := List.getElem?_eq_getElem hlt1
    generalize A[2 * q] = ky at heq hk9 g0 ⊢
    generalize A[2 * q + 1] = s at heq hs9 g1 ⊢
    refine w.ldr 2 rfl rfl ?_
    refine c.ix (x.base w) (2 * q) rfl g0 ?_
    refine And.intro rfl (And.intro (fun h9 => ?_) (fun h9 => ?_))
    · rw [if_neg (fun hh => absurd hh.2 (by omega))]
      refine w.stw 2 rfl fun h5 w => ?_
      refine w.ldw 0 rfl rfl ?_
      refine w.st1 1 rfl rfl rfl rfl fun h6 w => ?_
      exact bad rfl (by decide) w
    refine w.ldr 2 rfl rfl ?_
    refine And.intro rfl (fun z hz => ?_)
    have hz := add_in hz (by omega) (by omega)
    subst hz
    refine c.ix (x.base w) (2 * q + 1) (by simp) g1 ?_
    refine And.intro rfl (And.intro (fun h8 => ?_) (fun h8 => ?_))
    · rw [if_neg (fun hh => absurd hh.1 (by omega))]
      refine w.stw 2 rfl fun h5 w => ?_
      refine w.ldw 0 rfl rfl ?_
      refine w.st1 1 rfl rfl rfl rfl fun h6 w => ?_
      exact bad rfl (by decide) w
    rw [if_pos ⟨by omega, by omega⟩] at heq ⊢
    refine w.ldr 2 rfl rfl ?_
    refine c.ix (x.base w) (2 * q) rfl g0 ?_
    refine callp (rnamed_calls (st := 2) (u := 2 * q) (B := pre) c (x.out w 2 rfl).1 hpa (by rw [hpl]) (.inr rfl) (by omega)) ?_
    have pre' : ∀ j (hj : j < (pre ++ [ky]).length), A[2 * j]? = some (pre ++ [ky])[j] := fun j hj => by
      by_cases hjp : j < pre.length
      · rw [List.getElem_append_left hjp]; exact hpa j hjp
      · have : j = pre.length := by simp at hj; omega
        subst this
        rw [List.getElem_append_right (Nat.le_refl _)]
        simp only [Nat.sub_self, List.getElem_cons_zero]
        rw [hpl]; exact g0
    have put : ∀ {h5 : Heap} {lv5 : Value} {E5 : List Eff} {K : Heap → Prop}, E5.length ≤ 2 * q + 1 → St (xb :: vblk lv) h h5 [.b b5 [.int .i64 5, .int .i64 0, .string ⟨#[]⟩, .slice none 0 0], .b b4 [.int .i64 0, .int .i64 0, .string ⟨#[]⟩, .slice none 0 0], rxE xb kv now (.slice (some ⟨b, o, none⟩) A.length cc0) lv5 E5 noText] →
        ∃ la lc, lv5 = .slice la E5.length lc := fun _ w => w.rform 2 rfl
    by_cases hm : ky ∈ pre
    · rw [decide_eq_true hm]
      rw [if_pos hm, List.nil_append] at heq ⊢
      obtain ⟨la, lc, rfl⟩ := w.rform 2 rfl
      refine w.ldr 2 rfl rfl ?_
      refine w.ldr 2 rfl rfl ?_
      refine c.ix (x.base w) (2 * q) rfl g0 ?_
      refine w.ldr 2 rfl rfl ?_
      refine And.intro rfl (fun z hz => ?_)
      have hz := add_in hz (by omega) (by omega)
      subst hz
      refine c.ix (x.base w) (2 * q + 1) (by simp) g1 ?_
      intro b8 h6 g6
      have w := w.new g6
      refine w.rapp 3 rfl rfl (one_sl (e := textE ky s) (w.get 0 rfl)) (by simp only [List.length_cons, List.length_nil]; omega) fun a5 c5 h7 hst => ?_
      refine hst fun h8 w => ?_
      have w := w.pick [1, 2, 3] (by decide)
      refine And.intro rfl (fun z hz => ?_)
      have hz := add_in hz (by omega) (by omega)
      subst hz
      refine And.intro rfl (fun z hz => ?_)
      have hz := add_in hz (by omega) (by omega)
      subst hz
      exact And.intro rfl (Exists.intro (q + 1) (And.intro ⟨rfl, rfl, rfl, rfl, rfl, trivial⟩ (And.intro ⟨by omega, _, _, _, by simp [hpl], pre', by simp only [List.length_append, List.length_cons, List.length_nil]; omega, rfl, w⟩ (by omega))))
    · rw [decide_eq_false hm]
      rw [if_neg hm] at heq ⊢
      have dl := drops_len (k.map RX.pr) ky now
      refine w.ldr 2 rfl rfl ?_
      refine c.ix (x.base w) (2 * q) rfl g0 ?_
      refine call_ret (rgone_calls c (x.out w 2 rfl).1 (by omega) (by omega)) ?_
      rintro _ h5 ⟨lv5, _, o5⟩
      have w := w.own 2 rfl o5
      obtain ⟨la, lc, rfl⟩ := w.rform 2 rfl
      refine w.ldr 2 rfl rfl ?_
      refine w.ldr 2 rfl rfl ?_
      refine c.ix (x.base w) (2 * q) rfl g0 ?_
      refine w.ldr 2 rfl rfl ?_
      refine And.intro rfl (fun z hz => ?_)
      have hz := add_in hz (by omega) (by omega)
      subst hz
      refine c.ix (x.base w) (2 * q + 1) (by simp) g1 ?_
      intro b8 h6 g6
      have w := w.new g6
      refine w.rapp 3 rfl rfl (one_sl (e := textE ky s) (w.get 0 rfl)) (by simp only [List.length_cons, List.length_nil, List.length_append]; omega) fun a5 c5 h7 hst => ?_
      refine hst fun h8 w => ?_
      have w := w.pick [1, 2, 3] (by decide)
      rw [List.append_assoc] at w
      refine And.intro rfl (fun z hz => ?_)
      have hz := add_in hz (by omega) (by omega)
      subst hz
      refine And.intro rfl (fun z hz => ?_)
      have hz := add_in hz (by omega) (by omega)
      subst hz
      exact And.intro rfl (Exists.intro (q + 1) (And.intro ⟨rfl, rfl, rfl, rfl, rfl, trivial⟩ (And.intro ⟨by omega, _, _, _, by simp [hpl], pre', by simp only [List.length_append, List.length_cons, List.length_nil]; omega, rfl, w⟩ (by omega))))
  · have hkl : A.drop (2 * q) = [] := List.drop_eq_nil_of_le (by omega)
    rw [hkl]
    refine w.callv rStatus_calls fun h5 w => ?_
    refine w.st1 1 rfl rfl rfl rfl fun h6 w => ?_
    exact ReplyR.fin (j := 0) x w 1 2 rfl rfl (Jd.ok rfl)
end

end Go.Proofs.YtgmkldaonkbjgaaGreatDoor
namespace Go.Proofs.YtgmkldaonkbjgaaGreatDoor
open Go Go.Sx Go.Proofs.YtgmkldaonkbjgaaGreatDoor.C

theorem do_D : SoundD Tryz.prog 11 46 f11 [.cn 6 4, .c1 7, .t 8] := soundD_of (fl := true) mixed Tryz.func11 rfl (by kernel_rfl) (by kernel_rfl) (by kernel_rfl)
theorem dodef_F : SoundF Tryz.prog 26 14 f26 [] := soundF_of (fl := true) mixed Tryz.func26 rfl (by kernel_rfl) (by kernel_rfl) (by kernel_rfl)

theorem dodef_calm {h : Heap} {b6 b7 : Nat} : DefH Tryz.prog 26 [ptr b6, ptr b7] .returning h fun e u' h' => (∃ v, e = .returned v) ∧ u' = .returning ∧ h' = h := by
  refine dodef_F (by simp) ?_
  exact ⟨rfl, ⟨_, rfl⟩, rfl, rfl⟩

theorem BFail_calls {h : Heap} {s : ByteArray} : CallsH Tryz.prog 27 [.string s] h (Ret fun r h' => r = repV 2 0 s ∧ Chg [] h h') := by
  refine f27_calls (by simp) ?_
  intro b h1 g1
  refine Exists.intro _ (And.intro g1.blk (And.intro (by decide) (And.intro rfl (And.intro (repV_ones 2 0 s) ?_))))
  intro h2 p2
  have g2 := g1.put p2
  exact ⟨_, rfl, cells_blk g2.blk, rfl, g2.chg⟩

theorem dodef_stop {h : Heap} {b6 b7 : Nat} {why : ByteArray} {r4 : List Value} {lv : Value} (B6 : Blk h b6 r4) (hr : r4.length = 4) (B7 : Blk h b7 [lv]) (hne : b6 ≠ b7) :
    DefH Tryz.prog 26 [ptr b6, ptr b7] (.panicking (stopE why)) h fun e u' h' => (∃ v, e = .returned v) ∧ u' = .panicking [{ v := .iface 80 (.agg #[.string why]), recovered := true }] ∧
      Blk h' b6 [.int .i64 2, .int .i64 0, .string why, .slice none 0 0] ∧ Blk h' b7 [.slice none 0 0] ∧ Chg [b6, b7] h h' := by
  refine dodef_F (by simp) ?_
  have l6 := B6.lt
  have l7 := B7.lt
  refine And.intro (fun _ => ?_) (fun hne => absurd rfl hne)
  intro b3 h1 g1
  refine Exists.intro _ (And.intro g1.blk (And.intro (by decide) (And.intro rfl (And.intro (ones1 rfl) ?_))))
  intro h2 p2
  have g2 := g1.put p2
  have B3 : Blk h2 b3 [.string why] := p2.blk
  refine Exists.intro _ (And.intro (cell_blk B3 rfl) ?_)
  refine call_ret BFail_calls ?_
  rintro _ h3 ⟨rfl, c3⟩
  have c03 := g2.chg.nil c3
  refine Exists.intro _ (And.intro (B6.chg c03 (by simp)) (And.intro (by rw [hr]; decide) (And.intro rfl (And.intro (repV_ones 2 0 why) ?_))))
  intro h4 p4
  have B64 : Blk h4 b6 [.int .i64 2, .int .i64 0, .string why, .slice none 0 0] := by
    have h9 : Blk h4 b6 (splice r4 0 [.int .i64 2, .int .i64 0, .string why, .slice none 0 0]) := p4.blk
    rw [four hr rfl] at h9
    exact h9
  refine Exists.intro _ (And.intro ((B7.chg c03 (by simp)).chg p4.chg (by simp; omega)) (And.intro (by simp) (And.intro rfl (And.intro (ones1 rfl) ?_))))
  intro h5 p5
  have B75 : Blk h5 b7 [.slice none 0 0] := p5.blk
  have c5 : Chg [b6, b7] h h5 := ((c03.mono (by simp)).trans p4.chg (fun _ hx => hx) (fun x hx _ => by simp at hx; simp [hx])).trans p5.chg (fun _ hx => hx) (fun x hx _ => by simp at hx; simp [hx])
  exact ⟨rfl, ⟨_, rfl⟩, rfl, B64.chg p5.chg (by simp; omega), B75, c5⟩

end Go.Proofs.YtgmkldaonkbjgaaGreatDoor
set_option maxRecDepth 100000
namespace Go.Proofs.YtgmkldaonkbjgaaGreatDoor.C
open Go Go.Sx Go.Sx.S


def f8r0 : List SOper := [
 o 0 (.mv (b false))]
def f8r1 : List SOper := [
 o 5 (.call 15 []),
 o 1 (.mv (t 5))]
def f8r2 : List SOper := [
 o 7 (.mv (t 1)),
 o 8 (.bslice [(.string ⟨#[]⟩), (.string ⟨#[]⟩)] 2 [(0, 1), (1, 1)] [(.const (.string ⟨#[105, 110, 99, 114]⟩)), (.const (.string ⟨#[97]⟩))]),
 o 9 (.call 11 [(t 7), (i 0), (t 8)]),
 o 6 (.mv (t 9)),
 o 10 (.ext (t 6) 0),
 o 11 (.ext (t 6) 1),
 o 12 (.ext (t 6) 2),
 o 2 (.new [(.int .i64 0), (.int .i64 0), (.string ⟨#[]⟩), (.slice none 0 0)]),
 q (.st 4 (t 2) (t 10)),
 o 3 (.mv (t 11)),
 o 4 (.mv (t 12))]
def f8r3 : List SOper := [
 o 13 (.mv (t 4)),
 o 14 (.mv (t 13)),
 g 15 14 (.fa 0 (t 2)),
 g 16 14 (.ld1 (t 15)),
 g 17 14 (.cmp .eql (t 16) (i 3)),
 o 18 (.pick (t 14) (t 17) (b false)),
 o 19 (.mv (t 18)),
 g 20 19 (.fa 1 (t 2)),
 g 21 19 (.ld1 (t 20)),
 g 22 19 (.cmp .eql (t 21) (i 1)),
 o 23 (.pick (t 19) (t 22) (b false)),
 o 24 (.mv (t 23)),
 g 25 24 (.mv (t 3)),
 g 26 24 (.len (t 25)),
 g 27 24 (.cmp .eql (t 26) (i 1)),
 o 28 (.pick (t 24) (t 27) (b false)),
 o 29 (.mv (t 28)),
 g 30 29 (.mv (t 3)),
 g 31 29 (.ixs 5 (t 30) (i 0)),
 g 32 29 (.fa 0 (t 31)),
 g 33 29 (.ld1 (t 32)),
 g 34 29 (.cmp .eql (t 33) (i 2)),
 o 35 (.pick (t 29) (t 34) (b false)),
 o 36 (.mv (t 35)),
 g 37 36 (.mv (t 3)),
 g 38 36 (.ixs 5 (t 37) (i 0)),
 g 39 36 (.fa 3 (t 38)),
 g 40 36 (.ld1 (t 39)),
 g 41 36 (.cmp .eql (t 40) (.const (.string ⟨#[49]⟩))),
 o 42 (.pick (t 36) (t 41) (b false)),
 o 0 (.mv (t 42))]
def f8 : SCode := (.seq (.ops f8r0) (.seq (.ops f8r1) (.seq (.ops f8r2) (.seq (.ops f8r3) .ret))))
theorem f8_calls : Sound Tryz.prog 8 43 f8 [.t 0] := sound_of mixed Tryz.func8 rfl (by kernel_rfl) (by kernel_rfl) (by kernel_rfl)

def f24r0 : List SOper := [
 o 0 (.mv (.const (.map none)))]
def f24r1 : List SOper := [
 o 1 (.mkm),
 q (.mup .str (t 1) (.const (.string ⟨#[83, 69, 84]⟩)) (u 57)),
 q (.mup .str (t 1) (.const (.string ⟨#[71, 69, 84]⟩)) (u 58)),
 q (.mup .str (t 1) (.const (.string ⟨#[68, 69, 76]⟩)) (u 59)),
 q (.mup .str (t 1) (.const (.string ⟨#[69, 88, 73, 83, 84, 83]⟩)) (u 60)),
 q (.mup .str (t 1) (.const (.string ⟨#[84, 89, 80, 69]⟩)) (u 61)),
 o 2 (.call 62 [(i 1)]),
 q (.mup .str (t 1) (.const (.string ⟨#[73, 78, 67, 82]⟩)) (t 2)),
 o 3 (.call 62 [(i (-1))]),
 q (.mup .str (t 1) (.const (.string ⟨#[68, 69, 67, 82]⟩)) (t 3)),
 q (.mup .str (t 1) (.const (.string ⟨#[73, 78, 67, 82, 66, 89]⟩)) (u 63)),
 q (.mup .str (t 1) (.const (.string ⟨#[65, 80, 80, 69, 78, 68]⟩)) (u 67)),
 q (.mup .str (t 1) (.const (.string ⟨#[83, 84, 82, 76, 69, 78]⟩)) (u 68)),
 q (.mup .str (t 1) (.const (.string ⟨#[77, 71, 69, 84]⟩)) (u 69)),
 q (.mup .str (t 1) (.const (.string ⟨#[77, 83, 69, 84]⟩)) (u 70)),
 q (.mup .str (t 1) (.const (.string ⟨#[80, 69, 88, 80, 73, 82, 69]⟩)) (u 71)),
 q (.mup .str (t 1) (.const (.string ⟨#[80, 69, 82, 83, 73, 83, 84]⟩)) (u 72)),
 q (.mup .str (t 1) (.const (.string ⟨#[80, 84, 84, 76]⟩)) (u 73)),
 q (.mup .str (t 1) (.const (.string ⟨#[75, 69, 89, 83]⟩)) (u 74)),
 q (.mup .str (t 1) (.const (.string ⟨#[68, 66, 83, 73, 90, 69]⟩)) (u 75)),
 q (.mup .str (t 1) (.const (.string ⟨#[70, 76, 85, 83, 72, 65, 76, 76]⟩)) (u 76)),
 o 4 (.mv (t 1)),
 o 0 (.mv (t 4))]
def f24 : SCode := (.seq (.ops f24r0) (.seq (.ops f24r1) .ret))
theorem f24_calls : Sound Tryz.prog 24 5 f24 [.t 0] := sound_of mixed Tryz.func24 rfl (by kernel_rfl) (by kernel_rfl) (by kernel_rfl)

def f62r0 : List SOper := [
 o 1 (.box (t 0)),
 o 2 (.mv (.const .nilFunc))]
def f62r1 : List SOper := [
 o 3 (.fn 110 [] [(t 1)]),
 o 2 (.mv (t 3))]
def f62 : SCode := (.seq (.ops f62r0) (.seq (.ops f62r1) .ret))
theorem f62_calls : Sound Tryz.prog 62 4 f62 [.t 2] := sound_of mixed Tryz.func62 rfl (by kernel_rfl) (by kernel_rfl) (by kernel_rfl)

end Go.Proofs.YtgmkldaonkbjgaaGreatDoor.C
namespace Go.Proofs.YtgmkldaonkbjgaaGreatDoor
open Go Go.Sx Go.Proofs.YtgmkldaonkbjgaaGreatDoor.C

theorem cellWW {h : Heap} {b o : Nat} {l : List Value} {v : Value} (hb : BlkW h b l) (hv : l[o]? = some v) : cell h b o = some v := by
  obtain ⟨e, k, x, _⟩ := hb
  simp [cell, x, hv]

def upB (c : UInt8) : UInt8 := if 97 ≤ c.toNat ∧ c.toNat ≤ 122 then UInt8.ofNat (c.toNat - 32) else c
def up (s : ByteArray) : ByteArray := ⟨⟨s.data.toList.map upB⟩⟩
def cellB (l : List UInt8) : List Value := l.map fun b => .int .u8 b.toNat
def upTo (bs : List UInt8) (q : Nat) : List UInt8 := (bs.take q).map upB ++ bs.drop q

theorem cellB_len (l : List UInt8) : (cellB l).length = l.length := by simp [cellB]
theorem upTo_len (bs : List UInt8) (q : Nat) : (upTo bs q).length = bs.length := by simp [upTo]; omega
theorem upTo_all (bs : List UInt8) : upTo bs bs.length = bs.map upB := by simp [upTo]
theorem upTo_zero (bs : List UInt8) : upTo bs 0 = bs := by simp [upTo]
theorem upTo_at {bs : List UInt8} {q : Nat} (hq : q < bs.length) : upTo bs q = (bs.take q).map upB ++ (bs[q] :: bs.drop (q + 1)) := by
  rw [upTo, List.drop_eq_getElem_cons hq]
theorem upTo_succ {bs : List UInt8} {q : Nat} (hq : q < bs.length) : upTo bs (q + 1) = (bs.take q).map upB ++ (upB bs[q] :: bs.drop (q + 1)) := by
  rw [upTo, List.take_succ_eq_append_getElem hq, List.map_append, List.append_assoc]; rfl
theorem take_len {bs : List UInt8} {q : Nat} (hq : q < bs.length) : (cellB ((bs.take q).map upB)).length = q := by simp [cellB]; omega
theorem blk_at {bs : List UInt8} {q : Nat} (hq : q < bs.length) (tail : List Value) : cellB (upTo bs q) ++ tail = cellB ((bs.take q).map upB) ++ ([.int .u8 bs[q].toNat] ++ (cellB (bs.drop (q + 1)) ++ tail)) := by
  rw [upTo_at hq]; simp only [cellB, List.map_append, List.map_cons, List.append_assoc, List.cons_append, List.nil_append]
theorem blk_succ {bs : List UInt8} {q : Nat} (hq : q < bs.length) (tail : List Value) : cellB (upTo bs (q + 1)) ++ tail = cellB ((bs.take q).map upB) ++ ([.int .u8 (upB bs[q]).toNat] ++ (cellB (bs.drop (q + 1)) ++ tail)) := by
  rw [upTo_succ hq]; simp only [cellB, List.map_append, List.map_cons, List.append_assoc, List.cons_append, List.nil_append]
theorem cell_q {h : Heap} {b q : Nat} {bs : List UInt8} {tail : List Value} (hb : BlkW h b (cellB (upTo bs q) ++ tail)) (hq : q < bs.length) : cell h b (0 + q * 1) = some (.int .u8 bs[q].toNat) := by
  rw [Nat.zero_add, Nat.mul_one]
  refine cellWW hb ?_
  rw [blk_at hq, List.getElem?_append_right (by rw [take_len hq]; exact Nat.le_refl _), take_len hq]
  simp
theorem put_q {h h' : Heap} {b q : Nat} {bs : List UInt8} {tail : List Value} {z : Int} (hq : q < bs.length) (hz : z = (upB bs[q]).toNat) (hp : PutW h h' b (splice (cellB (upTo bs q) ++ tail) (0 + q * 1) [.int .u8 z])) :
    BlkW h' b (cellB (upTo bs (q + 1)) ++ tail) := by
  have := hp.blk
  rw [Nat.zero_add, Nat.mul_one, blk_at hq] at this
  rw [blk_succ hq, ← hz]
  have e := splice_at (cellB ((bs.take q).map upB)) [.int .u8 bs[q].toNat] (cellB (bs.drop (q + 1)) ++ tail) [.int .u8 z] rfl
  rw [take_len hq] at e
  rwa [e] at this
theorem same_q {bs : List UInt8} {q : Nat} (hq : q < bs.length) (hu : upB bs[q] = bs[q]) : upTo bs (q + 1) = upTo bs q := by
  rw [upTo_succ hq, upTo_at hq, hu]
theorem upB_lo {c : UInt8} (h1 : 97 ≤ (c.toNat : Int)) (h2 : (c.toNat : Int) ≤ 122) : ((upB c).toNat : Int) = c.toNat - 32 := by
  unfold upB
  rw [if_pos ⟨by omega, by omega⟩]
  have : (UInt8.ofNat (c.toNat - 32)).toNat = c.toNat - 32 := by
    rw [UInt8.toNat_ofNat']; omega
  rw [this]; omega
theorem upB_not {c : UInt8} (h : ¬ (97 ≤ (c.toNat : Int) ∧ (c.toNat : Int) ≤ 122)) : upB c = c := by
  unfold upB
  rw [if_neg (fun ⟨a, b⟩ => h ⟨by omega, by omega⟩)]

theorem wrap8 {x : Int} (h0 : 0 ≤ x) (h1 : x < 256) : IntKind.u8.wrap x = x := by
  have e : IntKind.u8.wrap x = x % 256 := by simp [IntKind.wrap, IntKind.bits, IntKind.signed]
  rw [e]; omega

theorem cells_pre {h : Heap} {b : Nat} {l tail : List Value} (hb : BlkW h b (l ++ tail)) : Cells h b 0 l := by
  intro i v hv
  refine cellWW hb ?_
  rw [Nat.zero_add, List.getElem?_append_left (List.getElem?_eq_some_iff.1 hv).1]; exact hv

theorem rword_calls {h : Heap} {s : ByteArray} (hs : s.size < 4611686018427387904) : CallsH Tryz.prog 34 [.string s] h (Ret fun r h' => r = .string (up s) ∧ Chg [] h h') := by
  obtain ⟨⟨bs⟩⟩ := s
  have hs : bs.length < 4611686018427387904 := hs
  refine f34_calls (by simp) ?_
  intro c b h1 hc g
  have hc : bs.length ≤ c := hc
  obtain ⟨tail, ht⟩ : ∃ tail, tail = List.replicate (c - bs.length) (Value.int .u8 0) := ⟨_, rfl⟩
  have gb : BlkW h1 b (cellB bs ++ tail) := by rw [ht]; exact g.blk
  refine loop_intro (fun q : Nat => [(3, .slice (some ⟨b, 0, none⟩) bs.length c), (4, .int .i64 q)]) (fun q h' => q ≤ bs.length ∧ BlkW h' b (cellB (upTo bs q) ++ tail) ∧ h'.size = h1.size ∧ ∀ k, k ≠ b → h'[k]? = h1[k]?) (fun q => bs.length - q) 0 ⟨rfl, rfl, trivial⟩ ⟨Nat.zero_le _, by rw [upTo_zero]; exact gb, rfl, fun _ _ => rfl⟩ ?_
  rintro q h2 ⟨hq, hb, hsz, hold⟩
  have next : ∀ {h3 : Heap}, q < bs.length → BlkW h3 b (cellB (upTo bs (q + 1)) ++ tail) → h3.size = h1.size → (∀ k, k ≠ b → h3[k]? = h1[k]?) → q + 1 ≤ bs.length ∧ BlkW h3 b (cellB (upTo bs (q + 1)) ++ tail) ∧ h3.size = h1.size ∧ ∀ k, k ≠ b → h3[k]? = h1[k]? := fun a b c d => ⟨a, b, c, d⟩
  refine And.intro rfl (And.intro (fun hlt => ?_) (fun hge => ?_))
  · have hlt : q < bs.length := by omega
    have cq := cell_q hb hlt
    refine And.intro (by omega) (And.intro (by omega) (Exists.intro _ (And.intro cq (And.intro rfl (And.intro (fun h97 => ?_) (fun hn => ?_))))))
    · refine And.intro (by omega) (And.intro (by omega) (Exists.intro _ (And.intro cq (And.intro rfl (And.intro (fun h122 => ?_) (fun hn => ?_))))))
      · refine And.intro (by omega) (And.intro (by omega) (Exists.intro _ (And.intro cq (And.intro rfl (fun z hz => ?_)))))
        have hz : z = (upB bs[q]).toNat := by
          rw [upB_lo h97 h122, hz]; exact wrap8 (by omega) (by omega)
        refine And.intro (by omega) (And.intro (by omega) (Exists.intro _ (And.intro hb (And.intro ?_ (And.intro rfl (And.intro (Go.Sx.ones1 rfl) fun h3 p => ?_))))))
        · show 0 + q * 1 + 1 ≤ _
          rw [List.length_append, cellB_len, upTo_len]; omega
        · refine And.intro rfl (fun z2 hz2 => ?_)
          have hz2 := add_in hz2 (by omega) (by omega)
          subst hz2
          exact And.intro rfl (Exists.intro (q + 1) (And.intro ⟨rfl, rfl, trivial⟩ (And.intro (next hlt (put_q hlt hz p) (p.size.trans hsz) fun k hk => (p.old k hk).trans (hold k hk)) (by omega))))
      · refine And.intro rfl (fun z2 hz2 => ?_)
        have hz2 := add_in hz2 (by omega) (by omega)
        subst hz2
        exact And.intro rfl (Exists.intro (q + 1) (And.intro ⟨rfl, rfl, trivial⟩ (And.intro (next hlt (by rw [same_q hlt (upB_not fun hh => hn hh.2)]; exact hb) hsz hold) (by omega))))
    · refine And.intro rfl (fun z2 hz2 => ?_)
      have hz2 := add_in hz2 (by omega) (by omega)
      subst hz2
      exact And.intro rfl (Exists.intro (q + 1) (And.intro ⟨rfl, rfl, trivial⟩ (And.intro (next hlt (by rw [same_q hlt (upB_not fun hh => hn hh.1)]; exact hb) hsz hold) (by omega))))
  · have hkl : q = bs.length := by omega
    subst hkl
    rw [upTo_all] at hb
    refine Exists.intro (bs.map upB) (And.intro (by simp) (And.intro (cells_pre hb) (And.intro rfl ?_)))
    refine ⟨by rw [hsz, g.size]; omega, fun k hk _ => ?_⟩
    have := g.id
    rw [hold k (by omega), g.old k hk]

theorem bword_calls {h : Heap} {s : ByteArray} (hs : s.size < 4611686018427387904) : CallsH Tryz.prog 25 [.string s] h (Ret fun r h' => r = .string (up s) ∧ Chg [] h h') := by
  obtain ⟨⟨bs⟩⟩ := s
  have hs : bs.length < 4611686018427387904 := hs
  refine f25_calls (by simp) ?_
  intro c b h1 hc g
  have hc : bs.length ≤ c := hc
  obtain ⟨tail, ht⟩ : ∃ tail, tail = List.replicate (c - bs.length) (Value.int .u8 0) := ⟨_, rfl⟩
  have gb : BlkW h1 b (cellB bs ++ tail) := by rw [ht]; exact g.blk
  refine loop_intro (fun q : Nat => [(3, .slice (some ⟨b, 0, none⟩) bs.length c), (8, .slice (some ⟨b, 0, none⟩) bs.length c), (9, .int .i64 bs.length), (10, .int .i64 q)]) (fun q h' => q ≤ bs.length ∧ BlkW h' b (cellB (upTo bs q) ++ tail) ∧ h'.size = h1.size ∧ ∀ k, k ≠ b → h'[k]? = h1[k]?) (fun q => bs.length - q) 0 ⟨rfl, rfl, rfl, rfl, trivial⟩ ⟨Nat.zero_le _, by rw [upTo_zero]; exact gb, rfl, fun _ _ => rfl⟩ ?_
  rintro q h2 ⟨hq, hb, hsz, hold⟩
  have next : ∀ {h3 : Heap}, q < bs.length → BlkW h3 b (cellB (upTo bs (q + 1)) ++ tail) → h3.size = h1.size → (∀ k, k ≠ b → h3[k]? = h1[k]?) → q + 1 ≤ bs.length ∧ BlkW h3 b (cellB (upTo bs (q + 1)) ++ tail) ∧ h3.size = h1.size ∧ ∀ k, k ≠ b → h3[k]? = h1[k]? := fun a b c d => ⟨a, b, c, d⟩
  refine And.intro rfl (And.intro (fun hlt => ?_) (fun hge => ?_))
  · have hlt : q < bs.length := by omega
    have cq := cell_q hb hlt
    refine And.intro (by omega) (And.intro (by omega) (Exists.intro _ (And.intro cq (And.intro rfl (And.intro (fun h97 => ?_) (fun hn => ?_))))))
    · refine And.intro rfl (And.intro (fun h122 => ?_) (fun hn => ?_))
      · refine And.intro rfl (fun z hz => And.intro rfl (fun z1 hz1 => ?_))
        have hz : z = (bs[q].toNat : Int) - 97 := by rw [hz]; exact wrap8 (by omega) (by omega)
        have hz1 : z1 = (upB bs[q]).toNat := by
          rw [upB_lo h97 h122, hz1, hz]
          have := wrap8 (x := (bs[q].toNat : Int) - 97 + 65) (by omega) (by omega)
          exact this.trans (by omega)
        refine And.intro (by omega) (And.intro (by omega) (Exists.intro _ (And.intro hb (And.intro ?_ (And.intro rfl (And.intro (Go.Sx.ones1 rfl) fun h3 p => ?_))))))
        · show 0 + q * 1 + 1 ≤ _
          rw [List.length_append, cellB_len, upTo_len]; omega
        · refine And.intro rfl (fun z2 hz2 => ?_)
          have hz2 := add_in hz2 (by omega) (by omega)
          subst hz2
          exact And.intro rfl (Exists.intro (q + 1) (And.intro ⟨rfl, rfl, rfl, rfl, trivial⟩ (And.intro (next hlt (put_q hlt hz1 p) (p.size.trans hsz) fun k hk => (p.old k hk).trans (hold k hk)) (by omega))))
      · refine And.intro rfl (fun z2 hz2 => ?_)
        have hz2 := add_in hz2 (by omega) (by omega)
        subst hz2
        exact And.intro rfl (Exists.intro (q + 1) (And.intro ⟨rfl, rfl, rfl, rfl, trivial⟩ (And.intro (next hlt (by rw [same_q hlt (upB_not fun hh => hn hh.2)]; exact hb) hsz hold) (by omega))))
    · refine And.intro rfl (fun z2 hz2 => ?_)
      have hz2 := add_in hz2 (by omega) (by omega)
      subst hz2
      exact And.intro rfl (Exists.intro (q + 1) (And.intro ⟨rfl, rfl, rfl, rfl, trivial⟩ (And.intro (next hlt (by rw [same_q hlt (upB_not fun hh => hn hh.1)]; exact hb) hsz hold) (by omega))))
  · have hkl : q = bs.length := by omega
    subst hkl
    rw [upTo_all] at hb
    refine Exists.intro (bs.map upB) (And.intro (by simp) (And.intro (cells_pre hb) (And.intro rfl ?_)))
    refine ⟨by rw [hsz, g.size]; omega, fun k hk _ => ?_⟩
    have := g.id
    rw [hold k (by omega), g.old k hk]

end Go.Proofs.YtgmkldaonkbjgaaGreatDoor
namespace Go.Proofs.YtgmkldaonkbjgaaGreatDoor
open Go Go.Sx Go.Proofs.YtgmkldaonkbjgaaGreatDoor.C

def ofB (l : List UInt8) : ByteArray := ⟨⟨l⟩⟩
def cmdF : List (List UInt8 × Nat × Option Int) := [([83, 69, 84], 57, none), ([71, 69, 84], 58, none), ([68, 69, 76], 59, none), ([69, 88, 73, 83, 84, 83], 60, none), ([84, 89, 80, 69], 61, none),
  ([73, 78, 67, 82], 110, some 1), ([68, 69, 67, 82], 110, some (-1)), ([73, 78, 67, 82, 66, 89], 63, none), ([65, 80, 80, 69, 78, 68], 67, none), ([83, 84, 82, 76, 69, 78], 68, none), ([77, 71, 69, 84], 69, none),
  ([77, 83, 69, 84], 70, none), ([80, 69, 88, 80, 73, 82, 69], 71, none), ([80, 69, 82, 83, 73, 83, 84], 72, none), ([80, 84, 84, 76], 73, none), ([75, 69, 89, 83], 74, none), ([68, 66, 83, 73, 90, 69], 75, none),
  ([70, 76, 85, 83, 72, 65, 76, 76], 76, none)]

def FnV (h : Heap) (v : Value) (g : Nat) : Option Int → Prop
  | none => v = .func (.func g) #[] #[]
  | some z => ∃ b o, v = .func (.func g) #[] #[.pointer (some ⟨b, o, none⟩)] ∧ cell h b o = some (.int .i64 z)
def lookF : List (List UInt8 × Nat × Option Int) → ByteArray → Option (Nat × Option Int)
  | [], _ => none
  | (n, g, z) :: l, w => if w = ofB n then some (g, z) else lookF l w
def FoundF (h : Heap) (W : ByteArray) (ms : List MapEntry) (i : Nat) : Option (Nat × Option Int) → Prop
  | some (g, z) => ∃ j v, mfind (.string W) ms i = some (j, v) ∧ FnV h v g z
  | none => mfind (.string W) ms i = none


def CmF (h : Heap) : List MapEntry → List (List UInt8 × Nat × Option Int) → Prop
  | [], [] => True
  | e :: es, (n, g, z) :: ns => e.key = .string (ofB n) ∧ FnV h e.val g z ∧ CmF h es ns
  | _, _ => False

theorem CmF.found {h : Heap} (W : ByteArray) : ∀ {es : List MapEntry} {ns : List (List UInt8 × Nat × Option Int)} {i : Nat}, CmF h es ns → (∀ e ∈ es, fits .str e.key = true) ∧ FoundF h W es i (lookF ns W)
  | [], [], i, _ => ⟨by simp, rfl⟩
  | e :: es, (n, g, z) :: ns, i, ⟨hk, hf, hm⟩ => by
    obtain ⟨h5, h6⟩ := CmF.found W (i := i + 1) hm
    refine ⟨fun e' he' => ?_, ?_⟩
    · rcases List.mem_cons.1 he' with rfl | he'
      · rw [hk]; rfl
      · exact h5 e' he'
    · unfold lookF
      by_cases hw : W = ofB n
      · rw [if_pos hw]
        refine ⟨i, e.val, ?_, hf⟩
        unfold mfind
        rw [hk, hw, if_pos (sameBits_refl (k := .str) rfl)]
      · rw [if_neg hw]
        have hn : ¬ (Instr.sameBits 10000 (.string W) e.key = true) := fun hs => by
          have := sameBits_eq (k := .str) (by rfl) (by rw [hk]; rfl) hs
          rw [hk] at this
          simp at this
          exact hw this
        cases hl : lookF ns W with
        | none =>
          rw [hl] at h6
          show mfind _ (e :: es) i = none
          unfold mfind
          rw [if_neg hn]; exact h6
        | some p =>
          rw [hl] at h6
          obtain ⟨j, v, h7, h8⟩ := h6
          refine ⟨j, v, ?_, h8⟩
          unfold mfind
          rw [if_neg hn]; exact h7
  | [], _ :: _, _, hm => hm.elim
  | _ :: _, [], _, hm => hm.elim

def eqL : List UInt8 → List UInt8 → Bool
  | [], [] => true
  | a :: l, b :: m => Nat.beq a.toNat b.toNat && eqL l m
  | _, _ => false
theorem eqL_refl : ∀ a : List UInt8, eqL a a = true
  | [] => rfl
  | a :: l => by simp [eqL, eqL_refl l]
theorem notin_of {k : List UInt8} {ks : List (List UInt8)} (h : (ks.all fun n => !eqL n k) = true) : k ∉ ks := fun hm => by
  have := List.all_eq_true.1 h k hm
  rw [eqL_refl] at this
  cases this
def KeysF (es : List MapEntry) (ks : List (List UInt8)) : Prop := es.map (·.key) = ks.map fun n => .string (ofB n)
theorem KeysF.fits {es : List MapEntry} {ks : List (List UInt8)} (hk : KeysF es ks) : ∀ e ∈ es, fits .str e.key = true := fun e he => by
  have : e.key ∈ es.map (·.key) := List.mem_map_of_mem he
  rw [hk] at this
  obtain ⟨n, _, e1⟩ := List.mem_map.1 this
  rw [← e1]; rfl
theorem KeysF.miss {k : List UInt8} : ∀ {es : List MapEntry} {ks : List (List UInt8)} {i : Nat}, KeysF es ks → k ∉ ks → mfind (.string (ofB k)) es i = none
  | [], ks, i, _, _ => rfl
  | e :: es, [], i, hk, _ => by simp [KeysF] at hk
  | e :: es, n :: ks, i, hk, hn => by
    simp only [KeysF, List.map_cons, List.cons.injEq] at hk
    unfold mfind
    rw [if_neg, KeysF.miss (es := es) (ks := ks) hk.2 (fun h => hn (by simp [h]))]
    intro hs
    have := sameBits_eq (k := .str) (by rfl) (by rw [hk.1]; rfl) hs
    rw [hk.1] at this
    simp [ofB] at this
    exact hn (by simp [this])
theorem KeysF.of_put {h h' : Heap} {r c : Nat} {es : List MapEntry} {ks : List (List UInt8)} {e : MapEntry} (hk : KeysF es ks) (_ : PutO h h' r (.map ⟨es ++ [e]⟩ c)) (n : List UInt8) (he : e.key = .string (ofB n)) : KeysF (es ++ [e]) (ks ++ [n]) := by
  unfold KeysF at hk ⊢
  rw [List.map_append, List.map_append, hk]
  simp [he]

theorem step_box {h : Heap} {n : Int} : CallsH Tryz.prog 62 [.int .i64 n] h (Ret fun r h' => ∃ b, r = .func (.func 110) #[] #[ptr b] ∧ Grow h h' b [.int .i64 n]) := by
  refine f62_calls (by simp) ?_
  intro b h1 g1
  exact ⟨_, rfl, g1⟩

set_option maxHeartbeats 1000000 in
theorem cmdsF_calls {h : Heap} : CallsH Tryz.prog 24 [] h (Ret fun r h' => Chg [] h h' ∧ ∃ mb es c, r = .map (some mb) ∧ MapB h' mb es c ∧ (∀ e ∈ es, fits .str e.key = true) ∧ ∀ W, FoundF h' W es 0 (lookF cmdF W)) := by
  refine f24_calls (by simp) ?_
  intro mb h0 g0
  have w := (St.start h).newm g0
  have ky : KeysF [] [] := rfl
  refine And.intro rfl (Exists.intro _ (Exists.intro _ (And.intro (w.get 0 rfl) (And.intro ky.fits ?_))))
  rw [show mfind (.string ⟨#[83, 69, 84]⟩) _ 0 = none from ky.miss (k := [83, 69, 84]) (notin_of (by kernel_rfl))]
  intro h1 p1
  have ky := ky.of_put p1 [83, 69, 84] rfl
  have w : St [] h _ [.m mb _ _] := w.mput 0 rfl p1
  refine And.intro rfl (Exists.intro _ (Exists.intro _ (And.intro (w.get 0 rfl) (And.intro ky.fits ?_))))
  rw [show mfind (.string ⟨#[71, 69, 84]⟩) _ 0 = none from ky.miss (k := [71, 69, 84]) (notin_of (by kernel_rfl))]
  intro h2 p2
  have ky := ky.of_put p2 [71, 69, 84] rfl
  have w : St [] h _ [.m mb _ _] := w.mput 0 rfl p2
  refine And.intro rfl (Exists.intro _ (Exists.intro _ (And.intro (w.get 0 rfl) (And.intro ky.fits ?_))))
  rw [show mfind (.string ⟨#[68, 69, 76]⟩) _ 0 = none from ky.miss (k := [68, 69, 76]) (notin_of (by kernel_rfl))]
  intro h3 p3
  have ky := ky.of_put p3 [68, 69, 76] rfl
  have w : St [] h _ [.m mb _ _] := w.mput 0 rfl p3
  refine And.intro rfl (Exists.intro _ (Exists.intro _ (And.intro (w.get 0 rfl) (And.intro ky.fits ?_))))
  rw [show mfind (.string ⟨#[69, 88, 73, 83, 84, 83]⟩) _ 0 = none from ky.miss (k := [69, 88, 73, 83, 84, 83]) (notin_of (by kernel_rfl))]
  intro h4 p4
  have ky := ky.of_put p4 [69, 88, 73, 83, 84, 83] rfl
  have w : St [] h _ [.m mb _ _] := w.mput 0 rfl p4
  refine And.intro rfl (Exists.intro _ (Exists.intro _ (And.intro (w.get 0 rfl) (And.intro ky.fits ?_))))
  rw [show mfind (.string ⟨#[84, 89, 80, 69]⟩) _ 0 = none from ky.miss (k := [84, 89, 80, 69]) (notin_of (by kernel_rfl))]
  intro h5 p5
  have ky := ky.of_put p5 [84, 89, 80, 69] rfl
  have w : St [] h _ [.m mb _ _] := w.mput 0 rfl p5
  refine call_ret step_box ?_
  rintro _ h5a ⟨b5, rfl, gb5⟩
  have w := w.new gb5
  refine And.intro rfl (Exists.intro _ (Exists.intro _ (And.intro (w.get 1 rfl) (And.intro ky.fits ?_))))
  rw [show mfind (.string ⟨#[73, 78, 67, 82]⟩) _ 0 = none from ky.miss (k := [73, 78, 67, 82]) (notin_of (by kernel_rfl))]
  intro h6 p6
  have ky := ky.of_put p6 [73, 78, 67, 82] rfl
  have w : St [] h _ [.b b5 [.int .i64 1], .m mb _ _] := w.mput 1 rfl p6
  refine call_ret step_box ?_
  rintro _ h6a ⟨b6, rfl, gb6⟩
  have w := w.new gb6
  refine And.intro rfl (Exists.intro _ (Exists.intro _ (And.intro (w.get 2 rfl) (And.intro ky.fits ?_))))
  rw [show mfind (.string ⟨#[68, 69, 67, 82]⟩) _ 0 = none from ky.miss (k := [68, 69, 67, 82]) (notin_of (by kernel_rfl))]
  intro h7 p7
  have ky := ky.of_put p7 [68, 69, 67, 82] rfl
  have w : St [] h _ [.b b6 [.int .i64 (-1)], .b b5 [.int .i64 1], .m mb _ _] := w.mput 2 rfl p7
  refine And.intro rfl (Exists.intro _ (Exists.intro _ (And.intro (w.get 2 rfl) (And.intro ky.fits ?_))))
  rw [show mfind (.string ⟨#[73, 78, 67, 82, 66, 89]⟩) _ 0 = none from ky.miss (k := [73, 78, 67, 82, 66, 89]) (notin_of (by kernel_rfl))]
  intro h8 p8
  have ky := ky.of_put p8 [73, 78, 67, 82, 66, 89] rfl
  have w : St [] h _ [.b b6 [.int .i64 (-1)], .b b5 [.int .i64 1], .m mb _ _] := w.mput 2 rfl p8
  refine And.intro rfl (Exists.intro _ (Exists.intro _ (And.intro (w.get 2 rfl) (And.intro ky.fits ?_))))
  rw [show mfind (.string ⟨#[65, 80, 80, 69, 78, 68]⟩) _ 0 = none from ky.miss (k := [65, 80, 80, 69, 78, 68]) (notin_of (by kernel_rfl))]
  intro h9 p9
  have ky := ky.of_put p9 [65, 80, 80, 69, 78, 68] rfl
  have w : St [] h _ [.b b6 [.int .i64 (-1)], .b b5 [.int .i64 1], .m mb _ _] := w.mput 2 rfl p9
  refine And.intro rfl (Exists.intro _ (Exists.intro _ (And.intro (w.get 2 rfl) (And.intro ky.fits ?_))))
  rw [show mfind (.string ⟨#[83, 84, 82, 76, 69, 78]⟩) _ 0 = none from ky.miss (k := [83, 84, 82, 76, 69, 78]) (notin_of (by kernel_rfl))]
  intro h10 p10
  have ky := ky.of_put p10 [83, 84, 82, 76, 69, 78] rfl
  have w : St [] h _ [.b b6 [.int .i64 (-1)], .b b5 [.int .i64 1], .m mb _ _] := w.mput 2 rfl p10
  refine And.intro rfl (Exists.intro _ (Exists.intro _ (And.intro (w.get 2 rfl) (And.intro ky.fits ?_))))
  rw [show mfind (.string ⟨#[77, 71, 69, 84]⟩) _ 0 = none from ky.miss (k := [77, 71, 69, 84]) (notin_of (by kernel_rfl))]
  intro h11 p11
  have ky := ky.of_put p11 [77, 71, 69, 84] rfl
  have w : St [] h _ [.b b6 [.int .i64 (-1)], .b b5 [.int .i64 1], .m mb _ _] := w.mput 2 rfl p11
  refine And.intro rfl (Exists.intro _ (Exists.intro _ (And.intro (w.get 2 rfl) (And.intro ky.fits ?_))))
  rw [show mfind (.string ⟨#[77, 83, 69, 84]⟩) _ 0 = none from ky.miss (k := [77, 83, 69, 84]) (notin_of (by kernel_rfl))]
  intro h12 p12
  have ky := ky.of_put p12 [77, 83, 69, 84] rfl
  have w : St [] h _ [.b b6 [.int .i64 (-1)], .b b5 [.int .i64 1], .m mb _ _] := w.mput 2 rfl p12
  refine And.intro rfl (Exists.intro _ (Exists.intro _ (And.intro (w.get 2 rfl) (And.intro ky.fits ?_))))
  rw [show mfind (.string ⟨#[80, 69, 88, 80, 73, 82, 69]⟩) _ 0 = none from ky.miss (k := [80, 69, 88, 80, 73, 82, 69]) (notin_of (by kernel_rfl))]
  intro h13 p13
  have ky := ky.of_put p13 [80, 69, 88, 80, 73, 82, 69] rfl
  have w : St [] h _ [.b b6 [.int .i64 (-1)], .b b5 [.int .i64 1], .m mb _ _] := w.mput 2 rfl p13
  refine And.intro rfl (Exists.intro _ (Exists.intro _ (And.intro (w.get 2 rfl) (And.intro ky.fits ?_))))
  rw [show mfind (.string ⟨#[80, 69, 82, 83, 73, 83, 84]⟩) _ 0 = none from ky.miss (k := [80, 69, 82, 83, 73, 83, 84]) (notin_of (by kernel_rfl))]
  intro h14 p14
  have ky := ky.of_put p14 [80, 69, 82, 83, 73, 83, 84] rfl
  have w : St [] h _ [.b b6 [.int .i64 (-1)], .b b5 [.int .i64 1], .m mb _ _] := w.mput 2 rfl p14
  refine And.intro rfl (Exists.intro _ (Exists.intro _ (And.intro (w.get 2 rfl) (And.intro ky.fits ?_))))
  rw [show mfind (.string ⟨#[80, 84, 84, 76]⟩) _ 0 = none from ky.miss (k := [80, 84, 84, 76]) (notin_of (by kernel_rfl))]
  intro h15 p15
  have ky := ky.of_put p15 [80, 84, 84, 76] rfl
  have w : St [] h _ [.b b6 [.int .i64 (-1)], .b b5 [.int .i64 1], .m mb _ _] := w.mput 2 rfl p15
  refine And.intro rfl (Exists.intro _ (Exists.intro _ (And.intro (w.get 2 rfl) (And.intro ky.fits ?_))))
  rw [show mfind (.string ⟨#[75, 69, 89, 83]⟩) _ 0 = none from ky.miss (k := [75, 69, 89, 83]) (notin_of (by kernel_rfl))]
  intro h16 p16
  have ky := ky.of_put p16 [75, 69, 89, 83] rfl
  have w : St [] h _ [.b b6 [.int .i64 (-1)], .b b5 [.int .i64 1], .m mb _ _] := w.mput 2 rfl p16
  refine And.intro rfl (Exists.intro _ (Exists.intro _ (And.intro (w.get 2 rfl) (And.intro ky.fits ?_))))
  rw [show mfind (.string ⟨#[68, 66, 83, 73, 90, 69]⟩) _ 0 = none from ky.miss (k := [68, 66, 83, 73, 90, 69]) (notin_of (by kernel_rfl))]
  intro h17 p17
  have ky := ky.of_put p17 [68, 66, 83, 73, 90, 69] rfl
  have w : St [] h _ [.b b6 [.int .i64 (-1)], .b b5 [.int .i64 1], .m mb _ _] := w.mput 2 rfl p17
  refine And.intro rfl (Exists.intro _ (Exists.intro _ (And.intro (w.get 2 rfl) (And.intro ky.fits ?_))))
  rw [show mfind (.string ⟨#[70, 76, 85, 83, 72, 65, 76, 76]⟩) _ 0 = none from ky.miss (k := [70, 76, 85, 83, 72, 65, 76, 76]) (notin_of (by kernel_rfl))]
  intro h18 p18
  have ky := ky.of_put p18 [70, 76, 85, 83, 72, 65, 76, 76] rfl
  have w : St [] h _ [.b b6 [.int .i64 (-1)], .b b5 [.int .i64 1], .m mb _ _] := w.mput 2 rfl p18
  refine ⟨w.chg, mb, _, _, rfl, w.get 2 rfl, ky.fits, fun W => (CmF.found W ?_).2⟩
  exact ⟨rfl, rfl, rfl, rfl, rfl, rfl, rfl, rfl, rfl, rfl, rfl, ⟨b5, 0, rfl, cell_blk (w.get 1 rfl) rfl⟩, rfl, ⟨b6, 0, rfl, cell_blk (w.get 0 rfl) rfl⟩, rfl, rfl, rfl, rfl, rfl, rfl, rfl, rfl, rfl, rfl, rfl, rfl, rfl, rfl, rfl, rfl, rfl, rfl, rfl, rfl, rfl, rfl, trivial⟩

end Go.Proofs.YtgmkldaonkbjgaaGreatDoor
namespace Go.Proofs.YtgmkldaonkbjgaaGreatDoor
open Go Go.Sx Go.Proofs.YtgmkldaonkbjgaaGreatDoor.C

theorem none_nil {h : Heap} : CallsH Tryz.prog 28 [.pointer none] h (Ret fun r h' => r = .bool true ∧ h' = h) := by
  refine f28_calls (by simp) ?_
  exact And.intro rfl rfl

theorem same_nil {h : Heap} {kb sb mb : Nat} (x : KS h kb sb mb) : CallsH Tryz.prog 23 [ptr kb, .pointer none] h (Ret fun r h' => r = .bool false ∧ h' = h) := by
  refine f23_calls (by simp) ?_
  refine call_ret (none_calls x) ?_
  rintro _ h1 ⟨rfl, e⟩
  have e := e.symm
  subst e
  refine call_ret none_nil ?_
  rintro _ h1 ⟨rfl, e⟩
  have e := e.symm
  subst e
  refine call_ret (none_calls x) ?_
  rintro _ h1 ⟨rfl, e⟩
  have e := e.symm
  subst e
  exact And.intro rfl rfl

theorem sl_slc {α : Type} {enc : α → List Value} {size : Nat} {K : Value → Heap → Prop} {h : Heap} {a : Option Addr} {c : Nat} {l : List α} (hsz : ∀ x, (enc x).length = size) (hs : SL enc h (.slice a l.length c) l) {lo hi : Nat} (h0 : lo ≤ hi) (h1 : hi ≤ l.length)
    (hK : ∀ v, (∀ h', SL enc h' (.slice a l.length c) l → SL enc h' v ((l.drop lo).take (hi - lo))) → K v h) : slcR K h size a c (lo : Int) (hi : Int) := by
  have e1 : ((hi : Int) - (lo : Int)).toNat = hi - lo := by omega
  have e2 : ((c : Int) - (lo : Int)).toNat = c - lo := by omega
  have hlc := hs.len.2
  have hlen : ((l.drop lo).take (hi - lo)).length = hi - lo := by simp; omega
  obtain ⟨a', c', he, hc', h2⟩ := id hs
  cases he
  cases a with
  | none =>
    have hz : l.length = 0 := h2
    unfold slcR
    rw [e1, e2]
    refine hK _ fun h' _ => ⟨none, c - lo, by rw [hlen], by rw [hlen]; omega, ?_⟩
    show ((l.drop lo).take (hi - lo)).length = 0
    omega
  | some a =>
    obtain ⟨b, o, sp⟩ := a
    cases sp with
    | none =>
      intro o' ho1 ho2
      rw [e1, e2]
      refine hK _ fun h' hs' => (SL.cut hsz hs' h0 h1 (fun hlt => ?_) (fun hce => ?_))
      · rw [ho1 (by omega)]; simp
      · exact ho2 (by omega)
    | some q =>
      have hz : l.length = 0 := h2
      unfold slcR
      rw [e1, e2]
      refine And.intro (by omega) (hK _ fun h' _ => ⟨_, c - lo, by rw [hlen], by rw [hlen]; omega, ?_⟩)
      show ((l.drop lo).take (hi - lo)).length = 0
      omega

def DoR (h : Heap) (res : Except ByteArray (Rep × List Eff)) (r : Value) (h' : Heap) : Prop := Chg [] h h' ∧ match res with
  | .ok (q, E) => ∃ v lv, r = .tuple ⟨[v, lv, .bool true]⟩ ∧ RepAt 0 h' v q ∧ SL encD h' lv E ∧ ∀ b ∈ vblk lv, h.size ≤ b
  | .error why => r = .tuple ⟨[repV 2 0 why, .slice none 0 0, .bool true]⟩

def CapOk (h : Heap) : Option Int → List Value → Prop
  | none, cap => cap = []
  | some n, cap => ∃ b o, cap = [.pointer (some ⟨b, o, none⟩)] ∧ cell h b o = some (.int .i64 n)
theorem FnV.cap {h : Heap} {v : Value} {g : Nat} {z : Option Int} (hf : FnV h v g z) : ∃ cap, v = .func (.func g) #[] ⟨cap⟩ ∧ CapOk h z cap := by
  cases z with
  | none => exact ⟨[], hf, rfl⟩
  | some n => obtain ⟨b, o, rfl, hc⟩ := hf; exact ⟨_, rfl, b, o, rfl, hc⟩
theorem CapOk.ext {h h' : Heap} {z : Option Int} {cap : List Value} (x : CapOk h z cap) (hc : Chg [] h h') : CapOk h' z cap := by
  cases z with
  | none => exact x
  | some n => obtain ⟨b, o, rfl, h1⟩ := x; exact ⟨b, o, rfl, cell_chg h1 hc (by simp)⟩

theorem do_calls {h : Heap} {kb sb mb c g : Nat} {now : Int} {av : Value} {w : ByteArray} {A : List ByteArray} {m : List KI} {z : Option Int} {res : Except ByteArray (Rep × List Eff)} (kr : KR h kb sb mb c m)
    (hA : SL encS h av (w :: A)) (hl : (w :: A).length < 4611686018427387904) (hz : w.size < 4611686018427387904) (hno : lookF cmdF (up w) = some (g, z))
    (hf : ∀ h1 ab av' cap, CapOk h1 z cap → AS h h1 ab kb now av' A (.slice none 0 0) [] → CallsH Tryz.prog g ([ptr ab] ++ cap) h1 (CmdR h h1 ab kb now av' A (.slice none 0 0) res)) :
    CallsH Tryz.prog 11 [ptr kb, .int .i64 now, av] h (Ret (DoR h res)) := by
  obtain ⟨a, cc, rfl, hcc⟩ := hA.form
  obtain ⟨b0, o0, rfl⟩ := hA.addr (by simp)
  refine do_D (by simp) ?_
  intro b6 h1 g1
  have w1 := (St.start h).new g1
  intro b7 h2 g2
  have w2 := w1.new g2
  have c2 : Chg [] h h2 := w2.chg
  refine And.intro rfl (And.intro (fun h0 => absurd h0 (by simp; omega)) (fun _ => ?_))
  refine callp (same_nil (kr.ext c2).ks) ?_
  have hA2 := hA.ext c2
  have hc0 := hA2.cells encS_len (i := 0) (x := w) (by simp)
  refine And.intro (by decide) (And.intro (by simp) (Exists.intro _ (And.intro (by simpa using hc0 0 _ rfl) ?_)))
  refine callq_ret cmdsF_calls ?_
  rintro _ h3 ⟨c3, b, es, c', rfl, hm, hfit, hfd⟩
  refine And.intro c3.ext ?_
  refine callq_ret (bword_calls hz) ?_
  rintro _ h4 ⟨rfl, c4⟩
  refine And.intro c4.ext ?_
  refine And.intro rfl (Exists.intro es (Exists.intro c' (And.intro (hm.chg c4 (by simp)) (And.intro hfit ?_))))
  have hfind := hfd (up w)
  rw [hno] at hfind
  obtain ⟨i, v, hfind, hfn⟩ := hfind
  obtain ⟨cap, rfl, hcap⟩ := hfn.cap
  rw [hfind]
  have w4 := (w2.ext c3).ext c4
  refine And.intro (by decide) (And.intro (by simp only [List.length_cons]; omega) (And.intro (by omega) ?_))
  refine sl_slc (lo := 1) (hi := (w :: A).length) encS_len (hA.ext w4.chg) (by simp) (Nat.le_refl _) fun v1 hv1 => ?_
  have e1 : ((w :: A).drop 1).take ((w :: A).length - 1) = A := by simp
  rw [e1] at hv1
  obtain ⟨a1, cc1, rfl, hcc1⟩ := (hv1 h hA).form
  intro ab h5 g5
  have w5 := w4.new g5
  have z4 := w4.chg.size
  have i5 := g5.id
  have x5 : AS h h5 ab kb now (.slice a1 A.length cc1) A (.slice none 0 0) [] :=
    ⟨w5.chg, by omega, fun h' hc => hv1 h' (hA.ext hc), g5.blk, OL.nil, fun b hb => (nomatch (show b ∈ ([] : List Nat) from hb))⟩
  have toAs : ∀ {h6 lv6 E}, AS h h6 ab kb now (.slice a1 A.length cc1) A lv6 E → Aside h5 h6 ab (.slice none 0 0) lv6 → St [] h h6 [asE ab kb now (.slice a1 A.length cc1) lv6 E, .b b7 [.slice none 0 0], .b b6 [.int .i64 0, .int .i64 0, .string ⟨#[]⟩, .slice none 0 0]] := by
    intro h6 lv6 E x6 a6
    refine w5.set 0 rfl a6.2.1 (fun k hk => .inl hk) ⟨x6.blk, x6.effs, fun hm => (x6.own ab hm).2 rfl⟩ fun k hk => ?_
    rcases List.mem_cons.1 hk with rfl | hk
    · exact .inl (by simp [En.fp])
    · rcases a6.1 k hk with h9 | h9
      · exact nomatch (show k ∈ ([] : List Nat) from h9)
      · exact .inr h9
  refine call_out (hf h5 ab _ cap ((hcap.ext c4).ext g5.chg) x5) ?_ ?_
  · rintro v h6 ⟨q, E, he, ⟨ra, rn, rc, rfl, sl, fr⟩, lv6, x6, a6⟩
    subst he
    obtain ⟨la, ln, lc, rfl⟩ : ∃ a n c, lv6 = .slice a n c := let ⟨a, c, e, _⟩ := x6.effs; ⟨a, _, c, e⟩
    have w6 := toAs x6 a6
    have hi6 := g1.id
    have hi7 := g2.id
    have z1 := g1.size
    have z2 := g2.size
    have z3 := (c3.nil c4).size
    have z5 := g5.size
    have keep : ∀ {h7 h8 : Heap} {k : Nat}, k < h5.size → SL encQ h7 (.slice ra rn rc) q.l → Chg [k] h7 h8 → SL encQ h8 (.slice ra rn rc) q.l := fun hk sl hc => sl.chg hc fun b hb => by have := fr b hb; simp; omega
    have l6 : b6 < h5.size := by omega
    have l7 : b7 < h5.size := by omega
    refine w6.st2 2 rfl rfl rfl rfl fun h7 w7 k7 => ?_
    have sl := keep l6 sl k7
    refine w7.ldw 2 rfl rfl ?_
    refine And.intro ?_ ?_
    · refine w7.lda 0 rfl rfl ?_
      refine w7.st2 2 rfl rfl rfl rfl fun h8 w8 k8 => ?_
      refine w8.st2 1 rfl rfl rfl rfl fun h9 w9 k9 => ?_
      have sl := keep l7 (keep l6 sl k8) k9
      refine And.intro (by simp) (dodef_calm.mono ?_)
      rintro e u' h' ⟨⟨v, rfl⟩, rfl, rfl⟩
      exact ⟨_, rfl, cells_blk (w9.get 2 rfl), _, cell_blk (w9.get 1 rfl) rfl, w9.chg, _, _, rfl, ⟨ra, rn, rc, rfl, sl, fun _ _ => Nat.zero_le _⟩, (w9.get 0 rfl).2.1.sl, fun b hb => by
        rcases (w9.ents 0 _ rfl).2 b (List.mem_cons_of_mem _ hb) with h1 | h1
        · cases h1
        · exact h1⟩
    · refine w7.st2 2 rfl rfl rfl rfl fun h8 w8 k8 => ?_
      refine w8.lda 0 rfl rfl ?_
      refine w8.st2 1 rfl rfl rfl rfl fun h9 w9 k9 => ?_
      have sl := keep l7 (keep l6 sl k8) k9
      refine And.intro (by simp) (dodef_calm.mono ?_)
      rintro e u' h' ⟨⟨v, rfl⟩, rfl, rfl⟩
      exact ⟨_, rfl, cells_blk (w9.get 2 rfl), _, cell_blk (w9.get 1 rfl) rfl, w9.chg, _, _, rfl, ⟨ra, rn, rc, rfl, sl, fun _ _ => Nat.zero_le _⟩, (w9.get 0 rfl).2.1.sl, fun b hb => by
        rcases (w9.ents 0 _ rfl).2 b (List.mem_cons_of_mem _ hb) with h1 | h1
        · cases h1
        · exact h1⟩
  · rintro why h6 ⟨he, c6⟩
    subst he
    have w6 := w5.gone 0 rfl c6 (fun k hk => by
      rcases List.mem_cons.1 hk with rfl | hk
      · exact .inl (by simp [En.fp])
      · exact nomatch (show k ∈ ([] : List Nat) from hk))
    have hi6 := g1.id
    have hi7 := g2.id
    have z1 := g1.size
    refine And.intro (by simp) ((dodef_stop (w6.get 2 rfl) rfl (w6.get 1 rfl) (w6.ne 2 1 rfl rfl (by decide))).mono ?_)
    rintro e u' h' ⟨⟨v, rfl⟩, rfl, B6', B7', c7⟩
    exact ⟨_, rfl, cells_blk B6', _, cell_blk B7' rfl, w6.chg.fresh c7 (by simp; omega), rfl⟩

end Go.Proofs.YtgmkldaonkbjgaaGreatDoor
namespace Go.Proofs.YtgmkldaonkbjgaaGreatDoor
open Go Go.Sx Go.Proofs.YtgmkldaonkbjgaaGreatDoor.C

theorem rdo_calls {h : Heap} {kv av : Value} {k : List RX} {now lo hi : Int} {w N : ByteArray} {A : List ByteArray} {res : Res} (hsl : SL encX h kv k) (hgx : GX h k) (hup : UpX k) (hlen : k.length < 4611686018427387904) (hfit : KeysFit k)
    (hA : SL encS h av (w :: A)) (hl : (w :: A).length < 4611686018427387904) (hz : w.size < 4611686018427387904) (hN : up w = N) (hb : BoundR N lo hi) (hout : ¬ (lo ≤ A.length ∧ (A.length : Int) ≤ hi) → res = .error wArgs)
    (hf : ∀ h1 xb av', lo ≤ A.length ∧ (A.length : Int) ≤ hi → RC h kv k av' A → As h h1 (rxE xb kv now av' (.slice none 0 0) [] noText) → CallsH Tryz.prog 38 [ptr xb, .string N] h1 (Ret (ReplyR h h1 xb kv now av' (.slice none 0 0) res))) :
    CallsH Tryz.prog 17 [kv, .int .i64 now, av] h (Ret (DoR h res)) := by
  obtain ⟨ka, kc, rfl, _⟩ := hsl.form
  obtain ⟨a, cc, rfl, hcc⟩ := hA.form
  obtain ⟨b0, o0, rfl⟩ := hA.addr (by simp)
  refine f17_calls (by simp) ?_
  intro b6 h1 g1
  have w1 := (St.start h).new g1
  refine And.intro rfl (And.intro (fun h0 => absurd h0 (by simp; omega)) (fun _ => ?_))
  have hc0 := (hA.ext w1.chg).cells encS_len (i := 0) (x := w) (by simp)
  refine And.intro (by decide) (And.intro (by simp) (Exists.intro _ (And.intro (by simpa using hc0 0 _ rfl) ?_)))
  refine w1.callv (rword_calls hz) fun h2 w2 => ?_
  rw [hN]
  refine callp (hb h2) ?_
  refine And.intro (by decide) (And.intro (by simp only [List.length_cons]; omega) (And.intro (by omega) ?_))
  refine sl_slc (lo := 1) (hi := (w :: A).length) encS_len (hA.ext w2.chg) (by simp) (Nat.le_refl _) fun v1 hv1 => ?_
  have e1 : ((w :: A).drop 1).take ((w :: A).length - 1) = A := by simp
  rw [e1] at hv1
  obtain ⟨a1, cc1, rfl, hcc1⟩ := (hv1 h hA).form
  intro xb h5 g5
  have w5 : St [] h h5 [.b xb [.slice ka k.length kc, .int .i64 now, .slice a1 A.length cc1, .slice none 0 0, .string noText], .b b6 [.int .i64 0, .int .i64 0, .string ⟨#[]⟩, .slice none 0 0]] := w2.new g5
  have z2 := w2.chg.size
  have i5 := g5.id
  have c : RC h (.slice ka k.length kc) k (.slice a1 A.length cc1) A := ⟨hsl, hgx, hup, hlen, hfit, fun h' hc => hv1 h' (hA.ext hc)⟩
  have nomem : xb ∉ vblk (.slice none 0 0) := fun hm => (nomatch (show xb ∈ ([] : List Nat) from hm))
  have w : St [] h h5 [rxE xb (.slice ka k.length kc) now (.slice a1 A.length cc1) (.slice none 0 0) [] noText, .b b6 [.int .i64 0, .int .i64 0, .string ⟨#[]⟩, .slice none 0 0]] :=
    w5.set 0 rfl (Chg.refl _) (by simp) ⟨w5.get 0 rfl, OL.nil, nomem⟩ (fun b hb => by
      rcases List.mem_cons.1 hb with rfl | hb
      · exact .inl (by simp [En.fp])
      · exact (nomatch (show b ∈ ([] : List Nat) from hb)))
  refine call_ret (rmany_calls c (w.as 0 rfl)) ?_
  rintro _ h6 (⟨m1, m2, rfl, _, o6⟩ | ⟨mn, rfl, _, o6⟩)
  rotate_left
  · have w := w.own 0 rfl o6
    refine w.ldr 0 rfl rfl ?_
    refine w.callv rFail_calls fun h7 w => ?_
    refine w.st1 1 rfl rfl rfl rfl fun h8 w => ?_
    rw [hout mn]
    exact ⟨_, rfl, cells_blk (w.get 1 rfl), w.chg, rfl⟩
  have w := w.own 0 rfl o6
  refine call_ret (hf h6 xb _ ⟨m1, m2⟩ c (w.as 0 rfl)) ?_
  rintro _ h7 ⟨q, lv', E, why, ⟨ra, rn, rc, rfl, sl, fr⟩, ⟨_, o7⟩, hd⟩
  have w := w.own 0 rfl o7
  have i6 := g1.id
  have z6 : h.size < h6.size := by have := g1.size; have := w2.chg.size; have := (w1.ext (Chg.refl _)).chg.size; have := o6.chg.size; have := g5.size; omega
  intro b14 h8 g8
  have w := w.new g8
  have i14 := g8.id
  have z7 : h6.size ≤ h7.size := o7.chg.size
  refine w.st2 0 rfl rfl rfl rfl fun h9 w k9 => ?_
  have sl9 : SL encQ h9 (.slice ra rn rc) q.l := sl.ext (g8.chg.fresh k9 (by simp; omega))
  refine w.ldr 1 rfl rfl ?_
  rcases hd with ⟨rfl, hd⟩ | ⟨hne, hd⟩
  · refine And.intro (fun h9 => absurd rfl h9) (fun _ => ?_)
    obtain ⟨la, lc, rfl⟩ := w.rform 1 rfl
    have fin : ∀ {h' : Heap}, St [] h h' [.b b14 [.int .i64 q.k, .int .i64 q.i, .string q.s, .slice ra rn rc], rxE xb (.slice ka k.length kc) now (.slice a1 A.length cc1) (.slice la E.length lc) E noText, .b b6 [.int .i64 q.k, .int .i64 q.i, .string q.s, .slice ra rn rc]] → Chg [b6] h9 h' →
        ∃ vs, vs.length = 4 ∧ Cells h' b6 0 vs ∧ DoR h res (.tuple ⟨[.agg ⟨vs⟩, .slice la E.length lc, .bool true]⟩) h' := fun w k => by
      rw [hd]
      refine ⟨_, rfl, cells_blk (w.get 2 rfl), w.chg, _, _, rfl, ⟨ra, rn, rc, rfl, sl9.chg k (fun b hb => by have := fr b hb; simp; omega), fun _ _ => Nat.zero_le _⟩, (w.get 1 rfl).2.1.sl, fun b hb => ?_⟩
      rcases (w.ents 1 _ rfl).2 b (List.mem_cons_of_mem _ hb) with h1 | h1
      · cases h1
      · exact h1
    refine w.ldw 0 rfl rfl ?_
    refine And.intro ?_ ?_
    · refine w.ldr 1 rfl rfl ?_
      refine w.st2 2 rfl rfl rfl rfl fun h10 w k10 => ?_
      exact fin w k10
    · refine w.st2 2 rfl rfl rfl rfl fun h10 w k10 => ?_
      refine w.ldr 1 rfl rfl ?_
      exact fin w k10
  · refine And.intro (fun _ => ?_) (fun h9 => absurd (fun e => hne e) h9)
    refine w.ldr 1 rfl rfl ?_
    refine w.callv rFail_calls fun h10 w => ?_
    refine w.st1 2 rfl rfl rfl rfl fun h11 w => ?_
    rw [hd]
    exact ⟨_, rfl, cells_blk (w.get 2 rfl), w.chg, rfl⟩

end Go.Proofs.YtgmkldaonkbjgaaGreatDoor
namespace Go.Proofs.YtgmkldaonkbjgaaGreatDoor
open Go Go.Sx Go.Proofs.YtgmkldaonkbjgaaGreatDoor.C

inductive RT where
  | mk (k i : Int) (s : ByteArray) (v : Value) (l : List RT)

def encT : RT → List Value
  | .mk k i s v _ => [.int .i64 k, .int .i64 i, .string s, v]

mutual
def RT.ok (h : Heap) : RT → Prop
  | .mk _ _ _ v l => SL encT h v l ∧ l.length < 4611686018427387904 ∧ RT.oks h l
def RT.oks (h : Heap) : List RT → Prop
  | [] => True
  | t :: l => t.ok h ∧ RT.oks h l
end

mutual
def RT.same : RT → RT → Bool
  | .mk k i s _ l, .mk k' i' s' _ m => decide (k = k') && decide (i = i') && decide (s = s') && RT.sames l m
def RT.sames : List RT → List RT → Bool
  | [], [] => true
  | x :: l, y :: m => x.same y && RT.sames l m
  | _, _ => false
end

mutual
theorem RT.ok.ext {h h' : Heap} (hc : Chg [] h h') : ∀ {t : RT}, t.ok h → t.ok h'
  | .mk _ _ _ _ _, ⟨h1, h2, h3⟩ => ⟨h1.ext hc, h2, RT.oks.ext hc h3⟩
theorem RT.oks.ext {h h' : Heap} (hc : Chg [] h h') : ∀ {l : List RT}, RT.oks h l → RT.oks h' l
  | [], _ => trivial
  | _ :: _, ⟨h1, h2⟩ => ⟨h1.ext hc, RT.oks.ext hc h2⟩
end

theorem RT.oks.mem {h : Heap} : ∀ {l : List RT}, RT.oks h l → ∀ t ∈ l, t.ok h
  | _ :: _, ⟨h1, h2⟩, t, ht => by
    rcases List.mem_cons.1 ht with rfl | ht
    · exact h1
    · exact RT.oks.mem h2 t ht

theorem encT_len : ∀ t, (encT t).length = 4
  | .mk _ _ _ _ _ => rfl

theorem RT.ok.ones {h : Heap} : ∀ {t : RT}, t.ok h → ∀ u ∈ encT t, u.oneCell' = true
  | .mk k i s v l, ⟨h1, _⟩, u, hu => by
    obtain ⟨a, c, rfl, _⟩ := h1.form
    simp [encT] at hu
    rcases hu with rfl | rfl | rfl | rfl <;> rfl

theorem sames_len : ∀ {l m : List RT}, l.length ≠ m.length → RT.sames l m = false
  | [], [], h => absurd rfl h
  | [], _ :: _, _ => by simp [RT.sames]
  | _ :: _, [], _ => by simp [RT.sames]
  | x :: l, y :: m, h => by
    simp only [RT.sames, Bool.and_eq_false_iff]
    exact .inr (sames_len (by simpa using h))

mutual
theorem RT.same_refl : ∀ t : RT, t.same t = true
  | .mk _ _ _ _ l => by simp [RT.same, RT.sames_refl l]
theorem RT.sames_refl : ∀ l : List RT, RT.sames l l = true
  | [] => by simp [RT.sames]
  | t :: l => by simp [RT.sames, RT.same_refl t, RT.sames_refl l]
end

theorem sames_drop {l m : List RT} {q : Nat} (hl : q < l.length) (hm : q < m.length) : RT.sames (l.drop q) (m.drop q) = (l[q].same m[q] && RT.sames (l.drop (q + 1)) (m.drop (q + 1))) := by
  rw [List.drop_eq_getElem_cons hl, List.drop_eq_getElem_cons hm, RT.sames]

theorem sizeOf_item {k i : Int} {s : ByteArray} {v : Value} {l : List RT} {q : Nat} (hq : q < l.length) : SizeOf.sizeOf l[q] < SizeOf.sizeOf (RT.mk k i s v l) := by
  have h1 := List.sizeOf_lt_of_mem (List.getElem_mem hq)
  rw [RT.mk.sizeOf_spec]; omega

theorem rsame_calls : ∀ (n : Nat) (a b : RT) (h : Heap), SizeOf.sizeOf a < n → a.ok h → b.ok h → CallsH Tryz.prog 18 [.agg ⟨encT a⟩, .agg ⟨encT b⟩] h (Ret fun r h' => r = .bool (a.same b) ∧ Chg [] h h')
  | 0, _, _, _, hn, _, _ => absurd hn (by omega)
  | n + 1, .mk k i s v l, .mk k' i' s' v' m, h, hn, ⟨hv, hl, hls⟩, ⟨hu, hm, hms⟩ => by
    obtain ⟨x, c, rfl, hlc⟩ := hv.form
    obtain ⟨x', c', rfl, hmc⟩ := hu.form
    have hs : RT.same (.mk k i s (.slice x l.length c) l) (.mk k' i' s' (.slice x' m.length c') m) = (decide (k = k') && decide (i = i') && decide (s = s') && RT.sames l m) := by rw [RT.same]
    rw [hs]
    refine f18_calls (by simp) ?_
    intro b1 h1 g1 b2 h2 g2
    have B1 : Blk h2 b1 [.int .i64 k, .int .i64 i, .string s, .slice x l.length c] := Blk.chg g1.blk g2.chg (by simp)
    have B2 : Blk h2 b2 [.int .i64 k', .int .i64 i', .string s', .slice x' m.length c'] := g2.blk
    have ch : Chg [] h h2 := g1.chg.nil g2.chg
    refine Exists.intro _ (And.intro (cell_blk B1 rfl) (Exists.intro _ (And.intro (cell_blk B2 rfl) (And.intro rfl (And.intro (fun hne => ?_) (fun he => ?_))))))
    · exact And.intro (by rw [decide_eq_false hne]; rfl) ch
    have he : k = k' := Classical.not_not.1 he
    refine Exists.intro _ (And.intro (cell_blk B1 rfl) (Exists.intro _ (And.intro (cell_blk B2 rfl) (And.intro rfl (And.intro (fun hne => ?_) (fun he2 => ?_))))))
    · exact And.intro (by rw [decide_eq_false hne, Bool.and_false]; rfl) ch
    have he2 : i = i' := Classical.not_not.1 he2
    refine Exists.intro _ (And.intro (cell_blk B1 rfl) (Exists.intro _ (And.intro (cell_blk B2 rfl) (And.intro (fun hne => ?_) (fun he3 => ?_)))))
    · exact And.intro (by rw [decide_eq_false hne, Bool.and_false]; rfl) ch
    have he3 : s = s' := Classical.not_not.1 he3
    rw [decide_eq_true he, decide_eq_true he2, decide_eq_true he3, Bool.true_and, Bool.true_and, Bool.true_and]
    refine Exists.intro _ (And.intro (cell_blk B1 rfl) (Exists.intro _ (And.intro (cell_blk B2 rfl) (And.intro rfl (And.intro (fun hne => ?_) (fun he4 => ?_))))))
    · exact And.intro (by rw [sames_len (by omega)]; rfl) ch
    have he4 : l.length = m.length := by omega
    clear hs he he2 he3 g1 g2
    refine loop_intro (fun q : Nat => [(2, .pointer (some ⟨b1, 0, none⟩)), (3, .pointer (some ⟨b2, 0, none⟩)), (5, .int .i64 q)]) (fun q h' => q ≤ l.length ∧ Chg [] h2 h' ∧ RT.sames l m = RT.sames (l.drop q) (m.drop q)) (fun q => l.length - q) 0 ⟨rfl, rfl, rfl, trivial⟩ ⟨Nat.zero_le _, Chg.refl _, rfl⟩ ?_
    rintro q h3 ⟨hq, hc3, hr⟩
    have C1 := B1.chg hc3 (by simp)
    have C2 := B2.chg hc3 (by simp)
    refine Exists.intro _ (And.intro (cell_blk C1 rfl) (And.intro rfl (And.intro (fun hlt => ?_) (fun hge => ?_))))
    · have hlt : q < l.length := by omega
      have hltm : q < m.length := by omega
      have hch := ch.nil hc3
      obtain ⟨b, o, rfl⟩ := hv.addr (by omega)
      obtain ⟨b', o', rfl⟩ := hu.addr (by omega)
      have hcs := (hv.ext hch).cells encT_len (i := q) (x := l[q]) (by simp [hlt])
      have hds := (hu.ext hch).cells encT_len (i := q) (x := m[q]) (by simp [hltm])
      refine Exists.intro _ (And.intro (cell_blk C1 rfl) ?_)
      refine And.intro (by omega) (And.intro (by omega) (Exists.intro (encT l[q]) (And.intro (encT_len _) (And.intro hcs ?_))))
      refine Exists.intro _ (And.intro (cell_blk C2 rfl) ?_)
      refine And.intro (by omega) (And.intro (by omega) (Exists.intro (encT m[q]) (And.intro (encT_len _) (And.intro hds ?_))))
      refine call_ret (rsame_calls n l[q] m[q] h3 (by have := sizeOf_item (k := k) (i := i) (s := s) (v := .slice (some ⟨b, o, none⟩) l.length c) hlt; omega) ((hls.mem _ (List.getElem_mem hlt)).ext hch) ((hms.mem _ (List.getElem_mem hltm)).ext hch)) ?_
      rintro r h4 ⟨hrr, hc4⟩
      rw [sames_drop hlt hltm] at hr
      cases hsm : l[q].same m[q] with
      | false =>
        rw [hsm] at hrr hr
        subst hrr
        exact And.intro (by rw [hr]; rfl) (hch.nil hc4)
      | true =>
        rw [hsm] at hrr hr
        subst hrr
        refine And.intro rfl (fun z hz => ?_)
        have hz := add_in hz (by omega) (by omega)
        subst hz
        refine And.intro rfl (Exists.intro (q + 1) (And.intro ⟨rfl, rfl, rfl, trivial⟩ (And.intro ⟨by omega, hc3.nil hc4, by rw [hr, Bool.true_and]⟩ (by omega))))
    · have hkl : q = l.length := by omega
      subst hkl
      rw [List.drop_length, he4, List.drop_length, RT.sames] at hr
      exact And.intro (by rw [hr]; rfl) (ch.nil hc3)

end Go.Proofs.YtgmkldaonkbjgaaGreatDoor
namespace Go.Proofs.YtgmkldaonkbjgaaGreatDoor
open Go Go.Sx Go.Proofs.YtgmkldaonkbjgaaGreatDoor.C

section
variable {h0 h h' : Heap} {ab kb sb mb c l D b2 : Nat} {now n : Int} {av lv : Value} {A : List ByteArray} {m : List KI} {S : Space} {T : List Nat} {M : List En} {r : Loop} {st st' : LoopState} {key s W N : ByteArray} {res : Res}

def lpE (l D : Nat) (r : Loop) (st : LoopState) : En :=
  .x [l, D] (fun h => LoopB h l r st none ∧ h[D]? = some (.deferred (some []))) (fun S h h' hc hn ⟨h1, h2⟩ => ⟨loopB_chg h1 hc (hn _ (by simp)), get_chg h2 hc (hn _ (by simp))⟩)
    (fun h ⟨h1, h2⟩ b hb => by
      rcases List.mem_cons.1 hb with rfl | hb
      · exact get_lt h1.at_
      · rw [List.mem_singleton.1 hb]; exact get_lt h2)
theorem _root_.Go.Sx.St.turn (w : St T h0 h M) (i : Nat) (hi : M[i]? = some (lpE l D r st)) (hne : D ≠ l) (t : Turn h h' l r st' none) : St T h0 h' (M.set i (lpE l D r st')) := by
  refine w.set i hi t.chg (fun b hb => .inl (by simp at hb; simp [lpE, En.fp, hb])) ⟨t.rec_, ?_⟩ (fun b hb => .inl hb)
  rw [t.old D hne]; exact (w.get i hi).2
def ltE (p : Nat) : En := .x [p] (fun h => p < h.size) (fun _ _ _ hc _ h1 => Nat.lt_of_lt_of_le h1 hc.size) (fun h h1 b hb => by rw [List.mem_singleton.1 hb]; exact h1)
def fixE (p : Nat) (o : Option Obj) : En := .x [p] (fun h => p < h.size ∧ h[p]? = o) (fun _ _ _ hc hn ⟨h1, h2⟩ => ⟨Nat.lt_of_lt_of_le h1 hc.size, by rw [hc.old p h1 (hn _ (by simp))]; exact h2⟩) (fun h h1 b hb => by rw [List.mem_singleton.1 hb]; exact h1.1)

theorem flush_calls (x : AS h0 h ab kb now av A lv []) (kr0 : KR h0 kb sb mb c m) (hs : Sorted m S) (hn : S.length < 65537) : CallsH Tryz.prog 76 [ptr ab] h (CmdR h0 h ab kb now av A lv (cFlush S A)) := by
  refine f76_calls (by simp) ?_
  intro b1 h1 g1
  have w := x.st.new g1
  intro b2 h2 g2
  have w := w.new g2
  refine w.ld1 1 rfl rfl ?_
  refine x.many w 2 rfl (fun hok _ => ?_) (fun hb => x.bad w (arg0_bad hb))
  obtain rfl := no_arg hok
  rw [show cFlush S [] = .ok (okR, S.map fun p => goneE p.1) from rfl]
  refine w.ld1 1 rfl rfl ?_
  refine w.lda 2 rfl rfl ?_
  refine call_ret (All_calls (kb := kb)) ?_
  rintro _ h3 ⟨bI, rfl, g3⟩
  have w := w.new g3
  intro l D r h7 hD hl7 hsz hold hmark hloop hy
  have hc7 : Chg [] h3 h7 := ⟨by omega, fun k hk _ => hold k hk⟩
  have hne : D ≠ l := by omega
  have w := w.add (e := lpE l D r .ready) hc7 ⟨hloop, hmark⟩ (fun b hb => by simp [lpE, En.fp] at hb; omega)
  refine (iter_calls hs (fun p k h' => ∃ lv', St (ab :: vblk lv) h h' [ltE p, lpE l D r .ready, .b bI [ptr kb], .b b2 [.int .i64 0, .int .i64 0, .string ⟨#[]⟩, .slice none 0 0], .b b1 [ptr ab], asE ab kb now av lv' ((S.take k).map fun p => goneE p.1)]) (fun _ => False) (w.get 1 rfl) (kr0.ext (x.base w))
    (fun p h' hp1 hp2 hc => ⟨lv, w.add (e := ltE p) hc hp2 (fun b hb => by simp [ltE, En.fp] at hb; omega)⟩) (fun p k h' ⟨lv', w⟩ => ⟨w.get 2 rfl, kr0.ext (x.base w)⟩) (fun p k h' h'' ⟨lv', w⟩ hc => ⟨lv', w.ext hc⟩) (fun p k h' us hk ⟨lv', w⟩ tu => ?_)).mono ?_
  · have hlp := w.get 0 rfl
    have w := w.set (e' := fixE p h'[p]?) 0 rfl (Chg.refl _) (by simp) ⟨hlp, rfl⟩ (fun b hb => .inl hb)
    have hkl : ((S.take k).map fun p => goneE p.1).length ≤ 65536 := by simp; omega
    have hmp := take_map (fun p : ByteArray × Thing => goneE p.1) S k hk
    refine hy h' _ _ (w.get 1 rfl).1 rfl ?_
    refine And.intro (w.get 1 rfl).1 (fun h10 t10 => ?_)
    have w := w.turn 1 rfl hne t10
    refine w.ld1 4 rfl rfl ?_
    intro b5 h6 g6
    have w := w.new g6
    refine x.add w 6 rfl (one_sl (e := goneE S[k].1) (w.get 0 rfl)) (by simp only [List.length_singleton]; omega) fun _ h8 lv2 w => ?_
    have w := w.pick [1, 2, 3, 4, 5, 6] (by decide)
    rw [← hmp] at w
    refine And.intro (w.get 1 rfl).1 (fun h13 t13 => ?_)
    have w := w.turn 1 rfl hne t13
    have hfx := w.get 0 rfl
    have w := w.set (e' := ltE p) 0 rfl (Chg.refl _) (by simp) hfx.1 (fun b hb => .inl hb)
    exact .inl ⟨rfl, ⟨lv2, w⟩, hfx.2⟩
  · intro e h8 he
    cases e with
    | panicked ch => exact he.elim
    | outgrown => exact he.elim
    | returned u =>
      obtain ⟨p, lv', w⟩ | hF := he
      rotate_left
      · exact hF.elim
      rw [List.take_of_length_le (Nat.le_refl _)] at w
      refine ⟨.ready, none, (w.get 1 rfl).1, by simp, fun h9 t9 => ?_⟩
      have w := w.turn 1 rfl hne t9
      refine w.callv Bok_calls fun h10 w => ?_
      refine w.st1 3 rfl rfl rfl rfl fun h11 w => ?_
      refine ⟨(w.get 1 rfl).2, fun h12 p12 => ?_⟩
      have w := w.gone 1 rfl p12.chg (fun b hb => .inl (by simp at hb; simp [lpE, En.fp, hb]))
      refine ⟨_, rfl, cells_blk (w.get 3 rfl), ?_⟩
      exact x.ends w 5 rfl ⟨none, 0, 0, rfl, SL.nil, fun b hb => (nomatch (show b ∈ ([] : List Nat) from hb))⟩ rfl

end

end Go.Proofs.YtgmkldaonkbjgaaGreatDoor
namespace Go.Proofs.YtgmkldaonkbjgaaGreatDoor
open Go Go.Sx Go.Proofs.YtgmkldaonkbjgaaGreatDoor.C

def allS : Space → List Eff → Option Space
  | S, [] => some S
  | S, e :: E => if (fateS S e).num = 0 then allS ((fateS S e).space S e.key) E else none

theorem all_append : ∀ {E F : List Eff} {S : Space}, allS S (E ++ F) = (allS S E).bind fun S' => allS S' F
  | [], F, S => rfl
  | e :: E, F, S => by
    simp only [List.cons_append, allS]
    split
    · exact all_append
    · rfl
theorem all_then {E F : List Eff} {S S1 S2 : Space} (h1 : allS S E = some S1) (h2 : allS S1 F = some S2) : allS S (E ++ F) = some S2 := by rw [all_append, h1]; exact h2
theorem all_one {e : Eff} {S : Space} (h : (fateS S e).num = 0) : allS S [e] = some ((fateS S e).space S e.key) := by simp only [allS]; rw [if_pos h]

theorem find_put {S : Space} {key k : ByteArray} {t : Thing} (hu : UpS S) : findS (putS S key t) k = if k = key then some t else findS S k := by
  split
  · rename_i e
    subst e
    exact findS_some (up_putS hu) (mem_putS.2 (.inl rfl))
  · rename_i hne
    cases hf : findS S k with
    | none =>
      refine findS_none fun p hp e => ?_
      rcases mem_putS.1 hp with rfl | ⟨h1, _⟩
      · exact hne e.symm
      · have : findS S p.1 = some p.2 := findS_some hu h1
        rw [e, hf] at this; cases this
    | some u => exact findS_some (up_putS hu) (mem_putS.2 (.inr ⟨findS_mem hf, hne⟩))
theorem find_drop {S : Space} {key k : ByteArray} (hu : UpS S) : findS (dropS S key) k = if k = key then none else findS S k := by
  split
  · rename_i e
    subst e
    exact findS_none fun p hp e => (mem_dropS.1 hp).2 e
  · rename_i hne
    cases hf : findS S k with
    | none =>
      refine findS_none fun p hp e => ?_
      have : findS S p.1 = some p.2 := findS_some hu (mem_dropS.1 hp).1
      rw [e, hf] at this; cases this
    | some u => exact findS_some (up_dropS hu) (mem_dropS.2 ⟨findS_mem hf, hne⟩)
theorem len_drop {S : Space} {key : ByteArray} : (dropS S key).length ≤ S.length := List.length_filter_le _ _
theorem len_parts : ∀ (S : Space) (key : ByteArray), (S.filter fun p => sless p.1 key).length + (S.filter fun p => sless key p.1).length ≤ S.length
  | [], _ => Nat.le_refl _
  | p :: S, key => by
    have ih := len_parts S key
    simp only [List.filter_cons]
    split
    · rename_i h1
      split
      · rename_i h2
        have := sless_trans h1 h2
        rw [sless_irrefl] at this; cases this
      · simp; omega
    · split <;> simp <;> omega
theorem len_put {S : Space} {key : ByteArray} {t : Thing} : (putS S key t).length ≤ S.length + 1 := by
  have := len_parts S key
  unfold putS
  simp; omega

section
variable {S : Space} {k s : ByteArray} {t : Thing} {n : Int}

theorem oneF_some {e : Eff} {r : Rule} {full : Bool} (hr : ruleR e.op = some r) (h1 : ¬ ((r.name = false ∧ e.name ≠ noText) ∨ (r.text = false ∧ e.text ≠ noText) ∨ (r.number = false ∧ e.num ≠ 0)))
    (h2 : ¬ (1048576 < e.key.size ∨ 1048576 < e.name.size ∨ 1048576 < e.text.size)) (h3 : ¬ (r.kind ≠ 0 ∧ t.kind ≠ r.kind)) : oneF (some t) e full = endF (doneT t e) true full := by
  unfold oneF
  rw [hr]
  simp only
  rw [if_neg h1, if_neg h2, if_neg h3]
theorem oneF_none {e : Eff} {r : Rule} {full : Bool} (hr : ruleR e.op = some r) (h1 : ¬ ((r.name = false ∧ e.name ≠ noText) ∨ (r.text = false ∧ e.text ≠ noText) ∨ (r.number = false ∧ e.num ≠ 0)))
    (h2 : ¬ (1048576 < e.key.size ∨ 1048576 < e.name.size ∨ 1048576 < e.text.size)) (h3 : ¬ r.makes = false) : oneF none e full = endF (doneT { zeroT with kind := r.kind } e) false full := by
  unfold oneF
  rw [hr]
  simp only
  rw [if_neg h1, if_neg h2, if_neg h3]
theorem no_size : noText.size = 0 := rfl

theorem fate_gone (hf : findS S k = some t) (hk : k.size ≤ 1048576) : fateS S (goneE k) = .drop := by
  show oneF (findS S k) (goneE k) _ = _
  rw [hf, oneF_some (r := ⟨false, false, false, 0, false, 117⟩) rfl (by rintro (⟨_, h⟩ | ⟨_, h⟩ | ⟨_, h⟩) <;> exact h rfl)
    (by rintro (h | h | h)
        · exact absurd h (by show ¬ 1048576 < k.size; omega)
        · exact absurd h (by show ¬ 1048576 < noText.size; rw [no_size]; decide)
        · exact absurd h (by show ¬ 1048576 < noText.size; rw [no_size]; decide)) (fun h => h.1 rfl)]
  rfl

theorem end_text (there : Bool) (hl : S.length < 65536) : endF (textT s, 0) there (decide (65536 ≤ S.length)) = .put (textT s) := by
  unfold endF
  rw [if_neg (fun h => h rfl), if_neg (fun h => h.1 rfl), if_neg]
  rintro (h | ⟨_, h⟩)
  · exact absurd h (by show ¬ 65536 < (0 : Nat) + 0 + 0; omega)
  · have := of_decide_eq_true h; omega
theorem fate_text (hl : S.length < 65536) (hk : k.size ≤ 1048576) (hs : s.size ≤ 1048576) : fateS S (textE k s) = .put (textT s) := by
  have h1 : ¬ (((⟨false, true, false, 0, true, 118⟩ : Rule).name = false ∧ (textE k s).name ≠ noText) ∨ ((⟨false, true, false, 0, true, 118⟩ : Rule).text = false ∧ (textE k s).text ≠ noText) ∨ ((⟨false, true, false, 0, true, 118⟩ : Rule).number = false ∧ (textE k s).num ≠ 0)) := by
    rintro (⟨_, h⟩ | ⟨h, _⟩ | ⟨_, h⟩)
    · exact h rfl
    · cases h
    · exact h rfl
  have h2 : ¬ (1048576 < (textE k s).key.size ∨ 1048576 < (textE k s).name.size ∨ 1048576 < (textE k s).text.size) := by
    rintro (h | h | h)
    · exact absurd h (by show ¬ 1048576 < k.size; omega)
    · exact absurd h (by show ¬ 1048576 < noText.size; rw [no_size]; decide)
    · exact absurd h (by show ¬ 1048576 < s.size; omega)
  show oneF (findS S k) (textE k s) _ = _
  cases findS S k with
  | none => rw [oneF_none (r := ⟨false, true, false, 0, true, 118⟩) rfl h1 h2 (by decide)]; exact end_text false hl
  | some t => rw [oneF_some (r := ⟨false, true, false, 0, true, 118⟩) rfl h1 h2 (fun h => h.1 rfl)]; exact end_text true hl

theorem endF_stay {t' : Thing} {full : Bool} (hc : countT t' ≤ 65536) : (endF (t', 0) true full).num = 0 ∧ (t'.kind = 1 → endF (t', 0) true full = .put t') := by
  unfold endF
  rw [if_neg (fun h => h rfl)]
  have hc' : ¬ (65536 < countT (t', (0 : Int)).1 ∨ (true = false ∧ full = true)) := by
    rintro (h | ⟨h, _⟩)
    · exact absurd h (by show ¬ 65536 < countT t'; omega)
    · cases h
  by_cases h1 : (t', (0 : Int)).1.kind ≠ 1 ∧ countT (t', (0 : Int)).1 = 0
  · rw [if_pos h1]; exact ⟨rfl, fun h => absurd h h1.1⟩
  · rw [if_neg h1, if_neg hc']; exact ⟨rfl, fun _ => rfl⟩
theorem fate_until (hf : findS S k = some t) (hk : k.size ≤ 1048576) (hc : countT t ≤ 65536) : (fateS S (untilE k n)).num = 0 ∧ (t.kind = 1 → fateS S (untilE k n) = .put { t with hasU := true, unt := n }) := by
  have e : fateS S (untilE k n) = endF ({ t with hasU := true, unt := n }, 0) true (decide (65536 ≤ S.length)) := by
    show oneF (findS S k) (untilE k n) _ = _
    rw [hf, oneF_some (r := ⟨false, false, true, 0, false, 119⟩) rfl (by
      rintro (⟨_, h⟩ | ⟨_, h⟩ | ⟨h, _⟩)
      · exact h rfl
      · exact h rfl
      · cases h) (by
      rintro (h | h | h)
      · exact absurd h (by show ¬ 1048576 < k.size; omega)
      · exact absurd h (by show ¬ 1048576 < noText.size; rw [no_size]; decide)
      · exact absurd h (by show ¬ 1048576 < noText.size; rw [no_size]; decide)) (fun h => h.1 rfl)]
    rfl
  rw [e]
  exact endF_stay (t' := { t with hasU := true, unt := n }) hc

end

theorem getS_find {S : Space} {k : ByteArray} {now : Int} {t : Thing} (h : getS S k now = some t) : findS S k = some t := by
  unfold getS at h
  split at h
  · rename_i u hu
    split at h
    · cases h
    · rw [hu]; exact h
  · cases h
def KeyS (S : Space) : Prop := ∀ p ∈ S, p.1.size ≤ 1048576
theorem KeyS.of {S : Space} (hk : KeyS S) {k : ByteArray} {t : Thing} (h : findS S k = some t) : k.size ≤ 1048576 := hk _ (findS_mem h)

theorem all_gone : ∀ {L : List ByteArray} {S : Space}, UpS S → KeyS S → L.Nodup → (∀ k ∈ L, (findS S k).isSome = true) → ∃ S', allS S (L.map goneE) = some S' ∧ UpS S' ∧ S'.length ≤ S.length
  | [], S, hu, _, _, _ => ⟨S, rfl, hu, Nat.le_refl _⟩
  | k :: L, S, hu, hk, hn, hs => by
    obtain ⟨hkn, hn⟩ := List.nodup_cons.1 hn
    obtain ⟨t, ht⟩ := Option.isSome_iff_exists.1 (hs k (by simp))
    have hf := fate_gone ht (hk.of ht)
    obtain ⟨S', h1, h2, h3⟩ := all_gone (L := L) (up_dropS (key := k) hu) (fun p hp => hk p (mem_dropS.1 hp).1) hn fun k' hk' => by
      rw [find_drop hu, if_neg (fun e : k' = k => hkn (e ▸ hk'))]
      exact hs k' (by simp [hk'])
    refine ⟨S', ?_, h2, Nat.le_trans h3 len_drop⟩
    simp only [List.map_cons, allS]
    rw [hf]
    exact h1

theorem delL_keys {S : Space} {now : Int} : ∀ (L pre : List ByteArray), ∃ K : List ByteArray, delL S now pre L = K.map goneE ∧ K.Nodup ∧ ∀ k ∈ K, k ∉ pre ∧ here S now k = true
  | [], pre => ⟨[], rfl, List.nodup_nil, by simp⟩
  | k :: L, pre => by
    obtain ⟨K, h1, h2, h3⟩ := delL_keys L (pre ++ [k])
    simp only [delL]
    split
    · rename_i hc
      refine ⟨k :: K, by rw [h1]; rfl, List.nodup_cons.2 ⟨fun hm => (h3 k hm).1 (by simp), h2⟩, fun k' hk' => ?_⟩
      rcases List.mem_cons.1 hk' with rfl | hk'
      · exact ⟨hc.2, hc.1⟩
      · exact ⟨fun hm => (h3 k' hk').1 (by simp [hm]), (h3 k' hk').2⟩
    · exact ⟨K, by rw [h1]; rfl, h2, fun k' hk' => ⟨fun hm => (h3 k' hk').1 (by simp [hm]), (h3 k' hk').2⟩⟩

theorem up_keys {S : Space} (hu : UpS S) : (S.map Prod.fst).Nodup := by
  unfold List.Nodup
  rw [List.pairwise_map]
  exact hu.imp fun h e => sless_ne h e

theorem all_text {S : Space} {k s : ByteArray} (hu : UpS S) (hl : S.length < 65536) (hk : k.size ≤ 1048576) (hs : s.size ≤ 1048576) : allS S [textE k s] = some (putS S k (textT s)) := by
  have hf := fate_text (k := k) (s := s) hl hk hs
  rw [all_one (by rw [hf]; rfl), hf]; rfl
theorem all_drops {S : Space} {k : ByteArray} {now : Int} (hu : UpS S) (hk : k.size ≤ 1048576) : ∃ S', allS S (dropsS S k now) = some S' ∧ UpS S' ∧ S'.length ≤ S.length ∧ (∀ k', k' ≠ k → findS S' k' = findS S k') := by
  unfold dropsS
  split
  · rename_i hc
    obtain ⟨t, ht⟩ := Option.isSome_iff_exists.1 hc.1
    have hf := fate_gone ht hk
    refine ⟨dropS S k, by rw [all_one (by rw [hf]; rfl), hf]; rfl, up_dropS hu, len_drop, fun k' hne => ?_⟩
    rw [find_drop hu, if_neg hne]
  · exact ⟨S, rfl, hu, Nat.le_refl _, fun _ _ => rfl⟩

theorem all_put {S : Space} {k s : ByteArray} {now : Int} {stays : Bool} (hu : UpS S) (hl : S.length < 65536) (hk : k.size ≤ 1048576) (hs : s.size ≤ 1048576) :
    ∃ S' u v, allS S (putE S k s now stays) = some S' ∧ UpS S' ∧ findS S' k = some { textT s with hasU := u, unt := v } ∧ (stays = false → u = false ∧ v = 0) ∧ S'.length ≤ S.length + 2 := by
  obtain ⟨S1, h1, u1, l1, _⟩ := all_drops (now := now) hu hk
  have h2 := all_text (S := S1) (k := k) (s := s) u1 (by omega) hk hs
  have f2 : findS (putS S1 k (textT s)) k = some (textT s) := by rw [find_put u1, if_pos rfl]
  have l2 := len_put (S := S1) (key := k) (t := textT s)
  unfold putE
  have none_ : keepE (getS S k now) k stays = [] → ∃ S' u v, allS S (dropsS S k now ++ ([textE k s] ++ keepE (getS S k now) k stays)) = some S' ∧ UpS S' ∧ findS S' k = some { textT s with hasU := u, unt := v } ∧ (stays = false → u = false ∧ v = 0) ∧ S'.length ≤ S.length + 2 := fun e => by
    rw [e]
    exact ⟨_, false, 0, all_then h1 h2, up_putS u1, f2, fun _ => ⟨rfl, rfl⟩, by omega⟩
  cases hg : getS S k now with
  | none => rw [hg] at none_; exact none_ rfl
  | some t =>
    rw [hg] at none_
    by_cases hc : stays = true ∧ t.hasU = true
    · have e : keepE (some t) k stays = [untilE k t.unt] := if_pos hc
      rw [e]
      have hf := (fate_until (n := t.unt) f2 hk (by show (0 : Nat) + 0 + 0 ≤ 65536; omega)).2 rfl
      have h3 : allS (putS S1 k (textT s)) [untilE k t.unt] = some (putS (putS S1 k (textT s)) k { textT s with hasU := true, unt := t.unt }) := by
        rw [all_one (by rw [hf]; rfl), hf]; rfl
      refine ⟨_, true, t.unt, all_then h1 (all_then h2 h3), up_putS (up_putS u1), by rw [find_put (up_putS u1), if_pos rfl], fun hs => ?_, ?_⟩
      · rw [hs] at hc; cases hc.1
      · have := len_put (S := putS S1 k (textT s)) (key := k) (t := { textT s with hasU := true, unt := t.unt })
        omega
    · exact none_ (if_neg hc)

structure Few (S : Space) : Prop where
  up : UpS S
  keys : KeyS S
  len : S.length ≤ 20
  ins : InS S

theorem putR_done {S : Space} {k s : ByteArray} {now : Int} {stays : Bool} {r q : Rep} {E : List Eff} (f : Few S) (h : putR S k s now stays r = .ok (q, E)) : ∃ S', allS S E = some S' := by
  unfold putR at h
  split at h
  · rename_i hc
    simp at h
    obtain ⟨_, rfl⟩ := h
    have := f.len
    obtain ⟨S', _, _, h1, _⟩ := all_put (now := now) (stays := stays) f.up (by omega) hc.2 hc.1
    exact ⟨S', h1⟩
  · cases h

theorem del_done {S : Space} {now : Int} {A : List ByteArray} {q : Rep} {E : List Eff} (f : Few S) (h : cDel S now A = .ok (q, E)) : ∃ S', allS S E = some S' := by
  unfold cDel inMost at h
  split at h
  · simp at h
    obtain ⟨_, rfl⟩ := h
    obtain ⟨K, h1, h2, h3⟩ := delL_keys (S := S) (now := now) A []
    rw [h1]
    obtain ⟨S', h4, _⟩ := all_gone f.up f.keys h2 fun k hk => by
      obtain ⟨t, ht⟩ := Option.isSome_iff_exists.1 (h3 k hk).2
      rw [getS_find ht]; rfl
    exact ⟨S', h4⟩
  · cases h

theorem mset_done {S : Space} {now : Int} {up0 : UpS S} : ∀ (n : Nat) (L pre : List ByteArray) (E0 : List Eff) (S1 : Space) (q : Rep) (E : List Eff), L.length ≤ n → allS S E0 = some S1 → UpS S1 → S1.length + L.length < 65536 →
    (∀ k, k ∉ pre → findS S1 k = findS S k) → msetL S now pre L E0 = .ok (q, E) → ∃ S', allS S E = some S'
  | 0, L, pre, E0, S1, q, E, hn, h0, _, _, _, h => by
    have : L = [] := by simpa using hn
    subst this
    simp [msetL] at h
    obtain ⟨_, rfl⟩ := h
    exact ⟨S1, h0⟩
  | n + 1, [], pre, E0, S1, q, E, _, h0, _, _, _, h => by
    simp [msetL] at h
    obtain ⟨_, rfl⟩ := h
    exact ⟨S1, h0⟩
  | n + 1, [x], pre, E0, S1, q, E, _, h0, _, _, _, h => by
    simp [msetL] at h
    obtain ⟨_, rfl⟩ := h
    exact ⟨S1, h0⟩
  | n + 1, k :: s :: L, pre, E0, S1, q, E, hn, h0, u1, hl, hf, h => by
    simp only [msetL] at h
    split at h
    · rename_i hc
      simp only [List.length_cons] at hl hn
      have step : ∃ S2, allS S1 ((if k ∈ pre then [] else dropsS S k now) ++ [textE k s]) = some S2 ∧ UpS S2 ∧ S2.length ≤ S1.length + 1 ∧ ∀ k', k' ≠ k → findS S2 k' = findS S1 k' := by
        by_cases hp : k ∈ pre
        · rw [if_pos hp]
          refine ⟨_, all_text u1 (by omega) hc.2 hc.1, up_putS u1, len_put, fun k' hne => by rw [find_put u1, if_neg hne]⟩
        · rw [if_neg hp]
          have e : dropsS S k now = dropsS S1 k now := by
            unfold dropsS getS
            rw [hf k hp]
          rw [e]
          obtain ⟨S2, h2, u2, l2, f2⟩ := all_drops (now := now) u1 hc.2
          refine ⟨_, all_then h2 (all_text u2 (by omega) hc.2 hc.1), up_putS u2, Nat.le_trans len_put (by omega), fun k' hne => by rw [find_put u2, if_neg hne, f2 k' hne]⟩
      obtain ⟨S2, h2, u2, l2, f2⟩ := step
      refine mset_done (up0 := up0) n L (pre ++ [k]) _ S2 q E (by omega) (all_then h0 h2) u2 (by omega) (fun k' hk' => ?_) h
      have h3 : k' ≠ k := fun e => hk' (by simp [e])
      have h4 : k' ∉ pre := fun e => hk' (by simp [e])
      rw [f2 k' h3, hf k' h4]
    · cases h

theorem mset_ok {S : Space} {now : Int} {A : List ByteArray} {q : Rep} {E : List Eff} (f : Few S) (hA : A.length ≤ 60000) (h : cMset S now A = .ok (q, E)) : ∃ S', allS S E = some S' := by
  unfold cMset inMost at h
  split at h
  · split at h
    · have := f.len
      exact mset_done (up0 := f.up) A.length A [] [] S q E (Nat.le_refl _) rfl f.up (by omega) (fun _ _ => rfl) h
    · cases h
  · cases h

theorem flush_done {S : Space} {A : List ByteArray} {q : Rep} {E : List Eff} (f : Few S) (h : cFlush S A = .ok (q, E)) : ∃ S', allS S E = some S' := by
  unfold cFlush arg0 at h
  split at h
  · simp at h; obtain ⟨_, rfl⟩ := h
    have e : (S.map fun p => goneE p.1) = (S.map Prod.fst).map goneE := by rw [List.map_map]; rfl
    rw [e]
    obtain ⟨S', h4, _⟩ := all_gone f.up f.keys (up_keys f.up) fun k hk => by
      obtain ⟨p, hp, rfl⟩ := List.mem_map.1 hk
      rw [findS_some f.up (t := p.2) hp]; rfl
    exact ⟨S', h4⟩
  · cases h

end Go.Proofs.YtgmkldaonkbjgaaGreatDoor
