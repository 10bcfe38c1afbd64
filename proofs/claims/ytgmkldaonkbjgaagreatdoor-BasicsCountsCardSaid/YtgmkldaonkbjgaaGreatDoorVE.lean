/-
  The simplified code of this seat's functions, and that it is what the program's code comes to. Printed by a program (wip/print.lean).
  Layer 8: GET, STRLEN, INCR, DECR, INCRBY, APPEND.
  Layer 8: INCR, DECR, INCRBY, APPEND.
  Layer 8: what the commands come to; plain.
  Layer 8: the document's answer: what is asked stands in one block; its small functions.
  Layer 8: the document's answer: a gone thing, a text that is put, a thing of a kind.
  Layer 8: the document's answer: by, text.
  Layer 8: the document's answer: bounds and replies of the words that count.
  Layer 8: what Do does behind a command: a stop is an error's reply.
  The simplified code of this seat's functions, and that it is what the program's code comes to. Printed by a program (wip/print.lean).
  Layer 8: a text in capital letters, by the document and by the program.
  Layer 8: the map of commands: which function stands under which word; by a walk.
  Layer 8: Do, for a word that is a command's.
  Layer 8: the document's answer: Do.
  Layer 8: replies as they stand in memory; whether two are the same.
  Layer 8: TYPE, PERSIST, PTTL, PEXPIRE, DBSIZE.
  Layer 8: EXISTS, DEL, DBSIZE.
  Layer 8: MGET, KEYS, DEL, MSET.
  Layer 8: DEL, MSET.
  Layer 8: SET, FLUSHALL.
  Layer 8: what effects make of a keyspace, one behind the other; plain.
  Layer 8: what is known of a keyspace that keys.Of made of few things.
  Layer 8: Do, whatever is asked.
  Layer 8: whatever is asked: its effects are all done.
  Layer 8: the program's answer against the document's: replies, effects, the keyspace.
  Layer 8: known(), by a walk.
  Layer 8: the law of counting (taborlaw08.BasicsCounts).
-/
import Derived.Test.YtgmkldaonkbjgaaGreatDoorProg
import Derived.Test.YtgmkldaonkbjgaaGreatDoorVD
set_option maxRecDepth 100000
namespace Go.Proofs.YtgmkldaonkbjgaaGreatDoor.C
open Go Go.Sx Go.Sx.S


def f3r0 : List SOper := [
 o 3 (.box (t 0)),
 o 6 (.mv (b false))]
def f3r1 : List SOper := [
 o 8 (.ldn 8 (t 3)),
 o 9 (.bslice [(.string ⟨#[]⟩), (.int .i64 0), (.string ⟨#[]⟩), (.slice none 0 0), (.slice none 0 0), (.slice none 0 0), (.bool false), (.int .i64 0)] 1 [(0, 8)] [(t 8)]),
 o 7 (.mv (t 9))]
def f3r2 : List SOper := [
 o 10 (.mv (t 7)),
 o 11 (.mv (t 2)),
 o 12 (.bslice [(.string ⟨#[]⟩)] 1 [(0, 1)] [(t 11)]),
 o 13 (.call 7 [(t 10), (t 12)])]
def f3r3 : List SOper := [
 o 14 (.call 8 []),
 o 6 (.mv (t 14))]
def f3r4 : List SOper := [
 o 15 (.mv (t 7)),
 o 16 (.mv (t 1)),
 o 17 (.fa 0 (t 3)),
 o 18 (.ld1 (t 17)),
 o 19 (.mv (t 2)),
 o 20 (.bslice [(.string ⟨#[]⟩), (.string ⟨#[]⟩), (.string ⟨#[]⟩)] 3 [(0, 1), (1, 1), (2, 1)] [(.const (.string ⟨#[73, 78, 67, 82, 66, 89]⟩)), (t 18), (t 19)]),
 o 21 (.call 9 [(t 15), (t 16), (t 20)]),
 o 22 (.mv (t 21)),
 g 23 22 (.mv (t 7)),
 g 24 22 (.mv (t 1)),
 g 25 22 (.fa 0 (t 3)),
 g 26 22 (.ld1 (t 25)),
 g 27 22 (.bslice [(.string ⟨#[]⟩), (.string ⟨#[]⟩)] 2 [(0, 1), (1, 1)] [(.const (.string ⟨#[73, 78, 67, 82]⟩)), (t 26)]),
 g 28 22 (.call 9 [(t 23), (t 24), (t 27)]),
 o 29 (.pick (t 22) (t 28) (b false)),
 o 30 (.mv (t 29)),
 g 31 30 (.mv (t 7)),
 g 32 30 (.mv (t 1)),
 g 33 30 (.fa 0 (t 3)),
 g 34 30 (.ld1 (t 33)),
 g 35 30 (.bslice [(.string ⟨#[]⟩), (.string ⟨#[]⟩)] 2 [(0, 1), (1, 1)] [(.const (.string ⟨#[68, 69, 67, 82]⟩)), (t 34)]),
 g 36 30 (.call 9 [(t 31), (t 32), (t 35)]),
 o 37 (.pick (t 30) (t 36) (b false)),
 o 38 (.mv (t 37)),
 g 39 38 (.mv (t 7)),
 g 40 38 (.mv (t 1)),
 g 41 38 (.fa 0 (t 3)),
 g 42 38 (.ld1 (t 41)),
 g 43 38 (.mv (t 2)),
 g 44 38 (.bslice [(.string ⟨#[]⟩), (.string ⟨#[]⟩), (.string ⟨#[]⟩)] 3 [(0, 1), (1, 1), (2, 1)] [(.const (.string ⟨#[65, 80, 80, 69, 78, 68]⟩)), (t 42), (t 43)]),
 g 45 38 (.call 9 [(t 39), (t 40), (t 44)]),
 o 46 (.pick (t 38) (t 45) (b false)),
 o 47 (.mv (t 46)),
 g 48 47 (.mv (t 7)),
 g 49 47 (.mv (t 1)),
 g 50 47 (.fa 0 (t 3)),
 g 51 47 (.ld1 (t 50)),
 g 52 47 (.bslice [(.string ⟨#[]⟩), (.string ⟨#[]⟩)] 2 [(0, 1), (1, 1)] [(.const (.string ⟨#[83, 84, 82, 76, 69, 78]⟩)), (t 51)]),
 g 53 47 (.call 9 [(t 48), (t 49), (t 52)]),
 o 54 (.pick (t 47) (t 53) (b false)),
 o 55 (.mv (t 54)),
 g 56 55 (.mv (t 7)),
 g 57 55 (.mv (t 1)),
 g 58 55 (.fa 0 (t 3)),
 g 59 55 (.ld1 (t 58)),
 g 60 55 (.bslice [(.string ⟨#[]⟩), (.string ⟨#[]⟩)] 2 [(0, 1), (1, 1)] [(.const (.string ⟨#[71, 69, 84]⟩)), (t 59)]),
 g 61 55 (.call 9 [(t 56), (t 57), (t 60)]),
 o 62 (.pick (t 55) (t 61) (b false)),
 o 63 (.mv (t 62)),
 g 64 63 (.call 8 []),
 o 65 (.pick (t 63) (t 64) (b false)),
 o 6 (.mv (t 65))]
def f3 : SCode := (.seq (.ops f3r0) (.seq (.ops f3r1) (.seq (.seq (.ops f3r2) (.cond (t 13) (.seq (.ops f3r3) .ret) .skip)) (.seq (.ops f3r4) .ret))))
theorem f3_calls : Sound Tryz.prog 3 66 f3 [.t 6] := sound_of mixed Tryz.func3 rfl (by kernel_rfl) (by kernel_rfl) (by kernel_rfl)

def f4r0 : List SOper := [
 o 6 (.mv (b false))]
def f4r1 : List SOper := [
 o 13 (.mv (t 0)),
 o 14 (.mv (t 2)),
 o 15 (.call 7 [(t 13), (t 14)]),
 o 16 (.mv (t 15)),
 n 17 16 (.mv (t 2)),
 n 18 16 (.len (t 17)),
 n 19 16 (.cmp .gtr (t 18) (i 10)),
 o 20 (.pick (t 16) (b true) (t 19))]
def f4r2 : List SOper := [
 o 21 (.call 8 []),
 o 6 (.mv (t 21))]
def f4r3 : List SOper := [
 o 7 (.mv (.const (.slice none 0 0)))]
def f4r4 : List SOper := [
 o 8 (.mv (i 0))]
def f4r5 : List SOper := [
 o 22 (.mv (t 8)),
 o 23 (.mv (t 2)),
 o 24 (.len (t 23)),
 o 25 (.cmp .lss (t 22) (t 24))]
def f4r6 : List SOper := [
 o 28 (.mv (t 7)),
 o 29 (.mv (t 2)),
 o 30 (.mv (t 8)),
 o 31 (.ixs 1 (t 29) (t 30)),
 o 32 (.ld1 (t 31)),
 o 33 (.bslice [(.string ⟨#[]⟩), (.string ⟨#[]⟩)] 2 [(0, 1), (1, 1)] [(t 32), (.const (.string ⟨#[118]⟩))]),
 o 34 (.app 1 16 [(.string ⟨#[]⟩)] (t 28) (t 33)),
 o 7 (.mv (t 34))]
def f4r7 : List SOper := [
 o 26 (.mv (t 8)),
 o 27 (.ar .add (t 26) (i 1)),
 o 8 (.mv (t 27))]
def f4l8 : SCode := (.seq (.seq (.ops f4r5) (.cond (t 25) .skip (.exit 0))) (.seq (.block 1 (.ops f4r6)) (.ops f4r7)))
def f4r9 : List SOper := [
 o 35 (.bslice [(.string ⟨#[]⟩)] 1 [(0, 1)] [(.const (.string ⟨#[68, 69, 76]⟩))]),
 o 36 (.mv (t 2)),
 o 37 (.app 1 16 [(.string ⟨#[]⟩)] (t 35) (t 36)),
 o 38 (.bslice [(.string ⟨#[]⟩)] 1 [(0, 1)] [(.const (.string ⟨#[69, 88, 73, 83, 84, 83]⟩))]),
 o 39 (.mv (t 2)),
 o 40 (.app 1 16 [(.string ⟨#[]⟩)] (t 38) (t 39)),
 o 41 (.bslice [(.string ⟨#[]⟩)] 1 [(0, 1)] [(.const (.string ⟨#[77, 71, 69, 84]⟩))]),
 o 42 (.mv (t 2)),
 o 43 (.app 1 16 [(.string ⟨#[]⟩)] (t 41) (t 42)),
 o 44 (.bslice [(.string ⟨#[]⟩)] 1 [(0, 1)] [(.const (.string ⟨#[77, 83, 69, 84]⟩))]),
 o 45 (.mv (t 7)),
 o 46 (.app 1 16 [(.string ⟨#[]⟩)] (t 44) (t 45)),
 o 9 (.mv (t 37)),
 o 10 (.mv (t 40)),
 o 11 (.mv (t 43)),
 o 12 (.mv (t 46))]
def f4r10 : List SOper := [
 o 47 (.mv (t 0)),
 o 48 (.mv (t 1)),
 o 49 (.mv (t 9)),
 o 50 (.call 9 [(t 47), (t 48), (t 49)]),
 o 51 (.mv (t 50)),
 g 52 51 (.mv (t 0)),
 g 53 51 (.mv (t 1)),
 g 54 51 (.mv (t 10)),
 g 55 51 (.call 9 [(t 52), (t 53), (t 54)]),
 o 56 (.pick (t 51) (t 55) (b false)),
 o 57 (.mv (t 56)),
 g 58 57 (.mv (t 0)),
 g 59 57 (.mv (t 1)),
 g 60 57 (.mv (t 11)),
 g 61 57 (.call 9 [(t 58), (t 59), (t 60)]),
 o 62 (.pick (t 57) (t 61) (b false)),
 o 63 (.mv (t 62)),
 g 64 63 (.mv (t 0)),
 g 65 63 (.mv (t 1)),
 g 66 63 (.mv (t 12)),
 g 67 63 (.call 9 [(t 64), (t 65), (t 66)]),
 o 68 (.pick (t 63) (t 67) (b false)),
 o 69 (.mv (t 68)),
 g 70 69 (.mv (t 0)),
 g 71 69 (.mv (t 1)),
 g 72 69 (.bslice [(.string ⟨#[]⟩)] 1 [(0, 1)] [(.const (.string ⟨#[75, 69, 89, 83]⟩))]),
 g 73 69 (.call 9 [(t 70), (t 71), (t 72)]),
 o 74 (.pick (t 69) (t 73) (b false)),
 o 75 (.mv (t 74)),
 g 76 75 (.mv (t 0)),
 g 77 75 (.mv (t 1)),
 g 78 75 (.bslice [(.string ⟨#[]⟩)] 1 [(0, 1)] [(.const (.string ⟨#[68, 66, 83, 73, 90, 69]⟩))]),
 g 79 75 (.call 9 [(t 76), (t 77), (t 78)]),
 o 80 (.pick (t 75) (t 79) (b false)),
 o 81 (.mv (t 80)),
 g 82 81 (.mv (t 0)),
 g 83 81 (.mv (t 1)),
 g 84 81 (.bslice [(.string ⟨#[]⟩)] 1 [(0, 1)] [(.const (.string ⟨#[70, 76, 85, 83, 72, 65, 76, 76]⟩))]),
 g 85 81 (.call 9 [(t 82), (t 83), (t 84)]),
 o 86 (.pick (t 81) (t 85) (b false)),
 o 87 (.mv (t 86)),
 g 88 87 (.call 8 []),
 o 89 (.pick (t 87) (t 88) (b false)),
 o 6 (.mv (t 89))]
def f4 : SCode := (.seq (.ops f4r0) (.seq (.seq (.ops f4r1) (.cond (t 20) (.seq (.ops f4r2) .ret) .skip)) (.seq (.ops f4r3) (.seq (.seq (.ops f4r4) (.block 0 (.loop f4l8))) (.seq (.ops f4r9) (.seq (.ops f4r10) .ret))))))
def f6r0 : List SOper := [
 o 3 (.box (t 1)),
 o 4 (.mv (b false))]
def f6r1 : List SOper := [
 o 24 (.mv (t 0)),
 o 25 (.fa 0 (t 3)),
 o 26 (.ld1 (t 25)),
 o 27 (.fa 1 (t 3)),
 o 28 (.ld1 (t 27)),
 o 29 (.bslice [(.string ⟨#[]⟩), (.string ⟨#[]⟩)] 2 [(0, 1), (1, 1)] [(t 26), (t 28)]),
 o 30 (.call 7 [(t 24), (t 29)]),
 o 31 (.mv (t 30)),
 n 32 31 (.fa 2 (t 3)),
 n 33 31 (.ld1 (t 32)),
 n 34 31 (.cmp .lss (t 33) (i 0)),
 o 35 (.pick (t 31) (b true) (t 34)),
 o 36 (.mv (t 35)),
 n 37 36 (.fa 2 (t 3)),
 n 38 36 (.ld1 (t 37)),
 n 39 36 (.cmp .gtr (t 38) (i 1099511627776)),
 o 40 (.pick (t 36) (b true) (t 39)),
 o 41 (.mv (t 40)),
 n 42 41 (.fa 3 (t 3)),
 n 43 41 (.ld1 (t 42)),
 n 44 41 (.cmp .lss (t 43) (i 1)),
 o 45 (.pick (t 41) (b true) (t 44)),
 o 46 (.mv (t 45)),
 n 47 46 (.fa 3 (t 3)),
 n 48 46 (.ld1 (t 47)),
 n 49 46 (.cmp .gtr (t 48) (i 1099511627776)),
 o 50 (.pick (t 46) (b true) (t 49))]
def f6r2 : List SOper := [
 o 51 (.call 8 []),
 o 4 (.mv (t 51))]
def f6r3 : List SOper := [
 o 53 (.mv (t 0)),
 o 54 (.call 10 [(t 53)]),
 o 52 (.mv (t 54)),
 o 55 (.ext (t 52) 0),
 o 56 (.ext (t 52) 1),
 o 5 (.mv (t 55)),
 o 6 (.mv (t 56))]
def f6r4 : List SOper := [
 o 57 (.mv (t 6)),
 o 58 (.cmp .neq (t 57) (i 0))]
def f6r5 : List SOper := [
 o 59 (.mv (t 5)),
 o 60 (.eqn 0 false (t 59)),
 o 61 (.mv (t 60)),
 g 62 61 (.call 8 []),
 o 63 (.pick (t 61) (t 62) (b false)),
 o 4 (.mv (t 63))]
def f6r6 : List SOper := [
 o 65 (.mv (t 5)),
 o 66 (.fa 2 (t 3)),
 o 67 (.ld1 (t 66)),
 o 68 (.fa 0 (t 3)),
 o 69 (.ld1 (t 68)),
 o 70 (.fa 1 (t 3)),
 o 71 (.ld1 (t 70)),
 o 72 (.bslice [(.string ⟨#[]⟩), (.string ⟨#[]⟩), (.string ⟨#[]⟩)] 3 [(0, 1), (1, 1), (2, 1)] [(.const (.string ⟨#[83, 69, 84]⟩)), (t 69), (t 71)]),
 o 73 (.call 11 [(t 65), (t 67), (t 72)]),
 o 64 (.mv (t 73)),
 o 74 (.ext (t 64) 0),
 o 75 (.ext (t 64) 1),
 o 76 (.ext (t 64) 2),
 o 7 (.new [(.int .i64 0), (.int .i64 0), (.string ⟨#[]⟩), (.slice none 0 0)]),
 q (.st 4 (t 7) (t 74)),
 o 8 (.mv (t 75)),
 o 9 (.mv (t 76))]
def f6r7 : List SOper := [
 o 78 (.mv (t 5)),
 o 79 (.mv (t 8)),
 o 80 (.call 12 [(t 78), (t 79)]),
 o 77 (.mv (t 80)),
 o 81 (.ext (t 77) 0),
 o 82 (.ext (t 77) 1),
 o 10 (.mv (t 81)),
 o 11 (.mv (t 82))]
def f6r8 : List SOper := [
 o 84 (.mv (t 5)),
 o 85 (.fa 2 (t 3)),
 o 86 (.ld1 (t 85)),
 o 87 (.fa 0 (t 3)),
 o 88 (.ld1 (t 87)),
 o 89 (.bslice [(.string ⟨#[]⟩), (.string ⟨#[]⟩)] 2 [(0, 1), (1, 1)] [(.const (.string ⟨#[71, 69, 84]⟩)), (t 88)]),
 o 90 (.call 11 [(t 84), (t 86), (t 89)]),
 o 83 (.mv (t 90)),
 o 91 (.ext (t 83) 0),
 o 92 (.ext (t 83) 1),
 o 93 (.ext (t 83) 2),
 o 12 (.new [(.int .i64 0), (.int .i64 0), (.string ⟨#[]⟩), (.slice none 0 0)]),
 q (.st 4 (t 12) (t 91)),
 o 13 (.mv (t 92)),
 o 14 (.mv (t 93))]
def f6r9 : List SOper := [
 o 94 (.fa 2 (t 7)),
 o 95 (.ld1 (t 94)),
 o 96 (.cmp .neq (t 95) (.const (.string ⟨#[79, 75]⟩))),
 o 97 (.mv (t 96)),
 n 98 97 (.mv (t 11)),
 n 99 97 (.cmp .neq (t 98) (i 0)),
 o 100 (.pick (t 97) (b true) (t 99)),
 o 101 (.mv (t 100)),
 n 102 101 (.fa 0 (t 12)),
 n 103 101 (.ld1 (t 102)),
 n 104 101 (.cmp .neq (t 103) (i 4)),
 o 105 (.pick (t 101) (b true) (t 104)),
 o 106 (.mv (t 105)),
 n 107 106 (.fa 2 (t 12)),
 n 108 106 (.ld1 (t 107)),
 n 109 106 (.fa 1 (t 3)),
 n 110 106 (.ld1 (t 109)),
 n 111 106 (.cmp .neq (t 108) (t 110)),
 o 112 (.pick (t 106) (b true) (t 111)),
 o 113 (.mv (t 112)),
 n 114 113 (.mv (t 13)),
 n 115 113 (.len (t 114)),
 n 116 113 (.cmp .neq (t 115) (i 0)),
 o 117 (.pick (t 113) (b true) (t 116))]
def f6r10 : List SOper := [
 o 4 (.mv (b false))]
def f6r11 : List SOper := [
 o 119 (.mv (t 5)),
 o 120 (.fa 2 (t 3)),
 o 121 (.ld1 (t 120)),
 o 122 (.fa 0 (t 3)),
 o 123 (.ld1 (t 122)),
 o 124 (.fa 3 (t 3)),
 o 125 (.ld1 (t 124)),
 o 126 (.callq 13 [(t 125)]),
 o 127 (.bslice [(.string ⟨#[]⟩), (.string ⟨#[]⟩), (.string ⟨#[]⟩)] 3 [(0, 1), (1, 1), (2, 1)] [(.const (.string ⟨#[80, 69, 88, 80, 73, 82, 69]⟩)), (t 123), (t 126)]),
 o 128 (.callq 11 [(t 119), (t 121), (t 127)]),
 o 118 (.mv (t 128)),
 o 129 (.ext (t 118) 0),
 o 130 (.ext (t 118) 1),
 o 131 (.ext (t 118) 2),
 o 8 (.mv (t 130))]
def f6r12 : List SOper := [
 o 133 (.mv (t 5)),
 o 134 (.mv (t 8)),
 o 135 (.call 12 [(t 133), (t 134)]),
 o 132 (.mv (t 135)),
 o 136 (.ext (t 132) 0),
 o 137 (.ext (t 132) 1),
 o 11 (.mv (t 137))]
def f6r13 : List SOper := [
 o 139 (.mv (t 5)),
 o 140 (.fa 2 (t 3)),
 o 141 (.ld1 (t 140)),
 o 142 (.fa 3 (t 3)),
 o 143 (.ld1 (t 142)),
 o 144 (.ar .add (t 141) (t 143)),
 o 145 (.ar .sub (t 144) (i 1)),
 o 146 (.fa 0 (t 3)),
 o 147 (.ld1 (t 146)),
 o 148 (.bslice [(.string ⟨#[]⟩), (.string ⟨#[]⟩)] 2 [(0, 1), (1, 1)] [(.const (.string ⟨#[69, 88, 73, 83, 84, 83]⟩)), (t 147)]),
 o 149 (.call 11 [(t 139), (t 145), (t 148)]),
 o 138 (.mv (t 149)),
 o 150 (.ext (t 138) 0),
 o 151 (.ext (t 138) 1),
 o 152 (.ext (t 138) 2),
 o 15 (.new [(.int .i64 0), (.int .i64 0), (.string ⟨#[]⟩), (.slice none 0 0)]),
 q (.st 4 (t 15) (t 150)),
 o 16 (.mv (t 151)),
 o 17 (.mv (t 152))]
def f6r14 : List SOper := [
 o 154 (.mv (t 5)),
 o 155 (.fa 2 (t 3)),
 o 156 (.ld1 (t 155)),
 o 157 (.fa 3 (t 3)),
 o 158 (.ld1 (t 157)),
 o 159 (.ar .add (t 156) (t 158)),
 o 160 (.fa 0 (t 3)),
 o 161 (.ld1 (t 160)),
 o 162 (.bslice [(.string ⟨#[]⟩), (.string ⟨#[]⟩)] 2 [(0, 1), (1, 1)] [(.const (.string ⟨#[69, 88, 73, 83, 84, 83]⟩)), (t 161)]),
 o 163 (.call 11 [(t 154), (t 159), (t 162)]),
 o 153 (.mv (t 163)),
 o 164 (.ext (t 153) 0),
 o 165 (.ext (t 153) 1),
 o 166 (.ext (t 153) 2),
 o 18 (.new [(.int .i64 0), (.int .i64 0), (.string ⟨#[]⟩), (.slice none 0 0)]),
 q (.st 4 (t 18) (t 164)),
 o 19 (.mv (t 165)),
 o 20 (.mv (t 166))]
def f6r15 : List SOper := [
 o 168 (.mv (t 5)),
 o 169 (.fa 2 (t 3)),
 o 170 (.ld1 (t 169)),
 o 171 (.fa 0 (t 3)),
 o 172 (.ld1 (t 171)),
 o 173 (.bslice [(.string ⟨#[]⟩), (.string ⟨#[]⟩)] 2 [(0, 1), (1, 1)] [(.const (.string ⟨#[80, 84, 84, 76]⟩)), (t 172)]),
 o 174 (.call 11 [(t 168), (t 170), (t 173)]),
 o 167 (.mv (t 174)),
 o 175 (.ext (t 167) 0),
 o 176 (.ext (t 167) 1),
 o 177 (.ext (t 167) 2),
 o 21 (.new [(.int .i64 0), (.int .i64 0), (.string ⟨#[]⟩), (.slice none 0 0)]),
 q (.st 4 (t 21) (t 175)),
 o 22 (.mv (t 176)),
 o 23 (.mv (t 177))]
def f6r16 : List SOper := [
 o 178 (.mv (t 11)),
 o 179 (.cmp .eql (t 178) (i 0)),
 o 180 (.mv (t 179)),
 g 181 180 (.fa 1 (t 15)),
 g 182 180 (.ld1 (t 181)),
 g 183 180 (.cmp .eql (t 182) (i 1)),
 o 184 (.pick (t 180) (t 183) (b false)),
 o 185 (.mv (t 184)),
 g 186 185 (.fa 0 (t 18)),
 g 187 185 (.ld1 (t 186)),
 g 188 185 (.cmp .eql (t 187) (i 3)),
 o 189 (.pick (t 185) (t 188) (b false)),
 o 190 (.mv (t 189)),
 g 191 190 (.fa 1 (t 18)),
 g 192 190 (.ld1 (t 191)),
 g 193 190 (.cmp .eql (t 192) (i 0)),
 o 194 (.pick (t 190) (t 193) (b false)),
 o 195 (.mv (t 194)),
 g 196 195 (.fa 1 (t 21)),
 g 197 195 (.ld1 (t 196)),
 g 198 195 (.fa 3 (t 3)),
 g 199 195 (.ld1 (t 198)),
 g 200 195 (.cmp .eql (t 197) (t 199)),
 o 201 (.pick (t 195) (t 200) (b false)),
 o 202 (.mv (t 201)),
 g 203 202 (.call 8 []),
 o 204 (.pick (t 202) (t 203) (b false)),
 o 4 (.mv (t 204))]
def f6 : SCode := (.seq (.ops f6r0) (.seq (.seq (.ops f6r1) (.cond (t 50) (.seq (.ops f6r2) .ret) .skip)) (.seq (.ops f6r3) (.seq (.seq (.ops f6r4) (.cond (t 58) (.seq (.ops f6r5) .ret) .skip)) (.seq (.ops f6r6) (.seq (.ops f6r7) (.seq (.ops f6r8) (.seq (.seq (.ops f6r9) (.cond (t 117) (.seq (.ops f6r10) .ret) .skip)) (.seq (.ops f6r11) (.seq (.ops f6r12) (.seq (.ops f6r13) (.seq (.ops f6r14) (.seq (.ops f6r15) (.seq (.ops f6r16) .ret))))))))))))))
def f9r0 : List SOper := [
 o 6 (.mv (b false))]
def f9r1 : List SOper := [
 o 18 (.mv (t 0)),
 o 19 (.call 10 [(t 18)]),
 o 17 (.mv (t 19)),
 o 20 (.ext (t 17) 0),
 o 21 (.ext (t 17) 1),
 o 7 (.mv (t 20)),
 o 8 (.mv (t 21))]
def f9r2 : List SOper := [
 o 23 (.mv (t 0)),
 o 24 (.call 16 [(t 23)]),
 o 22 (.mv (t 24)),
 o 25 (.ext (t 22) 0),
 o 26 (.ext (t 22) 1),
 o 9 (.mv (t 25)),
 o 10 (.mv (t 26))]
def f9r3 : List SOper := [
 o 27 (.mv (t 10)),
 o 28 (.cmp .neq (t 27) (i 0)),
 o 29 (.mv (t 28)),
 n 30 29 (.mv (t 8)),
 n 31 29 (.cmp .neq (t 30) (i 0)),
 o 32 (.pick (t 29) (b true) (t 31))]
def f9r4 : List SOper := [
 o 33 (.mv (t 8)),
 o 34 (.mv (t 10)),
 o 35 (.cmp .eql (t 33) (t 34)),
 o 6 (.mv (t 35))]
def f9r5 : List SOper := [
 o 37 (.mv (t 7)),
 o 38 (.mv (t 1)),
 o 39 (.mv (t 2)),
 o 40 (.call 11 [(t 37), (t 38), (t 39)]),
 o 36 (.mv (t 40)),
 o 41 (.ext (t 36) 0),
 o 42 (.ext (t 36) 1),
 o 43 (.ext (t 36) 2),
 o 11 (.new [(.int .i64 0), (.int .i64 0), (.string ⟨#[]⟩), (.slice none 0 0)]),
 q (.st 4 (t 11) (t 41)),
 o 12 (.mv (t 42)),
 o 13 (.mv (t 43))]
def f9r6 : List SOper := [
 o 45 (.mv (t 9)),
 o 46 (.mv (t 1)),
 o 47 (.mv (t 2)),
 o 48 (.call 17 [(t 45), (t 46), (t 47)]),
 o 44 (.mv (t 48)),
 o 49 (.ext (t 44) 0),
 o 50 (.ext (t 44) 1),
 o 51 (.ext (t 44) 2),
 o 14 (.new [(.int .i64 0), (.int .i64 0), (.string ⟨#[]⟩), (.slice none 0 0)]),
 q (.st 4 (t 14) (t 49)),
 o 15 (.mv (t 50)),
 o 16 (.mv (t 51))]
def f9r7 : List SOper := [
 o 52 (.mv (t 13)),
 o 53 (.mv (t 16)),
 o 54 (.cmpb false (t 52) (t 53)),
 o 55 (.mv (t 54)),
 g 56 55 (.ldn 4 (t 11)),
 g 57 55 (.ldn 4 (t 14)),
 g 58 55 (.call 18 [(t 56), (t 57)]),
 o 59 (.pick (t 55) (t 58) (b false)),
 o 60 (.mv (t 59)),
 g 61 60 (.mv (t 12)),
 g 62 60 (.mv (t 15)),
 g 63 60 (.call 19 [(t 61), (t 62)]),
 o 64 (.pick (t 60) (t 63) (b false)),
 o 65 (.mv (t 64)),
 g 66 65 (.mv (t 7)),
 g 67 65 (.mv (t 9)),
 g 68 65 (.call 20 [(t 66), (t 67)]),
 o 69 (.pick (t 65) (t 68) (b false)),
 o 6 (.mv (t 69))]
def f9 : SCode := (.seq (.ops f9r0) (.seq (.ops f9r1) (.seq (.ops f9r2) (.seq (.seq (.ops f9r3) (.cond (t 32) (.seq (.ops f9r4) .ret) .skip)) (.seq (.ops f9r5) (.seq (.ops f9r6) (.seq (.ops f9r7) .ret)))))))
theorem f9_calls : Sound Tryz.prog 9 70 f9 [.t 6] := sound_of mixed Tryz.func9 rfl (by kernel_rfl) (by kernel_rfl) (by kernel_rfl)

def f17r0 : List SOper := [
 o 6 (.new [(.int .i64 0), (.int .i64 0), (.string ⟨#[]⟩), (.slice none 0 0)]),
 o 7 (.mv (.const (.slice none 0 0))),
 o 8 (.mv (b false))]
def f17r1 : List SOper := [
 o 15 (.mv (t 2)),
 o 16 (.len (t 15)),
 o 17 (.cmp .eql (t 16) (i 0))]
def f17r2 : List SOper := [
 o 18 (.build [(.int .i64 0), (.int .i64 0), (.string ⟨#[]⟩), (.slice none 0 0)] [] []),
 q (.st 4 (t 6) (t 18)),
 o 7 (.mv (.const (.slice none 0 0))),
 o 8 (.mv (b false))]
def f17r3 : List SOper := [
 o 19 (.mv (t 2)),
 o 20 (.ixs 1 (t 19) (i 0)),
 o 21 (.ld1 (t 20)),
 o 22 (.call 34 [(t 21)]),
 o 9 (.mv (t 22))]
def f17r4 : List SOper := [
 o 24 (.mv (t 9)),
 o 25 (.call 35 [(t 24)]),
 o 23 (.mv (t 25)),
 o 26 (.ext (t 23) 0),
 o 27 (.ext (t 23) 1),
 o 28 (.ext (t 23) 2),
 o 10 (.mv (t 26)),
 o 11 (.mv (t 27)),
 o 12 (.mv (t 28))]
def f17r5 : List SOper := [
 o 29 (.mv (t 12)),
 o 30 (.un .not (t 29))]
def f17r6 : List SOper := [
 o 31 (.build [(.int .i64 0), (.int .i64 0), (.string ⟨#[]⟩), (.slice none 0 0)] [] []),
 q (.st 4 (t 6) (t 31)),
 o 7 (.mv (.const (.slice none 0 0))),
 o 8 (.mv (b false))]
def f17r7 : List SOper := [
 o 32 (.mv (t 0)),
 o 33 (.mv (t 1)),
 o 34 (.mv (t 2)),
 o 35 (.slc 1 (t 34) (some (i 1)) none),
 o 36 (.build [(.slice none 0 0), (.int .i64 0), (.slice none 0 0), (.slice none 0 0), (.string ⟨#[]⟩)] [(0, 1), (1, 1), (2, 1)] [(t 32), (t 33), (t 35)]),
 o 37 (.box (t 36)),
 o 13 (.mv (t 37))]
def f17r8 : List SOper := [
 o 38 (.mv (t 13)),
 o 39 (.mv (t 10)),
 o 40 (.mv (t 11)),
 o 41 (.call 36 [(t 38), (t 39), (t 40)]),
 o 42 (.un .not (t 41))]
def f17r9 : List SOper := [
 o 43 (.mv (t 13)),
 o 44 (.nilck (t 43)),
 o 45 (.fa 4 (t 44)),
 o 46 (.ld1 (t 45)),
 o 47 (.call 37 [(t 46)]),
 q (.st 4 (t 6) (t 47)),
 o 7 (.mv (.const (.slice none 0 0))),
 o 8 (.mv (b true))]
def f17r10 : List SOper := [
 o 48 (.mv (t 13)),
 o 49 (.mv (t 9)),
 o 50 (.call 38 [(t 48), (t 49)]),
 o 14 (.new [(.int .i64 0), (.int .i64 0), (.string ⟨#[]⟩), (.slice none 0 0)]),
 q (.st 4 (t 14) (t 50))]
def f17r11 : List SOper := [
 o 51 (.mv (t 13)),
 o 52 (.nilck (t 51)),
 o 53 (.fa 4 (t 52)),
 o 54 (.ld1 (t 53)),
 o 55 (.cmp .neq (t 54) e)]
def f17r12 : List SOper := [
 o 56 (.mv (t 13)),
 o 57 (.nilck (t 56)),
 o 58 (.fa 4 (t 57)),
 o 59 (.ld1 (t 58)),
 o 60 (.call 37 [(t 59)]),
 q (.st 4 (t 6) (t 60)),
 o 7 (.mv (.const (.slice none 0 0))),
 o 8 (.mv (b true))]
def f17p13 : List SOper := [
 o 61 (.ldn 4 (t 14)),
 o 62 (.mv (t 13)),
 o 63 (.nilck (t 62)),
 o 64 (.fa 3 (t 63))]
def f17r13 : List SOper := [
 o 65 (.ld1 (t 64)),
 q (.st 4 (t 6) (t 61)),
 o 7 (.mv (t 65)),
 o 8 (.mv (b true))]
def f17s13 : List SOper := [
 q (.st 4 (t 6) (t 61)),
 o 65 (.ld1 (t 64)),
 o 7 (.mv (t 65)),
 o 8 (.mv (b true))]
def f17 : SCode := (.seq (.ops f17r0) (.seq (.seq (.ops f17r1) (.cond (t 17) (.seq (.ops f17r2) .ret) .skip)) (.seq (.ops f17r3) (.seq (.ops f17r4) (.seq (.seq (.ops f17r5) (.cond (t 30) (.seq (.ops f17r6) .ret) .skip)) (.seq (.ops f17r7) (.seq (.seq (.ops f17r8) (.cond (t 42) (.seq (.ops f17r9) .ret) .skip)) (.seq (.ops f17r10) (.seq (.seq (.ops f17r11) (.cond (t 55) (.seq (.ops f17r12) .ret) .skip)) (.seq (.two f17p13 f17r13 f17s13) .ret))))))))))
theorem f17_calls : Sound Tryz.prog 17 66 f17 [.cn 6 4, .t 7, .t 8] := sound_of mixed Tryz.func17 rfl (by kernel_rfl) (by kernel_rfl) (by kernel_rfl)

def f18r0 : List SOper := [
 o 2 (.box (t 0)),
 o 3 (.box (t 1)),
 o 4 (.mv (b false))]
def f18r1 : List SOper := [
 o 6 (.fa 0 (t 2)),
 o 7 (.ld1 (t 6)),
 o 8 (.fa 0 (t 3)),
 o 9 (.ld1 (t 8)),
 o 10 (.cmp .neq (t 7) (t 9)),
 o 11 (.mv (t 10)),
 n 12 11 (.fa 1 (t 2)),
 n 13 11 (.ld1 (t 12)),
 n 14 11 (.fa 1 (t 3)),
 n 15 11 (.ld1 (t 14)),
 n 16 11 (.cmp .neq (t 13) (t 15)),
 o 17 (.pick (t 11) (b true) (t 16)),
 o 18 (.mv (t 17)),
 n 19 18 (.fa 2 (t 2)),
 n 20 18 (.ld1 (t 19)),
 n 21 18 (.fa 2 (t 3)),
 n 22 18 (.ld1 (t 21)),
 n 23 18 (.cmp .neq (t 20) (t 22)),
 o 24 (.pick (t 18) (b true) (t 23)),
 o 25 (.mv (t 24)),
 n 26 25 (.fa 3 (t 2)),
 n 27 25 (.ld1 (t 26)),
 n 28 25 (.len (t 27)),
 n 29 25 (.fa 3 (t 3)),
 n 30 25 (.ld1 (t 29)),
 n 31 25 (.len (t 30)),
 n 32 25 (.cmp .neq (t 28) (t 31)),
 o 33 (.pick (t 25) (b true) (t 32))]
def f18r2 : List SOper := [
 o 4 (.mv (b false))]
def f18r3 : List SOper := [
 o 5 (.mv (i 0))]
def f18r4 : List SOper := [
 o 34 (.mv (t 5)),
 o 35 (.fa 3 (t 2)),
 o 36 (.ld1 (t 35)),
 o 37 (.len (t 36)),
 o 38 (.cmp .lss (t 34) (t 37))]
def f18r5 : List SOper := [
 o 41 (.fa 3 (t 2)),
 o 42 (.ld1 (t 41)),
 o 43 (.mv (t 5)),
 o 44 (.ixs 4 (t 42) (t 43)),
 o 45 (.ldn 4 (t 44)),
 o 46 (.fa 3 (t 3)),
 o 47 (.ld1 (t 46)),
 o 48 (.mv (t 5)),
 o 49 (.ixs 4 (t 47) (t 48)),
 o 50 (.ldn 4 (t 49)),
 o 51 (.call 18 [(t 45), (t 50)]),
 o 52 (.un .not (t 51))]
def f18r6 : List SOper := [
 o 4 (.mv (b false))]
def f18r7 : List SOper := [
 o 39 (.mv (t 5)),
 o 40 (.ar .add (t 39) (i 1)),
 o 5 (.mv (t 40))]
def f18l8 : SCode := (.seq (.seq (.ops f18r4) (.cond (t 38) .skip (.exit 0))) (.seq (.block 1 (.seq (.ops f18r5) (.cond (t 52) (.seq (.ops f18r6) .ret) .skip))) (.ops f18r7)))
def f18r9 : List SOper := [
 o 4 (.mv (b true))]
def f18 : SCode := (.seq (.ops f18r0) (.seq (.seq (.ops f18r1) (.cond (t 33) (.seq (.ops f18r2) .ret) .skip)) (.seq (.seq (.ops f18r3) (.block 0 (.loop f18l8))) (.seq (.ops f18r9) .ret))))
theorem f18_calls : Sound Tryz.prog 18 53 f18 [.t 4] := sound_of mixed Tryz.func18 rfl (by kernel_rfl) (by kernel_rfl) (by kernel_rfl)

def f19r0 : List SOper := [
 o 4 (.mv (b false))]
def f19r1 : List SOper := [
 o 6 (.mv (t 0)),
 o 7 (.len (t 6)),
 o 8 (.mv (t 1)),
 o 9 (.len (t 8)),
 o 10 (.cmp .neq (t 7) (t 9))]
def f19r2 : List SOper := [
 o 4 (.mv (b false))]
def f19r3 : List SOper := [
 o 5 (.mv (i 0))]
def f19r4 : List SOper := [
 o 11 (.mv (t 5)),
 o 12 (.mv (t 0)),
 o 13 (.len (t 12)),
 o 14 (.cmp .lss (t 11) (t 13))]
def f19r5 : List SOper := [
 o 17 (.mv (t 0)),
 o 18 (.mv (t 5)),
 o 19 (.ixs 5 (t 17) (t 18)),
 o 20 (.ldn 5 (t 19)),
 o 21 (.mv (t 1)),
 o 22 (.mv (t 5)),
 o 23 (.ixs 5 (t 21) (t 22)),
 o 24 (.ldn 5 (t 23)),
 o 25 (.eqa true [(.int .i64), .str, .str, .str, (.int .i64)] (t 20) (t 24))]
def f19r6 : List SOper := [
 o 4 (.mv (b false))]
def f19r7 : List SOper := [
 o 15 (.mv (t 5)),
 o 16 (.ar .add (t 15) (i 1)),
 o 5 (.mv (t 16))]
def f19l8 : SCode := (.seq (.seq (.ops f19r4) (.cond (t 14) .skip (.exit 0))) (.seq (.block 1 (.seq (.ops f19r5) (.cond (t 25) (.seq (.ops f19r6) .ret) .skip))) (.ops f19r7)))
def f19r9 : List SOper := [
 o 4 (.mv (b true))]
def f19 : SCode := (.seq (.ops f19r0) (.seq (.seq (.ops f19r1) (.cond (t 10) (.seq (.ops f19r2) .ret) .skip)) (.seq (.seq (.ops f19r3) (.block 0 (.loop f19l8))) (.seq (.ops f19r9) .ret))))
theorem f19_calls : Sound Tryz.prog 19 26 f19 [.t 4] := sound_of mixed Tryz.func19 rfl (by kernel_rfl) (by kernel_rfl) (by kernel_rfl)

def f20r0 : List SOper := [
 o 3 (.box (t 1)),
 o 4 (.new [(.bool false)])]
def f20r1 : List SOper := [
 o 5 (.new [(.int .i64 0)]),
 q (.st 1 (t 5) (i 0))]
def f20r2 : List SOper := [
 o 9 (.mv (t 0)),
 o 10 (.call 39 [(t 9)]),
 o 6 (.mv (t 10))]
def f20r3 : List SOper := [
 o 11 (.mv (t 6)),
 o 12 (.eqn 3 false (t 11))]
def f20r4 : List SOper := [
 q (.st 1 (t 4) (b false))]
def f20r5 : List SOper := [
 o 13 (.mv (t 6))]
def f20r6 : List SOper := [
 o 7 (.mv (t 14))]
def f20r7 : List SOper := [
 o 8 (.new [(.int .i64 0), (.string ⟨#[]⟩), (.slice none 0 0), (.slice none 0 0), (.slice none 0 0), (.bool false), (.int .i64 0)]),
 q (.st 7 (t 8) (t 15))]
def f20r8 : List SOper := [
 o 16 (.ld1 (t 5)),
 o 17 (.ld1 (t 3)),
 o 18 (.len (t 17)),
 o 19 (.cmp .geq (t 16) (t 18)),
 o 20 (.mv (t 19)),
 n 21 20 (.mv (t 7)),
 n 22 20 (.ld1 (t 3)),
 n 23 20 (.ld1 (t 5)),
 n 24 20 (.ixs 8 (t 22) (t 23)),
 n 25 20 (.fa 0 (t 24)),
 n 26 20 (.ld1 (t 25)),
 n 27 20 (.cmp .neq (t 21) (t 26)),
 o 28 (.pick (t 20) (b true) (t 27)),
 o 29 (.mv (t 28)),
 n 30 29 (.ldn 7 (t 8)),
 n 31 29 (.ld1 (t 3)),
 n 32 29 (.ld1 (t 5)),
 n 33 29 (.ixs 8 (t 31) (t 32)),
 n 34 29 (.fa 1 (t 33)),
 n 35 29 (.ldn 7 (t 34)),
 n 36 29 (.call 40 [(t 30), (t 35)]),
 n 37 29 (.un .not (t 36)),
 o 38 (.pick (t 29) (b true) (t 37))]
def f20r9 : List SOper := [
 q (.st 1 (t 4) (b false))]
def f20r10 : List SOper := [
 o 39 (.ld1 (t 5)),
 o 40 (.ar .add (t 39) (i 1)),
 q (.st 1 (t 5) (t 40))]
def f20a11 : SCode := (.seq (.ops f20r6) (.ops f20r7))
def f20b11 : SCode := (.block 1 (.seq (.seq (.ops f20r8) (.cond (t 38) (.seq (.ops f20r9) .ret) .skip)) (.ops f20r10)))
def f20r12 : List SOper := [
 o 41 (.ld1 (t 5)),
 o 42 (.ld1 (t 3)),
 o 43 (.len (t 42)),
 o 44 (.cmp .eql (t 41) (t 43)),
 q (.st 1 (t 4) (t 44))]
def f20 : SCode := (.seq (.ops f20r0) (.seq (.ops f20r1) (.seq (.ops f20r2) (.seq (.seq (.ops f20r3) (.cond (t 12) (.seq (.ops f20r4) .ret) .skip)) (.seq (.seq (.ops f20r5) (.block 0 (.rangeF (t 13) [14, 15] f20a11 f20b11))) (.seq (.ops f20r12) .ret))))))
theorem f20_calls : Sound Tryz.prog 20 45 f20 [.c1 4] := sound_of mixed Tryz.func20 rfl (by kernel_rfl) (by kernel_rfl) (by kernel_rfl)

def f34r0 : List SOper := [
 o 2 (.mv e)]
def f34r1 : List SOper := [
 o 5 (.mv (t 0)),
 o 6 (.byts (t 5)),
 o 3 (.mv (t 6))]
def f34r2 : List SOper := [
 o 4 (.mv (i 0))]
def f34r3 : List SOper := [
 o 7 (.mv (t 4)),
 o 8 (.mv (t 3)),
 o 9 (.len (t 8)),
 o 10 (.cmp .lss (t 7) (t 9))]
def f34r4 : List SOper := [
 o 13 (.mv (t 3)),
 o 14 (.mv (t 4)),
 o 15 (.ixs 1 (t 13) (t 14)),
 o 16 (.ld1 (t 15)),
 o 17 (.cmp .geq (t 16) (.const (.int .u8 97))),
 o 18 (.mv (t 17)),
 g 19 18 (.mv (t 3)),
 g 20 18 (.mv (t 4)),
 g 21 18 (.ixs 1 (t 19) (t 20)),
 g 22 18 (.ld1 (t 21)),
 g 23 18 (.cmp .leq (t 22) (.const (.int .u8 122))),
 o 24 (.pick (t 18) (t 23) (b false))]
def f34r5 : List SOper := [
 o 25 (.mv (t 3)),
 o 26 (.mv (t 4)),
 o 27 (.mv (t 3)),
 o 28 (.mv (t 4)),
 o 29 (.ixs 1 (t 27) (t 28)),
 o 30 (.ld1 (t 29)),
 o 31 (.ar .sub (t 30) (.const (.int .u8 32))),
 o 32 (.ixs 1 (t 25) (t 26)),
 q (.stb (t 32) (t 31))]
def f34r6 : List SOper := [
 o 11 (.mv (t 4)),
 o 12 (.ar .add (t 11) (i 1)),
 o 4 (.mv (t 12))]
def f34l7 : SCode := (.seq (.seq (.ops f34r3) (.cond (t 10) .skip (.exit 0))) (.seq (.block 1 (.seq (.ops f34r4) (.cond (t 24) (.ops f34r5) .skip))) (.ops f34r6)))
def f34r8 : List SOper := [
 o 33 (.mv (t 3)),
 o 34 (.bstr (t 33)),
 o 2 (.mv (t 34))]
def f34 : SCode := (.seq (.ops f34r0) (.seq (.ops f34r1) (.seq (.seq (.ops f34r2) (.block 0 (.loop f34l7))) (.seq (.ops f34r8) .ret))))
theorem f34_calls : Sound Tryz.prog 34 35 f34 [.t 2] := sound_of mixed Tryz.func34 rfl (by kernel_rfl) (by kernel_rfl) (by kernel_rfl)

def f35r0 : List SOper := [
 o 2 (.mv (i 0)),
 o 3 (.mv (i 0)),
 o 4 (.mv (b false))]
def f35r1 : List SOper := [
 o 5 (.mv (t 0))]
def f35r2 : List SOper := [
 o 7 (.cmp .eql (t 5) (.const (.string ⟨#[83, 69, 84]⟩))),
 o 6 (.mv (t 7))]
def f35r3 : List SOper := [
 o 2 (.mv (i 2)),
 o 3 (.mv (i 4)),
 o 4 (.mv (b true))]
def f35r4 : List SOper := [
 o 9 (.cmp .eql (t 5) (.const (.string ⟨#[71, 69, 84]⟩))),
 o 8 (.mv (t 9))]
def f35r5 : List SOper := [
 o 10 (.cmp .eql (t 5) (.const (.string ⟨#[84, 89, 80, 69]⟩))),
 o 8 (.mv (t 10))]
def f35r6 : List SOper := [
 o 11 (.cmp .eql (t 5) (.const (.string ⟨#[73, 78, 67, 82]⟩))),
 o 8 (.mv (t 11))]
def f35r7 : List SOper := [
 o 12 (.cmp .eql (t 5) (.const (.string ⟨#[68, 69, 67, 82]⟩))),
 o 8 (.mv (t 12))]
def f35r8 : List SOper := [
 o 13 (.cmp .eql (t 5) (.const (.string ⟨#[83, 84, 82, 76, 69, 78]⟩))),
 o 8 (.mv (t 13))]
def f35r9 : List SOper := [
 o 14 (.cmp .eql (t 5) (.const (.string ⟨#[80, 69, 82, 83, 73, 83, 84]⟩))),
 o 8 (.mv (t 14))]
def f35r10 : List SOper := [
 o 15 (.cmp .eql (t 5) (.const (.string ⟨#[80, 84, 84, 76]⟩))),
 o 8 (.mv (t 15))]
def f35r11 : List SOper := [
 o 2 (.mv (i 1)),
 o 3 (.mv (i 1)),
 o 4 (.mv (b true))]
def f35r12 : List SOper := [
 o 17 (.cmp .eql (t 5) (.const (.string ⟨#[68, 69, 76]⟩))),
 o 16 (.mv (t 17))]
def f35r13 : List SOper := [
 o 18 (.cmp .eql (t 5) (.const (.string ⟨#[69, 88, 73, 83, 84, 83]⟩))),
 o 16 (.mv (t 18))]
def f35r14 : List SOper := [
 o 19 (.cmp .eql (t 5) (.const (.string ⟨#[77, 71, 69, 84]⟩))),
 o 16 (.mv (t 19))]
def f35r15 : List SOper := [
 o 2 (.mv (i 1)),
 o 3 (.mv (i 65536)),
 o 4 (.mv (b true))]
def f35r16 : List SOper := [
 o 21 (.cmp .eql (t 5) (.const (.string ⟨#[77, 83, 69, 84]⟩))),
 o 20 (.mv (t 21))]
def f35r17 : List SOper := [
 o 2 (.mv (i 2)),
 o 3 (.mv (i 65536)),
 o 4 (.mv (b true))]
def f35r18 : List SOper := [
 o 23 (.cmp .eql (t 5) (.const (.string ⟨#[73, 78, 67, 82, 66, 89]⟩))),
 o 22 (.mv (t 23))]
def f35r19 : List SOper := [
 o 24 (.cmp .eql (t 5) (.const (.string ⟨#[65, 80, 80, 69, 78, 68]⟩))),
 o 22 (.mv (t 24))]
def f35r20 : List SOper := [
 o 25 (.cmp .eql (t 5) (.const (.string ⟨#[80, 69, 88, 80, 73, 82, 69]⟩))),
 o 22 (.mv (t 25))]
def f35r21 : List SOper := [
 o 2 (.mv (i 2)),
 o 3 (.mv (i 2)),
 o 4 (.mv (b true))]
def f35r22 : List SOper := [
 o 27 (.cmp .eql (t 5) (.const (.string ⟨#[75, 69, 89, 83]⟩))),
 o 26 (.mv (t 27))]
def f35r23 : List SOper := [
 o 28 (.cmp .eql (t 5) (.const (.string ⟨#[68, 66, 83, 73, 90, 69]⟩))),
 o 26 (.mv (t 28))]
def f35r24 : List SOper := [
 o 29 (.cmp .eql (t 5) (.const (.string ⟨#[70, 76, 85, 83, 72, 65, 76, 76]⟩))),
 o 26 (.mv (t 29))]
def f35r25 : List SOper := [
 o 2 (.mv (i 0)),
 o 3 (.mv (i 0)),
 o 4 (.mv (b true))]
def f35r26 : List SOper := [
 o 2 (.mv (i 0)),
 o 3 (.mv (i 0)),
 o 4 (.mv (b false))]
def f35 : SCode := (.seq (.ops f35r0) (.seq (.seq (.ops f35r1) (.block 0 (.seq (.ops f35r2) (.cond (t 6) (.seq (.ops f35r3) .ret) (.seq (.seq (.ops f35r4) (.cond (t 8) .skip (.seq (.ops f35r5) (.cond (t 8) .skip (.seq (.ops f35r6) (.cond (t 8) .skip (.seq (.ops f35r7) (.cond (t 8) .skip (.seq (.ops f35r8) (.cond (t 8) .skip (.seq (.ops f35r9) (.cond (t 8) .skip (.ops f35r10))))))))))))) (.cond (t 8) (.seq (.ops f35r11) .ret) (.seq (.seq (.ops f35r12) (.cond (t 16) .skip (.seq (.ops f35r13) (.cond (t 16) .skip (.ops f35r14))))) (.cond (t 16) (.seq (.ops f35r15) .ret) (.seq (.ops f35r16) (.cond (t 20) (.seq (.ops f35r17) .ret) (.seq (.seq (.ops f35r18) (.cond (t 22) .skip (.seq (.ops f35r19) (.cond (t 22) .skip (.ops f35r20))))) (.cond (t 22) (.seq (.ops f35r21) .ret) (.seq (.seq (.ops f35r22) (.cond (t 26) .skip (.seq (.ops f35r23) (.cond (t 26) .skip (.ops f35r24))))) (.cond (t 26) (.seq (.ops f35r25) .ret) .skip)))))))))))))) (.seq (.ops f35r26) .ret)))
theorem f35_calls : Sound Tryz.prog 35 30 f35 [.t 2, .t 3, .t 4] := sound_of mixed Tryz.func35 rfl (by kernel_rfl) (by kernel_rfl) (by kernel_rfl)

def f36r0 : List SOper := [
 o 6 (.mv (b false))]
def f36r1 : List SOper := [
 o 7 (.mv (t 0)),
 o 8 (.nilck (t 7)),
 o 9 (.fa 2 (t 8)),
 o 10 (.ld1 (t 9)),
 o 11 (.len (t 10)),
 o 12 (.mv (t 1)),
 o 13 (.cmp .lss (t 11) (t 12)),
 o 14 (.mv (t 13)),
 n 15 14 (.mv (t 0)),
 n 16 14 (.nilck (t 15)),
 n 17 14 (.fa 2 (t 16)),
 n 18 14 (.ld1 (t 17)),
 n 19 14 (.len (t 18)),
 n 20 14 (.mv (t 2)),
 n 21 14 (.cmp .gtr (t 19) (t 20)),
 o 22 (.pick (t 14) (b true) (t 21))]
def f36r2 : List SOper := [
 o 23 (.mv (t 0)),
 o 24 (.nilck (t 23)),
 o 25 (.fa 4 (t 24)),
 q (.st 1 (t 25) (.const (.string ⟨#[69, 82, 82, 32, 97, 114, 103, 115]⟩)))]
def f36r3 : List SOper := [
 o 6 (.mv (b false))]
def f36r4 : List SOper := [
 o 6 (.mv (b true))]
def f36 : SCode := (.seq (.ops f36r0) (.seq (.seq (.ops f36r1) (.cond (t 22) (.seq (.ops f36r2) (.seq (.ops f36r3) .ret)) .skip)) (.seq (.ops f36r4) .ret)))
theorem f36_calls : Sound Tryz.prog 36 26 f36 [.t 6] := sound_of mixed Tryz.func36 rfl (by kernel_rfl) (by kernel_rfl) (by kernel_rfl)

def f37r0 : List SOper := [
 o 2 (.new [(.int .i64 0), (.int .i64 0), (.string ⟨#[]⟩), (.slice none 0 0)])]
def f37r1 : List SOper := [
 o 3 (.mv (t 0)),
 o 4 (.build [(.int .i64 0), (.int .i64 0), (.string ⟨#[]⟩), (.slice none 0 0)] [(0, 1), (2, 1)] [(i 2), (t 3)]),
 q (.st 4 (t 2) (t 4))]
def f37 : SCode := (.seq (.ops f37r0) (.seq (.ops f37r1) .ret))
theorem f37_calls : Sound Tryz.prog 37 5 f37 [.cn 2 4] := sound_of mixed Tryz.func37 rfl (by kernel_rfl) (by kernel_rfl) (by kernel_rfl)

def f38r0 : List SOper := [
 o 4 (.new [(.int .i64 0), (.int .i64 0), (.string ⟨#[]⟩), (.slice none 0 0)])]
def f38r1 : List SOper := [
 o 9 (.mv (t 1))]
def f38r2 : List SOper := [
 o 11 (.cmp .eql (t 9) (.const (.string ⟨#[83, 69, 84]⟩))),
 o 10 (.mv (t 11))]
def f38r3 : List SOper := [
 o 12 (.mv (t 0)),
 o 13 (.call 82 [(t 12)]),
 q (.st 4 (t 4) (t 13))]
def f38r4 : List SOper := [
 o 15 (.cmp .eql (t 9) (.const (.string ⟨#[71, 69, 84]⟩))),
 o 14 (.mv (t 15))]
def f38r5 : List SOper := [
 o 16 (.cmp .eql (t 9) (.const (.string ⟨#[83, 84, 82, 76, 69, 78]⟩))),
 o 14 (.mv (t 16))]
def f38r6 : List SOper := [
 o 17 (.cmp .eql (t 9) (.const (.string ⟨#[65, 80, 80, 69, 78, 68]⟩))),
 o 14 (.mv (t 17))]
def f38r7 : List SOper := [
 o 18 (.mv (t 0)),
 o 19 (.mv (t 1)),
 o 20 (.call 83 [(t 18), (t 19)]),
 q (.st 4 (t 4) (t 20))]
def f38r8 : List SOper := [
 o 22 (.cmp .eql (t 9) (.const (.string ⟨#[68, 69, 76]⟩))),
 o 21 (.mv (t 22))]
def f38r9 : List SOper := [
 o 23 (.cmp .eql (t 9) (.const (.string ⟨#[69, 88, 73, 83, 84, 83]⟩))),
 o 21 (.mv (t 23))]
def f38r10 : List SOper := [
 o 24 (.mv (t 0)),
 o 25 (.mv (t 1)),
 o 26 (.cmp .eql (t 25) (.const (.string ⟨#[68, 69, 76]⟩))),
 o 27 (.call 84 [(t 24), (t 26)]),
 q (.st 4 (t 4) (t 27))]
def f38r11 : List SOper := [
 o 29 (.cmp .eql (t 9) (.const (.string ⟨#[84, 89, 80, 69]⟩))),
 o 28 (.mv (t 29))]
def f38p12 : List SOper := [
 o 31 (.mv (t 0)),
 o 32 (.nilck (t 31)),
 o 33 (.fa 0 (t 32)),
 o 34 (.ld1 (t 33)),
 o 35 (.mv (t 0)),
 o 36 (.nilck (t 35)),
 o 37 (.fa 2 (t 36)),
 o 38 (.ld1 (t 37)),
 o 39 (.ixs 1 (t 38) (i 0)),
 o 40 (.ld1 (t 39)),
 o 41 (.mv (t 0)),
 o 42 (.nilck (t 41)),
 o 43 (.fa 1 (t 42)),
 o 44 (.ld1 (t 43))]
def f38r12 : List SOper := [
 o 45 (.callq 85 [(t 34), (t 40), (t 44)]),
 o 30 (.mv (t 45)),
 o 46 (.ext (t 30) 0),
 o 47 (.ext (t 30) 1),
 o 5 (.new [(.int .i64 0), (.string ⟨#[]⟩), (.slice none 0 0), (.slice none 0 0), (.slice none 0 0), (.bool false), (.int .i64 0)]),
 q (.st 7 (t 5) (t 46)),
 o 6 (.mv (t 47))]
def f38s12 : List SOper := [
 o 5 (.new [(.int .i64 0), (.string ⟨#[]⟩), (.slice none 0 0), (.slice none 0 0), (.slice none 0 0), (.bool false), (.int .i64 0)]),
 o 45 (.callq 85 [(t 34), (t 40), (t 44)]),
 o 30 (.mv (t 45)),
 o 46 (.ext (t 30) 0),
 o 47 (.ext (t 30) 1),
 q (.st 7 (t 5) (t 46)),
 o 6 (.mv (t 47))]
def f38r13 : List SOper := [
 o 48 (.bslice [(.string ⟨#[]⟩), (.string ⟨#[]⟩), (.string ⟨#[]⟩), (.string ⟨#[]⟩), (.string ⟨#[]⟩), (.string ⟨#[]⟩)] 6 [(0, 1), (1, 1), (2, 1), (3, 1), (4, 1), (5, 1)] [(.const (.string ⟨#[110, 111, 110, 101]⟩)), (.const (.string ⟨#[115, 116, 114, 105, 110, 103]⟩)), (.const (.string ⟨#[104, 97, 115, 104]⟩)), (.const (.string ⟨#[108, 105, 115, 116]⟩)), (.const (.string ⟨#[115, 101, 116]⟩)), (.const (.string ⟨#[122, 115, 101, 116]⟩))]),
 o 49 (.fa 0 (t 5)),
 o 50 (.ld1 (t 49)),
 o 51 (.ixs 1 (t 48) (t 50)),
 o 52 (.ld1 (t 51)),
 o 53 (.call 86 [(t 52)]),
 q (.st 4 (t 4) (t 53))]
def f38r14 : List SOper := [
 o 55 (.cmp .eql (t 9) (.const (.string ⟨#[73, 78, 67, 82, 66, 89]⟩))),
 o 54 (.mv (t 55))]
def f38r15 : List SOper := [
 o 57 (.mv (t 0)),
 o 58 (.call 87 [(t 57), (i 1)]),
 o 56 (.mv (t 58)),
 o 59 (.ext (t 56) 0),
 o 60 (.ext (t 56) 1),
 o 7 (.mv (t 59)),
 o 8 (.mv (t 60))]
def f38r16 : List SOper := [
 o 61 (.mv (t 8)),
 o 62 (.un .not (t 61))]
def f38r17 : List SOper := [
 o 63 (.build [(.int .i64 0), (.int .i64 0), (.string ⟨#[]⟩), (.slice none 0 0)] [] []),
 q (.st 4 (t 4) (t 63))]
def f38r18 : List SOper := [
 o 64 (.mv (t 0)),
 o 65 (.mv (t 7)),
 o 66 (.call 88 [(t 64), (t 65)]),
 q (.st 4 (t 4) (t 66))]
def f38r19 : List SOper := [
 o 68 (.cmp .eql (t 9) (.const (.string ⟨#[73, 78, 67, 82]⟩))),
 o 67 (.mv (t 68))]
def f38r20 : List SOper := [
 o 69 (.mv (t 0)),
 o 70 (.call 88 [(t 69), (i 1)]),
 q (.st 4 (t 4) (t 70))]
def f38r21 : List SOper := [
 o 72 (.cmp .eql (t 9) (.const (.string ⟨#[68, 69, 67, 82]⟩))),
 o 71 (.mv (t 72))]
def f38r22 : List SOper := [
 o 73 (.mv (t 0)),
 o 74 (.call 88 [(t 73), (i (-1))]),
 q (.st 4 (t 4) (t 74))]
def f38r23 : List SOper := [
 o 76 (.cmp .eql (t 9) (.const (.string ⟨#[77, 71, 69, 84]⟩))),
 o 75 (.mv (t 76))]
def f38r24 : List SOper := [
 o 77 (.cmp .eql (t 9) (.const (.string ⟨#[77, 83, 69, 84]⟩))),
 o 75 (.mv (t 77))]
def f38r25 : List SOper := [
 o 78 (.mv (t 0)),
 o 79 (.mv (t 1)),
 o 80 (.cmp .eql (t 79) (.const (.string ⟨#[77, 83, 69, 84]⟩))),
 o 81 (.call 89 [(t 78), (t 80)]),
 q (.st 4 (t 4) (t 81))]
def f38r26 : List SOper := [
 o 83 (.cmp .eql (t 9) (.const (.string ⟨#[80, 69, 88, 80, 73, 82, 69]⟩))),
 o 82 (.mv (t 83))]
def f38r27 : List SOper := [
 o 84 (.cmp .eql (t 9) (.const (.string ⟨#[80, 69, 82, 83, 73, 83, 84]⟩))),
 o 82 (.mv (t 84))]
def f38r28 : List SOper := [
 o 85 (.cmp .eql (t 9) (.const (.string ⟨#[80, 84, 84, 76]⟩))),
 o 82 (.mv (t 85))]
def f38r29 : List SOper := [
 o 86 (.mv (t 0)),
 o 87 (.mv (t 1)),
 o 88 (.call 90 [(t 86), (t 87)]),
 q (.st 4 (t 4) (t 88))]
def f38r30 : List SOper := [
 o 89 (.mv (t 0)),
 o 90 (.mv (t 1)),
 o 91 (.call 91 [(t 89), (t 90)]),
 q (.st 4 (t 4) (t 91))]
def f38 : SCode := (.seq (.ops f38r0) (.seq (.seq (.ops f38r1) (.block 0 (.seq (.ops f38r2) (.cond (t 10) (.seq (.ops f38r3) .ret) (.seq (.seq (.ops f38r4) (.cond (t 14) .skip (.seq (.ops f38r5) (.cond (t 14) .skip (.ops f38r6))))) (.cond (t 14) (.seq (.ops f38r7) .ret) (.seq (.seq (.ops f38r8) (.cond (t 21) .skip (.ops f38r9))) (.cond (t 21) (.seq (.ops f38r10) .ret) (.seq (.ops f38r11) (.cond (t 28) (.seq (.two f38p12 f38r12 f38s12) (.seq (.ops f38r13) .ret)) (.seq (.ops f38r14) (.cond (t 54) (.seq (.ops f38r15) (.seq (.seq (.ops f38r16) (.cond (t 62) (.seq (.ops f38r17) .ret) .skip)) (.seq (.ops f38r18) .ret))) (.seq (.ops f38r19) (.cond (t 67) (.seq (.ops f38r20) .ret) (.seq (.ops f38r21) (.cond (t 71) (.seq (.ops f38r22) .ret) (.seq (.seq (.ops f38r23) (.cond (t 75) .skip (.ops f38r24))) (.cond (t 75) (.seq (.ops f38r25) .ret) (.seq (.seq (.ops f38r26) (.cond (t 82) .skip (.seq (.ops f38r27) (.cond (t 82) .skip (.ops f38r28))))) (.cond (t 82) (.seq (.ops f38r29) .ret) .skip)))))))))))))))))))) (.seq (.ops f38r30) .ret)))
theorem f38_calls : Sound Tryz.prog 38 92 f38 [.cn 4 4] := sound_of mixed Tryz.func38 rfl (by kernel_rfl) (by kernel_rfl) (by kernel_rfl)

def f83r0 : List SOper := [
 o 4 (.new [(.int .i64 0), (.int .i64 0), (.string ⟨#[]⟩), (.slice none 0 0)])]
def f83r1 : List SOper := [
 o 9 (.mv (t 0)),
 o 10 (.mv (t 0)),
 o 11 (.nilck (t 10)),
 o 12 (.fa 2 (t 11)),
 o 13 (.ld1 (t 12)),
 o 14 (.ixs 1 (t 13) (i 0)),
 o 15 (.ld1 (t 14)),
 o 16 (.call 139 [(t 9), (t 15), (i 1)]),
 o 8 (.mv (t 16)),
 o 17 (.ext (t 8) 0),
 o 18 (.ext (t 8) 1),
 o 19 (.ext (t 8) 2),
 o 5 (.new [(.int .i64 0), (.string ⟨#[]⟩), (.slice none 0 0), (.slice none 0 0), (.slice none 0 0), (.bool false), (.int .i64 0)]),
 q (.st 7 (t 5) (t 17)),
 o 6 (.mv (t 18)),
 o 7 (.mv (t 19))]
def f83r2 : List SOper := [
 o 20 (.mv (t 7)),
 o 21 (.un .not (t 20))]
def f83r3 : List SOper := [
 o 22 (.build [(.int .i64 0), (.int .i64 0), (.string ⟨#[]⟩), (.slice none 0 0)] [] []),
 q (.st 4 (t 4) (t 22))]
def f83r4 : List SOper := [
 o 23 (.mv (t 1)),
 o 24 (.cmp .eql (t 23) (.const (.string ⟨#[83, 84, 82, 76, 69, 78]⟩)))]
def f83r5 : List SOper := [
 o 25 (.fa 1 (t 5)),
 o 26 (.ld1 (t 25)),
 o 27 (.lens (t 26)),
 o 28 (.call 140 [(t 27)]),
 q (.st 4 (t 4) (t 28))]
def f83r6 : List SOper := [
 o 29 (.mv (t 1)),
 o 30 (.cmp .eql (t 29) (.const (.string ⟨#[65, 80, 80, 69, 78, 68]⟩)))]
def f83r7 : List SOper := [
 o 31 (.mv (t 0)),
 o 32 (.mv (t 0)),
 o 33 (.nilck (t 32)),
 o 34 (.fa 2 (t 33)),
 o 35 (.ld1 (t 34)),
 o 36 (.ixs 1 (t 35) (i 0)),
 o 37 (.ld1 (t 36)),
 o 38 (.fa 1 (t 5)),
 o 39 (.ld1 (t 38)),
 o 40 (.mv (t 0)),
 o 41 (.nilck (t 40)),
 o 42 (.fa 2 (t 41)),
 o 43 (.ld1 (t 42)),
 o 44 (.ixs 1 (t 43) (i 1)),
 o 45 (.ld1 (t 44)),
 o 46 (.cat (t 39) (t 45)),
 o 47 (.call 138 [(t 31), (t 37), (t 46), (b true)])]
def f83r8 : List SOper := [
 o 48 (.fa 1 (t 5)),
 o 49 (.ld1 (t 48)),
 o 50 (.lens (t 49)),
 o 51 (.mv (t 0)),
 o 52 (.nilck (t 51)),
 o 53 (.fa 2 (t 52)),
 o 54 (.ld1 (t 53)),
 o 55 (.ixs 1 (t 54) (i 1)),
 o 56 (.ld1 (t 55)),
 o 57 (.lens (t 56)),
 o 58 (.ar .add (t 50) (t 57)),
 o 59 (.call 140 [(t 58)]),
 q (.st 4 (t 4) (t 59))]
def f83r9 : List SOper := [
 o 60 (.mv (t 6)),
 o 61 (.un .not (t 60))]
def f83r10 : List SOper := [
 o 62 (.build [(.int .i64 0), (.int .i64 0), (.string ⟨#[]⟩), (.slice none 0 0)] [] []),
 q (.st 4 (t 4) (t 62))]
def f83r11 : List SOper := [
 o 63 (.fa 1 (t 5)),
 o 64 (.ld1 (t 63)),
 o 65 (.call 141 [(t 64)]),
 q (.st 4 (t 4) (t 65))]
def f83 : SCode := (.seq (.ops f83r0) (.seq (.ops f83r1) (.seq (.seq (.ops f83r2) (.cond (t 21) (.seq (.ops f83r3) .ret) .skip)) (.seq (.seq (.ops f83r4) (.cond (t 24) (.seq (.ops f83r5) .ret) .skip)) (.seq (.seq (.ops f83r6) (.cond (t 30) (.seq (.ops f83r7) (.seq (.ops f83r8) .ret)) .skip)) (.seq (.seq (.ops f83r9) (.cond (t 61) (.seq (.ops f83r10) .ret) .skip)) (.seq (.ops f83r11) .ret)))))))
theorem f83_calls : Sound Tryz.prog 83 66 f83 [.cn 4 4] := sound_of mixed Tryz.func83 rfl (by kernel_rfl) (by kernel_rfl) (by kernel_rfl)

def f87r0 : List SOper := [
 o 4 (.mv (i 0)),
 o 5 (.mv (b false))]
def f87r1 : List SOper := [
 o 9 (.mv (t 0)),
 o 10 (.nilck (t 9)),
 o 11 (.fa 2 (t 10)),
 o 12 (.ld1 (t 11)),
 o 13 (.mv (t 1)),
 o 14 (.ixs 1 (t 12) (t 13)),
 o 15 (.ld1 (t 14)),
 o 16 (.call 143 [(t 15)]),
 o 8 (.mv (t 16)),
 o 17 (.ext (t 8) 0),
 o 18 (.ext (t 8) 1),
 o 6 (.mv (t 17)),
 o 7 (.mv (t 18))]
def f87r2 : List SOper := [
 o 19 (.mv (t 7)),
 o 20 (.un .not (t 19))]
def f87r3 : List SOper := [
 o 21 (.mv (t 0)),
 o 22 (.nilck (t 21)),
 o 23 (.fa 4 (t 22)),
 q (.st 1 (t 23) (.const (.string ⟨#[69, 82, 82, 32, 110, 117, 109, 98, 101, 114]⟩)))]
def f87r4 : List SOper := [
 o 24 (.mv (t 6)),
 o 25 (.mv (t 7)),
 o 4 (.mv (t 24)),
 o 5 (.mv (t 25))]
def f87 : SCode := (.seq (.ops f87r0) (.seq (.ops f87r1) (.seq (.seq (.ops f87r2) (.cond (t 20) (.ops f87r3) .skip)) (.seq (.ops f87r4) .ret))))
theorem f87_calls : Sound Tryz.prog 87 26 f87 [.t 4, .t 5] := sound_of mixed Tryz.func87 rfl (by kernel_rfl) (by kernel_rfl) (by kernel_rfl)

def f88r0 : List SOper := [
 o 4 (.new [(.int .i64 0), (.int .i64 0), (.string ⟨#[]⟩), (.slice none 0 0)])]
def f88r1 : List SOper := [
 o 10 (.mv (t 0)),
 o 11 (.mv (t 0)),
 o 12 (.nilck (t 11)),
 o 13 (.fa 2 (t 12)),
 o 14 (.ld1 (t 13)),
 o 15 (.ixs 1 (t 14) (i 0)),
 o 16 (.ld1 (t 15)),
 o 17 (.call 139 [(t 10), (t 16), (i 1)]),
 o 9 (.mv (t 17)),
 o 18 (.ext (t 9) 0),
 o 19 (.ext (t 9) 1),
 o 20 (.ext (t 9) 2),
 o 5 (.new [(.int .i64 0), (.string ⟨#[]⟩), (.slice none 0 0), (.slice none 0 0), (.slice none 0 0), (.bool false), (.int .i64 0)]),
 q (.st 7 (t 5) (t 18)),
 o 6 (.mv (t 19)),
 o 7 (.mv (t 20))]
def f88r2 : List SOper := [
 o 21 (.mv (t 7)),
 o 22 (.un .not (t 21))]
def f88r3 : List SOper := [
 o 23 (.build [(.int .i64 0), (.int .i64 0), (.string ⟨#[]⟩), (.slice none 0 0)] [] []),
 q (.st 4 (t 4) (t 23))]
def f88r4 : List SOper := [
 o 8 (.mv (i 0))]
def f88r5 : List SOper := [
 o 24 (.mv (t 6))]
def f88r6 : List SOper := [
 o 26 (.fa 1 (t 5)),
 o 27 (.ld1 (t 26)),
 o 28 (.call 143 [(t 27)]),
 o 25 (.mv (t 28)),
 o 29 (.ext (t 25) 0),
 o 30 (.ext (t 25) 1),
 o 8 (.mv (t 29)),
 o 7 (.mv (t 30))]
def f88r7 : List SOper := [
 o 31 (.mv (t 7)),
 o 32 (.un .not (t 31))]
def f88r8 : List SOper := [
 o 33 (.mv (t 0)),
 o 34 (.nilck (t 33)),
 o 35 (.fa 4 (t 34)),
 q (.st 1 (t 35) (.const (.string ⟨#[69, 82, 82, 32, 110, 117, 109, 98, 101, 114]⟩)))]
def f88r9 : List SOper := [
 o 36 (.build [(.int .i64 0), (.int .i64 0), (.string ⟨#[]⟩), (.slice none 0 0)] [] []),
 q (.st 4 (t 4) (t 36))]
def f88r10 : List SOper := [
 o 38 (.mv (t 0)),
 o 39 (.mv (t 8)),
 o 40 (.mv (t 1)),
 o 41 (.call 137 [(t 38), (t 39), (t 40)]),
 o 37 (.mv (t 41)),
 o 42 (.ext (t 37) 0),
 o 43 (.ext (t 37) 1),
 o 8 (.mv (t 42)),
 o 7 (.mv (t 43))]
def f88r11 : List SOper := [
 o 44 (.mv (t 7))]
def f88r12 : List SOper := [
 o 45 (.mv (t 0)),
 o 46 (.mv (t 0)),
 o 47 (.nilck (t 46)),
 o 48 (.fa 2 (t 47)),
 o 49 (.ld1 (t 48)),
 o 50 (.ixs 1 (t 49) (i 0)),
 o 51 (.ld1 (t 50)),
 o 52 (.mv (t 8)),
 o 53 (.callq 30 [(t 52), (i 10)]),
 o 54 (.call 138 [(t 45), (t 51), (t 53), (b true)])]
def f88r13 : List SOper := [
 o 55 (.mv (t 8)),
 o 56 (.call 140 [(t 55)]),
 q (.st 4 (t 4) (t 56))]
def f88 : SCode := (.seq (.ops f88r0) (.seq (.ops f88r1) (.seq (.seq (.ops f88r2) (.cond (t 22) (.seq (.ops f88r3) .ret) .skip)) (.seq (.ops f88r4) (.seq (.seq (.ops f88r5) (.cond (t 24) (.seq (.ops f88r6) (.seq (.ops f88r7) (.cond (t 32) (.seq (.ops f88r8) (.seq (.ops f88r9) .ret)) .skip))) .skip)) (.seq (.ops f88r10) (.seq (.seq (.ops f88r11) (.cond (t 44) (.ops f88r12) .skip)) (.seq (.ops f88r13) .ret))))))))
theorem f88_calls : Sound Tryz.prog 88 57 f88 [.cn 4 4] := sound_of mixed Tryz.func88 rfl (by kernel_rfl) (by kernel_rfl) (by kernel_rfl)

def f137r0 : List SOper := [
 o 6 (.mv (i 0)),
 o 7 (.mv (b false))]
def f137r1 : List SOper := [
 o 8 (.mv (t 2)),
 o 9 (.cmp .gtr (t 8) (i 0)),
 o 10 (.mv (t 9)),
 g 11 10 (.mv (t 1)),
 g 12 10 (.mv (t 2)),
 g 13 10 (.ar .sub (i 9223372036854775807) (t 12)),
 g 14 10 (.cmp .gtr (t 11) (t 13)),
 o 15 (.pick (t 10) (t 14) (b false)),
 o 16 (.mv (t 15)),
 n 17 16 (.mv (t 2)),
 n 18 16 (.cmp .lss (t 17) (i 0)),
 n 19 16 (.mv (t 18)),
 g 20 19 (.mv (t 1)),
 g 21 19 (.mv (t 2)),
 g 22 19 (.ar .sub (i (-9223372036854775808)) (t 21)),
 g 23 19 (.cmp .lss (t 20) (t 22)),
 n 24 16 (.pick (t 19) (t 23) (b false)),
 o 25 (.pick (t 16) (b true) (t 24))]
def f137r2 : List SOper := [
 o 26 (.mv (t 0)),
 o 27 (.nilck (t 26)),
 o 28 (.fa 4 (t 27)),
 q (.st 1 (t 28) (.const (.string ⟨#[69, 82, 82, 32, 111, 118, 101, 114]⟩)))]
def f137r3 : List SOper := [
 o 6 (.mv (i 0)),
 o 7 (.mv (b false))]
def f137r4 : List SOper := [
 o 29 (.mv (t 1)),
 o 30 (.mv (t 2)),
 o 31 (.ar .add (t 29) (t 30)),
 o 6 (.mv (t 31)),
 o 7 (.mv (b true))]
def f137 : SCode := (.seq (.ops f137r0) (.seq (.seq (.ops f137r1) (.cond (t 25) (.seq (.ops f137r2) (.seq (.ops f137r3) .ret)) .skip)) (.seq (.ops f137r4) .ret)))
theorem f137_calls : Sound Tryz.prog 137 32 f137 [.t 6, .t 7] := sound_of mixed Tryz.func137 rfl (by kernel_rfl) (by kernel_rfl) (by kernel_rfl)

def f138r0 : List SOper := [
 o 8 (.mv (b false))]
def f138r1 : List SOper := [
 o 11 (.mv (t 2)),
 o 12 (.lens (t 11)),
 o 13 (.cmp .gtr (t 12) (i 1048576)),
 o 14 (.mv (t 13)),
 n 15 14 (.mv (t 1)),
 n 16 14 (.lens (t 15)),
 n 17 14 (.cmp .gtr (t 16) (i 1048576)),
 o 18 (.pick (t 14) (b true) (t 17))]
def f138r2 : List SOper := [
 o 19 (.mv (t 0)),
 o 20 (.nilck (t 19)),
 o 21 (.fa 4 (t 20)),
 q (.st 1 (t 21) (.const (.string ⟨#[69, 82, 82, 32, 108, 111, 110, 103]⟩)))]
def f138r3 : List SOper := [
 o 8 (.mv (b false))]
def f138p4 : List SOper := [
 o 23 (.mv (t 0)),
 o 24 (.nilck (t 23)),
 o 25 (.fa 0 (t 24)),
 o 26 (.ld1 (t 25)),
 o 27 (.mv (t 1)),
 o 28 (.mv (t 0)),
 o 29 (.nilck (t 28)),
 o 30 (.fa 1 (t 29)),
 o 31 (.ld1 (t 30))]
def f138r4 : List SOper := [
 o 32 (.callq 85 [(t 26), (t 27), (t 31)]),
 o 22 (.mv (t 32)),
 o 33 (.ext (t 22) 0),
 o 34 (.ext (t 22) 1),
 o 9 (.new [(.int .i64 0), (.string ⟨#[]⟩), (.slice none 0 0), (.slice none 0 0), (.slice none 0 0), (.bool false), (.int .i64 0)]),
 q (.st 7 (t 9) (t 33)),
 o 10 (.mv (t 34))]
def f138s4 : List SOper := [
 o 9 (.new [(.int .i64 0), (.string ⟨#[]⟩), (.slice none 0 0), (.slice none 0 0), (.slice none 0 0), (.bool false), (.int .i64 0)]),
 o 32 (.callq 85 [(t 26), (t 27), (t 31)]),
 o 22 (.mv (t 32)),
 o 33 (.ext (t 22) 0),
 o 34 (.ext (t 22) 1),
 q (.st 7 (t 9) (t 33)),
 o 10 (.mv (t 34))]
def f138r5 : List SOper := [
 o 35 (.mv (t 0)),
 o 36 (.mv (t 1)),
 o 37 (.call 144 [(t 35), (t 36)])]
def f138r6 : List SOper := [
 o 38 (.mv (t 0)),
 o 39 (.mv (t 0)),
 o 40 (.nilck (t 39)),
 o 41 (.fa 3 (t 40)),
 o 42 (.ld1 (t 41)),
 o 43 (.mv (t 1)),
 o 44 (.mv (t 2)),
 o 45 (.build [(.int .i64 0), (.string ⟨#[]⟩), (.string ⟨#[]⟩), (.string ⟨#[]⟩), (.int .i64 0)] [(0, 1), (1, 1), (3, 1)] [(i 2), (t 43), (t 44)]),
 o 46 (.bslice [(.int .i64 0), (.string ⟨#[]⟩), (.string ⟨#[]⟩), (.string ⟨#[]⟩), (.int .i64 0)] 1 [(0, 5)] [(t 45)]),
 o 47 (.app 5 64 [(.int .i64 0), (.string ⟨#[]⟩), (.string ⟨#[]⟩), (.string ⟨#[]⟩), (.int .i64 0)] (t 42) (t 46)),
 o 48 (.nilck (t 38)),
 o 49 (.fa 3 (t 48)),
 q (.st 1 (t 49) (t 47))]
def f138r7 : List SOper := [
 o 50 (.mv (t 3)),
 o 51 (.mv (t 50)),
 g 52 51 (.mv (t 10)),
 o 53 (.pick (t 51) (t 52) (b false)),
 o 54 (.mv (t 53)),
 g 55 54 (.fa 5 (t 9)),
 g 56 54 (.ld1 (t 55)),
 o 57 (.pick (t 54) (t 56) (b false))]
def f138r8 : List SOper := [
 o 58 (.mv (t 0)),
 o 59 (.mv (t 0)),
 o 60 (.nilck (t 59)),
 o 61 (.fa 3 (t 60)),
 o 62 (.ld1 (t 61)),
 o 63 (.mv (t 1)),
 o 64 (.fa 6 (t 9)),
 o 65 (.ld1 (t 64)),
 o 66 (.build [(.int .i64 0), (.string ⟨#[]⟩), (.string ⟨#[]⟩), (.string ⟨#[]⟩), (.int .i64 0)] [(0, 1), (1, 1), (4, 1)] [(i 3), (t 63), (t 65)]),
 o 67 (.bslice [(.int .i64 0), (.string ⟨#[]⟩), (.string ⟨#[]⟩), (.string ⟨#[]⟩), (.int .i64 0)] 1 [(0, 5)] [(t 66)]),
 o 68 (.app 5 64 [(.int .i64 0), (.string ⟨#[]⟩), (.string ⟨#[]⟩), (.string ⟨#[]⟩), (.int .i64 0)] (t 62) (t 67)),
 o 69 (.nilck (t 58)),
 o 70 (.fa 3 (t 69)),
 q (.st 1 (t 70) (t 68))]
def f138r9 : List SOper := [
 o 8 (.mv (b true))]
def f138 : SCode := (.seq (.ops f138r0) (.seq (.seq (.ops f138r1) (.cond (t 18) (.seq (.ops f138r2) (.seq (.ops f138r3) .ret)) .skip)) (.seq (.two f138p4 f138r4 f138s4) (.seq (.ops f138r5) (.seq (.ops f138r6) (.seq (.seq (.ops f138r7) (.cond (t 57) (.ops f138r8) .skip)) (.seq (.ops f138r9) .ret)))))))
theorem f138_calls : Sound Tryz.prog 138 71 f138 [.t 8] := sound_of mixed Tryz.func138 rfl (by kernel_rfl) (by kernel_rfl) (by kernel_rfl)

def f139r0 : List SOper := [
 o 6 (.new [(.int .i64 0), (.string ⟨#[]⟩), (.slice none 0 0), (.slice none 0 0), (.slice none 0 0), (.bool false), (.int .i64 0)]),
 o 7 (.mv (b false)),
 o 8 (.mv (b false))]
def f139p1 : List SOper := [
 o 12 (.mv (t 0)),
 o 13 (.nilck (t 12)),
 o 14 (.fa 0 (t 13)),
 o 15 (.ld1 (t 14)),
 o 16 (.mv (t 1)),
 o 17 (.mv (t 0)),
 o 18 (.nilck (t 17)),
 o 19 (.fa 1 (t 18)),
 o 20 (.ld1 (t 19))]
def f139r1 : List SOper := [
 o 21 (.callq 85 [(t 15), (t 16), (t 20)]),
 o 11 (.mv (t 21)),
 o 22 (.ext (t 11) 0),
 o 23 (.ext (t 11) 1),
 o 9 (.new [(.int .i64 0), (.string ⟨#[]⟩), (.slice none 0 0), (.slice none 0 0), (.slice none 0 0), (.bool false), (.int .i64 0)]),
 q (.st 7 (t 9) (t 22)),
 o 10 (.mv (t 23))]
def f139s1 : List SOper := [
 o 9 (.new [(.int .i64 0), (.string ⟨#[]⟩), (.slice none 0 0), (.slice none 0 0), (.slice none 0 0), (.bool false), (.int .i64 0)]),
 o 21 (.callq 85 [(t 15), (t 16), (t 20)]),
 o 11 (.mv (t 21)),
 o 22 (.ext (t 11) 0),
 o 23 (.ext (t 11) 1),
 q (.st 7 (t 9) (t 22)),
 o 10 (.mv (t 23))]
def f139r2 : List SOper := [
 o 24 (.mv (t 10)),
 o 25 (.mv (t 24)),
 g 26 25 (.fa 0 (t 9)),
 g 27 25 (.ld1 (t 26)),
 g 28 25 (.mv (t 2)),
 g 29 25 (.cmp .neq (t 27) (t 28)),
 o 30 (.pick (t 25) (t 29) (b false))]
def f139r3 : List SOper := [
 o 31 (.mv (t 0)),
 o 32 (.nilck (t 31)),
 o 33 (.fa 4 (t 32)),
 q (.st 1 (t 33) (.const (.string ⟨#[87, 82, 79, 78, 71, 84, 89, 80, 69]⟩)))]
def f139r4 : List SOper := [
 o 34 (.ldn 7 (t 9)),
 o 35 (.mv (t 10)),
 q (.st 7 (t 6) (t 34)),
 o 7 (.mv (t 35)),
 o 8 (.mv (b false))]
def f139r5 : List SOper := [
 o 36 (.ldn 7 (t 9)),
 o 37 (.mv (t 10)),
 q (.st 7 (t 6) (t 36)),
 o 7 (.mv (t 37)),
 o 8 (.mv (b true))]
def f139 : SCode := (.seq (.ops f139r0) (.seq (.two f139p1 f139r1 f139s1) (.seq (.seq (.ops f139r2) (.cond (t 30) (.seq (.ops f139r3) (.seq (.ops f139r4) .ret)) .skip)) (.seq (.ops f139r5) .ret))))
theorem f139_calls : Sound Tryz.prog 139 38 f139 [.cn 6 7, .t 7, .t 8] := sound_of mixed Tryz.func139 rfl (by kernel_rfl) (by kernel_rfl) (by kernel_rfl)

def f140r0 : List SOper := [
 o 2 (.new [(.int .i64 0), (.int .i64 0), (.string ⟨#[]⟩), (.slice none 0 0)])]
def f140r1 : List SOper := [
 o 3 (.mv (t 0)),
 o 4 (.build [(.int .i64 0), (.int .i64 0), (.string ⟨#[]⟩), (.slice none 0 0)] [(0, 1), (1, 1)] [(i 3), (t 3)]),
 q (.st 4 (t 2) (t 4))]
def f140 : SCode := (.seq (.ops f140r0) (.seq (.ops f140r1) .ret))
theorem f140_calls : Sound Tryz.prog 140 5 f140 [.cn 2 4] := sound_of mixed Tryz.func140 rfl (by kernel_rfl) (by kernel_rfl) (by kernel_rfl)

def f141r0 : List SOper := [
 o 2 (.new [(.int .i64 0), (.int .i64 0), (.string ⟨#[]⟩), (.slice none 0 0)])]
def f141r1 : List SOper := [
 o 3 (.mv (t 0)),
 o 4 (.build [(.int .i64 0), (.int .i64 0), (.string ⟨#[]⟩), (.slice none 0 0)] [(0, 1), (2, 1)] [(i 4), (t 3)]),
 q (.st 4 (t 2) (t 4))]
def f141 : SCode := (.seq (.ops f141r0) (.seq (.ops f141r1) .ret))
theorem f141_calls : Sound Tryz.prog 141 5 f141 [.cn 2 4] := sound_of mixed Tryz.func141 rfl (by kernel_rfl) (by kernel_rfl) (by kernel_rfl)

def f144r0 : List SOper := [
 o 9 (.mv (t 0)),
 o 10 (.nilck (t 9)),
 o 11 (.fa 0 (t 10)),
 o 12 (.ld1 (t 11)),
 o 13 (.mv (t 1)),
 o 14 (.call 31 [(t 12), (t 13)]),
 o 8 (.mv (t 14)),
 o 15 (.ext (t 8) 0),
 o 16 (.ext (t 8) 1),
 o 4 (.mv (t 15)),
 o 5 (.mv (t 16))]
def f144p1 : List SOper := [
 o 18 (.mv (t 0)),
 o 19 (.nilck (t 18)),
 o 20 (.fa 0 (t 19)),
 o 21 (.ld1 (t 20)),
 o 22 (.mv (t 1)),
 o 23 (.mv (t 0)),
 o 24 (.nilck (t 23)),
 o 25 (.fa 1 (t 24)),
 o 26 (.ld1 (t 25))]
def f144r1 : List SOper := [
 o 27 (.callq 85 [(t 21), (t 22), (t 26)]),
 o 17 (.mv (t 27)),
 o 28 (.ext (t 17) 0),
 o 29 (.ext (t 17) 1),
 o 6 (.new [(.int .i64 0), (.string ⟨#[]⟩), (.slice none 0 0), (.slice none 0 0), (.slice none 0 0), (.bool false), (.int .i64 0)]),
 q (.st 7 (t 6) (t 28)),
 o 7 (.mv (t 29))]
def f144s1 : List SOper := [
 o 6 (.new [(.int .i64 0), (.string ⟨#[]⟩), (.slice none 0 0), (.slice none 0 0), (.slice none 0 0), (.bool false), (.int .i64 0)]),
 o 27 (.callq 85 [(t 21), (t 22), (t 26)]),
 o 17 (.mv (t 27)),
 o 28 (.ext (t 17) 0),
 o 29 (.ext (t 17) 1),
 q (.st 7 (t 6) (t 28)),
 o 7 (.mv (t 29))]
def f144r2 : List SOper := [
 o 30 (.mv (t 5)),
 o 31 (.mv (t 30)),
 g 32 31 (.mv (t 7)),
 g 33 31 (.un .not (t 32)),
 o 34 (.pick (t 31) (t 33) (b false))]
def f144r3 : List SOper := [
 o 35 (.mv (t 0)),
 o 36 (.mv (t 0)),
 o 37 (.nilck (t 36)),
 o 38 (.fa 3 (t 37)),
 o 39 (.ld1 (t 38)),
 o 40 (.mv (t 1)),
 o 41 (.build [(.int .i64 0), (.string ⟨#[]⟩), (.string ⟨#[]⟩), (.string ⟨#[]⟩), (.int .i64 0)] [(0, 1), (1, 1)] [(i 1), (t 40)]),
 o 42 (.bslice [(.int .i64 0), (.string ⟨#[]⟩), (.string ⟨#[]⟩), (.string ⟨#[]⟩), (.int .i64 0)] 1 [(0, 5)] [(t 41)]),
 o 43 (.app 5 64 [(.int .i64 0), (.string ⟨#[]⟩), (.string ⟨#[]⟩), (.string ⟨#[]⟩), (.int .i64 0)] (t 39) (t 42)),
 o 44 (.nilck (t 35)),
 o 45 (.fa 3 (t 44)),
 q (.st 1 (t 45) (t 43))]
def f144 : SCode := (.seq (.ops f144r0) (.seq (.two f144p1 f144r1 f144s1) (.seq (.ops f144r2) (.cond (t 34) (.ops f144r3) .skip))))
theorem f144_calls : Sound Tryz.prog 144 46 f144 [] := sound_of mixed Tryz.func144 rfl (by kernel_rfl) (by kernel_rfl) (by kernel_rfl)

end Go.Proofs.YtgmkldaonkbjgaaGreatDoor.C
namespace Go.Proofs.YtgmkldaonkbjgaaGreatDoor
open Go Go.Sx Go.Proofs.YtgmkldaonkbjgaaGreatDoor.C

section
variable {h0 h : Heap} {ab kb sb mb c : Nat} {now n : Int} {av lv : Value} {A : List ByteArray} {m : List KI} {S : Space} {key s a : ByteArray} {t : Thing} {go : Option Thing}

def gGet : Option Thing → Except ByteArray (Rep × List Eff)
  | none => .ok (rep 0 0 noText, [])
  | some t => if t.kind = 1 then .ok (rep 4 0 t.text, []) else .error wType
theorem gGet_no (h : t.kind ≠ 1) : gGet (some t) = .error wType := if_neg h
theorem gGet_yes (h : t.kind = 1) : gGet (some t) = .ok (rep 4 0 t.text, []) := if_pos h
def cGet (S : Space) (now : Int) : List ByteArray → Except ByteArray (Rep × List Eff) := arg1 fun key => gGet (getS S key now)

theorem get_calls (x : AS h0 h ab kb now av A lv []) (kr0 : KR h0 kb sb mb c m) (hs : Sorted m S) : CallsH Tryz.prog 58 [ptr ab] h (CmdR h0 h ab kb now av A lv (cGet S now A)) := by
  refine f58_calls (by simp) ?_
  intro b2 h1 g1
  have w := x.st.new g1
  refine x.many w 1 rfl (fun hok _ => ?_) (fun hb => x.bad w (arg1_bad hb))
  obtain ⟨key, rfl⟩ := one_arg hok
  obtain ⟨b, o, cc, rfl⟩ := x.argF (by simp)
  rw [show cGet S now [key] = gGet (getS S key now) from rfl]
  refine w.lda 1 rfl rfl ?_
  refine x.ix (x.base w) 0 rfl rfl ?_
  refine x.text kr0 hs w 1 rfl (fun h2 hk w => ?_) (fun h2 t ht hk w => x.bad w (by rw [ht]; exact gGet_no hk))
  generalize getS S key now = go at hk ⊢
  cases go with
  | none =>
    refine w.st1 0 rfl rfl rfl rfl fun h3 w => ?_
    exact x.fin w 0 1 rfl rfl rfl
  | some t =>
    refine w.callv Btext_calls fun h3 w => ?_
    refine w.st1 0 rfl rfl rfl rfl fun h4 w => ?_
    exact x.fin w 0 1 rfl rfl (gGet_yes (hk t rfl))

def okT (go : Option Thing) : Bool := match go with
  | none => true
  | some t => decide (t.kind = 1)
theorem okT_yes (h : ∀ t, go = some t → t.kind = 1) : okT go = true := by
  cases go with
  | none => rfl
  | some t => exact decide_eq_true (h t rfl)

def gLong (go : Option Thing) : Except ByteArray (Rep × List Eff) := if okT go = true then .ok (rep 3 (go.getD zeroT).text.size noText, []) else .error wType
theorem gLong_no (h : t.kind ≠ 1) : gLong (some t) = .error wType := if_neg (by simp [okT, h])
def cLong (S : Space) (now : Int) : List ByteArray → Except ByteArray (Rep × List Eff) := arg1 fun key => gLong (getS S key now)

theorem long_calls (x : AS h0 h ab kb now av A lv []) (kr0 : KR h0 kb sb mb c m) (hs : Sorted m S) : CallsH Tryz.prog 68 [ptr ab] h (CmdR h0 h ab kb now av A lv (cLong S now A)) := by
  refine f68_calls (by simp) ?_
  intro b2 h1 g1
  have w := x.st.new g1
  refine x.many w 1 rfl (fun hok _ => ?_) (fun hb => x.bad w (arg1_bad hb))
  obtain ⟨key, rfl⟩ := one_arg hok
  obtain ⟨b, o, cc, rfl⟩ := x.argF (by simp)
  rw [show cLong S now [key] = gLong (getS S key now) from rfl]
  refine w.lda 1 rfl rfl ?_
  refine x.ix (x.base w) 0 rfl rfl ?_
  refine x.text kr0 hs w 1 rfl (fun h2 hk w => ?_) (fun h2 t ht hk w => x.bad w (by rw [ht]; exact gLong_no hk))
  refine w.callv Bnumber_calls fun h3 w => ?_
  refine w.st1 0 rfl rfl rfl rfl fun h4 w => ?_
  exact x.fin w 0 1 rfl rfl (if_pos (okT_yes hk))

instance (a b : Int) : Decidable (okSum a b) := by unfold okSum; infer_instance
def putR (S : Space) (key s : ByteArray) (now : Int) (stays : Bool) (r : Rep) : Except ByteArray (Rep × List Eff) :=
  if s.size ≤ 1048576 ∧ key.size ≤ 1048576 then .ok (r, putE S key s now stays) else .error wLong
def byStep (S : Space) (key : ByteArray) (now n : Int) (s : ByteArray) : Except ByteArray (Rep × List Eff) := match numOf s with
  | none => .error wNum
  | some m => if okSum m n then putR S key ⟨⟨Lib.itoa (m + n)⟩⟩ now true (rep 3 (m + n) noText) else .error wOver
theorem byStep_none (h : numOf s = none) : byStep S key now n s = .error wNum := by unfold byStep; rw [h]
theorem byStep_over {m : Int} (h : numOf s = some m) (ho : ¬ okSum m n) : byStep S key now n s = .error wOver := by unfold byStep; rw [h]; exact if_neg ho
theorem byStep_ok {m : Int} (h : numOf s = some m) (ho : okSum m n) : byStep S key now n s = putR S key ⟨⟨Lib.itoa (m + n)⟩⟩ now true (rep 3 (m + n) noText) := by unfold byStep; rw [h]; exact if_pos ho
def zeroS : ByteArray := ⟨#[48]⟩
def by0 : Option Thing → ByteArray
  | none => zeroS
  | some t => t.text
def gBy (S : Space) (key : ByteArray) (now n : Int) (go : Option Thing) : Except ByteArray (Rep × List Eff) := if okT go = true then byStep S key now n (by0 go) else .error wType
theorem gBy_no (h : t.kind ≠ 1) : gBy S key now n (some t) = .error wType := if_neg (by simp [okT, h])

theorem numOf_in {v : Int} (h : numOf s = some v) : In64 v := by
  obtain ⟨⟨a, b⟩, _⟩ := (Num.num_iff rfl s.data.toList v).1 h
  exact ⟨by omega, by omega⟩
theorem itoa_len {k n : Int} (h : okSum k n) : (Lib.itoa (k + n)).length ≤ 20 := by
  obtain ⟨h0, h1⟩ := h
  unfold Lib.itoa
  split
  · have := Num.dec_len 18 (k + n).natAbs (by omega)
    simp; omega
  · have := Num.dec_len 18 (k + n).toNat (by omega)
    omega

theorem by_rest {h1 : Heap} {b4 : Nat} (x : AS h0 h ab kb now av A lv []) (kr0 : KR h0 kb sb mb c m) (hs : Sorted m S) (hl : LaidN h0) (hA : A[0]? = some key) (hn : In64 n) (hz : s.size < 281474976710656) (hk : key.size < 281474976710656)
    (w : St (ab :: vblk lv) h h1 [.b b4 [.int .i64 0, .int .i64 0, .string ⟨#[]⟩, .slice none 0 0], asE ab kb now av lv []]) :
    swp Tryz.prog (.seq (.ops f65r4) (.seq (.ops f65r5) (.seq (.ops f65r6) (.seq (.ops f65r7) (.seq (.ops f65r8) .ret))))) (retQ [.cn 4 4] (CmdR h0 h ab kb now av A lv (byStep S key now n s)))
      (mk [(0, ptr ab), (1, .int .i64 n), (4, ptr b4), (5, .string s)]) [] h1 := by
  obtain ⟨⟨⟨l⟩⟩, hl2⟩ : ∃ s', s' = s := ⟨_, rfl⟩
  subst hl2
  obtain ⟨u, hu⟩ : ∃ u, u = Num.num l := ⟨_, rfl⟩
  have hu2 : numOf ⟨⟨l⟩⟩ = u := hu.symm
  refine w.call (bnum_calls (hl.ext (x.base w)) hz) ?_
  rintro _ h2 rfl w
  rw [← hu]
  cases u with
  | none => exact must_no (x.bad w (byStep_none hu2))
  | some k =>
    refine must_yes fun _ => ?_
    refine plus_go (numOf_in hu2) hn (fun hok => ?_) (fun hb => x.bad w (byStep_over hu2 hb))
    rw [byStep_ok hu2 hok]
    obtain ⟨b, o, cc, rfl⟩ := x.argF (List.getElem?_eq_some_iff.1 hA).1
    refine w.lda 1 rfl rfl ?_
    refine x.ix (x.base w) 0 rfl hA ?_
    refine w.callqv (format_calls (hl.ext (x.base w)) hok.1 hok.2) fun h3 w => ?_
    have hlen : (⟨⟨Lib.itoa (k + n)⟩⟩ : ByteArray).size < 4611686018427387904 := by
      have h9 : (Lib.itoa (k + n)).length ≤ 20 := itoa_len hok
      show (Lib.itoa (k + n)).length < _
      omega
    refine x.put kr0 hs w 1 rfl (by simp) (by omega) hlen (fun _ h4 lv2 hfit w => ?_) (fun hb => x.bad w (if_neg hb))
    refine w.callv Bnumber_calls fun h5 w => ?_
    refine w.st1 0 rfl rfl rfl rfl fun h6 w => ?_
    exact x.fin w 0 1 rfl rfl (if_pos hfit)

theorem mv_go {P : Program} {x : Operand} {d : Nat} {c : SCode} {Q : Post} {σ : Env} {ds : List Deferred} {h : Heap} {v : Value} (he : ev σ x = some v) (hs : swp P c Q (upd σ (some d) v) ds h) :
    swp P (.seq (.ops [⟨some d, none, .mv x⟩]) c) Q σ ds h := by
  simp only [swp, sops, sopr, sop, he]
  exact hs
theorem not_go {P : Program} {x y : Operand} {d e : Nat} {c : SCode} {Q : Post} {σ : Env} {ds : List Deferred} {h : Heap} {v : Bool} (he : ev σ x = some (.bool v)) (hf : ev (upd σ (some d) (.bool v)) y = some (.bool v))
    (hs : swp P c Q (upd (upd σ (some d) (.bool v)) (some e) (.bool !v)) ds h) : swp P (.seq (.ops [⟨some d, none, .mv x⟩, ⟨some e, none, .un .not y⟩]) c) Q σ ds h := by
  simp only [swp, sops, sopr, sop, he, hf]
  exact hs
theorem cnd_go {P : Program} {x : Operand} {a b c : SCode} {Q : Post} {σ : Env} {ds : List Deferred} {h : Heap} {t : Bool} (he : ev σ x = some (.bool t)) (hs : swp P (.seq (bif t then a else b) c) Q σ ds h) : swp P (.seq (.cond x a b) c) Q σ ds h := by
  cases t with
  | true => simp only [swp, he]; exact hs
  | false => simp only [swp, he]; exact hs
theorem ass_go {P : Program} {a b c : SCode} {Q : Post} {σ : Env} {ds : List Deferred} {h : Heap} (hs : swp P (.seq a (.seq b c)) Q σ ds h) : swp P (.seq (.seq a b) c) Q σ ds h := by
  have e : thenQ (swp P b (thenQ (swp P c Q) Q)) (thenQ (swp P c Q) Q) = thenQ (swp P b (thenQ (swp P c Q) Q)) Q := by
    funext x; cases x <;> rfl
  simp only [swp] at hs ⊢
  rw [e]; exact hs
theorem skp_go {P : Program} {c : SCode} {Q : Post} {σ : Env} {ds : List Deferred} {h : Heap} (hs : swp P c Q σ ds h) : swp P (.seq .skip c) Q σ ds h := hs

def TextS (S : Space) : Prop := ∀ p ∈ S, p.2.text.size < 281474976710656
theorem getS_text (hT : TextS S) (h : getS S key now = some t) : t.text.size < 281474976710656 := by
  unfold getS at h
  split at h
  · rename_i t' hf
    split at h
    · cases h
    · cases h
      exact hT _ (findS_mem hf)
  · cases h
theorem go_text (hT : TextS S) (h : go = getS S key now) : (go.getD zeroT).text.size < 281474976710656 := by
  cases go with
  | none => decide
  | some t => exact getS_text hT h.symm

theorem by_calls (x : AS h0 h ab kb now av A lv []) (kr0 : KR h0 kb sb mb c m) (hs : Sorted m S) (hl : LaidN h0) (hA : A[0]? = some key) (hn : In64 n) (hk : key.size < 281474976710656) (hT : TextS S) :
    CallsH Tryz.prog 65 [ptr ab, .int .i64 n] h (CmdR h0 h ab kb now av A lv (gBy S key now n (getS S key now))) := by
  refine f65_calls (by simp) ?_
  intro b4 h1 g1
  have w := x.st.new g1
  obtain ⟨b, o, cc, rfl⟩ := x.argF (List.getElem?_eq_some_iff.1 hA).1
  refine w.lda 1 rfl rfl ?_
  refine x.ix (x.base w) 0 rfl hA ?_
  refine x.text kr0 hs w 1 rfl (fun h2 hok w => ?_) (fun h2 t ht hb w => x.bad w (by rw [ht]; exact gBy_no hb))
  obtain ⟨go, hgo⟩ : ∃ go, go = getS S key now := ⟨_, rfl⟩
  rw [← hgo] at hok ⊢
  refine cut_at [(0, ptr ab), (1, .int .i64 n), (4, ptr b4), (5, .string (go.getD zeroT).text), (6, .bool go.isSome)] ⟨rfl, rfl, rfl, rfl, rfl, trivial⟩ ?_
  refine ass_go ?_
  refine not_go (v := go.isSome) rfl rfl ?_
  refine cnd_go (t := !go.isSome) rfl ?_
  rw [show gBy S key now n go = byStep S key now n (by0 go) from if_pos (okT_yes hok)]
  cases go with
  | none =>
    refine mv_go (v := .string zeroS) rfl ?_
    exact cut_at [(0, ptr ab), (1, .int .i64 n), (4, ptr b4), (5, .string zeroS)] ⟨rfl, rfl, rfl, rfl, trivial⟩ (by_rest (s := zeroS) x kr0 hs hl hA hn (by decide) hk w)
  | some t =>
    refine skp_go ?_
    exact cut_at [(0, ptr ab), (1, .int .i64 n), (4, ptr b4), (5, .string t.text)] ⟨rfl, rfl, rfl, rfl, trivial⟩ (by_rest x kr0 hs hl hA hn (getS_text hT hgo.symm) hk w)
end

end Go.Proofs.YtgmkldaonkbjgaaGreatDoor
namespace Go.Proofs.YtgmkldaonkbjgaaGreatDoor
open Go Go.Sx Go.Proofs.YtgmkldaonkbjgaaGreatDoor.C

section
variable {h0 h : Heap} {ab kb sb mb c : Nat} {now n : Int} {av lv : Value} {A : List ByteArray} {m : List KI} {S : Space} {key s a : ByteArray} {t : Thing} {go : Option Thing} {q : Rep} {E : List Eff}

theorem putR_rep {stays : Bool} {r : Rep} (h : putR S key s now stays r = .ok (q, E)) : q = r := by
  unfold putR at h
  split at h
  · simp at h; exact h.1.symm
  · cases h
theorem byStep_rep (h : byStep S key now n s = .ok (q, E)) : q.l = [] := by
  cases hn : numOf s with
  | none => rw [byStep_none hn] at h; cases h
  | some m =>
    by_cases ho : okSum m n
    · rw [byStep_ok hn ho] at h; rw [putR_rep h]
    · rw [byStep_over hn ho] at h; cases h
theorem gBy_rep (h : gBy S key now n go = .ok (q, E)) : q.l = [] := by
  unfold gBy at h
  split at h
  · exact byStep_rep h
  · cases h
theorem RepAt.any {h' : Heap} {z : Nat} {a : Option Addr} {n c : Nat} (hq : q.l = []) (x : SL encQ h (.slice a n c) q.l) (hz : ∀ b ∈ ablk a, z ≤ b) : RepAt z h' (.agg ⟨[.int .i64 q.k, .int .i64 q.i, .string q.s, .slice a n c]⟩) q := by
  refine ⟨a, n, c, rfl, ?_, hz⟩
  rw [hq] at x ⊢
  obtain ⟨a', c', e, h1, h2⟩ := x
  cases e
  refine ⟨_, _, rfl, h1, ?_⟩
  cases a with
  | none => exact h2
  | some a' =>
    obtain ⟨b, o, sp⟩ := a'
    cases sp with
    | none => intro i v hv; simp at hv
    | some z => exact h2

theorem AS.by {h1 : Heap} {b2 : Nat} {res : Except ByteArray (Rep × List Eff)} {K : Value → Heap → Prop} {Qp : List PanicEntry → Heap → Prop} (x : AS h0 h ab kb now av A lv []) (kr0 : KR h0 kb sb mb c m) (hs : Sorted m S) (hl : LaidN h0)
    (w : St (ab :: vblk lv) h h1 [.b b2 [.int .i64 0, .int .i64 0, .string ⟨#[]⟩, .slice none 0 0], asE ab kb now av lv []]) (hA : A[0]? = some key) (hn : In64 n) (hk : key.size < 281474976710656) (hT : TextS S) (hres : res = gBy S key now n (getS S key now))
    (hok : ∀ v h', v.cells.toList.length = 4 → (∀ u ∈ v.cells.toList, u.oneCell' = true) → Blk h' b2 [.int .i64 0, .int .i64 0, .string ⟨#[]⟩, .slice none 0 0] →
      (∀ h2, Put h' h2 b2 v.cells.toList → ∃ vs, vs.length = 4 ∧ Cells h2 b2 0 vs ∧ CmdR h0 h ab kb now av A lv res (.returned (.agg ⟨vs⟩)) h2) → K v h')
    (hbad : ∀ why h', CmdR h0 h ab kb now av A lv res (.panicked (stopE why)) h' → Qp (stopE why) h') : CallsH Tryz.prog 65 [ptr ab, .int .i64 n] h1 (after K Qp) := by
  have x1 := (x.out w 1 rfl).1
  refine call_out (by_calls x1 kr0 hs hl hA hn hk hT) ?_ ?_
  · rintro v h2 ⟨q, E, he, ⟨a, n', c', rfl, sl, fr⟩, lv2, x2, a2⟩
    have w2 := w.aside 1 rfl x2 a2
    refine hok _ h2 rfl ?_ (w2.get 0 rfl) fun h3 p => ?_
    · intro u hu
      have hu : u ∈ [Value.int .i64 q.k, .int .i64 q.i, .string q.s, .slice a n' c'] := hu
      simp at hu
      rcases hu with rfl | rfl | rfl | rfl <;> rfl
    · have w3 := w2.put 0 rfl p
      exact ⟨_, rfl, cells_blk (w3.get 0 rfl), x.ends w3 1 rfl (RepAt.any (gBy_rep he) sl fun b hb => by have := fr b hb; have := w.size; omega) (hres.trans he)⟩
  · rintro why h2 ⟨he, c2⟩
    exact hbad why h2 ⟨why, rfl, hres.trans he, w.chg.trans c2 (fun _ hk => hk) (fun _ hk _ => hk)⟩

def cStep (S : Space) (now n : Int) : List ByteArray → Except ByteArray (Rep × List Eff) := arg1 fun key => gBy S key now n (getS S key now)

theorem step_calls {bn on : Nat} (x : AS h0 h ab kb now av A lv []) (kr0 : KR h0 kb sb mb c m) (hs : Sorted m S) (hl : LaidN h0) (Bn : cell h bn on = some (.int .i64 n)) (hn : In64 n) (hA : ∀ s ∈ A, s.size < 281474976710656) (hT : TextS S) :
    CallsH Tryz.prog 110 [ptr ab, .pointer (some ⟨bn, on, none⟩)] h (CmdR h0 h ab kb now av A lv (cStep S now n A)) := by
  refine f110_calls (by simp) ?_
  intro b2 h1 g1
  have w := x.st.new g1
  refine x.many w 1 rfl (fun hok _ => ?_) (fun hb => x.bad w (arg1_bad hb))
  obtain ⟨key, rfl⟩ := one_arg hok
  refine Exists.intro _ (And.intro (cell_chg Bn g1.chg (by simp)) ?_)
  refine x.by kr0 hs hl w rfl hn (hA key (by simp)) hT rfl (fun v h2 l4 h1 B hend => ?_) fun why h2 hb => hb
  refine Exists.intro _ (And.intro B (And.intro (by simp) (And.intro l4 (And.intro h1 ?_))))
  intro h3 p3
  rw [four rfl l4] at p3
  exact hend h3 p3

def gIncr (S : Space) (key : ByteArray) (now : Int) : Option Int → Except ByteArray (Rep × List Eff)
  | none => .error wNum
  | some n => gBy S key now n (getS S key now)
def cIncrby (S : Space) (now : Int) : List ByteArray → Except ByteArray (Rep × List Eff) := arg2 fun key s => gIncr S key now (numOf s)

theorem incrby_calls (x : AS h0 h ab kb now av A lv []) (kr0 : KR h0 kb sb mb c m) (hs : Sorted m S) (hl : LaidN h0) (hA : ∀ s ∈ A, s.size < 281474976710656) (hT : TextS S) :
    CallsH Tryz.prog 63 [ptr ab] h (CmdR h0 h ab kb now av A lv (cIncrby S now A)) := by
  refine f63_calls (by simp) ?_
  intro b2 h1 g1
  have w := x.st.new g1
  refine x.many w 1 rfl (fun hok _ => ?_) (fun hb => x.bad w (arg2_bad hb))
  obtain ⟨key, s, rfl⟩ := two_arg hok
  rw [show cIncrby S now [key, s] = gIncr S key now (numOf s) from rfl]
  refine x.num (j := 1) hl (by simp) (hA _ (by simp)) w 1 rfl (fun h2 n hn w => ?_) (fun h2 hn w => x.bad w (by rw [show numOf s = none from hn]; rfl))
  have hn : numOf s = some n := hn
  refine x.by kr0 hs hl w rfl (numOf_in hn) (hA key (by simp)) hT (by rw [hn]; rfl) (fun v h2 l4 h1 B hend => ?_) fun why h2 hb => hb
  refine Exists.intro _ (And.intro B (And.intro (by simp) (And.intro l4 (And.intro h1 ?_))))
  intro h3 p3
  rw [four rfl l4] at p3
  exact hend h3 p3

def gMore (S : Space) (key a : ByteArray) (now : Int) (go : Option Thing) : Except ByteArray (Rep × List Eff) :=
  if okT go = true then putR S key ((go.getD zeroT).text ++ a) now true (rep 3 ((go.getD zeroT).text.size + a.size) noText) else .error wType
theorem gMore_no (h : t.kind ≠ 1) : gMore S key a now (some t) = .error wType := if_neg (by simp [okT, h])
def cMore (S : Space) (now : Int) : List ByteArray → Except ByteArray (Rep × List Eff) := arg2 fun key a => gMore S key a now (getS S key now)

theorem more_calls (x : AS h0 h ab kb now av A lv []) (kr0 : KR h0 kb sb mb c m) (hs : Sorted m S) (hA : ∀ s ∈ A, s.size < 281474976710656) (hT : TextS S) :
    CallsH Tryz.prog 67 [ptr ab] h (CmdR h0 h ab kb now av A lv (cMore S now A)) := by
  refine f67_calls (by simp) ?_
  intro b2 h1 g1
  have w := x.st.new g1
  refine x.many w 1 rfl (fun hok _ => ?_) (fun hb => x.bad w (arg2_bad hb))
  obtain ⟨key, a, rfl⟩ := two_arg hok
  obtain ⟨b, o, cc, rfl⟩ := x.argF (by simp)
  rw [show cMore S now [key, a] = gMore S key a now (getS S key now) from rfl]
  refine w.lda 1 rfl rfl ?_
  refine x.ix (x.base w) 0 rfl rfl ?_
  refine x.text kr0 hs w 1 rfl (fun h2 hk w => ?_) (fun h2 t ht hk w => x.bad w (by rw [ht]; exact gMore_no hk))
  obtain ⟨go, hgo⟩ : ∃ go, go = getS S key now := ⟨_, rfl⟩
  rw [← hgo] at hk ⊢
  have hz := go_text hT hgo
  have hza := hA a (by simp)
  have hzk := hA key (by simp)
  rw [show gMore S key a now go = putR S key ((go.getD zeroT).text ++ a) now true (rep 3 ((go.getD zeroT).text.size + a.size) noText) from if_pos (okT_yes hk)]
  refine w.lda 1 rfl rfl ?_
  refine x.ix (x.base w) 0 rfl rfl ?_
  refine w.lda 1 rfl rfl ?_
  refine x.ix (x.base w) 1 rfl rfl ?_
  refine And.intro (by omega) ?_
  have hcat : ((go.getD zeroT).text ++ a).size < 4611686018427387904 := by rw [ByteArray.size_append]; omega
  refine x.put kr0 hs w 1 rfl (by simp) (by omega) hcat (fun _ h4 lv2 hfit w => ?_) (fun hb => x.bad w (if_neg hb))
  refine w.lda 1 rfl rfl ?_
  refine x.ix (x.base w) 1 rfl rfl ?_
  refine And.intro rfl (fun z hz9 => ?_)
  have hz9 := add_in hz9 (by omega) (by omega)
  subst hz9
  refine w.callv Bnumber_calls fun h5 w => ?_
  refine w.st1 0 rfl rfl rfl rfl fun h6 w => ?_
  exact x.fin w 0 1 rfl rfl (if_pos hfit)
end

end Go.Proofs.YtgmkldaonkbjgaaGreatDoor
namespace Go.Proofs.YtgmkldaonkbjgaaGreatDoor
open Go Go.Sx Go.Proofs.YtgmkldaonkbjgaaGreatDoor.C

abbrev Res := Except ByteArray (Rep × List Eff)
instance memB (k : ByteArray) (l : List ByteArray) : Decidable (k ∈ l) := @List.instDecidableMemOfLawfulBEq _ instBEqOfDecidableEq _ k l
def cntB (k : ByteArray) (l : List ByteArray) : Nat := l.countP fun x => decide (x = k)
theorem cntB_snoc {pre : List ByteArray} {k k' : ByteArray} : cntB k' (pre ++ [k]) = cntB k' pre + (if k' = k then 1 else 0) := by
  unfold cntB
  rw [List.countP_append, List.countP_singleton]
  by_cases h : k' = k
  · rw [if_pos (decide_eq_true h.symm), if_pos h]
  · rw [if_neg (by simp; exact fun e => h e.symm), if_neg h]

section
variable (S : Space) (now : Int)
def here (key : ByteArray) : Bool := (getS S key now).isSome

def okLeft (a b : Int) : Prop := -9223372036854775808 ≤ a - b ∧ a - b ≤ 9223372036854775807
instance (a b : Int) : Decidable (okLeft a b) := by unfold okLeft; infer_instance
end

end Go.Proofs.YtgmkldaonkbjgaaGreatDoor
namespace Go.Proofs.YtgmkldaonkbjgaaGreatDoor
open Go Go.Sx Go.Proofs.YtgmkldaonkbjgaaGreatDoor.C

def rxE (xb : Nat) (kv : Value) (now : Int) (av lv : Value) (L : List Eff) (why : ByteArray) : En :=
  .x (xb :: vblk lv) (fun h => Blk h xb [kv, .int .i64 now, av, lv, .string why] ∧ OL encD 5 h lv L ∧ xb ∉ vblk lv)
    (fun S h h' hc hn ⟨h1, h2, h3⟩ => ⟨h1.chg hc (hn _ (by simp)), h2.chg hc (fun b hb => hn _ (by simp [hb])), h3⟩)
    (fun h ⟨h1, h2, _⟩ b hb => by
      rcases List.mem_cons.1 hb with rfl | hb
      · exact h1.lt
      · exact OL.lt h2 b hb)

structure RC (h0 : Heap) (kv : Value) (k : List RX) (av : Value) (A : List ByteArray) : Prop where
  sl : SL encX h0 kv k
  gx : GX h0 k
  up : UpX k
  len : k.length < 4611686018427387904
  fit : KeysFit k
  args : ∀ h', Chg [] h0 h' → SL encS h' av A

def RxO (h0 h : Heap) (e : En) (h' : Heap) (e' : En) : Prop := As h0 h' e' ∧ Sx.Own e h e' h'

section
variable {h0 h h1 h' : Heap} {xb i : Nat} {now n : Int} {kv av lv : Value} {k : List RX} {A : List ByteArray} {L : List Eff} {why : ByteArray} {M : List En} {T : List Nat} {e e' : En}

theorem RxO.refl (x : As h0 h e) (hc : Chg [] h h') : RxO h0 h e h' e := ⟨x.ext hc, Sx.Own.refl x.at_ hc⟩

theorem _root_.Go.Sx.St.ldr {o : Nat} {v : Value} {K : Value → Prop} (w : St T h1 h M) (i : Nat) (hi : M[i]? = some (rxE xb kv now av lv L why)) (hv : [kv, .int .i64 now, av, lv, .string why][o]? = some v) (k : K v) : ∃ v, cell h xb o = some v ∧ K v := ⟨v, cell_blk (w.get i hi).1 hv, k⟩

theorem _root_.Go.Sx.St.stw {K : Heap → Prop} {why2 : ByteArray} (w : St T h1 h M) (i : Nat) (hi : M[i]? = some (rxE xb kv now av lv L why)) (k : ∀ h', St T h1 h' (M.set i (rxE xb kv now av lv L why2)) → K h') :
    ∃ l, Blk h xb l ∧ 4 + 1 ≤ l.length ∧ [Value.string why2].length = 1 ∧ (∀ u ∈ [Value.string why2], u.oneCell' = true) ∧ ∀ h', Put h h' xb (splice l 4 [.string why2]) → K h' := by
  obtain ⟨hB, hO, hn⟩ := w.get i hi
  refine ⟨_, hB, by simp, rfl, ones1 rfl, fun h' p => k h' ?_⟩
  have hO2 := hO.chg p.chg (fun b hb => by simp; rintro rfl; exact hn hb)
  exact w.set i hi p.chg (fun b hb => .inl (by simp at hb; simp [rxE, En.fp, hb])) ⟨p.blk, hO2, hn⟩ (fun b hb => .inl hb)

theorem _root_.Go.Sx.St.rapp {a a' : Option Addr} {n c m c2 : Nat} {F : List Eff} {z : List Value} {K : Value → Heap → Prop} (w : St T h1 h M) (i : Nat) (hi : M[i]? = some (rxE xb kv now av (.slice a n c) L why)) (hz : z.length = 5) (hsrc : SL encD h (.slice a' m c2) F) (hb : ((L.length + F.length) * 2 + 768) * 64 ≤ 281474976710656)
    (k : ∀ a3 c3 h', (∀ {K' : Heap → Prop}, (∀ h'', St T h1 h'' (M.set i (rxE xb kv now av (.slice a3 (L ++ F).length c3) (L ++ F) why)) → K' h'') →
      ∃ l, Blk h' xb l ∧ 3 + 1 ≤ l.length ∧ [Value.slice a3 (L ++ F).length c3].length = 1 ∧ (∀ u ∈ [Value.slice a3 (L ++ F).length c3], u.oneCell' = true) ∧ ∀ h'', Put h' h'' xb (splice l 3 [.slice a3 (L ++ F).length c3]) → K' h'') → K (.slice a3 (L ++ F).length c3) h') : appP h K 5 64 z a n c a' m := by
  obtain ⟨hB, hO, hn⟩ := w.get i hi
  have hlt := hB.lt
  refine app_own encD_len encD_one hz hO hsrc hb fun v' h' ho hc hbv => ?_
  have hxn : xb ∉ vblk v' := fun hm => by
    rcases hbv xb hm with h3 | h3
    · exact hn h3
    · omega
  have hB1 := hB.chg hc hn
  obtain ⟨a3, c3, rfl, _⟩ := ho.sl.form
  refine k a3 c3 h' fun {K'} hK => ?_
  refine ⟨_, hB1, by simp, rfl, ones1 rfl, fun h'' p => hK h'' ?_⟩
  have ct : Chg (xb :: ablk a) h h'' := (hc.mono (fun b hb => List.mem_cons_of_mem _ hb)).trans p.chg (fun _ hk => hk) (fun b hb _ => by simp at hb; simp [hb])
  refine w.set i hi ct (fun b hb => .inl hb) ⟨p.blk, ho.chg p.chg (fun b hb => by simp; rintro rfl; exact hxn hb), hxn⟩ (fun b hb => ?_)
  rcases List.mem_cons.1 hb with rfl | hb
  · exact .inl (List.mem_cons_self ..)
  · rcases hbv b hb with h3 | h3
    · exact .inl (List.mem_cons_of_mem _ h3)
    · exact .inr h3

theorem _root_.Go.Sx.St.rform (w : St T h1 h M) (i : Nat) (hi : M[i]? = some (rxE xb kv now av lv L why)) : ∃ a c, lv = .slice a L.length c := by
  obtain ⟨a, c, e, _⟩ := (show OL encD 5 h lv L from (w.get i hi).2.1).sl.form
  exact ⟨a, c, e⟩

theorem RC.argF (c : RC h0 kv k av A) (hi : 0 < A.length) : ∃ b o cc, av = .slice (some ⟨b, o, none⟩) A.length cc := by
  have hs := c.args h0 (Chg.refl _)
  obtain ⟨a, cc, rfl, hcc⟩ := hs.form
  obtain ⟨b, o, rfl⟩ := hs.addr hi
  exact ⟨b, o, cc, rfl⟩
theorem RC.argN (c : RC h0 kv k av A) : ∃ a cc, av = .slice a A.length cc := by
  obtain ⟨a, cc, rfl, hcc⟩ := (c.args h0 (Chg.refl _)).form
  exact ⟨a, cc, rfl⟩
theorem RC.ix {i : Int} {b o n cc : Nat} {s : ByteArray} {K : Value → Prop} (c : RC h0 kv k (.slice (some ⟨b, o, none⟩) n cc) A) (hc : Chg [] h0 h1) (j : Nat) (e : i = j) (hs : A[j]? = some s) (hk : K (.string s)) :
    0 ≤ i ∧ i < (n : Int) ∧ ∃ v, cell h1 b (o + i.toNat * 1) = some v ∧ K v := by
  subst e
  have hj := (List.getElem?_eq_some_iff.1 hs).1
  have hcs := (c.args h1 hc).cells encS_len hs
  have hn := (c.args h1 hc).len.1
  refine ⟨by omega, by omega, _, ?_, hk⟩
  have := hcs 0 _ rfl
  simpa using this

def GetS (h : Heap) (f : Nat) (vs : List Value) (go : Option Thing) : Prop :=
  ∀ {h1}, Chg [] h h1 → CallsH Tryz.prog f vs h1 (Ret fun r h' => (∃ pv lv rv, r = .tuple #[.agg ⟨cellsT (go.getD zeroT) pv lv rv⟩, .bool go.isSome] ∧ ∀ u ∈ cellsT (go.getD zeroT) pv lv rv, u.oneCell' = true) ∧ Chg [] h1 h')

theorem RC.getS (c : RC h0 kv k av A) (hc : Chg [] h0 h) (key : ByteArray) (hk : key.size < 4611686018427387904) : GetS h 85 [kv, .string key, .int .i64 now] (getS (k.map RX.pr) key now) := by
  intro h1 c1
  refine (RGet_calls key now (c.sl.ext (hc.nil c1)) (c.gx.ext (hc.nil c1)) c.len hk c.fit).mono ?_
  intro e h' he
  cases e with
  | returned r =>
    obtain ⟨⟨us, rfl, tu⟩, c2⟩ := he
    rw [get_get c.up key now] at tu ⊢
    have ho := thing_one tu
    obtain ⟨pv, lv, rv, rfl, _⟩ := tu
    exact ⟨⟨pv, lv, rv, rfl, ho⟩, c2⟩
  | panicked ch => exact he
  | outgrown => exact he

theorem get_twoR {σ : Env} {Qp : List PanicEntry → Heap → Prop} {K : Env → Heap → Prop} {f : Nat} {v1 v2 v3 : Value} {go : Option Thing} {c d e0 e1 b v a1 a2 a3 : Nat} (w : St T h0 h M) (get : GetS h f [v1, v2, v3] go) (E : List (Nat × Value))
    (h1 : σ a1 = some v1) (h2 : σ a2 = some v2) (h3 : σ a3 = some v3) (hE : SubL σ E) (ha : apart7 c d e0 e1 b v a1 a2 a3 E = true) (hm : MonoE K)
    (k : ∀ h' b6 pv lv rv, St T h0 h' (.b b6 (cellsT (go.getD zeroT) pv lv rv) :: M) → (∀ u ∈ cellsT (go.getD zeroT) pv lv rv, u.oneCell' = true) → K (mk ((b, ptr b6) :: (v, .bool go.isSome) :: E)) h') :
    sops Tryz.prog Qp K [⟨some c, none, .callq f [.tmp a1, .tmp a2, .tmp a3]⟩, ⟨some d, none, .mv (.tmp c)⟩, ⟨some e0, none, .ext (.tmp d) 0⟩, ⟨some e1, none, .ext (.tmp d) 1⟩, ⟨some b, none, .new [(.int .i64 0), (.string ⟨#[]⟩), (.slice none 0 0), (.slice none 0 0), (.slice none 0 0), (.bool false), (.int .i64 0)]⟩,
      ⟨none, none, .st 7 (.tmp b) (.tmp e0)⟩, ⟨some v, none, .mv (.tmp e1)⟩] σ h ∧
    sops Tryz.prog Qp K [⟨some b, none, .new [(.int .i64 0), (.string ⟨#[]⟩), (.slice none 0 0), (.slice none 0 0), (.slice none 0 0), (.bool false), (.int .i64 0)]⟩, ⟨some c, none, .callq f [.tmp a1, .tmp a2, .tmp a3]⟩, ⟨some d, none, .mv (.tmp c)⟩, ⟨some e0, none, .ext (.tmp d) 0⟩, ⟨some e1, none, .ext (.tmp d) 1⟩,
      ⟨none, none, .st 7 (.tmp b) (.tmp e0)⟩, ⟨some v, none, .mv (.tmp e1)⟩] σ h := by
  simp only [apart7, Bool.and_eq_true, Bool.not_eq_true'] at ha
  obtain ⟨⟨⟨⟨⟨⟨⟨⟨⟨⟨⟨n1, n2⟩, n3⟩, n4⟩, n5⟩, n6⟩, n7⟩, n8⟩, n9⟩, n10⟩, n11⟩, ha⟩ := ha
  have n2' : Nat.beq b e0 = false := beqT (Ne.symm (beqF n2))
  have fin : ∀ {τ : Env} {h' : Heap} {b6 : Nat} {pv lv rv : Value}, (∀ u ∈ cellsT (go.getD zeroT) pv lv rv, u.oneCell' = true) → τ b = some (ptr b6) → τ v = some (.bool go.isSome) → (∀ t, t ≠ c → t ≠ d → t ≠ e0 → t ≠ e1 → t ≠ b → t ≠ v → τ t = σ t) →
      St T h0 h' (.b b6 (cellsT (go.getD zeroT) pv lv rv) :: M) → K τ h' := fun h1 hb hv ho w => hm _ _ _ (sub_mk (l := (b, ptr _) :: (v, .bool go.isSome) :: E) ⟨hb, hv, sub7 hE ha ho⟩) (k _ _ _ _ _ w h1)
  refine ⟨?_, ?_⟩
  · simp only [sops, sopr, sop, evs, ev, h1, h2, h3]
    refine callq_ret (get (Chg.refl h)) ?_
    rintro _ h4 ⟨⟨pv, lv, rv, rfl, hone⟩, c4⟩
    refine ⟨c4.ext, ?_⟩
    have w4 := w.ext c4
    simp only [upd, Nat.beq_refl, cond_true, cond_false, n1, n2, n2', n3, n4, n5, n6, n7, n8]
    intro b6 h5 g5
    have w5 := w4.new g5
    refine w5.st3 0 rfl rfl rfl hone fun h6 w6 => ?_
    refine fin hone ?_ ?_ ?_ w6
    · simp [upd, n5]; rfl
    · simp [upd]
    · intro t t1 t2 t3 t4 t5 t6
      simp [upd, beqT t1, beqT t2, beqT t3, beqT t4, beqT t5, beqT t6]
  · simp only [sops, sopr, sop, evs, ev]
    intro b6 h4 g4
    have w4 := w.new g4
    simp only [upd, Nat.beq_refl, cond_true, cond_false, n9, n10, n11, h1, h2, h3]
    refine callq_ret (get g4.chg) ?_
    rintro _ h5 ⟨⟨pv, lv, rv, rfl, hone⟩, c5⟩
    refine ⟨c5.ext, ?_⟩
    have w5 := w4.ext c5
    simp only [upd, Nat.beq_refl, cond_true, cond_false, n1, n2, n2', n3, n4, n5, n6, n7, n8]
    refine w5.st3 0 rfl rfl rfl hone fun h6 w6 => ?_
    refine fin hone ?_ ?_ ?_ w6
    · simp [upd, n5, n6, n7, n8, n2']; rfl
    · simp [upd]
    · intro t t1 t2 t3 t4 t5 t6
      simp [upd, beqT t1, beqT t2, beqT t3, beqT t4, beqT t5, beqT t6]

theorem rInt_calls {h : Heap} {n : Int} : CallsH Tryz.prog 140 [.int .i64 n] h (Ret fun r h' => r = repV 3 n noText ∧ Chg [] h h') := by
  refine f140_calls (by simp) ?_
  intro b h1 g1
  refine Exists.intro _ (And.intro g1.blk (And.intro (by decide) (And.intro rfl (And.intro (repV_ones 3 n noText) ?_))))
  intro h2 p2
  have g2 := g1.put p2
  exact ⟨_, rfl, cells_blk g2.blk, rfl, g2.chg⟩
theorem rText_calls {h : Heap} {s : ByteArray} : CallsH Tryz.prog 141 [.string s] h (Ret fun r h' => r = repV 4 0 s ∧ Chg [] h h') := by
  refine f141_calls (by simp) ?_
  intro b h1 g1
  refine Exists.intro _ (And.intro g1.blk (And.intro (by decide) (And.intro rfl (And.intro (repV_ones 4 0 s) ?_))))
  intro h2 p2
  have g2 := g1.put p2
  exact ⟨_, rfl, cells_blk g2.blk, rfl, g2.chg⟩
theorem rFail_calls {h : Heap} {s : ByteArray} : CallsH Tryz.prog 37 [.string s] h (Ret fun r h' => r = repV 2 0 s ∧ Chg [] h h') := by
  refine f37_calls (by simp) ?_
  intro b h1 g1
  refine Exists.intro _ (And.intro g1.blk (And.intro (by decide) (And.intro rfl (And.intro (repV_ones 2 0 s) ?_))))
  intro h2 p2
  have g2 := g1.put p2
  exact ⟨_, rfl, cells_blk g2.blk, rfl, g2.chg⟩

theorem rnum8_calls {h : Heap} {s : ByteArray} (hs : s.size < 4611686018427387904) : CallsH Tryz.prog 143 [.string s] h (Ret fun r h' => r = .tuple #[.int .i64 ((numOf s).getD 0), .bool (numOf s).isSome] ∧ h' = h) := by
  obtain ⟨⟨l⟩⟩ := s
  have e : numOf ⟨⟨l⟩⟩ = Num.refNum T63 l := Num.num_eq rfl l
  rw [e]
  exact r8num_calls rfl hs

theorem rmany_calls {lo hi : Int} (c : RC h0 kv k av A) (x : As h0 h (rxE xb kv now av lv L why)) : CallsH Tryz.prog 36 [ptr xb, .int .i64 lo, .int .i64 hi] h
    (Ret fun r h' => (lo ≤ A.length ∧ A.length ≤ hi ∧ r = .bool true ∧ RxO h0 h (rxE xb kv now av lv L why) h' (rxE xb kv now av lv L why)) ∨ (¬ (lo ≤ A.length ∧ A.length ≤ hi) ∧ r = .bool false ∧ RxO h0 h (rxE xb kv now av lv L why) h' (rxE xb kv now av lv L wArgs))) := by
  obtain ⟨a, cc, rfl⟩ := c.argN
  refine f36_calls (by simp) ?_
  have w := x.st
  refine w.ldr 0 rfl rfl ?_
  refine And.intro rfl (And.intro (fun h1 => ?_) (fun h1 => ?_))
  · refine w.stw 0 rfl fun h2 w => ?_
    exact .inr ⟨fun hh => by omega, rfl, x.out w 0 rfl⟩
  · refine w.ldr 0 rfl rfl ?_
    refine And.intro rfl (And.intro (fun h2 => ?_) (fun h2 => ?_))
    · refine w.stw 0 rfl fun h2 w => ?_
      exact .inr ⟨fun hh => by omega, rfl, x.out w 0 rfl⟩
    · exact .inl ⟨by omega, by omega, rfl, x.out w 0 rfl⟩

theorem rnumA_calls {j : Nat} {s : ByteArray} (c : RC h0 kv k av A) (x : As h0 h (rxE xb kv now av lv L why)) (hj : A[j]? = some s) (hs : s.size < 4611686018427387904) : CallsH Tryz.prog 87 [ptr xb, .int .i64 j] h
    (Ret fun r h' => r = .tuple #[.int .i64 ((numOf s).getD 0), .bool (numOf s).isSome] ∧ RxO h0 h (rxE xb kv now av lv L why) h' (rxE xb kv now av lv L (if (numOf s).isSome = true then why else wNum))) := by
  obtain ⟨b, o, cc, rfl⟩ := c.argF (by have := (List.getElem?_eq_some_iff.1 hj).1; omega)
  refine f87_calls (by simp) ?_
  have w := x.st
  refine w.ldr 0 rfl rfl ?_
  refine c.ix (x.base w) j rfl hj ?_
  refine callp (rnum8_calls hs) ?_
  cases numOf s with
  | some m => exact ⟨rfl, x.out w 0 rfl⟩
  | none =>
    refine w.stw 0 rfl fun h2 w => ?_
    exact ⟨rfl, x.out w 0 rfl⟩

theorem rplus_calls {a b : Int} (ha : In64 a) (hb : In64 b) (x : As h0 h (rxE xb kv now av lv L why)) : CallsH Tryz.prog 137 [ptr xb, .int .i64 a, .int .i64 b] h
    (Ret fun r h' => (okSum a b ∧ r = .tuple #[.int .i64 (a + b), .bool true] ∧ RxO h0 h (rxE xb kv now av lv L why) h' (rxE xb kv now av lv L why)) ∨ (¬ okSum a b ∧ r = .tuple #[.int .i64 0, .bool false] ∧ RxO h0 h (rxE xb kv now av lv L why) h' (rxE xb kv now av lv L wOver))) := by
  obtain ⟨a0, a1⟩ := ha
  obtain ⟨b0, b1⟩ := hb
  have w := x.st
  refine f137_calls (by simp) ?_
  have no : ¬ okSum a b → ∀ {K : Heap → Prop}, (∀ h', RxO h0 h (rxE xb kv now av lv L why) h' (rxE xb kv now av lv L wOver) → K h') → ∃ l, Blk h xb l ∧ 4 + 1 ≤ l.length ∧ [Value.string wOver].length = 1 ∧ (∀ u ∈ [Value.string wOver], u.oneCell' = true) ∧ ∀ h', Put h h' xb (splice l 4 [.string wOver]) → K h' :=
    fun _ {K} hK => w.stw 0 rfl fun h2 w => hK h2 (x.out w 0 rfl)
  have yes : ∀ z : Int, z = IntKind.i64.wrap (a + b) → okSum a b → z = a + b := fun z hz hk => by
    obtain ⟨k0, k1⟩ := hk
    exact hz.trans (wrap_in (by omega) (by omega))
  unfold okSum at *
  refine And.intro rfl (And.intro (fun h1 => ?_) (fun h1 => ?_))
  · refine And.intro rfl (fun z hz => ?_)
    have hz : z = 9223372036854775807 - b := hz.trans (wrap_in (by omega) (by omega))
    subst hz
    refine And.intro rfl (And.intro (fun h2 => ?_) (fun h2 => ?_))
    · refine no (by omega) fun h' hr => ?_
      exact .inr ⟨by omega, rfl, hr⟩
    · refine And.intro rfl (And.intro (fun h3 => absurd h3 (by omega)) (fun h3 => ?_))
      refine And.intro rfl (fun z hz => ?_)
      have hz := yes z hz ⟨by omega, by omega⟩
      subst hz
      exact .inl ⟨⟨by omega, by omega⟩, rfl, x.out w 0 rfl⟩
  · refine And.intro rfl (And.intro (fun h3 => ?_) (fun h3 => ?_))
    · refine And.intro rfl (fun z hz => ?_)
      have hz : z = -9223372036854775808 - b := hz.trans (wrap_in (by omega) (by omega))
      subst hz
      refine And.intro rfl (And.intro (fun h2 => ?_) (fun h2 => ?_))
      · refine no (by omega) fun h' hr => ?_
        exact .inr ⟨by omega, rfl, hr⟩
      · refine And.intro rfl (fun z hz => ?_)
        have hz := yes z hz ⟨by omega, by omega⟩
        subst hz
        exact .inl ⟨⟨by omega, by omega⟩, rfl, x.out w 0 rfl⟩
    · refine And.intro rfl (fun z hz => ?_)
      have hz := yes z hz ⟨by omega, by omega⟩
      subst hz
      exact .inl ⟨⟨by omega, by omega⟩, rfl, x.out w 0 rfl⟩
end

end Go.Proofs.YtgmkldaonkbjgaaGreatDoor
namespace Go.Proofs.YtgmkldaonkbjgaaGreatDoor
open Go Go.Sx Go.Proofs.YtgmkldaonkbjgaaGreatDoor.C

theorem find_is8 {l : List RX} (hu : UpX l) (key : ByteArray) : (findX key l).2 = (findS (l.map RX.pr) key).isSome := by
  cases hb : (findX key l).2 with
  | true =>
    obtain ⟨hlt, hk⟩ := findX_hit key l hb
    rw [find_yes hu hlt hk]; rfl
  | false => rw [find_no hu hb]; rfl

section
variable {h0 h h1 h' : Heap} {xb i : Nat} {now n : Int} {kv av lv : Value} {k : List RX} {A : List ByteArray} {L : List Eff} {why key s : ByteArray} {M : List En} {T : List Nat} {e e' : En}

theorem rgone_calls (c : RC h0 kv k av A) (x : As h0 h (rxE xb kv now av lv L why)) (hk : key.size < 4611686018427387904) (hL : L.length ≤ 1000000) : CallsH Tryz.prog 144 [ptr xb, .string key] h
    (Ret fun _ h' => ∃ lv', RxO h0 h (rxE xb kv now av lv L why) h' (rxE xb kv now av lv' (L ++ dropsS (k.map RX.pr) key now) why)) := by
  obtain ⟨a, cc, rfl⟩ := x.st.rform 0 rfl
  refine f144_calls (by simp) ?_
  have w := x.st
  refine w.ldr 0 rfl rfl ?_
  refine callp (Find_calls key (c.sl.ext (x.base w)) c.len hk c.fit) ?_
  rw [find_is8 c.up key]
  refine w.ldr 0 rfl rfl ?_
  refine w.ldr 0 rfl rfl ?_
  refine get_twoR w (c.getS (x.base w) key hk) [(0, ptr xb), (1, .string key), (5, .bool (findS (k.map RX.pr) key).isSome)] rfl rfl rfl ⟨rfl, rfl, rfl, trivial⟩ rfl (mono_at mono_retQ) fun h2 b6 pv lw rv w _ => ?_
  unfold dropsS
  generalize (findS (k.map RX.pr) key).isSome = fs
  generalize (getS (k.map RX.pr) key now).getD zeroT = t at w
  generalize (getS (k.map RX.pr) key now).isSome = gs
  cases fs with
  | false =>
    refine ⟨.slice a L.length cc, ?_⟩
    rw [if_neg (by simp), List.append_nil]
    exact x.out w 1 rfl
  | true =>
    cases gs with
    | true =>
      refine ⟨.slice a L.length cc, ?_⟩
      rw [if_neg (by simp), List.append_nil]
      exact x.out w 1 rfl
    | false =>
      refine w.ldr 1 rfl rfl ?_
      intro b7 h3 g3
      have w := w.new g3
      refine w.rapp 2 rfl rfl (one_sl (e := goneE key) (w.get 0 rfl)) (by simp only [List.length_singleton]; omega) fun a4 n4 h4 hst => ?_
      refine hst fun h5 w => ?_
      refine ⟨.slice a4 (L ++ [goneE key]).length n4, ?_⟩
      rw [if_pos ⟨rfl, rfl⟩]
      exact x.out w 2 rfl

theorem rput_calls {stays : Bool} (c : RC h0 kv k av A) (x : As h0 h (rxE xb kv now av lv L why)) (hk : key.size < 4611686018427387904) (hL : L.length ≤ 1000) : CallsH Tryz.prog 138 [ptr xb, .string key, .string s, .bool stays] h
    (Ret fun r h' => ((s.size ≤ 1048576 ∧ key.size ≤ 1048576) ∧ r = .bool true ∧ ∃ lv', RxO h0 h (rxE xb kv now av lv L why) h' (rxE xb kv now av lv' (L ++ putE (k.map RX.pr) key s now stays) why)) ∨
      (¬ (s.size ≤ 1048576 ∧ key.size ≤ 1048576) ∧ r = .bool false ∧ RxO h0 h (rxE xb kv now av lv L why) h' (rxE xb kv now av lv L wLong))) := by
  refine f138_calls (by simp) ?_
  have w := x.st
  refine And.intro rfl (And.intro (fun h1 => ?_) (fun h1 => ?_))
  · refine w.stw 0 rfl fun h2 w => ?_
    exact .inr ⟨fun hh => by omega, rfl, x.out w 0 rfl⟩
  refine And.intro rfl (And.intro (fun h2 => ?_) (fun h2 => ?_))
  · refine w.stw 0 rfl fun h2 w => ?_
    exact .inr ⟨fun hh => by omega, rfl, x.out w 0 rfl⟩
  have fit : s.size ≤ 1048576 ∧ key.size ≤ 1048576 := ⟨by omega, by omega⟩
  refine w.ldr 0 rfl rfl ?_
  refine w.ldr 0 rfl rfl ?_
  refine get_twoR w (c.getS (x.base w) key hk) [(0, ptr xb), (1, .string key), (2, .string s), (3, .bool stays)] rfl rfl rfl ⟨rfl, rfl, rfl, rfl, trivial⟩ rfl (mono_at mono_retQ) fun h2 b6 pv lw rv w _ => ?_
  have dl := drops_len (k.map RX.pr) key now
  refine call_ret (rgone_calls c (x.out w 1 rfl).1 hk (by omega)) ?_
  rintro _ h3 ⟨lv2, _, o3⟩
  have w := w.own 1 rfl o3
  obtain ⟨a, cc, rfl⟩ := w.rform 1 rfl
  refine w.ldr 1 rfl rfl ?_
  intro b7 h4 g4
  have w := w.new g4
  refine w.rapp 2 rfl rfl (one_sl (e := textE key s) (w.get 0 rfl)) (by simp only [List.length_singleton, List.length_append]; omega) fun a5 n5 h5 hst => ?_
  refine hst fun h6 w => ?_
  unfold putE
  generalize getS (k.map RX.pr) key now = go at w ⊢
  have fin : keepE go key stays = [] → ∀ {h7 : Heap} {M : List En} {j : Nat}, St (xb :: vblk lv) h h7 M → M[j]? = some (rxE xb kv now av (.slice a5 (L ++ dropsS (k.map RX.pr) key now ++ [textE key s]).length n5) (L ++ dropsS (k.map RX.pr) key now ++ [textE key s]) why) → ∃ lv', RxO h0 h (rxE xb kv now av lv L why) h7 (rxE xb kv now av lv' (L ++ (dropsS (k.map RX.pr) key now ++ ([textE key s] ++ keepE go key stays))) why) := fun he h7 M j w hj => by
    refine ⟨.slice a5 (L ++ dropsS (k.map RX.pr) key now ++ [textE key s]).length n5, ?_⟩
    rw [he, List.append_nil, ← List.append_assoc]
    exact x.out w j hj
  cases stays with
  | false => exact .inl ⟨fit, rfl, fin (by unfold keepE; split <;> simp) (j := 2) w rfl⟩
  | true =>
    cases go with
    | none => exact .inl ⟨fit, rfl, fin rfl (j := 2) w rfl⟩
    | some t =>
      obtain ⟨kd, tx, ps, ls, rs, hu, un⟩ := t
      refine w.ld1 1 rfl rfl ?_
      cases hu with
      | false => exact .inl ⟨fit, rfl, fin (by unfold keepE; simp) (j := 2) w rfl⟩
      | true =>
        refine w.ldr 2 rfl rfl ?_
        refine w.ld1 1 rfl rfl ?_
        intro b8 h7 g7
        have w := w.new g7
        refine w.rapp 3 rfl rfl (one_sl (e := untilE key un) (w.get 0 rfl)) (by simp only [List.length_singleton, List.length_append]; omega) fun a8 n8 h8 hst => ?_
        refine hst fun h9 w => ?_
        refine .inl ⟨fit, rfl, .slice a8 (L ++ dropsS (k.map RX.pr) key now ++ [textE key s] ++ [untilE key un]).length n8, ?_⟩
        rw [show keepE (some ⟨kd, tx, ps, ls, rs, true, un⟩) key true = [untilE key un] by unfold keepE; simp, ← List.append_assoc, ← List.append_assoc]
        exact x.out w 3 rfl

theorem rthing_calls (c : RC h0 kv k av A) (x : As h0 h (rxE xb kv now av lv L why)) (hk : key.size < 4611686018427387904) : CallsH Tryz.prog 139 [ptr xb, .string key, .int .i64 1] h
    (Ret fun r h' => (∃ pv lw rv, r = .tuple #[.agg ⟨cellsT ((getS (k.map RX.pr) key now).getD zeroT) pv lw rv⟩, .bool (getS (k.map RX.pr) key now).isSome, .bool (okT (getS (k.map RX.pr) key now))] ∧ ∀ u ∈ cellsT ((getS (k.map RX.pr) key now).getD zeroT) pv lw rv, u.oneCell' = true) ∧
      RxO h0 h (rxE xb kv now av lv L why) h' (rxE xb kv now av lv L (if okT (getS (k.map RX.pr) key now) = true then why else wType))) := by
  refine f139_calls (by simp) ?_
  intro b6 h1 g1
  have w := x.st.new g1
  refine w.ldr 1 rfl rfl ?_
  refine w.ldr 1 rfl rfl ?_
  refine get_twoR w (c.getS (x.base w) key hk) [(0, ptr xb), (1, .string key), (2, .int .i64 1), (6, ptr b6)] rfl rfl rfl ⟨rfl, rfl, rfl, rfl, trivial⟩ rfl (mono_at mono_retQ) fun h2 b9 pv lw rv w hone => ?_
  generalize getS (k.map RX.pr) key now = go at w hone ⊢
  cases go with
  | none =>
    refine w.ldw 0 rfl rfl ?_
    refine w.st3 1 rfl rfl rfl hone fun h3 w => ?_
    exact ⟨_, rfl, cells_blk (w.get 1 rfl), ⟨_, _, _, rfl, hone⟩, x.out w 2 rfl⟩
  | some t =>
    refine w.ld1 0 rfl rfl ?_
    refine And.intro rfl (And.intro (fun h1 => ?_) (fun h1 => ?_))
    · have hn : okT (some t) = false := decide_eq_false h1
      rw [hn]
      refine w.stw 2 rfl fun h3 w => ?_
      refine w.ldw 0 rfl rfl ?_
      refine w.st3 1 rfl rfl rfl hone fun h4 w => ?_
      exact ⟨_, rfl, cells_blk (w.get 1 rfl), ⟨_, _, _, rfl, hone⟩, x.out w 2 rfl⟩
    · have hn : okT (some t) = true := decide_eq_true (Classical.not_not.1 h1)
      rw [hn]
      refine w.ldw 0 rfl rfl ?_
      refine w.st3 1 rfl rfl rfl hone fun h4 w => ?_
      exact ⟨_, rfl, cells_blk (w.get 1 rfl), ⟨_, _, _, rfl, hone⟩, x.out w 2 rfl⟩
end

end Go.Proofs.YtgmkldaonkbjgaaGreatDoor
namespace Go.Proofs.YtgmkldaonkbjgaaGreatDoor
open Go Go.Sx Go.Proofs.YtgmkldaonkbjgaaGreatDoor.C

theorem mv_two {P : Program} {F : List PanicEntry → Heap → Prop} {x y : Operand} {d e : Nat} {c : SCode} {Q : Post} {σ : Env} {ds : List Deferred} {h : Heap} {v u : Value} (he : ev σ x = some v) (hf : ev (upd σ (some d) v) y = some u) (hs : swp P c Q (upd (upd σ (some d) v) (some e) u) ds h) :
    sops P F (fun σ' h' => thenQ (swp P c Q) Q .normal σ' ds h') [⟨some d, none, .mv x⟩, ⟨some e, none, .mv y⟩] σ h := by
  simp only [sops, sopr, sop, he, hf]
  exact hs

def Jd (res : Res) (q : Rep) (E : List Eff) (why : ByteArray) : Prop := (why = noText ∧ res = .ok (q, E)) ∨ (why ≠ noText ∧ res = .error why)

section
variable {h0 h h1 h' : Heap} {xb i : Nat} {now n : Int} {kv av lv : Value} {k : List RX} {A : List ByteArray} {L : List Eff} {why key s : ByteArray} {M : List En} {T : List Nat} {e e' : En} {res : Res}

def ReplyR (h0 h : Heap) (xb : Nat) (kv : Value) (now : Int) (av lv : Value) (res : Res) (r : Value) (h' : Heap) : Prop :=
  ∃ q lv' E why, RepAt h.size h' r q ∧ RxO h0 h (rxE xb kv now av lv [] noText) h' (rxE xb kv now av lv' E why) ∧ Jd res q E why

theorem rep_at {z a i : Int} {s : ByteArray} {zz : Nat} : RepAt zz h (.agg ⟨[.int .i64 a, .int .i64 i, .string s, .slice none 0 0]⟩) (rep a i s) := ⟨none, 0, 0, rfl, SL.nil, fun b hb => (nomatch (show b ∈ ([] : List Nat) from hb))⟩

theorem ReplyR.fin {b4 j : Nat} {a m : Int} {lv' : Value} {E : List Eff} (x : As h0 h (rxE xb kv now av lv [] noText)) (w : St (xb :: vblk lv) h h' M) (i j : Nat) (hi : M[i]? = some (.b b4 [.int .i64 a, .int .i64 m, .string s, .slice none 0 0])) (hj : M[j]? = some (rxE xb kv now av lv' E why))
    (hd : Jd res (rep a m s) E why) : ∃ vs, vs.length = 4 ∧ Cells h' b4 0 vs ∧ ReplyR h0 h xb kv now av lv res (.agg ⟨vs⟩) h' :=
  ⟨_, rfl, cells_blk (w.get i hi), rep a m s, lv', E, why, rep_at (z := 0), x.out w j hj, hd⟩

theorem Jd.ok {q : Rep} {E : List Eff} (h : res = .ok (q, E)) : Jd res q E noText := .inl ⟨rfl, h⟩
theorem Jd.no {q : Rep} {E : List Eff} (hw : why ≠ noText) (h : res = .error why) : Jd res q E why := .inr ⟨hw, h⟩

set_option maxHeartbeats 1000000 in
theorem rby_calls (c : RC h0 kv k av A) (x : As h0 h (rxE xb kv now av lv [] noText)) (hA : A[0]? = some key) (hk : key.size < 281474976710656) (hn : In64 n) (hl : LaidN h0) (hT : TextS (k.map RX.pr)) : CallsH Tryz.prog 88 [ptr xb, .int .i64 n] h
    (Ret (ReplyR h0 h xb kv now av lv (gBy (k.map RX.pr) key now n (getS (k.map RX.pr) key now)))) := by
  obtain ⟨b, o, cc, rfl⟩ := c.argF (List.getElem?_eq_some_iff.1 hA).1
  refine f88_calls (by simp) ?_
  intro b4 h1 g1
  have w := x.st.new g1
  refine w.ldr 1 rfl rfl ?_
  refine c.ix (x.base w) 0 rfl hA ?_
  refine call_ret (rthing_calls c (x.out w 1 rfl).1 (by omega)) ?_
  rintro _ h2 ⟨⟨pv, lw, rv, rfl, hone⟩, _, o2⟩
  have w := w.own 1 rfl o2
  obtain ⟨go, hgo⟩ : ∃ go, go = getS (k.map RX.pr) key now := ⟨_, rfl⟩
  rw [← hgo] at hone w ⊢
  intro b5 h3 g3
  have w := w.new g3
  refine w.st3 0 rfl rfl rfl hone fun h4 w => ?_
  have hsz : (by0 go).size < 281474976710656 := by
    cases go with
    | none => decide
    | some t => exact getS_text hT hgo.symm
  -- what stands behind the number
  have rest : ∀ {h5 : Heap} {m : Int}, numOf (by0 go) = some m → okT go = true → St (xb :: vblk lv) h h5 [.b b5 (cellsT (go.getD zeroT) pv lw rv), .b b4 [.int .i64 0, .int .i64 0, .string ⟨#[]⟩, .slice none 0 0], rxE xb kv now (.slice (some ⟨b, o, none⟩) A.length cc) lv [] noText] →
      swp Tryz.prog (.seq (.ops f88r10) (.seq (.seq (.ops f88r11) (.cond (.tmp 44) (.ops f88r12) .skip)) (.seq (.ops f88r13) .ret))) (retQ [.cn 4 4] (Ret (ReplyR h0 h xb kv now (.slice (some ⟨b, o, none⟩) A.length cc) lv (gBy (k.map RX.pr) key now n go)))) (mk [(0, ptr xb), (1, .int .i64 n), (4, ptr b4), (8, .int .i64 m)]) [] h5 := by
    intro h5 m hm hok w
    rw [show gBy (k.map RX.pr) key now n go = byStep (k.map RX.pr) key now n (by0 go) from if_pos hok]
    refine call_ret (rplus_calls (numOf_in hm) hn (x.out w 2 rfl).1) ?_
    rintro _ h6 (⟨ho, rfl, _, o6⟩ | ⟨ho, rfl, _, o6⟩)
    · have w := w.own 2 rfl o6
      rw [byStep_ok hm ho]
      refine w.ldr 2 rfl rfl ?_
      refine c.ix (x.base w) 0 rfl hA ?_
      refine w.callqv (format_calls (hl.ext (x.base w)) ho.1 ho.2) fun h7 w => ?_
      refine call_ret (rput_calls c (x.out w 2 rfl).1 (by omega) (by simp)) ?_
      rintro _ h8 (⟨fit, rfl, lv2, _, o8⟩ | ⟨fit, rfl, _, o8⟩)
      · have w := w.own 2 rfl o8
        refine w.callv rInt_calls fun h9 w => ?_
        refine w.st1 1 rfl rfl rfl rfl fun h10 w => ?_
        exact ReplyR.fin (j := 0) x w 1 2 rfl rfl (Jd.ok (if_pos fit))
      · have w := w.own 2 rfl o8
        refine w.callv rInt_calls fun h9 w => ?_
        refine w.st1 1 rfl rfl rfl rfl fun h10 w => ?_
        exact ReplyR.fin (j := 0) x w 1 2 rfl rfl (Jd.no (by decide) (if_neg fit))
    · have w := w.own 2 rfl o6
      rw [byStep_over hm ho]
      refine w.callv rInt_calls fun h9 w => ?_
      refine w.st1 1 rfl rfl rfl rfl fun h10 w => ?_
      exact ReplyR.fin (j := 0) x w 1 2 rfl rfl (Jd.no (by decide) rfl)
  cases hok : okT go with
  | false =>
    rw [hok] at w
    refine w.st1 1 rfl rfl rfl rfl fun h5 w => ?_
    exact ReplyR.fin (j := 0) x w 1 2 rfl rfl (Jd.no (why := wType) (by decide) (if_neg (by rw [hok]; decide)))
  | true =>
    rw [hok] at w
    refine mv_two (v := .bool go.isSome) (u := .bool true) ?_ ?_ ?_
    · exact rfl
    · exact rfl
    refine cut_at [(0, ptr xb), (1, .int .i64 n), (4, ptr b4), (5, ptr b5), (6, .bool go.isSome), (7, .bool true)] ⟨rfl, rfl, rfl, rfl, rfl, rfl, trivial⟩ ?_
    refine ass_go ?_
    refine not_go (v := true) rfl rfl ?_
    refine cnd_go (t := false) rfl ?_
    refine skp_go ?_
    refine mv_go (v := .int .i64 0) rfl ?_
    refine ass_go ?_
    refine mv_go (v := .bool go.isSome) rfl ?_
    refine cnd_go (t := go.isSome) rfl ?_
    cases go with
    | none =>
      refine skp_go ?_
      exact cut_at [(0, ptr xb), (1, .int .i64 n), (4, ptr b4), (8, .int .i64 0)] ⟨rfl, rfl, rfl, rfl, trivial⟩ (rest (m := 0) (by kernel_rfl) hok w)
    | some t =>
      refine ass_go ?_
      refine w.ld1 0 rfl rfl ?_
      refine callp (rnum8_calls (s := t.text) (by have : t.text.size < 281474976710656 := hsz; omega)) ?_
      obtain ⟨u, hu⟩ : ∃ u, u = numOf t.text := ⟨_, rfl⟩
      rw [← hu]
      refine cut_at [(0, ptr xb), (1, .int .i64 n), (4, ptr b4), (7, .bool u.isSome), (8, .int .i64 (u.getD 0))] ⟨rfl, rfl, rfl, rfl, rfl, trivial⟩ ?_
      refine ass_go ?_
      refine not_go (v := u.isSome) rfl rfl ?_
      refine cnd_go (t := !u.isSome) rfl ?_
      cases u with
      | none =>
        refine w.stw 2 rfl fun h5 w => ?_
        refine w.st1 1 rfl rfl rfl rfl fun h6 w => ?_
        refine ReplyR.fin (j := 0) x w 1 2 rfl rfl (Jd.no (why := wNum) (by decide) ?_)
        rw [show gBy (k.map RX.pr) key now n (some t) = byStep (k.map RX.pr) key now n t.text from if_pos hok]
        exact byStep_none hu.symm
      | some m =>
        refine skp_go ?_
        exact cut_at [(0, ptr xb), (1, .int .i64 n), (4, ptr b4), (8, .int .i64 m)] ⟨rfl, rfl, rfl, rfl, trivial⟩ (rest (m := m) hu.symm hok w)

def nGET : ByteArray := ⟨#[71, 69, 84]⟩
def nLEN : ByteArray := ⟨#[83, 84, 82, 76, 69, 78]⟩
def nAPP : ByteArray := ⟨#[65, 80, 80, 69, 78, 68]⟩

theorem rget_calls (c : RC h0 kv k av A) (x : As h0 h (rxE xb kv now av lv [] noText)) (hA : A = [key]) (hk : key.size < 281474976710656) : CallsH Tryz.prog 83 [ptr xb, .string nGET] h
    (Ret (ReplyR h0 h xb kv now av lv (cGet (k.map RX.pr) now A))) := by
  subst hA
  obtain ⟨b, o, cc, rfl⟩ := c.argF (by simp)
  refine f83_calls (by simp) ?_
  intro b4 h1 g1
  have w := x.st.new g1
  refine w.ldr 1 rfl rfl ?_
  refine c.ix (x.base w) 0 rfl rfl ?_
  refine call_ret (rthing_calls c (x.out w 1 rfl).1 (by omega)) ?_
  rintro _ h2 ⟨⟨pv, lw, rv, rfl, hone⟩, _, o2⟩
  have w := w.own 1 rfl o2
  rw [show cGet (k.map RX.pr) now [key] = gGet (getS (k.map RX.pr) key now) from rfl]
  generalize getS (k.map RX.pr) key now = go at hone w ⊢
  intro b5 h3 g3
  have w := w.new g3
  refine w.st3 0 rfl rfl rfl hone fun h4 w => ?_
  cases go with
  | none =>
    refine And.intro (fun h9 => absurd h9 (by decide)) (fun _ => ?_)
    refine And.intro (fun h9 => absurd h9 (by decide)) (fun _ => ?_)
    refine w.st1 1 rfl rfl rfl rfl fun h5 w => ?_
    exact ReplyR.fin (j := 0) x w 1 2 rfl rfl (Jd.ok rfl)
  | some t =>
    cases hok : okT (some t) with
    | false =>
      rw [hok] at w
      refine w.st1 1 rfl rfl rfl rfl fun h5 w => ?_
      exact ReplyR.fin (j := 0) x w 1 2 rfl rfl (Jd.no (why := wType) (by decide) (gGet_no (of_decide_eq_false hok)))
    | true =>
      rw [hok] at w
      refine And.intro (fun h9 => absurd h9 (by decide)) (fun _ => ?_)
      refine And.intro (fun h9 => absurd h9 (by decide)) (fun _ => ?_)
      refine w.ld1 0 rfl rfl ?_
      refine w.callv rText_calls fun h5 w => ?_
      refine w.st1 1 rfl rfl rfl rfl fun h6 w => ?_
      exact ReplyR.fin (j := 0) x w 1 2 rfl rfl (Jd.ok (gGet_yes (of_decide_eq_true hok)))

theorem rlen_calls (c : RC h0 kv k av A) (x : As h0 h (rxE xb kv now av lv [] noText)) (hA : A = [key]) (hk : key.size < 281474976710656) : CallsH Tryz.prog 83 [ptr xb, .string nLEN] h
    (Ret (ReplyR h0 h xb kv now av lv (cLong (k.map RX.pr) now A))) := by
  subst hA
  obtain ⟨b, o, cc, rfl⟩ := c.argF (by simp)
  refine f83_calls (by simp) ?_
  intro b4 h1 g1
  have w := x.st.new g1
  refine w.ldr 1 rfl rfl ?_
  refine c.ix (x.base w) 0 rfl rfl ?_
  refine call_ret (rthing_calls c (x.out w 1 rfl).1 (by omega)) ?_
  rintro _ h2 ⟨⟨pv, lw, rv, rfl, hone⟩, _, o2⟩
  have w := w.own 1 rfl o2
  rw [show cLong (k.map RX.pr) now [key] = gLong (getS (k.map RX.pr) key now) from rfl]
  generalize getS (k.map RX.pr) key now = go at hone w ⊢
  intro b5 h3 g3
  have w := w.new g3
  refine w.st3 0 rfl rfl rfl hone fun h4 w => ?_
  cases hok : okT go with
  | false =>
    rw [hok] at w
    refine w.st1 1 rfl rfl rfl rfl fun h5 w => ?_
    exact ReplyR.fin (j := 0) x w 1 2 rfl rfl (Jd.no (why := wType) (by decide) (if_neg (by rw [hok]; decide)))
  | true =>
    rw [hok] at w
    refine And.intro (fun _ => ?_) (fun h9 => absurd rfl h9)
    refine w.ld1 0 rfl rfl ?_
    refine w.callv rInt_calls fun h5 w => ?_
    refine w.st1 1 rfl rfl rfl rfl fun h6 w => ?_
    exact ReplyR.fin (j := 0) x w 1 2 rfl rfl (Jd.ok (if_pos hok))

theorem rapp_calls {a : ByteArray} (c : RC h0 kv k av A) (x : As h0 h (rxE xb kv now av lv [] noText)) (hA : A = [key, a]) (hk : key.size < 281474976710656) (ha : a.size < 281474976710656) (hT : TextS (k.map RX.pr)) : CallsH Tryz.prog 83 [ptr xb, .string nAPP] h
    (Ret (ReplyR h0 h xb kv now av lv (cMore (k.map RX.pr) now A))) := by
  subst hA
  obtain ⟨b, o, cc, rfl⟩ := c.argF (by simp)
  refine f83_calls (by simp) ?_
  intro b4 h1 g1
  have w := x.st.new g1
  refine w.ldr 1 rfl rfl ?_
  refine c.ix (x.base w) 0 rfl rfl ?_
  refine call_ret (rthing_calls c (x.out w 1 rfl).1 (by omega)) ?_
  rintro _ h2 ⟨⟨pv, lw, rv, rfl, hone⟩, _, o2⟩
  have w := w.own 1 rfl o2
  rw [show cMore (k.map RX.pr) now [key, a] = gMore (k.map RX.pr) key a now (getS (k.map RX.pr) key now) from rfl]
  obtain ⟨go, hgo⟩ : ∃ go, go = getS (k.map RX.pr) key now := ⟨_, rfl⟩
  rw [← hgo] at hone w ⊢
  have hz := go_text hT hgo
  intro b5 h3 g3
  have w := w.new g3
  refine w.st3 0 rfl rfl rfl hone fun h4 w => ?_
  cases hok : okT go with
  | false =>
    rw [hok] at w
    refine w.st1 1 rfl rfl rfl rfl fun h5 w => ?_
    exact ReplyR.fin (j := 0) x w 1 2 rfl rfl (Jd.no (why := wType) (by decide) (if_neg (by rw [hok]; decide)))
  | true =>
    rw [hok] at w
    rw [show gMore (k.map RX.pr) key a now go = putR (k.map RX.pr) key ((go.getD zeroT).text ++ a) now true (rep 3 ((go.getD zeroT).text.size + a.size) noText) from if_pos hok]
    refine And.intro (fun h9 => absurd h9 (by decide)) (fun _ => ?_)
    refine And.intro (fun _ => ?_) (fun h9 => absurd rfl h9)
    refine w.ldr 2 rfl rfl ?_
    refine c.ix (x.base w) 0 rfl rfl ?_
    refine w.ld1 0 rfl rfl ?_
    refine w.ldr 2 rfl rfl ?_
    refine c.ix (x.base w) 1 rfl rfl ?_
    refine And.intro (by show (go.getD zeroT).text.size + a.size < _; omega) ?_
    refine call_ret (rput_calls c (x.out w 2 rfl).1 (by omega) (by simp)) ?_
    rintro _ h8 (⟨fit, rfl, lv2, _, o8⟩ | ⟨fit, rfl, _, o8⟩)
    · have w := w.own 2 rfl o8
      refine w.ld1 0 rfl rfl ?_
      refine w.ldr 2 rfl rfl ?_
      refine c.ix (x.base w) 1 rfl rfl ?_
      refine And.intro rfl (fun z hz9 => ?_)
      have hz9 := add_in hz9 (by omega) (by omega)
      subst hz9
      refine w.callv rInt_calls fun h9 w => ?_
      refine w.st1 1 rfl rfl rfl rfl fun h10 w => ?_
      exact ReplyR.fin (j := 0) x w 1 2 rfl rfl (Jd.ok (if_pos fit))
    · have w := w.own 2 rfl o8
      refine w.ld1 0 rfl rfl ?_
      refine w.ldr 2 rfl rfl ?_
      refine c.ix (x.base w) 1 rfl rfl ?_
      refine And.intro rfl (fun z hz9 => ?_)
      have hz9 := add_in hz9 (by omega) (by omega)
      subst hz9
      refine w.callv rInt_calls fun h9 w => ?_
      refine w.st1 1 rfl rfl rfl rfl fun h10 w => ?_
      exact ReplyR.fin (j := 0) x w 1 2 rfl rfl (Jd.no (by decide) (if_neg fit))
end

end Go.Proofs.YtgmkldaonkbjgaaGreatDoor
namespace Go.Proofs.YtgmkldaonkbjgaaGreatDoor
open Go Go.Sx Go.Proofs.YtgmkldaonkbjgaaGreatDoor.C

def nIBY : ByteArray := ⟨#[73, 78, 67, 82, 66, 89]⟩
def nINC : ByteArray := ⟨#[73, 78, 67, 82]⟩
def nDEC : ByteArray := ⟨#[68, 69, 67, 82]⟩

def BoundR (N : ByteArray) (lo hi : Int) : Prop := ∀ h, CallsH Tryz.prog 35 [.string N] h (Ret fun r h' => r = .tuple #[.int .i64 lo, .int .i64 hi, .bool true] ∧ h' = h)
theorem rbounds_nGET : BoundR nGET 1 1 := fun h => by
  refine f35_calls (by simp) ?_
  refine And.intro (fun h9 => absurd h9 (by decide)) (fun _ => ?_)
  refine And.intro (fun _ => ?_) (fun h9 => absurd rfl h9)
  exact ⟨rfl, rfl⟩
theorem rbounds_nLEN : BoundR nLEN 1 1 := fun h => by
  refine f35_calls (by simp) ?_
  refine And.intro (fun h9 => absurd h9 (by decide)) (fun _ => ?_)
  refine And.intro (fun h9 => absurd h9 (by decide)) (fun _ => ?_)
  refine And.intro (fun h9 => absurd h9 (by decide)) (fun _ => ?_)
  refine And.intro (fun h9 => absurd h9 (by decide)) (fun _ => ?_)
  refine And.intro (fun h9 => absurd h9 (by decide)) (fun _ => ?_)
  refine And.intro (fun _ => ?_) (fun h9 => absurd rfl h9)
  exact ⟨rfl, rfl⟩
theorem rbounds_nAPP : BoundR nAPP 2 2 := fun h => by
  refine f35_calls (by simp) ?_
  refine And.intro (fun h9 => absurd h9 (by decide)) (fun _ => ?_)
  refine And.intro (fun h9 => absurd h9 (by decide)) (fun _ => ?_)
  refine And.intro (fun h9 => absurd h9 (by decide)) (fun _ => ?_)
  refine And.intro (fun h9 => absurd h9 (by decide)) (fun _ => ?_)
  refine And.intro (fun h9 => absurd h9 (by decide)) (fun _ => ?_)
  refine And.intro (fun h9 => absurd h9 (by decide)) (fun _ => ?_)
  refine And.intro (fun h9 => absurd h9 (by decide)) (fun _ => ?_)
  refine And.intro (fun h9 => absurd h9 (by decide)) (fun _ => ?_)
  refine And.intro (fun h9 => absurd h9 (by decide)) (fun _ => ?_)
  refine And.intro (fun h9 => absurd h9 (by decide)) (fun _ => ?_)
  refine And.intro (fun h9 => absurd h9 (by decide)) (fun _ => ?_)
  refine And.intro (fun h9 => absurd h9 (by decide)) (fun _ => ?_)
  refine And.intro (fun h9 => absurd h9 (by decide)) (fun _ => ?_)
  refine And.intro (fun _ => ?_) (fun h9 => absurd rfl h9)
  exact ⟨rfl, rfl⟩
theorem rbounds_nIBY : BoundR nIBY 2 2 := fun h => by
  refine f35_calls (by simp) ?_
  refine And.intro (fun h9 => absurd h9 (by decide)) (fun _ => ?_)
  refine And.intro (fun h9 => absurd h9 (by decide)) (fun _ => ?_)
  refine And.intro (fun h9 => absurd h9 (by decide)) (fun _ => ?_)
  refine And.intro (fun h9 => absurd h9 (by decide)) (fun _ => ?_)
  refine And.intro (fun h9 => absurd h9 (by decide)) (fun _ => ?_)
  refine And.intro (fun h9 => absurd h9 (by decide)) (fun _ => ?_)
  refine And.intro (fun h9 => absurd h9 (by decide)) (fun _ => ?_)
  refine And.intro (fun h9 => absurd h9 (by decide)) (fun _ => ?_)
  refine And.intro (fun h9 => absurd h9 (by decide)) (fun _ => ?_)
  refine And.intro (fun h9 => absurd h9 (by decide)) (fun _ => ?_)
  refine And.intro (fun h9 => absurd h9 (by decide)) (fun _ => ?_)
  refine And.intro (fun h9 => absurd h9 (by decide)) (fun _ => ?_)
  refine And.intro (fun _ => ?_) (fun h9 => absurd rfl h9)
  exact ⟨rfl, rfl⟩
theorem rbounds_nINC : BoundR nINC 1 1 := fun h => by
  refine f35_calls (by simp) ?_
  refine And.intro (fun h9 => absurd h9 (by decide)) (fun _ => ?_)
  refine And.intro (fun h9 => absurd h9 (by decide)) (fun _ => ?_)
  refine And.intro (fun h9 => absurd h9 (by decide)) (fun _ => ?_)
  refine And.intro (fun _ => ?_) (fun h9 => absurd rfl h9)
  exact ⟨rfl, rfl⟩
theorem rbounds_nDEC : BoundR nDEC 1 1 := fun h => by
  refine f35_calls (by simp) ?_
  refine And.intro (fun h9 => absurd h9 (by decide)) (fun _ => ?_)
  refine And.intro (fun h9 => absurd h9 (by decide)) (fun _ => ?_)
  refine And.intro (fun h9 => absurd h9 (by decide)) (fun _ => ?_)
  refine And.intro (fun h9 => absurd h9 (by decide)) (fun _ => ?_)
  refine And.intro (fun _ => ?_) (fun h9 => absurd rfl h9)
  exact ⟨rfl, rfl⟩

section
variable {h0 h : Heap} {xb : Nat} {now : Int} {kv av lv : Value} {k : List RX} {A : List ByteArray} {key s : ByteArray}
theorem rreply_nGET (c : RC h0 kv k av A) (x : As h0 h (rxE xb kv now av lv [] noText)) (hA : A = [key]) (hk : key.size < 281474976710656) : CallsH Tryz.prog 38 [ptr xb, .string nGET] h (Ret (ReplyR h0 h xb kv now av lv (cGet (k.map RX.pr) now A))) := by
  refine f38_calls (by simp) ?_
  intro b4 h1 g1
  have i1 := g1.id
  have z1 := g1.size
  have w := x.st.new g1
  refine And.intro (fun h9 => absurd h9 (by decide)) (fun _ => ?_)
  refine And.intro (fun _ => ?_) (fun h9 => absurd rfl h9)
  refine call_ret (rget_calls c (x.out w 1 rfl).1 hA hk) ?_
  rintro _ h3 ⟨q, lv', E, why, ⟨ra, rn, rc, rfl, sl, fr⟩, ⟨_, o3⟩, hd⟩
  have w := w.own 1 rfl o3
  refine w.st2 0 rfl rfl rfl rfl fun h4 w k4 => ?_
  exact ⟨_, rfl, cells_blk (w.get 0 rfl), q, lv', E, why, ⟨ra, rn, rc, rfl, sl.chg k4 (fun b hb => by have := fr b hb; simp; omega), fun b hb => by have := fr b hb; omega⟩, x.out w 1 rfl, hd⟩
theorem rreply_nLEN (c : RC h0 kv k av A) (x : As h0 h (rxE xb kv now av lv [] noText)) (hA : A = [key]) (hk : key.size < 281474976710656) : CallsH Tryz.prog 38 [ptr xb, .string nLEN] h (Ret (ReplyR h0 h xb kv now av lv (cLong (k.map RX.pr) now A))) := by
  refine f38_calls (by simp) ?_
  intro b4 h1 g1
  have i1 := g1.id
  have z1 := g1.size
  have w := x.st.new g1
  refine And.intro (fun h9 => absurd h9 (by decide)) (fun _ => ?_)
  refine And.intro (fun h9 => absurd h9 (by decide)) (fun _ => ?_)
  refine And.intro (fun _ => ?_) (fun h9 => absurd rfl h9)
  refine call_ret (rlen_calls c (x.out w 1 rfl).1 hA hk) ?_
  rintro _ h3 ⟨q, lv', E, why, ⟨ra, rn, rc, rfl, sl, fr⟩, ⟨_, o3⟩, hd⟩
  have w := w.own 1 rfl o3
  refine w.st2 0 rfl rfl rfl rfl fun h4 w k4 => ?_
  exact ⟨_, rfl, cells_blk (w.get 0 rfl), q, lv', E, why, ⟨ra, rn, rc, rfl, sl.chg k4 (fun b hb => by have := fr b hb; simp; omega), fun b hb => by have := fr b hb; omega⟩, x.out w 1 rfl, hd⟩
theorem rreply_nAPP (c : RC h0 kv k av A) (x : As h0 h (rxE xb kv now av lv [] noText)) (hA : A = [key, s]) (hk : key.size < 281474976710656) (ha : s.size < 281474976710656) (hT : TextS (k.map RX.pr)) : CallsH Tryz.prog 38 [ptr xb, .string nAPP] h (Ret (ReplyR h0 h xb kv now av lv (cMore (k.map RX.pr) now A))) := by
  refine f38_calls (by simp) ?_
  intro b4 h1 g1
  have i1 := g1.id
  have z1 := g1.size
  have w := x.st.new g1
  refine And.intro (fun h9 => absurd h9 (by decide)) (fun _ => ?_)
  refine And.intro (fun h9 => absurd h9 (by decide)) (fun _ => ?_)
  refine And.intro (fun h9 => absurd h9 (by decide)) (fun _ => ?_)
  refine And.intro (fun _ => ?_) (fun h9 => absurd rfl h9)
  refine call_ret (rapp_calls c (x.out w 1 rfl).1 hA hk ha hT) ?_
  rintro _ h3 ⟨q, lv', E, why, ⟨ra, rn, rc, rfl, sl, fr⟩, ⟨_, o3⟩, hd⟩
  have w := w.own 1 rfl o3
  refine w.st2 0 rfl rfl rfl rfl fun h4 w k4 => ?_
  exact ⟨_, rfl, cells_blk (w.get 0 rfl), q, lv', E, why, ⟨ra, rn, rc, rfl, sl.chg k4 (fun b hb => by have := fr b hb; simp; omega), fun b hb => by have := fr b hb; omega⟩, x.out w 1 rfl, hd⟩
theorem rreply_nINC (c : RC h0 kv k av A) (x : As h0 h (rxE xb kv now av lv [] noText)) (hA : A = [key]) (hk : key.size < 281474976710656) (hl : LaidN h0) (hT : TextS (k.map RX.pr)) : CallsH Tryz.prog 38 [ptr xb, .string nINC] h (Ret (ReplyR h0 h xb kv now av lv (cStep (k.map RX.pr) now 1 A))) := by
  subst hA
  rw [show cStep (k.map RX.pr) now 1 [key] = gBy (k.map RX.pr) key now 1 (getS (k.map RX.pr) key now) from rfl]
  refine f38_calls (by simp) ?_
  intro b4 h1 g1
  have i1 := g1.id
  have z1 := g1.size
  have w := x.st.new g1
  refine And.intro (fun h9 => absurd h9 (by decide)) (fun _ => ?_)
  refine And.intro (fun h9 => absurd h9 (by decide)) (fun _ => ?_)
  refine And.intro (fun h9 => absurd h9 (by decide)) (fun _ => ?_)
  refine And.intro (fun h9 => absurd h9 (by decide)) (fun _ => ?_)
  refine And.intro (fun h9 => absurd h9 (by decide)) (fun _ => ?_)
  refine And.intro (fun h9 => absurd h9 (by decide)) (fun _ => ?_)
  refine And.intro (fun h9 => absurd h9 (by decide)) (fun _ => ?_)
  refine And.intro (fun h9 => absurd h9 (by decide)) (fun _ => ?_)
  refine And.intro (fun _ => ?_) (fun h9 => absurd rfl h9)
  refine call_ret (rby_calls c (x.out w 1 rfl).1 rfl hk ⟨by decide, by decide⟩ hl hT) ?_
  rintro _ h3 ⟨q, lv', E, why, ⟨ra, rn, rc, rfl, sl, fr⟩, ⟨_, o3⟩, hd⟩
  have w := w.own 1 rfl o3
  refine w.st2 0 rfl rfl rfl rfl fun h4 w k4 => ?_
  exact ⟨_, rfl, cells_blk (w.get 0 rfl), q, lv', E, why, ⟨ra, rn, rc, rfl, sl.chg k4 (fun b hb => by have := fr b hb; simp; omega), fun b hb => by have := fr b hb; omega⟩, x.out w 1 rfl, hd⟩
theorem rreply_nDEC (c : RC h0 kv k av A) (x : As h0 h (rxE xb kv now av lv [] noText)) (hA : A = [key]) (hk : key.size < 281474976710656) (hl : LaidN h0) (hT : TextS (k.map RX.pr)) : CallsH Tryz.prog 38 [ptr xb, .string nDEC] h (Ret (ReplyR h0 h xb kv now av lv (cStep (k.map RX.pr) now (-1) A))) := by
  subst hA
  rw [show cStep (k.map RX.pr) now (-1) [key] = gBy (k.map RX.pr) key now (-1) (getS (k.map RX.pr) key now) from rfl]
  refine f38_calls (by simp) ?_
  intro b4 h1 g1
  have i1 := g1.id
  have z1 := g1.size
  have w := x.st.new g1
  refine And.intro (fun h9 => absurd h9 (by decide)) (fun _ => ?_)
  refine And.intro (fun h9 => absurd h9 (by decide)) (fun _ => ?_)
  refine And.intro (fun h9 => absurd h9 (by decide)) (fun _ => ?_)
  refine And.intro (fun h9 => absurd h9 (by decide)) (fun _ => ?_)
  refine And.intro (fun h9 => absurd h9 (by decide)) (fun _ => ?_)
  refine And.intro (fun h9 => absurd h9 (by decide)) (fun _ => ?_)
  refine And.intro (fun h9 => absurd h9 (by decide)) (fun _ => ?_)
  refine And.intro (fun h9 => absurd h9 (by decide)) (fun _ => ?_)
  refine And.intro (fun h9 => absurd h9 (by decide)) (fun _ => ?_)
  refine And.intro (fun _ => ?_) (fun h9 => absurd rfl h9)
  refine call_ret (rby_calls c (x.out w 1 rfl).1 rfl hk ⟨by decide, by decide⟩ hl hT) ?_
  rintro _ h3 ⟨q, lv', E, why, ⟨ra, rn, rc, rfl, sl, fr⟩, ⟨_, o3⟩, hd⟩
  have w := w.own 1 rfl o3
  refine w.st2 0 rfl rfl rfl rfl fun h4 w k4 => ?_
  exact ⟨_, rfl, cells_blk (w.get 0 rfl), q, lv', E, why, ⟨ra, rn, rc, rfl, sl.chg k4 (fun b hb => by have := fr b hb; simp; omega), fun b hb => by have := fr b hb; omega⟩, x.out w 1 rfl, hd⟩
theorem rreply_nIBY (c : RC h0 kv k av A) (x : As h0 h (rxE xb kv now av lv [] noText)) (hA : A = [key, s]) (hk : key.size < 281474976710656) (hs : s.size < 281474976710656) (hl : LaidN h0) (hT : TextS (k.map RX.pr)) : CallsH Tryz.prog 38 [ptr xb, .string nIBY] h (Ret (ReplyR h0 h xb kv now av lv (cIncrby (k.map RX.pr) now A))) := by
  subst hA
  rw [show cIncrby (k.map RX.pr) now [key, s] = gIncr (k.map RX.pr) key now (numOf s) from rfl]
  refine f38_calls (by simp) ?_
  intro b4 h1 g1
  have i1 := g1.id
  have z1 := g1.size
  have w := x.st.new g1
  refine And.intro (fun h9 => absurd h9 (by decide)) (fun _ => ?_)
  refine And.intro (fun h9 => absurd h9 (by decide)) (fun _ => ?_)
  refine And.intro (fun h9 => absurd h9 (by decide)) (fun _ => ?_)
  refine And.intro (fun h9 => absurd h9 (by decide)) (fun _ => ?_)
  refine And.intro (fun h9 => absurd h9 (by decide)) (fun _ => ?_)
  refine And.intro (fun h9 => absurd h9 (by decide)) (fun _ => ?_)
  refine And.intro (fun h9 => absurd h9 (by decide)) (fun _ => ?_)
  refine And.intro (fun _ => ?_) (fun h9 => absurd rfl h9)
  refine call_ret (rnumA_calls (j := 1) (s := s) c (x.out w 1 rfl).1 rfl (by omega)) ?_
  rintro _ h2 ⟨rfl, _, o2⟩
  have w := w.own 1 rfl o2
  have z2 := w.size
  obtain ⟨u, hu⟩ : ∃ u, u = numOf s := ⟨_, rfl⟩
  rw [← hu] at w ⊢
  cases u with
  | none =>
    refine w.st1 0 rfl rfl rfl rfl fun h6 w => ?_
    exact ReplyR.fin (j := 0) x w 0 1 rfl rfl (Jd.no (why := wNum) (by decide) rfl)
  | some n =>
    have z12 : h1.size ≤ h2.size := o2.chg.size
    rw [show gIncr (k.map RX.pr) key now (some n) = gBy (k.map RX.pr) key now n (getS (k.map RX.pr) key now) from rfl]
    refine call_ret (rby_calls c (x.out w 1 rfl).1 rfl hk (numOf_in hu.symm) hl hT) ?_
    rintro _ h3 ⟨q, lv', E, why, ⟨ra, rn, rc, rfl, sl, fr⟩, ⟨_, o3⟩, hd⟩
    have w := w.own 1 rfl o3
    refine w.st2 0 rfl rfl rfl rfl fun h4 w k4 => ?_
    exact ⟨_, rfl, cells_blk (w.get 0 rfl), q, lv', E, why, ⟨ra, rn, rc, rfl, sl.chg k4 (fun b hb => by have := fr b hb; simp; omega), fun b hb => by have := fr b hb; omega⟩, x.out w 1 rfl, hd⟩
end

end Go.Proofs.YtgmkldaonkbjgaaGreatDoor
namespace Go.Proofs.YtgmkldaonkbjgaaGreatDoor
open Go Go.Sx Go.Proofs.YtgmkldaonkbjgaaGreatDoor.C

theorem do_D : SoundD Tryz.prog 11 46 f11 [.cn 6 4, .c1 7, .t 8] := soundD_of (fl := true) mixed Tryz.func11 rfl (by kernel_rfl) (by kernel_rfl) (by kernel_rfl)
theorem dodef_F : SoundF Tryz.prog 26 14 f26 [] := soundF_of (fl := true) mixed Tryz.func26 rfl (by kernel_rfl) (by kernel_rfl) (by kernel_rfl)

theorem dodef_calm {h : Heap} {b6 b7 : Nat} : DefH Tryz.prog 26 [ptr b6, ptr b7] .returning h fun e u' h' => (∃ v, e = .returned v) ∧ u' = .returning ∧ h' = h := by
  refine dodef_F (by simp) ?_
  exact ⟨rfl, ⟨_, rfl⟩, rfl, rfl⟩

theorem BFail_calls {h : Heap} {s : ByteArray} : CallsH Tryz.prog 27 [.string s] h (Ret fun r h' => r = repV 2 0 s ∧ Chg [] h h') := by
  refine f27_calls (by simp) ?_
  intro b h1 g1
  refine Exists.intro _ (And.intro g1.blk (And.intro (by decide) (And.intro rfl (And.intro (repV_ones 2 0 s) ?_))))
  intro h2 p2
  have g2 := g1.put p2
  exact ⟨_, rfl, cells_blk g2.blk, rfl, g2.chg⟩

theorem dodef_stop {h : Heap} {b6 b7 : Nat} {why : ByteArray} {r4 : List Value} {lv : Value} (B6 : Blk h b6 r4) (hr : r4.length = 4) (B7 : Blk h b7 [lv]) (hne : b6 ≠ b7) :
    DefH Tryz.prog 26 [ptr b6, ptr b7] (.panicking (stopE why)) h fun e u' h' => (∃ v, e = .returned v) ∧ u' = .panicking [{ v := .iface 80 (.agg #[.string why]), recovered := true }] ∧
      Blk h' b6 [.int .i64 2, .int .i64 0, .string why, .slice none 0 0] ∧ Blk h' b7 [.slice none 0 0] ∧ Chg [b6, b7] h h' := by
  refine dodef_F (by simp) ?_
  have l6 := B6.lt
  have l7 := B7.lt
  refine And.intro (fun _ => ?_) (fun hne => absurd rfl hne)
  intro b3 h1 g1
  refine Exists.intro _ (And.intro g1.blk (And.intro (by decide) (And.intro rfl (And.intro (ones1 rfl) ?_))))
  intro h2 p2
  have g2 := g1.put p2
  have B3 : Blk h2 b3 [.string why] := p2.blk
  refine Exists.intro _ (And.intro (cell_blk B3 rfl) ?_)
  refine call_ret BFail_calls ?_
  rintro _ h3 ⟨rfl, c3⟩
  have c03 := g2.chg.nil c3
  refine Exists.intro _ (And.intro (B6.chg c03 (by simp)) (And.intro (by rw [hr]; decide) (And.intro rfl (And.intro (repV_ones 2 0 why) ?_))))
  intro h4 p4
  have B64 : Blk h4 b6 [.int .i64 2, .int .i64 0, .string why, .slice none 0 0] := by
    have h9 : Blk h4 b6 (splice r4 0 [.int .i64 2, .int .i64 0, .string why, .slice none 0 0]) := p4.blk
    rw [four hr rfl] at h9
    exact h9
  refine Exists.intro _ (And.intro ((B7.chg c03 (by simp)).chg p4.chg (by simp; omega)) (And.intro (by simp) (And.intro rfl (And.intro (ones1 rfl) ?_))))
  intro h5 p5
  have B75 : Blk h5 b7 [.slice none 0 0] := p5.blk
  have c5 : Chg [b6, b7] h h5 := ((c03.mono (by simp)).trans p4.chg (fun _ hx => hx) (fun x hx _ => by simp at hx; simp [hx])).trans p5.chg (fun _ hx => hx) (fun x hx _ => by simp at hx; simp [hx])
  exact ⟨rfl, ⟨_, rfl⟩, rfl, B64.chg p5.chg (by simp; omega), B75, c5⟩

end Go.Proofs.YtgmkldaonkbjgaaGreatDoor
set_option maxRecDepth 100000
namespace Go.Proofs.YtgmkldaonkbjgaaGreatDoor.C
open Go Go.Sx Go.Sx.S


def f8r0 : List SOper := [
 o 0 (.mv (b false))]
def f8r1 : List SOper := [
 o 5 (.call 15 []),
 o 1 (.mv (t 5))]
def f8r2 : List SOper := [
 o 7 (.mv (t 1)),
 o 8 (.bslice [(.string ⟨#[]⟩), (.string ⟨#[]⟩)] 2 [(0, 1), (1, 1)] [(.const (.string ⟨#[105, 110, 99, 114]⟩)), (.const (.string ⟨#[97]⟩))]),
 o 9 (.call 11 [(t 7), (i 0), (t 8)]),
 o 6 (.mv (t 9)),
 o 10 (.ext (t 6) 0),
 o 11 (.ext (t 6) 1),
 o 12 (.ext (t 6) 2),
 o 2 (.new [(.int .i64 0), (.int .i64 0), (.string ⟨#[]⟩), (.slice none 0 0)]),
 q (.st 4 (t 2) (t 10)),
 o 3 (.mv (t 11)),
 o 4 (.mv (t 12))]
def f8r3 : List SOper := [
 o 13 (.mv (t 4)),
 o 14 (.mv (t 13)),
 g 15 14 (.fa 0 (t 2)),
 g 16 14 (.ld1 (t 15)),
 g 17 14 (.cmp .eql (t 16) (i 3)),
 o 18 (.pick (t 14) (t 17) (b false)),
 o 19 (.mv (t 18)),
 g 20 19 (.fa 1 (t 2)),
 g 21 19 (.ld1 (t 20)),
 g 22 19 (.cmp .eql (t 21) (i 1)),
 o 23 (.pick (t 19) (t 22) (b false)),
 o 24 (.mv (t 23)),
 g 25 24 (.mv (t 3)),
 g 26 24 (.len (t 25)),
 g 27 24 (.cmp .eql (t 26) (i 1)),
 o 28 (.pick (t 24) (t 27) (b false)),
 o 29 (.mv (t 28)),
 g 30 29 (.mv (t 3)),
 g 31 29 (.ixs 5 (t 30) (i 0)),
 g 32 29 (.fa 0 (t 31)),
 g 33 29 (.ld1 (t 32)),
 g 34 29 (.cmp .eql (t 33) (i 2)),
 o 35 (.pick (t 29) (t 34) (b false)),
 o 36 (.mv (t 35)),
 g 37 36 (.mv (t 3)),
 g 38 36 (.ixs 5 (t 37) (i 0)),
 g 39 36 (.fa 3 (t 38)),
 g 40 36 (.ld1 (t 39)),
 g 41 36 (.cmp .eql (t 40) (.const (.string ⟨#[49]⟩))),
 o 42 (.pick (t 36) (t 41) (b false)),
 o 0 (.mv (t 42))]
def f8 : SCode := (.seq (.ops f8r0) (.seq (.ops f8r1) (.seq (.ops f8r2) (.seq (.ops f8r3) .ret))))
theorem f8_calls : Sound Tryz.prog 8 43 f8 [.t 0] := sound_of mixed Tryz.func8 rfl (by kernel_rfl) (by kernel_rfl) (by kernel_rfl)

def f24r0 : List SOper := [
 o 0 (.mv (.const (.map none)))]
def f24r1 : List SOper := [
 o 1 (.mkm),
 q (.mup .str (t 1) (.const (.string ⟨#[83, 69, 84]⟩)) (u 57)),
 q (.mup .str (t 1) (.const (.string ⟨#[71, 69, 84]⟩)) (u 58)),
 q (.mup .str (t 1) (.const (.string ⟨#[68, 69, 76]⟩)) (u 59)),
 q (.mup .str (t 1) (.const (.string ⟨#[69, 88, 73, 83, 84, 83]⟩)) (u 60)),
 q (.mup .str (t 1) (.const (.string ⟨#[84, 89, 80, 69]⟩)) (u 61)),
 o 2 (.call 62 [(i 1)]),
 q (.mup .str (t 1) (.const (.string ⟨#[73, 78, 67, 82]⟩)) (t 2)),
 o 3 (.call 62 [(i (-1))]),
 q (.mup .str (t 1) (.const (.string ⟨#[68, 69, 67, 82]⟩)) (t 3)),
 q (.mup .str (t 1) (.const (.string ⟨#[73, 78, 67, 82, 66, 89]⟩)) (u 63)),
 q (.mup .str (t 1) (.const (.string ⟨#[65, 80, 80, 69, 78, 68]⟩)) (u 67)),
 q (.mup .str (t 1) (.const (.string ⟨#[83, 84, 82, 76, 69, 78]⟩)) (u 68)),
 q (.mup .str (t 1) (.const (.string ⟨#[77, 71, 69, 84]⟩)) (u 69)),
 q (.mup .str (t 1) (.const (.string ⟨#[77, 83, 69, 84]⟩)) (u 70)),
 q (.mup .str (t 1) (.const (.string ⟨#[80, 69, 88, 80, 73, 82, 69]⟩)) (u 71)),
 q (.mup .str (t 1) (.const (.string ⟨#[80, 69, 82, 83, 73, 83, 84]⟩)) (u 72)),
 q (.mup .str (t 1) (.const (.string ⟨#[80, 84, 84, 76]⟩)) (u 73)),
 q (.mup .str (t 1) (.const (.string ⟨#[75, 69, 89, 83]⟩)) (u 74)),
 q (.mup .str (t 1) (.const (.string ⟨#[68, 66, 83, 73, 90, 69]⟩)) (u 75)),
 q (.mup .str (t 1) (.const (.string ⟨#[70, 76, 85, 83, 72, 65, 76, 76]⟩)) (u 76)),
 o 4 (.mv (t 1)),
 o 0 (.mv (t 4))]
def f24 : SCode := (.seq (.ops f24r0) (.seq (.ops f24r1) .ret))
theorem f24_calls : Sound Tryz.prog 24 5 f24 [.t 0] := sound_of mixed Tryz.func24 rfl (by kernel_rfl) (by kernel_rfl) (by kernel_rfl)

def f62r0 : List SOper := [
 o 1 (.box (t 0)),
 o 2 (.mv (.const .nilFunc))]
def f62r1 : List SOper := [
 o 3 (.fn 110 [] [(t 1)]),
 o 2 (.mv (t 3))]
def f62 : SCode := (.seq (.ops f62r0) (.seq (.ops f62r1) .ret))
theorem f62_calls : Sound Tryz.prog 62 4 f62 [.t 2] := sound_of mixed Tryz.func62 rfl (by kernel_rfl) (by kernel_rfl) (by kernel_rfl)

end Go.Proofs.YtgmkldaonkbjgaaGreatDoor.C
namespace Go.Proofs.YtgmkldaonkbjgaaGreatDoor
open Go Go.Sx Go.Proofs.YtgmkldaonkbjgaaGreatDoor.C

theorem cellWW {h : Heap} {b o : Nat} {l : List Value} {v : Value} (hb : BlkW h b l) (hv : l[o]? = some v) : cell h b o = some v := by
  obtain ⟨e, k, x, _⟩ := hb
  simp [cell, x, hv]

def upB (c : UInt8) : UInt8 := if 97 ≤ c.toNat ∧ c.toNat ≤ 122 then UInt8.ofNat (c.toNat - 32) else c
def up (s : ByteArray) : ByteArray := ⟨⟨s.data.toList.map upB⟩⟩
def cellB (l : List UInt8) : List Value := l.map fun b => .int .u8 b.toNat
def upTo (bs : List UInt8) (q : Nat) : List UInt8 := (bs.take q).map upB ++ bs.drop q

theorem cellB_len (l : List UInt8) : (cellB l).length = l.length := by simp [cellB]
theorem upTo_len (bs : List UInt8) (q : Nat) : (upTo bs q).length = bs.length := by simp [upTo]; omega
theorem upTo_all (bs : List UInt8) : upTo bs bs.length = bs.map upB := by simp [upTo]
theorem upTo_zero (bs : List UInt8) : upTo bs 0 = bs := by simp [upTo]
theorem upTo_at {bs : List UInt8} {q : Nat} (hq : q < bs.length) : upTo bs q = (bs.take q).map upB ++ (bs[q] :: bs.drop (q + 1)) := by
  rw [upTo, List.drop_eq_getElem_cons hq]
theorem upTo_succ {bs : List UInt8} {q : Nat} (hq : q < bs.length) : upTo bs (q + 1) = (bs.take q).map upB ++ (upB bs[q] :: bs.drop (q + 1)) := by
  rw [upTo, List.take_succ_eq_append_getElem hq, List.map_append, List.append_assoc]; rfl
theorem take_len {bs : List UInt8} {q : Nat} (hq : q < bs.length) : (cellB ((bs.take q).map upB)).length = q := by simp [cellB]; omega
theorem blk_at {bs : List UInt8} {q : Nat} (hq : q < bs.length) (tail : List Value) : cellB (upTo bs q) ++ tail = cellB ((bs.take q).map upB) ++ ([.int .u8 bs[q].toNat] ++ (cellB (bs.drop (q + 1)) ++ tail)) := by
  rw [upTo_at hq]; simp only [cellB, List.map_append, List.map_cons, List.append_assoc, List.cons_append, List.nil_append]
theorem blk_succ {bs : List UInt8} {q : Nat} (hq : q < bs.length) (tail : List Value) : cellB (upTo bs (q + 1)) ++ tail = cellB ((bs.take q).map upB) ++ ([.int .u8 (upB bs[q]).toNat] ++ (cellB (bs.drop (q + 1)) ++ tail)) := by
  rw [upTo_succ hq]; simp only [cellB, List.map_append, List.map_cons, List.append_assoc, List.cons_append, List.nil_append]
theorem cell_q {h : Heap} {b q : Nat} {bs : List UInt8} {tail : List Value} (hb : BlkW h b (cellB (upTo bs q) ++ tail)) (hq : q < bs.length) : cell h b (0 + q * 1) = some (.int .u8 bs[q].toNat) := by
  rw [Nat.zero_add, Nat.mul_one]
  refine cellWW hb ?_
  rw [blk_at hq, List.getElem?_append_right (by rw [take_len hq]; exact Nat.le_refl _), take_len hq]
  simp
theorem put_q {h h' : Heap} {b q : Nat} {bs : List UInt8} {tail : List Value} {z : Int} (hq : q < bs.length) (hz : z = (upB bs[q]).toNat) (hp : PutW h h' b (splice (cellB (upTo bs q) ++ tail) (0 + q * 1) [.int .u8 z])) :
    BlkW h' b (cellB (upTo bs (q + 1)) ++ tail) := by
  have := hp.blk
  rw [Nat.zero_add, Nat.mul_one, blk_at hq] at this
  rw [blk_succ hq, ← hz]
  have e := splice_at (cellB ((bs.take q).map upB)) [.int .u8 bs[q].toNat] (cellB (bs.drop (q + 1)) ++ tail) [.int .u8 z] rfl
  rw [take_len hq] at e
  rwa [e] at this
theorem same_q {bs : List UInt8} {q : Nat} (hq : q < bs.length) (hu : upB bs[q] = bs[q]) : upTo bs (q + 1) = upTo bs q := by
  rw [upTo_succ hq, upTo_at hq, hu]
theorem upB_lo {c : UInt8} (h1 : 97 ≤ (c.toNat : Int)) (h2 : (c.toNat : Int) ≤ 122) : ((upB c).toNat : Int) = c.toNat - 32 := by
  unfold upB
  rw [if_pos ⟨by omega, by omega⟩]
  have : (UInt8.ofNat (c.toNat - 32)).toNat = c.toNat - 32 := by
    rw [UInt8.toNat_ofNat']; omega
  rw [this]; omega
theorem upB_not {c : UInt8} (h : ¬ (97 ≤ (c.toNat : Int) ∧ (c.toNat : Int) ≤ 122)) : upB c = c := by
  unfold upB
  rw [if_neg (fun ⟨a, b⟩ => h ⟨by omega, by omega⟩)]

theorem wrap8 {x : Int} (h0 : 0 ≤ x) (h1 : x < 256) : IntKind.u8.wrap x = x := by
  have e : IntKind.u8.wrap x = x % 256 := by simp [IntKind.wrap, IntKind.bits, IntKind.signed]
  rw [e]; omega

theorem cells_pre {h : Heap} {b : Nat} {l tail : List Value} (hb : BlkW h b (l ++ tail)) : Cells h b 0 l := by
  intro i v hv
  refine cellWW hb ?_
  rw [Nat.zero_add, List.getElem?_append_left (List.getElem?_eq_some_iff.1 hv).1]; exact hv

theorem rword_calls {h : Heap} {s : ByteArray} (hs : s.size < 4611686018427387904) : CallsH Tryz.prog 34 [.string s] h (Ret fun r h' => r = .string (up s) ∧ Chg [] h h') := by
  obtain ⟨⟨bs⟩⟩ := s
  have hs : bs.length < 4611686018427387904 := hs
  refine f34_calls (by simp) ?_
  intro c b h1 hc g
  have hc : bs.length ≤ c := hc
  obtain ⟨tail, ht⟩ : ∃ tail, tail = List.replicate (c - bs.length) (Value.int .u8 0) := ⟨_, rfl⟩
  have gb : BlkW h1 b (cellB bs ++ tail) := by rw [ht]; exact g.blk
  refine loop_intro (fun q : Nat => [(3, .slice (some ⟨b, 0, none⟩) bs.length c), (4, .int .i64 q)]) (fun q h' => q ≤ bs.length ∧ BlkW h' b (cellB (upTo bs q) ++ tail) ∧ h'.size = h1.size ∧ ∀ k, k ≠ b → h'[k]? = h1[k]?) (fun q => bs.length - q) 0 ⟨rfl, rfl, trivial⟩ ⟨Nat.zero_le _, by rw [upTo_zero]; exact gb, rfl, fun _ _ => rfl⟩ ?_
  rintro q h2 ⟨hq, hb, hsz, hold⟩
  have next : ∀ {h3 : Heap}, q < bs.length → BlkW h3 b (cellB (upTo bs (q + 1)) ++ tail) → h3.size = h1.size → (∀ k, k ≠ b → h3[k]? = h1[k]?) → q + 1 ≤ bs.length ∧ BlkW h3 b (cellB (upTo bs (q + 1)) ++ tail) ∧ h3.size = h1.size ∧ ∀ k, k ≠ b → h3[k]? = h1[k]? := fun a b c d => ⟨a, b, c, d⟩
  refine And.intro rfl (And.intro (fun hlt => ?_) (fun hge => ?_))
  · have hlt : q < bs.length := by omega
    have cq := cell_q hb hlt
    refine And.intro (by omega) (And.intro (by omega) (Exists.intro _ (And.intro cq (And.intro rfl (And.intro (fun h97 => ?_) (fun hn => ?_))))))
    · refine And.intro (by omega) (And.intro (by omega) (Exists.intro _ (And.intro cq (And.intro rfl (And.intro (fun h122 => ?_) (fun hn => ?_))))))
      · refine And.intro (by omega) (And.intro (by omega) (Exists.intro _ (And.intro cq (And.intro rfl (fun z hz => ?_)))))
        have hz : z = (upB bs[q]).toNat := by
          rw [upB_lo h97 h122, hz]; exact wrap8 (by omega) (by omega)
        refine And.intro (by omega) (And.intro (by omega) (Exists.intro _ (And.intro hb (And.intro ?_ (And.intro rfl (And.intro (Go.Sx.ones1 rfl) fun h3 p => ?_))))))
        · show 0 + q * 1 + 1 ≤ _
          rw [List.length_append, cellB_len, upTo_len]; omega
        · refine And.intro rfl (fun z2 hz2 => ?_)
          have hz2 := add_in hz2 (by omega) (by omega)
          subst hz2
          exact And.intro rfl (Exists.intro (q + 1) (And.intro ⟨rfl, rfl, trivial⟩ (And.intro (next hlt (put_q hlt hz p) (p.size.trans hsz) fun k hk => (p.old k hk).trans (hold k hk)) (by omega))))
      · refine And.intro rfl (fun z2 hz2 => ?_)
        have hz2 := add_in hz2 (by omega) (by omega)
        subst hz2
        exact And.intro rfl (Exists.intro (q + 1) (And.intro ⟨rfl, rfl, trivial⟩ (And.intro (next hlt (by rw [same_q hlt (upB_not fun hh => hn hh.2)]; exact hb) hsz hold) (by omega))))
    · refine And.intro rfl (fun z2 hz2 => ?_)
      have hz2 := add_in hz2 (by omega) (by omega)
      subst hz2
      exact And.intro rfl (Exists.intro (q + 1) (And.intro ⟨rfl, rfl, trivial⟩ (And.intro (next hlt (by rw [same_q hlt (upB_not fun hh => hn hh.1)]; exact hb) hsz hold) (by omega))))
  · have hkl : q = bs.length := by omega
    subst hkl
    rw [upTo_all] at hb
    refine Exists.intro (bs.map upB) (And.intro (by simp) (And.intro (cells_pre hb) (And.intro rfl ?_)))
    refine ⟨by rw [hsz, g.size]; omega, fun k hk _ => ?_⟩
    have := g.id
    rw [hold k (by omega), g.old k hk]

theorem bword_calls {h : Heap} {s : ByteArray} (hs : s.size < 4611686018427387904) : CallsH Tryz.prog 25 [.string s] h (Ret fun r h' => r = .string (up s) ∧ Chg [] h h') := by
  obtain ⟨⟨bs⟩⟩ := s
  have hs : bs.length < 4611686018427387904 := hs
  refine f25_calls (by simp) ?_
  intro c b h1 hc g
  have hc : bs.length ≤ c := hc
  obtain ⟨tail, ht⟩ : ∃ tail, tail = List.replicate (c - bs.length) (Value.int .u8 0) := ⟨_, rfl⟩
  have gb : BlkW h1 b (cellB bs ++ tail) := by rw [ht]; exact g.blk
  refine loop_intro (fun q : Nat => [(3, .slice (some ⟨b, 0, none⟩) bs.length c), (8, .slice (some ⟨b, 0, none⟩) bs.length c), (9, .int .i64 bs.length), (10, .int .i64 q)]) (fun q h' => q ≤ bs.length ∧ BlkW h' b (cellB (upTo bs q) ++ tail) ∧ h'.size = h1.size ∧ ∀ k, k ≠ b → h'[k]? = h1[k]?) (fun q => bs.length - q) 0 ⟨rfl, rfl, rfl, rfl, trivial⟩ ⟨Nat.zero_le _, by rw [upTo_zero]; exact gb, rfl, fun _ _ => rfl⟩ ?_
  rintro q h2 ⟨hq, hb, hsz, hold⟩
  have next : ∀ {h3 : Heap}, q < bs.length → BlkW h3 b (cellB (upTo bs (q + 1)) ++ tail) → h3.size = h1.size → (∀ k, k ≠ b → h3[k]? = h1[k]?) → q + 1 ≤ bs.length ∧ BlkW h3 b (cellB (upTo bs (q + 1)) ++ tail) ∧ h3.size = h1.size ∧ ∀ k, k ≠ b → h3[k]? = h1[k]? := fun a b c d => ⟨a, b, c, d⟩
  refine And.intro rfl (And.intro (fun hlt => ?_) (fun hge => ?_))
  · have hlt : q < bs.length := by omega
    have cq := cell_q hb hlt
    refine And.intro (by omega) (And.intro (by omega) (Exists.intro _ (And.intro cq (And.intro rfl (And.intro (fun h97 => ?_) (fun hn => ?_))))))
    · refine And.intro rfl (And.intro (fun h122 => ?_) (fun hn => ?_))
      · refine And.intro rfl (fun z hz => And.intro rfl (fun z1 hz1 => ?_))
        have hz : z = (bs[q].toNat : Int) - 97 := by rw [hz]; exact wrap8 (by omega) (by omega)
        have hz1 : z1 = (upB bs[q]).toNat := by
          rw [upB_lo h97 h122, hz1, hz]
          have := wrap8 (x := (bs[q].toNat : Int) - 97 + 65) (by omega) (by omega)
          exact this.trans (by omega)
        refine And.intro (by omega) (And.intro (by omega) (Exists.intro _ (And.intro hb (And.intro ?_ (And.intro rfl (And.intro (Go.Sx.ones1 rfl) fun h3 p => ?_))))))
        · show 0 + q * 1 + 1 ≤ _
          rw [List.length_append, cellB_len, upTo_len]; omega
        · refine And.intro rfl (fun z2 hz2 => ?_)
          have hz2 := add_in hz2 (by omega) (by omega)
          subst hz2
          exact And.intro rfl (Exists.intro (q + 1) (And.intro ⟨rfl, rfl, rfl, rfl, trivial⟩ (And.intro (next hlt (put_q hlt hz1 p) (p.size.trans hsz) fun k hk => (p.old k hk).trans (hold k hk)) (by omega))))
      · refine And.intro rfl (fun z2 hz2 => ?_)
        have hz2 := add_in hz2 (by omega) (by omega)
        subst hz2
        exact And.intro rfl (Exists.intro (q + 1) (And.intro ⟨rfl, rfl, rfl, rfl, trivial⟩ (And.intro (next hlt (by rw [same_q hlt (upB_not fun hh => hn hh.2)]; exact hb) hsz hold) (by omega))))
    · refine And.intro rfl (fun z2 hz2 => ?_)
      have hz2 := add_in hz2 (by omega) (by omega)
      subst hz2
      exact And.intro rfl (Exists.intro (q + 1) (And.intro ⟨rfl, rfl, rfl, rfl, trivial⟩ (And.intro (next hlt (by rw [same_q hlt (upB_not fun hh => hn hh.1)]; exact hb) hsz hold) (by omega))))
  · have hkl : q = bs.length := by omega
    subst hkl
    rw [upTo_all] at hb
    refine Exists.intro (bs.map upB) (And.intro (by simp) (And.intro (cells_pre hb) (And.intro rfl ?_)))
    refine ⟨by rw [hsz, g.size]; omega, fun k hk _ => ?_⟩
    have := g.id
    rw [hold k (by omega), g.old k hk]

end Go.Proofs.YtgmkldaonkbjgaaGreatDoor
namespace Go.Proofs.YtgmkldaonkbjgaaGreatDoor
open Go Go.Sx Go.Proofs.YtgmkldaonkbjgaaGreatDoor.C

def ofB (l : List UInt8) : ByteArray := ⟨⟨l⟩⟩
def cmdF : List (List UInt8 × Nat × Option Int) := [([83, 69, 84], 57, none), ([71, 69, 84], 58, none), ([68, 69, 76], 59, none), ([69, 88, 73, 83, 84, 83], 60, none), ([84, 89, 80, 69], 61, none),
  ([73, 78, 67, 82], 110, some 1), ([68, 69, 67, 82], 110, some (-1)), ([73, 78, 67, 82, 66, 89], 63, none), ([65, 80, 80, 69, 78, 68], 67, none), ([83, 84, 82, 76, 69, 78], 68, none), ([77, 71, 69, 84], 69, none),
  ([77, 83, 69, 84], 70, none), ([80, 69, 88, 80, 73, 82, 69], 71, none), ([80, 69, 82, 83, 73, 83, 84], 72, none), ([80, 84, 84, 76], 73, none), ([75, 69, 89, 83], 74, none), ([68, 66, 83, 73, 90, 69], 75, none),
  ([70, 76, 85, 83, 72, 65, 76, 76], 76, none)]

def FnV (h : Heap) (v : Value) (g : Nat) : Option Int → Prop
  | none => v = .func (.func g) #[] #[]
  | some z => ∃ b o, v = .func (.func g) #[] #[.pointer (some ⟨b, o, none⟩)] ∧ cell h b o = some (.int .i64 z)
def lookF : List (List UInt8 × Nat × Option Int) → ByteArray → Option (Nat × Option Int)
  | [], _ => none
  | (n, g, z) :: l, w => if w = ofB n then some (g, z) else lookF l w
def FoundF (h : Heap) (W : ByteArray) (ms : List MapEntry) (i : Nat) : Option (Nat × Option Int) → Prop
  | some (g, z) => ∃ j v, mfind (.string W) ms i = some (j, v) ∧ FnV h v g z
  | none => mfind (.string W) ms i = none


def CmF (h : Heap) : List MapEntry → List (List UInt8 × Nat × Option Int) → Prop
  | [], [] => True
  | e :: es, (n, g, z) :: ns => e.key = .string (ofB n) ∧ FnV h e.val g z ∧ CmF h es ns
  | _, _ => False

theorem CmF.found {h : Heap} (W : ByteArray) : ∀ {es : List MapEntry} {ns : List (List UInt8 × Nat × Option Int)} {i : Nat}, CmF h es ns → (∀ e ∈ es, fits .str e.key = true) ∧ FoundF h W es i (lookF ns W)
  | [], [], i, _ => ⟨by simp, rfl⟩
  | e :: es, (n, g, z) :: ns, i, ⟨hk, hf, hm⟩ => by
    obtain ⟨h5, h6⟩ := CmF.found W (i := i + 1) hm
    refine ⟨fun e' he' => ?_, ?_⟩
    · rcases List.mem_cons.1 he' with rfl | he'
      · rw [hk]; rfl
      · exact h5 e' he'
    · unfold lookF
      by_cases hw : W = ofB n
      · rw [if_pos hw]
        refine ⟨i, e.val, ?_, hf⟩
        unfold mfind
        rw [hk, hw, if_pos (sameBits_refl (k := .str) rfl)]
      · rw [if_neg hw]
        have hn : ¬ (Instr.sameBits 10000 (.string W) e.key = true) := fun hs => by
          have := sameBits_eq (k := .str) (by rfl) (by rw [hk]; rfl) hs
          rw [hk] at this
          simp at this
          exact hw this
        cases hl : lookF ns W with
        | none =>
          rw [hl] at h6
          show mfind _ (e :: es) i = none
          unfold mfind
          rw [if_neg hn]; exact h6
        | some p =>
          rw [hl] at h6
          obtain ⟨j, v, h7, h8⟩ := h6
          refine ⟨j, v, ?_, h8⟩
          unfold mfind
          rw [if_neg hn]; exact h7
  | [], _ :: _, _, hm => hm.elim
  | _ :: _, [], _, hm => hm.elim

def eqL : List UInt8 → List UInt8 → Bool
  | [], [] => true
  | a :: l, b :: m => Nat.beq a.toNat b.toNat && eqL l m
  | _, _ => false
theorem eqL_refl : ∀ a : List UInt8, eqL a a = true
  | [] => rfl
  | a :: l => by simp [eqL, eqL_refl l]
theorem notin_of {k : List UInt8} {ks : List (List UInt8)} (h : (ks.all fun n => !eqL n k) = true) : k ∉ ks := fun hm => by
  have := List.all_eq_true.1 h k hm
  rw [eqL_refl] at this
  cases this
def KeysF (es : List MapEntry) (ks : List (List UInt8)) : Prop := es.map (·.key) = ks.map fun n => .string (ofB n)
theorem KeysF.fits {es : List MapEntry} {ks : List (List UInt8)} (hk : KeysF es ks) : ∀ e ∈ es, fits .str e.key = true := fun e he => by
  have : e.key ∈ es.map (·.key) := List.mem_map_of_mem he
  rw [hk] at this
  obtain ⟨n, _, e1⟩ := List.mem_map.1 this
  rw [← e1]; rfl
theorem KeysF.miss {k : List UInt8} : ∀ {es : List MapEntry} {ks : List (List UInt8)} {i : Nat}, KeysF es ks → k ∉ ks → mfind (.string (ofB k)) es i = none
  | [], ks, i, _, _ => rfl
  | e :: es, [], i, hk, _ => by simp [KeysF] at hk
  | e :: es, n :: ks, i, hk, hn => by
    simp only [KeysF, List.map_cons, List.cons.injEq] at hk
    unfold mfind
    rw [if_neg, KeysF.miss (es := es) (ks := ks) hk.2 (fun h => hn (by simp [h]))]
    intro hs
    have := sameBits_eq (k := .str) (by rfl) (by rw [hk.1]; rfl) hs
    rw [hk.1] at this
    simp [ofB] at this
    exact hn (by simp [this])
theorem KeysF.of_put {h h' : Heap} {r c : Nat} {es : List MapEntry} {ks : List (List UInt8)} {e : MapEntry} (hk : KeysF es ks) (_ : PutO h h' r (.map ⟨es ++ [e]⟩ c)) (n : List UInt8) (he : e.key = .string (ofB n)) : KeysF (es ++ [e]) (ks ++ [n]) := by
  unfold KeysF at hk ⊢
  rw [List.map_append, List.map_append, hk]
  simp [he]

theorem step_box {h : Heap} {n : Int} : CallsH Tryz.prog 62 [.int .i64 n] h (Ret fun r h' => ∃ b, r = .func (.func 110) #[] #[ptr b] ∧ Grow h h' b [.int .i64 n]) := by
  refine f62_calls (by simp) ?_
  intro b h1 g1
  exact ⟨_, rfl, g1⟩

set_option maxHeartbeats 1000000 in
theorem cmdsF_calls {h : Heap} : CallsH Tryz.prog 24 [] h (Ret fun r h' => Chg [] h h' ∧ ∃ mb es c, r = .map (some mb) ∧ MapB h' mb es c ∧ (∀ e ∈ es, fits .str e.key = true) ∧ ∀ W, FoundF h' W es 0 (lookF cmdF W)) := by
  refine f24_calls (by simp) ?_
  intro mb h0 g0
  have w := (St.start h).newm g0
  have ky : KeysF [] [] := rfl
  refine And.intro rfl (Exists.intro _ (Exists.intro _ (And.intro (w.get 0 rfl) (And.intro ky.fits ?_))))
  rw [show mfind (.string ⟨#[83, 69, 84]⟩) _ 0 = none from ky.miss (k := [83, 69, 84]) (notin_of (by kernel_rfl))]
  intro h1 p1
  have ky := ky.of_put p1 [83, 69, 84] rfl
  have w : St [] h _ [.m mb _ _] := w.mput 0 rfl p1
  refine And.intro rfl (Exists.intro _ (Exists.intro _ (And.intro (w.get 0 rfl) (And.intro ky.fits ?_))))
  rw [show mfind (.string ⟨#[71, 69, 84]⟩) _ 0 = none from ky.miss (k := [71, 69, 84]) (notin_of (by kernel_rfl))]
  intro h2 p2
  have ky := ky.of_put p2 [71, 69, 84] rfl
  have w : St [] h _ [.m mb _ _] := w.mput 0 rfl p2
  refine And.intro rfl (Exists.intro _ (Exists.intro _ (And.intro (w.get 0 rfl) (And.intro ky.fits ?_))))
  rw [show mfind (.string ⟨#[68, 69, 76]⟩) _ 0 = none from ky.miss (k := [68, 69, 76]) (notin_of (by kernel_rfl))]
  intro h3 p3
  have ky := ky.of_put p3 [68, 69, 76] rfl
  have w : St [] h _ [.m mb _ _] := w.mput 0 rfl p3
  refine And.intro rfl (Exists.intro _ (Exists.intro _ (And.intro (w.get 0 rfl) (And.intro ky.fits ?_))))
  rw [show mfind (.string ⟨#[69, 88, 73, 83, 84, 83]⟩) _ 0 = none from ky.miss (k := [69, 88, 73, 83, 84, 83]) (notin_of (by kernel_rfl))]
  intro h4 p4
  have ky := ky.of_put p4 [69, 88, 73, 83, 84, 83] rfl
  have w : St [] h _ [.m mb _ _] := w.mput 0 rfl p4
  refine And.intro rfl (Exists.intro _ (Exists.intro _ (And.intro (w.get 0 rfl) (And.intro ky.fits ?_))))
  rw [show mfind (.string ⟨#[84, 89, 80, 69]⟩) _ 0 = none from ky.miss (k := [84, 89, 80, 69]) (notin_of (by kernel_rfl))]
  intro h5 p5
  have ky := ky.of_put p5 [84, 89, 80, 69] rfl
  have w : St [] h _ [.m mb _ _] := w.mput 0 rfl p5
  refine call_ret step_box ?_
  rintro _ h5a ⟨b5, rfl, gb5⟩
  have w := w.new gb5
  refine And.intro rfl (Exists.intro _ (Exists.intro _ (And.intro (w.get 1 rfl) (And.intro ky.fits ?_))))
  rw [show mfind (.string ⟨#[73, 78, 67, 82]⟩) _ 0 = none from ky.miss (k := [73, 78, 67, 82]) (notin_of (by kernel_rfl))]
  intro h6 p6
  have ky := ky.of_put p6 [73, 78, 67, 82] rfl
  have w : St [] h _ [.b b5 [.int .i64 1], .m mb _ _] := w.mput 1 rfl p6
  refine call_ret step_box ?_
  rintro _ h6a ⟨b6, rfl, gb6⟩
  have w := w.new gb6
  refine And.intro rfl (Exists.intro _ (Exists.intro _ (And.intro (w.get 2 rfl) (And.intro ky.fits ?_))))
  rw [show mfind (.string ⟨#[68, 69, 67, 82]⟩) _ 0 = none from ky.miss (k := [68, 69, 67, 82]) (notin_of (by kernel_rfl))]
  intro h7 p7
  have ky := ky.of_put p7 [68, 69, 67, 82] rfl
  have w : St [] h _ [.b b6 [.int .i64 (-1)], .b b5 [.int .i64 1], .m mb _ _] := w.mput 2 rfl p7
  refine And.intro rfl (Exists.intro _ (Exists.intro _ (And.intro (w.get 2 rfl) (And.intro ky.fits ?_))))
  rw [show mfind (.string ⟨#[73, 78, 67, 82, 66, 89]⟩) _ 0 = none from ky.miss (k := [73, 78, 67, 82, 66, 89]) (notin_of (by kernel_rfl))]
  intro h8 p8
  have ky := ky.of_put p8 [73, 78, 67, 82, 66, 89] rfl
  have w : St [] h _ [.b b6 [.int .i64 (-1)], .b b5 [.int .i64 1], .m mb _ _] := w.mput 2 rfl p8
  refine And.intro rfl (Exists.intro _ (Exists.intro _ (And.intro (w.get 2 rfl) (And.intro ky.fits ?_))))
  rw [show mfind (.string ⟨#[65, 80, 80, 69, 78, 68]⟩) _ 0 = none from ky.miss (k := [65, 80, 80, 69, 78, 68]) (notin_of (by kernel_rfl))]
  intro h9 p9
  have ky := ky.of_put p9 [65, 80, 80, 69, 78, 68] rfl
  have w : St [] h _ [.b b6 [.int .i64 (-1)], .b b5 [.int .i64 1], .m mb _ _] := w.mput 2 rfl p9
  refine And.intro rfl (Exists.intro _ (Exists.intro _ (And.intro (w.get 2 rfl) (And.intro ky.fits ?_))))
  rw [show mfind (.string ⟨#[83, 84, 82, 76, 69, 78]⟩) _ 0 = none from ky.miss (k := [83, 84, 82, 76, 69, 78]) (notin_of (by kernel_rfl))]
  intro h10 p10
  have ky := ky.of_put p10 [83, 84, 82, 76, 69, 78] rfl
  have w : St [] h _ [.b b6 [.int .i64 (-1)], .b b5 [.int .i64 1], .m mb _ _] := w.mput 2 rfl p10
  refine And.intro rfl (Exists.intro _ (Exists.intro _ (And.intro (w.get 2 rfl) (And.intro ky.fits ?_))))
  rw [show mfind (.string ⟨#[77, 71, 69, 84]⟩) _ 0 = none from ky.miss (k := [77, 71, 69, 84]) (notin_of (by kernel_rfl))]
  intro h11 p11
  have ky := ky.of_put p11 [77, 71, 69, 84] rfl
  have w : St [] h _ [.b b6 [.int .i64 (-1)], .b b5 [.int .i64 1], .m mb _ _] := w.mput 2 rfl p11
  refine And.intro rfl (Exists.intro _ (Exists.intro _ (And.intro (w.get 2 rfl) (And.intro ky.fits ?_))))
  rw [show mfind (.string ⟨#[77, 83, 69, 84]⟩) _ 0 = none from ky.miss (k := [77, 83, 69, 84]) (notin_of (by kernel_rfl))]
  intro h12 p12
  have ky := ky.of_put p12 [77, 83, 69, 84] rfl
  have w : St [] h _ [.b b6 [.int .i64 (-1)], .b b5 [.int .i64 1], .m mb _ _] := w.mput 2 rfl p12
  refine And.intro rfl (Exists.intro _ (Exists.intro _ (And.intro (w.get 2 rfl) (And.intro ky.fits ?_))))
  rw [show mfind (.string ⟨#[80, 69, 88, 80, 73, 82, 69]⟩) _ 0 = none from ky.miss (k := [80, 69, 88, 80, 73, 82, 69]) (notin_of (by kernel_rfl))]
  intro h13 p13
  have ky := ky.of_put p13 [80, 69, 88, 80, 73, 82, 69] rfl
  have w : St [] h _ [.b b6 [.int .i64 (-1)], .b b5 [.int .i64 1], .m mb _ _] := w.mput 2 rfl p13
  refine And.intro rfl (Exists.intro _ (Exists.intro _ (And.intro (w.get 2 rfl) (And.intro ky.fits ?_))))
  rw [show mfind (.string ⟨#[80, 69, 82, 83, 73, 83, 84]⟩) _ 0 = none from ky.miss (k := [80, 69, 82, 83, 73, 83, 84]) (notin_of (by kernel_rfl))]
  intro h14 p14
  have ky := ky.of_put p14 [80, 69, 82, 83, 73, 83, 84] rfl
  have w : St [] h _ [.b b6 [.int .i64 (-1)], .b b5 [.int .i64 1], .m mb _ _] := w.mput 2 rfl p14
  refine And.intro rfl (Exists.intro _ (Exists.intro _ (And.intro (w.get 2 rfl) (And.intro ky.fits ?_))))
  rw [show mfind (.string ⟨#[80, 84, 84, 76]⟩) _ 0 = none from ky.miss (k := [80, 84, 84, 76]) (notin_of (by kernel_rfl))]
  intro h15 p15
  have ky := ky.of_put p15 [80, 84, 84, 76] rfl
  have w : St [] h _ [.b b6 [.int .i64 (-1)], .b b5 [.int .i64 1], .m mb _ _] := w.mput 2 rfl p15
  refine And.intro rfl (Exists.intro _ (Exists.intro _ (And.intro (w.get 2 rfl) (And.intro ky.fits ?_))))
  rw [show mfind (.string ⟨#[75, 69, 89, 83]⟩) _ 0 = none from ky.miss (k := [75, 69, 89, 83]) (notin_of (by kernel_rfl))]
  intro h16 p16
  have ky := ky.of_put p16 [75, 69, 89, 83] rfl
  have w : St [] h _ [.b b6 [.int .i64 (-1)], .b b5 [.int .i64 1], .m mb _ _] := w.mput 2 rfl p16
  refine And.intro rfl (Exists.intro _ (Exists.intro _ (And.intro (w.get 2 rfl) (And.intro ky.fits ?_))))
  rw [show mfind (.string ⟨#[68, 66, 83, 73, 90, 69]⟩) _ 0 = none from ky.miss (k := [68, 66, 83, 73, 90, 69]) (notin_of (by kernel_rfl))]
  intro h17 p17
  have ky := ky.of_put p17 [68, 66, 83, 73, 90, 69] rfl
  have w : St [] h _ [.b b6 [.int .i64 (-1)], .b b5 [.int .i64 1], .m mb _ _] := w.mput 2 rfl p17
  refine And.intro rfl (Exists.intro _ (Exists.intro _ (And.intro (w.get 2 rfl) (And.intro ky.fits ?_))))
  rw [show mfind (.string ⟨#[70, 76, 85, 83, 72, 65, 76, 76]⟩) _ 0 = none from ky.miss (k := [70, 76, 85, 83, 72, 65, 76, 76]) (notin_of (by kernel_rfl))]
  intro h18 p18
  have ky := ky.of_put p18 [70, 76, 85, 83, 72, 65, 76, 76] rfl
  have w : St [] h _ [.b b6 [.int .i64 (-1)], .b b5 [.int .i64 1], .m mb _ _] := w.mput 2 rfl p18
  refine ⟨w.chg, mb, _, _, rfl, w.get 2 rfl, ky.fits, fun W => (CmF.found W ?_).2⟩
  exact ⟨rfl, rfl, rfl, rfl, rfl, rfl, rfl, rfl, rfl, rfl, rfl, ⟨b5, 0, rfl, cell_blk (w.get 1 rfl) rfl⟩, rfl, ⟨b6, 0, rfl, cell_blk (w.get 0 rfl) rfl⟩, rfl, rfl, rfl, rfl, rfl, rfl, rfl, rfl, rfl, rfl, rfl, rfl, rfl, rfl, rfl, rfl, rfl, rfl, rfl, rfl, rfl, rfl, trivial⟩

end Go.Proofs.YtgmkldaonkbjgaaGreatDoor
namespace Go.Proofs.YtgmkldaonkbjgaaGreatDoor
open Go Go.Sx Go.Proofs.YtgmkldaonkbjgaaGreatDoor.C

theorem none_nil {h : Heap} : CallsH Tryz.prog 28 [.pointer none] h (Ret fun r h' => r = .bool true ∧ h' = h) := by
  refine f28_calls (by simp) ?_
  exact And.intro rfl rfl

theorem same_nil {h : Heap} {kb sb mb : Nat} (x : KS h kb sb mb) : CallsH Tryz.prog 23 [ptr kb, .pointer none] h (Ret fun r h' => r = .bool false ∧ h' = h) := by
  refine f23_calls (by simp) ?_
  refine call_ret (none_calls x) ?_
  rintro _ h1 ⟨rfl, e⟩
  have e := e.symm
  subst e
  refine call_ret none_nil ?_
  rintro _ h1 ⟨rfl, e⟩
  have e := e.symm
  subst e
  refine call_ret (none_calls x) ?_
  rintro _ h1 ⟨rfl, e⟩
  have e := e.symm
  subst e
  exact And.intro rfl rfl

theorem sl_slc {α : Type} {enc : α → List Value} {size : Nat} {K : Value → Heap → Prop} {h : Heap} {a : Option Addr} {c : Nat} {l : List α} (hsz : ∀ x, (enc x).length = size) (hs : SL enc h (.slice a l.length c) l) {lo hi : Nat} (h0 : lo ≤ hi) (h1 : hi ≤ l.length)
    (hK : ∀ v, (∀ h', SL enc h' (.slice a l.length c) l → SL enc h' v ((l.drop lo).take (hi - lo))) → K v h) : slcR K h size a c (lo : Int) (hi : Int) := by
  have e1 : ((hi : Int) - (lo : Int)).toNat = hi - lo := by omega
  have e2 : ((c : Int) - (lo : Int)).toNat = c - lo := by omega
  have hlc := hs.len.2
  have hlen : ((l.drop lo).take (hi - lo)).length = hi - lo := by simp; omega
  obtain ⟨a', c', he, hc', h2⟩ := id hs
  cases he
  cases a with
  | none =>
    have hz : l.length = 0 := h2
    unfold slcR
    rw [e1, e2]
    refine hK _ fun h' _ => ⟨none, c - lo, by rw [hlen], by rw [hlen]; omega, ?_⟩
    show ((l.drop lo).take (hi - lo)).length = 0
    omega
  | some a =>
    obtain ⟨b, o, sp⟩ := a
    cases sp with
    | none =>
      intro o' ho1 ho2
      rw [e1, e2]
      refine hK _ fun h' hs' => (SL.cut hsz hs' h0 h1 (fun hlt => ?_) (fun hce => ?_))
      · rw [ho1 (by omega)]; simp
      · exact ho2 (by omega)
    | some q =>
      have hz : l.length = 0 := h2
      unfold slcR
      rw [e1, e2]
      refine And.intro (by omega) (hK _ fun h' _ => ⟨_, c - lo, by rw [hlen], by rw [hlen]; omega, ?_⟩)
      show ((l.drop lo).take (hi - lo)).length = 0
      omega

def DoR (h : Heap) (res : Except ByteArray (Rep × List Eff)) (r : Value) (h' : Heap) : Prop := Chg [] h h' ∧ match res with
  | .ok (q, E) => ∃ v lv, r = .tuple ⟨[v, lv, .bool true]⟩ ∧ RepAt 0 h' v q ∧ SL encD h' lv E ∧ ∀ b ∈ vblk lv, h.size ≤ b
  | .error why => r = .tuple ⟨[repV 2 0 why, .slice none 0 0, .bool true]⟩

def CapOk (h : Heap) : Option Int → List Value → Prop
  | none, cap => cap = []
  | some n, cap => ∃ b o, cap = [.pointer (some ⟨b, o, none⟩)] ∧ cell h b o = some (.int .i64 n)
theorem FnV.cap {h : Heap} {v : Value} {g : Nat} {z : Option Int} (hf : FnV h v g z) : ∃ cap, v = .func (.func g) #[] ⟨cap⟩ ∧ CapOk h z cap := by
  cases z with
  | none => exact ⟨[], hf, rfl⟩
  | some n => obtain ⟨b, o, rfl, hc⟩ := hf; exact ⟨_, rfl, b, o, rfl, hc⟩
theorem CapOk.ext {h h' : Heap} {z : Option Int} {cap : List Value} (x : CapOk h z cap) (hc : Chg [] h h') : CapOk h' z cap := by
  cases z with
  | none => exact x
  | some n => obtain ⟨b, o, rfl, h1⟩ := x; exact ⟨b, o, rfl, cell_chg h1 hc (by simp)⟩

theorem do_calls {h : Heap} {kb sb mb c g : Nat} {now : Int} {av : Value} {w : ByteArray} {A : List ByteArray} {m : List KI} {z : Option Int} {res : Except ByteArray (Rep × List Eff)} (kr : KR h kb sb mb c m)
    (hA : SL encS h av (w :: A)) (hl : (w :: A).length < 4611686018427387904) (hz : w.size < 4611686018427387904) (hno : lookF cmdF (up w) = some (g, z))
    (hf : ∀ h1 ab av' cap, CapOk h1 z cap → AS h h1 ab kb now av' A (.slice none 0 0) [] → CallsH Tryz.prog g ([ptr ab] ++ cap) h1 (CmdR h h1 ab kb now av' A (.slice none 0 0) res)) :
    CallsH Tryz.prog 11 [ptr kb, .int .i64 now, av] h (Ret (DoR h res)) := by
  obtain ⟨a, cc, rfl, hcc⟩ := hA.form
  obtain ⟨b0, o0, rfl⟩ := hA.addr (by simp)
  refine do_D (by simp) ?_
  intro b6 h1 g1
  have w1 := (St.start h).new g1
  intro b7 h2 g2
  have w2 := w1.new g2
  have c2 : Chg [] h h2 := w2.chg
  refine And.intro rfl (And.intro (fun h0 => absurd h0 (by simp; omega)) (fun _ => ?_))
  refine callp (same_nil (kr.ext c2).ks) ?_
  have hA2 := hA.ext c2
  have hc0 := hA2.cells encS_len (i := 0) (x := w) (by simp)
  refine And.intro (by decide) (And.intro (by simp) (Exists.intro _ (And.intro (by simpa using hc0 0 _ rfl) ?_)))
  refine callq_ret cmdsF_calls ?_
  rintro _ h3 ⟨c3, b, es, c', rfl, hm, hfit, hfd⟩
  refine And.intro c3.ext ?_
  refine callq_ret (bword_calls hz) ?_
  rintro _ h4 ⟨rfl, c4⟩
  refine And.intro c4.ext ?_
  refine And.intro rfl (Exists.intro es (Exists.intro c' (And.intro (hm.chg c4 (by simp)) (And.intro hfit ?_))))
  have hfind := hfd (up w)
  rw [hno] at hfind
  obtain ⟨i, v, hfind, hfn⟩ := hfind
  obtain ⟨cap, rfl, hcap⟩ := hfn.cap
  rw [hfind]
  have w4 := (w2.ext c3).ext c4
  refine And.intro (by decide) (And.intro (by simp only [List.length_cons]; omega) (And.intro (by omega) ?_))
  refine sl_slc (lo := 1) (hi := (w :: A).length) encS_len (hA.ext w4.chg) (by simp) (Nat.le_refl _) fun v1 hv1 => ?_
  have e1 : ((w :: A).drop 1).take ((w :: A).length - 1) = A := by simp
  rw [e1] at hv1
  obtain ⟨a1, cc1, rfl, hcc1⟩ := (hv1 h hA).form
  intro ab h5 g5
  have w5 := w4.new g5
  have z4 := w4.chg.size
  have i5 := g5.id
  have x5 : AS h h5 ab kb now (.slice a1 A.length cc1) A (.slice none 0 0) [] :=
    ⟨w5.chg, by omega, fun h' hc => hv1 h' (hA.ext hc), g5.blk, OL.nil, fun b hb => (nomatch (show b ∈ ([] : List Nat) from hb))⟩
  have toAs : ∀ {h6 lv6 E}, AS h h6 ab kb now (.slice a1 A.length cc1) A lv6 E → Aside h5 h6 ab (.slice none 0 0) lv6 → St [] h h6 [asE ab kb now (.slice a1 A.length cc1) lv6 E, .b b7 [.slice none 0 0], .b b6 [.int .i64 0, .int .i64 0, .string ⟨#[]⟩, .slice none 0 0]] := by
    intro h6 lv6 E x6 a6
    refine w5.set 0 rfl a6.2.1 (fun k hk => .inl hk) ⟨x6.blk, x6.effs, fun hm => (x6.own ab hm).2 rfl⟩ fun k hk => ?_
    rcases List.mem_cons.1 hk with rfl | hk
    · exact .inl (by simp [En.fp])
    · rcases a6.1 k hk with h9 | h9
      · exact nomatch (show k ∈ ([] : List Nat) from h9)
      · exact .inr h9
  refine call_out (hf h5 ab _ cap ((hcap.ext c4).ext g5.chg) x5) ?_ ?_
  · rintro v h6 ⟨q, E, he, ⟨ra, rn, rc, rfl, sl, fr⟩, lv6, x6, a6⟩
    subst he
    obtain ⟨la, ln, lc, rfl⟩ : ∃ a n c, lv6 = .slice a n c := let ⟨a, c, e, _⟩ := x6.effs; ⟨a, _, c, e⟩
    have w6 := toAs x6 a6
    have hi6 := g1.id
    have hi7 := g2.id
    have z1 := g1.size
    have z2 := g2.size
    have z3 := (c3.nil c4).size
    have z5 := g5.size
    have keep : ∀ {h7 h8 : Heap} {k : Nat}, k < h5.size → SL encQ h7 (.slice ra rn rc) q.l → Chg [k] h7 h8 → SL encQ h8 (.slice ra rn rc) q.l := fun hk sl hc => sl.chg hc fun b hb => by have := fr b hb; simp; omega
    have l6 : b6 < h5.size := by omega
    have l7 : b7 < h5.size := by omega
    refine w6.st2 2 rfl rfl rfl rfl fun h7 w7 k7 => ?_
    have sl := keep l6 sl k7
    refine w7.ldw 2 rfl rfl ?_
    refine And.intro ?_ ?_
    · refine w7.lda 0 rfl rfl ?_
      refine w7.st2 2 rfl rfl rfl rfl fun h8 w8 k8 => ?_
      refine w8.st2 1 rfl rfl rfl rfl fun h9 w9 k9 => ?_
      have sl := keep l7 (keep l6 sl k8) k9
      refine And.intro (by simp) (dodef_calm.mono ?_)
      rintro e u' h' ⟨⟨v, rfl⟩, rfl, rfl⟩
      exact ⟨_, rfl, cells_blk (w9.get 2 rfl), _, cell_blk (w9.get 1 rfl) rfl, w9.chg, _, _, rfl, ⟨ra, rn, rc, rfl, sl, fun _ _ => Nat.zero_le _⟩, (w9.get 0 rfl).2.1.sl, fun b hb => by
        rcases (w9.ents 0 _ rfl).2 b (List.mem_cons_of_mem _ hb) with h1 | h1
        · cases h1
        · exact h1⟩
    · refine w7.st2 2 rfl rfl rfl rfl fun h8 w8 k8 => ?_
      refine w8.lda 0 rfl rfl ?_
      refine w8.st2 1 rfl rfl rfl rfl fun h9 w9 k9 => ?_
      have sl := keep l7 (keep l6 sl k8) k9
      refine And.intro (by simp) (dodef_calm.mono ?_)
      rintro e u' h' ⟨⟨v, rfl⟩, rfl, rfl⟩
      exact ⟨_, rfl, cells_blk (w9.get 2 rfl), _, cell_blk (w9.get 1 rfl) rfl, w9.chg, _, _, rfl, ⟨ra, rn, rc, rfl, sl, fun _ _ => Nat.zero_le _⟩, (w9.get 0 rfl).2.1.sl, fun b hb => by
        rcases (w9.ents 0 _ rfl).2 b (List.mem_cons_of_mem _ hb) with h1 | h1
        · cases h1
        · exact h1⟩
  · rintro why h6 ⟨he, c6⟩
    subst he
    have w6 := w5.gone 0 rfl c6 (fun k hk => by
      rcases List.mem_cons.1 hk with rfl | hk
      · exact .inl (by simp [En.fp])
      · exact nomatch (show k ∈ ([] : List Nat) from hk))
    have hi6 := g1.id
    have hi7 := g2.id
    have z1 := g1.size
    refine And.intro (by simp) ((dodef_stop (w6.get 2 rfl) rfl (w6.get 1 rfl) (w6.ne 2 1 rfl rfl (by decide))).mono ?_)
    rintro e u' h' ⟨⟨v, rfl⟩, rfl, B6', B7', c7⟩
    exact ⟨_, rfl, cells_blk B6', _, cell_blk B7' rfl, w6.chg.fresh c7 (by simp; omega), rfl⟩

end Go.Proofs.YtgmkldaonkbjgaaGreatDoor
namespace Go.Proofs.YtgmkldaonkbjgaaGreatDoor
open Go Go.Sx Go.Proofs.YtgmkldaonkbjgaaGreatDoor.C

theorem rdo_calls {h : Heap} {kv av : Value} {k : List RX} {now lo hi : Int} {w N : ByteArray} {A : List ByteArray} {res : Res} (hsl : SL encX h kv k) (hgx : GX h k) (hup : UpX k) (hlen : k.length < 4611686018427387904) (hfit : KeysFit k)
    (hA : SL encS h av (w :: A)) (hl : (w :: A).length < 4611686018427387904) (hz : w.size < 4611686018427387904) (hN : up w = N) (hb : BoundR N lo hi) (hout : ¬ (lo ≤ A.length ∧ (A.length : Int) ≤ hi) → res = .error wArgs)
    (hf : ∀ h1 xb av', lo ≤ A.length ∧ (A.length : Int) ≤ hi → RC h kv k av' A → As h h1 (rxE xb kv now av' (.slice none 0 0) [] noText) → CallsH Tryz.prog 38 [ptr xb, .string N] h1 (Ret (ReplyR h h1 xb kv now av' (.slice none 0 0) res))) :
    CallsH Tryz.prog 17 [kv, .int .i64 now, av] h (Ret (DoR h res)) := by
  obtain ⟨ka, kc, rfl, _⟩ := hsl.form
  obtain ⟨a, cc, rfl, hcc⟩ := hA.form
  obtain ⟨b0, o0, rfl⟩ := hA.addr (by simp)
  refine f17_calls (by simp) ?_
  intro b6 h1 g1
  have w1 := (St.start h).new g1
  refine And.intro rfl (And.intro (fun h0 => absurd h0 (by simp; omega)) (fun _ => ?_))
  have hc0 := (hA.ext w1.chg).cells encS_len (i := 0) (x := w) (by simp)
  refine And.intro (by decide) (And.intro (by simp) (Exists.intro _ (And.intro (by simpa using hc0 0 _ rfl) ?_)))
  refine w1.callv (rword_calls hz) fun h2 w2 => ?_
  rw [hN]
  refine callp (hb h2) ?_
  refine And.intro (by decide) (And.intro (by simp only [List.length_cons]; omega) (And.intro (by omega) ?_))
  refine sl_slc (lo := 1) (hi := (w :: A).length) encS_len (hA.ext w2.chg) (by simp) (Nat.le_refl _) fun v1 hv1 => ?_
  have e1 : ((w :: A).drop 1).take ((w :: A).length - 1) = A := by simp
  rw [e1] at hv1
  obtain ⟨a1, cc1, rfl, hcc1⟩ := (hv1 h hA).form
  intro xb h5 g5
  have w5 : St [] h h5 [.b xb [.slice ka k.length kc, .int .i64 now, .slice a1 A.length cc1, .slice none 0 0, .string noText], .b b6 [.int .i64 0, .int .i64 0, .string ⟨#[]⟩, .slice none 0 0]] := w2.new g5
  have z2 := w2.chg.size
  have i5 := g5.id
  have c : RC h (.slice ka k.length kc) k (.slice a1 A.length cc1) A := ⟨hsl, hgx, hup, hlen, hfit, fun h' hc => hv1 h' (hA.ext hc)⟩
  have nomem : xb ∉ vblk (.slice none 0 0) := fun hm => (nomatch (show xb ∈ ([] : List Nat) from hm))
  have w : St [] h h5 [rxE xb (.slice ka k.length kc) now (.slice a1 A.length cc1) (.slice none 0 0) [] noText, .b b6 [.int .i64 0, .int .i64 0, .string ⟨#[]⟩, .slice none 0 0]] :=
    w5.set 0 rfl (Chg.refl _) (by simp) ⟨w5.get 0 rfl, OL.nil, nomem⟩ (fun b hb => by
      rcases List.mem_cons.1 hb with rfl | hb
      · exact .inl (by simp [En.fp])
      · exact (nomatch (show b ∈ ([] : List Nat) from hb)))
  refine call_ret (rmany_calls c (w.as 0 rfl)) ?_
  rintro _ h6 (⟨m1, m2, rfl, _, o6⟩ | ⟨mn, rfl, _, o6⟩)
  rotate_left
  · have w := w.own 0 rfl o6
    refine w.ldr 0 rfl rfl ?_
    refine w.callv rFail_calls fun h7 w => ?_
    refine w.st1 1 rfl rfl rfl rfl fun h8 w => ?_
    rw [hout mn]
    exact ⟨_, rfl, cells_blk (w.get 1 rfl), w.chg, rfl⟩
  have w := w.own 0 rfl o6
  refine call_ret (hf h6 xb _ ⟨m1, m2⟩ c (w.as 0 rfl)) ?_
  rintro _ h7 ⟨q, lv', E, why, ⟨ra, rn, rc, rfl, sl, fr⟩, ⟨_, o7⟩, hd⟩
  have w := w.own 0 rfl o7
  have i6 := g1.id
  have z6 : h.size < h6.size := by have := g1.size; have := w2.chg.size; have := (w1.ext (Chg.refl _)).chg.size; have := o6.chg.size; have := g5.size; omega
  intro b14 h8 g8
  have w := w.new g8
  have i14 := g8.id
  have z7 : h6.size ≤ h7.size := o7.chg.size
  refine w.st2 0 rfl rfl rfl rfl fun h9 w k9 => ?_
  have sl9 : SL encQ h9 (.slice ra rn rc) q.l := sl.ext (g8.chg.fresh k9 (by simp; omega))
  refine w.ldr 1 rfl rfl ?_
  rcases hd with ⟨rfl, hd⟩ | ⟨hne, hd⟩
  · refine And.intro (fun h9 => absurd rfl h9) (fun _ => ?_)
    obtain ⟨la, lc, rfl⟩ := w.rform 1 rfl
    have fin : ∀ {h' : Heap}, St [] h h' [.b b14 [.int .i64 q.k, .int .i64 q.i, .string q.s, .slice ra rn rc], rxE xb (.slice ka k.length kc) now (.slice a1 A.length cc1) (.slice la E.length lc) E noText, .b b6 [.int .i64 q.k, .int .i64 q.i, .string q.s, .slice ra rn rc]] → Chg [b6] h9 h' →
        ∃ vs, vs.length = 4 ∧ Cells h' b6 0 vs ∧ DoR h res (.tuple ⟨[.agg ⟨vs⟩, .slice la E.length lc, .bool true]⟩) h' := fun w k => by
      rw [hd]
      refine ⟨_, rfl, cells_blk (w.get 2 rfl), w.chg, _, _, rfl, ⟨ra, rn, rc, rfl, sl9.chg k (fun b hb => by have := fr b hb; simp; omega), fun _ _ => Nat.zero_le _⟩, (w.get 1 rfl).2.1.sl, fun b hb => ?_⟩
      rcases (w.ents 1 _ rfl).2 b (List.mem_cons_of_mem _ hb) with h1 | h1
      · cases h1
      · exact h1
    refine w.ldw 0 rfl rfl ?_
    refine And.intro ?_ ?_
    · refine w.ldr 1 rfl rfl ?_
      refine w.st2 2 rfl rfl rfl rfl fun h10 w k10 => ?_
      exact fin w k10
    · refine w.st2 2 rfl rfl rfl rfl fun h10 w k10 => ?_
      refine w.ldr 1 rfl rfl ?_
      exact fin w k10
  · refine And.intro (fun _ => ?_) (fun h9 => absurd (fun e => hne e) h9)
    refine w.ldr 1 rfl rfl ?_
    refine w.callv rFail_calls fun h10 w => ?_
    refine w.st1 2 rfl rfl rfl rfl fun h11 w => ?_
    rw [hd]
    exact ⟨_, rfl, cells_blk (w.get 2 rfl), w.chg, rfl⟩

end Go.Proofs.YtgmkldaonkbjgaaGreatDoor
namespace Go.Proofs.YtgmkldaonkbjgaaGreatDoor
open Go Go.Sx Go.Proofs.YtgmkldaonkbjgaaGreatDoor.C

inductive RT where
  | mk (k i : Int) (s : ByteArray) (v : Value) (l : List RT)

def encT : RT → List Value
  | .mk k i s v _ => [.int .i64 k, .int .i64 i, .string s, v]

mutual
def RT.ok (h : Heap) : RT → Prop
  | .mk _ _ _ v l => SL encT h v l ∧ l.length < 4611686018427387904 ∧ RT.oks h l
def RT.oks (h : Heap) : List RT → Prop
  | [] => True
  | t :: l => t.ok h ∧ RT.oks h l
end

mutual
def RT.same : RT → RT → Bool
  | .mk k i s _ l, .mk k' i' s' _ m => decide (k = k') && decide (i = i') && decide (s = s') && RT.sames l m
def RT.sames : List RT → List RT → Bool
  | [], [] => true
  | x :: l, y :: m => x.same y && RT.sames l m
  | _, _ => false
end

mutual
theorem RT.ok.ext {h h' : Heap} (hc : Chg [] h h') : ∀ {t : RT}, t.ok h → t.ok h'
  | .mk _ _ _ _ _, ⟨h1, h2, h3⟩ => ⟨h1.ext hc, h2, RT.oks.ext hc h3⟩
theorem RT.oks.ext {h h' : Heap} (hc : Chg [] h h') : ∀ {l : List RT}, RT.oks h l → RT.oks h' l
  | [], _ => trivial
  | _ :: _, ⟨h1, h2⟩ => ⟨h1.ext hc, RT.oks.ext hc h2⟩
end

theorem RT.oks.mem {h : Heap} : ∀ {l : List RT}, RT.oks h l → ∀ t ∈ l, t.ok h
  | _ :: _, ⟨h1, h2⟩, t, ht => by
    rcases List.mem_cons.1 ht with rfl | ht
    · exact h1
    · exact RT.oks.mem h2 t ht

theorem encT_len : ∀ t, (encT t).length = 4
  | .mk _ _ _ _ _ => rfl

theorem RT.ok.ones {h : Heap} : ∀ {t : RT}, t.ok h → ∀ u ∈ encT t, u.oneCell' = true
  | .mk k i s v l, ⟨h1, _⟩, u, hu => by
    obtain ⟨a, c, rfl, _⟩ := h1.form
    simp [encT] at hu
    rcases hu with rfl | rfl | rfl | rfl <;> rfl

theorem sames_len : ∀ {l m : List RT}, l.length ≠ m.length → RT.sames l m = false
  | [], [], h => absurd rfl h
  | [], _ :: _, _ => by simp [RT.sames]
  | _ :: _, [], _ => by simp [RT.sames]
  | x :: l, y :: m, h => by
    simp only [RT.sames, Bool.and_eq_false_iff]
    exact .inr (sames_len (by simpa using h))

mutual
theorem RT.same_refl : ∀ t : RT, t.same t = true
  | .mk _ _ _ _ l => by simp [RT.same, RT.sames_refl l]
theorem RT.sames_refl : ∀ l : List RT, RT.sames l l = true
  | [] => by simp [RT.sames]
  | t :: l => by simp [RT.sames, RT.same_refl t, RT.sames_refl l]
end

theorem sames_drop {l m : List RT} {q : Nat} (hl : q < l.length) (hm : q < m.length) : RT.sames (l.drop q) (m.drop q) = (l[q].same m[q] && RT.sames (l.drop (q + 1)) (m.drop (q + 1))) := by
  rw [List.drop_eq_getElem_cons hl, List.drop_eq_getElem_cons hm, RT.sames]

theorem sizeOf_item {k i : Int} {s : ByteArray} {v : Value} {l : List RT} {q : Nat} (hq : q < l.length) : SizeOf.sizeOf l[q] < SizeOf.sizeOf (RT.mk k i s v l) := by
  have h1 := List.sizeOf_lt_of_mem (List.getElem_mem hq)
  rw [RT.mk.sizeOf_spec]; omega

theorem rsame_calls : ∀ (n : Nat) (a b : RT) (h : Heap), SizeOf.sizeOf a < n → a.ok h → b.ok h → CallsH Tryz.prog 18 [.agg ⟨encT a⟩, .agg ⟨encT b⟩] h (Ret fun r h' => r = .bool (a.same b) ∧ Chg [] h h')
  | 0, _, _, _, hn, _, _ => absurd hn (by omega)
  | n + 1, .mk k i s v l, .mk k' i' s' v' m, h, hn, ⟨hv, hl, hls⟩, ⟨hu, hm, hms⟩ => by
    obtain ⟨x, c, rfl, hlc⟩ := hv.form
    obtain ⟨x', c', rfl, hmc⟩ := hu.form
    have hs : RT.same (.mk k i s (.slice x l.length c) l) (.mk k' i' s' (.slice x' m.length c') m) = (decide (k = k') && decide (i = i') && decide (s = s') && RT.sames l m) := by rw [RT.same]
    rw [hs]
    refine f18_calls (by simp) ?_
    intro b1 h1 g1 b2 h2 g2
    have B1 : Blk h2 b1 [.int .i64 k, .int .i64 i, .string s, .slice x l.length c] := Blk.chg g1.blk g2.chg (by simp)
    have B2 : Blk h2 b2 [.int .i64 k', .int .i64 i', .string s', .slice x' m.length c'] := g2.blk
    have ch : Chg [] h h2 := g1.chg.nil g2.chg
    refine Exists.intro _ (And.intro (cell_blk B1 rfl) (Exists.intro _ (And.intro (cell_blk B2 rfl) (And.intro rfl (And.intro (fun hne => ?_) (fun he => ?_))))))
    · exact And.intro (by rw [decide_eq_false hne]; rfl) ch
    have he : k = k' := Classical.not_not.1 he
    refine Exists.intro _ (And.intro (cell_blk B1 rfl) (Exists.intro _ (And.intro (cell_blk B2 rfl) (And.intro rfl (And.intro (fun hne => ?_) (fun he2 => ?_))))))
    · exact And.intro (by rw [decide_eq_false hne, Bool.and_false]; rfl) ch
    have he2 : i = i' := Classical.not_not.1 he2
    refine Exists.intro _ (And.intro (cell_blk B1 rfl) (Exists.intro _ (And.intro (cell_blk B2 rfl) (And.intro (fun hne => ?_) (fun he3 => ?_)))))
    · exact And.intro (by rw [decide_eq_false hne, Bool.and_false]; rfl) ch
    have he3 : s = s' := Classical.not_not.1 he3
    rw [decide_eq_true he, decide_eq_true he2, decide_eq_true he3, Bool.true_and, Bool.true_and, Bool.true_and]
    refine Exists.intro _ (And.intro (cell_blk B1 rfl) (Exists.intro _ (And.intro (cell_blk B2 rfl) (And.intro rfl (And.intro (fun hne => ?_) (fun he4 => ?_))))))
    · exact And.intro (by rw [sames_len (by omega)]; rfl) ch
    have he4 : l.length = m.length := by omega
    clear hs he he2 he3 g1 g2
    refine loop_intro (fun q : Nat => [(2, .pointer (some ⟨b1, 0, none⟩)), (3, .pointer (some ⟨b2, 0, none⟩)), (5, .int .i64 q)]) (fun q h' => q ≤ l.length ∧ Chg [] h2 h' ∧ RT.sames l m = RT.sames (l.drop q) (m.drop q)) (fun q => l.length - q) 0 ⟨rfl, rfl, rfl, trivial⟩ ⟨Nat.zero_le _, Chg.refl _, rfl⟩ ?_
    rintro q h3 ⟨hq, hc3, hr⟩
    have C1 := B1.chg hc3 (by simp)
    have C2 := B2.chg hc3 (by simp)
    refine Exists.intro _ (And.intro (cell_blk C1 rfl) (And.intro rfl (And.intro (fun hlt => ?_) (fun hge => ?_))))
    · have hlt : q < l.length := by omega
      have hltm : q < m.length := by omega
      have hch := ch.nil hc3
      obtain ⟨b, o, rfl⟩ := hv.addr (by omega)
      obtain ⟨b', o', rfl⟩ := hu.addr (by omega)
      have hcs := (hv.ext hch).cells encT_len (i := q) (x := l[q]) (by simp [hlt])
      have hds := (hu.ext hch).cells encT_len (i := q) (x := m[q]) (by simp [hltm])
      refine Exists.intro _ (And.intro (cell_blk C1 rfl) ?_)
      refine And.intro (by omega) (And.intro (by omega) (Exists.intro (encT l[q]) (And.intro (encT_len _) (And.intro hcs ?_))))
      refine Exists.intro _ (And.intro (cell_blk C2 rfl) ?_)
      refine And.intro (by omega) (And.intro (by omega) (Exists.intro (encT m[q]) (And.intro (encT_len _) (And.intro hds ?_))))
      refine call_ret (rsame_calls n l[q] m[q] h3 (by have := sizeOf_item (k := k) (i := i) (s := s) (v := .slice (some ⟨b, o, none⟩) l.length c) hlt; omega) ((hls.mem _ (List.getElem_mem hlt)).ext hch) ((hms.mem _ (List.getElem_mem hltm)).ext hch)) ?_
      rintro r h4 ⟨hrr, hc4⟩
      rw [sames_drop hlt hltm] at hr
      cases hsm : l[q].same m[q] with
      | false =>
        rw [hsm] at hrr hr
        subst hrr
        exact And.intro (by rw [hr]; rfl) (hch.nil hc4)
      | true =>
        rw [hsm] at hrr hr
        subst hrr
        refine And.intro rfl (fun z hz => ?_)
        have hz := add_in hz (by omega) (by omega)
        subst hz
        refine And.intro rfl (Exists.intro (q + 1) (And.intro ⟨rfl, rfl, rfl, trivial⟩ (And.intro ⟨by omega, hc3.nil hc4, by rw [hr, Bool.true_and]⟩ (by omega))))
    · have hkl : q = l.length := by omega
      subst hkl
      rw [List.drop_length, he4, List.drop_length, RT.sames] at hr
      exact And.intro (by rw [hr]; rfl) (ch.nil hc3)

end Go.Proofs.YtgmkldaonkbjgaaGreatDoor
namespace Go.Proofs.YtgmkldaonkbjgaaGreatDoor
open Go Go.Sx Go.Proofs.YtgmkldaonkbjgaaGreatDoor.C

section
variable {h0 h : Heap} {ab kb sb mb c : Nat} {now n : Int} {av lv : Value} {A : List ByteArray} {m : List KI} {S : Space} {key s a : ByteArray} {t : Thing} {go : Option Thing} {q : Rep} {E : List Eff}

def KindS (S : Space) : Prop := ∀ p ∈ S, 1 ≤ p.2.kind ∧ p.2.kind ≤ 5
def UntS (S : Space) : Prop := ∀ p ∈ S, In64 p.2.unt
end

end Go.Proofs.YtgmkldaonkbjgaaGreatDoor
namespace Go.Proofs.YtgmkldaonkbjgaaGreatDoor
open Go Go.Sx Go.Proofs.YtgmkldaonkbjgaaGreatDoor.C

section
variable {h0 h : Heap} {ab kb sb mb c : Nat} {now n : Int} {av lv : Value} {A : List ByteArray} {m : List KI} {S : Space}

end

structure CM (es : List MapEntry) (pre : List ByteArray) : Prop where
  fits : ∀ e ∈ es, fits .str e.key = true
  cnt : ∀ k, (mfind (.string k) es 0 = none ∧ k ∉ pre) ∨ (∃ i, mfind (.string k) es 0 = some (i, .int .i64 (cntB k pre)) ∧ k ∈ pre)

theorem CM.nil : CM [] [] := ⟨by simp, fun k => .inl ⟨rfl, by simp⟩⟩
theorem CM.hit {es : List MapEntry} {pre : List ByteArray} {k : ByteArray} (x : CM es (pre ++ [k])) : ∃ i, mfind (.string k) es 0 = some (i, .int .i64 (cntB k pre + 1 : Nat)) := by
  rcases x.cnt k with ⟨_, h2⟩ | ⟨i, h1, _⟩
  · exact absurd (by simp) h2
  · rw [cntB_snoc, if_pos rfl] at h1
    exact ⟨i, h1⟩

end Go.Proofs.YtgmkldaonkbjgaaGreatDoor
namespace Go.Proofs.YtgmkldaonkbjgaaGreatDoor
open Go Go.Sx Go.Proofs.YtgmkldaonkbjgaaGreatDoor.C

section
variable {h0 h h' : Heap} {ab kb sb mb c b2 : Nat} {now n : Int} {av lv v : Value} {A : List ByteArray} {m : List KI} {S : Space} {M : List En} {E : List Eff} {res : Except ByteArray (Rep × List Eff)} {ls : List (Int × Int × ByteArray)}

theorem _root_.Go.Sx.St.empty {T : List Nat} {α : Type} {enc : α → List Value} {size : Nat} (w : St T h0 h M) : St T h0 h (.o enc size (.slice none 0 0) ([] : List α) :: M) :=
  w.add (e := .o enc size (.slice none 0 0) ([] : List α)) (Chg.refl _) OL.nil (fun b hb => (nomatch (show b ∈ ([] : List Nat) from hb)))

end

end Go.Proofs.YtgmkldaonkbjgaaGreatDoor
namespace Go.Proofs.YtgmkldaonkbjgaaGreatDoor
open Go Go.Sx Go.Proofs.YtgmkldaonkbjgaaGreatDoor.C

section
variable {h0 h : Heap} {ab kb sb mb c : Nat} {now n : Int} {av lv : Value} {A : List ByteArray} {m : List KI} {S : Space}

end

end Go.Proofs.YtgmkldaonkbjgaaGreatDoor
namespace Go.Proofs.YtgmkldaonkbjgaaGreatDoor
open Go Go.Sx Go.Proofs.YtgmkldaonkbjgaaGreatDoor.C

section
variable {h0 h h' : Heap} {ab kb sb mb c l D b2 : Nat} {now n : Int} {av lv : Value} {A : List ByteArray} {m : List KI} {S : Space} {T : List Nat} {M : List En} {r : Loop} {st st' : LoopState} {key s W N : ByteArray} {res : Res}

def lpE (l D : Nat) (r : Loop) (st : LoopState) : En :=
  .x [l, D] (fun h => LoopB h l r st none ∧ h[D]? = some (.deferred (some []))) (fun S h h' hc hn ⟨h1, h2⟩ => ⟨loopB_chg h1 hc (hn _ (by simp)), get_chg h2 hc (hn _ (by simp))⟩)
    (fun h ⟨h1, h2⟩ b hb => by
      rcases List.mem_cons.1 hb with rfl | hb
      · exact get_lt h1.at_
      · rw [List.mem_singleton.1 hb]; exact get_lt h2)
theorem _root_.Go.Sx.St.turn (w : St T h0 h M) (i : Nat) (hi : M[i]? = some (lpE l D r st)) (hne : D ≠ l) (t : Turn h h' l r st' none) : St T h0 h' (M.set i (lpE l D r st')) := by
  refine w.set i hi t.chg (fun b hb => .inl (by simp at hb; simp [lpE, En.fp, hb])) ⟨t.rec_, ?_⟩ (fun b hb => .inl hb)
  rw [t.old D hne]; exact (w.get i hi).2
def ltE (p : Nat) : En := .x [p] (fun h => p < h.size) (fun _ _ _ hc _ h1 => Nat.lt_of_lt_of_le h1 hc.size) (fun h h1 b hb => by rw [List.mem_singleton.1 hb]; exact h1)
def fixE (p : Nat) (o : Option Obj) : En := .x [p] (fun h => p < h.size ∧ h[p]? = o) (fun _ _ _ hc hn ⟨h1, h2⟩ => ⟨Nat.lt_of_lt_of_le h1 hc.size, by rw [hc.old p h1 (hn _ (by simp))]; exact h2⟩) (fun h h1 b hb => by rw [List.mem_singleton.1 hb]; exact h1.1)

end

end Go.Proofs.YtgmkldaonkbjgaaGreatDoor
namespace Go.Proofs.YtgmkldaonkbjgaaGreatDoor
open Go Go.Sx Go.Proofs.YtgmkldaonkbjgaaGreatDoor.C

def allS : Space → List Eff → Option Space
  | S, [] => some S
  | S, e :: E => if (fateS S e).num = 0 then allS ((fateS S e).space S e.key) E else none

theorem all_append : ∀ {E F : List Eff} {S : Space}, allS S (E ++ F) = (allS S E).bind fun S' => allS S' F
  | [], F, S => rfl
  | e :: E, F, S => by
    simp only [List.cons_append, allS]
    split
    · exact all_append
    · rfl
theorem all_then {E F : List Eff} {S S1 S2 : Space} (h1 : allS S E = some S1) (h2 : allS S1 F = some S2) : allS S (E ++ F) = some S2 := by rw [all_append, h1]; exact h2
theorem all_one {e : Eff} {S : Space} (h : (fateS S e).num = 0) : allS S [e] = some ((fateS S e).space S e.key) := by simp only [allS]; rw [if_pos h]

theorem find_put {S : Space} {key k : ByteArray} {t : Thing} (hu : UpS S) : findS (putS S key t) k = if k = key then some t else findS S k := by
  split
  · rename_i e
    subst e
    exact findS_some (up_putS hu) (mem_putS.2 (.inl rfl))
  · rename_i hne
    cases hf : findS S k with
    | none =>
      refine findS_none fun p hp e => ?_
      rcases mem_putS.1 hp with rfl | ⟨h1, _⟩
      · exact hne e.symm
      · have : findS S p.1 = some p.2 := findS_some hu h1
        rw [e, hf] at this; cases this
    | some u => exact findS_some (up_putS hu) (mem_putS.2 (.inr ⟨findS_mem hf, hne⟩))
theorem find_drop {S : Space} {key k : ByteArray} (hu : UpS S) : findS (dropS S key) k = if k = key then none else findS S k := by
  split
  · rename_i e
    subst e
    exact findS_none fun p hp e => (mem_dropS.1 hp).2 e
  · rename_i hne
    cases hf : findS S k with
    | none =>
      refine findS_none fun p hp e => ?_
      have : findS S p.1 = some p.2 := findS_some hu (mem_dropS.1 hp).1
      rw [e, hf] at this; cases this
    | some u => exact findS_some (up_dropS hu) (mem_dropS.2 ⟨findS_mem hf, hne⟩)
theorem len_drop {S : Space} {key : ByteArray} : (dropS S key).length ≤ S.length := List.length_filter_le _ _
theorem len_parts : ∀ (S : Space) (key : ByteArray), (S.filter fun p => sless p.1 key).length + (S.filter fun p => sless key p.1).length ≤ S.length
  | [], _ => Nat.le_refl _
  | p :: S, key => by
    have ih := len_parts S key
    simp only [List.filter_cons]
    split
    · rename_i h1
      split
      · rename_i h2
        have := sless_trans h1 h2
        rw [sless_irrefl] at this; cases this
      · simp; omega
    · split <;> simp <;> omega
theorem len_put {S : Space} {key : ByteArray} {t : Thing} : (putS S key t).length ≤ S.length + 1 := by
  have := len_parts S key
  unfold putS
  simp; omega

section
variable {S : Space} {k s : ByteArray} {t : Thing} {n : Int}

theorem oneF_some {e : Eff} {r : Rule} {full : Bool} (hr : ruleR e.op = some r) (h1 : ¬ ((r.name = false ∧ e.name ≠ noText) ∨ (r.text = false ∧ e.text ≠ noText) ∨ (r.number = false ∧ e.num ≠ 0)))
    (h2 : ¬ (1048576 < e.key.size ∨ 1048576 < e.name.size ∨ 1048576 < e.text.size)) (h3 : ¬ (r.kind ≠ 0 ∧ t.kind ≠ r.kind)) : oneF (some t) e full = endF (doneT t e) true full := by
  unfold oneF
  rw [hr]
  simp only
  rw [if_neg h1, if_neg h2, if_neg h3]
theorem oneF_none {e : Eff} {r : Rule} {full : Bool} (hr : ruleR e.op = some r) (h1 : ¬ ((r.name = false ∧ e.name ≠ noText) ∨ (r.text = false ∧ e.text ≠ noText) ∨ (r.number = false ∧ e.num ≠ 0)))
    (h2 : ¬ (1048576 < e.key.size ∨ 1048576 < e.name.size ∨ 1048576 < e.text.size)) (h3 : ¬ r.makes = false) : oneF none e full = endF (doneT { zeroT with kind := r.kind } e) false full := by
  unfold oneF
  rw [hr]
  simp only
  rw [if_neg h1, if_neg h2, if_neg h3]
theorem no_size : noText.size = 0 := rfl

theorem fate_gone (hf : findS S k = some t) (hk : k.size ≤ 1048576) : fateS S (goneE k) = .drop := by
  show oneF (findS S k) (goneE k) _ = _
  rw [hf, oneF_some (r := ⟨false, false, false, 0, false, 117⟩) rfl (by rintro (⟨_, h⟩ | ⟨_, h⟩ | ⟨_, h⟩) <;> exact h rfl)
    (by rintro (h | h | h)
        · exact absurd h (by show ¬ 1048576 < k.size; omega)
        · exact absurd h (by show ¬ 1048576 < noText.size; rw [no_size]; decide)
        · exact absurd h (by show ¬ 1048576 < noText.size; rw [no_size]; decide)) (fun h => h.1 rfl)]
  rfl

theorem end_text (there : Bool) (hl : S.length < 65536) : endF (textT s, 0) there (decide (65536 ≤ S.length)) = .put (textT s) := by
  unfold endF
  rw [if_neg (fun h => h rfl), if_neg (fun h => h.1 rfl), if_neg]
  rintro (h | ⟨_, h⟩)
  · exact absurd h (by show ¬ 65536 < (0 : Nat) + 0 + 0; omega)
  · have := of_decide_eq_true h; omega
theorem fate_text (hl : S.length < 65536) (hk : k.size ≤ 1048576) (hs : s.size ≤ 1048576) : fateS S (textE k s) = .put (textT s) := by
  have h1 : ¬ (((⟨false, true, false, 0, true, 118⟩ : Rule).name = false ∧ (textE k s).name ≠ noText) ∨ ((⟨false, true, false, 0, true, 118⟩ : Rule).text = false ∧ (textE k s).text ≠ noText) ∨ ((⟨false, true, false, 0, true, 118⟩ : Rule).number = false ∧ (textE k s).num ≠ 0)) := by
    rintro (⟨_, h⟩ | ⟨h, _⟩ | ⟨_, h⟩)
    · exact h rfl
    · cases h
    · exact h rfl
  have h2 : ¬ (1048576 < (textE k s).key.size ∨ 1048576 < (textE k s).name.size ∨ 1048576 < (textE k s).text.size) := by
    rintro (h | h | h)
    · exact absurd h (by show ¬ 1048576 < k.size; omega)
    · exact absurd h (by show ¬ 1048576 < noText.size; rw [no_size]; decide)
    · exact absurd h (by show ¬ 1048576 < s.size; omega)
  show oneF (findS S k) (textE k s) _ = _
  cases findS S k with
  | none => rw [oneF_none (r := ⟨false, true, false, 0, true, 118⟩) rfl h1 h2 (by decide)]; exact end_text false hl
  | some t => rw [oneF_some (r := ⟨false, true, false, 0, true, 118⟩) rfl h1 h2 (fun h => h.1 rfl)]; exact end_text true hl

theorem endF_stay {t' : Thing} {full : Bool} (hc : countT t' ≤ 65536) : (endF (t', 0) true full).num = 0 ∧ (t'.kind = 1 → endF (t', 0) true full = .put t') := by
  unfold endF
  rw [if_neg (fun h => h rfl)]
  have hc' : ¬ (65536 < countT (t', (0 : Int)).1 ∨ (true = false ∧ full = true)) := by
    rintro (h | ⟨h, _⟩)
    · exact absurd h (by show ¬ 65536 < countT t'; omega)
    · cases h
  by_cases h1 : (t', (0 : Int)).1.kind ≠ 1 ∧ countT (t', (0 : Int)).1 = 0
  · rw [if_pos h1]; exact ⟨rfl, fun h => absurd h h1.1⟩
  · rw [if_neg h1, if_neg hc']; exact ⟨rfl, fun _ => rfl⟩
theorem fate_until (hf : findS S k = some t) (hk : k.size ≤ 1048576) (hc : countT t ≤ 65536) : (fateS S (untilE k n)).num = 0 ∧ (t.kind = 1 → fateS S (untilE k n) = .put { t with hasU := true, unt := n }) := by
  have e : fateS S (untilE k n) = endF ({ t with hasU := true, unt := n }, 0) true (decide (65536 ≤ S.length)) := by
    show oneF (findS S k) (untilE k n) _ = _
    rw [hf, oneF_some (r := ⟨false, false, true, 0, false, 119⟩) rfl (by
      rintro (⟨_, h⟩ | ⟨_, h⟩ | ⟨h, _⟩)
      · exact h rfl
      · exact h rfl
      · cases h) (by
      rintro (h | h | h)
      · exact absurd h (by show ¬ 1048576 < k.size; omega)
      · exact absurd h (by show ¬ 1048576 < noText.size; rw [no_size]; decide)
      · exact absurd h (by show ¬ 1048576 < noText.size; rw [no_size]; decide)) (fun h => h.1 rfl)]
    rfl
  rw [e]
  exact endF_stay (t' := { t with hasU := true, unt := n }) hc

end

def KeyS (S : Space) : Prop := ∀ p ∈ S, p.1.size ≤ 1048576
theorem KeyS.of {S : Space} (hk : KeyS S) {k : ByteArray} {t : Thing} (h : findS S k = some t) : k.size ≤ 1048576 := hk _ (findS_mem h)

theorem all_text {S : Space} {k s : ByteArray} (hu : UpS S) (hl : S.length < 65536) (hk : k.size ≤ 1048576) (hs : s.size ≤ 1048576) : allS S [textE k s] = some (putS S k (textT s)) := by
  have hf := fate_text (k := k) (s := s) hl hk hs
  rw [all_one (by rw [hf]; rfl), hf]; rfl
theorem all_drops {S : Space} {k : ByteArray} {now : Int} (hu : UpS S) (hk : k.size ≤ 1048576) : ∃ S', allS S (dropsS S k now) = some S' ∧ UpS S' ∧ S'.length ≤ S.length ∧ (∀ k', k' ≠ k → findS S' k' = findS S k') := by
  unfold dropsS
  split
  · rename_i hc
    obtain ⟨t, ht⟩ := Option.isSome_iff_exists.1 hc.1
    have hf := fate_gone ht hk
    refine ⟨dropS S k, by rw [all_one (by rw [hf]; rfl), hf]; rfl, up_dropS hu, len_drop, fun k' hne => ?_⟩
    rw [find_drop hu, if_neg hne]
  · exact ⟨S, rfl, hu, Nat.le_refl _, fun _ _ => rfl⟩

theorem all_put {S : Space} {k s : ByteArray} {now : Int} {stays : Bool} (hu : UpS S) (hl : S.length < 65536) (hk : k.size ≤ 1048576) (hs : s.size ≤ 1048576) :
    ∃ S' u v, allS S (putE S k s now stays) = some S' ∧ UpS S' ∧ findS S' k = some { textT s with hasU := u, unt := v } ∧ (stays = false → u = false ∧ v = 0) ∧ S'.length ≤ S.length + 2 := by
  obtain ⟨S1, h1, u1, l1, _⟩ := all_drops (now := now) hu hk
  have h2 := all_text (S := S1) (k := k) (s := s) u1 (by omega) hk hs
  have f2 : findS (putS S1 k (textT s)) k = some (textT s) := by rw [find_put u1, if_pos rfl]
  have l2 := len_put (S := S1) (key := k) (t := textT s)
  unfold putE
  have none_ : keepE (getS S k now) k stays = [] → ∃ S' u v, allS S (dropsS S k now ++ ([textE k s] ++ keepE (getS S k now) k stays)) = some S' ∧ UpS S' ∧ findS S' k = some { textT s with hasU := u, unt := v } ∧ (stays = false → u = false ∧ v = 0) ∧ S'.length ≤ S.length + 2 := fun e => by
    rw [e]
    exact ⟨_, false, 0, all_then h1 h2, up_putS u1, f2, fun _ => ⟨rfl, rfl⟩, by omega⟩
  cases hg : getS S k now with
  | none => rw [hg] at none_; exact none_ rfl
  | some t =>
    rw [hg] at none_
    by_cases hc : stays = true ∧ t.hasU = true
    · have e : keepE (some t) k stays = [untilE k t.unt] := if_pos hc
      rw [e]
      have hf := (fate_until (n := t.unt) f2 hk (by show (0 : Nat) + 0 + 0 ≤ 65536; omega)).2 rfl
      have h3 : allS (putS S1 k (textT s)) [untilE k t.unt] = some (putS (putS S1 k (textT s)) k { textT s with hasU := true, unt := t.unt }) := by
        rw [all_one (by rw [hf]; rfl), hf]; rfl
      refine ⟨_, true, t.unt, all_then h1 (all_then h2 h3), up_putS (up_putS u1), by rw [find_put (up_putS u1), if_pos rfl], fun hs => ?_, ?_⟩
      · rw [hs] at hc; cases hc.1
      · have := len_put (S := putS S1 k (textT s)) (key := k) (t := { textT s with hasU := true, unt := t.unt })
        omega
    · exact none_ (if_neg hc)

structure Few (S : Space) : Prop where
  up : UpS S
  keys : KeyS S
  len : S.length ≤ 20
  ins : InS S

theorem putR_done {S : Space} {k s : ByteArray} {now : Int} {stays : Bool} {r q : Rep} {E : List Eff} (f : Few S) (h : putR S k s now stays r = .ok (q, E)) : ∃ S', allS S E = some S' := by
  unfold putR at h
  split at h
  · rename_i hc
    simp at h
    obtain ⟨_, rfl⟩ := h
    have := f.len
    obtain ⟨S', _, _, h1, _⟩ := all_put (now := now) (stays := stays) f.up (by omega) hc.2 hc.1
    exact ⟨S', h1⟩
  · cases h

end Go.Proofs.YtgmkldaonkbjgaaGreatDoor
namespace Go.Proofs.YtgmkldaonkbjgaaGreatDoor
open Go Go.Sx Go.Proofs.YtgmkldaonkbjgaaGreatDoor.C

theorem tin8 {t : Thing} (hk : kOK t = true) (s : Small t) : TIn t := by
  have few : countT t ≤ 65536 := (small_short s).2.2.2
  unfold kOK at hk
  split at hk
  · cases hk
  split at hk
  · rename_i h1
    have hk := of_decide_eq_true hk
    have p : t.pairs = [] := List.length_eq_zero_iff.1 (by omega)
    have l : t.list = [] := List.length_eq_zero_iff.1 (by omega)
    have r : t.ranks = [] := List.length_eq_zero_iff.1 (by omega)
    exact ⟨⟨by rw [p]; exact .nil, fun _ => by rw [l]; exact .nil, by rw [r]; exact .nil, by rw [r]; exact List.nodup_nil, fun h => by omega, few⟩, fun h => by omega⟩
  split at hk
  · rename_i h1
    simp only [Bool.and_eq_true, decide_eq_true_eq] at hk
    obtain ⟨h2, h3, h4, h5⟩ := hk
    have r : t.ranks = [] := List.length_eq_zero_iff.1 (by omega)
    exact ⟨⟨rising_lt (lt := fun x y : Pair => sless x.name y.name) (fun a b c => sless_trans) h5, fun h => by omega, by rw [r]; exact .nil, by rw [r]; exact List.nodup_nil, fun h => by omega, few⟩, fun h => by omega⟩
  split at hk
  · rename_i h1
    simp only [Bool.and_eq_true, decide_eq_true_eq] at hk
    obtain ⟨h2, h3, h4⟩ := hk
    have p : t.pairs = [] := List.length_eq_zero_iff.1 (by omega)
    have r : t.ranks = [] := List.length_eq_zero_iff.1 (by omega)
    exact ⟨⟨by rw [p]; exact .nil, fun h => by omega, by rw [r]; exact .nil, by rw [r]; exact List.nodup_nil, fun _ => ⟨p, r⟩, few⟩, fun _ => List.length_pos_iff.1 h2⟩
  split at hk
  · rename_i h1
    simp only [Bool.and_eq_true, decide_eq_true_eq] at hk
    obtain ⟨h2, h3, h4, h5⟩ := hk
    have p : t.pairs = [] := List.length_eq_zero_iff.1 (by omega)
    have r : t.ranks = [] := List.length_eq_zero_iff.1 (by omega)
    exact ⟨⟨by rw [p]; exact .nil, fun _ => rising_lt (lt := sless) (fun a b c => sless_trans) h5, by rw [r]; exact .nil, by rw [r]; exact List.nodup_nil, fun h => by omega, few⟩, fun h => by omega⟩
  split at hk
  · rename_i h1
    simp only [Bool.and_eq_true, decide_eq_true_eq] at hk
    obtain ⟨h2, h3, h4, h5, h6⟩ := hk
    have p : t.pairs = [] := List.length_eq_zero_iff.1 (by omega)
    exact ⟨⟨by rw [p]; exact .nil, fun h => by omega, rising_lt ahead_tr h5, of_decide_eq_true h6, fun h => by omega, few⟩, fun h => by omega⟩
  · cases hk

theorem named8 {t : Thing} (s : Small t) : Named t := ⟨fun x hx => by have := s.ps x hx; omega, fun x hx => by have := s.ls x hx; omega, fun x hx => by have := s.rs x hx; omega⟩

theorem rg8 {l k : List RX} (nv : NVast l) (hk : ofX [] l = some k) : RG k := by
  obtain ⟨h1, h2, h3⟩ := ofX_ok List.Pairwise.nil hk
  have hn := (ofX_nodup List.Pairwise.nil hk).2
  have hm : ∀ x ∈ k, x ∈ l := fun x hx => by simpa using (h2 x).1 hx
  have hl := nv.len
  have hlk : k.length = l.length := by simpa using h3
  exact ⟨h1, by omega, fun x hx => nv.fit x (hm x hx), fun x hx => tin8 (hn x (hm x hx)) (nv.small x (hm x hx)), fun x hx => named8 (nv.small x (hm x hx))⟩


theorem kind8 {t : Thing} (hk : kOK t = true) : 1 ≤ t.kind ∧ t.kind ≤ 5 := by
  unfold kOK at hk
  split at hk
  · cases hk
  split at hk
  · omega
  split at hk
  · omega
  split at hk
  · omega
  split at hk
  · omega
  split at hk
  · omega
  · cases hk

structure S8 (S : Space) : Prop where
  few : Few S
  kind : KindS S
  text : TextS S
  unt : UntS S

theorem s8_of {l k : List RX} (nv : NVast l) (hk : ofX [] l = some k) (hu : ∀ x ∈ l, In64 x.thing.unt) : S8 (k.map RX.pr) := by
  obtain ⟨h1, h2, h3⟩ := ofX_ok List.Pairwise.nil hk
  have hn := (ofX_nodup List.Pairwise.nil hk).2
  have hm : ∀ x ∈ k, x ∈ l := fun x hx => by simpa using (h2 x).1 hx
  have hl := nv.len
  have hlk : k.length = l.length := by simpa using h3
  have rg := rg8 nv hk
  have of : ∀ p ∈ k.map RX.pr, ∃ x ∈ l, RX.pr x = p := fun p hp => by
    obtain ⟨x, hx, rfl⟩ := List.mem_map.1 hp
    exact ⟨x, hm x hx, rfl⟩
  refine ⟨⟨pr_up h1, fun p hp => ?_, by simp; omega, rg.ins⟩, fun p hp => ?_, fun p hp => ?_, fun p hp => ?_⟩
  · obtain ⟨x, hx, rfl⟩ := of p hp
    have := nv.keys x hx
    show x.key.size ≤ 1048576
    omega
  · obtain ⟨x, hx, rfl⟩ := of p hp
    exact kind8 (hn x hx)
  · obtain ⟨x, hx, rfl⟩ := of p hp
    have := (nv.small x hx).text
    show x.thing.text.size < 281474976710656
    omega
  · obtain ⟨x, hx, rfl⟩ := of p hp
    exact hu x hx

end Go.Proofs.YtgmkldaonkbjgaaGreatDoor
namespace Go.Proofs.YtgmkldaonkbjgaaGreatDoor
open Go Go.Sx Go.Proofs.YtgmkldaonkbjgaaGreatDoor.C

theorem do_plain {h : Heap} {kb sb mb c g : Nat} {now : Int} {av : Value} {w : ByteArray} {A : List ByteArray} {m : List KI} {res : Res} (kr : KR h kb sb mb c m)
    (hA : SL encS h av (w :: A)) (hl : (w :: A).length < 4611686018427387904) (hz : w.size < 4611686018427387904) (hno : lookF cmdF (up w) = some (g, none))
    (hf : ∀ h1 ab av', AS h h1 ab kb now av' A (.slice none 0 0) [] → CallsH Tryz.prog g [ptr ab] h1 (CmdR h h1 ab kb now av' A (.slice none 0 0) res)) :
    CallsH Tryz.prog 11 [ptr kb, .int .i64 now, av] h (Ret (DoR h res)) :=
  do_calls kr hA hl hz hno fun h1 ab av' cap hc x => by
    have hc : cap = [] := hc
    subst hc
    exact hf h1 ab av' x
theorem do_step {h : Heap} {kb sb mb c : Nat} {now n : Int} {av : Value} {w : ByteArray} {A : List ByteArray} {m : List KI} {S : Space} (kr : KR h kb sb mb c m) (hs : Sorted m S) (hla : LaidN h) (hT : TextS S)
    (hA : SL encS h av (w :: A)) (hl : (w :: A).length < 4611686018427387904) (hz : ∀ s ∈ w :: A, s.size < 281474976710656) (hn : In64 n) (hno : lookF cmdF (up w) = some (110, some n)) :
    CallsH Tryz.prog 11 [ptr kb, .int .i64 now, av] h (Ret (DoR h (cStep S now n A))) :=
  do_calls kr hA hl (by have := hz w (by simp); omega) hno fun h1 ab av' cap hc x => by
    obtain ⟨b, o, rfl, hc⟩ := hc
    exact step_calls x kr hs hla hc hn (fun s hs => hz s (by simp [hs])) hT

end Go.Proofs.YtgmkldaonkbjgaaGreatDoor
namespace Go.Proofs.YtgmkldaonkbjgaaGreatDoor
open Go Go.Sx Go.Proofs.YtgmkldaonkbjgaaGreatDoor.C

def Fine (S : Space) (res : Res) : Prop := ∀ q E, res = .ok (q, E) → q.k ≠ 2 ∧ E.length ≤ 100000 ∧ ∃ S', allS S E = some S'

section
variable {S : Space} {now n : Int} {A : List ByteArray} {res : Res} {q r : Rep} {E : List Eff} {k s w : ByteArray} {go : Option Thing}

theorem Fine.bad : Fine S (.error w) := fun q E h => by cases h
theorem Fine.of (hq : r.k ≠ 2) (hE : E.length ≤ 100000) (h : ∃ S', allS S E = some S') : Fine S (.ok (r, E)) := fun q E' e => by
  cases e
  exact ⟨hq, hE, h⟩
theorem Fine.none_ (hq : r.k ≠ 2) : Fine S (.ok (r, [])) := Fine.of hq (by simp) ⟨S, rfl⟩
theorem Fine.ite {c : Prop} [Decidable c] {a b : Res} (ha : c → Fine S a) (hb : ¬ c → Fine S b) : Fine S (if c then a else b) := by
  split
  · exact ha (by assumption)
  · exact hb (by assumption)
theorem Fine.done (hq : ∀ q E, res = .ok (q, E) → q.k ≠ 2 ∧ E.length ≤ 100000) (h : ∀ q E, res = .ok (q, E) → ∃ S', allS S E = some S') : Fine S res := fun q E e => ⟨(hq q E e).1, (hq q E e).2, h q E e⟩
theorem Fine.arg1 {f : ByteArray → Res} (h : ∀ x ∈ A, Fine S (f x)) : Fine S (arg1 f A) := by
  unfold Proofs.YtgmkldaonkbjgaaGreatDoor.arg1
  split
  · exact h _ (by simp)
  · exact Fine.bad
theorem Fine.arg2 {f : ByteArray → ByteArray → Res} (h : ∀ x y, Fine S (f x y)) : Fine S (arg2 f A) := by
  unfold Proofs.YtgmkldaonkbjgaaGreatDoor.arg2
  split
  · exact h _ _
  · exact Fine.bad
theorem keepE_len {stays : Bool} : (keepE go k stays).length ≤ 1 := by
  unfold keepE
  split
  · split <;> simp
  · simp
theorem putE_len {stays : Bool} : (putE S k s now stays).length ≤ 3 := by
  have := drops_len S k now
  have := keepE_len (go := getS S k now) (k := k) (stays := stays)
  simp only [putE, List.length_append, List.length_singleton]
  omega
theorem Fine.putR {stays : Bool} (f : Few S) (hq : r.k ≠ 2) : Fine S (putR S k s now stays r) := by
  refine Fine.done (fun q E h => ?_) fun q E h => putR_done f h
  have e := putR_rep h
  unfold Proofs.YtgmkldaonkbjgaaGreatDoor.putR at h
  split at h
  · have := putE_len (S := S) (k := k) (s := s) (now := now) (stays := stays)
    simp at h
    obtain ⟨_, rfl⟩ := h
    exact ⟨e ▸ hq, by omega⟩
  · cases h

theorem fine_get : Fine S (cGet S now A) := Fine.arg1 fun x _ => by
  unfold gGet
  split
  · exact Fine.none_ (by decide)
  · exact Fine.ite (fun _ => Fine.none_ (by show (4 : Int) ≠ 2; decide)) fun _ => Fine.bad
theorem fine_long : Fine S (cLong S now A) := Fine.arg1 fun x _ => Fine.ite (fun _ => Fine.none_ (by show (3 : Int) ≠ 2; decide)) fun _ => Fine.bad
theorem fine_by (f : Few S) : Fine S (gBy S k now n go) := Fine.ite (fun _ => by
  unfold byStep
  split
  · exact Fine.bad
  · exact Fine.ite (fun _ => Fine.putR f (by show (3 : Int) ≠ 2; decide)) fun _ => Fine.bad) fun _ => Fine.bad
theorem fine_step (f : Few S) : Fine S (cStep S now n A) := Fine.arg1 fun x _ => fine_by f
theorem fine_incrby (f : Few S) : Fine S (cIncrby S now A) := Fine.arg2 fun x y => by
  unfold gIncr
  split
  · exact Fine.bad
  · exact fine_by f
theorem fine_more (f : Few S) : Fine S (cMore S now A) := Fine.arg2 fun x y => Fine.ite (fun _ => Fine.putR f (by show (3 : Int) ≠ 2; decide)) fun _ => Fine.bad
end

end Go.Proofs.YtgmkldaonkbjgaaGreatDoor
namespace Go.Proofs.YtgmkldaonkbjgaaGreatDoor
open Go Go.Sx Go.Proofs.YtgmkldaonkbjgaaGreatDoor.C

def itRT (x : Int × Int × ByteArray) : RT := .mk x.1 x.2.1 x.2.2 (.slice none 0 0) []
theorem sl_rt {h : Heap} {v : Value} {l : List (Int × Int × ByteArray)} (hs : SL encQ h v l) : SL encT h v (l.map itRT) := by
  obtain ⟨a, c, rfl, h1, h2⟩ := hs
  refine ⟨a, c, by rw [List.length_map], by rw [List.length_map]; exact h1, ?_⟩
  rw [List.length_map, List.flatMap_map]
  exact h2
theorem oks_rt {h : Heap} : ∀ {l : List (Int × Int × ByteArray)}, RT.oks h (l.map itRT)
  | [] => trivial
  | x :: l => ⟨⟨SL.nil, by simp, trivial⟩, oks_rt⟩

theorem rsameQ_calls {h : Heap} {q : Rep} {v u : Value} (hv : SL encQ h v q.l) (hu : SL encQ h u q.l) (hl : q.l.length ≤ 100000) :
    CallsH Tryz.prog 18 [.agg ⟨[.int .i64 q.k, .int .i64 q.i, .string q.s, v]⟩, .agg ⟨[.int .i64 q.k, .int .i64 q.i, .string q.s, u]⟩] h (Ret fun r h' => r = .bool true ∧ Chg [] h h') := by
  have hc := rsame_calls _ (.mk q.k q.i q.s v (q.l.map itRT)) (.mk q.k q.i q.s u (q.l.map itRT)) h (Nat.lt_succ_self _) ⟨sl_rt hv, by simp; omega, oks_rt⟩ ⟨sl_rt hu, by simp; omega, oks_rt⟩
  have e : RT.same (.mk q.k q.i q.s v (q.l.map itRT)) (.mk q.k q.i q.s u (q.l.map itRT)) = true := by simp [RT.same, RT.sames_refl]
  rw [e] at hc
  exact hc

theorem rsameE_calls {h : Heap} {v u : Value} {E : List Eff} (hv : SL encD h v E) (hu : SL encD h u E) (hE : E.length ≤ 100000) : CallsH Tryz.prog 19 [v, u] h (Ret fun r h' => r = .bool true ∧ h' = h) := by
  obtain ⟨a, c, rfl, _⟩ := hv.form
  obtain ⟨a', c', rfl, _⟩ := hu.form
  refine f19_calls (by simp) ?_
  refine And.intro rfl (And.intro (fun hne => absurd rfl hne) (fun _ => ?_))
  refine loop_intro (fun q : Nat => [(0, .slice a E.length c), (1, .slice a' E.length c'), (5, .int .i64 q)]) (fun q h' => q ≤ E.length ∧ h' = h) (fun q => E.length - q) 0 ⟨rfl, rfl, rfl, trivial⟩ ⟨Nat.zero_le _, rfl⟩ ?_
  rintro q h' ⟨hq, e⟩
  have e := e.symm
  subst e
  refine And.intro rfl (And.intro (fun hlt => ?_) (fun hge => ?_))
  · have hlt : q < E.length := by omega
    obtain ⟨b, o, rfl⟩ := hv.addr (by omega)
    obtain ⟨b', o', rfl⟩ := hu.addr (by omega)
    have hcs := hv.cells encD_len (List.getElem?_eq_getElem hlt)
    have hds := hu.cells encD_len (List.getElem?_eq_getElem hlt)
    refine And.intro (by omega) (And.intro (by omega) (Exists.intro (encD E[q]) (And.intro rfl (And.intro hcs ?_))))
    refine And.intro (by omega) (And.intro (by omega) (Exists.intro (encD E[q]) (And.intro rfl (And.intro hds ?_))))
    refine And.intro rfl (And.intro rfl (And.intro (fun _ => ?_) (fun hne => absurd rfl hne)))
    refine And.intro rfl (fun z hz => ?_)
    have hz := add_in hz (by omega) (by omega)
    subst hz
    exact And.intro rfl (Exists.intro (q + 1) (And.intro ⟨rfl, rfl, rfl, trivial⟩ (And.intro ⟨hlt, rfl⟩ (by omega))))
  · exact And.intro rfl rfl

theorem getPr8 {w : List RX} {k : Nat} (hk : k < (w.map RX.pr).length) (hk' : k < w.length) : (w.map RX.pr)[k] = (w[k].key, w[k].thing) := by
  rw [List.getElem_map]; rfl

theorem w8same_calls {h : Heap} {kb sb mb c : Nat} {m : List KI} {v : Value} {w0 : List RX} (kr : KR h kb sb mb c m) (hv : SL encX h v w0) (g : GX h w0) (hW : Sorted m (w0.map RX.pr)) (hl : w0.length ≤ 65536) :
    CallsH Tryz.prog 20 [ptr kb, v] h (Ret fun r h' => r = .bool true ∧ Chg [] h h') := by
  have hlens : ∀ x ∈ w0, Lens x.thing := by
    intro x hx
    obtain ⟨i, hi, hip⟩ := List.mem_map.1 ((hW.mem x.pr).1 (List.mem_map_of_mem hx))
    have : i.thing = x.thing := congrArg Prod.snd hip
    rw [← this]; exact (kr.here i hi).2.2
  obtain ⟨a, cc, rfl, hcc⟩ := hv.form
  refine f20_calls (by simp) ?_
  intro b3 h1 g1
  have w := (St.start h).new g1
  intro b4 h2 g2
  have w := w.new g2
  intro b5 h3 g3
  have w := w.new g3
  refine w.st1 0 rfl rfl rfl rfl fun h4 w => ?_
  refine call_ret (All_calls (kb := kb)) ?_
  rintro _ h5 ⟨bI, rfl, g5⟩
  have w : St [] h h5 [.b bI [ptr kb], .b b5 [.int .i64 0], .b b4 [.bool false], .b b3 [.slice a w0.length cc]] := w.new g5
  intro l D r h7 hD hl7 hsz hold hmark hloop hy
  have hc7 : Chg [] h5 h7 := ⟨by omega, fun k hk _ => hold k hk⟩
  have hne : D ≠ l := by omega
  have w := w.add (e := lpE l D r .ready) hc7 ⟨hloop, hmark⟩ (fun b hb => by simp [lpE, En.fp] at hb; omega)
  refine (iter_calls hW (fun p k h' => St [] h h' [ltE p, lpE l D r .ready, .b bI [ptr kb], .b b5 [.int .i64 k], .b b4 [.bool false], .b b3 [.slice a w0.length cc]]) (fun _ => False) (w.get 1 rfl) (kr.ext w.chg)
    (fun p h' hp1 hp2 hc => w.add (e := ltE p) hc hp2 (fun b hb => by simp [ltE, En.fp] at hb; omega)) (fun p k h' w => ⟨w.get 2 rfl, kr.ext w.chg⟩) (fun p k h' h'' w hc => w.ext hc) (fun p k h' us hk w tu => ?_)).mono ?_
  · have hkw : k < w0.length := by simpa using hk
    rw [getPr8 hk hkw] at tu ⊢
    have hlp := w.get 0 rfl
    have w := w.set (e' := fixE p h'[p]?) 0 rfl (Chg.refl _) (by simp) ⟨hlp, rfl⟩ (fun b hb => .inl hb)
    refine hy h' _ _ (w.get 1 rfl).1 rfl ?_
    intro b8 h8 g8
    refine Exists.intro _ (And.intro g8.blk (And.intro (by decide) (And.intro tu.len (And.intro (thing_one tu) ?_))))
    intro h9 p9
    have g9 : Grow h' h9 b8 (splice zeroV 0 us) := g8.put p9
    rw [seven rfl tu.len] at g9
    have w := w.new g9
    have tu9 : TH h9 us w0[k].thing := tu.ext g9.chg
    have L9 := (w.get 2 rfl).1
    refine And.intro L9 (fun h10 t10 => ?_)
    have w := w.turn 2 rfl hne t10
    have tu10 : TH h10 us w0[k].thing := tu9.ch (turn_ch L9 t10)
    have hv10 := hv.ext w.chg
    have hx10 := (g.ext w.chg) w0[k] (List.getElem_mem hkw)
    obtain ⟨b, o, rfl⟩ := hv10.addr (by omega)
    have hcs := hv10.cells encX_len (i := k) (x := w0[k]) (by simp [hkw])
    refine w.ld1 4 rfl rfl ?_
    refine w.ld1 6 rfl rfl ?_
    refine And.intro rfl (And.intro (fun hge => absurd hge (by omega)) (fun _ => ?_))
    refine w.ld1 6 rfl rfl ?_
    refine w.ld1 4 rfl rfl ?_
    refine And.intro (by omega) (And.intro (by omega) (Exists.intro _ (And.intro (hcs 0 _ rfl) ?_)))
    refine And.intro (fun hne => absurd rfl hne) (fun _ => ?_)
    refine Exists.intro us (And.intro tu10.len (And.intro (cells_blk (w.get 0 rfl)) ?_))
    refine w.ld1 6 rfl rfl ?_
    refine w.ld1 4 rfl rfl ?_
    refine And.intro (by omega) (And.intro (by omega) (Exists.intro w0[k].vs (And.intro w0[k].len (And.intro (cells_vs hcs) ?_))))
    have hfk := (hlens w0[k] (List.getElem_mem hkw)).fits
    refine call_ret (RSame_calls tu10 hx10 hfk hfk) ?_
    rintro r11 h11 ⟨hr11, c11⟩
    rw [decide_eq_true rfl] at hr11
    subst hr11
    have w := w.ext c11
    refine w.ld1 4 rfl rfl ?_
    refine And.intro rfl (fun z hz => ?_)
    have hz := add_in hz (by omega) (by omega)
    subst hz
    refine w.st1 4 rfl rfl rfl rfl fun h12 w => ?_
    refine And.intro (w.get 2 rfl).1 (fun h13 t13 => ?_)
    have w := w.turn 2 rfl hne t13
    have hfx := w.get 1 rfl
    have w := (w.pick [1, 2, 3, 4, 5, 6] (by decide))
    have w := w.set (e' := ltE p) 0 rfl (Chg.refl _) (by simp) hfx.1 (fun b hb => .inl hb)
    exact .inl ⟨rfl, w, hfx.2⟩
  · intro e h8 he
    cases e with
    | panicked ch => exact he.elim
    | outgrown => exact he.elim
    | returned u =>
      obtain ⟨p, w⟩ | hF := he
      rotate_left
      · exact hF.elim
      refine ⟨.ready, none, (w.get 1 rfl).1, by simp, fun h9 t9 => ?_⟩
      have w := w.turn 1 rfl hne t9
      refine w.ld1 3 rfl rfl ?_
      refine w.ld1 5 rfl rfl ?_
      refine And.intro rfl (And.intro (fun _ => ?_) (fun hne => absurd (by simp) hne))
      refine w.st1 4 rfl rfl rfl rfl fun h10 w => ?_
      refine And.intro (w.get 1 rfl).2 (fun h11 p11 => ?_)
      have w := w.gone 1 rfl p11.chg (fun b hb => .inl (by simp at hb; simp [lpE, En.fp, hb]))
      refine Exists.intro _ (And.intro (cell_blk (w.get 4 rfl) rfl) ?_)
      exact And.intro rfl w.chg

def outR : Res → Rep × List Eff
  | .ok p => p
  | .error why => (rep 2 0 why, [])
theorem DoR.out {h h' : Heap} {r : Value} {res : Res} (x : DoR h res r h') : Chg [] h h' ∧ ∃ ra rn rc la lc, r = .tuple ⟨[.agg ⟨[.int .i64 (outR res).1.k, .int .i64 (outR res).1.i, .string (outR res).1.s, .slice ra rn rc]⟩, .slice la (outR res).2.length lc, .bool true]⟩ ∧
    SL encQ h' (.slice ra rn rc) (outR res).1.l ∧ SL encD h' (.slice la (outR res).2.length lc) (outR res).2 := by
  obtain ⟨c, x⟩ := x
  cases res with
  | error why =>
    have x : r = .tuple ⟨[repV 2 0 why, .slice none 0 0, .bool true]⟩ := x
    subst x
    exact ⟨c, none, 0, 0, none, 0, rfl, SL.nil, SL.nil⟩
  | ok p =>
    obtain ⟨q, E⟩ := p
    obtain ⟨v, lv, rfl, ⟨ra, rn, rc, rfl, hq, _⟩, hs, _⟩ := x
    obtain ⟨la, lc, rfl, _⟩ := hs.form
    exact ⟨c, ra, rn, rc, la, lc, rfl, hq, hs⟩

def Short (res : Res) : Prop := (outR res).1.l.length ≤ 100000 ∧ (outR res).2.length ≤ 100000

def ByP (now : Int) (AA : List ByteArray) (res : Space → Res) : Prop := ∀ {h : Heap} {kb sb mb c : Nat} {m : List KI} {S : Space} {av : Value}, KR h kb sb mb c m → Sorted m S → S8 S → LaidN h → SL encS h av AA → CallsH Tryz.prog 11 [ptr kb, .int .i64 now, av] h (Ret (DoR h (res S)))
def ByR (now : Int) (AA : List ByteArray) (res : Space → Res) : Prop := ∀ {h : Heap} {kv av : Value} {k : List RX}, SL encX h kv k → GX h k → UpX k → k.length ≤ 20 → KeysFit k → S8 (k.map RX.pr) → LaidN h → SL encS h av AA → CallsH Tryz.prog 17 [kv, .int .i64 now, av] h (Ret (DoR h (res (k.map RX.pr))))

theorem does_calls {h : Heap} {v av : Value} {l : List RX} {now : Int} {AA : List ByteArray} {res : Space → Res} (hv : SL encX h v l) (g : GX h l) (nv : NVast l) (hun : ∀ x ∈ l, In64 x.thing.unt) (hla : LaidN h) (hA : SL encS h av AA) (hp : ByP now AA res) (hr : ByR now AA res)
    (hsh : ∀ S, S8 S → Short (res S)) : CallsH Tryz.prog 9 [v, .int .i64 now, av] h (Ret fun r h' => r = .bool true ∧ Chg [] h h') := by
  refine f9_calls (by simp) ?_
  refine call_ret (KOf_calls hv g nv) ?_
  rintro r1 h1 ⟨c1, ho⟩
  cases hk2 : ofX [] l with
  | none =>
    rw [hk2] at ho
    subst ho
    refine call_ret (ROf_calls (hv.ext c1) (g.ext c1) nv) ?_
    rintro r2 h2 ⟨c2, hr2⟩
    have c02 := c1.nil c2
    rw [hk2] at hr2
    subst hr2
    refine And.intro rfl (And.intro (fun _ => ?_) (fun hne => absurd (by decide) hne))
    refine And.intro rfl (And.intro (fun _ => ?_) (fun hne => absurd rfl hne))
    exact And.intro rfl c02
  | some k =>
    rw [hk2] at ho
    obtain ⟨kb, sb, mb, c, m, rfl, kr, hpr, hmb⟩ := ho
    refine call_ret (ROf_calls (hv.ext c1) (g.ext c1) nv) ?_
    rintro r2 h2 ⟨c2, hr2⟩
    have c02 := c1.nil c2
    rw [hk2] at hr2
    obtain ⟨w, rfl, hw, hwb⟩ := hr2
    have hW := sorted_of hpr hk2
    obtain ⟨hup, hmem, hkl⟩ := ofX_ok List.Pairwise.nil hk2
    have hnl := nv.len
    have hkl : k.length = l.length := by simpa using hkl
    have hkf : KeysFit k := fun x hx => nv.fit x (by simpa using (hmem x).1 hx)
    have gk : GX h2 k := fun x hx => (g.ext c02) x (by simpa using (hmem x).1 hx)
    have s8 := s8_of nv hk2 hun
    have hsh := hsh _ s8
    refine And.intro rfl (And.intro (fun hne => absurd rfl hne) (fun _ => ?_))
    refine And.intro rfl (And.intro (fun hne => absurd rfl hne) (fun _ => ?_))
    refine call_ret (hp (kr.ext c2) hW s8 (hla.ext c02) (hA.ext c02)) ?_
    rintro r3 h3 h3r
    obtain ⟨c3, ra, rn, rc, la, lc, rfl, hq, hE⟩ := h3r.out
    intro b11 h4 g4
    have u := (St.start h3).new g4
    refine u.st1 0 rfl rfl rfl rfl fun h5 u => ?_
    have c25 := c3.nil u.chg
    refine call_ret (hr (hw.sl.ext c25) (gk.ext c25) hup (by omega) hkf s8 (hla.ext (c02.nil c25)) (hA.ext (c02.nil c25))) ?_
    rintro r6 h6 h6r
    obtain ⟨c6, ra', rn', rc', la', lc', rfl, hq', hE'⟩ := h6r.out
    have u := u.ext c6
    intro b14 h7 g7
    have u := u.new g7
    have z7 := (St.start h6).new g7
    refine u.st2 0 rfl rfl rfl rfl fun h8 u k8 => ?_
    have c68 : Chg [] h6 h8 := g7.chg.fresh k8 (by simp; have := g7.id; omega)
    refine And.intro (fun _ => ?_) (fun hne => absurd rfl hne)
    refine u.ldw 1 rfl rfl ?_
    refine u.ldw 0 rfl rfl ?_
    refine call_ret (rsameQ_calls (hq.ext u.chg) (hq'.ext c68) hsh.1) ?_
    rintro _ h9 ⟨rfl, c9⟩
    have u := u.ext c9
    refine call_ret (rsameE_calls (hE.ext u.chg) (hE'.ext (c68.nil c9)) hsh.2) ?_
    rintro _ h10 ⟨rfl, e10⟩
    have e10 := e10.symm
    subst e10
    have c2f := c3.nil u.chg
    refine call_ret (w8same_calls ((kr.ext c2).ext c2f) (hw.sl.ext c2f) (gk.ext c2f) hW (by omega)) ?_
    rintro _ h11 ⟨rfl, c11⟩
    exact And.intro rfl ((c02.nil c2f).nil c11)

end Go.Proofs.YtgmkldaonkbjgaaGreatDoor
namespace Go.Proofs.YtgmkldaonkbjgaaGreatDoor
open Go Go.Sx Go.Proofs.YtgmkldaonkbjgaaGreatDoor.C

theorem known8_ret {h : Heap} (hla : LaidN h) : CallsH Tryz.prog 8 [] h (Ret fun r h' => r = .bool true ∧ Chg [] h h') := by
  refine f8_calls (by simp) ?_
  refine call_ret New_calls ?_
  rintro _ h1 ⟨kb, sb, mb, rfl, ks, hm, _, _, _, c1⟩
  have kr : KR h1 kb sb mb 0 [] := ⟨ks, hm, by simp, by simp, by simp, by simp, by simp, by simp⟩
  have hs : Sorted [] [] := ⟨List.Pairwise.nil, by simp⟩
  intro b2 h2 g2
  have sa : SL encS h2 (.slice (some ⟨b2, 0, none⟩) 2 2) [⟨#[105, 110, 99, 114]⟩, ⟨#[97]⟩] := by
    refine ⟨_, 2, rfl, Nat.le_refl _, ?_⟩
    exact cells_blk g2.blk
  refine call_ret (do_step (n := 1) (kr.ext g2.chg) hs ((hla.ext c1).ext g2.chg) (S := []) (fun p hp => by simp at hp) sa (by simp) (fun s hs => ?_) ⟨by decide, by decide⟩ (by kernel_rfl)) ?_
  · simp at hs
    rcases hs with rfl | rfl <;> decide
  rintro r h3 ⟨c3, hr⟩
  have e : cStep [] 0 1 [⟨#[97]⟩] = .ok (rep 3 1 noText, [textE ⟨#[97]⟩ ⟨#[49]⟩]) := by kernel_rfl
  rw [e] at hr
  obtain ⟨vq, lv, rfl, ⟨ra, rn, rc, rfl, sl, fr⟩, hsl, hfr⟩ := hr
  obtain ⟨la, lc, rfl, _⟩ := hsl.form
  obtain ⟨lb, lo, rfl⟩ := hsl.addr (by simp)
  intro b9 h4 g4
  have w := (St.start h3).new g4
  refine w.st1 0 rfl rfl rfl rfl fun h5 w => ?_
  have hcs := (hsl.ext w.chg).cells encD_len (i := 0) (x := textE ⟨#[97]⟩ ⟨#[49]⟩) rfl
  refine w.ld1 0 rfl rfl ?_
  refine And.intro rfl (And.intro (fun _ => ?_) (fun hne => absurd rfl hne))
  refine w.ld1 0 rfl rfl ?_
  refine And.intro rfl (And.intro (fun _ => ?_) (fun hne => absurd rfl hne))
  refine And.intro rfl (And.intro (fun _ => ?_) (fun hne => absurd rfl hne))
  refine And.intro (by decide) (And.intro (by simp) (Exists.intro _ (And.intro (by simpa using hcs 0 _ rfl) ?_)))
  refine And.intro rfl (And.intro (fun _ => ?_) (fun hne => absurd rfl hne))
  refine And.intro (by decide) (And.intro (by simp) (Exists.intro _ (And.intro (by simpa using hcs 3 _ rfl) ?_)))
  refine And.intro (fun _ => ?_) (fun hne => absurd rfl hne)
  exact ⟨rfl, ((c1.nil g2.chg).nil c3).nil w.chg⟩

theorem kn8 {h h2 : Heap} {K : Value → Heap → Prop} {Qp : List PanicEntry → Heap → Prop} (hla : LaidN h) (c2 : Chg [] h h2) (hK : ∀ h', Chg [] h h' → K (.bool true) h') : CallsH Tryz.prog 8 [] h2 (after K Qp) :=
  call_ret (known8_ret (hla.ext c2)) fun v h' hv => by rw [hv.1]; exact hK h' (c2.nil hv.2)

end Go.Proofs.YtgmkldaonkbjgaaGreatDoor
namespace Go.Proofs.YtgmkldaonkbjgaaGreatDoor
open Go Go.Sx Go.Proofs.YtgmkldaonkbjgaaGreatDoor.C

section
variable {S : Space} {now n : Int} {res : Res} {key s : ByteArray} {q : Rep} {E : List Eff}
theorem short_of (hq : ∀ q E, res = .ok (q, E) → q.l = []) (hf : Fine S res) : Short res := by
  cases res with
  | error why => exact ⟨by simp [outR], by simp [outR]⟩
  | ok p =>
    obtain ⟨q, E⟩ := p
    exact ⟨by show q.l.length ≤ _; rw [hq q E rfl]; simp, (hf q E rfl).2.1⟩
theorem rep_iby (h : cIncrby S now [key, s] = .ok (q, E)) : q.l = [] := by
  have h : gIncr S key now (numOf s) = .ok (q, E) := h
  cases hn : numOf s with
  | none => rw [hn] at h; cases h
  | some m => rw [hn] at h; exact gBy_rep h
theorem rep_more (h : cMore S now [key, s] = .ok (q, E)) : q.l = [] := by
  have h : gMore S key s now (getS S key now) = .ok (q, E) := h
  unfold gMore at h
  split at h
  · rw [putR_rep h]
  · cases h
theorem rep_get (h : cGet S now [key] = .ok (q, E)) : q.l = [] := by
  have h : gGet (getS S key now) = .ok (q, E) := h
  unfold gGet at h
  split at h
  · cases h; rfl
  · split at h
    · cases h; rfl
    · cases h
theorem rep_long (h : cLong S now [key] = .ok (q, E)) : q.l = [] := by
  have h : gLong (getS S key now) = .ok (q, E) := h
  unfold gLong at h
  split at h
  · cases h; rfl
  · cases h
end

section
variable {now : Int} {key s : ByteArray}
theorem two_in {x y : ByteArray} (hk : x.size ≤ 300) (hs : y.size ≤ 300) : ∀ a ∈ [x, y], a.size < 281474976710656 := fun a ha => by
  simp at ha
  rcases ha with rfl | rfl <;> omega
theorem pIBY (hk : key.size ≤ 300) (hs : s.size ≤ 300) : ByP now [nIBY, key, s] (fun S => cIncrby S now [key, s]) := fun kr hW s8 hla hA =>
  do_plain (w := nIBY) kr hA (by simp) (by decide) (by kernel_rfl) fun h1 ab av' x => incrby_calls x kr hW hla (two_in hk hs) s8.text
theorem rIBY (hk : key.size ≤ 300) (hs : s.size ≤ 300) : ByR now [nIBY, key, s] (fun S => cIncrby S now [key, s]) := fun hsl hgx hup hlen hfit s8 hla hA =>
  rdo_calls (w := nIBY) (N := nIBY) hsl hgx hup (by omega) hfit hA (by simp) (by decide) (by kernel_rfl) rbounds_nIBY (fun hn => absurd ⟨by simp, by simp⟩ hn) fun h1 xb av' _ c x => rreply_nIBY c x rfl (by omega) (by omega) hla s8.text
theorem pAPP (hk : key.size ≤ 300) (hs : s.size ≤ 300) : ByP now [nAPP, key, s] (fun S => cMore S now [key, s]) := fun kr hW s8 _ hA =>
  do_plain (w := nAPP) kr hA (by simp) (by decide) (by kernel_rfl) fun h1 ab av' x => more_calls x kr hW (two_in hk hs) s8.text
theorem rAPP (hk : key.size ≤ 300) (hs : s.size ≤ 300) : ByR now [nAPP, key, s] (fun S => cMore S now [key, s]) := fun hsl hgx hup hlen hfit s8 _ hA =>
  rdo_calls (w := nAPP) (N := nAPP) hsl hgx hup (by omega) hfit hA (by simp) (by decide) (by kernel_rfl) rbounds_nAPP (fun hn => absurd ⟨by simp, by simp⟩ hn) fun h1 xb av' _ c x => rreply_nAPP c x rfl (by omega) (by omega) s8.text
theorem pINC (hk : key.size ≤ 300) : ByP now [nINC, key] (fun S => cStep S now 1 [key]) := fun kr hW s8 hla hA =>
  do_step (w := nINC) kr hW hla s8.text hA (by simp) (fun a ha => by
    simp at ha
    rcases ha with rfl | rfl
    · decide
    · omega) ⟨by decide, by decide⟩ (by kernel_rfl)
theorem rINC (hk : key.size ≤ 300) : ByR now [nINC, key] (fun S => cStep S now 1 [key]) := fun hsl hgx hup hlen hfit s8 hla hA =>
  rdo_calls (w := nINC) (N := nINC) hsl hgx hup (by omega) hfit hA (by simp) (by decide) (by kernel_rfl) rbounds_nINC (fun hn => absurd ⟨by simp, by simp⟩ hn) fun h1 xb av' _ c x => rreply_nINC c x rfl (by omega) hla s8.text
theorem pDEC (hk : key.size ≤ 300) : ByP now [nDEC, key] (fun S => cStep S now (-1) [key]) := fun kr hW s8 hla hA =>
  do_step (w := nDEC) kr hW hla s8.text hA (by simp) (fun a ha => by
    simp at ha
    rcases ha with rfl | rfl
    · decide
    · omega) ⟨by decide, by decide⟩ (by kernel_rfl)
theorem rDEC (hk : key.size ≤ 300) : ByR now [nDEC, key] (fun S => cStep S now (-1) [key]) := fun hsl hgx hup hlen hfit s8 hla hA =>
  rdo_calls (w := nDEC) (N := nDEC) hsl hgx hup (by omega) hfit hA (by simp) (by decide) (by kernel_rfl) rbounds_nDEC (fun hn => absurd ⟨by simp, by simp⟩ hn) fun h1 xb av' _ c x => rreply_nDEC c x rfl (by omega) hla s8.text
theorem pLEN : ByP now [nLEN, key] (fun S => cLong S now [key]) := fun kr hW _ _ hA =>
  do_plain (w := nLEN) kr hA (by simp) (by decide) (by kernel_rfl) fun h1 ab av' x => long_calls x kr hW
theorem rLEN (hk : key.size ≤ 300) : ByR now [nLEN, key] (fun S => cLong S now [key]) := fun hsl hgx hup hlen hfit _ _ hA =>
  rdo_calls (w := nLEN) (N := nLEN) hsl hgx hup (by omega) hfit hA (by simp) (by decide) (by kernel_rfl) rbounds_nLEN (fun hn => absurd ⟨by simp, by simp⟩ hn) fun h1 xb av' _ c x => rreply_nLEN c x rfl (by omega)
theorem pGET : ByP now [nGET, key] (fun S => cGet S now [key]) := fun kr hW _ _ hA =>
  do_plain (w := nGET) kr hA (by simp) (by decide) (by kernel_rfl) fun h1 ab av' x => get_calls x kr hW
theorem rGET (hk : key.size ≤ 300) : ByR now [nGET, key] (fun S => cGet S now [key]) := fun hsl hgx hup hlen hfit _ _ hA =>
  rdo_calls (w := nGET) (N := nGET) hsl hgx hup (by omega) hfit hA (by simp) (by decide) (by kernel_rfl) rbounds_nGET (fun hn => absurd ⟨by simp, by simp⟩ hn) fun h1 xb av' _ c x => rreply_nGET c x rfl (by omega)
end

theorem BasicsCounts_calls {h : Heap} {x : RX} {now : Int} {by_ : ByteArray} (g : GX h [x]) (f : XFit [x]) (hun : In64 x.thing.unt) (hb9 : by_.size < 4611686018427387904) (hla : LaidN h) :
    CallsH Tryz.prog 3 [.agg ⟨encX x⟩, .int .i64 now, .string by_] h (Ret fun r h' => r = .bool true ∧ Chg [] h h') := by
  obtain ⟨pv, lv, rv, ev, _⟩ := (show TH h x.vs x.thing from g x (List.mem_singleton.2 rfl))
  have ex : encX x = [.string x.key, .int .i64 x.thing.kind, .string x.thing.text, pv, lv, rv, .bool x.thing.hasU, .int .i64 x.thing.unt] := by unfold encX; rw [ev]
  rw [ex]
  refine f3_calls (by simp) ?_
  intro b3 h1 g1
  have w : St [] h h1 [.b b3 [.string x.key, .int .i64 x.thing.kind, .string x.thing.text, pv, lv, rv, .bool x.thing.hasU, .int .i64 x.thing.unt]] := (St.start h).new g1
  refine w.ldw 0 rfl rfl ?_
  intro b7 h2 g2
  have hv : SL encX h2 (.slice (some ⟨b7, 0, none⟩) 1 1) [x] := SL.one encX_len (by rw [ex]; exact g2.blk)
  have w := w.new g2
  intro b12 h3 g3
  have hu : SL encS h3 (.slice (some ⟨b12, 0, none⟩) 1 1) [by_] := SL.one encS_len g3.blk
  refine call_ret (vast8_calls (hv.ext g3.chg) hu (g.ext (w.ext g3.chg).chg) f ⟨by simp, fun e he => by simp at he; rw [he]; exact hb9⟩) ?_
  rintro _ h4 ⟨⟨b, rfl, hb⟩, c4⟩
  have w := (w.ext g3.chg).ext c4
  have hv4 := (hv.ext g3.chg).ext c4
  cases b with
  | true => exact kn8 hla w.chg fun h' c => And.intro rfl c
  | false =>
    obtain ⟨nv, sm⟩ := hb rfl
    have hk := nv.keys x (by simp)
    have hs := sm.each by_ (by simp)
    have hun' : ∀ y ∈ [x], In64 y.thing.unt := fun y hy => by rw [List.mem_singleton.1 hy]; exact hun
    have go : ∀ {h5 h6 : Heap} {av : Value} {AA : List ByteArray} {res : Space → Res}, Chg [] h4 h5 → SL encS h5 av AA → ByP now AA res → ByR now AA res → (∀ S, S8 S → Short (res S)) → h6 = h5 →
        CallsH Tryz.prog 9 [.slice (some ⟨b7, 0, none⟩) 1 1, .int .i64 now, av] h6 (Ret fun r h' => r = .bool true ∧ Chg [] h5 h') := fun {h5 h6 av AA res} c hA hp hr hsh e => by
      subst e
      exact does_calls (hv4.ext c) (g.ext (w.chg.nil c)) nv hun' (hla.ext (w.chg.nil c)) hA hp hr hsh
    refine w.ld1 1 rfl rfl ?_
    intro b20 h5 g5
    refine call_ret (go g5.chg (AA := [nIBY, x.key, by_]) ⟨_, 3, rfl, Nat.le_refl _, by exact cells_blk g5.blk⟩ (pIBY hk hs) (rIBY hk hs) (fun S s8 => short_of (fun q E h => rep_iby h) (fine_incrby s8.few)) rfl) ?_
    rintro _ h6 ⟨rfl, c6⟩
    have C6 := g5.chg.nil c6
    have w6 := w.ext C6
    refine w6.ld1 1 rfl rfl ?_
    intro b27 h7 g7
    refine call_ret (go (C6.nil g7.chg) (AA := [nINC, x.key]) ⟨_, 2, rfl, Nat.le_refl _, by exact cells_blk g7.blk⟩ (pINC hk) (rINC hk) (fun S s8 => short_of (fun q E h => gBy_rep h) (fine_step s8.few)) rfl) ?_
    rintro _ h8 ⟨rfl, c8⟩
    have C8 := (C6.nil g7.chg).nil c8
    have w8 := w.ext C8
    refine w8.ld1 1 rfl rfl ?_
    intro b35 h9 g9
    refine call_ret (go (C8.nil g9.chg) (AA := [nDEC, x.key]) ⟨_, 2, rfl, Nat.le_refl _, by exact cells_blk g9.blk⟩ (pDEC hk) (rDEC hk) (fun S s8 => short_of (fun q E h => gBy_rep h) (fine_step s8.few)) rfl) ?_
    rintro _ h10 ⟨rfl, c10⟩
    have C10 := (C8.nil g9.chg).nil c10
    have w10 := w.ext C10
    refine w10.ld1 1 rfl rfl ?_
    intro b44 h11 g11
    refine call_ret (go (C10.nil g11.chg) (AA := [nAPP, x.key, by_]) ⟨_, 3, rfl, Nat.le_refl _, by exact cells_blk g11.blk⟩ (pAPP hk hs) (rAPP hk hs) (fun S s8 => short_of (fun q E h => rep_more h) (fine_more s8.few)) rfl) ?_
    rintro _ h12 ⟨rfl, c12⟩
    have C12 := (C10.nil g11.chg).nil c12
    have w12 := w.ext C12
    refine w12.ld1 1 rfl rfl ?_
    intro b52 h13 g13
    refine call_ret (go (C12.nil g13.chg) (AA := [nLEN, x.key]) ⟨_, 2, rfl, Nat.le_refl _, by exact cells_blk g13.blk⟩ pLEN (rLEN hk) (fun S s8 => short_of (fun q E h => rep_long h) fine_long) rfl) ?_
    rintro _ h14 ⟨rfl, c14⟩
    have C14 := (C12.nil g13.chg).nil c14
    have w14 := w.ext C14
    refine w14.ld1 1 rfl rfl ?_
    intro b60 h15 g15
    refine call_ret (go (C14.nil g15.chg) (AA := [nGET, x.key]) ⟨_, 2, rfl, Nat.le_refl _, by exact cells_blk g15.blk⟩ pGET (rGET hk) (fun S s8 => short_of (fun q E h => rep_get h) fine_get) rfl) ?_
    rintro _ h16 ⟨rfl, c16⟩
    have C16 := (C14.nil g15.chg).nil c16
    exact kn8 hla (w.ext C16).chg fun h' c => And.intro rfl c

end Go.Proofs.YtgmkldaonkbjgaaGreatDoor
