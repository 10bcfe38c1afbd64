/-
  The simplified code of this seat's functions, and that it is what the program's code comes to. Printed by a program (wip/print.lean).
  Layer 7: texts and members compared.
  Layer 7: lists compared, lists that rise (printed by gen.py).
  Layer 7: texts and members in order.
  Layer 7: things; two the same (printed by gend.py).
  Layer 7: how many items, how long their texts.
  Layer 7: each name once; what is large.
  Layer 7: may a thing be? As the program asks.
  Layer 7: may a thing be? As the document asks; and that the two ask the same.
  Layer 7: may a thing be? The document's loops.
  Layer 7: may a thing be? The document's answer, whole.
  Layer 7: copies; a keyspace (printed by genk.py).
  Layer 7: the rules; a text that is put.
  Layer 7: what stands under a key.
  Layer 7: known.
  Slices of one's own, cut, written, grown in the middle; small words.
  Layer 7: items put into slices, taken out of them (printed by genins.py).
  Layer 7: where an item stands, or must stand (printed by genbs.py).
  Layer 7: lists of things under keys, plain.
  Layer 7: the reference's Find, Put, Get, Names.
  Layer 7: a keyspace as it lies; plain laws of the reference's Of.
  Layer 7: a keyspace of things (keys.Of).
  DERIVED. MADE BY PROGRAM (lay-iter.mjs) off ytjnijlnmbjjgpaagreatdoor.cut.gsa: THE SHELF's CONTRACTS ON 'slices.Sorted(maps.Keys(m))' LAID AT THIS DUMP: 2 map types. NO WALK OF THE LIBRARY's TEXT: each is one application of a contract over any P and ρ (Derived/Shelf/SlIter/, Derived/Shelf/SortM/).
  Layer 7: the sorted keys of a keyspace's map (over the shelf's contracts).
  Layer 7: All: what it goes over, by rising keys.
  Layer 7: has a keyspace just these things (taborlaw07.same).
  Layer 7: vast, sorted; the reference's Of and Names.
  Layer 7: taborlaw07.KeysAll.
  Layer 7: what an effect makes of a thing: plain laws.
-/
import Derived.Test.YtjnijlnmbjjgpaaGreatDoorProg
import Derived.WalkKit
import Derived.Laws.Externs
import Derived.Lib.Overlaps
import Derived.Shelf.SlIter.Nil
import Derived.Shelf.SortM.Plain
import Derived.Shelf.SortM.SortNone
import Derived.Ground.GgzProg
import Derived.Ground.SlgmProg
import Derived.Test.YtjnijlnmbjjgpaaGreatDoorZE9B
abbrev Go.Sx.LS : Type := List Go.Sx.SOper
set_option maxRecDepth 100000
namespace Go.Proofs.YtjnijlnmbjjgpaaGreatDoor.C
open Go Go.Sx Go.Sx.S
theorem mixed : Tryz.prog.follows .mixedOrders = true := by kernel_rfl
def f16r0 : LS := [o 0 (.mv (.const (.pointer none)))]
def f16r1 : LS := [o 1 (.mkm),o 2 (.build [(.map none)] [(0, 1)] [(t 1)]),o 3 (.box (t 2)),o 4 (.build [(.pointer none)] [(0, 1)] [(t 3)]),o 5 (.box (t 4)),o 0 (.mv (t 5))]
def f16 : SCode := (.seq (.ops f16r0) (.seq (.ops f16r1) .ret))
theorem f16_calls : Sound Tryz.prog 16 6 f16 [.t 0] := sound_of mixed Tryz.func16 rfl (by kernel_rfl) (by kernel_rfl) (by kernel_rfl)
def f19r0 : LS := [o 2 (.mv (.const (.pointer none))),o 3 (.mv (i 0))]
def f19r1 : LS := [o 10 (.call 16 []),o 4 (.mv (t 10))]
def f19r2 : LS := [o 11 (.mv (t 0)),o 12 (.len (t 11)),o 13 (.mv (i 0))]
def f19r3 : LS := [o 14 (.cmp .lss (t 13) (t 12))]
def f19r4 : LS := [o 15 (.ixs 8 (t 11) (t 13)),o 16 (.ldn 8 (t 15)),o 6 (.new [(.string ⟨#[]⟩), (.int .i64 0), (.string ⟨#[]⟩), (.slice none 0 0), (.slice none 0 0), (.slice none 0 0), (.bool false), (.int .i64 0)]),
 q (.st 8 (t 6) (t 16))]
def f19r5 : LS := [o 18 (.mv (t 4)),o 19 (.nilck (t 18)),o 20 (.fa 0 (t 19)),o 21 (.ld1 (t 20)),o 22 (.nilck (t 21)),o 23 (.fa 0 (t 22)),o 24 (.ld1 (t 23)),o 25 (.fa 0 (t 6)),o 26 (.ld1 (t 25)),o 27 (.look .str (.pointer none) true (t 24) (t 26)),o 17 (.mv (t 27)),o 28 (.ext (t 17) 0),o 29 (.ext (t 17) 1),o 7 (.mv (t 28)),o 8 (.mv (t 29))]
def f19r6 : LS := [o 30 (.mv (t 8)),o 31 (.mv (t 30)),
 n 32 31 (.fa 0 (t 6)),
 n 33 31 (.ld1 (t 32)),
 n 34 31 (.lens (t 33)),
 n 35 31 (.cmp .gtr (t 34) (i 1048576)),o 36 (.pick (t 31) (b true) (t 35)),o 37 (.mv (t 36)),
 n 38 37 (.fa 1 (t 6)),
 n 39 37 (.ldn 7 (t 38)),
 n 40 37 (.call 35 [(t 39)]),
 n 41 37 (.un .not (t 40)),o 42 (.pick (t 37) (b true) (t 41))]
def f19r7 : LS := [o 2 (.mv (.const (.pointer none))),o 3 (.mv (i 2))]
def f19r8 : LS := [o 43 (.fa 1 (t 6)),o 44 (.ldn 7 (t 43)),o 45 (.call 36 [(t 44)]),o 9 (.new [(.int .i64 0), (.string ⟨#[]⟩), (.slice none 0 0), (.slice none 0 0), (.slice none 0 0), (.bool false), (.int .i64 0)]),
 q (.st 7 (t 9) (t 45))]
def f19r9 : LS := [o 46 (.mv (t 4)),o 47 (.nilck (t 46)),o 48 (.fa 0 (t 47)),o 49 (.ld1 (t 48)),o 50 (.nilck (t 49)),o 51 (.fa 0 (t 50)),o 52 (.ld1 (t 51)),o 53 (.fa 0 (t 6)),o 54 (.ld1 (t 53)),
 q (.mup .str (t 52) (t 54) (t 9))]
def f19r10 : LS := [o 55 (.ar .add (t 13) (i 1)),o 13 (.mv (t 55))]
def f19l11 : SCode := (.seq (.ops f19r3) (.seq (.cond (t 14) .skip (.exit 0)) (.seq (.block 1 (.seq (.ops f19r4) (.seq (.ops f19r5) (.seq (.seq (.ops f19r6) (.cond (t 42) (.seq (.ops f19r7) .ret) .skip)) (.seq (.ops f19r8) (.ops f19r9)))))) (.ops f19r10))))
def f19r12 : LS := [o 56 (.mv (t 0)),o 57 (.len (t 56)),o 58 (.cmp .gtr (t 57) (i 65536))]
def f19r13 : LS := [o 2 (.mv (.const (.pointer none))),o 3 (.mv (i 3))]
def f19r14 : LS := [o 59 (.mv (t 4)),o 2 (.mv (t 59)),o 3 (.mv (i 0))]
def f19 : SCode := (.seq (.ops f19r0) (.seq (.ops f19r1) (.seq (.seq (.ops f19r2) (.block 0 (.loop f19l11))) (.seq (.seq (.ops f19r12) (.cond (t 58) (.seq (.ops f19r13) .ret) .skip)) (.seq (.ops f19r14) .ret)))))
theorem f19_calls : Sound Tryz.prog 19 60 f19 [.t 2, .t 3] := sound_of mixed Tryz.func19 rfl (by kernel_rfl) (by kernel_rfl) (by kernel_rfl)
def f21r0 : LS := [o 4 (.mv (i 0)),o 5 (.mv (i 0))]
def f21r1 : LS := [o 10 (.mv (t 0)),o 11 (.call 42 [(t 10)])]
def f21r2 : LS := [o 4 (.mv (i 0)),o 5 (.mv (i 1))]
def f21r3 : LS := [o 6 (.mv (i 0))]
def f21r4 : LS := [o 7 (.mv (i 0))]
def f21r5 : LS := [o 12 (.mv (t 1)),o 13 (.len (t 12)),o 14 (.mv (i 0))]
def f21r6 : LS := [o 15 (.cmp .lss (t 14) (t 13))]
def f21r7 : LS := [o 16 (.ixs 5 (t 12) (t 14)),o 17 (.ldn 5 (t 16)),o 9 (.new [(.int .i64 0), (.string ⟨#[]⟩), (.string ⟨#[]⟩), (.string ⟨#[]⟩), (.int .i64 0)]),
 q (.st 5 (t 9) (t 17))]
def f21r8 : LS := [o 18 (.mv (t 0)),o 19 (.ldn 5 (t 9)),o 20 (.call 43 [(t 18), (t 19)]),o 7 (.mv (t 20))]
def f21r9 : LS := [o 21 (.mv (t 7)),o 22 (.cmp .neq (t 21) (i 0))]
def f21r10 : LS := [o 23 (.mv (t 6)),o 24 (.ar .add (t 23) (i 1)),o 6 (.mv (t 24))]
def f21r11 : LS := [o 25 (.ar .add (t 14) (i 1)),o 14 (.mv (t 25))]
def f21l12 : SCode := (.seq (.ops f21r6) (.seq (.cond (t 15) .skip (.exit 0)) (.seq (.block 1 (.seq (.ops f21r7) (.seq (.seq (.ops f21r8) (.seq (.ops f21r9) (.cond (t 22) (.exit 0) .skip))) (.ops f21r10)))) (.ops f21r11))))
def f21r13 : LS := [o 26 (.mv (t 6)),o 27 (.mv (t 7)),o 4 (.mv (t 26)),o 5 (.mv (t 27))]
def f21r14 : LS := [o 12 (.mv (t 1)),o 13 (.len (t 12)),o 14 (.mv (i 0))]
def f21r15 : LS := [o 15 (.cmp .lss (t 14) (t 13))]
def f21r16 : LS := [o 16 (.ixs 5 (t 12) (t 14)),o 17 (.ldn 5 (t 16)),o 9 (.new [(.int .i64 0), (.string ⟨#[]⟩), (.string ⟨#[]⟩), (.string ⟨#[]⟩), (.int .i64 0)]),
 q (.st 5 (t 9) (t 17))]
def f21r17 : LS := [o 18 (.mv (t 0)),o 19 (.ldn 5 (t 9)),o 20 (.call 43 [(t 18), (t 19)]),o 7 (.mv (t 20))]
def f21r18 : LS := [o 21 (.mv (t 7)),o 22 (.cmp .neq (t 21) (i 0))]
def f21r19 : LS := [o 23 (.mv (t 6)),o 24 (.ar .add (t 23) (i 1)),o 6 (.mv (t 24))]
def f21r20 : LS := [o 25 (.ar .add (t 14) (i 1)),o 14 (.mv (t 25))]
def f21l21 : SCode := (.seq (.ops f21r15) (.seq (.cond (t 15) .skip (.exit 0)) (.seq (.block 1 (.seq (.ops f21r16) (.seq (.seq (.ops f21r17) (.seq (.ops f21r18) (.cond (t 22) (.exit 0) .skip))) (.ops f21r19)))) (.ops f21r20))))
def f21r22 : LS := [o 26 (.mv (t 6)),o 27 (.mv (t 7)),o 4 (.mv (t 26)),o 5 (.mv (t 27))]
def f21 : SCode := (.seq (.ops f21r0) (.scopeG (.seq (.seq (.ops f21r1) (.cond (t 11) (.seq (.ops f21r2) .ret) .skip)) (.seq (.ops f21r3) (.seq (.ops f21r4) (.seq (.label 0) (.seq (.seq (.ops f21r5) (.block 0 (.loop f21l12))) (.seq (.ops f21r13) .ret)))))) 0 (.seq .skip (.seq (.seq (.ops f21r14) (.block 0 (.loop f21l21))) (.seq (.ops f21r22) .ret)))))
theorem f21_calls : Sound Tryz.prog 21 28 f21 [.t 4, .t 5] := sound_of mixed Tryz.func21 rfl (by kernel_rfl) (by kernel_rfl) (by kernel_rfl)
def f35r0 : LS := [o 1 (.box (t 0)),o 2 (.mv (b false))]
def f35r1 : LS := [o 6 (.fa 5 (t 1)),o 7 (.ld1 (t 6)),o 8 (.un .not (t 7)),o 9 (.mv (t 8)),
 g 10 9 (.fa 6 (t 1)),
 g 11 9 (.ld1 (t 10)),
 g 12 9 (.cmp .neq (t 11) (i 0)),o 13 (.pick (t 9) (t 12) (b false)),o 14 (.mv (t 13)),
 n 15 14 (.ldn 7 (t 1)),
 n 16 14 (.call 65 [(t 15)]),
 n 17 14 (.cmp .gtr (t 16) (i 65536)),o 18 (.pick (t 14) (b true) (t 17)),o 19 (.mv (t 18)),
 n 20 19 (.fa 1 (t 1)),
 n 21 19 (.ld1 (t 20)),
 n 22 19 (.bslice [(.string ⟨#[]⟩)] 1 [(0, 1)] [(t 21)]),
 n 23 19 (.call 66 [(t 22)]),
 n 24 19 (.un .not (t 23)),o 25 (.pick (t 19) (b true) (t 24)),o 26 (.mv (t 25)),
 n 27 26 (.fa 3 (t 1)),
 n 28 26 (.ld1 (t 27)),
 n 29 26 (.call 66 [(t 28)]),
 n 30 26 (.un .not (t 29)),o 31 (.pick (t 26) (b true) (t 30)),o 32 (.mv (t 31)),
 n 33 32 (.ldn 7 (t 1)),
 n 34 32 (.call 67 [(t 33)]),
 n 35 32 (.call 66 [(t 34)]),
 n 36 32 (.un .not (t 35)),o 37 (.pick (t 32) (b true) (t 36))]
def f35r2 : LS := [o 2 (.mv (b false))]
def f35r3 : LS := [o 38 (.fa 2 (t 1)),o 39 (.ld1 (t 38)),o 40 (.len (t 39)),o 41 (.fa 3 (t 1)),o 42 (.ld1 (t 41)),o 43 (.len (t 42)),o 44 (.fa 4 (t 1)),o 45 (.ld1 (t 44)),o 46 (.len (t 45)),o 3 (.mv (t 40)),o 4 (.mv (t 43)),o 5 (.mv (t 46))]
def f35r4 : LS := [o 47 (.fa 0 (t 1)),o 48 (.ld1 (t 47))]
def f35r5 : LS := [o 50 (.cmp .eql (t 48) (i 1)),o 49 (.mv (t 50))]
def f35r6 : LS := [o 51 (.mv (t 3)),o 52 (.mv (t 4)),o 53 (.ar .add (t 51) (t 52)),o 54 (.mv (t 5)),o 55 (.ar .add (t 53) (t 54)),o 56 (.cmp .eql (t 55) (i 0)),o 2 (.mv (t 56))]
def f35r7 : LS := [o 58 (.cmp .eql (t 48) (i 2)),o 57 (.mv (t 58))]
def f35r8 : LS := [o 59 (.mv (t 3)),o 60 (.cmp .gtr (t 59) (i 0)),o 61 (.mv (t 60)),
 g 62 61 (.mv (t 4)),
 g 63 61 (.mv (t 5)),
 g 64 61 (.ar .add (t 62) (t 63)),
 g 65 61 (.cmp .eql (t 64) (i 0)),o 66 (.pick (t 61) (t 65) (b false)),o 67 (.mv (t 66)),
 g 68 67 (.fa 1 (t 1)),
 g 69 67 (.ld1 (t 68)),
 g 70 67 (.cmp .eql (t 69) e),o 71 (.pick (t 67) (t 70) (b false)),o 72 (.mv (t 71)),
 g 73 72 (.fa 2 (t 1)),
 g 74 72 (.ld1 (t 73)),
 g 75 72 (.call 68 [(t 74), (u 69)]),o 76 (.pick (t 72) (t 75) (b false)),o 2 (.mv (t 76))]
def f35r9 : LS := [o 78 (.cmp .eql (t 48) (i 3)),o 77 (.mv (t 78))]
def f35r10 : LS := [o 79 (.mv (t 4)),o 80 (.cmp .gtr (t 79) (i 0)),o 81 (.mv (t 80)),
 g 82 81 (.mv (t 3)),
 g 83 81 (.mv (t 5)),
 g 84 81 (.ar .add (t 82) (t 83)),
 g 85 81 (.cmp .eql (t 84) (i 0)),o 86 (.pick (t 81) (t 85) (b false)),o 87 (.mv (t 86)),
 g 88 87 (.fa 1 (t 1)),
 g 89 87 (.ld1 (t 88)),
 g 90 87 (.cmp .eql (t 89) e),o 91 (.pick (t 87) (t 90) (b false)),o 2 (.mv (t 91))]
def f35r11 : LS := [o 93 (.cmp .eql (t 48) (i 4)),o 92 (.mv (t 93))]
def f35r12 : LS := [o 94 (.mv (t 4)),o 95 (.cmp .gtr (t 94) (i 0)),o 96 (.mv (t 95)),
 g 97 96 (.mv (t 3)),
 g 98 96 (.mv (t 5)),
 g 99 96 (.ar .add (t 97) (t 98)),
 g 100 96 (.cmp .eql (t 99) (i 0)),o 101 (.pick (t 96) (t 100) (b false)),o 102 (.mv (t 101)),
 g 103 102 (.fa 1 (t 1)),
 g 104 102 (.ld1 (t 103)),
 g 105 102 (.cmp .eql (t 104) e),o 106 (.pick (t 102) (t 105) (b false)),o 107 (.mv (t 106)),
 g 108 107 (.fa 3 (t 1)),
 g 109 107 (.ld1 (t 108)),
 g 110 107 (.call 71 [(t 109), (u 70)]),o 111 (.pick (t 107) (t 110) (b false)),o 2 (.mv (t 111))]
def f35r13 : LS := [o 113 (.cmp .eql (t 48) (i 5)),o 112 (.mv (t 113))]
def f35r14 : LS := [o 114 (.mv (t 5)),o 115 (.cmp .gtr (t 114) (i 0)),o 116 (.mv (t 115)),
 g 117 116 (.mv (t 3)),
 g 118 116 (.mv (t 4)),
 g 119 116 (.ar .add (t 117) (t 118)),
 g 120 116 (.cmp .eql (t 119) (i 0)),o 121 (.pick (t 116) (t 120) (b false)),o 122 (.mv (t 121)),
 g 123 122 (.fa 1 (t 1)),
 g 124 122 (.ld1 (t 123)),
 g 125 122 (.cmp .eql (t 124) e),o 126 (.pick (t 122) (t 125) (b false)),o 127 (.mv (t 126)),
 g 128 127 (.fa 4 (t 1)),
 g 129 127 (.ld1 (t 128)),
 g 130 127 (.call 72 [(t 129), (u 73)]),o 131 (.pick (t 127) (t 130) (b false)),o 132 (.mv (t 131)),
 g 133 132 (.fa 4 (t 1)),
 g 134 132 (.ld1 (t 133)),
 g 135 132 (.call 74 [(t 134)]),o 136 (.pick (t 132) (t 135) (b false)),o 2 (.mv (t 136))]
def f35r15 : LS := [o 2 (.mv (b false))]
def f35 : SCode := (.seq (.ops f35r0) (.seq (.seq (.ops f35r1) (.cond (t 37) (.seq (.ops f35r2) .ret) .skip)) (.seq (.ops f35r3) (.seq (.seq (.ops f35r4) (.block 0 (.seq (.ops f35r5) (.cond (t 49) (.seq (.ops f35r6) .ret) (.seq (.ops f35r7) (.cond (t 57) (.seq (.ops f35r8) .ret) (.seq (.ops f35r9) (.cond (t 77) (.seq (.ops f35r10) .ret) (.seq (.ops f35r11) (.cond (t 92) (.seq (.ops f35r12) .ret) (.seq (.ops f35r13) (.cond (t 112) (.seq (.ops f35r14) .ret) .skip)))))))))))) (.seq (.ops f35r15) .ret)))))
theorem f35_calls : Sound Tryz.prog 35 137 f35 [.t 2] := sound_of mixed Tryz.func35 rfl (by kernel_rfl) (by kernel_rfl) (by kernel_rfl)
def f36r0 : LS := [o 1 (.box (t 0)),o 2 (.new [(.int .i64 0), (.string ⟨#[]⟩), (.slice none 0 0), (.slice none 0 0), (.slice none 0 0), (.bool false), (.int .i64 0)])]
def f36r1 : LS := [o 3 (.fa 2 (t 1)),o 4 (.ld1 (t 3)),o 6 (.fa 3 (t 1)),o 7 (.ld1 (t 6)),o 9 (.fa 4 (t 1)),o 10 (.ld1 (t 9)),o 5 (.callq 75 [(t 4)]),o 12 (.fa 2 (t 1)),o 8 (.callq 76 [(t 7)]),o 11 (.callq 77 [(t 10)]),
 q (.st 1 (t 12) (t 5)),o 13 (.fa 3 (t 1)),
 q (.st 1 (t 13) (t 8)),o 14 (.fa 4 (t 1)),
 q (.st 1 (t 14) (t 11))]
def f36r2 : LS := [o 15 (.ldn 7 (t 1)),
 q (.st 7 (t 2) (t 15))]
def f36 : SCode := (.seq (.ops f36r0) (.seq (.ops f36r1) (.seq (.ops f36r2) .ret)))
theorem f36_calls : Sound Tryz.prog 36 16 f36 [.cn 2 7] := sound_of mixed Tryz.func36 rfl (by kernel_rfl) (by kernel_rfl) (by kernel_rfl)
def f37r0 : LS := [o 4 (.mv (b false))]
def f37r1 : LS := [o 5 (.mv (t 0)),o 6 (.call 42 [(t 5)]),o 7 (.mv (t 6)),
 n 8 7 (.mv (t 1)),
 n 9 7 (.call 42 [(t 8)]),o 10 (.pick (t 7) (b true) (t 9))]
def f37r2 : LS := [o 11 (.mv (t 0)),o 12 (.call 42 [(t 11)]),o 13 (.mv (t 12)),
 g 14 13 (.mv (t 1)),
 g 15 13 (.call 42 [(t 14)]),o 16 (.pick (t 13) (t 15) (b false)),o 4 (.mv (t 16))]
def f37r3 : LS := [o 17 (.mv (t 0)),o 18 (.nilck (t 17)),o 19 (.fa 0 (t 18)),o 20 (.ld1 (t 19)),o 21 (.nilck (t 20)),o 22 (.fa 0 (t 21)),o 23 (.ld1 (t 22)),o 24 (.mv (t 1)),o 25 (.nilck (t 24)),o 26 (.fa 0 (t 25)),o 27 (.ld1 (t 26)),o 28 (.nilck (t 27)),o 29 (.fa 0 (t 28)),o 30 (.ld1 (t 29)),o 31 (.call 78 [(t 23), (t 30), (u 79)]),o 4 (.mv (t 31))]
def f37 : SCode := (.seq (.ops f37r0) (.seq (.seq (.ops f37r1) (.cond (t 10) (.seq (.ops f37r2) .ret) .skip)) (.seq (.ops f37r3) .ret)))
theorem f37_calls : Sound Tryz.prog 37 32 f37 [.t 4] := sound_of mixed Tryz.func37 rfl (by kernel_rfl) (by kernel_rfl) (by kernel_rfl)
def f42r0 : LS := [o 2 (.mv (b false))]
def f42r1 : LS := [o 3 (.mv (t 0)),o 4 (.eqn 0 false (t 3)),o 5 (.mv (t 4)),
 n 6 5 (.mv (t 0)),
 n 7 5 (.nilck (t 6)),
 n 8 5 (.fa 0 (t 7)),
 n 9 5 (.ld1 (t 8)),
 n 10 5 (.eqn 0 false (t 9)),o 11 (.pick (t 5) (b true) (t 10)),o 2 (.mv (t 11))]
def f42 : SCode := (.seq (.ops f42r0) (.seq (.ops f42r1) .ret))
theorem f42_calls : Sound Tryz.prog 42 12 f42 [.t 2] := sound_of mixed Tryz.func42 rfl (by kernel_rfl) (by kernel_rfl) (by kernel_rfl)
def f43r0 : LS := [o 3 (.box (t 1)),o 4 (.mv (i 0))]
def f43p1 : LS := [o 12 (.fa 0 (t 3)),o 13 (.ld1 (t 12))]
def f43r1 : LS := [o 11 (.callq 109 []),o 14 (.look (.int .i64) (.agg #[(.bool false), (.bool false), (.bool false), (.int .i64 0), (.bool false), .nilFunc]) true (t 11) (t 13)),o 10 (.mv (t 14)),o 15 (.ext (t 10) 0),o 16 (.ext (t 10) 1),o 5 (.new [(.bool false), (.bool false), (.bool false), (.int .i64 0), (.bool false), .nilFunc]),
 q (.st 6 (t 5) (t 15)),o 6 (.mv (t 16))]
def f43s1 : LS := [o 5 (.new [(.bool false), (.bool false), (.bool false), (.int .i64 0), (.bool false), .nilFunc]),o 11 (.callq 109 []),o 14 (.look (.int .i64) (.agg #[(.bool false), (.bool false), (.bool false), (.int .i64 0), (.bool false), .nilFunc]) true (t 11) (t 13)),o 10 (.mv (t 14)),o 15 (.ext (t 10) 0),o 16 (.ext (t 10) 1),
 q (.st 6 (t 5) (t 15)),o 6 (.mv (t 16))]
def f43r2 : LS := [o 17 (.mv (t 6)),o 18 (.un .not (t 17)),o 19 (.mv (t 18)),
 n 20 19 (.fa 0 (t 5)),
 n 21 19 (.ld1 (t 20)),
 n 22 19 (.un .not (t 21)),
 n 23 19 (.mv (t 22)),
 g 24 23 (.fa 2 (t 3)),
 g 25 23 (.ld1 (t 24)),
 g 26 23 (.cmp .neq (t 25) e),
 n 27 19 (.pick (t 23) (t 26) (b false)),o 28 (.pick (t 19) (b true) (t 27)),o 29 (.mv (t 28)),
 n 30 29 (.fa 1 (t 5)),
 n 31 29 (.ld1 (t 30)),
 n 32 29 (.un .not (t 31)),
 n 33 29 (.mv (t 32)),
 g 34 33 (.fa 3 (t 3)),
 g 35 33 (.ld1 (t 34)),
 g 36 33 (.cmp .neq (t 35) e),
 n 37 29 (.pick (t 33) (t 36) (b false)),o 38 (.pick (t 29) (b true) (t 37)),o 39 (.mv (t 38)),
 n 40 39 (.fa 2 (t 5)),
 n 41 39 (.ld1 (t 40)),
 n 42 39 (.un .not (t 41)),
 n 43 39 (.mv (t 42)),
 g 44 43 (.fa 4 (t 3)),
 g 45 43 (.ld1 (t 44)),
 g 46 43 (.cmp .neq (t 45) (i 0)),
 n 47 39 (.pick (t 43) (t 46) (b false)),o 48 (.pick (t 39) (b true) (t 47))]
def f43r3 : LS := [o 4 (.mv (i 2))]
def f43r4 : LS := [o 49 (.fa 1 (t 3)),o 50 (.ld1 (t 49)),o 51 (.fa 2 (t 3)),o 52 (.ld1 (t 51)),o 53 (.fa 3 (t 3)),o 54 (.ld1 (t 53)),o 55 (.bslice [(.string ⟨#[]⟩), (.string ⟨#[]⟩), (.string ⟨#[]⟩)] 3 [(0, 1), (1, 1), (2, 1)] [(t 50), (t 52), (t 54)]),o 56 (.call 66 [(t 55)]),o 57 (.un .not (t 56))]
def f43r5 : LS := [o 4 (.mv (i 3))]
def f43r6 : LS := [o 59 (.mv (t 0)),o 60 (.fa 1 (t 3)),o 61 (.ld1 (t 60)),o 62 (.call 110 [(t 59), (t 61)]),o 58 (.mv (t 62)),o 63 (.ext (t 58) 0),o 64 (.ext (t 58) 1),o 7 (.new [(.int .i64 0), (.string ⟨#[]⟩), (.slice none 0 0), (.slice none 0 0), (.slice none 0 0), (.bool false), (.int .i64 0)]),
 q (.st 7 (t 7) (t 63)),o 8 (.mv (t 64))]
def f43r7 : LS := [o 66 (.mv (t 8)),o 67 (.un .not (t 66)),o 68 (.mv (t 67)),
 g 69 68 (.fa 4 (t 5)),
 g 70 68 (.ld1 (t 69)),
 g 71 68 (.un .not (t 70)),o 72 (.pick (t 68) (t 71) (b false)),o 65 (.mv (t 72))]
def f43r8 : LS := [o 4 (.mv (i 5))]
def f43r9 : LS := [o 74 (.mv (t 8)),o 75 (.un .not (t 74)),o 73 (.mv (t 75))]
def f43r10 : LS := [o 76 (.fa 3 (t 5)),o 77 (.ld1 (t 76)),o 78 (.fa 0 (t 7)),
 q (.st 1 (t 78) (t 77))]
def f43r11 : LS := [o 80 (.fa 3 (t 5)),o 81 (.ld1 (t 80)),o 82 (.cmp .neq (t 81) (i 0)),o 83 (.mv (t 82)),
 g 84 83 (.fa 0 (t 7)),
 g 85 83 (.ld1 (t 84)),
 g 86 83 (.fa 3 (t 5)),
 g 87 83 (.ld1 (t 86)),
 g 88 83 (.cmp .neq (t 85) (t 87)),o 89 (.pick (t 83) (t 88) (b false)),o 79 (.mv (t 89))]
def f43r12 : LS := [o 4 (.mv (i 170))]
def f43r13 : LS := [o 90 (.fa 5 (t 5)),o 91 (.ld1 (t 90)),o 92 (.ldn 5 (t 3)),o 93 (.callv (t 91) [(t 7), (t 92)]),o 9 (.mv (t 93))]
def f43r14 : LS := [o 94 (.mv (t 9)),o 95 (.cmp .neq (t 94) (i 0))]
def f43r15 : LS := [o 96 (.mv (t 9)),o 4 (.mv (t 96))]
def f43r16 : LS := [o 107 (.fa 0 (t 7)),o 108 (.ld1 (t 107)),o 109 (.cmp .neq (t 108) (i 1)),o 110 (.mv (t 109)),
 g 111 110 (.ldn 7 (t 7)),
 g 112 110 (.call 65 [(t 111)]),
 g 113 110 (.cmp .eql (t 112) (i 0)),o 114 (.pick (t 110) (t 113) (b false)),o 106 (.mv (t 114))]
def f43r17 : LS := [o 115 (.mv (t 0)),o 116 (.nilck (t 115)),o 117 (.fa 0 (t 116)),o 118 (.ld1 (t 117)),o 119 (.nilck (t 118)),o 120 (.fa 0 (t 119)),o 121 (.ld1 (t 120)),o 122 (.fa 1 (t 3)),o 123 (.ld1 (t 122)),
 q (.mdel .str (t 121) (t 123))]
def f43r18 : LS := [o 125 (.ldn 7 (t 7)),o 126 (.call 65 [(t 125)]),o 127 (.cmp .gtr (t 126) (i 65536)),o 128 (.mv (t 127)),
 n 129 128 (.mv (t 8)),
 n 130 128 (.un .not (t 129)),
 n 131 128 (.mv (t 130)),
 g 132 131 (.mv (t 0)),
 g 133 131 (.nilck (t 132)),
 g 134 131 (.fa 0 (t 133)),
 g 135 131 (.ld1 (t 134)),
 g 136 131 (.nilck (t 135)),
 g 137 131 (.fa 0 (t 136)),
 g 138 131 (.ld1 (t 137)),
 g 139 131 (.lenm (t 138)),
 g 140 131 (.cmp .geq (t 139) (i 65536)),
 n 141 128 (.pick (t 131) (t 140) (b false)),o 142 (.pick (t 128) (b true) (t 141)),o 124 (.mv (t 142))]
def f43r19 : LS := [o 4 (.mv (i 3))]
def f43r20 : LS := [o 97 (.mv (t 0)),o 98 (.nilck (t 97)),o 99 (.fa 0 (t 98)),o 100 (.ld1 (t 99)),o 101 (.nilck (t 100)),o 102 (.fa 0 (t 101)),o 103 (.ld1 (t 102)),o 104 (.fa 1 (t 3)),o 105 (.ld1 (t 104)),
 q (.mup .str (t 103) (t 105) (t 7))]
def f43r21 : LS := [o 4 (.mv (i 0))]
def f43 : SCode := (.seq (.ops f43r0) (.seq (.two f43p1 f43r1 f43s1) (.seq (.seq (.ops f43r2) (.cond (t 48) (.seq (.ops f43r3) .ret) .skip)) (.seq (.seq (.ops f43r4) (.cond (t 57) (.seq (.ops f43r5) .ret) .skip)) (.seq (.ops f43r6) (.seq (.block 0 (.seq (.ops f43r7) (.cond (t 65) (.seq (.ops f43r8) .ret) (.seq (.ops f43r9) (.cond (t 73) (.ops f43r10) (.seq (.ops f43r11) (.cond (t 79) (.seq (.ops f43r12) .ret) .skip))))))) (.seq (.seq (.ops f43r13) (.seq (.ops f43r14) (.cond (t 95) (.seq (.ops f43r15) .ret) .skip))) (.seq (.block 1 (.seq (.ops f43r16) (.cond (t 106) (.ops f43r17) (.seq (.ops f43r18) (.cond (t 124) (.seq (.ops f43r19) .ret) (.ops f43r20)))))) (.seq (.ops f43r21) .ret)))))))))
theorem f43_calls : Sound Tryz.prog 43 143 f43 [.t 4] := sound_of mixed Tryz.func43 rfl (by kernel_rfl) (by kernel_rfl) (by kernel_rfl)
def f45r0 : LS := [o 6 (.new [(.int .i64 0), (.string ⟨#[]⟩), (.slice none 0 0), (.slice none 0 0), (.slice none 0 0), (.bool false), (.int .i64 0)]),o 7 (.mv (b false))]
def f45r1 : LS := [o 11 (.mv (t 0)),o 12 (.mv (t 1)),o 13 (.call 110 [(t 11), (t 12)]),o 10 (.mv (t 13)),o 14 (.ext (t 10) 0),o 15 (.ext (t 10) 1),o 8 (.new [(.int .i64 0), (.string ⟨#[]⟩), (.slice none 0 0), (.slice none 0 0), (.slice none 0 0), (.bool false), (.int .i64 0)]),
 q (.st 7 (t 8) (t 14)),o 9 (.mv (t 15))]
def f45r2 : LS := [o 16 (.mv (t 9)),o 17 (.un .not (t 16)),o 18 (.mv (t 17)),
 n 19 18 (.ldn 7 (t 8)),
 n 20 18 (.mv (t 2)),
 n 21 18 (.call 112 [(t 19), (t 20)]),o 22 (.pick (t 18) (b true) (t 21))]
def f45r3 : LS := [o 23 (.build [(.int .i64 0), (.string ⟨#[]⟩), (.slice none 0 0), (.slice none 0 0), (.slice none 0 0), (.bool false), (.int .i64 0)] [] []),
 q (.st 7 (t 6) (t 23)),o 7 (.mv (b false))]
def f45r4 : LS := [o 24 (.ldn 7 (t 8)),
 q (.st 7 (t 6) (t 24)),o 7 (.mv (b true))]
def f45 : SCode := (.seq (.ops f45r0) (.seq (.ops f45r1) (.seq (.seq (.ops f45r2) (.cond (t 22) (.seq (.ops f45r3) .ret) .skip)) (.seq (.ops f45r4) .ret))))
theorem f45_calls : Sound Tryz.prog 45 25 f45 [.cn 6 7, .t 7] := sound_of mixed Tryz.func45 rfl (by kernel_rfl) (by kernel_rfl) (by kernel_rfl)
def f65r0 : LS := [o 1 (.box (t 0)),o 2 (.mv (i 0))]
def f65r1 : LS := [o 3 (.fa 2 (t 1)),o 4 (.ld1 (t 3)),o 5 (.len (t 4)),o 6 (.fa 3 (t 1)),o 7 (.ld1 (t 6)),o 8 (.len (t 7)),o 9 (.ar .add (t 5) (t 8)),o 10 (.fa 4 (t 1)),o 11 (.ld1 (t 10)),o 12 (.len (t 11)),o 13 (.ar .add (t 9) (t 12)),o 2 (.mv (t 13))]
def f65 : SCode := (.seq (.ops f65r0) (.seq (.ops f65r1) .ret))
theorem f65_calls : Sound Tryz.prog 65 14 f65 [.t 2] := sound_of mixed Tryz.func65 rfl (by kernel_rfl) (by kernel_rfl) (by kernel_rfl)
def f66r0 : LS := [o 2 (.mv (b false))]
def f66r1 : LS := [o 3 (.mv (t 0)),o 4 (.call 143 [(t 3), (u 144)]),o 5 (.un .not (t 4)),o 2 (.mv (t 5))]
def f66 : SCode := (.seq (.ops f66r0) (.seq (.ops f66r1) .ret))
theorem f66_calls : Sound Tryz.prog 66 6 f66 [.t 2] := sound_of mixed Tryz.func66 rfl (by kernel_rfl) (by kernel_rfl) (by kernel_rfl)
def f67r0 : LS := [o 1 (.box (t 0)),o 2 (.mv (.const (.slice none 0 0)))]
def f67r1 : LS := [o 3 (.mv (.const (.slice none 0 0)))]
def f67r2 : LS := [o 8 (.fa 2 (t 1)),o 9 (.ld1 (t 8)),o 10 (.len (t 9)),o 11 (.mv (i 0))]
def f67r3 : LS := [o 12 (.cmp .lss (t 11) (t 10))]
def f67r4 : LS := [o 13 (.ixs 2 (t 9) (t 11)),o 14 (.ldn 2 (t 13)),o 5 (.new [(.string ⟨#[]⟩), (.string ⟨#[]⟩)]),
 q (.st 2 (t 5) (t 14))]
def f67r5 : LS := [o 15 (.mv (t 3)),o 16 (.fa 0 (t 5)),o 17 (.ld1 (t 16)),o 18 (.fa 1 (t 5)),o 19 (.ld1 (t 18)),o 20 (.bslice [(.string ⟨#[]⟩), (.string ⟨#[]⟩)] 2 [(0, 1), (1, 1)] [(t 17), (t 19)]),o 21 (.app 1 16 [(.string ⟨#[]⟩)] (t 15) (t 20)),o 3 (.mv (t 21))]
def f67r6 : LS := [o 22 (.ar .add (t 11) (i 1)),o 11 (.mv (t 22))]
def f67l7 : SCode := (.seq (.ops f67r3) (.seq (.cond (t 12) .skip (.exit 0)) (.seq (.block 1 (.seq (.ops f67r4) (.ops f67r5))) (.ops f67r6))))
def f67r8 : LS := [o 23 (.fa 4 (t 1)),o 24 (.ld1 (t 23)),o 25 (.len (t 24)),o 26 (.mv (i 0))]
def f67r9 : LS := [o 27 (.cmp .lss (t 26) (t 25))]
def f67r10 : LS := [o 28 (.ixs 2 (t 24) (t 26)),o 29 (.ldn 2 (t 28)),o 7 (.new [(.string ⟨#[]⟩), (.int .i64 0)]),
 q (.st 2 (t 7) (t 29))]
def f67r11 : LS := [o 30 (.mv (t 3)),o 31 (.fa 0 (t 7)),o 32 (.ld1 (t 31)),o 33 (.bslice [(.string ⟨#[]⟩)] 1 [(0, 1)] [(t 32)]),o 34 (.app 1 16 [(.string ⟨#[]⟩)] (t 30) (t 33)),o 3 (.mv (t 34))]
def f67r12 : LS := [o 35 (.ar .add (t 26) (i 1)),o 26 (.mv (t 35))]
def f67l13 : SCode := (.seq (.ops f67r9) (.seq (.cond (t 27) .skip (.exit 2)) (.seq (.block 3 (.seq (.ops f67r10) (.ops f67r11))) (.ops f67r12))))
def f67r14 : LS := [o 36 (.mv (t 3)),o 2 (.mv (t 36))]
def f67 : SCode := (.seq (.ops f67r0) (.seq (.ops f67r1) (.seq (.seq (.ops f67r2) (.block 0 (.loop f67l7))) (.seq (.seq (.ops f67r8) (.block 2 (.loop f67l13))) (.seq (.ops f67r14) .ret)))))
theorem f67_calls : Sound Tryz.prog 67 37 f67 [.t 2] := sound_of mixed Tryz.func67 rfl (by kernel_rfl) (by kernel_rfl) (by kernel_rfl)
def f68r0 : LS := [o 4 (.mv (b false))]
def f68r1 : LS := [o 5 (.mv (i 1))]
def f68r2 : LS := [o 6 (.mv (t 5)),o 7 (.mv (t 0)),o 8 (.len (t 7)),o 9 (.cmp .lss (t 6) (t 8))]
def f68r3 : LS := [o 12 (.mv (t 1)),o 13 (.mv (t 0)),o 14 (.mv (t 5)),o 15 (.ar .sub (t 14) (i 1)),o 16 (.ixs 2 (t 13) (t 15)),o 17 (.ldn 2 (t 16)),o 18 (.mv (t 0)),o 19 (.mv (t 5)),o 20 (.ixs 2 (t 18) (t 19)),o 21 (.ldn 2 (t 20)),o 22 (.callv (t 12) [(t 17), (t 21)]),o 23 (.cmp .geq (t 22) (i 0))]
def f68r4 : LS := [o 4 (.mv (b false))]
def f68r5 : LS := [o 10 (.mv (t 5)),o 11 (.ar .add (t 10) (i 1)),o 5 (.mv (t 11))]
def f68l6 : SCode := (.seq (.seq (.ops f68r2) (.cond (t 9) .skip (.exit 0))) (.seq (.block 1 (.seq (.ops f68r3) (.cond (t 23) (.seq (.ops f68r4) .ret) .skip))) (.ops f68r5)))
def f68r7 : LS := [o 4 (.mv (b true))]
def f68 : SCode := (.seq (.ops f68r0) (.seq (.seq (.ops f68r1) (.block 0 (.loop f68l6))) (.seq (.ops f68r7) .ret)))
theorem f68_calls : Sound Tryz.prog 68 24 f68 [.t 4] := sound_of mixed Tryz.func68 rfl (by kernel_rfl) (by kernel_rfl) (by kernel_rfl)
def f69r0 : LS := [o 2 (.box (t 0)),o 3 (.box (t 1)),o 4 (.mv (i 0))]
def f69r1 : LS := [o 5 (.fa 0 (t 2)),o 6 (.ld1 (t 5)),o 7 (.fa 0 (t 3)),o 8 (.ld1 (t 7)),o 9 (.call 70 [(t 6), (t 8)]),o 4 (.mv (t 9))]
def f69 : SCode := (.seq (.ops f69r0) (.seq (.ops f69r1) .ret))
theorem f69_calls : Sound Tryz.prog 69 10 f69 [.t 4] := sound_of mixed Tryz.func69 rfl (by kernel_rfl) (by kernel_rfl) (by kernel_rfl)
def f70r0 : LS := [o 4 (.mv (i 0))]
def f70r1 : LS := [o 5 (.mv (t 0)),o 6 (.mv (t 1)),o 7 (.call 145 [(t 5), (t 6)]),o 4 (.mv (t 7))]
def f70 : SCode := (.seq (.ops f70r0) (.seq (.ops f70r1) .ret))
theorem f70_calls : Sound Tryz.prog 70 8 f70 [.t 4] := sound_of mixed Tryz.func70 rfl (by kernel_rfl) (by kernel_rfl) (by kernel_rfl)
def f71r0 : LS := [o 4 (.mv (b false))]
def f71r1 : LS := [o 5 (.mv (i 1))]
def f71r2 : LS := [o 6 (.mv (t 5)),o 7 (.mv (t 0)),o 8 (.len (t 7)),o 9 (.cmp .lss (t 6) (t 8))]
def f71r3 : LS := [o 12 (.mv (t 1)),o 13 (.mv (t 0)),o 14 (.mv (t 5)),o 15 (.ar .sub (t 14) (i 1)),o 16 (.ixs 1 (t 13) (t 15)),o 17 (.ld1 (t 16)),o 18 (.mv (t 0)),o 19 (.mv (t 5)),o 20 (.ixs 1 (t 18) (t 19)),o 21 (.ld1 (t 20)),o 22 (.callv (t 12) [(t 17), (t 21)]),o 23 (.cmp .geq (t 22) (i 0))]
def f71r4 : LS := [o 4 (.mv (b false))]
def f71r5 : LS := [o 10 (.mv (t 5)),o 11 (.ar .add (t 10) (i 1)),o 5 (.mv (t 11))]
def f71l6 : SCode := (.seq (.seq (.ops f71r2) (.cond (t 9) .skip (.exit 0))) (.seq (.block 1 (.seq (.ops f71r3) (.cond (t 23) (.seq (.ops f71r4) .ret) .skip))) (.ops f71r5)))
def f71r7 : LS := [o 4 (.mv (b true))]
def f71 : SCode := (.seq (.ops f71r0) (.seq (.seq (.ops f71r1) (.block 0 (.loop f71l6))) (.seq (.ops f71r7) .ret)))
theorem f71_calls : Sound Tryz.prog 71 24 f71 [.t 4] := sound_of mixed Tryz.func71 rfl (by kernel_rfl) (by kernel_rfl) (by kernel_rfl)
def f72r0 : LS := [o 4 (.mv (b false))]
def f72r1 : LS := [o 5 (.mv (i 1))]
def f72r2 : LS := [o 6 (.mv (t 5)),o 7 (.mv (t 0)),o 8 (.len (t 7)),o 9 (.cmp .lss (t 6) (t 8))]
def f72r3 : LS := [o 12 (.mv (t 1)),o 13 (.mv (t 0)),o 14 (.mv (t 5)),o 15 (.ar .sub (t 14) (i 1)),o 16 (.ixs 2 (t 13) (t 15)),o 17 (.ldn 2 (t 16)),o 18 (.mv (t 0)),o 19 (.mv (t 5)),o 20 (.ixs 2 (t 18) (t 19)),o 21 (.ldn 2 (t 20)),o 22 (.callv (t 12) [(t 17), (t 21)]),o 23 (.cmp .geq (t 22) (i 0))]
def f72r4 : LS := [o 4 (.mv (b false))]
def f72r5 : LS := [o 10 (.mv (t 5)),o 11 (.ar .add (t 10) (i 1)),o 5 (.mv (t 11))]
def f72l6 : SCode := (.seq (.seq (.ops f72r2) (.cond (t 9) .skip (.exit 0))) (.seq (.block 1 (.seq (.ops f72r3) (.cond (t 23) (.seq (.ops f72r4) .ret) .skip))) (.ops f72r5)))
def f72r7 : LS := [o 4 (.mv (b true))]
def f72 : SCode := (.seq (.ops f72r0) (.seq (.seq (.ops f72r1) (.block 0 (.loop f72l6))) (.seq (.ops f72r7) .ret)))
theorem f72_calls : Sound Tryz.prog 72 24 f72 [.t 4] := sound_of mixed Tryz.func72 rfl (by kernel_rfl) (by kernel_rfl) (by kernel_rfl)
def f73r0 : LS := [o 2 (.box (t 0)),o 3 (.box (t 1)),o 4 (.mv (i 0))]
def f73r1 : LS := [o 6 (.fa 1 (t 2)),o 7 (.ld1 (t 6)),o 8 (.fa 1 (t 3)),o 9 (.ld1 (t 8)),o 10 (.cmp .lss (t 7) (t 9)),o 5 (.mv (t 10))]
def f73r2 : LS := [o 4 (.mv (i (-1)))]
def f73r3 : LS := [o 12 (.fa 1 (t 2)),o 13 (.ld1 (t 12)),o 14 (.fa 1 (t 3)),o 15 (.ld1 (t 14)),o 16 (.cmp .gtr (t 13) (t 15)),o 11 (.mv (t 16))]
def f73r4 : LS := [o 4 (.mv (i 1))]
def f73r5 : LS := [o 17 (.fa 0 (t 2)),o 18 (.ld1 (t 17)),o 19 (.fa 0 (t 3)),o 20 (.ld1 (t 19)),o 21 (.call 70 [(t 18), (t 20)]),o 4 (.mv (t 21))]
def f73 : SCode := (.seq (.ops f73r0) (.seq (.block 0 (.seq (.ops f73r1) (.cond (t 5) (.seq (.ops f73r2) .ret) (.seq (.ops f73r3) (.cond (t 11) (.seq (.ops f73r4) .ret) .skip))))) (.seq (.ops f73r5) .ret)))
theorem f73_calls : Sound Tryz.prog 73 22 f73 [.t 4] := sound_of mixed Tryz.func73 rfl (by kernel_rfl) (by kernel_rfl) (by kernel_rfl)
def f74r0 : LS := [o 2 (.mv (b false))]
def f74r1 : LS := [o 6 (.mkm),o 3 (.mv (t 6))]
def f74r2 : LS := [o 7 (.mv (t 0)),o 8 (.len (t 7)),o 9 (.mv (i 0))]
def f74r3 : LS := [o 10 (.cmp .lss (t 9) (t 8))]
def f74r4 : LS := [o 11 (.ixs 2 (t 7) (t 9)),o 12 (.ldn 2 (t 11)),o 5 (.new [(.string ⟨#[]⟩), (.int .i64 0)]),
 q (.st 2 (t 5) (t 12))]
def f74r5 : LS := [o 13 (.mv (t 3)),o 14 (.fa 0 (t 5)),o 15 (.ld1 (t 14)),o 16 (.look .str (.int .i64 0) false (t 13) (t 15)),o 17 (.ar .add (t 16) (i 1)),
 q (.mup .str (t 13) (t 15) (t 17))]
def f74r6 : LS := [o 18 (.ar .add (t 9) (i 1)),o 9 (.mv (t 18))]
def f74l7 : SCode := (.seq (.ops f74r3) (.seq (.cond (t 10) .skip (.exit 0)) (.seq (.block 1 (.seq (.ops f74r4) (.ops f74r5))) (.ops f74r6))))
def f74r8 : LS := [o 19 (.mv (t 3)),o 20 (.lenm (t 19)),o 21 (.mv (t 0)),o 22 (.len (t 21)),o 23 (.cmp .eql (t 20) (t 22)),o 2 (.mv (t 23))]
def f74 : SCode := (.seq (.ops f74r0) (.seq (.ops f74r1) (.seq (.seq (.ops f74r2) (.block 0 (.loop f74l7))) (.seq (.ops f74r8) .ret))))
theorem f74_calls : Sound Tryz.prog 74 24 f74 [.t 2] := sound_of mixed Tryz.func74 rfl (by kernel_rfl) (by kernel_rfl) (by kernel_rfl)
def f75r0 : LS := [o 2 (.mv (.const (.slice none 0 0)))]
def f75r1 : LS := [o 3 (.mv (t 0)),o 4 (.eqn 1 false (t 3))]
def f75r2 : LS := [o 2 (.mv (.const (.slice none 0 0)))]
def f75r3 : LS := [o 5 (.bslice [] 0 [] []),o 6 (.mv (t 0)),o 7 (.app 2 32 [(.string ⟨#[]⟩), (.string ⟨#[]⟩)] (t 5) (t 6)),o 2 (.mv (t 7))]
def f75 : SCode := (.seq (.ops f75r0) (.seq (.seq (.ops f75r1) (.cond (t 4) (.seq (.ops f75r2) .ret) .skip)) (.seq (.ops f75r3) .ret)))
theorem f75_calls : Sound Tryz.prog 75 8 f75 [.t 2] := sound_of mixed Tryz.func75 rfl (by kernel_rfl) (by kernel_rfl) (by kernel_rfl)
def f76r0 : LS := [o 2 (.mv (.const (.slice none 0 0)))]
def f76r1 : LS := [o 3 (.mv (t 0)),o 4 (.eqn 1 false (t 3))]
def f76r2 : LS := [o 2 (.mv (.const (.slice none 0 0)))]
def f76r3 : LS := [o 5 (.bslice [] 0 [] []),o 6 (.mv (t 0)),o 7 (.app 1 16 [(.string ⟨#[]⟩)] (t 5) (t 6)),o 2 (.mv (t 7))]
def f76 : SCode := (.seq (.ops f76r0) (.seq (.seq (.ops f76r1) (.cond (t 4) (.seq (.ops f76r2) .ret) .skip)) (.seq (.ops f76r3) .ret)))
theorem f76_calls : Sound Tryz.prog 76 8 f76 [.t 2] := sound_of mixed Tryz.func76 rfl (by kernel_rfl) (by kernel_rfl) (by kernel_rfl)
def f77r0 : LS := [o 2 (.mv (.const (.slice none 0 0)))]
def f77r1 : LS := [o 3 (.mv (t 0)),o 4 (.eqn 1 false (t 3))]
def f77r2 : LS := [o 2 (.mv (.const (.slice none 0 0)))]
def f77r3 : LS := [o 5 (.bslice [] 0 [] []),o 6 (.mv (t 0)),o 7 (.app 2 24 [(.string ⟨#[]⟩), (.int .i64 0)] (t 5) (t 6)),o 2 (.mv (t 7))]
def f77 : SCode := (.seq (.ops f77r0) (.seq (.seq (.ops f77r1) (.cond (t 4) (.seq (.ops f77r2) .ret) .skip)) (.seq (.ops f77r3) .ret)))
theorem f77_calls : Sound Tryz.prog 77 8 f77 [.t 2] := sound_of mixed Tryz.func77 rfl (by kernel_rfl) (by kernel_rfl) (by kernel_rfl)
def f109r0 : LS := [o 0 (.mv (.const (.map none)))]
def f109r1 : LS := [o 1 (.mkm),o 2 (.build [(.bool false), (.bool false), (.bool false), (.int .i64 0), (.bool false), .nilFunc] [(5, 1)] [(u 185)]),
 q (.mup (.int .i64) (t 1) (i 1) (t 2)),o 3 (.build [(.bool false), (.bool false), (.bool false), (.int .i64 0), (.bool false), .nilFunc] [(1, 1), (4, 1), (5, 1)] [(b true), (b true), (u 186)]),
 q (.mup (.int .i64) (t 1) (i 2) (t 3)),o 4 (.build [(.bool false), (.bool false), (.bool false), (.int .i64 0), (.bool false), .nilFunc] [(2, 1), (5, 1)] [(b true), (u 187)]),
 q (.mup (.int .i64) (t 1) (i 3) (t 4)),o 5 (.build [(.bool false), (.bool false), (.bool false), (.int .i64 0), (.bool false), .nilFunc] [(5, 1)] [(u 188)]),
 q (.mup (.int .i64) (t 1) (i 4) (t 5)),o 6 (.build [(.bool false), (.bool false), (.bool false), (.int .i64 0), (.bool false), .nilFunc] [(0, 1), (1, 1), (3, 1), (4, 1), (5, 1)] [(b true), (b true), (i 2), (b true), (u 189)]),
 q (.mup (.int .i64) (t 1) (i 5) (t 6)),o 7 (.build [(.bool false), (.bool false), (.bool false), (.int .i64 0), (.bool false), .nilFunc] [(0, 1), (3, 1), (5, 1)] [(b true), (i 2), (u 190)]),
 q (.mup (.int .i64) (t 1) (i 6) (t 7)),o 8 (.build [(.bool false), (.bool false), (.bool false), (.int .i64 0), (.bool false), .nilFunc] [(1, 1), (3, 1), (4, 1), (5, 1)] [(b true), (i 3), (b true), (u 191)]),
 q (.mup (.int .i64) (t 1) (i 7) (t 8)),o 9 (.build [(.bool false), (.bool false), (.bool false), (.int .i64 0), (.bool false), .nilFunc] [(1, 1), (3, 1), (4, 1), (5, 1)] [(b true), (i 3), (b true), (u 193)]),
 q (.mup (.int .i64) (t 1) (i 8) (t 9)),o 10 (.build [(.bool false), (.bool false), (.bool false), (.int .i64 0), (.bool false), .nilFunc] [(3, 1), (5, 1)] [(i 3), (u 194)]),
 q (.mup (.int .i64) (t 1) (i 9) (t 10)),o 11 (.build [(.bool false), (.bool false), (.bool false), (.int .i64 0), (.bool false), .nilFunc] [(3, 1), (5, 1)] [(i 3), (u 195)]),
 q (.mup (.int .i64) (t 1) (i 10) (t 11)),o 12 (.build [(.bool false), (.bool false), (.bool false), (.int .i64 0), (.bool false), .nilFunc] [(1, 1), (2, 1), (3, 1), (5, 1)] [(b true), (b true), (i 3), (u 196)]),
 q (.mup (.int .i64) (t 1) (i 11) (t 12)),o 13 (.build [(.bool false), (.bool false), (.bool false), (.int .i64 0), (.bool false), .nilFunc] [(0, 1), (3, 1), (4, 1), (5, 1)] [(b true), (i 4), (b true), (u 197)]),
 q (.mup (.int .i64) (t 1) (i 12) (t 13)),o 14 (.build [(.bool false), (.bool false), (.bool false), (.int .i64 0), (.bool false), .nilFunc] [(0, 1), (3, 1), (5, 1)] [(b true), (i 4), (u 198)]),
 q (.mup (.int .i64) (t 1) (i 13) (t 14)),o 15 (.build [(.bool false), (.bool false), (.bool false), (.int .i64 0), (.bool false), .nilFunc] [(0, 1), (2, 1), (3, 1), (4, 1), (5, 1)] [(b true), (b true), (i 5), (b true), (u 199)]),
 q (.mup (.int .i64) (t 1) (i 14) (t 15)),o 16 (.build [(.bool false), (.bool false), (.bool false), (.int .i64 0), (.bool false), .nilFunc] [(0, 1), (3, 1), (5, 1)] [(b true), (i 5), (u 200)]),
 q (.mup (.int .i64) (t 1) (i 15) (t 16)),o 17 (.mv (t 1)),o 0 (.mv (t 17))]
def f109 : SCode := (.seq (.ops f109r0) (.seq (.ops f109r1) .ret))
theorem f109_calls : Sound Tryz.prog 109 18 f109 [.t 0] := sound_of mixed Tryz.func109 rfl (by kernel_rfl) (by kernel_rfl) (by kernel_rfl)
def f110r0 : LS := [o 4 (.new [(.int .i64 0), (.string ⟨#[]⟩), (.slice none 0 0), (.slice none 0 0), (.slice none 0 0), (.bool false), (.int .i64 0)]),o 5 (.mv (b false))]
def f110r1 : LS := [o 6 (.mv (t 0)),o 7 (.call 42 [(t 6)]),o 8 (.mv (t 7)),
 n 9 8 (.mv (t 0)),
 n 10 8 (.nilck (t 9)),
 n 11 8 (.fa 0 (t 10)),
 n 12 8 (.ld1 (t 11)),
 n 13 8 (.nilck (t 12)),
 n 14 8 (.fa 0 (t 13)),
 n 15 8 (.ld1 (t 14)),
 n 16 8 (.mv (t 1)),
 n 17 8 (.look .str (.pointer none) false (t 15) (t 16)),
 n 18 8 (.eqn 0 false (t 17)),o 19 (.pick (t 8) (b true) (t 18))]
def f110r2 : LS := [o 20 (.build [(.int .i64 0), (.string ⟨#[]⟩), (.slice none 0 0), (.slice none 0 0), (.slice none 0 0), (.bool false), (.int .i64 0)] [] []),
 q (.st 7 (t 4) (t 20)),o 5 (.mv (b false))]
def f110r3 : LS := [o 21 (.mv (t 0)),o 22 (.nilck (t 21)),o 23 (.fa 0 (t 22)),o 24 (.ld1 (t 23)),o 25 (.nilck (t 24)),o 26 (.fa 0 (t 25)),o 27 (.ld1 (t 26)),o 28 (.mv (t 1)),o 29 (.look .str (.pointer none) false (t 27) (t 28)),o 30 (.nilck (t 29)),o 31 (.ldn 7 (t 30)),o 32 (.call 36 [(t 31)]),
 q (.st 7 (t 4) (t 32)),o 5 (.mv (b true))]
def f110 : SCode := (.seq (.ops f110r0) (.seq (.seq (.ops f110r1) (.cond (t 19) (.seq (.ops f110r2) .ret) .skip)) (.seq (.ops f110r3) .ret)))
theorem f110_calls : Sound Tryz.prog 110 33 f110 [.cn 4 7, .t 5] := sound_of mixed Tryz.func110 rfl (by kernel_rfl) (by kernel_rfl) (by kernel_rfl)
def f112r0 : LS := [o 2 (.box (t 0)),o 4 (.mv (b false))]
def f112r1 : LS := [o 5 (.fa 5 (t 2)),o 6 (.ld1 (t 5)),o 7 (.mv (t 6)),
 g 8 7 (.fa 6 (t 2)),
 g 9 7 (.ld1 (t 8)),
 g 10 7 (.mv (t 1)),
 g 11 7 (.cmp .leq (t 9) (t 10)),o 12 (.pick (t 7) (t 11) (b false)),o 4 (.mv (t 12))]
def f112 : SCode := (.seq (.ops f112r0) (.seq (.ops f112r1) .ret))
theorem f112_calls : Sound Tryz.prog 112 13 f112 [.t 4] := sound_of mixed Tryz.func112 rfl (by kernel_rfl) (by kernel_rfl) (by kernel_rfl)
def f143r0 : LS := [o 4 (.mv (b false))]
def f143r1 : LS := [o 5 (.mv (t 0)),o 6 (.mv (t 1)),o 7 (.call 226 [(t 5), (t 6)]),o 8 (.cmp .geq (t 7) (i 0)),o 4 (.mv (t 8))]
def f143 : SCode := (.seq (.ops f143r0) (.seq (.ops f143r1) .ret))
theorem f143_calls : Sound Tryz.prog 143 9 f143 [.t 4] := sound_of mixed Tryz.func143 rfl (by kernel_rfl) (by kernel_rfl) (by kernel_rfl)
def f144r0 : LS := [o 2 (.mv (b false))]
def f144r1 : LS := [o 3 (.mv (t 0)),o 4 (.lens (t 3)),o 5 (.cmp .gtr (t 4) (i 1048576)),o 2 (.mv (t 5))]
def f144 : SCode := (.seq (.ops f144r0) (.seq (.ops f144r1) .ret))
theorem f144_calls : Sound Tryz.prog 144 6 f144 [.t 2] := sound_of mixed Tryz.func144 rfl (by kernel_rfl) (by kernel_rfl) (by kernel_rfl)
def f164r0 : LS := [o 2 (.mv (i 0)),o 3 (.mv (b false))]
def f164r1 : LS := [o 7 (.mv (t 0)),o 8 (.call 234 [(t 7), (i 10), (i 64)]),o 6 (.mv (t 8)),o 9 (.ext (t 6) 0),o 10 (.ext (t 6) 1),o 4 (.mv (t 9)),o 5 (.mv (t 10))]
def f164r2 : LS := [o 11 (.mv (t 5)),o 12 (.eqn 4 true (t 11)),o 13 (.mv (t 12)),
 n 14 13 (.mv (t 4)),
 n 15 13 (.call 34 [(t 14), (i 10)]),
 n 16 13 (.mv (t 0)),
 n 17 13 (.cmp .neq (t 15) (t 16)),o 18 (.pick (t 13) (b true) (t 17))]
def f164r3 : LS := [o 2 (.mv (i 0)),o 3 (.mv (b false))]
def f164r4 : LS := [o 19 (.mv (t 4)),o 2 (.mv (t 19)),o 3 (.mv (b true))]
def f164 : SCode := (.seq (.ops f164r0) (.seq (.ops f164r1) (.seq (.seq (.ops f164r2) (.cond (t 18) (.seq (.ops f164r3) .ret) .skip)) (.seq (.ops f164r4) .ret))))
theorem f164_calls : Sound Tryz.prog 164 20 f164 [.t 2, .t 3] := sound_of mixed Tryz.func164 rfl (by kernel_rfl) (by kernel_rfl) (by kernel_rfl)
def f185r0 : LS := [o 3 (.box (t 1)),o 4 (.mv (i 0))]
def f185r1 : LS := [o 5 (.mv (t 0)),o 6 (.build [(.int .i64 0), (.string ⟨#[]⟩), (.slice none 0 0), (.slice none 0 0), (.slice none 0 0), (.bool false), (.int .i64 0)] [] []),o 7 (.nilck (t 5)),
 q (.st 7 (t 7) (t 6))]
def f185r2 : LS := [o 4 (.mv (i 0))]
def f185 : SCode := (.seq (.ops f185r0) (.seq (.ops f185r1) (.seq (.ops f185r2) .ret)))
theorem f185_calls : Sound Tryz.prog 185 8 f185 [.t 4] := sound_of mixed Tryz.func185 rfl (by kernel_rfl) (by kernel_rfl) (by kernel_rfl)
def f186r0 : LS := [o 3 (.box (t 1)),o 4 (.mv (i 0))]
def f186r1 : LS := [o 5 (.mv (t 0)),o 6 (.fa 3 (t 3)),o 7 (.ld1 (t 6)),o 8 (.build [(.int .i64 0), (.string ⟨#[]⟩), (.slice none 0 0), (.slice none 0 0), (.slice none 0 0), (.bool false), (.int .i64 0)] [(0, 1), (1, 1)] [(i 1), (t 7)]),o 9 (.nilck (t 5)),
 q (.st 7 (t 9) (t 8))]
def f186r2 : LS := [o 4 (.mv (i 0))]
def f186 : SCode := (.seq (.ops f186r0) (.seq (.ops f186r1) (.seq (.ops f186r2) .ret)))
theorem f186_calls : Sound Tryz.prog 186 10 f186 [.t 4] := sound_of mixed Tryz.func186 rfl (by kernel_rfl) (by kernel_rfl) (by kernel_rfl)
def f187r0 : LS := [o 3 (.box (t 1)),o 4 (.mv (i 0))]
def f187p1 : LS := [o 5 (.mv (t 0)),o 6 (.mv (t 0)),o 7 (.fa 4 (t 3)),o 9 (.nilck (t 5)),o 10 (.fa 5 (t 9))]
def f187r1 : LS := [o 8 (.ld1 (t 7)),
 q (.st 1 (t 10) (b true)),o 11 (.nilck (t 6)),o 12 (.fa 6 (t 11)),
 q (.st 1 (t 12) (t 8))]
def f187s1 : LS := [
 q (.st 1 (t 10) (b true)),o 8 (.ld1 (t 7)),o 11 (.nilck (t 6)),o 12 (.fa 6 (t 11)),
 q (.st 1 (t 12) (t 8))]
def f187r2 : LS := [o 4 (.mv (i 0))]
def f187 : SCode := (.seq (.ops f187r0) (.seq (.two f187p1 f187r1 f187s1) (.seq (.ops f187r2) .ret)))
theorem f187_calls : Sound Tryz.prog 187 13 f187 [.t 4] := sound_of mixed Tryz.func187 rfl (by kernel_rfl) (by kernel_rfl) (by kernel_rfl)
def f188r0 : LS := [o 3 (.box (t 1)),o 4 (.mv (i 0))]
def f188r1 : LS := [o 5 (.mv (t 0)),o 6 (.mv (t 0)),o 7 (.nilck (t 5)),o 8 (.fa 5 (t 7)),
 q (.st 1 (t 8) (b false)),o 9 (.nilck (t 6)),o 10 (.fa 6 (t 9)),
 q (.st 1 (t 10) (i 0))]
def f188r2 : LS := [o 4 (.mv (i 0))]
def f188 : SCode := (.seq (.ops f188r0) (.seq (.ops f188r1) (.seq (.ops f188r2) .ret)))
theorem f188_calls : Sound Tryz.prog 188 11 f188 [.t 4] := sound_of mixed Tryz.func188 rfl (by kernel_rfl) (by kernel_rfl) (by kernel_rfl)
def f189r0 : LS := [o 3 (.box (t 1)),o 4 (.mv (i 0))]
def f189r1 : LS := [o 8 (.mv (t 0)),o 9 (.nilck (t 8)),o 10 (.fa 2 (t 9)),o 11 (.ld1 (t 10)),o 12 (.fa 2 (t 3)),o 13 (.ld1 (t 12)),o 14 (.call 248 [(t 11), (u 249), (t 13)]),o 7 (.mv (t 14)),o 15 (.ext (t 7) 0),o 16 (.ext (t 7) 1),o 5 (.mv (t 15)),o 6 (.mv (t 16))]
def f189r2 : LS := [o 17 (.mv (t 6)),o 18 (.un .not (t 17))]
def f189r3 : LS := [o 19 (.mv (t 0)),o 20 (.mv (t 0)),o 21 (.nilck (t 20)),o 22 (.fa 2 (t 21)),o 23 (.ld1 (t 22)),o 24 (.mv (t 5)),o 25 (.fa 2 (t 3)),o 26 (.ld1 (t 25)),o 27 (.build [(.string ⟨#[]⟩), (.string ⟨#[]⟩)] [(0, 1)] [(t 26)]),o 28 (.bslice [(.string ⟨#[]⟩), (.string ⟨#[]⟩)] 1 [(0, 2)] [(t 27)]),o 29 (.call 250 [(t 23), (t 24), (t 28)]),o 30 (.nilck (t 19)),o 31 (.fa 2 (t 30)),
 q (.st 1 (t 31) (t 29))]
def f189r4 : LS := [o 32 (.mv (t 0)),o 33 (.nilck (t 32)),o 34 (.fa 2 (t 33)),o 35 (.ld1 (t 34)),o 36 (.mv (t 5)),o 37 (.fa 3 (t 3)),o 38 (.ld1 (t 37)),o 39 (.ixs 2 (t 35) (t 36)),o 40 (.fa 1 (t 39)),
 q (.st 1 (t 40) (t 38))]
def f189r5 : LS := [o 4 (.mv (i 0))]
def f189 : SCode := (.seq (.ops f189r0) (.seq (.ops f189r1) (.seq (.seq (.ops f189r2) (.cond (t 18) (.ops f189r3) .skip)) (.seq (.ops f189r4) (.seq (.ops f189r5) .ret)))))
theorem f189_calls : Sound Tryz.prog 189 41 f189 [.t 4] := sound_of mixed Tryz.func189 rfl (by kernel_rfl) (by kernel_rfl) (by kernel_rfl)
def f190r0 : LS := [o 3 (.box (t 1)),o 4 (.mv (i 0))]
def f190r1 : LS := [o 8 (.mv (t 0)),o 9 (.nilck (t 8)),o 10 (.fa 2 (t 9)),o 11 (.ld1 (t 10)),o 12 (.fa 2 (t 3)),o 13 (.ld1 (t 12)),o 14 (.call 248 [(t 11), (u 249), (t 13)]),o 7 (.mv (t 14)),o 15 (.ext (t 7) 0),o 16 (.ext (t 7) 1),o 5 (.mv (t 15)),o 6 (.mv (t 16))]
def f190r2 : LS := [o 17 (.mv (t 6)),o 18 (.un .not (t 17))]
def f190r3 : LS := [o 4 (.mv (i 5))]
def f190r4 : LS := [o 19 (.mv (t 0)),o 20 (.mv (t 0)),o 21 (.nilck (t 20)),o 22 (.fa 2 (t 21)),o 23 (.ld1 (t 22)),o 24 (.mv (t 5)),o 25 (.mv (t 5)),o 26 (.ar .add (t 25) (i 1)),o 27 (.call 251 [(t 23), (t 24), (t 26)]),o 28 (.nilck (t 19)),o 29 (.fa 2 (t 28)),
 q (.st 1 (t 29) (t 27))]
def f190r5 : LS := [o 4 (.mv (i 0))]
def f190 : SCode := (.seq (.ops f190r0) (.seq (.ops f190r1) (.seq (.seq (.ops f190r2) (.cond (t 18) (.seq (.ops f190r3) .ret) .skip)) (.seq (.ops f190r4) (.seq (.ops f190r5) .ret)))))
theorem f190_calls : Sound Tryz.prog 190 30 f190 [.t 4] := sound_of mixed Tryz.func190 rfl (by kernel_rfl) (by kernel_rfl) (by kernel_rfl)
def f191r0 : LS := [o 3 (.box (t 1)),o 4 (.mv (i 0))]
def f191r1 : LS := [o 5 (.mv (t 0)),o 6 (.mv (t 0)),o 7 (.nilck (t 6)),o 8 (.fa 3 (t 7)),o 9 (.ld1 (t 8)),o 10 (.fa 3 (t 3)),o 11 (.ld1 (t 10)),o 12 (.bslice [(.string ⟨#[]⟩)] 1 [(0, 1)] [(t 11)]),o 13 (.call 192 [(t 9), (i 0), (t 12)]),o 14 (.nilck (t 5)),o 15 (.fa 3 (t 14)),
 q (.st 1 (t 15) (t 13))]
def f191r2 : LS := [o 4 (.mv (i 0))]
def f191 : SCode := (.seq (.ops f191r0) (.seq (.ops f191r1) (.seq (.ops f191r2) .ret)))
theorem f191_calls : Sound Tryz.prog 191 16 f191 [.t 4] := sound_of mixed Tryz.func191 rfl (by kernel_rfl) (by kernel_rfl) (by kernel_rfl)
def f192r0 : LS := [o 6 (.mv (.const (.slice none 0 0)))]
def f192r1 : LS := [o 10 (.mv (t 0)),o 11 (.mv (t 1)),o 12 (.slc 1 (t 10) (some (t 11)) none)]
def f192r2 : LS := [o 13 (.mv (t 2)),o 14 (.len (t 13)),o 7 (.mv (t 14))]
def f192r3 : LS := [o 15 (.mv (t 7)),o 16 (.cmp .eql (t 15) (i 0))]
def f192r4 : LS := [o 17 (.mv (t 0)),o 6 (.mv (t 17))]
def f192r5 : LS := [o 18 (.mv (t 0)),o 19 (.len (t 18)),o 8 (.mv (t 19))]
def f192r6 : LS := [o 20 (.mv (t 1)),o 21 (.mv (t 8)),o 22 (.cmp .eql (t 20) (t 21))]
def f192r7 : LS := [o 23 (.mv (t 0)),o 24 (.mv (t 2)),o 25 (.app 1 16 [(.string ⟨#[]⟩)] (t 23) (t 24)),o 6 (.mv (t 25))]
def f192r8 : LS := [o 26 (.mv (t 8)),o 27 (.mv (t 7)),o 28 (.ar .add (t 26) (t 27)),o 29 (.mv (t 0)),o 30 (.capc (t 29)),o 31 (.cmp .gtr (t 28) (t 30))]
def f192r9 : LS := [o 32 (.mv (t 0)),o 33 (.mv (t 1)),o 34 (.slc 1 (t 32) none (some (t 33))),o 35 (.mv (t 8)),o 36 (.mv (t 7)),o 37 (.ar .add (t 35) (t 36)),o 38 (.mv (t 1)),o 39 (.ar .sub (t 37) (t 38)),o 40 (.appz 1 16 [(.string ⟨#[]⟩)] (t 34) (t 39)),o 9 (.mv (t 40))]
def f192r10 : LS := [o 41 (.mv (t 9)),o 42 (.mv (t 1)),o 43 (.slc 1 (t 41) (some (t 42)) none),o 44 (.mv (t 2)),o 45 (.cpy 1 (t 43) (t 44))]
def f192r11 : LS := [o 46 (.mv (t 9)),o 47 (.mv (t 1)),o 48 (.mv (t 7)),o 49 (.ar .add (t 47) (t 48)),o 50 (.slc 1 (t 46) (some (t 49)) none),o 51 (.mv (t 0)),o 52 (.mv (t 1)),o 53 (.slc 1 (t 51) (some (t 52)) none),o 54 (.cpy 1 (t 50) (t 53))]
def f192r12 : LS := [o 55 (.mv (t 9)),o 6 (.mv (t 55))]
def f192r13 : LS := [o 56 (.mv (t 0)),o 57 (.mv (t 8)),o 58 (.mv (t 7)),o 59 (.ar .add (t 57) (t 58)),o 60 (.slc 1 (t 56) none (some (t 59))),o 0 (.mv (t 60))]
def f192r14 : LS := [o 61 (.mv (t 2)),o 62 (.mv (t 0)),o 63 (.mv (t 1)),o 64 (.mv (t 7)),o 65 (.ar .add (t 63) (t 64)),o 66 (.slc 1 (t 62) (some (t 65)) none),o 67 (.callx 252 [(t 61), (t 66)]),o 68 (.un .not (t 67))]
def f192r15 : LS := [o 69 (.mv (t 0)),o 70 (.mv (t 1)),o 71 (.mv (t 7)),o 72 (.ar .add (t 70) (t 71)),o 73 (.slc 1 (t 69) (some (t 72)) none),o 74 (.mv (t 0)),o 75 (.mv (t 1)),o 76 (.slc 1 (t 74) (some (t 75)) none),o 77 (.cpy 1 (t 73) (t 76))]
def f192r16 : LS := [o 78 (.mv (t 0)),o 79 (.mv (t 1)),o 80 (.slc 1 (t 78) (some (t 79)) none),o 81 (.mv (t 2)),o 82 (.cpy 1 (t 80) (t 81))]
def f192r17 : LS := [o 83 (.mv (t 0)),o 6 (.mv (t 83))]
def f192r18 : LS := [o 84 (.mv (t 0)),o 85 (.mv (t 8)),o 86 (.slc 1 (t 84) (some (t 85)) none),o 87 (.mv (t 2)),o 88 (.cpy 1 (t 86) (t 87))]
def f192r19 : LS := [o 89 (.mv (t 0)),o 90 (.mv (t 1)),o 91 (.slc 1 (t 89) (some (t 90)) none),o 92 (.mv (t 7)),o 93 (.call 253 [(t 91), (t 92)])]
def f192r20 : LS := [o 94 (.mv (t 0)),o 6 (.mv (t 94))]
def f192 : SCode := (.seq (.ops f192r0) (.seq (.ops f192r1) (.seq (.ops f192r2) (.seq (.seq (.ops f192r3) (.cond (t 16) (.seq (.ops f192r4) .ret) .skip)) (.seq (.ops f192r5) (.seq (.seq (.ops f192r6) (.cond (t 22) (.seq (.ops f192r7) .ret) .skip)) (.seq (.seq (.ops f192r8) (.cond (t 31) (.seq (.ops f192r9) (.seq (.ops f192r10) (.seq (.ops f192r11) (.seq (.ops f192r12) .ret)))) .skip)) (.seq (.ops f192r13) (.seq (.seq (.ops f192r14) (.cond (t 68) (.seq (.ops f192r15) (.seq (.ops f192r16) (.seq (.ops f192r17) .ret))) .skip)) (.seq (.ops f192r18) (.seq (.ops f192r19) (.seq (.ops f192r20) .ret))))))))))))
theorem f192_calls : Sound Tryz.prog 192 95 f192 [.t 6] := sound_of mixed Tryz.func192 rfl (by kernel_rfl) (by kernel_rfl) (by kernel_rfl)
def f193r0 : LS := [o 3 (.box (t 1)),o 4 (.mv (i 0))]
def f193r1 : LS := [o 5 (.mv (t 0)),o 6 (.mv (t 0)),o 7 (.nilck (t 6)),o 8 (.fa 3 (t 7)),o 9 (.ld1 (t 8)),o 10 (.fa 3 (t 3)),o 11 (.ld1 (t 10)),o 12 (.bslice [(.string ⟨#[]⟩)] 1 [(0, 1)] [(t 11)]),o 13 (.app 1 16 [(.string ⟨#[]⟩)] (t 9) (t 12)),o 14 (.nilck (t 5)),o 15 (.fa 3 (t 14)),
 q (.st 1 (t 15) (t 13))]
def f193r2 : LS := [o 4 (.mv (i 0))]
def f193 : SCode := (.seq (.ops f193r0) (.seq (.ops f193r1) (.seq (.ops f193r2) .ret)))
theorem f193_calls : Sound Tryz.prog 193 16 f193 [.t 4] := sound_of mixed Tryz.func193 rfl (by kernel_rfl) (by kernel_rfl) (by kernel_rfl)
def f194r0 : LS := [o 3 (.box (t 1)),o 4 (.mv (i 0))]
def f194r1 : LS := [o 5 (.mv (t 0)),o 6 (.mv (t 0)),o 7 (.nilck (t 6)),o 8 (.fa 3 (t 7)),o 9 (.ld1 (t 8)),o 10 (.slc 1 (t 9) (some (i 1)) none),o 11 (.nilck (t 5)),o 12 (.fa 3 (t 11)),
 q (.st 1 (t 12) (t 10))]
def f194r2 : LS := [o 4 (.mv (i 0))]
def f194 : SCode := (.seq (.ops f194r0) (.seq (.ops f194r1) (.seq (.ops f194r2) .ret)))
theorem f194_calls : Sound Tryz.prog 194 13 f194 [.t 4] := sound_of mixed Tryz.func194 rfl (by kernel_rfl) (by kernel_rfl) (by kernel_rfl)
def f195r0 : LS := [o 3 (.box (t 1)),o 4 (.mv (i 0))]
def f195r1 : LS := [o 5 (.mv (t 0)),o 6 (.mv (t 0)),o 7 (.nilck (t 6)),o 8 (.fa 3 (t 7)),o 9 (.ld1 (t 8)),o 10 (.mv (t 0)),o 11 (.nilck (t 10)),o 12 (.fa 3 (t 11)),o 13 (.ld1 (t 12)),o 14 (.len (t 13)),o 15 (.ar .sub (t 14) (i 1)),o 16 (.slc 1 (t 9) none (some (t 15))),o 17 (.nilck (t 5)),o 18 (.fa 3 (t 17)),
 q (.st 1 (t 18) (t 16))]
def f195r2 : LS := [o 4 (.mv (i 0))]
def f195 : SCode := (.seq (.ops f195r0) (.seq (.ops f195r1) (.seq (.ops f195r2) .ret)))
theorem f195_calls : Sound Tryz.prog 195 19 f195 [.t 4] := sound_of mixed Tryz.func195 rfl (by kernel_rfl) (by kernel_rfl) (by kernel_rfl)
def f196r0 : LS := [o 3 (.box (t 1)),o 4 (.mv (i 0))]
def f196r1 : LS := [o 5 (.fa 4 (t 3)),o 6 (.ld1 (t 5)),o 7 (.cmp .lss (t 6) (i 0)),o 8 (.mv (t 7)),
 n 9 8 (.fa 4 (t 3)),
 n 10 8 (.ld1 (t 9)),
 n 11 8 (.mv (t 0)),
 n 12 8 (.nilck (t 11)),
 n 13 8 (.fa 3 (t 12)),
 n 14 8 (.ld1 (t 13)),
 n 15 8 (.len (t 14)),
 n 16 8 (.cmp .geq (t 10) (t 15)),o 17 (.pick (t 8) (b true) (t 16))]
def f196r2 : LS := [o 4 (.mv (i 4))]
def f196r3 : LS := [o 18 (.mv (t 0)),o 19 (.nilck (t 18)),o 20 (.fa 3 (t 19)),o 21 (.ld1 (t 20)),o 22 (.fa 4 (t 3)),o 23 (.ld1 (t 22)),o 24 (.fa 3 (t 3)),o 25 (.ld1 (t 24)),o 26 (.ixs 1 (t 21) (t 23)),
 q (.st 1 (t 26) (t 25))]
def f196r4 : LS := [o 4 (.mv (i 0))]
def f196 : SCode := (.seq (.ops f196r0) (.seq (.seq (.ops f196r1) (.cond (t 17) (.seq (.ops f196r2) .ret) .skip)) (.seq (.ops f196r3) (.seq (.ops f196r4) .ret))))
theorem f196_calls : Sound Tryz.prog 196 27 f196 [.t 4] := sound_of mixed Tryz.func196 rfl (by kernel_rfl) (by kernel_rfl) (by kernel_rfl)
def f197r0 : LS := [o 3 (.box (t 1)),o 4 (.mv (i 0))]
def f197r1 : LS := [o 8 (.mv (t 0)),o 9 (.nilck (t 8)),o 10 (.fa 3 (t 9)),o 11 (.ld1 (t 10)),o 12 (.fa 2 (t 3)),o 13 (.ld1 (t 12)),o 14 (.call 254 [(t 11), (u 255), (t 13)]),o 7 (.mv (t 14)),o 15 (.ext (t 7) 0),o 16 (.ext (t 7) 1),o 5 (.mv (t 15)),o 6 (.mv (t 16))]
def f197r2 : LS := [o 17 (.mv (t 6)),o 18 (.un .not (t 17))]
def f197r3 : LS := [o 19 (.mv (t 0)),o 20 (.mv (t 0)),o 21 (.nilck (t 20)),o 22 (.fa 3 (t 21)),o 23 (.ld1 (t 22)),o 24 (.mv (t 5)),o 25 (.fa 2 (t 3)),o 26 (.ld1 (t 25)),o 27 (.bslice [(.string ⟨#[]⟩)] 1 [(0, 1)] [(t 26)]),o 28 (.call 192 [(t 23), (t 24), (t 27)]),o 29 (.nilck (t 19)),o 30 (.fa 3 (t 29)),
 q (.st 1 (t 30) (t 28))]
def f197r4 : LS := [o 4 (.mv (i 0))]
def f197 : SCode := (.seq (.ops f197r0) (.seq (.seq (.ops f197r1) (.seq (.ops f197r2) (.cond (t 18) (.ops f197r3) .skip))) (.seq (.ops f197r4) .ret)))
theorem f197_calls : Sound Tryz.prog 197 31 f197 [.t 4] := sound_of mixed Tryz.func197 rfl (by kernel_rfl) (by kernel_rfl) (by kernel_rfl)
def f198r0 : LS := [o 3 (.box (t 1)),o 4 (.mv (i 0))]
def f198r1 : LS := [o 8 (.mv (t 0)),o 9 (.nilck (t 8)),o 10 (.fa 3 (t 9)),o 11 (.ld1 (t 10)),o 12 (.fa 2 (t 3)),o 13 (.ld1 (t 12)),o 14 (.call 254 [(t 11), (u 255), (t 13)]),o 7 (.mv (t 14)),o 15 (.ext (t 7) 0),o 16 (.ext (t 7) 1),o 5 (.mv (t 15)),o 6 (.mv (t 16))]
def f198r2 : LS := [o 17 (.mv (t 6)),o 18 (.un .not (t 17))]
def f198r3 : LS := [o 4 (.mv (i 5))]
def f198r4 : LS := [o 19 (.mv (t 0)),o 20 (.mv (t 0)),o 21 (.nilck (t 20)),o 22 (.fa 3 (t 21)),o 23 (.ld1 (t 22)),o 24 (.mv (t 5)),o 25 (.mv (t 5)),o 26 (.ar .add (t 25) (i 1)),o 27 (.call 256 [(t 23), (t 24), (t 26)]),o 28 (.nilck (t 19)),o 29 (.fa 3 (t 28)),
 q (.st 1 (t 29) (t 27))]
def f198r5 : LS := [o 4 (.mv (i 0))]
def f198 : SCode := (.seq (.ops f198r0) (.seq (.ops f198r1) (.seq (.seq (.ops f198r2) (.cond (t 18) (.seq (.ops f198r3) .ret) .skip)) (.seq (.ops f198r4) (.seq (.ops f198r5) .ret)))))
theorem f198_calls : Sound Tryz.prog 198 30 f198 [.t 4] := sound_of mixed Tryz.func198 rfl (by kernel_rfl) (by kernel_rfl) (by kernel_rfl)
def f199r0 : LS := [o 3 (.box (t 1)),o 4 (.mv (i 0))]
def f199r1 : LS := [o 8 (.mv (t 0)),o 9 (.ldn 5 (t 3)),o 10 (.call 200 [(t 8), (t 9)])]
def f199r2 : LS := [o 11 (.fa 2 (t 3)),o 12 (.ld1 (t 11)),o 13 (.fa 4 (t 3)),o 14 (.ld1 (t 13)),o 15 (.build [(.string ⟨#[]⟩), (.int .i64 0)] [(0, 1), (1, 1)] [(t 12), (t 14)]),o 5 (.new [(.string ⟨#[]⟩), (.int .i64 0)]),
 q (.st 2 (t 5) (t 15))]
def f199r3 : LS := [o 17 (.mv (t 0)),o 18 (.nilck (t 17)),o 19 (.fa 4 (t 18)),o 20 (.ld1 (t 19)),o 21 (.ldn 2 (t 5)),o 22 (.call 257 [(t 20), (t 21), (u 73)]),o 16 (.mv (t 22)),o 23 (.ext (t 16) 0),o 24 (.ext (t 16) 1),o 6 (.mv (t 23)),o 7 (.mv (t 24))]
def f199r4 : LS := [o 25 (.mv (t 0)),o 26 (.mv (t 0)),o 27 (.nilck (t 26)),o 28 (.fa 4 (t 27)),o 29 (.ld1 (t 28)),o 30 (.mv (t 6)),o 31 (.ldn 2 (t 5)),o 32 (.bslice [(.string ⟨#[]⟩), (.int .i64 0)] 1 [(0, 2)] [(t 31)]),o 33 (.call 258 [(t 29), (t 30), (t 32)]),o 34 (.nilck (t 25)),o 35 (.fa 4 (t 34)),
 q (.st 1 (t 35) (t 33))]
def f199r5 : LS := [o 4 (.mv (i 0))]
def f199 : SCode := (.seq (.ops f199r0) (.seq (.ops f199r1) (.seq (.ops f199r2) (.seq (.ops f199r3) (.seq (.ops f199r4) (.seq (.ops f199r5) .ret))))))
theorem f199_calls : Sound Tryz.prog 199 36 f199 [.t 4] := sound_of mixed Tryz.func199 rfl (by kernel_rfl) (by kernel_rfl) (by kernel_rfl)
def f200r0 : LS := [o 3 (.box (t 1)),o 4 (.mv (i 0))]
def f200r1 : LS := [o 6 (.mv (t 0)),o 7 (.nilck (t 6)),o 8 (.fa 4 (t 7)),o 9 (.ld1 (t 8)),o 10 (.fn 260 [] [(t 3)]),o 11 (.call 259 [(t 9), (t 10)]),o 5 (.mv (t 11))]
def f200r2 : LS := [o 12 (.mv (t 5)),o 13 (.cmp .lss (t 12) (i 0))]
def f200r3 : LS := [o 4 (.mv (i 5))]
def f200r4 : LS := [o 14 (.mv (t 0)),o 15 (.mv (t 0)),o 16 (.nilck (t 15)),o 17 (.fa 4 (t 16)),o 18 (.ld1 (t 17)),o 19 (.mv (t 5)),o 20 (.mv (t 5)),o 21 (.ar .add (t 20) (i 1)),o 22 (.call 261 [(t 18), (t 19), (t 21)]),o 23 (.nilck (t 14)),o 24 (.fa 4 (t 23)),
 q (.st 1 (t 24) (t 22))]
def f200r5 : LS := [o 4 (.mv (i 0))]
def f200 : SCode := (.seq (.ops f200r0) (.seq (.ops f200r1) (.seq (.seq (.ops f200r2) (.cond (t 13) (.seq (.ops f200r3) .ret) .skip)) (.seq (.ops f200r4) (.seq (.ops f200r5) .ret)))))
theorem f200_calls : Sound Tryz.prog 200 25 f200 [.t 4] := sound_of mixed Tryz.func200 rfl (by kernel_rfl) (by kernel_rfl) (by kernel_rfl)
def f226r0 : LS := [o 4 (.mv (i 0))]
def f226r1 : LS := [o 6 (.mv (t 0)),o 7 (.len (t 6)),o 8 (.mv (i 0))]
def f226r2 : LS := [o 9 (.cmp .lss (t 8) (t 7))]
def f226r3 : LS := [o 10 (.mv (t 8)),o 5 (.mv (t 10))]
def f226r4 : LS := [o 11 (.mv (t 1)),o 12 (.mv (t 0)),o 13 (.mv (t 5)),o 14 (.ixs 1 (t 12) (t 13)),o 15 (.ld1 (t 14)),o 16 (.callv (t 11) [(t 15)])]
def f226r5 : LS := [o 17 (.mv (t 5)),o 4 (.mv (t 17))]
def f226r6 : LS := [o 18 (.ar .add (t 8) (i 1)),o 8 (.mv (t 18))]
def f226l7 : SCode := (.seq (.ops f226r2) (.seq (.cond (t 9) .skip (.exit 0)) (.seq (.block 1 (.seq (.ops f226r3) (.seq (.ops f226r4) (.cond (t 16) (.seq (.ops f226r5) .ret) .skip)))) (.ops f226r6))))
def f226r8 : LS := [o 4 (.mv (i (-1)))]
def f226 : SCode := (.seq (.ops f226r0) (.seq (.seq (.ops f226r1) (.block 0 (.loop f226l7))) (.seq (.ops f226r8) .ret)))
theorem f226_calls : Sound Tryz.prog 226 19 f226 [.t 4] := sound_of mixed Tryz.func226 rfl (by kernel_rfl) (by kernel_rfl) (by kernel_rfl)
def f248r0 : LS := [o 4 (.box (t 1)),o 6 (.mv (i 0)),o 7 (.mv (b false))]
def f248r1 : LS := [o 8 (.mv (t 0)),o 9 (.mv (t 2)),o 10 (.fn 281 [] [(t 4)]),o 11 (.call 280 [(t 8), (t 9), (t 10)]),o 12 (.ext (t 11) 0),o 13 (.ext (t 11) 1),o 6 (.mv (t 12)),o 7 (.mv (t 13))]
def f248 : SCode := (.seq (.ops f248r0) (.seq (.ops f248r1) .ret))
theorem f248_calls : Sound Tryz.prog 248 14 f248 [.t 6, .t 7] := sound_of mixed Tryz.func248 rfl (by kernel_rfl) (by kernel_rfl) (by kernel_rfl)
def f249r0 : LS := [o 1 (.box (t 0)),o 2 (.mv e)]
def f249r1 : LS := [o 3 (.fa 0 (t 1)),o 4 (.ld1 (t 3)),o 2 (.mv (t 4))]
def f249 : SCode := (.seq (.ops f249r0) (.seq (.ops f249r1) .ret))
theorem f249_calls : Sound Tryz.prog 249 5 f249 [.t 2] := sound_of mixed Tryz.func249 rfl (by kernel_rfl) (by kernel_rfl) (by kernel_rfl)
def f250r0 : LS := [o 6 (.mv (.const (.slice none 0 0)))]
def f250r1 : LS := [o 10 (.mv (t 0)),o 11 (.mv (t 1)),o 12 (.slc 2 (t 10) (some (t 11)) none)]
def f250r2 : LS := [o 13 (.mv (t 2)),o 14 (.len (t 13)),o 7 (.mv (t 14))]
def f250r3 : LS := [o 15 (.mv (t 7)),o 16 (.cmp .eql (t 15) (i 0))]
def f250r4 : LS := [o 17 (.mv (t 0)),o 6 (.mv (t 17))]
def f250r5 : LS := [o 18 (.mv (t 0)),o 19 (.len (t 18)),o 8 (.mv (t 19))]
def f250r6 : LS := [o 20 (.mv (t 1)),o 21 (.mv (t 8)),o 22 (.cmp .eql (t 20) (t 21))]
def f250r7 : LS := [o 23 (.mv (t 0)),o 24 (.mv (t 2)),o 25 (.app 2 32 [(.string ⟨#[]⟩), (.string ⟨#[]⟩)] (t 23) (t 24)),o 6 (.mv (t 25))]
def f250r8 : LS := [o 26 (.mv (t 8)),o 27 (.mv (t 7)),o 28 (.ar .add (t 26) (t 27)),o 29 (.mv (t 0)),o 30 (.capc (t 29)),o 31 (.cmp .gtr (t 28) (t 30))]
def f250r9 : LS := [o 32 (.mv (t 0)),o 33 (.mv (t 1)),o 34 (.slc 2 (t 32) none (some (t 33))),o 35 (.mv (t 8)),o 36 (.mv (t 7)),o 37 (.ar .add (t 35) (t 36)),o 38 (.mv (t 1)),o 39 (.ar .sub (t 37) (t 38)),o 40 (.appz 2 32 [(.string ⟨#[]⟩), (.string ⟨#[]⟩)] (t 34) (t 39)),o 9 (.mv (t 40))]
def f250r10 : LS := [o 41 (.mv (t 9)),o 42 (.mv (t 1)),o 43 (.slc 2 (t 41) (some (t 42)) none),o 44 (.mv (t 2)),o 45 (.cpy 2 (t 43) (t 44))]
def f250r11 : LS := [o 46 (.mv (t 9)),o 47 (.mv (t 1)),o 48 (.mv (t 7)),o 49 (.ar .add (t 47) (t 48)),o 50 (.slc 2 (t 46) (some (t 49)) none),o 51 (.mv (t 0)),o 52 (.mv (t 1)),o 53 (.slc 2 (t 51) (some (t 52)) none),o 54 (.cpy 2 (t 50) (t 53))]
def f250r12 : LS := [o 55 (.mv (t 9)),o 6 (.mv (t 55))]
def f250r13 : LS := [o 56 (.mv (t 0)),o 57 (.mv (t 8)),o 58 (.mv (t 7)),o 59 (.ar .add (t 57) (t 58)),o 60 (.slc 2 (t 56) none (some (t 59))),o 0 (.mv (t 60))]
def f250r14 : LS := [o 61 (.mv (t 2)),o 62 (.mv (t 0)),o 63 (.mv (t 1)),o 64 (.mv (t 7)),o 65 (.ar .add (t 63) (t 64)),o 66 (.slc 2 (t 62) (some (t 65)) none),o 67 (.callx 282 [(t 61), (t 66)]),o 68 (.un .not (t 67))]
def f250r15 : LS := [o 69 (.mv (t 0)),o 70 (.mv (t 1)),o 71 (.mv (t 7)),o 72 (.ar .add (t 70) (t 71)),o 73 (.slc 2 (t 69) (some (t 72)) none),o 74 (.mv (t 0)),o 75 (.mv (t 1)),o 76 (.slc 2 (t 74) (some (t 75)) none),o 77 (.cpy 2 (t 73) (t 76))]
def f250r16 : LS := [o 78 (.mv (t 0)),o 79 (.mv (t 1)),o 80 (.slc 2 (t 78) (some (t 79)) none),o 81 (.mv (t 2)),o 82 (.cpy 2 (t 80) (t 81))]
def f250r17 : LS := [o 83 (.mv (t 0)),o 6 (.mv (t 83))]
def f250r18 : LS := [o 84 (.mv (t 0)),o 85 (.mv (t 8)),o 86 (.slc 2 (t 84) (some (t 85)) none),o 87 (.mv (t 2)),o 88 (.cpy 2 (t 86) (t 87))]
def f250r19 : LS := [o 89 (.mv (t 0)),o 90 (.mv (t 1)),o 91 (.slc 2 (t 89) (some (t 90)) none),o 92 (.mv (t 7)),o 93 (.call 283 [(t 91), (t 92)])]
def f250r20 : LS := [o 94 (.mv (t 0)),o 6 (.mv (t 94))]
def f250 : SCode := (.seq (.ops f250r0) (.seq (.ops f250r1) (.seq (.ops f250r2) (.seq (.seq (.ops f250r3) (.cond (t 16) (.seq (.ops f250r4) .ret) .skip)) (.seq (.ops f250r5) (.seq (.seq (.ops f250r6) (.cond (t 22) (.seq (.ops f250r7) .ret) .skip)) (.seq (.seq (.ops f250r8) (.cond (t 31) (.seq (.ops f250r9) (.seq (.ops f250r10) (.seq (.ops f250r11) (.seq (.ops f250r12) .ret)))) .skip)) (.seq (.ops f250r13) (.seq (.seq (.ops f250r14) (.cond (t 68) (.seq (.ops f250r15) (.seq (.ops f250r16) (.seq (.ops f250r17) .ret))) .skip)) (.seq (.ops f250r18) (.seq (.ops f250r19) (.seq (.ops f250r20) .ret))))))))))))
theorem f250_calls : Sound Tryz.prog 250 95 f250 [.t 6] := sound_of mixed Tryz.func250 rfl (by kernel_rfl) (by kernel_rfl) (by kernel_rfl)
def f251r0 : LS := [o 6 (.mv (.const (.slice none 0 0)))]
def f251r1 : LS := [o 8 (.mv (t 0)),o 9 (.mv (t 1)),o 10 (.mv (t 2)),o 11 (.mv (t 0)),o 12 (.len (t 11)),o 13 (.slc3 2 (t 8) (some (t 9)) (t 10) (t 12))]
def f251r2 : LS := [o 14 (.mv (t 1)),o 15 (.mv (t 2)),o 16 (.cmp .eql (t 14) (t 15))]
def f251r3 : LS := [o 17 (.mv (t 0)),o 6 (.mv (t 17))]
def f251r4 : LS := [o 18 (.mv (t 0)),o 19 (.len (t 18)),o 7 (.mv (t 19))]
def f251r5 : LS := [o 20 (.mv (t 0)),o 21 (.mv (t 1)),o 22 (.slc 2 (t 20) none (some (t 21))),o 23 (.mv (t 0)),o 24 (.mv (t 2)),o 25 (.slc 2 (t 23) (some (t 24)) none),o 26 (.app 2 32 [(.string ⟨#[]⟩), (.string ⟨#[]⟩)] (t 22) (t 25)),o 0 (.mv (t 26))]
def f251r6 : LS := [o 27 (.mv (t 0)),o 28 (.mv (t 0)),o 29 (.len (t 28)),o 30 (.mv (t 7)),o 31 (.slc 2 (t 27) (some (t 29)) (some (t 30))),
 q (.clr [(.string ⟨#[]⟩), (.string ⟨#[]⟩)] (t 31))]
def f251r7 : LS := [o 32 (.mv (t 0)),o 6 (.mv (t 32))]
def f251 : SCode := (.seq (.ops f251r0) (.seq (.ops f251r1) (.seq (.seq (.ops f251r2) (.cond (t 16) (.seq (.ops f251r3) .ret) .skip)) (.seq (.ops f251r4) (.seq (.ops f251r5) (.seq (.ops f251r6) (.seq (.ops f251r7) .ret)))))))
theorem f251_calls : Sound Tryz.prog 251 33 f251 [.t 6] := sound_of mixed Tryz.func251 rfl (by kernel_rfl) (by kernel_rfl) (by kernel_rfl)
def f254r0 : LS := [o 4 (.box (t 1)),o 6 (.mv (i 0)),o 7 (.mv (b false))]
def f254r1 : LS := [o 8 (.mv (t 0)),o 9 (.mv (t 2)),o 10 (.fn 286 [] [(t 4)]),o 11 (.call 285 [(t 8), (t 9), (t 10)]),o 12 (.ext (t 11) 0),o 13 (.ext (t 11) 1),o 6 (.mv (t 12)),o 7 (.mv (t 13))]
def f254 : SCode := (.seq (.ops f254r0) (.seq (.ops f254r1) .ret))
theorem f254_calls : Sound Tryz.prog 254 14 f254 [.t 6, .t 7] := sound_of mixed Tryz.func254 rfl (by kernel_rfl) (by kernel_rfl) (by kernel_rfl)
def f255r0 : LS := [o 2 (.mv e)]
def f255r1 : LS := [o 3 (.mv (t 0)),o 2 (.mv (t 3))]
def f255 : SCode := (.seq (.ops f255r0) (.seq (.ops f255r1) .ret))
theorem f255_calls : Sound Tryz.prog 255 4 f255 [.t 2] := sound_of mixed Tryz.func255 rfl (by kernel_rfl) (by kernel_rfl) (by kernel_rfl)
def f256r0 : LS := [o 6 (.mv (.const (.slice none 0 0)))]
def f256r1 : LS := [o 8 (.mv (t 0)),o 9 (.mv (t 1)),o 10 (.mv (t 2)),o 11 (.mv (t 0)),o 12 (.len (t 11)),o 13 (.slc3 1 (t 8) (some (t 9)) (t 10) (t 12))]
def f256r2 : LS := [o 14 (.mv (t 1)),o 15 (.mv (t 2)),o 16 (.cmp .eql (t 14) (t 15))]
def f256r3 : LS := [o 17 (.mv (t 0)),o 6 (.mv (t 17))]
def f256r4 : LS := [o 18 (.mv (t 0)),o 19 (.len (t 18)),o 7 (.mv (t 19))]
def f256r5 : LS := [o 20 (.mv (t 0)),o 21 (.mv (t 1)),o 22 (.slc 1 (t 20) none (some (t 21))),o 23 (.mv (t 0)),o 24 (.mv (t 2)),o 25 (.slc 1 (t 23) (some (t 24)) none),o 26 (.app 1 16 [(.string ⟨#[]⟩)] (t 22) (t 25)),o 0 (.mv (t 26))]
def f256r6 : LS := [o 27 (.mv (t 0)),o 28 (.mv (t 0)),o 29 (.len (t 28)),o 30 (.mv (t 7)),o 31 (.slc 1 (t 27) (some (t 29)) (some (t 30))),
 q (.clr [(.string ⟨#[]⟩)] (t 31))]
def f256r7 : LS := [o 32 (.mv (t 0)),o 6 (.mv (t 32))]
def f256 : SCode := (.seq (.ops f256r0) (.seq (.ops f256r1) (.seq (.seq (.ops f256r2) (.cond (t 16) (.seq (.ops f256r3) .ret) .skip)) (.seq (.ops f256r4) (.seq (.ops f256r5) (.seq (.ops f256r6) (.seq (.ops f256r7) .ret)))))))
theorem f256_calls : Sound Tryz.prog 256 33 f256 [.t 6] := sound_of mixed Tryz.func256 rfl (by kernel_rfl) (by kernel_rfl) (by kernel_rfl)
def f257r0 : LS := [o 4 (.box (t 1)),o 6 (.mv (i 0)),o 7 (.mv (b false))]
def f257r1 : LS := [o 12 (.mv (t 0)),o 13 (.len (t 12)),o 8 (.mv (t 13))]
def f257r2 : LS := [o 14 (.mv (t 8)),o 9 (.mv (i 0)),o 10 (.mv (t 14))]
def f257r3 : LS := [o 15 (.mv (t 9)),o 16 (.mv (t 10)),o 17 (.cmp .lss (t 15) (t 16))]
def f257r4 : LS := [o 18 (.mv (t 9)),o 19 (.mv (t 10)),o 20 (.ar .add (t 18) (t 19)),o 21 (.cvt .u64 (t 20)),o 22 (.sh .u64 false 1 (t 21)),o 23 (.cvt .i64 (t 22)),o 11 (.mv (t 23))]
def f257r5 : LS := [o 24 (.mv (t 2)),o 25 (.mv (t 0)),o 26 (.mv (t 11)),o 27 (.ixs 2 (t 25) (t 26)),o 28 (.ldn 2 (t 27)),o 29 (.ldn 2 (t 4)),o 30 (.callv (t 24) [(t 28), (t 29)]),o 31 (.cmp .lss (t 30) (i 0))]
def f257r6 : LS := [o 32 (.mv (t 11)),o 33 (.ar .add (t 32) (i 1)),o 9 (.mv (t 33))]
def f257r7 : LS := [o 34 (.mv (t 11)),o 10 (.mv (t 34))]
def f257l8 : SCode := (.seq (.seq (.ops f257r3) (.cond (t 17) .skip (.exit 0))) (.block 1 (.seq (.ops f257r4) (.seq (.ops f257r5) (.cond (t 31) (.ops f257r6) (.ops f257r7))))))
def f257r9 : LS := [o 35 (.mv (t 9)),o 36 (.mv (t 9)),o 37 (.mv (t 8)),o 38 (.cmp .lss (t 36) (t 37)),o 39 (.mv (t 38)),
 g 40 39 (.mv (t 2)),
 g 41 39 (.mv (t 0)),
 g 42 39 (.mv (t 9)),
 g 43 39 (.ixs 2 (t 41) (t 42)),
 g 44 39 (.ldn 2 (t 43)),
 g 45 39 (.ldn 2 (t 4)),
 g 46 39 (.callv (t 40) [(t 44), (t 45)]),
 g 47 39 (.cmp .eql (t 46) (i 0)),o 48 (.pick (t 39) (t 47) (b false)),o 6 (.mv (t 35)),o 7 (.mv (t 48))]
def f257 : SCode := (.seq (.ops f257r0) (.seq (.ops f257r1) (.seq (.ops f257r2) (.seq (.block 0 (.loop f257l8)) (.seq (.ops f257r9) .ret)))))
theorem f257_calls : Sound Tryz.prog 257 49 f257 [.t 6, .t 7] := sound_of mixed Tryz.func257 rfl (by kernel_rfl) (by kernel_rfl) (by kernel_rfl)
def f258r0 : LS := [o 6 (.mv (.const (.slice none 0 0)))]
def f258r1 : LS := [o 10 (.mv (t 0)),o 11 (.mv (t 1)),o 12 (.slc 2 (t 10) (some (t 11)) none)]
def f258r2 : LS := [o 13 (.mv (t 2)),o 14 (.len (t 13)),o 7 (.mv (t 14))]
def f258r3 : LS := [o 15 (.mv (t 7)),o 16 (.cmp .eql (t 15) (i 0))]
def f258r4 : LS := [o 17 (.mv (t 0)),o 6 (.mv (t 17))]
def f258r5 : LS := [o 18 (.mv (t 0)),o 19 (.len (t 18)),o 8 (.mv (t 19))]
def f258r6 : LS := [o 20 (.mv (t 1)),o 21 (.mv (t 8)),o 22 (.cmp .eql (t 20) (t 21))]
def f258r7 : LS := [o 23 (.mv (t 0)),o 24 (.mv (t 2)),o 25 (.app 2 24 [(.string ⟨#[]⟩), (.int .i64 0)] (t 23) (t 24)),o 6 (.mv (t 25))]
def f258r8 : LS := [o 26 (.mv (t 8)),o 27 (.mv (t 7)),o 28 (.ar .add (t 26) (t 27)),o 29 (.mv (t 0)),o 30 (.capc (t 29)),o 31 (.cmp .gtr (t 28) (t 30))]
def f258r9 : LS := [o 32 (.mv (t 0)),o 33 (.mv (t 1)),o 34 (.slc 2 (t 32) none (some (t 33))),o 35 (.mv (t 8)),o 36 (.mv (t 7)),o 37 (.ar .add (t 35) (t 36)),o 38 (.mv (t 1)),o 39 (.ar .sub (t 37) (t 38)),o 40 (.appz 2 24 [(.string ⟨#[]⟩), (.int .i64 0)] (t 34) (t 39)),o 9 (.mv (t 40))]
def f258r10 : LS := [o 41 (.mv (t 9)),o 42 (.mv (t 1)),o 43 (.slc 2 (t 41) (some (t 42)) none),o 44 (.mv (t 2)),o 45 (.cpy 2 (t 43) (t 44))]
def f258r11 : LS := [o 46 (.mv (t 9)),o 47 (.mv (t 1)),o 48 (.mv (t 7)),o 49 (.ar .add (t 47) (t 48)),o 50 (.slc 2 (t 46) (some (t 49)) none),o 51 (.mv (t 0)),o 52 (.mv (t 1)),o 53 (.slc 2 (t 51) (some (t 52)) none),o 54 (.cpy 2 (t 50) (t 53))]
def f258r12 : LS := [o 55 (.mv (t 9)),o 6 (.mv (t 55))]
def f258r13 : LS := [o 56 (.mv (t 0)),o 57 (.mv (t 8)),o 58 (.mv (t 7)),o 59 (.ar .add (t 57) (t 58)),o 60 (.slc 2 (t 56) none (some (t 59))),o 0 (.mv (t 60))]
def f258r14 : LS := [o 61 (.mv (t 2)),o 62 (.mv (t 0)),o 63 (.mv (t 1)),o 64 (.mv (t 7)),o 65 (.ar .add (t 63) (t 64)),o 66 (.slc 2 (t 62) (some (t 65)) none),o 67 (.callx 287 [(t 61), (t 66)]),o 68 (.un .not (t 67))]
def f258r15 : LS := [o 69 (.mv (t 0)),o 70 (.mv (t 1)),o 71 (.mv (t 7)),o 72 (.ar .add (t 70) (t 71)),o 73 (.slc 2 (t 69) (some (t 72)) none),o 74 (.mv (t 0)),o 75 (.mv (t 1)),o 76 (.slc 2 (t 74) (some (t 75)) none),o 77 (.cpy 2 (t 73) (t 76))]
def f258r16 : LS := [o 78 (.mv (t 0)),o 79 (.mv (t 1)),o 80 (.slc 2 (t 78) (some (t 79)) none),o 81 (.mv (t 2)),o 82 (.cpy 2 (t 80) (t 81))]
def f258r17 : LS := [o 83 (.mv (t 0)),o 6 (.mv (t 83))]
def f258r18 : LS := [o 84 (.mv (t 0)),o 85 (.mv (t 8)),o 86 (.slc 2 (t 84) (some (t 85)) none),o 87 (.mv (t 2)),o 88 (.cpy 2 (t 86) (t 87))]
def f258r19 : LS := [o 89 (.mv (t 0)),o 90 (.mv (t 1)),o 91 (.slc 2 (t 89) (some (t 90)) none),o 92 (.mv (t 7)),o 93 (.call 288 [(t 91), (t 92)])]
def f258r20 : LS := [o 94 (.mv (t 0)),o 6 (.mv (t 94))]
def f258 : SCode := (.seq (.ops f258r0) (.seq (.ops f258r1) (.seq (.ops f258r2) (.seq (.seq (.ops f258r3) (.cond (t 16) (.seq (.ops f258r4) .ret) .skip)) (.seq (.ops f258r5) (.seq (.seq (.ops f258r6) (.cond (t 22) (.seq (.ops f258r7) .ret) .skip)) (.seq (.seq (.ops f258r8) (.cond (t 31) (.seq (.ops f258r9) (.seq (.ops f258r10) (.seq (.ops f258r11) (.seq (.ops f258r12) .ret)))) .skip)) (.seq (.ops f258r13) (.seq (.seq (.ops f258r14) (.cond (t 68) (.seq (.ops f258r15) (.seq (.ops f258r16) (.seq (.ops f258r17) .ret))) .skip)) (.seq (.ops f258r18) (.seq (.ops f258r19) (.seq (.ops f258r20) .ret))))))))))))
theorem f258_calls : Sound Tryz.prog 258 95 f258 [.t 6] := sound_of mixed Tryz.func258 rfl (by kernel_rfl) (by kernel_rfl) (by kernel_rfl)
def f259r0 : LS := [o 4 (.mv (i 0))]
def f259r1 : LS := [o 6 (.mv (t 0)),o 7 (.len (t 6)),o 8 (.mv (i 0))]
def f259r2 : LS := [o 9 (.cmp .lss (t 8) (t 7))]
def f259r3 : LS := [o 10 (.mv (t 8)),o 5 (.mv (t 10))]
def f259r4 : LS := [o 11 (.mv (t 1)),o 12 (.mv (t 0)),o 13 (.mv (t 5)),o 14 (.ixs 2 (t 12) (t 13)),o 15 (.ldn 2 (t 14)),o 16 (.callv (t 11) [(t 15)])]
def f259r5 : LS := [o 17 (.mv (t 5)),o 4 (.mv (t 17))]
def f259r6 : LS := [o 18 (.ar .add (t 8) (i 1)),o 8 (.mv (t 18))]
def f259l7 : SCode := (.seq (.ops f259r2) (.seq (.cond (t 9) .skip (.exit 0)) (.seq (.block 1 (.seq (.ops f259r3) (.seq (.ops f259r4) (.cond (t 16) (.seq (.ops f259r5) .ret) .skip)))) (.ops f259r6))))
def f259r8 : LS := [o 4 (.mv (i (-1)))]
def f259 : SCode := (.seq (.ops f259r0) (.seq (.seq (.ops f259r1) (.block 0 (.loop f259l7))) (.seq (.ops f259r8) .ret)))
theorem f259_calls : Sound Tryz.prog 259 19 f259 [.t 4] := sound_of mixed Tryz.func259 rfl (by kernel_rfl) (by kernel_rfl) (by kernel_rfl)
def f260r0 : LS := [o 2 (.box (t 0)),o 3 (.mv (b false))]
def f260r1 : LS := [o 4 (.fa 0 (t 2)),o 5 (.ld1 (t 4)),o 6 (.fa 2 (t 1)),o 7 (.ld1 (t 6)),o 8 (.cmp .eql (t 5) (t 7)),o 3 (.mv (t 8))]
def f260 : SCode := (.seq (.ops f260r0) (.seq (.ops f260r1) .ret))
theorem f260_calls : Sound Tryz.prog 260 9 f260 [.t 3] := sound_of mixed Tryz.func260 rfl (by kernel_rfl) (by kernel_rfl) (by kernel_rfl)
def f261r0 : LS := [o 6 (.mv (.const (.slice none 0 0)))]
def f261r1 : LS := [o 8 (.mv (t 0)),o 9 (.mv (t 1)),o 10 (.mv (t 2)),o 11 (.mv (t 0)),o 12 (.len (t 11)),o 13 (.slc3 2 (t 8) (some (t 9)) (t 10) (t 12))]
def f261r2 : LS := [o 14 (.mv (t 1)),o 15 (.mv (t 2)),o 16 (.cmp .eql (t 14) (t 15))]
def f261r3 : LS := [o 17 (.mv (t 0)),o 6 (.mv (t 17))]
def f261r4 : LS := [o 18 (.mv (t 0)),o 19 (.len (t 18)),o 7 (.mv (t 19))]
def f261r5 : LS := [o 20 (.mv (t 0)),o 21 (.mv (t 1)),o 22 (.slc 2 (t 20) none (some (t 21))),o 23 (.mv (t 0)),o 24 (.mv (t 2)),o 25 (.slc 2 (t 23) (some (t 24)) none),o 26 (.app 2 24 [(.string ⟨#[]⟩), (.int .i64 0)] (t 22) (t 25)),o 0 (.mv (t 26))]
def f261r6 : LS := [o 27 (.mv (t 0)),o 28 (.mv (t 0)),o 29 (.len (t 28)),o 30 (.mv (t 7)),o 31 (.slc 2 (t 27) (some (t 29)) (some (t 30))),
 q (.clr [(.string ⟨#[]⟩), (.int .i64 0)] (t 31))]
def f261r7 : LS := [o 32 (.mv (t 0)),o 6 (.mv (t 32))]
def f261 : SCode := (.seq (.ops f261r0) (.seq (.ops f261r1) (.seq (.seq (.ops f261r2) (.cond (t 16) (.seq (.ops f261r3) .ret) .skip)) (.seq (.ops f261r4) (.seq (.ops f261r5) (.seq (.ops f261r6) (.seq (.ops f261r7) .ret)))))))
theorem f261_calls : Sound Tryz.prog 261 33 f261 [.t 6] := sound_of mixed Tryz.func261 rfl (by kernel_rfl) (by kernel_rfl) (by kernel_rfl)
def f280r0 : LS := [o 6 (.mv (i 0)),o 7 (.mv (b false))]
def f280r1 : LS := [o 12 (.mv (t 0)),o 13 (.len (t 12)),o 8 (.mv (t 13))]
def f280r2 : LS := [o 14 (.mv (t 8)),o 9 (.mv (i 0)),o 10 (.mv (t 14))]
def f280r3 : LS := [o 15 (.mv (t 9)),o 16 (.mv (t 10)),o 17 (.cmp .lss (t 15) (t 16))]
def f280r4 : LS := [o 18 (.mv (t 9)),o 19 (.mv (t 10)),o 20 (.ar .add (t 18) (t 19)),o 21 (.cvt .u64 (t 20)),o 22 (.sh .u64 false 1 (t 21)),o 23 (.cvt .i64 (t 22)),o 11 (.mv (t 23))]
def f280r5 : LS := [o 24 (.mv (t 2)),o 25 (.mv (t 0)),o 26 (.mv (t 11)),o 27 (.ixs 2 (t 25) (t 26)),o 28 (.ldn 2 (t 27)),o 29 (.mv (t 1)),o 30 (.callv (t 24) [(t 28), (t 29)]),o 31 (.cmp .lss (t 30) (i 0))]
def f280r6 : LS := [o 32 (.mv (t 11)),o 33 (.ar .add (t 32) (i 1)),o 9 (.mv (t 33))]
def f280r7 : LS := [o 34 (.mv (t 11)),o 10 (.mv (t 34))]
def f280l8 : SCode := (.seq (.seq (.ops f280r3) (.cond (t 17) .skip (.exit 0))) (.block 1 (.seq (.ops f280r4) (.seq (.ops f280r5) (.cond (t 31) (.ops f280r6) (.ops f280r7))))))
def f280r9 : LS := [o 35 (.mv (t 9)),o 36 (.mv (t 9)),o 37 (.mv (t 8)),o 38 (.cmp .lss (t 36) (t 37)),o 39 (.mv (t 38)),
 g 40 39 (.mv (t 2)),
 g 41 39 (.mv (t 0)),
 g 42 39 (.mv (t 9)),
 g 43 39 (.ixs 2 (t 41) (t 42)),
 g 44 39 (.ldn 2 (t 43)),
 g 45 39 (.mv (t 1)),
 g 46 39 (.callv (t 40) [(t 44), (t 45)]),
 g 47 39 (.cmp .eql (t 46) (i 0)),o 48 (.pick (t 39) (t 47) (b false)),o 6 (.mv (t 35)),o 7 (.mv (t 48))]
def f280 : SCode := (.seq (.ops f280r0) (.seq (.ops f280r1) (.seq (.ops f280r2) (.seq (.block 0 (.loop f280l8)) (.seq (.ops f280r9) .ret)))))
theorem f280_calls : Sound Tryz.prog 280 49 f280 [.t 6, .t 7] := sound_of mixed Tryz.func280 rfl (by kernel_rfl) (by kernel_rfl) (by kernel_rfl)
def f281r0 : LS := [o 3 (.box (t 0)),o 5 (.mv (i 0))]
def f281r1 : LS := [o 6 (.ld1 (t 2)),o 7 (.ldn 2 (t 3)),o 8 (.callv (t 6) [(t 7)]),o 9 (.mv (t 1)),o 10 (.call 70 [(t 8), (t 9)]),o 5 (.mv (t 10))]
def f281 : SCode := (.seq (.ops f281r0) (.seq (.ops f281r1) .ret))
theorem f281_calls : Sound Tryz.prog 281 11 f281 [.t 5] := sound_of mixed Tryz.func281 rfl (by kernel_rfl) (by kernel_rfl) (by kernel_rfl)
def f285r0 : LS := [o 6 (.mv (i 0)),o 7 (.mv (b false))]
def f285r1 : LS := [o 12 (.mv (t 0)),o 13 (.len (t 12)),o 8 (.mv (t 13))]
def f285r2 : LS := [o 14 (.mv (t 8)),o 9 (.mv (i 0)),o 10 (.mv (t 14))]
def f285r3 : LS := [o 15 (.mv (t 9)),o 16 (.mv (t 10)),o 17 (.cmp .lss (t 15) (t 16))]
def f285r4 : LS := [o 18 (.mv (t 9)),o 19 (.mv (t 10)),o 20 (.ar .add (t 18) (t 19)),o 21 (.cvt .u64 (t 20)),o 22 (.sh .u64 false 1 (t 21)),o 23 (.cvt .i64 (t 22)),o 11 (.mv (t 23))]
def f285r5 : LS := [o 24 (.mv (t 2)),o 25 (.mv (t 0)),o 26 (.mv (t 11)),o 27 (.ixs 1 (t 25) (t 26)),o 28 (.ld1 (t 27)),o 29 (.mv (t 1)),o 30 (.callv (t 24) [(t 28), (t 29)]),o 31 (.cmp .lss (t 30) (i 0))]
def f285r6 : LS := [o 32 (.mv (t 11)),o 33 (.ar .add (t 32) (i 1)),o 9 (.mv (t 33))]
def f285r7 : LS := [o 34 (.mv (t 11)),o 10 (.mv (t 34))]
def f285l8 : SCode := (.seq (.seq (.ops f285r3) (.cond (t 17) .skip (.exit 0))) (.block 1 (.seq (.ops f285r4) (.seq (.ops f285r5) (.cond (t 31) (.ops f285r6) (.ops f285r7))))))
def f285r9 : LS := [o 35 (.mv (t 9)),o 36 (.mv (t 9)),o 37 (.mv (t 8)),o 38 (.cmp .lss (t 36) (t 37)),o 39 (.mv (t 38)),
 g 40 39 (.mv (t 2)),
 g 41 39 (.mv (t 0)),
 g 42 39 (.mv (t 9)),
 g 43 39 (.ixs 1 (t 41) (t 42)),
 g 44 39 (.ld1 (t 43)),
 g 45 39 (.mv (t 1)),
 g 46 39 (.callv (t 40) [(t 44), (t 45)]),
 g 47 39 (.cmp .eql (t 46) (i 0)),o 48 (.pick (t 39) (t 47) (b false)),o 6 (.mv (t 35)),o 7 (.mv (t 48))]
def f285 : SCode := (.seq (.ops f285r0) (.seq (.ops f285r1) (.seq (.ops f285r2) (.seq (.block 0 (.loop f285l8)) (.seq (.ops f285r9) .ret)))))
theorem f285_calls : Sound Tryz.prog 285 49 f285 [.t 6, .t 7] := sound_of mixed Tryz.func285 rfl (by kernel_rfl) (by kernel_rfl) (by kernel_rfl)
def f286r0 : LS := [o 5 (.mv (i 0))]
def f286r1 : LS := [o 6 (.ld1 (t 2)),o 7 (.mv (t 0)),o 8 (.callv (t 6) [(t 7)]),o 9 (.mv (t 1)),o 10 (.call 70 [(t 8), (t 9)]),o 5 (.mv (t 10))]
def f286 : SCode := (.seq (.ops f286r0) (.seq (.ops f286r1) .ret))
theorem f286_calls : Sound Tryz.prog 286 11 f286 [.t 5] := sound_of mixed Tryz.func286 rfl (by kernel_rfl) (by kernel_rfl) (by kernel_rfl)
end Go.Proofs.YtjnijlnmbjjgpaaGreatDoor.C
namespace Go.Proofs.YtjnijlnmbjjgpaaGreatDoor
open Go Go.Sx C
set_option maxRecDepth 100000 in
theorem cmpStr_calls {h : Heap} (a b : ByteArray) : CallsH Tryz.prog 145 [.string a, .string b] h (Ret fun u h' => u = .int .i64 (cmpB a b) ∧ h' = h) := by
 refine ⟨by kernel_rfl, fun w hw => ?_⟩
 have key : Calls Tryz.prog 145 #[.string a, .string b] w fun e w' => e = .returned (.int .i64 (Lib.compareBytes a.data.toList b.data.toList)) ∧ w' = w := by
  go_enter Tryz.func145, Tryz.ntmps145
  go_wp2
  rw [run_callFunc_extern Tryz.func227 (by kernel_rfl) (by kernel_rfl) (by kernel_rfl) (e := Extern.BytealgCompare.compare) (by kernel_rfl), Lib.run_compareString]
  simp only [Result.andThen]
  rw [Oper.upon_value]
  go_wp2
  all_goals go_ret
  all_goals exact ⟨rfl, rfl⟩
 refine key.mono ?_
 rintro e w' ⟨rfl, rfl⟩
 exact ⟨⟨rfl, hw⟩, by simp, rfl, rfl, rfl⟩
theorem cmpS_calls {h : Heap} (a b : ByteArray) : CallsH Tryz.prog 70 [.string a, .string b] h (Ret fun u h' => u = .int .i64 (cmpB a b) ∧ h' = h) := by
 refine f70_calls (by simp) ?_
 refine call_ret (cmpStr_calls a b) ?_
 rintro _ h1 ⟨rfl, rfl⟩
 exact ⟨rfl, rfl⟩
structure Pair where
 name : ByteArray
 text : ByteArray
 deriving DecidableEq
structure Rank where
 name : ByteArray
 score : Int
 deriving DecidableEq
def encP (p : Pair) : List Value := [.string p.name, .string p.text]
def encR (r : Rank) : List Value := [.string r.name, .int .i64 r.score]
def encS (s : ByteArray) : List Value := [.string s]
theorem encP_len (p : Pair) : (encP p).length = 2 := rfl
theorem encR_len (p : Rank) : (encR p).length = 2 := rfl
theorem encS_len (p : ByteArray) : (encS p).length = 1 := rfl
theorem encP_one (r : Pair) : ∀ u ∈ encP r, u.oneCell' = true := by
 intro u hu
 simp [encP] at hu
 rcases hu with rfl | rfl <;> rfl
theorem encR_one (r : Rank) : ∀ u ∈ encR r, u.oneCell' = true := by
 intro u hu
 simp [encR] at hu
 rcases hu with rfl | rfl <;> rfl
theorem encS_one (r : ByteArray) : ∀ u ∈ encS r, u.oneCell' = true := by
 intro u hu
 simp [encS] at hu
 rw [hu]; rfl
theorem take_snoc {α : Type} (l : List α) (k : Nat) (h : k < l.length) : l.take (k + 1) = l.take k ++ [l[k]] := by
 rw [List.take_succ_eq_append_getElem h]
def rising {α : Type} (lt : α → α → Bool) : List α → Bool
 |x :: y :: l => lt x y && rising lt (y :: l)
 |_ => true
theorem rising_short {α : Type} {lt : α → α → Bool} : ∀ {l : List α}, l.length ≤ 1 → rising lt l = true
 |[], _ => rfl
 |[_], _ => rfl
 |_ :: _ :: _, h => by simp at h
theorem drop_two {α : Type} {l : List α} {k : Nat} (h1 : 1 ≤ k) (h : k < l.length) : l.drop (k - 1) = l[k - 1] :: l[k] :: l.drop (k + 1) := by
 rw [List.drop_eq_getElem_cons (show k - 1 < l.length by omega)]
 have e : k - 1 + 1 = k := by omega
 rw [e, List.drop_eq_getElem_cons h]
def OrdP (g : Nat) (lt : Pair → Pair → Bool) (h : Heap) : Prop := ∀ h' x y, Chg [] h h' → CallsH Tryz.prog g [.agg ⟨encP x⟩, .agg ⟨encP y⟩] h' (Ret fun u h'' => (∃ z, u = .int .i64 z ∧ (z < 0 ↔ lt x y = true)) ∧ Chg [] h' h'')
theorem risP_calls {h : Heap} {v : Value} {l : List Pair} {g : Nat} {lt : Pair → Pair → Bool} (hv : SL encP h v l) (hl : l.length < 4611686018427387904) (hg : OrdP g lt h) :
  CallsH Tryz.prog 68 [v, .func (.func g) #[] #[]] h (Ret fun r h' => r = .bool (rising lt l) ∧ Chg [] h h') := by
 obtain ⟨a, c, rfl, hlc⟩ := hv.form
 refine f68_calls (by simp) ?_
 refine loop_intro (fun k : Nat => [(0, .slice a l.length c), (1, .func (.func g) #[] #[]), (5, .int .i64 k)]) (fun k h' => 1 ≤ k ∧ k ≤ l.length + 1 ∧ Chg [] h h' ∧ rising lt l = rising lt (l.drop (k - 1))) (fun k => l.length + 1 - k) 1 ⟨rfl, rfl, rfl, trivial⟩ ⟨Nat.le_refl _, by omega, Chg.refl h, rfl⟩ ?_
 rintro k h1 ⟨hk1, hk, hc, hr⟩
 refine Ai rfl (Ai (fun hlt => ?_) (fun hlt => ?_))
 ·have hlt : k < l.length := by omega
  have hv1 := hv.ext hc
  obtain ⟨b, o, rfl⟩ := hv.addr (by omega)
  have hcs := hv1.cells encP_len (i := k - 1) (x := l[k - 1]) (by simp)
  have hds := hv1.cells encP_len (i := k) (x := l[k]) (by simp [hlt])
  refine Ai rfl (fun z hz => ?_)
  have hz := sub_in hz (by omega) (by omega)
  have hz : z = ((k - 1 : Nat) : Int) := by omega
  subst hz
  refine Ai (by omega) (Ai (by omega) (Ei (encP l[k - 1]) (Ai rfl (Ai hcs ?_))))
  refine Ai (by omega) (Ai (by omega) (Ei (encP l[k]) (Ai rfl (Ai hds ?_))))
  refine call_ret (hg h1 l[k - 1] l[k] hc) ?_
  rintro _ h2 ⟨⟨z, rfl, hzn⟩, hc2⟩
  rw [drop_two hk1 hlt, rising] at hr
  have e1 : l[k] :: l.drop (k + 1) = l.drop k := by rw [List.drop_eq_getElem_cons hlt]
  rw [e1] at hr
  refine Ai rfl (Ai (fun hge => ?_) (fun hge => ?_))
  ·refine Ai ?_ (hc.nil hc2)
   have : lt l[k - 1] l[k] = false := by
    cases hb : lt l[k - 1] l[k] with
    |false => rfl
    |true => have := hzn.2 hb; omega
   rw [hr, this]; rfl
  ·have hb : lt l[k - 1] l[k] = true := hzn.1 (by omega)
   rw [hb, Bool.true_and] at hr
   refine Ai rfl (fun y hy => ?_)
   have hy := add_in hy (by omega) (by omega)
   subst hy
   refine Ai rfl (Ei (k + 1) (Ai ?_ (Ai ?_ ?_)))
   ·exact ⟨rfl, rfl, rfl, trivial⟩
   ·exact ⟨by omega, by omega, hc.nil hc2, by rw [Nat.add_sub_cancel]; exact hr⟩
   ·omega
 ·refine Ai ?_ hc
  rw [hr, rising_short (by simp; omega)]; rfl
def OrdS (g : Nat) (lt : ByteArray → ByteArray → Bool) (h : Heap) : Prop := ∀ h' x y, Chg [] h h' → CallsH Tryz.prog g [.string x, .string y] h' (Ret fun u h'' => (∃ z, u = .int .i64 z ∧ (z < 0 ↔ lt x y = true)) ∧ Chg [] h' h'')
theorem risS_calls {h : Heap} {v : Value} {l : List ByteArray} {g : Nat} {lt : ByteArray → ByteArray → Bool} (hv : SL encS h v l) (hl : l.length < 4611686018427387904) (hg : OrdS g lt h) :
  CallsH Tryz.prog 71 [v, .func (.func g) #[] #[]] h (Ret fun r h' => r = .bool (rising lt l) ∧ Chg [] h h') := by
 obtain ⟨a, c, rfl, hlc⟩ := hv.form
 refine f71_calls (by simp) ?_
 refine loop_intro (fun k : Nat => [(0, .slice a l.length c), (1, .func (.func g) #[] #[]), (5, .int .i64 k)]) (fun k h' => 1 ≤ k ∧ k ≤ l.length + 1 ∧ Chg [] h h' ∧ rising lt l = rising lt (l.drop (k - 1))) (fun k => l.length + 1 - k) 1 ⟨rfl, rfl, rfl, trivial⟩ ⟨Nat.le_refl _, by omega, Chg.refl h, rfl⟩ ?_
 rintro k h1 ⟨hk1, hk, hc, hr⟩
 refine Ai rfl (Ai (fun hlt => ?_) (fun hlt => ?_))
 ·have hlt : k < l.length := by omega
  have hv1 := hv.ext hc
  obtain ⟨b, o, rfl⟩ := hv.addr (by omega)
  have hcs := hv1.cells encS_len (i := k - 1) (x := l[k - 1]) (by simp)
  have hds := hv1.cells encS_len (i := k) (x := l[k]) (by simp [hlt])
  refine Ai rfl (fun z hz => ?_)
  have hz := sub_in hz (by omega) (by omega)
  have hz : z = ((k - 1 : Nat) : Int) := by omega
  subst hz
  refine Ai (by omega) (Ai (by omega) (Ei _ (Ai (hcs 0 _ rfl) ?_)))
  refine Ai (by omega) (Ai (by omega) (Ei _ (Ai (hds 0 _ rfl) ?_)))
  refine call_ret (hg h1 l[k - 1] l[k] hc) ?_
  rintro _ h2 ⟨⟨z, rfl, hzn⟩, hc2⟩
  rw [drop_two hk1 hlt, rising] at hr
  have e1 : l[k] :: l.drop (k + 1) = l.drop k := by rw [List.drop_eq_getElem_cons hlt]
  rw [e1] at hr
  refine Ai rfl (Ai (fun hge => ?_) (fun hge => ?_))
  ·refine Ai ?_ (hc.nil hc2)
   have : lt l[k - 1] l[k] = false := by
    cases hb : lt l[k - 1] l[k] with
    |false => rfl
    |true => have := hzn.2 hb; omega
   rw [hr, this]; rfl
  ·have hb : lt l[k - 1] l[k] = true := hzn.1 (by omega)
   rw [hb, Bool.true_and] at hr
   refine Ai rfl (fun y hy => ?_)
   have hy := add_in hy (by omega) (by omega)
   subst hy
   refine Ai rfl (Ei (k + 1) (Ai ?_ (Ai ?_ ?_)))
   ·exact ⟨rfl, rfl, rfl, trivial⟩
   ·exact ⟨by omega, by omega, hc.nil hc2, by rw [Nat.add_sub_cancel]; exact hr⟩
   ·omega
 ·refine Ai ?_ hc
  rw [hr, rising_short (by simp; omega)]; rfl
def OrdR (g : Nat) (lt : Rank → Rank → Bool) (h : Heap) : Prop := ∀ h' x y, Chg [] h h' → CallsH Tryz.prog g [.agg ⟨encR x⟩, .agg ⟨encR y⟩] h' (Ret fun u h'' => (∃ z, u = .int .i64 z ∧ (z < 0 ↔ lt x y = true)) ∧ Chg [] h' h'')
theorem risR_calls {h : Heap} {v : Value} {l : List Rank} {g : Nat} {lt : Rank → Rank → Bool} (hv : SL encR h v l) (hl : l.length < 4611686018427387904) (hg : OrdR g lt h) :
  CallsH Tryz.prog 72 [v, .func (.func g) #[] #[]] h (Ret fun r h' => r = .bool (rising lt l) ∧ Chg [] h h') := by
 obtain ⟨a, c, rfl, hlc⟩ := hv.form
 refine f72_calls (by simp) ?_
 refine loop_intro (fun k : Nat => [(0, .slice a l.length c), (1, .func (.func g) #[] #[]), (5, .int .i64 k)]) (fun k h' => 1 ≤ k ∧ k ≤ l.length + 1 ∧ Chg [] h h' ∧ rising lt l = rising lt (l.drop (k - 1))) (fun k => l.length + 1 - k) 1 ⟨rfl, rfl, rfl, trivial⟩ ⟨Nat.le_refl _, by omega, Chg.refl h, rfl⟩ ?_
 rintro k h1 ⟨hk1, hk, hc, hr⟩
 refine Ai rfl (Ai (fun hlt => ?_) (fun hlt => ?_))
 ·have hlt : k < l.length := by omega
  have hv1 := hv.ext hc
  obtain ⟨b, o, rfl⟩ := hv.addr (by omega)
  have hcs := hv1.cells encR_len (i := k - 1) (x := l[k - 1]) (by simp)
  have hds := hv1.cells encR_len (i := k) (x := l[k]) (by simp [hlt])
  refine Ai rfl (fun z hz => ?_)
  have hz := sub_in hz (by omega) (by omega)
  have hz : z = ((k - 1 : Nat) : Int) := by omega
  subst hz
  refine Ai (by omega) (Ai (by omega) (Ei (encR l[k - 1]) (Ai rfl (Ai hcs ?_))))
  refine Ai (by omega) (Ai (by omega) (Ei (encR l[k]) (Ai rfl (Ai hds ?_))))
  refine call_ret (hg h1 l[k - 1] l[k] hc) ?_
  rintro _ h2 ⟨⟨z, rfl, hzn⟩, hc2⟩
  rw [drop_two hk1 hlt, rising] at hr
  have e1 : l[k] :: l.drop (k + 1) = l.drop k := by rw [List.drop_eq_getElem_cons hlt]
  rw [e1] at hr
  refine Ai rfl (Ai (fun hge => ?_) (fun hge => ?_))
  ·refine Ai ?_ (hc.nil hc2)
   have : lt l[k - 1] l[k] = false := by
    cases hb : lt l[k - 1] l[k] with
    |false => rfl
    |true => have := hzn.2 hb; omega
   rw [hr, this]; rfl
  ·have hb : lt l[k - 1] l[k] = true := hzn.1 (by omega)
   rw [hb, Bool.true_and] at hr
   refine Ai rfl (fun y hy => ?_)
   have hy := add_in hy (by omega) (by omega)
   subst hy
   refine Ai rfl (Ei (k + 1) (Ai ?_ (Ai ?_ ?_)))
   ·exact ⟨rfl, rfl, rfl, trivial⟩
   ·exact ⟨by omega, by omega, hc.nil hc2, by rw [Nat.add_sub_cancel]; exact hr⟩
   ·omega
 ·refine Ai ?_ hc
  rw [hr, rising_short (by simp; omega)]; rfl
theorem sless_data (a b : ByteArray) : sless a b = Op.bytesLess a.data.toList b.data.toList := by
 unfold sless
 rw [Go.ByteArray.toList_eq, Go.ByteArray.toList_eq]
def aheadR (a b : Rank) : Bool := decide (a.score < b.score) || (decide (a.score = b.score) && sless a.name b.name)
theorem chk1_ord {h : Heap} : OrdP 69 (fun x y => sless x.name y.name) h := by
 intro h' x y _
 refine f69_calls (by simp) ?_
 intro b1 h1 g1
 intro b2 h2 g2
 have B1 : Blk h2 b1 (encP x) := (show Blk h1 b1 (encP x) from g1.blk).chg g2.chg (by simp)
 have B2 : Blk h2 b2 (encP y) := g2.blk
 refine Ei _ (Ai (cell_blk B1 rfl) (Ei _ (Ai (cell_blk B2 rfl) ?_)))
 refine call_ret (cmpS_calls x.name y.name) ?_
 rintro _ h3 ⟨rfl, rfl⟩
 exact Ai (Ei _ (Ai rfl (cmpB_neg _ _))) (g1.chg.nil g2.chg)
theorem cmpS_ord {h : Heap} : OrdS 70 sless h := by
 intro h' x y _
 exact (cmpS_calls x y).mono fun e h'' he => by
  cases e <;> first | exact he.elim | skip
  obtain ⟨rfl, rfl⟩ := he
  exact Ai (Ei _ (Ai rfl (cmpB_neg _ _))) (Chg.refl _)
theorem ahead_ord {h : Heap} : OrdR 73 aheadR h := by
 intro h' x y _
 refine f73_calls (by simp) ?_
 intro b1 h1 g1
 intro b2 h2 g2
 have B1 : Blk h2 b1 (encR x) := (show Blk h1 b1 (encR x) from g1.blk).chg g2.chg (by simp)
 have B2 : Blk h2 b2 (encR y) := g2.blk
 have hc := g1.chg.nil g2.chg
 refine Ei _ (Ai (cell_blk B1 rfl) (Ei _ (Ai (cell_blk B2 rfl) ?_)))
 refine Ai rfl (Ai (fun hl => ?_) (fun hl => ?_))
 ·exact Ai (Ei (-1) (Ai rfl (by simp [aheadR, hl]))) hc
 ·refine Ei _ (Ai (cell_blk B1 rfl) (Ei _ (Ai (cell_blk B2 rfl) ?_)))
  refine Ai rfl (Ai (fun hg => ?_) (fun hg => ?_))
  ·exact Ai (Ei 1 (Ai rfl (by simp [aheadR]; omega))) hc
  ·refine Ei _ (Ai (cell_blk B1 rfl) (Ei _ (Ai (cell_blk B2 rfl) ?_)))
   refine call_ret (cmpS_calls x.name y.name) ?_
   rintro _ h3 ⟨rfl, rfl⟩
   have e : x.score = y.score := by omega
   exact Ai (Ei _ (Ai rfl (by rw [cmpB_neg]; simp [aheadR, e]))) hc
structure Thing where
 kind : Int
 text : ByteArray
 pairs : List Pair
 list : List ByteArray
 ranks : List Rank
 hasU : Bool
 unt : Int
 deriving DecidableEq
def TH (h : Heap) (vs : List Value) (t : Thing) : Prop :=
 ∃ pv lv rv, vs = [.int .i64 t.kind, .string t.text, pv, lv, rv, .bool t.hasU, .int .i64 t.unt] ∧ SL encP h pv t.pairs ∧ SL encS h lv t.list ∧ SL encR h rv t.ranks
theorem TH.ext {h h' : Heap} {vs : List Value} {t : Thing} (x : TH h vs t) (hc : Chg [] h h') : TH h' vs t := by
 obtain ⟨pv, lv, rv, h1, h2, h3, h4⟩ := x
 exact ⟨pv, lv, rv, h1, h2.ext hc, h3.ext hc, h4.ext hc⟩
theorem TH.len {h : Heap} {vs : List Value} {t : Thing} (x : TH h vs t) : vs.length = 7 := by
 obtain ⟨pv, lv, rv, rfl, _⟩ := x; rfl
structure Fits (t : Thing) : Prop where
 p : t.pairs.length < 4611686018427387904
 l : t.list.length < 4611686018427387904
 r : t.ranks.length < 4611686018427387904
structure Lens (t : Thing) : Prop where
 p : t.pairs.length ≤ 70000
 l : t.list.length ≤ 70000
 r : t.ranks.length ≤ 70000
def countT (t : Thing) : Nat := t.pairs.length + t.list.length + t.ranks.length
theorem count_calls {h : Heap} {vs : List Value} {t : Thing} (x : TH h vs t) (n : Lens t) :
  CallsH Tryz.prog 65 [.agg ⟨vs⟩] h (Ret fun r h' => r = .int .i64 (countT t) ∧ Chg [] h h') := by
 have np := n.p; have nl := n.l; have nr := n.r
 refine f65_calls (by simp) ?_
 intro b1 h1 g1
 have B1 : Blk h1 b1 vs := g1.blk
 obtain ⟨pv, lv, rv, rfl, hp, hl, hr⟩ := x
 obtain ⟨pa, pc, rfl, _⟩ := hp.form
 obtain ⟨la, lc, rfl, _⟩ := hl.form
 obtain ⟨ra, rc, rfl, _⟩ := hr.form
 refine Ei _ (Ai (cell_blk B1 rfl) (Ei _ (Ai (cell_blk B1 rfl) ?_)))
 refine Ai rfl (fun z hz => ?_)
 have hz := add_in hz (by omega) (by omega)
 refine Ei _ (Ai (cell_blk B1 rfl) ?_)
 refine Ai rfl (fun y hy => ?_)
 have hy := add_in hy (by omega) (by omega)
 refine Ai ?_ g1.chg
 have : y = (countT t : Int) := by unfold countT; omega
 rw [this]; rfl
theorem short1_calls {h : Heap} (s : ByteArray) : CallsH Tryz.prog 144 [.string s] h (Ret fun r h' => r = .bool (decide (1048576 < s.size)) ∧ h' = h) := by
 refine f144_calls (by simp) ?_
 refine Ai rfl (Ai (fun hl => ?_) (fun hl => ?_))
 ·exact Ai (by rw [decide_eq_true (by omega)]; rfl) rfl
 ·exact Ai (by rw [decide_eq_false (by omega)]; rfl) rfl
theorem idxF_calls {h : Heap} {v : Value} {l : List ByteArray} (hv : SL encS h v l) (hl : l.length < 4611686018427387904) :
  CallsH Tryz.prog 226 [v, .func (.func 144) #[] #[]] h (Ret fun r h' => (∃ z, r = .int .i64 z ∧ (z < 0 ↔ ∀ s ∈ l, s.size ≤ 1048576)) ∧ h' = h) := by
 obtain ⟨a, c, rfl, hlc⟩ := hv.form
 refine f226_calls (by simp) ?_
 refine loop_intro (fun k : Nat => [(0, .slice a l.length c), (1, .func (.func 144) #[] #[]), (7, .int .i64 l.length), (8, .int .i64 k)]) (fun k h' => k ≤ l.length ∧ h' = h ∧ ∀ s ∈ l.take k, s.size ≤ 1048576) (fun k => l.length - k) 0 ⟨rfl, rfl, rfl, rfl, trivial⟩ ⟨Nat.zero_le _, rfl, by simp⟩ ?_
 rintro k h' ⟨hk, rfl, ht⟩
 refine Ai rfl (Ai (fun hlt => ?_) (fun hlt => ?_))
 ·have hlt : k < l.length := by omega
  obtain ⟨b, o, rfl⟩ := hv.addr (by omega)
  have hcs := hv.cells encS_len (i := k) (x := l[k]) (by simp [hlt])
  refine Ai (by omega) (Ai (by omega) (Ei _ (Ai (hcs 0 _ rfl) ?_)))
  refine call_ret (short1_calls l[k]) ?_
  rintro r _ ⟨hr, rfl⟩
  by_cases hs : 1048576 < l[k].size
  ·rw [decide_eq_true hs] at hr
   subst hr
   refine Ai (Ei k (Ai rfl ?_)) rfl
   constructor
   ·intro h; omega
   ·intro h; have := h l[k] (List.getElem_mem hlt); omega
  ·rw [decide_eq_false hs] at hr
   subst hr
   refine Ai rfl (fun z hz => ?_)
   have hz := add_in hz (by omega) (by omega)
   subst hz
   refine Ai rfl (Ei (k + 1) (Ai ?_ (Ai ?_ ?_)))
   ·exact ⟨rfl, rfl, rfl, rfl, trivial⟩
   ·refine ⟨by omega, rfl, fun s hs' => ?_⟩
    rw [take_snoc l k hlt] at hs'
    rcases List.mem_append.1 hs' with hs' | hs'
    ·exact ht s hs'
    ·have : s = l[k] := by simpa using hs'
     rw [this]; omega
   ·omega
 ·have hkl : k = l.length := by omega
  rw [hkl, List.take_length] at ht
  exact Ai (Ei (-1) (Ai rfl ⟨fun _ => ht, fun _ => by decide⟩)) rfl
def shortL (l : List ByteArray) : Bool := l.all fun s => decide (s.size ≤ 1048576)
theorem shortL_iff {l : List ByteArray} : shortL l = true ↔ ∀ s ∈ l, s.size ≤ 1048576 := by simp [shortL]
theorem conF_calls {h : Heap} {v : Value} {l : List ByteArray} (hv : SL encS h v l) (hl : l.length < 4611686018427387904) :
  CallsH Tryz.prog 143 [v, .func (.func 144) #[] #[]] h (Ret fun r h' => r = .bool (!shortL l) ∧ h' = h) := by
 refine f143_calls (by simp) ?_
 refine call_ret (idxF_calls hv hl) ?_
 rintro _ _ ⟨⟨z, rfl, hz⟩, rfl⟩
 rw [← shortL_iff] at hz
 refine Ai rfl (Ai (fun hg => ?_) (fun hg => ?_))
 ·have : shortL l = false := by
   cases hs : shortL l with
   |false => rfl
   |true => have := hz.2 hs; omega
  exact Ai (by rw [this]; rfl) rfl
 ·exact Ai (by rw [hz.1 (by omega)]; rfl) rfl
theorem short_calls {h : Heap} {v : Value} {l : List ByteArray} (hv : SL encS h v l) (hl : l.length < 4611686018427387904) :
  CallsH Tryz.prog 66 [v] h (Ret fun r h' => r = .bool (shortL l) ∧ h' = h) := by
 refine f66_calls (by simp) ?_
 refine call_ret (conF_calls hv hl) ?_
 rintro _ _ ⟨rfl, rfl⟩
 exact Ai (by cases shortL l <;> rfl) rfl
def namesT (t : Thing) : List ByteArray := t.pairs.flatMap (fun p => [p.name, p.text]) ++ t.ranks.map Rank.name
theorem names_calls {h : Heap} {vs : List Value} {t : Thing} (x : TH h vs t) (n : Lens t) :
  CallsH Tryz.prog 67 [.agg ⟨vs⟩] h (Ret fun r h' => OL encS 1 h' r (namesT t) ∧ Chg [] h h') := by
 have np := n.p; have nr := n.r
 refine f67_calls (by simp) ?_
 intro b1 h1 g1
 have B1 : Blk h1 b1 vs := g1.blk
 have hc1 := g1.chg
 obtain ⟨pv, lv, rv, rfl, hp, hl, hr⟩ := x.ext hc1
 obtain ⟨pa, pc, rfl, _⟩ := hp.form
 obtain ⟨ra, rc, rfl, _⟩ := hr.form
 refine Ei _ (Ai (cell_blk B1 rfl) ?_)
 have fl : ∀ k, ((t.pairs.take k).flatMap fun p => [p.name, p.text]).length ≤ 2 * k := by
  intro k
  induction k with
  |zero => simp
  |succ k ih =>
   by_cases hk : k < t.pairs.length
   ·rw [take_snoc t.pairs k hk, List.flatMap_append]; simp at ih ⊢; omega
   ·rw [List.take_of_length_le (by omega)] at ih ⊢; omega
 refine loop_intro (fun i : Nat × Value => [(1, .pointer (some ⟨b1, 0, none⟩)), (3, i.2), (9, .slice pa t.pairs.length pc), (10, .int .i64 t.pairs.length), (11, .int .i64 i.1)])
  (fun i h' => i.1 ≤ t.pairs.length ∧ Chg [] h1 h' ∧ OL encS 1 h' i.2 ((t.pairs.take i.1).flatMap fun p => [p.name, p.text]) ∧ ∀ b ∈ vblk i.2, h1.size ≤ b) (fun i => t.pairs.length - i.1) (0, .slice none 0 0) ⟨rfl, rfl, rfl, rfl, rfl, trivial⟩
  ⟨Nat.zero_le _, Chg.refl _, OL.nil, by simp [vblk, ablk]⟩ ?_
 rintro ⟨k, ov⟩ h2 ⟨hk, hc2, ho, hob⟩
 simp only at hk ho hob
 refine Ai rfl (Ai (fun hlt => ?_) (fun hlt => ?_))
 ·have hkk : k < t.pairs.length := by omega
  obtain ⟨b, o, rfl⟩ := hp.addr (by omega)
  have hcs := (hp.ext hc2).cells encP_len (i := k) (x := t.pairs[k]) (by simp [hkk])
  obtain ⟨oa, oc, rfl, _⟩ := ho.sl.form
  refine Ai (by omega) (Ai (by omega) (Ei (encP t.pairs[k]) (Ai rfl (Ai hcs ?_))))
  intro b3 h3 g3
  refine Ei _ (Ai g3.blk (Ai (by decide) (Ai rfl (Ai (encP_one _) ?_))))
  intro h4 p4
  have g4 := g3.put p4
  have B4 : Blk h4 b3 (encP t.pairs[k]) := g4.blk
  refine Ei _ (Ai (cell_blk B4 rfl) (Ei _ (Ai (cell_blk B4 rfl) ?_)))
  intro b5 h5 g5
  have hc5 := g4.chg.nil g5.chg
  have hsrc : SL encS h5 (.slice (some ⟨b5, 0, none⟩) 2 2) [t.pairs[k].name, t.pairs[k].text] := ⟨_, _, rfl, Nat.le_refl _, cells_blk g5.blk⟩
  have hfl := fl k
  refine app_own encS_len encS_one rfl (ho.ext hc5) hsrc (by simp at hfl ⊢; omega) ?_
  intro v' h6 ho6 hc6 hb6
  have hc26 : Chg [] h1 h6 := (hc2.nil hc5).fresh hc6 hob
  refine Ai rfl (fun z hz => ?_)
  have hz := add_in hz (by omega) (by omega)
  subst hz
  refine Ai rfl (Ei (k + 1, v') (Ai ?_ (Ai ?_ ?_)))
  ·exact ⟨rfl, rfl, rfl, rfl, rfl, trivial⟩
  ·refine ⟨by simp only; omega, hc26, ?_, fun b' hb' => ?_⟩
   ·simp only
    rw [take_snoc t.pairs k hkk, List.flatMap_append]
    exact ho6
   ·rcases hb6 b' hb' with h | h
    ·exact hob b' h
    ·have := (hc2.nil hc5).size; omega
  ·simp only; omega
 have hkl : k = t.pairs.length := by omega
 rw [hkl, List.take_length] at ho
 have B2 := B1.chg hc2 (by simp)
 refine Ei _ (Ai (cell_blk B2 rfl) ?_)
 have flp : (t.pairs.flatMap fun p => [p.name, p.text]).length ≤ 140000 := by
  have := fl t.pairs.length
  rw [List.take_length] at this; omega
 refine loop_intro (fun i : Nat × Value => [(3, i.2), (24, .slice ra t.ranks.length rc), (25, .int .i64 t.ranks.length), (26, .int .i64 i.1)])
  (fun i h' => i.1 ≤ t.ranks.length ∧ Chg [] h1 h' ∧ OL encS 1 h' i.2 (t.pairs.flatMap (fun p => [p.name, p.text]) ++ (t.ranks.take i.1).map Rank.name) ∧ ∀ b ∈ vblk i.2, h1.size ≤ b) (fun i => t.ranks.length - i.1) (0, ov) ⟨rfl, rfl, rfl, rfl, trivial⟩
  ⟨Nat.zero_le _, hc2, by simpa using ho, hob⟩ ?_
 clear hlt hkl hk hob ho
 rintro ⟨k, ov⟩ h2 ⟨hk, hc2, ho, hob⟩
 simp only at hk ho hob
 refine Ai rfl (Ai (fun hlt => ?_) (fun hlt => ?_))
 ·have hkk : k < t.ranks.length := by omega
  obtain ⟨b, o, rfl⟩ := hr.addr (by omega)
  have hcs := (hr.ext hc2).cells encR_len (i := k) (x := t.ranks[k]) (by simp [hkk])
  obtain ⟨oa, oc, rfl, _⟩ := ho.sl.form
  refine Ai (by omega) (Ai (by omega) (Ei (encR t.ranks[k]) (Ai rfl (Ai hcs ?_))))
  intro b3 h3 g3
  refine Ei _ (Ai g3.blk (Ai (by decide) (Ai rfl (Ai (encR_one _) ?_))))
  intro h4 p4
  have g4 := g3.put p4
  have B4 : Blk h4 b3 (encR t.ranks[k]) := g4.blk
  refine Ei _ (Ai (cell_blk B4 rfl) ?_)
  intro b5 h5 g5
  have hc5 := g4.chg.nil g5.chg
  have hsrc : SL encS h5 (.slice (some ⟨b5, 0, none⟩) 1 1) [t.ranks[k].name] := SL.one encS_len g5.blk
  refine app_own encS_len encS_one rfl (ho.ext hc5) hsrc (by simp at flp ⊢; omega) ?_
  intro v' h6 ho6 hc6 hb6
  have hc26 : Chg [] h1 h6 := (hc2.nil hc5).fresh hc6 hob
  refine Ai rfl (fun z hz => ?_)
  have hz := add_in hz (by omega) (by omega)
  subst hz
  refine Ai rfl (Ei (k + 1, v') (Ai ?_ (Ai ?_ ?_)))
  ·exact ⟨rfl, rfl, rfl, rfl, trivial⟩
  ·refine ⟨by simp only; omega, hc26, ?_, fun b' hb' => ?_⟩
   ·simp only
    rw [take_snoc t.ranks k hkk, List.map_append, ← List.append_assoc]
    exact ho6
   ·rcases hb6 b' hb' with h | h
    ·exact hob b' h
    ·have := (hc2.nil hc5).size; omega
  ·simp only; omega
 have hkl : k = t.ranks.length := by omega
 rw [hkl, List.take_length] at ho
 exact Ai ho (hc1.nil hc2)
theorem mfind_none {k : Kd} {a : Value} (ha : fits k a = true) : ∀ (es : List MapEntry) (i : Nat), (∀ e ∈ es, fits k e.key = true) → mfind a es i = none → ∀ e ∈ es, e.key ≠ a
 |[], _, _, _, e, he => by simp at he
 |x :: es, i, hf, h, e, he => by
  simp only [mfind] at h
  split at h
  ·simp at h
  ·rename_i hs
   rcases List.mem_cons.1 he with rfl | he
   ·intro e; exact hs (by rw [e]; exact sameBits_refl ha)
   ·exact mfind_none ha es (i + 1) (fun y hy => hf y (by simp [hy])) h e he
theorem modify_keys (f : MapEntry → MapEntry) (hf : ∀ e, (f e).key = e.key) : ∀ (es : List MapEntry) (i : Nat), (es.modify i f).map (·.key) = es.map (·.key)
 |[], i => by simp
 |e :: es, 0 => by simp [hf]
 |e :: es, i + 1 => by simp [modify_keys f hf es i]
theorem mem_modify {f : MapEntry → MapEntry} : ∀ {es : List MapEntry} {i : Nat} {e : MapEntry}, e ∈ es.modify i f → e ∈ es ∨ ∃ x ∈ es, e = f x
 |[], i, e, h => by simp at h
 |x :: es, 0, e, h => by
  simp at h
  rcases h with rfl | h
  ·exact .inr ⟨x, by simp, rfl⟩
  ·exact .inl (by simp [h])
 |x :: es, i + 1, e, h => by
  simp at h
  rcases h with rfl | h
  ·exact .inl (by simp)
  ·rcases mem_modify h with h | ⟨y, hy, rfl⟩
   ·exact .inl (by simp [h])
   ·exact .inr ⟨y, by simp [hy], rfl⟩
structure Seen (h : Heap) (mb : Nat) (m : List ByteArray) : Prop where
 ex : ∃ (es : List MapEntry) (c : Nat) (ks : List ByteArray), MapB h mb es c ∧ es.map (·.key) = ks.map Value.string ∧ (∀ n, n ∈ ks ↔ n ∈ m) ∧ (ks.length = m.length ↔ m.Nodup) ∧ ks.length ≤ m.length ∧ ∀ e ∈ es, ∃ z, e.val = .int .i64 z
theorem nodup_snoc {m : List ByteArray} {n : ByteArray} : (m ++ [n]).Nodup ↔ m.Nodup ∧ n ∉ m := by
 rw [List.nodup_append]
 constructor
 ·rintro ⟨h1, _, h3⟩
  exact ⟨h1, fun hm => h3 n hm n (by simp) rfl⟩
 ·rintro ⟨h1, h2⟩
  refine ⟨h1, by simp, fun a ha b hb => ?_⟩
  have : b = n := by simpa using hb
  rw [this]; rintro rfl; exact h2 ha
def onceR (l : List Rank) : Bool := decide (l.map Rank.name).Nodup
theorem once_calls {h : Heap} {v : Value} {l : List Rank} (hv : SL encR h v l) (hl : l.length < 4611686018427387904) :
  CallsH Tryz.prog 74 [v] h (Ret fun r h' => r = .bool (onceR l) ∧ Chg [] h h') := by
 obtain ⟨a, c, rfl, hlc⟩ := hv.form
 refine f74_calls (by simp) ?_
 intro mb h1 g1
 have hm0 : Seen h1 mb [] := ⟨[], 0, [], g1.blk, rfl, by simp, by simp, by simp, by simp⟩
 have hmb : h.size ≤ mb := by rw [g1.id]; exact Nat.le_refl _
 refine loop_intro (fun k : Nat => [(0, .slice a l.length c), (3, .map (some mb)), (7, .slice a l.length c), (8, .int .i64 l.length), (9, .int .i64 k)]) (fun k h' => k ≤ l.length ∧ Chg [] h h' ∧ Seen h' mb ((l.take k).map Rank.name)) (fun k => l.length - k) 0
  ⟨rfl, rfl, rfl, rfl, rfl, trivial⟩ ⟨Nat.zero_le _, g1.chg, hm0⟩ ?_
 rintro k h2 ⟨hk, hc2, hs⟩
 refine Ai rfl (Ai (fun hlt => ?_) (fun hlt => ?_))
 ·have hkk : k < l.length := by omega
  obtain ⟨b, o, rfl⟩ := hv.addr (by omega)
  have hcs := (hv.ext hc2).cells encR_len (i := k) (x := l[k]) (by simp [hkk])
  refine Ai (by omega) (Ai (by omega) (Ei (encR l[k]) (Ai rfl (Ai hcs ?_))))
  intro b3 h3 g3
  refine Ei _ (Ai g3.blk (Ai (by decide) (Ai rfl (Ai (encR_one _) ?_))))
  intro h4 p4
  have g4 := g3.put p4
  have B4 : Blk h4 b3 (encR l[k]) := g4.blk
  obtain ⟨es, cl, ks, hmap, hkeys, hmem, hnd, hle, hvals⟩ := hs.ex
  have hmap4 : MapB h4 mb es cl := hmap.chg g4.chg (by simp)
  have hfits : ∀ e ∈ es, fits .str e.key = true := by
   intro e he
   have : e.key ∈ es.map (·.key) := List.mem_map.2 ⟨e, he, rfl⟩
   rw [hkeys] at this
   obtain ⟨n, _, hn⟩ := List.mem_map.1 this
   rw [← hn]; rfl
  refine Ei _ (Ai (cell_blk B4 rfl) ?_)
  refine Ai rfl (Ei es (Ei cl (Ai hmap4 (Ai hfits ?_))))
  have htk : (l.take (k + 1)).map Rank.name = (l.take k).map Rank.name ++ [l[k].name] := by rw [take_snoc l k hkk, List.map_append]; rfl
  have hc4 := hc2.nil g4.chg
  cases hmf : mfind (.string l[k].name) es 0 with
  |none =>
   have hnot := mfind_none (k := .str) rfl es 0 hfits hmf
   have hnk : l[k].name ∉ ks := by
    intro hm
    have : Value.string l[k].name ∈ es.map (·.key) := by rw [hkeys]; exact List.mem_map.2 ⟨_, hm, rfl⟩
    obtain ⟨e, he, hek⟩ := List.mem_map.1 this
    exact hnot e he hek
   refine Ai rfl (fun z hz => ?_)
   refine Ai rfl (Ei es (Ei cl (Ai hmap4 (Ai hfits ?_))))
   rw [hmf]
   intro h5 p5
   refine Ai rfl (fun y hy => ?_)
   have hy := add_in hy (by omega) (by omega)
   subst hy
   refine Ai rfl (Ei (k + 1) (Ai ?_ (Ai ?_ ?_)))
   ·exact ⟨rfl, rfl, rfl, rfl, rfl, trivial⟩
   ·refine ⟨by omega, hc4.fresh p5.chg (by simp; exact hmb), ⟨_, _, ks ++ [l[k].name], p5.blk, by rw [List.map_append, List.map_append, hkeys]; rfl, ?_, ?_, ?_, ?_⟩⟩
    ·intro n; rw [htk]; simp [hmem n]
    ·have hnk' : l[k].name ∉ (l.take k).map Rank.name := fun h => hnk ((hmem _).2 h)
     rw [htk, nodup_snoc]
     simp only [List.length_append, List.length_cons, List.length_nil]
     constructor
     ·intro h; exact ⟨hnd.1 (by omega), hnk'⟩
     ·rintro ⟨h, _⟩; have := hnd.2 h; omega
    ·rw [htk]; simp only [List.length_append, List.length_cons, List.length_nil]; omega
    ·intro e he
     rcases List.mem_append.1 he with he | he
     ·exact hvals e he
     ·have : e = { key := .string l[k].name, val := .int .i64 z, born := cl } := by simpa using he
      rw [this]; exact ⟨z, rfl⟩
   ·omega
  |some p =>
   obtain ⟨i, w⟩ := p
   obtain ⟨_, e0, he0, hek, hev⟩ := mfind_spec (k := .str) rfl es 0 i w hfits hmf
   have hem : e0 ∈ es := List.mem_of_getElem? he0
   obtain ⟨zz, hzz⟩ := hvals e0 hem
   rw [hzz] at hev
   subst hev
   have hin : l[k].name ∈ ks := by
    have : Value.string l[k].name ∈ es.map (·.key) := List.mem_map.2 ⟨e0, hem, hek⟩
    rw [hkeys] at this
    obtain ⟨n, hn, hne⟩ := List.mem_map.1 this
    cases hne; exact hn
   refine Ai rfl (fun z hz => ?_)
   refine Ai rfl (Ei es (Ei cl (Ai hmap4 (Ai hfits ?_))))
   rw [hmf]
   intro h5 p5
   refine Ai rfl (fun y hy => ?_)
   have hy := add_in hy (by omega) (by omega)
   subst hy
   refine Ai rfl (Ei (k + 1) (Ai ?_ (Ai ?_ ?_)))
   ·exact ⟨rfl, rfl, rfl, rfl, rfl, trivial⟩
   ·refine ⟨by omega, hc4.fresh p5.chg (by simp; exact hmb), ⟨_, _, ks, p5.blk, by rw [modify_keys (fun e => { e with val := .int .i64 z }) (fun _ => rfl)]; exact hkeys, ?_, ?_, ?_, ?_⟩⟩
    ·intro n; rw [htk]; simp only [List.mem_append, List.mem_singleton, hmem n]
     constructor
     ·exact .inl
     ·rintro (h | rfl)
      ·exact h
      ·exact (hmem _).1 hin
    ·rw [htk, nodup_snoc]
     simp only [List.length_append, List.length_cons, List.length_nil]
     constructor
     ·intro h; omega
     ·rintro ⟨_, h⟩; exact absurd ((hmem _).1 hin) h
    ·rw [htk]; simp only [List.length_append, List.length_cons, List.length_nil]; omega
    ·intro e he
     rcases mem_modify he with he | ⟨x, _, rfl⟩
     ·exact hvals e he
     ·exact ⟨_, rfl⟩
   ·omega
 ·have hkl : k = l.length := by omega
  rw [hkl, List.take_length] at hs
  obtain ⟨es, cl, ks, hmap, hkeys, hmem, hnd, hle, hvals⟩ := hs.ex
  have hel : es.length = ks.length := by
   have := congrArg List.length hkeys
   simpa using this
  simp only [List.length_map] at hnd
  refine Ei es (Ei cl (Ai hmap ?_))
  refine Ai rfl (Ai (fun he => ?_) (fun he => ?_))
  ·exact Ai (by rw [onceR, decide_eq_true (hnd.1 (by omega))]; rfl) hc2
  ·exact Ai (by rw [onceR, decide_eq_false (fun h => he (by have := hnd.2 h; omega))]; rfl) hc2
structure Small (t : Thing) : Prop where
 p : t.pairs.length ≤ 40
 l : t.list.length ≤ 40
 r : t.ranks.length ≤ 40
 text : t.text.size ≤ 2000
 ps : ∀ x ∈ t.pairs, x.name.size ≤ 2000 ∧ x.text.size ≤ 2000
 ls : ∀ x ∈ t.list, x.size ≤ 2000
 rs : ∀ x ∈ t.ranks, x.name.size ≤ 2000
structure Sized (t : Thing) : Prop where
 text : t.text.size < 1000000000000000000
 ps : ∀ x ∈ t.pairs, x.name.size < 1000000000000000000 ∧ x.text.size < 1000000000000000000
 ls : ∀ x ∈ t.list, x.size < 1000000000000000000
 rs : ∀ x ∈ t.ranks, x.name.size < 1000000000000000000
theorem Small.lens {t : Thing} (s : Small t) : Lens t := ⟨by have := s.p; omega, by have := s.l; omega, by have := s.r; omega⟩
def noText : ByteArray := ⟨#[]⟩
def kOK (t : Thing) : Bool :=
 if t.hasU = false ∧ t.unt ≠ 0 then false else
 if t.kind = 1 then decide (t.pairs.length + t.list.length + t.ranks.length = 0) else
 if t.kind = 2 then decide (0 < t.pairs.length) && (decide (t.list.length + t.ranks.length = 0) && (decide (t.text = noText) && rising (fun x y => sless x.name y.name) t.pairs)) else
 if t.kind = 3 then decide (0 < t.list.length) && (decide (t.pairs.length + t.ranks.length = 0) && decide (t.text = noText)) else
 if t.kind = 4 then decide (0 < t.list.length) && (decide (t.pairs.length + t.ranks.length = 0) && (decide (t.text = noText) && rising sless t.list)) else
 if t.kind = 5 then decide (0 < t.ranks.length) && (decide (t.pairs.length + t.list.length = 0) && (decide (t.text = noText) && (rising aheadR t.ranks && onceR t.ranks))) else false
theorem small_short {t : Thing} (s : Small t) : shortL [t.text] = true ∧ shortL t.list = true ∧ shortL (namesT t) = true ∧ countT t ≤ 65536 := by
 have := s.text
 have hp := s.p; have hl := s.l; have hr := s.r
 refine ⟨by rw [shortL_iff]; intro x hx; simp at hx; rw [hx]; omega, by rw [shortL_iff]; intro x hx; have := s.ls x hx; omega, ?_, by unfold countT; omega⟩
 rw [shortL_iff]
 intro x hx
 simp only [namesT, List.mem_append, List.mem_flatMap, List.mem_map] at hx
 rcases hx with ⟨p, hp, hx⟩ | ⟨r, hr, rfl⟩
 ·have := s.ps p hp
  simp at hx
  rcases hx with rfl | rfl <;> omega
 ·have := s.rs r hr; omega
theorem namesT_len {t : Thing} (s : Small t) : (namesT t).length < 4611686018427387904 := by
 have hp := s.p; have hr := s.r
 unfold namesT
 have : ∀ l : List Pair, (l.flatMap fun p => [p.name, p.text]).length = 2 * l.length := by
  intro l
  induction l with
  |nil => rfl
  |cons x l ih => simp at ih ⊢; omega
 rw [List.length_append, this, List.length_map]; omega
theorem KCheck_tail {h h0 : Heap} {b1 : Nat} {vs : List Value} {t : Thing} (s : Small t) (hc : Chg [] h0 h) (B1 : Blk h b1 vs) (x : TH h vs t) (hu : ¬ (t.hasU = false ∧ t.unt ≠ 0)) :
  swp Tryz.prog (.seq (.seq (.ops f35r4) (.block 0 (.seq (.ops f35r5) (.cond (.tmp 49) (.seq (.ops f35r6) .ret) (.seq (.ops f35r7) (.cond (.tmp 57) (.seq (.ops f35r8) .ret) (.seq (.ops f35r9) (.cond (.tmp 77) (.seq (.ops f35r10) .ret) (.seq (.ops f35r11) (.cond (.tmp 92) (.seq (.ops f35r12) .ret) (.seq (.ops f35r13) (.cond (.tmp 112) (.seq (.ops f35r14) .ret) .skip)))))))))))) (.seq (.ops f35r15) .ret))
   (retQ [.t 2] (Ret fun r h' => r = .bool (kOK t) ∧ Chg [] h0 h')) (mk [(1, .pointer (some ⟨b1, 0, none⟩)), (2, .bool false), (3, .int .i64 t.pairs.length), (4, .int .i64 t.list.length), (5, .int .i64 t.ranks.length)]) [] h := by
 have sp := s.p; have sl := s.l; have sr := s.r
 obtain ⟨pv, lv, rv, rfl, hp, hl, hr⟩ := x
 have e0 : kOK t = if t.kind = 1 then decide (t.pairs.length + t.list.length + t.ranks.length = 0) else
   if t.kind = 2 then decide (0 < t.pairs.length) && (decide (t.list.length + t.ranks.length = 0) && (decide (t.text = noText) && rising (fun x y => sless x.name y.name) t.pairs)) else
   if t.kind = 3 then decide (0 < t.list.length) && (decide (t.pairs.length + t.ranks.length = 0) && decide (t.text = noText)) else
   if t.kind = 4 then decide (0 < t.list.length) && (decide (t.pairs.length + t.ranks.length = 0) && (decide (t.text = noText) && rising sless t.list)) else
   if t.kind = 5 then decide (0 < t.ranks.length) && (decide (t.pairs.length + t.list.length = 0) && (decide (t.text = noText) && (rising aheadR t.ranks && onceR t.ranks))) else false := by
  unfold kOK; rw [if_neg hu]
 rw [e0]
 refine Ei _ (Ai (cell_blk B1 rfl) ?_)
 refine Ai rfl (Ai (fun k1 => ?_) (fun k1 => ?_))
 ·rw [if_pos k1]
  refine Ai rfl (fun z hz => ?_)
  have hz := add_in hz (by omega) (by omega)
  refine Ai rfl (fun y hy => ?_)
  have hy := add_in hy (by omega) (by omega)
  refine Ai rfl (Ai (fun he => ?_) (fun he => ?_))
  ·exact Ai (by rw [decide_eq_true (by omega)]; rfl) hc
  ·exact Ai (by rw [decide_eq_false (by omega)]; rfl) hc
 rw [if_neg k1]
 refine Ai rfl (Ai (fun k2 => ?_) (fun k2 => ?_))
 ·rw [if_pos k2]
  refine Ai rfl (Ai (fun g1 => ?_) (fun g1 => ?_))
  rotate_left
  ·exact Ai (by rw [decide_eq_false (by omega)]; rfl) hc
  rw [decide_eq_true (show 0 < t.pairs.length by omega), Bool.true_and]
  refine Ai rfl (fun z hz => ?_)
  have hz := add_in hz (by omega) (by omega)
  refine Ai rfl (Ai (fun g2 => ?_) (fun g2 => ?_))
  rotate_left
  ·exact Ai (by rw [decide_eq_false (by omega)]; rfl) hc
  rw [decide_eq_true (show t.list.length + t.ranks.length = 0 by omega), Bool.true_and]
  refine Ei _ (Ai (cell_blk B1 rfl) ?_)
  refine Ai (fun g3 => ?_) (fun g3 => ?_)
  rotate_left
  ·exact Ai (by rw [decide_eq_false (show ¬ t.text = noText from g3)]; rfl) hc
  rw [decide_eq_true (show t.text = noText from g3), Bool.true_and]
  refine Ei _ (Ai (cell_blk B1 rfl) ?_)
  refine call_ret (risP_calls hp (by omega) chk1_ord) ?_
  rintro _ h2 ⟨rfl, hc2⟩
  exact Ai rfl (hc.nil hc2)
 rw [if_neg k2]
 refine Ai rfl (Ai (fun k3 => ?_) (fun k3 => ?_))
 ·rw [if_pos k3]
  refine Ai rfl (Ai (fun g1 => ?_) (fun g1 => ?_))
  rotate_left
  ·exact Ai (by rw [decide_eq_false (by omega)]; rfl) hc
  rw [decide_eq_true (show 0 < t.list.length by omega), Bool.true_and]
  refine Ai rfl (fun z hz => ?_)
  have hz := add_in hz (by omega) (by omega)
  refine Ai rfl (Ai (fun g2 => ?_) (fun g2 => ?_))
  rotate_left
  ·exact Ai (by rw [decide_eq_false (by omega)]; rfl) hc
  rw [decide_eq_true (show t.pairs.length + t.ranks.length = 0 by omega), Bool.true_and]
  refine Ei _ (Ai (cell_blk B1 rfl) ?_)
  refine Ai (fun g3 => ?_) (fun g3 => ?_)
  ·exact Ai (by rw [decide_eq_true (show t.text = noText from g3)]; rfl) hc
  ·exact Ai (by rw [decide_eq_false (show ¬ t.text = noText from g3)]; rfl) hc
 rw [if_neg k3]
 refine Ai rfl (Ai (fun k4 => ?_) (fun k4 => ?_))
 ·rw [if_pos k4]
  refine Ai rfl (Ai (fun g1 => ?_) (fun g1 => ?_))
  rotate_left
  ·exact Ai (by rw [decide_eq_false (by omega)]; rfl) hc
  rw [decide_eq_true (show 0 < t.list.length by omega), Bool.true_and]
  refine Ai rfl (fun z hz => ?_)
  have hz := add_in hz (by omega) (by omega)
  refine Ai rfl (Ai (fun g2 => ?_) (fun g2 => ?_))
  rotate_left
  ·exact Ai (by rw [decide_eq_false (by omega)]; rfl) hc
  rw [decide_eq_true (show t.pairs.length + t.ranks.length = 0 by omega), Bool.true_and]
  refine Ei _ (Ai (cell_blk B1 rfl) ?_)
  refine Ai (fun g3 => ?_) (fun g3 => ?_)
  rotate_left
  ·exact Ai (by rw [decide_eq_false (show ¬ t.text = noText from g3)]; rfl) hc
  rw [decide_eq_true (show t.text = noText from g3), Bool.true_and]
  refine Ei _ (Ai (cell_blk B1 rfl) ?_)
  refine call_ret (risS_calls hl (by omega) cmpS_ord) ?_
  rintro _ h2 ⟨rfl, hc2⟩
  exact Ai rfl (hc.nil hc2)
 rw [if_neg k4]
 refine Ai rfl (Ai (fun k5 => ?_) (fun k5 => ?_))
 ·rw [if_pos k5]
  refine Ai rfl (Ai (fun g1 => ?_) (fun g1 => ?_))
  rotate_left
  ·exact Ai (by rw [decide_eq_false (by omega)]; rfl) hc
  rw [decide_eq_true (show 0 < t.ranks.length by omega), Bool.true_and]
  refine Ai rfl (fun z hz => ?_)
  have hz := add_in hz (by omega) (by omega)
  refine Ai rfl (Ai (fun g2 => ?_) (fun g2 => ?_))
  rotate_left
  ·exact Ai (by rw [decide_eq_false (by omega)]; rfl) hc
  rw [decide_eq_true (show t.pairs.length + t.list.length = 0 by omega), Bool.true_and]
  refine Ei _ (Ai (cell_blk B1 rfl) ?_)
  refine Ai (fun g3 => ?_) (fun g3 => ?_)
  rotate_left
  ·exact Ai (by rw [decide_eq_false (show ¬ t.text = noText from g3)]; rfl) hc
  rw [decide_eq_true (show t.text = noText from g3), Bool.true_and]
  refine Ei _ (Ai (cell_blk B1 rfl) ?_)
  refine call_ret (risR_calls hr (by omega) ahead_ord) ?_
  rintro r2 h2 ⟨hr2, hc2⟩
  cases hris : rising aheadR t.ranks with
  |false =>
   rw [hris] at hr2
   subst hr2
   exact Ai rfl (hc.nil hc2)
  |true =>
   rw [hris] at hr2
   subst hr2
   have B2 := B1.chg hc2 (by simp)
   refine Ei _ (Ai (cell_blk B2 rfl) ?_)
   refine call_ret (once_calls (hr.ext hc2) (by omega)) ?_
   rintro _ h3 ⟨rfl, hc3⟩
   exact Ai rfl ((hc.nil hc2).nil hc3)
 rw [if_neg k5]
 exact Ai rfl hc
theorem KCheck_calls {h : Heap} {vs : List Value} {t : Thing} (x : TH h vs t) (s : Small t) :
  CallsH Tryz.prog 35 [.agg ⟨vs⟩] h (Ret fun r h' => r = .bool (kOK t) ∧ Chg [] h h') := by
 have sp := s.p; have sl := s.l; have sr := s.r
 obtain ⟨q1, q2, q3, q4⟩ := small_short s
 refine f35_calls (by simp) ?_
 intro b1 h1 g1
 have B1 : Blk h1 b1 vs := g1.blk
 have hc1 := g1.chg
 have x1 := x.ext hc1
 have x1' := x1
 obtain ⟨pv, lv, rv, rfl, hp, hl, hr⟩ := x1
 obtain ⟨pa, pc, rfl, _⟩ := hp.form
 obtain ⟨la, lc, rfl, _⟩ := hl.form
 obtain ⟨ra, rc, rfl, _⟩ := hr.form
 have fin : ∀ h2, Chg [] h1 h2 → ¬ (t.hasU = false ∧ t.unt ≠ 0) → Chg [] h h2 ∧ TH h2 [.int .i64 t.kind, .string t.text, .slice pa t.pairs.length pc, .slice la t.list.length lc, .slice ra t.ranks.length rc, .bool t.hasU, .int .i64 t.unt] t :=
  fun h2 hc2 _ => ⟨hc1.nil hc2, x1'.ext hc2⟩
 refine Ei _ (Ai (cell_blk B1 rfl) ?_)
 have bU : Blk h1 b1 [.int .i64 t.kind, .string t.text, .slice pa t.pairs.length pc, .slice la t.list.length lc, .slice ra t.ranks.length rc, .bool t.hasU, .int .i64 t.unt] := B1
 cases hU : t.hasU with
 |false =>
  refine Ei _ (Ai (cell_blk B1 rfl) ?_)
  refine Ai rfl (Ai (fun u0 => ?_) (fun u0 => ?_))
  ·exact Ai (by unfold kOK; rw [if_pos ⟨hU, u0⟩]; rfl) hc1
  have hu : ¬ (t.hasU = false ∧ t.unt ≠ 0) := fun h => u0 h.2
  refine Ei _ (Ai rfl (Ai (cells_blk bU) ?_))
  refine call_ret (count_calls x1' s.lens) ?_
  rintro _ h2 ⟨rfl, hc2⟩
  refine Ai rfl (Ai (fun big => absurd big (by omega)) (fun _ => ?_))
  have B2 := bU.chg hc2 (by simp)
  refine Ei _ (Ai (cell_blk B2 rfl) ?_)
  intro b3 h3 g3
  refine call_ret (short_calls (SL.one encS_len (x := t.text) g3.blk) (by simp)) ?_
  rintro r3 _ ⟨hr3, rfl⟩
  rw [q1] at hr3
  subst hr3
  have hc3 := hc2.nil g3.chg
  have B3 := bU.chg hc3 (by simp)
  refine Ei _ (Ai (cell_blk B3 rfl) ?_)
  refine call_ret (short_calls (hl.ext hc3) (by omega)) ?_
  rintro r4 _ ⟨hr4, rfl⟩
  rw [q2] at hr4
  subst hr4
  refine Ei _ (Ai rfl (Ai (cells_blk B3) ?_))
  refine call_ret (names_calls (x1'.ext hc3) s.lens) ?_
  rintro nv h5 ⟨ho5, hc5⟩
  refine call_ret (short_calls ho5.sl (namesT_len s)) ?_
  rintro r6 _ ⟨hr6, rfl⟩
  rw [q3] at hr6
  subst hr6
  have hc6 := hc3.nil hc5
  have B6 := bU.chg hc6 (by simp)
  refine Ei _ (Ai (cell_blk B6 rfl) (Ei _ (Ai (cell_blk B6 rfl) (Ei _ (Ai (cell_blk B6 rfl) ?_)))))
  exact cut_at [(1, .pointer (some ⟨b1, 0, none⟩)), (2, .bool false), (3, .int .i64 t.pairs.length), (4, .int .i64 t.list.length), (5, .int .i64 t.ranks.length)] ⟨rfl, rfl, rfl, rfl, rfl, trivial⟩ (KCheck_tail s (hc1.nil hc6) B6 (x1'.ext hc6) hu)
 |true =>
  have hu : ¬ (t.hasU = false ∧ t.unt ≠ 0) := fun h => by rw [hU] at h; cases h.1
  refine Ei _ (Ai rfl (Ai (cells_blk bU) ?_))
  refine call_ret (count_calls x1' s.lens) ?_
  rintro _ h2 ⟨rfl, hc2⟩
  refine Ai rfl (Ai (fun big => absurd big (by omega)) (fun _ => ?_))
  have B2 := bU.chg hc2 (by simp)
  refine Ei _ (Ai (cell_blk B2 rfl) ?_)
  intro b3 h3 g3
  refine call_ret (short_calls (SL.one encS_len (x := t.text) g3.blk) (by simp)) ?_
  rintro r3 _ ⟨hr3, rfl⟩
  rw [q1] at hr3
  subst hr3
  have hc3 := hc2.nil g3.chg
  have B3 := bU.chg hc3 (by simp)
  refine Ei _ (Ai (cell_blk B3 rfl) ?_)
  refine call_ret (short_calls (hl.ext hc3) (by omega)) ?_
  rintro r4 _ ⟨hr4, rfl⟩
  rw [q2] at hr4
  subst hr4
  refine Ei _ (Ai rfl (Ai (cells_blk B3) ?_))
  refine call_ret (names_calls (x1'.ext hc3) s.lens) ?_
  rintro nv h5 ⟨ho5, hc5⟩
  refine call_ret (short_calls ho5.sl (namesT_len s)) ?_
  rintro r6 _ ⟨hr6, rfl⟩
  rw [q3] at hr6
  subst hr6
  have hc6 := hc3.nil hc5
  have B6 := bU.chg hc6 (by simp)
  refine Ei _ (Ai (cell_blk B6 rfl) (Ei _ (Ai (cell_blk B6 rfl) (Ei _ (Ai (cell_blk B6 rfl) ?_)))))
  exact cut_at [(1, .pointer (some ⟨b1, 0, none⟩)), (2, .bool false), (3, .int .i64 t.pairs.length), (4, .int .i64 t.list.length), (5, .int .i64 t.ranks.length)] ⟨rfl, rfl, rfl, rfl, rfl, trivial⟩ (KCheck_tail s (hc1.nil hc6) B6 (x1'.ext hc6) hu)
theorem clP_calls {h : Heap} {v : Value} {l : List Pair} (hv : SL encP h v l) (hl : l.length ≤ 70000) :
  CallsH Tryz.prog 75 [v] h (Ret fun r h' => OL encP 2 h' r l ∧ (∀ b ∈ vblk r, h.size ≤ b) ∧ Chg [] h h') := by
 obtain ⟨a, c, rfl, hlc⟩ := hv.form
 refine f75_calls (by simp) ?_
 cases a with
 |none =>
  have h0 : l.length = 0 := by
   obtain ⟨a', c', he, _, h2⟩ := hv
   cases he
   exact h2
  have : l = [] := List.length_eq_zero_iff.1 h0
  subst this
  exact Ai OL.nil (Ai (fun b hb => absurd (show b ∈ ([] : List Nat) from hb) (by simp)) (Chg.refl h))
 |some a =>
  intro b1 h1 g1
  have own : OL encP 2 h1 (.slice (some ⟨b1, 0, none⟩) 0 0) [] := ⟨some ⟨b1, 0, none⟩, 0, rfl, rfl, Nat.zero_le _, [], g1.blk, by simp⟩
  refine app_own encP_len encP_one rfl own (hv.ext g1.chg) (by simp; omega) ?_
  intro v' h2 ho2 hc2 hb2
  have i1 := g1.id
  refine Ai ho2 (Ai (fun b hb => ?_) (g1.chg.fresh hc2 (by simp [ablk]; omega)))
  rcases hb2 b hb with h | h
  ·simp [ablk] at h; omega
  ·have := g1.size; omega
theorem clS_calls {h : Heap} {v : Value} {l : List ByteArray} (hv : SL encS h v l) (hl : l.length ≤ 70000) :
  CallsH Tryz.prog 76 [v] h (Ret fun r h' => OL encS 1 h' r l ∧ (∀ b ∈ vblk r, h.size ≤ b) ∧ Chg [] h h') := by
 obtain ⟨a, c, rfl, hlc⟩ := hv.form
 refine f76_calls (by simp) ?_
 cases a with
 |none =>
  have h0 : l.length = 0 := by
   obtain ⟨a', c', he, _, h2⟩ := hv
   cases he
   exact h2
  have : l = [] := List.length_eq_zero_iff.1 h0
  subst this
  exact Ai OL.nil (Ai (fun b hb => absurd (show b ∈ ([] : List Nat) from hb) (by simp)) (Chg.refl h))
 |some a =>
  intro b1 h1 g1
  have own : OL encS 1 h1 (.slice (some ⟨b1, 0, none⟩) 0 0) [] := ⟨some ⟨b1, 0, none⟩, 0, rfl, rfl, Nat.zero_le _, [], g1.blk, by simp⟩
  refine app_own encS_len encS_one rfl own (hv.ext g1.chg) (by simp; omega) ?_
  intro v' h2 ho2 hc2 hb2
  have i1 := g1.id
  refine Ai ho2 (Ai (fun b hb => ?_) (g1.chg.fresh hc2 (by simp [ablk]; omega)))
  rcases hb2 b hb with h | h
  ·simp [ablk] at h; omega
  ·have := g1.size; omega
theorem clR_calls {h : Heap} {v : Value} {l : List Rank} (hv : SL encR h v l) (hl : l.length ≤ 70000) :
  CallsH Tryz.prog 77 [v] h (Ret fun r h' => OL encR 2 h' r l ∧ (∀ b ∈ vblk r, h.size ≤ b) ∧ Chg [] h h') := by
 obtain ⟨a, c, rfl, hlc⟩ := hv.form
 refine f77_calls (by simp) ?_
 cases a with
 |none =>
  have h0 : l.length = 0 := by
   obtain ⟨a', c', he, _, h2⟩ := hv
   cases he
   exact h2
  have : l = [] := List.length_eq_zero_iff.1 h0
  subst this
  exact Ai OL.nil (Ai (fun b hb => absurd (show b ∈ ([] : List Nat) from hb) (by simp)) (Chg.refl h))
 |some a =>
  intro b1 h1 g1
  have own : OL encR 2 h1 (.slice (some ⟨b1, 0, none⟩) 0 0) [] := ⟨some ⟨b1, 0, none⟩, 0, rfl, rfl, Nat.zero_le _, [], g1.blk, by simp⟩
  refine app_own encR_len encR_one rfl own (hv.ext g1.chg) (by simp; omega) ?_
  intro v' h2 ho2 hc2 hb2
  have i1 := g1.id
  refine Ai ho2 (Ai (fun b hb => ?_) (g1.chg.fresh hc2 (by simp [ablk]; omega)))
  rcases hb2 b hb with h | h
  ·simp [ablk] at h; omega
  ·have := g1.size; omega
def zeroT : Thing := ⟨0, noText, [], [], [], false, 0⟩
def zeroV : List Value := [.int .i64 0, .string ⟨#[]⟩, .slice none 0 0, .slice none 0 0, .slice none 0 0, .bool false, .int .i64 0]
theorem zero_TH {h : Heap} : TH h zeroV zeroT := ⟨_, _, _, rfl, SL.nil, SL.nil, SL.nil⟩
theorem thing_one {vs : List Value} {t : Thing} {h : Heap} (x : TH h vs t) : ∀ u ∈ vs, u.oneCell' = true := by
 obtain ⟨pv, lv, rv, rfl, hp, hl, hr⟩ := x
 obtain ⟨pa, pc, rfl, _⟩ := hp.form
 obtain ⟨la, lc, rfl, _⟩ := hl.form
 obtain ⟨ra, rc, rfl, _⟩ := hr.form
 intro u hu
 simp at hu
 rcases hu with rfl | rfl | rfl | rfl | rfl | rfl | rfl <;> rfl
def cellsT (t : Thing) (pv lv rv : Value) : List Value := [.int .i64 t.kind, .string t.text, pv, lv, rv, .bool t.hasU, .int .i64 t.unt]
def bl3 (pv lv rv : Value) : List Nat := vblk pv ++ (vblk lv ++ vblk rv)
structure TO (h : Heap) (pv lv rv : Value) (t : Thing) : Prop where
 p : OL encP 2 h pv t.pairs
 l : OL encS 1 h lv t.list
 r : OL encR 2 h rv t.ranks
 pl : ∀ b ∈ vblk pv, b ∉ vblk lv
 pr : ∀ b ∈ vblk pv, b ∉ vblk rv
 lr : ∀ b ∈ vblk lv, b ∉ vblk rv
theorem TO.chg {S : List Nat} {h h' : Heap} {pv lv rv : Value} {t : Thing} (o : TO h pv lv rv t) (c : Chg S h h') (hn : ∀ b ∈ bl3 pv lv rv, b ∉ S) : TO h' pv lv rv t :=
 ⟨o.p.chg c fun b hb => hn b (by simp [bl3, hb]), o.l.chg c fun b hb => hn b (by simp [bl3, hb]), o.r.chg c fun b hb => hn b (by simp [bl3, hb]), o.pl, o.pr, o.lr⟩
theorem TO.ext {h h' : Heap} {pv lv rv : Value} {t : Thing} (o : TO h pv lv rv t) (c : Chg [] h h') : TO h' pv lv rv t := o.chg c (by simp)
theorem TO.th {h : Heap} {pv lv rv : Value} {t : Thing} (o : TO h pv lv rv t) : TH h (cellsT t pv lv rv) t := ⟨pv, lv, rv, rfl, o.p.sl, o.l.sl, o.r.sl⟩
theorem bl3_cells {t : Thing} {pv lv rv v : Value} {b : Nat} (hv : v ∈ cellsT t pv lv rv) (hb : b ∈ vblk v) : b ∈ bl3 pv lv rv := by
 simp only [cellsT, List.mem_cons, List.not_mem_nil, or_false] at hv
 rcases hv with rfl | rfl | rfl | rfl | rfl | rfl | rfl
 ·exact absurd (show b ∈ ([] : List Nat) from hb) (by simp)
 ·exact absurd (show b ∈ ([] : List Nat) from hb) (by simp)
 ·simp [bl3, hb]
 ·simp [bl3, hb]
 ·simp [bl3, hb]
 ·exact absurd (show b ∈ ([] : List Nat) from hb) (by simp)
 ·exact absurd (show b ∈ ([] : List Nat) from hb) (by simp)
theorem copied_own {h : Heap} {vs : List Value} {t : Thing} (x : TH h vs t) (n : Lens t) :
  CallsH Tryz.prog 36 [.agg ⟨vs⟩] h (Ret fun r h' => (∃ pv lv rv, r = .agg ⟨cellsT t pv lv rv⟩ ∧ TO h' pv lv rv t ∧ ∀ b ∈ bl3 pv lv rv, h.size ≤ b) ∧ Chg [] h h') := by
 refine f36_calls (by simp) ?_
 intro b1 h1 g1
 intro b2 h2 g2
 have B1 : Blk h2 b1 vs := (show Blk h1 b1 vs from g1.blk).chg g2.chg (by simp)
 have hc2 := g1.chg.nil g2.chg
 have i1 := g1.id
 have i2 := g2.id
 have z1 := g1.size
 obtain ⟨pv, lv, rv, rfl, hp, hl, hr⟩ := x.ext hc2
 obtain ⟨pa, pc, rfl, _⟩ := hp.form
 obtain ⟨la, lc, rfl, _⟩ := hl.form
 obtain ⟨ra, rc, rfl, _⟩ := hr.form
 refine Ei _ (Ai (cell_blk B1 rfl) (Ei _ (Ai (cell_blk B1 rfl) (Ei _ (Ai (cell_blk B1 rfl) ?_)))))
 refine callq_ret (clP_calls hp n.p) ?_
 rintro r3 h3 ⟨hp3, hb3, hc3⟩
 refine Ai hc3.ext ?_
 refine callq_ret (clS_calls (hl.ext hc3) n.l) ?_
 rintro r4 h4 ⟨hl4, hb4, hc4⟩
 refine Ai hc4.ext ?_
 refine callq_ret (clR_calls ((hr.ext hc3).ext hc4) n.r) ?_
 rintro r5 h5 ⟨hr5, hb5, hc5⟩
 refine Ai hc5.ext ?_
 have hc35 := (hc3.nil hc4).nil hc5
 have B5 := B1.chg hc35 (by simp)
 have lp3 := hp3.lt
 have ll4 := hl4.lt
 have s3 := hc3.size
 have s4 := hc4.size
 have s5 := hc5.size
 have s2 := hc2.size
 have hz2 := g2.size
 have o5 : TO h5 r3 r4 r5 t := ⟨(hp3.ext hc4).ext hc5, hl4.ext hc5, hr5, fun b hb hx => by have := lp3 b hb; have := hb4 b hx; omega, fun b hb hx => by have := lp3 b hb; have := hb5 b hx; omega, fun b hb hx => by have := ll4 b hb; have := hb5 b hx; omega⟩
 have fr : ∀ b ∈ bl3 r3 r4 r5, h2.size ≤ b := by
  intro b hb
  simp only [bl3, List.mem_append] at hb
  rcases hb with hb | hb | hb
  ·exact hb3 b hb
  ·have := hb4 b hb; omega
  ·have := hb5 b hb; omega
 obtain ⟨qa, qc, rfl, _⟩ := hp3.sl.form
 obtain ⟨ma, mc, rfl, _⟩ := hl4.sl.form
 obtain ⟨sa, sc, rfl, _⟩ := hr5.sl.form
 refine Ei _ (Ai B5 (Ai (by simp) (Ai rfl (Ai (ones1 rfl) ?_))))
 intro h6 p6
 have B6 : Blk h6 b1 (cellsT t (.slice qa t.pairs.length qc) (.slice la t.list.length lc) (.slice ra t.ranks.length rc)) := p6.blk
 refine Ei _ (Ai B6 (Ai (by simp [cellsT]) (Ai rfl (Ai (ones1 rfl) ?_))))
 intro h7 p7
 have B7 : Blk h7 b1 (cellsT t (.slice qa t.pairs.length qc) (.slice ma t.list.length mc) (.slice ra t.ranks.length rc)) := p7.blk
 refine Ei _ (Ai B7 (Ai (by simp [cellsT]) (Ai rfl (Ai (ones1 rfl) ?_))))
 intro h8 p8
 have B8 : Blk h8 b1 (cellsT t (.slice qa t.pairs.length qc) (.slice ma t.list.length mc) (.slice sa t.ranks.length sc)) := p8.blk
 have c58 : Chg [b1] h5 h8 := (p6.chg.trans p7.chg (U := [b1]) (fun _ h => h) (fun _ h _ => h)).trans p8.chg (fun _ h => h) (fun _ h _ => h)
 have o8 := o5.chg c58 (fun b hb => by have := fr b hb; simp; omega)
 refine Ei _ (Ai rfl (Ai (cells_blk B8) ?_))
 have Bz : Blk h8 b2 zeroV := ((show Blk h2 b2 zeroV from g2.blk).chg hc35 (by simp)).chg c58 (by simp; omega)
 refine Ei _ (Ai Bz (Ai (by decide) (Ai rfl (Ai (thing_one o8.th) ?_))))
 intro h9 p9
 have B9 : Blk h9 b2 (cellsT t (.slice qa t.pairs.length qc) (.slice ma t.list.length mc) (.slice sa t.ranks.length sc)) := p9.blk
 have hc29 : Chg [] h h9 := ((hc2.nil hc35).fresh c58 (by simp; omega)).fresh p9.chg (by simp; omega)
 refine Ei _ (Ai rfl (Ai (cells_blk B9) ?_))
 exact Ai (Ei _ (Ei _ (Ei _ (Ai rfl (Ai (o8.chg p9.chg (fun b hb => by have := fr b hb; simp; omega)) (fun b hb => by have := fr b hb; omega)))))) hc29
theorem copied_calls {h : Heap} {vs : List Value} {t : Thing} (x : TH h vs t) (n : Lens t) :
  CallsH Tryz.prog 36 [.agg ⟨vs⟩] h (Ret fun r h' => (∃ us, r = .agg ⟨us⟩ ∧ TH h' us t ∧ ∀ v ∈ us, ∀ b ∈ vblk v, h.size ≤ b) ∧ Chg [] h h') := by
 refine (copied_own x n).mono fun e h' he => ?_
 cases e with
 |returned v =>
  obtain ⟨⟨pv, lv, rv, hv, o, fr⟩, c⟩ := he
  exact ⟨⟨_, hv, o.th, fun v hv b hb => fr b (bl3_cells hv hb)⟩, c⟩
 |panicked ch => exact he.elim
 |outgrown => exact he.elim
theorem gone_calls {h : Heap} {vs : List Value} {t : Thing} (x : TH h vs t) (now : Int) :
  CallsH Tryz.prog 112 [.agg ⟨vs⟩, .int .i64 now] h (Ret fun r h' => r = .bool (t.hasU && decide (t.unt ≤ now)) ∧ Chg [] h h') := by
 refine f112_calls (by simp) ?_
 intro b1 h1 g1
 have B1 : Blk h1 b1 vs := g1.blk
 obtain ⟨pv, lv, rv, rfl, hp, hl, hr⟩ := x
 refine Ei _ (Ai (cell_blk B1 rfl) ?_)
 cases hU : t.hasU with
 |false => exact Ai rfl g1.chg
 |true =>
  refine Ei _ (Ai (cell_blk B1 rfl) ?_)
  refine Ai rfl (Ai (fun hl => ?_) (fun hl => ?_))
  ·exact Ai (by rw [decide_eq_true hl]; rfl) g1.chg
  ·exact Ai (by rw [decide_eq_false hl]; rfl) g1.chg
def ptr (b : Nat) : Value := .pointer (some ⟨b, 0, none⟩)
structure KS (h : Heap) (kb sb mb : Nat) : Prop where
 k : Blk h kb [ptr sb]
 s : Blk h sb [.map (some mb)]
theorem KS.chg {S : List Nat} {h h' : Heap} {kb sb mb : Nat} (x : KS h kb sb mb) (hc : Chg S h h') (h1 : kb ∉ S) (h2 : sb ∉ S) : KS h' kb sb mb := ⟨x.k.chg hc h1, x.s.chg hc h2⟩
theorem none_calls {h : Heap} {kb sb mb : Nat} (x : KS h kb sb mb) : CallsH Tryz.prog 42 [ptr kb] h (Ret fun r h' => r = .bool false ∧ h' = h) := by
 refine f42_calls (by simp) ?_
 refine Ei _ (Ai (cell_blk x.k rfl) ?_)
 exact ⟨rfl, rfl⟩
theorem New_calls {h : Heap} : CallsH Tryz.prog 16 [] h (Ret fun r h' => ∃ kb sb mb, r = ptr kb ∧ KS h' kb sb mb ∧ MapB h' mb [] 0 ∧ mb = h.size ∧ sb = h.size + 1 ∧ kb = h.size + 2 ∧ Chg [] h h') := by
 refine f16_calls (by simp) ?_
 intro mb h1 g1
 intro sb h2 g2
 intro kb h3 g3
 have i1 := g1.id
 have i2 := g2.id
 have i3 := g3.id
 have z1 := g1.size
 have z2 := g2.size
 refine Ei kb (Ei sb (Ei mb (Ai rfl (Ai ⟨g3.blk, (show Blk h2 sb _ from g2.blk).chg g3.chg (by simp)⟩ (Ai ?_ (Ai i1 (Ai (by omega) (Ai (by omega) ?_))))))))
 ·exact MapB.chg (MapB.chg (show MapB h1 mb [] 0 from g1.blk) g2.chg (by simp)) g3.chg (by simp)
 ·exact (g1.chg.nil g2.chg).nil g3.chg
def entsI : List (Int × Value) → Nat → List MapEntry
 |[], _ => []
 |(k, v) :: r, n => { key := .int .i64 k, val := v, born := n } :: entsI r (n + 1)
theorem entsI_fits : ∀ (l : List (Int × Value)) (n : Nat), ∀ e ∈ entsI l n, fits (.int .i64) e.key = true
 |[], _, e, h => by simp [entsI] at h
 |(k, v) :: r, n, e, h => by
  rcases List.mem_cons.1 h with rfl | h
  ·rfl
  ·exact entsI_fits r (n + 1) e h
theorem same_int (a b : Int) : Instr.sameBits 10000 (.int .i64 a) (.int .i64 b) = decide (a = b) := by
 simp [Instr.sameBits]
 by_cases h : a = b <;> simp [h]
theorem mfind_entsI (k : Int) : ∀ (l : List (Int × Value)) (n i : Nat), (∀ x ∈ l, x.1 ≠ k) → mfind (.int .i64 k) (entsI l n) i = none
 |[], _, _, _ => rfl
 |(k', v) :: r, n, i, h => by
  have hk : k' ≠ k := h (k', v) (by simp)
  simp only [entsI, mfind, same_int]
  rw [decide_eq_false (fun e => hk e.symm)]
  exact mfind_entsI k r (n + 1) (i + 1) fun x hx => h x (by simp [hx])
def ruleV (name text number : Bool) (kind : Int) (makes : Bool) (f : Nat) : Value := .agg ⟨[.bool name, .bool text, .bool number, .int .i64 kind, .bool makes, .func (.func f) #[] #[]]⟩
def ruleL : List (Int × Value) := [
 (1, ruleV false false false 0 false 185), (2, ruleV false true false 0 true 186), (3, ruleV false false true 0 false 187), (4, ruleV false false false 0 false 188),
 (5, ruleV true true false 2 true 189), (6, ruleV true false false 2 false 190), (7, ruleV false true false 3 true 191), (8, ruleV false true false 3 true 193),
 (9, ruleV false false false 3 false 194), (10, ruleV false false false 3 false 195), (11, ruleV false true true 3 false 196), (12, ruleV true false false 4 true 197),
 (13, ruleV true false false 4 false 198), (14, ruleV true false true 5 true 199), (15, ruleV true false false 5 false 200)]
theorem rules_calls {h : Heap} : CallsH Tryz.prog 109 [] h (Ret fun r h' => ∃ mb, r = .map (some mb) ∧ MapB h' mb (entsI ruleL 0) 15 ∧ h.size ≤ mb ∧ Chg [] h h') := by
 refine f109_calls (by simp) ?_
 intro mb h0 g0
 have i0 : h.size ≤ mb := by rw [g0.id]; exact Nat.le_refl _
 have c0 := g0.chg
 have m0 : MapB h0 mb (entsI (ruleL.take 0) 0) 0 := g0.blk
 refine Ai rfl (Ei (entsI (ruleL.take 0) 0) (Ei 0 (Ai m0 (Ai (entsI_fits _ _) ?_))))
 rw [mfind_entsI 1 (ruleL.take 0) 0 0 (by decide)]
 intro h1 p1
 have m1 : MapB h1 mb (entsI (ruleL.take 1) 0) 1 := p1.blk
 have c1 := c0.fresh p1.chg (by simp; exact i0)
 refine Ai rfl (Ei (entsI (ruleL.take 1) 0) (Ei 1 (Ai m1 (Ai (entsI_fits _ _) ?_))))
 rw [mfind_entsI 2 (ruleL.take 1) 0 0 (by decide)]
 intro h2 p2
 have m2 : MapB h2 mb (entsI (ruleL.take 2) 0) 2 := p2.blk
 have c2 := c1.fresh p2.chg (by simp; exact i0)
 refine Ai rfl (Ei (entsI (ruleL.take 2) 0) (Ei 2 (Ai m2 (Ai (entsI_fits _ _) ?_))))
 rw [mfind_entsI 3 (ruleL.take 2) 0 0 (by decide)]
 intro h3 p3
 have m3 : MapB h3 mb (entsI (ruleL.take 3) 0) 3 := p3.blk
 have c3 := c2.fresh p3.chg (by simp; exact i0)
 refine Ai rfl (Ei (entsI (ruleL.take 3) 0) (Ei 3 (Ai m3 (Ai (entsI_fits _ _) ?_))))
 rw [mfind_entsI 4 (ruleL.take 3) 0 0 (by decide)]
 intro h4 p4
 have m4 : MapB h4 mb (entsI (ruleL.take 4) 0) 4 := p4.blk
 have c4 := c3.fresh p4.chg (by simp; exact i0)
 refine Ai rfl (Ei (entsI (ruleL.take 4) 0) (Ei 4 (Ai m4 (Ai (entsI_fits _ _) ?_))))
 rw [mfind_entsI 5 (ruleL.take 4) 0 0 (by decide)]
 intro h5 p5
 have m5 : MapB h5 mb (entsI (ruleL.take 5) 0) 5 := p5.blk
 have c5 := c4.fresh p5.chg (by simp; exact i0)
 refine Ai rfl (Ei (entsI (ruleL.take 5) 0) (Ei 5 (Ai m5 (Ai (entsI_fits _ _) ?_))))
 rw [mfind_entsI 6 (ruleL.take 5) 0 0 (by decide)]
 intro h6 p6
 have m6 : MapB h6 mb (entsI (ruleL.take 6) 0) 6 := p6.blk
 have c6 := c5.fresh p6.chg (by simp; exact i0)
 refine Ai rfl (Ei (entsI (ruleL.take 6) 0) (Ei 6 (Ai m6 (Ai (entsI_fits _ _) ?_))))
 rw [mfind_entsI 7 (ruleL.take 6) 0 0 (by decide)]
 intro h7 p7
 have m7 : MapB h7 mb (entsI (ruleL.take 7) 0) 7 := p7.blk
 have c7 := c6.fresh p7.chg (by simp; exact i0)
 refine Ai rfl (Ei (entsI (ruleL.take 7) 0) (Ei 7 (Ai m7 (Ai (entsI_fits _ _) ?_))))
 rw [mfind_entsI 8 (ruleL.take 7) 0 0 (by decide)]
 intro h8 p8
 have m8 : MapB h8 mb (entsI (ruleL.take 8) 0) 8 := p8.blk
 have c8 := c7.fresh p8.chg (by simp; exact i0)
 refine Ai rfl (Ei (entsI (ruleL.take 8) 0) (Ei 8 (Ai m8 (Ai (entsI_fits _ _) ?_))))
 rw [mfind_entsI 9 (ruleL.take 8) 0 0 (by decide)]
 intro h9 p9
 have m9 : MapB h9 mb (entsI (ruleL.take 9) 0) 9 := p9.blk
 have c9 := c8.fresh p9.chg (by simp; exact i0)
 refine Ai rfl (Ei (entsI (ruleL.take 9) 0) (Ei 9 (Ai m9 (Ai (entsI_fits _ _) ?_))))
 rw [mfind_entsI 10 (ruleL.take 9) 0 0 (by decide)]
 intro h10 p10
 have m10 : MapB h10 mb (entsI (ruleL.take 10) 0) 10 := p10.blk
 have c10 := c9.fresh p10.chg (by simp; exact i0)
 refine Ai rfl (Ei (entsI (ruleL.take 10) 0) (Ei 10 (Ai m10 (Ai (entsI_fits _ _) ?_))))
 rw [mfind_entsI 11 (ruleL.take 10) 0 0 (by decide)]
 intro h11 p11
 have m11 : MapB h11 mb (entsI (ruleL.take 11) 0) 11 := p11.blk
 have c11 := c10.fresh p11.chg (by simp; exact i0)
 refine Ai rfl (Ei (entsI (ruleL.take 11) 0) (Ei 11 (Ai m11 (Ai (entsI_fits _ _) ?_))))
 rw [mfind_entsI 12 (ruleL.take 11) 0 0 (by decide)]
 intro h12 p12
 have m12 : MapB h12 mb (entsI (ruleL.take 12) 0) 12 := p12.blk
 have c12 := c11.fresh p12.chg (by simp; exact i0)
 refine Ai rfl (Ei (entsI (ruleL.take 12) 0) (Ei 12 (Ai m12 (Ai (entsI_fits _ _) ?_))))
 rw [mfind_entsI 13 (ruleL.take 12) 0 0 (by decide)]
 intro h13 p13
 have m13 : MapB h13 mb (entsI (ruleL.take 13) 0) 13 := p13.blk
 have c13 := c12.fresh p13.chg (by simp; exact i0)
 refine Ai rfl (Ei (entsI (ruleL.take 13) 0) (Ei 13 (Ai m13 (Ai (entsI_fits _ _) ?_))))
 rw [mfind_entsI 14 (ruleL.take 13) 0 0 (by decide)]
 intro h14 p14
 have m14 : MapB h14 mb (entsI (ruleL.take 14) 0) 14 := p14.blk
 have c14 := c13.fresh p14.chg (by simp; exact i0)
 refine Ai rfl (Ei (entsI (ruleL.take 14) 0) (Ei 14 (Ai m14 (Ai (entsI_fits _ _) ?_))))
 rw [mfind_entsI 15 (ruleL.take 14) 0 0 (by decide)]
 intro h15 p15
 have m15 : MapB h15 mb (entsI (ruleL.take 15) 0) 15 := p15.blk
 have c15 := c14.fresh p15.chg (by simp; exact i0)
 exact Ei mb (Ai rfl (Ai m15 (Ai i0 c15)))
theorem Look_none {h : Heap} {kb sb mb c : Nat} {es : List MapEntry} {key : ByteArray} (ks : KS h kb sb mb) (hm : MapB h mb es c) (hf : ∀ e ∈ es, fits .str e.key = true) (hn : mfind (.string key) es 0 = none) :
  CallsH Tryz.prog 110 [ptr kb, .string key] h (Ret fun r h' => r = .tuple #[.agg ⟨zeroV⟩, .bool false] ∧ Chg [] h h') := by
 refine f110_calls (by simp) ?_
 intro b4 h1 g1
 have hc := g1.chg
 have ks1 := ks.chg hc (by simp) (by simp)
 have hm1 : MapB h1 mb es c := hm.chg hc (by simp)
 refine call_ret (none_calls ks1) ?_
 rintro _ h9 ⟨rfl, e9⟩
 have e9 := e9.symm
 subst e9
 refine Ei _ (Ai (cell_blk ks1.k rfl) (Ei _ (Ai (cell_blk ks1.s rfl) ?_)))
 refine Ai rfl (Ei es (Ei c (Ai hm1 (Ai hf ?_))))
 rw [hn]
 refine Ei _ (Ai g1.blk (Ai (by decide) (Ai rfl (Ai (thing_one (t := zeroT) (h := h1) zero_TH) ?_))))
 intro h2 p2
 have g2 := g1.put p2
 have B2 : Blk h2 b4 zeroV := p2.blk
 refine Ei zeroV (Ai rfl (Ai (cells_blk B2) ?_))
 exact Ai rfl g2.chg
def textT (tx : ByteArray) : Thing := ⟨1, tx, [], [], [], false, 0⟩
def textV (tx : ByteArray) : List Value := [.int .i64 1, .string tx, .slice none 0 0, .slice none 0 0, .slice none 0 0, .bool false, .int .i64 0]
theorem text_TH {h : Heap} {tx : ByteArray} : TH h (textV tx) (textT tx) := ⟨_, _, _, rfl, SL.nil, SL.nil, SL.nil⟩
theorem seven {ws vs : List Value} (hw : ws.length = 7) (hv : vs.length = 7) : splice ws 0 vs = vs := by
 match ws, hw, vs, hv with
 |[_, _, _, _, _, _, _], _, [_, _, _, _, _, _, _], _ => rfl
end Go.Proofs.YtjnijlnmbjjgpaaGreatDoor
namespace Go.Sx
open Go
variable {α : Type} {enc : α → List Value} {size : Nat}
theorem Put.refl {h : Heap} {b : Nat} {l : List Value} (hb : Blk h b l) : Put h h b l := ⟨hb, rfl, fun _ _ => rfl, fun _ h => h⟩
theorem Put.trans {h h1 h2 : Heap} {b : Nat} {l l' : List Value} (p : Put h h1 b l) (q : Put h1 h2 b l') : Put h h2 b l' :=
 ⟨q.blk, by rw [q.size, p.size], fun k hk => by rw [q.old k hk, p.old k hk], fun t ht => q.ty t (p.ty t ht)⟩
theorem splice_at (A B C ys : List Value) (hl : ys.length = B.length) : splice (A ++ (B ++ C)) A.length ys = A ++ (ys ++ C) := by
 rw [splice_mid A (B ++ C) ys (by simp [hl])]
 rw [hl, List.drop_left]
theorem wr_at {h : Heap} {b o : Nat} (A B C : List Value) {ys : List Value} {K : Heap → Prop} (hb : Blk h b (A ++ (B ++ C))) (ho : o = A.length) (hl : ys.length = B.length) (h1 : ∀ u ∈ ys, u.oneCell' = true)
  (hk : ∀ h', Put h h' b (A ++ (ys ++ C)) → K h') : wrP h K (some ⟨b, o, none⟩) ys := by
 subst ho
 refine ⟨fun e => ?_, fun _ => ?_⟩
 ·subst e
  have e : B = [] := by simpa using hl.symm
  subst e
  exact hk h (Put.refl hb)
 ·refine ⟨_, hb, by simp [hl], h1, fun h' hp => ?_⟩
  rw [splice_at A B C ys hl] at hp
  exact hk h' hp
theorem enc_ones (h1 : ∀ x, ∀ u ∈ enc x, u.oneCell' = true) (l : List α) : ∀ u ∈ l.flatMap enc, u.oneCell' = true := by
 intro u hu
 obtain ⟨x, _, hx⟩ := List.mem_flatMap.1 hu
 exact h1 x u hx
theorem split_at (l : List α) (i : Nat) : l.flatMap enc = (l.take i).flatMap enc ++ (l.drop i).flatMap enc := by
 rw [← List.flatMap_append, List.take_append_drop]
theorem take_len (hsz : ∀ x, (enc x).length = size) (l : List α) (i : Nat) (h : i ≤ l.length) : ((l.take i).flatMap enc).length = i * size := by
 rw [flatMap_len hsz, List.length_take, Nat.min_eq_left h]
theorem drop_len (hsz : ∀ x, (enc x).length = size) (l : List α) (i : Nat) : ((l.drop i).flatMap enc).length = (l.length - i) * size := by
 rw [flatMap_len hsz, List.length_drop]
theorem OL.open {h : Heap} {a : Option Addr} {n c : Nat} {l : List α} (ho : OL enc size h (.slice a n c) l) : n = l.length ∧ ((a = none ∧ l = [] ∧ c = 0) ∨ ∃ b, a = some ⟨b, 0, none⟩ ∧ l.length ≤ c ∧ ∃ rest, Blk h b (l.flatMap enc ++ rest) ∧ (l.flatMap enc ++ rest).length = c * size) := by
 obtain ⟨a1, c1, he, hm⟩ := ho
 cases he
 refine ⟨rfl, ?_⟩
 split at hm
 ·exact .inl ⟨rfl, hm.1, hm.2⟩
 ·rename_i b o
  obtain ⟨rfl, h2, rest, h3, h4⟩ := hm
  exact .inr ⟨b, rfl, h2, rest, h3, h4⟩
 ·exact hm.elim
theorem OL.mk {h : Heap} {b n c : Nat} {l : List α} {rest : List Value} (hn : n = l.length) (hc : l.length ≤ c) (hb : Blk h b (l.flatMap enc ++ rest)) (hl : (l.flatMap enc ++ rest).length = c * size) : OL enc size h (.slice (some ⟨b, 0, none⟩) n c) l := by
 subst hn
 exact ⟨_, c, rfl, rfl, hc, rest, hb, hl⟩
theorem OL.form {h : Heap} {v : Value} {l : List α} (ho : OL enc size h v l) : ∃ a c, v = .slice a l.length c ∧ l.length ≤ c := ho.sl.form
theorem src_of {h : Heap} {b o n : Nat} (A ys C : List Value) (hb : Blk h b (A ++ (ys ++ C))) (ho : o = A.length) : Src h (some ⟨b, o, none⟩) n ys := by
 subst ho
 intro i v hv
 refine cell_blk hb ?_
 have hlt := (List.getElem?_eq_some_iff.1 hv).1
 rw [List.getElem?_append_right (by omega), Nat.add_sub_cancel_left, List.getElem?_append_left hlt]
 exact hv
theorem SL.src {h : Heap} {a : Option Addr} {n c : Nat} {l : List α} (hs : SL enc h (.slice a n c) l) : Src h a n (l.flatMap enc) := by
 obtain ⟨a', c', he, _, h2⟩ := hs
 injection he with e1 e2 e3
 subst e1 e2 e3
 exact h2
theorem ov_ext {P : Program} {f : Nat} {fn : Func} {tS tR e : TypeId} {size : Nat} (hf : P.funcs[f]? = some fn) (hname : (fn.name == "runtime.NumGoroutine") = false) (hbn : fn.body.isNone = true) (hn : Extern.findNext fn = none)
  (he : Extern.find fn = some (Extern.SlicesOverlaps.overlaps #[tS, tS] #[tR])) (ht : P.underlying tS = some (.slice e)) (hz : szOf P e = some size) {h : Heap} {vb b o o' n c n' c' : Nat} {l l' : List Value}
  (hv : Blk h vb l) (hb : Blk h b l') (hl : l' ≠ []) (hne : vb ≠ b) :
  ExtH P f [.slice (some ⟨vb, o, none⟩) n c, .slice (some ⟨b, o', none⟩) n' c'] h fun v h' => v = .bool false ∧ h' = h := by
 intro w hw
 subst hw
 obtain ⟨e1, h1⟩ := hv
 obtain ⟨e2, h2⟩ := hb
 have key := Go.Lib.run_overlaps_apart (P := P) w tS tR e ht size (fun w => run_sizeOf' hz w) ⟨vb, o, none⟩ ⟨b, o', none⟩ n c n' c' hne e1 e2 l.length l'.length
  (by simp [World.shape?, h1]) (by simp [World.shape?, h2]) (fun h => hl (List.length_eq_zero_iff.1 h)) (by simp [World.frozen?, h1]) (by simp [World.frozen?, h1])
 refine ⟨.bool false, w, ?_, ⟨rfl, rfl⟩, rfl, rfl, rfl⟩
 rw [run_callFunc_extern hf hname hbn hn he, key]
 rfl
end Go.Sx
namespace Go.Proofs.YtjnijlnmbjjgpaaGreatDoor
open Go Go.Sx C
theorem ovS_ext {h : Heap} {vb b o o' n c n' c' : Nat} {l l' : List Value} (hv : Blk h vb l) (hb : Blk h b l') (hl : l' ≠ []) (hne : vb ≠ b) :
  ExtH Tryz.prog 252 [.slice (some ⟨vb, o, none⟩) n c, .slice (some ⟨b, o', none⟩) n' c'] h fun v h' => v = .bool false ∧ h' = h :=
 ov_ext (P := Tryz.prog) (tS := 24) (tR := 4) (e := 9) (size := 1) Tryz.func252 (by kernel_rfl) (by kernel_rfl) (by kernel_rfl) (by kernel_rfl) Tryz.underlying24 (by kernel_rfl) hv hb hl hne
set_option maxHeartbeats 1000000 in
/-- slices.Insert of one item. -/
theorem insS_calls {h : Heap} {v : Value} {l : List ByteArray} {vb i : Nat} {x : ByteArray} (ho : OL encS 1 h v l) (hl : l.length ≤ 80000) (hi : i ≤ l.length) (hx : Blk h vb (encS x)) (hne : vb ∉ vblk v) :
  CallsH Tryz.prog 192 [v, .int .i64 i, .slice (some ⟨vb, 0, none⟩) 1 1] h
   (Ret fun r h' => OL encS 1 h' r (l.take i ++ x :: l.drop i) ∧ Chg (vblk v) h h' ∧ ∀ b ∈ vblk r, b ∈ vblk v ∨ h.size ≤ b) := by
 obtain ⟨a, c, rfl, hlc⟩ := ho.form
 have hne : vb ∉ ablk a := hne
 refine f192_calls (by simp) ?_
 refine SL.slc (lo := i) (hi := l.length) encS_len ho.sl hi (Nat.le_refl _) ?_
 intro a0 _ _
 refine Ai rfl (Ai (fun e => absurd e (by decide)) (fun _ => ?_))
 refine Ai rfl (Ai (fun e => ?_) (fun hin => ?_))
 ·have e : i = l.length := by omega
  subst e
  refine app_own encS_len encS_one rfl ho (SL.one encS_len hx) (by simp; omega) ?_
  intro v' h' ho' hc hb
  rw [List.take_length, List.drop_length]
  exact Ai ho' (Ai hc hb)
 have hin : i < l.length := by omega
 refine Ai rfl (fun z hz => ?_)
 have hz := add_in hz (by omega) (by omega)
 subst hz
 obtain ⟨_, hopen⟩ := ho.open
 rcases hopen with ⟨_, e, _⟩ | ⟨b, rfl, _, rest, B, hbl⟩
 ·rw [e] at hin; exact absurd hin (by simp)
 have eN : ((l.length : Int) + 1) = ((l.length + 1 : Nat) : Int) := by omega
 have eI : ((i : Int) + 1) = ((i + 1 : Nat) : Int) := by omega
 have zi := take_len encS_len l i hi
 have zd := drop_len encS_len l i
 have hsp := split_at (enc := encS) l i
 have xl := encS_len x
 have fin : (l.take i).flatMap encS ++ (encS x ++ (l.drop i).flatMap encS) = (l.take i ++ x :: l.drop i).flatMap encS := by simp
 have finl : l.length + 1 = (l.take i ++ x :: l.drop i).length := by simp; omega
 refine Ai rfl (Ai (fun hfull => ?_) (fun hroom => ?_))
 ·have hfull : c < l.length + 1 := by omega
  have s0 : SL encS h (.slice (some ⟨b, 0, none⟩) l.length c) l := ho.sl
  refine SL.slc (lo := 0) (hi := i) encS_len s0 (Nat.zero_le _) hi ?_
  intro a1 _ hs1
  simp only [Nat.sub_zero, List.drop_zero] at hs1 ⊢
  refine Ai rfl (fun z hz => ?_)
  have hz := add_in hz (by omega) (by omega)
  subst hz
  refine Ai rfl (fun z hz => ?_)
  have hz := sub_in hz (by omega) (by omega)
  have hz : z = ((l.length + 1 - i : Nat) : Int) := by omega
  subst hz
  have src1 := hs1.src
  refine Ai (by omega) (Ai (by omega) (Ei ((l.take i).flatMap encS) (Ai zi (Ai ?_ (Ai (by omega) (Ai (by omega) ?_))))))
  ·exact src1
  intro c3 b3 h1 hc3 g1
  rw [Int.toNat_natCast] at hc3 g1 ⊢
  have hc3 : l.length + 1 ≤ c3 := by omega
  have e3 : i + (l.length + 1 - i) = l.length + 1 := by omega
  rw [e3] at g1 ⊢
  obtain ⟨Z, hZ⟩ : ∃ Z : List Value, Z = (List.replicate (c3 - (l.length + 1)) ([.string ⟨#[]⟩] : List Value)).flatten := ⟨_, rfl⟩
  have hZl : Z.length = (c3 - (l.length + 1)) * 1 := by rw [hZ]; simp
  have q0 : (List.replicate (l.length + 1 - i) ([.string ⟨#[]⟩] : List Value)).flatten = ([.string ⟨#[]⟩] : List Value) ++ (List.replicate (l.length - i) ([.string ⟨#[]⟩] : List Value)).flatten := by
   rw [show l.length + 1 - i = (l.length - i) + 1 by omega, List.replicate_succ, List.flatten_cons]
  have B1 : Blk h1 b3 ((l.take i).flatMap encS ++ (([.string ⟨#[]⟩] : List Value) ++ ((List.replicate (l.length - i) ([.string ⟨#[]⟩] : List Value)).flatten ++ Z))) := by
   have := g1.blk
   rw [q0, ← hZ] at this
   simpa using this
  have i3 := g1.id
  have lx := hx.lt
  have lb := B.lt
  -- the item
  refine Ai (by omega) (Ai (by omega) (Ai (by omega) ?_))
  intro o3 ho3 _
  have ho3 := ho3 (by omega)
  have t1 : (((l.length + 1 : Nat) : Int) - (i : Int)).toNat = l.length + 1 - i := by omega
  rw [t1]
  have ez : o3 = ((l.take i).flatMap encS).length := by rw [zi]; omega
  have m1 : min 1 (l.length + 1 - i) = 1 := by omega
  refine Ei (encS x) (Ai (by rw [m1, xl]) (Ai ?_ ?_))
  ·rw [m1]; exact src_of [] (encS x) [] (by simpa using hx.chg g1.chg (by simp)) rfl
  refine wr_at _ ([.string ⟨#[]⟩] : List Value) _ B1 ez (by rw [xl]; rfl) (encS_one x) ?_
  intro h2 p2
  have B2 := p2.blk
  have g2 := g1.put p2
  -- what stands behind
  refine Ai rfl (fun z hz => ?_)
  have hz := add_in hz (by omega) (by omega)
  have hz : z = ((i + 1 : Nat) : Int) := by omega
  subst hz
  refine Ai (by omega) (Ai (by omega) (Ai (by omega) ?_))
  intro o4 ho4 _
  have ho4 := ho4 (by omega)
  have s2 : SL encS h2 (.slice (some ⟨b, 0, none⟩) l.length c) l := s0.ext g2.chg
  refine SL.slc (lo := i) (hi := l.length) encS_len s2 hi (Nat.le_refl _) ?_
  intro a5 _ hs5
  have e5 : (l.drop i).take (l.length - i) = l.drop i := by rw [List.take_of_length_le]; simp
  rw [e5] at hs5
  have src5 := hs5.src
  have t2 : (((l.length + 1 : Nat) : Int) - ((i + 1 : Nat) : Int)).toNat = l.length - i := by omega
  rw [t2]
  have m2 : min (l.length - i) (l.length - i) = l.length - i := by omega
  refine Ei ((l.drop i).flatMap encS) (Ai (by rw [m2, zd]) (Ai (by rw [m2]; exact src5) ?_))
  refine wr_at ((l.take i).flatMap encS ++ encS x) ((List.replicate (l.length - i) ([.string ⟨#[]⟩] : List Value)).flatten) Z (by rw [List.append_assoc]; exact B2) ?_ ?_ (enc_ones encS_one _) ?_
  ·rw [List.length_append, zi, xl]; omega
  ·rw [zd]; simp
  intro h3 p3
  have g3 := g2.put p3
  refine Ai (OL.mk (rest := Z) finl (by rw [← finl]; omega) ?_ ?_) (Ai (g3.chg.mono (by simp)) (fun b' hb' => .inr (by have : b' = b3 := List.mem_singleton.1 hb'; omega)))
  ·have := g3.blk
   rw [← fin]
   simpa using this
  ·rw [← fin]
   simp only [List.length_append, zi, zd, xl, hZl]
   omega
 ·have hroom : l.length + 1 ≤ c := by omega
  have hne' : vb ≠ b := fun e => hne (by simp [ablk, e])
  -- there is room
  obtain ⟨R1, R2, hR, hR1⟩ : ∃ R1 R2, rest = R1 ++ R2 ∧ R1.length = 1 := by
   refine ⟨rest.take 1, rest.drop 1, (List.take_append_drop _ _).symm, ?_⟩
   rw [List.length_append, flatMap_len encS_len] at hbl
   rw [List.length_take]
   omega
  subst hR
  refine Ai rfl (fun z hz => ?_)
  have hz := add_in hz (by omega) (by omega)
  have hz : z = ((l.length + 1 : Nat) : Int) := by omega
  subst hz
  refine Ai (by omega) (Ai (by omega) (Ai (by omega) ?_))
  intro o1 hA hB
  have eo1 : o1 = 0 := by
   have := hA (by omega)
   simpa using this
  subst eo1
  have t0 : (((l.length + 1 : Nat) : Int) - ((0 : Nat) : Int)).toNat = l.length + 1 := by omega
  have t00 : ((c : Int) - ((0 : Nat) : Int)).toNat = c := by omega
  rw [t0, t00]
  refine Ai rfl (fun z hz => ?_)
  have hz := add_in hz (by omega) (by omega)
  have hz : z = ((i + 1 : Nat) : Int) := by omega
  subst hz
  refine Ai (by omega) (Ai (by omega) (Ai (by omega) ?_))
  intro o2 _ _
  have hnil : l.flatMap encS ++ (R1 ++ R2) ≠ [] := by
   intro e
   have := congrArg List.length e
   rw [List.length_append, List.length_append, hR1] at this
   simp at this
  refine ?_
  have ext := ovS_ext (o := 0) (o' := o2) (n := 1) (c := 1) (n' := (((l.length + 1 : Nat) : Int) - ((i + 1 : Nat) : Int)).toNat) (c' := ((c : Int) - ((i + 1 : Nat) : Int)).toNat) hx B hnil hne'
  refine fun w hw => ?_
  obtain ⟨u, w', hr, ⟨rfl, hh⟩, hrest⟩ := ext w hw
  refine ⟨_, w', hr, ?_, hrest⟩
  rw [hh]
  clear ext hr hh hrest w' w hw
  refine Ai rfl (fun z hz => ?_)
  have hz := add_in hz (by omega) (by omega)
  have hz : z = ((i + 1 : Nat) : Int) := by omega
  subst hz
  refine Ai (by omega) (Ai (by omega) (Ai (by omega) ?_))
  intro o3 ho3 ho3'
  have eo3 : o3 = (i + 1) * 1 := by
   have := ho3 (by omega)
   omega
  refine Ai (by omega) (Ai (by omega) (Ai (by omega) ?_))
  intro o4 ho4 _
  have eo4 : o4 = i * 1 := by
   have := ho4 (by omega)
   omega
  have t1 : (((l.length + 1 : Nat) : Int) - ((i + 1 : Nat) : Int)).toNat = l.length - i := by omega
  have t2 : (((l.length + 1 : Nat) : Int) - (i : Int)).toNat = l.length + 1 - i := by omega
  rw [t1, t2]
  have m2 : min (l.length + 1 - i) (l.length - i) = l.length - i := by omega
  have B0 : Blk h b ((l.take i).flatMap encS ++ ((l.drop i).flatMap encS ++ (R1 ++ R2))) := by
   rw [hsp, List.append_assoc] at B; exact B
  -- the part behind, cut anew
  obtain ⟨D1, D2, hD, hD1⟩ : ∃ D1 D2, (l.drop i).flatMap encS ++ R1 = D1 ++ D2 ∧ D1.length = 1 := by
   refine ⟨((l.drop i).flatMap encS ++ R1).take 1, ((l.drop i).flatMap encS ++ R1).drop 1, (List.take_append_drop _ _).symm, ?_⟩
   rw [List.length_take, List.length_append, hR1]; omega
  have hD2 : D2.length = (l.length - i) * 1 := by
   have := congrArg List.length hD
   rw [List.length_append, List.length_append, zd, hR1, hD1] at this
   omega
  refine Ei ((l.drop i).flatMap encS) (Ai (by rw [m2, zd]) (Ai (by rw [m2]; exact src_of _ _ _ B0 (by rw [zi]; exact eo4)) ?_))
  refine wr_at ((l.take i).flatMap encS ++ D1) D2 R2 ?_ ?_ ?_ (enc_ones encS_one _) ?_
  ·rw [List.append_assoc, ← List.append_assoc D1, ← hD, List.append_assoc]; exact B0
  ·rw [List.length_append, zi, hD1, eo3]; omega
  ·rw [zd, hD2]
  intro h1 p1
  have B1 : Blk h1 b ((l.take i).flatMap encS ++ (D1 ++ ((l.drop i).flatMap encS ++ R2))) := by
   have := p1.blk
   rw [List.append_assoc] at this; exact this
  have hx1 := hx.chg p1.chg (by simpa using hne')
  refine Ai (by omega) (Ai (by omega) (Ai (by omega) ?_))
  intro o5 ho5 _
  have eo5 : o5 = i * 1 := by
   have := ho5 (by omega)
   omega
  rw [t2]
  have m1 : min 1 (l.length + 1 - i) = 1 := by omega
  refine Ei (encS x) (Ai (by rw [m1, xl]) (Ai ?_ ?_))
  ·rw [m1]; exact src_of [] (encS x) [] (by simpa using hx1) rfl
  refine wr_at _ D1 _ B1 (by rw [zi]; exact eo5) (by rw [xl, hD1]) (encS_one x) ?_
  intro h2 p2
  refine Ai (OL.mk (rest := R2) finl (by rw [← finl]; exact hroom) ?_ ?_) (Ai (p1.trans p2).chg (fun _ h => .inl h))
  ·have := p2.blk
   rw [← fin]
   simpa using this
  ·rw [← fin]
   rw [hsp] at hbl
   simp only [List.length_append, zi, zd, xl, hR1] at hbl ⊢
   omega
set_option maxHeartbeats 1000000 in
/-- slices.Delete of one item. -/
theorem delS_calls {h : Heap} {v : Value} {l : List ByteArray} {i : Nat} (ho : OL encS 1 h v l) (hl : l.length ≤ 80000) (hi : i < l.length) :
  CallsH Tryz.prog 256 [v, .int .i64 i, .int .i64 (i + 1 : Nat)] h
   (Ret fun r h' => OL encS 1 h' r (l.take i ++ l.drop (i + 1)) ∧ Chg (vblk v) h h' ∧ ∀ b ∈ vblk r, b ∈ vblk v) := by
 obtain ⟨a, c, rfl, hlc⟩ := ho.form
 refine f256_calls (by simp) ?_
 obtain ⟨_, hopen⟩ := ho.open
 rcases hopen with ⟨_, e, _⟩ | ⟨b, rfl, _, rest, B, hbl⟩
 ·rw [e] at hi; exact absurd hi (by simp)
 refine Ai (by omega) (Ai (by omega) (Ai (by omega) (Ai (by omega) ?_)))
 intro o0 _ _
 refine Ai rfl (Ai (fun e => absurd e (by omega)) (fun _ => ?_))
 have zi := take_len encS_len l i (by omega)
 have zd := drop_len encS_len l (i + 1)
 have hcons : l.drop i = l[i] :: l.drop (i + 1) := List.drop_eq_getElem_cons hi
 have hsp := split_at (enc := encS) l i
 rw [hcons, List.flatMap_cons] at hsp
 have xl := encS_len l[i]
 have B0 : Blk h b ((l.take i).flatMap encS ++ (encS l[i] ++ ((l.drop (i + 1)).flatMap encS ++ rest))) := by
  rw [hsp] at B; simpa using B
 -- s[:i]
 refine Ai (by omega) (Ai (by omega) (Ai (by omega) ?_))
 intro o1 ho1 ho1'
 have eo1 : o1 = 0 := by
  have := ho1 (by omega)
  simpa using this
 subst eo1
 refine Ai (by omega) (Ai (by omega) (Ai (by omega) ?_))
 intro o2 ho2 ho2'
 have t1 : ((i : Int) - ((0 : Nat) : Int)).toNat = i := by omega
 have t2 : ((c : Int) - ((0 : Nat) : Int)).toNat = c := by omega
 have t3 : ((l.length : Int) - ((i + 1 : Nat) : Int)).toNat = l.length - (i + 1) := by omega
 rw [t1, t2, t3]
 have hfit : i + (l.length - (i + 1)) ≤ c := by omega
 -- the end of the part behind, cut anew
 obtain ⟨D1, D2, hD, hD1, hD2⟩ : ∃ D1 D2, encS l[i] ++ (l.drop (i + 1)).flatMap encS = D1 ++ D2 ∧ D1.length = (l.length - (i + 1)) * 1 ∧ D2.length = 1 := by
  refine ⟨(encS l[i] ++ (l.drop (i + 1)).flatMap encS).take ((l.length - (i + 1)) * 1), (encS l[i] ++ (l.drop (i + 1)).flatMap encS).drop ((l.length - (i + 1)) * 1), (List.take_append_drop _ _).symm, ?_, ?_⟩
  ·rw [List.length_take, List.length_append, xl, zd]; omega
  ·rw [List.length_drop, List.length_append, xl, zd]; omega
 have fin : (l.take i).flatMap encS ++ (l.drop (i + 1)).flatMap encS = (l.take i ++ l.drop (i + 1)).flatMap encS := by simp
 have finl : i + (l.length - (i + 1)) = (l.take i ++ l.drop (i + 1)).length := by simp; omega
 have hY : Src h (some ⟨b, o2, none⟩) (l.length - (i + 1)) ((l.drop (i + 1)).flatMap encS) := by
  by_cases hlt : i + 1 < c
  ·have := ho2 (by omega)
   refine src_of ((l.take i).flatMap encS ++ encS l[i]) _ rest (by simpa using B0) ?_
   rw [List.length_append, zi, xl]; omega
  ·have : l.drop (i + 1) = [] := by apply List.drop_eq_nil_of_le; omega
   rw [this]
   intro j u hj
   simp at hj
 refine ⟨(l.take i).flatMap encS, (l.drop (i + 1)).flatMap encS, zi, zd, src_of [] _ _ B0 rfl, hY, enc_ones encS_one _, fun _ => ?_, fun hlt => absurd hlt (by omega)⟩
 have bl : ((l.take i).flatMap encS ++ (D1 ++ (D2 ++ rest))).length = c * 1 := by
  rw [hsp] at hbl
  have := congrArg List.length hD
  simp only [List.length_append] at hbl this ⊢
  omega
 refine ⟨(l.take i).flatMap encS ++ (D1 ++ (D2 ++ rest)), ?_, ?_, ?_⟩
 ·rw [← List.append_assoc D1, ← hD, List.append_assoc]; exact B0
 ·rw [bl]
  have : (i + (l.length - (i + 1))) * 1 ≤ c * 1 := Nat.mul_le_mul_right _ hfit
  omega
 intro h1 p1
 have e1 : splice ((l.take i).flatMap encS ++ (D1 ++ (D2 ++ rest))) (0 + i * 1) ((l.drop (i + 1)).flatMap encS) = (l.take i).flatMap encS ++ ((l.drop (i + 1)).flatMap encS ++ (D2 ++ rest)) := by
  rw [Nat.zero_add, ← zi]
  exact splice_at _ _ _ _ (by rw [zd, hD1])
 rw [e1] at p1
 -- clear
 refine Ai (by omega) (Ai (by omega) (Ai (by omega) ?_))
 intro o3 ho3 ho3'
 have t4 : ((l.length : Int) - ((i + (l.length - (i + 1)) : Nat) : Int)).toNat = 1 := by omega
 rw [t4]
 have eo3 : o3 = (l.length - 1) * 1 := by
  have := ho3 (by omega)
  omega
 refine wr_at ((l.take i).flatMap encS ++ (l.drop (i + 1)).flatMap encS) D2 rest (by simpa using p1.blk) ?_ (by simp [hD2]) (by decide) ?_
 ·rw [List.length_append, zi, zd, eo3]; omega
 intro h2 p2
 have p2' := p2.blk
 refine Ai (OL.mk (rest := (List.replicate 1 ([.string ⟨#[]⟩] : List Value)).flatten ++ rest) finl (by rw [← finl]; exact hfit) ?_ ?_) (Ai (p1.trans p2).chg (fun _ h => h))
 ·rw [← fin]; exact p2'
 ·rw [← fin]
  rw [hsp] at hbl
  simp only [List.length_append] at hbl ⊢
  simp only [zi, zd, xl] at hbl ⊢
  simp
  omega
theorem ovP_ext {h : Heap} {vb b o o' n c n' c' : Nat} {l l' : List Value} (hv : Blk h vb l) (hb : Blk h b l') (hl : l' ≠ []) (hne : vb ≠ b) :
  ExtH Tryz.prog 282 [.slice (some ⟨vb, o, none⟩) n c, .slice (some ⟨b, o', none⟩) n' c'] h fun v h' => v = .bool false ∧ h' = h :=
 ov_ext (P := Tryz.prog) (tS := 23) (tR := 4) (e := 108) (size := 2) Tryz.func282 (by kernel_rfl) (by kernel_rfl) (by kernel_rfl) (by kernel_rfl) Tryz.underlying23 (by kernel_rfl) hv hb hl hne
set_option maxHeartbeats 1000000 in
/-- slices.Insert of one item. -/
theorem insP_calls {h : Heap} {v : Value} {l : List Pair} {vb i : Nat} {x : Pair} (ho : OL encP 2 h v l) (hl : l.length ≤ 80000) (hi : i ≤ l.length) (hx : Blk h vb (encP x)) (hne : vb ∉ vblk v) :
  CallsH Tryz.prog 250 [v, .int .i64 i, .slice (some ⟨vb, 0, none⟩) 1 1] h
   (Ret fun r h' => OL encP 2 h' r (l.take i ++ x :: l.drop i) ∧ Chg (vblk v) h h' ∧ ∀ b ∈ vblk r, b ∈ vblk v ∨ h.size ≤ b) := by
 obtain ⟨a, c, rfl, hlc⟩ := ho.form
 have hne : vb ∉ ablk a := hne
 refine f250_calls (by simp) ?_
 refine SL.slc (lo := i) (hi := l.length) encP_len ho.sl hi (Nat.le_refl _) ?_
 intro a0 _ _
 refine Ai rfl (Ai (fun e => absurd e (by decide)) (fun _ => ?_))
 refine Ai rfl (Ai (fun e => ?_) (fun hin => ?_))
 ·have e : i = l.length := by omega
  subst e
  refine app_own encP_len encP_one rfl ho (SL.one encP_len hx) (by simp; omega) ?_
  intro v' h' ho' hc hb
  rw [List.take_length, List.drop_length]
  exact Ai ho' (Ai hc hb)
 have hin : i < l.length := by omega
 refine Ai rfl (fun z hz => ?_)
 have hz := add_in hz (by omega) (by omega)
 subst hz
 obtain ⟨_, hopen⟩ := ho.open
 rcases hopen with ⟨_, e, _⟩ | ⟨b, rfl, _, rest, B, hbl⟩
 ·rw [e] at hin; exact absurd hin (by simp)
 have eN : ((l.length : Int) + 1) = ((l.length + 1 : Nat) : Int) := by omega
 have eI : ((i : Int) + 1) = ((i + 1 : Nat) : Int) := by omega
 have zi := take_len encP_len l i hi
 have zd := drop_len encP_len l i
 have hsp := split_at (enc := encP) l i
 have xl := encP_len x
 have fin : (l.take i).flatMap encP ++ (encP x ++ (l.drop i).flatMap encP) = (l.take i ++ x :: l.drop i).flatMap encP := by simp
 have finl : l.length + 1 = (l.take i ++ x :: l.drop i).length := by simp; omega
 refine Ai rfl (Ai (fun hfull => ?_) (fun hroom => ?_))
 ·have hfull : c < l.length + 1 := by omega
  have s0 : SL encP h (.slice (some ⟨b, 0, none⟩) l.length c) l := ho.sl
  refine SL.slc (lo := 0) (hi := i) encP_len s0 (Nat.zero_le _) hi ?_
  intro a1 _ hs1
  simp only [Nat.sub_zero, List.drop_zero] at hs1 ⊢
  refine Ai rfl (fun z hz => ?_)
  have hz := add_in hz (by omega) (by omega)
  subst hz
  refine Ai rfl (fun z hz => ?_)
  have hz := sub_in hz (by omega) (by omega)
  have hz : z = ((l.length + 1 - i : Nat) : Int) := by omega
  subst hz
  have src1 := hs1.src
  refine Ai (by omega) (Ai (by omega) (Ei ((l.take i).flatMap encP) (Ai zi (Ai ?_ (Ai (by omega) (Ai (by omega) ?_))))))
  ·exact src1
  intro c3 b3 h1 hc3 g1
  rw [Int.toNat_natCast] at hc3 g1 ⊢
  have hc3 : l.length + 1 ≤ c3 := by omega
  have e3 : i + (l.length + 1 - i) = l.length + 1 := by omega
  rw [e3] at g1 ⊢
  obtain ⟨Z, hZ⟩ : ∃ Z : List Value, Z = (List.replicate (c3 - (l.length + 1)) ([.string ⟨#[]⟩, .string ⟨#[]⟩] : List Value)).flatten := ⟨_, rfl⟩
  have hZl : Z.length = (c3 - (l.length + 1)) * 2 := by rw [hZ]; simp
  have q0 : (List.replicate (l.length + 1 - i) ([.string ⟨#[]⟩, .string ⟨#[]⟩] : List Value)).flatten = ([.string ⟨#[]⟩, .string ⟨#[]⟩] : List Value) ++ (List.replicate (l.length - i) ([.string ⟨#[]⟩, .string ⟨#[]⟩] : List Value)).flatten := by
   rw [show l.length + 1 - i = (l.length - i) + 1 by omega, List.replicate_succ, List.flatten_cons]
  have B1 : Blk h1 b3 ((l.take i).flatMap encP ++ (([.string ⟨#[]⟩, .string ⟨#[]⟩] : List Value) ++ ((List.replicate (l.length - i) ([.string ⟨#[]⟩, .string ⟨#[]⟩] : List Value)).flatten ++ Z))) := by
   have := g1.blk
   rw [q0, ← hZ] at this
   simpa using this
  have i3 := g1.id
  have lx := hx.lt
  have lb := B.lt
  -- the item
  refine Ai (by omega) (Ai (by omega) (Ai (by omega) ?_))
  intro o3 ho3 _
  have ho3 := ho3 (by omega)
  have t1 : (((l.length + 1 : Nat) : Int) - (i : Int)).toNat = l.length + 1 - i := by omega
  rw [t1]
  have ez : o3 = ((l.take i).flatMap encP).length := by rw [zi]; omega
  have m1 : min 1 (l.length + 1 - i) = 1 := by omega
  refine Ei (encP x) (Ai (by rw [m1, xl]) (Ai ?_ ?_))
  ·rw [m1]; exact src_of [] (encP x) [] (by simpa using hx.chg g1.chg (by simp)) rfl
  refine wr_at _ ([.string ⟨#[]⟩, .string ⟨#[]⟩] : List Value) _ B1 ez (by rw [xl]; rfl) (encP_one x) ?_
  intro h2 p2
  have B2 := p2.blk
  have g2 := g1.put p2
  -- what stands behind
  refine Ai rfl (fun z hz => ?_)
  have hz := add_in hz (by omega) (by omega)
  have hz : z = ((i + 1 : Nat) : Int) := by omega
  subst hz
  refine Ai (by omega) (Ai (by omega) (Ai (by omega) ?_))
  intro o4 ho4 _
  have ho4 := ho4 (by omega)
  have s2 : SL encP h2 (.slice (some ⟨b, 0, none⟩) l.length c) l := s0.ext g2.chg
  refine SL.slc (lo := i) (hi := l.length) encP_len s2 hi (Nat.le_refl _) ?_
  intro a5 _ hs5
  have e5 : (l.drop i).take (l.length - i) = l.drop i := by rw [List.take_of_length_le]; simp
  rw [e5] at hs5
  have src5 := hs5.src
  have t2 : (((l.length + 1 : Nat) : Int) - ((i + 1 : Nat) : Int)).toNat = l.length - i := by omega
  rw [t2]
  have m2 : min (l.length - i) (l.length - i) = l.length - i := by omega
  refine Ei ((l.drop i).flatMap encP) (Ai (by rw [m2, zd]) (Ai (by rw [m2]; exact src5) ?_))
  refine wr_at ((l.take i).flatMap encP ++ encP x) ((List.replicate (l.length - i) ([.string ⟨#[]⟩, .string ⟨#[]⟩] : List Value)).flatten) Z (by rw [List.append_assoc]; exact B2) ?_ ?_ (enc_ones encP_one _) ?_
  ·rw [List.length_append, zi, xl]; omega
  ·rw [zd]; simp
  intro h3 p3
  have g3 := g2.put p3
  refine Ai (OL.mk (rest := Z) finl (by rw [← finl]; omega) ?_ ?_) (Ai (g3.chg.mono (by simp)) (fun b' hb' => .inr (by have : b' = b3 := List.mem_singleton.1 hb'; omega)))
  ·have := g3.blk
   rw [← fin]
   simpa using this
  ·rw [← fin]
   simp only [List.length_append, zi, zd, xl, hZl]
   omega
 ·have hroom : l.length + 1 ≤ c := by omega
  have hne' : vb ≠ b := fun e => hne (by simp [ablk, e])
  -- there is room
  obtain ⟨R1, R2, hR, hR1⟩ : ∃ R1 R2, rest = R1 ++ R2 ∧ R1.length = 2 := by
   refine ⟨rest.take 2, rest.drop 2, (List.take_append_drop _ _).symm, ?_⟩
   rw [List.length_append, flatMap_len encP_len] at hbl
   rw [List.length_take]
   omega
  subst hR
  refine Ai rfl (fun z hz => ?_)
  have hz := add_in hz (by omega) (by omega)
  have hz : z = ((l.length + 1 : Nat) : Int) := by omega
  subst hz
  refine Ai (by omega) (Ai (by omega) (Ai (by omega) ?_))
  intro o1 hA hB
  have eo1 : o1 = 0 := by
   have := hA (by omega)
   simpa using this
  subst eo1
  have t0 : (((l.length + 1 : Nat) : Int) - ((0 : Nat) : Int)).toNat = l.length + 1 := by omega
  have t00 : ((c : Int) - ((0 : Nat) : Int)).toNat = c := by omega
  rw [t0, t00]
  refine Ai rfl (fun z hz => ?_)
  have hz := add_in hz (by omega) (by omega)
  have hz : z = ((i + 1 : Nat) : Int) := by omega
  subst hz
  refine Ai (by omega) (Ai (by omega) (Ai (by omega) ?_))
  intro o2 _ _
  have hnil : l.flatMap encP ++ (R1 ++ R2) ≠ [] := by
   intro e
   have := congrArg List.length e
   rw [List.length_append, List.length_append, hR1] at this
   simp at this
  refine ?_
  have ext := ovP_ext (o := 0) (o' := o2) (n := 1) (c := 1) (n' := (((l.length + 1 : Nat) : Int) - ((i + 1 : Nat) : Int)).toNat) (c' := ((c : Int) - ((i + 1 : Nat) : Int)).toNat) hx B hnil hne'
  refine fun w hw => ?_
  obtain ⟨u, w', hr, ⟨rfl, hh⟩, hrest⟩ := ext w hw
  refine ⟨_, w', hr, ?_, hrest⟩
  rw [hh]
  clear ext hr hh hrest w' w hw
  refine Ai rfl (fun z hz => ?_)
  have hz := add_in hz (by omega) (by omega)
  have hz : z = ((i + 1 : Nat) : Int) := by omega
  subst hz
  refine Ai (by omega) (Ai (by omega) (Ai (by omega) ?_))
  intro o3 ho3 ho3'
  have eo3 : o3 = (i + 1) * 2 := by
   have := ho3 (by omega)
   omega
  refine Ai (by omega) (Ai (by omega) (Ai (by omega) ?_))
  intro o4 ho4 _
  have eo4 : o4 = i * 2 := by
   have := ho4 (by omega)
   omega
  have t1 : (((l.length + 1 : Nat) : Int) - ((i + 1 : Nat) : Int)).toNat = l.length - i := by omega
  have t2 : (((l.length + 1 : Nat) : Int) - (i : Int)).toNat = l.length + 1 - i := by omega
  rw [t1, t2]
  have m2 : min (l.length + 1 - i) (l.length - i) = l.length - i := by omega
  have B0 : Blk h b ((l.take i).flatMap encP ++ ((l.drop i).flatMap encP ++ (R1 ++ R2))) := by
   rw [hsp, List.append_assoc] at B; exact B
  -- the part behind, cut anew
  obtain ⟨D1, D2, hD, hD1⟩ : ∃ D1 D2, (l.drop i).flatMap encP ++ R1 = D1 ++ D2 ∧ D1.length = 2 := by
   refine ⟨((l.drop i).flatMap encP ++ R1).take 2, ((l.drop i).flatMap encP ++ R1).drop 2, (List.take_append_drop _ _).symm, ?_⟩
   rw [List.length_take, List.length_append, hR1]; omega
  have hD2 : D2.length = (l.length - i) * 2 := by
   have := congrArg List.length hD
   rw [List.length_append, List.length_append, zd, hR1, hD1] at this
   omega
  refine Ei ((l.drop i).flatMap encP) (Ai (by rw [m2, zd]) (Ai (by rw [m2]; exact src_of _ _ _ B0 (by rw [zi]; exact eo4)) ?_))
  refine wr_at ((l.take i).flatMap encP ++ D1) D2 R2 ?_ ?_ ?_ (enc_ones encP_one _) ?_
  ·rw [List.append_assoc, ← List.append_assoc D1, ← hD, List.append_assoc]; exact B0
  ·rw [List.length_append, zi, hD1, eo3]; omega
  ·rw [zd, hD2]
  intro h1 p1
  have B1 : Blk h1 b ((l.take i).flatMap encP ++ (D1 ++ ((l.drop i).flatMap encP ++ R2))) := by
   have := p1.blk
   rw [List.append_assoc] at this; exact this
  have hx1 := hx.chg p1.chg (by simpa using hne')
  refine Ai (by omega) (Ai (by omega) (Ai (by omega) ?_))
  intro o5 ho5 _
  have eo5 : o5 = i * 2 := by
   have := ho5 (by omega)
   omega
  rw [t2]
  have m1 : min 1 (l.length + 1 - i) = 1 := by omega
  refine Ei (encP x) (Ai (by rw [m1, xl]) (Ai ?_ ?_))
  ·rw [m1]; exact src_of [] (encP x) [] (by simpa using hx1) rfl
  refine wr_at _ D1 _ B1 (by rw [zi]; exact eo5) (by rw [xl, hD1]) (encP_one x) ?_
  intro h2 p2
  refine Ai (OL.mk (rest := R2) finl (by rw [← finl]; exact hroom) ?_ ?_) (Ai (p1.trans p2).chg (fun _ h => .inl h))
  ·have := p2.blk
   rw [← fin]
   simpa using this
  ·rw [← fin]
   rw [hsp] at hbl
   simp only [List.length_append, zi, zd, xl, hR1] at hbl ⊢
   omega
set_option maxHeartbeats 1000000 in
/-- slices.Delete of one item. -/
theorem delP_calls {h : Heap} {v : Value} {l : List Pair} {i : Nat} (ho : OL encP 2 h v l) (hl : l.length ≤ 80000) (hi : i < l.length) :
  CallsH Tryz.prog 251 [v, .int .i64 i, .int .i64 (i + 1 : Nat)] h
   (Ret fun r h' => OL encP 2 h' r (l.take i ++ l.drop (i + 1)) ∧ Chg (vblk v) h h' ∧ ∀ b ∈ vblk r, b ∈ vblk v) := by
 obtain ⟨a, c, rfl, hlc⟩ := ho.form
 refine f251_calls (by simp) ?_
 obtain ⟨_, hopen⟩ := ho.open
 rcases hopen with ⟨_, e, _⟩ | ⟨b, rfl, _, rest, B, hbl⟩
 ·rw [e] at hi; exact absurd hi (by simp)
 refine Ai (by omega) (Ai (by omega) (Ai (by omega) (Ai (by omega) ?_)))
 intro o0 _ _
 refine Ai rfl (Ai (fun e => absurd e (by omega)) (fun _ => ?_))
 have zi := take_len encP_len l i (by omega)
 have zd := drop_len encP_len l (i + 1)
 have hcons : l.drop i = l[i] :: l.drop (i + 1) := List.drop_eq_getElem_cons hi
 have hsp := split_at (enc := encP) l i
 rw [hcons, List.flatMap_cons] at hsp
 have xl := encP_len l[i]
 have B0 : Blk h b ((l.take i).flatMap encP ++ (encP l[i] ++ ((l.drop (i + 1)).flatMap encP ++ rest))) := by
  rw [hsp] at B; simpa using B
 -- s[:i]
 refine Ai (by omega) (Ai (by omega) (Ai (by omega) ?_))
 intro o1 ho1 ho1'
 have eo1 : o1 = 0 := by
  have := ho1 (by omega)
  simpa using this
 subst eo1
 refine Ai (by omega) (Ai (by omega) (Ai (by omega) ?_))
 intro o2 ho2 ho2'
 have t1 : ((i : Int) - ((0 : Nat) : Int)).toNat = i := by omega
 have t2 : ((c : Int) - ((0 : Nat) : Int)).toNat = c := by omega
 have t3 : ((l.length : Int) - ((i + 1 : Nat) : Int)).toNat = l.length - (i + 1) := by omega
 rw [t1, t2, t3]
 have hfit : i + (l.length - (i + 1)) ≤ c := by omega
 -- the end of the part behind, cut anew
 obtain ⟨D1, D2, hD, hD1, hD2⟩ : ∃ D1 D2, encP l[i] ++ (l.drop (i + 1)).flatMap encP = D1 ++ D2 ∧ D1.length = (l.length - (i + 1)) * 2 ∧ D2.length = 2 := by
  refine ⟨(encP l[i] ++ (l.drop (i + 1)).flatMap encP).take ((l.length - (i + 1)) * 2), (encP l[i] ++ (l.drop (i + 1)).flatMap encP).drop ((l.length - (i + 1)) * 2), (List.take_append_drop _ _).symm, ?_, ?_⟩
  ·rw [List.length_take, List.length_append, xl, zd]; omega
  ·rw [List.length_drop, List.length_append, xl, zd]; omega
 have fin : (l.take i).flatMap encP ++ (l.drop (i + 1)).flatMap encP = (l.take i ++ l.drop (i + 1)).flatMap encP := by simp
 have finl : i + (l.length - (i + 1)) = (l.take i ++ l.drop (i + 1)).length := by simp; omega
 have hY : Src h (some ⟨b, o2, none⟩) (l.length - (i + 1)) ((l.drop (i + 1)).flatMap encP) := by
  by_cases hlt : i + 1 < c
  ·have := ho2 (by omega)
   refine src_of ((l.take i).flatMap encP ++ encP l[i]) _ rest (by simpa using B0) ?_
   rw [List.length_append, zi, xl]; omega
  ·have : l.drop (i + 1) = [] := by apply List.drop_eq_nil_of_le; omega
   rw [this]
   intro j u hj
   simp at hj
 refine ⟨(l.take i).flatMap encP, (l.drop (i + 1)).flatMap encP, zi, zd, src_of [] _ _ B0 rfl, hY, enc_ones encP_one _, fun _ => ?_, fun hlt => absurd hlt (by omega)⟩
 have bl : ((l.take i).flatMap encP ++ (D1 ++ (D2 ++ rest))).length = c * 2 := by
  rw [hsp] at hbl
  have := congrArg List.length hD
  simp only [List.length_append] at hbl this ⊢
  omega
 refine ⟨(l.take i).flatMap encP ++ (D1 ++ (D2 ++ rest)), ?_, ?_, ?_⟩
 ·rw [← List.append_assoc D1, ← hD, List.append_assoc]; exact B0
 ·rw [bl]
  have : (i + (l.length - (i + 1))) * 2 ≤ c * 2 := Nat.mul_le_mul_right _ hfit
  omega
 intro h1 p1
 have e1 : splice ((l.take i).flatMap encP ++ (D1 ++ (D2 ++ rest))) (0 + i * 2) ((l.drop (i + 1)).flatMap encP) = (l.take i).flatMap encP ++ ((l.drop (i + 1)).flatMap encP ++ (D2 ++ rest)) := by
  rw [Nat.zero_add, ← zi]
  exact splice_at _ _ _ _ (by rw [zd, hD1])
 rw [e1] at p1
 -- clear
 refine Ai (by omega) (Ai (by omega) (Ai (by omega) ?_))
 intro o3 ho3 ho3'
 have t4 : ((l.length : Int) - ((i + (l.length - (i + 1)) : Nat) : Int)).toNat = 1 := by omega
 rw [t4]
 have eo3 : o3 = (l.length - 1) * 2 := by
  have := ho3 (by omega)
  omega
 refine wr_at ((l.take i).flatMap encP ++ (l.drop (i + 1)).flatMap encP) D2 rest (by simpa using p1.blk) ?_ (by simp [hD2]) (by decide) ?_
 ·rw [List.length_append, zi, zd, eo3]; omega
 intro h2 p2
 have p2' := p2.blk
 refine Ai (OL.mk (rest := (List.replicate 1 ([.string ⟨#[]⟩, .string ⟨#[]⟩] : List Value)).flatten ++ rest) finl (by rw [← finl]; exact hfit) ?_ ?_) (Ai (p1.trans p2).chg (fun _ h => h))
 ·rw [← fin]; exact p2'
 ·rw [← fin]
  rw [hsp] at hbl
  simp only [List.length_append] at hbl ⊢
  simp only [zi, zd, xl] at hbl ⊢
  simp
  omega
theorem ovR_ext {h : Heap} {vb b o o' n c n' c' : Nat} {l l' : List Value} (hv : Blk h vb l) (hb : Blk h b l') (hl : l' ≠ []) (hne : vb ≠ b) :
  ExtH Tryz.prog 287 [.slice (some ⟨vb, o, none⟩) n c, .slice (some ⟨b, o', none⟩) n' c'] h fun v h' => v = .bool false ∧ h' = h :=
 ov_ext (P := Tryz.prog) (tS := 25) (tR := 4) (e := 110) (size := 2) Tryz.func287 (by kernel_rfl) (by kernel_rfl) (by kernel_rfl) (by kernel_rfl) Tryz.underlying25 (by kernel_rfl) hv hb hl hne
set_option maxHeartbeats 1000000 in
/-- slices.Insert of one item. -/
theorem insR_calls {h : Heap} {v : Value} {l : List Rank} {vb i : Nat} {x : Rank} (ho : OL encR 2 h v l) (hl : l.length ≤ 80000) (hi : i ≤ l.length) (hx : Blk h vb (encR x)) (hne : vb ∉ vblk v) :
  CallsH Tryz.prog 258 [v, .int .i64 i, .slice (some ⟨vb, 0, none⟩) 1 1] h
   (Ret fun r h' => OL encR 2 h' r (l.take i ++ x :: l.drop i) ∧ Chg (vblk v) h h' ∧ ∀ b ∈ vblk r, b ∈ vblk v ∨ h.size ≤ b) := by
 obtain ⟨a, c, rfl, hlc⟩ := ho.form
 have hne : vb ∉ ablk a := hne
 refine f258_calls (by simp) ?_
 refine SL.slc (lo := i) (hi := l.length) encR_len ho.sl hi (Nat.le_refl _) ?_
 intro a0 _ _
 refine Ai rfl (Ai (fun e => absurd e (by decide)) (fun _ => ?_))
 refine Ai rfl (Ai (fun e => ?_) (fun hin => ?_))
 ·have e : i = l.length := by omega
  subst e
  refine app_own encR_len encR_one rfl ho (SL.one encR_len hx) (by simp; omega) ?_
  intro v' h' ho' hc hb
  rw [List.take_length, List.drop_length]
  exact Ai ho' (Ai hc hb)
 have hin : i < l.length := by omega
 refine Ai rfl (fun z hz => ?_)
 have hz := add_in hz (by omega) (by omega)
 subst hz
 obtain ⟨_, hopen⟩ := ho.open
 rcases hopen with ⟨_, e, _⟩ | ⟨b, rfl, _, rest, B, hbl⟩
 ·rw [e] at hin; exact absurd hin (by simp)
 have eN : ((l.length : Int) + 1) = ((l.length + 1 : Nat) : Int) := by omega
 have eI : ((i : Int) + 1) = ((i + 1 : Nat) : Int) := by omega
 have zi := take_len encR_len l i hi
 have zd := drop_len encR_len l i
 have hsp := split_at (enc := encR) l i
 have xl := encR_len x
 have fin : (l.take i).flatMap encR ++ (encR x ++ (l.drop i).flatMap encR) = (l.take i ++ x :: l.drop i).flatMap encR := by simp
 have finl : l.length + 1 = (l.take i ++ x :: l.drop i).length := by simp; omega
 refine Ai rfl (Ai (fun hfull => ?_) (fun hroom => ?_))
 ·have hfull : c < l.length + 1 := by omega
  have s0 : SL encR h (.slice (some ⟨b, 0, none⟩) l.length c) l := ho.sl
  refine SL.slc (lo := 0) (hi := i) encR_len s0 (Nat.zero_le _) hi ?_
  intro a1 _ hs1
  simp only [Nat.sub_zero, List.drop_zero] at hs1 ⊢
  refine Ai rfl (fun z hz => ?_)
  have hz := add_in hz (by omega) (by omega)
  subst hz
  refine Ai rfl (fun z hz => ?_)
  have hz := sub_in hz (by omega) (by omega)
  have hz : z = ((l.length + 1 - i : Nat) : Int) := by omega
  subst hz
  have src1 := hs1.src
  refine Ai (by omega) (Ai (by omega) (Ei ((l.take i).flatMap encR) (Ai zi (Ai ?_ (Ai (by omega) (Ai (by omega) ?_))))))
  ·exact src1
  intro c3 b3 h1 hc3 g1
  rw [Int.toNat_natCast] at hc3 g1 ⊢
  have hc3 : l.length + 1 ≤ c3 := by omega
  have e3 : i + (l.length + 1 - i) = l.length + 1 := by omega
  rw [e3] at g1 ⊢
  obtain ⟨Z, hZ⟩ : ∃ Z : List Value, Z = (List.replicate (c3 - (l.length + 1)) ([.string ⟨#[]⟩, .int .i64 0] : List Value)).flatten := ⟨_, rfl⟩
  have hZl : Z.length = (c3 - (l.length + 1)) * 2 := by rw [hZ]; simp
  have q0 : (List.replicate (l.length + 1 - i) ([.string ⟨#[]⟩, .int .i64 0] : List Value)).flatten = ([.string ⟨#[]⟩, .int .i64 0] : List Value) ++ (List.replicate (l.length - i) ([.string ⟨#[]⟩, .int .i64 0] : List Value)).flatten := by
   rw [show l.length + 1 - i = (l.length - i) + 1 by omega, List.replicate_succ, List.flatten_cons]
  have B1 : Blk h1 b3 ((l.take i).flatMap encR ++ (([.string ⟨#[]⟩, .int .i64 0] : List Value) ++ ((List.replicate (l.length - i) ([.string ⟨#[]⟩, .int .i64 0] : List Value)).flatten ++ Z))) := by
   have := g1.blk
   rw [q0, ← hZ] at this
   simpa using this
  have i3 := g1.id
  have lx := hx.lt
  have lb := B.lt
  -- the item
  refine Ai (by omega) (Ai (by omega) (Ai (by omega) ?_))
  intro o3 ho3 _
  have ho3 := ho3 (by omega)
  have t1 : (((l.length + 1 : Nat) : Int) - (i : Int)).toNat = l.length + 1 - i := by omega
  rw [t1]
  have ez : o3 = ((l.take i).flatMap encR).length := by rw [zi]; omega
  have m1 : min 1 (l.length + 1 - i) = 1 := by omega
  refine Ei (encR x) (Ai (by rw [m1, xl]) (Ai ?_ ?_))
  ·rw [m1]; exact src_of [] (encR x) [] (by simpa using hx.chg g1.chg (by simp)) rfl
  refine wr_at _ ([.string ⟨#[]⟩, .int .i64 0] : List Value) _ B1 ez (by rw [xl]; rfl) (encR_one x) ?_
  intro h2 p2
  have B2 := p2.blk
  have g2 := g1.put p2
  -- what stands behind
  refine Ai rfl (fun z hz => ?_)
  have hz := add_in hz (by omega) (by omega)
  have hz : z = ((i + 1 : Nat) : Int) := by omega
  subst hz
  refine Ai (by omega) (Ai (by omega) (Ai (by omega) ?_))
  intro o4 ho4 _
  have ho4 := ho4 (by omega)
  have s2 : SL encR h2 (.slice (some ⟨b, 0, none⟩) l.length c) l := s0.ext g2.chg
  refine SL.slc (lo := i) (hi := l.length) encR_len s2 hi (Nat.le_refl _) ?_
  intro a5 _ hs5
  have e5 : (l.drop i).take (l.length - i) = l.drop i := by rw [List.take_of_length_le]; simp
  rw [e5] at hs5
  have src5 := hs5.src
  have t2 : (((l.length + 1 : Nat) : Int) - ((i + 1 : Nat) : Int)).toNat = l.length - i := by omega
  rw [t2]
  have m2 : min (l.length - i) (l.length - i) = l.length - i := by omega
  refine Ei ((l.drop i).flatMap encR) (Ai (by rw [m2, zd]) (Ai (by rw [m2]; exact src5) ?_))
  refine wr_at ((l.take i).flatMap encR ++ encR x) ((List.replicate (l.length - i) ([.string ⟨#[]⟩, .int .i64 0] : List Value)).flatten) Z (by rw [List.append_assoc]; exact B2) ?_ ?_ (enc_ones encR_one _) ?_
  ·rw [List.length_append, zi, xl]; omega
  ·rw [zd]; simp
  intro h3 p3
  have g3 := g2.put p3
  refine Ai (OL.mk (rest := Z) finl (by rw [← finl]; omega) ?_ ?_) (Ai (g3.chg.mono (by simp)) (fun b' hb' => .inr (by have : b' = b3 := List.mem_singleton.1 hb'; omega)))
  ·have := g3.blk
   rw [← fin]
   simpa using this
  ·rw [← fin]
   simp only [List.length_append, zi, zd, xl, hZl]
   omega
 ·have hroom : l.length + 1 ≤ c := by omega
  have hne' : vb ≠ b := fun e => hne (by simp [ablk, e])
  -- there is room
  obtain ⟨R1, R2, hR, hR1⟩ : ∃ R1 R2, rest = R1 ++ R2 ∧ R1.length = 2 := by
   refine ⟨rest.take 2, rest.drop 2, (List.take_append_drop _ _).symm, ?_⟩
   rw [List.length_append, flatMap_len encR_len] at hbl
   rw [List.length_take]
   omega
  subst hR
  refine Ai rfl (fun z hz => ?_)
  have hz := add_in hz (by omega) (by omega)
  have hz : z = ((l.length + 1 : Nat) : Int) := by omega
  subst hz
  refine Ai (by omega) (Ai (by omega) (Ai (by omega) ?_))
  intro o1 hA hB
  have eo1 : o1 = 0 := by
   have := hA (by omega)
   simpa using this
  subst eo1
  have t0 : (((l.length + 1 : Nat) : Int) - ((0 : Nat) : Int)).toNat = l.length + 1 := by omega
  have t00 : ((c : Int) - ((0 : Nat) : Int)).toNat = c := by omega
  rw [t0, t00]
  refine Ai rfl (fun z hz => ?_)
  have hz := add_in hz (by omega) (by omega)
  have hz : z = ((i + 1 : Nat) : Int) := by omega
  subst hz
  refine Ai (by omega) (Ai (by omega) (Ai (by omega) ?_))
  intro o2 _ _
  have hnil : l.flatMap encR ++ (R1 ++ R2) ≠ [] := by
   intro e
   have := congrArg List.length e
   rw [List.length_append, List.length_append, hR1] at this
   simp at this
  refine ?_
  have ext := ovR_ext (o := 0) (o' := o2) (n := 1) (c := 1) (n' := (((l.length + 1 : Nat) : Int) - ((i + 1 : Nat) : Int)).toNat) (c' := ((c : Int) - ((i + 1 : Nat) : Int)).toNat) hx B hnil hne'
  refine fun w hw => ?_
  obtain ⟨u, w', hr, ⟨rfl, hh⟩, hrest⟩ := ext w hw
  refine ⟨_, w', hr, ?_, hrest⟩
  rw [hh]
  clear ext hr hh hrest w' w hw
  refine Ai rfl (fun z hz => ?_)
  have hz := add_in hz (by omega) (by omega)
  have hz : z = ((i + 1 : Nat) : Int) := by omega
  subst hz
  refine Ai (by omega) (Ai (by omega) (Ai (by omega) ?_))
  intro o3 ho3 ho3'
  have eo3 : o3 = (i + 1) * 2 := by
   have := ho3 (by omega)
   omega
  refine Ai (by omega) (Ai (by omega) (Ai (by omega) ?_))
  intro o4 ho4 _
  have eo4 : o4 = i * 2 := by
   have := ho4 (by omega)
   omega
  have t1 : (((l.length + 1 : Nat) : Int) - ((i + 1 : Nat) : Int)).toNat = l.length - i := by omega
  have t2 : (((l.length + 1 : Nat) : Int) - (i : Int)).toNat = l.length + 1 - i := by omega
  rw [t1, t2]
  have m2 : min (l.length + 1 - i) (l.length - i) = l.length - i := by omega
  have B0 : Blk h b ((l.take i).flatMap encR ++ ((l.drop i).flatMap encR ++ (R1 ++ R2))) := by
   rw [hsp, List.append_assoc] at B; exact B
  -- the part behind, cut anew
  obtain ⟨D1, D2, hD, hD1⟩ : ∃ D1 D2, (l.drop i).flatMap encR ++ R1 = D1 ++ D2 ∧ D1.length = 2 := by
   refine ⟨((l.drop i).flatMap encR ++ R1).take 2, ((l.drop i).flatMap encR ++ R1).drop 2, (List.take_append_drop _ _).symm, ?_⟩
   rw [List.length_take, List.length_append, hR1]; omega
  have hD2 : D2.length = (l.length - i) * 2 := by
   have := congrArg List.length hD
   rw [List.length_append, List.length_append, zd, hR1, hD1] at this
   omega
  refine Ei ((l.drop i).flatMap encR) (Ai (by rw [m2, zd]) (Ai (by rw [m2]; exact src_of _ _ _ B0 (by rw [zi]; exact eo4)) ?_))
  refine wr_at ((l.take i).flatMap encR ++ D1) D2 R2 ?_ ?_ ?_ (enc_ones encR_one _) ?_
  ·rw [List.append_assoc, ← List.append_assoc D1, ← hD, List.append_assoc]; exact B0
  ·rw [List.length_append, zi, hD1, eo3]; omega
  ·rw [zd, hD2]
  intro h1 p1
  have B1 : Blk h1 b ((l.take i).flatMap encR ++ (D1 ++ ((l.drop i).flatMap encR ++ R2))) := by
   have := p1.blk
   rw [List.append_assoc] at this; exact this
  have hx1 := hx.chg p1.chg (by simpa using hne')
  refine Ai (by omega) (Ai (by omega) (Ai (by omega) ?_))
  intro o5 ho5 _
  have eo5 : o5 = i * 2 := by
   have := ho5 (by omega)
   omega
  rw [t2]
  have m1 : min 1 (l.length + 1 - i) = 1 := by omega
  refine Ei (encR x) (Ai (by rw [m1, xl]) (Ai ?_ ?_))
  ·rw [m1]; exact src_of [] (encR x) [] (by simpa using hx1) rfl
  refine wr_at _ D1 _ B1 (by rw [zi]; exact eo5) (by rw [xl, hD1]) (encR_one x) ?_
  intro h2 p2
  refine Ai (OL.mk (rest := R2) finl (by rw [← finl]; exact hroom) ?_ ?_) (Ai (p1.trans p2).chg (fun _ h => .inl h))
  ·have := p2.blk
   rw [← fin]
   simpa using this
  ·rw [← fin]
   rw [hsp] at hbl
   simp only [List.length_append, zi, zd, xl, hR1] at hbl ⊢
   omega
set_option maxHeartbeats 1000000 in
/-- slices.Delete of one item. -/
theorem delR_calls {h : Heap} {v : Value} {l : List Rank} {i : Nat} (ho : OL encR 2 h v l) (hl : l.length ≤ 80000) (hi : i < l.length) :
  CallsH Tryz.prog 261 [v, .int .i64 i, .int .i64 (i + 1 : Nat)] h
   (Ret fun r h' => OL encR 2 h' r (l.take i ++ l.drop (i + 1)) ∧ Chg (vblk v) h h' ∧ ∀ b ∈ vblk r, b ∈ vblk v) := by
 obtain ⟨a, c, rfl, hlc⟩ := ho.form
 refine f261_calls (by simp) ?_
 obtain ⟨_, hopen⟩ := ho.open
 rcases hopen with ⟨_, e, _⟩ | ⟨b, rfl, _, rest, B, hbl⟩
 ·rw [e] at hi; exact absurd hi (by simp)
 refine Ai (by omega) (Ai (by omega) (Ai (by omega) (Ai (by omega) ?_)))
 intro o0 _ _
 refine Ai rfl (Ai (fun e => absurd e (by omega)) (fun _ => ?_))
 have zi := take_len encR_len l i (by omega)
 have zd := drop_len encR_len l (i + 1)
 have hcons : l.drop i = l[i] :: l.drop (i + 1) := List.drop_eq_getElem_cons hi
 have hsp := split_at (enc := encR) l i
 rw [hcons, List.flatMap_cons] at hsp
 have xl := encR_len l[i]
 have B0 : Blk h b ((l.take i).flatMap encR ++ (encR l[i] ++ ((l.drop (i + 1)).flatMap encR ++ rest))) := by
  rw [hsp] at B; simpa using B
 -- s[:i]
 refine Ai (by omega) (Ai (by omega) (Ai (by omega) ?_))
 intro o1 ho1 ho1'
 have eo1 : o1 = 0 := by
  have := ho1 (by omega)
  simpa using this
 subst eo1
 refine Ai (by omega) (Ai (by omega) (Ai (by omega) ?_))
 intro o2 ho2 ho2'
 have t1 : ((i : Int) - ((0 : Nat) : Int)).toNat = i := by omega
 have t2 : ((c : Int) - ((0 : Nat) : Int)).toNat = c := by omega
 have t3 : ((l.length : Int) - ((i + 1 : Nat) : Int)).toNat = l.length - (i + 1) := by omega
 rw [t1, t2, t3]
 have hfit : i + (l.length - (i + 1)) ≤ c := by omega
 -- the end of the part behind, cut anew
 obtain ⟨D1, D2, hD, hD1, hD2⟩ : ∃ D1 D2, encR l[i] ++ (l.drop (i + 1)).flatMap encR = D1 ++ D2 ∧ D1.length = (l.length - (i + 1)) * 2 ∧ D2.length = 2 := by
  refine ⟨(encR l[i] ++ (l.drop (i + 1)).flatMap encR).take ((l.length - (i + 1)) * 2), (encR l[i] ++ (l.drop (i + 1)).flatMap encR).drop ((l.length - (i + 1)) * 2), (List.take_append_drop _ _).symm, ?_, ?_⟩
  ·rw [List.length_take, List.length_append, xl, zd]; omega
  ·rw [List.length_drop, List.length_append, xl, zd]; omega
 have fin : (l.take i).flatMap encR ++ (l.drop (i + 1)).flatMap encR = (l.take i ++ l.drop (i + 1)).flatMap encR := by simp
 have finl : i + (l.length - (i + 1)) = (l.take i ++ l.drop (i + 1)).length := by simp; omega
 have hY : Src h (some ⟨b, o2, none⟩) (l.length - (i + 1)) ((l.drop (i + 1)).flatMap encR) := by
  by_cases hlt : i + 1 < c
  ·have := ho2 (by omega)
   refine src_of ((l.take i).flatMap encR ++ encR l[i]) _ rest (by simpa using B0) ?_
   rw [List.length_append, zi, xl]; omega
  ·have : l.drop (i + 1) = [] := by apply List.drop_eq_nil_of_le; omega
   rw [this]
   intro j u hj
   simp at hj
 refine ⟨(l.take i).flatMap encR, (l.drop (i + 1)).flatMap encR, zi, zd, src_of [] _ _ B0 rfl, hY, enc_ones encR_one _, fun _ => ?_, fun hlt => absurd hlt (by omega)⟩
 have bl : ((l.take i).flatMap encR ++ (D1 ++ (D2 ++ rest))).length = c * 2 := by
  rw [hsp] at hbl
  have := congrArg List.length hD
  simp only [List.length_append] at hbl this ⊢
  omega
 refine ⟨(l.take i).flatMap encR ++ (D1 ++ (D2 ++ rest)), ?_, ?_, ?_⟩
 ·rw [← List.append_assoc D1, ← hD, List.append_assoc]; exact B0
 ·rw [bl]
  have : (i + (l.length - (i + 1))) * 2 ≤ c * 2 := Nat.mul_le_mul_right _ hfit
  omega
 intro h1 p1
 have e1 : splice ((l.take i).flatMap encR ++ (D1 ++ (D2 ++ rest))) (0 + i * 2) ((l.drop (i + 1)).flatMap encR) = (l.take i).flatMap encR ++ ((l.drop (i + 1)).flatMap encR ++ (D2 ++ rest)) := by
  rw [Nat.zero_add, ← zi]
  exact splice_at _ _ _ _ (by rw [zd, hD1])
 rw [e1] at p1
 -- clear
 refine Ai (by omega) (Ai (by omega) (Ai (by omega) ?_))
 intro o3 ho3 ho3'
 have t4 : ((l.length : Int) - ((i + (l.length - (i + 1)) : Nat) : Int)).toNat = 1 := by omega
 rw [t4]
 have eo3 : o3 = (l.length - 1) * 2 := by
  have := ho3 (by omega)
  omega
 refine wr_at ((l.take i).flatMap encR ++ (l.drop (i + 1)).flatMap encR) D2 rest (by simpa using p1.blk) ?_ (by simp [hD2]) (by decide) ?_
 ·rw [List.length_append, zi, zd, eo3]; omega
 intro h2 p2
 have p2' := p2.blk
 refine Ai (OL.mk (rest := (List.replicate 1 ([.string ⟨#[]⟩, .int .i64 0] : List Value)).flatten ++ rest) finl (by rw [← finl]; exact hfit) ?_ ?_) (Ai (p1.trans p2).chg (fun _ h => h))
 ·rw [← fin]; exact p2'
 ·rw [← fin]
  rw [hsp] at hbl
  simp only [List.length_append] at hbl ⊢
  simp only [zi, zd, xl] at hbl ⊢
  simp
  omega
theorem compareBytes_zero : ∀ a b : List UInt8, (Lib.compareBytes a b = 0 ↔ a = b)
 |[], [] => by simp [Lib.compareBytes]
 |[], _ :: _ => by simp [Lib.compareBytes]
 |_ :: _, [] => by simp [Lib.compareBytes]
 |x :: a, y :: b => by
  have ih := compareBytes_zero a b
  simp only [Lib.compareBytes, UInt8.lt_iff_toNat_lt]
  by_cases h1 : x.toNat < y.toNat
  ·rw [if_pos h1]
   constructor
   ·intro h; omega
   ·intro h; injection h with h2 _; subst h2; omega
  ·rw [if_neg h1]
   by_cases h2 : y.toNat < x.toNat
   ·rw [if_pos h2]
    constructor
    ·intro h; omega
    ·intro h; injection h with h3 _; subst h3; omega
   ·rw [if_neg h2, ih]
    have : x = y := UInt8.toNat_inj.1 (by omega)
    constructor
    ·intro h; rw [this, h]
    ·intro h; injection h
theorem cmpB_zero (a b : ByteArray) : cmpB a b = 0 ↔ a = b := by
 unfold cmpB
 rw [compareBytes_zero]
 constructor
 ·intro h
  cases a; cases b; simp_all
 ·intro h; rw [h]
theorem wrapU {x : Int} (h0 : 0 ≤ x) (h1 : x < 18446744073709551616) : IntKind.u64.wrap x = x := by
 have e : IntKind.u64.wrap x = x % 18446744073709551616 := by simp [IntKind.wrap, IntKind.bits, IntKind.signed]
 rw [e]; omega
structure CutAt {α : Type} (lo : α → Bool) (l : List α) (k : Nat) : Prop where
 le : k ≤ l.length
 low : ∀ i (_ : i < k) (h : i < l.length), lo l[i] = true
 high : ∀ i (_ : k ≤ i) (h : i < l.length), lo l[i] = false
def CmpS (g : Nat) (tgt cap : List Value) (lo eq : ByteArray → Bool) (h : Heap) : Prop := ∀ h' x, Chg [] h h' → CallsH Tryz.prog g (.string x :: (tgt ++ cap)) h' (Ret fun u h'' => (∃ z, u = .int .i64 z ∧ (z < 0 ↔ lo x = true) ∧ (z = 0 ↔ eq x = true)) ∧ Chg [] h' h'')
theorem bsS_calls {h : Heap} {v : Value} {l : List ByteArray} {g : Nat} {cap : List Value} {tgt : ByteArray} {lo eq : ByteArray → Bool} (hv : SL encS h v l) (hl : l.length < 4611686018427387904) (hg : CmpS g [.string tgt] cap lo eq h)
  (hm : ∀ i j (hj : j < l.length) (hi : i ≤ j), lo l[j] = true → lo (l[i]'(by omega)) = true) :
  CallsH Tryz.prog 285 [v, .string tgt, .func (.func g) #[] ⟨cap⟩] h
   (Ret fun r h' => (∃ k, r = .tuple #[.int .i64 (k : Nat), .bool ((l[k]?).any eq)] ∧ CutAt lo l k) ∧ Chg [] h h') := by
 obtain ⟨a, c, rfl, hlc⟩ := hv.form
 refine f285_calls (by simp) ?_
 have hv0 := hv
 have hc0 : Chg [] h h := Chg.refl h
 refine loop_intro (fun p : Nat × Nat => [(0, .slice a l.length c), (1, .string tgt), (2, .func (.func g) #[] ⟨cap⟩), (8, .int .i64 l.length), (9, .int .i64 p.1), (10, .int .i64 p.2)])
  (fun p h' => p.1 ≤ p.2 ∧ p.2 ≤ l.length ∧ Chg [] h h' ∧ (∀ i (_ : i < p.1) (h : i < l.length), lo l[i] = true) ∧ (∀ i (_ : p.2 ≤ i) (h : i < l.length), lo l[i] = false)) (fun p => p.2 - p.1) (0, l.length)
  ⟨rfl, rfl, rfl, rfl, rfl, rfl, trivial⟩ ⟨Nat.zero_le _, Nat.le_refl _, Chg.refl h, by intro i hi; omega, by intro i hi hh; omega⟩ ?_
 rintro ⟨i, j⟩ h1 ⟨hij, hjl, hc, hlow, hhigh⟩
 simp only at hij hjl hlow hhigh
 refine Ai rfl (Ai (fun hlt => ?_) (fun hlt => ?_))
 ·have hlt : i < j := by omega
  refine Ai rfl (fun z hz => ?_)
  have hz := add_in hz (by omega) (by omega)
  subst hz
  intro z hz
  rw [wrapU (by omega) (by omega)] at hz
  subst hz
  refine Ai rfl (fun z hz => ?_)
  have hz : z = ((i : Int) + j) / 2 := by
   have : z = ((i : Int) + j).fdiv (2 ^ 1) := hz
   rw [this, Int.fdiv_eq_ediv_of_nonneg _ (by decide)]
   rfl
  subst hz
  intro z hz
  rw [wrap_in (by omega) (by omega)] at hz
  obtain ⟨m, hm1⟩ : ∃ m : Nat, m = (i + j) / 2 := ⟨_, rfl⟩
  have hz : z = (m : Int) := by omega
  subst hz
  have him : i ≤ m := by omega
  have hmj : m < j := by omega
  have hml : m < l.length := by omega
  have hvx := hv0.ext hc
  obtain ⟨b, o, rfl⟩ := hvx.addr (by omega)
  have hcs := hvx.cells encS_len (i := m) (x := l[m]) (by simp [hml])
  refine Ai (by omega) (Ai (by omega) (Ei _ (Ai (hcs 0 _ rfl) ?_)))
  refine call_ret (hg h1 l[m] (hc0.nil hc)) ?_
  rintro _ h2 ⟨⟨z, rfl, hzn, _⟩, hc2⟩
  refine Ai rfl (Ai (fun hneg => ?_) (fun hneg => ?_))
  ·have hb : lo l[m] = true := hzn.1 hneg
   refine Ai rfl (fun y hy => ?_)
   have hy := add_in hy (by omega) (by omega)
   have hy : y = ((m + 1 : Nat) : Int) := by omega
   subst hy
   refine Ai rfl (Ei (m + 1, j) (Ai ?_ (Ai ?_ ?_)))
   ·exact ⟨rfl, rfl, rfl, rfl, rfl, rfl, trivial⟩
   ·refine ⟨by simp only; omega, hjl, hc.nil hc2, fun q hq hql => ?_, hhigh⟩
    exact hm q m hml (by simp only at hq; omega) hb
   ·simp only; omega
  ·have hb : lo l[m] = false := by
    cases hbb : lo l[m] with
    |false => rfl
    |true => exact absurd (hzn.2 hbb) hneg
   refine Ai rfl (Ei (i, m) (Ai ?_ (Ai ?_ ?_)))
   ·exact ⟨rfl, rfl, rfl, rfl, rfl, rfl, trivial⟩
   ·refine ⟨him, by simp only; omega, hc.nil hc2, hlow, fun q hq hql => ?_⟩
    cases hbb : lo l[q] with
    |false => rfl
    |true =>
     have := hm m q hql hq hbb
     rw [hb] at this; cases this
   ·simp only; omega
 ·have e : i = j := by omega
  subst e
  have cut : CutAt lo l i := ⟨hjl, hlow, hhigh⟩
  refine Ai rfl (Ai (fun hin => ?_) (fun hin => ?_))
  ·have hin : i < l.length := by omega
   have hvx := hv0.ext hc
   obtain ⟨b, o, rfl⟩ := hvx.addr (by omega)
   have hcs := hvx.cells encS_len (i := i) (x := l[i]) (by simp [hin])
   refine Ai (by omega) (Ai (by omega) (Ei _ (Ai (hcs 0 _ rfl) ?_)))
   refine call_ret (hg h1 l[i] (hc0.nil hc)) ?_
   rintro _ h2 ⟨⟨z, rfl, _, hz0⟩, hc2⟩
   have hget : l[i]? = some l[i] := List.getElem?_eq_getElem hin
   refine Ai rfl (Ai (fun he => ?_) (fun he => ?_))
   ·refine Ai (Ei i (Ai ?_ cut)) ((hc0.nil hc).nil hc2)
    rw [hget]
    show Value.tuple _ = Value.tuple #[_, .bool (eq l[i])]
    rw [hz0.1 he]; rfl
   ·refine Ai (Ei i (Ai ?_ cut)) ((hc0.nil hc).nil hc2)
    rw [hget]
    show Value.tuple _ = Value.tuple #[_, .bool (eq l[i])]
    have : eq l[i] = false := by
     cases hbb : eq l[i] with
     |false => rfl
     |true => exact absurd (hz0.2 hbb) he
    rw [this]; rfl
  ·have hin : i = l.length := by omega
   refine Ai (Ei i (Ai ?_ cut)) (hc0.nil hc)
   rw [List.getElem?_eq_none (by omega)]
   rfl
def CmpP (g : Nat) (tgt cap : List Value) (lo eq : Pair → Bool) (h : Heap) : Prop := ∀ h' x, Chg [] h h' → CallsH Tryz.prog g (.agg ⟨encP x⟩ :: (tgt ++ cap)) h' (Ret fun u h'' => (∃ z, u = .int .i64 z ∧ (z < 0 ↔ lo x = true) ∧ (z = 0 ↔ eq x = true)) ∧ Chg [] h' h'')
theorem bsP_calls {h : Heap} {v : Value} {l : List Pair} {g : Nat} {cap : List Value} {tgt : ByteArray} {lo eq : Pair → Bool} (hv : SL encP h v l) (hl : l.length < 4611686018427387904) (hg : CmpP g [.string tgt] cap lo eq h)
  (hm : ∀ i j (hj : j < l.length) (hi : i ≤ j), lo l[j] = true → lo (l[i]'(by omega)) = true) :
  CallsH Tryz.prog 280 [v, .string tgt, .func (.func g) #[] ⟨cap⟩] h
   (Ret fun r h' => (∃ k, r = .tuple #[.int .i64 (k : Nat), .bool ((l[k]?).any eq)] ∧ CutAt lo l k) ∧ Chg [] h h') := by
 obtain ⟨a, c, rfl, hlc⟩ := hv.form
 refine f280_calls (by simp) ?_
 have hv0 := hv
 have hc0 : Chg [] h h := Chg.refl h
 refine loop_intro (fun p : Nat × Nat => [(0, .slice a l.length c), (1, .string tgt), (2, .func (.func g) #[] ⟨cap⟩), (8, .int .i64 l.length), (9, .int .i64 p.1), (10, .int .i64 p.2)])
  (fun p h' => p.1 ≤ p.2 ∧ p.2 ≤ l.length ∧ Chg [] h h' ∧ (∀ i (_ : i < p.1) (h : i < l.length), lo l[i] = true) ∧ (∀ i (_ : p.2 ≤ i) (h : i < l.length), lo l[i] = false)) (fun p => p.2 - p.1) (0, l.length)
  ⟨rfl, rfl, rfl, rfl, rfl, rfl, trivial⟩ ⟨Nat.zero_le _, Nat.le_refl _, Chg.refl h, by intro i hi; omega, by intro i hi hh; omega⟩ ?_
 rintro ⟨i, j⟩ h1 ⟨hij, hjl, hc, hlow, hhigh⟩
 simp only at hij hjl hlow hhigh
 refine Ai rfl (Ai (fun hlt => ?_) (fun hlt => ?_))
 ·have hlt : i < j := by omega
  refine Ai rfl (fun z hz => ?_)
  have hz := add_in hz (by omega) (by omega)
  subst hz
  intro z hz
  rw [wrapU (by omega) (by omega)] at hz
  subst hz
  refine Ai rfl (fun z hz => ?_)
  have hz : z = ((i : Int) + j) / 2 := by
   have : z = ((i : Int) + j).fdiv (2 ^ 1) := hz
   rw [this, Int.fdiv_eq_ediv_of_nonneg _ (by decide)]
   rfl
  subst hz
  intro z hz
  rw [wrap_in (by omega) (by omega)] at hz
  obtain ⟨m, hm1⟩ : ∃ m : Nat, m = (i + j) / 2 := ⟨_, rfl⟩
  have hz : z = (m : Int) := by omega
  subst hz
  have him : i ≤ m := by omega
  have hmj : m < j := by omega
  have hml : m < l.length := by omega
  have hvx := hv0.ext hc
  obtain ⟨b, o, rfl⟩ := hvx.addr (by omega)
  have hcs := hvx.cells encP_len (i := m) (x := l[m]) (by simp [hml])
  refine Ai (by omega) (Ai (by omega) (Ei (encP l[m]) (Ai rfl (Ai hcs ?_))))
  refine call_ret (hg h1 l[m] (hc0.nil hc)) ?_
  rintro _ h2 ⟨⟨z, rfl, hzn, _⟩, hc2⟩
  refine Ai rfl (Ai (fun hneg => ?_) (fun hneg => ?_))
  ·have hb : lo l[m] = true := hzn.1 hneg
   refine Ai rfl (fun y hy => ?_)
   have hy := add_in hy (by omega) (by omega)
   have hy : y = ((m + 1 : Nat) : Int) := by omega
   subst hy
   refine Ai rfl (Ei (m + 1, j) (Ai ?_ (Ai ?_ ?_)))
   ·exact ⟨rfl, rfl, rfl, rfl, rfl, rfl, trivial⟩
   ·refine ⟨by simp only; omega, hjl, hc.nil hc2, fun q hq hql => ?_, hhigh⟩
    exact hm q m hml (by simp only at hq; omega) hb
   ·simp only; omega
  ·have hb : lo l[m] = false := by
    cases hbb : lo l[m] with
    |false => rfl
    |true => exact absurd (hzn.2 hbb) hneg
   refine Ai rfl (Ei (i, m) (Ai ?_ (Ai ?_ ?_)))
   ·exact ⟨rfl, rfl, rfl, rfl, rfl, rfl, trivial⟩
   ·refine ⟨him, by simp only; omega, hc.nil hc2, hlow, fun q hq hql => ?_⟩
    cases hbb : lo l[q] with
    |false => rfl
    |true =>
     have := hm m q hql hq hbb
     rw [hb] at this; cases this
   ·simp only; omega
 ·have e : i = j := by omega
  subst e
  have cut : CutAt lo l i := ⟨hjl, hlow, hhigh⟩
  refine Ai rfl (Ai (fun hin => ?_) (fun hin => ?_))
  ·have hin : i < l.length := by omega
   have hvx := hv0.ext hc
   obtain ⟨b, o, rfl⟩ := hvx.addr (by omega)
   have hcs := hvx.cells encP_len (i := i) (x := l[i]) (by simp [hin])
   refine Ai (by omega) (Ai (by omega) (Ei (encP l[i]) (Ai rfl (Ai hcs ?_))))
   refine call_ret (hg h1 l[i] (hc0.nil hc)) ?_
   rintro _ h2 ⟨⟨z, rfl, _, hz0⟩, hc2⟩
   have hget : l[i]? = some l[i] := List.getElem?_eq_getElem hin
   refine Ai rfl (Ai (fun he => ?_) (fun he => ?_))
   ·refine Ai (Ei i (Ai ?_ cut)) ((hc0.nil hc).nil hc2)
    rw [hget]
    show Value.tuple _ = Value.tuple #[_, .bool (eq l[i])]
    rw [hz0.1 he]; rfl
   ·refine Ai (Ei i (Ai ?_ cut)) ((hc0.nil hc).nil hc2)
    rw [hget]
    show Value.tuple _ = Value.tuple #[_, .bool (eq l[i])]
    have : eq l[i] = false := by
     cases hbb : eq l[i] with
     |false => rfl
     |true => exact absurd (hz0.2 hbb) he
    rw [this]; rfl
  ·have hin : i = l.length := by omega
   refine Ai (Ei i (Ai ?_ cut)) (hc0.nil hc)
   rw [List.getElem?_eq_none (by omega)]
   rfl
def CmpR (g : Nat) (tgt cap : List Value) (lo : Rank → Bool) (h : Heap) : Prop := ∀ h' x, Chg [] h h' → CallsH Tryz.prog g (.agg ⟨encR x⟩ :: (tgt ++ cap)) h' (Ret fun u h'' => (∃ z, u = .int .i64 z ∧ (z < 0 ↔ lo x = true)) ∧ Chg [] h' h'')
theorem bsR_calls {h : Heap} {v : Value} {l : List Rank} {g : Nat} {cap : List Value} {tgt : Rank} {lo : Rank → Bool} (hv : SL encR h v l) (hl : l.length < 4611686018427387904) (hg : CmpR g [.agg ⟨encR tgt⟩] cap lo h)
  (hm : ∀ i j (hj : j < l.length) (hi : i ≤ j), lo l[j] = true → lo (l[i]'(by omega)) = true) :
  CallsH Tryz.prog 257 [v, .agg ⟨encR tgt⟩, .func (.func g) #[] ⟨cap⟩] h
   (Ret fun r h' => (∃ k f, r = .tuple #[.int .i64 (k : Nat), .bool f] ∧ CutAt lo l k) ∧ Chg [] h h') := by
 obtain ⟨a, c, rfl, hlc⟩ := hv.form
 refine f257_calls (by simp) ?_
 intro b4 h0 g0
 have hc0 := g0.chg
 have hv0 := hv.ext hc0
 have B4 : Blk h0 b4 (encR tgt) := g0.blk
 refine loop_intro (fun p : Nat × Nat => [(0, .slice a l.length c), (4, .pointer (some ⟨b4, 0, none⟩)), (2, .func (.func g) #[] ⟨cap⟩), (8, .int .i64 l.length), (9, .int .i64 p.1), (10, .int .i64 p.2)])
  (fun p h' => p.1 ≤ p.2 ∧ p.2 ≤ l.length ∧ Chg [] h0 h' ∧ (∀ i (_ : i < p.1) (h : i < l.length), lo l[i] = true) ∧ (∀ i (_ : p.2 ≤ i) (h : i < l.length), lo l[i] = false)) (fun p => p.2 - p.1) (0, l.length)
  ⟨rfl, rfl, rfl, rfl, rfl, rfl, trivial⟩ ⟨Nat.zero_le _, Nat.le_refl _, Chg.refl h0, by intro i hi; omega, by intro i hi hh; omega⟩ ?_
 rintro ⟨i, j⟩ h1 ⟨hij, hjl, hc, hlow, hhigh⟩
 simp only at hij hjl hlow hhigh
 refine Ai rfl (Ai (fun hlt => ?_) (fun hlt => ?_))
 ·have hlt : i < j := by omega
  refine Ai rfl (fun z hz => ?_)
  have hz := add_in hz (by omega) (by omega)
  subst hz
  intro z hz
  rw [wrapU (by omega) (by omega)] at hz
  subst hz
  refine Ai rfl (fun z hz => ?_)
  have hz : z = ((i : Int) + j) / 2 := by
   have : z = ((i : Int) + j).fdiv (2 ^ 1) := hz
   rw [this, Int.fdiv_eq_ediv_of_nonneg _ (by decide)]
   rfl
  subst hz
  intro z hz
  rw [wrap_in (by omega) (by omega)] at hz
  obtain ⟨m, hm1⟩ : ∃ m : Nat, m = (i + j) / 2 := ⟨_, rfl⟩
  have hz : z = (m : Int) := by omega
  subst hz
  have him : i ≤ m := by omega
  have hmj : m < j := by omega
  have hml : m < l.length := by omega
  have hvx := hv0.ext hc
  obtain ⟨b, o, rfl⟩ := hvx.addr (by omega)
  have hcs := hvx.cells encR_len (i := m) (x := l[m]) (by simp [hml])
  refine Ai (by omega) (Ai (by omega) (Ei (encR l[m]) (Ai rfl (Ai hcs ?_))))
  refine Ei (encR tgt) (Ai rfl (Ai (cells_blk (B4.chg hc (by simp))) ?_))
  refine call_ret (hg h1 l[m] (hc0.nil hc)) ?_
  rintro _ h2 ⟨⟨z, rfl, hzn⟩, hc2⟩
  refine Ai rfl (Ai (fun hneg => ?_) (fun hneg => ?_))
  ·have hb : lo l[m] = true := hzn.1 hneg
   refine Ai rfl (fun y hy => ?_)
   have hy := add_in hy (by omega) (by omega)
   have hy : y = ((m + 1 : Nat) : Int) := by omega
   subst hy
   refine Ai rfl (Ei (m + 1, j) (Ai ?_ (Ai ?_ ?_)))
   ·exact ⟨rfl, rfl, rfl, rfl, rfl, rfl, trivial⟩
   ·refine ⟨by simp only; omega, hjl, hc.nil hc2, fun q hq hql => ?_, hhigh⟩
    exact hm q m hml (by simp only at hq; omega) hb
   ·simp only; omega
  ·have hb : lo l[m] = false := by
    cases hbb : lo l[m] with
    |false => rfl
    |true => exact absurd (hzn.2 hbb) hneg
   refine Ai rfl (Ei (i, m) (Ai ?_ (Ai ?_ ?_)))
   ·exact ⟨rfl, rfl, rfl, rfl, rfl, rfl, trivial⟩
   ·refine ⟨him, by simp only; omega, hc.nil hc2, hlow, fun q hq hql => ?_⟩
    cases hbb : lo l[q] with
    |false => rfl
    |true =>
     have := hm m q hql hq hbb
     rw [hb] at this; cases this
   ·simp only; omega
 ·have e : i = j := by omega
  subst e
  have cut : CutAt lo l i := ⟨hjl, hlow, hhigh⟩
  refine Ai rfl (Ai (fun hin => ?_) (fun hin => ?_))
  ·have hin : i < l.length := by omega
   have hvx := hv0.ext hc
   obtain ⟨b, o, rfl⟩ := hvx.addr (by omega)
   have hcs := hvx.cells encR_len (i := i) (x := l[i]) (by simp [hin])
   refine Ai (by omega) (Ai (by omega) (Ei (encR l[i]) (Ai rfl (Ai hcs ?_))))
   refine Ei (encR tgt) (Ai rfl (Ai (cells_blk (B4.chg hc (by simp))) ?_))
   refine call_ret (hg h1 l[i] (hc0.nil hc)) ?_
   rintro _ h2 ⟨⟨z, rfl, _⟩, hc2⟩
   refine Ai rfl (Ai (fun he => ?_) (fun he => ?_))
   ·exact Ai (Ei i (Ei true (Ai rfl cut))) ((hc0.nil hc).nil hc2)
   ·exact Ai (Ei i (Ei false (Ai rfl cut))) ((hc0.nil hc).nil hc2)
  ·have hin : i = l.length := by omega
   exact Ai (Ei i (Ei false (Ai rfl cut))) (hc0.nil hc)
theorem itself_calls {h : Heap} (s : ByteArray) : CallsH Tryz.prog 255 [.string s] h (Ret fun u h' => u = .string s ∧ h' = h) := by
 refine f255_calls (by simp) ?_
 exact Ai rfl rfl
theorem pairName_calls {h : Heap} (p : Pair) : CallsH Tryz.prog 249 [.agg ⟨encP p⟩] h (Ret fun u h' => u = .string p.name ∧ Chg [] h h') := by
 refine f249_calls (by simp) ?_
 intro b1 h1 g1
 have B1 : Blk h1 b1 (encP p) := g1.blk
 refine Ei _ (Ai (cell_blk B1 rfl) ?_)
 exact Ai rfl g1.chg
theorem rising_lt {α : Type} {lt : α → α → Bool} (htr : ∀ a b c, lt a b = true → lt b c = true → lt a c = true) : ∀ {l : List α}, rising lt l = true → l.Pairwise fun a b => lt a b = true
 |[], _ => List.Pairwise.nil
 |[x], _ => List.pairwise_singleton _ _
 |x :: y :: l, h => by
  simp only [rising, Bool.and_eq_true] at h
  have ih := rising_lt htr h.2
  refine List.Pairwise.cons (fun z hz => ?_) ih
  rcases List.mem_cons.1 hz with rfl | hz
  ·exact h.1
  ·exact htr _ _ _ h.1 (List.rel_of_pairwise_cons ih hz)
theorem bynS_calls {h : Heap} {v : Value} {l : List ByteArray} (name : ByteArray) (hv : SL encS h v l) (hl : l.length < 4611686018427387904) (hs : l.Pairwise fun a b => sless a b = true) :
  CallsH Tryz.prog 254 [v, .func (.func 255) #[] #[], .string name] h
   (Ret fun r h' => (∃ k, r = .tuple #[.int .i64 (k : Nat), .bool ((l[k]?).any fun x => decide (x = name))] ∧ CutAt (fun x => sless x name) l k) ∧ Chg [] h h') := by
 refine f254_calls (by simp) ?_
 intro b4 h1 g1
 have B4 : Blk h1 b4 [.func (.func 255) #[] #[]] := g1.blk
 refine call_ret (bsS_calls (g := 286) (cap := [ptr b4]) (lo := fun x => sless x name) (eq := fun x => decide (x = name)) (hv.ext g1.chg) hl ?_ ?_) ?_
 ·intro h2 x hc2
  refine f286_calls (by simp) ?_
  refine Ei _ (Ai (cell_blk (B4.chg hc2 (by simp)) rfl) ?_)
  refine call_ret (itself_calls x) ?_
  rintro _ h3 ⟨rfl, rfl⟩
  refine call_ret (cmpS_calls x name) ?_
  rintro _ h4 ⟨rfl, rfl⟩
  exact Ai (Ei _ (Ai rfl (Ai (cmpB_neg _ _) (by rw [cmpB_zero]; simp)))) (Chg.refl _)
 ·intro i j hj hi hlo
  rcases Nat.lt_or_eq_of_le hi with hlt | rfl
  ·exact sless_trans (List.pairwise_iff_getElem.1 hs i j (by omega) hj hlt) hlo
  ·exact hlo
 ·rintro _ h2 ⟨⟨k, rfl, hk⟩, hc2⟩
  exact Ai (Ei k (Ai rfl hk)) (g1.chg.nil hc2)
theorem bynP_calls {h : Heap} {v : Value} {l : List Pair} (name : ByteArray) (hv : SL encP h v l) (hl : l.length < 4611686018427387904) (hs : l.Pairwise fun a b => sless a.name b.name = true) :
  CallsH Tryz.prog 248 [v, .func (.func 249) #[] #[], .string name] h
   (Ret fun r h' => (∃ k, r = .tuple #[.int .i64 (k : Nat), .bool ((l[k]?).any fun x => decide (x.name = name))] ∧ CutAt (fun x => sless x.name name) l k) ∧ Chg [] h h') := by
 refine f248_calls (by simp) ?_
 intro b4 h1 g1
 have B4 : Blk h1 b4 [.func (.func 249) #[] #[]] := g1.blk
 refine call_ret (bsP_calls (g := 281) (cap := [ptr b4]) (lo := fun x => sless x.name name) (eq := fun x => decide (x.name = name)) (hv.ext g1.chg) hl ?_ ?_) ?_
 ·intro h2 x hc2
  refine f281_calls (by simp) ?_
  intro b3 h3 g3
  have B3 : Blk h3 b3 (encP x) := g3.blk
  have B43 := (B4.chg hc2 (by simp)).chg g3.chg (by simp)
  refine Ei _ (Ai (cell_blk B43 rfl) ?_)
  refine Ei (encP x) (Ai rfl (Ai (cells_blk B3) ?_))
  refine call_ret (pairName_calls x) ?_
  rintro _ h4 ⟨rfl, hc4⟩
  refine call_ret (cmpS_calls x.name name) ?_
  rintro _ h5 ⟨rfl, rfl⟩
  exact Ai (Ei _ (Ai rfl (Ai (cmpB_neg _ _) (by rw [cmpB_zero]; simp)))) (g3.chg.nil hc4)
 ·intro i j hj hi hlo
  rcases Nat.lt_or_eq_of_le hi with hlt | rfl
  ·exact sless_trans (List.pairwise_iff_getElem.1 hs i j (by omega) hj hlt) hlo
  ·exact hlo
 ·rintro _ h2 ⟨⟨k, rfl, hk⟩, hc2⟩
  exact Ai (Ei k (Ai rfl hk)) (g1.chg.nil hc2)
theorem ixfR_calls {h : Heap} {v : Value} {l : List Rank} {g : Nat} {cap : List Value} {p : Rank → Bool} (hv : SL encR h v l) (hl : l.length < 4611686018427387904)
  (hg : ∀ h' x, Chg [] h h' → CallsH Tryz.prog g (.agg ⟨encR x⟩ :: cap) h' (Ret fun u h'' => u = .bool (p x) ∧ Chg [] h' h'')) :
  CallsH Tryz.prog 259 [v, .func (.func g) #[] ⟨cap⟩] h
   (Ret fun r h' => ((∃ (k : Nat) (hk : k < l.length), r = .int .i64 k ∧ p l[k] = true) ∨ (r = .int .i64 (-1) ∧ ∀ x ∈ l, p x = false)) ∧ Chg [] h h') := by
 obtain ⟨a, c, rfl, hlc⟩ := hv.form
 refine f259_calls (by simp) ?_
 refine loop_intro (fun k : Nat => [(0, .slice a l.length c), (1, .func (.func g) #[] ⟨cap⟩), (7, .int .i64 l.length), (8, .int .i64 k)]) (fun k h' => k ≤ l.length ∧ Chg [] h h' ∧ ∀ x ∈ l.take k, p x = false) (fun k => l.length - k) 0
  ⟨rfl, rfl, rfl, rfl, trivial⟩ ⟨Nat.zero_le _, Chg.refl h, by simp⟩ ?_
 rintro k h1 ⟨hk, hc, hall⟩
 refine Ai rfl (Ai (fun hlt => ?_) (fun hlt => ?_))
 ·have hlt : k < l.length := by omega
  have hv1 := hv.ext hc
  obtain ⟨b, o, rfl⟩ := hv1.addr (by omega)
  have hcs := hv1.cells encR_len (i := k) (x := l[k]) (by simp [hlt])
  refine Ai (by omega) (Ai (by omega) (Ei (encR l[k]) (Ai rfl (Ai hcs ?_))))
  refine call_ret (hg h1 l[k] hc) ?_
  rintro _ h2 ⟨rfl, hc2⟩
  cases hp : p l[k] with
  |true => exact Ai (.inl ⟨k, hlt, rfl, hp⟩) (hc.nil hc2)
  |false =>
   refine Ai rfl (fun y hy => ?_)
   have hy := add_in hy (by omega) (by omega)
   subst hy
   refine Ai rfl (Ei (k + 1) (Ai ?_ (Ai ?_ ?_)))
   ·exact ⟨rfl, rfl, rfl, rfl, trivial⟩
   ·refine ⟨by omega, hc.nil hc2, fun x hx => ?_⟩
    rw [take_snoc l k hlt] at hx
    rcases List.mem_append.1 hx with hx | hx
    ·exact hall x hx
    ·simp at hx; rw [hx]; exact hp
   ·omega
 ·have hkl : k = l.length := by omega
  subst hkl
  rw [List.take_length] at hall
  exact Ai (.inr ⟨rfl, hall⟩) hc
end Go.Proofs.YtjnijlnmbjjgpaaGreatDoor
namespace Go.Proofs.YtjnijlnmbjjgpaaGreatDoor
open Go Go.Sx
structure RX where
 key : ByteArray
 thing : Thing
 vs : List Value
 len : vs.length = 7
 one : ∀ u ∈ vs, u.oneCell' = true
def encX (x : RX) : List Value := .string x.key :: x.vs
theorem encX_len (x : RX) : (encX x).length = 8 := by simp [encX, x.len]
theorem encX_one (x : RX) : ∀ u ∈ encX x, u.oneCell' = true := by
 intro u hu
 simp only [encX, List.mem_cons] at hu
 rcases hu with rfl | hu
 ·rfl
 ·exact x.one u hu
def GX (h : Heap) (l : List RX) : Prop := ∀ x ∈ l, TH h x.vs x.thing
theorem GX.ext {h h' : Heap} {l : List RX} (g : GX h l) (hc : Chg [] h h') : GX h' l := fun x hx => (g x hx).ext hc
def findX (key : ByteArray) : List RX → Nat × Bool
 |[] => (0, false)
 |x :: l => if x.key = key then (0, true) else if sless key x.key = true then (0, false) else ((findX key l).1 + 1, (findX key l).2)
def putX (l : List RX) (x : RX) : List RX :=
 l.take (findX x.key l).1 ++ [x] ++ l.drop (if (findX x.key l).2 = true then (findX x.key l).1 + 1 else (findX x.key l).1)
def UpX (l : List RX) : Prop := l.Pairwise fun x y => sless x.key y.key = true
theorem findX_le (key : ByteArray) : ∀ l : List RX, (findX key l).1 ≤ l.length
 |[] => Nat.le_refl _
 |x :: l => by
  have := findX_le key l
  unfold findX
  split
  ·exact Nat.zero_le _
  ·split
   ·exact Nat.zero_le _
   ·simp; exact this
theorem findX_hit (key : ByteArray) : ∀ l : List RX, (findX key l).2 = true → ∃ h : (findX key l).1 < l.length, l[(findX key l).1].key = key
 |[], h => by simp [findX] at h
 |x :: l, h => by
  by_cases h1 : x.key = key
  ·have e : findX key (x :: l) = (0, true) := by unfold findX; rw [if_pos h1]
   simp only [e]
   exact ⟨by simp, by simpa using h1⟩
  ·by_cases h2 : sless key x.key = true
   ·have e : findX key (x :: l) = (0, false) := by unfold findX; rw [if_neg h1, if_pos h2]
    rw [e] at h; simp at h
   ·have e : findX key (x :: l) = ((findX key l).1 + 1, (findX key l).2) := by rw [findX, if_neg h1, if_neg h2]
    rw [e] at h
    obtain ⟨h3, h4⟩ := findX_hit key l h
    simp only [e]
    exact ⟨by simp; exact h3, by simpa using h4⟩
theorem findX_mem {key : ByteArray} {l : List RX} (h : (findX key l).2 = true) : ∃ x ∈ l, x.key = key := by
 obtain ⟨h1, h2⟩ := findX_hit key l h
 exact ⟨_, List.getElem_mem h1, h2⟩
theorem findX_has {key : ByteArray} : ∀ {l : List RX}, UpX l → (∃ x ∈ l, x.key = key) → (findX key l).2 = true
 |[], _, h => by simp at h
 |x :: l, hu, h => by
  unfold findX
  split
  ·rfl
  ·rename_i h1
   obtain ⟨y, hy, hk⟩ := h
   rcases List.mem_cons.1 hy with rfl | hy
   ·exact absurd hk h1
   ·have h2 := (List.pairwise_cons.1 hu).1 y hy
    rw [hk] at h2
    split
    ·rename_i h3
     have := sless_trans h2 h3
     rw [sless_irrefl] at this; cases this
    ·exact findX_has (List.pairwise_cons.1 hu).2 ⟨y, hy, hk⟩
theorem putX_cons (y : RX) (l : List RX) (x : RX) : putX (y :: l) x = if y.key = x.key then x :: l else if sless x.key y.key = true then x :: y :: l else y :: putX l x := by
 unfold putX
 by_cases h1 : y.key = x.key
 ·have e : findX x.key (y :: l) = (0, true) := by unfold findX; rw [if_pos h1]
  rw [e, if_pos h1]; simp
 ·by_cases h2 : sless x.key y.key = true
  ·have e : findX x.key (y :: l) = (0, false) := by unfold findX; rw [if_neg h1, if_pos h2]
   rw [e, if_neg h1, if_pos h2]; simp
  ·have e : findX x.key (y :: l) = ((findX x.key l).1 + 1, (findX x.key l).2) := by rw [findX, if_neg h1, if_neg h2]
   rw [e, if_neg h1, if_neg h2]
   cases hb : (findX x.key l).2 <;> simp
theorem putX_nil (x : RX) : putX [] x = [x] := rfl
theorem sless_ne {a b : ByteArray} (h : sless a b = true) : a ≠ b := by
 intro e; subst e; rw [sless_irrefl] at h; cases h
theorem mem_putX {x y : RX} : ∀ {l : List RX}, UpX l → (y ∈ putX l x ↔ y = x ∨ (y ∈ l ∧ y.key ≠ x.key))
 |[], _ => by simp [putX_nil]
 |z :: l, hu => by
  obtain ⟨h1, h2⟩ := List.pairwise_cons.1 hu
  rw [putX_cons]
  split
  ·rename_i hk
   rw [List.mem_cons, List.mem_cons]
   constructor
   ·rintro (rfl | hy)
    ·exact .inl rfl
    ·refine .inr ⟨.inr hy, fun e => sless_ne (h1 y hy) (hk.trans e.symm)⟩
   ·rintro (rfl | ⟨rfl | hy, hn⟩)
    ·exact .inl rfl
    ·exact absurd hk hn
    ·exact .inr hy
  ·rename_i hk
   split
   ·rename_i hl
    rw [List.mem_cons, List.mem_cons]
    constructor
    ·rintro (rfl | rfl | hy)
     ·exact .inl rfl
     ·exact .inr ⟨.inl rfl, hk⟩
     ·refine .inr ⟨.inr hy, fun e => ?_⟩
      have := sless_trans hl (h1 y hy)
      rw [e, sless_irrefl] at this; cases this
    ·rintro (rfl | ⟨rfl | hy, hn⟩)
     ·exact .inl rfl
     ·exact .inr (.inl rfl)
     ·exact .inr (.inr hy)
   ·rw [List.mem_cons, mem_putX h2, List.mem_cons]
    constructor
    ·rintro (rfl | rfl | ⟨hy, hn⟩)
     ·exact .inr ⟨.inl rfl, hk⟩
     ·exact .inl rfl
     ·exact .inr ⟨.inr hy, hn⟩
    ·rintro (rfl | ⟨rfl | hy, hn⟩)
     ·exact .inr (.inl rfl)
     ·exact .inl rfl
     ·exact .inr (.inr ⟨hy, hn⟩)
theorem up_putX {x : RX} : ∀ {l : List RX}, UpX l → UpX (putX l x)
 |[], _ => by rw [putX_nil]; exact List.pairwise_singleton _ _
 |z :: l, hu => by
  obtain ⟨h1, h2⟩ := List.pairwise_cons.1 hu
  rw [putX_cons]
  split
  ·rename_i hk
   exact List.pairwise_cons.2 ⟨fun y hy => by rw [← hk]; exact h1 y hy, h2⟩
  ·rename_i hk
   split
   ·rename_i hl
    refine List.pairwise_cons.2 ⟨fun y hy => ?_, hu⟩
    rcases List.mem_cons.1 hy with rfl | hy
    ·exact hl
    ·exact sless_trans hl (h1 y hy)
   ·rename_i hl
    refine List.pairwise_cons.2 ⟨fun y hy => ?_, up_putX h2⟩
    rcases (mem_putX h2).1 hy with rfl | ⟨hy, _⟩
    ·rcases sless_total (a := z.key) (b := y.key) hk with h | h
     ·exact h
     ·exact absurd h hl
    ·exact h1 y hy
theorem putX_new {l : List RX} {x : RX} (h : (findX x.key l).2 = false) : (putX l x).length = l.length + 1 := by
 unfold putX
 have := findX_le x.key l
 simp only [List.length_append, List.length_take, List.length_drop, List.length_cons, List.length_nil, h]
 simp; omega
end Go.Proofs.YtjnijlnmbjjgpaaGreatDoor
namespace Go.Proofs.YtjnijlnmbjjgpaaGreatDoor
open Go Go.Sx C
theorem cells_vs {h : Heap} {b o : Nat} {x : RX} (hc : Cells h b o (encX x)) : Cells h b (o + 1) x.vs := fun i v hv => by
 have := hc (i + 1) v hv
 rw [show o + 1 + i = o + (i + 1) by omega]; exact this
theorem swp_seq {P : Program} {a b : SCode} {Q : Post} {σ : Env} {ds : List Deferred} {h : Heap} (hs : swp P a (thenQ (swp P b Q) Q) σ ds h) : swp P (.seq a b) Q σ ds h := hs
def KeysFit (l : List RX) : Prop := ∀ x ∈ l, x.key.size < 4611686018427387904
def goneT (t : Thing) (now : Int) : Bool := t.hasU && decide (t.unt ≤ now)
structure KI where
 key : ByteArray
 tb : Nat
 vs : List Value
 thing : Thing
 born : Nat
def KI.ent (i : KI) : MapEntry := { key := .string i.key, val := ptr i.tb, born := i.born }
def KI.pr (i : KI) : ByteArray × Thing := (i.key, i.thing)
def RX.pr (i : RX) : ByteArray × Thing := (i.key, i.thing)
structure KR (h : Heap) (kb sb mb c : Nat) (m : List KI) : Prop where
 ks : KS h kb sb mb
 map : MapB h mb (m.map KI.ent) c
 here : ∀ i ∈ m, Blk h i.tb i.vs ∧ TH h i.vs i.thing ∧ Lens i.thing
 nodup : (m.map KI.key).Nodup
 born : ∀ i ∈ m, i.born < c
 borns : (m.map KI.born).Nodup
 keys : ∀ i ∈ m, i.key.size ≤ 1048576
 len : m.length ≤ 65536
theorem KR.ext {h h' : Heap} {kb sb mb c : Nat} {m : List KI} (x : KR h kb sb mb c m) (hc : Chg [] h h') : KR h' kb sb mb c m :=
 ⟨x.ks.chg hc (by simp) (by simp), x.map.chg hc (by simp), fun i hi => ⟨(x.here i hi).1.chg hc (by simp), (x.here i hi).2.1.ext hc, (x.here i hi).2.2⟩, x.nodup, x.born, x.borns, x.keys, x.len⟩
theorem ents_fit (m : List KI) : ∀ e ∈ m.map KI.ent, fits .str e.key = true := by
 intro e he
 obtain ⟨i, _, rfl⟩ := List.mem_map.1 he
 rfl
theorem str_same (a b : ByteArray) : Instr.sameBits 10000 (.string a) (.string b) = decide (a = b) := by
 cases hd : decide (a = b) with
 |true =>
  have := of_decide_eq_true hd
  subst this
  exact sameBits_refl (k := .str) rfl
 |false =>
  cases h : Instr.sameBits 10000 (.string a) (.string b) with
  |false => rfl
  |true =>
   have := sameBits_eq (k := .str) rfl rfl h
   simp at this
   exact absurd this (of_decide_eq_false hd)
theorem mfind_ents (key : ByteArray) : ∀ (m : List KI) (n : Nat), (mfind (.string key) (m.map KI.ent) n = none ∧ ∀ i ∈ m, i.key ≠ key) ∨
  ∃ (j : Nat) (i : KI), mfind (.string key) (m.map KI.ent) n = some (n + j, ptr i.tb) ∧ m[j]? = some i ∧ i.key = key
 |[], n => .inl ⟨rfl, by simp⟩
 |x :: m, n => by
  simp only [List.map_cons, mfind]
  rw [show (KI.ent x).key = .string x.key from rfl, str_same]
  by_cases hk : key = x.key
  ·exact .inr ⟨0, x, by simp [hk, KI.ent], rfl, hk.symm⟩
  ·rw [if_neg (by simpa using hk)]
   rcases mfind_ents key m (n + 1) with ⟨h1, h2⟩ | ⟨j, i, h1, h2, h3⟩
   ·exact .inl ⟨h1, fun i hi => by
     rcases List.mem_cons.1 hi with rfl | hi
     ·exact fun e => hk e.symm
     ·exact h2 i hi⟩
   ·exact .inr ⟨j + 1, i, by rw [h1, show n + 1 + j = n + (j + 1) by omega], by simpa using h2, h3⟩
def ofX : List RX → List RX → Option (List RX)
 |acc, [] => some acc
 |acc, x :: r => if (findX x.key acc).2 = true ∨ kOK x.thing = false then none else ofX (putX acc x) r
structure NVast (l : List RX) : Prop where
 len : l.length ≤ 20
 keys : ∀ x ∈ l, x.key.size ≤ 300
 small : ∀ x ∈ l, Small x.thing
theorem NVast.fit {l : List RX} (n : NVast l) : KeysFit l := fun x hx => by have := n.keys x hx; omega
theorem ofX_ok : ∀ {r acc k : List RX}, UpX acc → ofX acc r = some k → UpX k ∧ (∀ y, y ∈ k ↔ y ∈ acc ∨ y ∈ r) ∧ k.length = acc.length + r.length
 |[], acc, k, hu, h => by
  simp only [ofX, Option.some.injEq] at h
  subst h
  exact ⟨hu, by simp, by simp⟩
 |x :: r, acc, k, hu, h => by
  simp only [ofX] at h
  split at h
  ·cases h
  ·rename_i hn
   have hf : (findX x.key acc).2 = false := by
    cases hb : (findX x.key acc).2 with
    |false => rfl
    |true => exact absurd (.inl hb) hn
   obtain ⟨h1, h2, h3⟩ := ofX_ok (up_putX hu) h
   refine ⟨h1, fun y => ?_, by rw [h3, putX_new hf]; simp; omega⟩
   rw [h2, mem_putX hu, List.mem_cons]
   constructor
   ·rintro ((rfl | ⟨h, _⟩) | h)
    ·exact .inr (.inl rfl)
    ·exact .inl h
    ·exact .inr (.inr h)
   ·rintro (h | rfl | h)
    ·refine .inl (.inr ⟨h, fun e => ?_⟩)
     have := findX_has hu ⟨y, h, e⟩
     rw [hf] at this; cases this
    ·exact .inl (.inl rfl)
    ·exact .inr h
theorem ofX_nodup : ∀ {r acc k : List RX}, UpX acc → ofX acc r = some k → (r.map (·.key)).Nodup ∧ ∀ x ∈ r, kOK x.thing = true
 |[], acc, k, hu, h => by simp
 |x :: r, acc, k, hu, h => by
  have h0 := h
  simp only [ofX] at h
  split at h
  ·cases h
  ·rename_i hn
   obtain ⟨h1, h2⟩ := ofX_nodup (up_putX hu) h
   refine ⟨?_, ?_⟩
   ·rw [List.map_cons, List.nodup_cons]
    refine ⟨fun hm => ?_, h1⟩
    obtain ⟨y, hy, hk⟩ := List.mem_map.1 hm
    -- y would have been refused
    have : ∀ {r acc k : List RX}, UpX acc → ofX acc r = some k → ∀ y ∈ r, ∀ z ∈ acc, z.key ≠ y.key := by
     intro r
     induction r with
     |nil => intro acc k _ _ y hy; simp at hy
     |cons w r ih =>
      intro acc k hu h y hy z hz e
      simp only [ofX] at h
      split at h
      ·cases h
      ·rename_i hn
       rcases List.mem_cons.1 hy with rfl | hy
       ·exact hn (.inl (findX_has hu ⟨z, hz, e⟩))
       ·by_cases hzw : z.key = w.key
        ·exact ih (up_putX hu) h y hy w ((mem_putX hu).2 (.inl rfl)) (hzw.symm.trans e)
        ·exact ih (up_putX hu) h y hy z ((mem_putX hu).2 (.inr ⟨hz, hzw⟩)) e
    exact this (up_putX hu) h y hy x ((mem_putX hu).2 (.inl rfl)) hk.symm
   ·intro y hy
    rcases List.mem_cons.1 hy with rfl | hy
    ·cases hk : kOK y.thing with
     |true => rfl
     |false => exact absurd (.inr hk) hn
    ·exact h2 y hy
structure CH (h h' : Heap) : Prop where
 blk : ∀ b l, Blk h b l → Blk h' b l
 cell : ∀ b o v, cell h b o = some v → cell h' b o = some v
theorem ne_map {h : Heap} {b mb c : Nat} {l : List Value} {es : List MapEntry} (hb : Blk h b l) (hm : MapB h mb es c) : b ≠ mb := by
 rintro rfl
 obtain ⟨e, he⟩ := hb
 have hm : h[b]? = _ := hm
 rw [he] at hm; cases hm
theorem ch_putO {h h' : Heap} {mb c : Nat} {es : List MapEntry} {o : Obj} (hm : MapB h mb es c) (p : PutO h h' mb o) : CH h h' := by
 refine ⟨fun b l hb => ?_, fun b o v hc => ?_⟩
 ·have := ne_map hb hm
  obtain ⟨e, he⟩ := hb
  exact ⟨e, by rw [p.old b this]; exact he⟩
 ·have hne : b ≠ mb := by
   rintro rfl
   have hm : h[b]? = _ := hm
   unfold Sx.cell at hc
   rw [hm] at hc; cases hc
  unfold Sx.cell at hc ⊢
  rw [p.old b hne]; exact hc
theorem SL.ch {α : Type} {enc : α → List Value} {h h' : Heap} {v : Value} {l : List α} (hs : SL enc h v l) (x : CH h h') : SL enc h' v l := by
 obtain ⟨a, c, rfl, h1, h2⟩ := hs
 refine ⟨a, c, rfl, h1, ?_⟩
 cases a with
 |none => exact h2
 |some a =>
  obtain ⟨b, o, sp⟩ := a
  cases sp with
  |some q => exact h2
  |none => exact fun i v hv => x.cell _ _ _ (h2 i v hv)
theorem TH.ch {h h' : Heap} {vs : List Value} {t : Thing} (x : TH h vs t) (hc : CH h h') : TH h' vs t := by
 obtain ⟨pv, lv, rv, rfl, h2, h3, h4⟩ := x
 exact ⟨pv, lv, rv, rfl, SL.ch h2 hc, SL.ch h3 hc, SL.ch h4 hc⟩
theorem KS.ch {h h' : Heap} {kb sb mb : Nat} (x : KS h kb sb mb) (hc : CH h h') : KS h' kb sb mb := ⟨hc.blk _ _ x.k, hc.blk _ _ x.s⟩
theorem KR.put {h h' : Heap} {kb sb mb c tb : Nat} {m : List KI} {key : ByteArray} {us : List Value} {t : Thing} (x : KR h kb sb mb c m)
  (p : PutO h h' mb (.map ⟨m.map KI.ent ++ [{ key := .string key, val := ptr tb, born := c }]⟩ (c + 1))) (hn : ∀ i ∈ m, i.key ≠ key) (hk : key.size ≤ 1048576) (B : Blk h tb us) (tx : TH h us t) (n : Lens t) (hl : m.length < 65536) :
  KR h' kb sb mb (c + 1) (m ++ [⟨key, tb, us, t, c⟩]) := by
 have ch := ch_putO x.map p
 refine ⟨x.ks.ch ch, ?_, fun i hi => ?_, ?_, fun i hi => ?_, ?_, fun i hi => ?_, by simp; omega⟩
 ·show h'[mb]? = _
  rw [p.blk]
  simp [KI.ent]
 ·rcases List.mem_append.1 hi with hi | hi
  ·obtain ⟨h1, h2, h3⟩ := x.here i hi
   exact ⟨ch.blk _ _ h1, h2.ch ch, h3⟩
  ·simp at hi
   subst hi
   exact ⟨ch.blk _ _ B, tx.ch ch, n⟩
 ·rw [List.map_append, List.nodup_append]
  refine ⟨x.nodup, by simp, ?_⟩
  intro a ha b hb
  obtain ⟨i, hi, rfl⟩ := List.mem_map.1 ha
  simp at hb
  subst hb
  exact hn i hi
 ·rcases List.mem_append.1 hi with hi | hi
  ·have := x.born i hi; omega
  ·simp at hi
   subst hi
   exact Nat.lt_succ_self _
 ·rw [List.map_append, List.nodup_append]
  refine ⟨x.borns, by simp, ?_⟩
  intro a ha b hb
  obtain ⟨i, hi, rfl⟩ := List.mem_map.1 ha
  simp at hb
  subst hb
  have := x.born i hi
  exact fun e => by omega
 ·rcases List.mem_append.1 hi with hi | hi
  ·exact x.keys i hi
  ·simp at hi
   subst hi
   exact hk
theorem eight {ws vs : List Value} (hw : ws.length = 8) (hv : vs.length = 8) : splice ws 0 vs = vs := by
 match ws, hw, vs, hv with
 |[_, _, _, _, _, _, _, _], _, [_, _, _, _, _, _, _, _], _ => rfl
def zeroX : List Value := [.string ⟨#[]⟩, .int .i64 0, .string ⟨#[]⟩, .slice none 0 0, .slice none 0 0, .slice none 0 0, .bool false, .int .i64 0]
theorem cells_tail {h : Heap} {b : Nat} {x : RX} (B : Blk h b (encX x)) : Cells h b 1 x.vs := cells_part B fun i v hv => by
 rw [Nat.add_comm]; exact hv
def OfK (h : Heap) (l : List RX) (r : Value) (h' : Heap) : Prop := Chg [] h h' ∧ match ofX [] l with
 |none => r = .tuple #[.pointer none, .int .i64 2]
 |some _ => ∃ kb sb mb c m, r = .tuple #[ptr kb, .int .i64 0] ∧ KR h' kb sb mb c m ∧ m.map KI.pr = l.map RX.pr ∧ h.size ≤ mb
theorem ofK_bad {h h' : Heap} {l : List RX} (hc : Chg [] h h') (hn : ofX [] l = none) : OfK h l (.tuple #[.pointer none, .int .i64 2]) h' := by
 refine ⟨hc, ?_⟩
 rw [hn]
theorem KOf_calls {h : Heap} {v : Value} {l : List RX} (hv : SL encX h v l) (g : GX h l) (nv : NVast l) :
  CallsH Tryz.prog 19 [v] h (Ret (OfK h l)) := by
 have hl := nv.len
 obtain ⟨a, c, rfl, hlc⟩ := hv.form
 refine f19_calls (by simp) ?_
 refine call_ret New_calls ?_
 rintro _ h1 ⟨kb, sb, mb, rfl, ks1, hm1, emb, _, _, hc1⟩
 have kr1 : KR h1 kb sb mb 0 [] := ⟨ks1, hm1, by simp, by simp, by simp, by simp, by simp, by simp⟩
 refine loop_intro (fun k : Nat => [(0, .slice a l.length c), (4, ptr kb), (11, .slice a l.length c), (12, .int .i64 l.length), (13, .int .i64 k)])
  (fun k h' => k ≤ l.length ∧ Chg [] h h' ∧ ∃ m acc, KR h' kb sb mb k m ∧ m.map KI.pr = (l.take k).map RX.pr ∧ UpX acc ∧ ofX [] l = ofX acc (l.drop k) ∧ ∀ y, y ∈ acc ↔ y ∈ l.take k) (fun k => l.length - k) 0
  ⟨rfl, rfl, rfl, rfl, rfl, trivial⟩ ⟨Nat.zero_le _, hc1, [], [], kr1, rfl, List.Pairwise.nil, rfl, by simp⟩ ?_
 rintro k h2 ⟨hk, hc2, m, acc, kr2, hpr, hup, hof, hacc⟩
 refine Ai rfl (Ai (fun ht => ?_) (fun ht => ?_))
 ·have hlt : k < l.length := by omega
  obtain ⟨b, o, rfl⟩ := hv.addr (by omega)
  have hcs := (hv.ext hc2).cells encX_len (i := k) (x := l[k]) (by simp [hlt])
  have hdr : l.drop k = l[k] :: l.drop (k + 1) := List.drop_eq_getElem_cons hlt
  have tk : l.take (k + 1) = l.take k ++ [l[k]] := take_snoc l k hlt
  have hmem : l[k] ∈ l := List.getElem_mem hlt
  have hx := g _ hmem
  have hsm := nv.small _ hmem
  have hkz := nv.keys _ hmem
  generalize hxe : l[k] = x at *
  have hml : m.length = k := by
   have := congrArg List.length hpr
   simp at this; omega
  refine Ai (by omega) (Ai ht (Ei (encX x) (Ai (encX_len x) (Ai hcs ?_))))
  intro b6 h3 g3
  refine Ei _ (Ai g3.blk (Ai (by decide) (Ai (encX_len x) (Ai (encX_one x) ?_))))
  intro h4 p4
  have g4 := g3.put p4
  have B4 : Blk h4 b6 (encX x) := by
   have h8 : Blk h4 b6 (splice zeroX 0 (encX x)) := p4.blk
   rw [eight rfl (encX_len x)] at h8
   exact h8
  have c24 := g4.chg
  have kr4 := kr2.ext c24
  have hc4 := hc2.nil c24
  refine Ei _ (Ai (cell_blk kr4.ks.k rfl) (Ei _ (Ai (cell_blk kr4.ks.s rfl) (Ei _ (Ai (cell_blk B4 rfl) ?_)))))
  refine Ai rfl (Ei (m.map KI.ent) (Ei k (Ai kr4.map (Ai (ents_fit m) ?_))))
  rw [hdr] at hof
  rcases mfind_ents x.key m 0 with ⟨hmf, hno⟩ | ⟨j, i, hmf, hj, hik⟩
  rotate_left
  ·rw [hmf]
   refine ofK_bad hc4 ?_
   have him : i ∈ m := List.mem_of_getElem? hj
   have : i.pr ∈ (l.take k).map RX.pr := by rw [← hpr]; exact List.mem_map_of_mem him
   obtain ⟨y, hy, hyp⟩ := List.mem_map.1 this
   have hyk : y.key = x.key := by
    have := congrArg Prod.fst hyp
    exact this.trans hik
   rw [hof, ofX, if_pos (.inl (findX_has hup ⟨y, (hacc y).2 hy, hyk⟩))]
  ·rw [hmf]
   refine Ei _ (Ai (cell_blk B4 rfl) ?_)
   refine Ai rfl (Ai (fun big => absurd big (by omega)) (fun _ => ?_))
   refine Ei x.vs (Ai x.len (Ai (cells_tail B4) ?_))
   refine call_ret (KCheck_calls (hx.ext hc4) hsm) ?_
   rintro r h5 ⟨hr, c45⟩
   have hc5 := hc4.nil c45
   have hfn : (findX x.key acc).2 = false := by
    cases hb : (findX x.key acc).2 with
    |false => rfl
    |true =>
     obtain ⟨y, hy, hyk⟩ := findX_mem hb
     have : y.pr ∈ m.map KI.pr := by rw [hpr]; exact List.mem_map_of_mem ((hacc y).1 hy)
     obtain ⟨i, hi, hip⟩ := List.mem_map.1 this
     have : i.key = y.key := congrArg Prod.fst hip
     exact absurd (this.trans hyk) (hno i hi)
   cases hko : kOK x.thing with
   |false =>
    rw [hko] at hr
    subst hr
    refine ofK_bad hc5 ?_
    rw [hof, ofX, if_pos (.inr hko)]
   |true =>
    rw [hko] at hr
    subst hr
    have B5 := B4.chg c45 (by simp)
    refine Ei x.vs (Ai x.len (Ai (cells_tail B5) ?_))
    refine call_ret (copied_calls (hx.ext hc5) hsm.lens) ?_
    rintro _ h6 ⟨⟨us, rfl, tu, hub⟩, c56⟩
    intro b9 h7 g7
    refine Ei _ (Ai g7.blk (Ai (by decide) (Ai tu.len (Ai (thing_one tu) ?_))))
    intro h8 p8
    have g8 := g7.put p8
    have B8 : Blk h8 b9 us := by
     have h9 : Blk h8 b9 (splice zeroV 0 us) := p8.blk
     rw [seven rfl tu.len] at h9
     exact h9
    have c58 := c56.nil g8.chg
    have kr8 := (kr4.ext c45).ext c58
    have B68 := B5.chg c58 (by simp)
    refine Ei _ (Ai (cell_blk kr8.ks.k rfl) (Ei _ (Ai (cell_blk kr8.ks.s rfl) (Ei _ (Ai (cell_blk B68 rfl) ?_)))))
    refine Ai rfl (Ei (m.map KI.ent) (Ei k (Ai kr8.map (Ai (ents_fit m) ?_))))
    rw [hmf]
    intro h9 p9
    have kr9 := kr8.put p9 hno (by omega) B8 (tu.ext g8.chg) hsm.lens (by omega)
    have hc8 := hc5.nil c58
    refine Ai rfl (fun z hz => ?_)
    have hz := add_in hz (by omega) (by omega)
    subst hz
    refine Ai rfl (Ei (k + 1) (Ai ?_ (Ai ?_ ?_)))
    ·exact ⟨rfl, rfl, rfl, rfl, rfl, trivial⟩
    ·refine ⟨by omega, hc8.fresh p9.chg (by simp; omega), _, putX acc x, kr9, ?_, up_putX hup, ?_, fun y => ?_⟩
     ·rw [tk, List.map_append, List.map_append, hpr]; rfl
     ·rw [hof, ofX, if_neg]
      rintro (h | h)
      ·rw [hfn] at h; cases h
      ·rw [hko] at h; cases h
     ·rw [mem_putX hup, tk, List.mem_append, List.mem_singleton, hacc]
      constructor
      ·rintro (h | ⟨h, _⟩)
       ·exact .inr h
       ·exact .inl h
      ·rintro (h | h)
       ·refine .inr ⟨h, fun e => ?_⟩
        have := findX_has hup ⟨y, (hacc y).2 h, e⟩
        rw [hfn] at this; cases this
       ·exact .inl h
    ·omega
 ·have hlt : k = l.length := by omega
  subst hlt
  refine Ai rfl (Ai (fun big => absurd big (by omega)) (fun _ => ?_))
  refine ⟨hc2, ?_⟩
  rw [hof, List.drop_length, ofX]
  rw [List.take_length] at hpr
  exact ⟨kb, sb, mb, _, m, rfl, kr2, hpr, by omega⟩
end Go.Proofs.YtjnijlnmbjjgpaaGreatDoor
namespace Go.Proofs
open Go.RowKit Go.Maps Go.Sort Go.Shelf
/- numbers: mapT=76 keyT=9 -/
def Tryz.sorted119_ren : Go.Shelf.Ren := ⟨fun | 6 => 119 | 8 => 217 | 9 => 218 | 11 => 270 | 13 => 272 | 12 => 271 | 23 => 300 | 24 => 222 | 14 => 292 | 15 => 293 | 16 => 294 | 17 => 295 | 18 => 296 | 19 => 297 | 20 => 277 | 21 => 298 | 22 => 299 | 25 => 330 | 26 => 331 | 27 => 332 | 28 => 333 | 29 => 334 | 30 => 306 | 31 => 355 | n => n, fun | 26 => 9 | 28 => 158 | 24 => 24 | 0 => 0 | 3 => 3 | 37 => 237 | 48 => 235 | 50 => 183 | 4 => 4 | 40 => 312 | 39 => 311 | 45 => 102 | 5 => 5 | 9 => 9 | 51 => 327 | 55 => 331 | 57 => 345 | 58 => 176 | 33 => 162 | n => n, fun | n => n⟩
theorem Tryz.sorted119 : Go.Proofs.SlLaysZ.n6 Tryz.prog Tryz.sorted119_ren := {
 mixed := by kernel_rfl
 f6 := ⟨Tryz.f119.name, by decide, Tryz.func119.trans (congrArg some (by kernel_rfl))⟩
 f8 := ⟨Tryz.f217.name, by decide, Tryz.func217.trans (congrArg some (by kernel_rfl))⟩
 f11 := ⟨Tryz.f270.name, by decide, Tryz.func270.trans (congrArg some (by kernel_rfl))⟩
 t0 := Tryz.underlying0
 a0 := Tryz.isAgg0
 z0 := Tryz.sizeOf0
 v0 := Tryz.zeroValue0
 t24 := Tryz.underlying24
 a24 := Tryz.isAgg24
 z24 := Tryz.sizeOf24
 v24 := Tryz.zeroValue24
 t26 := Tryz.underlying9
 a26 := Tryz.isAgg9
 z26 := Tryz.sizeOf9
 v26 := Tryz.zeroValue9
 t28 := Tryz.underlying158
 a28 := Tryz.isAgg158
 z28 := Tryz.sizeOf158
 v28 := Tryz.zeroValue158
 i26 := by kernel_rfl }
def Tryz.sort218_ren : Go.Shelf.Ren := ⟨fun | 6 => 218 | 8 => 272 | 9 => 271 | 19 => 300 | 20 => 222 | 21 => 292 | 22 => 293 | 23 => 294 | 24 => 295 | 25 => 296 | 26 => 297 | 27 => 277 | 28 => 298 | 29 => 299 | 36 => 330 | 31 => 331 | 32 => 332 | 37 => 333 | 38 => 334 | 39 => 306 | 41 => 355 | n => n, fun | 27 => 24 | 29 => 9 | 3 => 3 | 32 => 237 | 26 => 24 | 0 => 0 | 44 => 235 | 46 => 183 | 4 => 4 | 36 => 312 | 35 => 311 | 41 => 102 | 5 => 5 | 9 => 9 | 53 => 327 | 57 => 331 | 63 => 345 | 64 => 176 | n => n, fun | n => n⟩
theorem Tryz.sort218 : Go.Proofs.SlLaysM.n6 Tryz.prog Tryz.sort218_ren := {
 mixed := by kernel_rfl
 f6 := ⟨Tryz.f218.name, by decide, Tryz.func218.trans (congrArg some (by kernel_rfl))⟩
 f8 := Tryz.func272.trans (congrArg some (by kernel_rfl))
 f9 := ⟨Tryz.f271.name, by decide, Tryz.func271.trans (congrArg some (by kernel_rfl))⟩
 f19 := Tryz.func300.trans (congrArg some (by kernel_rfl))
 f20 := Tryz.func222.trans (congrArg some (by kernel_rfl))
 f21 := ⟨Tryz.f292.name, by decide, Tryz.func292.trans (congrArg some (by kernel_rfl))⟩
 f22 := ⟨Tryz.f293.name, by decide, Tryz.func293.trans (congrArg some (by kernel_rfl))⟩
 f23 := ⟨Tryz.f294.name, by decide, Tryz.func294.trans (congrArg some (by kernel_rfl))⟩
 f24 := ⟨Tryz.f295.name, by decide, Tryz.func295.trans (congrArg some (by kernel_rfl))⟩
 f25 := ⟨Tryz.f296.name, by decide, Tryz.func296.trans (congrArg some (by kernel_rfl))⟩
 f26 := ⟨Tryz.f297.name, by decide, Tryz.func297.trans (congrArg some (by kernel_rfl))⟩
 f27 := ⟨Tryz.f277.name, by decide, Tryz.func277.trans (congrArg some (by kernel_rfl))⟩
 f28 := ⟨Tryz.f298.name, by decide, Tryz.func298.trans (congrArg some (by kernel_rfl))⟩
 f29 := ⟨Tryz.f299.name, by decide, Tryz.func299.trans (congrArg some (by kernel_rfl))⟩
 f31 := Tryz.func331.trans (congrArg some (by kernel_rfl))
 f32 := Tryz.func332.trans (congrArg some (by kernel_rfl))
 f36 := ⟨Tryz.f330.name, by decide, Tryz.func330.trans (congrArg some (by kernel_rfl))⟩
 f37 := ⟨Tryz.f333.name, by decide, Tryz.func333.trans (congrArg some (by kernel_rfl))⟩
 f38 := ⟨Tryz.f334.name, by decide, Tryz.func334.trans (congrArg some (by kernel_rfl))⟩
 f39 := ⟨Tryz.f306.name, by decide, Tryz.func306.trans (congrArg some (by kernel_rfl))⟩
 f41 := ⟨Tryz.f355.name, by decide, Tryz.func355.trans (congrArg some (by kernel_rfl))⟩
 t0 := Tryz.underlying0
 a0 := Tryz.isAgg0
 z0 := Tryz.sizeOf0
 v0 := Tryz.zeroValue0
 t3 := Tryz.underlying3
 a3 := Tryz.isAgg3
 z3 := Tryz.sizeOf3
 v3 := Tryz.zeroValue3
 t4 := Tryz.underlying4
 a4 := Tryz.isAgg4
 z4 := Tryz.sizeOf4
 v4 := Tryz.zeroValue4
 t5 := Tryz.underlying5
 a5 := Tryz.isAgg5
 z5 := Tryz.sizeOf5
 v5 := Tryz.zeroValue5
 t9 := Tryz.underlying9
 a9 := Tryz.isAgg9
 z9 := Tryz.sizeOf9
 v9 := Tryz.zeroValue9
 t26 := Tryz.underlying24
 a26 := Tryz.isAgg24
 z26 := Tryz.sizeOf24
 v26 := Tryz.zeroValue24
 t27 := Tryz.underlying24
 a27 := Tryz.isAgg24
 z27 := Tryz.sizeOf24
 v27 := Tryz.zeroValue24
 t29 := Tryz.underlying9
 a29 := Tryz.isAgg9
 z29 := Tryz.sizeOf9
 v29 := Tryz.zeroValue9
 t32 := Tryz.underlying237
 a32 := Tryz.isAgg237
 z32 := Tryz.sizeOf237
 v32 := Tryz.zeroValue237
 t35 := Tryz.underlying311
 a35 := Tryz.isAgg311
 z35 := Tryz.sizeOf311
 v35 := Tryz.zeroValue311
 t36 := Tryz.underlying312
 a36 := Tryz.isAgg312
 z36 := Tryz.sizeOf312
 v36 := Tryz.zeroValue312
 t41 := Tryz.underlying102
 a41 := Tryz.isAgg102
 z41 := Tryz.sizeOf102
 v41 := Tryz.zeroValue102
 t44 := Tryz.underlying235
 a44 := Tryz.isAgg235
 z44 := Tryz.sizeOf235
 v44 := Tryz.zeroValue235
 t46 := Tryz.underlying183
 a46 := Tryz.isAgg183
 z46 := Tryz.sizeOf183
 v46 := Tryz.zeroValue183
 t53 := Tryz.underlying327
 a53 := Tryz.isAgg327
 z53 := Tryz.sizeOf327
 v53 := Tryz.zeroValue327
 t57 := Tryz.underlying331
 a57 := Tryz.isAgg331
 z57 := Tryz.sizeOf331
 v57 := Tryz.zeroValue331
 t63 := Tryz.underlying345
 a63 := Tryz.isAgg345
 z63 := Tryz.sizeOf345
 v63 := Tryz.zeroValue345
 t64 := Tryz.underlying176
 a64 := Tryz.isAgg176
 z64 := Tryz.sizeOf176
 v64 := Tryz.zeroValue176 }
theorem Tryz.sorts119 (m : Nat) : AnyZ.SortsIn Tryz.prog Tryz.sorted119_ren Fence.wide m :=
 ⟨fun blk off cap ss W hH hblk hsz => callsIn_wide.2 (AnyM.slices_Sort_string Tryz.sort218 blk off cap ss W hH hblk hsz),
  fun p cap W => callsIn_wide.2 (AnyM.slices_Sort_string_none Tryz.sort218 p cap W)⟩
def Tryz.keys174_ren : Go.Shelf.Ren := ⟨fun | 7 => 174 | 10 => 236 | n => n, fun | 23 => 189 | 26 => 9 | 3 => 3 | 28 => 158 | 0 => 0 | 27 => 157 | 33 => 162 | 4 => 4 | n => n, fun | n => n⟩
theorem Tryz.keys174 : Go.Proofs.SlLaysZ.n7 Tryz.prog Tryz.keys174_ren := {
 mixed := by kernel_rfl
 f7 := ⟨Tryz.f174.name, by decide, Tryz.func174.trans (congrArg some (by kernel_rfl))⟩
 f10 := ⟨Tryz.f236.name, by decide, Tryz.func236.trans (congrArg some (by kernel_rfl))⟩
 t0 := Tryz.underlying0
 a0 := Tryz.isAgg0
 z0 := Tryz.sizeOf0
 v0 := Tryz.zeroValue0
 t4 := Tryz.underlying4
 a4 := Tryz.isAgg4
 z4 := Tryz.sizeOf4
 v4 := Tryz.zeroValue4
 t23 := Tryz.underlying189
 a23 := Tryz.isAgg189
 z23 := Tryz.sizeOf189
 v23 := Tryz.zeroValue189
 t26 := Tryz.underlying9
 a26 := Tryz.isAgg9
 z26 := Tryz.sizeOf9
 v26 := Tryz.zeroValue9
 t27 := Tryz.underlying157
 a27 := Tryz.isAgg157
 z27 := Tryz.sizeOf157
 v27 := Tryz.zeroValue157
 t28 := Tryz.underlying158
 a28 := Tryz.isAgg158
 z28 := Tryz.sizeOf158
 v28 := Tryz.zeroValue158
 t33 := Tryz.underlying162
 a33 := Tryz.isAgg162
 z33 := Tryz.sizeOf162
 v33 := Tryz.zeroValue162 }
theorem Tryz.maps_Keys_174 (mb : Option Nat) (W : World) : CallsIn Fence.wide 5 Tryz.prog 174 #[.map mb] W fun e w' => e = .returned (.func (.func 236) #[] #[.pointer (some ⟨W.heap.size, 0, none⟩)]) ∧ w' = W.alloc (.cells #[.map mb] 189) :=
 AnyZ.keys_in Tryz.keys174 Fence.wide 5 trivial rfl mb W
set_option maxHeartbeats 1000000 in
/-- **slices.Sorted[string] AT WHAT maps.Keys[map[string]int,string,int] HANDED BACK FOR A MAP THAT IS NOT nil** ('w': the world AHEAD of maps.Keys' call): A NEW SLICE THAT HOLDS THE MAP's KEYS, SORTED; nil just where it has none; nothing that lay before has turned. -/
theorem Tryz.slices_Sorted_keys_119_174 {H : Type} (b nn : Nat) (D0 : DataW H) (R : Value → Option (DataW H × List MemPlace)) (w : World) (hown : w.ownsMap Tryz.prog 9 R b nn D0) (hmax : Maps.size D0 ≤ maxLen) (hbytes : Maps.size D0 * 16 ≤ 140737488355328) :
  CallsIn Fence.wide 5 Tryz.prog 119 #[.func (.func 236) #[] #[.pointer (some ⟨w.heap.size, 0, none⟩)]] (w.alloc (.cells #[.map (some b)] 189)) fun e w' => ∃ (v : Value) (ss : List (List UInt8)), e = .returned v ∧ ss.Perm (strKeys D0) ∧
   w'.ownsRow (w.alloc (.cells #[.map (some b)] 189)).heap.size 9 1 v ss.length ((ss.mergeSort (fun x y => decide (x ≤ y))).map encStr) ∧ (v = .slice none 0 0 ↔ ss = []) ∧ Below (w.alloc (.cells #[.map (some b)] 189)).heap.size (w.alloc (.cells #[.map (some b)] 189)) w' := by
 have hbl := hown.lt
 have hseq : SeqGives Fence.wide 2 Tryz.prog 236 #[.pointer (some ⟨w.heap.size, 0, none⟩)] encStr (fun ss => ss.Perm (strKeys D0)) (Maps.size D0) (w.alloc (.cells #[.map (some b)] 189)) :=
  AnyZ.keys_gives (ρ := Tryz.keys174_ren) { Tryz.keys174 with } Fence.wide _ trivial rfl (by omega) w.heap.size b nn D0 _ (by simp) (by simp) (by
   obtain ⟨es, clock, hb, Ft, hs, hD⟩ := hown
   exact ⟨es, clock, (Below.heap_alloc _ _ b hbl).trans hb, Ft, hs, hD⟩)
 exact AnyZ.sorted_in Tryz.sorted119 Fence.wide 5 trivial trivial trivial trivial rfl (by omega) (Tryz.sorts119 _) (enters_of Tryz.func218 (by kernel_rfl) rfl) 236 #[.pointer (some ⟨w.heap.size, 0, none⟩)] trivial (enters_of Tryz.func236 (by kernel_rfl) rfl) _ _ hmax hbytes _ hseq
end Go.Proofs
namespace Go.Proofs.YtjnijlnmbjjgpaaGreatDoor
open Go Go.Sx C
theorem bl_lt : ∀ a b : List UInt8, Op.bytesLess a b = true ↔ a < b
 |[], [] => by simp [Op.bytesLess]
 |a :: x, [] => by simp [Op.bytesLess]
 |[], b :: y => by simp [Op.bytesLess]
 |a :: x, b :: y => by
  rw [List.cons_lt_cons_iff, ← bl_lt x y]
  simp only [Op.bytesLess, Bool.or_eq_true, Bool.and_eq_true, decide_eq_true_eq, beq_iff_eq]
abbrev bytesL (b : ByteArray) : List UInt8 := b.data.toList
abbrev ofL (l : List UInt8) : ByteArray := ⟨l.toArray⟩
def keysHeap (h : Heap) (mb : Nat) : Heap := h.push (.cells #[.map (some mb)] 76)
def RN : Value → Option (DataW Unit × List MemPlace) := fun _ => some (.nil, [])
theorem key_reads (s : ByteArray) (hs : s.size ≤ 1048576) : keyOf Tryz.prog 9 (.string s) = some (.string (bytesL s)) := by
 have hu : Tryz.prog.underlying 9 = some .string := Tryz.underlying9
 unfold keyOf
 rw [hu]
 simp only [mapKey, hu]
 rw [if_pos]
 have : (1048576 : Nat) ≤ maxLen := by decide
 exact Nat.le_trans hs this
structure Sorted (m : List KI) (W : List (ByteArray × Thing)) : Prop where
 up : W.Pairwise fun a b => sless a.1 b.1 = true
 mem : ∀ p, p ∈ W ↔ p ∈ m.map KI.pr
theorem sless_asymm (a b : ByteArray) (h : sless a b = true) : ¬ sless b a = true := fun h2 => by
 have := sless_trans h h2
 rw [sless_irrefl] at this; cases this
structure Eff where
 op : Int
 key : ByteArray
 name : ByteArray
 text : ByteArray
 num : Int
def encD (e : Eff) : List Value := [.int .i64 e.op, .string e.key, .string e.name, .string e.text, .int .i64 e.num]
theorem encD_len (e : Eff) : (encD e).length = 5 := rfl
theorem encD_one (e : Eff) : ∀ u ∈ encD e, u.oneCell' = true := by
 intro u hu
 simp only [encD, List.mem_cons, List.not_mem_nil, or_false] at hu
 rcases hu with rfl | rfl | rfl | rfl | rfl <;> rfl
structure XFit (l : List RX) : Prop where
 len : l.length < 4611686018427387904
 keys : ∀ x ∈ l, x.key.size < 4611686018427387904
 fits : ∀ x ∈ l, Fits x.thing
 sized : ∀ x ∈ l, Sized x.thing
theorem sorted_of {m : List KI} {l k : List RX} (hpr : m.map KI.pr = l.map RX.pr) (hk : ofX [] l = some k) : Sorted m (k.map RX.pr) := by
 obtain ⟨h1, h2, _⟩ := ofX_ok (acc := []) List.Pairwise.nil hk
 refine ⟨List.Pairwise.map RX.pr (fun _ _ h => h) h1, fun p => ?_⟩
 rw [hpr, List.mem_map, List.mem_map]
 constructor
 ·rintro ⟨x, hx, rfl⟩
  exact ⟨x, by simpa using (h2 x).1 hx, rfl⟩
 ·rintro ⟨x, hx, rfl⟩
  exact ⟨x, (h2 x).2 (by simp [hx]), rfl⟩
section
variable {α : Type} {eq lt : α → Bool} {y : α}
def putF (eq lt : α → Bool) (y : α) : List α → Bool → List α
 |[], d => if d then [] else [y]
 |x :: l, d => if eq x then putF eq lt y l d else if !d && lt x then y :: x :: putF eq lt y l true else x :: putF eq lt y l d
def delF (eq : α → Bool) (l : List α) : List α := l.filter fun x => !eq x
theorem delF_id : ∀ {l : List α}, (∀ x ∈ l, eq x = false) → delF eq l = l := by
 intro l h
 exact List.filter_eq_self.2 fun x hx => by rw [h x hx]; rfl
theorem putF_true : ∀ (l : List α), putF eq lt y l true = delF eq l
 |[] => rfl
 |x :: l => by
  have ih := putF_true l
  unfold putF delF
  cases he : eq x with
  |true => rw [if_pos rfl, ih]; simp [delF, he]
  |false => simp [he, ih, delF]
theorem putF_skip : ∀ {A B : List α}, (∀ x ∈ A, eq x = false ∧ lt x = false) → putF eq lt y (A ++ B) false = A ++ putF eq lt y B false
 |[], B, _ => rfl
 |x :: A, B, h => by
  have hx := h x (by simp)
  have ih := putF_skip (A := A) (B := B) fun z hz => h z (by simp [hz])
  rw [List.cons_append, putF, hx.1, hx.2]
  simp [ih]
theorem putF_del : ∀ (l : List α) (d : Bool), putF eq lt y (delF eq l) d = putF eq lt y l d
 |[], d => rfl
 |x :: l, d => by
  have ih := putF_del l
  cases he : eq x with
  |true =>
   have : delF eq (x :: l) = delF eq l := by simp [delF, he]
   rw [this, ih, putF, he]; simp
  |false =>
   have : delF eq (x :: l) = x :: delF eq l := by simp [delF, he]
   rw [this, putF, putF, he, ih, ih]
theorem putF_here {B : List α} (h : ∀ x ∈ B, eq x = false ∧ lt x = true) : putF eq lt y B false = y :: B := by
 cases B with
 |nil => rfl
 |cons x B =>
  have hx := h x (by simp)
  rw [putF, hx.1, hx.2]
  have hd : delF eq B = B := delF_id fun z hz => (h z (List.mem_cons_of_mem _ hz)).1
  simp [putF_true, hd]
theorem putF_like {x : α} {B : List α} (hx : eq x = true) (h : ∀ x ∈ B, eq x = false ∧ lt x = true) : putF eq lt y (x :: B) false = y :: B := by
 rw [putF, hx]
 simp [putF_here h]
theorem delF_like {x : α} {A B : List α} (hx : eq x = true) (hA : ∀ x ∈ A, eq x = false) (hB : ∀ x ∈ B, eq x = false) : delF eq (A ++ x :: B) = A ++ B := by
 unfold delF
 rw [List.filter_append, List.filter_cons, hx]
 have h1 := delF_id (eq := eq) hA
 have h2 := delF_id (eq := eq) hB
 unfold delF at h1 h2
 rw [h1, h2]
 rfl
theorem mem_putF {z : α} : ∀ {l : List α} {d : Bool}, z ∈ putF eq lt y l d → z = y ∨ (z ∈ l ∧ eq z = false)
 |[], d, h => by
  simp only [putF] at h
  split at h <;> simp at h
  exact .inl h
 |x :: l, d, h => by
  simp only [putF] at h
  cases he : eq x with
  |true =>
   rw [he] at h
   rcases mem_putF (l := l) (by simpa using h) with h | ⟨h1, h2⟩
   ·exact .inl h
   ·exact .inr ⟨by simp [h1], h2⟩
  |false =>
   rw [he] at h
   simp only [Bool.false_eq_true, if_false] at h
   split at h
   ·rcases List.mem_cons.1 h with h | h
    ·exact .inl h
    ·rcases List.mem_cons.1 h with h | h
     ·subst h; exact .inr ⟨by simp, he⟩
     ·rcases mem_putF (l := l) h with h | ⟨h1, h2⟩
      ·exact .inl h
      ·exact .inr ⟨by simp [h1], h2⟩
   ·rcases List.mem_cons.1 h with h | h
    ·subst h; exact .inr ⟨by simp, he⟩
    ·rcases mem_putF (l := l) h with h | ⟨h1, h2⟩
     ·exact .inl h
     ·exact .inr ⟨by simp [h1], h2⟩
theorem putF_len : ∀ (l : List α) (d : Bool), (putF eq lt y l d).length ≤ l.length + 1
 |[], d => by cases d <;> simp [putF]
 |x :: l, d => by
  have h1 := putF_len l d
  have h2 : (putF eq lt y l true).length ≤ l.length := by rw [putF_true]; exact List.length_filter_le _ _
  simp only [putF]
  split
  ·simp; omega
  ·split <;> simp <;> omega
theorem putF_ne (l : List α) : putF eq lt y l false ≠ [] := by
 induction l with
 |nil => simp [putF]
 |cons x l ih =>
  simp only [putF]
  split
  ·exact ih
  ·split <;> simp
theorem putF_up {R : α → α → Prop} (h1 : ∀ x, eq x = false → lt x = true → R y x) (h2 : ∀ x, eq x = false → lt x = false → R x y) (htr : ∀ a b c, R a b → R b c → R a c) :
  ∀ {l : List α}, l.Pairwise R → (putF eq lt y l false).Pairwise R
 |[], _ => by simp [putF]
 |x :: l, h => by
  have hx := List.pairwise_cons.1 h
  have ih := putF_up h1 h2 htr hx.2
  simp only [putF]
  cases he : eq x with
  |true => simpa using ih
  |false =>
   cases hl : lt x with
   |true =>
    simp only [Bool.false_eq_true, if_false, Bool.not_false, Bool.and_self, if_true, putF_true]
    refine List.pairwise_cons.2 ⟨fun z hz => ?_, List.pairwise_cons.2 ⟨fun z hz => hx.1 z (List.mem_filter.1 hz).1, hx.2.filter _⟩⟩
    rcases List.mem_cons.1 hz with rfl | hz
    ·exact h1 _ he hl
    ·exact htr _ _ _ (h1 _ he hl) (hx.1 z (List.mem_filter.1 hz).1)
   |false =>
    simp only [Bool.false_eq_true, if_false, Bool.not_false, Bool.and_false]
    refine List.pairwise_cons.2 ⟨fun z hz => ?_, ih⟩
    rcases mem_putF hz with rfl | ⟨hz, _⟩
    ·exact h2 _ he hl
    ·exact hx.1 z hz
end
section
variable {α : Type} {nm : α → ByteArray} {name : ByteArray}
theorem take_low {lo : α → Bool} {l : List α} {k : Nat} (c : CutAt lo l k) : ∀ x ∈ l.take k, lo x = true := by
 intro x hx
 obtain ⟨i, hi, rfl⟩ := List.getElem_of_mem hx
 rw [List.length_take] at hi
 rw [List.getElem_take]
 exact c.low i (by omega) (by omega)
theorem drop_high {lo : α → Bool} {l : List α} {k : Nat} (c : CutAt lo l k) : ∀ x ∈ l.drop k, lo x = false := by
 intro x hx
 obtain ⟨i, hi, rfl⟩ := List.getElem_of_mem hx
 rw [List.length_drop] at hi
 rw [List.getElem_drop]
 exact c.high (k + i) (by omega) (by omega)
theorem sless_not {a b : ByteArray} (h1 : sless a b = false) (h2 : a ≠ b) : sless b a = true := by
 rcases sless_total h2 with h | h
 ·rw [h1] at h; cases h
 ·exact h
theorem sless_no {a b : ByteArray} (h : sless a b = true) : sless b a = false := by
 cases hb : sless b a with
 |false => rfl
 |true => exact absurd hb (sless_asymm a b h)
theorem cut_before {l : List α} {k : Nat} (c : CutAt (fun x => sless (nm x) name) l k) : ∀ x ∈ l.take k, decide (nm x = name) = false ∧ sless name (nm x) = false := by
 intro x hx
 have := take_low c x hx
 exact ⟨decide_eq_false (sless_ne this), sless_no this⟩
theorem cut_none {l : List α} {k : Nat} (hs : l.Pairwise fun a b => sless (nm a) (nm b) = true) (c : CutAt (fun x => sless (nm x) name) l k) (hn : (l[k]?).any (fun x => decide (nm x = name)) = false) :
  ∀ x ∈ l.drop k, decide (nm x = name) = false ∧ sless name (nm x) = true := by
 have hd : ∀ x ∈ l.drop k, nm x ≠ name := by
  by_cases hk : k < l.length
  ·rw [List.getElem?_eq_getElem hk] at hn
   have hn' : nm l[k] ≠ name := by simpa using hn
   have hlow := c.high k (Nat.le_refl _) hk
   have hlt := sless_not hlow hn'
   rw [List.drop_eq_getElem_cons hk] at *
   have hp : (l[k] :: l.drop (k + 1)).Pairwise fun a b => sless (nm a) (nm b) = true := by
    rw [← List.drop_eq_getElem_cons hk]; exact hs.drop
   intro x hx
   rcases List.mem_cons.1 hx with rfl | hx
   ·exact hn'
   ·have := sless_trans hlt (List.rel_of_pairwise_cons hp hx)
    exact fun e => sless_ne this e.symm
  ·rw [List.drop_eq_nil_of_le (by omega)]; simp
 intro x hx
 exact ⟨decide_eq_false (hd x hx), sless_not (drop_high c x hx) (hd x hx)⟩
theorem cut_there {l : List α} {k : Nat} (hs : l.Pairwise fun a b => sless (nm a) (nm b) = true) (_ : CutAt (fun x => sless (nm x) name) l k) (hn : (l[k]?).any (fun x => decide (nm x = name)) = true) :
  ∃ hk : k < l.length, nm l[k] = name ∧ ∀ x ∈ l.drop (k + 1), decide (nm x = name) = false ∧ sless name (nm x) = true := by
 by_cases hk : k < l.length
 ·rw [List.getElem?_eq_getElem hk] at hn
  have hn' : nm l[k] = name := by simpa using hn
  refine ⟨hk, hn', fun x hx => ?_⟩
  have hp : (l[k] :: l.drop (k + 1)).Pairwise fun a b => sless (nm a) (nm b) = true := by
   rw [← List.drop_eq_getElem_cons hk]; exact hs.drop
  have := List.rel_of_pairwise_cons hp hx
  rw [hn'] at this
  exact ⟨decide_eq_false fun e => sless_ne this e.symm, this⟩
 ·rw [List.getElem?_eq_none (by omega)] at hn
  cases hn
theorem split_k {l : List α} {k : Nat} (hk : k < l.length) : l = l.take k ++ l[k] :: l.drop (k + 1) := by
 rw [← List.drop_eq_getElem_cons hk, List.take_append_drop]
theorem put_none {y : α} {l : List α} {k : Nat} (hs : l.Pairwise fun a b => sless (nm a) (nm b) = true) (c : CutAt (fun x => sless (nm x) name) l k) (hn : (l[k]?).any (fun x => decide (nm x = name)) = false) :
  putF (fun x => decide (nm x = name)) (fun x => sless name (nm x)) y l false = l.take k ++ y :: l.drop k := by
 have e : l = l.take k ++ l.drop k := (List.take_append_drop k l).symm
 rw [show putF (fun x => decide (nm x = name)) (fun x => sless name (nm x)) y l false = putF (fun x => decide (nm x = name)) (fun x => sless name (nm x)) y (l.take k ++ l.drop k) false by rw [← e],
  putF_skip (cut_before c), putF_here (cut_none hs c hn)]
theorem put_there {y : α} {l : List α} {k : Nat} (hs : l.Pairwise fun a b => sless (nm a) (nm b) = true) (c : CutAt (fun x => sless (nm x) name) l k) (hn : (l[k]?).any (fun x => decide (nm x = name)) = true) :
  putF (fun x => decide (nm x = name)) (fun x => sless name (nm x)) y l false = l.take k ++ y :: l.drop (k + 1) := by
 obtain ⟨hk, he, hb⟩ := cut_there hs c hn
 rw [show putF (fun x => decide (nm x = name)) (fun x => sless name (nm x)) y l false = putF (fun x => decide (nm x = name)) (fun x => sless name (nm x)) y (l.take k ++ l[k] :: l.drop (k + 1)) false by rw [← split_k hk],
  putF_skip (cut_before c), putF_like (by simpa using he) hb]
theorem del_there {l : List α} {k : Nat} (hs : l.Pairwise fun a b => sless (nm a) (nm b) = true) (c : CutAt (fun x => sless (nm x) name) l k) (hn : (l[k]?).any (fun x => decide (nm x = name)) = true) :
  delF (fun x => decide (nm x = name)) l = l.take k ++ l.drop (k + 1) ∧ l.any (fun x => decide (nm x = name)) = true := by
 obtain ⟨hk, he, hb⟩ := cut_there hs c hn
 refine ⟨?_, List.any_eq_true.2 ⟨l[k], List.getElem_mem hk, by simpa using he⟩⟩
 have := delF_like (eq := fun x => decide (nm x = name)) (x := l[k]) (A := l.take k) (B := l.drop (k + 1)) (by simpa using he) (fun x hx => (cut_before c x hx).1) (fun x hx => (hb x hx).1)
 rw [← split_k hk] at this
 exact this
theorem any_none {l : List α} {k : Nat} (hs : l.Pairwise fun a b => sless (nm a) (nm b) = true) (c : CutAt (fun x => sless (nm x) name) l k) (hn : (l[k]?).any (fun x => decide (nm x = name)) = false) :
  l.any (fun x => decide (nm x = name)) = false := by
 rw [List.any_eq_false]
 intro x hx
 rw [← List.take_append_drop k l] at hx
 rcases List.mem_append.1 hx with hx | hx
 ·rw [(cut_before c x hx).1]; simp
 ·rw [(cut_none hs c hn x hx).1]; simp
end
theorem ahead_tr (a b c : Rank) (h1 : aheadR a b = true) (h2 : aheadR b c = true) : aheadR a c = true := by
 simp only [aheadR, Bool.or_eq_true, decide_eq_true_eq, Bool.and_eq_true] at h1 h2 ⊢
 rcases h1 with h1 | ⟨h1, h1'⟩ <;> rcases h2 with h2 | ⟨h2, h2'⟩
 ·left; omega
 ·left; omega
 ·left; omega
 ·right; exact ⟨by omega, sless_trans h1' h2'⟩
theorem ahead_not {a b : Rank} (h1 : aheadR a b = false) (h2 : a.name ≠ b.name) : aheadR b a = true := by
 simp only [aheadR, Bool.or_eq_false_iff, decide_eq_false_iff_not, Bool.and_eq_false_iff] at h1
 simp only [aheadR, Bool.or_eq_true, decide_eq_true_eq, Bool.and_eq_true]
 by_cases h : b.score < a.score
 ·exact .inl h
 ·have : a.score = b.score := by omega
  rcases h1.2 with h | h
  ·exact absurd this h
  ·exact .inr ⟨this.symm, sless_not h h2⟩
theorem ahead_no {a b : Rank} (h : aheadR a b = true) : aheadR b a = false := by
 cases hb : aheadR b a with
 |false => rfl
 |true =>
  have := ahead_tr a b a h hb
  simp [aheadR, sless_irrefl] at this
theorem del_rank {l : List Rank} {k : Nat} {name : ByteArray} (hn : (l.map Rank.name).Nodup) (hk : k < l.length) (he : l[k].name = name) :
  delF (fun x => decide (x.name = name)) l = l.take k ++ l.drop (k + 1) := by
 have e := split_k hk
 have hn' : ((l.take k ++ l[k] :: l.drop (k + 1)).map Rank.name).Nodup := by rw [← e]; exact hn
 rw [List.map_append, List.map_cons, List.nodup_append] at hn'
 obtain ⟨_, h2, h3⟩ := hn'
 rw [List.nodup_cons] at h2
 have := delF_like (eq := fun x : Rank => decide (x.name = name)) (x := l[k]) (A := l.take k) (B := l.drop (k + 1)) (by simpa using he)
  (fun x hx => decide_eq_false fun e => h3 _ (List.mem_map_of_mem hx) _ List.mem_cons_self (by rw [e, he]))
  (fun x hx => decide_eq_false fun e => h2.1 (by rw [he, ← e]; exact List.mem_map_of_mem hx))
 rw [← e] at this
 exact this
theorem put_rank {y : Rank} {l : List Rank} {k : Nat} (hno : ∀ x ∈ l, x.name ≠ y.name) (c : CutAt (fun x => aheadR x y) l k) :
  putF (fun x => decide (x.name = y.name)) (fun x => aheadR y x) y l false = l.take k ++ y :: l.drop k := by
 have e : l = l.take k ++ l.drop k := (List.take_append_drop k l).symm
 rw [show putF (fun x : Rank => decide (x.name = y.name)) (fun x => aheadR y x) y l false = putF (fun x : Rank => decide (x.name = y.name)) (fun x => aheadR y x) y (l.take k ++ l.drop k) false by rw [← e],
  putF_skip fun x hx => ⟨decide_eq_false (hno x (List.mem_of_mem_take hx)), ahead_no (take_low c x hx)⟩,
  putF_here fun x hx => ⟨decide_eq_false (hno x (List.mem_of_mem_drop hx)), ahead_not (drop_high c x hx) (hno x (List.mem_of_mem_drop hx))⟩]
def doneT (t : Thing) (e : Eff) : Thing × Int :=
 if e.op = 1 then (zeroT, 0) else
 if e.op = 2 then (textT e.text, 0) else
 if e.op = 3 then ({ t with hasU := true, unt := e.num }, 0) else
 if e.op = 4 then ({ t with hasU := false, unt := 0 }, 0) else
 if e.op = 5 then ({ t with pairs := putF (fun x => decide (x.name = e.name)) (fun x => sless e.name x.name) ⟨e.name, e.text⟩ t.pairs false }, 0) else
 if e.op = 6 then ({ t with pairs := delF (fun x => decide (x.name = e.name)) t.pairs }, if t.pairs.any (fun x => decide (x.name = e.name)) then 0 else 5) else
 if e.op = 7 then ({ t with list := e.text :: t.list }, 0) else
 if e.op = 8 then ({ t with list := t.list ++ [e.text] }, 0) else
 if e.op = 9 then ({ t with list := t.list.tail }, 0) else
 if e.op = 10 then ({ t with list := t.list.dropLast }, 0) else
 if e.op = 11 then (if 0 ≤ e.num ∧ e.num < t.list.length then ({ t with list := t.list.set e.num.toNat e.text }, 0) else (t, 4)) else
 if e.op = 12 then ({ t with list := putF (fun x => decide (x = e.name)) (fun x => sless e.name x) e.name t.list false }, 0) else
 if e.op = 13 then ({ t with list := delF (fun x => decide (x = e.name)) t.list }, if t.list.any (fun x => decide (x = e.name)) then 0 else 5) else
 if e.op = 14 then ({ t with ranks := putF (fun x => decide (x.name = e.name)) (fun x => aheadR ⟨e.name, e.num⟩ x) ⟨e.name, e.num⟩ t.ranks false }, 0) else
 if e.op = 15 then ({ t with ranks := delF (fun x => decide (x.name = e.name)) t.ranks }, if t.ranks.any (fun x => decide (x.name = e.name)) then 0 else 5) else (t, 0)
structure TGood (t : Thing) : Prop where
 ps : t.pairs.Pairwise fun a b => sless a.name b.name = true
 ls : t.kind = 4 → t.list.Pairwise fun a b => sless a b = true
 rs : t.ranks.Pairwise fun a b => aheadR a b = true
 once : (t.ranks.map Rank.name).Nodup
 only : t.kind = 3 → t.pairs = [] ∧ t.ranks = []
 few : countT t ≤ 65536
theorem TGood.lens {t : Thing} (g : TGood t) : Lens t := by
 have := g.few
 unfold countT at this
 exact ⟨by omega, by omega, by omega⟩
end Go.Proofs.YtjnijlnmbjjgpaaGreatDoor
