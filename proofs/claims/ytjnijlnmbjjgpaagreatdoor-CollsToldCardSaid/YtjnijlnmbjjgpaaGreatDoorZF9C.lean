/-
  The simplified code of this seat's functions, and that it is what the program's code comes to. Printed by a program (wip/print.lean).
  Layer 7: texts and members compared.
  Layer 7: lists compared, lists that rise (printed by gen.py).
  Layer 7: texts and members in order.
  Layer 7: things; two the same (printed by gend.py).
  Layer 7: how many items, how long their texts.
  Layer 7: each name once; what is large.
  Layer 7: may a thing be? As the program asks.
  Layer 7: may a thing be? As the document asks; and that the two ask the same.
  Layer 7: may a thing be? The document's loops.
  Layer 7: may a thing be? The document's answer, whole.
  Layer 7: copies; a keyspace (printed by genk.py).
  Layer 7: the rules; a text that is put.
  Layer 7: what stands under a key.
  Layer 7: known.
  Slices of one's own, cut, written, grown in the middle; small words.
  Layer 7: items put into slices, taken out of them (printed by genins.py).
  Layer 7: where an item stands, or must stand (printed by genbs.py).
  Layer 7: lists of things under keys, plain.
  Layer 7: the reference's Find, Put, Get, Names.
  Layer 7: a keyspace as it lies; plain laws of the reference's Of.
  Layer 7: a keyspace of things (keys.Of).
  DERIVED. MADE BY PROGRAM (lay-iter.mjs) off ytjnijlnmbjjgpaagreatdoor.cut.gsa: THE SHELF's CONTRACTS ON 'slices.Sorted(maps.Keys(m))' LAID AT THIS DUMP: 2 map types. NO WALK OF THE LIBRARY's TEXT: each is one application of a contract over any P and ρ (Derived/Shelf/SlIter/, Derived/Shelf/SortM/).
  Layer 7: the sorted keys of a keyspace's map (over the shelf's contracts).
  Layer 7: All: what it goes over, by rising keys.
  Layer 7: has a keyspace just these things (taborlaw07.same).
  Layer 7: vast, sorted; the reference's Of and Names.
  Layer 7: taborlaw07.KeysAll.
  Layer 7: what an effect makes of a thing: plain laws.
  Layer 7: what the effects' rules do to a thing (printed by gendo.py).
  Layer 7: a keyspace behind an effect: plain laws.
  Layer 7: keys' one, whatever the effect (printed by genone.py).
  Layer 7: keys' one, whatever the effect, from its beginning (printed by genone2.py).
  Layer 7: keys' Apply, whatever the effects.
  The simplified code of this seat's functions, and that it is what the program's code comes to. Printed by a program (wip/print.lean).
  Layer 7: the reference's pairs, members, ranks (printed by genref.py).
  Layer 7: the reference's uses, kind, Count, Drop (printed by genuse.py).
  Layer 7: the reference's done (printed by gendone.py).
  Layer 7: a list of things behind an effect: plain laws.
  Layer 7: what stands there and is not gone: Get, the reference's Names.
  Layer 7: keys' Names and Size.
  The simplified code of this seat's functions, and that it is what the program's code comes to. Printed by a program (wip/print.lean).
  Layer 8: what is too much; what a gone thing costs.
  The simplified code of this seat's functions, and that it is what the program's code comes to. Printed by a program (wip/print.lean).
  Layer 8: a command that is asked: giving up, its effects, its arguments.
-/
import Derived.Test.YtjnijlnmbjjgpaaGreatDoorProg
import Derived.WalkKit
import Derived.Laws.Externs
import Derived.Lib.Overlaps
import Derived.Shelf.SlIter.Nil
import Derived.Shelf.SortM.Plain
import Derived.Shelf.SortM.SortNone
import Derived.Ground.GgzProg
import Derived.Ground.SlgmProg
import Derived.Test.YtjnijlnmbjjgpaaGreatDoorZF9B
abbrev Go.Sx.LS : Type := List Go.Sx.SOper
set_option maxRecDepth 100000
namespace Go.Proofs.YtjnijlnmbjjgpaaGreatDoor.C
open Go Go.Sx Go.Sx.S
theorem mixed : Tryz.prog.follows .mixedOrders = true := by kernel_rfl
def f16r0 : LS := [o 0 (.mv (.const (.pointer none)))]
def f16r1 : LS := [o 1 (.mkm),o 2 (.build [(.map none)] [(0, 1)] [(t 1)]),o 3 (.box (t 2)),o 4 (.build [(.pointer none)] [(0, 1)] [(t 3)]),o 5 (.box (t 4)),o 0 (.mv (t 5))]
def f16 : SCode := (.seq (.ops f16r0) (.seq (.ops f16r1) .ret))
theorem f16_calls : Sound Tryz.prog 16 6 f16 [.t 0] := sound_of mixed Tryz.func16 rfl (by kernel_rfl) (by kernel_rfl) (by kernel_rfl)
def f21r0 : LS := [o 4 (.mv (i 0)),o 5 (.mv (i 0))]
def f21r1 : LS := [o 10 (.mv (t 0)),o 11 (.call 42 [(t 10)])]
def f21r2 : LS := [o 4 (.mv (i 0)),o 5 (.mv (i 1))]
def f21r3 : LS := [o 6 (.mv (i 0))]
def f21r4 : LS := [o 7 (.mv (i 0))]
def f21r5 : LS := [o 12 (.mv (t 1)),o 13 (.len (t 12)),o 14 (.mv (i 0))]
def f21r6 : LS := [o 15 (.cmp .lss (t 14) (t 13))]
def f21r7 : LS := [o 16 (.ixs 5 (t 12) (t 14)),o 17 (.ldn 5 (t 16)),o 9 (.new [(.int .i64 0), (.string ⟨#[]⟩), (.string ⟨#[]⟩), (.string ⟨#[]⟩), (.int .i64 0)]),
 q (.st 5 (t 9) (t 17))]
def f21r8 : LS := [o 18 (.mv (t 0)),o 19 (.ldn 5 (t 9)),o 20 (.call 43 [(t 18), (t 19)]),o 7 (.mv (t 20))]
def f21r9 : LS := [o 21 (.mv (t 7)),o 22 (.cmp .neq (t 21) (i 0))]
def f21r10 : LS := [o 23 (.mv (t 6)),o 24 (.ar .add (t 23) (i 1)),o 6 (.mv (t 24))]
def f21r11 : LS := [o 25 (.ar .add (t 14) (i 1)),o 14 (.mv (t 25))]
def f21l12 : SCode := (.seq (.ops f21r6) (.seq (.cond (t 15) .skip (.exit 0)) (.seq (.block 1 (.seq (.ops f21r7) (.seq (.seq (.ops f21r8) (.seq (.ops f21r9) (.cond (t 22) (.exit 0) .skip))) (.ops f21r10)))) (.ops f21r11))))
def f21r13 : LS := [o 26 (.mv (t 6)),o 27 (.mv (t 7)),o 4 (.mv (t 26)),o 5 (.mv (t 27))]
def f21r14 : LS := [o 12 (.mv (t 1)),o 13 (.len (t 12)),o 14 (.mv (i 0))]
def f21r15 : LS := [o 15 (.cmp .lss (t 14) (t 13))]
def f21r16 : LS := [o 16 (.ixs 5 (t 12) (t 14)),o 17 (.ldn 5 (t 16)),o 9 (.new [(.int .i64 0), (.string ⟨#[]⟩), (.string ⟨#[]⟩), (.string ⟨#[]⟩), (.int .i64 0)]),
 q (.st 5 (t 9) (t 17))]
def f21r17 : LS := [o 18 (.mv (t 0)),o 19 (.ldn 5 (t 9)),o 20 (.call 43 [(t 18), (t 19)]),o 7 (.mv (t 20))]
def f21r18 : LS := [o 21 (.mv (t 7)),o 22 (.cmp .neq (t 21) (i 0))]
def f21r19 : LS := [o 23 (.mv (t 6)),o 24 (.ar .add (t 23) (i 1)),o 6 (.mv (t 24))]
def f21r20 : LS := [o 25 (.ar .add (t 14) (i 1)),o 14 (.mv (t 25))]
def f21l21 : SCode := (.seq (.ops f21r15) (.seq (.cond (t 15) .skip (.exit 0)) (.seq (.block 1 (.seq (.ops f21r16) (.seq (.seq (.ops f21r17) (.seq (.ops f21r18) (.cond (t 22) (.exit 0) .skip))) (.ops f21r19)))) (.ops f21r20))))
def f21r22 : LS := [o 26 (.mv (t 6)),o 27 (.mv (t 7)),o 4 (.mv (t 26)),o 5 (.mv (t 27))]
def f21 : SCode := (.seq (.ops f21r0) (.scopeG (.seq (.seq (.ops f21r1) (.cond (t 11) (.seq (.ops f21r2) .ret) .skip)) (.seq (.ops f21r3) (.seq (.ops f21r4) (.seq (.label 0) (.seq (.seq (.ops f21r5) (.block 0 (.loop f21l12))) (.seq (.ops f21r13) .ret)))))) 0 (.seq .skip (.seq (.seq (.ops f21r14) (.block 0 (.loop f21l21))) (.seq (.ops f21r22) .ret)))))
theorem f21_calls : Sound Tryz.prog 21 28 f21 [.t 4, .t 5] := sound_of mixed Tryz.func21 rfl (by kernel_rfl) (by kernel_rfl) (by kernel_rfl)
def f36r0 : LS := [o 1 (.box (t 0)),o 2 (.new [(.int .i64 0), (.string ⟨#[]⟩), (.slice none 0 0), (.slice none 0 0), (.slice none 0 0), (.bool false), (.int .i64 0)])]
def f36r1 : LS := [o 3 (.fa 2 (t 1)),o 4 (.ld1 (t 3)),o 6 (.fa 3 (t 1)),o 7 (.ld1 (t 6)),o 9 (.fa 4 (t 1)),o 10 (.ld1 (t 9)),o 5 (.callq 75 [(t 4)]),o 12 (.fa 2 (t 1)),o 8 (.callq 76 [(t 7)]),o 11 (.callq 77 [(t 10)]),
 q (.st 1 (t 12) (t 5)),o 13 (.fa 3 (t 1)),
 q (.st 1 (t 13) (t 8)),o 14 (.fa 4 (t 1)),
 q (.st 1 (t 14) (t 11))]
def f36r2 : LS := [o 15 (.ldn 7 (t 1)),
 q (.st 7 (t 2) (t 15))]
def f36 : SCode := (.seq (.ops f36r0) (.seq (.ops f36r1) (.seq (.ops f36r2) .ret)))
theorem f36_calls : Sound Tryz.prog 36 16 f36 [.cn 2 7] := sound_of mixed Tryz.func36 rfl (by kernel_rfl) (by kernel_rfl) (by kernel_rfl)
def f37r0 : LS := [o 4 (.mv (b false))]
def f37r1 : LS := [o 5 (.mv (t 0)),o 6 (.call 42 [(t 5)]),o 7 (.mv (t 6)),
 n 8 7 (.mv (t 1)),
 n 9 7 (.call 42 [(t 8)]),o 10 (.pick (t 7) (b true) (t 9))]
def f37r2 : LS := [o 11 (.mv (t 0)),o 12 (.call 42 [(t 11)]),o 13 (.mv (t 12)),
 g 14 13 (.mv (t 1)),
 g 15 13 (.call 42 [(t 14)]),o 16 (.pick (t 13) (t 15) (b false)),o 4 (.mv (t 16))]
def f37r3 : LS := [o 17 (.mv (t 0)),o 18 (.nilck (t 17)),o 19 (.fa 0 (t 18)),o 20 (.ld1 (t 19)),o 21 (.nilck (t 20)),o 22 (.fa 0 (t 21)),o 23 (.ld1 (t 22)),o 24 (.mv (t 1)),o 25 (.nilck (t 24)),o 26 (.fa 0 (t 25)),o 27 (.ld1 (t 26)),o 28 (.nilck (t 27)),o 29 (.fa 0 (t 28)),o 30 (.ld1 (t 29)),o 31 (.call 78 [(t 23), (t 30), (u 79)]),o 4 (.mv (t 31))]
def f37 : SCode := (.seq (.ops f37r0) (.seq (.seq (.ops f37r1) (.cond (t 10) (.seq (.ops f37r2) .ret) .skip)) (.seq (.ops f37r3) .ret)))
theorem f37_calls : Sound Tryz.prog 37 32 f37 [.t 4] := sound_of mixed Tryz.func37 rfl (by kernel_rfl) (by kernel_rfl) (by kernel_rfl)
def f42r0 : LS := [o 2 (.mv (b false))]
def f42r1 : LS := [o 3 (.mv (t 0)),o 4 (.eqn 0 false (t 3)),o 5 (.mv (t 4)),
 n 6 5 (.mv (t 0)),
 n 7 5 (.nilck (t 6)),
 n 8 5 (.fa 0 (t 7)),
 n 9 5 (.ld1 (t 8)),
 n 10 5 (.eqn 0 false (t 9)),o 11 (.pick (t 5) (b true) (t 10)),o 2 (.mv (t 11))]
def f42 : SCode := (.seq (.ops f42r0) (.seq (.ops f42r1) .ret))
theorem f42_calls : Sound Tryz.prog 42 12 f42 [.t 2] := sound_of mixed Tryz.func42 rfl (by kernel_rfl) (by kernel_rfl) (by kernel_rfl)
def f43r0 : LS := [o 3 (.box (t 1)),o 4 (.mv (i 0))]
def f43p1 : LS := [o 12 (.fa 0 (t 3)),o 13 (.ld1 (t 12))]
def f43r1 : LS := [o 11 (.callq 109 []),o 14 (.look (.int .i64) (.agg #[(.bool false), (.bool false), (.bool false), (.int .i64 0), (.bool false), .nilFunc]) true (t 11) (t 13)),o 10 (.mv (t 14)),o 15 (.ext (t 10) 0),o 16 (.ext (t 10) 1),o 5 (.new [(.bool false), (.bool false), (.bool false), (.int .i64 0), (.bool false), .nilFunc]),
 q (.st 6 (t 5) (t 15)),o 6 (.mv (t 16))]
def f43s1 : LS := [o 5 (.new [(.bool false), (.bool false), (.bool false), (.int .i64 0), (.bool false), .nilFunc]),o 11 (.callq 109 []),o 14 (.look (.int .i64) (.agg #[(.bool false), (.bool false), (.bool false), (.int .i64 0), (.bool false), .nilFunc]) true (t 11) (t 13)),o 10 (.mv (t 14)),o 15 (.ext (t 10) 0),o 16 (.ext (t 10) 1),
 q (.st 6 (t 5) (t 15)),o 6 (.mv (t 16))]
def f43r2 : LS := [o 17 (.mv (t 6)),o 18 (.un .not (t 17)),o 19 (.mv (t 18)),
 n 20 19 (.fa 0 (t 5)),
 n 21 19 (.ld1 (t 20)),
 n 22 19 (.un .not (t 21)),
 n 23 19 (.mv (t 22)),
 g 24 23 (.fa 2 (t 3)),
 g 25 23 (.ld1 (t 24)),
 g 26 23 (.cmp .neq (t 25) e),
 n 27 19 (.pick (t 23) (t 26) (b false)),o 28 (.pick (t 19) (b true) (t 27)),o 29 (.mv (t 28)),
 n 30 29 (.fa 1 (t 5)),
 n 31 29 (.ld1 (t 30)),
 n 32 29 (.un .not (t 31)),
 n 33 29 (.mv (t 32)),
 g 34 33 (.fa 3 (t 3)),
 g 35 33 (.ld1 (t 34)),
 g 36 33 (.cmp .neq (t 35) e),
 n 37 29 (.pick (t 33) (t 36) (b false)),o 38 (.pick (t 29) (b true) (t 37)),o 39 (.mv (t 38)),
 n 40 39 (.fa 2 (t 5)),
 n 41 39 (.ld1 (t 40)),
 n 42 39 (.un .not (t 41)),
 n 43 39 (.mv (t 42)),
 g 44 43 (.fa 4 (t 3)),
 g 45 43 (.ld1 (t 44)),
 g 46 43 (.cmp .neq (t 45) (i 0)),
 n 47 39 (.pick (t 43) (t 46) (b false)),o 48 (.pick (t 39) (b true) (t 47))]
def f43r3 : LS := [o 4 (.mv (i 2))]
def f43r4 : LS := [o 49 (.fa 1 (t 3)),o 50 (.ld1 (t 49)),o 51 (.fa 2 (t 3)),o 52 (.ld1 (t 51)),o 53 (.fa 3 (t 3)),o 54 (.ld1 (t 53)),o 55 (.bslice [(.string ⟨#[]⟩), (.string ⟨#[]⟩), (.string ⟨#[]⟩)] 3 [(0, 1), (1, 1), (2, 1)] [(t 50), (t 52), (t 54)]),o 56 (.call 66 [(t 55)]),o 57 (.un .not (t 56))]
def f43r5 : LS := [o 4 (.mv (i 3))]
def f43r6 : LS := [o 59 (.mv (t 0)),o 60 (.fa 1 (t 3)),o 61 (.ld1 (t 60)),o 62 (.call 110 [(t 59), (t 61)]),o 58 (.mv (t 62)),o 63 (.ext (t 58) 0),o 64 (.ext (t 58) 1),o 7 (.new [(.int .i64 0), (.string ⟨#[]⟩), (.slice none 0 0), (.slice none 0 0), (.slice none 0 0), (.bool false), (.int .i64 0)]),
 q (.st 7 (t 7) (t 63)),o 8 (.mv (t 64))]
def f43r7 : LS := [o 66 (.mv (t 8)),o 67 (.un .not (t 66)),o 68 (.mv (t 67)),
 g 69 68 (.fa 4 (t 5)),
 g 70 68 (.ld1 (t 69)),
 g 71 68 (.un .not (t 70)),o 72 (.pick (t 68) (t 71) (b false)),o 65 (.mv (t 72))]
def f43r8 : LS := [o 4 (.mv (i 5))]
def f43r9 : LS := [o 74 (.mv (t 8)),o 75 (.un .not (t 74)),o 73 (.mv (t 75))]
def f43r10 : LS := [o 76 (.fa 3 (t 5)),o 77 (.ld1 (t 76)),o 78 (.fa 0 (t 7)),
 q (.st 1 (t 78) (t 77))]
def f43r11 : LS := [o 80 (.fa 3 (t 5)),o 81 (.ld1 (t 80)),o 82 (.cmp .neq (t 81) (i 0)),o 83 (.mv (t 82)),
 g 84 83 (.fa 0 (t 7)),
 g 85 83 (.ld1 (t 84)),
 g 86 83 (.fa 3 (t 5)),
 g 87 83 (.ld1 (t 86)),
 g 88 83 (.cmp .neq (t 85) (t 87)),o 89 (.pick (t 83) (t 88) (b false)),o 79 (.mv (t 89))]
def f43r12 : LS := [o 4 (.mv (i 170))]
def f43r13 : LS := [o 90 (.fa 5 (t 5)),o 91 (.ld1 (t 90)),o 92 (.ldn 5 (t 3)),o 93 (.callv (t 91) [(t 7), (t 92)]),o 9 (.mv (t 93))]
def f43r14 : LS := [o 94 (.mv (t 9)),o 95 (.cmp .neq (t 94) (i 0))]
def f43r15 : LS := [o 96 (.mv (t 9)),o 4 (.mv (t 96))]
def f43r16 : LS := [o 107 (.fa 0 (t 7)),o 108 (.ld1 (t 107)),o 109 (.cmp .neq (t 108) (i 1)),o 110 (.mv (t 109)),
 g 111 110 (.ldn 7 (t 7)),
 g 112 110 (.call 65 [(t 111)]),
 g 113 110 (.cmp .eql (t 112) (i 0)),o 114 (.pick (t 110) (t 113) (b false)),o 106 (.mv (t 114))]
def f43r17 : LS := [o 115 (.mv (t 0)),o 116 (.nilck (t 115)),o 117 (.fa 0 (t 116)),o 118 (.ld1 (t 117)),o 119 (.nilck (t 118)),o 120 (.fa 0 (t 119)),o 121 (.ld1 (t 120)),o 122 (.fa 1 (t 3)),o 123 (.ld1 (t 122)),
 q (.mdel .str (t 121) (t 123))]
def f43r18 : LS := [o 125 (.ldn 7 (t 7)),o 126 (.call 65 [(t 125)]),o 127 (.cmp .gtr (t 126) (i 65536)),o 128 (.mv (t 127)),
 n 129 128 (.mv (t 8)),
 n 130 128 (.un .not (t 129)),
 n 131 128 (.mv (t 130)),
 g 132 131 (.mv (t 0)),
 g 133 131 (.nilck (t 132)),
 g 134 131 (.fa 0 (t 133)),
 g 135 131 (.ld1 (t 134)),
 g 136 131 (.nilck (t 135)),
 g 137 131 (.fa 0 (t 136)),
 g 138 131 (.ld1 (t 137)),
 g 139 131 (.lenm (t 138)),
 g 140 131 (.cmp .geq (t 139) (i 65536)),
 n 141 128 (.pick (t 131) (t 140) (b false)),o 142 (.pick (t 128) (b true) (t 141)),o 124 (.mv (t 142))]
def f43r19 : LS := [o 4 (.mv (i 3))]
def f43r20 : LS := [o 97 (.mv (t 0)),o 98 (.nilck (t 97)),o 99 (.fa 0 (t 98)),o 100 (.ld1 (t 99)),o 101 (.nilck (t 100)),o 102 (.fa 0 (t 101)),o 103 (.ld1 (t 102)),o 104 (.fa 1 (t 3)),o 105 (.ld1 (t 104)),
 q (.mup .str (t 103) (t 105) (t 7))]
def f43r21 : LS := [o 4 (.mv (i 0))]
def f43 : SCode := (.seq (.ops f43r0) (.seq (.two f43p1 f43r1 f43s1) (.seq (.seq (.ops f43r2) (.cond (t 48) (.seq (.ops f43r3) .ret) .skip)) (.seq (.seq (.ops f43r4) (.cond (t 57) (.seq (.ops f43r5) .ret) .skip)) (.seq (.ops f43r6) (.seq (.block 0 (.seq (.ops f43r7) (.cond (t 65) (.seq (.ops f43r8) .ret) (.seq (.ops f43r9) (.cond (t 73) (.ops f43r10) (.seq (.ops f43r11) (.cond (t 79) (.seq (.ops f43r12) .ret) .skip))))))) (.seq (.seq (.ops f43r13) (.seq (.ops f43r14) (.cond (t 95) (.seq (.ops f43r15) .ret) .skip))) (.seq (.block 1 (.seq (.ops f43r16) (.cond (t 106) (.ops f43r17) (.seq (.ops f43r18) (.cond (t 124) (.seq (.ops f43r19) .ret) (.ops f43r20)))))) (.seq (.ops f43r21) .ret)))))))))
theorem f43_calls : Sound Tryz.prog 43 143 f43 [.t 4] := sound_of mixed Tryz.func43 rfl (by kernel_rfl) (by kernel_rfl) (by kernel_rfl)
def f45r0 : LS := [o 6 (.new [(.int .i64 0), (.string ⟨#[]⟩), (.slice none 0 0), (.slice none 0 0), (.slice none 0 0), (.bool false), (.int .i64 0)]),o 7 (.mv (b false))]
def f45r1 : LS := [o 11 (.mv (t 0)),o 12 (.mv (t 1)),o 13 (.call 110 [(t 11), (t 12)]),o 10 (.mv (t 13)),o 14 (.ext (t 10) 0),o 15 (.ext (t 10) 1),o 8 (.new [(.int .i64 0), (.string ⟨#[]⟩), (.slice none 0 0), (.slice none 0 0), (.slice none 0 0), (.bool false), (.int .i64 0)]),
 q (.st 7 (t 8) (t 14)),o 9 (.mv (t 15))]
def f45r2 : LS := [o 16 (.mv (t 9)),o 17 (.un .not (t 16)),o 18 (.mv (t 17)),
 n 19 18 (.ldn 7 (t 8)),
 n 20 18 (.mv (t 2)),
 n 21 18 (.call 112 [(t 19), (t 20)]),o 22 (.pick (t 18) (b true) (t 21))]
def f45r3 : LS := [o 23 (.build [(.int .i64 0), (.string ⟨#[]⟩), (.slice none 0 0), (.slice none 0 0), (.slice none 0 0), (.bool false), (.int .i64 0)] [] []),
 q (.st 7 (t 6) (t 23)),o 7 (.mv (b false))]
def f45r4 : LS := [o 24 (.ldn 7 (t 8)),
 q (.st 7 (t 6) (t 24)),o 7 (.mv (b true))]
def f45 : SCode := (.seq (.ops f45r0) (.seq (.ops f45r1) (.seq (.seq (.ops f45r2) (.cond (t 22) (.seq (.ops f45r3) .ret) .skip)) (.seq (.ops f45r4) .ret))))
theorem f45_calls : Sound Tryz.prog 45 25 f45 [.cn 6 7, .t 7] := sound_of mixed Tryz.func45 rfl (by kernel_rfl) (by kernel_rfl) (by kernel_rfl)
def f65r0 : LS := [o 1 (.box (t 0)),o 2 (.mv (i 0))]
def f65r1 : LS := [o 3 (.fa 2 (t 1)),o 4 (.ld1 (t 3)),o 5 (.len (t 4)),o 6 (.fa 3 (t 1)),o 7 (.ld1 (t 6)),o 8 (.len (t 7)),o 9 (.ar .add (t 5) (t 8)),o 10 (.fa 4 (t 1)),o 11 (.ld1 (t 10)),o 12 (.len (t 11)),o 13 (.ar .add (t 9) (t 12)),o 2 (.mv (t 13))]
def f65 : SCode := (.seq (.ops f65r0) (.seq (.ops f65r1) .ret))
theorem f65_calls : Sound Tryz.prog 65 14 f65 [.t 2] := sound_of mixed Tryz.func65 rfl (by kernel_rfl) (by kernel_rfl) (by kernel_rfl)
def f66r0 : LS := [o 2 (.mv (b false))]
def f66r1 : LS := [o 3 (.mv (t 0)),o 4 (.call 143 [(t 3), (u 144)]),o 5 (.un .not (t 4)),o 2 (.mv (t 5))]
def f66 : SCode := (.seq (.ops f66r0) (.seq (.ops f66r1) .ret))
theorem f66_calls : Sound Tryz.prog 66 6 f66 [.t 2] := sound_of mixed Tryz.func66 rfl (by kernel_rfl) (by kernel_rfl) (by kernel_rfl)
def f70r0 : LS := [o 4 (.mv (i 0))]
def f70r1 : LS := [o 5 (.mv (t 0)),o 6 (.mv (t 1)),o 7 (.call 145 [(t 5), (t 6)]),o 4 (.mv (t 7))]
def f70 : SCode := (.seq (.ops f70r0) (.seq (.ops f70r1) .ret))
theorem f70_calls : Sound Tryz.prog 70 8 f70 [.t 4] := sound_of mixed Tryz.func70 rfl (by kernel_rfl) (by kernel_rfl) (by kernel_rfl)
def f73r0 : LS := [o 2 (.box (t 0)),o 3 (.box (t 1)),o 4 (.mv (i 0))]
def f73r1 : LS := [o 6 (.fa 1 (t 2)),o 7 (.ld1 (t 6)),o 8 (.fa 1 (t 3)),o 9 (.ld1 (t 8)),o 10 (.cmp .lss (t 7) (t 9)),o 5 (.mv (t 10))]
def f73r2 : LS := [o 4 (.mv (i (-1)))]
def f73r3 : LS := [o 12 (.fa 1 (t 2)),o 13 (.ld1 (t 12)),o 14 (.fa 1 (t 3)),o 15 (.ld1 (t 14)),o 16 (.cmp .gtr (t 13) (t 15)),o 11 (.mv (t 16))]
def f73r4 : LS := [o 4 (.mv (i 1))]
def f73r5 : LS := [o 17 (.fa 0 (t 2)),o 18 (.ld1 (t 17)),o 19 (.fa 0 (t 3)),o 20 (.ld1 (t 19)),o 21 (.call 70 [(t 18), (t 20)]),o 4 (.mv (t 21))]
def f73 : SCode := (.seq (.ops f73r0) (.seq (.block 0 (.seq (.ops f73r1) (.cond (t 5) (.seq (.ops f73r2) .ret) (.seq (.ops f73r3) (.cond (t 11) (.seq (.ops f73r4) .ret) .skip))))) (.seq (.ops f73r5) .ret)))
theorem f73_calls : Sound Tryz.prog 73 22 f73 [.t 4] := sound_of mixed Tryz.func73 rfl (by kernel_rfl) (by kernel_rfl) (by kernel_rfl)
def f75r0 : LS := [o 2 (.mv (.const (.slice none 0 0)))]
def f75r1 : LS := [o 3 (.mv (t 0)),o 4 (.eqn 1 false (t 3))]
def f75r2 : LS := [o 2 (.mv (.const (.slice none 0 0)))]
def f75r3 : LS := [o 5 (.bslice [] 0 [] []),o 6 (.mv (t 0)),o 7 (.app 2 32 [(.string ⟨#[]⟩), (.string ⟨#[]⟩)] (t 5) (t 6)),o 2 (.mv (t 7))]
def f75 : SCode := (.seq (.ops f75r0) (.seq (.seq (.ops f75r1) (.cond (t 4) (.seq (.ops f75r2) .ret) .skip)) (.seq (.ops f75r3) .ret)))
theorem f75_calls : Sound Tryz.prog 75 8 f75 [.t 2] := sound_of mixed Tryz.func75 rfl (by kernel_rfl) (by kernel_rfl) (by kernel_rfl)
def f76r0 : LS := [o 2 (.mv (.const (.slice none 0 0)))]
def f76r1 : LS := [o 3 (.mv (t 0)),o 4 (.eqn 1 false (t 3))]
def f76r2 : LS := [o 2 (.mv (.const (.slice none 0 0)))]
def f76r3 : LS := [o 5 (.bslice [] 0 [] []),o 6 (.mv (t 0)),o 7 (.app 1 16 [(.string ⟨#[]⟩)] (t 5) (t 6)),o 2 (.mv (t 7))]
def f76 : SCode := (.seq (.ops f76r0) (.seq (.seq (.ops f76r1) (.cond (t 4) (.seq (.ops f76r2) .ret) .skip)) (.seq (.ops f76r3) .ret)))
theorem f76_calls : Sound Tryz.prog 76 8 f76 [.t 2] := sound_of mixed Tryz.func76 rfl (by kernel_rfl) (by kernel_rfl) (by kernel_rfl)
def f77r0 : LS := [o 2 (.mv (.const (.slice none 0 0)))]
def f77r1 : LS := [o 3 (.mv (t 0)),o 4 (.eqn 1 false (t 3))]
def f77r2 : LS := [o 2 (.mv (.const (.slice none 0 0)))]
def f77r3 : LS := [o 5 (.bslice [] 0 [] []),o 6 (.mv (t 0)),o 7 (.app 2 24 [(.string ⟨#[]⟩), (.int .i64 0)] (t 5) (t 6)),o 2 (.mv (t 7))]
def f77 : SCode := (.seq (.ops f77r0) (.seq (.seq (.ops f77r1) (.cond (t 4) (.seq (.ops f77r2) .ret) .skip)) (.seq (.ops f77r3) .ret)))
theorem f77_calls : Sound Tryz.prog 77 8 f77 [.t 2] := sound_of mixed Tryz.func77 rfl (by kernel_rfl) (by kernel_rfl) (by kernel_rfl)
def f109r0 : LS := [o 0 (.mv (.const (.map none)))]
def f109r1 : LS := [o 1 (.mkm),o 2 (.build [(.bool false), (.bool false), (.bool false), (.int .i64 0), (.bool false), .nilFunc] [(5, 1)] [(u 185)]),
 q (.mup (.int .i64) (t 1) (i 1) (t 2)),o 3 (.build [(.bool false), (.bool false), (.bool false), (.int .i64 0), (.bool false), .nilFunc] [(1, 1), (4, 1), (5, 1)] [(b true), (b true), (u 186)]),
 q (.mup (.int .i64) (t 1) (i 2) (t 3)),o 4 (.build [(.bool false), (.bool false), (.bool false), (.int .i64 0), (.bool false), .nilFunc] [(2, 1), (5, 1)] [(b true), (u 187)]),
 q (.mup (.int .i64) (t 1) (i 3) (t 4)),o 5 (.build [(.bool false), (.bool false), (.bool false), (.int .i64 0), (.bool false), .nilFunc] [(5, 1)] [(u 188)]),
 q (.mup (.int .i64) (t 1) (i 4) (t 5)),o 6 (.build [(.bool false), (.bool false), (.bool false), (.int .i64 0), (.bool false), .nilFunc] [(0, 1), (1, 1), (3, 1), (4, 1), (5, 1)] [(b true), (b true), (i 2), (b true), (u 189)]),
 q (.mup (.int .i64) (t 1) (i 5) (t 6)),o 7 (.build [(.bool false), (.bool false), (.bool false), (.int .i64 0), (.bool false), .nilFunc] [(0, 1), (3, 1), (5, 1)] [(b true), (i 2), (u 190)]),
 q (.mup (.int .i64) (t 1) (i 6) (t 7)),o 8 (.build [(.bool false), (.bool false), (.bool false), (.int .i64 0), (.bool false), .nilFunc] [(1, 1), (3, 1), (4, 1), (5, 1)] [(b true), (i 3), (b true), (u 191)]),
 q (.mup (.int .i64) (t 1) (i 7) (t 8)),o 9 (.build [(.bool false), (.bool false), (.bool false), (.int .i64 0), (.bool false), .nilFunc] [(1, 1), (3, 1), (4, 1), (5, 1)] [(b true), (i 3), (b true), (u 193)]),
 q (.mup (.int .i64) (t 1) (i 8) (t 9)),o 10 (.build [(.bool false), (.bool false), (.bool false), (.int .i64 0), (.bool false), .nilFunc] [(3, 1), (5, 1)] [(i 3), (u 194)]),
 q (.mup (.int .i64) (t 1) (i 9) (t 10)),o 11 (.build [(.bool false), (.bool false), (.bool false), (.int .i64 0), (.bool false), .nilFunc] [(3, 1), (5, 1)] [(i 3), (u 195)]),
 q (.mup (.int .i64) (t 1) (i 10) (t 11)),o 12 (.build [(.bool false), (.bool false), (.bool false), (.int .i64 0), (.bool false), .nilFunc] [(1, 1), (2, 1), (3, 1), (5, 1)] [(b true), (b true), (i 3), (u 196)]),
 q (.mup (.int .i64) (t 1) (i 11) (t 12)),o 13 (.build [(.bool false), (.bool false), (.bool false), (.int .i64 0), (.bool false), .nilFunc] [(0, 1), (3, 1), (4, 1), (5, 1)] [(b true), (i 4), (b true), (u 197)]),
 q (.mup (.int .i64) (t 1) (i 12) (t 13)),o 14 (.build [(.bool false), (.bool false), (.bool false), (.int .i64 0), (.bool false), .nilFunc] [(0, 1), (3, 1), (5, 1)] [(b true), (i 4), (u 198)]),
 q (.mup (.int .i64) (t 1) (i 13) (t 14)),o 15 (.build [(.bool false), (.bool false), (.bool false), (.int .i64 0), (.bool false), .nilFunc] [(0, 1), (2, 1), (3, 1), (4, 1), (5, 1)] [(b true), (b true), (i 5), (b true), (u 199)]),
 q (.mup (.int .i64) (t 1) (i 14) (t 15)),o 16 (.build [(.bool false), (.bool false), (.bool false), (.int .i64 0), (.bool false), .nilFunc] [(0, 1), (3, 1), (5, 1)] [(b true), (i 5), (u 200)]),
 q (.mup (.int .i64) (t 1) (i 15) (t 16)),o 17 (.mv (t 1)),o 0 (.mv (t 17))]
def f109 : SCode := (.seq (.ops f109r0) (.seq (.ops f109r1) .ret))
theorem f109_calls : Sound Tryz.prog 109 18 f109 [.t 0] := sound_of mixed Tryz.func109 rfl (by kernel_rfl) (by kernel_rfl) (by kernel_rfl)
def f110r0 : LS := [o 4 (.new [(.int .i64 0), (.string ⟨#[]⟩), (.slice none 0 0), (.slice none 0 0), (.slice none 0 0), (.bool false), (.int .i64 0)]),o 5 (.mv (b false))]
def f110r1 : LS := [o 6 (.mv (t 0)),o 7 (.call 42 [(t 6)]),o 8 (.mv (t 7)),
 n 9 8 (.mv (t 0)),
 n 10 8 (.nilck (t 9)),
 n 11 8 (.fa 0 (t 10)),
 n 12 8 (.ld1 (t 11)),
 n 13 8 (.nilck (t 12)),
 n 14 8 (.fa 0 (t 13)),
 n 15 8 (.ld1 (t 14)),
 n 16 8 (.mv (t 1)),
 n 17 8 (.look .str (.pointer none) false (t 15) (t 16)),
 n 18 8 (.eqn 0 false (t 17)),o 19 (.pick (t 8) (b true) (t 18))]
def f110r2 : LS := [o 20 (.build [(.int .i64 0), (.string ⟨#[]⟩), (.slice none 0 0), (.slice none 0 0), (.slice none 0 0), (.bool false), (.int .i64 0)] [] []),
 q (.st 7 (t 4) (t 20)),o 5 (.mv (b false))]
def f110r3 : LS := [o 21 (.mv (t 0)),o 22 (.nilck (t 21)),o 23 (.fa 0 (t 22)),o 24 (.ld1 (t 23)),o 25 (.nilck (t 24)),o 26 (.fa 0 (t 25)),o 27 (.ld1 (t 26)),o 28 (.mv (t 1)),o 29 (.look .str (.pointer none) false (t 27) (t 28)),o 30 (.nilck (t 29)),o 31 (.ldn 7 (t 30)),o 32 (.call 36 [(t 31)]),
 q (.st 7 (t 4) (t 32)),o 5 (.mv (b true))]
def f110 : SCode := (.seq (.ops f110r0) (.seq (.seq (.ops f110r1) (.cond (t 19) (.seq (.ops f110r2) .ret) .skip)) (.seq (.ops f110r3) .ret)))
theorem f110_calls : Sound Tryz.prog 110 33 f110 [.cn 4 7, .t 5] := sound_of mixed Tryz.func110 rfl (by kernel_rfl) (by kernel_rfl) (by kernel_rfl)
def f112r0 : LS := [o 2 (.box (t 0)),o 4 (.mv (b false))]
def f112r1 : LS := [o 5 (.fa 5 (t 2)),o 6 (.ld1 (t 5)),o 7 (.mv (t 6)),
 g 8 7 (.fa 6 (t 2)),
 g 9 7 (.ld1 (t 8)),
 g 10 7 (.mv (t 1)),
 g 11 7 (.cmp .leq (t 9) (t 10)),o 12 (.pick (t 7) (t 11) (b false)),o 4 (.mv (t 12))]
def f112 : SCode := (.seq (.ops f112r0) (.seq (.ops f112r1) .ret))
theorem f112_calls : Sound Tryz.prog 112 13 f112 [.t 4] := sound_of mixed Tryz.func112 rfl (by kernel_rfl) (by kernel_rfl) (by kernel_rfl)
def f143r0 : LS := [o 4 (.mv (b false))]
def f143r1 : LS := [o 5 (.mv (t 0)),o 6 (.mv (t 1)),o 7 (.call 226 [(t 5), (t 6)]),o 8 (.cmp .geq (t 7) (i 0)),o 4 (.mv (t 8))]
def f143 : SCode := (.seq (.ops f143r0) (.seq (.ops f143r1) .ret))
theorem f143_calls : Sound Tryz.prog 143 9 f143 [.t 4] := sound_of mixed Tryz.func143 rfl (by kernel_rfl) (by kernel_rfl) (by kernel_rfl)
def f144r0 : LS := [o 2 (.mv (b false))]
def f144r1 : LS := [o 3 (.mv (t 0)),o 4 (.lens (t 3)),o 5 (.cmp .gtr (t 4) (i 1048576)),o 2 (.mv (t 5))]
def f144 : SCode := (.seq (.ops f144r0) (.seq (.ops f144r1) .ret))
theorem f144_calls : Sound Tryz.prog 144 6 f144 [.t 2] := sound_of mixed Tryz.func144 rfl (by kernel_rfl) (by kernel_rfl) (by kernel_rfl)
def f164r0 : LS := [o 2 (.mv (i 0)),o 3 (.mv (b false))]
def f164r1 : LS := [o 7 (.mv (t 0)),o 8 (.call 234 [(t 7), (i 10), (i 64)]),o 6 (.mv (t 8)),o 9 (.ext (t 6) 0),o 10 (.ext (t 6) 1),o 4 (.mv (t 9)),o 5 (.mv (t 10))]
def f164r2 : LS := [o 11 (.mv (t 5)),o 12 (.eqn 4 true (t 11)),o 13 (.mv (t 12)),
 n 14 13 (.mv (t 4)),
 n 15 13 (.call 34 [(t 14), (i 10)]),
 n 16 13 (.mv (t 0)),
 n 17 13 (.cmp .neq (t 15) (t 16)),o 18 (.pick (t 13) (b true) (t 17))]
def f164r3 : LS := [o 2 (.mv (i 0)),o 3 (.mv (b false))]
def f164r4 : LS := [o 19 (.mv (t 4)),o 2 (.mv (t 19)),o 3 (.mv (b true))]
def f164 : SCode := (.seq (.ops f164r0) (.seq (.ops f164r1) (.seq (.seq (.ops f164r2) (.cond (t 18) (.seq (.ops f164r3) .ret) .skip)) (.seq (.ops f164r4) .ret))))
theorem f164_calls : Sound Tryz.prog 164 20 f164 [.t 2, .t 3] := sound_of mixed Tryz.func164 rfl (by kernel_rfl) (by kernel_rfl) (by kernel_rfl)
def f185r0 : LS := [o 3 (.box (t 1)),o 4 (.mv (i 0))]
def f185r1 : LS := [o 5 (.mv (t 0)),o 6 (.build [(.int .i64 0), (.string ⟨#[]⟩), (.slice none 0 0), (.slice none 0 0), (.slice none 0 0), (.bool false), (.int .i64 0)] [] []),o 7 (.nilck (t 5)),
 q (.st 7 (t 7) (t 6))]
def f185r2 : LS := [o 4 (.mv (i 0))]
def f185 : SCode := (.seq (.ops f185r0) (.seq (.ops f185r1) (.seq (.ops f185r2) .ret)))
theorem f185_calls : Sound Tryz.prog 185 8 f185 [.t 4] := sound_of mixed Tryz.func185 rfl (by kernel_rfl) (by kernel_rfl) (by kernel_rfl)
def f186r0 : LS := [o 3 (.box (t 1)),o 4 (.mv (i 0))]
def f186r1 : LS := [o 5 (.mv (t 0)),o 6 (.fa 3 (t 3)),o 7 (.ld1 (t 6)),o 8 (.build [(.int .i64 0), (.string ⟨#[]⟩), (.slice none 0 0), (.slice none 0 0), (.slice none 0 0), (.bool false), (.int .i64 0)] [(0, 1), (1, 1)] [(i 1), (t 7)]),o 9 (.nilck (t 5)),
 q (.st 7 (t 9) (t 8))]
def f186r2 : LS := [o 4 (.mv (i 0))]
def f186 : SCode := (.seq (.ops f186r0) (.seq (.ops f186r1) (.seq (.ops f186r2) .ret)))
theorem f186_calls : Sound Tryz.prog 186 10 f186 [.t 4] := sound_of mixed Tryz.func186 rfl (by kernel_rfl) (by kernel_rfl) (by kernel_rfl)
def f187r0 : LS := [o 3 (.box (t 1)),o 4 (.mv (i 0))]
def f187p1 : LS := [o 5 (.mv (t 0)),o 6 (.mv (t 0)),o 7 (.fa 4 (t 3)),o 9 (.nilck (t 5)),o 10 (.fa 5 (t 9))]
def f187r1 : LS := [o 8 (.ld1 (t 7)),
 q (.st 1 (t 10) (b true)),o 11 (.nilck (t 6)),o 12 (.fa 6 (t 11)),
 q (.st 1 (t 12) (t 8))]
def f187s1 : LS := [
 q (.st 1 (t 10) (b true)),o 8 (.ld1 (t 7)),o 11 (.nilck (t 6)),o 12 (.fa 6 (t 11)),
 q (.st 1 (t 12) (t 8))]
def f187r2 : LS := [o 4 (.mv (i 0))]
def f187 : SCode := (.seq (.ops f187r0) (.seq (.two f187p1 f187r1 f187s1) (.seq (.ops f187r2) .ret)))
theorem f187_calls : Sound Tryz.prog 187 13 f187 [.t 4] := sound_of mixed Tryz.func187 rfl (by kernel_rfl) (by kernel_rfl) (by kernel_rfl)
def f188r0 : LS := [o 3 (.box (t 1)),o 4 (.mv (i 0))]
def f188r1 : LS := [o 5 (.mv (t 0)),o 6 (.mv (t 0)),o 7 (.nilck (t 5)),o 8 (.fa 5 (t 7)),
 q (.st 1 (t 8) (b false)),o 9 (.nilck (t 6)),o 10 (.fa 6 (t 9)),
 q (.st 1 (t 10) (i 0))]
def f188r2 : LS := [o 4 (.mv (i 0))]
def f188 : SCode := (.seq (.ops f188r0) (.seq (.ops f188r1) (.seq (.ops f188r2) .ret)))
theorem f188_calls : Sound Tryz.prog 188 11 f188 [.t 4] := sound_of mixed Tryz.func188 rfl (by kernel_rfl) (by kernel_rfl) (by kernel_rfl)
def f189r0 : LS := [o 3 (.box (t 1)),o 4 (.mv (i 0))]
def f189r1 : LS := [o 8 (.mv (t 0)),o 9 (.nilck (t 8)),o 10 (.fa 2 (t 9)),o 11 (.ld1 (t 10)),o 12 (.fa 2 (t 3)),o 13 (.ld1 (t 12)),o 14 (.call 248 [(t 11), (u 249), (t 13)]),o 7 (.mv (t 14)),o 15 (.ext (t 7) 0),o 16 (.ext (t 7) 1),o 5 (.mv (t 15)),o 6 (.mv (t 16))]
def f189r2 : LS := [o 17 (.mv (t 6)),o 18 (.un .not (t 17))]
def f189r3 : LS := [o 19 (.mv (t 0)),o 20 (.mv (t 0)),o 21 (.nilck (t 20)),o 22 (.fa 2 (t 21)),o 23 (.ld1 (t 22)),o 24 (.mv (t 5)),o 25 (.fa 2 (t 3)),o 26 (.ld1 (t 25)),o 27 (.build [(.string ⟨#[]⟩), (.string ⟨#[]⟩)] [(0, 1)] [(t 26)]),o 28 (.bslice [(.string ⟨#[]⟩), (.string ⟨#[]⟩)] 1 [(0, 2)] [(t 27)]),o 29 (.call 250 [(t 23), (t 24), (t 28)]),o 30 (.nilck (t 19)),o 31 (.fa 2 (t 30)),
 q (.st 1 (t 31) (t 29))]
def f189r4 : LS := [o 32 (.mv (t 0)),o 33 (.nilck (t 32)),o 34 (.fa 2 (t 33)),o 35 (.ld1 (t 34)),o 36 (.mv (t 5)),o 37 (.fa 3 (t 3)),o 38 (.ld1 (t 37)),o 39 (.ixs 2 (t 35) (t 36)),o 40 (.fa 1 (t 39)),
 q (.st 1 (t 40) (t 38))]
def f189r5 : LS := [o 4 (.mv (i 0))]
def f189 : SCode := (.seq (.ops f189r0) (.seq (.ops f189r1) (.seq (.seq (.ops f189r2) (.cond (t 18) (.ops f189r3) .skip)) (.seq (.ops f189r4) (.seq (.ops f189r5) .ret)))))
theorem f189_calls : Sound Tryz.prog 189 41 f189 [.t 4] := sound_of mixed Tryz.func189 rfl (by kernel_rfl) (by kernel_rfl) (by kernel_rfl)
def f190r0 : LS := [o 3 (.box (t 1)),o 4 (.mv (i 0))]
def f190r1 : LS := [o 8 (.mv (t 0)),o 9 (.nilck (t 8)),o 10 (.fa 2 (t 9)),o 11 (.ld1 (t 10)),o 12 (.fa 2 (t 3)),o 13 (.ld1 (t 12)),o 14 (.call 248 [(t 11), (u 249), (t 13)]),o 7 (.mv (t 14)),o 15 (.ext (t 7) 0),o 16 (.ext (t 7) 1),o 5 (.mv (t 15)),o 6 (.mv (t 16))]
def f190r2 : LS := [o 17 (.mv (t 6)),o 18 (.un .not (t 17))]
def f190r3 : LS := [o 4 (.mv (i 5))]
def f190r4 : LS := [o 19 (.mv (t 0)),o 20 (.mv (t 0)),o 21 (.nilck (t 20)),o 22 (.fa 2 (t 21)),o 23 (.ld1 (t 22)),o 24 (.mv (t 5)),o 25 (.mv (t 5)),o 26 (.ar .add (t 25) (i 1)),o 27 (.call 251 [(t 23), (t 24), (t 26)]),o 28 (.nilck (t 19)),o 29 (.fa 2 (t 28)),
 q (.st 1 (t 29) (t 27))]
def f190r5 : LS := [o 4 (.mv (i 0))]
def f190 : SCode := (.seq (.ops f190r0) (.seq (.ops f190r1) (.seq (.seq (.ops f190r2) (.cond (t 18) (.seq (.ops f190r3) .ret) .skip)) (.seq (.ops f190r4) (.seq (.ops f190r5) .ret)))))
theorem f190_calls : Sound Tryz.prog 190 30 f190 [.t 4] := sound_of mixed Tryz.func190 rfl (by kernel_rfl) (by kernel_rfl) (by kernel_rfl)
def f191r0 : LS := [o 3 (.box (t 1)),o 4 (.mv (i 0))]
def f191r1 : LS := [o 5 (.mv (t 0)),o 6 (.mv (t 0)),o 7 (.nilck (t 6)),o 8 (.fa 3 (t 7)),o 9 (.ld1 (t 8)),o 10 (.fa 3 (t 3)),o 11 (.ld1 (t 10)),o 12 (.bslice [(.string ⟨#[]⟩)] 1 [(0, 1)] [(t 11)]),o 13 (.call 192 [(t 9), (i 0), (t 12)]),o 14 (.nilck (t 5)),o 15 (.fa 3 (t 14)),
 q (.st 1 (t 15) (t 13))]
def f191r2 : LS := [o 4 (.mv (i 0))]
def f191 : SCode := (.seq (.ops f191r0) (.seq (.ops f191r1) (.seq (.ops f191r2) .ret)))
theorem f191_calls : Sound Tryz.prog 191 16 f191 [.t 4] := sound_of mixed Tryz.func191 rfl (by kernel_rfl) (by kernel_rfl) (by kernel_rfl)
def f192r0 : LS := [o 6 (.mv (.const (.slice none 0 0)))]
def f192r1 : LS := [o 10 (.mv (t 0)),o 11 (.mv (t 1)),o 12 (.slc 1 (t 10) (some (t 11)) none)]
def f192r2 : LS := [o 13 (.mv (t 2)),o 14 (.len (t 13)),o 7 (.mv (t 14))]
def f192r3 : LS := [o 15 (.mv (t 7)),o 16 (.cmp .eql (t 15) (i 0))]
def f192r4 : LS := [o 17 (.mv (t 0)),o 6 (.mv (t 17))]
def f192r5 : LS := [o 18 (.mv (t 0)),o 19 (.len (t 18)),o 8 (.mv (t 19))]
def f192r6 : LS := [o 20 (.mv (t 1)),o 21 (.mv (t 8)),o 22 (.cmp .eql (t 20) (t 21))]
def f192r7 : LS := [o 23 (.mv (t 0)),o 24 (.mv (t 2)),o 25 (.app 1 16 [(.string ⟨#[]⟩)] (t 23) (t 24)),o 6 (.mv (t 25))]
def f192r8 : LS := [o 26 (.mv (t 8)),o 27 (.mv (t 7)),o 28 (.ar .add (t 26) (t 27)),o 29 (.mv (t 0)),o 30 (.capc (t 29)),o 31 (.cmp .gtr (t 28) (t 30))]
def f192r9 : LS := [o 32 (.mv (t 0)),o 33 (.mv (t 1)),o 34 (.slc 1 (t 32) none (some (t 33))),o 35 (.mv (t 8)),o 36 (.mv (t 7)),o 37 (.ar .add (t 35) (t 36)),o 38 (.mv (t 1)),o 39 (.ar .sub (t 37) (t 38)),o 40 (.appz 1 16 [(.string ⟨#[]⟩)] (t 34) (t 39)),o 9 (.mv (t 40))]
def f192r10 : LS := [o 41 (.mv (t 9)),o 42 (.mv (t 1)),o 43 (.slc 1 (t 41) (some (t 42)) none),o 44 (.mv (t 2)),o 45 (.cpy 1 (t 43) (t 44))]
def f192r11 : LS := [o 46 (.mv (t 9)),o 47 (.mv (t 1)),o 48 (.mv (t 7)),o 49 (.ar .add (t 47) (t 48)),o 50 (.slc 1 (t 46) (some (t 49)) none),o 51 (.mv (t 0)),o 52 (.mv (t 1)),o 53 (.slc 1 (t 51) (some (t 52)) none),o 54 (.cpy 1 (t 50) (t 53))]
def f192r12 : LS := [o 55 (.mv (t 9)),o 6 (.mv (t 55))]
def f192r13 : LS := [o 56 (.mv (t 0)),o 57 (.mv (t 8)),o 58 (.mv (t 7)),o 59 (.ar .add (t 57) (t 58)),o 60 (.slc 1 (t 56) none (some (t 59))),o 0 (.mv (t 60))]
def f192r14 : LS := [o 61 (.mv (t 2)),o 62 (.mv (t 0)),o 63 (.mv (t 1)),o 64 (.mv (t 7)),o 65 (.ar .add (t 63) (t 64)),o 66 (.slc 1 (t 62) (some (t 65)) none),o 67 (.callx 252 [(t 61), (t 66)]),o 68 (.un .not (t 67))]
def f192r15 : LS := [o 69 (.mv (t 0)),o 70 (.mv (t 1)),o 71 (.mv (t 7)),o 72 (.ar .add (t 70) (t 71)),o 73 (.slc 1 (t 69) (some (t 72)) none),o 74 (.mv (t 0)),o 75 (.mv (t 1)),o 76 (.slc 1 (t 74) (some (t 75)) none),o 77 (.cpy 1 (t 73) (t 76))]
def f192r16 : LS := [o 78 (.mv (t 0)),o 79 (.mv (t 1)),o 80 (.slc 1 (t 78) (some (t 79)) none),o 81 (.mv (t 2)),o 82 (.cpy 1 (t 80) (t 81))]
def f192r17 : LS := [o 83 (.mv (t 0)),o 6 (.mv (t 83))]
def f192r18 : LS := [o 84 (.mv (t 0)),o 85 (.mv (t 8)),o 86 (.slc 1 (t 84) (some (t 85)) none),o 87 (.mv (t 2)),o 88 (.cpy 1 (t 86) (t 87))]
def f192r19 : LS := [o 89 (.mv (t 0)),o 90 (.mv (t 1)),o 91 (.slc 1 (t 89) (some (t 90)) none),o 92 (.mv (t 7)),o 93 (.call 253 [(t 91), (t 92)])]
def f192r20 : LS := [o 94 (.mv (t 0)),o 6 (.mv (t 94))]
def f192 : SCode := (.seq (.ops f192r0) (.seq (.ops f192r1) (.seq (.ops f192r2) (.seq (.seq (.ops f192r3) (.cond (t 16) (.seq (.ops f192r4) .ret) .skip)) (.seq (.ops f192r5) (.seq (.seq (.ops f192r6) (.cond (t 22) (.seq (.ops f192r7) .ret) .skip)) (.seq (.seq (.ops f192r8) (.cond (t 31) (.seq (.ops f192r9) (.seq (.ops f192r10) (.seq (.ops f192r11) (.seq (.ops f192r12) .ret)))) .skip)) (.seq (.ops f192r13) (.seq (.seq (.ops f192r14) (.cond (t 68) (.seq (.ops f192r15) (.seq (.ops f192r16) (.seq (.ops f192r17) .ret))) .skip)) (.seq (.ops f192r18) (.seq (.ops f192r19) (.seq (.ops f192r20) .ret))))))))))))
theorem f192_calls : Sound Tryz.prog 192 95 f192 [.t 6] := sound_of mixed Tryz.func192 rfl (by kernel_rfl) (by kernel_rfl) (by kernel_rfl)
def f193r0 : LS := [o 3 (.box (t 1)),o 4 (.mv (i 0))]
def f193r1 : LS := [o 5 (.mv (t 0)),o 6 (.mv (t 0)),o 7 (.nilck (t 6)),o 8 (.fa 3 (t 7)),o 9 (.ld1 (t 8)),o 10 (.fa 3 (t 3)),o 11 (.ld1 (t 10)),o 12 (.bslice [(.string ⟨#[]⟩)] 1 [(0, 1)] [(t 11)]),o 13 (.app 1 16 [(.string ⟨#[]⟩)] (t 9) (t 12)),o 14 (.nilck (t 5)),o 15 (.fa 3 (t 14)),
 q (.st 1 (t 15) (t 13))]
def f193r2 : LS := [o 4 (.mv (i 0))]
def f193 : SCode := (.seq (.ops f193r0) (.seq (.ops f193r1) (.seq (.ops f193r2) .ret)))
theorem f193_calls : Sound Tryz.prog 193 16 f193 [.t 4] := sound_of mixed Tryz.func193 rfl (by kernel_rfl) (by kernel_rfl) (by kernel_rfl)
def f194r0 : LS := [o 3 (.box (t 1)),o 4 (.mv (i 0))]
def f194r1 : LS := [o 5 (.mv (t 0)),o 6 (.mv (t 0)),o 7 (.nilck (t 6)),o 8 (.fa 3 (t 7)),o 9 (.ld1 (t 8)),o 10 (.slc 1 (t 9) (some (i 1)) none),o 11 (.nilck (t 5)),o 12 (.fa 3 (t 11)),
 q (.st 1 (t 12) (t 10))]
def f194r2 : LS := [o 4 (.mv (i 0))]
def f194 : SCode := (.seq (.ops f194r0) (.seq (.ops f194r1) (.seq (.ops f194r2) .ret)))
theorem f194_calls : Sound Tryz.prog 194 13 f194 [.t 4] := sound_of mixed Tryz.func194 rfl (by kernel_rfl) (by kernel_rfl) (by kernel_rfl)
def f195r0 : LS := [o 3 (.box (t 1)),o 4 (.mv (i 0))]
def f195r1 : LS := [o 5 (.mv (t 0)),o 6 (.mv (t 0)),o 7 (.nilck (t 6)),o 8 (.fa 3 (t 7)),o 9 (.ld1 (t 8)),o 10 (.mv (t 0)),o 11 (.nilck (t 10)),o 12 (.fa 3 (t 11)),o 13 (.ld1 (t 12)),o 14 (.len (t 13)),o 15 (.ar .sub (t 14) (i 1)),o 16 (.slc 1 (t 9) none (some (t 15))),o 17 (.nilck (t 5)),o 18 (.fa 3 (t 17)),
 q (.st 1 (t 18) (t 16))]
def f195r2 : LS := [o 4 (.mv (i 0))]
def f195 : SCode := (.seq (.ops f195r0) (.seq (.ops f195r1) (.seq (.ops f195r2) .ret)))
theorem f195_calls : Sound Tryz.prog 195 19 f195 [.t 4] := sound_of mixed Tryz.func195 rfl (by kernel_rfl) (by kernel_rfl) (by kernel_rfl)
def f196r0 : LS := [o 3 (.box (t 1)),o 4 (.mv (i 0))]
def f196r1 : LS := [o 5 (.fa 4 (t 3)),o 6 (.ld1 (t 5)),o 7 (.cmp .lss (t 6) (i 0)),o 8 (.mv (t 7)),
 n 9 8 (.fa 4 (t 3)),
 n 10 8 (.ld1 (t 9)),
 n 11 8 (.mv (t 0)),
 n 12 8 (.nilck (t 11)),
 n 13 8 (.fa 3 (t 12)),
 n 14 8 (.ld1 (t 13)),
 n 15 8 (.len (t 14)),
 n 16 8 (.cmp .geq (t 10) (t 15)),o 17 (.pick (t 8) (b true) (t 16))]
def f196r2 : LS := [o 4 (.mv (i 4))]
def f196r3 : LS := [o 18 (.mv (t 0)),o 19 (.nilck (t 18)),o 20 (.fa 3 (t 19)),o 21 (.ld1 (t 20)),o 22 (.fa 4 (t 3)),o 23 (.ld1 (t 22)),o 24 (.fa 3 (t 3)),o 25 (.ld1 (t 24)),o 26 (.ixs 1 (t 21) (t 23)),
 q (.st 1 (t 26) (t 25))]
def f196r4 : LS := [o 4 (.mv (i 0))]
def f196 : SCode := (.seq (.ops f196r0) (.seq (.seq (.ops f196r1) (.cond (t 17) (.seq (.ops f196r2) .ret) .skip)) (.seq (.ops f196r3) (.seq (.ops f196r4) .ret))))
theorem f196_calls : Sound Tryz.prog 196 27 f196 [.t 4] := sound_of mixed Tryz.func196 rfl (by kernel_rfl) (by kernel_rfl) (by kernel_rfl)
def f197r0 : LS := [o 3 (.box (t 1)),o 4 (.mv (i 0))]
def f197r1 : LS := [o 8 (.mv (t 0)),o 9 (.nilck (t 8)),o 10 (.fa 3 (t 9)),o 11 (.ld1 (t 10)),o 12 (.fa 2 (t 3)),o 13 (.ld1 (t 12)),o 14 (.call 254 [(t 11), (u 255), (t 13)]),o 7 (.mv (t 14)),o 15 (.ext (t 7) 0),o 16 (.ext (t 7) 1),o 5 (.mv (t 15)),o 6 (.mv (t 16))]
def f197r2 : LS := [o 17 (.mv (t 6)),o 18 (.un .not (t 17))]
def f197r3 : LS := [o 19 (.mv (t 0)),o 20 (.mv (t 0)),o 21 (.nilck (t 20)),o 22 (.fa 3 (t 21)),o 23 (.ld1 (t 22)),o 24 (.mv (t 5)),o 25 (.fa 2 (t 3)),o 26 (.ld1 (t 25)),o 27 (.bslice [(.string ⟨#[]⟩)] 1 [(0, 1)] [(t 26)]),o 28 (.call 192 [(t 23), (t 24), (t 27)]),o 29 (.nilck (t 19)),o 30 (.fa 3 (t 29)),
 q (.st 1 (t 30) (t 28))]
def f197r4 : LS := [o 4 (.mv (i 0))]
def f197 : SCode := (.seq (.ops f197r0) (.seq (.seq (.ops f197r1) (.seq (.ops f197r2) (.cond (t 18) (.ops f197r3) .skip))) (.seq (.ops f197r4) .ret)))
theorem f197_calls : Sound Tryz.prog 197 31 f197 [.t 4] := sound_of mixed Tryz.func197 rfl (by kernel_rfl) (by kernel_rfl) (by kernel_rfl)
def f198r0 : LS := [o 3 (.box (t 1)),o 4 (.mv (i 0))]
def f198r1 : LS := [o 8 (.mv (t 0)),o 9 (.nilck (t 8)),o 10 (.fa 3 (t 9)),o 11 (.ld1 (t 10)),o 12 (.fa 2 (t 3)),o 13 (.ld1 (t 12)),o 14 (.call 254 [(t 11), (u 255), (t 13)]),o 7 (.mv (t 14)),o 15 (.ext (t 7) 0),o 16 (.ext (t 7) 1),o 5 (.mv (t 15)),o 6 (.mv (t 16))]
def f198r2 : LS := [o 17 (.mv (t 6)),o 18 (.un .not (t 17))]
def f198r3 : LS := [o 4 (.mv (i 5))]
def f198r4 : LS := [o 19 (.mv (t 0)),o 20 (.mv (t 0)),o 21 (.nilck (t 20)),o 22 (.fa 3 (t 21)),o 23 (.ld1 (t 22)),o 24 (.mv (t 5)),o 25 (.mv (t 5)),o 26 (.ar .add (t 25) (i 1)),o 27 (.call 256 [(t 23), (t 24), (t 26)]),o 28 (.nilck (t 19)),o 29 (.fa 3 (t 28)),
 q (.st 1 (t 29) (t 27))]
def f198r5 : LS := [o 4 (.mv (i 0))]
def f198 : SCode := (.seq (.ops f198r0) (.seq (.ops f198r1) (.seq (.seq (.ops f198r2) (.cond (t 18) (.seq (.ops f198r3) .ret) .skip)) (.seq (.ops f198r4) (.seq (.ops f198r5) .ret)))))
theorem f198_calls : Sound Tryz.prog 198 30 f198 [.t 4] := sound_of mixed Tryz.func198 rfl (by kernel_rfl) (by kernel_rfl) (by kernel_rfl)
def f199r0 : LS := [o 3 (.box (t 1)),o 4 (.mv (i 0))]
def f199r1 : LS := [o 8 (.mv (t 0)),o 9 (.ldn 5 (t 3)),o 10 (.call 200 [(t 8), (t 9)])]
def f199r2 : LS := [o 11 (.fa 2 (t 3)),o 12 (.ld1 (t 11)),o 13 (.fa 4 (t 3)),o 14 (.ld1 (t 13)),o 15 (.build [(.string ⟨#[]⟩), (.int .i64 0)] [(0, 1), (1, 1)] [(t 12), (t 14)]),o 5 (.new [(.string ⟨#[]⟩), (.int .i64 0)]),
 q (.st 2 (t 5) (t 15))]
def f199r3 : LS := [o 17 (.mv (t 0)),o 18 (.nilck (t 17)),o 19 (.fa 4 (t 18)),o 20 (.ld1 (t 19)),o 21 (.ldn 2 (t 5)),o 22 (.call 257 [(t 20), (t 21), (u 73)]),o 16 (.mv (t 22)),o 23 (.ext (t 16) 0),o 24 (.ext (t 16) 1),o 6 (.mv (t 23)),o 7 (.mv (t 24))]
def f199r4 : LS := [o 25 (.mv (t 0)),o 26 (.mv (t 0)),o 27 (.nilck (t 26)),o 28 (.fa 4 (t 27)),o 29 (.ld1 (t 28)),o 30 (.mv (t 6)),o 31 (.ldn 2 (t 5)),o 32 (.bslice [(.string ⟨#[]⟩), (.int .i64 0)] 1 [(0, 2)] [(t 31)]),o 33 (.call 258 [(t 29), (t 30), (t 32)]),o 34 (.nilck (t 25)),o 35 (.fa 4 (t 34)),
 q (.st 1 (t 35) (t 33))]
def f199r5 : LS := [o 4 (.mv (i 0))]
def f199 : SCode := (.seq (.ops f199r0) (.seq (.ops f199r1) (.seq (.ops f199r2) (.seq (.ops f199r3) (.seq (.ops f199r4) (.seq (.ops f199r5) .ret))))))
theorem f199_calls : Sound Tryz.prog 199 36 f199 [.t 4] := sound_of mixed Tryz.func199 rfl (by kernel_rfl) (by kernel_rfl) (by kernel_rfl)
def f200r0 : LS := [o 3 (.box (t 1)),o 4 (.mv (i 0))]
def f200r1 : LS := [o 6 (.mv (t 0)),o 7 (.nilck (t 6)),o 8 (.fa 4 (t 7)),o 9 (.ld1 (t 8)),o 10 (.fn 260 [] [(t 3)]),o 11 (.call 259 [(t 9), (t 10)]),o 5 (.mv (t 11))]
def f200r2 : LS := [o 12 (.mv (t 5)),o 13 (.cmp .lss (t 12) (i 0))]
def f200r3 : LS := [o 4 (.mv (i 5))]
def f200r4 : LS := [o 14 (.mv (t 0)),o 15 (.mv (t 0)),o 16 (.nilck (t 15)),o 17 (.fa 4 (t 16)),o 18 (.ld1 (t 17)),o 19 (.mv (t 5)),o 20 (.mv (t 5)),o 21 (.ar .add (t 20) (i 1)),o 22 (.call 261 [(t 18), (t 19), (t 21)]),o 23 (.nilck (t 14)),o 24 (.fa 4 (t 23)),
 q (.st 1 (t 24) (t 22))]
def f200r5 : LS := [o 4 (.mv (i 0))]
def f200 : SCode := (.seq (.ops f200r0) (.seq (.ops f200r1) (.seq (.seq (.ops f200r2) (.cond (t 13) (.seq (.ops f200r3) .ret) .skip)) (.seq (.ops f200r4) (.seq (.ops f200r5) .ret)))))
theorem f200_calls : Sound Tryz.prog 200 25 f200 [.t 4] := sound_of mixed Tryz.func200 rfl (by kernel_rfl) (by kernel_rfl) (by kernel_rfl)
def f226r0 : LS := [o 4 (.mv (i 0))]
def f226r1 : LS := [o 6 (.mv (t 0)),o 7 (.len (t 6)),o 8 (.mv (i 0))]
def f226r2 : LS := [o 9 (.cmp .lss (t 8) (t 7))]
def f226r3 : LS := [o 10 (.mv (t 8)),o 5 (.mv (t 10))]
def f226r4 : LS := [o 11 (.mv (t 1)),o 12 (.mv (t 0)),o 13 (.mv (t 5)),o 14 (.ixs 1 (t 12) (t 13)),o 15 (.ld1 (t 14)),o 16 (.callv (t 11) [(t 15)])]
def f226r5 : LS := [o 17 (.mv (t 5)),o 4 (.mv (t 17))]
def f226r6 : LS := [o 18 (.ar .add (t 8) (i 1)),o 8 (.mv (t 18))]
def f226l7 : SCode := (.seq (.ops f226r2) (.seq (.cond (t 9) .skip (.exit 0)) (.seq (.block 1 (.seq (.ops f226r3) (.seq (.ops f226r4) (.cond (t 16) (.seq (.ops f226r5) .ret) .skip)))) (.ops f226r6))))
def f226r8 : LS := [o 4 (.mv (i (-1)))]
def f226 : SCode := (.seq (.ops f226r0) (.seq (.seq (.ops f226r1) (.block 0 (.loop f226l7))) (.seq (.ops f226r8) .ret)))
theorem f226_calls : Sound Tryz.prog 226 19 f226 [.t 4] := sound_of mixed Tryz.func226 rfl (by kernel_rfl) (by kernel_rfl) (by kernel_rfl)
def f248r0 : LS := [o 4 (.box (t 1)),o 6 (.mv (i 0)),o 7 (.mv (b false))]
def f248r1 : LS := [o 8 (.mv (t 0)),o 9 (.mv (t 2)),o 10 (.fn 281 [] [(t 4)]),o 11 (.call 280 [(t 8), (t 9), (t 10)]),o 12 (.ext (t 11) 0),o 13 (.ext (t 11) 1),o 6 (.mv (t 12)),o 7 (.mv (t 13))]
def f248 : SCode := (.seq (.ops f248r0) (.seq (.ops f248r1) .ret))
theorem f248_calls : Sound Tryz.prog 248 14 f248 [.t 6, .t 7] := sound_of mixed Tryz.func248 rfl (by kernel_rfl) (by kernel_rfl) (by kernel_rfl)
def f249r0 : LS := [o 1 (.box (t 0)),o 2 (.mv e)]
def f249r1 : LS := [o 3 (.fa 0 (t 1)),o 4 (.ld1 (t 3)),o 2 (.mv (t 4))]
def f249 : SCode := (.seq (.ops f249r0) (.seq (.ops f249r1) .ret))
theorem f249_calls : Sound Tryz.prog 249 5 f249 [.t 2] := sound_of mixed Tryz.func249 rfl (by kernel_rfl) (by kernel_rfl) (by kernel_rfl)
def f250r0 : LS := [o 6 (.mv (.const (.slice none 0 0)))]
def f250r1 : LS := [o 10 (.mv (t 0)),o 11 (.mv (t 1)),o 12 (.slc 2 (t 10) (some (t 11)) none)]
def f250r2 : LS := [o 13 (.mv (t 2)),o 14 (.len (t 13)),o 7 (.mv (t 14))]
def f250r3 : LS := [o 15 (.mv (t 7)),o 16 (.cmp .eql (t 15) (i 0))]
def f250r4 : LS := [o 17 (.mv (t 0)),o 6 (.mv (t 17))]
def f250r5 : LS := [o 18 (.mv (t 0)),o 19 (.len (t 18)),o 8 (.mv (t 19))]
def f250r6 : LS := [o 20 (.mv (t 1)),o 21 (.mv (t 8)),o 22 (.cmp .eql (t 20) (t 21))]
def f250r7 : LS := [o 23 (.mv (t 0)),o 24 (.mv (t 2)),o 25 (.app 2 32 [(.string ⟨#[]⟩), (.string ⟨#[]⟩)] (t 23) (t 24)),o 6 (.mv (t 25))]
def f250r8 : LS := [o 26 (.mv (t 8)),o 27 (.mv (t 7)),o 28 (.ar .add (t 26) (t 27)),o 29 (.mv (t 0)),o 30 (.capc (t 29)),o 31 (.cmp .gtr (t 28) (t 30))]
def f250r9 : LS := [o 32 (.mv (t 0)),o 33 (.mv (t 1)),o 34 (.slc 2 (t 32) none (some (t 33))),o 35 (.mv (t 8)),o 36 (.mv (t 7)),o 37 (.ar .add (t 35) (t 36)),o 38 (.mv (t 1)),o 39 (.ar .sub (t 37) (t 38)),o 40 (.appz 2 32 [(.string ⟨#[]⟩), (.string ⟨#[]⟩)] (t 34) (t 39)),o 9 (.mv (t 40))]
def f250r10 : LS := [o 41 (.mv (t 9)),o 42 (.mv (t 1)),o 43 (.slc 2 (t 41) (some (t 42)) none),o 44 (.mv (t 2)),o 45 (.cpy 2 (t 43) (t 44))]
def f250r11 : LS := [o 46 (.mv (t 9)),o 47 (.mv (t 1)),o 48 (.mv (t 7)),o 49 (.ar .add (t 47) (t 48)),o 50 (.slc 2 (t 46) (some (t 49)) none),o 51 (.mv (t 0)),o 52 (.mv (t 1)),o 53 (.slc 2 (t 51) (some (t 52)) none),o 54 (.cpy 2 (t 50) (t 53))]
def f250r12 : LS := [o 55 (.mv (t 9)),o 6 (.mv (t 55))]
def f250r13 : LS := [o 56 (.mv (t 0)),o 57 (.mv (t 8)),o 58 (.mv (t 7)),o 59 (.ar .add (t 57) (t 58)),o 60 (.slc 2 (t 56) none (some (t 59))),o 0 (.mv (t 60))]
def f250r14 : LS := [o 61 (.mv (t 2)),o 62 (.mv (t 0)),o 63 (.mv (t 1)),o 64 (.mv (t 7)),o 65 (.ar .add (t 63) (t 64)),o 66 (.slc 2 (t 62) (some (t 65)) none),o 67 (.callx 282 [(t 61), (t 66)]),o 68 (.un .not (t 67))]
def f250r15 : LS := [o 69 (.mv (t 0)),o 70 (.mv (t 1)),o 71 (.mv (t 7)),o 72 (.ar .add (t 70) (t 71)),o 73 (.slc 2 (t 69) (some (t 72)) none),o 74 (.mv (t 0)),o 75 (.mv (t 1)),o 76 (.slc 2 (t 74) (some (t 75)) none),o 77 (.cpy 2 (t 73) (t 76))]
def f250r16 : LS := [o 78 (.mv (t 0)),o 79 (.mv (t 1)),o 80 (.slc 2 (t 78) (some (t 79)) none),o 81 (.mv (t 2)),o 82 (.cpy 2 (t 80) (t 81))]
def f250r17 : LS := [o 83 (.mv (t 0)),o 6 (.mv (t 83))]
def f250r18 : LS := [o 84 (.mv (t 0)),o 85 (.mv (t 8)),o 86 (.slc 2 (t 84) (some (t 85)) none),o 87 (.mv (t 2)),o 88 (.cpy 2 (t 86) (t 87))]
def f250r19 : LS := [o 89 (.mv (t 0)),o 90 (.mv (t 1)),o 91 (.slc 2 (t 89) (some (t 90)) none),o 92 (.mv (t 7)),o 93 (.call 283 [(t 91), (t 92)])]
def f250r20 : LS := [o 94 (.mv (t 0)),o 6 (.mv (t 94))]
def f250 : SCode := (.seq (.ops f250r0) (.seq (.ops f250r1) (.seq (.ops f250r2) (.seq (.seq (.ops f250r3) (.cond (t 16) (.seq (.ops f250r4) .ret) .skip)) (.seq (.ops f250r5) (.seq (.seq (.ops f250r6) (.cond (t 22) (.seq (.ops f250r7) .ret) .skip)) (.seq (.seq (.ops f250r8) (.cond (t 31) (.seq (.ops f250r9) (.seq (.ops f250r10) (.seq (.ops f250r11) (.seq (.ops f250r12) .ret)))) .skip)) (.seq (.ops f250r13) (.seq (.seq (.ops f250r14) (.cond (t 68) (.seq (.ops f250r15) (.seq (.ops f250r16) (.seq (.ops f250r17) .ret))) .skip)) (.seq (.ops f250r18) (.seq (.ops f250r19) (.seq (.ops f250r20) .ret))))))))))))
theorem f250_calls : Sound Tryz.prog 250 95 f250 [.t 6] := sound_of mixed Tryz.func250 rfl (by kernel_rfl) (by kernel_rfl) (by kernel_rfl)
def f251r0 : LS := [o 6 (.mv (.const (.slice none 0 0)))]
def f251r1 : LS := [o 8 (.mv (t 0)),o 9 (.mv (t 1)),o 10 (.mv (t 2)),o 11 (.mv (t 0)),o 12 (.len (t 11)),o 13 (.slc3 2 (t 8) (some (t 9)) (t 10) (t 12))]
def f251r2 : LS := [o 14 (.mv (t 1)),o 15 (.mv (t 2)),o 16 (.cmp .eql (t 14) (t 15))]
def f251r3 : LS := [o 17 (.mv (t 0)),o 6 (.mv (t 17))]
def f251r4 : LS := [o 18 (.mv (t 0)),o 19 (.len (t 18)),o 7 (.mv (t 19))]
def f251r5 : LS := [o 20 (.mv (t 0)),o 21 (.mv (t 1)),o 22 (.slc 2 (t 20) none (some (t 21))),o 23 (.mv (t 0)),o 24 (.mv (t 2)),o 25 (.slc 2 (t 23) (some (t 24)) none),o 26 (.app 2 32 [(.string ⟨#[]⟩), (.string ⟨#[]⟩)] (t 22) (t 25)),o 0 (.mv (t 26))]
def f251r6 : LS := [o 27 (.mv (t 0)),o 28 (.mv (t 0)),o 29 (.len (t 28)),o 30 (.mv (t 7)),o 31 (.slc 2 (t 27) (some (t 29)) (some (t 30))),
 q (.clr [(.string ⟨#[]⟩), (.string ⟨#[]⟩)] (t 31))]
def f251r7 : LS := [o 32 (.mv (t 0)),o 6 (.mv (t 32))]
def f251 : SCode := (.seq (.ops f251r0) (.seq (.ops f251r1) (.seq (.seq (.ops f251r2) (.cond (t 16) (.seq (.ops f251r3) .ret) .skip)) (.seq (.ops f251r4) (.seq (.ops f251r5) (.seq (.ops f251r6) (.seq (.ops f251r7) .ret)))))))
theorem f251_calls : Sound Tryz.prog 251 33 f251 [.t 6] := sound_of mixed Tryz.func251 rfl (by kernel_rfl) (by kernel_rfl) (by kernel_rfl)
def f254r0 : LS := [o 4 (.box (t 1)),o 6 (.mv (i 0)),o 7 (.mv (b false))]
def f254r1 : LS := [o 8 (.mv (t 0)),o 9 (.mv (t 2)),o 10 (.fn 286 [] [(t 4)]),o 11 (.call 285 [(t 8), (t 9), (t 10)]),o 12 (.ext (t 11) 0),o 13 (.ext (t 11) 1),o 6 (.mv (t 12)),o 7 (.mv (t 13))]
def f254 : SCode := (.seq (.ops f254r0) (.seq (.ops f254r1) .ret))
theorem f254_calls : Sound Tryz.prog 254 14 f254 [.t 6, .t 7] := sound_of mixed Tryz.func254 rfl (by kernel_rfl) (by kernel_rfl) (by kernel_rfl)
def f255r0 : LS := [o 2 (.mv e)]
def f255r1 : LS := [o 3 (.mv (t 0)),o 2 (.mv (t 3))]
def f255 : SCode := (.seq (.ops f255r0) (.seq (.ops f255r1) .ret))
theorem f255_calls : Sound Tryz.prog 255 4 f255 [.t 2] := sound_of mixed Tryz.func255 rfl (by kernel_rfl) (by kernel_rfl) (by kernel_rfl)
def f256r0 : LS := [o 6 (.mv (.const (.slice none 0 0)))]
def f256r1 : LS := [o 8 (.mv (t 0)),o 9 (.mv (t 1)),o 10 (.mv (t 2)),o 11 (.mv (t 0)),o 12 (.len (t 11)),o 13 (.slc3 1 (t 8) (some (t 9)) (t 10) (t 12))]
def f256r2 : LS := [o 14 (.mv (t 1)),o 15 (.mv (t 2)),o 16 (.cmp .eql (t 14) (t 15))]
def f256r3 : LS := [o 17 (.mv (t 0)),o 6 (.mv (t 17))]
def f256r4 : LS := [o 18 (.mv (t 0)),o 19 (.len (t 18)),o 7 (.mv (t 19))]
def f256r5 : LS := [o 20 (.mv (t 0)),o 21 (.mv (t 1)),o 22 (.slc 1 (t 20) none (some (t 21))),o 23 (.mv (t 0)),o 24 (.mv (t 2)),o 25 (.slc 1 (t 23) (some (t 24)) none),o 26 (.app 1 16 [(.string ⟨#[]⟩)] (t 22) (t 25)),o 0 (.mv (t 26))]
def f256r6 : LS := [o 27 (.mv (t 0)),o 28 (.mv (t 0)),o 29 (.len (t 28)),o 30 (.mv (t 7)),o 31 (.slc 1 (t 27) (some (t 29)) (some (t 30))),
 q (.clr [(.string ⟨#[]⟩)] (t 31))]
def f256r7 : LS := [o 32 (.mv (t 0)),o 6 (.mv (t 32))]
def f256 : SCode := (.seq (.ops f256r0) (.seq (.ops f256r1) (.seq (.seq (.ops f256r2) (.cond (t 16) (.seq (.ops f256r3) .ret) .skip)) (.seq (.ops f256r4) (.seq (.ops f256r5) (.seq (.ops f256r6) (.seq (.ops f256r7) .ret)))))))
theorem f256_calls : Sound Tryz.prog 256 33 f256 [.t 6] := sound_of mixed Tryz.func256 rfl (by kernel_rfl) (by kernel_rfl) (by kernel_rfl)
def f257r0 : LS := [o 4 (.box (t 1)),o 6 (.mv (i 0)),o 7 (.mv (b false))]
def f257r1 : LS := [o 12 (.mv (t 0)),o 13 (.len (t 12)),o 8 (.mv (t 13))]
def f257r2 : LS := [o 14 (.mv (t 8)),o 9 (.mv (i 0)),o 10 (.mv (t 14))]
def f257r3 : LS := [o 15 (.mv (t 9)),o 16 (.mv (t 10)),o 17 (.cmp .lss (t 15) (t 16))]
def f257r4 : LS := [o 18 (.mv (t 9)),o 19 (.mv (t 10)),o 20 (.ar .add (t 18) (t 19)),o 21 (.cvt .u64 (t 20)),o 22 (.sh .u64 false 1 (t 21)),o 23 (.cvt .i64 (t 22)),o 11 (.mv (t 23))]
def f257r5 : LS := [o 24 (.mv (t 2)),o 25 (.mv (t 0)),o 26 (.mv (t 11)),o 27 (.ixs 2 (t 25) (t 26)),o 28 (.ldn 2 (t 27)),o 29 (.ldn 2 (t 4)),o 30 (.callv (t 24) [(t 28), (t 29)]),o 31 (.cmp .lss (t 30) (i 0))]
def f257r6 : LS := [o 32 (.mv (t 11)),o 33 (.ar .add (t 32) (i 1)),o 9 (.mv (t 33))]
def f257r7 : LS := [o 34 (.mv (t 11)),o 10 (.mv (t 34))]
def f257l8 : SCode := (.seq (.seq (.ops f257r3) (.cond (t 17) .skip (.exit 0))) (.block 1 (.seq (.ops f257r4) (.seq (.ops f257r5) (.cond (t 31) (.ops f257r6) (.ops f257r7))))))
def f257r9 : LS := [o 35 (.mv (t 9)),o 36 (.mv (t 9)),o 37 (.mv (t 8)),o 38 (.cmp .lss (t 36) (t 37)),o 39 (.mv (t 38)),
 g 40 39 (.mv (t 2)),
 g 41 39 (.mv (t 0)),
 g 42 39 (.mv (t 9)),
 g 43 39 (.ixs 2 (t 41) (t 42)),
 g 44 39 (.ldn 2 (t 43)),
 g 45 39 (.ldn 2 (t 4)),
 g 46 39 (.callv (t 40) [(t 44), (t 45)]),
 g 47 39 (.cmp .eql (t 46) (i 0)),o 48 (.pick (t 39) (t 47) (b false)),o 6 (.mv (t 35)),o 7 (.mv (t 48))]
def f257 : SCode := (.seq (.ops f257r0) (.seq (.ops f257r1) (.seq (.ops f257r2) (.seq (.block 0 (.loop f257l8)) (.seq (.ops f257r9) .ret)))))
theorem f257_calls : Sound Tryz.prog 257 49 f257 [.t 6, .t 7] := sound_of mixed Tryz.func257 rfl (by kernel_rfl) (by kernel_rfl) (by kernel_rfl)
def f258r0 : LS := [o 6 (.mv (.const (.slice none 0 0)))]
def f258r1 : LS := [o 10 (.mv (t 0)),o 11 (.mv (t 1)),o 12 (.slc 2 (t 10) (some (t 11)) none)]
def f258r2 : LS := [o 13 (.mv (t 2)),o 14 (.len (t 13)),o 7 (.mv (t 14))]
def f258r3 : LS := [o 15 (.mv (t 7)),o 16 (.cmp .eql (t 15) (i 0))]
def f258r4 : LS := [o 17 (.mv (t 0)),o 6 (.mv (t 17))]
def f258r5 : LS := [o 18 (.mv (t 0)),o 19 (.len (t 18)),o 8 (.mv (t 19))]
def f258r6 : LS := [o 20 (.mv (t 1)),o 21 (.mv (t 8)),o 22 (.cmp .eql (t 20) (t 21))]
def f258r7 : LS := [o 23 (.mv (t 0)),o 24 (.mv (t 2)),o 25 (.app 2 24 [(.string ⟨#[]⟩), (.int .i64 0)] (t 23) (t 24)),o 6 (.mv (t 25))]
def f258r8 : LS := [o 26 (.mv (t 8)),o 27 (.mv (t 7)),o 28 (.ar .add (t 26) (t 27)),o 29 (.mv (t 0)),o 30 (.capc (t 29)),o 31 (.cmp .gtr (t 28) (t 30))]
def f258r9 : LS := [o 32 (.mv (t 0)),o 33 (.mv (t 1)),o 34 (.slc 2 (t 32) none (some (t 33))),o 35 (.mv (t 8)),o 36 (.mv (t 7)),o 37 (.ar .add (t 35) (t 36)),o 38 (.mv (t 1)),o 39 (.ar .sub (t 37) (t 38)),o 40 (.appz 2 24 [(.string ⟨#[]⟩), (.int .i64 0)] (t 34) (t 39)),o 9 (.mv (t 40))]
def f258r10 : LS := [o 41 (.mv (t 9)),o 42 (.mv (t 1)),o 43 (.slc 2 (t 41) (some (t 42)) none),o 44 (.mv (t 2)),o 45 (.cpy 2 (t 43) (t 44))]
def f258r11 : LS := [o 46 (.mv (t 9)),o 47 (.mv (t 1)),o 48 (.mv (t 7)),o 49 (.ar .add (t 47) (t 48)),o 50 (.slc 2 (t 46) (some (t 49)) none),o 51 (.mv (t 0)),o 52 (.mv (t 1)),o 53 (.slc 2 (t 51) (some (t 52)) none),o 54 (.cpy 2 (t 50) (t 53))]
def f258r12 : LS := [o 55 (.mv (t 9)),o 6 (.mv (t 55))]
def f258r13 : LS := [o 56 (.mv (t 0)),o 57 (.mv (t 8)),o 58 (.mv (t 7)),o 59 (.ar .add (t 57) (t 58)),o 60 (.slc 2 (t 56) none (some (t 59))),o 0 (.mv (t 60))]
def f258r14 : LS := [o 61 (.mv (t 2)),o 62 (.mv (t 0)),o 63 (.mv (t 1)),o 64 (.mv (t 7)),o 65 (.ar .add (t 63) (t 64)),o 66 (.slc 2 (t 62) (some (t 65)) none),o 67 (.callx 287 [(t 61), (t 66)]),o 68 (.un .not (t 67))]
def f258r15 : LS := [o 69 (.mv (t 0)),o 70 (.mv (t 1)),o 71 (.mv (t 7)),o 72 (.ar .add (t 70) (t 71)),o 73 (.slc 2 (t 69) (some (t 72)) none),o 74 (.mv (t 0)),o 75 (.mv (t 1)),o 76 (.slc 2 (t 74) (some (t 75)) none),o 77 (.cpy 2 (t 73) (t 76))]
def f258r16 : LS := [o 78 (.mv (t 0)),o 79 (.mv (t 1)),o 80 (.slc 2 (t 78) (some (t 79)) none),o 81 (.mv (t 2)),o 82 (.cpy 2 (t 80) (t 81))]
def f258r17 : LS := [o 83 (.mv (t 0)),o 6 (.mv (t 83))]
def f258r18 : LS := [o 84 (.mv (t 0)),o 85 (.mv (t 8)),o 86 (.slc 2 (t 84) (some (t 85)) none),o 87 (.mv (t 2)),o 88 (.cpy 2 (t 86) (t 87))]
def f258r19 : LS := [o 89 (.mv (t 0)),o 90 (.mv (t 1)),o 91 (.slc 2 (t 89) (some (t 90)) none),o 92 (.mv (t 7)),o 93 (.call 288 [(t 91), (t 92)])]
def f258r20 : LS := [o 94 (.mv (t 0)),o 6 (.mv (t 94))]
def f258 : SCode := (.seq (.ops f258r0) (.seq (.ops f258r1) (.seq (.ops f258r2) (.seq (.seq (.ops f258r3) (.cond (t 16) (.seq (.ops f258r4) .ret) .skip)) (.seq (.ops f258r5) (.seq (.seq (.ops f258r6) (.cond (t 22) (.seq (.ops f258r7) .ret) .skip)) (.seq (.seq (.ops f258r8) (.cond (t 31) (.seq (.ops f258r9) (.seq (.ops f258r10) (.seq (.ops f258r11) (.seq (.ops f258r12) .ret)))) .skip)) (.seq (.ops f258r13) (.seq (.seq (.ops f258r14) (.cond (t 68) (.seq (.ops f258r15) (.seq (.ops f258r16) (.seq (.ops f258r17) .ret))) .skip)) (.seq (.ops f258r18) (.seq (.ops f258r19) (.seq (.ops f258r20) .ret))))))))))))
theorem f258_calls : Sound Tryz.prog 258 95 f258 [.t 6] := sound_of mixed Tryz.func258 rfl (by kernel_rfl) (by kernel_rfl) (by kernel_rfl)
def f259r0 : LS := [o 4 (.mv (i 0))]
def f259r1 : LS := [o 6 (.mv (t 0)),o 7 (.len (t 6)),o 8 (.mv (i 0))]
def f259r2 : LS := [o 9 (.cmp .lss (t 8) (t 7))]
def f259r3 : LS := [o 10 (.mv (t 8)),o 5 (.mv (t 10))]
def f259r4 : LS := [o 11 (.mv (t 1)),o 12 (.mv (t 0)),o 13 (.mv (t 5)),o 14 (.ixs 2 (t 12) (t 13)),o 15 (.ldn 2 (t 14)),o 16 (.callv (t 11) [(t 15)])]
def f259r5 : LS := [o 17 (.mv (t 5)),o 4 (.mv (t 17))]
def f259r6 : LS := [o 18 (.ar .add (t 8) (i 1)),o 8 (.mv (t 18))]
def f259l7 : SCode := (.seq (.ops f259r2) (.seq (.cond (t 9) .skip (.exit 0)) (.seq (.block 1 (.seq (.ops f259r3) (.seq (.ops f259r4) (.cond (t 16) (.seq (.ops f259r5) .ret) .skip)))) (.ops f259r6))))
def f259r8 : LS := [o 4 (.mv (i (-1)))]
def f259 : SCode := (.seq (.ops f259r0) (.seq (.seq (.ops f259r1) (.block 0 (.loop f259l7))) (.seq (.ops f259r8) .ret)))
theorem f259_calls : Sound Tryz.prog 259 19 f259 [.t 4] := sound_of mixed Tryz.func259 rfl (by kernel_rfl) (by kernel_rfl) (by kernel_rfl)
def f260r0 : LS := [o 2 (.box (t 0)),o 3 (.mv (b false))]
def f260r1 : LS := [o 4 (.fa 0 (t 2)),o 5 (.ld1 (t 4)),o 6 (.fa 2 (t 1)),o 7 (.ld1 (t 6)),o 8 (.cmp .eql (t 5) (t 7)),o 3 (.mv (t 8))]
def f260 : SCode := (.seq (.ops f260r0) (.seq (.ops f260r1) .ret))
theorem f260_calls : Sound Tryz.prog 260 9 f260 [.t 3] := sound_of mixed Tryz.func260 rfl (by kernel_rfl) (by kernel_rfl) (by kernel_rfl)
def f261r0 : LS := [o 6 (.mv (.const (.slice none 0 0)))]
def f261r1 : LS := [o 8 (.mv (t 0)),o 9 (.mv (t 1)),o 10 (.mv (t 2)),o 11 (.mv (t 0)),o 12 (.len (t 11)),o 13 (.slc3 2 (t 8) (some (t 9)) (t 10) (t 12))]
def f261r2 : LS := [o 14 (.mv (t 1)),o 15 (.mv (t 2)),o 16 (.cmp .eql (t 14) (t 15))]
def f261r3 : LS := [o 17 (.mv (t 0)),o 6 (.mv (t 17))]
def f261r4 : LS := [o 18 (.mv (t 0)),o 19 (.len (t 18)),o 7 (.mv (t 19))]
def f261r5 : LS := [o 20 (.mv (t 0)),o 21 (.mv (t 1)),o 22 (.slc 2 (t 20) none (some (t 21))),o 23 (.mv (t 0)),o 24 (.mv (t 2)),o 25 (.slc 2 (t 23) (some (t 24)) none),o 26 (.app 2 24 [(.string ⟨#[]⟩), (.int .i64 0)] (t 22) (t 25)),o 0 (.mv (t 26))]
def f261r6 : LS := [o 27 (.mv (t 0)),o 28 (.mv (t 0)),o 29 (.len (t 28)),o 30 (.mv (t 7)),o 31 (.slc 2 (t 27) (some (t 29)) (some (t 30))),
 q (.clr [(.string ⟨#[]⟩), (.int .i64 0)] (t 31))]
def f261r7 : LS := [o 32 (.mv (t 0)),o 6 (.mv (t 32))]
def f261 : SCode := (.seq (.ops f261r0) (.seq (.ops f261r1) (.seq (.seq (.ops f261r2) (.cond (t 16) (.seq (.ops f261r3) .ret) .skip)) (.seq (.ops f261r4) (.seq (.ops f261r5) (.seq (.ops f261r6) (.seq (.ops f261r7) .ret)))))))
theorem f261_calls : Sound Tryz.prog 261 33 f261 [.t 6] := sound_of mixed Tryz.func261 rfl (by kernel_rfl) (by kernel_rfl) (by kernel_rfl)
def f280r0 : LS := [o 6 (.mv (i 0)),o 7 (.mv (b false))]
def f280r1 : LS := [o 12 (.mv (t 0)),o 13 (.len (t 12)),o 8 (.mv (t 13))]
def f280r2 : LS := [o 14 (.mv (t 8)),o 9 (.mv (i 0)),o 10 (.mv (t 14))]
def f280r3 : LS := [o 15 (.mv (t 9)),o 16 (.mv (t 10)),o 17 (.cmp .lss (t 15) (t 16))]
def f280r4 : LS := [o 18 (.mv (t 9)),o 19 (.mv (t 10)),o 20 (.ar .add (t 18) (t 19)),o 21 (.cvt .u64 (t 20)),o 22 (.sh .u64 false 1 (t 21)),o 23 (.cvt .i64 (t 22)),o 11 (.mv (t 23))]
def f280r5 : LS := [o 24 (.mv (t 2)),o 25 (.mv (t 0)),o 26 (.mv (t 11)),o 27 (.ixs 2 (t 25) (t 26)),o 28 (.ldn 2 (t 27)),o 29 (.mv (t 1)),o 30 (.callv (t 24) [(t 28), (t 29)]),o 31 (.cmp .lss (t 30) (i 0))]
def f280r6 : LS := [o 32 (.mv (t 11)),o 33 (.ar .add (t 32) (i 1)),o 9 (.mv (t 33))]
def f280r7 : LS := [o 34 (.mv (t 11)),o 10 (.mv (t 34))]
def f280l8 : SCode := (.seq (.seq (.ops f280r3) (.cond (t 17) .skip (.exit 0))) (.block 1 (.seq (.ops f280r4) (.seq (.ops f280r5) (.cond (t 31) (.ops f280r6) (.ops f280r7))))))
def f280r9 : LS := [o 35 (.mv (t 9)),o 36 (.mv (t 9)),o 37 (.mv (t 8)),o 38 (.cmp .lss (t 36) (t 37)),o 39 (.mv (t 38)),
 g 40 39 (.mv (t 2)),
 g 41 39 (.mv (t 0)),
 g 42 39 (.mv (t 9)),
 g 43 39 (.ixs 2 (t 41) (t 42)),
 g 44 39 (.ldn 2 (t 43)),
 g 45 39 (.mv (t 1)),
 g 46 39 (.callv (t 40) [(t 44), (t 45)]),
 g 47 39 (.cmp .eql (t 46) (i 0)),o 48 (.pick (t 39) (t 47) (b false)),o 6 (.mv (t 35)),o 7 (.mv (t 48))]
def f280 : SCode := (.seq (.ops f280r0) (.seq (.ops f280r1) (.seq (.ops f280r2) (.seq (.block 0 (.loop f280l8)) (.seq (.ops f280r9) .ret)))))
theorem f280_calls : Sound Tryz.prog 280 49 f280 [.t 6, .t 7] := sound_of mixed Tryz.func280 rfl (by kernel_rfl) (by kernel_rfl) (by kernel_rfl)
def f281r0 : LS := [o 3 (.box (t 0)),o 5 (.mv (i 0))]
def f281r1 : LS := [o 6 (.ld1 (t 2)),o 7 (.ldn 2 (t 3)),o 8 (.callv (t 6) [(t 7)]),o 9 (.mv (t 1)),o 10 (.call 70 [(t 8), (t 9)]),o 5 (.mv (t 10))]
def f281 : SCode := (.seq (.ops f281r0) (.seq (.ops f281r1) .ret))
theorem f281_calls : Sound Tryz.prog 281 11 f281 [.t 5] := sound_of mixed Tryz.func281 rfl (by kernel_rfl) (by kernel_rfl) (by kernel_rfl)
def f285r0 : LS := [o 6 (.mv (i 0)),o 7 (.mv (b false))]
def f285r1 : LS := [o 12 (.mv (t 0)),o 13 (.len (t 12)),o 8 (.mv (t 13))]
def f285r2 : LS := [o 14 (.mv (t 8)),o 9 (.mv (i 0)),o 10 (.mv (t 14))]
def f285r3 : LS := [o 15 (.mv (t 9)),o 16 (.mv (t 10)),o 17 (.cmp .lss (t 15) (t 16))]
def f285r4 : LS := [o 18 (.mv (t 9)),o 19 (.mv (t 10)),o 20 (.ar .add (t 18) (t 19)),o 21 (.cvt .u64 (t 20)),o 22 (.sh .u64 false 1 (t 21)),o 23 (.cvt .i64 (t 22)),o 11 (.mv (t 23))]
def f285r5 : LS := [o 24 (.mv (t 2)),o 25 (.mv (t 0)),o 26 (.mv (t 11)),o 27 (.ixs 1 (t 25) (t 26)),o 28 (.ld1 (t 27)),o 29 (.mv (t 1)),o 30 (.callv (t 24) [(t 28), (t 29)]),o 31 (.cmp .lss (t 30) (i 0))]
def f285r6 : LS := [o 32 (.mv (t 11)),o 33 (.ar .add (t 32) (i 1)),o 9 (.mv (t 33))]
def f285r7 : LS := [o 34 (.mv (t 11)),o 10 (.mv (t 34))]
def f285l8 : SCode := (.seq (.seq (.ops f285r3) (.cond (t 17) .skip (.exit 0))) (.block 1 (.seq (.ops f285r4) (.seq (.ops f285r5) (.cond (t 31) (.ops f285r6) (.ops f285r7))))))
def f285r9 : LS := [o 35 (.mv (t 9)),o 36 (.mv (t 9)),o 37 (.mv (t 8)),o 38 (.cmp .lss (t 36) (t 37)),o 39 (.mv (t 38)),
 g 40 39 (.mv (t 2)),
 g 41 39 (.mv (t 0)),
 g 42 39 (.mv (t 9)),
 g 43 39 (.ixs 1 (t 41) (t 42)),
 g 44 39 (.ld1 (t 43)),
 g 45 39 (.mv (t 1)),
 g 46 39 (.callv (t 40) [(t 44), (t 45)]),
 g 47 39 (.cmp .eql (t 46) (i 0)),o 48 (.pick (t 39) (t 47) (b false)),o 6 (.mv (t 35)),o 7 (.mv (t 48))]
def f285 : SCode := (.seq (.ops f285r0) (.seq (.ops f285r1) (.seq (.ops f285r2) (.seq (.block 0 (.loop f285l8)) (.seq (.ops f285r9) .ret)))))
theorem f285_calls : Sound Tryz.prog 285 49 f285 [.t 6, .t 7] := sound_of mixed Tryz.func285 rfl (by kernel_rfl) (by kernel_rfl) (by kernel_rfl)
def f286r0 : LS := [o 5 (.mv (i 0))]
def f286r1 : LS := [o 6 (.ld1 (t 2)),o 7 (.mv (t 0)),o 8 (.callv (t 6) [(t 7)]),o 9 (.mv (t 1)),o 10 (.call 70 [(t 8), (t 9)]),o 5 (.mv (t 10))]
def f286 : SCode := (.seq (.ops f286r0) (.seq (.ops f286r1) .ret))
theorem f286_calls : Sound Tryz.prog 286 11 f286 [.t 5] := sound_of mixed Tryz.func286 rfl (by kernel_rfl) (by kernel_rfl) (by kernel_rfl)
end Go.Proofs.YtjnijlnmbjjgpaaGreatDoor.C
namespace Go.Proofs.YtjnijlnmbjjgpaaGreatDoor
open Go Go.Sx C
set_option maxRecDepth 100000 in
theorem cmpStr_calls {h : Heap} (a b : ByteArray) : CallsH Tryz.prog 145 [.string a, .string b] h (Ret fun u h' => u = .int .i64 (cmpB a b) ∧ h' = h) := by
 refine ⟨by kernel_rfl, fun w hw => ?_⟩
 have key : Calls Tryz.prog 145 #[.string a, .string b] w fun e w' => e = .returned (.int .i64 (Lib.compareBytes a.data.toList b.data.toList)) ∧ w' = w := by
  go_enter Tryz.func145, Tryz.ntmps145
  go_wp2
  rw [run_callFunc_extern Tryz.func227 (by kernel_rfl) (by kernel_rfl) (by kernel_rfl) (e := Extern.BytealgCompare.compare) (by kernel_rfl), Lib.run_compareString]
  simp only [Result.andThen]
  rw [Oper.upon_value]
  go_wp2
  all_goals go_ret
  all_goals exact ⟨rfl, rfl⟩
 refine key.mono ?_
 rintro e w' ⟨rfl, rfl⟩
 exact ⟨⟨rfl, hw⟩, by simp, rfl, rfl, rfl⟩
theorem cmpS_calls {h : Heap} (a b : ByteArray) : CallsH Tryz.prog 70 [.string a, .string b] h (Ret fun u h' => u = .int .i64 (cmpB a b) ∧ h' = h) := by
 refine f70_calls (by simp) ?_
 refine call_ret (cmpStr_calls a b) ?_
 rintro _ h1 ⟨rfl, rfl⟩
 exact ⟨rfl, rfl⟩
structure Pair where
 name : ByteArray
 text : ByteArray
 deriving DecidableEq
structure Rank where
 name : ByteArray
 score : Int
 deriving DecidableEq
def encP (p : Pair) : List Value := [.string p.name, .string p.text]
def encR (r : Rank) : List Value := [.string r.name, .int .i64 r.score]
def encS (s : ByteArray) : List Value := [.string s]
theorem encP_len (p : Pair) : (encP p).length = 2 := rfl
theorem encR_len (p : Rank) : (encR p).length = 2 := rfl
theorem encS_len (p : ByteArray) : (encS p).length = 1 := rfl
theorem encP_one (r : Pair) : ∀ u ∈ encP r, u.oneCell' = true := by
 intro u hu
 simp [encP] at hu
 rcases hu with rfl | rfl <;> rfl
theorem encR_one (r : Rank) : ∀ u ∈ encR r, u.oneCell' = true := by
 intro u hu
 simp [encR] at hu
 rcases hu with rfl | rfl <;> rfl
theorem encS_one (r : ByteArray) : ∀ u ∈ encS r, u.oneCell' = true := by
 intro u hu
 simp [encS] at hu
 rw [hu]; rfl
theorem take_snoc {α : Type} (l : List α) (k : Nat) (h : k < l.length) : l.take (k + 1) = l.take k ++ [l[k]] := by
 rw [List.take_succ_eq_append_getElem h]
def OrdR (g : Nat) (lt : Rank → Rank → Bool) (h : Heap) : Prop := ∀ h' x y, Chg [] h h' → CallsH Tryz.prog g [.agg ⟨encR x⟩, .agg ⟨encR y⟩] h' (Ret fun u h'' => (∃ z, u = .int .i64 z ∧ (z < 0 ↔ lt x y = true)) ∧ Chg [] h' h'')
def aheadR (a b : Rank) : Bool := decide (a.score < b.score) || (decide (a.score = b.score) && sless a.name b.name)
theorem ahead_ord {h : Heap} : OrdR 73 aheadR h := by
 intro h' x y _
 refine f73_calls (by simp) ?_
 intro b1 h1 g1
 intro b2 h2 g2
 have B1 : Blk h2 b1 (encR x) := (show Blk h1 b1 (encR x) from g1.blk).chg g2.chg (by simp)
 have B2 : Blk h2 b2 (encR y) := g2.blk
 have hc := g1.chg.nil g2.chg
 refine Ei _ (Ai (cell_blk B1 rfl) (Ei _ (Ai (cell_blk B2 rfl) ?_)))
 refine Ai rfl (Ai (fun hl => ?_) (fun hl => ?_))
 ·exact Ai (Ei (-1) (Ai rfl (by simp [aheadR, hl]))) hc
 ·refine Ei _ (Ai (cell_blk B1 rfl) (Ei _ (Ai (cell_blk B2 rfl) ?_)))
  refine Ai rfl (Ai (fun hg => ?_) (fun hg => ?_))
  ·exact Ai (Ei 1 (Ai rfl (by simp [aheadR]; omega))) hc
  ·refine Ei _ (Ai (cell_blk B1 rfl) (Ei _ (Ai (cell_blk B2 rfl) ?_)))
   refine call_ret (cmpS_calls x.name y.name) ?_
   rintro _ h3 ⟨rfl, rfl⟩
   have e : x.score = y.score := by omega
   exact Ai (Ei _ (Ai rfl (by rw [cmpB_neg]; simp [aheadR, e]))) hc
structure Thing where
 kind : Int
 text : ByteArray
 pairs : List Pair
 list : List ByteArray
 ranks : List Rank
 hasU : Bool
 unt : Int
 deriving DecidableEq
def TH (h : Heap) (vs : List Value) (t : Thing) : Prop :=
 ∃ pv lv rv, vs = [.int .i64 t.kind, .string t.text, pv, lv, rv, .bool t.hasU, .int .i64 t.unt] ∧ SL encP h pv t.pairs ∧ SL encS h lv t.list ∧ SL encR h rv t.ranks
theorem TH.ext {h h' : Heap} {vs : List Value} {t : Thing} (x : TH h vs t) (hc : Chg [] h h') : TH h' vs t := by
 obtain ⟨pv, lv, rv, h1, h2, h3, h4⟩ := x
 exact ⟨pv, lv, rv, h1, h2.ext hc, h3.ext hc, h4.ext hc⟩
theorem TH.len {h : Heap} {vs : List Value} {t : Thing} (x : TH h vs t) : vs.length = 7 := by
 obtain ⟨pv, lv, rv, rfl, _⟩ := x; rfl
structure Fits (t : Thing) : Prop where
 p : t.pairs.length < 4611686018427387904
 l : t.list.length < 4611686018427387904
 r : t.ranks.length < 4611686018427387904
structure Lens (t : Thing) : Prop where
 p : t.pairs.length ≤ 70000
 l : t.list.length ≤ 70000
 r : t.ranks.length ≤ 70000
def countT (t : Thing) : Nat := t.pairs.length + t.list.length + t.ranks.length
theorem count_calls {h : Heap} {vs : List Value} {t : Thing} (x : TH h vs t) (n : Lens t) :
  CallsH Tryz.prog 65 [.agg ⟨vs⟩] h (Ret fun r h' => r = .int .i64 (countT t) ∧ Chg [] h h') := by
 have np := n.p; have nl := n.l; have nr := n.r
 refine f65_calls (by simp) ?_
 intro b1 h1 g1
 have B1 : Blk h1 b1 vs := g1.blk
 obtain ⟨pv, lv, rv, rfl, hp, hl, hr⟩ := x
 obtain ⟨pa, pc, rfl, _⟩ := hp.form
 obtain ⟨la, lc, rfl, _⟩ := hl.form
 obtain ⟨ra, rc, rfl, _⟩ := hr.form
 refine Ei _ (Ai (cell_blk B1 rfl) (Ei _ (Ai (cell_blk B1 rfl) ?_)))
 refine Ai rfl (fun z hz => ?_)
 have hz := add_in hz (by omega) (by omega)
 refine Ei _ (Ai (cell_blk B1 rfl) ?_)
 refine Ai rfl (fun y hy => ?_)
 have hy := add_in hy (by omega) (by omega)
 refine Ai ?_ g1.chg
 have : y = (countT t : Int) := by unfold countT; omega
 rw [this]; rfl
theorem short1_calls {h : Heap} (s : ByteArray) : CallsH Tryz.prog 144 [.string s] h (Ret fun r h' => r = .bool (decide (1048576 < s.size)) ∧ h' = h) := by
 refine f144_calls (by simp) ?_
 refine Ai rfl (Ai (fun hl => ?_) (fun hl => ?_))
 ·exact Ai (by rw [decide_eq_true (by omega)]; rfl) rfl
 ·exact Ai (by rw [decide_eq_false (by omega)]; rfl) rfl
theorem idxF_calls {h : Heap} {v : Value} {l : List ByteArray} (hv : SL encS h v l) (hl : l.length < 4611686018427387904) :
  CallsH Tryz.prog 226 [v, .func (.func 144) #[] #[]] h (Ret fun r h' => (∃ z, r = .int .i64 z ∧ (z < 0 ↔ ∀ s ∈ l, s.size ≤ 1048576)) ∧ h' = h) := by
 obtain ⟨a, c, rfl, hlc⟩ := hv.form
 refine f226_calls (by simp) ?_
 refine loop_intro (fun k : Nat => [(0, .slice a l.length c), (1, .func (.func 144) #[] #[]), (7, .int .i64 l.length), (8, .int .i64 k)]) (fun k h' => k ≤ l.length ∧ h' = h ∧ ∀ s ∈ l.take k, s.size ≤ 1048576) (fun k => l.length - k) 0 ⟨rfl, rfl, rfl, rfl, trivial⟩ ⟨Nat.zero_le _, rfl, by simp⟩ ?_
 rintro k h' ⟨hk, rfl, ht⟩
 refine Ai rfl (Ai (fun hlt => ?_) (fun hlt => ?_))
 ·have hlt : k < l.length := by omega
  obtain ⟨b, o, rfl⟩ := hv.addr (by omega)
  have hcs := hv.cells encS_len (i := k) (x := l[k]) (by simp [hlt])
  refine Ai (by omega) (Ai (by omega) (Ei _ (Ai (hcs 0 _ rfl) ?_)))
  refine call_ret (short1_calls l[k]) ?_
  rintro r _ ⟨hr, rfl⟩
  by_cases hs : 1048576 < l[k].size
  ·rw [decide_eq_true hs] at hr
   subst hr
   refine Ai (Ei k (Ai rfl ?_)) rfl
   constructor
   ·intro h; omega
   ·intro h; have := h l[k] (List.getElem_mem hlt); omega
  ·rw [decide_eq_false hs] at hr
   subst hr
   refine Ai rfl (fun z hz => ?_)
   have hz := add_in hz (by omega) (by omega)
   subst hz
   refine Ai rfl (Ei (k + 1) (Ai ?_ (Ai ?_ ?_)))
   ·exact ⟨rfl, rfl, rfl, rfl, trivial⟩
   ·refine ⟨by omega, rfl, fun s hs' => ?_⟩
    rw [take_snoc l k hlt] at hs'
    rcases List.mem_append.1 hs' with hs' | hs'
    ·exact ht s hs'
    ·have : s = l[k] := by simpa using hs'
     rw [this]; omega
   ·omega
 ·have hkl : k = l.length := by omega
  rw [hkl, List.take_length] at ht
  exact Ai (Ei (-1) (Ai rfl ⟨fun _ => ht, fun _ => by decide⟩)) rfl
def shortL (l : List ByteArray) : Bool := l.all fun s => decide (s.size ≤ 1048576)
theorem shortL_iff {l : List ByteArray} : shortL l = true ↔ ∀ s ∈ l, s.size ≤ 1048576 := by simp [shortL]
theorem conF_calls {h : Heap} {v : Value} {l : List ByteArray} (hv : SL encS h v l) (hl : l.length < 4611686018427387904) :
  CallsH Tryz.prog 143 [v, .func (.func 144) #[] #[]] h (Ret fun r h' => r = .bool (!shortL l) ∧ h' = h) := by
 refine f143_calls (by simp) ?_
 refine call_ret (idxF_calls hv hl) ?_
 rintro _ _ ⟨⟨z, rfl, hz⟩, rfl⟩
 rw [← shortL_iff] at hz
 refine Ai rfl (Ai (fun hg => ?_) (fun hg => ?_))
 ·have : shortL l = false := by
   cases hs : shortL l with
   |false => rfl
   |true => have := hz.2 hs; omega
  exact Ai (by rw [this]; rfl) rfl
 ·exact Ai (by rw [hz.1 (by omega)]; rfl) rfl
theorem short_calls {h : Heap} {v : Value} {l : List ByteArray} (hv : SL encS h v l) (hl : l.length < 4611686018427387904) :
  CallsH Tryz.prog 66 [v] h (Ret fun r h' => r = .bool (shortL l) ∧ h' = h) := by
 refine f66_calls (by simp) ?_
 refine call_ret (conF_calls hv hl) ?_
 rintro _ _ ⟨rfl, rfl⟩
 exact Ai (by cases shortL l <;> rfl) rfl
theorem mfind_none {k : Kd} {a : Value} (ha : fits k a = true) : ∀ (es : List MapEntry) (i : Nat), (∀ e ∈ es, fits k e.key = true) → mfind a es i = none → ∀ e ∈ es, e.key ≠ a
 |[], _, _, _, e, he => by simp at he
 |x :: es, i, hf, h, e, he => by
  simp only [mfind] at h
  split at h
  ·simp at h
  ·rename_i hs
   rcases List.mem_cons.1 he with rfl | he
   ·intro e; exact hs (by rw [e]; exact sameBits_refl ha)
   ·exact mfind_none ha es (i + 1) (fun y hy => hf y (by simp [hy])) h e he
structure Small (t : Thing) : Prop where
 p : t.pairs.length ≤ 40
 l : t.list.length ≤ 40
 r : t.ranks.length ≤ 40
 text : t.text.size ≤ 2000
 ps : ∀ x ∈ t.pairs, x.name.size ≤ 2000 ∧ x.text.size ≤ 2000
 ls : ∀ x ∈ t.list, x.size ≤ 2000
 rs : ∀ x ∈ t.ranks, x.name.size ≤ 2000
structure Sized (t : Thing) : Prop where
 text : t.text.size < 1000000000000000000
 ps : ∀ x ∈ t.pairs, x.name.size < 1000000000000000000 ∧ x.text.size < 1000000000000000000
 ls : ∀ x ∈ t.list, x.size < 1000000000000000000
 rs : ∀ x ∈ t.ranks, x.name.size < 1000000000000000000
def noText : ByteArray := ⟨#[]⟩
theorem clP_calls {h : Heap} {v : Value} {l : List Pair} (hv : SL encP h v l) (hl : l.length ≤ 70000) :
  CallsH Tryz.prog 75 [v] h (Ret fun r h' => OL encP 2 h' r l ∧ (∀ b ∈ vblk r, h.size ≤ b) ∧ Chg [] h h') := by
 obtain ⟨a, c, rfl, hlc⟩ := hv.form
 refine f75_calls (by simp) ?_
 cases a with
 |none =>
  have h0 : l.length = 0 := by
   obtain ⟨a', c', he, _, h2⟩ := hv
   cases he
   exact h2
  have : l = [] := List.length_eq_zero_iff.1 h0
  subst this
  exact Ai OL.nil (Ai (fun b hb => absurd (show b ∈ ([] : List Nat) from hb) (by simp)) (Chg.refl h))
 |some a =>
  intro b1 h1 g1
  have own : OL encP 2 h1 (.slice (some ⟨b1, 0, none⟩) 0 0) [] := ⟨some ⟨b1, 0, none⟩, 0, rfl, rfl, Nat.zero_le _, [], g1.blk, by simp⟩
  refine app_own encP_len encP_one rfl own (hv.ext g1.chg) (by simp; omega) ?_
  intro v' h2 ho2 hc2 hb2
  have i1 := g1.id
  refine Ai ho2 (Ai (fun b hb => ?_) (g1.chg.fresh hc2 (by simp [ablk]; omega)))
  rcases hb2 b hb with h | h
  ·simp [ablk] at h; omega
  ·have := g1.size; omega
theorem clS_calls {h : Heap} {v : Value} {l : List ByteArray} (hv : SL encS h v l) (hl : l.length ≤ 70000) :
  CallsH Tryz.prog 76 [v] h (Ret fun r h' => OL encS 1 h' r l ∧ (∀ b ∈ vblk r, h.size ≤ b) ∧ Chg [] h h') := by
 obtain ⟨a, c, rfl, hlc⟩ := hv.form
 refine f76_calls (by simp) ?_
 cases a with
 |none =>
  have h0 : l.length = 0 := by
   obtain ⟨a', c', he, _, h2⟩ := hv
   cases he
   exact h2
  have : l = [] := List.length_eq_zero_iff.1 h0
  subst this
  exact Ai OL.nil (Ai (fun b hb => absurd (show b ∈ ([] : List Nat) from hb) (by simp)) (Chg.refl h))
 |some a =>
  intro b1 h1 g1
  have own : OL encS 1 h1 (.slice (some ⟨b1, 0, none⟩) 0 0) [] := ⟨some ⟨b1, 0, none⟩, 0, rfl, rfl, Nat.zero_le _, [], g1.blk, by simp⟩
  refine app_own encS_len encS_one rfl own (hv.ext g1.chg) (by simp; omega) ?_
  intro v' h2 ho2 hc2 hb2
  have i1 := g1.id
  refine Ai ho2 (Ai (fun b hb => ?_) (g1.chg.fresh hc2 (by simp [ablk]; omega)))
  rcases hb2 b hb with h | h
  ·simp [ablk] at h; omega
  ·have := g1.size; omega
theorem clR_calls {h : Heap} {v : Value} {l : List Rank} (hv : SL encR h v l) (hl : l.length ≤ 70000) :
  CallsH Tryz.prog 77 [v] h (Ret fun r h' => OL encR 2 h' r l ∧ (∀ b ∈ vblk r, h.size ≤ b) ∧ Chg [] h h') := by
 obtain ⟨a, c, rfl, hlc⟩ := hv.form
 refine f77_calls (by simp) ?_
 cases a with
 |none =>
  have h0 : l.length = 0 := by
   obtain ⟨a', c', he, _, h2⟩ := hv
   cases he
   exact h2
  have : l = [] := List.length_eq_zero_iff.1 h0
  subst this
  exact Ai OL.nil (Ai (fun b hb => absurd (show b ∈ ([] : List Nat) from hb) (by simp)) (Chg.refl h))
 |some a =>
  intro b1 h1 g1
  have own : OL encR 2 h1 (.slice (some ⟨b1, 0, none⟩) 0 0) [] := ⟨some ⟨b1, 0, none⟩, 0, rfl, rfl, Nat.zero_le _, [], g1.blk, by simp⟩
  refine app_own encR_len encR_one rfl own (hv.ext g1.chg) (by simp; omega) ?_
  intro v' h2 ho2 hc2 hb2
  have i1 := g1.id
  refine Ai ho2 (Ai (fun b hb => ?_) (g1.chg.fresh hc2 (by simp [ablk]; omega)))
  rcases hb2 b hb with h | h
  ·simp [ablk] at h; omega
  ·have := g1.size; omega
def zeroT : Thing := ⟨0, noText, [], [], [], false, 0⟩
def zeroV : List Value := [.int .i64 0, .string ⟨#[]⟩, .slice none 0 0, .slice none 0 0, .slice none 0 0, .bool false, .int .i64 0]
theorem zero_TH {h : Heap} : TH h zeroV zeroT := ⟨_, _, _, rfl, SL.nil, SL.nil, SL.nil⟩
theorem thing_one {vs : List Value} {t : Thing} {h : Heap} (x : TH h vs t) : ∀ u ∈ vs, u.oneCell' = true := by
 obtain ⟨pv, lv, rv, rfl, hp, hl, hr⟩ := x
 obtain ⟨pa, pc, rfl, _⟩ := hp.form
 obtain ⟨la, lc, rfl, _⟩ := hl.form
 obtain ⟨ra, rc, rfl, _⟩ := hr.form
 intro u hu
 simp at hu
 rcases hu with rfl | rfl | rfl | rfl | rfl | rfl | rfl <;> rfl
def cellsT (t : Thing) (pv lv rv : Value) : List Value := [.int .i64 t.kind, .string t.text, pv, lv, rv, .bool t.hasU, .int .i64 t.unt]
def bl3 (pv lv rv : Value) : List Nat := vblk pv ++ (vblk lv ++ vblk rv)
structure TO (h : Heap) (pv lv rv : Value) (t : Thing) : Prop where
 p : OL encP 2 h pv t.pairs
 l : OL encS 1 h lv t.list
 r : OL encR 2 h rv t.ranks
 pl : ∀ b ∈ vblk pv, b ∉ vblk lv
 pr : ∀ b ∈ vblk pv, b ∉ vblk rv
 lr : ∀ b ∈ vblk lv, b ∉ vblk rv
theorem TO.chg {S : List Nat} {h h' : Heap} {pv lv rv : Value} {t : Thing} (o : TO h pv lv rv t) (c : Chg S h h') (hn : ∀ b ∈ bl3 pv lv rv, b ∉ S) : TO h' pv lv rv t :=
 ⟨o.p.chg c fun b hb => hn b (by simp [bl3, hb]), o.l.chg c fun b hb => hn b (by simp [bl3, hb]), o.r.chg c fun b hb => hn b (by simp [bl3, hb]), o.pl, o.pr, o.lr⟩
theorem TO.ext {h h' : Heap} {pv lv rv : Value} {t : Thing} (o : TO h pv lv rv t) (c : Chg [] h h') : TO h' pv lv rv t := o.chg c (by simp)
theorem TO.th {h : Heap} {pv lv rv : Value} {t : Thing} (o : TO h pv lv rv t) : TH h (cellsT t pv lv rv) t := ⟨pv, lv, rv, rfl, o.p.sl, o.l.sl, o.r.sl⟩
theorem copied_own {h : Heap} {vs : List Value} {t : Thing} (x : TH h vs t) (n : Lens t) :
  CallsH Tryz.prog 36 [.agg ⟨vs⟩] h (Ret fun r h' => (∃ pv lv rv, r = .agg ⟨cellsT t pv lv rv⟩ ∧ TO h' pv lv rv t ∧ ∀ b ∈ bl3 pv lv rv, h.size ≤ b) ∧ Chg [] h h') := by
 refine f36_calls (by simp) ?_
 intro b1 h1 g1
 intro b2 h2 g2
 have B1 : Blk h2 b1 vs := (show Blk h1 b1 vs from g1.blk).chg g2.chg (by simp)
 have hc2 := g1.chg.nil g2.chg
 have i1 := g1.id
 have i2 := g2.id
 have z1 := g1.size
 obtain ⟨pv, lv, rv, rfl, hp, hl, hr⟩ := x.ext hc2
 obtain ⟨pa, pc, rfl, _⟩ := hp.form
 obtain ⟨la, lc, rfl, _⟩ := hl.form
 obtain ⟨ra, rc, rfl, _⟩ := hr.form
 refine Ei _ (Ai (cell_blk B1 rfl) (Ei _ (Ai (cell_blk B1 rfl) (Ei _ (Ai (cell_blk B1 rfl) ?_)))))
 refine callq_ret (clP_calls hp n.p) ?_
 rintro r3 h3 ⟨hp3, hb3, hc3⟩
 refine Ai hc3.ext ?_
 refine callq_ret (clS_calls (hl.ext hc3) n.l) ?_
 rintro r4 h4 ⟨hl4, hb4, hc4⟩
 refine Ai hc4.ext ?_
 refine callq_ret (clR_calls ((hr.ext hc3).ext hc4) n.r) ?_
 rintro r5 h5 ⟨hr5, hb5, hc5⟩
 refine Ai hc5.ext ?_
 have hc35 := (hc3.nil hc4).nil hc5
 have B5 := B1.chg hc35 (by simp)
 have lp3 := hp3.lt
 have ll4 := hl4.lt
 have s3 := hc3.size
 have s4 := hc4.size
 have s5 := hc5.size
 have s2 := hc2.size
 have hz2 := g2.size
 have o5 : TO h5 r3 r4 r5 t := ⟨(hp3.ext hc4).ext hc5, hl4.ext hc5, hr5, fun b hb hx => by have := lp3 b hb; have := hb4 b hx; omega, fun b hb hx => by have := lp3 b hb; have := hb5 b hx; omega, fun b hb hx => by have := ll4 b hb; have := hb5 b hx; omega⟩
 have fr : ∀ b ∈ bl3 r3 r4 r5, h2.size ≤ b := by
  intro b hb
  simp only [bl3, List.mem_append] at hb
  rcases hb with hb | hb | hb
  ·exact hb3 b hb
  ·have := hb4 b hb; omega
  ·have := hb5 b hb; omega
 obtain ⟨qa, qc, rfl, _⟩ := hp3.sl.form
 obtain ⟨ma, mc, rfl, _⟩ := hl4.sl.form
 obtain ⟨sa, sc, rfl, _⟩ := hr5.sl.form
 refine Ei _ (Ai B5 (Ai (by simp) (Ai rfl (Ai (ones1 rfl) ?_))))
 intro h6 p6
 have B6 : Blk h6 b1 (cellsT t (.slice qa t.pairs.length qc) (.slice la t.list.length lc) (.slice ra t.ranks.length rc)) := p6.blk
 refine Ei _ (Ai B6 (Ai (by simp [cellsT]) (Ai rfl (Ai (ones1 rfl) ?_))))
 intro h7 p7
 have B7 : Blk h7 b1 (cellsT t (.slice qa t.pairs.length qc) (.slice ma t.list.length mc) (.slice ra t.ranks.length rc)) := p7.blk
 refine Ei _ (Ai B7 (Ai (by simp [cellsT]) (Ai rfl (Ai (ones1 rfl) ?_))))
 intro h8 p8
 have B8 : Blk h8 b1 (cellsT t (.slice qa t.pairs.length qc) (.slice ma t.list.length mc) (.slice sa t.ranks.length sc)) := p8.blk
 have c58 : Chg [b1] h5 h8 := (p6.chg.trans p7.chg (U := [b1]) (fun _ h => h) (fun _ h _ => h)).trans p8.chg (fun _ h => h) (fun _ h _ => h)
 have o8 := o5.chg c58 (fun b hb => by have := fr b hb; simp; omega)
 refine Ei _ (Ai rfl (Ai (cells_blk B8) ?_))
 have Bz : Blk h8 b2 zeroV := ((show Blk h2 b2 zeroV from g2.blk).chg hc35 (by simp)).chg c58 (by simp; omega)
 refine Ei _ (Ai Bz (Ai (by decide) (Ai rfl (Ai (thing_one o8.th) ?_))))
 intro h9 p9
 have B9 : Blk h9 b2 (cellsT t (.slice qa t.pairs.length qc) (.slice ma t.list.length mc) (.slice sa t.ranks.length sc)) := p9.blk
 have hc29 : Chg [] h h9 := ((hc2.nil hc35).fresh c58 (by simp; omega)).fresh p9.chg (by simp; omega)
 refine Ei _ (Ai rfl (Ai (cells_blk B9) ?_))
 exact Ai (Ei _ (Ei _ (Ei _ (Ai rfl (Ai (o8.chg p9.chg (fun b hb => by have := fr b hb; simp; omega)) (fun b hb => by have := fr b hb; omega)))))) hc29
theorem gone_calls {h : Heap} {vs : List Value} {t : Thing} (x : TH h vs t) (now : Int) :
  CallsH Tryz.prog 112 [.agg ⟨vs⟩, .int .i64 now] h (Ret fun r h' => r = .bool (t.hasU && decide (t.unt ≤ now)) ∧ Chg [] h h') := by
 refine f112_calls (by simp) ?_
 intro b1 h1 g1
 have B1 : Blk h1 b1 vs := g1.blk
 obtain ⟨pv, lv, rv, rfl, hp, hl, hr⟩ := x
 refine Ei _ (Ai (cell_blk B1 rfl) ?_)
 cases hU : t.hasU with
 |false => exact Ai rfl g1.chg
 |true =>
  refine Ei _ (Ai (cell_blk B1 rfl) ?_)
  refine Ai rfl (Ai (fun hl => ?_) (fun hl => ?_))
  ·exact Ai (by rw [decide_eq_true hl]; rfl) g1.chg
  ·exact Ai (by rw [decide_eq_false hl]; rfl) g1.chg
def ptr (b : Nat) : Value := .pointer (some ⟨b, 0, none⟩)
structure KS (h : Heap) (kb sb mb : Nat) : Prop where
 k : Blk h kb [ptr sb]
 s : Blk h sb [.map (some mb)]
theorem KS.chg {S : List Nat} {h h' : Heap} {kb sb mb : Nat} (x : KS h kb sb mb) (hc : Chg S h h') (h1 : kb ∉ S) (h2 : sb ∉ S) : KS h' kb sb mb := ⟨x.k.chg hc h1, x.s.chg hc h2⟩
theorem none_calls {h : Heap} {kb sb mb : Nat} (x : KS h kb sb mb) : CallsH Tryz.prog 42 [ptr kb] h (Ret fun r h' => r = .bool false ∧ h' = h) := by
 refine f42_calls (by simp) ?_
 refine Ei _ (Ai (cell_blk x.k rfl) ?_)
 exact ⟨rfl, rfl⟩
theorem New_calls {h : Heap} : CallsH Tryz.prog 16 [] h (Ret fun r h' => ∃ kb sb mb, r = ptr kb ∧ KS h' kb sb mb ∧ MapB h' mb [] 0 ∧ mb = h.size ∧ sb = h.size + 1 ∧ kb = h.size + 2 ∧ Chg [] h h') := by
 refine f16_calls (by simp) ?_
 intro mb h1 g1
 intro sb h2 g2
 intro kb h3 g3
 have i1 := g1.id
 have i2 := g2.id
 have i3 := g3.id
 have z1 := g1.size
 have z2 := g2.size
 refine Ei kb (Ei sb (Ei mb (Ai rfl (Ai ⟨g3.blk, (show Blk h2 sb _ from g2.blk).chg g3.chg (by simp)⟩ (Ai ?_ (Ai i1 (Ai (by omega) (Ai (by omega) ?_))))))))
 ·exact MapB.chg (MapB.chg (show MapB h1 mb [] 0 from g1.blk) g2.chg (by simp)) g3.chg (by simp)
 ·exact (g1.chg.nil g2.chg).nil g3.chg
def entsI : List (Int × Value) → Nat → List MapEntry
 |[], _ => []
 |(k, v) :: r, n => { key := .int .i64 k, val := v, born := n } :: entsI r (n + 1)
theorem entsI_fits : ∀ (l : List (Int × Value)) (n : Nat), ∀ e ∈ entsI l n, fits (.int .i64) e.key = true
 |[], _, e, h => by simp [entsI] at h
 |(k, v) :: r, n, e, h => by
  rcases List.mem_cons.1 h with rfl | h
  ·rfl
  ·exact entsI_fits r (n + 1) e h
theorem same_int (a b : Int) : Instr.sameBits 10000 (.int .i64 a) (.int .i64 b) = decide (a = b) := by
 simp [Instr.sameBits]
 by_cases h : a = b <;> simp [h]
theorem mfind_entsI (k : Int) : ∀ (l : List (Int × Value)) (n i : Nat), (∀ x ∈ l, x.1 ≠ k) → mfind (.int .i64 k) (entsI l n) i = none
 |[], _, _, _ => rfl
 |(k', v) :: r, n, i, h => by
  have hk : k' ≠ k := h (k', v) (by simp)
  simp only [entsI, mfind, same_int]
  rw [decide_eq_false (fun e => hk e.symm)]
  exact mfind_entsI k r (n + 1) (i + 1) fun x hx => h x (by simp [hx])
def ruleV (name text number : Bool) (kind : Int) (makes : Bool) (f : Nat) : Value := .agg ⟨[.bool name, .bool text, .bool number, .int .i64 kind, .bool makes, .func (.func f) #[] #[]]⟩
def ruleL : List (Int × Value) := [
 (1, ruleV false false false 0 false 185), (2, ruleV false true false 0 true 186), (3, ruleV false false true 0 false 187), (4, ruleV false false false 0 false 188),
 (5, ruleV true true false 2 true 189), (6, ruleV true false false 2 false 190), (7, ruleV false true false 3 true 191), (8, ruleV false true false 3 true 193),
 (9, ruleV false false false 3 false 194), (10, ruleV false false false 3 false 195), (11, ruleV false true true 3 false 196), (12, ruleV true false false 4 true 197),
 (13, ruleV true false false 4 false 198), (14, ruleV true false true 5 true 199), (15, ruleV true false false 5 false 200)]
theorem rules_calls {h : Heap} : CallsH Tryz.prog 109 [] h (Ret fun r h' => ∃ mb, r = .map (some mb) ∧ MapB h' mb (entsI ruleL 0) 15 ∧ h.size ≤ mb ∧ Chg [] h h') := by
 refine f109_calls (by simp) ?_
 intro mb h0 g0
 have i0 : h.size ≤ mb := by rw [g0.id]; exact Nat.le_refl _
 have c0 := g0.chg
 have m0 : MapB h0 mb (entsI (ruleL.take 0) 0) 0 := g0.blk
 refine Ai rfl (Ei (entsI (ruleL.take 0) 0) (Ei 0 (Ai m0 (Ai (entsI_fits _ _) ?_))))
 rw [mfind_entsI 1 (ruleL.take 0) 0 0 (by decide)]
 intro h1 p1
 have m1 : MapB h1 mb (entsI (ruleL.take 1) 0) 1 := p1.blk
 have c1 := c0.fresh p1.chg (by simp; exact i0)
 refine Ai rfl (Ei (entsI (ruleL.take 1) 0) (Ei 1 (Ai m1 (Ai (entsI_fits _ _) ?_))))
 rw [mfind_entsI 2 (ruleL.take 1) 0 0 (by decide)]
 intro h2 p2
 have m2 : MapB h2 mb (entsI (ruleL.take 2) 0) 2 := p2.blk
 have c2 := c1.fresh p2.chg (by simp; exact i0)
 refine Ai rfl (Ei (entsI (ruleL.take 2) 0) (Ei 2 (Ai m2 (Ai (entsI_fits _ _) ?_))))
 rw [mfind_entsI 3 (ruleL.take 2) 0 0 (by decide)]
 intro h3 p3
 have m3 : MapB h3 mb (entsI (ruleL.take 3) 0) 3 := p3.blk
 have c3 := c2.fresh p3.chg (by simp; exact i0)
 refine Ai rfl (Ei (entsI (ruleL.take 3) 0) (Ei 3 (Ai m3 (Ai (entsI_fits _ _) ?_))))
 rw [mfind_entsI 4 (ruleL.take 3) 0 0 (by decide)]
 intro h4 p4
 have m4 : MapB h4 mb (entsI (ruleL.take 4) 0) 4 := p4.blk
 have c4 := c3.fresh p4.chg (by simp; exact i0)
 refine Ai rfl (Ei (entsI (ruleL.take 4) 0) (Ei 4 (Ai m4 (Ai (entsI_fits _ _) ?_))))
 rw [mfind_entsI 5 (ruleL.take 4) 0 0 (by decide)]
 intro h5 p5
 have m5 : MapB h5 mb (entsI (ruleL.take 5) 0) 5 := p5.blk
 have c5 := c4.fresh p5.chg (by simp; exact i0)
 refine Ai rfl (Ei (entsI (ruleL.take 5) 0) (Ei 5 (Ai m5 (Ai (entsI_fits _ _) ?_))))
 rw [mfind_entsI 6 (ruleL.take 5) 0 0 (by decide)]
 intro h6 p6
 have m6 : MapB h6 mb (entsI (ruleL.take 6) 0) 6 := p6.blk
 have c6 := c5.fresh p6.chg (by simp; exact i0)
 refine Ai rfl (Ei (entsI (ruleL.take 6) 0) (Ei 6 (Ai m6 (Ai (entsI_fits _ _) ?_))))
 rw [mfind_entsI 7 (ruleL.take 6) 0 0 (by decide)]
 intro h7 p7
 have m7 : MapB h7 mb (entsI (ruleL.take 7) 0) 7 := p7.blk
 have c7 := c6.fresh p7.chg (by simp; exact i0)
 refine Ai rfl (Ei (entsI (ruleL.take 7) 0) (Ei 7 (Ai m7 (Ai (entsI_fits _ _) ?_))))
 rw [mfind_entsI 8 (ruleL.take 7) 0 0 (by decide)]
 intro h8 p8
 have m8 : MapB h8 mb (entsI (ruleL.take 8) 0) 8 := p8.blk
 have c8 := c7.fresh p8.chg (by simp; exact i0)
 refine Ai rfl (Ei (entsI (ruleL.take 8) 0) (Ei 8 (Ai m8 (Ai (entsI_fits _ _) ?_))))
 rw [mfind_entsI 9 (ruleL.take 8) 0 0 (by decide)]
 intro h9 p9
 have m9 : MapB h9 mb (entsI (ruleL.take 9) 0) 9 := p9.blk
 have c9 := c8.fresh p9.chg (by simp; exact i0)
 refine Ai rfl (Ei (entsI (ruleL.take 9) 0) (Ei 9 (Ai m9 (Ai (entsI_fits _ _) ?_))))
 rw [mfind_entsI 10 (ruleL.take 9) 0 0 (by decide)]
 intro h10 p10
 have m10 : MapB h10 mb (entsI (ruleL.take 10) 0) 10 := p10.blk
 have c10 := c9.fresh p10.chg (by simp; exact i0)
 refine Ai rfl (Ei (entsI (ruleL.take 10) 0) (Ei 10 (Ai m10 (Ai (entsI_fits _ _) ?_))))
 rw [mfind_entsI 11 (ruleL.take 10) 0 0 (by decide)]
 intro h11 p11
 have m11 : MapB h11 mb (entsI (ruleL.take 11) 0) 11 := p11.blk
 have c11 := c10.fresh p11.chg (by simp; exact i0)
 refine Ai rfl (Ei (entsI (ruleL.take 11) 0) (Ei 11 (Ai m11 (Ai (entsI_fits _ _) ?_))))
 rw [mfind_entsI 12 (ruleL.take 11) 0 0 (by decide)]
 intro h12 p12
 have m12 : MapB h12 mb (entsI (ruleL.take 12) 0) 12 := p12.blk
 have c12 := c11.fresh p12.chg (by simp; exact i0)
 refine Ai rfl (Ei (entsI (ruleL.take 12) 0) (Ei 12 (Ai m12 (Ai (entsI_fits _ _) ?_))))
 rw [mfind_entsI 13 (ruleL.take 12) 0 0 (by decide)]
 intro h13 p13
 have m13 : MapB h13 mb (entsI (ruleL.take 13) 0) 13 := p13.blk
 have c13 := c12.fresh p13.chg (by simp; exact i0)
 refine Ai rfl (Ei (entsI (ruleL.take 13) 0) (Ei 13 (Ai m13 (Ai (entsI_fits _ _) ?_))))
 rw [mfind_entsI 14 (ruleL.take 13) 0 0 (by decide)]
 intro h14 p14
 have m14 : MapB h14 mb (entsI (ruleL.take 14) 0) 14 := p14.blk
 have c14 := c13.fresh p14.chg (by simp; exact i0)
 refine Ai rfl (Ei (entsI (ruleL.take 14) 0) (Ei 14 (Ai m14 (Ai (entsI_fits _ _) ?_))))
 rw [mfind_entsI 15 (ruleL.take 14) 0 0 (by decide)]
 intro h15 p15
 have m15 : MapB h15 mb (entsI (ruleL.take 15) 0) 15 := p15.blk
 have c15 := c14.fresh p15.chg (by simp; exact i0)
 exact Ei mb (Ai rfl (Ai m15 (Ai i0 c15)))
theorem Look_none {h : Heap} {kb sb mb c : Nat} {es : List MapEntry} {key : ByteArray} (ks : KS h kb sb mb) (hm : MapB h mb es c) (hf : ∀ e ∈ es, fits .str e.key = true) (hn : mfind (.string key) es 0 = none) :
  CallsH Tryz.prog 110 [ptr kb, .string key] h (Ret fun r h' => r = .tuple #[.agg ⟨zeroV⟩, .bool false] ∧ Chg [] h h') := by
 refine f110_calls (by simp) ?_
 intro b4 h1 g1
 have hc := g1.chg
 have ks1 := ks.chg hc (by simp) (by simp)
 have hm1 : MapB h1 mb es c := hm.chg hc (by simp)
 refine call_ret (none_calls ks1) ?_
 rintro _ h9 ⟨rfl, e9⟩
 have e9 := e9.symm
 subst e9
 refine Ei _ (Ai (cell_blk ks1.k rfl) (Ei _ (Ai (cell_blk ks1.s rfl) ?_)))
 refine Ai rfl (Ei es (Ei c (Ai hm1 (Ai hf ?_))))
 rw [hn]
 refine Ei _ (Ai g1.blk (Ai (by decide) (Ai rfl (Ai (thing_one (t := zeroT) (h := h1) zero_TH) ?_))))
 intro h2 p2
 have g2 := g1.put p2
 have B2 : Blk h2 b4 zeroV := p2.blk
 refine Ei zeroV (Ai rfl (Ai (cells_blk B2) ?_))
 exact Ai rfl g2.chg
def textT (tx : ByteArray) : Thing := ⟨1, tx, [], [], [], false, 0⟩
def textV (tx : ByteArray) : List Value := [.int .i64 1, .string tx, .slice none 0 0, .slice none 0 0, .slice none 0 0, .bool false, .int .i64 0]
theorem text_TH {h : Heap} {tx : ByteArray} : TH h (textV tx) (textT tx) := ⟨_, _, _, rfl, SL.nil, SL.nil, SL.nil⟩
end Go.Proofs.YtjnijlnmbjjgpaaGreatDoor
namespace Go.Sx
open Go
variable {α : Type} {enc : α → List Value} {size : Nat}
theorem Put.refl {h : Heap} {b : Nat} {l : List Value} (hb : Blk h b l) : Put h h b l := ⟨hb, rfl, fun _ _ => rfl, fun _ h => h⟩
theorem Put.trans {h h1 h2 : Heap} {b : Nat} {l l' : List Value} (p : Put h h1 b l) (q : Put h1 h2 b l') : Put h h2 b l' :=
 ⟨q.blk, by rw [q.size, p.size], fun k hk => by rw [q.old k hk, p.old k hk], fun t ht => q.ty t (p.ty t ht)⟩
theorem splice_at (A B C ys : List Value) (hl : ys.length = B.length) : splice (A ++ (B ++ C)) A.length ys = A ++ (ys ++ C) := by
 rw [splice_mid A (B ++ C) ys (by simp [hl])]
 rw [hl, List.drop_left]
theorem wr_at {h : Heap} {b o : Nat} (A B C : List Value) {ys : List Value} {K : Heap → Prop} (hb : Blk h b (A ++ (B ++ C))) (ho : o = A.length) (hl : ys.length = B.length) (h1 : ∀ u ∈ ys, u.oneCell' = true)
  (hk : ∀ h', Put h h' b (A ++ (ys ++ C)) → K h') : wrP h K (some ⟨b, o, none⟩) ys := by
 subst ho
 refine ⟨fun e => ?_, fun _ => ?_⟩
 ·subst e
  have e : B = [] := by simpa using hl.symm
  subst e
  exact hk h (Put.refl hb)
 ·refine ⟨_, hb, by simp [hl], h1, fun h' hp => ?_⟩
  rw [splice_at A B C ys hl] at hp
  exact hk h' hp
theorem enc_ones (h1 : ∀ x, ∀ u ∈ enc x, u.oneCell' = true) (l : List α) : ∀ u ∈ l.flatMap enc, u.oneCell' = true := by
 intro u hu
 obtain ⟨x, _, hx⟩ := List.mem_flatMap.1 hu
 exact h1 x u hx
theorem split_at (l : List α) (i : Nat) : l.flatMap enc = (l.take i).flatMap enc ++ (l.drop i).flatMap enc := by
 rw [← List.flatMap_append, List.take_append_drop]
theorem take_len (hsz : ∀ x, (enc x).length = size) (l : List α) (i : Nat) (h : i ≤ l.length) : ((l.take i).flatMap enc).length = i * size := by
 rw [flatMap_len hsz, List.length_take, Nat.min_eq_left h]
theorem drop_len (hsz : ∀ x, (enc x).length = size) (l : List α) (i : Nat) : ((l.drop i).flatMap enc).length = (l.length - i) * size := by
 rw [flatMap_len hsz, List.length_drop]
theorem OL.open {h : Heap} {a : Option Addr} {n c : Nat} {l : List α} (ho : OL enc size h (.slice a n c) l) : n = l.length ∧ ((a = none ∧ l = [] ∧ c = 0) ∨ ∃ b, a = some ⟨b, 0, none⟩ ∧ l.length ≤ c ∧ ∃ rest, Blk h b (l.flatMap enc ++ rest) ∧ (l.flatMap enc ++ rest).length = c * size) := by
 obtain ⟨a1, c1, he, hm⟩ := ho
 cases he
 refine ⟨rfl, ?_⟩
 split at hm
 ·exact .inl ⟨rfl, hm.1, hm.2⟩
 ·rename_i b o
  obtain ⟨rfl, h2, rest, h3, h4⟩ := hm
  exact .inr ⟨b, rfl, h2, rest, h3, h4⟩
 ·exact hm.elim
theorem OL.mk {h : Heap} {b n c : Nat} {l : List α} {rest : List Value} (hn : n = l.length) (hc : l.length ≤ c) (hb : Blk h b (l.flatMap enc ++ rest)) (hl : (l.flatMap enc ++ rest).length = c * size) : OL enc size h (.slice (some ⟨b, 0, none⟩) n c) l := by
 subst hn
 exact ⟨_, c, rfl, rfl, hc, rest, hb, hl⟩
theorem OL.form {h : Heap} {v : Value} {l : List α} (ho : OL enc size h v l) : ∃ a c, v = .slice a l.length c ∧ l.length ≤ c := ho.sl.form
theorem src_of {h : Heap} {b o n : Nat} (A ys C : List Value) (hb : Blk h b (A ++ (ys ++ C))) (ho : o = A.length) : Src h (some ⟨b, o, none⟩) n ys := by
 subst ho
 intro i v hv
 refine cell_blk hb ?_
 have hlt := (List.getElem?_eq_some_iff.1 hv).1
 rw [List.getElem?_append_right (by omega), Nat.add_sub_cancel_left, List.getElem?_append_left hlt]
 exact hv
theorem SL.src {h : Heap} {a : Option Addr} {n c : Nat} {l : List α} (hs : SL enc h (.slice a n c) l) : Src h a n (l.flatMap enc) := by
 obtain ⟨a', c', he, _, h2⟩ := hs
 injection he with e1 e2 e3
 subst e1 e2 e3
 exact h2
theorem ov_ext {P : Program} {f : Nat} {fn : Func} {tS tR e : TypeId} {size : Nat} (hf : P.funcs[f]? = some fn) (hname : (fn.name == "runtime.NumGoroutine") = false) (hbn : fn.body.isNone = true) (hn : Extern.findNext fn = none)
  (he : Extern.find fn = some (Extern.SlicesOverlaps.overlaps #[tS, tS] #[tR])) (ht : P.underlying tS = some (.slice e)) (hz : szOf P e = some size) {h : Heap} {vb b o o' n c n' c' : Nat} {l l' : List Value}
  (hv : Blk h vb l) (hb : Blk h b l') (hl : l' ≠ []) (hne : vb ≠ b) :
  ExtH P f [.slice (some ⟨vb, o, none⟩) n c, .slice (some ⟨b, o', none⟩) n' c'] h fun v h' => v = .bool false ∧ h' = h := by
 intro w hw
 subst hw
 obtain ⟨e1, h1⟩ := hv
 obtain ⟨e2, h2⟩ := hb
 have key := Go.Lib.run_overlaps_apart (P := P) w tS tR e ht size (fun w => run_sizeOf' hz w) ⟨vb, o, none⟩ ⟨b, o', none⟩ n c n' c' hne e1 e2 l.length l'.length
  (by simp [World.shape?, h1]) (by simp [World.shape?, h2]) (fun h => hl (List.length_eq_zero_iff.1 h)) (by simp [World.frozen?, h1]) (by simp [World.frozen?, h1])
 refine ⟨.bool false, w, ?_, ⟨rfl, rfl⟩, rfl, rfl, rfl⟩
 rw [run_callFunc_extern hf hname hbn hn he, key]
 rfl
end Go.Sx
namespace Go.Proofs.YtjnijlnmbjjgpaaGreatDoor
open Go Go.Sx C
theorem ovS_ext {h : Heap} {vb b o o' n c n' c' : Nat} {l l' : List Value} (hv : Blk h vb l) (hb : Blk h b l') (hl : l' ≠ []) (hne : vb ≠ b) :
  ExtH Tryz.prog 252 [.slice (some ⟨vb, o, none⟩) n c, .slice (some ⟨b, o', none⟩) n' c'] h fun v h' => v = .bool false ∧ h' = h :=
 ov_ext (P := Tryz.prog) (tS := 24) (tR := 4) (e := 9) (size := 1) Tryz.func252 (by kernel_rfl) (by kernel_rfl) (by kernel_rfl) (by kernel_rfl) Tryz.underlying24 (by kernel_rfl) hv hb hl hne
set_option maxHeartbeats 1000000 in
/-- slices.Insert of one item. -/
theorem insS_calls {h : Heap} {v : Value} {l : List ByteArray} {vb i : Nat} {x : ByteArray} (ho : OL encS 1 h v l) (hl : l.length ≤ 80000) (hi : i ≤ l.length) (hx : Blk h vb (encS x)) (hne : vb ∉ vblk v) :
  CallsH Tryz.prog 192 [v, .int .i64 i, .slice (some ⟨vb, 0, none⟩) 1 1] h
   (Ret fun r h' => OL encS 1 h' r (l.take i ++ x :: l.drop i) ∧ Chg (vblk v) h h' ∧ ∀ b ∈ vblk r, b ∈ vblk v ∨ h.size ≤ b) := by
 obtain ⟨a, c, rfl, hlc⟩ := ho.form
 have hne : vb ∉ ablk a := hne
 refine f192_calls (by simp) ?_
 refine SL.slc (lo := i) (hi := l.length) encS_len ho.sl hi (Nat.le_refl _) ?_
 intro a0 _ _
 refine Ai rfl (Ai (fun e => absurd e (by decide)) (fun _ => ?_))
 refine Ai rfl (Ai (fun e => ?_) (fun hin => ?_))
 ·have e : i = l.length := by omega
  subst e
  refine app_own encS_len encS_one rfl ho (SL.one encS_len hx) (by simp; omega) ?_
  intro v' h' ho' hc hb
  rw [List.take_length, List.drop_length]
  exact Ai ho' (Ai hc hb)
 have hin : i < l.length := by omega
 refine Ai rfl (fun z hz => ?_)
 have hz := add_in hz (by omega) (by omega)
 subst hz
 obtain ⟨_, hopen⟩ := ho.open
 rcases hopen with ⟨_, e, _⟩ | ⟨b, rfl, _, rest, B, hbl⟩
 ·rw [e] at hin; exact absurd hin (by simp)
 have eN : ((l.length : Int) + 1) = ((l.length + 1 : Nat) : Int) := by omega
 have eI : ((i : Int) + 1) = ((i + 1 : Nat) : Int) := by omega
 have zi := take_len encS_len l i hi
 have zd := drop_len encS_len l i
 have hsp := split_at (enc := encS) l i
 have xl := encS_len x
 have fin : (l.take i).flatMap encS ++ (encS x ++ (l.drop i).flatMap encS) = (l.take i ++ x :: l.drop i).flatMap encS := by simp
 have finl : l.length + 1 = (l.take i ++ x :: l.drop i).length := by simp; omega
 refine Ai rfl (Ai (fun hfull => ?_) (fun hroom => ?_))
 ·have hfull : c < l.length + 1 := by omega
  have s0 : SL encS h (.slice (some ⟨b, 0, none⟩) l.length c) l := ho.sl
  refine SL.slc (lo := 0) (hi := i) encS_len s0 (Nat.zero_le _) hi ?_
  intro a1 _ hs1
  simp only [Nat.sub_zero, List.drop_zero] at hs1 ⊢
  refine Ai rfl (fun z hz => ?_)
  have hz := add_in hz (by omega) (by omega)
  subst hz
  refine Ai rfl (fun z hz => ?_)
  have hz := sub_in hz (by omega) (by omega)
  have hz : z = ((l.length + 1 - i : Nat) : Int) := by omega
  subst hz
  have src1 := hs1.src
  refine Ai (by omega) (Ai (by omega) (Ei ((l.take i).flatMap encS) (Ai zi (Ai ?_ (Ai (by omega) (Ai (by omega) ?_))))))
  ·exact src1
  intro c3 b3 h1 hc3 g1
  rw [Int.toNat_natCast] at hc3 g1 ⊢
  have hc3 : l.length + 1 ≤ c3 := by omega
  have e3 : i + (l.length + 1 - i) = l.length + 1 := by omega
  rw [e3] at g1 ⊢
  obtain ⟨Z, hZ⟩ : ∃ Z : List Value, Z = (List.replicate (c3 - (l.length + 1)) ([.string ⟨#[]⟩] : List Value)).flatten := ⟨_, rfl⟩
  have hZl : Z.length = (c3 - (l.length + 1)) * 1 := by rw [hZ]; simp
  have q0 : (List.replicate (l.length + 1 - i) ([.string ⟨#[]⟩] : List Value)).flatten = ([.string ⟨#[]⟩] : List Value) ++ (List.replicate (l.length - i) ([.string ⟨#[]⟩] : List Value)).flatten := by
   rw [show l.length + 1 - i = (l.length - i) + 1 by omega, List.replicate_succ, List.flatten_cons]
  have B1 : Blk h1 b3 ((l.take i).flatMap encS ++ (([.string ⟨#[]⟩] : List Value) ++ ((List.replicate (l.length - i) ([.string ⟨#[]⟩] : List Value)).flatten ++ Z))) := by
   have := g1.blk
   rw [q0, ← hZ] at this
   simpa using this
  have i3 := g1.id
  have lx := hx.lt
  have lb := B.lt
  -- the item
  refine Ai (by omega) (Ai (by omega) (Ai (by omega) ?_))
  intro o3 ho3 _
  have ho3 := ho3 (by omega)
  have t1 : (((l.length + 1 : Nat) : Int) - (i : Int)).toNat = l.length + 1 - i := by omega
  rw [t1]
  have ez : o3 = ((l.take i).flatMap encS).length := by rw [zi]; omega
  have m1 : min 1 (l.length + 1 - i) = 1 := by omega
  refine Ei (encS x) (Ai (by rw [m1, xl]) (Ai ?_ ?_))
  ·rw [m1]; exact src_of [] (encS x) [] (by simpa using hx.chg g1.chg (by simp)) rfl
  refine wr_at _ ([.string ⟨#[]⟩] : List Value) _ B1 ez (by rw [xl]; rfl) (encS_one x) ?_
  intro h2 p2
  have B2 := p2.blk
  have g2 := g1.put p2
  -- what stands behind
  refine Ai rfl (fun z hz => ?_)
  have hz := add_in hz (by omega) (by omega)
  have hz : z = ((i + 1 : Nat) : Int) := by omega
  subst hz
  refine Ai (by omega) (Ai (by omega) (Ai (by omega) ?_))
  intro o4 ho4 _
  have ho4 := ho4 (by omega)
  have s2 : SL encS h2 (.slice (some ⟨b, 0, none⟩) l.length c) l := s0.ext g2.chg
  refine SL.slc (lo := i) (hi := l.length) encS_len s2 hi (Nat.le_refl _) ?_
  intro a5 _ hs5
  have e5 : (l.drop i).take (l.length - i) = l.drop i := by rw [List.take_of_length_le]; simp
  rw [e5] at hs5
  have src5 := hs5.src
  have t2 : (((l.length + 1 : Nat) : Int) - ((i + 1 : Nat) : Int)).toNat = l.length - i := by omega
  rw [t2]
  have m2 : min (l.length - i) (l.length - i) = l.length - i := by omega
  refine Ei ((l.drop i).flatMap encS) (Ai (by rw [m2, zd]) (Ai (by rw [m2]; exact src5) ?_))
  refine wr_at ((l.take i).flatMap encS ++ encS x) ((List.replicate (l.length - i) ([.string ⟨#[]⟩] : List Value)).flatten) Z (by rw [List.append_assoc]; exact B2) ?_ ?_ (enc_ones encS_one _) ?_
  ·rw [List.length_append, zi, xl]; omega
  ·rw [zd]; simp
  intro h3 p3
  have g3 := g2.put p3
  refine Ai (OL.mk (rest := Z) finl (by rw [← finl]; omega) ?_ ?_) (Ai (g3.chg.mono (by simp)) (fun b' hb' => .inr (by have : b' = b3 := List.mem_singleton.1 hb'; omega)))
  ·have := g3.blk
   rw [← fin]
   simpa using this
  ·rw [← fin]
   simp only [List.length_append, zi, zd, xl, hZl]
   omega
 ·have hroom : l.length + 1 ≤ c := by omega
  have hne' : vb ≠ b := fun e => hne (by simp [ablk, e])
  -- there is room
  obtain ⟨R1, R2, hR, hR1⟩ : ∃ R1 R2, rest = R1 ++ R2 ∧ R1.length = 1 := by
   refine ⟨rest.take 1, rest.drop 1, (List.take_append_drop _ _).symm, ?_⟩
   rw [List.length_append, flatMap_len encS_len] at hbl
   rw [List.length_take]
   omega
  subst hR
  refine Ai rfl (fun z hz => ?_)
  have hz := add_in hz (by omega) (by omega)
  have hz : z = ((l.length + 1 : Nat) : Int) := by omega
  subst hz
  refine Ai (by omega) (Ai (by omega) (Ai (by omega) ?_))
  intro o1 hA hB
  have eo1 : o1 = 0 := by
   have := hA (by omega)
   simpa using this
  subst eo1
  have t0 : (((l.length + 1 : Nat) : Int) - ((0 : Nat) : Int)).toNat = l.length + 1 := by omega
  have t00 : ((c : Int) - ((0 : Nat) : Int)).toNat = c := by omega
  rw [t0, t00]
  refine Ai rfl (fun z hz => ?_)
  have hz := add_in hz (by omega) (by omega)
  have hz : z = ((i + 1 : Nat) : Int) := by omega
  subst hz
  refine Ai (by omega) (Ai (by omega) (Ai (by omega) ?_))
  intro o2 _ _
  have hnil : l.flatMap encS ++ (R1 ++ R2) ≠ [] := by
   intro e
   have := congrArg List.length e
   rw [List.length_append, List.length_append, hR1] at this
   simp at this
  refine ?_
  have ext := ovS_ext (o := 0) (o' := o2) (n := 1) (c := 1) (n' := (((l.length + 1 : Nat) : Int) - ((i + 1 : Nat) : Int)).toNat) (c' := ((c : Int) - ((i + 1 : Nat) : Int)).toNat) hx B hnil hne'
  refine fun w hw => ?_
  obtain ⟨u, w', hr, ⟨rfl, hh⟩, hrest⟩ := ext w hw
  refine ⟨_, w', hr, ?_, hrest⟩
  rw [hh]
  clear ext hr hh hrest w' w hw
  refine Ai rfl (fun z hz => ?_)
  have hz := add_in hz (by omega) (by omega)
  have hz : z = ((i + 1 : Nat) : Int) := by omega
  subst hz
  refine Ai (by omega) (Ai (by omega) (Ai (by omega) ?_))
  intro o3 ho3 ho3'
  have eo3 : o3 = (i + 1) * 1 := by
   have := ho3 (by omega)
   omega
  refine Ai (by omega) (Ai (by omega) (Ai (by omega) ?_))
  intro o4 ho4 _
  have eo4 : o4 = i * 1 := by
   have := ho4 (by omega)
   omega
  have t1 : (((l.length + 1 : Nat) : Int) - ((i + 1 : Nat) : Int)).toNat = l.length - i := by omega
  have t2 : (((l.length + 1 : Nat) : Int) - (i : Int)).toNat = l.length + 1 - i := by omega
  rw [t1, t2]
  have m2 : min (l.length + 1 - i) (l.length - i) = l.length - i := by omega
  have B0 : Blk h b ((l.take i).flatMap encS ++ ((l.drop i).flatMap encS ++ (R1 ++ R2))) := by
   rw [hsp, List.append_assoc] at B; exact B
  -- the part behind, cut anew
  obtain ⟨D1, D2, hD, hD1⟩ : ∃ D1 D2, (l.drop i).flatMap encS ++ R1 = D1 ++ D2 ∧ D1.length = 1 := by
   refine ⟨((l.drop i).flatMap encS ++ R1).take 1, ((l.drop i).flatMap encS ++ R1).drop 1, (List.take_append_drop _ _).symm, ?_⟩
   rw [List.length_take, List.length_append, hR1]; omega
  have hD2 : D2.length = (l.length - i) * 1 := by
   have := congrArg List.length hD
   rw [List.length_append, List.length_append, zd, hR1, hD1] at this
   omega
  refine Ei ((l.drop i).flatMap encS) (Ai (by rw [m2, zd]) (Ai (by rw [m2]; exact src_of _ _ _ B0 (by rw [zi]; exact eo4)) ?_))
  refine wr_at ((l.take i).flatMap encS ++ D1) D2 R2 ?_ ?_ ?_ (enc_ones encS_one _) ?_
  ·rw [List.append_assoc, ← List.append_assoc D1, ← hD, List.append_assoc]; exact B0
  ·rw [List.length_append, zi, hD1, eo3]; omega
  ·rw [zd, hD2]
  intro h1 p1
  have B1 : Blk h1 b ((l.take i).flatMap encS ++ (D1 ++ ((l.drop i).flatMap encS ++ R2))) := by
   have := p1.blk
   rw [List.append_assoc] at this; exact this
  have hx1 := hx.chg p1.chg (by simpa using hne')
  refine Ai (by omega) (Ai (by omega) (Ai (by omega) ?_))
  intro o5 ho5 _
  have eo5 : o5 = i * 1 := by
   have := ho5 (by omega)
   omega
  rw [t2]
  have m1 : min 1 (l.length + 1 - i) = 1 := by omega
  refine Ei (encS x) (Ai (by rw [m1, xl]) (Ai ?_ ?_))
  ·rw [m1]; exact src_of [] (encS x) [] (by simpa using hx1) rfl
  refine wr_at _ D1 _ B1 (by rw [zi]; exact eo5) (by rw [xl, hD1]) (encS_one x) ?_
  intro h2 p2
  refine Ai (OL.mk (rest := R2) finl (by rw [← finl]; exact hroom) ?_ ?_) (Ai (p1.trans p2).chg (fun _ h => .inl h))
  ·have := p2.blk
   rw [← fin]
   simpa using this
  ·rw [← fin]
   rw [hsp] at hbl
   simp only [List.length_append, zi, zd, xl, hR1] at hbl ⊢
   omega
set_option maxHeartbeats 1000000 in
/-- slices.Delete of one item. -/
theorem delS_calls {h : Heap} {v : Value} {l : List ByteArray} {i : Nat} (ho : OL encS 1 h v l) (hl : l.length ≤ 80000) (hi : i < l.length) :
  CallsH Tryz.prog 256 [v, .int .i64 i, .int .i64 (i + 1 : Nat)] h
   (Ret fun r h' => OL encS 1 h' r (l.take i ++ l.drop (i + 1)) ∧ Chg (vblk v) h h' ∧ ∀ b ∈ vblk r, b ∈ vblk v) := by
 obtain ⟨a, c, rfl, hlc⟩ := ho.form
 refine f256_calls (by simp) ?_
 obtain ⟨_, hopen⟩ := ho.open
 rcases hopen with ⟨_, e, _⟩ | ⟨b, rfl, _, rest, B, hbl⟩
 ·rw [e] at hi; exact absurd hi (by simp)
 refine Ai (by omega) (Ai (by omega) (Ai (by omega) (Ai (by omega) ?_)))
 intro o0 _ _
 refine Ai rfl (Ai (fun e => absurd e (by omega)) (fun _ => ?_))
 have zi := take_len encS_len l i (by omega)
 have zd := drop_len encS_len l (i + 1)
 have hcons : l.drop i = l[i] :: l.drop (i + 1) := List.drop_eq_getElem_cons hi
 have hsp := split_at (enc := encS) l i
 rw [hcons, List.flatMap_cons] at hsp
 have xl := encS_len l[i]
 have B0 : Blk h b ((l.take i).flatMap encS ++ (encS l[i] ++ ((l.drop (i + 1)).flatMap encS ++ rest))) := by
  rw [hsp] at B; simpa using B
 -- s[:i]
 refine Ai (by omega) (Ai (by omega) (Ai (by omega) ?_))
 intro o1 ho1 ho1'
 have eo1 : o1 = 0 := by
  have := ho1 (by omega)
  simpa using this
 subst eo1
 refine Ai (by omega) (Ai (by omega) (Ai (by omega) ?_))
 intro o2 ho2 ho2'
 have t1 : ((i : Int) - ((0 : Nat) : Int)).toNat = i := by omega
 have t2 : ((c : Int) - ((0 : Nat) : Int)).toNat = c := by omega
 have t3 : ((l.length : Int) - ((i + 1 : Nat) : Int)).toNat = l.length - (i + 1) := by omega
 rw [t1, t2, t3]
 have hfit : i + (l.length - (i + 1)) ≤ c := by omega
 -- the end of the part behind, cut anew
 obtain ⟨D1, D2, hD, hD1, hD2⟩ : ∃ D1 D2, encS l[i] ++ (l.drop (i + 1)).flatMap encS = D1 ++ D2 ∧ D1.length = (l.length - (i + 1)) * 1 ∧ D2.length = 1 := by
  refine ⟨(encS l[i] ++ (l.drop (i + 1)).flatMap encS).take ((l.length - (i + 1)) * 1), (encS l[i] ++ (l.drop (i + 1)).flatMap encS).drop ((l.length - (i + 1)) * 1), (List.take_append_drop _ _).symm, ?_, ?_⟩
  ·rw [List.length_take, List.length_append, xl, zd]; omega
  ·rw [List.length_drop, List.length_append, xl, zd]; omega
 have fin : (l.take i).flatMap encS ++ (l.drop (i + 1)).flatMap encS = (l.take i ++ l.drop (i + 1)).flatMap encS := by simp
 have finl : i + (l.length - (i + 1)) = (l.take i ++ l.drop (i + 1)).length := by simp; omega
 have hY : Src h (some ⟨b, o2, none⟩) (l.length - (i + 1)) ((l.drop (i + 1)).flatMap encS) := by
  by_cases hlt : i + 1 < c
  ·have := ho2 (by omega)
   refine src_of ((l.take i).flatMap encS ++ encS l[i]) _ rest (by simpa using B0) ?_
   rw [List.length_append, zi, xl]; omega
  ·have : l.drop (i + 1) = [] := by apply List.drop_eq_nil_of_le; omega
   rw [this]
   intro j u hj
   simp at hj
 refine ⟨(l.take i).flatMap encS, (l.drop (i + 1)).flatMap encS, zi, zd, src_of [] _ _ B0 rfl, hY, enc_ones encS_one _, fun _ => ?_, fun hlt => absurd hlt (by omega)⟩
 have bl : ((l.take i).flatMap encS ++ (D1 ++ (D2 ++ rest))).length = c * 1 := by
  rw [hsp] at hbl
  have := congrArg List.length hD
  simp only [List.length_append] at hbl this ⊢
  omega
 refine ⟨(l.take i).flatMap encS ++ (D1 ++ (D2 ++ rest)), ?_, ?_, ?_⟩
 ·rw [← List.append_assoc D1, ← hD, List.append_assoc]; exact B0
 ·rw [bl]
  have : (i + (l.length - (i + 1))) * 1 ≤ c * 1 := Nat.mul_le_mul_right _ hfit
  omega
 intro h1 p1
 have e1 : splice ((l.take i).flatMap encS ++ (D1 ++ (D2 ++ rest))) (0 + i * 1) ((l.drop (i + 1)).flatMap encS) = (l.take i).flatMap encS ++ ((l.drop (i + 1)).flatMap encS ++ (D2 ++ rest)) := by
  rw [Nat.zero_add, ← zi]
  exact splice_at _ _ _ _ (by rw [zd, hD1])
 rw [e1] at p1
 -- clear
 refine Ai (by omega) (Ai (by omega) (Ai (by omega) ?_))
 intro o3 ho3 ho3'
 have t4 : ((l.length : Int) - ((i + (l.length - (i + 1)) : Nat) : Int)).toNat = 1 := by omega
 rw [t4]
 have eo3 : o3 = (l.length - 1) * 1 := by
  have := ho3 (by omega)
  omega
 refine wr_at ((l.take i).flatMap encS ++ (l.drop (i + 1)).flatMap encS) D2 rest (by simpa using p1.blk) ?_ (by simp [hD2]) (by decide) ?_
 ·rw [List.length_append, zi, zd, eo3]; omega
 intro h2 p2
 have p2' := p2.blk
 refine Ai (OL.mk (rest := (List.replicate 1 ([.string ⟨#[]⟩] : List Value)).flatten ++ rest) finl (by rw [← finl]; exact hfit) ?_ ?_) (Ai (p1.trans p2).chg (fun _ h => h))
 ·rw [← fin]; exact p2'
 ·rw [← fin]
  rw [hsp] at hbl
  simp only [List.length_append] at hbl ⊢
  simp only [zi, zd, xl] at hbl ⊢
  simp
  omega
theorem ovP_ext {h : Heap} {vb b o o' n c n' c' : Nat} {l l' : List Value} (hv : Blk h vb l) (hb : Blk h b l') (hl : l' ≠ []) (hne : vb ≠ b) :
  ExtH Tryz.prog 282 [.slice (some ⟨vb, o, none⟩) n c, .slice (some ⟨b, o', none⟩) n' c'] h fun v h' => v = .bool false ∧ h' = h :=
 ov_ext (P := Tryz.prog) (tS := 23) (tR := 4) (e := 108) (size := 2) Tryz.func282 (by kernel_rfl) (by kernel_rfl) (by kernel_rfl) (by kernel_rfl) Tryz.underlying23 (by kernel_rfl) hv hb hl hne
set_option maxHeartbeats 1000000 in
/-- slices.Insert of one item. -/
theorem insP_calls {h : Heap} {v : Value} {l : List Pair} {vb i : Nat} {x : Pair} (ho : OL encP 2 h v l) (hl : l.length ≤ 80000) (hi : i ≤ l.length) (hx : Blk h vb (encP x)) (hne : vb ∉ vblk v) :
  CallsH Tryz.prog 250 [v, .int .i64 i, .slice (some ⟨vb, 0, none⟩) 1 1] h
   (Ret fun r h' => OL encP 2 h' r (l.take i ++ x :: l.drop i) ∧ Chg (vblk v) h h' ∧ ∀ b ∈ vblk r, b ∈ vblk v ∨ h.size ≤ b) := by
 obtain ⟨a, c, rfl, hlc⟩ := ho.form
 have hne : vb ∉ ablk a := hne
 refine f250_calls (by simp) ?_
 refine SL.slc (lo := i) (hi := l.length) encP_len ho.sl hi (Nat.le_refl _) ?_
 intro a0 _ _
 refine Ai rfl (Ai (fun e => absurd e (by decide)) (fun _ => ?_))
 refine Ai rfl (Ai (fun e => ?_) (fun hin => ?_))
 ·have e : i = l.length := by omega
  subst e
  refine app_own encP_len encP_one rfl ho (SL.one encP_len hx) (by simp; omega) ?_
  intro v' h' ho' hc hb
  rw [List.take_length, List.drop_length]
  exact Ai ho' (Ai hc hb)
 have hin : i < l.length := by omega
 refine Ai rfl (fun z hz => ?_)
 have hz := add_in hz (by omega) (by omega)
 subst hz
 obtain ⟨_, hopen⟩ := ho.open
 rcases hopen with ⟨_, e, _⟩ | ⟨b, rfl, _, rest, B, hbl⟩
 ·rw [e] at hin; exact absurd hin (by simp)
 have eN : ((l.length : Int) + 1) = ((l.length + 1 : Nat) : Int) := by omega
 have eI : ((i : Int) + 1) = ((i + 1 : Nat) : Int) := by omega
 have zi := take_len encP_len l i hi
 have zd := drop_len encP_len l i
 have hsp := split_at (enc := encP) l i
 have xl := encP_len x
 have fin : (l.take i).flatMap encP ++ (encP x ++ (l.drop i).flatMap encP) = (l.take i ++ x :: l.drop i).flatMap encP := by simp
 have finl : l.length + 1 = (l.take i ++ x :: l.drop i).length := by simp; omega
 refine Ai rfl (Ai (fun hfull => ?_) (fun hroom => ?_))
 ·have hfull : c < l.length + 1 := by omega
  have s0 : SL encP h (.slice (some ⟨b, 0, none⟩) l.length c) l := ho.sl
  refine SL.slc (lo := 0) (hi := i) encP_len s0 (Nat.zero_le _) hi ?_
  intro a1 _ hs1
  simp only [Nat.sub_zero, List.drop_zero] at hs1 ⊢
  refine Ai rfl (fun z hz => ?_)
  have hz := add_in hz (by omega) (by omega)
  subst hz
  refine Ai rfl (fun z hz => ?_)
  have hz := sub_in hz (by omega) (by omega)
  have hz : z = ((l.length + 1 - i : Nat) : Int) := by omega
  subst hz
  have src1 := hs1.src
  refine Ai (by omega) (Ai (by omega) (Ei ((l.take i).flatMap encP) (Ai zi (Ai ?_ (Ai (by omega) (Ai (by omega) ?_))))))
  ·exact src1
  intro c3 b3 h1 hc3 g1
  rw [Int.toNat_natCast] at hc3 g1 ⊢
  have hc3 : l.length + 1 ≤ c3 := by omega
  have e3 : i + (l.length + 1 - i) = l.length + 1 := by omega
  rw [e3] at g1 ⊢
  obtain ⟨Z, hZ⟩ : ∃ Z : List Value, Z = (List.replicate (c3 - (l.length + 1)) ([.string ⟨#[]⟩, .string ⟨#[]⟩] : List Value)).flatten := ⟨_, rfl⟩
  have hZl : Z.length = (c3 - (l.length + 1)) * 2 := by rw [hZ]; simp
  have q0 : (List.replicate (l.length + 1 - i) ([.string ⟨#[]⟩, .string ⟨#[]⟩] : List Value)).flatten = ([.string ⟨#[]⟩, .string ⟨#[]⟩] : List Value) ++ (List.replicate (l.length - i) ([.string ⟨#[]⟩, .string ⟨#[]⟩] : List Value)).flatten := by
   rw [show l.length + 1 - i = (l.length - i) + 1 by omega, List.replicate_succ, List.flatten_cons]
  have B1 : Blk h1 b3 ((l.take i).flatMap encP ++ (([.string ⟨#[]⟩, .string ⟨#[]⟩] : List Value) ++ ((List.replicate (l.length - i) ([.string ⟨#[]⟩, .string ⟨#[]⟩] : List Value)).flatten ++ Z))) := by
   have := g1.blk
   rw [q0, ← hZ] at this
   simpa using this
  have i3 := g1.id
  have lx := hx.lt
  have lb := B.lt
  -- the item
  refine Ai (by omega) (Ai (by omega) (Ai (by omega) ?_))
  intro o3 ho3 _
  have ho3 := ho3 (by omega)
  have t1 : (((l.length + 1 : Nat) : Int) - (i : Int)).toNat = l.length + 1 - i := by omega
  rw [t1]
  have ez : o3 = ((l.take i).flatMap encP).length := by rw [zi]; omega
  have m1 : min 1 (l.length + 1 - i) = 1 := by omega
  refine Ei (encP x) (Ai (by rw [m1, xl]) (Ai ?_ ?_))
  ·rw [m1]; exact src_of [] (encP x) [] (by simpa using hx.chg g1.chg (by simp)) rfl
  refine wr_at _ ([.string ⟨#[]⟩, .string ⟨#[]⟩] : List Value) _ B1 ez (by rw [xl]; rfl) (encP_one x) ?_
  intro h2 p2
  have B2 := p2.blk
  have g2 := g1.put p2
  -- what stands behind
  refine Ai rfl (fun z hz => ?_)
  have hz := add_in hz (by omega) (by omega)
  have hz : z = ((i + 1 : Nat) : Int) := by omega
  subst hz
  refine Ai (by omega) (Ai (by omega) (Ai (by omega) ?_))
  intro o4 ho4 _
  have ho4 := ho4 (by omega)
  have s2 : SL encP h2 (.slice (some ⟨b, 0, none⟩) l.length c) l := s0.ext g2.chg
  refine SL.slc (lo := i) (hi := l.length) encP_len s2 hi (Nat.le_refl _) ?_
  intro a5 _ hs5
  have e5 : (l.drop i).take (l.length - i) = l.drop i := by rw [List.take_of_length_le]; simp
  rw [e5] at hs5
  have src5 := hs5.src
  have t2 : (((l.length + 1 : Nat) : Int) - ((i + 1 : Nat) : Int)).toNat = l.length - i := by omega
  rw [t2]
  have m2 : min (l.length - i) (l.length - i) = l.length - i := by omega
  refine Ei ((l.drop i).flatMap encP) (Ai (by rw [m2, zd]) (Ai (by rw [m2]; exact src5) ?_))
  refine wr_at ((l.take i).flatMap encP ++ encP x) ((List.replicate (l.length - i) ([.string ⟨#[]⟩, .string ⟨#[]⟩] : List Value)).flatten) Z (by rw [List.append_assoc]; exact B2) ?_ ?_ (enc_ones encP_one _) ?_
  ·rw [List.length_append, zi, xl]; omega
  ·rw [zd]; simp
  intro h3 p3
  have g3 := g2.put p3
  refine Ai (OL.mk (rest := Z) finl (by rw [← finl]; omega) ?_ ?_) (Ai (g3.chg.mono (by simp)) (fun b' hb' => .inr (by have : b' = b3 := List.mem_singleton.1 hb'; omega)))
  ·have := g3.blk
   rw [← fin]
   simpa using this
  ·rw [← fin]
   simp only [List.length_append, zi, zd, xl, hZl]
   omega
 ·have hroom : l.length + 1 ≤ c := by omega
  have hne' : vb ≠ b := fun e => hne (by simp [ablk, e])
  -- there is room
  obtain ⟨R1, R2, hR, hR1⟩ : ∃ R1 R2, rest = R1 ++ R2 ∧ R1.length = 2 := by
   refine ⟨rest.take 2, rest.drop 2, (List.take_append_drop _ _).symm, ?_⟩
   rw [List.length_append, flatMap_len encP_len] at hbl
   rw [List.length_take]
   omega
  subst hR
  refine Ai rfl (fun z hz => ?_)
  have hz := add_in hz (by omega) (by omega)
  have hz : z = ((l.length + 1 : Nat) : Int) := by omega
  subst hz
  refine Ai (by omega) (Ai (by omega) (Ai (by omega) ?_))
  intro o1 hA hB
  have eo1 : o1 = 0 := by
   have := hA (by omega)
   simpa using this
  subst eo1
  have t0 : (((l.length + 1 : Nat) : Int) - ((0 : Nat) : Int)).toNat = l.length + 1 := by omega
  have t00 : ((c : Int) - ((0 : Nat) : Int)).toNat = c := by omega
  rw [t0, t00]
  refine Ai rfl (fun z hz => ?_)
  have hz := add_in hz (by omega) (by omega)
  have hz : z = ((i + 1 : Nat) : Int) := by omega
  subst hz
  refine Ai (by omega) (Ai (by omega) (Ai (by omega) ?_))
  intro o2 _ _
  have hnil : l.flatMap encP ++ (R1 ++ R2) ≠ [] := by
   intro e
   have := congrArg List.length e
   rw [List.length_append, List.length_append, hR1] at this
   simp at this
  refine ?_
  have ext := ovP_ext (o := 0) (o' := o2) (n := 1) (c := 1) (n' := (((l.length + 1 : Nat) : Int) - ((i + 1 : Nat) : Int)).toNat) (c' := ((c : Int) - ((i + 1 : Nat) : Int)).toNat) hx B hnil hne'
  refine fun w hw => ?_
  obtain ⟨u, w', hr, ⟨rfl, hh⟩, hrest⟩ := ext w hw
  refine ⟨_, w', hr, ?_, hrest⟩
  rw [hh]
  clear ext hr hh hrest w' w hw
  refine Ai rfl (fun z hz => ?_)
  have hz := add_in hz (by omega) (by omega)
  have hz : z = ((i + 1 : Nat) : Int) := by omega
  subst hz
  refine Ai (by omega) (Ai (by omega) (Ai (by omega) ?_))
  intro o3 ho3 ho3'
  have eo3 : o3 = (i + 1) * 2 := by
   have := ho3 (by omega)
   omega
  refine Ai (by omega) (Ai (by omega) (Ai (by omega) ?_))
  intro o4 ho4 _
  have eo4 : o4 = i * 2 := by
   have := ho4 (by omega)
   omega
  have t1 : (((l.length + 1 : Nat) : Int) - ((i + 1 : Nat) : Int)).toNat = l.length - i := by omega
  have t2 : (((l.length + 1 : Nat) : Int) - (i : Int)).toNat = l.length + 1 - i := by omega
  rw [t1, t2]
  have m2 : min (l.length + 1 - i) (l.length - i) = l.length - i := by omega
  have B0 : Blk h b ((l.take i).flatMap encP ++ ((l.drop i).flatMap encP ++ (R1 ++ R2))) := by
   rw [hsp, List.append_assoc] at B; exact B
  -- the part behind, cut anew
  obtain ⟨D1, D2, hD, hD1⟩ : ∃ D1 D2, (l.drop i).flatMap encP ++ R1 = D1 ++ D2 ∧ D1.length = 2 := by
   refine ⟨((l.drop i).flatMap encP ++ R1).take 2, ((l.drop i).flatMap encP ++ R1).drop 2, (List.take_append_drop _ _).symm, ?_⟩
   rw [List.length_take, List.length_append, hR1]; omega
  have hD2 : D2.length = (l.length - i) * 2 := by
   have := congrArg List.length hD
   rw [List.length_append, List.length_append, zd, hR1, hD1] at this
   omega
  refine Ei ((l.drop i).flatMap encP) (Ai (by rw [m2, zd]) (Ai (by rw [m2]; exact src_of _ _ _ B0 (by rw [zi]; exact eo4)) ?_))
  refine wr_at ((l.take i).flatMap encP ++ D1) D2 R2 ?_ ?_ ?_ (enc_ones encP_one _) ?_
  ·rw [List.append_assoc, ← List.append_assoc D1, ← hD, List.append_assoc]; exact B0
  ·rw [List.length_append, zi, hD1, eo3]; omega
  ·rw [zd, hD2]
  intro h1 p1
  have B1 : Blk h1 b ((l.take i).flatMap encP ++ (D1 ++ ((l.drop i).flatMap encP ++ R2))) := by
   have := p1.blk
   rw [List.append_assoc] at this; exact this
  have hx1 := hx.chg p1.chg (by simpa using hne')
  refine Ai (by omega) (Ai (by omega) (Ai (by omega) ?_))
  intro o5 ho5 _
  have eo5 : o5 = i * 2 := by
   have := ho5 (by omega)
   omega
  rw [t2]
  have m1 : min 1 (l.length + 1 - i) = 1 := by omega
  refine Ei (encP x) (Ai (by rw [m1, xl]) (Ai ?_ ?_))
  ·rw [m1]; exact src_of [] (encP x) [] (by simpa using hx1) rfl
  refine wr_at _ D1 _ B1 (by rw [zi]; exact eo5) (by rw [xl, hD1]) (encP_one x) ?_
  intro h2 p2
  refine Ai (OL.mk (rest := R2) finl (by rw [← finl]; exact hroom) ?_ ?_) (Ai (p1.trans p2).chg (fun _ h => .inl h))
  ·have := p2.blk
   rw [← fin]
   simpa using this
  ·rw [← fin]
   rw [hsp] at hbl
   simp only [List.length_append, zi, zd, xl, hR1] at hbl ⊢
   omega
set_option maxHeartbeats 1000000 in
/-- slices.Delete of one item. -/
theorem delP_calls {h : Heap} {v : Value} {l : List Pair} {i : Nat} (ho : OL encP 2 h v l) (hl : l.length ≤ 80000) (hi : i < l.length) :
  CallsH Tryz.prog 251 [v, .int .i64 i, .int .i64 (i + 1 : Nat)] h
   (Ret fun r h' => OL encP 2 h' r (l.take i ++ l.drop (i + 1)) ∧ Chg (vblk v) h h' ∧ ∀ b ∈ vblk r, b ∈ vblk v) := by
 obtain ⟨a, c, rfl, hlc⟩ := ho.form
 refine f251_calls (by simp) ?_
 obtain ⟨_, hopen⟩ := ho.open
 rcases hopen with ⟨_, e, _⟩ | ⟨b, rfl, _, rest, B, hbl⟩
 ·rw [e] at hi; exact absurd hi (by simp)
 refine Ai (by omega) (Ai (by omega) (Ai (by omega) (Ai (by omega) ?_)))
 intro o0 _ _
 refine Ai rfl (Ai (fun e => absurd e (by omega)) (fun _ => ?_))
 have zi := take_len encP_len l i (by omega)
 have zd := drop_len encP_len l (i + 1)
 have hcons : l.drop i = l[i] :: l.drop (i + 1) := List.drop_eq_getElem_cons hi
 have hsp := split_at (enc := encP) l i
 rw [hcons, List.flatMap_cons] at hsp
 have xl := encP_len l[i]
 have B0 : Blk h b ((l.take i).flatMap encP ++ (encP l[i] ++ ((l.drop (i + 1)).flatMap encP ++ rest))) := by
  rw [hsp] at B; simpa using B
 -- s[:i]
 refine Ai (by omega) (Ai (by omega) (Ai (by omega) ?_))
 intro o1 ho1 ho1'
 have eo1 : o1 = 0 := by
  have := ho1 (by omega)
  simpa using this
 subst eo1
 refine Ai (by omega) (Ai (by omega) (Ai (by omega) ?_))
 intro o2 ho2 ho2'
 have t1 : ((i : Int) - ((0 : Nat) : Int)).toNat = i := by omega
 have t2 : ((c : Int) - ((0 : Nat) : Int)).toNat = c := by omega
 have t3 : ((l.length : Int) - ((i + 1 : Nat) : Int)).toNat = l.length - (i + 1) := by omega
 rw [t1, t2, t3]
 have hfit : i + (l.length - (i + 1)) ≤ c := by omega
 -- the end of the part behind, cut anew
 obtain ⟨D1, D2, hD, hD1, hD2⟩ : ∃ D1 D2, encP l[i] ++ (l.drop (i + 1)).flatMap encP = D1 ++ D2 ∧ D1.length = (l.length - (i + 1)) * 2 ∧ D2.length = 2 := by
  refine ⟨(encP l[i] ++ (l.drop (i + 1)).flatMap encP).take ((l.length - (i + 1)) * 2), (encP l[i] ++ (l.drop (i + 1)).flatMap encP).drop ((l.length - (i + 1)) * 2), (List.take_append_drop _ _).symm, ?_, ?_⟩
  ·rw [List.length_take, List.length_append, xl, zd]; omega
  ·rw [List.length_drop, List.length_append, xl, zd]; omega
 have fin : (l.take i).flatMap encP ++ (l.drop (i + 1)).flatMap encP = (l.take i ++ l.drop (i + 1)).flatMap encP := by simp
 have finl : i + (l.length - (i + 1)) = (l.take i ++ l.drop (i + 1)).length := by simp; omega
 have hY : Src h (some ⟨b, o2, none⟩) (l.length - (i + 1)) ((l.drop (i + 1)).flatMap encP) := by
  by_cases hlt : i + 1 < c
  ·have := ho2 (by omega)
   refine src_of ((l.take i).flatMap encP ++ encP l[i]) _ rest (by simpa using B0) ?_
   rw [List.length_append, zi, xl]; omega
  ·have : l.drop (i + 1) = [] := by apply List.drop_eq_nil_of_le; omega
   rw [this]
   intro j u hj
   simp at hj
 refine ⟨(l.take i).flatMap encP, (l.drop (i + 1)).flatMap encP, zi, zd, src_of [] _ _ B0 rfl, hY, enc_ones encP_one _, fun _ => ?_, fun hlt => absurd hlt (by omega)⟩
 have bl : ((l.take i).flatMap encP ++ (D1 ++ (D2 ++ rest))).length = c * 2 := by
  rw [hsp] at hbl
  have := congrArg List.length hD
  simp only [List.length_append] at hbl this ⊢
  omega
 refine ⟨(l.take i).flatMap encP ++ (D1 ++ (D2 ++ rest)), ?_, ?_, ?_⟩
 ·rw [← List.append_assoc D1, ← hD, List.append_assoc]; exact B0
 ·rw [bl]
  have : (i + (l.length - (i + 1))) * 2 ≤ c * 2 := Nat.mul_le_mul_right _ hfit
  omega
 intro h1 p1
 have e1 : splice ((l.take i).flatMap encP ++ (D1 ++ (D2 ++ rest))) (0 + i * 2) ((l.drop (i + 1)).flatMap encP) = (l.take i).flatMap encP ++ ((l.drop (i + 1)).flatMap encP ++ (D2 ++ rest)) := by
  rw [Nat.zero_add, ← zi]
  exact splice_at _ _ _ _ (by rw [zd, hD1])
 rw [e1] at p1
 -- clear
 refine Ai (by omega) (Ai (by omega) (Ai (by omega) ?_))
 intro o3 ho3 ho3'
 have t4 : ((l.length : Int) - ((i + (l.length - (i + 1)) : Nat) : Int)).toNat = 1 := by omega
 rw [t4]
 have eo3 : o3 = (l.length - 1) * 2 := by
  have := ho3 (by omega)
  omega
 refine wr_at ((l.take i).flatMap encP ++ (l.drop (i + 1)).flatMap encP) D2 rest (by simpa using p1.blk) ?_ (by simp [hD2]) (by decide) ?_
 ·rw [List.length_append, zi, zd, eo3]; omega
 intro h2 p2
 have p2' := p2.blk
 refine Ai (OL.mk (rest := (List.replicate 1 ([.string ⟨#[]⟩, .string ⟨#[]⟩] : List Value)).flatten ++ rest) finl (by rw [← finl]; exact hfit) ?_ ?_) (Ai (p1.trans p2).chg (fun _ h => h))
 ·rw [← fin]; exact p2'
 ·rw [← fin]
  rw [hsp] at hbl
  simp only [List.length_append] at hbl ⊢
  simp only [zi, zd, xl] at hbl ⊢
  simp
  omega
theorem ovR_ext {h : Heap} {vb b o o' n c n' c' : Nat} {l l' : List Value} (hv : Blk h vb l) (hb : Blk h b l') (hl : l' ≠ []) (hne : vb ≠ b) :
  ExtH Tryz.prog 287 [.slice (some ⟨vb, o, none⟩) n c, .slice (some ⟨b, o', none⟩) n' c'] h fun v h' => v = .bool false ∧ h' = h :=
 ov_ext (P := Tryz.prog) (tS := 25) (tR := 4) (e := 110) (size := 2) Tryz.func287 (by kernel_rfl) (by kernel_rfl) (by kernel_rfl) (by kernel_rfl) Tryz.underlying25 (by kernel_rfl) hv hb hl hne
set_option maxHeartbeats 1000000 in
/-- slices.Insert of one item. -/
theorem insR_calls {h : Heap} {v : Value} {l : List Rank} {vb i : Nat} {x : Rank} (ho : OL encR 2 h v l) (hl : l.length ≤ 80000) (hi : i ≤ l.length) (hx : Blk h vb (encR x)) (hne : vb ∉ vblk v) :
  CallsH Tryz.prog 258 [v, .int .i64 i, .slice (some ⟨vb, 0, none⟩) 1 1] h
   (Ret fun r h' => OL encR 2 h' r (l.take i ++ x :: l.drop i) ∧ Chg (vblk v) h h' ∧ ∀ b ∈ vblk r, b ∈ vblk v ∨ h.size ≤ b) := by
 obtain ⟨a, c, rfl, hlc⟩ := ho.form
 have hne : vb ∉ ablk a := hne
 refine f258_calls (by simp) ?_
 refine SL.slc (lo := i) (hi := l.length) encR_len ho.sl hi (Nat.le_refl _) ?_
 intro a0 _ _
 refine Ai rfl (Ai (fun e => absurd e (by decide)) (fun _ => ?_))
 refine Ai rfl (Ai (fun e => ?_) (fun hin => ?_))
 ·have e : i = l.length := by omega
  subst e
  refine app_own encR_len encR_one rfl ho (SL.one encR_len hx) (by simp; omega) ?_
  intro v' h' ho' hc hb
  rw [List.take_length, List.drop_length]
  exact Ai ho' (Ai hc hb)
 have hin : i < l.length := by omega
 refine Ai rfl (fun z hz => ?_)
 have hz := add_in hz (by omega) (by omega)
 subst hz
 obtain ⟨_, hopen⟩ := ho.open
 rcases hopen with ⟨_, e, _⟩ | ⟨b, rfl, _, rest, B, hbl⟩
 ·rw [e] at hin; exact absurd hin (by simp)
 have eN : ((l.length : Int) + 1) = ((l.length + 1 : Nat) : Int) := by omega
 have eI : ((i : Int) + 1) = ((i + 1 : Nat) : Int) := by omega
 have zi := take_len encR_len l i hi
 have zd := drop_len encR_len l i
 have hsp := split_at (enc := encR) l i
 have xl := encR_len x
 have fin : (l.take i).flatMap encR ++ (encR x ++ (l.drop i).flatMap encR) = (l.take i ++ x :: l.drop i).flatMap encR := by simp
 have finl : l.length + 1 = (l.take i ++ x :: l.drop i).length := by simp; omega
 refine Ai rfl (Ai (fun hfull => ?_) (fun hroom => ?_))
 ·have hfull : c < l.length + 1 := by omega
  have s0 : SL encR h (.slice (some ⟨b, 0, none⟩) l.length c) l := ho.sl
  refine SL.slc (lo := 0) (hi := i) encR_len s0 (Nat.zero_le _) hi ?_
  intro a1 _ hs1
  simp only [Nat.sub_zero, List.drop_zero] at hs1 ⊢
  refine Ai rfl (fun z hz => ?_)
  have hz := add_in hz (by omega) (by omega)
  subst hz
  refine Ai rfl (fun z hz => ?_)
  have hz := sub_in hz (by omega) (by omega)
  have hz : z = ((l.length + 1 - i : Nat) : Int) := by omega
  subst hz
  have src1 := hs1.src
  refine Ai (by omega) (Ai (by omega) (Ei ((l.take i).flatMap encR) (Ai zi (Ai ?_ (Ai (by omega) (Ai (by omega) ?_))))))
  ·exact src1
  intro c3 b3 h1 hc3 g1
  rw [Int.toNat_natCast] at hc3 g1 ⊢
  have hc3 : l.length + 1 ≤ c3 := by omega
  have e3 : i + (l.length + 1 - i) = l.length + 1 := by omega
  rw [e3] at g1 ⊢
  obtain ⟨Z, hZ⟩ : ∃ Z : List Value, Z = (List.replicate (c3 - (l.length + 1)) ([.string ⟨#[]⟩, .int .i64 0] : List Value)).flatten := ⟨_, rfl⟩
  have hZl : Z.length = (c3 - (l.length + 1)) * 2 := by rw [hZ]; simp
  have q0 : (List.replicate (l.length + 1 - i) ([.string ⟨#[]⟩, .int .i64 0] : List Value)).flatten = ([.string ⟨#[]⟩, .int .i64 0] : List Value) ++ (List.replicate (l.length - i) ([.string ⟨#[]⟩, .int .i64 0] : List Value)).flatten := by
   rw [show l.length + 1 - i = (l.length - i) + 1 by omega, List.replicate_succ, List.flatten_cons]
  have B1 : Blk h1 b3 ((l.take i).flatMap encR ++ (([.string ⟨#[]⟩, .int .i64 0] : List Value) ++ ((List.replicate (l.length - i) ([.string ⟨#[]⟩, .int .i64 0] : List Value)).flatten ++ Z))) := by
   have := g1.blk
   rw [q0, ← hZ] at this
   simpa using this
  have i3 := g1.id
  have lx := hx.lt
  have lb := B.lt
  -- the item
  refine Ai (by omega) (Ai (by omega) (Ai (by omega) ?_))
  intro o3 ho3 _
  have ho3 := ho3 (by omega)
  have t1 : (((l.length + 1 : Nat) : Int) - (i : Int)).toNat = l.length + 1 - i := by omega
  rw [t1]
  have ez : o3 = ((l.take i).flatMap encR).length := by rw [zi]; omega
  have m1 : min 1 (l.length + 1 - i) = 1 := by omega
  refine Ei (encR x) (Ai (by rw [m1, xl]) (Ai ?_ ?_))
  ·rw [m1]; exact src_of [] (encR x) [] (by simpa using hx.chg g1.chg (by simp)) rfl
  refine wr_at _ ([.string ⟨#[]⟩, .int .i64 0] : List Value) _ B1 ez (by rw [xl]; rfl) (encR_one x) ?_
  intro h2 p2
  have B2 := p2.blk
  have g2 := g1.put p2
  -- what stands behind
  refine Ai rfl (fun z hz => ?_)
  have hz := add_in hz (by omega) (by omega)
  have hz : z = ((i + 1 : Nat) : Int) := by omega
  subst hz
  refine Ai (by omega) (Ai (by omega) (Ai (by omega) ?_))
  intro o4 ho4 _
  have ho4 := ho4 (by omega)
  have s2 : SL encR h2 (.slice (some ⟨b, 0, none⟩) l.length c) l := s0.ext g2.chg
  refine SL.slc (lo := i) (hi := l.length) encR_len s2 hi (Nat.le_refl _) ?_
  intro a5 _ hs5
  have e5 : (l.drop i).take (l.length - i) = l.drop i := by rw [List.take_of_length_le]; simp
  rw [e5] at hs5
  have src5 := hs5.src
  have t2 : (((l.length + 1 : Nat) : Int) - ((i + 1 : Nat) : Int)).toNat = l.length - i := by omega
  rw [t2]
  have m2 : min (l.length - i) (l.length - i) = l.length - i := by omega
  refine Ei ((l.drop i).flatMap encR) (Ai (by rw [m2, zd]) (Ai (by rw [m2]; exact src5) ?_))
  refine wr_at ((l.take i).flatMap encR ++ encR x) ((List.replicate (l.length - i) ([.string ⟨#[]⟩, .int .i64 0] : List Value)).flatten) Z (by rw [List.append_assoc]; exact B2) ?_ ?_ (enc_ones encR_one _) ?_
  ·rw [List.length_append, zi, xl]; omega
  ·rw [zd]; simp
  intro h3 p3
  have g3 := g2.put p3
  refine Ai (OL.mk (rest := Z) finl (by rw [← finl]; omega) ?_ ?_) (Ai (g3.chg.mono (by simp)) (fun b' hb' => .inr (by have : b' = b3 := List.mem_singleton.1 hb'; omega)))
  ·have := g3.blk
   rw [← fin]
   simpa using this
  ·rw [← fin]
   simp only [List.length_append, zi, zd, xl, hZl]
   omega
 ·have hroom : l.length + 1 ≤ c := by omega
  have hne' : vb ≠ b := fun e => hne (by simp [ablk, e])
  -- there is room
  obtain ⟨R1, R2, hR, hR1⟩ : ∃ R1 R2, rest = R1 ++ R2 ∧ R1.length = 2 := by
   refine ⟨rest.take 2, rest.drop 2, (List.take_append_drop _ _).symm, ?_⟩
   rw [List.length_append, flatMap_len encR_len] at hbl
   rw [List.length_take]
   omega
  subst hR
  refine Ai rfl (fun z hz => ?_)
  have hz := add_in hz (by omega) (by omega)
  have hz : z = ((l.length + 1 : Nat) : Int) := by omega
  subst hz
  refine Ai (by omega) (Ai (by omega) (Ai (by omega) ?_))
  intro o1 hA hB
  have eo1 : o1 = 0 := by
   have := hA (by omega)
   simpa using this
  subst eo1
  have t0 : (((l.length + 1 : Nat) : Int) - ((0 : Nat) : Int)).toNat = l.length + 1 := by omega
  have t00 : ((c : Int) - ((0 : Nat) : Int)).toNat = c := by omega
  rw [t0, t00]
  refine Ai rfl (fun z hz => ?_)
  have hz := add_in hz (by omega) (by omega)
  have hz : z = ((i + 1 : Nat) : Int) := by omega
  subst hz
  refine Ai (by omega) (Ai (by omega) (Ai (by omega) ?_))
  intro o2 _ _
  have hnil : l.flatMap encR ++ (R1 ++ R2) ≠ [] := by
   intro e
   have := congrArg List.length e
   rw [List.length_append, List.length_append, hR1] at this
   simp at this
  refine ?_
  have ext := ovR_ext (o := 0) (o' := o2) (n := 1) (c := 1) (n' := (((l.length + 1 : Nat) : Int) - ((i + 1 : Nat) : Int)).toNat) (c' := ((c : Int) - ((i + 1 : Nat) : Int)).toNat) hx B hnil hne'
  refine fun w hw => ?_
  obtain ⟨u, w', hr, ⟨rfl, hh⟩, hrest⟩ := ext w hw
  refine ⟨_, w', hr, ?_, hrest⟩
  rw [hh]
  clear ext hr hh hrest w' w hw
  refine Ai rfl (fun z hz => ?_)
  have hz := add_in hz (by omega) (by omega)
  have hz : z = ((i + 1 : Nat) : Int) := by omega
  subst hz
  refine Ai (by omega) (Ai (by omega) (Ai (by omega) ?_))
  intro o3 ho3 ho3'
  have eo3 : o3 = (i + 1) * 2 := by
   have := ho3 (by omega)
   omega
  refine Ai (by omega) (Ai (by omega) (Ai (by omega) ?_))
  intro o4 ho4 _
  have eo4 : o4 = i * 2 := by
   have := ho4 (by omega)
   omega
  have t1 : (((l.length + 1 : Nat) : Int) - ((i + 1 : Nat) : Int)).toNat = l.length - i := by omega
  have t2 : (((l.length + 1 : Nat) : Int) - (i : Int)).toNat = l.length + 1 - i := by omega
  rw [t1, t2]
  have m2 : min (l.length + 1 - i) (l.length - i) = l.length - i := by omega
  have B0 : Blk h b ((l.take i).flatMap encR ++ ((l.drop i).flatMap encR ++ (R1 ++ R2))) := by
   rw [hsp, List.append_assoc] at B; exact B
  -- the part behind, cut anew
  obtain ⟨D1, D2, hD, hD1⟩ : ∃ D1 D2, (l.drop i).flatMap encR ++ R1 = D1 ++ D2 ∧ D1.length = 2 := by
   refine ⟨((l.drop i).flatMap encR ++ R1).take 2, ((l.drop i).flatMap encR ++ R1).drop 2, (List.take_append_drop _ _).symm, ?_⟩
   rw [List.length_take, List.length_append, hR1]; omega
  have hD2 : D2.length = (l.length - i) * 2 := by
   have := congrArg List.length hD
   rw [List.length_append, List.length_append, zd, hR1, hD1] at this
   omega
  refine Ei ((l.drop i).flatMap encR) (Ai (by rw [m2, zd]) (Ai (by rw [m2]; exact src_of _ _ _ B0 (by rw [zi]; exact eo4)) ?_))
  refine wr_at ((l.take i).flatMap encR ++ D1) D2 R2 ?_ ?_ ?_ (enc_ones encR_one _) ?_
  ·rw [List.append_assoc, ← List.append_assoc D1, ← hD, List.append_assoc]; exact B0
  ·rw [List.length_append, zi, hD1, eo3]; omega
  ·rw [zd, hD2]
  intro h1 p1
  have B1 : Blk h1 b ((l.take i).flatMap encR ++ (D1 ++ ((l.drop i).flatMap encR ++ R2))) := by
   have := p1.blk
   rw [List.append_assoc] at this; exact this
  have hx1 := hx.chg p1.chg (by simpa using hne')
  refine Ai (by omega) (Ai (by omega) (Ai (by omega) ?_))
  intro o5 ho5 _
  have eo5 : o5 = i * 2 := by
   have := ho5 (by omega)
   omega
  rw [t2]
  have m1 : min 1 (l.length + 1 - i) = 1 := by omega
  refine Ei (encR x) (Ai (by rw [m1, xl]) (Ai ?_ ?_))
  ·rw [m1]; exact src_of [] (encR x) [] (by simpa using hx1) rfl
  refine wr_at _ D1 _ B1 (by rw [zi]; exact eo5) (by rw [xl, hD1]) (encR_one x) ?_
  intro h2 p2
  refine Ai (OL.mk (rest := R2) finl (by rw [← finl]; exact hroom) ?_ ?_) (Ai (p1.trans p2).chg (fun _ h => .inl h))
  ·have := p2.blk
   rw [← fin]
   simpa using this
  ·rw [← fin]
   rw [hsp] at hbl
   simp only [List.length_append, zi, zd, xl, hR1] at hbl ⊢
   omega
set_option maxHeartbeats 1000000 in
/-- slices.Delete of one item. -/
theorem delR_calls {h : Heap} {v : Value} {l : List Rank} {i : Nat} (ho : OL encR 2 h v l) (hl : l.length ≤ 80000) (hi : i < l.length) :
  CallsH Tryz.prog 261 [v, .int .i64 i, .int .i64 (i + 1 : Nat)] h
   (Ret fun r h' => OL encR 2 h' r (l.take i ++ l.drop (i + 1)) ∧ Chg (vblk v) h h' ∧ ∀ b ∈ vblk r, b ∈ vblk v) := by
 obtain ⟨a, c, rfl, hlc⟩ := ho.form
 refine f261_calls (by simp) ?_
 obtain ⟨_, hopen⟩ := ho.open
 rcases hopen with ⟨_, e, _⟩ | ⟨b, rfl, _, rest, B, hbl⟩
 ·rw [e] at hi; exact absurd hi (by simp)
 refine Ai (by omega) (Ai (by omega) (Ai (by omega) (Ai (by omega) ?_)))
 intro o0 _ _
 refine Ai rfl (Ai (fun e => absurd e (by omega)) (fun _ => ?_))
 have zi := take_len encR_len l i (by omega)
 have zd := drop_len encR_len l (i + 1)
 have hcons : l.drop i = l[i] :: l.drop (i + 1) := List.drop_eq_getElem_cons hi
 have hsp := split_at (enc := encR) l i
 rw [hcons, List.flatMap_cons] at hsp
 have xl := encR_len l[i]
 have B0 : Blk h b ((l.take i).flatMap encR ++ (encR l[i] ++ ((l.drop (i + 1)).flatMap encR ++ rest))) := by
  rw [hsp] at B; simpa using B
 -- s[:i]
 refine Ai (by omega) (Ai (by omega) (Ai (by omega) ?_))
 intro o1 ho1 ho1'
 have eo1 : o1 = 0 := by
  have := ho1 (by omega)
  simpa using this
 subst eo1
 refine Ai (by omega) (Ai (by omega) (Ai (by omega) ?_))
 intro o2 ho2 ho2'
 have t1 : ((i : Int) - ((0 : Nat) : Int)).toNat = i := by omega
 have t2 : ((c : Int) - ((0 : Nat) : Int)).toNat = c := by omega
 have t3 : ((l.length : Int) - ((i + 1 : Nat) : Int)).toNat = l.length - (i + 1) := by omega
 rw [t1, t2, t3]
 have hfit : i + (l.length - (i + 1)) ≤ c := by omega
 -- the end of the part behind, cut anew
 obtain ⟨D1, D2, hD, hD1, hD2⟩ : ∃ D1 D2, encR l[i] ++ (l.drop (i + 1)).flatMap encR = D1 ++ D2 ∧ D1.length = (l.length - (i + 1)) * 2 ∧ D2.length = 2 := by
  refine ⟨(encR l[i] ++ (l.drop (i + 1)).flatMap encR).take ((l.length - (i + 1)) * 2), (encR l[i] ++ (l.drop (i + 1)).flatMap encR).drop ((l.length - (i + 1)) * 2), (List.take_append_drop _ _).symm, ?_, ?_⟩
  ·rw [List.length_take, List.length_append, xl, zd]; omega
  ·rw [List.length_drop, List.length_append, xl, zd]; omega
 have fin : (l.take i).flatMap encR ++ (l.drop (i + 1)).flatMap encR = (l.take i ++ l.drop (i + 1)).flatMap encR := by simp
 have finl : i + (l.length - (i + 1)) = (l.take i ++ l.drop (i + 1)).length := by simp; omega
 have hY : Src h (some ⟨b, o2, none⟩) (l.length - (i + 1)) ((l.drop (i + 1)).flatMap encR) := by
  by_cases hlt : i + 1 < c
  ·have := ho2 (by omega)
   refine src_of ((l.take i).flatMap encR ++ encR l[i]) _ rest (by simpa using B0) ?_
   rw [List.length_append, zi, xl]; omega
  ·have : l.drop (i + 1) = [] := by apply List.drop_eq_nil_of_le; omega
   rw [this]
   intro j u hj
   simp at hj
 refine ⟨(l.take i).flatMap encR, (l.drop (i + 1)).flatMap encR, zi, zd, src_of [] _ _ B0 rfl, hY, enc_ones encR_one _, fun _ => ?_, fun hlt => absurd hlt (by omega)⟩
 have bl : ((l.take i).flatMap encR ++ (D1 ++ (D2 ++ rest))).length = c * 2 := by
  rw [hsp] at hbl
  have := congrArg List.length hD
  simp only [List.length_append] at hbl this ⊢
  omega
 refine ⟨(l.take i).flatMap encR ++ (D1 ++ (D2 ++ rest)), ?_, ?_, ?_⟩
 ·rw [← List.append_assoc D1, ← hD, List.append_assoc]; exact B0
 ·rw [bl]
  have : (i + (l.length - (i + 1))) * 2 ≤ c * 2 := Nat.mul_le_mul_right _ hfit
  omega
 intro h1 p1
 have e1 : splice ((l.take i).flatMap encR ++ (D1 ++ (D2 ++ rest))) (0 + i * 2) ((l.drop (i + 1)).flatMap encR) = (l.take i).flatMap encR ++ ((l.drop (i + 1)).flatMap encR ++ (D2 ++ rest)) := by
  rw [Nat.zero_add, ← zi]
  exact splice_at _ _ _ _ (by rw [zd, hD1])
 rw [e1] at p1
 -- clear
 refine Ai (by omega) (Ai (by omega) (Ai (by omega) ?_))
 intro o3 ho3 ho3'
 have t4 : ((l.length : Int) - ((i + (l.length - (i + 1)) : Nat) : Int)).toNat = 1 := by omega
 rw [t4]
 have eo3 : o3 = (l.length - 1) * 2 := by
  have := ho3 (by omega)
  omega
 refine wr_at ((l.take i).flatMap encR ++ (l.drop (i + 1)).flatMap encR) D2 rest (by simpa using p1.blk) ?_ (by simp [hD2]) (by decide) ?_
 ·rw [List.length_append, zi, zd, eo3]; omega
 intro h2 p2
 have p2' := p2.blk
 refine Ai (OL.mk (rest := (List.replicate 1 ([.string ⟨#[]⟩, .int .i64 0] : List Value)).flatten ++ rest) finl (by rw [← finl]; exact hfit) ?_ ?_) (Ai (p1.trans p2).chg (fun _ h => h))
 ·rw [← fin]; exact p2'
 ·rw [← fin]
  rw [hsp] at hbl
  simp only [List.length_append] at hbl ⊢
  simp only [zi, zd, xl] at hbl ⊢
  simp
  omega
theorem compareBytes_zero : ∀ a b : List UInt8, (Lib.compareBytes a b = 0 ↔ a = b)
 |[], [] => by simp [Lib.compareBytes]
 |[], _ :: _ => by simp [Lib.compareBytes]
 |_ :: _, [] => by simp [Lib.compareBytes]
 |x :: a, y :: b => by
  have ih := compareBytes_zero a b
  simp only [Lib.compareBytes, UInt8.lt_iff_toNat_lt]
  by_cases h1 : x.toNat < y.toNat
  ·rw [if_pos h1]
   constructor
   ·intro h; omega
   ·intro h; injection h with h2 _; subst h2; omega
  ·rw [if_neg h1]
   by_cases h2 : y.toNat < x.toNat
   ·rw [if_pos h2]
    constructor
    ·intro h; omega
    ·intro h; injection h with h3 _; subst h3; omega
   ·rw [if_neg h2, ih]
    have : x = y := UInt8.toNat_inj.1 (by omega)
    constructor
    ·intro h; rw [this, h]
    ·intro h; injection h
theorem cmpB_zero (a b : ByteArray) : cmpB a b = 0 ↔ a = b := by
 unfold cmpB
 rw [compareBytes_zero]
 constructor
 ·intro h
  cases a; cases b; simp_all
 ·intro h; rw [h]
theorem wrapU {x : Int} (h0 : 0 ≤ x) (h1 : x < 18446744073709551616) : IntKind.u64.wrap x = x := by
 have e : IntKind.u64.wrap x = x % 18446744073709551616 := by simp [IntKind.wrap, IntKind.bits, IntKind.signed]
 rw [e]; omega
structure CutAt {α : Type} (lo : α → Bool) (l : List α) (k : Nat) : Prop where
 le : k ≤ l.length
 low : ∀ i (_ : i < k) (h : i < l.length), lo l[i] = true
 high : ∀ i (_ : k ≤ i) (h : i < l.length), lo l[i] = false
def CmpS (g : Nat) (tgt cap : List Value) (lo eq : ByteArray → Bool) (h : Heap) : Prop := ∀ h' x, Chg [] h h' → CallsH Tryz.prog g (.string x :: (tgt ++ cap)) h' (Ret fun u h'' => (∃ z, u = .int .i64 z ∧ (z < 0 ↔ lo x = true) ∧ (z = 0 ↔ eq x = true)) ∧ Chg [] h' h'')
theorem bsS_calls {h : Heap} {v : Value} {l : List ByteArray} {g : Nat} {cap : List Value} {tgt : ByteArray} {lo eq : ByteArray → Bool} (hv : SL encS h v l) (hl : l.length < 4611686018427387904) (hg : CmpS g [.string tgt] cap lo eq h)
  (hm : ∀ i j (hj : j < l.length) (hi : i ≤ j), lo l[j] = true → lo (l[i]'(by omega)) = true) :
  CallsH Tryz.prog 285 [v, .string tgt, .func (.func g) #[] ⟨cap⟩] h
   (Ret fun r h' => (∃ k, r = .tuple #[.int .i64 (k : Nat), .bool ((l[k]?).any eq)] ∧ CutAt lo l k) ∧ Chg [] h h') := by
 obtain ⟨a, c, rfl, hlc⟩ := hv.form
 refine f285_calls (by simp) ?_
 have hv0 := hv
 have hc0 : Chg [] h h := Chg.refl h
 refine loop_intro (fun p : Nat × Nat => [(0, .slice a l.length c), (1, .string tgt), (2, .func (.func g) #[] ⟨cap⟩), (8, .int .i64 l.length), (9, .int .i64 p.1), (10, .int .i64 p.2)])
  (fun p h' => p.1 ≤ p.2 ∧ p.2 ≤ l.length ∧ Chg [] h h' ∧ (∀ i (_ : i < p.1) (h : i < l.length), lo l[i] = true) ∧ (∀ i (_ : p.2 ≤ i) (h : i < l.length), lo l[i] = false)) (fun p => p.2 - p.1) (0, l.length)
  ⟨rfl, rfl, rfl, rfl, rfl, rfl, trivial⟩ ⟨Nat.zero_le _, Nat.le_refl _, Chg.refl h, by intro i hi; omega, by intro i hi hh; omega⟩ ?_
 rintro ⟨i, j⟩ h1 ⟨hij, hjl, hc, hlow, hhigh⟩
 simp only at hij hjl hlow hhigh
 refine Ai rfl (Ai (fun hlt => ?_) (fun hlt => ?_))
 ·have hlt : i < j := by omega
  refine Ai rfl (fun z hz => ?_)
  have hz := add_in hz (by omega) (by omega)
  subst hz
  intro z hz
  rw [wrapU (by omega) (by omega)] at hz
  subst hz
  refine Ai rfl (fun z hz => ?_)
  have hz : z = ((i : Int) + j) / 2 := by
   have : z = ((i : Int) + j).fdiv (2 ^ 1) := hz
   rw [this, Int.fdiv_eq_ediv_of_nonneg _ (by decide)]
   rfl
  subst hz
  intro z hz
  rw [wrap_in (by omega) (by omega)] at hz
  obtain ⟨m, hm1⟩ : ∃ m : Nat, m = (i + j) / 2 := ⟨_, rfl⟩
  have hz : z = (m : Int) := by omega
  subst hz
  have him : i ≤ m := by omega
  have hmj : m < j := by omega
  have hml : m < l.length := by omega
  have hvx := hv0.ext hc
  obtain ⟨b, o, rfl⟩ := hvx.addr (by omega)
  have hcs := hvx.cells encS_len (i := m) (x := l[m]) (by simp [hml])
  refine Ai (by omega) (Ai (by omega) (Ei _ (Ai (hcs 0 _ rfl) ?_)))
  refine call_ret (hg h1 l[m] (hc0.nil hc)) ?_
  rintro _ h2 ⟨⟨z, rfl, hzn, _⟩, hc2⟩
  refine Ai rfl (Ai (fun hneg => ?_) (fun hneg => ?_))
  ·have hb : lo l[m] = true := hzn.1 hneg
   refine Ai rfl (fun y hy => ?_)
   have hy := add_in hy (by omega) (by omega)
   have hy : y = ((m + 1 : Nat) : Int) := by omega
   subst hy
   refine Ai rfl (Ei (m + 1, j) (Ai ?_ (Ai ?_ ?_)))
   ·exact ⟨rfl, rfl, rfl, rfl, rfl, rfl, trivial⟩
   ·refine ⟨by simp only; omega, hjl, hc.nil hc2, fun q hq hql => ?_, hhigh⟩
    exact hm q m hml (by simp only at hq; omega) hb
   ·simp only; omega
  ·have hb : lo l[m] = false := by
    cases hbb : lo l[m] with
    |false => rfl
    |true => exact absurd (hzn.2 hbb) hneg
   refine Ai rfl (Ei (i, m) (Ai ?_ (Ai ?_ ?_)))
   ·exact ⟨rfl, rfl, rfl, rfl, rfl, rfl, trivial⟩
   ·refine ⟨him, by simp only; omega, hc.nil hc2, hlow, fun q hq hql => ?_⟩
    cases hbb : lo l[q] with
    |false => rfl
    |true =>
     have := hm m q hql hq hbb
     rw [hb] at this; cases this
   ·simp only; omega
 ·have e : i = j := by omega
  subst e
  have cut : CutAt lo l i := ⟨hjl, hlow, hhigh⟩
  refine Ai rfl (Ai (fun hin => ?_) (fun hin => ?_))
  ·have hin : i < l.length := by omega
   have hvx := hv0.ext hc
   obtain ⟨b, o, rfl⟩ := hvx.addr (by omega)
   have hcs := hvx.cells encS_len (i := i) (x := l[i]) (by simp [hin])
   refine Ai (by omega) (Ai (by omega) (Ei _ (Ai (hcs 0 _ rfl) ?_)))
   refine call_ret (hg h1 l[i] (hc0.nil hc)) ?_
   rintro _ h2 ⟨⟨z, rfl, _, hz0⟩, hc2⟩
   have hget : l[i]? = some l[i] := List.getElem?_eq_getElem hin
   refine Ai rfl (Ai (fun he => ?_) (fun he => ?_))
   ·refine Ai (Ei i (Ai ?_ cut)) ((hc0.nil hc).nil hc2)
    rw [hget]
    show Value.tuple _ = Value.tuple #[_, .bool (eq l[i])]
    rw [hz0.1 he]; rfl
   ·refine Ai (Ei i (Ai ?_ cut)) ((hc0.nil hc).nil hc2)
    rw [hget]
    show Value.tuple _ = Value.tuple #[_, .bool (eq l[i])]
    have : eq l[i] = false := by
     cases hbb : eq l[i] with
     |false => rfl
     |true => exact absurd (hz0.2 hbb) he
    rw [this]; rfl
  ·have hin : i = l.length := by omega
   refine Ai (Ei i (Ai ?_ cut)) (hc0.nil hc)
   rw [List.getElem?_eq_none (by omega)]
   rfl
def CmpP (g : Nat) (tgt cap : List Value) (lo eq : Pair → Bool) (h : Heap) : Prop := ∀ h' x, Chg [] h h' → CallsH Tryz.prog g (.agg ⟨encP x⟩ :: (tgt ++ cap)) h' (Ret fun u h'' => (∃ z, u = .int .i64 z ∧ (z < 0 ↔ lo x = true) ∧ (z = 0 ↔ eq x = true)) ∧ Chg [] h' h'')
theorem bsP_calls {h : Heap} {v : Value} {l : List Pair} {g : Nat} {cap : List Value} {tgt : ByteArray} {lo eq : Pair → Bool} (hv : SL encP h v l) (hl : l.length < 4611686018427387904) (hg : CmpP g [.string tgt] cap lo eq h)
  (hm : ∀ i j (hj : j < l.length) (hi : i ≤ j), lo l[j] = true → lo (l[i]'(by omega)) = true) :
  CallsH Tryz.prog 280 [v, .string tgt, .func (.func g) #[] ⟨cap⟩] h
   (Ret fun r h' => (∃ k, r = .tuple #[.int .i64 (k : Nat), .bool ((l[k]?).any eq)] ∧ CutAt lo l k) ∧ Chg [] h h') := by
 obtain ⟨a, c, rfl, hlc⟩ := hv.form
 refine f280_calls (by simp) ?_
 have hv0 := hv
 have hc0 : Chg [] h h := Chg.refl h
 refine loop_intro (fun p : Nat × Nat => [(0, .slice a l.length c), (1, .string tgt), (2, .func (.func g) #[] ⟨cap⟩), (8, .int .i64 l.length), (9, .int .i64 p.1), (10, .int .i64 p.2)])
  (fun p h' => p.1 ≤ p.2 ∧ p.2 ≤ l.length ∧ Chg [] h h' ∧ (∀ i (_ : i < p.1) (h : i < l.length), lo l[i] = true) ∧ (∀ i (_ : p.2 ≤ i) (h : i < l.length), lo l[i] = false)) (fun p => p.2 - p.1) (0, l.length)
  ⟨rfl, rfl, rfl, rfl, rfl, rfl, trivial⟩ ⟨Nat.zero_le _, Nat.le_refl _, Chg.refl h, by intro i hi; omega, by intro i hi hh; omega⟩ ?_
 rintro ⟨i, j⟩ h1 ⟨hij, hjl, hc, hlow, hhigh⟩
 simp only at hij hjl hlow hhigh
 refine Ai rfl (Ai (fun hlt => ?_) (fun hlt => ?_))
 ·have hlt : i < j := by omega
  refine Ai rfl (fun z hz => ?_)
  have hz := add_in hz (by omega) (by omega)
  subst hz
  intro z hz
  rw [wrapU (by omega) (by omega)] at hz
  subst hz
  refine Ai rfl (fun z hz => ?_)
  have hz : z = ((i : Int) + j) / 2 := by
   have : z = ((i : Int) + j).fdiv (2 ^ 1) := hz
   rw [this, Int.fdiv_eq_ediv_of_nonneg _ (by decide)]
   rfl
  subst hz
  intro z hz
  rw [wrap_in (by omega) (by omega)] at hz
  obtain ⟨m, hm1⟩ : ∃ m : Nat, m = (i + j) / 2 := ⟨_, rfl⟩
  have hz : z = (m : Int) := by omega
  subst hz
  have him : i ≤ m := by omega
  have hmj : m < j := by omega
  have hml : m < l.length := by omega
  have hvx := hv0.ext hc
  obtain ⟨b, o, rfl⟩ := hvx.addr (by omega)
  have hcs := hvx.cells encP_len (i := m) (x := l[m]) (by simp [hml])
  refine Ai (by omega) (Ai (by omega) (Ei (encP l[m]) (Ai rfl (Ai hcs ?_))))
  refine call_ret (hg h1 l[m] (hc0.nil hc)) ?_
  rintro _ h2 ⟨⟨z, rfl, hzn, _⟩, hc2⟩
  refine Ai rfl (Ai (fun hneg => ?_) (fun hneg => ?_))
  ·have hb : lo l[m] = true := hzn.1 hneg
   refine Ai rfl (fun y hy => ?_)
   have hy := add_in hy (by omega) (by omega)
   have hy : y = ((m + 1 : Nat) : Int) := by omega
   subst hy
   refine Ai rfl (Ei (m + 1, j) (Ai ?_ (Ai ?_ ?_)))
   ·exact ⟨rfl, rfl, rfl, rfl, rfl, rfl, trivial⟩
   ·refine ⟨by simp only; omega, hjl, hc.nil hc2, fun q hq hql => ?_, hhigh⟩
    exact hm q m hml (by simp only at hq; omega) hb
   ·simp only; omega
  ·have hb : lo l[m] = false := by
    cases hbb : lo l[m] with
    |false => rfl
    |true => exact absurd (hzn.2 hbb) hneg
   refine Ai rfl (Ei (i, m) (Ai ?_ (Ai ?_ ?_)))
   ·exact ⟨rfl, rfl, rfl, rfl, rfl, rfl, trivial⟩
   ·refine ⟨him, by simp only; omega, hc.nil hc2, hlow, fun q hq hql => ?_⟩
    cases hbb : lo l[q] with
    |false => rfl
    |true =>
     have := hm m q hql hq hbb
     rw [hb] at this; cases this
   ·simp only; omega
 ·have e : i = j := by omega
  subst e
  have cut : CutAt lo l i := ⟨hjl, hlow, hhigh⟩
  refine Ai rfl (Ai (fun hin => ?_) (fun hin => ?_))
  ·have hin : i < l.length := by omega
   have hvx := hv0.ext hc
   obtain ⟨b, o, rfl⟩ := hvx.addr (by omega)
   have hcs := hvx.cells encP_len (i := i) (x := l[i]) (by simp [hin])
   refine Ai (by omega) (Ai (by omega) (Ei (encP l[i]) (Ai rfl (Ai hcs ?_))))
   refine call_ret (hg h1 l[i] (hc0.nil hc)) ?_
   rintro _ h2 ⟨⟨z, rfl, _, hz0⟩, hc2⟩
   have hget : l[i]? = some l[i] := List.getElem?_eq_getElem hin
   refine Ai rfl (Ai (fun he => ?_) (fun he => ?_))
   ·refine Ai (Ei i (Ai ?_ cut)) ((hc0.nil hc).nil hc2)
    rw [hget]
    show Value.tuple _ = Value.tuple #[_, .bool (eq l[i])]
    rw [hz0.1 he]; rfl
   ·refine Ai (Ei i (Ai ?_ cut)) ((hc0.nil hc).nil hc2)
    rw [hget]
    show Value.tuple _ = Value.tuple #[_, .bool (eq l[i])]
    have : eq l[i] = false := by
     cases hbb : eq l[i] with
     |false => rfl
     |true => exact absurd (hz0.2 hbb) he
    rw [this]; rfl
  ·have hin : i = l.length := by omega
   refine Ai (Ei i (Ai ?_ cut)) (hc0.nil hc)
   rw [List.getElem?_eq_none (by omega)]
   rfl
def CmpR (g : Nat) (tgt cap : List Value) (lo : Rank → Bool) (h : Heap) : Prop := ∀ h' x, Chg [] h h' → CallsH Tryz.prog g (.agg ⟨encR x⟩ :: (tgt ++ cap)) h' (Ret fun u h'' => (∃ z, u = .int .i64 z ∧ (z < 0 ↔ lo x = true)) ∧ Chg [] h' h'')
theorem bsR_calls {h : Heap} {v : Value} {l : List Rank} {g : Nat} {cap : List Value} {tgt : Rank} {lo : Rank → Bool} (hv : SL encR h v l) (hl : l.length < 4611686018427387904) (hg : CmpR g [.agg ⟨encR tgt⟩] cap lo h)
  (hm : ∀ i j (hj : j < l.length) (hi : i ≤ j), lo l[j] = true → lo (l[i]'(by omega)) = true) :
  CallsH Tryz.prog 257 [v, .agg ⟨encR tgt⟩, .func (.func g) #[] ⟨cap⟩] h
   (Ret fun r h' => (∃ k f, r = .tuple #[.int .i64 (k : Nat), .bool f] ∧ CutAt lo l k) ∧ Chg [] h h') := by
 obtain ⟨a, c, rfl, hlc⟩ := hv.form
 refine f257_calls (by simp) ?_
 intro b4 h0 g0
 have hc0 := g0.chg
 have hv0 := hv.ext hc0
 have B4 : Blk h0 b4 (encR tgt) := g0.blk
 refine loop_intro (fun p : Nat × Nat => [(0, .slice a l.length c), (4, .pointer (some ⟨b4, 0, none⟩)), (2, .func (.func g) #[] ⟨cap⟩), (8, .int .i64 l.length), (9, .int .i64 p.1), (10, .int .i64 p.2)])
  (fun p h' => p.1 ≤ p.2 ∧ p.2 ≤ l.length ∧ Chg [] h0 h' ∧ (∀ i (_ : i < p.1) (h : i < l.length), lo l[i] = true) ∧ (∀ i (_ : p.2 ≤ i) (h : i < l.length), lo l[i] = false)) (fun p => p.2 - p.1) (0, l.length)
  ⟨rfl, rfl, rfl, rfl, rfl, rfl, trivial⟩ ⟨Nat.zero_le _, Nat.le_refl _, Chg.refl h0, by intro i hi; omega, by intro i hi hh; omega⟩ ?_
 rintro ⟨i, j⟩ h1 ⟨hij, hjl, hc, hlow, hhigh⟩
 simp only at hij hjl hlow hhigh
 refine Ai rfl (Ai (fun hlt => ?_) (fun hlt => ?_))
 ·have hlt : i < j := by omega
  refine Ai rfl (fun z hz => ?_)
  have hz := add_in hz (by omega) (by omega)
  subst hz
  intro z hz
  rw [wrapU (by omega) (by omega)] at hz
  subst hz
  refine Ai rfl (fun z hz => ?_)
  have hz : z = ((i : Int) + j) / 2 := by
   have : z = ((i : Int) + j).fdiv (2 ^ 1) := hz
   rw [this, Int.fdiv_eq_ediv_of_nonneg _ (by decide)]
   rfl
  subst hz
  intro z hz
  rw [wrap_in (by omega) (by omega)] at hz
  obtain ⟨m, hm1⟩ : ∃ m : Nat, m = (i + j) / 2 := ⟨_, rfl⟩
  have hz : z = (m : Int) := by omega
  subst hz
  have him : i ≤ m := by omega
  have hmj : m < j := by omega
  have hml : m < l.length := by omega
  have hvx := hv0.ext hc
  obtain ⟨b, o, rfl⟩ := hvx.addr (by omega)
  have hcs := hvx.cells encR_len (i := m) (x := l[m]) (by simp [hml])
  refine Ai (by omega) (Ai (by omega) (Ei (encR l[m]) (Ai rfl (Ai hcs ?_))))
  refine Ei (encR tgt) (Ai rfl (Ai (cells_blk (B4.chg hc (by simp))) ?_))
  refine call_ret (hg h1 l[m] (hc0.nil hc)) ?_
  rintro _ h2 ⟨⟨z, rfl, hzn⟩, hc2⟩
  refine Ai rfl (Ai (fun hneg => ?_) (fun hneg => ?_))
  ·have hb : lo l[m] = true := hzn.1 hneg
   refine Ai rfl (fun y hy => ?_)
   have hy := add_in hy (by omega) (by omega)
   have hy : y = ((m + 1 : Nat) : Int) := by omega
   subst hy
   refine Ai rfl (Ei (m + 1, j) (Ai ?_ (Ai ?_ ?_)))
   ·exact ⟨rfl, rfl, rfl, rfl, rfl, rfl, trivial⟩
   ·refine ⟨by simp only; omega, hjl, hc.nil hc2, fun q hq hql => ?_, hhigh⟩
    exact hm q m hml (by simp only at hq; omega) hb
   ·simp only; omega
  ·have hb : lo l[m] = false := by
    cases hbb : lo l[m] with
    |false => rfl
    |true => exact absurd (hzn.2 hbb) hneg
   refine Ai rfl (Ei (i, m) (Ai ?_ (Ai ?_ ?_)))
   ·exact ⟨rfl, rfl, rfl, rfl, rfl, rfl, trivial⟩
   ·refine ⟨him, by simp only; omega, hc.nil hc2, hlow, fun q hq hql => ?_⟩
    cases hbb : lo l[q] with
    |false => rfl
    |true =>
     have := hm m q hql hq hbb
     rw [hb] at this; cases this
   ·simp only; omega
 ·have e : i = j := by omega
  subst e
  have cut : CutAt lo l i := ⟨hjl, hlow, hhigh⟩
  refine Ai rfl (Ai (fun hin => ?_) (fun hin => ?_))
  ·have hin : i < l.length := by omega
   have hvx := hv0.ext hc
   obtain ⟨b, o, rfl⟩ := hvx.addr (by omega)
   have hcs := hvx.cells encR_len (i := i) (x := l[i]) (by simp [hin])
   refine Ai (by omega) (Ai (by omega) (Ei (encR l[i]) (Ai rfl (Ai hcs ?_))))
   refine Ei (encR tgt) (Ai rfl (Ai (cells_blk (B4.chg hc (by simp))) ?_))
   refine call_ret (hg h1 l[i] (hc0.nil hc)) ?_
   rintro _ h2 ⟨⟨z, rfl, _⟩, hc2⟩
   refine Ai rfl (Ai (fun he => ?_) (fun he => ?_))
   ·exact Ai (Ei i (Ei true (Ai rfl cut))) ((hc0.nil hc).nil hc2)
   ·exact Ai (Ei i (Ei false (Ai rfl cut))) ((hc0.nil hc).nil hc2)
  ·have hin : i = l.length := by omega
   exact Ai (Ei i (Ei false (Ai rfl cut))) (hc0.nil hc)
theorem itself_calls {h : Heap} (s : ByteArray) : CallsH Tryz.prog 255 [.string s] h (Ret fun u h' => u = .string s ∧ h' = h) := by
 refine f255_calls (by simp) ?_
 exact Ai rfl rfl
theorem pairName_calls {h : Heap} (p : Pair) : CallsH Tryz.prog 249 [.agg ⟨encP p⟩] h (Ret fun u h' => u = .string p.name ∧ Chg [] h h') := by
 refine f249_calls (by simp) ?_
 intro b1 h1 g1
 have B1 : Blk h1 b1 (encP p) := g1.blk
 refine Ei _ (Ai (cell_blk B1 rfl) ?_)
 exact Ai rfl g1.chg
theorem bynS_calls {h : Heap} {v : Value} {l : List ByteArray} (name : ByteArray) (hv : SL encS h v l) (hl : l.length < 4611686018427387904) (hs : l.Pairwise fun a b => sless a b = true) :
  CallsH Tryz.prog 254 [v, .func (.func 255) #[] #[], .string name] h
   (Ret fun r h' => (∃ k, r = .tuple #[.int .i64 (k : Nat), .bool ((l[k]?).any fun x => decide (x = name))] ∧ CutAt (fun x => sless x name) l k) ∧ Chg [] h h') := by
 refine f254_calls (by simp) ?_
 intro b4 h1 g1
 have B4 : Blk h1 b4 [.func (.func 255) #[] #[]] := g1.blk
 refine call_ret (bsS_calls (g := 286) (cap := [ptr b4]) (lo := fun x => sless x name) (eq := fun x => decide (x = name)) (hv.ext g1.chg) hl ?_ ?_) ?_
 ·intro h2 x hc2
  refine f286_calls (by simp) ?_
  refine Ei _ (Ai (cell_blk (B4.chg hc2 (by simp)) rfl) ?_)
  refine call_ret (itself_calls x) ?_
  rintro _ h3 ⟨rfl, rfl⟩
  refine call_ret (cmpS_calls x name) ?_
  rintro _ h4 ⟨rfl, rfl⟩
  exact Ai (Ei _ (Ai rfl (Ai (cmpB_neg _ _) (by rw [cmpB_zero]; simp)))) (Chg.refl _)
 ·intro i j hj hi hlo
  rcases Nat.lt_or_eq_of_le hi with hlt | rfl
  ·exact sless_trans (List.pairwise_iff_getElem.1 hs i j (by omega) hj hlt) hlo
  ·exact hlo
 ·rintro _ h2 ⟨⟨k, rfl, hk⟩, hc2⟩
  exact Ai (Ei k (Ai rfl hk)) (g1.chg.nil hc2)
theorem bynP_calls {h : Heap} {v : Value} {l : List Pair} (name : ByteArray) (hv : SL encP h v l) (hl : l.length < 4611686018427387904) (hs : l.Pairwise fun a b => sless a.name b.name = true) :
  CallsH Tryz.prog 248 [v, .func (.func 249) #[] #[], .string name] h
   (Ret fun r h' => (∃ k, r = .tuple #[.int .i64 (k : Nat), .bool ((l[k]?).any fun x => decide (x.name = name))] ∧ CutAt (fun x => sless x.name name) l k) ∧ Chg [] h h') := by
 refine f248_calls (by simp) ?_
 intro b4 h1 g1
 have B4 : Blk h1 b4 [.func (.func 249) #[] #[]] := g1.blk
 refine call_ret (bsP_calls (g := 281) (cap := [ptr b4]) (lo := fun x => sless x.name name) (eq := fun x => decide (x.name = name)) (hv.ext g1.chg) hl ?_ ?_) ?_
 ·intro h2 x hc2
  refine f281_calls (by simp) ?_
  intro b3 h3 g3
  have B3 : Blk h3 b3 (encP x) := g3.blk
  have B43 := (B4.chg hc2 (by simp)).chg g3.chg (by simp)
  refine Ei _ (Ai (cell_blk B43 rfl) ?_)
  refine Ei (encP x) (Ai rfl (Ai (cells_blk B3) ?_))
  refine call_ret (pairName_calls x) ?_
  rintro _ h4 ⟨rfl, hc4⟩
  refine call_ret (cmpS_calls x.name name) ?_
  rintro _ h5 ⟨rfl, rfl⟩
  exact Ai (Ei _ (Ai rfl (Ai (cmpB_neg _ _) (by rw [cmpB_zero]; simp)))) (g3.chg.nil hc4)
 ·intro i j hj hi hlo
  rcases Nat.lt_or_eq_of_le hi with hlt | rfl
  ·exact sless_trans (List.pairwise_iff_getElem.1 hs i j (by omega) hj hlt) hlo
  ·exact hlo
 ·rintro _ h2 ⟨⟨k, rfl, hk⟩, hc2⟩
  exact Ai (Ei k (Ai rfl hk)) (g1.chg.nil hc2)
theorem ixfR_calls {h : Heap} {v : Value} {l : List Rank} {g : Nat} {cap : List Value} {p : Rank → Bool} (hv : SL encR h v l) (hl : l.length < 4611686018427387904)
  (hg : ∀ h' x, Chg [] h h' → CallsH Tryz.prog g (.agg ⟨encR x⟩ :: cap) h' (Ret fun u h'' => u = .bool (p x) ∧ Chg [] h' h'')) :
  CallsH Tryz.prog 259 [v, .func (.func g) #[] ⟨cap⟩] h
   (Ret fun r h' => ((∃ (k : Nat) (hk : k < l.length), r = .int .i64 k ∧ p l[k] = true) ∨ (r = .int .i64 (-1) ∧ ∀ x ∈ l, p x = false)) ∧ Chg [] h h') := by
 obtain ⟨a, c, rfl, hlc⟩ := hv.form
 refine f259_calls (by simp) ?_
 refine loop_intro (fun k : Nat => [(0, .slice a l.length c), (1, .func (.func g) #[] ⟨cap⟩), (7, .int .i64 l.length), (8, .int .i64 k)]) (fun k h' => k ≤ l.length ∧ Chg [] h h' ∧ ∀ x ∈ l.take k, p x = false) (fun k => l.length - k) 0
  ⟨rfl, rfl, rfl, rfl, trivial⟩ ⟨Nat.zero_le _, Chg.refl h, by simp⟩ ?_
 rintro k h1 ⟨hk, hc, hall⟩
 refine Ai rfl (Ai (fun hlt => ?_) (fun hlt => ?_))
 ·have hlt : k < l.length := by omega
  have hv1 := hv.ext hc
  obtain ⟨b, o, rfl⟩ := hv1.addr (by omega)
  have hcs := hv1.cells encR_len (i := k) (x := l[k]) (by simp [hlt])
  refine Ai (by omega) (Ai (by omega) (Ei (encR l[k]) (Ai rfl (Ai hcs ?_))))
  refine call_ret (hg h1 l[k] hc) ?_
  rintro _ h2 ⟨rfl, hc2⟩
  cases hp : p l[k] with
  |true => exact Ai (.inl ⟨k, hlt, rfl, hp⟩) (hc.nil hc2)
  |false =>
   refine Ai rfl (fun y hy => ?_)
   have hy := add_in hy (by omega) (by omega)
   subst hy
   refine Ai rfl (Ei (k + 1) (Ai ?_ (Ai ?_ ?_)))
   ·exact ⟨rfl, rfl, rfl, rfl, trivial⟩
   ·refine ⟨by omega, hc.nil hc2, fun x hx => ?_⟩
    rw [take_snoc l k hlt] at hx
    rcases List.mem_append.1 hx with hx | hx
    ·exact hall x hx
    ·simp at hx; rw [hx]; exact hp
   ·omega
 ·have hkl : k = l.length := by omega
  subst hkl
  rw [List.take_length] at hall
  exact Ai (.inr ⟨rfl, hall⟩) hc
end Go.Proofs.YtjnijlnmbjjgpaaGreatDoor
namespace Go.Proofs.YtjnijlnmbjjgpaaGreatDoor
open Go Go.Sx
structure RX where
 key : ByteArray
 thing : Thing
 vs : List Value
 len : vs.length = 7
 one : ∀ u ∈ vs, u.oneCell' = true
def encX (x : RX) : List Value := .string x.key :: x.vs
theorem encX_len (x : RX) : (encX x).length = 8 := by simp [encX, x.len]
def GX (h : Heap) (l : List RX) : Prop := ∀ x ∈ l, TH h x.vs x.thing
theorem GX.ext {h h' : Heap} {l : List RX} (g : GX h l) (hc : Chg [] h h') : GX h' l := fun x hx => (g x hx).ext hc
theorem sless_ne {a b : ByteArray} (h : sless a b = true) : a ≠ b := by
 intro e; subst e; rw [sless_irrefl] at h; cases h
end Go.Proofs.YtjnijlnmbjjgpaaGreatDoor
namespace Go.Proofs.YtjnijlnmbjjgpaaGreatDoor
open Go Go.Sx C
theorem cells_vs {h : Heap} {b o : Nat} {x : RX} (hc : Cells h b o (encX x)) : Cells h b (o + 1) x.vs := fun i v hv => by
 have := hc (i + 1) v hv
 rw [show o + 1 + i = o + (i + 1) by omega]; exact this
theorem swp_seq {P : Program} {a b : SCode} {Q : Post} {σ : Env} {ds : List Deferred} {h : Heap} (hs : swp P a (thenQ (swp P b Q) Q) σ ds h) : swp P (.seq a b) Q σ ds h := hs
def goneT (t : Thing) (now : Int) : Bool := t.hasU && decide (t.unt ≤ now)
structure KI where
 key : ByteArray
 tb : Nat
 vs : List Value
 thing : Thing
 born : Nat
def KI.ent (i : KI) : MapEntry := { key := .string i.key, val := ptr i.tb, born := i.born }
def KI.pr (i : KI) : ByteArray × Thing := (i.key, i.thing)
structure KR (h : Heap) (kb sb mb c : Nat) (m : List KI) : Prop where
 ks : KS h kb sb mb
 map : MapB h mb (m.map KI.ent) c
 here : ∀ i ∈ m, Blk h i.tb i.vs ∧ TH h i.vs i.thing ∧ Lens i.thing
 nodup : (m.map KI.key).Nodup
 born : ∀ i ∈ m, i.born < c
 borns : (m.map KI.born).Nodup
 keys : ∀ i ∈ m, i.key.size ≤ 1048576
 len : m.length ≤ 65536
theorem KR.ext {h h' : Heap} {kb sb mb c : Nat} {m : List KI} (x : KR h kb sb mb c m) (hc : Chg [] h h') : KR h' kb sb mb c m :=
 ⟨x.ks.chg hc (by simp) (by simp), x.map.chg hc (by simp), fun i hi => ⟨(x.here i hi).1.chg hc (by simp), (x.here i hi).2.1.ext hc, (x.here i hi).2.2⟩, x.nodup, x.born, x.borns, x.keys, x.len⟩
theorem ents_fit (m : List KI) : ∀ e ∈ m.map KI.ent, fits .str e.key = true := by
 intro e he
 obtain ⟨i, _, rfl⟩ := List.mem_map.1 he
 rfl
theorem str_same (a b : ByteArray) : Instr.sameBits 10000 (.string a) (.string b) = decide (a = b) := by
 cases hd : decide (a = b) with
 |true =>
  have := of_decide_eq_true hd
  subst this
  exact sameBits_refl (k := .str) rfl
 |false =>
  cases h : Instr.sameBits 10000 (.string a) (.string b) with
  |false => rfl
  |true =>
   have := sameBits_eq (k := .str) rfl rfl h
   simp at this
   exact absurd this (of_decide_eq_false hd)
theorem mfind_ents (key : ByteArray) : ∀ (m : List KI) (n : Nat), (mfind (.string key) (m.map KI.ent) n = none ∧ ∀ i ∈ m, i.key ≠ key) ∨
  ∃ (j : Nat) (i : KI), mfind (.string key) (m.map KI.ent) n = some (n + j, ptr i.tb) ∧ m[j]? = some i ∧ i.key = key
 |[], n => .inl ⟨rfl, by simp⟩
 |x :: m, n => by
  simp only [List.map_cons, mfind]
  rw [show (KI.ent x).key = .string x.key from rfl, str_same]
  by_cases hk : key = x.key
  ·exact .inr ⟨0, x, by simp [hk, KI.ent], rfl, hk.symm⟩
  ·rw [if_neg (by simpa using hk)]
   rcases mfind_ents key m (n + 1) with ⟨h1, h2⟩ | ⟨j, i, h1, h2, h3⟩
   ·exact .inl ⟨h1, fun i hi => by
     rcases List.mem_cons.1 hi with rfl | hi
     ·exact fun e => hk e.symm
     ·exact h2 i hi⟩
   ·exact .inr ⟨j + 1, i, by rw [h1, show n + 1 + j = n + (j + 1) by omega], by simpa using h2, h3⟩
structure NVast (l : List RX) : Prop where
 len : l.length ≤ 20
 keys : ∀ x ∈ l, x.key.size ≤ 300
 small : ∀ x ∈ l, Small x.thing
structure CH (h h' : Heap) : Prop where
 blk : ∀ b l, Blk h b l → Blk h' b l
 cell : ∀ b o v, cell h b o = some v → cell h' b o = some v
theorem ne_map {h : Heap} {b mb c : Nat} {l : List Value} {es : List MapEntry} (hb : Blk h b l) (hm : MapB h mb es c) : b ≠ mb := by
 rintro rfl
 obtain ⟨e, he⟩ := hb
 have hm : h[b]? = _ := hm
 rw [he] at hm; cases hm
theorem ch_putO {h h' : Heap} {mb c : Nat} {es : List MapEntry} {o : Obj} (hm : MapB h mb es c) (p : PutO h h' mb o) : CH h h' := by
 refine ⟨fun b l hb => ?_, fun b o v hc => ?_⟩
 ·have := ne_map hb hm
  obtain ⟨e, he⟩ := hb
  exact ⟨e, by rw [p.old b this]; exact he⟩
 ·have hne : b ≠ mb := by
   rintro rfl
   have hm : h[b]? = _ := hm
   unfold Sx.cell at hc
   rw [hm] at hc; cases hc
  unfold Sx.cell at hc ⊢
  rw [p.old b hne]; exact hc
theorem SL.ch {α : Type} {enc : α → List Value} {h h' : Heap} {v : Value} {l : List α} (hs : SL enc h v l) (x : CH h h') : SL enc h' v l := by
 obtain ⟨a, c, rfl, h1, h2⟩ := hs
 refine ⟨a, c, rfl, h1, ?_⟩
 cases a with
 |none => exact h2
 |some a =>
  obtain ⟨b, o, sp⟩ := a
  cases sp with
  |some q => exact h2
  |none => exact fun i v hv => x.cell _ _ _ (h2 i v hv)
theorem TH.ch {h h' : Heap} {vs : List Value} {t : Thing} (x : TH h vs t) (hc : CH h h') : TH h' vs t := by
 obtain ⟨pv, lv, rv, rfl, h2, h3, h4⟩ := x
 exact ⟨pv, lv, rv, rfl, SL.ch h2 hc, SL.ch h3 hc, SL.ch h4 hc⟩
theorem KS.ch {h h' : Heap} {kb sb mb : Nat} (x : KS h kb sb mb) (hc : CH h h') : KS h' kb sb mb := ⟨hc.blk _ _ x.k, hc.blk _ _ x.s⟩
theorem KR.put {h h' : Heap} {kb sb mb c tb : Nat} {m : List KI} {key : ByteArray} {us : List Value} {t : Thing} (x : KR h kb sb mb c m)
  (p : PutO h h' mb (.map ⟨m.map KI.ent ++ [{ key := .string key, val := ptr tb, born := c }]⟩ (c + 1))) (hn : ∀ i ∈ m, i.key ≠ key) (hk : key.size ≤ 1048576) (B : Blk h tb us) (tx : TH h us t) (n : Lens t) (hl : m.length < 65536) :
  KR h' kb sb mb (c + 1) (m ++ [⟨key, tb, us, t, c⟩]) := by
 have ch := ch_putO x.map p
 refine ⟨x.ks.ch ch, ?_, fun i hi => ?_, ?_, fun i hi => ?_, ?_, fun i hi => ?_, by simp; omega⟩
 ·show h'[mb]? = _
  rw [p.blk]
  simp [KI.ent]
 ·rcases List.mem_append.1 hi with hi | hi
  ·obtain ⟨h1, h2, h3⟩ := x.here i hi
   exact ⟨ch.blk _ _ h1, h2.ch ch, h3⟩
  ·simp at hi
   subst hi
   exact ⟨ch.blk _ _ B, tx.ch ch, n⟩
 ·rw [List.map_append, List.nodup_append]
  refine ⟨x.nodup, by simp, ?_⟩
  intro a ha b hb
  obtain ⟨i, hi, rfl⟩ := List.mem_map.1 ha
  simp at hb
  subst hb
  exact hn i hi
 ·rcases List.mem_append.1 hi with hi | hi
  ·have := x.born i hi; omega
  ·simp at hi
   subst hi
   exact Nat.lt_succ_self _
 ·rw [List.map_append, List.nodup_append]
  refine ⟨x.borns, by simp, ?_⟩
  intro a ha b hb
  obtain ⟨i, hi, rfl⟩ := List.mem_map.1 ha
  simp at hb
  subst hb
  have := x.born i hi
  exact fun e => by omega
 ·rcases List.mem_append.1 hi with hi | hi
  ·exact x.keys i hi
  ·simp at hi
   subst hi
   exact hk
end Go.Proofs.YtjnijlnmbjjgpaaGreatDoor
namespace Go.Proofs
open Go.RowKit Go.Maps Go.Sort Go.Shelf
/- numbers: mapT=76 keyT=9 -/
end Go.Proofs
namespace Go.Proofs.YtjnijlnmbjjgpaaGreatDoor
open Go Go.Sx C
structure Sorted (m : List KI) (W : List (ByteArray × Thing)) : Prop where
 up : W.Pairwise fun a b => sless a.1 b.1 = true
 mem : ∀ p, p ∈ W ↔ p ∈ m.map KI.pr
theorem sless_asymm (a b : ByteArray) (h : sless a b = true) : ¬ sless b a = true := fun h2 => by
 have := sless_trans h h2
 rw [sless_irrefl] at this; cases this
structure Eff where
 op : Int
 key : ByteArray
 name : ByteArray
 text : ByteArray
 num : Int
def encD (e : Eff) : List Value := [.int .i64 e.op, .string e.key, .string e.name, .string e.text, .int .i64 e.num]
theorem encD_len (e : Eff) : (encD e).length = 5 := rfl
theorem encD_one (e : Eff) : ∀ u ∈ encD e, u.oneCell' = true := by
 intro u hu
 simp only [encD, List.mem_cons, List.not_mem_nil, or_false] at hu
 rcases hu with rfl | rfl | rfl | rfl | rfl <;> rfl
structure XFit (l : List RX) : Prop where
 len : l.length < 4611686018427387904
 keys : ∀ x ∈ l, x.key.size < 4611686018427387904
 fits : ∀ x ∈ l, Fits x.thing
 sized : ∀ x ∈ l, Sized x.thing
section
variable {α : Type} {eq lt : α → Bool} {y : α}
def putF (eq lt : α → Bool) (y : α) : List α → Bool → List α
 |[], d => if d then [] else [y]
 |x :: l, d => if eq x then putF eq lt y l d else if !d && lt x then y :: x :: putF eq lt y l true else x :: putF eq lt y l d
def delF (eq : α → Bool) (l : List α) : List α := l.filter fun x => !eq x
theorem delF_id : ∀ {l : List α}, (∀ x ∈ l, eq x = false) → delF eq l = l := by
 intro l h
 exact List.filter_eq_self.2 fun x hx => by rw [h x hx]; rfl
theorem putF_true : ∀ (l : List α), putF eq lt y l true = delF eq l
 |[] => rfl
 |x :: l => by
  have ih := putF_true l
  unfold putF delF
  cases he : eq x with
  |true => rw [if_pos rfl, ih]; simp [delF, he]
  |false => simp [he, ih, delF]
theorem putF_skip : ∀ {A B : List α}, (∀ x ∈ A, eq x = false ∧ lt x = false) → putF eq lt y (A ++ B) false = A ++ putF eq lt y B false
 |[], B, _ => rfl
 |x :: A, B, h => by
  have hx := h x (by simp)
  have ih := putF_skip (A := A) (B := B) fun z hz => h z (by simp [hz])
  rw [List.cons_append, putF, hx.1, hx.2]
  simp [ih]
theorem putF_del : ∀ (l : List α) (d : Bool), putF eq lt y (delF eq l) d = putF eq lt y l d
 |[], d => rfl
 |x :: l, d => by
  have ih := putF_del l
  cases he : eq x with
  |true =>
   have : delF eq (x :: l) = delF eq l := by simp [delF, he]
   rw [this, ih, putF, he]; simp
  |false =>
   have : delF eq (x :: l) = x :: delF eq l := by simp [delF, he]
   rw [this, putF, putF, he, ih, ih]
theorem putF_here {B : List α} (h : ∀ x ∈ B, eq x = false ∧ lt x = true) : putF eq lt y B false = y :: B := by
 cases B with
 |nil => rfl
 |cons x B =>
  have hx := h x (by simp)
  rw [putF, hx.1, hx.2]
  have hd : delF eq B = B := delF_id fun z hz => (h z (List.mem_cons_of_mem _ hz)).1
  simp [putF_true, hd]
theorem putF_like {x : α} {B : List α} (hx : eq x = true) (h : ∀ x ∈ B, eq x = false ∧ lt x = true) : putF eq lt y (x :: B) false = y :: B := by
 rw [putF, hx]
 simp [putF_here h]
theorem delF_like {x : α} {A B : List α} (hx : eq x = true) (hA : ∀ x ∈ A, eq x = false) (hB : ∀ x ∈ B, eq x = false) : delF eq (A ++ x :: B) = A ++ B := by
 unfold delF
 rw [List.filter_append, List.filter_cons, hx]
 have h1 := delF_id (eq := eq) hA
 have h2 := delF_id (eq := eq) hB
 unfold delF at h1 h2
 rw [h1, h2]
 rfl
theorem mem_putF {z : α} : ∀ {l : List α} {d : Bool}, z ∈ putF eq lt y l d → z = y ∨ (z ∈ l ∧ eq z = false)
 |[], d, h => by
  simp only [putF] at h
  split at h <;> simp at h
  exact .inl h
 |x :: l, d, h => by
  simp only [putF] at h
  cases he : eq x with
  |true =>
   rw [he] at h
   rcases mem_putF (l := l) (by simpa using h) with h | ⟨h1, h2⟩
   ·exact .inl h
   ·exact .inr ⟨by simp [h1], h2⟩
  |false =>
   rw [he] at h
   simp only [Bool.false_eq_true, if_false] at h
   split at h
   ·rcases List.mem_cons.1 h with h | h
    ·exact .inl h
    ·rcases List.mem_cons.1 h with h | h
     ·subst h; exact .inr ⟨by simp, he⟩
     ·rcases mem_putF (l := l) h with h | ⟨h1, h2⟩
      ·exact .inl h
      ·exact .inr ⟨by simp [h1], h2⟩
   ·rcases List.mem_cons.1 h with h | h
    ·subst h; exact .inr ⟨by simp, he⟩
    ·rcases mem_putF (l := l) h with h | ⟨h1, h2⟩
     ·exact .inl h
     ·exact .inr ⟨by simp [h1], h2⟩
theorem putF_len : ∀ (l : List α) (d : Bool), (putF eq lt y l d).length ≤ l.length + 1
 |[], d => by cases d <;> simp [putF]
 |x :: l, d => by
  have h1 := putF_len l d
  have h2 : (putF eq lt y l true).length ≤ l.length := by rw [putF_true]; exact List.length_filter_le _ _
  simp only [putF]
  split
  ·simp; omega
  ·split <;> simp <;> omega
theorem putF_up {R : α → α → Prop} (h1 : ∀ x, eq x = false → lt x = true → R y x) (h2 : ∀ x, eq x = false → lt x = false → R x y) (htr : ∀ a b c, R a b → R b c → R a c) :
  ∀ {l : List α}, l.Pairwise R → (putF eq lt y l false).Pairwise R
 |[], _ => by simp [putF]
 |x :: l, h => by
  have hx := List.pairwise_cons.1 h
  have ih := putF_up h1 h2 htr hx.2
  simp only [putF]
  cases he : eq x with
  |true => simpa using ih
  |false =>
   cases hl : lt x with
   |true =>
    simp only [Bool.false_eq_true, if_false, Bool.not_false, Bool.and_self, if_true, putF_true]
    refine List.pairwise_cons.2 ⟨fun z hz => ?_, List.pairwise_cons.2 ⟨fun z hz => hx.1 z (List.mem_filter.1 hz).1, hx.2.filter _⟩⟩
    rcases List.mem_cons.1 hz with rfl | hz
    ·exact h1 _ he hl
    ·exact htr _ _ _ (h1 _ he hl) (hx.1 z (List.mem_filter.1 hz).1)
   |false =>
    simp only [Bool.false_eq_true, if_false, Bool.not_false, Bool.and_false]
    refine List.pairwise_cons.2 ⟨fun z hz => ?_, ih⟩
    rcases mem_putF hz with rfl | ⟨hz, _⟩
    ·exact h2 _ he hl
    ·exact hx.1 z hz
end
section
variable {α : Type} {nm : α → ByteArray} {name : ByteArray}
theorem take_low {lo : α → Bool} {l : List α} {k : Nat} (c : CutAt lo l k) : ∀ x ∈ l.take k, lo x = true := by
 intro x hx
 obtain ⟨i, hi, rfl⟩ := List.getElem_of_mem hx
 rw [List.length_take] at hi
 rw [List.getElem_take]
 exact c.low i (by omega) (by omega)
theorem drop_high {lo : α → Bool} {l : List α} {k : Nat} (c : CutAt lo l k) : ∀ x ∈ l.drop k, lo x = false := by
 intro x hx
 obtain ⟨i, hi, rfl⟩ := List.getElem_of_mem hx
 rw [List.length_drop] at hi
 rw [List.getElem_drop]
 exact c.high (k + i) (by omega) (by omega)
theorem sless_not {a b : ByteArray} (h1 : sless a b = false) (h2 : a ≠ b) : sless b a = true := by
 rcases sless_total h2 with h | h
 ·rw [h1] at h; cases h
 ·exact h
theorem sless_no {a b : ByteArray} (h : sless a b = true) : sless b a = false := by
 cases hb : sless b a with
 |false => rfl
 |true => exact absurd hb (sless_asymm a b h)
theorem cut_before {l : List α} {k : Nat} (c : CutAt (fun x => sless (nm x) name) l k) : ∀ x ∈ l.take k, decide (nm x = name) = false ∧ sless name (nm x) = false := by
 intro x hx
 have := take_low c x hx
 exact ⟨decide_eq_false (sless_ne this), sless_no this⟩
theorem cut_none {l : List α} {k : Nat} (hs : l.Pairwise fun a b => sless (nm a) (nm b) = true) (c : CutAt (fun x => sless (nm x) name) l k) (hn : (l[k]?).any (fun x => decide (nm x = name)) = false) :
  ∀ x ∈ l.drop k, decide (nm x = name) = false ∧ sless name (nm x) = true := by
 have hd : ∀ x ∈ l.drop k, nm x ≠ name := by
  by_cases hk : k < l.length
  ·rw [List.getElem?_eq_getElem hk] at hn
   have hn' : nm l[k] ≠ name := by simpa using hn
   have hlow := c.high k (Nat.le_refl _) hk
   have hlt := sless_not hlow hn'
   rw [List.drop_eq_getElem_cons hk] at *
   have hp : (l[k] :: l.drop (k + 1)).Pairwise fun a b => sless (nm a) (nm b) = true := by
    rw [← List.drop_eq_getElem_cons hk]; exact hs.drop
   intro x hx
   rcases List.mem_cons.1 hx with rfl | hx
   ·exact hn'
   ·have := sless_trans hlt (List.rel_of_pairwise_cons hp hx)
    exact fun e => sless_ne this e.symm
  ·rw [List.drop_eq_nil_of_le (by omega)]; simp
 intro x hx
 exact ⟨decide_eq_false (hd x hx), sless_not (drop_high c x hx) (hd x hx)⟩
theorem cut_there {l : List α} {k : Nat} (hs : l.Pairwise fun a b => sless (nm a) (nm b) = true) (_ : CutAt (fun x => sless (nm x) name) l k) (hn : (l[k]?).any (fun x => decide (nm x = name)) = true) :
  ∃ hk : k < l.length, nm l[k] = name ∧ ∀ x ∈ l.drop (k + 1), decide (nm x = name) = false ∧ sless name (nm x) = true := by
 by_cases hk : k < l.length
 ·rw [List.getElem?_eq_getElem hk] at hn
  have hn' : nm l[k] = name := by simpa using hn
  refine ⟨hk, hn', fun x hx => ?_⟩
  have hp : (l[k] :: l.drop (k + 1)).Pairwise fun a b => sless (nm a) (nm b) = true := by
   rw [← List.drop_eq_getElem_cons hk]; exact hs.drop
  have := List.rel_of_pairwise_cons hp hx
  rw [hn'] at this
  exact ⟨decide_eq_false fun e => sless_ne this e.symm, this⟩
 ·rw [List.getElem?_eq_none (by omega)] at hn
  cases hn
theorem split_k {l : List α} {k : Nat} (hk : k < l.length) : l = l.take k ++ l[k] :: l.drop (k + 1) := by
 rw [← List.drop_eq_getElem_cons hk, List.take_append_drop]
theorem put_none {y : α} {l : List α} {k : Nat} (hs : l.Pairwise fun a b => sless (nm a) (nm b) = true) (c : CutAt (fun x => sless (nm x) name) l k) (hn : (l[k]?).any (fun x => decide (nm x = name)) = false) :
  putF (fun x => decide (nm x = name)) (fun x => sless name (nm x)) y l false = l.take k ++ y :: l.drop k := by
 have e : l = l.take k ++ l.drop k := (List.take_append_drop k l).symm
 rw [show putF (fun x => decide (nm x = name)) (fun x => sless name (nm x)) y l false = putF (fun x => decide (nm x = name)) (fun x => sless name (nm x)) y (l.take k ++ l.drop k) false by rw [← e],
  putF_skip (cut_before c), putF_here (cut_none hs c hn)]
theorem put_there {y : α} {l : List α} {k : Nat} (hs : l.Pairwise fun a b => sless (nm a) (nm b) = true) (c : CutAt (fun x => sless (nm x) name) l k) (hn : (l[k]?).any (fun x => decide (nm x = name)) = true) :
  putF (fun x => decide (nm x = name)) (fun x => sless name (nm x)) y l false = l.take k ++ y :: l.drop (k + 1) := by
 obtain ⟨hk, he, hb⟩ := cut_there hs c hn
 rw [show putF (fun x => decide (nm x = name)) (fun x => sless name (nm x)) y l false = putF (fun x => decide (nm x = name)) (fun x => sless name (nm x)) y (l.take k ++ l[k] :: l.drop (k + 1)) false by rw [← split_k hk],
  putF_skip (cut_before c), putF_like (by simpa using he) hb]
theorem del_there {l : List α} {k : Nat} (hs : l.Pairwise fun a b => sless (nm a) (nm b) = true) (c : CutAt (fun x => sless (nm x) name) l k) (hn : (l[k]?).any (fun x => decide (nm x = name)) = true) :
  delF (fun x => decide (nm x = name)) l = l.take k ++ l.drop (k + 1) ∧ l.any (fun x => decide (nm x = name)) = true := by
 obtain ⟨hk, he, hb⟩ := cut_there hs c hn
 refine ⟨?_, List.any_eq_true.2 ⟨l[k], List.getElem_mem hk, by simpa using he⟩⟩
 have := delF_like (eq := fun x => decide (nm x = name)) (x := l[k]) (A := l.take k) (B := l.drop (k + 1)) (by simpa using he) (fun x hx => (cut_before c x hx).1) (fun x hx => (hb x hx).1)
 rw [← split_k hk] at this
 exact this
theorem any_none {l : List α} {k : Nat} (hs : l.Pairwise fun a b => sless (nm a) (nm b) = true) (c : CutAt (fun x => sless (nm x) name) l k) (hn : (l[k]?).any (fun x => decide (nm x = name)) = false) :
  l.any (fun x => decide (nm x = name)) = false := by
 rw [List.any_eq_false]
 intro x hx
 rw [← List.take_append_drop k l] at hx
 rcases List.mem_append.1 hx with hx | hx
 ·rw [(cut_before c x hx).1]; simp
 ·rw [(cut_none hs c hn x hx).1]; simp
end
theorem ahead_tr (a b c : Rank) (h1 : aheadR a b = true) (h2 : aheadR b c = true) : aheadR a c = true := by
 simp only [aheadR, Bool.or_eq_true, decide_eq_true_eq, Bool.and_eq_true] at h1 h2 ⊢
 rcases h1 with h1 | ⟨h1, h1'⟩ <;> rcases h2 with h2 | ⟨h2, h2'⟩
 ·left; omega
 ·left; omega
 ·left; omega
 ·right; exact ⟨by omega, sless_trans h1' h2'⟩
theorem ahead_not {a b : Rank} (h1 : aheadR a b = false) (h2 : a.name ≠ b.name) : aheadR b a = true := by
 simp only [aheadR, Bool.or_eq_false_iff, decide_eq_false_iff_not, Bool.and_eq_false_iff] at h1
 simp only [aheadR, Bool.or_eq_true, decide_eq_true_eq, Bool.and_eq_true]
 by_cases h : b.score < a.score
 ·exact .inl h
 ·have : a.score = b.score := by omega
  rcases h1.2 with h | h
  ·exact absurd this h
  ·exact .inr ⟨this.symm, sless_not h h2⟩
theorem ahead_no {a b : Rank} (h : aheadR a b = true) : aheadR b a = false := by
 cases hb : aheadR b a with
 |false => rfl
 |true =>
  have := ahead_tr a b a h hb
  simp [aheadR, sless_irrefl] at this
theorem del_rank {l : List Rank} {k : Nat} {name : ByteArray} (hn : (l.map Rank.name).Nodup) (hk : k < l.length) (he : l[k].name = name) :
  delF (fun x => decide (x.name = name)) l = l.take k ++ l.drop (k + 1) := by
 have e := split_k hk
 have hn' : ((l.take k ++ l[k] :: l.drop (k + 1)).map Rank.name).Nodup := by rw [← e]; exact hn
 rw [List.map_append, List.map_cons, List.nodup_append] at hn'
 obtain ⟨_, h2, h3⟩ := hn'
 rw [List.nodup_cons] at h2
 have := delF_like (eq := fun x : Rank => decide (x.name = name)) (x := l[k]) (A := l.take k) (B := l.drop (k + 1)) (by simpa using he)
  (fun x hx => decide_eq_false fun e => h3 _ (List.mem_map_of_mem hx) _ List.mem_cons_self (by rw [e, he]))
  (fun x hx => decide_eq_false fun e => h2.1 (by rw [he, ← e]; exact List.mem_map_of_mem hx))
 rw [← e] at this
 exact this
theorem put_rank {y : Rank} {l : List Rank} {k : Nat} (hno : ∀ x ∈ l, x.name ≠ y.name) (c : CutAt (fun x => aheadR x y) l k) :
  putF (fun x => decide (x.name = y.name)) (fun x => aheadR y x) y l false = l.take k ++ y :: l.drop k := by
 have e : l = l.take k ++ l.drop k := (List.take_append_drop k l).symm
 rw [show putF (fun x : Rank => decide (x.name = y.name)) (fun x => aheadR y x) y l false = putF (fun x : Rank => decide (x.name = y.name)) (fun x => aheadR y x) y (l.take k ++ l.drop k) false by rw [← e],
  putF_skip fun x hx => ⟨decide_eq_false (hno x (List.mem_of_mem_take hx)), ahead_no (take_low c x hx)⟩,
  putF_here fun x hx => ⟨decide_eq_false (hno x (List.mem_of_mem_drop hx)), ahead_not (drop_high c x hx) (hno x (List.mem_of_mem_drop hx))⟩]
def doneT (t : Thing) (e : Eff) : Thing × Int :=
 if e.op = 1 then (zeroT, 0) else
 if e.op = 2 then (textT e.text, 0) else
 if e.op = 3 then ({ t with hasU := true, unt := e.num }, 0) else
 if e.op = 4 then ({ t with hasU := false, unt := 0 }, 0) else
 if e.op = 5 then ({ t with pairs := putF (fun x => decide (x.name = e.name)) (fun x => sless e.name x.name) ⟨e.name, e.text⟩ t.pairs false }, 0) else
 if e.op = 6 then ({ t with pairs := delF (fun x => decide (x.name = e.name)) t.pairs }, if t.pairs.any (fun x => decide (x.name = e.name)) then 0 else 5) else
 if e.op = 7 then ({ t with list := e.text :: t.list }, 0) else
 if e.op = 8 then ({ t with list := t.list ++ [e.text] }, 0) else
 if e.op = 9 then ({ t with list := t.list.tail }, 0) else
 if e.op = 10 then ({ t with list := t.list.dropLast }, 0) else
 if e.op = 11 then (if 0 ≤ e.num ∧ e.num < t.list.length then ({ t with list := t.list.set e.num.toNat e.text }, 0) else (t, 4)) else
 if e.op = 12 then ({ t with list := putF (fun x => decide (x = e.name)) (fun x => sless e.name x) e.name t.list false }, 0) else
 if e.op = 13 then ({ t with list := delF (fun x => decide (x = e.name)) t.list }, if t.list.any (fun x => decide (x = e.name)) then 0 else 5) else
 if e.op = 14 then ({ t with ranks := putF (fun x => decide (x.name = e.name)) (fun x => aheadR ⟨e.name, e.num⟩ x) ⟨e.name, e.num⟩ t.ranks false }, 0) else
 if e.op = 15 then ({ t with ranks := delF (fun x => decide (x.name = e.name)) t.ranks }, if t.ranks.any (fun x => decide (x.name = e.name)) then 0 else 5) else (t, 0)
structure TGood (t : Thing) : Prop where
 ps : t.pairs.Pairwise fun a b => sless a.name b.name = true
 ls : t.kind = 4 → t.list.Pairwise fun a b => sless a b = true
 rs : t.ranks.Pairwise fun a b => aheadR a b = true
 once : (t.ranks.map Rank.name).Nodup
 only : t.kind = 3 → t.pairs = [] ∧ t.ranks = []
 few : countT t ≤ 65536
theorem TGood.lens {t : Thing} (g : TGood t) : Lens t := by
 have := g.few
 unfold countT at this
 exact ⟨by omega, by omega, by omega⟩
end Go.Proofs.YtjnijlnmbjjgpaaGreatDoor
namespace Go.Proofs.YtjnijlnmbjjgpaaGreatDoor
open Go Go.Sx C
theorem _root_.Go.Sx.Chg.step {S U : List Nat} {a b c : Heap} (c1 : Chg U a b) (c2 : Chg S b c) (hs : ∀ k ∈ S, k < a.size → k ∈ U) : Chg U a c := c1.trans c2 (fun _ h => h) hs
def DoPost (t' : Thing) (n : Int) (tb : Nat) (pv lv rv : Value) (h : Heap) (r : Value) (h' : Heap) : Prop :=
 r = .int .i64 n ∧ (n = 0 → ∃ ws, Blk h' tb ws ∧ TH h' ws t' ∧ ∀ v ∈ ws, ∀ b ∈ vblk v, b ∈ bl3 pv lv rv ∨ h.size ≤ b) ∧ Chg (tb :: bl3 pv lv rv) h h'
theorem do_end {t' : Thing} {h h' : Heap} {tb : Nat} {pv lv rv pv' lv' rv' : Value} (B : Blk h' tb (cellsT t' pv' lv' rv')) (sp : SL encP h' pv' t'.pairs) (sl : SL encS h' lv' t'.list) (sr : SL encR h' rv' t'.ranks)
  (hb : ∀ b ∈ bl3 pv' lv' rv', b ∈ bl3 pv lv rv ∨ h.size ≤ b) (c : Chg (tb :: bl3 pv lv rv) h h') : DoPost t' 0 tb pv lv rv h (.int .i64 0) h' := by
 refine ⟨rfl, fun _ => ⟨_, B, ⟨_, _, _, rfl, sp, sl, sr⟩, fun v hv b hvb => ?_⟩, c⟩
 simp only [cellsT, List.mem_cons, List.not_mem_nil, or_false] at hv
 rcases hv with rfl | rfl | rfl | rfl | rfl | rfl | rfl
 ·exact absurd (show b ∈ ([] : List Nat) from hvb) (by simp)
 ·exact absurd (show b ∈ ([] : List Nat) from hvb) (by simp)
 ·exact hb b (by simp [bl3, hvb])
 ·exact hb b (by simp [bl3, hvb])
 ·exact hb b (by simp [bl3, hvb])
 ·exact absurd (show b ∈ ([] : List Nat) from hvb) (by simp)
 ·exact absurd (show b ∈ ([] : List Nat) from hvb) (by simp)
theorem do_no {t' : Thing} {n : Int} {h h' : Heap} {tb : Nat} {pv lv rv : Value} (hn : n ≠ 0) (c : Chg (tb :: bl3 pv lv rv) h h') : DoPost t' n tb pv lv rv h (.int .i64 n) h' := ⟨rfl, fun e => absurd e hn, c⟩
def DoOK (g : Nat) (t : Thing) (e : Eff) : Prop := ∀ (h : Heap) (tb : Nat) (pv lv rv : Value), Blk h tb (cellsT t pv lv rv) → TO h pv lv rv t → tb ∉ bl3 pv lv rv →
 CallsH Tryz.prog g [ptr tb, .agg ⟨encD e⟩] h (Ret (DoPost (doneT t e).1 (doneT t e).2 tb pv lv rv h))
theorem bl3_nil {h : Heap} {pv lv rv : Value} : ∀ b ∈ bl3 (.slice none 0 0) (.slice none 0 0) (.slice none 0 0), b ∈ bl3 pv lv rv ∨ h.size ≤ b := by
 intro b hb
 exact absurd (show b ∈ ([] : List Nat) from hb) (by simp)
theorem bl3_self {h : Heap} {pv lv rv : Value} : ∀ b ∈ bl3 pv lv rv, b ∈ bl3 pv lv rv ∨ h.size ≤ b := fun _ hb => .inl hb
theorem bl3_l {h : Heap} {pv lv rv lv' : Value} (hl : ∀ b ∈ vblk lv', b ∈ vblk lv ∨ h.size ≤ b) : ∀ b ∈ bl3 pv lv' rv, b ∈ bl3 pv lv rv ∨ h.size ≤ b := by
 intro b hb
 simp only [bl3, List.mem_append] at hb ⊢
 rcases hb with hb | hb | hb
 ·exact .inl (.inl hb)
 ·rcases hl b hb with h | h
  ·exact .inl (.inr (.inl h))
  ·exact .inr h
 ·exact .inl (.inr (.inr hb))
theorem bl3_p {h : Heap} {pv lv rv pv' : Value} (hl : ∀ b ∈ vblk pv', b ∈ vblk pv ∨ h.size ≤ b) : ∀ b ∈ bl3 pv' lv rv, b ∈ bl3 pv lv rv ∨ h.size ≤ b := by
 intro b hb
 simp only [bl3, List.mem_append] at hb ⊢
 rcases hb with hb | hb
 ·rcases hl b hb with h | h
  ·exact .inl (.inl h)
  ·exact .inr h
 ·exact .inl (.inr hb)
theorem bl3_r {h : Heap} {pv lv rv rv' : Value} (hl : ∀ b ∈ vblk rv', b ∈ vblk rv ∨ h.size ≤ b) : ∀ b ∈ bl3 pv lv rv', b ∈ bl3 pv lv rv ∨ h.size ≤ b := by
 intro b hb
 simp only [bl3, List.mem_append] at hb ⊢
 rcases hb with hb | hb | hb
 ·exact .inl (.inl hb)
 ·exact .inl (.inr (.inl hb))
 ·rcases hl b hb with h | h
  ·exact .inl (.inr (.inr h))
  ·exact .inr h
theorem drop_do {t : Thing} {e : Eff} (hop : e.op = 1) (gd : TGood t) : DoOK 185 t e := by
 have ed : doneT t e = (zeroT, 0) := by unfold doneT; simp [hop]
 intro h tb pv lv rv T0 o0 hn
 rw [ed]
 have lens := gd.lens
 have lp := lens.p
 have ll := lens.l
 have lr := lens.r
 have hn' : tb ∉ vblk pv ∧ tb ∉ vblk lv ∧ tb ∉ vblk rv := by simpa [bl3] using hn
 have ltb := T0.lt
 refine f185_calls (by simp) ?_
 intro b3 h1 g1
 have c1 := g1.chg
 have i3 := g1.id
 have s1 := g1.size
 have B31 : Blk h1 b3 (encD e) := g1.blk
 have T1 := T0.chg c1 (by simp)
 have o1 := o0.ext c1
 have z1 : Chg (tb :: bl3 pv lv rv) h h1 := ((Chg.refl h).mono (by simp)).step c1 (by simp)
 refine Ei _ (Ai T1 (Ai (by simp [cellsT]) (Ai rfl (Ai (thing_one (t := zeroT) (h := h1) zero_TH) ?_))))
 intro h2 p2
 exact do_end (t' := zeroT) (show Blk h2 tb (cellsT zeroT _ _ _) from p2.blk) SL.nil SL.nil SL.nil bl3_nil (z1.step p2.chg (by simp))
theorem text_do {t : Thing} {e : Eff} (hop : e.op = 2) (gd : TGood t) : DoOK 186 t e := by
 have ed : doneT t e = (textT e.text, 0) := by unfold doneT; simp [hop]
 intro h tb pv lv rv T0 o0 hn
 rw [ed]
 have lens := gd.lens
 have lp := lens.p
 have ll := lens.l
 have lr := lens.r
 have hn' : tb ∉ vblk pv ∧ tb ∉ vblk lv ∧ tb ∉ vblk rv := by simpa [bl3] using hn
 have ltb := T0.lt
 refine f186_calls (by simp) ?_
 intro b3 h1 g1
 have c1 := g1.chg
 have i3 := g1.id
 have s1 := g1.size
 have B31 : Blk h1 b3 (encD e) := g1.blk
 have T1 := T0.chg c1 (by simp)
 have o1 := o0.ext c1
 have z1 : Chg (tb :: bl3 pv lv rv) h h1 := ((Chg.refl h).mono (by simp)).step c1 (by simp)
 refine Ei _ (Ai (cell_blk B31 rfl) ?_)
 refine Ei _ (Ai T1 (Ai (by simp [cellsT]) (Ai rfl (Ai (thing_one (t := textT e.text) (h := h1) text_TH) ?_))))
 intro h2 p2
 exact do_end (t' := textT e.text) (show Blk h2 tb (cellsT (textT e.text) _ _ _) from p2.blk) SL.nil SL.nil SL.nil bl3_nil (z1.step p2.chg (by simp))
theorem until_do {t : Thing} {e : Eff} (hop : e.op = 3) (gd : TGood t) : DoOK 187 t e := by
 have ed : doneT t e = ({ t with hasU := true, unt := e.num }, 0) := by unfold doneT; simp [hop]
 intro h tb pv lv rv T0 o0 hn
 rw [ed]
 have lens := gd.lens
 have lp := lens.p
 have ll := lens.l
 have lr := lens.r
 have hn' : tb ∉ vblk pv ∧ tb ∉ vblk lv ∧ tb ∉ vblk rv := by simpa [bl3] using hn
 have ltb := T0.lt
 refine f187_calls (by simp) ?_
 intro b3 h1 g1
 have c1 := g1.chg
 have i3 := g1.id
 have s1 := g1.size
 have B31 : Blk h1 b3 (encD e) := g1.blk
 have T1 := T0.chg c1 (by simp)
 have o1 := o0.ext c1
 have z1 : Chg (tb :: bl3 pv lv rv) h h1 := ((Chg.refl h).mono (by simp)).step c1 (by simp)
 have fin : ∀ h2 h3, Put h1 h2 tb (cellsT { t with hasU := true } pv lv rv) → Put h2 h3 tb (cellsT { t with hasU := true, unt := e.num } pv lv rv) → DoPost { t with hasU := true, unt := e.num } 0 tb pv lv rv h (.int .i64 0) h3 := by
  intro h2 h3 p2 p3
  have p := p2.trans p3
  have o3 := o1.chg p.chg (fun b hb => by simp; rintro rfl; exact hn hb)
  exact do_end p3.blk o3.p.sl o3.l.sl o3.r.sl bl3_self (z1.step p.chg (by simp))
 refine Ai ?_ ?_
 ·refine Ei _ (Ai (cell_blk B31 rfl) ?_)
  refine Ei _ (Ai T1 (Ai (by simp [cellsT]) (Ai rfl (Ai (ones1 rfl) ?_))))
  intro h2 p2
  refine Ei _ (Ai p2.blk (Ai (by show 0 + 6 + 1 ≤ (cellsT { t with hasU := true } pv lv rv).length; simp [cellsT]) (Ai rfl (Ai (ones1 rfl) ?_))))
  intro h3 p3
  exact fin h2 h3 p2 p3
 ·refine Ei _ (Ai T1 (Ai (by simp [cellsT]) (Ai rfl (Ai (ones1 rfl) ?_))))
  intro h2 p2
  refine Ei _ (Ai (cell_blk (B31.chg p2.chg (by simp; omega)) rfl) ?_)
  refine Ei _ (Ai p2.blk (Ai (by show 0 + 6 + 1 ≤ (cellsT { t with hasU := true } pv lv rv).length; simp [cellsT]) (Ai rfl (Ai (ones1 rfl) ?_))))
  intro h3 p3
  exact fin h2 h3 p2 p3
theorem keep_do {t : Thing} {e : Eff} (hop : e.op = 4) (gd : TGood t) : DoOK 188 t e := by
 have ed : doneT t e = ({ t with hasU := false, unt := 0 }, 0) := by unfold doneT; simp [hop]
 intro h tb pv lv rv T0 o0 hn
 rw [ed]
 have lens := gd.lens
 have lp := lens.p
 have ll := lens.l
 have lr := lens.r
 have hn' : tb ∉ vblk pv ∧ tb ∉ vblk lv ∧ tb ∉ vblk rv := by simpa [bl3] using hn
 have ltb := T0.lt
 refine f188_calls (by simp) ?_
 intro b3 h1 g1
 have c1 := g1.chg
 have i3 := g1.id
 have s1 := g1.size
 have B31 : Blk h1 b3 (encD e) := g1.blk
 have T1 := T0.chg c1 (by simp)
 have o1 := o0.ext c1
 have z1 : Chg (tb :: bl3 pv lv rv) h h1 := ((Chg.refl h).mono (by simp)).step c1 (by simp)
 refine Ei _ (Ai T1 (Ai (by simp [cellsT]) (Ai rfl (Ai (ones1 rfl) ?_))))
 intro h2 p2
 refine Ei _ (Ai p2.blk (Ai (by show 0 + 6 + 1 ≤ (cellsT { t with hasU := false } pv lv rv).length; simp [cellsT]) (Ai rfl (Ai (ones1 rfl) ?_))))
 intro h3 p3
 have p := p2.trans p3
 have o3 := o1.chg p.chg (fun b hb => by simp; rintro rfl; exact hn hb)
 exact do_end (show Blk h3 tb (cellsT { t with hasU := false, unt := 0 } pv lv rv) from p3.blk) o3.p.sl o3.l.sl o3.r.sl bl3_self (z1.step p.chg (by simp))
theorem head_do {t : Thing} {e : Eff} (hop : e.op = 7) (gd : TGood t) : DoOK 191 t e := by
 have ed : doneT t e = ({ t with list := e.text :: t.list }, 0) := by unfold doneT; simp [hop]
 intro h tb pv lv rv T0 o0 hn
 rw [ed]
 have lens := gd.lens
 have lp := lens.p
 have ll := lens.l
 have lr := lens.r
 have hn' : tb ∉ vblk pv ∧ tb ∉ vblk lv ∧ tb ∉ vblk rv := by simpa [bl3] using hn
 have ltb := T0.lt
 refine f191_calls (by simp) ?_
 intro b3 h1 g1
 have c1 := g1.chg
 have i3 := g1.id
 have s1 := g1.size
 have B31 : Blk h1 b3 (encD e) := g1.blk
 have T1 := T0.chg c1 (by simp)
 have o1 := o0.ext c1
 have z1 : Chg (tb :: bl3 pv lv rv) h h1 := ((Chg.refl h).mono (by simp)).step c1 (by simp)
 refine Ei _ (Ai (cell_blk T1 rfl) (Ei _ (Ai (cell_blk B31 rfl) ?_)))
 intro b2 h2 g2
 have c2 := g2.chg
 have i2 := g2.id
 have s2 := g2.size
 have o2 := o1.ext c2
 have T2 := T1.chg c2 (by simp)
 have z2 := z1.step c2 (by simp)
 have lb := o1.l.lt
 refine call_ret (insS_calls (i := 0) (x := e.text) o2.l (by omega) (Nat.zero_le _) g2.blk (fun hb => by have := lb b2 hb; omega)) ?_
 rintro r5 h5 ⟨O5, c5, hb5⟩
 have S5 : SL encS h5 r5 (e.text :: t.list) := O5.sl
 have T5 := T2.chg c5 hn'.2.1
 have o2p := o2.p
 have o2r := o2.r
 have o5p := o2p.chg c5 (fun b hb => o0.pl b hb)
 have o5r := o2r.chg c5 (fun b hb => fun hp => o0.lr b hp hb)
 have z5 := z2.step c5 (fun k hk _ => by simp [bl3, hk])
 have hb5 : ∀ b ∈ vblk r5, b ∈ vblk lv ∨ h.size ≤ b := fun b hb => by
  rcases hb5 b hb with h | h
  ·exact .inl h
  ·exact .inr (by omega)
 obtain ⟨a5, k5, rfl, _⟩ := S5.form
 have nr5 : tb ∉ vblk (.slice a5 (e.text :: t.list).length k5) := fun hm => by
  rcases hb5 tb hm with h | h
  ·exact hn'.2.1 h
  ·omega
 refine Ei _ (Ai T5 (Ai (by simp [cellsT]) (Ai rfl (Ai (ones1 rfl) ?_))))
 intro h6 p6
 exact do_end (show Blk h6 tb (cellsT { t with list := (e.text :: t.list) } pv (.slice a5 (e.text :: t.list).length k5) rv) from p6.blk) (o5p.sl.chg p6.chg (by intro b hb; simp; rintro rfl; exact hn'.1 hb)) (S5.chg p6.chg (by intro b hb; simp; rintro rfl; exact nr5 hb)) (o5r.sl.chg p6.chg (by intro b hb; simp; rintro rfl; exact hn'.2.2 hb)) (bl3_l hb5) (z5.step p6.chg (by simp))
theorem tail_do {t : Thing} {e : Eff} (hop : e.op = 8) (gd : TGood t) : DoOK 193 t e := by
 have ed : doneT t e = ({ t with list := t.list ++ [e.text] }, 0) := by unfold doneT; simp [hop]
 intro h tb pv lv rv T0 o0 hn
 rw [ed]
 have lens := gd.lens
 have lp := lens.p
 have ll := lens.l
 have lr := lens.r
 have hn' : tb ∉ vblk pv ∧ tb ∉ vblk lv ∧ tb ∉ vblk rv := by simpa [bl3] using hn
 have ltb := T0.lt
 refine f193_calls (by simp) ?_
 intro b3 h1 g1
 have c1 := g1.chg
 have i3 := g1.id
 have s1 := g1.size
 have B31 : Blk h1 b3 (encD e) := g1.blk
 have T1 := T0.chg c1 (by simp)
 have o1 := o0.ext c1
 have z1 : Chg (tb :: bl3 pv lv rv) h h1 := ((Chg.refl h).mono (by simp)).step c1 (by simp)
 refine Ei _ (Ai (cell_blk T1 rfl) (Ei _ (Ai (cell_blk B31 rfl) ?_)))
 intro b2 h2 g2
 have c2 := g2.chg
 have i2 := g2.id
 have s2 := g2.size
 have o2 := o1.ext c2
 have T2 := T1.chg c2 (by simp)
 have z2 := z1.step c2 (by simp)
 obtain ⟨la, lc, hlv, _⟩ := o2.l.form
 have T2' := T2
 rw [hlv] at o2 hn' T2'
 have o2l := o2.l
 have B2 : Blk h2 b2 (encS e.text) := g2.blk
 subst hlv
 refine app_own encS_len encS_one rfl o2l (SL.one encS_len B2) (by simp; omega) ?_
 intro r5 h5 O5 c5 hb5
 have S5 : SL encS h5 r5 (t.list ++ [e.text]) := O5.sl
 have c5 : Chg (vblk (.slice la t.list.length lc)) h2 h5 := c5
 have T5 := T2.chg c5 hn'.2.1
 have o2p := o2.p
 have o2r := o2.r
 have o5p := o2p.chg c5 (fun b hb => o0.pl b hb)
 have o5r := o2r.chg c5 (fun b hb => fun hp => o0.lr b hp hb)
 have z5 := z2.step c5 (fun k hk _ => by simp [bl3, hk])
 have hb5 : ∀ b ∈ vblk r5, b ∈ vblk (.slice la t.list.length lc) ∨ h.size ≤ b := fun b hb => by
  rcases hb5 b hb with h | h
  ·exact .inl h
  ·exact .inr (by omega)
 obtain ⟨a5, k5, rfl, _⟩ := S5.form
 have nr5 : tb ∉ vblk (.slice a5 (t.list ++ [e.text]).length k5) := fun hm => by
  rcases hb5 tb hm with h | h
  ·exact hn'.2.1 h
  ·omega
 refine Ei _ (Ai T5 (Ai (by simp [cellsT]) (Ai rfl (Ai (ones1 rfl) ?_))))
 intro h6 p6
 exact do_end (show Blk h6 tb (cellsT { t with list := (t.list ++ [e.text]) } pv (.slice a5 (t.list ++ [e.text]).length k5) rv) from p6.blk) (o5p.sl.chg p6.chg (by intro b hb; simp; rintro rfl; exact hn'.1 hb)) (S5.chg p6.chg (by intro b hb; simp; rintro rfl; exact nr5 hb)) (o5r.sl.chg p6.chg (by intro b hb; simp; rintro rfl; exact hn'.2.2 hb)) (bl3_l hb5) (z5.step p6.chg (by simp))
theorem unhead_do {t : Thing} {e : Eff} (hop : e.op = 9) (gd : TGood t) (hne : t.list ≠ []) : DoOK 194 t e := by
 have ed : doneT t e = ({ t with list := t.list.tail }, 0) := by unfold doneT; simp [hop]
 intro h tb pv lv rv T0 o0 hn
 rw [ed]
 have lens := gd.lens
 have lp := lens.p
 have ll := lens.l
 have lr := lens.r
 have hn' : tb ∉ vblk pv ∧ tb ∉ vblk lv ∧ tb ∉ vblk rv := by simpa [bl3] using hn
 have ltb := T0.lt
 refine f194_calls (by simp) ?_
 intro b3 h1 g1
 have c1 := g1.chg
 have i3 := g1.id
 have s1 := g1.size
 have B31 : Blk h1 b3 (encD e) := g1.blk
 have T1 := T0.chg c1 (by simp)
 have o1 := o0.ext c1
 have z1 : Chg (tb :: bl3 pv lv rv) h h1 := ((Chg.refl h).mono (by simp)).step c1 (by simp)
 have lpos : 0 < t.list.length := List.length_pos_iff.2 hne
 obtain ⟨la, lc, rfl, _⟩ := o1.l.form
 refine Ei _ (Ai (cell_blk T1 rfl) ?_)
 refine SL.slc (lo := 1) (hi := t.list.length) encS_len o1.l.sl (by omega) (Nat.le_refl _) ?_
 intro a5 hab S5
 have el : (t.list.drop 1).take (t.list.length - 1) = t.list.tail := by
  rw [List.take_of_length_le (by simp)]
  simp
 have ell : t.list.length - 1 = t.list.tail.length := by simp
 rw [el] at S5
 have T5 := T1
 have o5p := o1.p
 have o5r := o1.r
 have z5 := z1
 rw [ell] at S5 ⊢
 have hb5 : ∀ b ∈ vblk (.slice a5 t.list.tail.length (lc - 1)), b ∈ vblk (.slice la t.list.length lc) ∨ h.size ≤ b := fun b hb => by
  have hb : b ∈ ablk a5 := hb
  rw [hab] at hb
  exact .inl hb
 obtain ⟨k5, hk5⟩ : ∃ k5, k5 = lc - 1 := ⟨_, rfl⟩
 rw [← hk5] at S5 hb5 ⊢
 have nr5 : tb ∉ vblk (.slice a5 t.list.tail.length k5) := fun hm => by
  rcases hb5 tb hm with h | h
  ·exact hn'.2.1 h
  ·omega
 refine Ei _ (Ai T5 (Ai (by simp [cellsT]) (Ai rfl (Ai (ones1 rfl) ?_))))
 intro h6 p6
 exact do_end (show Blk h6 tb (cellsT { t with list := t.list.tail } pv (.slice a5 t.list.tail.length k5) rv) from p6.blk) (o5p.sl.chg p6.chg (by intro b hb; simp; rintro rfl; exact hn'.1 hb)) (S5.chg p6.chg (by intro b hb; simp; rintro rfl; exact nr5 hb)) (o5r.sl.chg p6.chg (by intro b hb; simp; rintro rfl; exact hn'.2.2 hb)) (bl3_l hb5) (z5.step p6.chg (by simp))
theorem untail_do {t : Thing} {e : Eff} (hop : e.op = 10) (gd : TGood t) (hne : t.list ≠ []) : DoOK 195 t e := by
 have ed : doneT t e = ({ t with list := t.list.dropLast }, 0) := by unfold doneT; simp [hop]
 intro h tb pv lv rv T0 o0 hn
 rw [ed]
 have lens := gd.lens
 have lp := lens.p
 have ll := lens.l
 have lr := lens.r
 have hn' : tb ∉ vblk pv ∧ tb ∉ vblk lv ∧ tb ∉ vblk rv := by simpa [bl3] using hn
 have ltb := T0.lt
 refine f195_calls (by simp) ?_
 intro b3 h1 g1
 have c1 := g1.chg
 have i3 := g1.id
 have s1 := g1.size
 have B31 : Blk h1 b3 (encD e) := g1.blk
 have T1 := T0.chg c1 (by simp)
 have o1 := o0.ext c1
 have z1 : Chg (tb :: bl3 pv lv rv) h h1 := ((Chg.refl h).mono (by simp)).step c1 (by simp)
 have lpos : 0 < t.list.length := List.length_pos_iff.2 hne
 obtain ⟨la, lc, rfl, _⟩ := o1.l.form
 refine Ei _ (Ai (cell_blk T1 rfl) (Ei _ (Ai (cell_blk T1 rfl) ?_)))
 refine Ai rfl (fun z hz => ?_)
 have hz := sub_in hz (by omega) (by omega)
 have hz : z = ((t.list.length - 1 : Nat) : Int) := by omega
 subst hz
 refine SL.slc (lo := 0) (hi := t.list.length - 1) encS_len o1.l.sl (Nat.zero_le _) (by omega) ?_
 intro a5 hab S5
 have el : (t.list.drop 0).take (t.list.length - 1 - 0) = t.list.dropLast := by
  rw [List.drop_zero, List.dropLast_eq_take]; simp
 have ell : t.list.length - 1 - 0 = t.list.dropLast.length := by simp
 rw [el] at S5
 have T5 := T1
 have o5p := o1.p
 have o5r := o1.r
 have z5 := z1
 rw [ell] at S5 ⊢
 have hb5 : ∀ b ∈ vblk (.slice a5 t.list.dropLast.length (lc - 0)), b ∈ vblk (.slice la t.list.length lc) ∨ h.size ≤ b := fun b hb => by
  have hb : b ∈ ablk a5 := hb
  rw [hab] at hb
  exact .inl hb
 obtain ⟨k5, hk5⟩ : ∃ k5, k5 = lc - 0 := ⟨_, rfl⟩
 rw [← hk5] at S5 hb5 ⊢
 have nr5 : tb ∉ vblk (.slice a5 t.list.dropLast.length k5) := fun hm => by
  rcases hb5 tb hm with h | h
  ·exact hn'.2.1 h
  ·omega
 refine Ei _ (Ai T5 (Ai (by simp [cellsT]) (Ai rfl (Ai (ones1 rfl) ?_))))
 intro h6 p6
 exact do_end (show Blk h6 tb (cellsT { t with list := t.list.dropLast } pv (.slice a5 t.list.dropLast.length k5) rv) from p6.blk) (o5p.sl.chg p6.chg (by intro b hb; simp; rintro rfl; exact hn'.1 hb)) (S5.chg p6.chg (by intro b hb; simp; rintro rfl; exact nr5 hb)) (o5r.sl.chg p6.chg (by intro b hb; simp; rintro rfl; exact hn'.2.2 hb)) (bl3_l hb5) (z5.step p6.chg (by simp))
theorem set_cells {α : Type} {enc : α → List Value} (l : List α) (n : Nat) (hn : n < l.length) (x : α) (rest : List Value) :
  l.flatMap enc ++ rest = (l.take n).flatMap enc ++ (enc l[n] ++ ((l.drop (n + 1)).flatMap enc ++ rest)) ∧ (l.set n x).flatMap enc ++ rest = (l.take n).flatMap enc ++ (enc x ++ ((l.drop (n + 1)).flatMap enc ++ rest)) := by
 have e := split_k hn
 constructor
 ·have e2 : l.flatMap enc = (l.take n ++ l[n] :: l.drop (n + 1)).flatMap enc := congrArg (fun q => q.flatMap enc) e
  rw [e2, List.flatMap_append, List.flatMap_cons, List.append_assoc, List.append_assoc]
 ·rw [List.set_eq_take_append_cons_drop, if_pos hn]
  simp
theorem at_do {t : Thing} {e : Eff} (hop : e.op = 11) (gd : TGood t) : DoOK 196 t e := by
 have ed : doneT t e = (if 0 ≤ e.num ∧ e.num < t.list.length then ({ t with list := t.list.set e.num.toNat e.text }, 0) else (t, 4)) := by unfold doneT; simp [hop]
 intro h tb pv lv rv T0 o0 hn
 rw [ed]
 have lens := gd.lens
 have lp := lens.p
 have ll := lens.l
 have lr := lens.r
 have hn' : tb ∉ vblk pv ∧ tb ∉ vblk lv ∧ tb ∉ vblk rv := by simpa [bl3] using hn
 have ltb := T0.lt
 refine f196_calls (by simp) ?_
 intro b3 h1 g1
 have c1 := g1.chg
 have i3 := g1.id
 have s1 := g1.size
 have B31 : Blk h1 b3 (encD e) := g1.blk
 have T1 := T0.chg c1 (by simp)
 have o1 := o0.ext c1
 have z1 : Chg (tb :: bl3 pv lv rv) h h1 := ((Chg.refl h).mono (by simp)).step c1 (by simp)
 have bad : ¬ (0 ≤ e.num ∧ e.num < t.list.length) → DoPost (if 0 ≤ e.num ∧ e.num < t.list.length then (({ t with list := t.list.set e.num.toNat e.text }, 0) : Thing × Int) else (t, 4)).1 (if 0 ≤ e.num ∧ e.num < t.list.length then (({ t with list := t.list.set e.num.toNat e.text }, 0) : Thing × Int) else (t, 4)).2 tb pv lv rv h (.int .i64 4) h1 := by
  intro hb
  rw [if_neg hb]
  exact do_no (n := 4) (by decide) z1
 refine Ei _ (Ai (cell_blk B31 rfl) ?_)
 refine Ai rfl (Ai (fun hneg => bad (by omega)) (fun hneg => ?_))
 obtain ⟨la, lc, rfl, _⟩ := o1.l.form
 refine Ei _ (Ai (cell_blk B31 rfl) (Ei _ (Ai (cell_blk T1 rfl) ?_)))
 refine Ai rfl (Ai (fun hbig => bad (by omega)) (fun hbig => ?_))
 have hin : 0 ≤ e.num ∧ e.num < t.list.length := by omega
 rw [if_pos hin]
 obtain ⟨n, hnn⟩ : ∃ n : Nat, e.num = n := ⟨e.num.toNat, by omega⟩
 have hnl : n < t.list.length := by omega
 have hnt : e.num.toNat = n := by omega
 obtain ⟨_, hopen⟩ := o1.l.open
 rcases hopen with ⟨_, e0, _⟩ | ⟨b, rfl, hle, rest, B, hbl⟩
 ·rw [e0] at hnl; exact absurd hnl (by simp)
 refine Ei _ (Ai (cell_blk T1 rfl) (Ei _ (Ai (cell_blk B31 rfl) (Ei _ (Ai (cell_blk B31 rfl) ?_)))))
 refine Ai hin.1 (Ai hin.2 ?_)
 obtain ⟨q1, q2⟩ := set_cells (enc := encS) t.list n hnl e.text rest
 rw [q1] at B
 refine Ei _ (Ai B (Ai ?_ (Ai rfl (Ai (ones1 rfl) ?_))))
 ·rw [hnt, ← q1, hbl]; omega
 intro h5 p5
 have zi := take_len encS_len t.list n (by omega)
 have e5 : splice ((t.list.take n).flatMap encS ++ (encS t.list[n] ++ ((t.list.drop (n + 1)).flatMap encS ++ rest))) (0 + e.num.toNat * 1) [.string e.text] = (t.list.set n e.text).flatMap encS ++ rest := by
  rw [q2, hnt, show 0 + n * 1 = ((t.list.take n).flatMap encS).length by rw [zi]; omega]
  exact splice_at _ _ _ _ rfl
 have P5 : Put h1 h5 b ((t.list.set n e.text).flatMap encS ++ rest) := by
  rw [← e5]; exact p5
 have O5 : OL encS 1 h5 (.slice (some ⟨b, 0, none⟩) t.list.length lc) (t.list.set n e.text) := by
  refine OL.mk (rest := rest) (by simp) (by simp; exact hle) P5.blk ?_
  rw [← hbl]
  simp only [List.length_append, flatMap_len encS_len, List.length_set]
 have c5 : Chg (vblk (.slice (some ⟨b, 0, none⟩) t.list.length lc)) h1 h5 := P5.chg
 have T5 := T1.chg c5 hn'.2.1
 have o1p := o1.p
 have o1r := o1.r
 have o5p := o1p.chg c5 (fun b hb => o0.pl b hb)
 have o5r := o1r.chg c5 (fun b hb => fun hp => o0.lr b hp hb)
 have z5 := z1.step c5 (fun k hk _ => by simp only [bl3, List.mem_cons, List.mem_append]; exact .inr (.inr (.inl hk)))
 rw [hnt]
 exact do_end (t' := { t with list := t.list.set n e.text }) (show Blk h5 tb (cellsT { t with list := t.list.set n e.text } _ _ _) from T5) o5p.sl O5.sl o5r.sl bl3_self z5
theorem add_do {t : Thing} {e : Eff} (hop : e.op = 12) (gd : TGood t) (hk : t.kind = 4) : DoOK 197 t e := by
 have ed : doneT t e = ({ t with list := putF (fun x => decide (x = e.name)) (fun x => sless e.name x) e.name t.list false }, 0) := by unfold doneT; simp [hop]
 intro h tb pv lv rv T0 o0 hn
 rw [ed]
 have lens := gd.lens
 have lp := lens.p
 have ll := lens.l
 have lr := lens.r
 have hn' : tb ∉ vblk pv ∧ tb ∉ vblk lv ∧ tb ∉ vblk rv := by simpa [bl3] using hn
 have ltb := T0.lt
 refine f197_calls (by simp) ?_
 intro b3 h1 g1
 have c1 := g1.chg
 have i3 := g1.id
 have s1 := g1.size
 have B31 : Blk h1 b3 (encD e) := g1.blk
 have T1 := T0.chg c1 (by simp)
 have o1 := o0.ext c1
 have z1 : Chg (tb :: bl3 pv lv rv) h h1 := ((Chg.refl h).mono (by simp)).step c1 (by simp)
 have hs := gd.ls hk
 refine Ei _ (Ai (cell_blk T1 rfl) (Ei _ (Ai (cell_blk B31 rfl) ?_)))
 refine call_ret (bynS_calls e.name o1.l.sl (by omega) hs) ?_
 rintro _ h2 ⟨⟨k, rfl, hc⟩, c2⟩
 have s2 := c2.size
 have o2 := o1.ext c2
 have T2 := T1.chg c2 (by simp)
 have B32 := B31.chg c2 (by simp)
 have z2 := z1.step c2 (by simp)
 cases hf : (t.list[k]?).any fun x => decide (x = e.name) with
 |true =>
  obtain ⟨hkl, hke, _⟩ := cut_there (nm := fun x => x) hs hc hf
  have ep : putF (fun x => decide (x = e.name)) (fun x => sless e.name x) e.name t.list false = t.list := by
   have h1 : putF (fun x => decide (x = e.name)) (fun x => sless e.name x) e.name t.list false = t.list.take k ++ e.name :: t.list.drop (k + 1) := put_there (nm := fun x => x) hs hc hf
   rw [h1]
   have := split_k hkl
   rw [show t.list[k] = e.name from hke] at this
   exact this.symm
  rw [ep]
  exact do_end (t' := { t with list := t.list }) (show Blk h2 tb (cellsT { t with list := t.list } pv lv rv) from T2) o2.p.sl o2.l.sl o2.r.sl bl3_self z2
 |false =>
  have ep : putF (fun x => decide (x = e.name)) (fun x => sless e.name x) e.name t.list false = t.list.take k ++ e.name :: t.list.drop k := put_none (nm := fun x => x) hs hc hf
  rw [ep]
  refine Ei _ (Ai (cell_blk T2 rfl) (Ei _ (Ai (cell_blk B32 rfl) ?_)))
  intro b4 h3 g3
  have c3 := g3.chg
  have i4 := g3.id
  have s3 := g3.size
  have o3 := o2.ext c3
  have T3 := T2.chg c3 (by simp)
  have z3 := z2.step c3 (by simp)
  have lb := o2.l.lt
  refine call_ret (insS_calls (x := e.name) o3.l (by omega) hc.le g3.blk (fun hb => by have := lb b4 hb; omega)) ?_
  rintro r5 h5 ⟨O5, c5, hb5⟩
  have S5 := O5.sl
  have T5 := T3.chg c5 hn'.2.1
  have o3p := o3.p
  have o3r := o3.r
  have o5p := o3p.chg c5 (fun b hb => o0.pl b hb)
  have o5r := o3r.chg c5 (fun b hb => fun hp => o0.lr b hp hb)
  have z5 := z3.step c5 (fun k hk _ => by simp [bl3, hk])
  have hb5 : ∀ b ∈ vblk r5, b ∈ vblk lv ∨ h.size ≤ b := fun b hb => by
   rcases hb5 b hb with h | h
   ·exact .inl h
   ·exact .inr (by omega)
  obtain ⟨a5, k5, rfl, _⟩ := S5.form
  have nr5 : tb ∉ vblk (.slice a5 (t.list.take k ++ e.name :: t.list.drop k).length k5) := fun hm => by
   rcases hb5 tb hm with h | h
   ·exact hn'.2.1 h
   ·omega
  refine Ei _ (Ai T5 (Ai (by simp [cellsT]) (Ai rfl (Ai (ones1 rfl) ?_))))
  intro h6 p6
  exact do_end (show Blk h6 tb (cellsT { t with list := (t.list.take k ++ e.name :: t.list.drop k) } pv (.slice a5 (t.list.take k ++ e.name :: t.list.drop k).length k5) rv) from p6.blk) (o5p.sl.chg p6.chg (by intro b hb; simp; rintro rfl; exact hn'.1 hb)) (S5.chg p6.chg (by intro b hb; simp; rintro rfl; exact nr5 hb)) (o5r.sl.chg p6.chg (by intro b hb; simp; rintro rfl; exact hn'.2.2 hb)) (bl3_l hb5) (z5.step p6.chg (by simp))
theorem remove_do {t : Thing} {e : Eff} (hop : e.op = 13) (gd : TGood t) (hk : t.kind = 4) : DoOK 198 t e := by
 have ed : doneT t e = ({ t with list := delF (fun x => decide (x = e.name)) t.list }, if t.list.any (fun x => decide (x = e.name)) then 0 else 5) := by unfold doneT; simp [hop]
 intro h tb pv lv rv T0 o0 hn
 rw [ed]
 have lens := gd.lens
 have lp := lens.p
 have ll := lens.l
 have lr := lens.r
 have hn' : tb ∉ vblk pv ∧ tb ∉ vblk lv ∧ tb ∉ vblk rv := by simpa [bl3] using hn
 have ltb := T0.lt
 refine f198_calls (by simp) ?_
 intro b3 h1 g1
 have c1 := g1.chg
 have i3 := g1.id
 have s1 := g1.size
 have B31 : Blk h1 b3 (encD e) := g1.blk
 have T1 := T0.chg c1 (by simp)
 have o1 := o0.ext c1
 have z1 : Chg (tb :: bl3 pv lv rv) h h1 := ((Chg.refl h).mono (by simp)).step c1 (by simp)
 have hs := gd.ls hk
 refine Ei _ (Ai (cell_blk T1 rfl) (Ei _ (Ai (cell_blk B31 rfl) ?_)))
 refine call_ret (bynS_calls e.name o1.l.sl (by omega) hs) ?_
 rintro _ h2 ⟨⟨k, rfl, hc⟩, c2⟩
 have s2 := c2.size
 have o2 := o1.ext c2
 have T2 := T1.chg c2 (by simp)
 have z2 := z1.step c2 (by simp)
 cases hf : (t.list[k]?).any fun x => decide (x = e.name) with
 |false =>
  have ea := any_none (nm := fun x : ByteArray => x) hs hc hf
  rw [if_neg (by rw [ea]; simp)]
  exact do_no (by decide) z2
 |true =>
  obtain ⟨ed2, ea⟩ := del_there (nm := fun x : ByteArray => x) hs hc hf
  obtain ⟨hkl, _⟩ := cut_there (nm := fun x : ByteArray => x) hs hc hf
  rw [if_pos ea, ed2]
  refine Ei _ (Ai (cell_blk T2 rfl) ?_)
  refine Ai rfl (fun z hz => ?_)
  have hz := add_in hz (by omega) (by omega)
  have hz : z = ((k + 1 : Nat) : Int) := by omega
  subst hz
  refine call_ret (delS_calls o2.l (by omega) hkl) ?_
  rintro r5 h5 ⟨O5, c5, hb5⟩
  have S5 := O5.sl
  have T5 := T2.chg c5 hn'.2.1
  have o2p := o2.p
  have o2l := o2.l
  have o2r := o2.r
  have o5p := o2p.chg c5 (fun b hb => o0.pl b hb)
  have o5r := o2r.chg c5 (fun b hb => fun hp => o0.lr b hp hb)
  have z5 := z2.step c5 (fun k hk _ => by simp [bl3, hk])
  have hb5 : ∀ b ∈ vblk r5, b ∈ vblk lv ∨ h.size ≤ b := fun b hb => .inl (hb5 b hb)
  obtain ⟨a5, k5, rfl, _⟩ := S5.form
  have nr5 : tb ∉ vblk (.slice a5 (t.list.take k ++ t.list.drop (k + 1)).length k5) := fun hm => by
   rcases hb5 tb hm with h | h
   ·exact hn'.2.1 h
   ·omega
  refine Ei _ (Ai T5 (Ai (by simp [cellsT]) (Ai rfl (Ai (ones1 rfl) ?_))))
  intro h6 p6
  exact do_end (show Blk h6 tb (cellsT { t with list := (t.list.take k ++ t.list.drop (k + 1)) } pv (.slice a5 (t.list.take k ++ t.list.drop (k + 1)).length k5) rv) from p6.blk) (o5p.sl.chg p6.chg (by intro b hb; simp; rintro rfl; exact hn'.1 hb)) (S5.chg p6.chg (by intro b hb; simp; rintro rfl; exact nr5 hb)) (o5r.sl.chg p6.chg (by intro b hb; simp; rintro rfl; exact hn'.2.2 hb)) (bl3_l hb5) (z5.step p6.chg (by simp))
theorem unhash_do {t : Thing} {e : Eff} (hop : e.op = 6) (gd : TGood t) : DoOK 190 t e := by
 have ed : doneT t e = ({ t with pairs := delF (fun x => decide (x.name = e.name)) t.pairs }, if t.pairs.any (fun x => decide (x.name = e.name)) then 0 else 5) := by unfold doneT; simp [hop]
 intro h tb pv lv rv T0 o0 hn
 rw [ed]
 have lens := gd.lens
 have lp := lens.p
 have ll := lens.l
 have lr := lens.r
 have hn' : tb ∉ vblk pv ∧ tb ∉ vblk lv ∧ tb ∉ vblk rv := by simpa [bl3] using hn
 have ltb := T0.lt
 refine f190_calls (by simp) ?_
 intro b3 h1 g1
 have c1 := g1.chg
 have i3 := g1.id
 have s1 := g1.size
 have B31 : Blk h1 b3 (encD e) := g1.blk
 have T1 := T0.chg c1 (by simp)
 have o1 := o0.ext c1
 have z1 : Chg (tb :: bl3 pv lv rv) h h1 := ((Chg.refl h).mono (by simp)).step c1 (by simp)
 have hs := gd.ps
 refine Ei _ (Ai (cell_blk T1 rfl) (Ei _ (Ai (cell_blk B31 rfl) ?_)))
 refine call_ret (bynP_calls e.name o1.p.sl (by omega) hs) ?_
 rintro _ h2 ⟨⟨k, rfl, hc⟩, c2⟩
 have s2 := c2.size
 have o2 := o1.ext c2
 have T2 := T1.chg c2 (by simp)
 have z2 := z1.step c2 (by simp)
 cases hf : (t.pairs[k]?).any fun x => decide (x.name = e.name) with
 |false =>
  have ea := any_none (nm := fun x : Pair => x.name) hs hc hf
  rw [if_neg (by rw [ea]; simp)]
  exact do_no (by decide) z2
 |true =>
  obtain ⟨ed2, ea⟩ := del_there (nm := fun x : Pair => x.name) hs hc hf
  obtain ⟨hkl, _⟩ := cut_there (nm := fun x : Pair => x.name) hs hc hf
  rw [if_pos ea, ed2]
  refine Ei _ (Ai (cell_blk T2 rfl) ?_)
  refine Ai rfl (fun z hz => ?_)
  have hz := add_in hz (by omega) (by omega)
  have hz : z = ((k + 1 : Nat) : Int) := by omega
  subst hz
  refine call_ret (delP_calls o2.p (by omega) hkl) ?_
  rintro r5 h5 ⟨O5, c5, hb5⟩
  have S5 := O5.sl
  have T5 := T2.chg c5 hn'.1
  have o2p := o2.p
  have o2l := o2.l
  have o2r := o2.r
  have o5l := o2l.chg c5 (fun b hb => fun hp => o0.pl b hp hb)
  have o5r := o2r.chg c5 (fun b hb => fun hp => o0.pr b hp hb)
  have z5 := z2.step c5 (fun k hk _ => by simp [bl3, hk])
  have hb5 : ∀ b ∈ vblk r5, b ∈ vblk pv ∨ h.size ≤ b := fun b hb => .inl (hb5 b hb)
  obtain ⟨a5, k5, rfl, _⟩ := S5.form
  have nr5 : tb ∉ vblk (.slice a5 (t.pairs.take k ++ t.pairs.drop (k + 1)).length k5) := fun hm => by
   rcases hb5 tb hm with h | h
   ·exact hn'.1 h
   ·omega
  refine Ei _ (Ai T5 (Ai (by simp [cellsT]) (Ai rfl (Ai (ones1 rfl) ?_))))
  intro h6 p6
  exact do_end (show Blk h6 tb (cellsT { t with pairs := (t.pairs.take k ++ t.pairs.drop (k + 1)) } (.slice a5 (t.pairs.take k ++ t.pairs.drop (k + 1)).length k5) lv rv) from p6.blk) (S5.chg p6.chg (by intro b hb; simp; rintro rfl; exact nr5 hb)) (o5l.sl.chg p6.chg (by intro b hb; simp; rintro rfl; exact hn'.2.1 hb)) (o5r.sl.chg p6.chg (by intro b hb; simp; rintro rfl; exact hn'.2.2 hb)) (bl3_p hb5) (z5.step p6.chg (by simp))
theorem hash_rest {t : Thing} {e : Eff} {h h2 : Heap} {tb b3 k : Nat} {pv pv' lv rv : Value} {L : List Pair} (hn' : tb ∉ vblk pv' ∧ tb ∉ vblk lv ∧ tb ∉ vblk rv) (T : Blk h2 tb (cellsT { t with pairs := L } pv' lv rv)) (B3 : Blk h2 b3 (encD e))
  (O : OL encP 2 h2 pv' L) (hk : k < L.length) (hnm : L[k].name = e.name) (sl : SL encS h2 lv t.list) (sr : SL encR h2 rv t.ranks) (hl : ∀ b ∈ vblk pv', b ∉ vblk lv) (hr : ∀ b ∈ vblk pv', b ∉ vblk rv)
  (hb : ∀ b ∈ vblk pv', b ∈ vblk pv ∨ h.size ≤ b) (c : Chg (tb :: bl3 pv lv rv) h h2) (_ : h.size ≤ h2.size) :
  swp Tryz.prog (.seq (.ops f189r4) (.seq (.ops f189r5) .ret)) (retQ [.t 4] (Ret (DoPost { t with pairs := L.set k ⟨e.name, e.text⟩ } 0 tb pv lv rv h))) (mk [(0, ptr tb), (3, ptr b3), (5, .int .i64 k)]) [] h2 := by
 obtain ⟨la, lc, rfl, _⟩ := O.form
 obtain ⟨_, hopen⟩ := O.open
 rcases hopen with ⟨_, e0, _⟩ | ⟨b, rfl, hle, rest, B, hbl⟩
 ·subst e0; exact absurd hk (by simp)
 refine Ei _ (Ai (cell_blk T rfl) (Ei _ (Ai (cell_blk B3 rfl) ?_)))
 refine Ai (by omega) (Ai (by omega) ?_)
 obtain ⟨q1, q2⟩ := set_cells (enc := encP) L k hk ⟨e.name, e.text⟩ rest
 have zi := take_len encP_len L k (by omega)
 have q1' : L.flatMap encP ++ rest = ((L.take k).flatMap encP ++ [.string e.name]) ++ ([.string L[k].text] ++ ((L.drop (k + 1)).flatMap encP ++ rest)) := by
  rw [q1]; simp [encP, hnm]
 have q2' : (L.set k ⟨e.name, e.text⟩).flatMap encP ++ rest = ((L.take k).flatMap encP ++ [.string e.name]) ++ ([.string e.text] ++ ((L.drop (k + 1)).flatMap encP ++ rest)) := by
  rw [q2]; simp [encP]
 refine Ei _ (Ai B (Ai ?_ (Ai rfl (Ai (ones1 rfl) ?_))))
 ·rw [hbl]; omega
 intro h5 p5
 have e5 : splice (L.flatMap encP ++ rest) (0 + (k : Int).toNat * 2 + 1) [.string e.text] = (L.set k ⟨e.name, e.text⟩).flatMap encP ++ rest := by
  rw [q2', q1', show 0 + (k : Int).toNat * 2 + 1 = ((L.take k).flatMap encP ++ [Value.string e.name]).length by rw [List.length_append, zi]; simp]
  exact splice_at _ _ _ _ rfl
 have P5 : Put h2 h5 b ((L.set k ⟨e.name, e.text⟩).flatMap encP ++ rest) := by
  rw [← e5]; exact p5
 have O5 : OL encP 2 h5 (.slice (some ⟨b, 0, none⟩) L.length lc) (L.set k ⟨e.name, e.text⟩) := by
  refine OL.mk (rest := rest) (by simp) (by simp; exact hle) P5.blk ?_
  rw [← hbl]
  simp only [List.length_append, flatMap_len encP_len, List.length_set]
 have c5 : Chg (vblk (.slice (some ⟨b, 0, none⟩) L.length lc)) h2 h5 := P5.chg
 refine do_end (t' := { t with pairs := L.set k ⟨e.name, e.text⟩ }) (show Blk h5 tb (cellsT { t with pairs := L.set k ⟨e.name, e.text⟩ } _ _ _) from T.chg c5 hn'.1) O5.sl (sl.chg c5 fun x hx hp => hl x hp hx) (sr.chg c5 fun x hx hp => hr x hp hx) (bl3_p hb) (c.step c5 fun x hx hlt => ?_)
 rcases hb x hx with h | h
 ·simp [bl3, h]
 ·omega
theorem hash_do {t : Thing} {e : Eff} (hop : e.op = 5) (gd : TGood t) : DoOK 189 t e := by
 have ed : doneT t e = ({ t with pairs := putF (fun x => decide (x.name = e.name)) (fun x => sless e.name x.name) ⟨e.name, e.text⟩ t.pairs false }, 0) := by unfold doneT; simp [hop]
 intro h tb pv lv rv T0 o0 hn
 rw [ed]
 have lens := gd.lens
 have lp := lens.p
 have ll := lens.l
 have lr := lens.r
 have hn' : tb ∉ vblk pv ∧ tb ∉ vblk lv ∧ tb ∉ vblk rv := by simpa [bl3] using hn
 have ltb := T0.lt
 refine f189_calls (by simp) ?_
 intro b3 h1 g1
 have c1 := g1.chg
 have i3 := g1.id
 have s1 := g1.size
 have B31 : Blk h1 b3 (encD e) := g1.blk
 have T1 := T0.chg c1 (by simp)
 have o1 := o0.ext c1
 have z1 : Chg (tb :: bl3 pv lv rv) h h1 := ((Chg.refl h).mono (by simp)).step c1 (by simp)
 have hs := gd.ps
 refine Ei _ (Ai (cell_blk T1 rfl) (Ei _ (Ai (cell_blk B31 rfl) ?_)))
 refine call_ret (bynP_calls e.name o1.p.sl (by omega) hs) ?_
 rintro _ h2 ⟨⟨k, rfl, hc⟩, c2⟩
 have s2 := c2.size
 have o2 := o1.ext c2
 have T2 := T1.chg c2 (by simp)
 have B32 := B31.chg c2 (by simp)
 have z2 := z1.step c2 (by simp)
 cases hf : (t.pairs[k]?).any fun x => decide (x.name = e.name) with
 |true =>
  obtain ⟨hkl, hke, _⟩ := cut_there (nm := fun x : Pair => x.name) hs hc hf
  have ep : putF (fun x => decide (x.name = e.name)) (fun x => sless e.name x.name) ⟨e.name, e.text⟩ t.pairs false = t.pairs.set k ⟨e.name, e.text⟩ := by
   have h1 := put_there (nm := fun x : Pair => x.name) (y := (⟨e.name, e.text⟩ : Pair)) hs hc hf
   rw [h1, List.set_eq_take_append_cons_drop, if_pos hkl]
  rw [ep]
  refine swp_seq ?_
  exact cut_at [(0, ptr tb), (3, ptr b3), (5, .int .i64 k)] ⟨rfl, rfl, rfl, trivial⟩ (hash_rest (pv := pv) hn' T2 B32 o2.p hkl hke o2.l.sl o2.r.sl o0.pl o0.pr (fun b hb => .inl hb) z2 (by omega))
 |false =>
  have ep := put_none (nm := fun x : Pair => x.name) (y := (⟨e.name, e.text⟩ : Pair)) hs hc hf
  rw [ep]
  refine Ei _ (Ai (cell_blk T2 rfl) (Ei _ (Ai (cell_blk B32 rfl) ?_)))
  intro b4 h3 g3
  have c3 := g3.chg
  have i4 := g3.id
  have s3 := g3.size
  have o3 := o2.ext c3
  have T3 := T2.chg c3 (by simp)
  have z3 := z2.step c3 (by simp)
  have lb := o2.p.lt
  have B4 : Blk h3 b4 (encP ⟨e.name, noText⟩) := g3.blk
  refine call_ret (insP_calls (x := ⟨e.name, noText⟩) o3.p (by omega) hc.le B4 (fun hb => by have := lb b4 hb; omega)) ?_
  rintro r5 h5 ⟨O5, c5, hb5⟩
  have hl5 : ∀ b ∈ vblk r5, b ∉ vblk lv := fun b hb hx => by
   rcases hb5 b hb with h | h
   ·exact o0.pl b h hx
   ·have := o0.l.lt b hx; omega
  have hr5 : ∀ b ∈ vblk r5, b ∉ vblk rv := fun b hb hx => by
   rcases hb5 b hb with h | h
   ·exact o0.pr b h hx
   ·have := o0.r.lt b hx; omega
  obtain ⟨a5, k5, rfl, _⟩ := O5.form
  have T5 := T3.chg c5 hn'.1
  have B35 := (B32.chg c3 (by simp)).chg c5 (fun hx => by have := o0.p.lt b3 hx; omega)
  have o3l := o3.l
  have o3r := o3.r
  have o5l := o3l.chg c5 (fun b hb => fun hp => o0.pl b hp hb)
  have o5r := o3r.chg c5 (fun b hb => fun hp => o0.pr b hp hb)
  have z5 := z3.step c5 (fun k hk _ => by simp [bl3, hk])
  have s5 := c5.size
  have n5 : tb ∉ vblk (.slice a5 (t.pairs.take k ++ ⟨e.name, noText⟩ :: t.pairs.drop k).length k5) := fun hm => by
   rcases hb5 tb hm with h | h
   ·exact hn'.1 h
   ·omega
  refine Ei _ (Ai T5 (Ai (by simp [cellsT]) (Ai rfl (Ai (ones1 rfl) ?_))))
  intro h6 p6
  have hkl : k < (t.pairs.take k ++ (⟨e.name, noText⟩ : Pair) :: t.pairs.drop k).length := by have := hc.le; simp; omega
  have tkl : (t.pairs.take k).length = k := by have := hc.le; simp; omega
  have hke : (t.pairs.take k ++ (⟨e.name, noText⟩ : Pair) :: t.pairs.drop k)[k].name = e.name := by
   rw [List.getElem_append_right (by omega)]
   simp [tkl]
  have es : (t.pairs.take k ++ (⟨e.name, noText⟩ : Pair) :: t.pairs.drop k).set k ⟨e.name, e.text⟩ = t.pairs.take k ++ ⟨e.name, e.text⟩ :: t.pairs.drop k := by
   rw [List.set_append_right _ _ (by omega)]
   simp [tkl]
  rw [← es]
  refine cut_at [(0, ptr tb), (3, ptr b3), (5, .int .i64 k)] ⟨rfl, rfl, rfl, trivial⟩ (hash_rest (pv := pv) ⟨n5, hn'.2⟩ (show Blk h6 tb (cellsT { t with pairs := _ } _ _ _) from p6.blk) (B35.chg p6.chg (by simp; omega)) (O5.chg p6.chg (by intro b hb; simp; rintro rfl; exact n5 hb)) hkl hke
   (o5l.sl.chg p6.chg (by intro b hb; simp; rintro rfl; exact hn'.2.1 hb)) (o5r.sl.chg p6.chg (by intro b hb; simp; rintro rfl; exact hn'.2.2 hb)) hl5 hr5 (fun b hb => ?_) (z5.step p6.chg (by simp)) (by have := p6.size; omega))
  rcases hb5 b hb with h | h
  ·exact .inl h
  ·exact .inr (by omega)
theorem unrank1_calls {h : Heap} {b3 : Nat} (x : Rank) (e : Eff) (B3 : Blk h b3 (encD e)) : CallsH Tryz.prog 260 [.agg ⟨encR x⟩, ptr b3] h (Ret fun u h' => u = .bool (decide (x.name = e.name)) ∧ Chg [] h h') := by
 refine f260_calls (by simp) ?_
 intro b2 h1 g1
 have B2 : Blk h1 b2 (encR x) := g1.blk
 refine Ei _ (Ai (cell_blk B2 rfl) (Ei _ (Ai (cell_blk (B3.chg g1.chg (by simp)) rfl) ?_)))
 refine Ai (fun hq => ?_) (fun hq => ?_)
 ·exact Ai (by rw [decide_eq_true hq]; rfl) g1.chg
 ·exact Ai (by rw [decide_eq_false hq]; rfl) g1.chg
theorem unrank_calls {t : Thing} (e : Eff) {h : Heap} {tb : Nat} {pv lv rv : Value} (gd : TGood t) (T0 : Blk h tb (cellsT t pv lv rv)) (o0 : TO h pv lv rv t) (hn : tb ∉ bl3 pv lv rv) :
  CallsH Tryz.prog 200 [ptr tb, .agg ⟨encD e⟩] h (Ret fun r h' => r = .int .i64 (if t.ranks.any (fun x => decide (x.name = e.name)) then 0 else 5) ∧
   ∃ rv', Blk h' tb (cellsT { t with ranks := delF (fun x => decide (x.name = e.name)) t.ranks } pv lv rv') ∧ OL encR 2 h' rv' (delF (fun x => decide (x.name = e.name)) t.ranks) ∧ (∀ b ∈ vblk rv', b ∈ vblk rv) ∧ Chg (tb :: vblk rv) h h') := by
 have lens := gd.lens
 have lr := lens.r
 have hn' : tb ∉ vblk pv ∧ tb ∉ vblk lv ∧ tb ∉ vblk rv := by simpa [bl3] using hn
 have ltb := T0.lt
 refine f200_calls (by simp) ?_
 intro b3 h1 g1
 have c1 := g1.chg
 have B31 : Blk h1 b3 (encD e) := g1.blk
 have T1 := T0.chg c1 (by simp)
 have o1 := o0.ext c1
 have z1 : Chg (tb :: vblk rv) h h1 := ((Chg.refl h).mono (by simp)).step c1 (by simp)
 refine Ei _ (Ai (cell_blk T1 rfl) ?_)
 refine call_ret (ixfR_calls (g := 260) (cap := [ptr b3]) (p := fun x => decide (x.name = e.name)) o1.r.sl (by omega) fun h' x hc => unrank1_calls x e (B31.chg hc (by simp))) ?_
 rintro r2 h2 ⟨hr2, c2⟩
 have o2 := o1.ext c2
 have T2 := T1.chg c2 (by simp)
 have z2 := z1.step c2 (by simp)
 rcases hr2 with ⟨k, hk, rfl, hp⟩ | ⟨rfl, hall⟩
 rotate_left
 ·refine Ai rfl (Ai (fun _ => ?_) (fun hx => absurd (show (-1 : Int) < 0 by decide) hx))
  have ea : t.ranks.any (fun x => decide (x.name = e.name)) = false := List.any_eq_false.2 fun x hx => by rw [hall x hx]; simp
  have ed : delF (fun x : Rank => decide (x.name = e.name)) t.ranks = t.ranks := delF_id hall
  rw [ea, ed]
  exact Ai rfl (Ei rv (Ai T2 (Ai o2.r (Ai (fun _ h => h) z2))))
 refine Ai rfl (Ai (fun hx => absurd hx (by omega)) (fun _ => ?_))
 have hke : t.ranks[k].name = e.name := by simpa using hp
 have ea : t.ranks.any (fun x => decide (x.name = e.name)) = true := List.any_eq_true.2 ⟨_, List.getElem_mem hk, hp⟩
 have ed := del_rank gd.once hk hke
 rw [ea, ed]
 refine Ei _ (Ai (cell_blk T2 rfl) ?_)
 refine Ai rfl (fun z hz => ?_)
 have hz := add_in hz (by omega) (by omega)
 have hz : z = ((k + 1 : Nat) : Int) := by omega
 subst hz
 refine call_ret (delR_calls o2.r (by omega) hk) ?_
 rintro r5 h5 ⟨O5, c5, hb5⟩
 have n5 : tb ∉ vblk r5 := fun hx => hn'.2.2 (hb5 tb hx)
 obtain ⟨a5, k5, rfl, _⟩ := O5.form
 have T5 := T2.chg c5 hn'.2.2
 refine Ei _ (Ai T5 (Ai (by simp [cellsT]) (Ai rfl (Ai (ones1 rfl) ?_))))
 intro h6 p6
 have z5 := z2.step c5 (fun k hk _ => by simp [hk])
 exact Ai rfl (Ei _ (Ai (show Blk h6 tb (cellsT { t with ranks := _ } _ _ _) from p6.blk) (Ai (O5.chg p6.chg (by intro b hb; simp; rintro rfl; exact n5 hb)) (Ai hb5 (z5.step p6.chg (by simp))))))
theorem unrank_do {t : Thing} {e : Eff} (hop : e.op = 15) (gd : TGood t) : DoOK 200 t e := by
 have ed : doneT t e = ({ t with ranks := delF (fun x => decide (x.name = e.name)) t.ranks }, if t.ranks.any (fun x => decide (x.name = e.name)) then 0 else 5) := by unfold doneT; simp [hop]
 intro h tb pv lv rv T0 o0 hn
 rw [ed]
 have hn' : tb ∉ vblk pv ∧ tb ∉ vblk lv ∧ tb ∉ vblk rv := by simpa [bl3] using hn
 refine (unrank_calls e gd T0 o0 hn).mono fun en h' he => ?_
 cases en with
 |returned v =>
  obtain ⟨hv, rv', B, O, hb, c⟩ := he
  have c' : Chg (tb :: bl3 pv lv rv) h h' := c.mono (by intro k hk; simp only [List.mem_cons, bl3, List.mem_append] at hk ⊢; rcases hk with h | h; exact .inl h; exact .inr (.inr (.inr h)))
  refine ⟨hv, fun _ => ?_, c'⟩
  have hpc : ∀ b ∈ vblk pv, b ∉ tb :: vblk rv := fun b hb => by simp only [List.mem_cons, not_or]; exact ⟨by rintro rfl; exact hn'.1 hb, o0.pr b hb⟩
  have hlc : ∀ b ∈ vblk lv, b ∉ tb :: vblk rv := fun b hb => by simp only [List.mem_cons, not_or]; exact ⟨by rintro rfl; exact hn'.2.1 hb, o0.lr b hb⟩
  exact (do_end (t' := { t with ranks := delF (fun x => decide (x.name = e.name)) t.ranks }) B (o0.p.sl.chg c hpc) (o0.l.sl.chg c hlc) O.sl (bl3_r fun b hb' => .inl (hb b hb')) c').2.1 rfl
 |panicked ch => exact he.elim
 |outgrown => exact he.elim
theorem TGood.unranked {t : Thing} (gd : TGood t) (name : ByteArray) : ((delF (fun x : Rank => decide (x.name = name)) t.ranks).map Rank.name).Nodup ∧ (delF (fun x : Rank => decide (x.name = name)) t.ranks).Pairwise (fun a b => aheadR a b = true) ∧ (delF (fun x : Rank => decide (x.name = name)) t.ranks).length ≤ t.ranks.length ∧ ∀ x ∈ delF (fun x : Rank => decide (x.name = name)) t.ranks, x.name ≠ name := by
 refine ⟨?_, gd.rs.filter _, List.length_filter_le _ _, fun x hx => ?_⟩
 ·exact List.Nodup.sublist (List.Sublist.map _ List.filter_sublist) gd.once
 ·have := (List.mem_filter.1 hx).2
  simpa using this
theorem rank_do {t : Thing} {e : Eff} (hop : e.op = 14) (gd : TGood t) : DoOK 199 t e := by
 have ed : doneT t e = ({ t with ranks := putF (fun x => decide (x.name = e.name)) (fun x => aheadR ⟨e.name, e.num⟩ x) ⟨e.name, e.num⟩ t.ranks false }, 0) := by unfold doneT; simp [hop]
 intro h tb pv lv rv T0 o0 hn
 rw [ed]
 have lens := gd.lens
 have lr := lens.r
 have hn' : tb ∉ vblk pv ∧ tb ∉ vblk lv ∧ tb ∉ vblk rv := by simpa [bl3] using hn
 have ltb := T0.lt
 refine f199_calls (by simp) ?_
 intro b3 h1 g1
 have c1 := g1.chg
 have i3 := g1.id
 have s1 := g1.size
 have B31 : Blk h1 b3 (encD e) := g1.blk
 have T1 := T0.chg c1 (by simp)
 have o1 := o0.ext c1
 have z1 : Chg (tb :: bl3 pv lv rv) h h1 := ((Chg.refl h).mono (by simp)).step c1 (by simp)
 refine Ei (encD e) (Ai rfl (Ai (cells_blk B31) ?_))
 refine call_ret (unrank_calls e gd T1 o1 hn) ?_
 rintro r2 h2 ⟨hr2, rv2, T2, O2, hb2, c2⟩
 obtain ⟨un, up, ul, unn⟩ := gd.unranked e.name
 generalize hL : delF (fun x : Rank => decide (x.name = e.name)) t.ranks = L at *
 have hpc : ∀ b ∈ vblk pv, b ∉ tb :: vblk rv := fun b hb => by simp only [List.mem_cons, not_or]; exact ⟨by rintro rfl; exact hn'.1 hb, o0.pr b hb⟩
 have hlc : ∀ b ∈ vblk lv, b ∉ tb :: vblk rv := fun b hb => by simp only [List.mem_cons, not_or]; exact ⟨by rintro rfl; exact hn'.2.1 hb, o0.lr b hb⟩
 have o2p := o1.p.chg c2 hpc
 have o2l := o1.l.chg c2 hlc
 have B32 := B31.chg c2 (by simp only [List.mem_cons, not_or]; exact ⟨by omega, fun hx => by have := o0.r.lt b3 hx; omega⟩)
 have z2 := z1.step c2 (by intro k hk _; simp only [List.mem_cons, bl3, List.mem_append] at hk ⊢; rcases hk with h | h; exact .inl h; exact .inr (.inr (.inr h)))
 have s2 := c2.size
 refine Ei _ (Ai (cell_blk B32 rfl) (Ei _ (Ai (cell_blk B32 rfl) ?_)))
 intro b5 h3 g3
 refine Ei _ (Ai g3.blk (Ai (by decide) (Ai rfl (Ai (encR_one ⟨e.name, e.num⟩) ?_))))
 intro h4 p4
 have g4 := g3.put p4
 have B5 : Blk h4 b5 (encR ⟨e.name, e.num⟩) := p4.blk
 have c4 := g4.chg
 have s4 := g4.size
 have T4 := T2.chg c4 (by simp)
 have O4 := O2.chg c4 (by simp)
 have z4 := z2.step c4 (by simp)
 refine Ei _ (Ai (cell_blk T4 rfl) ?_)
 refine Ei (encR ⟨e.name, e.num⟩) (Ai rfl (Ai (cells_blk B5) ?_))
 refine call_ret (bsR_calls (g := 73) (cap := []) (tgt := ⟨e.name, e.num⟩) (lo := fun x => aheadR x ⟨e.name, e.num⟩) O4.sl (by omega) ?_ ?_) ?_
 ·intro h' x hc
  exact ahead_ord h' x ⟨e.name, e.num⟩ hc
 ·intro i j hj hi hlo
  rcases Nat.lt_or_eq_of_le hi with hlt | rfl
  ·exact ahead_tr _ _ _ (List.pairwise_iff_getElem.1 up i j (by omega) hj hlt) hlo
  ·exact hlo
 rintro _ h5 ⟨⟨k, f, rfl, hc⟩, c5⟩
 have ep : putF (fun x => decide (x.name = e.name)) (fun x => aheadR ⟨e.name, e.num⟩ x) ⟨e.name, e.num⟩ t.ranks false = L.take k ++ ⟨e.name, e.num⟩ :: L.drop k := by
  have h1 := put_rank (y := ⟨e.name, e.num⟩) unn hc
  rw [← h1, ← hL, putF_del]
 rw [ep]
 have T5 := T4.chg c5 (by simp)
 have O5 := O4.chg c5 (by simp)
 have z5 := z4.step c5 (by simp)
 have B55 := B5.chg c5 (by simp)
 have s5 := c5.size
 refine Ei _ (Ai (cell_blk T5 rfl) ?_)
 refine Ei (encR ⟨e.name, e.num⟩) (Ai rfl (Ai (cells_blk B55) ?_))
 intro b6 h6 g6
 have B6 : Blk h6 b6 (encR ⟨e.name, e.num⟩) := g6.blk
 have c6 := g6.chg
 have i6 := g6.id
 have s6 := g6.size
 have T6 := T5.chg c6 (by simp)
 have O6 := O5.chg c6 (by simp)
 have z6 := z5.step c6 (by simp)
 have lb := O5.lt
 refine call_ret (insR_calls (x := ⟨e.name, e.num⟩) O6 (by omega) hc.le B6 (fun hb => by have := lb b6 hb; omega)) ?_
 rintro r7 h7 ⟨O7, c7, hb7⟩
 have hb7' : ∀ b ∈ vblk r7, b ∈ vblk rv ∨ h.size ≤ b := fun b hb => by
  rcases hb7 b hb with h | h
  ·exact .inl (hb2 b h)
  ·exact .inr (by omega)
 have n7 : tb ∉ vblk r7 := fun hm => by
  rcases hb7' tb hm with h | h
  ·exact hn'.2.2 h
  ·omega
 have c27 : ∀ b, b < h.size → b ∉ vblk rv → b ∉ vblk rv2 := fun b _ hb hx => hb (hb2 b hx)
 obtain ⟨a7, k7, rfl, _⟩ := O7.form
 have T7 := T6.chg c7 (fun hx => hn'.2.2 (hb2 tb hx))
 have o7p := (((o2p.chg c4 (by simp)).chg c5 (by simp)).chg c6 (by simp)).chg c7 (fun b hb hx => o0.pr b hb (hb2 b hx))
 have o7l := (((o2l.chg c4 (by simp)).chg c5 (by simp)).chg c6 (by simp)).chg c7 (fun b hb hx => o0.lr b hb (hb2 b hx))
 have z7 := z6.step c7 (fun k hk _ => by simp only [List.mem_cons, bl3, List.mem_append]; exact .inr (.inr (.inr (hb2 k hk))))
 refine Ei _ (Ai T7 (Ai (by simp [cellsT]) (Ai rfl (Ai (ones1 rfl) ?_))))
 intro h8 p8
 exact do_end (t' := { t with ranks := L.take k ++ ⟨e.name, e.num⟩ :: L.drop k }) (show Blk h8 tb (cellsT { t with ranks := _ } _ _ _) from p8.blk) (o7p.sl.chg p8.chg (by intro b hb; simp; rintro rfl; exact hn'.1 hb)) (o7l.sl.chg p8.chg (by intro b hb; simp; rintro rfl; exact hn'.2.1 hb))
  (O7.sl.chg p8.chg (by intro b hb; simp; rintro rfl; exact n7 hb)) (bl3_r hb7') (z7.step p8.chg (by simp))
structure Rule where
 name : Bool
 text : Bool
 number : Bool
 kind : Int
 makes : Bool
 f : Nat
def Rule.val (r : Rule) : Value := ruleV r.name r.text r.number r.kind r.makes r.f
def ruleR (op : Int) : Option Rule :=
 if op = 1 then some ⟨false, false, false, 0, false, 185⟩ else
 if op = 2 then some ⟨false, true, false, 0, true, 186⟩ else
 if op = 3 then some ⟨false, false, true, 0, false, 187⟩ else
 if op = 4 then some ⟨false, false, false, 0, false, 188⟩ else
 if op = 5 then some ⟨true, true, false, 2, true, 189⟩ else
 if op = 6 then some ⟨true, false, false, 2, false, 190⟩ else
 if op = 7 then some ⟨false, true, false, 3, true, 191⟩ else
 if op = 8 then some ⟨false, true, false, 3, true, 193⟩ else
 if op = 9 then some ⟨false, false, false, 3, false, 194⟩ else
 if op = 10 then some ⟨false, false, false, 3, false, 195⟩ else
 if op = 11 then some ⟨false, true, true, 3, false, 196⟩ else
 if op = 12 then some ⟨true, false, false, 4, true, 197⟩ else
 if op = 13 then some ⟨true, false, false, 4, false, 198⟩ else
 if op = 14 then some ⟨true, false, true, 5, true, 199⟩ else
 if op = 15 then some ⟨true, false, false, 5, false, 200⟩ else none
theorem rule_find (op : Int) : (ruleR op = none ∧ mfind (.int .i64 op) (entsI ruleL 0) 0 = none) ∨ ∃ r i, ruleR op = some r ∧ mfind (.int .i64 op) (entsI ruleL 0) 0 = some (i, r.val) := by
 by_cases h1 : op = 1; · subst h1; exact .inr ⟨_, _, rfl, rfl⟩
 by_cases h2 : op = 2; · subst h2; exact .inr ⟨_, _, rfl, rfl⟩
 by_cases h3 : op = 3; · subst h3; exact .inr ⟨_, _, rfl, rfl⟩
 by_cases h4 : op = 4; · subst h4; exact .inr ⟨_, _, rfl, rfl⟩
 by_cases h5 : op = 5; · subst h5; exact .inr ⟨_, _, rfl, rfl⟩
 by_cases h6 : op = 6; · subst h6; exact .inr ⟨_, _, rfl, rfl⟩
 by_cases h7 : op = 7; · subst h7; exact .inr ⟨_, _, rfl, rfl⟩
 by_cases h8 : op = 8; · subst h8; exact .inr ⟨_, _, rfl, rfl⟩
 by_cases h9 : op = 9; · subst h9; exact .inr ⟨_, _, rfl, rfl⟩
 by_cases h10 : op = 10; · subst h10; exact .inr ⟨_, _, rfl, rfl⟩
 by_cases h11 : op = 11; · subst h11; exact .inr ⟨_, _, rfl, rfl⟩
 by_cases h12 : op = 12; · subst h12; exact .inr ⟨_, _, rfl, rfl⟩
 by_cases h13 : op = 13; · subst h13; exact .inr ⟨_, _, rfl, rfl⟩
 by_cases h14 : op = 14; · subst h14; exact .inr ⟨_, _, rfl, rfl⟩
 by_cases h15 : op = 15; · subst h15; exact .inr ⟨_, _, rfl, rfl⟩
 refine .inl ⟨by unfold ruleR; simp [h1, h2, h3, h4, h5, h6, h7, h8, h9, h10, h11, h12, h13, h14, h15], mfind_entsI op ruleL 0 0 fun x hx => ?_⟩
 simp only [ruleL, List.mem_cons, List.not_mem_nil, or_false] at hx
 rcases hx with rfl | rfl | rfl | rfl | rfl | rfl | rfl | rfl | rfl | rfl | rfl | rfl | rfl | rfl | rfl
 all_goals intro e; simp only at e; omega
inductive Fate where
 |no (n : Int)
 |drop
 |put (t : Thing)
def endF (r : Thing × Int) (there full : Bool) : Fate :=
 if r.2 ≠ 0 then .no r.2 else if r.1.kind ≠ 1 ∧ countT r.1 = 0 then .drop else if 65536 < countT r.1 ∨ (there = false ∧ full = true) then .no 3 else .put r.1
def oneF (old : Option Thing) (e : Eff) (full : Bool) : Fate :=
 match ruleR e.op with
 |none => .no 2
 |some r =>
  if (r.name = false ∧ e.name ≠ noText) ∨ (r.text = false ∧ e.text ≠ noText) ∨ (r.number = false ∧ e.num ≠ 0) then .no 2 else
  if 1048576 < e.key.size ∨ 1048576 < e.name.size ∨ 1048576 < e.text.size then .no 3 else
  match old with
  |none => if r.makes = false then .no 5 else endF (doneT { zeroT with kind := r.kind } e) false full
  |some t => if r.kind ≠ 0 ∧ t.kind ≠ r.kind then .no 170 else endF (doneT t e) true full
abbrev Space := List (ByteArray × Thing)
def findS (S : Space) (key : ByteArray) : Option Thing := (S.find? fun p => decide (p.1 = key)).map (·.2)
def dropS (S : Space) (key : ByteArray) : Space := S.filter fun p => !decide (p.1 = key)
def putS (S : Space) (key : ByteArray) (t : Thing) : Space := S.filter (fun p => sless p.1 key) ++ (key, t) :: S.filter (fun p => sless key p.1)
def Fate.num : Fate → Int
 |.no n => n
 |_ => 0
def Fate.space (S : Space) (key : ByteArray) : Fate → Space
 |.no _ => S
 |.drop => dropS S key
 |.put t => putS S key t
def fateS (S : Space) (e : Eff) : Fate := oneF (findS S e.key) e (decide (65536 ≤ S.length))
def applyS : Space → List Eff → Space × Nat × Int
 |S, [] => (S, 0, 0)
 |S, e :: d => if (fateS S e).num = 0 then let r := applyS ((fateS S e).space S e.key) d; (r.1, r.2.1 + 1, r.2.2) else (S, 0, (fateS S e).num)
def UpS (S : Space) : Prop := S.Pairwise fun a b => sless a.1 b.1 = true
theorem mem_putS {S : Space} {key : ByteArray} {t : Thing} {p : ByteArray × Thing} : p ∈ putS S key t ↔ p = (key, t) ∨ (p ∈ S ∧ p.1 ≠ key) := by
 unfold putS
 rw [List.mem_append, List.mem_cons, List.mem_filter, List.mem_filter]
 constructor
 ·rintro (⟨h1, h2⟩ | h | ⟨h1, h2⟩)
  ·exact .inr ⟨h1, sless_ne (by simpa using h2)⟩
  ·exact .inl h
  ·exact .inr ⟨h1, fun e => sless_ne (by simpa using h2) e.symm⟩
 ·rintro (h | ⟨h1, h2⟩)
  ·exact .inr (.inl h)
  ·rcases sless_total h2 with h | h
   ·exact .inl ⟨h1, by simpa using h⟩
   ·exact .inr (.inr ⟨h1, by simpa using h⟩)
theorem up_putS {S : Space} {key : ByteArray} {t : Thing} (hu : UpS S) : UpS (putS S key t) := by
 unfold putS UpS
 rw [List.pairwise_append, List.pairwise_cons]
 refine ⟨hu.filter _, ⟨fun p hp => ?_, hu.filter _⟩, fun p hp q hq => ?_⟩
 ·have := (List.mem_filter.1 hp).2
  simpa using this
 ·have h1 : sless p.1 key = true := by simpa using (List.mem_filter.1 hp).2
  rcases List.mem_cons.1 hq with rfl | hq
  ·exact h1
  ·have h2 : sless key q.1 = true := by simpa using (List.mem_filter.1 hq).2
   exact sless_trans h1 h2
theorem mem_dropS {S : Space} {key : ByteArray} {p : ByteArray × Thing} : p ∈ dropS S key ↔ p ∈ S ∧ p.1 ≠ key := by
 unfold dropS
 rw [List.mem_filter]
 simp
theorem up_dropS {S : Space} {key : ByteArray} (hu : UpS S) : UpS (dropS S key) := hu.filter _
theorem up_space {S : Space} {key : ByteArray} (f : Fate) (hu : UpS S) : UpS (f.space S key) := by
 cases f with
 |no n => exact hu
 |drop => exact up_dropS hu
 |put t => exact up_putS hu
theorem up_inj {S : Space} (hu : UpS S) {p q : ByteArray × Thing} (hp : p ∈ S) (hq : q ∈ S) (h : p.1 = q.1) : p = q := by
 induction S with
 |nil => simp at hp
 |cons x S ih =>
  have hx := List.pairwise_cons.1 hu
  rcases List.mem_cons.1 hp with e1 | hp
  ·rcases List.mem_cons.1 hq with e2 | hq
   ·rw [e1, e2]
   ·have := hx.1 q hq
    rw [← e1, h, sless_irrefl] at this; cases this
  ·rcases List.mem_cons.1 hq with e2 | hq
   ·have := hx.1 p hp
    rw [← e2, h, sless_irrefl] at this; cases this
   ·exact ih hx.2 hp hq
theorem findS_some {S : Space} (hu : UpS S) {key : ByteArray} {t : Thing} (h : (key, t) ∈ S) : findS S key = some t := by
 unfold findS
 cases hf : S.find? fun p => decide (p.1 = key) with
 |none =>
  have := List.find?_eq_none.1 hf _ h
  simp at this
 |some p =>
  have h1 := List.find?_some hf
  have h2 := List.mem_of_find?_eq_some hf
  have : p = (key, t) := up_inj hu h2 h (by simpa using h1)
  rw [this]; rfl
theorem findS_mem {S : Space} {key : ByteArray} {t : Thing} (h : findS S key = some t) : (key, t) ∈ S := by
 unfold findS at h
 cases hf : S.find? fun p => decide (p.1 = key) with
 |none => rw [hf] at h; cases h
 |some p =>
  rw [hf] at h
  have h1 : p.1 = key := by simpa using List.find?_some hf
  have h2 := List.mem_of_find?_eq_some hf
  have h3 : p.2 = t := by simpa using h
  rw [← h1, ← h3]; exact h2
theorem TGood.zero (k : Int) : TGood { zeroT with kind := k } :=
 ⟨List.Pairwise.nil, fun _ => List.Pairwise.nil, List.Pairwise.nil, List.nodup_nil, fun _ => ⟨rfl, rfl⟩, by show (0 : Nat) + 0 + 0 ≤ 65536; omega⟩
structure TIn (t : Thing) : Prop where
 good : TGood t
 some : t.kind = 3 → t.list ≠ []
def OfKind (t : Thing) (e : Eff) : Prop := ∀ r, ruleR e.op = some r → r.kind ≠ 0 → t.kind = r.kind
theorem nodup_putF {y : Rank} : ∀ {l : List Rank}, (l.map Rank.name).Nodup → ((putF (fun x => decide (x.name = y.name)) (fun x => aheadR y x) y l false).map Rank.name).Nodup
 |[], _ => by simp [putF]
 |x :: l, h => by
  rw [List.map_cons, List.nodup_cons] at h
  have ih := nodup_putF (y := y) h.2
  have hmem : ∀ {d : Bool} {m : List Rank} {z : Rank}, z ∈ putF (fun x => decide (x.name = y.name)) (fun x => aheadR y x) y m d → z = y ∨ (z ∈ m ∧ z.name ≠ y.name) := by
   intro d m z hz
   rcases mem_putF hz with h | ⟨h1, h2⟩
   ·exact .inl h
   ·exact .inr ⟨h1, by simpa using h2⟩
  simp only [putF]
  by_cases he : x.name = y.name
  ·rw [if_pos (by simpa using he)]; exact ih
  ·rw [if_neg (by simpa using he)]
   split
   ·rw [putF_true, List.map_cons, List.map_cons, List.nodup_cons, List.nodup_cons]
    refine ⟨?_, ?_, ?_⟩
    ·simp only [List.mem_cons, List.mem_map, not_or, not_exists, not_and]
     refine ⟨fun e => he e.symm, fun z hz e => ?_⟩
     have := (List.mem_filter.1 hz).2
     simp [e] at this
    ·intro hm
     obtain ⟨z, hz, e⟩ := List.mem_map.1 hm
     exact h.1 (by rw [← e]; exact List.mem_map_of_mem (List.mem_filter.1 hz).1)
    ·exact List.Nodup.sublist (List.Sublist.map _ List.filter_sublist) h.2
   ·rw [List.map_cons, List.nodup_cons]
    refine ⟨fun hm => ?_, ih⟩
    obtain ⟨z, hz, e⟩ := List.mem_map.1 hm
    rcases hmem hz with rfl | ⟨h1, _⟩
    ·exact he e.symm
    ·exact h.1 (by rw [← e]; exact List.mem_map_of_mem h1)
theorem doneT_cases {t : Thing} {e : Eff} {P : Thing × Int → Prop} (h1 : P (zeroT, 0)) (h2 : P (textT e.text, 0)) (h3 : P ({ t with hasU := true, unt := e.num }, 0)) (h4 : P ({ t with hasU := false, unt := 0 }, 0))
  (h5 : e.op = 5 → P ({ t with pairs := putF (fun x => decide (x.name = e.name)) (fun x => sless e.name x.name) ⟨e.name, e.text⟩ t.pairs false }, 0))
  (h6 : e.op = 6 → P ({ t with pairs := delF (fun x => decide (x.name = e.name)) t.pairs }, if t.pairs.any (fun x => decide (x.name = e.name)) then 0 else 5))
  (h7 : e.op = 7 → P ({ t with list := e.text :: t.list }, 0)) (h8 : e.op = 8 → P ({ t with list := t.list ++ [e.text] }, 0)) (h9 : P ({ t with list := t.list.tail }, 0)) (h10 : P ({ t with list := t.list.dropLast }, 0))
  (h11 : e.op = 11 → P ({ t with list := t.list.set e.num.toNat e.text }, 0)) (h11' : P (t, 4))
  (h12 : P ({ t with list := putF (fun x => decide (x = e.name)) (fun x => sless e.name x) e.name t.list false }, 0))
  (h13 : P ({ t with list := delF (fun x => decide (x = e.name)) t.list }, if t.list.any (fun x => decide (x = e.name)) then 0 else 5))
  (h14 : e.op = 14 → P ({ t with ranks := putF (fun x => decide (x.name = e.name)) (fun x => aheadR ⟨e.name, e.num⟩ x) ⟨e.name, e.num⟩ t.ranks false }, 0))
  (h15 : e.op = 15 → P ({ t with ranks := delF (fun x => decide (x.name = e.name)) t.ranks }, if t.ranks.any (fun x => decide (x.name = e.name)) then 0 else 5)) (h16 : P (t, 0)) : P (doneT t e) := by
 unfold doneT
 by_cases e1 : e.op = 1
 ·rw [if_pos e1]; exact h1
 rw [if_neg e1]
 by_cases e2 : e.op = 2
 ·rw [if_pos e2]; exact h2
 rw [if_neg e2]
 by_cases e3 : e.op = 3
 ·rw [if_pos e3]; exact h3
 rw [if_neg e3]
 by_cases e4 : e.op = 4
 ·rw [if_pos e4]; exact h4
 rw [if_neg e4]
 by_cases e5 : e.op = 5
 ·rw [if_pos e5]; exact h5 e5
 rw [if_neg e5]
 by_cases e6 : e.op = 6
 ·rw [if_pos e6]; exact h6 e6
 rw [if_neg e6]
 by_cases e7 : e.op = 7
 ·rw [if_pos e7]; exact h7 e7
 rw [if_neg e7]
 by_cases e8 : e.op = 8
 ·rw [if_pos e8]; exact h8 e8
 rw [if_neg e8]
 by_cases e9 : e.op = 9
 ·rw [if_pos e9]; exact h9
 rw [if_neg e9]
 by_cases e10 : e.op = 10
 ·rw [if_pos e10]; exact h10
 rw [if_neg e10]
 by_cases e11 : e.op = 11
 ·rw [if_pos e11]
  by_cases hh : 0 ≤ e.num ∧ e.num < t.list.length
  ·rw [if_pos hh]; exact h11 e11
  ·rw [if_neg hh]; exact h11'
 rw [if_neg e11]
 by_cases e12 : e.op = 12
 ·rw [if_pos e12]; exact h12
 rw [if_neg e12]
 by_cases e13 : e.op = 13
 ·rw [if_pos e13]; exact h13
 rw [if_neg e13]
 by_cases e14 : e.op = 14
 ·rw [if_pos e14]; exact h14 e14
 rw [if_neg e14]
 by_cases e15 : e.op = 15
 ·rw [if_pos e15]; exact h15 e15
 rw [if_neg e15]
 exact h16
def TUp (t : Thing) : Prop := (t.kind = 3 → t.pairs = [] ∧ t.ranks = []) ∧ (t.pairs.Pairwise fun a b => sless a.name b.name = true) ∧ (t.kind = 4 → t.list.Pairwise fun a b => sless a b = true) ∧ (t.ranks.Pairwise fun a b => aheadR a b = true) ∧ (t.ranks.map Rank.name).Nodup
theorem doneT_good {t : Thing} {e : Eff} (f : TGood t) (hk : OfKind t e) : TUp (doneT t e).1 := by
 have hp : ∀ x : Pair, decide (x.name = e.name) = false → sless e.name x.name = false → sless x.name e.name = true := fun x h1 h2 => sless_not h2 (fun h => by simp [h] at h1)
 have k3 : t.kind = 3 → t.kind ≠ 4 := fun h1 => by omega
 have z : ∀ t : Thing, t.pairs = [] → t.list = [] → t.ranks = [] → TUp t := fun t h1 h2 h3 => by
  unfold TUp
  rw [h1, h2, h3]
  exact ⟨fun _ => ⟨rfl, rfl⟩, List.Pairwise.nil, fun _ => List.Pairwise.nil, List.Pairwise.nil, List.nodup_nil⟩
 refine doneT_cases (P := fun r => TUp r.1) (z _ rfl rfl rfl) (z _ rfl rfl rfl) ⟨f.only, f.ps, f.ls, f.rs, f.once⟩ ⟨f.only, f.ps, f.ls, f.rs, f.once⟩ (fun h7 => ?_) (fun h7 => ?_) (fun h7 => ?_) (fun h7 => ?_)
  ⟨f.only, f.ps, fun k => (f.ls k).tail, f.rs, f.once⟩ ⟨f.only, f.ps, fun k => (f.ls k).sublist (List.dropLast_sublist _), f.rs, f.once⟩ (fun h7 => ?_) ⟨f.only, f.ps, f.ls, f.rs, f.once⟩ ⟨f.only, f.ps, fun k => ?_, f.rs, f.once⟩
  ⟨f.only, f.ps, fun k => (f.ls k).filter _, f.rs, f.once⟩ (fun h7 => ?_) (fun h7 => ?_) ⟨f.only, f.ps, f.ls, f.rs, f.once⟩
 ·have := hk ⟨true, true, false, 2, true, 189⟩ (by rw [h7]; rfl) (by decide)
  exact ⟨fun k => absurd k (by rw [this]; decide), putF_up (y := (⟨e.name, e.text⟩ : Pair)) (R := fun a b : Pair => sless a.name b.name = true) (fun x _ h => h) (fun x h1 h2 => hp x h1 h2) (fun a b c => sless_trans) f.ps, f.ls, f.rs, f.once⟩
 ·have := hk ⟨true, false, false, 2, false, 190⟩ (by rw [h7]; rfl) (by decide)
  exact ⟨fun k => absurd k (by rw [this]; decide), f.ps.filter _, f.ls, f.rs, f.once⟩
 ·have := hk ⟨false, true, false, 3, true, 191⟩ (by rw [h7]; rfl) (by decide)
  exact ⟨f.only, f.ps, fun k => absurd k (k3 this), f.rs, f.once⟩
 ·have := hk ⟨false, true, false, 3, true, 193⟩ (by rw [h7]; rfl) (by decide)
  exact ⟨f.only, f.ps, fun k => absurd k (k3 this), f.rs, f.once⟩
 ·have := hk ⟨false, true, true, 3, false, 196⟩ (by rw [h7]; rfl) (by decide)
  exact ⟨f.only, f.ps, fun k => absurd k (k3 this), f.rs, f.once⟩
 ·exact putF_up (y := e.name) (R := fun a b => sless a b = true) (fun x _ h => h) (fun x h1 h2 => sless_not h2 (fun h => by simp [h] at h1)) (fun a b c => sless_trans) (f.ls k)
 ·have := hk ⟨true, false, true, 5, true, 199⟩ (by rw [h7]; rfl) (by decide)
  exact ⟨fun k => absurd k (by rw [this]; decide), f.ps, f.ls, putF_up (y := (⟨e.name, e.num⟩ : Rank)) (R := fun a b => aheadR a b = true) (fun x _ h => h) (fun x h1 h2 => ahead_not h2 (fun h => by
   have : x.name = e.name := h.symm
   simp [this] at h1)) ahead_tr f.rs, nodup_putF (y := ⟨e.name, e.num⟩) f.once⟩
 ·have := hk ⟨true, false, false, 5, false, 200⟩ (by rw [h7]; rfl) (by decide)
  exact ⟨fun k => absurd k (by rw [this]; decide), f.ps, f.ls, f.rs.filter _, List.Nodup.sublist (List.Sublist.map _ List.filter_sublist) f.once⟩
theorem doneT_len {t : Thing} {e : Eff} : countT (doneT t e).1 ≤ countT t + 1 := by
 have h1 := putF_len (eq := fun x : Pair => decide (x.name = e.name)) (lt := fun x => sless e.name x.name) (y := ⟨e.name, e.text⟩) t.pairs false
 have h2 := putF_len (eq := fun x : ByteArray => decide (x = e.name)) (lt := fun x => sless e.name x) (y := e.name) t.list false
 have h3 := putF_len (eq := fun x : Rank => decide (x.name = e.name)) (lt := fun x => aheadR ⟨e.name, e.num⟩ x) (y := ⟨e.name, e.num⟩) t.ranks false
 have d1 : (delF (fun x : Pair => decide (x.name = e.name)) t.pairs).length ≤ t.pairs.length := List.length_filter_le _ _
 have d2 : (delF (fun x : ByteArray => decide (x = e.name)) t.list).length ≤ t.list.length := List.length_filter_le _ _
 have d3 : (delF (fun x : Rank => decide (x.name = e.name)) t.ranks).length ≤ t.ranks.length := List.length_filter_le _ _
 refine doneT_cases (P := fun r => countT r.1 ≤ countT t + 1) ?_ ?_ ?_ ?_ (fun _ => ?_) (fun _ => ?_) (fun _ => ?_) (fun _ => ?_) ?_ ?_ (fun _ => ?_) ?_ ?_ ?_ (fun _ => ?_) (fun _ => ?_) ?_
 all_goals simp only [countT, zeroT, textT, List.length_nil, List.length_cons, List.length_append, List.length_tail, List.length_dropLast, List.length_set]
 all_goals omega
theorem endF_put {r : Thing × Int} {there full : Bool} {t : Thing} (h : endF r there full = .put t) : t = r.1 ∧ r.2 = 0 ∧ countT t ≤ 65536 ∧ (t.kind = 1 ∨ countT t ≠ 0) ∧ (there = false → full = false) := by
 unfold endF at h
 split at h
 ·cases h
 ·rename_i h1
  split at h
  ·cases h
  ·rename_i h2
   split at h
   ·cases h
   ·rename_i h3
    injection h with h
    subst h
    refine ⟨rfl, Decidable.not_not.1 h1, by omega, ?_, fun ht => ?_⟩
    ·by_cases hk : r.1.kind = 1
     ·exact .inl hk
     ·exact .inr fun hc => h2 ⟨hk, hc⟩
    ·cases hf : full with
     |false => rfl
     |true => exact absurd (.inr ⟨ht, hf⟩) h3
theorem endF_in {t t' : Thing} {e : Eff} {there full : Bool} (f : TGood t) (hk : OfKind t e) (h : endF (doneT t e) there full = .put t') : TIn t' := by
 obtain ⟨rfl, _, h1, h2, _⟩ := endF_put h
 obtain ⟨u1, u2, u3, u4, u5⟩ := doneT_good f hk
 refine ⟨⟨u2, u3, u4, u5, u1, h1⟩, fun h3 e0 => ?_⟩
 rcases h2 with h2 | h2
 ·rw [h3] at h2; exact absurd h2 (by decide)
 ·obtain ⟨p1, p2⟩ := u1 h3
  exact h2 (by unfold countT; rw [p1, p2, e0]; rfl)
def InS (S : Space) : Prop := ∀ p ∈ S, TIn p.2
theorem oneF_in {S : Space} {e : Eff} {full : Bool} {t : Thing} (hi : InS S) (h : oneF (findS S e.key) e full = .put t) : TIn t := by
 unfold oneF at h
 cases hr : ruleR e.op with
 |none => rw [hr] at h; cases h
 |some r =>
  rw [hr] at h
  simp only at h
  split at h
  ·cases h
  split at h
  ·cases h
  cases hf : findS S e.key with
  |none =>
   rw [hf] at h
   simp only at h
   split at h
   ·cases h
   ·exact endF_in (TGood.zero _) (fun r' h1 _ => by rw [hr] at h1; injection h1 with h1; rw [h1]) h
  |some t0 =>
   rw [hf] at h
   simp only at h
   split at h
   ·cases h
   ·rename_i hk
    refine endF_in (hi _ (findS_mem hf)).good (fun r' h1 h2 => ?_) h
    rw [hr] at h1
    injection h1 with h1
    subst h1
    exact Decidable.not_not.1 fun hne => hk ⟨h2, hne⟩
theorem in_space {S : Space} {e : Eff} {full : Bool} (hi : InS S) : InS ((oneF (findS S e.key) e full).space S e.key) := by
 cases hf : oneF (findS S e.key) e full with
 |no n => exact hi
 |drop => exact fun p hp => hi p (mem_dropS.1 hp).1
 |put t =>
  intro p hp
  rcases mem_putS.1 hp with rfl | ⟨hp, _⟩
  ·exact oneF_in hi hf
  ·exact hi p hp
theorem rule_do {t : Thing} {e : Eff} {r : Rule} (hr : ruleR e.op = some r) (gd : TGood t) (hk : OfKind t e) (hne : e.op = 9 ∨ e.op = 10 → t.list ≠ []) : DoOK r.f t e := by
 unfold ruleR at hr
 by_cases h1 : e.op = 1
 ·rw [if_pos h1] at hr
  injection hr with hr
  rw [← hr]
  exact drop_do h1 gd
 rw [if_neg h1] at hr
 by_cases h2 : e.op = 2
 ·rw [if_pos h2] at hr
  injection hr with hr
  rw [← hr]
  exact text_do h2 gd
 rw [if_neg h2] at hr
 by_cases h3 : e.op = 3
 ·rw [if_pos h3] at hr
  injection hr with hr
  rw [← hr]
  exact until_do h3 gd
 rw [if_neg h3] at hr
 by_cases h4 : e.op = 4
 ·rw [if_pos h4] at hr
  injection hr with hr
  rw [← hr]
  exact keep_do h4 gd
 rw [if_neg h4] at hr
 by_cases h5 : e.op = 5
 ·rw [if_pos h5] at hr
  injection hr with hr
  rw [← hr]
  exact hash_do h5 gd
 rw [if_neg h5] at hr
 by_cases h6 : e.op = 6
 ·rw [if_pos h6] at hr
  injection hr with hr
  rw [← hr]
  exact unhash_do h6 gd
 rw [if_neg h6] at hr
 by_cases h7 : e.op = 7
 ·rw [if_pos h7] at hr
  injection hr with hr
  rw [← hr]
  exact head_do h7 gd
 rw [if_neg h7] at hr
 by_cases h8 : e.op = 8
 ·rw [if_pos h8] at hr
  injection hr with hr
  rw [← hr]
  exact tail_do h8 gd
 rw [if_neg h8] at hr
 by_cases h9 : e.op = 9
 ·rw [if_pos h9] at hr
  injection hr with hr
  rw [← hr]
  exact unhead_do h9 gd (hne (.inl h9))
 rw [if_neg h9] at hr
 by_cases h10 : e.op = 10
 ·rw [if_pos h10] at hr
  injection hr with hr
  rw [← hr]
  exact untail_do h10 gd (hne (.inr h10))
 rw [if_neg h10] at hr
 by_cases h11 : e.op = 11
 ·rw [if_pos h11] at hr
  injection hr with hr
  rw [← hr]
  exact at_do h11 gd
 rw [if_neg h11] at hr
 by_cases h12 : e.op = 12
 ·rw [if_pos h12] at hr
  injection hr with hr
  rw [← hr]
  exact add_do h12 gd (hk ⟨true, false, false, 4, true, 197⟩ (by rw [h12]; rfl) (by decide))
 rw [if_neg h12] at hr
 by_cases h13 : e.op = 13
 ·rw [if_pos h13] at hr
  injection hr with hr
  rw [← hr]
  exact remove_do h13 gd (hk ⟨true, false, false, 4, false, 198⟩ (by rw [h13]; rfl) (by decide))
 rw [if_neg h13] at hr
 by_cases h14 : e.op = 14
 ·rw [if_pos h14] at hr
  injection hr with hr
  rw [← hr]
  exact rank_do h14 gd
 rw [if_neg h14] at hr
 by_cases h15 : e.op = 15
 ·rw [if_pos h15] at hr
  injection hr with hr
  rw [← hr]
  exact unrank_do h15 gd
 rw [if_neg h15] at hr
 cases hr
theorem map_set {m : List KI} {j : Nat} {i : KI} {tb : Nat} {us : List Value} {t : Thing} (hj : m[j]? = some i) : (m.map KI.ent).modify j (fun e => { e with val := ptr tb }) = (m.set j ⟨i.key, tb, us, t, i.born⟩).map KI.ent := by
 induction m generalizing j with
 |nil => simp at hj
 |cons x m ih =>
  cases j with
  |zero =>
   simp at hj
   subst hj
   simp [KI.ent]
  |succ j =>
   have := ih (j := j) (by simpa using hj)
   simp only [List.map_cons, List.modify_succ_cons, List.set_cons_succ, this]
theorem map_erase {m : List KI} {j : Nat} : (m.map KI.ent).eraseIdx j = (m.eraseIdx j).map KI.ent := by
 induction m generalizing j with
 |nil => simp
 |cons x m ih =>
  cases j with
  |zero => simp
  |succ j => simp [ih]
theorem mem_set {m : List KI} {j : Nat} {i x y : KI} (hn : (m.map KI.key).Nodup) (hj : m[j]? = some i) : y ∈ m.set j x ↔ y = x ∨ (y ∈ m ∧ y.key ≠ i.key) := by
 induction m generalizing j with
 |nil => simp at hj
 |cons z m ih =>
  rw [List.map_cons, List.nodup_cons] at hn
  cases j with
  |zero =>
   simp at hj
   subst hj
   rw [List.set_cons_zero, List.mem_cons, List.mem_cons]
   constructor
   ·rintro (h | h)
    ·exact .inl h
    ·exact .inr ⟨.inr h, fun e => hn.1 (by rw [← e]; exact List.mem_map_of_mem h)⟩
   ·rintro (h | ⟨h | h, hk⟩)
    ·exact .inl h
    ·exact absurd (by rw [h]) hk
    ·exact .inr h
  |succ j =>
   have hj' : m[j]? = some i := by simpa using hj
   have := ih hn.2 hj'
   rw [List.set_cons_succ, List.mem_cons, List.mem_cons, this]
   have hi := List.mem_of_getElem? hj'
   constructor
   ·rintro (h | h | ⟨h, hk⟩)
    ·exact .inr ⟨.inl h, fun e => hn.1 (by rw [← h, e]; exact List.mem_map_of_mem hi)⟩
    ·exact .inl h
    ·exact .inr ⟨.inr h, hk⟩
   ·rintro (h | ⟨h | h, hk⟩)
    ·exact .inr (.inl h)
    ·exact .inl h
    ·exact .inr (.inr ⟨h, hk⟩)
theorem mem_erase {m : List KI} {j : Nat} {i y : KI} (hn : (m.map KI.key).Nodup) (hj : m[j]? = some i) : y ∈ m.eraseIdx j ↔ y ∈ m ∧ y.key ≠ i.key := by
 induction m generalizing j with
 |nil => simp at hj
 |cons z m ih =>
  rw [List.map_cons, List.nodup_cons] at hn
  cases j with
  |zero =>
   simp at hj
   subst hj
   rw [List.eraseIdx_cons_zero, List.mem_cons]
   constructor
   ·exact fun h => ⟨.inr h, fun e => hn.1 (by rw [← e]; exact List.mem_map_of_mem h)⟩
   ·rintro ⟨h | h, hk⟩
    ·exact absurd (by rw [h]) hk
    ·exact h
  |succ j =>
   have hj' : m[j]? = some i := by simpa using hj
   have hi := List.mem_of_getElem? hj'
   rw [List.eraseIdx_cons_succ, List.mem_cons, List.mem_cons, ih hn.2 hj']
   constructor
   ·rintro (h | ⟨h, hk⟩)
    ·exact ⟨.inl h, fun e => hn.1 (by rw [← h, e]; exact List.mem_map_of_mem hi)⟩
    ·exact ⟨.inr h, hk⟩
   ·rintro ⟨h | h, hk⟩
    ·exact .inl h
    ·exact .inr ⟨h, hk⟩
theorem KR.turn {h h' : Heap} {kb sb mb c tb j : Nat} {m : List KI} {i : KI} {us : List Value} {t : Thing} (x : KR h kb sb mb c m) (hj : m[j]? = some i)
  (p : PutO h h' mb (.map ⟨(m.map KI.ent).modify j (fun e => { e with val := ptr tb })⟩ c)) (B : Blk h tb us) (tx : TH h us t) (n : Lens t) :
  KR h' kb sb mb c (m.set j ⟨i.key, tb, us, t, i.born⟩) := by
 have ch := ch_putO x.map p
 have hi := List.mem_of_getElem? hj
 have km : ∀ {β : Type} (f : KI → β), f ⟨i.key, tb, us, t, i.born⟩ = f i → (m.set j ⟨i.key, tb, us, t, i.born⟩).map f = m.map f := fun f hf => by
  rw [List.map_set, hf]
  have : (m.map f)[j]? = some (f i) := by rw [List.getElem?_map, hj]; rfl
  rw [List.getElem?_eq_some_iff] at this
  obtain ⟨hlt, he⟩ := this
  rw [← he]; exact List.set_getElem_self hlt
 refine ⟨x.ks.ch ch, ?_, fun y hy => ?_, ?_, fun y hy => ?_, ?_, fun y hy => ?_, by rw [List.length_set]; exact x.len⟩
 ·show h'[mb]? = _
  rw [p.blk, map_set (us := us) (t := t) hj]
 ·rcases (mem_set x.nodup hj).1 hy with rfl | ⟨hy, _⟩
  ·exact ⟨ch.blk _ _ B, tx.ch ch, n⟩
  ·obtain ⟨h1, h2, h3⟩ := x.here y hy
   exact ⟨ch.blk _ _ h1, h2.ch ch, h3⟩
 ·rw [km KI.key rfl]; exact x.nodup
 ·rcases (mem_set x.nodup hj).1 hy with rfl | ⟨hy, _⟩
  ·exact x.born i hi
  ·exact x.born y hy
 ·rw [km KI.born rfl]; exact x.borns
 ·rcases (mem_set x.nodup hj).1 hy with rfl | ⟨hy, _⟩
  ·exact x.keys i hi
  ·exact x.keys y hy
theorem KR.erase {h h' : Heap} {kb sb mb c j : Nat} {m : List KI} (x : KR h kb sb mb c m) (p : PutO h h' mb (.map ⟨(m.map KI.ent).eraseIdx j⟩ c)) : KR h' kb sb mb c (m.eraseIdx j) := by
 have ch := ch_putO x.map p
 have sub : (m.eraseIdx j).Sublist m := List.eraseIdx_sublist m j
 refine ⟨x.ks.ch ch, ?_, fun y hy => ?_, x.nodup.sublist (sub.map _), fun y hy => x.born y (sub.subset hy), x.borns.sublist (sub.map _), fun y hy => x.keys y (sub.subset hy), Nat.le_trans sub.length_le x.len⟩
 ·show h'[mb]? = _
  rw [p.blk, map_erase]
 ·obtain ⟨h1, h2, h3⟩ := x.here y (sub.subset hy)
  exact ⟨ch.blk _ _ h1, h2.ch ch, h3⟩
def FateM (key : ByteArray) (m m' : List KI) : Fate → Prop
 |.no _ => m'.map KI.pr = m.map KI.pr
 |.drop => ∀ p, p ∈ m'.map KI.pr ↔ p ∈ m.map KI.pr ∧ p.1 ≠ key
 |.put t => ∀ p, p ∈ m'.map KI.pr ↔ p = (key, t) ∨ (p ∈ m.map KI.pr ∧ p.1 ≠ key)
theorem mem_pr {m : List KI} {p : ByteArray × Thing} : p ∈ m.map KI.pr ↔ ∃ i ∈ m, i.key = p.1 ∧ i.thing = p.2 := by
 rw [List.mem_map]
 constructor
 ·rintro ⟨i, hi, rfl⟩; exact ⟨i, hi, rfl, rfl⟩
 ·rintro ⟨i, hi, h1, h2⟩; exact ⟨i, hi, by cases p; simp_all [KI.pr]⟩
theorem fate_set {m : List KI} {j tb : Nat} {i : KI} {us : List Value} {t : Thing} (hn : (m.map KI.key).Nodup) (hj : m[j]? = some i) : FateM i.key m (m.set j ⟨i.key, tb, us, t, i.born⟩) (.put t) := by
 intro p
 rw [mem_pr, mem_pr]
 constructor
 ·rintro ⟨y, hy, h1, h2⟩
  rcases (mem_set hn hj).1 hy with rfl | ⟨hy, hk⟩
  ·exact .inl (by cases p; simp_all)
  ·exact .inr ⟨⟨y, hy, h1, h2⟩, fun e => hk (h1.trans e)⟩
 ·rintro (rfl | ⟨⟨y, hy, h1, h2⟩, hk⟩)
  ·exact ⟨_, (mem_set hn hj).2 (.inl rfl), rfl, rfl⟩
  ·exact ⟨y, (mem_set hn hj).2 (.inr ⟨hy, fun e => hk (h1.symm.trans e)⟩), h1, h2⟩
theorem fate_new {m : List KI} {tb b : Nat} {key : ByteArray} {us : List Value} {t : Thing} (hn : ∀ i ∈ m, i.key ≠ key) : FateM key m (m ++ [⟨key, tb, us, t, b⟩]) (.put t) := by
 intro p
 rw [mem_pr, mem_pr]
 constructor
 ·rintro ⟨y, hy, h1, h2⟩
  rcases List.mem_append.1 hy with hy | hy
  ·exact .inr ⟨⟨y, hy, h1, h2⟩, fun e => hn y hy (h1.trans e)⟩
  ·rw [List.mem_singleton] at hy
   subst hy
   exact .inl (by cases p; simp_all)
 ·rintro (rfl | ⟨⟨y, hy, h1, h2⟩, hk⟩)
  ·exact ⟨_, List.mem_append_right _ (List.mem_singleton.2 rfl), rfl, rfl⟩
  ·exact ⟨y, List.mem_append_left _ hy, h1, h2⟩
theorem fate_erase {m : List KI} {j : Nat} {i : KI} (hn : (m.map KI.key).Nodup) (hj : m[j]? = some i) : FateM i.key m (m.eraseIdx j) .drop := by
 intro p
 rw [mem_pr, mem_pr]
 constructor
 ·rintro ⟨y, hy, h1, h2⟩
  obtain ⟨hy, hk⟩ := (mem_erase hn hj).1 hy
  exact ⟨⟨y, hy, h1, h2⟩, fun e => hk (h1.trans e)⟩
 ·rintro ⟨⟨y, hy, h1, h2⟩, hk⟩
  exact ⟨y, (mem_erase hn hj).2 ⟨hy, fun e => hk (h1.symm.trans e)⟩, h1, h2⟩
theorem fate_none {m : List KI} {key : ByteArray} (hn : ∀ i ∈ m, i.key ≠ key) : FateM key m m .drop := by
 intro p
 constructor
 ·exact fun h => ⟨h, by obtain ⟨i, hi, h1, _⟩ := mem_pr.1 h; rw [← h1]; exact hn i hi⟩
 ·exact fun h => h.1
def ruleC (r : Rule) : List Value := [.bool r.name, .bool r.text, .bool r.number, .int .i64 r.kind, .bool r.makes, .func (.func r.f) #[] #[]]
theorem key_uniq {m : List KI} (hn : (m.map KI.key).Nodup) {i j : KI} (hi : i ∈ m) (hj : j ∈ m) (he : i.key = j.key) : i = j := by
 induction m with
 |nil => simp at hi
 |cons x m ih =>
  rw [List.map_cons, List.nodup_cons] at hn
  rcases List.mem_cons.1 hi with e1 | g1
  ·rcases List.mem_cons.1 hj with e2 | g2
   ·rw [e1, e2]
   ·exact absurd (by rw [← e1, he]; exact List.mem_map_of_mem g2) hn.1
  ·rcases List.mem_cons.1 hj with e2 | g2
   ·exact absurd (by rw [← e2, ← he]; exact List.mem_map_of_mem g1) hn.1
   ·exact ih hn.2 g1 g2
theorem LookK_calls {h : Heap} {kb sb mb c : Nat} {m : List KI} (key : ByteArray) (x : KR h kb sb mb c m) :
  CallsH Tryz.prog 110 [ptr kb, .string key] h (Ret fun r h' => ((∃ i ∈ m, i.key = key ∧ ∃ pv lv rv, r = .tuple #[.agg ⟨cellsT i.thing pv lv rv⟩, .bool true] ∧ TO h' pv lv rv i.thing ∧ ∀ b ∈ bl3 pv lv rv, h.size ≤ b) ∨
   ((∀ i ∈ m, i.key ≠ key) ∧ r = .tuple #[.agg ⟨zeroV⟩, .bool false])) ∧ Chg [] h h') := by
 rcases mfind_ents key m 0 with ⟨hmf, hno⟩ | ⟨j, i, hmf, hj, hik⟩
 ·refine (Look_none x.ks x.map (ents_fit m) hmf).mono fun e h' he => ?_
  cases e with
  |returned v => exact ⟨.inr ⟨hno, he.1⟩, he.2⟩
  |panicked ch => exact he.elim
  |outgrown => exact he.elim
 have hi : i ∈ m := List.mem_of_getElem? hj
 obtain ⟨Bi, ti, ni⟩ := x.here i hi
 refine f110_calls (by simp) ?_
 intro b4 h1 g1
 have hc := g1.chg
 have x1 := x.ext hc
 refine call_ret (none_calls x1.ks) ?_
 rintro _ h9 ⟨rfl, e9⟩
 have e9 := e9.symm
 subst e9
 refine Ei _ (Ai (cell_blk x1.ks.k rfl) (Ei _ (Ai (cell_blk x1.ks.s rfl) ?_)))
 refine Ai rfl (Ei (m.map KI.ent) (Ei c (Ai x1.map (Ai (ents_fit m) ?_))))
 rw [hmf]
 refine Ei _ (Ai (cell_blk x1.ks.k rfl) (Ei _ (Ai (cell_blk x1.ks.s rfl) ?_)))
 refine Ai rfl (Ei (m.map KI.ent) (Ei c (Ai x1.map (Ai (ents_fit m) ?_))))
 rw [hmf]
 have B1 := Bi.chg hc (by simp)
 have t1 := ti.ext hc
 refine Ei i.vs (Ai t1.len (Ai (cells_blk B1) ?_))
 refine call_ret (copied_own t1 ni) ?_
 rintro _ h2 ⟨⟨pv, lv, rv, rfl, o2, fr⟩, hc2⟩
 have Bz : Blk h2 b4 zeroV := (show Blk h1 b4 zeroV from g1.blk).chg hc2 (by simp)
 refine Ei _ (Ai Bz (Ai (by decide) (Ai rfl (Ai (thing_one o2.th) ?_))))
 intro h3 p3
 have i4 := g1.id
 have z4 := g1.size
 have B3 : Blk h3 b4 (cellsT i.thing pv lv rv) := p3.blk
 refine Ei _ (Ai rfl (Ai (cells_blk B3) ?_))
 refine Ai (.inl ⟨i, hi, hik, pv, lv, rv, rfl, o2.chg p3.chg (fun b hb => by have := fr b hb; simp; omega), fun b hb => by have := fr b hb; omega⟩) ((hc.nil hc2).fresh p3.chg (by simp; omega))
theorem TO.nil {h : Heap} {t : Thing} (h1 : t.pairs = []) (h2 : t.list = []) (h3 : t.ranks = []) : TO h (.slice none 0 0) (.slice none 0 0) (.slice none 0 0) t :=
 ⟨by rw [h1]; exact OL.nil, by rw [h2]; exact OL.nil, by rw [h3]; exact OL.nil, by simp [vblk, ablk], by simp [vblk, ablk], by simp [vblk, ablk]⟩
def OldM (m : List KI) (key : ByteArray) : Option Thing → Prop
 |some t => ∃ i ∈ m, i.key = key ∧ i.thing = t
 |none => ∀ i ∈ m, i.key ≠ key
def choose_ (r : Rule) (old : Option Thing) (e : Eff) (full : Bool) : Fate :=
 match old with
 |none => if r.makes = false then .no 5 else endF (doneT { zeroT with kind := r.kind } e) false full
 |some t => if r.kind ≠ 0 ∧ t.kind ≠ r.kind then .no 170 else endF (doneT t e) true full
theorem rule_ones (r : Rule) : ∀ u ∈ (Rule.val r).cells.toList, u.oneCell' = true := by
 intro u hu
 simp only [Rule.val, ruleV, Value.cells, List.mem_cons, List.not_mem_nil, or_false] at hu
 rcases hu with rfl | rfl | rfl | rfl | rfl | rfl <;> rfl
theorem ki_nodup {m : List KI} (hn : (m.map KI.key).Nodup) : (m.map KI.pr).Nodup := by
 have : m.map KI.key = (m.map KI.pr).map Prod.fst := by rw [List.map_map]; rfl
 rw [this] at hn
 exact List.Pairwise.imp (fun h e => h (by rw [e])) (List.pairwise_map.1 hn)
theorem up_nodup {S : Space} (hu : UpS S) : S.Nodup := hu.imp fun h e => by rw [e, sless_irrefl] at h; cases h
theorem sorted_len {m : List KI} {S : Space} (hn : (m.map KI.key).Nodup) (hs : Sorted m S) : S.length = m.length := by
 have := ((List.perm_ext_iff_of_nodup (up_nodup hs.up) (ki_nodup hn)).2 hs.mem).length_eq
 simpa using this
theorem old_find {m : List KI} {S : Space} (hs : Sorted m S) (key : ByteArray) : OldM m key (findS S key) := by
 cases hf : findS S key with
 |some t =>
  obtain ⟨i, hi, h1, h2⟩ := mem_pr.1 ((hs.mem _).1 (findS_mem hf))
  exact ⟨i, hi, h1, h2⟩
 |none =>
  intro i hi hk
  have : (key, i.thing) ∈ S := (hs.mem _).2 (mem_pr.2 ⟨i, hi, hk, rfl⟩)
  rw [findS_some hs.up this] at hf
  cases hf
theorem in_things {m : List KI} {S : Space} (hs : Sorted m S) (hi : InS S) : ∀ i ∈ m, TIn i.thing := fun i h => hi i.pr ((hs.mem _).2 (List.mem_map_of_mem h))
theorem fate_sorted {m m' : List KI} {S : Space} {key : ByteArray} {f : Fate} (hs : Sorted m S) (hf : FateM key m m' f) : Sorted m' (f.space S key) := by
 refine ⟨up_space f hs.up, fun p => ?_⟩
 cases f with
 |no n =>
  have hf : m'.map KI.pr = m.map KI.pr := hf
  rw [hf]; exact hs.mem p
 |drop => rw [hf p, ← hs.mem]; exact mem_dropS
 |put t => rw [hf p, ← hs.mem]; exact mem_putS
theorem applyS_no {S : Space} {e : Eff} {d : List Eff} (h : (fateS S e).num ≠ 0) : applyS S (e :: d) = (S, 0, (fateS S e).num) := by
 rw [applyS, if_neg h]
theorem applyS_yes {S : Space} {e : Eff} {d : List Eff} (h : (fateS S e).num = 0) : applyS S (e :: d) = ((applyS ((fateS S e).space S e.key) d).1, (applyS ((fateS S e).space S e.key) d).2.1 + 1, (applyS ((fateS S e).space S e.key) d).2.2) := by
 rw [applyS, if_pos h]
theorem no_space {S : Space} {e : Eff} (h : (fateS S e).num ≠ 0) : (fateS S e).space S e.key = S := by
 cases hf : fateS S e with
 |no n => rfl
 |drop => rw [hf] at h; exact absurd rfl h
 |put t => rw [hf] at h; exact absurd rfl h
end Go.Proofs.YtjnijlnmbjjgpaaGreatDoor
set_option maxRecDepth 100000
namespace Go.Proofs.YtjnijlnmbjjgpaaGreatDoor.C
open Go Go.Sx Go.Sx.S
end Go.Proofs.YtjnijlnmbjjgpaaGreatDoor.C
namespace Go.Proofs.YtjnijlnmbjjgpaaGreatDoor
open Go Go.Sx C
section
variable {α : Type}
end
end Go.Proofs.YtjnijlnmbjjgpaaGreatDoor
namespace Go.Proofs.YtjnijlnmbjjgpaaGreatDoor
open Go Go.Sx C
def getS (S : Space) (key : ByteArray) (now : Int) : Option Thing := match findS S key with
 |some t => if goneT t now = true then none else some t
 |none => none
theorem find_mem {m : List KI} {S : Space} (hs : Sorted m S) {i : KI} (hi : i ∈ m) : findS S i.key = some i.thing :=
 findS_some hs.up ((hs.mem _).2 (mem_pr.2 ⟨i, hi, rfl, rfl⟩))
theorem find_out {m : List KI} {S : Space} (hs : Sorted m S) {key : ByteArray} (hno : ∀ i ∈ m, i.key ≠ key) : findS S key = none := by
 cases hf : findS S key with
 |none => rfl
 |some t =>
  obtain ⟨i, hi, h1, h2⟩ := mem_pr.1 ((hs.mem _).1 (findS_mem hf))
  exact absurd h1 (hno i hi)
theorem KGet_calls {h : Heap} {kb sb mb c : Nat} {m : List KI} {S : Space} (key : ByteArray) (now : Int) (x : KR h kb sb mb c m) (hs : Sorted m S) :
  CallsH Tryz.prog 45 [ptr kb, .string key, .int .i64 now] h (Ret fun r h' => (∃ us, r = .tuple #[.agg ⟨us⟩, .bool (getS S key now).isSome] ∧ TH h' us ((getS S key now).getD zeroT)) ∧ Chg [] h h') := by
 obtain ⟨go, hgo⟩ : ∃ go, go = getS S key now := ⟨_, rfl⟩
 rw [← hgo]
 refine f45_calls (by simp) ?_
 intro b6 h1 g1
 have c1 := g1.chg
 have i6 := g1.id
 have z1 := g1.size
 have B6 : Blk h1 b6 zeroV := g1.blk
 refine call_ret (LookK_calls key (x.ext c1)) ?_
 rintro _ h2 ⟨hlook, c2⟩
 have z2 := c2.size
 rcases hlook with ⟨i, hi, hik, pv, lv, rv, rfl, o2, fr⟩ | ⟨hno, rfl⟩
 ·have hfs : findS S key = some i.thing := by rw [← hik]; exact find_mem hs hi
  intro b8 h3 g3
  refine Ei zeroV (Ai g3.blk (Ai (by decide) (Ai rfl (Ai (thing_one o2.th) ?_))))
  intro h4 p4
  have g4 := g3.put p4
  have B8 : Blk h4 b8 (cellsT i.thing pv lv rv) := p4.blk
  have o4 := o2.ext g4.chg
  have c14 : Chg [] h1 h4 := c2.nil g4.chg
  refine Ei _ (Ai rfl (Ai (cells_blk B8) ?_))
  refine call_ret (gone_calls o4.th now) ?_
  rintro _ h5 ⟨rfl, c5⟩
  have c15 := c14.nil c5
  have o5 := o4.ext c5
  have B65 := B6.chg c15 (by simp)
  have B85 := B8.chg c5 (by simp)
  cases hg : (i.thing.hasU && decide (i.thing.unt ≤ now)) with
  |true =>
   have e : go = none := by rw [hgo]; unfold getS; rw [hfs]; simp only; rw [if_pos (show goneT i.thing now = true from hg)]
   subst e
   refine Ei zeroV (Ai B65 (Ai (by decide) (Ai rfl (Ai (thing_one (zero_TH (h := h5))) ?_))))
   intro h6 p6
   have B66 : Blk h6 b6 zeroV := p6.blk
   refine Ei zeroV (Ai rfl (Ai (cells_blk B66) ?_))
   exact Ai (Ei zeroV (Ai rfl zero_TH)) ((c1.nil c15).fresh p6.chg (by simp; omega))
  |false =>
   have e : go = some i.thing := by rw [hgo]; unfold getS; rw [hfs]; simp only; rw [if_neg (by unfold goneT; rw [hg]; simp)]
   subst e
   refine Ei _ (Ai rfl (Ai (cells_blk B85) ?_))
   refine Ei zeroV (Ai B65 (Ai (by decide) (Ai rfl (Ai (thing_one o5.th) ?_))))
   intro h6 p6
   have B66 : Blk h6 b6 (cellsT i.thing pv lv rv) := p6.blk
   have o6 := o5.chg p6.chg (fun b hb => by have := fr b hb; simp; omega)
   refine Ei _ (Ai rfl (Ai (cells_blk B66) ?_))
   exact Ai (Ei _ (Ai rfl o6.th)) ((c1.nil c15).fresh p6.chg (by simp; omega))
 ·have e : go = none := by rw [hgo]; unfold getS; rw [find_out hs hno]
  subst e
  intro b8 h3 g3
  refine Ei zeroV (Ai g3.blk (Ai (by decide) (Ai rfl (Ai (thing_one (zero_TH (h := h3))) ?_))))
  intro h4 p4
  have g4 := g3.put p4
  have c14 : Chg [] h1 h4 := c2.nil g4.chg
  have B64 := B6.chg c14 (by simp)
  refine Ei zeroV (Ai B64 (Ai (by decide) (Ai rfl (Ai (thing_one (zero_TH (h := h4))) ?_))))
  intro h6 p6
  have B66 : Blk h6 b6 zeroV := p6.blk
  refine Ei zeroV (Ai rfl (Ai (cells_blk B66) ?_))
  exact Ai (Ei zeroV (Ai rfl zero_TH)) ((c1.nil c14).fresh p6.chg (by simp; omega))
end Go.Proofs.YtjnijlnmbjjgpaaGreatDoor
set_option maxRecDepth 100000
namespace Go.Proofs.YtjnijlnmbjjgpaaGreatDoor.C
open Go Go.Sx Go.Sx.S
def f231r0 : LS := [o 6 (.mv (.const (.slice none 0 0)))]
def f231r1 : LS := [o 12 (.mv (t 0)),o 13 (.mv (t 2)),o 14 (.call 110 [(t 12), (t 13)]),o 11 (.mv (t 14)),o 15 (.ext (t 11) 0),o 16 (.ext (t 11) 1),o 7 (.new [(.int .i64 0), (.string ⟨#[]⟩), (.slice none 0 0), (.slice none 0 0), (.slice none 0 0), (.bool false), (.int .i64 0)]),
 q (.st 7 (t 7) (t 15)),o 8 (.mv (t 16))]
def f231r2 : LS := [o 18 (.mv (t 0)),o 19 (.mv (t 2)),o 20 (.mv (t 1)),o 21 (.call 45 [(t 18), (t 19), (t 20)]),o 17 (.mv (t 21)),o 22 (.ext (t 17) 0),o 23 (.ext (t 17) 1),o 9 (.new [(.int .i64 0), (.string ⟨#[]⟩), (.slice none 0 0), (.slice none 0 0), (.slice none 0 0), (.bool false), (.int .i64 0)]),
 q (.st 7 (t 9) (t 22)),o 10 (.mv (t 23))]
def f231r3 : LS := [o 24 (.mv (t 8)),o 25 (.mv (t 24)),
 g 26 25 (.mv (t 10)),
 g 27 25 (.un .not (t 26)),o 28 (.pick (t 25) (t 27) (b false))]
def f231r4 : LS := [o 29 (.mv (t 2)),o 30 (.build [(.int .i64 0), (.string ⟨#[]⟩), (.string ⟨#[]⟩), (.string ⟨#[]⟩), (.int .i64 0)] [(0, 1), (1, 1)] [(i 1), (t 29)]),o 31 (.bslice [(.int .i64 0), (.string ⟨#[]⟩), (.string ⟨#[]⟩), (.string ⟨#[]⟩), (.int .i64 0)] 1 [(0, 5)] [(t 30)]),o 6 (.mv (t 31))]
def f231r5 : LS := [o 6 (.mv (.const (.slice none 0 0)))]
def f231 : SCode := (.seq (.ops f231r0) (.seq (.ops f231r1) (.seq (.seq (.ops f231r2) (.seq (.ops f231r3) (.cond (t 28) (.seq (.ops f231r4) .ret) .skip))) (.seq (.ops f231r5) .ret))))
theorem f231_calls : Sound Tryz.prog 231 32 f231 [.t 6] := sound_of mixed Tryz.func231 rfl (by kernel_rfl) (by kernel_rfl) (by kernel_rfl)
end Go.Proofs.YtjnijlnmbjjgpaaGreatDoor.C
namespace Go.Proofs.YtjnijlnmbjjgpaaGreatDoor
open Go Go.Sx C
structure SFit (d : List ByteArray) : Prop where
 len : d.length < 4611686018427387904
 each : ∀ e ∈ d, e.size < 4611686018427387904
structure SSmall (d : List ByteArray) : Prop where
 len : d.length ≤ 20
 each : ∀ e ∈ d, e.size ≤ 300
def goneE (key : ByteArray) : Eff := ⟨1, key, noText, noText, 0⟩
def dropsS (S : Space) (key : ByteArray) (now : Int) : List Eff := if (findS S key).isSome = true ∧ (getS S key now).isSome = false then [goneE key] else []
theorem look_is {h : Heap} {kb sb mb c : Nat} {m : List KI} {S : Space} (key : ByteArray) (x : KR h kb sb mb c m) (hs : Sorted m S) :
  CallsH Tryz.prog 110 [ptr kb, .string key] h (Ret fun r h' => (∃ us, us.length = 7 ∧ (∀ u ∈ us, u.oneCell' = true) ∧ r = .tuple #[.agg ⟨us⟩, .bool (findS S key).isSome]) ∧ Chg [] h h') := by
 refine (LookK_calls key x).mono fun e h' he => ?_
 cases e with
 |panicked ch => exact he.elim
 |outgrown => exact he.elim
 |returned v =>
  obtain ⟨hr, hc⟩ := he
  refine ⟨?_, hc⟩
  rcases hr with ⟨i, hi, hk, pv, lv, rv, rfl, ht, _⟩ | ⟨hno, rfl⟩
  ·have tx : TH h' (cellsT i.thing pv lv rv) i.thing := ht.th
   refine ⟨_, tx.len, thing_one tx, ?_⟩
   rw [← hk, find_mem hs hi]; rfl
  ·refine ⟨zeroV, rfl, by decide, ?_⟩
   rw [find_out hs hno]; rfl
theorem BDrops_calls {h : Heap} {kb sb mb c : Nat} {m : List KI} {S : Space} (key : ByteArray) (now : Int) (x : KR h kb sb mb c m) (hs : Sorted m S) :
  CallsH Tryz.prog 231 [ptr kb, .int .i64 now, .string key] h (Ret fun r h' => OL encD 5 h' r (dropsS S key now) ∧ (∀ b ∈ vblk r, h.size ≤ b) ∧ Chg [] h h') := by
 obtain ⟨fs, hfs⟩ : ∃ b, b = (findS S key).isSome := ⟨_, rfl⟩
 refine f231_calls (by simp) ?_
 refine call_ret (look_is key x hs) ?_
 rintro _ h1 ⟨⟨us, hl, h1c, rfl⟩, c1⟩
 rw [← hfs]
 intro b7 h2 g2
 refine Ei _ (Ai g2.blk (Ai (by decide) (Ai hl (Ai h1c ?_))))
 intro h3 p3
 have g3 := g2.put p3
 have c3 := c1.nil g3.chg
 obtain ⟨go, hgo⟩ : ∃ go, go = getS S key now := ⟨_, rfl⟩
 refine call_ret (KGet_calls key now (x.ext c3) hs) ?_
 rintro _ h4 ⟨⟨vs, rfl, tv⟩, c4⟩
 rw [← hgo] at tv ⊢
 intro b9 h5 g5
 refine Ei _ (Ai g5.blk (Ai (by decide) (Ai tv.len (Ai (thing_one tv) ?_))))
 intro h6 p6
 have g6 := g5.put p6
 have c6 := (c3.nil c4).nil g6.chg
 unfold dropsS
 rw [← hfs, ← hgo]
 cases fs with
 |false =>
  rw [if_neg (by simp)]
  exact ⟨OL.nil, fun b hb => (nomatch (show b ∈ ([] : List Nat) from hb)), c6⟩
 |true =>
  cases go with
  |some t =>
   rw [if_neg (by simp)]
   exact ⟨OL.nil, fun b hb => (nomatch (show b ∈ ([] : List Nat) from hb)), c6⟩
  |none =>
   rw [if_pos ⟨rfl, rfl⟩]
   intro b h7 g7
   have z := c6.size
   have i7 := g7.id
   refine ⟨⟨_, 1, rfl, rfl, Nat.le_refl _, [], ?_, rfl⟩, ?_, c6.nil g7.chg⟩
   ·exact g7.blk
   ·intro b' hb'
    have hb' : b' ∈ [b] := hb'
    have hb' := List.mem_singleton.1 hb'
    omega
end Go.Proofs.YtjnijlnmbjjgpaaGreatDoor
set_option maxRecDepth 100000
namespace Go.Proofs.YtjnijlnmbjjgpaaGreatDoor.C
open Go Go.Sx Go.Sx.S
def f41r0 : LS := [o 2 (.new [(.int .i64 0), (.int .i64 0), (.string ⟨#[]⟩), (.slice none 0 0)])]
def f41r1 : LS := [o 3 (.mv (t 0)),o 4 (.build [(.int .i64 0), (.int .i64 0), (.string ⟨#[]⟩), (.slice none 0 0)] [(0, 1), (2, 1)] [(i 2), (t 3)]),
 q (.st 4 (t 2) (t 4))]
def f41 : SCode := (.seq (.ops f41r0) (.seq (.ops f41r1) .ret))
theorem f41_calls : Sound Tryz.prog 41 5 f41 [.cn 2 4] := sound_of mixed Tryz.func41 rfl (by kernel_rfl) (by kernel_rfl) (by kernel_rfl)
end Go.Proofs.YtjnijlnmbjjgpaaGreatDoor.C
namespace Go.Proofs.YtjnijlnmbjjgpaaGreatDoor
open Go Go.Sx C
theorem OL.lt {α : Type} {enc : α → List Value} {size : Nat} {h : Heap} {v : Value} {l : List α} (o : OL enc size h v l) : ∀ b ∈ vblk v, b < h.size := by
 obtain ⟨a, c, rfl, h1⟩ := o
 intro b hb
 cases a with
 |none => simp [vblk, ablk] at hb
 |some a =>
  obtain ⟨b', o', sp⟩ := a
  cases sp with
  |some q => exact h1.elim
  |none =>
   obtain ⟨_, _, rest, hB, _⟩ := h1
   have hb : b ∈ [b'] := hb
   rw [List.mem_singleton.1 hb]
   exact hB.lt
end Go.Proofs.YtjnijlnmbjjgpaaGreatDoor
