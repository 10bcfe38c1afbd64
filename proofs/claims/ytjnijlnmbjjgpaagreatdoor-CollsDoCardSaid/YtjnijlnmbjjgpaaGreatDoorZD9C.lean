/-
  The simplified code of this seat's functions, and that it is what the program's code comes to. Printed by a program (wip/print.lean).
  Layer 7: texts and members compared.
  Layer 7: lists compared, lists that rise (printed by gen.py).
  Layer 7: texts and members in order.
  Layer 7: things; two the same (printed by gend.py).
  Layer 7: how many items, how long their texts.
  Layer 7: each name once; what is large.
  Layer 7: may a thing be? As the program asks.
  Layer 7: may a thing be? As the document asks; and that the two ask the same.
  Layer 7: may a thing be? The document's loops.
  Layer 7: may a thing be? The document's answer, whole.
  Layer 7: copies; a keyspace (printed by genk.py).
  Layer 7: the rules; a text that is put.
  Layer 7: what stands under a key.
  Layer 7: known.
  Slices of one's own, cut, written, grown in the middle; small words.
  Layer 7: items put into slices, taken out of them (printed by genins.py).
  Layer 7: where an item stands, or must stand (printed by genbs.py).
  Layer 7: lists of things under keys, plain.
  Layer 7: the reference's Find, Put, Get, Names.
  Layer 7: a keyspace as it lies; plain laws of the reference's Of.
  Layer 7: a keyspace of things (keys.Of).
  DERIVED. MADE BY PROGRAM (lay-iter.mjs) off ytjnijlnmbjjgpaagreatdoor.cut.gsa: THE SHELF's CONTRACTS ON 'slices.Sorted(maps.Keys(m))' LAID AT THIS DUMP: 2 map types. NO WALK OF THE LIBRARY's TEXT: each is one application of a contract over any P and ρ (Derived/Shelf/SlIter/, Derived/Shelf/SortM/).
  Layer 7: the sorted keys of a keyspace's map (over the shelf's contracts).
  Layer 7: All: what it goes over, by rising keys.
  Layer 7: has a keyspace just these things (taborlaw07.same).
  Layer 7: vast, sorted; the reference's Of and Names.
  Layer 7: taborlaw07.KeysAll.
  Layer 7: what an effect makes of a thing: plain laws.
  Layer 7: what the effects' rules do to a thing (printed by gendo.py).
  Layer 7: a keyspace behind an effect: plain laws.
  Layer 7: keys' one, whatever the effect (printed by genone.py).
  Layer 7: keys' one, whatever the effect, from its beginning (printed by genone2.py).
  Layer 7: keys' Apply, whatever the effects.
  The simplified code of this seat's functions, and that it is what the program's code comes to. Printed by a program (wip/print.lean).
  Layer 7: the reference's pairs, members, ranks (printed by genref.py).
  Layer 7: the reference's uses, kind, Count, Drop (printed by genuse.py).
  Layer 7: the reference's done (printed by gendone.py).
  Layer 7: a list of things behind an effect: plain laws.
  Layer 7: what stands there and is not gone: Get, the reference's Names.
  Layer 7: keys' Names and Size.
  The simplified code of this seat's functions, and that it is what the program's code comes to. Printed by a program (wip/print.lean).
  Layer 8: what is too much; what a gone thing costs.
  The simplified code of this seat's functions, and that it is what the program's code comes to. Printed by a program (wip/print.lean).
  Layer 8: a command that is asked: giving up, its effects, its arguments.
  Layer 8: a command that is asked: a text, a number of its arguments, a text that is put.
  Contracts of the library's functions, laid at this dump. Printed by a program (mklay.py).
  Layer 8: which texts are numbers, in plain words: what the library's parsing and printing come to is what the document's reading comes to.
  Layer 8: a text's number, by the program: the library's ParseInt and FormatInt by their contracts.
  Layer 8: a text is put; an argument's number; sums; replies.
  Layer 8: replies, sums, an argument's number; a number is added to one.
  The state of a walk: what stands in blocks of the call's own, each apart from the others.
  Layer 8: a command that is asked, as what stands in a walk.
  Layer 8: a text's number, by the document's reading.
  Layer 8: the document's number of a text.
  The simplified code of this seat's functions, and that it is what the program's code comes to. Printed by a program (wip/print.lean).
-/
import Derived.Test.YtjnijlnmbjjgpaaGreatDoorProg
import Derived.WalkKit
import Derived.Laws.Externs
import Derived.Lib.Overlaps
import Derived.Shelf.SlIter.Nil
import Derived.Shelf.SortM.Plain
import Derived.Shelf.SortM.SortNone
import Derived.Ground.GgzProg
import Derived.Ground.SlgmProg
import Derived.Shelf.Strconv.ParseIntPublic10
import Derived.Shelf.Strconv.Itoa4
import Derived.Lib.ParseIntB
import Derived.Lib.ItoaNum
import Derived.Test.YtjnijlnmbjjgpaaGreatDoorZD9B
abbrev Go.Sx.LS : Type := List Go.Sx.SOper
namespace Go.Sx.S
abbrev M (d s:Nat):SOper:=o d (.mv (t s))
abbrev I (d:Nat) (n:Int):SOper:=o d (.mv (i n))
abbrev A (d k s:Nat):SOper:=o d (.fa k (t s))
abbrev L (d s:Nat):SOper:=o d (.ld1 (t s))
abbrev K (d s:Nat):SOper:=o d (.nilck (t s))
abbrev X (d s k:Nat):SOper:=o d (.ext (t s) k)
abbrev E (d s:Nat) (n:Int):SOper:=o d (.cmp .eql (t s) (i n))
abbrev D (d s:Nat) (n:Int):SOper:=o d (.ar .add (t s) (i n))
abbrev G (d k s n:Nat):SOper:=o d (.ixs k (t s) (t n))
end Go.Sx.S
abbrev Go.Sx.SCode.j (l:List SOper) (c:SCode):SCode:=.seq (.ops l) c
abbrev Go.Sx.SCode.k (n:Nat) (l:List SOper):SCode:=.cond (.tmp n) (.seq (.ops l) .ret) .skip
set_option maxRecDepth 100000
namespace Go.Proofs.YtjnijlnmbjjgpaaGreatDoor.C
open Go Go.Sx Go.Sx.S
theorem mixed:Tryz.prog.follows .mixedOrders=true:=by kernel_rfl
theorem sdo {f:Nat} {fn:Func} {c:Code} {sc:SCode} {rs:List SRes} (hf:Tryz.prog.funcs[f]? =some fn) (hb:fn.body=some c) (h:(okFn Tryz.prog f,comp Tryz.prog fn.ntmps c,cres Tryz.prog fn.results.toList)=(true,some sc,some rs)):Sound Tryz.prog f fn.ntmps sc rs:=
 sound_of mixed hf hb (congrArg (fun x=>x.1) h) (congrArg (fun x=>x.2.1) h) (congrArg (fun x=>x.2.2) h)
def f16r0:LS:=[o 0 (.mv (.const (.pointer none)))]
def f16r1:LS:=[o 1 (.mkm),o 2 (.build [(.map none)] [(0,1)] [(t 1)]),o 3 (.box (t 2)),o 4 (.build [(.pointer none)] [(0,1)] [(t 3)]),o 5 (.box (t 4)),M 0 5]
def f16:SCode:=(.j f16r0 (.j f16r1 .ret))
theorem f16_calls:Sound Tryz.prog 16 6 f16 [.t 0]:=sdo Tryz.func16 rfl (by kernel_rfl)
def f19r0:LS:=[o 2 (.mv (.const (.pointer none))),I 3 0]
def f19r1:LS:=[o 10 (.call 16 []),M 4 10]
def f19r2:LS:=[M 11 0,o 12 (.len (t 11)),I 13 0]
def f19r3:LS:=[o 14 (.cmp .lss (t 13) (t 12))]
def f19r4:LS:=[G 15 8 11 13,o 16 (.ldn 8 (t 15)),o 6 (.new [(.string ⟨#[]⟩),(.int .i64 0),(.string ⟨#[]⟩),(.slice none 0 0),(.slice none 0 0),(.slice none 0 0),(.bool false),(.int .i64 0)]),q (.st 8 (t 6) (t 16))]
def f19r5:LS:=[M 18 4,K 19 18,A 20 0 19,L 21 20,K 22 21,A 23 0 22,L 24 23,A 25 0 6,L 26 25,o 27 (.look .str (.pointer none) true (t 24) (t 26)),M 17 27,X 28 17 0,X 29 17 1,M 7 28,M 8 29]
def f19r6:LS:=[M 30 8,M 31 30,
 n 32 31 (.fa 0 (t 6)),
 n 33 31 (.ld1 (t 32)),
 n 34 31 (.lens (t 33)),
 n 35 31 (.cmp .gtr (t 34) (i 1048576)),o 36 (.pick (t 31) (b true) (t 35)),M 37 36,
 n 38 37 (.fa 1 (t 6)),
 n 39 37 (.ldn 7 (t 38)),
 n 40 37 (.call 35 [(t 39)]),
 n 41 37 (.un .not (t 40)),o 42 (.pick (t 37) (b true) (t 41))]
def f19r7:LS:=[o 2 (.mv (.const (.pointer none))),I 3 2]
def f19r8:LS:=[A 43 1 6,o 44 (.ldn 7 (t 43)),o 45 (.call 36 [(t 44)]),o 9 (.new [(.int .i64 0),(.string ⟨#[]⟩),(.slice none 0 0),(.slice none 0 0),(.slice none 0 0),(.bool false),(.int .i64 0)]),q (.st 7 (t 9) (t 45))]
def f19r9:LS:=[M 46 4,K 47 46,A 48 0 47,L 49 48,K 50 49,A 51 0 50,L 52 51,A 53 0 6,L 54 53,q (.mup .str (t 52) (t 54) (t 9))]
def f19r10:LS:=[D 55 13 1,M 13 55]
def f19l11:SCode:=(.j f19r3 (.seq (.cond (t 14) .skip (.exit 0)) (.seq (.block 1 (.j f19r4 (.j f19r5 (.seq (.j f19r6 (.k 42 f19r7)) (.j f19r8 (.ops f19r9)))))) (.ops f19r10))))
def f19r12:LS:=[M 56 0,o 57 (.len (t 56)),o 58 (.cmp .gtr (t 57) (i 65536))]
def f19r13:LS:=[o 2 (.mv (.const (.pointer none))),I 3 3]
def f19r14:LS:=[M 59 4,M 2 59,I 3 0]
def f19:SCode:=(.j f19r0 (.j f19r1 (.seq (.j f19r2 (.block 0 (.loop f19l11))) (.seq (.j f19r12 (.k 58 f19r13)) (.j f19r14 .ret)))))
theorem f19_calls:Sound Tryz.prog 19 60 f19 [.t 2,.t 3]:=sdo Tryz.func19 rfl (by kernel_rfl)
def f24r0:LS:=[o 2 (.mv (.const (.slice none 0 0))),I 3 0]
def f24r1:LS:=[o 4 (.mv (.const (.slice none 0 0)))]
def f24r2:LS:=[I 5 0]
def f24r3:LS:=[M 8 5,M 9 0,o 10 (.len (t 9)),o 11 (.cmp .lss (t 8) (t 10))]
def f24r4:LS:=[M 15 4,M 16 0,M 17 5,G 18 8 16 17,A 19 0 18,L 20 19,o 21 (.call 46 [(t 15),(t 20)]),M 14 21,X 22 14 0,X 23 14 1,M 6 22,M 7 23]
def f24r5:LS:=[M 24 7,M 25 24,
 n 26 25 (.mv (t 0)),
 n 27 25 (.mv (t 5)),
 n 28 25 (.ixs 8 (t 26) (t 27)),
 n 29 25 (.fa 0 (t 28)),
 n 30 25 (.ld1 (t 29)),
 n 31 25 (.lens (t 30)),
 n 32 25 (.cmp .gtr (t 31) (i 1048576)),o 33 (.pick (t 25) (b true) (t 32)),M 34 33,
 n 35 34 (.mv (t 0)),
 n 36 34 (.mv (t 5)),
 n 37 34 (.ixs 8 (t 35) (t 36)),
 n 38 34 (.fa 1 (t 37)),
 n 39 34 (.ldn 7 (t 38)),
 n 40 34 (.call 47 [(t 39)]),
 n 41 34 (.un .not (t 40)),o 42 (.pick (t 34) (b true) (t 41))]
def f24r6:LS:=[o 2 (.mv (.const (.slice none 0 0))),I 3 2]
def f24r7:LS:=[M 43 4,M 44 0,M 45 5,G 46 8 44 45,A 47 0 46,L 48 47,M 49 0,M 50 5,G 51 8 49 50,A 52 1 51,o 53 (.ldn 7 (t 52)),o 54 (.call 48 [(t 43),(t 48),(t 53)]),M 4 54]
def f24r8:LS:=[M 12 5,D 13 12 1,M 5 13]
def f24l9:SCode:=(.seq (.j f24r3 (.cond (t 11) .skip (.exit 0))) (.seq (.block 1 (.j f24r4 (.seq (.j f24r5 (.k 42 f24r6)) (.ops f24r7)))) (.ops f24r8)))
def f24r10:LS:=[M 55 0,o 56 (.len (t 55)),o 57 (.cmp .gtr (t 56) (i 65536))]
def f24r11:LS:=[o 2 (.mv (.const (.slice none 0 0))),I 3 3]
def f24r12:LS:=[M 58 4,M 2 58,I 3 0]
def f24:SCode:=(.j f24r0 (.j f24r1 (.seq (.j f24r2 (.block 0 (.loop f24l9))) (.seq (.j f24r10 (.k 57 f24r11)) (.j f24r12 .ret)))))
theorem f24_calls:Sound Tryz.prog 24 59 f24 [.t 2,.t 3]:=sdo Tryz.func24 rfl (by kernel_rfl)
def f35r0:LS:=[o 1 (.box (t 0)),o 2 (.mv (b false))]
def f35r1:LS:=[A 6 5 1,L 7 6,o 8 (.un .not (t 7)),M 9 8,
 g 10 9 (.fa 6 (t 1)),
 g 11 9 (.ld1 (t 10)),
 g 12 9 (.cmp .neq (t 11) (i 0)),o 13 (.pick (t 9) (t 12) (b false)),M 14 13,
 n 15 14 (.ldn 7 (t 1)),
 n 16 14 (.call 65 [(t 15)]),
 n 17 14 (.cmp .gtr (t 16) (i 65536)),o 18 (.pick (t 14) (b true) (t 17)),M 19 18,
 n 20 19 (.fa 1 (t 1)),
 n 21 19 (.ld1 (t 20)),
 n 22 19 (.bslice [(.string ⟨#[]⟩)] 1 [(0,1)] [(t 21)]),
 n 23 19 (.call 66 [(t 22)]),
 n 24 19 (.un .not (t 23)),o 25 (.pick (t 19) (b true) (t 24)),M 26 25,
 n 27 26 (.fa 3 (t 1)),
 n 28 26 (.ld1 (t 27)),
 n 29 26 (.call 66 [(t 28)]),
 n 30 26 (.un .not (t 29)),o 31 (.pick (t 26) (b true) (t 30)),M 32 31,
 n 33 32 (.ldn 7 (t 1)),
 n 34 32 (.call 67 [(t 33)]),
 n 35 32 (.call 66 [(t 34)]),
 n 36 32 (.un .not (t 35)),o 37 (.pick (t 32) (b true) (t 36))]
def f35r2:LS:=[o 2 (.mv (b false))]
def f35r3:LS:=[A 38 2 1,L 39 38,o 40 (.len (t 39)),A 41 3 1,L 42 41,o 43 (.len (t 42)),A 44 4 1,L 45 44,o 46 (.len (t 45)),M 3 40,M 4 43,M 5 46]
def f35r4:LS:=[A 47 0 1,L 48 47]
def f35r5:LS:=[E 50 48 1,M 49 50]
def f35r6:LS:=[M 51 3,M 52 4,o 53 (.ar .add (t 51) (t 52)),M 54 5,o 55 (.ar .add (t 53) (t 54)),E 56 55 0,M 2 56]
def f35r7:LS:=[E 58 48 2,M 57 58]
def f35r8:LS:=[M 59 3,o 60 (.cmp .gtr (t 59) (i 0)),M 61 60,
 g 62 61 (.mv (t 4)),
 g 63 61 (.mv (t 5)),
 g 64 61 (.ar .add (t 62) (t 63)),
 g 65 61 (.cmp .eql (t 64) (i 0)),o 66 (.pick (t 61) (t 65) (b false)),M 67 66,
 g 68 67 (.fa 1 (t 1)),
 g 69 67 (.ld1 (t 68)),
 g 70 67 (.cmp .eql (t 69) e),o 71 (.pick (t 67) (t 70) (b false)),M 72 71,
 g 73 72 (.fa 2 (t 1)),
 g 74 72 (.ld1 (t 73)),
 g 75 72 (.call 68 [(t 74),(u 69)]),o 76 (.pick (t 72) (t 75) (b false)),M 2 76]
def f35r9:LS:=[E 78 48 3,M 77 78]
def f35r10:LS:=[M 79 4,o 80 (.cmp .gtr (t 79) (i 0)),M 81 80,
 g 82 81 (.mv (t 3)),
 g 83 81 (.mv (t 5)),
 g 84 81 (.ar .add (t 82) (t 83)),
 g 85 81 (.cmp .eql (t 84) (i 0)),o 86 (.pick (t 81) (t 85) (b false)),M 87 86,
 g 88 87 (.fa 1 (t 1)),
 g 89 87 (.ld1 (t 88)),
 g 90 87 (.cmp .eql (t 89) e),o 91 (.pick (t 87) (t 90) (b false)),M 2 91]
def f35r11:LS:=[E 93 48 4,M 92 93]
def f35r12:LS:=[M 94 4,o 95 (.cmp .gtr (t 94) (i 0)),M 96 95,
 g 97 96 (.mv (t 3)),
 g 98 96 (.mv (t 5)),
 g 99 96 (.ar .add (t 97) (t 98)),
 g 100 96 (.cmp .eql (t 99) (i 0)),o 101 (.pick (t 96) (t 100) (b false)),M 102 101,
 g 103 102 (.fa 1 (t 1)),
 g 104 102 (.ld1 (t 103)),
 g 105 102 (.cmp .eql (t 104) e),o 106 (.pick (t 102) (t 105) (b false)),M 107 106,
 g 108 107 (.fa 3 (t 1)),
 g 109 107 (.ld1 (t 108)),
 g 110 107 (.call 71 [(t 109),(u 70)]),o 111 (.pick (t 107) (t 110) (b false)),M 2 111]
def f35r13:LS:=[E 113 48 5,M 112 113]
def f35r14:LS:=[M 114 5,o 115 (.cmp .gtr (t 114) (i 0)),M 116 115,
 g 117 116 (.mv (t 3)),
 g 118 116 (.mv (t 4)),
 g 119 116 (.ar .add (t 117) (t 118)),
 g 120 116 (.cmp .eql (t 119) (i 0)),o 121 (.pick (t 116) (t 120) (b false)),M 122 121,
 g 123 122 (.fa 1 (t 1)),
 g 124 122 (.ld1 (t 123)),
 g 125 122 (.cmp .eql (t 124) e),o 126 (.pick (t 122) (t 125) (b false)),M 127 126,
 g 128 127 (.fa 4 (t 1)),
 g 129 127 (.ld1 (t 128)),
 g 130 127 (.call 72 [(t 129),(u 73)]),o 131 (.pick (t 127) (t 130) (b false)),M 132 131,
 g 133 132 (.fa 4 (t 1)),
 g 134 132 (.ld1 (t 133)),
 g 135 132 (.call 74 [(t 134)]),o 136 (.pick (t 132) (t 135) (b false)),M 2 136]
def f35r15:LS:=[o 2 (.mv (b false))]
def f35:SCode:=(.j f35r0 (.seq (.j f35r1 (.k 37 f35r2)) (.j f35r3 (.seq (.j f35r4 (.block 0 (.j f35r5 (.cond (t 49) (.j f35r6 .ret) (.j f35r7 (.cond (t 57) (.j f35r8 .ret) (.j f35r9 (.cond (t 77) (.j f35r10 .ret) (.j f35r11 (.cond (t 92) (.j f35r12 .ret) (.j f35r13 (.k 112 f35r14)))))))))))) (.j f35r15 .ret)))))
theorem f35_calls:Sound Tryz.prog 35 137 f35 [.t 2]:=sdo Tryz.func35 rfl (by kernel_rfl)
def f36r0:LS:=[o 1 (.box (t 0)),o 2 (.new [(.int .i64 0),(.string ⟨#[]⟩),(.slice none 0 0),(.slice none 0 0),(.slice none 0 0),(.bool false),(.int .i64 0)])]
def f36r1:LS:=[A 3 2 1,L 4 3,A 6 3 1,L 7 6,A 9 4 1,L 10 9,o 5 (.callq 75 [(t 4)]),A 12 2 1,o 8 (.callq 76 [(t 7)]),o 11 (.callq 77 [(t 10)]),q (.st 1 (t 12) (t 5)),A 13 3 1,q (.st 1 (t 13) (t 8)),A 14 4 1,q (.st 1 (t 14) (t 11))]
def f36r2:LS:=[o 15 (.ldn 7 (t 1)),q (.st 7 (t 2) (t 15))]
def f36:SCode:=(.j f36r0 (.j f36r1 (.j f36r2 .ret)))
theorem f36_calls:Sound Tryz.prog 36 16 f36 [.cn 2 7]:=sdo Tryz.func36 rfl (by kernel_rfl)
def f37r0:LS:=[o 4 (.mv (b false))]
def f37r1:LS:=[M 5 0,o 6 (.call 42 [(t 5)]),M 7 6,
 n 8 7 (.mv (t 1)),
 n 9 7 (.call 42 [(t 8)]),o 10 (.pick (t 7) (b true) (t 9))]
def f37r2:LS:=[M 11 0,o 12 (.call 42 [(t 11)]),M 13 12,
 g 14 13 (.mv (t 1)),
 g 15 13 (.call 42 [(t 14)]),o 16 (.pick (t 13) (t 15) (b false)),M 4 16]
def f37r3:LS:=[M 17 0,K 18 17,A 19 0 18,L 20 19,K 21 20,A 22 0 21,L 23 22,M 24 1,K 25 24,A 26 0 25,L 27 26,K 28 27,A 29 0 28,L 30 29,o 31 (.call 78 [(t 23),(t 30),(u 79)]),M 4 31]
def f37:SCode:=(.j f37r0 (.seq (.j f37r1 (.k 10 f37r2)) (.j f37r3 .ret)))
theorem f37_calls:Sound Tryz.prog 37 32 f37 [.t 4]:=sdo Tryz.func37 rfl (by kernel_rfl)
def f42r0:LS:=[o 2 (.mv (b false))]
def f42r1:LS:=[M 3 0,o 4 (.eqn 0 false (t 3)),M 5 4,
 n 6 5 (.mv (t 0)),
 n 7 5 (.nilck (t 6)),
 n 8 5 (.fa 0 (t 7)),
 n 9 5 (.ld1 (t 8)),
 n 10 5 (.eqn 0 false (t 9)),o 11 (.pick (t 5) (b true) (t 10)),M 2 11]
def f42:SCode:=(.j f42r0 (.j f42r1 .ret))
theorem f42_calls:Sound Tryz.prog 42 12 f42 [.t 2]:=sdo Tryz.func42 rfl (by kernel_rfl)
def f45r0:LS:=[o 6 (.new [(.int .i64 0),(.string ⟨#[]⟩),(.slice none 0 0),(.slice none 0 0),(.slice none 0 0),(.bool false),(.int .i64 0)]),o 7 (.mv (b false))]
def f45r1:LS:=[M 11 0,M 12 1,o 13 (.call 110 [(t 11),(t 12)]),M 10 13,X 14 10 0,X 15 10 1,o 8 (.new [(.int .i64 0),(.string ⟨#[]⟩),(.slice none 0 0),(.slice none 0 0),(.slice none 0 0),(.bool false),(.int .i64 0)]),q (.st 7 (t 8) (t 14)),M 9 15]
def f45r2:LS:=[M 16 9,o 17 (.un .not (t 16)),M 18 17,
 n 19 18 (.ldn 7 (t 8)),
 n 20 18 (.mv (t 2)),
 n 21 18 (.call 112 [(t 19),(t 20)]),o 22 (.pick (t 18) (b true) (t 21))]
def f45r3:LS:=[o 23 (.build [(.int .i64 0),(.string ⟨#[]⟩),(.slice none 0 0),(.slice none 0 0),(.slice none 0 0),(.bool false),(.int .i64 0)] [] []),q (.st 7 (t 6) (t 23)),o 7 (.mv (b false))]
def f45r4:LS:=[o 24 (.ldn 7 (t 8)),q (.st 7 (t 6) (t 24)),o 7 (.mv (b true))]
def f45:SCode:=(.j f45r0 (.j f45r1 (.seq (.j f45r2 (.k 22 f45r3)) (.j f45r4 .ret))))
theorem f45_calls:Sound Tryz.prog 45 25 f45 [.cn 6 7,.t 7]:=sdo Tryz.func45 rfl (by kernel_rfl)
def f46r0:LS:=[I 4 0,o 5 (.mv (b false))]
def f46r1:LS:=[I 6 0]
def f46r2:LS:=[M 7 6,M 8 0,o 9 (.len (t 8)),o 10 (.cmp .lss (t 7) (t 9))]
def f46r3:LS:=[M 13 0,M 14 6,G 15 8 13 14,A 16 0 15,L 17 16,M 18 1,o 19 (.cmp .eql (t 17) (t 18))]
def f46r4:LS:=[M 20 6,M 4 20,o 5 (.mv (b true))]
def f46r5:LS:=[M 21 1,M 22 0,M 23 6,G 24 8 22 23,A 25 0 24,L 26 25,o 27 (.call 113 [(t 21),(t 26)])]
def f46r6:LS:=[M 28 6,M 4 28,o 5 (.mv (b false))]
def f46r7:LS:=[M 11 6,D 12 11 1,M 6 12]
def f46l8:SCode:=(.seq (.j f46r2 (.cond (t 10) .skip (.exit 0))) (.seq (.block 1 (.seq (.j f46r3 (.k 19 f46r4)) (.j f46r5 (.k 27 f46r6)))) (.ops f46r7)))
def f46r9:LS:=[M 29 0,o 30 (.len (t 29)),M 4 30,o 5 (.mv (b false))]
def f46:SCode:=(.j f46r0 (.seq (.j f46r1 (.block 0 (.loop f46l8))) (.j f46r9 .ret)))
theorem f46_calls:Sound Tryz.prog 46 31 f46 [.t 4,.t 5]:=sdo Tryz.func46 rfl (by kernel_rfl)
def f47r0:LS:=[o 1 (.box (t 0)),o 2 (.mv (b false))]
def f47r1:LS:=[A 10 2 1,L 11 10,o 12 (.len (t 11)),A 13 3 1,L 14 13,o 15 (.len (t 14)),A 16 4 1,L 17 16,o 18 (.len (t 17)),M 3 12,M 4 15,M 5 18]
def f47r2:LS:=[A 19 5 1,L 20 19,o 21 (.un .not (t 20)),M 22 21,
 g 23 22 (.fa 6 (t 1)),
 g 24 22 (.ld1 (t 23)),
 g 25 22 (.cmp .neq (t 24) (i 0)),o 26 (.pick (t 22) (t 25) (b false)),M 27 26,
 n 28 27 (.mv (t 3)),
 n 29 27 (.cmp .gtr (t 28) (i 65536)),o 30 (.pick (t 27) (b true) (t 29)),M 31 30,
 n 32 31 (.mv (t 4)),
 n 33 31 (.cmp .gtr (t 32) (i 65536)),o 34 (.pick (t 31) (b true) (t 33)),M 35 34,
 n 36 35 (.mv (t 5)),
 n 37 35 (.cmp .gtr (t 36) (i 65536)),o 38 (.pick (t 35) (b true) (t 37)),M 39 38,
 n 40 39 (.fa 1 (t 1)),
 n 41 39 (.ld1 (t 40)),
 n 42 39 (.lens (t 41)),
 n 43 39 (.cmp .gtr (t 42) (i 1048576)),o 44 (.pick (t 39) (b true) (t 43)),M 45 44,
 n 46 45 (.fa 0 (t 1)),
 n 47 45 (.ld1 (t 46)),
 n 48 45 (.cmp .neq (t 47) (i 1)),
 n 49 45 (.mv (t 48)),
 g 50 49 (.fa 1 (t 1)),
 g 51 49 (.ld1 (t 50)),
 g 52 49 (.cmp .neq (t 51) e),
 n 53 45 (.pick (t 49) (t 52) (b false)),o 54 (.pick (t 45) (b true) (t 53))]
def f47r3:LS:=[o 2 (.mv (b false))]
def f47r4:LS:=[I 6 0]
def f47r5:LS:=[M 55 6,M 56 3,o 57 (.cmp .lss (t 55) (t 56))]
def f47r6:LS:=[A 60 2 1,L 61 60,M 62 6,G 63 2 61 62,A 64 0 63,L 65 64,o 66 (.lens (t 65)),o 67 (.cmp .gtr (t 66) (i 1048576)),M 68 67,
 n 69 68 (.fa 2 (t 1)),
 n 70 68 (.ld1 (t 69)),
 n 71 68 (.mv (t 6)),
 n 72 68 (.ixs 2 (t 70) (t 71)),
 n 73 68 (.fa 1 (t 72)),
 n 74 68 (.ld1 (t 73)),
 n 75 68 (.lens (t 74)),
 n 76 68 (.cmp .gtr (t 75) (i 1048576)),o 77 (.pick (t 68) (b true) (t 76)),M 78 77,
 n 79 78 (.mv (t 6)),
 n 80 78 (.cmp .gtr (t 79) (i 0)),
 n 81 78 (.mv (t 80)),
 g 82 81 (.fa 2 (t 1)),
 g 83 81 (.ld1 (t 82)),
 g 84 81 (.mv (t 6)),
 g 85 81 (.ar .sub (t 84) (i 1)),
 g 86 81 (.ixs 2 (t 83) (t 85)),
 g 87 81 (.fa 0 (t 86)),
 g 88 81 (.ld1 (t 87)),
 g 89 81 (.fa 2 (t 1)),
 g 90 81 (.ld1 (t 89)),
 g 91 81 (.mv (t 6)),
 g 92 81 (.ixs 2 (t 90) (t 91)),
 g 93 81 (.fa 0 (t 92)),
 g 94 81 (.ld1 (t 93)),
 g 95 81 (.call 113 [(t 88),(t 94)]),
 g 96 81 (.un .not (t 95)),
 n 97 78 (.pick (t 81) (t 96) (b false)),o 98 (.pick (t 78) (b true) (t 97))]
def f47r7:LS:=[o 2 (.mv (b false))]
def f47r8:LS:=[M 58 6,D 59 58 1,M 6 59]
def f47l9:SCode:=(.seq (.j f47r5 (.cond (t 57) .skip (.exit 0))) (.seq (.block 1 (.j f47r6 (.k 98 f47r7))) (.ops f47r8)))
def f47r10:LS:=[I 7 0]
def f47r11:LS:=[M 99 7,M 100 4,o 101 (.cmp .lss (t 99) (t 100))]
def f47r12:LS:=[A 104 3 1,L 105 104,M 106 7,G 107 1 105 106,L 108 107,o 109 (.lens (t 108)),o 110 (.cmp .gtr (t 109) (i 1048576)),M 111 110,
 n 112 111 (.fa 0 (t 1)),
 n 113 111 (.ld1 (t 112)),
 n 114 111 (.cmp .eql (t 113) (i 4)),
 n 115 111 (.mv (t 114)),
 g 116 115 (.mv (t 7)),
 g 117 115 (.cmp .gtr (t 116) (i 0)),
 n 118 111 (.pick (t 115) (t 117) (b false)),
 n 119 111 (.mv (t 118)),
 g 120 119 (.fa 3 (t 1)),
 g 121 119 (.ld1 (t 120)),
 g 122 119 (.mv (t 7)),
 g 123 119 (.ar .sub (t 122) (i 1)),
 g 124 119 (.ixs 1 (t 121) (t 123)),
 g 125 119 (.ld1 (t 124)),
 g 126 119 (.fa 3 (t 1)),
 g 127 119 (.ld1 (t 126)),
 g 128 119 (.mv (t 7)),
 g 129 119 (.ixs 1 (t 127) (t 128)),
 g 130 119 (.ld1 (t 129)),
 g 131 119 (.call 113 [(t 125),(t 130)]),
 g 132 119 (.un .not (t 131)),
 n 133 111 (.pick (t 119) (t 132) (b false)),o 134 (.pick (t 111) (b true) (t 133))]
def f47r13:LS:=[o 2 (.mv (b false))]
def f47r14:LS:=[M 102 7,D 103 102 1,M 7 103]
def f47l15:SCode:=(.seq (.j f47r11 (.cond (t 101) .skip (.exit 2))) (.seq (.block 3 (.j f47r12 (.k 134 f47r13))) (.ops f47r14)))
def f47r16:LS:=[I 8 0]
def f47r17:LS:=[M 135 8,M 136 5,o 137 (.cmp .lss (t 135) (t 136))]
def f47r18:LS:=[A 140 4 1,L 141 140,M 142 8,G 143 2 141 142,A 144 0 143,L 145 144,o 146 (.lens (t 145)),o 147 (.cmp .gtr (t 146) (i 1048576)),M 148 147,
 n 149 148 (.mv (t 8)),
 n 150 148 (.cmp .gtr (t 149) (i 0)),
 n 151 148 (.mv (t 150)),
 g 152 151 (.fa 4 (t 1)),
 g 153 151 (.ld1 (t 152)),
 g 154 151 (.mv (t 8)),
 g 155 151 (.ar .sub (t 154) (i 1)),
 g 156 151 (.ixs 2 (t 153) (t 155)),
 g 157 151 (.ldn 2 (t 156)),
 g 158 151 (.fa 4 (t 1)),
 g 159 151 (.ld1 (t 158)),
 g 160 151 (.mv (t 8)),
 g 161 151 (.ixs 2 (t 159) (t 160)),
 g 162 151 (.ldn 2 (t 161)),
 g 163 151 (.call 114 [(t 157),(t 162)]),
 g 164 151 (.un .not (t 163)),
 n 165 148 (.pick (t 151) (t 164) (b false)),o 166 (.pick (t 148) (b true) (t 165))]
def f47r19:LS:=[o 2 (.mv (b false))]
def f47r20:LS:=[I 9 0]
def f47r21:LS:=[M 167 9,M 168 8,o 169 (.cmp .lss (t 167) (t 168))]
def f47r22:LS:=[A 172 4 1,L 173 172,M 174 9,G 175 2 173 174,A 176 0 175,L 177 176,A 178 4 1,L 179 178,M 180 8,G 181 2 179 180,A 182 0 181,L 183 182,o 184 (.cmp .eql (t 177) (t 183))]
def f47r23:LS:=[o 2 (.mv (b false))]
def f47r24:LS:=[M 170 9,D 171 170 1,M 9 171]
def f47l25:SCode:=(.seq (.j f47r21 (.cond (t 169) .skip (.exit 6))) (.seq (.block 7 (.j f47r22 (.k 184 f47r23))) (.ops f47r24)))
def f47r26:LS:=[M 138 8,D 139 138 1,M 8 139]
def f47l27:SCode:=(.seq (.j f47r17 (.cond (t 137) .skip (.exit 4))) (.seq (.block 5 (.seq (.j f47r18 (.k 166 f47r19)) (.j f47r20 (.block 6 (.loop f47l25))))) (.ops f47r26)))
def f47r28:LS:=[A 185 0 1,L 186 185]
def f47r29:LS:=[E 188 186 1,M 187 188]
def f47r30:LS:=[M 189 3,M 190 4,o 191 (.ar .add (t 189) (t 190)),M 192 5,o 193 (.ar .add (t 191) (t 192)),E 194 193 0,M 2 194]
def f47r31:LS:=[E 196 186 2,M 195 196]
def f47r32:LS:=[M 197 3,o 198 (.cmp .gtr (t 197) (i 0)),M 199 198,
 g 200 199 (.mv (t 4)),
 g 201 199 (.mv (t 5)),
 g 202 199 (.ar .add (t 200) (t 201)),
 g 203 199 (.cmp .eql (t 202) (i 0)),o 204 (.pick (t 199) (t 203) (b false)),M 2 204]
def f47r33:LS:=[E 206 186 3,M 205 206]
def f47r34:LS:=[E 207 186 4,M 205 207]
def f47r35:LS:=[M 208 4,o 209 (.cmp .gtr (t 208) (i 0)),M 210 209,
 g 211 210 (.mv (t 3)),
 g 212 210 (.mv (t 5)),
 g 213 210 (.ar .add (t 211) (t 212)),
 g 214 210 (.cmp .eql (t 213) (i 0)),o 215 (.pick (t 210) (t 214) (b false)),M 2 215]
def f47r36:LS:=[E 217 186 5,M 216 217]
def f47r37:LS:=[M 218 5,o 219 (.cmp .gtr (t 218) (i 0)),M 220 219,
 g 221 220 (.mv (t 3)),
 g 222 220 (.mv (t 4)),
 g 223 220 (.ar .add (t 221) (t 222)),
 g 224 220 (.cmp .eql (t 223) (i 0)),o 225 (.pick (t 220) (t 224) (b false)),M 2 225]
def f47r38:LS:=[o 2 (.mv (b false))]
def f47:SCode:=(.j f47r0 (.j f47r1 (.seq (.j f47r2 (.k 54 f47r3)) (.seq (.j f47r4 (.block 0 (.loop f47l9))) (.seq (.j f47r10 (.block 2 (.loop f47l15))) (.seq (.j f47r16 (.block 4 (.loop f47l27))) (.seq (.j f47r28 (.block 8 (.j f47r29 (.cond (t 187) (.j f47r30 .ret) (.j f47r31 (.cond (t 195) (.j f47r32 .ret) (.seq (.j f47r33 (.cond (t 205) .skip (.ops f47r34))) (.cond (t 205) (.j f47r35 .ret) (.j f47r36 (.k 216 f47r37)))))))))) (.j f47r38 .ret))))))))
theorem f47_calls:Sound Tryz.prog 47 226 f47 [.t 2]:=sdo Tryz.func47 rfl (by kernel_rfl)
def f48r0:LS:=[o 5 (.box (t 2)),o 6 (.mv (.const (.slice none 0 0)))]
def f48r1:LS:=[M 11 0,M 12 1,o 13 (.call 46 [(t 11),(t 12)]),M 10 13,X 14 10 0,X 15 10 1,M 7 14,M 8 15]
def f48r2:LS:=[M 16 0,M 17 7,o 18 (.slc 8 (t 16) none (some (t 17))),o 19 (.appn 8 128 [(.string ⟨#[]⟩),(.int .i64 0),(.string ⟨#[]⟩),(.slice none 0 0),(.slice none 0 0),(.slice none 0 0),(.bool false),(.int .i64 0)] (t 18)),M 9 19]
def f48r3:LS:=[M 20 9,M 21 1,o 22 (.ldn 7 (t 5)),o 23 (.build [(.string ⟨#[]⟩),(.int .i64 0),(.string ⟨#[]⟩),(.slice none 0 0),(.slice none 0 0),(.slice none 0 0),(.bool false),(.int .i64 0)] [(0,1),(1,7)] [(t 21),(t 22)]),o 24 (.bslice [(.string ⟨#[]⟩),(.int .i64 0),(.string ⟨#[]⟩),(.slice none 0 0),(.slice none 0 0),(.slice none 0 0),(.bool false),(.int .i64 0)] 1 [(0,8)] [(t 23)]),o 25 (.app 8 128 [(.string ⟨#[]⟩),(.int .i64 0),(.string ⟨#[]⟩),(.slice none 0 0),(.slice none 0 0),(.slice none 0 0),(.bool false),(.int .i64 0)] (t 20) (t 24)),M 9 25]
def f48r4:LS:=[M 26 8]
def f48r5:LS:=[M 27 7,D 28 27 1,M 7 28]
def f48r6:LS:=[M 29 9,M 30 0,M 31 7,o 32 (.slc 8 (t 30) (some (t 31)) none),o 33 (.app 8 128 [(.string ⟨#[]⟩),(.int .i64 0),(.string ⟨#[]⟩),(.slice none 0 0),(.slice none 0 0),(.slice none 0 0),(.bool false),(.int .i64 0)] (t 29) (t 32)),M 6 33]
def f48:SCode:=(.j f48r0 (.j f48r1 (.j f48r2 (.j f48r3 (.seq (.j f48r4 (.cond (t 26) (.ops f48r5) .skip)) (.j f48r6 .ret))))))
theorem f48_calls:Sound Tryz.prog 48 34 f48 [.t 6]:=sdo Tryz.func48 rfl (by kernel_rfl)
def f52r0:LS:=[o 1 (.box (t 0)),o 2 (.mv (.const .nilFunc))]
def f52r1:LS:=[o 3 (.fn 118 [] [(t 1)]),M 2 3]
def f52:SCode:=(.j f52r0 (.j f52r1 .ret))
theorem f52_calls:Sound Tryz.prog 52 4 f52 [.t 2]:=sdo Tryz.func52 rfl (by kernel_rfl)
def f53r0:LS:=[o 2 (.box (t 0)),o 3 (.box (t 1)),o 4 (.mv (b false))]
def f53r1:LS:=[A 8 0 2,L 9 8,A 10 0 3,L 11 10,o 12 (.cmp .neq (t 9) (t 11)),M 13 12,
 n 14 13 (.fa 1 (t 2)),
 n 15 13 (.ld1 (t 14)),
 n 16 13 (.fa 1 (t 3)),
 n 17 13 (.ld1 (t 16)),
 n 18 13 (.cmp .neq (t 15) (t 17)),o 19 (.pick (t 13) (b true) (t 18)),M 20 19,
 n 21 20 (.fa 5 (t 2)),
 n 22 20 (.ld1 (t 21)),
 n 23 20 (.fa 5 (t 3)),
 n 24 20 (.ld1 (t 23)),
 n 25 20 (.cmpb true (t 22) (t 24)),o 26 (.pick (t 20) (b true) (t 25)),M 27 26,
 n 28 27 (.fa 6 (t 2)),
 n 29 27 (.ld1 (t 28)),
 n 30 27 (.fa 6 (t 3)),
 n 31 27 (.ld1 (t 30)),
 n 32 27 (.cmp .neq (t 29) (t 31)),o 33 (.pick (t 27) (b true) (t 32)),M 34 33,
 n 35 34 (.fa 2 (t 2)),
 n 36 34 (.ld1 (t 35)),
 n 37 34 (.len (t 36)),
 n 38 34 (.fa 2 (t 3)),
 n 39 34 (.ld1 (t 38)),
 n 40 34 (.len (t 39)),
 n 41 34 (.cmp .neq (t 37) (t 40)),o 42 (.pick (t 34) (b true) (t 41)),M 43 42,
 n 44 43 (.fa 3 (t 2)),
 n 45 43 (.ld1 (t 44)),
 n 46 43 (.len (t 45)),
 n 47 43 (.fa 3 (t 3)),
 n 48 43 (.ld1 (t 47)),
 n 49 43 (.len (t 48)),
 n 50 43 (.cmp .neq (t 46) (t 49)),o 51 (.pick (t 43) (b true) (t 50)),M 52 51,
 n 53 52 (.fa 4 (t 2)),
 n 54 52 (.ld1 (t 53)),
 n 55 52 (.len (t 54)),
 n 56 52 (.fa 4 (t 3)),
 n 57 52 (.ld1 (t 56)),
 n 58 52 (.len (t 57)),
 n 59 52 (.cmp .neq (t 55) (t 58)),o 60 (.pick (t 52) (b true) (t 59))]
def f53r2:LS:=[o 4 (.mv (b false))]
def f53r3:LS:=[I 5 0]
def f53r4:LS:=[M 61 5,A 62 2 2,L 63 62,o 64 (.len (t 63)),o 65 (.cmp .lss (t 61) (t 64))]
def f53r5:LS:=[A 68 2 2,L 69 68,M 70 5,G 71 2 69 70,o 72 (.ldn 2 (t 71)),A 73 2 3,L 74 73,M 75 5,G 76 2 74 75,o 77 (.ldn 2 (t 76)),o 78 (.eqa true [.str,.str] (t 72) (t 77))]
def f53r6:LS:=[o 4 (.mv (b false))]
def f53r7:LS:=[M 66 5,D 67 66 1,M 5 67]
def f53l8:SCode:=(.seq (.j f53r4 (.cond (t 65) .skip (.exit 0))) (.seq (.block 1 (.j f53r5 (.k 78 f53r6))) (.ops f53r7)))
def f53r9:LS:=[I 6 0]
def f53r10:LS:=[M 79 6,A 80 3 2,L 81 80,o 82 (.len (t 81)),o 83 (.cmp .lss (t 79) (t 82))]
def f53r11:LS:=[A 86 3 2,L 87 86,M 88 6,G 89 1 87 88,L 90 89,A 91 3 3,L 92 91,M 93 6,G 94 1 92 93,L 95 94,o 96 (.cmp .neq (t 90) (t 95))]
def f53r12:LS:=[o 4 (.mv (b false))]
def f53r13:LS:=[M 84 6,D 85 84 1,M 6 85]
def f53l14:SCode:=(.seq (.j f53r10 (.cond (t 83) .skip (.exit 2))) (.seq (.block 3 (.j f53r11 (.k 96 f53r12))) (.ops f53r13)))
def f53r15:LS:=[I 7 0]
def f53r16:LS:=[M 97 7,A 98 4 2,L 99 98,o 100 (.len (t 99)),o 101 (.cmp .lss (t 97) (t 100))]
def f53r17:LS:=[A 104 4 2,L 105 104,M 106 7,G 107 2 105 106,o 108 (.ldn 2 (t 107)),A 109 4 3,L 110 109,M 111 7,G 112 2 110 111,o 113 (.ldn 2 (t 112)),o 114 (.eqa true [.str,(.int .i64)] (t 108) (t 113))]
def f53r18:LS:=[o 4 (.mv (b false))]
def f53r19:LS:=[M 102 7,D 103 102 1,M 7 103]
def f53l20:SCode:=(.seq (.j f53r16 (.cond (t 101) .skip (.exit 4))) (.seq (.block 5 (.j f53r17 (.k 114 f53r18))) (.ops f53r19)))
def f53r21:LS:=[o 4 (.mv (b true))]
def f53:SCode:=(.j f53r0 (.seq (.j f53r1 (.k 60 f53r2)) (.seq (.j f53r3 (.block 0 (.loop f53l8))) (.seq (.j f53r9 (.block 2 (.loop f53l14))) (.seq (.j f53r15 (.block 4 (.loop f53l20))) (.j f53r21 .ret))))))
theorem f53_calls:Sound Tryz.prog 53 115 f53 [.t 4]:=sdo Tryz.func53 rfl (by kernel_rfl)
def f65r0:LS:=[o 1 (.box (t 0)),I 2 0]
def f65r1:LS:=[A 3 2 1,L 4 3,o 5 (.len (t 4)),A 6 3 1,L 7 6,o 8 (.len (t 7)),o 9 (.ar .add (t 5) (t 8)),A 10 4 1,L 11 10,o 12 (.len (t 11)),o 13 (.ar .add (t 9) (t 12)),M 2 13]
def f65:SCode:=(.j f65r0 (.j f65r1 .ret))
theorem f65_calls:Sound Tryz.prog 65 14 f65 [.t 2]:=sdo Tryz.func65 rfl (by kernel_rfl)
def f66r0:LS:=[o 2 (.mv (b false))]
def f66r1:LS:=[M 3 0,o 4 (.call 143 [(t 3),(u 144)]),o 5 (.un .not (t 4)),M 2 5]
def f66:SCode:=(.j f66r0 (.j f66r1 .ret))
theorem f66_calls:Sound Tryz.prog 66 6 f66 [.t 2]:=sdo Tryz.func66 rfl (by kernel_rfl)
def f67r0:LS:=[o 1 (.box (t 0)),o 2 (.mv (.const (.slice none 0 0)))]
def f67r1:LS:=[o 3 (.mv (.const (.slice none 0 0)))]
def f67r2:LS:=[A 8 2 1,L 9 8,o 10 (.len (t 9)),I 11 0]
def f67r3:LS:=[o 12 (.cmp .lss (t 11) (t 10))]
def f67r4:LS:=[G 13 2 9 11,o 14 (.ldn 2 (t 13)),o 5 (.new [(.string ⟨#[]⟩),(.string ⟨#[]⟩)]),q (.st 2 (t 5) (t 14))]
def f67r5:LS:=[M 15 3,A 16 0 5,L 17 16,A 18 1 5,L 19 18,o 20 (.bslice [(.string ⟨#[]⟩),(.string ⟨#[]⟩)] 2 [(0,1),(1,1)] [(t 17),(t 19)]),o 21 (.app 1 16 [(.string ⟨#[]⟩)] (t 15) (t 20)),M 3 21]
def f67r6:LS:=[D 22 11 1,M 11 22]
def f67l7:SCode:=(.j f67r3 (.seq (.cond (t 12) .skip (.exit 0)) (.seq (.block 1 (.j f67r4 (.ops f67r5))) (.ops f67r6))))
def f67r8:LS:=[A 23 4 1,L 24 23,o 25 (.len (t 24)),I 26 0]
def f67r9:LS:=[o 27 (.cmp .lss (t 26) (t 25))]
def f67r10:LS:=[G 28 2 24 26,o 29 (.ldn 2 (t 28)),o 7 (.new [(.string ⟨#[]⟩),(.int .i64 0)]),q (.st 2 (t 7) (t 29))]
def f67r11:LS:=[M 30 3,A 31 0 7,L 32 31,o 33 (.bslice [(.string ⟨#[]⟩)] 1 [(0,1)] [(t 32)]),o 34 (.app 1 16 [(.string ⟨#[]⟩)] (t 30) (t 33)),M 3 34]
def f67r12:LS:=[D 35 26 1,M 26 35]
def f67l13:SCode:=(.j f67r9 (.seq (.cond (t 27) .skip (.exit 2)) (.seq (.block 3 (.j f67r10 (.ops f67r11))) (.ops f67r12))))
def f67r14:LS:=[M 36 3,M 2 36]
def f67:SCode:=(.j f67r0 (.j f67r1 (.seq (.j f67r2 (.block 0 (.loop f67l7))) (.seq (.j f67r8 (.block 2 (.loop f67l13))) (.j f67r14 .ret)))))
theorem f67_calls:Sound Tryz.prog 67 37 f67 [.t 2]:=sdo Tryz.func67 rfl (by kernel_rfl)
def f68r0:LS:=[o 4 (.mv (b false))]
def f68r1:LS:=[I 5 1]
def f68r2:LS:=[M 6 5,M 7 0,o 8 (.len (t 7)),o 9 (.cmp .lss (t 6) (t 8))]
def f68r3:LS:=[M 12 1,M 13 0,M 14 5,o 15 (.ar .sub (t 14) (i 1)),G 16 2 13 15,o 17 (.ldn 2 (t 16)),M 18 0,M 19 5,G 20 2 18 19,o 21 (.ldn 2 (t 20)),o 22 (.callv (t 12) [(t 17),(t 21)]),o 23 (.cmp .geq (t 22) (i 0))]
def f68r4:LS:=[o 4 (.mv (b false))]
def f68r5:LS:=[M 10 5,D 11 10 1,M 5 11]
def f68l6:SCode:=(.seq (.j f68r2 (.cond (t 9) .skip (.exit 0))) (.seq (.block 1 (.j f68r3 (.k 23 f68r4))) (.ops f68r5)))
def f68r7:LS:=[o 4 (.mv (b true))]
def f68:SCode:=(.j f68r0 (.seq (.j f68r1 (.block 0 (.loop f68l6))) (.j f68r7 .ret)))
theorem f68_calls:Sound Tryz.prog 68 24 f68 [.t 4]:=sdo Tryz.func68 rfl (by kernel_rfl)
def f69r0:LS:=[o 2 (.box (t 0)),o 3 (.box (t 1)),I 4 0]
def f69r1:LS:=[A 5 0 2,L 6 5,A 7 0 3,L 8 7,o 9 (.call 70 [(t 6),(t 8)]),M 4 9]
def f69:SCode:=(.j f69r0 (.j f69r1 .ret))
theorem f69_calls:Sound Tryz.prog 69 10 f69 [.t 4]:=sdo Tryz.func69 rfl (by kernel_rfl)
def f70r0:LS:=[I 4 0]
def f70r1:LS:=[M 5 0,M 6 1,o 7 (.call 145 [(t 5),(t 6)]),M 4 7]
def f70:SCode:=(.j f70r0 (.j f70r1 .ret))
theorem f70_calls:Sound Tryz.prog 70 8 f70 [.t 4]:=sdo Tryz.func70 rfl (by kernel_rfl)
def f71r0:LS:=[o 4 (.mv (b false))]
def f71r1:LS:=[I 5 1]
def f71r2:LS:=[M 6 5,M 7 0,o 8 (.len (t 7)),o 9 (.cmp .lss (t 6) (t 8))]
def f71r3:LS:=[M 12 1,M 13 0,M 14 5,o 15 (.ar .sub (t 14) (i 1)),G 16 1 13 15,L 17 16,M 18 0,M 19 5,G 20 1 18 19,L 21 20,o 22 (.callv (t 12) [(t 17),(t 21)]),o 23 (.cmp .geq (t 22) (i 0))]
def f71r4:LS:=[o 4 (.mv (b false))]
def f71r5:LS:=[M 10 5,D 11 10 1,M 5 11]
def f71l6:SCode:=(.seq (.j f71r2 (.cond (t 9) .skip (.exit 0))) (.seq (.block 1 (.j f71r3 (.k 23 f71r4))) (.ops f71r5)))
def f71r7:LS:=[o 4 (.mv (b true))]
def f71:SCode:=(.j f71r0 (.seq (.j f71r1 (.block 0 (.loop f71l6))) (.j f71r7 .ret)))
theorem f71_calls:Sound Tryz.prog 71 24 f71 [.t 4]:=sdo Tryz.func71 rfl (by kernel_rfl)
def f72r0:LS:=[o 4 (.mv (b false))]
def f72r1:LS:=[I 5 1]
def f72r2:LS:=[M 6 5,M 7 0,o 8 (.len (t 7)),o 9 (.cmp .lss (t 6) (t 8))]
def f72r3:LS:=[M 12 1,M 13 0,M 14 5,o 15 (.ar .sub (t 14) (i 1)),G 16 2 13 15,o 17 (.ldn 2 (t 16)),M 18 0,M 19 5,G 20 2 18 19,o 21 (.ldn 2 (t 20)),o 22 (.callv (t 12) [(t 17),(t 21)]),o 23 (.cmp .geq (t 22) (i 0))]
def f72r4:LS:=[o 4 (.mv (b false))]
def f72r5:LS:=[M 10 5,D 11 10 1,M 5 11]
def f72l6:SCode:=(.seq (.j f72r2 (.cond (t 9) .skip (.exit 0))) (.seq (.block 1 (.j f72r3 (.k 23 f72r4))) (.ops f72r5)))
def f72r7:LS:=[o 4 (.mv (b true))]
def f72:SCode:=(.j f72r0 (.seq (.j f72r1 (.block 0 (.loop f72l6))) (.j f72r7 .ret)))
theorem f72_calls:Sound Tryz.prog 72 24 f72 [.t 4]:=sdo Tryz.func72 rfl (by kernel_rfl)
def f73r0:LS:=[o 2 (.box (t 0)),o 3 (.box (t 1)),I 4 0]
def f73r1:LS:=[A 6 1 2,L 7 6,A 8 1 3,L 9 8,o 10 (.cmp .lss (t 7) (t 9)),M 5 10]
def f73r2:LS:=[I 4 (-1)]
def f73r3:LS:=[A 12 1 2,L 13 12,A 14 1 3,L 15 14,o 16 (.cmp .gtr (t 13) (t 15)),M 11 16]
def f73r4:LS:=[I 4 1]
def f73r5:LS:=[A 17 0 2,L 18 17,A 19 0 3,L 20 19,o 21 (.call 70 [(t 18),(t 20)]),M 4 21]
def f73:SCode:=(.j f73r0 (.seq (.block 0 (.j f73r1 (.cond (t 5) (.j f73r2 .ret) (.j f73r3 (.k 11 f73r4))))) (.j f73r5 .ret)))
theorem f73_calls:Sound Tryz.prog 73 22 f73 [.t 4]:=sdo Tryz.func73 rfl (by kernel_rfl)
def f74r0:LS:=[o 2 (.mv (b false))]
def f74r1:LS:=[o 6 (.mkm),M 3 6]
def f74r2:LS:=[M 7 0,o 8 (.len (t 7)),I 9 0]
def f74r3:LS:=[o 10 (.cmp .lss (t 9) (t 8))]
def f74r4:LS:=[G 11 2 7 9,o 12 (.ldn 2 (t 11)),o 5 (.new [(.string ⟨#[]⟩),(.int .i64 0)]),q (.st 2 (t 5) (t 12))]
def f74r5:LS:=[M 13 3,A 14 0 5,L 15 14,o 16 (.look .str (.int .i64 0) false (t 13) (t 15)),D 17 16 1,q (.mup .str (t 13) (t 15) (t 17))]
def f74r6:LS:=[D 18 9 1,M 9 18]
def f74l7:SCode:=(.j f74r3 (.seq (.cond (t 10) .skip (.exit 0)) (.seq (.block 1 (.j f74r4 (.ops f74r5))) (.ops f74r6))))
def f74r8:LS:=[M 19 3,o 20 (.lenm (t 19)),M 21 0,o 22 (.len (t 21)),o 23 (.cmp .eql (t 20) (t 22)),M 2 23]
def f74:SCode:=(.j f74r0 (.j f74r1 (.seq (.j f74r2 (.block 0 (.loop f74l7))) (.j f74r8 .ret))))
theorem f74_calls:Sound Tryz.prog 74 24 f74 [.t 2]:=sdo Tryz.func74 rfl (by kernel_rfl)
def f75r0:LS:=[o 2 (.mv (.const (.slice none 0 0)))]
def f75r1:LS:=[M 3 0,o 4 (.eqn 1 false (t 3))]
def f75r2:LS:=[o 2 (.mv (.const (.slice none 0 0)))]
def f75r3:LS:=[o 5 (.bslice [] 0 [] []),M 6 0,o 7 (.app 2 32 [(.string ⟨#[]⟩),(.string ⟨#[]⟩)] (t 5) (t 6)),M 2 7]
def f75:SCode:=(.j f75r0 (.seq (.j f75r1 (.k 4 f75r2)) (.j f75r3 .ret)))
theorem f75_calls:Sound Tryz.prog 75 8 f75 [.t 2]:=sdo Tryz.func75 rfl (by kernel_rfl)
def f76r0:LS:=[o 2 (.mv (.const (.slice none 0 0)))]
def f76r1:LS:=[M 3 0,o 4 (.eqn 1 false (t 3))]
def f76r2:LS:=[o 2 (.mv (.const (.slice none 0 0)))]
def f76r3:LS:=[o 5 (.bslice [] 0 [] []),M 6 0,o 7 (.app 1 16 [(.string ⟨#[]⟩)] (t 5) (t 6)),M 2 7]
def f76:SCode:=(.j f76r0 (.seq (.j f76r1 (.k 4 f76r2)) (.j f76r3 .ret)))
theorem f76_calls:Sound Tryz.prog 76 8 f76 [.t 2]:=sdo Tryz.func76 rfl (by kernel_rfl)
def f77r0:LS:=[o 2 (.mv (.const (.slice none 0 0)))]
def f77r1:LS:=[M 3 0,o 4 (.eqn 1 false (t 3))]
def f77r2:LS:=[o 2 (.mv (.const (.slice none 0 0)))]
def f77r3:LS:=[o 5 (.bslice [] 0 [] []),M 6 0,o 7 (.app 2 24 [(.string ⟨#[]⟩),(.int .i64 0)] (t 5) (t 6)),M 2 7]
def f77:SCode:=(.j f77r0 (.seq (.j f77r1 (.k 4 f77r2)) (.j f77r3 .ret)))
theorem f77_calls:Sound Tryz.prog 77 8 f77 [.t 2]:=sdo Tryz.func77 rfl (by kernel_rfl)
def f110r0:LS:=[o 4 (.new [(.int .i64 0),(.string ⟨#[]⟩),(.slice none 0 0),(.slice none 0 0),(.slice none 0 0),(.bool false),(.int .i64 0)]),o 5 (.mv (b false))]
def f110r1:LS:=[M 6 0,o 7 (.call 42 [(t 6)]),M 8 7,
 n 9 8 (.mv (t 0)),
 n 10 8 (.nilck (t 9)),
 n 11 8 (.fa 0 (t 10)),
 n 12 8 (.ld1 (t 11)),
 n 13 8 (.nilck (t 12)),
 n 14 8 (.fa 0 (t 13)),
 n 15 8 (.ld1 (t 14)),
 n 16 8 (.mv (t 1)),
 n 17 8 (.look .str (.pointer none) false (t 15) (t 16)),
 n 18 8 (.eqn 0 false (t 17)),o 19 (.pick (t 8) (b true) (t 18))]
def f110r2:LS:=[o 20 (.build [(.int .i64 0),(.string ⟨#[]⟩),(.slice none 0 0),(.slice none 0 0),(.slice none 0 0),(.bool false),(.int .i64 0)] [] []),q (.st 7 (t 4) (t 20)),o 5 (.mv (b false))]
def f110r3:LS:=[M 21 0,K 22 21,A 23 0 22,L 24 23,K 25 24,A 26 0 25,L 27 26,M 28 1,o 29 (.look .str (.pointer none) false (t 27) (t 28)),K 30 29,o 31 (.ldn 7 (t 30)),o 32 (.call 36 [(t 31)]),q (.st 7 (t 4) (t 32)),o 5 (.mv (b true))]
def f110:SCode:=(.j f110r0 (.seq (.j f110r1 (.k 19 f110r2)) (.j f110r3 .ret)))
theorem f110_calls:Sound Tryz.prog 110 33 f110 [.cn 4 7,.t 5]:=sdo Tryz.func110 rfl (by kernel_rfl)
def f112r0:LS:=[o 2 (.box (t 0)),o 4 (.mv (b false))]
def f112r1:LS:=[A 5 5 2,L 6 5,M 7 6,
 g 8 7 (.fa 6 (t 2)),
 g 9 7 (.ld1 (t 8)),
 g 10 7 (.mv (t 1)),
 g 11 7 (.cmp .leq (t 9) (t 10)),o 12 (.pick (t 7) (t 11) (b false)),M 4 12]
def f112:SCode:=(.j f112r0 (.j f112r1 .ret))
theorem f112_calls:Sound Tryz.prog 112 13 f112 [.t 4]:=sdo Tryz.func112 rfl (by kernel_rfl)
def f113r0:LS:=[o 4 (.mv (b false))]
def f113r1:LS:=[I 5 0]
def f113r2:LS:=[M 6 5,M 7 0,o 8 (.lens (t 7)),o 9 (.cmp .lss (t 6) (t 8)),M 10 9,
 g 11 10 (.mv (t 5)),
 g 12 10 (.mv (t 1)),
 g 13 10 (.lens (t 12)),
 g 14 10 (.cmp .lss (t 11) (t 13)),o 15 (.pick (t 10) (t 14) (b false))]
def f113r3:LS:=[M 18 0,M 19 5,o 20 (.ixc (t 18) (t 19)),M 21 1,M 22 5,o 23 (.ixc (t 21) (t 22)),o 24 (.cmp .neq (t 20) (t 23))]
def f113r4:LS:=[M 25 0,M 26 5,o 27 (.ixc (t 25) (t 26)),M 28 1,M 29 5,o 30 (.ixc (t 28) (t 29)),o 31 (.cmp .lss (t 27) (t 30)),M 4 31]
def f113r5:LS:=[M 16 5,D 17 16 1,M 5 17]
def f113l6:SCode:=(.seq (.j f113r2 (.cond (t 15) .skip (.exit 0))) (.seq (.block 1 (.j f113r3 (.k 24 f113r4))) (.ops f113r5)))
def f113r7:LS:=[M 32 0,o 33 (.lens (t 32)),M 34 1,o 35 (.lens (t 34)),o 36 (.cmp .lss (t 33) (t 35)),M 4 36]
def f113:SCode:=(.j f113r0 (.seq (.j f113r1 (.block 0 (.loop f113l6))) (.j f113r7 .ret)))
theorem f113_calls:Sound Tryz.prog 113 37 f113 [.t 4]:=sdo Tryz.func113 rfl (by kernel_rfl)
def f114r0:LS:=[o 2 (.box (t 0)),o 3 (.box (t 1)),o 4 (.mv (b false))]
def f114r1:LS:=[A 5 1 2,L 6 5,A 7 1 3,L 8 7,o 9 (.cmp .lss (t 6) (t 8)),M 10 9,
 n 11 10 (.fa 1 (t 2)),
 n 12 10 (.ld1 (t 11)),
 n 13 10 (.fa 1 (t 3)),
 n 14 10 (.ld1 (t 13)),
 n 15 10 (.cmp .eql (t 12) (t 14)),
 n 16 10 (.mv (t 15)),
 g 17 16 (.fa 0 (t 2)),
 g 18 16 (.ld1 (t 17)),
 g 19 16 (.fa 0 (t 3)),
 g 20 16 (.ld1 (t 19)),
 g 21 16 (.call 113 [(t 18),(t 20)]),
 n 22 10 (.pick (t 16) (t 21) (b false)),o 23 (.pick (t 10) (b true) (t 22)),M 4 23]
def f114:SCode:=(.j f114r0 (.j f114r1 .ret))
theorem f114_calls:Sound Tryz.prog 114 24 f114 [.t 4]:=sdo Tryz.func114 rfl (by kernel_rfl)
def f118r0:LS:=[L 6 1,o 7 (.call 42 [(t 6)])]
def f118r1:LS:=[L 8 1,K 9 8,A 10 0 9,L 11 10,K 12 11,A 13 0 12,L 14 13,o 15 (.call 120 [(t 14)]),o 16 (.call 119 [(t 15)]),o 17 (.len (t 16)),I 18 0]
def f118r2:LS:=[o 19 (.cmp .lss (t 18) (t 17))]
def f118r3:LS:=[G 20 1 16 18,L 21 20,M 4 21]
def f118r4:LS:=[L 22 1,K 23 22,A 24 0 23,L 25 24,K 26 25,A 27 0 26,L 28 27,M 29 4,o 30 (.look .str (.pointer none) false (t 28) (t 29)),M 5 30]
def f118r5:LS:=[M 31 5,o 32 (.eqn 0 true (t 31)),M 33 32,
 g 34 33 (.mv (t 0)),
 g 35 33 (.mv (t 4)),
 g 36 33 (.mv (t 5)),
 g 37 33 (.nilck (t 36)),
 g 38 33 (.ldn 7 (t 37)),
 g 39 33 (.call 36 [(t 38)]),
 g 40 33 (.callv (t 34) [(t 35),(t 39)]),
 g 41 33 (.un .not (t 40)),o 42 (.pick (t 33) (t 41) (b false))]
def f118r6:LS:=[D 43 18 1,M 18 43]
def f118l7:SCode:=(.j f118r2 (.seq (.cond (t 19) .skip (.exit 0)) (.seq (.block 1 (.j f118r3 (.j f118r4 (.j f118r5 (.cond (t 42) .ret .skip))))) (.ops f118r6))))
def f118:SCode:=(.seq (.j f118r0 (.cond (t 7) .ret .skip)) (.j f118r1 (.block 0 (.loop f118l7))))
theorem f118_calls:Sound Tryz.prog 118 44 f118 []:=sdo Tryz.func118 rfl (by kernel_rfl)
def f132r0:LS:=[I 2 0,o 3 (.mv (b false))]
def f132r1:LS:=[M 9 0,o 10 (.cmp .eql (t 9) e),M 11 10,
 n 12 11 (.mv (t 0)),
 n 13 11 (.lens (t 12)),
 n 14 11 (.cmp .gtr (t 13) (i 20)),o 15 (.pick (t 11) (b true) (t 14))]
def f132r2:LS:=[I 2 0,o 3 (.mv (b false))]
def f132r3:LS:=[M 16 0,o 17 (.ixc (t 16) (i 0)),o 18 (.cmp .eql (t 17) (.const (.int .u8 45))),M 4 18]
def f132r4:LS:=[M 19 0,M 5 19]
def f132r5:LS:=[M 20 4]
def f132r6:LS:=[M 21 0,o 22 (.sls (t 21) (some (i 1)) none),M 5 22]
def f132r7:LS:=[M 23 5,o 24 (.cmp .eql (t 23) e),M 25 24,
 n 26 25 (.mv (t 5)),
 n 27 25 (.lens (t 26)),
 n 28 25 (.cmp .gtr (t 27) (i 1)),
 n 29 25 (.mv (t 28)),
 g 30 29 (.mv (t 5)),
 g 31 29 (.ixc (t 30) (i 0)),
 g 32 29 (.cmp .eql (t 31) (.const (.int .u8 48))),
 n 33 25 (.pick (t 29) (t 32) (b false)),o 34 (.pick (t 25) (b true) (t 33)),M 35 34,
 n 36 35 (.mv (t 4)),
 n 37 35 (.mv (t 36)),
 g 38 37 (.mv (t 5)),
 g 39 37 (.cmp .eql (t 38) (.const (.string ⟨#[48]⟩))),
 n 40 35 (.pick (t 37) (t 39) (b false)),o 41 (.pick (t 35) (b true) (t 40))]
def f132r8:LS:=[I 2 0,o 3 (.mv (b false))]
def f132r9:LS:=[I 6 0]
def f132r10:LS:=[I 7 0]
def f132r11:LS:=[M 42 7,M 43 5,o 44 (.lens (t 43)),o 45 (.cmp .lss (t 42) (t 44))]
def f132r12:LS:=[M 48 5,M 49 7,o 50 (.ixc (t 48) (t 49)),o 51 (.cmp .lss (t 50) (.const (.int .u8 48))),M 52 51,
 n 53 52 (.mv (t 5)),
 n 54 52 (.mv (t 7)),
 n 55 52 (.ixc (t 53) (t 54)),
 n 56 52 (.cmp .gtr (t 55) (.const (.int .u8 57))),o 57 (.pick (t 52) (b true) (t 56))]
def f132r13:LS:=[I 2 0,o 3 (.mv (b false))]
def f132r14:LS:=[M 58 5,M 59 7,o 60 (.ixc (t 58) (t 59)),o 61 (.ar .sub (t 60) (.const (.int .u8 48))),o 62 (.cvt .i64 (t 61)),M 8 62]
def f132r15:LS:=[M 63 6,M 64 8,o 65 (.ar .add (i (-9223372036854775808)) (t 64)),o 66 (.quo (t 65) (i 10)),o 67 (.cmp .lss (t 63) (t 66))]
def f132r16:LS:=[I 2 0,o 3 (.mv (b false))]
def f132r17:LS:=[M 68 6,o 69 (.ar .mul (t 68) (i 10)),M 70 8,o 71 (.ar .sub (t 69) (t 70)),M 6 71]
def f132r18:LS:=[M 46 7,D 47 46 1,M 7 47]
def f132l19:SCode:=(.seq (.j f132r11 (.cond (t 45) .skip (.exit 0))) (.seq (.block 1 (.seq (.j f132r12 (.k 57 f132r13)) (.j f132r14 (.seq (.j f132r15 (.k 67 f132r16)) (.ops f132r17))))) (.ops f132r18)))
def f132r20:LS:=[M 72 4]
def f132r21:LS:=[M 73 6,M 2 73,o 3 (.mv (b true))]
def f132r22:LS:=[M 74 6,E 75 74 (-9223372036854775808)]
def f132r23:LS:=[I 2 0,o 3 (.mv (b false))]
def f132r24:LS:=[M 76 6,o 77 (.un .neg (t 76)),M 2 77,o 3 (.mv (b true))]
def f132:SCode:=(.j f132r0 (.seq (.j f132r1 (.k 15 f132r2)) (.j f132r3 (.j f132r4 (.seq (.j f132r5 (.cond (t 20) (.ops f132r6) .skip)) (.seq (.j f132r7 (.k 41 f132r8)) (.j f132r9 (.seq (.j f132r10 (.block 0 (.loop f132l19))) (.seq (.j f132r20 (.k 72 f132r21)) (.seq (.j f132r22 (.k 75 f132r23)) (.j f132r24 .ret)))))))))))
theorem f132_calls:Sound Tryz.prog 132 78 f132 [.t 2,.t 3]:=sdo Tryz.func132 rfl (by kernel_rfl)
def f143r0:LS:=[o 4 (.mv (b false))]
def f143r1:LS:=[M 5 0,M 6 1,o 7 (.call 226 [(t 5),(t 6)]),o 8 (.cmp .geq (t 7) (i 0)),M 4 8]
def f143:SCode:=(.j f143r0 (.j f143r1 .ret))
theorem f143_calls:Sound Tryz.prog 143 9 f143 [.t 4]:=sdo Tryz.func143 rfl (by kernel_rfl)
def f144r0:LS:=[o 2 (.mv (b false))]
def f144r1:LS:=[M 3 0,o 4 (.lens (t 3)),o 5 (.cmp .gtr (t 4) (i 1048576)),M 2 5]
def f144:SCode:=(.j f144r0 (.j f144r1 .ret))
theorem f144_calls:Sound Tryz.prog 144 6 f144 [.t 2]:=sdo Tryz.func144 rfl (by kernel_rfl)
def f164r0:LS:=[I 2 0,o 3 (.mv (b false))]
def f164r1:LS:=[M 7 0,o 8 (.call 234 [(t 7),(i 10),(i 64)]),M 6 8,X 9 6 0,X 10 6 1,M 4 9,M 5 10]
def f164r2:LS:=[M 11 5,o 12 (.eqn 4 true (t 11)),M 13 12,
 n 14 13 (.mv (t 4)),
 n 15 13 (.call 34 [(t 14),(i 10)]),
 n 16 13 (.mv (t 0)),
 n 17 13 (.cmp .neq (t 15) (t 16)),o 18 (.pick (t 13) (b true) (t 17))]
def f164r3:LS:=[I 2 0,o 3 (.mv (b false))]
def f164r4:LS:=[M 19 4,M 2 19,o 3 (.mv (b true))]
def f164:SCode:=(.j f164r0 (.j f164r1 (.seq (.j f164r2 (.k 18 f164r3)) (.j f164r4 .ret))))
theorem f164_calls:Sound Tryz.prog 164 20 f164 [.t 2,.t 3]:=sdo Tryz.func164 rfl (by kernel_rfl)
def f207r0:LS:=[o 6 (.new [(.int .i64 0),(.string ⟨#[]⟩),(.slice none 0 0),(.slice none 0 0),(.slice none 0 0),(.bool false),(.int .i64 0)]),o 7 (.mv (b false))]
def f207r1:LS:=[M 11 0,M 12 1,o 13 (.call 46 [(t 11),(t 12)]),M 10 13,X 14 10 0,X 15 10 1,M 8 14,M 9 15]
def f207r2:LS:=[M 16 9,o 17 (.un .not (t 16)),M 18 17,
 n 19 18 (.mv (t 0)),
 n 20 18 (.mv (t 8)),
 n 21 18 (.ixs 8 (t 19) (t 20)),
 n 22 18 (.fa 1 (t 21)),
 n 23 18 (.fa 5 (t 22)),
 n 24 18 (.ld1 (t 23)),
 n 25 18 (.mv (t 24)),
 g 26 25 (.mv (t 0)),
 g 27 25 (.mv (t 8)),
 g 28 25 (.ixs 8 (t 26) (t 27)),
 g 29 25 (.fa 1 (t 28)),
 g 30 25 (.fa 6 (t 29)),
 g 31 25 (.ld1 (t 30)),
 g 32 25 (.mv (t 2)),
 g 33 25 (.cmp .leq (t 31) (t 32)),
 n 34 18 (.pick (t 25) (t 33) (b false)),o 35 (.pick (t 18) (b true) (t 34))]
def f207r3:LS:=[o 36 (.build [(.int .i64 0),(.string ⟨#[]⟩),(.slice none 0 0),(.slice none 0 0),(.slice none 0 0),(.bool false),(.int .i64 0)] [] []),q (.st 7 (t 6) (t 36)),o 7 (.mv (b false))]
def f207r4:LS:=[M 37 0,M 38 8,G 39 8 37 38,A 40 1 39,o 41 (.ldn 7 (t 40)),q (.st 7 (t 6) (t 41)),o 7 (.mv (b true))]
def f207:SCode:=(.j f207r0 (.j f207r1 (.seq (.j f207r2 (.k 35 f207r3)) (.j f207r4 .ret))))
theorem f207_calls:Sound Tryz.prog 207 42 f207 [.cn 6 7,.t 7]:=sdo Tryz.func207 rfl (by kernel_rfl)
def f226r0:LS:=[I 4 0]
def f226r1:LS:=[M 6 0,o 7 (.len (t 6)),I 8 0]
def f226r2:LS:=[o 9 (.cmp .lss (t 8) (t 7))]
def f226r3:LS:=[M 10 8,M 5 10]
def f226r4:LS:=[M 11 1,M 12 0,M 13 5,G 14 1 12 13,L 15 14,o 16 (.callv (t 11) [(t 15)])]
def f226r5:LS:=[M 17 5,M 4 17]
def f226r6:LS:=[D 18 8 1,M 8 18]
def f226l7:SCode:=(.j f226r2 (.seq (.cond (t 9) .skip (.exit 0)) (.seq (.block 1 (.j f226r3 (.j f226r4 (.k 16 f226r5)))) (.ops f226r6))))
def f226r8:LS:=[I 4 (-1)]
def f226:SCode:=(.j f226r0 (.seq (.j f226r1 (.block 0 (.loop f226l7))) (.j f226r8 .ret)))
theorem f226_calls:Sound Tryz.prog 226 19 f226 [.t 4]:=sdo Tryz.func226 rfl (by kernel_rfl)
end Go.Proofs.YtjnijlnmbjjgpaaGreatDoor.C
namespace Go.Proofs.YtjnijlnmbjjgpaaGreatDoor
open Go Go.Sx C
set_option maxRecDepth 100000 in
theorem cmpStr_calls {h:Heap} (a b:ByteArray):CallsH Tryz.prog 145 [.string a,.string b] h (Ret fun u h'=>u=.int .i64 (cmpB a b)∧h'=h):=by
 refine⟨by kernel_rfl,fun w hw=>?_⟩
 have key:Calls Tryz.prog 145 #[.string a,.string b] w fun e w'=>e=.returned (.int .i64 (Lib.compareBytes a.data.toList b.data.toList))∧w'=w:=by
  go_enter Tryz.func145,Tryz.ntmps145
  go_wp2
  rw[run_callFunc_extern Tryz.func227 (by kernel_rfl) (by kernel_rfl) (by kernel_rfl) (e:=Extern.BytealgCompare.compare) (by kernel_rfl),Lib.run_compareString]
  simp only[Result.andThen]
  rw[Oper.upon_value]
  go_wp2
  all_goals go_ret
  all_goals exact⟨rfl,rfl⟩
 refine key.mono ?_
 rintro e w' ⟨rfl,rfl⟩
 exact⟨⟨rfl,hw⟩,by simp,rfl,rfl,rfl⟩
theorem cmpS_calls {h:Heap} (a b:ByteArray):CallsH Tryz.prog 70 [.string a,.string b] h (Ret fun u h'=>u=.int .i64 (cmpB a b)∧h'=h):=by
 refine f70_calls (by simp) ?_
 refine call_ret (cmpStr_calls a b) ?_
 rintro _ h1 ⟨rfl,rfl⟩
 exact⟨rfl,rfl⟩
structure Pair where
 name:ByteArray
 text:ByteArray
 deriving DecidableEq
structure Rank where
 name:ByteArray
 score:Int
 deriving DecidableEq
def encP (p:Pair):List Value:=[.string p.name,.string p.text]
def encR (r:Rank):List Value:=[.string r.name,.int .i64 r.score]
def encS (s:ByteArray):List Value:=[.string s]
theorem encP_len (p:Pair):(encP p).length=2:=rfl
theorem encR_len (p:Rank):(encR p).length=2:=rfl
theorem encS_len (p:ByteArray):(encS p).length=1:=rfl
theorem encP_one (r:Pair):∀u∈encP r,u.oneCell'=true:=by
 intro u hu
 simp[encP]at hu
 rcases hu with rfl|rfl<;>rfl
theorem encR_one (r:Rank):∀u∈encR r,u.oneCell'=true:=by
 intro u hu
 simp[encR]at hu
 rcases hu with rfl|rfl<;>rfl
theorem encS_one (r:ByteArray):∀u∈encS r,u.oneCell'=true:=by
 intro u hu
 simp[encS]at hu
 rw[hu];rfl
theorem encP_inj {a b:Pair} (h:encP a=encP b):a=b:=by
 cases a;cases b;simp[encP]at h;simp[h]
theorem encR_inj {a b:Rank} (h:encR a=encR b):a=b:=by
 cases a;cases b;simp[encR]at h;simp[h]
theorem take_snoc {α:Type} (l:List α) (k:Nat) (h:k<l.length):l.take (k+1)=l.take k++[l[k]]:=by
 rw[List.take_succ_eq_append_getElem h]
def rising {α:Type} (lt:α→α→Bool):List α→Bool
 |x::y::l=>lt x y&&rising lt (y::l)
 |_=>true
theorem rising_short {α:Type} {lt:α→α→Bool}:∀{l:List α},l.length≤1→rising lt l=true
 |[],_=>rfl
 |[_],_=>rfl
 |_::_::_,h=>by simp at h
theorem drop_two {α:Type} {l:List α} {k:Nat} (h1:1≤k) (h:k<l.length):l.drop (k-1)=l[k-1]::l[k]::l.drop (k+1):=by
 rw[List.drop_eq_getElem_cons (show k-1<l.length by omega)]
 have e:k-1+1=k:=by omega
 rw[e,List.drop_eq_getElem_cons h]
def OrdP (g:Nat) (lt:Pair→Pair→Bool) (h:Heap):Prop:=∀h' x y,Chg [] h h'→CallsH Tryz.prog g [.agg ⟨encP x⟩,.agg ⟨encP y⟩] h' (Ret fun u h''=>(∃z,u=.int .i64 z∧(z<0↔lt x y=true))∧Chg [] h' h'')
theorem risP_calls {h:Heap} {v:Value} {l:List Pair} {g:Nat} {lt:Pair→Pair→Bool} (hv:SL encP h v l) (hl:l.length<4611686018427387904) (hg:OrdP g lt h):
  CallsH Tryz.prog 68 [v,.func (.func g) #[] #[]] h (Ret fun r h'=>r=.bool (rising lt l)∧Chg [] h h'):=by
 obtain⟨a,c,rfl,hlc⟩:=hv.form
 refine f68_calls (by simp) ?_
 refine loop_intro (fun k:Nat=>[(0,.slice a l.length c),(1,.func (.func g) #[] #[]),(5,.int .i64 k)]) (fun k h'=>1≤k∧k≤l.length+1∧Chg [] h h'∧rising lt l=rising lt (l.drop (k-1))) (fun k=>l.length+1-k) 1 ⟨rfl,rfl,rfl,trivial⟩ ⟨Nat.le_refl _,by omega,Chg.refl h,rfl⟩ ?_
 rintro k h1 ⟨hk1,hk,hc,hr⟩
 refine Ai rfl (Ai (fun hlt=>?_) (fun hlt=>?_))
 ·have hlt:k<l.length:=by omega
  have hv1:=hv.ext hc
  obtain⟨b,o,rfl⟩:=hv.addr (by omega)
  have hcs:=hv1.cells encP_len (i:=k-1) (x:=l[k-1]) (by simp)
  have hds:=hv1.cells encP_len (i:=k) (x:=l[k]) (by simp[hlt])
  refine Ai rfl (fun z hz=>?_)
  have hz:=sub_in hz (by omega) (by omega)
  have hz:z=((k-1:Nat):Int):=by omega
  subst hz
  refine Ai (by omega) (Ai (by omega) (Ei (encP l[k-1]) (Ai rfl (Ai hcs ?_))))
  refine Ai (by omega) (Ai (by omega) (Ei (encP l[k]) (Ai rfl (Ai hds ?_))))
  refine call_ret (hg h1 l[k-1] l[k] hc) ?_
  rintro _ h2 ⟨⟨z,rfl,hzn⟩,hc2⟩
  rw[drop_two hk1 hlt,rising]at hr
  have e1:l[k]::l.drop (k+1)=l.drop k:=by rw[List.drop_eq_getElem_cons hlt]
  rw[e1]at hr
  refine Ai rfl (Ai (fun hge=>?_) (fun hge=>?_))
  ·refine Ai ?_ (hc.nil hc2)
   have:lt l[k-1] l[k]=false:=by
    cases hb:lt l[k-1] l[k]with
    |false=>rfl
    |true=>have:=hzn.2 hb;omega
   rw[hr,this];rfl
  ·have hb:lt l[k-1] l[k]=true:=hzn.1 (by omega)
   rw[hb,Bool.true_and]at hr
   refine Ai rfl (fun y hy=>?_)
   have hy:=add_in hy (by omega) (by omega)
   subst hy
   refine Ai rfl (Ei (k+1) (Ai ?_ (Ai ?_ ?_)))
   ·exact⟨rfl,rfl,rfl,trivial⟩
   ·exact⟨by omega,by omega,hc.nil hc2,by rw[Nat.add_sub_cancel];exact hr⟩
   ·omega
 ·refine Ai ?_ hc
  rw[hr,rising_short (by simp;omega)];rfl
def OrdS (g:Nat) (lt:ByteArray→ByteArray→Bool) (h:Heap):Prop:=∀h' x y,Chg [] h h'→CallsH Tryz.prog g [.string x,.string y] h' (Ret fun u h''=>(∃z,u=.int .i64 z∧(z<0↔lt x y=true))∧Chg [] h' h'')
theorem risS_calls {h:Heap} {v:Value} {l:List ByteArray} {g:Nat} {lt:ByteArray→ByteArray→Bool} (hv:SL encS h v l) (hl:l.length<4611686018427387904) (hg:OrdS g lt h):
  CallsH Tryz.prog 71 [v,.func (.func g) #[] #[]] h (Ret fun r h'=>r=.bool (rising lt l)∧Chg [] h h'):=by
 obtain⟨a,c,rfl,hlc⟩:=hv.form
 refine f71_calls (by simp) ?_
 refine loop_intro (fun k:Nat=>[(0,.slice a l.length c),(1,.func (.func g) #[] #[]),(5,.int .i64 k)]) (fun k h'=>1≤k∧k≤l.length+1∧Chg [] h h'∧rising lt l=rising lt (l.drop (k-1))) (fun k=>l.length+1-k) 1 ⟨rfl,rfl,rfl,trivial⟩ ⟨Nat.le_refl _,by omega,Chg.refl h,rfl⟩ ?_
 rintro k h1 ⟨hk1,hk,hc,hr⟩
 refine Ai rfl (Ai (fun hlt=>?_) (fun hlt=>?_))
 ·have hlt:k<l.length:=by omega
  have hv1:=hv.ext hc
  obtain⟨b,o,rfl⟩:=hv.addr (by omega)
  have hcs:=hv1.cells encS_len (i:=k-1) (x:=l[k-1]) (by simp)
  have hds:=hv1.cells encS_len (i:=k) (x:=l[k]) (by simp[hlt])
  refine Ai rfl (fun z hz=>?_)
  have hz:=sub_in hz (by omega) (by omega)
  have hz:z=((k-1:Nat):Int):=by omega
  subst hz
  refine Ai (by omega) (Ai (by omega) (Ei _ (Ai (hcs 0 _ rfl) ?_)))
  refine Ai (by omega) (Ai (by omega) (Ei _ (Ai (hds 0 _ rfl) ?_)))
  refine call_ret (hg h1 l[k-1] l[k] hc) ?_
  rintro _ h2 ⟨⟨z,rfl,hzn⟩,hc2⟩
  rw[drop_two hk1 hlt,rising]at hr
  have e1:l[k]::l.drop (k+1)=l.drop k:=by rw[List.drop_eq_getElem_cons hlt]
  rw[e1]at hr
  refine Ai rfl (Ai (fun hge=>?_) (fun hge=>?_))
  ·refine Ai ?_ (hc.nil hc2)
   have:lt l[k-1] l[k]=false:=by
    cases hb:lt l[k-1] l[k]with
    |false=>rfl
    |true=>have:=hzn.2 hb;omega
   rw[hr,this];rfl
  ·have hb:lt l[k-1] l[k]=true:=hzn.1 (by omega)
   rw[hb,Bool.true_and]at hr
   refine Ai rfl (fun y hy=>?_)
   have hy:=add_in hy (by omega) (by omega)
   subst hy
   refine Ai rfl (Ei (k+1) (Ai ?_ (Ai ?_ ?_)))
   ·exact⟨rfl,rfl,rfl,trivial⟩
   ·exact⟨by omega,by omega,hc.nil hc2,by rw[Nat.add_sub_cancel];exact hr⟩
   ·omega
 ·refine Ai ?_ hc
  rw[hr,rising_short (by simp;omega)];rfl
def OrdR (g:Nat) (lt:Rank→Rank→Bool) (h:Heap):Prop:=∀h' x y,Chg [] h h'→CallsH Tryz.prog g [.agg ⟨encR x⟩,.agg ⟨encR y⟩] h' (Ret fun u h''=>(∃z,u=.int .i64 z∧(z<0↔lt x y=true))∧Chg [] h' h'')
theorem risR_calls {h:Heap} {v:Value} {l:List Rank} {g:Nat} {lt:Rank→Rank→Bool} (hv:SL encR h v l) (hl:l.length<4611686018427387904) (hg:OrdR g lt h):
  CallsH Tryz.prog 72 [v,.func (.func g) #[] #[]] h (Ret fun r h'=>r=.bool (rising lt l)∧Chg [] h h'):=by
 obtain⟨a,c,rfl,hlc⟩:=hv.form
 refine f72_calls (by simp) ?_
 refine loop_intro (fun k:Nat=>[(0,.slice a l.length c),(1,.func (.func g) #[] #[]),(5,.int .i64 k)]) (fun k h'=>1≤k∧k≤l.length+1∧Chg [] h h'∧rising lt l=rising lt (l.drop (k-1))) (fun k=>l.length+1-k) 1 ⟨rfl,rfl,rfl,trivial⟩ ⟨Nat.le_refl _,by omega,Chg.refl h,rfl⟩ ?_
 rintro k h1 ⟨hk1,hk,hc,hr⟩
 refine Ai rfl (Ai (fun hlt=>?_) (fun hlt=>?_))
 ·have hlt:k<l.length:=by omega
  have hv1:=hv.ext hc
  obtain⟨b,o,rfl⟩:=hv.addr (by omega)
  have hcs:=hv1.cells encR_len (i:=k-1) (x:=l[k-1]) (by simp)
  have hds:=hv1.cells encR_len (i:=k) (x:=l[k]) (by simp[hlt])
  refine Ai rfl (fun z hz=>?_)
  have hz:=sub_in hz (by omega) (by omega)
  have hz:z=((k-1:Nat):Int):=by omega
  subst hz
  refine Ai (by omega) (Ai (by omega) (Ei (encR l[k-1]) (Ai rfl (Ai hcs ?_))))
  refine Ai (by omega) (Ai (by omega) (Ei (encR l[k]) (Ai rfl (Ai hds ?_))))
  refine call_ret (hg h1 l[k-1] l[k] hc) ?_
  rintro _ h2 ⟨⟨z,rfl,hzn⟩,hc2⟩
  rw[drop_two hk1 hlt,rising]at hr
  have e1:l[k]::l.drop (k+1)=l.drop k:=by rw[List.drop_eq_getElem_cons hlt]
  rw[e1]at hr
  refine Ai rfl (Ai (fun hge=>?_) (fun hge=>?_))
  ·refine Ai ?_ (hc.nil hc2)
   have:lt l[k-1] l[k]=false:=by
    cases hb:lt l[k-1] l[k]with
    |false=>rfl
    |true=>have:=hzn.2 hb;omega
   rw[hr,this];rfl
  ·have hb:lt l[k-1] l[k]=true:=hzn.1 (by omega)
   rw[hb,Bool.true_and]at hr
   refine Ai rfl (fun y hy=>?_)
   have hy:=add_in hy (by omega) (by omega)
   subst hy
   refine Ai rfl (Ei (k+1) (Ai ?_ (Ai ?_ ?_)))
   ·exact⟨rfl,rfl,rfl,trivial⟩
   ·exact⟨by omega,by omega,hc.nil hc2,by rw[Nat.add_sub_cancel];exact hr⟩
   ·omega
 ·refine Ai ?_ hc
  rw[hr,rising_short (by simp;omega)];rfl
theorem ba_get (a:ByteArray) (k:Nat) (h:k<a.size):a[k]? =some (a.data.toList[k]'h):=by
 rw[getElem?_pos a k h]
 rfl
theorem sless_data (a b:ByteArray):sless a b=Op.bytesLess a.data.toList b.data.toList:=by
 unfold sless
 rw[Go.ByteArray.toList_eq,Go.ByteArray.toList_eq]
theorem bl_nil_right:∀a:List UInt8,Op.bytesLess a []=false
 |[]=>rfl
 |_::_=>rfl
theorem bl_nil_left {b:List UInt8} (h:b≠[]):Op.bytesLess [] b=true:=by
 cases b with
 |nil=>exact absurd rfl h
 |cons=>rfl
theorem Less_calls {h:Heap} (a b:ByteArray) (ha:a.size<4611686018427387904) (_hb:b.size<4611686018427387904):
  CallsH Tryz.prog 113 [.string a,.string b] h (Ret fun r h'=>r=.bool (sless a b)∧h'=h):=by
 have la:a.data.toList.length=a.size:=rfl
 have lb:b.data.toList.length=b.size:=rfl
 refine f113_calls (by simp) ?_
 refine loop_intro (fun k:Nat=>[(0,.string a),(1,.string b),(5,.int .i64 k)]) (fun k h'=>k≤a.size∧k≤b.size∧h'=h∧sless a b=Op.bytesLess (a.data.toList.drop k) (b.data.toList.drop k)) (fun k=>a.size-k) 0 ⟨rfl,rfl,rfl,trivial⟩ ⟨Nat.zero_le _,Nat.zero_le _,rfl,sless_data a b⟩ ?_
 rintro k h1 ⟨hka,hkb,rfl,hr⟩
 have fin:¬(k<a.size∧k<b.size)→(a.size<b.size↔sless a b=true):=by
  intro hn
  rw[hr]
  by_cases h1:k<a.size
  ·have:k=b.size:=by omega
   rw[List.drop_of_length_le (l:=b.data.toList) (by omega),bl_nil_right]
   simp;omega
  ·rw[List.drop_of_length_le (l:=a.data.toList) (by omega)]
   by_cases h2:k<b.size
   ·rw[bl_nil_left (by intro e;have:=congrArg List.length e;simp at this;omega)]
    simp;omega
   ·rw[List.drop_of_length_le (l:=b.data.toList) (by omega)]
    simp[Op.bytesLess];omega
 have out:¬(k<a.size∧k<b.size)→∀t:Bool,(t=true↔a.size<b.size)→retV [Value.bool t]=.bool (sless a b)∧h1=h1:=by
  intro hn t ht
  refine⟨?_,rfl⟩
  have e:t=sless a b:=Bool.eq_iff_iff.2 (ht.trans (fin hn))
  rw[e];rfl
 refine Ai rfl (Ai (fun hlt=>?_) (fun hlt=>?_))
 ·refine Ai rfl (Ai (fun hlt2=>?_) (fun hlt2=>?_))
  ·have h1':k<a.size:=by omega
   have h2':k<b.size:=by omega
   have ga:=ba_get a k h1'
   have gb:=ba_get b k h2'
   have da:a.data.toList.drop k=a.data.toList[k]::a.data.toList.drop (k+1):=List.drop_eq_getElem_cons h1'
   have db:b.data.toList.drop k=b.data.toList[k]::b.data.toList.drop (k+1):=List.drop_eq_getElem_cons h2'
   rw[da,db]at hr
   refine Ei _ (Ai (by omega) (Ai ga ?_))
   refine Ei _ (Ai (by omega) (Ai gb ?_))
   refine Ai rfl (Ai (fun hne=>?_) (fun heq=>?_))
   ·refine Ei _ (Ai (by omega) (Ai ga ?_))
    refine Ei _ (Ai (by omega) (Ai gb ?_))
    have hne':a.data.toList[k]≠b.data.toList[k]:=by intro e;rw[e]at hne;exact hne rfl
    rw[bl_diff hne']at hr
    refine Ai rfl (Ai (fun hl=>?_) (fun hl=>?_))
    ·refine Ai ?_ rfl
     rw[hr,decide_eq_true (by rw[UInt8.lt_iff_toNat_lt];omega)];rfl
    ·refine Ai ?_ rfl
     rw[hr,decide_eq_false (by rw[UInt8.lt_iff_toNat_lt];omega)];rfl
   ·have heq':a.data.toList[k]=b.data.toList[k]:=UInt8.toNat_inj.1 (by omega)
    rw[bl_step heq']at hr
    refine Ai rfl (fun y hy=>?_)
    have hy:=add_in hy (by omega) (by omega)
    subst hy
    refine Ai rfl (Ei (k+1) (Ai ?_ (Ai ?_ ?_)))
    ·exact⟨rfl,rfl,rfl,trivial⟩
    ·exact⟨by omega,by omega,rfl,hr⟩
    ·omega
  ·refine Ai rfl (Ai (fun hl=>?_) (fun hl=>?_))
   ·exact out (by omega) true (by simp;omega)
   ·exact out (by omega) false (by simp;omega)
 ·refine Ai rfl (Ai (fun hl=>?_) (fun hl=>?_))
  ·exact out (by omega) true (by simp;omega)
  ·exact out (by omega) false (by simp;omega)
def aheadR (a b:Rank):Bool:=decide (a.score<b.score)||(decide (a.score=b.score)&&sless a.name b.name)
theorem Ahead_calls {h:Heap} (a b:Rank) (ha:a.name.size<4611686018427387904) (hb:b.name.size<4611686018427387904):
  CallsH Tryz.prog 114 [.agg ⟨encR a⟩,.agg ⟨encR b⟩] h (Ret fun u h'=>u=.bool (aheadR a b)∧Chg [] h h'):=by
 refine f114_calls (by simp) ?_
 intro b1 h1 g1
 intro b2 h2 g2
 have B1:Blk h2 b1 (encR a):=(show Blk h1 b1 (encR a)from g1.blk).chg g2.chg (by simp)
 have B2:Blk h2 b2 (encR b):=g2.blk
 have hc:=g1.chg.nil g2.chg
 refine Ei _ (Ai (cell_blk B1 rfl) (Ei _ (Ai (cell_blk B2 rfl) ?_)))
 refine Ai rfl (Ai (fun hl=>?_) (fun hl=>?_))
 ·exact Ai (by rw[aheadR,decide_eq_true hl];rfl) hc
 ·refine Ei _ (Ai (cell_blk B1 rfl) (Ei _ (Ai (cell_blk B2 rfl) ?_)))
  refine Ai rfl (Ai (fun he=>?_) (fun he=>?_))
  ·refine Ei _ (Ai (cell_blk B1 rfl) (Ei _ (Ai (cell_blk B2 rfl) ?_)))
   refine call_ret (Less_calls a.name b.name ha hb) ?_
   rintro _ h3 ⟨rfl,rfl⟩
   exact Ai (by rw[aheadR,decide_eq_false hl,decide_eq_true he];rfl) hc
  ·exact Ai (by rw[aheadR,decide_eq_false hl,decide_eq_false he];rfl) hc
theorem chk1_ord {h:Heap}:OrdP 69 (fun x y=>sless x.name y.name) h:=by
 intro h' x y _
 refine f69_calls (by simp) ?_
 intro b1 h1 g1
 intro b2 h2 g2
 have B1:Blk h2 b1 (encP x):=(show Blk h1 b1 (encP x)from g1.blk).chg g2.chg (by simp)
 have B2:Blk h2 b2 (encP y):=g2.blk
 refine Ei _ (Ai (cell_blk B1 rfl) (Ei _ (Ai (cell_blk B2 rfl) ?_)))
 refine call_ret (cmpS_calls x.name y.name) ?_
 rintro _ h3 ⟨rfl,rfl⟩
 exact Ai (Ei _ (Ai rfl (cmpB_neg _ _))) (g1.chg.nil g2.chg)
theorem cmpS_ord {h:Heap}:OrdS 70 sless h:=by
 intro h' x y _
 exact(cmpS_calls x y).mono fun e h'' he=>by
  cases e<;>first|exact he.elim|skip
  obtain⟨rfl,rfl⟩:=he
  exact Ai (Ei _ (Ai rfl (cmpB_neg _ _))) (Chg.refl _)
theorem ahead_ord {h:Heap}:OrdR 73 aheadR h:=by
 intro h' x y _
 refine f73_calls (by simp) ?_
 intro b1 h1 g1
 intro b2 h2 g2
 have B1:Blk h2 b1 (encR x):=(show Blk h1 b1 (encR x)from g1.blk).chg g2.chg (by simp)
 have B2:Blk h2 b2 (encR y):=g2.blk
 have hc:=g1.chg.nil g2.chg
 refine Ei _ (Ai (cell_blk B1 rfl) (Ei _ (Ai (cell_blk B2 rfl) ?_)))
 refine Ai rfl (Ai (fun hl=>?_) (fun hl=>?_))
 ·exact Ai (Ei (-1) (Ai rfl (by simp[aheadR,hl]))) hc
 ·refine Ei _ (Ai (cell_blk B1 rfl) (Ei _ (Ai (cell_blk B2 rfl) ?_)))
  refine Ai rfl (Ai (fun hg=>?_) (fun hg=>?_))
  ·exact Ai (Ei 1 (Ai rfl (by simp[aheadR];omega))) hc
  ·refine Ei _ (Ai (cell_blk B1 rfl) (Ei _ (Ai (cell_blk B2 rfl) ?_)))
   refine call_ret (cmpS_calls x.name y.name) ?_
   rintro _ h3 ⟨rfl,rfl⟩
   have e:x.score=y.score:=by omega
   exact Ai (Ei _ (Ai rfl (by rw[cmpB_neg];simp[aheadR,e]))) hc
structure Thing where
 kind:Int
 text:ByteArray
 pairs:List Pair
 list:List ByteArray
 ranks:List Rank
 hasU:Bool
 unt:Int
 deriving DecidableEq
theorem thing_eq {a b:Thing} (h1:a.kind=b.kind) (h2:a.text=b.text) (h3:a.pairs=b.pairs) (h4:a.list=b.list) (h5:a.ranks=b.ranks) (h6:a.hasU=b.hasU) (h7:a.unt=b.unt):a=b:=by
 cases a;cases b;simp_all
def TH (h:Heap) (vs:List Value) (t:Thing):Prop:=
 ∃pv lv rv,vs=[.int .i64 t.kind,.string t.text,pv,lv,rv,.bool t.hasU,.int .i64 t.unt]∧SL encP h pv t.pairs∧SL encS h lv t.list∧SL encR h rv t.ranks
theorem TH.ext {h h':Heap} {vs:List Value} {t:Thing} (x:TH h vs t) (hc:Chg [] h h'):TH h' vs t:=by
 obtain⟨pv,lv,rv,h1,h2,h3,h4⟩:=x
 exact⟨pv,lv,rv,h1,h2.ext hc,h3.ext hc,h4.ext hc⟩
theorem TH.len {h:Heap} {vs:List Value} {t:Thing} (x:TH h vs t):vs.length=7:=by
 obtain⟨pv,lv,rv,rfl,_⟩:=x;rfl
structure Fits (t:Thing):Prop where
 p:t.pairs.length<4611686018427387904
 l:t.list.length<4611686018427387904
 r:t.ranks.length<4611686018427387904
theorem RSame_calls {h:Heap} {vs us:List Value} {a b:Thing} (ta:TH h vs a) (tb:TH h us b) (fa:Fits a) (fb:Fits b):
  CallsH Tryz.prog 53 [.agg ⟨vs⟩,.agg ⟨us⟩] h (Ret fun r h'=>r=.bool (decide (a=b))∧Chg [] h h'):=by
 have fap:=fa.p;have fal:=fa.l;have far:=fa.r
 have fbp:=fb.p;have fbl:=fb.l;have fbr:=fb.r
 refine f53_calls (by simp) ?_
 intro b1 h1 g1
 intro b2 h2 g2
 have B1:Blk h2 b1 vs:=(show Blk h1 b1 vs from g1.blk).chg g2.chg (by simp)
 have B2:Blk h2 b2 us:=g2.blk
 have hc:=g1.chg.nil g2.chg
 obtain⟨pv,lv,rv,rfl,hp,hl,hr⟩:=ta.ext hc
 obtain⟨qv,mv,sv,rfl,hq,hm,hs⟩:=tb.ext hc
 obtain⟨pa,pc,rfl,_⟩:=hp.form
 obtain⟨la,lc,rfl,_⟩:=hl.form
 obtain⟨ra,rc,rfl,_⟩:=hr.form
 obtain⟨qa,qc,rfl,_⟩:=hq.form
 obtain⟨ma,mc,rfl,_⟩:=hm.form
 obtain⟨sa,sc,rfl,_⟩:=hs.form
 have bad:a≠b→Ret (fun r h'=>r=.bool (decide (a=b))∧Chg [] h h') (.returned (retV [Value.bool false])) h2:=fun hne=>⟨by rw[decide_eq_false hne];rfl,hc⟩
 refine Ei _ (Ai (cell_blk B1 rfl) (Ei _ (Ai (cell_blk B2 rfl) ?_)))
 refine Ai rfl (Ai (fun n1=>?_) (fun n1=>?_))
 ·exact bad (by rintro rfl;exact n1 rfl)
 refine Ei _ (Ai (cell_blk B1 rfl) (Ei _ (Ai (cell_blk B2 rfl) ?_)))
 refine Ai (fun n2=>?_) (fun n2=>?_)
 ·exact bad (by rintro rfl;exact n2 rfl)
 refine Ei _ (Ai (cell_blk B1 rfl) (Ei _ (Ai (cell_blk B2 rfl) ?_)))
 refine Ai (fun e6=>?_) (fun n6=>?_)
 rotate_left
 ·exact bad (by rintro rfl;exact n6 rfl)
 refine Ei _ (Ai (cell_blk B1 rfl) (Ei _ (Ai (cell_blk B2 rfl) ?_)))
 refine Ai rfl (Ai (fun n7=>?_) (fun n7=>?_))
 ·exact bad (by rintro rfl;exact n7 rfl)
 refine Ei _ (Ai (cell_blk B1 rfl) (Ei _ (Ai (cell_blk B2 rfl) ?_)))
 refine Ai rfl (Ai (fun n3=>?_) (fun n3=>?_))
 ·exact bad (by rintro rfl;exact n3 rfl)
 refine Ei _ (Ai (cell_blk B1 rfl) (Ei _ (Ai (cell_blk B2 rfl) ?_)))
 refine Ai rfl (Ai (fun n4=>?_) (fun n4=>?_))
 ·exact bad (by rintro rfl;exact n4 rfl)
 refine Ei _ (Ai (cell_blk B1 rfl) (Ei _ (Ai (cell_blk B2 rfl) ?_)))
 refine Ai rfl (Ai (fun n5=>?_) (fun n5=>?_))
 ·exact bad (by rintro rfl;exact n5 rfl)
 have l3:a.pairs.length=b.pairs.length:=by omega
 have l4:a.list.length=b.list.length:=by omega
 have l5:a.ranks.length=b.ranks.length:=by omega
 refine loop_intro (fun k:Nat=>[(2,.pointer (some ⟨b1,0,none⟩)),(3,.pointer (some ⟨b2,0,none⟩)),(5,.int .i64 k)]) (fun k h'=>k≤a.pairs.length∧h'=h2∧a.pairs.take k=b.pairs.take k) (fun k=>a.pairs.length-k) 0 ⟨rfl,rfl,rfl,trivial⟩ ⟨Nat.zero_le _,rfl,rfl⟩ ?_
 rintro k h3 ⟨hk,h32,ht0⟩
 have h32:=h32.symm
 subst h32
 refine Ei _ (Ai (cell_blk B1 rfl) ?_)
 refine Ai rfl (Ai (fun hlt=>?_) (fun hlt=>?_))
 ·have hlt:k<a.pairs.length:=by omega
  have hltm:k<b.pairs.length:=by omega
  obtain⟨b3,o,rfl⟩:=hp.addr (by omega)
  obtain⟨b4,o',rfl⟩:=hq.addr (by omega)
  have hcs:=hp.cells encP_len (i:=k) (x:=a.pairs[k]) (by simp[hlt])
  have hds:=hq.cells encP_len (i:=k) (x:=b.pairs[k]) (by simp[hltm])
  refine Ei _ (Ai (cell_blk B1 rfl) ?_)
  refine Ai (by omega) (Ai (by omega) (Ei (encP a.pairs[k]) (Ai rfl (Ai hcs ?_))))
  refine Ei _ (Ai (cell_blk B2 rfl) ?_)
  refine Ai (by omega) (Ai (by omega) (Ei (encP b.pairs[k]) (Ai rfl (Ai hds ?_))))
  refine Ai rfl (Ai rfl (Ai (fun he=>?_) (fun hd=>?_)))
  rotate_left
  ·exact bad (by rintro rfl;exact hd rfl)
  have he:a.pairs[k]=b.pairs[k]:=encP_inj he
  refine Ai rfl (fun z hz=>?_)
  have hz:=add_in hz (by omega) (by omega)
  subst hz
  refine Ai rfl (Ei (k+1) (Ai ?_ (Ai ?_ ?_)))
  ·exact⟨rfl,rfl,rfl,trivial⟩
  ·exact⟨by omega,rfl,by rw[take_snoc a.pairs k hlt,take_snoc b.pairs k hltm,ht0,he]⟩
  ·omega
 have hk0:k=a.pairs.length:=by omega
 have e3:a.pairs=b.pairs:=by
  rw[hk0,List.take_length,l3,List.take_length]at ht0
  exact ht0
 clear hlt hk0 ht0 hk
 refine loop_intro (fun k:Nat=>[(2,.pointer (some ⟨b1,0,none⟩)),(3,.pointer (some ⟨b2,0,none⟩)),(6,.int .i64 k)]) (fun k h'=>k≤a.list.length∧h'=h2∧a.list.take k=b.list.take k) (fun k=>a.list.length-k) 0 ⟨rfl,rfl,rfl,trivial⟩ ⟨Nat.zero_le _,rfl,rfl⟩ ?_
 rintro k h3 ⟨hk,h32,ht1⟩
 have h32:=h32.symm
 subst h32
 refine Ei _ (Ai (cell_blk B1 rfl) ?_)
 refine Ai rfl (Ai (fun hlt=>?_) (fun hlt=>?_))
 ·have hlt:k<a.list.length:=by omega
  have hltm:k<b.list.length:=by omega
  obtain⟨b3,o,rfl⟩:=hl.addr (by omega)
  obtain⟨b4,o',rfl⟩:=hm.addr (by omega)
  have hcs:=hl.cells encS_len (i:=k) (x:=a.list[k]) (by simp[hlt])
  have hds:=hm.cells encS_len (i:=k) (x:=b.list[k]) (by simp[hltm])
  refine Ei _ (Ai (cell_blk B1 rfl) ?_)
  refine Ai (by omega) (Ai (by omega) (Ei _ (Ai (hcs 0 _ rfl) ?_)))
  refine Ei _ (Ai (cell_blk B2 rfl) ?_)
  refine Ai (by omega) (Ai (by omega) (Ei _ (Ai (hds 0 _ rfl) ?_)))
  refine Ai (fun hd=>?_) (fun hd=>?_)
  ·exact bad (by rintro rfl;exact hd rfl)
  have he:a.list[k]=b.list[k]:=Decidable.not_not.1 hd
  refine Ai rfl (fun z hz=>?_)
  have hz:=add_in hz (by omega) (by omega)
  subst hz
  refine Ai rfl (Ei (k+1) (Ai ?_ (Ai ?_ ?_)))
  ·exact⟨rfl,rfl,rfl,trivial⟩
  ·exact⟨by omega,rfl,by rw[take_snoc a.list k hlt,take_snoc b.list k hltm,ht1,he]⟩
  ·omega
 have hk1:k=a.list.length:=by omega
 have e4:a.list=b.list:=by
  rw[hk1,List.take_length,l4,List.take_length]at ht1
  exact ht1
 clear hlt hk1 ht1 hk
 refine loop_intro (fun k:Nat=>[(2,.pointer (some ⟨b1,0,none⟩)),(3,.pointer (some ⟨b2,0,none⟩)),(7,.int .i64 k)]) (fun k h'=>k≤a.ranks.length∧h'=h2∧a.ranks.take k=b.ranks.take k) (fun k=>a.ranks.length-k) 0 ⟨rfl,rfl,rfl,trivial⟩ ⟨Nat.zero_le _,rfl,rfl⟩ ?_
 rintro k h3 ⟨hk,h32,ht2⟩
 have h32:=h32.symm
 subst h32
 refine Ei _ (Ai (cell_blk B1 rfl) ?_)
 refine Ai rfl (Ai (fun hlt=>?_) (fun hlt=>?_))
 ·have hlt:k<a.ranks.length:=by omega
  have hltm:k<b.ranks.length:=by omega
  obtain⟨b3,o,rfl⟩:=hr.addr (by omega)
  obtain⟨b4,o',rfl⟩:=hs.addr (by omega)
  have hcs:=hr.cells encR_len (i:=k) (x:=a.ranks[k]) (by simp[hlt])
  have hds:=hs.cells encR_len (i:=k) (x:=b.ranks[k]) (by simp[hltm])
  refine Ei _ (Ai (cell_blk B1 rfl) ?_)
  refine Ai (by omega) (Ai (by omega) (Ei (encR a.ranks[k]) (Ai rfl (Ai hcs ?_))))
  refine Ei _ (Ai (cell_blk B2 rfl) ?_)
  refine Ai (by omega) (Ai (by omega) (Ei (encR b.ranks[k]) (Ai rfl (Ai hds ?_))))
  refine Ai rfl (Ai rfl (Ai (fun he=>?_) (fun hd=>?_)))
  rotate_left
  ·exact bad (by rintro rfl;exact hd rfl)
  have he:a.ranks[k]=b.ranks[k]:=encR_inj he
  refine Ai rfl (fun z hz=>?_)
  have hz:=add_in hz (by omega) (by omega)
  subst hz
  refine Ai rfl (Ei (k+1) (Ai ?_ (Ai ?_ ?_)))
  ·exact⟨rfl,rfl,rfl,trivial⟩
  ·exact⟨by omega,rfl,by rw[take_snoc a.ranks k hlt,take_snoc b.ranks k hltm,ht2,he]⟩
  ·omega
 have hk2:k=a.ranks.length:=by omega
 have e5:a.ranks=b.ranks:=by
  rw[hk2,List.take_length,l5,List.take_length]at ht2
  exact ht2
 clear hlt hk2 ht2 hk
 exact Ai (by rw[decide_eq_true (thing_eq (Decidable.not_not.1 n1) (Decidable.not_not.1 n2) e3 e4 e5 e6 (Decidable.not_not.1 n7))];rfl) hc
structure Lens (t:Thing):Prop where
 p:t.pairs.length≤70000
 l:t.list.length≤70000
 r:t.ranks.length≤70000
theorem Lens.fits {t:Thing} (x:Lens t):Fits t:=⟨by have:=x.p;omega,by have:=x.l;omega,by have:=x.r;omega⟩
def countT (t:Thing):Nat:=t.pairs.length+t.list.length+t.ranks.length
theorem count_calls {h:Heap} {vs:List Value} {t:Thing} (x:TH h vs t) (n:Lens t):
  CallsH Tryz.prog 65 [.agg ⟨vs⟩] h (Ret fun r h'=>r=.int .i64 (countT t)∧Chg [] h h'):=by
 have np:=n.p;have nl:=n.l;have nr:=n.r
 refine f65_calls (by simp) ?_
 intro b1 h1 g1
 have B1:Blk h1 b1 vs:=g1.blk
 obtain⟨pv,lv,rv,rfl,hp,hl,hr⟩:=x
 obtain⟨pa,pc,rfl,_⟩:=hp.form
 obtain⟨la,lc,rfl,_⟩:=hl.form
 obtain⟨ra,rc,rfl,_⟩:=hr.form
 refine Ei _ (Ai (cell_blk B1 rfl) (Ei _ (Ai (cell_blk B1 rfl) ?_)))
 refine Ai rfl (fun z hz=>?_)
 have hz:=add_in hz (by omega) (by omega)
 refine Ei _ (Ai (cell_blk B1 rfl) ?_)
 refine Ai rfl (fun y hy=>?_)
 have hy:=add_in hy (by omega) (by omega)
 refine Ai ?_ g1.chg
 have:y=(countT t:Int):=by unfold countT;omega
 rw[this];rfl
theorem short1_calls {h:Heap} (s:ByteArray):CallsH Tryz.prog 144 [.string s] h (Ret fun r h'=>r=.bool (decide (1048576<s.size))∧h'=h):=by
 refine f144_calls (by simp) ?_
 refine Ai rfl (Ai (fun hl=>?_) (fun hl=>?_))
 ·exact Ai (by rw[decide_eq_true (by omega)];rfl) rfl
 ·exact Ai (by rw[decide_eq_false (by omega)];rfl) rfl
theorem idxF_calls {h:Heap} {v:Value} {l:List ByteArray} (hv:SL encS h v l) (hl:l.length<4611686018427387904):
  CallsH Tryz.prog 226 [v,.func (.func 144) #[] #[]] h (Ret fun r h'=>(∃z,r=.int .i64 z∧(z<0↔∀s∈l,s.size≤1048576))∧h'=h):=by
 obtain⟨a,c,rfl,hlc⟩:=hv.form
 refine f226_calls (by simp) ?_
 refine loop_intro (fun k:Nat=>[(0,.slice a l.length c),(1,.func (.func 144) #[] #[]),(7,.int .i64 l.length),(8,.int .i64 k)]) (fun k h'=>k≤l.length∧h'=h∧∀s∈l.take k,s.size≤1048576) (fun k=>l.length-k) 0 ⟨rfl,rfl,rfl,rfl,trivial⟩ ⟨Nat.zero_le _,rfl,by simp⟩ ?_
 rintro k h' ⟨hk,rfl,ht⟩
 refine Ai rfl (Ai (fun hlt=>?_) (fun hlt=>?_))
 ·have hlt:k<l.length:=by omega
  obtain⟨b,o,rfl⟩:=hv.addr (by omega)
  have hcs:=hv.cells encS_len (i:=k) (x:=l[k]) (by simp[hlt])
  refine Ai (by omega) (Ai (by omega) (Ei _ (Ai (hcs 0 _ rfl) ?_)))
  refine call_ret (short1_calls l[k]) ?_
  rintro r _ ⟨hr,rfl⟩
  by_cases hs:1048576<l[k].size
  ·rw[decide_eq_true hs]at hr
   subst hr
   refine Ai (Ei k (Ai rfl ?_)) rfl
   constructor
   ·intro h;omega
   ·intro h;have:=h l[k] (List.getElem_mem hlt);omega
  ·rw[decide_eq_false hs]at hr
   subst hr
   refine Ai rfl (fun z hz=>?_)
   have hz:=add_in hz (by omega) (by omega)
   subst hz
   refine Ai rfl (Ei (k+1) (Ai ?_ (Ai ?_ ?_)))
   ·exact⟨rfl,rfl,rfl,rfl,trivial⟩
   ·refine⟨by omega,rfl,fun s hs'=>?_⟩
    rw[take_snoc l k hlt]at hs'
    rcases List.mem_append.1 hs' with hs'|hs'
    ·exact ht s hs'
    ·have:s=l[k]:=by simpa using hs'
     rw[this];omega
   ·omega
 ·have hkl:k=l.length:=by omega
  rw[hkl,List.take_length]at ht
  exact Ai (Ei (-1) (Ai rfl ⟨fun _=>ht,fun _=>by decide⟩)) rfl
def shortL (l:List ByteArray):Bool:=l.all fun s=>decide (s.size≤1048576)
theorem shortL_iff {l:List ByteArray}:shortL l=true↔∀s∈l,s.size≤1048576:=by simp[shortL]
theorem conF_calls {h:Heap} {v:Value} {l:List ByteArray} (hv:SL encS h v l) (hl:l.length<4611686018427387904):
  CallsH Tryz.prog 143 [v,.func (.func 144) #[] #[]] h (Ret fun r h'=>r=.bool (!shortL l)∧h'=h):=by
 refine f143_calls (by simp) ?_
 refine call_ret (idxF_calls hv hl) ?_
 rintro _ _ ⟨⟨z,rfl,hz⟩,rfl⟩
 rw[←shortL_iff]at hz
 refine Ai rfl (Ai (fun hg=>?_) (fun hg=>?_))
 ·have:shortL l=false:=by
   cases hs:shortL l with
   |false=>rfl
   |true=>have:=hz.2 hs;omega
  exact Ai (by rw[this];rfl) rfl
 ·exact Ai (by rw[hz.1 (by omega)];rfl) rfl
theorem short_calls {h:Heap} {v:Value} {l:List ByteArray} (hv:SL encS h v l) (hl:l.length<4611686018427387904):
  CallsH Tryz.prog 66 [v] h (Ret fun r h'=>r=.bool (shortL l)∧h'=h):=by
 refine f66_calls (by simp) ?_
 refine call_ret (conF_calls hv hl) ?_
 rintro _ _ ⟨rfl,rfl⟩
 exact Ai (by cases shortL l<;>rfl) rfl
def namesT (t:Thing):List ByteArray:=t.pairs.flatMap (fun p=>[p.name,p.text])++t.ranks.map Rank.name
theorem names_calls {h:Heap} {vs:List Value} {t:Thing} (x:TH h vs t) (n:Lens t):
  CallsH Tryz.prog 67 [.agg ⟨vs⟩] h (Ret fun r h'=>OL encS 1 h' r (namesT t)∧Chg [] h h'):=by
 have np:=n.p;have nr:=n.r
 refine f67_calls (by simp) ?_
 intro b1 h1 g1
 have B1:Blk h1 b1 vs:=g1.blk
 have hc1:=g1.chg
 obtain⟨pv,lv,rv,rfl,hp,hl,hr⟩:=x.ext hc1
 obtain⟨pa,pc,rfl,_⟩:=hp.form
 obtain⟨ra,rc,rfl,_⟩:=hr.form
 refine Ei _ (Ai (cell_blk B1 rfl) ?_)
 have fl:∀k,((t.pairs.take k).flatMap fun p=>[p.name,p.text]).length≤2*k:=by
  intro k
  induction k with
  |zero=>simp
  |succ k ih=>
   by_cases hk:k<t.pairs.length
   ·rw[take_snoc t.pairs k hk,List.flatMap_append];simp at ih⊢;omega
   ·rw[List.take_of_length_le (by omega)]at ih⊢;omega
 refine loop_intro (fun i:Nat×Value=>[(1,.pointer (some ⟨b1,0,none⟩)),(3,i.2),(9,.slice pa t.pairs.length pc),(10,.int .i64 t.pairs.length),(11,.int .i64 i.1)])
  (fun i h'=>i.1≤t.pairs.length∧Chg [] h1 h'∧OL encS 1 h' i.2 ((t.pairs.take i.1).flatMap fun p=>[p.name,p.text])∧∀b∈vblk i.2,h1.size≤b) (fun i=>t.pairs.length-i.1) (0,.slice none 0 0) ⟨rfl,rfl,rfl,rfl,rfl,trivial⟩
  ⟨Nat.zero_le _,Chg.refl _,OL.nil,by simp[vblk,ablk]⟩ ?_
 rintro⟨k,ov⟩ h2 ⟨hk,hc2,ho,hob⟩
 simp only at hk ho hob
 refine Ai rfl (Ai (fun hlt=>?_) (fun hlt=>?_))
 ·have hkk:k<t.pairs.length:=by omega
  obtain⟨b,o,rfl⟩:=hp.addr (by omega)
  have hcs:=(hp.ext hc2).cells encP_len (i:=k) (x:=t.pairs[k]) (by simp[hkk])
  obtain⟨oa,oc,rfl,_⟩:=ho.sl.form
  refine Ai (by omega) (Ai (by omega) (Ei (encP t.pairs[k]) (Ai rfl (Ai hcs ?_))))
  intro b3 h3 g3
  refine Ei _ (Ai g3.blk (Ai (by decide) (Ai rfl (Ai (encP_one _) ?_))))
  intro h4 p4
  have g4:=g3.put p4
  have B4:Blk h4 b3 (encP t.pairs[k]):=g4.blk
  refine Ei _ (Ai (cell_blk B4 rfl) (Ei _ (Ai (cell_blk B4 rfl) ?_)))
  intro b5 h5 g5
  have hc5:=g4.chg.nil g5.chg
  have hsrc:SL encS h5 (.slice (some ⟨b5,0,none⟩) 2 2) [t.pairs[k].name,t.pairs[k].text]:=⟨_,_,rfl,Nat.le_refl _,cells_blk g5.blk⟩
  have hfl:=fl k
  refine app_own encS_len encS_one rfl (ho.ext hc5) hsrc (by simp at hfl⊢;omega) ?_
  intro v' h6 ho6 hc6 hb6
  have hc26:Chg [] h1 h6:=(hc2.nil hc5).fresh hc6 hob
  refine Ai rfl (fun z hz=>?_)
  have hz:=add_in hz (by omega) (by omega)
  subst hz
  refine Ai rfl (Ei (k+1,v') (Ai ?_ (Ai ?_ ?_)))
  ·exact⟨rfl,rfl,rfl,rfl,rfl,trivial⟩
  ·refine⟨by simp only;omega,hc26,?_,fun b' hb'=>?_⟩
   ·simp only
    rw[take_snoc t.pairs k hkk,List.flatMap_append]
    exact ho6
   ·rcases hb6 b' hb' with h|h
    ·exact hob b' h
    ·have:=(hc2.nil hc5).size;omega
  ·simp only;omega
 have hkl:k=t.pairs.length:=by omega
 rw[hkl,List.take_length]at ho
 have B2:=B1.chg hc2 (by simp)
 refine Ei _ (Ai (cell_blk B2 rfl) ?_)
 have flp:(t.pairs.flatMap fun p=>[p.name,p.text]).length≤140000:=by
  have:=fl t.pairs.length
  rw[List.take_length]at this;omega
 refine loop_intro (fun i:Nat×Value=>[(3,i.2),(24,.slice ra t.ranks.length rc),(25,.int .i64 t.ranks.length),(26,.int .i64 i.1)])
  (fun i h'=>i.1≤t.ranks.length∧Chg [] h1 h'∧OL encS 1 h' i.2 (t.pairs.flatMap (fun p=>[p.name,p.text])++(t.ranks.take i.1).map Rank.name)∧∀b∈vblk i.2,h1.size≤b) (fun i=>t.ranks.length-i.1) (0,ov) ⟨rfl,rfl,rfl,rfl,trivial⟩
  ⟨Nat.zero_le _,hc2,by simpa using ho,hob⟩ ?_
 clear hlt hkl hk hob ho
 rintro⟨k,ov⟩ h2 ⟨hk,hc2,ho,hob⟩
 simp only at hk ho hob
 refine Ai rfl (Ai (fun hlt=>?_) (fun hlt=>?_))
 ·have hkk:k<t.ranks.length:=by omega
  obtain⟨b,o,rfl⟩:=hr.addr (by omega)
  have hcs:=(hr.ext hc2).cells encR_len (i:=k) (x:=t.ranks[k]) (by simp[hkk])
  obtain⟨oa,oc,rfl,_⟩:=ho.sl.form
  refine Ai (by omega) (Ai (by omega) (Ei (encR t.ranks[k]) (Ai rfl (Ai hcs ?_))))
  intro b3 h3 g3
  refine Ei _ (Ai g3.blk (Ai (by decide) (Ai rfl (Ai (encR_one _) ?_))))
  intro h4 p4
  have g4:=g3.put p4
  have B4:Blk h4 b3 (encR t.ranks[k]):=g4.blk
  refine Ei _ (Ai (cell_blk B4 rfl) ?_)
  intro b5 h5 g5
  have hc5:=g4.chg.nil g5.chg
  have hsrc:SL encS h5 (.slice (some ⟨b5,0,none⟩) 1 1) [t.ranks[k].name]:=SL.one encS_len g5.blk
  refine app_own encS_len encS_one rfl (ho.ext hc5) hsrc (by simp at flp⊢;omega) ?_
  intro v' h6 ho6 hc6 hb6
  have hc26:Chg [] h1 h6:=(hc2.nil hc5).fresh hc6 hob
  refine Ai rfl (fun z hz=>?_)
  have hz:=add_in hz (by omega) (by omega)
  subst hz
  refine Ai rfl (Ei (k+1,v') (Ai ?_ (Ai ?_ ?_)))
  ·exact⟨rfl,rfl,rfl,rfl,trivial⟩
  ·refine⟨by simp only;omega,hc26,?_,fun b' hb'=>?_⟩
   ·simp only
    rw[take_snoc t.ranks k hkk,List.map_append,←List.append_assoc]
    exact ho6
   ·rcases hb6 b' hb' with h|h
    ·exact hob b' h
    ·have:=(hc2.nil hc5).size;omega
  ·simp only;omega
 have hkl:k=t.ranks.length:=by omega
 rw[hkl,List.take_length]at ho
 exact Ai ho (hc1.nil hc2)
theorem mfind_none {k:Kd} {a:Value} (ha:fits k a=true):∀(es:List MapEntry) (i:Nat),(∀e∈es,fits k e.key=true)→mfind a es i=none→∀e∈es,e.key≠a
 |[],_,_,_,e,he=>by simp at he
 |x::es,i,hf,h,e,he=>by
  simp only[mfind]at h
  split at h
  ·simp at h
  ·rename_i hs
   rcases List.mem_cons.1 he with rfl|he
   ·intro e;exact hs (by rw[e];exact sameBits_refl ha)
   ·exact mfind_none ha es (i+1) (fun y hy=>hf y (by simp[hy])) h e he
theorem modify_keys (f:MapEntry→MapEntry) (hf:∀e,(f e).key=e.key):∀(es:List MapEntry) (i:Nat),(es.modify i f).map (·.key)=es.map (·.key)
 |[],i=>by simp
 |e::es,0=>by simp[hf]
 |e::es,i+1=>by simp[modify_keys f hf es i]
theorem mem_modify {f:MapEntry→MapEntry}:∀{es:List MapEntry} {i:Nat} {e:MapEntry},e∈es.modify i f→e∈es∨∃x∈es,e=f x
 |[],i,e,h=>by simp at h
 |x::es,0,e,h=>by
  simp at h
  rcases h with rfl|h
  ·exact .inr ⟨x,by simp,rfl⟩
  ·exact .inl (by simp[h])
 |x::es,i+1,e,h=>by
  simp at h
  rcases h with rfl|h
  ·exact .inl (by simp)
  ·rcases mem_modify h with h|⟨y,hy,rfl⟩
   ·exact .inl (by simp[h])
   ·exact .inr ⟨y,by simp[hy],rfl⟩
structure Seen (h:Heap) (mb:Nat) (m:List ByteArray):Prop where
 ex:∃(es:List MapEntry) (c:Nat) (ks:List ByteArray),MapB h mb es c∧es.map (·.key)=ks.map Value.string∧(∀n,n∈ks↔n∈m)∧(ks.length=m.length↔m.Nodup)∧ks.length≤m.length∧∀e∈es,∃z,e.val=.int .i64 z
theorem nodup_snoc {m:List ByteArray} {n:ByteArray}:(m++[n]).Nodup↔m.Nodup∧n∉m:=by
 rw[List.nodup_append]
 constructor
 ·rintro⟨h1,_,h3⟩
  exact⟨h1,fun hm=>h3 n hm n (by simp) rfl⟩
 ·rintro⟨h1,h2⟩
  refine⟨h1,by simp,fun a ha b hb=>?_⟩
  have:b=n:=by simpa using hb
  rw[this];rintro rfl;exact h2 ha
def onceR (l:List Rank):Bool:=decide (l.map Rank.name).Nodup
theorem once_calls {h:Heap} {v:Value} {l:List Rank} (hv:SL encR h v l) (hl:l.length<4611686018427387904):
  CallsH Tryz.prog 74 [v] h (Ret fun r h'=>r=.bool (onceR l)∧Chg [] h h'):=by
 obtain⟨a,c,rfl,hlc⟩:=hv.form
 refine f74_calls (by simp) ?_
 intro mb h1 g1
 have hm0:Seen h1 mb []:=⟨[],0,[],g1.blk,rfl,by simp,by simp,by simp,by simp⟩
 have hmb:h.size≤mb:=by rw[g1.id];exact Nat.le_refl _
 refine loop_intro (fun k:Nat=>[(0,.slice a l.length c),(3,.map (some mb)),(7,.slice a l.length c),(8,.int .i64 l.length),(9,.int .i64 k)]) (fun k h'=>k≤l.length∧Chg [] h h'∧Seen h' mb ((l.take k).map Rank.name)) (fun k=>l.length-k) 0
  ⟨rfl,rfl,rfl,rfl,rfl,trivial⟩ ⟨Nat.zero_le _,g1.chg,hm0⟩ ?_
 rintro k h2 ⟨hk,hc2,hs⟩
 refine Ai rfl (Ai (fun hlt=>?_) (fun hlt=>?_))
 ·have hkk:k<l.length:=by omega
  obtain⟨b,o,rfl⟩:=hv.addr (by omega)
  have hcs:=(hv.ext hc2).cells encR_len (i:=k) (x:=l[k]) (by simp[hkk])
  refine Ai (by omega) (Ai (by omega) (Ei (encR l[k]) (Ai rfl (Ai hcs ?_))))
  intro b3 h3 g3
  refine Ei _ (Ai g3.blk (Ai (by decide) (Ai rfl (Ai (encR_one _) ?_))))
  intro h4 p4
  have g4:=g3.put p4
  have B4:Blk h4 b3 (encR l[k]):=g4.blk
  obtain⟨es,cl,ks,hmap,hkeys,hmem,hnd,hle,hvals⟩:=hs.ex
  have hmap4:MapB h4 mb es cl:=hmap.chg g4.chg (by simp)
  have hfits:∀e∈es,fits .str e.key=true:=by
   intro e he
   have:e.key∈es.map (·.key):=List.mem_map.2 ⟨e,he,rfl⟩
   rw[hkeys]at this
   obtain⟨n,_,hn⟩:=List.mem_map.1 this
   rw[←hn];rfl
  refine Ei _ (Ai (cell_blk B4 rfl) ?_)
  refine Ai rfl (Ei es (Ei cl (Ai hmap4 (Ai hfits ?_))))
  have htk:(l.take (k+1)).map Rank.name=(l.take k).map Rank.name++[l[k].name]:=by rw[take_snoc l k hkk,List.map_append];rfl
  have hc4:=hc2.nil g4.chg
  cases hmf:mfind (.string l[k].name) es 0 with
  |none=>
   have hnot:=mfind_none (k:=.str) rfl es 0 hfits hmf
   have hnk:l[k].name∉ks:=by
    intro hm
    have:Value.string l[k].name∈es.map (·.key):=by rw[hkeys];exact List.mem_map.2 ⟨_,hm,rfl⟩
    obtain⟨e,he,hek⟩:=List.mem_map.1 this
    exact hnot e he hek
   refine Ai rfl (fun z hz=>?_)
   refine Ai rfl (Ei es (Ei cl (Ai hmap4 (Ai hfits ?_))))
   rw[hmf]
   intro h5 p5
   refine Ai rfl (fun y hy=>?_)
   have hy:=add_in hy (by omega) (by omega)
   subst hy
   refine Ai rfl (Ei (k+1) (Ai ?_ (Ai ?_ ?_)))
   ·exact⟨rfl,rfl,rfl,rfl,rfl,trivial⟩
   ·refine⟨by omega,hc4.fresh p5.chg (by simp;exact hmb),⟨_,_,ks++[l[k].name],p5.blk,by rw[List.map_append,List.map_append,hkeys];rfl,?_,?_,?_,?_⟩⟩
    ·intro n;rw[htk];simp[hmem n]
    ·have hnk':l[k].name∉(l.take k).map Rank.name:=fun h=>hnk ((hmem _).2 h)
     rw[htk,nodup_snoc]
     simp only[List.length_append,List.length_cons,List.length_nil]
     constructor
     ·intro h;exact⟨hnd.1 (by omega),hnk'⟩
     ·rintro⟨h,_⟩;have:=hnd.2 h;omega
    ·rw[htk];simp only[List.length_append,List.length_cons,List.length_nil];omega
    ·intro e he
     rcases List.mem_append.1 he with he|he
     ·exact hvals e he
     ·have:e={key:=.string l[k].name,val:=.int .i64 z,born:=cl}:=by simpa using he
      rw[this];exact⟨z,rfl⟩
   ·omega
  |some p=>
   obtain⟨i,w⟩:=p
   obtain⟨_,e0,he0,hek,hev⟩:=mfind_spec (k:=.str) rfl es 0 i w hfits hmf
   have hem:e0∈es:=List.mem_of_getElem? he0
   obtain⟨zz,hzz⟩:=hvals e0 hem
   rw[hzz]at hev
   subst hev
   have hin:l[k].name∈ks:=by
    have:Value.string l[k].name∈es.map (·.key):=List.mem_map.2 ⟨e0,hem,hek⟩
    rw[hkeys]at this
    obtain⟨n,hn,hne⟩:=List.mem_map.1 this
    cases hne;exact hn
   refine Ai rfl (fun z hz=>?_)
   refine Ai rfl (Ei es (Ei cl (Ai hmap4 (Ai hfits ?_))))
   rw[hmf]
   intro h5 p5
   refine Ai rfl (fun y hy=>?_)
   have hy:=add_in hy (by omega) (by omega)
   subst hy
   refine Ai rfl (Ei (k+1) (Ai ?_ (Ai ?_ ?_)))
   ·exact⟨rfl,rfl,rfl,rfl,rfl,trivial⟩
   ·refine⟨by omega,hc4.fresh p5.chg (by simp;exact hmb),⟨_,_,ks,p5.blk,by rw[modify_keys (fun e=>{e with val:=.int .i64 z}) (fun _=>rfl)];exact hkeys,?_,?_,?_,?_⟩⟩
    ·intro n;rw[htk];simp only[List.mem_append,List.mem_singleton,hmem n]
     constructor
     ·exact .inl
     ·rintro(h|rfl)
      ·exact h
      ·exact(hmem _).1 hin
    ·rw[htk,nodup_snoc]
     simp only[List.length_append,List.length_cons,List.length_nil]
     constructor
     ·intro h;omega
     ·rintro⟨_,h⟩;exact absurd ((hmem _).1 hin) h
    ·rw[htk];simp only[List.length_append,List.length_cons,List.length_nil];omega
    ·intro e he
     rcases mem_modify he with he|⟨x,_,rfl⟩
     ·exact hvals e he
     ·exact⟨_,rfl⟩
   ·omega
 ·have hkl:k=l.length:=by omega
  rw[hkl,List.take_length]at hs
  obtain⟨es,cl,ks,hmap,hkeys,hmem,hnd,hle,hvals⟩:=hs.ex
  have hel:es.length=ks.length:=by
   have:=congrArg List.length hkeys
   simpa using this
  simp only[List.length_map]at hnd
  refine Ei es (Ei cl (Ai hmap ?_))
  refine Ai rfl (Ai (fun he=>?_) (fun he=>?_))
  ·exact Ai (by rw[onceR,decide_eq_true (hnd.1 (by omega))];rfl) hc2
  ·exact Ai (by rw[onceR,decide_eq_false (fun h=>he (by have:=hnd.2 h;omega))];rfl) hc2
structure Small (t:Thing):Prop where
 p:t.pairs.length≤40
 l:t.list.length≤40
 r:t.ranks.length≤40
 text:t.text.size≤2000
 ps:∀x∈t.pairs,x.name.size≤2000∧x.text.size≤2000
 ls:∀x∈t.list,x.size≤2000
 rs:∀x∈t.ranks,x.name.size≤2000
structure Sized (t:Thing):Prop where
 text:t.text.size<1000000000000000000
 ps:∀x∈t.pairs,x.name.size<1000000000000000000∧x.text.size<1000000000000000000
 ls:∀x∈t.list,x.size<1000000000000000000
 rs:∀x∈t.ranks,x.name.size<1000000000000000000
theorem Small.lens {t:Thing} (s:Small t):Lens t:=⟨by have:=s.p;omega,by have:=s.l;omega,by have:=s.r;omega⟩
def noText:ByteArray:=⟨#[]⟩
def kOK (t:Thing):Bool:=
 if t.hasU=false∧t.unt≠0 then false else
 if t.kind=1 then decide (t.pairs.length+t.list.length+t.ranks.length=0)else
 if t.kind=2 then decide (0<t.pairs.length)&&(decide (t.list.length+t.ranks.length=0)&&(decide (t.text=noText)&&rising (fun x y=>sless x.name y.name) t.pairs))else
 if t.kind=3 then decide (0<t.list.length)&&(decide (t.pairs.length+t.ranks.length=0)&&decide (t.text=noText))else
 if t.kind=4 then decide (0<t.list.length)&&(decide (t.pairs.length+t.ranks.length=0)&&(decide (t.text=noText)&&rising sless t.list))else
 if t.kind=5 then decide (0<t.ranks.length)&&(decide (t.pairs.length+t.list.length=0)&&(decide (t.text=noText)&&(rising aheadR t.ranks&&onceR t.ranks)))else false
theorem small_short {t:Thing} (s:Small t):shortL [t.text]=true∧shortL t.list=true∧shortL (namesT t)=true∧countT t≤65536:=by
 have:=s.text
 have hp:=s.p;have hl:=s.l;have hr:=s.r
 refine⟨by rw[shortL_iff];intro x hx;simp at hx;rw[hx];omega,by rw[shortL_iff];intro x hx;have:=s.ls x hx;omega,?_,by unfold countT;omega⟩
 rw[shortL_iff]
 intro x hx
 simp only[namesT,List.mem_append,List.mem_flatMap,List.mem_map]at hx
 rcases hx with⟨p,hp,hx⟩|⟨r,hr,rfl⟩
 ·have:=s.ps p hp
  simp at hx
  rcases hx with rfl|rfl<;>omega
 ·have:=s.rs r hr;omega
theorem namesT_len {t:Thing} (s:Small t):(namesT t).length<4611686018427387904:=by
 have hp:=s.p;have hr:=s.r
 unfold namesT
 have:∀l:List Pair,(l.flatMap fun p=>[p.name,p.text]).length=2*l.length:=by
  intro l
  induction l with
  |nil=>rfl
  |cons x l ih=>simp at ih⊢;omega
 rw[List.length_append,this,List.length_map];omega
theorem KCheck_tail {h h0:Heap} {b1:Nat} {vs:List Value} {t:Thing} (s:Small t) (hc:Chg [] h0 h) (B1:Blk h b1 vs) (x:TH h vs t) (hu:¬(t.hasU=false∧t.unt≠0)):
  swp Tryz.prog (.seq (.seq (.ops f35r4) (.block 0 (.seq (.ops f35r5) (.cond (.tmp 49) (.seq (.ops f35r6) .ret) (.seq (.ops f35r7) (.cond (.tmp 57) (.seq (.ops f35r8) .ret) (.seq (.ops f35r9) (.cond (.tmp 77) (.seq (.ops f35r10) .ret) (.seq (.ops f35r11) (.cond (.tmp 92) (.seq (.ops f35r12) .ret) (.seq (.ops f35r13) (.cond (.tmp 112) (.seq (.ops f35r14) .ret) .skip)))))))))))) (.seq (.ops f35r15) .ret))
   (retQ [.t 2] (Ret fun r h'=>r=.bool (kOK t)∧Chg [] h0 h')) (mk [(1,.pointer (some ⟨b1,0,none⟩)),(2,.bool false),(3,.int .i64 t.pairs.length),(4,.int .i64 t.list.length),(5,.int .i64 t.ranks.length)]) [] h:=by
 have sp:=s.p;have sl:=s.l;have sr:=s.r
 obtain⟨pv,lv,rv,rfl,hp,hl,hr⟩:=x
 have e0:kOK t=if t.kind=1 then decide (t.pairs.length+t.list.length+t.ranks.length=0)else
   if t.kind=2 then decide (0<t.pairs.length)&&(decide (t.list.length+t.ranks.length=0)&&(decide (t.text=noText)&&rising (fun x y=>sless x.name y.name) t.pairs))else
   if t.kind=3 then decide (0<t.list.length)&&(decide (t.pairs.length+t.ranks.length=0)&&decide (t.text=noText))else
   if t.kind=4 then decide (0<t.list.length)&&(decide (t.pairs.length+t.ranks.length=0)&&(decide (t.text=noText)&&rising sless t.list))else
   if t.kind=5 then decide (0<t.ranks.length)&&(decide (t.pairs.length+t.list.length=0)&&(decide (t.text=noText)&&(rising aheadR t.ranks&&onceR t.ranks)))else false:=by
  unfold kOK;rw[if_neg hu]
 rw[e0]
 refine Ei _ (Ai (cell_blk B1 rfl) ?_)
 refine Ai rfl (Ai (fun k1=>?_) (fun k1=>?_))
 ·rw[if_pos k1]
  refine Ai rfl (fun z hz=>?_)
  have hz:=add_in hz (by omega) (by omega)
  refine Ai rfl (fun y hy=>?_)
  have hy:=add_in hy (by omega) (by omega)
  refine Ai rfl (Ai (fun he=>?_) (fun he=>?_))
  ·exact Ai (by rw[decide_eq_true (by omega)];rfl) hc
  ·exact Ai (by rw[decide_eq_false (by omega)];rfl) hc
 rw[if_neg k1]
 refine Ai rfl (Ai (fun k2=>?_) (fun k2=>?_))
 ·rw[if_pos k2]
  refine Ai rfl (Ai (fun g1=>?_) (fun g1=>?_))
  rotate_left
  ·exact Ai (by rw[decide_eq_false (by omega)];rfl) hc
  rw[decide_eq_true (show 0<t.pairs.length by omega),Bool.true_and]
  refine Ai rfl (fun z hz=>?_)
  have hz:=add_in hz (by omega) (by omega)
  refine Ai rfl (Ai (fun g2=>?_) (fun g2=>?_))
  rotate_left
  ·exact Ai (by rw[decide_eq_false (by omega)];rfl) hc
  rw[decide_eq_true (show t.list.length+t.ranks.length=0 by omega),Bool.true_and]
  refine Ei _ (Ai (cell_blk B1 rfl) ?_)
  refine Ai (fun g3=>?_) (fun g3=>?_)
  rotate_left
  ·exact Ai (by rw[decide_eq_false (show¬t.text=noText from g3)];rfl) hc
  rw[decide_eq_true (show t.text=noText from g3),Bool.true_and]
  refine Ei _ (Ai (cell_blk B1 rfl) ?_)
  refine call_ret (risP_calls hp (by omega) chk1_ord) ?_
  rintro _ h2 ⟨rfl,hc2⟩
  exact Ai rfl (hc.nil hc2)
 rw[if_neg k2]
 refine Ai rfl (Ai (fun k3=>?_) (fun k3=>?_))
 ·rw[if_pos k3]
  refine Ai rfl (Ai (fun g1=>?_) (fun g1=>?_))
  rotate_left
  ·exact Ai (by rw[decide_eq_false (by omega)];rfl) hc
  rw[decide_eq_true (show 0<t.list.length by omega),Bool.true_and]
  refine Ai rfl (fun z hz=>?_)
  have hz:=add_in hz (by omega) (by omega)
  refine Ai rfl (Ai (fun g2=>?_) (fun g2=>?_))
  rotate_left
  ·exact Ai (by rw[decide_eq_false (by omega)];rfl) hc
  rw[decide_eq_true (show t.pairs.length+t.ranks.length=0 by omega),Bool.true_and]
  refine Ei _ (Ai (cell_blk B1 rfl) ?_)
  refine Ai (fun g3=>?_) (fun g3=>?_)
  ·exact Ai (by rw[decide_eq_true (show t.text=noText from g3)];rfl) hc
  ·exact Ai (by rw[decide_eq_false (show¬t.text=noText from g3)];rfl) hc
 rw[if_neg k3]
 refine Ai rfl (Ai (fun k4=>?_) (fun k4=>?_))
 ·rw[if_pos k4]
  refine Ai rfl (Ai (fun g1=>?_) (fun g1=>?_))
  rotate_left
  ·exact Ai (by rw[decide_eq_false (by omega)];rfl) hc
  rw[decide_eq_true (show 0<t.list.length by omega),Bool.true_and]
  refine Ai rfl (fun z hz=>?_)
  have hz:=add_in hz (by omega) (by omega)
  refine Ai rfl (Ai (fun g2=>?_) (fun g2=>?_))
  rotate_left
  ·exact Ai (by rw[decide_eq_false (by omega)];rfl) hc
  rw[decide_eq_true (show t.pairs.length+t.ranks.length=0 by omega),Bool.true_and]
  refine Ei _ (Ai (cell_blk B1 rfl) ?_)
  refine Ai (fun g3=>?_) (fun g3=>?_)
  rotate_left
  ·exact Ai (by rw[decide_eq_false (show¬t.text=noText from g3)];rfl) hc
  rw[decide_eq_true (show t.text=noText from g3),Bool.true_and]
  refine Ei _ (Ai (cell_blk B1 rfl) ?_)
  refine call_ret (risS_calls hl (by omega) cmpS_ord) ?_
  rintro _ h2 ⟨rfl,hc2⟩
  exact Ai rfl (hc.nil hc2)
 rw[if_neg k4]
 refine Ai rfl (Ai (fun k5=>?_) (fun k5=>?_))
 ·rw[if_pos k5]
  refine Ai rfl (Ai (fun g1=>?_) (fun g1=>?_))
  rotate_left
  ·exact Ai (by rw[decide_eq_false (by omega)];rfl) hc
  rw[decide_eq_true (show 0<t.ranks.length by omega),Bool.true_and]
  refine Ai rfl (fun z hz=>?_)
  have hz:=add_in hz (by omega) (by omega)
  refine Ai rfl (Ai (fun g2=>?_) (fun g2=>?_))
  rotate_left
  ·exact Ai (by rw[decide_eq_false (by omega)];rfl) hc
  rw[decide_eq_true (show t.pairs.length+t.list.length=0 by omega),Bool.true_and]
  refine Ei _ (Ai (cell_blk B1 rfl) ?_)
  refine Ai (fun g3=>?_) (fun g3=>?_)
  rotate_left
  ·exact Ai (by rw[decide_eq_false (show¬t.text=noText from g3)];rfl) hc
  rw[decide_eq_true (show t.text=noText from g3),Bool.true_and]
  refine Ei _ (Ai (cell_blk B1 rfl) ?_)
  refine call_ret (risR_calls hr (by omega) ahead_ord) ?_
  rintro r2 h2 ⟨hr2,hc2⟩
  cases hris:rising aheadR t.ranks with
  |false=>
   rw[hris]at hr2
   subst hr2
   exact Ai rfl (hc.nil hc2)
  |true=>
   rw[hris]at hr2
   subst hr2
   have B2:=B1.chg hc2 (by simp)
   refine Ei _ (Ai (cell_blk B2 rfl) ?_)
   refine call_ret (once_calls (hr.ext hc2) (by omega)) ?_
   rintro _ h3 ⟨rfl,hc3⟩
   exact Ai rfl ((hc.nil hc2).nil hc3)
 rw[if_neg k5]
 exact Ai rfl hc
theorem KCheck_calls {h:Heap} {vs:List Value} {t:Thing} (x:TH h vs t) (s:Small t):
  CallsH Tryz.prog 35 [.agg ⟨vs⟩] h (Ret fun r h'=>r=.bool (kOK t)∧Chg [] h h'):=by
 have sp:=s.p;have sl:=s.l;have sr:=s.r
 obtain⟨q1,q2,q3,q4⟩:=small_short s
 refine f35_calls (by simp) ?_
 intro b1 h1 g1
 have B1:Blk h1 b1 vs:=g1.blk
 have hc1:=g1.chg
 have x1:=x.ext hc1
 have x1':=x1
 obtain⟨pv,lv,rv,rfl,hp,hl,hr⟩:=x1
 obtain⟨pa,pc,rfl,_⟩:=hp.form
 obtain⟨la,lc,rfl,_⟩:=hl.form
 obtain⟨ra,rc,rfl,_⟩:=hr.form
 have fin:∀h2,Chg [] h1 h2→¬(t.hasU=false∧t.unt≠0)→Chg [] h h2∧TH h2 [.int .i64 t.kind,.string t.text,.slice pa t.pairs.length pc,.slice la t.list.length lc,.slice ra t.ranks.length rc,.bool t.hasU,.int .i64 t.unt] t:=
  fun h2 hc2 _=>⟨hc1.nil hc2,x1'.ext hc2⟩
 refine Ei _ (Ai (cell_blk B1 rfl) ?_)
 have bU:Blk h1 b1 [.int .i64 t.kind,.string t.text,.slice pa t.pairs.length pc,.slice la t.list.length lc,.slice ra t.ranks.length rc,.bool t.hasU,.int .i64 t.unt]:=B1
 cases hU:t.hasU with
 |false=>
  refine Ei _ (Ai (cell_blk B1 rfl) ?_)
  refine Ai rfl (Ai (fun u0=>?_) (fun u0=>?_))
  ·exact Ai (by unfold kOK;rw[if_pos ⟨hU,u0⟩];rfl) hc1
  have hu:¬(t.hasU=false∧t.unt≠0):=fun h=>u0 h.2
  refine Ei _ (Ai rfl (Ai (cells_blk bU) ?_))
  refine call_ret (count_calls x1' s.lens) ?_
  rintro _ h2 ⟨rfl,hc2⟩
  refine Ai rfl (Ai (fun big=>absurd big (by omega)) (fun _=>?_))
  have B2:=bU.chg hc2 (by simp)
  refine Ei _ (Ai (cell_blk B2 rfl) ?_)
  intro b3 h3 g3
  refine call_ret (short_calls (SL.one encS_len (x:=t.text) g3.blk) (by simp)) ?_
  rintro r3 _ ⟨hr3,rfl⟩
  rw[q1]at hr3
  subst hr3
  have hc3:=hc2.nil g3.chg
  have B3:=bU.chg hc3 (by simp)
  refine Ei _ (Ai (cell_blk B3 rfl) ?_)
  refine call_ret (short_calls (hl.ext hc3) (by omega)) ?_
  rintro r4 _ ⟨hr4,rfl⟩
  rw[q2]at hr4
  subst hr4
  refine Ei _ (Ai rfl (Ai (cells_blk B3) ?_))
  refine call_ret (names_calls (x1'.ext hc3) s.lens) ?_
  rintro nv h5 ⟨ho5,hc5⟩
  refine call_ret (short_calls ho5.sl (namesT_len s)) ?_
  rintro r6 _ ⟨hr6,rfl⟩
  rw[q3]at hr6
  subst hr6
  have hc6:=hc3.nil hc5
  have B6:=bU.chg hc6 (by simp)
  refine Ei _ (Ai (cell_blk B6 rfl) (Ei _ (Ai (cell_blk B6 rfl) (Ei _ (Ai (cell_blk B6 rfl) ?_)))))
  exact cut_at [(1,.pointer (some ⟨b1,0,none⟩)),(2,.bool false),(3,.int .i64 t.pairs.length),(4,.int .i64 t.list.length),(5,.int .i64 t.ranks.length)] ⟨rfl,rfl,rfl,rfl,rfl,trivial⟩ (KCheck_tail s (hc1.nil hc6) B6 (x1'.ext hc6) hu)
 |true=>
  have hu:¬(t.hasU=false∧t.unt≠0):=fun h=>by rw[hU]at h;cases h.1
  refine Ei _ (Ai rfl (Ai (cells_blk bU) ?_))
  refine call_ret (count_calls x1' s.lens) ?_
  rintro _ h2 ⟨rfl,hc2⟩
  refine Ai rfl (Ai (fun big=>absurd big (by omega)) (fun _=>?_))
  have B2:=bU.chg hc2 (by simp)
  refine Ei _ (Ai (cell_blk B2 rfl) ?_)
  intro b3 h3 g3
  refine call_ret (short_calls (SL.one encS_len (x:=t.text) g3.blk) (by simp)) ?_
  rintro r3 _ ⟨hr3,rfl⟩
  rw[q1]at hr3
  subst hr3
  have hc3:=hc2.nil g3.chg
  have B3:=bU.chg hc3 (by simp)
  refine Ei _ (Ai (cell_blk B3 rfl) ?_)
  refine call_ret (short_calls (hl.ext hc3) (by omega)) ?_
  rintro r4 _ ⟨hr4,rfl⟩
  rw[q2]at hr4
  subst hr4
  refine Ei _ (Ai rfl (Ai (cells_blk B3) ?_))
  refine call_ret (names_calls (x1'.ext hc3) s.lens) ?_
  rintro nv h5 ⟨ho5,hc5⟩
  refine call_ret (short_calls ho5.sl (namesT_len s)) ?_
  rintro r6 _ ⟨hr6,rfl⟩
  rw[q3]at hr6
  subst hr6
  have hc6:=hc3.nil hc5
  have B6:=bU.chg hc6 (by simp)
  refine Ei _ (Ai (cell_blk B6 rfl) (Ei _ (Ai (cell_blk B6 rfl) (Ei _ (Ai (cell_blk B6 rfl) ?_)))))
  exact cut_at [(1,.pointer (some ⟨b1,0,none⟩)),(2,.bool false),(3,.int .i64 t.pairs.length),(4,.int .i64 t.list.length),(5,.int .i64 t.ranks.length)] ⟨rfl,rfl,rfl,rfl,rfl,trivial⟩ (KCheck_tail s (hc1.nil hc6) B6 (x1'.ext hc6) hu)
def ltP (x y:Pair):Bool:=sless x.name y.name
def rKind (t:Thing):Bool:=
 if t.kind=1 then decide (t.pairs.length+t.list.length+t.ranks.length=0)else
 if t.kind=2 then decide (0<t.pairs.length)&&decide (t.list.length+t.ranks.length=0)else
 if t.kind=3∨t.kind=4 then decide (0<t.list.length)&&decide (t.pairs.length+t.ranks.length=0)else
 if t.kind=5 then decide (0<t.ranks.length)&&decide (t.pairs.length+t.list.length=0)else false
structure ROK (t:Thing):Prop where
 u:¬(t.hasU=false∧t.unt≠0)
 text:¬(t.kind≠1∧t.text≠noText)
 ps:rising ltP t.pairs=true
 ls:t.kind=4→rising sless t.list=true
 rs:rising aheadR t.ranks=true
 once:onceR t.ranks=true
theorem kOK_bad {t:Thing} (h:¬ROK t):kOK t=false:=by
 by_cases hu:t.hasU=false∧t.unt≠0
 ·unfold kOK;rw[if_pos hu]
 unfold kOK
 rw[if_neg hu]
 have nil_p:t.pairs.length=0→rising ltP t.pairs=true:=fun e=>rising_short (by omega)
 have nil_r:t.ranks.length=0→rising aheadR t.ranks=true∧onceR t.ranks=true:=fun e=>⟨rising_short (by omega),by
  have:t.ranks=[]:=List.length_eq_zero_iff.1 e
  rw[this];rfl⟩
 split
 ·rename_i k1
  refine decide_eq_false fun he=>h ⟨hu,fun hn=>hn.1 k1,nil_p (by omega),fun k4=>by omega,(nil_r (by omega)).1,(nil_r (by omega)).2⟩
 split
 ·rename_i k1 k2
  refine Bool.eq_false_iff.2 fun he=>h ?_
  simp only[Bool.and_eq_true,decide_eq_true_eq]at he
  exact⟨hu,fun hn=>hn.2 he.2.2.1,he.2.2.2,fun k4=>by omega,(nil_r (by omega)).1,(nil_r (by omega)).2⟩
 split
 ·rename_i k1 k2 k3
  refine Bool.eq_false_iff.2 fun he=>h ?_
  simp only[Bool.and_eq_true,decide_eq_true_eq]at he
  exact⟨hu,fun hn=>hn.2 he.2.2,nil_p (by omega),fun k4=>by omega,(nil_r (by omega)).1,(nil_r (by omega)).2⟩
 split
 ·rename_i k1 k2 k3 k4
  refine Bool.eq_false_iff.2 fun he=>h ?_
  simp only[Bool.and_eq_true,decide_eq_true_eq]at he
  exact⟨hu,fun hn=>hn.2 he.2.2.1,nil_p (by omega),fun _=>he.2.2.2,(nil_r (by omega)).1,(nil_r (by omega)).2⟩
 split
 ·rename_i k1 k2 k3 k4 k5
  refine Bool.eq_false_iff.2 fun he=>h ?_
  simp only[Bool.and_eq_true,decide_eq_true_eq]at he
  exact⟨hu,fun hn=>hn.2 he.2.2.1,nil_p (by omega),fun k4=>by omega,he.2.2.2.1,he.2.2.2.2⟩
 ·rfl
theorem kOK_good {t:Thing} (h:ROK t):kOK t=rKind t:=by
 unfold kOK rKind
 rw[if_neg h.u]
 have ht:t.kind≠1→decide (t.text=noText)=true:=fun k=>decide_eq_true (Decidable.not_not.1 fun hn=>h.text ⟨k,hn⟩)
 by_cases k1:t.kind=1
 ·rw[if_pos k1,if_pos k1]
 rw[if_neg k1,if_neg k1,ht k1]
 by_cases k2:t.kind=2
 ·rw[if_pos k2,if_pos k2]
  have:rising (fun x y=>sless x.name y.name) t.pairs=true:=h.ps
  rw[this];simp
 rw[if_neg k2,if_neg k2]
 by_cases k3:t.kind=3
 ·rw[if_pos k3,if_pos (.inl k3)];simp
 rw[if_neg k3]
 by_cases k4:t.kind=4
 ·rw[if_pos k4,if_pos (.inr k4),h.ls k4];simp
 rw[if_neg k4,if_neg (show¬(t.kind=3∨t.kind=4)from fun h=>h.elim k3 k4)]
 by_cases k5:t.kind=5
 ·rw[if_pos k5,if_pos k5,h.rs,h.once];simp
 rw[if_neg k5,if_neg k5]
theorem RCheck_tail {h h0:Heap} {b1:Nat} {vs:List Value} {t:Thing} (s:Small t) (hc:Chg [] h0 h) (B1:Blk h b1 vs) (x:TH h vs t) (hr:ROK t):
  swp Tryz.prog (.seq (.seq (.ops f47r28) (.block 8 (.seq (.ops f47r29) (.cond (.tmp 187) (.seq (.ops f47r30) .ret) (.seq (.ops f47r31) (.cond (.tmp 195) (.seq (.ops f47r32) .ret) (.seq (.seq (.ops f47r33) (.cond (.tmp 205) .skip (.ops f47r34))) (.cond (.tmp 205) (.seq (.ops f47r35) .ret) (.seq (.ops f47r36) (.cond (.tmp 216) (.seq (.ops f47r37) .ret) .skip)))))))))) (.seq (.ops f47r38) .ret))
   (retQ [.t 2] (Ret fun r h'=>r=.bool (kOK t)∧Chg [] h0 h')) (mk [(1,.pointer (some ⟨b1,0,none⟩)),(3,.int .i64 t.pairs.length),(4,.int .i64 t.list.length),(5,.int .i64 t.ranks.length)]) [] h:=by
 have sp:=s.p;have sl:=s.l;have sr:=s.r
 obtain⟨pv,lv,rv,rfl,_,_,_⟩:=x
 rw[kOK_good hr]
 unfold rKind
 refine Ei _ (Ai (cell_blk B1 rfl) ?_)
 refine Ai rfl (Ai (fun k1=>?_) (fun k1=>?_))
 ·rw[if_pos k1]
  refine Ai rfl (fun z hz=>?_)
  have hz:=add_in hz (by omega) (by omega)
  refine Ai rfl (fun y hy=>?_)
  have hy:=add_in hy (by omega) (by omega)
  refine Ai rfl (Ai (fun he=>?_) (fun he=>?_))
  ·exact Ai (by rw[decide_eq_true (by omega)];rfl) hc
  ·exact Ai (by rw[decide_eq_false (by omega)];rfl) hc
 rw[if_neg k1]
 refine Ai rfl (Ai (fun k2=>?_) (fun k2=>?_))
 ·rw[if_pos k2]
  refine Ai rfl (Ai (fun g1=>?_) (fun g1=>?_))
  rotate_left
  ·exact Ai (by rw[decide_eq_false (by omega)];rfl) hc
  rw[decide_eq_true (show 0<t.pairs.length by omega),Bool.true_and]
  refine Ai rfl (fun z hz=>?_)
  have hz:=add_in hz (by omega) (by omega)
  refine Ai rfl (Ai (fun g2=>?_) (fun g2=>?_))
  ·exact Ai (by rw[decide_eq_true (by omega)];rfl) hc
  ·exact Ai (by rw[decide_eq_false (by omega)];rfl) hc
 rw[if_neg k2]
 refine Ai rfl (Ai (fun k3=>?_) (fun k3=>?_))
 ·rw[if_pos (.inl k3)]
  refine Ai rfl (Ai (fun g1=>?_) (fun g1=>?_))
  rotate_left
  ·exact Ai (by rw[decide_eq_false (by omega)];rfl) hc
  rw[decide_eq_true (show 0<t.list.length by omega),Bool.true_and]
  refine Ai rfl (fun z hz=>?_)
  have hz:=add_in hz (by omega) (by omega)
  refine Ai rfl (Ai (fun g2=>?_) (fun g2=>?_))
  ·exact Ai (by rw[decide_eq_true (by omega)];rfl) hc
  ·exact Ai (by rw[decide_eq_false (by omega)];rfl) hc
 refine Ai rfl (Ai (fun k4=>?_) (fun k4=>?_))
 ·rw[if_pos (.inr k4)]
  refine Ai rfl (Ai (fun g1=>?_) (fun g1=>?_))
  rotate_left
  ·exact Ai (by rw[decide_eq_false (by omega)];rfl) hc
  rw[decide_eq_true (show 0<t.list.length by omega),Bool.true_and]
  refine Ai rfl (fun z hz=>?_)
  have hz:=add_in hz (by omega) (by omega)
  refine Ai rfl (Ai (fun g2=>?_) (fun g2=>?_))
  ·exact Ai (by rw[decide_eq_true (by omega)];rfl) hc
  ·exact Ai (by rw[decide_eq_false (by omega)];rfl) hc
 rw[if_neg (by omega)]
 refine Ai rfl (Ai (fun k5=>?_) (fun k5=>?_))
 ·rw[if_pos k5]
  refine Ai rfl (Ai (fun g1=>?_) (fun g1=>?_))
  rotate_left
  ·exact Ai (by rw[decide_eq_false (by omega)];rfl) hc
  rw[decide_eq_true (show 0<t.ranks.length by omega),Bool.true_and]
  refine Ai rfl (fun z hz=>?_)
  have hz:=add_in hz (by omega) (by omega)
  refine Ai rfl (Ai (fun g2=>?_) (fun g2=>?_))
  ·exact Ai (by rw[decide_eq_true (by omega)];rfl) hc
  ·exact Ai (by rw[decide_eq_false (by omega)];rfl) hc
 rw[if_neg k5]
 exact Ai rfl hc
theorem rising_at {α:Type} {lt:α→α→Bool}:∀{l:List α} {k:Nat} (h1:1≤k) (h:k<l.length),rising lt l=true→lt (l[k-1]'(by omega)) l[k]=true
 |[],_,_,h,_=>by simp at h
 |[_],_,h1,h,_=>by simp at h;omega
 |x::y::l,1,_,_,hr=>by
  simp only[rising,Bool.and_eq_true]at hr
  exact hr.1
 |x::y::l,k+2,_,h,hr=>by
  simp only[rising,Bool.and_eq_true]at hr
  have:=rising_at (l:=y::l) (k:=k+1) (by omega) (by simpa using h) hr.2
  exact this
theorem RCheck_ranks {h h0:Heap} {b1:Nat} {vs:List Value} {t:Thing} (s:Small t) (hc:Chg [] h0 h) (B1:Blk h b1 vs) (x:TH h vs t) (hu:¬(t.hasU=false∧t.unt≠0)) (ht:¬(t.kind≠1∧t.text≠noText))
  (hps:rising ltP t.pairs=true) (hls:t.kind=4→rising sless t.list=true):
  swp Tryz.prog (.seq (.seq (.ops f47r16) (.block 4 (.loop f47l27))) (.seq (.seq (.ops f47r28) (.block 8 (.seq (.ops f47r29) (.cond (.tmp 187) (.seq (.ops f47r30) .ret) (.seq (.ops f47r31) (.cond (.tmp 195) (.seq (.ops f47r32) .ret) (.seq (.seq (.ops f47r33) (.cond (.tmp 205) .skip (.ops f47r34))) (.cond (.tmp 205) (.seq (.ops f47r35) .ret) (.seq (.ops f47r36) (.cond (.tmp 216) (.seq (.ops f47r37) .ret) .skip)))))))))) (.seq (.ops f47r38) .ret)))
   (retQ [.t 2] (Ret fun r h'=>r=.bool (kOK t)∧Chg [] h0 h')) (mk [(1,.pointer (some ⟨b1,0,none⟩)),(3,.int .i64 t.pairs.length),(4,.int .i64 t.list.length),(5,.int .i64 t.ranks.length)]) [] h:=by
 have sr:=s.r
 have x':=x
 obtain⟨pv,lv,rv,rfl,hp,hl,hr⟩:=x
 obtain⟨ra,rc,rfl,_⟩:=hr.form
 refine loop_intro (fun k:Nat=>[(1,.pointer (some ⟨b1,0,none⟩)),(3,.int .i64 t.pairs.length),(4,.int .i64 t.list.length),(5,.int .i64 t.ranks.length),(8,.int .i64 k)])
  (fun k h'=>k≤t.ranks.length∧Chg [] h h'∧rising aheadR t.ranks=rising aheadR (t.ranks.drop (k-1))∧((t.ranks.take k).map Rank.name).Nodup) (fun k=>t.ranks.length-k) 0 ⟨rfl,rfl,rfl,rfl,rfl,trivial⟩ ⟨Nat.zero_le _,Chg.refl h,rfl,by simp⟩ ?_
 rintro k h1 ⟨hk,hc1,hri,hnd⟩
 have hc01:=hc.nil hc1
 have bad:∀h2,Chg [] h1 h2→¬ROK t→Ret (fun r h'=>r=.bool (kOK t)∧Chg [] h0 h') (.returned (retV [Value.bool false])) h2:=fun h2 hc2 hn=>⟨by rw[kOK_bad hn];rfl,hc01.nil hc2⟩
 refine Ai rfl (Ai (fun hlt=>?_) (fun hlt=>?_))
 ·have hkk:k<t.ranks.length:=by omega
  obtain⟨b3,o,rfl⟩:=hr.addr (by omega)
  have hr1:=hr.ext hc1
  have hcs:=hr1.cells encR_len (i:=k) (x:=t.ranks[k]) (by simp[hkk])
  have hsz:=s.rs t.ranks[k] (List.getElem_mem hkk)
  have B2:=B1.chg hc1 (by simp)
  -- the inner loop,from whatever heap
  have inner:∀h2 (hc2:Chg [] h1 h2) (hri':rising aheadR t.ranks=rising aheadR (t.ranks.drop k)) σ,SubL σ [(1,.pointer (some ⟨b1,0,none⟩)),(3,.int .i64 t.pairs.length),(4,.int .i64 t.list.length),(5,.int .i64 t.ranks.length),(8,.int .i64 k)]→
    ∀Q:Post,(∀h3 σ',Chg [] h1 h3→SubL σ' [(1,.pointer (some ⟨b1,0,none⟩)),(3,.int .i64 t.pairs.length),(4,.int .i64 t.list.length),(5,.int .i64 t.ranks.length),(8,.int .i64 k)]→((t.ranks.take (k+1)).map Rank.name).Nodup→Q .normal σ' [] h3)→
    (∀h3 σ',Chg [] h1 h3→σ' 2=some (.bool false)→¬ROK t→Q .ret σ' [] h3)→
    swp Tryz.prog (.seq (.ops f47r20) (.block 6 (.loop f47l25))) Q σ [] h2:=by
   intro h2 hc2 _ σ hσ Q hQ hQr
   obtain⟨s1,s3,s4,s5,s8,_⟩:=hσ
   have hr2:=hr1.ext hc2
   have B3:=B2.chg hc2 (by simp)
   have hcs2:=hr2.cells encR_len (i:=k) (x:=t.ranks[k]) (by simp[hkk])
   refine loop_intro (fun j:Nat=>[(1,.pointer (some ⟨b1,0,none⟩)),(3,.int .i64 t.pairs.length),(4,.int .i64 t.list.length),(5,.int .i64 t.ranks.length),(8,.int .i64 k),(9,.int .i64 j)])
    (fun j h'=>j≤k∧h'=h2∧∀q (_:q<j) (hq:q<t.ranks.length),t.ranks[q].name≠t.ranks[k].name) (fun j=>k-j) 0 ⟨s1,s3,s4,s5,s8,rfl,trivial⟩ ⟨Nat.zero_le _,rfl,fun q h=>by omega⟩ ?_
   rintro j h3 ⟨hj,h32,hne⟩
   have h32:=h32.symm
   subst h32
   refine Ai rfl (Ai (fun hlt=>?_) (fun hlt=>?_))
   ·have hjk:j<k:=by omega
    have hjl:j<t.ranks.length:=by omega
    have hds:=hr2.cells encR_len (i:=j) (x:=t.ranks[j]) (by simp[hjl])
    refine Ei _ (Ai (cell_blk B3 rfl) ?_)
    refine Ai (by omega) (Ai (by omega) (Ei _ (Ai (hds 0 _ rfl) ?_)))
    refine Ei _ (Ai (cell_blk B3 rfl) ?_)
    refine Ai (by omega) (Ai (by omega) (Ei _ (Ai (hcs2 0 _ rfl) ?_)))
    refine Ai (fun he=>?_) (fun he=>?_)
    ·refine hQr h2 _ hc2 rfl fun ro=>?_
     have hn:=of_decide_eq_true ro.once
     have:=List.pairwise_iff_getElem.1 hn j k (by simpa using hjl) (by simpa using hkk) hjk
     simp only[List.getElem_map]at this
     exact this he
    ·refine Ai rfl (fun z hz=>?_)
     have hz:=add_in hz (by omega) (by omega)
     subst hz
     refine Ai rfl (Ei (j+1) (Ai ?_ (Ai ?_ ?_)))
     ·exact⟨rfl,rfl,rfl,rfl,rfl,rfl,trivial⟩
     ·refine⟨by omega,rfl,fun q hq hql=>?_⟩
      by_cases hqj:q=j
      ·subst hqj;exact he
      ·exact hne q (by omega) hql
     ·omega
   ·have hjk:j=k:=by omega
    refine hQ h2 _ hc2 ⟨rfl,rfl,rfl,rfl,rfl,trivial⟩ ?_
    rw[take_snoc t.ranks k hkk,List.map_append]
    refine nodup_snoc.2 ⟨hnd,fun hm=>?_⟩
    obtain⟨r,hr',hrn⟩:=List.mem_map.1 hm
    obtain⟨q,hq,hqe⟩:=List.getElem_of_mem hr'
    have hqk:q<k:=by simp at hq;omega
    rw[List.getElem_take]at hqe
    exact hne q (by omega) (by omega) (by rw[hqe];exact hrn)
  have go_on:∀h2 (hc2:Chg [] h1 h2) (hri':rising aheadR t.ranks=rising aheadR (t.ranks.drop k)) σ,SubL σ [(1,.pointer (some ⟨b1,0,none⟩)),(3,.int .i64 t.pairs.length),(4,.int .i64 t.list.length),(5,.int .i64 t.ranks.length),(8,.int .i64 k)]→
    swp Tryz.prog (.seq (.ops f47r20) (.block 6 (.loop f47l25))) (blockQ 5 (thenQ (swp Tryz.prog (.ops f47r26) (thenQ (fun σ' ds' h'=>ds'=[]∧∃i',SubL σ' [(1,.pointer (some ⟨b1,0,none⟩)),(3,.int .i64 t.pairs.length),(4,.int .i64 t.list.length),(5,.int .i64 t.ranks.length),(8,.int .i64 (i':Nat))]∧
     (i'≤t.ranks.length∧Chg [] h h'∧rising aheadR t.ranks=rising aheadR (t.ranks.drop (i'-1))∧((t.ranks.take i').map Rank.name).Nodup)∧t.ranks.length-i'<t.ranks.length-k)
     (blockQ 4 (thenQ (swp Tryz.prog (.seq (.seq (.ops f47r28) (.block 8 (.seq (.ops f47r29) (.cond (.tmp 187) (.seq (.ops f47r30) .ret) (.seq (.ops f47r31) (.cond (.tmp 195) (.seq (.ops f47r32) .ret) (.seq (.seq (.ops f47r33) (.cond (.tmp 205) .skip (.ops f47r34))) (.cond (.tmp 205) (.seq (.ops f47r35) .ret) (.seq (.ops f47r36) (.cond (.tmp 216) (.seq (.ops f47r37) .ret) .skip)))))))))) (.seq (.ops f47r38) .ret)) (retQ [.t 2] (Ret fun r h'=>r=.bool (kOK t)∧Chg [] h0 h')))
      (retQ [.t 2] (Ret fun r h'=>r=.bool (kOK t)∧Chg [] h0 h'))))))
     (thenQ (fun σ' ds' h'=>ds'=[]∧∃i',SubL σ' [(1,.pointer (some ⟨b1,0,none⟩)),(3,.int .i64 t.pairs.length),(4,.int .i64 t.list.length),(5,.int .i64 t.ranks.length),(8,.int .i64 (i':Nat))]∧
     (i'≤t.ranks.length∧Chg [] h h'∧rising aheadR t.ranks=rising aheadR (t.ranks.drop (i'-1))∧((t.ranks.take i').map Rank.name).Nodup)∧t.ranks.length-i'<t.ranks.length-k)
     (blockQ 4 (thenQ (swp Tryz.prog (.seq (.seq (.ops f47r28) (.block 8 (.seq (.ops f47r29) (.cond (.tmp 187) (.seq (.ops f47r30) .ret) (.seq (.ops f47r31) (.cond (.tmp 195) (.seq (.ops f47r32) .ret) (.seq (.seq (.ops f47r33) (.cond (.tmp 205) .skip (.ops f47r34))) (.cond (.tmp 205) (.seq (.ops f47r35) .ret) (.seq (.ops f47r36) (.cond (.tmp 216) (.seq (.ops f47r37) .ret) .skip)))))))))) (.seq (.ops f47r38) .ret)) (retQ [.t 2] (Ret fun r h'=>r=.bool (kOK t)∧Chg [] h0 h')))
      (retQ [.t 2] (Ret fun r h'=>r=.bool (kOK t)∧Chg [] h0 h'))))))) σ [] h2:=by
   intro h2 hc2 hri' σ hσ
   refine inner h2 hc2 hri' σ hσ _ ?_ ?_
   ·intro h3 σ' hc3 hσ' hnd'
    refine sops_sub (P:=Tryz.prog) (Qp:=fun _ _=>False) (fun ch h hf=>hf.elim)
     (K:=fun σ1 h4=>SubL σ1 [(1,.pointer (some ⟨b1,0,none⟩)),(3,.int .i64 t.pairs.length),(4,.int .i64 t.list.length),(5,.int .i64 t.ranks.length),(8,.int .i64 ((k+1:Nat):Int))]∧h4=h3) ?_ f47r26 _ _ _ (sub_mk hσ') ?_
    ·rintro σ1 σ2 h4 h12 ⟨hs1,rfl⟩
     refine Ai rfl (Ei (k+1) (Ai (hs1.sub h12) (Ai ?_ ?_)))
     ·exact⟨by omega,hc1.nil hc3,by rw[Nat.add_sub_cancel];exact hri',hnd'⟩
     ·omega
    ·refine Ai rfl (fun z6 hz6=>?_)
     have hz6:=add_in hz6 (by omega) (by omega)
     subst hz6
     exact⟨⟨rfl,rfl,rfl,rfl,rfl,trivial⟩,rfl⟩
   ·intro h3 σ' hc3 h2' hn
    have hres:resQ σ' h3 [.t 2] (fun vs=>Ret (fun r h'=>r=.bool (kOK t)∧Chg [] h0 h') (.returned (retV vs)) h3):=by
     simp only[resQ,h2']
     exact bad h3 hc3 hn
    exact hres
  refine Ei _ (Ai (cell_blk B2 rfl) ?_)
  refine Ai (by omega) (Ai (by omega) (Ei _ (Ai (hcs 0 _ rfl) ?_)))
  refine Ai rfl (Ai (fun big=>absurd big (by omega)) (fun _=>?_))
  refine Ai rfl (Ai (fun hk0=>?_) (fun hk0=>?_))
  ·have hk1:1≤k:=by omega
   have hds:=hr1.cells encR_len (i:=k-1) (x:=t.ranks[k-1]) (by simp)
   have hsz2:=s.rs t.ranks[k-1] (List.getElem_mem (by omega))
   refine Ei _ (Ai (cell_blk B2 rfl) ?_)
   refine Ai rfl (fun z hz=>?_)
   have hz:=sub_in hz (by omega) (by omega)
   have hz:z=((k-1:Nat):Int):=by omega
   subst hz
   refine Ai (by omega) (Ai (by omega) (Ei (encR t.ranks[k-1]) (Ai rfl (Ai hds ?_))))
   refine Ei _ (Ai (cell_blk B2 rfl) ?_)
   refine Ai (by omega) (Ai (by omega) (Ei (encR t.ranks[k]) (Ai rfl (Ai hcs ?_))))
   refine call_ret (Ahead_calls t.ranks[k-1] t.ranks[k] (by omega) (by omega)) ?_
   rintro r2 h2 ⟨hr2,hc2⟩
   rw[drop_two hk1 hkk,rising]at hri
   have e1:t.ranks[k]::t.ranks.drop (k+1)=t.ranks.drop k:=by rw[List.drop_eq_getElem_cons hkk]
   rw[e1]at hri
   cases hah:aheadR t.ranks[k-1] t.ranks[k]with
   |false=>
    rw[hah]at hr2
    subst hr2
    refine bad h2 hc2 fun ro=>?_
    have:=rising_at hk1 hkk ro.rs
    rw[hah]at this
    cases this
   |true=>
    rw[hah]at hr2 hri
    subst hr2
    exact go_on h2 hc2 (by rw[hri,Bool.true_and]) _ ⟨rfl,rfl,rfl,rfl,rfl,trivial⟩
  ·have hk1:k=0:=by omega
   exact go_on h1 (Chg.refl h1) (by rw[hri,hk1]) _ ⟨rfl,rfl,rfl,rfl,rfl,trivial⟩
 ·have hkl:k=t.ranks.length:=by omega
  rw[hkl,List.take_length]at hnd
  have hri:rising aheadR t.ranks=true:=by
   rw[hri,hkl]
   exact rising_short (l:=t.ranks.drop (t.ranks.length-1)) (by rw[List.length_drop];omega)
  exact cut_at [(1,.pointer (some ⟨b1,0,none⟩)),(3,.int .i64 t.pairs.length),(4,.int .i64 t.list.length),(5,.int .i64 t.ranks.length)] ⟨rfl,rfl,rfl,rfl,trivial⟩ (RCheck_tail s hc01 (B1.chg hc1 (by simp)) (x'.ext hc1) ⟨hu,ht,hps,hls,hri,decide_eq_true hnd⟩)
theorem RCheck_lists {h h0:Heap} {b1:Nat} {vs:List Value} {t:Thing} (s:Small t) (hc:Chg [] h0 h) (B1:Blk h b1 vs) (x:TH h vs t) (hu:¬(t.hasU=false∧t.unt≠0)) (ht:¬(t.kind≠1∧t.text≠noText)):
  swp Tryz.prog (.seq (.seq (.ops f47r4) (.block 0 (.loop f47l9))) (.seq (.seq (.ops f47r10) (.block 2 (.loop f47l15))) (.seq (.seq (.ops f47r16) (.block 4 (.loop f47l27))) (.seq (.seq (.ops f47r28) (.block 8 (.seq (.ops f47r29) (.cond (.tmp 187) (.seq (.ops f47r30) .ret) (.seq (.ops f47r31) (.cond (.tmp 195) (.seq (.ops f47r32) .ret) (.seq (.seq (.ops f47r33) (.cond (.tmp 205) .skip (.ops f47r34))) (.cond (.tmp 205) (.seq (.ops f47r35) .ret) (.seq (.ops f47r36) (.cond (.tmp 216) (.seq (.ops f47r37) .ret) .skip)))))))))) (.seq (.ops f47r38) .ret)))))
   (retQ [.t 2] (Ret fun r h'=>r=.bool (kOK t)∧Chg [] h0 h')) (mk [(1,.pointer (some ⟨b1,0,none⟩)),(3,.int .i64 t.pairs.length),(4,.int .i64 t.list.length),(5,.int .i64 t.ranks.length)]) [] h:=by
 have sp:=s.p;have sl:=s.l
 have x':=x
 obtain⟨pv,lv,rv,rfl,hp,hl,_⟩:=x
 obtain⟨pa,pc,rfl,_⟩:=hp.form
 obtain⟨la,lc,rfl,_⟩:=hl.form
 have bad:¬ROK t→Ret (fun r h'=>r=.bool (kOK t)∧Chg [] h0 h') (.returned (retV [Value.bool false])) h:=fun hn=>⟨by rw[kOK_bad hn];rfl,hc⟩
 refine loop_intro (fun k:Nat=>[(1,.pointer (some ⟨b1,0,none⟩)),(3,.int .i64 t.pairs.length),(4,.int .i64 t.list.length),(5,.int .i64 t.ranks.length),(6,.int .i64 k)])
  (fun k h'=>k≤t.pairs.length∧h'=h∧rising ltP t.pairs=rising ltP (t.pairs.drop (k-1))) (fun k=>t.pairs.length-k) 0 ⟨rfl,rfl,rfl,rfl,rfl,trivial⟩ ⟨Nat.zero_le _,rfl,rfl⟩ ?_
 rintro k h1 ⟨hk,h12,hri⟩
 have h12:=h12.symm
 subst h12
 refine Ai rfl (Ai (fun hlt=>?_) (fun hlt=>?_))
 ·have hkk:k<t.pairs.length:=by omega
  obtain⟨b3,o,rfl⟩:=hp.addr (by omega)
  have hcs:=hp.cells encP_len (i:=k) (x:=t.pairs[k]) (by simp[hkk])
  obtain⟨z1,z2⟩:=s.ps t.pairs[k] (List.getElem_mem hkk)
  have step:∀z:Int,z=((k+1:Nat):Int)→rising ltP t.pairs=rising ltP (t.pairs.drop k)→k+1≤t.pairs.length∧h=h∧rising ltP t.pairs=rising ltP (t.pairs.drop (k+1-1)):=fun z _ hr=>⟨by omega,rfl,by rw[Nat.add_sub_cancel];exact hr⟩
  refine Ei _ (Ai (cell_blk B1 rfl) ?_)
  refine Ai (by omega) (Ai (by omega) (Ei _ (Ai (hcs 0 _ rfl) ?_)))
  refine Ai rfl (Ai (fun big=>absurd big (by omega)) (fun _=>?_))
  refine Ei _ (Ai (cell_blk B1 rfl) ?_)
  refine Ai (by omega) (Ai (by omega) (Ei _ (Ai (hcs 1 _ rfl) ?_)))
  refine Ai rfl (Ai (fun big=>absurd big (by omega)) (fun _=>?_))
  refine Ai rfl (Ai (fun hk0=>?_) (fun hk0=>?_))
  ·have hk1:1≤k:=by omega
   have hds:=hp.cells encP_len (i:=k-1) (x:=t.pairs[k-1]) (by simp)
   obtain⟨z3,_⟩:=s.ps t.pairs[k-1] (List.getElem_mem (by omega))
   refine Ei _ (Ai (cell_blk B1 rfl) ?_)
   refine Ai rfl (fun z hz=>?_)
   have hz:=sub_in hz (by omega) (by omega)
   have hz:z=((k-1:Nat):Int):=by omega
   subst hz
   refine Ai (by omega) (Ai (by omega) (Ei _ (Ai (hds 0 _ rfl) ?_)))
   refine Ei _ (Ai (cell_blk B1 rfl) ?_)
   refine Ai (by omega) (Ai (by omega) (Ei _ (Ai (hcs 0 _ rfl) ?_)))
   refine call_ret (Less_calls t.pairs[k-1].name t.pairs[k].name (by omega) (by omega)) ?_
   rintro r2 _ ⟨hr2,rfl⟩
   rw[drop_two hk1 hkk,rising]at hri
   have e1:t.pairs[k]::t.pairs.drop (k+1)=t.pairs.drop k:=by rw[List.drop_eq_getElem_cons hkk]
   rw[e1]at hri
   have hltp:ltP t.pairs[k-1] t.pairs[k]=sless t.pairs[k-1].name t.pairs[k].name:=rfl
   cases hah:sless t.pairs[k-1].name t.pairs[k].name with
   |false=>
    rw[hah]at hr2
    subst hr2
    refine bad fun ro=>?_
    have:=rising_at hk1 hkk ro.ps
    rw[hltp,hah]at this
    cases this
   |true=>
    rw[hah]at hr2
    rw[hltp,hah,Bool.true_and]at hri
    subst hr2
    refine Ai rfl (fun z hz=>?_)
    have hz:=add_in hz (by omega) (by omega)
    subst hz
    refine Ai rfl (Ei (k+1) (Ai ?_ (Ai (step _ rfl hri) ?_)))
    ·exact⟨rfl,rfl,rfl,rfl,rfl,trivial⟩
    ·omega
  ·have hk1:k=0:=by omega
   refine Ai rfl (fun z hz=>?_)
   have hz:=add_in hz (by omega) (by omega)
   subst hz
   refine Ai rfl (Ei (k+1) (Ai ?_ (Ai (step _ rfl (by rw[hri,hk1])) ?_)))
   ·exact⟨rfl,rfl,rfl,rfl,rfl,trivial⟩
   ·omega
 have hkl:k=t.pairs.length:=by omega
 have hps:rising ltP t.pairs=true:=by
  rw[hri,hkl]
  exact rising_short (l:=t.pairs.drop (t.pairs.length-1)) (by rw[List.length_drop];omega)
 clear hlt hkl hri hk
 refine loop_intro (fun k:Nat=>[(1,.pointer (some ⟨b1,0,none⟩)),(3,.int .i64 t.pairs.length),(4,.int .i64 t.list.length),(5,.int .i64 t.ranks.length),(7,.int .i64 k)])
  (fun k h'=>k≤t.list.length∧h'=h∧(t.kind=4→rising sless t.list=rising sless (t.list.drop (k-1)))) (fun k=>t.list.length-k) 0 ⟨rfl,rfl,rfl,rfl,rfl,trivial⟩ ⟨Nat.zero_le _,rfl,fun _=>rfl⟩ ?_
 rintro k h1 ⟨hk,h12,hri⟩
 have h12:=h12.symm
 subst h12
 refine Ai rfl (Ai (fun hlt=>?_) (fun hlt=>?_))
 ·have hkk:k<t.list.length:=by omega
  obtain⟨b3,o,rfl⟩:=hl.addr (by omega)
  have hcs:=hl.cells encS_len (i:=k) (x:=t.list[k]) (by simp[hkk])
  have z1:=s.ls t.list[k] (List.getElem_mem hkk)
  have step:(t.kind=4→rising sless t.list=rising sless (t.list.drop k))→k+1≤t.list.length∧h=h∧(t.kind=4→rising sless t.list=rising sless (t.list.drop (k+1-1))):=fun hr=>⟨by omega,rfl,by rw[Nat.add_sub_cancel];exact hr⟩
  refine Ei _ (Ai (cell_blk B1 rfl) ?_)
  refine Ai (by omega) (Ai (by omega) (Ei _ (Ai (hcs 0 _ rfl) ?_)))
  refine Ai rfl (Ai (fun big=>absurd big (by omega)) (fun _=>?_))
  refine Ei _ (Ai (cell_blk B1 rfl) ?_)
  refine Ai rfl (Ai (fun k4=>?_) (fun k4=>?_))
  ·refine Ai rfl (Ai (fun hk0=>?_) (fun hk0=>?_))
   ·have hk1:1≤k:=by omega
    have hds:=hl.cells encS_len (i:=k-1) (x:=t.list[k-1]) (by simp)
    have z3:=s.ls t.list[k-1] (List.getElem_mem (by omega))
    refine Ei _ (Ai (cell_blk B1 rfl) ?_)
    refine Ai rfl (fun z hz=>?_)
    have hz:=sub_in hz (by omega) (by omega)
    have hz:z=((k-1:Nat):Int):=by omega
    subst hz
    refine Ai (by omega) (Ai (by omega) (Ei _ (Ai (hds 0 _ rfl) ?_)))
    refine Ei _ (Ai (cell_blk B1 rfl) ?_)
    refine Ai (by omega) (Ai (by omega) (Ei _ (Ai (hcs 0 _ rfl) ?_)))
    refine call_ret (Less_calls t.list[k-1] t.list[k] (by omega) (by omega)) ?_
    rintro r2 _ ⟨hr2,rfl⟩
    have hri:=hri k4
    rw[drop_two hk1 hkk,rising]at hri
    have e1:t.list[k]::t.list.drop (k+1)=t.list.drop k:=by rw[List.drop_eq_getElem_cons hkk]
    rw[e1]at hri
    cases hah:sless t.list[k-1] t.list[k]with
    |false=>
     rw[hah]at hr2
     subst hr2
     refine bad fun ro=>?_
     have:=rising_at hk1 hkk (ro.ls k4)
     rw[hah]at this
     cases this
    |true=>
     rw[hah]at hr2
     rw[hah,Bool.true_and]at hri
     subst hr2
     refine Ai rfl (fun z hz=>?_)
     have hz:=add_in hz (by omega) (by omega)
     subst hz
     refine Ai rfl (Ei (k+1) (Ai ?_ (Ai (step fun _=>hri) ?_)))
     ·exact⟨rfl,rfl,rfl,rfl,rfl,trivial⟩
     ·omega
   ·have hk1:k=0:=by omega
    refine Ai rfl (fun z hz=>?_)
    have hz:=add_in hz (by omega) (by omega)
    subst hz
    refine Ai rfl (Ei (k+1) (Ai ?_ (Ai (step fun k4=>by rw[hri k4,hk1]) ?_)))
    ·exact⟨rfl,rfl,rfl,rfl,rfl,trivial⟩
    ·omega
  ·refine Ai rfl (fun z hz=>?_)
   have hz:=add_in hz (by omega) (by omega)
   subst hz
   refine Ai rfl (Ei (k+1) (Ai ?_ (Ai (step fun k4'=>absurd k4' k4) ?_)))
   ·exact⟨rfl,rfl,rfl,rfl,rfl,trivial⟩
   ·omega
 have hkl:k=t.list.length:=by omega
 have hls:t.kind=4→rising sless t.list=true:=by
  intro k4
  rw[hri k4,hkl]
  exact rising_short (l:=t.list.drop (t.list.length-1)) (by rw[List.length_drop];omega)
 exact cut_at [(1,.pointer (some ⟨b1,0,none⟩)),(3,.int .i64 t.pairs.length),(4,.int .i64 t.list.length),(5,.int .i64 t.ranks.length)] ⟨rfl,rfl,rfl,rfl,trivial⟩ (RCheck_ranks s hc B1 x' hu ht hps hls)
theorem RCheck_calls {h:Heap} {vs:List Value} {t:Thing} (x:TH h vs t) (s:Small t):
  CallsH Tryz.prog 47 [.agg ⟨vs⟩] h (Ret fun r h'=>r=.bool (kOK t)∧Chg [] h h'):=by
 have sp:=s.p;have sl:=s.l;have sr:=s.r;have st:=s.text
 refine f47_calls (by simp) ?_
 intro b1 h1 g1
 have B1:Blk h1 b1 vs:=g1.blk
 have hc:=g1.chg
 have x1:=x.ext hc
 have x':=x1
 obtain⟨pv,lv,rv,rfl,hp,hl,hr⟩:=x1
 obtain⟨pa,pc,rfl,_⟩:=hp.form
 obtain⟨la,lc,rfl,_⟩:=hl.form
 obtain⟨ra,rc,rfl,_⟩:=hr.form
 have bad:¬ROK t→Ret (fun r h'=>r=.bool (kOK t)∧Chg [] h h') (.returned (retV [Value.bool false])) h1:=fun hn=>⟨by rw[kOK_bad hn];rfl,hc⟩
 have bU:Blk h1 b1 [.int .i64 t.kind,.string t.text,.slice pa t.pairs.length pc,.slice la t.list.length lc,.slice ra t.ranks.length rc,.bool t.hasU,.int .i64 t.unt]:=B1
 refine Ei _ (Ai (cell_blk B1 rfl) (Ei _ (Ai (cell_blk B1 rfl) (Ei _ (Ai (cell_blk B1 rfl) ?_)))))
 refine Ei _ (Ai (cell_blk B1 rfl) ?_)
 cases hU:t.hasU with
 |false=>
  refine Ei _ (Ai (cell_blk B1 rfl) ?_)
  refine Ai rfl (Ai (fun u0=>?_) (fun u0=>?_))
  ·exact bad fun ro=>ro.u ⟨hU,u0⟩
  have hu:¬(t.hasU=false∧t.unt≠0):=fun h=>u0 h.2
  refine Ai rfl (Ai (fun big=>absurd big (by omega)) (fun _=>?_))
  refine Ai rfl (Ai (fun big=>absurd big (by omega)) (fun _=>?_))
  refine Ai rfl (Ai (fun big=>absurd big (by omega)) (fun _=>?_))
  refine Ei _ (Ai (cell_blk B1 rfl) ?_)
  refine Ai rfl (Ai (fun big=>absurd big (by omega)) (fun _=>?_))
  refine Ei _ (Ai (cell_blk B1 rfl) ?_)
  refine Ai rfl (Ai (fun k1=>?_) (fun k1=>?_))
  ·refine Ei _ (Ai (cell_blk B1 rfl) ?_)
   refine Ai (fun t1=>?_) (fun t1=>?_)
   ·exact bad fun ro=>ro.text ⟨k1,t1⟩
   ·exact cut_at [(1,.pointer (some ⟨b1,0,none⟩)),(3,.int .i64 t.pairs.length),(4,.int .i64 t.list.length),(5,.int .i64 t.ranks.length)] ⟨rfl,rfl,rfl,rfl,trivial⟩ (RCheck_lists s hc bU x' hu (fun h=>t1 h.2))
  ·exact cut_at [(1,.pointer (some ⟨b1,0,none⟩)),(3,.int .i64 t.pairs.length),(4,.int .i64 t.list.length),(5,.int .i64 t.ranks.length)] ⟨rfl,rfl,rfl,rfl,trivial⟩ (RCheck_lists s hc bU x' hu (fun h=>k1 h.1))
 |true=>
  have hu:¬(t.hasU=false∧t.unt≠0):=fun h=>by rw[hU]at h;cases h.1
  refine Ai rfl (Ai (fun big=>absurd big (by omega)) (fun _=>?_))
  refine Ai rfl (Ai (fun big=>absurd big (by omega)) (fun _=>?_))
  refine Ai rfl (Ai (fun big=>absurd big (by omega)) (fun _=>?_))
  refine Ei _ (Ai (cell_blk B1 rfl) ?_)
  refine Ai rfl (Ai (fun big=>absurd big (by omega)) (fun _=>?_))
  refine Ei _ (Ai (cell_blk B1 rfl) ?_)
  refine Ai rfl (Ai (fun k1=>?_) (fun k1=>?_))
  ·refine Ei _ (Ai (cell_blk B1 rfl) ?_)
   refine Ai (fun t1=>?_) (fun t1=>?_)
   ·exact bad fun ro=>ro.text ⟨k1,t1⟩
   ·exact cut_at [(1,.pointer (some ⟨b1,0,none⟩)),(3,.int .i64 t.pairs.length),(4,.int .i64 t.list.length),(5,.int .i64 t.ranks.length)] ⟨rfl,rfl,rfl,rfl,trivial⟩ (RCheck_lists s hc bU x' hu (fun h=>t1 h.2))
  ·exact cut_at [(1,.pointer (some ⟨b1,0,none⟩)),(3,.int .i64 t.pairs.length),(4,.int .i64 t.list.length),(5,.int .i64 t.ranks.length)] ⟨rfl,rfl,rfl,rfl,trivial⟩ (RCheck_lists s hc bU x' hu (fun h=>k1 h.1))
theorem clP_calls {h:Heap} {v:Value} {l:List Pair} (hv:SL encP h v l) (hl:l.length≤70000):
  CallsH Tryz.prog 75 [v] h (Ret fun r h'=>OL encP 2 h' r l∧(∀b∈vblk r,h.size≤b)∧Chg [] h h'):=by
 obtain⟨a,c,rfl,hlc⟩:=hv.form
 refine f75_calls (by simp) ?_
 cases a with
 |none=>
  have h0:l.length=0:=by
   obtain⟨a',c',he,_,h2⟩:=hv
   cases he
   exact h2
  have:l=[]:=List.length_eq_zero_iff.1 h0
  subst this
  exact Ai OL.nil (Ai (fun b hb=>absurd (show b∈([]:List Nat)from hb) (by simp)) (Chg.refl h))
 |some a=>
  intro b1 h1 g1
  have own:OL encP 2 h1 (.slice (some ⟨b1,0,none⟩) 0 0) []:=⟨some ⟨b1,0,none⟩,0,rfl,rfl,Nat.zero_le _,[],g1.blk,by simp⟩
  refine app_own encP_len encP_one rfl own (hv.ext g1.chg) (by simp;omega) ?_
  intro v' h2 ho2 hc2 hb2
  have i1:=g1.id
  refine Ai ho2 (Ai (fun b hb=>?_) (g1.chg.fresh hc2 (by simp[ablk];omega)))
  rcases hb2 b hb with h|h
  ·simp[ablk]at h;omega
  ·have:=g1.size;omega
theorem clS_calls {h:Heap} {v:Value} {l:List ByteArray} (hv:SL encS h v l) (hl:l.length≤70000):
  CallsH Tryz.prog 76 [v] h (Ret fun r h'=>OL encS 1 h' r l∧(∀b∈vblk r,h.size≤b)∧Chg [] h h'):=by
 obtain⟨a,c,rfl,hlc⟩:=hv.form
 refine f76_calls (by simp) ?_
 cases a with
 |none=>
  have h0:l.length=0:=by
   obtain⟨a',c',he,_,h2⟩:=hv
   cases he
   exact h2
  have:l=[]:=List.length_eq_zero_iff.1 h0
  subst this
  exact Ai OL.nil (Ai (fun b hb=>absurd (show b∈([]:List Nat)from hb) (by simp)) (Chg.refl h))
 |some a=>
  intro b1 h1 g1
  have own:OL encS 1 h1 (.slice (some ⟨b1,0,none⟩) 0 0) []:=⟨some ⟨b1,0,none⟩,0,rfl,rfl,Nat.zero_le _,[],g1.blk,by simp⟩
  refine app_own encS_len encS_one rfl own (hv.ext g1.chg) (by simp;omega) ?_
  intro v' h2 ho2 hc2 hb2
  have i1:=g1.id
  refine Ai ho2 (Ai (fun b hb=>?_) (g1.chg.fresh hc2 (by simp[ablk];omega)))
  rcases hb2 b hb with h|h
  ·simp[ablk]at h;omega
  ·have:=g1.size;omega
theorem clR_calls {h:Heap} {v:Value} {l:List Rank} (hv:SL encR h v l) (hl:l.length≤70000):
  CallsH Tryz.prog 77 [v] h (Ret fun r h'=>OL encR 2 h' r l∧(∀b∈vblk r,h.size≤b)∧Chg [] h h'):=by
 obtain⟨a,c,rfl,hlc⟩:=hv.form
 refine f77_calls (by simp) ?_
 cases a with
 |none=>
  have h0:l.length=0:=by
   obtain⟨a',c',he,_,h2⟩:=hv
   cases he
   exact h2
  have:l=[]:=List.length_eq_zero_iff.1 h0
  subst this
  exact Ai OL.nil (Ai (fun b hb=>absurd (show b∈([]:List Nat)from hb) (by simp)) (Chg.refl h))
 |some a=>
  intro b1 h1 g1
  have own:OL encR 2 h1 (.slice (some ⟨b1,0,none⟩) 0 0) []:=⟨some ⟨b1,0,none⟩,0,rfl,rfl,Nat.zero_le _,[],g1.blk,by simp⟩
  refine app_own encR_len encR_one rfl own (hv.ext g1.chg) (by simp;omega) ?_
  intro v' h2 ho2 hc2 hb2
  have i1:=g1.id
  refine Ai ho2 (Ai (fun b hb=>?_) (g1.chg.fresh hc2 (by simp[ablk];omega)))
  rcases hb2 b hb with h|h
  ·simp[ablk]at h;omega
  ·have:=g1.size;omega
def zeroT:Thing:=⟨0,noText,[],[],[],false,0⟩
def zeroV:List Value:=[.int .i64 0,.string ⟨#[]⟩,.slice none 0 0,.slice none 0 0,.slice none 0 0,.bool false,.int .i64 0]
theorem zero_TH {h:Heap}:TH h zeroV zeroT:=⟨_,_,_,rfl,SL.nil,SL.nil,SL.nil⟩
theorem thing_one {vs:List Value} {t:Thing} {h:Heap} (x:TH h vs t):∀u∈vs,u.oneCell'=true:=by
 obtain⟨pv,lv,rv,rfl,hp,hl,hr⟩:=x
 obtain⟨pa,pc,rfl,_⟩:=hp.form
 obtain⟨la,lc,rfl,_⟩:=hl.form
 obtain⟨ra,rc,rfl,_⟩:=hr.form
 intro u hu
 simp at hu
 rcases hu with rfl|rfl|rfl|rfl|rfl|rfl|rfl<;>rfl
def cellsT (t:Thing) (pv lv rv:Value):List Value:=[.int .i64 t.kind,.string t.text,pv,lv,rv,.bool t.hasU,.int .i64 t.unt]
def bl3 (pv lv rv:Value):List Nat:=vblk pv++(vblk lv++vblk rv)
structure TO (h:Heap) (pv lv rv:Value) (t:Thing):Prop where
 p:OL encP 2 h pv t.pairs
 l:OL encS 1 h lv t.list
 r:OL encR 2 h rv t.ranks
 pl:∀b∈vblk pv,b∉vblk lv
 pr:∀b∈vblk pv,b∉vblk rv
 lr:∀b∈vblk lv,b∉vblk rv
theorem TO.chg {S:List Nat} {h h':Heap} {pv lv rv:Value} {t:Thing} (o:TO h pv lv rv t) (c:Chg S h h') (hn:∀b∈bl3 pv lv rv,b∉S):TO h' pv lv rv t:=
 ⟨o.p.chg c fun b hb=>hn b (by simp[bl3,hb]),o.l.chg c fun b hb=>hn b (by simp[bl3,hb]),o.r.chg c fun b hb=>hn b (by simp[bl3,hb]),o.pl,o.pr,o.lr⟩
theorem TO.ext {h h':Heap} {pv lv rv:Value} {t:Thing} (o:TO h pv lv rv t) (c:Chg [] h h'):TO h' pv lv rv t:=o.chg c (by simp)
theorem TO.th {h:Heap} {pv lv rv:Value} {t:Thing} (o:TO h pv lv rv t):TH h (cellsT t pv lv rv) t:=⟨pv,lv,rv,rfl,o.p.sl,o.l.sl,o.r.sl⟩
theorem bl3_cells {t:Thing} {pv lv rv v:Value} {b:Nat} (hv:v∈cellsT t pv lv rv) (hb:b∈vblk v):b∈bl3 pv lv rv:=by
 simp only[cellsT,List.mem_cons,List.not_mem_nil,or_false]at hv
 rcases hv with rfl|rfl|rfl|rfl|rfl|rfl|rfl
 ·exact absurd (show b∈([]:List Nat)from hb) (by simp)
 ·exact absurd (show b∈([]:List Nat)from hb) (by simp)
 ·simp[bl3,hb]
 ·simp[bl3,hb]
 ·simp[bl3,hb]
 ·exact absurd (show b∈([]:List Nat)from hb) (by simp)
 ·exact absurd (show b∈([]:List Nat)from hb) (by simp)
theorem copied_own {h:Heap} {vs:List Value} {t:Thing} (x:TH h vs t) (n:Lens t):
  CallsH Tryz.prog 36 [.agg ⟨vs⟩] h (Ret fun r h'=>(∃pv lv rv,r=.agg ⟨cellsT t pv lv rv⟩∧TO h' pv lv rv t∧∀b∈bl3 pv lv rv,h.size≤b)∧Chg [] h h'):=by
 refine f36_calls (by simp) ?_
 intro b1 h1 g1
 intro b2 h2 g2
 have B1:Blk h2 b1 vs:=(show Blk h1 b1 vs from g1.blk).chg g2.chg (by simp)
 have hc2:=g1.chg.nil g2.chg
 have i1:=g1.id
 have i2:=g2.id
 have z1:=g1.size
 obtain⟨pv,lv,rv,rfl,hp,hl,hr⟩:=x.ext hc2
 obtain⟨pa,pc,rfl,_⟩:=hp.form
 obtain⟨la,lc,rfl,_⟩:=hl.form
 obtain⟨ra,rc,rfl,_⟩:=hr.form
 refine Ei _ (Ai (cell_blk B1 rfl) (Ei _ (Ai (cell_blk B1 rfl) (Ei _ (Ai (cell_blk B1 rfl) ?_)))))
 refine callq_ret (clP_calls hp n.p) ?_
 rintro r3 h3 ⟨hp3,hb3,hc3⟩
 refine Ai hc3.ext ?_
 refine callq_ret (clS_calls (hl.ext hc3) n.l) ?_
 rintro r4 h4 ⟨hl4,hb4,hc4⟩
 refine Ai hc4.ext ?_
 refine callq_ret (clR_calls ((hr.ext hc3).ext hc4) n.r) ?_
 rintro r5 h5 ⟨hr5,hb5,hc5⟩
 refine Ai hc5.ext ?_
 have hc35:=(hc3.nil hc4).nil hc5
 have B5:=B1.chg hc35 (by simp)
 have lp3:=hp3.lt
 have ll4:=hl4.lt
 have s3:=hc3.size
 have s4:=hc4.size
 have s5:=hc5.size
 have s2:=hc2.size
 have hz2:=g2.size
 have o5:TO h5 r3 r4 r5 t:=⟨(hp3.ext hc4).ext hc5,hl4.ext hc5,hr5,fun b hb hx=>by have:=lp3 b hb;have:=hb4 b hx;omega,fun b hb hx=>by have:=lp3 b hb;have:=hb5 b hx;omega,fun b hb hx=>by have:=ll4 b hb;have:=hb5 b hx;omega⟩
 have fr:∀b∈bl3 r3 r4 r5,h2.size≤b:=by
  intro b hb
  simp only[bl3,List.mem_append]at hb
  rcases hb with hb|hb|hb
  ·exact hb3 b hb
  ·have:=hb4 b hb;omega
  ·have:=hb5 b hb;omega
 obtain⟨qa,qc,rfl,_⟩:=hp3.sl.form
 obtain⟨ma,mc,rfl,_⟩:=hl4.sl.form
 obtain⟨sa,sc,rfl,_⟩:=hr5.sl.form
 refine Ei _ (Ai B5 (Ai (by simp) (Ai rfl (Ai (ones1 rfl) ?_))))
 intro h6 p6
 have B6:Blk h6 b1 (cellsT t (.slice qa t.pairs.length qc) (.slice la t.list.length lc) (.slice ra t.ranks.length rc)):=p6.blk
 refine Ei _ (Ai B6 (Ai (by simp[cellsT]) (Ai rfl (Ai (ones1 rfl) ?_))))
 intro h7 p7
 have B7:Blk h7 b1 (cellsT t (.slice qa t.pairs.length qc) (.slice ma t.list.length mc) (.slice ra t.ranks.length rc)):=p7.blk
 refine Ei _ (Ai B7 (Ai (by simp[cellsT]) (Ai rfl (Ai (ones1 rfl) ?_))))
 intro h8 p8
 have B8:Blk h8 b1 (cellsT t (.slice qa t.pairs.length qc) (.slice ma t.list.length mc) (.slice sa t.ranks.length sc)):=p8.blk
 have c58:Chg [b1] h5 h8:=(p6.chg.trans p7.chg (U:=[b1]) (fun _ h=>h) (fun _ h _=>h)).trans p8.chg (fun _ h=>h) (fun _ h _=>h)
 have o8:=o5.chg c58 (fun b hb=>by have:=fr b hb;simp;omega)
 refine Ei _ (Ai rfl (Ai (cells_blk B8) ?_))
 have Bz:Blk h8 b2 zeroV:=((show Blk h2 b2 zeroV from g2.blk).chg hc35 (by simp)).chg c58 (by simp;omega)
 refine Ei _ (Ai Bz (Ai (by decide) (Ai rfl (Ai (thing_one o8.th) ?_))))
 intro h9 p9
 have B9:Blk h9 b2 (cellsT t (.slice qa t.pairs.length qc) (.slice ma t.list.length mc) (.slice sa t.ranks.length sc)):=p9.blk
 have hc29:Chg [] h h9:=((hc2.nil hc35).fresh c58 (by simp;omega)).fresh p9.chg (by simp;omega)
 refine Ei _ (Ai rfl (Ai (cells_blk B9) ?_))
 exact Ai (Ei _ (Ei _ (Ei _ (Ai rfl (Ai (o8.chg p9.chg (fun b hb=>by have:=fr b hb;simp;omega)) (fun b hb=>by have:=fr b hb;omega)))))) hc29
theorem copied_calls {h:Heap} {vs:List Value} {t:Thing} (x:TH h vs t) (n:Lens t):
  CallsH Tryz.prog 36 [.agg ⟨vs⟩] h (Ret fun r h'=>(∃us,r=.agg ⟨us⟩∧TH h' us t∧∀v∈us,∀b∈vblk v,h.size≤b)∧Chg [] h h'):=by
 refine(copied_own x n).mono fun e h' he=>?_
 cases e with
 |returned v=>
  obtain⟨⟨pv,lv,rv,hv,o,fr⟩,c⟩:=he
  exact⟨⟨_,hv,o.th,fun v hv b hb=>fr b (bl3_cells hv hb)⟩,c⟩
 |panicked ch=>exact he.elim
 |outgrown=>exact he.elim
theorem gone_calls {h:Heap} {vs:List Value} {t:Thing} (x:TH h vs t) (now:Int):
  CallsH Tryz.prog 112 [.agg ⟨vs⟩,.int .i64 now] h (Ret fun r h'=>r=.bool (t.hasU&&decide (t.unt≤now))∧Chg [] h h'):=by
 refine f112_calls (by simp) ?_
 intro b1 h1 g1
 have B1:Blk h1 b1 vs:=g1.blk
 obtain⟨pv,lv,rv,rfl,hp,hl,hr⟩:=x
 refine Ei _ (Ai (cell_blk B1 rfl) ?_)
 cases hU:t.hasU with
 |false=>exact Ai rfl g1.chg
 |true=>
  refine Ei _ (Ai (cell_blk B1 rfl) ?_)
  refine Ai rfl (Ai (fun hl=>?_) (fun hl=>?_))
  ·exact Ai (by rw[decide_eq_true hl];rfl) g1.chg
  ·exact Ai (by rw[decide_eq_false hl];rfl) g1.chg
def ptr (b:Nat):Value:=.pointer (some ⟨b,0,none⟩)
structure KS (h:Heap) (kb sb mb:Nat):Prop where
 k:Blk h kb [ptr sb]
 s:Blk h sb [.map (some mb)]
theorem KS.chg {S:List Nat} {h h':Heap} {kb sb mb:Nat} (x:KS h kb sb mb) (hc:Chg S h h') (h1:kb∉S) (h2:sb∉S):KS h' kb sb mb:=⟨x.k.chg hc h1,x.s.chg hc h2⟩
theorem none_calls {h:Heap} {kb sb mb:Nat} (x:KS h kb sb mb):CallsH Tryz.prog 42 [ptr kb] h (Ret fun r h'=>r=.bool false∧h'=h):=by
 refine f42_calls (by simp) ?_
 refine Ei _ (Ai (cell_blk x.k rfl) ?_)
 exact⟨rfl,rfl⟩
theorem New_calls {h:Heap}:CallsH Tryz.prog 16 [] h (Ret fun r h'=>∃kb sb mb,r=ptr kb∧KS h' kb sb mb∧MapB h' mb [] 0∧mb=h.size∧sb=h.size+1∧kb=h.size+2∧Chg [] h h'):=by
 refine f16_calls (by simp) ?_
 intro mb h1 g1
 intro sb h2 g2
 intro kb h3 g3
 have i1:=g1.id
 have i2:=g2.id
 have i3:=g3.id
 have z1:=g1.size
 have z2:=g2.size
 refine Ei kb (Ei sb (Ei mb (Ai rfl (Ai ⟨g3.blk,(show Blk h2 sb _ from g2.blk).chg g3.chg (by simp)⟩ (Ai ?_ (Ai i1 (Ai (by omega) (Ai (by omega) ?_))))))))
 ·exact MapB.chg (MapB.chg (show MapB h1 mb [] 0 from g1.blk) g2.chg (by simp)) g3.chg (by simp)
 ·exact(g1.chg.nil g2.chg).nil g3.chg
end Go.Proofs.YtjnijlnmbjjgpaaGreatDoor

namespace Go.Proofs.YtjnijlnmbjjgpaaGreatDoor
open Go Go.Sx C
theorem Look_none {h:Heap} {kb sb mb c:Nat} {es:List MapEntry} {key:ByteArray} (ks:KS h kb sb mb) (hm:MapB h mb es c) (hf:∀e∈es,fits .str e.key=true) (hn:mfind (.string key) es 0=none):
  CallsH Tryz.prog 110 [ptr kb,.string key] h (Ret fun r h'=>r=.tuple #[.agg ⟨zeroV⟩,.bool false]∧Chg [] h h'):=by
 refine f110_calls (by simp) ?_
 intro b4 h1 g1
 have hc:=g1.chg
 have ks1:=ks.chg hc (by simp) (by simp)
 have hm1:MapB h1 mb es c:=hm.chg hc (by simp)
 refine call_ret (none_calls ks1) ?_
 rintro _ h9 ⟨rfl,e9⟩
 have e9:=e9.symm
 subst e9
 refine Ei _ (Ai (cell_blk ks1.k rfl) (Ei _ (Ai (cell_blk ks1.s rfl) ?_)))
 refine Ai rfl (Ei es (Ei c (Ai hm1 (Ai hf ?_))))
 rw[hn]
 refine Ei _ (Ai g1.blk (Ai (by decide) (Ai rfl (Ai (thing_one (t:=zeroT) (h:=h1) zero_TH) ?_))))
 intro h2 p2
 have g2:=g1.put p2
 have B2:Blk h2 b4 zeroV:=p2.blk
 refine Ei zeroV (Ai rfl (Ai (cells_blk B2) ?_))
 exact Ai rfl g2.chg
theorem seven {ws vs:List Value} (hw:ws.length=7) (hv:vs.length=7):splice ws 0 vs=vs:=by
 match ws,hw,vs,hv with
 |[_,_,_,_,_,_,_],_,[_,_,_,_,_,_,_],_=>rfl
end Go.Proofs.YtjnijlnmbjjgpaaGreatDoor
namespace Go.Sx
open Go
variable {α:Type} {enc:α→List Value} {size:Nat}
theorem splice_at (A B C ys:List Value) (hl:ys.length=B.length):splice (A++(B++C)) A.length ys=A++(ys++C):=by
 rw[splice_mid A (B++C) ys (by simp[hl])]
 rw[hl,List.drop_left]
end Go.Sx

namespace Go.Proofs.YtjnijlnmbjjgpaaGreatDoor
open Go Go.Sx C
theorem wrapU {x:Int} (h0:0≤x) (h1:x<18446744073709551616):IntKind.u64.wrap x=x:=by
 have e:IntKind.u64.wrap x=x%18446744073709551616:=by simp[IntKind.wrap,IntKind.bits,IntKind.signed]
 rw[e];omega
theorem rising_lt {α:Type} {lt:α→α→Bool} (htr:∀a b c,lt a b=true→lt b c=true→lt a c=true):∀{l:List α},rising lt l=true→l.Pairwise fun a b=>lt a b=true
 |[],_=>List.Pairwise.nil
 |[x],_=>List.pairwise_singleton _ _
 |x::y::l,h=>by
  simp only[rising,Bool.and_eq_true]at h
  have ih:=rising_lt htr h.2
  refine List.Pairwise.cons (fun z hz=>?_) ih
  rcases List.mem_cons.1 hz with rfl|hz
  ·exact h.1
  ·exact htr _ _ _ h.1 (List.rel_of_pairwise_cons ih hz)
end Go.Proofs.YtjnijlnmbjjgpaaGreatDoor
namespace Go.Proofs.YtjnijlnmbjjgpaaGreatDoor
open Go Go.Sx
structure RX where
 key:ByteArray
 thing:Thing
 vs:List Value
 len:vs.length=7
 one:∀u∈vs,u.oneCell'=true
def encX (x:RX):List Value:=.string x.key::x.vs
theorem encX_len (x:RX):(encX x).length=8:=by simp[encX,x.len]
theorem encX_one (x:RX):∀u∈encX x,u.oneCell'=true:=by
 intro u hu
 simp only[encX,List.mem_cons]at hu
 rcases hu with rfl|hu
 ·rfl
 ·exact x.one u hu
def GX (h:Heap) (l:List RX):Prop:=∀x∈l,TH h x.vs x.thing
theorem GX.ext {h h':Heap} {l:List RX} (g:GX h l) (hc:Chg [] h h'):GX h' l:=fun x hx=>(g x hx).ext hc
def findX (key:ByteArray):List RX→Nat×Bool
 |[]=>(0,false)
 |x::l=>if x.key=key then(0,true)else if sless key x.key=true then(0,false)else((findX key l).1+1,(findX key l).2)
def putX (l:List RX) (x:RX):List RX:=
 l.take (findX x.key l).1++[x]++l.drop (if(findX x.key l).2=true then(findX x.key l).1+1 else(findX x.key l).1)
def UpX (l:List RX):Prop:=l.Pairwise fun x y=>sless x.key y.key=true
theorem findX_le (key:ByteArray):∀l:List RX,(findX key l).1≤l.length
 |[]=>Nat.le_refl _
 |x::l=>by
  have:=findX_le key l
  unfold findX
  split
  ·exact Nat.zero_le _
  ·split
   ·exact Nat.zero_le _
   ·simp;exact this
theorem findX_hit (key:ByteArray):∀l:List RX,(findX key l).2=true→∃h:(findX key l).1<l.length,l[(findX key l).1].key=key
 |[],h=>by simp[findX]at h
 |x::l,h=>by
  by_cases h1:x.key=key
  ·have e:findX key (x::l)=(0,true):=by unfold findX;rw[if_pos h1]
   simp only[e]
   exact⟨by simp,by simpa using h1⟩
  ·by_cases h2:sless key x.key=true
   ·have e:findX key (x::l)=(0,false):=by unfold findX;rw[if_neg h1,if_pos h2]
    rw[e]at h;simp at h
   ·have e:findX key (x::l)=((findX key l).1+1,(findX key l).2):=by rw[findX,if_neg h1,if_neg h2]
    rw[e]at h
    obtain⟨h3,h4⟩:=findX_hit key l h
    simp only[e]
    exact⟨by simp;exact h3,by simpa using h4⟩
theorem findX_mem {key:ByteArray} {l:List RX} (h:(findX key l).2=true):∃x∈l,x.key=key:=by
 obtain⟨h1,h2⟩:=findX_hit key l h
 exact⟨_,List.getElem_mem h1,h2⟩
theorem findX_has {key:ByteArray}:∀{l:List RX},UpX l→(∃x∈l,x.key=key)→(findX key l).2=true
 |[],_,h=>by simp at h
 |x::l,hu,h=>by
  unfold findX
  split
  ·rfl
  ·rename_i h1
   obtain⟨y,hy,hk⟩:=h
   rcases List.mem_cons.1 hy with rfl|hy
   ·exact absurd hk h1
   ·have h2:=(List.pairwise_cons.1 hu).1 y hy
    rw[hk]at h2
    split
    ·rename_i h3
     have:=sless_trans h2 h3
     rw[sless_irrefl]at this;cases this
    ·exact findX_has (List.pairwise_cons.1 hu).2 ⟨y,hy,hk⟩
theorem putX_cons (y:RX) (l:List RX) (x:RX):putX (y::l) x=if y.key=x.key then x::l else if sless x.key y.key=true then x::y::l else y::putX l x:=by
 unfold putX
 by_cases h1:y.key=x.key
 ·have e:findX x.key (y::l)=(0,true):=by unfold findX;rw[if_pos h1]
  rw[e,if_pos h1];simp
 ·by_cases h2:sless x.key y.key=true
  ·have e:findX x.key (y::l)=(0,false):=by unfold findX;rw[if_neg h1,if_pos h2]
   rw[e,if_neg h1,if_pos h2];simp
  ·have e:findX x.key (y::l)=((findX x.key l).1+1,(findX x.key l).2):=by rw[findX,if_neg h1,if_neg h2]
   rw[e,if_neg h1,if_neg h2]
   cases hb:(findX x.key l).2<;>simp
theorem putX_nil (x:RX):putX [] x=[x]:=rfl
theorem sless_ne {a b:ByteArray} (h:sless a b=true):a≠b:=by
 intro e;subst e;rw[sless_irrefl]at h;cases h
theorem mem_putX {x y:RX}:∀{l:List RX},UpX l→(y∈putX l x↔y=x∨(y∈l∧y.key≠x.key))
 |[],_=>by simp[putX_nil]
 |z::l,hu=>by
  obtain⟨h1,h2⟩:=List.pairwise_cons.1 hu
  rw[putX_cons]
  split
  ·rename_i hk
   rw[List.mem_cons,List.mem_cons]
   constructor
   ·rintro(rfl|hy)
    ·exact .inl rfl
    ·refine .inr ⟨.inr hy,fun e=>sless_ne (h1 y hy) (hk.trans e.symm)⟩
   ·rintro(rfl|⟨rfl|hy,hn⟩)
    ·exact .inl rfl
    ·exact absurd hk hn
    ·exact .inr hy
  ·rename_i hk
   split
   ·rename_i hl
    rw[List.mem_cons,List.mem_cons]
    constructor
    ·rintro(rfl|rfl|hy)
     ·exact .inl rfl
     ·exact .inr ⟨.inl rfl,hk⟩
     ·refine .inr ⟨.inr hy,fun e=>?_⟩
      have:=sless_trans hl (h1 y hy)
      rw[e,sless_irrefl]at this;cases this
    ·rintro(rfl|⟨rfl|hy,hn⟩)
     ·exact .inl rfl
     ·exact .inr (.inl rfl)
     ·exact .inr (.inr hy)
   ·rw[List.mem_cons,mem_putX h2,List.mem_cons]
    constructor
    ·rintro(rfl|rfl|⟨hy,hn⟩)
     ·exact .inr ⟨.inl rfl,hk⟩
     ·exact .inl rfl
     ·exact .inr ⟨.inr hy,hn⟩
    ·rintro(rfl|⟨rfl|hy,hn⟩)
     ·exact .inr (.inl rfl)
     ·exact .inl rfl
     ·exact .inr (.inr ⟨hy,hn⟩)
theorem up_putX {x:RX}:∀{l:List RX},UpX l→UpX (putX l x)
 |[],_=>by rw[putX_nil];exact List.pairwise_singleton _ _
 |z::l,hu=>by
  obtain⟨h1,h2⟩:=List.pairwise_cons.1 hu
  rw[putX_cons]
  split
  ·rename_i hk
   exact List.pairwise_cons.2 ⟨fun y hy=>by rw[←hk];exact h1 y hy,h2⟩
  ·rename_i hk
   split
   ·rename_i hl
    refine List.pairwise_cons.2 ⟨fun y hy=>?_,hu⟩
    rcases List.mem_cons.1 hy with rfl|hy
    ·exact hl
    ·exact sless_trans hl (h1 y hy)
   ·rename_i hl
    refine List.pairwise_cons.2 ⟨fun y hy=>?_,up_putX h2⟩
    rcases(mem_putX h2).1 hy with rfl|⟨hy,_⟩
    ·rcases sless_total (a:=z.key) (b:=y.key) hk with h|h
     ·exact h
     ·exact absurd h hl
    ·exact h1 y hy
theorem putX_len (l:List RX) (x:RX):(putX l x).length≤l.length+1:=by
 unfold putX
 have:=findX_le x.key l
 simp only[List.length_append,List.length_take,List.length_drop,List.length_cons,List.length_nil]
 split<;>omega
theorem putX_new {l:List RX} {x:RX} (h:(findX x.key l).2=false):(putX l x).length=l.length+1:=by
 unfold putX
 have:=findX_le x.key l
 simp only[List.length_append,List.length_take,List.length_drop,List.length_cons,List.length_nil,h]
 simp;omega
theorem up_ext {α:Type} {lt:α→α→Prop} (ha:∀a b,lt a b→¬lt b a):∀{l m:List α},l.Pairwise lt→m.Pairwise lt→(∀x,x∈l↔x∈m)→l=m
 |[],[],_,_,_=>rfl
 |[],b::m,_,_,h=>by have:=(h b).2 (by simp);simp at this
 |a::l,[],_,_,h=>by have:=(h a).1 (by simp);simp at this
 |a::l,b::m,hl,hm,h=>by
  obtain⟨l1,l2⟩:=List.pairwise_cons.1 hl
  obtain⟨m1,m2⟩:=List.pairwise_cons.1 hm
  have e:a=b:=by
   rcases List.mem_cons.1 ((h a).1 (by simp))with e|ha'
   ·exact e
   ·rcases List.mem_cons.1 ((h b).2 (by simp))with e|hb'
    ·exact e.symm
    ·exact absurd (l1 b hb') (ha b a (m1 a ha'))
  subst e
  have irr:∀x,¬lt x x:=fun x hx=>ha x x hx hx
  refine congrArg _ (up_ext ha l2 m2 fun x=>⟨fun hx=>?_,fun hx=>?_⟩)
  ·rcases List.mem_cons.1 ((h x).1 (List.mem_cons_of_mem _ hx))with e|h'
   ·exact absurd (l1 x hx) (by rw[e];exact irr _)
   ·exact h'
  ·rcases List.mem_cons.1 ((h x).2 (List.mem_cons_of_mem _ hx))with e|h'
   ·exact absurd (m1 x hx) (by rw[e];exact irr _)
   ·exact h'
end Go.Proofs.YtjnijlnmbjjgpaaGreatDoor
namespace Go.Proofs.YtjnijlnmbjjgpaaGreatDoor
open Go Go.Sx C
theorem cells_vs {h:Heap} {b o:Nat} {x:RX} (hc:Cells h b o (encX x)):Cells h b (o+1) x.vs:=fun i v hv=>by
 have:=hc (i+1) v hv
 rw[show o+1+i=o+(i+1)by omega];exact this
theorem swp_seq {P:Program} {a b:SCode} {Q:Post} {σ:Env} {ds:List Deferred} {h:Heap} (hs:swp P a (thenQ (swp P b Q) Q) σ ds h):swp P (.seq a b) Q σ ds h:=hs
theorem seven_form {vs:List Value} (h:vs.length=7):∃a b c d e f g,vs=[a,b,c,d,e,f,g]:=by
 match vs,h with
 |[a,b,c,d,e,f,g],_=>exact⟨a,b,c,d,e,f,g,rfl⟩
theorem TH.hasU {h:Heap} {vs:List Value} {t:Thing} (x:TH h vs t):vs[5]? =some (.bool t.hasU):=by
 obtain⟨pv,lv,rv,rfl,_⟩:=x
 rfl
theorem TH.unt {h:Heap} {vs:List Value} {t:Thing} (x:TH h vs t):vs[6]? =some (.int .i64 t.unt):=by
 obtain⟨pv,lv,rv,rfl,_⟩:=x
 rfl
def KeysFit (l:List RX):Prop:=∀x∈l,x.key.size<4611686018427387904
theorem Find_calls {h:Heap} {v:Value} {l:List RX} (key:ByteArray) (hv:SL encX h v l) (hl:l.length<4611686018427387904) (hk:key.size<4611686018427387904) (hf:KeysFit l):
  CallsH Tryz.prog 46 [v,.string key] h (Ret fun r h'=>r=.tuple #[.int .i64 (findX key l).1,.bool (findX key l).2]∧h'=h):=by
 obtain⟨a,c,rfl,hlc⟩:=hv.form
 refine f46_calls (by simp) ?_
 refine loop_intro (fun k:Nat=>[(0,.slice a l.length c),(1,.string key),(6,.int .i64 k)]) (fun k h'=>k≤l.length∧h'=h∧findX key l=((findX key (l.drop k)).1+k,(findX key (l.drop k)).2)) (fun k=>l.length-k) 0
  ⟨rfl,rfl,rfl,trivial⟩ ⟨Nat.zero_le _,rfl,by simp⟩ ?_
 rintro k h1 ⟨hk1,e1,hfx⟩
 have e1:=e1.symm
 subst e1
 refine Ai rfl (Ai (fun ht=>?_) (fun ht=>?_))
 ·have hlt:k<l.length:=by omega
  obtain⟨b,o,rfl⟩:=hv.addr (by omega)
  have hcs:=hv.cells encX_len (i:=k) (x:=l[k]) (by simp[hlt])
  have hdr:l.drop k=l[k]::l.drop (k+1):=List.drop_eq_getElem_cons hlt
  rw[hdr]at hfx
  refine Ai (by omega) (Ai (by omega) (Ei _ (Ai (hcs 0 _ rfl) ?_)))
  refine Ai (fun heq=>?_) (fun hne=>?_)
  ·have e:findX key l=(k,true):=by rw[hfx];simp[findX,heq]
   exact Ai (by rw[e];rfl) rfl
  ·refine Ai (by omega) (Ai (by omega) (Ei _ (Ai (hcs 0 _ rfl) ?_)))
   refine call_ret (Less_calls key l[k].key hk (hf _ (List.getElem_mem hlt))) ?_
   rintro r h2 ⟨hr,e2⟩
   have e2:=e2.symm
   subst e2
   cases hs:sless key l[k].key with
   |true=>
    rw[hs]at hr
    subst hr
    have e:findX key l=(k,false):=by rw[hfx,findX,if_neg hne,if_pos hs];simp
    exact Ai (by rw[e];rfl) rfl
   |false=>
    rw[hs]at hr
    subst hr
    refine Ai rfl (fun z hz=>?_)
    have hz:=add_in hz (by omega) (by omega)
    subst hz
    refine Ai rfl (Ei (k+1) (Ai ?_ (Ai ?_ ?_)))
    ·exact⟨rfl,rfl,rfl,trivial⟩
    ·refine⟨by omega,rfl,?_⟩
     rw[hfx,findX,if_neg hne,if_neg (by rw[hs];simp)]
     simp;omega
    ·omega
 ·have hlt:k=l.length:=by omega
  subst hlt
  have e:findX key l=(l.length,false):=by rw[hfx];simp[findX]
  exact Ai (by rw[e];rfl) rfl
theorem Put_calls {h:Heap} {v:Value} {l:List RX} (x:RX) (hv:SL encX h v l) (hl:l.length≤100000) (hk:x.key.size<4611686018427387904) (hf:KeysFit l):
  CallsH Tryz.prog 48 [v,.string x.key,.agg ⟨x.vs⟩] h (Ret fun r h'=>OL encX 8 h' r (putX l x)∧(∀b∈vblk r,h.size≤b)∧Chg [] h h'):=by
 obtain⟨a,c,rfl,hlc⟩:=hv.form
 obtain⟨v0,v1,v2,v3,v4,v5,v6,hvs⟩:=seven_form x.len
 rw[hvs]
 refine f48_calls (by simp) ?_
 intro b5 h1 g1
 have B1:Blk h1 b5 [v0,v1,v2,v3,v4,v5,v6]:=g1.blk
 have hv1:=hv.ext g1.chg
 refine call_ret (Find_calls x.key hv1 (by omega) hk hf) ?_
 rintro _ h9 ⟨rfl,e9⟩
 have e9:=e9.symm
 subst e9
 have hi:=findX_le x.key l
 refine SL.slc (lo:=0) encX_len hv1 (Nat.zero_le _) hi ?_
 intro a1 _ hs1
 simp only[Nat.sub_zero,List.drop_zero]at hs1⊢
 refine app_new encX_len encX_one rfl hs1 (by simp;omega) ?_
 intro w4 h4 ho4 hc4 hb4
 have B4:=B1.chg hc4 (by simp)
 refine Ei [v0,v1,v2,v3,v4,v5,v6] (Ai rfl (Ai (cells_blk B4) ?_))
 intro b5' h5 g5
 have b5x:Blk h5 b5' (encX x):=by have:=g5.blk;unfold encX;rw[hvs];exact this
 have ho5:=ho4.ext g5.chg
 obtain⟨a5,c5,rfl,hoc5⟩:=ho5.sl.form
 refine app_own encX_len encX_one rfl ho5 (SL.one encX_len b5x) (by simp;omega) ?_
 intro w6 h6 ho6 hc6 hb6
 have hb41:∀b∈ablk a5,h1.size≤b:=fun b hb=>hb4 b hb
 have hc16:Chg [] h1 h6:=(hc4.nil g5.chg).fresh hc6 hb41
 have hb16:∀b∈vblk w6,h1.size≤b:=fun b hb=>by
  rcases hb6 b hb with h|h
  ·exact hb41 b h
  ·have:=hc4.size;have:=g5.size;omega
 have hv6:=hv1.ext hc16
 obtain⟨a6,c6,rfl,hoc6⟩:=ho6.sl.form
 have z1:=g1.size
 have fin:∀(i:Nat),i≤l.length→(l.take (findX x.key l).1++[x]++l.drop i=putX l x)→
   swp Tryz.prog (.seq (.ops f48r6) .ret) (retQ [.t 6] (Ret fun r h'=>OL encX 8 h' r (putX l x)∧(∀b∈vblk r,h.size≤b)∧Chg [] h h')) (mk [(9,.slice a6 (l.take (findX x.key l).1++[x]).length c6),(0,.slice a l.length c),(7,.int .i64 i)]) [] h6:=by
  intro i hil hput
  refine SL.slc (lo:=i) encX_len hv6 hil (Nat.le_refl _) ?_
  intro a7 _ hs7
  have e:(l.drop i).take (l.length-i)=l.drop i:=by rw[List.take_of_length_le];simp
  rw[e]at hs7
  refine app_own encX_len encX_one rfl ho6 hs7 (by simp;omega) ?_
  intro v8 h8 ho8 hc8 hb8
  have hc18:Chg [] h1 h8:=hc16.fresh hc8 hb16
  rw[hput]at ho8
  refine Ai ho8 (Ai (fun b hb=>?_) (g1.chg.nil hc18))
  rcases hb8 b hb with h|h
  ·have:=hb16 b h;omega
  ·have:=hc16.size;omega
 cases hb:(findX x.key l).2 with
 |true=>
  obtain⟨hlt,_⟩:=findX_hit x.key l hb
  refine Ai rfl (fun z hz=>?_)
  have hz:=add_in hz (by omega) (by omega)
  subst hz
  exact cut_at [(9,.slice a6 (l.take (findX x.key l).1++[x]).length c6),(0,.slice a l.length c),(7,.int .i64 ((findX x.key l).1+1:Nat))] ⟨rfl,rfl,rfl,trivial⟩ (fin ((findX x.key l).1+1) hlt (by unfold putX;rw[if_pos hb]))
 |false=>
  refine swp_seq ?_
  exact cut_at [(9,.slice a6 (l.take (findX x.key l).1++[x]).length c6),(0,.slice a l.length c),(7,.int .i64 (findX x.key l).1)] ⟨rfl,rfl,rfl,trivial⟩ (fin (findX x.key l).1 hi (by unfold putX;rw[if_neg (by rw[hb];simp)]))
def goneT (t:Thing) (now:Int):Bool:=t.hasU&&decide (t.unt≤now)
def lookX (l:List RX) (key:ByteArray):Option Thing:=if(findX key l).2=true then(l[(findX key l).1]?).map (·.thing)else none
def getX (l:List RX) (key:ByteArray) (now:Int):Option Thing:=match lookX l key with
 |some t=>if goneT t now=true then none else some t
 |none=>none
structure KI where
 key:ByteArray
 tb:Nat
 vs:List Value
 thing:Thing
 born:Nat
def KI.ent (i:KI):MapEntry:={key:=.string i.key,val:=ptr i.tb,born:=i.born}
def KI.pr (i:KI):ByteArray×Thing:=(i.key,i.thing)
def RX.pr (i:RX):ByteArray×Thing:=(i.key,i.thing)
structure KR (h:Heap) (kb sb mb c:Nat) (m:List KI):Prop where
 ks:KS h kb sb mb
 map:MapB h mb (m.map KI.ent) c
 here:∀i∈m,Blk h i.tb i.vs∧TH h i.vs i.thing∧Lens i.thing
 nodup:(m.map KI.key).Nodup
 born:∀i∈m,i.born<c
 borns:(m.map KI.born).Nodup
 keys:∀i∈m,i.key.size≤1048576
 len:m.length≤65536
theorem KR.ext {h h':Heap} {kb sb mb c:Nat} {m:List KI} (x:KR h kb sb mb c m) (hc:Chg [] h h'):KR h' kb sb mb c m:=
 ⟨x.ks.chg hc (by simp) (by simp),x.map.chg hc (by simp),fun i hi=>⟨(x.here i hi).1.chg hc (by simp),(x.here i hi).2.1.ext hc,(x.here i hi).2.2⟩,x.nodup,x.born,x.borns,x.keys,x.len⟩
theorem ents_fit (m:List KI):∀e∈m.map KI.ent,fits .str e.key=true:=by
 intro e he
 obtain⟨i,_,rfl⟩:=List.mem_map.1 he
 rfl
theorem str_same (a b:ByteArray):Instr.sameBits 10000 (.string a) (.string b)=decide (a=b):=by
 cases hd:decide (a=b)with
 |true=>
  have:=of_decide_eq_true hd
  subst this
  exact sameBits_refl (k:=.str) rfl
 |false=>
  cases h:Instr.sameBits 10000 (.string a) (.string b)with
  |false=>rfl
  |true=>
   have:=sameBits_eq (k:=.str) rfl rfl h
   simp at this
   exact absurd this (of_decide_eq_false hd)
theorem mfind_ents (key:ByteArray):∀(m:List KI) (n:Nat),(mfind (.string key) (m.map KI.ent) n=none∧∀i∈m,i.key≠key)∨
  ∃(j:Nat) (i:KI),mfind (.string key) (m.map KI.ent) n=some (n+j,ptr i.tb)∧m[j]? =some i∧i.key=key
 |[],n=>.inl ⟨rfl,by simp⟩
 |x::m,n=>by
  simp only[List.map_cons,mfind]
  rw[show(KI.ent x).key=.string x.key from rfl,str_same]
  by_cases hk:key=x.key
  ·exact .inr ⟨0,x,by simp[hk,KI.ent],rfl,hk.symm⟩
  ·rw[if_neg (by simpa using hk)]
   rcases mfind_ents key m (n+1)with⟨h1,h2⟩|⟨j,i,h1,h2,h3⟩
   ·exact .inl ⟨h1,fun i hi=>by
     rcases List.mem_cons.1 hi with rfl|hi
     ·exact fun e=>hk e.symm
     ·exact h2 i hi⟩
   ·exact .inr ⟨j+1,i,by rw[h1,show n+1+j=n+(j+1)by omega],by simpa using h2,h3⟩
def ofX:List RX→List RX→Option (List RX)
 |acc,[]=>some acc
 |acc,x::r=>if(findX x.key acc).2=true∨kOK x.thing=false then none else ofX (putX acc x) r
structure NVast (l:List RX):Prop where
 len:l.length≤20
 keys:∀x∈l,x.key.size≤300
 small:∀x∈l,Small x.thing
theorem NVast.fit {l:List RX} (n:NVast l):KeysFit l:=fun x hx=>by have:=n.keys x hx;omega
theorem ofX_ok:∀{r acc k:List RX},UpX acc→ofX acc r=some k→UpX k∧(∀y,y∈k↔y∈acc∨y∈r)∧k.length=acc.length+r.length
 |[],acc,k,hu,h=>by
  simp only[ofX,Option.some.injEq]at h
  subst h
  exact⟨hu,by simp,by simp⟩
 |x::r,acc,k,hu,h=>by
  simp only[ofX]at h
  split at h
  ·cases h
  ·rename_i hn
   have hf:(findX x.key acc).2=false:=by
    cases hb:(findX x.key acc).2 with
    |false=>rfl
    |true=>exact absurd (.inl hb) hn
   obtain⟨h1,h2,h3⟩:=ofX_ok (up_putX hu) h
   refine⟨h1,fun y=>?_,by rw[h3,putX_new hf];simp;omega⟩
   rw[h2,mem_putX hu,List.mem_cons]
   constructor
   ·rintro((rfl|⟨h,_⟩)|h)
    ·exact .inr (.inl rfl)
    ·exact .inl h
    ·exact .inr (.inr h)
   ·rintro(h|rfl|h)
    ·refine .inl (.inr ⟨h,fun e=>?_⟩)
     have:=findX_has hu ⟨y,h,e⟩
     rw[hf]at this;cases this
    ·exact .inl (.inl rfl)
    ·exact .inr h
theorem ofX_nodup:∀{r acc k:List RX},UpX acc→ofX acc r=some k→(r.map (·.key)).Nodup∧∀x∈r,kOK x.thing=true
 |[],acc,k,hu,h=>by simp
 |x::r,acc,k,hu,h=>by
  have h0:=h
  simp only[ofX]at h
  split at h
  ·cases h
  ·rename_i hn
   obtain⟨h1,h2⟩:=ofX_nodup (up_putX hu) h
   refine⟨?_,?_⟩
   ·rw[List.map_cons,List.nodup_cons]
    refine⟨fun hm=>?_,h1⟩
    obtain⟨y,hy,hk⟩:=List.mem_map.1 hm
    -- y would have been refused
    have:∀{r acc k:List RX},UpX acc→ofX acc r=some k→∀y∈r,∀z∈acc,z.key≠y.key:=by
     intro r
     induction r with
     |nil=>intro acc k _ _ y hy;simp at hy
     |cons w r ih=>
      intro acc k hu h y hy z hz e
      simp only[ofX]at h
      split at h
      ·cases h
      ·rename_i hn
       rcases List.mem_cons.1 hy with rfl|hy
       ·exact hn (.inl (findX_has hu ⟨z,hz,e⟩))
       ·by_cases hzw:z.key=w.key
        ·exact ih (up_putX hu) h y hy w ((mem_putX hu).2 (.inl rfl)) (hzw.symm.trans e)
        ·exact ih (up_putX hu) h y hy z ((mem_putX hu).2 (.inr ⟨hz,hzw⟩)) e
    exact this (up_putX hu) h y hy x ((mem_putX hu).2 (.inl rfl)) hk.symm
   ·intro y hy
    rcases List.mem_cons.1 hy with rfl|hy
    ·cases hk:kOK y.thing with
     |true=>rfl
     |false=>exact absurd (.inr hk) hn
    ·exact h2 y hy
structure CH (h h':Heap):Prop where
 blk:∀b l,Blk h b l→Blk h' b l
 cell:∀b o v,cell h b o=some v→cell h' b o=some v
theorem ne_map {h:Heap} {b mb c:Nat} {l:List Value} {es:List MapEntry} (hb:Blk h b l) (hm:MapB h mb es c):b≠mb:=by
 rintro rfl
 obtain⟨e,he⟩:=hb
 have hm:h[b]? =_:=hm
 rw[he]at hm;cases hm
theorem ch_putO {h h':Heap} {mb c:Nat} {es:List MapEntry} {o:Obj} (hm:MapB h mb es c) (p:PutO h h' mb o):CH h h':=by
 refine⟨fun b l hb=>?_,fun b o v hc=>?_⟩
 ·have:=ne_map hb hm
  obtain⟨e,he⟩:=hb
  exact⟨e,by rw[p.old b this];exact he⟩
 ·have hne:b≠mb:=by
   rintro rfl
   have hm:h[b]? =_:=hm
   unfold Sx.cell at hc
   rw[hm]at hc;cases hc
  unfold Sx.cell at hc⊢
  rw[p.old b hne];exact hc
theorem SL.ch {α:Type} {enc:α→List Value} {h h':Heap} {v:Value} {l:List α} (hs:SL enc h v l) (x:CH h h'):SL enc h' v l:=by
 obtain⟨a,c,rfl,h1,h2⟩:=hs
 refine⟨a,c,rfl,h1,?_⟩
 cases a with
 |none=>exact h2
 |some a=>
  obtain⟨b,o,sp⟩:=a
  cases sp with
  |some q=>exact h2
  |none=>exact fun i v hv=>x.cell _ _ _ (h2 i v hv)
theorem TH.ch {h h':Heap} {vs:List Value} {t:Thing} (x:TH h vs t) (hc:CH h h'):TH h' vs t:=by
 obtain⟨pv,lv,rv,rfl,h2,h3,h4⟩:=x
 exact⟨pv,lv,rv,rfl,SL.ch h2 hc,SL.ch h3 hc,SL.ch h4 hc⟩
theorem KS.ch {h h':Heap} {kb sb mb:Nat} (x:KS h kb sb mb) (hc:CH h h'):KS h' kb sb mb:=⟨hc.blk _ _ x.k,hc.blk _ _ x.s⟩
theorem KR.put {h h':Heap} {kb sb mb c tb:Nat} {m:List KI} {key:ByteArray} {us:List Value} {t:Thing} (x:KR h kb sb mb c m)
  (p:PutO h h' mb (.map ⟨m.map KI.ent++[{key:=.string key,val:=ptr tb,born:=c}]⟩ (c+1))) (hn:∀i∈m,i.key≠key) (hk:key.size≤1048576) (B:Blk h tb us) (tx:TH h us t) (n:Lens t) (hl:m.length<65536):
  KR h' kb sb mb (c+1) (m++[⟨key,tb,us,t,c⟩]):=by
 have ch:=ch_putO x.map p
 refine⟨x.ks.ch ch,?_,fun i hi=>?_,?_,fun i hi=>?_,?_,fun i hi=>?_,by simp;omega⟩
 ·show h'[mb]? =_
  rw[p.blk]
  simp[KI.ent]
 ·rcases List.mem_append.1 hi with hi|hi
  ·obtain⟨h1,h2,h3⟩:=x.here i hi
   exact⟨ch.blk _ _ h1,h2.ch ch,h3⟩
  ·simp at hi
   subst hi
   exact⟨ch.blk _ _ B,tx.ch ch,n⟩
 ·rw[List.map_append,List.nodup_append]
  refine⟨x.nodup,by simp,?_⟩
  intro a ha b hb
  obtain⟨i,hi,rfl⟩:=List.mem_map.1 ha
  simp at hb
  subst hb
  exact hn i hi
 ·rcases List.mem_append.1 hi with hi|hi
  ·have:=x.born i hi;omega
  ·simp at hi
   subst hi
   exact Nat.lt_succ_self _
 ·rw[List.map_append,List.nodup_append]
  refine⟨x.borns,by simp,?_⟩
  intro a ha b hb
  obtain⟨i,hi,rfl⟩:=List.mem_map.1 ha
  simp at hb
  subst hb
  have:=x.born i hi
  exact fun e=>by omega
 ·rcases List.mem_append.1 hi with hi|hi
  ·exact x.keys i hi
  ·simp at hi
   subst hi
   exact hk
theorem eight {ws vs:List Value} (hw:ws.length=8) (hv:vs.length=8):splice ws 0 vs=vs:=by
 match ws,hw,vs,hv with
 |[_,_,_,_,_,_,_,_],_,[_,_,_,_,_,_,_,_],_=>rfl
def zeroX:List Value:=[.string ⟨#[]⟩,.int .i64 0,.string ⟨#[]⟩,.slice none 0 0,.slice none 0 0,.slice none 0 0,.bool false,.int .i64 0]
theorem cells_tail {h:Heap} {b:Nat} {x:RX} (B:Blk h b (encX x)):Cells h b 1 x.vs:=cells_part B fun i v hv=>by
 rw[Nat.add_comm];exact hv
def OfK (h:Heap) (l:List RX) (r:Value) (h':Heap):Prop:=Chg [] h h'∧match ofX [] l with
 |none=>r=.tuple #[.pointer none,.int .i64 2]
 |some _=>∃kb sb mb c m,r=.tuple #[ptr kb,.int .i64 0]∧KR h' kb sb mb c m∧m.map KI.pr=l.map RX.pr∧h.size≤mb
theorem ofK_bad {h h':Heap} {l:List RX} (hc:Chg [] h h') (hn:ofX [] l=none):OfK h l (.tuple #[.pointer none,.int .i64 2]) h':=by
 refine⟨hc,?_⟩
 rw[hn]
theorem KOf_calls {h:Heap} {v:Value} {l:List RX} (hv:SL encX h v l) (g:GX h l) (nv:NVast l):
  CallsH Tryz.prog 19 [v] h (Ret (OfK h l)):=by
 have hl:=nv.len
 obtain⟨a,c,rfl,hlc⟩:=hv.form
 refine f19_calls (by simp) ?_
 refine call_ret New_calls ?_
 rintro _ h1 ⟨kb,sb,mb,rfl,ks1,hm1,emb,_,_,hc1⟩
 have kr1:KR h1 kb sb mb 0 []:=⟨ks1,hm1,by simp,by simp,by simp,by simp,by simp,by simp⟩
 refine loop_intro (fun k:Nat=>[(0,.slice a l.length c),(4,ptr kb),(11,.slice a l.length c),(12,.int .i64 l.length),(13,.int .i64 k)])
  (fun k h'=>k≤l.length∧Chg [] h h'∧∃m acc,KR h' kb sb mb k m∧m.map KI.pr=(l.take k).map RX.pr∧UpX acc∧ofX [] l=ofX acc (l.drop k)∧∀y,y∈acc↔y∈l.take k) (fun k=>l.length-k) 0
  ⟨rfl,rfl,rfl,rfl,rfl,trivial⟩ ⟨Nat.zero_le _,hc1,[],[],kr1,rfl,List.Pairwise.nil,rfl,by simp⟩ ?_
 rintro k h2 ⟨hk,hc2,m,acc,kr2,hpr,hup,hof,hacc⟩
 refine Ai rfl (Ai (fun ht=>?_) (fun ht=>?_))
 ·have hlt:k<l.length:=by omega
  obtain⟨b,o,rfl⟩:=hv.addr (by omega)
  have hcs:=(hv.ext hc2).cells encX_len (i:=k) (x:=l[k]) (by simp[hlt])
  have hdr:l.drop k=l[k]::l.drop (k+1):=List.drop_eq_getElem_cons hlt
  have tk:l.take (k+1)=l.take k++[l[k]]:=take_snoc l k hlt
  have hmem:l[k]∈l:=List.getElem_mem hlt
  have hx:=g _ hmem
  have hsm:=nv.small _ hmem
  have hkz:=nv.keys _ hmem
  generalize hxe:l[k]=x at*
  have hml:m.length=k:=by
   have:=congrArg List.length hpr
   simp at this;omega
  refine Ai (by omega) (Ai ht (Ei (encX x) (Ai (encX_len x) (Ai hcs ?_))))
  intro b6 h3 g3
  refine Ei _ (Ai g3.blk (Ai (by decide) (Ai (encX_len x) (Ai (encX_one x) ?_))))
  intro h4 p4
  have g4:=g3.put p4
  have B4:Blk h4 b6 (encX x):=by
   have h8:Blk h4 b6 (splice zeroX 0 (encX x)):=p4.blk
   rw[eight rfl (encX_len x)]at h8
   exact h8
  have c24:=g4.chg
  have kr4:=kr2.ext c24
  have hc4:=hc2.nil c24
  refine Ei _ (Ai (cell_blk kr4.ks.k rfl) (Ei _ (Ai (cell_blk kr4.ks.s rfl) (Ei _ (Ai (cell_blk B4 rfl) ?_)))))
  refine Ai rfl (Ei (m.map KI.ent) (Ei k (Ai kr4.map (Ai (ents_fit m) ?_))))
  rw[hdr]at hof
  rcases mfind_ents x.key m 0 with⟨hmf,hno⟩|⟨j,i,hmf,hj,hik⟩
  rotate_left
  ·rw[hmf]
   refine ofK_bad hc4 ?_
   have him:i∈m:=List.mem_of_getElem? hj
   have:i.pr∈(l.take k).map RX.pr:=by rw[←hpr];exact List.mem_map_of_mem him
   obtain⟨y,hy,hyp⟩:=List.mem_map.1 this
   have hyk:y.key=x.key:=by
    have:=congrArg Prod.fst hyp
    exact this.trans hik
   rw[hof,ofX,if_pos (.inl (findX_has hup ⟨y,(hacc y).2 hy,hyk⟩))]
  ·rw[hmf]
   refine Ei _ (Ai (cell_blk B4 rfl) ?_)
   refine Ai rfl (Ai (fun big=>absurd big (by omega)) (fun _=>?_))
   refine Ei x.vs (Ai x.len (Ai (cells_tail B4) ?_))
   refine call_ret (KCheck_calls (hx.ext hc4) hsm) ?_
   rintro r h5 ⟨hr,c45⟩
   have hc5:=hc4.nil c45
   have hfn:(findX x.key acc).2=false:=by
    cases hb:(findX x.key acc).2 with
    |false=>rfl
    |true=>
     obtain⟨y,hy,hyk⟩:=findX_mem hb
     have:y.pr∈m.map KI.pr:=by rw[hpr];exact List.mem_map_of_mem ((hacc y).1 hy)
     obtain⟨i,hi,hip⟩:=List.mem_map.1 this
     have:i.key=y.key:=congrArg Prod.fst hip
     exact absurd (this.trans hyk) (hno i hi)
   cases hko:kOK x.thing with
   |false=>
    rw[hko]at hr
    subst hr
    refine ofK_bad hc5 ?_
    rw[hof,ofX,if_pos (.inr hko)]
   |true=>
    rw[hko]at hr
    subst hr
    have B5:=B4.chg c45 (by simp)
    refine Ei x.vs (Ai x.len (Ai (cells_tail B5) ?_))
    refine call_ret (copied_calls (hx.ext hc5) hsm.lens) ?_
    rintro _ h6 ⟨⟨us,rfl,tu,hub⟩,c56⟩
    intro b9 h7 g7
    refine Ei _ (Ai g7.blk (Ai (by decide) (Ai tu.len (Ai (thing_one tu) ?_))))
    intro h8 p8
    have g8:=g7.put p8
    have B8:Blk h8 b9 us:=by
     have h9:Blk h8 b9 (splice zeroV 0 us):=p8.blk
     rw[seven rfl tu.len]at h9
     exact h9
    have c58:=c56.nil g8.chg
    have kr8:=(kr4.ext c45).ext c58
    have B68:=B5.chg c58 (by simp)
    refine Ei _ (Ai (cell_blk kr8.ks.k rfl) (Ei _ (Ai (cell_blk kr8.ks.s rfl) (Ei _ (Ai (cell_blk B68 rfl) ?_)))))
    refine Ai rfl (Ei (m.map KI.ent) (Ei k (Ai kr8.map (Ai (ents_fit m) ?_))))
    rw[hmf]
    intro h9 p9
    have kr9:=kr8.put p9 hno (by omega) B8 (tu.ext g8.chg) hsm.lens (by omega)
    have hc8:=hc5.nil c58
    refine Ai rfl (fun z hz=>?_)
    have hz:=add_in hz (by omega) (by omega)
    subst hz
    refine Ai rfl (Ei (k+1) (Ai ?_ (Ai ?_ ?_)))
    ·exact⟨rfl,rfl,rfl,rfl,rfl,trivial⟩
    ·refine⟨by omega,hc8.fresh p9.chg (by simp;omega),_,putX acc x,kr9,?_,up_putX hup,?_,fun y=>?_⟩
     ·rw[tk,List.map_append,List.map_append,hpr];rfl
     ·rw[hof,ofX,if_neg]
      rintro(h|h)
      ·rw[hfn]at h;cases h
      ·rw[hko]at h;cases h
     ·rw[mem_putX hup,tk,List.mem_append,List.mem_singleton,hacc]
      constructor
      ·rintro(h|⟨h,_⟩)
       ·exact .inr h
       ·exact .inl h
      ·rintro(h|h)
       ·refine .inr ⟨h,fun e=>?_⟩
        have:=findX_has hup ⟨y,(hacc y).2 h,e⟩
        rw[hfn]at this;cases this
       ·exact .inl h
    ·omega
 ·have hlt:k=l.length:=by omega
  subst hlt
  refine Ai rfl (Ai (fun big=>absurd big (by omega)) (fun _=>?_))
  refine⟨hc2,?_⟩
  rw[hof,List.drop_length,ofX]
  rw[List.take_length]at hpr
  exact⟨kb,sb,mb,_,m,rfl,kr2,hpr,by omega⟩
end Go.Proofs.YtjnijlnmbjjgpaaGreatDoor
namespace Go.Proofs
open Go.RowKit Go.Maps Go.Sort Go.Shelf
/- numbers:mapT=76 keyT=9 -/
def Tryz.keys120_ren:Go.Shelf.Ren:=⟨fun|7=>120|10=>219|n=>n,fun|23=>76|26=>9|3=>82|28=>158|0=>0|27=>157|33=>162|4=>4|n=>n,fun|n=>n⟩
theorem Tryz.keys120:Go.Proofs.SlLaysZ.n7 Tryz.prog Tryz.keys120_ren:={
 mixed:=by kernel_rfl
 f7:=⟨Tryz.f120.name,by decide,Tryz.func120.trans (congrArg some (by kernel_rfl))⟩
 f10:=⟨Tryz.f219.name,by decide,Tryz.func219.trans (congrArg some (by kernel_rfl))⟩
 t0:=Tryz.underlying0
 a0:=Tryz.isAgg0
 z0:=Tryz.sizeOf0
 v0:=Tryz.zeroValue0
 t4:=Tryz.underlying4
 a4:=Tryz.isAgg4
 z4:=Tryz.sizeOf4
 v4:=Tryz.zeroValue4
 t23:=Tryz.underlying76
 a23:=Tryz.isAgg76
 z23:=Tryz.sizeOf76
 v23:=Tryz.zeroValue76
 t26:=Tryz.underlying9
 a26:=Tryz.isAgg9
 z26:=Tryz.sizeOf9
 v26:=Tryz.zeroValue9
 t27:=Tryz.underlying157
 a27:=Tryz.isAgg157
 z27:=Tryz.sizeOf157
 v27:=Tryz.zeroValue157
 t28:=Tryz.underlying158
 a28:=Tryz.isAgg158
 z28:=Tryz.sizeOf158
 v28:=Tryz.zeroValue158
 t33:=Tryz.underlying162
 a33:=Tryz.isAgg162
 z33:=Tryz.sizeOf162
 v33:=Tryz.zeroValue162}
def Tryz.sorted119_ren:Go.Shelf.Ren:=⟨fun|6=>119|8=>217|9=>218|11=>270|13=>272|12=>271|23=>300|24=>222|14=>292|15=>293|16=>294|17=>295|18=>296|19=>297|20=>277|21=>298|22=>299|25=>330|26=>331|27=>332|28=>333|29=>334|30=>306|31=>355|n=>n,fun|26=>9|28=>158|24=>24|0=>0|3=>3|37=>237|48=>235|50=>183|4=>4|40=>312|39=>311|45=>102|5=>5|9=>9|51=>327|55=>331|57=>345|58=>176|33=>162|n=>n,fun|n=>n⟩
theorem Tryz.sorted119:Go.Proofs.SlLaysZ.n6 Tryz.prog Tryz.sorted119_ren:={
 mixed:=by kernel_rfl
 f6:=⟨Tryz.f119.name,by decide,Tryz.func119.trans (congrArg some (by kernel_rfl))⟩
 f8:=⟨Tryz.f217.name,by decide,Tryz.func217.trans (congrArg some (by kernel_rfl))⟩
 f11:=⟨Tryz.f270.name,by decide,Tryz.func270.trans (congrArg some (by kernel_rfl))⟩
 t0:=Tryz.underlying0
 a0:=Tryz.isAgg0
 z0:=Tryz.sizeOf0
 v0:=Tryz.zeroValue0
 t24:=Tryz.underlying24
 a24:=Tryz.isAgg24
 z24:=Tryz.sizeOf24
 v24:=Tryz.zeroValue24
 t26:=Tryz.underlying9
 a26:=Tryz.isAgg9
 z26:=Tryz.sizeOf9
 v26:=Tryz.zeroValue9
 t28:=Tryz.underlying158
 a28:=Tryz.isAgg158
 z28:=Tryz.sizeOf158
 v28:=Tryz.zeroValue158
 i26:=by kernel_rfl}
def Tryz.sort218_ren:Go.Shelf.Ren:=⟨fun|6=>218|8=>272|9=>271|19=>300|20=>222|21=>292|22=>293|23=>294|24=>295|25=>296|26=>297|27=>277|28=>298|29=>299|36=>330|31=>331|32=>332|37=>333|38=>334|39=>306|41=>355|n=>n,fun|27=>24|29=>9|3=>3|32=>237|26=>24|0=>0|44=>235|46=>183|4=>4|36=>312|35=>311|41=>102|5=>5|9=>9|53=>327|57=>331|63=>345|64=>176|n=>n,fun|n=>n⟩
theorem Tryz.sort218:Go.Proofs.SlLaysM.n6 Tryz.prog Tryz.sort218_ren:={
 mixed:=by kernel_rfl
 f6:=⟨Tryz.f218.name,by decide,Tryz.func218.trans (congrArg some (by kernel_rfl))⟩
 f8:=Tryz.func272.trans (congrArg some (by kernel_rfl))
 f9:=⟨Tryz.f271.name,by decide,Tryz.func271.trans (congrArg some (by kernel_rfl))⟩
 f19:=Tryz.func300.trans (congrArg some (by kernel_rfl))
 f20:=Tryz.func222.trans (congrArg some (by kernel_rfl))
 f21:=⟨Tryz.f292.name,by decide,Tryz.func292.trans (congrArg some (by kernel_rfl))⟩
 f22:=⟨Tryz.f293.name,by decide,Tryz.func293.trans (congrArg some (by kernel_rfl))⟩
 f23:=⟨Tryz.f294.name,by decide,Tryz.func294.trans (congrArg some (by kernel_rfl))⟩
 f24:=⟨Tryz.f295.name,by decide,Tryz.func295.trans (congrArg some (by kernel_rfl))⟩
 f25:=⟨Tryz.f296.name,by decide,Tryz.func296.trans (congrArg some (by kernel_rfl))⟩
 f26:=⟨Tryz.f297.name,by decide,Tryz.func297.trans (congrArg some (by kernel_rfl))⟩
 f27:=⟨Tryz.f277.name,by decide,Tryz.func277.trans (congrArg some (by kernel_rfl))⟩
 f28:=⟨Tryz.f298.name,by decide,Tryz.func298.trans (congrArg some (by kernel_rfl))⟩
 f29:=⟨Tryz.f299.name,by decide,Tryz.func299.trans (congrArg some (by kernel_rfl))⟩
 f31:=Tryz.func331.trans (congrArg some (by kernel_rfl))
 f32:=Tryz.func332.trans (congrArg some (by kernel_rfl))
 f36:=⟨Tryz.f330.name,by decide,Tryz.func330.trans (congrArg some (by kernel_rfl))⟩
 f37:=⟨Tryz.f333.name,by decide,Tryz.func333.trans (congrArg some (by kernel_rfl))⟩
 f38:=⟨Tryz.f334.name,by decide,Tryz.func334.trans (congrArg some (by kernel_rfl))⟩
 f39:=⟨Tryz.f306.name,by decide,Tryz.func306.trans (congrArg some (by kernel_rfl))⟩
 f41:=⟨Tryz.f355.name,by decide,Tryz.func355.trans (congrArg some (by kernel_rfl))⟩
 t0:=Tryz.underlying0
 a0:=Tryz.isAgg0
 z0:=Tryz.sizeOf0
 v0:=Tryz.zeroValue0
 t3:=Tryz.underlying3
 a3:=Tryz.isAgg3
 z3:=Tryz.sizeOf3
 v3:=Tryz.zeroValue3
 t4:=Tryz.underlying4
 a4:=Tryz.isAgg4
 z4:=Tryz.sizeOf4
 v4:=Tryz.zeroValue4
 t5:=Tryz.underlying5
 a5:=Tryz.isAgg5
 z5:=Tryz.sizeOf5
 v5:=Tryz.zeroValue5
 t9:=Tryz.underlying9
 a9:=Tryz.isAgg9
 z9:=Tryz.sizeOf9
 v9:=Tryz.zeroValue9
 t26:=Tryz.underlying24
 a26:=Tryz.isAgg24
 z26:=Tryz.sizeOf24
 v26:=Tryz.zeroValue24
 t27:=Tryz.underlying24
 a27:=Tryz.isAgg24
 z27:=Tryz.sizeOf24
 v27:=Tryz.zeroValue24
 t29:=Tryz.underlying9
 a29:=Tryz.isAgg9
 z29:=Tryz.sizeOf9
 v29:=Tryz.zeroValue9
 t32:=Tryz.underlying237
 a32:=Tryz.isAgg237
 z32:=Tryz.sizeOf237
 v32:=Tryz.zeroValue237
 t35:=Tryz.underlying311
 a35:=Tryz.isAgg311
 z35:=Tryz.sizeOf311
 v35:=Tryz.zeroValue311
 t36:=Tryz.underlying312
 a36:=Tryz.isAgg312
 z36:=Tryz.sizeOf312
 v36:=Tryz.zeroValue312
 t41:=Tryz.underlying102
 a41:=Tryz.isAgg102
 z41:=Tryz.sizeOf102
 v41:=Tryz.zeroValue102
 t44:=Tryz.underlying235
 a44:=Tryz.isAgg235
 z44:=Tryz.sizeOf235
 v44:=Tryz.zeroValue235
 t46:=Tryz.underlying183
 a46:=Tryz.isAgg183
 z46:=Tryz.sizeOf183
 v46:=Tryz.zeroValue183
 t53:=Tryz.underlying327
 a53:=Tryz.isAgg327
 z53:=Tryz.sizeOf327
 v53:=Tryz.zeroValue327
 t57:=Tryz.underlying331
 a57:=Tryz.isAgg331
 z57:=Tryz.sizeOf331
 v57:=Tryz.zeroValue331
 t63:=Tryz.underlying345
 a63:=Tryz.isAgg345
 z63:=Tryz.sizeOf345
 v63:=Tryz.zeroValue345
 t64:=Tryz.underlying176
 a64:=Tryz.isAgg176
 z64:=Tryz.sizeOf176
 v64:=Tryz.zeroValue176}
theorem Tryz.sorts119 (m:Nat):AnyZ.SortsIn Tryz.prog Tryz.sorted119_ren Fence.wide m:=
 ⟨fun blk off cap ss W hH hblk hsz=>callsIn_wide.2 (AnyM.slices_Sort_string Tryz.sort218 blk off cap ss W hH hblk hsz),
  fun p cap W=>callsIn_wide.2 (AnyM.slices_Sort_string_none Tryz.sort218 p cap W)⟩
theorem Tryz.maps_Keys_120 (mb:Option Nat) (W:World):CallsIn Fence.wide 5 Tryz.prog 120 #[.map mb] W fun e w'=>e=.returned (.func (.func 219) #[] #[.pointer (some ⟨W.heap.size,0,none⟩)])∧w'=W.alloc (.cells #[.map mb] 76):=
 AnyZ.keys_in Tryz.keys120 Fence.wide 5 trivial rfl mb W
set_option maxHeartbeats 1000000 in
/-- **slices.Sorted[string] AT WHAT maps.Keys[map[string]*tabor/api.Thing,string,*tabor/api.Thing] HANDED BACK FOR A MAP THAT IS NOT nil**('w':the world AHEAD of maps.Keys' call):A NEW SLICE THAT HOLDS THE MAP's KEYS,SORTED;nil just where it has none;nothing that lay before has turned. -/
theorem Tryz.slices_Sorted_keys_119_120 {H:Type} (b nn:Nat) (D0:DataW H) (R:Value→Option (DataW H×List MemPlace)) (w:World) (hown:w.ownsMap Tryz.prog 9 R b nn D0) (hmax:Maps.size D0≤maxLen) (hbytes:Maps.size D0*16≤140737488355328):
  CallsIn Fence.wide 5 Tryz.prog 119 #[.func (.func 219) #[] #[.pointer (some ⟨w.heap.size,0,none⟩)]] (w.alloc (.cells #[.map (some b)] 76)) fun e w'=>∃(v:Value) (ss:List (List UInt8)),e=.returned v∧ss.Perm (strKeys D0)∧
   w'.ownsRow (w.alloc (.cells #[.map (some b)] 76)).heap.size 9 1 v ss.length ((ss.mergeSort (fun x y=>decide (x≤y))).map encStr)∧(v=.slice none 0 0↔ss=[])∧Below (w.alloc (.cells #[.map (some b)] 76)).heap.size (w.alloc (.cells #[.map (some b)] 76)) w':=by
 have hbl:=hown.lt
 have hseq:SeqGives Fence.wide 2 Tryz.prog 219 #[.pointer (some ⟨w.heap.size,0,none⟩)] encStr (fun ss=>ss.Perm (strKeys D0)) (Maps.size D0) (w.alloc (.cells #[.map (some b)] 76)):=
  AnyZ.keys_gives (ρ:=Tryz.keys120_ren) {Tryz.keys120 with} Fence.wide _ trivial rfl (by omega) w.heap.size b nn D0 _ (by simp) (by simp) (by
   obtain⟨es,clock,hb,Ft,hs,hD⟩:=hown
   exact⟨es,clock,(Below.heap_alloc _ _ b hbl).trans hb,Ft,hs,hD⟩)
 exact AnyZ.sorted_in Tryz.sorted119 Fence.wide 5 trivial trivial trivial trivial rfl (by omega) (Tryz.sorts119 _) (enters_of Tryz.func218 (by kernel_rfl) rfl) 219 #[.pointer (some ⟨w.heap.size,0,none⟩)] trivial (enters_of Tryz.func219 (by kernel_rfl) rfl) _ _ hmax hbytes _ hseq
def Tryz.keys174_ren:Go.Shelf.Ren:=⟨fun|7=>174|10=>236|n=>n,fun|23=>189|26=>9|3=>3|28=>158|0=>0|27=>157|33=>162|4=>4|n=>n,fun|n=>n⟩
theorem Tryz.keys174:Go.Proofs.SlLaysZ.n7 Tryz.prog Tryz.keys174_ren:={
 mixed:=by kernel_rfl
 f7:=⟨Tryz.f174.name,by decide,Tryz.func174.trans (congrArg some (by kernel_rfl))⟩
 f10:=⟨Tryz.f236.name,by decide,Tryz.func236.trans (congrArg some (by kernel_rfl))⟩
 t0:=Tryz.underlying0
 a0:=Tryz.isAgg0
 z0:=Tryz.sizeOf0
 v0:=Tryz.zeroValue0
 t4:=Tryz.underlying4
 a4:=Tryz.isAgg4
 z4:=Tryz.sizeOf4
 v4:=Tryz.zeroValue4
 t23:=Tryz.underlying189
 a23:=Tryz.isAgg189
 z23:=Tryz.sizeOf189
 v23:=Tryz.zeroValue189
 t26:=Tryz.underlying9
 a26:=Tryz.isAgg9
 z26:=Tryz.sizeOf9
 v26:=Tryz.zeroValue9
 t27:=Tryz.underlying157
 a27:=Tryz.isAgg157
 z27:=Tryz.sizeOf157
 v27:=Tryz.zeroValue157
 t28:=Tryz.underlying158
 a28:=Tryz.isAgg158
 z28:=Tryz.sizeOf158
 v28:=Tryz.zeroValue158
 t33:=Tryz.underlying162
 a33:=Tryz.isAgg162
 z33:=Tryz.sizeOf162
 v33:=Tryz.zeroValue162}
theorem Tryz.maps_Keys_174 (mb:Option Nat) (W:World):CallsIn Fence.wide 5 Tryz.prog 174 #[.map mb] W fun e w'=>e=.returned (.func (.func 236) #[] #[.pointer (some ⟨W.heap.size,0,none⟩)])∧w'=W.alloc (.cells #[.map mb] 189):=
 AnyZ.keys_in Tryz.keys174 Fence.wide 5 trivial rfl mb W
set_option maxHeartbeats 1000000 in
/-- **slices.Sorted[string] AT WHAT maps.Keys[map[string]int,string,int] HANDED BACK FOR A MAP THAT IS NOT nil**('w':the world AHEAD of maps.Keys' call):A NEW SLICE THAT HOLDS THE MAP's KEYS,SORTED;nil just where it has none;nothing that lay before has turned. -/
theorem Tryz.slices_Sorted_keys_119_174 {H:Type} (b nn:Nat) (D0:DataW H) (R:Value→Option (DataW H×List MemPlace)) (w:World) (hown:w.ownsMap Tryz.prog 9 R b nn D0) (hmax:Maps.size D0≤maxLen) (hbytes:Maps.size D0*16≤140737488355328):
  CallsIn Fence.wide 5 Tryz.prog 119 #[.func (.func 236) #[] #[.pointer (some ⟨w.heap.size,0,none⟩)]] (w.alloc (.cells #[.map (some b)] 189)) fun e w'=>∃(v:Value) (ss:List (List UInt8)),e=.returned v∧ss.Perm (strKeys D0)∧
   w'.ownsRow (w.alloc (.cells #[.map (some b)] 189)).heap.size 9 1 v ss.length ((ss.mergeSort (fun x y=>decide (x≤y))).map encStr)∧(v=.slice none 0 0↔ss=[])∧Below (w.alloc (.cells #[.map (some b)] 189)).heap.size (w.alloc (.cells #[.map (some b)] 189)) w':=by
 have hbl:=hown.lt
 have hseq:SeqGives Fence.wide 2 Tryz.prog 236 #[.pointer (some ⟨w.heap.size,0,none⟩)] encStr (fun ss=>ss.Perm (strKeys D0)) (Maps.size D0) (w.alloc (.cells #[.map (some b)] 189)):=
  AnyZ.keys_gives (ρ:=Tryz.keys174_ren) {Tryz.keys174 with} Fence.wide _ trivial rfl (by omega) w.heap.size b nn D0 _ (by simp) (by simp) (by
   obtain⟨es,clock,hb,Ft,hs,hD⟩:=hown
   exact⟨es,clock,(Below.heap_alloc _ _ b hbl).trans hb,Ft,hs,hD⟩)
 exact AnyZ.sorted_in Tryz.sorted119 Fence.wide 5 trivial trivial trivial trivial rfl (by omega) (Tryz.sorts119 _) (enters_of Tryz.func218 (by kernel_rfl) rfl) 236 #[.pointer (some ⟨w.heap.size,0,none⟩)] trivial (enters_of Tryz.func236 (by kernel_rfl) rfl) _ _ hmax hbytes _ hseq
end Go.Proofs
namespace Go.Proofs.YtjnijlnmbjjgpaaGreatDoor
open Go Go.Sx C
theorem bl_lt:∀a b:List UInt8,Op.bytesLess a b=true↔a<b
 |[],[]=>by simp[Op.bytesLess]
 |a::x,[]=>by simp[Op.bytesLess]
 |[],b::y=>by simp[Op.bytesLess]
 |a::x,b::y=>by
  rw[List.cons_lt_cons_iff,←bl_lt x y]
  simp only[Op.bytesLess,Bool.or_eq_true,Bool.and_eq_true,decide_eq_true_eq,beq_iff_eq]
abbrev bytesL (b:ByteArray):List UInt8:=b.data.toList
abbrev ofL (l:List UInt8):ByteArray:=⟨l.toArray⟩
def keysHeap (h:Heap) (mb:Nat):Heap:=h.push (.cells #[.map (some mb)] 76)
theorem keysHeap_chg (h:Heap) (mb:Nat):Chg [] h (keysHeap h mb):=by
 refine⟨by simp[keysHeap],fun k hk _=>?_⟩
 unfold keysHeap
 rw[Array.getElem?_push,if_neg (by omega)]
theorem mKeys_calls {h:Heap} {mb:Nat}:CallsH Tryz.prog 120 [.map (some mb)] h (Ret fun r h'=>r=.func (.func 219) #[] #[ptr h.size]∧h'=keysHeap h mb):=by
 refine⟨by kernel_rfl,fun w hw=>?_⟩
 refine((callsIn_wide (n:=5)).1 (Tryz.maps_Keys_120 (some mb) w)).mono ?_
 rintro e w' ⟨rfl,rfl⟩
 refine⟨?_,by simp,rfl,rfl,rfl⟩
 subst hw
 exact⟨rfl,rfl⟩
def RN:Value→Option (DataW Unit×List MemPlace):=fun _=>some (.nil,[])
theorem key_reads (s:ByteArray) (hs:s.size≤1048576):keyOf Tryz.prog 9 (.string s)=some (.string (bytesL s)):=by
 have hu:Tryz.prog.underlying 9=some .string:=Tryz.underlying9
 unfold keyOf
 rw[hu]
 simp only[mapKey,hu]
 rw[if_pos]
 have:(1048576:Nat)≤maxLen:=by decide
 exact Nat.le_trans hs this
theorem rg_ent (i:KI) (hs:i.key.size≤1048576):Go.WideElems.rg Tryz.prog 9 RN i.ent=(.string (bytesL i.key),.nil):=by
 unfold Go.WideElems.rg Go.WideElems.rd
 rw[show i.ent.key=.string i.key from rfl,key_reads _ hs]
 rfl
theorem str_inj_nodup:∀{m:List KI},(m.map KI.key).Nodup→((m.map KI.ent).map (·.key)).Nodup:=by
 intro m h
 rw[List.map_map]
 have e:(MapEntry.key∘KI.ent)=Value.string∘KI.key:=rfl
 rw[e,←List.map_map]
 exact(List.Pairwise.map Value.string (fun a b (hab:a≠b)=>fun he=>hab (by simpa using he)) h)
theorem own_of {w:World} {kb sb mb c:Nat} {m:List KI} (x:KR w.heap kb sb mb c m):w.ownsMap Tryz.prog 9 RN mb m.length (.map ((((⟨m.map KI.ent⟩:Array MapEntry)).toList.map (Go.WideElems.rg Tryz.prog 9 RN)).foldr DataW.insert []):DataW Unit):=by
 have hl:=x.len
 refine⟨⟨m.map KI.ent⟩,c,x.map,⟨?_,⟨?_,?_,?_⟩,?_⟩,by simp,rfl⟩
 ·have:(65536:Nat)≤maxLen:=by decide
  simp;omega
 ·intro e he
  obtain⟨i,hi,rfl⟩:=List.mem_map.1 he
  exact x.born i hi
 ·have:((⟨m.map KI.ent⟩:Array MapEntry).toList.map (·.born))=m.map KI.born:=by simp[KI.ent,Function.comp_def]
  rw[this];exact x.borns
 ·exact str_inj_nodup x.nodup
 ·intro e he
  obtain⟨i,hi,rfl⟩:=List.mem_map.1 he
  refine⟨(.string (bytesL i.key),.nil),?_⟩
  unfold Go.WideElems.rd
  rw[show i.ent.key=.string i.key from rfl,key_reads _ (x.keys i hi)]
  rfl
theorem strKeys_perm {m:List KI} (hk:∀i∈m,i.key.size≤1048576):(strKeys (.map ((((⟨m.map KI.ent⟩:Array MapEntry)).toList.map (Go.WideElems.rg Tryz.prog 9 RN)).foldr DataW.insert []):DataW Unit)).Perm (m.map fun i=>bytesL i.key):=by
 unfold strKeys
 have h1:=Go.WideShapes.sorted_perm (((⟨m.map KI.ent⟩:Array MapEntry)).toList.map (Go.WideElems.rg Tryz.prog 9 RN))
 refine(h1.map _).trans ?_
 rw[List.map_map,List.map_map]
 refine List.Perm.of_eq (List.map_congr_left fun i hi=>?_)
 simp only[Function.comp]
 rw[rg_ent i (hk i hi)]
 rfl
theorem own_all {w:World} {kb sb mb c:Nat} {m:List KI} (x:KR w.heap kb sb mb c m):∃D:DataW Unit,w.ownsMap Tryz.prog 9 RN mb m.length D∧(strKeys D).Perm (m.map fun i=>bytesL i.key)∧Go.Maps.size D=m.length:=
 ⟨_,own_of x,strKeys_perm x.keys,by rw[Go.Maps.size_eq,Go.length_sorted];simp⟩
theorem sSorted_calls {h:Heap} {kb sb mb c:Nat} {m:List KI} (x:KR h kb sb mb c m):
  CallsH Tryz.prog 119 [.func (.func 219) #[] #[ptr h.size]] (keysHeap h mb) (Ret fun r h'=>∃L:List ByteArray,SL encS h' r L∧L.Perm (m.map KI.key)∧L.Pairwise (fun a b=>sless a b=true)∧(∀b∈vblk r,h.size<b)∧Chg [] (keysHeap h mb) h'):=by
 refine⟨by kernel_rfl,fun w hw=>?_⟩
 let w0:World:={w with heap:=h}
 have ew:w0.alloc (.cells #[.map (some mb)] 76)=w:=by
  show({w with heap:=h.push _}:World)=w
  rw[show h.push (.cells #[.map (some mb)] 76)=w.heap from hw.symm]
 have x0:KR w0.heap kb sb mb c m:=x
 have hl:=x.len
 obtain⟨D,hown,hsk,hsz⟩:=own_all x0
 have h65:(65536:Nat)≤maxLen:=by decide
 have key:=Tryz.slices_Sorted_keys_119_120 (H:=Unit) mb m.length D RN w0 hown (by omega) (by omega)
 rw[ew]at key
 refine((callsIn_wide (n:=5)).1 key).mono ?_
 rintro e w' ⟨v,ss,rfl,hp,hrow,hnil,hb⟩
 refine⟨?_,by simp,hb.os,hb.output,hb.tape⟩
 have hperm:ss.Perm (m.map fun i=>bytesL i.key):=hp.trans hsk
 have hms:(ss.mergeSort leB).Perm (m.map fun i=>bytesL i.key):=(List.mergeSort_perm ss leB).trans hperm
 have tr:∀a b c:List UInt8,leB a b=true→leB b c=true→leB a c=true:=fun a b c h1 h2=>by simp only[leB,decide_eq_true_eq]at*;exact List.le_trans h1 h2
 have to:∀a b:List UInt8,(leB a b||leB b a)=true:=fun a b=>by simp only[leB,Bool.or_eq_true,decide_eq_true_eq];exact List.le_total a b
 have hpw:(ss.mergeSort leB).Pairwise (fun a b=>leB a b=true):=List.pairwise_mergeSort tr to ss
 have hnd:(ss.mergeSort leB).Nodup:=by
  refine hms.symm.nodup ?_
  have:(m.map fun i=>bytesL i.key)=(m.map KI.key).map bytesL:=by rw[List.map_map];rfl
  rw[this]
  exact List.Pairwise.map bytesL (fun a b (hab:a≠b)=>fun he=>hab (by cases a;cases b;simp_all [bytesL])) x.nodup
 have hsize:w.heap.size=h.size+1:=by rw[hw];simp[keysHeap]
 refine⟨(ss.mergeSort leB).map ofL,?_,?_,?_,?_,?_⟩
 ·-- the slice
  obtain⟨hlen,hr⟩:=hrow
  have hsl:(ss.mergeSort leB).length=ss.length:=(List.mergeSort_perm ss leB).length_eq
  rcases hr with⟨rfl,hn⟩|⟨g,cap,cur,rfl,hg,hcur,hcap,hmax,hcs,htk⟩
  ·have:(ss.mergeSort leB).map ofL=[]:=by rw[List.map_eq_nil_iff];exact List.length_eq_zero_iff.1 (hsl.trans hn)
   rw[this];exact SL.nil
  ·refine⟨some ⟨g,0,none⟩,cap,by rw[List.length_map,hsl],by rw[List.length_map,hsl];exact hcap,?_⟩
   intro i v hv
   have hfm:∀l:List (List UInt8),(l.map ofL).flatMap encS=l.map encStr:=by
    intro l
    induction l with
    |nil=>rfl
    |cons a l ih=>rw[List.map_cons,List.flatMap_cons,ih];rfl
   rw[hfm]at hv
   have htk':cur.toList.take (ss.length*1)=(ss.mergeSort leB).map encStr:=htk
   rw[←htk']at hv
   rw[Nat.zero_add]
   unfold Sx.cell
   rw[hcur]
   simp only
   rw[List.getElem?_take]at hv
   split at hv
   ·simpa using hv
   ·cases hv
 ·have:m.map KI.key=(m.map fun i=>bytesL i.key).map ofL:=by rw[List.map_map];rfl
  rw[this]
  exact hms.map _
 ·refine List.Pairwise.map ofL (fun a b (hab:leB a b=true∧a≠b)=>?_) (hpw.and hnd)
  rw[sless_data,bl_lt]
  show a<b
  obtain⟨h1,h2⟩:=hab
  simp only[leB,decide_eq_true_eq]at h1
  have hb:Op.bytesLess b a≠true:=fun h=>h1 ((bl_lt b a).1 h)
  rcases bl_total h2 with h|h
  ·exact(bl_lt a b).1 h
  ·exact absurd h hb
 ·intro b hb'
  obtain⟨_,hr⟩:=hrow
  rcases hr with⟨rfl,_⟩|⟨g,cap,cur,rfl,hg,_⟩
  ·simp[vblk,ablk]at hb'
  ·simp[vblk,ablk]at hb'
   subst hb'
   omega
 ·refine⟨by rw[←hw];exact hb.size,fun k hk _=>?_⟩
  rw[←hw]at hk⊢
  exact hb.block k hk
theorem yield_ret {P:Program} {l:Nat} {vs:List Value} {h:Heap} {Q K:Value→Heap→Prop} {Qp:List PanicEntry→Heap→Prop} (hc:YieldH P l vs h (Ret Q)) (hk:∀v h',Q v h'→K v h'):
  YieldH P l vs h (after K Qp):=
 hc.mono fun e h' he=>by cases e<;>first|exact hk _ _ he|exact he.elim
structure Sorted (m:List KI) (W:List (ByteArray×Thing)):Prop where
 up:W.Pairwise fun a b=>sless a.1 b.1=true
 mem:∀p,p∈W↔p∈m.map KI.pr
theorem sless_asymm (a b:ByteArray) (h:sless a b=true):¬sless b a=true:=fun h2=>by
 have:=sless_trans h h2
 rw[sless_irrefl]at this;cases this
theorem sorted_keys {m:List KI} {W:List (ByteArray×Thing)} {L:List ByteArray} (hW:Sorted m W) (hp:L.Perm (m.map KI.key)) (hl:L.Pairwise fun a b=>sless a b=true):L=W.map Prod.fst:=by
 refine up_ext (lt:=fun a b=>sless a b=true) sless_asymm hl (List.Pairwise.map Prod.fst (fun _ _ h=>h) hW.up) fun x=>?_
 rw[hp.mem_iff,List.mem_map,List.mem_map]
 constructor
 ·rintro⟨i,hi,rfl⟩
  exact⟨i.pr,(hW.mem _).2 (List.mem_map_of_mem hi),rfl⟩
 ·rintro⟨p,hp,rfl⟩
  obtain⟨i,hi,rfl⟩:=List.mem_map.1 ((hW.mem _).1 hp)
  exact⟨i,hi,rfl⟩
theorem SL.keep {α:Type} {enc:α→List Value} {h h':Heap} {v:Value} {l:List α} (hs:SL enc h v l) (hk:∀b∈vblk v,h'[b]? =h[b]?):SL enc h' v l:=by
 obtain⟨a,c,rfl,h1,h2⟩:=hs
 refine⟨a,c,rfl,h1,?_⟩
 cases a with
 |none=>exact h2
 |some a=>
  obtain⟨b,o,sp⟩:=a
  cases sp with
  |some q=>exact h2
  |none=>
   intro i v hv
   have:=h2 i v hv
   unfold Sx.cell at this⊢
   rw[hk b (by simp[vblk,ablk])];exact this
theorem iter_calls {h:Heap} {l b1 kb sb mb c:Nat} {m:List KI} {W:List (ByteArray×Thing)} (hW:Sorted m W) (J:Nat→Nat→Heap→Prop) (Je:Heap→Prop) (B0:Blk h b1 [ptr kb]) (kr0:KR h kb sb mb c m)
  (hJ:∀p h',h.size≤p→p<h'.size→Chg [] h h'→J p 0 h')
  (hB:∀p k h',J p k h'→Blk h' b1 [ptr kb]∧KR h' kb sb mb c m) (hext:∀p k h' h'',J p k h'→Chg [] h' h''→J p k h'')
  (hy:∀p k h' us (hk:k<W.length),J p k h'→TH h' us W[k].2→YieldH Tryz.prog l [.string W[k].1,.agg ⟨us⟩] h' (Ret fun v h''=>(v=.bool true∧J p (k+1) h''∧h''[p]? =h'[p]?)∨(v=.bool false∧Je h''))):
  CallsH Tryz.prog 118 [.func (.yield l) #[] #[],ptr b1] h (Ret fun _ h'=>(∃p,J p W.length h')∨Je h'):=by
 refine f118_calls (by simp) ?_
 refine Ei _ (Ai (cell_blk B0 rfl) ?_)
 refine call_ret (none_calls kr0.ks) ?_
 rintro _ h9 ⟨rfl,e9⟩
 have e9:=e9.symm
 subst e9
 refine Ei _ (Ai (cell_blk B0 rfl) (Ei _ (Ai (cell_blk kr0.ks.k rfl) (Ei _ (Ai (cell_blk kr0.ks.s rfl) ?_)))))
 refine call_ret mKeys_calls ?_
 rintro _ h2 ⟨rfl,rfl⟩
 refine call_ret (sSorted_calls kr0) ?_
 rintro v h3 ⟨L,hsl,hperm,hpw,hfr,hc3⟩
 have hL:=sorted_keys hW hperm hpw
 have hWl:W.length≤65536:=by
  have h1:=hperm.length_eq
  rw[hL]at h1
  simp at h1
  have:=kr0.len
  omega
 obtain⟨a,cc,rfl,hcc⟩:=hsl.form
 have hLl:L.length=W.length:=by rw[hL];simp
 have hc03:Chg [] h h3:=(keysHeap_chg h mb).nil hc3
 have hz:h.size<h3.size:=by have:=hc3.size;simp[keysHeap]at this;omega
 obtain⟨p,hp1,hp2,hp3⟩:∃p,h.size≤p∧p<h3.size∧(0<L.length→∀b∈ablk a,b=p):=by
  by_cases h0:L.length=0
  ·exact⟨h.size,Nat.le_refl _,hz,fun h=>by omega⟩
  ·obtain⟨b,o,e⟩:=hsl.addr (by omega)
   cases e
   have hcs:=hsl.cells encS_len (i:=0) (x:=L[0]'(by omega)) (by simp)
   have:=cell_lt (hcs 0 _ rfl)
   exact⟨b,by have:=hfr b (by simp[vblk,ablk]);omega,this,by simp[ablk]⟩
 refine loop_intro (fun k:Nat=>[(0,.func (.yield l) #[] #[]),(1,ptr b1),(16,.slice a L.length cc),(17,.int .i64 L.length),(18,.int .i64 k)]) (fun k h'=>k≤W.length∧J p k h'∧SL encS h' (.slice a L.length cc) L) (fun k=>W.length-k) 0
  ⟨rfl,rfl,rfl,rfl,rfl,trivial⟩ ⟨Nat.zero_le _,hJ p h3 hp1 hp2 hc03,hsl⟩ ?_
 rintro k h4 ⟨hk,hJ4,hs4⟩
 obtain⟨B4,kr4⟩:=hB p k h4 hJ4
 refine Ai rfl (Ai (fun ht=>?_) (fun ht=>?_))
 ·have hlt:k<W.length:=by omega
  have hltL:k<L.length:=by omega
  obtain⟨b,o,rfl⟩:=hs4.addr (by omega)
  have hcs:=hs4.cells encS_len (i:=k) (x:=L[k]) (by simp[hltL])
  have hLk:L[k]=W[k].1:=by
   have:L[k]? =(W.map Prod.fst)[k]? :=by rw[←hL]
   rw[List.getElem?_eq_getElem hltL,List.getElem?_map,List.getElem?_eq_getElem hlt]at this
   simpa using this
  rw[hLk]at hcs
  refine Ai (by omega) (Ai (by omega) (Ei _ (Ai (hcs 0 _ rfl) ?_)))
  refine Ei _ (Ai (cell_blk B4 rfl) (Ei _ (Ai (cell_blk kr4.ks.k rfl) (Ei _ (Ai (cell_blk kr4.ks.s rfl) ?_)))))
  refine Ai rfl (Ei (m.map KI.ent) (Ei c (Ai kr4.map (Ai (ents_fit m) ?_))))
  obtain⟨i,hi,hip⟩:=List.mem_map.1 ((hW.mem W[k]).1 (List.getElem_mem hlt))
  have hik:i.key=W[k].1:=congrArg Prod.fst hip
  have hit:i.thing=W[k].2:=congrArg Prod.snd hip
  rcases mfind_ents W[k].1 m 0 with⟨_,hno⟩|⟨j,i',hmf,hj,hik'⟩
  ·exact absurd hik (hno i hi)
  have hi':i'∈m:=List.mem_of_getElem? hj
  have ei:i'=i:=by
   have hnd:=kr4.nodup
   have:∀{m:List KI},(m.map KI.key).Nodup→i∈m→i'∈m→i'.key=i.key→i'=i:=by
    intro m
    induction m with
    |nil=>intro _ h;simp at h
    |cons x m ih=>
     intro hn h1 h2 he
     rw[List.map_cons,List.nodup_cons]at hn
     rcases List.mem_cons.1 h1 with e1|g1
     ·rcases List.mem_cons.1 h2 with e2|g2
      ·rw[e1,e2]
      ·refine absurd ?_ hn.1
       rw[←e1,←he];exact List.mem_map_of_mem g2
     ·rcases List.mem_cons.1 h2 with e2|g2
      ·refine absurd ?_ hn.1
       rw[←e2,he];exact List.mem_map_of_mem g1
      ·exact ih hn.2 g1 g2 he
   exact this hnd hi hi' (hik'.trans hik.symm)
  subst ei
  rw[hmf]
  obtain⟨Bi,ti,ni⟩:=kr4.here i' hi
  refine Ei i'.vs (Ai ti.len (Ai (cells_blk Bi) ?_))
  refine call_ret (copied_calls ti ni) ?_
  rintro _ h5 ⟨⟨us,rfl,tu,hus⟩,hc5⟩
  rw[hit]at tu
  refine yield_ret (hy p k h5 us hlt (hext p k _ _ hJ4 hc5) tu) ?_
  rintro r h6 (⟨rfl,hJ6,hp6⟩|⟨rfl,hJe⟩)
  ·refine Ai rfl (fun z hz=>?_)
   have hz:=add_in hz (by omega) (by omega)
   subst hz
   refine Ai rfl (Ei (k+1) (Ai ?_ (Ai ?_ ?_)))
   ·exact⟨rfl,rfl,rfl,rfl,rfl,trivial⟩
   ·refine⟨by omega,hJ6,SL.keep (hs4.ext hc5) fun b' hb'=>?_⟩
    rw[hp3 (by omega) b' hb'];exact hp6
   ·omega
  ·exact .inr hJe
 ·have hlt:k=W.length:=by omega
  subst hlt
  exact .inl ⟨p,hJ4⟩
theorem All_calls {h:Heap} {kb:Nat}:CallsH Tryz.prog 52 [ptr kb] h (Ret fun u h'=>∃b1,u=.func (.func 118) #[] #[ptr b1]∧Grow h h' b1 [ptr kb]):=by
 refine f52_calls (by simp) ?_
 intro b1 h1 g1
 exact⟨b1,rfl,g1⟩
theorem loopB_chg {S:List Nat} {h h':Heap} {l:Nat} {r:Loop} {st:LoopState} {p:Option Go.Code} (hl:LoopB h l r st p) (hc:Chg S h h') (hn:l∉S):LoopB h' l r st p:=⟨get_chg hl.at_ hc hn⟩
structure Eff where
 op:Int
 key:ByteArray
 name:ByteArray
 text:ByteArray
 num:Int
def encD (e:Eff):List Value:=[.int .i64 e.op,.string e.key,.string e.name,.string e.text,.int .i64 e.num]
theorem encD_len (e:Eff):(encD e).length=5:=rfl
theorem encD_one (e:Eff):∀u∈encD e,u.oneCell'=true:=by
 intro u hu
 simp only[encD,List.mem_cons,List.not_mem_nil,or_false]at hu
 rcases hu with rfl|rfl|rfl|rfl|rfl<;>rfl
structure XFit (l:List RX):Prop where
 len:l.length<4611686018427387904
 keys:∀x∈l,x.key.size<4611686018427387904
 fits:∀x∈l,Fits x.thing
 sized:∀x∈l,Sized x.thing
def OfR (h:Heap) (l:List RX) (r:Value) (h':Heap):Prop:=Chg [] h h'∧match ofX [] l with
 |none=>r=.tuple #[.slice none 0 0,.int .i64 2]
 |some k=>∃u,r=.tuple #[u,.int .i64 0]∧OL encX 8 h' u k∧∀b∈vblk u,h.size≤b
theorem ofR_bad {h h':Heap} {l:List RX} (hc:Chg [] h h') (hn:ofX [] l=none):OfR h l (.tuple #[.slice none 0 0,.int .i64 2]) h':=by
 refine⟨hc,?_⟩
 rw[hn]
theorem ROf_calls {h:Heap} {v:Value} {l:List RX} (hv:SL encX h v l) (g:GX h l) (nv:NVast l):
  CallsH Tryz.prog 24 [v] h (Ret (OfR h l)):=by
 have hl:=nv.len
 obtain⟨a,c,rfl,hlc⟩:=hv.form
 refine f24_calls (by simp) ?_
 refine loop_intro (fun i:Nat×Option Addr×Nat×List RX=>[(0,.slice a l.length c),(4,.slice i.2.1 i.2.2.2.length i.2.2.1),(5,.int .i64 i.1)])
  (fun i h'=>i.1≤l.length∧Chg [] h h'∧OL encX 8 h' (.slice i.2.1 i.2.2.2.length i.2.2.1) i.2.2.2∧(∀b∈ablk i.2.1,h.size≤b)∧ofX [] l=ofX i.2.2.2 (l.drop i.1)∧i.2.2.2.length≤i.1∧KeysFit i.2.2.2) (fun i=>l.length-i.1) (0,none,0,[])
  ⟨rfl,rfl,rfl,trivial⟩ ⟨Nat.zero_le _,Chg.refl h,OL.nil,by simp[ablk],rfl,Nat.le_refl _,by intro x hx;simp at hx⟩ ?_
 rintro⟨k,a2,c2,acc⟩ h1 ⟨hk,hc1,ho,hfr,hof,hal,hkf⟩
 simp only at hk ho hfr hof hal hkf
 have hv1:=hv.ext hc1
 refine Ai rfl (Ai (fun ht=>?_) (fun ht=>?_))
 ·have hlt:k<l.length:=by omega
  obtain⟨b,o,rfl⟩:=hv1.addr (by omega)
  have hcs:=hv1.cells encX_len (i:=k) (x:=l[k]) (by simp[hlt])
  have hdr:l.drop k=l[k]::l.drop (k+1):=List.drop_eq_getElem_cons hlt
  have hmem:l[k]∈l:=List.getElem_mem hlt
  have hkz:=nv.keys _ hmem
  rw[hdr]at hof
  refine Ai (by omega) (Ai (by omega) (Ei _ (Ai (hcs 0 _ rfl) ?_)))
  refine call_ret (Find_calls l[k].key ho.sl (by omega) (by omega) hkf) ?_
  rintro _ h9 ⟨rfl,e9⟩
  have e9:=e9.symm
  subst e9
  cases hb:(findX l[k].key acc).2 with
  |true=>exact ofR_bad hc1 (by rw[hof,ofX,if_pos (.inl hb)])
  |false=>
   refine Ai (by omega) (Ai (by omega) (Ei _ (Ai (hcs 0 _ rfl) ?_)))
   refine Ai rfl (Ai (fun big=>absurd big (by omega)) (fun _=>?_))
   refine Ai (by omega) (Ai (by omega) (Ei l[k].vs (Ai l[k].len (Ai (cells_vs hcs) ?_))))
   refine call_ret (RCheck_calls ((g.ext hc1) _ hmem) (nv.small _ hmem)) ?_
   rintro r2 h2 ⟨hr2,hc2⟩
   cases hko:kOK l[k].thing with
   |false=>
    rw[hko]at hr2
    subst hr2
    exact ofR_bad (hc1.nil hc2) (by rw[hof,ofX,if_pos (.inr hko)])
   |true=>
    rw[hko]at hr2
    subst hr2
    have hcs2:=(hv1.ext hc2).cells encX_len (i:=k) (x:=l[k]) (by simp[hlt])
    refine Ai (by omega) (Ai (by omega) (Ei _ (Ai (hcs2 0 _ rfl) ?_)))
    refine Ai (by omega) (Ai (by omega) (Ei l[k].vs (Ai l[k].len (Ai (cells_vs hcs2) ?_))))
    refine call_ret (Put_calls l[k] (ho.ext hc2).sl (by omega) (by omega) hkf) ?_
    rintro v3 h3 ⟨ho3,hb3,hc3⟩
    obtain⟨a3,c3,rfl,hcc3⟩:=ho3.sl.form
    have hpl:=putX_len acc l[k]
    refine Ai rfl (fun z hz=>?_)
    have hz:=add_in hz (by omega) (by omega)
    subst hz
    refine Ai rfl (Ei (k+1,a3,c3,putX acc l[k]) (Ai ?_ (Ai ?_ ?_)))
    ·exact⟨rfl,rfl,rfl,trivial⟩
    ·have z1:=hc1.size
     have z2:=hc2.size
     refine⟨by simp only;omega,(hc1.nil hc2).nil hc3,ho3,fun b hb=>by have:=hb3 b hb;omega,?_,by simp only;omega,fun x hx=>?_⟩
     ·rw[hof,ofX,if_neg]
      rintro(h|h)
      ·rw[hb]at h;cases h
      ·rw[hko]at h;cases h
     ·have hx:x∈putX acc l[k]:=hx
      unfold putX at hx
      rcases List.mem_append.1 hx with hx|hx
      ·rcases List.mem_append.1 hx with hx|hx
       ·exact hkf x (List.mem_of_mem_take hx)
       ·simp at hx
        subst hx
        omega
      ·exact hkf x (List.mem_of_mem_drop hx)
    ·simp only;omega
 ·have hkl:k=l.length:=by omega
  subst hkl
  refine Ai rfl (Ai (fun big=>absurd big (by omega)) (fun _=>?_))
  refine⟨hc1,?_⟩
  rw[hof,List.drop_length,ofX]
  exact⟨_,rfl,ho,hfr⟩
theorem sorted_of {m:List KI} {l k:List RX} (hpr:m.map KI.pr=l.map RX.pr) (hk:ofX [] l=some k):Sorted m (k.map RX.pr):=by
 obtain⟨h1,h2,_⟩:=ofX_ok (acc:=[]) List.Pairwise.nil hk
 refine⟨List.Pairwise.map RX.pr (fun _ _ h=>h) h1,fun p=>?_⟩
 rw[hpr,List.mem_map,List.mem_map]
 constructor
 ·rintro⟨x,hx,rfl⟩
  exact⟨x,by simpa using(h2 x).1 hx,rfl⟩
 ·rintro⟨x,hx,rfl⟩
  exact⟨x,(h2 x).2 (by simp[hx]),rfl⟩
section
variable {α:Type} {eq lt:α→Bool} {y:α}
end
section
variable {α:Type} {nm:α→ByteArray} {name:ByteArray}
theorem sless_no {a b:ByteArray} (h:sless a b=true):sless b a=false:=by
 cases hb:sless b a with
 |false=>rfl
 |true=>exact absurd hb (sless_asymm a b h)
end
theorem ahead_tr (a b c:Rank) (h1:aheadR a b=true) (h2:aheadR b c=true):aheadR a c=true:=by
 simp only[aheadR,Bool.or_eq_true,decide_eq_true_eq,Bool.and_eq_true]at h1 h2⊢
 rcases h1 with h1|⟨h1,h1'⟩<;>rcases h2 with h2|⟨h2,h2'⟩
 ·left;omega
 ·left;omega
 ·left;omega
 ·right;exact⟨by omega,sless_trans h1' h2'⟩
structure TGood (t:Thing):Prop where
 ps:t.pairs.Pairwise fun a b=>sless a.name b.name=true
 ls:t.kind=4→t.list.Pairwise fun a b=>sless a b=true
 rs:t.ranks.Pairwise fun a b=>aheadR a b=true
 once:(t.ranks.map Rank.name).Nodup
 only:t.kind=3→t.pairs=[]∧t.ranks=[]
 few:countT t≤65536
end Go.Proofs.YtjnijlnmbjjgpaaGreatDoor

namespace Go.Proofs.YtjnijlnmbjjgpaaGreatDoor
open Go Go.Sx C
abbrev Space:=List (ByteArray×Thing)
def findS (S:Space) (key:ByteArray):Option Thing:=(S.find? fun p=>decide (p.1=key)).map (·.2)
def UpS (S:Space):Prop:=S.Pairwise fun a b=>sless a.1 b.1=true
theorem up_inj {S:Space} (hu:UpS S) {p q:ByteArray×Thing} (hp:p∈S) (hq:q∈S) (h:p.1=q.1):p=q:=by
 induction S with
 |nil=>simp at hp
 |cons x S ih=>
  have hx:=List.pairwise_cons.1 hu
  rcases List.mem_cons.1 hp with e1|hp
  ·rcases List.mem_cons.1 hq with e2|hq
   ·rw[e1,e2]
   ·have:=hx.1 q hq
    rw[←e1,h,sless_irrefl]at this;cases this
  ·rcases List.mem_cons.1 hq with e2|hq
   ·have:=hx.1 p hp
    rw[←e2,h,sless_irrefl]at this;cases this
   ·exact ih hx.2 hp hq
theorem findS_some {S:Space} (hu:UpS S) {key:ByteArray} {t:Thing} (h:(key,t)∈S):findS S key=some t:=by
 unfold findS
 cases hf:S.find? fun p=>decide (p.1=key)with
 |none=>
  have:=List.find?_eq_none.1 hf _ h
  simp at this
 |some p=>
  have h1:=List.find?_some hf
  have h2:=List.mem_of_find?_eq_some hf
  have:p=(key,t):=up_inj hu h2 h (by simpa using h1)
  rw[this];rfl
theorem findS_none {S:Space} {key:ByteArray} (h:∀p∈S,p.1≠key):findS S key=none:=by
 unfold findS
 rw[List.find?_eq_none.2 fun p hp=>by simpa using h p hp]
 rfl
theorem findS_mem {S:Space} {key:ByteArray} {t:Thing} (h:findS S key=some t):(key,t)∈S:=by
 unfold findS at h
 cases hf:S.find? fun p=>decide (p.1=key)with
 |none=>rw[hf]at h;cases h
 |some p=>
  rw[hf]at h
  have h1:p.1=key:=by simpa using List.find?_some hf
  have h2:=List.mem_of_find?_eq_some hf
  have h3:p.2=t:=by simpa using h
  rw[←h1,←h3];exact h2
theorem TGood.zero (k:Int):TGood {zeroT with kind:=k}:=
 ⟨List.Pairwise.nil,fun _=>List.Pairwise.nil,List.Pairwise.nil,List.nodup_nil,fun _=>⟨rfl,rfl⟩,by show(0:Nat)+0+0≤65536;omega⟩
structure TIn (t:Thing):Prop where
 good:TGood t
 some:t.kind=3→t.list≠[]
def InS (S:Space):Prop:=∀p∈S,TIn p.2
theorem mem_pr {m:List KI} {p:ByteArray×Thing}:p∈m.map KI.pr↔∃i∈m,i.key=p.1∧i.thing=p.2:=by
 rw[List.mem_map]
 constructor
 ·rintro⟨i,hi,rfl⟩;exact⟨i,hi,rfl,rfl⟩
 ·rintro⟨i,hi,h1,h2⟩;exact⟨i,hi,by cases p;simp_all [KI.pr]⟩
theorem LookK_calls {h:Heap} {kb sb mb c:Nat} {m:List KI} (key:ByteArray) (x:KR h kb sb mb c m):
  CallsH Tryz.prog 110 [ptr kb,.string key] h (Ret fun r h'=>((∃i∈m,i.key=key∧∃pv lv rv,r=.tuple #[.agg ⟨cellsT i.thing pv lv rv⟩,.bool true]∧TO h' pv lv rv i.thing∧∀b∈bl3 pv lv rv,h.size≤b)∨
   ((∀i∈m,i.key≠key)∧r=.tuple #[.agg ⟨zeroV⟩,.bool false]))∧Chg [] h h'):=by
 rcases mfind_ents key m 0 with⟨hmf,hno⟩|⟨j,i,hmf,hj,hik⟩
 ·refine(Look_none x.ks x.map (ents_fit m) hmf).mono fun e h' he=>?_
  cases e with
  |returned v=>exact⟨.inr ⟨hno,he.1⟩,he.2⟩
  |panicked ch=>exact he.elim
  |outgrown=>exact he.elim
 have hi:i∈m:=List.mem_of_getElem? hj
 obtain⟨Bi,ti,ni⟩:=x.here i hi
 refine f110_calls (by simp) ?_
 intro b4 h1 g1
 have hc:=g1.chg
 have x1:=x.ext hc
 refine call_ret (none_calls x1.ks) ?_
 rintro _ h9 ⟨rfl,e9⟩
 have e9:=e9.symm
 subst e9
 refine Ei _ (Ai (cell_blk x1.ks.k rfl) (Ei _ (Ai (cell_blk x1.ks.s rfl) ?_)))
 refine Ai rfl (Ei (m.map KI.ent) (Ei c (Ai x1.map (Ai (ents_fit m) ?_))))
 rw[hmf]
 refine Ei _ (Ai (cell_blk x1.ks.k rfl) (Ei _ (Ai (cell_blk x1.ks.s rfl) ?_)))
 refine Ai rfl (Ei (m.map KI.ent) (Ei c (Ai x1.map (Ai (ents_fit m) ?_))))
 rw[hmf]
 have B1:=Bi.chg hc (by simp)
 have t1:=ti.ext hc
 refine Ei i.vs (Ai t1.len (Ai (cells_blk B1) ?_))
 refine call_ret (copied_own t1 ni) ?_
 rintro _ h2 ⟨⟨pv,lv,rv,rfl,o2,fr⟩,hc2⟩
 have Bz:Blk h2 b4 zeroV:=(show Blk h1 b4 zeroV from g1.blk).chg hc2 (by simp)
 refine Ei _ (Ai Bz (Ai (by decide) (Ai rfl (Ai (thing_one o2.th) ?_))))
 intro h3 p3
 have i4:=g1.id
 have z4:=g1.size
 have B3:Blk h3 b4 (cellsT i.thing pv lv rv):=p3.blk
 refine Ei _ (Ai rfl (Ai (cells_blk B3) ?_))
 refine Ai (.inl ⟨i,hi,hik,pv,lv,rv,rfl,o2.chg p3.chg (fun b hb=>by have:=fr b hb;simp;omega),fun b hb=>by have:=fr b hb;omega⟩) ((hc.nil hc2).fresh p3.chg (by simp;omega))
end Go.Proofs.YtjnijlnmbjjgpaaGreatDoor




namespace Go.Proofs.YtjnijlnmbjjgpaaGreatDoor
open Go Go.Sx C
structure Named (t:Thing):Prop where
 ps:∀x∈t.pairs,x.name.size<4611686018427387904
 ls:∀x∈t.list,x.size<4611686018427387904
 rs:∀x∈t.ranks,x.name.size<4611686018427387904
theorem pr_up {l:List RX} (hu:UpX l):UpS (l.map RX.pr):=List.Pairwise.map RX.pr (fun _ _ h=>h) hu
theorem find_yes {l:List RX} (hu:UpX l) {key:ByteArray} {i:Nat} (hi:i<l.length) (hk:l[i].key=key):findS (l.map RX.pr) key=some l[i].thing:=by
 refine findS_some (pr_up hu) (List.mem_map.2 ⟨l[i],List.getElem_mem hi,?_⟩)
 unfold RX.pr;rw[hk]
theorem find_no {l:List RX} (hu:UpX l) {key:ByteArray} (hb:(findX key l).2=false):findS (l.map RX.pr) key=none:=by
 refine findS_none fun p hp=>?_
 obtain⟨x,hx,rfl⟩:=List.mem_map.1 hp
 intro hk
 rw[findX_has hu ⟨x,hx,hk⟩]at hb
 cases hb
structure RG (l:List RX):Prop where
 up:UpX l
 len:l.length≤65536
 fit:KeysFit l
 tin:∀x∈l,TIn x.thing
 nm:∀x∈l,Named x.thing
theorem RG.ins {l:List RX} (g:RG l):InS (l.map RX.pr):=by
 intro p hp
 obtain⟨x,hx,rfl⟩:=List.mem_map.1 hp
 exact g.tin x hx
def getS (S:Space) (key:ByteArray) (now:Int):Option Thing:=match findS S key with
 |some t=>if goneT t now=true then none else some t
 |none=>none
theorem look_find {l:List RX} (hu:UpX l) (key:ByteArray):lookX l key=findS (l.map RX.pr) key:=by
 unfold lookX
 cases hb:(findX key l).2 with
 |true=>
  obtain⟨hlt,hk⟩:=findX_hit key l hb
  rw[if_pos rfl,find_yes hu hlt hk,List.getElem?_eq_getElem hlt]
  rfl
 |false=>rw[if_neg (by simp),find_no hu hb]
theorem get_get {l:List RX} (hu:UpX l) (key:ByteArray) (now:Int):getX l key now=getS (l.map RX.pr) key now:=by
 unfold getX getS
 rw[look_find hu]
 all_goals rfl
theorem find_mem {m:List KI} {S:Space} (hs:Sorted m S) {i:KI} (hi:i∈m):findS S i.key=some i.thing:=
 findS_some hs.up ((hs.mem _).2 (mem_pr.2 ⟨i,hi,rfl,rfl⟩))
theorem find_out {m:List KI} {S:Space} (hs:Sorted m S) {key:ByteArray} (hno:∀i∈m,i.key≠key):findS S key=none:=by
 cases hf:findS S key with
 |none=>rfl
 |some t=>
  obtain⟨i,hi,h1,h2⟩:=mem_pr.1 ((hs.mem _).1 (findS_mem hf))
  exact absurd h1 (hno i hi)
theorem KGet_calls {h:Heap} {kb sb mb c:Nat} {m:List KI} {S:Space} (key:ByteArray) (now:Int) (x:KR h kb sb mb c m) (hs:Sorted m S):
  CallsH Tryz.prog 45 [ptr kb,.string key,.int .i64 now] h (Ret fun r h'=>(∃us,r=.tuple #[.agg ⟨us⟩,.bool (getS S key now).isSome]∧TH h' us ((getS S key now).getD zeroT))∧Chg [] h h'):=by
 obtain⟨go,hgo⟩:∃go,go=getS S key now:=⟨_,rfl⟩
 rw[←hgo]
 refine f45_calls (by simp) ?_
 intro b6 h1 g1
 have c1:=g1.chg
 have i6:=g1.id
 have z1:=g1.size
 have B6:Blk h1 b6 zeroV:=g1.blk
 refine call_ret (LookK_calls key (x.ext c1)) ?_
 rintro _ h2 ⟨hlook,c2⟩
 have z2:=c2.size
 rcases hlook with⟨i,hi,hik,pv,lv,rv,rfl,o2,fr⟩|⟨hno,rfl⟩
 ·have hfs:findS S key=some i.thing:=by rw[←hik];exact find_mem hs hi
  intro b8 h3 g3
  refine Ei zeroV (Ai g3.blk (Ai (by decide) (Ai rfl (Ai (thing_one o2.th) ?_))))
  intro h4 p4
  have g4:=g3.put p4
  have B8:Blk h4 b8 (cellsT i.thing pv lv rv):=p4.blk
  have o4:=o2.ext g4.chg
  have c14:Chg [] h1 h4:=c2.nil g4.chg
  refine Ei _ (Ai rfl (Ai (cells_blk B8) ?_))
  refine call_ret (gone_calls o4.th now) ?_
  rintro _ h5 ⟨rfl,c5⟩
  have c15:=c14.nil c5
  have o5:=o4.ext c5
  have B65:=B6.chg c15 (by simp)
  have B85:=B8.chg c5 (by simp)
  cases hg:(i.thing.hasU&&decide (i.thing.unt≤now))with
  |true=>
   have e:go=none:=by rw[hgo];unfold getS;rw[hfs];simp only;rw[if_pos (show goneT i.thing now=true from hg)]
   subst e
   refine Ei zeroV (Ai B65 (Ai (by decide) (Ai rfl (Ai (thing_one (zero_TH (h:=h5))) ?_))))
   intro h6 p6
   have B66:Blk h6 b6 zeroV:=p6.blk
   refine Ei zeroV (Ai rfl (Ai (cells_blk B66) ?_))
   exact Ai (Ei zeroV (Ai rfl zero_TH)) ((c1.nil c15).fresh p6.chg (by simp;omega))
  |false=>
   have e:go=some i.thing:=by rw[hgo];unfold getS;rw[hfs];simp only;rw[if_neg (by unfold goneT;rw[hg];simp)]
   subst e
   refine Ei _ (Ai rfl (Ai (cells_blk B85) ?_))
   refine Ei zeroV (Ai B65 (Ai (by decide) (Ai rfl (Ai (thing_one o5.th) ?_))))
   intro h6 p6
   have B66:Blk h6 b6 (cellsT i.thing pv lv rv):=p6.blk
   have o6:=o5.chg p6.chg (fun b hb=>by have:=fr b hb;simp;omega)
   refine Ei _ (Ai rfl (Ai (cells_blk B66) ?_))
   exact Ai (Ei _ (Ai rfl o6.th)) ((c1.nil c15).fresh p6.chg (by simp;omega))
 ·have e:go=none:=by rw[hgo];unfold getS;rw[find_out hs hno]
  subst e
  intro b8 h3 g3
  refine Ei zeroV (Ai g3.blk (Ai (by decide) (Ai rfl (Ai (thing_one (zero_TH (h:=h3))) ?_))))
  intro h4 p4
  have g4:=g3.put p4
  have c14:Chg [] h1 h4:=c2.nil g4.chg
  have B64:=B6.chg c14 (by simp)
  refine Ei zeroV (Ai B64 (Ai (by decide) (Ai rfl (Ai (thing_one (zero_TH (h:=h4))) ?_))))
  intro h6 p6
  have B66:Blk h6 b6 zeroV:=p6.blk
  refine Ei zeroV (Ai rfl (Ai (cells_blk B66) ?_))
  exact Ai (Ei zeroV (Ai rfl zero_TH)) ((c1.nil c14).fresh p6.chg (by simp;omega))
theorem turn_ch {h h':Heap} {l:Nat} {r:Loop} {st:LoopState} {p:Option Go.Code} {st':LoopState} {p':Option Go.Code} (L:LoopB h l r st p) (t:Turn h h' l r st' p'):CH h h':=by
 refine⟨fun b l' hb=>?_,fun b o v' hc=>?_⟩
 ·have:b≠l:=by
   rintro rfl
   obtain⟨e,he⟩:=hb
   have:=L.at_
   rw[he]at this;cases this
  obtain⟨e,he⟩:=hb
  exact⟨e,by rw[t.old b this];exact he⟩
 ·have:b≠l:=by
   rintro rfl
   have:=L.at_
   unfold Sx.cell at hc
   rw[this]at hc;cases hc
  unfold Sx.cell at hc⊢
  rw[t.old b this];exact hc
end Go.Proofs.YtjnijlnmbjjgpaaGreatDoor
set_option maxRecDepth 100000
namespace Go.Proofs.YtjnijlnmbjjgpaaGreatDoor.C
open Go Go.Sx Go.Sx.S
def f231r0:LS:=[o 6 (.mv (.const (.slice none 0 0)))]
def f231r1:LS:=[M 12 0,M 13 2,o 14 (.call 110 [(t 12),(t 13)]),M 11 14,X 15 11 0,X 16 11 1,o 7 (.new [(.int .i64 0),(.string ⟨#[]⟩),(.slice none 0 0),(.slice none 0 0),(.slice none 0 0),(.bool false),(.int .i64 0)]),q (.st 7 (t 7) (t 15)),M 8 16]
def f231r2:LS:=[M 18 0,M 19 2,M 20 1,o 21 (.call 45 [(t 18),(t 19),(t 20)]),M 17 21,X 22 17 0,X 23 17 1,o 9 (.new [(.int .i64 0),(.string ⟨#[]⟩),(.slice none 0 0),(.slice none 0 0),(.slice none 0 0),(.bool false),(.int .i64 0)]),q (.st 7 (t 9) (t 22)),M 10 23]
def f231r3:LS:=[M 24 8,M 25 24,
 g 26 25 (.mv (t 10)),
 g 27 25 (.un .not (t 26)),o 28 (.pick (t 25) (t 27) (b false))]
def f231r4:LS:=[M 29 2,o 30 (.build [(.int .i64 0),(.string ⟨#[]⟩),(.string ⟨#[]⟩),(.string ⟨#[]⟩),(.int .i64 0)] [(0,1),(1,1)] [(i 1),(t 29)]),o 31 (.bslice [(.int .i64 0),(.string ⟨#[]⟩),(.string ⟨#[]⟩),(.string ⟨#[]⟩),(.int .i64 0)] 1 [(0,5)] [(t 30)]),M 6 31]
def f231r5:LS:=[o 6 (.mv (.const (.slice none 0 0)))]
def f231:SCode:=(.j f231r0 (.j f231r1 (.seq (.j f231r2 (.j f231r3 (.k 28 f231r4))) (.j f231r5 .ret))))
theorem f231_calls:Sound Tryz.prog 231 32 f231 [.t 6]:=sdo Tryz.func231 rfl (by kernel_rfl)
end Go.Proofs.YtjnijlnmbjjgpaaGreatDoor.C
namespace Go.Proofs.YtjnijlnmbjjgpaaGreatDoor
open Go Go.Sx C
structure SFit (d:List ByteArray):Prop where
 len:d.length<4611686018427387904
 each:∀e∈d,e.size<4611686018427387904
structure SSmall (d:List ByteArray):Prop where
 len:d.length≤20
 each:∀e∈d,e.size≤300
def goneE (key:ByteArray):Eff:=⟨1,key,noText,noText,0⟩
def dropsS (S:Space) (key:ByteArray) (now:Int):List Eff:=if(findS S key).isSome=true∧(getS S key now).isSome=false then[goneE key]else[]
theorem look_is {h:Heap} {kb sb mb c:Nat} {m:List KI} {S:Space} (key:ByteArray) (x:KR h kb sb mb c m) (hs:Sorted m S):
  CallsH Tryz.prog 110 [ptr kb,.string key] h (Ret fun r h'=>(∃us,us.length=7∧(∀u∈us,u.oneCell'=true)∧r=.tuple #[.agg ⟨us⟩,.bool (findS S key).isSome])∧Chg [] h h'):=by
 refine(LookK_calls key x).mono fun e h' he=>?_
 cases e with
 |panicked ch=>exact he.elim
 |outgrown=>exact he.elim
 |returned v=>
  obtain⟨hr,hc⟩:=he
  refine⟨?_,hc⟩
  rcases hr with⟨i,hi,hk,pv,lv,rv,rfl,ht,_⟩|⟨hno,rfl⟩
  ·have tx:TH h' (cellsT i.thing pv lv rv) i.thing:=ht.th
   refine⟨_,tx.len,thing_one tx,?_⟩
   rw[←hk,find_mem hs hi];rfl
  ·refine⟨zeroV,rfl,by decide,?_⟩
   rw[find_out hs hno];rfl
theorem BDrops_calls {h:Heap} {kb sb mb c:Nat} {m:List KI} {S:Space} (key:ByteArray) (now:Int) (x:KR h kb sb mb c m) (hs:Sorted m S):
  CallsH Tryz.prog 231 [ptr kb,.int .i64 now,.string key] h (Ret fun r h'=>OL encD 5 h' r (dropsS S key now)∧(∀b∈vblk r,h.size≤b)∧Chg [] h h'):=by
 obtain⟨fs,hfs⟩:∃b,b=(findS S key).isSome:=⟨_,rfl⟩
 refine f231_calls (by simp) ?_
 refine call_ret (look_is key x hs) ?_
 rintro _ h1 ⟨⟨us,hl,h1c,rfl⟩,c1⟩
 rw[←hfs]
 intro b7 h2 g2
 refine Ei _ (Ai g2.blk (Ai (by decide) (Ai hl (Ai h1c ?_))))
 intro h3 p3
 have g3:=g2.put p3
 have c3:=c1.nil g3.chg
 obtain⟨go,hgo⟩:∃go,go=getS S key now:=⟨_,rfl⟩
 refine call_ret (KGet_calls key now (x.ext c3) hs) ?_
 rintro _ h4 ⟨⟨vs,rfl,tv⟩,c4⟩
 rw[←hgo]at tv⊢
 intro b9 h5 g5
 refine Ei _ (Ai g5.blk (Ai (by decide) (Ai tv.len (Ai (thing_one tv) ?_))))
 intro h6 p6
 have g6:=g5.put p6
 have c6:=(c3.nil c4).nil g6.chg
 unfold dropsS
 rw[←hfs,←hgo]
 cases fs with
 |false=>
  rw[if_neg (by simp)]
  exact⟨OL.nil,fun b hb=>(nomatch (show b∈([]:List Nat)from hb)),c6⟩
 |true=>
  cases go with
  |some t=>
   rw[if_neg (by simp)]
   exact⟨OL.nil,fun b hb=>(nomatch (show b∈([]:List Nat)from hb)),c6⟩
  |none=>
   rw[if_pos ⟨rfl,rfl⟩]
   intro b h7 g7
   have z:=c6.size
   have i7:=g7.id
   refine⟨⟨_,1,rfl,rfl,Nat.le_refl _,[],?_,rfl⟩,?_,c6.nil g7.chg⟩
   ·exact g7.blk
   ·intro b' hb'
    have hb':b'∈[b]:=hb'
    have hb':=List.mem_singleton.1 hb'
    omega
end Go.Proofs.YtjnijlnmbjjgpaaGreatDoor
set_option maxRecDepth 100000
namespace Go.Proofs.YtjnijlnmbjjgpaaGreatDoor.C
open Go Go.Sx Go.Sx.S
def f41r0:LS:=[o 2 (.new [(.int .i64 0),(.int .i64 0),(.string ⟨#[]⟩),(.slice none 0 0)])]
def f41r1:LS:=[M 3 0,o 4 (.build [(.int .i64 0),(.int .i64 0),(.string ⟨#[]⟩),(.slice none 0 0)] [(0,1),(2,1)] [(i 2),(t 3)]),q (.st 4 (t 2) (t 4))]
def f41:SCode:=(.j f41r0 (.j f41r1 .ret))
theorem f41_calls:Sound Tryz.prog 41 5 f41 [.cn 2 4]:=sdo Tryz.func41 rfl (by kernel_rfl)
end Go.Proofs.YtjnijlnmbjjgpaaGreatDoor.C
namespace Go.Proofs.YtjnijlnmbjjgpaaGreatDoor
open Go Go.Sx C
theorem OL.lt {α:Type} {enc:α→List Value} {size:Nat} {h:Heap} {v:Value} {l:List α} (o:OL enc size h v l):∀b∈vblk v,b<h.size:=by
 obtain⟨a,c,rfl,h1⟩:=o
 intro b hb
 cases a with
 |none=>simp[vblk,ablk]at hb
 |some a=>
  obtain⟨b',o',sp⟩:=a
  cases sp with
  |some q=>exact h1.elim
  |none=>
   obtain⟨_,_,rest,hB,_⟩:=h1
   have hb:b∈[b']:=hb
   rw[List.mem_singleton.1 hb]
   exact hB.lt
def wType:ByteArray:=⟨#[87,82,79,78,71,84,89,80,69]⟩
def wLong:ByteArray:=⟨#[69,82,82,32,108,111,110,103]⟩
theorem th_off {S:List Nat} {h h':Heap} {t:Thing} {pv lv rv:Value} (x:TH h (cellsT t pv lv rv) t) (hc:Chg S h h') (hn:∀b∈bl3 pv lv rv,b∉S):TH h' (cellsT t pv lv rv) t:=by
 obtain⟨p,l,r,e,h1,h2,h3⟩:=x
 simp only[cellsT,List.cons.injEq,and_true,true_and]at e
 obtain⟨rfl,rfl,rfl⟩:=e
 exact⟨_,_,_,rfl,h1.chg hc (fun b hb=>hn b (by simp[bl3,hb])),h2.chg hc (fun b hb=>hn b (by simp[bl3,hb])),h3.chg hc (fun b hb=>hn b (by simp[bl3,hb]))⟩
theorem TO.lt {h:Heap} {pv lv rv:Value} {t:Thing} (o:TO h pv lv rv t):∀b∈bl3 pv lv rv,b<h.size:=fun b hb=>by
 simp only[bl3,List.mem_append]at hb
 rcases hb with hb|hb|hb
 ·exact OL.lt o.p b hb
 ·exact OL.lt o.l b hb
 ·exact OL.lt o.r b hb
def GetR (h h':Heap) (go:Option Thing) (r:Value):Prop:=∃pv lv rv,r=.tuple #[.agg ⟨cellsT (go.getD zeroT) pv lv rv⟩,.bool go.isSome]∧TH h' (cellsT (go.getD zeroT) pv lv rv) (go.getD zeroT)∧∀b∈bl3 pv lv rv,h.size≤b∧b<h'.size
theorem get_none (h h':Heap):GetR h h' none (.tuple #[.agg ⟨zeroV⟩,.bool false]):=
 ⟨.slice none 0 0,.slice none 0 0,.slice none 0 0,rfl,zero_TH,fun b hb=>by simp[bl3,vblk,ablk]at hb⟩
theorem KGetF_calls {h:Heap} {kb sb mb c:Nat} {m:List KI} {S:Space} (key:ByteArray) (now:Int) (x:KR h kb sb mb c m) (hs:Sorted m S):
  CallsH Tryz.prog 45 [ptr kb,.string key,.int .i64 now] h (Ret fun r h'=>GetR h h' (getS S key now) r∧Chg [] h h'):=by
 obtain⟨go,hgo⟩:∃go,go=getS S key now:=⟨_,rfl⟩
 rw[←hgo]
 refine f45_calls (by simp) ?_
 intro b6 h1 g1
 have c1:=g1.chg
 have i6:=g1.id
 have z1:=g1.size
 have B6:Blk h1 b6 zeroV:=g1.blk
 refine call_ret (LookK_calls key (x.ext c1)) ?_
 rintro _ h2 ⟨hlook,c2⟩
 have z2:=c2.size
 rcases hlook with⟨i,hi,hik,pv,lv,rv,rfl,o2,fr⟩|⟨hno,rfl⟩
 ·have hfs:findS S key=some i.thing:=by rw[←hik];exact find_mem hs hi
  intro b8 h3 g3
  refine Ei zeroV (Ai g3.blk (Ai (by decide) (Ai rfl (Ai (thing_one o2.th) ?_))))
  intro h4 p4
  have g4:=g3.put p4
  have B8:Blk h4 b8 (cellsT i.thing pv lv rv):=p4.blk
  have o4:=o2.ext g4.chg
  have c14:Chg [] h1 h4:=c2.nil g4.chg
  refine Ei _ (Ai rfl (Ai (cells_blk B8) ?_))
  refine call_ret (gone_calls o4.th now) ?_
  rintro _ h5 ⟨rfl,c5⟩
  have c15:=c14.nil c5
  have o5:=o4.ext c5
  have B65:=B6.chg c15 (by simp)
  have B85:=B8.chg c5 (by simp)
  cases hg:(i.thing.hasU&&decide (i.thing.unt≤now))with
  |true=>
   have e:go=none:=by rw[hgo];unfold getS;rw[hfs];simp only;rw[if_pos (show goneT i.thing now=true from hg)]
   subst e
   refine Ei zeroV (Ai B65 (Ai (by decide) (Ai rfl (Ai (thing_one (zero_TH (h:=h5))) ?_))))
   intro h6 p6
   have B66:Blk h6 b6 zeroV:=p6.blk
   refine Ei zeroV (Ai rfl (Ai (cells_blk B66) ?_))
   exact Ai (get_none _ _) ((c1.nil c15).fresh p6.chg (by simp;omega))
  |false=>
   have e:go=some i.thing:=by rw[hgo];unfold getS;rw[hfs];simp only;rw[if_neg (by unfold goneT;rw[hg];simp)]
   subst e
   refine Ei _ (Ai rfl (Ai (cells_blk B85) ?_))
   refine Ei zeroV (Ai B65 (Ai (by decide) (Ai rfl (Ai (thing_one o5.th) ?_))))
   intro h6 p6
   have B66:Blk h6 b6 (cellsT i.thing pv lv rv):=p6.blk
   have o6:=o5.chg p6.chg (fun b hb=>by have:=fr b hb;simp;omega)
   refine Ei _ (Ai rfl (Ai (cells_blk B66) ?_))
   exact Ai ⟨pv,lv,rv,rfl,o6.th,fun b hb=>⟨by have:=fr b hb;omega,o6.lt b hb⟩⟩ ((c1.nil c15).fresh p6.chg (by simp;omega))
 ·have e:go=none:=by rw[hgo];unfold getS;rw[find_out hs hno]
  subst e
  intro b8 h3 g3
  refine Ei zeroV (Ai g3.blk (Ai (by decide) (Ai rfl (Ai (thing_one (zero_TH (h:=h3))) ?_))))
  intro h4 p4
  have g4:=g3.put p4
  have c14:Chg [] h1 h4:=c2.nil g4.chg
  have B64:=B6.chg c14 (by simp)
  refine Ei zeroV (Ai B64 (Ai (by decide) (Ai rfl (Ai (thing_one (zero_TH (h:=h4))) ?_))))
  intro h6 p6
  have B66:Blk h6 b6 zeroV:=p6.blk
  refine Ei zeroV (Ai rfl (Ai (cells_blk B66) ?_))
  exact Ai (get_none _ _) ((c1.nil c14).fresh p6.chg (by simp;omega))
end Go.Proofs.YtjnijlnmbjjgpaaGreatDoor
namespace Go.Proofs
open Go.RowKit Go.Shelf
def Tryz.laysC174_ren:Go.Shelf.Ren:=⟨fun|174=>234|247=>275|245=>276|287=>301|279=>302|280=>303|281=>304|282=>305|321=>335|322=>336|316=>337|171=>339|205=>338|243=>356|246=>64|283=>139|284=>140|285=>141|286=>142|129=>222|317=>221|318=>223|319=>224|320=>225|337=>273|338=>274|n=>n,fun|9=>9|3=>3|2=>2|75=>244|85=>245|4=>4|167=>319|5=>5|53=>183|175=>320|46=>237|168=>322|37=>140|0=>0|210=>335|21=>21|127=>347|145=>350|143=>348|171=>182|173=>186|212=>234|51=>235|20=>20|213=>236|232=>317|233=>318|80=>351|n=>n,fun|15=>4|16=>5|17=>0|18=>2|19=>3|n=>n⟩
theorem Tryz.laysC174:Go.Proofs.LaysC.n174 Tryz.prog Tryz.laysC174_ren:={
 mixed:=by kernel_rfl
 f129:=Tryz.func222.trans (congrArg some (by kernel_rfl))
 f171:=Tryz.func339.trans (congrArg some (by kernel_rfl))
 f174:=Tryz.func234.trans (congrArg some (by kernel_rfl))
 f205:=Tryz.func338.trans (congrArg some (by kernel_rfl))
 f243:=Tryz.func356.trans (congrArg some (by kernel_rfl))
 f245:=Tryz.func276.trans (congrArg some (by kernel_rfl))
 f246:=Tryz.func64.trans (congrArg some (by kernel_rfl))
 f247:=Tryz.func275.trans (congrArg some (by kernel_rfl))
 f279:=Tryz.func302.trans (congrArg some (by kernel_rfl))
 f280:=Tryz.func303.trans (congrArg some (by kernel_rfl))
 f281:=Tryz.func304.trans (congrArg some (by kernel_rfl))
 f282:=Tryz.func305.trans (congrArg some (by kernel_rfl))
 f283:=Tryz.func139.trans (congrArg some (by kernel_rfl))
 f284:=Tryz.func140.trans (congrArg some (by kernel_rfl))
 f285:=Tryz.func141.trans (congrArg some (by kernel_rfl))
 f286:=Tryz.func142.trans (congrArg some (by kernel_rfl))
 f287:=Tryz.func301.trans (congrArg some (by kernel_rfl))
 f316:=Tryz.func337.trans (congrArg some (by kernel_rfl))
 f317:=Tryz.func221.trans (congrArg some (by kernel_rfl))
 f318:=Tryz.func223.trans (congrArg some (by kernel_rfl))
 f319:=Tryz.func224.trans (congrArg some (by kernel_rfl))
 f320:=Tryz.func225.trans (congrArg some (by kernel_rfl))
 f321:=Tryz.func335.trans (congrArg some (by kernel_rfl))
 f322:=Tryz.func336.trans (congrArg some (by kernel_rfl))
 f337:=Tryz.func273.trans (congrArg some (by kernel_rfl))
 f338:=Tryz.func274.trans (congrArg some (by kernel_rfl))
 t0:=Tryz.underlying0
 a0:=Tryz.isAgg0
 z0:=Tryz.sizeOf0
 v0:=Tryz.zeroValue0
 t2:=Tryz.underlying2
 a2:=Tryz.isAgg2
 z2:=Tryz.sizeOf2
 v2:=Tryz.zeroValue2
 t3:=Tryz.underlying3
 a3:=Tryz.isAgg3
 z3:=Tryz.sizeOf3
 v3:=Tryz.zeroValue3
 t4:=Tryz.underlying4
 a4:=Tryz.isAgg4
 z4:=Tryz.sizeOf4
 v4:=Tryz.zeroValue4
 t5:=Tryz.underlying5
 a5:=Tryz.isAgg5
 z5:=Tryz.sizeOf5
 v5:=Tryz.zeroValue5
 t9:=Tryz.underlying9
 a9:=Tryz.isAgg9
 z9:=Tryz.sizeOf9
 v9:=Tryz.zeroValue9
 t20:=Tryz.underlying20
 a20:=Tryz.isAgg20
 z20:=Tryz.sizeOf20
 v20:=Tryz.zeroValue20
 t21:=Tryz.underlying21
 a21:=Tryz.isAgg21
 z21:=Tryz.sizeOf21
 v21:=Tryz.zeroValue21
 t37:=Tryz.underlying140
 a37:=Tryz.isAgg140
 z37:=Tryz.sizeOf140
 v37:=Tryz.zeroValue140
 t46:=Tryz.underlying237
 a46:=Tryz.isAgg237
 z46:=Tryz.sizeOf237
 v46:=Tryz.zeroValue237
 t51:=Tryz.underlying235
 a51:=Tryz.isAgg235
 z51:=Tryz.sizeOf235
 v51:=Tryz.zeroValue235
 t53:=Tryz.underlying183
 a53:=Tryz.isAgg183
 z53:=Tryz.sizeOf183
 v53:=Tryz.zeroValue183
 t75:=Tryz.underlying244
 a75:=Tryz.isAgg244
 z75:=Tryz.sizeOf244
 v75:=Tryz.zeroValue244
 t85:=Tryz.underlying245
 a85:=Tryz.isAgg245
 z85:=Tryz.sizeOf245
 v85:=Tryz.zeroValue245
 t127:=Tryz.underlying347
 a127:=Tryz.isAgg347
 z127:=Tryz.sizeOf347
 v127:=Tryz.zeroValue347
 t143:=Tryz.underlying348
 a143:=Tryz.isAgg348
 z143:=Tryz.sizeOf348
 v143:=Tryz.zeroValue348
 t145:=Tryz.underlying350
 a145:=Tryz.isAgg350
 z145:=Tryz.sizeOf350
 v145:=Tryz.zeroValue350
 t167:=Tryz.underlying319
 a167:=Tryz.isAgg319
 z167:=Tryz.sizeOf319
 v167:=Tryz.zeroValue319
 t168:=Tryz.underlying322
 a168:=Tryz.isAgg322
 z168:=Tryz.sizeOf322
 v168:=Tryz.zeroValue322
 t171:=Tryz.underlying182
 a171:=Tryz.isAgg182
 z171:=Tryz.sizeOf182
 v171:=Tryz.zeroValue182
 t173:=Tryz.underlying186
 a173:=Tryz.isAgg186
 z173:=Tryz.sizeOf186
 v173:=Tryz.zeroValue186
 t175:=Tryz.underlying320
 a175:=Tryz.isAgg320
 z175:=Tryz.sizeOf320
 v175:=Tryz.zeroValue320
 t210:=Tryz.underlying335
 a210:=Tryz.isAgg335
 z210:=Tryz.sizeOf335
 v210:=Tryz.zeroValue335
 t212:=Tryz.underlying234
 a212:=Tryz.isAgg234
 z212:=Tryz.sizeOf234
 v212:=Tryz.zeroValue234
 t213:=Tryz.underlying236
 a213:=Tryz.isAgg236
 z213:=Tryz.sizeOf236
 t232:=Tryz.underlying317
 a232:=Tryz.isAgg317
 z232:=Tryz.sizeOf317
 v232:=Tryz.zeroValue317
 t233:=Tryz.underlying318
 a233:=Tryz.isAgg318
 z233:=Tryz.sizeOf318
 v233:=Tryz.zeroValue318
 g15:=by kernel_rfl
 g16:=by kernel_rfl
 g17:=by kernel_rfl
 g18:=by kernel_rfl
 g19:=by kernel_rfl
 t80:=Tryz.underlying351
 a80:=Tryz.isAgg351
 z80:=Tryz.sizeOf351
 v80:=Tryz.zeroValue351
 i0:=by kernel_rfl
 i2:=by kernel_rfl
 i3:=by kernel_rfl
 i4:=by kernel_rfl
 i5:=by kernel_rfl
 i9:=by kernel_rfl
 i20:=by kernel_rfl
 i21:=by kernel_rfl
 i37:=by kernel_rfl
 i46:=by kernel_rfl
 i51:=by kernel_rfl
 i53:=by kernel_rfl
 i75:=by kernel_rfl
 i80:=by kernel_rfl
 i85:=by kernel_rfl
 i127:=by kernel_rfl
 i143:=by kernel_rfl
 i145:=by kernel_rfl
 i167:=by kernel_rfl
 i168:=by kernel_rfl
 i171:=by kernel_rfl
 i173:=by kernel_rfl
 i175:=by kernel_rfl
 i210:=by kernel_rfl
 i212:=by kernel_rfl
 i232:=by kernel_rfl
 i233:=by kernel_rfl
 m15:=by kernel_rfl
 m16:=by kernel_rfl
 m17:=by kernel_rfl
 m18:=by kernel_rfl
 m19:=by kernel_rfl
 c0:=by kernel_rfl
 c2:=by kernel_rfl
 c3:=by kernel_rfl
 c4:=by kernel_rfl
 c5:=by kernel_rfl
 c9:=by kernel_rfl
 c20:=by kernel_rfl
 c21:=by kernel_rfl
 c37:=by kernel_rfl
 c46:=by kernel_rfl
 c51:=by kernel_rfl
 c53:=by kernel_rfl
 c75:=by kernel_rfl
 c80:=by kernel_rfl
 c85:=by kernel_rfl
 c127:=by kernel_rfl
 c143:=by kernel_rfl
 c145:=by kernel_rfl
 c167:=by kernel_rfl
 c168:=by kernel_rfl
 c171:=by kernel_rfl
 c173:=by kernel_rfl
 c175:=by kernel_rfl
 c210:=by kernel_rfl
 c212:=by kernel_rfl
 c213:=by kernel_rfl
 c232:=by kernel_rfl
 c233:=by kernel_rfl}
def Tryz.laysM173_ren:Go.Shelf.Ren:=⟨fun|173=>34|246=>64|283=>139|284=>140|285=>141|286=>142|129=>222|317=>221|318=>223|319=>224|320=>225|337=>273|338=>274|n=>n,fun|2=>2|3=>3|9=>9|4=>4|171=>182|0=>0|53=>183|37=>140|5=>5|173=>186|212=>234|51=>235|20=>20|213=>236|46=>237|232=>317|233=>318|n=>n,fun|17=>0|18=>2|19=>3|n=>n⟩
theorem Tryz.laysM173:Go.Proofs.LaysM.n173 Tryz.prog Tryz.laysM173_ren:={
 mixed:=by kernel_rfl
 f129:=Tryz.func222.trans (congrArg some (by kernel_rfl))
 f173:=Tryz.func34.trans (congrArg some (by kernel_rfl))
 f246:=Tryz.func64.trans (congrArg some (by kernel_rfl))
 f283:=Tryz.func139.trans (congrArg some (by kernel_rfl))
 f284:=Tryz.func140.trans (congrArg some (by kernel_rfl))
 f285:=Tryz.func141.trans (congrArg some (by kernel_rfl))
 f286:=Tryz.func142.trans (congrArg some (by kernel_rfl))
 f317:=Tryz.func221.trans (congrArg some (by kernel_rfl))
 f318:=Tryz.func223.trans (congrArg some (by kernel_rfl))
 f319:=Tryz.func224.trans (congrArg some (by kernel_rfl))
 f320:=Tryz.func225.trans (congrArg some (by kernel_rfl))
 f337:=Tryz.func273.trans (congrArg some (by kernel_rfl))
 f338:=Tryz.func274.trans (congrArg some (by kernel_rfl))
 t0:=Tryz.underlying0
 a0:=Tryz.isAgg0
 z0:=Tryz.sizeOf0
 v0:=Tryz.zeroValue0
 t2:=Tryz.underlying2
 a2:=Tryz.isAgg2
 z2:=Tryz.sizeOf2
 v2:=Tryz.zeroValue2
 t3:=Tryz.underlying3
 a3:=Tryz.isAgg3
 z3:=Tryz.sizeOf3
 v3:=Tryz.zeroValue3
 t4:=Tryz.underlying4
 a4:=Tryz.isAgg4
 z4:=Tryz.sizeOf4
 v4:=Tryz.zeroValue4
 t5:=Tryz.underlying5
 a5:=Tryz.isAgg5
 z5:=Tryz.sizeOf5
 v5:=Tryz.zeroValue5
 t9:=Tryz.underlying9
 a9:=Tryz.isAgg9
 z9:=Tryz.sizeOf9
 v9:=Tryz.zeroValue9
 t20:=Tryz.underlying20
 a20:=Tryz.isAgg20
 z20:=Tryz.sizeOf20
 v20:=Tryz.zeroValue20
 t37:=Tryz.underlying140
 a37:=Tryz.isAgg140
 z37:=Tryz.sizeOf140
 v37:=Tryz.zeroValue140
 t46:=Tryz.underlying237
 a46:=Tryz.isAgg237
 z46:=Tryz.sizeOf237
 v46:=Tryz.zeroValue237
 t51:=Tryz.underlying235
 a51:=Tryz.isAgg235
 z51:=Tryz.sizeOf235
 v51:=Tryz.zeroValue235
 t53:=Tryz.underlying183
 a53:=Tryz.isAgg183
 z53:=Tryz.sizeOf183
 v53:=Tryz.zeroValue183
 t171:=Tryz.underlying182
 a171:=Tryz.isAgg182
 z171:=Tryz.sizeOf182
 v171:=Tryz.zeroValue182
 t173:=Tryz.underlying186
 a173:=Tryz.isAgg186
 z173:=Tryz.sizeOf186
 v173:=Tryz.zeroValue186
 t212:=Tryz.underlying234
 a212:=Tryz.isAgg234
 z212:=Tryz.sizeOf234
 v212:=Tryz.zeroValue234
 t213:=Tryz.underlying236
 a213:=Tryz.isAgg236
 z213:=Tryz.sizeOf236
 t232:=Tryz.underlying317
 a232:=Tryz.isAgg317
 z232:=Tryz.sizeOf317
 v232:=Tryz.zeroValue317
 t233:=Tryz.underlying318
 a233:=Tryz.isAgg318
 z233:=Tryz.sizeOf318
 v233:=Tryz.zeroValue318
 g17:=by kernel_rfl
 g18:=by kernel_rfl
 g19:=by kernel_rfl
 i0:=by kernel_rfl
 i2:=by kernel_rfl
 i3:=by kernel_rfl
 i4:=by kernel_rfl
 i5:=by kernel_rfl
 i9:=by kernel_rfl
 i20:=by kernel_rfl
 i37:=by kernel_rfl
 i46:=by kernel_rfl
 i51:=by kernel_rfl
 i53:=by kernel_rfl
 i171:=by kernel_rfl
 i173:=by kernel_rfl
 i212:=by kernel_rfl
 i232:=by kernel_rfl
 i233:=by kernel_rfl
 m17:=by kernel_rfl
 m18:=by kernel_rfl
 m19:=by kernel_rfl}
end Go.Proofs
namespace Go.Num
open Go Go.Lib
def isDig (c:UInt8):Prop:=48≤c.toNat∧c.toNat≤57
def allDig (d:List UInt8):Prop:=∀c∈d,isDig c
@[irreducible] def nxt (m:Nat) (c:UInt8):Nat:=m*10+(c.toNat-48)
theorem nxt_eq (m:Nat) (c:UInt8):nxt m c=m*10+(c.toNat-48):=by unfold nxt;rfl
def valF (m:Nat):List UInt8→Nat
 |[]=>m
 |c::r=>valF (nxt m c) r
abbrev val (d:List UInt8):Nat:=valF 0 d
theorem valF_nil (m:Nat):valF m []=m:=rfl
theorem valF_cons (m:Nat) (c:UInt8) (r:List UInt8):valF m (c::r)=valF (nxt m c) r:=rfl
def stepD (T m:Nat) (c:UInt8):Option Nat:=if 48≤c.toNat∧c.toNat≤57 then(if T<nxt m c then none else some (nxt m c))else none
def runD (T m:Nat):List UInt8→Option Nat
 |[]=>some m
 |c::r=>match stepD T m c with
  |some k=>runD T k r
  |none=>none
def refTail (T:Nat) (neg:Bool) (d:List UInt8):Option Int:=
 match runD T 0 d with
 |none=>none
 |some m=>if neg then some (-(m:Int))else if m=T then none else some m
def refBody (T:Nat) (neg:Bool) (d:List UInt8):Option Int:=
 if d=[]∨(1<d.length∧d.head? =some 48)∨(neg=true∧d=[48])then none else refTail T neg d
def refNum (T:Nat) (l:List UInt8):Option Int:=
 if l=[]∨20<l.length then none else if l.head? =some 45 then refBody T true l.tail else refBody T false l
def num (l:List UInt8):Option Int:=
 match parseIntB 64 l with
 |.ok v=>if itoa v=l then some v else none
 |_=>none
theorem runD_nil (T m:Nat):runD T m []=some m:=rfl
theorem runD_cons (T m:Nat) (c:UInt8) (r:List UInt8):runD T m (c::r)=if 48≤c.toNat∧c.toNat≤57 then(if T<nxt m c then none else runD T (nxt m c) r)else none:=by
 show(match stepD T m c with|some k=>runD T k r|none=>none)=_
 unfold stepD
 by_cases h1:48≤c.toNat∧c.toNat≤57
 ·rw[if_pos h1,if_pos h1]
  by_cases h2:T<nxt m c
  ·rw[if_pos h2,if_pos h2]
  ·rw[if_neg h2,if_neg h2]
 ·rw[if_neg h1,if_neg h1]
theorem valF_ge (m:Nat):∀d:List UInt8,m≤valF m d
 |[]=>Nat.le_refl _
 |c::r=>Nat.le_trans (by rw[nxt_eq];omega) (valF_ge (nxt m c) r)
theorem valF_snoc (c:UInt8):∀(m:Nat) (d:List UInt8),valF m (d++[c])=valF m d*10+(c.toNat-48)
 |m,[]=>nxt_eq m c
 |m,x::r=>valF_snoc c (nxt m x) r
theorem runD_iff {T:Nat}:∀(d:List UInt8) (m k:Nat),m≤T→(runD T m d=some k↔allDig d∧valF m d=k∧k≤T)
 |[],m,k,hm=>by
  rw[runD_nil,valF_nil]
  simp only[Option.some.injEq]
  exact⟨fun h=>⟨(by intro c hc;cases hc),h,by omega⟩,fun h=>h.2.1⟩
 |c::r,m,k,hm=>by
  rw[runD_cons,valF_cons]
  by_cases hd:48≤c.toNat∧c.toNat≤57
  ·rw[if_pos hd]
   by_cases hb:T<nxt m c
   ·rw[if_pos hb]
    refine⟨fun h=>(by cases h),fun⟨_,h2,h3⟩=>?_⟩
    have:=valF_ge (nxt m c) r
    omega
   ·rw[if_neg hb,runD_iff r _ k (by omega)]
    refine⟨fun⟨h1,h2⟩=>⟨fun x hx=>?_,h2⟩,fun⟨h1,h2⟩=>⟨fun x hx=>h1 x (by simp[hx]),h2⟩⟩
    rcases List.mem_cons.1 hx with rfl|hx
    ·exact hd
    ·exact h1 x hx
  ·rw[if_neg hd]
   exact⟨fun h=>(by cases h),fun⟨h1,_⟩=>absurd (h1 c (by simp)) hd⟩
theorem parseM_ok:∀(d:List UInt8) (m:Nat),allDig d→valF m d≤18446744073709551615→parseUintM 18446744073709551615 m d=.ok (valF m d)
 |[],m,_,_=>by rw[valF_nil];unfold parseUintM;rfl
 |c::r,m,hd,hv=>by
  have h1:isDig c:=hd c (by simp)
  have hge:=valF_ge (nxt m c) r
  have hn:=nxt_eq m c
  rw[valF_cons]at hv⊢
  unfold parseUintM
  rw[if_pos (show 48≤c.toNat∧c.toNat≤57 from h1),if_neg (by omega),if_neg (by omega),←hn]
  exact parseM_ok r _ (fun x hx=>hd x (by simp[hx])) hv
theorem byte_eq {c:UInt8} (h:isDig c):UInt8.ofNat (48+(c.toNat-48))=c:=by
 have:48+(c.toNat-48)=c.toNat:=by have:=h.1;omega
 rw[this];exact UInt8.ofNat_toNat
def dgt (x:Nat):UInt8:=UInt8.ofNat (48+x)
theorem byte_dig {x:Nat} (h:x<10):isDig (dgt x)∧(dgt x).toNat=48+x:=by
 unfold dgt
 have:(UInt8.ofNat (48+x)).toNat=48+x:=by rw[UInt8.toNat_ofNat'];omega
 exact⟨⟨by omega,by omega⟩,this⟩
theorem canon:∀(n:Nat) (d:List UInt8),d.length=n→allDig d→d≠[]→(d.length=1∨d.head? ≠some 48)→decDigits (val d)=d
 |0,d,hl,_,hne,_=>absurd (List.length_eq_zero_iff.1 hl) hne
 |n+1,d,hl,hd,hne,hc=>by
  obtain⟨e,c,rfl⟩:∃e c,d=e++[c]:=⟨d.dropLast,d.getLast hne,(List.dropLast_concat_getLast hne).symm⟩
  have hcd:isDig c:=hd c (by simp)
  have hs:val (e++[c])=val e*10+(c.toNat-48):=valF_snoc c 0 e
  have hx:c.toNat-48<10:=by have:=hcd.2;omega
  by_cases he:e=[]
  ·subst he
   have:val ([]++[c])=c.toNat-48:=by rw[hs,show val []=0 from rfl];omega
   rw[this,decDigits,dif_pos hx,byte_eq hcd];rfl
  ·obtain⟨x,r,rfl⟩:∃x r,e=x::r:=List.exists_cons_of_ne_nil he
   have hx48:x≠48:=by
    rcases hc with hc|hc
    ·simp at hc
    ·intro e;subst e;simp at hc
   have hxd:isDig x:=hd x (by simp)
   have ih:=canon n (x::r) (by simp at hl⊢;omega) (fun y hy=>hd y (by simp at hy⊢;rcases hy with h|h<;>simp[h])) (by simp) (.inr (by simpa using hx48))
   have hpos:1≤val (x::r):=by
    have h2:x.toNat≠48:=fun h=>hx48 (UInt8.toNat_inj.1 h)
    have:=valF_ge (nxt 0 x) r
    have h3:=hxd.1
    have hn:=nxt_eq 0 x
    show 1≤valF 0 (x::r)
    rw[valF_cons];omega
   have h10:¬val (x::r++[c])<10:=by rw[hs];omega
   rw[decDigits,dif_neg h10,hs]
   have e1:(val (x::r)*10+(c.toNat-48))/10=val (x::r):=by omega
   have e2:(val (x::r)*10+(c.toNat-48))%10=c.toNat-48:=by omega
   rw[e1,e2,ih,byte_eq hcd]
theorem dec_spec:∀(n u:Nat),u<n→allDig (decDigits u)∧decDigits u≠[]∧val (decDigits u)=u∧((decDigits u).length=1∨(decDigits u).head? ≠some 48)∧(u≠0→(decDigits u).head? ≠some 48)
 |0,u,h=>absurd h (by omega)
 |n+1,u,h=>by
  by_cases h10:u<10
  ·obtain⟨h1,h2⟩:=byte_dig h10
   have e:decDigits u=[dgt u]:=by rw[decDigits,dif_pos h10];rfl
   rw[e]
   refine⟨by intro c hc;simp at hc;subst hc;exact h1,by simp,?_,.inl rfl,fun h0=>?_⟩
   ·show valF 0 [dgt u]=u
    rw[valF_cons,valF_nil,nxt_eq,h2];omega
   ·simp only[List.head?_cons,ne_eq,Option.some.injEq]
    intro e;have:=congrArg UInt8.toNat e;rw[h2]at this;simp at this;omega
  ·obtain⟨i1,i2,i3,i4,i5⟩:=dec_spec n (u/10) (by omega)
   obtain⟨h1,h2⟩:=byte_dig (x:=u%10) (by omega)
   have e:decDigits u=decDigits (u/10)++[dgt (u%10)]:=by rw[decDigits,dif_neg h10];rfl
   have hh:(decDigits u).head? ≠some 48:=by
    obtain⟨x,r,hx⟩:=List.exists_cons_of_ne_nil i2
    have:=i5 (by omega)
    rw[e,hx];rw[hx]at this;simpa using this
   refine⟨?_,by rw[e];simp,?_,.inr hh,fun _=>hh⟩
   ·rw[e];intro c hc
    rcases List.mem_append.1 hc with hc|hc
    ·exact i1 c hc
    ·simp at hc;subst hc;exact h1
   ·rw[e]
    have:=valF_snoc (dgt (u%10)) 0 (decDigits (u/10))
    rw[h2]at this
    have i3':valF 0 (decDigits (u/10))=u/10:=i3
    rw[i3']at this
    show valF 0 _=u
    rw[this];omega
theorem dec_len:∀(k u:Nat),u<10 ^ (k+1)→(decDigits u).length≤k+1
 |0,u,h=>by rw[decDigits,dif_pos (by simpa using h)];simp
 |k+1,u,h=>by
  rw[decDigits]
  split
  ·simp
  ·have:=dec_len k (u/10) (by rw[Nat.pow_succ]at h;omega)
   simp;omega
theorem parse_range {T:Nat} (hT:T=9223372036854775808) {l:List UInt8} {v:Int} (hx:parseIntB 64 l=.ok v): -(T:Int)≤v∧v<T:=by
 unfold parseIntB at hx
 split at hx
 ·cases hx
 ·rename_i c r
  simp only at hx
  split at hx
  ·cases hx
  ·cases hx
  ·rename_i u hu
   have e:2 ^ (64-1)=T:=by rw[hT]
   rw[e]at hx
   split at hx
   ·cases hx
   ·rename_i h1
    split at hx
    ·cases hx
    ·rename_i h2
     simp at hx;subst hx
     split<;>rename_i hneg
     ·have:u≤T:=by
       rcases Nat.lt_or_ge T u with h|h
       ·exact absurd ⟨hneg,h⟩ h2
       ·exact h
      omega
     ·have:u<T:=by
       rcases Nat.lt_or_ge u T with h|h
       ·exact h
       ·exact absurd ⟨hneg,h⟩ h1
      omega
theorem num_iff {T:Nat} (hT:T=9223372036854775808) (l:List UInt8) (v:Int):num l=some v↔(-(T:Int)≤v∧v<T)∧itoa v=l:=by
 unfold num
 constructor
 ·intro h
  split at h
  ·rename_i x hx
   split at h
   ·rename_i hi
    simp at h;subst h
    refine⟨?_,hi⟩
    unfold parseIntB at hx
    split at hx
    ·cases hx
    ·rename_i c r
     simp only at hx
     split at hx
     ·cases hx
     ·cases hx
     ·rename_i u hu
      have e:2 ^ (64-1)=T:=by rw[hT]
      rw[e]at hx
      split at hx
      ·cases hx
      ·rename_i h1
       split at hx
       ·cases hx
       ·rename_i h2
        simp at hx;subst hx
        split<;>rename_i hneg
        ·have:u≤T:=by
          rcases Nat.lt_or_ge T u with h|h
          ·exact absurd ⟨hneg,h⟩ h2
          ·exact h
         omega
        ·have:u<T:=by
          rcases Nat.lt_or_ge u T with h|h
          ·exact h
          ·exact absurd ⟨hneg,h⟩ h1
         omega
   ·cases h
  ·cases h
 ·rintro⟨⟨h0,h1⟩,rfl⟩
  have key:parseIntB 64 (itoa v)=.ok v:=by
   have e:2 ^ (64-1)=T:=by rw[hT]
   have eM:2 ^ 64-1=18446744073709551615:=by decide
   unfold itoa
   split
   ·rename_i hneg
    obtain⟨i1,i2,i3,i4,i5⟩:=dec_spec (v.natAbs+1) v.natAbs (by omega)
    have i3':valF 0 (decDigits v.natAbs)=v.natAbs:=i3
    have c45:(45:UInt8).toNat=45:=rfl
    have hp:parseUintB 64 (decDigits v.natAbs)=.ok v.natAbs:=by
     unfold parseUintB
     rw[if_neg i2,eM,parseM_ok _ 0 i1 (by rw[i3'];omega),i3']
    unfold parseIntB
    simp only[c45,if_true,or_true,hp,e]
    rw[if_neg (by simp),if_neg (by omega)]
    congr 1;omega
   ·rename_i hneg
    obtain⟨i1,i2,i3,i4,i5⟩:=dec_spec (v.toNat+1) v.toNat (by omega)
    have i3':valF 0 (decDigits v.toNat)=v.toNat:=i3
    obtain⟨x,r,hx⟩:=List.exists_cons_of_ne_nil i2
    have hxd:isDig x:=i1 x (by rw[hx];simp)
    have hx1:48≤x.toNat:=hxd.1
    have hp:parseUintB 64 (x::r)=.ok v.toNat:=by
     rw[←hx]
     unfold parseUintB
     rw[if_neg i2,eM,parseM_ok _ 0 i1 (by rw[i3'];omega),i3']
    rw[hx]
    have n1:¬x.toNat=45:=by omega
    unfold parseIntB
    have n3:¬x.toNat=43:=by omega
    simp only[n1,n3,or_self,if_false,hp,e,false_and,not_false_eq_true,true_and]
    rw[if_neg (by omega)]
    congr 1;omega
  rw[key]
  simp
theorem tail_iff {T:Nat} (d:List UInt8) (neg:Bool) (v:Int):refTail T neg d=some v↔∃m,runD T 0 d=some m∧(neg=true→v= -(m:Int))∧(neg=false→m≠T∧v=m):=by
 unfold refTail
 cases hr:runD T 0 d with
 |none=>exact⟨fun h=>(by cases h),fun⟨m,h,_⟩=>(by cases h)⟩
 |some m=>
  cases neg with
  |true=>
   show some (-(m:Int))=some v↔_
   exact⟨fun h=>⟨m,rfl,fun _=>(Option.some.inj h).symm,fun h=>(by cases h)⟩,fun⟨k,h1,h2,_⟩=>by rw[h2 rfl,Option.some.inj h1]⟩
  |false=>
   show(if m=T then none else some (m:Int))=some v↔_
   by_cases he:m=T
   ·rw[if_pos he]
    exact⟨fun h=>(by cases h),fun⟨k,h1,_,h3⟩=>absurd ((Option.some.inj h1).symm.trans he) (h3 rfl).1⟩
   ·rw[if_neg he]
    exact⟨fun h=>⟨m,rfl,fun h=>(by cases h),fun _=>⟨he,(Option.some.inj h).symm⟩⟩,fun⟨k,h1,_,h3⟩=>by rw[(h3 rfl).2,Option.some.inj h1]⟩
theorem body_iff {T:Nat} (d:List UInt8) (neg:Bool) (v:Int):refBody T neg d=some v↔∃m,d=decDigits m∧m≤T∧(neg=true→m≠0∧v= -(m:Int))∧(neg=false→m≠T∧v=m):=by
 unfold refBody
 constructor
 ·intro h
  by_cases hb:d=[]∨(1<d.length∧d.head? =some 48)∨(neg=true∧d=[48])
  ·rw[if_pos hb]at h;cases h
  ·rw[if_neg hb]at h
   obtain⟨m,hm,h1,h2⟩:=(tail_iff d neg v).1 h
   obtain⟨k1,k2,k3⟩:=(runD_iff d 0 m (Nat.zero_le _)).1 hm
   have hne:d≠[]:=fun e=>hb (.inl e)
   have hc:=canon d.length d rfl k1 hne (by
    rcases Nat.lt_or_ge 1 d.length with h|h
    ·exact .inr fun e=>hb (.inr (.inl ⟨h,e⟩))
    ·have:=List.length_pos_iff.2 hne
     exact .inl (by omega))
   have hv:val d=m:=k2
   rw[hv]at hc
   refine⟨m,hc.symm,k3,fun hn=>⟨?_,h1 hn⟩,h2⟩
   rintro rfl
   refine hb (.inr (.inr ⟨hn,?_⟩))
   rw[←hc,decDigits,dif_pos (by omega)];rfl
 ·rintro⟨m,rfl,hT,h1,h2⟩
  obtain⟨i1,i2,i3,i4,i5⟩:=dec_spec (m+1) m (by omega)
  rw[if_neg]
  ·exact(tail_iff _ neg v).2 ⟨m,(runD_iff _ 0 _ (Nat.zero_le _)).2 ⟨i1,i3,hT⟩,fun hn=>(h1 hn).2,h2⟩
  ·rintro(h|⟨h,h3⟩|⟨h,h3⟩)
   ·exact i2 h
   ·rcases i4 with i4|i4
    ·omega
    ·exact i4 h3
   ·have:=i5 (h1 h).1
    rw[h3]at this;simp at this
theorem ref_iff {T:Nat} (hT:T=9223372036854775808) (l:List UInt8) (v:Int):refNum T l=some v↔(-(T:Int)≤v∧v<T)∧itoa v=l:=by
 unfold refNum
 constructor
 ·intro h
  by_cases h20:l=[]∨20<l.length
  ·rw[if_pos h20]at h;cases h
  ·rw[if_neg h20]at h
   by_cases hh:l.head? =some 45
   ·rw[if_pos hh]at h
    obtain⟨r,rfl⟩:∃r,l=45::r:=by
     cases l with
     |nil=>simp at hh
     |cons x r=>simp at hh;subst hh;exact⟨r,rfl⟩
    obtain⟨m,hd,hm,h1,_⟩:=(body_iff _ true v).1 h
    have hd:r=decDigits m:=hd
    obtain⟨h0,rfl⟩:=h1 rfl
    refine⟨by omega,?_⟩
    unfold itoa
    rw[if_pos (by omega),show(-(m:Int)).natAbs=m by omega,hd]
   ·rw[if_neg hh]at h
    obtain⟨m,hd,hm,_,h2⟩:=(body_iff _ false v).1 h
    obtain⟨h0,rfl⟩:=h2 rfl
    refine⟨by omega,?_⟩
    unfold itoa
    rw[if_neg (by omega),show((m:Int)).toNat=m by omega,hd]
 ·rintro⟨⟨h0,h1⟩,rfl⟩
  by_cases hneg:v<0
  ·have e:itoa v=45::decDigits v.natAbs:=by unfold itoa;rw[if_pos hneg]
   have hl:=dec_len 18 v.natAbs (by omega)
   rw[e,if_neg (by simp;omega),if_pos (show(45::decDigits v.natAbs).head? =some 45 from rfl)]
   exact(body_iff _ true v).2 ⟨v.natAbs,rfl,by omega,fun _=>⟨by omega,by omega⟩,fun h=>by cases h⟩
  ·obtain⟨i1,i2,i3,i4,i5⟩:=dec_spec (v.toNat+1) v.toNat (by omega)
   have e:itoa v=decDigits v.toNat:=by unfold itoa;rw[if_neg hneg]
   have hl:=dec_len 18 v.toNat (by omega)
   have h45:¬(decDigits v.toNat).head? =some 45:=by
    obtain⟨x,r,hx⟩:=List.exists_cons_of_ne_nil i2
    have hxd:isDig x:=i1 x (by rw[hx];simp)
    rw[hx];simp
    intro e;subst e;exact absurd hxd.1 (by decide)
   rw[e,if_neg (by
    rintro(h|h)
    ·exact i2 h
    ·omega),if_neg h45]
   exact(body_iff _ false v).2 ⟨v.toNat,rfl,by omega,fun h=>(by cases h),fun _=>⟨by omega,by omega⟩⟩
theorem num_eq {T:Nat} (hT:T=9223372036854775808) (l:List UInt8):num l=refNum T l:=by
 cases h:refNum T l with
 |some v=>exact(num_iff hT l v).2 ((ref_iff hT l v).1 h)
 |none=>
  cases h2:num l with
  |none=>rfl
  |some v=>rw[(ref_iff hT l v).2 ((num_iff hT l v).1 h2)]at h;cases h
end Go.Num
namespace Go.Proofs.YtjnijlnmbjjgpaaGreatDoor
open Go Go.Sx C
def IfaceV (v:Value):Prop:=v=.nilIface∨∃te pe,v=.iface te pe
def LaidN (h:Heap):Prop:=(∃t fr,h[0]? =some (.cells (Lib.pow10Tab.map fun z=>Value.int .u64 z).toArray t fr))∧(∃v,cell h 4 0=some v∧IfaceV v)∧(∃v,cell h 5 0=some v∧IfaceV v)
theorem LaidN.ext {h h':Heap} (hl:LaidN h) (hc:Chg [] h h'):LaidN h':=by
 obtain⟨⟨t,fr,h1⟩,⟨v,h2,h3⟩,⟨u,h4,h5⟩⟩:=hl
 exact⟨⟨t,fr,get_ext hc.ext h1⟩,⟨v,cell_chg h2 hc (by simp),h3⟩,⟨u,cell_chg h4 hc (by simp),h5⟩⟩
theorem chg_of_below {w w':World} {h:Heap} (hw:w.heap=h) (hb:RowKit.Below w.heap.size w w'):Chg [] h w'.heap:=by
 subst hw
 exact⟨hb.size,fun k hk _=>hb.block k hk⟩
theorem wcell {w:World} {h:Heap} {b:Nat} {v:Value} (hw:w.heap=h) (hc:cell h b 0=some v):w.cell? ⟨b,0,none⟩=some v:=by
 subst hw
 unfold cell at hc
 unfold World.cell?
 split at hc
 ·rename_i c t k hx
  rw[hx];simpa using hc
 ·cases hc
def ParseP (l:List UInt8) (r:Value):Prop:=
 (∃v,Lib.parseIntB 64 l=.ok v∧r=.tuple #[.int .i64 v,.nilIface])∨((∀v,Lib.parseIntB 64 l≠.ok v)∧∃n t p,r=.tuple #[.int .i64 n,.iface t p])
theorem parse_calls {h:Heap} {l:List UInt8} (hl:LaidN h) (hs:l.length<281474976710656):CallsH Tryz.prog 234 [.string ⟨⟨l⟩⟩,.int .i64 10,.int .i64 64] h (Ret fun r h'=>ParseP l r∧Chg [] h h'):=by
 refine⟨by kernel_rfl,fun w hw=>?_⟩
 obtain⟨_,⟨v1,c1,i1⟩,⟨v2,c2,i2⟩⟩:=hl
 have hsz:(⟨⟨l⟩⟩:ByteArray).size=l.length:=rfl
 rcases hp:Lib.parseIntB 64 l with v|_|_
 ·refine(Go.Proofs.Any.strconv_ParseInt_10_at64_ok Go.Proofs.Tryz.laysC174 ⟨⟨l⟩⟩ (by omega) v hp w).mono ?_
  rintro e w' ⟨rfl,hW⟩
  have hb:RowKit.Below w.heap.size w w':=by
   rcases hW with rfl|⟨t,rfl⟩
   ·exact RowKit.Below.refl _ _
   ·exact Lib.bytesWorld_below _ _ _
  exact⟨⟨.inl ⟨v,hp,rfl⟩,chg_of_below hw hb⟩,by simp,hb.os,hb.output,hb.tape⟩
 ·refine(Go.Proofs.Any.strconv_ParseInt_10_at64_syntax Go.Proofs.Tryz.laysC174 ⟨⟨l⟩⟩ (by omega) hp v1 w (wcell hw c1) i1).mono ?_
  rintro e w' ⟨N,rfl,_,_,hb⟩
  exact⟨⟨.inr ⟨fun v hv=>(by rw[hp]at hv;cases hv),_,_,_,rfl⟩,chg_of_below hw hb⟩,by simp,hb.os,hb.output,hb.tape⟩
 ·refine(Go.Proofs.Any.strconv_ParseInt_10_at64_range Go.Proofs.Tryz.laysC174 ⟨⟨l⟩⟩ (by omega) hp v2 w (wcell hw c2) i2).mono ?_
  rintro e w' ⟨N,rfl,_,_,hb⟩
  exact⟨⟨.inr ⟨fun v hv=>(by rw[hp]at hv;cases hv),_,_,_,rfl⟩,chg_of_below hw hb⟩,by simp,hb.os,hb.output,hb.tape⟩
theorem tab_of {w:World} {h:Heap} (hw:w.heap=h) (hl:LaidN h):Lib.TabIs Tryz.prog w "internal/strconv.uint64pow10" .u64 Lib.pow10Tab:=by
 obtain⟨⟨t,fr,h1⟩,_⟩:=hl
 have hg:Tryz.prog.globalNamed "internal/strconv.uint64pow10" =some 0:=by kernel_rfl
 unfold Lib.TabIs World.var?
 rw[hg]
 show(match w.heap[0]? with|some (.cells cs _ _)=>some cs|_=>none)=_
 rw[hw,h1]
theorem format_calls {h:Heap} {n:Int} (hl:LaidN h) (h0: -9223372036854775808≤n) (h1:n≤9223372036854775807):CallsH Tryz.prog 34 [.int .i64 n,.int .i64 10] h (Ret fun r h'=>r=.string ⟨⟨Lib.itoa n⟩⟩∧Chg [] h h'):=by
 refine⟨by kernel_rfl,fun w hw=>?_⟩
 refine(Go.Proofs.Any.strconv_FormatInt_10 Go.Proofs.Tryz.laysM173 n h0 h1 w (tab_of hw hl)).mono ?_
 rintro e w' ⟨rfl,k,os,rfl⟩
 refine⟨⟨rfl,?_⟩,by simp,rfl,rfl,rfl⟩
 subst hw
 refine⟨by simp[Go.Sort.grow,World.drewN],fun j hj _=>?_⟩
 simp[Go.Sort.grow,World.drewN,Array.getElem?_append,hj]
theorem bnum_calls {h:Heap} {l:List UInt8} (hl:LaidN h) (hs:l.length<281474976710656):
  CallsH Tryz.prog 164 [.string ⟨⟨l⟩⟩] h (Ret fun r h'=>r=.tuple #[.int .i64 ((Num.num l).getD 0),.bool (Num.num l).isSome]∧Chg [] h h'):=by
 refine f164_calls (by simp) ?_
 refine call_ret (parse_calls hl hs) ?_
 rintro r h1 ⟨hp,c1⟩
 rcases hp with⟨v,hv,rfl⟩|⟨hno,n,t,p,rfl⟩
 ·obtain⟨r0,r1⟩:=Num.parse_range rfl hv
  refine call_ret (format_calls (hl.ext c1) (by omega) (by omega)) ?_
  rintro _ h2 ⟨rfl,c2⟩
  have c:=c1.nil c2
  refine Ai (fun hne=>?_) (fun heq=>?_)
  ·have e:Num.num l=none:=by
    unfold Num.num
    rw[hv]
    simp only
    rw[if_neg]
    intro e;exact hne (by rw[e])
   rw[e]
   exact Ai rfl c
  ·have e:Num.num l=some v:=by
    unfold Num.num
    rw[hv]
    simp only
    rw[if_pos]
    have:=Classical.not_not.1 heq
    injection this with this
    injection this
   rw[e]
   exact Ai rfl c
 ·have e:Num.num l=none:=by
   unfold Num.num
   split
   ·rename_i v hv;exact absurd hv (hno v)
   ·rfl
  rw[e]
  exact Ai rfl c1
def wNum:ByteArray:=⟨#[69,82,82,32,110,117,109,98,101,114]⟩
def wOver:ByteArray:=⟨#[69,82,82,32,111,118,101,114]⟩
theorem drops_len (S:Space) (key:ByteArray) (now:Int):(dropsS S key now).length≤1:=by
 unfold dropsS;split<;>simp
theorem one_sl {h:Heap} {b:Nat} {e:Eff} (hB:Blk h b (encD e)):SL encD h (.slice (some ⟨b,0,none⟩) 1 1) [e]:=by
 refine⟨_,1,rfl,Nat.le_refl _,?_⟩
 have:=cells_blk hB
 simpa[Src]using this
def repV (k i:Int) (s:ByteArray):Value:=.agg ⟨[.int .i64 k,.int .i64 i,.string s,.slice none 0 0]⟩
theorem repV_ones (k i:Int) (s:ByteArray):∀u∈(repV k i s).cells.toList,u.oneCell'=true:=by
 intro u hu
 have hu:u∈[Value.int .i64 k,.int .i64 i,.string s,.slice none 0 0]:=hu
 simp at hu
 rcases hu with rfl|rfl|rfl|rfl<;>rfl
def okSum (a b:Int):Prop:= -9223372036854775808≤a+b∧a+b≤9223372036854775807
def In64 (a:Int):Prop:= -9223372036854775808≤a∧a≤9223372036854775807
def numOf (s:ByteArray):Option Int:=Num.num s.data.toList
end Go.Proofs.YtjnijlnmbjjgpaaGreatDoor
namespace Go.Sx
open Go
inductive En:Type 1 where
 |b (k:Nat) (l:List Value)
 |w (k:Nat) (l:List Value)
 |m (k:Nat) (es:List MapEntry) (c:Nat)
 |o {α:Type} (enc:α→List Value) (size:Nat) (v:Value) (l:List α)
 |x (f:List Nat) (p:Heap→Prop) (st:∀S h h',Chg S h h'→(∀b∈f,b∉S)→p h→p h') (lt:∀h,p h→∀b∈f,b<h.size)
def En.fp:En→List Nat
 |.b k _=>[k]
 |.w k _=>[k]
 |.m k _ _=>[k]
 |.o _ _ v _=>vblk v
 |.x f _ _ _=>f
def En.at (h:Heap):En→Prop
 |.b k l=>Blk h k l
 |.w k l=>BlkW h k l
 |.m k es c=>MapB h k es c
 |.o enc size v l=>OL enc size h v l
 |.x _ p _ _=>p h
theorem BlkW.chg' {S:List Nat} {h h':Heap} {b:Nat} {l:List Value} (hb:BlkW h b l) (hc:Chg S h h') (hn:b∉S):BlkW h' b l:=let⟨e,k,x,y⟩:=hb;⟨e,k,get_chg x hc hn,y⟩
theorem BlkW.lt' {h:Heap} {b:Nat} {l:List Value} (hb:BlkW h b l):b<h.size:=let⟨_,_,x,_⟩:=hb;get_lt x
theorem En.chg {S:List Nat} {h h':Heap}:∀{e:En},e.at h→Chg S h h'→(∀b∈e.fp,b∉S)→e.at h'
 |.b _ _,he,hc,hn=>Blk.chg he hc (hn _ (List.mem_singleton.2 rfl))
 |.w _ _,he,hc,hn=>BlkW.chg' he hc (hn _ (List.mem_singleton.2 rfl))
 |.m _ _ _,he,hc,hn=>MapB.chg he hc (hn _ (List.mem_singleton.2 rfl))
 |.o _ _ _ _,he,hc,hn=>OL.chg he hc hn
 |.x _ _ st _,he,hc,hn=>st _ _ _ hc hn he
theorem En.lt {h:Heap}:∀{e:En},e.at h→∀q∈e.fp,q<h.size
 |.b _ _,he,q,hq=>by rw[List.mem_singleton.1 hq];exact Blk.lt he
 |.w _ _,he,q,hq=>by rw[List.mem_singleton.1 hq];exact BlkW.lt' he
 |.m _ _ _,he,q,hq=>by rw[List.mem_singleton.1 hq];exact MapB.lt he
 |.o _ _ _ _,he,q,hq=>OL.lt he q hq
 |.x _ _ _ lt,he,q,hq=>lt _ he q hq
structure St (T:List Nat) (h0 h:Heap) (L:List En):Prop where
 chg:Chg T h0 h
 ents:∀(i:Nat) (e:En),L[i]? =some e→e.at h∧∀b∈e.fp,b∈T∨h0.size≤b
 apart:∀(i j:Nat) (e f:En),L[i]? =some e→L[j]? =some f→i≠j→∀b∈e.fp,b∉f.fp
variable {T:List Nat} {h0 h h':Heap} {L:List En} {e e':En}
theorem St.start (h:Heap):St [] h h []:=⟨Chg.refl h,fun i e hi=>by simp at hi,fun i j e f hi=>by simp at hi⟩
theorem St.get (w:St T h0 h L) (i:Nat) (hi:L[i]? =some e):e.at h:=(w.ents i e hi).1
theorem St.size (w:St T h0 h L):h0.size≤h.size:=w.chg.size
theorem St.ext (w:St T h0 h L) (hc:Chg [] h h'):St T h0 h' L:=
 ⟨w.chg.trans hc (fun _ hk=>hk) (by simp),fun i e hi=>⟨En.chg (w.ents i e hi).1 hc (by simp),(w.ents i e hi).2⟩,w.apart⟩
theorem St.add (w:St T h0 h L) (hc:Chg [] h h') (he:e.at h') (hf:∀b∈e.fp,h.size≤b):St T h0 h' (e::L):=by
 have w':=w.ext hc
 have hz:=w.size
 refine⟨w'.chg,fun i e' hi=>?_,fun i j e1 e2 hi hj hn b h1 h2=>?_⟩
 ·cases i with
  |zero=>cases hi;exact⟨he,fun b hb=>.inr (by have:=hf b hb;omega)⟩
  |succ i=>exact w'.ents i e' hi
 ·cases i with
  |zero=>
   cases hi
   cases j with
   |zero=>exact hn rfl
   |succ j=>
    have:=En.lt (w.get j hj) b h2
    have:=hf b h1
    omega
  |succ i=>
   cases j with
   |zero=>
    cases hj
    have:=En.lt (w.get i hi) b h1
    have:=hf b h2
    omega
   |succ j=>exact w.apart i j e1 e2 hi hj (by omega) b h1 h2
theorem St.new (w:St T h0 h L) {b:Nat} {z:List Value} (g:Grow h h' b z):St T h0 h' (.b b z::L):=
 w.add g.chg (show Blk h' b z from g.blk) fun k hk=>by rw[List.mem_singleton.1 hk,g.id];exact Nat.le_refl _
theorem St.newm (w:St T h0 h L) {b:Nat} {es:List MapEntry} {c:Nat} (g:GrowO h h' b (.map ⟨es⟩ c)):St T h0 h' (.m b es c::L):=
 w.add g.chg (show MapB h' b es c from g.blk) fun k hk=>by rw[List.mem_singleton.1 hk,g.id];exact Nat.le_refl _
theorem St.set (w:St T h0 h L) {S:List Nat} (i:Nat) (hi:L[i]? =some e) (hc:Chg S h h') (hS:∀b∈S,b∈e.fp∨h.size≤b) (he:e'.at h') (hf:∀b∈e'.fp,b∈e.fp∨h.size≤b):St T h0 h' (L.set i e'):=by
 have hz:=w.size
 have hil:i<L.length:=(List.getElem?_eq_some_iff.1 hi).1
 refine⟨w.chg.trans hc (fun _ hk=>hk) (fun k hk hlt=>?_),fun j f hj=>?_,fun j k f g hj hk hn b h1 h2=>?_⟩
 ·rcases hS k hk with h1|h1
  ·rcases(w.ents i e hi).2 k h1 with h2|h2
   ·exact h2
   ·omega
  ·omega
 ·by_cases hij:i=j
  ·subst hij
   rw[List.getElem?_set_self hil]at hj
   cases hj
   refine⟨he,fun b hb=>?_⟩
   rcases hf b hb with h1|h1
   ·exact(w.ents i e hi).2 b h1
   ·exact .inr (by omega)
  ·rw[List.getElem?_set_ne hij]at hj
   refine⟨En.chg (w.get j hj) hc fun b hb hbS=>?_,(w.ents j f hj).2⟩
   rcases hS b hbS with h1|h1
   ·exact w.apart i j e f hi hj hij b h1 hb
   ·have:=En.lt (w.get j hj) b hb;omega
 ·by_cases hij:i=j
  ·subst hij
   rw[List.getElem?_set_self hil]at hj
   rw[List.getElem?_set_ne hn]at hk
   cases hj
   rcases hf b h1 with h3|h3
   ·exact w.apart i k e g hi hk hn b h3 h2
   ·have:=En.lt (w.get k hk) b h2;omega
  ·rw[List.getElem?_set_ne hij]at hj
   by_cases hik:i=k
   ·subst hik
    rw[List.getElem?_set_self hil]at hk
    cases hk
    rcases hf b h2 with h3|h3
    ·exact w.apart i j e f hi hj hij b h3 h1
    ·have:=En.lt (w.get j hj) b h1;omega
   ·rw[List.getElem?_set_ne hik]at hk
    exact w.apart j k f g hj hk hn b h1 h2
def picks (L:List En):List Nat→List En
 |[]=>[]
 |i::l=>match L[i]? with
  |some e=>e::picks L l
  |none=>picks L l
theorem picks_get:∀{is:List Nat} {k:Nat} {e:En},(picks L is)[k]? =some e→∃j i:Nat,is[j]? =some i∧L[i]? =some e∧k≤j∧True
 |[],_,_,hk=>by simp[picks]at hk
 |i::is,k,e,hk=>by
  simp only[picks]at hk
  split at hk
  ·rename_i e1 he1
   cases k with
   |zero=>cases hk;exact⟨0,i,rfl,he1,Nat.le_refl _,trivial⟩
   |succ k=>
    obtain⟨j,i',h1,h2,h3,_⟩:=picks_get (is:=is) hk
    exact⟨j+1,i',h1,h2,by omega,trivial⟩
  ·obtain⟨j,i',h1,h2,h3,_⟩:=picks_get (is:=is) hk
   exact⟨j+1,i',h1,h2,by omega,trivial⟩
theorem picks_two:∀{is:List Nat} {k l:Nat} {e f:En},is.Nodup→(picks L is)[k]? =some e→(picks L is)[l]? =some f→k≠l→∃i j:Nat,L[i]? =some e∧L[j]? =some f∧i≠j∧i∈is∧j∈is
 |[],_,_,_,_,_,hk,_,_=>by simp[picks]at hk
 |i::is,k,l,e,f,hd,hk,hl,hn=>by
  obtain⟨hi,hd⟩:=List.nodup_cons.1 hd
  simp only[picks]at hk hl
  split at hk
  ·rename_i e1 he1
   rw[he1]at hl
   cases k with
   |zero=>
    cases hk
    cases l with
    |zero=>exact absurd rfl hn
    |succ l=>
     obtain⟨j,i',h1,h2,_⟩:=picks_get (is:=is) hl
     have hm:i'∈is:=List.mem_of_getElem? h1
     exact⟨i,i',he1,h2,fun e=>hi (e▸hm),by simp,by simp[hm]⟩
   |succ k=>
    cases l with
    |zero=>
     cases hl
     obtain⟨j,i',h1,h2,_⟩:=picks_get (is:=is) hk
     have hm:i'∈is:=List.mem_of_getElem? h1
     exact⟨i',i,h2,he1,fun e=>hi (e▸hm),by simp[hm],by simp⟩
    |succ l=>
     obtain⟨a,b,h1,h2,h3,h4,h5⟩:=picks_two (is:=is) hd hk hl (by omega)
     exact⟨a,b,h1,h2,h3,by simp[h4],by simp[h5]⟩
  ·rename_i hno
   have hl:(match L[i]? with|some e=>e::picks L is|none=>picks L is)[l]? =some f:=hl
   rw[hno]at hl
   obtain⟨a,b,h1,h2,h3,h4,h5⟩:=picks_two (is:=is) hd hk hl hn
   exact⟨a,b,h1,h2,h3,by simp[h4],by simp[h5]⟩
theorem St.pick (w:St T h0 h L) (is:List Nat) (hd:is.Nodup):St T h0 h (picks L is):=by
 refine⟨w.chg,fun k e hk=>?_,fun k l e f hk hl hn=>?_⟩
 ·obtain⟨_,i,_,hi,_⟩:=picks_get hk
  exact w.ents i e hi
 ·obtain⟨i,j,h1,h2,h3,_⟩:=picks_two hd hk hl hn
  exact w.apart i j e f h1 h2 h3
theorem St.ld {b o:Nat} {us:List Value} {v:Value} (w:St T h0 h L) (i:Nat) (hi:L[i]? =some (.b b us)) (hv:us[o]? =some v):cell h b o=some v:=cell_blk (w.get i hi) hv
theorem St.ld1 {b o:Nat} {us:List Value} {v:Value} {K:Value→Prop} (w:St T h0 h L) (i:Nat) (hi:L[i]? =some (.b b us)) (hv:us[o]? =some v) (k:K v):∃v,cell h b o=some v∧K v:=⟨v,w.ld i hi hv,k⟩
theorem St.ldw {b n:Nat} {us:List Value} {K:List Value→Prop} (w:St T h0 h L) (i:Nat) (hi:L[i]? =some (.b b us)) (hn:us.length=n) (k:K us):∃vs,vs.length=n∧Cells h b 0 vs∧K vs:=⟨us,hn,cells_blk (w.get i hi),k⟩
theorem St.put {b:Nat} {us l':List Value} (w:St T h0 h L) (i:Nat) (hi:L[i]? =some (.b b us)) (p:Put h h' b l'):St T h0 h' (L.set i (.b b l')):=
 w.set i hi p.chg (fun _ hk=>.inl hk) (show Blk h' b l' from p.blk) (fun _ hk=>.inl hk)
theorem St.st1 {b o n:Nat} {l ys:List Value} {K:Heap→Prop} (w:St T h0 h L) (i:Nat) (hi:L[i]? =some (.b b l)) (h1:Nat.ble (o+n) l.length=true) (h2:ys.length=n) (h3:ys.all Value.oneCell'=true)
  (k:∀h',St T h0 h' (L.set i (.b b (splice l o ys)))→K h'):∃l,Blk h b l∧o+n≤l.length∧ys.length=n∧(∀u∈ys,u.oneCell'=true)∧∀h',Put h h' b (splice l o ys)→K h':=
 ⟨l,w.get i hi,Nat.le_of_ble_eq_true h1,h2,fun u hu=>List.all_eq_true.1 h3 u hu,fun h' p=>k h' (w.put i hi p)⟩
theorem St.st2 {b o n:Nat} {l ys:List Value} {K:Heap→Prop} (w:St T h0 h L) (i:Nat) (hi:L[i]? =some (.b b l)) (h1:Nat.ble (o+n) l.length=true) (h2:ys.length=n) (h3:ys.all Value.oneCell'=true)
  (k:∀h',St T h0 h' (L.set i (.b b (splice l o ys)))→Chg [b] h h'→K h'):∃l,Blk h b l∧o+n≤l.length∧ys.length=n∧(∀u∈ys,u.oneCell'=true)∧∀h',Put h h' b (splice l o ys)→K h':=
 ⟨l,w.get i hi,Nat.le_of_ble_eq_true h1,h2,fun u hu=>List.all_eq_true.1 h3 u hu,fun h' p=>k h' (w.put i hi p) p.chg⟩
theorem St.st3 {b o n:Nat} {l ys:List Value} {K:Heap→Prop} (w:St T h0 h L) (i:Nat) (hi:L[i]? =some (.b b l)) (h1:Nat.ble (o+n) l.length=true) (h2:ys.length=n) (h3:∀u∈ys,u.oneCell'=true)
  (k:∀h',St T h0 h' (L.set i (.b b (splice l o ys)))→K h'):∃l,Blk h b l∧o+n≤l.length∧ys.length=n∧(∀u∈ys,u.oneCell'=true)∧∀h',Put h h' b (splice l o ys)→K h':=
 ⟨l,w.get i hi,Nat.le_of_ble_eq_true h1,h2,h3,fun h' p=>k h' (w.put i hi p)⟩
def En.nil:En:=.x [] (fun _=>True) (fun _ _ _ _ _ _=>trivial) (fun _ _ _b hb=>(nomatch hb))
theorem St.gone (w:St T h0 h L) {S:List Nat} (i:Nat) (hi:L[i]? =some e) (hc:Chg S h h') (hS:∀b∈S,b∈e.fp∨h.size≤b):St T h0 h' (L.set i En.nil):=w.set i hi hc hS trivial fun b hb=>(nomatch (show b∈([]:List Nat)from hb))
theorem St.ne {b b':Nat} {l l':List Value} (w:St T h0 h L) (i j:Nat) (hi:L[i]? =some (.b b l)) (hj:L[j]? =some (.b b' l')) (hn:i≠j):b≠b':=fun e=>w.apart i j _ _ hi hj hn b (List.mem_singleton.2 rfl) (List.mem_singleton.2 e)
theorem St.app {α:Type} {enc:α→List Value} {size bytes:Nat} {z:List Value} {a a':Option Addr} {n c m c2:Nat} {l l2:List α} {K:Value→Heap→Prop} (w:St T h0 h L) (i:Nat) (hi:L[i]? =some (.o enc size (.slice a n c) l))
  (hsz:∀x,(enc x).length=size) (h1:∀x,∀u∈enc x,u.oneCell'=true) (hz:z.length=size) (hsrc:SL enc h (.slice a' m c2) l2) (hbound:((l.length+l2.length)*2+768)*bytes≤281474976710656)
  (k:∀v' h',St T h0 h' (L.set i (.o enc size v' (l++l2)))→K v' h'):appP h K size bytes z a n c a' m:=
 app_own hsz h1 hz (w.get i hi) hsrc hbound fun v' h' ho hc hb=>k v' h' (w.set i hi hc (fun _ hk=>.inl hk) ho hb)
theorem St.mput {b:Nat} {es es':List MapEntry} {c c':Nat} (w:St T h0 h L) (i:Nat) (hi:L[i]? =some (.m b es c)) (p:PutO h h' b (.map ⟨es'⟩ c')):St T h0 h' (L.set i (.m b es' c')):=
 w.set i hi p.chg (fun _ hk=>.inl hk) (show MapB h' b es' c' from p.blk) (fun _ hk=>.inl hk)
structure As (h0 h:Heap) (e:En):Prop where
 chg:Chg [] h0 h
 at_:e.at h
 fresh:∀b∈e.fp,h0.size≤b
structure Own (e:En) (h:Heap) (e':En) (h':Heap):Prop where
 at_:e'.at h'
 chg:Chg e.fp h h'
 fresh:∀b∈e'.fp,b∈e.fp∨h.size≤b
theorem As.st (x:As h0 h e):St e.fp h h [e]:=by
 refine⟨(Chg.refl h).mono (by simp),fun i e1 hi=>?_,fun i j e1 f hi hj hn=>?_⟩
 ·match i,hi with
  |0,hi=>cases hi;exact⟨x.at_,fun b hb=>.inl hb⟩
 ·match i,j,hi,hj,hn with
  |0,0,_,_,hn=>exact absurd rfl hn
theorem As.base {M:List En} (x:As h0 h e) (w:St e.fp h h' M):Chg [] h0 h':=x.chg.fresh w.chg x.fresh
theorem As.ext (x:As h0 h e) (hc:Chg [] h h'):As h0 h' e:=⟨x.chg.nil hc,En.chg x.at_ hc (by simp),x.fresh⟩
theorem As.out {M:List En} (x:As h0 h e) (w:St e.fp h h' M) (i:Nat) (hi:M[i]? =some e'):As h0 h' e'∧Own e h e' h':=by
 have hz:=x.chg.size
 obtain⟨h1,h2⟩:=w.ents i e' hi
 refine⟨⟨x.base w,h1,fun b hb=>?_⟩,h1,w.chg,h2⟩
 rcases h2 b hb with h3|h3
 ·exact x.fresh b h3
 ·omega
theorem St.own {M:List En} (w:St T h0 h M) (i:Nat) (hi:M[i]? =some e) (o:Own e h e' h'):St T h0 h' (M.set i e'):=w.set i hi o.chg (fun _ hk=>.inl hk) o.at_ o.fresh
theorem Own.refl (he:e.at h) (hc:Chg [] h h'):Own e h e h':=⟨En.chg he hc (by simp),hc.mono (by simp),fun _ hb=>.inl hb⟩
theorem St.as {M:List En} (w:St [] h0 h M) (i:Nat) (hi:M[i]? =some e):As h0 h e:=⟨w.chg,w.get i hi,fun b hb=>by
 rcases(w.ents i e hi).2 b hb with h1|h1
 ·cases h1
 ·exact h1⟩
section
variable {P:Program} {f:Nat} {vs:List Value} {K:Value→Heap→Prop} {Qp:List PanicEntry→Heap→Prop} {v:Value}
theorem St.callv (w:St T h0 h L) (hc:CallsH P f vs h (Ret fun r h'=>r=v∧Chg [] h h')) (k:∀h',St T h0 h' L→K v h'):CallsH P f vs h (after K Qp):=
 call_ret hc fun r h' hr=>by obtain⟨rfl,hch⟩:=hr;exact k h' (w.ext hch)
theorem callp (hc:CallsH P f vs h (Ret fun r h'=>r=v∧h'=h)) (k:K v h):CallsH P f vs h (after K Qp):=
 call_ret hc fun r h' hr=>by obtain⟨rfl,e⟩:=hr;have e:=e.symm;subst e;exact k
theorem St.callqv (w:St T h0 h L) (hc:CallsH P f vs h (Ret fun r h'=>r=v∧Chg [] h h')) (k:∀h',St T h0 h' L→K v h'):CallsH P f vs h (fun e h'=>Ext h h'∧after K Qp e h'):=
 callq_ret hc fun r h' hr=>by obtain⟨rfl,hch⟩:=hr;exact⟨hch.ext,k h' (w.ext hch)⟩
end
end Go.Sx
namespace Go.Proofs.YtjnijlnmbjjgpaaGreatDoor
open Go Go.Sx C
section
variable {h0 h h1 h':Heap} {ab kb:Nat} {now:Int} {av lv lv':Value} {A:List ByteArray} {L E:List Eff} {M:List En} {T:List Nat}
end
def thE (t:Thing) (pv lv rv:Value):En:=
 .x (bl3 pv lv rv) (fun h=>TH h (cellsT t pv lv rv) t∧∀b∈bl3 pv lv rv,b<h.size) (fun _S _h _h' hc hn ⟨h1,h2⟩=>⟨th_off h1 hc hn,fun b hb=>Nat.lt_of_lt_of_le (h2 b hb) hc.size⟩) (fun _h ⟨_,h2⟩ b hb=>h2 b hb)
def apart7 (c d e0 e1 b v a1 a2 a3:Nat) (E:List (Nat×Value)):Bool:=
 !Nat.beq d e0&&!Nat.beq e0 b&&!Nat.beq e0 e1&&!Nat.beq e1 b&&!Nat.beq b v&&!Nat.beq b c&&!Nat.beq b d&&!Nat.beq b e1&&!Nat.beq a1 b&&!Nat.beq a2 b&&!Nat.beq a3 b&&
  E.all fun p=>!Nat.beq p.1 c&&!Nat.beq p.1 d&&!Nat.beq p.1 e0&&!Nat.beq p.1 e1&&!Nat.beq p.1 b&&!Nat.beq p.1 v
theorem beqF {a b:Nat} (h:Nat.beq a b=false):a≠b:=fun e=>by subst e;rw[Nat.beq_refl]at h;cases h
theorem beqT {a b:Nat} (h:a≠b):Nat.beq a b=false:=by
 cases hb:Nat.beq a b with
 |false=>rfl
 |true=>exact absurd (Nat.eq_of_beq_eq_true hb) h
theorem sub7 {σ τ:Env} {c d e0 e1 b v:Nat}:∀{E:List (Nat×Value)},SubL σ E→(E.all fun p=>!Nat.beq p.1 c&&!Nat.beq p.1 d&&!Nat.beq p.1 e0&&!Nat.beq p.1 e1&&!Nat.beq p.1 b&&!Nat.beq p.1 v)=true→
  (∀t,t≠c→t≠d→t≠e0→t≠e1→t≠b→t≠v→τ t=σ t)→SubL τ E
 |[],_,_,_=>trivial
 |(n,u)::E,⟨h1,h2⟩,ha,ht=>by
  simp only[List.all_cons,Bool.and_eq_true,Bool.not_eq_true']at ha
  obtain⟨⟨⟨⟨⟨⟨n1,n2⟩,n3⟩,n4⟩,n5⟩,n6⟩,ha⟩:=ha
  exact⟨by rw[ht n (beqF n1) (beqF n2) (beqF n3) (beqF n4) (beqF n5) (beqF n6)];exact h1,sub7 h2 ha ht⟩
structure Rep where
 k:Int
 i:Int
 s:ByteArray
 l:List (Int×Int×ByteArray)
abbrev rep (k i:Int) (s:ByteArray):Rep:=⟨k,i,s,[]⟩
def encQ (x:Int×Int×ByteArray):List Value:=[.int .i64 x.1,.int .i64 x.2.1,.string x.2.2,.slice none 0 0]
theorem encQ_len (x:Int×Int×ByteArray):(encQ x).length=4:=rfl
theorem encQ_one (x:Int×Int×ByteArray):∀u∈encQ x,u.oneCell'=true:=repV_ones x.1 x.2.1 x.2.2
def RepAt (z:Nat) (h:Heap) (v:Value) (q:Rep):Prop:=∃a n c,v=.agg ⟨[.int .i64 q.k,.int .i64 q.i,.string q.s,.slice a n c]⟩∧SL encQ h (.slice a n c) q.l∧∀b∈ablk a,z≤b
theorem four {ws vs:List Value} (hw:ws.length=4) (hv:vs.length=4):splice ws 0 vs=vs:=by
 match ws,hw,vs,hv with
 |[_,_,_,_],_,[_,_,_,_],_=>rfl
section
variable {h0 h h1 h':Heap} {ab kb sb mb c b2:Nat} {now lo hi k n:Int} {av lv lv':Value} {A:List ByteArray} {L E:List Eff} {M:List En} {T:List Nat} {s key why:ByteArray} {m:List KI} {S:Space} {res:Except ByteArray (Rep×List Eff)}
 {K:Value→Heap→Prop} {Qp:List PanicEntry→Heap→Prop}
def wArgs:ByteArray:=⟨#[69,82,82,32,97,114,103,115]⟩
end
theorem mono_at {c:SCode} {Q:Post} {ds:List Deferred} (hq:Mono Q):MonoE (fun σ h=>swp Tryz.prog c Q σ ds h):=fun σ σ' h hs hh=>swp_sub c Q σ σ' ds h hq hs hh
theorem one_arg {α:Type} {A:List α} (h:(1:Int)≤A.length∧(A.length:Int)≤1):∃x,A=[x]:=by
 match A,h with
 |[],h=>simp at h
 |[x],_=>exact⟨x,rfl⟩
 |x::y::l,h=>simp at h;omega
theorem two_arg {α:Type} {A:List α} (h:(2:Int)≤A.length∧(A.length:Int)≤2):∃x y,A=[x,y]:=by
 match A,h with
 |[],h=>simp at h
 |[x],h=>simp at h
 |[x,y],_=>exact⟨x,y,rfl⟩
 |x::y::z::l,h=>simp at h;omega
def arg1 (f:ByteArray→Except ByteArray (Rep×List Eff)):List ByteArray→Except ByteArray (Rep×List Eff)
 |[x]=>f x
 |_=>.error wArgs
def arg2 (f:ByteArray→ByteArray→Except ByteArray (Rep×List Eff)):List ByteArray→Except ByteArray (Rep×List Eff)
 |[x,y]=>f x y
 |_=>.error wArgs
theorem arg1_bad {f:ByteArray→Except ByteArray (Rep×List Eff)} {A:List ByteArray} (h:¬((1:Int)≤A.length∧(A.length:Int)≤1)):arg1 f A=.error wArgs:=by
 match A,h with
 |[],_=>rfl
 |[x],h=>exact absurd ⟨by simp,by simp⟩ h
 |x::y::l,_=>rfl
theorem arg2_bad {f:ByteArray→ByteArray→Except ByteArray (Rep×List Eff)} {A:List ByteArray} (h:¬((2:Int)≤A.length∧(A.length:Int)≤2)):arg2 f A=.error wArgs:=by
 match A,h with
 |[],_=>rfl
 |[x],_=>rfl
 |[x,y],h=>exact absurd ⟨by simp,by simp⟩ h
 |x::y::z::l,_=>rfl
end Go.Proofs.YtjnijlnmbjjgpaaGreatDoor
namespace Go.Proofs.YtjnijlnmbjjgpaaGreatDoor
open Go Go.Sx C Go.Num
def T63:Nat:=9223372036854775808
def rest13:SCode:=(.seq (.seq (.ops f132r7) (.cond (.tmp 41) (.seq (.ops f132r8) .ret) .skip)) (.seq (.ops f132r9) (.seq (.seq (.ops f132r10) (.block 0 (.loop f132l19)))
 (.seq (.seq (.ops f132r20) (.cond (.tmp 72) (.seq (.ops f132r21) .ret) .skip)) (.seq (.seq (.ops f132r22) (.cond (.tmp 75) (.seq (.ops f132r23) .ret) .skip)) (.seq (.ops f132r24) .ret))))))
def numV (o:Option Int):Value:=.tuple #[.int .i64 (o.getD 0),.bool o.isSome]
theorem wrapU8 {x:Int} (h0:0≤x) (h1:x<256):IntKind.u8.wrap x=x:=by
 have e:IntKind.u8.wrap x=x%256:=by simp[IntKind.wrap,IntKind.bits,IntKind.signed]
 rw[e];omega
theorem at_get {d:List UInt8} {q:Nat} (hq:q<d.length):(⟨⟨d⟩⟩:ByteArray)[q]? =some d[q]:=by
 show(⟨d⟩:Array UInt8)[q]? =_
 simp[hq]
theorem drop_at {d:List UInt8} {q:Nat} (hq:q<d.length):d.drop q=d[q]::d.drop (q+1):=List.drop_eq_getElem_cons hq
theorem quo10 {T x:Nat} (h:x≤T):(-(T:Int)+x).tdiv 10= -(((T-x)/10:Nat):Int):=by
 have e:(-(T:Int)+x)= -((T-x:Nat):Int):=by omega
 rw[e,Int.neg_tdiv]
 rfl
theorem head_iff {d:List UInt8} (h:1<d.length) (c:UInt8):d.head? =some c↔d[0]'(by omega)=c:=by
 cases d with
 |nil=>simp at h
 |cons x r=>simp
theorem str_empty {d:List UInt8}:((⟨⟨d⟩⟩:ByteArray)=⟨#[]⟩)↔d=[]:=by
 constructor
 ·intro h;injection h with h;injection h
 ·rintro rfl;rfl
theorem rest13_run {T:Nat} (hT:T=9223372036854775808) {h:Heap} {neg:Bool} {d:List UInt8} (hd:d.length≤20):
  swp Tryz.prog rest13 (retQ [.t 2,.t 3] (Ret fun r h'=>r=numV (refBody T neg d)∧h'=h)) (mk [(4,.bool neg),(5,.string ⟨⟨d⟩⟩)]) [] h:=by
 have none_ret:∀{r:Option Int},r=none→numV r=.tuple #[.int .i64 0,.bool false]:=by rintro _ rfl;rfl
 have main:¬(d=[]∨(1<d.length∧d.head? =some 48)∨(neg=true∧d=[48]))→
   swp Tryz.prog (.seq (.ops f132r9) (.seq (.seq (.ops f132r10) (.block 0 (.loop f132l19)))
    (.seq (.seq (.ops f132r20) (.cond (.tmp 72) (.seq (.ops f132r21) .ret) .skip)) (.seq (.seq (.ops f132r22) (.cond (.tmp 75) (.seq (.ops f132r23) .ret) .skip)) (.seq (.ops f132r24) .ret)))))
    (retQ [.t 2,.t 3] (Ret fun r h'=>r=numV (refBody T neg d)∧h'=h)) (mk [(4,.bool neg),(5,.string ⟨⟨d⟩⟩)]) [] h:=by
  intro hb
  have eb:refBody T neg d=refTail T neg d:=by unfold refBody;rw[if_neg hb]
  rw[eb]
  have nn:∀{r:Option Nat},runD T 0 d=r→r=none→numV (refTail T neg d)=.tuple #[.int .i64 0,.bool false]:=by
   rintro _ h1 rfl
   unfold refTail
   rw[h1];rfl
  refine loop_intro (fun p:Nat×Nat=>[(4,.bool neg),(5,.string ⟨⟨d⟩⟩),(6,.int .i64 (-(p.2:Int))),(7,.int .i64 p.1)]) (fun p h'=>p.1≤d.length∧h'=h∧p.2≤T∧runD T 0 d=runD T p.2 (d.drop p.1)) (fun p=>d.length-p.1) (0,0)
   ⟨rfl,rfl,rfl,rfl,trivial⟩ ⟨Nat.zero_le _,rfl,Nat.zero_le _,rfl⟩ ?_
  rintro⟨q,m⟩ h1 ⟨hq,rfl,hm,hrun⟩
  simp only at hq hm hrun
  have hsz:((⟨⟨d⟩⟩:ByteArray).size:Int)=d.length:=rfl
  refine Ai rfl (Ai (fun hlt=>?_) (fun hge=>?_))
  ·have hlt:q<d.length:=by simp only at hlt;omega
   have hc:=at_get hlt
   have hdr:=drop_at hlt
   obtain⟨c,hcc⟩:∃c,c=d[q]:=⟨_,rfl⟩
   rw[←hcc]at hc hdr
   rw[hdr,runD_cons]at hrun
   refine Ei c (Ai (by simp only;omega) (Ai (by simpa using hc) ?_))
   refine Ai rfl (Ai (fun h48=>?_) (fun h48=>?_))
   ·rw[if_neg (by omega)]at hrun
    rw[nn hrun rfl]
    exact Ai rfl rfl
   ·refine Ei c (Ai (by simp only;omega) (Ai (by simpa using hc) ?_))
    refine Ai rfl (Ai (fun h57=>?_) (fun h57=>?_))
    ·rw[if_neg (by omega)]at hrun
     rw[nn hrun rfl]
     exact Ai rfl rfl
    ·rw[if_pos ⟨by omega,by omega⟩]at hrun
     refine Ei c (Ai (by simp only;omega) (Ai (by simpa using hc) ?_))
     refine Ai rfl (fun z hz=>?_)
     have hz:z=((c.toNat-48:Nat):Int):=by
      have e:z=IntKind.u8.wrap ((c.toNat:Int)-48):=hz
      rw[e,wrapU8 (by omega) (by omega)];omega
     subst hz
     refine fun z2 hz2=>?_
     have hz2:z2=((c.toNat-48:Nat):Int):=by rw[hz2];exact wrap_in (by omega) (by omega)
     subst hz2
     have hx:c.toNat-48≤9:=by omega
     obtain⟨x,hxe⟩:∃x,x=c.toNat-48:=⟨_,rfl⟩
     have hnx:nxt m c=m*10+x:=by rw[nxt_eq,hxe]
     rw[hnx]at hrun
     rw[←hxe]at hx⊢
     refine Ai rfl (fun z3 hz3=>?_)
     have hz3:z3= -(T:Int)+x:=by
      have:=add_in hz3 (by omega) (by omega)
      rw[this];omega
     subst hz3
     refine Ai rfl (Ai (by decide) (fun z4 hz4=>?_))
     have hz4:z4= -(((T-x)/10:Nat):Int):=by
      rw[hz4,quo10 (by omega)]
      exact wrap_in (by omega) (by omega)
     subst hz4
     refine Ai rfl (Ai (fun hover=>?_) (fun hok=>?_))
     ·simp only at hover
      rw[if_pos (by omega)]at hrun
      rw[nn hrun rfl]
      exact Ai rfl rfl
     ·simp only at hok
      rw[if_neg (by omega)]at hrun
      refine Ai rfl (fun z5 hz5=>?_)
      have hz5:z5= -((m*10:Nat):Int):=by
       have e:z5=IntKind.i64.wrap (-(m:Int)*10):=hz5
       rw[e,wrap_in (by omega) (by omega)];omega
      subst hz5
      refine Ai rfl (fun z6 hz6=>?_)
      have hz6:z6= -((m*10+x:Nat):Int):=by
       have:=sub_in hz6 (by omega) (by omega)
       rw[this];omega
      subst hz6
      refine Ai rfl (fun z7 hz7=>?_)
      have hz7:=add_in hz7 (by simp only;omega) (by simp only;omega)
      subst hz7
      exact Ai rfl (Ei (q+1,m*10+x) (Ai ⟨rfl,rfl,rfl,rfl,trivial⟩ (Ai ⟨hlt,rfl,by simp only;omega,hrun⟩ (by simp only;omega))))
  ·have hge:q=d.length:=by simp only at hge;omega
   subst hge
   rw[List.drop_length,runD_nil]at hrun
   have et:refTail T neg d=if neg then some (-(m:Int))else if m=T then none else some m:=by unfold refTail;rw[hrun]
   cases neg with
   |true=>
    rw[et]
    exact Ai rfl rfl
   |false=>
    refine Ai rfl (Ai (fun he=>?_) (fun hne=>?_))
    ·have:m=T:=by simp only at he;omega
     rw[et]
     simp only[Bool.false_eq_true,if_false,if_pos this]
     exact Ai rfl rfl
    ·have hmne:m≠T:=by simp only at hne;omega
     refine fun z hz=>?_
     have hz:z=(m:Int):=by
      rw[hz,wrap_in (by simp only;omega) (by simp only;omega)];simp only;omega
     subst hz
     rw[et]
     simp only[Bool.false_eq_true,if_false,if_neg hmne]
     exact Ai rfl rfl
 have dead:(d=[]∨(1<d.length∧d.head? =some 48)∨(neg=true∧d=[48]))→numV (refBody T neg d)=.tuple #[.int .i64 0,.bool false]:=fun hb=>by
  unfold refBody;rw[if_pos hb];rfl
 have cut:∀{σ:Env},¬(d=[]∨(1<d.length∧d.head? =some 48)∨(neg=true∧d=[48]))→σ 4=some (.bool neg)→σ 5=some (.string ⟨⟨d⟩⟩)→_:=fun{σ} hb h4 h5=>cut_at (σ:=σ) [(4,.bool neg),(5,.string ⟨⟨d⟩⟩)] ⟨h4,h5,trivial⟩ (main hb)
 refine Ai (fun he=>?_) (fun hne=>?_)
 ·rw[dead (.inl (str_empty.1 he))]
  exact Ai rfl rfl
 ·have hne:d≠[]:=fun e=>hne (str_empty.2 e)
  have hpos:=List.length_pos_iff.2 hne
  refine Ai rfl (Ai (fun h1=>?_) (fun h1=>?_))
  ·have h1:1<d.length:=by
    have e:((⟨⟨d⟩⟩:ByteArray).size:Int)=d.length:=rfl
    rw[e]at h1;omega
   refine Ei d[0] (Ai (by decide) (Ai (at_get (by omega)) ?_))
   refine Ai rfl (Ai (fun h48=>?_) (fun h48=>?_))
   ·have:d.head? =some 48:=(head_iff h1 48).2 (UInt8.toNat_inj.1 (by have h48:(d[0].toNat:Int)=48:=h48;show d[0].toNat=48;omega))
    rw[dead (.inr (.inl ⟨h1,this⟩))]
    exact Ai rfl rfl
   ·have hh:¬d.head? =some 48:=fun e=>h48 (by rw[(head_iff h1 48).1 e];rfl)
    cases neg with
    |true=>
     refine Ai (fun he=>?_) (fun hne2=>?_)
     ·have:d=[48]:=by injection he with he;injection he
      rw[dead (.inr (.inr ⟨rfl,this⟩))]
      exact Ai rfl rfl
     ·refine cut ?_ rfl rfl
      rintro(h|⟨_,h⟩|⟨_,h⟩)
      ·exact hne h
      ·exact hh h
      ·rw[h]at h1;simp at h1
    |false=>
     refine cut ?_ rfl rfl
     rintro(h|⟨_,h⟩|⟨h,_⟩)
     ·exact hne h
     ·exact hh h
     ·cases h
  ·have h1:¬1<d.length:=by
    have e:((⟨⟨d⟩⟩:ByteArray).size:Int)=d.length:=rfl
    rw[e]at h1;omega
   cases neg with
   |true=>
    refine Ai (fun he=>?_) (fun hne2=>?_)
    ·have:d=[48]:=by injection he with he;injection he
     rw[dead (.inr (.inr ⟨rfl,this⟩))]
     exact Ai rfl rfl
    ·refine cut ?_ rfl rfl
     rintro(h|⟨h,_⟩|⟨_,h⟩)
     ·exact hne h
     ·exact h1 h
     ·subst h;exact hne2 rfl
   |false=>
    refine cut ?_ rfl rfl
    rintro(h|⟨h,_⟩|⟨h,_⟩)
    ·exact hne h
    ·exact h1 h
    ·cases h
theorem ops_mv {P:Program} {x:Operand} {d:Nat} {c:SCode} {Q:Post} {σ:Env} {ds:List Deferred} {h:Heap} {v:Value} (he:ev σ x=some v) (hs:swp P c Q (upd σ (some d) v) ds h):
  swp P (.seq (.ops [⟨some d,none,.mv x⟩]) c) Q σ ds h:=by
 simp only[swp,sops,sopr,sop,he]
 exact hs
theorem ops_mv2 {P:Program} {x y:Operand} {d e:Nat} {c:SCode} {Q:Post} {σ:Env} {ds:List Deferred} {h:Heap} {v w:Value} (he:ev σ x=some v) (hf:ev (upd σ (some d) v) y=some w) (hs:swp P c Q (upd (upd σ (some d) v) (some e) w) ds h):
  swp P (.seq (.ops [⟨some d,none,.mv x⟩,⟨some e,none,.mv y⟩]) c) Q σ ds h:=by
 simp only[swp,sops,sopr,sop,he,hf]
 exact hs
theorem mv_end {P:Program} {F:List PanicEntry→Heap→Prop} {x:Operand} {d:Nat} {c:SCode} {Q:Post} {σ:Env} {ds:List Deferred} {h:Heap} {v:Value} (he:ev σ x=some v) (hs:swp P c Q (upd σ (some d) v) ds h):
  sops P F (fun σ' h'=>thenQ (swp P c Q) Q .normal σ' ds h') [⟨some d,none,.mv x⟩] σ h:=by
 simp only[sops,sopr,sop,he]
 exact hs
theorem cond_go {P:Program} {x:Operand} {a b c:SCode} {Q:Post} {σ:Env} {ds:List Deferred} {h:Heap} {t:Bool} (he:ev σ x=some (.bool t)) (hs:swp P (.seq (bif t then a else b) c) Q σ ds h):swp P (.seq (.cond x a b) c) Q σ ds h:=by
 cases t with
 |true=>simp only[swp,he];exact hs
 |false=>simp only[swp,he];exact hs
theorem assoc_go {P:Program} {a b c:SCode} {Q:Post} {σ:Env} {ds:List Deferred} {h:Heap} (hs:swp P (.seq a (.seq b c)) Q σ ds h):swp P (.seq (.seq a b) c) Q σ ds h:=by
 have e:thenQ (swp P b (thenQ (swp P c Q) Q)) (thenQ (swp P c Q) Q)=thenQ (swp P b (thenQ (swp P c Q) Q)) Q:=by
  funext x;cases x<;>rfl
 simp only[swp]at hs⊢
 rw[e];exact hs
theorem skip_go {P:Program} {c:SCode} {Q:Post} {σ:Env} {ds:List Deferred} {h:Heap} (hs:swp P c Q σ ds h):swp P (.seq .skip c) Q σ ds h:=hs
def sgn:SCode:=.seq (.ops f132r4) (.seq (.seq (.ops f132r5) (.cond (.tmp 20) (.ops f132r6) .skip)) rest13)
theorem sign_neg {T:Nat} (hT:T=9223372036854775808) {h:Heap} {r:List UInt8} (h20:(45::r:List UInt8).length≤20):
  swp Tryz.prog sgn (retQ [.t 2,.t 3] (Ret fun r' h'=>r'=numV (refBody T true r)∧h'=h)) (mk [(0,.string ⟨⟨45::r⟩⟩),(4,.bool true)]) [] h:=by
 unfold sgn
 have hsz:(⟨⟨45::r⟩⟩:ByteArray).size=r.length+1:=rfl
 refine ops_mv2 rfl rfl ?_
 refine assoc_go ?_
 refine ops_mv rfl ?_
 refine cond_go (t:=true) rfl ?_
 refine Ai (by decide) (Ai (by rw[hsz];omega) (Ai (by rw[hsz];omega) ?_))
 have ex:(⟨⟨45::r⟩⟩:ByteArray).extract (Int.toNat 1) (Int.toNat ((⟨⟨45::r⟩⟩:ByteArray).size:Nat))=⟨⟨r⟩⟩:=by
  apply ByteArray.ext
  rw[ByteArray.data_extract]
  apply Array.ext'
  rw[Array.toList_extract,hsz]
  simp
 exact cut_at [(4,.bool true),(5,.string ⟨⟨r⟩⟩)] ⟨rfl,by rw[←ex];rfl,trivial⟩ (rest13_run hT (by simp at h20;omega))
theorem sign_pos {T:Nat} (hT:T=9223372036854775808) {h:Heap} {d:List UInt8} (h20:d.length≤20):
  swp Tryz.prog sgn (retQ [.t 2,.t 3] (Ret fun r' h'=>r'=numV (refBody T false d)∧h'=h)) (mk [(0,.string ⟨⟨d⟩⟩),(4,.bool false)]) [] h:=by
 unfold sgn
 refine ops_mv2 rfl rfl ?_
 refine assoc_go ?_
 refine ops_mv rfl ?_
 refine cond_go (t:=false) rfl ?_
 refine skip_go ?_
 exact cut_at [(4,.bool false),(5,.string ⟨⟨d⟩⟩)] ⟨rfl,rfl,trivial⟩ (rest13_run hT h20)
theorem ref_cons {T:Nat} {c:UInt8} {r:List UInt8} (h20:(c::r).length≤20):refNum T (c::r)=(if c=45 then refBody T true r else refBody T false (c::r)):=by
 have hnb:¬(c::r=[]∨20<(c::r).length):=by
  rintro(h|h)
  ·cases h
  ·omega
 unfold refNum
 rw[if_neg hnb]
 by_cases hc:c=45
 ·subst hc;rw[if_pos (show(45::r:List UInt8).head? =some 45 from rfl),if_pos rfl];rfl
 ·rw[if_neg hc,if_neg (by simpa using hc)]
theorem r3_run {T:Nat} (hT:T=9223372036854775808) {h:Heap} {c:UInt8} {r:List UInt8} (h20:(c::r).length≤20):
  swp Tryz.prog (.seq (.ops f132r3) sgn) (retQ [.t 2,.t 3] (Ret fun r' h'=>r'=numV (refNum T (c::r))∧h'=h)) (mk [(0,.string ⟨⟨c::r⟩⟩)]) [] h:=by
 rw[ref_cons h20]
 refine Ei c (Ai (by decide) (Ai (at_get (d:=c::r) (q:=0) (by simp)) ?_))
 refine Ai rfl (Ai (fun h45=>?_) (fun h45=>?_))
 ·have hc:c=45:=UInt8.toNat_inj.1 (by have h45:(c.toNat:Int)=45:=h45;show c.toNat=45;omega)
  subst hc
  rw[if_pos rfl]
  refine mv_end (v:=.bool true) ?_ ?_
  ·exact rfl
  exact cut_at [(0,.string ⟨⟨45::r⟩⟩),(4,.bool true)] ⟨rfl,rfl,trivial⟩ (sign_neg hT h20)
 ·have hc:¬c=45:=by
   intro e;subst e;exact h45 rfl
  rw[if_neg hc]
  refine mv_end (v:=.bool false) ?_ ?_
  ·exact rfl
  exact cut_at [(0,.string ⟨⟨c::r⟩⟩),(4,.bool false)] ⟨rfl,rfl,trivial⟩ (sign_pos hT h20)
theorem r8num_calls {T:Nat} (hT:T=9223372036854775808) {h:Heap} {l:List UInt8} (hs:l.length<4611686018427387904):
  CallsH Tryz.prog 132 [.string ⟨⟨l⟩⟩] h (Ret fun r h'=>r=numV (refNum T l)∧h'=h):=by
 refine f132_calls (by simp) ?_
 have hsz:((⟨⟨l⟩⟩:ByteArray).size:Int)=l.length:=rfl
 have dead:(l=[]∨20<l.length)→numV (refNum T l)=.tuple #[.int .i64 0,.bool false]:=fun hb=>by
  unfold refNum;rw[if_pos hb];rfl
 refine Ai (fun he=>?_) (fun hne=>?_)
 ·rw[dead (.inl (str_empty.1 he))]
  exact Ai rfl rfl
 ·have hne:l≠[]:=fun e=>hne (str_empty.2 e)
  refine Ai rfl (Ai (fun h20=>?_) (fun h20=>?_))
  ·rw[dead (.inr (by rw[hsz]at h20;omega))]
   exact Ai rfl rfl
  ·have h20:l.length≤20:=by rw[hsz]at h20;omega
   obtain⟨c,r,rfl⟩:=List.exists_cons_of_ne_nil hne
   exact cut_at [(0,.string ⟨⟨c::r⟩⟩)] ⟨rfl,trivial⟩ (r3_run hT h20)
end Go.Proofs.YtjnijlnmbjjgpaaGreatDoor

