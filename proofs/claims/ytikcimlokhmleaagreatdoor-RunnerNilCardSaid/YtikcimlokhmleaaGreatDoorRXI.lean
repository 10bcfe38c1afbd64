/-
  The simplified code of this seat's functions, and that it is what the program's code comes to. Printed by a program (wip/print.lean).
  Texts in order; plain.
  The lift, more: slices within slices.
  Appends to nil; slices written; small words.
  Slices of one's own, cut, written, grown in the middle; small words.
-/
import Derived.Test.YtikcimlokhmleaaGreatDoorProg
import Derived.Lib.Bytealg
import Derived.Deep.DeepHandedRow
import Derived.Laws.Externs
import Derived.Lib.Overlaps
import Derived.Test.YtikcimlokhmleaaGreatDoorRXC
set_option linter.unusedSimpArgs false
set_option linter.unusedVariables false
abbrev Go.Sx.LS : Type := List Go.Sx.SOper
namespace Go.Sx.S
abbrev M (d s:Nat):SOper:=o d (.mv (t s))
abbrev I (d:Nat) (n:Int):SOper:=o d (.mv (i n))
abbrev A (d k s:Nat):SOper:=o d (.fa k (t s))
abbrev L (d s:Nat):SOper:=o d (.ld1 (t s))
abbrev K (d s:Nat):SOper:=o d (.nilck (t s))
abbrev X (d s k:Nat):SOper:=o d (.ext (t s) k)
abbrev E (d s:Nat) (n:Int):SOper:=o d (.cmp .eql (t s) (i n))
abbrev D (d s:Nat) (n:Int):SOper:=o d (.ar .add (t s) (i n))
abbrev G (d k s n:Nat):SOper:=o d (.ixs k (t s) (t n))
end Go.Sx.S
abbrev Go.Sx.SCode.j (l:List SOper) (c:SCode):SCode:=.seq (.ops l) c
abbrev Go.Sx.SCode.k (n:Nat) (l:List SOper):SCode:=.cond (.tmp n) (.seq (.ops l) .ret) .skip
set_option maxRecDepth 100000
namespace Go.Proofs.YtikcimlokhmleaaGreatDoor.C
open Go Go.Sx Go.Sx.S
theorem mixed:Tryz.prog.follows .mixedOrders=true:=by kernel_rfl
theorem sdo {f:Nat} {fn:Func} {c:Code} {sc:SCode} {rs:List SRes} (hf:Tryz.prog.funcs[f]? =some fn) (hb:fn.body=some c) (h:(okFn Tryz.prog f,comp Tryz.prog fn.ntmps c,cres Tryz.prog fn.results.toList)=(true,some sc,some rs)):Sound Tryz.prog f fn.ntmps sc rs:=
 sound_of mixed hf hb (congrArg (fun x=>x.1) h) (congrArg (fun x=>x.2.1) h) (congrArg (fun x=>x.2.2) h)
def f3r0:LS:=[o 2 (.box (t 0)),o 4 (.mv (b false))]
def f3r1:LS:=[o 14 (.ldn 2 (t 2)),o 15 (.bslice [(.int .i64 0),(.slice none 0 0)] 1 [(0,2)] [(t 14)]),o 16 (.build [(.int .i64 0),(.int .i64 0),(.int .i64 0)] [] []),o 17 (.call 4 [(t 15),(t 16)]),M 18 17,
 n 19 18 (.mv (t 1)),
 n 20 18 (.len (t 19)),
 n 21 18 (.cmp .gtr (t 20) (i 60)),o 22 (.pick (t 18) (b true) (t 21))]
def f3r2:LS:=[o 23 (.call 5 []),M 4 23]
def f3r3:LS:=[o 5 (.mv (.const (.pointer none)))]
def f3r4:LS:=[o 24 (.build [(.pointer none),(.int .i64 0),(.int .i64 0),(.int .i64 0)] [] []),o 25 (.box (t 24)),M 6 25]
def f3r5:LS:=[M 27 5,A 28 0 2,L 29 28,A 30 1 2,L 31 30,o 32 (.call 6 [(t 27),(t 29),(t 31)]),M 26 32,X 33 26 0,X 34 26 1,o 7 (.new [(.int .i64 0),(.int .i64 0),(.string ⟨#[]⟩),(.slice none 0 0)]),q (.st 4 (t 7) (t 33)),M 8 34]
def f3r6:LS:=[M 36 6,A 37 0 2,L 38 37,A 39 1 2,L 40 39,o 41 (.call 6 [(t 36),(t 38),(t 40)]),M 35 41,X 42 35 0,X 43 35 1,o 9 (.new [(.int .i64 0),(.int .i64 0),(.string ⟨#[]⟩),(.slice none 0 0)]),q (.st 4 (t 9) (t 42)),M 10 43]
def f3r7:LS:=[o 44 (.build [(.int .i64 0),(.int .i64 0),(.int .i64 0)] [(0,1),(1,1),(2,1)] [(i 100),(i 100),(i 2)]),o 45 (.call 7 [(t 44)]),M 11 45]
def f3r8:LS:=[M 46 11,o 47 (.call 8 [(t 46)]),M 12 47]
def f3r9:LS:=[M 48 12,o 49 (.bslice [(.string ⟨#[]⟩),(.string ⟨#[]⟩),(.string ⟨#[]⟩)] 3 [(0,1),(1,1),(2,1)] [(.const (.string ⟨#[83,69,84]⟩)),(.const (.string ⟨#[122,122]⟩)),(.const (.string ⟨#[49]⟩))]),o 50 (.call 6 [(t 48),(i 0),(t 49)])]
def f3r10:LS:=[M 51 11,o 52 (.call 9 [(t 51)]),M 13 52]
def f3r11:LS:=[M 53 13,o 54 (.build [(.int .i64 0),(.string ⟨#[]⟩),(.string ⟨#[]⟩),(.string ⟨#[]⟩),(.int .i64 0)] [(0,1),(1,1),(3,1)] [(i 2),(.const (.string ⟨#[121]⟩)),(.const (.string ⟨#[49]⟩))]),o 55 (.bslice [(.int .i64 0),(.string ⟨#[]⟩),(.string ⟨#[]⟩),(.string ⟨#[]⟩),(.int .i64 0)] 1 [(0,5)] [(t 54)]),o 56 (.call 10 [(t 53),(t 55)])]
def f3r12:LS:=[A 57 2 7,L 58 57,o 59 (.cmp .eql (t 58) (.const (.string ⟨#[69,82,82,32,117,110,107,110,111,119,110]⟩))),M 60 59,
 g 61 60 (.ldn 4 (t 7)),
 g 62 60 (.ldn 4 (t 9)),
 g 63 60 (.call 11 [(t 61),(t 62)]),o 64 (.pick (t 60) (t 63) (b false)),M 65 64,
 g 66 65 (.mv (t 8)),
 g 67 65 (.len (t 66)),
 g 68 65 (.cmp .eql (t 67) (i 0)),o 69 (.pick (t 65) (t 68) (b false)),M 70 69,
 g 71 70 (.mv (t 10)),
 g 72 70 (.len (t 71)),
 g 73 70 (.cmp .eql (t 72) (i 0)),o 74 (.pick (t 70) (t 73) (b false)),M 75 74,
 g 76 75 (.mv (t 5)),
 g 77 75 (.mv (t 1)),
 g 78 75 (.call 12 [(t 76),(t 77)]),
 g 79 75 (.cmp .eql (t 78) (i 1)),o 80 (.pick (t 75) (t 79) (b false)),M 81 80,
 g 82 81 (.mv (t 6)),
 g 83 81 (.call 12 [(t 82),(.const (.slice none 0 0))]),
 g 84 81 (.cmp .eql (t 83) (i 1)),o 85 (.pick (t 81) (t 84) (b false)),M 86 85,
 g 87 86 (.mv (t 5)),
 g 88 86 (.call 13 [(t 87)]),
 g 89 86 (.len (t 88)),
 g 90 86 (.cmp .eql (t 89) (i 0)),o 91 (.pick (t 86) (t 90) (b false)),M 92 91,
 g 93 92 (.mv (t 5)),
 g 94 92 (.call 9 [(t 93)]),
 g 95 92 (.eqn 0 false (t 94)),o 96 (.pick (t 92) (t 95) (b false)),M 97 96,
 g 98 97 (.mv (t 6)),
 g 99 97 (.call 14 [(t 98)]),
 g 100 97 (.eqn 0 false (t 99)),o 101 (.pick (t 97) (t 100) (b false)),M 102 101,
 g 103 102 (.mv (t 5)),
 g 104 102 (.call 8 [(t 103)]),
 g 105 102 (.eqn 0 false (t 104)),o 106 (.pick (t 102) (t 105) (b false)),M 107 106,
 g 108 107 (.mv (t 5)),
 g 109 107 (.mv (t 6)),
 g 110 107 (.call 15 [(t 108),(t 109)]),o 111 (.pick (t 107) (t 110) (b false)),M 112 111,
 g 113 112 (.mv (t 5)),
 g 114 112 (.mv (t 11)),
 g 115 112 (.call 15 [(t 113),(t 114)]),
 g 116 112 (.un .not (t 115)),o 117 (.pick (t 112) (t 116) (b false)),M 118 117,
 g 119 118 (.mv (t 11)),
 g 120 118 (.mv (t 5)),
 g 121 118 (.call 15 [(t 119),(t 120)]),
 g 122 118 (.un .not (t 121)),o 123 (.pick (t 118) (t 122) (b false)),M 124 123,
 g 125 124 (.mv (t 11)),
 g 126 124 (.mv (t 12)),
 g 127 124 (.call 15 [(t 125),(t 126)]),
 g 128 124 (.un .not (t 127)),o 129 (.pick (t 124) (t 128) (b false)),M 130 129,
 g 131 130 (.mv (t 11)),
 g 132 130 (.call 9 [(t 131)]),
 g 133 130 (.call 17 []),
 g 134 130 (.call 16 [(t 132),(t 133)]),o 135 (.pick (t 130) (t 134) (b false)),M 136 135,
 g 137 136 (.call 5 []),o 138 (.pick (t 136) (t 137) (b false)),M 4 138]
def f3:SCode:=(.j f3r0 (.seq (.j f3r1 (.k 22 f3r2)) (.j f3r3 (.j f3r4 (.j f3r5 (.j f3r6 (.j f3r7 (.j f3r8 (.j f3r9 (.j f3r10 (.j f3r11 (.j f3r12 .ret))))))))))))
theorem f3_calls:Sound Tryz.prog 3 139 f3 [.t 4]:=sdo Tryz.func3 rfl (by kernel_rfl)
def f4r0:LS:=[o 3 (.box (t 1)),o 4 (.mv (b false))]
def f4r1:LS:=[M 7 0,o 8 (.len (t 7)),o 9 (.cmp .gtr (t 8) (i 20)),M 10 9,
 n 11 10 (.fa 0 (t 3)),
 n 12 10 (.ld1 (t 11)),
 n 13 10 (.cmp .gtr (t 12) (i 2000)),o 14 (.pick (t 10) (b true) (t 13)),M 15 14,
 n 16 15 (.fa 1 (t 3)),
 n 17 15 (.ld1 (t 16)),
 n 18 15 (.cmp .gtr (t 17) (i 3000)),o 19 (.pick (t 15) (b true) (t 18))]
def f4r2:LS:=[o 4 (.mv (b true))]
def f4r3:LS:=[I 5 0]
def f4r4:LS:=[M 20 5,M 21 0,o 22 (.len (t 21)),o 23 (.cmp .lss (t 20) (t 22))]
def f4r5:LS:=[M 26 0,M 27 5,G 28 2 26 27,A 29 1 28,L 30 29,o 31 (.len (t 30)),o 32 (.cmp .gtr (t 31) (i 12))]
def f4r6:LS:=[o 4 (.mv (b true))]
def f4r7:LS:=[I 6 0]
def f4r8:LS:=[M 33 6,M 34 0,M 35 5,G 36 2 34 35,A 37 1 36,L 38 37,o 39 (.len (t 38)),o 40 (.cmp .lss (t 33) (t 39))]
def f4r9:LS:=[M 43 0,M 44 5,G 45 2 43 44,A 46 1 45,L 47 46,M 48 6,G 49 1 47 48,L 50 49,o 51 (.lens (t 50)),o 52 (.cmp .gtr (t 51) (i 1000)),M 53 52,
 n 54 53 (.mv (t 0)),
 n 55 53 (.mv (t 5)),
 n 56 53 (.ixs 2 (t 54) (t 55)),
 n 57 53 (.fa 1 (t 56)),
 n 58 53 (.ld1 (t 57)),
 n 59 53 (.mv (t 6)),
 n 60 53 (.ixs 1 (t 58) (t 59)),
 n 61 53 (.ld1 (t 60)),
 n 62 53 (.call 18 [(t 61)]),o 63 (.pick (t 53) (b true) (t 62))]
def f4r10:LS:=[o 4 (.mv (b true))]
def f4r11:LS:=[M 41 6,D 42 41 1,M 6 42]
def f4l12:SCode:=(.seq (.j f4r8 (.cond (t 40) .skip (.exit 2))) (.seq (.block 3 (.j f4r9 (.k 63 f4r10))) (.ops f4r11)))
def f4r13:LS:=[M 24 5,D 25 24 1,M 5 25]
def f4l14:SCode:=(.seq (.j f4r4 (.cond (t 23) .skip (.exit 0))) (.seq (.block 1 (.seq (.j f4r5 (.k 32 f4r6)) (.j f4r7 (.block 2 (.loop f4l12))))) (.ops f4r13)))
def f4r15:LS:=[o 4 (.mv (b false))]
def f4:SCode:=(.j f4r0 (.seq (.j f4r1 (.k 19 f4r2)) (.seq (.j f4r3 (.block 0 (.loop f4l14))) (.j f4r15 .ret))))
theorem f4_calls:Sound Tryz.prog 4 64 f4 [.t 4]:=sdo Tryz.func4 rfl (by kernel_rfl)
def f18r0:LS:=[o 2 (.mv (b false))]
def f18r1:LS:=[M 7 0,o 8 (.call 50 [(t 7)]),M 6 8,X 9 6 0,X 10 6 1,X 11 6 2,o 3 (.new [(.int .i64 0),(.string ⟨#[]⟩),(.string ⟨#[]⟩),(.int .i64 0),(.slice none 0 0),(.slice none 0 0)]),q (.st 6 (t 3) (t 9)),M 4 10,M 5 11]
def f18r2:LS:=[M 12 5,E 13 12 0,M 14 13,
 g 15 14 (.ldn 6 (t 3)),
 g 16 14 (.call 51 [(t 15),(i 200)]),
 g 17 14 (.cmp .gtr (t 16) (i 200)),o 18 (.pick (t 14) (t 17) (b false)),M 2 18]
def f18:SCode:=(.j f18r0 (.j f18r1 (.j f18r2 .ret)))
theorem f18_calls:Sound Tryz.prog 18 19 f18 [.t 2]:=sdo Tryz.func18 rfl (by kernel_rfl)
def f50r0:LS:=[o 2 (.new [(.int .i64 0),(.string ⟨#[]⟩),(.string ⟨#[]⟩),(.int .i64 0),(.slice none 0 0),(.slice none 0 0)]),I 3 0,I 4 0]
def f50r1:LS:=[M 11 0,o 12 (.call 83 [(t 11)]),M 10 12,X 13 10 0,X 14 10 1,X 15 10 2,M 5 13,M 6 14,M 7 15]
def f50r2:LS:=[M 16 7,o 17 (.cmp .neq (t 16) (i 0))]
def f50r3:LS:=[o 18 (.build [(.int .i64 0),(.string ⟨#[]⟩),(.string ⟨#[]⟩),(.int .i64 0),(.slice none 0 0),(.slice none 0 0)] [] []),M 19 6,M 20 7,q (.st 6 (t 2) (t 18)),M 3 19,M 4 20]
def f50r4:LS:=[M 21 5,M 22 0,o 23 (.lens (t 22)),o 24 (.build [(.slice none 0 0),(.int .i64 0),(.int .i64 0),(.int .i64 0),(.int .i64 0),(.int .i64 0)] [(0,1),(2,1)] [(t 21),(t 23)]),o 25 (.box (t 24)),M 8 25]
def f50r5:LS:=[M 26 8,o 27 (.call 84 [(t 26)]),o 9 (.new [(.int .i64 0),(.string ⟨#[]⟩),(.string ⟨#[]⟩),(.int .i64 0),(.slice none 0 0),(.slice none 0 0)]),q (.st 6 (t 9) (t 27))]
def f50r6:LS:=[M 28 8,K 29 28,A 30 5 29,L 31 30,E 32 31 0,M 33 32,
 g 34 33 (.mv (t 8)),
 g 35 33 (.nilck (t 34)),
 g 36 33 (.fa 1 (t 35)),
 g 37 33 (.ld1 (t 36)),
 g 38 33 (.mv (t 8)),
 g 39 33 (.nilck (t 38)),
 g 40 33 (.fa 0 (t 39)),
 g 41 33 (.ld1 (t 40)),
 g 42 33 (.len (t 41)),
 g 43 33 (.cmp .lss (t 37) (t 42)),o 44 (.pick (t 33) (t 43) (b false))]
def f50r7:LS:=[M 45 8,M 46 8,o 47 (.call 86 [(t 46)]),o 48 (.call 85 [(t 45),(t 47),(i 220)])]
def f50r8:LS:=[M 49 8,K 50 49,A 51 5 50,L 52 51,o 53 (.cmp .neq (t 52) (i 0))]
def f50t9:OTree:=(.one (o 54 (.build [(.int .i64 0),(.string ⟨#[]⟩),(.string ⟨#[]⟩),(.int .i64 0),(.slice none 0 0),(.slice none 0 0)] [] []))
 (.one (M 55 8)
 (.one (K 56 55)
 (.one (A 57 4 56)
 (.one (M 59 8)
 (.one (K 60 59)
 (.one (A 61 5 60)
 (.one (L 58 57)
 (.one (L 62 61)
 (.one (q (.st 6 (t 2) (t 54)))
 (.chk [L 62 61,L 58 57] (.one (M 3 58)
 (.chk [L 62 61,L 58 57] (.one (M 4 62)
 (.chk [L 62 61,L 58 57] .done)))))))))))))))
def f50r10:LS:=[o 63 (.ldn 6 (t 9)),o 64 (.call 87 [(t 63),(i 100)])]
def f50r11:LS:=[o 65 (.build [(.int .i64 0),(.string ⟨#[]⟩),(.string ⟨#[]⟩),(.int .i64 0),(.slice none 0 0),(.slice none 0 0)] [] []),q (.st 6 (t 2) (t 65)),I 3 0,I 4 221]
def f50r12:LS:=[o 66 (.ldn 6 (t 9)),q (.st 6 (t 2) (t 66)),I 3 0,I 4 0]
def f50:SCode:=(.j f50r0 (.j f50r1 (.seq (.j f50r2 (.k 17 f50r3)) (.j f50r4 (.j f50r5 (.seq (.j f50r6 (.cond (t 44) (.ops f50r7) .skip)) (.seq (.j f50r8 (.cond (t 53) (.seq (.tree [54,55,56,57,58,59,60,61,62,3,4] f50t9) .ret) .skip)) (.seq (.j f50r10 (.k 64 f50r11)) (.j f50r12 .ret)))))))))
theorem f50_calls:Sound Tryz.prog 50 67 f50 [.cn 2 6,.t 3,.t 4]:=sdo Tryz.func50 rfl (by kernel_rfl)
def f51r0:LS:=[o 2 (.box (t 0)),I 4 0]
def f51r1:LS:=[I 5 1]
def f51r2:LS:=[I 6 0]
def f51r3:LS:=[M 7 6,A 8 5 2,L 9 8,o 10 (.len (t 9)),o 11 (.cmp .lss (t 7) (t 10)),M 12 11,
 g 13 12 (.mv (t 5)),
 g 14 12 (.mv (t 1)),
 g 15 12 (.cmp .leq (t 13) (t 14)),o 16 (.pick (t 12) (t 15) (b false))]
def f51r4:LS:=[M 19 5,A 20 5 2,L 21 20,M 22 6,G 23 6 21 22,o 24 (.ldn 6 (t 23)),M 25 1,M 26 5,o 27 (.ar .sub (t 25) (t 26)),o 28 (.call 51 [(t 24),(t 27)]),o 29 (.ar .add (t 19) (t 28)),M 5 29]
def f51r5:LS:=[M 17 6,D 18 17 1,M 6 18]
def f51l6:SCode:=(.seq (.j f51r3 (.cond (t 16) .skip (.exit 0))) (.seq (.block 1 (.ops f51r4)) (.ops f51r5)))
def f51r7:LS:=[M 30 5,M 4 30]
def f51:SCode:=(.j f51r0 (.j f51r1 (.seq (.j f51r2 (.block 0 (.loop f51l6))) (.j f51r7 .ret))))
theorem f51_calls:Sound Tryz.prog 51 31 f51 [.t 4]:=sdo Tryz.func51 rfl (by kernel_rfl)
def f83r0:LS:=[o 2 (.mv (.const (.slice none 0 0))),I 3 0,I 4 0]
def f83r1:LS:=[M 9 0,o 10 (.lens (t 9)),o 11 (.cmp .gtr (t 10) (i 1048576))]
def f83r2:LS:=[o 2 (.mv (.const (.slice none 0 0))),I 3 0,I 4 3]
def f83r3:LS:=[o 5 (.mv (.const (.slice none 0 0)))]
def f83r4:LS:=[M 12 0,o 13 (.call 131 [(t 12),(i 0)]),M 6 13]
def f83r5:LS:=[M 14 6,M 15 0,o 16 (.lens (t 15)),o 17 (.cmp .lss (t 14) (t 16))]
def f83r6:LS:=[M 19 0,M 20 6,o 21 (.call 132 [(t 19),(t 20)]),M 18 21,X 22 18 0,X 23 18 1,o 7 (.new [(.int .i64 0),(.string ⟨#[]⟩),(.int .i64 0),(.int .i64 0)]),q (.st 4 (t 7) (t 22)),M 8 23]
def f83r7:LS:=[M 24 8,E 25 24 0]
def f83r8:LS:=[M 26 6,o 2 (.mv (.const (.slice none 0 0))),M 3 26,I 4 210]
def f83r9:LS:=[M 27 5,o 28 (.ldn 4 (t 7)),o 29 (.bslice [(.int .i64 0),(.string ⟨#[]⟩),(.int .i64 0),(.int .i64 0)] 1 [(0,4)] [(t 28)]),o 30 (.app 4 40 [(.int .i64 0),(.string ⟨#[]⟩),(.int .i64 0),(.int .i64 0)] (t 27) (t 29)),M 5 30]
def f83r10:LS:=[M 31 0,M 32 8,o 33 (.call 131 [(t 31),(t 32)]),M 6 33]
def f83l11:SCode:=(.seq (.j f83r5 (.cond (t 17) .skip (.exit 0))) (.block 1 (.j f83r6 (.seq (.j f83r7 (.k 25 f83r8)) (.j f83r9 (.ops f83r10))))))
def f83r12:LS:=[M 34 5,M 2 34,I 3 0,I 4 0]
def f83:SCode:=(.j f83r0 (.seq (.j f83r1 (.k 11 f83r2)) (.j f83r3 (.j f83r4 (.seq (.block 0 (.loop f83l11)) (.j f83r12 .ret))))))
theorem f83_calls:Sound Tryz.prog 83 35 f83 [.t 2,.t 3,.t 4]:=sdo Tryz.func83 rfl (by kernel_rfl)
def f84r0:LS:=[o 2 (.new [(.int .i64 0),(.string ⟨#[]⟩),(.string ⟨#[]⟩),(.int .i64 0),(.slice none 0 0),(.slice none 0 0)])]
def f84r1:LS:=[o 3 (.new [(.int .i64 0),(.string ⟨#[]⟩),(.string ⟨#[]⟩),(.int .i64 0),(.slice none 0 0),(.slice none 0 0)])]
def f84r2:LS:=[M 5 0,o 6 (.call 133 [(t 5)]),o 7 (.un .not (t 6))]
def f84r3:LS:=[M 8 0,o 9 (.call 134 [(t 8)]),o 4 (.new [(.int .i64 0),(.string ⟨#[]⟩),(.string ⟨#[]⟩),(.int .i64 0),(.slice none 0 0),(.slice none 0 0)]),q (.st 6 (t 4) (t 9))]
def f84r4:LS:=[A 10 5 3,L 11 10,o 12 (.ldn 6 (t 4)),o 13 (.bslice [(.int .i64 0),(.string ⟨#[]⟩),(.string ⟨#[]⟩),(.int .i64 0),(.slice none 0 0),(.slice none 0 0)] 1 [(0,6)] [(t 12)]),o 14 (.app 6 96 [(.int .i64 0),(.string ⟨#[]⟩),(.string ⟨#[]⟩),(.int .i64 0),(.slice none 0 0),(.slice none 0 0)] (t 11) (t 13)),A 15 5 3,q (.st 1 (t 15) (t 14))]
def f84r5:LS:=[M 16 0,o 17 (.call 135 [(t 16),(.const (.string ⟨#[59]⟩))])]
def f84r6:LS:=[A 18 0 4,L 19 18,E 20 19 7,M 21 20,
 n 22 21 (.fa 0 (t 4)),
 n 23 21 (.ld1 (t 22)),
 n 24 21 (.cmp .eql (t 23) (i 8)),o 25 (.pick (t 21) (b true) (t 24))]
def f84r7:LS:=[o 26 (.ldn 6 (t 3)),q (.st 6 (t 2) (t 26))]
def f84l8:SCode:=(.seq (.j f84r2 (.cond (t 7) .skip (.exit 0))) (.block 1 (.j f84r3 (.j f84r4 (.j f84r5 (.j f84r6 (.k 25 f84r7)))))))
def f84r9:LS:=[o 27 (.ldn 6 (t 3)),q (.st 6 (t 2) (t 27))]
def f84:SCode:=(.j f84r0 (.j f84r1 (.seq (.block 0 (.loop f84l8)) (.j f84r9 .ret))))
theorem f84_calls:Sound Tryz.prog 84 28 f84 [.cn 2 6]:=sdo Tryz.func84 rfl (by kernel_rfl)
def f85r0:LS:=[M 6 0,K 7 6,A 8 5 7,L 9 8,E 10 9 0]
def f85r1:LS:=[M 11 0,M 12 0,M 13 1,M 14 2,K 15 11,A 16 4 15,q (.st 1 (t 16) (t 13)),K 17 12,A 18 5 17,q (.st 1 (t 18) (t 14))]
def f85r2:LS:=[M 19 0,M 20 0,K 21 20,A 22 0 21,L 23 22,o 24 (.len (t 23)),K 25 19,A 26 1 25,q (.st 1 (t 26) (t 24))]
def f85:SCode:=(.seq (.j f85r0 (.cond (t 10) (.ops f85r1) .skip)) (.ops f85r2))
theorem f85_calls:Sound Tryz.prog 85 27 f85 []:=sdo Tryz.func85 rfl (by kernel_rfl)
def f86r0:LS:=[I 2 0]
def f86r1:LS:=[M 3 0,K 4 3,A 5 1 4,L 6 5,M 7 0,K 8 7,A 9 0 8,L 10 9,o 11 (.len (t 10)),o 12 (.cmp .lss (t 6) (t 11))]
def f86r2:LS:=[M 13 0,K 14 13,A 15 0 14,L 16 15,M 17 0,K 18 17,A 19 1 18,L 20 19,G 21 4 16 20,A 22 3 21,L 23 22,M 2 23]
def f86r3:LS:=[M 24 0,K 25 24,A 26 2 25,L 27 26,M 2 27]
def f86:SCode:=(.j f86r0 (.seq (.j f86r1 (.k 12 f86r2)) (.j f86r3 .ret)))
theorem f86_calls:Sound Tryz.prog 86 28 f86 [.t 2]:=sdo Tryz.func86 rfl (by kernel_rfl)
def f87r0:LS:=[o 2 (.box (t 0)),o 4 (.mv (b false))]
def f87r1:LS:=[M 6 1,o 7 (.cmp .lss (t 6) (i 1))]
def f87r2:LS:=[o 4 (.mv (b true))]
def f87r3:LS:=[I 5 0]
def f87r4:LS:=[M 8 5,A 9 5 2,L 10 9,o 11 (.len (t 10)),o 12 (.cmp .lss (t 8) (t 11))]
def f87r5:LS:=[A 15 5 2,L 16 15,M 17 5,G 18 6 16 17,o 19 (.ldn 6 (t 18)),M 20 1,o 21 (.ar .sub (t 20) (i 1)),o 22 (.call 87 [(t 19),(t 21)])]
def f87r6:LS:=[o 4 (.mv (b true))]
def f87r7:LS:=[M 13 5,D 14 13 1,M 5 14]
def f87l8:SCode:=(.seq (.j f87r4 (.cond (t 12) .skip (.exit 0))) (.seq (.block 1 (.j f87r5 (.k 22 f87r6))) (.ops f87r7)))
def f87r9:LS:=[o 4 (.mv (b false))]
def f87:SCode:=(.j f87r0 (.seq (.j f87r1 (.k 7 f87r2)) (.seq (.j f87r3 (.block 0 (.loop f87l8))) (.j f87r9 .ret))))
theorem f87_calls:Sound Tryz.prog 87 23 f87 [.t 4]:=sdo Tryz.func87 rfl (by kernel_rfl)
def f131r0:LS:=[I 4 0]
def f131r1:LS:=[M 5 1,M 6 0,o 7 (.lens (t 6)),o 8 (.cmp .lss (t 5) (t 7))]
def f131r2:LS:=[M 9 0,M 10 1,o 11 (.ixc (t 9) (t 10)),o 12 (.cmp .eql (t 11) (.const (.int .u8 32))),M 13 12,
 n 14 13 (.mv (t 0)),
 n 15 13 (.mv (t 1)),
 n 16 13 (.ixc (t 14) (t 15)),
 n 17 13 (.cmp .eql (t 16) (.const (.int .u8 9))),o 18 (.pick (t 13) (b true) (t 17)),M 19 18,
 n 20 19 (.mv (t 0)),
 n 21 19 (.mv (t 1)),
 n 22 19 (.ixc (t 20) (t 21)),
 n 23 19 (.cmp .eql (t 22) (.const (.int .u8 10))),o 24 (.pick (t 19) (b true) (t 23)),M 25 24,
 n 26 25 (.mv (t 0)),
 n 27 25 (.mv (t 1)),
 n 28 25 (.ixc (t 26) (t 27)),
 n 29 25 (.cmp .eql (t 28) (.const (.int .u8 13))),o 30 (.pick (t 25) (b true) (t 29))]
def f131r3:LS:=[M 31 1,D 32 31 1,M 1 32]
def f131r4:LS:=[M 33 0,M 34 1,o 35 (.ixc (t 33) (t 34)),o 36 (.cmp .neq (t 35) (.const (.int .u8 45))),M 37 36,
 n 38 37 (.mv (t 1)),
 n 39 37 (.ar .add (t 38) (i 1)),
 n 40 37 (.mv (t 0)),
 n 41 37 (.lens (t 40)),
 n 42 37 (.cmp .geq (t 39) (t 41)),o 43 (.pick (t 37) (b true) (t 42)),M 44 43,
 n 45 44 (.mv (t 0)),
 n 46 44 (.mv (t 1)),
 n 47 44 (.ar .add (t 46) (i 1)),
 n 48 44 (.ixc (t 45) (t 47)),
 n 49 44 (.cmp .neq (t 48) (.const (.int .u8 45))),o 50 (.pick (t 44) (b true) (t 49))]
def f131r5:LS:=[M 51 1,M 4 51]
def f131r6:LS:=[M 52 1,M 53 0,o 54 (.lens (t 53)),o 55 (.cmp .lss (t 52) (t 54)),M 56 55,
 g 57 56 (.mv (t 0)),
 g 58 56 (.mv (t 1)),
 g 59 56 (.ixc (t 57) (t 58)),
 g 60 56 (.cmp .neq (t 59) (.const (.int .u8 10))),o 61 (.pick (t 56) (t 60) (b false))]
def f131r7:LS:=[M 62 1,D 63 62 1,M 1 63]
def f131l8:SCode:=(.seq (.j f131r6 (.cond (t 61) .skip (.exit 2))) (.block 3 (.ops f131r7)))
def f131l9:SCode:=(.seq (.j f131r1 (.cond (t 8) .skip (.exit 0))) (.block 1 (.seq (.j f131r2 (.cond (t 30) (.j f131r3 (.exit 1)) .skip)) (.seq (.j f131r4 (.k 50 f131r5)) (.block 2 (.loop f131l8))))))
def f131r10:LS:=[M 64 1,M 4 64]
def f131:SCode:=(.j f131r0 (.seq (.block 0 (.loop f131l9)) (.j f131r10 .ret)))
theorem f131_calls:Sound Tryz.prog 131 65 f131 [.t 4]:=sdo Tryz.func131 rfl (by kernel_rfl)
def f132r0:LS:=[o 4 (.new [(.int .i64 0),(.string ⟨#[]⟩),(.int .i64 0),(.int .i64 0)]),I 5 0]
def f132r1:LS:=[M 16 1,M 6 16]
def f132r2:LS:=[M 17 6,M 18 0,o 19 (.lens (t 18)),o 20 (.cmp .lss (t 17) (t 19)),M 21 20,
 g 22 21 (.mv (t 0)),
 g 23 21 (.mv (t 6)),
 g 24 21 (.ixc (t 22) (t 23)),
 g 25 21 (.call 174 [(t 24)]),
 g 26 21 (.mv (t 25)),
 n 27 26 (.mv (t 0)),
 n 28 26 (.mv (t 6)),
 n 29 26 (.ixc (t 27) (t 28)),
 n 30 26 (.call 175 [(t 29)]),
 g 31 21 (.pick (t 26) (b true) (t 30)),o 32 (.pick (t 21) (t 31) (b false))]
def f132r3:LS:=[M 33 6,D 34 33 1,M 6 34]
def f132l4:SCode:=(.seq (.j f132r2 (.cond (t 32) .skip (.exit 0))) (.block 1 (.ops f132r3)))
def f132r5:LS:=[M 35 6,M 36 1,o 37 (.cmp .gtr (t 35) (t 36)),M 38 37,
 g 39 38 (.mv (t 0)),
 g 40 38 (.mv (t 1)),
 g 41 38 (.ixc (t 39) (t 40)),
 g 42 38 (.call 175 [(t 41)]),o 43 (.pick (t 38) (t 42) (b false))]
def f132r6:LS:=[M 44 1,M 7 44]
def f132r7:LS:=[M 45 7,M 46 6,o 47 (.cmp .lss (t 45) (t 46))]
def f132r8:LS:=[M 50 0,M 51 7,o 52 (.ixc (t 50) (t 51)),o 53 (.call 175 [(t 52)]),o 54 (.un .not (t 53))]
def f132r9:LS:=[o 55 (.build [(.int .i64 0),(.string ⟨#[]⟩),(.int .i64 0),(.int .i64 0)] [] []),q (.st 4 (t 4) (t 55)),I 5 0]
def f132r10:LS:=[M 48 7,D 49 48 1,M 7 49]
def f132l11:SCode:=(.seq (.j f132r7 (.cond (t 47) .skip (.exit 2))) (.seq (.block 3 (.j f132r8 (.k 54 f132r9))) (.ops f132r10)))
def f132r12:LS:=[M 57 0,M 58 1,M 59 6,o 60 (.sls (t 57) (some (t 58)) (some (t 59))),o 61 (.call 176 [(t 60)]),M 56 61,X 62 56 0,X 63 56 1,M 8 62,M 9 63]
def f132r13:LS:=[M 64 9,o 65 (.un .not (t 64))]
def f132r14:LS:=[o 66 (.build [(.int .i64 0),(.string ⟨#[]⟩),(.int .i64 0),(.int .i64 0)] [] []),q (.st 4 (t 4) (t 66)),I 5 0]
def f132r15:LS:=[M 67 8,M 68 1,o 69 (.build [(.int .i64 0),(.string ⟨#[]⟩),(.int .i64 0),(.int .i64 0)] [(0,1),(2,1),(3,1)] [(i 2),(t 67),(t 68)]),M 70 6,q (.st 4 (t 4) (t 69)),M 5 70]
def f132r16:LS:=[M 71 6,M 72 1,o 73 (.cmp .gtr (t 71) (t 72))]
def f132r17:LS:=[M 74 0,M 75 1,M 76 6,o 77 (.sls (t 74) (some (t 75)) (some (t 76))),M 10 77]
def f132r18:LS:=[M 78 10,o 79 (.call 177 [(t 78)])]
def f132r19:LS:=[M 80 10,M 81 1,o 82 (.build [(.int .i64 0),(.string ⟨#[]⟩),(.int .i64 0),(.int .i64 0)] [(0,1),(1,1),(3,1)] [(i 1),(t 80),(t 81)]),M 83 6,q (.st 4 (t 4) (t 82)),M 5 83]
def f132r20:LS:=[M 84 10,o 85 (.call 178 [(t 84)]),o 86 (.un .not (t 85))]
def f132r21:LS:=[o 87 (.build [(.int .i64 0),(.string ⟨#[]⟩),(.int .i64 0),(.int .i64 0)] [] []),q (.st 4 (t 4) (t 87)),I 5 0]
def f132r22:LS:=[M 88 10,M 89 1,o 90 (.build [(.int .i64 0),(.string ⟨#[]⟩),(.int .i64 0),(.int .i64 0)] [(1,1),(3,1)] [(t 88),(t 89)]),M 91 6,q (.st 4 (t 4) (t 90)),M 5 91]
def f132r23:LS:=[M 92 0,M 93 1,o 94 (.ixc (t 92) (t 93)),o 95 (.cmp .eql (t 94) (.const (.int .u8 39))),M 96 95,
 n 97 96 (.mv (t 0)),
 n 98 96 (.mv (t 1)),
 n 99 96 (.ixc (t 97) (t 98)),
 n 100 96 (.cmp .eql (t 99) (.const (.int .u8 34))),o 101 (.pick (t 96) (b true) (t 100))]
def f132r24:LS:=[M 103 0,M 104 1,o 105 (.call 179 [(t 103),(t 104)]),M 102 105,X 106 102 0,X 107 102 1,M 11 106,M 12 107]
def f132r25:LS:=[M 108 12,E 109 108 0]
def f132r26:LS:=[o 110 (.build [(.int .i64 0),(.string ⟨#[]⟩),(.int .i64 0),(.int .i64 0)] [] []),q (.st 4 (t 4) (t 110)),I 5 0]
def f132r27:LS:=[M 111 11,M 112 1,o 113 (.build [(.int .i64 0),(.string ⟨#[]⟩),(.int .i64 0),(.int .i64 0)] [(0,1),(1,1),(3,1)] [(i 3),(t 111),(t 112)]),M 114 12,q (.st 4 (t 4) (t 113)),M 5 114]
def f132r28:LS:=[o 115 (.call 180 []),M 13 115]
def f132r29:LS:=[I 14 0]
def f132r30:LS:=[M 116 14,M 117 13,o 118 (.len (t 117)),o 119 (.cmp .lss (t 116) (t 118))]
def f132r31:LS:=[M 122 13,M 123 14,G 124 1 122 123,L 125 124,o 126 (.lens (t 125)),M 15 126]
def f132r32:LS:=[M 127 1,M 128 15,o 129 (.ar .add (t 127) (t 128)),M 130 0,o 131 (.lens (t 130)),o 132 (.cmp .leq (t 129) (t 131)),M 133 132,
 g 134 133 (.mv (t 0)),
 g 135 133 (.mv (t 1)),
 g 136 133 (.mv (t 1)),
 g 137 133 (.mv (t 15)),
 g 138 133 (.ar .add (t 136) (t 137)),
 g 139 133 (.sls (t 134) (some (t 135)) (some (t 138))),
 g 140 133 (.mv (t 13)),
 g 141 133 (.mv (t 14)),
 g 142 133 (.ixs 1 (t 140) (t 141)),
 g 143 133 (.ld1 (t 142)),
 g 144 133 (.cmp .eql (t 139) (t 143)),o 145 (.pick (t 133) (t 144) (b false))]
def f132r33:LS:=[M 146 13,M 147 14,G 148 1 146 147,L 149 148,M 150 1,o 151 (.build [(.int .i64 0),(.string ⟨#[]⟩),(.int .i64 0),(.int .i64 0)] [(0,1),(1,1),(3,1)] [(i 4),(t 149),(t 150)]),M 152 1,M 153 15,o 154 (.ar .add (t 152) (t 153)),q (.st 4 (t 4) (t 151)),M 5 154]
def f132r34:LS:=[M 120 14,D 121 120 1,M 14 121]
def f132l35:SCode:=(.seq (.j f132r30 (.cond (t 119) .skip (.exit 4))) (.seq (.block 5 (.j f132r31 (.j f132r32 (.k 145 f132r33)))) (.ops f132r34)))
def f132r36:LS:=[o 155 (.build [(.int .i64 0),(.string ⟨#[]⟩),(.int .i64 0),(.int .i64 0)] [] []),q (.st 4 (t 4) (t 155)),I 5 0]
def f132:SCode:=(.j f132r0 (.j f132r1 (.seq (.block 0 (.loop f132l4)) (.seq (.j f132r5 (.cond (t 43) (.seq (.j f132r6 (.block 2 (.loop f132l11))) (.j f132r12 (.seq (.j f132r13 (.k 65 f132r14)) (.j f132r15 .ret)))) .skip)) (.seq (.j f132r16 (.cond (t 73) (.j f132r17 (.seq (.j f132r18 (.k 79 f132r19)) (.seq (.j f132r20 (.k 86 f132r21)) (.j f132r22 .ret)))) .skip)) (.seq (.j f132r23 (.cond (t 101) (.j f132r24 (.seq (.j f132r25 (.k 109 f132r26)) (.j f132r27 .ret))) .skip)) (.j f132r28 (.seq (.j f132r29 (.block 4 (.loop f132l35))) (.j f132r36 .ret)))))))))
theorem f132_calls:Sound Tryz.prog 132 156 f132 [.cn 4 4,.t 5]:=sdo Tryz.func132 rfl (by kernel_rfl)
def f133r0:LS:=[o 2 (.mv (b false))]
def f133r1:LS:=[M 3 0,K 4 3,A 5 5 4,L 6 5,o 7 (.cmp .neq (t 6) (i 0)),M 8 7,
 n 9 8 (.mv (t 0)),
 n 10 8 (.nilck (t 9)),
 n 11 8 (.fa 1 (t 10)),
 n 12 8 (.ld1 (t 11)),
 n 13 8 (.mv (t 0)),
 n 14 8 (.nilck (t 13)),
 n 15 8 (.fa 0 (t 14)),
 n 16 8 (.ld1 (t 15)),
 n 17 8 (.len (t 16)),
 n 18 8 (.cmp .geq (t 12) (t 17)),o 19 (.pick (t 8) (b true) (t 18)),M 20 19,
 n 21 20 (.mv (t 0)),
 n 22 20 (.call 181 [(t 21),(.const (.string ⟨#[101,110,100]⟩))]),o 23 (.pick (t 20) (b true) (t 22)),M 24 23,
 n 25 24 (.mv (t 0)),
 n 26 24 (.call 181 [(t 25),(.const (.string ⟨#[101,108,115,101]⟩))]),o 27 (.pick (t 24) (b true) (t 26)),M 28 27,
 n 29 28 (.mv (t 0)),
 n 30 28 (.call 181 [(t 29),(.const (.string ⟨#[101,108,115,101,105,102]⟩))]),o 31 (.pick (t 28) (b true) (t 30)),M 2 31]
def f133:SCode:=(.j f133r0 (.j f133r1 .ret))
theorem f133_calls:Sound Tryz.prog 133 32 f133 [.t 2]:=sdo Tryz.func133 rfl (by kernel_rfl)
def f135r0:LS:=[o 4 (.mv (b false))]
def f135r1:LS:=[M 5 0,M 6 1,o 7 (.call 181 [(t 5),(t 6)]),o 8 (.un .not (t 7))]
def f135r2:LS:=[o 4 (.mv (b false))]
def f135r3:LS:=[M 9 0,K 10 9,A 11 1 10,L 12 11,D 13 12 1,K 14 9,A 15 1 14,q (.st 1 (t 15) (t 13))]
def f135r4:LS:=[o 4 (.mv (b true))]
def f135:SCode:=(.j f135r0 (.seq (.j f135r1 (.k 8 f135r2)) (.j f135r3 (.j f135r4 .ret))))
theorem f135_calls:Sound Tryz.prog 135 16 f135 [.t 4]:=sdo Tryz.func135 rfl (by kernel_rfl)
def f174r0:LS:=[o 2 (.mv (b false))]
def f174r1:LS:=[M 3 0,o 4 (.cmp .geq (t 3) (.const (.int .u8 97))),M 5 4,
 g 6 5 (.mv (t 0)),
 g 7 5 (.cmp .leq (t 6) (.const (.int .u8 122))),o 8 (.pick (t 5) (t 7) (b false)),M 9 8,
 n 10 9 (.mv (t 0)),
 n 11 9 (.cmp .geq (t 10) (.const (.int .u8 65))),
 n 12 9 (.mv (t 11)),
 g 13 12 (.mv (t 0)),
 g 14 12 (.cmp .leq (t 13) (.const (.int .u8 90))),
 n 15 9 (.pick (t 12) (t 14) (b false)),o 16 (.pick (t 9) (b true) (t 15)),M 17 16,
 n 18 17 (.mv (t 0)),
 n 19 17 (.cmp .eql (t 18) (.const (.int .u8 95))),o 20 (.pick (t 17) (b true) (t 19)),M 2 20]
def f174:SCode:=(.j f174r0 (.j f174r1 .ret))
theorem f174_calls:Sound Tryz.prog 174 21 f174 [.t 2]:=sdo Tryz.func174 rfl (by kernel_rfl)
def f175r0:LS:=[o 2 (.mv (b false))]
def f175r1:LS:=[M 3 0,o 4 (.cmp .geq (t 3) (.const (.int .u8 48))),M 5 4,
 g 6 5 (.mv (t 0)),
 g 7 5 (.cmp .leq (t 6) (.const (.int .u8 57))),o 8 (.pick (t 5) (t 7) (b false)),M 2 8]
def f175:SCode:=(.j f175r0 (.j f175r1 .ret))
theorem f175_calls:Sound Tryz.prog 175 9 f175 [.t 2]:=sdo Tryz.func175 rfl (by kernel_rfl)
def f176r0:LS:=[I 2 0,o 3 (.mv (b false))]
def f176r1:LS:=[I 4 0]
def f176r2:LS:=[I 5 0]
def f176r3:LS:=[M 7 5,M 8 0,o 9 (.lens (t 8)),o 10 (.cmp .lss (t 7) (t 9))]
def f176r4:LS:=[M 13 0,M 14 5,o 15 (.ixc (t 13) (t 14)),o 16 (.ar .sub (t 15) (.const (.int .u8 48))),o 17 (.cvt .i64 (t 16)),M 6 17]
def f176r5:LS:=[M 18 4,M 19 6,o 20 (.ar .sub (i 9223372036854775807) (t 19)),o 21 (.quo (t 20) (i 10)),o 22 (.cmp .gtr (t 18) (t 21))]
def f176r6:LS:=[I 2 0,o 3 (.mv (b false))]
def f176r7:LS:=[M 23 4,o 24 (.ar .mul (i 10) (t 23)),M 25 6,o 26 (.ar .add (t 24) (t 25)),M 4 26]
def f176r8:LS:=[M 11 5,D 12 11 1,M 5 12]
def f176l9:SCode:=(.seq (.j f176r3 (.cond (t 10) .skip (.exit 0))) (.seq (.block 1 (.j f176r4 (.seq (.j f176r5 (.k 22 f176r6)) (.ops f176r7)))) (.ops f176r8)))
def f176r10:LS:=[M 27 4,M 2 27,o 3 (.mv (b true))]
def f176:SCode:=(.j f176r0 (.j f176r1 (.seq (.j f176r2 (.block 0 (.loop f176l9))) (.j f176r10 .ret))))
theorem f176_calls:Sound Tryz.prog 176 28 f176 [.t 2,.t 3]:=sdo Tryz.func176 rfl (by kernel_rfl)
def f177r0:LS:=[o 2 (.mv (b false))]
def f177r1:LS:=[o 5 (.bslice (List.replicate 19 (.string ⟨#[]⟩)) 19 [(0,1),(1,1),(2,1),(3,1),(4,1),(5,1),(6,1),(7,1),(8,1),(9,1),(10,1),(11,1),(12,1),(13,1),(14,1),(15,1),(16,1),(17,1),(18,1)] [(.const (.string ⟨#[97,110,100]⟩)),(.const (.string ⟨#[98,114,101,97,107]⟩)),(.const (.string ⟨#[100,111]⟩)),(.const (.string ⟨#[101,108,115,101]⟩)),(.const (.string ⟨#[101,108,115,101,105,102]⟩)),(.const (.string ⟨#[101,110,100]⟩)),(.const (.string ⟨#[102,97,108,115,101]⟩)),(.const (.string ⟨#[102,111,114]⟩)),(.const (.string ⟨#[102,117,110,99,116,105,111,110]⟩)),(.const (.string ⟨#[105,102]⟩)),(.const (.string ⟨#[105,110]⟩)),(.const (.string ⟨#[108,111,99,97,108]⟩)),(.const (.string ⟨#[110,105,108]⟩)),(.const (.string ⟨#[110,111,116]⟩)),(.const (.string ⟨#[111,114]⟩)),(.const (.string ⟨#[114,101,116,117,114,110]⟩)),(.const (.string ⟨#[116,104,101,110]⟩)),(.const (.string ⟨#[116,114,117,101]⟩)),(.const (.string ⟨#[119,104,105,108,101]⟩))]),M 3 5]
def f177r2:LS:=[I 4 0]
def f177r3:LS:=[M 6 4,M 7 3,o 8 (.len (t 7)),o 9 (.cmp .lss (t 6) (t 8))]
def f177r4:LS:=[M 12 3,M 13 4,G 14 1 12 13,L 15 14,M 16 0,o 17 (.cmp .eql (t 15) (t 16))]
def f177r5:LS:=[o 2 (.mv (b true))]
def f177r6:LS:=[M 10 4,D 11 10 1,M 4 11]
def f177l7:SCode:=(.seq (.j f177r3 (.cond (t 9) .skip (.exit 0))) (.seq (.block 1 (.j f177r4 (.k 17 f177r5))) (.ops f177r6)))
def f177r8:LS:=[o 2 (.mv (b false))]
def f177:SCode:=(.j f177r0 (.j f177r1 (.seq (.j f177r2 (.block 0 (.loop f177l7))) (.j f177r8 .ret))))
theorem f177_calls:Sound Tryz.prog 177 18 f177 [.t 2]:=sdo Tryz.func177 rfl (by kernel_rfl)
def f178r0:LS:=[o 2 (.mv (b false))]
def f178r1:LS:=[M 4 0,o 5 (.cmp .eql (t 4) e),M 6 5,
 n 7 6 (.mv (t 0)),
 n 8 6 (.lens (t 7)),
 n 9 6 (.cmp .gtr (t 8) (i 64)),o 10 (.pick (t 6) (b true) (t 9)),M 11 10,
 n 12 11 (.mv (t 0)),
 n 13 11 (.ixc (t 12) (i 0)),
 n 14 11 (.call 175 [(t 13)]),o 15 (.pick (t 11) (b true) (t 14)),M 16 15,
 n 17 16 (.mv (t 0)),
 n 18 16 (.call 177 [(t 17)]),o 19 (.pick (t 16) (b true) (t 18))]
def f178r2:LS:=[o 2 (.mv (b false))]
def f178r3:LS:=[I 3 0]
def f178r4:LS:=[M 20 3,M 21 0,o 22 (.lens (t 21)),o 23 (.cmp .lss (t 20) (t 22))]
def f178r5:LS:=[M 26 0,M 27 3,o 28 (.ixc (t 26) (t 27)),o 29 (.call 174 [(t 28)]),o 30 (.un .not (t 29)),M 31 30,
 g 32 31 (.mv (t 0)),
 g 33 31 (.mv (t 3)),
 g 34 31 (.ixc (t 32) (t 33)),
 g 35 31 (.call 175 [(t 34)]),
 g 36 31 (.un .not (t 35)),o 37 (.pick (t 31) (t 36) (b false))]
def f178r6:LS:=[o 2 (.mv (b false))]
def f178r7:LS:=[M 24 3,D 25 24 1,M 3 25]
def f178l8:SCode:=(.seq (.j f178r4 (.cond (t 23) .skip (.exit 0))) (.seq (.block 1 (.j f178r5 (.k 37 f178r6))) (.ops f178r7)))
def f178r9:LS:=[o 2 (.mv (b true))]
def f178:SCode:=(.j f178r0 (.seq (.j f178r1 (.k 19 f178r2)) (.seq (.j f178r3 (.block 0 (.loop f178l8))) (.j f178r9 .ret))))
theorem f178_calls:Sound Tryz.prog 178 38 f178 [.t 2]:=sdo Tryz.func178 rfl (by kernel_rfl)
def f179r0:LS:=[o 4 (.mv e),I 5 0]
def f179r1:LS:=[o 6 (.mv (.const (.slice none 0 0)))]
def f179r2:LS:=[M 10 1,D 11 10 1,M 7 11]
def f179r3:LS:=[M 12 7,M 13 0,o 14 (.lens (t 13)),o 15 (.cmp .lss (t 12) (t 14))]
def f179r4:LS:=[M 18 0,M 19 7,o 20 (.ixc (t 18) (t 19)),M 8 20]
def f179r5:LS:=[M 21 8,M 22 0,M 23 1,o 24 (.ixc (t 22) (t 23)),o 25 (.cmp .eql (t 21) (t 24))]
def f179r6:LS:=[M 26 6,o 27 (.bstr (t 26)),M 28 7,D 29 28 1,M 4 27,M 5 29]
def f179r7:LS:=[M 30 8,o 31 (.cmp .eql (t 30) (.const (.int .u8 10)))]
def f179r8:LS:=[o 4 (.mv e),I 5 0]
def f179r9:LS:=[M 32 8,o 33 (.cmp .neq (t 32) (.const (.int .u8 92)))]
def f179r10:LS:=[M 34 6,M 35 8,o 36 (.bslice [(.int .u8 0)] 1 [(0,1)] [(t 35)]),o 37 (.appb 5 (t 34) (t 36)),M 6 37]
def f179r11:LS:=[M 38 7,D 39 38 1,M 7 39]
def f179r12:LS:=[M 40 7,M 41 0,o 42 (.lens (t 41)),o 43 (.cmp .geq (t 40) (t 42))]
def f179r13:LS:=[o 4 (.mv e),I 5 0]
def f179r14:LS:=[M 44 0,M 45 7,o 46 (.ixc (t 44) (t 45))]
def f179r15:LS:=[o 106 (.cmp .eql (t 46) (.const (.int .u8 110))),M 105 106]
def f179r16:LS:=[M 107 6,o 108 (.bslice [(.int .u8 0)] 1 [(0,1)] [(.const (.int .u8 10))]),o 109 (.appb 5 (t 107) (t 108)),M 6 109]
def f179r17:LS:=[o 111 (.cmp .eql (t 46) (.const (.int .u8 116))),M 110 111]
def f179r18:LS:=[M 112 6,o 113 (.bslice [(.int .u8 0)] 1 [(0,1)] [(.const (.int .u8 9))]),o 114 (.appb 5 (t 112) (t 113)),M 6 114]
def f179r19:LS:=[o 116 (.cmp .eql (t 46) (.const (.int .u8 114))),M 115 116]
def f179r20:LS:=[M 117 6,o 118 (.bslice [(.int .u8 0)] 1 [(0,1)] [(.const (.int .u8 13))]),o 119 (.appb 5 (t 117) (t 118)),M 6 119]
def f179r21:LS:=[o 121 (.cmp .eql (t 46) (.const (.int .u8 92))),M 120 121]
def f179r22:LS:=[o 122 (.cmp .eql (t 46) (.const (.int .u8 39))),M 120 122]
def f179r23:LS:=[o 123 (.cmp .eql (t 46) (.const (.int .u8 34))),M 120 123]
def f179r24:LS:=[M 124 6,M 125 0,M 126 7,o 127 (.ixc (t 125) (t 126)),o 128 (.bslice [(.int .u8 0)] 1 [(0,1)] [(t 127)]),o 129 (.appb 5 (t 124) (t 128)),M 6 129]
def f179r25:LS:=[M 47 7,D 48 47 2,M 49 0,o 50 (.lens (t 49)),o 51 (.cmp .geq (t 48) (t 50)),M 52 51,
 n 53 52 (.mv (t 0)),
 n 54 52 (.mv (t 7)),
 n 55 52 (.ixc (t 53) (t 54)),
 n 56 52 (.call 175 [(t 55)]),
 n 57 52 (.un .not (t 56)),o 58 (.pick (t 52) (b true) (t 57)),M 59 58,
 n 60 59 (.mv (t 0)),
 n 61 59 (.mv (t 7)),
 n 62 59 (.ar .add (t 61) (i 1)),
 n 63 59 (.ixc (t 60) (t 62)),
 n 64 59 (.call 175 [(t 63)]),
 n 65 59 (.un .not (t 64)),o 66 (.pick (t 59) (b true) (t 65)),M 67 66,
 n 68 67 (.mv (t 0)),
 n 69 67 (.mv (t 7)),
 n 70 67 (.ar .add (t 69) (i 2)),
 n 71 67 (.ixc (t 68) (t 70)),
 n 72 67 (.call 175 [(t 71)]),
 n 73 67 (.un .not (t 72)),o 74 (.pick (t 67) (b true) (t 73))]
def f179r26:LS:=[o 4 (.mv e),I 5 0]
def f179r27:LS:=[M 75 0,M 76 7,o 77 (.ixc (t 75) (t 76)),o 78 (.ar .sub (t 77) (.const (.int .u8 48))),o 79 (.cvt .i64 (t 78)),o 80 (.ar .mul (i 100) (t 79)),M 81 0,M 82 7,D 83 82 1,o 84 (.ixc (t 81) (t 83)),o 85 (.ar .sub (t 84) (.const (.int .u8 48))),o 86 (.cvt .i64 (t 85)),o 87 (.ar .mul (i 10) (t 86)),o 88 (.ar .add (t 80) (t 87)),M 89 0,M 90 7,D 91 90 2,o 92 (.ixc (t 89) (t 91)),o 93 (.ar .sub (t 92) (.const (.int .u8 48))),o 94 (.cvt .i64 (t 93)),o 95 (.ar .add (t 88) (t 94)),M 9 95]
def f179r28:LS:=[M 96 9,o 97 (.cmp .gtr (t 96) (i 255))]
def f179r29:LS:=[o 4 (.mv e),I 5 0]
def f179r30:LS:=[M 98 6,M 99 9,o 100 (.cvt .u8 (t 99)),o 101 (.bslice [(.int .u8 0)] 1 [(0,1)] [(t 100)]),o 102 (.appb 5 (t 98) (t 101)),M 6 102]
def f179r31:LS:=[M 103 7,D 104 103 2,M 7 104]
def f179r32:LS:=[M 16 7,D 17 16 1,M 7 17]
def f179l33:SCode:=(.seq (.j f179r3 (.cond (t 15) .skip (.exit 0))) (.seq (.block 1 (.j f179r4 (.seq (.j f179r5 (.k 25 f179r6)) (.seq (.j f179r7 (.k 31 f179r8)) (.seq (.j f179r9 (.cond (t 33) (.j f179r10 (.exit 1)) .skip)) (.j f179r11 (.seq (.j f179r12 (.k 43 f179r13)) (.j f179r14 (.block 2 (.j f179r15 (.cond (t 105) (.ops f179r16) (.j f179r17 (.cond (t 110) (.ops f179r18) (.j f179r19 (.cond (t 115) (.ops f179r20) (.seq (.j f179r21 (.cond (t 120) .skip (.j f179r22 (.cond (t 120) .skip (.ops f179r23))))) (.cond (t 120) (.ops f179r24) (.seq (.j f179r25 (.k 74 f179r26)) (.j f179r27 (.seq (.j f179r28 (.k 97 f179r29)) (.j f179r30 (.ops f179r31)))))))))))))))))))))) (.ops f179r32)))
def f179r34:LS:=[o 4 (.mv e),I 5 0]
def f179:SCode:=(.j f179r0 (.j f179r1 (.seq (.j f179r2 (.block 0 (.loop f179l33))) (.j f179r34 .ret))))
theorem f179_calls:Sound Tryz.prog 179 130 f179 [.t 4,.t 5]:=sdo Tryz.func179 rfl (by kernel_rfl)
def f180r0:LS:=[o 0 (.mv (.const (.slice none 0 0)))]
def f180r1:LS:=[o 1 (.bslice (List.replicate 24 (.string ⟨#[]⟩)) 24 [(0,1),(1,1),(2,1),(3,1),(4,1),(5,1),(6,1),(7,1),(8,1),(9,1),(10,1),(11,1),(12,1),(13,1),(14,1),(15,1),(16,1),(17,1),(18,1),(19,1),(20,1),(21,1),(22,1),(23,1)] [(.const (.string ⟨#[61,61]⟩)),(.const (.string ⟨#[126,61]⟩)),(.const (.string ⟨#[60,61]⟩)),(.const (.string ⟨#[62,61]⟩)),(.const (.string ⟨#[46,46]⟩)),(.const (.string ⟨#[43]⟩)),(.const (.string ⟨#[45]⟩)),(.const (.string ⟨#[42]⟩)),(.const (.string ⟨#[47]⟩)),(.const (.string ⟨#[37]⟩)),(.const (.string ⟨#[35]⟩)),(.const (.string ⟨#[60]⟩)),(.const (.string ⟨#[62]⟩)),(.const (.string ⟨#[61]⟩)),(.const (.string ⟨#[40]⟩)),(.const (.string ⟨#[41]⟩)),(.const (.string ⟨#[123]⟩)),(.const (.string ⟨#[125]⟩)),(.const (.string ⟨#[91]⟩)),(.const (.string ⟨#[93]⟩)),(.const (.string ⟨#[59]⟩)),(.const (.string ⟨#[58]⟩)),(.const (.string ⟨#[44]⟩)),(.const (.string ⟨#[46]⟩))]),M 0 1]
def f180:SCode:=(.j f180r0 (.j f180r1 .ret))
theorem f180_calls:Sound Tryz.prog 180 2 f180 [.t 0]:=sdo Tryz.func180 rfl (by kernel_rfl)
def f181r0:LS:=[o 4 (.mv (b false))]
def f181r1:LS:=[M 5 0,K 6 5,A 7 5 6,L 8 7,E 9 8 0,M 10 9,
 g 11 10 (.mv (t 0)),
 g 12 10 (.nilck (t 11)),
 g 13 10 (.fa 1 (t 12)),
 g 14 10 (.ld1 (t 13)),
 g 15 10 (.mv (t 0)),
 g 16 10 (.nilck (t 15)),
 g 17 10 (.fa 0 (t 16)),
 g 18 10 (.ld1 (t 17)),
 g 19 10 (.len (t 18)),
 g 20 10 (.cmp .lss (t 14) (t 19)),o 21 (.pick (t 10) (t 20) (b false)),M 22 21,
 g 23 22 (.mv (t 0)),
 g 24 22 (.nilck (t 23)),
 g 25 22 (.fa 0 (t 24)),
 g 26 22 (.ld1 (t 25)),
 g 27 22 (.mv (t 0)),
 g 28 22 (.nilck (t 27)),
 g 29 22 (.fa 1 (t 28)),
 g 30 22 (.ld1 (t 29)),
 g 31 22 (.ixs 4 (t 26) (t 30)),
 g 32 22 (.fa 1 (t 31)),
 g 33 22 (.ld1 (t 32)),
 g 34 22 (.mv (t 1)),
 g 35 22 (.cmp .eql (t 33) (t 34)),o 36 (.pick (t 22) (t 35) (b false)),M 37 36,
 g 38 37 (.mv (t 0)),
 g 39 37 (.nilck (t 38)),
 g 40 37 (.fa 0 (t 39)),
 g 41 37 (.ld1 (t 40)),
 g 42 37 (.mv (t 0)),
 g 43 37 (.nilck (t 42)),
 g 44 37 (.fa 1 (t 43)),
 g 45 37 (.ld1 (t 44)),
 g 46 37 (.ixs 4 (t 41) (t 45)),
 g 47 37 (.fa 0 (t 46)),
 g 48 37 (.ld1 (t 47)),
 g 49 37 (.cmp .eql (t 48) (i 1)),
 g 50 37 (.mv (t 49)),
 n 51 50 (.mv (t 0)),
 n 52 50 (.nilck (t 51)),
 n 53 50 (.fa 0 (t 52)),
 n 54 50 (.ld1 (t 53)),
 n 55 50 (.mv (t 0)),
 n 56 50 (.nilck (t 55)),
 n 57 50 (.fa 1 (t 56)),
 n 58 50 (.ld1 (t 57)),
 n 59 50 (.ixs 4 (t 54) (t 58)),
 n 60 50 (.fa 0 (t 59)),
 n 61 50 (.ld1 (t 60)),
 n 62 50 (.cmp .eql (t 61) (i 4)),
 g 63 37 (.pick (t 50) (b true) (t 62)),o 64 (.pick (t 37) (t 63) (b false)),M 4 64]
def f181:SCode:=(.j f181r0 (.j f181r1 .ret))
theorem f181_calls:Sound Tryz.prog 181 65 f181 [.t 4]:=sdo Tryz.func181 rfl (by kernel_rfl)
def f182r0:LS:=[o 2 (.new [(.int .i64 0),(.string ⟨#[]⟩),(.string ⟨#[]⟩),(.int .i64 0),(.slice none 0 0),(.slice none 0 0)])]
def f182r1:LS:=[M 6 0,o 7 (.call 135 [(t 6),(.const (.string ⟨#[102,117,110,99,116,105,111,110]⟩))])]
def f182r2:LS:=[M 8 0,o 9 (.call 237 [(t 8)]),o 10 (.build [(.int .i64 0),(.string ⟨#[]⟩),(.string ⟨#[]⟩),(.int .i64 0),(.slice none 0 0),(.slice none 0 0)] [(0,1),(1,1)] [(i 9),(t 9)]),o 3 (.new [(.int .i64 0),(.string ⟨#[]⟩),(.string ⟨#[]⟩),(.int .i64 0),(.slice none 0 0),(.slice none 0 0)]),q (.st 6 (t 3) (t 10))]
def f182r3:LS:=[M 11 0,o 12 (.call 186 [(t 11),(.const (.string ⟨#[40]⟩))])]
def f182r4:LS:=[M 13 0,o 14 (.call 135 [(t 13),(.const (.string ⟨#[41]⟩))]),o 15 (.un .not (t 14))]
def f182r5:LS:=[M 16 0,o 17 (.call 238 [(t 16)]),A 18 4 3,q (.st 1 (t 18) (t 17))]
def f182r6:LS:=[M 19 0,o 20 (.call 186 [(t 19),(.const (.string ⟨#[41]⟩))])]
def f182r7:LS:=[M 21 0,o 22 (.call 183 [(t 21)]),o 23 (.bslice [(.int .i64 0),(.string ⟨#[]⟩),(.string ⟨#[]⟩),(.int .i64 0),(.slice none 0 0),(.slice none 0 0)] 1 [(0,6)] [(t 22)]),A 24 5 3,q (.st 1 (t 24) (t 23))]
def f182r8:LS:=[o 25 (.ldn 6 (t 3)),q (.st 6 (t 2) (t 25))]
def f182r9:LS:=[M 26 0,o 27 (.call 238 [(t 26)]),o 28 (.build [(.int .i64 0),(.string ⟨#[]⟩),(.string ⟨#[]⟩),(.int .i64 0),(.slice none 0 0),(.slice none 0 0)] [(0,1),(4,1)] [(i 1),(t 27)]),o 4 (.new [(.int .i64 0),(.string ⟨#[]⟩),(.string ⟨#[]⟩),(.int .i64 0),(.slice none 0 0),(.slice none 0 0)]),q (.st 6 (t 4) (t 28))]
def f182r10:LS:=[M 29 0,o 30 (.call 135 [(t 29),(.const (.string ⟨#[61]⟩))])]
def f182r11:LS:=[M 31 0,o 32 (.call 86 [(t 31)]),M 5 32]
def f182r12:LS:=[M 33 0,o 34 (.call 239 [(t 33)]),A 35 5 4,q (.st 1 (t 35) (t 34))]
def f182r13:LS:=[A 36 5 4,L 37 36,o 38 (.len (t 37)),A 39 4 4,L 40 39,o 41 (.len (t 40)),o 42 (.cmp .gtr (t 38) (t 41))]
def f182r14:LS:=[M 43 0,M 44 5,o 45 (.call 85 [(t 43),(t 44),(i 220)])]
def f182r15:LS:=[o 46 (.ldn 6 (t 4)),q (.st 6 (t 2) (t 46))]
def f182:SCode:=(.j f182r0 (.seq (.j f182r1 (.cond (t 7) (.j f182r2 (.j f182r3 (.seq (.j f182r4 (.cond (t 15) (.j f182r5 (.ops f182r6)) .skip)) (.j f182r7 (.j f182r8 .ret))))) .skip)) (.j f182r9 (.seq (.j f182r10 (.cond (t 30) (.j f182r11 (.j f182r12 (.j f182r13 (.cond (t 42) (.ops f182r14) .skip)))) .skip)) (.j f182r15 .ret)))))
theorem f182_calls:Sound Tryz.prog 182 47 f182 [.cn 2 6]:=sdo Tryz.func182 rfl (by kernel_rfl)
def f183r0:LS:=[o 2 (.new [(.int .i64 0),(.string ⟨#[]⟩),(.string ⟨#[]⟩),(.int .i64 0),(.slice none 0 0),(.slice none 0 0)])]
def f183r1:LS:=[M 4 0,o 5 (.call 240 [(t 4)]),o 3 (.new [(.int .i64 0),(.string ⟨#[]⟩),(.string ⟨#[]⟩),(.int .i64 0),(.slice none 0 0),(.slice none 0 0)]),q (.st 6 (t 3) (t 5))]
def f183r2:LS:=[M 6 0,o 7 (.call 186 [(t 6),(.const (.string ⟨#[101,110,100]⟩))])]
def f183r3:LS:=[o 8 (.ldn 6 (t 3)),q (.st 6 (t 2) (t 8))]
def f183:SCode:=(.j f183r0 (.j f183r1 (.j f183r2 (.j f183r3 .ret))))
theorem f183_calls:Sound Tryz.prog 183 9 f183 [.cn 2 6]:=sdo Tryz.func183 rfl (by kernel_rfl)
def f185r0:LS:=[o 4 (.new [(.int .i64 0),(.string ⟨#[]⟩),(.string ⟨#[]⟩),(.int .i64 0),(.slice none 0 0),(.slice none 0 0)])]
def f185r1:LS:=[M 11 1,E 12 11 6]
def f185r2:LS:=[M 13 0,o 14 (.call 241 [(t 13)]),q (.st 6 (t 4) (t 14))]
def f185r3:LS:=[M 15 0,M 16 1,D 17 16 1,o 18 (.call 185 [(t 15),(t 17)]),o 19 (.bslice [(.int .i64 0),(.string ⟨#[]⟩),(.string ⟨#[]⟩),(.int .i64 0),(.slice none 0 0),(.slice none 0 0)] 1 [(0,6)] [(t 18)]),M 5 19]
def f185r4:LS:=[o 6 (.mv (.const (.slice none 0 0)))]
def f185r5:LS:=[M 20 0,K 21 20,A 22 5 21,L 23 22,E 24 23 0,M 25 24,
 g 26 25 (.mv (t 0)),
 g 27 25 (.nilck (t 26)),
 g 28 25 (.fa 1 (t 27)),
 g 29 25 (.ld1 (t 28)),
 g 30 25 (.mv (t 0)),
 g 31 25 (.nilck (t 30)),
 g 32 25 (.fa 0 (t 31)),
 g 33 25 (.ld1 (t 32)),
 g 34 25 (.len (t 33)),
 g 35 25 (.cmp .lss (t 29) (t 34)),o 36 (.pick (t 25) (t 35) (b false)),M 37 36,
 g 38 37 (.mv (t 0)),
 g 39 37 (.mv (t 0)),
 g 40 37 (.nilck (t 39)),
 g 41 37 (.fa 0 (t 40)),
 g 42 37 (.ld1 (t 41)),
 g 43 37 (.mv (t 0)),
 g 44 37 (.nilck (t 43)),
 g 45 37 (.fa 1 (t 44)),
 g 46 37 (.ld1 (t 45)),
 g 47 37 (.ixs 4 (t 42) (t 46)),
 g 48 37 (.fa 1 (t 47)),
 g 49 37 (.ld1 (t 48)),
 g 50 37 (.call 181 [(t 38),(t 49)]),o 51 (.pick (t 37) (t 50) (b false)),M 52 51,
 g 53 52 (.mv (t 0)),
 g 54 52 (.nilck (t 53)),
 g 55 52 (.fa 0 (t 54)),
 g 56 52 (.ld1 (t 55)),
 g 57 52 (.mv (t 0)),
 g 58 52 (.nilck (t 57)),
 g 59 52 (.fa 1 (t 58)),
 g 60 52 (.ld1 (t 59)),
 g 61 52 (.ixs 4 (t 56) (t 60)),
 g 62 52 (.fa 1 (t 61)),
 g 63 52 (.ld1 (t 62)),
 g 65 52 (.mv (t 1)),
 g 64 52 (.call 242 [(t 63)]),
 g 66 52 (.cmp .eql (t 64) (t 65)),o 67 (.pick (t 52) (t 66) (b false))]
def f185r6:LS:=[M 68 6,M 69 0,K 70 69,A 71 0 70,L 72 71,M 73 0,K 74 73,A 75 1 74,L 76 75,G 77 4 72 76,A 78 1 77,L 79 78,o 80 (.bslice [(.string ⟨#[]⟩)] 1 [(0,1)] [(t 79)]),o 81 (.app 1 16 [(.string ⟨#[]⟩)] (t 68) (t 80)),M 6 81]
def f185r7:LS:=[M 82 0,K 83 82,A 84 1 83,L 85 84,D 86 85 1,K 87 82,A 88 1 87,q (.st 1 (t 88) (t 86))]
def f185r8:LS:=[M 89 5,M 90 0,M 91 1,D 92 91 1,o 93 (.call 185 [(t 90),(t 92)]),o 94 (.bslice [(.int .i64 0),(.string ⟨#[]⟩),(.string ⟨#[]⟩),(.int .i64 0),(.slice none 0 0),(.slice none 0 0)] 1 [(0,6)] [(t 93)]),o 95 (.app 6 96 [(.int .i64 0),(.string ⟨#[]⟩),(.string ⟨#[]⟩),(.int .i64 0),(.slice none 0 0),(.slice none 0 0)] (t 89) (t 94)),M 5 95]
def f185l9:SCode:=(.seq (.j f185r5 (.cond (t 67) .skip (.exit 0))) (.block 1 (.j f185r6 (.j f185r7 (.ops f185r8)))))
def f185r10:LS:=[M 96 1,E 97 96 3]
def f185r11:LS:=[M 98 5,M 99 5,o 100 (.len (t 99)),o 101 (.ar .sub (t 100) (i 1)),G 102 6 98 101,o 103 (.ldn 6 (t 102)),o 7 (.new [(.int .i64 0),(.string ⟨#[]⟩),(.string ⟨#[]⟩),(.int .i64 0),(.slice none 0 0),(.slice none 0 0)]),q (.st 6 (t 7) (t 103))]
def f185r12:LS:=[M 104 6,o 105 (.len (t 104)),o 106 (.ar .sub (t 105) (i 1)),M 8 106]
def f185r13:LS:=[M 107 8,o 108 (.cmp .geq (t 107) (i 0))]
def f185r14:LS:=[M 111 6,M 112 8,G 113 1 111 112,L 114 113,M 115 5,M 116 8,G 117 6 115 116,o 118 (.ldn 6 (t 117)),o 119 (.ldn 6 (t 7)),o 120 (.bslice [(.int .i64 0),(.string ⟨#[]⟩),(.string ⟨#[]⟩),(.int .i64 0),(.slice none 0 0),(.slice none 0 0),(.int .i64 0),(.string ⟨#[]⟩),(.string ⟨#[]⟩),(.int .i64 0),(.slice none 0 0),(.slice none 0 0)] 2 [(0,6),(6,6)] [(t 118),(t 119)]),o 121 (.build [(.int .i64 0),(.string ⟨#[]⟩),(.string ⟨#[]⟩),(.int .i64 0),(.slice none 0 0),(.slice none 0 0)] [(0,1),(1,1),(5,1)] [(i 21),(t 114),(t 120)]),q (.st 6 (t 7) (t 121))]
def f185r15:LS:=[M 109 8,o 110 (.ar .sub (t 109) (i 1)),M 8 110]
def f185l16:SCode:=(.seq (.j f185r13 (.cond (t 108) .skip (.exit 2))) (.seq (.block 3 (.ops f185r14)) (.ops f185r15)))
def f185r17:LS:=[o 122 (.ldn 6 (t 7)),q (.st 6 (t 4) (t 122))]
def f185r18:LS:=[M 123 5,o 124 (.ixs 6 (t 123) (i 0)),o 125 (.ldn 6 (t 124)),o 9 (.new [(.int .i64 0),(.string ⟨#[]⟩),(.string ⟨#[]⟩),(.int .i64 0),(.slice none 0 0),(.slice none 0 0)]),q (.st 6 (t 9) (t 125))]
def f185r19:LS:=[I 10 0]
def f185r20:LS:=[M 126 10,M 127 6,o 128 (.len (t 127)),o 129 (.cmp .lss (t 126) (t 128))]
def f185r21:LS:=[M 132 6,M 133 10,G 134 1 132 133,L 135 134,o 136 (.ldn 6 (t 9)),M 137 5,M 138 10,D 139 138 1,G 140 6 137 139,o 141 (.ldn 6 (t 140)),o 142 (.bslice [(.int .i64 0),(.string ⟨#[]⟩),(.string ⟨#[]⟩),(.int .i64 0),(.slice none 0 0),(.slice none 0 0),(.int .i64 0),(.string ⟨#[]⟩),(.string ⟨#[]⟩),(.int .i64 0),(.slice none 0 0),(.slice none 0 0)] 2 [(0,6),(6,6)] [(t 136),(t 141)]),o 143 (.build [(.int .i64 0),(.string ⟨#[]⟩),(.string ⟨#[]⟩),(.int .i64 0),(.slice none 0 0),(.slice none 0 0)] [(0,1),(1,1),(5,1)] [(i 21),(t 135),(t 142)]),q (.st 6 (t 9) (t 143))]
def f185r22:LS:=[M 130 10,D 131 130 1,M 10 131]
def f185l23:SCode:=(.seq (.j f185r20 (.cond (t 129) .skip (.exit 4))) (.seq (.block 5 (.ops f185r21)) (.ops f185r22)))
def f185r24:LS:=[o 144 (.ldn 6 (t 9)),q (.st 6 (t 4) (t 144))]
def f185:SCode:=(.j f185r0 (.seq (.j f185r1 (.k 12 f185r2)) (.j f185r3 (.j f185r4 (.seq (.block 0 (.loop f185l9)) (.seq (.j f185r10 (.cond (t 97) (.j f185r11 (.seq (.j f185r12 (.block 2 (.loop f185l16))) (.j f185r17 .ret))) .skip)) (.j f185r18 (.seq (.j f185r19 (.block 4 (.loop f185l23))) (.j f185r24 .ret)))))))))
theorem f185_calls:Sound Tryz.prog 185 145 f185 [.cn 4 6]:=sdo Tryz.func185 rfl (by kernel_rfl)
def f186r0:LS:=[M 4 0,M 5 1,o 6 (.call 135 [(t 4),(t 5)]),o 7 (.un .not (t 6))]
def f186r1:LS:=[M 8 0,M 9 0,o 10 (.call 86 [(t 9)]),o 11 (.call 85 [(t 8),(t 10),(i 220)])]
def f186:SCode:=(.j f186r0 (.cond (t 7) (.ops f186r1) .skip))
theorem f186_calls:Sound Tryz.prog 186 12 f186 []:=sdo Tryz.func186 rfl (by kernel_rfl)
def f237r0:LS:=[o 2 (.mv e)]
def f237r1:LS:=[M 6 0,o 7 (.call 335 [(t 6),(i 0)]),M 5 7,X 8 5 0,X 9 5 1,o 3 (.new [(.int .i64 0),(.string ⟨#[]⟩),(.int .i64 0),(.int .i64 0)]),q (.st 4 (t 3) (t 8)),M 4 9]
def f237r2:LS:=[M 10 4,o 11 (.un .not (t 10))]
def f237r3:LS:=[M 12 0,M 13 0,o 14 (.call 86 [(t 13)]),o 15 (.call 85 [(t 12),(t 14),(i 220)])]
def f237r4:LS:=[A 16 1 3,L 17 16,M 2 17]
def f237:SCode:=(.j f237r0 (.j f237r1 (.seq (.j f237r2 (.cond (t 11) (.ops f237r3) .skip)) (.j f237r4 .ret))))
theorem f237_calls:Sound Tryz.prog 237 18 f237 [.t 2]:=sdo Tryz.func237 rfl (by kernel_rfl)
def f238r0:LS:=[o 2 (.mv (.const (.slice none 0 0)))]
def f238r1:LS:=[M 4 0,o 5 (.call 237 [(t 4)]),o 6 (.bslice [(.string ⟨#[]⟩)] 1 [(0,1)] [(t 5)]),M 3 6]
def f238r2:LS:=[M 7 0,o 8 (.call 135 [(t 7),(.const (.string ⟨#[44]⟩))])]
def f238r3:LS:=[M 9 3,M 10 0,o 11 (.call 237 [(t 10)]),o 12 (.bslice [(.string ⟨#[]⟩)] 1 [(0,1)] [(t 11)]),o 13 (.app 1 16 [(.string ⟨#[]⟩)] (t 9) (t 12)),M 3 13]
def f238l4:SCode:=(.seq (.j f238r2 (.cond (t 8) .skip (.exit 0))) (.block 1 (.ops f238r3)))
def f238r5:LS:=[M 14 3,M 2 14]
def f238:SCode:=(.j f238r0 (.j f238r1 (.seq (.block 0 (.loop f238l4)) (.j f238r5 .ret))))
theorem f238_calls:Sound Tryz.prog 238 15 f238 [.t 2]:=sdo Tryz.func238 rfl (by kernel_rfl)
def f239r0:LS:=[o 2 (.mv (.const (.slice none 0 0)))]
def f239r1:LS:=[M 4 0,o 5 (.call 185 [(t 4),(i 0)]),o 6 (.bslice [(.int .i64 0),(.string ⟨#[]⟩),(.string ⟨#[]⟩),(.int .i64 0),(.slice none 0 0),(.slice none 0 0)] 1 [(0,6)] [(t 5)]),M 3 6]
def f239r2:LS:=[M 7 0,o 8 (.call 135 [(t 7),(.const (.string ⟨#[44]⟩))])]
def f239r3:LS:=[M 9 3,M 10 0,o 11 (.call 185 [(t 10),(i 0)]),o 12 (.bslice [(.int .i64 0),(.string ⟨#[]⟩),(.string ⟨#[]⟩),(.int .i64 0),(.slice none 0 0),(.slice none 0 0)] 1 [(0,6)] [(t 11)]),o 13 (.app 6 96 [(.int .i64 0),(.string ⟨#[]⟩),(.string ⟨#[]⟩),(.int .i64 0),(.slice none 0 0),(.slice none 0 0)] (t 9) (t 12)),M 3 13]
def f239l4:SCode:=(.seq (.j f239r2 (.cond (t 8) .skip (.exit 0))) (.block 1 (.ops f239r3)))
def f239r5:LS:=[M 14 3,M 2 14]
def f239:SCode:=(.j f239r0 (.j f239r1 (.seq (.block 0 (.loop f239l4)) (.j f239r5 .ret))))
theorem f239_calls:Sound Tryz.prog 239 15 f239 [.t 2]:=sdo Tryz.func239 rfl (by kernel_rfl)
def f240r0:LS:=[o 2 (.new [(.int .i64 0),(.string ⟨#[]⟩),(.string ⟨#[]⟩),(.int .i64 0),(.slice none 0 0),(.slice none 0 0)])]
def f240r1:LS:=[M 4 0,o 5 (.call 336 [(t 4)]),o 6 (.un .not (t 5))]
def f240r2:LS:=[o 7 (.build [(.int .i64 0),(.string ⟨#[]⟩),(.string ⟨#[]⟩),(.int .i64 0),(.slice none 0 0),(.slice none 0 0)] [] []),q (.st 6 (t 2) (t 7))]
def f240r3:LS:=[M 8 0,o 9 (.call 84 [(t 8)]),o 3 (.new [(.int .i64 0),(.string ⟨#[]⟩),(.string ⟨#[]⟩),(.int .i64 0),(.slice none 0 0),(.slice none 0 0)]),q (.st 6 (t 3) (t 9))]
def f240r4:LS:=[M 10 0,K 11 10,A 12 3 11,L 13 12,o 14 (.ar .sub (t 13) (i 1)),K 15 10,A 16 3 15,q (.st 1 (t 16) (t 14))]
def f240r5:LS:=[o 17 (.ldn 6 (t 3)),q (.st 6 (t 2) (t 17))]
def f240:SCode:=(.j f240r0 (.seq (.j f240r1 (.k 6 f240r2)) (.j f240r3 (.j f240r4 (.j f240r5 .ret)))))
theorem f240_calls:Sound Tryz.prog 240 18 f240 [.cn 2 6]:=sdo Tryz.func240 rfl (by kernel_rfl)
def f241r0:LS:=[o 2 (.new [(.int .i64 0),(.string ⟨#[]⟩),(.string ⟨#[]⟩),(.int .i64 0),(.slice none 0 0),(.slice none 0 0)])]
def f241r1:LS:=[o 3 (.mv (.const (.slice none 0 0)))]
def f241r2:LS:=[M 6 0,o 7 (.call 135 [(t 6),(.const (.string ⟨#[110,111,116]⟩))])]
def f241r3:LS:=[M 8 3,o 9 (.bslice [(.int .i64 0)] 1 [(0,1)] [(i 22)]),o 10 (.app 1 8 [(.int .i64 0)] (t 8) (t 9)),M 3 10]
def f241r4:LS:=[M 11 0,o 12 (.call 135 [(t 11),(.const (.string ⟨#[45]⟩))])]
def f241r5:LS:=[M 13 3,o 14 (.bslice [(.int .i64 0)] 1 [(0,1)] [(i 23)]),o 15 (.app 1 8 [(.int .i64 0)] (t 13) (t 14)),M 3 15]
def f241r6:LS:=[M 16 0,o 17 (.call 135 [(t 16),(.const (.string ⟨#[35]⟩))])]
def f241r7:LS:=[M 18 3,o 19 (.bslice [(.int .i64 0)] 1 [(0,1)] [(i 24)]),o 20 (.app 1 8 [(.int .i64 0)] (t 18) (t 19)),M 3 20]
def f241l8:SCode:=(.block 1 (.j f241r2 (.cond (t 7) (.ops f241r3) (.j f241r4 (.cond (t 12) (.ops f241r5) (.j f241r6 (.cond (t 17) (.ops f241r7) (.exit 0))))))))
def f241r9:LS:=[M 21 0,o 22 (.call 188 [(t 21)]),o 4 (.new [(.int .i64 0),(.string ⟨#[]⟩),(.string ⟨#[]⟩),(.int .i64 0),(.slice none 0 0),(.slice none 0 0)]),q (.st 6 (t 4) (t 22))]
def f241r10:LS:=[M 23 3,o 24 (.len (t 23)),o 25 (.ar .sub (t 24) (i 1)),M 5 25]
def f241r11:LS:=[M 26 5,o 27 (.cmp .geq (t 26) (i 0))]
def f241r12:LS:=[M 30 3,M 31 5,G 32 1 30 31,L 33 32,o 34 (.ldn 6 (t 4)),o 35 (.bslice [(.int .i64 0),(.string ⟨#[]⟩),(.string ⟨#[]⟩),(.int .i64 0),(.slice none 0 0),(.slice none 0 0)] 1 [(0,6)] [(t 34)]),o 36 (.build [(.int .i64 0),(.string ⟨#[]⟩),(.string ⟨#[]⟩),(.int .i64 0),(.slice none 0 0),(.slice none 0 0)] [(0,1),(5,1)] [(t 33),(t 35)]),q (.st 6 (t 4) (t 36))]
def f241r13:LS:=[M 28 5,o 29 (.ar .sub (t 28) (i 1)),M 5 29]
def f241l14:SCode:=(.seq (.j f241r11 (.cond (t 27) .skip (.exit 2))) (.seq (.block 3 (.ops f241r12)) (.ops f241r13)))
def f241r15:LS:=[o 37 (.ldn 6 (t 4)),q (.st 6 (t 2) (t 37))]
def f241:SCode:=(.j f241r0 (.j f241r1 (.seq (.block 0 (.loop f241l8)) (.j f241r9 (.seq (.j f241r10 (.block 2 (.loop f241l14))) (.j f241r15 .ret))))))
theorem f241_calls:Sound Tryz.prog 241 38 f241 [.cn 2 6]:=sdo Tryz.func241 rfl (by kernel_rfl)
def f242r0:LS:=[I 2 0]
def f242r1:LS:=[M 3 0]
def f242r2:LS:=[o 5 (.cmp .eql (t 3) (.const (.string ⟨#[111,114]⟩))),M 4 5]
def f242r3:LS:=[I 2 0]
def f242r4:LS:=[o 7 (.cmp .eql (t 3) (.const (.string ⟨#[97,110,100]⟩))),M 6 7]
def f242r5:LS:=[I 2 1]
def f242r6:LS:=[o 9 (.cmp .eql (t 3) (.const (.string ⟨#[61,61]⟩))),M 8 9]
def f242r7:LS:=[o 10 (.cmp .eql (t 3) (.const (.string ⟨#[126,61]⟩))),M 8 10]
def f242r8:LS:=[o 11 (.cmp .eql (t 3) (.const (.string ⟨#[60]⟩))),M 8 11]
def f242r9:LS:=[o 12 (.cmp .eql (t 3) (.const (.string ⟨#[60,61]⟩))),M 8 12]
def f242r10:LS:=[o 13 (.cmp .eql (t 3) (.const (.string ⟨#[62]⟩))),M 8 13]
def f242r11:LS:=[o 14 (.cmp .eql (t 3) (.const (.string ⟨#[62,61]⟩))),M 8 14]
def f242r12:LS:=[I 2 2]
def f242r13:LS:=[o 16 (.cmp .eql (t 3) (.const (.string ⟨#[46,46]⟩))),M 15 16]
def f242r14:LS:=[I 2 3]
def f242r15:LS:=[o 18 (.cmp .eql (t 3) (.const (.string ⟨#[43]⟩))),M 17 18]
def f242r16:LS:=[o 19 (.cmp .eql (t 3) (.const (.string ⟨#[45]⟩))),M 17 19]
def f242r17:LS:=[I 2 4]
def f242r18:LS:=[o 21 (.cmp .eql (t 3) (.const (.string ⟨#[42]⟩))),M 20 21]
def f242r19:LS:=[o 22 (.cmp .eql (t 3) (.const (.string ⟨#[47]⟩))),M 20 22]
def f242r20:LS:=[o 23 (.cmp .eql (t 3) (.const (.string ⟨#[37]⟩))),M 20 23]
def f242r21:LS:=[I 2 5]
def f242r22:LS:=[I 2 (-1)]
def f242:SCode:=(.j f242r0 (.seq (.j f242r1 (.block 0 (.j f242r2 (.cond (t 4) (.j f242r3 .ret) (.j f242r4 (.cond (t 6) (.j f242r5 .ret) (.seq (.j f242r6 (.cond (t 8) .skip (.j f242r7 (.cond (t 8) .skip (.j f242r8 (.cond (t 8) .skip (.j f242r9 (.cond (t 8) .skip (.j f242r10 (.cond (t 8) .skip (.ops f242r11))))))))))) (.cond (t 8) (.j f242r12 .ret) (.j f242r13 (.cond (t 15) (.j f242r14 .ret) (.seq (.j f242r15 (.cond (t 17) .skip (.ops f242r16))) (.cond (t 17) (.j f242r17 .ret) (.seq (.j f242r18 (.cond (t 20) .skip (.j f242r19 (.cond (t 20) .skip (.ops f242r20))))) (.k 20 f242r21)))))))))))))) (.j f242r22 .ret)))
theorem f242_calls:Sound Tryz.prog 242 24 f242 [.t 2]:=sdo Tryz.func242 rfl (by kernel_rfl)
def f243r0:LS:=[o 2 (.new [(.int .i64 0),(.string ⟨#[]⟩),(.string ⟨#[]⟩),(.int .i64 0),(.slice none 0 0),(.slice none 0 0)]),o 3 (.mv (b false))]
def f243r1:LS:=[M 7 0,o 8 (.call 335 [(t 7),(i 2)]),M 6 8,X 9 6 0,X 10 6 1,o 4 (.new [(.int .i64 0),(.string ⟨#[]⟩),(.int .i64 0),(.int .i64 0)]),q (.st 4 (t 4) (t 9)),M 5 10]
def f243r2:LS:=[M 11 5]
def f243r3:LS:=[A 12 2 4,L 13 12,o 14 (.build [(.int .i64 0),(.string ⟨#[]⟩),(.string ⟨#[]⟩),(.int .i64 0),(.slice none 0 0),(.slice none 0 0)] [(0,1),(3,1)] [(i 13),(t 13)]),q (.st 6 (t 2) (t 14)),o 3 (.mv (b false))]
def f243r4:LS:=[M 16 0,o 17 (.call 335 [(t 16),(i 3)]),M 15 17,X 18 15 0,X 19 15 1,q (.st 4 (t 4) (t 18)),M 5 19]
def f243r5:LS:=[M 20 5]
def f243r6:LS:=[A 21 1 4,L 22 21,o 23 (.build [(.int .i64 0),(.string ⟨#[]⟩),(.string ⟨#[]⟩),(.int .i64 0),(.slice none 0 0),(.slice none 0 0)] [(0,1),(2,1)] [(i 14),(t 22)]),q (.st 6 (t 2) (t 23)),o 3 (.mv (b false))]
def f243r7:LS:=[M 25 0,o 26 (.call 335 [(t 25),(i 0)]),M 24 26,X 27 24 0,X 28 24 1,q (.st 4 (t 4) (t 27)),M 5 28]
def f243r8:LS:=[M 29 5]
def f243r9:LS:=[M 30 0,o 31 (.call 135 [(t 30),(.const (.string ⟨#[40]⟩))])]
def f243r10:LS:=[M 32 0,A 33 1 4,L 34 33,o 35 (.call 337 [(t 32),(t 34)]),q (.st 6 (t 2) (t 35)),o 3 (.mv (b true))]
def f243r11:LS:=[A 36 1 4,L 37 36,o 38 (.build [(.int .i64 0),(.string ⟨#[]⟩),(.string ⟨#[]⟩),(.int .i64 0),(.slice none 0 0),(.slice none 0 0)] [(0,1),(1,1)] [(i 15),(t 37)]),q (.st 6 (t 2) (t 38)),o 3 (.mv (b true))]
def f243r12:LS:=[M 39 0,o 40 (.call 135 [(t 39),(.const (.string ⟨#[110,105,108]⟩))])]
def f243r13:LS:=[o 41 (.build [(.int .i64 0),(.string ⟨#[]⟩),(.string ⟨#[]⟩),(.int .i64 0),(.slice none 0 0),(.slice none 0 0)] [(0,1)] [(i 10)]),q (.st 6 (t 2) (t 41)),o 3 (.mv (b false))]
def f243r14:LS:=[M 42 0,o 43 (.call 135 [(t 42),(.const (.string ⟨#[116,114,117,101]⟩))])]
def f243r15:LS:=[o 44 (.build [(.int .i64 0),(.string ⟨#[]⟩),(.string ⟨#[]⟩),(.int .i64 0),(.slice none 0 0),(.slice none 0 0)] [(0,1)] [(i 11)]),q (.st 6 (t 2) (t 44)),o 3 (.mv (b false))]
def f243r16:LS:=[M 45 0,o 46 (.call 135 [(t 45),(.const (.string ⟨#[102,97,108,115,101]⟩))])]
def f243r17:LS:=[o 47 (.build [(.int .i64 0),(.string ⟨#[]⟩),(.string ⟨#[]⟩),(.int .i64 0),(.slice none 0 0),(.slice none 0 0)] [(0,1)] [(i 12)]),q (.st 6 (t 2) (t 47)),o 3 (.mv (b false))]
def f243r18:LS:=[M 48 0,o 49 (.call 135 [(t 48),(.const (.string ⟨#[40]⟩))])]
def f243r19:LS:=[M 50 0,o 51 (.call 244 [(t 50),(.const (.string ⟨#[41]⟩))]),q (.st 6 (t 2) (t 51)),o 3 (.mv (b true))]
def f243r20:LS:=[M 52 0,o 53 (.call 135 [(t 52),(.const (.string ⟨#[123]⟩))])]
def f243r21:LS:=[M 54 0,o 55 (.call 338 [(t 54)]),q (.st 6 (t 2) (t 55)),o 3 (.mv (b false))]
def f243r22:LS:=[M 56 0,M 57 0,o 58 (.call 86 [(t 57)]),o 59 (.call 85 [(t 56),(t 58),(i 220)])]
def f243r23:LS:=[o 60 (.build [(.int .i64 0),(.string ⟨#[]⟩),(.string ⟨#[]⟩),(.int .i64 0),(.slice none 0 0),(.slice none 0 0)] [] []),q (.st 6 (t 2) (t 60)),o 3 (.mv (b false))]
def f243:SCode:=(.j f243r0 (.j f243r1 (.seq (.j f243r2 (.k 11 f243r3)) (.j f243r4 (.seq (.j f243r5 (.k 20 f243r6)) (.j f243r7 (.seq (.j f243r8 (.cond (t 29) (.seq (.j f243r9 (.k 31 f243r10)) (.j f243r11 .ret)) .skip)) (.seq (.j f243r12 (.k 40 f243r13)) (.seq (.j f243r14 (.k 43 f243r15)) (.seq (.j f243r16 (.k 46 f243r17)) (.seq (.j f243r18 (.k 49 f243r19)) (.seq (.j f243r20 (.k 53 f243r21)) (.j f243r22 (.j f243r23 .ret))))))))))))))
theorem f243_calls:Sound Tryz.prog 243 61 f243 [.cn 2 6,.t 3]:=sdo Tryz.func243 rfl (by kernel_rfl)
def f244r0:LS:=[o 4 (.new [(.int .i64 0),(.string ⟨#[]⟩),(.string ⟨#[]⟩),(.int .i64 0),(.slice none 0 0),(.slice none 0 0)])]
def f244r1:LS:=[M 6 0,o 7 (.call 336 [(t 6)]),o 8 (.un .not (t 7))]
def f244r2:LS:=[o 9 (.build [(.int .i64 0),(.string ⟨#[]⟩),(.string ⟨#[]⟩),(.int .i64 0),(.slice none 0 0),(.slice none 0 0)] [] []),q (.st 6 (t 4) (t 9))]
def f244r3:LS:=[M 10 0,o 11 (.call 185 [(t 10),(i 0)]),o 5 (.new [(.int .i64 0),(.string ⟨#[]⟩),(.string ⟨#[]⟩),(.int .i64 0),(.slice none 0 0),(.slice none 0 0)]),q (.st 6 (t 5) (t 11))]
def f244r4:LS:=[M 12 0,K 13 12,A 14 3 13,L 15 14,o 16 (.ar .sub (t 15) (i 1)),K 17 12,A 18 3 17,q (.st 1 (t 18) (t 16))]
def f244r5:LS:=[M 19 0,M 20 1,o 21 (.call 186 [(t 19),(t 20)])]
def f244r6:LS:=[o 22 (.ldn 6 (t 5)),q (.st 6 (t 4) (t 22))]
def f244:SCode:=(.j f244r0 (.seq (.j f244r1 (.k 8 f244r2)) (.j f244r3 (.j f244r4 (.j f244r5 (.j f244r6 .ret))))))
theorem f244_calls:Sound Tryz.prog 244 23 f244 [.cn 4 6]:=sdo Tryz.func244 rfl (by kernel_rfl)
def f335r0:LS:=[o 4 (.new [(.int .i64 0),(.string ⟨#[]⟩),(.int .i64 0),(.int .i64 0)]),o 5 (.mv (b false))]
def f335r1:LS:=[M 6 0,K 7 6,A 8 5 7,L 9 8,o 10 (.cmp .neq (t 9) (i 0)),M 11 10,
 n 12 11 (.mv (t 0)),
 n 13 11 (.nilck (t 12)),
 n 14 11 (.fa 1 (t 13)),
 n 15 11 (.ld1 (t 14)),
 n 16 11 (.mv (t 0)),
 n 17 11 (.nilck (t 16)),
 n 18 11 (.fa 0 (t 17)),
 n 19 11 (.ld1 (t 18)),
 n 20 11 (.len (t 19)),
 n 21 11 (.cmp .geq (t 15) (t 20)),o 22 (.pick (t 11) (b true) (t 21)),M 23 22,
 n 24 23 (.mv (t 0)),
 n 25 23 (.nilck (t 24)),
 n 26 23 (.fa 0 (t 25)),
 n 27 23 (.ld1 (t 26)),
 n 28 23 (.mv (t 0)),
 n 29 23 (.nilck (t 28)),
 n 30 23 (.fa 1 (t 29)),
 n 31 23 (.ld1 (t 30)),
 n 32 23 (.ixs 4 (t 27) (t 31)),
 n 33 23 (.fa 0 (t 32)),
 n 34 23 (.ld1 (t 33)),
 n 35 23 (.mv (t 1)),
 n 36 23 (.cmp .neq (t 34) (t 35)),o 37 (.pick (t 23) (b true) (t 36))]
def f335r2:LS:=[o 38 (.build [(.int .i64 0),(.string ⟨#[]⟩),(.int .i64 0),(.int .i64 0)] [] []),q (.st 4 (t 4) (t 38)),o 5 (.mv (b false))]
def f335r3:LS:=[M 39 0,K 40 39,A 41 1 40,L 42 41,D 43 42 1,K 44 39,A 45 1 44,q (.st 1 (t 45) (t 43))]
def f335r4:LS:=[M 46 0,K 47 46,A 48 0 47,L 49 48,M 50 0,K 51 50,A 52 1 51,L 53 52,o 54 (.ar .sub (t 53) (i 1)),G 55 4 49 54,o 56 (.ldn 4 (t 55)),q (.st 4 (t 4) (t 56)),o 5 (.mv (b true))]
def f335:SCode:=(.j f335r0 (.seq (.j f335r1 (.k 37 f335r2)) (.j f335r3 (.j f335r4 .ret))))
theorem f335_calls:Sound Tryz.prog 335 57 f335 [.cn 4 4,.t 5]:=sdo Tryz.func335 rfl (by kernel_rfl)
def f336r0:LS:=[o 2 (.mv (b false))]
def f336r1:LS:=[M 3 0,K 4 3,A 5 5 4,L 6 5,o 7 (.cmp .neq (t 6) (i 0))]
def f336r2:LS:=[o 2 (.mv (b false))]
def f336r3:LS:=[M 8 0,K 9 8,A 10 3 9,L 11 10,D 12 11 1,K 13 8,A 14 3 13,q (.st 1 (t 14) (t 12))]
def f336r4:LS:=[M 15 0,K 16 15,A 17 3 16,L 18 17,o 19 (.cmp .gtr (t 18) (i 100))]
def f336r5:LS:=[M 20 0,M 21 0,K 22 21,A 23 0 22,L 24 23,M 25 0,K 26 25,A 27 1 26,L 28 27,o 29 (.ar .sub (t 28) (i 1)),G 30 4 24 29,A 31 3 30,L 32 31,o 33 (.call 85 [(t 20),(t 32),(i 221)])]
def f336r6:LS:=[o 2 (.mv (b false))]
def f336r7:LS:=[o 2 (.mv (b true))]
def f336:SCode:=(.j f336r0 (.seq (.j f336r1 (.k 7 f336r2)) (.j f336r3 (.seq (.j f336r4 (.cond (t 19) (.j f336r5 (.j f336r6 .ret)) .skip)) (.j f336r7 .ret)))))
theorem f336_calls:Sound Tryz.prog 336 34 f336 [.t 2]:=sdo Tryz.func336 rfl (by kernel_rfl)
def f337r0:LS:=[o 4 (.new [(.int .i64 0),(.string ⟨#[]⟩),(.string ⟨#[]⟩),(.int .i64 0),(.slice none 0 0),(.slice none 0 0)])]
def f337r1:LS:=[M 6 1,o 7 (.build [(.int .i64 0),(.string ⟨#[]⟩),(.string ⟨#[]⟩),(.int .i64 0),(.slice none 0 0),(.slice none 0 0)] [(0,1),(1,1)] [(i 17),(t 6)]),o 5 (.new [(.int .i64 0),(.string ⟨#[]⟩),(.string ⟨#[]⟩),(.int .i64 0),(.slice none 0 0),(.slice none 0 0)]),q (.st 6 (t 5) (t 7))]
def f337r2:LS:=[M 8 0,o 9 (.call 336 [(t 8)]),o 10 (.un .not (t 9))]
def f337r3:LS:=[o 11 (.ldn 6 (t 5)),q (.st 6 (t 4) (t 11))]
def f337r4:LS:=[M 12 0,o 13 (.call 181 [(t 12),(.const (.string ⟨#[41]⟩))]),o 14 (.un .not (t 13))]
def f337r5:LS:=[M 15 0,o 16 (.call 239 [(t 15)]),A 17 5 5,q (.st 1 (t 17) (t 16))]
def f337r6:LS:=[M 18 0,K 19 18,A 20 3 19,L 21 20,o 22 (.ar .sub (t 21) (i 1)),K 23 18,A 24 3 23,q (.st 1 (t 24) (t 22))]
def f337r7:LS:=[M 25 0,o 26 (.call 186 [(t 25),(.const (.string ⟨#[41]⟩))])]
def f337r8:LS:=[o 27 (.ldn 6 (t 5)),q (.st 6 (t 4) (t 27))]
def f337:SCode:=(.j f337r0 (.j f337r1 (.seq (.j f337r2 (.k 10 f337r3)) (.seq (.j f337r4 (.cond (t 14) (.ops f337r5) .skip)) (.j f337r6 (.j f337r7 (.j f337r8 .ret)))))))
theorem f337_calls:Sound Tryz.prog 337 28 f337 [.cn 4 6]:=sdo Tryz.func337 rfl (by kernel_rfl)
end Go.Proofs.YtikcimlokhmleaaGreatDoor.C

namespace Go.Sx
open Go Go.ChangeShapes Go.WideShapes Go.ChangeAt Go.RowKit
section
variable {H:Type} {enc:TypeId×Value→H} {P:Program}
theorem open_cellR {α:Type} {en:α→List Value} {Good:α→Prop} {t e:TypeId} {k:Nat} {W:World} {base:Nat} {sp:Nat→Bool} {held:Bool} (ht:P.underlying t=some (.slice e)) (hk:P.cellsOf e=k) (hpos:0<k) (hsz:∀a,(en a).length=k)
  {n:Nat} (hel:∀n',n'<n→∀cs x,DataW.trod enc P W base sp held n' e cs=some x→Wts P e x.1→∃a,cs=en a∧Good a)
  {v:Value} {x:DataW H×List MemPlace} (h:DataW.trod enc P W base sp held n t [v]=some x) (hw:Wts P t x.1):
  ∃l:List α,SL en W.heap v l∧(∀a∈l,Good a)∧l.length*P.bytesOf e≤reachBytes:=by
 rcases DataW.trod_slice ht h with⟨hcs,_⟩|⟨a,len,cap,elems,rest,n',hfu,hcs,hx,_,hlc,_,hlen,hels,_,_⟩
 ·have hv:v=.slice none 0 0:=by simpa using hcs
  subst hv
  exact⟨[],SL.nil,by simp,by simp⟩
 ·have hv:v=.slice (some a) len cap:=by simpa using hcs
  subst hv
  obtain⟨b,o,s⟩:=a
  cases s with
  |some q=>
   have h0:len=0:=by
    rcases Nat.eq_zero_or_pos len with h|h
    ·exact h
    ·exfalso
     have h1:=hels 0 h
     have hi':0<elems.length:=by omega
     rw[List.getElem?_eq_getElem hi']at h1
     obtain⟨cs,hcs',_⟩:=Option.bind_eq_some_iff.1 h1
     obtain⟨_,hlcs,hcell⟩:=World.cells?_some hcs'
     have:=hcell 0 (by rw[hk];exact hpos)
     rw[List.getElem?_eq_getElem (by omega)]at this
     simp only[Nat.zero_mul,Addr.add,if_true]at this
     unfold World.cell? at this
     split at this<;>simp at this
   subst h0
   exact⟨[],⟨_,cap,rfl,Nat.zero_le _,rfl⟩,by simp,by simp⟩
  |none=>
   have hwd:∀i (hi:i<elems.length),Wts P e (elems[i]).1:=by
    intro i hi m hm
    have hd:x.1=.slice (elems.map (·.1)) (rest.map (·.1)):=congrArg Prod.fst hx
    refine hw m ?_
    rw[hd]
    simp only[DataW.weights,ht,List.mem_cons,List.mem_append]
    exact .inr (.inl (weightsAll_mem' (d:=(elems[i]).1) (List.mem_map.2 ⟨_,List.getElem_mem hi,rfl⟩) m hm))
   obtain⟨l,hl,hp⟩:=exists_list (p:=fun i (a:α)=>(∀j v,(en a)[j]? =some v→cell W.heap b (o+i*k+j)=some v)∧Good a) len (by
    intro i hi
    have h1:=hels i hi
    have hi':i<elems.length:=by omega
    rw[List.getElem?_eq_getElem hi']at h1
    obtain⟨cs,hcs',htr⟩:=Option.bind_eq_some_iff.1 h1
    obtain⟨_,hlcs,hcell⟩:=World.cells?_some hcs'
    have hc2:∀j,j<k→cell W.heap b (o+i*k+j)=cs[j]? :=by
     intro j hjk
     have:=hcell j (by rw[hk];exact hjk)
     have e1:(Addr.add ⟨b,o,none⟩ (i*P.cellsOf e)).add j=⟨b,o+i*k+j,none⟩:=by
      rw[hk];unfold Addr.add;split<;>split<;>simp_all
     rw[e1,world_cell]at this
     exact this
    obtain⟨x,hx1,hx2⟩:=hel n' (by omega) _ _ htr (hwd i hi')
    subst hx1
    refine⟨x,fun j v hj=>?_,hx2⟩
    have hjk:j<k:=by have:=(List.getElem?_eq_some_iff.1 hj).1;rw[hsz]at this;exact this
    rw[hc2 j hjk,hj])
   subst hl
   refine⟨l,⟨_,cap,rfl,hlc,?_⟩,fun a ha=>?_,?_⟩
   ·intro q v hq
    have hq1:=(List.getElem?_eq_some_iff.1 hq).1
    rw[flatMap_len hsz]at hq1
    have hik:q/k<l.length:=Nat.div_lt_of_lt_mul (by rw[Nat.mul_comm];exact hq1)
    have hli:l[q/k]? =some l[q/k]:=List.getElem?_eq_getElem hik
    have hjk:q%k<(en l[q/k]).length:=by rw[hsz];exact Nat.mod_lt _ hpos
    have hej:=List.getElem?_eq_getElem hjk
    have h2:=flatMap_get hsz l (q/k) _ hli (q%k) _ hej
    have hq2:q/k*k+q%k=q:=by rw[Nat.mul_comm];exact Nat.div_add_mod q k
    rw[hq2,hq]at h2
    cases h2
    have:=(hp _ _ hli).1 _ _ hej
    rw[Nat.add_assoc,hq2]at this
    exact this
   ·obtain⟨i,hi⟩:=List.getElem?_of_mem ha
    exact(hp i a hi).2
   ·have hd:x.1=.slice (elems.map (·.1)) (rest.map (·.1)):=congrArg Prod.fst hx
    have:=hw ((elems.map (·.1)).length+(rest.map (·.1)).length|>(· *P.bytesOf e)) (by rw[hd];simp[DataW.weights,ht])
    simp only[List.length_map]at this
    refine Nat.le_trans (Nat.mul_le_mul_right _ ?_) this
    omega
theorem open_cell {α:Type} {en:α→List Value} {Good:α→Prop} {t e:TypeId} {k:Nat} {W:World} {base:Nat} {sp:Nat→Bool} {held:Bool} (ht:P.underlying t=some (.slice e)) (hk:P.cellsOf e=k) (hpos:0<k) (hsz:∀a,(en a).length=k)
  (hel:∀n cs x,DataW.trod enc P W base sp held n e cs=some x→Wts P e x.1→∃a,cs=en a∧Good a)
  {n:Nat} {v:Value} {x:DataW H×List MemPlace} (h:DataW.trod enc P W base sp held n t [v]=some x) (hw:Wts P t x.1):
  ∃l:List α,SL en W.heap v l∧(∀a∈l,Good a)∧l.length*P.bytesOf e≤reachBytes:=
 open_cellR ht hk hpos hsz (fun n' _ cs x=>hel n' cs x) h hw
theorem cell_arg {t e:TypeId} {W:World} {base b0:Nat} {r:Reach} {sp:Nat→Bool} {held:Bool} {v:Value} {d:DataW H} {ps:List MemPlace} (ht:P.underlying t=some (.slice e)) (hval:Value.okWide P W r b0 t v) (h:DataW.Trod enc P W base sp held t v d ps):
  ∃n,DataW.trod enc P W base sp held n t [v]=some (d,ps):=by
 have hv:Cell.okWide P W r b0 t v:=by
  simp only[Value.okWide,ht]at hval;exact hval
 obtain⟨n,h⟩:=h
 refine⟨n,?_⟩
 have:v.cells.toList=[v]:=by
  simp only[Cell.okWide,Cell.ok,ht]at hv
  split at hv<;>simp_all [Value.cells]
 rw[←this];exact h
end
end Go.Sx

namespace Go.Sx
open Go
variable {α:Type} {enc:α→List Value} {size:Nat}
theorem Put.refl {h:Heap} {b:Nat} {l:List Value} (hb:Blk h b l):Put h h b l:=⟨hb,rfl,fun _ _=>rfl,fun _ h=>h⟩
theorem Put.trans {h h1 h2:Heap} {b:Nat} {l l':List Value} (p:Put h h1 b l) (q:Put h1 h2 b l'):Put h h2 b l':=
 ⟨q.blk,by rw[q.size,p.size],fun k hk=>by rw[q.old k hk,p.old k hk],fun t ht=>q.ty t (p.ty t ht)⟩
theorem OL.open {h:Heap} {a:Option Addr} {n c:Nat} {l:List α} (ho:OL enc size h (.slice a n c) l):n=l.length∧((a=none∧l=[]∧c=0)∨∃b,a=some ⟨b,0,none⟩∧l.length≤c∧∃rest,Blk h b (l.flatMap enc++rest)∧(l.flatMap enc++rest).length=c*size):=by
 obtain⟨a1,c1,he,hm⟩:=ho
 cases he
 refine⟨rfl,?_⟩
 split at hm
 ·exact .inl ⟨rfl,hm.1,hm.2⟩
 ·rename_i b o
  obtain⟨rfl,h2,rest,h3,h4⟩:=hm
  exact .inr ⟨b,rfl,h2,rest,h3,h4⟩
 ·exact hm.elim
theorem OL.mk {h:Heap} {b n c:Nat} {l:List α} {rest:List Value} (hn:n=l.length) (hc:l.length≤c) (hb:Blk h b (l.flatMap enc++rest)) (hl:(l.flatMap enc++rest).length=c*size):OL enc size h (.slice (some ⟨b,0,none⟩) n c) l:=by
 subst hn
 exact⟨_,c,rfl,rfl,hc,rest,hb,hl⟩
theorem OL.form {h:Heap} {v:Value} {l:List α} (ho:OL enc size h v l):∃a c,v=.slice a l.length c∧l.length≤c:=ho.sl.form
theorem SL.src {h:Heap} {a:Option Addr} {n c:Nat} {l:List α} (hs:SL enc h (.slice a n c) l):Src h a n (l.flatMap enc):=by
 obtain⟨a',c',he,_,h2⟩:=hs
 injection he with e1 e2 e3
 subst e1 e2 e3
 exact h2
end Go.Sx
