/-
  The simplified code of this seat's functions, and that it is what the program's code comes to. Printed by a program (wip/print.lean).
  Layer 8: GET, STRLEN, INCR, DECR, INCRBY, APPEND.
  Layer 8: INCR, DECR, INCRBY, APPEND.
  Layer 8: what the commands come to; plain.
  Layer 7: the document's Get: its thing stands at every later heap.
  Layer 9: the document's answer, its block longer: what is asked stands in one block; its small functions.
  Layer 9: what the commands of things with items come to; plain.
  Layer 9: the document's answer: a gone thing, the thing under the key, an effect that makes something.
  The simplified code of this seat's functions, and that it is what the program's code comes to. Printed by a program (wip/print.lean).
  The simplified code of this seat's functions, and that it is what the program's code comes to. Printed by a program (wip/print.lean).
  The simplified code of this seat's functions, and that it is what the program's code comes to. Printed by a program (wip/print.lean).
  The simplified code of this seat's functions, and that it is what the program's code comes to. Printed by a program (wip/print.lean).
  The simplified code of this seat's functions, and that it is what the program's code comes to. Printed by a program (wip/print.lean).
  The simplified code of this seat's functions, and that it is what the program's code comes to. Printed by a program (wip/print.lean).
  The simplified code of this seat's functions, and that it is what the program's code comes to. Printed by a program (wip/print.lean).
  Layer 8: what Do does behind a command: a stop is an error's reply.
  Layer 8: a text in capital letters, by the document and by the program.
  Layer 8: the map of commands: which function stands under which word; by a walk.
  Layer 8: Do, for a word that is a command's.
  Layer 8: Do, whatever is asked.
  Layer 8: what effects make of a keyspace, one behind the other; plain.
  Layer 8: TYPE, PERSIST, PTTL, PEXPIRE, DBSIZE.
  Layer 8: what is known of a keyspace that keys.Of made of few things.
  Layer 8: EXISTS, DEL, DBSIZE.
  Layer 8: MGET, KEYS, DEL, MSET.
  Layer 8: DEL, MSET.
  Layer 8: SET, FLUSHALL.
  Layer 8: whatever is asked: its effects are all done.
  Layer 9: the document's answer: the thing under the key, what is made and what is taken away.
  Layer 9: a command that is asked of a thing: its block as an entry; giving up.
  Layer 9: giving up; how many arguments; the thing under the key; a number; effects. (Not built yet: written from the printed code.)
  Layer 9: the thing under the key; an effect that makes something, that takes away. (Not built yet: written from the printed code.)
  Layer 9: replies that are lists; places. (Written by gencd.py.)
  Layer 9: the document's answer: spans, lists of texts.
  Layer 9: the commands of lists.
-/
import Derived.Test.YtjnijlnmbjjgpaaGreatDoorProg
import Derived.Test.YtjnijlnmbjjgpaaGreatDoorZD9C
set_option maxRecDepth 100000
namespace Go.Proofs.YtjnijlnmbjjgpaaGreatDoor.C
open Go Go.Sx Go.Sx.S
def f27r0:LS:=[o 2 (.box (t 0)),o 3 (.box (t 1)),o 4 (.mv (b false))]
def f27r1:LS:=[A 6 0 2,L 7 6,A 8 0 3,L 9 8,o 10 (.cmp .neq (t 7) (t 9)),M 11 10,
 n 12 11 (.fa 1 (t 2)),
 n 13 11 (.ld1 (t 12)),
 n 14 11 (.fa 1 (t 3)),
 n 15 11 (.ld1 (t 14)),
 n 16 11 (.cmp .neq (t 13) (t 15)),o 17 (.pick (t 11) (b true) (t 16)),M 18 17,
 n 19 18 (.fa 2 (t 2)),
 n 20 18 (.ld1 (t 19)),
 n 21 18 (.fa 2 (t 3)),
 n 22 18 (.ld1 (t 21)),
 n 23 18 (.cmp .neq (t 20) (t 22)),o 24 (.pick (t 18) (b true) (t 23)),M 25 24,
 n 26 25 (.fa 3 (t 2)),
 n 27 25 (.ld1 (t 26)),
 n 28 25 (.len (t 27)),
 n 29 25 (.fa 3 (t 3)),
 n 30 25 (.ld1 (t 29)),
 n 31 25 (.len (t 30)),
 n 32 25 (.cmp .neq (t 28) (t 31)),o 33 (.pick (t 25) (b true) (t 32))]
def f27r2:LS:=[o 4 (.mv (b false))]
def f27r3:LS:=[I 5 0]
def f27r4:LS:=[M 34 5,A 35 3 2,L 36 35,o 37 (.len (t 36)),o 38 (.cmp .lss (t 34) (t 37))]
def f27r5:LS:=[A 41 3 2,L 42 41,M 43 5,G 44 4 42 43,o 45 (.ldn 4 (t 44)),A 46 3 3,L 47 46,M 48 5,G 49 4 47 48,o 50 (.ldn 4 (t 49)),o 51 (.call 27 [(t 45),(t 50)]),o 52 (.un .not (t 51))]
def f27r6:LS:=[o 4 (.mv (b false))]
def f27r7:LS:=[M 39 5,D 40 39 1,M 5 40]
def f27l8:SCode:=(.seq (.j f27r4 (.cond (t 38) .skip (.exit 0))) (.seq (.block 1 (.j f27r5 (.k 52 f27r6))) (.ops f27r7)))
def f27r9:LS:=[o 4 (.mv (b true))]
def f27:SCode:=(.j f27r0 (.seq (.j f27r1 (.k 33 f27r2)) (.seq (.j f27r3 (.block 0 (.loop f27l8))) (.j f27r9 .ret))))
theorem f27_calls:Sound Tryz.prog 27 53 f27 [.t 4]:=sdo Tryz.func27 rfl (by kernel_rfl)
def f32r0:LS:=[o 4 (.mv (b false))]
def f32r1:LS:=[M 6 0,o 7 (.len (t 6)),M 8 1,o 9 (.len (t 8)),o 10 (.cmp .neq (t 7) (t 9))]
def f32r2:LS:=[o 4 (.mv (b false))]
def f32r3:LS:=[I 5 0]
def f32r4:LS:=[M 11 5,M 12 0,o 13 (.len (t 12)),o 14 (.cmp .lss (t 11) (t 13))]
def f32r5:LS:=[M 17 0,M 18 5,G 19 5 17 18,o 20 (.ldn 5 (t 19)),M 21 1,M 22 5,G 23 5 21 22,o 24 (.ldn 5 (t 23)),o 25 (.eqa true [(.int .i64),.str,.str,.str,(.int .i64)] (t 20) (t 24))]
def f32r6:LS:=[o 4 (.mv (b false))]
def f32r7:LS:=[M 15 5,D 16 15 1,M 5 16]
def f32l8:SCode:=(.seq (.j f32r4 (.cond (t 14) .skip (.exit 0))) (.seq (.block 1 (.j f32r5 (.k 25 f32r6))) (.ops f32r7)))
def f32r9:LS:=[o 4 (.mv (b true))]
def f32:SCode:=(.j f32r0 (.seq (.j f32r1 (.k 10 f32r2)) (.seq (.j f32r3 (.block 0 (.loop f32l8))) (.j f32r9 .ret))))
theorem f32_calls:Sound Tryz.prog 32 26 f32 [.t 4]:=sdo Tryz.func32 rfl (by kernel_rfl)
def f49r0:LS:=[o 2 (.new [(.int .i64 0),(.int .i64 0),(.string ⟨#[]⟩),(.slice none 0 0)])]
def f49r1:LS:=[M 3 0,o 4 (.build [(.int .i64 0),(.int .i64 0),(.string ⟨#[]⟩),(.slice none 0 0)] [(0,1),(2,1)] [(i 2),(t 3)]),q (.st 4 (t 2) (t 4))]
def f49:SCode:=(.j f49r0 (.j f49r1 .ret))
theorem f49_calls:Sound Tryz.prog 49 5 f49 [.cn 2 4]:=sdo Tryz.func49 rfl (by kernel_rfl)
def f54r0:LS:=[o 2 (.mv e)]
def f54r1:LS:=[M 5 0,o 6 (.byts (t 5)),M 3 6]
def f54r2:LS:=[I 4 0]
def f54r3:LS:=[M 7 4,M 8 3,o 9 (.len (t 8)),o 10 (.cmp .lss (t 7) (t 9))]
def f54r4:LS:=[M 13 3,M 14 4,G 15 1 13 14,L 16 15,o 17 (.cmp .geq (t 16) (.const (.int .u8 97))),M 18 17,
 g 19 18 (.mv (t 3)),
 g 20 18 (.mv (t 4)),
 g 21 18 (.ixs 1 (t 19) (t 20)),
 g 22 18 (.ld1 (t 21)),
 g 23 18 (.cmp .leq (t 22) (.const (.int .u8 122))),o 24 (.pick (t 18) (t 23) (b false))]
def f54r5:LS:=[M 25 3,M 26 4,M 27 3,M 28 4,G 29 1 27 28,L 30 29,o 31 (.ar .sub (t 30) (.const (.int .u8 32))),G 32 1 25 26,q (.stb (t 32) (t 31))]
def f54r6:LS:=[M 11 4,D 12 11 1,M 4 12]
def f54l7:SCode:=(.seq (.j f54r3 (.cond (t 10) .skip (.exit 0))) (.seq (.block 1 (.j f54r4 (.cond (t 24) (.ops f54r5) .skip))) (.ops f54r6)))
def f54r8:LS:=[M 33 3,o 34 (.bstr (t 33)),M 2 34]
def f54:SCode:=(.j f54r0 (.j f54r1 (.seq (.j f54r2 (.block 0 (.loop f54l7))) (.j f54r8 .ret))))
theorem f54_calls:Sound Tryz.prog 54 35 f54 [.t 2]:=sdo Tryz.func54 rfl (by kernel_rfl)
def f56r0:LS:=[o 6 (.mv (b false))]
def f56r1:LS:=[M 7 0,K 8 7,A 9 2 8,L 10 9,o 11 (.len (t 10)),M 12 1,o 13 (.cmp .lss (t 11) (t 12)),M 14 13,
 n 15 14 (.mv (t 0)),
 n 16 14 (.nilck (t 15)),
 n 17 14 (.fa 2 (t 16)),
 n 18 14 (.ld1 (t 17)),
 n 19 14 (.len (t 18)),
 n 20 14 (.mv (t 2)),
 n 21 14 (.cmp .gtr (t 19) (t 20)),o 22 (.pick (t 14) (b true) (t 21))]
def f56r2:LS:=[M 23 0,K 24 23,A 25 4 24,q (.st 1 (t 25) (.const (.string ⟨#[69,82,82,32,97,114,103,115]⟩)))]
def f56r3:LS:=[o 6 (.mv (b false))]
def f56r4:LS:=[o 6 (.mv (b true))]
def f56:SCode:=(.j f56r0 (.seq (.j f56r1 (.cond (t 22) (.j f56r2 (.j f56r3 .ret)) .skip)) (.j f56r4 .ret)))
theorem f56_calls:Sound Tryz.prog 56 26 f56 [.t 6]:=sdo Tryz.func56 rfl (by kernel_rfl)
def f121r0:LS:=[I 4 0,o 5 (.mv (b false))]
def f121r1:LS:=[M 9 0,K 10 9,A 11 2 10,L 12 11,M 13 1,G 14 1 12 13,L 15 14,o 16 (.call 132 [(t 15)]),M 8 16,X 17 8 0,X 18 8 1,M 6 17,M 7 18]
def f121r2:LS:=[M 19 7,o 20 (.un .not (t 19))]
def f121r3:LS:=[M 21 0,K 22 21,A 23 4 22,q (.st 1 (t 23) (.const (.string ⟨#[69,82,82,32,110,117,109,98,101,114]⟩)))]
def f121r4:LS:=[M 24 6,M 25 7,M 4 24,M 5 25]
def f121:SCode:=(.j f121r0 (.j f121r1 (.seq (.j f121r2 (.cond (t 20) (.ops f121r3) .skip)) (.j f121r4 .ret))))
theorem f121_calls:Sound Tryz.prog 121 26 f121 [.t 4,.t 5]:=sdo Tryz.func121 rfl (by kernel_rfl)
def f124r0:LS:=[o 6 (.new [(.int .i64 0),(.string ⟨#[]⟩),(.slice none 0 0),(.slice none 0 0),(.slice none 0 0),(.bool false),(.int .i64 0)]),o 7 (.mv (b false)),o 8 (.mv (b false))]
def f124p1:LS:=[M 12 0,K 13 12,A 14 0 13,L 15 14,M 16 1,M 17 0,K 18 17,A 19 1 18,L 20 19]
def f124r1:LS:=[o 21 (.callq 207 [(t 15),(t 16),(t 20)]),M 11 21,X 22 11 0,X 23 11 1,o 9 (.new [(.int .i64 0),(.string ⟨#[]⟩),(.slice none 0 0),(.slice none 0 0),(.slice none 0 0),(.bool false),(.int .i64 0)]),q (.st 7 (t 9) (t 22)),M 10 23]
def f124s1:LS:=[o 9 (.new [(.int .i64 0),(.string ⟨#[]⟩),(.slice none 0 0),(.slice none 0 0),(.slice none 0 0),(.bool false),(.int .i64 0)]),o 21 (.callq 207 [(t 15),(t 16),(t 20)]),M 11 21,X 22 11 0,X 23 11 1,q (.st 7 (t 9) (t 22)),M 10 23]
def f124r2:LS:=[M 24 10,M 25 24,
 g 26 25 (.fa 0 (t 9)),
 g 27 25 (.ld1 (t 26)),
 g 28 25 (.mv (t 2)),
 g 29 25 (.cmp .neq (t 27) (t 28)),o 30 (.pick (t 25) (t 29) (b false))]
def f124r3:LS:=[M 31 0,K 32 31,A 33 4 32,q (.st 1 (t 33) (.const (.string ⟨#[87,82,79,78,71,84,89,80,69]⟩)))]
def f124r4:LS:=[o 34 (.ldn 7 (t 9)),M 35 10,q (.st 7 (t 6) (t 34)),M 7 35,o 8 (.mv (b false))]
def f124r5:LS:=[o 36 (.ldn 7 (t 9)),M 37 10,q (.st 7 (t 6) (t 36)),M 7 37,o 8 (.mv (b true))]
def f124:SCode:=(.j f124r0 (.seq (.two f124p1 f124r1 f124s1) (.seq (.j f124r2 (.cond (t 30) (.j f124r3 (.j f124r4 .ret)) .skip)) (.j f124r5 .ret))))
theorem f124_calls:Sound Tryz.prog 124 38 f124 [.cn 6 7,.t 7,.t 8]:=sdo Tryz.func124 rfl (by kernel_rfl)
def f128r0:LS:=[o 2 (.new [(.int .i64 0),(.int .i64 0),(.string ⟨#[]⟩),(.slice none 0 0)])]
def f128r1:LS:=[M 3 0,o 4 (.build [(.int .i64 0),(.int .i64 0),(.string ⟨#[]⟩),(.slice none 0 0)] [(0,1),(1,1)] [(i 3),(t 3)]),q (.st 4 (t 2) (t 4))]
def f128:SCode:=(.j f128r0 (.j f128r1 .ret))
theorem f128_calls:Sound Tryz.prog 128 5 f128 [.cn 2 4]:=sdo Tryz.func128 rfl (by kernel_rfl)
def f130r0:LS:=[o 2 (.new [(.int .i64 0),(.int .i64 0),(.string ⟨#[]⟩),(.slice none 0 0)])]
def f130r1:LS:=[M 3 0,o 4 (.build [(.int .i64 0),(.int .i64 0),(.string ⟨#[]⟩),(.slice none 0 0)] [(0,1),(2,1)] [(i 4),(t 3)]),q (.st 4 (t 2) (t 4))]
def f130:SCode:=(.j f130r0 (.j f130r1 .ret))
theorem f130_calls:Sound Tryz.prog 130 5 f130 [.cn 2 4]:=sdo Tryz.func130 rfl (by kernel_rfl)
def f133r0:LS:=[I 6 0,o 7 (.mv (b false))]
def f133r1:LS:=[M 8 2,o 9 (.cmp .gtr (t 8) (i 0)),M 10 9,
 g 11 10 (.mv (t 1)),
 g 12 10 (.mv (t 2)),
 g 13 10 (.ar .sub (i 9223372036854775807) (t 12)),
 g 14 10 (.cmp .gtr (t 11) (t 13)),o 15 (.pick (t 10) (t 14) (b false)),M 16 15,
 n 17 16 (.mv (t 2)),
 n 18 16 (.cmp .lss (t 17) (i 0)),
 n 19 16 (.mv (t 18)),
 g 20 19 (.mv (t 1)),
 g 21 19 (.mv (t 2)),
 g 22 19 (.ar .sub (i (-9223372036854775808)) (t 21)),
 g 23 19 (.cmp .lss (t 20) (t 22)),
 n 24 16 (.pick (t 19) (t 23) (b false)),o 25 (.pick (t 16) (b true) (t 24))]
def f133r2:LS:=[M 26 0,K 27 26,A 28 4 27,q (.st 1 (t 28) (.const (.string ⟨#[69,82,82,32,111,118,101,114]⟩)))]
def f133r3:LS:=[I 6 0,o 7 (.mv (b false))]
def f133r4:LS:=[M 29 1,M 30 2,o 31 (.ar .add (t 29) (t 30)),M 6 31,o 7 (.mv (b true))]
def f133:SCode:=(.j f133r0 (.seq (.j f133r1 (.cond (t 25) (.j f133r2 (.j f133r3 .ret)) .skip)) (.j f133r4 .ret)))
theorem f133_calls:Sound Tryz.prog 133 32 f133 [.t 6,.t 7]:=sdo Tryz.func133 rfl (by kernel_rfl)
def f137r0:LS:=[o 2 (.new [(.int .i64 0),(.int .i64 0),(.string ⟨#[]⟩),(.slice none 0 0)])]
def f137r1:LS:=[M 3 0,o 4 (.build [(.int .i64 0),(.int .i64 0),(.string ⟨#[]⟩),(.slice none 0 0)] [(0,1),(2,1)] [(i 1),(t 3)]),q (.st 4 (t 2) (t 4))]
def f137:SCode:=(.j f137r0 (.j f137r1 .ret))
theorem f137_calls:Sound Tryz.prog 137 5 f137 [.cn 2 4]:=sdo Tryz.func137 rfl (by kernel_rfl)
def f220r0:LS:=[M 9 0,K 10 9,A 11 0 10,L 12 11,M 13 1,o 14 (.call 46 [(t 12),(t 13)]),M 8 14,X 15 8 0,X 16 8 1,M 4 15,M 5 16]
def f220p1:LS:=[M 18 0,K 19 18,A 20 0 19,L 21 20,M 22 1,M 23 0,K 24 23,A 25 1 24,L 26 25]
def f220r1:LS:=[o 27 (.callq 207 [(t 21),(t 22),(t 26)]),M 17 27,X 28 17 0,X 29 17 1,o 6 (.new [(.int .i64 0),(.string ⟨#[]⟩),(.slice none 0 0),(.slice none 0 0),(.slice none 0 0),(.bool false),(.int .i64 0)]),q (.st 7 (t 6) (t 28)),M 7 29]
def f220s1:LS:=[o 6 (.new [(.int .i64 0),(.string ⟨#[]⟩),(.slice none 0 0),(.slice none 0 0),(.slice none 0 0),(.bool false),(.int .i64 0)]),o 27 (.callq 207 [(t 21),(t 22),(t 26)]),M 17 27,X 28 17 0,X 29 17 1,q (.st 7 (t 6) (t 28)),M 7 29]
def f220r2:LS:=[M 30 5,M 31 30,
 g 32 31 (.mv (t 7)),
 g 33 31 (.un .not (t 32)),o 34 (.pick (t 31) (t 33) (b false))]
def f220r3:LS:=[M 35 0,M 36 0,K 37 36,A 38 3 37,L 39 38,M 40 1,o 41 (.build [(.int .i64 0),(.string ⟨#[]⟩),(.string ⟨#[]⟩),(.string ⟨#[]⟩),(.int .i64 0)] [(0,1),(1,1)] [(i 1),(t 40)]),o 42 (.bslice [(.int .i64 0),(.string ⟨#[]⟩),(.string ⟨#[]⟩),(.string ⟨#[]⟩),(.int .i64 0)] 1 [(0,5)] [(t 41)]),o 43 (.app 5 64 [(.int .i64 0),(.string ⟨#[]⟩),(.string ⟨#[]⟩),(.string ⟨#[]⟩),(.int .i64 0)] (t 39) (t 42)),K 44 35,A 45 3 44,q (.st 1 (t 45) (t 43))]
def f220:SCode:=(.j f220r0 (.seq (.two f220p1 f220r1 f220s1) (.j f220r2 (.cond (t 34) (.ops f220r3) .skip))))
theorem f220_calls:Sound Tryz.prog 220 46 f220 []:=sdo Tryz.func220 rfl (by kernel_rfl)
end Go.Proofs.YtjnijlnmbjjgpaaGreatDoor.C
namespace Go.Proofs.YtjnijlnmbjjgpaaGreatDoor
open Go Go.Sx C
section
variable {h0 h:Heap} {ab kb sb mb c:Nat} {now n:Int} {av lv:Value} {A:List ByteArray} {m:List KI} {S:Space} {key s a:ByteArray} {t:Thing} {go:Option Thing}
instance (a b:Int):Decidable (okSum a b):=by unfold okSum;infer_instance
def zeroS:ByteArray:=⟨#[48]⟩
theorem numOf_in {v:Int} (h:numOf s=some v):In64 v:=by
 obtain⟨⟨a,b⟩,_⟩:=(Num.num_iff rfl s.data.toList v).1 h
 exact⟨by omega,by omega⟩
theorem itoa_len {k n:Int} (h:okSum k n):(Lib.itoa (k+n)).length≤20:=by
 obtain⟨h0,h1⟩:=h
 unfold Lib.itoa
 split
 ·have:=Num.dec_len 18 (k+n).natAbs (by omega)
  simp;omega
 ·have:=Num.dec_len 18 (k+n).toNat (by omega)
  omega
theorem mv_go {P:Program} {x:Operand} {d:Nat} {c:SCode} {Q:Post} {σ:Env} {ds:List Deferred} {h:Heap} {v:Value} (he:ev σ x=some v) (hs:swp P c Q (upd σ (some d) v) ds h):
  swp P (.seq (.ops [⟨some d,none,.mv x⟩]) c) Q σ ds h:=by
 simp only[swp,sops,sopr,sop,he]
 exact hs
theorem not_go {P:Program} {x y:Operand} {d e:Nat} {c:SCode} {Q:Post} {σ:Env} {ds:List Deferred} {h:Heap} {v:Bool} (he:ev σ x=some (.bool v)) (hf:ev (upd σ (some d) (.bool v)) y=some (.bool v))
  (hs:swp P c Q (upd (upd σ (some d) (.bool v)) (some e) (.bool !v)) ds h):swp P (.seq (.ops [⟨some d,none,.mv x⟩,⟨some e,none,.un .not y⟩]) c) Q σ ds h:=by
 simp only[swp,sops,sopr,sop,he,hf]
 exact hs
theorem cnd_go {P:Program} {x:Operand} {a b c:SCode} {Q:Post} {σ:Env} {ds:List Deferred} {h:Heap} {t:Bool} (he:ev σ x=some (.bool t)) (hs:swp P (.seq (bif t then a else b) c) Q σ ds h):swp P (.seq (.cond x a b) c) Q σ ds h:=by
 cases t with
 |true=>simp only[swp,he];exact hs
 |false=>simp only[swp,he];exact hs
theorem ass_go {P:Program} {a b c:SCode} {Q:Post} {σ:Env} {ds:List Deferred} {h:Heap} (hs:swp P (.seq a (.seq b c)) Q σ ds h):swp P (.seq (.seq a b) c) Q σ ds h:=by
 have e:thenQ (swp P b (thenQ (swp P c Q) Q)) (thenQ (swp P c Q) Q)=thenQ (swp P b (thenQ (swp P c Q) Q)) Q:=by
  funext x;cases x<;>rfl
 simp only[swp]at hs⊢
 rw[e];exact hs
theorem skp_go {P:Program} {c:SCode} {Q:Post} {σ:Env} {ds:List Deferred} {h:Heap} (hs:swp P c Q σ ds h):swp P (.seq .skip c) Q σ ds h:=hs
def TextS (S:Space):Prop:=∀p∈S,p.2.text.size<281474976710656
end
end Go.Proofs.YtjnijlnmbjjgpaaGreatDoor

namespace Go.Proofs.YtjnijlnmbjjgpaaGreatDoor
open Go Go.Sx C
abbrev Res:=Except ByteArray (Rep×List Eff)
def okR:Rep:=rep 1 0 ⟨#[79,75]⟩
def nilR:Rep:=rep 0 0 noText
def numR (n:Int):Rep:=rep 3 n noText
def wRange:ByteArray:=⟨#[69,82,82,32,114,97,110,103,101]⟩
instance memB (k:ByteArray) (l:List ByteArray):Decidable (k∈l):=@List.instDecidableMemOfLawfulBEq _ instBEqOfDecidableEq _ k l
def cntB (k:ByteArray) (l:List ByteArray):Nat:=l.countP fun x=>decide (x=k)
theorem cntB_zero {k:ByteArray} {l:List ByteArray} (h:k∉l):cntB k l=0:=List.countP_eq_zero.2 fun _x hx he=>h (of_decide_eq_true he▸hx)
theorem cntB_pos {k:ByteArray} {l:List ByteArray} (h:k∈l):0<cntB k l:=List.countP_pos_iff.2 ⟨k,h,decide_eq_true rfl⟩
theorem cntB_le {k:ByteArray} {l:List ByteArray}:cntB k l≤l.length:=List.countP_le_length
theorem cntB_snoc {pre:List ByteArray} {k k':ByteArray}:cntB k' (pre++[k])=cntB k' pre+(if k'=k then 1 else 0):=by
 unfold cntB
 rw[List.countP_append,List.countP_singleton]
 by_cases h:k'=k
 ·rw[if_pos (decide_eq_true h.symm),if_pos h]
 ·rw[if_neg (by simp;exact fun e=>h e.symm),if_neg h]
section
variable (S:Space) (now:Int)
end
end Go.Proofs.YtjnijlnmbjjgpaaGreatDoor
namespace Go.Proofs.YtjnijlnmbjjgpaaGreatDoor
open Go Go.Sx C
theorem RGetW_calls {h0 h:Heap} {v:Value} {l:List RX} (key:ByteArray) (now:Int) (hv:SL encX h0 v l) (g:GX h0 l) (hl:l.length<4611686018427387904) (hk:key.size<4611686018427387904) (hf:KeysFit l) (hc:Chg [] h0 h):
  CallsH Tryz.prog 207 [v,.string key,.int .i64 now] h (Ret fun r h'=>(∃us,r=.tuple #[.agg ⟨us⟩,.bool (getX l key now).isSome]∧∀h2,Chg [] h0 h2→TH h2 us ((getX l key now).getD zeroT))∧Chg [] h h'):=by
 obtain⟨a,c,rfl,hlc⟩:=hv.form
 refine f207_calls (by simp) ?_
 intro b6 h1 g1
 have B1:Blk h1 b6 zeroV:=g1.blk
 have hv1:=hv.ext (hc.nil g1.chg)
 refine call_ret (Find_calls key hv1 hl hk hf) ?_
 rintro _ h9 ⟨rfl,e9⟩
 have e9:=e9.symm
 subst e9
 have z1:=g1.size
 have i1:=g1.id
 cases hb:(findX key l).2 with
 |false=>
  have hn:getX l key now=none:=by unfold getX lookX;rw[if_neg (by rw[hb];simp)]
  refine Ei _ (Ai B1 (Ai (by decide) (Ai rfl (Ai (thing_one (t:=zeroT) (h:=h1) zero_TH) ?_))))
  intro h2 p2
  have B2:Blk h2 b6 zeroV:=p2.blk
  refine Ei zeroV (Ai rfl (Ai (cells_blk B2) ?_))
  rw[hn]
  exact Ai (Ei zeroV (Ai rfl (fun _ _=>zero_TH))) (g1.chg.fresh p2.chg (by simp;omega))
 |true=>
  obtain⟨hlt,_⟩:=findX_hit key l hb
  have hlk:lookX l key=some l[(findX key l).1].thing:=by unfold lookX;rw[if_pos hb];simp[hlt]
  obtain⟨b,o,rfl⟩:=hv1.addr (by omega)
  generalize (findX key l).1=i at*
  have hcs:=hv1.cells encX_len (i:=i) (x:=l[i]) (by simp[hlt])
  have hx:=(g.ext (hc.nil g1.chg)) l[i] (List.getElem_mem hlt)
  have yes:goneT l[i].thing now=false→
    swp Tryz.prog (.seq (.ops f207r4) .ret) (retQ [.cn 6 7,.t 7] (Ret fun r h'=>(∃us,r=.tuple #[.agg ⟨us⟩,.bool (getX l key now).isSome]∧∀h2,Chg [] h0 h2→TH h2 us ((getX l key now).getD zeroT))∧Chg [] h h')) (mk [(6,.pointer (some ⟨b6,0,none⟩)),(0,.slice (some ⟨b,o,none⟩) l.length c),(8,.int .i64 i)]) [] h1:=by
   intro hg
   have hn:getX l key now=some l[i].thing:=by unfold getX;rw[hlk];simp[hg]
   refine Ai (by omega) (Ai (by omega) (Ei l[i].vs (Ai l[i].len (Ai (cells_vs hcs) ?_))))
   refine Ei _ (Ai B1 (Ai (by decide) (Ai l[i].len (Ai l[i].one ?_))))
   intro h2 p2
   have B2:Blk h2 b6 l[i].vs:=by
    have h8:Blk h2 b6 (splice zeroV 0 l[i].vs):=p2.blk
    rw[seven rfl l[i].len]at h8
    exact h8
   refine Ei l[i].vs (Ai l[i].len (Ai (cells_blk B2) ?_))
   rw[hn]
   exact Ai (Ei l[i].vs (Ai rfl (fun _ hc=>(g l[i] (List.getElem_mem hlt)).ext hc))) (g1.chg.fresh p2.chg (by simp;omega))
  refine Ai (by omega) (Ai (by omega) (Ei _ (Ai (cells_vs hcs 5 _ hx.hasU) ?_)))
  cases hU:l[i].thing.hasU with
  |false=>
   exact cut_at [(6,.pointer (some ⟨b6,0,none⟩)),(0,.slice (some ⟨b,o,none⟩) l.length c),(8,.int .i64 i)] ⟨rfl,rfl,rfl,trivial⟩ (yes (by unfold goneT;rw[hU];rfl))
  |true=>
   refine Ai (by omega) (Ai (by omega) (Ei _ (Ai (cells_vs hcs 6 _ hx.unt) ?_)))
   refine Ai rfl (Ai (fun hle=>?_) (fun hle=>?_))
   ·have hn:getX l key now=none:=by unfold getX;rw[hlk];simp[goneT,hU,hle]
    refine Ei _ (Ai B1 (Ai (by decide) (Ai rfl (Ai (thing_one (t:=zeroT) (h:=h1) zero_TH) ?_))))
    intro h2 p2
    have B2:Blk h2 b6 zeroV:=p2.blk
    refine Ei zeroV (Ai rfl (Ai (cells_blk B2) ?_))
    rw[hn]
    exact Ai (Ei zeroV (Ai rfl (fun _ _=>zero_TH))) (g1.chg.fresh p2.chg (by simp;omega))
   ·exact cut_at [(6,.pointer (some ⟨b6,0,none⟩)),(0,.slice (some ⟨b,o,none⟩) l.length c),(8,.int .i64 i)] ⟨rfl,rfl,rfl,trivial⟩ (yes (by unfold goneT;rw[hU];simpa using hle))
def rxE9 (xb:Nat) (rest:List Value) (kv:Value) (now:Int) (av lv:Value) (L:List Eff) (why:ByteArray):En:=
 .x (xb::vblk lv) (fun h=>Blk h xb (kv::.int .i64 now::av::lv::.string why::rest)∧OL encD 5 h lv L∧xb∉vblk lv)
  (fun S h h' hc hn ⟨h1,h2,h3⟩=>⟨h1.chg hc (hn _ (by simp)),h2.chg hc (fun b hb=>hn _ (by simp[hb])),h3⟩)
  (fun h ⟨h1,h2,_⟩ b hb=>by
   rcases List.mem_cons.1 hb with rfl|hb
   ·exact h1.lt
   ·exact OL.lt h2 b hb)
structure RC9 (h0:Heap) (kv:Value) (k:List RX) (av:Value) (A:List ByteArray):Prop where
 sl:SL encX h0 kv k
 gx:GX h0 k
 up:UpX k
 len:k.length<4611686018427387904
 fit:KeysFit k
 args:∀h',Chg [] h0 h'→SL encS h' av A
def RxO9 (h0 h:Heap) (e:En) (h':Heap) (e':En):Prop:=As h0 h' e'∧Sx.Own e h e' h'
section
variable {rest:List Value} {h0 h h1 h':Heap} {xb i:Nat} {now n:Int} {kv av lv:Value} {k:List RX} {A:List ByteArray} {L:List Eff} {why:ByteArray} {M:List En} {T:List Nat} {e e':En}
theorem RxO9.refl (x:As h0 h e) (hc:Chg [] h h'):RxO9 h0 h e h' e:=⟨x.ext hc,Sx.Own.refl x.at_ hc⟩
theorem _root_.Go.Sx.St.ldr9 {o:Nat} {v:Value} {K:Value→Prop} (w:St T h1 h M) (i:Nat) (hi:M[i]? =some (rxE9 xb rest kv now av lv L why)) (hv:(kv::.int .i64 now::av::lv::.string why::rest)[o]? =some v) (k:K v):∃v,cell h xb o=some v∧K v:=⟨v,cell_blk (w.get i hi).1 hv,k⟩
theorem _root_.Go.Sx.St.stw9 {K:Heap→Prop} {why2:ByteArray} (w:St T h1 h M) (i:Nat) (hi:M[i]? =some (rxE9 xb rest kv now av lv L why)) (k:∀h',St T h1 h' (M.set i (rxE9 xb rest kv now av lv L why2))→K h'):
  ∃l,Blk h xb l∧4+1≤l.length∧[Value.string why2].length=1∧(∀u∈[Value.string why2],u.oneCell'=true)∧∀h',Put h h' xb (splice l 4 [.string why2])→K h':=by
 obtain⟨hB,hO,hn⟩:=w.get i hi
 refine⟨_,hB,by simp,rfl,ones1 rfl,fun h' p=>k h' ?_⟩
 have hO2:=hO.chg p.chg (fun b hb=>by simp;rintro rfl;exact hn hb)
 exact w.set i hi p.chg (fun b hb=>.inl (by simp at hb;simp[rxE9,En.fp,hb])) ⟨by have e:=p.blk;simpa[splice]using e,hO2,hn⟩ (fun b hb=>.inl hb)
theorem _root_.Go.Sx.St.rapp9 {a a':Option Addr} {n c m c2:Nat} {F:List Eff} {z:List Value} {K:Value→Heap→Prop} (w:St T h1 h M) (i:Nat) (hi:M[i]? =some (rxE9 xb rest kv now av (.slice a n c) L why)) (hz:z.length=5) (hsrc:SL encD h (.slice a' m c2) F) (hb:((L.length+F.length)*2+768)*64≤281474976710656)
  (k:∀a3 c3 h',(∀{K':Heap→Prop},(∀h'',St T h1 h'' (M.set i (rxE9 xb rest kv now av (.slice a3 (L++F).length c3) (L++F) why))→K' h'')→
   ∃l,Blk h' xb l∧3+1≤l.length∧[Value.slice a3 (L++F).length c3].length=1∧(∀u∈[Value.slice a3 (L++F).length c3],u.oneCell'=true)∧∀h'',Put h' h'' xb (splice l 3 [.slice a3 (L++F).length c3])→K' h'')→K (.slice a3 (L++F).length c3) h'):appP h K 5 64 z a n c a' m:=by
 obtain⟨hB,hO,hn⟩:=w.get i hi
 have hlt:=hB.lt
 refine app_own encD_len encD_one hz hO hsrc hb fun v' h' ho hc hbv=>?_
 have hxn:xb∉vblk v':=fun hm=>by
  rcases hbv xb hm with h3|h3
  ·exact hn h3
  ·omega
 have hB1:=hB.chg hc hn
 obtain⟨a3,c3,rfl,_⟩:=ho.sl.form
 refine k a3 c3 h' fun{K'} hK=>?_
 refine⟨_,hB1,by simp,rfl,ones1 rfl,fun h'' p=>hK h'' ?_⟩
 have ct:Chg (xb::ablk a) h h'':=(hc.mono (fun b hb=>List.mem_cons_of_mem _ hb)).trans p.chg (fun _ hk=>hk) (fun b hb _=>by simp at hb;simp[hb])
 refine w.set i hi ct (fun b hb=>.inl hb) ⟨by have e:=p.blk;simpa[splice]using e,ho.chg p.chg (fun b hb=>by simp;rintro rfl;exact hxn hb),hxn⟩ (fun b hb=>?_)
 rcases List.mem_cons.1 hb with rfl|hb
 ·exact .inl (List.mem_cons_self ..)
 ·rcases hbv b hb with h3|h3
  ·exact .inl (List.mem_cons_of_mem _ h3)
  ·exact .inr h3
theorem _root_.Go.Sx.St.rform9 (w:St T h1 h M) (i:Nat) (hi:M[i]? =some (rxE9 xb rest kv now av lv L why)):∃a c,lv=.slice a L.length c:=by
 obtain⟨a,c,e,_⟩:=(show OL encD 5 h lv L from(w.get i hi).2.1).sl.form
 exact⟨a,c,e⟩
theorem RC9.argF (c:RC9 h0 kv k av A) (hi:0<A.length):∃b o cc,av=.slice (some ⟨b,o,none⟩) A.length cc:=by
 have hs:=c.args h0 (Chg.refl _)
 obtain⟨a,cc,rfl,hcc⟩:=hs.form
 obtain⟨b,o,rfl⟩:=hs.addr hi
 exact⟨b,o,cc,rfl⟩
theorem RC9.argN (c:RC9 h0 kv k av A):∃a cc,av=.slice a A.length cc:=by
 obtain⟨a,cc,rfl,hcc⟩:=(c.args h0 (Chg.refl _)).form
 exact⟨a,cc,rfl⟩
theorem RC9.ix {i:Int} {b o n cc:Nat} {s:ByteArray} {K:Value→Prop} (c:RC9 h0 kv k (.slice (some ⟨b,o,none⟩) n cc) A) (hc:Chg [] h0 h1) (j:Nat) (e:i=j) (hs:A[j]? =some s) (hk:K (.string s)):
  0≤i∧i<(n:Int)∧∃v,cell h1 b (o+i.toNat*1)=some v∧K v:=by
 subst e
 have hj:=(List.getElem?_eq_some_iff.1 hs).1
 have hcs:=(c.args h1 hc).cells encS_len hs
 have hn:=(c.args h1 hc).len.1
 refine⟨by omega,by omega,_,?_,hk⟩
 have:=hcs 0 _ rfl
 simpa using this
def GetS9 (h0 h:Heap) (f:Nat) (vs:List Value) (go:Option Thing):Prop:=
 ∀{h1},Chg [] h h1→CallsH Tryz.prog f vs h1 (Ret fun r h'=>(∃pv lv rv,r=.tuple #[.agg ⟨cellsT (go.getD zeroT) pv lv rv⟩,.bool go.isSome]∧(∀u∈cellsT (go.getD zeroT) pv lv rv,u.oneCell'=true)∧∀h2,Chg [] h0 h2→TH h2 (cellsT (go.getD zeroT) pv lv rv) (go.getD zeroT))∧Chg [] h1 h')
theorem RC9.getS (c:RC9 h0 kv k av A) (hc:Chg [] h0 h) (key:ByteArray) (hk:key.size<4611686018427387904):GetS9 h0 h 207 [kv,.string key,.int .i64 now] (getS (k.map RX.pr) key now):=by
 intro h1 c1
 refine(RGetW_calls key now c.sl c.gx c.len hk c.fit (hc.nil c1)).mono ?_
 intro e h' he
 cases e with
 |returned r=>
  obtain⟨⟨us,rfl,tu⟩,c2⟩:=he
  rw[get_get c.up key now]at tu⊢
  have ho:=thing_one (tu h0 (Chg.refl _))
  obtain⟨pv,lv,rv,rfl,_⟩:=id (tu h0 (Chg.refl _))
  exact⟨⟨pv,lv,rv,rfl,ho,tu⟩,c2⟩
 |panicked ch=>exact he
 |outgrown=>exact he
theorem get_twoR9 {hh:Heap} {σ:Env} {Qp:List PanicEntry→Heap→Prop} {K:Env→Heap→Prop} {f:Nat} {v1 v2 v3:Value} {go:Option Thing} {c d e0 e1 b v a1 a2 a3:Nat} (w:St T h0 h M) (get:GetS9 hh h f [v1,v2,v3] go) (E:List (Nat×Value))
  (h1:σ a1=some v1) (h2:σ a2=some v2) (h3:σ a3=some v3) (hE:SubL σ E) (ha:apart7 c d e0 e1 b v a1 a2 a3 E=true) (hm:MonoE K)
  (k:∀h' b6 pv lv rv,St T h0 h' (.b b6 (cellsT (go.getD zeroT) pv lv rv)::M)→(∀u∈cellsT (go.getD zeroT) pv lv rv,u.oneCell'=true)→(∀h2,Chg [] hh h2→TH h2 (cellsT (go.getD zeroT) pv lv rv) (go.getD zeroT))→K (mk ((b,ptr b6)::(v,.bool go.isSome)::E)) h'):
  sops Tryz.prog Qp K [⟨some c,none,.callq f [.tmp a1,.tmp a2,.tmp a3]⟩,⟨some d,none,.mv (.tmp c)⟩,⟨some e0,none,.ext (.tmp d) 0⟩,⟨some e1,none,.ext (.tmp d) 1⟩,⟨some b,none,.new [(.int .i64 0),(.string ⟨#[]⟩),(.slice none 0 0),(.slice none 0 0),(.slice none 0 0),(.bool false),(.int .i64 0)]⟩,
   ⟨none,none,.st 7 (.tmp b) (.tmp e0)⟩,⟨some v,none,.mv (.tmp e1)⟩] σ h∧
  sops Tryz.prog Qp K [⟨some b,none,.new [(.int .i64 0),(.string ⟨#[]⟩),(.slice none 0 0),(.slice none 0 0),(.slice none 0 0),(.bool false),(.int .i64 0)]⟩,⟨some c,none,.callq f [.tmp a1,.tmp a2,.tmp a3]⟩,⟨some d,none,.mv (.tmp c)⟩,⟨some e0,none,.ext (.tmp d) 0⟩,⟨some e1,none,.ext (.tmp d) 1⟩,
   ⟨none,none,.st 7 (.tmp b) (.tmp e0)⟩,⟨some v,none,.mv (.tmp e1)⟩] σ h:=by
 simp only[apart7,Bool.and_eq_true,Bool.not_eq_true']at ha
 obtain⟨⟨⟨⟨⟨⟨⟨⟨⟨⟨⟨n1,n2⟩,n3⟩,n4⟩,n5⟩,n6⟩,n7⟩,n8⟩,n9⟩,n10⟩,n11⟩,ha⟩:=ha
 have n2':Nat.beq b e0=false:=beqT (Ne.symm (beqF n2))
 have fin:∀{τ:Env} {h':Heap} {b6:Nat} {pv lv rv:Value},(∀u∈cellsT (go.getD zeroT) pv lv rv,u.oneCell'=true)→(∀h2,Chg [] hh h2→TH h2 (cellsT (go.getD zeroT) pv lv rv) (go.getD zeroT))→τ b=some (ptr b6)→τ v=some (.bool go.isSome)→(∀t,t≠c→t≠d→t≠e0→t≠e1→t≠b→t≠v→τ t=σ t)→
   St T h0 h' (.b b6 (cellsT (go.getD zeroT) pv lv rv)::M)→K τ h':=fun h1 ht hb hv ho w=>hm _ _ _ (sub_mk (l:=(b,ptr _)::(v,.bool go.isSome)::E) ⟨hb,hv,sub7 hE ha ho⟩) (k _ _ _ _ _ w h1 ht)
 refine⟨?_,?_⟩
 ·simp only[sops,sopr,sop,evs,ev,h1,h2,h3]
  refine callq_ret (get (Chg.refl h)) ?_
  rintro _ h4 ⟨⟨pv,lv,rv,rfl,hone,hth⟩,c4⟩
  refine⟨c4.ext,?_⟩
  have w4:=w.ext c4
  simp only[upd,Nat.beq_refl,cond_true,cond_false,n1,n2,n2',n3,n4,n6,n7,n8]
  intro b6 h5 g5
  have w5:=w4.new g5
  refine w5.st3 0 rfl rfl rfl hone fun h6 w6=>?_
  refine fin hone hth ?_ ?_ ?_ w6
  ·simp[n5];rfl
  ·simp[]
  ·intro t t1 t2 t3 t4 t5 t6
   simp[beqT t1,beqT t2,beqT t3,beqT t4,beqT t5,beqT t6]
 ·simp only[sops,sopr,sop,evs,ev]
  intro b6 h4 g4
  have w4:=w.new g4
  simp only[upd,Nat.beq_refl,cond_true,cond_false,n9,n10,n11,h1,h2,h3]
  refine callq_ret (get g4.chg) ?_
  rintro _ h5 ⟨⟨pv,lv,rv,rfl,hone,hth⟩,c5⟩
  refine⟨c5.ext,?_⟩
  have w5:=w4.ext c5
  simp only[cond_false,n1,n2',n3,n6,n7,n8]
  refine w5.st3 0 rfl rfl rfl hone fun h6 w6=>?_
  refine fin hone hth ?_ ?_ ?_ w6
  ·simp[n5,n6,n7,n8,n2'];rfl
  ·simp[]
  ·intro t t1 t2 t3 t4 t5 t6
   simp[beqT t1,beqT t2,beqT t3,beqT t4,beqT t5,beqT t6]
theorem rInt9_calls {h:Heap} {n:Int}:CallsH Tryz.prog 128 [.int .i64 n] h (Ret fun r h'=>r=repV 3 n noText∧Chg [] h h'):=by
 refine f128_calls (by simp) ?_
 intro b h1 g1
 refine Ei _ (Ai g1.blk (Ai (by decide) (Ai rfl (Ai (repV_ones 3 n noText) ?_))))
 intro h2 p2
 have g2:=g1.put p2
 exact⟨_,rfl,cells_blk g2.blk,rfl,g2.chg⟩
theorem rText9_calls {h:Heap} {s:ByteArray}:CallsH Tryz.prog 130 [.string s] h (Ret fun r h'=>r=repV 4 0 s∧Chg [] h h'):=by
 refine f130_calls (by simp) ?_
 intro b h1 g1
 refine Ei _ (Ai g1.blk (Ai (by decide) (Ai rfl (Ai (repV_ones 4 0 s) ?_))))
 intro h2 p2
 have g2:=g1.put p2
 exact⟨_,rfl,cells_blk g2.blk,rfl,g2.chg⟩
theorem rStatus9_calls {h:Heap} {s:ByteArray}:CallsH Tryz.prog 137 [.string s] h (Ret fun r h'=>r=repV 1 0 s∧Chg [] h h'):=by
 refine f137_calls (by simp) ?_
 intro b h1 g1
 refine Ei _ (Ai g1.blk (Ai (by decide) (Ai rfl (Ai (repV_ones 1 0 s) ?_))))
 intro h2 p2
 have g2:=g1.put p2
 exact⟨_,rfl,cells_blk g2.blk,rfl,g2.chg⟩
theorem rFail9_calls {h:Heap} {s:ByteArray}:CallsH Tryz.prog 49 [.string s] h (Ret fun r h'=>r=repV 2 0 s∧Chg [] h h'):=by
 refine f49_calls (by simp) ?_
 intro b h1 g1
 refine Ei _ (Ai g1.blk (Ai (by decide) (Ai rfl (Ai (repV_ones 2 0 s) ?_))))
 intro h2 p2
 have g2:=g1.put p2
 exact⟨_,rfl,cells_blk g2.blk,rfl,g2.chg⟩
theorem rnum89_calls {h:Heap} {s:ByteArray} (hs:s.size<4611686018427387904):CallsH Tryz.prog 132 [.string s] h (Ret fun r h'=>r=.tuple #[.int .i64 ((numOf s).getD 0),.bool (numOf s).isSome]∧h'=h):=by
 obtain⟨⟨l⟩⟩:=s
 have e:numOf ⟨⟨l⟩⟩=Num.refNum T63 l:=Num.num_eq rfl l
 rw[e]
 exact r8num_calls rfl hs
theorem rmany9_calls {lo hi:Int} (c:RC9 h0 kv k av A) (x:As h0 h (rxE9 xb rest kv now av lv L why)):CallsH Tryz.prog 56 [ptr xb,.int .i64 lo,.int .i64 hi] h
  (Ret fun r h'=>(lo≤A.length∧A.length≤hi∧r=.bool true∧RxO9 h0 h (rxE9 xb rest kv now av lv L why) h' (rxE9 xb rest kv now av lv L why))∨(¬(lo≤A.length∧A.length≤hi)∧r=.bool false∧RxO9 h0 h (rxE9 xb rest kv now av lv L why) h' (rxE9 xb rest kv now av lv L wArgs))):=by
 obtain⟨a,cc,rfl⟩:=c.argN
 refine f56_calls (by simp) ?_
 have w:=x.st
 refine w.ldr9 0 rfl rfl ?_
 refine Ai rfl (Ai (fun h1=>?_) (fun h1=>?_))
 ·refine w.stw9 0 rfl fun h2 w=>?_
  exact .inr ⟨fun hh=>by omega,rfl,x.out w 0 rfl⟩
 ·refine w.ldr9 0 rfl rfl ?_
  refine Ai rfl (Ai (fun h2=>?_) (fun h2=>?_))
  ·refine w.stw9 0 rfl fun h2 w=>?_
   exact .inr ⟨fun hh=>by omega,rfl,x.out w 0 rfl⟩
  ·exact .inl ⟨by omega,by omega,rfl,x.out w 0 rfl⟩
theorem rnumA9_calls {j:Nat} {s:ByteArray} (c:RC9 h0 kv k av A) (x:As h0 h (rxE9 xb rest kv now av lv L why)) (hj:A[j]? =some s) (hs:s.size<4611686018427387904):CallsH Tryz.prog 121 [ptr xb,.int .i64 j] h
  (Ret fun r h'=>r=.tuple #[.int .i64 ((numOf s).getD 0),.bool (numOf s).isSome]∧RxO9 h0 h (rxE9 xb rest kv now av lv L why) h' (rxE9 xb rest kv now av lv L (if(numOf s).isSome=true then why else wNum))):=by
 obtain⟨b,o,cc,rfl⟩:=c.argF (by have:=(List.getElem?_eq_some_iff.1 hj).1;omega)
 refine f121_calls (by simp) ?_
 have w:=x.st
 refine w.ldr9 0 rfl rfl ?_
 refine c.ix (x.base w) j rfl hj ?_
 refine callp (rnum89_calls hs) ?_
 cases numOf s with
 |some m=>exact⟨rfl,x.out w 0 rfl⟩
 |none=>
  refine w.stw9 0 rfl fun h2 w=>?_
  exact⟨rfl,x.out w 0 rfl⟩
theorem rplus9_calls {a b:Int} (ha:In64 a) (hb:In64 b) (x:As h0 h (rxE9 xb rest kv now av lv L why)):CallsH Tryz.prog 133 [ptr xb,.int .i64 a,.int .i64 b] h
  (Ret fun r h'=>(okSum a b∧r=.tuple #[.int .i64 (a+b),.bool true]∧RxO9 h0 h (rxE9 xb rest kv now av lv L why) h' (rxE9 xb rest kv now av lv L why))∨(¬okSum a b∧r=.tuple #[.int .i64 0,.bool false]∧RxO9 h0 h (rxE9 xb rest kv now av lv L why) h' (rxE9 xb rest kv now av lv L wOver))):=by
 obtain⟨a0,a1⟩:=ha
 obtain⟨b0,b1⟩:=hb
 have w:=x.st
 refine f133_calls (by simp) ?_
 have no:¬okSum a b→∀{K:Heap→Prop},(∀h',RxO9 h0 h (rxE9 xb rest kv now av lv L why) h' (rxE9 xb rest kv now av lv L wOver)→K h')→∃l,Blk h xb l∧4+1≤l.length∧[Value.string wOver].length=1∧(∀u∈[Value.string wOver],u.oneCell'=true)∧∀h',Put h h' xb (splice l 4 [.string wOver])→K h':=
  fun _ {K} hK=>w.stw9 0 rfl fun h2 w=>hK h2 (x.out w 0 rfl)
 have yes:∀z:Int,z=IntKind.i64.wrap (a+b)→okSum a b→z=a+b:=fun z hz hk=>by
  obtain⟨k0,k1⟩:=hk
  exact hz.trans (wrap_in (by omega) (by omega))
 unfold okSum at*
 refine Ai rfl (Ai (fun h1=>?_) (fun h1=>?_))
 ·refine Ai rfl (fun z hz=>?_)
  have hz:z=9223372036854775807-b:=hz.trans (wrap_in (by omega) (by omega))
  subst hz
  refine Ai rfl (Ai (fun h2=>?_) (fun h2=>?_))
  ·refine no (by omega) fun h' hr=>?_
   exact .inr ⟨by omega,rfl,hr⟩
  ·refine Ai rfl (Ai (fun h3=>absurd h3 (by omega)) (fun h3=>?_))
   refine Ai rfl (fun z hz=>?_)
   have hz:=yes z hz ⟨by omega,by omega⟩
   subst hz
   exact .inl ⟨⟨by omega,by omega⟩,rfl,x.out w 0 rfl⟩
 ·refine Ai rfl (Ai (fun h3=>?_) (fun h3=>?_))
  ·refine Ai rfl (fun z hz=>?_)
   have hz:z= -9223372036854775808-b:=hz.trans (wrap_in (by omega) (by omega))
   subst hz
   refine Ai rfl (Ai (fun h2=>?_) (fun h2=>?_))
   ·refine no (by omega) fun h' hr=>?_
    exact .inr ⟨by omega,rfl,hr⟩
   ·refine Ai rfl (fun z hz=>?_)
    have hz:=yes z hz ⟨by omega,by omega⟩
    subst hz
    exact .inl ⟨⟨by omega,by omega⟩,rfl,x.out w 0 rfl⟩
  ·refine Ai rfl (fun z hz=>?_)
   have hz:=yes z hz ⟨by omega,by omega⟩
   subst hz
   exact .inl ⟨⟨by omega,by omega⟩,rfl,x.out w 0 rfl⟩
end
end Go.Proofs.YtjnijlnmbjjgpaaGreatDoor
namespace Go.Proofs.YtjnijlnmbjjgpaaGreatDoor
open Go Go.Sx C
def hashE (key n t:ByteArray):Eff:=⟨5,key,n,t,0⟩
def unhashE (key n:ByteArray):Eff:=⟨6,key,n,noText,0⟩
def headE (key t:ByteArray):Eff:=⟨7,key,noText,t,0⟩
def tailE (key t:ByteArray):Eff:=⟨8,key,noText,t,0⟩
def unheadE (key:ByteArray):Eff:=⟨9,key,noText,noText,0⟩
def untailE (key:ByteArray):Eff:=⟨10,key,noText,noText,0⟩
def atE (key:ByteArray) (i:Int) (t:ByteArray):Eff:=⟨11,key,noText,t,i⟩
def addE (key n:ByteArray):Eff:=⟨12,key,n,noText,0⟩
def removeE (key n:ByteArray):Eff:=⟨13,key,n,noText,0⟩
def rankE (key n:ByteArray) (s:Int):Eff:=⟨14,key,n,noText,s⟩
def unrankE (key n:ByteArray):Eff:=⟨15,key,n,noText,0⟩
def listR (l:List ByteArray):Rep:=⟨5,0,noText,l.map fun s=>(4,0,s)⟩
def textR (s:ByteArray):Rep:=rep 4 0 s
def small (s:ByteArray):Bool:=decide (s.size≤1048576)
def okK (kd:Int):Option Thing→Bool
 |none=>true
 |some t=>decide (t.kind=kd)
def placeN (n:Nat) (at_:Int):Option Nat:=
 if at_<0 then(if 0≤at_+n then some (at_+n).toNat else none)else if at_<n then some at_.toNat else none
def spanA (n:Nat) (a:Int):Int:=if a<0 then max 0 (a+n)else a
def spanB (n:Nat) (b:Int):Int:=min (if b<0 then b+n else b) ((n:Int)-1)
def spanN (n:Nat) (a b:Int):Nat×Nat:=if n<1∨spanB n b<spanA n a then(0,0)else((spanA n a).toNat,(spanB n b).toNat+1)
theorem placeN_lt {n i:Nat} {a:Int} (h:placeN n a=some i):i<n:=by
 unfold placeN at h
 split at h
 ·split at h
  ·cases h;omega
  ·cases h
 ·split at h
  ·cases h;omega
  ·cases h
theorem spanN_le (n:Nat) (a b:Int):(spanN n a b).1≤(spanN n a b).2∧(spanN n a b).2≤n:=by
 unfold spanN
 split
 ·exact⟨Nat.le_refl _,Nat.zero_le _⟩
 ·rename_i h
  have hb:spanB n b≤(n:Int)-1:=by unfold spanB;exact Int.min_le_right _ _
  have ha:0≤spanA n a:=by unfold spanA;split<;>omega
  show(spanA n a).toNat≤(spanB n b).toNat+1∧(spanB n b).toNat+1≤n
  omega
section
variable (S:Space) (now:Int)
def kindly (k:Int) (key:ByteArray) (f:Thing→Res):Res:=match getS S key now with
 |none=>f zeroT
 |some t=>if t.kind=k then f t else .error wType
def makes (key:ByteArray) (items:Int) (ok:Bool) (r:Rep) (E:List Eff):Res:=
 if items≤65536∧key.size≤1048576∧ok=true then .ok (r,dropsS S key now++E)else .error wLong
def newL (there:ByteArray→Bool):List ByteArray→List ByteArray→List ByteArray
 |_,[]=>[]
 |pre,n::ns=>(if there n=false∧n∉pre then[n]else[])++newL there (pre++[n]) ns
def hereL (there:ByteArray→Bool) (ns:List ByteArray):List ByteArray:=newL (fun n=>!there n) [] ns
def twos:List ByteArray→List (ByteArray×ByteArray)
 |a::b::l=>(a,b)::twos l
 |_=>[]
def fieldF (l:List Pair) (n:ByteArray):Option ByteArray:=(l.find? fun p=>decide (p.name=n)).map Pair.text
def thereH (l:List Pair) (n:ByteArray):Bool:=(fieldF l n).isSome
def cHset:List ByteArray→Res
 |key::l=>if 2≤l.length∧l.length<65536∧l.length%2=0 then kindly S now 2 key fun t=>
   let n:=(newL (thereH t.pairs) [] ((twos l).map Prod.fst)).length
   makes S now key (t.pairs.length+n) (l.all small) (numR n) ((twos l).map fun p=>hashE key p.1 p.2)else .error wArgs
 |[]=>.error wArgs
def cHget:List ByteArray→Res:=arg2 fun key n=>kindly S now 2 key fun t=>match fieldF t.pairs n with
 |some s=>.ok (textR s,[])
 |none=>.ok (nilR,[])
def cAway (k:Int) (there:Thing→ByteArray→Bool) (e:ByteArray→ByteArray→Eff):List ByteArray→Res
 |key::l=>if 1≤l.length∧l.length<65536 then kindly S now k key fun t=>.ok (numR (hereL (there t) l).length,(hereL (there t) l).map (e key))else .error wArgs
 |[]=>.error wArgs
def cHdel:List ByteArray→Res:=cAway S now 2 (fun t=>thereH t.pairs) unhashE
def cHlen:List ByteArray→Res:=arg1 fun key=>kindly S now 2 key fun t=>.ok (numR t.pairs.length,[])
def cHall:List ByteArray→Res:=arg1 fun key=>kindly S now 2 key fun t=>.ok (listR (t.pairs.flatMap fun p=>[p.name,p.text]),[])
def arg3 (f:ByteArray→ByteArray→ByteArray→Res):List ByteArray→Res
 |[a,b,c]=>f a b c
 |_=>.error wArgs
def numbered (s:ByteArray) (f:Int→Res):Res:=match numOf s with
 |some n=>f n
 |none=>.error wNum
def addTo (n by_:Int) (f:Int→Res):Res:=if okSum n by_ then f (n+by_)else .error wOver
def cHincr:List ByteArray→Res:=arg3 fun key n s=>numbered s fun by_=>kindly S now 2 key fun t=>
 numbered ((fieldF t.pairs n).getD zeroS) fun m=>addTo m by_ fun z=>
  makes S now key (t.pairs.length+(if thereH t.pairs n=true then 0 else 1)) (small n&&small ⟨⟨Lib.itoa z⟩⟩) (numR z) [hashE key n ⟨⟨Lib.itoa z⟩⟩]
def cPush (e:ByteArray→ByteArray→Eff):List ByteArray→Res
 |key::l=>if 1≤l.length∧l.length<65536 then kindly S now 3 key fun t=>makes S now key (t.list.length+l.length) (l.all small) (numR (t.list.length+l.length)) (l.map (e key))else .error wArgs
 |[]=>.error wArgs
def cPop (e:ByteArray→Eff) (at_:Int):List ByteArray→Res:=arg1 fun key=>kindly S now 3 key fun t=>match placeN t.list.length at_ with
 |some i=>.ok (textR (t.list[i]?.getD noText),[e key])
 |none=>.ok (nilR,[])
def cLlen:List ByteArray→Res:=arg1 fun key=>kindly S now 3 key fun t=>.ok (numR t.list.length,[])
def cLindex:List ByteArray→Res:=arg2 fun key s=>numbered s fun n=>kindly S now 3 key fun t=>match placeN t.list.length n with
 |some i=>.ok (textR (t.list[i]?.getD noText),[])
 |none=>.ok (nilR,[])
def spanL {α:Type} (l:List α) (a b:Int):List α:=(l.drop (spanN l.length a b).1).take ((spanN l.length a b).2-(spanN l.length a b).1)
def cLrange:List ByteArray→Res:=arg3 fun key s u=>numbered s fun a=>numbered u fun b=>kindly S now 3 key fun t=>.ok (listR (spanL t.list a b),[])
def cLset:List ByteArray→Res:=arg3 fun key s u=>numbered s fun n=>kindly S now 3 key fun t=>match placeN t.list.length n with
 |some i=>makes S now key t.list.length (small u) okR [atE key i u]
 |none=>.error wRange
def thereL (l:List ByteArray) (n:ByteArray):Bool:=decide (n∈l)
def cSadd:List ByteArray→Res
 |key::l=>if 1≤l.length∧l.length<65536 then kindly S now 4 key fun t=>
   let ns:=newL (thereL t.list) [] l
   if ns=[]then .ok (numR 0,[])else makes S now key (t.list.length+ns.length) (ns.all small) (numR ns.length) (ns.map (addE key))else .error wArgs
 |[]=>.error wArgs
def cSrem:List ByteArray→Res:=cAway S now 4 (fun t=>thereL t.list) removeE
def cSis:List ByteArray→Res:=arg2 fun key n=>kindly S now 4 key fun t=>.ok (numR (if thereL t.list n=true then 1 else 0),[])
def cScard:List ByteArray→Res:=arg1 fun key=>kindly S now 4 key fun t=>.ok (numR t.list.length,[])
def cSmem:List ByteArray→Res:=arg1 fun key=>kindly S now 4 key fun t=>.ok (listR t.list,[])
def interL:List ByteArray→List ByteArray→(List ByteArray→Res)→Res
 |acc,[],f=>f acc
 |acc,key::ks,f=>kindly S now 4 key fun t=>interL (acc.filter (thereL t.list)) ks f
def cSinter:List ByteArray→Res
 |key::ks=>if ks.length<65536 then kindly S now 4 key fun t=>interL S now t.list ks fun l=>.ok (listR l,[])else .error wArgs
 |[]=>.error wArgs
def scoreF (l:List Rank) (n:ByteArray):Option Int:=(l.find? fun r=>decide (r.name=n)).map Rank.score
def thereR (l:List Rank) (n:ByteArray):Bool:=(scoreF l n).isSome
def scored:List (ByteArray×ByteArray)→Option (List (Int×ByteArray))
 |[]=>some []
 |(s,n)::l=>match numOf s,scored l with
  |some z,some r=>some ((z,n)::r)
  |_,_=>none
def cZadd:List ByteArray→Res
 |key::l=>if 2≤l.length∧l.length<65536∧l.length%2=0 then match scored (twos l)with
   |none=>.error wNum
   |some r=>kindly S now 5 key fun t=>
    let n:=(newL (thereR t.ranks) [] (r.map Prod.snd)).length
    makes S now key (t.ranks.length+n) ((r.map Prod.snd).all small) (numR n) (r.map fun p=>rankE key p.2 p.1)
   else .error wArgs
 |[]=>.error wArgs
def cZrem:List ByteArray→Res:=cAway S now 5 (fun t=>thereR t.ranks) unrankE
def cZscore:List ByteArray→Res:=arg2 fun key n=>kindly S now 5 key fun t=>match scoreF t.ranks n with
 |some z=>.ok (textR ⟨⟨Lib.itoa z⟩⟩,[])
 |none=>.ok (nilR,[])
def cZincr:List ByteArray→Res:=arg3 fun key s n=>numbered s fun by_=>kindly S now 5 key fun t=>addTo ((scoreF t.ranks n).getD 0) by_ fun z=>
 makes S now key (t.ranks.length+(if thereR t.ranks n=true then 0 else 1)) (small n) (textR ⟨⟨Lib.itoa z⟩⟩) [rankE key n z]
def cZcard:List ByteArray→Res:=arg1 fun key=>kindly S now 5 key fun t=>.ok (numR t.ranks.length,[])
def cZrank:List ByteArray→Res:=arg2 fun key n=>kindly S now 5 key fun t=>match t.ranks.findIdx? fun r=>decide (r.name=n)with
 |some i=>.ok (numR i,[])
 |none=>.ok (nilR,[])
def cZrange:List ByteArray→Res:=arg3 fun key s u=>numbered s fun a=>numbered u fun b=>kindly S now 5 key fun t=>.ok (listR ((spanL t.ranks a b).map Rank.name),[])
def cZby:List ByteArray→Res:=arg3 fun key s u=>numbered s fun a=>numbered u fun b=>kindly S now 5 key fun t=>
 .ok (listR ((t.ranks.filter fun r=>decide (a≤r.score)&&decide (r.score≤b)).map Rank.name),[])
end
end Go.Proofs.YtjnijlnmbjjgpaaGreatDoor
namespace Go.Proofs.YtjnijlnmbjjgpaaGreatDoor
open Go Go.Sx C
theorem find_is9 {l:List RX} (hu:UpX l) (key:ByteArray):(findX key l).2=(findS (l.map RX.pr) key).isSome:=by
 cases hb:(findX key l).2 with
 |true=>
  obtain⟨hlt,hk⟩:=findX_hit key l hb
  rw[find_yes hu hlt hk];rfl
 |false=>rw[find_no hu hb];rfl
section
variable {rest:List Value} {h0 h h1 h':Heap} {xb i:Nat} {now n kd:Int} {kv av lv:Value} {k:List RX} {A:List ByteArray} {L:List Eff} {why key s:ByteArray} {M:List En} {T:List Nat} {e e':En}
theorem rgone9_calls (c:RC9 h0 kv k av A) (x:As h0 h (rxE9 xb rest kv now av lv L why)) (hk:key.size<4611686018427387904) (hL:L.length≤1000000):CallsH Tryz.prog 220 [ptr xb,.string key] h
  (Ret fun _ h'=>∃lv',RxO9 h0 h (rxE9 xb rest kv now av lv L why) h' (rxE9 xb rest kv now av lv' (L++dropsS (k.map RX.pr) key now) why)):=by
 obtain⟨a,cc,rfl⟩:=x.st.rform9 0 rfl
 refine f220_calls (by simp) ?_
 have w:=x.st
 refine w.ldr9 0 rfl rfl ?_
 refine callp (Find_calls key (c.sl.ext (x.base w)) c.len hk c.fit) ?_
 rw[find_is9 c.up key]
 refine w.ldr9 0 rfl rfl ?_
 refine w.ldr9 0 rfl rfl ?_
 refine get_twoR9 w (c.getS (x.base w) key hk) [(0,ptr xb),(1,.string key),(5,.bool (findS (k.map RX.pr) key).isSome)] rfl rfl rfl ⟨rfl,rfl,rfl,trivial⟩ rfl (mono_at mono_retQ) fun h2 b6 pv lw rv w _ _=>?_
 unfold dropsS
 generalize (findS (k.map RX.pr) key).isSome=fs
 generalize (getS (k.map RX.pr) key now).getD zeroT=t at w
 generalize (getS (k.map RX.pr) key now).isSome=gs
 cases fs with
 |false=>
  refine⟨.slice a L.length cc,?_⟩
  rw[if_neg (by simp),List.append_nil]
  exact x.out w 1 rfl
 |true=>
  cases gs with
  |true=>
   refine⟨.slice a L.length cc,?_⟩
   rw[if_neg (by simp),List.append_nil]
   exact x.out w 1 rfl
  |false=>
   refine w.ldr9 1 rfl rfl ?_
   intro b7 h3 g3
   have w:=w.new g3
   refine w.rapp9 2 rfl rfl (one_sl (e:=goneE key) (w.get 0 rfl)) (by simp only[List.length_singleton];omega) fun a4 n4 h4 hst=>?_
   refine hst fun h5 w=>?_
   refine⟨.slice a4 (L++[goneE key]).length n4,?_⟩
   rw[if_pos ⟨rfl,rfl⟩]
   exact x.out w 2 rfl
theorem rthing9_calls (c:RC9 h0 kv k av A) (x:As h0 h (rxE9 xb rest kv now av lv L why)) (hk:key.size<4611686018427387904):CallsH Tryz.prog 124 [ptr xb,.string key,.int .i64 kd] h
  (Ret fun r h'=>(∃pv lw rv,r=.tuple #[.agg ⟨cellsT ((getS (k.map RX.pr) key now).getD zeroT) pv lw rv⟩,.bool (getS (k.map RX.pr) key now).isSome,.bool (okK kd (getS (k.map RX.pr) key now))]∧(∀u∈cellsT ((getS (k.map RX.pr) key now).getD zeroT) pv lw rv,u.oneCell'=true)∧
    ∀h2,Chg [] h0 h2→TH h2 (cellsT ((getS (k.map RX.pr) key now).getD zeroT) pv lw rv) ((getS (k.map RX.pr) key now).getD zeroT))∧
   RxO9 h0 h (rxE9 xb rest kv now av lv L why) h' (rxE9 xb rest kv now av lv L (if okK kd (getS (k.map RX.pr) key now)=true then why else wType))):=by
 refine f124_calls (by simp) ?_
 intro b6 h1 g1
 have w:=x.st.new g1
 refine w.ldr9 1 rfl rfl ?_
 refine w.ldr9 1 rfl rfl ?_
 refine get_twoR9 w (c.getS (x.base w) key hk) [(0,ptr xb),(1,.string key),(2,.int .i64 kd),(6,ptr b6)] rfl rfl rfl ⟨rfl,rfl,rfl,rfl,trivial⟩ rfl (mono_at mono_retQ) fun h2 b9 pv lw rv w hone hth=>?_
 generalize getS (k.map RX.pr) key now=go at w hone hth⊢
 cases go with
 |none=>
  refine w.ldw 0 rfl rfl ?_
  refine w.st3 1 rfl rfl rfl hone fun h3 w=>?_
  exact⟨_,rfl,cells_blk (w.get 1 rfl),⟨_,_,_,rfl,hone,hth⟩,x.out w 2 rfl⟩
 |some t=>
  refine w.ld1 0 rfl rfl ?_
  refine Ai rfl (Ai (fun h1=>?_) (fun h1=>?_))
  ·have hn:okK kd (some t)=false:=decide_eq_false h1
   rw[hn]
   refine w.stw9 2 rfl fun h3 w=>?_
   refine w.ldw 0 rfl rfl ?_
   refine w.st3 1 rfl rfl rfl hone fun h4 w=>?_
   exact⟨_,rfl,cells_blk (w.get 1 rfl),⟨_,_,_,rfl,hone,hth⟩,x.out w 2 rfl⟩
  ·have hn:okK kd (some t)=true:=decide_eq_true (Classical.not_not.1 h1)
   rw[hn]
   refine w.ldw 0 rfl rfl ?_
   refine w.st3 1 rfl rfl rfl hone fun h4 w=>?_
   exact⟨_,rfl,cells_blk (w.get 1 rfl),⟨_,_,_,rfl,hone,hth⟩,x.out w 2 rfl⟩
end
end Go.Proofs.YtjnijlnmbjjgpaaGreatDoor

set_option maxRecDepth 100000
namespace Go.Proofs.YtjnijlnmbjjgpaaGreatDoor.C
open Go Go.Sx Go.Sx.S
def f40r0:LS:=[o 7 (.eqn 4 false (t 5))]
def f40r1:LS:=[M 2 5]
def f40r2:LS:=[o 8 (.tas 92 (.agg #[(.string ⟨#[]⟩)]) true (t 5)),X 9 8 1,X 10 8 0]
def f40r3:LS:=[o 3 (.new [(.string ⟨#[]⟩)]),q (.st 1 (t 3) (t 10))]
def f40r4:LS:=[A 11 0 3,L 12 11,o 13 (.call 41 [(t 12)]),q (.st 4 (t 0) (t 13)),q (.st 1 (t 1) (.const (.slice none 0 0)))]
def f40r5:LS:=[M 4 5]
def f40r6:LS:=[M 6 4,q (.pan (t 6))]
def f40:SCode:=(.seq (.rcv (some 5)) (.block 0 (.j f40r0 (.cond (t 7) (.ops f40r1) (.j f40r2 (.cond (t 9) (.j f40r3 (.ops f40r4)) (.j f40r5 (.ops f40r6))))))))
def f81r0:LS:=[o 1 (.box (t 0)),o 2 (.new [(.int .i64 0),(.int .i64 0),(.string ⟨#[]⟩),(.slice none 0 0)])]
def f81r1:LS:=[L 6 1,o 7 (.call 149 [(t 6),(i 3),(i 65536)])]
def f81r2:LS:=[L 8 1,K 9 8,A 10 11 9,L 11 10,o 12 (.len (t 11)),o 13 (.rem (t 12) (i 2)),E 14 13 1,o 15 (.call 150 [(t 14),(.const (.string ⟨#[69,82,82,32,97,114,103,115]⟩))])]
def f81r3:LS:=[L 16 1,o 17 (.call 151 [(t 16),(i 2)])]
def f81r4:LS:=[I 3 0]
def f81r5:LS:=[o 18 (.fn 153 [] [(t 1)]),o 19 (.call 152 [(t 18)]),M 4 19]
def f81r6:LS:=[I 5 1]
def f81r7:LS:=[M 20 5,L 21 1,K 22 21,A 23 11 22,L 24 23,o 25 (.len (t 24)),o 26 (.cmp .lss (t 20) (t 25))]
def f81r8:LS:=[M 29 4,L 30 1,K 31 30,A 32 11 31,L 33 32,M 34 5,G 35 1 33 34,L 36 35,o 37 (.callv (t 29) [(t 36)])]
def f81r9:LS:=[M 38 3,D 39 38 1,M 3 39]
def f81r10:LS:=[L 40 1,L 41 1,K 42 41,A 43 11 42,L 44 43,M 45 5,G 46 1 44 45,L 47 46,L 48 1,K 49 48,A 50 11 49,L 51 50,M 52 5,D 53 52 1,G 54 1 51 53,L 55 54,o 56 (.build [(.int .i64 0),(.string ⟨#[]⟩),(.string ⟨#[]⟩),(.string ⟨#[]⟩),(.int .i64 0)] [(0,1),(2,1),(3,1)] [(i 5),(t 47),(t 55)]),L 57 1,K 58 57,A 59 0 58,A 60 2 59,L 61 60,o 62 (.len (t 61)),M 63 3,o 64 (.ar .add (t 62) (t 63)),o 65 (.call 155 [(t 40),(t 56),(t 64)])]
def f81r11:LS:=[M 27 5,D 28 27 2,M 5 28]
def f81l12:SCode:=(.seq (.j f81r7 (.cond (t 26) .skip (.exit 0))) (.seq (.block 1 (.seq (.j f81r8 (.cond (t 37) (.ops f81r9) .skip)) (.ops f81r10))) (.ops f81r11)))
def f81r13:LS:=[M 66 3,o 67 (.call 156 [(t 66)]),q (.st 4 (t 2) (t 67))]
def f81:SCode:=(.j f81r0 (.j f81r1 (.j f81r2 (.j f81r3 (.j f81r4 (.j f81r5 (.seq (.j f81r6 (.block 0 (.loop f81l12))) (.j f81r13 .ret))))))))
theorem f81_calls:Sound Tryz.prog 81 68 f81 [.cn 2 4]:=sdo Tryz.func81 rfl (by kernel_rfl)
def f82r0:LS:=[o 2 (.new [(.int .i64 0),(.int .i64 0),(.string ⟨#[]⟩),(.slice none 0 0)])]
def f82r1:LS:=[M 5 0,o 6 (.call 157 [(t 5),(i 2),(i 2),(i 2)])]
def f82r2:LS:=[M 8 0,M 9 0,K 10 9,A 11 11 10,L 12 11,o 13 (.ixs 1 (t 12) (i 1)),L 14 13,o 15 (.call 154 [(t 8),(t 14)]),M 7 15,X 16 7 0,X 17 7 1,M 3 16,M 4 17]
def f82r3:LS:=[M 18 4,o 19 (.un .not (t 18))]
def f82r4:LS:=[o 20 (.build [(.int .i64 0),(.int .i64 0),(.string ⟨#[]⟩),(.slice none 0 0)] [] []),q (.st 4 (t 2) (t 20))]
def f82r5:LS:=[M 21 3,o 22 (.call 158 [(t 21)]),q (.st 4 (t 2) (t 22))]
def f82:SCode:=(.j f82r0 (.j f82r1 (.j f82r2 (.seq (.j f82r3 (.k 19 f82r4)) (.j f82r5 .ret)))))
theorem f82_calls:Sound Tryz.prog 82 23 f82 [.cn 2 4]:=sdo Tryz.func82 rfl (by kernel_rfl)
def f83r0:LS:=[o 1 (.box (t 0)),o 2 (.new [(.int .i64 0),(.int .i64 0),(.string ⟨#[]⟩),(.slice none 0 0)])]
def f83r1:LS:=[L 3 1,o 4 (.call 157 [(t 3),(i 2),(i 2),(i 65536)])]
def f83r2:LS:=[L 5 1,o 6 (.fn 160 [] [(t 1)]),o 7 (.call 159 [(t 5),(i 6),(t 6)]),q (.st 4 (t 2) (t 7))]
def f83:SCode:=(.j f83r0 (.j f83r1 (.j f83r2 .ret)))
theorem f83_calls:Sound Tryz.prog 83 8 f83 [.cn 2 4]:=sdo Tryz.func83 rfl (by kernel_rfl)
def f84r0:LS:=[o 2 (.new [(.int .i64 0),(.int .i64 0),(.string ⟨#[]⟩),(.slice none 0 0)])]
def f84r1:LS:=[M 3 0,o 4 (.call 157 [(t 3),(i 2),(i 1),(i 1)])]
def f84r2:LS:=[M 5 0,K 6 5,A 7 0 6,A 8 2 7,L 9 8,o 10 (.len (t 9)),o 11 (.call 156 [(t 10)]),q (.st 4 (t 2) (t 11))]
def f84:SCode:=(.j f84r0 (.j f84r1 (.j f84r2 .ret)))
theorem f84_calls:Sound Tryz.prog 84 12 f84 [.cn 2 4]:=sdo Tryz.func84 rfl (by kernel_rfl)
def f85r0:LS:=[o 2 (.new [(.int .i64 0),(.int .i64 0),(.string ⟨#[]⟩),(.slice none 0 0)])]
def f85r1:LS:=[M 3 0,o 4 (.call 157 [(t 3),(i 2),(i 1),(i 1)])]
def f85r2:LS:=[M 5 0,K 6 5,A 7 0 6,A 8 2 7,L 9 8,o 10 (.call 161 [(t 9),(u 162)]),q (.st 4 (t 2) (t 10))]
def f85:SCode:=(.j f85r0 (.j f85r1 (.j f85r2 .ret)))
theorem f85_calls:Sound Tryz.prog 85 11 f85 [.cn 2 4]:=sdo Tryz.func85 rfl (by kernel_rfl)
def f86r0:LS:=[o 2 (.new [(.int .i64 0),(.int .i64 0),(.string ⟨#[]⟩),(.slice none 0 0)])]
def f86r1:LS:=[M 9 0,o 10 (.call 149 [(t 9),(i 3),(i 3)])]
def f86r2:LS:=[M 11 0,o 12 (.call 163 [(t 11),(i 2)]),M 3 12]
def f86r3:LS:=[M 13 0,o 14 (.call 151 [(t 13),(i 2)])]
def f86r4:LS:=[M 16 0,M 17 0,K 18 17,A 19 11 18,L 20 19,o 21 (.ixs 1 (t 20) (i 1)),L 22 21,o 23 (.call 154 [(t 16),(t 22)]),M 15 23,X 24 15 0,X 25 15 1,M 4 24,M 5 25]
def f86r5:LS:=[M 26 5,o 27 (.un .not (t 26))]
def f86r6:LS:=[o 4 (.mv (.const (.string ⟨#[48]⟩)))]
def f86r7:LS:=[M 29 4,o 30 (.call 164 [(t 29)]),M 28 30,X 31 28 0,X 32 28 1,M 6 31,M 7 32]
def f86r8:LS:=[M 33 7,o 34 (.call 150 [(t 33),(.const (.string ⟨#[69,82,82,32,110,117,109,98,101,114]⟩))])]
def f86r9:LS:=[M 35 6,M 36 3,o 37 (.call 165 [(t 35),(t 36)]),M 6 37]
def f86r10:LS:=[M 38 0,K 39 38,A 40 0 39,A 41 2 40,L 42 41,o 43 (.len (t 42)),M 8 43]
def f86r11:LS:=[M 44 5,o 45 (.un .not (t 44))]
def f86r12:LS:=[M 46 8,D 47 46 1,M 8 47]
def f86r13:LS:=[M 48 0,M 49 0,K 50 49,A 51 11 50,L 52 51,o 53 (.ixs 1 (t 52) (i 1)),L 54 53,M 55 6,M 58 8,o 56 (.callq 34 [(t 55),(i 10)]),o 57 (.build [(.int .i64 0),(.string ⟨#[]⟩),(.string ⟨#[]⟩),(.string ⟨#[]⟩),(.int .i64 0)] [(0,1),(2,1),(3,1)] [(i 5),(t 54),(t 56)]),o 59 (.call 155 [(t 48),(t 57),(t 58)])]
def f86r14:LS:=[M 60 6,o 61 (.call 156 [(t 60)]),q (.st 4 (t 2) (t 61))]
def f86:SCode:=(.j f86r0 (.j f86r1 (.j f86r2 (.j f86r3 (.j f86r4 (.seq (.j f86r5 (.cond (t 27) (.ops f86r6) .skip)) (.j f86r7 (.j f86r8 (.j f86r9 (.j f86r10 (.seq (.j f86r11 (.cond (t 45) (.ops f86r12) .skip)) (.j f86r13 (.j f86r14 .ret)))))))))))))
theorem f86_calls:Sound Tryz.prog 86 62 f86 [.cn 2 4]:=sdo Tryz.func86 rfl (by kernel_rfl)
def f87r0:LS:=[o 2 (.new [(.int .i64 0),(.int .i64 0),(.string ⟨#[]⟩),(.slice none 0 0)])]
def f87r1:LS:=[M 3 0,o 4 (.call 166 [(t 3),(i 7)]),q (.st 4 (t 2) (t 4))]
def f87:SCode:=(.j f87r0 (.j f87r1 .ret))
theorem f87_calls:Sound Tryz.prog 87 5 f87 [.cn 2 4]:=sdo Tryz.func87 rfl (by kernel_rfl)
def f88r0:LS:=[o 2 (.new [(.int .i64 0),(.int .i64 0),(.string ⟨#[]⟩),(.slice none 0 0)])]
def f88r1:LS:=[M 3 0,o 4 (.call 166 [(t 3),(i 8)]),q (.st 4 (t 2) (t 4))]
def f88:SCode:=(.j f88r0 (.j f88r1 .ret))
theorem f88_calls:Sound Tryz.prog 88 5 f88 [.cn 2 4]:=sdo Tryz.func88 rfl (by kernel_rfl)
def f89r0:LS:=[o 2 (.new [(.int .i64 0),(.int .i64 0),(.string ⟨#[]⟩),(.slice none 0 0)])]
def f89r1:LS:=[M 3 0,o 4 (.call 167 [(t 3),(i 9),(i 0)]),q (.st 4 (t 2) (t 4))]
def f89:SCode:=(.j f89r0 (.j f89r1 .ret))
theorem f89_calls:Sound Tryz.prog 89 5 f89 [.cn 2 4]:=sdo Tryz.func89 rfl (by kernel_rfl)
def f90r0:LS:=[o 2 (.new [(.int .i64 0),(.int .i64 0),(.string ⟨#[]⟩),(.slice none 0 0)])]
def f90r1:LS:=[M 3 0,o 4 (.call 167 [(t 3),(i 10),(i (-1))]),q (.st 4 (t 2) (t 4))]
def f90:SCode:=(.j f90r0 (.j f90r1 .ret))
theorem f90_calls:Sound Tryz.prog 90 5 f90 [.cn 2 4]:=sdo Tryz.func90 rfl (by kernel_rfl)
def f91r0:LS:=[o 2 (.new [(.int .i64 0),(.int .i64 0),(.string ⟨#[]⟩),(.slice none 0 0)])]
def f91r1:LS:=[M 3 0,o 4 (.call 157 [(t 3),(i 3),(i 1),(i 1)])]
def f91r2:LS:=[M 5 0,K 6 5,A 7 0 6,A 8 3 7,L 9 8,o 10 (.len (t 9)),o 11 (.call 156 [(t 10)]),q (.st 4 (t 2) (t 11))]
def f91:SCode:=(.j f91r0 (.j f91r1 (.j f91r2 .ret)))
theorem f91_calls:Sound Tryz.prog 91 12 f91 [.cn 2 4]:=sdo Tryz.func91 rfl (by kernel_rfl)
def f92r0:LS:=[o 2 (.new [(.int .i64 0),(.int .i64 0),(.string ⟨#[]⟩),(.slice none 0 0)])]
def f92r1:LS:=[M 6 0,o 7 (.call 149 [(t 6),(i 2),(i 2)])]
def f92r2:LS:=[M 8 0,o 9 (.call 163 [(t 8),(i 1)]),M 3 9]
def f92r3:LS:=[M 10 0,o 11 (.call 151 [(t 10),(i 3)])]
def f92r4:LS:=[M 13 0,K 14 13,A 15 0 14,A 16 3 15,L 17 16,o 18 (.len (t 17)),M 19 3,o 20 (.call 168 [(t 18),(t 19)]),M 12 20,X 21 12 0,X 22 12 1,M 4 21,M 5 22]
def f92r5:LS:=[M 23 5,o 24 (.un .not (t 23))]
def f92r6:LS:=[o 25 (.build [(.int .i64 0),(.int .i64 0),(.string ⟨#[]⟩),(.slice none 0 0)] [] []),q (.st 4 (t 2) (t 25))]
def f92r7:LS:=[M 26 0,K 27 26,A 28 0 27,A 29 3 28,L 30 29,M 31 4,G 32 1 30 31,L 33 32,o 34 (.call 158 [(t 33)]),q (.st 4 (t 2) (t 34))]
def f92:SCode:=(.j f92r0 (.j f92r1 (.j f92r2 (.j f92r3 (.j f92r4 (.seq (.j f92r5 (.k 24 f92r6)) (.j f92r7 .ret)))))))
theorem f92_calls:Sound Tryz.prog 92 35 f92 [.cn 2 4]:=sdo Tryz.func92 rfl (by kernel_rfl)
def f93r0:LS:=[o 2 (.new [(.int .i64 0),(.int .i64 0),(.string ⟨#[]⟩),(.slice none 0 0)])]
def f93r1:LS:=[M 7 0,o 8 (.call 149 [(t 7),(i 3),(i 3)])]
def f93r2:LS:=[M 9 0,o 10 (.call 163 [(t 9),(i 1)]),M 11 0,o 12 (.call 163 [(t 11),(i 2)]),M 3 10,M 4 12]
def f93r3:LS:=[M 13 0,o 14 (.call 151 [(t 13),(i 3)])]
def f93r4:LS:=[M 16 0,K 17 16,A 18 0 17,A 19 3 18,L 20 19,o 21 (.len (t 20)),M 22 3,M 23 4,o 24 (.call 169 [(t 21),(t 22),(t 23)]),M 15 24,X 25 15 0,X 26 15 1,M 5 25,M 6 26]
def f93r5:LS:=[M 27 0,K 28 27,A 29 0 28,A 30 3 29,L 31 30,M 32 5,M 33 6,o 34 (.slc 1 (t 31) (some (t 32)) (some (t 33))),o 35 (.call 170 [(t 34),(u 171)]),q (.st 4 (t 2) (t 35))]
def f93:SCode:=(.j f93r0 (.j f93r1 (.j f93r2 (.j f93r3 (.j f93r4 (.j f93r5 .ret))))))
theorem f93_calls:Sound Tryz.prog 93 36 f93 [.cn 2 4]:=sdo Tryz.func93 rfl (by kernel_rfl)
def f94r0:LS:=[o 2 (.new [(.int .i64 0),(.int .i64 0),(.string ⟨#[]⟩),(.slice none 0 0)])]
def f94r1:LS:=[M 6 0,o 7 (.call 149 [(t 6),(i 3),(i 3)])]
def f94r2:LS:=[M 8 0,o 9 (.call 163 [(t 8),(i 1)]),M 3 9]
def f94r3:LS:=[M 10 0,o 11 (.call 151 [(t 10),(i 3)])]
def f94r4:LS:=[M 13 0,K 14 13,A 15 0 14,A 16 3 15,L 17 16,o 18 (.len (t 17)),M 19 3,o 20 (.call 168 [(t 18),(t 19)]),M 12 20,X 21 12 0,X 22 12 1,M 4 21,M 5 22]
def f94r5:LS:=[M 23 5,o 24 (.call 150 [(t 23),(.const (.string ⟨#[69,82,82,32,114,97,110,103,101]⟩))])]
def f94r6:LS:=[M 25 0,M 26 4,M 27 0,K 28 27,A 29 11 28,L 30 29,o 31 (.ixs 1 (t 30) (i 2)),L 32 31,o 33 (.build [(.int .i64 0),(.string ⟨#[]⟩),(.string ⟨#[]⟩),(.string ⟨#[]⟩),(.int .i64 0)] [(0,1),(4,1),(3,1)] [(i 11),(t 26),(t 32)]),M 34 0,K 35 34,A 36 0 35,A 37 3 36,L 38 37,o 39 (.len (t 38)),o 40 (.call 155 [(t 25),(t 33),(t 39)])]
def f94r7:LS:=[o 41 (.build [(.int .i64 0),(.int .i64 0),(.string ⟨#[]⟩),(.slice none 0 0)] [(0,1),(2,1)] [(i 1),(.const (.string ⟨#[79,75]⟩))]),q (.st 4 (t 2) (t 41))]
def f94:SCode:=(.j f94r0 (.j f94r1 (.j f94r2 (.j f94r3 (.j f94r4 (.j f94r5 (.j f94r6 (.j f94r7 .ret))))))))
theorem f94_calls:Sound Tryz.prog 94 42 f94 [.cn 2 4]:=sdo Tryz.func94 rfl (by kernel_rfl)
def f95r0:LS:=[o 2 (.new [(.int .i64 0),(.int .i64 0),(.string ⟨#[]⟩),(.slice none 0 0)])]
def f95r1:LS:=[M 7 0,o 8 (.call 157 [(t 7),(i 4),(i 2),(i 65536)])]
def f95r2:LS:=[I 3 0]
def f95r3:LS:=[M 9 0,o 10 (.fn 172 [(t 9)] []),o 11 (.call 152 [(t 10)]),M 4 11]
def f95r4:LS:=[M 12 0,K 13 12,A 14 11 13,L 15 14,o 16 (.slc 1 (t 15) (some (i 1)) none),o 17 (.len (t 16)),I 18 0]
def f95r5:LS:=[o 19 (.cmp .lss (t 18) (t 17))]
def f95r6:LS:=[G 20 1 16 18,L 21 20,M 6 21]
def f95r7:LS:=[M 22 4,M 23 6,o 24 (.callv (t 22) [(t 23)])]
def f95r8:LS:=[M 25 3,D 26 25 1,M 3 26]
def f95r9:LS:=[M 27 0,M 28 6,o 29 (.build [(.int .i64 0),(.string ⟨#[]⟩),(.string ⟨#[]⟩),(.string ⟨#[]⟩),(.int .i64 0)] [(0,1),(2,1)] [(i 12),(t 28)]),M 30 0,K 31 30,A 32 0 31,A 33 3 32,L 34 33,o 35 (.len (t 34)),M 36 3,o 37 (.ar .add (t 35) (t 36)),o 38 (.call 155 [(t 27),(t 29),(t 37)])]
def f95r10:LS:=[D 39 18 1,M 18 39]
def f95l11:SCode:=(.j f95r5 (.seq (.cond (t 19) .skip (.exit 0)) (.seq (.block 1 (.j f95r6 (.j f95r7 (.cond (t 24) (.j f95r8 (.ops f95r9)) .skip)))) (.ops f95r10))))
def f95r12:LS:=[M 40 3,o 41 (.call 156 [(t 40)]),q (.st 4 (t 2) (t 41))]
def f95:SCode:=(.j f95r0 (.j f95r1 (.j f95r2 (.j f95r3 (.seq (.j f95r4 (.block 0 (.loop f95l11))) (.j f95r12 .ret))))))
theorem f95_calls:Sound Tryz.prog 95 42 f95 [.cn 2 4]:=sdo Tryz.func95 rfl (by kernel_rfl)
def f96r0:LS:=[o 2 (.new [(.int .i64 0),(.int .i64 0),(.string ⟨#[]⟩),(.slice none 0 0)])]
def f96r1:LS:=[M 3 0,o 4 (.call 157 [(t 3),(i 4),(i 2),(i 65536)])]
def f96r2:LS:=[M 5 0,M 6 0,o 7 (.fn 172 [(t 6)] []),o 8 (.call 159 [(t 5),(i 13),(t 7)]),q (.st 4 (t 2) (t 8))]
def f96:SCode:=(.j f96r0 (.j f96r1 (.j f96r2 .ret)))
theorem f96_calls:Sound Tryz.prog 96 9 f96 [.cn 2 4]:=sdo Tryz.func96 rfl (by kernel_rfl)
def f97r0:LS:=[o 2 (.new [(.int .i64 0),(.int .i64 0),(.string ⟨#[]⟩),(.slice none 0 0)])]
def f97r1:LS:=[M 3 0,o 4 (.call 157 [(t 3),(i 4),(i 2),(i 2)])]
def f97r2:LS:=[M 5 0,M 6 0,K 7 6,A 8 11 7,L 9 8,o 10 (.ixs 1 (t 9) (i 1)),L 11 10,o 12 (.call 172 [(t 5),(t 11)]),o 13 (.call 173 [(t 12)]),q (.st 4 (t 2) (t 13))]
def f97:SCode:=(.j f97r0 (.j f97r1 (.j f97r2 .ret)))
theorem f97_calls:Sound Tryz.prog 97 14 f97 [.cn 2 4]:=sdo Tryz.func97 rfl (by kernel_rfl)
def f98r0:LS:=[o 2 (.new [(.int .i64 0),(.int .i64 0),(.string ⟨#[]⟩),(.slice none 0 0)])]
def f98r1:LS:=[M 3 0,o 4 (.call 157 [(t 3),(i 4),(i 1),(i 1)])]
def f98r2:LS:=[M 5 0,K 6 5,A 7 0 6,A 8 3 7,L 9 8,o 10 (.len (t 9)),o 11 (.call 156 [(t 10)]),q (.st 4 (t 2) (t 11))]
def f98:SCode:=(.j f98r0 (.j f98r1 (.j f98r2 .ret)))
theorem f98_calls:Sound Tryz.prog 98 12 f98 [.cn 2 4]:=sdo Tryz.func98 rfl (by kernel_rfl)
def f99r0:LS:=[o 2 (.new [(.int .i64 0),(.int .i64 0),(.string ⟨#[]⟩),(.slice none 0 0)])]
def f99r1:LS:=[M 3 0,o 4 (.call 157 [(t 3),(i 4),(i 1),(i 1)])]
def f99r2:LS:=[M 5 0,K 6 5,A 7 0 6,A 8 3 7,L 9 8,o 10 (.call 170 [(t 9),(u 171)]),q (.st 4 (t 2) (t 10))]
def f99:SCode:=(.j f99r0 (.j f99r1 (.j f99r2 .ret)))
theorem f99_calls:Sound Tryz.prog 99 11 f99 [.cn 2 4]:=sdo Tryz.func99 rfl (by kernel_rfl)
def f100r0:LS:=[o 2 (.new [(.int .i64 0),(.int .i64 0),(.string ⟨#[]⟩),(.slice none 0 0)])]
def f100r1:LS:=[M 11 0,o 12 (.call 149 [(t 11),(i 1),(i 65536)])]
def f100r2:LS:=[o 13 (.mkm),M 3 13]
def f100r3:LS:=[M 14 0,K 15 14,A 16 11 15,L 17 16,o 18 (.len (t 17)),I 19 0]
def f100r4:LS:=[o 20 (.cmp .lss (t 19) (t 18))]
def f100r5:LS:=[M 21 19,G 22 1 17 19,L 23 22,M 4 21,M 5 23]
def f100r6:LS:=[M 24 0,M 25 5,K 26 24,A 27 10 26,q (.st 1 (t 27) (t 25))]
def f100r7:LS:=[M 28 0,o 29 (.call 151 [(t 28),(i 4)])]
def f100r8:LS:=[M 30 0,K 31 30,A 32 0 31,A 33 3 32,L 34 33,o 35 (.len (t 34)),I 36 0]
def f100r9:LS:=[o 37 (.cmp .lss (t 36) (t 35))]
def f100r10:LS:=[G 38 1 34 36,L 39 38,M 7 39]
def f100r11:LS:=[M 40 3,M 41 7,o 42 (.look .str (.int .i64 0) false (t 40) (t 41)),M 43 4,o 44 (.cmp .eql (t 42) (t 43))]
def f100r12:LS:=[M 45 3,M 46 7,o 47 (.look .str (.int .i64 0) false (t 45) (t 46)),D 48 47 1,q (.mup .str (t 45) (t 46) (t 48))]
def f100r13:LS:=[D 49 36 1,M 36 49]
def f100l14:SCode:=(.j f100r9 (.seq (.cond (t 37) .skip (.exit 2)) (.seq (.block 3 (.j f100r10 (.j f100r11 (.cond (t 44) (.ops f100r12) .skip)))) (.ops f100r13))))
def f100r15:LS:=[D 50 19 1,M 19 50]
def f100l16:SCode:=(.j f100r4 (.seq (.cond (t 20) .skip (.exit 0)) (.seq (.block 1 (.j f100r5 (.j f100r6 (.j f100r7 (.j f100r8 (.block 2 (.loop f100l14))))))) (.ops f100r15))))
def f100r17:LS:=[o 8 (.mv (.const (.slice none 0 0)))]
def f100r18:LS:=[M 51 3,o 52 (.call 174 [(t 51)]),o 53 (.call 119 [(t 52)]),o 54 (.len (t 53)),I 55 0]
def f100r19:LS:=[o 56 (.cmp .lss (t 55) (t 54))]
def f100r20:LS:=[G 57 1 53 55,L 58 57,M 10 58]
def f100r21:LS:=[M 59 3,M 60 10,o 61 (.look .str (.int .i64 0) false (t 59) (t 60)),M 62 0,K 63 62,A 64 11 63,L 65 64,o 66 (.len (t 65)),o 67 (.cmp .eql (t 61) (t 66))]
def f100r22:LS:=[M 68 8,M 69 10,o 70 (.bslice [(.string ⟨#[]⟩)] 1 [(0,1)] [(t 69)]),o 71 (.app 1 16 [(.string ⟨#[]⟩)] (t 68) (t 70)),M 8 71]
def f100r23:LS:=[D 72 55 1,M 55 72]
def f100l24:SCode:=(.j f100r19 (.seq (.cond (t 56) .skip (.exit 4)) (.seq (.block 5 (.j f100r20 (.j f100r21 (.cond (t 67) (.ops f100r22) .skip)))) (.ops f100r23))))
def f100r25:LS:=[M 73 8,o 74 (.call 170 [(t 73),(u 171)]),q (.st 4 (t 2) (t 74))]
def f100:SCode:=(.j f100r0 (.j f100r1 (.j f100r2 (.seq (.j f100r3 (.block 0 (.loop f100l16))) (.j f100r17 (.seq (.j f100r18 (.block 4 (.loop f100l24))) (.j f100r25 .ret)))))))
theorem f100_calls:Sound Tryz.prog 100 75 f100 [.cn 2 4]:=sdo Tryz.func100 rfl (by kernel_rfl)
def f101r0:LS:=[o 1 (.box (t 0)),o 2 (.new [(.int .i64 0),(.int .i64 0),(.string ⟨#[]⟩),(.slice none 0 0)])]
def f101r1:LS:=[L 6 1,o 7 (.call 149 [(t 6),(i 3),(i 65536)])]
def f101r2:LS:=[L 8 1,K 9 8,A 10 11 9,L 11 10,o 12 (.len (t 11)),o 13 (.rem (t 12) (i 2)),E 14 13 1,o 15 (.call 150 [(t 14),(.const (.string ⟨#[69,82,82,32,97,114,103,115]⟩))])]
def f101r3:LS:=[L 16 1,o 17 (.call 175 [(t 16),(i 1)])]
def f101r4:LS:=[L 18 1,o 19 (.call 151 [(t 18),(i 5)])]
def f101r5:LS:=[I 3 0]
def f101r6:LS:=[o 20 (.fn 176 [] [(t 1)]),o 21 (.call 152 [(t 20)]),M 4 21]
def f101r7:LS:=[I 5 1]
def f101r8:LS:=[M 22 5,L 23 1,K 24 23,A 25 11 24,L 26 25,o 27 (.len (t 26)),o 28 (.cmp .lss (t 22) (t 27))]
def f101r9:LS:=[M 31 4,L 32 1,K 33 32,A 34 11 33,L 35 34,M 36 5,D 37 36 1,G 38 1 35 37,L 39 38,o 40 (.callv (t 31) [(t 39)])]
def f101r10:LS:=[M 41 3,D 42 41 1,M 3 42]
def f101r11:LS:=[L 43 1,L 44 1,K 45 44,A 46 11 45,L 47 46,M 48 5,D 49 48 1,G 50 1 47 49,L 51 50,L 52 1,M 53 5,L 56 1,K 57 56,A 58 0 57,A 59 4 58,L 60 59,o 61 (.len (t 60)),M 62 3,o 63 (.ar .add (t 61) (t 62)),o 54 (.callq 163 [(t 52),(t 53)]),o 55 (.build [(.int .i64 0),(.string ⟨#[]⟩),(.string ⟨#[]⟩),(.string ⟨#[]⟩),(.int .i64 0)] [(0,1),(2,1),(4,1)] [(i 14),(t 51),(t 54)]),o 64 (.call 155 [(t 43),(t 55),(t 63)])]
def f101r12:LS:=[M 29 5,D 30 29 2,M 5 30]
def f101l13:SCode:=(.seq (.j f101r8 (.cond (t 28) .skip (.exit 0))) (.seq (.block 1 (.seq (.j f101r9 (.cond (t 40) (.ops f101r10) .skip)) (.ops f101r11))) (.ops f101r12)))
def f101r14:LS:=[M 65 3,o 66 (.call 156 [(t 65)]),q (.st 4 (t 2) (t 66))]
def f101:SCode:=(.j f101r0 (.j f101r1 (.j f101r2 (.j f101r3 (.j f101r4 (.j f101r5 (.j f101r6 (.seq (.j f101r7 (.block 0 (.loop f101l13))) (.j f101r14 .ret)))))))))
theorem f101_calls:Sound Tryz.prog 101 67 f101 [.cn 2 4]:=sdo Tryz.func101 rfl (by kernel_rfl)
def f102r0:LS:=[o 1 (.box (t 0)),o 2 (.new [(.int .i64 0),(.int .i64 0),(.string ⟨#[]⟩),(.slice none 0 0)])]
def f102r1:LS:=[L 3 1,o 4 (.call 157 [(t 3),(i 5),(i 2),(i 65536)])]
def f102r2:LS:=[L 5 1,o 6 (.fn 178 [] [(t 1)]),o 7 (.call 159 [(t 5),(i 15),(t 6)]),q (.st 4 (t 2) (t 7))]
def f102:SCode:=(.j f102r0 (.j f102r1 (.j f102r2 .ret)))
theorem f102_calls:Sound Tryz.prog 102 8 f102 [.cn 2 4]:=sdo Tryz.func102 rfl (by kernel_rfl)
def f103r0:LS:=[o 2 (.new [(.int .i64 0),(.int .i64 0),(.string ⟨#[]⟩),(.slice none 0 0)])]
def f103r1:LS:=[M 5 0,o 6 (.call 157 [(t 5),(i 5),(i 2),(i 2)])]
def f103r2:LS:=[M 8 0,M 9 0,K 10 9,A 11 11 10,L 12 11,o 13 (.ixs 1 (t 12) (i 1)),L 14 13,o 15 (.call 177 [(t 8),(t 14)]),M 7 15,X 16 7 0,X 17 7 1,M 3 16,M 4 17]
def f103r3:LS:=[M 18 4,o 19 (.un .not (t 18))]
def f103r4:LS:=[o 20 (.build [(.int .i64 0),(.int .i64 0),(.string ⟨#[]⟩),(.slice none 0 0)] [] []),q (.st 4 (t 2) (t 20))]
def f103r5:LS:=[M 21 3,o 22 (.call 34 [(t 21),(i 10)]),o 23 (.call 158 [(t 22)]),q (.st 4 (t 2) (t 23))]
def f103:SCode:=(.j f103r0 (.j f103r1 (.j f103r2 (.seq (.j f103r3 (.k 19 f103r4)) (.j f103r5 .ret)))))
theorem f103_calls:Sound Tryz.prog 103 24 f103 [.cn 2 4]:=sdo Tryz.func103 rfl (by kernel_rfl)
def f104r0:LS:=[o 2 (.new [(.int .i64 0),(.int .i64 0),(.string ⟨#[]⟩),(.slice none 0 0)])]
def f104r1:LS:=[M 7 0,o 8 (.call 149 [(t 7),(i 3),(i 3)])]
def f104r2:LS:=[M 9 0,o 10 (.call 163 [(t 9),(i 1)]),M 3 10]
def f104r3:LS:=[M 11 0,o 12 (.call 151 [(t 11),(i 5)])]
def f104r4:LS:=[M 14 0,M 15 0,K 16 15,A 17 11 16,L 18 17,o 19 (.ixs 1 (t 18) (i 2)),L 20 19,o 21 (.call 177 [(t 14),(t 20)]),M 13 21,X 22 13 0,X 23 13 1,M 4 22,M 5 23]
def f104r5:LS:=[M 24 4,M 25 3,o 26 (.call 165 [(t 24),(t 25)]),M 4 26]
def f104r6:LS:=[M 27 0,K 28 27,A 29 0 28,A 30 4 29,L 31 30,o 32 (.len (t 31)),M 6 32]
def f104r7:LS:=[M 33 5,o 34 (.un .not (t 33))]
def f104r8:LS:=[M 35 6,D 36 35 1,M 6 36]
def f104r9:LS:=[M 37 0,M 38 0,K 39 38,A 40 11 39,L 41 40,o 42 (.ixs 1 (t 41) (i 2)),L 43 42,M 44 4,o 45 (.build [(.int .i64 0),(.string ⟨#[]⟩),(.string ⟨#[]⟩),(.string ⟨#[]⟩),(.int .i64 0)] [(0,1),(2,1),(4,1)] [(i 14),(t 43),(t 44)]),M 46 6,o 47 (.call 155 [(t 37),(t 45),(t 46)])]
def f104r10:LS:=[M 48 4,o 49 (.call 34 [(t 48),(i 10)]),o 50 (.call 158 [(t 49)]),q (.st 4 (t 2) (t 50))]
def f104:SCode:=(.j f104r0 (.j f104r1 (.j f104r2 (.j f104r3 (.j f104r4 (.j f104r5 (.j f104r6 (.seq (.j f104r7 (.cond (t 34) (.ops f104r8) .skip)) (.j f104r9 (.j f104r10 .ret))))))))))
theorem f104_calls:Sound Tryz.prog 104 51 f104 [.cn 2 4]:=sdo Tryz.func104 rfl (by kernel_rfl)
def f105r0:LS:=[o 2 (.new [(.int .i64 0),(.int .i64 0),(.string ⟨#[]⟩),(.slice none 0 0)])]
def f105r1:LS:=[M 3 0,o 4 (.call 157 [(t 3),(i 5),(i 1),(i 1)])]
def f105r2:LS:=[M 5 0,K 6 5,A 7 0 6,A 8 4 7,L 9 8,o 10 (.len (t 9)),o 11 (.call 156 [(t 10)]),q (.st 4 (t 2) (t 11))]
def f105:SCode:=(.j f105r0 (.j f105r1 (.j f105r2 .ret)))
theorem f105_calls:Sound Tryz.prog 105 12 f105 [.cn 2 4]:=sdo Tryz.func105 rfl (by kernel_rfl)
def f106r0:LS:=[o 2 (.new [(.int .i64 0),(.int .i64 0),(.string ⟨#[]⟩),(.slice none 0 0)])]
def f106r1:LS:=[M 7 0,o 8 (.call 157 [(t 7),(i 5),(i 2),(i 2)])]
def f106r2:LS:=[M 10 0,K 11 10,A 12 0 11,A 13 4 12,L 14 13,o 15 (.call 179 [(t 14),(.const (.slice none 0 0))]),M 9 15,X 16 9 0,X 17 9 1,M 3 16,M 4 17]
def f106r3:LS:=[M 19 3,M 20 0,K 21 20,A 22 11 21,L 23 22,o 24 (.ixs 1 (t 23) (i 1)),L 25 24,o 26 (.call 180 [(t 19),(t 25)]),M 18 26,X 27 18 0,X 28 18 1,M 5 27,M 6 28]
def f106r4:LS:=[M 29 6,o 30 (.un .not (t 29))]
def f106r5:LS:=[o 31 (.build [(.int .i64 0),(.int .i64 0),(.string ⟨#[]⟩),(.slice none 0 0)] [] []),q (.st 4 (t 2) (t 31))]
def f106r6:LS:=[M 32 5,o 33 (.call 156 [(t 32)]),q (.st 4 (t 2) (t 33))]
def f106:SCode:=(.j f106r0 (.j f106r1 (.j f106r2 (.j f106r3 (.seq (.j f106r4 (.k 30 f106r5)) (.j f106r6 .ret))))))
theorem f106_calls:Sound Tryz.prog 106 34 f106 [.cn 2 4]:=sdo Tryz.func106 rfl (by kernel_rfl)
def f107r0:LS:=[o 2 (.new [(.int .i64 0),(.int .i64 0),(.string ⟨#[]⟩),(.slice none 0 0)])]
def f107r1:LS:=[M 9 0,o 10 (.call 149 [(t 9),(i 3),(i 3)])]
def f107r2:LS:=[M 11 0,o 12 (.call 163 [(t 11),(i 1)]),M 13 0,o 14 (.call 163 [(t 13),(i 2)]),M 3 12,M 4 14]
def f107r3:LS:=[M 15 0,o 16 (.call 151 [(t 15),(i 5)])]
def f107r4:LS:=[M 18 0,K 19 18,A 20 0 19,A 21 4 20,L 22 21,o 23 (.len (t 22)),M 24 3,M 25 4,o 26 (.call 169 [(t 23),(t 24),(t 25)]),M 17 26,X 27 17 0,X 28 17 1,M 5 27,M 6 28]
def f107r5:LS:=[M 30 0,K 31 30,A 32 0 31,A 33 4 32,L 34 33,o 35 (.call 179 [(t 34),(.const (.slice none 0 0))]),M 29 35,X 36 29 0,X 37 29 1,M 7 36,M 8 37]
def f107r6:LS:=[M 38 7,M 39 5,M 40 6,o 41 (.call 182 [(t 38),(t 39),(t 40)]),o 42 (.call 181 [(t 41),(u 183)]),q (.st 4 (t 2) (t 42))]
def f107:SCode:=(.j f107r0 (.j f107r1 (.j f107r2 (.j f107r3 (.j f107r4 (.j f107r5 (.j f107r6 .ret)))))))
theorem f107_calls:Sound Tryz.prog 107 43 f107 [.cn 2 4]:=sdo Tryz.func107 rfl (by kernel_rfl)
def f108r0:LS:=[o 2 (.new [(.int .i64 0),(.int .i64 0),(.string ⟨#[]⟩),(.slice none 0 0)])]
def f108r1:LS:=[M 7 0,o 8 (.call 149 [(t 7),(i 3),(i 3)])]
def f108r2:LS:=[M 9 0,o 10 (.call 163 [(t 9),(i 1)]),M 11 0,o 12 (.call 163 [(t 11),(i 2)]),M 3 10,M 4 12]
def f108r3:LS:=[M 13 0,o 14 (.call 151 [(t 13),(i 5)])]
def f108r4:LS:=[M 16 0,K 17 16,A 18 0 17,A 19 4 18,L 20 19,o 21 (.call 179 [(t 20),(.const (.slice none 0 0))]),M 15 21,X 22 15 0,X 23 15 1,M 5 22,M 6 23]
def f108r5:LS:=[M 24 5,M 25 3,M 26 4,o 27 (.call 184 [(t 24),(t 25),(t 26)]),o 28 (.call 181 [(t 27),(u 183)]),q (.st 4 (t 2) (t 28))]
def f108:SCode:=(.j f108r0 (.j f108r1 (.j f108r2 (.j f108r3 (.j f108r4 (.j f108r5 .ret))))))
theorem f108_calls:Sound Tryz.prog 108 29 f108 [.cn 2 4]:=sdo Tryz.func108 rfl (by kernel_rfl)
def f149r0:LS:=[M 6 0,K 7 6,A 8 11 7,L 9 8,o 10 (.len (t 9)),M 11 1,o 12 (.cmp .geq (t 10) (t 11)),M 13 12,
 g 14 13 (.mv (t 0)),
 g 15 13 (.nilck (t 14)),
 g 16 13 (.fa 11 (t 15)),
 g 17 13 (.ld1 (t 16)),
 g 18 13 (.len (t 17)),
 g 19 13 (.mv (t 2)),
 g 20 13 (.cmp .leq (t 18) (t 19)),o 21 (.pick (t 13) (t 20) (b false)),o 22 (.call 150 [(t 21),(.const (.string ⟨#[69,82,82,32,97,114,103,115]⟩))])]
def f149r1:LS:=[M 23 0,M 24 0,K 25 24,A 26 11 25,L 27 26,o 28 (.ixs 1 (t 27) (i 0)),L 29 28,K 30 23,A 31 10 30,q (.st 1 (t 31) (t 29))]
def f149:SCode:=(.j f149r0 (.ops f149r1))
theorem f149_calls:Sound Tryz.prog 149 32 f149 []:=sdo Tryz.func149 rfl (by kernel_rfl)
def f150r0:LS:=[M 4 0,o 5 (.un .not (t 4))]
def f150r1:LS:=[M 6 1,o 7 (.build [(.string ⟨#[]⟩)] [(0,1)] [(t 6)]),o 8 (.mki 92 (t 7)),q (.pan (t 8))]
def f150:SCode:=(.j f150r0 (.cond (t 5) (.ops f150r1) .skip))
theorem f150_calls:Sound Tryz.prog 150 9 f150 []:=sdo Tryz.func150 rfl (by kernel_rfl)
def f151r0:LS:=[M 5 0,M 6 0,M 7 0,K 8 7,A 9 8 8,L 10 9,M 11 0,K 12 11,A 13 10 12,L 14 13,M 15 0,K 16 15,A 17 9 16,L 18 17,o 19 (.call 45 [(t 10),(t 14),(t 18)]),M 4 19,X 20 4 0,X 21 4 1,K 22 5,A 23 0 22,q (.st 7 (t 23) (t 20)),K 24 6,A 25 7 24,q (.st 1 (t 25) (t 21))]
def f151r1:LS:=[M 26 0,K 27 26,A 28 7 27,L 29 28,o 30 (.un .not (t 29)),M 31 30,
 n 32 31 (.mv (t 0)),
 n 33 31 (.nilck (t 32)),
 n 34 31 (.fa 0 (t 33)),
 n 35 31 (.fa 0 (t 34)),
 n 36 31 (.ld1 (t 35)),
 n 37 31 (.mv (t 1)),
 n 38 31 (.cmp .eql (t 36) (t 37)),o 39 (.pick (t 31) (b true) (t 38)),o 40 (.call 150 [(t 39),(.const (.string ⟨#[87,82,79,78,71,84,89,80,69]⟩))])]
def f151:SCode:=(.j f151r0 (.ops f151r1))
theorem f151_calls:Sound Tryz.prog 151 41 f151 []:=sdo Tryz.func151 rfl (by kernel_rfl)
def f152r0:LS:=[o 1 (.box (t 0)),o 2 (.mv (.const .nilFunc))]
def f152r1:LS:=[o 4 (.mkm),o 3 (.new [(.map none)]),q (.st 1 (t 3) (t 4))]
def f152r2:LS:=[o 5 (.fn 228 [] [(t 3),(t 1)]),M 2 5]
def f152:SCode:=(.j f152r0 (.j f152r1 (.j f152r2 .ret)))
theorem f152_calls:Sound Tryz.prog 152 6 f152 [.t 2]:=sdo Tryz.func152 rfl (by kernel_rfl)
def f153r0:LS:=[o 3 (.mv (b false))]
def f153r1:LS:=[L 7 1,M 8 0,o 9 (.call 154 [(t 7),(t 8)]),M 6 9,X 10 6 0,X 11 6 1,M 4 10,M 5 11]
def f153r2:LS:=[M 12 5,M 3 12]
def f153:SCode:=(.j f153r0 (.j f153r1 (.j f153r2 .ret)))
theorem f153_calls:Sound Tryz.prog 153 13 f153 [.t 3]:=sdo Tryz.func153 rfl (by kernel_rfl)
def f154r0:LS:=[o 3 (.box (t 1)),o 4 (.mv e),o 5 (.mv (b false))]
def f154r1:LS:=[M 7 0,K 8 7,A 9 0 8,A 10 2 9,L 11 10,o 12 (.fn 230 [] [(t 3)]),o 13 (.call 229 [(t 11),(t 12)]),M 6 13]
def f154r2:LS:=[M 14 6,o 15 (.cmp .lss (t 14) (i 0))]
def f154r3:LS:=[o 4 (.mv e),o 5 (.mv (b false))]
def f154r4:LS:=[M 16 0,K 17 16,A 18 0 17,A 19 2 18,L 20 19,M 21 6,G 22 2 20 21,A 23 1 22,L 24 23,M 4 24,o 5 (.mv (b true))]
def f154:SCode:=(.j f154r0 (.j f154r1 (.seq (.j f154r2 (.k 15 f154r3)) (.j f154r4 .ret))))
theorem f154_calls:Sound Tryz.prog 154 25 f154 [.t 4,.t 5]:=sdo Tryz.func154 rfl (by kernel_rfl)
def f155r0:LS:=[o 4 (.box (t 1))]
def f155r1:LS:=[M 6 2,o 7 (.cmp .leq (t 6) (i 65536)),M 8 7,
 g 9 8 (.mv (t 0)),
 g 10 8 (.nilck (t 9)),
 g 11 8 (.fa 10 (t 10)),
 g 12 8 (.ld1 (t 11)),
 g 13 8 (.lens (t 12)),
 g 14 8 (.cmp .leq (t 13) (i 1048576)),o 15 (.pick (t 8) (t 14) (b false)),M 16 15,
 g 17 16 (.fa 2 (t 4)),
 g 18 16 (.ld1 (t 17)),
 g 19 16 (.lens (t 18)),
 g 20 16 (.cmp .leq (t 19) (i 1048576)),o 21 (.pick (t 16) (t 20) (b false)),M 22 21,
 g 23 22 (.fa 3 (t 4)),
 g 24 22 (.ld1 (t 23)),
 g 25 22 (.lens (t 24)),
 g 26 22 (.cmp .leq (t 25) (i 1048576)),o 27 (.pick (t 22) (t 26) (b false)),o 28 (.call 150 [(t 27),(.const (.string ⟨#[69,82,82,32,108,111,110,103]⟩))])]
def f155r2:LS:=[M 29 0,K 30 29,A 31 12 30,L 32 31,o 33 (.len (t 32)),E 34 33 0]
def f155r3:LS:=[M 35 0,M 36 0,K 37 36,A 38 8 37,L 39 38,M 40 0,K 41 40,A 42 9 41,L 43 42,M 44 0,K 45 44,A 46 10 45,L 47 46,o 48 (.call 231 [(t 39),(t 43),(t 47)]),K 49 35,A 50 12 49,q (.st 1 (t 50) (t 48))]
def f155r4:LS:=[M 51 0,K 52 51,A 53 10 52,L 54 53,A 55 1 4,q (.st 1 (t 55) (t 54))]
def f155r5:LS:=[M 56 0,M 57 0,K 58 57,A 59 12 58,L 60 59,o 61 (.ldn 5 (t 4)),o 62 (.bslice [(.int .i64 0),(.string ⟨#[]⟩),(.string ⟨#[]⟩),(.string ⟨#[]⟩),(.int .i64 0)] 1 [(0,5)] [(t 61)]),o 63 (.app 5 64 [(.int .i64 0),(.string ⟨#[]⟩),(.string ⟨#[]⟩),(.string ⟨#[]⟩),(.int .i64 0)] (t 60) (t 62)),K 64 56,A 65 12 64,q (.st 1 (t 65) (t 63))]
def f155:SCode:=(.j f155r0 (.j f155r1 (.seq (.j f155r2 (.cond (t 34) (.ops f155r3) .skip)) (.j f155r4 (.ops f155r5)))))
theorem f155_calls:Sound Tryz.prog 155 66 f155 []:=sdo Tryz.func155 rfl (by kernel_rfl)
def f156r0:LS:=[o 2 (.new [(.int .i64 0),(.int .i64 0),(.string ⟨#[]⟩),(.slice none 0 0)])]
def f156r1:LS:=[M 3 0,o 4 (.build [(.int .i64 0),(.int .i64 0),(.string ⟨#[]⟩),(.slice none 0 0)] [(0,1),(1,1)] [(i 3),(t 3)]),q (.st 4 (t 2) (t 4))]
def f156:SCode:=(.j f156r0 (.j f156r1 .ret))
theorem f156_calls:Sound Tryz.prog 156 5 f156 [.cn 2 4]:=sdo Tryz.func156 rfl (by kernel_rfl)
def f157r0:LS:=[M 8 0,M 9 2,M 10 3,o 11 (.call 149 [(t 8),(t 9),(t 10)])]
def f157r1:LS:=[M 12 0,M 13 1,o 14 (.call 151 [(t 12),(t 13)])]
def f157:SCode:=(.j f157r0 (.ops f157r1))
theorem f157_calls:Sound Tryz.prog 157 15 f157 []:=sdo Tryz.func157 rfl (by kernel_rfl)
def f158r0:LS:=[o 2 (.new [(.int .i64 0),(.int .i64 0),(.string ⟨#[]⟩),(.slice none 0 0)])]
def f158r1:LS:=[M 3 0,o 4 (.build [(.int .i64 0),(.int .i64 0),(.string ⟨#[]⟩),(.slice none 0 0)] [(0,1),(2,1)] [(i 4),(t 3)]),q (.st 4 (t 2) (t 4))]
def f158:SCode:=(.j f158r0 (.j f158r1 .ret))
theorem f158_calls:Sound Tryz.prog 158 5 f158 [.cn 2 4]:=sdo Tryz.func158 rfl (by kernel_rfl)
def f159r0:LS:=[o 5 (.box (t 2)),o 6 (.new [(.int .i64 0),(.int .i64 0),(.string ⟨#[]⟩),(.slice none 0 0)])]
def f159r1:LS:=[I 7 0]
def f159r2:LS:=[o 11 (.fn 232 [] [(t 5)]),o 12 (.call 152 [(t 11)]),M 8 12]
def f159r3:LS:=[M 13 0,K 14 13,A 15 11 14,L 16 15,o 17 (.slc 1 (t 16) (some (i 1)) none),o 18 (.len (t 17)),I 19 0]
def f159r4:LS:=[o 20 (.cmp .lss (t 19) (t 18))]
def f159r5:LS:=[G 21 1 17 19,L 22 21,M 10 22]
def f159r6:LS:=[M 23 8,M 24 10,o 25 (.callv (t 23) [(t 24)])]
def f159r7:LS:=[M 26 7,D 27 26 1,M 7 27]
def f159r8:LS:=[M 28 0,M 29 1,M 30 10,o 31 (.build [(.int .i64 0),(.string ⟨#[]⟩),(.string ⟨#[]⟩),(.string ⟨#[]⟩),(.int .i64 0)] [(0,1),(2,1)] [(t 29),(t 30)]),o 32 (.call 233 [(t 28),(t 31)])]
def f159r9:LS:=[D 33 19 1,M 19 33]
def f159l10:SCode:=(.j f159r4 (.seq (.cond (t 20) .skip (.exit 0)) (.seq (.block 1 (.j f159r5 (.j f159r6 (.cond (t 25) (.j f159r7 (.ops f159r8)) .skip)))) (.ops f159r9))))
def f159r11:LS:=[M 34 7,o 35 (.call 156 [(t 34)]),q (.st 4 (t 6) (t 35))]
def f159:SCode:=(.j f159r0 (.j f159r1 (.j f159r2 (.seq (.j f159r3 (.block 0 (.loop f159l10))) (.j f159r11 .ret)))))
theorem f159_calls:Sound Tryz.prog 159 36 f159 [.cn 6 4]:=sdo Tryz.func159 rfl (by kernel_rfl)
def f160r0:LS:=[o 3 (.mv (b false))]
def f160r1:LS:=[L 7 1,M 8 0,o 9 (.call 154 [(t 7),(t 8)]),M 6 9,X 10 6 0,X 11 6 1,M 4 10,M 5 11]
def f160r2:LS:=[M 12 5,M 3 12]
def f160:SCode:=(.j f160r0 (.j f160r1 (.j f160r2 .ret)))
theorem f160_calls:Sound Tryz.prog 160 13 f160 [.t 3]:=sdo Tryz.func160 rfl (by kernel_rfl)
def f161r0:LS:=[o 4 (.new [(.int .i64 0),(.int .i64 0),(.string ⟨#[]⟩),(.slice none 0 0)])]
def f161r1:LS:=[o 10 (.build [(.int .i64 0),(.int .i64 0),(.string ⟨#[]⟩),(.slice none 0 0)] [(0,1)] [(i 5)]),o 5 (.new [(.int .i64 0),(.int .i64 0),(.string ⟨#[]⟩),(.slice none 0 0)]),q (.st 4 (t 5) (t 10))]
def f161r2:LS:=[M 11 0,o 12 (.len (t 11)),I 13 0]
def f161r3:LS:=[o 14 (.cmp .lss (t 13) (t 12))]
def f161r4:LS:=[G 15 2 11 13,o 16 (.ldn 2 (t 15)),o 7 (.new [(.string ⟨#[]⟩),(.string ⟨#[]⟩)]),q (.st 2 (t 7) (t 16))]
def f161r5:LS:=[M 17 1,o 18 (.ldn 2 (t 7)),o 19 (.callv (t 17) [(t 18)]),o 20 (.len (t 19)),I 21 0]
def f161r6:LS:=[o 22 (.cmp .lss (t 21) (t 20))]
def f161r7:LS:=[G 23 1 19 21,L 24 23,M 9 24]
def f161r8:LS:=[A 25 3 5,L 26 25,M 27 9,o 28 (.callq 158 [(t 27)]),o 29 (.bslice [(.int .i64 0),(.int .i64 0),(.string ⟨#[]⟩),(.slice none 0 0)] 1 [(0,4)] [(t 28)]),o 30 (.app 4 56 [(.int .i64 0),(.int .i64 0),(.string ⟨#[]⟩),(.slice none 0 0)] (t 26) (t 29)),A 31 3 5,q (.st 1 (t 31) (t 30))]
def f161r9:LS:=[D 32 21 1,M 21 32]
def f161l10:SCode:=(.j f161r6 (.seq (.cond (t 22) .skip (.exit 2)) (.seq (.block 3 (.j f161r7 (.ops f161r8))) (.ops f161r9))))
def f161r11:LS:=[D 33 13 1,M 13 33]
def f161l12:SCode:=(.j f161r3 (.seq (.cond (t 14) .skip (.exit 0)) (.seq (.block 1 (.j f161r4 (.j f161r5 (.block 2 (.loop f161l10))))) (.ops f161r11))))
def f161r13:LS:=[o 34 (.ldn 4 (t 5)),q (.st 4 (t 4) (t 34))]
def f161:SCode:=(.j f161r0 (.j f161r1 (.seq (.j f161r2 (.block 0 (.loop f161l12))) (.j f161r13 .ret))))
theorem f161_calls:Sound Tryz.prog 161 35 f161 [.cn 4 4]:=sdo Tryz.func161 rfl (by kernel_rfl)
def f162r0:LS:=[o 1 (.box (t 0)),o 2 (.mv (.const (.slice none 0 0)))]
def f162r1:LS:=[A 3 0 1,L 4 3,A 5 1 1,L 6 5,o 7 (.bslice [(.string ⟨#[]⟩),(.string ⟨#[]⟩)] 2 [(0,1),(1,1)] [(t 4),(t 6)]),M 2 7]
def f162:SCode:=(.j f162r0 (.j f162r1 .ret))
theorem f162_calls:Sound Tryz.prog 162 8 f162 [.t 2]:=sdo Tryz.func162 rfl (by kernel_rfl)
def f163r0:LS:=[I 4 0]
def f163r1:LS:=[M 8 0,K 9 8,A 10 11 9,L 11 10,M 12 1,G 13 1 11 12,L 14 13,o 15 (.call 164 [(t 14)]),M 7 15,X 16 7 0,X 17 7 1,M 5 16,M 6 17]
def f163r2:LS:=[M 18 6,o 19 (.call 150 [(t 18),(.const (.string ⟨#[69,82,82,32,110,117,109,98,101,114]⟩))])]
def f163r3:LS:=[M 20 5,M 4 20]
def f163:SCode:=(.j f163r0 (.j f163r1 (.j f163r2 (.j f163r3 .ret))))
theorem f163_calls:Sound Tryz.prog 163 21 f163 [.t 4]:=sdo Tryz.func163 rfl (by kernel_rfl)
def f165r0:LS:=[I 4 0]
def f165r1:LS:=[M 5 1,o 6 (.cmp .geq (t 5) (i 0)),M 7 6,
 g 8 7 (.mv (t 0)),
 g 9 7 (.mv (t 1)),
 g 10 7 (.ar .sub (i 9223372036854775807) (t 9)),
 g 11 7 (.cmp .leq (t 8) (t 10)),o 12 (.pick (t 7) (t 11) (b false)),M 13 12,
 n 14 13 (.mv (t 1)),
 n 15 13 (.cmp .lss (t 14) (i 0)),
 n 16 13 (.mv (t 15)),
 g 17 16 (.mv (t 0)),
 g 18 16 (.mv (t 1)),
 g 19 16 (.ar .sub (i (-9223372036854775808)) (t 18)),
 g 20 16 (.cmp .geq (t 17) (t 19)),
 n 21 13 (.pick (t 16) (t 20) (b false)),o 22 (.pick (t 13) (b true) (t 21)),o 23 (.call 150 [(t 22),(.const (.string ⟨#[69,82,82,32,111,118,101,114]⟩))])]
def f165r2:LS:=[M 24 0,M 25 1,o 26 (.ar .add (t 24) (t 25)),M 4 26]
def f165:SCode:=(.j f165r0 (.j f165r1 (.j f165r2 .ret)))
theorem f165_calls:Sound Tryz.prog 165 27 f165 [.t 4]:=sdo Tryz.func165 rfl (by kernel_rfl)
def f166r0:LS:=[o 4 (.new [(.int .i64 0),(.int .i64 0),(.string ⟨#[]⟩),(.slice none 0 0)])]
def f166r1:LS:=[M 7 0,o 8 (.call 157 [(t 7),(i 3),(i 2),(i 65536)])]
def f166r2:LS:=[M 9 0,K 10 9,A 11 11 10,L 12 11,o 13 (.slc 1 (t 12) (some (i 1)) none),o 14 (.len (t 13)),I 15 0]
def f166r3:LS:=[o 16 (.cmp .lss (t 15) (t 14))]
def f166r4:LS:=[M 17 15,G 18 1 13 15,L 19 18,M 5 17,M 6 19]
def f166r5:LS:=[M 20 0,M 21 1,M 22 6,o 23 (.build [(.int .i64 0),(.string ⟨#[]⟩),(.string ⟨#[]⟩),(.string ⟨#[]⟩),(.int .i64 0)] [(0,1),(3,1)] [(t 21),(t 22)]),M 24 0,K 25 24,A 26 0 25,A 27 3 26,L 28 27,o 29 (.len (t 28)),M 30 5,o 31 (.ar .add (t 29) (t 30)),D 32 31 1,o 33 (.call 155 [(t 20),(t 23),(t 32)])]
def f166r6:LS:=[D 34 15 1,M 15 34]
def f166l7:SCode:=(.j f166r3 (.seq (.cond (t 16) .skip (.exit 0)) (.seq (.block 1 (.j f166r4 (.ops f166r5))) (.ops f166r6))))
def f166r8:LS:=[M 35 0,K 36 35,A 37 0 36,A 38 3 37,L 39 38,o 40 (.len (t 39)),M 41 0,K 42 41,A 43 11 42,L 44 43,o 45 (.len (t 44)),o 46 (.ar .add (t 40) (t 45)),o 47 (.ar .sub (t 46) (i 1)),o 48 (.call 156 [(t 47)]),q (.st 4 (t 4) (t 48))]
def f166:SCode:=(.j f166r0 (.j f166r1 (.seq (.j f166r2 (.block 0 (.loop f166l7))) (.j f166r8 .ret))))
theorem f166_calls:Sound Tryz.prog 166 49 f166 [.cn 4 4]:=sdo Tryz.func166 rfl (by kernel_rfl)
def f167r0:LS:=[o 6 (.new [(.int .i64 0),(.int .i64 0),(.string ⟨#[]⟩),(.slice none 0 0)])]
def f167r1:LS:=[M 9 0,o 10 (.call 157 [(t 9),(i 3),(i 1),(i 1)])]
def f167r2:LS:=[M 12 0,K 13 12,A 14 0 13,A 15 3 14,L 16 15,o 17 (.len (t 16)),M 18 2,o 19 (.call 168 [(t 17),(t 18)]),M 11 19,X 20 11 0,X 21 11 1,M 7 20,M 8 21]
def f167r3:LS:=[M 22 8,o 23 (.un .not (t 22))]
def f167r4:LS:=[o 24 (.build [(.int .i64 0),(.int .i64 0),(.string ⟨#[]⟩),(.slice none 0 0)] [] []),q (.st 4 (t 6) (t 24))]
def f167r5:LS:=[M 25 0,M 26 1,o 27 (.build [(.int .i64 0),(.string ⟨#[]⟩),(.string ⟨#[]⟩),(.string ⟨#[]⟩),(.int .i64 0)] [(0,1)] [(t 26)]),o 28 (.call 233 [(t 25),(t 27)])]
def f167r6:LS:=[M 29 0,K 30 29,A 31 0 30,A 32 3 31,L 33 32,M 34 7,G 35 1 33 34,L 36 35,o 37 (.call 158 [(t 36)]),q (.st 4 (t 6) (t 37))]
def f167:SCode:=(.j f167r0 (.j f167r1 (.j f167r2 (.seq (.j f167r3 (.k 23 f167r4)) (.j f167r5 (.j f167r6 .ret))))))
theorem f167_calls:Sound Tryz.prog 167 38 f167 [.cn 6 4]:=sdo Tryz.func167 rfl (by kernel_rfl)
def f168r0:LS:=[I 4 0,o 5 (.mv (b false))]
def f168r1:LS:=[M 6 1,o 7 (.cmp .lss (t 6) (i 0))]
def f168r2:LS:=[M 8 1,M 9 0,o 10 (.mx (t 9) (i 0)),o 11 (.ar .add (t 8) (t 10)),M 1 11]
def f168r3:LS:=[M 12 1,o 13 (.cmp .lss (t 12) (i 0)),M 14 13,
 n 15 14 (.mv (t 1)),
 n 16 14 (.mv (t 0)),
 n 17 14 (.cmp .geq (t 15) (t 16)),o 18 (.pick (t 14) (b true) (t 17))]
def f168r4:LS:=[I 4 0,o 5 (.mv (b false))]
def f168r5:LS:=[M 19 1,M 4 19,o 5 (.mv (b true))]
def f168:SCode:=(.j f168r0 (.seq (.j f168r1 (.cond (t 7) (.ops f168r2) .skip)) (.seq (.j f168r3 (.k 18 f168r4)) (.j f168r5 .ret))))
theorem f168_calls:Sound Tryz.prog 168 20 f168 [.t 4,.t 5]:=sdo Tryz.func168 rfl (by kernel_rfl)
def f169r0:LS:=[I 6 0,I 7 0]
def f169r1:LS:=[M 9 0,o 10 (.cmp .lss (t 9) (i 1))]
def f169r2:LS:=[I 6 0,I 7 0]
def f169r3:LS:=[M 11 0,M 8 11]
def f169r4:LS:=[M 12 1,o 13 (.cmp .lss (t 12) (i 0))]
def f169r5:LS:=[M 14 1,M 15 8,o 16 (.ar .add (t 14) (t 15)),o 17 (.mx (i 0) (t 16)),M 1 17]
def f169r6:LS:=[M 18 2,o 19 (.cmp .lss (t 18) (i 0))]
def f169r7:LS:=[M 20 2,M 21 8,o 22 (.ar .add (t 20) (t 21)),M 2 22]
def f169r8:LS:=[M 23 2,M 24 8,o 25 (.ar .sub (t 24) (i 1)),o 26 (.mn (t 23) (t 25)),M 2 26]
def f169r9:LS:=[M 27 1,M 28 2,o 29 (.cmp .gtr (t 27) (t 28))]
def f169r10:LS:=[I 6 0,I 7 0]
def f169r11:LS:=[M 30 1,M 31 2,D 32 31 1,M 6 30,M 7 32]
def f169:SCode:=(.j f169r0 (.seq (.j f169r1 (.k 10 f169r2)) (.j f169r3 (.seq (.j f169r4 (.cond (t 13) (.ops f169r5) .skip)) (.seq (.j f169r6 (.cond (t 19) (.ops f169r7) .skip)) (.j f169r8 (.seq (.j f169r9 (.k 29 f169r10)) (.j f169r11 .ret))))))))
theorem f169_calls:Sound Tryz.prog 169 33 f169 [.t 6,.t 7]:=sdo Tryz.func169 rfl (by kernel_rfl)
def f170r0:LS:=[o 4 (.new [(.int .i64 0),(.int .i64 0),(.string ⟨#[]⟩),(.slice none 0 0)])]
def f170r1:LS:=[o 10 (.build [(.int .i64 0),(.int .i64 0),(.string ⟨#[]⟩),(.slice none 0 0)] [(0,1)] [(i 5)]),o 5 (.new [(.int .i64 0),(.int .i64 0),(.string ⟨#[]⟩),(.slice none 0 0)]),q (.st 4 (t 5) (t 10))]
def f170r2:LS:=[M 11 0,o 12 (.len (t 11)),I 13 0]
def f170r3:LS:=[o 14 (.cmp .lss (t 13) (t 12))]
def f170r4:LS:=[G 15 1 11 13,L 16 15,M 7 16]
def f170r5:LS:=[M 17 1,M 18 7,o 19 (.callv (t 17) [(t 18)]),o 20 (.len (t 19)),I 21 0]
def f170r6:LS:=[o 22 (.cmp .lss (t 21) (t 20))]
def f170r7:LS:=[G 23 1 19 21,L 24 23,M 9 24]
def f170r8:LS:=[A 25 3 5,L 26 25,M 27 9,o 28 (.callq 158 [(t 27)]),o 29 (.bslice [(.int .i64 0),(.int .i64 0),(.string ⟨#[]⟩),(.slice none 0 0)] 1 [(0,4)] [(t 28)]),o 30 (.app 4 56 [(.int .i64 0),(.int .i64 0),(.string ⟨#[]⟩),(.slice none 0 0)] (t 26) (t 29)),A 31 3 5,q (.st 1 (t 31) (t 30))]
def f170r9:LS:=[D 32 21 1,M 21 32]
def f170l10:SCode:=(.j f170r6 (.seq (.cond (t 22) .skip (.exit 2)) (.seq (.block 3 (.j f170r7 (.ops f170r8))) (.ops f170r9))))
def f170r11:LS:=[D 33 13 1,M 13 33]
def f170l12:SCode:=(.j f170r3 (.seq (.cond (t 14) .skip (.exit 0)) (.seq (.block 1 (.j f170r4 (.j f170r5 (.block 2 (.loop f170l10))))) (.ops f170r11))))
def f170r13:LS:=[o 34 (.ldn 4 (t 5)),q (.st 4 (t 4) (t 34))]
def f170:SCode:=(.j f170r0 (.j f170r1 (.seq (.j f170r2 (.block 0 (.loop f170l12))) (.j f170r13 .ret))))
theorem f170_calls:Sound Tryz.prog 170 35 f170 [.cn 4 4]:=sdo Tryz.func170 rfl (by kernel_rfl)
def f171r0:LS:=[o 2 (.mv (.const (.slice none 0 0)))]
def f171r1:LS:=[M 3 0,o 4 (.bslice [(.string ⟨#[]⟩)] 1 [(0,1)] [(t 3)]),M 2 4]
def f171:SCode:=(.j f171r0 (.j f171r1 .ret))
theorem f171_calls:Sound Tryz.prog 171 5 f171 [.t 2]:=sdo Tryz.func171 rfl (by kernel_rfl)
def f172r0:LS:=[o 4 (.mv (b false))]
def f172r1:LS:=[M 8 0,K 9 8,A 10 0 9,A 11 3 10,L 12 11,M 13 1,o 14 (.call 235 [(t 12),(t 13)]),M 7 14,X 15 7 0,X 16 7 1,M 5 15,M 6 16]
def f172r2:LS:=[M 17 6,M 4 17]
def f172:SCode:=(.j f172r0 (.j f172r1 (.j f172r2 .ret)))
theorem f172_calls:Sound Tryz.prog 172 18 f172 [.t 4]:=sdo Tryz.func172 rfl (by kernel_rfl)
def f173r0:LS:=[o 2 (.new [(.int .i64 0),(.int .i64 0),(.string ⟨#[]⟩),(.slice none 0 0)])]
def f173r1:LS:=[M 3 0]
def f173r2:LS:=[o 4 (.call 156 [(i 1)]),q (.st 4 (t 2) (t 4))]
def f173r3:LS:=[o 5 (.call 156 [(i 0)]),q (.st 4 (t 2) (t 5))]
def f173:SCode:=(.j f173r0 (.seq (.j f173r1 (.k 3 f173r2)) (.j f173r3 .ret)))
theorem f173_calls:Sound Tryz.prog 173 6 f173 [.cn 2 4]:=sdo Tryz.func173 rfl (by kernel_rfl)
def f175r0:LS:=[M 5 1,M 4 5]
def f175r1:LS:=[M 6 4,M 7 0,K 8 7,A 9 11 8,L 10 9,o 11 (.len (t 10)),o 12 (.cmp .lss (t 6) (t 11))]
def f175r2:LS:=[M 15 0,M 16 4,o 17 (.call 163 [(t 15),(t 16)])]
def f175r3:LS:=[M 13 4,D 14 13 2,M 4 14]
def f175l4:SCode:=(.seq (.j f175r1 (.cond (t 12) .skip (.exit 0))) (.seq (.block 1 (.ops f175r2)) (.ops f175r3)))
def f175:SCode:=(.j f175r0 (.block 0 (.loop f175l4)))
theorem f175_calls:Sound Tryz.prog 175 18 f175 []:=sdo Tryz.func175 rfl (by kernel_rfl)
def f176r0:LS:=[o 3 (.mv (b false))]
def f176r1:LS:=[L 7 1,M 8 0,o 9 (.call 177 [(t 7),(t 8)]),M 6 9,X 10 6 0,X 11 6 1,M 4 10,M 5 11]
def f176r2:LS:=[M 12 5,M 3 12]
def f176:SCode:=(.j f176r0 (.j f176r1 (.j f176r2 .ret)))
theorem f176_calls:Sound Tryz.prog 176 13 f176 [.t 3]:=sdo Tryz.func176 rfl (by kernel_rfl)
def f177r0:LS:=[I 4 0,o 5 (.mv (b false))]
def f177r1:LS:=[M 9 0,K 10 9,A 11 0 10,A 12 4 11,L 13 12,o 14 (.call 179 [(t 13),(.const (.slice none 0 0))]),M 8 14,X 15 8 0,X 16 8 1,M 6 15,M 7 16]
def f177r2:LS:=[M 17 6,M 18 1,o 19 (.call 237 [(t 17),(t 18)]),X 20 19 0,X 21 19 1,M 4 20,M 5 21]
def f177:SCode:=(.j f177r0 (.j f177r1 (.j f177r2 .ret)))
theorem f177_calls:Sound Tryz.prog 177 22 f177 [.t 4,.t 5]:=sdo Tryz.func177 rfl (by kernel_rfl)
def f178r0:LS:=[o 3 (.mv (b false))]
def f178r1:LS:=[L 7 1,M 8 0,o 9 (.call 177 [(t 7),(t 8)]),M 6 9,X 10 6 0,X 11 6 1,M 4 10,M 5 11]
def f178r2:LS:=[M 12 5,M 3 12]
def f178:SCode:=(.j f178r0 (.j f178r1 (.j f178r2 .ret)))
theorem f178_calls:Sound Tryz.prog 178 13 f178 [.t 3]:=sdo Tryz.func178 rfl (by kernel_rfl)
def f181r0:LS:=[o 4 (.new [(.int .i64 0),(.int .i64 0),(.string ⟨#[]⟩),(.slice none 0 0)])]
def f181r1:LS:=[o 10 (.build [(.int .i64 0),(.int .i64 0),(.string ⟨#[]⟩),(.slice none 0 0)] [(0,1)] [(i 5)]),o 5 (.new [(.int .i64 0),(.int .i64 0),(.string ⟨#[]⟩),(.slice none 0 0)]),q (.st 4 (t 5) (t 10))]
def f181r2:LS:=[M 11 0,o 12 (.len (t 11)),I 13 0]
def f181r3:LS:=[o 14 (.cmp .lss (t 13) (t 12))]
def f181r4:LS:=[G 15 2 11 13,o 16 (.ldn 2 (t 15)),o 7 (.new [(.string ⟨#[]⟩),(.int .i64 0)]),q (.st 2 (t 7) (t 16))]
def f181r5:LS:=[M 17 1,o 18 (.ldn 2 (t 7)),o 19 (.callv (t 17) [(t 18)]),o 20 (.len (t 19)),I 21 0]
def f181r6:LS:=[o 22 (.cmp .lss (t 21) (t 20))]
def f181r7:LS:=[G 23 1 19 21,L 24 23,M 9 24]
def f181r8:LS:=[A 25 3 5,L 26 25,M 27 9,o 28 (.callq 158 [(t 27)]),o 29 (.bslice [(.int .i64 0),(.int .i64 0),(.string ⟨#[]⟩),(.slice none 0 0)] 1 [(0,4)] [(t 28)]),o 30 (.app 4 56 [(.int .i64 0),(.int .i64 0),(.string ⟨#[]⟩),(.slice none 0 0)] (t 26) (t 29)),A 31 3 5,q (.st 1 (t 31) (t 30))]
def f181r9:LS:=[D 32 21 1,M 21 32]
def f181l10:SCode:=(.j f181r6 (.seq (.cond (t 22) .skip (.exit 2)) (.seq (.block 3 (.j f181r7 (.ops f181r8))) (.ops f181r9))))
def f181r11:LS:=[D 33 13 1,M 13 33]
def f181l12:SCode:=(.j f181r3 (.seq (.cond (t 14) .skip (.exit 0)) (.seq (.block 1 (.j f181r4 (.j f181r5 (.block 2 (.loop f181l10))))) (.ops f181r11))))
def f181r13:LS:=[o 34 (.ldn 4 (t 5)),q (.st 4 (t 4) (t 34))]
def f181:SCode:=(.j f181r0 (.j f181r1 (.seq (.j f181r2 (.block 0 (.loop f181l12))) (.j f181r13 .ret))))
theorem f181_calls:Sound Tryz.prog 181 35 f181 [.cn 4 4]:=sdo Tryz.func181 rfl (by kernel_rfl)
def f183r0:LS:=[o 1 (.box (t 0)),o 2 (.mv (.const (.slice none 0 0)))]
def f183r1:LS:=[A 3 0 1,L 4 3,o 5 (.bslice [(.string ⟨#[]⟩)] 1 [(0,1)] [(t 4)]),M 2 5]
def f183:SCode:=(.j f183r0 (.j f183r1 .ret))
theorem f183_calls:Sound Tryz.prog 183 6 f183 [.t 2]:=sdo Tryz.func183 rfl (by kernel_rfl)
def f228r0:LS:=[o 4 (.mv (b false))]
def f228r1:LS:=[L 5 1,M 6 0,o 7 (.look .str (.int .i64 0) false (t 5) (t 6)),D 8 7 1,q (.mup .str (t 5) (t 6) (t 8))]
def f228r2:LS:=[L 9 1,M 10 0,o 11 (.look .str (.int .i64 0) false (t 9) (t 10)),E 12 11 1,M 13 12,
 g 14 13 (.ld1 (t 2)),
 g 15 13 (.mv (t 0)),
 g 16 13 (.callv (t 14) [(t 15)]),
 g 17 13 (.un .not (t 16)),o 18 (.pick (t 13) (t 17) (b false)),M 4 18]
def f228:SCode:=(.j f228r0 (.j f228r1 (.j f228r2 .ret)))
theorem f228_calls:Sound Tryz.prog 228 19 f228 [.t 4]:=sdo Tryz.func228 rfl (by kernel_rfl)
def f230r0:LS:=[o 2 (.box (t 0)),o 3 (.mv (b false))]
def f230r1:LS:=[A 4 0 2,L 5 4,L 6 1,o 7 (.cmp .eql (t 5) (t 6)),M 3 7]
def f230:SCode:=(.j f230r0 (.j f230r1 .ret))
theorem f230_calls:Sound Tryz.prog 230 8 f230 [.t 3]:=sdo Tryz.func230 rfl (by kernel_rfl)
def f232r0:LS:=[o 3 (.mv (b false))]
def f232r1:LS:=[L 4 1,M 5 0,o 6 (.callv (t 4) [(t 5)]),o 7 (.un .not (t 6)),M 3 7]
def f232:SCode:=(.j f232r0 (.j f232r1 .ret))
theorem f232_calls:Sound Tryz.prog 232 8 f232 [.t 3]:=sdo Tryz.func232 rfl (by kernel_rfl)
def f233r0:LS:=[o 3 (.box (t 1))]
def f233r1:LS:=[M 4 0,K 5 4,A 6 10 5,L 7 6,A 8 1 3,q (.st 1 (t 8) (t 7))]
def f233r2:LS:=[M 9 0,M 10 0,K 11 10,A 12 12 11,L 13 12,o 14 (.ldn 5 (t 3)),o 15 (.bslice [(.int .i64 0),(.string ⟨#[]⟩),(.string ⟨#[]⟩),(.string ⟨#[]⟩),(.int .i64 0)] 1 [(0,5)] [(t 14)]),o 16 (.app 5 64 [(.int .i64 0),(.string ⟨#[]⟩),(.string ⟨#[]⟩),(.string ⟨#[]⟩),(.int .i64 0)] (t 13) (t 15)),K 17 9,A 18 12 17,q (.st 1 (t 18) (t 16))]
def f233:SCode:=(.j f233r0 (.j f233r1 (.ops f233r2)))
theorem f233_calls:Sound Tryz.prog 233 19 f233 []:=sdo Tryz.func233 rfl (by kernel_rfl)
end Go.Proofs.YtjnijlnmbjjgpaaGreatDoor.C
set_option maxRecDepth 100000
namespace Go.Proofs.YtjnijlnmbjjgpaaGreatDoor.C
open Go Go.Sx Go.Sx.S
def f13r0:LS:=[o 0 (.mv (b false))]
def f13r1:LS:=[o 5 (.call 16 []),M 1 5]
def f13r2:LS:=[M 7 1,o 8 (.bslice [(.string ⟨#[]⟩),(.string ⟨#[]⟩),(.string ⟨#[]⟩)] 3 [(0,1),(1,1),(2,1)] [(.const (.string ⟨#[115,97,100,100]⟩)),(.const (.string ⟨#[97]⟩)),(.const (.string ⟨#[109]⟩))]),o 9 (.call 20 [(t 7),(i 0),(t 8)]),M 6 9,X 10 6 0,X 11 6 1,X 12 6 2,o 2 (.new [(.int .i64 0),(.int .i64 0),(.string ⟨#[]⟩),(.slice none 0 0)]),q (.st 4 (t 2) (t 10)),M 3 11,M 4 12]
def f13r3:LS:=[M 13 4,M 14 13,
 g 15 14 (.fa 0 (t 2)),
 g 16 14 (.ld1 (t 15)),
 g 17 14 (.cmp .eql (t 16) (i 3)),o 18 (.pick (t 14) (t 17) (b false)),M 19 18,
 g 20 19 (.fa 1 (t 2)),
 g 21 19 (.ld1 (t 20)),
 g 22 19 (.cmp .eql (t 21) (i 1)),o 23 (.pick (t 19) (t 22) (b false)),M 24 23,
 g 25 24 (.mv (t 3)),
 g 26 24 (.len (t 25)),
 g 27 24 (.cmp .eql (t 26) (i 1)),o 28 (.pick (t 24) (t 27) (b false)),M 29 28,
 g 30 29 (.mv (t 3)),
 g 31 29 (.ixs 5 (t 30) (i 0)),
 g 32 29 (.fa 0 (t 31)),
 g 33 29 (.ld1 (t 32)),
 g 34 29 (.cmp .eql (t 33) (i 12)),o 35 (.pick (t 29) (t 34) (b false)),M 36 35,
 g 37 36 (.mv (t 3)),
 g 38 36 (.ixs 5 (t 37) (i 0)),
 g 39 36 (.fa 2 (t 38)),
 g 40 36 (.ld1 (t 39)),
 g 41 36 (.cmp .eql (t 40) (.const (.string ⟨#[109]⟩))),o 42 (.pick (t 36) (t 41) (b false)),M 0 42]
def f13:SCode:=(.j f13r0 (.j f13r1 (.j f13r2 (.j f13r3 .ret))))
theorem f13_calls:Sound Tryz.prog 13 43 f13 [.t 0]:=sdo Tryz.func13 rfl (by kernel_rfl)
def f20r0:LS:=[o 6 (.new [(.int .i64 0),(.int .i64 0),(.string ⟨#[]⟩),(.slice none 0 0)]),o 7 (.new [(.slice none 0 0)]),o 8 (.mv (b false))]
def f20r1:LS:=[M 11 2,o 12 (.len (t 11)),E 13 12 0,M 14 13,
 n 15 14 (.mv (t 0)),
 n 16 14 (.call 37 [(t 15),(.const (.pointer none))]),o 17 (.pick (t 14) (b true) (t 16))]
def f20r2:LS:=[o 18 (.build [(.int .i64 0),(.int .i64 0),(.string ⟨#[]⟩),(.slice none 0 0)] [] []),q (.st 4 (t 6) (t 18)),q (.st 1 (t 7) (.const (.slice none 0 0))),o 8 (.mv (b false))]
def f20r3:LS:=[M 21 2,o 22 (.ixs 1 (t 21) (i 0)),L 23 22,o 20 (.callq 38 []),o 24 (.callq 39 [(t 23)]),o 25 (.look .str .nilFunc true (t 20) (t 24)),M 19 25,X 26 19 0,X 27 19 1,M 9 26,M 8 27]
def f20r4:LS:=[M 28 8,o 29 (.un .not (t 28))]
def f20r5:LS:=[o 30 (.build [(.int .i64 0),(.int .i64 0),(.string ⟨#[]⟩),(.slice none 0 0)] [] []),q (.st 4 (t 6) (t 30)),q (.st 1 (t 7) (.const (.slice none 0 0))),o 8 (.mv (b false))]
def f20r6:LS:=[o 31 (.fn 40 [] [(t 6),(t 7)])]
def f20r7:LS:=[M 32 0,M 33 1,M 34 2,o 35 (.slc 1 (t 34) (some (i 1)) none),o 36 (.build [(.int .i64 0),(.string ⟨#[]⟩),(.slice none 0 0),(.slice none 0 0),(.slice none 0 0),(.bool false),(.int .i64 0),(.bool false),(.pointer none),(.int .i64 0),(.string ⟨#[]⟩),(.slice none 0 0),(.slice none 0 0)] [(8,1),(9,1),(11,1)] [(t 32),(t 33),(t 35)]),o 37 (.box (t 36)),M 10 37]
def f20r8:LS:=[M 38 9,M 39 10,o 40 (.callv (t 38) [(t 39)]),q (.st 4 (t 6) (t 40))]
def f20p9:LS:=[o 41 (.ldn 4 (t 6)),M 42 10,K 43 42,A 44 12 43]
def f20r9:LS:=[L 45 44,q (.st 4 (t 6) (t 41)),q (.st 1 (t 7) (t 45)),o 8 (.mv (b true))]
def f20s9:LS:=[q (.st 4 (t 6) (t 41)),L 45 44,q (.st 1 (t 7) (t 45)),o 8 (.mv (b true))]
def f20:SCode:=(.j f20r0 (.seq (.j f20r1 (.k 17 f20r2)) (.j f20r3 (.seq (.j f20r4 (.k 29 f20r5)) (.seq (.dfr f20r6 none (t 31) []) (.j f20r7 (.j f20r8 (.seq (.two f20p9 f20r9 f20s9) .ret))))))))
def f38r0:LS:=[o 0 (.mv (.const (.map none)))]
def f38r1:LS:=[o 1 (.mkm),q (.mup .str (t 1) (.const (.string ⟨#[72,83,69,84]⟩)) (u 81)),q (.mup .str (t 1) (.const (.string ⟨#[72,71,69,84]⟩)) (u 82)),q (.mup .str (t 1) (.const (.string ⟨#[72,68,69,76]⟩)) (u 83)),q (.mup .str (t 1) (.const (.string ⟨#[72,76,69,78]⟩)) (u 84)),q (.mup .str (t 1) (.const (.string ⟨#[72,71,69,84,65,76,76]⟩)) (u 85)),q (.mup .str (t 1) (.const (.string ⟨#[72,73,78,67,82,66,89]⟩)) (u 86)),q (.mup .str (t 1) (.const (.string ⟨#[76,80,85,83,72]⟩)) (u 87)),q (.mup .str (t 1) (.const (.string ⟨#[82,80,85,83,72]⟩)) (u 88)),q (.mup .str (t 1) (.const (.string ⟨#[76,80,79,80]⟩)) (u 89)),q (.mup .str (t 1) (.const (.string ⟨#[82,80,79,80]⟩)) (u 90)),q (.mup .str (t 1) (.const (.string ⟨#[76,76,69,78]⟩)) (u 91)),q (.mup .str (t 1) (.const (.string ⟨#[76,73,78,68,69,88]⟩)) (u 92)),q (.mup .str (t 1) (.const (.string ⟨#[76,82,65,78,71,69]⟩)) (u 93)),q (.mup .str (t 1) (.const (.string ⟨#[76,83,69,84]⟩)) (u 94)),q (.mup .str (t 1) (.const (.string ⟨#[83,65,68,68]⟩)) (u 95)),q (.mup .str (t 1) (.const (.string ⟨#[83,82,69,77]⟩)) (u 96)),q (.mup .str (t 1) (.const (.string ⟨#[83,73,83,77,69,77,66,69,82]⟩)) (u 97)),q (.mup .str (t 1) (.const (.string ⟨#[83,67,65,82,68]⟩)) (u 98)),q (.mup .str (t 1) (.const (.string ⟨#[83,77,69,77,66,69,82,83]⟩)) (u 99)),q (.mup .str (t 1) (.const (.string ⟨#[83,73,78,84,69,82]⟩)) (u 100)),q (.mup .str (t 1) (.const (.string ⟨#[90,65,68,68]⟩)) (u 101)),q (.mup .str (t 1) (.const (.string ⟨#[90,82,69,77]⟩)) (u 102)),q (.mup .str (t 1) (.const (.string ⟨#[90,83,67,79,82,69]⟩)) (u 103)),q (.mup .str (t 1) (.const (.string ⟨#[90,73,78,67,82,66,89]⟩)) (u 104)),q (.mup .str (t 1) (.const (.string ⟨#[90,67,65,82,68]⟩)) (u 105)),q (.mup .str (t 1) (.const (.string ⟨#[90,82,65,78,75]⟩)) (u 106)),q (.mup .str (t 1) (.const (.string ⟨#[90,82,65,78,71,69]⟩)) (u 107)),q (.mup .str (t 1) (.const (.string ⟨#[90,82,65,78,71,69,66,89,83,67,79,82,69]⟩)) (u 108)),M 2 1,M 0 2]
def f38:SCode:=(.j f38r0 (.j f38r1 .ret))
theorem f38_calls:Sound Tryz.prog 38 3 f38 [.t 0]:=sdo Tryz.func38 rfl (by kernel_rfl)
def f39r0:LS:=[o 2 (.mv e)]
def f39r1:LS:=[M 6 0,o 7 (.byts (t 6)),M 3 7]
def f39r2:LS:=[M 8 3,o 9 (.len (t 8)),I 10 0]
def f39r3:LS:=[o 11 (.cmp .lss (t 10) (t 9))]
def f39r4:LS:=[M 12 10,G 13 1 8 10,L 14 13,M 4 12,M 5 14]
def f39r5:LS:=[M 15 5,o 16 (.cmp .geq (t 15) (.const (.int .u8 97))),M 17 16,
 g 18 17 (.mv (t 5)),
 g 19 17 (.cmp .leq (t 18) (.const (.int .u8 122))),o 20 (.pick (t 17) (t 19) (b false))]
def f39r6:LS:=[M 21 3,M 22 4,M 23 5,o 24 (.ar .sub (t 23) (.const (.int .u8 97))),o 25 (.ar .add (t 24) (.const (.int .u8 65))),G 26 1 21 22,q (.stb (t 26) (t 25))]
def f39r7:LS:=[D 27 10 1,M 10 27]
def f39l8:SCode:=(.j f39r3 (.seq (.cond (t 11) .skip (.exit 0)) (.seq (.block 1 (.j f39r4 (.j f39r5 (.cond (t 20) (.ops f39r6) .skip)))) (.ops f39r7))))
def f39r9:LS:=[M 28 3,o 29 (.bstr (t 28)),M 2 29]
def f39:SCode:=(.j f39r0 (.j f39r1 (.seq (.j f39r2 (.block 0 (.loop f39l8))) (.j f39r9 .ret))))
theorem f39_calls:Sound Tryz.prog 39 30 f39 [.t 2]:=sdo Tryz.func39 rfl (by kernel_rfl)
end Go.Proofs.YtjnijlnmbjjgpaaGreatDoor.C
set_option maxRecDepth 100000
namespace Go.Proofs.YtjnijlnmbjjgpaaGreatDoor.C
open Go Go.Sx Go.Sx.S
def f179r0:LS:=[o 4 (.mv (.const (.pointer none))),I 5 0]
def f179r1:LS:=[M 14 0,o 15 (.len (t 14)),o 16 (.cmp .gtr (t 15) (i 65536))]
def f179r2:LS:=[o 4 (.mv (.const (.pointer none))),I 5 3]
def f179r3:LS:=[M 17 0,o 18 (.len (t 17)),I 19 0]
def f179r4:LS:=[o 20 (.cmp .lss (t 19) (t 18))]
def f179r5:LS:=[G 21 2 17 19,o 22 (.ldn 2 (t 21)),o 7 (.new [(.string ⟨#[]⟩),(.int .i64 0)]),q (.st 2 (t 7) (t 22))]
def f179r6:LS:=[A 23 0 7,L 24 23,o 25 (.lens (t 24)),o 26 (.cmp .gtr (t 25) (i 1048576))]
def f179r7:LS:=[o 4 (.mv (.const (.pointer none))),I 5 3]
def f179r8:LS:=[D 27 19 1,M 19 27]
def f179l9:SCode:=(.j f179r4 (.seq (.cond (t 20) .skip (.exit 0)) (.seq (.block 1 (.j f179r5 (.j f179r6 (.k 26 f179r7)))) (.ops f179r8))))
def f179r10:LS:=[o 28 (.call 238 []),M 8 28]
def f179r11:LS:=[M 29 0,o 30 (.len (t 29)),I 31 0]
def f179r12:LS:=[o 32 (.cmp .lss (t 31) (t 30))]
def f179r13:LS:=[M 33 31,G 34 2 29 31,o 35 (.ldn 2 (t 34)),o 10 (.new [(.string ⟨#[]⟩),(.int .i64 0)]),M 9 33,q (.st 2 (t 10) (t 35))]
def f179r14:LS:=[M 37 8,K 38 37,A 39 1 38,L 40 39,A 41 0 10,L 42 41,o 43 (.look .str (.pointer none) true (t 40) (t 42)),M 36 43,X 44 36 0,X 45 36 1,M 11 44,M 12 45]
def f179r15:LS:=[M 46 12]
def f179r16:LS:=[o 4 (.mv (.const (.pointer none))),I 5 2]
def f179r17:LS:=[I 13 0]
def f179r18:LS:=[M 47 9,M 48 1,o 49 (.len (t 48)),o 50 (.cmp .lss (t 47) (t 49))]
def f179r19:LS:=[M 51 1,M 52 9,G 53 1 51 52,L 54 53,M 13 54]
def f179r20:LS:=[M 55 8,o 56 (.ldn 2 (t 10)),M 57 13,o 58 (.call 239 [(t 55),(t 56),(t 57)])]
def f179r21:LS:=[D 59 31 1,M 31 59]
def f179l22:SCode:=(.j f179r12 (.seq (.cond (t 32) .skip (.exit 2)) (.seq (.block 3 (.j f179r13 (.seq (.j f179r14 (.j f179r15 (.k 46 f179r16))) (.j f179r17 (.seq (.j f179r18 (.cond (t 50) (.ops f179r19) .skip)) (.ops f179r20)))))) (.ops f179r21))))
def f179r23:LS:=[M 60 8,M 4 60,I 5 0]
def f179:SCode:=(.j f179r0 (.seq (.j f179r1 (.k 16 f179r2)) (.seq (.j f179r3 (.block 0 (.loop f179l9))) (.j f179r10 (.seq (.j f179r11 (.block 2 (.loop f179l22))) (.j f179r23 .ret))))))
theorem f179_calls:Sound Tryz.prog 179 61 f179 [.t 4,.t 5]:=sdo Tryz.func179 rfl (by kernel_rfl)
def f180r0:LS:=[I 4 0,o 5 (.mv (b false))]
def f180r1:LS:=[M 8 0,o 9 (.call 240 [(t 8)])]
def f180r2:LS:=[I 4 0,o 5 (.mv (b false))]
def f180r3:LS:=[M 11 0,K 12 11,A 13 1 12,L 14 13,M 15 1,o 16 (.look .str (.pointer none) true (t 14) (t 15)),M 10 16,X 17 10 0,X 18 10 1,M 6 17,M 7 18]
def f180r4:LS:=[M 19 7,o 20 (.un .not (t 19))]
def f180r5:LS:=[I 4 0,o 5 (.mv (b false))]
def f180r6:LS:=[M 21 0,M 22 6,K 23 22,A 24 0 23,o 25 (.ldn 2 (t 24)),o 26 (.call 242 [(t 25)]),o 27 (.call 241 [(t 21),(t 26)]),K 28 27,A 29 16 28,o 30 (.ixa 16 1 (t 29) (i 0)),L 31 30,M 4 31,o 5 (.mv (b true))]
def f180:SCode:=(.j f180r0 (.seq (.j f180r1 (.k 9 f180r2)) (.j f180r3 (.seq (.j f180r4 (.k 20 f180r5)) (.j f180r6 .ret)))))
theorem f180_calls:Sound Tryz.prog 180 32 f180 [.t 4,.t 5]:=sdo Tryz.func180 rfl (by kernel_rfl)
def f182r0:LS:=[o 4 (.box (t 1)),o 5 (.box (t 2)),o 6 (.mv (.const (.slice none 0 0)))]
def f182r1:LS:=[M 7 0,o 8 (.fn 244 [] [(t 4)]),o 9 (.fn 245 [] [(t 5)]),o 10 (.call 243 [(t 7),(t 8),(t 9)]),M 6 10]
def f182:SCode:=(.j f182r0 (.j f182r1 .ret))
theorem f182_calls:Sound Tryz.prog 182 11 f182 [.t 6]:=sdo Tryz.func182 rfl (by kernel_rfl)
def f184r0:LS:=[o 4 (.box (t 1)),o 5 (.box (t 2)),o 6 (.mv (.const (.slice none 0 0)))]
def f184r1:LS:=[M 7 0,o 8 (.fn 246 [] [(t 4)]),o 9 (.fn 247 [] [(t 5)]),o 10 (.call 243 [(t 7),(t 8),(t 9)]),M 6 10]
def f184:SCode:=(.j f184r0 (.j f184r1 .ret))
theorem f184_calls:Sound Tryz.prog 184 11 f184 [.t 6]:=sdo Tryz.func184 rfl (by kernel_rfl)
def f225r0:LS:=[I 2 0]
def f225r1:LS:=[M 3 0,o 4 (.cvt .u32 (t 3)),o 5 (.call 273 [(t 4)]),M 2 5]
def f225r2:LS:=[M 6 0,o 7 (.call 274 [(t 6)]),M 2 7]
def f225:SCode:=(.j f225r0 (.seq (.cond (b false) (.j f225r1 .ret) .skip) (.j f225r2 .ret)))
theorem f225_calls:Sound Tryz.prog 225 8 f225 [.t 2]:=sdo Tryz.func225 rfl (by kernel_rfl)
def f237r0:LS:=[I 4 0,o 5 (.mv (b false))]
def f237r1:LS:=[M 8 0,o 9 (.call 240 [(t 8)])]
def f237r2:LS:=[I 4 0,o 5 (.mv (b false))]
def f237r3:LS:=[M 11 0,K 12 11,A 13 1 12,L 14 13,M 15 1,o 16 (.look .str (.pointer none) true (t 14) (t 15)),M 10 16,X 17 10 0,X 18 10 1,M 6 17,M 7 18]
def f237r4:LS:=[M 19 7,o 20 (.un .not (t 19))]
def f237r5:LS:=[I 4 0,o 5 (.mv (b false))]
def f237r6:LS:=[M 21 6,K 22 21,A 23 0 22,A 24 1 23,L 25 24,M 4 25,o 5 (.mv (b true))]
def f237:SCode:=(.j f237r0 (.seq (.j f237r1 (.k 9 f237r2)) (.j f237r3 (.seq (.j f237r4 (.k 20 f237r5)) (.j f237r6 .ret)))))
theorem f237_calls:Sound Tryz.prog 237 26 f237 [.t 4,.t 5]:=sdo Tryz.func237 rfl (by kernel_rfl)
def f238r0:LS:=[o 0 (.mv (.const (.pointer none)))]
def f238r1:LS:=[o 1 (.mks 16 [(.pointer none),(.int .i64 0)] (i 16) (i 16)),o 2 (.build [(.string ⟨#[]⟩),(.int .i64 0),(.slice none 0 0)] [(2,1)] [(t 1)]),o 3 (.box (t 2)),o 4 (.mkm),o 5 (.build [(.pointer none),(.map none)] [(0,1),(1,1)] [(t 3),(t 4)]),o 6 (.box (t 5)),M 0 6]
def f238:SCode:=(.j f238r0 (.j f238r1 .ret))
theorem f238_calls:Sound Tryz.prog 238 7 f238 [.t 0]:=sdo Tryz.func238 rfl (by kernel_rfl)
def f239r0:LS:=[o 4 (.box (t 1))]
def f239r1:LS:=[M 11 0,o 12 (.ldn 2 (t 4)),o 13 (.call 242 [(t 12)]),o 14 (.call 241 [(t 11),(t 13)]),M 6 14]
def f239r2:LS:=[o 15 (.ldn 2 (t 4)),M 16 0,K 17 16,A 18 1 17,L 19 18,o 20 (.lenm (t 19)),D 21 20 1,o 22 (.cvt .u64 (t 21)),M 24 2,o 25 (.bit .and (t 24) (i 1)),o 23 (.callq 225 [(t 22)]),o 26 (.ar .add (t 23) (t 25)),o 27 (.mn (i 15) (t 26)),o 28 (.ar .add (i 1) (t 27)),o 29 (.mks 16 [(.pointer none),(.int .i64 0)] (t 28) (t 28)),o 30 (.build [(.string ⟨#[]⟩),(.int .i64 0),(.slice none 0 0)] [(0,2),(2,1)] [(t 15),(t 29)]),o 31 (.box (t 30)),M 7 31]
def f239r3:LS:=[I 32 0]
def f239r4:LS:=[o 33 (.cmp .lss (t 32) (i 16))]
def f239r5:LS:=[M 34 32,M 8 34]
def f239r6:LS:=[M 35 6,M 36 8,K 37 35,A 38 0 37,o 39 (.ixa 16 1 (t 38) (t 36)),L 40 39,K 41 40,A 42 2 41,L 43 42,M 44 8,G 45 2 43 44,M 9 45]
def f239r7:LS:=[M 46 8,M 47 7,K 48 47,A 49 2 48,L 50 49,o 51 (.len (t 50)),o 52 (.cmp .geq (t 46) (t 51))]
def f239r8:LS:=[M 53 9,K 54 53,A 55 1 54,L 56 55,D 57 56 1,K 58 53,A 59 1 58,q (.st 1 (t 59) (t 57))]
def f239r9:LS:=[M 60 6,K 61 60,A 62 16 61,o 63 (.ixa 16 1 (t 62) (i 0)),L 64 63,M 65 6,M 66 8,K 67 65,A 68 16 67,o 69 (.ixa 16 1 (t 68) (t 66)),L 70 69,o 71 (.ar .sub (t 64) (t 70)),M 10 71]
def f239r10:LS:=[M 72 7,K 73 72,A 74 2 73,L 75 74,M 76 8,M 77 9,K 78 77,A 79 0 78,L 80 79,M 81 9,K 82 81,A 83 1 82,L 84 83,M 85 10,o 86 (.ar .sub (t 84) (t 85)),o 87 (.build [(.pointer none),(.int .i64 0)] [(0,1),(1,1)] [(t 80),(t 86)]),G 88 2 75 76,q (.st 2 (t 88) (t 87))]
def f239r11:LS:=[M 89 9,M 90 7,M 91 10,D 92 91 1,o 93 (.build [(.pointer none),(.int .i64 0)] [(0,1),(1,1)] [(t 90),(t 92)]),K 94 89,q (.st 2 (t 94) (t 93))]
def f239r12:LS:=[D 95 32 1,M 32 95]
def f239l13:SCode:=(.j f239r4 (.seq (.cond (t 33) .skip (.exit 0)) (.seq (.block 1 (.j f239r5 (.j f239r6 (.seq (.j f239r7 (.cond (t 52) (.j f239r8 (.exit 1)) .skip)) (.j f239r9 (.j f239r10 (.ops f239r11))))))) (.ops f239r12))))
def f239r14:LS:=[M 96 0,K 97 96,A 98 1 97,L 99 98,A 100 0 4,L 101 100,M 102 7,q (.mup .str (t 99) (t 101) (t 102))]
def f239:SCode:=(.j f239r0 (.j f239r1 (.j f239r2 (.seq (.j f239r3 (.block 0 (.loop f239l13))) (.ops f239r14)))))
theorem f239_calls:Sound Tryz.prog 239 103 f239 []:=sdo Tryz.func239 rfl (by kernel_rfl)
def f240r0:LS:=[o 2 (.mv (b false))]
def f240r1:LS:=[M 3 0,o 4 (.eqn 0 false (t 3)),M 5 4,
 n 6 5 (.mv (t 0)),
 n 7 5 (.nilck (t 6)),
 n 8 5 (.fa 0 (t 7)),
 n 9 5 (.ld1 (t 8)),
 n 10 5 (.eqn 0 false (t 9)),o 11 (.pick (t 5) (b true) (t 10)),M 2 11]
def f240:SCode:=(.j f240r0 (.j f240r1 .ret))
theorem f240_calls:Sound Tryz.prog 240 12 f240 [.t 2]:=sdo Tryz.func240 rfl (by kernel_rfl)
def f241r0:LS:=[o 4 (.mv (.const (.pointer none)))]
def f241r1:LS:=[o 5 (.new [(.pointer none),(.pointer none),(.pointer none),(.pointer none),(.pointer none),(.pointer none),(.pointer none),(.pointer none),(.pointer none),(.pointer none),(.pointer none),(.pointer none),(.pointer none),(.pointer none),(.pointer none),(.pointer none),(.int .i64 0),(.int .i64 0),(.int .i64 0),(.int .i64 0),(.int .i64 0),(.int .i64 0),(.int .i64 0),(.int .i64 0),(.int .i64 0),(.int .i64 0),(.int .i64 0),(.int .i64 0),(.int .i64 0),(.int .i64 0),(.int .i64 0),(.int .i64 0)])]
def f241r2:LS:=[M 10 0,K 11 10,A 12 0 11,L 13 12,M 6 13,I 7 0]
def f241r3:LS:=[I 8 15]
def f241r4:LS:=[M 14 8,o 15 (.cmp .geq (t 14) (i 0))]
def f241r5:LS:=[M 18 6,K 19 18,A 20 2 19,L 21 20,M 22 8,G 23 2 21 22,o 24 (.ldn 2 (t 23)),o 9 (.new [(.pointer none),(.int .i64 0)]),q (.st 2 (t 9) (t 24))]
def f241r6:LS:=[A 25 0 9,L 26 25,o 27 (.eqn 0 false (t 26)),M 28 27,
 n 29 28 (.mv (t 1)),
 n 30 28 (.fa 0 (t 9)),
 n 31 28 (.ld1 (t 30)),
 n 32 28 (.nilck (t 31)),
 n 33 28 (.fa 0 (t 32)),
 n 34 28 (.ldn 2 (t 33)),
 n 35 28 (.mv (t 7)),
 n 36 28 (.fa 1 (t 9)),
 n 37 28 (.ld1 (t 36)),
 n 38 28 (.ar .add (t 35) (t 37)),
 n 39 28 (.ar .sub (t 38) (i 1)),
 n 40 28 (.callv (t 29) [(t 34),(t 39)]),
 n 41 28 (.un .not (t 40)),o 42 (.pick (t 28) (b true) (t 41))]
def f241r7:LS:=[A 43 0 9,L 44 43,M 45 7,A 46 1 9,L 47 46,o 48 (.ar .add (t 45) (t 47)),M 6 44,M 7 48]
def f241l8:SCode:=(.block 3 (.j f241r5 (.seq (.j f241r6 (.cond (t 42) (.exit 2) .skip)) (.ops f241r7))))
def f241r9:LS:=[M 49 8,M 50 8,M 51 6,M 52 7,A 53 0 5,o 54 (.ixa 16 1 (t 53) (t 49)),q (.st 1 (t 54) (t 51)),A 55 16 5,o 56 (.ixa 16 1 (t 55) (t 50)),q (.st 1 (t 56) (t 52))]
def f241r10:LS:=[M 16 8,o 17 (.ar .sub (t 16) (i 1)),M 8 17]
def f241l11:SCode:=(.seq (.j f241r4 (.cond (t 15) .skip (.exit 0))) (.seq (.block 1 (.seq (.block 2 (.loop f241l8)) (.ops f241r9))) (.ops f241r10)))
def f241r12:LS:=[M 4 5]
def f241:SCode:=(.j f241r0 (.j f241r1 (.j f241r2 (.seq (.j f241r3 (.block 0 (.loop f241l11))) (.j f241r12 .ret)))))
theorem f241_calls:Sound Tryz.prog 241 57 f241 [.t 4]:=sdo Tryz.func241 rfl (by kernel_rfl)
def f242r0:LS:=[o 1 (.box (t 0)),o 2 (.mv (.const .nilFunc))]
def f242r1:LS:=[o 3 (.fn 279 [] [(t 1)]),M 2 3]
def f242:SCode:=(.j f242r0 (.j f242r1 .ret))
theorem f242_calls:Sound Tryz.prog 242 4 f242 [.t 2]:=sdo Tryz.func242 rfl (by kernel_rfl)
def f243r0:LS:=[o 6 (.mv (.const (.slice none 0 0)))]
def f243r1:LS:=[M 11 0,o 12 (.call 240 [(t 11)])]
def f243r2:LS:=[o 6 (.mv (.const (.slice none 0 0)))]
def f243r3:LS:=[o 7 (.mv (.const (.slice none 0 0)))]
def f243r4:LS:=[M 13 0,M 14 1,o 15 (.call 241 [(t 13),(t 14)]),M 8 15]
def f243r5:LS:=[M 16 8,K 17 16,A 18 16 17,o 19 (.ixa 16 1 (t 18) (i 0)),L 20 19,M 9 20]
def f243r6:LS:=[M 21 8,K 22 21,A 23 0 22,o 24 (.ixa 16 1 (t 23) (i 0)),L 25 24,K 26 25,A 27 2 26,L 28 27,o 29 (.ixs 2 (t 28) (i 0)),A 30 0 29,L 31 30,M 10 31]
def f243r7:LS:=[M 32 10,o 33 (.eqn 0 true (t 32)),M 34 33,
 g 35 34 (.mv (t 2)),
 g 36 34 (.mv (t 10)),
 g 37 34 (.nilck (t 36)),
 g 38 34 (.fa 0 (t 37)),
 g 39 34 (.ldn 2 (t 38)),
 g 40 34 (.mv (t 9)),
 g 41 34 (.callv (t 35) [(t 39),(t 40)]),o 42 (.pick (t 34) (t 41) (b false))]
def f243r8:LS:=[M 50 7,M 51 10,K 52 51,A 53 0 52,o 54 (.ldn 2 (t 53)),o 55 (.bslice [(.string ⟨#[]⟩),(.int .i64 0)] 1 [(0,2)] [(t 54)]),o 56 (.app 2 24 [(.string ⟨#[]⟩),(.int .i64 0)] (t 50) (t 55)),M 7 56]
def f243r9:LS:=[M 57 9,D 58 57 1,M 9 58]
def f243r10:LS:=[M 43 10,K 44 43,A 45 2 44,L 46 45,o 47 (.ixs 2 (t 46) (i 0)),A 48 0 47,L 49 48,M 10 49]
def f243l11:SCode:=(.seq (.j f243r7 (.cond (t 42) .skip (.exit 0))) (.seq (.block 1 (.j f243r8 (.ops f243r9))) (.ops f243r10)))
def f243r12:LS:=[M 59 7,M 6 59]
def f243:SCode:=(.j f243r0 (.seq (.j f243r1 (.k 12 f243r2)) (.j f243r3 (.j f243r4 (.j f243r5 (.seq (.j f243r6 (.block 0 (.loop f243l11))) (.j f243r12 .ret)))))))
theorem f243_calls:Sound Tryz.prog 243 60 f243 [.t 6]:=sdo Tryz.func243 rfl (by kernel_rfl)
def f244r0:LS:=[o 3 (.box (t 0)),o 5 (.mv (b false))]
def f244r1:LS:=[M 6 1,L 7 2,o 8 (.cmp .lss (t 6) (t 7)),M 5 8]
def f244:SCode:=(.j f244r0 (.j f244r1 .ret))
theorem f244_calls:Sound Tryz.prog 244 9 f244 [.t 5]:=sdo Tryz.func244 rfl (by kernel_rfl)
def f245r0:LS:=[o 3 (.box (t 0)),o 5 (.mv (b false))]
def f245r1:LS:=[M 6 1,L 7 2,o 8 (.cmp .lss (t 6) (t 7)),M 5 8]
def f245:SCode:=(.j f245r0 (.j f245r1 .ret))
theorem f245_calls:Sound Tryz.prog 245 9 f245 [.t 5]:=sdo Tryz.func245 rfl (by kernel_rfl)
def f246r0:LS:=[o 3 (.box (t 0)),o 5 (.mv (b false))]
def f246r1:LS:=[A 6 1 3,L 7 6,L 8 2,o 9 (.cmp .lss (t 7) (t 8)),M 5 9]
def f246:SCode:=(.j f246r0 (.j f246r1 .ret))
theorem f246_calls:Sound Tryz.prog 246 10 f246 [.t 5]:=sdo Tryz.func246 rfl (by kernel_rfl)
def f247r0:LS:=[o 3 (.box (t 0)),o 5 (.mv (b false))]
def f247r1:LS:=[A 6 1 3,L 7 6,L 8 2,o 9 (.cmp .leq (t 7) (t 8)),M 5 9]
def f247:SCode:=(.j f247r0 (.j f247r1 .ret))
theorem f247_calls:Sound Tryz.prog 247 10 f247 [.t 5]:=sdo Tryz.func247 rfl (by kernel_rfl)
def f274r0:LS:=[I 2 0]
def f274r1:LS:=[M 3 0,o 4 (.cmp .eql (t 3) (.const (.int .u64 0)))]
def f274r2:LS:=[I 2 64]
def f274r3:LS:=[M 5 0,M 6 0,o 7 (.un .neg (t 6)),o 8 (.bit .and (t 5) (t 7)),o 9 (.ar .mul (t 8) (.const (.int .u64 285870213051353865))),o 10 (.sh .u64 false 58 (t 9)),o 11 (.ixa 64 1 (.global 3) (t 10)),L 12 11,o 13 (.cvt .i64 (t 12)),M 2 13]
def f274:SCode:=(.j f274r0 (.seq (.j f274r1 (.k 4 f274r2)) (.j f274r3 .ret)))
theorem f274_calls:Sound Tryz.prog 274 14 f274 [.t 2]:=sdo Tryz.func274 rfl (by kernel_rfl)
def f279r0:LS:=[o 3 (.box (t 0)),o 5 (.mv (b false))]
def f279r1:LS:=[A 6 1 3,L 7 6,A 8 1 2,L 9 8,o 10 (.cmp .lss (t 7) (t 9)),M 11 10,
 n 12 11 (.fa 1 (t 3)),
 n 13 11 (.ld1 (t 12)),
 n 14 11 (.fa 1 (t 2)),
 n 15 11 (.ld1 (t 14)),
 n 16 11 (.cmp .eql (t 13) (t 15)),
 n 17 11 (.mv (t 16)),
 g 18 17 (.fa 0 (t 3)),
 g 19 17 (.ld1 (t 18)),
 g 20 17 (.fa 0 (t 2)),
 g 21 17 (.ld1 (t 20)),
 g 22 17 (.cmp .lss (t 19) (t 21)),
 n 23 11 (.pick (t 17) (t 22) (b false)),o 24 (.pick (t 11) (b true) (t 23)),M 5 24]
def f279:SCode:=(.j f279r0 (.j f279r1 .ret))
theorem f279_calls:Sound Tryz.prog 279 25 f279 [.t 5]:=sdo Tryz.func279 rfl (by kernel_rfl)
end Go.Proofs.YtjnijlnmbjjgpaaGreatDoor.C
set_option maxRecDepth 100000
namespace Go.Proofs.YtjnijlnmbjjgpaaGreatDoor.C
open Go Go.Sx Go.Sx.S
def f7r0:LS:=[o 6 (.mv (b false))]
def f7r1:LS:=[M 7 0,M 8 2,o 9 (.call 12 [(t 7),(t 8)])]
def f7r2:LS:=[o 10 (.call 13 []),M 6 10]
def f7r3:LS:=[M 11 0,M 12 1,M 13 2,o 14 (.call 14 [(t 11),(t 12),(t 13)]),M 15 14,
 g 16 15 (.call 13 []),o 17 (.pick (t 15) (t 16) (b false)),M 6 17]
def f7:SCode:=(.j f7r0 (.seq (.j f7r1 (.k 9 f7r2)) (.j f7r3 .ret)))
theorem f7_calls:Sound Tryz.prog 7 18 f7 [.t 6]:=sdo Tryz.func7 rfl (by kernel_rfl)
def f12r0:LS:=[o 4 (.mv (b false))]
def f12r1:LS:=[M 7 0,o 8 (.len (t 7)),o 9 (.cmp .gtr (t 8) (i 20)),M 10 9,
 n 11 10 (.mv (t 1)),
 n 12 10 (.len (t 11)),
 n 13 10 (.cmp .gtr (t 12) (i 20)),o 14 (.pick (t 10) (b true) (t 13))]
def f12r2:LS:=[o 4 (.mv (b true))]
def f12r3:LS:=[I 5 0]
def f12r4:LS:=[M 15 5,M 16 0,o 17 (.len (t 16)),o 18 (.cmp .lss (t 15) (t 17))]
def f12r5:LS:=[M 21 0,M 22 5,G 23 8 21 22,A 24 0 23,L 25 24,o 26 (.lens (t 25)),o 27 (.cmp .gtr (t 26) (i 300)),M 28 27,
 n 29 28 (.mv (t 0)),
 n 30 28 (.mv (t 5)),
 n 31 28 (.ixs 8 (t 29) (t 30)),
 n 32 28 (.fa 1 (t 31)),
 n 33 28 (.ldn 7 (t 32)),
 n 34 28 (.call 30 [(t 33)]),o 35 (.pick (t 28) (b true) (t 34))]
def f12r6:LS:=[o 4 (.mv (b true))]
def f12r7:LS:=[M 19 5,D 20 19 1,M 5 20]
def f12l8:SCode:=(.seq (.j f12r4 (.cond (t 18) .skip (.exit 0))) (.seq (.block 1 (.j f12r5 (.k 35 f12r6))) (.ops f12r7)))
def f12r9:LS:=[I 6 0]
def f12r10:LS:=[M 36 6,M 37 1,o 38 (.len (t 37)),o 39 (.cmp .lss (t 36) (t 38))]
def f12r11:LS:=[M 42 1,M 43 6,G 44 1 42 43,L 45 44,o 46 (.lens (t 45)),o 47 (.cmp .gtr (t 46) (i 300))]
def f12r12:LS:=[o 4 (.mv (b true))]
def f12r13:LS:=[M 40 6,D 41 40 1,M 6 41]
def f12l14:SCode:=(.seq (.j f12r10 (.cond (t 39) .skip (.exit 2))) (.seq (.block 3 (.j f12r11 (.k 47 f12r12))) (.ops f12r13)))
def f12r15:LS:=[o 4 (.mv (b false))]
def f12:SCode:=(.j f12r0 (.seq (.j f12r1 (.k 14 f12r2)) (.seq (.j f12r3 (.block 0 (.loop f12l8))) (.seq (.j f12r9 (.block 2 (.loop f12l14))) (.j f12r15 .ret)))))
theorem f12_calls:Sound Tryz.prog 12 48 f12 [.t 4]:=sdo Tryz.func12 rfl (by kernel_rfl)
def f14r0:LS:=[o 6 (.mv (b false))]
def f14r1:LS:=[M 18 0,o 19 (.call 19 [(t 18)]),M 17 19,X 20 17 0,X 21 17 1,M 7 20,M 8 21]
def f14r2:LS:=[M 23 0,o 24 (.call 24 [(t 23)]),M 22 24,X 25 22 0,X 26 22 1,M 9 25,M 10 26]
def f14r3:LS:=[M 27 10,o 28 (.cmp .neq (t 27) (i 0)),M 29 28,
 n 30 29 (.mv (t 8)),
 n 31 29 (.cmp .neq (t 30) (i 0)),o 32 (.pick (t 29) (b true) (t 31))]
def f14r4:LS:=[M 33 8,M 34 10,o 35 (.cmp .eql (t 33) (t 34)),M 6 35]
def f14r5:LS:=[M 37 7,M 38 1,M 39 2,o 40 (.call 20 [(t 37),(t 38),(t 39)]),M 36 40,X 41 36 0,X 42 36 1,X 43 36 2,o 11 (.new [(.int .i64 0),(.int .i64 0),(.string ⟨#[]⟩),(.slice none 0 0)]),q (.st 4 (t 11) (t 41)),M 12 42,M 13 43]
def f14r6:LS:=[M 45 9,M 46 1,M 47 2,o 48 (.call 31 [(t 45),(t 46),(t 47)]),M 44 48,X 49 44 0,X 50 44 1,X 51 44 2,o 14 (.new [(.int .i64 0),(.int .i64 0),(.string ⟨#[]⟩),(.slice none 0 0)]),q (.st 4 (t 14) (t 49)),M 15 50,M 16 51]
def f14r7:LS:=[M 52 13,M 53 16,o 54 (.cmpb false (t 52) (t 53)),M 55 54,
 g 56 55 (.ldn 4 (t 11)),
 g 57 55 (.ldn 4 (t 14)),
 g 58 55 (.call 27 [(t 56),(t 57)]),o 59 (.pick (t 55) (t 58) (b false)),M 60 59,
 g 61 60 (.mv (t 12)),
 g 62 60 (.mv (t 15)),
 g 63 60 (.call 32 [(t 61),(t 62)]),o 64 (.pick (t 60) (t 63) (b false)),M 65 64,
 g 66 65 (.mv (t 7)),
 g 67 65 (.mv (t 9)),
 g 68 65 (.call 33 [(t 66),(t 67)]),o 69 (.pick (t 65) (t 68) (b false)),M 6 69]
def f14:SCode:=(.j f14r0 (.j f14r1 (.j f14r2 (.seq (.j f14r3 (.k 32 f14r4)) (.j f14r5 (.j f14r6 (.j f14r7 .ret)))))))
theorem f14_calls:Sound Tryz.prog 14 70 f14 [.t 6]:=sdo Tryz.func14 rfl (by kernel_rfl)
def f30r0:LS:=[o 1 (.box (t 0)),o 2 (.mv (b false))]
def f30r1:LS:=[A 7 1 1,L 8 7,o 9 (.lens (t 8)),M 3 9]
def f30r2:LS:=[A 10 2 1,L 11 10,o 12 (.len (t 11)),o 13 (.cmp .gtr (t 12) (i 40)),M 14 13,
 n 15 14 (.fa 3 (t 1)),
 n 16 14 (.ld1 (t 15)),
 n 17 14 (.len (t 16)),
 n 18 14 (.cmp .gtr (t 17) (i 40)),o 19 (.pick (t 14) (b true) (t 18)),M 20 19,
 n 21 20 (.fa 4 (t 1)),
 n 22 20 (.ld1 (t 21)),
 n 23 20 (.len (t 22)),
 n 24 20 (.cmp .gtr (t 23) (i 40)),o 25 (.pick (t 20) (b true) (t 24)),M 26 25,
 n 27 26 (.mv (t 3)),
 n 28 26 (.cmp .gtr (t 27) (i 2000)),o 29 (.pick (t 26) (b true) (t 28))]
def f30r3:LS:=[o 2 (.mv (b true))]
def f30r4:LS:=[I 4 0]
def f30r5:LS:=[M 30 4,A 31 2 1,L 32 31,o 33 (.len (t 32)),o 34 (.cmp .lss (t 30) (t 33))]
def f30r6:LS:=[M 37 3,A 38 2 1,L 39 38,M 40 4,G 41 2 39 40,A 42 0 41,L 43 42,o 44 (.lens (t 43)),o 45 (.ar .add (t 37) (t 44)),A 46 2 1,L 47 46,M 48 4,G 49 2 47 48,A 50 1 49,L 51 50,o 52 (.lens (t 51)),o 53 (.ar .add (t 45) (t 52)),M 3 53]
def f30r7:LS:=[M 54 3,o 55 (.cmp .gtr (t 54) (i 2000))]
def f30r8:LS:=[o 2 (.mv (b true))]
def f30r9:LS:=[M 35 4,D 36 35 1,M 4 36]
def f30l10:SCode:=(.seq (.j f30r5 (.cond (t 34) .skip (.exit 0))) (.seq (.block 1 (.j f30r6 (.j f30r7 (.k 55 f30r8)))) (.ops f30r9)))
def f30r11:LS:=[I 5 0]
def f30r12:LS:=[M 56 5,A 57 3 1,L 58 57,o 59 (.len (t 58)),o 60 (.cmp .lss (t 56) (t 59))]
def f30r13:LS:=[M 63 3,A 64 3 1,L 65 64,M 66 5,G 67 1 65 66,L 68 67,o 69 (.lens (t 68)),o 70 (.ar .add (t 63) (t 69)),M 3 70]
def f30r14:LS:=[M 71 3,o 72 (.cmp .gtr (t 71) (i 2000))]
def f30r15:LS:=[o 2 (.mv (b true))]
def f30r16:LS:=[M 61 5,D 62 61 1,M 5 62]
def f30l17:SCode:=(.seq (.j f30r12 (.cond (t 60) .skip (.exit 2))) (.seq (.block 3 (.j f30r13 (.j f30r14 (.k 72 f30r15)))) (.ops f30r16)))
def f30r18:LS:=[I 6 0]
def f30r19:LS:=[M 73 6,A 74 4 1,L 75 74,o 76 (.len (t 75)),o 77 (.cmp .lss (t 73) (t 76))]
def f30r20:LS:=[M 80 3,A 81 4 1,L 82 81,M 83 6,G 84 2 82 83,A 85 0 84,L 86 85,o 87 (.lens (t 86)),o 88 (.ar .add (t 80) (t 87)),M 3 88]
def f30r21:LS:=[M 89 3,o 90 (.cmp .gtr (t 89) (i 2000))]
def f30r22:LS:=[o 2 (.mv (b true))]
def f30r23:LS:=[M 78 6,D 79 78 1,M 6 79]
def f30l24:SCode:=(.seq (.j f30r19 (.cond (t 77) .skip (.exit 4))) (.seq (.block 5 (.j f30r20 (.j f30r21 (.k 90 f30r22)))) (.ops f30r23)))
def f30r25:LS:=[o 2 (.mv (b false))]
def f30:SCode:=(.j f30r0 (.j f30r1 (.seq (.j f30r2 (.k 29 f30r3)) (.seq (.j f30r4 (.block 0 (.loop f30l10))) (.seq (.j f30r11 (.block 2 (.loop f30l17))) (.seq (.j f30r18 (.block 4 (.loop f30l24))) (.j f30r25 .ret)))))))
theorem f30_calls:Sound Tryz.prog 30 91 f30 [.t 2]:=sdo Tryz.func30 rfl (by kernel_rfl)
def f31r0:LS:=[o 6 (.new [(.int .i64 0),(.int .i64 0),(.string ⟨#[]⟩),(.slice none 0 0)]),o 7 (.mv (.const (.slice none 0 0))),o 8 (.mv (b false))]
def f31r1:LS:=[M 18 2,o 19 (.len (t 18)),E 20 19 0]
def f31r2:LS:=[o 21 (.build [(.int .i64 0),(.int .i64 0),(.string ⟨#[]⟩),(.slice none 0 0)] [] []),q (.st 4 (t 6) (t 21)),o 7 (.mv (.const (.slice none 0 0))),o 8 (.mv (b false))]
def f31r3:LS:=[M 22 2,o 23 (.ixs 1 (t 22) (i 0)),L 24 23,o 25 (.call 54 [(t 24)]),M 9 25]
def f31r4:LS:=[M 27 9,o 28 (.call 55 [(t 27)]),M 26 28,X 29 26 0,X 30 26 1,X 31 26 2,X 32 26 3,X 33 26 4,M 10 29,M 11 30,M 12 31,M 13 32,M 14 33]
def f31r5:LS:=[M 34 14,o 35 (.un .not (t 34))]
def f31r6:LS:=[o 36 (.build [(.int .i64 0),(.int .i64 0),(.string ⟨#[]⟩),(.slice none 0 0)] [] []),q (.st 4 (t 6) (t 36)),o 7 (.mv (.const (.slice none 0 0))),o 8 (.mv (b false))]
def f31r7:LS:=[M 37 0,M 38 1,M 39 2,o 40 (.slc 1 (t 39) (some (i 1)) none),o 41 (.build [(.slice none 0 0),(.int .i64 0),(.slice none 0 0),(.slice none 0 0),(.string ⟨#[]⟩)] [(0,1),(1,1),(2,1)] [(t 37),(t 38),(t 40)]),o 42 (.build [(.slice none 0 0),(.int .i64 0),(.slice none 0 0),(.slice none 0 0),(.string ⟨#[]⟩),(.int .i64 0),(.string ⟨#[]⟩),(.slice none 0 0),(.slice none 0 0),(.slice none 0 0),(.bool false),(.int .i64 0),(.string ⟨#[]⟩)] [(0,5)] [(t 41)]),o 43 (.box (t 42)),M 15 43]
def f31r8:LS:=[M 44 15,K 45 44,A 46 0 45,M 47 10,M 48 11,o 49 (.call 56 [(t 46),(t 47),(t 48)]),M 16 49]
def f31r9:LS:=[M 50 16,M 51 50,
 g 52 51 (.mv (t 9)),
 g 53 51 (.cmp .eql (t 52) (.const (.string ⟨#[72,83,69,84]⟩))),
 g 54 51 (.mv (t 53)),
 n 55 54 (.mv (t 9)),
 n 56 54 (.cmp .eql (t 55) (.const (.string ⟨#[90,65,68,68]⟩))),
 g 57 51 (.pick (t 54) (b true) (t 56)),o 58 (.pick (t 51) (t 57) (b false)),M 59 58,
 g 60 59 (.mv (t 15)),
 g 61 59 (.nilck (t 60)),
 g 62 59 (.fa 0 (t 61)),
 g 63 59 (.fa 2 (t 62)),
 g 64 59 (.ld1 (t 63)),
 g 65 59 (.len (t 64)),
 g 66 59 (.rem (t 65) (i 2)),
 g 67 59 (.cmp .eql (t 66) (i 0)),o 68 (.pick (t 59) (t 67) (b false))]
def f31r10:LS:=[M 69 15,K 70 69,A 71 0 70,A 72 4 71,q (.st 1 (t 72) (.const (.string ⟨#[69,82,82,32,97,114,103,115]⟩)))]
def f31r11:LS:=[o 16 (.mv (b false))]
def f31r12:LS:=[M 73 16,o 74 (.un .not (t 73)),M 75 74,
 n 76 75 (.mv (t 15)),
 n 77 75 (.mv (t 13)),
 n 78 75 (.call 57 [(t 76),(t 77)]),
 n 79 75 (.un .not (t 78)),o 80 (.pick (t 75) (b true) (t 79))]
def f31r13:LS:=[M 81 15,K 82 81,A 83 0 82,A 84 4 83,L 85 84,o 86 (.call 49 [(t 85)]),q (.st 4 (t 6) (t 86)),o 7 (.mv (.const (.slice none 0 0))),o 8 (.mv (b true))]
def f31r14:LS:=[M 87 15,M 88 15,K 89 88,A 90 0 89,A 91 2 90,L 92 91,o 93 (.ixs 1 (t 92) (i 0)),L 94 93,K 95 87,A 96 12 95,q (.st 1 (t 96) (t 94))]
def f31r15:LS:=[o 17 (.new [(.int .i64 0),(.int .i64 0),(.string ⟨#[]⟩),(.slice none 0 0)])]
def f31r16:LS:=[M 97 9,o 98 (.cmp .eql (t 97) (.const (.string ⟨#[83,73,78,84,69,82]⟩)))]
def f31r17:LS:=[M 99 15,o 100 (.call 58 [(t 99)]),q (.st 4 (t 17) (t 100))]
def f31r18:LS:=[M 101 15,M 102 12,o 103 (.call 59 [(t 101),(t 102)])]
def f31r19:LS:=[M 104 12]
def f31r20:LS:=[E 106 104 2,M 105 106]
def f31r21:LS:=[M 107 15,M 108 9,o 109 (.call 60 [(t 107),(t 108)]),q (.st 4 (t 17) (t 109))]
def f31r22:LS:=[E 111 104 3,M 110 111]
def f31r23:LS:=[M 112 15,M 113 9,o 114 (.call 61 [(t 112),(t 113)]),q (.st 4 (t 17) (t 114))]
def f31r24:LS:=[E 116 104 4,M 115 116]
def f31r25:LS:=[M 117 15,M 118 9,o 119 (.call 62 [(t 117),(t 118)]),q (.st 4 (t 17) (t 119))]
def f31r26:LS:=[E 121 104 5,M 120 121]
def f31r27:LS:=[M 122 15,M 123 9,o 124 (.call 63 [(t 122),(t 123)]),q (.st 4 (t 17) (t 124))]
def f31r28:LS:=[M 125 15,K 126 125,A 127 0 126,A 128 4 127,L 129 128,o 130 (.cmp .neq (t 129) e)]
def f31r29:LS:=[M 131 15,K 132 131,A 133 0 132,A 134 4 133,L 135 134,o 136 (.call 49 [(t 135)]),q (.st 4 (t 6) (t 136)),o 7 (.mv (.const (.slice none 0 0))),o 8 (.mv (b true))]
def f31p30:LS:=[o 137 (.ldn 4 (t 17)),M 138 15,K 139 138,A 140 0 139,A 141 3 140]
def f31r30:LS:=[L 142 141,q (.st 4 (t 6) (t 137)),M 7 142,o 8 (.mv (b true))]
def f31s30:LS:=[q (.st 4 (t 6) (t 137)),L 142 141,M 7 142,o 8 (.mv (b true))]
def f31:SCode:=(.j f31r0 (.seq (.j f31r1 (.k 20 f31r2)) (.j f31r3 (.j f31r4 (.seq (.j f31r5 (.k 35 f31r6)) (.j f31r7 (.j f31r8 (.seq (.j f31r9 (.cond (t 68) (.j f31r10 (.ops f31r11)) .skip)) (.seq (.j f31r12 (.k 80 f31r13)) (.j f31r14 (.j f31r15 (.seq (.j f31r16 (.cond (t 98) (.ops f31r17) (.j f31r18 (.cond (t 103) (.j f31r19 (.block 0 (.j f31r20 (.cond (t 105) (.ops f31r21) (.j f31r22 (.cond (t 110) (.ops f31r23) (.j f31r24 (.cond (t 115) (.ops f31r25) (.j f31r26 (.cond (t 120) (.ops f31r27) .skip)))))))))) .skip)))) (.seq (.j f31r28 (.k 130 f31r29)) (.seq (.two f31p30 f31r30 f31s30) .ret))))))))))))))
theorem f31_calls:Sound Tryz.prog 31 143 f31 [.cn 6 4,.t 7,.t 8]:=sdo Tryz.func31 rfl (by kernel_rfl)
def f33r0:LS:=[o 3 (.box (t 1)),o 4 (.new [(.bool false)])]
def f33r1:LS:=[o 5 (.new [(.int .i64 0)]),q (.st 1 (t 5) (i 0))]
def f33r2:LS:=[M 9 0,o 10 (.call 52 [(t 9)]),M 6 10]
def f33r3:LS:=[M 11 6,o 12 (.eqn 3 false (t 11))]
def f33r4:LS:=[q (.st 1 (t 4) (b false))]
def f33r5:LS:=[M 13 6]
def f33r6:LS:=[M 7 14]
def f33r7:LS:=[o 8 (.new [(.int .i64 0),(.string ⟨#[]⟩),(.slice none 0 0),(.slice none 0 0),(.slice none 0 0),(.bool false),(.int .i64 0)]),q (.st 7 (t 8) (t 15))]
def f33r8:LS:=[L 16 5,L 17 3,o 18 (.len (t 17)),o 19 (.cmp .geq (t 16) (t 18)),M 20 19,
 n 21 20 (.mv (t 7)),
 n 22 20 (.ld1 (t 3)),
 n 23 20 (.ld1 (t 5)),
 n 24 20 (.ixs 8 (t 22) (t 23)),
 n 25 20 (.fa 0 (t 24)),
 n 26 20 (.ld1 (t 25)),
 n 27 20 (.cmp .neq (t 21) (t 26)),o 28 (.pick (t 20) (b true) (t 27)),M 29 28,
 n 30 29 (.ldn 7 (t 8)),
 n 31 29 (.ld1 (t 3)),
 n 32 29 (.ld1 (t 5)),
 n 33 29 (.ixs 8 (t 31) (t 32)),
 n 34 29 (.fa 1 (t 33)),
 n 35 29 (.ldn 7 (t 34)),
 n 36 29 (.call 53 [(t 30),(t 35)]),
 n 37 29 (.un .not (t 36)),o 38 (.pick (t 29) (b true) (t 37))]
def f33r9:LS:=[q (.st 1 (t 4) (b false))]
def f33r10:LS:=[L 39 5,D 40 39 1,q (.st 1 (t 5) (t 40))]
def f33a11:SCode:=(.j f33r6 (.ops f33r7))
def f33b11:SCode:=(.block 1 (.seq (.j f33r8 (.k 38 f33r9)) (.ops f33r10)))
def f33r12:LS:=[L 41 5,L 42 3,o 43 (.len (t 42)),o 44 (.cmp .eql (t 41) (t 43)),q (.st 1 (t 4) (t 44))]
def f33:SCode:=(.j f33r0 (.j f33r1 (.j f33r2 (.seq (.j f33r3 (.k 12 f33r4)) (.seq (.j f33r5 (.block 0 (.rangeF (t 13) [14,15] f33a11 f33b11))) (.j f33r12 .ret))))))
theorem f33_calls:Sound Tryz.prog 33 45 f33 [.c1 4]:=sdo Tryz.func33 rfl (by kernel_rfl)
def f55r0:LS:=[I 2 0,I 3 0,I 4 0,I 5 0,o 6 (.mv (b false))]
def f55r1:LS:=[M 7 0]
def f55r2:LS:=[o 9 (.cmp .eql (t 7) (.const (.string ⟨#[72,83,69,84]⟩))),M 8 9]
def f55r3:LS:=[I 2 3,I 3 65536,I 4 2,I 5 0,o 6 (.mv (b true))]
def f55r4:LS:=[o 11 (.cmp .eql (t 7) (.const (.string ⟨#[72,71,69,84]⟩))),M 10 11]
def f55r5:LS:=[I 2 2,I 3 2,I 4 2,I 5 0,o 6 (.mv (b true))]
def f55r6:LS:=[o 13 (.cmp .eql (t 7) (.const (.string ⟨#[72,68,69,76]⟩))),M 12 13]
def f55r7:LS:=[I 2 2,I 3 65536,I 4 2,I 5 0,o 6 (.mv (b true))]
def f55r8:LS:=[o 15 (.cmp .eql (t 7) (.const (.string ⟨#[72,76,69,78]⟩))),M 14 15]
def f55r9:LS:=[o 16 (.cmp .eql (t 7) (.const (.string ⟨#[72,71,69,84,65,76,76]⟩))),M 14 16]
def f55r10:LS:=[I 2 1,I 3 1,I 4 2,I 5 0,o 6 (.mv (b true))]
def f55r11:LS:=[o 18 (.cmp .eql (t 7) (.const (.string ⟨#[72,73,78,67,82,66,89]⟩))),M 17 18]
def f55r12:LS:=[I 2 3,I 3 3,I 4 2,I 5 2,o 6 (.mv (b true))]
def f55r13:LS:=[o 20 (.cmp .eql (t 7) (.const (.string ⟨#[76,80,85,83,72]⟩))),M 19 20]
def f55r14:LS:=[o 21 (.cmp .eql (t 7) (.const (.string ⟨#[82,80,85,83,72]⟩))),M 19 21]
def f55r15:LS:=[I 2 2,I 3 65536,I 4 3,I 5 0,o 6 (.mv (b true))]
def f55r16:LS:=[o 23 (.cmp .eql (t 7) (.const (.string ⟨#[76,80,79,80]⟩))),M 22 23]
def f55r17:LS:=[o 24 (.cmp .eql (t 7) (.const (.string ⟨#[82,80,79,80]⟩))),M 22 24]
def f55r18:LS:=[o 25 (.cmp .eql (t 7) (.const (.string ⟨#[76,76,69,78]⟩))),M 22 25]
def f55r19:LS:=[I 2 1,I 3 1,I 4 3,I 5 0,o 6 (.mv (b true))]
def f55r20:LS:=[o 27 (.cmp .eql (t 7) (.const (.string ⟨#[76,73,78,68,69,88]⟩))),M 26 27]
def f55r21:LS:=[I 2 2,I 3 2,I 4 3,I 5 1,o 6 (.mv (b true))]
def f55r22:LS:=[o 29 (.cmp .eql (t 7) (.const (.string ⟨#[76,82,65,78,71,69]⟩))),M 28 29]
def f55r23:LS:=[I 2 3,I 3 3,I 4 3,I 5 3,o 6 (.mv (b true))]
def f55r24:LS:=[o 31 (.cmp .eql (t 7) (.const (.string ⟨#[76,83,69,84]⟩))),M 30 31]
def f55r25:LS:=[I 2 3,I 3 3,I 4 3,I 5 1,o 6 (.mv (b true))]
def f55r26:LS:=[o 33 (.cmp .eql (t 7) (.const (.string ⟨#[83,65,68,68]⟩))),M 32 33]
def f55r27:LS:=[o 34 (.cmp .eql (t 7) (.const (.string ⟨#[83,82,69,77]⟩))),M 32 34]
def f55r28:LS:=[I 2 2,I 3 65536,I 4 4,I 5 0,o 6 (.mv (b true))]
def f55r29:LS:=[o 36 (.cmp .eql (t 7) (.const (.string ⟨#[83,73,83,77,69,77,66,69,82]⟩))),M 35 36]
def f55r30:LS:=[I 2 2,I 3 2,I 4 4,I 5 0,o 6 (.mv (b true))]
def f55r31:LS:=[o 38 (.cmp .eql (t 7) (.const (.string ⟨#[83,67,65,82,68]⟩))),M 37 38]
def f55r32:LS:=[o 39 (.cmp .eql (t 7) (.const (.string ⟨#[83,77,69,77,66,69,82,83]⟩))),M 37 39]
def f55r33:LS:=[I 2 1,I 3 1,I 4 4,I 5 0,o 6 (.mv (b true))]
def f55r34:LS:=[o 41 (.cmp .eql (t 7) (.const (.string ⟨#[83,73,78,84,69,82]⟩))),M 40 41]
def f55r35:LS:=[I 2 1,I 3 65536,I 4 4,I 5 0,o 6 (.mv (b true))]
def f55r36:LS:=[o 43 (.cmp .eql (t 7) (.const (.string ⟨#[90,65,68,68]⟩))),M 42 43]
def f55r37:LS:=[I 2 3,I 3 65536,I 4 5,I 5 4,o 6 (.mv (b true))]
def f55r38:LS:=[o 45 (.cmp .eql (t 7) (.const (.string ⟨#[90,82,69,77]⟩))),M 44 45]
def f55r39:LS:=[I 2 2,I 3 65536,I 4 5,I 5 0,o 6 (.mv (b true))]
def f55r40:LS:=[o 47 (.cmp .eql (t 7) (.const (.string ⟨#[90,83,67,79,82,69]⟩))),M 46 47]
def f55r41:LS:=[o 48 (.cmp .eql (t 7) (.const (.string ⟨#[90,82,65,78,75]⟩))),M 46 48]
def f55r42:LS:=[I 2 2,I 3 2,I 4 5,I 5 0,o 6 (.mv (b true))]
def f55r43:LS:=[o 50 (.cmp .eql (t 7) (.const (.string ⟨#[90,73,78,67,82,66,89]⟩))),M 49 50]
def f55r44:LS:=[I 2 3,I 3 3,I 4 5,I 5 1,o 6 (.mv (b true))]
def f55r45:LS:=[o 52 (.cmp .eql (t 7) (.const (.string ⟨#[90,67,65,82,68]⟩))),M 51 52]
def f55r46:LS:=[I 2 1,I 3 1,I 4 5,I 5 0,o 6 (.mv (b true))]
def f55r47:LS:=[o 54 (.cmp .eql (t 7) (.const (.string ⟨#[90,82,65,78,71,69]⟩))),M 53 54]
def f55r48:LS:=[o 55 (.cmp .eql (t 7) (.const (.string ⟨#[90,82,65,78,71,69,66,89,83,67,79,82,69]⟩))),M 53 55]
def f55r49:LS:=[I 2 3,I 3 3,I 4 5,I 5 3,o 6 (.mv (b true))]
def f55r50:LS:=[I 2 0,I 3 0,I 4 0,I 5 0,o 6 (.mv (b false))]
def f55:SCode:=(.j f55r0 (.seq (.j f55r1 (.block 0 (.j f55r2 (.cond (t 8) (.j f55r3 .ret) (.j f55r4 (.cond (t 10) (.j f55r5 .ret) (.j f55r6 (.cond (t 12) (.j f55r7 .ret) (.seq (.j f55r8 (.cond (t 14) .skip (.ops f55r9))) (.cond (t 14) (.j f55r10 .ret) (.j f55r11 (.cond (t 17) (.j f55r12 .ret) (.seq (.j f55r13 (.cond (t 19) .skip (.ops f55r14))) (.cond (t 19) (.j f55r15 .ret) (.seq (.j f55r16 (.cond (t 22) .skip (.j f55r17 (.cond (t 22) .skip (.ops f55r18))))) (.cond (t 22) (.j f55r19 .ret) (.j f55r20 (.cond (t 26) (.j f55r21 .ret) (.j f55r22 (.cond (t 28) (.j f55r23 .ret) (.j f55r24 (.cond (t 30) (.j f55r25 .ret) (.seq (.j f55r26 (.cond (t 32) .skip (.ops f55r27))) (.cond (t 32) (.j f55r28 .ret) (.j f55r29 (.cond (t 35) (.j f55r30 .ret) (.seq (.j f55r31 (.cond (t 37) .skip (.ops f55r32))) (.cond (t 37) (.j f55r33 .ret) (.j f55r34 (.cond (t 40) (.j f55r35 .ret) (.j f55r36 (.cond (t 42) (.j f55r37 .ret) (.j f55r38 (.cond (t 44) (.j f55r39 .ret) (.seq (.j f55r40 (.cond (t 46) .skip (.ops f55r41))) (.cond (t 46) (.j f55r42 .ret) (.j f55r43 (.cond (t 49) (.j f55r44 .ret) (.j f55r45 (.cond (t 51) (.j f55r46 .ret) (.seq (.j f55r47 (.cond (t 53) .skip (.ops f55r48))) (.k 53 f55r49)))))))))))))))))))))))))))))))))))))))))) (.j f55r50 .ret)))
theorem f55_calls:Sound Tryz.prog 55 56 f55 [.t 2,.t 3,.t 4,.t 5,.t 6]:=sdo Tryz.func55 rfl (by kernel_rfl)
def f57r0:LS:=[o 4 (.mv (b false))]
def f57r1:LS:=[I 5 1]
def f57r2:LS:=[M 8 5,M 9 0,K 10 9,A 11 0 10,A 12 2 11,L 13 12,o 14 (.len (t 13)),o 15 (.cmp .lss (t 8) (t 14))]
def f57r3:LS:=[M 18 1,E 19 18 4,M 20 19,
 g 21 20 (.mv (t 5)),
 g 22 20 (.rem (t 21) (i 2)),
 g 23 20 (.cmp .eql (t 22) (i 1)),o 24 (.pick (t 20) (t 23) (b false)),M 25 24,
 n 26 25 (.mv (t 1)),
 n 27 25 (.cmp .eql (t 26) (i 3)),o 28 (.pick (t 25) (b true) (t 27)),M 29 28,
 n 30 29 (.mv (t 1)),
 n 31 29 (.mv (t 5)),
 n 32 29 (.cmp .eql (t 30) (t 31)),
 n 33 29 (.mv (t 32)),
 g 34 33 (.mv (t 1)),
 g 35 33 (.cmp .lss (t 34) (i 3)),
 n 36 29 (.pick (t 33) (t 35) (b false)),o 37 (.pick (t 29) (b true) (t 36))]
def f57r4:LS:=[M 39 0,K 40 39,A 41 0 40,M 42 5,o 43 (.call 121 [(t 41),(t 42)]),M 38 43,X 44 38 0,X 45 38 1,M 6 44,M 7 45]
def f57r5:LS:=[M 46 7,o 47 (.un .not (t 46))]
def f57r6:LS:=[o 4 (.mv (b false))]
def f57r7:LS:=[M 16 5,D 17 16 1,M 5 17]
def f57l8:SCode:=(.seq (.j f57r2 (.cond (t 15) .skip (.exit 0))) (.seq (.block 1 (.j f57r3 (.cond (t 37) (.j f57r4 (.j f57r5 (.k 47 f57r6))) .skip))) (.ops f57r7)))
def f57r9:LS:=[o 4 (.mv (b true))]
def f57:SCode:=(.j f57r0 (.seq (.j f57r1 (.block 0 (.loop f57l8))) (.j f57r9 .ret)))
theorem f57_calls:Sound Tryz.prog 57 48 f57 [.t 4]:=sdo Tryz.func57 rfl (by kernel_rfl)
def f58r0:LS:=[o 2 (.new [(.int .i64 0),(.int .i64 0),(.string ⟨#[]⟩),(.slice none 0 0)])]
def f58r1:LS:=[o 3 (.mv (.const (.slice none 0 0)))]
def f58r2:LS:=[I 4 0]
def f58r3:LS:=[M 7 4,M 8 0,K 9 8,A 10 0 9,A 11 2 10,L 12 11,o 13 (.len (t 12)),o 14 (.cmp .lss (t 7) (t 13))]
def f58r4:LS:=[M 17 0,M 18 0,K 19 18,A 20 0 19,A 21 2 20,L 22 21,M 23 4,G 24 1 22 23,L 25 24,K 26 17,A 27 12 26,q (.st 1 (t 27) (t 25))]
def f58r5:LS:=[M 28 0,o 29 (.call 59 [(t 28),(i 4)]),o 30 (.un .not (t 29))]
def f58r6:LS:=[o 31 (.build [(.int .i64 0),(.int .i64 0),(.string ⟨#[]⟩),(.slice none 0 0)] [] []),q (.st 4 (t 2) (t 31))]
def f58r7:LS:=[M 32 4,E 33 32 0]
def f58r8:LS:=[M 34 0,K 35 34,A 36 5 35,A 37 3 36,L 38 37,M 3 38]
def f58r9:LS:=[o 5 (.mv (.const (.slice none 0 0)))]
def f58r10:LS:=[I 6 0]
def f58r11:LS:=[M 39 6,M 40 3,o 41 (.len (t 40)),o 42 (.cmp .lss (t 39) (t 41))]
def f58r12:LS:=[M 45 0,M 46 3,M 47 6,G 48 1 46 47,L 49 48,o 50 (.call 122 [(t 45),(t 49)])]
def f58r13:LS:=[M 51 5,M 52 3,M 53 6,G 54 1 52 53,L 55 54,o 56 (.bslice [(.string ⟨#[]⟩)] 1 [(0,1)] [(t 55)]),o 57 (.app 1 16 [(.string ⟨#[]⟩)] (t 51) (t 56)),M 5 57]
def f58r14:LS:=[M 43 6,D 44 43 1,M 6 44]
def f58l15:SCode:=(.seq (.j f58r11 (.cond (t 42) .skip (.exit 2))) (.seq (.block 3 (.j f58r12 (.cond (t 50) (.ops f58r13) .skip))) (.ops f58r14)))
def f58r16:LS:=[M 58 5,M 3 58]
def f58r17:LS:=[M 15 4,D 16 15 1,M 4 16]
def f58l18:SCode:=(.seq (.j f58r3 (.cond (t 14) .skip (.exit 0))) (.seq (.block 1 (.j f58r4 (.seq (.j f58r5 (.k 30 f58r6)) (.seq (.j f58r7 (.cond (t 33) (.j f58r8 (.exit 1)) .skip)) (.j f58r9 (.seq (.j f58r10 (.block 2 (.loop f58l15))) (.ops f58r16))))))) (.ops f58r17)))
def f58r19:LS:=[M 59 3,o 60 (.call 123 [(t 59)]),q (.st 4 (t 2) (t 60))]
def f58:SCode:=(.j f58r0 (.j f58r1 (.seq (.j f58r2 (.block 0 (.loop f58l18))) (.j f58r19 .ret))))
theorem f58_calls:Sound Tryz.prog 58 61 f58 [.cn 2 4]:=sdo Tryz.func58 rfl (by kernel_rfl)
def f60r0:LS:=[o 4 (.new [(.int .i64 0),(.int .i64 0),(.string ⟨#[]⟩),(.slice none 0 0)])]
def f60r1:LS:=[M 18 1]
def f60r2:LS:=[o 20 (.cmp .eql (t 18) (.const (.string ⟨#[72,83,69,84]⟩))),M 19 20]
def f60r3:LS:=[I 5 0]
def f60r4:LS:=[I 6 1]
def f60r5:LS:=[M 21 6,M 22 0,K 23 22,A 24 0 23,A 25 2 24,L 26 25,o 27 (.len (t 26)),o 28 (.cmp .lss (t 21) (t 27))]
def f60r6:LS:=[M 31 0,M 32 0,K 33 32,A 34 0 33,A 35 2 34,L 36 35,M 37 6,G 38 1 36 37,L 39 38,o 40 (.call 125 [(t 31),(i 2),(t 39)]),o 41 (.un .not (t 40)),M 42 41,
 g 43 42 (.mv (t 0)),
 g 44 42 (.mv (t 6)),
 g 45 42 (.call 126 [(t 43),(t 44),(i 1),(i 2)]),
 g 46 42 (.un .not (t 45)),o 47 (.pick (t 42) (t 46) (b false))]
def f60r7:LS:=[M 48 5,D 49 48 1,M 5 49]
def f60r8:LS:=[M 50 0,M 51 0,K 52 51,A 53 0 52,A 54 2 53,L 55 54,M 56 6,G 57 1 55 56,L 58 57,M 59 0,K 60 59,A 61 0 60,A 62 2 61,L 63 62,M 64 6,D 65 64 1,G 66 1 63 65,L 67 66,o 68 (.build [(.int .i64 0),(.string ⟨#[]⟩),(.string ⟨#[]⟩),(.string ⟨#[]⟩),(.int .i64 0)] [(0,1),(2,1),(3,1)] [(i 5),(t 58),(t 67)]),M 69 0,K 70 69,A 71 5 70,A 72 2 71,L 73 72,o 74 (.len (t 73)),M 75 5,o 76 (.ar .add (t 74) (t 75)),o 77 (.call 127 [(t 50),(t 68),(t 76)]),o 78 (.un .not (t 77))]
def f60r9:LS:=[o 79 (.build [(.int .i64 0),(.int .i64 0),(.string ⟨#[]⟩),(.slice none 0 0)] [] []),q (.st 4 (t 4) (t 79))]
def f60r10:LS:=[M 29 6,D 30 29 2,M 6 30]
def f60l11:SCode:=(.seq (.j f60r5 (.cond (t 28) .skip (.exit 1))) (.seq (.block 2 (.seq (.j f60r6 (.cond (t 47) (.ops f60r7) .skip)) (.j f60r8 (.k 78 f60r9)))) (.ops f60r10)))
def f60r12:LS:=[M 80 5,o 81 (.call 128 [(t 80)]),q (.st 4 (t 4) (t 81))]
def f60r13:LS:=[o 83 (.cmp .eql (t 18) (.const (.string ⟨#[72,71,69,84]⟩))),M 82 83]
def f60r14:LS:=[M 85 0,M 86 0,K 87 86,A 88 0 87,A 89 2 88,L 90 89,o 91 (.ixs 1 (t 90) (i 1)),L 92 91,o 93 (.call 129 [(t 85),(t 92)]),M 84 93,X 94 84 0,X 95 84 1,M 7 94,M 8 95]
def f60r15:LS:=[M 96 8,o 97 (.un .not (t 96))]
def f60r16:LS:=[o 98 (.build [(.int .i64 0),(.int .i64 0),(.string ⟨#[]⟩),(.slice none 0 0)] [] []),q (.st 4 (t 4) (t 98))]
def f60r17:LS:=[M 99 7,o 100 (.call 130 [(t 99)]),q (.st 4 (t 4) (t 100))]
def f60r18:LS:=[o 102 (.cmp .eql (t 18) (.const (.string ⟨#[72,68,69,76]⟩))),M 101 102]
def f60r19:LS:=[M 103 0,o 104 (.call 131 [(t 103),(i 2),(i 6)]),q (.st 4 (t 4) (t 104))]
def f60r20:LS:=[o 106 (.cmp .eql (t 18) (.const (.string ⟨#[72,76,69,78]⟩))),M 105 106]
def f60r21:LS:=[M 107 0,K 108 107,A 109 5 108,A 110 2 109,L 111 110,o 112 (.len (t 111)),o 113 (.call 128 [(t 112)]),q (.st 4 (t 4) (t 113))]
def f60r22:LS:=[o 115 (.cmp .eql (t 18) (.const (.string ⟨#[72,71,69,84,65,76,76]⟩))),M 114 115]
def f60r23:LS:=[o 9 (.mv (.const (.slice none 0 0)))]
def f60r24:LS:=[I 10 0]
def f60r25:LS:=[M 116 10,M 117 0,K 118 117,A 119 5 118,A 120 2 119,L 121 120,o 122 (.len (t 121)),o 123 (.cmp .lss (t 116) (t 122))]
def f60r26:LS:=[M 126 9,M 127 0,K 128 127,A 129 5 128,A 130 2 129,L 131 130,M 132 10,G 133 2 131 132,A 134 0 133,L 135 134,M 136 0,K 137 136,A 138 5 137,A 139 2 138,L 140 139,M 141 10,G 142 2 140 141,A 143 1 142,L 144 143,o 145 (.bslice [(.string ⟨#[]⟩),(.string ⟨#[]⟩)] 2 [(0,1),(1,1)] [(t 135),(t 144)]),o 146 (.app 1 16 [(.string ⟨#[]⟩)] (t 126) (t 145)),M 9 146]
def f60r27:LS:=[M 124 10,D 125 124 1,M 10 125]
def f60l28:SCode:=(.seq (.j f60r25 (.cond (t 123) .skip (.exit 3))) (.seq (.block 4 (.ops f60r26)) (.ops f60r27)))
def f60r29:LS:=[M 147 9,o 148 (.call 123 [(t 147)]),q (.st 4 (t 4) (t 148))]
def f60r30:LS:=[M 150 0,K 151 150,A 152 0 151,A 153 2 152,L 154 153,o 155 (.ixs 1 (t 154) (i 2)),L 156 155,o 157 (.call 132 [(t 156)]),M 149 157,X 158 149 0,X 159 149 1,M 11 158,M 12 159]
def f60r31:LS:=[M 161 0,M 162 0,K 163 162,A 164 0 163,A 165 2 164,L 166 165,o 167 (.ixs 1 (t 166) (i 1)),L 168 167,o 169 (.call 129 [(t 161),(t 168)]),M 160 169,X 170 160 0,X 171 160 1,M 13 170,M 14 171]
def f60r32:LS:=[I 15 0,o 16 (.mv (b true))]
def f60r33:LS:=[M 172 0,K 173 172,A 174 5 173,A 175 2 174,L 176 175,o 177 (.len (t 176)),D 178 177 1,M 17 178]
def f60r34:LS:=[M 179 14]
def f60r35:LS:=[M 180 17,o 181 (.ar .sub (t 180) (i 1)),M 17 181]
def f60r36:LS:=[M 183 13,o 184 (.call 132 [(t 183)]),M 182 184,X 185 182 0,X 186 182 1,M 15 185,M 16 186]
def f60r37:LS:=[M 187 16,o 188 (.un .not (t 187))]
def f60r38:LS:=[M 189 0,K 190 189,A 191 0 190,A 192 4 191,q (.st 1 (t 192) (.const (.string ⟨#[69,82,82,32,110,117,109,98,101,114]⟩)))]
def f60r39:LS:=[o 193 (.build [(.int .i64 0),(.int .i64 0),(.string ⟨#[]⟩),(.slice none 0 0)] [] []),q (.st 4 (t 4) (t 193))]
def f60r40:LS:=[M 195 0,K 196 195,A 197 0 196,M 198 15,M 199 11,o 200 (.call 133 [(t 197),(t 198),(t 199)]),M 194 200,X 201 194 0,X 202 194 1,M 15 201,M 16 202]
def f60r41:LS:=[M 203 16]
def f60r42:LS:=[M 204 0,M 205 0,K 206 205,A 207 0 206,A 208 2 207,L 209 208,o 210 (.ixs 1 (t 209) (i 1)),L 211 210,M 212 15,M 215 17,o 213 (.callq 34 [(t 212),(i 10)]),o 214 (.build [(.int .i64 0),(.string ⟨#[]⟩),(.string ⟨#[]⟩),(.string ⟨#[]⟩),(.int .i64 0)] [(0,1),(2,1),(3,1)] [(i 5),(t 211),(t 213)]),o 216 (.call 127 [(t 204),(t 214),(t 215)])]
def f60r43:LS:=[M 217 15,o 218 (.call 128 [(t 217)]),q (.st 4 (t 4) (t 218))]
def f60:SCode:=(.j f60r0 (.seq (.j f60r1 (.block 0 (.j f60r2 (.cond (t 19) (.j f60r3 (.seq (.j f60r4 (.block 1 (.loop f60l11))) (.j f60r12 .ret))) (.j f60r13 (.cond (t 82) (.j f60r14 (.seq (.j f60r15 (.k 97 f60r16)) (.j f60r17 .ret))) (.j f60r18 (.cond (t 101) (.j f60r19 .ret) (.j f60r20 (.cond (t 105) (.j f60r21 .ret) (.j f60r22 (.cond (t 114) (.j f60r23 (.seq (.j f60r24 (.block 3 (.loop f60l28))) (.j f60r29 .ret))) .skip)))))))))))) (.j f60r30 (.j f60r31 (.j f60r32 (.j f60r33 (.seq (.j f60r34 (.cond (t 179) (.j f60r35 (.ops f60r36)) .skip)) (.seq (.j f60r37 (.cond (t 188) (.j f60r38 (.j f60r39 .ret)) .skip)) (.j f60r40 (.seq (.j f60r41 (.cond (t 203) (.ops f60r42) .skip)) (.j f60r43 .ret)))))))))))
theorem f60_calls:Sound Tryz.prog 60 219 f60 [.cn 4 4]:=sdo Tryz.func60 rfl (by kernel_rfl)
def f61r0:LS:=[o 4 (.new [(.int .i64 0),(.int .i64 0),(.string ⟨#[]⟩),(.slice none 0 0)])]
def f61r1:LS:=[M 16 0,K 17 16,A 18 5 17,A 19 3 18,L 20 19,M 5 20]
def f61r2:LS:=[M 21 1]
def f61r3:LS:=[o 23 (.cmp .eql (t 21) (.const (.string ⟨#[76,80,85,83,72]⟩))),M 22 23]
def f61r4:LS:=[o 24 (.cmp .eql (t 21) (.const (.string ⟨#[82,80,85,83,72]⟩))),M 22 24]
def f61r5:LS:=[I 6 7]
def f61r6:LS:=[M 25 1,o 26 (.cmp .eql (t 25) (.const (.string ⟨#[82,80,85,83,72]⟩)))]
def f61r7:LS:=[I 6 8]
def f61r8:LS:=[I 7 1]
def f61r9:LS:=[M 27 7,M 28 0,K 29 28,A 30 0 29,A 31 2 30,L 32 31,o 33 (.len (t 32)),o 34 (.cmp .lss (t 27) (t 33))]
def f61r10:LS:=[M 37 0,M 38 6,M 39 0,K 40 39,A 41 0 40,A 42 2 41,L 43 42,M 44 7,G 45 1 43 44,L 46 45,o 47 (.build [(.int .i64 0),(.string ⟨#[]⟩),(.string ⟨#[]⟩),(.string ⟨#[]⟩),(.int .i64 0)] [(0,1),(3,1)] [(t 38),(t 46)]),M 48 5,o 49 (.len (t 48)),M 50 7,o 51 (.ar .add (t 49) (t 50)),o 52 (.call 127 [(t 37),(t 47),(t 51)]),o 53 (.un .not (t 52))]
def f61r11:LS:=[o 54 (.build [(.int .i64 0),(.int .i64 0),(.string ⟨#[]⟩),(.slice none 0 0)] [] []),q (.st 4 (t 4) (t 54))]
def f61r12:LS:=[M 35 7,D 36 35 1,M 7 36]
def f61l13:SCode:=(.seq (.j f61r9 (.cond (t 34) .skip (.exit 1))) (.seq (.block 2 (.j f61r10 (.k 53 f61r11))) (.ops f61r12)))
def f61r14:LS:=[M 55 5,o 56 (.len (t 55)),M 57 0,K 58 57,A 59 0 58,A 60 2 59,L 61 60,o 62 (.len (t 61)),o 63 (.ar .add (t 56) (t 62)),o 64 (.ar .sub (t 63) (i 1)),o 65 (.call 128 [(t 64)]),q (.st 4 (t 4) (t 65))]
def f61r15:LS:=[o 67 (.cmp .eql (t 21) (.const (.string ⟨#[76,80,79,80]⟩))),M 66 67]
def f61r16:LS:=[o 68 (.cmp .eql (t 21) (.const (.string ⟨#[82,80,79,80]⟩))),M 66 68]
def f61r17:LS:=[M 69 5,o 70 (.len (t 69)),E 71 70 0]
def f61r18:LS:=[o 72 (.build [(.int .i64 0),(.int .i64 0),(.string ⟨#[]⟩),(.slice none 0 0)] [] []),q (.st 4 (t 4) (t 72))]
def f61r19:LS:=[M 73 1,o 74 (.cmp .eql (t 73) (.const (.string ⟨#[76,80,79,80]⟩)))]
def f61r20:LS:=[M 75 0,o 76 (.build [(.int .i64 0),(.string ⟨#[]⟩),(.string ⟨#[]⟩),(.string ⟨#[]⟩),(.int .i64 0)] [(0,1)] [(i 9)]),o 77 (.call 134 [(t 75),(t 76)])]
def f61r21:LS:=[M 78 5,o 79 (.ixs 1 (t 78) (i 0)),L 80 79,o 81 (.call 130 [(t 80)]),q (.st 4 (t 4) (t 81))]
def f61r22:LS:=[M 82 0,o 83 (.build [(.int .i64 0),(.string ⟨#[]⟩),(.string ⟨#[]⟩),(.string ⟨#[]⟩),(.int .i64 0)] [(0,1)] [(i 10)]),o 84 (.call 134 [(t 82),(t 83)])]
def f61r23:LS:=[M 85 5,M 86 5,o 87 (.len (t 86)),o 88 (.ar .sub (t 87) (i 1)),G 89 1 85 88,L 90 89,o 91 (.call 130 [(t 90)]),q (.st 4 (t 4) (t 91))]
def f61r24:LS:=[o 93 (.cmp .eql (t 21) (.const (.string ⟨#[76,76,69,78]⟩))),M 92 93]
def f61r25:LS:=[M 94 5,o 95 (.len (t 94)),o 96 (.call 128 [(t 95)]),q (.st 4 (t 4) (t 96))]
def f61r26:LS:=[M 98 0,K 99 98,A 100 0 99,A 101 2 100,L 102 101,o 103 (.ixs 1 (t 102) (i 1)),L 104 103,o 105 (.call 132 [(t 104)]),M 97 105,X 106 97 0,X 107 97 1,M 8 106,M 9 107]
def f61r27:LS:=[M 108 1,o 109 (.cmp .eql (t 108) (.const (.string ⟨#[76,82,65,78,71,69]⟩)))]
def f61r28:LS:=[M 111 0,K 112 111,A 113 0 112,A 114 2 113,L 115 114,o 116 (.ixs 1 (t 115) (i 2)),L 117 116,o 118 (.call 132 [(t 117)]),M 110 118,X 119 110 0,X 120 110 1,M 10 119,M 11 120]
def f61r29:LS:=[M 122 5,o 123 (.len (t 122)),M 124 8,M 125 10,o 126 (.call 135 [(t 123),(t 124),(t 125)]),M 121 126,X 127 121 0,X 128 121 1,M 12 127,M 13 128]
def f61r30:LS:=[M 129 5,M 130 12,M 131 13,o 132 (.slc 1 (t 129) (some (t 130)) (some (t 131))),o 133 (.call 123 [(t 132)]),q (.st 4 (t 4) (t 133))]
def f61r31:LS:=[M 135 5,o 136 (.len (t 135)),M 137 8,o 138 (.call 136 [(t 136),(t 137)]),M 134 138,X 139 134 0,X 140 134 1,M 14 139,M 15 140]
def f61r32:LS:=[M 141 1,o 142 (.cmp .eql (t 141) (.const (.string ⟨#[76,73,78,68,69,88]⟩)))]
def f61r33:LS:=[M 143 15,o 144 (.un .not (t 143))]
def f61r34:LS:=[o 145 (.build [(.int .i64 0),(.int .i64 0),(.string ⟨#[]⟩),(.slice none 0 0)] [] []),q (.st 4 (t 4) (t 145))]
def f61r35:LS:=[M 146 5,M 147 14,G 148 1 146 147,L 149 148,o 150 (.call 130 [(t 149)]),q (.st 4 (t 4) (t 150))]
def f61r36:LS:=[M 151 15,o 152 (.un .not (t 151))]
def f61r37:LS:=[M 153 0,K 154 153,A 155 0 154,A 156 4 155,q (.st 1 (t 156) (.const (.string ⟨#[69,82,82,32,114,97,110,103,101]⟩)))]
def f61r38:LS:=[o 157 (.build [(.int .i64 0),(.int .i64 0),(.string ⟨#[]⟩),(.slice none 0 0)] [] []),q (.st 4 (t 4) (t 157))]
def f61r39:LS:=[M 158 0,M 159 14,M 160 0,K 161 160,A 162 0 161,A 163 2 162,L 164 163,o 165 (.ixs 1 (t 164) (i 2)),L 166 165,o 167 (.build [(.int .i64 0),(.string ⟨#[]⟩),(.string ⟨#[]⟩),(.string ⟨#[]⟩),(.int .i64 0)] [(0,1),(4,1),(3,1)] [(i 11),(t 159),(t 166)]),M 168 5,o 169 (.len (t 168)),o 170 (.call 127 [(t 158),(t 167),(t 169)])]
def f61r40:LS:=[o 171 (.call 137 [(.const (.string ⟨#[79,75]⟩))]),q (.st 4 (t 4) (t 171))]
def f61:SCode:=(.j f61r0 (.j f61r1 (.seq (.j f61r2 (.block 0 (.seq (.j f61r3 (.cond (t 22) .skip (.ops f61r4))) (.cond (t 22) (.j f61r5 (.seq (.j f61r6 (.cond (t 26) (.ops f61r7) .skip)) (.seq (.j f61r8 (.block 1 (.loop f61l13))) (.j f61r14 .ret)))) (.seq (.j f61r15 (.cond (t 66) .skip (.ops f61r16))) (.cond (t 66) (.seq (.j f61r17 (.k 71 f61r18)) (.seq (.j f61r19 (.cond (t 74) (.j f61r20 (.j f61r21 .ret)) .skip)) (.j f61r22 (.j f61r23 .ret)))) (.j f61r24 (.k 92 f61r25)))))))) (.j f61r26 (.seq (.j f61r27 (.cond (t 109) (.j f61r28 (.j f61r29 (.j f61r30 .ret))) .skip)) (.j f61r31 (.seq (.j f61r32 (.cond (t 142) (.seq (.j f61r33 (.k 144 f61r34)) (.j f61r35 .ret)) .skip)) (.seq (.j f61r36 (.cond (t 152) (.j f61r37 (.j f61r38 .ret)) .skip)) (.j f61r39 (.j f61r40 .ret))))))))))
theorem f61_calls:Sound Tryz.prog 61 172 f61 [.cn 4 4]:=sdo Tryz.func61 rfl (by kernel_rfl)
def f62r0:LS:=[o 4 (.new [(.int .i64 0),(.int .i64 0),(.string ⟨#[]⟩),(.slice none 0 0)])]
def f62r1:LS:=[M 7 1]
def f62r2:LS:=[o 9 (.cmp .eql (t 7) (.const (.string ⟨#[83,65,68,68]⟩))),M 8 9]
def f62r3:LS:=[I 5 0]
def f62r4:LS:=[I 6 1]
def f62r5:LS:=[M 10 6,M 11 0,K 12 11,A 13 0 12,A 14 2 13,L 15 14,o 16 (.len (t 15)),o 17 (.cmp .lss (t 10) (t 16))]
def f62r6:LS:=[M 20 0,M 21 0,K 22 21,A 23 0 22,A 24 2 23,L 25 24,M 26 6,G 27 1 25 26,L 28 27,o 29 (.call 122 [(t 20),(t 28)]),M 30 29,
 n 31 30 (.mv (t 0)),
 n 32 30 (.mv (t 6)),
 n 33 30 (.call 126 [(t 31),(t 32),(i 1),(i 1)]),o 34 (.pick (t 30) (b true) (t 33))]
def f62r7:LS:=[M 35 5,D 36 35 1,M 5 36]
def f62r8:LS:=[M 37 0,M 38 0,K 39 38,A 40 0 39,A 41 2 40,L 42 41,M 43 6,G 44 1 42 43,L 45 44,o 46 (.build [(.int .i64 0),(.string ⟨#[]⟩),(.string ⟨#[]⟩),(.string ⟨#[]⟩),(.int .i64 0)] [(0,1),(2,1)] [(i 12),(t 45)]),M 47 0,K 48 47,A 49 5 48,A 50 3 49,L 51 50,o 52 (.len (t 51)),M 53 5,o 54 (.ar .add (t 52) (t 53)),o 55 (.call 127 [(t 37),(t 46),(t 54)]),o 56 (.un .not (t 55))]
def f62r9:LS:=[o 57 (.build [(.int .i64 0),(.int .i64 0),(.string ⟨#[]⟩),(.slice none 0 0)] [] []),q (.st 4 (t 4) (t 57))]
def f62r10:LS:=[M 18 6,D 19 18 1,M 6 19]
def f62l11:SCode:=(.seq (.j f62r5 (.cond (t 17) .skip (.exit 1))) (.seq (.block 2 (.seq (.j f62r6 (.cond (t 34) (.exit 2) .skip)) (.j f62r7 (.j f62r8 (.k 56 f62r9))))) (.ops f62r10)))
def f62r12:LS:=[M 58 5,o 59 (.call 128 [(t 58)]),q (.st 4 (t 4) (t 59))]
def f62r13:LS:=[o 61 (.cmp .eql (t 7) (.const (.string ⟨#[83,82,69,77]⟩))),M 60 61]
def f62r14:LS:=[M 62 0,o 63 (.call 131 [(t 62),(i 4),(i 13)]),q (.st 4 (t 4) (t 63))]
def f62r15:LS:=[o 65 (.cmp .eql (t 7) (.const (.string ⟨#[83,73,83,77,69,77,66,69,82]⟩))),M 64 65]
def f62r16:LS:=[M 66 0,M 67 0,K 68 67,A 69 0 68,A 70 2 69,L 71 70,o 72 (.ixs 1 (t 71) (i 1)),L 73 72,o 74 (.call 122 [(t 66),(t 73)])]
def f62r17:LS:=[o 75 (.call 128 [(i 1)]),q (.st 4 (t 4) (t 75))]
def f62r18:LS:=[o 76 (.call 128 [(i 0)]),q (.st 4 (t 4) (t 76))]
def f62r19:LS:=[o 78 (.cmp .eql (t 7) (.const (.string ⟨#[83,67,65,82,68]⟩))),M 77 78]
def f62r20:LS:=[M 79 0,K 80 79,A 81 5 80,A 82 3 81,L 83 82,o 84 (.len (t 83)),o 85 (.call 128 [(t 84)]),q (.st 4 (t 4) (t 85))]
def f62r21:LS:=[M 86 0,K 87 86,A 88 5 87,A 89 3 88,L 90 89,o 91 (.call 123 [(t 90)]),q (.st 4 (t 4) (t 91))]
def f62:SCode:=(.j f62r0 (.seq (.j f62r1 (.block 0 (.j f62r2 (.cond (t 8) (.j f62r3 (.seq (.j f62r4 (.block 1 (.loop f62l11))) (.j f62r12 .ret))) (.j f62r13 (.cond (t 60) (.j f62r14 .ret) (.j f62r15 (.cond (t 64) (.seq (.j f62r16 (.k 74 f62r17)) (.j f62r18 .ret)) (.j f62r19 (.k 77 f62r20)))))))))) (.j f62r21 .ret)))
theorem f62_calls:Sound Tryz.prog 62 92 f62 [.cn 4 4]:=sdo Tryz.func62 rfl (by kernel_rfl)
def f63r0:LS:=[o 4 (.new [(.int .i64 0),(.int .i64 0),(.string ⟨#[]⟩),(.slice none 0 0)])]
def f63r1:LS:=[M 26 0,K 27 26,A 28 5 27,A 29 4 28,L 30 29,M 5 30]
def f63r2:LS:=[M 31 1]
def f63r3:LS:=[o 33 (.cmp .eql (t 31) (.const (.string ⟨#[90,65,68,68]⟩))),M 32 33]
def f63r4:LS:=[I 6 0]
def f63r5:LS:=[I 7 1]
def f63r6:LS:=[M 34 7,M 35 0,K 36 35,A 37 0 36,A 38 2 37,L 39 38,o 40 (.len (t 39)),o 41 (.cmp .lss (t 34) (t 40))]
def f63r7:LS:=[M 44 0,M 45 0,K 46 45,A 47 0 46,A 48 2 47,L 49 48,M 50 7,D 51 50 1,G 52 1 49 51,L 53 52,o 54 (.call 125 [(t 44),(i 5),(t 53)]),o 55 (.un .not (t 54)),M 56 55,
 g 57 56 (.mv (t 0)),
 g 58 56 (.mv (t 7)),
 g 59 56 (.ar .add (t 58) (i 1)),
 g 60 56 (.call 126 [(t 57),(t 59),(i 2),(i 2)]),
 g 61 56 (.un .not (t 60)),o 62 (.pick (t 56) (t 61) (b false))]
def f63r8:LS:=[M 63 6,D 64 63 1,M 6 64]
def f63r9:LS:=[M 66 0,K 67 66,A 68 0 67,A 69 2 68,L 70 69,M 71 7,G 72 1 70 71,L 73 72,o 74 (.call 132 [(t 73)]),M 65 74,X 75 65 0,X 76 65 1,M 8 75,M 9 76]
def f63r10:LS:=[M 77 0,M 78 0,K 79 78,A 80 0 79,A 81 2 80,L 82 81,M 83 7,D 84 83 1,G 85 1 82 84,L 86 85,M 87 8,o 88 (.build [(.int .i64 0),(.string ⟨#[]⟩),(.string ⟨#[]⟩),(.string ⟨#[]⟩),(.int .i64 0)] [(0,1),(2,1),(4,1)] [(i 14),(t 86),(t 87)]),M 89 5,o 90 (.len (t 89)),M 91 6,o 92 (.ar .add (t 90) (t 91)),o 93 (.call 127 [(t 77),(t 88),(t 92)]),o 94 (.un .not (t 93))]
def f63r11:LS:=[o 95 (.build [(.int .i64 0),(.int .i64 0),(.string ⟨#[]⟩),(.slice none 0 0)] [] []),q (.st 4 (t 4) (t 95))]
def f63r12:LS:=[M 42 7,D 43 42 2,M 7 43]
def f63l13:SCode:=(.seq (.j f63r6 (.cond (t 41) .skip (.exit 1))) (.seq (.block 2 (.seq (.j f63r7 (.cond (t 62) (.ops f63r8) .skip)) (.j f63r9 (.j f63r10 (.k 94 f63r11))))) (.ops f63r12)))
def f63r14:LS:=[M 96 6,o 97 (.call 128 [(t 96)]),q (.st 4 (t 4) (t 97))]
def f63r15:LS:=[o 99 (.cmp .eql (t 31) (.const (.string ⟨#[90,82,69,77]⟩))),M 98 99]
def f63r16:LS:=[M 100 0,o 101 (.call 131 [(t 100),(i 5),(i 15)]),q (.st 4 (t 4) (t 101))]
def f63r17:LS:=[o 103 (.cmp .eql (t 31) (.const (.string ⟨#[90,67,65,82,68]⟩))),M 102 103]
def f63r18:LS:=[M 104 5,o 105 (.len (t 104)),o 106 (.call 128 [(t 105)]),q (.st 4 (t 4) (t 106))]
def f63r19:LS:=[o 108 (.cmp .eql (t 31) (.const (.string ⟨#[90,83,67,79,82,69]⟩))),M 107 108]
def f63r20:LS:=[o 109 (.cmp .eql (t 31) (.const (.string ⟨#[90,82,65,78,75]⟩))),M 107 109]
def f63r21:LS:=[M 111 0,M 112 0,K 113 112,A 114 0 113,A 115 2 114,L 116 115,o 117 (.ixs 1 (t 116) (i 1)),L 118 117,o 119 (.call 138 [(t 111),(t 118)]),M 110 119,X 120 110 0,X 121 110 1,X 122 110 2,M 10 120,M 11 121,M 12 122]
def f63r22:LS:=[M 123 12,o 124 (.un .not (t 123))]
def f63r23:LS:=[o 125 (.build [(.int .i64 0),(.int .i64 0),(.string ⟨#[]⟩),(.slice none 0 0)] [] []),q (.st 4 (t 4) (t 125))]
def f63r24:LS:=[M 126 1,o 127 (.cmp .eql (t 126) (.const (.string ⟨#[90,82,65,78,75]⟩)))]
def f63r25:LS:=[M 128 10,o 129 (.call 128 [(t 128)]),q (.st 4 (t 4) (t 129))]
def f63r26:LS:=[M 130 11,o 131 (.call 34 [(t 130),(i 10)]),o 132 (.call 130 [(t 131)]),q (.st 4 (t 4) (t 132))]
def f63r27:LS:=[M 134 0,K 135 134,A 136 0 135,A 137 2 136,L 138 137,o 139 (.ixs 1 (t 138) (i 1)),L 140 139,o 141 (.call 132 [(t 140)]),M 133 141,X 142 133 0,X 143 133 1,M 13 142,M 14 143]
def f63r28:LS:=[M 144 1,o 145 (.cmp .eql (t 144) (.const (.string ⟨#[90,73,78,67,82,66,89]⟩)))]
def f63r29:LS:=[M 147 0,M 148 0,K 149 148,A 150 0 149,A 151 2 150,L 152 151,o 153 (.ixs 1 (t 152) (i 2)),L 154 153,o 155 (.call 138 [(t 147),(t 154)]),M 146 155,X 156 146 0,X 157 146 1,X 158 146 2,M 15 156,M 16 157,M 17 158]
def f63r30:LS:=[M 159 5,o 160 (.len (t 159)),D 161 160 1,M 18 161]
def f63r31:LS:=[M 162 17]
def f63r32:LS:=[M 163 18,o 164 (.ar .sub (t 163) (i 1)),M 18 164]
def f63r33:LS:=[M 166 0,K 167 166,A 168 0 167,M 169 16,M 170 13,o 171 (.call 133 [(t 168),(t 169),(t 170)]),M 165 171,X 172 165 0,X 173 165 1,M 16 172,M 19 173]
def f63r34:LS:=[M 174 19]
def f63r35:LS:=[M 175 0,M 176 0,K 177 176,A 178 0 177,A 179 2 178,L 180 179,o 181 (.ixs 1 (t 180) (i 2)),L 182 181,M 183 16,o 184 (.build [(.int .i64 0),(.string ⟨#[]⟩),(.string ⟨#[]⟩),(.string ⟨#[]⟩),(.int .i64 0)] [(0,1),(2,1),(4,1)] [(i 14),(t 182),(t 183)]),M 185 18,o 186 (.call 127 [(t 175),(t 184),(t 185)])]
def f63r36:LS:=[M 187 16,o 188 (.call 34 [(t 187),(i 10)]),o 189 (.call 130 [(t 188)]),q (.st 4 (t 4) (t 189))]
def f63r37:LS:=[M 191 0,K 192 191,A 193 0 192,A 194 2 193,L 195 194,o 196 (.ixs 1 (t 195) (i 2)),L 197 196,o 198 (.call 132 [(t 197)]),M 190 198,X 199 190 0,X 200 190 1,M 20 199,M 21 200]
def f63r38:LS:=[o 22 (.mv (.const (.slice none 0 0)))]
def f63r39:LS:=[M 202 5,o 203 (.len (t 202)),M 204 13,M 205 20,o 206 (.call 135 [(t 203),(t 204),(t 205)]),M 201 206,X 207 201 0,X 208 201 1,M 23 207,M 24 208]
def f63r40:LS:=[I 25 0]
def f63r41:LS:=[M 209 25,M 210 5,o 211 (.len (t 210)),o 212 (.cmp .lss (t 209) (t 211))]
def f63r42:LS:=[M 215 1,o 216 (.cmp .eql (t 215) (.const (.string ⟨#[90,82,65,78,71,69]⟩))),M 217 216,
 g 218 217 (.mv (t 25)),
 g 219 217 (.mv (t 23)),
 g 220 217 (.cmp .geq (t 218) (t 219)),o 221 (.pick (t 217) (t 220) (b false)),M 222 221,
 g 223 222 (.mv (t 25)),
 g 224 222 (.mv (t 24)),
 g 225 222 (.cmp .lss (t 223) (t 224)),o 226 (.pick (t 222) (t 225) (b false)),M 227 226,
 n 228 227 (.mv (t 1)),
 n 229 227 (.cmp .neq (t 228) (.const (.string ⟨#[90,82,65,78,71,69]⟩))),
 n 230 227 (.mv (t 229)),
 g 231 230 (.mv (t 5)),
 g 232 230 (.mv (t 25)),
 g 233 230 (.ixs 2 (t 231) (t 232)),
 g 234 230 (.fa 1 (t 233)),
 g 235 230 (.ld1 (t 234)),
 g 236 230 (.mv (t 13)),
 g 237 230 (.cmp .geq (t 235) (t 236)),
 n 238 227 (.pick (t 230) (t 237) (b false)),
 n 239 227 (.mv (t 238)),
 g 240 239 (.mv (t 5)),
 g 241 239 (.mv (t 25)),
 g 242 239 (.ixs 2 (t 240) (t 241)),
 g 243 239 (.fa 1 (t 242)),
 g 244 239 (.ld1 (t 243)),
 g 245 239 (.mv (t 20)),
 g 246 239 (.cmp .leq (t 244) (t 245)),
 n 247 227 (.pick (t 239) (t 246) (b false)),o 248 (.pick (t 227) (b true) (t 247))]
def f63r43:LS:=[M 249 22,M 250 5,M 251 25,G 252 2 250 251,A 253 0 252,L 254 253,o 255 (.bslice [(.string ⟨#[]⟩)] 1 [(0,1)] [(t 254)]),o 256 (.app 1 16 [(.string ⟨#[]⟩)] (t 249) (t 255)),M 22 256]
def f63r44:LS:=[M 213 25,D 214 213 1,M 25 214]
def f63l45:SCode:=(.seq (.j f63r41 (.cond (t 212) .skip (.exit 3))) (.seq (.block 4 (.j f63r42 (.cond (t 248) (.ops f63r43) .skip))) (.ops f63r44)))
def f63r46:LS:=[M 257 22,o 258 (.call 123 [(t 257)]),q (.st 4 (t 4) (t 258))]
def f63:SCode:=(.j f63r0 (.j f63r1 (.seq (.j f63r2 (.block 0 (.j f63r3 (.cond (t 32) (.j f63r4 (.seq (.j f63r5 (.block 1 (.loop f63l13))) (.j f63r14 .ret))) (.j f63r15 (.cond (t 98) (.j f63r16 .ret) (.j f63r17 (.cond (t 102) (.j f63r18 .ret) (.seq (.j f63r19 (.cond (t 107) .skip (.ops f63r20))) (.cond (t 107) (.j f63r21 (.seq (.j f63r22 (.k 124 f63r23)) (.seq (.j f63r24 (.k 127 f63r25)) (.j f63r26 .ret)))) .skip)))))))))) (.j f63r27 (.seq (.j f63r28 (.cond (t 145) (.j f63r29 (.j f63r30 (.seq (.j f63r31 (.cond (t 162) (.ops f63r32) .skip)) (.j f63r33 (.seq (.j f63r34 (.cond (t 174) (.ops f63r35) .skip)) (.j f63r36 .ret)))))) .skip)) (.j f63r37 (.j f63r38 (.j f63r39 (.seq (.j f63r40 (.block 3 (.loop f63l45))) (.j f63r46 .ret))))))))))
theorem f63_calls:Sound Tryz.prog 63 259 f63 [.cn 4 4]:=sdo Tryz.func63 rfl (by kernel_rfl)
def f122r0:LS:=[o 4 (.mv (b false))]
def f122r1:LS:=[I 5 0]
def f122r2:LS:=[M 6 5,M 7 0,K 8 7,A 9 5 8,A 10 3 9,L 11 10,o 12 (.len (t 11)),o 13 (.cmp .lss (t 6) (t 12))]
def f122r3:LS:=[M 16 0,K 17 16,A 18 5 17,A 19 3 18,L 20 19,M 21 5,G 22 1 20 21,L 23 22,M 24 1,o 25 (.cmp .eql (t 23) (t 24))]
def f122r4:LS:=[o 4 (.mv (b true))]
def f122r5:LS:=[M 14 5,D 15 14 1,M 5 15]
def f122l6:SCode:=(.seq (.j f122r2 (.cond (t 13) .skip (.exit 0))) (.seq (.block 1 (.j f122r3 (.k 25 f122r4))) (.ops f122r5)))
def f122r7:LS:=[o 4 (.mv (b false))]
def f122:SCode:=(.j f122r0 (.seq (.j f122r1 (.block 0 (.loop f122l6))) (.j f122r7 .ret)))
theorem f122_calls:Sound Tryz.prog 122 26 f122 [.t 4]:=sdo Tryz.func122 rfl (by kernel_rfl)
def f123r0:LS:=[o 2 (.new [(.int .i64 0),(.int .i64 0),(.string ⟨#[]⟩),(.slice none 0 0)])]
def f123r1:LS:=[o 5 (.build [(.int .i64 0),(.int .i64 0),(.string ⟨#[]⟩),(.slice none 0 0)] [(0,1)] [(i 5)]),o 3 (.new [(.int .i64 0),(.int .i64 0),(.string ⟨#[]⟩),(.slice none 0 0)]),q (.st 4 (t 3) (t 5))]
def f123r2:LS:=[I 4 0]
def f123r3:LS:=[M 6 4,M 7 0,o 8 (.len (t 7)),o 9 (.cmp .lss (t 6) (t 8))]
def f123r4:LS:=[A 12 3 3,L 13 12,M 14 0,M 15 4,G 16 1 14 15,L 17 16,o 18 (.callq 130 [(t 17)]),o 19 (.bslice [(.int .i64 0),(.int .i64 0),(.string ⟨#[]⟩),(.slice none 0 0)] 1 [(0,4)] [(t 18)]),o 20 (.app 4 56 [(.int .i64 0),(.int .i64 0),(.string ⟨#[]⟩),(.slice none 0 0)] (t 13) (t 19)),A 21 3 3,q (.st 1 (t 21) (t 20))]
def f123r5:LS:=[M 10 4,D 11 10 1,M 4 11]
def f123l6:SCode:=(.seq (.j f123r3 (.cond (t 9) .skip (.exit 0))) (.seq (.block 1 (.ops f123r4)) (.ops f123r5)))
def f123r7:LS:=[o 22 (.ldn 4 (t 3)),q (.st 4 (t 2) (t 22))]
def f123:SCode:=(.j f123r0 (.j f123r1 (.seq (.j f123r2 (.block 0 (.loop f123l6))) (.j f123r7 .ret))))
theorem f123_calls:Sound Tryz.prog 123 23 f123 [.cn 2 4]:=sdo Tryz.func123 rfl (by kernel_rfl)
def f125r0:LS:=[o 6 (.mv (b false))]
def f125r1:LS:=[M 12 1,E 13 12 2]
def f125r2:LS:=[M 15 0,M 16 2,o 17 (.call 129 [(t 15),(t 16)]),M 14 17,X 18 14 0,X 19 14 1,M 7 18,M 8 19]
def f125r3:LS:=[M 20 8,M 6 20]
def f125r4:LS:=[M 21 1,E 22 21 4]
def f125r5:LS:=[M 23 0,M 24 2,o 25 (.call 122 [(t 23),(t 24)]),M 6 25]
def f125r6:LS:=[M 27 0,M 28 2,o 29 (.call 138 [(t 27),(t 28)]),M 26 29,X 30 26 0,X 31 26 1,X 32 26 2,M 9 30,M 10 31,M 11 32]
def f125r7:LS:=[M 33 11,M 6 33]
def f125:SCode:=(.j f125r0 (.seq (.j f125r1 (.cond (t 13) (.j f125r2 (.j f125r3 .ret)) .skip)) (.seq (.j f125r4 (.k 22 f125r5)) (.j f125r6 (.j f125r7 .ret)))))
theorem f125_calls:Sound Tryz.prog 125 34 f125 [.t 6]:=sdo Tryz.func125 rfl (by kernel_rfl)
def f126r0:LS:=[o 8 (.mv (b false))]
def f126r1:LS:=[M 10 2,M 9 10]
def f126r2:LS:=[M 11 9,M 12 1,o 13 (.cmp .lss (t 11) (t 12))]
def f126r3:LS:=[M 17 0,K 18 17,A 19 0 18,A 20 2 19,L 21 20,M 22 9,G 23 1 21 22,L 24 23,M 25 0,K 26 25,A 27 0 26,A 28 2 27,L 29 28,M 30 1,G 31 1 29 30,L 32 31,o 33 (.cmp .eql (t 24) (t 32))]
def f126r4:LS:=[o 8 (.mv (b true))]
def f126r5:LS:=[M 14 9,M 15 3,o 16 (.ar .add (t 14) (t 15)),M 9 16]
def f126l6:SCode:=(.seq (.j f126r2 (.cond (t 13) .skip (.exit 0))) (.seq (.block 1 (.j f126r3 (.k 33 f126r4))) (.ops f126r5)))
def f126r7:LS:=[o 8 (.mv (b false))]
def f126:SCode:=(.j f126r0 (.seq (.j f126r1 (.block 0 (.loop f126l6))) (.j f126r7 .ret)))
theorem f126_calls:Sound Tryz.prog 126 34 f126 [.t 8]:=sdo Tryz.func126 rfl (by kernel_rfl)
def f127r0:LS:=[o 4 (.box (t 1)),o 6 (.mv (b false))]
def f127r1:LS:=[M 7 2,o 8 (.cmp .gtr (t 7) (i 65536)),M 9 8,
 n 10 9 (.mv (t 0)),
 n 11 9 (.nilck (t 10)),
 n 12 9 (.fa 12 (t 11)),
 n 13 9 (.ld1 (t 12)),
 n 14 9 (.lens (t 13)),
 n 15 9 (.cmp .gtr (t 14) (i 1048576)),o 16 (.pick (t 9) (b true) (t 15)),M 17 16,
 n 18 17 (.fa 2 (t 4)),
 n 19 17 (.ld1 (t 18)),
 n 20 17 (.lens (t 19)),
 n 21 17 (.cmp .gtr (t 20) (i 1048576)),o 22 (.pick (t 17) (b true) (t 21)),M 23 22,
 n 24 23 (.fa 3 (t 4)),
 n 25 23 (.ld1 (t 24)),
 n 26 23 (.lens (t 25)),
 n 27 23 (.cmp .gtr (t 26) (i 1048576)),o 28 (.pick (t 23) (b true) (t 27))]
def f127r2:LS:=[M 29 0,K 30 29,A 31 0 30,A 32 4 31,q (.st 1 (t 32) (.const (.string ⟨#[69,82,82,32,108,111,110,103]⟩)))]
def f127r3:LS:=[o 6 (.mv (b false))]
def f127r4:LS:=[M 33 0,K 34 33,A 35 0 34,A 36 3 35,L 37 36,o 38 (.len (t 37)),E 39 38 0]
def f127r5:LS:=[M 40 0,K 41 40,A 42 0 41,M 43 0,K 44 43,A 45 12 44,L 46 45,o 47 (.call 220 [(t 42),(t 46)])]
def f127r6:LS:=[M 48 0,K 49 48,A 50 12 49,L 51 50,A 52 1 4,q (.st 1 (t 52) (t 51))]
def f127r7:LS:=[M 53 0,M 54 0,K 55 54,A 56 0 55,A 57 3 56,L 58 57,o 59 (.ldn 5 (t 4)),o 60 (.bslice [(.int .i64 0),(.string ⟨#[]⟩),(.string ⟨#[]⟩),(.string ⟨#[]⟩),(.int .i64 0)] 1 [(0,5)] [(t 59)]),o 61 (.app 5 64 [(.int .i64 0),(.string ⟨#[]⟩),(.string ⟨#[]⟩),(.string ⟨#[]⟩),(.int .i64 0)] (t 58) (t 60)),K 62 53,A 63 0 62,A 64 3 63,q (.st 1 (t 64) (t 61))]
def f127r8:LS:=[o 6 (.mv (b true))]
def f127:SCode:=(.j f127r0 (.seq (.j f127r1 (.cond (t 28) (.j f127r2 (.j f127r3 .ret)) .skip)) (.seq (.j f127r4 (.cond (t 39) (.ops f127r5) .skip)) (.j f127r6 (.j f127r7 (.j f127r8 .ret))))))
theorem f127_calls:Sound Tryz.prog 127 65 f127 [.t 6]:=sdo Tryz.func127 rfl (by kernel_rfl)
def f129r0:LS:=[o 4 (.mv e),o 5 (.mv (b false))]
def f129r1:LS:=[I 6 0]
def f129r2:LS:=[M 7 6,M 8 0,K 9 8,A 10 5 9,A 11 2 10,L 12 11,o 13 (.len (t 12)),o 14 (.cmp .lss (t 7) (t 13))]
def f129r3:LS:=[M 17 0,K 18 17,A 19 5 18,A 20 2 19,L 21 20,M 22 6,G 23 2 21 22,A 24 0 23,L 25 24,M 26 1,o 27 (.cmp .eql (t 25) (t 26))]
def f129r4:LS:=[M 28 0,K 29 28,A 30 5 29,A 31 2 30,L 32 31,M 33 6,G 34 2 32 33,A 35 1 34,L 36 35,M 4 36,o 5 (.mv (b true))]
def f129r5:LS:=[M 15 6,D 16 15 1,M 6 16]
def f129l6:SCode:=(.seq (.j f129r2 (.cond (t 14) .skip (.exit 0))) (.seq (.block 1 (.j f129r3 (.k 27 f129r4))) (.ops f129r5)))
def f129r7:LS:=[o 4 (.mv e),o 5 (.mv (b false))]
def f129:SCode:=(.j f129r0 (.seq (.j f129r1 (.block 0 (.loop f129l6))) (.j f129r7 .ret)))
theorem f129_calls:Sound Tryz.prog 129 37 f129 [.t 4,.t 5]:=sdo Tryz.func129 rfl (by kernel_rfl)
def f131r0:LS:=[o 6 (.new [(.int .i64 0),(.int .i64 0),(.string ⟨#[]⟩),(.slice none 0 0)])]
def f131r1:LS:=[I 7 0]
def f131r2:LS:=[I 8 1]
def f131r3:LS:=[M 9 8,M 10 0,K 11 10,A 12 0 11,A 13 2 12,L 14 13,o 15 (.len (t 14)),o 16 (.cmp .lss (t 9) (t 15))]
def f131r4:LS:=[M 19 0,M 20 1,M 21 0,K 22 21,A 23 0 22,A 24 2 23,L 25 24,M 26 8,G 27 1 25 26,L 28 27,o 29 (.call 125 [(t 19),(t 20),(t 28)]),M 30 29,
 g 31 30 (.mv (t 0)),
 g 32 30 (.mv (t 8)),
 g 33 30 (.call 126 [(t 31),(t 32),(i 1),(i 1)]),
 g 34 30 (.un .not (t 33)),o 35 (.pick (t 30) (t 34) (b false))]
def f131r5:LS:=[M 36 7,D 37 36 1,M 7 37]
def f131r6:LS:=[M 38 0,M 39 2,M 40 0,K 41 40,A 42 0 41,A 43 2 42,L 44 43,M 45 8,G 46 1 44 45,L 47 46,o 48 (.build [(.int .i64 0),(.string ⟨#[]⟩),(.string ⟨#[]⟩),(.string ⟨#[]⟩),(.int .i64 0)] [(0,1),(2,1)] [(t 39),(t 47)]),o 49 (.call 134 [(t 38),(t 48)])]
def f131r7:LS:=[M 17 8,D 18 17 1,M 8 18]
def f131l8:SCode:=(.seq (.j f131r3 (.cond (t 16) .skip (.exit 0))) (.seq (.block 1 (.j f131r4 (.cond (t 35) (.j f131r5 (.ops f131r6)) .skip))) (.ops f131r7)))
def f131r9:LS:=[M 50 7,o 51 (.call 128 [(t 50)]),q (.st 4 (t 6) (t 51))]
def f131:SCode:=(.j f131r0 (.j f131r1 (.seq (.j f131r2 (.block 0 (.loop f131l8))) (.j f131r9 .ret))))
theorem f131_calls:Sound Tryz.prog 131 52 f131 [.cn 6 4]:=sdo Tryz.func131 rfl (by kernel_rfl)
def f134r0:LS:=[o 3 (.box (t 1))]
def f134r1:LS:=[M 4 0,K 5 4,A 6 12 5,L 7 6,A 8 1 3,q (.st 1 (t 8) (t 7))]
def f134r2:LS:=[M 9 0,M 10 0,K 11 10,A 12 0 11,A 13 3 12,L 14 13,o 15 (.ldn 5 (t 3)),o 16 (.bslice [(.int .i64 0),(.string ⟨#[]⟩),(.string ⟨#[]⟩),(.string ⟨#[]⟩),(.int .i64 0)] 1 [(0,5)] [(t 15)]),o 17 (.app 5 64 [(.int .i64 0),(.string ⟨#[]⟩),(.string ⟨#[]⟩),(.string ⟨#[]⟩),(.int .i64 0)] (t 14) (t 16)),K 18 9,A 19 0 18,A 20 3 19,q (.st 1 (t 20) (t 17))]
def f134:SCode:=(.j f134r0 (.j f134r1 (.ops f134r2)))
theorem f134_calls:Sound Tryz.prog 134 21 f134 []:=sdo Tryz.func134 rfl (by kernel_rfl)
def f135r0:LS:=[I 6 0,I 7 0]
def f135r1:LS:=[M 9 0,M 8 9]
def f135r2:LS:=[M 10 1,o 11 (.cmp .lss (t 10) (i 0))]
def f135r3:LS:=[M 12 8,M 13 1,M 14 8,o 15 (.un .neg (t 14)),o 16 (.mx (t 13) (t 15)),o 17 (.ar .add (t 12) (t 16)),o 18 (.mx (i 0) (t 17)),M 1 18]
def f135r4:LS:=[M 19 2,o 20 (.cmp .lss (t 19) (i 0))]
def f135r5:LS:=[M 21 2,M 22 8,o 23 (.un .neg (t 22)),o 24 (.cmp .lss (t 21) (t 23))]
def f135r6:LS:=[I 6 0,I 7 0]
def f135r7:LS:=[M 25 8,M 26 2,o 27 (.ar .add (t 25) (t 26)),M 2 27]
def f135r8:LS:=[M 28 1,M 29 8,o 30 (.cmp .geq (t 28) (t 29)),M 31 30,
 n 32 31 (.mv (t 1)),
 n 33 31 (.mv (t 2)),
 n 34 31 (.cmp .gtr (t 32) (t 33)),o 35 (.pick (t 31) (b true) (t 34))]
def f135r9:LS:=[I 6 0,I 7 0]
def f135r10:LS:=[M 36 1,M 37 2,M 38 8,o 39 (.ar .sub (t 38) (i 1)),o 40 (.mn (t 37) (t 39)),D 41 40 1,M 6 36,M 7 41]
def f135:SCode:=(.j f135r0 (.j f135r1 (.seq (.j f135r2 (.cond (t 11) (.ops f135r3) .skip)) (.seq (.j f135r4 (.cond (t 20) (.seq (.j f135r5 (.k 24 f135r6)) (.ops f135r7)) .skip)) (.seq (.j f135r8 (.k 35 f135r9)) (.j f135r10 .ret))))))
theorem f135_calls:Sound Tryz.prog 135 42 f135 [.t 6,.t 7]:=sdo Tryz.func135 rfl (by kernel_rfl)
def f136r0:LS:=[I 4 0,o 5 (.mv (b false))]
def f136r1:LS:=[M 7 0,M 6 7]
def f136r2:LS:=[M 8 1,M 9 6,o 10 (.cmp .geq (t 8) (t 9)),M 11 10,
 n 12 11 (.mv (t 1)),
 n 13 11 (.mv (t 6)),
 n 14 11 (.un .neg (t 13)),
 n 15 11 (.cmp .lss (t 12) (t 14)),o 16 (.pick (t 11) (b true) (t 15))]
def f136r3:LS:=[I 4 0,o 5 (.mv (b false))]
def f136r4:LS:=[M 17 1,o 18 (.cmp .lss (t 17) (i 0))]
def f136r5:LS:=[M 19 6,M 20 1,o 21 (.ar .add (t 19) (t 20)),M 1 21]
def f136r6:LS:=[M 22 1,M 4 22,o 5 (.mv (b true))]
def f136:SCode:=(.j f136r0 (.j f136r1 (.seq (.j f136r2 (.k 16 f136r3)) (.seq (.j f136r4 (.cond (t 18) (.ops f136r5) .skip)) (.j f136r6 .ret)))))
theorem f136_calls:Sound Tryz.prog 136 23 f136 [.t 4,.t 5]:=sdo Tryz.func136 rfl (by kernel_rfl)
def f138r0:LS:=[I 4 0,I 5 0,o 6 (.mv (b false))]
def f138r1:LS:=[I 7 0]
def f138r2:LS:=[M 8 7,M 9 0,K 10 9,A 11 5 10,A 12 4 11,L 13 12,o 14 (.len (t 13)),o 15 (.cmp .lss (t 8) (t 14))]
def f138r3:LS:=[M 18 0,K 19 18,A 20 5 19,A 21 4 20,L 22 21,M 23 7,G 24 2 22 23,A 25 0 24,L 26 25,M 27 1,o 28 (.cmp .eql (t 26) (t 27))]
def f138r4:LS:=[M 29 7,M 30 0,K 31 30,A 32 5 31,A 33 4 32,L 34 33,M 35 7,G 36 2 34 35,A 37 1 36,L 38 37,M 4 29,M 5 38,o 6 (.mv (b true))]
def f138r5:LS:=[M 16 7,D 17 16 1,M 7 17]
def f138l6:SCode:=(.seq (.j f138r2 (.cond (t 15) .skip (.exit 0))) (.seq (.block 1 (.j f138r3 (.k 28 f138r4))) (.ops f138r5)))
def f138r7:LS:=[I 4 0,I 5 0,o 6 (.mv (b false))]
def f138:SCode:=(.j f138r0 (.seq (.j f138r1 (.block 0 (.loop f138l6))) (.j f138r7 .ret)))
theorem f138_calls:Sound Tryz.prog 138 39 f138 [.t 4,.t 5,.t 6]:=sdo Tryz.func138 rfl (by kernel_rfl)
end Go.Proofs.YtjnijlnmbjjgpaaGreatDoor.C
set_option maxRecDepth 100000
namespace Go.Proofs.YtjnijlnmbjjgpaaGreatDoor.C
open Go Go.Sx Go.Sx.S
def f229r0:LS:=[I 4 0]
def f229r1:LS:=[M 6 0,o 7 (.len (t 6)),I 8 0]
def f229r2:LS:=[o 9 (.cmp .lss (t 8) (t 7))]
def f229r3:LS:=[M 10 8,M 5 10]
def f229r4:LS:=[M 11 1,M 12 0,M 13 5,G 14 2 12 13,o 15 (.ldn 2 (t 14)),o 16 (.callv (t 11) [(t 15)])]
def f229r5:LS:=[M 17 5,M 4 17]
def f229r6:LS:=[D 18 8 1,M 8 18]
def f229l7:SCode:=(.j f229r2 (.seq (.cond (t 9) .skip (.exit 0)) (.seq (.block 1 (.j f229r3 (.j f229r4 (.k 16 f229r5)))) (.ops f229r6))))
def f229r8:LS:=[I 4 (-1)]
def f229:SCode:=(.j f229r0 (.seq (.j f229r1 (.block 0 (.loop f229l7))) (.j f229r8 .ret)))
theorem f229_calls:Sound Tryz.prog 229 19 f229 [.t 4]:=sdo Tryz.func229 rfl (by kernel_rfl)
def f235r0:LS:=[I 4 0,o 5 (.mv (b false))]
def f235r1:LS:=[M 10 0,o 11 (.len (t 10)),M 6 11]
def f235r2:LS:=[M 12 6,I 7 0,M 8 12]
def f235r3:LS:=[M 13 7,M 14 8,o 15 (.cmp .lss (t 13) (t 14))]
def f235r4:LS:=[M 16 7,M 17 8,o 18 (.ar .add (t 16) (t 17)),o 19 (.cvt .u64 (t 18)),o 20 (.sh .u64 false 1 (t 19)),o 21 (.cvt .i64 (t 20)),M 9 21]
def f235r5:LS:=[M 22 0,M 23 9,G 24 1 22 23,L 25 24,M 26 1,o 27 (.call 277 [(t 25),(t 26)])]
def f235r6:LS:=[M 28 9,D 29 28 1,M 7 29]
def f235r7:LS:=[M 30 9,M 8 30]
def f235l8:SCode:=(.seq (.j f235r3 (.cond (t 15) .skip (.exit 0))) (.block 1 (.j f235r4 (.j f235r5 (.cond (t 27) (.ops f235r6) (.ops f235r7))))))
def f235r9:LS:=[M 31 7,M 32 7,M 33 6,o 34 (.cmp .lss (t 32) (t 33)),M 35 34,
 g 36 35 (.mv (t 0)),
 g 37 35 (.mv (t 7)),
 g 38 35 (.ixs 1 (t 36) (t 37)),
 g 39 35 (.ld1 (t 38)),
 g 40 35 (.mv (t 1)),
 g 41 35 (.cmp .eql (t 39) (t 40)),
 g 42 35 (.mv (t 41)),
 n 43 42 (.mv (t 0)),
 n 44 42 (.mv (t 7)),
 n 45 42 (.ixs 1 (t 43) (t 44)),
 n 46 42 (.ld1 (t 45)),
 n 47 42 (.call 278 [(t 46)]),
 n 48 42 (.mv (t 47)),
 g 49 48 (.mv (t 1)),
 g 50 48 (.call 278 [(t 49)]),
 n 51 42 (.pick (t 48) (t 50) (b false)),
 g 52 35 (.pick (t 42) (b true) (t 51)),o 53 (.pick (t 35) (t 52) (b false)),M 4 31,M 5 53]
def f235:SCode:=(.j f235r0 (.j f235r1 (.j f235r2 (.seq (.block 0 (.loop f235l8)) (.j f235r9 .ret)))))
theorem f235_calls:Sound Tryz.prog 235 54 f235 [.t 4,.t 5]:=sdo Tryz.func235 rfl (by kernel_rfl)
def f277r0:LS:=[o 4 (.mv (b false))]
def f277r1:LS:=[M 5 0,o 6 (.call 306 [(t 5)]),M 7 6,
 g 8 7 (.mv (t 1)),
 g 9 7 (.call 306 [(t 8)]),
 g 10 7 (.un .not (t 9)),o 11 (.pick (t 7) (t 10) (b false)),M 12 11,
 n 13 12 (.mv (t 0)),
 n 14 12 (.mv (t 1)),
 n 15 12 (.cmp .lss (t 13) (t 14)),o 16 (.pick (t 12) (b true) (t 15)),M 4 16]
def f277:SCode:=(.j f277r0 (.j f277r1 .ret))
theorem f277_calls:Sound Tryz.prog 277 17 f277 [.t 4]:=sdo Tryz.func277 rfl (by kernel_rfl)
def f278r0:LS:=[o 2 (.mv (b false))]
def f278r1:LS:=[M 3 0,M 4 0,o 5 (.cmp .neq (t 3) (t 4)),M 2 5]
def f278:SCode:=(.j f278r0 (.j f278r1 .ret))
theorem f278_calls:Sound Tryz.prog 278 6 f278 [.t 2]:=sdo Tryz.func278 rfl (by kernel_rfl)
def f306r0:LS:=[o 2 (.mv (b false))]
def f306r1:LS:=[M 3 0,M 4 0,o 5 (.cmp .neq (t 3) (t 4)),M 2 5]
def f306:SCode:=(.j f306r0 (.j f306r1 .ret))
theorem f306_calls:Sound Tryz.prog 306 6 f306 [.t 2]:=sdo Tryz.func306 rfl (by kernel_rfl)
end Go.Proofs.YtjnijlnmbjjgpaaGreatDoor.C
set_option maxRecDepth 100000
namespace Go.Proofs.YtjnijlnmbjjgpaaGreatDoor.C
open Go Go.Sx Go.Sx.S
def g59r0:LS:=[o 4 (.mv (b false))]
def g59t1:OTree:=(.one (M 9 0)
 (.one (K 10 9)
 (.one (A 11 0 10)
 (.one (M 12 0)
 (.one (K 13 12)
 (.one (A 14 12 13)
 (.one (L 15 14)
 (.one (M 16 1)
 (.both (.one (o 17 (.call 124 [(t 11),(t 15),(t 16)]))
 (.one (M 8 17)
 (.one (X 18 8 0)
 (.one (X 19 8 1)
 (.one (X 20 8 2)
 (.one (o 5 (.new [(.int .i64 0),(.string ⟨#[]⟩),(.slice none 0 0),(.slice none 0 0),(.slice none 0 0),(.bool false),(.int .i64 0)]))
 (.one (q (.st 7 (t 5) (t 18)))
 (.one (M 6 19)
 (.one (M 7 20)
 .done))))))))) (.one (o 5 (.new [(.int .i64 0),(.string ⟨#[]⟩),(.slice none 0 0),(.slice none 0 0),(.slice none 0 0),(.bool false),(.int .i64 0)]))
 (.one (o 17 (.call 124 [(t 11),(t 15),(t 16)]))
 (.one (M 8 17)
 (.one (X 18 8 0)
 (.one (X 19 8 1)
 (.one (X 20 8 2)
 (.one (q (.st 7 (t 5) (t 18)))
 (.one (M 6 19)
 (.one (M 7 20)
 .done))))))))))))))))))
def g59r2:LS:=[M 21 0,o 22 (.ldn 7 (t 5)),K 23 21,A 24 5 23,q (.st 7 (t 24) (t 22))]
def g59r3:LS:=[M 25 7,M 4 25]
def g59:SCode:=(.j g59r0 (.seq (.tree [9,10,11,12,13,14,15,16,17,8,18,19,20,5,6,7] g59t1) (.j g59r2 (.j g59r3 .ret))))
theorem g59_calls:SoundD Tryz.prog 59 26 g59 [.t 4]:=soundD_of (fl:=false) mixed Tryz.func59 rfl (by kernel_rfl) (by kernel_rfl) (by kernel_rfl)
end Go.Proofs.YtjnijlnmbjjgpaaGreatDoor.C

namespace Go.Proofs.YtjnijlnmbjjgpaaGreatDoor
open Go Go.Sx C
theorem cellWW {h:Heap} {b o:Nat} {l:List Value} {v:Value} (hb:BlkW h b l) (hv:l[o]? =some v):cell h b o=some v:=by
 obtain⟨e,k,x,_⟩:=hb
 simp[cell,x,hv]
def upB (c:UInt8):UInt8:=if 97≤c.toNat∧c.toNat≤122 then UInt8.ofNat (c.toNat-32)else c
def up (s:ByteArray):ByteArray:=⟨⟨s.data.toList.map upB⟩⟩
def cellB (l:List UInt8):List Value:=l.map fun b=>.int .u8 b.toNat
def upTo (bs:List UInt8) (q:Nat):List UInt8:=(bs.take q).map upB++bs.drop q
theorem cellB_len (l:List UInt8):(cellB l).length=l.length:=by simp[cellB]
theorem upTo_len (bs:List UInt8) (q:Nat):(upTo bs q).length=bs.length:=by simp[upTo];omega
theorem upTo_all (bs:List UInt8):upTo bs bs.length=bs.map upB:=by simp[upTo]
theorem upTo_zero (bs:List UInt8):upTo bs 0=bs:=by simp[upTo]
theorem upTo_at {bs:List UInt8} {q:Nat} (hq:q<bs.length):upTo bs q=(bs.take q).map upB++(bs[q]::bs.drop (q+1)):=by
 rw[upTo,List.drop_eq_getElem_cons hq]
theorem upTo_succ {bs:List UInt8} {q:Nat} (hq:q<bs.length):upTo bs (q+1)=(bs.take q).map upB++(upB bs[q]::bs.drop (q+1)):=by
 rw[upTo,List.take_succ_eq_append_getElem hq,List.map_append,List.append_assoc];rfl
theorem take_len {bs:List UInt8} {q:Nat} (hq:q<bs.length):(cellB ((bs.take q).map upB)).length=q:=by simp[cellB];omega
theorem blk_at {bs:List UInt8} {q:Nat} (hq:q<bs.length) (tail:List Value):cellB (upTo bs q)++tail=cellB ((bs.take q).map upB)++([.int .u8 bs[q].toNat]++(cellB (bs.drop (q+1))++tail)):=by
 rw[upTo_at hq];simp only[cellB,List.map_append,List.map_cons,List.append_assoc,List.cons_append,List.nil_append]
theorem blk_succ {bs:List UInt8} {q:Nat} (hq:q<bs.length) (tail:List Value):cellB (upTo bs (q+1))++tail=cellB ((bs.take q).map upB)++([.int .u8 (upB bs[q]).toNat]++(cellB (bs.drop (q+1))++tail)):=by
 rw[upTo_succ hq];simp only[cellB,List.map_append,List.map_cons,List.append_assoc,List.cons_append,List.nil_append]
theorem cell_q {h:Heap} {b q:Nat} {bs:List UInt8} {tail:List Value} (hb:BlkW h b (cellB (upTo bs q)++tail)) (hq:q<bs.length):cell h b (0+q*1)=some (.int .u8 bs[q].toNat):=by
 rw[Nat.zero_add,Nat.mul_one]
 refine cellWW hb ?_
 rw[blk_at hq,List.getElem?_append_right (by rw[take_len hq];exact Nat.le_refl _),take_len hq]
 simp
theorem put_q {h h':Heap} {b q:Nat} {bs:List UInt8} {tail:List Value} {z:Int} (hq:q<bs.length) (hz:z=(upB bs[q]).toNat) (hp:PutW h h' b (splice (cellB (upTo bs q)++tail) (0+q*1) [.int .u8 z])):
  BlkW h' b (cellB (upTo bs (q+1))++tail):=by
 have:=hp.blk
 rw[Nat.zero_add,Nat.mul_one,blk_at hq]at this
 rw[blk_succ hq,←hz]
 have e:=splice_at (cellB ((bs.take q).map upB)) [.int .u8 bs[q].toNat] (cellB (bs.drop (q+1))++tail) [.int .u8 z] rfl
 rw[take_len hq]at e
 rwa [e]at this
theorem same_q {bs:List UInt8} {q:Nat} (hq:q<bs.length) (hu:upB bs[q]=bs[q]):upTo bs (q+1)=upTo bs q:=by
 rw[upTo_succ hq,upTo_at hq,hu]
theorem upB_lo {c:UInt8} (h1:97≤(c.toNat:Int)) (h2:(c.toNat:Int)≤122):((upB c).toNat:Int)=c.toNat-32:=by
 unfold upB
 rw[if_pos ⟨by omega,by omega⟩]
 have:(UInt8.ofNat (c.toNat-32)).toNat=c.toNat-32:=by
  rw[UInt8.toNat_ofNat'];omega
 rw[this];omega
theorem upB_not {c:UInt8} (h:¬(97≤(c.toNat:Int)∧(c.toNat:Int)≤122)):upB c=c:=by
 unfold upB
 rw[if_neg (fun⟨a,b⟩=>h ⟨by omega,by omega⟩)]
theorem wrap8 {x:Int} (h0:0≤x) (h1:x<256):IntKind.u8.wrap x=x:=by
 have e:IntKind.u8.wrap x=x%256:=by simp[IntKind.wrap,IntKind.bits,IntKind.signed]
 rw[e];omega
theorem cells_pre {h:Heap} {b:Nat} {l tail:List Value} (hb:BlkW h b (l++tail)):Cells h b 0 l:=by
 intro i v hv
 refine cellWW hb ?_
 rw[Nat.zero_add,List.getElem?_append_left (List.getElem?_eq_some_iff.1 hv).1];exact hv
theorem rword_calls {h:Heap} {s:ByteArray} (hs:s.size<4611686018427387904):CallsH Tryz.prog 54 [.string s] h (Ret fun r h'=>r=.string (up s)∧Chg [] h h'):=by
 obtain⟨⟨bs⟩⟩:=s
 have hs:bs.length<4611686018427387904:=hs
 refine f54_calls (by simp) ?_
 intro c b h1 hc g
 have hc:bs.length≤c:=hc
 obtain⟨tail,ht⟩:∃tail,tail=List.replicate (c-bs.length) (Value.int .u8 0):=⟨_,rfl⟩
 have gb:BlkW h1 b (cellB bs++tail):=by rw[ht];exact g.blk
 refine loop_intro (fun q:Nat=>[(3,.slice (some ⟨b,0,none⟩) bs.length c),(4,.int .i64 q)]) (fun q h'=>q≤bs.length∧BlkW h' b (cellB (upTo bs q)++tail)∧h'.size=h1.size∧∀k,k≠b→h'[k]? =h1[k]?) (fun q=>bs.length-q) 0 ⟨rfl,rfl,trivial⟩ ⟨Nat.zero_le _,by rw[upTo_zero];exact gb,rfl,fun _ _=>rfl⟩ ?_
 rintro q h2 ⟨hq,hb,hsz,hold⟩
 have next:∀{h3:Heap},q<bs.length→BlkW h3 b (cellB (upTo bs (q+1))++tail)→h3.size=h1.size→(∀k,k≠b→h3[k]? =h1[k]?)→q+1≤bs.length∧BlkW h3 b (cellB (upTo bs (q+1))++tail)∧h3.size=h1.size∧∀k,k≠b→h3[k]? =h1[k]? :=fun a b c d=>⟨a,b,c,d⟩
 refine Ai rfl (Ai (fun hlt=>?_) (fun hge=>?_))
 ·have hlt:q<bs.length:=by omega
  have cq:=cell_q hb hlt
  refine Ai (by omega) (Ai (by omega) (Ei _ (Ai cq (Ai rfl (Ai (fun h97=>?_) (fun hn=>?_))))))
  ·refine Ai (by omega) (Ai (by omega) (Ei _ (Ai cq (Ai rfl (Ai (fun h122=>?_) (fun hn=>?_))))))
   ·refine Ai (by omega) (Ai (by omega) (Ei _ (Ai cq (Ai rfl (fun z hz=>?_)))))
    have hz:z=(upB bs[q]).toNat:=by
     rw[upB_lo h97 h122,hz];exact wrap8 (by omega) (by omega)
    refine Ai (by omega) (Ai (by omega) (Ei _ (Ai hb (Ai ?_ (Ai rfl (Ai (Go.Sx.ones1 rfl) fun h3 p=>?_))))))
    ·show 0+q*1+1≤_
     rw[List.length_append,cellB_len,upTo_len];omega
    ·refine Ai rfl (fun z2 hz2=>?_)
     have hz2:=add_in hz2 (by omega) (by omega)
     subst hz2
     exact Ai rfl (Ei (q+1) (Ai ⟨rfl,rfl,trivial⟩ (Ai (next hlt (put_q hlt hz p) (p.size.trans hsz) fun k hk=>(p.old k hk).trans (hold k hk)) (by omega))))
   ·refine Ai rfl (fun z2 hz2=>?_)
    have hz2:=add_in hz2 (by omega) (by omega)
    subst hz2
    exact Ai rfl (Ei (q+1) (Ai ⟨rfl,rfl,trivial⟩ (Ai (next hlt (by rw[same_q hlt (upB_not fun hh=>hn hh.2)];exact hb) hsz hold) (by omega))))
  ·refine Ai rfl (fun z2 hz2=>?_)
   have hz2:=add_in hz2 (by omega) (by omega)
   subst hz2
   exact Ai rfl (Ei (q+1) (Ai ⟨rfl,rfl,trivial⟩ (Ai (next hlt (by rw[same_q hlt (upB_not fun hh=>hn hh.1)];exact hb) hsz hold) (by omega))))
 ·have hkl:q=bs.length:=by omega
  subst hkl
  rw[upTo_all]at hb
  refine Ei (bs.map upB) (Ai (by simp) (Ai (cells_pre hb) (Ai rfl ?_)))
  refine⟨by rw[hsz,g.size];omega,fun k hk _=>?_⟩
  have:=g.id
  rw[hold k (by omega),g.old k hk]
def ofB (l:List UInt8):ByteArray:=⟨⟨l⟩⟩
def KeysF (es:List MapEntry) (ks:List (List UInt8)):Prop:=es.map (·.key)=ks.map fun n=>.string (ofB n)
theorem KeysF.fits {es:List MapEntry} {ks:List (List UInt8)} (hk:KeysF es ks):∀e∈es,fits .str e.key=true:=fun e he=>by
 have:e.key∈es.map (·.key):=List.mem_map_of_mem he
 rw[hk]at this
 obtain⟨n,_,e1⟩:=List.mem_map.1 this
 rw[←e1];rfl
theorem KeysF.miss {k:List UInt8}:∀{es:List MapEntry} {ks:List (List UInt8)} {i:Nat},KeysF es ks→k∉ks→mfind (.string (ofB k)) es i=none
 |[],ks,i,_,_=>rfl
 |e::es,[],i,hk,_=>by simp[KeysF]at hk
 |e::es,n::ks,i,hk,hn=>by
  simp only[KeysF,List.map_cons,List.cons.injEq]at hk
  unfold mfind
  rw[if_neg,KeysF.miss (es:=es) (ks:=ks) hk.2 (fun h=>hn (by simp[h]))]
  intro hs
  have:=sameBits_eq (k:=.str) (by rfl) (by rw[hk.1];rfl) hs
  rw[hk.1]at this
  simp[ofB]at this
  exact hn (by simp[this])
theorem none_nil {h:Heap}:CallsH Tryz.prog 42 [.pointer none] h (Ret fun r h'=>r=.bool true∧h'=h):=by
 refine f42_calls (by simp) ?_
 exact Ai rfl rfl
theorem same_nil {h:Heap} {kb sb mb:Nat} (x:KS h kb sb mb):CallsH Tryz.prog 37 [ptr kb,.pointer none] h (Ret fun r h'=>r=.bool false∧h'=h):=by
 refine f37_calls (by simp) ?_
 refine call_ret (none_calls x) ?_
 rintro _ h1 ⟨rfl,e⟩
 have e:=e.symm
 subst e
 refine call_ret none_nil ?_
 rintro _ h1 ⟨rfl,e⟩
 have e:=e.symm
 subst e
 refine call_ret (none_calls x) ?_
 rintro _ h1 ⟨rfl,e⟩
 have e:=e.symm
 subst e
 exact Ai rfl rfl
theorem sl_slc {α:Type} {enc:α→List Value} {size:Nat} {K:Value→Heap→Prop} {h:Heap} {a:Option Addr} {c:Nat} {l:List α} (hsz:∀x,(enc x).length=size) (hs:SL enc h (.slice a l.length c) l) {lo hi:Nat} (h0:lo≤hi) (h1:hi≤l.length)
  (hK:∀v,(∀h',SL enc h' (.slice a l.length c) l→SL enc h' v ((l.drop lo).take (hi-lo)))→K v h):slcR K h size a c (lo:Int) (hi:Int):=by
 have e1:((hi:Int)-(lo:Int)).toNat=hi-lo:=by omega
 have e2:((c:Int)-(lo:Int)).toNat=c-lo:=by omega
 have hlc:=hs.len.2
 have hlen:((l.drop lo).take (hi-lo)).length=hi-lo:=by simp;omega
 obtain⟨a',c',he,hc',h2⟩:=id hs
 cases he
 cases a with
 |none=>
  have hz:l.length=0:=h2
  unfold slcR
  rw[e1,e2]
  refine hK _ fun h' _=>⟨none,c-lo,by rw[hlen],by rw[hlen];omega,?_⟩
  show((l.drop lo).take (hi-lo)).length=0
  omega
 |some a=>
  obtain⟨b,o,sp⟩:=a
  cases sp with
  |none=>
   intro o' ho1 ho2
   rw[e1,e2]
   refine hK _ fun h' hs'=>(SL.cut hsz hs' h0 h1 (fun hlt=>?_) (fun hce=>?_))
   ·rw[ho1 (by omega)];simp
   ·exact ho2 (by omega)
  |some q=>
   have hz:l.length=0:=h2
   unfold slcR
   rw[e1,e2]
   refine Ai (by omega) (hK _ fun h' _=>⟨_,c-lo,by rw[hlen],by rw[hlen];omega,?_⟩)
   show((l.drop lo).take (hi-lo)).length=0
   omega
def DoR (h:Heap) (res:Except ByteArray (Rep×List Eff)) (r:Value) (h':Heap):Prop:=Chg [] h h'∧match res with
 |.ok (q,E)=>∃v lv,r=.tuple ⟨[v,lv,.bool true]⟩∧RepAt 0 h' v q∧SL encD h' lv E∧∀b∈vblk lv,h.size≤b
 |.error why=>r=.tuple ⟨[repV 2 0 why,.slice none 0 0,.bool true]⟩
def nothing8:Value:=.tuple ⟨[repV 0 0 noText,.slice none 0 0,.bool false]⟩
section
variable {S:Space} {k s:ByteArray} {t:Thing} {n:Int}
end
def KeyS (S:Space):Prop:=∀p∈S,p.1.size≤1048576
structure Few (S:Space):Prop where
 up:UpS S
 keys:KeyS S
 len:S.length≤20
 ins:InS S
end Go.Proofs.YtjnijlnmbjjgpaaGreatDoor
namespace Go.Proofs.YtjnijlnmbjjgpaaGreatDoor
open Go Go.Sx C
section
variable {h0 h:Heap} {ab kb sb mb c:Nat} {now n:Int} {av lv:Value} {A:List ByteArray} {m:List KI} {S:Space} {key s a:ByteArray} {t:Thing} {go:Option Thing} {q:Rep} {E:List Eff}
def KindS (S:Space):Prop:=∀p∈S,1≤p.2.kind∧p.2.kind≤5
def UntS (S:Space):Prop:=∀p∈S,In64 p.2.unt
end
end Go.Proofs.YtjnijlnmbjjgpaaGreatDoor
namespace Go.Proofs.YtjnijlnmbjjgpaaGreatDoor
open Go Go.Sx C
theorem tin8 {t:Thing} (hk:kOK t=true) (s:Small t):TIn t:=by
 have few:countT t≤65536:=(small_short s).2.2.2
 unfold kOK at hk
 split at hk
 ·cases hk
 split at hk
 ·rename_i h1
  have hk:=of_decide_eq_true hk
  have p:t.pairs=[]:=List.length_eq_zero_iff.1 (by omega)
  have l:t.list=[]:=List.length_eq_zero_iff.1 (by omega)
  have r:t.ranks=[]:=List.length_eq_zero_iff.1 (by omega)
  exact⟨⟨by rw[p];exact .nil,fun _=>by rw[l];exact .nil,by rw[r];exact .nil,by rw[r];exact List.nodup_nil,fun h=>by omega,few⟩,fun h=>by omega⟩
 split at hk
 ·rename_i h1
  simp only[Bool.and_eq_true,decide_eq_true_eq]at hk
  obtain⟨h2,h3,h4,h5⟩:=hk
  have r:t.ranks=[]:=List.length_eq_zero_iff.1 (by omega)
  exact⟨⟨rising_lt (lt:=fun x y:Pair=>sless x.name y.name) (fun a b c=>sless_trans) h5,fun h=>by omega,by rw[r];exact .nil,by rw[r];exact List.nodup_nil,fun h=>by omega,few⟩,fun h=>by omega⟩
 split at hk
 ·rename_i h1
  simp only[Bool.and_eq_true,decide_eq_true_eq]at hk
  obtain⟨h2,h3,h4⟩:=hk
  have p:t.pairs=[]:=List.length_eq_zero_iff.1 (by omega)
  have r:t.ranks=[]:=List.length_eq_zero_iff.1 (by omega)
  exact⟨⟨by rw[p];exact .nil,fun h=>by omega,by rw[r];exact .nil,by rw[r];exact List.nodup_nil,fun _=>⟨p,r⟩,few⟩,fun _=>List.length_pos_iff.1 h2⟩
 split at hk
 ·rename_i h1
  simp only[Bool.and_eq_true,decide_eq_true_eq]at hk
  obtain⟨h2,h3,h4,h5⟩:=hk
  have p:t.pairs=[]:=List.length_eq_zero_iff.1 (by omega)
  have r:t.ranks=[]:=List.length_eq_zero_iff.1 (by omega)
  exact⟨⟨by rw[p];exact .nil,fun _=>rising_lt (lt:=sless) (fun a b c=>sless_trans) h5,by rw[r];exact .nil,by rw[r];exact List.nodup_nil,fun h=>by omega,few⟩,fun h=>by omega⟩
 split at hk
 ·rename_i h1
  simp only[Bool.and_eq_true,decide_eq_true_eq]at hk
  obtain⟨h2,h3,h4,h5,h6⟩:=hk
  have p:t.pairs=[]:=List.length_eq_zero_iff.1 (by omega)
  exact⟨⟨by rw[p];exact .nil,fun h=>by omega,rising_lt ahead_tr h5,of_decide_eq_true h6,fun h=>by omega,few⟩,fun h=>by omega⟩
 ·cases hk
theorem named8 {t:Thing} (s:Small t):Named t:=⟨fun x hx=>by have:=s.ps x hx;omega,fun x hx=>by have:=s.ls x hx;omega,fun x hx=>by have:=s.rs x hx;omega⟩
theorem rg8 {l k:List RX} (nv:NVast l) (hk:ofX [] l=some k):RG k:=by
 obtain⟨h1,h2,h3⟩:=ofX_ok List.Pairwise.nil hk
 have hn:=(ofX_nodup List.Pairwise.nil hk).2
 have hm:∀x∈k,x∈l:=fun x hx=>by simpa using(h2 x).1 hx
 have hl:=nv.len
 have hlk:k.length=l.length:=by simpa using h3
 exact⟨h1,by omega,fun x hx=>nv.fit x (hm x hx),fun x hx=>tin8 (hn x (hm x hx)) (nv.small x (hm x hx)),fun x hx=>named8 (nv.small x (hm x hx))⟩
theorem kind8 {t:Thing} (hk:kOK t=true):1≤t.kind∧t.kind≤5:=by
 unfold kOK at hk
 split at hk
 ·cases hk
 split at hk
 ·omega
 split at hk
 ·omega
 split at hk
 ·omega
 split at hk
 ·omega
 split at hk
 ·omega
 ·cases hk
structure S8 (S:Space):Prop where
 few:Few S
 kind:KindS S
 text:TextS S
 unt:UntS S
 nm:∀p∈S,Named p.2
theorem s8_of {l k:List RX} (nv:NVast l) (hk:ofX [] l=some k) (hu:∀x∈l,In64 x.thing.unt):S8 (k.map RX.pr):=by
 obtain⟨h1,h2,h3⟩:=ofX_ok List.Pairwise.nil hk
 have hn:=(ofX_nodup List.Pairwise.nil hk).2
 have hm:∀x∈k,x∈l:=fun x hx=>by simpa using(h2 x).1 hx
 have hl:=nv.len
 have hlk:k.length=l.length:=by simpa using h3
 have rg:=rg8 nv hk
 have of:∀p∈k.map RX.pr,∃x∈l,RX.pr x=p:=fun p hp=>by
  obtain⟨x,hx,rfl⟩:=List.mem_map.1 hp
  exact⟨x,hm x hx,rfl⟩
 refine⟨⟨pr_up h1,fun p hp=>?_,by simp;omega,rg.ins⟩,fun p hp=>?_,fun p hp=>?_,fun p hp=>?_,fun p hp=>?_⟩
 ·obtain⟨x,hx,rfl⟩:=of p hp
  have:=nv.keys x hx
  show x.key.size≤1048576
  omega
 ·obtain⟨x,hx,rfl⟩:=of p hp
  exact kind8 (hn x hx)
 ·obtain⟨x,hx,rfl⟩:=of p hp
  have:=(nv.small x hx).text
  show x.thing.text.size<281474976710656
  omega
 ·obtain⟨x,hx,rfl⟩:=of p hp
  exact hu x hx
 ·obtain⟨x,hx,rfl⟩:=of p hp
  exact named8 (nv.small x hx)
section
variable {h0 h:Heap} {ab kb sb mb c:Nat} {now n:Int} {av lv:Value} {A:List ByteArray} {m:List KI} {S:Space}
end
structure CM (es:List MapEntry) (pre:List ByteArray):Prop where
 fits:∀e∈es,fits .str e.key=true
 cnt:∀k,(mfind (.string k) es 0=none∧k∉pre)∨(∃i,mfind (.string k) es 0=some (i,.int .i64 (cntB k pre))∧k∈pre)
theorem CM.nil:CM [] []:=⟨by simp,fun k=>.inl ⟨rfl,by simp⟩⟩
theorem key_same {e:MapEntry} {k:ByteArray} (hf:fits .str e.key=true):Instr.sameBits 10000 (.string k) e.key=true↔e.key=.string k:=by
 constructor
 ·intro hs;exact(sameBits_eq (k:=.str) (by rfl) hf hs).symm
 ·intro e;rw[e];exact sameBits_refl (k:=.str) rfl
theorem mfind_app {k k':ByteArray} {v:Value} {c:Nat}:∀{es:List MapEntry} {i:Nat},(∀e∈es,fits .str e.key=true)→mfind (.string k) es i=none→
  mfind (.string k') (es++[{key:=.string k,val:=v,born:=c}]) i=(if k'=k then some (i+es.length,v)else mfind (.string k') es i)
 |[],i,_,_=>by
  simp only[List.nil_append,mfind]
  by_cases h:k'=k
  ·rw[if_pos h,if_pos (by rw[h];exact sameBits_refl (k:=.str) rfl)];rfl
  ·rw[if_neg h,if_neg]
   intro hs
   have:=sameBits_eq (k:=.str) (by rfl) (by rfl) hs
   simp at this
   exact h this
 |e::es,i,hf,hn=>by
  have hfe:=hf e (by simp)
  simp only[mfind]at hn
  split at hn
  ·cases hn
  ·rename_i hne
   have ih:=mfind_app (k:=k) (k':=k') (v:=v) (c:=c) (es:=es) (i:=i+1) (fun e he=>hf e (by simp[he])) hn
   simp only[List.cons_append,mfind]
   rw[ih]
   by_cases h:k'=k
   ·rw[if_pos h,if_pos h,h,if_neg hne]
    simp only[List.length_cons]
    congr 2;omega
   ·rw[if_neg h,if_neg h]
theorem mfind_mod {k k':ByteArray} {v u:Value}:∀{es:List MapEntry} {i j:Nat},(∀e∈es,fits .str e.key=true)→mfind (.string k) es i=some (i+j,u)→
  (k'=k→mfind (.string k') (es.modify j fun e=>{e with val:=v}) i=some (i+j,v))∧(k'≠k→mfind (.string k') (es.modify j fun e=>{e with val:=v}) i=mfind (.string k') es i)
 |[],i,j,_,h=>by simp[mfind]at h
 |e::es,i,j,hf,h=>by
  have hfe:=hf e (by simp)
  simp only[mfind]at h
  split at h
  ·rename_i hs
   simp at h
   have hj:j=0:=by omega
   subst hj
   have hk:=(key_same hfe).1 hs
   simp only[List.modify_zero_cons,mfind]
   refine⟨fun e1=>?_,fun hne=>?_⟩
   ·rw[e1,if_pos hs];rfl
   ·have:¬(Instr.sameBits 10000 (.string k') e.key=true):=fun h2=>by
     have:=(key_same hfe).1 h2
     rw[hk]at this
     simp at this
     exact hne this.symm
    rw[if_neg this,if_neg this]
  ·rename_i hs
   cases j with
   |zero=>
    exfalso
    have:∀{es:List MapEntry} {i p:Nat} {u:Value},mfind (.string k) es i=some (p,u)→i≤p:=by
     intro es
     induction es with
     |nil=>intro i p u h;simp[mfind]at h
     |cons e es ih=>
      intro i p u h
      simp only[mfind]at h
      split at h
      ·simp at h;omega
      ·have:=ih h;omega
    have:=this h
    omega
   |succ j=>
    have h:mfind (.string k) es (i+1)=some (i+1+j,u):=by rw[h];congr 2;omega
    obtain⟨m1,m2⟩:=mfind_mod (k:=k) (k':=k') (v:=v) (fun e he=>hf e (by simp[he])) h
    simp only[List.modify_succ_cons,mfind]
    refine⟨fun e1=>?_,fun hne=>?_⟩
    ·rw[m1 e1,e1,if_neg hs];congr 2;omega
    ·rw[m2 hne]
theorem CM.put0 {es:List MapEntry} {pre:List ByteArray} (x:CM es pre) {k:ByteArray} {c:Nat} {n:Int} (h1:mfind (.string k) es 0=none) (h2:k∉pre) (hn:n=1):
  CM (es++[{key:=.string k,val:=.int .i64 n,born:=c}]) (pre++[k]):=by
 have h0:cntB k pre=0:=cntB_zero h2
 refine⟨fun e he=>?_,fun k'=>?_⟩
 ·rcases List.mem_append.1 he with he|he
  ·exact x.fits e he
  ·rw[List.mem_singleton.1 he];rfl
 ·rw[mfind_app x.fits h1,cntB_snoc]
  by_cases hk:k'=k
  ·rw[if_pos hk,if_pos hk]
   refine .inr ⟨0+es.length,?_,by simp[hk]⟩
   rw[hk,h0,hn];rfl
  ·rw[if_neg hk,if_neg hk]
   rcases x.cnt k' with⟨h3,h4⟩|⟨j,h3,h4⟩
   ·exact .inl ⟨h3,by simp[h4,hk]⟩
   ·exact .inr ⟨j,by simpa using h3,by simp[h4]⟩
theorem CM.put1 {es:List MapEntry} {pre:List ByteArray} (x:CM es pre) {k:ByteArray} {i:Nat} {n:Int} (h1:mfind (.string k) es 0=some (i,.int .i64 (cntB k pre))) (hn:n=cntB k pre+1):
  CM (es.modify i fun e=>{e with val:=.int .i64 n}) (pre++[k]):=by
 have h1':mfind (.string k) es 0=some (0+i,.int .i64 (cntB k pre)):=by rw[h1];simp
 refine⟨fun e he=>?_,fun k'=>?_⟩
 ·obtain⟨j,hj⟩:=List.getElem?_of_mem he
  rw[List.getElem?_modify]at hj
  obtain⟨e0,he0,rfl⟩:=Option.map_eq_some_iff.1 hj
  have:=x.fits e0 (List.mem_of_getElem? he0)
  split<;>exact this
 ·obtain⟨m1,m2⟩:=mfind_mod (k':=k') (v:=.int .i64 n) x.fits h1'
  rw[cntB_snoc]
  by_cases hk:k'=k
  ·rw[if_pos hk]
   refine .inr ⟨0+i,?_,by simp[hk]⟩
   rw[m1 hk,hk,hn];rfl
  ·rw[if_neg hk]
   rw[m2 hk]
   rcases x.cnt k' with⟨h3,h4⟩|⟨j,h3,h4⟩
   ·exact .inl ⟨h3,by simp[h4,hk]⟩
   ·exact .inr ⟨j,by simpa using h3,by simp[h4]⟩
theorem CM.hit {es:List MapEntry} {pre:List ByteArray} {k:ByteArray} (x:CM es (pre++[k])):∃i,mfind (.string k) es 0=some (i,.int .i64 (cntB k pre+1:Nat)):=by
 rcases x.cnt k with⟨_,h2⟩|⟨i,h1,_⟩
 ·exact absurd (by simp) h2
 ·rw[cntB_snoc,if_pos rfl]at h1
  exact⟨i,h1⟩
end Go.Proofs.YtjnijlnmbjjgpaaGreatDoor
namespace Go.Proofs.YtjnijlnmbjjgpaaGreatDoor
open Go Go.Sx C
section
variable {h0 h h':Heap} {ab kb sb mb c b2:Nat} {now n:Int} {av lv v:Value} {A:List ByteArray} {m:List KI} {S:Space} {M:List En} {E:List Eff} {res:Except ByteArray (Rep×List Eff)} {ls:List (Int×Int×ByteArray)}
theorem _root_.Go.Sx.St.empty {T:List Nat} {α:Type} {enc:α→List Value} {size:Nat} (w:St T h0 h M):St T h0 h (.o enc size (.slice none 0 0) ([]:List α)::M):=
 w.add (e:=.o enc size (.slice none 0 0) ([]:List α)) (Chg.refl _) OL.nil (fun b hb=>(nomatch (show b∈([]:List Nat)from hb)))
end
end Go.Proofs.YtjnijlnmbjjgpaaGreatDoor

namespace Go.Proofs.YtjnijlnmbjjgpaaGreatDoor
open Go Go.Sx C
section
variable {h0 h h':Heap} {ab kb sb mb c l D b2:Nat} {now n:Int} {av lv:Value} {A:List ByteArray} {m:List KI} {S:Space} {T:List Nat} {M:List En} {r:Loop} {st st':LoopState} {key s W N:ByteArray} {res:Res}
def lpE (l D:Nat) (r:Loop) (st:LoopState):En:=
 .x [l,D] (fun h=>LoopB h l r st none∧h[D]? =some (.deferred (some []))) (fun S h h' hc hn ⟨h1,h2⟩=>⟨loopB_chg h1 hc (hn _ (by simp)),get_chg h2 hc (hn _ (by simp))⟩)
  (fun h ⟨h1,h2⟩ b hb=>by
   rcases List.mem_cons.1 hb with rfl|hb
   ·exact get_lt h1.at_
   ·rw[List.mem_singleton.1 hb];exact get_lt h2)
theorem _root_.Go.Sx.St.turn (w:St T h0 h M) (i:Nat) (hi:M[i]? =some (lpE l D r st)) (hne:D≠l) (t:Turn h h' l r st' none):St T h0 h' (M.set i (lpE l D r st')):=by
 refine w.set i hi t.chg (fun b hb=>.inl (by simp at hb;simp[lpE,En.fp,hb])) ⟨t.rec_,?_⟩ (fun b hb=>.inl hb)
 rw[t.old D hne];exact(w.get i hi).2
def ltE (p:Nat):En:=.x [p] (fun h=>p<h.size) (fun _ _ _ hc _ h1=>Nat.lt_of_lt_of_le h1 hc.size) (fun h h1 b hb=>by rw[List.mem_singleton.1 hb];exact h1)
def fixE (p:Nat) (o:Option Obj):En:=.x [p] (fun h=>p<h.size∧h[p]? =o) (fun _ _ _ hc hn ⟨h1,h2⟩=>⟨Nat.lt_of_lt_of_le h1 hc.size,by rw[hc.old p h1 (hn _ (by simp))];exact h2⟩) (fun h h1 b hb=>by rw[List.mem_singleton.1 hb];exact h1.1)
end
end Go.Proofs.YtjnijlnmbjjgpaaGreatDoor

namespace Go.Proofs.YtjnijlnmbjjgpaaGreatDoor
open Go Go.Sx C
abbrev aT (xb:Nat) (t:Thing) (pv lw rv:Value) (key:ByteArray) (kv:Value) (now:Int) (av lv:Value) (L:List Eff) (why:ByteArray):En:=rxE9 xb (cellsT t pv lw rv++[.string key]) kv now av lv L why
section
variable {h0 h h1 h':Heap} {xb i:Nat} {now n kd:Int} {kv av lv pv lw rv pv' lw' rv':Value} {k:List RX} {A:List ByteArray} {L:List Eff} {why key key' s:ByteArray} {t t':Thing} {M:List En} {T:List Nat} {e e':En}
theorem _root_.Go.Sx.St.stT9 {K:Heap→Prop} (w:St T h1 h M) (i:Nat) (hi:M[i]? =some (aT xb t pv lw rv key kv now av lv L why)) (hone:∀u∈cellsT t' pv' lw' rv',u.oneCell'=true) (k:∀h',St T h1 h' (M.set i (aT xb t' pv' lw' rv' key kv now av lv L why))→K h'):
  ∃l,Blk h xb l∧5+7≤l.length∧(cellsT t' pv' lw' rv').length=7∧(∀u∈cellsT t' pv' lw' rv',u.oneCell'=true)∧∀h',Put h h' xb (splice l 5 (cellsT t' pv' lw' rv'))→K h':=by
 obtain⟨hB,hO,hn⟩:=w.get i hi
 refine⟨_,hB,by simp[cellsT],rfl,hone,fun h' p=>k h' ?_⟩
 have hO2:=hO.chg p.chg (fun b hb=>by simp;rintro rfl;exact hn hb)
 exact w.set i hi p.chg (fun b hb=>.inl (by simp at hb;simp[rxE9,En.fp,hb])) ⟨by have e:=p.blk;simpa[splice,cellsT]using e,hO2,hn⟩ (fun b hb=>.inl hb)
theorem _root_.Go.Sx.St.stK9 {K:Heap→Prop} (w:St T h1 h M) (i:Nat) (hi:M[i]? =some (aT xb t pv lw rv key kv now av lv L why)) (k:∀h',St T h1 h' (M.set i (aT xb t pv lw rv key' kv now av lv L why))→K h'):
  ∃l,Blk h xb l∧12+1≤l.length∧[Value.string key'].length=1∧(∀u∈[Value.string key'],u.oneCell'=true)∧∀h',Put h h' xb (splice l 12 [.string key'])→K h':=by
 obtain⟨hB,hO,hn⟩:=w.get i hi
 refine⟨_,hB,by simp[cellsT],rfl,ones1 rfl,fun h' p=>k h' ?_⟩
 have hO2:=hO.chg p.chg (fun b hb=>by simp;rintro rfl;exact hn hb)
 exact w.set i hi p.chg (fun b hb=>.inl (by simp at hb;simp[rxE9,En.fp,hb])) ⟨by have e:=p.blk;simpa[splice,cellsT]using e,hO2,hn⟩ (fun b hb=>.inl hb)
theorem rof9_calls (c:RC9 h0 kv k av A) (x:As h0 h (aT xb t pv lw rv key kv now av lv L why)) (hk:key.size<4611686018427387904):CallsH Tryz.prog 59 [ptr xb,.int .i64 kd] h
  (Ret fun r h'=>∃pv' lw' rv',r=.bool (okK kd (getS (k.map RX.pr) key now))∧(∀h2,Chg [] h0 h2→TH h2 (cellsT ((getS (k.map RX.pr) key now).getD zeroT) pv' lw' rv') ((getS (k.map RX.pr) key now).getD zeroT))∧
   RxO9 h0 h (aT xb t pv lw rv key kv now av lv L why) h' (aT xb ((getS (k.map RX.pr) key now).getD zeroT) pv' lw' rv' key kv now av lv L (if okK kd (getS (k.map RX.pr) key now)=true then why else wType))):=by
 refine g59_calls (by simp) ?_
 have w:=x.st
 refine w.ldr9 0 rfl rfl ?_
 refine Ai ?_ ?_
 ·refine call_ret (rthing9_calls c (x.out w 0 rfl).1 hk) ?_
  rintro _ h2 ⟨⟨pv',lw',rv',rfl,hone,hth⟩,_,o2⟩
  have w:=w.own 0 rfl o2
  intro b5 h3 g3
  have w:=w.new g3
  refine w.st3 0 rfl rfl rfl hone fun h4 w=>?_
  refine w.ldw 0 rfl rfl ?_
  refine w.stT9 1 rfl hone fun h5 w=>?_
  exact⟨pv',lw',rv',rfl,hth,x.out w 1 rfl⟩
 ·intro b5 h3 g3
  have w:=w.new g3
  refine call_ret (rthing9_calls c (x.out w 1 rfl).1 hk) ?_
  rintro _ h2 ⟨⟨pv',lw',rv',rfl,hone,hth⟩,_,o2⟩
  have w:=w.own 1 rfl o2
  refine w.st3 0 rfl rfl rfl hone fun h4 w=>?_
  refine w.ldw 0 rfl rfl ?_
  refine w.stT9 1 rfl hone fun h5 w=>?_
  exact⟨pv',lw',rv',rfl,hth,x.out w 1 rfl⟩
def preL (S:Space) (key:ByteArray) (now:Int) (L:List Eff):List Eff:=if L.length=0 then L++dropsS S key now else L
theorem rput9_calls {items op num:Int} {k0 nm tx:ByteArray} (c:RC9 h0 kv k av A) (x:As h0 h (aT xb t pv lw rv key kv now av lv L why)) (hL:L.length≤1000) (hi:items≤65536) (hk:key.size≤1048576) (hn:nm.size≤1048576) (ht:tx.size≤1048576):
  CallsH Tryz.prog 127 [ptr xb,.agg ⟨[.int .i64 op,.string k0,.string nm,.string tx,.int .i64 num]⟩,.int .i64 items] h
  (Ret fun r h'=>r=.bool true∧∃lv',RxO9 h0 h (aT xb t pv lw rv key kv now av lv L why) h' (aT xb t pv lw rv key kv now av lv' (preL (k.map RX.pr) key now L++[⟨op,key,nm,tx,num⟩]) why)):=by
 obtain⟨a,cc,rfl⟩:=x.st.rform9 0 rfl
 refine f127_calls (by simp) ?_
 intro b4 h1 g1
 have w:=x.st.new g1
 refine Ai rfl (Ai (fun h1=>absurd h1 (by omega)) (fun _=>?_))
 refine w.ldr9 1 rfl rfl ?_
 refine Ai rfl (Ai (fun h1=>absurd h1 (by omega)) (fun _=>?_))
 refine w.ld1 0 rfl rfl ?_
 refine Ai rfl (Ai (fun h1=>absurd h1 (by omega)) (fun _=>?_))
 refine w.ld1 0 rfl rfl ?_
 refine Ai rfl (Ai (fun h1=>absurd h1 (by omega)) (fun _=>?_))
 have fin:∀{h2:Heap} {a2:Option Addr} {c2:Nat} {L2:List Eff},preL (k.map RX.pr) key now L=L2→L2.length≤2000→St (xb::vblk (.slice a L.length cc)) h h2 [.b b4 [.int .i64 op,.string k0,.string nm,.string tx,.int .i64 num],aT xb t pv lw rv key kv now av (.slice a2 L2.length c2) L2 why]→
   swp Tryz.prog (.seq (.ops f127r6) (.seq (.ops f127r7) (.seq (.ops f127r8) .ret))) (retQ [.t 6] (Ret fun r h'=>r=.bool true∧∃lv',RxO9 h0 h (aT xb t pv lw rv key kv now av (.slice a L.length cc) L why) h' (aT xb t pv lw rv key kv now av lv' (preL (k.map RX.pr) key now L++[⟨op,key,nm,tx,num⟩]) why)))
    (mk [(0,ptr xb),(4,ptr b4)]) [] h2:=by
  intro h2 a2 c2 L2 he hl2 w
  rw[he]
  refine w.ldr9 1 rfl rfl ?_
  refine w.st1 0 rfl rfl rfl rfl fun h3 w=>?_
  refine w.ldr9 1 rfl rfl ?_
  refine w.ldw 0 rfl rfl ?_
  intro b7 h4 g4
  have w:=w.new g4
  refine w.rapp9 2 rfl rfl (one_sl (e:=⟨op,key,nm,tx,num⟩) (w.get 0 rfl)) (by simp only[List.length_singleton];omega) fun a5 n5 h5 hst=>?_
  refine hst fun h6 w=>?_
  exact⟨rfl,_,x.out w 2 rfl⟩
 refine w.ldr9 1 rfl rfl ?_
 refine Ai rfl (Ai (fun hz=>?_) (fun hz=>?_))
 ·have hz:L.length=0:=by omega
  refine w.ldr9 1 rfl rfl ?_
  refine call_ret (rgone9_calls c (x.out w 1 rfl).1 (by omega) (by omega)) ?_
  rintro _ h3 ⟨lv2,_,o3⟩
  have w:=w.own 1 rfl o3
  obtain⟨a3,c3,rfl⟩:=w.rform9 1 rfl
  have dl:=drops_len (k.map RX.pr) key now
  exact cut_at [(0,ptr xb),(4,ptr b4)] ⟨rfl,rfl,trivial⟩ (fin (if_pos hz) (by simp only[List.length_append];omega) w)
 ·exact cut_at [(0,ptr xb),(4,ptr b4)] ⟨rfl,rfl,trivial⟩ (fin (if_neg (by omega)) (by omega) w)
theorem rtake9_calls {op num:Int} {k0 nm tx:ByteArray} (x:As h0 h (aT xb t pv lw rv key kv now av lv L why)) (hL:L.length≤1000):
  CallsH Tryz.prog 134 [ptr xb,.agg ⟨[.int .i64 op,.string k0,.string nm,.string tx,.int .i64 num]⟩] h
  (Ret fun _ h'=>∃lv',RxO9 h0 h (aT xb t pv lw rv key kv now av lv L why) h' (aT xb t pv lw rv key kv now av lv' (L++[⟨op,key,nm,tx,num⟩]) why)):=by
 obtain⟨a,cc,rfl⟩:=x.st.rform9 0 rfl
 refine f134_calls (by simp) ?_
 intro b4 h1 g1
 have w:=x.st.new g1
 refine w.ldr9 1 rfl rfl ?_
 refine w.st1 0 rfl rfl rfl rfl fun h3 w=>?_
 refine w.ldr9 1 rfl rfl ?_
 refine w.ldw 0 rfl rfl ?_
 intro b7 h4 g4
 have w:=w.new g4
 refine w.rapp9 2 rfl rfl (one_sl (e:=⟨op,key,nm,tx,num⟩) (w.get 0 rfl)) (by simp only[List.length_singleton];omega) fun a5 n5 h5 hst=>?_
 refine hst fun h6 w=>?_
 exact⟨_,x.out w 2 rfl⟩
theorem rplace_calls {n:Nat} {a:Int} (hn:n≤100000) (ha:In64 a):CallsH Tryz.prog 136 [.int .i64 n,.int .i64 a] h (Ret fun r h'=>r=.tuple #[.int .i64 ((placeN n a).getD 0),.bool (placeN n a).isSome]∧h'=h):=by
 obtain⟨a0,a1⟩:=ha
 refine f136_calls (by simp) ?_
 refine Ai rfl (Ai (fun h1=>?_) (fun h1=>?_))
 ·rw[show placeN n a=none by unfold placeN;rw[if_neg (by omega),if_neg (by omega)]]
  exact⟨rfl,rfl⟩
 intro z hz
 have hz:z= -(n:Int):=hz.trans ((wrap_in (by omega) (by omega)).trans (by omega))
 subst hz
 refine Ai rfl (Ai (fun h2=>?_) (fun h2=>?_))
 ·rw[show placeN n a=none by unfold placeN;rw[if_pos (by omega),if_neg (by omega)]]
  exact⟨rfl,rfl⟩
 refine Ai rfl (Ai (fun h3=>?_) (fun h3=>?_))
 ·refine Ai rfl (fun z hz=>?_)
  have hz:z=n+a:=hz.trans (wrap_in (by omega) (by omega))
  subst hz
  rw[show placeN n a=some (a+n).toNat by unfold placeN;rw[if_pos h3,if_pos (by omega)]]
  refine⟨?_,rfl⟩
  show retV [.int .i64 ((n:Int)+a),.bool true]=.tuple #[.int .i64 (((a+n).toNat:Nat):Int),.bool true]
  rw[show(((a+n).toNat:Nat):Int)=(n:Int)+a by omega]
  rfl
 ·rw[show placeN n a=some a.toNat by unfold placeN;rw[if_neg h3,if_pos (by omega)]]
  refine⟨?_,rfl⟩
  show retV [.int .i64 a,.bool true]=.tuple #[.int .i64 ((a.toNat:Nat):Int),.bool true]
  rw[show((a.toNat:Nat):Int)=a by omega]
  rfl
end
end Go.Proofs.YtjnijlnmbjjgpaaGreatDoor
namespace Go.Proofs.YtjnijlnmbjjgpaaGreatDoor
open Go Go.Sx C
def cellsC (t:Thing) (pv lw rv:Value) (is:Bool) (kb:Nat) (now:Int) (key:ByteArray) (av lv:Value):List Value:=
 [.int .i64 t.kind,.string t.text,pv,lw,rv,.bool t.hasU,.int .i64 t.unt,.bool is,ptr kb,.int .i64 now,.string key,av,lv]
def cE (ab kb:Nat) (now:Int) (av:Value) (key:ByteArray) (t:Thing) (is:Bool) (pv lw rv lv:Value) (L:List Eff):En:=
 .x (ab::(vblk lv++bl3 pv lw rv)) (fun h=>Blk h ab (cellsC t pv lw rv is kb now key av lv)∧OL encD 5 h lv L∧TH h (cellsT t pv lw rv) t∧(∀b∈bl3 pv lw rv,b<h.size)∧ab∉vblk lv∧ab∉bl3 pv lw rv∧∀b∈vblk lv,b∉bl3 pv lw rv)
  (fun _ _ _ hc hn ⟨h1,h2,h3,h4,h5,h6,h7⟩=>⟨h1.chg hc (hn _ (by simp)),h2.chg hc (fun b hb=>hn _ (by simp[hb])),th_off h3 hc (fun b hb=>hn _ (by simp[hb])),fun b hb=>Nat.lt_of_lt_of_le (h4 b hb) hc.size,h5,h6,h7⟩)
  (fun _ ⟨h1,h2,_,h4,_⟩ b hb=>by
   rcases List.mem_cons.1 hb with rfl|hb
   ·exact h1.lt
   ·rcases List.mem_append.1 hb with hb|hb
    ·exact OL.lt h2 b hb
    ·exact h4 b hb)
section
variable {h h1 h':Heap} {ab kb i:Nat} {now:Int} {av lv pv lw rv:Value} {key key2:ByteArray} {t:Thing} {is:Bool} {L F:List Eff} {M:List En} {T:List Nat}
theorem _root_.Go.Sx.St.ldc {o:Nat} {v:Value} {K:Value→Prop} (w:St T h1 h M) (i:Nat) (hi:M[i]? =some (cE ab kb now av key t is pv lw rv lv L)) (hv:(cellsC t pv lw rv is kb now key av lv)[o]? =some v) (k:K v):∃v,cell h ab o=some v∧K v:=⟨v,cell_blk (w.get i hi).1 hv,k⟩
theorem _root_.Go.Sx.St.cform (w:St T h1 h M) (i:Nat) (hi:M[i]? =some (cE ab kb now av key t is pv lw rv lv L)):∃a c,lv=.slice a L.length c:=by
 obtain⟨a,c,e,_⟩:=(show OL encD 5 h lv L from(w.get i hi).2.1).sl.form
 exact⟨a,c,e⟩
theorem _root_.Go.Sx.St.ckey {K:Heap→Prop} (w:St T h1 h M) (i:Nat) (hi:M[i]? =some (cE ab kb now av key t is pv lw rv lv L)) (k:∀h',St T h1 h' (M.set i (cE ab kb now av key2 t is pv lw rv lv L))→K h'):
  ∃l,Blk h ab l∧10+1≤l.length∧[Value.string key2].length=1∧(∀u∈[Value.string key2],u.oneCell'=true)∧∀h',Put h h' ab (splice l 10 [.string key2])→K h':=by
 obtain⟨hB,hO,hT,hb,n1,n2,n3⟩:=w.get i hi
 refine⟨_,hB,by simp[cellsC],rfl,ones1 rfl,fun h' p=>k h' ?_⟩
 refine w.set i hi p.chg (fun b hb=>.inl (by simp at hb;simp[cE,En.fp,hb])) ⟨p.blk,hO.chg p.chg (fun b hb=>by simp;rintro rfl;exact n1 hb),th_off hT p.chg (fun b hb=>by simp;rintro rfl;exact n2 hb),fun b h9=>Nat.lt_of_lt_of_le (hb b h9) p.chg.size,n1,n2,n3⟩ (fun b hb=>.inl hb)
theorem _root_.Go.Sx.St.capp {a a':Option Addr} {n c m c2:Nat} {z:List Value} {K:Value→Heap→Prop} (w:St T h1 h M) (i:Nat) (hi:M[i]? =some (cE ab kb now av key t is pv lw rv (.slice a n c) L)) (hz:z.length=5) (hsrc:SL encD h (.slice a' m c2) F) (hb:((L.length+F.length)*2+768)*64≤281474976710656)
  (k:∀a3 c3 h',(∀{K':Heap→Prop},(∀h'',St T h1 h'' (M.set i (cE ab kb now av key t is pv lw rv (.slice a3 (L++F).length c3) (L++F)))→K' h'')→
   ∃l,Blk h' ab l∧12+1≤l.length∧[Value.slice a3 (L++F).length c3].length=1∧(∀u∈[Value.slice a3 (L++F).length c3],u.oneCell'=true)∧∀h'',Put h' h'' ab (splice l 12 [.slice a3 (L++F).length c3])→K' h'')→K (.slice a3 (L++F).length c3) h'):appP h K 5 64 z a n c a' m:=by
 obtain⟨hB,hO,hT,hlt3,n1,n2,n3⟩:=w.get i hi
 have hlt:=hB.lt
 refine app_own encD_len encD_one hz hO hsrc hb fun v' h' ho hc hbv=>?_
 have hxn:ab∉vblk v':=fun hm=>by
  rcases hbv ab hm with h3|h3
  ·exact n1 h3
  ·omega
 have hyn:∀b∈vblk v',b∉bl3 pv lw rv:=fun b hb hm=>by
  rcases hbv b hb with h3|h3
  ·exact n3 b h3 hm
  ·have:=hlt3 b hm;omega
 have hB1:=hB.chg hc n1
 have hT1:=th_off hT hc (fun b hb hm=>n3 b hm hb)
 obtain⟨a3,c3,rfl,_⟩:=ho.sl.form
 refine k a3 c3 h' fun{K'} hK=>?_
 refine⟨_,hB1,by simp[cellsC],rfl,ones1 rfl,fun h'' p=>hK h'' ?_⟩
 have ct:Chg (ab::ablk a) h h'':=(hc.mono (fun b hb=>List.mem_cons_of_mem _ hb)).trans p.chg (fun _ hk=>hk) (fun b hb _=>by simp at hb;simp[hb])
 refine w.set i hi ct (fun b hb=>.inl ?_) ⟨p.blk,ho.chg p.chg (fun b hb=>by simp;rintro rfl;exact hxn hb),th_off hT1 p.chg (fun b hb=>by simp;rintro rfl;exact n2 hb),fun b h9=>Nat.lt_of_lt_of_le (hlt3 b h9) ct.size,hxn,n2,hyn⟩ (fun b hb=>?_)
 ·rcases List.mem_cons.1 hb with rfl|hb
  ·exact List.mem_cons_self ..
  ·exact List.mem_cons_of_mem _ (List.mem_append_left _ hb)
 ·rcases List.mem_cons.1 hb with rfl|hb
  ·exact .inl (List.mem_cons_self ..)
  ·rcases List.mem_append.1 hb with hb|hb
   ·rcases hbv b hb with h3|h3
    ·exact .inl (List.mem_cons_of_mem _ (List.mem_append_left _ h3))
    ·exact .inr h3
   ·exact .inl (List.mem_cons_of_mem _ (List.mem_append_right _ hb))
theorem _root_.Go.Sx.St.cthing {t2:Thing} {p2 w2 r2:Value} {K:Heap→Prop} {j:Nat} (w:St T h1 h M) (i:Nat) (hi:M[i]? =some (cE ab kb now av key t is pv lw rv lv L)) (hj:M[j]? =some (thE t2 p2 w2 r2)) (hij:j≠i)
  (k:∀h',St T h1 h' ((M.set j En.nil).set i (cE ab kb now av key t2 is p2 w2 r2 lv L))→K h'):
  ∃l,Blk h ab l∧0+7≤l.length∧(cellsT t2 p2 w2 r2).length=7∧(∀u∈cellsT t2 p2 w2 r2,u.oneCell'=true)∧∀h',Put h h' ab (splice l 0 (cellsT t2 p2 w2 r2))→K h':=by
 obtain⟨hB,hO,hT,hlt3,n1,n2,n3⟩:=w.get i hi
 obtain⟨hT2,hlt2⟩:=w.get j hj
 refine⟨_,hB,by simp[cellsC],rfl,thing_one hT2,fun h' p=>k h' ?_⟩
 have m1:∀b∈bl3 p2 w2 r2,b∉(cE ab kb now av key t is pv lw rv lv L).fp:=fun b hb=>w.apart j i _ _ hj hi hij b hb
 have n2':ab∉bl3 p2 w2 r2:=fun hm=>m1 ab hm (by simp[cE,En.fp])
 have n3':∀b∈vblk lv,b∉bl3 p2 w2 r2:=fun b hb hm=>m1 b hm (by simp[cE,En.fp,hb])
 have hz:=w.size
 have hil:i<M.length:=(List.getElem?_eq_some_iff.1 hi).1
 have hjl:j<M.length:=(List.getElem?_eq_some_iff.1 hj).1
 have hfi:=(w.ents i _ hi).2
 have hfj:=(w.ents j _ hj).2
 have he:(cE ab kb now av key t2 is p2 w2 r2 lv L).at h':=⟨p.blk,hO.chg p.chg (fun b hb=>by simp;rintro rfl;exact n1 hb),th_off hT2 p.chg (fun b hb=>by simp;rintro rfl;exact n2' hb),fun b h9=>Nat.lt_of_lt_of_le (hlt2 b h9) p.chg.size,n1,n2',n3'⟩
 have hsub:∀b∈(cE ab kb now av key t2 is p2 w2 r2 lv L).fp,b∈(cE ab kb now av key t is pv lw rv lv L).fp∨b∈(thE t2 p2 w2 r2).fp:=fun b hb=>by
  rcases List.mem_cons.1 hb with rfl|hb
  ·exact .inl (List.mem_cons_self ..)
  ·rcases List.mem_append.1 hb with hb|hb
   ·exact .inl (List.mem_cons_of_mem _ (List.mem_append_left _ hb))
   ·exact .inr hb
 have hab:ab∈(cE ab kb now av key t is pv lw rv lv L).fp:=List.mem_cons_self ..
 have get3:∀{x:Nat} {e:En},((M.set j En.nil).set i (cE ab kb now av key t2 is p2 w2 r2 lv L))[x]? =some e→(x=i∧e=cE ab kb now av key t2 is p2 w2 r2 lv L)∨(x=j∧x≠i∧e=En.nil)∨(x≠i∧x≠j∧M[x]? =some e):=fun{x e} hx=>by
  by_cases h1:i=x
  ·subst h1
   rw[List.getElem?_set_self (by rw[List.length_set];exact hil)]at hx
   cases hx
   exact .inl ⟨rfl,rfl⟩
  ·rw[List.getElem?_set_ne h1]at hx
   by_cases h2:j=x
   ·subst h2
    rw[List.getElem?_set_self hjl]at hx
    cases hx
    exact .inr (.inl ⟨rfl,fun e=>h1 e.symm,rfl⟩)
   ·rw[List.getElem?_set_ne h2]at hx
    exact .inr (.inr ⟨fun e=>h1 e.symm,fun e=>h2 e.symm,hx⟩)
 refine⟨w.chg.trans p.chg (fun _ hk=>hk) (fun b hb hlt=>?_),fun x e hx=>?_,fun x y e f hx hy hn b h1 h2=>?_⟩
 ·simp at hb
  subst hb
  rcases hfi b hab with h9|h9
  ·exact h9
  ·omega
 ·rcases get3 hx with⟨rfl,rfl⟩|⟨rfl,_,rfl⟩|⟨h1,h2,hm⟩
  ·refine⟨he,fun b hb=>?_⟩
   rcases hsub b hb with h9|h9
   ·exact hfi b h9
   ·exact hfj b h9
  ·exact⟨trivial,fun b hb=>(nomatch (show b∈([]:List Nat)from hb))⟩
  ·refine⟨En.chg (w.get x hm) p.chg (fun b hb=>?_),(w.ents x e hm).2⟩
   simp
   rintro rfl
   exact w.apart i x _ e hi hm (fun e=>h1 e.symm) b hab hb
 ·rcases get3 hx with⟨rfl,rfl⟩|⟨rfl,_,rfl⟩|⟨x1,x2,hm⟩
  ·rcases get3 hy with⟨rfl,rfl⟩|⟨rfl,_,rfl⟩|⟨y1,y2,hm2⟩
   ·exact hn rfl
   ·exact(nomatch (show b∈([]:List Nat)from h2))
   ·rcases hsub b h1 with h9|h9
    ·exact w.apart x y _ f hi hm2 hn b h9 h2
    ·exact w.apart j y _ f hj hm2 (fun e=>y2 e.symm) b h9 h2
  ·exact(nomatch (show b∈([]:List Nat)from h1))
  ·rcases get3 hy with⟨rfl,rfl⟩|⟨rfl,_,rfl⟩|⟨y1,y2,hm2⟩
   ·rcases hsub b h2 with h9|h9
    ·exact w.apart x y e _ hm hi hn b h1 h9
    ·exact w.apart x j e _ hm hj x2 b h1 h9
   ·exact(nomatch (show b∈([]:List Nat)from h2))
   ·exact w.apart x y e f hm hm2 hn b h1 h2
end
end Go.Proofs.YtjnijlnmbjjgpaaGreatDoor
namespace Go.Proofs.YtjnijlnmbjjgpaaGreatDoor
open Go Go.Sx C
def stop9 (why:ByteArray):List PanicEntry:=[{v:=.iface 92 (.agg #[.string why]),recovered:=false}]
def Out9 (R:Value→Heap→Prop) (E:ByteArray→Heap→Prop):Ending→Heap→Prop
 |.returned v,h=>R v h
 |.panicked ch,h=>∃why,ch=stop9 why∧E why h
 |.outgrown,_=>False
theorem call_out9 {P:Program} {f:Nat} {vs:List Value} {h:Heap} {Q:Value→Heap→Prop} {E:ByteArray→Heap→Prop} {K:Value→Heap→Prop} {Qp:List PanicEntry→Heap→Prop} (hc:CallsH P f vs h (Out9 Q E))
  (hk:∀v h',Q v h'→K v h') (he:∀why h',E why h'→Qp (stop9 why) h'):CallsH P f vs h (after K Qp):=
 hc.mono fun e h' hr=>by
  cases e with
  |returned v=>exact hk _ _ hr
  |panicked ch=>obtain⟨why,rfl,hw⟩:=hr;exact he _ _ hw
  |outgrown=>exact hr.elim
theorem must9_calls {h:Heap} {b:Bool} {s:ByteArray}:CallsH Tryz.prog 150 [.bool b,.string s] h (Out9 (fun _ h'=>b=true∧h'=h) (fun why h'=>b=false∧why=s∧h'=h)):=by
 refine f150_calls (by simp) ?_
 cases b with
 |true=>exact⟨rfl,rfl⟩
 |false=>exact⟨s,rfl,rfl,rfl,rfl⟩
theorem must9_yes {h:Heap} {s:ByteArray} {K:Value→Heap→Prop} {Qp:List PanicEntry→Heap→Prop} (hok:∀v,K v h):CallsH Tryz.prog 150 [.bool true,.string s] h (after K Qp):=
 call_out9 must9_calls (fun v h' hr=>by obtain⟨_,e⟩:=hr;have e:=e.symm;subst e;exact hok v) (fun v h' hr=>by obtain⟨h2,_⟩:=hr;cases h2)
theorem must9_no {h:Heap} {s:ByteArray} {K:Value→Heap→Prop} {Qp:List PanicEntry→Heap→Prop} (hbad:Qp (stop9 s) h):CallsH Tryz.prog 150 [.bool false,.string s] h (after K Qp):=
 call_out9 must9_calls (fun v h' hr=>by obtain⟨h2,_⟩:=hr;cases h2) (fun v h' hr=>by obtain⟨_,rfl,e⟩:=hr;have e:=e.symm;subst e;exact hbad)
structure P9 (h0:Heap) (kb sb mb c:Nat) (m:List KI) (S:Space) (av:Value) (A:List ByteArray):Prop where
 kr:KR h0 kb sb mb c m
 so:Sorted m S
 args:∀h',Chg [] h0 h'→SL encS h' av A
def Tn (h0 h:Heap) (e:En) (h':Heap) (e':En):Prop:=As h0 h' e'∧Sx.Own e h e' h'
section
variable {h0 h h1 h':Heap} {ab kb sb mb c:Nat} {now lo hi kd items:Int} {av lv pv lw rv:Value} {key key2 s:ByteArray} {t:Thing} {is:Bool} {A:List ByteArray} {L F:List Eff} {m:List KI} {S:Space} {M:List En} {T:List Nat} {e e':En}
theorem P9.argF (p:P9 h0 kb sb mb c m S av A) (hi:0<A.length):∃b o cc,av=.slice (some ⟨b,o,none⟩) A.length cc:=by
 have hs:=p.args h0 (Chg.refl _)
 obtain⟨a,cc,rfl,hcc⟩:=hs.form
 obtain⟨b,o,rfl⟩:=hs.addr hi
 exact⟨b,o,cc,rfl⟩
theorem P9.argN (p:P9 h0 kb sb mb c m S av A):∃a cc,av=.slice a A.length cc:=by
 obtain⟨a,cc,rfl,hcc⟩:=(p.args h0 (Chg.refl _)).form
 exact⟨a,cc,rfl⟩
theorem P9.ix {i:Int} {b o n cc:Nat} {s:ByteArray} {K:Value→Prop} (p:P9 h0 kb sb mb c m S (.slice (some ⟨b,o,none⟩) n cc) A) (hc:Chg [] h0 h1) (j:Nat) (e:i=j) (hs:A[j]? =some s) (hk:K (.string s)):
  0≤i∧i<(n:Int)∧∃v,cell h1 b (o+i.toNat*1)=some v∧K v:=by
 subst e
 have hj:=(List.getElem?_eq_some_iff.1 hs).1
 have hcs:=(p.args h1 hc).cells encS_len hs
 have hn:=(p.args h1 hc).len.1
 refine⟨by omega,by omega,_,?_,hk⟩
 have:=hcs 0 _ rfl
 simpa using this
def Sub9 (h0 h:Heap) (e:En) (R:Value→En→Prop) (B:ByteArray→Prop):Ending→Heap→Prop:=
 Out9 (fun v h'=>∃e',R v e'∧Tn h0 h e h' e') (fun why h'=>B why∧Chg e.fp h h')
theorem sub9_go {P:Program} {f i:Nat} {vs:List Value} {e0:En} {R:Value→En→Prop} {B:ByteArray→Prop} {K:Value→Heap→Prop} {Qp:List PanicEntry→Heap→Prop} (x:As h0 h e0) (w:St e0.fp h h1 M) (hi:M[i]? =some e)
  (hc:As h0 h1 e→CallsH P f vs h1 (Sub9 h0 h1 e R B)) (hok:∀v h' e',R v e'→St e0.fp h h' (M.set i e')→K v h') (hbad:∀why h',B why→Chg e0.fp h h'→Qp (stop9 why) h'):CallsH P f vs h1 (after K Qp):=
 call_out9 (hc (x.out w i hi).1) (fun v h' ⟨e',hR,_,o⟩=>hok v h' e' hR (w.own i hi o)) (fun why h' ⟨hB,c⟩=>hbad why h' hB (w.gone i hi c (fun _ hb=>.inl hb)).chg)
theorem Tn.refl (x:As h0 h e) (hc:Chg [] h h'):Tn h0 h e h' e:=⟨x.ext hc,Sx.Own.refl x.at_ hc⟩
theorem many9_calls (p:P9 h0 kb sb mb c m S av A) (hlo:1≤lo) (x:As h0 h (cE ab kb now av key t is pv lw rv lv L)):CallsH Tryz.prog 149 [ptr ab,.int .i64 lo,.int .i64 hi] h
  (Sub9 h0 h (cE ab kb now av key t is pv lw rv lv L) (fun _ e'=>(lo≤A.length∧(A.length:Int)≤hi)∧∃k0,A[0]? =some k0∧e'=cE ab kb now av k0 t is pv lw rv lv L)
   (fun why=>¬(lo≤A.length∧(A.length:Int)≤hi)∧why=wArgs)):=by
 obtain⟨a,cc,rfl⟩:=p.argN
 refine f149_calls (by simp) ?_
 have w:=x.st
 refine w.ldc 0 rfl rfl ?_
 refine Ai rfl (Ai (fun h1=>?_) (fun h1=>?_))
 ·refine w.ldc 0 rfl rfl ?_
  refine Ai rfl (Ai (fun h2=>?_) (fun h2=>?_))
  ·refine must9_yes fun _=>?_
   obtain⟨b,o,cc2,e⟩:=p.argF (by omega)
   obtain⟨rfl,rfl⟩:a=some ⟨b,o,none⟩∧cc=cc2:=by cases e;exact⟨rfl,rfl⟩
   have hA0:A[0]? =some A[0]:=List.getElem?_eq_getElem (by omega)
   refine w.ldc 0 rfl rfl ?_
   refine p.ix (x.base w) 0 rfl hA0 ?_
   refine w.ckey 0 rfl fun h2 w=>?_
   exact⟨_,⟨⟨by omega,by omega⟩,A[0],hA0,rfl⟩,x.out w 0 rfl⟩
  ·exact must9_no ⟨_,rfl,⟨fun hh=>by omega,rfl⟩,w.chg⟩
 ·exact must9_no ⟨_,rfl,⟨fun hh=>by omega,rfl⟩,w.chg⟩
theorem num9_calls {j:Nat} (p:P9 h0 kb sb mb c m S av A) (x:As h0 h (cE ab kb now av key t is pv lw rv lv L)) (hl:LaidN h0) (hj:A[j]? =some s) (hs:s.size<281474976710656):CallsH Tryz.prog 163 [ptr ab,.int .i64 j] h
  (Sub9 h0 h (cE ab kb now av key t is pv lw rv lv L) (fun r e'=>∃n,numOf s=some n∧r=.int .i64 n∧e'=cE ab kb now av key t is pv lw rv lv L) (fun why=>numOf s=none∧why=wNum)):=by
 obtain⟨b,o,cc,rfl⟩:=p.argF (by have:=(List.getElem?_eq_some_iff.1 hj).1;omega)
 refine f163_calls (by simp) ?_
 have w:=x.st
 refine w.ldc 0 rfl rfl ?_
 refine p.ix (x.base w) j rfl hj ?_
 obtain⟨⟨l⟩⟩:=s
 rw[show numOf ⟨⟨l⟩⟩=Num.num l from rfl]
 obtain⟨u,hu⟩:∃u,u=Num.num l:=⟨_,rfl⟩
 refine call_ret (bnum_calls (hl.ext x.chg) hs) ?_
 rintro _ h1 ⟨rfl,c1⟩
 rw[←hu]
 cases u with
 |none=>exact must9_no ⟨_,rfl,⟨rfl,rfl⟩,c1.mono (by simp)⟩
 |some n=>exact must9_yes fun _=>⟨_,⟨n,rfl,rfl,rfl⟩,Tn.refl x c1⟩
end
end Go.Proofs.YtjnijlnmbjjgpaaGreatDoor
namespace Go.Proofs.YtjnijlnmbjjgpaaGreatDoor
open Go Go.Sx C
section
variable {h0 h h1 h':Heap} {ab kb sb mb c:Nat} {now lo hi kd items:Int} {av lv pv lw rv:Value} {key key2 s:ByteArray} {t:Thing} {is is2:Bool} {A:List ByteArray} {L F:List Eff} {m:List KI} {S:Space} {M:List En} {T:List Nat} {e e':En}
theorem _root_.Go.Sx.St.cis {K:Heap→Prop} (w:St T h1 h M) (i:Nat) (hi:M[i]? =some (cE ab kb now av key t is pv lw rv lv L)) (k:∀h',St T h1 h' (M.set i (cE ab kb now av key t is2 pv lw rv lv L))→K h'):
  ∃l,Blk h ab l∧7+1≤l.length∧[Value.bool is2].length=1∧(∀u∈[Value.bool is2],u.oneCell'=true)∧∀h',Put h h' ab (splice l 7 [.bool is2])→K h':=by
 obtain⟨hB,hO,hT,hb,n1,n2,n3⟩:=w.get i hi
 refine⟨_,hB,by simp[cellsC],rfl,ones1 rfl,fun h' p=>k h' ?_⟩
 refine w.set i hi p.chg (fun b hb=>.inl (by simp at hb;simp[cE,En.fp,hb])) ⟨p.blk,hO.chg p.chg (fun b hb=>by simp;rintro rfl;exact n1 hb),th_off hT p.chg (fun b hb=>by simp;rintro rfl;exact n2 hb),fun b h9=>Nat.lt_of_lt_of_le (hb b h9) p.chg.size,n1,n2,n3⟩ (fun b hb=>.inl hb)
theorem _root_.Go.Sx.St.clist {a:Option Addr} {n c:Nat} {K:Heap→Prop} (w:St T h1 h M) (i j:Nat) (hi:M[i]? =some (cE ab kb now av key t is pv lw rv lv L)) (hj:M[j]? =some (.o encD 5 (.slice a n c) F)) (hij:j≠i)
  (k:∀h',St T h1 h' ((M.set j En.nil).set i (cE ab kb now av key t is pv lw rv (.slice a n c) F))→K h'):
  ∃l,Blk h ab l∧12+1≤l.length∧[Value.slice a n c].length=1∧(∀u∈[Value.slice a n c],u.oneCell'=true)∧∀h',Put h h' ab (splice l 12 [.slice a n c])→K h':=by
 obtain⟨hB,hO,hT,hlt3,n1,n2,n3⟩:=w.get i hi
 have hF:OL encD 5 h (.slice a n c) F:=w.get j hj
 refine⟨_,hB,by simp[cellsC],rfl,ones1 rfl,fun h' p=>k h' ?_⟩
 have m1:∀b∈vblk (.slice a n c),b∉(cE ab kb now av key t is pv lw rv lv L).fp:=fun b hb=>w.apart j i _ _ hj hi hij b hb
 have n1':ab∉vblk (.slice a n c):=fun hm=>m1 ab hm (by simp[cE,En.fp])
 have n3':∀b∈vblk (.slice a n c),b∉bl3 pv lw rv:=fun b hb hm=>m1 b hb (by simp[cE,En.fp,hm])
 have hz:=w.size
 have hil:i<M.length:=(List.getElem?_eq_some_iff.1 hi).1
 have hjl:j<M.length:=(List.getElem?_eq_some_iff.1 hj).1
 have hfi:=(w.ents i _ hi).2
 have hfj:=(w.ents j _ hj).2
 have he:(cE ab kb now av key t is pv lw rv (.slice a n c) F).at h':=⟨p.blk,hF.chg p.chg (fun b hb=>by simp;rintro rfl;exact n1' hb),th_off hT p.chg (fun b hb=>by simp;rintro rfl;exact n2 hb),fun b h9=>Nat.lt_of_lt_of_le (hlt3 b h9) p.chg.size,n1',n2,n3'⟩
 have hsub:∀b∈(cE ab kb now av key t is pv lw rv (.slice a n c) F).fp,b∈(cE ab kb now av key t is pv lw rv lv L).fp∨b∈(En.o encD 5 (.slice a n c) F).fp:=fun b hb=>by
  rcases List.mem_cons.1 hb with rfl|hb
  ·exact .inl (List.mem_cons_self ..)
  ·rcases List.mem_append.1 hb with hb|hb
   ·exact .inr hb
   ·exact .inl (List.mem_cons_of_mem _ (List.mem_append_right _ hb))
 have hab:ab∈(cE ab kb now av key t is pv lw rv lv L).fp:=List.mem_cons_self ..
 have get3:∀{x:Nat} {e:En},((M.set j En.nil).set i (cE ab kb now av key t is pv lw rv (.slice a n c) F))[x]? =some e→(x=i∧e=cE ab kb now av key t is pv lw rv (.slice a n c) F)∨(x=j∧x≠i∧e=En.nil)∨(x≠i∧x≠j∧M[x]? =some e):=fun{x e} hx=>by
  by_cases h1:i=x
  ·subst h1
   rw[List.getElem?_set_self (by rw[List.length_set];exact hil)]at hx
   cases hx
   exact .inl ⟨rfl,rfl⟩
  ·rw[List.getElem?_set_ne h1]at hx
   by_cases h2:j=x
   ·subst h2
    rw[List.getElem?_set_self hjl]at hx
    cases hx
    exact .inr (.inl ⟨rfl,fun e=>h1 e.symm,rfl⟩)
   ·rw[List.getElem?_set_ne h2]at hx
    exact .inr (.inr ⟨fun e=>h1 e.symm,fun e=>h2 e.symm,hx⟩)
 refine⟨w.chg.trans p.chg (fun _ hk=>hk) (fun b hb hlt=>?_),fun x e hx=>?_,fun x y e f hx hy hn b h1 h2=>?_⟩
 ·simp at hb
  subst hb
  rcases hfi b hab with h9|h9
  ·exact h9
  ·omega
 ·rcases get3 hx with⟨rfl,rfl⟩|⟨rfl,_,rfl⟩|⟨h1,h2,hm⟩
  ·refine⟨he,fun b hb=>?_⟩
   rcases hsub b hb with h9|h9
   ·exact hfi b h9
   ·exact hfj b h9
  ·exact⟨trivial,fun b hb=>(nomatch (show b∈([]:List Nat)from hb))⟩
  ·refine⟨En.chg (w.get x hm) p.chg (fun b hb=>?_),(w.ents x e hm).2⟩
   simp
   rintro rfl
   exact w.apart i x _ e hi hm (fun e=>h1 e.symm) b hab hb
 ·rcases get3 hx with⟨rfl,rfl⟩|⟨rfl,_,rfl⟩|⟨x1,x2,hm⟩
  ·rcases get3 hy with⟨rfl,rfl⟩|⟨rfl,_,rfl⟩|⟨y1,y2,hm2⟩
   ·exact hn rfl
   ·exact(nomatch (show b∈([]:List Nat)from h2))
   ·rcases hsub b h1 with h9|h9
    ·exact w.apart x y _ f hi hm2 hn b h9 h2
    ·exact w.apart j y _ f hj hm2 (fun e=>y2 e.symm) b h9 h2
  ·exact(nomatch (show b∈([]:List Nat)from h1))
  ·rcases get3 hy with⟨rfl,rfl⟩|⟨rfl,_,rfl⟩|⟨y1,y2,hm2⟩
   ·rcases hsub b h2 with h9|h9
    ·exact w.apart x y e _ hm hi hn b h1 h9
    ·exact w.apart x j e _ hm hj x2 b h1 h9
   ·exact(nomatch (show b∈([]:List Nat)from h2))
   ·exact w.apart x y e f hm hm2 hn b h1 h2
theorem of9_calls (p:P9 h0 kb sb mb c m S av A) (x:As h0 h (cE ab kb now av key t is pv lw rv lv L)):CallsH Tryz.prog 151 [ptr ab,.int .i64 kd] h
  (Sub9 h0 h (cE ab kb now av key t is pv lw rv lv L) (fun _ e'=>okK kd (getS S key now)=true∧∃p2 w2 r2,e'=cE ab kb now av key ((getS S key now).getD zeroT) (getS S key now).isSome p2 w2 r2 lv L)
   (fun why=>okK kd (getS S key now)=false∧why=wType)):=by
 refine f151_calls (by simp) ?_
 have w:=x.st
 refine w.ldc 0 rfl rfl ?_
 refine w.ldc 0 rfl rfl ?_
 refine w.ldc 0 rfl rfl ?_
 refine call_ret (KGetF_calls key now (p.kr.ext (x.base w)) p.so) ?_
 rintro _ h2 ⟨⟨p2,w2,r2,rfl,tu,fr⟩,c2⟩
 generalize getS S key now=go at tu fr⊢
 have w:=w.add (e:=thE (go.getD zeroT) p2 w2 r2) c2 ⟨tu,fun b hb=>(fr b hb).2⟩ (fun b hb=>(fr b hb).1)
 refine w.cthing 1 (j:=0) rfl rfl (by decide) fun h3 w=>?_
 refine w.cis 1 rfl fun h4 w=>?_
 have fin:∀{h':Heap} {M':List En} {j:Nat},St (cE ab kb now av key t is pv lw rv lv L).fp h h' M'→M'[j]? =some (cE ab kb now av key (go.getD zeroT) go.isSome p2 w2 r2 lv L)→
   Tn h0 h (cE ab kb now av key t is pv lw rv lv L) h' (cE ab kb now av key (go.getD zeroT) go.isSome p2 w2 r2 lv L):=fun w hj=>x.out w _ hj
 refine w.ldc 1 rfl rfl ?_
 cases go with
 |none=>
  refine must9_yes fun _=>?_
  exact⟨_,⟨rfl,p2,w2,r2,rfl⟩,fin (j:=1) w rfl⟩
 |some u=>
  refine w.ldc 1 rfl rfl ?_
  refine Ai rfl (Ai (fun h1=>?_) (fun h1=>?_))
  ·refine must9_yes fun _=>?_
   exact⟨_,⟨decide_eq_true h1,p2,w2,r2,rfl⟩,fin (j:=1) w rfl⟩
  ·exact must9_no ⟨_,rfl,⟨decide_eq_false h1,rfl⟩,w.chg⟩
theorem begin9_calls (p:P9 h0 kb sb mb c m S av A) (hlo:1≤lo) (x:As h0 h (cE ab kb now av key t is pv lw rv lv L)):CallsH Tryz.prog 157 [ptr ab,.int .i64 kd,.int .i64 lo,.int .i64 hi] h
  (Sub9 h0 h (cE ab kb now av key t is pv lw rv lv L) (fun _ e'=>(lo≤A.length∧(A.length:Int)≤hi)∧∃k0,A[0]? =some k0∧okK kd (getS S k0 now)=true∧∃p2 w2 r2,e'=cE ab kb now av k0 ((getS S k0 now).getD zeroT) (getS S k0 now).isSome p2 w2 r2 lv L)
   (fun why=>(¬(lo≤A.length∧(A.length:Int)≤hi)∧why=wArgs)∨(lo≤A.length∧(A.length:Int)≤hi)∧∃k0,A[0]? =some k0∧okK kd (getS S k0 now)=false∧why=wType)):=by
 refine f157_calls (by simp) ?_
 have w:=x.st
 refine sub9_go (i:=0) x w rfl (fun x=>many9_calls p hlo x) ?_ ?_
 ·rintro _ h1 _ ⟨hb,k0,hk0,rfl⟩ w
  refine sub9_go (i:=0) x w rfl (fun x=>of9_calls p x) ?_ ?_
  ·rintro _ h2 _ ⟨hk,p2,w2,r2,rfl⟩ w
   exact⟨_,⟨hb,k0,hk0,hk,p2,w2,r2,rfl⟩,x.out w 0 rfl⟩
  ·rintro why h2 ⟨hk,rfl⟩ c2
   exact⟨_,rfl,.inr ⟨hb,k0,hk0,hk,rfl⟩,c2⟩
 ·rintro why h1 ⟨hb,rfl⟩ c1
  exact⟨_,rfl,.inl ⟨hb,rfl⟩,c1⟩
def fitsE (key:ByteArray) (items:Int) (d:Eff):Prop:=items≤65536∧key.size≤1048576∧d.name.size≤1048576∧d.text.size≤1048576
def putL (S:Space) (key:ByteArray) (now:Int) (L:List Eff) (d:Eff):List Eff:=(if L=[]then dropsS S key now else L)++[{d with key:=key}]
theorem take9_calls (d:Eff) (x:As h0 h (cE ab kb now av key t is pv lw rv lv L)) (hL:L.length≤1000000):CallsH Tryz.prog 233 [ptr ab,.agg ⟨encD d⟩] h
  (Sub9 h0 h (cE ab kb now av key t is pv lw rv lv L) (fun _ e'=>∃lv',e'=cE ab kb now av key t is pv lw rv lv' (L++[{d with key:=key}])) (fun _=>False)):=by
 obtain⟨la,lc,rfl⟩:=x.st.cform 0 rfl
 obtain⟨op,k0,nm,tx,nn⟩:=d
 refine f233_calls (by simp) ?_
 intro b4 h1 g1
 have w:St (cE ab kb now av key t is pv lw rv (.slice la L.length lc) L).fp h h1 [.b b4 [.int .i64 op,.string k0,.string nm,.string tx,.int .i64 nn],cE ab kb now av key t is pv lw rv (.slice la L.length lc) L]:=x.st.new g1
 refine w.ldc 1 rfl rfl ?_
 refine w.st1 0 rfl rfl rfl rfl fun h2 w=>?_
 refine w.ldc 1 rfl rfl ?_
 refine w.ldw 0 rfl rfl ?_
 intro b5 h3 g3
 have w:=w.new g3
 refine w.capp 2 rfl rfl (one_sl (e:=⟨op,key,nm,tx,nn⟩) (w.get 0 rfl)) (by simp;omega) fun a3 c3 h4 hst=>?_
 refine hst fun h5 w=>?_
 exact⟨_,⟨_,rfl⟩,x.out w 2 rfl⟩
theorem put9_calls (p:P9 h0 kb sb mb c m S av A) (d:Eff) (x:As h0 h (cE ab kb now av key t is pv lw rv lv L)) (hL:L.length≤1000000) (hk:key.size<4611686018427387904) (hn:d.name.size<4611686018427387904) (ht:d.text.size<4611686018427387904):
  CallsH Tryz.prog 155 [ptr ab,.agg ⟨encD d⟩,.int .i64 items] h
  (Sub9 h0 h (cE ab kb now av key t is pv lw rv lv L) (fun _ e'=>fitsE key items d∧∃lv',e'=cE ab kb now av key t is pv lw rv lv' (putL S key now L d)) (fun why=>¬fitsE key items d∧why=wLong)):=by
 obtain⟨la,lc,rfl⟩:=x.st.cform 0 rfl
 obtain⟨op,k0,nm,tx,nn⟩:=d
 have hn:nm.size<4611686018427387904:=hn
 have ht:tx.size<4611686018427387904:=ht
 refine f155_calls (by simp) ?_
 intro b4 h1 g1
 have w:St (cE ab kb now av key t is pv lw rv (.slice la L.length lc) L).fp h h1 [.b b4 [.int .i64 op,.string k0,.string nm,.string tx,.int .i64 nn],cE ab kb now av key t is pv lw rv (.slice la L.length lc) L]:=x.st.new g1
 have bad:∀{h':Heap},¬fitsE key items ⟨op,k0,nm,tx,nn⟩→Chg (cE ab kb now av key t is pv lw rv (.slice la L.length lc) L).fp h h'→∃why,stop9 wLong=stop9 why∧(¬fitsE key items ⟨op,k0,nm,tx,nn⟩∧why=wLong)∧Chg (cE ab kb now av key t is pv lw rv (.slice la L.length lc) L).fp h h':=
  fun hh hc=>⟨_,rfl,⟨hh,rfl⟩,hc⟩
 refine Ai rfl (Ai (fun q1=>?_) (fun q1=>?_))
 rotate_left
 ·exact must9_no (bad (fun hh=>q1 hh.1) w.chg)
 refine w.ldc 1 rfl rfl ?_
 refine Ai rfl (Ai (fun q2=>?_) (fun q2=>?_))
 rotate_left
 ·exact must9_no (bad (fun hh=>by have:=hh.2.1;omega) w.chg)
 refine w.ld1 0 rfl rfl ?_
 refine Ai rfl (Ai (fun q3=>?_) (fun q3=>?_))
 rotate_left
 ·exact must9_no (bad (fun hh=>by have:nm.size≤1048576:=hh.2.2.1;omega) w.chg)
 refine w.ld1 0 rfl rfl ?_
 refine Ai rfl (Ai (fun q4=>?_) (fun q4=>?_))
 rotate_left
 ·exact must9_no (bad (fun hh=>by have:tx.size≤1048576:=hh.2.2.2;omega) w.chg)
 have fit:fitsE key items ⟨op,k0,nm,tx,nn⟩:=⟨q1,by omega,by show nm.size≤_;omega,by show tx.size≤_;omega⟩
 refine must9_yes fun _=>?_
 have rest:∀{h':Heap} {la2:Option Addr} {lc2:Nat} {L2:List Eff} {M':List En},L2++[⟨op,key,nm,tx,nn⟩]=putL S key now L ⟨op,k0,nm,tx,nn⟩→L2.length≤1000001→
   St (cE ab kb now av key t is pv lw rv (.slice la L.length lc) L).fp h h' (.b b4 [.int .i64 op,.string k0,.string nm,.string tx,.int .i64 nn]::cE ab kb now av key t is pv lw rv (.slice la2 L2.length lc2) L2::M')→
   swp Tryz.prog (.seq (.ops f155r4) (.ops f155r5)) (retQ [] (Sub9 h0 h (cE ab kb now av key t is pv lw rv (.slice la L.length lc) L) (fun _ e'=>fitsE key items ⟨op,k0,nm,tx,nn⟩∧∃lv',e'=cE ab kb now av key t is pv lw rv lv' (putL S key now L ⟨op,k0,nm,tx,nn⟩)) (fun why=>¬fitsE key items ⟨op,k0,nm,tx,nn⟩∧why=wLong)))
    (mk [(0,ptr ab),(4,ptr b4)]) [] h':=by
  intro h' la2 lc2 L2 M' he hl2 w
  refine w.ldc 1 rfl rfl ?_
  refine w.st1 0 rfl rfl rfl rfl fun h2 w=>?_
  refine w.ldc 1 rfl rfl ?_
  refine w.ldw 0 rfl rfl ?_
  intro b5 h3 g3
  have w:=w.new g3
  refine w.capp 2 rfl rfl (one_sl (e:=⟨op,key,nm,tx,nn⟩) (w.get 0 rfl)) (by simp;omega) fun a3 c3 h4 hst=>?_
  refine hst fun h5 w=>?_
  exact⟨_,⟨fit,_,by rw[←he]⟩,x.out w 2 rfl⟩
 refine w.ldc 1 rfl rfl ?_
 refine Ai rfl (Ai (fun q5=>?_) (fun q5=>?_))
 ·have q5:L=[]:=List.eq_nil_of_length_eq_zero (by omega)
  refine w.ldc 1 rfl rfl ?_
  refine w.ldc 1 rfl rfl ?_
  refine w.ldc 1 rfl rfl ?_
  refine call_ret (BDrops_calls key now (p.kr.ext (x.base w)) p.so) ?_
  rintro _ h2 ⟨od,hbd,c2⟩
  obtain⟨da,dc,rfl,_⟩:=od.sl.form
  have w:=w.add (e:=.o encD 5 (.slice da (dropsS S key now).length dc) (dropsS S key now)) c2 od hbd
  refine w.clist 2 0 rfl rfl (by decide) fun h3 w=>?_
  have w:=w.pick [1,2] (by decide)
  exact cut_at [(0,ptr ab),(4,ptr b4)] ⟨rfl,rfl,trivial⟩ (rest (M':=[]) (by unfold putL;rw[if_pos q5]) (by have:=drops_len S key now;omega) w)
 ·have q5:L≠[]:=fun e=>q5 (by rw[e];rfl)
  exact cut_at [(0,ptr ab),(4,ptr b4)] ⟨rfl,rfl,trivial⟩ (rest (M':=[]) (by unfold putL;rw[if_neg q5]) (by omega) w)
end
end Go.Proofs.YtjnijlnmbjjgpaaGreatDoor
namespace Go.Proofs.YtjnijlnmbjjgpaaGreatDoor
open Go Go.Sx C
def toQ (s:ByteArray):Int×Int×ByteArray:=(4,0,s)
def qs (l:List ByteArray):List (Int×Int×ByteArray):=l.map toQ
theorem text9_calls {h:Heap} {s:ByteArray}:CallsH Tryz.prog 158 [.string s] h (Ret fun r h'=>r=repV 4 0 s∧Chg [] h h'):=by
 refine f158_calls (by simp) ?_
 intro b h1 g1
 refine Ei _ (Ai g1.blk (Ai (by decide) (Ai rfl (Ai (repV_ones 4 0 s) ?_))))
 intro h2 p2
 have g2:=g1.put p2
 exact⟨_,rfl,cells_blk g2.blk,rfl,g2.chg⟩
theorem number9_calls {h:Heap} {n:Int}:CallsH Tryz.prog 156 [.int .i64 n] h (Ret fun r h'=>r=repV 3 n noText∧Chg [] h h'):=by
 refine f156_calls (by simp) ?_
 intro b h1 g1
 refine Ei _ (Ai g1.blk (Ai (by decide) (Ai rfl (Ai (repV_ones 3 n noText) ?_))))
 intro h2 p2
 have g2:=g1.put p2
 exact⟨_,rfl,cells_blk g2.blk,rfl,g2.chg⟩
def ListAt (z:Nat) (h:Heap) (v:Value) (l:List (Int×Int×ByteArray)):Prop:=∃a n c,v=.agg ⟨[.int .i64 5,.int .i64 0,.string noText,.slice a n c]⟩∧OL encQ 4 h (.slice a n c) l∧∀b∈ablk a,z≤b
def EachR (h:Heap) (ss:List ByteArray) (r:Value) (h':Heap):Prop:=∃b,r=.slice (some ⟨b,0,none⟩) ss.length ss.length∧Blk h' b (ss.map .string)∧h.size≤b∧Chg [] h h'
theorem one9_calls {h:Heap} {s:ByteArray}:CallsH Tryz.prog 171 [.string s] h (Ret (EachR h [s])):=by
 refine f171_calls (by simp) ?_
 intro b h1 g1
 exact⟨b,rfl,g1.blk,by have:=g1.id;omega,g1.chg⟩
theorem two9_calls {h:Heap} {p:Pair}:CallsH Tryz.prog 162 [.agg ⟨encP p⟩] h (Ret (EachR h [p.name,p.text])):=by
 refine f162_calls (by simp) ?_
 intro b1 h1 g1
 refine Ei _ (Ai (cell_blk g1.blk rfl) (Ei _ (Ai (cell_blk g1.blk rfl) ?_)))
 intro b h2 g2
 exact⟨b,rfl,g2.blk,by have:=g2.id;have:=g1.size;omega,g1.chg.nil g2.chg⟩
theorem name9_calls {h:Heap} {r:Rank}:CallsH Tryz.prog 183 [.agg ⟨encR r⟩] h (Ret (EachR h [r.name])):=by
 refine f183_calls (by simp) ?_
 intro b1 h1 g1
 refine Ei _ (Ai (cell_blk g1.blk rfl) ?_)
 intro b h2 g2
 exact⟨b,rfl,g2.blk,by have:=g2.id;have:=g1.size;omega,g1.chg.nil g2.chg⟩
theorem ix9 {h:Heap} {b n j:Nat} {i:Int} {us:List Value} {v:Value} {K:Value→Prop} (hB:Blk h b us) (e:i=j) (hn:j<n) (hs:us[j]? =some v) (k:K v):0≤i∧i<(n:Int)∧∃v,cell h b (0+i.toNat*1)=some v∧K v:=by
 subst e
 refine⟨by omega,by omega,v,?_,k⟩
 have:=cell_blk hB hs
 simpa using this
theorem flat_len {α:Type} {f:α→List ByteArray} (hf:∀x,(f x).length≤2):∀l:List α,(l.flatMap f).length≤2*l.length
 |[]=>by simp
 |x::l=>by
  have h1:=hf x
  have h2:=flat_len hf l
  rw[List.flatMap_cons,List.length_append,List.length_cons]
  omega
theorem flat_take {α:Type} {f:α→List ByteArray} {l:List α} {q:Nat} (hq:q<l.length):(l.take (q+1)).flatMap f=(l.take q).flatMap f++f l[q]:=by
 rw[List.take_succ_eq_append_getElem hq,List.flatMap_append];simp
theorem qs_snoc {pre ss:List ByteArray} {j:Nat} (hj:j<ss.length):qs (pre++ss.take (j+1))=qs (pre++ss.take j)++[(4,0,ss[j])]:=by
 rw[List.take_succ_eq_append_getElem hj,←List.append_assoc]
 unfold qs
 rw[List.map_append (l₁:=pre++ss.take j)];rfl
theorem listStr_calls {h:Heap} {v:Value} {l:List ByteArray} (hs:SL encS h v l) (hl:l.length≤100000):
  CallsH Tryz.prog 170 [v,.func (.func 171) #[] #[]] h (Ret fun r h'=>ListAt h.size h' r (qs (l.flatMap (fun s:ByteArray=>[s])))∧Chg [] h h'):=by
 obtain⟨a,cc,rfl,_⟩:=hs.form
 have two:∀x:ByteArray,((fun s:ByteArray=>[s]) x).length≤2:=fun x=>by simp
 refine f170_calls (by simp) ?_
 intro b4 h1 g1
 have w:=(St.start h).new g1
 intro b5 h2 g2
 have w:=w.new g2
 refine w.st1 0 rfl rfl rfl rfl fun h3 w=>?_
 have w:=w.empty (enc:=encQ) (size:=4)
 refine loop_intro (fun q:Nat×Value=>[(1,.func (.func 171) #[] #[]),(4,ptr b4),(5,ptr b5),(11,.slice a l.length cc),(12,.int .i64 l.length),(13,.int .i64 q.1)])
  (fun q h'=>q.1≤l.length∧St [] h h' [.o encQ 4 q.2 (qs ((l.take q.1).flatMap (fun s:ByteArray=>[s]))),.b b5 [.int .i64 5,.int .i64 0,.string noText,q.2],.b b4 [.int .i64 0,.int .i64 0,.string ⟨#[]⟩,.slice none 0 0]])
  (fun q=>l.length-q.1) (0,.slice none 0 0) ⟨rfl,rfl,rfl,rfl,rfl,rfl,trivial⟩ ⟨Nat.zero_le _,w⟩ ?_
 rintro⟨q,v⟩ h4 ⟨hq,w⟩
 have hq:q≤l.length:=hq
 obtain⟨a4,c4,rfl,_⟩:=(show OL encQ 4 h4 v (qs ((l.take q).flatMap (fun s:ByteArray=>[s])))from w.get 0 rfl).sl.form
 refine Ai rfl (Ai (fun hlt=>?_) (fun hge=>?_))
 ·have hlt:q<l.length:=by omega
  obtain⟨b,o,rfl⟩:=hs.addr (by omega)
  have hcs:=(hs.ext w.chg).cells encS_len (List.getElem?_eq_getElem hlt)
  obtain⟨ss,hss⟩:∃ss,ss=(fun s:ByteArray=>[s]) l[q]:=⟨_,rfl⟩
  obtain⟨pre,hpe⟩:∃pre,pre=(l.take q).flatMap (fun s:ByteArray=>[s]):=⟨_,rfl⟩
  have hsl:ss.length≤2:=by rw[hss];exact two _
  have hpre:pre.length≤200000:=by rw[hpe];have:=flat_len two (l.take q);rw[List.length_take]at this;omega
  have e9:qs ((l.take (q+1)).flatMap (fun s:ByteArray=>[s]))=qs (pre++ss.take ss.length):=by rw[flat_take hlt,List.take_length,hpe,hss]
  have ln:(qs ((l.take q).flatMap (fun s:ByteArray=>[s]))).length=pre.length:=by rw[hpe];exact List.length_map _
  have e0:qs ((l.take q).flatMap (fun s:ByteArray=>[s]))=qs (pre++ss.take 0):=by rw[hpe];simp
  rw[ln,e0]at w
  refine Ai (by omega) (Ai (by omega) (Ei _ (Ai (hcs 0 _ rfl) ?_)))
  refine call_ret (show CallsH _ _ _ _ (Ret (EachR _ ss))by rw[hss];exact one9_calls) ?_
  rintro _ h5 ⟨bx,rfl,Bx,hbx,c5⟩
  have w:=w.add (e:=.b bx (ss.map .string)) c5 Bx (fun k hk=>by simp[En.fp]at hk;omega)
  have w:=w
  refine loop_intro (fun p:Nat×Value=>[(1,.func (.func 171) #[] #[]),(4,ptr b4),(5,ptr b5),(11,.slice (some ⟨b,o,none⟩) l.length cc),(12,.int .i64 l.length),(13,.int .i64 q),(19,.slice (some ⟨bx,0,none⟩) ss.length ss.length),(20,.int .i64 ss.length),(21,.int .i64 p.1)])
   (fun p h'=>p.1≤ss.length∧St [] h h' [.b bx (ss.map .string),.o encQ 4 p.2 (qs (pre++ss.take p.1)),.b b5 [.int .i64 5,.int .i64 0,.string noText,p.2],.b b4 [.int .i64 0,.int .i64 0,.string ⟨#[]⟩,.slice none 0 0]])
   (fun p=>ss.length-p.1) (0,.slice a4 pre.length c4) ⟨rfl,rfl,rfl,rfl,rfl,rfl,rfl,rfl,rfl,trivial⟩ ⟨Nat.zero_le _,w⟩ ?_
  rintro⟨j,v⟩ h6 ⟨hj,w⟩
  have hj:j≤ss.length:=hj
  obtain⟨a6,c6,rfl,_⟩:=(show OL encQ 4 h6 v (qs (pre++ss.take j))from w.get 1 rfl).sl.form
  refine Ai rfl (Ai (fun hlt2=>?_) (fun hge2=>?_))
  ·have hlt2:j<ss.length:=by omega
   have hqn:(qs (pre++ss.take j)).length≤200002:=by unfold qs;simp;omega
   refine ix9 (w.get 0 rfl) rfl hlt2 (v:=.string ss[j]) (by simp[hlt2]) ?_
   refine w.ld1 2 rfl rfl ?_
   refine w.callqv text9_calls fun h7 w=>?_
   intro b9 h8 g8
   have w:=w.new g8
   refine w.app 2 rfl encQ_len encQ_one rfl (SL.one encQ_len (x:=(4,0,ss[j])) (w.get 0 rfl)) (by simp only[List.length_singleton];omega) fun v' h9 w=>?_
   rw[←qs_snoc hlt2]at w
   obtain⟨a9,c9,rfl,_⟩:=(show OL encQ 4 h9 v' (qs (pre++ss.take (j+1)))from w.get 2 rfl).sl.form
   refine w.st1 3 rfl rfl rfl rfl fun h10 w=>?_
   have w:=w.pick [1,2,3,4] (by decide)
   refine Ai rfl (fun z hz=>?_)
   have hz:=add_in hz (by omega) (by omega)
   subst hz
   exact Ai rfl (Ei (j+1,_) (Ai ⟨rfl,rfl,rfl,rfl,rfl,rfl,rfl,rfl,rfl,trivial⟩ (Ai ⟨hlt2,w⟩ (by simp only;omega))))
  ·have hjn:j=ss.length:=by omega
   subst hjn
   rw[←e9]at w
   have w:=w.pick [1,2,3] (by decide)
   refine Ai rfl (fun z hz=>?_)
   have hz:=add_in hz (by omega) (by omega)
   subst hz
   exact Ai rfl (Ei (q+1,_) (Ai ⟨rfl,rfl,rfl,rfl,rfl,rfl,trivial⟩ (Ai ⟨hlt,w⟩ (by simp only;omega))))
 ·have hkl:q=l.length:=by omega
  subst hkl
  rw[List.take_length]at w
  refine w.ldw 1 rfl rfl ?_
  refine w.st1 2 rfl rfl rfl rfl fun h7 w=>?_
  refine⟨_,rfl,cells_blk (w.get 2 rfl),⟨_,_,_,rfl,(show OL encQ 4 h7 _ (qs (l.flatMap (fun s:ByteArray=>[s])))from w.get 0 rfl),fun b hb=>?_⟩,w.chg⟩
  rcases(w.ents 0 _ rfl).2 b hb with h9|h9
  ·exact(nomatch h9)
  ·exact h9
theorem listPair_calls {h:Heap} {v:Value} {l:List Pair} (hs:SL encP h v l) (hl:l.length≤100000):
  CallsH Tryz.prog 161 [v,.func (.func 162) #[] #[]] h (Ret fun r h'=>ListAt h.size h' r (qs (l.flatMap (fun p:Pair=>[p.name,p.text])))∧Chg [] h h'):=by
 obtain⟨a,cc,rfl,_⟩:=hs.form
 have two:∀x:Pair,((fun p:Pair=>[p.name,p.text]) x).length≤2:=fun x=>by simp
 refine f161_calls (by simp) ?_
 intro b4 h1 g1
 have w:=(St.start h).new g1
 intro b5 h2 g2
 have w:=w.new g2
 refine w.st1 0 rfl rfl rfl rfl fun h3 w=>?_
 have w:=w.empty (enc:=encQ) (size:=4)
 refine loop_intro (fun q:Nat×Value=>[(1,.func (.func 162) #[] #[]),(4,ptr b4),(5,ptr b5),(11,.slice a l.length cc),(12,.int .i64 l.length),(13,.int .i64 q.1)])
  (fun q h'=>q.1≤l.length∧St [] h h' [.o encQ 4 q.2 (qs ((l.take q.1).flatMap (fun p:Pair=>[p.name,p.text]))),.b b5 [.int .i64 5,.int .i64 0,.string noText,q.2],.b b4 [.int .i64 0,.int .i64 0,.string ⟨#[]⟩,.slice none 0 0]])
  (fun q=>l.length-q.1) (0,.slice none 0 0) ⟨rfl,rfl,rfl,rfl,rfl,rfl,trivial⟩ ⟨Nat.zero_le _,w⟩ ?_
 rintro⟨q,v⟩ h4 ⟨hq,w⟩
 have hq:q≤l.length:=hq
 obtain⟨a4,c4,rfl,_⟩:=(show OL encQ 4 h4 v (qs ((l.take q).flatMap (fun p:Pair=>[p.name,p.text])))from w.get 0 rfl).sl.form
 refine Ai rfl (Ai (fun hlt=>?_) (fun hge=>?_))
 ·have hlt:q<l.length:=by omega
  obtain⟨b,o,rfl⟩:=hs.addr (by omega)
  have hcs:=(hs.ext w.chg).cells encP_len (List.getElem?_eq_getElem hlt)
  obtain⟨ss,hss⟩:∃ss,ss=(fun p:Pair=>[p.name,p.text]) l[q]:=⟨_,rfl⟩
  obtain⟨pre,hpe⟩:∃pre,pre=(l.take q).flatMap (fun p:Pair=>[p.name,p.text]):=⟨_,rfl⟩
  have hsl:ss.length≤2:=by rw[hss];exact two _
  have hpre:pre.length≤200000:=by rw[hpe];have:=flat_len two (l.take q);rw[List.length_take]at this;omega
  have e9:qs ((l.take (q+1)).flatMap (fun p:Pair=>[p.name,p.text]))=qs (pre++ss.take ss.length):=by rw[flat_take hlt,List.take_length,hpe,hss]
  have ln:(qs ((l.take q).flatMap (fun p:Pair=>[p.name,p.text]))).length=pre.length:=by rw[hpe];exact List.length_map _
  have e0:qs ((l.take q).flatMap (fun p:Pair=>[p.name,p.text]))=qs (pre++ss.take 0):=by rw[hpe];simp
  rw[ln,e0]at w
  refine Ai (by omega) (Ai (by omega) (Ei (encP l[q]) (Ai rfl (Ai hcs ?_))))
  intro b7 h40 g40
  have w:=w.new g40
  refine w.st1 0 rfl rfl rfl rfl fun h41 w=>?_
  refine w.ldw 0 rfl rfl ?_
  refine call_ret (show CallsH _ _ _ _ (Ret (EachR _ ss))by rw[hss];exact two9_calls) ?_
  rintro _ h5 ⟨bx,rfl,Bx,hbx,c5⟩
  have w:=w.add (e:=.b bx (ss.map .string)) c5 Bx (fun k hk=>by simp[En.fp]at hk;omega)
  have w:=w.pick [0,2,3,4] (by decide)
  refine loop_intro (fun p:Nat×Value=>[(1,.func (.func 162) #[] #[]),(4,ptr b4),(5,ptr b5),(11,.slice (some ⟨b,o,none⟩) l.length cc),(12,.int .i64 l.length),(13,.int .i64 q),(19,.slice (some ⟨bx,0,none⟩) ss.length ss.length),(20,.int .i64 ss.length),(21,.int .i64 p.1)])
   (fun p h'=>p.1≤ss.length∧St [] h h' [.b bx (ss.map .string),.o encQ 4 p.2 (qs (pre++ss.take p.1)),.b b5 [.int .i64 5,.int .i64 0,.string noText,p.2],.b b4 [.int .i64 0,.int .i64 0,.string ⟨#[]⟩,.slice none 0 0]])
   (fun p=>ss.length-p.1) (0,.slice a4 pre.length c4) ⟨rfl,rfl,rfl,rfl,rfl,rfl,rfl,rfl,rfl,trivial⟩ ⟨Nat.zero_le _,w⟩ ?_
  rintro⟨j,v⟩ h6 ⟨hj,w⟩
  have hj:j≤ss.length:=hj
  obtain⟨a6,c6,rfl,_⟩:=(show OL encQ 4 h6 v (qs (pre++ss.take j))from w.get 1 rfl).sl.form
  refine Ai rfl (Ai (fun hlt2=>?_) (fun hge2=>?_))
  ·have hlt2:j<ss.length:=by omega
   have hqn:(qs (pre++ss.take j)).length≤200002:=by unfold qs;simp;omega
   refine ix9 (w.get 0 rfl) rfl hlt2 (v:=.string ss[j]) (by simp[hlt2]) ?_
   refine w.ld1 2 rfl rfl ?_
   refine w.callqv text9_calls fun h7 w=>?_
   intro b9 h8 g8
   have w:=w.new g8
   refine w.app 2 rfl encQ_len encQ_one rfl (SL.one encQ_len (x:=(4,0,ss[j])) (w.get 0 rfl)) (by simp only[List.length_singleton];omega) fun v' h9 w=>?_
   rw[←qs_snoc hlt2]at w
   obtain⟨a9,c9,rfl,_⟩:=(show OL encQ 4 h9 v' (qs (pre++ss.take (j+1)))from w.get 2 rfl).sl.form
   refine w.st1 3 rfl rfl rfl rfl fun h10 w=>?_
   have w:=w.pick [1,2,3,4] (by decide)
   refine Ai rfl (fun z hz=>?_)
   have hz:=add_in hz (by omega) (by omega)
   subst hz
   exact Ai rfl (Ei (j+1,_) (Ai ⟨rfl,rfl,rfl,rfl,rfl,rfl,rfl,rfl,rfl,trivial⟩ (Ai ⟨hlt2,w⟩ (by simp only;omega))))
  ·have hjn:j=ss.length:=by omega
   subst hjn
   rw[←e9]at w
   have w:=w.pick [1,2,3] (by decide)
   refine Ai rfl (fun z hz=>?_)
   have hz:=add_in hz (by omega) (by omega)
   subst hz
   exact Ai rfl (Ei (q+1,_) (Ai ⟨rfl,rfl,rfl,rfl,rfl,rfl,trivial⟩ (Ai ⟨hlt,w⟩ (by simp only;omega))))
 ·have hkl:q=l.length:=by omega
  subst hkl
  rw[List.take_length]at w
  refine w.ldw 1 rfl rfl ?_
  refine w.st1 2 rfl rfl rfl rfl fun h7 w=>?_
  refine⟨_,rfl,cells_blk (w.get 2 rfl),⟨_,_,_,rfl,(show OL encQ 4 h7 _ (qs (l.flatMap (fun p:Pair=>[p.name,p.text])))from w.get 0 rfl),fun b hb=>?_⟩,w.chg⟩
  rcases(w.ents 0 _ rfl).2 b hb with h9|h9
  ·exact(nomatch h9)
  ·exact h9
theorem listRank_calls {h:Heap} {v:Value} {l:List Rank} (hs:SL encR h v l) (hl:l.length≤100000):
  CallsH Tryz.prog 181 [v,.func (.func 183) #[] #[]] h (Ret fun r h'=>ListAt h.size h' r (qs (l.flatMap (fun r:Rank=>[r.name])))∧Chg [] h h'):=by
 obtain⟨a,cc,rfl,_⟩:=hs.form
 have two:∀x:Rank,((fun r:Rank=>[r.name]) x).length≤2:=fun x=>by simp
 refine f181_calls (by simp) ?_
 intro b4 h1 g1
 have w:=(St.start h).new g1
 intro b5 h2 g2
 have w:=w.new g2
 refine w.st1 0 rfl rfl rfl rfl fun h3 w=>?_
 have w:=w.empty (enc:=encQ) (size:=4)
 refine loop_intro (fun q:Nat×Value=>[(1,.func (.func 183) #[] #[]),(4,ptr b4),(5,ptr b5),(11,.slice a l.length cc),(12,.int .i64 l.length),(13,.int .i64 q.1)])
  (fun q h'=>q.1≤l.length∧St [] h h' [.o encQ 4 q.2 (qs ((l.take q.1).flatMap (fun r:Rank=>[r.name]))),.b b5 [.int .i64 5,.int .i64 0,.string noText,q.2],.b b4 [.int .i64 0,.int .i64 0,.string ⟨#[]⟩,.slice none 0 0]])
  (fun q=>l.length-q.1) (0,.slice none 0 0) ⟨rfl,rfl,rfl,rfl,rfl,rfl,trivial⟩ ⟨Nat.zero_le _,w⟩ ?_
 rintro⟨q,v⟩ h4 ⟨hq,w⟩
 have hq:q≤l.length:=hq
 obtain⟨a4,c4,rfl,_⟩:=(show OL encQ 4 h4 v (qs ((l.take q).flatMap (fun r:Rank=>[r.name])))from w.get 0 rfl).sl.form
 refine Ai rfl (Ai (fun hlt=>?_) (fun hge=>?_))
 ·have hlt:q<l.length:=by omega
  obtain⟨b,o,rfl⟩:=hs.addr (by omega)
  have hcs:=(hs.ext w.chg).cells encR_len (List.getElem?_eq_getElem hlt)
  obtain⟨ss,hss⟩:∃ss,ss=(fun r:Rank=>[r.name]) l[q]:=⟨_,rfl⟩
  obtain⟨pre,hpe⟩:∃pre,pre=(l.take q).flatMap (fun r:Rank=>[r.name]):=⟨_,rfl⟩
  have hsl:ss.length≤2:=by rw[hss];exact two _
  have hpre:pre.length≤200000:=by rw[hpe];have:=flat_len two (l.take q);rw[List.length_take]at this;omega
  have e9:qs ((l.take (q+1)).flatMap (fun r:Rank=>[r.name]))=qs (pre++ss.take ss.length):=by rw[flat_take hlt,List.take_length,hpe,hss]
  have ln:(qs ((l.take q).flatMap (fun r:Rank=>[r.name]))).length=pre.length:=by rw[hpe];exact List.length_map _
  have e0:qs ((l.take q).flatMap (fun r:Rank=>[r.name]))=qs (pre++ss.take 0):=by rw[hpe];simp
  rw[ln,e0]at w
  refine Ai (by omega) (Ai (by omega) (Ei (encR l[q]) (Ai rfl (Ai hcs ?_))))
  intro b7 h40 g40
  have w:=w.new g40
  refine w.st1 0 rfl rfl rfl rfl fun h41 w=>?_
  refine w.ldw 0 rfl rfl ?_
  refine call_ret (show CallsH _ _ _ _ (Ret (EachR _ ss))by rw[hss];exact name9_calls) ?_
  rintro _ h5 ⟨bx,rfl,Bx,hbx,c5⟩
  have w:=w.add (e:=.b bx (ss.map .string)) c5 Bx (fun k hk=>by simp[En.fp]at hk;omega)
  have w:=w.pick [0,2,3,4] (by decide)
  refine loop_intro (fun p:Nat×Value=>[(1,.func (.func 183) #[] #[]),(4,ptr b4),(5,ptr b5),(11,.slice (some ⟨b,o,none⟩) l.length cc),(12,.int .i64 l.length),(13,.int .i64 q),(19,.slice (some ⟨bx,0,none⟩) ss.length ss.length),(20,.int .i64 ss.length),(21,.int .i64 p.1)])
   (fun p h'=>p.1≤ss.length∧St [] h h' [.b bx (ss.map .string),.o encQ 4 p.2 (qs (pre++ss.take p.1)),.b b5 [.int .i64 5,.int .i64 0,.string noText,p.2],.b b4 [.int .i64 0,.int .i64 0,.string ⟨#[]⟩,.slice none 0 0]])
   (fun p=>ss.length-p.1) (0,.slice a4 pre.length c4) ⟨rfl,rfl,rfl,rfl,rfl,rfl,rfl,rfl,rfl,trivial⟩ ⟨Nat.zero_le _,w⟩ ?_
  rintro⟨j,v⟩ h6 ⟨hj,w⟩
  have hj:j≤ss.length:=hj
  obtain⟨a6,c6,rfl,_⟩:=(show OL encQ 4 h6 v (qs (pre++ss.take j))from w.get 1 rfl).sl.form
  refine Ai rfl (Ai (fun hlt2=>?_) (fun hge2=>?_))
  ·have hlt2:j<ss.length:=by omega
   have hqn:(qs (pre++ss.take j)).length≤200002:=by unfold qs;simp;omega
   refine ix9 (w.get 0 rfl) rfl hlt2 (v:=.string ss[j]) (by simp[hlt2]) ?_
   refine w.ld1 2 rfl rfl ?_
   refine w.callqv text9_calls fun h7 w=>?_
   intro b9 h8 g8
   have w:=w.new g8
   refine w.app 2 rfl encQ_len encQ_one rfl (SL.one encQ_len (x:=(4,0,ss[j])) (w.get 0 rfl)) (by simp only[List.length_singleton];omega) fun v' h9 w=>?_
   rw[←qs_snoc hlt2]at w
   obtain⟨a9,c9,rfl,_⟩:=(show OL encQ 4 h9 v' (qs (pre++ss.take (j+1)))from w.get 2 rfl).sl.form
   refine w.st1 3 rfl rfl rfl rfl fun h10 w=>?_
   have w:=w.pick [1,2,3,4] (by decide)
   refine Ai rfl (fun z hz=>?_)
   have hz:=add_in hz (by omega) (by omega)
   subst hz
   exact Ai rfl (Ei (j+1,_) (Ai ⟨rfl,rfl,rfl,rfl,rfl,rfl,rfl,rfl,rfl,trivial⟩ (Ai ⟨hlt2,w⟩ (by simp only;omega))))
  ·have hjn:j=ss.length:=by omega
   subst hjn
   rw[←e9]at w
   have w:=w.pick [1,2,3] (by decide)
   refine Ai rfl (fun z hz=>?_)
   have hz:=add_in hz (by omega) (by omega)
   subst hz
   exact Ai rfl (Ei (q+1,_) (Ai ⟨rfl,rfl,rfl,rfl,rfl,rfl,trivial⟩ (Ai ⟨hlt,w⟩ (by simp only;omega))))
 ·have hkl:q=l.length:=by omega
  subst hkl
  rw[List.take_length]at w
  refine w.ldw 1 rfl rfl ?_
  refine w.st1 2 rfl rfl rfl rfl fun h7 w=>?_
  refine⟨_,rfl,cells_blk (w.get 2 rfl),⟨_,_,_,rfl,(show OL encQ 4 h7 _ (qs (l.flatMap (fun r:Rank=>[r.name])))from w.get 0 rfl),fun b hb=>?_⟩,w.chg⟩
  rcases(w.ents 0 _ rfl).2 b hb with h9|h9
  ·exact(nomatch h9)
  ·exact h9
theorem place_calls {h:Heap} {n:Nat} {a:Int} (hn:n<4611686018427387904) (ha:In64 a):CallsH Tryz.prog 168 [.int .i64 n,.int .i64 a] h (Ret fun r h'=>r=.tuple #[.int .i64 ((placeN n a).getD 0:Nat),.bool (placeN n a).isSome]∧h'=h):=by
 obtain⟨a0,a1⟩:=ha
 refine f168_calls (by simp) ?_
 refine Ai rfl (Ai (fun q1=>?_) (fun q1=>?_))
 ·refine Ai rfl ?_
  have mx:max ((n:Int)) 0=n:=by omega
  rw[mx]
  refine Ai rfl (fun z hz=>?_)
  have hz:=add_in hz (by omega) (by omega)
  subst hz
  refine Ai rfl (Ai (fun q2=>?_) (fun q2=>?_))
  ·have e:placeN n a=none:=by unfold placeN;rw[if_pos q1,if_neg (by omega)]
   rw[e]
   exact⟨rfl,rfl⟩
  ·have e:placeN n a=some (a+n).toNat:=by unfold placeN;rw[if_pos q1,if_pos (by omega)]
   rw[e]
   refine Ai rfl (Ai (fun q3=>absurd q3 (by omega)) (fun q3=>?_))
   refine⟨?_,rfl⟩
   have:(((a+n).toNat:Nat):Int)=a+n:=by omega
   show Value.tuple #[.int .i64 (a+n),.bool true]=.tuple #[.int .i64 (((a+n).toNat:Nat):Int),.bool true]
   rw[this]
 ·refine Ai rfl (Ai (fun q2=>absurd q2 q1) (fun _=>?_))
  refine Ai rfl (Ai (fun q3=>?_) (fun q3=>?_))
  ·have e:placeN n a=none:=by unfold placeN;rw[if_neg q1,if_neg (by omega)]
   rw[e]
   exact⟨rfl,rfl⟩
  ·have e:placeN n a=some a.toNat:=by unfold placeN;rw[if_neg q1,if_pos (by omega)]
   rw[e]
   refine⟨?_,rfl⟩
   have:((a.toNat:Nat):Int)=a:=by omega
   show Value.tuple #[.int .i64 a,.bool true]=.tuple #[.int .i64 ((a.toNat:Nat):Int),.bool true]
   rw[this]
theorem span_calls {h:Heap} {n:Nat} {a b:Int} (hn:n<4611686018427387904) (ha:In64 a) (hb:In64 b):CallsH Tryz.prog 169 [.int .i64 n,.int .i64 a,.int .i64 b] h (Ret fun r h'=>r=.tuple #[.int .i64 ((spanN n a b).1:Nat),.int .i64 ((spanN n a b).2:Nat)]∧h'=h):=by
 obtain⟨a0,a1⟩:=ha
 obtain⟨b0,b1⟩:=hb
 refine f169_calls (by simp) ?_
 refine Ai rfl (Ai (fun q1=>?_) (fun q1=>?_))
 ·have e:spanN n a b=(0,0):=by unfold spanN;rw[if_pos (.inl (by omega))]
  rw[e]
  exact⟨rfl,rfl⟩
 have last:∀{b2:Int},b2=(if b<0 then b+n else b)→ -9223372036854775808≤b2→b2≤9223372036854775807→swp Tryz.prog (.seq (.ops f169r8) (.seq (.seq (.ops f169r9) (.cond (.tmp 29) (.seq (.ops f169r10) .ret) .skip)) (.seq (.ops f169r11) .ret)))
   (retQ [.t 6,.t 7] (Ret fun r h'=>r=.tuple #[.int .i64 ((spanN n a b).1:Nat),.int .i64 ((spanN n a b).2:Nat)]∧h'=h)) (mk [(0,.int .i64 n),(1,.int .i64 (spanA n a)),(2,.int .i64 b2),(8,.int .i64 n)]) [] h:=by
  intro b2 hb2 r0 r1
  have hA:0≤spanA n a∧spanA n a≤9223372036854775807:=by unfold spanA;split<;>omega
  refine Ai rfl (fun z hz=>?_)
  have hz:z=(n:Int)-1:=hz.trans (wrap_in (by omega) (by omega))
  subst hz
  refine Ai rfl ?_
  have hB:min b2 ((n:Int)-1)=spanB n b:=by unfold spanB;rw[←hb2]
  rw[hB]
  have hBr:spanB n b≤(n:Int)-1:=by unfold spanB;exact Int.min_le_right _ _
  refine Ai rfl (Ai (fun q2=>?_) (fun q2=>?_))
  ·have e:spanN n a b=(0,0):=by unfold spanN;rw[if_pos (.inr q2)]
   rw[e]
   exact⟨rfl,rfl⟩
  ·have e:spanN n a b=((spanA n a).toNat,(spanB n b).toNat+1):=by unfold spanN;rw[if_neg (fun hh=>by rcases hh with hh|hh;exact q1 (by omega);exact q2 hh)]
   rw[e]
   refine Ai rfl (fun z hz=>?_)
   have hz:z=spanB n b+1:=hz.trans (wrap_in (by omega) (by omega))
   subst hz
   refine⟨?_,rfl⟩
   have e1:(((spanA n a).toNat:Nat):Int)=spanA n a:=by omega
   have e2:((((spanB n b).toNat+1:Nat)):Int)=spanB n b+1:=by omega
   show Value.tuple #[.int .i64 (spanA n a),.int .i64 (spanB n b+1)]=.tuple #[.int .i64 (((spanA n a).toNat:Nat):Int),.int .i64 (((spanB n b).toNat+1:Nat):Int)]
   rw[e1,e2]
 have mid:swp Tryz.prog (.seq (.seq (.ops f169r6) (.cond (.tmp 19) (.ops f169r7) .skip)) (.seq (.ops f169r8) (.seq (.seq (.ops f169r9) (.cond (.tmp 29) (.seq (.ops f169r10) .ret) .skip)) (.seq (.ops f169r11) .ret))))
   (retQ [.t 6,.t 7] (Ret fun r h'=>r=.tuple #[.int .i64 ((spanN n a b).1:Nat),.int .i64 ((spanN n a b).2:Nat)]∧h'=h)) (mk [(0,.int .i64 n),(1,.int .i64 (spanA n a)),(2,.int .i64 b),(8,.int .i64 n)]) [] h:=by
  refine Ai rfl (Ai (fun q2=>?_) (fun q2=>?_))
  ·refine Ai rfl (fun z hz=>?_)
   have hz:z=b+n:=hz.trans (wrap_in (by omega) (by omega))
   subst hz
   exact cut_at [(0,.int .i64 n),(1,.int .i64 (spanA n a)),(2,.int .i64 (b+n)),(8,.int .i64 n)] ⟨rfl,rfl,rfl,rfl,trivial⟩ (last (by rw[if_pos q2]) (by omega) (by omega))
  ·exact cut_at [(0,.int .i64 n),(1,.int .i64 (spanA n a)),(2,.int .i64 b),(8,.int .i64 n)] ⟨rfl,rfl,rfl,rfl,trivial⟩ (last (by rw[if_neg q2]) (by omega) (by omega))
 refine Ai rfl (Ai (fun q2=>?_) (fun q2=>?_))
 ·refine Ai rfl (fun z hz=>?_)
  have hz:z=a+n:=hz.trans (wrap_in (by omega) (by omega))
  subst hz
  refine Ai rfl ?_
  have hA:max 0 (a+(n:Int))=spanA n a:=by unfold spanA;rw[if_pos q2]
  rw[hA]
  exact cut_at [(0,.int .i64 n),(1,.int .i64 (spanA n a)),(2,.int .i64 b),(8,.int .i64 n)] ⟨rfl,rfl,rfl,rfl,trivial⟩ mid
 ·have hA:a=spanA n a:=by unfold spanA;rw[if_neg q2]
  have e1:(mk [(0,Value.int .i64 n),(1,.int .i64 (spanA n a)),(2,.int .i64 b),(8,.int .i64 n)])=mk [(0,.int .i64 n),(1,.int .i64 a),(2,.int .i64 b),(8,.int .i64 n)]:=by rw[←hA]
  exact cut_at [(0,.int .i64 n),(1,.int .i64 a),(2,.int .i64 b),(8,.int .i64 n)] ⟨rfl,rfl,rfl,rfl,trivial⟩ (by rw[←e1];exact mid)
set_option maxHeartbeats 1000000 in
theorem rspan_calls {h:Heap} {n:Nat} {a b:Int} (hn:n≤100000) (ha:In64 a) (hb:In64 b):CallsH Tryz.prog 135 [.int .i64 n,.int .i64 a,.int .i64 b] h (Ret fun r h'=>r=.tuple #[.int .i64 ((spanN n a b).1:Nat),.int .i64 ((spanN n a b).2:Nat)]∧h'=h):=by
 obtain⟨a0,a1⟩:=ha
 obtain⟨b0,b1⟩:=hb
 refine f135_calls (by simp) ?_
 have hAr:0≤spanA n a∧spanA n a≤9223372036854775807:=by unfold spanA;split<;>omega
 have last:∀{b2:Int},b2=(if b<0 then b+n else b)→ -9223372036854775808≤b2→b2≤9223372036854775807→0≤b2→
   swp Tryz.prog (.seq (.seq (.ops f135r8) (.cond (.tmp 35) (.seq (.ops f135r9) .ret) .skip)) (.seq (.ops f135r10) .ret))
    (retQ [.t 6,.t 7] (Ret fun r h'=>r=.tuple #[.int .i64 ((spanN n a b).1:Nat),.int .i64 ((spanN n a b).2:Nat)]∧h'=h)) (mk [(1,.int .i64 (spanA n a)),(2,.int .i64 b2),(6,.int .i64 0),(7,.int .i64 0),(8,.int .i64 n)]) [] h:=by
  intro b2 hb2 l0 l1 l2
  have hB:min b2 ((n:Int)-1)=spanB n b:=by unfold spanB;rw[←hb2]
  refine Ai rfl (Ai (fun q1=>?_) (fun q1=>?_))
  ·have e:spanN n a b=(0,0):=by unfold spanN;rw[if_pos (.inr (by omega))]
   rw[e]
   exact⟨rfl,rfl⟩
  refine Ai rfl (Ai (fun q2=>?_) (fun q2=>?_))
  ·have e:spanN n a b=(0,0):=by unfold spanN;rw[if_pos (.inr (by omega))]
   rw[e]
   exact⟨rfl,rfl⟩
  have e:spanN n a b=((spanA n a).toNat,(spanB n b).toNat+1):=by unfold spanN;rw[if_neg (fun hh=>by rcases hh with hh|hh<;>omega)]
  rw[e]
  refine Ai rfl (fun z hz=>?_)
  have hz:z=(n:Int)-1:=hz.trans (wrap_in (by omega) (by omega))
  subst hz
  refine Ai rfl ?_
  rw[hB]
  refine Ai rfl (fun z hz=>?_)
  have hz:z=spanB n b+1:=hz.trans (wrap_in (by omega) (by omega))
  subst hz
  refine⟨?_,rfl⟩
  show Value.tuple #[.int .i64 (spanA n a),.int .i64 (spanB n b+1)]=.tuple #[.int .i64 (((spanA n a).toNat:Nat):Int),.int .i64 (((spanB n b).toNat+1:Nat):Int)]
  rw[show(((spanA n a).toNat:Nat):Int)=spanA n a by omega,show((((spanB n b).toNat+1:Nat)):Int)=spanB n b+1 by omega]
 have mid:swp Tryz.prog (.seq (.seq (.ops f135r4) (.cond (.tmp 20) (.seq (.seq (.ops f135r5) (.cond (.tmp 24) (.seq (.ops f135r6) .ret) .skip)) (.ops f135r7)) .skip)) (.seq (.seq (.ops f135r8) (.cond (.tmp 35) (.seq (.ops f135r9) .ret) .skip)) (.seq (.ops f135r10) .ret)))
    (retQ [.t 6,.t 7] (Ret fun r h'=>r=.tuple #[.int .i64 ((spanN n a b).1:Nat),.int .i64 ((spanN n a b).2:Nat)]∧h'=h)) (mk [(1,.int .i64 (spanA n a)),(2,.int .i64 b),(6,.int .i64 0),(7,.int .i64 0),(8,.int .i64 n)]) [] h:=by
  refine Ai rfl (Ai (fun q2=>?_) (fun q2=>?_))
  ·intro z hz
   have hz:z= -(n:Int):=hz.trans ((wrap_in (by omega) (by omega)).trans (by omega))
   subst hz
   refine Ai rfl (Ai (fun q3=>?_) (fun q3=>?_))
   ·have e:spanN n a b=(0,0):=by
     have hB:spanB n b≤b+n:=by unfold spanB;rw[if_pos q2];exact Int.min_le_left _ _
     unfold spanN
     rw[if_pos (.inr (by omega))]
    rw[e]
    exact⟨rfl,rfl⟩
   refine Ai rfl (fun z hz=>?_)
   have hz:z=b+n:=hz.trans ((wrap_in (by omega) (by omega)).trans (by omega))
   subst hz
   exact cut_at [(1,.int .i64 (spanA n a)),(2,.int .i64 (b+n)),(6,.int .i64 0),(7,.int .i64 0),(8,.int .i64 n)] ⟨rfl,rfl,rfl,rfl,rfl,trivial⟩ (last (by rw[if_pos q2]) (by omega) (by omega) (by omega))
  ·exact cut_at [(1,.int .i64 (spanA n a)),(2,.int .i64 b),(6,.int .i64 0),(7,.int .i64 0),(8,.int .i64 n)] ⟨rfl,rfl,rfl,rfl,rfl,trivial⟩ (last (by rw[if_neg q2]) (by omega) (by omega) (by omega))
 refine Ai rfl (Ai (fun q1=>?_) (fun q1=>?_))
 ·intro z hz
  have hz:z= -(n:Int):=hz.trans ((wrap_in (by omega) (by omega)).trans (by omega))
  subst hz
  refine Ai rfl ?_
  refine Ai rfl (fun z hz=>?_)
  have hz:z=(n:Int)+max a (-(n:Int)):=hz.trans (wrap_in (by omega) (by omega))
  subst hz
  refine Ai rfl ?_
  have hA:max 0 ((n:Int)+max a (-(n:Int)))=spanA n a:=by unfold spanA;rw[if_pos q1];omega
  rw[hA]
  exact cut_at [(1,.int .i64 (spanA n a)),(2,.int .i64 b),(6,.int .i64 0),(7,.int .i64 0),(8,.int .i64 n)] ⟨rfl,rfl,rfl,rfl,rfl,trivial⟩ mid
 ·have hA:a=spanA n a:=by unfold spanA;rw[if_neg q1]
  generalize hg:spanA n a=g at hA mid
  subst hA
  exact cut_at [(1,.int .i64 a),(2,.int .i64 b),(6,.int .i64 0),(7,.int .i64 0),(8,.int .i64 n)] ⟨rfl,rfl,rfl,rfl,rfl,trivial⟩ mid
theorem rtexts_calls {h:Heap} {v:Value} {l:List ByteArray} (hs:SL encS h v l) (hl:l.length≤100000):
  CallsH Tryz.prog 123 [v] h (Ret fun r h'=>RepAt h.size h' r (listR l)∧Chg [] h h'):=by
 obtain⟨a,cc,rfl,_⟩:=hs.form
 refine f123_calls (by simp) ?_
 intro b2 h1 g1
 have w:=(St.start h).new g1
 intro b3 h2 g2
 have w:=w.new g2
 refine w.st1 0 rfl rfl rfl rfl fun h3 w=>?_
 have w:=w.empty (enc:=encQ) (size:=4)
 refine loop_intro (fun q:Nat×Value=>[(0,.slice a l.length cc),(2,ptr b2),(3,ptr b3),(4,.int .i64 q.1)])
  (fun q h'=>q.1≤l.length∧St [] h h' [.o encQ 4 q.2 (qs (l.take q.1)),.b b3 [.int .i64 5,.int .i64 0,.string noText,q.2],.b b2 [.int .i64 0,.int .i64 0,.string ⟨#[]⟩,.slice none 0 0]])
  (fun q=>l.length-q.1) (0,.slice none 0 0) ⟨rfl,rfl,rfl,rfl,trivial⟩ ⟨Nat.zero_le _,w⟩ ?_
 rintro⟨q,v⟩ h4 ⟨hq,w⟩
 have hq:q≤l.length:=hq
 obtain⟨a4,c4,rfl,_⟩:=(show OL encQ 4 h4 v (qs (l.take q))from w.get 0 rfl).sl.form
 refine Ai rfl (Ai (fun hlt=>?_) (fun hge=>?_))
 ·have hlt:q<l.length:=by omega
  obtain⟨b,o,rfl⟩:=hs.addr (by omega)
  have hcs:=(hs.ext w.chg).cells encS_len (List.getElem?_eq_getElem hlt)
  have hqn:(qs (l.take q)).length≤100000:=by unfold qs;simp;omega
  have e1:qs (l.take (q+1))=qs (l.take q)++[(4,0,l[q])]:=qs_snoc (pre:=[]) hlt
  refine w.ld1 1 rfl rfl ?_
  refine Ai (by omega) (Ai (by omega) (Ei _ (Ai (hcs 0 _ rfl) ?_)))
  refine w.callqv rText9_calls fun h7 w=>?_
  intro b9 h8 g8
  have w:=w.new g8
  refine w.app 1 rfl encQ_len encQ_one rfl (SL.one encQ_len (x:=(4,0,l[q])) (w.get 0 rfl)) (by simp only[List.length_singleton];omega) fun v' h9 w=>?_
  rw[←e1]at w
  obtain⟨a9,c9,rfl,_⟩:=(show OL encQ 4 h9 v' (qs (l.take (q+1)))from w.get 1 rfl).sl.form
  refine w.st1 2 rfl rfl rfl rfl fun h10 w=>?_
  have w:=w.pick [1,2,3] (by decide)
  refine Ai rfl (fun z hz=>?_)
  have hz:=add_in hz (by omega) (by omega)
  subst hz
  exact Ai rfl (Ei (q+1,_) (Ai ⟨rfl,rfl,rfl,rfl,trivial⟩ (Ai ⟨hlt,w⟩ (by simp only;omega))))
 ·have hkl:q=l.length:=by omega
  subst hkl
  rw[List.take_length]at w
  refine w.ldw 1 rfl rfl ?_
  refine w.st1 2 rfl rfl rfl rfl fun h5 w=>?_
  have eo:=w.ents 0 _ rfl
  exact⟨_,rfl,cells_blk (w.get 2 rfl),⟨_,_,_,rfl,(show OL encQ 4 h5 _ (qs l)from w.get 0 rfl).sl,fun b hb=>by
   rcases eo.2 b hb with h1|h1
   ·cases h1
   ·exact h1⟩,w.chg⟩
abbrev nilV:Value:=.slice none 0 0
abbrev c0 (ab kb:Nat) (now:Int) (av:Value):En:=cE ab kb now av noText zeroT false nilV nilV nilV nilV []
def Cmd9 (h0 h:Heap) (ab kb:Nat) (now:Int) (av:Value) (res:Res):Ending→Heap→Prop:=
 Out9 (fun r h'=>∃q E key t is pv lw rv lv,res=.ok (q,E)∧RepAt h.size h' r q∧Tn h0 h (c0 ab kb now av) h' (cE ab kb now av key t is pv lw rv lv E)) (fun why h'=>res=.error why∧Chg (c0 ab kb now av).fp h h')
structure T9 (t:Thing):Prop where
 ps:t.pairs.length≤2000
 ls:t.list.length≤2000
 rs:t.ranks.length≤2000
 pt:∀p∈t.pairs,p.text.size≤2000
 ri:∀r∈t.ranks,In64 r.score
 rz:∀r∈t.ranks,r.name.size≤2000
 lz:∀x∈t.list,x.size≤2000
def S9 (S:Space):Prop:=∀p∈S,T9 p.2
theorem getS_mem {S:Space} {key:ByteArray} {now:Int} {t:Thing} (h:getS S key now=some t):(key,t)∈S:=by
 unfold getS at h
 split at h
 ·rename_i u hu
  split at h
  ·cases h
  ·cases h;exact findS_mem hu
 ·cases h
theorem S9.get {S:Space} (s:S9 S) (key:ByteArray) (now:Int):T9 ((getS S key now).getD zeroT):=by
 cases hg:getS S key now with
 |none=>exact⟨Nat.zero_le _,Nat.zero_le _,Nat.zero_le _,fun p hp=>(nomatch hp),fun r hr=>(nomatch hr),fun r hr=>(nomatch hr),fun x hx=>(nomatch hx)⟩
 |some t=>exact s _ (getS_mem hg)
section
variable {h0 h h1 h2 h':Heap} {ab kb sb mb c b2:Nat} {now lo hi kd items k n:Int} {av lv pv lw rv:Value} {key s why:ByteArray} {t:Thing} {is:Bool} {A:List ByteArray} {L E:List Eff} {m:List KI} {S:Space} {M:List En} {T:List Nat} {e e':En} {res:Res} {q:Rep} {ls:List (Int×Int×ByteArray)}
theorem bad9 (he:res=.error why) (hc:Chg (c0 ab kb now av).fp h h'):∃w,stop9 why=stop9 w∧res=.error w∧Chg (c0 ab kb now av).fp h h':=⟨why,rfl,he,hc⟩
theorem fin9 (x:As h0 h (c0 ab kb now av)) (w:St (c0 ab kb now av).fp h h' M) (i j:Nat) (hi:M[i]? =some (.b b2 [.int .i64 k,.int .i64 n,.string s,.slice none 0 0])) (hj:M[j]? =some (cE ab kb now av key t is pv lw rv lv E)) (he:res=.ok (rep k n s,E)):
  ∃vs,vs.length=4∧Cells h' b2 0 vs∧Cmd9 h0 h ab kb now av res (.returned (.agg ⟨vs⟩)) h':=
 ⟨_,rfl,cells_blk (w.get i hi),rep k n s,E,key,t,is,pv,lw,rv,lv,he,⟨none,0,0,rfl,SL.nil,fun b hb=>(nomatch (show b∈([]:List Nat)from hb))⟩,x.out w j hj⟩
theorem finl9 {a:Option Addr} {n c:Nat} (x:As h0 h (c0 ab kb now av)) (w:St (c0 ab kb now av).fp h h' M) (i j l:Nat) (hi:M[i]? =some (.b b2 [.int .i64 5,.int .i64 0,.string noText,.slice a n c])) (hj:M[j]? =some (cE ab kb now av key t is pv lw rv lv E))
  (hl:M[l]? =some (.o encQ 4 (.slice a n c) ls)) (hlb:∀b∈ablk a,h.size≤b) (he:res=.ok (⟨5,0,noText,ls⟩,E)):∃vs,vs.length=4∧Cells h' b2 0 vs∧Cmd9 h0 h ab kb now av res (.returned (.agg ⟨vs⟩)) h':=
 ⟨_,rfl,cells_blk (w.get i hi),⟨5,0,noText,ls⟩,E,key,t,is,pv,lw,rv,lv,he,⟨a,n,c,rfl,(show OL encQ 4 h' (.slice a n c) ls from w.get l hl).sl,hlb⟩,x.out w j hj⟩
theorem _root_.Go.Sx.St.thc (w:St T h1 h M) (i:Nat) (hi:M[i]? =some (cE ab kb now av key t is pv lw rv lv L)):SL encP h pv t.pairs∧SL encS h lw t.list∧SL encR h rv t.ranks:=by
 obtain⟨_,_,hT,_⟩:=w.get i hi
 obtain⟨p,l,r,e,h1,h2,h3⟩:=hT
 simp only[cellsT,List.cons.injEq,and_true,true_and]at e
 obtain⟨rfl,rfl,rfl⟩:=e
 exact⟨h1,h2,h3⟩
theorem sl_ix {i:Int} {b o n cc:Nat} {l:List ByteArray} {K:Value→Prop} (hs:SL encS h (.slice (some ⟨b,o,none⟩) n cc) l) (j:Nat) (e:i=j) (hj:l[j]? =some s) (hk:K (.string s)):0≤i∧i<(n:Int)∧∃v,cell h b (o+i.toNat*1)=some v∧K v:=by
 subst e
 have h1:=(List.getElem?_eq_some_iff.1 hj).1
 have hcs:=hs.cells encS_len hj
 have hn:=hs.len.1
 refine⟨by omega,by omega,_,?_,hk⟩
 have:=hcs 0 _ rfl
 simpa using this
theorem kindly_ok {kd:Int} {f:Thing→Res} (hk:okK kd (getS S key now)=true):kindly S now kd key f=f ((getS S key now).getD zeroT):=by
 unfold kindly
 cases hg:getS S key now with
 |none=>rfl
 |some t=>rw[hg]at hk;exact if_pos (of_decide_eq_true hk)
theorem kindly_no {kd:Int} {f:Thing→Res} (hk:okK kd (getS S key now)=false):kindly S now kd key f=.error wType:=by
 unfold kindly
 cases hg:getS S key now with
 |none=>rw[hg]at hk;cases hk
 |some t=>rw[hg]at hk;exact if_neg (of_decide_eq_false hk)
def NoB (S:Space) (now:Int) (A:List ByteArray) (lo hi kd:Int) (why:ByteArray):Prop:=
 (¬(lo≤A.length∧(A.length:Int)≤hi)∧why=wArgs)∨(lo≤A.length∧(A.length:Int)≤hi)∧∃k0,A[0]? =some k0∧okK kd (getS S k0 now)=false∧why=wType
theorem NoB.a1 {f:ByteArray→Thing→Res} (h:NoB S now A 1 1 kd why):arg1 (fun key=>kindly S now kd key (f key)) A=.error why:=by
 rcases h with⟨hb,rfl⟩|⟨hb,k0,hk0,hk,rfl⟩
 ·exact arg1_bad hb
 ·obtain⟨k1,rfl⟩:=one_arg hb
  cases hk0
  exact kindly_no hk
theorem NoB.a2 {f:ByteArray→ByteArray→Thing→Res} (h:NoB S now A 2 2 kd why):arg2 (fun key n=>kindly S now kd key (f key n)) A=.error why:=by
 rcases h with⟨hb,rfl⟩|⟨hb,k0,hk0,hk,rfl⟩
 ·exact arg2_bad hb
 ·obtain⟨k1,k2,rfl⟩:=two_arg hb
  cases hk0
  exact kindly_no hk
theorem three_arg {α:Type} {A:List α} (h:(3:Int)≤A.length∧(A.length:Int)≤3):∃x y z,A=[x,y,z]:=by
 match A,h with
 |[],h=>simp at h
 |[x],h=>simp at h
 |[x,y],h=>simp at h
 |[x,y,z],_=>exact⟨x,y,z,rfl⟩
 |x::y::z::u::l,h=>simp at h;omega
theorem arg3_bad {f:ByteArray→ByteArray→ByteArray→Res} {A:List ByteArray} (h:¬((3:Int)≤A.length∧(A.length:Int)≤3)):arg3 f A=.error wArgs:=by
 match A,h with
 |[],_=>rfl
 |[x],_=>rfl
 |[x,y],_=>rfl
 |[x,y,z],h=>exact absurd ⟨by simp,by simp⟩ h
 |x::y::z::u::l,_=>rfl
theorem mkOk9 {ok:Bool} {r:Rep} (h:items≤65536∧key.size≤1048576∧ok=true):makes S now key items ok r E=.ok (r,dropsS S key now++E):=if_pos h
theorem mkNo9 {ok:Bool} {r:Rep} (h:¬(items≤65536∧key.size≤1048576∧ok=true)):makes S now key items ok r E=.error wLong:=if_neg h
def accE (S:Space) (key:ByteArray) (now:Int) (D:List Eff) (q:Nat):List Eff:=if q=0 then[]else dropsS S key now++D.take q
theorem acc_put {D:List Eff} {q:Nat} {d:Eff} (hq:D[q]? =some {d with key:=key}):putL S key now (accE S key now D q) d=accE S key now D (q+1):=by
 have hl:=(List.getElem?_eq_some_iff.1 hq).1
 have hd:=(List.getElem?_eq_some_iff.1 hq).2
 unfold putL
 have e1:accE S key now D (q+1)=dropsS S key now++(D.take q++[{d with key:=key}]):=by
  unfold accE
  rw[if_neg (by omega),List.take_succ_eq_append_getElem hl,hd]
 rw[e1]
 by_cases h0:q=0
 ·subst h0
  rw[show accE S key now D 0=[]from if_pos rfl,if_pos rfl]
  simp
 ·have e2:accE S key now D q=dropsS S key now++D.take q:=by unfold accE;rw[if_neg h0]
  have hne:dropsS S key now++D.take q≠[]:=by
   intro he
   have:(dropsS S key now++D.take q).length=0:=by rw[he];rfl
   rw[List.length_append,List.length_take]at this
   omega
  rw[e2,if_neg hne,List.append_assoc]
theorem acc_len (D:List Eff) (q:Nat) (hq:q≤D.length):(accE S key now D q).length≤q+1:=by
 unfold accE
 split
 ·simp
 ·have:=drops_len S key now
  simp;omega
theorem acc_all {D:List Eff} (hD:D≠[]):accE S key now D D.length=dropsS S key now++D:=by
 unfold accE
 rw[if_neg (fun h=>hD (List.eq_nil_of_length_eq_zero h)),List.take_length]
end
end Go.Proofs.YtjnijlnmbjjgpaaGreatDoor
