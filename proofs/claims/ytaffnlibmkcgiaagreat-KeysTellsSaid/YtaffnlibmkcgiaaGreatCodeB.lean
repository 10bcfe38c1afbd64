/-
  The simplified code of this seat's functions, and that it is what the program's code comes to. Printed by a program (wip/print.lean).
-/
import Derived.Test.YtaffnlibmkcgiaaGreatCode
import Derived.Test.YtaffnlibmkcgiaaGreatProg
set_option maxRecDepth 100000
namespace Go.Proofs.YtaffnlibmkcgiaaGreat.C
open Go Go.Sx Go.Sx.S


/-! 64: tabor/taborref07.pairs -/
def f64r0 : List SOper := [
 o 8 (.mv (.const (.slice none 0 0))),
 o 9 (.mv (b false))]
def f64r1 : List SOper := [
 o 10 (.mv (.const (.slice none 0 0)))]
def f64r2 : List SOper := [
 o 11 (.mv (b false)),
 o 12 (.mv (b false))]
def f64r3 : List SOper := [
 o 13 (.mv (i 0))]
def f64r4 : List SOper := [
 o 14 (.mv (t 13)),
 o 15 (.mv (t 0)),
 o 16 (.len (t 15)),
 o 17 (.cmp .lss (t 14) (t 16))]
def f64r5 : List SOper := [
 o 20 (.mv (t 0)),
 o 21 (.mv (t 13)),
 o 22 (.ixs 2 (t 20) (t 21)),
 o 23 (.fa 0 (t 22)),
 o 24 (.ld1 (t 23)),
 o 25 (.mv (t 1)),
 o 26 (.cmp .eql (t 24) (t 25))]
def f64r6 : List SOper := [
 o 11 (.mv (b true))]
def f64r7 : List SOper := [
 o 27 (.mv (t 3)),
 o 28 (.mv (t 27)),
 g 29 28 (.mv (t 12)),
 g 30 28 (.un .not (t 29)),
 o 31 (.pick (t 28) (t 30) (b false)),
 o 32 (.mv (t 31)),
 g 33 32 (.mv (t 1)),
 g 34 32 (.mv (t 0)),
 g 35 32 (.mv (t 13)),
 g 36 32 (.ixs 2 (t 34) (t 35)),
 g 37 32 (.fa 0 (t 36)),
 g 38 32 (.ld1 (t 37)),
 g 39 32 (.call 36 [(t 33), (t 38)]),
 o 40 (.pick (t 32) (t 39) (b false))]
def f64r8 : List SOper := [
 o 41 (.mv (t 10)),
 o 42 (.mv (t 1)),
 o 43 (.mv (t 2)),
 o 44 (.build [(.string ⟨#[]⟩), (.string ⟨#[]⟩)] [(0, 1), (1, 1)] [(t 42), (t 43)]),
 o 45 (.bslice [(.string ⟨#[]⟩), (.string ⟨#[]⟩)] 1 [(0, 2)] [(t 44)]),
 o 46 (.app 2 32 [(.string ⟨#[]⟩), (.string ⟨#[]⟩)] (t 41) (t 45)),
 o 10 (.mv (t 46))]
def f64r9 : List SOper := [
 o 12 (.mv (b true))]
def f64r10 : List SOper := [
 o 47 (.mv (t 10)),
 o 48 (.mv (t 0)),
 o 49 (.mv (t 13)),
 o 50 (.ixs 2 (t 48) (t 49)),
 o 51 (.ldn 2 (t 50)),
 o 52 (.bslice [(.string ⟨#[]⟩), (.string ⟨#[]⟩)] 1 [(0, 2)] [(t 51)]),
 o 53 (.app 2 32 [(.string ⟨#[]⟩), (.string ⟨#[]⟩)] (t 47) (t 52)),
 o 10 (.mv (t 53))]
def f64r11 : List SOper := [
 o 18 (.mv (t 13)),
 o 19 (.ar .add (t 18) (i 1)),
 o 13 (.mv (t 19))]
def f64l12 : SCode := (.seq (.seq (.ops f64r4) (.cond (t 17) .skip (.exit 0))) (.seq (.block 1 (.seq (.seq (.ops f64r5) (.cond (t 26) (.seq (.ops f64r6) (.exit 1)) .skip)) (.seq (.seq (.ops f64r7) (.cond (t 40) (.seq (.ops f64r8) (.ops f64r9)) .skip)) (.ops f64r10)))) (.ops f64r11)))
def f64r13 : List SOper := [
 o 54 (.mv (t 3)),
 o 55 (.mv (t 54)),
 g 56 55 (.mv (t 12)),
 g 57 55 (.un .not (t 56)),
 o 58 (.pick (t 55) (t 57) (b false))]
def f64r14 : List SOper := [
 o 59 (.mv (t 10)),
 o 60 (.mv (t 1)),
 o 61 (.mv (t 2)),
 o 62 (.build [(.string ⟨#[]⟩), (.string ⟨#[]⟩)] [(0, 1), (1, 1)] [(t 60), (t 61)]),
 o 63 (.bslice [(.string ⟨#[]⟩), (.string ⟨#[]⟩)] 1 [(0, 2)] [(t 62)]),
 o 64 (.app 2 32 [(.string ⟨#[]⟩), (.string ⟨#[]⟩)] (t 59) (t 63)),
 o 10 (.mv (t 64))]
def f64r15 : List SOper := [
 o 65 (.mv (t 10)),
 o 66 (.mv (t 11)),
 o 8 (.mv (t 65)),
 o 9 (.mv (t 66))]
def f64 : SCode := (.seq (.ops f64r0) (.seq (.ops f64r1) (.seq (.ops f64r2) (.seq (.seq (.ops f64r3) (.block 0 (.loop f64l12))) (.seq (.seq (.ops f64r13) (.cond (t 58) (.ops f64r14) .skip)) (.seq (.ops f64r15) .ret))))))
theorem f64_calls : Sound Tryz.prog 64 67 f64 [.t 8, .t 9] := sound_of mixed Tryz.func64 rfl (by kernel_rfl) (by kernel_rfl) (by kernel_rfl)

/-! 65: tabor/taborref07.members -/
def f65r0 : List SOper := [
 o 6 (.mv (.const (.slice none 0 0))),
 o 7 (.mv (b false))]
def f65r1 : List SOper := [
 o 8 (.mv (.const (.slice none 0 0)))]
def f65r2 : List SOper := [
 o 9 (.mv (b false)),
 o 10 (.mv (b false))]
def f65r3 : List SOper := [
 o 11 (.mv (i 0))]
def f65r4 : List SOper := [
 o 12 (.mv (t 11)),
 o 13 (.mv (t 0)),
 o 14 (.len (t 13)),
 o 15 (.cmp .lss (t 12) (t 14))]
def f65r5 : List SOper := [
 o 18 (.mv (t 0)),
 o 19 (.mv (t 11)),
 o 20 (.ixs 1 (t 18) (t 19)),
 o 21 (.ld1 (t 20)),
 o 22 (.mv (t 1)),
 o 23 (.cmp .eql (t 21) (t 22))]
def f65r6 : List SOper := [
 o 9 (.mv (b true))]
def f65r7 : List SOper := [
 o 24 (.mv (t 2)),
 o 25 (.mv (t 24)),
 g 26 25 (.mv (t 10)),
 g 27 25 (.un .not (t 26)),
 o 28 (.pick (t 25) (t 27) (b false)),
 o 29 (.mv (t 28)),
 g 30 29 (.mv (t 1)),
 g 31 29 (.mv (t 0)),
 g 32 29 (.mv (t 11)),
 g 33 29 (.ixs 1 (t 31) (t 32)),
 g 34 29 (.ld1 (t 33)),
 g 35 29 (.call 36 [(t 30), (t 34)]),
 o 36 (.pick (t 29) (t 35) (b false))]
def f65r8 : List SOper := [
 o 37 (.mv (t 8)),
 o 38 (.mv (t 1)),
 o 39 (.bslice [(.string ⟨#[]⟩)] 1 [(0, 1)] [(t 38)]),
 o 40 (.app 1 16 [(.string ⟨#[]⟩)] (t 37) (t 39)),
 o 8 (.mv (t 40))]
def f65r9 : List SOper := [
 o 10 (.mv (b true))]
def f65r10 : List SOper := [
 o 41 (.mv (t 8)),
 o 42 (.mv (t 0)),
 o 43 (.mv (t 11)),
 o 44 (.ixs 1 (t 42) (t 43)),
 o 45 (.ld1 (t 44)),
 o 46 (.bslice [(.string ⟨#[]⟩)] 1 [(0, 1)] [(t 45)]),
 o 47 (.app 1 16 [(.string ⟨#[]⟩)] (t 41) (t 46)),
 o 8 (.mv (t 47))]
def f65r11 : List SOper := [
 o 16 (.mv (t 11)),
 o 17 (.ar .add (t 16) (i 1)),
 o 11 (.mv (t 17))]
def f65l12 : SCode := (.seq (.seq (.ops f65r4) (.cond (t 15) .skip (.exit 0))) (.seq (.block 1 (.seq (.seq (.ops f65r5) (.cond (t 23) (.seq (.ops f65r6) (.exit 1)) .skip)) (.seq (.seq (.ops f65r7) (.cond (t 36) (.seq (.ops f65r8) (.ops f65r9)) .skip)) (.ops f65r10)))) (.ops f65r11)))
def f65r13 : List SOper := [
 o 48 (.mv (t 2)),
 o 49 (.mv (t 48)),
 g 50 49 (.mv (t 10)),
 g 51 49 (.un .not (t 50)),
 o 52 (.pick (t 49) (t 51) (b false))]
def f65r14 : List SOper := [
 o 53 (.mv (t 8)),
 o 54 (.mv (t 1)),
 o 55 (.bslice [(.string ⟨#[]⟩)] 1 [(0, 1)] [(t 54)]),
 o 56 (.app 1 16 [(.string ⟨#[]⟩)] (t 53) (t 55)),
 o 8 (.mv (t 56))]
def f65r15 : List SOper := [
 o 57 (.mv (t 8)),
 o 58 (.mv (t 9)),
 o 6 (.mv (t 57)),
 o 7 (.mv (t 58))]
def f65 : SCode := (.seq (.ops f65r0) (.seq (.ops f65r1) (.seq (.ops f65r2) (.seq (.seq (.ops f65r3) (.block 0 (.loop f65l12))) (.seq (.seq (.ops f65r13) (.cond (t 52) (.ops f65r14) .skip)) (.seq (.ops f65r15) .ret))))))
theorem f65_calls : Sound Tryz.prog 65 59 f65 [.t 6, .t 7] := sound_of mixed Tryz.func65 rfl (by kernel_rfl) (by kernel_rfl) (by kernel_rfl)

/-! 66: tabor/taborref07.ranks -/
def f66r0 : List SOper := [
 o 4 (.box (t 1)),
 o 6 (.mv (.const (.slice none 0 0))),
 o 7 (.mv (b false))]
def f66r1 : List SOper := [
 o 8 (.mv (.const (.slice none 0 0)))]
def f66r2 : List SOper := [
 o 9 (.mv (b false)),
 o 10 (.mv (b false))]
def f66r3 : List SOper := [
 o 11 (.mv (i 0))]
def f66r4 : List SOper := [
 o 12 (.mv (t 11)),
 o 13 (.mv (t 0)),
 o 14 (.len (t 13)),
 o 15 (.cmp .lss (t 12) (t 14))]
def f66r5 : List SOper := [
 o 18 (.mv (t 0)),
 o 19 (.mv (t 11)),
 o 20 (.ixs 2 (t 18) (t 19)),
 o 21 (.fa 0 (t 20)),
 o 22 (.ld1 (t 21)),
 o 23 (.fa 0 (t 4)),
 o 24 (.ld1 (t 23)),
 o 25 (.cmp .eql (t 22) (t 24))]
def f66r6 : List SOper := [
 o 9 (.mv (b true))]
def f66r7 : List SOper := [
 o 26 (.mv (t 2)),
 o 27 (.mv (t 26)),
 g 28 27 (.mv (t 10)),
 g 29 27 (.un .not (t 28)),
 o 30 (.pick (t 27) (t 29) (b false)),
 o 31 (.mv (t 30)),
 g 32 31 (.ldn 2 (t 4)),
 g 33 31 (.mv (t 0)),
 g 34 31 (.mv (t 11)),
 g 35 31 (.ixs 2 (t 33) (t 34)),
 g 36 31 (.ldn 2 (t 35)),
 g 37 31 (.call 37 [(t 32), (t 36)]),
 o 38 (.pick (t 31) (t 37) (b false))]
def f66r8 : List SOper := [
 o 39 (.mv (t 8)),
 o 40 (.ldn 2 (t 4)),
 o 41 (.bslice [(.string ⟨#[]⟩), (.int .i64 0)] 1 [(0, 2)] [(t 40)]),
 o 42 (.app 2 24 [(.string ⟨#[]⟩), (.int .i64 0)] (t 39) (t 41)),
 o 8 (.mv (t 42))]
def f66r9 : List SOper := [
 o 10 (.mv (b true))]
def f66r10 : List SOper := [
 o 43 (.mv (t 8)),
 o 44 (.mv (t 0)),
 o 45 (.mv (t 11)),
 o 46 (.ixs 2 (t 44) (t 45)),
 o 47 (.ldn 2 (t 46)),
 o 48 (.bslice [(.string ⟨#[]⟩), (.int .i64 0)] 1 [(0, 2)] [(t 47)]),
 o 49 (.app 2 24 [(.string ⟨#[]⟩), (.int .i64 0)] (t 43) (t 48)),
 o 8 (.mv (t 49))]
def f66r11 : List SOper := [
 o 16 (.mv (t 11)),
 o 17 (.ar .add (t 16) (i 1)),
 o 11 (.mv (t 17))]
def f66l12 : SCode := (.seq (.seq (.ops f66r4) (.cond (t 15) .skip (.exit 0))) (.seq (.block 1 (.seq (.seq (.ops f66r5) (.cond (t 25) (.seq (.ops f66r6) (.exit 1)) .skip)) (.seq (.seq (.ops f66r7) (.cond (t 38) (.seq (.ops f66r8) (.ops f66r9)) .skip)) (.ops f66r10)))) (.ops f66r11)))
def f66r13 : List SOper := [
 o 50 (.mv (t 2)),
 o 51 (.mv (t 50)),
 g 52 51 (.mv (t 10)),
 g 53 51 (.un .not (t 52)),
 o 54 (.pick (t 51) (t 53) (b false))]
def f66r14 : List SOper := [
 o 55 (.mv (t 8)),
 o 56 (.ldn 2 (t 4)),
 o 57 (.bslice [(.string ⟨#[]⟩), (.int .i64 0)] 1 [(0, 2)] [(t 56)]),
 o 58 (.app 2 24 [(.string ⟨#[]⟩), (.int .i64 0)] (t 55) (t 57)),
 o 8 (.mv (t 58))]
def f66r15 : List SOper := [
 o 59 (.mv (t 8)),
 o 60 (.mv (t 9)),
 o 6 (.mv (t 59)),
 o 7 (.mv (t 60))]
def f66 : SCode := (.seq (.ops f66r0) (.seq (.ops f66r1) (.seq (.ops f66r2) (.seq (.seq (.ops f66r3) (.block 0 (.loop f66l12))) (.seq (.seq (.ops f66r13) (.cond (t 54) (.ops f66r14) .skip)) (.seq (.ops f66r15) .ret))))))
theorem f66_calls : Sound Tryz.prog 66 61 f66 [.t 6, .t 7] := sound_of mixed Tryz.func66 rfl (by kernel_rfl) (by kernel_rfl) (by kernel_rfl)

end Go.Proofs.YtaffnlibmkcgiaaGreat.C
