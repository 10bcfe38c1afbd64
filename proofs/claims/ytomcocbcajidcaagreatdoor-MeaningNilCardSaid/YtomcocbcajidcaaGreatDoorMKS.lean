/-
  Functions as runs take them. Printed by a program (wip/prun.lean).
-/
import Derived.Test.YtomcocbcajidcaaGreatDoorMKD
import Derived.Test.YtomcocbcajidcaaGreatDoorProg
set_option maxRecDepth 100000
namespace Go.Proofs.YtomcocbcajidcaaGreatDoor.Q
open Go Go.Sx Go.Sx.S

theorem mixed : Tryz.prog.follows .mixedOrders = true := by kernel_rfl

/-! 7: tabor/meaning.Run -/
def f7r0 : List SOper := [
 o 4 (.box (t 1)),
 o 5 (.box (t 2)),
 o 6 (.new [(.int .i64 0), (.int .i64 0), (.string ⟨#[]⟩), (.slice none 0 0), (.slice none 0 0), (.int .i64 0), (.int .i64 0)]),
 o 7 (.mv (i 0))]
def f7r1 : List SOper := [
 o 16 (.mv (t 0)),
 o 17 (.call 13 [(t 16), (.const (.pointer none))]),
 o 15 (.mv (t 17))]
def f7r2 : List SOper := [
 o 18 (.build [(.int .i64 0), (.int .i64 0), (.string ⟨#[]⟩), (.slice none 0 0), (.slice none 0 0), (.int .i64 0), (.int .i64 0)] [] []),
 q (.st 7 (t 6) (t 18)),
 o 7 (.mv (i 1))]
def f7r3 : List SOper := [
 o 20 (.ldn 6 (t 4)),
 o 21 (.call 14 [(t 20)]),
 o 22 (.cmp .neq (t 21) (i 0)),
 o 23 (.mv (t 22)),
 n 24 23 (.fa 0 (t 5)),
 n 25 23 (.ld1 (t 24)),
 n 26 23 (.fa 1 (t 5)),
 n 27 23 (.ld1 (t 26)),
 n 28 23 (.bslice [(.slice none 0 0), (.slice none 0 0)] 2 [(0, 1), (1, 1)] [(t 25), (t 27)]),
 n 29 23 (.call 16 [(t 28)]),
 n 30 23 (.call 15 [(t 29)]),
 n 31 23 (.un .not (t 30)),
 o 32 (.pick (t 23) (b true) (t 31)),
 o 19 (.mv (t 32))]
def f7r4 : List SOper := [
 o 33 (.build [(.int .i64 0), (.int .i64 0), (.string ⟨#[]⟩), (.slice none 0 0), (.slice none 0 0), (.int .i64 0), (.int .i64 0)] [] []),
 q (.st 7 (t 6) (t 33)),
 o 7 (.mv (i 2))]
def f7r5 : List SOper := [
 o 35 (.ldn 6 (t 4)),
 o 36 (.call 17 [(t 35)]),
 o 34 (.mv (t 36)),
 o 37 (.ext (t 34) 0),
 o 38 (.ext (t 34) 1),
 o 39 (.ext (t 34) 2),
 o 8 (.new [(.int .i64 0), (.string ⟨#[]⟩), (.string ⟨#[]⟩), (.int .i64 0), (.slice none 0 0), (.slice none 0 0)]),
 q (.st 6 (t 8) (t 37)),
 o 9 (.mv (t 38)),
 o 10 (.mv (t 39))]
def f7r6 : List SOper := [
 o 40 (.mv (t 10)),
 o 41 (.cmp .neq (t 40) (i 0))]
def f7r7 : List SOper := [
 o 42 (.build [(.int .i64 0), (.int .i64 0), (.string ⟨#[]⟩), (.slice none 0 0), (.slice none 0 0), (.int .i64 0), (.int .i64 0)] [] []),
 o 43 (.mv (t 10)),
 q (.st 7 (t 6) (t 42)),
 o 7 (.mv (t 43))]
def f7r8 : List SOper := [
 o 44 (.fa 3 (t 5)),
 o 45 (.ld1 (t 44)),
 o 46 (.mx (t 45) (i 0)),
 o 47 (.mn (t 46) (i 16777216)),
 o 11 (.mv (t 47))]
def f7t9 : OTree := (.one (o 48 (.mv (t 11)))
 (.one (o 49 (.fa 5 (t 5)))
 (.one (o 54 (.fa 4 (t 5)))
 (.one (o 58 (.mv (t 0)))
 (.one (o 59 (.fa 2 (t 5)))
 (.one (o 64 (.mv (t 9)))
 (.one (o 50 (.ld1 (t 49)))
 (.one (o 51 (.mx (t 50) (i 0)))
 (.chk [o 50 (.ld1 (t 49))] (.one (o 52 (.mn (t 51) (i 200)))
 (.chk [o 50 (.ld1 (t 49))] (.one (o 53 (.build [(.int .i64 0), (.int .i64 0)] [(0, 1), (1, 1)] [(t 48), (t 52)]))
 (.chk [o 50 (.ld1 (t 49))] (.one (o 55 (.ld1 (t 54)))
 (.one (o 56 (.mn (t 55) (i 1048576)))
 (.chk [o 55 (.ld1 (t 54)), o 50 (.ld1 (t 49))] (.one (o 60 (.ld1 (t 59)))
 (.one (o 62 (.ldn 6 (t 8)))
 (.both (.one (o 57 (.call 18 [(t 56)]))
 (.chk [o 62 (.ldn 6 (t 8)), o 60 (.ld1 (t 59)), o 50 (.ld1 (t 49))] (.both (.one (o 61 (.mkm))
 (.chk [o 62 (.ldn 6 (t 8)), o 60 (.ld1 (t 59)), o 50 (.ld1 (t 49))] (.both (.one (q (.mup (.int .i64) (t 61) (i 0) (t 62)))
 (.chk [o 60 (.ld1 (t 59)), o 50 (.ld1 (t 49))] (.one (o 63 (.mv (t 61)))
 (.chk [o 60 (.ld1 (t 59)), o 50 (.ld1 (t 49))] (.one (o 65 (.build [(.int .i64 0), (.int .i64 0), (.pointer none), (.pointer none), (.int .i64 0), (.map none), (.slice none 0 0), (.int .i64 0), (.int .i64 0), (.string ⟨#[]⟩), (.int .i64 0), (.int .i64 0), (.string ⟨#[]⟩), (.slice none 0 0)] [(0, 2), (2, 1), (3, 1), (4, 1), (5, 1), (6, 1)] [(t 53), (t 57), (t 58), (t 60), (t 63), (t 64)]))
 (.chk [o 60 (.ld1 (t 59)), o 50 (.ld1 (t 49))] (.both (.one (o 66 (.box (t 65)))
 (.one (o 12 (.new [(.pointer none)]))
 (.one (q (.st 1 (t 12) (t 66)))
 .done))) (.one (o 12 (.new [(.pointer none)]))
 (.chk [o 60 (.ld1 (t 59)), o 50 (.ld1 (t 49))] (.one (o 66 (.box (t 65)))
 (.one (q (.st 1 (t 12) (t 66)))
 .done))))))))))) (.one (o 12 (.new [(.pointer none)]))
 (.chk [o 62 (.ldn 6 (t 8)), o 60 (.ld1 (t 59)), o 50 (.ld1 (t 49))] (.one (q (.mup (.int .i64) (t 61) (i 0) (t 62)))
 (.chk [o 60 (.ld1 (t 59)), o 50 (.ld1 (t 49))] (.one (o 63 (.mv (t 61)))
 (.chk [o 60 (.ld1 (t 59)), o 50 (.ld1 (t 49))] (.one (o 65 (.build [(.int .i64 0), (.int .i64 0), (.pointer none), (.pointer none), (.int .i64 0), (.map none), (.slice none 0 0), (.int .i64 0), (.int .i64 0), (.string ⟨#[]⟩), (.int .i64 0), (.int .i64 0), (.string ⟨#[]⟩), (.slice none 0 0)] [(0, 2), (2, 1), (3, 1), (4, 1), (5, 1), (6, 1)] [(t 53), (t 57), (t 58), (t 60), (t 63), (t 64)]))
 (.chk [o 60 (.ld1 (t 59)), o 50 (.ld1 (t 49))] (.one (o 66 (.box (t 65)))
 (.one (q (.st 1 (t 12) (t 66)))
 .done))))))))))))) (.one (o 12 (.new [(.pointer none)]))
 (.chk [o 62 (.ldn 6 (t 8)), o 60 (.ld1 (t 59)), o 50 (.ld1 (t 49))] (.one (o 61 (.mkm))
 (.chk [o 62 (.ldn 6 (t 8)), o 60 (.ld1 (t 59)), o 50 (.ld1 (t 49))] (.one (q (.mup (.int .i64) (t 61) (i 0) (t 62)))
 (.chk [o 60 (.ld1 (t 59)), o 50 (.ld1 (t 49))] (.one (o 63 (.mv (t 61)))
 (.chk [o 60 (.ld1 (t 59)), o 50 (.ld1 (t 49))] (.one (o 65 (.build [(.int .i64 0), (.int .i64 0), (.pointer none), (.pointer none), (.int .i64 0), (.map none), (.slice none 0 0), (.int .i64 0), (.int .i64 0), (.string ⟨#[]⟩), (.int .i64 0), (.int .i64 0), (.string ⟨#[]⟩), (.slice none 0 0)] [(0, 2), (2, 1), (3, 1), (4, 1), (5, 1), (6, 1)] [(t 53), (t 57), (t 58), (t 60), (t 63), (t 64)]))
 (.chk [o 60 (.ld1 (t 59)), o 50 (.ld1 (t 49))] (.one (o 66 (.box (t 65)))
 (.one (q (.st 1 (t 12) (t 66)))
 .done))))))))))))))) (.both (.one (o 61 (.mkm))
 (.chk [o 62 (.ldn 6 (t 8)), o 60 (.ld1 (t 59)), o 55 (.ld1 (t 54)), o 50 (.ld1 (t 49))] (.both (.one (o 57 (.call 18 [(t 56)]))
 (.chk [o 62 (.ldn 6 (t 8)), o 60 (.ld1 (t 59)), o 50 (.ld1 (t 49))] (.both (.one (q (.mup (.int .i64) (t 61) (i 0) (t 62)))
 (.chk [o 60 (.ld1 (t 59)), o 50 (.ld1 (t 49))] (.one (o 63 (.mv (t 61)))
 (.chk [o 60 (.ld1 (t 59)), o 50 (.ld1 (t 49))] (.one (o 65 (.build [(.int .i64 0), (.int .i64 0), (.pointer none), (.pointer none), (.int .i64 0), (.map none), (.slice none 0 0), (.int .i64 0), (.int .i64 0), (.string ⟨#[]⟩), (.int .i64 0), (.int .i64 0), (.string ⟨#[]⟩), (.slice none 0 0)] [(0, 2), (2, 1), (3, 1), (4, 1), (5, 1), (6, 1)] [(t 53), (t 57), (t 58), (t 60), (t 63), (t 64)]))
 (.chk [o 60 (.ld1 (t 59)), o 50 (.ld1 (t 49))] (.both (.one (o 66 (.box (t 65)))
 (.one (o 12 (.new [(.pointer none)]))
 (.one (q (.st 1 (t 12) (t 66)))
 .done))) (.one (o 12 (.new [(.pointer none)]))
 (.chk [o 60 (.ld1 (t 59)), o 50 (.ld1 (t 49))] (.one (o 66 (.box (t 65)))
 (.one (q (.st 1 (t 12) (t 66)))
 .done))))))))))) (.one (o 12 (.new [(.pointer none)]))
 (.chk [o 62 (.ldn 6 (t 8)), o 60 (.ld1 (t 59)), o 50 (.ld1 (t 49))] (.one (q (.mup (.int .i64) (t 61) (i 0) (t 62)))
 (.chk [o 60 (.ld1 (t 59)), o 50 (.ld1 (t 49))] (.one (o 63 (.mv (t 61)))
 (.chk [o 60 (.ld1 (t 59)), o 50 (.ld1 (t 49))] (.one (o 65 (.build [(.int .i64 0), (.int .i64 0), (.pointer none), (.pointer none), (.int .i64 0), (.map none), (.slice none 0 0), (.int .i64 0), (.int .i64 0), (.string ⟨#[]⟩), (.int .i64 0), (.int .i64 0), (.string ⟨#[]⟩), (.slice none 0 0)] [(0, 2), (2, 1), (3, 1), (4, 1), (5, 1), (6, 1)] [(t 53), (t 57), (t 58), (t 60), (t 63), (t 64)]))
 (.chk [o 60 (.ld1 (t 59)), o 50 (.ld1 (t 49))] (.one (o 66 (.box (t 65)))
 (.one (q (.st 1 (t 12) (t 66)))
 .done))))))))))))) (.both (.one (q (.mup (.int .i64) (t 61) (i 0) (t 62)))
 (.chk [o 60 (.ld1 (t 59)), o 55 (.ld1 (t 54)), o 50 (.ld1 (t 49))] (.one (o 63 (.mv (t 61)))
 (.chk [o 60 (.ld1 (t 59)), o 55 (.ld1 (t 54)), o 50 (.ld1 (t 49))] (.both (.one (o 57 (.call 18 [(t 56)]))
 (.chk [o 60 (.ld1 (t 59)), o 50 (.ld1 (t 49))] (.one (o 65 (.build [(.int .i64 0), (.int .i64 0), (.pointer none), (.pointer none), (.int .i64 0), (.map none), (.slice none 0 0), (.int .i64 0), (.int .i64 0), (.string ⟨#[]⟩), (.int .i64 0), (.int .i64 0), (.string ⟨#[]⟩), (.slice none 0 0)] [(0, 2), (2, 1), (3, 1), (4, 1), (5, 1), (6, 1)] [(t 53), (t 57), (t 58), (t 60), (t 63), (t 64)]))
 (.chk [o 60 (.ld1 (t 59)), o 50 (.ld1 (t 49))] (.both (.one (o 66 (.box (t 65)))
 (.one (o 12 (.new [(.pointer none)]))
 (.one (q (.st 1 (t 12) (t 66)))
 .done))) (.one (o 12 (.new [(.pointer none)]))
 (.chk [o 60 (.ld1 (t 59)), o 50 (.ld1 (t 49))] (.one (o 66 (.box (t 65)))
 (.one (q (.st 1 (t 12) (t 66)))
 .done))))))))) (.one (o 12 (.new [(.pointer none)]))
 (.chk [o 60 (.ld1 (t 59)), o 55 (.ld1 (t 54)), o 50 (.ld1 (t 49))] (.one (o 57 (.call 18 [(t 56)]))
 (.chk [o 60 (.ld1 (t 59)), o 50 (.ld1 (t 49))] (.one (o 65 (.build [(.int .i64 0), (.int .i64 0), (.pointer none), (.pointer none), (.int .i64 0), (.map none), (.slice none 0 0), (.int .i64 0), (.int .i64 0), (.string ⟨#[]⟩), (.int .i64 0), (.int .i64 0), (.string ⟨#[]⟩), (.slice none 0 0)] [(0, 2), (2, 1), (3, 1), (4, 1), (5, 1), (6, 1)] [(t 53), (t 57), (t 58), (t 60), (t 63), (t 64)]))
 (.chk [o 60 (.ld1 (t 59)), o 50 (.ld1 (t 49))] (.one (o 66 (.box (t 65)))
 (.one (q (.st 1 (t 12) (t 66)))
 .done))))))))))))) (.one (o 12 (.new [(.pointer none)]))
 (.chk [o 62 (.ldn 6 (t 8)), o 60 (.ld1 (t 59)), o 55 (.ld1 (t 54)), o 50 (.ld1 (t 49))] (.both (.one (o 57 (.call 18 [(t 56)]))
 (.chk [o 62 (.ldn 6 (t 8)), o 60 (.ld1 (t 59)), o 50 (.ld1 (t 49))] (.one (q (.mup (.int .i64) (t 61) (i 0) (t 62)))
 (.chk [o 60 (.ld1 (t 59)), o 50 (.ld1 (t 49))] (.one (o 63 (.mv (t 61)))
 (.chk [o 60 (.ld1 (t 59)), o 50 (.ld1 (t 49))] (.one (o 65 (.build [(.int .i64 0), (.int .i64 0), (.pointer none), (.pointer none), (.int .i64 0), (.map none), (.slice none 0 0), (.int .i64 0), (.int .i64 0), (.string ⟨#[]⟩), (.int .i64 0), (.int .i64 0), (.string ⟨#[]⟩), (.slice none 0 0)] [(0, 2), (2, 1), (3, 1), (4, 1), (5, 1), (6, 1)] [(t 53), (t 57), (t 58), (t 60), (t 63), (t 64)]))
 (.chk [o 60 (.ld1 (t 59)), o 50 (.ld1 (t 49))] (.one (o 66 (.box (t 65)))
 (.one (q (.st 1 (t 12) (t 66)))
 .done)))))))))) (.one (q (.mup (.int .i64) (t 61) (i 0) (t 62)))
 (.chk [o 60 (.ld1 (t 59)), o 55 (.ld1 (t 54)), o 50 (.ld1 (t 49))] (.one (o 63 (.mv (t 61)))
 (.chk [o 60 (.ld1 (t 59)), o 55 (.ld1 (t 54)), o 50 (.ld1 (t 49))] (.one (o 57 (.call 18 [(t 56)]))
 (.chk [o 60 (.ld1 (t 59)), o 50 (.ld1 (t 49))] (.one (o 65 (.build [(.int .i64 0), (.int .i64 0), (.pointer none), (.pointer none), (.int .i64 0), (.map none), (.slice none 0 0), (.int .i64 0), (.int .i64 0), (.string ⟨#[]⟩), (.int .i64 0), (.int .i64 0), (.string ⟨#[]⟩), (.slice none 0 0)] [(0, 2), (2, 1), (3, 1), (4, 1), (5, 1), (6, 1)] [(t 53), (t 57), (t 58), (t 60), (t 63), (t 64)]))
 (.chk [o 60 (.ld1 (t 59)), o 50 (.ld1 (t 49))] (.one (o 66 (.box (t 65)))
 (.one (q (.st 1 (t 12) (t 66)))
 .done))))))))))))))))) (.one (o 12 (.new [(.pointer none)]))
 (.chk [o 62 (.ldn 6 (t 8)), o 60 (.ld1 (t 59)), o 55 (.ld1 (t 54)), o 50 (.ld1 (t 49))] (.both (.one (o 57 (.call 18 [(t 56)]))
 (.chk [o 62 (.ldn 6 (t 8)), o 60 (.ld1 (t 59)), o 50 (.ld1 (t 49))] (.one (o 61 (.mkm))
 (.chk [o 62 (.ldn 6 (t 8)), o 60 (.ld1 (t 59)), o 50 (.ld1 (t 49))] (.one (q (.mup (.int .i64) (t 61) (i 0) (t 62)))
 (.chk [o 60 (.ld1 (t 59)), o 50 (.ld1 (t 49))] (.one (o 63 (.mv (t 61)))
 (.chk [o 60 (.ld1 (t 59)), o 50 (.ld1 (t 49))] (.one (o 65 (.build [(.int .i64 0), (.int .i64 0), (.pointer none), (.pointer none), (.int .i64 0), (.map none), (.slice none 0 0), (.int .i64 0), (.int .i64 0), (.string ⟨#[]⟩), (.int .i64 0), (.int .i64 0), (.string ⟨#[]⟩), (.slice none 0 0)] [(0, 2), (2, 1), (3, 1), (4, 1), (5, 1), (6, 1)] [(t 53), (t 57), (t 58), (t 60), (t 63), (t 64)]))
 (.chk [o 60 (.ld1 (t 59)), o 50 (.ld1 (t 49))] (.one (o 66 (.box (t 65)))
 (.one (q (.st 1 (t 12) (t 66)))
 .done)))))))))))) (.one (o 61 (.mkm))
 (.chk [o 62 (.ldn 6 (t 8)), o 60 (.ld1 (t 59)), o 55 (.ld1 (t 54)), o 50 (.ld1 (t 49))] (.both (.one (o 57 (.call 18 [(t 56)]))
 (.chk [o 62 (.ldn 6 (t 8)), o 60 (.ld1 (t 59)), o 50 (.ld1 (t 49))] (.one (q (.mup (.int .i64) (t 61) (i 0) (t 62)))
 (.chk [o 60 (.ld1 (t 59)), o 50 (.ld1 (t 49))] (.one (o 63 (.mv (t 61)))
 (.chk [o 60 (.ld1 (t 59)), o 50 (.ld1 (t 49))] (.one (o 65 (.build [(.int .i64 0), (.int .i64 0), (.pointer none), (.pointer none), (.int .i64 0), (.map none), (.slice none 0 0), (.int .i64 0), (.int .i64 0), (.string ⟨#[]⟩), (.int .i64 0), (.int .i64 0), (.string ⟨#[]⟩), (.slice none 0 0)] [(0, 2), (2, 1), (3, 1), (4, 1), (5, 1), (6, 1)] [(t 53), (t 57), (t 58), (t 60), (t 63), (t 64)]))
 (.chk [o 60 (.ld1 (t 59)), o 50 (.ld1 (t 49))] (.one (o 66 (.box (t 65)))
 (.one (q (.st 1 (t 12) (t 66)))
 .done)))))))))) (.one (q (.mup (.int .i64) (t 61) (i 0) (t 62)))
 (.chk [o 60 (.ld1 (t 59)), o 55 (.ld1 (t 54)), o 50 (.ld1 (t 49))] (.one (o 63 (.mv (t 61)))
 (.chk [o 60 (.ld1 (t 59)), o 55 (.ld1 (t 54)), o 50 (.ld1 (t 49))] (.one (o 57 (.call 18 [(t 56)]))
 (.chk [o 60 (.ld1 (t 59)), o 50 (.ld1 (t 49))] (.one (o 65 (.build [(.int .i64 0), (.int .i64 0), (.pointer none), (.pointer none), (.int .i64 0), (.map none), (.slice none 0 0), (.int .i64 0), (.int .i64 0), (.string ⟨#[]⟩), (.int .i64 0), (.int .i64 0), (.string ⟨#[]⟩), (.slice none 0 0)] [(0, 2), (2, 1), (3, 1), (4, 1), (5, 1), (6, 1)] [(t 53), (t 57), (t 58), (t 60), (t 63), (t 64)]))
 (.chk [o 60 (.ld1 (t 59)), o 50 (.ld1 (t 49))] (.one (o 66 (.box (t 65)))
 (.one (q (.st 1 (t 12) (t 66)))
 .done))))))))))))))))))))))))))))))))))))
def f7r10 : List SOper := [
 o 67 (.ldn 6 (t 8)),
 o 68 (.call 19 [(t 67)])]
def f7r11 : List SOper := [
 o 13 (.new [(.int .i64 0), (.string ⟨#[]⟩), (.string ⟨#[]⟩), (.int .i64 0), (.slice none 0 0), (.slice none 0 0)]),
 q (.st 6 (t 13) (t 69))]
def f7r12 : List SOper := [
 o 70 (.fa 0 (t 13)),
 o 71 (.ld1 (t 70)),
 o 72 (.cmp .eql (t 71) (i 9))]
def f7r13 : List SOper := [
 o 73 (.ld1 (t 12)),
 o 74 (.nilck (t 73)),
 o 75 (.fa 5 (t 74)),
 o 76 (.ld1 (t 75)),
 o 77 (.fa 3 (t 13)),
 o 78 (.ld1 (t 77)),
 o 79 (.fa 5 (t 13)),
 o 80 (.ld1 (t 79)),
 o 81 (.ixs 6 (t 80) (i 0)),
 o 82 (.ldn 6 (t 81)),
 q (.mup (.int .i64) (t 76) (t 78) (t 82))]
def f7a14 : SCode := (.ops f7r11)
def f7b14 : SCode := (.block 2 (.seq (.ops f7r12) (.cond (t 72) (.ops f7r13) .skip)))
def f7r15 : List SOper := [
 o 83 (.ld1 (t 12)),
 o 84 (.ldn 6 (t 5)),
 o 85 (.call 20 [(t 83), (t 84)]),
 o 14 (.new [(.int .i64 0), (.int .i64 0), (.string ⟨#[]⟩), (.slice none 0 0)]),
 q (.st 4 (t 14) (t 85))]
def f7t16 : OTree := (.one (o 91 (.mv (t 11)))
 (.one (o 98 (.ld1 (t 12)))
 (.one (o 99 (.nilck (t 98)))
 (.one (o 100 (.fa 2 (t 99)))
 (.one (o 101 (.ld1 (t 100)))
 (.one (o 86 (.ldn 4 (t 14)))
 (.one (o 87 (.ld1 (t 12)))
 (.one (o 88 (.nilck (t 87)))
 (.chk [o 87 (.ld1 (t 12)), o 86 (.ldn 4 (t 14))] (.one (o 89 (.fa 13 (t 88)))
 (.chk [o 87 (.ld1 (t 12)), o 86 (.ldn 4 (t 14))] (.one (o 90 (.ld1 (t 89)))
 (.one (o 92 (.ld1 (t 12)))
 (.one (o 93 (.nilck (t 92)))
 (.chk [o 92 (.ld1 (t 12)), o 90 (.ld1 (t 89)), o 87 (.ld1 (t 12)), o 86 (.ldn 4 (t 14))] (.one (o 94 (.fa 0 (t 93)))
 (.chk [o 92 (.ld1 (t 12)), o 90 (.ld1 (t 89)), o 87 (.ld1 (t 12)), o 86 (.ldn 4 (t 14))] (.one (o 95 (.fa 0 (t 94)))
 (.chk [o 92 (.ld1 (t 12)), o 90 (.ld1 (t 89)), o 87 (.ld1 (t 12)), o 86 (.ldn 4 (t 14))] (.one (o 96 (.ld1 (t 95)))
 (.one (o 97 (.ar .sub (t 91) (t 96)))
 (.chk [o 96 (.ld1 (t 95)), o 92 (.ld1 (t 12)), o 90 (.ld1 (t 89)), o 87 (.ld1 (t 12)), o 86 (.ldn 4 (t 14))] (.one (o 102 (.call 21 [(t 101)]))
 (.chk [o 96 (.ld1 (t 95)), o 92 (.ld1 (t 12)), o 90 (.ld1 (t 89)), o 87 (.ld1 (t 12)), o 86 (.ldn 4 (t 14))] (.one (o 103 (.build [(.int .i64 0), (.int .i64 0), (.string ⟨#[]⟩), (.slice none 0 0), (.slice none 0 0), (.int .i64 0), (.int .i64 0)] [(0, 4), (4, 1), (5, 1), (6, 1)] [(t 86), (t 90), (t 97), (t 102)]))
 (.chk [o 96 (.ld1 (t 95)), o 92 (.ld1 (t 12)), o 90 (.ld1 (t 89)), o 87 (.ld1 (t 12)), o 86 (.ldn 4 (t 14))] (.one (q (.st 7 (t 6) (t 103)))
 (.one (o 7 (.mv (i 0)))
 .done))))))))))))))))))))))))))))
def f7 : SCode := (.seq (.ops f7r0) (.seq (.block 0 (.seq (.ops f7r1) (.cond (t 15) (.seq (.ops f7r2) .ret) (.seq (.ops f7r3) (.cond (t 19) (.seq (.ops f7r4) .ret) .skip))))) (.seq (.ops f7r5) (.seq (.seq (.ops f7r6) (.cond (t 41) (.seq (.ops f7r7) .ret) .skip)) (.seq (.ops f7r8) (.seq (.tree [48, 49, 50, 51, 52, 53, 54, 55, 56, 57, 58, 59, 60, 61, 62, 63, 64, 65, 66, 12] f7t9) (.seq (.seq (.ops f7r10) (.block 1 (.rangeF (t 68) [69] f7a14 f7b14))) (.seq (.ops f7r15) (.seq (.tree [86, 87, 88, 89, 90, 91, 92, 93, 94, 95, 96, 97, 98, 99, 100, 101, 102, 103, 7] f7t16) .ret)))))))))
def f7_ent : Ent := .code 104 f7 [.cn 6 7, .t 7]
theorem f7_ok (oq : Nat → Value) (F : Nat → Prop) (h0 : Heap) : EntOK Tryz.prog oq F h0 7 f7_ent := ⟨soundD_of (fl := false) mixed Tryz.func7 rfl (by kernel_rfl) (by kernel_rfl) (by kernel_rfl), soundF_of (fl := false) mixed Tryz.func7 rfl (by kernel_rfl) (by kernel_rfl) (by kernel_rfl)⟩

/-! 17: tabor/scopes.Resolve -/
def f17r0 : List SOper := [
 o 1 (.box (t 0)),
 o 2 (.new [(.int .i64 0), (.string ⟨#[]⟩), (.string ⟨#[]⟩), (.int .i64 0), (.slice none 0 0), (.slice none 0 0)]),
 o 3 (.new [(.slice none 0 0)]),
 o 4 (.new [(.int .i64 0)])]
def f17r1 : List SOper := [
 o 6 (.ldn 6 (t 1)),
 o 7 (.call 14 [(t 6)]),
 o 8 (.cmp .neq (t 7) (i 0))]
def f17r2 : List SOper := [
 o 9 (.build [(.int .i64 0), (.string ⟨#[]⟩), (.string ⟨#[]⟩), (.int .i64 0), (.slice none 0 0), (.slice none 0 0)] [] []),
 q (.st 6 (t 2) (t 9)),
 q (.st 1 (t 3) (.const (.slice none 0 0))),
 q (.st 1 (t 4) (i 2))]
def f17r3 : List SOper := [
 o 10 (.fn 32 [] [(t 2), (t 3), (t 4)])]
def f17r4 : List SOper := [
 o 11 (.build [(.string ⟨#[]⟩), (.int .i64 0), (.int .i64 0)] [] []),
 o 12 (.bslice [(.string ⟨#[]⟩), (.int .i64 0), (.int .i64 0)] 1 [(0, 3)] [(t 11)]),
 o 13 (.build [(.slice none 0 0), (.slice none 0 0), (.int .i64 0), (.int .i64 0), (.slice none 0 0)] [(4, 1)] [(t 12)]),
 o 14 (.box (t 13)),
 o 5 (.mv (t 14))]
def f17r5 : List SOper := [
 o 15 (.mv (t 5)),
 o 16 (.ldn 6 (t 1)),
 o 17 (.call 33 [(t 15), (t 16)]),
 q (.st 6 (t 2) (t 17))]
def f17t6 : OTree := (.one (o 18 (.ldn 6 (t 2)))
 (.one (o 19 (.mv (t 5)))
 (.one (o 20 (.nilck (t 19)))
 (.one (o 21 (.fa 4 (t 20)))
 (.one (o 22 (.ld1 (t 21)))
 (.one (q (.st 6 (t 2) (t 18)))
 (.chk [o 22 (.ld1 (t 21))] (.one (q (.st 1 (t 3) (t 22)))
 (.one (q (.st 1 (t 4) (i 0)))
 .done)))))))))
def f17 : SCode := (.seq (.ops f17r0) (.seq (.seq (.ops f17r1) (.cond (t 8) (.seq (.ops f17r2) .ret) .skip)) (.seq (.dfr f17r3 none (t 10) []) (.seq (.ops f17r4) (.seq (.ops f17r5) (.seq (.tree [18, 19, 20, 21, 22] f17t6) .ret))))))
def f17_ent : Ent := .code 23 f17 [.cn 2 6, .c1 3, .c1 4]
theorem f17_ok (oq : Nat → Value) (F : Nat → Prop) (h0 : Heap) : EntOK Tryz.prog oq F h0 17 f17_ent := ⟨soundD_of (fl := false) mixed Tryz.func17 rfl (by kernel_rfl) (by kernel_rfl) (by kernel_rfl), soundF_of (fl := false) mixed Tryz.func17 rfl (by kernel_rfl) (by kernel_rfl) (by kernel_rfl)⟩

/-! 20: (*tabor/meaning.run).done -/
def f20r0 : List SOper := [
 o 3 (.box (t 1)),
 o 4 (.new [(.int .i64 0), (.int .i64 0), (.string ⟨#[]⟩), (.slice none 0 0)])]
def f20r1 : List SOper := [
 o 6 (.fn 36 [] [(t 4)])]
def f20t2 : OTree := (.one (o 7 (.mv (t 0)))
 (.one (o 8 (.mv (t 0)))
 (.one (o 9 (.mv (t 0)))
 (.one (o 10 (.fa 0 (t 3)))
 (.one (o 11 (.ld1 (t 10)))
 (.one (o 13 (.mv (t 0)))
 (.one (o 14 (.fa 1 (t 3)))
 (.one (o 15 (.ld1 (t 14)))
 (.one (o 12 (.call 38 [(t 9), (t 11)]))
 (.chk [o 15 (.ld1 (t 14))] (.one (o 16 (.call 38 [(t 13), (t 15)]))
 (.one (o 17 (.nilck (t 7)))
 (.one (o 18 (.fa 7 (t 17)))
 (.one (q (.st 3 (t 18) (t 12)))
 (.one (o 19 (.nilck (t 8)))
 (.one (o 20 (.fa 10 (t 19)))
 (.one (q (.st 3 (t 20) (t 16)))
 .done)))))))))))))))))
def f20t3 : OTree := (.one (o 22 (.mv (t 0)))
 (.one (o 23 (.nilck (t 22)))
 (.one (o 24 (.fa 2 (t 23)))
 (.one (o 26 (.mv (t 0)))
 (.one (o 25 (.ld1 (t 24)))
 (.one (o 27 (.call 40 [(t 26), (i 0), (.const (.slice none 0 0))]))
 (.chk [o 25 (.ld1 (t 24))] (.one (o 28 (.call 39 [(t 25), (t 27)]))
 (.one (o 21 (.mv (t 28)))
 (.one (o 29 (.ext (t 21) 0))
 (.one (o 30 (.ext (t 21) 1))
 (.one (q (.st 4 (t 4) (t 29)))
 (.one (o 5 (.mv (t 30)))
 .done)))))))))))))
def f20r4 : List SOper := [
 o 31 (.mv (t 5)),
 o 32 (.call 41 [(t 31)])]
def f20r5 : List SOper := [
 o 33 (.ldn 4 (t 4)),
 q (.st 4 (t 4) (t 33))]
def f20 : SCode := (.seq (.ops f20r0) (.seq (.dfr f20r1 none (t 6) []) (.seq (.tree [7, 8, 9, 10, 11, 12, 13, 14, 15, 16, 17, 18, 19, 20] f20t2) (.seq (.tree [22, 23, 24, 25, 26, 27, 28, 21, 29, 30, 5] f20t3) (.seq (.ops f20r4) (.seq (.ops f20r5) .ret))))))
def f20_ent : Ent := .code 34 f20 [.cn 4 4]
theorem f20_ok (oq : Nat → Value) (F : Nat → Prop) (h0 : Heap) : EntOK Tryz.prog oq F h0 20 f20_ent := ⟨soundD_of (fl := false) mixed Tryz.func20 rfl (by kernel_rfl) (by kernel_rfl) (by kernel_rfl), soundF_of (fl := false) mixed Tryz.func20 rfl (by kernel_rfl) (by kernel_rfl) (by kernel_rfl)⟩

/-! 22: tabor/syntax.Parse -/
def f22r0 : List SOper := [
 o 2 (.new [(.int .i64 0), (.string ⟨#[]⟩), (.string ⟨#[]⟩), (.int .i64 0), (.slice none 0 0), (.slice none 0 0)]),
 o 3 (.new [(.int .i64 0)]),
 o 4 (.new [(.int .i64 0)])]
def f22r1 : List SOper := [
 o 8 (.mv (t 0)),
 o 9 (.call 42 [(t 8)]),
 o 7 (.mv (t 9)),
 o 10 (.ext (t 7) 0),
 o 11 (.ext (t 7) 1),
 o 12 (.ext (t 7) 2),
 o 5 (.mv (t 10)),
 q (.st 1 (t 3) (t 11)),
 q (.st 1 (t 4) (t 12))]
def f22r2 : List SOper := [
 o 13 (.ld1 (t 4)),
 o 14 (.cmp .neq (t 13) (i 0))]
def f22t3 : OTree := (.one (o 15 (.build [(.int .i64 0), (.string ⟨#[]⟩), (.string ⟨#[]⟩), (.int .i64 0), (.slice none 0 0), (.slice none 0 0)] [] []))
 (.one (o 16 (.ld1 (t 3)))
 (.one (o 17 (.ld1 (t 4)))
 (.one (q (.st 6 (t 2) (t 15)))
 (.chk [o 17 (.ld1 (t 4)), o 16 (.ld1 (t 3))] (.one (q (.st 1 (t 3) (t 16)))
 (.chk [o 17 (.ld1 (t 4))] (.one (q (.st 1 (t 4) (t 17)))
 .done))))))))
def f22r4 : List SOper := [
 o 18 (.fn 43 [] [(t 2), (t 3), (t 4)])]
def f22r5 : List SOper := [
 o 19 (.mv (t 5)),
 o 20 (.mv (t 0)),
 o 21 (.lens (t 20)),
 o 22 (.build [(.slice none 0 0), (.int .i64 0), (.int .i64 0), (.int .i64 0)] [(0, 1), (2, 1)] [(t 19), (t 21)]),
 o 23 (.box (t 22)),
 o 6 (.mv (t 23))]
def f22r6 : List SOper := [
 o 24 (.mv (t 6)),
 o 25 (.call 44 [(t 24)]),
 q (.st 6 (t 2) (t 25))]
def f22r7 : List SOper := [
 o 26 (.mv (t 6)),
 o 27 (.mv (t 6)),
 o 28 (.nilck (t 27)),
 o 29 (.fa 1 (t 28)),
 o 30 (.ld1 (t 29)),
 o 31 (.mv (t 6)),
 o 32 (.nilck (t 31)),
 o 33 (.fa 0 (t 32)),
 o 34 (.ld1 (t 33)),
 o 35 (.len (t 34)),
 o 36 (.cmp .eql (t 30) (t 35)),
 o 37 (.call 45 [(t 26), (t 36)])]
def f22r8 : List SOper := [
 o 38 (.ldn 6 (t 2)),
 o 39 (.call 14 [(t 38)]),
 o 40 (.cmp .neq (t 39) (i 0))]
def f22r9 : List SOper := [
 o 41 (.build [(.int .i64 0), (.string ⟨#[]⟩), (.string ⟨#[]⟩), (.int .i64 0), (.slice none 0 0), (.slice none 0 0)] [] []),
 q (.st 6 (t 2) (t 41)),
 q (.st 1 (t 3) (i 0)),
 q (.st 1 (t 4) (i 221))]
def f22r10 : List SOper := [
 o 42 (.ldn 6 (t 2)),
 q (.st 6 (t 2) (t 42)),
 q (.st 1 (t 3) (i 0)),
 q (.st 1 (t 4) (i 0))]
def f22 : SCode := (.seq (.ops f22r0) (.seq (.ops f22r1) (.seq (.seq (.ops f22r2) (.cond (t 14) (.seq (.tree [15, 16, 17] f22t3) .ret) .skip)) (.seq (.dfr f22r4 none (t 18) []) (.seq (.ops f22r5) (.seq (.ops f22r6) (.seq (.ops f22r7) (.seq (.seq (.ops f22r8) (.cond (t 40) (.seq (.ops f22r9) .ret) .skip)) (.seq (.ops f22r10) .ret)))))))))
def f22_ent : Ent := .code 43 f22 [.cn 2 6, .c1 3, .c1 4]
theorem f22_ok (oq : Nat → Value) (F : Nat → Prop) (h0 : Heap) : EntOK Tryz.prog oq F h0 22 f22_ent := ⟨soundD_of (fl := false) mixed Tryz.func22 rfl (by kernel_rfl) (by kernel_rfl) (by kernel_rfl), soundF_of (fl := false) mixed Tryz.func22 rfl (by kernel_rfl) (by kernel_rfl) (by kernel_rfl)⟩

/-! 28: tabor/syntax.may -/
def f28r0 : List SOper := [
 o 1 (.box (t 0)),
 o 2 (.mv (b false))]
def f28r1 : List SOper := [
 o 5 (.fa 5 (t 1)),
 o 6 (.ld1 (t 5)),
 o 7 (.call 49 [(t 6), (u 51)])]
def f28r2 : List SOper := [
 o 2 (.mv (b false))]
def f28r3 : List SOper := [
 o 8 (.fa 0 (t 1)),
 o 9 (.ld1 (t 8)),
 o 10 (.cmp .eql (t 9) (i 0))]
def f28r4 : List SOper := [
 o 11 (.fa 1 (t 1)),
 o 12 (.ld1 (t 11)),
 o 13 (.cmp .eql (t 12) e),
 o 14 (.mv (t 13)),
 g 15 14 (.fa 2 (t 1)),
 g 16 14 (.ld1 (t 15)),
 g 17 14 (.cmp .eql (t 16) e),
 o 18 (.pick (t 14) (t 17) (b false)),
 o 19 (.mv (t 18)),
 g 20 19 (.fa 3 (t 1)),
 g 21 19 (.ld1 (t 20)),
 g 22 19 (.cmp .eql (t 21) (i 0)),
 o 23 (.pick (t 19) (t 22) (b false)),
 o 24 (.mv (t 23)),
 g 25 24 (.fa 4 (t 1)),
 g 26 24 (.ld1 (t 25)),
 g 27 24 (.len (t 26)),
 g 28 24 (.cmp .eql (t 27) (i 0)),
 o 29 (.pick (t 24) (t 28) (b false)),
 o 30 (.mv (t 29)),
 g 31 30 (.fa 5 (t 1)),
 g 32 30 (.ld1 (t 31)),
 g 33 30 (.call 52 [(t 32)]),
 o 34 (.pick (t 30) (t 33) (b false)),
 o 2 (.mv (t 34))]
def f28t5 : OTree := (.one (o 37 (.fa 0 (t 1)))
 (.one (o 38 (.ld1 (t 37)))
 (.both (.one (o 36 (.call 53 []))
 (.chk [o 38 (.ld1 (t 37))] (.one (o 39 (.look (.int .i64) (.agg #[(.bool false), (.bool false), (.bool false), (.bool false), (.int .i64 0), (.int .i64 0), (.bool false), .nilFunc]) true (t 36) (t 38)))
 (.chk [o 38 (.ld1 (t 37))] (.one (o 35 (.mv (t 39)))
 (.chk [o 38 (.ld1 (t 37))] (.one (o 40 (.ext (t 35) 0))
 (.chk [o 38 (.ld1 (t 37))] (.one (o 41 (.ext (t 35) 1))
 (.chk [o 38 (.ld1 (t 37))] (.one (o 3 (.new [(.bool false), (.bool false), (.bool false), (.bool false), (.int .i64 0), (.int .i64 0), (.bool false), .nilFunc]))
 (.chk [o 38 (.ld1 (t 37))] (.one (q (.st 8 (t 3) (t 40)))
 (.one (o 4 (.mv (t 41)))
 .done)))))))))))))) (.one (o 3 (.new [(.bool false), (.bool false), (.bool false), (.bool false), (.int .i64 0), (.int .i64 0), (.bool false), .nilFunc]))
 (.chk [o 38 (.ld1 (t 37))] (.one (o 36 (.call 53 []))
 (.chk [o 38 (.ld1 (t 37))] (.one (o 39 (.look (.int .i64) (.agg #[(.bool false), (.bool false), (.bool false), (.bool false), (.int .i64 0), (.int .i64 0), (.bool false), .nilFunc]) true (t 36) (t 38)))
 (.chk [o 38 (.ld1 (t 37))] (.one (o 35 (.mv (t 39)))
 (.chk [o 38 (.ld1 (t 37))] (.one (o 40 (.ext (t 35) 0))
 (.chk [o 38 (.ld1 (t 37))] (.one (o 41 (.ext (t 35) 1))
 (.chk [o 38 (.ld1 (t 37))] (.one (q (.st 8 (t 3) (t 40)))
 (.one (o 4 (.mv (t 41)))
 .done)))))))))))))))))
def f28r6 : List SOper := [
 o 43 (.mv (t 4)),
 o 44 (.un .not (t 43)),
 o 45 (.mv (t 44)),
 n 46 45 (.fa 7 (t 3)),
 n 47 45 (.ld1 (t 46)),
 n 48 45 (.fa 5 (t 1)),
 n 49 45 (.ld1 (t 48)),
 n 50 45 (.callv (t 47) [(t 49)]),
 n 51 45 (.un .not (t 50)),
 o 52 (.pick (t 45) (b true) (t 51)),
 o 53 (.mv (t 52)),
 n 54 53 (.fa 4 (t 1)),
 n 55 53 (.ld1 (t 54)),
 n 56 53 (.len (t 55)),
 n 57 53 (.fa 4 (t 3)),
 n 58 53 (.ld1 (t 57)),
 n 59 53 (.cmp .lss (t 56) (t 58)),
 o 60 (.pick (t 53) (b true) (t 59)),
 o 61 (.mv (t 60)),
 n 62 61 (.fa 4 (t 1)),
 n 63 61 (.ld1 (t 62)),
 n 64 61 (.len (t 63)),
 n 65 61 (.fa 5 (t 3)),
 n 66 61 (.ld1 (t 65)),
 n 67 61 (.cmp .gtr (t 64) (t 66)),
 o 68 (.pick (t 61) (b true) (t 67)),
 o 69 (.mv (t 68)),
 n 70 69 (.fa 4 (t 1)),
 n 71 69 (.ld1 (t 70)),
 n 72 69 (.call 29 [(t 71), (u 54)]),
 o 73 (.pick (t 69) (b true) (t 72)),
 o 42 (.mv (t 73))]
def f28r7 : List SOper := [
 o 2 (.mv (b false))]
def f28r8 : List SOper := [
 o 75 (.fa 0 (t 3)),
 o 76 (.ld1 (t 75)),
 o 77 (.mv (t 76)),
 g 78 77 (.fa 1 (t 1)),
 g 79 77 (.ld1 (t 78)),
 g 80 77 (.call 55 [(t 79)]),
 g 81 77 (.un .not (t 80)),
 o 82 (.pick (t 77) (t 81) (b false)),
 o 83 (.mv (t 82)),
 n 84 83 (.fa 1 (t 3)),
 n 85 83 (.ld1 (t 84)),
 n 86 83 (.mv (t 85)),
 g 87 86 (.fa 1 (t 1)),
 g 88 86 (.ld1 (t 87)),
 g 89 86 (.call 56 [(t 88)]),
 g 90 86 (.un .not (t 89)),
 n 91 83 (.pick (t 86) (t 90) (b false)),
 o 92 (.pick (t 83) (b true) (t 91)),
 o 93 (.mv (t 92)),
 n 94 93 (.fa 0 (t 3)),
 n 95 93 (.ld1 (t 94)),
 n 96 93 (.un .not (t 95)),
 n 97 93 (.mv (t 96)),
 g 98 97 (.fa 1 (t 3)),
 g 99 97 (.ld1 (t 98)),
 g 100 97 (.un .not (t 99)),
 n 101 93 (.pick (t 97) (t 100) (b false)),
 n 102 93 (.mv (t 101)),
 g 103 102 (.fa 1 (t 1)),
 g 104 102 (.ld1 (t 103)),
 g 105 102 (.cmp .neq (t 104) e),
 n 106 93 (.pick (t 102) (t 105) (b false)),
 o 107 (.pick (t 93) (b true) (t 106)),
 o 74 (.mv (t 107))]
def f28r9 : List SOper := [
 o 2 (.mv (b false))]
def f28r10 : List SOper := [
 o 109 (.fa 2 (t 3)),
 o 110 (.ld1 (t 109)),
 o 111 (.un .not (t 110)),
 o 112 (.mv (t 111)),
 g 113 112 (.fa 2 (t 1)),
 g 114 112 (.ld1 (t 113)),
 g 115 112 (.cmp .neq (t 114) e),
 o 116 (.pick (t 112) (t 115) (b false)),
 o 117 (.mv (t 116)),
 n 118 117 (.fa 3 (t 3)),
 n 119 117 (.ld1 (t 118)),
 n 120 117 (.un .not (t 119)),
 n 121 117 (.mv (t 120)),
 g 122 121 (.fa 3 (t 1)),
 g 123 121 (.ld1 (t 122)),
 g 124 121 (.cmp .neq (t 123) (i 0)),
 n 125 117 (.pick (t 121) (t 124) (b false)),
 o 126 (.pick (t 117) (b true) (t 125)),
 o 127 (.mv (t 126)),
 n 128 127 (.fa 3 (t 1)),
 n 129 127 (.ld1 (t 128)),
 n 130 127 (.cmp .lss (t 129) (i 0)),
 o 131 (.pick (t 127) (b true) (t 130)),
 o 108 (.mv (t 131))]
def f28r11 : List SOper := [
 o 2 (.mv (b false))]
def f28r12 : List SOper := [
 o 132 (.fa 0 (t 1)),
 o 133 (.ld1 (t 132)),
 o 134 (.cmp .neq (t 133) (i 1)),
 o 135 (.mv (t 134)),
 n 136 135 (.fa 5 (t 1)),
 n 137 135 (.ld1 (t 136)),
 n 138 135 (.len (t 137)),
 n 139 135 (.fa 4 (t 1)),
 n 140 135 (.ld1 (t 139)),
 n 141 135 (.len (t 140)),
 n 142 135 (.cmp .leq (t 138) (t 141)),
 o 143 (.pick (t 135) (b true) (t 142)),
 o 2 (.mv (t 143))]
def f28 : SCode := (.seq (.ops f28r0) (.seq (.seq (.ops f28r1) (.cond (t 7) (.seq (.ops f28r2) .ret) .skip)) (.seq (.seq (.ops f28r3) (.cond (t 10) (.seq (.ops f28r4) .ret) .skip)) (.seq (.tree [36, 37, 38, 39, 35, 40, 41, 3, 4] f28t5) (.seq (.block 0 (.seq (.ops f28r6) (.cond (t 42) (.seq (.ops f28r7) .ret) (.seq (.ops f28r8) (.cond (t 74) (.seq (.ops f28r9) .ret) (.seq (.ops f28r10) (.cond (t 108) (.seq (.ops f28r11) .ret) .skip))))))) (.seq (.ops f28r12) .ret))))))
def f28_ent : Ent := .code 144 f28 [.t 2]
theorem f28_ok (oq : Nat → Value) (F : Nat → Prop) (h0 : Heap) : EntOK Tryz.prog oq F h0 28 f28_ent := ⟨soundD_of (fl := false) mixed Tryz.func28 rfl (by kernel_rfl) (by kernel_rfl) (by kernel_rfl), soundF_of (fl := false) mixed Tryz.func28 rfl (by kernel_rfl) (by kernel_rfl) (by kernel_rfl)⟩

/-! 32: tabor/scopes.Resolve$1 -/
def f32r0 : List SOper := [
 o 8 (.eqn 4 false (t 6))]
def f32r1 : List SOper := [
 o 3 (.mv (t 6))]
def f32r2 : List SOper := [
 o 9 (.tas 102 (.agg #[(.int .i64 0)]) true (t 6)),
 o 10 (.ext (t 9) 1),
 o 11 (.ext (t 9) 0)]
def f32r3 : List SOper := [
 o 4 (.new [(.int .i64 0)]),
 q (.st 1 (t 4) (t 11))]
def f32t4 : OTree := (.one (o 12 (.build [(.int .i64 0), (.string ⟨#[]⟩), (.string ⟨#[]⟩), (.int .i64 0), (.slice none 0 0), (.slice none 0 0)] [] []))
 (.one (o 13 (.fa 0 (t 4)))
 (.one (o 14 (.ld1 (t 13)))
 (.one (q (.st 6 (t 0) (t 12)))
 (.chk [o 14 (.ld1 (t 13))] (.one (q (.st 1 (t 1) (.const (.slice none 0 0))))
 (.chk [o 14 (.ld1 (t 13))] (.one (q (.st 1 (t 2) (t 14)))
 .done))))))))
def f32r5 : List SOper := [
 o 5 (.mv (t 6))]
def f32r6 : List SOper := [
 o 7 (.mv (t 5)),
 q (.pan (t 7))]
def f32 : SCode := (.seq (.rcv (some 6)) (.block 0 (.seq (.ops f32r0) (.cond (t 8) (.ops f32r1) (.seq (.ops f32r2) (.cond (t 10) (.seq (.ops f32r3) (.tree [12, 13, 14] f32t4)) (.seq (.ops f32r5) (.ops f32r6))))))))
def f32_ent : Ent := .code 15 f32 []
theorem f32_ok (oq : Nat → Value) (F : Nat → Prop) (h0 : Heap) : EntOK Tryz.prog oq F h0 32 f32_ent := ⟨soundD_of (fl := false) mixed Tryz.func32 rfl (by kernel_rfl) (by kernel_rfl) (by kernel_rfl), soundF_of (fl := false) mixed Tryz.func32 rfl (by kernel_rfl) (by kernel_rfl) (by kernel_rfl)⟩

/-! 33: (*tabor/scopes.walker).node -/
def f33r0 : List SOper := [
 o 2 (.box (t 0)),
 o 3 (.box (t 1)),
 o 4 (.new [(.int .i64 0), (.string ⟨#[]⟩), (.string ⟨#[]⟩), (.int .i64 0), (.slice none 0 0), (.slice none 0 0)])]
def f33r1 : List SOper := [
 o 7 (.fa 4 (t 3)),
 o 8 (.ld1 (t 7)),
 o 9 (.call 58 [(t 8)]),
 o 10 (.fa 4 (t 3)),
 q (.st 1 (t 10) (t 9))]
def f33r2 : List SOper := [
 o 11 (.fa 0 (t 3)),
 o 12 (.ld1 (t 11))]
def f33r3 : List SOper := [
 o 14 (.cmp .eql (t 12) (i 0)),
 o 13 (.mv (t 14))]
def f33r4 : List SOper := [
 o 15 (.ld1 (t 2)),
 o 16 (.fn 60 [] [(t 2), (t 3)]),
 o 17 (.call 59 [(t 15), (t 16)])]
def f33r5 : List SOper := [
 o 18 (.ldn 6 (t 3)),
 q (.st 6 (t 4) (t 18))]
def f33r6 : List SOper := [
 o 20 (.cmp .eql (t 12) (i 1)),
 o 19 (.mv (t 20))]
def f33r7 : List SOper := [
 o 21 (.ld1 (t 2)),
 o 22 (.fa 5 (t 3)),
 o 23 (.ld1 (t 22)),
 o 24 (.call 61 [(t 21), (t 23)]),
 o 25 (.fa 5 (t 3)),
 q (.st 1 (t 25) (t 24))]
def f33r8 : List SOper := [
 o 26 (.ld1 (t 2)),
 o 27 (.fa 4 (t 3)),
 o 28 (.ld1 (t 27)),
 o 29 (.call 62 [(t 26), (t 28)]),
 o 30 (.fa 3 (t 3)),
 q (.st 1 (t 30) (t 29))]
def f33r9 : List SOper := [
 o 31 (.ldn 6 (t 3)),
 q (.st 6 (t 4) (t 31))]
def f33r10 : List SOper := [
 o 33 (.cmp .eql (t 12) (i 9)),
 o 32 (.mv (t 33))]
def f33r11 : List SOper := [
 o 34 (.ld1 (t 2)),
 o 35 (.ldn 6 (t 3)),
 o 36 (.call 63 [(t 34), (t 35)]),
 q (.st 6 (t 4) (t 36))]
def f33r12 : List SOper := [
 o 38 (.cmp .eql (t 12) (i 6)),
 o 37 (.mv (t 38))]
def f33r13 : List SOper := [
 o 39 (.ld1 (t 2)),
 o 40 (.ldn 6 (t 3)),
 o 41 (.call 64 [(t 39), (t 40)]),
 q (.st 6 (t 4) (t 41))]
def f33r14 : List SOper := [
 o 43 (.cmp .eql (t 12) (i 5)),
 o 42 (.mv (t 43))]
def f33t15 : OTree := (.one (o 44 (.ld1 (t 2)))
 (.one (o 45 (.fa 5 (t 3)))
 (.one (o 46 (.ld1 (t 45)))
 (.one (o 47 (.ixs 6 (t 46) (i 0)))
 (.one (o 48 (.ldn 6 (t 47)))
 (.both (.one (o 49 (.call 33 [(t 44), (t 48)]))
 (.one (o 5 (.new [(.int .i64 0), (.string ⟨#[]⟩), (.string ⟨#[]⟩), (.int .i64 0), (.slice none 0 0), (.slice none 0 0)]))
 (.one (q (.st 6 (t 5) (t 49)))
 .done))) (.one (o 5 (.new [(.int .i64 0), (.string ⟨#[]⟩), (.string ⟨#[]⟩), (.int .i64 0), (.slice none 0 0), (.slice none 0 0)]))
 (.one (o 49 (.call 33 [(t 44), (t 48)]))
 (.one (q (.st 6 (t 5) (t 49)))
 .done)))))))))
def f33r16 : List SOper := [
 o 50 (.ld1 (t 2)),
 o 51 (.nilck (t 50)),
 o 52 (.fa 0 (t 51)),
 o 53 (.fa 3 (t 52)),
 o 54 (.ld1 (t 53)),
 o 55 (.ar .add (t 54) (i 1)),
 o 56 (.nilck (t 50)),
 o 57 (.fa 0 (t 56)),
 o 58 (.fa 3 (t 57)),
 q (.st 1 (t 58) (t 55))]
def f33t17 : OTree := (.one (o 60 (.ld1 (t 2)))
 (.one (o 61 (.fa 5 (t 3)))
 (.one (o 62 (.ld1 (t 61)))
 (.one (o 63 (.ixs 6 (t 62) (i 1)))
 (.one (o 64 (.ldn 6 (t 63)))
 (.one (o 59 (.ldn 6 (t 5)))
 (.one (o 65 (.call 33 [(t 60), (t 64)]))
 (.chk [o 59 (.ldn 6 (t 5))] (.one (o 66 (.bslice [(.int .i64 0), (.string ⟨#[]⟩), (.string ⟨#[]⟩), (.int .i64 0), (.slice none 0 0), (.slice none 0 0), (.int .i64 0), (.string ⟨#[]⟩), (.string ⟨#[]⟩), (.int .i64 0), (.slice none 0 0), (.slice none 0 0)] 2 [(0, 6), (6, 6)] [(t 59), (t 65)]))
 (.one (o 67 (.fa 5 (t 3)))
 (.one (q (.st 1 (t 67) (t 66)))
 .done)))))))))))
def f33r18 : List SOper := [
 o 68 (.ld1 (t 2)),
 o 69 (.nilck (t 68)),
 o 70 (.fa 0 (t 69)),
 o 71 (.fa 3 (t 70)),
 o 72 (.ld1 (t 71)),
 o 73 (.ar .sub (t 72) (i 1)),
 o 74 (.nilck (t 68)),
 o 75 (.fa 0 (t 74)),
 o 76 (.fa 3 (t 75)),
 q (.st 1 (t 76) (t 73))]
def f33r19 : List SOper := [
 o 77 (.ldn 6 (t 3)),
 q (.st 6 (t 4) (t 77))]
def f33r20 : List SOper := [
 o 79 (.cmp .eql (t 12) (i 8)),
 o 78 (.mv (t 79))]
def f33r21 : List SOper := [
 o 80 (.ld1 (t 2)),
 o 81 (.nilck (t 80)),
 o 82 (.fa 0 (t 81)),
 o 83 (.fa 3 (t 82)),
 o 84 (.ld1 (t 83)),
 o 85 (.cmp .gtr (t 84) (i 0)),
 o 86 (.call 65 [(t 85), (i 232)])]
def f33r22 : List SOper := [
 o 88 (.cmp .eql (t 12) (i 15)),
 o 87 (.mv (t 88))]
def f33r23 : List SOper := [
 o 89 (.ld1 (t 2)),
 o 90 (.fa 1 (t 3)),
 o 91 (.ld1 (t 90)),
 o 92 (.call 66 [(t 89), (t 91)]),
 o 93 (.fa 3 (t 3)),
 q (.st 1 (t 93) (t 92))]
def f33r24 : List SOper := [
 o 95 (.cmp .eql (t 12) (i 17)),
 o 94 (.mv (t 95))]
def f33r25 : List SOper := [
 o 96 (.ld1 (t 2)),
 o 97 (.fa 1 (t 3)),
 o 98 (.ld1 (t 97)),
 o 99 (.fa 5 (t 3)),
 o 100 (.ld1 (t 99)),
 o 101 (.len (t 100)),
 o 102 (.call 67 [(t 96), (t 98), (t 101)]),
 o 103 (.fa 3 (t 3)),
 q (.st 1 (t 103) (t 102))]
def f33r26 : List SOper := [
 o 105 (.cmp .eql (t 12) (i 2)),
 o 104 (.mv (t 105))]
def f33r27 : List SOper := [
 o 106 (.fa 5 (t 3)),
 o 107 (.ld1 (t 106)),
 o 108 (.ixs 6 (t 107) (i 0)),
 o 109 (.ldn 6 (t 108)),
 o 6 (.new [(.int .i64 0), (.string ⟨#[]⟩), (.string ⟨#[]⟩), (.int .i64 0), (.slice none 0 0), (.slice none 0 0)]),
 q (.st 6 (t 6) (t 109))]
def f33r28 : List SOper := [
 o 110 (.fa 0 (t 6)),
 o 111 (.ld1 (t 110)),
 o 112 (.cmp .neq (t 111) (i 15)),
 o 113 (.mv (t 112)),
 n 114 113 (.ld1 (t 2)),
 n 115 113 (.fa 1 (t 6)),
 n 116 113 (.ld1 (t 115)),
 n 117 113 (.call 66 [(t 114), (t 116)]),
 n 118 113 (.cmp .geq (t 117) (i 0)),
 o 119 (.pick (t 113) (b true) (t 118)),
 o 120 (.call 65 [(t 119), (i 234)])]
def f33r29 : List SOper := [
 o 121 (.ld1 (t 2)),
 o 122 (.fa 5 (t 3)),
 o 123 (.ld1 (t 122)),
 o 124 (.call 61 [(t 121), (t 123)]),
 o 125 (.fa 5 (t 3)),
 q (.st 1 (t 125) (t 124))]
def f33r30 : List SOper := [
 o 126 (.ldn 6 (t 3)),
 q (.st 6 (t 4) (t 126))]
def f33 : SCode := (.seq (.ops f33r0) (.seq (.ops f33r1) (.seq (.seq (.ops f33r2) (.block 0 (.seq (.ops f33r3) (.cond (t 13) (.seq (.ops f33r4) (.seq (.ops f33r5) .ret)) (.seq (.ops f33r6) (.cond (t 19) (.seq (.ops f33r7) (.seq (.ops f33r8) (.seq (.ops f33r9) .ret))) (.seq (.ops f33r10) (.cond (t 32) (.seq (.ops f33r11) .ret) (.seq (.ops f33r12) (.cond (t 37) (.seq (.ops f33r13) .ret) (.seq (.ops f33r14) (.cond (t 42) (.seq (.tree [44, 45, 46, 47, 48, 49, 5] f33t15) (.seq (.ops f33r16) (.seq (.tree [59, 60, 61, 62, 63, 64, 65, 66, 67] f33t17) (.seq (.ops f33r18) (.seq (.ops f33r19) .ret))))) (.seq (.ops f33r20) (.cond (t 78) (.ops f33r21) (.seq (.ops f33r22) (.cond (t 87) (.ops f33r23) (.seq (.ops f33r24) (.cond (t 94) (.ops f33r25) (.seq (.ops f33r26) (.cond (t 104) (.seq (.ops f33r27) (.ops f33r28)) .skip)))))))))))))))))))) (.seq (.ops f33r29) (.seq (.ops f33r30) .ret)))))
def f33_ent : Ent := .code 127 f33 [.cn 4 6]
theorem f33_ok (oq : Nat → Value) (F : Nat → Prop) (h0 : Heap) : EntOK Tryz.prog oq F h0 33 f33_ent := ⟨soundD_of (fl := false) mixed Tryz.func33 rfl (by kernel_rfl) (by kernel_rfl) (by kernel_rfl), soundF_of (fl := false) mixed Tryz.func33 rfl (by kernel_rfl) (by kernel_rfl) (by kernel_rfl)⟩

/-! 38: (*tabor/meaning.run).list -/
def f38r0 : List SOper := [
 o 4 (.new [(.int .i64 0), (.int .i64 0), (.string ⟨#[]⟩)])]
def f38r1 : List SOper := [
 o 10 (.mv (t 0)),
 o 11 (.nilck (t 10)),
 o 12 (.fa 2 (t 11)),
 o 13 (.ld1 (t 12)),
 o 14 (.call 68 [(t 13)]),
 o 9 (.mv (t 14)),
 o 15 (.ext (t 9) 0),
 o 16 (.ext (t 9) 1),
 o 5 (.new [(.int .i64 0), (.int .i64 0), (.string ⟨#[]⟩)]),
 q (.st 3 (t 5) (t 15)),
 o 6 (.mv (t 16))]
def f38r2 : List SOper := [
 o 17 (.mv (t 6)),
 o 18 (.call 41 [(t 17)])]
def f38r3 : List SOper := [
 o 19 (.mv (t 1)),
 o 20 (.len (t 19)),
 o 21 (.mv (i 0))]
def f38r4 : List SOper := [
 o 22 (.cmp .lss (t 21) (t 20))]
def f38r5 : List SOper := [
 o 23 (.mv (t 21)),
 o 24 (.ixs 1 (t 19) (t 21)),
 o 25 (.ld1 (t 24)),
 o 7 (.mv (t 23)),
 o 8 (.mv (t 25))]
def f38t6 : OTree := (.one (o 26 (.mv (t 0)))
 (.one (o 27 (.nilck (t 26)))
 (.one (o 28 (.fa 2 (t 27)))
 (.one (o 31 (.mv (t 7)))
 (.one (o 32 (.ar .add (t 31) (i 1)))
 (.one (o 34 (.mv (t 8)))
 (.one (o 29 (.ld1 (t 28)))
 (.one (o 30 (.ldn 3 (t 5)))
 (.one (o 33 (.call 70 [(t 32)]))
 (.chk [o 30 (.ldn 3 (t 5)), o 29 (.ld1 (t 28))] (.one (o 35 (.call 71 [(t 34)]))
 (.chk [o 30 (.ldn 3 (t 5)), o 29 (.ld1 (t 28))] (.one (o 36 (.call 69 [(t 29), (t 30), (t 33), (t 35)]))
 (.one (o 37 (.call 41 [(t 36)]))
 .done))))))))))))))
def f38r7 : List SOper := [
 o 38 (.ar .add (t 21) (i 1)),
 o 21 (.mv (t 38))]
def f38l8 : SCode := (.seq (.ops f38r4) (.seq (.cond (t 22) .skip (.exit 0)) (.seq (.block 1 (.seq (.ops f38r5) (.tree [26, 27, 28, 29, 30, 31, 32, 33, 34, 35, 36, 37] f38t6))) (.ops f38r7))))
def f38r9 : List SOper := [
 o 39 (.ldn 3 (t 5)),
 q (.st 3 (t 4) (t 39))]
def f38 : SCode := (.seq (.ops f38r0) (.seq (.ops f38r1) (.seq (.ops f38r2) (.seq (.seq (.ops f38r3) (.block 0 (.loop f38l8))) (.seq (.ops f38r9) .ret)))))
def f38_ent : Ent := .code 40 f38 [.cn 4 3]
theorem f38_ok (oq : Nat → Value) (F : Nat → Prop) (h0 : Heap) : EntOK Tryz.prog oq F h0 38 f38_ent := ⟨soundD_of (fl := false) mixed Tryz.func38 rfl (by kernel_rfl) (by kernel_rfl) (by kernel_rfl), soundF_of (fl := false) mixed Tryz.func38 rfl (by kernel_rfl) (by kernel_rfl) (by kernel_rfl)⟩

/-! 42: tabor/words.Lex -/
def f42r0 : List SOper := [
 o 2 (.new [(.slice none 0 0)]),
 o 3 (.new [(.int .i64 0)]),
 o 4 (.new [(.int .i64 0)])]
def f42r1 : List SOper := [
 o 8 (.mv (t 0)),
 o 9 (.lens (t 8)),
 o 10 (.cmp .gtr (t 9) (i 1048576))]
def f42r2 : List SOper := [
 q (.st 1 (t 2) (.const (.slice none 0 0))),
 q (.st 1 (t 3) (i 0)),
 q (.st 1 (t 4) (i 3))]
def f42r3 : List SOper := [
 o 5 (.new [(.slice none 0 0)])]
def f42r4 : List SOper := [
 o 11 (.mv (t 0)),
 o 12 (.call 80 [(t 11)])]
def f42r5 : List SOper := [
 o 6 (.new [(.int .i64 0), (.string ⟨#[]⟩), (.int .i64 0), (.int .i64 0)]),
 q (.st 4 (t 6) (t 13))]
def f42r6 : List SOper := [
 o 7 (.mv (t 14))]
def f42r7 : List SOper := [
 o 15 (.mv (t 7)),
 o 16 (.cmp .eql (t 15) (i 0))]
def f42t8 : OTree := (.one (o 17 (.fa 3 (t 6)))
 (.one (o 18 (.ld1 (t 17)))
 (.one (q (.st 1 (t 2) (.const (.slice none 0 0))))
 (.chk [o 18 (.ld1 (t 17))] (.one (q (.st 1 (t 3) (t 18)))
 (.one (q (.st 1 (t 4) (i 210)))
 .done))))))
def f42r9 : List SOper := [
 o 19 (.ld1 (t 5)),
 o 20 (.ldn 4 (t 6)),
 o 21 (.bslice [(.int .i64 0), (.string ⟨#[]⟩), (.int .i64 0), (.int .i64 0)] 1 [(0, 4)] [(t 20)]),
 o 22 (.app 4 40 [(.int .i64 0), (.string ⟨#[]⟩), (.int .i64 0), (.int .i64 0)] (t 19) (t 21)),
 q (.st 1 (t 5) (t 22))]
def f42a10 : SCode := (.seq (.ops f42r5) (.ops f42r6))
def f42b10 : SCode := (.block 1 (.seq (.seq (.ops f42r7) (.cond (t 16) (.seq (.tree [17, 18] f42t8) .ret) .skip)) (.ops f42r9)))
def f42r11 : List SOper := [
 o 23 (.ld1 (t 5)),
 q (.st 1 (t 2) (t 23)),
 q (.st 1 (t 3) (i 0)),
 q (.st 1 (t 4) (i 0))]
def f42 : SCode := (.seq (.ops f42r0) (.seq (.seq (.ops f42r1) (.cond (t 10) (.seq (.ops f42r2) .ret) .skip)) (.seq (.ops f42r3) (.seq (.seq (.ops f42r4) (.block 0 (.rangeF (t 12) [13, 14] f42a10 f42b10))) (.seq (.ops f42r11) .ret)))))
def f42_ent : Ent := .code 24 f42 [.c1 2, .c1 3, .c1 4]
theorem f42_ok (oq : Nat → Value) (F : Nat → Prop) (h0 : Heap) : EntOK Tryz.prog oq F h0 42 f42_ent := ⟨soundD_of (fl := false) mixed Tryz.func42 rfl (by kernel_rfl) (by kernel_rfl) (by kernel_rfl), soundF_of (fl := false) mixed Tryz.func42 rfl (by kernel_rfl) (by kernel_rfl) (by kernel_rfl)⟩

/-! 43: tabor/syntax.Parse$1 -/
def f43r0 : List SOper := [
 o 8 (.eqn 4 false (t 6))]
def f43r1 : List SOper := [
 o 3 (.mv (t 6))]
def f43r2 : List SOper := [
 o 9 (.tas 127 (.agg #[(.int .i64 0), (.int .i64 0)]) true (t 6)),
 o 10 (.ext (t 9) 1),
 o 11 (.ext (t 9) 0)]
def f43r3 : List SOper := [
 o 4 (.new [(.int .i64 0), (.int .i64 0)]),
 q (.st 2 (t 4) (t 11))]
def f43t4 : OTree := (.one (o 12 (.build [(.int .i64 0), (.string ⟨#[]⟩), (.string ⟨#[]⟩), (.int .i64 0), (.slice none 0 0), (.slice none 0 0)] [] []))
 (.one (o 13 (.fa 0 (t 4)))
 (.one (o 15 (.fa 1 (t 4)))
 (.one (o 14 (.ld1 (t 13)))
 (.one (o 16 (.ld1 (t 15)))
 (.one (q (.st 6 (t 0) (t 12)))
 (.chk [o 16 (.ld1 (t 15)), o 14 (.ld1 (t 13))] (.one (q (.st 1 (t 1) (t 14)))
 (.chk [o 16 (.ld1 (t 15))] (.one (q (.st 1 (t 2) (t 16)))
 .done))))))))))
def f43r5 : List SOper := [
 o 5 (.mv (t 6))]
def f43r6 : List SOper := [
 o 7 (.mv (t 5)),
 q (.pan (t 7))]
def f43 : SCode := (.seq (.rcv (some 6)) (.block 0 (.seq (.ops f43r0) (.cond (t 8) (.ops f43r1) (.seq (.ops f43r2) (.cond (t 10) (.seq (.ops f43r3) (.tree [12, 13, 14, 15, 16] f43t4)) (.seq (.ops f43r5) (.ops f43r6))))))))
def f43_ent : Ent := .code 17 f43 []
theorem f43_ok (oq : Nat → Value) (F : Nat → Prop) (h0 : Heap) : EntOK Tryz.prog oq F h0 43 f43_ent := ⟨soundD_of (fl := false) mixed Tryz.func43 rfl (by kernel_rfl) (by kernel_rfl) (by kernel_rfl), soundF_of (fl := false) mixed Tryz.func43 rfl (by kernel_rfl) (by kernel_rfl) (by kernel_rfl)⟩

/-! 52: tabor/syntax.block -/
def f52r0 : List SOper := [
 o 2 (.mv (b false))]
def f52r1 : List SOper := [
 o 5 (.mv (t 0)),
 o 6 (.len (t 5)),
 o 7 (.mv (i 0))]
def f52r2 : List SOper := [
 o 8 (.cmp .lss (t 7) (t 6))]
def f52r3 : List SOper := [
 o 9 (.mv (t 7)),
 o 10 (.ixs 6 (t 5) (t 7)),
 o 11 (.ldn 6 (t 10)),
 o 4 (.new [(.int .i64 0), (.string ⟨#[]⟩), (.string ⟨#[]⟩), (.int .i64 0), (.slice none 0 0), (.slice none 0 0)]),
 o 3 (.mv (t 9)),
 q (.st 6 (t 4) (t 11))]
def f52t4 : OTree := (.one (o 13 (.fa 0 (t 4)))
 (.one (o 14 (.ld1 (t 13)))
 (.one (o 12 (.call 53 []))
 (.chk [o 14 (.ld1 (t 13))] (.one (o 15 (.look (.int .i64) (.agg #[(.bool false), (.bool false), (.bool false), (.bool false), (.int .i64 0), (.int .i64 0), (.bool false), .nilFunc]) false (t 12) (t 14)))
 (.chk [o 14 (.ld1 (t 13))] (.one (o 16 (.fl1 6 (t 15)))
 (.chk [o 14 (.ld1 (t 13))] (.one (o 17 (.un .not (t 16)))
 (.chk [o 14 (.ld1 (t 13))] (.one (o 18 (.mv (t 17)))
 (.chk [o 14 (.ld1 (t 13))] (.one (n 19 18 (.mv (t 3)))
 (.chk [o 14 (.ld1 (t 13))] (.one (n 20 18 (.mv (t 0)))
 (.chk [o 14 (.ld1 (t 13))] (.one (n 21 18 (.len (t 20)))
 (.chk [o 14 (.ld1 (t 13))] (.one (n 22 18 (.ar .sub (t 21) (i 1)))
 (.chk [o 14 (.ld1 (t 13))] (.one (n 23 18 (.cmp .lss (t 19) (t 22)))
 (.chk [o 14 (.ld1 (t 13))] (.one (n 24 18 (.mv (t 23)))
 (.chk [o 14 (.ld1 (t 13))] (.one (g 25 24 (.fa 0 (t 4)))
 (.chk [o 14 (.ld1 (t 13))] (.one (g 26 24 (.ld1 (t 25)))
 (.chk [o 14 (.ld1 (t 13))] (.one (g 27 24 (.cmp .eql (t 26) (i 7)))
 (.chk [o 14 (.ld1 (t 13))] (.one (g 28 24 (.mv (t 27)))
 (.chk [o 14 (.ld1 (t 13))] (.one (n 29 28 (.fa 0 (t 4)))
 (.chk [o 14 (.ld1 (t 13))] (.one (n 30 28 (.ld1 (t 29)))
 (.chk [o 14 (.ld1 (t 13))] (.one (n 31 28 (.cmp .eql (t 30) (i 8)))
 (.chk [o 14 (.ld1 (t 13))] (.one (g 32 24 (.pick (t 28) (b true) (t 31)))
 (.chk [o 14 (.ld1 (t 13))] (.one (n 33 18 (.pick (t 24) (t 32) (b false)))
 (.chk [o 14 (.ld1 (t 13))] (.one (o 34 (.pick (t 18) (b true) (t 33)))
 (.chk [o 14 (.ld1 (t 13))] .done))))))))))))))))))))))))))))))))))))))))))))
def f52r5 : List SOper := [
 o 2 (.mv (b false))]
def f52r6 : List SOper := [
 o 35 (.ar .add (t 7) (i 1)),
 o 7 (.mv (t 35))]
def f52l7 : SCode := (.seq (.ops f52r2) (.seq (.cond (t 8) .skip (.exit 0)) (.seq (.block 1 (.seq (.ops f52r3) (.seq (.tree [12, 13, 14, 15, 16, 17, 18, 19, 20, 21, 22, 23, 24, 25, 26, 27, 28, 29, 30, 31, 32, 33, 34] f52t4) (.cond (t 34) (.seq (.ops f52r5) .ret) .skip)))) (.ops f52r6))))
def f52r8 : List SOper := [
 o 2 (.mv (b true))]
def f52 : SCode := (.seq (.ops f52r0) (.seq (.seq (.ops f52r1) (.block 0 (.loop f52l7))) (.seq (.ops f52r8) .ret)))
def f52_ent : Ent := .code 36 f52 [.t 2]
theorem f52_ok (oq : Nat → Value) (F : Nat → Prop) (h0 : Heap) : EntOK Tryz.prog oq F h0 52 f52_ent := ⟨soundD_of (fl := false) mixed Tryz.func52 rfl (by kernel_rfl) (by kernel_rfl) (by kernel_rfl), soundF_of (fl := false) mixed Tryz.func52 rfl (by kernel_rfl) (by kernel_rfl) (by kernel_rfl)⟩

/-! 59: (*tabor/scopes.walker).block -/
def f59r0 : List SOper := [
 o 2 (.box (t 0))]
def f59t1 : OTree := (.one (o 6 (.ld1 (t 2)))
 (.one (o 7 (.nilck (t 6)))
 (.one (o 8 (.fa 0 (t 7)))
 (.one (o 9 (.fa 0 (t 8)))
 (.one (o 10 (.ld1 (t 9)))
 (.one (o 11 (.len (t 10)))
 (.one (o 12 (.ld1 (t 2)))
 (.one (o 13 (.nilck (t 12)))
 (.chk [o 12 (.ld1 (t 2))] (.one (o 14 (.fa 0 (t 13)))
 (.chk [o 12 (.ld1 (t 2))] (.one (o 15 (.fa 1 (t 14)))
 (.chk [o 12 (.ld1 (t 2))] (.one (o 16 (.ld1 (t 15)))
 (.one (o 17 (.len (t 16)))
 (.chk [o 16 (.ld1 (t 15)), o 12 (.ld1 (t 2))] (.both (.one (o 4 (.new [(.int .i64 0)]))
 (.chk [o 16 (.ld1 (t 15)), o 12 (.ld1 (t 2))] (.one (o 5 (.new [(.int .i64 0)]))
 (.chk [o 16 (.ld1 (t 15)), o 12 (.ld1 (t 2))] (.one (q (.st 1 (t 4) (t 11)))
 (.chk [o 16 (.ld1 (t 15)), o 12 (.ld1 (t 2))] (.one (q (.st 1 (t 5) (t 17)))
 .done))))))) (.one (o 5 (.new [(.int .i64 0)]))
 (.chk [o 16 (.ld1 (t 15)), o 12 (.ld1 (t 2))] (.one (o 4 (.new [(.int .i64 0)]))
 (.chk [o 16 (.ld1 (t 15)), o 12 (.ld1 (t 2))] (.one (q (.st 1 (t 4) (t 11)))
 (.chk [o 16 (.ld1 (t 15)), o 12 (.ld1 (t 2))] (.one (q (.st 1 (t 5) (t 17)))
 .done))))))))))))))))))))))))
def f59r2 : List SOper := [
 o 18 (.fn 104 [] [(t 2), (t 4), (t 5)])]
def f59r3 : List SOper := [
 o 19 (.mv (t 1)),
 o 20 (.callv (t 19) [])]
def f59 : SCode := (.seq (.ops f59r0) (.seq (.tree [6, 7, 8, 9, 10, 11, 12, 13, 14, 15, 16, 17, 4, 5] f59t1) (.seq (.dfr f59r2 none (t 18) []) (.ops f59r3))))
def f59_ent : Ent := .code 21 f59 []
theorem f59_ok (oq : Nat → Value) (F : Nat → Prop) (h0 : Heap) : EntOK Tryz.prog oq F h0 59 f59_ent := ⟨soundD_of (fl := false) mixed Tryz.func59 rfl (by kernel_rfl) (by kernel_rfl) (by kernel_rfl), soundF_of (fl := false) mixed Tryz.func59 rfl (by kernel_rfl) (by kernel_rfl) (by kernel_rfl)⟩

/-! 79: (*tabor/meaning.frame).node -/
def f79r0 : List SOper := [
 o 3 (.box (t 1)),
 o 4 (.new [(.int .i64 0), (.int .i64 0), (.string ⟨#[]⟩)])]
def f79r1 : List SOper := [
 o 5 (.mv (t 0)),
 o 6 (.nilck (t 5)),
 o 7 (.fa 0 (t 6)),
 o 8 (.ld1 (t 7)),
 o 9 (.nilck (t 8)),
 o 10 (.fa 0 (t 9)),
 o 11 (.fa 0 (t 10)),
 o 12 (.ld1 (t 11)),
 o 13 (.cmp .leq (t 12) (i 0))]
def f79r2 : List SOper := [
 o 14 (.build [(.string ⟨#[]⟩)] [(0, 1)] [(.const (.string ⟨#[69, 82, 82, 32, 102, 117, 101, 108]⟩))]),
 o 15 (.mki 116 (t 14)),
 q (.pan (t 15))]
def f79r3 : List SOper := [
 o 16 (.mv (t 0)),
 o 17 (.nilck (t 16)),
 o 18 (.fa 0 (t 17)),
 o 19 (.ld1 (t 18)),
 o 20 (.nilck (t 19)),
 o 21 (.fa 0 (t 20)),
 o 22 (.fa 0 (t 21)),
 o 23 (.ld1 (t 22)),
 o 24 (.ar .sub (t 23) (i 1)),
 o 25 (.nilck (t 19)),
 o 26 (.fa 0 (t 25)),
 o 27 (.fa 0 (t 26)),
 q (.st 1 (t 27) (t 24))]
def f79t4 : OTree := (.one (o 29 (.fa 0 (t 3)))
 (.one (o 32 (.mv (t 0)))
 (.one (o 30 (.ld1 (t 29)))
 (.one (o 33 (.ldn 6 (t 3)))
 (.one (o 28 (.call 125 []))
 (.chk [o 33 (.ldn 6 (t 3)), o 30 (.ld1 (t 29))] (.one (o 31 (.look (.int .i64) .nilFunc false (t 28) (t 30)))
 (.chk [o 33 (.ldn 6 (t 3)), o 30 (.ld1 (t 29))] (.one (o 34 (.callv (t 31) [(t 32), (t 33)]))
 (.one (q (.st 3 (t 4) (t 34)))
 .done))))))))))
def f79 : SCode := (.seq (.ops f79r0) (.seq (.seq (.ops f79r1) (.cond (t 13) (.ops f79r2) .skip)) (.seq (.ops f79r3) (.seq (.tree [28, 29, 30, 31, 32, 33, 34] f79t4) .ret))))
def f79_ent : Ent := .code 35 f79 [.cn 4 3]
theorem f79_ok (oq : Nat → Value) (F : Nat → Prop) (h0 : Heap) : EntOK Tryz.prog oq F h0 79 f79_ent := ⟨soundD_of (fl := false) mixed Tryz.func79 rfl (by kernel_rfl) (by kernel_rfl) (by kernel_rfl), soundF_of (fl := false) mixed Tryz.func79 rfl (by kernel_rfl) (by kernel_rfl) (by kernel_rfl)⟩

/-! 82: (*tabor/syntax.reader).statement -/
def f82r0 : List SOper := [
 o 2 (.new [(.int .i64 0), (.string ⟨#[]⟩), (.string ⟨#[]⟩), (.int .i64 0), (.slice none 0 0), (.slice none 0 0)])]
def f82r1 : List SOper := [
 o 8 (.mv (t 0)),
 o 9 (.call 83 [(t 8), (.const (.string ⟨#[108, 111, 99, 97, 108]⟩))]),
 o 7 (.mv (t 9))]
def f82r2 : List SOper := [
 o 10 (.mv (t 0)),
 o 11 (.call 129 [(t 10)]),
 q (.st 6 (t 2) (t 11))]
def f82r3 : List SOper := [
 o 13 (.mv (t 0)),
 o 14 (.call 83 [(t 13), (.const (.string ⟨#[100, 111]⟩))]),
 o 12 (.mv (t 14))]
def f82r4 : List SOper := [
 o 15 (.mv (t 0)),
 o 16 (.call 130 [(t 15)]),
 o 17 (.bslice [(.int .i64 0), (.string ⟨#[]⟩), (.string ⟨#[]⟩), (.int .i64 0), (.slice none 0 0), (.slice none 0 0)] 1 [(0, 6)] [(t 16)]),
 o 18 (.build [(.int .i64 0), (.string ⟨#[]⟩), (.string ⟨#[]⟩), (.int .i64 0), (.slice none 0 0), (.slice none 0 0)] [(0, 1), (5, 1)] [(i 3), (t 17)]),
 q (.st 6 (t 2) (t 18))]
def f82r5 : List SOper := [
 o 20 (.mv (t 0)),
 o 21 (.call 83 [(t 20), (.const (.string ⟨#[105, 102]⟩))]),
 o 19 (.mv (t 21))]
def f82r6 : List SOper := [
 o 22 (.mv (t 0)),
 o 23 (.call 131 [(t 22)]),
 q (.st 6 (t 2) (t 23))]
def f82r7 : List SOper := [
 o 25 (.mv (t 0)),
 o 26 (.call 83 [(t 25), (.const (.string ⟨#[119, 104, 105, 108, 101]⟩))]),
 o 24 (.mv (t 26))]
def f82r8 : List SOper := [
 o 27 (.mv (t 0)),
 o 28 (.call 132 [(t 27), (i 0)]),
 o 29 (.bslice [(.int .i64 0), (.string ⟨#[]⟩), (.string ⟨#[]⟩), (.int .i64 0), (.slice none 0 0), (.slice none 0 0)] 1 [(0, 6)] [(t 28)]),
 o 30 (.build [(.int .i64 0), (.string ⟨#[]⟩), (.string ⟨#[]⟩), (.int .i64 0), (.slice none 0 0), (.slice none 0 0)] [(0, 1), (5, 1)] [(i 5), (t 29)]),
 o 3 (.new [(.int .i64 0), (.string ⟨#[]⟩), (.string ⟨#[]⟩), (.int .i64 0), (.slice none 0 0), (.slice none 0 0)]),
 q (.st 6 (t 3) (t 30))]
def f82r9 : List SOper := [
 o 31 (.mv (t 0)),
 o 32 (.call 133 [(t 31), (.const (.string ⟨#[100, 111]⟩))])]
def f82t10 : OTree := (.one (o 33 (.fa 5 (t 3)))
 (.one (o 35 (.mv (t 0)))
 (.one (o 34 (.ld1 (t 33)))
 (.one (o 36 (.call 130 [(t 35)]))
 (.chk [o 34 (.ld1 (t 33))] (.one (o 37 (.bslice [(.int .i64 0), (.string ⟨#[]⟩), (.string ⟨#[]⟩), (.int .i64 0), (.slice none 0 0), (.slice none 0 0)] 1 [(0, 6)] [(t 36)]))
 (.chk [o 34 (.ld1 (t 33))] (.one (o 38 (.app 6 96 [(.int .i64 0), (.string ⟨#[]⟩), (.string ⟨#[]⟩), (.int .i64 0), (.slice none 0 0), (.slice none 0 0)] (t 34) (t 37)))
 (.one (o 39 (.fa 5 (t 3)))
 (.one (q (.st 1 (t 39) (t 38)))
 .done))))))))))
def f82r11 : List SOper := [
 o 40 (.ldn 6 (t 3)),
 q (.st 6 (t 2) (t 40))]
def f82r12 : List SOper := [
 o 42 (.mv (t 0)),
 o 43 (.call 83 [(t 42), (.const (.string ⟨#[102, 111, 114]⟩))]),
 o 41 (.mv (t 43))]
def f82r13 : List SOper := [
 o 44 (.mv (t 0)),
 o 45 (.call 134 [(t 44)]),
 q (.st 6 (t 2) (t 45))]
def f82r14 : List SOper := [
 o 47 (.mv (t 0)),
 o 48 (.call 83 [(t 47), (.const (.string ⟨#[98, 114, 101, 97, 107]⟩))]),
 o 46 (.mv (t 48))]
def f82r15 : List SOper := [
 o 49 (.build [(.int .i64 0), (.string ⟨#[]⟩), (.string ⟨#[]⟩), (.int .i64 0), (.slice none 0 0), (.slice none 0 0)] [(0, 1)] [(i 8)]),
 q (.st 6 (t 2) (t 49))]
def f82r16 : List SOper := [
 o 51 (.mv (t 0)),
 o 52 (.call 83 [(t 51), (.const (.string ⟨#[114, 101, 116, 117, 114, 110]⟩))]),
 o 50 (.mv (t 52))]
def f82r17 : List SOper := [
 o 53 (.build [(.int .i64 0), (.string ⟨#[]⟩), (.string ⟨#[]⟩), (.int .i64 0), (.slice none 0 0), (.slice none 0 0)] [(0, 1)] [(i 7)]),
 o 4 (.new [(.int .i64 0), (.string ⟨#[]⟩), (.string ⟨#[]⟩), (.int .i64 0), (.slice none 0 0), (.slice none 0 0)]),
 q (.st 6 (t 4) (t 53))]
def f82r18 : List SOper := [
 o 54 (.mv (t 0)),
 o 55 (.nilck (t 54)),
 o 56 (.fa 1 (t 55)),
 o 57 (.ld1 (t 56)),
 o 58 (.mv (t 0)),
 o 59 (.nilck (t 58)),
 o 60 (.fa 0 (t 59)),
 o 61 (.ld1 (t 60)),
 o 62 (.len (t 61)),
 o 63 (.cmp .lss (t 57) (t 62)),
 o 64 (.mv (t 63)),
 g 65 64 (.mv (t 0)),
 g 66 64 (.call 81 [(t 65), (.const (.string ⟨#[59]⟩))]),
 g 67 64 (.un .not (t 66)),
 o 68 (.pick (t 64) (t 67) (b false)),
 o 69 (.mv (t 68)),
 g 70 69 (.mv (t 0)),
 g 71 69 (.call 81 [(t 70), (.const (.string ⟨#[101, 110, 100]⟩))]),
 g 72 69 (.un .not (t 71)),
 o 73 (.pick (t 69) (t 72) (b false)),
 o 74 (.mv (t 73)),
 g 75 74 (.mv (t 0)),
 g 76 74 (.call 81 [(t 75), (.const (.string ⟨#[101, 108, 115, 101]⟩))]),
 g 77 74 (.un .not (t 76)),
 o 78 (.pick (t 74) (t 77) (b false)),
 o 79 (.mv (t 78)),
 g 80 79 (.mv (t 0)),
 g 81 79 (.call 81 [(t 80), (.const (.string ⟨#[101, 108, 115, 101, 105, 102]⟩))]),
 g 82 79 (.un .not (t 81)),
 o 83 (.pick (t 79) (t 82) (b false))]
def f82r19 : List SOper := [
 o 84 (.mv (t 0)),
 o 85 (.call 132 [(t 84), (i 0)]),
 o 86 (.bslice [(.int .i64 0), (.string ⟨#[]⟩), (.string ⟨#[]⟩), (.int .i64 0), (.slice none 0 0), (.slice none 0 0)] 1 [(0, 6)] [(t 85)]),
 o 87 (.fa 5 (t 4)),
 q (.st 1 (t 87) (t 86))]
def f82r20 : List SOper := [
 o 88 (.ldn 6 (t 4)),
 q (.st 6 (t 2) (t 88))]
def f82r21 : List SOper := [
 o 89 (.mv (t 0)),
 o 90 (.call 84 [(t 89)]),
 o 5 (.mv (t 90))]
def f82r22 : List SOper := [
 o 91 (.mv (t 0)),
 o 92 (.call 135 [(t 91)]),
 o 6 (.new [(.int .i64 0), (.string ⟨#[]⟩), (.string ⟨#[]⟩), (.int .i64 0), (.slice none 0 0), (.slice none 0 0)]),
 q (.st 6 (t 6) (t 92))]
def f82r23 : List SOper := [
 o 93 (.fa 0 (t 6)),
 o 94 (.ld1 (t 93)),
 o 95 (.cmp .eql (t 94) (i 17)),
 o 96 (.mv (t 95)),
 g 97 96 (.mv (t 0)),
 g 98 96 (.call 81 [(t 97), (.const (.string ⟨#[61]⟩))]),
 g 99 96 (.un .not (t 98)),
 o 100 (.pick (t 96) (t 99) (b false))]
def f82r24 : List SOper := [
 o 101 (.ldn 6 (t 6)),
 q (.st 6 (t 2) (t 101))]
def f82r25 : List SOper := [
 o 102 (.fa 0 (t 6)),
 o 103 (.ld1 (t 102)),
 o 104 (.cmp .neq (t 103) (i 15)),
 o 105 (.mv (t 104)),
 g 106 105 (.fa 0 (t 6)),
 g 107 105 (.ld1 (t 106)),
 g 108 105 (.cmp .neq (t 107) (i 16)),
 o 109 (.pick (t 105) (t 108) (b false))]
def f82r26 : List SOper := [
 o 110 (.mv (t 5)),
 o 111 (.build [(.int .i64 0), (.int .i64 0)] [(0, 1), (1, 1)] [(t 110), (i 220)]),
 o 112 (.mki 127 (t 111)),
 q (.pan (t 112))]
def f82r27 : List SOper := [
 o 113 (.mv (t 0)),
 o 114 (.call 133 [(t 113), (.const (.string ⟨#[61]⟩))])]
def f82t28 : OTree := (.one (o 116 (.mv (t 0)))
 (.one (o 115 (.ldn 6 (t 6)))
 (.one (o 117 (.call 132 [(t 116), (i 0)]))
 (.chk [o 115 (.ldn 6 (t 6))] (.one (o 118 (.bslice [(.int .i64 0), (.string ⟨#[]⟩), (.string ⟨#[]⟩), (.int .i64 0), (.slice none 0 0), (.slice none 0 0), (.int .i64 0), (.string ⟨#[]⟩), (.string ⟨#[]⟩), (.int .i64 0), (.slice none 0 0), (.slice none 0 0)] 2 [(0, 6), (6, 6)] [(t 115), (t 117)]))
 (.one (o 119 (.build [(.int .i64 0), (.string ⟨#[]⟩), (.string ⟨#[]⟩), (.int .i64 0), (.slice none 0 0), (.slice none 0 0)] [(0, 1), (5, 1)] [(i 2), (t 118)]))
 (.one (q (.st 6 (t 2) (t 119)))
 .done)))))))
def f82 : SCode := (.seq (.ops f82r0) (.seq (.block 0 (.seq (.ops f82r1) (.cond (t 7) (.seq (.ops f82r2) .ret) (.seq (.ops f82r3) (.cond (t 12) (.seq (.ops f82r4) .ret) (.seq (.ops f82r5) (.cond (t 19) (.seq (.ops f82r6) .ret) (.seq (.ops f82r7) (.cond (t 24) (.seq (.ops f82r8) (.seq (.ops f82r9) (.seq (.tree [33, 34, 35, 36, 37, 38, 39] f82t10) (.seq (.ops f82r11) .ret)))) (.seq (.ops f82r12) (.cond (t 41) (.seq (.ops f82r13) .ret) (.seq (.ops f82r14) (.cond (t 46) (.seq (.ops f82r15) .ret) (.seq (.ops f82r16) (.cond (t 50) (.seq (.ops f82r17) (.seq (.seq (.ops f82r18) (.cond (t 83) (.ops f82r19) .skip)) (.seq (.ops f82r20) .ret))) .skip))))))))))))))) (.seq (.ops f82r21) (.seq (.ops f82r22) (.seq (.seq (.ops f82r23) (.cond (t 100) (.seq (.ops f82r24) .ret) .skip)) (.seq (.seq (.ops f82r25) (.cond (t 109) (.ops f82r26) .skip)) (.seq (.ops f82r27) (.seq (.tree [115, 116, 117, 118, 119] f82t28) .ret))))))))
def f82_ent : Ent := .code 120 f82 [.cn 2 6]
theorem f82_ok (oq : Nat → Value) (F : Nat → Prop) (h0 : Heap) : EntOK Tryz.prog oq F h0 82 f82_ent := ⟨soundD_of (fl := false) mixed Tryz.func82 rfl (by kernel_rfl) (by kernel_rfl) (by kernel_rfl), soundF_of (fl := false) mixed Tryz.func82 rfl (by kernel_rfl) (by kernel_rfl) (by kernel_rfl)⟩

/-! 114: tabor/values.Check -/
def f114r0 : List SOper := [
 o 1 (.box (t 0)),
 o 2 (.mv (b false))]
def f114r1 : List SOper := [
 o 3 (.fa 0 (t 1)),
 o 4 (.ld1 (t 3))]
def f114r2 : List SOper := [
 o 6 (.cmp .eql (t 4) (i 0)),
 o 5 (.mv (t 6))]
def f114r3 : List SOper := [
 o 7 (.ldn 3 (t 1)),
 o 8 (.build [(.int .i64 0), (.int .i64 0), (.string ⟨#[]⟩)] [] []),
 o 9 (.eqa false [(.int .i64), (.int .i64), .str] (t 7) (t 8)),
 o 2 (.mv (t 9))]
def f114r4 : List SOper := [
 o 11 (.cmp .eql (t 4) (i 1)),
 o 10 (.mv (t 11))]
def f114r5 : List SOper := [
 o 12 (.fa 2 (t 1)),
 o 13 (.ld1 (t 12)),
 o 14 (.cmp .eql (t 13) e),
 o 15 (.mv (t 14)),
 g 16 15 (.fa 1 (t 1)),
 g 17 15 (.ld1 (t 16)),
 g 18 15 (.cmp .eql (t 17) (i 0)),
 g 19 15 (.mv (t 18)),
 n 20 19 (.fa 1 (t 1)),
 n 21 19 (.ld1 (t 20)),
 n 22 19 (.cmp .eql (t 21) (i 1)),
 g 23 15 (.pick (t 19) (b true) (t 22)),
 o 24 (.pick (t 15) (t 23) (b false)),
 o 2 (.mv (t 24))]
def f114r6 : List SOper := [
 o 26 (.cmp .eql (t 4) (i 2)),
 o 25 (.mv (t 26))]
def f114r7 : List SOper := [
 o 27 (.fa 2 (t 1)),
 o 28 (.ld1 (t 27)),
 o 29 (.cmp .eql (t 28) e),
 o 2 (.mv (t 29))]
def f114r8 : List SOper := [
 o 31 (.cmp .eql (t 4) (i 3)),
 o 30 (.mv (t 31))]
def f114r9 : List SOper := [
 o 32 (.fa 1 (t 1)),
 o 33 (.ld1 (t 32)),
 o 34 (.cmp .eql (t 33) (i 0)),
 o 35 (.mv (t 34)),
 g 36 35 (.fa 2 (t 1)),
 g 37 35 (.ld1 (t 36)),
 g 38 35 (.lens (t 37)),
 g 39 35 (.cmp .leq (t 38) (i 1048576)),
 o 40 (.pick (t 35) (t 39) (b false)),
 o 2 (.mv (t 40))]
def f114r10 : List SOper := [
 o 42 (.cmp .eql (t 4) (i 4)),
 o 41 (.mv (t 42))]
def f114r11 : List SOper := [
 o 43 (.fa 2 (t 1)),
 o 44 (.ld1 (t 43)),
 o 45 (.cmp .eql (t 44) e),
 o 46 (.mv (t 45)),
 g 47 46 (.fa 1 (t 1)),
 g 48 46 (.ld1 (t 47)),
 g 49 46 (.cmp .geq (t 48) (i 0)),
 o 50 (.pick (t 46) (t 49) (b false)),
 o 2 (.mv (t 50))]
def f114r12 : List SOper := [
 o 2 (.mv (b false))]
def f114 : SCode := (.seq (.ops f114r0) (.seq (.seq (.ops f114r1) (.block 0 (.seq (.ops f114r2) (.cond (t 5) (.seq (.ops f114r3) .ret) (.seq (.ops f114r4) (.cond (t 10) (.seq (.ops f114r5) .ret) (.seq (.ops f114r6) (.cond (t 25) (.seq (.ops f114r7) .ret) (.seq (.ops f114r8) (.cond (t 30) (.seq (.ops f114r9) .ret) (.seq (.ops f114r10) (.cond (t 41) (.seq (.ops f114r11) .ret) .skip)))))))))))) (.seq (.ops f114r12) .ret)))
def f114_ent : Ent := .code 51 f114 [.t 2]
theorem f114_ok (oq : Nat → Value) (F : Nat → Prop) (h0 : Heap) : EntOK Tryz.prog oq F h0 114 f114_ent := ⟨soundD_of (fl := false) mixed Tryz.func114 rfl (by kernel_rfl) (by kernel_rfl) (by kernel_rfl), soundF_of (fl := false) mixed Tryz.func114 rfl (by kernel_rfl) (by kernel_rfl) (by kernel_rfl)⟩

/-! 128: tabor/words.word -/
def f128r0 : List SOper := [
 o 2 (.new [(.int .i64 0), (.string ⟨#[]⟩), (.int .i64 0), (.int .i64 0)]),
 o 3 (.mv (i 0))]
def f128r1 : List SOper := [
 o 12 (.mv (t 0)),
 o 13 (.call 180 [(t 12)]),
 o 4 (.mv (t 13))]
def f128r2 : List SOper := [
 o 14 (.build [(.int .i64 0), (.string ⟨#[]⟩), (.int .i64 0), (.int .i64 0)] [] []),
 o 5 (.new [(.int .i64 0), (.string ⟨#[]⟩), (.int .i64 0), (.int .i64 0)]),
 q (.st 4 (t 5) (t 14))]
def f128r3 : List SOper := [
 o 16 (.mv (t 4)),
 o 17 (.cmp .gtr (t 16) (i 0)),
 o 18 (.mv (t 17)),
 g 19 18 (.mv (t 0)),
 g 20 18 (.ixc (t 19) (i 0)),
 g 21 18 (.call 98 [(t 20)]),
 o 22 (.pick (t 18) (t 21) (b false)),
 o 15 (.mv (t 22))]
def f128r4 : List SOper := [
 o 23 (.mv (t 0)),
 o 24 (.mv (t 4)),
 o 25 (.sls (t 23) none (some (t 24))),
 o 26 (.fa 1 (t 5)),
 q (.st 1 (t 26) (t 25))]
def f128t5 : OTree := (.one (o 28 (.fa 1 (t 5)))
 (.one (o 29 (.ld1 (t 28)))
 (.one (o 27 (.call 99 []))
 (.chk [o 29 (.ld1 (t 28))] (.one (o 30 (.look .str (.int .i64 0) false (t 27) (t 29)))
 (.chk [o 29 (.ld1 (t 28))] (.one (o 31 (.cmp .gtr (t 30) (i 0)))
 (.chk [o 29 (.ld1 (t 28))] .done))))))))
def f128r6 : List SOper := [
 o 32 (.fa 0 (t 5)),
 q (.st 1 (t 32) (i 1))]
def f128r7 : List SOper := [
 o 33 (.fa 1 (t 5)),
 o 34 (.ld1 (t 33)),
 o 35 (.call 55 [(t 34)]),
 o 36 (.un .not (t 35))]
def f128r8 : List SOper := [
 o 37 (.ldn 4 (t 5)),
 o 38 (.mv (t 4)),
 q (.st 4 (t 2) (t 37)),
 o 3 (.mv (t 38))]
def f128r9 : List SOper := [
 o 40 (.mv (t 4)),
 o 41 (.cmp .gtr (t 40) (i 0)),
 o 39 (.mv (t 41))]
def f128r10 : List SOper := [
 o 43 (.mv (t 0)),
 o 44 (.mv (t 4)),
 o 45 (.sls (t 43) none (some (t 44))),
 o 46 (.call 181 [(t 45), (i 10), (i 63)]),
 o 42 (.mv (t 46)),
 o 47 (.ext (t 42) 0),
 o 48 (.ext (t 42) 1),
 o 6 (.mv (t 47)),
 o 7 (.mv (t 48))]
def f128r11 : List SOper := [
 o 49 (.mv (t 7)),
 o 50 (.eqn 4 true (t 49))]
def f128r12 : List SOper := [
 o 51 (.mv (t 6)),
 o 52 (.cvt .i64 (t 51)),
 o 53 (.build [(.int .i64 0), (.string ⟨#[]⟩), (.int .i64 0), (.int .i64 0)] [(0, 1), (2, 1)] [(i 2), (t 52)]),
 o 54 (.mv (t 4)),
 q (.st 4 (t 2) (t 53)),
 o 3 (.mv (t 54))]
def f128r13 : List SOper := [
 o 56 (.mv (t 0)),
 o 57 (.ixc (t 56) (i 0)),
 o 58 (.cmp .eql (t 57) (.const (.int .u8 39))),
 o 59 (.mv (t 58)),
 n 60 59 (.mv (t 0)),
 n 61 59 (.ixc (t 60) (i 0)),
 n 62 59 (.cmp .eql (t 61) (.const (.int .u8 34))),
 o 63 (.pick (t 59) (b true) (t 62)),
 o 55 (.mv (t 63))]
def f128r14 : List SOper := [
 o 65 (.mv (t 0)),
 o 66 (.call 182 [(t 65)]),
 o 64 (.mv (t 66)),
 o 67 (.ext (t 64) 0),
 o 68 (.ext (t 64) 1),
 o 8 (.mv (t 67)),
 o 9 (.mv (t 68))]
def f128r15 : List SOper := [
 o 69 (.mv (t 9)),
 o 70 (.cmp .eql (t 69) (i 0))]
def f128r16 : List SOper := [
 o 71 (.mv (t 8)),
 o 72 (.build [(.int .i64 0), (.string ⟨#[]⟩), (.int .i64 0), (.int .i64 0)] [(0, 1), (1, 1)] [(i 3), (t 71)]),
 o 73 (.mv (t 9)),
 q (.st 4 (t 2) (t 72)),
 o 3 (.mv (t 73))]
def f128r17 : List SOper := [
 o 74 (.call 183 []),
 o 75 (.mv (i 0))]
def f128r18 : List SOper := [
 o 76 (.cmp .lss (t 75) (i 24))]
def f128r19 : List SOper := [
 o 77 (.ixv 24 1 (t 74) (t 75)),
 o 11 (.mv (t 77))]
def f128r20 : List SOper := [
 o 78 (.mv (t 0)),
 o 79 (.mv (t 11)),
 o 80 (.call 178 [(t 78), (t 79)])]
def f128r21 : List SOper := [
 o 81 (.mv (t 11)),
 o 82 (.build [(.int .i64 0), (.string ⟨#[]⟩), (.int .i64 0), (.int .i64 0)] [(0, 1), (1, 1)] [(i 4), (t 81)]),
 o 83 (.mv (t 11)),
 o 84 (.lens (t 83)),
 q (.st 4 (t 2) (t 82)),
 o 3 (.mv (t 84))]
def f128r22 : List SOper := [
 o 85 (.ar .add (t 75) (i 1)),
 o 75 (.mv (t 85))]
def f128l23 : SCode := (.seq (.ops f128r18) (.seq (.cond (t 76) .skip (.exit 1)) (.seq (.block 2 (.seq (.ops f128r19) (.seq (.ops f128r20) (.cond (t 80) (.seq (.ops f128r21) .ret) .skip)))) (.ops f128r22))))
def f128r24 : List SOper := [
 o 86 (.build [(.int .i64 0), (.string ⟨#[]⟩), (.int .i64 0), (.int .i64 0)] [] []),
 q (.st 4 (t 2) (t 86)),
 o 3 (.mv (i 0))]
def f128r25 : List SOper := [
 o 86 (.build [(.int .i64 0), (.string ⟨#[]⟩), (.int .i64 0), (.int .i64 0)] [] []),
 q (.st 4 (t 2) (t 86)),
 o 3 (.mv (i 0))]
def f128 : SCode := (.seq (.ops f128r0) (.scopeG (.seq (.ops f128r1) (.seq (.ops f128r2) (.seq (.block 0 (.seq (.ops f128r3) (.cond (t 15) (.seq (.ops f128r4) (.seq (.seq (.tree [27, 28, 29, 30, 31] f128t5) (.cond (t 31) (.ops f128r6) (.seq (.ops f128r7) (.cond (t 36) (.goto 0) .skip)))) (.seq (.ops f128r8) .ret))) (.seq (.ops f128r9) (.cond (t 39) (.seq (.ops f128r10) (.seq (.seq (.ops f128r11) (.cond (t 50) (.goto 0) .skip)) (.seq (.ops f128r12) .ret))) (.seq (.ops f128r13) (.cond (t 55) (.seq (.ops f128r14) (.seq (.seq (.ops f128r15) (.cond (t 70) (.goto 0) .skip)) (.seq (.ops f128r16) .ret))) .skip))))))) (.seq (.seq (.ops f128r17) (.block 1 (.loop f128l23))) (.seq (.label 0) (.seq (.ops f128r24) .ret)))))) 0 (.seq .skip (.seq (.ops f128r25) .ret))))
def f128_ent : Ent := .code 87 f128 [.cn 2 4, .t 3]
theorem f128_ok (oq : Nat → Value) (F : Nat → Prop) (h0 : Heap) : EntOK Tryz.prog oq F h0 128 f128_ent := ⟨soundD_of (fl := false) mixed Tryz.func128 rfl (by kernel_rfl) (by kernel_rfl) (by kernel_rfl), soundF_of (fl := false) mixed Tryz.func128 rfl (by kernel_rfl) (by kernel_rfl) (by kernel_rfl)⟩

/-! 135: (*tabor/syntax.reader).behind -/
def f135r0 : List SOper := [
 o 2 (.new [(.int .i64 0), (.string ⟨#[]⟩), (.string ⟨#[]⟩), (.int .i64 0), (.slice none 0 0), (.slice none 0 0)])]
def f135r1 : List SOper := [
 o 6 (.mv (t 0)),
 o 7 (.call 191 [(t 6)]),
 o 5 (.mv (t 7)),
 o 8 (.ext (t 5) 0),
 o 9 (.ext (t 5) 1),
 o 3 (.new [(.int .i64 0), (.string ⟨#[]⟩), (.string ⟨#[]⟩), (.int .i64 0), (.slice none 0 0), (.slice none 0 0)]),
 q (.st 6 (t 3) (t 8)),
 o 4 (.mv (t 9))]
def f135r2 : List SOper := [
 o 10 (.mv (t 4))]
def f135r3 : List SOper := [
 o 13 (.mv (t 0)),
 o 14 (.call 83 [(t 13), (.const (.string ⟨#[91]⟩))]),
 o 12 (.mv (t 14))]
def f135t4 : OTree := (.one (o 16 (.mv (t 0)))
 (.one (o 15 (.ldn 6 (t 3)))
 (.one (o 17 (.call 192 [(t 16), (.const (.string ⟨#[93]⟩))]))
 (.chk [o 15 (.ldn 6 (t 3))] (.one (o 18 (.bslice [(.int .i64 0), (.string ⟨#[]⟩), (.string ⟨#[]⟩), (.int .i64 0), (.slice none 0 0), (.slice none 0 0), (.int .i64 0), (.string ⟨#[]⟩), (.string ⟨#[]⟩), (.int .i64 0), (.slice none 0 0), (.slice none 0 0)] 2 [(0, 6), (6, 6)] [(t 15), (t 17)]))
 (.one (o 19 (.build [(.int .i64 0), (.string ⟨#[]⟩), (.string ⟨#[]⟩), (.int .i64 0), (.slice none 0 0), (.slice none 0 0)] [(0, 1), (5, 1)] [(i 16), (t 18)]))
 (.one (q (.st 6 (t 3) (t 19)))
 .done)))))))
def f135r5 : List SOper := [
 o 21 (.mv (t 0)),
 o 22 (.call 83 [(t 21), (.const (.string ⟨#[46]⟩))]),
 o 20 (.mv (t 22))]
def f135t6 : OTree := (.one (o 24 (.mv (t 0)))
 (.one (o 23 (.ldn 6 (t 3)))
 (.one (o 25 (.call 184 [(t 24)]))
 (.chk [o 23 (.ldn 6 (t 3))] (.one (o 26 (.build [(.int .i64 0), (.string ⟨#[]⟩), (.string ⟨#[]⟩), (.int .i64 0), (.slice none 0 0), (.slice none 0 0)] [(0, 1), (2, 1)] [(i 14), (t 25)]))
 (.chk [o 23 (.ldn 6 (t 3))] (.one (o 27 (.bslice [(.int .i64 0), (.string ⟨#[]⟩), (.string ⟨#[]⟩), (.int .i64 0), (.slice none 0 0), (.slice none 0 0), (.int .i64 0), (.string ⟨#[]⟩), (.string ⟨#[]⟩), (.int .i64 0), (.slice none 0 0), (.slice none 0 0)] 2 [(0, 6), (6, 6)] [(t 23), (t 26)]))
 (.one (o 28 (.build [(.int .i64 0), (.string ⟨#[]⟩), (.string ⟨#[]⟩), (.int .i64 0), (.slice none 0 0), (.slice none 0 0)] [(0, 1), (5, 1)] [(i 16), (t 27)]))
 (.one (q (.st 6 (t 3) (t 28)))
 .done)))))))))
def f135r7 : List SOper := [
 o 11 (.ldn 6 (t 3)),
 q (.st 6 (t 2) (t 11))]
def f135l8 : SCode := (.seq (.seq (.ops f135r2) (.cond (t 10) .skip (.exit 0))) (.block 1 (.block 2 (.seq (.ops f135r3) (.cond (t 12) (.tree [15, 16, 17, 18, 19] f135t4) (.seq (.ops f135r5) (.cond (t 20) (.tree [23, 24, 25, 26, 27, 28] f135t6) (.seq (.ops f135r7) .ret))))))))
def f135r9 : List SOper := [
 o 29 (.ldn 6 (t 3)),
 q (.st 6 (t 2) (t 29))]
def f135 : SCode := (.seq (.ops f135r0) (.seq (.ops f135r1) (.seq (.block 0 (.loop f135l8)) (.seq (.ops f135r9) .ret))))
def f135_ent : Ent := .code 30 f135 [.cn 2 6]
theorem f135_ok (oq : Nat → Value) (F : Nat → Prop) (h0 : Heap) : EntOK Tryz.prog oq F h0 135 f135_ent := ⟨soundD_of (fl := false) mixed Tryz.func135 rfl (by kernel_rfl) (by kernel_rfl) (by kernel_rfl), soundF_of (fl := false) mixed Tryz.func135 rfl (by kernel_rfl) (by kernel_rfl) (by kernel_rfl)⟩

/-! 150: tabor/resp.Encode$2 -/
def f150r0 : List SOper := [
 o 6 (.box (t 0))]
def f150r1 : List SOper := [
 o 11 (.fa 0 (t 6)),
 o 12 (.ld1 (t 11)),
 o 13 (.build [(.int .i64 0), (.int .i64 0), (.string ⟨#[]⟩), (.slice none 0 0)] [(0, 1)] [(t 12)]),
 o 8 (.new [(.int .i64 0), (.int .i64 0), (.string ⟨#[]⟩), (.slice none 0 0)]),
 q (.st 4 (t 8) (t 13))]
def f150r2 : List SOper := [
 o 14 (.ld1 (t 2)),
 o 15 (.fa 2 (t 6)),
 o 16 (.ld1 (t 15)),
 o 17 (.lens (t 16)),
 o 18 (.mn (t 17) (i 1048577)),
 o 19 (.ar .sub (t 14) (t 18)),
 q (.st 1 (t 2) (t 19))]
def f150r3 : List SOper := [
 o 20 (.ld1 (t 3)),
 o 21 (.fa 3 (t 6)),
 o 22 (.ld1 (t 21)),
 o 23 (.len (t 22)),
 o 24 (.mn (t 23) (i 65537)),
 o 25 (.ar .sub (t 20) (t 24)),
 q (.st 1 (t 3) (t 25))]
def f150r4 : List SOper := [
 o 26 (.ld1 (t 2)),
 o 27 (.cmp .geq (t 26) (i 0)),
 o 28 (.mv (t 27)),
 g 29 28 (.ld1 (t 3)),
 g 30 28 (.cmp .geq (t 29) (i 0)),
 o 31 (.pick (t 28) (t 30) (b false)),
 o 32 (.call 151 [(t 31), (i 2)])]
def f150r5 : List SOper := [
 o 33 (.fa 0 (t 6)),
 o 34 (.ld1 (t 33))]
def f150r6 : List SOper := [
 o 37 (.cmp .eql (t 34) (i 0)),
 o 36 (.mv (t 37))]
def f150r7 : List SOper := [
 o 38 (.call 152 [(t 4), (.const (.string ⟨#[36, 45, 49, 13, 10]⟩))])]
def f150r8 : List SOper := [
 o 40 (.cmp .eql (t 34) (i 1)),
 o 39 (.mv (t 40))]
def f150r9 : List SOper := [
 o 41 (.cmp .eql (t 34) (i 2)),
 o 39 (.mv (t 41))]
def f150r10 : List SOper := [
 o 42 (.fa 2 (t 6)),
 o 43 (.ld1 (t 42)),
 o 44 (.call 153 [(t 43), (.const (.string ⟨#[13]⟩))]),
 o 45 (.un .not (t 44)),
 o 46 (.mv (t 45)),
 g 47 46 (.fa 2 (t 6)),
 g 48 46 (.ld1 (t 47)),
 g 49 46 (.call 153 [(t 48), (.const (.string ⟨#[10]⟩))]),
 g 50 46 (.un .not (t 49)),
 o 51 (.pick (t 46) (t 50) (b false)),
 o 52 (.call 151 [(t 51), (i 2)])]
def f150r11 : List SOper := [
 o 53 (.fa 0 (t 6)),
 o 54 (.ld1 (t 53)),
 o 55 (.ar .sub (t 54) (i 1)),
 o 56 (.sls (.const (.string ⟨#[43, 45]⟩)) (some (t 55)) none),
 o 57 (.sls (t 56) none (some (i 1))),
 o 58 (.fa 2 (t 6)),
 o 59 (.ld1 (t 58)),
 o 60 (.cat (t 57) (t 59)),
 o 61 (.cat (t 60) (.const (.string ⟨#[13, 10]⟩))),
 o 62 (.call 152 [(t 4), (t 61)])]
def f150r12 : List SOper := [
 o 63 (.fa 2 (t 6)),
 o 64 (.ld1 (t 63)),
 o 65 (.fa 2 (t 8)),
 q (.st 1 (t 65) (t 64))]
def f150r13 : List SOper := [
 o 67 (.cmp .eql (t 34) (i 3)),
 o 66 (.mv (t 67))]
def f150r14 : List SOper := [
 o 68 (.fa 1 (t 6)),
 o 69 (.ld1 (t 68)),
 o 70 (.call 154 [(t 69), (i 10)]),
 o 71 (.cat (.const (.string ⟨#[58]⟩)) (t 70)),
 o 72 (.cat (t 71) (.const (.string ⟨#[13, 10]⟩))),
 o 73 (.call 152 [(t 4), (t 72)])]
def f150r15 : List SOper := [
 o 74 (.fa 1 (t 6)),
 o 75 (.ld1 (t 74)),
 o 76 (.fa 1 (t 8)),
 q (.st 1 (t 76) (t 75))]
def f150r16 : List SOper := [
 o 78 (.cmp .eql (t 34) (i 4)),
 o 77 (.mv (t 78))]
def f150t17 : OTree := (.one (o 79 (.fa 2 (t 6)))
 (.one (o 80 (.ld1 (t 79)))
 (.one (o 81 (.lens (t 80)))
 (.one (o 85 (.fa 2 (t 6)))
 (.one (o 86 (.ld1 (t 85)))
 (.one (o 82 (.call 155 [(t 81)]))
 (.chk [o 86 (.ld1 (t 85))] (.one (o 83 (.cat (.const (.string ⟨#[36]⟩)) (t 82)))
 (.chk [o 86 (.ld1 (t 85))] (.one (o 84 (.cat (t 83) (.const (.string ⟨#[13, 10]⟩))))
 (.chk [o 86 (.ld1 (t 85))] (.one (o 87 (.cat (t 84) (t 86)))
 (.chk [o 86 (.ld1 (t 85))] (.one (o 88 (.cat (t 87) (.const (.string ⟨#[13, 10]⟩))))
 (.chk [o 86 (.ld1 (t 85))] (.one (o 89 (.call 152 [(t 4), (t 88)]))
 .done))))))))))))))))
def f150r18 : List SOper := [
 o 90 (.fa 2 (t 6)),
 o 91 (.ld1 (t 90)),
 o 92 (.fa 2 (t 8)),
 q (.st 1 (t 92) (t 91))]
def f150r19 : List SOper := [
 o 94 (.cmp .eql (t 34) (i 5)),
 o 93 (.mv (t 94))]
def f150r20 : List SOper := [
 o 95 (.mv (t 1)),
 o 96 (.cmp .gtr (t 95) (i 0)),
 o 97 (.call 151 [(t 96), (i 2)])]
def f150r21 : List SOper := [
 o 98 (.fa 3 (t 6)),
 o 99 (.ld1 (t 98)),
 o 100 (.len (t 99)),
 o 101 (.call 155 [(t 100)]),
 o 102 (.cat (.const (.string ⟨#[42]⟩)) (t 101)),
 o 103 (.cat (t 102) (.const (.string ⟨#[13, 10]⟩))),
 o 104 (.call 152 [(t 4), (t 103)])]
def f150r22 : List SOper := [
 o 105 (.fa 3 (t 6)),
 o 106 (.ld1 (t 105)),
 o 107 (.len (t 106)),
 o 108 (.mv (i 0))]
def f150r23 : List SOper := [
 o 109 (.cmp .lss (t 108) (t 107))]
def f150r24 : List SOper := [
 o 110 (.ixs 4 (t 106) (t 108)),
 o 111 (.ldn 4 (t 110)),
 o 10 (.new [(.int .i64 0), (.int .i64 0), (.string ⟨#[]⟩), (.slice none 0 0)]),
 q (.st 4 (t 10) (t 111))]
def f150r25 : List SOper := [
 o 112 (.ld1 (t 5)),
 o 113 (.ldn 4 (t 10)),
 o 114 (.mv (t 1)),
 o 115 (.ar .sub (t 114) (i 1)),
 o 116 (.callv (t 112) [(t 113), (t 115)])]
def f150r26 : List SOper := [
 o 117 (.ar .add (t 108) (i 1)),
 o 108 (.mv (t 117))]
def f150l27 : SCode := (.seq (.ops f150r23) (.seq (.cond (t 109) .skip (.exit 1)) (.seq (.block 2 (.seq (.ops f150r24) (.ops f150r25))) (.ops f150r26))))
def f150r28 : List SOper := [
 o 118 (.fa 3 (t 6)),
 o 119 (.ld1 (t 118)),
 o 120 (.fa 3 (t 8)),
 q (.st 1 (t 120) (t 119))]
def f150r29 : List SOper := [
 o 35 (.call 151 [(b false), (i 2)])]
def f150r30 : List SOper := [
 o 121 (.fa 1 (t 8)),
 o 122 (.ld1 (t 121)),
 o 123 (.fa 1 (t 6)),
 o 124 (.ld1 (t 123)),
 o 125 (.cmp .eql (t 122) (t 124)),
 o 126 (.mv (t 125)),
 g 127 126 (.fa 2 (t 8)),
 g 128 126 (.ld1 (t 127)),
 g 129 126 (.fa 2 (t 6)),
 g 130 126 (.ld1 (t 129)),
 g 131 126 (.cmp .eql (t 128) (t 130)),
 o 132 (.pick (t 126) (t 131) (b false)),
 o 133 (.mv (t 132)),
 g 134 133 (.fa 3 (t 8)),
 g 135 133 (.ld1 (t 134)),
 g 136 133 (.len (t 135)),
 g 137 133 (.fa 3 (t 6)),
 g 138 133 (.ld1 (t 137)),
 g 139 133 (.len (t 138)),
 g 140 133 (.cmp .eql (t 136) (t 139)),
 o 141 (.pick (t 133) (t 140) (b false)),
 o 142 (.call 151 [(t 141), (i 2)])]
def f150 : SCode := (.seq (.ops f150r0) (.seq (.ops f150r1) (.seq (.ops f150r2) (.seq (.ops f150r3) (.seq (.ops f150r4) (.seq (.seq (.ops f150r5) (.block 0 (.seq (.ops f150r6) (.cond (t 36) (.ops f150r7) (.seq (.seq (.ops f150r8) (.cond (t 39) .skip (.ops f150r9))) (.cond (t 39) (.seq (.ops f150r10) (.seq (.ops f150r11) (.ops f150r12))) (.seq (.ops f150r13) (.cond (t 66) (.seq (.ops f150r14) (.ops f150r15)) (.seq (.ops f150r16) (.cond (t 77) (.seq (.tree [79, 80, 81, 82, 83, 84, 85, 86, 87, 88, 89] f150t17) (.ops f150r18)) (.seq (.ops f150r19) (.cond (t 93) (.seq (.ops f150r20) (.seq (.ops f150r21) (.seq (.seq (.ops f150r22) (.block 1 (.loop f150l27))) (.ops f150r28)))) (.ops f150r29))))))))))))) (.ops f150r30)))))))
def f150_ent : Ent := .code 143 f150 []
theorem f150_ok (oq : Nat → Value) (F : Nat → Prop) (h0 : Heap) : EntOK Tryz.prog oq F h0 150 f150_ent := ⟨soundD_of (fl := false) mixed Tryz.func150 rfl (by kernel_rfl) (by kernel_rfl) (by kernel_rfl), soundF_of (fl := false) mixed Tryz.func150 rfl (by kernel_rfl) (by kernel_rfl) (by kernel_rfl)⟩

/-! 174: (*tabor/meaning.frame).bin -/
def f174r0 : List SOper := [
 o 3 (.box (t 1)),
 o 4 (.new [(.int .i64 0), (.int .i64 0), (.string ⟨#[]⟩)])]
def f174r1 : List SOper := [
 o 8 (.mv (t 0)),
 o 9 (.fa 5 (t 3)),
 o 10 (.ld1 (t 9)),
 o 11 (.ixs 6 (t 10) (i 0)),
 o 12 (.ldn 6 (t 11)),
 o 13 (.call 79 [(t 8), (t 12)]),
 o 5 (.new [(.int .i64 0), (.int .i64 0), (.string ⟨#[]⟩)]),
 q (.st 3 (t 5) (t 13))]
def f174r2 : List SOper := [
 o 14 (.fa 1 (t 3)),
 o 15 (.ld1 (t 14)),
 o 16 (.cmp .eql (t 15) (.const (.string ⟨#[97, 110, 100]⟩))),
 o 17 (.mv (t 16)),
 n 18 17 (.fa 1 (t 3)),
 n 19 17 (.ld1 (t 18)),
 n 20 17 (.cmp .eql (t 19) (.const (.string ⟨#[111, 114]⟩))),
 o 21 (.pick (t 17) (b true) (t 20))]
def f174t3 : OTree := (.one (o 22 (.ldn 3 (t 5)))
 (.one (o 24 (.fa 1 (t 3)))
 (.one (o 25 (.ld1 (t 24)))
 (.one (o 26 (.cmp .eql (t 25) (.const (.string ⟨#[111, 114]⟩))))
 (.chk [o 25 (.ld1 (t 24))] (.one (o 23 (.call 204 [(t 22)]))
 (.chk [o 25 (.ld1 (t 24))] (.one (o 27 (.cmpb false (t 23) (t 26)))
 (.chk [o 25 (.ld1 (t 24))] .done)))))))))
def f174r4 : List SOper := [
 o 28 (.ldn 3 (t 5)),
 q (.st 3 (t 4) (t 28))]
def f174r5 : List SOper := [
 o 29 (.mv (t 0)),
 o 30 (.fa 5 (t 3)),
 o 31 (.ld1 (t 30)),
 o 32 (.ixs 6 (t 31) (i 1)),
 o 33 (.ldn 6 (t 32)),
 o 34 (.call 79 [(t 29), (t 33)]),
 q (.st 3 (t 4) (t 34))]
def f174t6 : OTree := (.one (o 36 (.mv (t 0)))
 (.one (o 37 (.nilck (t 36)))
 (.one (o 38 (.fa 0 (t 37)))
 (.one (o 43 (.fa 1 (t 3)))
 (.one (o 46 (.mv (t 0)))
 (.one (o 47 (.fa 5 (t 3)))
 (.one (o 48 (.ld1 (t 47)))
 (.one (o 49 (.ixs 6 (t 48) (i 1)))
 (.one (o 50 (.ldn 6 (t 49)))
 (.one (o 39 (.ld1 (t 38)))
 (.one (o 40 (.nilck (t 39)))
 (.chk [o 39 (.ld1 (t 38))] (.one (o 41 (.fa 2 (t 40)))
 (.chk [o 39 (.ld1 (t 38))] (.one (o 42 (.ld1 (t 41)))
 (.one (o 44 (.ld1 (t 43)))
 (.one (o 45 (.ldn 3 (t 5)))
 (.both (.one (o 51 (.call 79 [(t 46), (t 50)]))
 (.chk [o 45 (.ldn 3 (t 5)), o 44 (.ld1 (t 43)), o 42 (.ld1 (t 41)), o 39 (.ld1 (t 38))] (.both (.one (o 52 (.call 214 [(t 42), (t 44), (t 45), (t 51)]))
 (.one (o 35 (.mv (t 52)))
 (.one (o 53 (.ext (t 35) 0))
 (.one (o 54 (.ext (t 35) 1))
 (.one (o 6 (.new [(.int .i64 0), (.int .i64 0), (.string ⟨#[]⟩)]))
 (.one (q (.st 3 (t 6) (t 53)))
 (.one (o 7 (.mv (t 54)))
 .done))))))) (.one (o 6 (.new [(.int .i64 0), (.int .i64 0), (.string ⟨#[]⟩)]))
 (.chk [o 45 (.ldn 3 (t 5)), o 44 (.ld1 (t 43)), o 42 (.ld1 (t 41)), o 39 (.ld1 (t 38))] (.one (o 52 (.call 214 [(t 42), (t 44), (t 45), (t 51)]))
 (.one (o 35 (.mv (t 52)))
 (.one (o 53 (.ext (t 35) 0))
 (.one (o 54 (.ext (t 35) 1))
 (.one (q (.st 3 (t 6) (t 53)))
 (.one (o 7 (.mv (t 54)))
 .done))))))))))) (.one (o 6 (.new [(.int .i64 0), (.int .i64 0), (.string ⟨#[]⟩)]))
 (.chk [o 45 (.ldn 3 (t 5)), o 44 (.ld1 (t 43)), o 42 (.ld1 (t 41)), o 39 (.ld1 (t 38))] (.one (o 51 (.call 79 [(t 46), (t 50)]))
 (.chk [o 45 (.ldn 3 (t 5)), o 44 (.ld1 (t 43)), o 42 (.ld1 (t 41)), o 39 (.ld1 (t 38))] (.one (o 52 (.call 214 [(t 42), (t 44), (t 45), (t 51)]))
 (.one (o 35 (.mv (t 52)))
 (.one (o 53 (.ext (t 35) 0))
 (.one (o 54 (.ext (t 35) 1))
 (.one (q (.st 3 (t 6) (t 53)))
 (.one (o 7 (.mv (t 54)))
 .done))))))))))))))))))))))))))))
def f174r7 : List SOper := [
 o 55 (.mv (t 7)),
 o 56 (.call 41 [(t 55)])]
def f174r8 : List SOper := [
 o 57 (.ldn 3 (t 6)),
 q (.st 3 (t 4) (t 57))]
def f174 : SCode := (.seq (.ops f174r0) (.seq (.ops f174r1) (.seq (.seq (.ops f174r2) (.cond (t 21) (.seq (.seq (.tree [22, 23, 24, 25, 26, 27] f174t3) (.cond (t 27) (.seq (.ops f174r4) .ret) .skip)) (.seq (.ops f174r5) .ret)) .skip)) (.seq (.tree [36, 37, 38, 39, 40, 41, 42, 43, 44, 45, 46, 47, 48, 49, 50, 51, 52, 35, 53, 54, 6, 7] f174t6) (.seq (.ops f174r7) (.seq (.ops f174r8) .ret))))))
def f174_ent : Ent := .code 58 f174 [.cn 4 3]
theorem f174_ok (oq : Nat → Value) (F : Nat → Prop) (h0 : Heap) : EntOK Tryz.prog oq F h0 174 f174_ent := ⟨soundD_of (fl := false) mixed Tryz.func174 rfl (by kernel_rfl) (by kernel_rfl) (by kernel_rfl), soundF_of (fl := false) mixed Tryz.func174 rfl (by kernel_rfl) (by kernel_rfl) (by kernel_rfl)⟩

/-! 189: (*tabor/syntax.reader).operator -/
def f189r0 : List SOper := [
 o 4 (.mv e),
 o 5 (.mv (b false))]
def f189t1 : OTree := (.one (o 6 (.mv (t 0)))
 (.one (o 7 (.nilck (t 6)))
 (.one (o 8 (.fa 1 (t 7)))
 (.one (o 9 (.ld1 (t 8)))
 (.one (o 10 (.mv (t 0)))
 (.one (o 11 (.nilck (t 10)))
 (.one (o 12 (.fa 0 (t 11)))
 (.one (o 13 (.ld1 (t 12)))
 (.one (o 14 (.len (t 13)))
 (.one (o 15 (.cmp .lss (t 9) (t 14)))
 (.one (o 16 (.mv (t 15)))
 (.one (g 17 16 (.mv (t 0)))
 (.one (g 18 16 (.nilck (t 17)))
 (.one (g 19 16 (.fa 0 (t 18)))
 (.one (g 20 16 (.ld1 (t 19)))
 (.one (g 21 16 (.mv (t 0)))
 (.one (g 22 16 (.nilck (t 21)))
 (.one (g 23 16 (.fa 1 (t 22)))
 (.one (g 24 16 (.ld1 (t 23)))
 (.one (g 25 16 (.ixs 4 (t 20) (t 24)))
 (.one (g 26 16 (.fa 0 (t 25)))
 (.one (g 27 16 (.ld1 (t 26)))
 (.one (g 28 16 (.cmp .eql (t 27) (i 4)))
 (.one (g 29 16 (.mv (t 28)))
 (.one (n 30 29 (.mv (t 0)))
 (.one (n 31 29 (.nilck (t 30)))
 (.one (n 32 29 (.fa 0 (t 31)))
 (.one (n 33 29 (.ld1 (t 32)))
 (.one (n 34 29 (.mv (t 0)))
 (.one (n 35 29 (.nilck (t 34)))
 (.one (n 36 29 (.fa 1 (t 35)))
 (.one (n 37 29 (.ld1 (t 36)))
 (.one (n 38 29 (.ixs 4 (t 33) (t 37)))
 (.one (n 39 29 (.fa 0 (t 38)))
 (.one (n 40 29 (.ld1 (t 39)))
 (.one (n 41 29 (.cmp .eql (t 40) (i 1)))
 (.one (g 42 16 (.pick (t 29) (b true) (t 41)))
 (.one (o 43 (.pick (t 16) (t 42) (b false)))
 (.one (o 44 (.mv (t 43)))
 (.one (g 46 44 (.mv (t 1)))
 (.one (g 49 44 (.mv (t 0)))
 (.one (g 50 44 (.nilck (t 49)))
 (.one (g 51 44 (.fa 0 (t 50)))
 (.one (g 53 44 (.mv (t 0)))
 (.one (g 54 44 (.nilck (t 53)))
 (.one (g 55 44 (.fa 1 (t 54)))
 (.one (g 52 44 (.ld1 (t 51)))
 (.one (g 56 44 (.ld1 (t 55)))
 (.one (g 57 44 (.ixs 4 (t 52) (t 56)))
 (.chk [g 56 44 (.ld1 (t 55)), g 52 44 (.ld1 (t 51))] (.one (g 58 44 (.fa 1 (t 57)))
 (.chk [g 56 44 (.ld1 (t 55)), g 52 44 (.ld1 (t 51))] (.one (g 59 44 (.ld1 (t 58)))
 (.one (g 45 44 (.call 102 []))
 (.chk [g 59 44 (.ld1 (t 58)), g 56 44 (.ld1 (t 55)), g 52 44 (.ld1 (t 51))] (.one (g 47 44 (.ixs 1 (t 45) (t 46)))
 (.chk [g 59 44 (.ld1 (t 58)), g 56 44 (.ld1 (t 55)), g 52 44 (.ld1 (t 51))] (.one (g 48 44 (.ld1 (t 47)))
 (.chk [g 59 44 (.ld1 (t 58)), g 56 44 (.ld1 (t 55)), g 52 44 (.ld1 (t 51))] (.one (g 60 44 (.look .str (.bool false) false (t 48) (t 59)))
 (.chk [g 59 44 (.ld1 (t 58)), g 56 44 (.ld1 (t 55)), g 52 44 (.ld1 (t 51))] (.one (o 61 (.pick (t 44) (t 60) (b false)))
 (.chk [g 59 44 (.ld1 (t 58)), g 56 44 (.ld1 (t 55)), g 52 44 (.ld1 (t 51))] .done)))))))))))))))))))))))))))))))))))))))))))))))))))))))))))))))
def f189r2 : List SOper := [
 o 62 (.mv (t 0)),
 o 63 (.nilck (t 62)),
 o 64 (.fa 1 (t 63)),
 o 65 (.ld1 (t 64)),
 o 66 (.ar .add (t 65) (i 1)),
 o 67 (.nilck (t 62)),
 o 68 (.fa 1 (t 67)),
 q (.st 1 (t 68) (t 66))]
def f189r3 : List SOper := [
 o 69 (.mv (t 0)),
 o 70 (.nilck (t 69)),
 o 71 (.fa 0 (t 70)),
 o 72 (.ld1 (t 71)),
 o 73 (.mv (t 0)),
 o 74 (.nilck (t 73)),
 o 75 (.fa 1 (t 74)),
 o 76 (.ld1 (t 75)),
 o 77 (.ar .sub (t 76) (i 1)),
 o 78 (.ixs 4 (t 72) (t 77)),
 o 79 (.fa 1 (t 78)),
 o 80 (.ld1 (t 79)),
 o 4 (.mv (t 80)),
 o 5 (.mv (b true))]
def f189r4 : List SOper := [
 o 4 (.mv e),
 o 5 (.mv (b false))]
def f189 : SCode := (.seq (.ops f189r0) (.seq (.seq (.tree [6, 7, 8, 9, 10, 11, 12, 13, 14, 15, 16, 17, 18, 19, 20, 21, 22, 23, 24, 25, 26, 27, 28, 29, 30, 31, 32, 33, 34, 35, 36, 37, 38, 39, 40, 41, 42, 43, 44, 45, 46, 47, 48, 49, 50, 51, 52, 53, 54, 55, 56, 57, 58, 59, 60, 61] f189t1) (.cond (t 61) (.seq (.ops f189r2) (.seq (.ops f189r3) .ret)) .skip)) (.seq (.ops f189r4) .ret)))
def f189_ent : Ent := .code 81 f189 [.t 4, .t 5]
theorem f189_ok (oq : Nat → Value) (F : Nat → Prop) (h0 : Heap) : EntOK Tryz.prog oq F h0 189 f189_ent := ⟨soundD_of (fl := false) mixed Tryz.func189 rfl (by kernel_rfl) (by kernel_rfl) (by kernel_rfl), soundF_of (fl := false) mixed Tryz.func189 rfl (by kernel_rfl) (by kernel_rfl) (by kernel_rfl)⟩

end Go.Proofs.YtomcocbcajidcaaGreatDoor.Q
