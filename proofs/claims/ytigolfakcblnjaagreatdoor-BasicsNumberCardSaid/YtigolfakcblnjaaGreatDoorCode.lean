/-
  The simplified code of this seat's functions, and that it is what the program's code comes to. Printed by a program (wip/print.lean).
-/
import Derived.Test.YtigolfakcblnjaaGreatDoorSxO
import Derived.Test.YtigolfakcblnjaaGreatDoorProg
set_option maxRecDepth 100000
namespace Go.Proofs.YtigolfakcblnjaaGreatDoor.C
open Go Go.Sx Go.Sx.S

theorem mixed : Tryz.prog.follows .mixedOrders = true := by kernel_rfl

/-! 0: main.main: not simplified -/
/-! 1: gosem.cut: not simplified -/
/-! 2: gosem.cut.init: not simplified -/
/-! 3: tabor/taborlaw08.BasicsNumber -/
def f3r0 : List SOper := [
 o 2 (.mv (b false))]
def f3r1 : List SOper := [
 o 7 (.mv (t 0)),
 o 8 (.lens (t 7)),
 o 9 (.cmp .gtr (t 8) (i 300))]
def f3r2 : List SOper := [
 o 10 (.call 11 []),
 o 2 (.mv (t 10))]
def f3r3 : List SOper := [
 o 12 (.mv (t 0)),
 o 13 (.call 12 [(t 12)]),
 o 11 (.mv (t 13)),
 o 14 (.ext (t 11) 0),
 o 15 (.ext (t 11) 1),
 o 3 (.mv (t 14)),
 o 4 (.mv (t 15))]
def f3r4 : List SOper := [
 o 17 (.mv (t 0)),
 o 18 (.call 13 [(t 17)]),
 o 16 (.mv (t 18)),
 o 19 (.ext (t 16) 0),
 o 20 (.ext (t 16) 1),
 o 5 (.mv (t 19)),
 o 6 (.mv (t 20))]
def f3r5 : List SOper := [
 o 21 (.mv (t 3)),
 o 22 (.mv (t 5)),
 o 23 (.cmp .eql (t 21) (t 22)),
 o 24 (.mv (t 23)),
 g 25 24 (.mv (t 4)),
 g 26 24 (.mv (t 6)),
 g 27 24 (.cmpb false (t 25) (t 26)),
 o 28 (.pick (t 24) (t 27) (b false)),
 o 29 (.mv (t 28)),
 g 30 29 (.call 11 []),
 o 31 (.pick (t 29) (t 30) (b false)),
 o 2 (.mv (t 31))]
def f3 : SCode := (.seq (.ops f3r0) (.seq (.seq (.ops f3r1) (.cond (t 9) (.seq (.ops f3r2) .ret) .skip)) (.seq (.ops f3r3) (.seq (.ops f3r4) (.seq (.ops f3r5) .ret)))))
theorem f3_calls : Sound Tryz.prog 3 32 f3 [.t 2] := sound_of mixed Tryz.func3 rfl (by kernel_rfl) (by kernel_rfl) (by kernel_rfl)

/-! 4: tabor/taborlaw08.BasicsNames: not simplified -/
/-! 5: tabor/taborlaw08.BasicsSame: not simplified -/
/-! 6: tabor/taborlaw08.BasicsCounts: not simplified -/
/-! 7: tabor/taborlaw08.BasicsMany: not simplified -/
/-! 8: tabor/taborlaw08.BasicsDrops: not simplified -/
/-! 9: tabor/taborlaw08.BasicsEffects: not simplified -/
/-! 10: tabor/taborlaw08.BasicsTold: not simplified -/
/-! 11: tabor/taborlaw08.known: not simplified -/
/-! 12: tabor/basics.Number -/
def f12r0 : List SOper := [
 o 2 (.mv (i 0)),
 o 3 (.mv (b false))]
def f12r1 : List SOper := [
 o 7 (.mv (t 0)),
 o 8 (.call 32 [(t 7), (i 10), (i 64)]),
 o 6 (.mv (t 8)),
 o 9 (.ext (t 6) 0),
 o 10 (.ext (t 6) 1),
 o 4 (.mv (t 9)),
 o 5 (.mv (t 10))]
def f12r2 : List SOper := [
 o 11 (.mv (t 5)),
 o 12 (.eqn 4 true (t 11)),
 o 13 (.mv (t 12)),
 n 14 13 (.mv (t 4)),
 n 15 13 (.call 33 [(t 14), (i 10)]),
 n 16 13 (.mv (t 0)),
 n 17 13 (.cmp .neq (t 15) (t 16)),
 o 18 (.pick (t 13) (b true) (t 17))]
def f12r3 : List SOper := [
 o 2 (.mv (i 0)),
 o 3 (.mv (b false))]
def f12r4 : List SOper := [
 o 19 (.mv (t 4)),
 o 2 (.mv (t 19)),
 o 3 (.mv (b true))]
def f12 : SCode := (.seq (.ops f12r0) (.seq (.ops f12r1) (.seq (.seq (.ops f12r2) (.cond (t 18) (.seq (.ops f12r3) .ret) .skip)) (.seq (.ops f12r4) .ret))))
theorem f12_calls : Sound Tryz.prog 12 20 f12 [.t 2, .t 3] := sound_of mixed Tryz.func12 rfl (by kernel_rfl) (by kernel_rfl) (by kernel_rfl)

/-! 13: tabor/taborref08.Number -/
def f13r0 : List SOper := [
 o 2 (.mv (i 0)),
 o 3 (.mv (b false))]
def f13r1 : List SOper := [
 o 9 (.mv (t 0)),
 o 10 (.cmp .eql (t 9) e),
 o 11 (.mv (t 10)),
 n 12 11 (.mv (t 0)),
 n 13 11 (.lens (t 12)),
 n 14 11 (.cmp .gtr (t 13) (i 20)),
 o 15 (.pick (t 11) (b true) (t 14))]
def f13r2 : List SOper := [
 o 2 (.mv (i 0)),
 o 3 (.mv (b false))]
def f13r3 : List SOper := [
 o 16 (.mv (t 0)),
 o 17 (.ixc (t 16) (i 0)),
 o 18 (.cmp .eql (t 17) (.const (.int .u8 45))),
 o 4 (.mv (t 18))]
def f13r4 : List SOper := [
 o 19 (.mv (t 0)),
 o 5 (.mv (t 19))]
def f13r5 : List SOper := [
 o 20 (.mv (t 4))]
def f13r6 : List SOper := [
 o 21 (.mv (t 0)),
 o 22 (.sls (t 21) (some (i 1)) none),
 o 5 (.mv (t 22))]
def f13r7 : List SOper := [
 o 23 (.mv (t 5)),
 o 24 (.cmp .eql (t 23) e),
 o 25 (.mv (t 24)),
 n 26 25 (.mv (t 5)),
 n 27 25 (.lens (t 26)),
 n 28 25 (.cmp .gtr (t 27) (i 1)),
 n 29 25 (.mv (t 28)),
 g 30 29 (.mv (t 5)),
 g 31 29 (.ixc (t 30) (i 0)),
 g 32 29 (.cmp .eql (t 31) (.const (.int .u8 48))),
 n 33 25 (.pick (t 29) (t 32) (b false)),
 o 34 (.pick (t 25) (b true) (t 33)),
 o 35 (.mv (t 34)),
 n 36 35 (.mv (t 4)),
 n 37 35 (.mv (t 36)),
 g 38 37 (.mv (t 5)),
 g 39 37 (.cmp .eql (t 38) (.const (.string ⟨#[48]⟩))),
 n 40 35 (.pick (t 37) (t 39) (b false)),
 o 41 (.pick (t 35) (b true) (t 40))]
def f13r8 : List SOper := [
 o 2 (.mv (i 0)),
 o 3 (.mv (b false))]
def f13r9 : List SOper := [
 o 6 (.mv (i 0))]
def f13r10 : List SOper := [
 o 7 (.mv (i 0))]
def f13r11 : List SOper := [
 o 42 (.mv (t 7)),
 o 43 (.mv (t 5)),
 o 44 (.lens (t 43)),
 o 45 (.cmp .lss (t 42) (t 44))]
def f13r12 : List SOper := [
 o 48 (.mv (t 5)),
 o 49 (.mv (t 7)),
 o 50 (.ixc (t 48) (t 49)),
 o 51 (.cmp .lss (t 50) (.const (.int .u8 48))),
 o 52 (.mv (t 51)),
 n 53 52 (.mv (t 5)),
 n 54 52 (.mv (t 7)),
 n 55 52 (.ixc (t 53) (t 54)),
 n 56 52 (.cmp .gtr (t 55) (.const (.int .u8 57))),
 o 57 (.pick (t 52) (b true) (t 56))]
def f13r13 : List SOper := [
 o 2 (.mv (i 0)),
 o 3 (.mv (b false))]
def f13r14 : List SOper := [
 o 58 (.mv (t 5)),
 o 59 (.mv (t 7)),
 o 60 (.ixc (t 58) (t 59)),
 o 61 (.ar .sub (t 60) (.const (.int .u8 48))),
 o 62 (.cvt .i64 (t 61)),
 o 8 (.mv (t 62))]
def f13r15 : List SOper := [
 o 63 (.mv (t 6)),
 o 64 (.mv (t 8)),
 o 65 (.ar .add (i (-9223372036854775808)) (t 64)),
 o 66 (.quo (t 65) (i 10)),
 o 67 (.cmp .lss (t 63) (t 66))]
def f13r16 : List SOper := [
 o 2 (.mv (i 0)),
 o 3 (.mv (b false))]
def f13r17 : List SOper := [
 o 68 (.mv (t 6)),
 o 69 (.ar .mul (t 68) (i 10)),
 o 70 (.mv (t 8)),
 o 71 (.ar .sub (t 69) (t 70)),
 o 6 (.mv (t 71))]
def f13r18 : List SOper := [
 o 46 (.mv (t 7)),
 o 47 (.ar .add (t 46) (i 1)),
 o 7 (.mv (t 47))]
def f13l19 : SCode := (.seq (.seq (.ops f13r11) (.cond (t 45) .skip (.exit 0))) (.seq (.block 1 (.seq (.seq (.ops f13r12) (.cond (t 57) (.seq (.ops f13r13) .ret) .skip)) (.seq (.ops f13r14) (.seq (.seq (.ops f13r15) (.cond (t 67) (.seq (.ops f13r16) .ret) .skip)) (.ops f13r17))))) (.ops f13r18)))
def f13r20 : List SOper := [
 o 72 (.mv (t 4))]
def f13r21 : List SOper := [
 o 73 (.mv (t 6)),
 o 2 (.mv (t 73)),
 o 3 (.mv (b true))]
def f13r22 : List SOper := [
 o 74 (.mv (t 6)),
 o 75 (.cmp .eql (t 74) (i (-9223372036854775808)))]
def f13r23 : List SOper := [
 o 2 (.mv (i 0)),
 o 3 (.mv (b false))]
def f13r24 : List SOper := [
 o 76 (.mv (t 6)),
 o 77 (.un .neg (t 76)),
 o 2 (.mv (t 77)),
 o 3 (.mv (b true))]
def f13 : SCode := (.seq (.ops f13r0) (.seq (.seq (.ops f13r1) (.cond (t 15) (.seq (.ops f13r2) .ret) .skip)) (.seq (.ops f13r3) (.seq (.ops f13r4) (.seq (.seq (.ops f13r5) (.cond (t 20) (.ops f13r6) .skip)) (.seq (.seq (.ops f13r7) (.cond (t 41) (.seq (.ops f13r8) .ret) .skip)) (.seq (.ops f13r9) (.seq (.seq (.ops f13r10) (.block 0 (.loop f13l19))) (.seq (.seq (.ops f13r20) (.cond (t 72) (.seq (.ops f13r21) .ret) .skip)) (.seq (.seq (.ops f13r22) (.cond (t 75) (.seq (.ops f13r23) .ret) .skip)) (.seq (.ops f13r24) .ret)))))))))))
theorem f13_calls : Sound Tryz.prog 13 78 f13 [.t 2, .t 3] := sound_of mixed Tryz.func13 rfl (by kernel_rfl) (by kernel_rfl) (by kernel_rfl)

/-! 14: tabor/basics.Names: not simplified -/
/-! 15: tabor/taborref08.Names: not simplified -/
/-! 16: tabor/taborref08.Word: not simplified -/
/-! 17: tabor/basics.Do: not simplified -/
/-! 18: tabor/keys.New: not simplified -/
/-! 19: tabor/taborlaw08.wide: not simplified -/
/-! 20: tabor/basics.Fail: not simplified -/
/-! 21: tabor/basics.Same: not simplified -/
/-! 22: tabor/taborref08.Same: not simplified -/
/-! 23: tabor/taborlaw08.vast: not simplified -/
/-! 24: tabor/taborlaw08.does: not simplified -/
/-! 25: tabor/keys.Of: not simplified -/
/-! 26: tabor/taborref07.Of: not simplified -/
/-! 27: tabor/basics.Drops: not simplified -/
/-! 28: tabor/taborref07.Find: not simplified -/
/-! 29: tabor/taborref07.Get: not simplified -/
/-! 30: (*tabor/keys.Keys).Apply: not simplified -/
/-! 31: tabor/taborref08.Digits: not simplified -/
/-! 32: strconv.ParseInt: not simplified -/
/-! 33: strconv.FormatInt: not simplified -/
/-! 34: slices.Sorted[string]: not simplified -/
/-! 35: maps.Keys[map[string]func(a *tabor/basics.asked) tabor/api.Reply,string,func(a *tabor/basics.asked) tabor/api.Reply]: not simplified -/
/-! 36: tabor/basics.commands: not simplified -/
/-! 37: (*tabor/keys.Keys).Same: not simplified -/
/-! 38: tabor/basics.word: not simplified -/
/-! 39: tabor/basics.Do$1: not simplified -/
/-! 40: slices.EqualFunc[[]tabor/api.Reply,[]tabor/api.Reply,tabor/api.Reply,tabor/api.Reply]: not simplified -/
/-! 41: tabor/taborlaw08.large: not simplified -/
/-! 42: tabor/taborref08.Do: not simplified -/
/-! 43: tabor/taborref08.SameEffects: not simplified -/
/-! 44: tabor/taborlaw08.same: not simplified -/
/-! 45: tabor/keys.Check: not simplified -/
/-! 46: tabor/keys.copied: not simplified -/
/-! 47: tabor/taborref07.Check: not simplified -/
/-! 48: tabor/taborref07.Put: not simplified -/
/-! 49: (*tabor/keys.Keys).Look: not simplified -/
/-! 50: (*tabor/keys.Keys).Get: not simplified -/
/-! 51: tabor/taborref07.Less: not simplified -/
/-! 52: (*tabor/keys.Keys).none: not simplified -/
/-! 53: (*tabor/keys.Keys).one: not simplified -/
/-! 54: internal/strconv.ParseInt: not simplified -/
/-! 55: strconv.toError: not simplified -/
/-! 56: internal/strconv.FormatInt: not simplified -/
/-! 57: slices.Collect[string]: not simplified -/
/-! 58: slices.Sort[[]string,string]: not simplified -/
/-! 59: maps.Keys[map[string]func(a *tabor/basics.asked) tabor/api.Reply,string,func(a *tabor/basics.asked) tabor/api.Reply]$1: not simplified -/
/-! 60: tabor/basics.set: not simplified -/
/-! 61: tabor/basics.get: not simplified -/
/-! 62: tabor/basics.del: not simplified -/
/-! 63: tabor/basics.exists: not simplified -/
/-! 64: tabor/basics.kind: not simplified -/
/-! 65: tabor/basics.step: not simplified -/
/-! 66: tabor/basics.commands$1: not simplified -/
/-! 67: (*tabor/basics.asked).many: not simplified -/
/-! 68: tabor/basics.by: not simplified -/
/-! 69: (*tabor/basics.asked).number: not simplified -/
/-! 70: tabor/basics.more: not simplified -/
/-! 71: tabor/basics.long: not simplified -/
/-! 72: tabor/basics.mget: not simplified -/
/-! 73: tabor/basics.mset: not simplified -/
/-! 74: tabor/basics.expire: not simplified -/
/-! 75: tabor/basics.persist: not simplified -/
/-! 76: tabor/basics.left: not simplified -/
/-! 77: tabor/basics.names: not simplified -/
/-! 78: tabor/basics.size: not simplified -/
/-! 79: tabor/basics.flush: not simplified -/
/-! 80: maps.EqualFunc[map[string]*tabor/api.Thing,map[string]*tabor/api.Thing,string,*tabor/api.Thing,*tabor/api.Thing]: not simplified -/
/-! 81: (*tabor/keys.Keys).Same$1: not simplified -/
/-! 82: tabor/keys.SameThing: not simplified -/
/-! 83: tabor/taborref08.bounds: not simplified -/
/-! 84: (*tabor/taborref08.Asked).Many: not simplified -/
/-! 85: tabor/taborref08.Fail: not simplified -/
/-! 86: (*tabor/taborref08.Asked).reply: not simplified -/
/-! 87: (*tabor/keys.Keys).All: not simplified -/
/-! 88: tabor/taborref07.SameThing: not simplified -/
/-! 89: tabor/keys.count: not simplified -/
/-! 90: tabor/keys.short: not simplified -/
/-! 91: tabor/keys.names: not simplified -/
/-! 92: tabor/keys.rising[tabor/api.Pair]: not simplified -/
/-! 93: tabor/keys.Check$1: not simplified -/
/-! 94: strings.Compare: not simplified -/
/-! 95: tabor/keys.rising[string]: not simplified -/
/-! 96: tabor/keys.rising[tabor/api.Rank]: not simplified -/
/-! 97: tabor/keys.ahead: not simplified -/
/-! 98: tabor/keys.once: not simplified -/
/-! 99: slices.Clone[[]tabor/api.Pair,tabor/api.Pair]: not simplified -/
/-! 100: slices.Clone[[]string,string]: not simplified -/
/-! 101: slices.Clone[[]tabor/api.Rank,tabor/api.Rank]: not simplified -/
/-! 102: tabor/taborref07.Ahead: not simplified -/
/-! 103: tabor/keys.gone: not simplified -/
/-! 104: tabor/keys.rules: not simplified -/
/-! 105: internal/strconv.ParseUint: not simplified -/
/-! 106: strconv.syntaxError: not simplified -/
/-! 107: strconv.rangeError: not simplified -/
/-! 108: strconv.baseError: not simplified -/
/-! 109: strconv.bitSizeError: not simplified -/
/-! 110: internal/strconv.small: not simplified -/
/-! 111: internal/strconv.numDigits: not simplified -/
/-! 112: internal/strconv.formatBase10: not simplified -/
/-! 113: internal/strconv.formatBits: not simplified -/
/-! 114: slices.AppendSeq[[]string,string]: not simplified -/
/-! 115: slices.pdqsortOrdered[string]: not simplified -/
/-! 116: math/bits.Len: not simplified -/
/-! 117: tabor/basics.must: not simplified -/
/-! 118: tabor/basics.plus: not simplified -/
/-! 119: (*tabor/basics.asked).put: not simplified -/
/-! 120: (*tabor/basics.asked).add: not simplified -/
/-! 121: tabor/basics.ok: not simplified -/
/-! 122: (*tabor/basics.asked).text: not simplified -/
/-! 123: tabor/basics.text: not simplified -/
/-! 124: tabor/basics.number: not simplified -/
/-! 125: tabor/basics.step$1: not simplified -/
/-! 126: tabor/basics.list: not simplified -/
/-! 127: tabor/basics.minus: not simplified -/
/-! 128: (*tabor/keys.Keys).Names: not simplified -/
/-! 129: (*tabor/keys.Keys).Size: not simplified -/
/-! 130: slices.Equal[[]tabor/api.Pair,tabor/api.Pair]: not simplified -/
/-! 131: slices.Equal[[]string,string]: not simplified -/
/-! 132: slices.Equal[[]tabor/api.Rank,tabor/api.Rank]: not simplified -/
/-! 133: (*tabor/taborref08.Asked).set: not simplified -/
/-! 134: (*tabor/taborref08.Asked).text: not simplified -/
/-! 135: (*tabor/taborref08.Asked).count: not simplified -/
/-! 136: tabor/taborref08.Status: not simplified -/
/-! 137: (*tabor/taborref08.Asked).Num: not simplified -/
/-! 138: (*tabor/taborref08.Asked).by: not simplified -/
/-! 139: (*tabor/taborref08.Asked).texts: not simplified -/
/-! 140: (*tabor/taborref08.Asked).times: not simplified -/
/-! 141: (*tabor/taborref08.Asked).whole: not simplified -/
/-! 142: (*tabor/keys.Keys).All$1: not simplified -/
/-! 143: maps.Keys[map[string]*tabor/api.Thing,string,*tabor/api.Thing]: not simplified -/
/-! 144: slices.ContainsFunc[[]string,string]: not simplified -/
/-! 145: tabor/keys.short$1: not simplified -/
/-! 146: internal/bytealg.CompareString: not simplified -/
/-! 147: tabor/keys.rules$1: not simplified -/
/-! 148: tabor/keys.rules$2: not simplified -/
/-! 149: tabor/keys.rules$3: not simplified -/
/-! 150: tabor/keys.rules$4: not simplified -/
/-! 151: tabor/keys.hash: not simplified -/
/-! 152: tabor/keys.unhash: not simplified -/
/-! 153: tabor/keys.rules$5: not simplified -/
/-! 154: slices.Insert[[]string,string]: not simplified -/
/-! 155: tabor/keys.rules$6: not simplified -/
/-! 156: tabor/keys.rules$7: not simplified -/
/-! 157: tabor/keys.rules$8: not simplified -/
/-! 158: tabor/keys.at: not simplified -/
/-! 159: tabor/keys.add: not simplified -/
/-! 160: tabor/keys.remove: not simplified -/
/-! 161: tabor/keys.rank: not simplified -/
/-! 162: tabor/keys.unrank: not simplified -/
/-! 163: internal/strconv.lower: not simplified -/
/-! 164: internal/strconv.underscoreOK: not simplified -/
/-! 165: internal/stringslite.Clone: not simplified -/
/-! 166: errors.New: not simplified -/
/-! 167: strconv.Itoa: not simplified -/
/-! 168: internal/strconv.log10Pow2: not simplified -/
/-! 169: math/bits.Len64: not simplified -/
/-! 170: internal/strconv.bool2[int]: not simplified -/
/-! 171: internal/strconv.isPowerOfTwo: not simplified -/
/-! 172: math/bits.TrailingZeros: not simplified -/
/-! 173: slices.insertionSortOrdered[string]: not simplified -/
/-! 174: slices.heapSortOrdered[string]: not simplified -/
/-! 175: slices.breakPatternsOrdered[string]: not simplified -/
/-! 176: slices.choosePivotOrdered[string]: not simplified -/
/-! 177: slices.reverseRangeOrdered[string]: not simplified -/
/-! 178: slices.partialInsertionSortOrdered[string]: not simplified -/
/-! 179: cmp.Less[string]: not simplified -/
/-! 180: slices.partitionEqualOrdered[string]: not simplified -/
/-! 181: slices.partitionOrdered[string]: not simplified -/
/-! 182: math/bits.Len32: not simplified -/
/-! 183: (*tabor/taborref08.Asked).Plus: not simplified -/
/-! 184: (*tabor/taborref08.Asked).put: not simplified -/
/-! 185: (*tabor/taborref08.Asked).Thing: not simplified -/
/-! 186: tabor/taborref08.Int: not simplified -/
/-! 187: tabor/taborref08.Text: not simplified -/
/-! 188: (*tabor/taborref08.Asked).named: not simplified -/
/-! 189: (*tabor/taborref08.Asked).Gone: not simplified -/
/-! 190: tabor/taborref07.Names: not simplified -/
/-! 191: maps.Keys[map[string]*tabor/api.Thing,string,*tabor/api.Thing]$1: not simplified -/
/-! 192: slices.IndexFunc[[]string,string]: not simplified -/
/-! 193: internal/bytealg.abigen_runtime_cmpstring: not simplified -/
/-! 194: tabor/keys.byName[tabor/api.Pair]: not simplified -/
/-! 195: tabor/keys.pairName: not simplified -/
/-! 196: slices.Insert[[]tabor/api.Pair,tabor/api.Pair]: not simplified -/
/-! 197: slices.Delete[[]tabor/api.Pair,tabor/api.Pair]: not simplified -/
/-! 198: slices.overlaps[string]: not simplified -/
/-! 199: slices.rotateRight[string]: not simplified -/
/-! 200: tabor/keys.byName[string]: not simplified -/
/-! 201: tabor/keys.itself: not simplified -/
/-! 202: slices.Delete[[]string,string]: not simplified -/
/-! 203: slices.BinarySearchFunc[[]tabor/api.Rank,tabor/api.Rank,tabor/api.Rank]: not simplified -/
/-! 204: slices.Insert[[]tabor/api.Rank,tabor/api.Rank]: not simplified -/
/-! 205: slices.IndexFunc[[]tabor/api.Rank,tabor/api.Rank]: not simplified -/
/-! 206: tabor/keys.unrank$1: not simplified -/
/-! 207: slices.Delete[[]tabor/api.Rank,tabor/api.Rank]: not simplified -/
/-! 208: internal/strconv.Itoa: not simplified -/
/-! 209: math/bits.TrailingZeros32: not simplified -/
/-! 210: math/bits.TrailingZeros64: not simplified -/
/-! 211: slices.siftDownOrdered[string]: not simplified -/
/-! 212: slices.nextPowerOfTwo: not simplified -/
/-! 213: (*slices.xorshift).Next: not simplified -/
/-! 214: slices.medianAdjacentOrdered[string]: not simplified -/
/-! 215: slices.medianOrdered[string]: not simplified -/
/-! 216: cmp.isNaN[string]: not simplified -/
/-! 217: slices.BinarySearchFunc[[]tabor/api.Pair,tabor/api.Pair,string]: not simplified -/
/-! 218: tabor/keys.byName[tabor/api.Pair]$1: not simplified -/
/-! 219: slices.overlaps[tabor/api.Pair]: not simplified -/
/-! 220: slices.rotateRight[tabor/api.Pair]: not simplified -/
/-! 221: slices.rotateLeft[string]: not simplified -/
/-! 222: slices.BinarySearchFunc[[]string,string,string]: not simplified -/
/-! 223: tabor/keys.byName[string]$1: not simplified -/
/-! 224: slices.overlaps[tabor/api.Rank]: not simplified -/
/-! 225: slices.rotateRight[tabor/api.Rank]: not simplified -/
/-! 226: slices.order2Ordered[string]: not simplified -/
/-! 227: slices.rotateLeft[tabor/api.Pair]: not simplified -/
/-! 228: slices.Reverse[[]string,string]: not simplified -/
/-! 229: slices.rotateLeft[tabor/api.Rank]: not simplified -/
/-! 230: slices.Reverse[[]tabor/api.Pair,tabor/api.Pair]: not simplified -/
/-! 231: slices.Reverse[[]tabor/api.Rank,tabor/api.Rank]: not simplified -/
/-! 232: (runtime.boundsError).Error: not simplified -/
/-! 233: (runtime.boundsError).RuntimeError: not simplified -/
/-! 234: (runtime.errorString).Error: not simplified -/
/-! 235: (runtime.errorString).RuntimeError: not simplified -/
/-! 236: (runtime.plainError).Error: not simplified -/
/-! 237: (runtime.plainError).RuntimeError: not simplified -/
/-! 238: (runtime.errorAddressString).Error: not simplified -/
/-! 239: (runtime.errorAddressString).RuntimeError: not simplified -/
/-! 240: (*runtime.TypeAssertionError).Error: not simplified -/
/-! 241: (*runtime.TypeAssertionError).RuntimeError: not simplified -/
/-! 242: (*runtime.PanicNilError).Error: not simplified -/
/-! 243: (*runtime.PanicNilError).RuntimeError: not simplified -/
/-! 244: (*internal/abi.Type).Align: not simplified -/
/-! 245: (internal/runtime/maps.unhashableTypeError).Error: not simplified -/
/-! 246: (internal/runtime/maps.unhashableTypeError).RuntimeError: not simplified -/
/-! 247: (tabor/api.Errno).Error: not simplified -/
/-! 248: (internal/strconv.Error).Error: not simplified -/
/-! 249: (*strconv.NumError).Error: not simplified -/
/-! 250: (*errors.errorString).Error: not simplified -/
/-! 251: (internal/abi.Kind).String: not simplified -/
/-! 252: var's door: gosem.cut.vars holds initialisers alone; see the manifest's row cutvarsword (look 11, test files too): not simplified -/
/-! 253: var's door: internal/strconv.uint64pow10 is laid by its own initialiser, plain data (look 11): not simplified -/
/-! 254: var's door: math/bits.deBruijn32tab is laid by its own initialiser, plain data (look 11): not simplified -/
/-! 255: var's door: math/bits.deBruijn64tab is laid by its own initialiser, plain data (look 11): not simplified -/
/-! 256: var's door: strconv.ErrRange is laid by its own call of errors.New on one literal (look 11): not simplified -/
/-! 257: var's door: strconv.ErrSyntax is laid by its own call of errors.New on one literal (look 11): not simplified -/
/-! 258: var's door: the look of gosem.cut.vars went over the folder that the caller named as the repository's root (look 11): not simplified -/
/-! 259: gosem.cut.vars: not simplified -/
end Go.Proofs.YtigolfakcblnjaaGreatDoor.C
