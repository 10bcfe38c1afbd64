/-
  Functions as runs take them, computed by Lean (1).
-/
import Derived.Test.YtomcocbcajidcaaGreatDoorMKD
set_option maxRecDepth 100000
namespace Go.Proofs.YtomcocbcajidcaaGreatDoor.Q
open Go Go.Sx
/-! 6: tabor/taborlaw17.known -/
noncomputable def d6 : Cd Tryz.prog 6 := mkd Tryz.func6
/-! 8: tabor/meaning.Text -/
noncomputable def d8 : Cd Tryz.prog 8 := mkd Tryz.func8
/-! 12: tabor/keys.New -/
noncomputable def d12 : Cd Tryz.prog 12 := mkd Tryz.func12
/-! 13: (*tabor/keys.Keys).Same -/
noncomputable def d13 : Cd Tryz.prog 13 := mkd Tryz.func13
/-! 14: tabor/syntax.Check -/
noncomputable def d14 : Cd Tryz.prog 14 := mkd Tryz.func14
/-! 15: tabor/meaning.short -/
noncomputable def d15 : Cd Tryz.prog 15 := mkd Tryz.func15
/-! 16: slices.Concat[[]string,string] -/
noncomputable def d16 : Cd Tryz.prog 16 := mkd Tryz.func16
/-! 18: tabor/values.New -/
noncomputable def d18 : Cd Tryz.prog 18 := mkd Tryz.func18
/-! 19: tabor/syntax.All -/
noncomputable def d19 : Cd Tryz.prog 19 := mkd Tryz.func19
/-! 21: (*tabor/values.Heap).Spent -/
noncomputable def d21 : Cd Tryz.prog 21 := mkd Tryz.func21
/-! 23: (*tabor/keys.Keys).none -/
noncomputable def d23 : Cd Tryz.prog 23 := mkd Tryz.func23
/-! 27: tabor/syntax.deep -/
noncomputable def d27 : Cd Tryz.prog 27 := mkd Tryz.func27
/-! 29: slices.ContainsFunc[[]string,string] -/
noncomputable def d29 : Cd Tryz.prog 29 := mkd Tryz.func29
/-! 31: slices.Grow[[]string,string] -/
noncomputable def d31 : Cd Tryz.prog 31 := mkd Tryz.func31
/-! 34: tabor/syntax.All$1 -/
noncomputable def d34 : Cd Tryz.prog 34 := mkd Tryz.func34
/-! 35: tabor/syntax.All$1$1 -/
noncomputable def d35 : Cd Tryz.prog 35 := mkd Tryz.func35
/-! 36: (*tabor/meaning.run).done$1 -/
noncomputable def d36 : Cd Tryz.prog 36 := mkd Tryz.func36
/-! 39: tabor/bridge.Reply -/
noncomputable def d39 : Cd Tryz.prog 39 := mkd Tryz.func39
/-! 40: (*tabor/meaning.run).function -/
noncomputable def d40 : Cd Tryz.prog 40 := mkd Tryz.func40
/-! 41: tabor/meaning.must -/
noncomputable def d41 : Cd Tryz.prog 41 := mkd Tryz.func41
/-! 44: (*tabor/syntax.reader).block -/
noncomputable def d44 : Cd Tryz.prog 44 := mkd Tryz.func44
/-! 45: (*tabor/syntax.reader).must -/
noncomputable def d45 : Cd Tryz.prog 45 := mkd Tryz.func45
/-! 49: slices.ContainsFunc[[]tabor/api.Node,tabor/api.Node] -/
noncomputable def d49 : Cd Tryz.prog 49 := mkd Tryz.func49
/-! 50: tabor/syntax.deep$1 -/
noncomputable def d50 : Cd Tryz.prog 50 := mkd Tryz.func50
/-! 51: tabor/syntax.may$1 -/
noncomputable def d51 : Cd Tryz.prog 51 := mkd Tryz.func51
/-! 53: tabor/syntax.shapes -/
noncomputable def d53 : Cd Tryz.prog 53 := mkd Tryz.func53
/-! 56: tabor/syntax.operators -/
noncomputable def d56 : Cd Tryz.prog 56 := mkd Tryz.func56
/-! 57: slices.IndexFunc[[]string,string] -/
noncomputable def d57 : Cd Tryz.prog 57 := mkd Tryz.func57
/-! 58: slices.Clone[[]string,string] -/
noncomputable def d58 : Cd Tryz.prog 58 := mkd Tryz.func58
/-! 60: (*tabor/scopes.walker).node$1 -/
noncomputable def d60 : Cd Tryz.prog 60 := mkd Tryz.func60
/-! 61: (*tabor/scopes.walker).kids -/
noncomputable def d61 : Cd Tryz.prog 61 := mkd Tryz.func61
/-! 68: (*tabor/values.Heap).Table -/
noncomputable def d68 : Cd Tryz.prog 68 := mkd Tryz.func68
/-! 70: tabor/values.Int -/
noncomputable def d70 : Cd Tryz.prog 70 := mkd Tryz.func70
/-! 71: tabor/values.Text -/
noncomputable def d71 : Cd Tryz.prog 71 := mkd Tryz.func71
/-! 72: tabor/bridge.Reply$1 -/
noncomputable def d72 : Cd Tryz.prog 72 := mkd Tryz.func72
/-! 73: tabor/bridge.caught -/
noncomputable def d73 : Cd Tryz.prog 73 := mkd Tryz.func73
/-! 74: (*tabor/values.Heap).Len -/
noncomputable def d74 : Cd Tryz.prog 74 := mkd Tryz.func74
/-! 75: tabor/bridge.must -/
noncomputable def d75 : Cd Tryz.prog 75 := mkd Tryz.func75
/-! 76: (*tabor/bridge.walk).reply -/
noncomputable def d76 : Cd Tryz.prog 76 := mkd Tryz.func76
/-! 77: tabor/resp.Check -/
noncomputable def d77 : Cd Tryz.prog 77 := mkd Tryz.func77
/-! 78: (*tabor/meaning.run).function$1 -/
noncomputable def d78 : Cd Tryz.prog 78 := mkd Tryz.func78
/-! 80: tabor/words.all -/
noncomputable def d80 : Cd Tryz.prog 80 := mkd Tryz.func80
/-! 81: (*tabor/syntax.reader).is -/
noncomputable def d81 : Cd Tryz.prog 81 := mkd Tryz.func81
/-! 83: (*tabor/syntax.reader).take -/
noncomputable def d83 : Cd Tryz.prog 83 := mkd Tryz.func83
/-! 85: slices.IndexFunc[[]tabor/api.Node,tabor/api.Node] -/
noncomputable def d85 : Cd Tryz.prog 85 := mkd Tryz.func85
/-! 86: tabor/syntax.count -/
noncomputable def d86 : Cd Tryz.prog 86 := mkd Tryz.func86
/-! 87: tabor/syntax.exprs -/
noncomputable def d87 : Cd Tryz.prog 87 := mkd Tryz.func87
/-! 94: tabor/syntax.shapes$5 -/
noncomputable def d94 : Cd Tryz.prog 94 := mkd Tryz.func94
/-! 98: tabor/words.letter -/
noncomputable def d98 : Cd Tryz.prog 98 := mkd Tryz.func98
/-! 99: tabor/words.language -/
noncomputable def d99 : Cd Tryz.prog 99 := mkd Tryz.func99
/-! 100: tabor/words.digit -/
noncomputable def d100 : Cd Tryz.prog 100 := mkd Tryz.func100
/-! 101: slices.ContainsFunc[[]map[string]bool,map[string]bool] -/
noncomputable def d101 : Cd Tryz.prog 101 := mkd Tryz.func101
/-! 102: tabor/syntax.bonds -/
noncomputable def d102 : Cd Tryz.prog 102 := mkd Tryz.func102
/-! 103: tabor/syntax.operators$1 -/
noncomputable def d103 : Cd Tryz.prog 103 := mkd Tryz.func103
/-! 104: (*tabor/scopes.walker).block$1 -/
noncomputable def d104 : Cd Tryz.prog 104 := mkd Tryz.func104
/-! 112: (*tabor/values.Heap).take -/
noncomputable def d112 : Cd Tryz.prog 112 := mkd Tryz.func112
/-! 119: (*tabor/bridge.walk).reply$2 -/
noncomputable def d119 : Cd Tryz.prog 119 := mkd Tryz.func119
/-! 124: tabor/resp.Encode -/
noncomputable def d124 : Cd Tryz.prog 124 := mkd Tryz.func124
/-! 125: tabor/meaning.kinds -/
noncomputable def d125 : Cd Tryz.prog 125 := mkd Tryz.func125
/-! 126: tabor/words.all$1 -/
noncomputable def d126 : Cd Tryz.prog 126 := mkd Tryz.func126
/-! 127: tabor/words.blank -/
noncomputable def d127 : Cd Tryz.prog 127 := mkd Tryz.func127
/-! 132: (*tabor/syntax.reader).expr -/
noncomputable def d132 : Cd Tryz.prog 132 := mkd Tryz.func132
/-! 136: tabor/syntax.count$1 -/
noncomputable def d136 : Cd Tryz.prog 136 := mkd Tryz.func136
/-! 137: tabor/syntax.exprs$1 -/
noncomputable def d137 : Cd Tryz.prog 137 := mkd Tryz.func137
/-! 138: tabor/syntax.expression -/
noncomputable def d138 : Cd Tryz.prog 138 := mkd Tryz.func138
/-! 139: strings.FieldsSeq -/
noncomputable def d139 : Cd Tryz.prog 139 := mkd Tryz.func139
/-! 140: slices.IndexFunc[[]map[string]bool,map[string]bool] -/
noncomputable def d140 : Cd Tryz.prog 140 := mkd Tryz.func140
/-! 141: tabor/syntax.bonds$1 -/
noncomputable def d141 : Cd Tryz.prog 141 := mkd Tryz.func141
/-! 148: tabor/resp.Encode$1 -/
noncomputable def d148 : Cd Tryz.prog 148 := mkd Tryz.func148
/-! 149: tabor/resp.caught -/
noncomputable def d149 : Cd Tryz.prog 149 := mkd Tryz.func149
/-! 151: tabor/resp.must -/
noncomputable def d151 : Cd Tryz.prog 151 := mkd Tryz.func151
/-! 152: (*strings.Builder).WriteString -/
noncomputable def d152 : Cd Tryz.prog 152 := mkd Tryz.func152
/-! 154: strconv.FormatInt -/
noncomputable def d154 : Cd Tryz.prog 154 := mkd Tryz.func154
/-! 156: (*strings.Builder).String -/
noncomputable def d156 : Cd Tryz.prog 156 := mkd Tryz.func156
/-! 157: (*tabor/meaning.frame).block -/
noncomputable def d157 : Cd Tryz.prog 157 := mkd Tryz.func157
/-! 164: (*tabor/meaning.frame).returns -/
noncomputable def d164 : Cd Tryz.prog 164 := mkd Tryz.func164
/-! 168: (*tabor/meaning.frame).number -/
noncomputable def d168 : Cd Tryz.prog 168 := mkd Tryz.func168
/-! 178: strings.HasPrefix -/
noncomputable def d178 : Cd Tryz.prog 178 := mkd Tryz.func178
/-! 180: tabor/words.run -/
noncomputable def d180 : Cd Tryz.prog 180 := mkd Tryz.func180
/-! 181: strconv.ParseUint -/
noncomputable def d181 : Cd Tryz.prog 181 := mkd Tryz.func181
/-! 183: tabor/words.signs -/
noncomputable def d183 : Cd Tryz.prog 183 := mkd Tryz.func183
/-! 188: (*tabor/syntax.reader).unary -/
noncomputable def d188 : Cd Tryz.prog 188 := mkd Tryz.func188
/-! 190: tabor/syntax.bin -/
noncomputable def d190 : Cd Tryz.prog 190 := mkd Tryz.func190
/-! 191: (*tabor/syntax.reader).operand -/
noncomputable def d191 : Cd Tryz.prog 191 := mkd Tryz.func191
/-! 193: strings.FieldsSeq$1 -/
noncomputable def d193 : Cd Tryz.prog 193 := mkd Tryz.func193
/-! 198: (*strings.Builder).copyCheck -/
noncomputable def d198 : Cd Tryz.prog 198 := mkd Tryz.func198
/-! 200: internal/strconv.FormatInt -/
noncomputable def d200 : Cd Tryz.prog 200 := mkd Tryz.func200
/-! 202: (*tabor/meaning.frame).all -/
noncomputable def d202 : Cd Tryz.prog 202 := mkd Tryz.func202
/-! 214: (*tabor/values.Heap).Op -/
noncomputable def d214 : Cd Tryz.prog 214 := mkd Tryz.func214
/-! 216: internal/stringslite.HasPrefix -/
noncomputable def d216 : Cd Tryz.prog 216 := mkd Tryz.func216
/-! 218: internal/strconv.ParseUint -/
noncomputable def d218 : Cd Tryz.prog 218 := mkd Tryz.func218
/-! 221: (*tabor/syntax.reader).kind -/
noncomputable def d221 : Cd Tryz.prog 221 := mkd Tryz.func221
/-! 224: slices.Backward[[]tabor/api.NodeKind,tabor/api.NodeKind] -/
noncomputable def d224 : Cd Tryz.prog 224 := mkd Tryz.func224
/-! 232: internal/strconv.small -/
noncomputable def d232 : Cd Tryz.prog 232 := mkd Tryz.func232
/-! 245: tabor/values.operators -/
noncomputable def d245 : Cd Tryz.prog 245 := mkd Tryz.func245
/-! 253: slices.Backward[[]tabor/api.NodeKind,tabor/api.NodeKind]$1 -/
noncomputable def d253 : Cd Tryz.prog 253 := mkd Tryz.func253
/-! 299: tabor/values.arith -/
noncomputable def d299 : Cd Tryz.prog 299 := mkd Tryz.func299
/-! 320: tabor/values.number -/
noncomputable def d320 : Cd Tryz.prog 320 := mkd Tryz.func320
/-! 342: tabor/values.plus -/
noncomputable def d342 : Cd Tryz.prog 342 := mkd Tryz.func342
end Go.Proofs.YtomcocbcajidcaaGreatDoor.Q
