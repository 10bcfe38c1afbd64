/-
  Functions as runs take them, computed by Lean (1).
-/
import Derived.Test.YtaeabfemedamhaaGreatDoorMKD
set_option maxRecDepth 100000
namespace Go.Proofs.YtaeabfemedamhaaGreatDoor.Q
open Go Go.Sx
/-! 3: tabor/taborlaw20.MachineNil -/
noncomputable def d3 : Cd Tryz.prog 3 := mkd Tryz.func3
/-! 6: tabor/taborlaw20.known -/
noncomputable def d6 : Cd Tryz.prog 6 := mkd Tryz.func6
/-! 9: tabor/machine.short -/
noncomputable def d9 : Cd Tryz.prog 9 := mkd Tryz.func9
/-! 11: tabor/values.New -/
noncomputable def d11 : Cd Tryz.prog 11 := mkd Tryz.func11
/-! 14: tabor/compile.Text -/
noncomputable def d14 : Cd Tryz.prog 14 := mkd Tryz.func14
/-! 16: (*tabor/keys.Keys).none -/
noncomputable def d16 : Cd Tryz.prog 16 := mkd Tryz.func16
/-! 21: slices.ContainsFunc[[]string,string] -/
noncomputable def d21 : Cd Tryz.prog 21 := mkd Tryz.func21
/-! 26: slices.Grow[[]string,string] -/
noncomputable def d26 : Cd Tryz.prog 26 := mkd Tryz.func26
/-! 30: (*tabor/machine.run).does -/
noncomputable def d30 : Cd Tryz.prog 30 := mkd Tryz.func30
/-! 33: tabor/bridge.Reply -/
noncomputable def d33 : Cd Tryz.prog 33 := mkd Tryz.func33
/-! 40: slices.IndexFunc[[]string,string] -/
noncomputable def d40 : Cd Tryz.prog 40 := mkd Tryz.func40
/-! 42: (tabor/code.asked).operand -/
noncomputable def d42 : Cd Tryz.prog 42 := mkd Tryz.func42
/-! 45: tabor/values.Int -/
noncomputable def d45 : Cd Tryz.prog 45 := mkd Tryz.func45
/-! 55: (*tabor/machine.run).back -/
noncomputable def d55 : Cd Tryz.prog 55 := mkd Tryz.func55
/-! 58: (*tabor/machine.run).top -/
noncomputable def d58 : Cd Tryz.prog 58 := mkd Tryz.func58
/-! 60: tabor/bridge.caught -/
noncomputable def d60 : Cd Tryz.prog 60 := mkd Tryz.func60
/-! 62: tabor/bridge.must -/
noncomputable def d62 : Cd Tryz.prog 62 := mkd Tryz.func62
/-! 64: tabor/resp.Check -/
noncomputable def d64 : Cd Tryz.prog 64 := mkd Tryz.func64
/-! 68: (*tabor/syntax.reader).must -/
noncomputable def d68 : Cd Tryz.prog 68 := mkd Tryz.func68
/-! 72: tabor/syntax.All -/
noncomputable def d72 : Cd Tryz.prog 72 := mkd Tryz.func72
/-! 74: (tabor/code.asked).operand$1 -/
noncomputable def d74 : Cd Tryz.prog 74 := mkd Tryz.func74
/-! 77: (tabor/code.asked).operand$4 -/
noncomputable def d77 : Cd Tryz.prog 77 := mkd Tryz.func77
/-! 90: (*tabor/machine.run).reg -/
noncomputable def d90 : Cd Tryz.prog 90 := mkd Tryz.func90
/-! 103: tabor/machine.signs -/
noncomputable def d103 : Cd Tryz.prog 103 := mkd Tryz.func103
/-! 110: tabor/resp.Encode -/
noncomputable def d110 : Cd Tryz.prog 110 := mkd Tryz.func110
/-! 112: (*tabor/syntax.reader).is -/
noncomputable def d112 : Cd Tryz.prog 112 := mkd Tryz.func112
/-! 116: tabor/syntax.deep -/
noncomputable def d116 : Cd Tryz.prog 116 := mkd Tryz.func116
/-! 121: tabor/syntax.All$1$1 -/
noncomputable def d121 : Cd Tryz.prog 121 := mkd Tryz.func121
/-! 123: (*tabor/compile.maker).emit -/
noncomputable def d123 : Cd Tryz.prog 123 := mkd Tryz.func123
/-! 134: tabor/values.operators -/
noncomputable def d134 : Cd Tryz.prog 134 := mkd Tryz.func134
/-! 138: tabor/resp.caught -/
noncomputable def d138 : Cd Tryz.prog 138 := mkd Tryz.func138
/-! 141: (*strings.Builder).WriteString -/
noncomputable def d141 : Cd Tryz.prog 141 := mkd Tryz.func141
/-! 145: tabor/words.all$1 -/
noncomputable def d145 : Cd Tryz.prog 145 := mkd Tryz.func145
/-! 151: (*tabor/syntax.reader).expr -/
noncomputable def d151 : Cd Tryz.prog 151 := mkd Tryz.func151
/-! 156: tabor/syntax.deep$1 -/
noncomputable def d156 : Cd Tryz.prog 156 := mkd Tryz.func156
/-! 159: tabor/syntax.shapes -/
noncomputable def d159 : Cd Tryz.prog 159 := mkd Tryz.func159
/-! 163: slices.Clone[[]string,string] -/
noncomputable def d163 : Cd Tryz.prog 163 := mkd Tryz.func163
/-! 166: (*tabor/scopes.walker).kids -/
noncomputable def d166 : Cd Tryz.prog 166 := mkd Tryz.func166
/-! 174: (*tabor/compile.maker).block$1 -/
noncomputable def d174 : Cd Tryz.prog 174 := mkd Tryz.func174
/-! 211: tabor/values.arith -/
noncomputable def d211 : Cd Tryz.prog 211 := mkd Tryz.func211
/-! 217: strings.HasPrefix -/
noncomputable def d217 : Cd Tryz.prog 217 := mkd Tryz.func217
/-! 220: tabor/words.letter -/
noncomputable def d220 : Cd Tryz.prog 220 := mkd Tryz.func220
/-! 222: strconv.ParseUint -/
noncomputable def d222 : Cd Tryz.prog 222 := mkd Tryz.func222
/-! 229: tabor/syntax.bonds -/
noncomputable def d229 : Cd Tryz.prog 229 := mkd Tryz.func229
/-! 232: tabor/syntax.bin -/
noncomputable def d232 : Cd Tryz.prog 232 := mkd Tryz.func232
/-! 235: slices.IndexFunc[[]tabor/api.Node,tabor/api.Node] -/
noncomputable def d235 : Cd Tryz.prog 235 := mkd Tryz.func235
/-! 237: tabor/syntax.exprs -/
noncomputable def d237 : Cd Tryz.prog 237 := mkd Tryz.func237
/-! 248: tabor/words.digit -/
noncomputable def d248 : Cd Tryz.prog 248 := mkd Tryz.func248
/-! 250: tabor/syntax.operators$1 -/
noncomputable def d250 : Cd Tryz.prog 250 := mkd Tryz.func250
/-! 258: tabor/compile.statements -/
noncomputable def d258 : Cd Tryz.prog 258 := mkd Tryz.func258
/-! 276: tabor/values.number -/
noncomputable def d276 : Cd Tryz.prog 276 := mkd Tryz.func276
/-! 284: strings.FieldsSeq -/
noncomputable def d284 : Cd Tryz.prog 284 := mkd Tryz.func284
/-! 288: (*tabor/syntax.reader).kind -/
noncomputable def d288 : Cd Tryz.prog 288 := mkd Tryz.func288
/-! 292: slices.Backward[[]tabor/api.NodeKind,tabor/api.NodeKind] -/
noncomputable def d292 : Cd Tryz.prog 292 := mkd Tryz.func292
/-! 297: tabor/syntax.exprs$1 -/
noncomputable def d297 : Cd Tryz.prog 297 := mkd Tryz.func297
/-! 299: slices.IndexFunc[[]map[string]bool,map[string]bool] -/
noncomputable def d299 : Cd Tryz.prog 299 := mkd Tryz.func299
/-! 338: tabor/values.plus -/
noncomputable def d338 : Cd Tryz.prog 338 := mkd Tryz.func338
/-! 354: slices.Backward[[]tabor/api.NodeKind,tabor/api.NodeKind]$1 -/
noncomputable def d354 : Cd Tryz.prog 354 := mkd Tryz.func354
/-! 361: (*tabor/compile.maker).take -/
noncomputable def d361 : Cd Tryz.prog 361 := mkd Tryz.func361
/-! 412: tabor/compile.exprs -/
noncomputable def d412 : Cd Tryz.prog 412 := mkd Tryz.func412
/-! 577: tabor/compile.operators -/
noncomputable def d577 : Cd Tryz.prog 577 := mkd Tryz.func577
end Go.Proofs.YtaeabfemedamhaaGreatDoor.Q
