/-
  Functions as runs take them, computed by Lean (2).
-/
import Derived.Test.YtaeabfemedamhaaGreatDoorMKD
set_option maxRecDepth 100000
namespace Go.Proofs.YtaeabfemedamhaaGreatDoor.Q
open Go Go.Sx
/-! 5: tabor/machine.Text -/
noncomputable def d5 : Cd Tryz.prog 5 := mkd Tryz.func5
/-! 7: (*tabor/keys.Keys).Same -/
noncomputable def d7 : Cd Tryz.prog 7 := mkd Tryz.func7
/-! 10: slices.Concat[[]string,string] -/
noncomputable def d10 : Cd Tryz.prog 10 := mkd Tryz.func10
/-! 13: (*tabor/values.Heap).Spent -/
noncomputable def d13 : Cd Tryz.prog 13 := mkd Tryz.func13
/-! 15: tabor/keys.New -/
noncomputable def d15 : Cd Tryz.prog 15 := mkd Tryz.func15
/-! 20: tabor/code.Count -/
noncomputable def d20 : Cd Tryz.prog 20 := mkd Tryz.func20
/-! 23: tabor/code.ends -/
noncomputable def d23 : Cd Tryz.prog 23 := mkd Tryz.func23
/-! 27: (*tabor/machine.run).done$1 -/
noncomputable def d27 : Cd Tryz.prog 27 := mkd Tryz.func27
/-! 32: (*tabor/machine.run).steps -/
noncomputable def d32 : Cd Tryz.prog 32 := mkd Tryz.func32
/-! 34: tabor/machine.must -/
noncomputable def d34 : Cd Tryz.prog 34 := mkd Tryz.func34
/-! 41: tabor/code.all -/
noncomputable def d41 : Cd Tryz.prog 41 := mkd Tryz.func41
/-! 43: (*tabor/values.Heap).Table -/
noncomputable def d43 : Cd Tryz.prog 43 := mkd Tryz.func43
/-! 46: tabor/values.Text -/
noncomputable def d46 : Cd Tryz.prog 46 := mkd Tryz.func46
/-! 57: (*tabor/machine.run).steps$1 -/
noncomputable def d57 : Cd Tryz.prog 57 := mkd Tryz.func57
/-! 59: tabor/bridge.Reply$1 -/
noncomputable def d59 : Cd Tryz.prog 59 := mkd Tryz.func59
/-! 61: (*tabor/values.Heap).Len -/
noncomputable def d61 : Cd Tryz.prog 61 := mkd Tryz.func61
/-! 63: (*tabor/bridge.walk).reply -/
noncomputable def d63 : Cd Tryz.prog 63 := mkd Tryz.func63
/-! 67: (*tabor/syntax.reader).block -/
noncomputable def d67 : Cd Tryz.prog 67 := mkd Tryz.func67
/-! 69: tabor/syntax.Check -/
noncomputable def d69 : Cd Tryz.prog 69 := mkd Tryz.func69
/-! 73: tabor/compile.function -/
noncomputable def d73 : Cd Tryz.prog 73 := mkd Tryz.func73
/-! 75: (tabor/code.asked).operand$2 -/
noncomputable def d75 : Cd Tryz.prog 75 := mkd Tryz.func75
/-! 83: (*tabor/values.Heap).take -/
noncomputable def d83 : Cd Tryz.prog 83 := mkd Tryz.func83
/-! 102: (*tabor/values.Heap).Op -/
noncomputable def d102 : Cd Tryz.prog 102 := mkd Tryz.func102
/-! 105: (*tabor/bridge.walk).reply$2 -/
noncomputable def d105 : Cd Tryz.prog 105 := mkd Tryz.func105
/-! 111: tabor/words.all -/
noncomputable def d111 : Cd Tryz.prog 111 := mkd Tryz.func111
/-! 114: (*tabor/syntax.reader).take -/
noncomputable def d114 : Cd Tryz.prog 114 := mkd Tryz.func114
/-! 120: tabor/syntax.All$1 -/
noncomputable def d120 : Cd Tryz.prog 120 := mkd Tryz.func120
/-! 122: (*tabor/compile.maker).block -/
noncomputable def d122 : Cd Tryz.prog 122 := mkd Tryz.func122
/-! 130: strconv.FormatInt -/
noncomputable def d130 : Cd Tryz.prog 130 := mkd Tryz.func130
/-! 137: tabor/resp.Encode$1 -/
noncomputable def d137 : Cd Tryz.prog 137 := mkd Tryz.func137
/-! 140: tabor/resp.must -/
noncomputable def d140 : Cd Tryz.prog 140 := mkd Tryz.func140
/-! 144: (*strings.Builder).String -/
noncomputable def d144 : Cd Tryz.prog 144 := mkd Tryz.func144
/-! 146: tabor/words.blank -/
noncomputable def d146 : Cd Tryz.prog 146 := mkd Tryz.func146
/-! 155: slices.ContainsFunc[[]tabor/api.Node,tabor/api.Node] -/
noncomputable def d155 : Cd Tryz.prog 155 := mkd Tryz.func155
/-! 157: tabor/syntax.may$1 -/
noncomputable def d157 : Cd Tryz.prog 157 := mkd Tryz.func157
/-! 162: tabor/syntax.operators -/
noncomputable def d162 : Cd Tryz.prog 162 := mkd Tryz.func162
/-! 165: (*tabor/scopes.walker).node$1 -/
noncomputable def d165 : Cd Tryz.prog 165 := mkd Tryz.func165
/-! 173: (*tabor/compile.maker).within -/
noncomputable def d173 : Cd Tryz.prog 173 := mkd Tryz.func173
/-! 190: internal/strconv.FormatInt -/
noncomputable def d190 : Cd Tryz.prog 190 := mkd Tryz.func190
/-! 215: (*strings.Builder).copyCheck -/
noncomputable def d215 : Cd Tryz.prog 215 := mkd Tryz.func215
/-! 219: tabor/words.run -/
noncomputable def d219 : Cd Tryz.prog 219 := mkd Tryz.func219
/-! 221: tabor/words.language -/
noncomputable def d221 : Cd Tryz.prog 221 := mkd Tryz.func221
/-! 224: tabor/words.signs -/
noncomputable def d224 : Cd Tryz.prog 224 := mkd Tryz.func224
/-! 230: (*tabor/syntax.reader).unary -/
noncomputable def d230 : Cd Tryz.prog 230 := mkd Tryz.func230
/-! 233: (*tabor/syntax.reader).operand -/
noncomputable def d233 : Cd Tryz.prog 233 := mkd Tryz.func233
/-! 236: tabor/syntax.count -/
noncomputable def d236 : Cd Tryz.prog 236 := mkd Tryz.func236
/-! 244: tabor/syntax.shapes$5 -/
noncomputable def d244 : Cd Tryz.prog 244 := mkd Tryz.func244
/-! 249: slices.ContainsFunc[[]map[string]bool,map[string]bool] -/
noncomputable def d249 : Cd Tryz.prog 249 := mkd Tryz.func249
/-! 251: (*tabor/scopes.walker).block$1 -/
noncomputable def d251 : Cd Tryz.prog 251 := mkd Tryz.func251
/-! 263: internal/strconv.small -/
noncomputable def d263 : Cd Tryz.prog 263 := mkd Tryz.func263
/-! 282: internal/stringslite.HasPrefix -/
noncomputable def d282 : Cd Tryz.prog 282 := mkd Tryz.func282
/-! 285: internal/strconv.ParseUint -/
noncomputable def d285 : Cd Tryz.prog 285 := mkd Tryz.func285
/-! 291: tabor/syntax.bonds$1 -/
noncomputable def d291 : Cd Tryz.prog 291 := mkd Tryz.func291
/-! 296: tabor/syntax.count$1 -/
noncomputable def d296 : Cd Tryz.prog 296 := mkd Tryz.func296
/-! 298: tabor/syntax.expression -/
noncomputable def d298 : Cd Tryz.prog 298 := mkd Tryz.func298
/-! 309: (*tabor/compile.maker).returns -/
noncomputable def d309 : Cd Tryz.prog 309 := mkd Tryz.func309
/-! 345: strings.FieldsSeq$1 -/
noncomputable def d345 : Cd Tryz.prog 345 := mkd Tryz.func345
/-! 360: (*tabor/compile.maker).value -/
noncomputable def d360 : Cd Tryz.prog 360 := mkd Tryz.func360
/-! 362: (*tabor/compile.maker).into -/
noncomputable def d362 : Cd Tryz.prog 362 := mkd Tryz.func362
/-! 488: (*tabor/compile.maker).plain -/
noncomputable def d488 : Cd Tryz.prog 488 := mkd Tryz.func488
end Go.Proofs.YtaeabfemedamhaaGreatDoor.Q
