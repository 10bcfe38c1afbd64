/-
  Layer 8: a command that is asked: a text, a number of its arguments, a text that is put.
  Contracts of the library's functions, laid at this dump. Printed by a program (mklay.py).
  Layer 8: which texts are numbers, in plain words: what the library's parsing and printing come to is what the document's reading comes to.
  Layer 8: a text's number, by the program: the library's ParseInt and FormatInt by their contracts.
  Layer 8: a text is put; an argument's number; sums; replies.
  Layer 8: replies, sums, an argument's number; a number is added to one.
  The state of a walk: what stands in blocks of the call's own, each apart from the others.
  Layer 8: a command that is asked, as what stands in a walk.
  Layer 8: GET, STRLEN, INCR, DECR, INCRBY, APPEND.
  Layer 8: INCR, DECR, INCRBY, APPEND.
  Layer 8: what the commands come to; plain.
  Layer 9: what the commands of things with items come to; plain.
  Layer 9: a command that is asked of a thing: its block as an entry; giving up.
  The simplified code of this seat's functions, and that it is what the program's code comes to. Printed by a program (wip/print.lean).
  The simplified code of this seat's functions, and that it is what the program's code comes to. Printed by a program (wip/print.lean).
  The simplified code of this seat's functions, and that it is what the program's code comes to. Printed by a program (wip/print.lean).
  The simplified code of this seat's functions, and that it is what the program's code comes to. Printed by a program (wip/print.lean).
  Layer 9: giving up; how many arguments; the thing under the key; a number; effects. (Not built yet: written from the printed code.)
  Layer 9: the thing under the key; an effect that makes something, that takes away. (Not built yet: written from the printed code.)
  Layer 8: TYPE, PERSIST, PTTL, PEXPIRE, DBSIZE.
  Layer 8: EXISTS, DEL, DBSIZE.
  Layer 8: MGET, KEYS, DEL, MSET.
  Layer 9: replies that are lists; places. (Written by gencd.py.)
  Layer 8: what Do does behind a command: a stop is an error's reply.
  Layer 8: a text in capital letters, by the document and by the program.
  Layer 8: the map of commands: which function stands under which word; by a walk.
  Layer 8: Do, for a word that is a command's.
  Layer 9: the commands of lists.
  Layer 8: Do, whatever is asked.
  Layer 8: what effects make of a keyspace, one behind the other; plain.
  Layer 8: what is known of a keyspace that keys.Of made of few things.
  Layer 8: DEL, MSET.
  Layer 8: SET, FLUSHALL.
  Layer 8: whatever is asked: its effects are all done.
  Layer 9: effects on things with items: all of a command's effects are done; plain.
  The simplified code of this seat's functions, and that it is what the program's code comes to. Printed by a program (wip/print.lean).
  Layer 9: a text in capital letters, by the program.
  Layer 9: the map of commands; Do, for a word that is a command's. (Written by gencg.py.)
  The simplified code of this seat's functions, and that it is what the program's code comes to. Printed by a program (wip/print.lean).
  The simplified code of this seat's functions, and that it is what the program's code comes to. Printed by a program (wip/print.lean).
  The simplified code of this seat's functions, and that it is what the program's code comes to. Printed by a program (wip/print.lean).
  Layer 9: looking for a field, a member; adding; which names are new.
  Layer 9: the commands of hashes. (Written by gencI.py.)
  Layer 9: the commands of lists: LLEN, LPOP, RPOP, LINDEX, LRANGE, LSET, LPUSH, RPUSH.
-/
import Derived.Shelf.Strconv.ParseIntPublic10
import Derived.Shelf.Strconv.Itoa4
import Derived.Test.YtjnijlnmbjjgpaaGreatDoorProg
import Derived.Lib.ParseIntB
import Derived.Lib.ItoaNum
import Derived.Test.YtjnijlnmbjjgpaaGreatDoorZF9C
namespace Go.Proofs.YtjnijlnmbjjgpaaGreatDoor
open Go Go.Sx C
def wType : ByteArray := ⟨#[87, 82, 79, 78, 71, 84, 89, 80, 69]⟩
def wLong : ByteArray := ⟨#[69, 82, 82, 32, 108, 111, 110, 103]⟩
theorem th_off {S : List Nat} {h h' : Heap} {t : Thing} {pv lv rv : Value} (x : TH h (cellsT t pv lv rv) t) (hc : Chg S h h') (hn : ∀ b ∈ bl3 pv lv rv, b ∉ S) : TH h' (cellsT t pv lv rv) t := by
 obtain ⟨p, l, r, e, h1, h2, h3⟩ := x
 simp only [cellsT, List.cons.injEq, and_true, true_and] at e
 obtain ⟨rfl, rfl, rfl⟩ := e
 exact ⟨_, _, _, rfl, h1.chg hc (fun b hb => hn b (by simp [bl3, hb])), h2.chg hc (fun b hb => hn b (by simp [bl3, hb])), h3.chg hc (fun b hb => hn b (by simp [bl3, hb]))⟩
theorem TO.lt {h : Heap} {pv lv rv : Value} {t : Thing} (o : TO h pv lv rv t) : ∀ b ∈ bl3 pv lv rv, b < h.size := fun b hb => by
 simp only [bl3, List.mem_append] at hb
 rcases hb with hb | hb | hb
 ·exact OL.lt o.p b hb
 ·exact OL.lt o.l b hb
 ·exact OL.lt o.r b hb
def GetR (h h' : Heap) (go : Option Thing) (r : Value) : Prop := ∃ pv lv rv, r = .tuple #[.agg ⟨cellsT (go.getD zeroT) pv lv rv⟩, .bool go.isSome] ∧ TH h' (cellsT (go.getD zeroT) pv lv rv) (go.getD zeroT) ∧ ∀ b ∈ bl3 pv lv rv, h.size ≤ b ∧ b < h'.size
theorem get_none (h h' : Heap) : GetR h h' none (.tuple #[.agg ⟨zeroV⟩, .bool false]) :=
 ⟨.slice none 0 0, .slice none 0 0, .slice none 0 0, rfl, zero_TH, fun b hb => by simp [bl3, vblk, ablk] at hb⟩
theorem KGetF_calls {h : Heap} {kb sb mb c : Nat} {m : List KI} {S : Space} (key : ByteArray) (now : Int) (x : KR h kb sb mb c m) (hs : Sorted m S) :
  CallsH Tryz.prog 45 [ptr kb, .string key, .int .i64 now] h (Ret fun r h' => GetR h h' (getS S key now) r ∧ Chg [] h h') := by
 obtain ⟨go, hgo⟩ : ∃ go, go = getS S key now := ⟨_, rfl⟩
 rw [← hgo]
 refine f45_calls (by simp) ?_
 intro b6 h1 g1
 have c1 := g1.chg
 have i6 := g1.id
 have z1 := g1.size
 have B6 : Blk h1 b6 zeroV := g1.blk
 refine call_ret (LookK_calls key (x.ext c1)) ?_
 rintro _ h2 ⟨hlook, c2⟩
 have z2 := c2.size
 rcases hlook with ⟨i, hi, hik, pv, lv, rv, rfl, o2, fr⟩ | ⟨hno, rfl⟩
 ·have hfs : findS S key = some i.thing := by rw [← hik]; exact find_mem hs hi
  intro b8 h3 g3
  refine Ei zeroV (Ai g3.blk (Ai (by decide) (Ai rfl (Ai (thing_one o2.th) ?_))))
  intro h4 p4
  have g4 := g3.put p4
  have B8 : Blk h4 b8 (cellsT i.thing pv lv rv) := p4.blk
  have o4 := o2.ext g4.chg
  have c14 : Chg [] h1 h4 := c2.nil g4.chg
  refine Ei _ (Ai rfl (Ai (cells_blk B8) ?_))
  refine call_ret (gone_calls o4.th now) ?_
  rintro _ h5 ⟨rfl, c5⟩
  have c15 := c14.nil c5
  have o5 := o4.ext c5
  have B65 := B6.chg c15 (by simp)
  have B85 := B8.chg c5 (by simp)
  cases hg : (i.thing.hasU && decide (i.thing.unt ≤ now)) with
  |true =>
   have e : go = none := by rw [hgo]; unfold getS; rw [hfs]; simp only; rw [if_pos (show goneT i.thing now = true from hg)]
   subst e
   refine Ei zeroV (Ai B65 (Ai (by decide) (Ai rfl (Ai (thing_one (zero_TH (h := h5))) ?_))))
   intro h6 p6
   have B66 : Blk h6 b6 zeroV := p6.blk
   refine Ei zeroV (Ai rfl (Ai (cells_blk B66) ?_))
   exact Ai (get_none _ _) ((c1.nil c15).fresh p6.chg (by simp; omega))
  |false =>
   have e : go = some i.thing := by rw [hgo]; unfold getS; rw [hfs]; simp only; rw [if_neg (by unfold goneT; rw [hg]; simp)]
   subst e
   refine Ei _ (Ai rfl (Ai (cells_blk B85) ?_))
   refine Ei zeroV (Ai B65 (Ai (by decide) (Ai rfl (Ai (thing_one o5.th) ?_))))
   intro h6 p6
   have B66 : Blk h6 b6 (cellsT i.thing pv lv rv) := p6.blk
   have o6 := o5.chg p6.chg (fun b hb => by have := fr b hb; simp; omega)
   refine Ei _ (Ai rfl (Ai (cells_blk B66) ?_))
   exact Ai ⟨pv, lv, rv, rfl, o6.th, fun b hb => ⟨by have := fr b hb; omega, o6.lt b hb⟩⟩ ((c1.nil c15).fresh p6.chg (by simp; omega))
 ·have e : go = none := by rw [hgo]; unfold getS; rw [find_out hs hno]
  subst e
  intro b8 h3 g3
  refine Ei zeroV (Ai g3.blk (Ai (by decide) (Ai rfl (Ai (thing_one (zero_TH (h := h3))) ?_))))
  intro h4 p4
  have g4 := g3.put p4
  have c14 : Chg [] h1 h4 := c2.nil g4.chg
  have B64 := B6.chg c14 (by simp)
  refine Ei zeroV (Ai B64 (Ai (by decide) (Ai rfl (Ai (thing_one (zero_TH (h := h4))) ?_))))
  intro h6 p6
  have B66 : Blk h6 b6 zeroV := p6.blk
  refine Ei zeroV (Ai rfl (Ai (cells_blk B66) ?_))
  exact Ai (get_none _ _) ((c1.nil c14).fresh p6.chg (by simp; omega))
end Go.Proofs.YtjnijlnmbjjgpaaGreatDoor
namespace Go.Proofs
open Go.RowKit Go.Shelf
def Tryz.laysC174_ren : Go.Shelf.Ren := ⟨fun | 174 => 234 | 247 => 275 | 245 => 276 | 287 => 301 | 279 => 302 | 280 => 303 | 281 => 304 | 282 => 305 | 321 => 335 | 322 => 336 | 316 => 337 | 171 => 339 | 205 => 338 | 243 => 356 | 246 => 64 | 283 => 139 | 284 => 140 | 285 => 141 | 286 => 142 | 129 => 222 | 317 => 221 | 318 => 223 | 319 => 224 | 320 => 225 | 337 => 273 | 338 => 274 | n => n, fun | 9 => 9 | 3 => 3 | 2 => 2 | 75 => 244 | 85 => 245 | 4 => 4 | 167 => 319 | 5 => 5 | 53 => 183 | 175 => 320 | 46 => 237 | 168 => 322 | 37 => 140 | 0 => 0 | 210 => 335 | 21 => 21 | 127 => 347 | 145 => 350 | 143 => 348 | 171 => 182 | 173 => 186 | 212 => 234 | 51 => 235 | 20 => 20 | 213 => 236 | 232 => 317 | 233 => 318 | 80 => 351 | n => n, fun | 15 => 4 | 16 => 5 | 17 => 0 | 18 => 2 | 19 => 3 | n => n⟩
theorem Tryz.laysC174 : Go.Proofs.LaysC.n174 Tryz.prog Tryz.laysC174_ren := {
 mixed := by kernel_rfl
 f129 := Tryz.func222.trans (congrArg some (by kernel_rfl))
 f171 := Tryz.func339.trans (congrArg some (by kernel_rfl))
 f174 := Tryz.func234.trans (congrArg some (by kernel_rfl))
 f205 := Tryz.func338.trans (congrArg some (by kernel_rfl))
 f243 := Tryz.func356.trans (congrArg some (by kernel_rfl))
 f245 := Tryz.func276.trans (congrArg some (by kernel_rfl))
 f246 := Tryz.func64.trans (congrArg some (by kernel_rfl))
 f247 := Tryz.func275.trans (congrArg some (by kernel_rfl))
 f279 := Tryz.func302.trans (congrArg some (by kernel_rfl))
 f280 := Tryz.func303.trans (congrArg some (by kernel_rfl))
 f281 := Tryz.func304.trans (congrArg some (by kernel_rfl))
 f282 := Tryz.func305.trans (congrArg some (by kernel_rfl))
 f283 := Tryz.func139.trans (congrArg some (by kernel_rfl))
 f284 := Tryz.func140.trans (congrArg some (by kernel_rfl))
 f285 := Tryz.func141.trans (congrArg some (by kernel_rfl))
 f286 := Tryz.func142.trans (congrArg some (by kernel_rfl))
 f287 := Tryz.func301.trans (congrArg some (by kernel_rfl))
 f316 := Tryz.func337.trans (congrArg some (by kernel_rfl))
 f317 := Tryz.func221.trans (congrArg some (by kernel_rfl))
 f318 := Tryz.func223.trans (congrArg some (by kernel_rfl))
 f319 := Tryz.func224.trans (congrArg some (by kernel_rfl))
 f320 := Tryz.func225.trans (congrArg some (by kernel_rfl))
 f321 := Tryz.func335.trans (congrArg some (by kernel_rfl))
 f322 := Tryz.func336.trans (congrArg some (by kernel_rfl))
 f337 := Tryz.func273.trans (congrArg some (by kernel_rfl))
 f338 := Tryz.func274.trans (congrArg some (by kernel_rfl))
 t0 := Tryz.underlying0
 a0 := Tryz.isAgg0
 z0 := Tryz.sizeOf0
 v0 := Tryz.zeroValue0
 t2 := Tryz.underlying2
 a2 := Tryz.isAgg2
 z2 := Tryz.sizeOf2
 v2 := Tryz.zeroValue2
 t3 := Tryz.underlying3
 a3 := Tryz.isAgg3
 z3 := Tryz.sizeOf3
 v3 := Tryz.zeroValue3
 t4 := Tryz.underlying4
 a4 := Tryz.isAgg4
 z4 := Tryz.sizeOf4
 v4 := Tryz.zeroValue4
 t5 := Tryz.underlying5
 a5 := Tryz.isAgg5
 z5 := Tryz.sizeOf5
 v5 := Tryz.zeroValue5
 t9 := Tryz.underlying9
 a9 := Tryz.isAgg9
 z9 := Tryz.sizeOf9
 v9 := Tryz.zeroValue9
 t20 := Tryz.underlying20
 a20 := Tryz.isAgg20
 z20 := Tryz.sizeOf20
 v20 := Tryz.zeroValue20
 t21 := Tryz.underlying21
 a21 := Tryz.isAgg21
 z21 := Tryz.sizeOf21
 v21 := Tryz.zeroValue21
 t37 := Tryz.underlying140
 a37 := Tryz.isAgg140
 z37 := Tryz.sizeOf140
 v37 := Tryz.zeroValue140
 t46 := Tryz.underlying237
 a46 := Tryz.isAgg237
 z46 := Tryz.sizeOf237
 v46 := Tryz.zeroValue237
 t51 := Tryz.underlying235
 a51 := Tryz.isAgg235
 z51 := Tryz.sizeOf235
 v51 := Tryz.zeroValue235
 t53 := Tryz.underlying183
 a53 := Tryz.isAgg183
 z53 := Tryz.sizeOf183
 v53 := Tryz.zeroValue183
 t75 := Tryz.underlying244
 a75 := Tryz.isAgg244
 z75 := Tryz.sizeOf244
 v75 := Tryz.zeroValue244
 t85 := Tryz.underlying245
 a85 := Tryz.isAgg245
 z85 := Tryz.sizeOf245
 v85 := Tryz.zeroValue245
 t127 := Tryz.underlying347
 a127 := Tryz.isAgg347
 z127 := Tryz.sizeOf347
 v127 := Tryz.zeroValue347
 t143 := Tryz.underlying348
 a143 := Tryz.isAgg348
 z143 := Tryz.sizeOf348
 v143 := Tryz.zeroValue348
 t145 := Tryz.underlying350
 a145 := Tryz.isAgg350
 z145 := Tryz.sizeOf350
 v145 := Tryz.zeroValue350
 t167 := Tryz.underlying319
 a167 := Tryz.isAgg319
 z167 := Tryz.sizeOf319
 v167 := Tryz.zeroValue319
 t168 := Tryz.underlying322
 a168 := Tryz.isAgg322
 z168 := Tryz.sizeOf322
 v168 := Tryz.zeroValue322
 t171 := Tryz.underlying182
 a171 := Tryz.isAgg182
 z171 := Tryz.sizeOf182
 v171 := Tryz.zeroValue182
 t173 := Tryz.underlying186
 a173 := Tryz.isAgg186
 z173 := Tryz.sizeOf186
 v173 := Tryz.zeroValue186
 t175 := Tryz.underlying320
 a175 := Tryz.isAgg320
 z175 := Tryz.sizeOf320
 v175 := Tryz.zeroValue320
 t210 := Tryz.underlying335
 a210 := Tryz.isAgg335
 z210 := Tryz.sizeOf335
 v210 := Tryz.zeroValue335
 t212 := Tryz.underlying234
 a212 := Tryz.isAgg234
 z212 := Tryz.sizeOf234
 v212 := Tryz.zeroValue234
 t213 := Tryz.underlying236
 a213 := Tryz.isAgg236
 z213 := Tryz.sizeOf236
 t232 := Tryz.underlying317
 a232 := Tryz.isAgg317
 z232 := Tryz.sizeOf317
 v232 := Tryz.zeroValue317
 t233 := Tryz.underlying318
 a233 := Tryz.isAgg318
 z233 := Tryz.sizeOf318
 v233 := Tryz.zeroValue318
 g15 := by kernel_rfl
 g16 := by kernel_rfl
 g17 := by kernel_rfl
 g18 := by kernel_rfl
 g19 := by kernel_rfl
 t80 := Tryz.underlying351
 a80 := Tryz.isAgg351
 z80 := Tryz.sizeOf351
 v80 := Tryz.zeroValue351
 i0 := by kernel_rfl
 i2 := by kernel_rfl
 i3 := by kernel_rfl
 i4 := by kernel_rfl
 i5 := by kernel_rfl
 i9 := by kernel_rfl
 i20 := by kernel_rfl
 i21 := by kernel_rfl
 i37 := by kernel_rfl
 i46 := by kernel_rfl
 i51 := by kernel_rfl
 i53 := by kernel_rfl
 i75 := by kernel_rfl
 i80 := by kernel_rfl
 i85 := by kernel_rfl
 i127 := by kernel_rfl
 i143 := by kernel_rfl
 i145 := by kernel_rfl
 i167 := by kernel_rfl
 i168 := by kernel_rfl
 i171 := by kernel_rfl
 i173 := by kernel_rfl
 i175 := by kernel_rfl
 i210 := by kernel_rfl
 i212 := by kernel_rfl
 i232 := by kernel_rfl
 i233 := by kernel_rfl
 m15 := by kernel_rfl
 m16 := by kernel_rfl
 m17 := by kernel_rfl
 m18 := by kernel_rfl
 m19 := by kernel_rfl
 c0 := by kernel_rfl
 c2 := by kernel_rfl
 c3 := by kernel_rfl
 c4 := by kernel_rfl
 c5 := by kernel_rfl
 c9 := by kernel_rfl
 c20 := by kernel_rfl
 c21 := by kernel_rfl
 c37 := by kernel_rfl
 c46 := by kernel_rfl
 c51 := by kernel_rfl
 c53 := by kernel_rfl
 c75 := by kernel_rfl
 c80 := by kernel_rfl
 c85 := by kernel_rfl
 c127 := by kernel_rfl
 c143 := by kernel_rfl
 c145 := by kernel_rfl
 c167 := by kernel_rfl
 c168 := by kernel_rfl
 c171 := by kernel_rfl
 c173 := by kernel_rfl
 c175 := by kernel_rfl
 c210 := by kernel_rfl
 c212 := by kernel_rfl
 c213 := by kernel_rfl
 c232 := by kernel_rfl
 c233 := by kernel_rfl }
def Tryz.laysM173_ren : Go.Shelf.Ren := ⟨fun | 173 => 34 | 246 => 64 | 283 => 139 | 284 => 140 | 285 => 141 | 286 => 142 | 129 => 222 | 317 => 221 | 318 => 223 | 319 => 224 | 320 => 225 | 337 => 273 | 338 => 274 | n => n, fun | 2 => 2 | 3 => 3 | 9 => 9 | 4 => 4 | 171 => 182 | 0 => 0 | 53 => 183 | 37 => 140 | 5 => 5 | 173 => 186 | 212 => 234 | 51 => 235 | 20 => 20 | 213 => 236 | 46 => 237 | 232 => 317 | 233 => 318 | n => n, fun | 17 => 0 | 18 => 2 | 19 => 3 | n => n⟩
theorem Tryz.laysM173 : Go.Proofs.LaysM.n173 Tryz.prog Tryz.laysM173_ren := {
 mixed := by kernel_rfl
 f129 := Tryz.func222.trans (congrArg some (by kernel_rfl))
 f173 := Tryz.func34.trans (congrArg some (by kernel_rfl))
 f246 := Tryz.func64.trans (congrArg some (by kernel_rfl))
 f283 := Tryz.func139.trans (congrArg some (by kernel_rfl))
 f284 := Tryz.func140.trans (congrArg some (by kernel_rfl))
 f285 := Tryz.func141.trans (congrArg some (by kernel_rfl))
 f286 := Tryz.func142.trans (congrArg some (by kernel_rfl))
 f317 := Tryz.func221.trans (congrArg some (by kernel_rfl))
 f318 := Tryz.func223.trans (congrArg some (by kernel_rfl))
 f319 := Tryz.func224.trans (congrArg some (by kernel_rfl))
 f320 := Tryz.func225.trans (congrArg some (by kernel_rfl))
 f337 := Tryz.func273.trans (congrArg some (by kernel_rfl))
 f338 := Tryz.func274.trans (congrArg some (by kernel_rfl))
 t0 := Tryz.underlying0
 a0 := Tryz.isAgg0
 z0 := Tryz.sizeOf0
 v0 := Tryz.zeroValue0
 t2 := Tryz.underlying2
 a2 := Tryz.isAgg2
 z2 := Tryz.sizeOf2
 v2 := Tryz.zeroValue2
 t3 := Tryz.underlying3
 a3 := Tryz.isAgg3
 z3 := Tryz.sizeOf3
 v3 := Tryz.zeroValue3
 t4 := Tryz.underlying4
 a4 := Tryz.isAgg4
 z4 := Tryz.sizeOf4
 v4 := Tryz.zeroValue4
 t5 := Tryz.underlying5
 a5 := Tryz.isAgg5
 z5 := Tryz.sizeOf5
 v5 := Tryz.zeroValue5
 t9 := Tryz.underlying9
 a9 := Tryz.isAgg9
 z9 := Tryz.sizeOf9
 v9 := Tryz.zeroValue9
 t20 := Tryz.underlying20
 a20 := Tryz.isAgg20
 z20 := Tryz.sizeOf20
 v20 := Tryz.zeroValue20
 t37 := Tryz.underlying140
 a37 := Tryz.isAgg140
 z37 := Tryz.sizeOf140
 v37 := Tryz.zeroValue140
 t46 := Tryz.underlying237
 a46 := Tryz.isAgg237
 z46 := Tryz.sizeOf237
 v46 := Tryz.zeroValue237
 t51 := Tryz.underlying235
 a51 := Tryz.isAgg235
 z51 := Tryz.sizeOf235
 v51 := Tryz.zeroValue235
 t53 := Tryz.underlying183
 a53 := Tryz.isAgg183
 z53 := Tryz.sizeOf183
 v53 := Tryz.zeroValue183
 t171 := Tryz.underlying182
 a171 := Tryz.isAgg182
 z171 := Tryz.sizeOf182
 v171 := Tryz.zeroValue182
 t173 := Tryz.underlying186
 a173 := Tryz.isAgg186
 z173 := Tryz.sizeOf186
 v173 := Tryz.zeroValue186
 t212 := Tryz.underlying234
 a212 := Tryz.isAgg234
 z212 := Tryz.sizeOf234
 v212 := Tryz.zeroValue234
 t213 := Tryz.underlying236
 a213 := Tryz.isAgg236
 z213 := Tryz.sizeOf236
 t232 := Tryz.underlying317
 a232 := Tryz.isAgg317
 z232 := Tryz.sizeOf317
 v232 := Tryz.zeroValue317
 t233 := Tryz.underlying318
 a233 := Tryz.isAgg318
 z233 := Tryz.sizeOf318
 v233 := Tryz.zeroValue318
 g17 := by kernel_rfl
 g18 := by kernel_rfl
 g19 := by kernel_rfl
 i0 := by kernel_rfl
 i2 := by kernel_rfl
 i3 := by kernel_rfl
 i4 := by kernel_rfl
 i5 := by kernel_rfl
 i9 := by kernel_rfl
 i20 := by kernel_rfl
 i37 := by kernel_rfl
 i46 := by kernel_rfl
 i51 := by kernel_rfl
 i53 := by kernel_rfl
 i171 := by kernel_rfl
 i173 := by kernel_rfl
 i212 := by kernel_rfl
 i232 := by kernel_rfl
 i233 := by kernel_rfl
 m17 := by kernel_rfl
 m18 := by kernel_rfl
 m19 := by kernel_rfl }
end Go.Proofs
namespace Go.Num
open Go Go.Lib
def isDig (c : UInt8) : Prop := 48 ≤ c.toNat ∧ c.toNat ≤ 57
def allDig (d : List UInt8) : Prop := ∀ c ∈ d, isDig c
@[irreducible] def nxt (m : Nat) (c : UInt8) : Nat := m * 10 + (c.toNat - 48)
theorem nxt_eq (m : Nat) (c : UInt8) : nxt m c = m * 10 + (c.toNat - 48) := by unfold nxt; rfl
def valF (m : Nat) : List UInt8 → Nat
 |[] => m
 |c :: r => valF (nxt m c) r
abbrev val (d : List UInt8) : Nat := valF 0 d
theorem valF_nil (m : Nat) : valF m [] = m := rfl
theorem valF_cons (m : Nat) (c : UInt8) (r : List UInt8) : valF m (c :: r) = valF (nxt m c) r := rfl
def num (l : List UInt8) : Option Int :=
 match parseIntB 64 l with
 |.ok v => if itoa v = l then some v else none
 |_ => none
theorem valF_ge (m : Nat) : ∀ d : List UInt8, m ≤ valF m d
 |[] => Nat.le_refl _
 |c :: r => Nat.le_trans (by rw [nxt_eq]; omega) (valF_ge (nxt m c) r)
theorem valF_snoc (c : UInt8) : ∀ (m : Nat) (d : List UInt8), valF m (d ++ [c]) = valF m d * 10 + (c.toNat - 48)
 |m, [] => nxt_eq m c
 |m, x :: r => valF_snoc c (nxt m x) r
theorem parseM_ok : ∀ (d : List UInt8) (m : Nat), allDig d → valF m d ≤ 18446744073709551615 → parseUintM 18446744073709551615 m d = .ok (valF m d)
 |[], m, _, _ => by rw [valF_nil]; unfold parseUintM; rfl
 |c :: r, m, hd, hv => by
  have h1 : isDig c := hd c (by simp)
  have hge := valF_ge (nxt m c) r
  have hn := nxt_eq m c
  rw [valF_cons] at hv ⊢
  unfold parseUintM
  rw [if_pos (show 48 ≤ c.toNat ∧ c.toNat ≤ 57 from h1), if_neg (by omega), if_neg (by omega), ← hn]
  exact parseM_ok r _ (fun x hx => hd x (by simp [hx])) hv
def dgt (x : Nat) : UInt8 := UInt8.ofNat (48 + x)
theorem byte_dig {x : Nat} (h : x < 10) : isDig (dgt x) ∧ (dgt x).toNat = 48 + x := by
 unfold dgt
 have : (UInt8.ofNat (48 + x)).toNat = 48 + x := by rw [UInt8.toNat_ofNat']; omega
 exact ⟨⟨by omega, by omega⟩, this⟩
theorem dec_spec : ∀ (n u : Nat), u < n → allDig (decDigits u) ∧ decDigits u ≠ [] ∧ val (decDigits u) = u ∧ ((decDigits u).length = 1 ∨ (decDigits u).head? ≠ some 48) ∧ (u ≠ 0 → (decDigits u).head? ≠ some 48)
 |0, u, h => absurd h (by omega)
 |n + 1, u, h => by
  by_cases h10 : u < 10
  ·obtain ⟨h1, h2⟩ := byte_dig h10
   have e : decDigits u = [dgt u] := by rw [decDigits, dif_pos h10]; rfl
   rw [e]
   refine ⟨by intro c hc; simp at hc; subst hc; exact h1, by simp, ?_, .inl rfl, fun h0 => ?_⟩
   ·show valF 0 [dgt u] = u
    rw [valF_cons, valF_nil, nxt_eq, h2]; omega
   ·simp only [List.head?_cons, ne_eq, Option.some.injEq]
    intro e; have := congrArg UInt8.toNat e; rw [h2] at this; simp at this; omega
  ·obtain ⟨i1, i2, i3, i4, i5⟩ := dec_spec n (u / 10) (by omega)
   obtain ⟨h1, h2⟩ := byte_dig (x := u % 10) (by omega)
   have e : decDigits u = decDigits (u / 10) ++ [dgt (u % 10)] := by rw [decDigits, dif_neg h10]; rfl
   have hh : (decDigits u).head? ≠ some 48 := by
    obtain ⟨x, r, hx⟩ := List.exists_cons_of_ne_nil i2
    have := i5 (by omega)
    rw [e, hx]; rw [hx] at this; simpa using this
   refine ⟨?_, by rw [e]; simp, ?_, .inr hh, fun _ => hh⟩
   ·rw [e]; intro c hc
    rcases List.mem_append.1 hc with hc | hc
    ·exact i1 c hc
    ·simp at hc; subst hc; exact h1
   ·rw [e]
    have := valF_snoc (dgt (u % 10)) 0 (decDigits (u / 10))
    rw [h2] at this
    have i3' : valF 0 (decDigits (u / 10)) = u / 10 := i3
    rw [i3'] at this
    show valF 0 _ = u
    rw [this]; omega
theorem dec_len : ∀ (k u : Nat), u < 10 ^ (k + 1) → (decDigits u).length ≤ k + 1
 |0, u, h => by rw [decDigits, dif_pos (by simpa using h)]; simp
 |k + 1, u, h => by
  rw [decDigits]
  split
  ·simp
  ·have := dec_len k (u / 10) (by rw [Nat.pow_succ] at h; omega)
   simp; omega
theorem parse_range {T : Nat} (hT : T = 9223372036854775808) {l : List UInt8} {v : Int} (hx : parseIntB 64 l = .ok v) : -(T : Int) ≤ v ∧ v < T := by
 unfold parseIntB at hx
 split at hx
 ·cases hx
 ·rename_i c r
  simp only at hx
  split at hx
  ·cases hx
  ·cases hx
  ·rename_i u hu
   have e : 2 ^ (64 - 1) = T := by rw [hT]
   rw [e] at hx
   split at hx
   ·cases hx
   ·rename_i h1
    split at hx
    ·cases hx
    ·rename_i h2
     simp at hx; subst hx
     split <;> rename_i hneg
     ·have : u ≤ T := by
       rcases Nat.lt_or_ge T u with h | h
       ·exact absurd ⟨hneg, h⟩ h2
       ·exact h
      omega
     ·have : u < T := by
       rcases Nat.lt_or_ge u T with h | h
       ·exact h
       ·exact absurd ⟨hneg, h⟩ h1
      omega
theorem num_iff {T : Nat} (hT : T = 9223372036854775808) (l : List UInt8) (v : Int) : num l = some v ↔ (-(T : Int) ≤ v ∧ v < T) ∧ itoa v = l := by
 unfold num
 constructor
 ·intro h
  split at h
  ·rename_i x hx
   split at h
   ·rename_i hi
    simp at h; subst h
    refine ⟨?_, hi⟩
    unfold parseIntB at hx
    split at hx
    ·cases hx
    ·rename_i c r
     simp only at hx
     split at hx
     ·cases hx
     ·cases hx
     ·rename_i u hu
      have e : 2 ^ (64 - 1) = T := by rw [hT]
      rw [e] at hx
      split at hx
      ·cases hx
      ·rename_i h1
       split at hx
       ·cases hx
       ·rename_i h2
        simp at hx; subst hx
        split <;> rename_i hneg
        ·have : u ≤ T := by
          rcases Nat.lt_or_ge T u with h | h
          ·exact absurd ⟨hneg, h⟩ h2
          ·exact h
         omega
        ·have : u < T := by
          rcases Nat.lt_or_ge u T with h | h
          ·exact h
          ·exact absurd ⟨hneg, h⟩ h1
         omega
   ·cases h
  ·cases h
 ·rintro ⟨⟨h0, h1⟩, rfl⟩
  have key : parseIntB 64 (itoa v) = .ok v := by
   have e : 2 ^ (64 - 1) = T := by rw [hT]
   have eM : 2 ^ 64 - 1 = 18446744073709551615 := by decide
   unfold itoa
   split
   ·rename_i hneg
    obtain ⟨i1, i2, i3, i4, i5⟩ := dec_spec (v.natAbs + 1) v.natAbs (by omega)
    have i3' : valF 0 (decDigits v.natAbs) = v.natAbs := i3
    have c45 : (45 : UInt8).toNat = 45 := rfl
    have hp : parseUintB 64 (decDigits v.natAbs) = .ok v.natAbs := by
     unfold parseUintB
     rw [if_neg i2, eM, parseM_ok _ 0 i1 (by rw [i3']; omega), i3']
    unfold parseIntB
    simp only [c45, if_true, or_true, hp, e]
    rw [if_neg (by simp), if_neg (by omega)]
    congr 1; omega
   ·rename_i hneg
    obtain ⟨i1, i2, i3, i4, i5⟩ := dec_spec (v.toNat + 1) v.toNat (by omega)
    have i3' : valF 0 (decDigits v.toNat) = v.toNat := i3
    obtain ⟨x, r, hx⟩ := List.exists_cons_of_ne_nil i2
    have hxd : isDig x := i1 x (by rw [hx]; simp)
    have hx1 : 48 ≤ x.toNat := hxd.1
    have hp : parseUintB 64 (x :: r) = .ok v.toNat := by
     rw [← hx]
     unfold parseUintB
     rw [if_neg i2, eM, parseM_ok _ 0 i1 (by rw [i3']; omega), i3']
    rw [hx]
    have n1 : ¬ x.toNat = 45 := by omega
    unfold parseIntB
    have n3 : ¬ x.toNat = 43 := by omega
    simp only [n1, n3, or_self, if_false, hp, e, false_and, not_false_eq_true, true_and]
    rw [if_neg (by omega)]
    congr 1; omega
  rw [key]
  simp
end Go.Num
namespace Go.Proofs.YtjnijlnmbjjgpaaGreatDoor
open Go Go.Sx C
def IfaceV (v : Value) : Prop := v = .nilIface ∨ ∃ te pe, v = .iface te pe
def LaidN (h : Heap) : Prop := (∃ t fr, h[0]? = some (.cells (Lib.pow10Tab.map fun z => Value.int .u64 z).toArray t fr)) ∧ (∃ v, cell h 4 0 = some v ∧ IfaceV v) ∧ (∃ v, cell h 5 0 = some v ∧ IfaceV v)
theorem LaidN.ext {h h' : Heap} (hl : LaidN h) (hc : Chg [] h h') : LaidN h' := by
 obtain ⟨⟨t, fr, h1⟩, ⟨v, h2, h3⟩, ⟨u, h4, h5⟩⟩ := hl
 exact ⟨⟨t, fr, get_ext hc.ext h1⟩, ⟨v, cell_chg h2 hc (by simp), h3⟩, ⟨u, cell_chg h4 hc (by simp), h5⟩⟩
theorem chg_of_below {w w' : World} {h : Heap} (hw : w.heap = h) (hb : RowKit.Below w.heap.size w w') : Chg [] h w'.heap := by
 subst hw
 exact ⟨hb.size, fun k hk _ => hb.block k hk⟩
theorem wcell {w : World} {h : Heap} {b : Nat} {v : Value} (hw : w.heap = h) (hc : cell h b 0 = some v) : w.cell? ⟨b, 0, none⟩ = some v := by
 subst hw
 unfold cell at hc
 unfold World.cell?
 split at hc
 ·rename_i c t k hx
  rw [hx]; simpa using hc
 ·cases hc
def ParseP (l : List UInt8) (r : Value) : Prop :=
 (∃ v, Lib.parseIntB 64 l = .ok v ∧ r = .tuple #[.int .i64 v, .nilIface]) ∨ ((∀ v, Lib.parseIntB 64 l ≠ .ok v) ∧ ∃ n t p, r = .tuple #[.int .i64 n, .iface t p])
theorem parse_calls {h : Heap} {l : List UInt8} (hl : LaidN h) (hs : l.length < 281474976710656) : CallsH Tryz.prog 234 [.string ⟨⟨l⟩⟩, .int .i64 10, .int .i64 64] h (Ret fun r h' => ParseP l r ∧ Chg [] h h') := by
 refine ⟨by kernel_rfl, fun w hw => ?_⟩
 obtain ⟨_, ⟨v1, c1, i1⟩, ⟨v2, c2, i2⟩⟩ := hl
 have hsz : (⟨⟨l⟩⟩ : ByteArray).size = l.length := rfl
 rcases hp : Lib.parseIntB 64 l with v | _ | _
 ·refine (Go.Proofs.Any.strconv_ParseInt_10_at64_ok Go.Proofs.Tryz.laysC174 ⟨⟨l⟩⟩ (by omega) v hp w).mono ?_
  rintro e w' ⟨rfl, hW⟩
  have hb : RowKit.Below w.heap.size w w' := by
   rcases hW with rfl | ⟨t, rfl⟩
   ·exact RowKit.Below.refl _ _
   ·exact Lib.bytesWorld_below _ _ _
  exact ⟨⟨.inl ⟨v, hp, rfl⟩, chg_of_below hw hb⟩, by simp, hb.os, hb.output, hb.tape⟩
 ·refine (Go.Proofs.Any.strconv_ParseInt_10_at64_syntax Go.Proofs.Tryz.laysC174 ⟨⟨l⟩⟩ (by omega) hp v1 w (wcell hw c1) i1).mono ?_
  rintro e w' ⟨N, rfl, _, _, hb⟩
  exact ⟨⟨.inr ⟨fun v hv => (by rw [hp] at hv; cases hv), _, _, _, rfl⟩, chg_of_below hw hb⟩, by simp, hb.os, hb.output, hb.tape⟩
 ·refine (Go.Proofs.Any.strconv_ParseInt_10_at64_range Go.Proofs.Tryz.laysC174 ⟨⟨l⟩⟩ (by omega) hp v2 w (wcell hw c2) i2).mono ?_
  rintro e w' ⟨N, rfl, _, _, hb⟩
  exact ⟨⟨.inr ⟨fun v hv => (by rw [hp] at hv; cases hv), _, _, _, rfl⟩, chg_of_below hw hb⟩, by simp, hb.os, hb.output, hb.tape⟩
theorem tab_of {w : World} {h : Heap} (hw : w.heap = h) (hl : LaidN h) : Lib.TabIs Tryz.prog w "internal/strconv.uint64pow10" .u64 Lib.pow10Tab := by
 obtain ⟨⟨t, fr, h1⟩, _⟩ := hl
 have hg : Tryz.prog.globalNamed "internal/strconv.uint64pow10" = some 0 := by kernel_rfl
 unfold Lib.TabIs World.var?
 rw [hg]
 show (match w.heap[0]? with | some (.cells cs _ _) => some cs | _ => none) = _
 rw [hw, h1]
theorem format_calls {h : Heap} {n : Int} (hl : LaidN h) (h0 : -9223372036854775808 ≤ n) (h1 : n ≤ 9223372036854775807) : CallsH Tryz.prog 34 [.int .i64 n, .int .i64 10] h (Ret fun r h' => r = .string ⟨⟨Lib.itoa n⟩⟩ ∧ Chg [] h h') := by
 refine ⟨by kernel_rfl, fun w hw => ?_⟩
 refine (Go.Proofs.Any.strconv_FormatInt_10 Go.Proofs.Tryz.laysM173 n h0 h1 w (tab_of hw hl)).mono ?_
 rintro e w' ⟨rfl, k, os, rfl⟩
 refine ⟨⟨rfl, ?_⟩, by simp, rfl, rfl, rfl⟩
 subst hw
 refine ⟨by simp [Go.Sort.grow, World.drewN], fun j hj _ => ?_⟩
 simp [Go.Sort.grow, World.drewN, Array.getElem?_append, hj]
theorem bnum_calls {h : Heap} {l : List UInt8} (hl : LaidN h) (hs : l.length < 281474976710656) :
  CallsH Tryz.prog 164 [.string ⟨⟨l⟩⟩] h (Ret fun r h' => r = .tuple #[.int .i64 ((Num.num l).getD 0), .bool (Num.num l).isSome] ∧ Chg [] h h') := by
 refine f164_calls (by simp) ?_
 refine call_ret (parse_calls hl hs) ?_
 rintro r h1 ⟨hp, c1⟩
 rcases hp with ⟨v, hv, rfl⟩ | ⟨hno, n, t, p, rfl⟩
 ·obtain ⟨r0, r1⟩ := Num.parse_range rfl hv
  refine call_ret (format_calls (hl.ext c1) (by omega) (by omega)) ?_
  rintro _ h2 ⟨rfl, c2⟩
  have c := c1.nil c2
  refine Ai (fun hne => ?_) (fun heq => ?_)
  ·have e : Num.num l = none := by
    unfold Num.num
    rw [hv]
    simp only
    rw [if_neg]
    intro e; exact hne (by rw [e])
   rw [e]
   exact Ai rfl c
  ·have e : Num.num l = some v := by
    unfold Num.num
    rw [hv]
    simp only
    rw [if_pos]
    have := Classical.not_not.1 heq
    injection this with this
    injection this
   rw [e]
   exact Ai rfl c
 ·have e : Num.num l = none := by
   unfold Num.num
   split
   ·rename_i v hv; exact absurd hv (hno v)
   ·rfl
  rw [e]
  exact Ai rfl c1
def wNum : ByteArray := ⟨#[69, 82, 82, 32, 110, 117, 109, 98, 101, 114]⟩
theorem drops_len (S : Space) (key : ByteArray) (now : Int) : (dropsS S key now).length ≤ 1 := by
 unfold dropsS; split <;> simp
theorem one_sl {h : Heap} {b : Nat} {e : Eff} (hB : Blk h b (encD e)) : SL encD h (.slice (some ⟨b, 0, none⟩) 1 1) [e] := by
 refine ⟨_, 1, rfl, Nat.le_refl _, ?_⟩
 have := cells_blk hB
 simpa [Src] using this
def repV (k i : Int) (s : ByteArray) : Value := .agg ⟨[.int .i64 k, .int .i64 i, .string s, .slice none 0 0]⟩
theorem repV_ones (k i : Int) (s : ByteArray) : ∀ u ∈ (repV k i s).cells.toList, u.oneCell' = true := by
 intro u hu
 have hu : u ∈ [Value.int .i64 k, .int .i64 i, .string s, .slice none 0 0] := hu
 simp at hu
 rcases hu with rfl | rfl | rfl | rfl <;> rfl
def okSum (a b : Int) : Prop := -9223372036854775808 ≤ a + b ∧ a + b ≤ 9223372036854775807
def In64 (a : Int) : Prop := -9223372036854775808 ≤ a ∧ a ≤ 9223372036854775807
def numOf (s : ByteArray) : Option Int := Num.num s.data.toList
end Go.Proofs.YtjnijlnmbjjgpaaGreatDoor
namespace Go.Sx
open Go
inductive En : Type 1 where
 |b (k : Nat) (l : List Value)
 |w (k : Nat) (l : List Value)
 |m (k : Nat) (es : List MapEntry) (c : Nat)
 |o {α : Type} (enc : α → List Value) (size : Nat) (v : Value) (l : List α)
 |x (f : List Nat) (p : Heap → Prop) (st : ∀ S h h', Chg S h h' → (∀ b ∈ f, b ∉ S) → p h → p h') (lt : ∀ h, p h → ∀ b ∈ f, b < h.size)
def En.fp : En → List Nat
 |.b k _ => [k]
 |.w k _ => [k]
 |.m k _ _ => [k]
 |.o _ _ v _ => vblk v
 |.x f _ _ _ => f
def En.at (h : Heap) : En → Prop
 |.b k l => Blk h k l
 |.w k l => BlkW h k l
 |.m k es c => MapB h k es c
 |.o enc size v l => OL enc size h v l
 |.x _ p _ _ => p h
theorem BlkW.chg' {S : List Nat} {h h' : Heap} {b : Nat} {l : List Value} (hb : BlkW h b l) (hc : Chg S h h') (hn : b ∉ S) : BlkW h' b l := let ⟨e, k, x, y⟩ := hb; ⟨e, k, get_chg x hc hn, y⟩
theorem BlkW.lt' {h : Heap} {b : Nat} {l : List Value} (hb : BlkW h b l) : b < h.size := let ⟨_, _, x, _⟩ := hb; get_lt x
theorem En.chg {S : List Nat} {h h' : Heap} : ∀ {e : En}, e.at h → Chg S h h' → (∀ b ∈ e.fp, b ∉ S) → e.at h'
 |.b _ _, he, hc, hn => Blk.chg he hc (hn _ (List.mem_singleton.2 rfl))
 |.w _ _, he, hc, hn => BlkW.chg' he hc (hn _ (List.mem_singleton.2 rfl))
 |.m _ _ _, he, hc, hn => MapB.chg he hc (hn _ (List.mem_singleton.2 rfl))
 |.o _ _ _ _, he, hc, hn => OL.chg he hc hn
 |.x _ _ st _, he, hc, hn => st _ _ _ hc hn he
theorem En.lt {h : Heap} : ∀ {e : En}, e.at h → ∀ q ∈ e.fp, q < h.size
 |.b _ _, he, q, hq => by rw [List.mem_singleton.1 hq]; exact Blk.lt he
 |.w _ _, he, q, hq => by rw [List.mem_singleton.1 hq]; exact BlkW.lt' he
 |.m _ _ _, he, q, hq => by rw [List.mem_singleton.1 hq]; exact MapB.lt he
 |.o _ _ _ _, he, q, hq => OL.lt he q hq
 |.x _ _ _ lt, he, q, hq => lt _ he q hq
structure St (T : List Nat) (h0 h : Heap) (L : List En) : Prop where
 chg : Chg T h0 h
 ents : ∀ (i : Nat) (e : En), L[i]? = some e → e.at h ∧ ∀ b ∈ e.fp, b ∈ T ∨ h0.size ≤ b
 apart : ∀ (i j : Nat) (e f : En), L[i]? = some e → L[j]? = some f → i ≠ j → ∀ b ∈ e.fp, b ∉ f.fp
variable {T : List Nat} {h0 h h' : Heap} {L : List En} {e e' : En}
theorem St.start (h : Heap) : St [] h h [] := ⟨Chg.refl h, fun i e hi => by simp at hi, fun i j e f hi => by simp at hi⟩
theorem St.get (w : St T h0 h L) (i : Nat) (hi : L[i]? = some e) : e.at h := (w.ents i e hi).1
theorem St.size (w : St T h0 h L) : h0.size ≤ h.size := w.chg.size
theorem St.ext (w : St T h0 h L) (hc : Chg [] h h') : St T h0 h' L :=
 ⟨w.chg.trans hc (fun _ hk => hk) (by simp), fun i e hi => ⟨En.chg (w.ents i e hi).1 hc (by simp), (w.ents i e hi).2⟩, w.apart⟩
theorem St.add (w : St T h0 h L) (hc : Chg [] h h') (he : e.at h') (hf : ∀ b ∈ e.fp, h.size ≤ b) : St T h0 h' (e :: L) := by
 have w' := w.ext hc
 have hz := w.size
 refine ⟨w'.chg, fun i e' hi => ?_, fun i j e1 e2 hi hj hn b h1 h2 => ?_⟩
 ·cases i with
  |zero => cases hi; exact ⟨he, fun b hb => .inr (by have := hf b hb; omega)⟩
  |succ i => exact w'.ents i e' hi
 ·cases i with
  |zero =>
   cases hi
   cases j with
   |zero => exact hn rfl
   |succ j =>
    have := En.lt (w.get j hj) b h2
    have := hf b h1
    omega
  |succ i =>
   cases j with
   |zero =>
    cases hj
    have := En.lt (w.get i hi) b h1
    have := hf b h2
    omega
   |succ j => exact w.apart i j e1 e2 hi hj (by omega) b h1 h2
theorem St.new (w : St T h0 h L) {b : Nat} {z : List Value} (g : Grow h h' b z) : St T h0 h' (.b b z :: L) :=
 w.add g.chg (show Blk h' b z from g.blk) fun k hk => by rw [List.mem_singleton.1 hk, g.id]; exact Nat.le_refl _
theorem St.newm (w : St T h0 h L) {b : Nat} {es : List MapEntry} {c : Nat} (g : GrowO h h' b (.map ⟨es⟩ c)) : St T h0 h' (.m b es c :: L) :=
 w.add g.chg (show MapB h' b es c from g.blk) fun k hk => by rw [List.mem_singleton.1 hk, g.id]; exact Nat.le_refl _
theorem St.set (w : St T h0 h L) {S : List Nat} (i : Nat) (hi : L[i]? = some e) (hc : Chg S h h') (hS : ∀ b ∈ S, b ∈ e.fp ∨ h.size ≤ b) (he : e'.at h') (hf : ∀ b ∈ e'.fp, b ∈ e.fp ∨ h.size ≤ b) : St T h0 h' (L.set i e') := by
 have hz := w.size
 have hil : i < L.length := (List.getElem?_eq_some_iff.1 hi).1
 refine ⟨w.chg.trans hc (fun _ hk => hk) (fun k hk hlt => ?_), fun j f hj => ?_, fun j k f g hj hk hn b h1 h2 => ?_⟩
 ·rcases hS k hk with h1 | h1
  ·rcases (w.ents i e hi).2 k h1 with h2 | h2
   ·exact h2
   ·omega
  ·omega
 ·by_cases hij : i = j
  ·subst hij
   rw [List.getElem?_set_self hil] at hj
   cases hj
   refine ⟨he, fun b hb => ?_⟩
   rcases hf b hb with h1 | h1
   ·exact (w.ents i e hi).2 b h1
   ·exact .inr (by omega)
  ·rw [List.getElem?_set_ne hij] at hj
   refine ⟨En.chg (w.get j hj) hc fun b hb hbS => ?_, (w.ents j f hj).2⟩
   rcases hS b hbS with h1 | h1
   ·exact w.apart i j e f hi hj hij b h1 hb
   ·have := En.lt (w.get j hj) b hb; omega
 ·by_cases hij : i = j
  ·subst hij
   rw [List.getElem?_set_self hil] at hj
   rw [List.getElem?_set_ne hn] at hk
   cases hj
   rcases hf b h1 with h3 | h3
   ·exact w.apart i k e g hi hk hn b h3 h2
   ·have := En.lt (w.get k hk) b h2; omega
  ·rw [List.getElem?_set_ne hij] at hj
   by_cases hik : i = k
   ·subst hik
    rw [List.getElem?_set_self hil] at hk
    cases hk
    rcases hf b h2 with h3 | h3
    ·exact w.apart i j e f hi hj hij b h3 h1
    ·have := En.lt (w.get j hj) b h1; omega
   ·rw [List.getElem?_set_ne hik] at hk
    exact w.apart j k f g hj hk hn b h1 h2
def picks (L : List En) : List Nat → List En
 |[] => []
 |i :: l => match L[i]? with
  |some e => e :: picks L l
  |none => picks L l
theorem picks_get : ∀ {is : List Nat} {k : Nat} {e : En}, (picks L is)[k]? = some e → ∃ j i : Nat, is[j]? = some i ∧ L[i]? = some e ∧ k ≤ j ∧ True
 |[], _, _, hk => by simp [picks] at hk
 |i :: is, k, e, hk => by
  simp only [picks] at hk
  split at hk
  ·rename_i e1 he1
   cases k with
   |zero => cases hk; exact ⟨0, i, rfl, he1, Nat.le_refl _, trivial⟩
   |succ k =>
    obtain ⟨j, i', h1, h2, h3, _⟩ := picks_get (is := is) hk
    exact ⟨j + 1, i', h1, h2, by omega, trivial⟩
  ·obtain ⟨j, i', h1, h2, h3, _⟩ := picks_get (is := is) hk
   exact ⟨j + 1, i', h1, h2, by omega, trivial⟩
theorem picks_two : ∀ {is : List Nat} {k l : Nat} {e f : En}, is.Nodup → (picks L is)[k]? = some e → (picks L is)[l]? = some f → k ≠ l → ∃ i j : Nat, L[i]? = some e ∧ L[j]? = some f ∧ i ≠ j ∧ i ∈ is ∧ j ∈ is
 |[], _, _, _, _, _, hk, _, _ => by simp [picks] at hk
 |i :: is, k, l, e, f, hd, hk, hl, hn => by
  obtain ⟨hi, hd⟩ := List.nodup_cons.1 hd
  simp only [picks] at hk hl
  split at hk
  ·rename_i e1 he1
   rw [he1] at hl
   cases k with
   |zero =>
    cases hk
    cases l with
    |zero => exact absurd rfl hn
    |succ l =>
     obtain ⟨j, i', h1, h2, _⟩ := picks_get (is := is) hl
     have hm : i' ∈ is := List.mem_of_getElem? h1
     exact ⟨i, i', he1, h2, fun e => hi (e ▸ hm), by simp, by simp [hm]⟩
   |succ k =>
    cases l with
    |zero =>
     cases hl
     obtain ⟨j, i', h1, h2, _⟩ := picks_get (is := is) hk
     have hm : i' ∈ is := List.mem_of_getElem? h1
     exact ⟨i', i, h2, he1, fun e => hi (e ▸ hm), by simp [hm], by simp⟩
    |succ l =>
     obtain ⟨a, b, h1, h2, h3, h4, h5⟩ := picks_two (is := is) hd hk hl (by omega)
     exact ⟨a, b, h1, h2, h3, by simp [h4], by simp [h5]⟩
  ·rename_i hno
   have hl : (match L[i]? with | some e => e :: picks L is | none => picks L is)[l]? = some f := hl
   rw [hno] at hl
   obtain ⟨a, b, h1, h2, h3, h4, h5⟩ := picks_two (is := is) hd hk hl hn
   exact ⟨a, b, h1, h2, h3, by simp [h4], by simp [h5]⟩
theorem St.pick (w : St T h0 h L) (is : List Nat) (hd : is.Nodup) : St T h0 h (picks L is) := by
 refine ⟨w.chg, fun k e hk => ?_, fun k l e f hk hl hn => ?_⟩
 ·obtain ⟨_, i, _, hi, _⟩ := picks_get hk
  exact w.ents i e hi
 ·obtain ⟨i, j, h1, h2, h3, _⟩ := picks_two hd hk hl hn
  exact w.apart i j e f h1 h2 h3
theorem St.ld {b o : Nat} {us : List Value} {v : Value} (w : St T h0 h L) (i : Nat) (hi : L[i]? = some (.b b us)) (hv : us[o]? = some v) : cell h b o = some v := cell_blk (w.get i hi) hv
theorem St.ld1 {b o : Nat} {us : List Value} {v : Value} {K : Value → Prop} (w : St T h0 h L) (i : Nat) (hi : L[i]? = some (.b b us)) (hv : us[o]? = some v) (k : K v) : ∃ v, cell h b o = some v ∧ K v := ⟨v, w.ld i hi hv, k⟩
theorem St.ldw {b n : Nat} {us : List Value} {K : List Value → Prop} (w : St T h0 h L) (i : Nat) (hi : L[i]? = some (.b b us)) (hn : us.length = n) (k : K us) : ∃ vs, vs.length = n ∧ Cells h b 0 vs ∧ K vs := ⟨us, hn, cells_blk (w.get i hi), k⟩
theorem cells_mid {h : Heap} {b o n : Nat} {us : List Value} (hb : Blk h b us) : Cells h b o ((us.drop o).take n) := cells_part hb fun i v hv => by
 rw [List.getElem?_take] at hv
 split at hv
 ·rw [List.getElem?_drop] at hv; exact hv
 ·cases hv
theorem St.ldn {b o n : Nat} {us : List Value} {K : List Value → Prop} (w : St T h0 h L) (i : Nat) (hi : L[i]? = some (.b b us)) (hn : ((us.drop o).take n).length = n) (k : K ((us.drop o).take n)) : ∃ vs, vs.length = n ∧ Cells h b o vs ∧ K vs := ⟨_, hn, cells_mid (w.get i hi), k⟩
theorem St.put {b : Nat} {us l' : List Value} (w : St T h0 h L) (i : Nat) (hi : L[i]? = some (.b b us)) (p : Put h h' b l') : St T h0 h' (L.set i (.b b l')) :=
 w.set i hi p.chg (fun _ hk => .inl hk) (show Blk h' b l' from p.blk) (fun _ hk => .inl hk)
theorem St.st1 {b o n : Nat} {l ys : List Value} {K : Heap → Prop} (w : St T h0 h L) (i : Nat) (hi : L[i]? = some (.b b l)) (h1 : Nat.ble (o + n) l.length = true) (h2 : ys.length = n) (h3 : ys.all Value.oneCell' = true)
  (k : ∀ h', St T h0 h' (L.set i (.b b (splice l o ys))) → K h') : ∃ l, Blk h b l ∧ o + n ≤ l.length ∧ ys.length = n ∧ (∀ u ∈ ys, u.oneCell' = true) ∧ ∀ h', Put h h' b (splice l o ys) → K h' :=
 ⟨l, w.get i hi, Nat.le_of_ble_eq_true h1, h2, fun u hu => List.all_eq_true.1 h3 u hu, fun h' p => k h' (w.put i hi p)⟩
theorem St.st2 {b o n : Nat} {l ys : List Value} {K : Heap → Prop} (w : St T h0 h L) (i : Nat) (hi : L[i]? = some (.b b l)) (h1 : Nat.ble (o + n) l.length = true) (h2 : ys.length = n) (h3 : ys.all Value.oneCell' = true)
  (k : ∀ h', St T h0 h' (L.set i (.b b (splice l o ys))) → Chg [b] h h' → K h') : ∃ l, Blk h b l ∧ o + n ≤ l.length ∧ ys.length = n ∧ (∀ u ∈ ys, u.oneCell' = true) ∧ ∀ h', Put h h' b (splice l o ys) → K h' :=
 ⟨l, w.get i hi, Nat.le_of_ble_eq_true h1, h2, fun u hu => List.all_eq_true.1 h3 u hu, fun h' p => k h' (w.put i hi p) p.chg⟩
def En.nil : En := .x [] (fun _ => True) (fun _ _ _ _ _ _ => trivial) (fun _ _ b hb => (nomatch hb))
theorem St.gone (w : St T h0 h L) {S : List Nat} (i : Nat) (hi : L[i]? = some e) (hc : Chg S h h') (hS : ∀ b ∈ S, b ∈ e.fp ∨ h.size ≤ b) : St T h0 h' (L.set i En.nil) := w.set i hi hc hS trivial fun b hb => (nomatch (show b ∈ ([] : List Nat) from hb))
theorem St.ne {b b' : Nat} {l l' : List Value} (w : St T h0 h L) (i j : Nat) (hi : L[i]? = some (.b b l)) (hj : L[j]? = some (.b b' l')) (hn : i ≠ j) : b ≠ b' := fun e => w.apart i j _ _ hi hj hn b (List.mem_singleton.2 rfl) (List.mem_singleton.2 e)
theorem St.app {α : Type} {enc : α → List Value} {size bytes : Nat} {z : List Value} {a a' : Option Addr} {n c m c2 : Nat} {l l2 : List α} {K : Value → Heap → Prop} (w : St T h0 h L) (i : Nat) (hi : L[i]? = some (.o enc size (.slice a n c) l))
  (hsz : ∀ x, (enc x).length = size) (h1 : ∀ x, ∀ u ∈ enc x, u.oneCell' = true) (hz : z.length = size) (hsrc : SL enc h (.slice a' m c2) l2) (hbound : ((l.length + l2.length) * 2 + 768) * bytes ≤ 281474976710656)
  (k : ∀ v' h', St T h0 h' (L.set i (.o enc size v' (l ++ l2))) → K v' h') : appP h K size bytes z a n c a' m :=
 app_own hsz h1 hz (w.get i hi) hsrc hbound fun v' h' ho hc hb => k v' h' (w.set i hi hc (fun _ hk => .inl hk) ho hb)
theorem St.mput {b : Nat} {es es' : List MapEntry} {c c' : Nat} (w : St T h0 h L) (i : Nat) (hi : L[i]? = some (.m b es c)) (p : PutO h h' b (.map ⟨es'⟩ c')) : St T h0 h' (L.set i (.m b es' c')) :=
 w.set i hi p.chg (fun _ hk => .inl hk) (show MapB h' b es' c' from p.blk) (fun _ hk => .inl hk)
structure As (h0 h : Heap) (e : En) : Prop where
 chg : Chg [] h0 h
 at_ : e.at h
 fresh : ∀ b ∈ e.fp, h0.size ≤ b
structure Own (e : En) (h : Heap) (e' : En) (h' : Heap) : Prop where
 at_ : e'.at h'
 chg : Chg e.fp h h'
 fresh : ∀ b ∈ e'.fp, b ∈ e.fp ∨ h.size ≤ b
theorem As.st (x : As h0 h e) : St e.fp h h [e] := by
 refine ⟨(Chg.refl h).mono (by simp), fun i e1 hi => ?_, fun i j e1 f hi hj hn => ?_⟩
 ·match i, hi with
  |0, hi => cases hi; exact ⟨x.at_, fun b hb => .inl hb⟩
 ·match i, j, hi, hj, hn with
  |0, 0, _, _, hn => exact absurd rfl hn
theorem As.base {M : List En} (x : As h0 h e) (w : St e.fp h h' M) : Chg [] h0 h' := x.chg.fresh w.chg x.fresh
theorem As.ext (x : As h0 h e) (hc : Chg [] h h') : As h0 h' e := ⟨x.chg.nil hc, En.chg x.at_ hc (by simp), x.fresh⟩
theorem As.out {M : List En} (x : As h0 h e) (w : St e.fp h h' M) (i : Nat) (hi : M[i]? = some e') : As h0 h' e' ∧ Own e h e' h' := by
 have hz := x.chg.size
 obtain ⟨h1, h2⟩ := w.ents i e' hi
 refine ⟨⟨x.base w, h1, fun b hb => ?_⟩, h1, w.chg, h2⟩
 rcases h2 b hb with h3 | h3
 ·exact x.fresh b h3
 ·omega
theorem St.own {M : List En} (w : St T h0 h M) (i : Nat) (hi : M[i]? = some e) (o : Own e h e' h') : St T h0 h' (M.set i e') := w.set i hi o.chg (fun _ hk => .inl hk) o.at_ o.fresh
theorem Own.refl (he : e.at h) (hc : Chg [] h h') : Own e h e h' := ⟨En.chg he hc (by simp), hc.mono (by simp), fun _ hb => .inl hb⟩
theorem St.as {M : List En} (w : St [] h0 h M) (i : Nat) (hi : M[i]? = some e) : As h0 h e := ⟨w.chg, w.get i hi, fun b hb => by
 rcases (w.ents i e hi).2 b hb with h1 | h1
 ·cases h1
 ·exact h1⟩
section
variable {P : Program} {f : Nat} {vs : List Value} {K : Value → Heap → Prop} {Qp : List PanicEntry → Heap → Prop} {v : Value}
theorem St.callv (w : St T h0 h L) (hc : CallsH P f vs h (Ret fun r h' => r = v ∧ Chg [] h h')) (k : ∀ h', St T h0 h' L → K v h') : CallsH P f vs h (after K Qp) :=
 call_ret hc fun r h' hr => by obtain ⟨rfl, hch⟩ := hr; exact k h' (w.ext hch)
theorem callp (hc : CallsH P f vs h (Ret fun r h' => r = v ∧ h' = h)) (k : K v h) : CallsH P f vs h (after K Qp) :=
 call_ret hc fun r h' hr => by obtain ⟨rfl, e⟩ := hr; have e := e.symm; subst e; exact k
theorem St.callqv (w : St T h0 h L) (hc : CallsH P f vs h (Ret fun r h' => r = v ∧ Chg [] h h')) (k : ∀ h', St T h0 h' L → K v h') : CallsH P f vs h (fun e h' => Ext h h' ∧ after K Qp e h') :=
 callq_ret hc fun r h' hr => by obtain ⟨rfl, hch⟩ := hr; exact ⟨hch.ext, k h' (w.ext hch)⟩
end
end Go.Sx
namespace Go.Proofs.YtjnijlnmbjjgpaaGreatDoor
open Go Go.Sx C
section
variable {h0 h h1 h' : Heap} {ab kb : Nat} {now : Int} {av lv lv' : Value} {A : List ByteArray} {L E : List Eff} {M : List En} {T : List Nat}
end
def thE (t : Thing) (pv lv rv : Value) : En :=
 .x (bl3 pv lv rv) (fun h => TH h (cellsT t pv lv rv) t ∧ ∀ b ∈ bl3 pv lv rv, b < h.size) (fun S h h' hc hn ⟨h1, h2⟩ => ⟨th_off h1 hc hn, fun b hb => Nat.lt_of_lt_of_le (h2 b hb) hc.size⟩) (fun h ⟨_, h2⟩ b hb => h2 b hb)
structure Rep where
 k : Int
 i : Int
 s : ByteArray
 l : List (Int × Int × ByteArray)
abbrev rep (k i : Int) (s : ByteArray) : Rep := ⟨k, i, s, []⟩
def encQ (x : Int × Int × ByteArray) : List Value := [.int .i64 x.1, .int .i64 x.2.1, .string x.2.2, .slice none 0 0]
theorem encQ_len (x : Int × Int × ByteArray) : (encQ x).length = 4 := rfl
theorem encQ_one (x : Int × Int × ByteArray) : ∀ u ∈ encQ x, u.oneCell' = true := repV_ones x.1 x.2.1 x.2.2
def RepAt (z : Nat) (h : Heap) (v : Value) (q : Rep) : Prop := ∃ a n c, v = .agg ⟨[.int .i64 q.k, .int .i64 q.i, .string q.s, .slice a n c]⟩ ∧ SL encQ h (.slice a n c) q.l ∧ ∀ b ∈ ablk a, z ≤ b
theorem four {ws vs : List Value} (hw : ws.length = 4) (hv : vs.length = 4) : splice ws 0 vs = vs := by
 match ws, hw, vs, hv with
 |[_, _, _, _], _, [_, _, _, _], _ => rfl
section
variable {h0 h h1 h' : Heap} {ab kb sb mb c b2 : Nat} {now lo hi k n : Int} {av lv lv' : Value} {A : List ByteArray} {L E : List Eff} {M : List En} {T : List Nat} {s key why : ByteArray} {m : List KI} {S : Space} {res : Except ByteArray (Rep × List Eff)}
 {K : Value → Heap → Prop} {Qp : List PanicEntry → Heap → Prop}
def wArgs : ByteArray := ⟨#[69, 82, 82, 32, 97, 114, 103, 115]⟩
end
theorem one_arg {α : Type} {A : List α} (h : (1 : Int) ≤ A.length ∧ (A.length : Int) ≤ 1) : ∃ x, A = [x] := by
 match A, h with
 |[], h => simp at h
 |[x], _ => exact ⟨x, rfl⟩
 |x :: y :: l, h => simp at h; omega
theorem two_arg {α : Type} {A : List α} (h : (2 : Int) ≤ A.length ∧ (A.length : Int) ≤ 2) : ∃ x y, A = [x, y] := by
 match A, h with
 |[], h => simp at h
 |[x], h => simp at h
 |[x, y], _ => exact ⟨x, y, rfl⟩
 |x :: y :: z :: l, h => simp at h; omega
def arg1 (f : ByteArray → Except ByteArray (Rep × List Eff)) : List ByteArray → Except ByteArray (Rep × List Eff)
 |[x] => f x
 |_ => .error wArgs
def arg2 (f : ByteArray → ByteArray → Except ByteArray (Rep × List Eff)) : List ByteArray → Except ByteArray (Rep × List Eff)
 |[x, y] => f x y
 |_ => .error wArgs
theorem arg1_bad {f : ByteArray → Except ByteArray (Rep × List Eff)} {A : List ByteArray} (h : ¬ ((1 : Int) ≤ A.length ∧ (A.length : Int) ≤ 1)) : arg1 f A = .error wArgs := by
 match A, h with
 |[], _ => rfl
 |[x], h => exact absurd ⟨by simp, by simp⟩ h
 |x :: y :: l, _ => rfl
theorem arg2_bad {f : ByteArray → ByteArray → Except ByteArray (Rep × List Eff)} {A : List ByteArray} (h : ¬ ((2 : Int) ≤ A.length ∧ (A.length : Int) ≤ 2)) : arg2 f A = .error wArgs := by
 match A, h with
 |[], _ => rfl
 |[x], _ => rfl
 |[x, y], h => exact absurd ⟨by simp, by simp⟩ h
 |x :: y :: z :: l, _ => rfl
end Go.Proofs.YtjnijlnmbjjgpaaGreatDoor
namespace Go.Proofs.YtjnijlnmbjjgpaaGreatDoor
open Go Go.Sx C
section
variable {h0 h : Heap} {ab kb sb mb c : Nat} {now n : Int} {av lv : Value} {A : List ByteArray} {m : List KI} {S : Space} {key s a : ByteArray} {t : Thing} {go : Option Thing}
theorem numOf_in {v : Int} (h : numOf s = some v) : In64 v := by
 obtain ⟨⟨a, b⟩, _⟩ := (Num.num_iff rfl s.data.toList v).1 h
 exact ⟨by omega, by omega⟩
theorem itoa_len {k n : Int} (h : okSum k n) : (Lib.itoa (k + n)).length ≤ 20 := by
 obtain ⟨h0, h1⟩ := h
 unfold Lib.itoa
 split
 ·have := Num.dec_len 18 (k + n).natAbs (by omega)
  simp; omega
 ·have := Num.dec_len 18 (k + n).toNat (by omega)
  omega
theorem mv_go {P : Program} {x : Operand} {d : Nat} {c : SCode} {Q : Post} {σ : Env} {ds : List Deferred} {h : Heap} {v : Value} (he : ev σ x = some v) (hs : swp P c Q (upd σ (some d) v) ds h) :
  swp P (.seq (.ops [⟨some d, none, .mv x⟩]) c) Q σ ds h := by
 simp only [swp, sops, sopr, sop, he]
 exact hs
end
end Go.Proofs.YtjnijlnmbjjgpaaGreatDoor
namespace Go.Proofs.YtjnijlnmbjjgpaaGreatDoor
open Go Go.Sx C
section
variable {h0 h : Heap} {ab kb sb mb c : Nat} {now n : Int} {av lv : Value} {A : List ByteArray} {m : List KI} {S : Space} {key s a : ByteArray} {t : Thing} {go : Option Thing} {q : Rep} {E : List Eff}
end
end Go.Proofs.YtjnijlnmbjjgpaaGreatDoor
namespace Go.Proofs.YtjnijlnmbjjgpaaGreatDoor
open Go Go.Sx C
abbrev Res := Except ByteArray (Rep × List Eff)
def nilR : Rep := rep 0 0 noText
def numR (n : Int) : Rep := rep 3 n noText
instance memB (k : ByteArray) (l : List ByteArray) : Decidable (k ∈ l) := @List.instDecidableMemOfLawfulBEq _ instBEqOfDecidableEq _ k l
def cntB (k : ByteArray) (l : List ByteArray) : Nat := l.countP fun x => decide (x = k)
theorem cntB_zero {k : ByteArray} {l : List ByteArray} (h : k ∉ l) : cntB k l = 0 := List.countP_eq_zero.2 fun x hx he => h (of_decide_eq_true he ▸ hx)
theorem cntB_pos {k : ByteArray} {l : List ByteArray} (h : k ∈ l) : 0 < cntB k l := List.countP_pos_iff.2 ⟨k, h, decide_eq_true rfl⟩
theorem cntB_le {k : ByteArray} {l : List ByteArray} : cntB k l ≤ l.length := List.countP_le_length
theorem cntB_snoc {pre : List ByteArray} {k k' : ByteArray} : cntB k' (pre ++ [k]) = cntB k' pre + (if k' = k then 1 else 0) := by
 unfold cntB
 rw [List.countP_append, List.countP_singleton]
 by_cases h : k' = k
 ·rw [if_pos (decide_eq_true h.symm), if_pos h]
 ·rw [if_neg (by simp; exact fun e => h e.symm), if_neg h]
section
variable (S : Space) (now : Int)
end
end Go.Proofs.YtjnijlnmbjjgpaaGreatDoor
namespace Go.Proofs.YtjnijlnmbjjgpaaGreatDoor
open Go Go.Sx C
def hashE (key n t : ByteArray) : Eff := ⟨5, key, n, t, 0⟩
def tailE (key t : ByteArray) : Eff := ⟨8, key, noText, t, 0⟩
def untailE (key : ByteArray) : Eff := ⟨10, key, noText, noText, 0⟩
def addE (key n : ByteArray) : Eff := ⟨12, key, n, noText, 0⟩
def rankE (key n : ByteArray) (s : Int) : Eff := ⟨14, key, n, noText, s⟩
def listR (l : List ByteArray) : Rep := ⟨5, 0, noText, l.map fun s => (4, 0, s)⟩
def textR (s : ByteArray) : Rep := rep 4 0 s
def small (s : ByteArray) : Bool := decide (s.size ≤ 1048576)
def okK (kd : Int) : Option Thing → Bool
 |none => true
 |some t => decide (t.kind = kd)
def placeN (n : Nat) (at_ : Int) : Option Nat :=
 if at_ < 0 then (if 0 ≤ at_ + n then some (at_ + n).toNat else none) else if at_ < n then some at_.toNat else none
def spanA (n : Nat) (a : Int) : Int := if a < 0 then max 0 (a + n) else a
def spanB (n : Nat) (b : Int) : Int := min (if b < 0 then b + n else b) ((n : Int) - 1)
def spanN (n : Nat) (a b : Int) : Nat × Nat := if n < 1 ∨ spanB n b < spanA n a then (0, 0) else ((spanA n a).toNat, (spanB n b).toNat + 1)
theorem placeN_lt {n i : Nat} {a : Int} (h : placeN n a = some i) : i < n := by
 unfold placeN at h
 split at h
 ·split at h
  ·cases h; omega
  ·cases h
 ·split at h
  ·cases h; omega
  ·cases h
theorem spanN_le (n : Nat) (a b : Int) : (spanN n a b).1 ≤ (spanN n a b).2 ∧ (spanN n a b).2 ≤ n := by
 unfold spanN
 split
 ·exact ⟨Nat.le_refl _, Nat.zero_le _⟩
 ·rename_i h
  have hb : spanB n b ≤ (n : Int) - 1 := by unfold spanB; exact Int.min_le_right _ _
  have ha : 0 ≤ spanA n a := by unfold spanA; split <;> omega
  show (spanA n a).toNat ≤ (spanB n b).toNat + 1 ∧ (spanB n b).toNat + 1 ≤ n
  omega
section
variable (S : Space) (now : Int)
def kindly (k : Int) (key : ByteArray) (f : Thing → Res) : Res := match getS S key now with
 |none => f zeroT
 |some t => if t.kind = k then f t else .error wType
def makes (key : ByteArray) (items : Int) (ok : Bool) (r : Rep) (E : List Eff) : Res :=
 if items ≤ 65536 ∧ key.size ≤ 1048576 ∧ ok = true then .ok (r, dropsS S key now ++ E) else .error wLong
def newL (there : ByteArray → Bool) : List ByteArray → List ByteArray → List ByteArray
 |_, [] => []
 |pre, n :: ns => (if there n = false ∧ n ∉ pre then [n] else []) ++ newL there (pre ++ [n]) ns
def twos : List ByteArray → List (ByteArray × ByteArray)
 |a :: b :: l => (a, b) :: twos l
 |_ => []
def fieldF (l : List Pair) (n : ByteArray) : Option ByteArray := (l.find? fun p => decide (p.name = n)).map Pair.text
def thereH (l : List Pair) (n : ByteArray) : Bool := (fieldF l n).isSome
def cHset : List ByteArray → Res
 |key :: l => if 2 ≤ l.length ∧ l.length < 65536 ∧ l.length % 2 = 0 then kindly S now 2 key fun t =>
   let n := (newL (thereH t.pairs) [] ((twos l).map Prod.fst)).length
   makes S now key (t.pairs.length + n) (l.all small) (numR n) ((twos l).map fun p => hashE key p.1 p.2) else .error wArgs
 |[] => .error wArgs
def cHget : List ByteArray → Res := arg2 fun key n => kindly S now 2 key fun t => match fieldF t.pairs n with
 |some s => .ok (textR s, [])
 |none => .ok (nilR, [])
def arg3 (f : ByteArray → ByteArray → ByteArray → Res) : List ByteArray → Res
 |[a, b, c] => f a b c
 |_ => .error wArgs
def numbered (s : ByteArray) (f : Int → Res) : Res := match numOf s with
 |some n => f n
 |none => .error wNum
def cPush (e : ByteArray → ByteArray → Eff) : List ByteArray → Res
 |key :: l => if 1 ≤ l.length ∧ l.length < 65536 then kindly S now 3 key fun t => makes S now key (t.list.length + l.length) (l.all small) (numR (t.list.length + l.length)) (l.map (e key)) else .error wArgs
 |[] => .error wArgs
def cPop (e : ByteArray → Eff) (at_ : Int) : List ByteArray → Res := arg1 fun key => kindly S now 3 key fun t => match placeN t.list.length at_ with
 |some i => .ok (textR (t.list[i]?.getD noText), [e key])
 |none => .ok (nilR, [])
def cLindex : List ByteArray → Res := arg2 fun key s => numbered s fun n => kindly S now 3 key fun t => match placeN t.list.length n with
 |some i => .ok (textR (t.list[i]?.getD noText), [])
 |none => .ok (nilR, [])
def spanL {α : Type} (l : List α) (a b : Int) : List α := (l.drop (spanN l.length a b).1).take ((spanN l.length a b).2 - (spanN l.length a b).1)
def cLrange : List ByteArray → Res := arg3 fun key s u => numbered s fun a => numbered u fun b => kindly S now 3 key fun t => .ok (listR (spanL t.list a b), [])
def thereL (l : List ByteArray) (n : ByteArray) : Bool := decide (n ∈ l)
def cSadd : List ByteArray → Res
 |key :: l => if 1 ≤ l.length ∧ l.length < 65536 then kindly S now 4 key fun t =>
   let ns := newL (thereL t.list) [] l
   if ns = [] then .ok (numR 0, []) else makes S now key (t.list.length + ns.length) (ns.all small) (numR ns.length) (ns.map (addE key)) else .error wArgs
 |[] => .error wArgs
def cSis : List ByteArray → Res := arg2 fun key n => kindly S now 4 key fun t => .ok (numR (if thereL t.list n = true then 1 else 0), [])
def scoreF (l : List Rank) (n : ByteArray) : Option Int := (l.find? fun r => decide (r.name = n)).map Rank.score
def thereR (l : List Rank) (n : ByteArray) : Bool := (scoreF l n).isSome
def scored : List (ByteArray × ByteArray) → Option (List (Int × ByteArray))
 |[] => some []
 |(s, n) :: l => match numOf s, scored l with
  |some z, some r => some ((z, n) :: r)
  |_, _ => none
def cZadd : List ByteArray → Res
 |key :: l => if 2 ≤ l.length ∧ l.length < 65536 ∧ l.length % 2 = 0 then match scored (twos l) with
   |none => .error wNum
   |some r => kindly S now 5 key fun t =>
    let n := (newL (thereR t.ranks) [] (r.map Prod.snd)).length
    makes S now key (t.ranks.length + n) ((r.map Prod.snd).all small) (numR n) (r.map fun p => rankE key p.2 p.1)
   else .error wArgs
 |[] => .error wArgs
def cZscore : List ByteArray → Res := arg2 fun key n => kindly S now 5 key fun t => match scoreF t.ranks n with
 |some z => .ok (textR ⟨⟨Lib.itoa z⟩⟩, [])
 |none => .ok (nilR, [])
end
end Go.Proofs.YtjnijlnmbjjgpaaGreatDoor
namespace Go.Proofs.YtjnijlnmbjjgpaaGreatDoor
open Go Go.Sx C
def cellsC (t : Thing) (pv lw rv : Value) (is : Bool) (kb : Nat) (now : Int) (key : ByteArray) (av lv : Value) : List Value :=
 [.int .i64 t.kind, .string t.text, pv, lw, rv, .bool t.hasU, .int .i64 t.unt, .bool is, ptr kb, .int .i64 now, .string key, av, lv]
def cE (ab kb : Nat) (now : Int) (av : Value) (key : ByteArray) (t : Thing) (is : Bool) (pv lw rv lv : Value) (L : List Eff) : En :=
 .x (ab :: (vblk lv ++ bl3 pv lw rv)) (fun h => Blk h ab (cellsC t pv lw rv is kb now key av lv) ∧ OL encD 5 h lv L ∧ TH h (cellsT t pv lw rv) t ∧ (∀ b ∈ bl3 pv lw rv, b < h.size) ∧ ab ∉ vblk lv ∧ ab ∉ bl3 pv lw rv ∧ ∀ b ∈ vblk lv, b ∉ bl3 pv lw rv)
  (fun _ _ _ hc hn ⟨h1, h2, h3, h4, h5, h6, h7⟩ => ⟨h1.chg hc (hn _ (by simp)), h2.chg hc (fun b hb => hn _ (by simp [hb])), th_off h3 hc (fun b hb => hn _ (by simp [hb])), fun b hb => Nat.lt_of_lt_of_le (h4 b hb) hc.size, h5, h6, h7⟩)
  (fun _ ⟨h1, h2, _, h4, _⟩ b hb => by
   rcases List.mem_cons.1 hb with rfl | hb
   ·exact h1.lt
   ·rcases List.mem_append.1 hb with hb | hb
    ·exact OL.lt h2 b hb
    ·exact h4 b hb)
section
variable {h h1 h' : Heap} {ab kb i : Nat} {now : Int} {av lv pv lw rv : Value} {key key2 : ByteArray} {t : Thing} {is : Bool} {L F : List Eff} {M : List En} {T : List Nat}
theorem _root_.Go.Sx.St.ldc {o : Nat} {v : Value} {K : Value → Prop} (w : St T h1 h M) (i : Nat) (hi : M[i]? = some (cE ab kb now av key t is pv lw rv lv L)) (hv : (cellsC t pv lw rv is kb now key av lv)[o]? = some v) (k : K v) : ∃ v, cell h ab o = some v ∧ K v := ⟨v, cell_blk (w.get i hi).1 hv, k⟩
theorem _root_.Go.Sx.St.cform (w : St T h1 h M) (i : Nat) (hi : M[i]? = some (cE ab kb now av key t is pv lw rv lv L)) : ∃ a c, lv = .slice a L.length c := by
 obtain ⟨a, c, e, _⟩ := (show OL encD 5 h lv L from (w.get i hi).2.1).sl.form
 exact ⟨a, c, e⟩
theorem _root_.Go.Sx.St.ckey {K : Heap → Prop} (w : St T h1 h M) (i : Nat) (hi : M[i]? = some (cE ab kb now av key t is pv lw rv lv L)) (k : ∀ h', St T h1 h' (M.set i (cE ab kb now av key2 t is pv lw rv lv L)) → K h') :
  ∃ l, Blk h ab l ∧ 10 + 1 ≤ l.length ∧ [Value.string key2].length = 1 ∧ (∀ u ∈ [Value.string key2], u.oneCell' = true) ∧ ∀ h', Put h h' ab (splice l 10 [.string key2]) → K h' := by
 obtain ⟨hB, hO, hT, hb, n1, n2, n3⟩ := w.get i hi
 refine ⟨_, hB, by simp [cellsC], rfl, ones1 rfl, fun h' p => k h' ?_⟩
 refine w.set i hi p.chg (fun b hb => .inl (by simp at hb; simp [cE, En.fp, hb])) ⟨p.blk, hO.chg p.chg (fun b hb => by simp; rintro rfl; exact n1 hb), th_off hT p.chg (fun b hb => by simp; rintro rfl; exact n2 hb), fun b h9 => Nat.lt_of_lt_of_le (hb b h9) p.chg.size, n1, n2, n3⟩ (fun b hb => .inl hb)
theorem _root_.Go.Sx.St.capp {a a' : Option Addr} {n c m c2 : Nat} {z : List Value} {K : Value → Heap → Prop} (w : St T h1 h M) (i : Nat) (hi : M[i]? = some (cE ab kb now av key t is pv lw rv (.slice a n c) L)) (hz : z.length = 5) (hsrc : SL encD h (.slice a' m c2) F) (hb : ((L.length + F.length) * 2 + 768) * 64 ≤ 281474976710656)
  (k : ∀ a3 c3 h', (∀ {K' : Heap → Prop}, (∀ h'', St T h1 h'' (M.set i (cE ab kb now av key t is pv lw rv (.slice a3 (L ++ F).length c3) (L ++ F))) → K' h'') →
   ∃ l, Blk h' ab l ∧ 12 + 1 ≤ l.length ∧ [Value.slice a3 (L ++ F).length c3].length = 1 ∧ (∀ u ∈ [Value.slice a3 (L ++ F).length c3], u.oneCell' = true) ∧ ∀ h'', Put h' h'' ab (splice l 12 [.slice a3 (L ++ F).length c3]) → K' h'') → K (.slice a3 (L ++ F).length c3) h') : appP h K 5 64 z a n c a' m := by
 obtain ⟨hB, hO, hT, hlt3, n1, n2, n3⟩ := w.get i hi
 have hlt := hB.lt
 refine app_own encD_len encD_one hz hO hsrc hb fun v' h' ho hc hbv => ?_
 have hxn : ab ∉ vblk v' := fun hm => by
  rcases hbv ab hm with h3 | h3
  ·exact n1 h3
  ·omega
 have hyn : ∀ b ∈ vblk v', b ∉ bl3 pv lw rv := fun b hb hm => by
  rcases hbv b hb with h3 | h3
  ·exact n3 b h3 hm
  ·have := hlt3 b hm; omega
 have hB1 := hB.chg hc n1
 have hT1 := th_off hT hc (fun b hb hm => n3 b hm hb)
 obtain ⟨a3, c3, rfl, _⟩ := ho.sl.form
 refine k a3 c3 h' fun {K'} hK => ?_
 refine ⟨_, hB1, by simp [cellsC], rfl, ones1 rfl, fun h'' p => hK h'' ?_⟩
 have ct : Chg (ab :: ablk a) h h'' := (hc.mono (fun b hb => List.mem_cons_of_mem _ hb)).trans p.chg (fun _ hk => hk) (fun b hb _ => by simp at hb; simp [hb])
 refine w.set i hi ct (fun b hb => .inl ?_) ⟨p.blk, ho.chg p.chg (fun b hb => by simp; rintro rfl; exact hxn hb), th_off hT1 p.chg (fun b hb => by simp; rintro rfl; exact n2 hb), fun b h9 => Nat.lt_of_lt_of_le (hlt3 b h9) ct.size, hxn, n2, hyn⟩ (fun b hb => ?_)
 ·rcases List.mem_cons.1 hb with rfl | hb
  ·exact List.mem_cons_self ..
  ·exact List.mem_cons_of_mem _ (List.mem_append_left _ hb)
 ·rcases List.mem_cons.1 hb with rfl | hb
  ·exact .inl (List.mem_cons_self ..)
  ·rcases List.mem_append.1 hb with hb | hb
   ·rcases hbv b hb with h3 | h3
    ·exact .inl (List.mem_cons_of_mem _ (List.mem_append_left _ h3))
    ·exact .inr h3
   ·exact .inl (List.mem_cons_of_mem _ (List.mem_append_right _ hb))
theorem _root_.Go.Sx.St.cthing {t2 : Thing} {p2 w2 r2 : Value} {K : Heap → Prop} {j : Nat} (w : St T h1 h M) (i : Nat) (hi : M[i]? = some (cE ab kb now av key t is pv lw rv lv L)) (hj : M[j]? = some (thE t2 p2 w2 r2)) (hij : j ≠ i)
  (k : ∀ h', St T h1 h' ((M.set j En.nil).set i (cE ab kb now av key t2 is p2 w2 r2 lv L)) → K h') :
  ∃ l, Blk h ab l ∧ 0 + 7 ≤ l.length ∧ (cellsT t2 p2 w2 r2).length = 7 ∧ (∀ u ∈ cellsT t2 p2 w2 r2, u.oneCell' = true) ∧ ∀ h', Put h h' ab (splice l 0 (cellsT t2 p2 w2 r2)) → K h' := by
 obtain ⟨hB, hO, hT, hlt3, n1, n2, n3⟩ := w.get i hi
 obtain ⟨hT2, hlt2⟩ := w.get j hj
 refine ⟨_, hB, by simp [cellsC], rfl, thing_one hT2, fun h' p => k h' ?_⟩
 have m1 : ∀ b ∈ bl3 p2 w2 r2, b ∉ (cE ab kb now av key t is pv lw rv lv L).fp := fun b hb => w.apart j i _ _ hj hi hij b hb
 have n2' : ab ∉ bl3 p2 w2 r2 := fun hm => m1 ab hm (by simp [cE, En.fp])
 have n3' : ∀ b ∈ vblk lv, b ∉ bl3 p2 w2 r2 := fun b hb hm => m1 b hm (by simp [cE, En.fp, hb])
 have hz := w.size
 have hil : i < M.length := (List.getElem?_eq_some_iff.1 hi).1
 have hjl : j < M.length := (List.getElem?_eq_some_iff.1 hj).1
 have hfi := (w.ents i _ hi).2
 have hfj := (w.ents j _ hj).2
 have he : (cE ab kb now av key t2 is p2 w2 r2 lv L).at h' := ⟨p.blk, hO.chg p.chg (fun b hb => by simp; rintro rfl; exact n1 hb), th_off hT2 p.chg (fun b hb => by simp; rintro rfl; exact n2' hb), fun b h9 => Nat.lt_of_lt_of_le (hlt2 b h9) p.chg.size, n1, n2', n3'⟩
 have hsub : ∀ b ∈ (cE ab kb now av key t2 is p2 w2 r2 lv L).fp, b ∈ (cE ab kb now av key t is pv lw rv lv L).fp ∨ b ∈ (thE t2 p2 w2 r2).fp := fun b hb => by
  rcases List.mem_cons.1 hb with rfl | hb
  ·exact .inl (List.mem_cons_self ..)
  ·rcases List.mem_append.1 hb with hb | hb
   ·exact .inl (List.mem_cons_of_mem _ (List.mem_append_left _ hb))
   ·exact .inr hb
 have hab : ab ∈ (cE ab kb now av key t is pv lw rv lv L).fp := List.mem_cons_self ..
 have get3 : ∀ {x : Nat} {e : En}, ((M.set j En.nil).set i (cE ab kb now av key t2 is p2 w2 r2 lv L))[x]? = some e → (x = i ∧ e = cE ab kb now av key t2 is p2 w2 r2 lv L) ∨ (x = j ∧ x ≠ i ∧ e = En.nil) ∨ (x ≠ i ∧ x ≠ j ∧ M[x]? = some e) := fun {x e} hx => by
  by_cases h1 : i = x
  ·subst h1
   rw [List.getElem?_set_self (by rw [List.length_set]; exact hil)] at hx
   cases hx
   exact .inl ⟨rfl, rfl⟩
  ·rw [List.getElem?_set_ne h1] at hx
   by_cases h2 : j = x
   ·subst h2
    rw [List.getElem?_set_self hjl] at hx
    cases hx
    exact .inr (.inl ⟨rfl, fun e => h1 e.symm, rfl⟩)
   ·rw [List.getElem?_set_ne h2] at hx
    exact .inr (.inr ⟨fun e => h1 e.symm, fun e => h2 e.symm, hx⟩)
 refine ⟨w.chg.trans p.chg (fun _ hk => hk) (fun b hb hlt => ?_), fun x e hx => ?_, fun x y e f hx hy hn b h1 h2 => ?_⟩
 ·simp at hb
  subst hb
  rcases hfi b hab with h9 | h9
  ·exact h9
  ·omega
 ·rcases get3 hx with ⟨rfl, rfl⟩ | ⟨rfl, _, rfl⟩ | ⟨h1, h2, hm⟩
  ·refine ⟨he, fun b hb => ?_⟩
   rcases hsub b hb with h9 | h9
   ·exact hfi b h9
   ·exact hfj b h9
  ·exact ⟨trivial, fun b hb => (nomatch (show b ∈ ([] : List Nat) from hb))⟩
  ·refine ⟨En.chg (w.get x hm) p.chg (fun b hb => ?_), (w.ents x e hm).2⟩
   simp
   rintro rfl
   exact w.apart i x _ e hi hm (fun e => h1 e.symm) b hab hb
 ·rcases get3 hx with ⟨rfl, rfl⟩ | ⟨rfl, _, rfl⟩ | ⟨x1, x2, hm⟩
  ·rcases get3 hy with ⟨rfl, rfl⟩ | ⟨rfl, _, rfl⟩ | ⟨y1, y2, hm2⟩
   ·exact hn rfl
   ·exact (nomatch (show b ∈ ([] : List Nat) from h2))
   ·rcases hsub b h1 with h9 | h9
    ·exact w.apart x y _ f hi hm2 hn b h9 h2
    ·exact w.apart j y _ f hj hm2 (fun e => y2 e.symm) b h9 h2
  ·exact (nomatch (show b ∈ ([] : List Nat) from h1))
  ·rcases get3 hy with ⟨rfl, rfl⟩ | ⟨rfl, _, rfl⟩ | ⟨y1, y2, hm2⟩
   ·rcases hsub b h2 with h9 | h9
    ·exact w.apart x y e _ hm hi hn b h1 h9
    ·exact w.apart x j e _ hm hj x2 b h1 h9
   ·exact (nomatch (show b ∈ ([] : List Nat) from h2))
   ·exact w.apart x y e f hm hm2 hn b h1 h2
end
end Go.Proofs.YtjnijlnmbjjgpaaGreatDoor
set_option maxRecDepth 100000
namespace Go.Proofs.YtjnijlnmbjjgpaaGreatDoor.C
open Go Go.Sx Go.Sx.S
end Go.Proofs.YtjnijlnmbjjgpaaGreatDoor.C
set_option maxRecDepth 100000
namespace Go.Proofs.YtjnijlnmbjjgpaaGreatDoor.C
open Go Go.Sx Go.Sx.S
def f18r0 : LS := [o 2 (.mv e)]
def f18r1 : LS := [o 3 (.mv (t 0)),o 4 (.call 34 [(t 3), (i 10)]),o 2 (.mv (t 4))]
def f18 : SCode := (.seq (.ops f18r0) (.seq (.ops f18r1) .ret))
theorem f18_calls : Sound Tryz.prog 18 5 f18 [.t 2] := sound_of mixed Tryz.func18 rfl (by kernel_rfl) (by kernel_rfl) (by kernel_rfl)
end Go.Proofs.YtjnijlnmbjjgpaaGreatDoor.C
set_option maxRecDepth 100000
namespace Go.Proofs.YtjnijlnmbjjgpaaGreatDoor.C
open Go Go.Sx Go.Sx.S
end Go.Proofs.YtjnijlnmbjjgpaaGreatDoor.C
set_option maxRecDepth 100000
namespace Go.Proofs.YtjnijlnmbjjgpaaGreatDoor.C
open Go Go.Sx Go.Sx.S
def f40r0 : LS := [o 7 (.eqn 4 false (t 5))]
def f40r1 : LS := [o 2 (.mv (t 5))]
def f40r2 : LS := [o 8 (.tas 92 (.agg #[(.string ⟨#[]⟩)]) true (t 5)),o 9 (.ext (t 8) 1),o 10 (.ext (t 8) 0)]
def f40r3 : LS := [o 3 (.new [(.string ⟨#[]⟩)]),
 q (.st 1 (t 3) (t 10))]
def f40r4 : LS := [o 11 (.fa 0 (t 3)),o 12 (.ld1 (t 11)),o 13 (.call 41 [(t 12)]),
 q (.st 4 (t 0) (t 13)),
 q (.st 1 (t 1) (.const (.slice none 0 0)))]
def f40r5 : LS := [o 4 (.mv (t 5))]
def f40r6 : LS := [o 6 (.mv (t 4)),
 q (.pan (t 6))]
def f40 : SCode := (.seq (.rcv (some 5)) (.block 0 (.seq (.ops f40r0) (.cond (t 7) (.ops f40r1) (.seq (.ops f40r2) (.cond (t 9) (.seq (.ops f40r3) (.ops f40r4)) (.seq (.ops f40r5) (.ops f40r6))))))))
def f81r0 : LS := [o 1 (.box (t 0)),o 2 (.new [(.int .i64 0), (.int .i64 0), (.string ⟨#[]⟩), (.slice none 0 0)])]
def f81r1 : LS := [o 6 (.ld1 (t 1)),o 7 (.call 149 [(t 6), (i 3), (i 65536)])]
def f81r2 : LS := [o 8 (.ld1 (t 1)),o 9 (.nilck (t 8)),o 10 (.fa 11 (t 9)),o 11 (.ld1 (t 10)),o 12 (.len (t 11)),o 13 (.rem (t 12) (i 2)),o 14 (.cmp .eql (t 13) (i 1)),o 15 (.call 150 [(t 14), (.const (.string ⟨#[69, 82, 82, 32, 97, 114, 103, 115]⟩))])]
def f81r3 : LS := [o 16 (.ld1 (t 1)),o 17 (.call 151 [(t 16), (i 2)])]
def f81r4 : LS := [o 3 (.mv (i 0))]
def f81r5 : LS := [o 18 (.fn 153 [] [(t 1)]),o 19 (.call 152 [(t 18)]),o 4 (.mv (t 19))]
def f81r6 : LS := [o 5 (.mv (i 1))]
def f81r7 : LS := [o 20 (.mv (t 5)),o 21 (.ld1 (t 1)),o 22 (.nilck (t 21)),o 23 (.fa 11 (t 22)),o 24 (.ld1 (t 23)),o 25 (.len (t 24)),o 26 (.cmp .lss (t 20) (t 25))]
def f81r8 : LS := [o 29 (.mv (t 4)),o 30 (.ld1 (t 1)),o 31 (.nilck (t 30)),o 32 (.fa 11 (t 31)),o 33 (.ld1 (t 32)),o 34 (.mv (t 5)),o 35 (.ixs 1 (t 33) (t 34)),o 36 (.ld1 (t 35)),o 37 (.callv (t 29) [(t 36)])]
def f81r9 : LS := [o 38 (.mv (t 3)),o 39 (.ar .add (t 38) (i 1)),o 3 (.mv (t 39))]
def f81r10 : LS := [o 40 (.ld1 (t 1)),o 41 (.ld1 (t 1)),o 42 (.nilck (t 41)),o 43 (.fa 11 (t 42)),o 44 (.ld1 (t 43)),o 45 (.mv (t 5)),o 46 (.ixs 1 (t 44) (t 45)),o 47 (.ld1 (t 46)),o 48 (.ld1 (t 1)),o 49 (.nilck (t 48)),o 50 (.fa 11 (t 49)),o 51 (.ld1 (t 50)),o 52 (.mv (t 5)),o 53 (.ar .add (t 52) (i 1)),o 54 (.ixs 1 (t 51) (t 53)),o 55 (.ld1 (t 54)),o 56 (.build [(.int .i64 0), (.string ⟨#[]⟩), (.string ⟨#[]⟩), (.string ⟨#[]⟩), (.int .i64 0)] [(0, 1), (2, 1), (3, 1)] [(i 5), (t 47), (t 55)]),o 57 (.ld1 (t 1)),o 58 (.nilck (t 57)),o 59 (.fa 0 (t 58)),o 60 (.fa 2 (t 59)),o 61 (.ld1 (t 60)),o 62 (.len (t 61)),o 63 (.mv (t 3)),o 64 (.ar .add (t 62) (t 63)),o 65 (.call 155 [(t 40), (t 56), (t 64)])]
def f81r11 : LS := [o 27 (.mv (t 5)),o 28 (.ar .add (t 27) (i 2)),o 5 (.mv (t 28))]
def f81l12 : SCode := (.seq (.seq (.ops f81r7) (.cond (t 26) .skip (.exit 0))) (.seq (.block 1 (.seq (.seq (.ops f81r8) (.cond (t 37) (.ops f81r9) .skip)) (.ops f81r10))) (.ops f81r11)))
def f81r13 : LS := [o 66 (.mv (t 3)),o 67 (.call 156 [(t 66)]),
 q (.st 4 (t 2) (t 67))]
def f81 : SCode := (.seq (.ops f81r0) (.seq (.ops f81r1) (.seq (.ops f81r2) (.seq (.ops f81r3) (.seq (.ops f81r4) (.seq (.ops f81r5) (.seq (.seq (.ops f81r6) (.block 0 (.loop f81l12))) (.seq (.ops f81r13) .ret))))))))
theorem f81_calls : Sound Tryz.prog 81 68 f81 [.cn 2 4] := sound_of mixed Tryz.func81 rfl (by kernel_rfl) (by kernel_rfl) (by kernel_rfl)
def f82r0 : LS := [o 2 (.new [(.int .i64 0), (.int .i64 0), (.string ⟨#[]⟩), (.slice none 0 0)])]
def f82r1 : LS := [o 5 (.mv (t 0)),o 6 (.call 157 [(t 5), (i 2), (i 2), (i 2)])]
def f82r2 : LS := [o 8 (.mv (t 0)),o 9 (.mv (t 0)),o 10 (.nilck (t 9)),o 11 (.fa 11 (t 10)),o 12 (.ld1 (t 11)),o 13 (.ixs 1 (t 12) (i 1)),o 14 (.ld1 (t 13)),o 15 (.call 154 [(t 8), (t 14)]),o 7 (.mv (t 15)),o 16 (.ext (t 7) 0),o 17 (.ext (t 7) 1),o 3 (.mv (t 16)),o 4 (.mv (t 17))]
def f82r3 : LS := [o 18 (.mv (t 4)),o 19 (.un .not (t 18))]
def f82r4 : LS := [o 20 (.build [(.int .i64 0), (.int .i64 0), (.string ⟨#[]⟩), (.slice none 0 0)] [] []),
 q (.st 4 (t 2) (t 20))]
def f82r5 : LS := [o 21 (.mv (t 3)),o 22 (.call 158 [(t 21)]),
 q (.st 4 (t 2) (t 22))]
def f82 : SCode := (.seq (.ops f82r0) (.seq (.ops f82r1) (.seq (.ops f82r2) (.seq (.seq (.ops f82r3) (.cond (t 19) (.seq (.ops f82r4) .ret) .skip)) (.seq (.ops f82r5) .ret)))))
theorem f82_calls : Sound Tryz.prog 82 23 f82 [.cn 2 4] := sound_of mixed Tryz.func82 rfl (by kernel_rfl) (by kernel_rfl) (by kernel_rfl)
def f88r0 : LS := [o 2 (.new [(.int .i64 0), (.int .i64 0), (.string ⟨#[]⟩), (.slice none 0 0)])]
def f88r1 : LS := [o 3 (.mv (t 0)),o 4 (.call 166 [(t 3), (i 8)]),
 q (.st 4 (t 2) (t 4))]
def f88 : SCode := (.seq (.ops f88r0) (.seq (.ops f88r1) .ret))
theorem f88_calls : Sound Tryz.prog 88 5 f88 [.cn 2 4] := sound_of mixed Tryz.func88 rfl (by kernel_rfl) (by kernel_rfl) (by kernel_rfl)
def f90r0 : LS := [o 2 (.new [(.int .i64 0), (.int .i64 0), (.string ⟨#[]⟩), (.slice none 0 0)])]
def f90r1 : LS := [o 3 (.mv (t 0)),o 4 (.call 167 [(t 3), (i 10), (i (-1))]),
 q (.st 4 (t 2) (t 4))]
def f90 : SCode := (.seq (.ops f90r0) (.seq (.ops f90r1) .ret))
theorem f90_calls : Sound Tryz.prog 90 5 f90 [.cn 2 4] := sound_of mixed Tryz.func90 rfl (by kernel_rfl) (by kernel_rfl) (by kernel_rfl)
def f92r0 : LS := [o 2 (.new [(.int .i64 0), (.int .i64 0), (.string ⟨#[]⟩), (.slice none 0 0)])]
def f92r1 : LS := [o 6 (.mv (t 0)),o 7 (.call 149 [(t 6), (i 2), (i 2)])]
def f92r2 : LS := [o 8 (.mv (t 0)),o 9 (.call 163 [(t 8), (i 1)]),o 3 (.mv (t 9))]
def f92r3 : LS := [o 10 (.mv (t 0)),o 11 (.call 151 [(t 10), (i 3)])]
def f92r4 : LS := [o 13 (.mv (t 0)),o 14 (.nilck (t 13)),o 15 (.fa 0 (t 14)),o 16 (.fa 3 (t 15)),o 17 (.ld1 (t 16)),o 18 (.len (t 17)),o 19 (.mv (t 3)),o 20 (.call 168 [(t 18), (t 19)]),o 12 (.mv (t 20)),o 21 (.ext (t 12) 0),o 22 (.ext (t 12) 1),o 4 (.mv (t 21)),o 5 (.mv (t 22))]
def f92r5 : LS := [o 23 (.mv (t 5)),o 24 (.un .not (t 23))]
def f92r6 : LS := [o 25 (.build [(.int .i64 0), (.int .i64 0), (.string ⟨#[]⟩), (.slice none 0 0)] [] []),
 q (.st 4 (t 2) (t 25))]
def f92r7 : LS := [o 26 (.mv (t 0)),o 27 (.nilck (t 26)),o 28 (.fa 0 (t 27)),o 29 (.fa 3 (t 28)),o 30 (.ld1 (t 29)),o 31 (.mv (t 4)),o 32 (.ixs 1 (t 30) (t 31)),o 33 (.ld1 (t 32)),o 34 (.call 158 [(t 33)]),
 q (.st 4 (t 2) (t 34))]
def f92 : SCode := (.seq (.ops f92r0) (.seq (.ops f92r1) (.seq (.ops f92r2) (.seq (.ops f92r3) (.seq (.ops f92r4) (.seq (.seq (.ops f92r5) (.cond (t 24) (.seq (.ops f92r6) .ret) .skip)) (.seq (.ops f92r7) .ret)))))))
theorem f92_calls : Sound Tryz.prog 92 35 f92 [.cn 2 4] := sound_of mixed Tryz.func92 rfl (by kernel_rfl) (by kernel_rfl) (by kernel_rfl)
def f93r0 : LS := [o 2 (.new [(.int .i64 0), (.int .i64 0), (.string ⟨#[]⟩), (.slice none 0 0)])]
def f93r1 : LS := [o 7 (.mv (t 0)),o 8 (.call 149 [(t 7), (i 3), (i 3)])]
def f93r2 : LS := [o 9 (.mv (t 0)),o 10 (.call 163 [(t 9), (i 1)]),o 11 (.mv (t 0)),o 12 (.call 163 [(t 11), (i 2)]),o 3 (.mv (t 10)),o 4 (.mv (t 12))]
def f93r3 : LS := [o 13 (.mv (t 0)),o 14 (.call 151 [(t 13), (i 3)])]
def f93r4 : LS := [o 16 (.mv (t 0)),o 17 (.nilck (t 16)),o 18 (.fa 0 (t 17)),o 19 (.fa 3 (t 18)),o 20 (.ld1 (t 19)),o 21 (.len (t 20)),o 22 (.mv (t 3)),o 23 (.mv (t 4)),o 24 (.call 169 [(t 21), (t 22), (t 23)]),o 15 (.mv (t 24)),o 25 (.ext (t 15) 0),o 26 (.ext (t 15) 1),o 5 (.mv (t 25)),o 6 (.mv (t 26))]
def f93r5 : LS := [o 27 (.mv (t 0)),o 28 (.nilck (t 27)),o 29 (.fa 0 (t 28)),o 30 (.fa 3 (t 29)),o 31 (.ld1 (t 30)),o 32 (.mv (t 5)),o 33 (.mv (t 6)),o 34 (.slc 1 (t 31) (some (t 32)) (some (t 33))),o 35 (.call 170 [(t 34), (u 171)]),
 q (.st 4 (t 2) (t 35))]
def f93 : SCode := (.seq (.ops f93r0) (.seq (.ops f93r1) (.seq (.ops f93r2) (.seq (.ops f93r3) (.seq (.ops f93r4) (.seq (.ops f93r5) .ret))))))
theorem f93_calls : Sound Tryz.prog 93 36 f93 [.cn 2 4] := sound_of mixed Tryz.func93 rfl (by kernel_rfl) (by kernel_rfl) (by kernel_rfl)
def f95r0 : LS := [o 2 (.new [(.int .i64 0), (.int .i64 0), (.string ⟨#[]⟩), (.slice none 0 0)])]
def f95r1 : LS := [o 7 (.mv (t 0)),o 8 (.call 157 [(t 7), (i 4), (i 2), (i 65536)])]
def f95r2 : LS := [o 3 (.mv (i 0))]
def f95r3 : LS := [o 9 (.mv (t 0)),o 10 (.fn 172 [(t 9)] []),o 11 (.call 152 [(t 10)]),o 4 (.mv (t 11))]
def f95r4 : LS := [o 12 (.mv (t 0)),o 13 (.nilck (t 12)),o 14 (.fa 11 (t 13)),o 15 (.ld1 (t 14)),o 16 (.slc 1 (t 15) (some (i 1)) none),o 17 (.len (t 16)),o 18 (.mv (i 0))]
def f95r5 : LS := [o 19 (.cmp .lss (t 18) (t 17))]
def f95r6 : LS := [o 20 (.ixs 1 (t 16) (t 18)),o 21 (.ld1 (t 20)),o 6 (.mv (t 21))]
def f95r7 : LS := [o 22 (.mv (t 4)),o 23 (.mv (t 6)),o 24 (.callv (t 22) [(t 23)])]
def f95r8 : LS := [o 25 (.mv (t 3)),o 26 (.ar .add (t 25) (i 1)),o 3 (.mv (t 26))]
def f95r9 : LS := [o 27 (.mv (t 0)),o 28 (.mv (t 6)),o 29 (.build [(.int .i64 0), (.string ⟨#[]⟩), (.string ⟨#[]⟩), (.string ⟨#[]⟩), (.int .i64 0)] [(0, 1), (2, 1)] [(i 12), (t 28)]),o 30 (.mv (t 0)),o 31 (.nilck (t 30)),o 32 (.fa 0 (t 31)),o 33 (.fa 3 (t 32)),o 34 (.ld1 (t 33)),o 35 (.len (t 34)),o 36 (.mv (t 3)),o 37 (.ar .add (t 35) (t 36)),o 38 (.call 155 [(t 27), (t 29), (t 37)])]
def f95r10 : LS := [o 39 (.ar .add (t 18) (i 1)),o 18 (.mv (t 39))]
def f95l11 : SCode := (.seq (.ops f95r5) (.seq (.cond (t 19) .skip (.exit 0)) (.seq (.block 1 (.seq (.ops f95r6) (.seq (.ops f95r7) (.cond (t 24) (.seq (.ops f95r8) (.ops f95r9)) .skip)))) (.ops f95r10))))
def f95r12 : LS := [o 40 (.mv (t 3)),o 41 (.call 156 [(t 40)]),
 q (.st 4 (t 2) (t 41))]
def f95 : SCode := (.seq (.ops f95r0) (.seq (.ops f95r1) (.seq (.ops f95r2) (.seq (.ops f95r3) (.seq (.seq (.ops f95r4) (.block 0 (.loop f95l11))) (.seq (.ops f95r12) .ret))))))
theorem f95_calls : Sound Tryz.prog 95 42 f95 [.cn 2 4] := sound_of mixed Tryz.func95 rfl (by kernel_rfl) (by kernel_rfl) (by kernel_rfl)
def f97r0 : LS := [o 2 (.new [(.int .i64 0), (.int .i64 0), (.string ⟨#[]⟩), (.slice none 0 0)])]
def f97r1 : LS := [o 3 (.mv (t 0)),o 4 (.call 157 [(t 3), (i 4), (i 2), (i 2)])]
def f97r2 : LS := [o 5 (.mv (t 0)),o 6 (.mv (t 0)),o 7 (.nilck (t 6)),o 8 (.fa 11 (t 7)),o 9 (.ld1 (t 8)),o 10 (.ixs 1 (t 9) (i 1)),o 11 (.ld1 (t 10)),o 12 (.call 172 [(t 5), (t 11)]),o 13 (.call 173 [(t 12)]),
 q (.st 4 (t 2) (t 13))]
def f97 : SCode := (.seq (.ops f97r0) (.seq (.ops f97r1) (.seq (.ops f97r2) .ret)))
theorem f97_calls : Sound Tryz.prog 97 14 f97 [.cn 2 4] := sound_of mixed Tryz.func97 rfl (by kernel_rfl) (by kernel_rfl) (by kernel_rfl)
def f101r0 : LS := [o 1 (.box (t 0)),o 2 (.new [(.int .i64 0), (.int .i64 0), (.string ⟨#[]⟩), (.slice none 0 0)])]
def f101r1 : LS := [o 6 (.ld1 (t 1)),o 7 (.call 149 [(t 6), (i 3), (i 65536)])]
def f101r2 : LS := [o 8 (.ld1 (t 1)),o 9 (.nilck (t 8)),o 10 (.fa 11 (t 9)),o 11 (.ld1 (t 10)),o 12 (.len (t 11)),o 13 (.rem (t 12) (i 2)),o 14 (.cmp .eql (t 13) (i 1)),o 15 (.call 150 [(t 14), (.const (.string ⟨#[69, 82, 82, 32, 97, 114, 103, 115]⟩))])]
def f101r3 : LS := [o 16 (.ld1 (t 1)),o 17 (.call 175 [(t 16), (i 1)])]
def f101r4 : LS := [o 18 (.ld1 (t 1)),o 19 (.call 151 [(t 18), (i 5)])]
def f101r5 : LS := [o 3 (.mv (i 0))]
def f101r6 : LS := [o 20 (.fn 176 [] [(t 1)]),o 21 (.call 152 [(t 20)]),o 4 (.mv (t 21))]
def f101r7 : LS := [o 5 (.mv (i 1))]
def f101r8 : LS := [o 22 (.mv (t 5)),o 23 (.ld1 (t 1)),o 24 (.nilck (t 23)),o 25 (.fa 11 (t 24)),o 26 (.ld1 (t 25)),o 27 (.len (t 26)),o 28 (.cmp .lss (t 22) (t 27))]
def f101r9 : LS := [o 31 (.mv (t 4)),o 32 (.ld1 (t 1)),o 33 (.nilck (t 32)),o 34 (.fa 11 (t 33)),o 35 (.ld1 (t 34)),o 36 (.mv (t 5)),o 37 (.ar .add (t 36) (i 1)),o 38 (.ixs 1 (t 35) (t 37)),o 39 (.ld1 (t 38)),o 40 (.callv (t 31) [(t 39)])]
def f101r10 : LS := [o 41 (.mv (t 3)),o 42 (.ar .add (t 41) (i 1)),o 3 (.mv (t 42))]
def f101r11 : LS := [o 43 (.ld1 (t 1)),o 44 (.ld1 (t 1)),o 45 (.nilck (t 44)),o 46 (.fa 11 (t 45)),o 47 (.ld1 (t 46)),o 48 (.mv (t 5)),o 49 (.ar .add (t 48) (i 1)),o 50 (.ixs 1 (t 47) (t 49)),o 51 (.ld1 (t 50)),o 52 (.ld1 (t 1)),o 53 (.mv (t 5)),o 56 (.ld1 (t 1)),o 57 (.nilck (t 56)),o 58 (.fa 0 (t 57)),o 59 (.fa 4 (t 58)),o 60 (.ld1 (t 59)),o 61 (.len (t 60)),o 62 (.mv (t 3)),o 63 (.ar .add (t 61) (t 62)),o 54 (.callq 163 [(t 52), (t 53)]),o 55 (.build [(.int .i64 0), (.string ⟨#[]⟩), (.string ⟨#[]⟩), (.string ⟨#[]⟩), (.int .i64 0)] [(0, 1), (2, 1), (4, 1)] [(i 14), (t 51), (t 54)]),o 64 (.call 155 [(t 43), (t 55), (t 63)])]
def f101r12 : LS := [o 29 (.mv (t 5)),o 30 (.ar .add (t 29) (i 2)),o 5 (.mv (t 30))]
def f101l13 : SCode := (.seq (.seq (.ops f101r8) (.cond (t 28) .skip (.exit 0))) (.seq (.block 1 (.seq (.seq (.ops f101r9) (.cond (t 40) (.ops f101r10) .skip)) (.ops f101r11))) (.ops f101r12)))
def f101r14 : LS := [o 65 (.mv (t 3)),o 66 (.call 156 [(t 65)]),
 q (.st 4 (t 2) (t 66))]
def f101 : SCode := (.seq (.ops f101r0) (.seq (.ops f101r1) (.seq (.ops f101r2) (.seq (.ops f101r3) (.seq (.ops f101r4) (.seq (.ops f101r5) (.seq (.ops f101r6) (.seq (.seq (.ops f101r7) (.block 0 (.loop f101l13))) (.seq (.ops f101r14) .ret)))))))))
theorem f101_calls : Sound Tryz.prog 101 67 f101 [.cn 2 4] := sound_of mixed Tryz.func101 rfl (by kernel_rfl) (by kernel_rfl) (by kernel_rfl)
def f103r0 : LS := [o 2 (.new [(.int .i64 0), (.int .i64 0), (.string ⟨#[]⟩), (.slice none 0 0)])]
def f103r1 : LS := [o 5 (.mv (t 0)),o 6 (.call 157 [(t 5), (i 5), (i 2), (i 2)])]
def f103r2 : LS := [o 8 (.mv (t 0)),o 9 (.mv (t 0)),o 10 (.nilck (t 9)),o 11 (.fa 11 (t 10)),o 12 (.ld1 (t 11)),o 13 (.ixs 1 (t 12) (i 1)),o 14 (.ld1 (t 13)),o 15 (.call 177 [(t 8), (t 14)]),o 7 (.mv (t 15)),o 16 (.ext (t 7) 0),o 17 (.ext (t 7) 1),o 3 (.mv (t 16)),o 4 (.mv (t 17))]
def f103r3 : LS := [o 18 (.mv (t 4)),o 19 (.un .not (t 18))]
def f103r4 : LS := [o 20 (.build [(.int .i64 0), (.int .i64 0), (.string ⟨#[]⟩), (.slice none 0 0)] [] []),
 q (.st 4 (t 2) (t 20))]
def f103r5 : LS := [o 21 (.mv (t 3)),o 22 (.call 34 [(t 21), (i 10)]),o 23 (.call 158 [(t 22)]),
 q (.st 4 (t 2) (t 23))]
def f103 : SCode := (.seq (.ops f103r0) (.seq (.ops f103r1) (.seq (.ops f103r2) (.seq (.seq (.ops f103r3) (.cond (t 19) (.seq (.ops f103r4) .ret) .skip)) (.seq (.ops f103r5) .ret)))))
theorem f103_calls : Sound Tryz.prog 103 24 f103 [.cn 2 4] := sound_of mixed Tryz.func103 rfl (by kernel_rfl) (by kernel_rfl) (by kernel_rfl)
def f149r0 : LS := [o 6 (.mv (t 0)),o 7 (.nilck (t 6)),o 8 (.fa 11 (t 7)),o 9 (.ld1 (t 8)),o 10 (.len (t 9)),o 11 (.mv (t 1)),o 12 (.cmp .geq (t 10) (t 11)),o 13 (.mv (t 12)),
 g 14 13 (.mv (t 0)),
 g 15 13 (.nilck (t 14)),
 g 16 13 (.fa 11 (t 15)),
 g 17 13 (.ld1 (t 16)),
 g 18 13 (.len (t 17)),
 g 19 13 (.mv (t 2)),
 g 20 13 (.cmp .leq (t 18) (t 19)),o 21 (.pick (t 13) (t 20) (b false)),o 22 (.call 150 [(t 21), (.const (.string ⟨#[69, 82, 82, 32, 97, 114, 103, 115]⟩))])]
def f149r1 : LS := [o 23 (.mv (t 0)),o 24 (.mv (t 0)),o 25 (.nilck (t 24)),o 26 (.fa 11 (t 25)),o 27 (.ld1 (t 26)),o 28 (.ixs 1 (t 27) (i 0)),o 29 (.ld1 (t 28)),o 30 (.nilck (t 23)),o 31 (.fa 10 (t 30)),
 q (.st 1 (t 31) (t 29))]
def f149 : SCode := (.seq (.ops f149r0) (.ops f149r1))
theorem f149_calls : Sound Tryz.prog 149 32 f149 [] := sound_of mixed Tryz.func149 rfl (by kernel_rfl) (by kernel_rfl) (by kernel_rfl)
def f150r0 : LS := [o 4 (.mv (t 0)),o 5 (.un .not (t 4))]
def f150r1 : LS := [o 6 (.mv (t 1)),o 7 (.build [(.string ⟨#[]⟩)] [(0, 1)] [(t 6)]),o 8 (.mki 92 (t 7)),
 q (.pan (t 8))]
def f150 : SCode := (.seq (.ops f150r0) (.cond (t 5) (.ops f150r1) .skip))
theorem f150_calls : Sound Tryz.prog 150 9 f150 [] := sound_of mixed Tryz.func150 rfl (by kernel_rfl) (by kernel_rfl) (by kernel_rfl)
def f151r0 : LS := [o 5 (.mv (t 0)),o 6 (.mv (t 0)),o 7 (.mv (t 0)),o 8 (.nilck (t 7)),o 9 (.fa 8 (t 8)),o 10 (.ld1 (t 9)),o 11 (.mv (t 0)),o 12 (.nilck (t 11)),o 13 (.fa 10 (t 12)),o 14 (.ld1 (t 13)),o 15 (.mv (t 0)),o 16 (.nilck (t 15)),o 17 (.fa 9 (t 16)),o 18 (.ld1 (t 17)),o 19 (.call 45 [(t 10), (t 14), (t 18)]),o 4 (.mv (t 19)),o 20 (.ext (t 4) 0),o 21 (.ext (t 4) 1),o 22 (.nilck (t 5)),o 23 (.fa 0 (t 22)),
 q (.st 7 (t 23) (t 20)),o 24 (.nilck (t 6)),o 25 (.fa 7 (t 24)),
 q (.st 1 (t 25) (t 21))]
def f151r1 : LS := [o 26 (.mv (t 0)),o 27 (.nilck (t 26)),o 28 (.fa 7 (t 27)),o 29 (.ld1 (t 28)),o 30 (.un .not (t 29)),o 31 (.mv (t 30)),
 n 32 31 (.mv (t 0)),
 n 33 31 (.nilck (t 32)),
 n 34 31 (.fa 0 (t 33)),
 n 35 31 (.fa 0 (t 34)),
 n 36 31 (.ld1 (t 35)),
 n 37 31 (.mv (t 1)),
 n 38 31 (.cmp .eql (t 36) (t 37)),o 39 (.pick (t 31) (b true) (t 38)),o 40 (.call 150 [(t 39), (.const (.string ⟨#[87, 82, 79, 78, 71, 84, 89, 80, 69]⟩))])]
def f151 : SCode := (.seq (.ops f151r0) (.ops f151r1))
theorem f151_calls : Sound Tryz.prog 151 41 f151 [] := sound_of mixed Tryz.func151 rfl (by kernel_rfl) (by kernel_rfl) (by kernel_rfl)
def f152r0 : LS := [o 1 (.box (t 0)),o 2 (.mv (.const .nilFunc))]
def f152r1 : LS := [o 4 (.mkm),o 3 (.new [(.map none)]),
 q (.st 1 (t 3) (t 4))]
def f152r2 : LS := [o 5 (.fn 228 [] [(t 3), (t 1)]),o 2 (.mv (t 5))]
def f152 : SCode := (.seq (.ops f152r0) (.seq (.ops f152r1) (.seq (.ops f152r2) .ret)))
theorem f152_calls : Sound Tryz.prog 152 6 f152 [.t 2] := sound_of mixed Tryz.func152 rfl (by kernel_rfl) (by kernel_rfl) (by kernel_rfl)
def f153r0 : LS := [o 3 (.mv (b false))]
def f153r1 : LS := [o 7 (.ld1 (t 1)),o 8 (.mv (t 0)),o 9 (.call 154 [(t 7), (t 8)]),o 6 (.mv (t 9)),o 10 (.ext (t 6) 0),o 11 (.ext (t 6) 1),o 4 (.mv (t 10)),o 5 (.mv (t 11))]
def f153r2 : LS := [o 12 (.mv (t 5)),o 3 (.mv (t 12))]
def f153 : SCode := (.seq (.ops f153r0) (.seq (.ops f153r1) (.seq (.ops f153r2) .ret)))
theorem f153_calls : Sound Tryz.prog 153 13 f153 [.t 3] := sound_of mixed Tryz.func153 rfl (by kernel_rfl) (by kernel_rfl) (by kernel_rfl)
def f154r0 : LS := [o 3 (.box (t 1)),o 4 (.mv e),o 5 (.mv (b false))]
def f154r1 : LS := [o 7 (.mv (t 0)),o 8 (.nilck (t 7)),o 9 (.fa 0 (t 8)),o 10 (.fa 2 (t 9)),o 11 (.ld1 (t 10)),o 12 (.fn 230 [] [(t 3)]),o 13 (.call 229 [(t 11), (t 12)]),o 6 (.mv (t 13))]
def f154r2 : LS := [o 14 (.mv (t 6)),o 15 (.cmp .lss (t 14) (i 0))]
def f154r3 : LS := [o 4 (.mv e),o 5 (.mv (b false))]
def f154r4 : LS := [o 16 (.mv (t 0)),o 17 (.nilck (t 16)),o 18 (.fa 0 (t 17)),o 19 (.fa 2 (t 18)),o 20 (.ld1 (t 19)),o 21 (.mv (t 6)),o 22 (.ixs 2 (t 20) (t 21)),o 23 (.fa 1 (t 22)),o 24 (.ld1 (t 23)),o 4 (.mv (t 24)),o 5 (.mv (b true))]
def f154 : SCode := (.seq (.ops f154r0) (.seq (.ops f154r1) (.seq (.seq (.ops f154r2) (.cond (t 15) (.seq (.ops f154r3) .ret) .skip)) (.seq (.ops f154r4) .ret))))
theorem f154_calls : Sound Tryz.prog 154 25 f154 [.t 4, .t 5] := sound_of mixed Tryz.func154 rfl (by kernel_rfl) (by kernel_rfl) (by kernel_rfl)
def f155r0 : LS := [o 4 (.box (t 1))]
def f155r1 : LS := [o 6 (.mv (t 2)),o 7 (.cmp .leq (t 6) (i 65536)),o 8 (.mv (t 7)),
 g 9 8 (.mv (t 0)),
 g 10 8 (.nilck (t 9)),
 g 11 8 (.fa 10 (t 10)),
 g 12 8 (.ld1 (t 11)),
 g 13 8 (.lens (t 12)),
 g 14 8 (.cmp .leq (t 13) (i 1048576)),o 15 (.pick (t 8) (t 14) (b false)),o 16 (.mv (t 15)),
 g 17 16 (.fa 2 (t 4)),
 g 18 16 (.ld1 (t 17)),
 g 19 16 (.lens (t 18)),
 g 20 16 (.cmp .leq (t 19) (i 1048576)),o 21 (.pick (t 16) (t 20) (b false)),o 22 (.mv (t 21)),
 g 23 22 (.fa 3 (t 4)),
 g 24 22 (.ld1 (t 23)),
 g 25 22 (.lens (t 24)),
 g 26 22 (.cmp .leq (t 25) (i 1048576)),o 27 (.pick (t 22) (t 26) (b false)),o 28 (.call 150 [(t 27), (.const (.string ⟨#[69, 82, 82, 32, 108, 111, 110, 103]⟩))])]
def f155r2 : LS := [o 29 (.mv (t 0)),o 30 (.nilck (t 29)),o 31 (.fa 12 (t 30)),o 32 (.ld1 (t 31)),o 33 (.len (t 32)),o 34 (.cmp .eql (t 33) (i 0))]
def f155r3 : LS := [o 35 (.mv (t 0)),o 36 (.mv (t 0)),o 37 (.nilck (t 36)),o 38 (.fa 8 (t 37)),o 39 (.ld1 (t 38)),o 40 (.mv (t 0)),o 41 (.nilck (t 40)),o 42 (.fa 9 (t 41)),o 43 (.ld1 (t 42)),o 44 (.mv (t 0)),o 45 (.nilck (t 44)),o 46 (.fa 10 (t 45)),o 47 (.ld1 (t 46)),o 48 (.call 231 [(t 39), (t 43), (t 47)]),o 49 (.nilck (t 35)),o 50 (.fa 12 (t 49)),
 q (.st 1 (t 50) (t 48))]
def f155r4 : LS := [o 51 (.mv (t 0)),o 52 (.nilck (t 51)),o 53 (.fa 10 (t 52)),o 54 (.ld1 (t 53)),o 55 (.fa 1 (t 4)),
 q (.st 1 (t 55) (t 54))]
def f155r5 : LS := [o 56 (.mv (t 0)),o 57 (.mv (t 0)),o 58 (.nilck (t 57)),o 59 (.fa 12 (t 58)),o 60 (.ld1 (t 59)),o 61 (.ldn 5 (t 4)),o 62 (.bslice [(.int .i64 0), (.string ⟨#[]⟩), (.string ⟨#[]⟩), (.string ⟨#[]⟩), (.int .i64 0)] 1 [(0, 5)] [(t 61)]),o 63 (.app 5 64 [(.int .i64 0), (.string ⟨#[]⟩), (.string ⟨#[]⟩), (.string ⟨#[]⟩), (.int .i64 0)] (t 60) (t 62)),o 64 (.nilck (t 56)),o 65 (.fa 12 (t 64)),
 q (.st 1 (t 65) (t 63))]
def f155 : SCode := (.seq (.ops f155r0) (.seq (.ops f155r1) (.seq (.seq (.ops f155r2) (.cond (t 34) (.ops f155r3) .skip)) (.seq (.ops f155r4) (.ops f155r5)))))
theorem f155_calls : Sound Tryz.prog 155 66 f155 [] := sound_of mixed Tryz.func155 rfl (by kernel_rfl) (by kernel_rfl) (by kernel_rfl)
def f156r0 : LS := [o 2 (.new [(.int .i64 0), (.int .i64 0), (.string ⟨#[]⟩), (.slice none 0 0)])]
def f156r1 : LS := [o 3 (.mv (t 0)),o 4 (.build [(.int .i64 0), (.int .i64 0), (.string ⟨#[]⟩), (.slice none 0 0)] [(0, 1), (1, 1)] [(i 3), (t 3)]),
 q (.st 4 (t 2) (t 4))]
def f156 : SCode := (.seq (.ops f156r0) (.seq (.ops f156r1) .ret))
theorem f156_calls : Sound Tryz.prog 156 5 f156 [.cn 2 4] := sound_of mixed Tryz.func156 rfl (by kernel_rfl) (by kernel_rfl) (by kernel_rfl)
def f157r0 : LS := [o 8 (.mv (t 0)),o 9 (.mv (t 2)),o 10 (.mv (t 3)),o 11 (.call 149 [(t 8), (t 9), (t 10)])]
def f157r1 : LS := [o 12 (.mv (t 0)),o 13 (.mv (t 1)),o 14 (.call 151 [(t 12), (t 13)])]
def f157 : SCode := (.seq (.ops f157r0) (.ops f157r1))
theorem f157_calls : Sound Tryz.prog 157 15 f157 [] := sound_of mixed Tryz.func157 rfl (by kernel_rfl) (by kernel_rfl) (by kernel_rfl)
def f158r0 : LS := [o 2 (.new [(.int .i64 0), (.int .i64 0), (.string ⟨#[]⟩), (.slice none 0 0)])]
def f158r1 : LS := [o 3 (.mv (t 0)),o 4 (.build [(.int .i64 0), (.int .i64 0), (.string ⟨#[]⟩), (.slice none 0 0)] [(0, 1), (2, 1)] [(i 4), (t 3)]),
 q (.st 4 (t 2) (t 4))]
def f158 : SCode := (.seq (.ops f158r0) (.seq (.ops f158r1) .ret))
theorem f158_calls : Sound Tryz.prog 158 5 f158 [.cn 2 4] := sound_of mixed Tryz.func158 rfl (by kernel_rfl) (by kernel_rfl) (by kernel_rfl)
def f163r0 : LS := [o 4 (.mv (i 0))]
def f163r1 : LS := [o 8 (.mv (t 0)),o 9 (.nilck (t 8)),o 10 (.fa 11 (t 9)),o 11 (.ld1 (t 10)),o 12 (.mv (t 1)),o 13 (.ixs 1 (t 11) (t 12)),o 14 (.ld1 (t 13)),o 15 (.call 164 [(t 14)]),o 7 (.mv (t 15)),o 16 (.ext (t 7) 0),o 17 (.ext (t 7) 1),o 5 (.mv (t 16)),o 6 (.mv (t 17))]
def f163r2 : LS := [o 18 (.mv (t 6)),o 19 (.call 150 [(t 18), (.const (.string ⟨#[69, 82, 82, 32, 110, 117, 109, 98, 101, 114]⟩))])]
def f163r3 : LS := [o 20 (.mv (t 5)),o 4 (.mv (t 20))]
def f163 : SCode := (.seq (.ops f163r0) (.seq (.ops f163r1) (.seq (.ops f163r2) (.seq (.ops f163r3) .ret))))
theorem f163_calls : Sound Tryz.prog 163 21 f163 [.t 4] := sound_of mixed Tryz.func163 rfl (by kernel_rfl) (by kernel_rfl) (by kernel_rfl)
def f166r0 : LS := [o 4 (.new [(.int .i64 0), (.int .i64 0), (.string ⟨#[]⟩), (.slice none 0 0)])]
def f166r1 : LS := [o 7 (.mv (t 0)),o 8 (.call 157 [(t 7), (i 3), (i 2), (i 65536)])]
def f166r2 : LS := [o 9 (.mv (t 0)),o 10 (.nilck (t 9)),o 11 (.fa 11 (t 10)),o 12 (.ld1 (t 11)),o 13 (.slc 1 (t 12) (some (i 1)) none),o 14 (.len (t 13)),o 15 (.mv (i 0))]
def f166r3 : LS := [o 16 (.cmp .lss (t 15) (t 14))]
def f166r4 : LS := [o 17 (.mv (t 15)),o 18 (.ixs 1 (t 13) (t 15)),o 19 (.ld1 (t 18)),o 5 (.mv (t 17)),o 6 (.mv (t 19))]
def f166r5 : LS := [o 20 (.mv (t 0)),o 21 (.mv (t 1)),o 22 (.mv (t 6)),o 23 (.build [(.int .i64 0), (.string ⟨#[]⟩), (.string ⟨#[]⟩), (.string ⟨#[]⟩), (.int .i64 0)] [(0, 1), (3, 1)] [(t 21), (t 22)]),o 24 (.mv (t 0)),o 25 (.nilck (t 24)),o 26 (.fa 0 (t 25)),o 27 (.fa 3 (t 26)),o 28 (.ld1 (t 27)),o 29 (.len (t 28)),o 30 (.mv (t 5)),o 31 (.ar .add (t 29) (t 30)),o 32 (.ar .add (t 31) (i 1)),o 33 (.call 155 [(t 20), (t 23), (t 32)])]
def f166r6 : LS := [o 34 (.ar .add (t 15) (i 1)),o 15 (.mv (t 34))]
def f166l7 : SCode := (.seq (.ops f166r3) (.seq (.cond (t 16) .skip (.exit 0)) (.seq (.block 1 (.seq (.ops f166r4) (.ops f166r5))) (.ops f166r6))))
def f166r8 : LS := [o 35 (.mv (t 0)),o 36 (.nilck (t 35)),o 37 (.fa 0 (t 36)),o 38 (.fa 3 (t 37)),o 39 (.ld1 (t 38)),o 40 (.len (t 39)),o 41 (.mv (t 0)),o 42 (.nilck (t 41)),o 43 (.fa 11 (t 42)),o 44 (.ld1 (t 43)),o 45 (.len (t 44)),o 46 (.ar .add (t 40) (t 45)),o 47 (.ar .sub (t 46) (i 1)),o 48 (.call 156 [(t 47)]),
 q (.st 4 (t 4) (t 48))]
def f166 : SCode := (.seq (.ops f166r0) (.seq (.ops f166r1) (.seq (.seq (.ops f166r2) (.block 0 (.loop f166l7))) (.seq (.ops f166r8) .ret))))
theorem f166_calls : Sound Tryz.prog 166 49 f166 [.cn 4 4] := sound_of mixed Tryz.func166 rfl (by kernel_rfl) (by kernel_rfl) (by kernel_rfl)
def f167r0 : LS := [o 6 (.new [(.int .i64 0), (.int .i64 0), (.string ⟨#[]⟩), (.slice none 0 0)])]
def f167r1 : LS := [o 9 (.mv (t 0)),o 10 (.call 157 [(t 9), (i 3), (i 1), (i 1)])]
def f167r2 : LS := [o 12 (.mv (t 0)),o 13 (.nilck (t 12)),o 14 (.fa 0 (t 13)),o 15 (.fa 3 (t 14)),o 16 (.ld1 (t 15)),o 17 (.len (t 16)),o 18 (.mv (t 2)),o 19 (.call 168 [(t 17), (t 18)]),o 11 (.mv (t 19)),o 20 (.ext (t 11) 0),o 21 (.ext (t 11) 1),o 7 (.mv (t 20)),o 8 (.mv (t 21))]
def f167r3 : LS := [o 22 (.mv (t 8)),o 23 (.un .not (t 22))]
def f167r4 : LS := [o 24 (.build [(.int .i64 0), (.int .i64 0), (.string ⟨#[]⟩), (.slice none 0 0)] [] []),
 q (.st 4 (t 6) (t 24))]
def f167r5 : LS := [o 25 (.mv (t 0)),o 26 (.mv (t 1)),o 27 (.build [(.int .i64 0), (.string ⟨#[]⟩), (.string ⟨#[]⟩), (.string ⟨#[]⟩), (.int .i64 0)] [(0, 1)] [(t 26)]),o 28 (.call 233 [(t 25), (t 27)])]
def f167r6 : LS := [o 29 (.mv (t 0)),o 30 (.nilck (t 29)),o 31 (.fa 0 (t 30)),o 32 (.fa 3 (t 31)),o 33 (.ld1 (t 32)),o 34 (.mv (t 7)),o 35 (.ixs 1 (t 33) (t 34)),o 36 (.ld1 (t 35)),o 37 (.call 158 [(t 36)]),
 q (.st 4 (t 6) (t 37))]
def f167 : SCode := (.seq (.ops f167r0) (.seq (.ops f167r1) (.seq (.ops f167r2) (.seq (.seq (.ops f167r3) (.cond (t 23) (.seq (.ops f167r4) .ret) .skip)) (.seq (.ops f167r5) (.seq (.ops f167r6) .ret))))))
theorem f167_calls : Sound Tryz.prog 167 38 f167 [.cn 6 4] := sound_of mixed Tryz.func167 rfl (by kernel_rfl) (by kernel_rfl) (by kernel_rfl)
def f168r0 : LS := [o 4 (.mv (i 0)),o 5 (.mv (b false))]
def f168r1 : LS := [o 6 (.mv (t 1)),o 7 (.cmp .lss (t 6) (i 0))]
def f168r2 : LS := [o 8 (.mv (t 1)),o 9 (.mv (t 0)),o 10 (.mx (t 9) (i 0)),o 11 (.ar .add (t 8) (t 10)),o 1 (.mv (t 11))]
def f168r3 : LS := [o 12 (.mv (t 1)),o 13 (.cmp .lss (t 12) (i 0)),o 14 (.mv (t 13)),
 n 15 14 (.mv (t 1)),
 n 16 14 (.mv (t 0)),
 n 17 14 (.cmp .geq (t 15) (t 16)),o 18 (.pick (t 14) (b true) (t 17))]
def f168r4 : LS := [o 4 (.mv (i 0)),o 5 (.mv (b false))]
def f168r5 : LS := [o 19 (.mv (t 1)),o 4 (.mv (t 19)),o 5 (.mv (b true))]
def f168 : SCode := (.seq (.ops f168r0) (.seq (.seq (.ops f168r1) (.cond (t 7) (.ops f168r2) .skip)) (.seq (.seq (.ops f168r3) (.cond (t 18) (.seq (.ops f168r4) .ret) .skip)) (.seq (.ops f168r5) .ret))))
theorem f168_calls : Sound Tryz.prog 168 20 f168 [.t 4, .t 5] := sound_of mixed Tryz.func168 rfl (by kernel_rfl) (by kernel_rfl) (by kernel_rfl)
def f169r0 : LS := [o 6 (.mv (i 0)),o 7 (.mv (i 0))]
def f169r1 : LS := [o 9 (.mv (t 0)),o 10 (.cmp .lss (t 9) (i 1))]
def f169r2 : LS := [o 6 (.mv (i 0)),o 7 (.mv (i 0))]
def f169r3 : LS := [o 11 (.mv (t 0)),o 8 (.mv (t 11))]
def f169r4 : LS := [o 12 (.mv (t 1)),o 13 (.cmp .lss (t 12) (i 0))]
def f169r5 : LS := [o 14 (.mv (t 1)),o 15 (.mv (t 8)),o 16 (.ar .add (t 14) (t 15)),o 17 (.mx (i 0) (t 16)),o 1 (.mv (t 17))]
def f169r6 : LS := [o 18 (.mv (t 2)),o 19 (.cmp .lss (t 18) (i 0))]
def f169r7 : LS := [o 20 (.mv (t 2)),o 21 (.mv (t 8)),o 22 (.ar .add (t 20) (t 21)),o 2 (.mv (t 22))]
def f169r8 : LS := [o 23 (.mv (t 2)),o 24 (.mv (t 8)),o 25 (.ar .sub (t 24) (i 1)),o 26 (.mn (t 23) (t 25)),o 2 (.mv (t 26))]
def f169r9 : LS := [o 27 (.mv (t 1)),o 28 (.mv (t 2)),o 29 (.cmp .gtr (t 27) (t 28))]
def f169r10 : LS := [o 6 (.mv (i 0)),o 7 (.mv (i 0))]
def f169r11 : LS := [o 30 (.mv (t 1)),o 31 (.mv (t 2)),o 32 (.ar .add (t 31) (i 1)),o 6 (.mv (t 30)),o 7 (.mv (t 32))]
def f169 : SCode := (.seq (.ops f169r0) (.seq (.seq (.ops f169r1) (.cond (t 10) (.seq (.ops f169r2) .ret) .skip)) (.seq (.ops f169r3) (.seq (.seq (.ops f169r4) (.cond (t 13) (.ops f169r5) .skip)) (.seq (.seq (.ops f169r6) (.cond (t 19) (.ops f169r7) .skip)) (.seq (.ops f169r8) (.seq (.seq (.ops f169r9) (.cond (t 29) (.seq (.ops f169r10) .ret) .skip)) (.seq (.ops f169r11) .ret))))))))
theorem f169_calls : Sound Tryz.prog 169 33 f169 [.t 6, .t 7] := sound_of mixed Tryz.func169 rfl (by kernel_rfl) (by kernel_rfl) (by kernel_rfl)
def f170r0 : LS := [o 4 (.new [(.int .i64 0), (.int .i64 0), (.string ⟨#[]⟩), (.slice none 0 0)])]
def f170r1 : LS := [o 10 (.build [(.int .i64 0), (.int .i64 0), (.string ⟨#[]⟩), (.slice none 0 0)] [(0, 1)] [(i 5)]),o 5 (.new [(.int .i64 0), (.int .i64 0), (.string ⟨#[]⟩), (.slice none 0 0)]),
 q (.st 4 (t 5) (t 10))]
def f170r2 : LS := [o 11 (.mv (t 0)),o 12 (.len (t 11)),o 13 (.mv (i 0))]
def f170r3 : LS := [o 14 (.cmp .lss (t 13) (t 12))]
def f170r4 : LS := [o 15 (.ixs 1 (t 11) (t 13)),o 16 (.ld1 (t 15)),o 7 (.mv (t 16))]
def f170r5 : LS := [o 17 (.mv (t 1)),o 18 (.mv (t 7)),o 19 (.callv (t 17) [(t 18)]),o 20 (.len (t 19)),o 21 (.mv (i 0))]
def f170r6 : LS := [o 22 (.cmp .lss (t 21) (t 20))]
def f170r7 : LS := [o 23 (.ixs 1 (t 19) (t 21)),o 24 (.ld1 (t 23)),o 9 (.mv (t 24))]
def f170r8 : LS := [o 25 (.fa 3 (t 5)),o 26 (.ld1 (t 25)),o 27 (.mv (t 9)),o 28 (.callq 158 [(t 27)]),o 29 (.bslice [(.int .i64 0), (.int .i64 0), (.string ⟨#[]⟩), (.slice none 0 0)] 1 [(0, 4)] [(t 28)]),o 30 (.app 4 56 [(.int .i64 0), (.int .i64 0), (.string ⟨#[]⟩), (.slice none 0 0)] (t 26) (t 29)),o 31 (.fa 3 (t 5)),
 q (.st 1 (t 31) (t 30))]
def f170r9 : LS := [o 32 (.ar .add (t 21) (i 1)),o 21 (.mv (t 32))]
def f170l10 : SCode := (.seq (.ops f170r6) (.seq (.cond (t 22) .skip (.exit 2)) (.seq (.block 3 (.seq (.ops f170r7) (.ops f170r8))) (.ops f170r9))))
def f170r11 : LS := [o 33 (.ar .add (t 13) (i 1)),o 13 (.mv (t 33))]
def f170l12 : SCode := (.seq (.ops f170r3) (.seq (.cond (t 14) .skip (.exit 0)) (.seq (.block 1 (.seq (.ops f170r4) (.seq (.ops f170r5) (.block 2 (.loop f170l10))))) (.ops f170r11))))
def f170r13 : LS := [o 34 (.ldn 4 (t 5)),
 q (.st 4 (t 4) (t 34))]
def f170 : SCode := (.seq (.ops f170r0) (.seq (.ops f170r1) (.seq (.seq (.ops f170r2) (.block 0 (.loop f170l12))) (.seq (.ops f170r13) .ret))))
theorem f170_calls : Sound Tryz.prog 170 35 f170 [.cn 4 4] := sound_of mixed Tryz.func170 rfl (by kernel_rfl) (by kernel_rfl) (by kernel_rfl)
def f171r0 : LS := [o 2 (.mv (.const (.slice none 0 0)))]
def f171r1 : LS := [o 3 (.mv (t 0)),o 4 (.bslice [(.string ⟨#[]⟩)] 1 [(0, 1)] [(t 3)]),o 2 (.mv (t 4))]
def f171 : SCode := (.seq (.ops f171r0) (.seq (.ops f171r1) .ret))
theorem f171_calls : Sound Tryz.prog 171 5 f171 [.t 2] := sound_of mixed Tryz.func171 rfl (by kernel_rfl) (by kernel_rfl) (by kernel_rfl)
def f172r0 : LS := [o 4 (.mv (b false))]
def f172r1 : LS := [o 8 (.mv (t 0)),o 9 (.nilck (t 8)),o 10 (.fa 0 (t 9)),o 11 (.fa 3 (t 10)),o 12 (.ld1 (t 11)),o 13 (.mv (t 1)),o 14 (.call 235 [(t 12), (t 13)]),o 7 (.mv (t 14)),o 15 (.ext (t 7) 0),o 16 (.ext (t 7) 1),o 5 (.mv (t 15)),o 6 (.mv (t 16))]
def f172r2 : LS := [o 17 (.mv (t 6)),o 4 (.mv (t 17))]
def f172 : SCode := (.seq (.ops f172r0) (.seq (.ops f172r1) (.seq (.ops f172r2) .ret)))
theorem f172_calls : Sound Tryz.prog 172 18 f172 [.t 4] := sound_of mixed Tryz.func172 rfl (by kernel_rfl) (by kernel_rfl) (by kernel_rfl)
def f173r0 : LS := [o 2 (.new [(.int .i64 0), (.int .i64 0), (.string ⟨#[]⟩), (.slice none 0 0)])]
def f173r1 : LS := [o 3 (.mv (t 0))]
def f173r2 : LS := [o 4 (.call 156 [(i 1)]),
 q (.st 4 (t 2) (t 4))]
def f173r3 : LS := [o 5 (.call 156 [(i 0)]),
 q (.st 4 (t 2) (t 5))]
def f173 : SCode := (.seq (.ops f173r0) (.seq (.seq (.ops f173r1) (.cond (t 3) (.seq (.ops f173r2) .ret) .skip)) (.seq (.ops f173r3) .ret)))
theorem f173_calls : Sound Tryz.prog 173 6 f173 [.cn 2 4] := sound_of mixed Tryz.func173 rfl (by kernel_rfl) (by kernel_rfl) (by kernel_rfl)
def f175r0 : LS := [o 5 (.mv (t 1)),o 4 (.mv (t 5))]
def f175r1 : LS := [o 6 (.mv (t 4)),o 7 (.mv (t 0)),o 8 (.nilck (t 7)),o 9 (.fa 11 (t 8)),o 10 (.ld1 (t 9)),o 11 (.len (t 10)),o 12 (.cmp .lss (t 6) (t 11))]
def f175r2 : LS := [o 15 (.mv (t 0)),o 16 (.mv (t 4)),o 17 (.call 163 [(t 15), (t 16)])]
def f175r3 : LS := [o 13 (.mv (t 4)),o 14 (.ar .add (t 13) (i 2)),o 4 (.mv (t 14))]
def f175l4 : SCode := (.seq (.seq (.ops f175r1) (.cond (t 12) .skip (.exit 0))) (.seq (.block 1 (.ops f175r2)) (.ops f175r3)))
def f175 : SCode := (.seq (.ops f175r0) (.block 0 (.loop f175l4)))
theorem f175_calls : Sound Tryz.prog 175 18 f175 [] := sound_of mixed Tryz.func175 rfl (by kernel_rfl) (by kernel_rfl) (by kernel_rfl)
def f176r0 : LS := [o 3 (.mv (b false))]
def f176r1 : LS := [o 7 (.ld1 (t 1)),o 8 (.mv (t 0)),o 9 (.call 177 [(t 7), (t 8)]),o 6 (.mv (t 9)),o 10 (.ext (t 6) 0),o 11 (.ext (t 6) 1),o 4 (.mv (t 10)),o 5 (.mv (t 11))]
def f176r2 : LS := [o 12 (.mv (t 5)),o 3 (.mv (t 12))]
def f176 : SCode := (.seq (.ops f176r0) (.seq (.ops f176r1) (.seq (.ops f176r2) .ret)))
theorem f176_calls : Sound Tryz.prog 176 13 f176 [.t 3] := sound_of mixed Tryz.func176 rfl (by kernel_rfl) (by kernel_rfl) (by kernel_rfl)
def f177r0 : LS := [o 4 (.mv (i 0)),o 5 (.mv (b false))]
def f177r1 : LS := [o 9 (.mv (t 0)),o 10 (.nilck (t 9)),o 11 (.fa 0 (t 10)),o 12 (.fa 4 (t 11)),o 13 (.ld1 (t 12)),o 14 (.call 179 [(t 13), (.const (.slice none 0 0))]),o 8 (.mv (t 14)),o 15 (.ext (t 8) 0),o 16 (.ext (t 8) 1),o 6 (.mv (t 15)),o 7 (.mv (t 16))]
def f177r2 : LS := [o 17 (.mv (t 6)),o 18 (.mv (t 1)),o 19 (.call 237 [(t 17), (t 18)]),o 20 (.ext (t 19) 0),o 21 (.ext (t 19) 1),o 4 (.mv (t 20)),o 5 (.mv (t 21))]
def f177 : SCode := (.seq (.ops f177r0) (.seq (.ops f177r1) (.seq (.ops f177r2) .ret)))
theorem f177_calls : Sound Tryz.prog 177 22 f177 [.t 4, .t 5] := sound_of mixed Tryz.func177 rfl (by kernel_rfl) (by kernel_rfl) (by kernel_rfl)
def f228r0 : LS := [o 4 (.mv (b false))]
def f228r1 : LS := [o 5 (.ld1 (t 1)),o 6 (.mv (t 0)),o 7 (.look .str (.int .i64 0) false (t 5) (t 6)),o 8 (.ar .add (t 7) (i 1)),
 q (.mup .str (t 5) (t 6) (t 8))]
def f228r2 : LS := [o 9 (.ld1 (t 1)),o 10 (.mv (t 0)),o 11 (.look .str (.int .i64 0) false (t 9) (t 10)),o 12 (.cmp .eql (t 11) (i 1)),o 13 (.mv (t 12)),
 g 14 13 (.ld1 (t 2)),
 g 15 13 (.mv (t 0)),
 g 16 13 (.callv (t 14) [(t 15)]),
 g 17 13 (.un .not (t 16)),o 18 (.pick (t 13) (t 17) (b false)),o 4 (.mv (t 18))]
def f228 : SCode := (.seq (.ops f228r0) (.seq (.ops f228r1) (.seq (.ops f228r2) .ret)))
theorem f228_calls : Sound Tryz.prog 228 19 f228 [.t 4] := sound_of mixed Tryz.func228 rfl (by kernel_rfl) (by kernel_rfl) (by kernel_rfl)
def f230r0 : LS := [o 2 (.box (t 0)),o 3 (.mv (b false))]
def f230r1 : LS := [o 4 (.fa 0 (t 2)),o 5 (.ld1 (t 4)),o 6 (.ld1 (t 1)),o 7 (.cmp .eql (t 5) (t 6)),o 3 (.mv (t 7))]
def f230 : SCode := (.seq (.ops f230r0) (.seq (.ops f230r1) .ret))
theorem f230_calls : Sound Tryz.prog 230 8 f230 [.t 3] := sound_of mixed Tryz.func230 rfl (by kernel_rfl) (by kernel_rfl) (by kernel_rfl)
def f233r0 : LS := [o 3 (.box (t 1))]
def f233r1 : LS := [o 4 (.mv (t 0)),o 5 (.nilck (t 4)),o 6 (.fa 10 (t 5)),o 7 (.ld1 (t 6)),o 8 (.fa 1 (t 3)),
 q (.st 1 (t 8) (t 7))]
def f233r2 : LS := [o 9 (.mv (t 0)),o 10 (.mv (t 0)),o 11 (.nilck (t 10)),o 12 (.fa 12 (t 11)),o 13 (.ld1 (t 12)),o 14 (.ldn 5 (t 3)),o 15 (.bslice [(.int .i64 0), (.string ⟨#[]⟩), (.string ⟨#[]⟩), (.string ⟨#[]⟩), (.int .i64 0)] 1 [(0, 5)] [(t 14)]),o 16 (.app 5 64 [(.int .i64 0), (.string ⟨#[]⟩), (.string ⟨#[]⟩), (.string ⟨#[]⟩), (.int .i64 0)] (t 13) (t 15)),o 17 (.nilck (t 9)),o 18 (.fa 12 (t 17)),
 q (.st 1 (t 18) (t 16))]
def f233 : SCode := (.seq (.ops f233r0) (.seq (.ops f233r1) (.ops f233r2)))
theorem f233_calls : Sound Tryz.prog 233 19 f233 [] := sound_of mixed Tryz.func233 rfl (by kernel_rfl) (by kernel_rfl) (by kernel_rfl)
end Go.Proofs.YtjnijlnmbjjgpaaGreatDoor.C
namespace Go.Proofs.YtjnijlnmbjjgpaaGreatDoor
open Go Go.Sx C
def stop9 (why : ByteArray) : List PanicEntry := [{ v := .iface 92 (.agg #[.string why]), recovered := false }]
def Out9 (R : Value → Heap → Prop) (E : ByteArray → Heap → Prop) : Ending → Heap → Prop
 |.returned v, h => R v h
 |.panicked ch, h => ∃ why, ch = stop9 why ∧ E why h
 |.outgrown, _ => False
theorem call_out9 {P : Program} {f : Nat} {vs : List Value} {h : Heap} {Q : Value → Heap → Prop} {E : ByteArray → Heap → Prop} {K : Value → Heap → Prop} {Qp : List PanicEntry → Heap → Prop} (hc : CallsH P f vs h (Out9 Q E))
  (hk : ∀ v h', Q v h' → K v h') (he : ∀ why h', E why h' → Qp (stop9 why) h') : CallsH P f vs h (after K Qp) :=
 hc.mono fun e h' hr => by
  cases e with
  |returned v => exact hk _ _ hr
  |panicked ch => obtain ⟨why, rfl, hw⟩ := hr; exact he _ _ hw
  |outgrown => exact hr.elim
theorem must9_calls {h : Heap} {b : Bool} {s : ByteArray} : CallsH Tryz.prog 150 [.bool b, .string s] h (Out9 (fun _ h' => b = true ∧ h' = h) (fun why h' => b = false ∧ why = s ∧ h' = h)) := by
 refine f150_calls (by simp) ?_
 cases b with
 |true => exact ⟨rfl, rfl⟩
 |false => exact ⟨s, rfl, rfl, rfl, rfl⟩
theorem must9_yes {h : Heap} {s : ByteArray} {K : Value → Heap → Prop} {Qp : List PanicEntry → Heap → Prop} (hok : ∀ v, K v h) : CallsH Tryz.prog 150 [.bool true, .string s] h (after K Qp) :=
 call_out9 must9_calls (fun v h' hr => by obtain ⟨_, e⟩ := hr; have e := e.symm; subst e; exact hok v) (fun v h' hr => by obtain ⟨h2, _⟩ := hr; cases h2)
theorem must9_no {h : Heap} {s : ByteArray} {K : Value → Heap → Prop} {Qp : List PanicEntry → Heap → Prop} (hbad : Qp (stop9 s) h) : CallsH Tryz.prog 150 [.bool false, .string s] h (after K Qp) :=
 call_out9 must9_calls (fun v h' hr => by obtain ⟨h2, _⟩ := hr; cases h2) (fun v h' hr => by obtain ⟨_, rfl, e⟩ := hr; have e := e.symm; subst e; exact hbad)
structure P9 (h0 : Heap) (kb sb mb c : Nat) (m : List KI) (S : Space) (av : Value) (A : List ByteArray) : Prop where
 kr : KR h0 kb sb mb c m
 so : Sorted m S
 args : ∀ h', Chg [] h0 h' → SL encS h' av A
def Tn (h0 h : Heap) (e : En) (h' : Heap) (e' : En) : Prop := As h0 h' e' ∧ Sx.Own e h e' h'
section
variable {h0 h h1 h' : Heap} {ab kb sb mb c : Nat} {now lo hi kd items : Int} {av lv pv lw rv : Value} {key key2 s : ByteArray} {t : Thing} {is : Bool} {A : List ByteArray} {L F : List Eff} {m : List KI} {S : Space} {M : List En} {T : List Nat} {e e' : En}
theorem P9.argF (p : P9 h0 kb sb mb c m S av A) (hi : 0 < A.length) : ∃ b o cc, av = .slice (some ⟨b, o, none⟩) A.length cc := by
 have hs := p.args h0 (Chg.refl _)
 obtain ⟨a, cc, rfl, hcc⟩ := hs.form
 obtain ⟨b, o, rfl⟩ := hs.addr hi
 exact ⟨b, o, cc, rfl⟩
theorem P9.argN (p : P9 h0 kb sb mb c m S av A) : ∃ a cc, av = .slice a A.length cc := by
 obtain ⟨a, cc, rfl, hcc⟩ := (p.args h0 (Chg.refl _)).form
 exact ⟨a, cc, rfl⟩
theorem P9.ix {i : Int} {b o n cc : Nat} {s : ByteArray} {K : Value → Prop} (p : P9 h0 kb sb mb c m S (.slice (some ⟨b, o, none⟩) n cc) A) (hc : Chg [] h0 h1) (j : Nat) (e : i = j) (hs : A[j]? = some s) (hk : K (.string s)) :
  0 ≤ i ∧ i < (n : Int) ∧ ∃ v, cell h1 b (o + i.toNat * 1) = some v ∧ K v := by
 subst e
 have hj := (List.getElem?_eq_some_iff.1 hs).1
 have hcs := (p.args h1 hc).cells encS_len hs
 have hn := (p.args h1 hc).len.1
 refine ⟨by omega, by omega, _, ?_, hk⟩
 have := hcs 0 _ rfl
 simpa using this
def Sub9 (h0 h : Heap) (e : En) (R : Value → En → Prop) (B : ByteArray → Prop) : Ending → Heap → Prop :=
 Out9 (fun v h' => ∃ e', R v e' ∧ Tn h0 h e h' e') (fun why h' => B why ∧ Chg e.fp h h')
theorem sub9_go {P : Program} {f i : Nat} {vs : List Value} {e0 : En} {R : Value → En → Prop} {B : ByteArray → Prop} {K : Value → Heap → Prop} {Qp : List PanicEntry → Heap → Prop} (x : As h0 h e0) (w : St e0.fp h h1 M) (hi : M[i]? = some e)
  (hc : As h0 h1 e → CallsH P f vs h1 (Sub9 h0 h1 e R B)) (hok : ∀ v h' e', R v e' → St e0.fp h h' (M.set i e') → K v h') (hbad : ∀ why h', B why → Chg e0.fp h h' → Qp (stop9 why) h') : CallsH P f vs h1 (after K Qp) :=
 call_out9 (hc (x.out w i hi).1) (fun v h' ⟨e', hR, _, o⟩ => hok v h' e' hR (w.own i hi o)) (fun why h' ⟨hB, c⟩ => hbad why h' hB (w.gone i hi c (fun _ hb => .inl hb)).chg)
theorem Tn.refl (x : As h0 h e) (hc : Chg [] h h') : Tn h0 h e h' e := ⟨x.ext hc, Sx.Own.refl x.at_ hc⟩
theorem many9_calls (p : P9 h0 kb sb mb c m S av A) (hlo : 1 ≤ lo) (x : As h0 h (cE ab kb now av key t is pv lw rv lv L)) : CallsH Tryz.prog 149 [ptr ab, .int .i64 lo, .int .i64 hi] h
  (Sub9 h0 h (cE ab kb now av key t is pv lw rv lv L) (fun _ e' => (lo ≤ A.length ∧ (A.length : Int) ≤ hi) ∧ ∃ k0, A[0]? = some k0 ∧ e' = cE ab kb now av k0 t is pv lw rv lv L)
   (fun why => ¬ (lo ≤ A.length ∧ (A.length : Int) ≤ hi) ∧ why = wArgs)) := by
 obtain ⟨a, cc, rfl⟩ := p.argN
 refine f149_calls (by simp) ?_
 have w := x.st
 refine w.ldc 0 rfl rfl ?_
 refine Ai rfl (Ai (fun h1 => ?_) (fun h1 => ?_))
 ·refine w.ldc 0 rfl rfl ?_
  refine Ai rfl (Ai (fun h2 => ?_) (fun h2 => ?_))
  ·refine must9_yes fun _ => ?_
   obtain ⟨b, o, cc2, e⟩ := p.argF (by omega)
   obtain ⟨rfl, rfl⟩ : a = some ⟨b, o, none⟩ ∧ cc = cc2 := by cases e; exact ⟨rfl, rfl⟩
   have hA0 : A[0]? = some A[0] := List.getElem?_eq_getElem (by omega)
   refine w.ldc 0 rfl rfl ?_
   refine p.ix (x.base w) 0 rfl hA0 ?_
   refine w.ckey 0 rfl fun h2 w => ?_
   exact ⟨_, ⟨⟨by omega, by omega⟩, A[0], hA0, rfl⟩, x.out w 0 rfl⟩
  ·exact must9_no ⟨_, rfl, ⟨fun hh => by omega, rfl⟩, w.chg⟩
 ·exact must9_no ⟨_, rfl, ⟨fun hh => by omega, rfl⟩, w.chg⟩
theorem num9_calls {j : Nat} (p : P9 h0 kb sb mb c m S av A) (x : As h0 h (cE ab kb now av key t is pv lw rv lv L)) (hl : LaidN h0) (hj : A[j]? = some s) (hs : s.size < 281474976710656) : CallsH Tryz.prog 163 [ptr ab, .int .i64 j] h
  (Sub9 h0 h (cE ab kb now av key t is pv lw rv lv L) (fun r e' => ∃ n, numOf s = some n ∧ r = .int .i64 n ∧ e' = cE ab kb now av key t is pv lw rv lv L) (fun why => numOf s = none ∧ why = wNum)) := by
 obtain ⟨b, o, cc, rfl⟩ := p.argF (by have := (List.getElem?_eq_some_iff.1 hj).1; omega)
 refine f163_calls (by simp) ?_
 have w := x.st
 refine w.ldc 0 rfl rfl ?_
 refine p.ix (x.base w) j rfl hj ?_
 obtain ⟨⟨l⟩⟩ := s
 rw [show numOf ⟨⟨l⟩⟩ = Num.num l from rfl]
 obtain ⟨u, hu⟩ : ∃ u, u = Num.num l := ⟨_, rfl⟩
 refine call_ret (bnum_calls (hl.ext x.chg) hs) ?_
 rintro _ h1 ⟨rfl, c1⟩
 rw [← hu]
 cases u with
 |none => exact must9_no ⟨_, rfl, ⟨rfl, rfl⟩, c1.mono (by simp)⟩
 |some n => exact must9_yes fun _ => ⟨_, ⟨n, rfl, rfl, rfl⟩, Tn.refl x c1⟩
end
end Go.Proofs.YtjnijlnmbjjgpaaGreatDoor
namespace Go.Proofs.YtjnijlnmbjjgpaaGreatDoor
open Go Go.Sx C
section
variable {h0 h h1 h' : Heap} {ab kb sb mb c : Nat} {now lo hi kd items : Int} {av lv pv lw rv : Value} {key key2 s : ByteArray} {t : Thing} {is is2 : Bool} {A : List ByteArray} {L F : List Eff} {m : List KI} {S : Space} {M : List En} {T : List Nat} {e e' : En}
theorem _root_.Go.Sx.St.cis {K : Heap → Prop} (w : St T h1 h M) (i : Nat) (hi : M[i]? = some (cE ab kb now av key t is pv lw rv lv L)) (k : ∀ h', St T h1 h' (M.set i (cE ab kb now av key t is2 pv lw rv lv L)) → K h') :
  ∃ l, Blk h ab l ∧ 7 + 1 ≤ l.length ∧ [Value.bool is2].length = 1 ∧ (∀ u ∈ [Value.bool is2], u.oneCell' = true) ∧ ∀ h', Put h h' ab (splice l 7 [.bool is2]) → K h' := by
 obtain ⟨hB, hO, hT, hb, n1, n2, n3⟩ := w.get i hi
 refine ⟨_, hB, by simp [cellsC], rfl, ones1 rfl, fun h' p => k h' ?_⟩
 refine w.set i hi p.chg (fun b hb => .inl (by simp at hb; simp [cE, En.fp, hb])) ⟨p.blk, hO.chg p.chg (fun b hb => by simp; rintro rfl; exact n1 hb), th_off hT p.chg (fun b hb => by simp; rintro rfl; exact n2 hb), fun b h9 => Nat.lt_of_lt_of_le (hb b h9) p.chg.size, n1, n2, n3⟩ (fun b hb => .inl hb)
theorem _root_.Go.Sx.St.clist {a : Option Addr} {n c : Nat} {K : Heap → Prop} (w : St T h1 h M) (i j : Nat) (hi : M[i]? = some (cE ab kb now av key t is pv lw rv lv L)) (hj : M[j]? = some (.o encD 5 (.slice a n c) F)) (hij : j ≠ i)
  (k : ∀ h', St T h1 h' ((M.set j En.nil).set i (cE ab kb now av key t is pv lw rv (.slice a n c) F)) → K h') :
  ∃ l, Blk h ab l ∧ 12 + 1 ≤ l.length ∧ [Value.slice a n c].length = 1 ∧ (∀ u ∈ [Value.slice a n c], u.oneCell' = true) ∧ ∀ h', Put h h' ab (splice l 12 [.slice a n c]) → K h' := by
 obtain ⟨hB, hO, hT, hlt3, n1, n2, n3⟩ := w.get i hi
 have hF : OL encD 5 h (.slice a n c) F := w.get j hj
 refine ⟨_, hB, by simp [cellsC], rfl, ones1 rfl, fun h' p => k h' ?_⟩
 have m1 : ∀ b ∈ vblk (.slice a n c), b ∉ (cE ab kb now av key t is pv lw rv lv L).fp := fun b hb => w.apart j i _ _ hj hi hij b hb
 have n1' : ab ∉ vblk (.slice a n c) := fun hm => m1 ab hm (by simp [cE, En.fp])
 have n3' : ∀ b ∈ vblk (.slice a n c), b ∉ bl3 pv lw rv := fun b hb hm => m1 b hb (by simp [cE, En.fp, hm])
 have hz := w.size
 have hil : i < M.length := (List.getElem?_eq_some_iff.1 hi).1
 have hjl : j < M.length := (List.getElem?_eq_some_iff.1 hj).1
 have hfi := (w.ents i _ hi).2
 have hfj := (w.ents j _ hj).2
 have he : (cE ab kb now av key t is pv lw rv (.slice a n c) F).at h' := ⟨p.blk, hF.chg p.chg (fun b hb => by simp; rintro rfl; exact n1' hb), th_off hT p.chg (fun b hb => by simp; rintro rfl; exact n2 hb), fun b h9 => Nat.lt_of_lt_of_le (hlt3 b h9) p.chg.size, n1', n2, n3'⟩
 have hsub : ∀ b ∈ (cE ab kb now av key t is pv lw rv (.slice a n c) F).fp, b ∈ (cE ab kb now av key t is pv lw rv lv L).fp ∨ b ∈ (En.o encD 5 (.slice a n c) F).fp := fun b hb => by
  rcases List.mem_cons.1 hb with rfl | hb
  ·exact .inl (List.mem_cons_self ..)
  ·rcases List.mem_append.1 hb with hb | hb
   ·exact .inr hb
   ·exact .inl (List.mem_cons_of_mem _ (List.mem_append_right _ hb))
 have hab : ab ∈ (cE ab kb now av key t is pv lw rv lv L).fp := List.mem_cons_self ..
 have get3 : ∀ {x : Nat} {e : En}, ((M.set j En.nil).set i (cE ab kb now av key t is pv lw rv (.slice a n c) F))[x]? = some e → (x = i ∧ e = cE ab kb now av key t is pv lw rv (.slice a n c) F) ∨ (x = j ∧ x ≠ i ∧ e = En.nil) ∨ (x ≠ i ∧ x ≠ j ∧ M[x]? = some e) := fun {x e} hx => by
  by_cases h1 : i = x
  ·subst h1
   rw [List.getElem?_set_self (by rw [List.length_set]; exact hil)] at hx
   cases hx
   exact .inl ⟨rfl, rfl⟩
  ·rw [List.getElem?_set_ne h1] at hx
   by_cases h2 : j = x
   ·subst h2
    rw [List.getElem?_set_self hjl] at hx
    cases hx
    exact .inr (.inl ⟨rfl, fun e => h1 e.symm, rfl⟩)
   ·rw [List.getElem?_set_ne h2] at hx
    exact .inr (.inr ⟨fun e => h1 e.symm, fun e => h2 e.symm, hx⟩)
 refine ⟨w.chg.trans p.chg (fun _ hk => hk) (fun b hb hlt => ?_), fun x e hx => ?_, fun x y e f hx hy hn b h1 h2 => ?_⟩
 ·simp at hb
  subst hb
  rcases hfi b hab with h9 | h9
  ·exact h9
  ·omega
 ·rcases get3 hx with ⟨rfl, rfl⟩ | ⟨rfl, _, rfl⟩ | ⟨h1, h2, hm⟩
  ·refine ⟨he, fun b hb => ?_⟩
   rcases hsub b hb with h9 | h9
   ·exact hfi b h9
   ·exact hfj b h9
  ·exact ⟨trivial, fun b hb => (nomatch (show b ∈ ([] : List Nat) from hb))⟩
  ·refine ⟨En.chg (w.get x hm) p.chg (fun b hb => ?_), (w.ents x e hm).2⟩
   simp
   rintro rfl
   exact w.apart i x _ e hi hm (fun e => h1 e.symm) b hab hb
 ·rcases get3 hx with ⟨rfl, rfl⟩ | ⟨rfl, _, rfl⟩ | ⟨x1, x2, hm⟩
  ·rcases get3 hy with ⟨rfl, rfl⟩ | ⟨rfl, _, rfl⟩ | ⟨y1, y2, hm2⟩
   ·exact hn rfl
   ·exact (nomatch (show b ∈ ([] : List Nat) from h2))
   ·rcases hsub b h1 with h9 | h9
    ·exact w.apart x y _ f hi hm2 hn b h9 h2
    ·exact w.apart j y _ f hj hm2 (fun e => y2 e.symm) b h9 h2
  ·exact (nomatch (show b ∈ ([] : List Nat) from h1))
  ·rcases get3 hy with ⟨rfl, rfl⟩ | ⟨rfl, _, rfl⟩ | ⟨y1, y2, hm2⟩
   ·rcases hsub b h2 with h9 | h9
    ·exact w.apart x y e _ hm hi hn b h1 h9
    ·exact w.apart x j e _ hm hj x2 b h1 h9
   ·exact (nomatch (show b ∈ ([] : List Nat) from h2))
   ·exact w.apart x y e f hm hm2 hn b h1 h2
theorem of9_calls (p : P9 h0 kb sb mb c m S av A) (x : As h0 h (cE ab kb now av key t is pv lw rv lv L)) : CallsH Tryz.prog 151 [ptr ab, .int .i64 kd] h
  (Sub9 h0 h (cE ab kb now av key t is pv lw rv lv L) (fun _ e' => okK kd (getS S key now) = true ∧ ∃ p2 w2 r2, e' = cE ab kb now av key ((getS S key now).getD zeroT) (getS S key now).isSome p2 w2 r2 lv L)
   (fun why => okK kd (getS S key now) = false ∧ why = wType)) := by
 refine f151_calls (by simp) ?_
 have w := x.st
 refine w.ldc 0 rfl rfl ?_
 refine w.ldc 0 rfl rfl ?_
 refine w.ldc 0 rfl rfl ?_
 refine call_ret (KGetF_calls key now (p.kr.ext (x.base w)) p.so) ?_
 rintro _ h2 ⟨⟨p2, w2, r2, rfl, tu, fr⟩, c2⟩
 generalize getS S key now = go at tu fr ⊢
 have w := w.add (e := thE (go.getD zeroT) p2 w2 r2) c2 ⟨tu, fun b hb => (fr b hb).2⟩ (fun b hb => (fr b hb).1)
 refine w.cthing 1 (j := 0) rfl rfl (by decide) fun h3 w => ?_
 refine w.cis 1 rfl fun h4 w => ?_
 have fin : ∀ {h' : Heap} {M' : List En} {j : Nat}, St (cE ab kb now av key t is pv lw rv lv L).fp h h' M' → M'[j]? = some (cE ab kb now av key (go.getD zeroT) go.isSome p2 w2 r2 lv L) →
   Tn h0 h (cE ab kb now av key t is pv lw rv lv L) h' (cE ab kb now av key (go.getD zeroT) go.isSome p2 w2 r2 lv L) := fun w hj => x.out w _ hj
 refine w.ldc 1 rfl rfl ?_
 cases go with
 |none =>
  refine must9_yes fun _ => ?_
  exact ⟨_, ⟨rfl, p2, w2, r2, rfl⟩, fin (j := 1) w rfl⟩
 |some u =>
  refine w.ldc 1 rfl rfl ?_
  refine Ai rfl (Ai (fun h1 => ?_) (fun h1 => ?_))
  ·refine must9_yes fun _ => ?_
   exact ⟨_, ⟨decide_eq_true h1, p2, w2, r2, rfl⟩, fin (j := 1) w rfl⟩
  ·exact must9_no ⟨_, rfl, ⟨decide_eq_false h1, rfl⟩, w.chg⟩
theorem begin9_calls (p : P9 h0 kb sb mb c m S av A) (hlo : 1 ≤ lo) (x : As h0 h (cE ab kb now av key t is pv lw rv lv L)) : CallsH Tryz.prog 157 [ptr ab, .int .i64 kd, .int .i64 lo, .int .i64 hi] h
  (Sub9 h0 h (cE ab kb now av key t is pv lw rv lv L) (fun _ e' => (lo ≤ A.length ∧ (A.length : Int) ≤ hi) ∧ ∃ k0, A[0]? = some k0 ∧ okK kd (getS S k0 now) = true ∧ ∃ p2 w2 r2, e' = cE ab kb now av k0 ((getS S k0 now).getD zeroT) (getS S k0 now).isSome p2 w2 r2 lv L)
   (fun why => (¬ (lo ≤ A.length ∧ (A.length : Int) ≤ hi) ∧ why = wArgs) ∨ (lo ≤ A.length ∧ (A.length : Int) ≤ hi) ∧ ∃ k0, A[0]? = some k0 ∧ okK kd (getS S k0 now) = false ∧ why = wType)) := by
 refine f157_calls (by simp) ?_
 have w := x.st
 refine sub9_go (i := 0) x w rfl (fun x => many9_calls p hlo x) ?_ ?_
 ·rintro _ h1 _ ⟨hb, k0, hk0, rfl⟩ w
  refine sub9_go (i := 0) x w rfl (fun x => of9_calls p x) ?_ ?_
  ·rintro _ h2 _ ⟨hk, p2, w2, r2, rfl⟩ w
   exact ⟨_, ⟨hb, k0, hk0, hk, p2, w2, r2, rfl⟩, x.out w 0 rfl⟩
  ·rintro why h2 ⟨hk, rfl⟩ c2
   exact ⟨_, rfl, .inr ⟨hb, k0, hk0, hk, rfl⟩, c2⟩
 ·rintro why h1 ⟨hb, rfl⟩ c1
  exact ⟨_, rfl, .inl ⟨hb, rfl⟩, c1⟩
def fitsE (key : ByteArray) (items : Int) (d : Eff) : Prop := items ≤ 65536 ∧ key.size ≤ 1048576 ∧ d.name.size ≤ 1048576 ∧ d.text.size ≤ 1048576
def putL (S : Space) (key : ByteArray) (now : Int) (L : List Eff) (d : Eff) : List Eff := (if L = [] then dropsS S key now else L) ++ [{ d with key := key }]
theorem take9_calls (d : Eff) (x : As h0 h (cE ab kb now av key t is pv lw rv lv L)) (hL : L.length ≤ 1000000) : CallsH Tryz.prog 233 [ptr ab, .agg ⟨encD d⟩] h
  (Sub9 h0 h (cE ab kb now av key t is pv lw rv lv L) (fun _ e' => ∃ lv', e' = cE ab kb now av key t is pv lw rv lv' (L ++ [{ d with key := key }])) (fun _ => False)) := by
 obtain ⟨la, lc, rfl⟩ := x.st.cform 0 rfl
 obtain ⟨op, k0, nm, tx, nn⟩ := d
 refine f233_calls (by simp) ?_
 intro b4 h1 g1
 have w : St (cE ab kb now av key t is pv lw rv (.slice la L.length lc) L).fp h h1 [.b b4 [.int .i64 op, .string k0, .string nm, .string tx, .int .i64 nn], cE ab kb now av key t is pv lw rv (.slice la L.length lc) L] := x.st.new g1
 refine w.ldc 1 rfl rfl ?_
 refine w.st1 0 rfl rfl rfl rfl fun h2 w => ?_
 refine w.ldc 1 rfl rfl ?_
 refine w.ldw 0 rfl rfl ?_
 intro b5 h3 g3
 have w := w.new g3
 refine w.capp 2 rfl rfl (one_sl (e := ⟨op, key, nm, tx, nn⟩) (w.get 0 rfl)) (by simp; omega) fun a3 c3 h4 hst => ?_
 refine hst fun h5 w => ?_
 exact ⟨_, ⟨_, rfl⟩, x.out w 2 rfl⟩
theorem put9_calls (p : P9 h0 kb sb mb c m S av A) (d : Eff) (x : As h0 h (cE ab kb now av key t is pv lw rv lv L)) (hL : L.length ≤ 1000000) (hk : key.size < 4611686018427387904) (hn : d.name.size < 4611686018427387904) (ht : d.text.size < 4611686018427387904) :
  CallsH Tryz.prog 155 [ptr ab, .agg ⟨encD d⟩, .int .i64 items] h
  (Sub9 h0 h (cE ab kb now av key t is pv lw rv lv L) (fun _ e' => fitsE key items d ∧ ∃ lv', e' = cE ab kb now av key t is pv lw rv lv' (putL S key now L d)) (fun why => ¬ fitsE key items d ∧ why = wLong)) := by
 obtain ⟨la, lc, rfl⟩ := x.st.cform 0 rfl
 obtain ⟨op, k0, nm, tx, nn⟩ := d
 have hn : nm.size < 4611686018427387904 := hn
 have ht : tx.size < 4611686018427387904 := ht
 refine f155_calls (by simp) ?_
 intro b4 h1 g1
 have w : St (cE ab kb now av key t is pv lw rv (.slice la L.length lc) L).fp h h1 [.b b4 [.int .i64 op, .string k0, .string nm, .string tx, .int .i64 nn], cE ab kb now av key t is pv lw rv (.slice la L.length lc) L] := x.st.new g1
 have bad : ∀ {h' : Heap}, ¬ fitsE key items ⟨op, k0, nm, tx, nn⟩ → Chg (cE ab kb now av key t is pv lw rv (.slice la L.length lc) L).fp h h' → ∃ why, stop9 wLong = stop9 why ∧ (¬ fitsE key items ⟨op, k0, nm, tx, nn⟩ ∧ why = wLong) ∧ Chg (cE ab kb now av key t is pv lw rv (.slice la L.length lc) L).fp h h' :=
  fun hh hc => ⟨_, rfl, ⟨hh, rfl⟩, hc⟩
 refine Ai rfl (Ai (fun q1 => ?_) (fun q1 => ?_))
 rotate_left
 ·exact must9_no (bad (fun hh => q1 hh.1) w.chg)
 refine w.ldc 1 rfl rfl ?_
 refine Ai rfl (Ai (fun q2 => ?_) (fun q2 => ?_))
 rotate_left
 ·exact must9_no (bad (fun hh => by have := hh.2.1; omega) w.chg)
 refine w.ld1 0 rfl rfl ?_
 refine Ai rfl (Ai (fun q3 => ?_) (fun q3 => ?_))
 rotate_left
 ·exact must9_no (bad (fun hh => by have : nm.size ≤ 1048576 := hh.2.2.1; omega) w.chg)
 refine w.ld1 0 rfl rfl ?_
 refine Ai rfl (Ai (fun q4 => ?_) (fun q4 => ?_))
 rotate_left
 ·exact must9_no (bad (fun hh => by have : tx.size ≤ 1048576 := hh.2.2.2; omega) w.chg)
 have fit : fitsE key items ⟨op, k0, nm, tx, nn⟩ := ⟨q1, by omega, by show nm.size ≤ _; omega, by show tx.size ≤ _; omega⟩
 refine must9_yes fun _ => ?_
 have rest : ∀ {h' : Heap} {la2 : Option Addr} {lc2 : Nat} {L2 : List Eff} {M' : List En}, L2 ++ [⟨op, key, nm, tx, nn⟩] = putL S key now L ⟨op, k0, nm, tx, nn⟩ → L2.length ≤ 1000001 →
   St (cE ab kb now av key t is pv lw rv (.slice la L.length lc) L).fp h h' (.b b4 [.int .i64 op, .string k0, .string nm, .string tx, .int .i64 nn] :: cE ab kb now av key t is pv lw rv (.slice la2 L2.length lc2) L2 :: M') →
   swp Tryz.prog (.seq (.ops f155r4) (.ops f155r5)) (retQ [] (Sub9 h0 h (cE ab kb now av key t is pv lw rv (.slice la L.length lc) L) (fun _ e' => fitsE key items ⟨op, k0, nm, tx, nn⟩ ∧ ∃ lv', e' = cE ab kb now av key t is pv lw rv lv' (putL S key now L ⟨op, k0, nm, tx, nn⟩)) (fun why => ¬ fitsE key items ⟨op, k0, nm, tx, nn⟩ ∧ why = wLong)))
    (mk [(0, ptr ab), (4, ptr b4)]) [] h' := by
  intro h' la2 lc2 L2 M' he hl2 w
  refine w.ldc 1 rfl rfl ?_
  refine w.st1 0 rfl rfl rfl rfl fun h2 w => ?_
  refine w.ldc 1 rfl rfl ?_
  refine w.ldw 0 rfl rfl ?_
  intro b5 h3 g3
  have w := w.new g3
  refine w.capp 2 rfl rfl (one_sl (e := ⟨op, key, nm, tx, nn⟩) (w.get 0 rfl)) (by simp; omega) fun a3 c3 h4 hst => ?_
  refine hst fun h5 w => ?_
  exact ⟨_, ⟨fit, _, by rw [← he]⟩, x.out w 2 rfl⟩
 refine w.ldc 1 rfl rfl ?_
 refine Ai rfl (Ai (fun q5 => ?_) (fun q5 => ?_))
 ·have q5 : L = [] := List.eq_nil_of_length_eq_zero (by omega)
  refine w.ldc 1 rfl rfl ?_
  refine w.ldc 1 rfl rfl ?_
  refine w.ldc 1 rfl rfl ?_
  refine call_ret (BDrops_calls key now (p.kr.ext (x.base w)) p.so) ?_
  rintro _ h2 ⟨od, hbd, c2⟩
  obtain ⟨da, dc, rfl, _⟩ := od.sl.form
  have w := w.add (e := .o encD 5 (.slice da (dropsS S key now).length dc) (dropsS S key now)) c2 od hbd
  refine w.clist 2 0 rfl rfl (by decide) fun h3 w => ?_
  have w := w.pick [1, 2] (by decide)
  exact cut_at [(0, ptr ab), (4, ptr b4)] ⟨rfl, rfl, trivial⟩ (rest (M' := []) (by unfold putL; rw [if_pos q5]) (by have := drops_len S key now; omega) w)
 ·have q5 : L ≠ [] := fun e => q5 (by rw [e]; rfl)
  exact cut_at [(0, ptr ab), (4, ptr b4)] ⟨rfl, rfl, trivial⟩ (rest (M' := []) (by unfold putL; rw [if_neg q5]) (by omega) w)
end
end Go.Proofs.YtjnijlnmbjjgpaaGreatDoor
namespace Go.Proofs.YtjnijlnmbjjgpaaGreatDoor
open Go Go.Sx C
section
variable {h0 h : Heap} {ab kb sb mb c : Nat} {now n : Int} {av lv : Value} {A : List ByteArray} {m : List KI} {S : Space} {key s a : ByteArray} {t : Thing} {go : Option Thing} {q : Rep} {E : List Eff}
end
end Go.Proofs.YtjnijlnmbjjgpaaGreatDoor
namespace Go.Proofs.YtjnijlnmbjjgpaaGreatDoor
open Go Go.Sx C
section
variable {h0 h : Heap} {ab kb sb mb c : Nat} {now n : Int} {av lv : Value} {A : List ByteArray} {m : List KI} {S : Space}
end
structure CM (es : List MapEntry) (pre : List ByteArray) : Prop where
 fits : ∀ e ∈ es, fits .str e.key = true
 cnt : ∀ k, (mfind (.string k) es 0 = none ∧ k ∉ pre) ∨ (∃ i, mfind (.string k) es 0 = some (i, .int .i64 (cntB k pre)) ∧ k ∈ pre)
theorem CM.nil : CM [] [] := ⟨by simp, fun k => .inl ⟨rfl, by simp⟩⟩
theorem key_same {e : MapEntry} {k : ByteArray} (hf : fits .str e.key = true) : Instr.sameBits 10000 (.string k) e.key = true ↔ e.key = .string k := by
 constructor
 ·intro hs; exact (sameBits_eq (k := .str) (by rfl) hf hs).symm
 ·intro e; rw [e]; exact sameBits_refl (k := .str) rfl
theorem mfind_app {k k' : ByteArray} {v : Value} {c : Nat} : ∀ {es : List MapEntry} {i : Nat}, (∀ e ∈ es, fits .str e.key = true) → mfind (.string k) es i = none →
  mfind (.string k') (es ++ [{ key := .string k, val := v, born := c }]) i = (if k' = k then some (i + es.length, v) else mfind (.string k') es i)
 |[], i, _, _ => by
  simp only [List.nil_append, mfind]
  by_cases h : k' = k
  ·rw [if_pos h, if_pos (by rw [h]; exact sameBits_refl (k := .str) rfl)]; rfl
  ·rw [if_neg h, if_neg]
   intro hs
   have := sameBits_eq (k := .str) (by rfl) (by rfl) hs
   simp at this
   exact h this
 |e :: es, i, hf, hn => by
  have hfe := hf e (by simp)
  simp only [mfind] at hn
  split at hn
  ·cases hn
  ·rename_i hne
   have ih := mfind_app (k := k) (k' := k') (v := v) (c := c) (es := es) (i := i + 1) (fun e he => hf e (by simp [he])) hn
   simp only [List.cons_append, mfind]
   rw [ih]
   by_cases h : k' = k
   ·rw [if_pos h, if_pos h, h, if_neg hne]
    simp only [List.length_cons]
    congr 2; omega
   ·rw [if_neg h, if_neg h]
theorem mfind_mod {k k' : ByteArray} {v u : Value} : ∀ {es : List MapEntry} {i j : Nat}, (∀ e ∈ es, fits .str e.key = true) → mfind (.string k) es i = some (i + j, u) →
  (k' = k → mfind (.string k') (es.modify j fun e => { e with val := v }) i = some (i + j, v)) ∧ (k' ≠ k → mfind (.string k') (es.modify j fun e => { e with val := v }) i = mfind (.string k') es i)
 |[], i, j, _, h => by simp [mfind] at h
 |e :: es, i, j, hf, h => by
  have hfe := hf e (by simp)
  simp only [mfind] at h
  split at h
  ·rename_i hs
   simp at h
   have hj : j = 0 := by omega
   subst hj
   have hk := (key_same hfe).1 hs
   simp only [List.modify_zero_cons, mfind]
   refine ⟨fun e1 => ?_, fun hne => ?_⟩
   ·rw [e1, if_pos hs]; rfl
   ·have : ¬ (Instr.sameBits 10000 (.string k') e.key = true) := fun h2 => by
     have := (key_same hfe).1 h2
     rw [hk] at this
     simp at this
     exact hne this.symm
    rw [if_neg this, if_neg this]
  ·rename_i hs
   cases j with
   |zero =>
    exfalso
    have : ∀ {es : List MapEntry} {i p : Nat} {u : Value}, mfind (.string k) es i = some (p, u) → i ≤ p := by
     intro es
     induction es with
     |nil => intro i p u h; simp [mfind] at h
     |cons e es ih =>
      intro i p u h
      simp only [mfind] at h
      split at h
      ·simp at h; omega
      ·have := ih h; omega
    have := this h
    omega
   |succ j =>
    have h : mfind (.string k) es (i + 1) = some (i + 1 + j, u) := by rw [h]; congr 2; omega
    obtain ⟨m1, m2⟩ := mfind_mod (k := k) (k' := k') (v := v) (fun e he => hf e (by simp [he])) h
    simp only [List.modify_succ_cons, mfind]
    refine ⟨fun e1 => ?_, fun hne => ?_⟩
    ·rw [m1 e1, e1, if_neg hs]; congr 2; omega
    ·rw [m2 hne]
theorem CM.put0 {es : List MapEntry} {pre : List ByteArray} (x : CM es pre) {k : ByteArray} {c : Nat} {n : Int} (h1 : mfind (.string k) es 0 = none) (h2 : k ∉ pre) (hn : n = 1) :
  CM (es ++ [{ key := .string k, val := .int .i64 n, born := c }]) (pre ++ [k]) := by
 have h0 : cntB k pre = 0 := cntB_zero h2
 refine ⟨fun e he => ?_, fun k' => ?_⟩
 ·rcases List.mem_append.1 he with he | he
  ·exact x.fits e he
  ·rw [List.mem_singleton.1 he]; rfl
 ·rw [mfind_app x.fits h1, cntB_snoc]
  by_cases hk : k' = k
  ·rw [if_pos hk, if_pos hk]
   refine .inr ⟨0 + es.length, ?_, by simp [hk]⟩
   rw [hk, h0, hn]; rfl
  ·rw [if_neg hk, if_neg hk]
   rcases x.cnt k' with ⟨h3, h4⟩ | ⟨j, h3, h4⟩
   ·exact .inl ⟨h3, by simp [h4, hk]⟩
   ·exact .inr ⟨j, by simpa using h3, by simp [h4]⟩
theorem CM.put1 {es : List MapEntry} {pre : List ByteArray} (x : CM es pre) {k : ByteArray} {i : Nat} {n : Int} (h1 : mfind (.string k) es 0 = some (i, .int .i64 (cntB k pre))) (hn : n = cntB k pre + 1) :
  CM (es.modify i fun e => { e with val := .int .i64 n }) (pre ++ [k]) := by
 have h1' : mfind (.string k) es 0 = some (0 + i, .int .i64 (cntB k pre)) := by rw [h1]; simp
 refine ⟨fun e he => ?_, fun k' => ?_⟩
 ·obtain ⟨j, hj⟩ := List.getElem?_of_mem he
  rw [List.getElem?_modify] at hj
  obtain ⟨e0, he0, rfl⟩ := Option.map_eq_some_iff.1 hj
  have := x.fits e0 (List.mem_of_getElem? he0)
  split <;> exact this
 ·obtain ⟨m1, m2⟩ := mfind_mod (k' := k') (v := .int .i64 n) x.fits h1'
  rw [cntB_snoc]
  by_cases hk : k' = k
  ·rw [if_pos hk]
   refine .inr ⟨0 + i, ?_, by simp [hk]⟩
   rw [m1 hk, hk, hn]; rfl
  ·rw [if_neg hk]
   rw [m2 hk]
   rcases x.cnt k' with ⟨h3, h4⟩ | ⟨j, h3, h4⟩
   ·exact .inl ⟨h3, by simp [h4, hk]⟩
   ·exact .inr ⟨j, by simpa using h3, by simp [h4]⟩
theorem CM.hit {es : List MapEntry} {pre : List ByteArray} {k : ByteArray} (x : CM es (pre ++ [k])) : ∃ i, mfind (.string k) es 0 = some (i, .int .i64 (cntB k pre + 1 : Nat)) := by
 rcases x.cnt k with ⟨_, h2⟩ | ⟨i, h1, _⟩
 ·exact absurd (by simp) h2
 ·rw [cntB_snoc, if_pos rfl] at h1
  exact ⟨i, h1⟩
end Go.Proofs.YtjnijlnmbjjgpaaGreatDoor
namespace Go.Proofs.YtjnijlnmbjjgpaaGreatDoor
open Go Go.Sx C
section
variable {h0 h h' : Heap} {ab kb sb mb c b2 : Nat} {now n : Int} {av lv v : Value} {A : List ByteArray} {m : List KI} {S : Space} {M : List En} {E : List Eff} {res : Except ByteArray (Rep × List Eff)} {ls : List (Int × Int × ByteArray)}
theorem _root_.Go.Sx.St.empty {T : List Nat} {α : Type} {enc : α → List Value} {size : Nat} (w : St T h0 h M) : St T h0 h (.o enc size (.slice none 0 0) ([] : List α) :: M) :=
 w.add (e := .o enc size (.slice none 0 0) ([] : List α)) (Chg.refl _) OL.nil (fun b hb => (nomatch (show b ∈ ([] : List Nat) from hb)))
end
end Go.Proofs.YtjnijlnmbjjgpaaGreatDoor
namespace Go.Proofs.YtjnijlnmbjjgpaaGreatDoor
open Go Go.Sx C
def toQ (s : ByteArray) : Int × Int × ByteArray := (4, 0, s)
def qs (l : List ByteArray) : List (Int × Int × ByteArray) := l.map toQ
theorem text9_calls {h : Heap} {s : ByteArray} : CallsH Tryz.prog 158 [.string s] h (Ret fun r h' => r = repV 4 0 s ∧ Chg [] h h') := by
 refine f158_calls (by simp) ?_
 intro b h1 g1
 refine Ei _ (Ai g1.blk (Ai (by decide) (Ai rfl (Ai (repV_ones 4 0 s) ?_))))
 intro h2 p2
 have g2 := g1.put p2
 exact ⟨_, rfl, cells_blk g2.blk, rfl, g2.chg⟩
theorem number9_calls {h : Heap} {n : Int} : CallsH Tryz.prog 156 [.int .i64 n] h (Ret fun r h' => r = repV 3 n noText ∧ Chg [] h h') := by
 refine f156_calls (by simp) ?_
 intro b h1 g1
 refine Ei _ (Ai g1.blk (Ai (by decide) (Ai rfl (Ai (repV_ones 3 n noText) ?_))))
 intro h2 p2
 have g2 := g1.put p2
 exact ⟨_, rfl, cells_blk g2.blk, rfl, g2.chg⟩
def ListAt (z : Nat) (h : Heap) (v : Value) (l : List (Int × Int × ByteArray)) : Prop := ∃ a n c, v = .agg ⟨[.int .i64 5, .int .i64 0, .string noText, .slice a n c]⟩ ∧ OL encQ 4 h (.slice a n c) l ∧ ∀ b ∈ ablk a, z ≤ b
def EachR (h : Heap) (ss : List ByteArray) (r : Value) (h' : Heap) : Prop := ∃ b, r = .slice (some ⟨b, 0, none⟩) ss.length ss.length ∧ Blk h' b (ss.map .string) ∧ h.size ≤ b ∧ Chg [] h h'
theorem one9_calls {h : Heap} {s : ByteArray} : CallsH Tryz.prog 171 [.string s] h (Ret (EachR h [s])) := by
 refine f171_calls (by simp) ?_
 intro b h1 g1
 exact ⟨b, rfl, g1.blk, by have := g1.id; omega, g1.chg⟩
theorem ix9 {h : Heap} {b n j : Nat} {i : Int} {us : List Value} {v : Value} {K : Value → Prop} (hB : Blk h b us) (e : i = j) (hn : j < n) (hs : us[j]? = some v) (k : K v) : 0 ≤ i ∧ i < (n : Int) ∧ ∃ v, cell h b (0 + i.toNat * 1) = some v ∧ K v := by
 subst e
 refine ⟨by omega, by omega, v, ?_, k⟩
 have := cell_blk hB hs
 simpa using this
theorem flat_len {α : Type} {f : α → List ByteArray} (hf : ∀ x, (f x).length ≤ 2) : ∀ l : List α, (l.flatMap f).length ≤ 2 * l.length
 |[] => by simp
 |x :: l => by
  have h1 := hf x
  have h2 := flat_len hf l
  rw [List.flatMap_cons, List.length_append, List.length_cons]
  omega
theorem flat_take {α : Type} {f : α → List ByteArray} {l : List α} {q : Nat} (hq : q < l.length) : (l.take (q + 1)).flatMap f = (l.take q).flatMap f ++ f l[q] := by
 rw [List.take_succ_eq_append_getElem hq, List.flatMap_append]; simp
theorem qs_snoc {pre ss : List ByteArray} {j : Nat} (hj : j < ss.length) : qs (pre ++ ss.take (j + 1)) = qs (pre ++ ss.take j) ++ [(4, 0, ss[j])] := by
 rw [List.take_succ_eq_append_getElem hj, ← List.append_assoc]
 unfold qs
 rw [List.map_append (l₁ := pre ++ ss.take j)]; rfl
theorem listStr_calls {h : Heap} {v : Value} {l : List ByteArray} (hs : SL encS h v l) (hl : l.length ≤ 100000) :
  CallsH Tryz.prog 170 [v, .func (.func 171) #[] #[]] h (Ret fun r h' => ListAt h.size h' r (qs (l.flatMap (fun s : ByteArray => [s]))) ∧ Chg [] h h') := by
 obtain ⟨a, cc, rfl, _⟩ := hs.form
 have two : ∀ x : ByteArray, ((fun s : ByteArray => [s]) x).length ≤ 2 := fun x => by simp
 refine f170_calls (by simp) ?_
 intro b4 h1 g1
 have w := (St.start h).new g1
 intro b5 h2 g2
 have w := w.new g2
 refine w.st1 0 rfl rfl rfl rfl fun h3 w => ?_
 have w := w.empty (enc := encQ) (size := 4)
 refine loop_intro (fun q : Nat × Value => [(1, .func (.func 171) #[] #[]), (4, ptr b4), (5, ptr b5), (11, .slice a l.length cc), (12, .int .i64 l.length), (13, .int .i64 q.1)])
  (fun q h' => q.1 ≤ l.length ∧ St [] h h' [.o encQ 4 q.2 (qs ((l.take q.1).flatMap (fun s : ByteArray => [s]))), .b b5 [.int .i64 5, .int .i64 0, .string noText, q.2], .b b4 [.int .i64 0, .int .i64 0, .string ⟨#[]⟩, .slice none 0 0]])
  (fun q => l.length - q.1) (0, .slice none 0 0) ⟨rfl, rfl, rfl, rfl, rfl, rfl, trivial⟩ ⟨Nat.zero_le _, w⟩ ?_
 rintro ⟨q, v⟩ h4 ⟨hq, w⟩
 have hq : q ≤ l.length := hq
 obtain ⟨a4, c4, rfl, _⟩ := (show OL encQ 4 h4 v (qs ((l.take q).flatMap (fun s : ByteArray => [s]))) from w.get 0 rfl).sl.form
 refine Ai rfl (Ai (fun hlt => ?_) (fun hge => ?_))
 ·have hlt : q < l.length := by omega
  obtain ⟨b, o, rfl⟩ := hs.addr (by omega)
  have hcs := (hs.ext w.chg).cells encS_len (List.getElem?_eq_getElem hlt)
  obtain ⟨ss, hss⟩ : ∃ ss, ss = (fun s : ByteArray => [s]) l[q] := ⟨_, rfl⟩
  obtain ⟨pre, hpe⟩ : ∃ pre, pre = (l.take q).flatMap (fun s : ByteArray => [s]) := ⟨_, rfl⟩
  have hsl : ss.length ≤ 2 := by rw [hss]; exact two _
  have hpre : pre.length ≤ 200000 := by rw [hpe]; have := flat_len two (l.take q); rw [List.length_take] at this; omega
  have e9 : qs ((l.take (q + 1)).flatMap (fun s : ByteArray => [s])) = qs (pre ++ ss.take ss.length) := by rw [flat_take hlt, List.take_length, hpe, hss]
  have ln : (qs ((l.take q).flatMap (fun s : ByteArray => [s]))).length = pre.length := by rw [hpe]; exact List.length_map _
  have e0 : qs ((l.take q).flatMap (fun s : ByteArray => [s])) = qs (pre ++ ss.take 0) := by rw [hpe]; simp
  rw [ln, e0] at w
  refine Ai (by omega) (Ai (by omega) (Ei _ (Ai (hcs 0 _ rfl) ?_)))
  refine call_ret (show CallsH _ _ _ _ (Ret (EachR _ ss)) by rw [hss]; exact one9_calls) ?_
  rintro _ h5 ⟨bx, rfl, Bx, hbx, c5⟩
  have w := w.add (e := .b bx (ss.map .string)) c5 Bx (fun k hk => by simp [En.fp] at hk; omega)
  have w := w
  refine loop_intro (fun p : Nat × Value => [(1, .func (.func 171) #[] #[]), (4, ptr b4), (5, ptr b5), (11, .slice (some ⟨b, o, none⟩) l.length cc), (12, .int .i64 l.length), (13, .int .i64 q), (19, .slice (some ⟨bx, 0, none⟩) ss.length ss.length), (20, .int .i64 ss.length), (21, .int .i64 p.1)])
   (fun p h' => p.1 ≤ ss.length ∧ St [] h h' [.b bx (ss.map .string), .o encQ 4 p.2 (qs (pre ++ ss.take p.1)), .b b5 [.int .i64 5, .int .i64 0, .string noText, p.2], .b b4 [.int .i64 0, .int .i64 0, .string ⟨#[]⟩, .slice none 0 0]])
   (fun p => ss.length - p.1) (0, .slice a4 pre.length c4) ⟨rfl, rfl, rfl, rfl, rfl, rfl, rfl, rfl, rfl, trivial⟩ ⟨Nat.zero_le _, w⟩ ?_
  rintro ⟨j, v⟩ h6 ⟨hj, w⟩
  have hj : j ≤ ss.length := hj
  obtain ⟨a6, c6, rfl, _⟩ := (show OL encQ 4 h6 v (qs (pre ++ ss.take j)) from w.get 1 rfl).sl.form
  refine Ai rfl (Ai (fun hlt2 => ?_) (fun hge2 => ?_))
  ·have hlt2 : j < ss.length := by omega
   have hqn : (qs (pre ++ ss.take j)).length ≤ 200002 := by unfold qs; simp; omega
   refine ix9 (w.get 0 rfl) rfl hlt2 (v := .string ss[j]) (by simp [hlt2]) ?_
   refine w.ld1 2 rfl rfl ?_
   refine w.callqv text9_calls fun h7 w => ?_
   intro b9 h8 g8
   have w := w.new g8
   refine w.app 2 rfl encQ_len encQ_one rfl (SL.one encQ_len (x := (4, 0, ss[j])) (w.get 0 rfl)) (by simp only [List.length_singleton]; omega) fun v' h9 w => ?_
   rw [← qs_snoc hlt2] at w
   obtain ⟨a9, c9, rfl, _⟩ := (show OL encQ 4 h9 v' (qs (pre ++ ss.take (j + 1))) from w.get 2 rfl).sl.form
   refine w.st1 3 rfl rfl rfl rfl fun h10 w => ?_
   have w := w.pick [1, 2, 3, 4] (by decide)
   refine Ai rfl (fun z hz => ?_)
   have hz := add_in hz (by omega) (by omega)
   subst hz
   exact Ai rfl (Ei (j + 1, _) (Ai ⟨rfl, rfl, rfl, rfl, rfl, rfl, rfl, rfl, rfl, trivial⟩ (Ai ⟨hlt2, w⟩ (by simp only; omega))))
  ·have hjn : j = ss.length := by omega
   subst hjn
   rw [← e9] at w
   have w := w.pick [1, 2, 3] (by decide)
   refine Ai rfl (fun z hz => ?_)
   have hz := add_in hz (by omega) (by omega)
   subst hz
   exact Ai rfl (Ei (q + 1, _) (Ai ⟨rfl, rfl, rfl, rfl, rfl, rfl, trivial⟩ (Ai ⟨hlt, w⟩ (by simp only; omega))))
 ·have hkl : q = l.length := by omega
  subst hkl
  rw [List.take_length] at w
  refine w.ldw 1 rfl rfl ?_
  refine w.st1 2 rfl rfl rfl rfl fun h7 w => ?_
  refine ⟨_, rfl, cells_blk (w.get 2 rfl), ⟨_, _, _, rfl, (show OL encQ 4 h7 _ (qs (l.flatMap (fun s : ByteArray => [s]))) from w.get 0 rfl), fun b hb => ?_⟩, w.chg⟩
  rcases (w.ents 0 _ rfl).2 b hb with h9 | h9
  ·exact (nomatch h9)
  ·exact h9
theorem place_calls {h : Heap} {n : Nat} {a : Int} (hn : n < 4611686018427387904) (ha : In64 a) : CallsH Tryz.prog 168 [.int .i64 n, .int .i64 a] h (Ret fun r h' => r = .tuple #[.int .i64 ((placeN n a).getD 0 : Nat), .bool (placeN n a).isSome] ∧ h' = h) := by
 obtain ⟨a0, a1⟩ := ha
 refine f168_calls (by simp) ?_
 refine Ai rfl (Ai (fun q1 => ?_) (fun q1 => ?_))
 ·refine Ai rfl ?_
  have mx : max ((n : Int)) 0 = n := by omega
  rw [mx]
  refine Ai rfl (fun z hz => ?_)
  have hz := add_in hz (by omega) (by omega)
  subst hz
  refine Ai rfl (Ai (fun q2 => ?_) (fun q2 => ?_))
  ·have e : placeN n a = none := by unfold placeN; rw [if_pos q1, if_neg (by omega)]
   rw [e]
   exact ⟨rfl, rfl⟩
  ·have e : placeN n a = some (a + n).toNat := by unfold placeN; rw [if_pos q1, if_pos (by omega)]
   rw [e]
   refine Ai rfl (Ai (fun q3 => absurd q3 (by omega)) (fun q3 => ?_))
   refine ⟨?_, rfl⟩
   have : (((a + n).toNat : Nat) : Int) = a + n := by omega
   show Value.tuple #[.int .i64 (a + n), .bool true] = .tuple #[.int .i64 (((a + n).toNat : Nat) : Int), .bool true]
   rw [this]
 ·refine Ai rfl (Ai (fun q2 => absurd q2 q1) (fun _ => ?_))
  refine Ai rfl (Ai (fun q3 => ?_) (fun q3 => ?_))
  ·have e : placeN n a = none := by unfold placeN; rw [if_neg q1, if_neg (by omega)]
   rw [e]
   exact ⟨rfl, rfl⟩
  ·have e : placeN n a = some a.toNat := by unfold placeN; rw [if_neg q1, if_pos (by omega)]
   rw [e]
   refine ⟨?_, rfl⟩
   have : ((a.toNat : Nat) : Int) = a := by omega
   show Value.tuple #[.int .i64 a, .bool true] = .tuple #[.int .i64 ((a.toNat : Nat) : Int), .bool true]
   rw [this]
theorem span_calls {h : Heap} {n : Nat} {a b : Int} (hn : n < 4611686018427387904) (ha : In64 a) (hb : In64 b) : CallsH Tryz.prog 169 [.int .i64 n, .int .i64 a, .int .i64 b] h (Ret fun r h' => r = .tuple #[.int .i64 ((spanN n a b).1 : Nat), .int .i64 ((spanN n a b).2 : Nat)] ∧ h' = h) := by
 obtain ⟨a0, a1⟩ := ha
 obtain ⟨b0, b1⟩ := hb
 refine f169_calls (by simp) ?_
 refine Ai rfl (Ai (fun q1 => ?_) (fun q1 => ?_))
 ·have e : spanN n a b = (0, 0) := by unfold spanN; rw [if_pos (.inl (by omega))]
  rw [e]
  exact ⟨rfl, rfl⟩
 have last : ∀ {b2 : Int}, b2 = (if b < 0 then b + n else b) → -9223372036854775808 ≤ b2 → b2 ≤ 9223372036854775807 → swp Tryz.prog (.seq (.ops f169r8) (.seq (.seq (.ops f169r9) (.cond (.tmp 29) (.seq (.ops f169r10) .ret) .skip)) (.seq (.ops f169r11) .ret)))
   (retQ [.t 6, .t 7] (Ret fun r h' => r = .tuple #[.int .i64 ((spanN n a b).1 : Nat), .int .i64 ((spanN n a b).2 : Nat)] ∧ h' = h)) (mk [(0, .int .i64 n), (1, .int .i64 (spanA n a)), (2, .int .i64 b2), (8, .int .i64 n)]) [] h := by
  intro b2 hb2 r0 r1
  have hA : 0 ≤ spanA n a ∧ spanA n a ≤ 9223372036854775807 := by unfold spanA; split <;> omega
  refine Ai rfl (fun z hz => ?_)
  have hz : z = (n : Int) - 1 := hz.trans (wrap_in (by omega) (by omega))
  subst hz
  refine Ai rfl ?_
  have hB : min b2 ((n : Int) - 1) = spanB n b := by unfold spanB; rw [← hb2]
  rw [hB]
  have hBr : spanB n b ≤ (n : Int) - 1 := by unfold spanB; exact Int.min_le_right _ _
  refine Ai rfl (Ai (fun q2 => ?_) (fun q2 => ?_))
  ·have e : spanN n a b = (0, 0) := by unfold spanN; rw [if_pos (.inr q2)]
   rw [e]
   exact ⟨rfl, rfl⟩
  ·have e : spanN n a b = ((spanA n a).toNat, (spanB n b).toNat + 1) := by unfold spanN; rw [if_neg (fun hh => by rcases hh with hh | hh; exact q1 (by omega); exact q2 hh)]
   rw [e]
   refine Ai rfl (fun z hz => ?_)
   have hz : z = spanB n b + 1 := hz.trans (wrap_in (by omega) (by omega))
   subst hz
   refine ⟨?_, rfl⟩
   have e1 : (((spanA n a).toNat : Nat) : Int) = spanA n a := by omega
   have e2 : ((((spanB n b).toNat + 1 : Nat)) : Int) = spanB n b + 1 := by omega
   show Value.tuple #[.int .i64 (spanA n a), .int .i64 (spanB n b + 1)] = .tuple #[.int .i64 (((spanA n a).toNat : Nat) : Int), .int .i64 (((spanB n b).toNat + 1 : Nat) : Int)]
   rw [e1, e2]
 have mid : swp Tryz.prog (.seq (.seq (.ops f169r6) (.cond (.tmp 19) (.ops f169r7) .skip)) (.seq (.ops f169r8) (.seq (.seq (.ops f169r9) (.cond (.tmp 29) (.seq (.ops f169r10) .ret) .skip)) (.seq (.ops f169r11) .ret))))
   (retQ [.t 6, .t 7] (Ret fun r h' => r = .tuple #[.int .i64 ((spanN n a b).1 : Nat), .int .i64 ((spanN n a b).2 : Nat)] ∧ h' = h)) (mk [(0, .int .i64 n), (1, .int .i64 (spanA n a)), (2, .int .i64 b), (8, .int .i64 n)]) [] h := by
  refine Ai rfl (Ai (fun q2 => ?_) (fun q2 => ?_))
  ·refine Ai rfl (fun z hz => ?_)
   have hz : z = b + n := hz.trans (wrap_in (by omega) (by omega))
   subst hz
   exact cut_at [(0, .int .i64 n), (1, .int .i64 (spanA n a)), (2, .int .i64 (b + n)), (8, .int .i64 n)] ⟨rfl, rfl, rfl, rfl, trivial⟩ (last (by rw [if_pos q2]) (by omega) (by omega))
  ·exact cut_at [(0, .int .i64 n), (1, .int .i64 (spanA n a)), (2, .int .i64 b), (8, .int .i64 n)] ⟨rfl, rfl, rfl, rfl, trivial⟩ (last (by rw [if_neg q2]) (by omega) (by omega))
 refine Ai rfl (Ai (fun q2 => ?_) (fun q2 => ?_))
 ·refine Ai rfl (fun z hz => ?_)
  have hz : z = a + n := hz.trans (wrap_in (by omega) (by omega))
  subst hz
  refine Ai rfl ?_
  have hA : max 0 (a + (n : Int)) = spanA n a := by unfold spanA; rw [if_pos q2]
  rw [hA]
  exact cut_at [(0, .int .i64 n), (1, .int .i64 (spanA n a)), (2, .int .i64 b), (8, .int .i64 n)] ⟨rfl, rfl, rfl, rfl, trivial⟩ mid
 ·have hA : a = spanA n a := by unfold spanA; rw [if_neg q2]
  have e1 : (mk [(0, Value.int .i64 n), (1, .int .i64 (spanA n a)), (2, .int .i64 b), (8, .int .i64 n)]) = mk [(0, .int .i64 n), (1, .int .i64 a), (2, .int .i64 b), (8, .int .i64 n)] := by rw [← hA]
  exact cut_at [(0, .int .i64 n), (1, .int .i64 a), (2, .int .i64 b), (8, .int .i64 n)] ⟨rfl, rfl, rfl, rfl, trivial⟩ (by rw [← e1]; exact mid)
theorem cellWW {h : Heap} {b o : Nat} {l : List Value} {v : Value} (hb : BlkW h b l) (hv : l[o]? = some v) : cell h b o = some v := by
 obtain ⟨e, k, x, _⟩ := hb
 simp [cell, x, hv]
def upB (c : UInt8) : UInt8 := if 97 ≤ c.toNat ∧ c.toNat ≤ 122 then UInt8.ofNat (c.toNat - 32) else c
def up (s : ByteArray) : ByteArray := ⟨⟨s.data.toList.map upB⟩⟩
def cellB (l : List UInt8) : List Value := l.map fun b => .int .u8 b.toNat
def upTo (bs : List UInt8) (q : Nat) : List UInt8 := (bs.take q).map upB ++ bs.drop q
theorem cellB_len (l : List UInt8) : (cellB l).length = l.length := by simp [cellB]
theorem upTo_len (bs : List UInt8) (q : Nat) : (upTo bs q).length = bs.length := by simp [upTo]; omega
theorem upTo_all (bs : List UInt8) : upTo bs bs.length = bs.map upB := by simp [upTo]
theorem upTo_zero (bs : List UInt8) : upTo bs 0 = bs := by simp [upTo]
theorem upTo_at {bs : List UInt8} {q : Nat} (hq : q < bs.length) : upTo bs q = (bs.take q).map upB ++ (bs[q] :: bs.drop (q + 1)) := by
 rw [upTo, List.drop_eq_getElem_cons hq]
theorem upTo_succ {bs : List UInt8} {q : Nat} (hq : q < bs.length) : upTo bs (q + 1) = (bs.take q).map upB ++ (upB bs[q] :: bs.drop (q + 1)) := by
 rw [upTo, List.take_succ_eq_append_getElem hq, List.map_append, List.append_assoc]; rfl
theorem take_len {bs : List UInt8} {q : Nat} (hq : q < bs.length) : (cellB ((bs.take q).map upB)).length = q := by simp [cellB]; omega
theorem blk_at {bs : List UInt8} {q : Nat} (hq : q < bs.length) (tail : List Value) : cellB (upTo bs q) ++ tail = cellB ((bs.take q).map upB) ++ ([.int .u8 bs[q].toNat] ++ (cellB (bs.drop (q + 1)) ++ tail)) := by
 rw [upTo_at hq]; simp only [cellB, List.map_append, List.map_cons, List.append_assoc, List.cons_append, List.nil_append]
theorem blk_succ {bs : List UInt8} {q : Nat} (hq : q < bs.length) (tail : List Value) : cellB (upTo bs (q + 1)) ++ tail = cellB ((bs.take q).map upB) ++ ([.int .u8 (upB bs[q]).toNat] ++ (cellB (bs.drop (q + 1)) ++ tail)) := by
 rw [upTo_succ hq]; simp only [cellB, List.map_append, List.map_cons, List.append_assoc, List.cons_append, List.nil_append]
theorem cell_q {h : Heap} {b q : Nat} {bs : List UInt8} {tail : List Value} (hb : BlkW h b (cellB (upTo bs q) ++ tail)) (hq : q < bs.length) : cell h b (0 + q * 1) = some (.int .u8 bs[q].toNat) := by
 rw [Nat.zero_add, Nat.mul_one]
 refine cellWW hb ?_
 rw [blk_at hq, List.getElem?_append_right (by rw [take_len hq]; exact Nat.le_refl _), take_len hq]
 simp
theorem put_q {h h' : Heap} {b q : Nat} {bs : List UInt8} {tail : List Value} {z : Int} (hq : q < bs.length) (hz : z = (upB bs[q]).toNat) (hp : PutW h h' b (splice (cellB (upTo bs q) ++ tail) (0 + q * 1) [.int .u8 z])) :
  BlkW h' b (cellB (upTo bs (q + 1)) ++ tail) := by
 have := hp.blk
 rw [Nat.zero_add, Nat.mul_one, blk_at hq] at this
 rw [blk_succ hq, ← hz]
 have e := splice_at (cellB ((bs.take q).map upB)) [.int .u8 bs[q].toNat] (cellB (bs.drop (q + 1)) ++ tail) [.int .u8 z] rfl
 rw [take_len hq] at e
 rwa [e] at this
theorem same_q {bs : List UInt8} {q : Nat} (hq : q < bs.length) (hu : upB bs[q] = bs[q]) : upTo bs (q + 1) = upTo bs q := by
 rw [upTo_succ hq, upTo_at hq, hu]
theorem upB_lo {c : UInt8} (h1 : 97 ≤ (c.toNat : Int)) (h2 : (c.toNat : Int) ≤ 122) : ((upB c).toNat : Int) = c.toNat - 32 := by
 unfold upB
 rw [if_pos ⟨by omega, by omega⟩]
 have : (UInt8.ofNat (c.toNat - 32)).toNat = c.toNat - 32 := by
  rw [UInt8.toNat_ofNat']; omega
 rw [this]; omega
theorem upB_not {c : UInt8} (h : ¬ (97 ≤ (c.toNat : Int) ∧ (c.toNat : Int) ≤ 122)) : upB c = c := by
 unfold upB
 rw [if_neg (fun ⟨a, b⟩ => h ⟨by omega, by omega⟩)]
theorem wrap8 {x : Int} (h0 : 0 ≤ x) (h1 : x < 256) : IntKind.u8.wrap x = x := by
 have e : IntKind.u8.wrap x = x % 256 := by simp [IntKind.wrap, IntKind.bits, IntKind.signed]
 rw [e]; omega
theorem cells_pre {h : Heap} {b : Nat} {l tail : List Value} (hb : BlkW h b (l ++ tail)) : Cells h b 0 l := by
 intro i v hv
 refine cellWW hb ?_
 rw [Nat.zero_add, List.getElem?_append_left (List.getElem?_eq_some_iff.1 hv).1]; exact hv
def ofB (l : List UInt8) : ByteArray := ⟨⟨l⟩⟩
def KeysF (es : List MapEntry) (ks : List (List UInt8)) : Prop := es.map (·.key) = ks.map fun n => .string (ofB n)
theorem KeysF.fits {es : List MapEntry} {ks : List (List UInt8)} (hk : KeysF es ks) : ∀ e ∈ es, fits .str e.key = true := fun e he => by
 have : e.key ∈ es.map (·.key) := List.mem_map_of_mem he
 rw [hk] at this
 obtain ⟨n, _, e1⟩ := List.mem_map.1 this
 rw [← e1]; rfl
theorem KeysF.miss {k : List UInt8} : ∀ {es : List MapEntry} {ks : List (List UInt8)} {i : Nat}, KeysF es ks → k ∉ ks → mfind (.string (ofB k)) es i = none
 |[], ks, i, _, _ => rfl
 |e :: es, [], i, hk, _ => by simp [KeysF] at hk
 |e :: es, n :: ks, i, hk, hn => by
  simp only [KeysF, List.map_cons, List.cons.injEq] at hk
  unfold mfind
  rw [if_neg, KeysF.miss (es := es) (ks := ks) hk.2 (fun h => hn (by simp [h]))]
  intro hs
  have := sameBits_eq (k := .str) (by rfl) (by rw [hk.1]; rfl) hs
  rw [hk.1] at this
  simp [ofB] at this
  exact hn (by simp [this])
theorem none_nil {h : Heap} : CallsH Tryz.prog 42 [.pointer none] h (Ret fun r h' => r = .bool true ∧ h' = h) := by
 refine f42_calls (by simp) ?_
 exact Ai rfl rfl
theorem same_nil {h : Heap} {kb sb mb : Nat} (x : KS h kb sb mb) : CallsH Tryz.prog 37 [ptr kb, .pointer none] h (Ret fun r h' => r = .bool false ∧ h' = h) := by
 refine f37_calls (by simp) ?_
 refine call_ret (none_calls x) ?_
 rintro _ h1 ⟨rfl, e⟩
 have e := e.symm
 subst e
 refine call_ret none_nil ?_
 rintro _ h1 ⟨rfl, e⟩
 have e := e.symm
 subst e
 refine call_ret (none_calls x) ?_
 rintro _ h1 ⟨rfl, e⟩
 have e := e.symm
 subst e
 exact Ai rfl rfl
theorem sl_slc {α : Type} {enc : α → List Value} {size : Nat} {K : Value → Heap → Prop} {h : Heap} {a : Option Addr} {c : Nat} {l : List α} (hsz : ∀ x, (enc x).length = size) (hs : SL enc h (.slice a l.length c) l) {lo hi : Nat} (h0 : lo ≤ hi) (h1 : hi ≤ l.length)
  (hK : ∀ v, (∀ h', SL enc h' (.slice a l.length c) l → SL enc h' v ((l.drop lo).take (hi - lo))) → K v h) : slcR K h size a c (lo : Int) (hi : Int) := by
 have e1 : ((hi : Int) - (lo : Int)).toNat = hi - lo := by omega
 have e2 : ((c : Int) - (lo : Int)).toNat = c - lo := by omega
 have hlc := hs.len.2
 have hlen : ((l.drop lo).take (hi - lo)).length = hi - lo := by simp; omega
 obtain ⟨a', c', he, hc', h2⟩ := id hs
 cases he
 cases a with
 |none =>
  have hz : l.length = 0 := h2
  unfold slcR
  rw [e1, e2]
  refine hK _ fun h' _ => ⟨none, c - lo, by rw [hlen], by rw [hlen]; omega, ?_⟩
  show ((l.drop lo).take (hi - lo)).length = 0
  omega
 |some a =>
  obtain ⟨b, o, sp⟩ := a
  cases sp with
  |none =>
   intro o' ho1 ho2
   rw [e1, e2]
   refine hK _ fun h' hs' => (SL.cut hsz hs' h0 h1 (fun hlt => ?_) (fun hce => ?_))
   ·rw [ho1 (by omega)]; simp
   ·exact ho2 (by omega)
  |some q =>
   have hz : l.length = 0 := h2
   unfold slcR
   rw [e1, e2]
   refine Ai (by omega) (hK _ fun h' _ => ⟨_, c - lo, by rw [hlen], by rw [hlen]; omega, ?_⟩)
   show ((l.drop lo).take (hi - lo)).length = 0
   omega
def DoR (h : Heap) (res : Except ByteArray (Rep × List Eff)) (r : Value) (h' : Heap) : Prop := Chg [] h h' ∧ match res with
 |.ok (q, E) => ∃ v lv, r = .tuple ⟨[v, lv, .bool true]⟩ ∧ RepAt 0 h' v q ∧ SL encD h' lv E ∧ ∀ b ∈ vblk lv, h.size ≤ b
 |.error why => r = .tuple ⟨[repV 2 0 why, .slice none 0 0, .bool true]⟩
abbrev nilV : Value := .slice none 0 0
abbrev c0 (ab kb : Nat) (now : Int) (av : Value) : En := cE ab kb now av noText zeroT false nilV nilV nilV nilV []
def Cmd9 (h0 h : Heap) (ab kb : Nat) (now : Int) (av : Value) (res : Res) : Ending → Heap → Prop :=
 Out9 (fun r h' => ∃ q E key t is pv lw rv lv, res = .ok (q, E) ∧ RepAt h.size h' r q ∧ Tn h0 h (c0 ab kb now av) h' (cE ab kb now av key t is pv lw rv lv E)) (fun why h' => res = .error why ∧ Chg (c0 ab kb now av).fp h h')
structure T9 (t : Thing) : Prop where
 ps : t.pairs.length ≤ 2000
 ls : t.list.length ≤ 2000
 rs : t.ranks.length ≤ 2000
 pt : ∀ p ∈ t.pairs, p.text.size ≤ 2000
 ri : ∀ r ∈ t.ranks, In64 r.score
 rz : ∀ r ∈ t.ranks, r.name.size ≤ 2000
 lz : ∀ x ∈ t.list, x.size ≤ 2000
def S9 (S : Space) : Prop := ∀ p ∈ S, T9 p.2
theorem getS_mem {S : Space} {key : ByteArray} {now : Int} {t : Thing} (h : getS S key now = some t) : (key, t) ∈ S := by
 unfold getS at h
 split at h
 ·rename_i u hu
  split at h
  ·cases h
  ·cases h; exact findS_mem hu
 ·cases h
theorem S9.get {S : Space} (s : S9 S) (key : ByteArray) (now : Int) : T9 ((getS S key now).getD zeroT) := by
 cases hg : getS S key now with
 |none => exact ⟨Nat.zero_le _, Nat.zero_le _, Nat.zero_le _, fun p hp => (nomatch hp), fun r hr => (nomatch hr), fun r hr => (nomatch hr), fun x hx => (nomatch hx)⟩
 |some t => exact s _ (getS_mem hg)
section
variable {h0 h h1 h2 h' : Heap} {ab kb sb mb c b2 : Nat} {now lo hi kd items k n : Int} {av lv pv lw rv : Value} {key s why : ByteArray} {t : Thing} {is : Bool} {A : List ByteArray} {L E : List Eff} {m : List KI} {S : Space} {M : List En} {T : List Nat} {e e' : En} {res : Res} {q : Rep} {ls : List (Int × Int × ByteArray)}
theorem bad9 (he : res = .error why) (hc : Chg (c0 ab kb now av).fp h h') : ∃ w, stop9 why = stop9 w ∧ res = .error w ∧ Chg (c0 ab kb now av).fp h h' := ⟨why, rfl, he, hc⟩
theorem fin9 (x : As h0 h (c0 ab kb now av)) (w : St (c0 ab kb now av).fp h h' M) (i j : Nat) (hi : M[i]? = some (.b b2 [.int .i64 k, .int .i64 n, .string s, .slice none 0 0])) (hj : M[j]? = some (cE ab kb now av key t is pv lw rv lv E)) (he : res = .ok (rep k n s, E)) :
  ∃ vs, vs.length = 4 ∧ Cells h' b2 0 vs ∧ Cmd9 h0 h ab kb now av res (.returned (.agg ⟨vs⟩)) h' :=
 ⟨_, rfl, cells_blk (w.get i hi), rep k n s, E, key, t, is, pv, lw, rv, lv, he, ⟨none, 0, 0, rfl, SL.nil, fun b hb => (nomatch (show b ∈ ([] : List Nat) from hb))⟩, x.out w j hj⟩
theorem finl9 {a : Option Addr} {n c : Nat} (x : As h0 h (c0 ab kb now av)) (w : St (c0 ab kb now av).fp h h' M) (i j l : Nat) (hi : M[i]? = some (.b b2 [.int .i64 5, .int .i64 0, .string noText, .slice a n c])) (hj : M[j]? = some (cE ab kb now av key t is pv lw rv lv E))
  (hl : M[l]? = some (.o encQ 4 (.slice a n c) ls)) (hlb : ∀ b ∈ ablk a, h.size ≤ b) (he : res = .ok (⟨5, 0, noText, ls⟩, E)) : ∃ vs, vs.length = 4 ∧ Cells h' b2 0 vs ∧ Cmd9 h0 h ab kb now av res (.returned (.agg ⟨vs⟩)) h' :=
 ⟨_, rfl, cells_blk (w.get i hi), ⟨5, 0, noText, ls⟩, E, key, t, is, pv, lw, rv, lv, he, ⟨a, n, c, rfl, (show OL encQ 4 h' (.slice a n c) ls from w.get l hl).sl, hlb⟩, x.out w j hj⟩
theorem _root_.Go.Sx.St.thc (w : St T h1 h M) (i : Nat) (hi : M[i]? = some (cE ab kb now av key t is pv lw rv lv L)) : SL encP h pv t.pairs ∧ SL encS h lw t.list ∧ SL encR h rv t.ranks := by
 obtain ⟨_, _, hT, _⟩ := w.get i hi
 obtain ⟨p, l, r, e, h1, h2, h3⟩ := hT
 simp only [cellsT, List.cons.injEq, and_true, true_and] at e
 obtain ⟨rfl, rfl, rfl⟩ := e
 exact ⟨h1, h2, h3⟩
theorem sl_ix {i : Int} {b o n cc : Nat} {l : List ByteArray} {K : Value → Prop} (hs : SL encS h (.slice (some ⟨b, o, none⟩) n cc) l) (j : Nat) (e : i = j) (hj : l[j]? = some s) (hk : K (.string s)) : 0 ≤ i ∧ i < (n : Int) ∧ ∃ v, cell h b (o + i.toNat * 1) = some v ∧ K v := by
 subst e
 have h1 := (List.getElem?_eq_some_iff.1 hj).1
 have hcs := hs.cells encS_len hj
 have hn := hs.len.1
 refine ⟨by omega, by omega, _, ?_, hk⟩
 have := hcs 0 _ rfl
 simpa using this
theorem kindly_ok {kd : Int} {f : Thing → Res} (hk : okK kd (getS S key now) = true) : kindly S now kd key f = f ((getS S key now).getD zeroT) := by
 unfold kindly
 cases hg : getS S key now with
 |none => rfl
 |some t => rw [hg] at hk; exact if_pos (of_decide_eq_true hk)
theorem kindly_no {kd : Int} {f : Thing → Res} (hk : okK kd (getS S key now) = false) : kindly S now kd key f = .error wType := by
 unfold kindly
 cases hg : getS S key now with
 |none => rw [hg] at hk; cases hk
 |some t => rw [hg] at hk; exact if_neg (of_decide_eq_false hk)
def NoB (S : Space) (now : Int) (A : List ByteArray) (lo hi kd : Int) (why : ByteArray) : Prop :=
 (¬ (lo ≤ A.length ∧ (A.length : Int) ≤ hi) ∧ why = wArgs) ∨ (lo ≤ A.length ∧ (A.length : Int) ≤ hi) ∧ ∃ k0, A[0]? = some k0 ∧ okK kd (getS S k0 now) = false ∧ why = wType
theorem NoB.a1 {f : ByteArray → Thing → Res} (h : NoB S now A 1 1 kd why) : arg1 (fun key => kindly S now kd key (f key)) A = .error why := by
 rcases h with ⟨hb, rfl⟩ | ⟨hb, k0, hk0, hk, rfl⟩
 ·exact arg1_bad hb
 ·obtain ⟨k1, rfl⟩ := one_arg hb
  cases hk0
  exact kindly_no hk
theorem NoB.a2 {f : ByteArray → ByteArray → Thing → Res} (h : NoB S now A 2 2 kd why) : arg2 (fun key n => kindly S now kd key (f key n)) A = .error why := by
 rcases h with ⟨hb, rfl⟩ | ⟨hb, k0, hk0, hk, rfl⟩
 ·exact arg2_bad hb
 ·obtain ⟨k1, k2, rfl⟩ := two_arg hb
  cases hk0
  exact kindly_no hk
theorem three_arg {α : Type} {A : List α} (h : (3 : Int) ≤ A.length ∧ (A.length : Int) ≤ 3) : ∃ x y z, A = [x, y, z] := by
 match A, h with
 |[], h => simp at h
 |[x], h => simp at h
 |[x, y], h => simp at h
 |[x, y, z], _ => exact ⟨x, y, z, rfl⟩
 |x :: y :: z :: u :: l, h => simp at h; omega
theorem arg3_bad {f : ByteArray → ByteArray → ByteArray → Res} {A : List ByteArray} (h : ¬ ((3 : Int) ≤ A.length ∧ (A.length : Int) ≤ 3)) : arg3 f A = .error wArgs := by
 match A, h with
 |[], _ => rfl
 |[x], _ => rfl
 |[x, y], _ => rfl
 |[x, y, z], h => exact absurd ⟨by simp, by simp⟩ h
 |x :: y :: z :: u :: l, _ => rfl
theorem mkOk9 {ok : Bool} {r : Rep} (h : items ≤ 65536 ∧ key.size ≤ 1048576 ∧ ok = true) : makes S now key items ok r E = .ok (r, dropsS S key now ++ E) := if_pos h
theorem mkNo9 {ok : Bool} {r : Rep} (h : ¬ (items ≤ 65536 ∧ key.size ≤ 1048576 ∧ ok = true)) : makes S now key items ok r E = .error wLong := if_neg h
def accE (S : Space) (key : ByteArray) (now : Int) (D : List Eff) (q : Nat) : List Eff := if q = 0 then [] else dropsS S key now ++ D.take q
theorem acc_put {D : List Eff} {q : Nat} {d : Eff} (hq : D[q]? = some { d with key := key }) : putL S key now (accE S key now D q) d = accE S key now D (q + 1) := by
 have hl := (List.getElem?_eq_some_iff.1 hq).1
 have hd := (List.getElem?_eq_some_iff.1 hq).2
 unfold putL
 have e1 : accE S key now D (q + 1) = dropsS S key now ++ (D.take q ++ [{ d with key := key }]) := by
  unfold accE
  rw [if_neg (by omega), List.take_succ_eq_append_getElem hl, hd]
 rw [e1]
 by_cases h0 : q = 0
 ·subst h0
  rw [show accE S key now D 0 = [] from if_pos rfl, if_pos rfl]
  simp
 ·have e2 : accE S key now D q = dropsS S key now ++ D.take q := by unfold accE; rw [if_neg h0]
  have hne : dropsS S key now ++ D.take q ≠ [] := by
   intro he
   have : (dropsS S key now ++ D.take q).length = 0 := by rw [he]; rfl
   rw [List.length_append, List.length_take] at this
   omega
  rw [e2, if_neg hne, List.append_assoc]
theorem acc_len (D : List Eff) (q : Nat) (hq : q ≤ D.length) : (accE S key now D q).length ≤ q + 1 := by
 unfold accE
 split
 ·simp
 ·have := drops_len S key now
  simp; omega
theorem acc_all {D : List Eff} (hD : D ≠ []) : accE S key now D D.length = dropsS S key now ++ D := by
 unfold accE
 rw [if_neg (fun h => hD (List.eq_nil_of_length_eq_zero h)), List.take_length]
end
end Go.Proofs.YtjnijlnmbjjgpaaGreatDoor
namespace Go.Proofs.YtjnijlnmbjjgpaaGreatDoor
open Go Go.Sx C
def allS : Space → List Eff → Option Space
 |S, [] => some S
 |S, e :: E => if (fateS S e).num = 0 then allS ((fateS S e).space S e.key) E else none
theorem all_apply : ∀ {E : List Eff} {S S' : Space}, allS S E = some S' → applyS S E = (S', E.length, 0)
 |[], S, S', h => by simp [allS] at h; subst h; rfl
 |e :: E, S, S', h => by
  simp only [allS] at h
  split at h
  ·rename_i hz
   rw [applyS_yes hz, all_apply h]; rfl
  ·cases h
theorem all_append : ∀ {E F : List Eff} {S : Space}, allS S (E ++ F) = (allS S E).bind fun S' => allS S' F
 |[], F, S => rfl
 |e :: E, F, S => by
  simp only [List.cons_append, allS]
  split
  ·exact all_append
  ·rfl
theorem all_one {e : Eff} {S : Space} (h : (fateS S e).num = 0) : allS S [e] = some ((fateS S e).space S e.key) := by simp only [allS]; rw [if_pos h]
section
variable {S : Space} {k s : ByteArray} {t : Thing} {n : Int}
theorem oneF_some {e : Eff} {r : Rule} {full : Bool} (hr : ruleR e.op = some r) (h1 : ¬ ((r.name = false ∧ e.name ≠ noText) ∨ (r.text = false ∧ e.text ≠ noText) ∨ (r.number = false ∧ e.num ≠ 0)))
  (h2 : ¬ (1048576 < e.key.size ∨ 1048576 < e.name.size ∨ 1048576 < e.text.size)) (h3 : ¬ (r.kind ≠ 0 ∧ t.kind ≠ r.kind)) : oneF (some t) e full = endF (doneT t e) true full := by
 unfold oneF
 rw [hr]
 simp only
 rw [if_neg h1, if_neg h2, if_neg h3]
theorem oneF_none {e : Eff} {r : Rule} {full : Bool} (hr : ruleR e.op = some r) (h1 : ¬ ((r.name = false ∧ e.name ≠ noText) ∨ (r.text = false ∧ e.text ≠ noText) ∨ (r.number = false ∧ e.num ≠ 0)))
  (h2 : ¬ (1048576 < e.key.size ∨ 1048576 < e.name.size ∨ 1048576 < e.text.size)) (h3 : ¬ r.makes = false) : oneF none e full = endF (doneT { zeroT with kind := r.kind } e) false full := by
 unfold oneF
 rw [hr]
 simp only
 rw [if_neg h1, if_neg h2, if_neg h3]
end
end Go.Proofs.YtjnijlnmbjjgpaaGreatDoor
namespace Go.Proofs.YtjnijlnmbjjgpaaGreatDoor
open Go Go.Sx C
section
variable {h0 h : Heap} {ab kb sb mb c : Nat} {now n : Int} {av lv : Value} {A : List ByteArray} {m : List KI} {S : Space}
end
end Go.Proofs.YtjnijlnmbjjgpaaGreatDoor
namespace Go.Proofs.YtjnijlnmbjjgpaaGreatDoor
open Go Go.Sx C
section
variable {h0 h h' : Heap} {ab kb sb mb c l D b2 : Nat} {now n : Int} {av lv : Value} {A : List ByteArray} {m : List KI} {S : Space} {T : List Nat} {M : List En} {r : Loop} {st st' : LoopState} {key s W N : ByteArray} {res : Res}
def ltE (p : Nat) : En := .x [p] (fun h => p < h.size) (fun _ _ _ hc _ h1 => Nat.lt_of_lt_of_le h1 hc.size) (fun h h1 b hb => by rw [List.mem_singleton.1 hb]; exact h1)
end
end Go.Proofs.YtjnijlnmbjjgpaaGreatDoor
namespace Go.Proofs.YtjnijlnmbjjgpaaGreatDoor
open Go Go.Sx C
section
variable {S : Space} {now n : Int} {A : List ByteArray} {res : Res} {q r : Rep} {E : List Eff} {k s w : ByteArray} {go : Option Thing}
end
end Go.Proofs.YtjnijlnmbjjgpaaGreatDoor
namespace Go.Proofs.YtjnijlnmbjjgpaaGreatDoor
open Go Go.Sx C
structure FitE (e : Eff) (r : Rule) : Prop where
 rule : ruleR e.op = some r
 name : r.name = false → e.name = noText
 text : r.text = false → e.text = noText
 num : r.number = false → e.num = 0
 key : e.key.size ≤ 1048576
 nsz : e.name.size ≤ 1048576
 tsz : e.text.size ≤ 1048576
section
variable {S : Space} {k n key : ByteArray} {now kd : Int} {t : Thing} {e : Eff} {r : Rule} {E : List Eff}
theorem FitE.h1 (f : FitE e r) : ¬ ((r.name = false ∧ e.name ≠ noText) ∨ (r.text = false ∧ e.text ≠ noText) ∨ (r.number = false ∧ e.num ≠ 0)) := by
 rintro (⟨h, h2⟩ | ⟨h, h2⟩ | ⟨h, h2⟩)
 ·exact h2 (f.name h)
 ·exact h2 (f.text h)
 ·exact h2 (f.num h)
theorem FitE.h2 (f : FitE e r) : ¬ (1048576 < e.key.size ∨ 1048576 < e.name.size ∨ 1048576 < e.text.size) := by
 have := f.key; have := f.nsz; have := f.tsz
 omega
theorem FitE.is (f : FitE e r) {full : Bool} (hk : r.kind ≠ 0 → t.kind = r.kind) : oneF (some t) e full = endF (doneT t e) true full :=
 oneF_some f.rule f.h1 f.h2 (fun h => h.2 (hk h.1))
theorem FitE.makes (f : FitE e r) {full : Bool} (hm : r.makes = true) : oneF none e full = endF (doneT { zeroT with kind := r.kind } e) false full :=
 oneF_none f.rule f.h1 f.h2 (by rw [hm]; decide)
end
section
variable {key n s : ByteArray} {z : Int}
end
end Go.Proofs.YtjnijlnmbjjgpaaGreatDoor
set_option maxRecDepth 100000
namespace Go.Proofs.YtjnijlnmbjjgpaaGreatDoor.C
open Go Go.Sx Go.Sx.S
def f13r0 : LS := [o 0 (.mv (b false))]
def f13r1 : LS := [o 5 (.call 16 []),o 1 (.mv (t 5))]
def f13r2 : LS := [o 7 (.mv (t 1)),o 8 (.bslice [(.string ⟨#[]⟩), (.string ⟨#[]⟩), (.string ⟨#[]⟩)] 3 [(0, 1), (1, 1), (2, 1)] [(.const (.string ⟨#[115, 97, 100, 100]⟩)), (.const (.string ⟨#[97]⟩)), (.const (.string ⟨#[109]⟩))]),o 9 (.call 20 [(t 7), (i 0), (t 8)]),o 6 (.mv (t 9)),o 10 (.ext (t 6) 0),o 11 (.ext (t 6) 1),o 12 (.ext (t 6) 2),o 2 (.new [(.int .i64 0), (.int .i64 0), (.string ⟨#[]⟩), (.slice none 0 0)]),
 q (.st 4 (t 2) (t 10)),o 3 (.mv (t 11)),o 4 (.mv (t 12))]
def f13r3 : LS := [o 13 (.mv (t 4)),o 14 (.mv (t 13)),
 g 15 14 (.fa 0 (t 2)),
 g 16 14 (.ld1 (t 15)),
 g 17 14 (.cmp .eql (t 16) (i 3)),o 18 (.pick (t 14) (t 17) (b false)),o 19 (.mv (t 18)),
 g 20 19 (.fa 1 (t 2)),
 g 21 19 (.ld1 (t 20)),
 g 22 19 (.cmp .eql (t 21) (i 1)),o 23 (.pick (t 19) (t 22) (b false)),o 24 (.mv (t 23)),
 g 25 24 (.mv (t 3)),
 g 26 24 (.len (t 25)),
 g 27 24 (.cmp .eql (t 26) (i 1)),o 28 (.pick (t 24) (t 27) (b false)),o 29 (.mv (t 28)),
 g 30 29 (.mv (t 3)),
 g 31 29 (.ixs 5 (t 30) (i 0)),
 g 32 29 (.fa 0 (t 31)),
 g 33 29 (.ld1 (t 32)),
 g 34 29 (.cmp .eql (t 33) (i 12)),o 35 (.pick (t 29) (t 34) (b false)),o 36 (.mv (t 35)),
 g 37 36 (.mv (t 3)),
 g 38 36 (.ixs 5 (t 37) (i 0)),
 g 39 36 (.fa 2 (t 38)),
 g 40 36 (.ld1 (t 39)),
 g 41 36 (.cmp .eql (t 40) (.const (.string ⟨#[109]⟩))),o 42 (.pick (t 36) (t 41) (b false)),o 0 (.mv (t 42))]
def f13 : SCode := (.seq (.ops f13r0) (.seq (.ops f13r1) (.seq (.ops f13r2) (.seq (.ops f13r3) .ret))))
theorem f13_calls : Sound Tryz.prog 13 43 f13 [.t 0] := sound_of mixed Tryz.func13 rfl (by kernel_rfl) (by kernel_rfl) (by kernel_rfl)
def f20r0 : LS := [o 6 (.new [(.int .i64 0), (.int .i64 0), (.string ⟨#[]⟩), (.slice none 0 0)]),o 7 (.new [(.slice none 0 0)]),o 8 (.mv (b false))]
def f20r1 : LS := [o 11 (.mv (t 2)),o 12 (.len (t 11)),o 13 (.cmp .eql (t 12) (i 0)),o 14 (.mv (t 13)),
 n 15 14 (.mv (t 0)),
 n 16 14 (.call 37 [(t 15), (.const (.pointer none))]),o 17 (.pick (t 14) (b true) (t 16))]
def f20r2 : LS := [o 18 (.build [(.int .i64 0), (.int .i64 0), (.string ⟨#[]⟩), (.slice none 0 0)] [] []),
 q (.st 4 (t 6) (t 18)),
 q (.st 1 (t 7) (.const (.slice none 0 0))),o 8 (.mv (b false))]
def f20r3 : LS := [o 21 (.mv (t 2)),o 22 (.ixs 1 (t 21) (i 0)),o 23 (.ld1 (t 22)),o 20 (.callq 38 []),o 24 (.callq 39 [(t 23)]),o 25 (.look .str .nilFunc true (t 20) (t 24)),o 19 (.mv (t 25)),o 26 (.ext (t 19) 0),o 27 (.ext (t 19) 1),o 9 (.mv (t 26)),o 8 (.mv (t 27))]
def f20r4 : LS := [o 28 (.mv (t 8)),o 29 (.un .not (t 28))]
def f20r5 : LS := [o 30 (.build [(.int .i64 0), (.int .i64 0), (.string ⟨#[]⟩), (.slice none 0 0)] [] []),
 q (.st 4 (t 6) (t 30)),
 q (.st 1 (t 7) (.const (.slice none 0 0))),o 8 (.mv (b false))]
def f20r6 : LS := [o 31 (.fn 40 [] [(t 6), (t 7)])]
def f20r7 : LS := [o 32 (.mv (t 0)),o 33 (.mv (t 1)),o 34 (.mv (t 2)),o 35 (.slc 1 (t 34) (some (i 1)) none),o 36 (.build [(.int .i64 0), (.string ⟨#[]⟩), (.slice none 0 0), (.slice none 0 0), (.slice none 0 0), (.bool false), (.int .i64 0), (.bool false), (.pointer none), (.int .i64 0), (.string ⟨#[]⟩), (.slice none 0 0), (.slice none 0 0)] [(8, 1), (9, 1), (11, 1)] [(t 32), (t 33), (t 35)]),o 37 (.box (t 36)),o 10 (.mv (t 37))]
def f20r8 : LS := [o 38 (.mv (t 9)),o 39 (.mv (t 10)),o 40 (.callv (t 38) [(t 39)]),
 q (.st 4 (t 6) (t 40))]
def f20p9 : LS := [o 41 (.ldn 4 (t 6)),o 42 (.mv (t 10)),o 43 (.nilck (t 42)),o 44 (.fa 12 (t 43))]
def f20r9 : LS := [o 45 (.ld1 (t 44)),
 q (.st 4 (t 6) (t 41)),
 q (.st 1 (t 7) (t 45)),o 8 (.mv (b true))]
def f20s9 : LS := [
 q (.st 4 (t 6) (t 41)),o 45 (.ld1 (t 44)),
 q (.st 1 (t 7) (t 45)),o 8 (.mv (b true))]
def f20 : SCode := (.seq (.ops f20r0) (.seq (.seq (.ops f20r1) (.cond (t 17) (.seq (.ops f20r2) .ret) .skip)) (.seq (.ops f20r3) (.seq (.seq (.ops f20r4) (.cond (t 29) (.seq (.ops f20r5) .ret) .skip)) (.seq (.dfr f20r6 none (t 31) []) (.seq (.ops f20r7) (.seq (.ops f20r8) (.seq (.two f20p9 f20r9 f20s9) .ret))))))))
def f38r0 : LS := [o 0 (.mv (.const (.map none)))]
def f38r1 : LS := [o 1 (.mkm),
 q (.mup .str (t 1) (.const (.string ⟨#[72, 83, 69, 84]⟩)) (u 81)),
 q (.mup .str (t 1) (.const (.string ⟨#[72, 71, 69, 84]⟩)) (u 82)),
 q (.mup .str (t 1) (.const (.string ⟨#[72, 68, 69, 76]⟩)) (u 83)),
 q (.mup .str (t 1) (.const (.string ⟨#[72, 76, 69, 78]⟩)) (u 84)),
 q (.mup .str (t 1) (.const (.string ⟨#[72, 71, 69, 84, 65, 76, 76]⟩)) (u 85)),
 q (.mup .str (t 1) (.const (.string ⟨#[72, 73, 78, 67, 82, 66, 89]⟩)) (u 86)),
 q (.mup .str (t 1) (.const (.string ⟨#[76, 80, 85, 83, 72]⟩)) (u 87)),
 q (.mup .str (t 1) (.const (.string ⟨#[82, 80, 85, 83, 72]⟩)) (u 88)),
 q (.mup .str (t 1) (.const (.string ⟨#[76, 80, 79, 80]⟩)) (u 89)),
 q (.mup .str (t 1) (.const (.string ⟨#[82, 80, 79, 80]⟩)) (u 90)),
 q (.mup .str (t 1) (.const (.string ⟨#[76, 76, 69, 78]⟩)) (u 91)),
 q (.mup .str (t 1) (.const (.string ⟨#[76, 73, 78, 68, 69, 88]⟩)) (u 92)),
 q (.mup .str (t 1) (.const (.string ⟨#[76, 82, 65, 78, 71, 69]⟩)) (u 93)),
 q (.mup .str (t 1) (.const (.string ⟨#[76, 83, 69, 84]⟩)) (u 94)),
 q (.mup .str (t 1) (.const (.string ⟨#[83, 65, 68, 68]⟩)) (u 95)),
 q (.mup .str (t 1) (.const (.string ⟨#[83, 82, 69, 77]⟩)) (u 96)),
 q (.mup .str (t 1) (.const (.string ⟨#[83, 73, 83, 77, 69, 77, 66, 69, 82]⟩)) (u 97)),
 q (.mup .str (t 1) (.const (.string ⟨#[83, 67, 65, 82, 68]⟩)) (u 98)),
 q (.mup .str (t 1) (.const (.string ⟨#[83, 77, 69, 77, 66, 69, 82, 83]⟩)) (u 99)),
 q (.mup .str (t 1) (.const (.string ⟨#[83, 73, 78, 84, 69, 82]⟩)) (u 100)),
 q (.mup .str (t 1) (.const (.string ⟨#[90, 65, 68, 68]⟩)) (u 101)),
 q (.mup .str (t 1) (.const (.string ⟨#[90, 82, 69, 77]⟩)) (u 102)),
 q (.mup .str (t 1) (.const (.string ⟨#[90, 83, 67, 79, 82, 69]⟩)) (u 103)),
 q (.mup .str (t 1) (.const (.string ⟨#[90, 73, 78, 67, 82, 66, 89]⟩)) (u 104)),
 q (.mup .str (t 1) (.const (.string ⟨#[90, 67, 65, 82, 68]⟩)) (u 105)),
 q (.mup .str (t 1) (.const (.string ⟨#[90, 82, 65, 78, 75]⟩)) (u 106)),
 q (.mup .str (t 1) (.const (.string ⟨#[90, 82, 65, 78, 71, 69]⟩)) (u 107)),
 q (.mup .str (t 1) (.const (.string ⟨#[90, 82, 65, 78, 71, 69, 66, 89, 83, 67, 79, 82, 69]⟩)) (u 108)),o 2 (.mv (t 1)),o 0 (.mv (t 2))]
def f38 : SCode := (.seq (.ops f38r0) (.seq (.ops f38r1) .ret))
theorem f38_calls : Sound Tryz.prog 38 3 f38 [.t 0] := sound_of mixed Tryz.func38 rfl (by kernel_rfl) (by kernel_rfl) (by kernel_rfl)
def f39r0 : LS := [o 2 (.mv e)]
def f39r1 : LS := [o 6 (.mv (t 0)),o 7 (.byts (t 6)),o 3 (.mv (t 7))]
def f39r2 : LS := [o 8 (.mv (t 3)),o 9 (.len (t 8)),o 10 (.mv (i 0))]
def f39r3 : LS := [o 11 (.cmp .lss (t 10) (t 9))]
def f39r4 : LS := [o 12 (.mv (t 10)),o 13 (.ixs 1 (t 8) (t 10)),o 14 (.ld1 (t 13)),o 4 (.mv (t 12)),o 5 (.mv (t 14))]
def f39r5 : LS := [o 15 (.mv (t 5)),o 16 (.cmp .geq (t 15) (.const (.int .u8 97))),o 17 (.mv (t 16)),
 g 18 17 (.mv (t 5)),
 g 19 17 (.cmp .leq (t 18) (.const (.int .u8 122))),o 20 (.pick (t 17) (t 19) (b false))]
def f39r6 : LS := [o 21 (.mv (t 3)),o 22 (.mv (t 4)),o 23 (.mv (t 5)),o 24 (.ar .sub (t 23) (.const (.int .u8 97))),o 25 (.ar .add (t 24) (.const (.int .u8 65))),o 26 (.ixs 1 (t 21) (t 22)),
 q (.stb (t 26) (t 25))]
def f39r7 : LS := [o 27 (.ar .add (t 10) (i 1)),o 10 (.mv (t 27))]
def f39l8 : SCode := (.seq (.ops f39r3) (.seq (.cond (t 11) .skip (.exit 0)) (.seq (.block 1 (.seq (.ops f39r4) (.seq (.ops f39r5) (.cond (t 20) (.ops f39r6) .skip)))) (.ops f39r7))))
def f39r9 : LS := [o 28 (.mv (t 3)),o 29 (.bstr (t 28)),o 2 (.mv (t 29))]
def f39 : SCode := (.seq (.ops f39r0) (.seq (.ops f39r1) (.seq (.seq (.ops f39r2) (.block 0 (.loop f39l8))) (.seq (.ops f39r9) .ret))))
theorem f39_calls : Sound Tryz.prog 39 30 f39 [.t 2] := sound_of mixed Tryz.func39 rfl (by kernel_rfl) (by kernel_rfl) (by kernel_rfl)
end Go.Proofs.YtjnijlnmbjjgpaaGreatDoor.C
namespace Go.Proofs.YtjnijlnmbjjgpaaGreatDoor
open Go Go.Sx C
theorem lword_calls {h : Heap} {s : ByteArray} (hs : s.size < 4611686018427387904) : CallsH Tryz.prog 39 [.string s] h (Ret fun r h' => r = .string (up s) ∧ Chg [] h h') := by
 obtain ⟨⟨bs⟩⟩ := s
 have hs : bs.length < 4611686018427387904 := hs
 refine f39_calls (by simp) ?_
 intro c b h1 hc g
 have hc : bs.length ≤ c := hc
 obtain ⟨tail, ht⟩ : ∃ tail, tail = List.replicate (c - bs.length) (Value.int .u8 0) := ⟨_, rfl⟩
 have gb : BlkW h1 b (cellB bs ++ tail) := by rw [ht]; exact g.blk
 refine loop_intro (fun q : Nat => [(3, .slice (some ⟨b, 0, none⟩) bs.length c), (8, .slice (some ⟨b, 0, none⟩) bs.length c), (9, .int .i64 bs.length), (10, .int .i64 q)]) (fun q h' => q ≤ bs.length ∧ BlkW h' b (cellB (upTo bs q) ++ tail) ∧ h'.size = h1.size ∧ ∀ k, k ≠ b → h'[k]? = h1[k]?) (fun q => bs.length - q) 0 ⟨rfl, rfl, rfl, rfl, trivial⟩ ⟨Nat.zero_le _, by rw [upTo_zero]; exact gb, rfl, fun _ _ => rfl⟩ ?_
 rintro q h2 ⟨hq, hb, hsz, hold⟩
 have next : ∀ {h3 : Heap}, q < bs.length → BlkW h3 b (cellB (upTo bs (q + 1)) ++ tail) → h3.size = h1.size → (∀ k, k ≠ b → h3[k]? = h1[k]?) → q + 1 ≤ bs.length ∧ BlkW h3 b (cellB (upTo bs (q + 1)) ++ tail) ∧ h3.size = h1.size ∧ ∀ k, k ≠ b → h3[k]? = h1[k]? := fun a b c d => ⟨a, b, c, d⟩
 refine Ai rfl (Ai (fun hlt => ?_) (fun hge => ?_))
 ·have hlt : q < bs.length := by omega
  have cq := cell_q hb hlt
  refine Ai (by omega) (Ai (by omega) (Ei _ (Ai cq (Ai rfl (Ai (fun h97 => ?_) (fun hn => ?_))))))
  ·refine Ai rfl (Ai (fun h122 => ?_) (fun hn => ?_))
   ·refine Ai rfl (fun z hz => Ai rfl (fun z1 hz1 => ?_))
    have hz : z = (bs[q].toNat : Int) - 97 := by rw [hz]; exact wrap8 (by omega) (by omega)
    have hz1 : z1 = (upB bs[q]).toNat := by
     rw [upB_lo h97 h122, hz1, hz]
     have := wrap8 (x := (bs[q].toNat : Int) - 97 + 65) (by omega) (by omega)
     exact this.trans (by omega)
    refine Ai (by omega) (Ai (by omega) (Ei _ (Ai hb (Ai ?_ (Ai rfl (Ai (Go.Sx.ones1 rfl) fun h3 p => ?_))))))
    ·show 0 + q * 1 + 1 ≤ _
     rw [List.length_append, cellB_len, upTo_len]; omega
    ·refine Ai rfl (fun z2 hz2 => ?_)
     have hz2 := add_in hz2 (by omega) (by omega)
     subst hz2
     exact Ai rfl (Ei (q + 1) (Ai ⟨rfl, rfl, rfl, rfl, trivial⟩ (Ai (next hlt (put_q hlt hz1 p) (p.size.trans hsz) fun k hk => (p.old k hk).trans (hold k hk)) (by omega))))
   ·refine Ai rfl (fun z2 hz2 => ?_)
    have hz2 := add_in hz2 (by omega) (by omega)
    subst hz2
    exact Ai rfl (Ei (q + 1) (Ai ⟨rfl, rfl, rfl, rfl, trivial⟩ (Ai (next hlt (by rw [same_q hlt (upB_not fun hh => hn hh.2)]; exact hb) hsz hold) (by omega))))
  ·refine Ai rfl (fun z2 hz2 => ?_)
   have hz2 := add_in hz2 (by omega) (by omega)
   subst hz2
   exact Ai rfl (Ei (q + 1) (Ai ⟨rfl, rfl, rfl, rfl, trivial⟩ (Ai (next hlt (by rw [same_q hlt (upB_not fun hh => hn hh.1)]; exact hb) hsz hold) (by omega))))
 ·have hkl : q = bs.length := by omega
  subst hkl
  rw [upTo_all] at hb
  refine Ei (bs.map upB) (Ai (by simp) (Ai (cells_pre hb) (Ai rfl ?_)))
  refine ⟨by rw [hsz, g.size]; omega, fun k hk _ => ?_⟩
  have := g.id
  rw [hold k (by omega), g.old k hk]
def cmd9 : List (List UInt8 × Nat) := [
 ([72, 83, 69, 84], 81),
 ([72, 71, 69, 84], 82),
 ([72, 68, 69, 76], 83),
 ([72, 76, 69, 78], 84),
 ([72, 71, 69, 84, 65, 76, 76], 85),
 ([72, 73, 78, 67, 82, 66, 89], 86),
 ([76, 80, 85, 83, 72], 87),
 ([82, 80, 85, 83, 72], 88),
 ([76, 80, 79, 80], 89),
 ([82, 80, 79, 80], 90),
 ([76, 76, 69, 78], 91),
 ([76, 73, 78, 68, 69, 88], 92),
 ([76, 82, 65, 78, 71, 69], 93),
 ([76, 83, 69, 84], 94),
 ([83, 65, 68, 68], 95),
 ([83, 82, 69, 77], 96),
 ([83, 73, 83, 77, 69, 77, 66, 69, 82], 97),
 ([83, 67, 65, 82, 68], 98),
 ([83, 77, 69, 77, 66, 69, 82, 83], 99),
 ([83, 73, 78, 84, 69, 82], 100),
 ([90, 65, 68, 68], 101),
 ([90, 82, 69, 77], 102),
 ([90, 83, 67, 79, 82, 69], 103),
 ([90, 73, 78, 67, 82, 66, 89], 104),
 ([90, 67, 65, 82, 68], 105),
 ([90, 82, 65, 78, 75], 106),
 ([90, 82, 65, 78, 71, 69], 107),
 ([90, 82, 65, 78, 71, 69, 66, 89, 83, 67, 79, 82, 69], 108)]
def look9 : List (List UInt8 × Nat) → ByteArray → Option Nat
 |[], _ => none
 |(n, g) :: l, w => if w = ofB n then some g else look9 l w
def Found9 (W : ByteArray) (ms : List MapEntry) : Option Nat → Prop
 |some g => ∃ j, mfind (.string W) ms 0 = some (j, .func (.func g) #[] #[])
 |none => mfind (.string W) ms 0 = none
def Cm9 : List MapEntry → List (List UInt8 × Nat) → Prop
 |[], [] => True
 |e :: es, (n, g) :: ns => e.key = .string (ofB n) ∧ e.val = .func (.func g) #[] #[] ∧ Cm9 es ns
 |_, _ => False
theorem Cm9.snoc : ∀ {es : List MapEntry} {ns : List (List UInt8 × Nat)} {n : List UInt8} {g c : Nat}, Cm9 es ns → Cm9 (es ++ [{ key := .string (ofB n), val := .func (.func g) #[] #[], born := c }]) (ns ++ [(n, g)])
 |[], [], _, _, _, _ => ⟨rfl, rfl, trivial⟩
 |_ :: _, (_, _) :: _, _, _, _, ⟨h1, h2, h3⟩ => ⟨h1, h2, Cm9.snoc h3⟩
 |[], _ :: _, _, _, _, h => h.elim
 |_ :: _, [], _, _, _, h => h.elim
theorem Cm9.keys : ∀ {es : List MapEntry} {ns : List (List UInt8 × Nat)}, Cm9 es ns → KeysF es (ns.map Prod.fst)
 |[], [], _ => rfl
 |e :: es, (n, g) :: ns, ⟨h1, _, h3⟩ => by
  have := Cm9.keys h3
  unfold KeysF at this ⊢
  simp [h1, this]
 |[], _ :: _, h => h.elim
 |_ :: _, [], h => h.elim
theorem Cm9.found (W : ByteArray) : ∀ {es : List MapEntry} {ns : List (List UInt8 × Nat)} (i : Nat), Cm9 es ns → (match look9 ns W with | some g => ∃ j, mfind (.string W) es i = some (j, .func (.func g) #[] #[]) | none => mfind (.string W) es i = none)
 |[], [], _, _ => rfl
 |e :: es, (n, g) :: ns, i, ⟨h1, h2, h3⟩ => by
  have ih := Cm9.found W (i + 1) h3
  unfold look9
  by_cases hw : W = ofB n
  ·rw [if_pos hw]
   refine ⟨i, ?_⟩
   unfold mfind
   rw [h1, hw, if_pos (sameBits_refl (k := .str) rfl), h2]
  ·rw [if_neg hw]
   have hn : ¬ (Instr.sameBits 10000 (.string W) e.key = true) := fun hs => by
    have := sameBits_eq (k := .str) (by rfl) (by rw [h1]; rfl) hs
    rw [h1] at this
    simp at this
    exact hw this
   cases hl : look9 ns W with
   |none =>
    rw [hl] at ih
    show mfind _ (e :: es) i = none
    unfold mfind
    rw [if_neg hn]; exact ih
   |some g2 =>
    rw [hl] at ih
    obtain ⟨j, h7⟩ := ih
    refine ⟨j, ?_⟩
    unfold mfind
    rw [if_neg hn]; exact h7
 |[], _ :: _, _, h => h.elim
 |_ :: _, [], _, h => h.elim
def mupO (p : List UInt8 × Nat) : SOper := ⟨none, none, .mup .str (.tmp 1) (.const (.string (ofB p.1))) (.func p.2)⟩
theorem mup_go {Qp : List PanicEntry → Heap → Prop} {K : Env → Heap → Prop} {h0 : Heap} {mb : Nat} {σ : Env} {rest : List SOper} (hσ : σ 1 = some (.map (some mb))) (k : ∀ h' es c, St [] h0 h' [.m mb es c] → Cm9 es cmd9 → sops Tryz.prog Qp K rest σ h') :
  ∀ (ns pre : List (List UInt8 × Nat)) {h : Heap} {es : List MapEntry} {c : Nat}, pre ++ ns = cmd9 → St [] h0 h [.m mb es c] → Cm9 es pre → ((pre ++ ns).map Prod.fst).Nodup → sops Tryz.prog Qp K (ns.map mupO ++ rest) σ h
 |[], pre, h, es, c, e, w, cm, _ => by
  simp only [List.append_nil] at e
  subst e
  exact k h es c w cm
 |(n, g) :: ns, pre, h, es, c, e, w, cm, hd => by
  have ky := cm.keys
  have hnot : n ∉ pre.map Prod.fst := by
   rw [List.map_append] at hd
   have := (List.nodup_append.1 hd).2.2
   intro hm
   exact this n hm n (by simp) rfl
  show sopr Tryz.prog σ h (mupO (n, g)) (sops Tryz.prog Qp K (ns.map mupO ++ rest)) Qp
  simp only [mupO, sopr, sop, ev, hσ]
  refine Ai rfl (Ei es (Ei c (Ai (w.get 0 rfl) (Ai ky.fits ?_))))
  rw [ky.miss hnot]
  intro h' p
  have w : St [] h0 h' [.m mb _ _] := w.mput 0 rfl p
  exact mup_go hσ k ns (pre ++ [(n, g)]) (by rw [List.append_assoc]; exact e) w cm.snoc (by rw [List.append_assoc]; exact hd)
theorem cmd9_nodup : (cmd9.map Prod.fst).Nodup := by decide +kernel
theorem r1_eq : f38r1 = ⟨some 1, none, .mkm⟩ :: ((cmd9.map mupO) ++ [⟨some 2, none, .mv (.tmp 1)⟩, ⟨some 0, none, .mv (.tmp 2)⟩]) := by kernel_rfl
theorem ops_go {P : Program} {l : List SOper} {c : SCode} {Q : Post} {σ : Env} {ds : List Deferred} {h : Heap} (hs : sops P (fun ch h' => thenQ (swp P c Q) Q (.panic ch) (hide l σ) ds h') (fun σ' h' => thenQ (swp P c Q) Q .normal σ' ds h') l σ h) : swp P (.seq (.ops l) c) Q σ ds h := hs
theorem cmds9_calls {h : Heap} : CallsH Tryz.prog 38 [] h (Ret fun r h' => Chg [] h h' ∧ ∃ mb es c, r = .map (some mb) ∧ MapB h' mb es c ∧ (∀ e ∈ es, fits .str e.key = true) ∧ ∀ W, Found9 W es (look9 cmd9 W)) := by
 refine f38_calls (by simp) ?_
 refine mv_go (v := .map none) rfl ?_
 refine ops_go ?_
 rw [r1_eq]
 intro mb h1 g1
 have w := (St.start h).newm g1
 refine mup_go rfl (fun h' es c w cm => ?_) cmd9 [] rfl w trivial cmd9_nodup
 refine ⟨w.chg, mb, es, c, rfl, w.get 0 rfl, cm.keys.fits, fun W => ?_⟩
 have := Cm9.found W 0 cm
 unfold Found9
 exact this
theorem do9_D : SoundD Tryz.prog 20 46 f20 [.cn 6 4, .c1 7, .t 8] := soundD_of (fl := true) mixed Tryz.func20 rfl (by kernel_rfl) (by kernel_rfl) (by kernel_rfl)
theorem dodef9_F : SoundF Tryz.prog 40 14 f40 [] := soundF_of (fl := true) mixed Tryz.func40 rfl (by kernel_rfl) (by kernel_rfl) (by kernel_rfl)
theorem dodef9_calm {h : Heap} {b6 b7 : Nat} : DefH Tryz.prog 40 [ptr b6, ptr b7] .returning h fun e u' h' => (∃ v, e = .returned v) ∧ u' = .returning ∧ h' = h := by
 refine dodef9_F (by simp) ?_
 exact ⟨rfl, ⟨_, rfl⟩, rfl, rfl⟩
theorem BFail9_calls {h : Heap} {s : ByteArray} : CallsH Tryz.prog 41 [.string s] h (Ret fun r h' => r = repV 2 0 s ∧ Chg [] h h') := by
 refine f41_calls (by simp) ?_
 intro b h1 g1
 refine Ei _ (Ai g1.blk (Ai (by decide) (Ai rfl (Ai (repV_ones 2 0 s) ?_))))
 intro h2 p2
 have g2 := g1.put p2
 exact ⟨_, rfl, cells_blk g2.blk, rfl, g2.chg⟩
theorem dodef9_stop {h : Heap} {b6 b7 : Nat} {why : ByteArray} {r4 : List Value} {lv : Value} (B6 : Blk h b6 r4) (hr : r4.length = 4) (B7 : Blk h b7 [lv]) (hne : b6 ≠ b7) :
  DefH Tryz.prog 40 [ptr b6, ptr b7] (.panicking (stop9 why)) h fun e u' h' => (∃ v, e = .returned v) ∧ u' = .panicking [{ v := .iface 92 (.agg #[.string why]), recovered := true }] ∧
   Blk h' b6 [.int .i64 2, .int .i64 0, .string why, .slice none 0 0] ∧ Blk h' b7 [.slice none 0 0] ∧ Chg [b6, b7] h h' := by
 refine dodef9_F (by simp) ?_
 have l6 := B6.lt
 have l7 := B7.lt
 refine Ai (fun _ => ?_) (fun hne => absurd rfl hne)
 intro b3 h1 g1
 refine Ei _ (Ai g1.blk (Ai (by decide) (Ai rfl (Ai (ones1 rfl) ?_))))
 intro h2 p2
 have g2 := g1.put p2
 have B3 : Blk h2 b3 [.string why] := p2.blk
 refine Ei _ (Ai (cell_blk B3 rfl) ?_)
 refine call_ret BFail9_calls ?_
 rintro _ h3 ⟨rfl, c3⟩
 have c03 := g2.chg.nil c3
 refine Ei _ (Ai (B6.chg c03 (by simp)) (Ai (by rw [hr]; decide) (Ai rfl (Ai (repV_ones 2 0 why) ?_))))
 intro h4 p4
 have B64 : Blk h4 b6 [.int .i64 2, .int .i64 0, .string why, .slice none 0 0] := by
  have h9 : Blk h4 b6 (splice r4 0 [.int .i64 2, .int .i64 0, .string why, .slice none 0 0]) := p4.blk
  rw [four hr rfl] at h9
  exact h9
 refine Ei _ (Ai ((B7.chg c03 (by simp)).chg p4.chg (by simp; omega)) (Ai (by simp) (Ai rfl (Ai (ones1 rfl) ?_))))
 intro h5 p5
 have B75 : Blk h5 b7 [.slice none 0 0] := p5.blk
 have c5 : Chg [b6, b7] h h5 := ((c03.mono (by simp)).trans p4.chg (fun _ hx => hx) (fun x hx _ => by simp at hx; simp [hx])).trans p5.chg (fun _ hx => hx) (fun x hx _ => by simp at hx; simp [hx])
 exact ⟨rfl, ⟨_, rfl⟩, rfl, B64.chg p5.chg (by simp; omega), B75, c5⟩
theorem do9_calls {h : Heap} {kb sb mb c g : Nat} {now : Int} {av : Value} {w : ByteArray} {A : List ByteArray} {m : List KI} {res : Res} (kr : KR h kb sb mb c m)
  (hA : SL encS h av (w :: A)) (hl : (w :: A).length < 4611686018427387904) (hz : w.size < 4611686018427387904) (hno : look9 cmd9 (up w) = some g)
  (hf : ∀ h1 ab av', (∀ h', Chg [] h h' → SL encS h' av' A) → As h h1 (c0 ab kb now av') → CallsH Tryz.prog g [ptr ab] h1 (Cmd9 h h1 ab kb now av' res)) :
  CallsH Tryz.prog 20 [ptr kb, .int .i64 now, av] h (Ret (DoR h res)) := by
 obtain ⟨a, cc, rfl, hcc⟩ := hA.form
 obtain ⟨bb, oo, rfl⟩ := hA.addr (by simp)
 refine do9_D (by simp) ?_
 intro b6 h1 g1
 have w1 := (St.start h).new g1
 intro b7 h2 g2
 have w2 := w1.new g2
 have c2 : Chg [] h h2 := w2.chg
 refine Ai rfl (Ai (fun h0 => absurd h0 (by simp; omega)) (fun _ => ?_))
 refine callp (same_nil (kr.ext c2).ks) ?_
 have hA2 := hA.ext c2
 have hc0 := hA2.cells encS_len (i := 0) (x := w) (by simp)
 refine Ai (by decide) (Ai (by simp) (Ei _ (Ai (by simpa using hc0 0 _ rfl) ?_)))
 refine callq_ret cmds9_calls ?_
 rintro _ h3 ⟨c3, b, es, c', rfl, hm, hfit, hfd⟩
 refine Ai c3.ext ?_
 refine callq_ret (lword_calls hz) ?_
 rintro _ h4 ⟨rfl, c4⟩
 refine Ai c4.ext ?_
 refine Ai rfl (Ei es (Ei c' (Ai (hm.chg c4 (by simp)) (Ai hfit ?_))))
 have hfind := hfd (up w)
 rw [hno] at hfind
 obtain ⟨i, hfind⟩ := hfind
 rw [hfind]
 have w4 := (w2.ext c3).ext c4
 refine Ai (by decide) (Ai (by simp only [List.length_cons]; omega) (Ai (by omega) ?_))
 refine sl_slc (lo := 1) (hi := (w :: A).length) encS_len (hA.ext w4.chg) (by simp) (Nat.le_refl _) fun v1 hv1 => ?_
 have e1 : ((w :: A).drop 1).take ((w :: A).length - 1) = A := by simp
 rw [e1] at hv1
 obtain ⟨a1, cc1, rfl, hcc1⟩ := (hv1 h hA).form
 intro ab h5 g5
 have w5 : St [] h h5 [.b ab (cellsC zeroT nilV nilV nilV false kb now noText (.slice a1 A.length cc1) nilV), .b b7 [.slice none 0 0], .b b6 [.int .i64 0, .int .i64 0, .string ⟨#[]⟩, .slice none 0 0]] := w4.new g5
 have z4 := w4.chg.size
 have i5 := g5.id
 have w6 : St [] h h5 [c0 ab kb now (.slice a1 A.length cc1), .b b7 [.slice none 0 0], .b b6 [.int .i64 0, .int .i64 0, .string ⟨#[]⟩, .slice none 0 0]] :=
  w5.set 0 rfl (Chg.refl _) (by simp) ⟨w5.get 0 rfl, OL.nil, ⟨_, _, _, rfl, SL.nil, SL.nil, SL.nil⟩, by simp [bl3, vblk, ablk], by simp [vblk, ablk], by simp [bl3, vblk, ablk], by simp [vblk, ablk]⟩ (fun b hb => by
   simp [cE, En.fp, bl3, vblk, ablk] at hb
   exact .inl (by simp [En.fp, hb]))
 refine call_out9 (hf h5 ab _ (fun h' hc => hv1 h' (hA.ext hc)) (w6.as 0 rfl)) ?_ ?_
 ·rintro v h6 ⟨q, E, key, t, is, pv, lw, rv, lv, he, ⟨ra, rn, rc, rfl, sl, fr⟩, _, o6⟩
  subst he
  have w := w6.own 0 rfl o6
  obtain ⟨la, lc, rfl⟩ := w.cform 0 rfl
  have hi6 := g1.id
  have hi7 := g2.id
  have z1 := g1.size
  have z2 := g2.size
  have z3 := (c3.nil c4).size
  have z5 := g5.size
  have keep : ∀ {h7 h8 : Heap} {k : Nat}, k < h5.size → SL encQ h7 (.slice ra rn rc) q.l → Chg [k] h7 h8 → SL encQ h8 (.slice ra rn rc) q.l := fun hk sl hc => sl.chg hc fun b hb => by have := fr b hb; simp; omega
  have l6 : b6 < h5.size := by omega
  have l7 : b7 < h5.size := by omega
  refine w.st2 2 rfl rfl rfl rfl fun h7 w7 k7 => ?_
  have sl := keep l6 sl k7
  refine w7.ldw 2 rfl rfl ?_
  refine Ai ?_ ?_
  ·refine w7.ldc 0 rfl rfl ?_
   refine w7.st2 2 rfl rfl rfl rfl fun h8 w8 k8 => ?_
   refine w8.st2 1 rfl rfl rfl rfl fun h9 w9 k9 => ?_
   have sl := keep l7 (keep l6 sl k8) k9
   refine Ai (by simp) (dodef9_calm.mono ?_)
   rintro e u' h' ⟨⟨v, rfl⟩, rfl, rfl⟩
   exact ⟨_, rfl, cells_blk (w9.get 2 rfl), _, cell_blk (w9.get 1 rfl) rfl, w9.chg, _, _, rfl, ⟨ra, rn, rc, rfl, sl, fun _ _ => Nat.zero_le _⟩, (w9.get 0 rfl).2.1.sl, fun b hb => by
    rcases (w9.ents 0 _ rfl).2 b (List.mem_cons_of_mem _ (List.mem_append_left _ hb)) with h1 | h1
    ·cases h1
    ·exact h1⟩
  ·refine w7.st2 2 rfl rfl rfl rfl fun h8 w8 k8 => ?_
   refine w8.ldc 0 rfl rfl ?_
   refine w8.st2 1 rfl rfl rfl rfl fun h9 w9 k9 => ?_
   have sl := keep l7 (keep l6 sl k8) k9
   refine Ai (by simp) (dodef9_calm.mono ?_)
   rintro e u' h' ⟨⟨v, rfl⟩, rfl, rfl⟩
   exact ⟨_, rfl, cells_blk (w9.get 2 rfl), _, cell_blk (w9.get 1 rfl) rfl, w9.chg, _, _, rfl, ⟨ra, rn, rc, rfl, sl, fun _ _ => Nat.zero_le _⟩, (w9.get 0 rfl).2.1.sl, fun b hb => by
    rcases (w9.ents 0 _ rfl).2 b (List.mem_cons_of_mem _ (List.mem_append_left _ hb)) with h1 | h1
    ·cases h1
    ·exact h1⟩
 ·rintro why h6 ⟨he, c6⟩
  subst he
  have w := w6.gone 0 rfl c6 (fun k hk => .inl hk)
  have hi6 := g1.id
  have hi7 := g2.id
  have z1 := g1.size
  refine Ai (by simp) ((dodef9_stop (w.get 2 rfl) rfl (w.get 1 rfl) (w.ne 2 1 rfl rfl (by decide))).mono ?_)
  rintro e u' h' ⟨⟨v, rfl⟩, rfl, B6', B7', c7⟩
  exact ⟨_, rfl, cells_blk B6', _, cell_blk B7' rfl, w.chg.fresh c7 (by simp; omega), rfl⟩
end Go.Proofs.YtjnijlnmbjjgpaaGreatDoor
set_option maxRecDepth 100000
namespace Go.Proofs.YtjnijlnmbjjgpaaGreatDoor.C
open Go Go.Sx Go.Sx.S
def f179r0 : LS := [o 4 (.mv (.const (.pointer none))),o 5 (.mv (i 0))]
def f179r1 : LS := [o 14 (.mv (t 0)),o 15 (.len (t 14)),o 16 (.cmp .gtr (t 15) (i 65536))]
def f179r2 : LS := [o 4 (.mv (.const (.pointer none))),o 5 (.mv (i 3))]
def f179r3 : LS := [o 17 (.mv (t 0)),o 18 (.len (t 17)),o 19 (.mv (i 0))]
def f179r4 : LS := [o 20 (.cmp .lss (t 19) (t 18))]
def f179r5 : LS := [o 21 (.ixs 2 (t 17) (t 19)),o 22 (.ldn 2 (t 21)),o 7 (.new [(.string ⟨#[]⟩), (.int .i64 0)]),
 q (.st 2 (t 7) (t 22))]
def f179r6 : LS := [o 23 (.fa 0 (t 7)),o 24 (.ld1 (t 23)),o 25 (.lens (t 24)),o 26 (.cmp .gtr (t 25) (i 1048576))]
def f179r7 : LS := [o 4 (.mv (.const (.pointer none))),o 5 (.mv (i 3))]
def f179r8 : LS := [o 27 (.ar .add (t 19) (i 1)),o 19 (.mv (t 27))]
def f179l9 : SCode := (.seq (.ops f179r4) (.seq (.cond (t 20) .skip (.exit 0)) (.seq (.block 1 (.seq (.ops f179r5) (.seq (.ops f179r6) (.cond (t 26) (.seq (.ops f179r7) .ret) .skip)))) (.ops f179r8))))
def f179r10 : LS := [o 28 (.call 238 []),o 8 (.mv (t 28))]
def f179r11 : LS := [o 29 (.mv (t 0)),o 30 (.len (t 29)),o 31 (.mv (i 0))]
def f179r12 : LS := [o 32 (.cmp .lss (t 31) (t 30))]
def f179r13 : LS := [o 33 (.mv (t 31)),o 34 (.ixs 2 (t 29) (t 31)),o 35 (.ldn 2 (t 34)),o 10 (.new [(.string ⟨#[]⟩), (.int .i64 0)]),o 9 (.mv (t 33)),
 q (.st 2 (t 10) (t 35))]
def f179r14 : LS := [o 37 (.mv (t 8)),o 38 (.nilck (t 37)),o 39 (.fa 1 (t 38)),o 40 (.ld1 (t 39)),o 41 (.fa 0 (t 10)),o 42 (.ld1 (t 41)),o 43 (.look .str (.pointer none) true (t 40) (t 42)),o 36 (.mv (t 43)),o 44 (.ext (t 36) 0),o 45 (.ext (t 36) 1),o 11 (.mv (t 44)),o 12 (.mv (t 45))]
def f179r15 : LS := [o 46 (.mv (t 12))]
def f179r16 : LS := [o 4 (.mv (.const (.pointer none))),o 5 (.mv (i 2))]
def f179r17 : LS := [o 13 (.mv (i 0))]
def f179r18 : LS := [o 47 (.mv (t 9)),o 48 (.mv (t 1)),o 49 (.len (t 48)),o 50 (.cmp .lss (t 47) (t 49))]
def f179r19 : LS := [o 51 (.mv (t 1)),o 52 (.mv (t 9)),o 53 (.ixs 1 (t 51) (t 52)),o 54 (.ld1 (t 53)),o 13 (.mv (t 54))]
def f179r20 : LS := [o 55 (.mv (t 8)),o 56 (.ldn 2 (t 10)),o 57 (.mv (t 13)),o 58 (.call 239 [(t 55), (t 56), (t 57)])]
def f179r21 : LS := [o 59 (.ar .add (t 31) (i 1)),o 31 (.mv (t 59))]
def f179l22 : SCode := (.seq (.ops f179r12) (.seq (.cond (t 32) .skip (.exit 2)) (.seq (.block 3 (.seq (.ops f179r13) (.seq (.seq (.ops f179r14) (.seq (.ops f179r15) (.cond (t 46) (.seq (.ops f179r16) .ret) .skip))) (.seq (.ops f179r17) (.seq (.seq (.ops f179r18) (.cond (t 50) (.ops f179r19) .skip)) (.ops f179r20)))))) (.ops f179r21))))
def f179r23 : LS := [o 60 (.mv (t 8)),o 4 (.mv (t 60)),o 5 (.mv (i 0))]
def f179 : SCode := (.seq (.ops f179r0) (.seq (.seq (.ops f179r1) (.cond (t 16) (.seq (.ops f179r2) .ret) .skip)) (.seq (.seq (.ops f179r3) (.block 0 (.loop f179l9))) (.seq (.ops f179r10) (.seq (.seq (.ops f179r11) (.block 2 (.loop f179l22))) (.seq (.ops f179r23) .ret))))))
theorem f179_calls : Sound Tryz.prog 179 61 f179 [.t 4, .t 5] := sound_of mixed Tryz.func179 rfl (by kernel_rfl) (by kernel_rfl) (by kernel_rfl)
def f225r0 : LS := [o 2 (.mv (i 0))]
def f225r1 : LS := [o 3 (.mv (t 0)),o 4 (.cvt .u32 (t 3)),o 5 (.call 273 [(t 4)]),o 2 (.mv (t 5))]
def f225r2 : LS := [o 6 (.mv (t 0)),o 7 (.call 274 [(t 6)]),o 2 (.mv (t 7))]
def f225 : SCode := (.seq (.ops f225r0) (.seq (.cond (b false) (.seq (.ops f225r1) .ret) .skip) (.seq (.ops f225r2) .ret)))
theorem f225_calls : Sound Tryz.prog 225 8 f225 [.t 2] := sound_of mixed Tryz.func225 rfl (by kernel_rfl) (by kernel_rfl) (by kernel_rfl)
def f237r0 : LS := [o 4 (.mv (i 0)),o 5 (.mv (b false))]
def f237r1 : LS := [o 8 (.mv (t 0)),o 9 (.call 240 [(t 8)])]
def f237r2 : LS := [o 4 (.mv (i 0)),o 5 (.mv (b false))]
def f237r3 : LS := [o 11 (.mv (t 0)),o 12 (.nilck (t 11)),o 13 (.fa 1 (t 12)),o 14 (.ld1 (t 13)),o 15 (.mv (t 1)),o 16 (.look .str (.pointer none) true (t 14) (t 15)),o 10 (.mv (t 16)),o 17 (.ext (t 10) 0),o 18 (.ext (t 10) 1),o 6 (.mv (t 17)),o 7 (.mv (t 18))]
def f237r4 : LS := [o 19 (.mv (t 7)),o 20 (.un .not (t 19))]
def f237r5 : LS := [o 4 (.mv (i 0)),o 5 (.mv (b false))]
def f237r6 : LS := [o 21 (.mv (t 6)),o 22 (.nilck (t 21)),o 23 (.fa 0 (t 22)),o 24 (.fa 1 (t 23)),o 25 (.ld1 (t 24)),o 4 (.mv (t 25)),o 5 (.mv (b true))]
def f237 : SCode := (.seq (.ops f237r0) (.seq (.seq (.ops f237r1) (.cond (t 9) (.seq (.ops f237r2) .ret) .skip)) (.seq (.ops f237r3) (.seq (.seq (.ops f237r4) (.cond (t 20) (.seq (.ops f237r5) .ret) .skip)) (.seq (.ops f237r6) .ret)))))
theorem f237_calls : Sound Tryz.prog 237 26 f237 [.t 4, .t 5] := sound_of mixed Tryz.func237 rfl (by kernel_rfl) (by kernel_rfl) (by kernel_rfl)
def f238r0 : LS := [o 0 (.mv (.const (.pointer none)))]
def f238r1 : LS := [o 1 (.mks 16 [(.pointer none), (.int .i64 0)] (i 16) (i 16)),o 2 (.build [(.string ⟨#[]⟩), (.int .i64 0), (.slice none 0 0)] [(2, 1)] [(t 1)]),o 3 (.box (t 2)),o 4 (.mkm),o 5 (.build [(.pointer none), (.map none)] [(0, 1), (1, 1)] [(t 3), (t 4)]),o 6 (.box (t 5)),o 0 (.mv (t 6))]
def f238 : SCode := (.seq (.ops f238r0) (.seq (.ops f238r1) .ret))
theorem f238_calls : Sound Tryz.prog 238 7 f238 [.t 0] := sound_of mixed Tryz.func238 rfl (by kernel_rfl) (by kernel_rfl) (by kernel_rfl)
def f239r0 : LS := [o 4 (.box (t 1))]
def f239r1 : LS := [o 11 (.mv (t 0)),o 12 (.ldn 2 (t 4)),o 13 (.call 242 [(t 12)]),o 14 (.call 241 [(t 11), (t 13)]),o 6 (.mv (t 14))]
def f239r2 : LS := [o 15 (.ldn 2 (t 4)),o 16 (.mv (t 0)),o 17 (.nilck (t 16)),o 18 (.fa 1 (t 17)),o 19 (.ld1 (t 18)),o 20 (.lenm (t 19)),o 21 (.ar .add (t 20) (i 1)),o 22 (.cvt .u64 (t 21)),o 24 (.mv (t 2)),o 25 (.bit .and (t 24) (i 1)),o 23 (.callq 225 [(t 22)]),o 26 (.ar .add (t 23) (t 25)),o 27 (.mn (i 15) (t 26)),o 28 (.ar .add (i 1) (t 27)),o 29 (.mks 16 [(.pointer none), (.int .i64 0)] (t 28) (t 28)),o 30 (.build [(.string ⟨#[]⟩), (.int .i64 0), (.slice none 0 0)] [(0, 2), (2, 1)] [(t 15), (t 29)]),o 31 (.box (t 30)),o 7 (.mv (t 31))]
def f239r3 : LS := [o 32 (.mv (i 0))]
def f239r4 : LS := [o 33 (.cmp .lss (t 32) (i 16))]
def f239r5 : LS := [o 34 (.mv (t 32)),o 8 (.mv (t 34))]
def f239r6 : LS := [o 35 (.mv (t 6)),o 36 (.mv (t 8)),o 37 (.nilck (t 35)),o 38 (.fa 0 (t 37)),o 39 (.ixa 16 1 (t 38) (t 36)),o 40 (.ld1 (t 39)),o 41 (.nilck (t 40)),o 42 (.fa 2 (t 41)),o 43 (.ld1 (t 42)),o 44 (.mv (t 8)),o 45 (.ixs 2 (t 43) (t 44)),o 9 (.mv (t 45))]
def f239r7 : LS := [o 46 (.mv (t 8)),o 47 (.mv (t 7)),o 48 (.nilck (t 47)),o 49 (.fa 2 (t 48)),o 50 (.ld1 (t 49)),o 51 (.len (t 50)),o 52 (.cmp .geq (t 46) (t 51))]
def f239r8 : LS := [o 53 (.mv (t 9)),o 54 (.nilck (t 53)),o 55 (.fa 1 (t 54)),o 56 (.ld1 (t 55)),o 57 (.ar .add (t 56) (i 1)),o 58 (.nilck (t 53)),o 59 (.fa 1 (t 58)),
 q (.st 1 (t 59) (t 57))]
def f239r9 : LS := [o 60 (.mv (t 6)),o 61 (.nilck (t 60)),o 62 (.fa 16 (t 61)),o 63 (.ixa 16 1 (t 62) (i 0)),o 64 (.ld1 (t 63)),o 65 (.mv (t 6)),o 66 (.mv (t 8)),o 67 (.nilck (t 65)),o 68 (.fa 16 (t 67)),o 69 (.ixa 16 1 (t 68) (t 66)),o 70 (.ld1 (t 69)),o 71 (.ar .sub (t 64) (t 70)),o 10 (.mv (t 71))]
def f239r10 : LS := [o 72 (.mv (t 7)),o 73 (.nilck (t 72)),o 74 (.fa 2 (t 73)),o 75 (.ld1 (t 74)),o 76 (.mv (t 8)),o 77 (.mv (t 9)),o 78 (.nilck (t 77)),o 79 (.fa 0 (t 78)),o 80 (.ld1 (t 79)),o 81 (.mv (t 9)),o 82 (.nilck (t 81)),o 83 (.fa 1 (t 82)),o 84 (.ld1 (t 83)),o 85 (.mv (t 10)),o 86 (.ar .sub (t 84) (t 85)),o 87 (.build [(.pointer none), (.int .i64 0)] [(0, 1), (1, 1)] [(t 80), (t 86)]),o 88 (.ixs 2 (t 75) (t 76)),
 q (.st 2 (t 88) (t 87))]
def f239r11 : LS := [o 89 (.mv (t 9)),o 90 (.mv (t 7)),o 91 (.mv (t 10)),o 92 (.ar .add (t 91) (i 1)),o 93 (.build [(.pointer none), (.int .i64 0)] [(0, 1), (1, 1)] [(t 90), (t 92)]),o 94 (.nilck (t 89)),
 q (.st 2 (t 94) (t 93))]
def f239r12 : LS := [o 95 (.ar .add (t 32) (i 1)),o 32 (.mv (t 95))]
def f239l13 : SCode := (.seq (.ops f239r4) (.seq (.cond (t 33) .skip (.exit 0)) (.seq (.block 1 (.seq (.ops f239r5) (.seq (.ops f239r6) (.seq (.seq (.ops f239r7) (.cond (t 52) (.seq (.ops f239r8) (.exit 1)) .skip)) (.seq (.ops f239r9) (.seq (.ops f239r10) (.ops f239r11))))))) (.ops f239r12))))
def f239r14 : LS := [o 96 (.mv (t 0)),o 97 (.nilck (t 96)),o 98 (.fa 1 (t 97)),o 99 (.ld1 (t 98)),o 100 (.fa 0 (t 4)),o 101 (.ld1 (t 100)),o 102 (.mv (t 7)),
 q (.mup .str (t 99) (t 101) (t 102))]
def f239 : SCode := (.seq (.ops f239r0) (.seq (.ops f239r1) (.seq (.ops f239r2) (.seq (.seq (.ops f239r3) (.block 0 (.loop f239l13))) (.ops f239r14)))))
theorem f239_calls : Sound Tryz.prog 239 103 f239 [] := sound_of mixed Tryz.func239 rfl (by kernel_rfl) (by kernel_rfl) (by kernel_rfl)
def f240r0 : LS := [o 2 (.mv (b false))]
def f240r1 : LS := [o 3 (.mv (t 0)),o 4 (.eqn 0 false (t 3)),o 5 (.mv (t 4)),
 n 6 5 (.mv (t 0)),
 n 7 5 (.nilck (t 6)),
 n 8 5 (.fa 0 (t 7)),
 n 9 5 (.ld1 (t 8)),
 n 10 5 (.eqn 0 false (t 9)),o 11 (.pick (t 5) (b true) (t 10)),o 2 (.mv (t 11))]
def f240 : SCode := (.seq (.ops f240r0) (.seq (.ops f240r1) .ret))
theorem f240_calls : Sound Tryz.prog 240 12 f240 [.t 2] := sound_of mixed Tryz.func240 rfl (by kernel_rfl) (by kernel_rfl) (by kernel_rfl)
def f241r0 : LS := [o 4 (.mv (.const (.pointer none)))]
def f241r1 : LS := [o 5 (.new [(.pointer none), (.pointer none), (.pointer none), (.pointer none), (.pointer none), (.pointer none), (.pointer none), (.pointer none), (.pointer none), (.pointer none), (.pointer none), (.pointer none), (.pointer none), (.pointer none), (.pointer none), (.pointer none), (.int .i64 0), (.int .i64 0), (.int .i64 0), (.int .i64 0), (.int .i64 0), (.int .i64 0), (.int .i64 0), (.int .i64 0), (.int .i64 0), (.int .i64 0), (.int .i64 0), (.int .i64 0), (.int .i64 0), (.int .i64 0), (.int .i64 0), (.int .i64 0)])]
def f241r2 : LS := [o 10 (.mv (t 0)),o 11 (.nilck (t 10)),o 12 (.fa 0 (t 11)),o 13 (.ld1 (t 12)),o 6 (.mv (t 13)),o 7 (.mv (i 0))]
def f241r3 : LS := [o 8 (.mv (i 15))]
def f241r4 : LS := [o 14 (.mv (t 8)),o 15 (.cmp .geq (t 14) (i 0))]
def f241r5 : LS := [o 18 (.mv (t 6)),o 19 (.nilck (t 18)),o 20 (.fa 2 (t 19)),o 21 (.ld1 (t 20)),o 22 (.mv (t 8)),o 23 (.ixs 2 (t 21) (t 22)),o 24 (.ldn 2 (t 23)),o 9 (.new [(.pointer none), (.int .i64 0)]),
 q (.st 2 (t 9) (t 24))]
def f241r6 : LS := [o 25 (.fa 0 (t 9)),o 26 (.ld1 (t 25)),o 27 (.eqn 0 false (t 26)),o 28 (.mv (t 27)),
 n 29 28 (.mv (t 1)),
 n 30 28 (.fa 0 (t 9)),
 n 31 28 (.ld1 (t 30)),
 n 32 28 (.nilck (t 31)),
 n 33 28 (.fa 0 (t 32)),
 n 34 28 (.ldn 2 (t 33)),
 n 35 28 (.mv (t 7)),
 n 36 28 (.fa 1 (t 9)),
 n 37 28 (.ld1 (t 36)),
 n 38 28 (.ar .add (t 35) (t 37)),
 n 39 28 (.ar .sub (t 38) (i 1)),
 n 40 28 (.callv (t 29) [(t 34), (t 39)]),
 n 41 28 (.un .not (t 40)),o 42 (.pick (t 28) (b true) (t 41))]
def f241r7 : LS := [o 43 (.fa 0 (t 9)),o 44 (.ld1 (t 43)),o 45 (.mv (t 7)),o 46 (.fa 1 (t 9)),o 47 (.ld1 (t 46)),o 48 (.ar .add (t 45) (t 47)),o 6 (.mv (t 44)),o 7 (.mv (t 48))]
def f241l8 : SCode := (.block 3 (.seq (.ops f241r5) (.seq (.seq (.ops f241r6) (.cond (t 42) (.exit 2) .skip)) (.ops f241r7))))
def f241r9 : LS := [o 49 (.mv (t 8)),o 50 (.mv (t 8)),o 51 (.mv (t 6)),o 52 (.mv (t 7)),o 53 (.fa 0 (t 5)),o 54 (.ixa 16 1 (t 53) (t 49)),
 q (.st 1 (t 54) (t 51)),o 55 (.fa 16 (t 5)),o 56 (.ixa 16 1 (t 55) (t 50)),
 q (.st 1 (t 56) (t 52))]
def f241r10 : LS := [o 16 (.mv (t 8)),o 17 (.ar .sub (t 16) (i 1)),o 8 (.mv (t 17))]
def f241l11 : SCode := (.seq (.seq (.ops f241r4) (.cond (t 15) .skip (.exit 0))) (.seq (.block 1 (.seq (.block 2 (.loop f241l8)) (.ops f241r9))) (.ops f241r10)))
def f241r12 : LS := [o 4 (.mv (t 5))]
def f241 : SCode := (.seq (.ops f241r0) (.seq (.ops f241r1) (.seq (.ops f241r2) (.seq (.seq (.ops f241r3) (.block 0 (.loop f241l11))) (.seq (.ops f241r12) .ret)))))
theorem f241_calls : Sound Tryz.prog 241 57 f241 [.t 4] := sound_of mixed Tryz.func241 rfl (by kernel_rfl) (by kernel_rfl) (by kernel_rfl)
def f242r0 : LS := [o 1 (.box (t 0)),o 2 (.mv (.const .nilFunc))]
def f242r1 : LS := [o 3 (.fn 279 [] [(t 1)]),o 2 (.mv (t 3))]
def f242 : SCode := (.seq (.ops f242r0) (.seq (.ops f242r1) .ret))
theorem f242_calls : Sound Tryz.prog 242 4 f242 [.t 2] := sound_of mixed Tryz.func242 rfl (by kernel_rfl) (by kernel_rfl) (by kernel_rfl)
def f274r0 : LS := [o 2 (.mv (i 0))]
def f274r1 : LS := [o 3 (.mv (t 0)),o 4 (.cmp .eql (t 3) (.const (.int .u64 0)))]
def f274r2 : LS := [o 2 (.mv (i 64))]
def f274r3 : LS := [o 5 (.mv (t 0)),o 6 (.mv (t 0)),o 7 (.un .neg (t 6)),o 8 (.bit .and (t 5) (t 7)),o 9 (.ar .mul (t 8) (.const (.int .u64 285870213051353865))),o 10 (.sh .u64 false 58 (t 9)),o 11 (.ixa 64 1 (.global 3) (t 10)),o 12 (.ld1 (t 11)),o 13 (.cvt .i64 (t 12)),o 2 (.mv (t 13))]
def f274 : SCode := (.seq (.ops f274r0) (.seq (.seq (.ops f274r1) (.cond (t 4) (.seq (.ops f274r2) .ret) .skip)) (.seq (.ops f274r3) .ret)))
theorem f274_calls : Sound Tryz.prog 274 14 f274 [.t 2] := sound_of mixed Tryz.func274 rfl (by kernel_rfl) (by kernel_rfl) (by kernel_rfl)
def f279r0 : LS := [o 3 (.box (t 0)),o 5 (.mv (b false))]
def f279r1 : LS := [o 6 (.fa 1 (t 3)),o 7 (.ld1 (t 6)),o 8 (.fa 1 (t 2)),o 9 (.ld1 (t 8)),o 10 (.cmp .lss (t 7) (t 9)),o 11 (.mv (t 10)),
 n 12 11 (.fa 1 (t 3)),
 n 13 11 (.ld1 (t 12)),
 n 14 11 (.fa 1 (t 2)),
 n 15 11 (.ld1 (t 14)),
 n 16 11 (.cmp .eql (t 13) (t 15)),
 n 17 11 (.mv (t 16)),
 g 18 17 (.fa 0 (t 3)),
 g 19 17 (.ld1 (t 18)),
 g 20 17 (.fa 0 (t 2)),
 g 21 17 (.ld1 (t 20)),
 g 22 17 (.cmp .lss (t 19) (t 21)),
 n 23 11 (.pick (t 17) (t 22) (b false)),o 24 (.pick (t 11) (b true) (t 23)),o 5 (.mv (t 24))]
def f279 : SCode := (.seq (.ops f279r0) (.seq (.ops f279r1) .ret))
theorem f279_calls : Sound Tryz.prog 279 25 f279 [.t 5] := sound_of mixed Tryz.func279 rfl (by kernel_rfl) (by kernel_rfl) (by kernel_rfl)
end Go.Proofs.YtjnijlnmbjjgpaaGreatDoor.C
set_option maxRecDepth 100000
namespace Go.Proofs.YtjnijlnmbjjgpaaGreatDoor.C
open Go Go.Sx Go.Sx.S
def f8r0 : LS := [o 1 (.box (t 0)),o 2 (.mv (b false))]
def f8r1 : LS := [o 27 (.fa 0 (t 1)),o 28 (.ld1 (t 27)),o 29 (.fa 1 (t 1)),o 30 (.ld1 (t 29)),o 31 (.fa 2 (t 1)),o 32 (.ld1 (t 31)),o 33 (.bslice [(.string ⟨#[]⟩), (.string ⟨#[]⟩), (.string ⟨#[]⟩)] 3 [(0, 1), (1, 1), (2, 1)] [(t 28), (t 30), (t 32)]),o 34 (.call 12 [(.const (.slice none 0 0)), (t 33)])]
def f8r2 : LS := [o 35 (.call 13 []),o 2 (.mv (t 35))]
def f8r3 : LS := [o 36 (.call 16 []),o 37 (.call 16 []),o 38 (.call 16 []),o 39 (.call 16 []),o 3 (.mv (t 36)),o 4 (.mv (t 37)),o 5 (.mv (t 38)),o 6 (.mv (t 39))]
def f8r4 : LS := [o 41 (.mv (t 3)),o 42 (.fa 4 (t 1)),o 43 (.ld1 (t 42)),o 44 (.fa 0 (t 1)),o 45 (.ld1 (t 44)),o 46 (.fa 1 (t 1)),o 47 (.ld1 (t 46)),o 48 (.fa 2 (t 1)),o 49 (.ld1 (t 48)),o 50 (.bslice [(.string ⟨#[]⟩), (.string ⟨#[]⟩), (.string ⟨#[]⟩), (.string ⟨#[]⟩)] 4 [(0, 1), (1, 1), (2, 1), (3, 1)] [(.const (.string ⟨#[72, 83, 69, 84]⟩)), (t 45), (t 47), (t 49)]),o 51 (.call 17 [(t 41), (t 43), (t 50)]),o 40 (.mv (t 51)),o 52 (.ext (t 40) 0),o 53 (.ext (t 40) 1),o 7 (.new [(.int .i64 0), (.int .i64 0), (.string ⟨#[]⟩), (.slice none 0 0)]),
 q (.st 4 (t 7) (t 52)),o 8 (.mv (t 53))]
def f8r5 : LS := [o 55 (.mv (t 3)),o 56 (.fa 4 (t 1)),o 57 (.ld1 (t 56)),o 58 (.fa 0 (t 1)),o 59 (.ld1 (t 58)),o 60 (.fa 1 (t 1)),o 61 (.ld1 (t 60)),o 62 (.bslice [(.string ⟨#[]⟩), (.string ⟨#[]⟩), (.string ⟨#[]⟩)] 3 [(0, 1), (1, 1), (2, 1)] [(.const (.string ⟨#[72, 71, 69, 84]⟩)), (t 59), (t 61)]),o 63 (.call 17 [(t 55), (t 57), (t 62)]),o 54 (.mv (t 63)),o 64 (.ext (t 54) 0),o 65 (.ext (t 54) 1),o 9 (.new [(.int .i64 0), (.int .i64 0), (.string ⟨#[]⟩), (.slice none 0 0)]),
 q (.st 4 (t 9) (t 64)),o 10 (.mv (t 65))]
def f8r6 : LS := [o 67 (.mv (t 4)),o 68 (.fa 4 (t 1)),o 69 (.ld1 (t 68)),o 70 (.fa 0 (t 1)),o 71 (.ld1 (t 70)),o 72 (.fa 1 (t 1)),o 73 (.ld1 (t 72)),o 74 (.bslice [(.string ⟨#[]⟩), (.string ⟨#[]⟩), (.string ⟨#[]⟩)] 3 [(0, 1), (1, 1), (2, 1)] [(.const (.string ⟨#[83, 65, 68, 68]⟩)), (t 71), (t 73)]),o 75 (.call 17 [(t 67), (t 69), (t 74)]),o 66 (.mv (t 75)),o 76 (.ext (t 66) 0),o 77 (.ext (t 66) 1),o 11 (.new [(.int .i64 0), (.int .i64 0), (.string ⟨#[]⟩), (.slice none 0 0)]),
 q (.st 4 (t 11) (t 76)),o 12 (.mv (t 77))]
def f8r7 : LS := [o 79 (.mv (t 4)),o 80 (.fa 4 (t 1)),o 81 (.ld1 (t 80)),o 82 (.fa 0 (t 1)),o 83 (.ld1 (t 82)),o 84 (.fa 1 (t 1)),o 85 (.ld1 (t 84)),o 86 (.bslice [(.string ⟨#[]⟩), (.string ⟨#[]⟩), (.string ⟨#[]⟩)] 3 [(0, 1), (1, 1), (2, 1)] [(.const (.string ⟨#[83, 73, 83, 77, 69, 77, 66, 69, 82]⟩)), (t 83), (t 85)]),o 87 (.call 17 [(t 79), (t 81), (t 86)]),o 78 (.mv (t 87)),o 88 (.ext (t 78) 0),o 89 (.ext (t 78) 1),o 13 (.new [(.int .i64 0), (.int .i64 0), (.string ⟨#[]⟩), (.slice none 0 0)]),
 q (.st 4 (t 13) (t 88)),o 14 (.mv (t 89))]
def f8t8 : OTree := (.one (o 91 (.mv (t 5)))
 (.one (o 92 (.fa 4 (t 1)))
 (.one (o 94 (.fa 0 (t 1)))
 (.one (o 96 (.fa 3 (t 1)))
 (.one (o 97 (.ld1 (t 96)))
 (.one (o 99 (.fa 1 (t 1)))
 (.one (o 93 (.ld1 (t 92)))
 (.one (o 95 (.ld1 (t 94)))
 (.one (o 100 (.ld1 (t 99)))
 (.both (.one (o 98 (.call 18 [(t 97)]))
 (.chk [o 100 (.ld1 (t 99)), o 95 (.ld1 (t 94)), o 93 (.ld1 (t 92))] (.both (.one (o 101 (.bslice [(.string ⟨#[]⟩), (.string ⟨#[]⟩), (.string ⟨#[]⟩), (.string ⟨#[]⟩)] 4 [(0, 1), (1, 1), (2, 1), (3, 1)] [(.const (.string ⟨#[90, 65, 68, 68]⟩)), (t 95), (t 98), (t 100)]))
 (.chk [o 93 (.ld1 (t 92))] (.both (.one (o 102 (.call 17 [(t 91), (t 93), (t 101)]))
 (.one (o 90 (.mv (t 102)))
 (.one (o 103 (.ext (t 90) 0))
 (.one (o 104 (.ext (t 90) 1))
 (.one (o 15 (.new [(.int .i64 0), (.int .i64 0), (.string ⟨#[]⟩), (.slice none 0 0)]))
 (.one (q (.st 4 (t 15) (t 103)))
 (.one (o 16 (.mv (t 104)))
 .done))))))) (.one (o 15 (.new [(.int .i64 0), (.int .i64 0), (.string ⟨#[]⟩), (.slice none 0 0)]))
 (.chk [o 93 (.ld1 (t 92))] (.one (o 102 (.call 17 [(t 91), (t 93), (t 101)]))
 (.one (o 90 (.mv (t 102)))
 (.one (o 103 (.ext (t 90) 0))
 (.one (o 104 (.ext (t 90) 1))
 (.one (q (.st 4 (t 15) (t 103)))
 (.one (o 16 (.mv (t 104)))
 .done))))))))))) (.one (o 15 (.new [(.int .i64 0), (.int .i64 0), (.string ⟨#[]⟩), (.slice none 0 0)]))
 (.chk [o 100 (.ld1 (t 99)), o 95 (.ld1 (t 94)), o 93 (.ld1 (t 92))] (.one (o 101 (.bslice [(.string ⟨#[]⟩), (.string ⟨#[]⟩), (.string ⟨#[]⟩), (.string ⟨#[]⟩)] 4 [(0, 1), (1, 1), (2, 1), (3, 1)] [(.const (.string ⟨#[90, 65, 68, 68]⟩)), (t 95), (t 98), (t 100)]))
 (.chk [o 93 (.ld1 (t 92))] (.one (o 102 (.call 17 [(t 91), (t 93), (t 101)]))
 (.one (o 90 (.mv (t 102)))
 (.one (o 103 (.ext (t 90) 0))
 (.one (o 104 (.ext (t 90) 1))
 (.one (q (.st 4 (t 15) (t 103)))
 (.one (o 16 (.mv (t 104)))
 .done))))))))))))) (.one (o 15 (.new [(.int .i64 0), (.int .i64 0), (.string ⟨#[]⟩), (.slice none 0 0)]))
 (.chk [o 100 (.ld1 (t 99)), o 95 (.ld1 (t 94)), o 93 (.ld1 (t 92))] (.one (o 98 (.call 18 [(t 97)]))
 (.chk [o 100 (.ld1 (t 99)), o 95 (.ld1 (t 94)), o 93 (.ld1 (t 92))] (.one (o 101 (.bslice [(.string ⟨#[]⟩), (.string ⟨#[]⟩), (.string ⟨#[]⟩), (.string ⟨#[]⟩)] 4 [(0, 1), (1, 1), (2, 1), (3, 1)] [(.const (.string ⟨#[90, 65, 68, 68]⟩)), (t 95), (t 98), (t 100)]))
 (.chk [o 93 (.ld1 (t 92))] (.one (o 102 (.call 17 [(t 91), (t 93), (t 101)]))
 (.one (o 90 (.mv (t 102)))
 (.one (o 103 (.ext (t 90) 0))
 (.one (o 104 (.ext (t 90) 1))
 (.one (q (.st 4 (t 15) (t 103)))
 (.one (o 16 (.mv (t 104)))
 .done))))))))))))))))))))))
def f8r9 : LS := [o 106 (.mv (t 5)),o 107 (.fa 4 (t 1)),o 108 (.ld1 (t 107)),o 109 (.fa 0 (t 1)),o 110 (.ld1 (t 109)),o 111 (.fa 1 (t 1)),o 112 (.ld1 (t 111)),o 113 (.bslice [(.string ⟨#[]⟩), (.string ⟨#[]⟩), (.string ⟨#[]⟩)] 3 [(0, 1), (1, 1), (2, 1)] [(.const (.string ⟨#[90, 83, 67, 79, 82, 69]⟩)), (t 110), (t 112)]),o 114 (.call 17 [(t 106), (t 108), (t 113)]),o 105 (.mv (t 114)),o 115 (.ext (t 105) 0),o 116 (.ext (t 105) 1),o 17 (.new [(.int .i64 0), (.int .i64 0), (.string ⟨#[]⟩), (.slice none 0 0)]),
 q (.st 4 (t 17) (t 115)),o 18 (.mv (t 116))]
def f8r10 : LS := [o 118 (.mv (t 6)),o 119 (.fa 4 (t 1)),o 120 (.ld1 (t 119)),o 121 (.fa 0 (t 1)),o 122 (.ld1 (t 121)),o 123 (.fa 2 (t 1)),o 124 (.ld1 (t 123)),o 125 (.fa 1 (t 1)),o 126 (.ld1 (t 125)),o 127 (.bslice [(.string ⟨#[]⟩), (.string ⟨#[]⟩), (.string ⟨#[]⟩), (.string ⟨#[]⟩)] 4 [(0, 1), (1, 1), (2, 1), (3, 1)] [(.const (.string ⟨#[82, 80, 85, 83, 72]⟩)), (t 122), (t 124), (t 126)]),o 128 (.call 17 [(t 118), (t 120), (t 127)]),o 117 (.mv (t 128)),o 129 (.ext (t 117) 0),o 130 (.ext (t 117) 1),o 19 (.new [(.int .i64 0), (.int .i64 0), (.string ⟨#[]⟩), (.slice none 0 0)]),
 q (.st 4 (t 19) (t 129)),o 20 (.mv (t 130))]
def f8r11 : LS := [o 132 (.mv (t 6)),o 133 (.fa 4 (t 1)),o 134 (.ld1 (t 133)),o 135 (.fa 0 (t 1)),o 136 (.ld1 (t 135)),o 137 (.bslice [(.string ⟨#[]⟩), (.string ⟨#[]⟩), (.string ⟨#[]⟩)] 3 [(0, 1), (1, 1), (2, 1)] [(.const (.string ⟨#[76, 73, 78, 68, 69, 88]⟩)), (t 136), (.const (.string ⟨#[48]⟩))]),o 138 (.call 17 [(t 132), (t 134), (t 137)]),o 131 (.mv (t 138)),o 139 (.ext (t 131) 0),o 140 (.ext (t 131) 1),o 21 (.new [(.int .i64 0), (.int .i64 0), (.string ⟨#[]⟩), (.slice none 0 0)]),
 q (.st 4 (t 21) (t 139)),o 22 (.mv (t 140))]
def f8r12 : LS := [o 142 (.mv (t 6)),o 143 (.fa 4 (t 1)),o 144 (.ld1 (t 143)),o 145 (.fa 0 (t 1)),o 146 (.ld1 (t 145)),o 147 (.bslice [(.string ⟨#[]⟩), (.string ⟨#[]⟩)] 2 [(0, 1), (1, 1)] [(.const (.string ⟨#[82, 80, 79, 80]⟩)), (t 146)]),o 148 (.call 17 [(t 142), (t 144), (t 147)]),o 141 (.mv (t 148)),o 149 (.ext (t 141) 0),o 150 (.ext (t 141) 1),o 23 (.new [(.int .i64 0), (.int .i64 0), (.string ⟨#[]⟩), (.slice none 0 0)]),
 q (.st 4 (t 23) (t 149)),o 24 (.mv (t 150))]
def f8r13 : LS := [o 152 (.mv (t 6)),o 153 (.fa 4 (t 1)),o 154 (.ld1 (t 153)),o 155 (.fa 0 (t 1)),o 156 (.ld1 (t 155)),o 157 (.bslice [(.string ⟨#[]⟩), (.string ⟨#[]⟩), (.string ⟨#[]⟩), (.string ⟨#[]⟩)] 4 [(0, 1), (1, 1), (2, 1), (3, 1)] [(.const (.string ⟨#[76, 82, 65, 78, 71, 69]⟩)), (t 156), (.const (.string ⟨#[48]⟩)), (.const (.string ⟨#[45, 49]⟩))]),o 158 (.call 17 [(t 152), (t 154), (t 157)]),o 151 (.mv (t 158)),o 159 (.ext (t 151) 0),o 160 (.ext (t 151) 1),o 25 (.new [(.int .i64 0), (.int .i64 0), (.string ⟨#[]⟩), (.slice none 0 0)]),
 q (.st 4 (t 25) (t 159)),o 26 (.mv (t 160))]
def f8r14 : LS := [o 161 (.mv (t 8)),o 162 (.mv (t 161)),
 g 163 162 (.mv (t 12)),o 164 (.pick (t 162) (t 163) (b false)),o 165 (.mv (t 164)),
 g 166 165 (.mv (t 16)),o 167 (.pick (t 165) (t 166) (b false)),o 168 (.mv (t 167)),
 g 169 168 (.mv (t 20)),o 170 (.pick (t 168) (t 169) (b false)),o 171 (.mv (t 170)),
 g 172 171 (.fa 2 (t 9)),
 g 173 171 (.ld1 (t 172)),
 g 174 171 (.fa 2 (t 1)),
 g 175 171 (.ld1 (t 174)),
 g 176 171 (.cmp .eql (t 173) (t 175)),o 177 (.pick (t 171) (t 176) (b false)),o 178 (.mv (t 177)),
 g 179 178 (.fa 0 (t 9)),
 g 180 178 (.ld1 (t 179)),
 g 181 178 (.cmp .eql (t 180) (i 4)),o 182 (.pick (t 178) (t 181) (b false)),o 183 (.mv (t 182)),
 g 184 183 (.fa 1 (t 13)),
 g 185 183 (.ld1 (t 184)),
 g 186 183 (.cmp .eql (t 185) (i 1)),o 187 (.pick (t 183) (t 186) (b false)),o 188 (.mv (t 187)),
 g 189 188 (.fa 2 (t 17)),
 g 190 188 (.ld1 (t 189)),
 g 191 188 (.fa 3 (t 1)),
 g 192 188 (.ld1 (t 191)),
 g 193 188 (.callq 18 [(t 192)]),
 g 194 188 (.cmp .eql (t 190) (t 193)),o 195 (.pick (t 188) (t 194) (b false)),o 196 (.mv (t 195)),
 g 197 196 (.fa 2 (t 21)),
 g 198 196 (.ld1 (t 197)),
 g 199 196 (.fa 2 (t 1)),
 g 200 196 (.ld1 (t 199)),
 g 201 196 (.cmp .eql (t 198) (t 200)),o 202 (.pick (t 196) (t 201) (b false)),o 203 (.mv (t 202)),
 g 204 203 (.fa 2 (t 23)),
 g 205 203 (.ld1 (t 204)),
 g 206 203 (.fa 1 (t 1)),
 g 207 203 (.ld1 (t 206)),
 g 208 203 (.cmp .eql (t 205) (t 207)),o 209 (.pick (t 203) (t 208) (b false)),o 210 (.mv (t 209)),
 g 211 210 (.fa 3 (t 25)),
 g 212 210 (.ld1 (t 211)),
 g 213 210 (.len (t 212)),
 g 214 210 (.cmp .eql (t 213) (i 1)),o 215 (.pick (t 210) (t 214) (b false)),o 216 (.mv (t 215)),
 g 217 216 (.fa 3 (t 25)),
 g 218 216 (.ld1 (t 217)),
 g 219 216 (.ixs 4 (t 218) (i 0)),
 g 220 216 (.fa 2 (t 219)),
 g 221 216 (.ld1 (t 220)),
 g 222 216 (.fa 2 (t 1)),
 g 223 216 (.ld1 (t 222)),
 g 224 216 (.cmp .eql (t 221) (t 223)),o 225 (.pick (t 216) (t 224) (b false)),o 226 (.mv (t 225)),
 g 227 226 (.callq 13 []),o 228 (.pick (t 226) (t 227) (b false)),o 2 (.mv (t 228))]
def f8 : SCode := (.seq (.ops f8r0) (.seq (.seq (.ops f8r1) (.cond (t 34) (.seq (.ops f8r2) .ret) .skip)) (.seq (.ops f8r3) (.seq (.ops f8r4) (.seq (.ops f8r5) (.seq (.ops f8r6) (.seq (.ops f8r7) (.seq (.tree [91, 92, 93, 94, 95, 96, 97, 98, 99, 100, 101, 102, 90, 103, 104, 15, 16] f8t8) (.seq (.ops f8r9) (.seq (.ops f8r10) (.seq (.ops f8r11) (.seq (.ops f8r12) (.seq (.ops f8r13) (.seq (.ops f8r14) .ret))))))))))))))
theorem f8_calls : Sound Tryz.prog 8 229 f8 [.t 2] := sound_of mixed Tryz.func8 rfl (by kernel_rfl) (by kernel_rfl) (by kernel_rfl)
def f12r0 : LS := [o 4 (.mv (b false))]
def f12r1 : LS := [o 7 (.mv (t 0)),o 8 (.len (t 7)),o 9 (.cmp .gtr (t 8) (i 20)),o 10 (.mv (t 9)),
 n 11 10 (.mv (t 1)),
 n 12 10 (.len (t 11)),
 n 13 10 (.cmp .gtr (t 12) (i 20)),o 14 (.pick (t 10) (b true) (t 13))]
def f12r2 : LS := [o 4 (.mv (b true))]
def f12r3 : LS := [o 5 (.mv (i 0))]
def f12r4 : LS := [o 15 (.mv (t 5)),o 16 (.mv (t 0)),o 17 (.len (t 16)),o 18 (.cmp .lss (t 15) (t 17))]
def f12r5 : LS := [o 21 (.mv (t 0)),o 22 (.mv (t 5)),o 23 (.ixs 8 (t 21) (t 22)),o 24 (.fa 0 (t 23)),o 25 (.ld1 (t 24)),o 26 (.lens (t 25)),o 27 (.cmp .gtr (t 26) (i 300)),o 28 (.mv (t 27)),
 n 29 28 (.mv (t 0)),
 n 30 28 (.mv (t 5)),
 n 31 28 (.ixs 8 (t 29) (t 30)),
 n 32 28 (.fa 1 (t 31)),
 n 33 28 (.ldn 7 (t 32)),
 n 34 28 (.call 30 [(t 33)]),o 35 (.pick (t 28) (b true) (t 34))]
def f12r6 : LS := [o 4 (.mv (b true))]
def f12r7 : LS := [o 19 (.mv (t 5)),o 20 (.ar .add (t 19) (i 1)),o 5 (.mv (t 20))]
def f12l8 : SCode := (.seq (.seq (.ops f12r4) (.cond (t 18) .skip (.exit 0))) (.seq (.block 1 (.seq (.ops f12r5) (.cond (t 35) (.seq (.ops f12r6) .ret) .skip))) (.ops f12r7)))
def f12r9 : LS := [o 6 (.mv (i 0))]
def f12r10 : LS := [o 36 (.mv (t 6)),o 37 (.mv (t 1)),o 38 (.len (t 37)),o 39 (.cmp .lss (t 36) (t 38))]
def f12r11 : LS := [o 42 (.mv (t 1)),o 43 (.mv (t 6)),o 44 (.ixs 1 (t 42) (t 43)),o 45 (.ld1 (t 44)),o 46 (.lens (t 45)),o 47 (.cmp .gtr (t 46) (i 300))]
def f12r12 : LS := [o 4 (.mv (b true))]
def f12r13 : LS := [o 40 (.mv (t 6)),o 41 (.ar .add (t 40) (i 1)),o 6 (.mv (t 41))]
def f12l14 : SCode := (.seq (.seq (.ops f12r10) (.cond (t 39) .skip (.exit 2))) (.seq (.block 3 (.seq (.ops f12r11) (.cond (t 47) (.seq (.ops f12r12) .ret) .skip))) (.ops f12r13)))
def f12r15 : LS := [o 4 (.mv (b false))]
def f12 : SCode := (.seq (.ops f12r0) (.seq (.seq (.ops f12r1) (.cond (t 14) (.seq (.ops f12r2) .ret) .skip)) (.seq (.seq (.ops f12r3) (.block 0 (.loop f12l8))) (.seq (.seq (.ops f12r9) (.block 2 (.loop f12l14))) (.seq (.ops f12r15) .ret)))))
theorem f12_calls : Sound Tryz.prog 12 48 f12 [.t 4] := sound_of mixed Tryz.func12 rfl (by kernel_rfl) (by kernel_rfl) (by kernel_rfl)
def f17r0 : LS := [o 6 (.new [(.int .i64 0), (.int .i64 0), (.string ⟨#[]⟩), (.slice none 0 0)]),o 7 (.mv (b false))]
def f17r1 : LS := [o 14 (.mv (t 0)),o 15 (.mv (t 1)),o 16 (.mv (t 2)),o 17 (.call 20 [(t 14), (t 15), (t 16)]),o 13 (.mv (t 17)),o 18 (.ext (t 13) 0),o 19 (.ext (t 13) 1),o 20 (.ext (t 13) 2),o 8 (.new [(.int .i64 0), (.int .i64 0), (.string ⟨#[]⟩), (.slice none 0 0)]),
 q (.st 4 (t 8) (t 18)),o 9 (.mv (t 19)),o 10 (.mv (t 20))]
def f17r2 : LS := [o 22 (.mv (t 0)),o 23 (.mv (t 9)),o 24 (.call 21 [(t 22), (t 23)]),o 21 (.mv (t 24)),o 25 (.ext (t 21) 0),o 26 (.ext (t 21) 1),o 11 (.mv (t 25)),o 12 (.mv (t 26))]
def f17r3 : LS := [o 27 (.ldn 4 (t 8)),o 28 (.mv (t 12)),o 29 (.cmp .eql (t 28) (i 0)),
 q (.st 4 (t 6) (t 27)),o 7 (.mv (t 29))]
def f17 : SCode := (.seq (.ops f17r0) (.seq (.ops f17r1) (.seq (.ops f17r2) (.seq (.ops f17r3) .ret))))
theorem f17_calls : Sound Tryz.prog 17 30 f17 [.cn 6 4, .t 7] := sound_of mixed Tryz.func17 rfl (by kernel_rfl) (by kernel_rfl) (by kernel_rfl)
def f30r0 : LS := [o 1 (.box (t 0)),o 2 (.mv (b false))]
def f30r1 : LS := [o 7 (.fa 1 (t 1)),o 8 (.ld1 (t 7)),o 9 (.lens (t 8)),o 3 (.mv (t 9))]
def f30r2 : LS := [o 10 (.fa 2 (t 1)),o 11 (.ld1 (t 10)),o 12 (.len (t 11)),o 13 (.cmp .gtr (t 12) (i 40)),o 14 (.mv (t 13)),
 n 15 14 (.fa 3 (t 1)),
 n 16 14 (.ld1 (t 15)),
 n 17 14 (.len (t 16)),
 n 18 14 (.cmp .gtr (t 17) (i 40)),o 19 (.pick (t 14) (b true) (t 18)),o 20 (.mv (t 19)),
 n 21 20 (.fa 4 (t 1)),
 n 22 20 (.ld1 (t 21)),
 n 23 20 (.len (t 22)),
 n 24 20 (.cmp .gtr (t 23) (i 40)),o 25 (.pick (t 20) (b true) (t 24)),o 26 (.mv (t 25)),
 n 27 26 (.mv (t 3)),
 n 28 26 (.cmp .gtr (t 27) (i 2000)),o 29 (.pick (t 26) (b true) (t 28))]
def f30r3 : LS := [o 2 (.mv (b true))]
def f30r4 : LS := [o 4 (.mv (i 0))]
def f30r5 : LS := [o 30 (.mv (t 4)),o 31 (.fa 2 (t 1)),o 32 (.ld1 (t 31)),o 33 (.len (t 32)),o 34 (.cmp .lss (t 30) (t 33))]
def f30r6 : LS := [o 37 (.mv (t 3)),o 38 (.fa 2 (t 1)),o 39 (.ld1 (t 38)),o 40 (.mv (t 4)),o 41 (.ixs 2 (t 39) (t 40)),o 42 (.fa 0 (t 41)),o 43 (.ld1 (t 42)),o 44 (.lens (t 43)),o 45 (.ar .add (t 37) (t 44)),o 46 (.fa 2 (t 1)),o 47 (.ld1 (t 46)),o 48 (.mv (t 4)),o 49 (.ixs 2 (t 47) (t 48)),o 50 (.fa 1 (t 49)),o 51 (.ld1 (t 50)),o 52 (.lens (t 51)),o 53 (.ar .add (t 45) (t 52)),o 3 (.mv (t 53))]
def f30r7 : LS := [o 54 (.mv (t 3)),o 55 (.cmp .gtr (t 54) (i 2000))]
def f30r8 : LS := [o 2 (.mv (b true))]
def f30r9 : LS := [o 35 (.mv (t 4)),o 36 (.ar .add (t 35) (i 1)),o 4 (.mv (t 36))]
def f30l10 : SCode := (.seq (.seq (.ops f30r5) (.cond (t 34) .skip (.exit 0))) (.seq (.block 1 (.seq (.ops f30r6) (.seq (.ops f30r7) (.cond (t 55) (.seq (.ops f30r8) .ret) .skip)))) (.ops f30r9)))
def f30r11 : LS := [o 5 (.mv (i 0))]
def f30r12 : LS := [o 56 (.mv (t 5)),o 57 (.fa 3 (t 1)),o 58 (.ld1 (t 57)),o 59 (.len (t 58)),o 60 (.cmp .lss (t 56) (t 59))]
def f30r13 : LS := [o 63 (.mv (t 3)),o 64 (.fa 3 (t 1)),o 65 (.ld1 (t 64)),o 66 (.mv (t 5)),o 67 (.ixs 1 (t 65) (t 66)),o 68 (.ld1 (t 67)),o 69 (.lens (t 68)),o 70 (.ar .add (t 63) (t 69)),o 3 (.mv (t 70))]
def f30r14 : LS := [o 71 (.mv (t 3)),o 72 (.cmp .gtr (t 71) (i 2000))]
def f30r15 : LS := [o 2 (.mv (b true))]
def f30r16 : LS := [o 61 (.mv (t 5)),o 62 (.ar .add (t 61) (i 1)),o 5 (.mv (t 62))]
def f30l17 : SCode := (.seq (.seq (.ops f30r12) (.cond (t 60) .skip (.exit 2))) (.seq (.block 3 (.seq (.ops f30r13) (.seq (.ops f30r14) (.cond (t 72) (.seq (.ops f30r15) .ret) .skip)))) (.ops f30r16)))
def f30r18 : LS := [o 6 (.mv (i 0))]
def f30r19 : LS := [o 73 (.mv (t 6)),o 74 (.fa 4 (t 1)),o 75 (.ld1 (t 74)),o 76 (.len (t 75)),o 77 (.cmp .lss (t 73) (t 76))]
def f30r20 : LS := [o 80 (.mv (t 3)),o 81 (.fa 4 (t 1)),o 82 (.ld1 (t 81)),o 83 (.mv (t 6)),o 84 (.ixs 2 (t 82) (t 83)),o 85 (.fa 0 (t 84)),o 86 (.ld1 (t 85)),o 87 (.lens (t 86)),o 88 (.ar .add (t 80) (t 87)),o 3 (.mv (t 88))]
def f30r21 : LS := [o 89 (.mv (t 3)),o 90 (.cmp .gtr (t 89) (i 2000))]
def f30r22 : LS := [o 2 (.mv (b true))]
def f30r23 : LS := [o 78 (.mv (t 6)),o 79 (.ar .add (t 78) (i 1)),o 6 (.mv (t 79))]
def f30l24 : SCode := (.seq (.seq (.ops f30r19) (.cond (t 77) .skip (.exit 4))) (.seq (.block 5 (.seq (.ops f30r20) (.seq (.ops f30r21) (.cond (t 90) (.seq (.ops f30r22) .ret) .skip)))) (.ops f30r23)))
def f30r25 : LS := [o 2 (.mv (b false))]
def f30 : SCode := (.seq (.ops f30r0) (.seq (.ops f30r1) (.seq (.seq (.ops f30r2) (.cond (t 29) (.seq (.ops f30r3) .ret) .skip)) (.seq (.seq (.ops f30r4) (.block 0 (.loop f30l10))) (.seq (.seq (.ops f30r11) (.block 2 (.loop f30l17))) (.seq (.seq (.ops f30r18) (.block 4 (.loop f30l24))) (.seq (.ops f30r25) .ret)))))))
theorem f30_calls : Sound Tryz.prog 30 91 f30 [.t 2] := sound_of mixed Tryz.func30 rfl (by kernel_rfl) (by kernel_rfl) (by kernel_rfl)
end Go.Proofs.YtjnijlnmbjjgpaaGreatDoor.C
set_option maxRecDepth 100000
namespace Go.Proofs.YtjnijlnmbjjgpaaGreatDoor.C
open Go Go.Sx Go.Sx.S
def f229r0 : LS := [o 4 (.mv (i 0))]
def f229r1 : LS := [o 6 (.mv (t 0)),o 7 (.len (t 6)),o 8 (.mv (i 0))]
def f229r2 : LS := [o 9 (.cmp .lss (t 8) (t 7))]
def f229r3 : LS := [o 10 (.mv (t 8)),o 5 (.mv (t 10))]
def f229r4 : LS := [o 11 (.mv (t 1)),o 12 (.mv (t 0)),o 13 (.mv (t 5)),o 14 (.ixs 2 (t 12) (t 13)),o 15 (.ldn 2 (t 14)),o 16 (.callv (t 11) [(t 15)])]
def f229r5 : LS := [o 17 (.mv (t 5)),o 4 (.mv (t 17))]
def f229r6 : LS := [o 18 (.ar .add (t 8) (i 1)),o 8 (.mv (t 18))]
def f229l7 : SCode := (.seq (.ops f229r2) (.seq (.cond (t 9) .skip (.exit 0)) (.seq (.block 1 (.seq (.ops f229r3) (.seq (.ops f229r4) (.cond (t 16) (.seq (.ops f229r5) .ret) .skip)))) (.ops f229r6))))
def f229r8 : LS := [o 4 (.mv (i (-1)))]
def f229 : SCode := (.seq (.ops f229r0) (.seq (.seq (.ops f229r1) (.block 0 (.loop f229l7))) (.seq (.ops f229r8) .ret)))
theorem f229_calls : Sound Tryz.prog 229 19 f229 [.t 4] := sound_of mixed Tryz.func229 rfl (by kernel_rfl) (by kernel_rfl) (by kernel_rfl)
def f235r0 : LS := [o 4 (.mv (i 0)),o 5 (.mv (b false))]
def f235r1 : LS := [o 10 (.mv (t 0)),o 11 (.len (t 10)),o 6 (.mv (t 11))]
def f235r2 : LS := [o 12 (.mv (t 6)),o 7 (.mv (i 0)),o 8 (.mv (t 12))]
def f235r3 : LS := [o 13 (.mv (t 7)),o 14 (.mv (t 8)),o 15 (.cmp .lss (t 13) (t 14))]
def f235r4 : LS := [o 16 (.mv (t 7)),o 17 (.mv (t 8)),o 18 (.ar .add (t 16) (t 17)),o 19 (.cvt .u64 (t 18)),o 20 (.sh .u64 false 1 (t 19)),o 21 (.cvt .i64 (t 20)),o 9 (.mv (t 21))]
def f235r5 : LS := [o 22 (.mv (t 0)),o 23 (.mv (t 9)),o 24 (.ixs 1 (t 22) (t 23)),o 25 (.ld1 (t 24)),o 26 (.mv (t 1)),o 27 (.call 277 [(t 25), (t 26)])]
def f235r6 : LS := [o 28 (.mv (t 9)),o 29 (.ar .add (t 28) (i 1)),o 7 (.mv (t 29))]
def f235r7 : LS := [o 30 (.mv (t 9)),o 8 (.mv (t 30))]
def f235l8 : SCode := (.seq (.seq (.ops f235r3) (.cond (t 15) .skip (.exit 0))) (.block 1 (.seq (.ops f235r4) (.seq (.ops f235r5) (.cond (t 27) (.ops f235r6) (.ops f235r7))))))
def f235r9 : LS := [o 31 (.mv (t 7)),o 32 (.mv (t 7)),o 33 (.mv (t 6)),o 34 (.cmp .lss (t 32) (t 33)),o 35 (.mv (t 34)),
 g 36 35 (.mv (t 0)),
 g 37 35 (.mv (t 7)),
 g 38 35 (.ixs 1 (t 36) (t 37)),
 g 39 35 (.ld1 (t 38)),
 g 40 35 (.mv (t 1)),
 g 41 35 (.cmp .eql (t 39) (t 40)),
 g 42 35 (.mv (t 41)),
 n 43 42 (.mv (t 0)),
 n 44 42 (.mv (t 7)),
 n 45 42 (.ixs 1 (t 43) (t 44)),
 n 46 42 (.ld1 (t 45)),
 n 47 42 (.call 278 [(t 46)]),
 n 48 42 (.mv (t 47)),
 g 49 48 (.mv (t 1)),
 g 50 48 (.call 278 [(t 49)]),
 n 51 42 (.pick (t 48) (t 50) (b false)),
 g 52 35 (.pick (t 42) (b true) (t 51)),o 53 (.pick (t 35) (t 52) (b false)),o 4 (.mv (t 31)),o 5 (.mv (t 53))]
def f235 : SCode := (.seq (.ops f235r0) (.seq (.ops f235r1) (.seq (.ops f235r2) (.seq (.block 0 (.loop f235l8)) (.seq (.ops f235r9) .ret)))))
theorem f235_calls : Sound Tryz.prog 235 54 f235 [.t 4, .t 5] := sound_of mixed Tryz.func235 rfl (by kernel_rfl) (by kernel_rfl) (by kernel_rfl)
def f277r0 : LS := [o 4 (.mv (b false))]
def f277r1 : LS := [o 5 (.mv (t 0)),o 6 (.call 306 [(t 5)]),o 7 (.mv (t 6)),
 g 8 7 (.mv (t 1)),
 g 9 7 (.call 306 [(t 8)]),
 g 10 7 (.un .not (t 9)),o 11 (.pick (t 7) (t 10) (b false)),o 12 (.mv (t 11)),
 n 13 12 (.mv (t 0)),
 n 14 12 (.mv (t 1)),
 n 15 12 (.cmp .lss (t 13) (t 14)),o 16 (.pick (t 12) (b true) (t 15)),o 4 (.mv (t 16))]
def f277 : SCode := (.seq (.ops f277r0) (.seq (.ops f277r1) .ret))
theorem f277_calls : Sound Tryz.prog 277 17 f277 [.t 4] := sound_of mixed Tryz.func277 rfl (by kernel_rfl) (by kernel_rfl) (by kernel_rfl)
def f278r0 : LS := [o 2 (.mv (b false))]
def f278r1 : LS := [o 3 (.mv (t 0)),o 4 (.mv (t 0)),o 5 (.cmp .neq (t 3) (t 4)),o 2 (.mv (t 5))]
def f278 : SCode := (.seq (.ops f278r0) (.seq (.ops f278r1) .ret))
theorem f278_calls : Sound Tryz.prog 278 6 f278 [.t 2] := sound_of mixed Tryz.func278 rfl (by kernel_rfl) (by kernel_rfl) (by kernel_rfl)
def f306r0 : LS := [o 2 (.mv (b false))]
def f306r1 : LS := [o 3 (.mv (t 0)),o 4 (.mv (t 0)),o 5 (.cmp .neq (t 3) (t 4)),o 2 (.mv (t 5))]
def f306 : SCode := (.seq (.ops f306r0) (.seq (.ops f306r1) .ret))
theorem f306_calls : Sound Tryz.prog 306 6 f306 [.t 2] := sound_of mixed Tryz.func306 rfl (by kernel_rfl) (by kernel_rfl) (by kernel_rfl)
end Go.Proofs.YtjnijlnmbjjgpaaGreatDoor.C
namespace Go.Proofs.YtjnijlnmbjjgpaaGreatDoor
open Go Go.Sx C
theorem ixfP_calls {h : Heap} {v : Value} {l : List Pair} {g : Nat} {cap : List Value} {p : Pair → Bool} (hv : SL encP h v l) (hl : l.length < 4611686018427387904)
  (hg : ∀ h' x, Chg [] h h' → CallsH Tryz.prog g (.agg ⟨encP x⟩ :: cap) h' (Ret fun u h'' => u = .bool (p x) ∧ Chg [] h' h'')) :
  CallsH Tryz.prog 229 [v, .func (.func g) #[] ⟨cap⟩] h
   (Ret fun r h' => ((∃ (k : Nat) (hk : k < l.length), r = .int .i64 k ∧ p l[k] = true ∧ ∀ x ∈ l.take k, p x = false) ∨ (r = .int .i64 (-1) ∧ ∀ x ∈ l, p x = false)) ∧ Chg [] h h') := by
 obtain ⟨a, c, rfl, hlc⟩ := hv.form
 refine f229_calls (by simp) ?_
 refine loop_intro (fun k : Nat => [(0, .slice a l.length c), (1, .func (.func g) #[] ⟨cap⟩), (7, .int .i64 l.length), (8, .int .i64 k)]) (fun k h' => k ≤ l.length ∧ Chg [] h h' ∧ ∀ x ∈ l.take k, p x = false) (fun k => l.length - k) 0
  ⟨rfl, rfl, rfl, rfl, trivial⟩ ⟨Nat.zero_le _, Chg.refl h, by simp⟩ ?_
 rintro k h1 ⟨hk, hc, hall⟩
 refine Ai rfl (Ai (fun hlt => ?_) (fun hlt => ?_))
 ·have hlt : k < l.length := by omega
  have hv1 := hv.ext hc
  obtain ⟨b, o, rfl⟩ := hv1.addr (by omega)
  have hcs := hv1.cells encP_len (i := k) (x := l[k]) (by simp [hlt])
  refine Ai (by omega) (Ai (by omega) (Ei (encP l[k]) (Ai rfl (Ai hcs ?_))))
  refine call_ret (hg h1 l[k] hc) ?_
  rintro _ h2 ⟨rfl, hc2⟩
  cases hp : p l[k] with
  |true => exact Ai (.inl ⟨k, hlt, rfl, hp, hall⟩) (hc.nil hc2)
  |false =>
   refine Ai rfl (fun y hy => ?_)
   have hy := add_in hy (by omega) (by omega)
   subst hy
   refine Ai rfl (Ei (k + 1) (Ai ?_ (Ai ?_ ?_)))
   ·exact ⟨rfl, rfl, rfl, rfl, trivial⟩
   ·refine ⟨by omega, hc.nil hc2, fun x hx => ?_⟩
    rw [take_snoc l k hlt] at hx
    rcases List.mem_append.1 hx with hx | hx
    ·exact hall x hx
    ·simp at hx; rw [hx]; exact hp
   ·omega
 ·have hkl : k = l.length := by omega
  subst hkl
  rw [List.take_length] at hall
  exact Ai (.inr ⟨rfl, hall⟩) hc
theorem cNaN_calls {h : Heap} {s : ByteArray} : CallsH Tryz.prog 306 [.string s] h (Ret fun r h' => r = .bool false ∧ h' = h) := by
 refine f306_calls (by simp) ?_
 exact Ai (fun h1 => absurd rfl h1) (fun _ => ⟨rfl, rfl⟩)
theorem sNaN_calls {h : Heap} {s : ByteArray} : CallsH Tryz.prog 278 [.string s] h (Ret fun r h' => r = .bool false ∧ h' = h) := by
 refine f278_calls (by simp) ?_
 exact Ai (fun h1 => absurd rfl h1) (fun _ => ⟨rfl, rfl⟩)
theorem cLess_calls {h : Heap} {x y : ByteArray} : CallsH Tryz.prog 277 [.string x, .string y] h (Ret fun r h' => r = .bool (sless x y) ∧ h' = h) := by
 refine f277_calls (by simp) ?_
 refine callp cNaN_calls ?_
 refine Ai (fun hl => ?_) (fun hl => ?_)
 ·have e : sless x y = true := hl
  exact ⟨by rw [e]; rfl, rfl⟩
 ·have e : sless x y = false := by
   cases hb : sless x y with
   |false => rfl
   |true => exact absurd hb hl
  exact ⟨by rw [e]; rfl, rfl⟩
theorem bsO_calls {h : Heap} {v : Value} {l : List ByteArray} {tgt : ByteArray} (hv : SL encS h v l) (hl : l.length < 4611686018427387904) (hs : l.Pairwise fun a b => sless a b = true) :
  CallsH Tryz.prog 235 [v, .string tgt] h (Ret fun r h' => (∃ k : Nat, r = .tuple #[.int .i64 k, .bool (thereL l tgt)]) ∧ h' = h) := by
 obtain ⟨a, c, rfl, hlc⟩ := hv.form
 have hm : ∀ i j (hj : j < l.length) (hi : i ≤ j), sless l[j] tgt = true → sless (l[i]'(by omega)) tgt = true := fun i j hj hi hb => by
  by_cases e : i = j
  ·subst e; exact hb
  ·exact sless_trans (List.pairwise_iff_getElem.1 hs i j (by omega) hj (by omega)) hb
 refine f235_calls (by simp) ?_
 refine loop_intro (fun p : Nat × Nat => [(0, .slice a l.length c), (1, .string tgt), (6, .int .i64 l.length), (7, .int .i64 p.1), (8, .int .i64 p.2)])
  (fun p h' => p.1 ≤ p.2 ∧ p.2 ≤ l.length ∧ h' = h ∧ (∀ i (_ : i < p.1) (h : i < l.length), sless l[i] tgt = true) ∧ (∀ i (_ : p.2 ≤ i) (h : i < l.length), sless l[i] tgt = false)) (fun p => p.2 - p.1) (0, l.length)
  ⟨rfl, rfl, rfl, rfl, rfl, trivial⟩ ⟨Nat.zero_le _, Nat.le_refl _, rfl, by intro i hi; omega, by intro i hi hh; omega⟩ ?_
 rintro ⟨i, j⟩ h1 ⟨hij, hjl, hc, hlow, hhigh⟩
 have hc := hc.symm
 subst hc
 simp only at hij hjl hlow hhigh
 refine Ai rfl (Ai (fun hlt => ?_) (fun hlt => ?_))
 ·have hlt : i < j := by omega
  refine Ai rfl (fun z hz => ?_)
  have hz := add_in hz (by omega) (by omega)
  subst hz
  intro z hz
  rw [wrapU (by omega) (by omega)] at hz
  subst hz
  refine Ai rfl (fun z hz => ?_)
  have hz : z = ((i : Int) + j) / 2 := by
   have : z = ((i : Int) + j).fdiv (2 ^ 1) := hz
   rw [this, Int.fdiv_eq_ediv_of_nonneg _ (by decide)]
   rfl
  subst hz
  intro z hz
  rw [wrap_in (by omega) (by omega)] at hz
  obtain ⟨m, hm1⟩ : ∃ m : Nat, m = (i + j) / 2 := ⟨_, rfl⟩
  have hz : z = (m : Int) := by omega
  subst hz
  have him : i ≤ m := by omega
  have hmj : m < j := by omega
  have hml : m < l.length := by omega
  obtain ⟨b, o, rfl⟩ := hv.addr (by omega)
  have hcs := hv.cells encS_len (i := m) (x := l[m]) (by simp [hml])
  refine Ai (by omega) (Ai (by omega) (Ei _ (Ai (hcs 0 _ rfl) ?_)))
  refine callp cLess_calls ?_
  cases hb : sless l[m] tgt with
  |true =>
   refine Ai rfl (fun y hy => ?_)
   have hy := add_in hy (by omega) (by omega)
   have hy : y = ((m + 1 : Nat) : Int) := by omega
   subst hy
   refine Ai rfl (Ei (m + 1, j) (Ai ?_ (Ai ?_ ?_)))
   ·exact ⟨rfl, rfl, rfl, rfl, rfl, trivial⟩
   ·refine ⟨by simp only; omega, hjl, rfl, fun q hq hql => ?_, hhigh⟩
    exact hm q m hml (by simp only at hq; omega) hb
   ·simp only; omega
  |false =>
   refine Ai rfl (Ei (i, m) (Ai ?_ (Ai ?_ ?_)))
   ·exact ⟨rfl, rfl, rfl, rfl, rfl, trivial⟩
   ·refine ⟨him, by simp only; omega, rfl, hlow, fun q hq hql => ?_⟩
    cases hbb : sless l[q] tgt with
    |false => rfl
    |true => rw [hm m q hql (by simp only at hq; omega) hbb] at hb; cases hb
   ·simp only; omega
 ·have hij2 : i = j := by omega
  subst hij2
  have hno : (∀ (hi : i < l.length), l[i] ≠ tgt) → thereL l tgt = false := fun hne => decide_eq_false fun hm9 => by
   obtain ⟨q, hq, e⟩ := List.getElem_of_mem hm9
   by_cases h1 : q < i
   ·have := hlow q h1 hq
    rw [e, sless_irrefl] at this
    cases this
   ·by_cases h2 : q = i
    ·subst h2; exact hne hq e
    ·have h3 := List.pairwise_iff_getElem.1 hs i q (by omega) hq (by omega)
     rw [e] at h3
     have h4 := hhigh i (Nat.le_refl _) (by omega)
     rw [h3] at h4
     cases h4
  refine Ai rfl (Ai (fun hin => ?_) (fun hin => ?_))
  ·have hin : i < l.length := by omega
   obtain ⟨b, o, rfl⟩ := hv.addr (by omega)
   have hcs := hv.cells encS_len (i := i) (x := l[i]) (by simp [hin])
   refine Ai (by omega) (Ai (by omega) (Ei _ (Ai (hcs 0 _ rfl) ?_)))
   refine Ai (fun he => ?_) (fun hne => ?_)
   ·have e : thereL l tgt = true := decide_eq_true (by rw [← show l[i] = tgt from he]; exact List.getElem_mem hin)
    exact ⟨⟨i, by rw [e]; rfl⟩, rfl⟩
   ·refine Ai (by omega) (Ai (by omega) (Ei _ (Ai (hcs 0 _ rfl) ?_)))
    refine callp sNaN_calls ?_
    exact ⟨⟨i, by rw [hno fun _ => hne]; rfl⟩, rfl⟩
  ·exact ⟨⟨i, by rw [hno fun h9 => by omega]; rfl⟩, rfl⟩
section
variable {h0 h h1 h' : Heap} {ab kb sb mb c bs bt b1 b2 : Nat} {now : Int} {av lv pv lw rv fv : Value} {key s n : ByteArray} {t : Thing} {is : Bool} {A pre : List ByteArray} {L : List Eff} {M : List En} {T : List Nat} {p : ByteArray → Bool} {Z : Heap → Prop}
theorem thC (hE : (cE ab kb now av key t is pv lw rv lv L).at h) : SL encP h pv t.pairs ∧ SL encS h lw t.list ∧ SL encR h rv t.ranks := by
 obtain ⟨_, _, hT, _⟩ := hE
 obtain ⟨p, l, r, e, h1, h2, h3⟩ := hT
 simp only [cellsT, List.cons.injEq, and_true, true_and] at e
 obtain ⟨rfl, rfl, rfl⟩ := e
 exact ⟨h1, h2, h3⟩
theorem fieldD1_calls {b : Nat} (B : Blk h b [.string n]) (x : Pair) : CallsH Tryz.prog 230 [.agg ⟨encP x⟩, ptr b] h (Ret fun u h' => u = .bool (decide (x.name = n)) ∧ Chg [] h h') := by
 refine f230_calls (by simp) ?_
 intro b2 h1 g1
 refine Ei _ (Ai (cell_blk g1.blk rfl) (Ei _ (Ai (cell_blk (B.chg g1.chg (by simp)) rfl) ?_)))
 refine Ai (fun he => ?_) (fun hne => ?_)
 ·exact ⟨by rw [decide_eq_true (show x.name = n from he)]; rfl, g1.chg⟩
 ·exact ⟨by rw [decide_eq_false (show ¬ x.name = n from hne)]; rfl, g1.chg⟩
theorem find_at {l : List Pair} {k : Nat} (hk : k < l.length) (hp : decide (l[k].name = n) = true) (hn : ∀ x ∈ l.take k, decide (x.name = n) = false) : fieldF l n = some l[k].text := by
 unfold fieldF
 have e : l = l.take k ++ l[k] :: l.drop (k + 1) := by rw [← List.drop_eq_getElem_cons hk, List.take_append_drop]
 have hf : l.find? (fun p => decide (p.name = n)) = some l[k] := by
  rw [List.find?_eq_some_iff_append]
  exact ⟨hp, l.take k, l.drop (k + 1), e, fun x hx => by rw [hn x hx]; rfl⟩
 rw [hf]; rfl
theorem find_no9 {l : List Pair} (hn : ∀ x ∈ l, decide (x.name = n) = false) : fieldF l n = none := by
 unfold fieldF
 rw [List.find?_eq_none.2 fun x hx => by rw [hn x hx]; simp]; rfl
theorem field9_calls (hE : (cE ab kb now av key t is pv lw rv lv L).at h) (hl : t.pairs.length < 4611686018427387904) :
  CallsH Tryz.prog 154 [ptr ab, .string n] h (Ret fun r h' => r = .tuple #[.string ((fieldF t.pairs n).getD noText), .bool (fieldF t.pairs n).isSome] ∧ Chg [] h h') := by
 have sp := (thC hE).1
 obtain ⟨pa, pc, rfl, _⟩ := sp.form
 refine f154_calls (by simp) ?_
 intro b3 h1 g1
 refine Ei _ (Ai (cell_blk (hE.1.chg g1.chg (by simp)) rfl) ?_)
 refine call_ret (ixfP_calls (g := 230) (cap := [ptr b3]) (p := fun x => decide (x.name = n)) (sp.ext g1.chg) hl fun h' x hc => fieldD1_calls (g1.blk.chg hc (by simp)) x) ?_
 rintro r h2 ⟨hr, c2⟩
 have c02 := g1.chg.nil c2
 rcases hr with ⟨k, hk, rfl, hp, hn⟩ | ⟨rfl, hn⟩
 ·rw [find_at hk hp hn]
  refine Ai rfl (Ai (fun h9 => absurd h9 (by omega)) (fun _ => ?_))
  refine Ei _ (Ai (cell_blk (hE.1.chg c02 (by simp)) rfl) ?_)
  have sp2 := sp.ext c02
  obtain ⟨b, o, rfl⟩ := sp2.addr (by omega)
  have hcs := sp2.cells encP_len (i := k) (x := t.pairs[k]) (by simp [hk])
  refine Ai (by omega) (Ai (by omega) (Ei _ (Ai (hcs 1 _ rfl) ?_)))
  exact ⟨rfl, c02⟩
 ·rw [find_no9 hn]
  refine Ai rfl (Ai (fun _ => ?_) (fun h9 => absurd (by decide) h9))
  exact ⟨rfl, c02⟩
theorem member9_calls (hE : (cE ab kb now av key t is pv lw rv lv L).at h) (hl : t.list.length < 4611686018427387904) (hs : t.list.Pairwise fun a b => sless a b = true) :
  CallsH Tryz.prog 172 [ptr ab, .string n] h (Ret fun r h' => r = .bool (thereL t.list n) ∧ Chg [] h h') := by
 have sp := (thC hE).2.1
 obtain ⟨pa, pc, rfl, _⟩ := sp.form
 refine f172_calls (by simp) ?_
 refine Ei _ (Ai (cell_blk hE.1 rfl) ?_)
 refine call_ret (bsO_calls sp hl hs) ?_
 rintro r h2 ⟨⟨k, rfl⟩, e⟩
 have e := e.symm
 subst e
 exact ⟨rfl, Chg.refl _⟩
def TC (ab kb : Nat) (now : Int) (av : Value) (t : Thing) (is : Bool) (pv lw rv : Value) (Z : Heap → Prop) (fv : Value) (p : ByteArray → Bool) : Prop :=
 ∃ g fi cap, fv = .func (.func g) fi cap ∧ ∀ {h : Heap} {s key : ByteArray} {lv : Value} {L : List Eff}, (cE ab kb now av key t is pv lw rv lv L).at h → Z h → CallsH Tryz.prog g (fi.toList ++ [.string s] ++ cap.toList) h (Ret fun u h' => u = .bool (p s) ∧ Chg [] h h')
theorem tc_hset (hl : t.pairs.length < 4611686018427387904) : TC ab kb now av t is pv lw rv (fun h => Blk h b1 [ptr ab]) (.func (.func 153) #[] #[ptr b1]) (thereH t.pairs) :=
 ⟨_, _, _, rfl, fun {h s key lv L} hE hZ => by
  refine f153_calls (by simp) ?_
  refine Ei _ (Ai (cell_blk hZ rfl) ?_)
  refine call_ret (field9_calls hE hl) ?_
  rintro _ h2 ⟨rfl, c2⟩
  exact ⟨rfl, c2⟩⟩
theorem tc_member (hl : t.list.length < 4611686018427387904) (hs : t.list.Pairwise fun a b => sless a b = true) : TC ab kb now av t is pv lw rv (fun _ => True) (.func (.func 172) #[ptr ab] #[]) (thereL t.list) :=
 ⟨_, _, _, rfl, fun {h s key lv L} hE _ => member9_calls hE hl hs⟩
def frE (bs mb bt : Nat) (fv : Value) (pre : List ByteArray) : En :=
 .x [bs, mb, bt] (fun h => Blk h bs [.map (some mb)] ∧ (∃ es c, MapB h mb es c ∧ CM es pre) ∧ Blk h bt [fv] ∧ bs ≠ mb ∧ bt ≠ mb)
  (fun _ _ _ hc hn ⟨h1, ⟨es, c, h2, h3⟩, h4, h5, h6⟩ => ⟨h1.chg hc (hn _ (by simp)), ⟨es, c, h2.chg hc (hn _ (by simp)), h3⟩, h4.chg hc (hn _ (by simp)), h5, h6⟩)
  (fun _ ⟨h1, ⟨_, _, h2, _⟩, h4, _⟩ b hb => by
   simp at hb
   rcases hb with rfl | rfl | rfl
   ·exact h1.lt
   ·exact h2.lt
   ·exact h4.lt)
theorem fresh9_calls {f : Fn} {fi cap : Array Value} : CallsH Tryz.prog 152 [.func f fi cap] h (Ret fun r h' => (∃ bs mb bt, r = .func (.func 228) #[] #[ptr bs, ptr bt] ∧ (frE bs mb bt (.func f fi cap) []).at h' ∧ ∀ b ∈ [bs, mb, bt], h.size ≤ b) ∧ Chg [] h h') := by
 refine f152_calls (by simp) ?_
 intro bt h1 g1
 have w := (St.start h).new g1
 intro mb h2 g2
 have w := w.newm g2
 intro bs h3 g3
 have w := w.new g3
 refine w.st1 0 rfl rfl rfl rfl fun h4 w => ?_
 have n1 := g1.id; have n2 := g2.id; have n3 := g3.id
 have z1 := g1.size; have z2 := g2.size; have z3 := g3.size
 refine ⟨⟨bs, mb, bt, rfl, ⟨w.get 0 rfl, ⟨[], 0, w.get 1 rfl, CM.nil⟩, w.get 2 rfl, by omega, by omega⟩, fun b hb => ?_⟩, w.chg⟩
 simp at hb
 rcases hb with rfl | rfl | rfl <;> omega
theorem _root_.Go.Sx.St.fresh {K : Value → Heap → Prop} {Qp : List PanicEntry → Heap → Prop} (w : St T h0 h M) (i j : Nat) (hi : M[i]? = some (frE bs mb bt fv pre)) (hj : M[j]? = some (cE ab kb now av key t is pv lw rv lv L)) (hij : i ≠ j)
  (tc : TC ab kb now av t is pv lw rv Z fv p) (hZ : ∀ h', Chg [mb] h h' → Z h') (hpre : pre.length < 4611686018427387904)
  (k : ∀ h', St T h0 h' (M.set i (frE bs mb bt fv (pre ++ [s]))) → K (.bool (!p s && decide (s ∉ pre))) h') : CallsH Tryz.prog 228 [.string s, ptr bs, ptr bt] h (after K Qp) := by
 obtain ⟨B1, ⟨es, c, hM, cm⟩, B2, n1, n2⟩ := w.get i hi
 have hE := w.get j hj
 have hap : mb ∉ (cE ab kb now av key t is pv lw rv lv L).fp := w.apart i j _ _ hi hj hij mb (by simp [frE, En.fp])
 have hcl : cntB s pre ≤ pre.length := cntB_le
 have main : CallsH Tryz.prog 228 [.string s, ptr bs, ptr bt] h (Ret fun u h' => u = .bool (!p s && decide (s ∉ pre)) ∧ (frE bs mb bt fv (pre ++ [s])).at h' ∧ Chg [mb] h h') := by
  obtain ⟨g, fi, cap, rfl, hg⟩ := tc
  refine f228_calls (by simp) ?_
  refine Ei _ (Ai (cell_blk B1 rfl) ?_)
  -- behind the map's turn
  have rest : ∀ {h4 : Heap} {es' : List MapEntry} {c' : Nat}, PutO h h4 mb (.map ⟨es'⟩ c') → CM es' (pre ++ [s]) →
    swp Tryz.prog (.seq (.ops f228r2) .ret) (retQ [.t 4] (Ret fun u h' => u = .bool (!p s && decide (s ∉ pre)) ∧ (frE bs mb bt (.func (.func g) fi cap) (pre ++ [s])).at h' ∧ Chg [mb] h h')) (mk [(0, .string s), (1, ptr bs), (2, ptr bt)]) [] h4 := fun {h4 es' c'} p4 cm' => by
   have c4 : Chg [mb] h h4 := p4.chg
   have M4 : MapB h4 mb es' c' := p4.blk
   have B14 := B1.chg c4 (by simp [n1])
   have B24 := B2.chg c4 (by simp [n2])
   have hfr : ∀ {h5}, Chg [] h4 h5 → (frE bs mb bt (.func (.func g) fi cap) (pre ++ [s])).at h5 := fun c5 => ⟨B14.chg c5 (by simp), ⟨es', c', M4.chg c5 (by simp), cm'⟩, B24.chg c5 (by simp), n1, n2⟩
   obtain ⟨j2, e2⟩ := cm'.hit
   refine Ei _ (Ai (cell_blk B14 rfl) ?_)
   refine Ai rfl (Ei es' (Ei c' (Ai M4 (Ai cm'.fits ?_))))
   rw [e2]
   refine Ai rfl (Ai (fun h1 => ?_) (fun h1 => ?_))
   ·have hc0 : cntB s pre = 0 := by omega
    have hno : s ∉ pre := fun hm => by have := cntB_pos hm; omega
    refine Ei _ (Ai (cell_blk B24 rfl) ?_)
    have hE4 : (cE ab kb now av key t is pv lw rv lv L).at h4 := En.chg hE c4 (fun b hb hm => by simp at hm; subst hm; exact hap hb)
    refine call_ret (hg hE4 (hZ h4 c4)) ?_
    rintro _ h5 ⟨rfl, c5⟩
    refine ⟨?_, hfr c5, c4.trans c5 (by simp) (by simp)⟩
    rw [decide_eq_true hno, Bool.and_true]
    rfl
   ·have hin : s ∈ pre := by
     rcases Decidable.em (s ∈ pre) with h9 | h9
     ·exact h9
     ·exact absurd (by rw [cntB_zero h9]; rfl) h1
    refine ⟨?_, hfr (Chg.refl _), c4⟩
    rw [decide_eq_false (fun h9 => h9 hin), Bool.and_false]
    rfl
  rcases cm.cnt s with ⟨e1, hn⟩ | ⟨j1, e1, hm⟩
  ·refine Ai rfl (Ei es (Ei c (Ai hM (Ai cm.fits ?_))))
   rw [e1]
   refine Ai rfl (fun z hz => ?_)
   have hz : z = 1 := by have := add_in hz (by omega) (by omega); omega
   subst hz
   refine Ai rfl (Ei es (Ei c (Ai hM (Ai cm.fits ?_))))
   rw [e1]
   intro h4 p4
   exact cut_at [(0, .string s), (1, ptr bs), (2, ptr bt)] ⟨rfl, rfl, rfl, trivial⟩ (rest p4 (cm.put0 (c := c) e1 hn rfl))
  ·refine Ai rfl (Ei es (Ei c (Ai hM (Ai cm.fits ?_))))
   rw [e1]
   refine Ai rfl (fun z hz => ?_)
   have hz := add_in hz (by omega) (by omega)
   subst hz
   refine Ai rfl (Ei es (Ei c (Ai hM (Ai cm.fits ?_))))
   rw [e1]
   intro h4 p4
   exact cut_at [(0, .string s), (1, ptr bs), (2, ptr bt)] ⟨rfl, rfl, rfl, trivial⟩ (rest p4 (cm.put1 e1 rfl))
 refine call_ret main ?_
 rintro _ h2 ⟨rfl, hf, c2⟩
 exact k h2 (w.set i hi c2 (fun b hb => .inl (by simp at hb; simp [frE, En.fp, hb])) hf (fun b hb => .inl hb))
end
end Go.Proofs.YtjnijlnmbjjgpaaGreatDoor
namespace Go.Proofs.YtjnijlnmbjjgpaaGreatDoor
open Go Go.Sx C
theorem newL_app {th : ByteArray → Bool} : ∀ {a b pre : List ByteArray}, newL th pre (a ++ b) = newL th pre a ++ newL th (pre ++ a) b
 |[], b, pre => by simp [newL]
 |x :: a, b, pre => by
  have ih := newL_app (th := th) (a := a) (b := b) (pre := pre ++ [x])
  have e : pre ++ [x] ++ a = pre ++ x :: a := by simp
  rw [e] at ih
  simp only [List.cons_append, newL, ih, List.append_assoc]
theorem newL_snoc {th : ByteArray → Bool} {l : List ByteArray} {q : Nat} (hq : q < l.length) : newL th [] (l.take (q + 1)) = newL th [] (l.take q) ++ (if (!th l[q] && decide (l[q] ∉ l.take q)) = true then [l[q]] else []) := by
 rw [List.take_succ_eq_append_getElem hq, newL_app]
 simp [newL]
theorem newL_le {th : ByteArray → Bool} {l : List ByteArray} (q : Nat) : (newL th [] (l.take q)).length ≤ (newL th [] l).length := by
 have := newL_app (th := th) (a := l.take q) (b := l.drop q) (pre := [])
 rw [List.take_append_drop] at this
 rw [this, List.length_append]
 omega
theorem newL_len {th : ByteArray → Bool} : ∀ {l pre : List ByteArray}, (newL th pre l).length ≤ l.length
 |[], _ => Nat.le_refl _
 |x :: l, pre => by
  have := newL_len (th := th) (l := l) (pre := pre ++ [x])
  simp only [newL]
  split <;> simp <;> omega
theorem newL_cnt {th : ByteArray → Bool} {l : List ByteArray} {q : Nat} {b : Bool} (hq : q < l.length) (hb : b = (!th l[q] && decide (l[q] ∉ l.take q))) : (newL th [] (l.take (q + 1))).length = (newL th [] (l.take q)).length + (if b = true then 1 else 0) := by
 rw [newL_snoc hq, ← hb]
 cases b <;> simp
theorem twos_get : ∀ {q : Nat} {l : List ByteArray} (h : 2 * q + 1 < l.length), (twos l)[q]? = some (l[2 * q], l[2 * q + 1])
 |q, [], h => by simp at h
 |q, [a], h => by simp at h
 |0, a :: b :: l, _ => rfl
 |q + 1, a :: b :: l, h => by
  have := twos_get (q := q) (l := l) (by simp at h; omega)
  show (twos l)[q]? = _
  rw [this]
  rfl
theorem twos_half : ∀ {m : Nat} {l : List ByteArray}, l.length ≤ m → 2 * (twos l).length = 2 * (l.length / 2)
 |_, [], _ => rfl
 |_, [a], _ => by simp [twos]
 |0, a :: b :: l, hm => by simp at hm
 |m + 1, a :: b :: l, hm => by
  have := twos_half (m := m) (l := l) (by simp at hm; omega)
  show 2 * ((twos l).length + 1) = 2 * ((l.length + 2) / 2)
  omega
theorem twos_small : ∀ {m : Nat} {l : List ByteArray}, l.length ≤ m → l.length % 2 = 0 → (∀ p ∈ twos l, small p.1 = true ∧ small p.2 = true) → l.all small = true
 |_, [], _, _, _ => rfl
 |_, [a], _, h, _ => by simp at h
 |0, a :: b :: l, hm, _, _ => by simp at hm
 |m + 1, a :: b :: l, hm, h2, h => by
  have := twos_small (m := m) (l := l) (by simp at hm; omega) (by simp at h2; omega) fun p hp => h p (List.mem_cons_of_mem _ hp)
  obtain ⟨h3, h4⟩ := h (a, b) (List.mem_cons_self ..)
  simp only [List.all_cons, this, h3, h4, Bool.and_self]
theorem small_of9 {l : List ByteArray} {x : ByteArray} (h : l.all small = true) (hx : x ∈ l) : x.size ≤ 1048576 := of_decide_eq_true (List.all_eq_true.1 h x hx)
section
variable {h0 h h1 h2 h' : Heap} {ab kb sb mb c b1 b2 bs bt mb2 : Nat} {now op kd : Int} {av lv pv lw rv fv v : Value} {key why : ByteArray} {t : Thing} {is : Bool} {A l pre : List ByteArray} {L : List Eff} {m : List KI} {S : Space} {M : List En} {T : List Nat} {res : Res} {th : ByteArray → Bool} {Z : Heap → Prop}
theorem cons_of {n : Int} (hn : 1 ≤ n) (hb : n ≤ A.length) : ∃ k0 l, A = k0 :: l := by
 cases A with
 |nil => simp at hb; omega
 |cons k0 l => exact ⟨k0, l, rfl⟩
theorem fr_box (w : St T h0 h M) (i j : Nat) (hi : M[i]? = some (frE bs mb2 bt fv pre)) (hj : M[j]? = some (.b b1 [v])) (hij : i ≠ j) : ∀ h', Chg [mb2] h h' → Blk h' b1 [v] := fun h' c =>
 Blk.chg (w.get j hj) c fun hm => w.apart i j _ _ hi hj hij mb2 (by simp [frE, En.fp]) (by simp at hm; simp [En.fp, hm])
set_option maxHeartbeats 2000000 in
theorem hset9 (p : P9 h0 kb sb mb c m S av A) (hs9 : S9 S) (hA : ∀ a ∈ A, a.size < 281474976710656) (x : As h0 h (c0 ab kb now av)) : CallsH Tryz.prog 81 [ptr ab] h (Cmd9 h0 h ab kb now av (cHset S now A)) := by
 refine f81_calls (by simp) ?_
 intro b1 h1 g1
 have w := x.st.new g1
 intro b2 h2 g2
 have w := w.new g2
 refine w.ld1 1 rfl rfl ?_
 refine sub9_go (i := 2) x w rfl (fun x => many9_calls p (by decide) x) ?_ ?_
 rotate_left
 ·rintro why h3 ⟨hB, rfl⟩ c3
  refine bad9 ?_ c3
  cases A with
  |nil => rfl
  |cons k0 l => exact if_neg fun hh => hB ⟨by simp; omega, by simp; omega⟩
 rintro _ h3 _ ⟨hb, k0, hk0, rfl⟩ w
 obtain ⟨k9, l, rfl⟩ := cons_of (by decide) hb.1
 cases hk0
 obtain ⟨ba, oa, ac, rfl⟩ := p.argF (by simp)
 refine w.ld1 1 rfl rfl ?_
 refine w.ldc 2 rfl rfl ?_
 refine Ai rfl (Ai (by decide) (fun z hz => ?_))
 have hz : z = (((k0 :: l).length % 2 : Nat) : Int) := by rw [hz]; exact (Int.ofNat_tmod (k0 :: l).length 2).symm
 subst hz
 have hlc : (k0 :: l).length = l.length + 1 := rfl
 refine Ai rfl (Ai (fun hodd => ?_) (fun hev => must9_no (bad9 (if_neg fun hh => hev (by omega)) w.chg)))
 refine must9_yes fun _ => ?_
 have hc9 : 2 ≤ l.length ∧ l.length < 65536 ∧ l.length % 2 = 0 := ⟨by omega, by omega, by omega⟩
 have hc0 : ∀ (f : Thing → Res), kindly S now 2 k0 f = .error wType → (if 2 ≤ l.length ∧ l.length < 65536 ∧ l.length % 2 = 0 then kindly S now 2 k0 f else .error wArgs) = .error wType := fun f hf => (if_pos hc9).trans hf
 refine w.ld1 1 rfl rfl ?_
 refine sub9_go (i := 2) x w rfl (fun x => of9_calls p x) ?_ ?_
 rotate_left
 ·rintro why h4 ⟨hB, rfl⟩ c4
  exact bad9 (hc0 _ (kindly_no hB)) c4
 rintro _ h4 _ ⟨hk, p2, w2, r2, rfl⟩ w
 have htl := (hs9.get k0 now).ps
 have hk9 := hA k0 (by simp)
 have he : cHset S now (k0 :: l) = _ := (if_pos hc9).trans (kindly_ok hk)
 generalize (getS S k0 now).getD zeroT = t at *
 obtain ⟨pa, pc, rfl, _⟩ := (w.thc 2 rfl).1.form
 obtain ⟨names, hnames⟩ : ∃ names, names = (twos l).map Prod.fst := ⟨_, rfl⟩
 obtain ⟨D, hDe⟩ : ∃ D, D = (twos l).map fun p => hashE k0 p.1 p.2 := ⟨_, rfl⟩
 have he : cHset S now (k0 :: l) = makes S now k0 (t.pairs.length + (newL (thereH t.pairs) [] names).length) (l.all small) (numR (newL (thereH t.pairs) [] names).length) D := by rw [he, hnames, hDe]
 have hhalf := twos_half (Nat.le_refl l.length)
 have hnl : names.length = (twos l).length := by rw [hnames]; exact List.length_map _
 have hDl : D.length = (twos l).length := by rw [hDe]; exact List.length_map _
 have hD9 : D ≠ [] := fun e => by rw [e] at hDl; simp at hDl; omega
 have hnle := fun q => newL_le (th := thereH t.pairs) (l := names) q
 refine call_ret fresh9_calls ?_
 rintro _ h5 ⟨⟨bs, mb2, bt, rfl, hf, hfb⟩, c5⟩
 have w := w.add (e := frE bs mb2 bt (.func (.func 153) #[] #[ptr b1]) []) c5 hf (fun b hb => hfb b (by simpa [frE, En.fp] using hb))
 refine loop_intro (fun q : Nat × Nat × Value => [(1, ptr b1), (2, ptr b2), (3, .int .i64 q.2.1), (4, .func (.func 228) #[] #[ptr bs, ptr bt]), (5, .int .i64 (2 * q.1 + 1 : Nat))])
  (fun q h' => (2 * q.1 ≤ l.length ∧ q.2.1 = (newL (thereH t.pairs) [] (names.take q.1)).length ∧ (0 < q.1 → ((t.pairs.length : Int) + q.2.1 ≤ 65536 ∧ k0.size ≤ 1048576)) ∧ ∀ p ∈ (twos l).take q.1, small p.1 = true ∧ small p.2 = true) ∧
   St (c0 ab kb now (.slice (some ⟨ba, oa, none⟩) (k0 :: l).length ac)).fp h h' [frE bs mb2 bt (.func (.func 153) #[] #[ptr b1]) (names.take q.1), .b b2 [.int .i64 0, .int .i64 0, .string ⟨#[]⟩, .slice none 0 0], .b b1 [ptr ab],
    cE ab kb now (.slice (some ⟨ba, oa, none⟩) (k0 :: l).length ac) k0 t (getS S k0 now).isSome (.slice pa t.pairs.length pc) w2 r2 q.2.2 (accE S k0 now D q.1)])
  (fun q => l.length - 2 * q.1) (0, 0, nilV) ⟨rfl, rfl, rfl, rfl, rfl, trivial⟩ ⟨⟨Nat.zero_le _, rfl, fun h9 => absurd h9 (by simp), by simp⟩, w⟩ ?_
 rintro ⟨q, n, lv⟩ h6 ⟨⟨hq, hn0, hfits, hsm⟩, w⟩
 replace hq : 2 * q ≤ l.length := hq
 replace hn0 : n = (newL (thereH t.pairs) [] (names.take q)).length := hn0
 replace hfits : 0 < q → ((t.pairs.length : Int) + n ≤ 65536 ∧ k0.size ≤ 1048576) := hfits
 replace hsm : ∀ p ∈ (twos l).take q, small p.1 = true ∧ small p.2 = true := hsm
 have hnq : n ≤ q := by
  have h1 := newL_len (th := thereH t.pairs) (l := names.take q) (pre := [])
  rw [List.length_take] at h1
  omega
 refine w.ld1 2 rfl rfl ?_
 refine w.ldc 3 rfl rfl ?_
 refine Ai rfl (Ai (fun hlt => ?_) (fun hge => ?_))
 ·have hlt1 : 2 * q + 1 < l.length := by omega
  have htg := twos_get hlt1
  have hq2 : q < (twos l).length := by omega
  obtain ⟨nm, hnm⟩ : ∃ nm, nm = l[2 * q] := ⟨_, rfl⟩
  obtain ⟨tx, htx⟩ : ∃ tx, tx = l[2 * q + 1] := ⟨_, rfl⟩
  rw [← hnm, ← htx] at htg
  have hn1 : nm ∈ l := by rw [hnm]; exact List.getElem_mem _
  have ht1 : tx ∈ l := by rw [htx]; exact List.getElem_mem _
  have hn : (k0 :: l)[2 * q + 1]? = some nm := by rw [hnm]; simp
  have ht : (k0 :: l)[2 * q + 2]? = some tx := by rw [htx]; simp
  clear hnm htx
  have hz1 := hA nm (by simp [hn1])
  have hz2 := hA tx (by simp [ht1])
  have hD : ∀ q' (_ : q' < (twos l).length), q' = q → D[q']? = some { (⟨5, noText, nm, tx, 0⟩ : Eff) with key := k0 } := fun q' _ e => by subst e; rw [hDe, List.getElem?_map, htg]; rfl
  have hD : ∀ q' (_ : q' < (twos l).length), D[q]? = some { (⟨5, noText, nm, tx, 0⟩ : Eff) with key := k0 } := fun _ _ => hD q hq2 rfl
  have hal := acc_len (S := S) (key := k0) (now := now) D q (by omega)
  have htk : (twos l).take (q + 1) = (twos l).take q ++ [(nm, tx)] := by
   rw [List.take_succ_eq_append_getElem hq2]
   have := (List.getElem?_eq_some_iff.1 htg).2
   rw [this]
  have hqn : q < names.length := by omega
  have hnq9 : names[q] = nm := by
   have : names[q]? = some nm := by rw [hnames, List.getElem?_map, htg]; rfl
   exact (List.getElem?_eq_some_iff.1 this).2
  have htk2 : names.take (q + 1) = names.take q ++ [nm] := by rw [List.take_succ_eq_append_getElem hqn, hnq9]
  refine w.ld1 2 rfl rfl ?_
  refine w.ldc 3 rfl rfl ?_
  refine p.ix (x.base w) (2 * q + 1) rfl hn ?_
  refine w.fresh 0 3 rfl rfl (by decide) (tc_hset (by omega)) (fr_box w 0 2 rfl rfl (by decide)) (by rw [List.length_take]; omega) fun h7 w => ?_
  obtain ⟨bb, hbb⟩ : ∃ bb, bb = (!thereH t.pairs nm && decide (nm ∉ names.take q)) := ⟨_, rfl⟩
  have hcnt := newL_cnt (th := thereH t.pairs) hqn (b := bb) (by rw [hnq9]; exact hbb)
  have hcl := hnle (q + 1)
  rw [← hbb]
  cases bb with
  |true =>
   have hcnt : (newL (thereH t.pairs) [] (names.take (q + 1))).length = n + 1 := by rw [hcnt, hn0]; rfl
   refine Ai rfl (fun z hz => ?_)
   have hz := add_in hz (by simp only; omega) (by simp only; omega)
   subst hz
   refine w.ld1 2 rfl rfl ?_
   refine w.ld1 2 rfl rfl ?_
   refine w.ldc 3 rfl rfl ?_
   refine p.ix (x.base w) (2 * q + 1) rfl hn ?_
   refine w.ld1 2 rfl rfl ?_
   refine w.ldc 3 rfl rfl ?_
   refine Ai rfl (fun z hz => ?_)
   have hz := add_in hz (by simp only; omega) (by simp only; omega)
   subst hz
   refine p.ix (x.base w) (2 * q + 2) rfl ht ?_
   refine w.ld1 2 rfl rfl ?_
   refine w.ldc 3 rfl rfl ?_
   refine Ai rfl (fun z hz => ?_)
   have hz : z = (t.pairs.length : Int) + (n + 1 : Nat) := hz.trans (wrap_in (by simp only; omega) (by simp only; omega))
   subst hz
   refine sub9_go (i := 3) x w rfl (fun x => put9_calls p ⟨5, noText, nm, tx, 0⟩ x (by simp only; omega) (by omega) (by show nm.size < _; omega) (by show tx.size < _; omega)) ?_ ?_
   rotate_left
   ·rintro why h5 ⟨hB, rfl⟩ c5
    refine bad9 (he.trans (mkNo9 ?_)) c5
    rintro ⟨m1, m2, m3⟩
    exact hB ⟨by omega, m2, small_of9 m3 hn1, small_of9 m3 ht1⟩
   rintro _ h5 _ ⟨hfit, lv5, rfl⟩ w
   rw [acc_put (hD q hq2)] at w
   refine Ai rfl (fun z hz => ?_)
   have hz := add_in hz (by simp only; omega) (by simp only; omega)
   subst hz
   refine Ai rfl (Ei (q + 1, n + 1, lv5) (Ai ⟨rfl, rfl, rfl, rfl, rfl, trivial⟩ (Ai ⟨⟨by omega, by rw [hcnt], fun _ => ⟨?_, hfit.2.1⟩, ?_⟩, ?_⟩ (by simp only; omega))))
   ·have := hfit.1
    push_cast at this ⊢
    omega
   ·intro pr hpr
    rw [htk, List.mem_append] at hpr
    rcases hpr with hpr | hpr
    ·exact hsm pr hpr
    ·rw [List.mem_singleton.1 hpr]
     exact ⟨decide_eq_true hfit.2.2.1, decide_eq_true hfit.2.2.2⟩
   ·rw [htk2]; exact w
  |false =>
   have hcnt : (newL (thereH t.pairs) [] (names.take (q + 1))).length = n := by rw [hcnt, hn0]; rfl
   refine w.ld1 2 rfl rfl ?_
   refine w.ld1 2 rfl rfl ?_
   refine w.ldc 3 rfl rfl ?_
   refine p.ix (x.base w) (2 * q + 1) rfl hn ?_
   refine w.ld1 2 rfl rfl ?_
   refine w.ldc 3 rfl rfl ?_
   refine Ai rfl (fun z hz => ?_)
   have hz := add_in hz (by simp only; omega) (by simp only; omega)
   subst hz
   refine p.ix (x.base w) (2 * q + 2) rfl ht ?_
   refine w.ld1 2 rfl rfl ?_
   refine w.ldc 3 rfl rfl ?_
   refine Ai rfl (fun z hz => ?_)
   have hz : z = (t.pairs.length : Int) + (n : Nat) := hz.trans (wrap_in (by simp only; omega) (by simp only; omega))
   subst hz
   refine sub9_go (i := 3) x w rfl (fun x => put9_calls p ⟨5, noText, nm, tx, 0⟩ x (by simp only; omega) (by omega) (by show nm.size < _; omega) (by show tx.size < _; omega)) ?_ ?_
   rotate_left
   ·rintro why h5 ⟨hB, rfl⟩ c5
    refine bad9 (he.trans (mkNo9 ?_)) c5
    rintro ⟨m1, m2, m3⟩
    exact hB ⟨by omega, m2, small_of9 m3 hn1, small_of9 m3 ht1⟩
   rintro _ h5 _ ⟨hfit, lv5, rfl⟩ w
   rw [acc_put (hD q hq2)] at w
   refine Ai rfl (fun z hz => ?_)
   have hz := add_in hz (by simp only; omega) (by simp only; omega)
   subst hz
   refine Ai rfl (Ei (q + 1, n, lv5) (Ai ⟨rfl, rfl, rfl, rfl, rfl, trivial⟩ (Ai ⟨⟨by omega, by rw [hcnt], fun _ => ⟨?_, hfit.2.1⟩, ?_⟩, ?_⟩ (by simp only; omega))))
   ·have := hfit.1
    push_cast at this ⊢
    omega
   ·intro pr hpr
    rw [htk, List.mem_append] at hpr
    rcases hpr with hpr | hpr
    ·exact hsm pr hpr
    ·rw [List.mem_singleton.1 hpr]
     exact ⟨decide_eq_true hfit.2.2.1, decide_eq_true hfit.2.2.2⟩
   ·rw [htk2]; exact w
 ·have hql : 2 * q = l.length := by omega
  have hqt : q = (twos l).length := by omega
  have hnf : n = (newL (thereH t.pairs) [] names).length := by rw [hn0, List.take_of_length_le (by omega)]
  refine w.callv number9_calls fun h7 w => ?_
  refine w.st1 1 rfl rfl rfl rfl fun h8 w => ?_
  refine fin9 x w 1 3 rfl rfl ?_
  rw [he, mkOk9 ⟨by have := (hfits (by omega)).1; omega, (hfits (by omega)).2, twos_small (Nat.le_refl _) hc9.2.2 fun pr hpr => hsm pr (by rw [hqt, List.take_length]; exact hpr)⟩, hqt, ← hDl, acc_all hD9, hnf]
  rfl
theorem hget9 (p : P9 h0 kb sb mb c m S av A) (hs9 : S9 S) (x : As h0 h (c0 ab kb now av)) : CallsH Tryz.prog 82 [ptr ab] h (Cmd9 h0 h ab kb now av (cHget S now A)) := by
 refine f82_calls (by simp) ?_
 intro b2 h1 g1
 have w := x.st.new g1
 refine sub9_go (i := 1) x w rfl (fun x => begin9_calls p (by decide) x) ?_ ?_
 rotate_left
 ·rintro why h2 hB c2
  exact bad9 (NoB.a2 (f := fun _ n t => match fieldF t.pairs n with
   |some s => .ok (textR s, [])
   |none => .ok (nilR, [])) hB) c2
 rintro _ h2 _ ⟨hb, k0, hk0, hk, p2, w2, r2, rfl⟩ w
 obtain ⟨k9, n, rfl⟩ := two_arg hb
 cases hk0
 have he : cHget S now [k0, n] = _ := (show cHget S now [k0, n] = kindly S now 2 k0 (fun t => match fieldF t.pairs n with
   |some s => .ok (textR s, [])
   |none => .ok (nilR, [])) from rfl).trans (kindly_ok hk)
 have htl := (hs9.get k0 now).ps
 generalize (getS S k0 now).getD zeroT = t at *
 obtain ⟨b, o, cc, rfl⟩ := p.argF (by simp)
 refine w.ldc 1 rfl rfl ?_
 refine p.ix (x.base w) 1 rfl rfl ?_
 refine w.callv (field9_calls (w.get 1 rfl) (by omega)) fun h3 w => ?_
 generalize fieldF t.pairs n = fo at he ⊢
 cases fo with
 |none =>
  refine w.st1 0 rfl rfl rfl rfl fun h4 w => ?_
  exact fin9 x w 0 1 rfl rfl he
 |some s =>
  refine w.callv text9_calls fun h4 w => ?_
  refine w.st1 0 rfl rfl rfl rfl fun h5 w => ?_
  exact fin9 x w 0 1 rfl rfl he
theorem no_away {f : ByteArray → List ByteArray → Thing → Res} {g : List ByteArray → Res} (h : NoB S now A 2 65536 kd why) (hg : ∀ key l, g (key :: l) = if 1 ≤ l.length ∧ l.length < 65536 then kindly S now kd key (f key l) else .error wArgs) (hn : g [] = .error wArgs) : g A = .error why := by
 match A, h with
 |[], .inl ⟨_, e⟩ => rw [hn, e]
 |[], .inr ⟨hb, _⟩ => simp at hb
 |key :: l, .inl ⟨hb, e⟩ =>
  rw [hg, e, if_neg]
  intro hh
  exact hb ⟨by simp; omega, by simp; omega⟩
 |key :: l, .inr ⟨hb, k0, hk0, hk, e⟩ =>
  cases hk0
  simp at hb
  rw [hg, e, if_pos ⟨by omega, by omega⟩, kindly_no hk]
end
end Go.Proofs.YtjnijlnmbjjgpaaGreatDoor
namespace Go.Proofs.YtjnijlnmbjjgpaaGreatDoor
open Go Go.Sx C
section
variable {h0 h h1 h2 h' : Heap} {ab kb sb mb c b2 : Nat} {now op at_ : Int} {av : Value} {A : List ByteArray} {m : List KI} {S : Space} {res : Res}
theorem pass9 {M : List En} {key : ByteArray} {t : Thing} {is : Bool} {pv lw rv lv : Value} {E : List Eff} {q : Rep} {ra : Option Addr} {rn rc : Nat} (x : As h0 h (c0 ab kb now av)) (w : St (c0 ab kb now av).fp h h' M) (i j : Nat)
  (hi : M[i]? = some (.b b2 [.int .i64 q.k, .int .i64 q.i, .string q.s, .slice ra rn rc])) (hj : M[j]? = some (cE ab kb now av key t is pv lw rv lv E)) (sl : SL encQ h2 (.slice ra rn rc) q.l) (fr : ∀ b ∈ ablk ra, h1.size ≤ b) (kc : Chg [b2] h2 h') (hb : b2 < h1.size) (hz : h.size ≤ h1.size)
  (he : res = .ok (q, E)) : ∃ vs, vs.length = 4 ∧ Cells h' b2 0 vs ∧ Cmd9 h0 h ab kb now av res (.returned (.agg ⟨vs⟩)) h' :=
 ⟨_, rfl, cells_blk (w.get i hi), q, E, key, t, is, pv, lw, rv, lv, he, ⟨ra, rn, rc, rfl, sl.chg kc (fun b hb2 => by have := fr b hb2; simp; omega), fun b hb2 => by have := fr b hb2; omega⟩, x.out w j hj⟩
theorem pop9 (p : P9 h0 kb sb mb c m S av A) (hs9 : S9 S) (hat : In64 at_) (x : As h0 h (c0 ab kb now av)) : CallsH Tryz.prog 167 [ptr ab, .int .i64 op, .int .i64 at_] h (Cmd9 h0 h ab kb now av (cPop S now (fun key => ⟨op, key, noText, noText, 0⟩) at_ A)) := by
 refine f167_calls (by simp) ?_
 intro b6 h1 g1
 have w := x.st.new g1
 refine sub9_go (i := 1) x w rfl (fun x => begin9_calls p (by decide) x) ?_ ?_
 rotate_left
 ·rintro why h2 hB c2
  exact bad9 (NoB.a1 (f := fun key t => match placeN t.list.length at_ with
   |some i => .ok (textR (t.list[i]?.getD noText), [⟨op, key, noText, noText, 0⟩])
   |none => .ok (nilR, [])) hB) c2
 rintro _ h2 _ ⟨hb, k0, hk0, hk, p2, w2, r2, rfl⟩ w
 obtain ⟨k9, rfl⟩ := one_arg hb
 cases hk0
 have ht := (hs9.get k0 now).ls
 have he : cPop S now (fun key => ⟨op, key, noText, noText, 0⟩) at_ [k0] = _ := (show cPop S now (fun key => ⟨op, key, noText, noText, 0⟩) at_ [k0] = kindly S now 3 k0 (fun t => match placeN t.list.length at_ with
  |some i => .ok (textR (t.list[i]?.getD noText), [⟨op, k0, noText, noText, 0⟩])
  |none => .ok (nilR, [])) from rfl).trans (kindly_ok hk)
 generalize (getS S k0 now).getD zeroT = t at *
 obtain ⟨la, lc, rfl, _⟩ := (w.thc 1 rfl).2.1.form
 refine w.ldc 1 rfl rfl ?_
 refine callp (place_calls (by omega) hat) ?_
 cases hp : placeN t.list.length at_ with
 |none =>
  rw [hp] at he
  refine w.st1 0 rfl rfl rfl rfl fun h3 w => ?_
  exact fin9 x w 0 1 rfl rfl he
 |some i =>
  have hil := placeN_lt hp
  rw [hp] at he
  refine sub9_go (i := 1) x w rfl (fun x => take9_calls ⟨op, noText, noText, noText, 0⟩ x (by simp)) ?_ ?_
  rotate_left
  ·rintro why h3 hB
   exact hB.elim
  rintro _ h3 _ ⟨lv3, rfl⟩ w
  obtain ⟨b, o, rfl⟩ := (w.thc 1 rfl).2.1.addr (by omega)
  refine w.ldc 1 rfl rfl ?_
  refine sl_ix (w.thc 1 rfl).2.1 i rfl (List.getElem?_eq_getElem hil) ?_
  refine w.callv text9_calls fun h4 w => ?_
  refine w.st1 0 rfl rfl rfl rfl fun h5 w => ?_
  refine fin9 x w 0 1 rfl rfl ?_
  rw [he]
  simp [hil, textR]
theorem rpop9 (p : P9 h0 kb sb mb c m S av A) (hs9 : S9 S) (x : As h0 h (c0 ab kb now av)) : CallsH Tryz.prog 90 [ptr ab] h (Cmd9 h0 h ab kb now av (cPop S now untailE (-1) A)) := by
 refine f90_calls (by simp) ?_
 intro b2 h1 g1
 have w := x.st.new g1
 refine call_out9 (pop9 p hs9 ⟨by decide, by decide⟩ (x.out w 1 rfl).1) ?_ (fun why h2 ⟨he, c2⟩ => bad9 he (w.gone 1 rfl c2 (fun _ hb => .inl hb)).chg)
 rintro _ h2 ⟨q, E, key, t, is, pv, lw, rv, lv, he, ⟨ra, rn, rc, rfl, sl, fr⟩, _, o2⟩
 have w := w.own 1 rfl o2
 refine w.st2 0 rfl rfl rfl rfl fun h3 w k3 => ?_
 exact pass9 x w 0 1 rfl rfl sl fr k3 (by have := g1.id; have := g1.size; omega) g1.chg.size he
theorem lindex9 (p : P9 h0 kb sb mb c m S av A) (hs9 : S9 S) (hl : LaidN h0) (hA : ∀ a ∈ A, a.size < 281474976710656) (x : As h0 h (c0 ab kb now av)) : CallsH Tryz.prog 92 [ptr ab] h (Cmd9 h0 h ab kb now av (cLindex S now A)) := by
 refine f92_calls (by simp) ?_
 intro b2 h1 g1
 have w := x.st.new g1
 refine sub9_go (i := 1) x w rfl (fun x => many9_calls p (by decide) x) ?_ ?_
 rotate_left
 ·rintro why h2 ⟨hB, rfl⟩ c2
  exact bad9 (arg2_bad hB) c2
 rintro _ h2 _ ⟨hb, k0, hk0, rfl⟩ w
 obtain ⟨k9, s, rfl⟩ := two_arg hb
 cases hk0
 refine sub9_go (i := 1) x w rfl (fun x => num9_calls (j := 1) p x hl rfl (hA s (by simp))) ?_ ?_
 rotate_left
 ·rintro why h3 ⟨hB, rfl⟩ c3
  refine bad9 ?_ c3
  show numbered s _ = _
  unfold numbered
  rw [hB]
 rintro _ h3 _ ⟨n, hn, rfl, rfl⟩ w
 have hnn : ∀ f, numbered s f = f n := fun f => by unfold numbered; rw [hn]
 refine sub9_go (i := 1) x w rfl (fun x => of9_calls p x) ?_ ?_
 rotate_left
 ·rintro why h4 ⟨hB, rfl⟩ c4
  exact bad9 ((hnn _).trans (kindly_no hB)) c4
 rintro _ h4 _ ⟨hk, p2, w2, r2, rfl⟩ w
 have ht := (hs9.get k0 now).ls
 have he : cLindex S now [k0, s] = _ := (hnn _).trans (kindly_ok hk)
 generalize (getS S k0 now).getD zeroT = t at *
 obtain ⟨la, lc, rfl, _⟩ := (w.thc 1 rfl).2.1.form
 refine w.ldc 1 rfl rfl ?_
 refine callp (place_calls (by omega) (numOf_in hn)) ?_
 cases hp : placeN t.list.length n with
 |none =>
  rw [hp] at he
  refine w.st1 0 rfl rfl rfl rfl fun h3 w => ?_
  exact fin9 x w 0 1 rfl rfl he
 |some i =>
  have hil := placeN_lt hp
  rw [hp] at he
  obtain ⟨b, o, rfl⟩ := (w.thc 1 rfl).2.1.addr (by omega)
  refine w.ldc 1 rfl rfl ?_
  refine sl_ix (w.thc 1 rfl).2.1 i rfl (List.getElem?_eq_getElem hil) ?_
  refine w.callv text9_calls fun h4 w => ?_
  refine w.st1 0 rfl rfl rfl rfl fun h5 w => ?_
  refine fin9 x w 0 1 rfl rfl ?_
  rw [he]
  simp [hil, textR]
theorem lrange9 (p : P9 h0 kb sb mb c m S av A) (hs9 : S9 S) (hl : LaidN h0) (hA : ∀ a ∈ A, a.size < 281474976710656) (x : As h0 h (c0 ab kb now av)) : CallsH Tryz.prog 93 [ptr ab] h (Cmd9 h0 h ab kb now av (cLrange S now A)) := by
 refine f93_calls (by simp) ?_
 intro b2 h1 g1
 have w := x.st.new g1
 refine sub9_go (i := 1) x w rfl (fun x => many9_calls p (by decide) x) ?_ ?_
 rotate_left
 ·rintro why h2 ⟨hB, rfl⟩ c2
  exact bad9 (arg3_bad hB) c2
 rintro _ h2 _ ⟨hb, k0, hk0, rfl⟩ w
 obtain ⟨k9, s, u, rfl⟩ := three_arg hb
 cases hk0
 refine sub9_go (i := 1) x w rfl (fun x => num9_calls (j := 1) p x hl rfl (hA s (by simp))) ?_ ?_
 rotate_left
 ·rintro why h3 ⟨hB, rfl⟩ c3
  refine bad9 ?_ c3
  show numbered s _ = _
  unfold numbered
  rw [hB]
 rintro _ h3 _ ⟨n, hn, rfl, rfl⟩ w
 have hnn : ∀ f, numbered s f = f n := fun f => by unfold numbered; rw [hn]
 refine sub9_go (i := 1) x w rfl (fun x => num9_calls (j := 2) p x hl rfl (hA u (by simp))) ?_ ?_
 rotate_left
 ·rintro why h3 ⟨hB, rfl⟩ c3
  refine bad9 ((hnn _).trans ?_) c3
  show numbered u _ = _
  unfold numbered
  rw [hB]
 rintro _ h3 _ ⟨n2, hn2, rfl, rfl⟩ w
 have hnn2 : ∀ f, numbered u f = f n2 := fun f => by unfold numbered; rw [hn2]
 refine sub9_go (i := 1) x w rfl (fun x => of9_calls p x) ?_ ?_
 rotate_left
 ·rintro why h4 ⟨hB, rfl⟩ c4
  exact bad9 ((hnn _).trans ((hnn2 _).trans (kindly_no hB))) c4
 rintro _ h4 _ ⟨hk, p2, w2, r2, rfl⟩ w
 have ht := (hs9.get k0 now).ls
 have he : cLrange S now [k0, s, u] = _ := (hnn _).trans ((hnn2 _).trans (kindly_ok hk))
 generalize (getS S k0 now).getD zeroT = t at *
 obtain ⟨la, lc, rfl, hlc⟩ := (w.thc 1 rfl).2.1.form
 refine w.ldc 1 rfl rfl ?_
 refine callp (span_calls (by omega) (numOf_in hn) (numOf_in hn2)) ?_
 have hsp := spanN_le t.list.length n n2
 refine w.ldc 1 rfl rfl ?_
 refine Ai (by omega) (Ai (by omega) (Ai (by omega) ?_))
 refine sl_slc encS_len (w.thc 1 rfl).2.1 hsp.1 hsp.2 fun v1 hv1 => ?_
 have hsv := hv1 _ (w.thc 1 rfl).2.1
 refine call_ret (listStr_calls hsv (by simp; omega)) ?_
 rintro _ h5 ⟨⟨ra, rn, rc, rfl, ol, fr⟩, c5⟩
 have hz := w.size
 have w := w.add (e := .o encQ 4 (.slice ra rn rc) _) c5 ol fr
 refine w.st1 1 rfl rfl rfl rfl fun h6 w => ?_
 refine finl9 x w 1 2 0 rfl rfl rfl (fun b hb => by have := fr b hb; omega) ?_
 rw [he]
 simp [listR, qs, toQ, spanL]
 rfl
theorem NoB.ak {kd : Int} {why : ByteArray} {f : ByteArray → List ByteArray → Thing → Res} {g : List ByteArray → Res} (h : NoB S now A 2 65536 kd why) (hg : ∀ key l, g (key :: l) = if 1 ≤ l.length ∧ l.length < 65536 then kindly S now kd key (f key l) else .error wArgs) (hn : g [] = .error wArgs) : g A = .error why := by
 match A, h with
 |[], .inl ⟨_, e⟩ => rw [hn, e]
 |[], .inr ⟨hb, _⟩ => simp at hb
 |key :: l, .inl ⟨hb, e⟩ =>
  rw [hg, e, if_neg]
  intro hh
  exact hb ⟨by simp; omega, by simp; omega⟩
 |key :: l, .inr ⟨hb, k0, hk0, hk, e⟩ =>
  cases hk0
  simp at hb
  rw [hg, e, if_pos ⟨by omega, by omega⟩, kindly_no hk]
set_option maxHeartbeats 1000000 in
theorem push9 (p : P9 h0 kb sb mb c m S av A) (hs9 : S9 S) (hA : ∀ a ∈ A, a.size < 281474976710656) (x : As h0 h (c0 ab kb now av)) : CallsH Tryz.prog 166 [ptr ab, .int .i64 op] h (Cmd9 h0 h ab kb now av (cPush S now (fun key s => ⟨op, key, noText, s, 0⟩) A)) := by
 refine f166_calls (by simp) ?_
 intro b4 h1 g1
 have w := x.st.new g1
 refine sub9_go (i := 1) x w rfl (fun x => begin9_calls p (by decide) x) ?_ ?_
 rotate_left
 ·rintro why h2 hB c2
  exact bad9 (NoB.ak (f := fun key l t => makes S now key (t.list.length + l.length) (l.all small) (numR (t.list.length + l.length)) (l.map fun s => ⟨op, key, noText, s, 0⟩)) hB (fun _ _ => rfl) rfl) c2
 rintro _ h2 _ ⟨hb, k0, hk0, hk, p2, w2, r2, rfl⟩ w
 obtain ⟨k9, l, rfl⟩ : ∃ k0 l, A = k0 :: l := by
  cases A with
  |nil => simp at hb
  |cons k0 l => exact ⟨k0, l, rfl⟩
 cases hk0
 have hll : 1 ≤ l.length ∧ l.length < 65536 := by simp at hb; exact ⟨by omega, by omega⟩
 have ht := (hs9.get k0 now).ls
 have hk0 := hA k0 (by simp)
 have he : cPush S now (fun key s => ⟨op, key, noText, s, 0⟩) (k0 :: l) = makes S now k0 (((getS S k0 now).getD zeroT).list.length + l.length) (l.all small) (numR (((getS S k0 now).getD zeroT).list.length + l.length)) (l.map fun s => ⟨op, k0, noText, s, 0⟩) :=
  (if_pos hll).trans (kindly_ok hk)
 generalize (getS S k0 now).getD zeroT = t at *
 obtain ⟨aa, ac, rfl⟩ := p.argN
 obtain ⟨la, lc, rfl, _⟩ := (w.thc 1 rfl).2.1.form
 refine w.ldc 1 rfl rfl ?_
 have hac := (p.args _ (x.base w)).len.2
 refine Ai (by decide) (Ai (by simp only [List.length_cons]; omega) (Ai (by omega) ?_))
 refine sl_slc (lo := 1) (hi := (k0 :: l).length) encS_len (p.args _ (x.base w)) (by simp) (Nat.le_refl _) fun v1 hv1 => ?_
 have e1 : ((k0 :: l).drop 1).take ((k0 :: l).length - 1) = l := by simp
 rw [e1] at hv1
 have hsl : ∀ {h'}, Chg [] h0 h' → SL encS h' v1 l := fun hc => hv1 _ (p.args _ hc)
 clear hv1
 obtain ⟨va, vc, rfl, _⟩ := (hsl (Chg.refl _)).form
 obtain ⟨vb, vo, rfl⟩ := (hsl (Chg.refl _)).addr (by omega)
 have hD : ∀ q (hq : q < l.length), (l.map fun s => (⟨op, k0, noText, s, 0⟩ : Eff))[q]? = some { (⟨op, noText, noText, l[q], 0⟩ : Eff) with key := k0 } := fun q hq => by simp [hq]
 have hDl : (l.map fun s => (⟨op, k0, noText, s, 0⟩ : Eff)).length = l.length := List.length_map _
 have hDn : (l.map fun s => (⟨op, k0, noText, s, 0⟩ : Eff)) ≠ [] := fun e => by rw [e] at hDl; simp at hDl; omega
 generalize hDg : (l.map fun s => (⟨op, k0, noText, s, 0⟩ : Eff)) = D at *
 refine loop_intro (fun q : Nat × Value => [(0, ptr ab), (1, .int .i64 op), (4, ptr b4), (13, .slice (some ⟨vb, vo, none⟩) l.length vc), (14, .int .i64 l.length), (15, .int .i64 q.1)])
  (fun q h' => (q.1 ≤ l.length ∧ (0 < q.1 → (t.list.length + q.1 : Int) ≤ 65536 ∧ k0.size ≤ 1048576) ∧ (l.take q.1).all small = true) ∧ St (c0 ab kb now (.slice aa (k0 :: l).length ac)).fp h h' [.b b4 [.int .i64 0, .int .i64 0, .string ⟨#[]⟩, .slice none 0 0], cE ab kb now (.slice aa (k0 :: l).length ac) k0 t (getS S k0 now).isSome p2 (.slice la t.list.length lc) r2 q.2 (accE S k0 now D q.1)])
  (fun q => l.length - q.1) (0, nilV) ⟨rfl, rfl, rfl, rfl, rfl, rfl, trivial⟩ ⟨⟨Nat.zero_le _, fun h9 => absurd h9 (by simp), rfl⟩, w⟩ ?_
 rintro ⟨q, lv⟩ h3 ⟨⟨hq, hq1, hq2⟩, w⟩
 have hq : q ≤ l.length := hq
 refine Ai rfl (Ai (fun hlt => ?_) (fun hge => ?_))
 ·have hlt : q < l.length := by omega
  obtain ⟨s, hs⟩ : ∃ s, s = l[q] := ⟨_, rfl⟩
  have hsm : s ∈ l := by rw [hs]; exact List.getElem_mem hlt
  have hsz := hA s (by simp [hsm])
  have hD := hD q hlt
  rw [← hs] at hD
  refine sl_ix (s := s) (hsl (x.base w)) q rfl (by rw [hs]; exact List.getElem?_eq_getElem hlt) ?_
  refine w.ldc 1 rfl rfl ?_
  refine Ai rfl (fun z hz => ?_)
  have hz : z = (t.list.length : Int) + q := hz.trans (wrap_in (by omega) (by omega))
  subst hz
  refine Ai rfl (fun z hz => ?_)
  have hz : z = (t.list.length : Int) + q + 1 := hz.trans (wrap_in (by omega) (by omega))
  subst hz
  have hal := acc_len (S := S) (key := k0) (now := now) D q (by omega)
  refine sub9_go (i := 1) x w rfl (fun x => put9_calls (items := (t.list.length : Int) + q + 1) p ⟨op, noText, noText, s, 0⟩ x (by simp only; omega) (by omega) (by show noText.size < _; decide) (by show s.size < _; omega)) ?_ ?_
  rotate_left
  ·rintro why h5 ⟨hB, rfl⟩ c5
   refine bad9 (he.trans (mkNo9 ?_)) c5
   rintro ⟨m1, m2, m3⟩
   exact hB ⟨by omega, m2, by show noText.size ≤ _; decide, of_decide_eq_true (List.all_eq_true.1 m3 s hsm)⟩
  rintro _ h5 _ ⟨hfit, lv5, rfl⟩ w
  rw [acc_put hD] at w
  refine Ai rfl (fun z hz => ?_)
  have hz := add_in hz (by omega) (by omega)
  subst hz
  refine Ai rfl (Ei (q + 1, lv5) (Ai ⟨rfl, rfl, rfl, rfl, rfl, rfl, trivial⟩ (Ai ⟨⟨hlt, fun _ => ⟨?_, hfit.2.1⟩, ?_⟩, w⟩ (by simp only; omega))))
  ·have := hfit.1
   push_cast
   omega
  ·rw [List.take_succ_eq_append_getElem hlt, ← hs, List.all_append, hq2]
   simp [small]
   exact hfit.2.2.2
 ·have hkl : q = l.length := by omega
  subst hkl
  refine w.ldc 1 rfl rfl ?_
  refine w.ldc 1 rfl rfl ?_
  refine Ai rfl (fun z hz => ?_)
  have hz : z = (t.list.length : Int) + ((k0 :: l).length : Nat) := hz.trans (wrap_in (by simp; omega) (by simp; omega))
  subst hz
  refine Ai rfl (fun z hz => ?_)
  have hz : z = (t.list.length : Int) + l.length := hz.trans ((wrap_in (by simp; omega) (by simp; omega)).trans (by simp; omega))
  subst hz
  refine w.callv number9_calls fun h4 w => ?_
  refine w.st1 0 rfl rfl rfl rfl fun h5 w => ?_
  have e9 : accE S k0 now D l.length = dropsS S k0 now ++ D := by rw [← hDl]; exact acc_all hDn
  rw [e9] at w
  obtain ⟨m1, m2⟩ := hq1 (by show 0 < l.length; omega)
  have hq2 : (l.take l.length).all small = true := hq2
  rw [List.take_length] at hq2
  exact fin9 x w 0 1 rfl rfl (he.trans (mkOk9 ⟨m1, m2, hq2⟩))
theorem rpush9 (p : P9 h0 kb sb mb c m S av A) (hs9 : S9 S) (hA : ∀ a ∈ A, a.size < 281474976710656) (x : As h0 h (c0 ab kb now av)) : CallsH Tryz.prog 88 [ptr ab] h (Cmd9 h0 h ab kb now av (cPush S now tailE A)) := by
 refine f88_calls (by simp) ?_
 intro b2 h1 g1
 have w := x.st.new g1
 refine call_out9 (push9 p hs9 hA (x.out w 1 rfl).1) ?_ (fun why h2 ⟨he, c2⟩ => bad9 he (w.gone 1 rfl c2 (fun _ hb => .inl hb)).chg)
 rintro _ h2 ⟨q, E, key, t, is, pv, lw, rv, lv, he, ⟨ra, rn, rc, rfl, sl, fr⟩, _, o2⟩
 have w := w.own 1 rfl o2
 refine w.st2 0 rfl rfl rfl rfl fun h3 w k3 => ?_
 exact pass9 x w 0 1 rfl rfl sl fr k3 (by have := g1.id; have := g1.size; omega) g1.chg.size he
end
end Go.Proofs.YtjnijlnmbjjgpaaGreatDoor
