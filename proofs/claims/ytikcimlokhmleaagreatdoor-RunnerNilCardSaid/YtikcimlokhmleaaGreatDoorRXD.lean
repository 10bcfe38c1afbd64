/-
  Functions' codes for runs, computed by Lean: the maker.
  Functions as runs take them, computed by Lean (1).
  Functions as runs take them, computed by Lean (2).
  Functions as runs take them, computed by Lean (3).
  Functions as runs take them, computed by Lean (4).
  Functions as runs take them. Printed by a program (wip/prun.lean).
  The table of what a run reaches.
  Runs of simplified code, once more: each arm closed, so that the kernel copies little. The same run.
  A closed call is told once: what it answers lies anew under other names wherever it is called.
-/
import Derived.Test.YtikcimlokhmleaaGreatDoorProg
import Derived.Test.YtikcimlokhmleaaGreatDoorRXC
set_option linter.unusedSimpArgs false
set_option linter.unusedVariables false
namespace Go.Proofs.YtikcimlokhmleaaGreatDoor.Q
open Go Go.Sx
set_option maxRecDepth 100000
theorem mixedQ:Tryz.prog.follows .mixedOrders=true:=by kernel_rfl
def compAllD (P:Program) (f:Nat) (fn:Func):Option (SCode×List SRes):=
 match okFn P f,fn.body with
 |true,some c=>match compC false P fn.ntmps c,cres P fn.results.toList with
  |some sc,some rs=>some (sc,rs)
  |_,_=>none
 |_,_=>none
structure Cd (P:Program) (f:Nat) where
 sc:SCode
 rs:List SRes
 nt:Nat
 d:SoundD P f nt sc rs
 g:SoundF P f nt sc rs
theorem all_d {f:Nat} {fn:Func} {p:SCode×List SRes} (hf:Tryz.prog.funcs[f]? =some fn) (h:compAllD Tryz.prog f fn=some p):SoundD Tryz.prog f fn.ntmps p.1 p.2∧SoundF Tryz.prog f fn.ntmps p.1 p.2:=by
 unfold compAllD at h
 split at h
 ·rename_i hok hb
  split at h
  ·rename_i hc hr
   cases h
   exact⟨soundD_of (fl:=false) mixedQ hf hb hok hc hr,soundF_of (fl:=false) mixedQ hf hb hok hc hr⟩
  ·cases h
 ·cases h
noncomputable def mkd {f:Nat} {fn:Func} (hf:Tryz.prog.funcs[f]? =some fn) (x:{p//compAllD Tryz.prog f fn=some p}:=by(apply Subtype.mk;conv=>(lhs;whnf;dsimp only[isBld,Value.cells,cond,List.toList_toArray,List.getElem_toArray,List.getElem_cons_succ,List.getElem_cons_zero,placesArr,List.map_cons,List.map_nil,List.replicate,List.flatten_cons,List.flatten_nil,List.cons_append,List.nil_append]))):Cd Tryz.prog f:=
 ⟨x.1.1,x.1.2,fn.ntmps,(all_d hf x.2).1,(all_d hf x.2).2⟩
noncomputable abbrev Cd.e {P:Program} {f:Nat} (x:Cd P f):Ent:=.code x.nt x.sc x.rs
theorem Cd.k {P:Program} {f:Nat} (x:Cd P f) (oq:Nat→Value) (F:Nat→Prop) (h0:Heap):EntOK P oq F h0 f x.e:=⟨x.d,x.g⟩
end Go.Proofs.YtikcimlokhmleaaGreatDoor.Q
set_option maxRecDepth 100000
namespace Go.Proofs.YtikcimlokhmleaaGreatDoor.Q
open Go Go.Sx
noncomputable def d5:Cd Tryz.prog 5:=mkd Tryz.func5
noncomputable def d14:Cd Tryz.prog 14:=mkd Tryz.func14
noncomputable def d19:Cd Tryz.prog 19:=mkd Tryz.func19
noncomputable def d23:Cd Tryz.prog 23:=mkd Tryz.func23
noncomputable def d28:Cd Tryz.prog 28:=mkd Tryz.func28
noncomputable def d42:Cd Tryz.prog 42:=mkd Tryz.func42
noncomputable def d58:Cd Tryz.prog 58:=mkd Tryz.func58
noncomputable def d62:Cd Tryz.prog 62:=mkd Tryz.func62
noncomputable def d66:Cd Tryz.prog 66:=mkd Tryz.func66
noncomputable def d88:Cd Tryz.prog 88:=mkd Tryz.func88
noncomputable def d100:Cd Tryz.prog 100:=mkd Tryz.func100
noncomputable def d120:Cd Tryz.prog 120:=mkd Tryz.func120
noncomputable def d127:Cd Tryz.prog 127:=mkd Tryz.func127
noncomputable def d143:Cd Tryz.prog 143:=mkd Tryz.func143
noncomputable def d171:Cd Tryz.prog 171:=mkd Tryz.func171
noncomputable def d194:Cd Tryz.prog 194:=mkd Tryz.func194
noncomputable def d201:Cd Tryz.prog 201:=mkd Tryz.func201
noncomputable def d247:Cd Tryz.prog 247:=mkd Tryz.func247
noncomputable def d253:Cd Tryz.prog 253:=mkd Tryz.func253
noncomputable def d258:Cd Tryz.prog 258:=mkd Tryz.func258
noncomputable def d264:Cd Tryz.prog 264:=mkd Tryz.func264
noncomputable def d272:Cd Tryz.prog 272:=mkd Tryz.func272
noncomputable def d340:Cd Tryz.prog 340:=mkd Tryz.func340
noncomputable def d349:Cd Tryz.prog 349:=mkd Tryz.func349
noncomputable def d353:Cd Tryz.prog 353:=mkd Tryz.func353
noncomputable def d357:Cd Tryz.prog 357:=mkd Tryz.func357
noncomputable def d370:Cd Tryz.prog 370:=mkd Tryz.func370
noncomputable def d374:Cd Tryz.prog 374:=mkd Tryz.func374
noncomputable def d380:Cd Tryz.prog 380:=mkd Tryz.func380
noncomputable def d435:Cd Tryz.prog 435:=mkd Tryz.func435
noncomputable def d445:Cd Tryz.prog 445:=mkd Tryz.func445
noncomputable def d451:Cd Tryz.prog 451:=mkd Tryz.func451
noncomputable def d460:Cd Tryz.prog 460:=mkd Tryz.func460
noncomputable def d465:Cd Tryz.prog 465:=mkd Tryz.func465
noncomputable def d471:Cd Tryz.prog 471:=mkd Tryz.func471
noncomputable def d475:Cd Tryz.prog 475:=mkd Tryz.func475
noncomputable def d481:Cd Tryz.prog 481:=mkd Tryz.func481
noncomputable def d499:Cd Tryz.prog 499:=mkd Tryz.func499
noncomputable def d523:Cd Tryz.prog 523:=mkd Tryz.func523
noncomputable def d527:Cd Tryz.prog 527:=mkd Tryz.func527
noncomputable def d534:Cd Tryz.prog 534:=mkd Tryz.func534
noncomputable def d540:Cd Tryz.prog 540:=mkd Tryz.func540
noncomputable def d555:Cd Tryz.prog 555:=mkd Tryz.func555
noncomputable def d563:Cd Tryz.prog 563:=mkd Tryz.func563
noncomputable def d577:Cd Tryz.prog 577:=mkd Tryz.func577
noncomputable def d583:Cd Tryz.prog 583:=mkd Tryz.func583
noncomputable def d588:Cd Tryz.prog 588:=mkd Tryz.func588
noncomputable def d594:Cd Tryz.prog 594:=mkd Tryz.func594
noncomputable def d600:Cd Tryz.prog 600:=mkd Tryz.func600
noncomputable def d614:Cd Tryz.prog 614:=mkd Tryz.func614
noncomputable def d635:Cd Tryz.prog 635:=mkd Tryz.func635
noncomputable def d654:Cd Tryz.prog 654:=mkd Tryz.func654
noncomputable def d660:Cd Tryz.prog 660:=mkd Tryz.func660
noncomputable def d705:Cd Tryz.prog 705:=mkd Tryz.func705
end Go.Proofs.YtikcimlokhmleaaGreatDoor.Q
set_option maxRecDepth 100000
namespace Go.Proofs.YtikcimlokhmleaaGreatDoor.Q
open Go Go.Sx
noncomputable def d9:Cd Tryz.prog 9:=mkd Tryz.func9
noncomputable def d15:Cd Tryz.prog 15:=mkd Tryz.func15
noncomputable def d20:Cd Tryz.prog 20:=mkd Tryz.func20
noncomputable def d24:Cd Tryz.prog 24:=mkd Tryz.func24
noncomputable def d29:Cd Tryz.prog 29:=mkd Tryz.func29
noncomputable def d47:Cd Tryz.prog 47:=mkd Tryz.func47
noncomputable def d59:Cd Tryz.prog 59:=mkd Tryz.func59
noncomputable def d63:Cd Tryz.prog 63:=mkd Tryz.func63
noncomputable def d73:Cd Tryz.prog 73:=mkd Tryz.func73
noncomputable def d91:Cd Tryz.prog 91:=mkd Tryz.func91
noncomputable def d101:Cd Tryz.prog 101:=mkd Tryz.func101
noncomputable def d124:Cd Tryz.prog 124:=mkd Tryz.func124
noncomputable def d128:Cd Tryz.prog 128:=mkd Tryz.func128
noncomputable def d146:Cd Tryz.prog 146:=mkd Tryz.func146
noncomputable def d172:Cd Tryz.prog 172:=mkd Tryz.func172
noncomputable def d196:Cd Tryz.prog 196:=mkd Tryz.func196
noncomputable def d206:Cd Tryz.prog 206:=mkd Tryz.func206
noncomputable def d248:Cd Tryz.prog 248:=mkd Tryz.func248
noncomputable def d254:Cd Tryz.prog 254:=mkd Tryz.func254
noncomputable def d259:Cd Tryz.prog 259:=mkd Tryz.func259
noncomputable def d265:Cd Tryz.prog 265:=mkd Tryz.func265
noncomputable def d274:Cd Tryz.prog 274:=mkd Tryz.func274
noncomputable def d342:Cd Tryz.prog 342:=mkd Tryz.func342
noncomputable def d350:Cd Tryz.prog 350:=mkd Tryz.func350
noncomputable def d354:Cd Tryz.prog 354:=mkd Tryz.func354
noncomputable def d366:Cd Tryz.prog 366:=mkd Tryz.func366
noncomputable def d371:Cd Tryz.prog 371:=mkd Tryz.func371
noncomputable def d375:Cd Tryz.prog 375:=mkd Tryz.func375
noncomputable def d381:Cd Tryz.prog 381:=mkd Tryz.func381
noncomputable def d436:Cd Tryz.prog 436:=mkd Tryz.func436
noncomputable def d446:Cd Tryz.prog 446:=mkd Tryz.func446
noncomputable def d454:Cd Tryz.prog 454:=mkd Tryz.func454
noncomputable def d461:Cd Tryz.prog 461:=mkd Tryz.func461
noncomputable def d466:Cd Tryz.prog 466:=mkd Tryz.func466
noncomputable def d472:Cd Tryz.prog 472:=mkd Tryz.func472
noncomputable def d477:Cd Tryz.prog 477:=mkd Tryz.func477
noncomputable def d487:Cd Tryz.prog 487:=mkd Tryz.func487
noncomputable def d501:Cd Tryz.prog 501:=mkd Tryz.func501
noncomputable def d524:Cd Tryz.prog 524:=mkd Tryz.func524
noncomputable def d528:Cd Tryz.prog 528:=mkd Tryz.func528
noncomputable def d537:Cd Tryz.prog 537:=mkd Tryz.func537
noncomputable def d541:Cd Tryz.prog 541:=mkd Tryz.func541
noncomputable def d560:Cd Tryz.prog 560:=mkd Tryz.func560
noncomputable def d572:Cd Tryz.prog 572:=mkd Tryz.func572
noncomputable def d578:Cd Tryz.prog 578:=mkd Tryz.func578
noncomputable def d584:Cd Tryz.prog 584:=mkd Tryz.func584
noncomputable def d590:Cd Tryz.prog 590:=mkd Tryz.func590
noncomputable def d595:Cd Tryz.prog 595:=mkd Tryz.func595
noncomputable def d601:Cd Tryz.prog 601:=mkd Tryz.func601
noncomputable def d615:Cd Tryz.prog 615:=mkd Tryz.func615
noncomputable def d648:Cd Tryz.prog 648:=mkd Tryz.func648
noncomputable def d657:Cd Tryz.prog 657:=mkd Tryz.func657
noncomputable def d661:Cd Tryz.prog 661:=mkd Tryz.func661
noncomputable def d706:Cd Tryz.prog 706:=mkd Tryz.func706
end Go.Proofs.YtikcimlokhmleaaGreatDoor.Q
set_option maxRecDepth 100000
namespace Go.Proofs.YtikcimlokhmleaaGreatDoor.Q
open Go Go.Sx
noncomputable def d10:Cd Tryz.prog 10:=mkd Tryz.func10
noncomputable def d16:Cd Tryz.prog 16:=mkd Tryz.func16
noncomputable def d21:Cd Tryz.prog 21:=mkd Tryz.func21
noncomputable def d25:Cd Tryz.prog 25:=mkd Tryz.func25
noncomputable def d31:Cd Tryz.prog 31:=mkd Tryz.func31
noncomputable def d52:Cd Tryz.prog 52:=mkd Tryz.func52
noncomputable def d60:Cd Tryz.prog 60:=mkd Tryz.func60
noncomputable def d64:Cd Tryz.prog 64:=mkd Tryz.func64
noncomputable def d74:Cd Tryz.prog 74:=mkd Tryz.func74
noncomputable def d98:Cd Tryz.prog 98:=mkd Tryz.func98
noncomputable def d104:Cd Tryz.prog 104:=mkd Tryz.func104
noncomputable def d125:Cd Tryz.prog 125:=mkd Tryz.func125
noncomputable def d129:Cd Tryz.prog 129:=mkd Tryz.func129
noncomputable def d165:Cd Tryz.prog 165:=mkd Tryz.func165
noncomputable def d192:Cd Tryz.prog 192:=mkd Tryz.func192
noncomputable def d199:Cd Tryz.prog 199:=mkd Tryz.func199
noncomputable def d220:Cd Tryz.prog 220:=mkd Tryz.func220
noncomputable def d249:Cd Tryz.prog 249:=mkd Tryz.func249
noncomputable def d255:Cd Tryz.prog 255:=mkd Tryz.func255
noncomputable def d260:Cd Tryz.prog 260:=mkd Tryz.func260
noncomputable def d266:Cd Tryz.prog 266:=mkd Tryz.func266
noncomputable def d321:Cd Tryz.prog 321:=mkd Tryz.func321
noncomputable def d344:Cd Tryz.prog 344:=mkd Tryz.func344
noncomputable def d351:Cd Tryz.prog 351:=mkd Tryz.func351
noncomputable def d355:Cd Tryz.prog 355:=mkd Tryz.func355
noncomputable def d368:Cd Tryz.prog 368:=mkd Tryz.func368
noncomputable def d372:Cd Tryz.prog 372:=mkd Tryz.func372
noncomputable def d376:Cd Tryz.prog 376:=mkd Tryz.func376
noncomputable def d383:Cd Tryz.prog 383:=mkd Tryz.func383
noncomputable def d441:Cd Tryz.prog 441:=mkd Tryz.func441
noncomputable def d447:Cd Tryz.prog 447:=mkd Tryz.func447
noncomputable def d455:Cd Tryz.prog 455:=mkd Tryz.func455
noncomputable def d462:Cd Tryz.prog 462:=mkd Tryz.func462
noncomputable def d468:Cd Tryz.prog 468:=mkd Tryz.func468
noncomputable def d473:Cd Tryz.prog 473:=mkd Tryz.func473
noncomputable def d478:Cd Tryz.prog 478:=mkd Tryz.func478
noncomputable def d489:Cd Tryz.prog 489:=mkd Tryz.func489
noncomputable def d502:Cd Tryz.prog 502:=mkd Tryz.func502
noncomputable def d525:Cd Tryz.prog 525:=mkd Tryz.func525
noncomputable def d531:Cd Tryz.prog 531:=mkd Tryz.func531
noncomputable def d538:Cd Tryz.prog 538:=mkd Tryz.func538
noncomputable def d548:Cd Tryz.prog 548:=mkd Tryz.func548
noncomputable def d561:Cd Tryz.prog 561:=mkd Tryz.func561
noncomputable def d574:Cd Tryz.prog 574:=mkd Tryz.func574
noncomputable def d579:Cd Tryz.prog 579:=mkd Tryz.func579
noncomputable def d585:Cd Tryz.prog 585:=mkd Tryz.func585
noncomputable def d591:Cd Tryz.prog 591:=mkd Tryz.func591
noncomputable def d596:Cd Tryz.prog 596:=mkd Tryz.func596
noncomputable def d608:Cd Tryz.prog 608:=mkd Tryz.func608
noncomputable def d617:Cd Tryz.prog 617:=mkd Tryz.func617
noncomputable def d650:Cd Tryz.prog 650:=mkd Tryz.func650
noncomputable def d658:Cd Tryz.prog 658:=mkd Tryz.func658
noncomputable def d670:Cd Tryz.prog 670:=mkd Tryz.func670
noncomputable def d707:Cd Tryz.prog 707:=mkd Tryz.func707
end Go.Proofs.YtikcimlokhmleaaGreatDoor.Q
set_option maxRecDepth 100000
namespace Go.Proofs.YtikcimlokhmleaaGreatDoor.Q
open Go Go.Sx
noncomputable def d11:Cd Tryz.prog 11:=mkd Tryz.func11
noncomputable def d17:Cd Tryz.prog 17:=mkd Tryz.func17
noncomputable def d22:Cd Tryz.prog 22:=mkd Tryz.func22
noncomputable def d26:Cd Tryz.prog 26:=mkd Tryz.func26
noncomputable def d37:Cd Tryz.prog 37:=mkd Tryz.func37
noncomputable def d53:Cd Tryz.prog 53:=mkd Tryz.func53
noncomputable def d61:Cd Tryz.prog 61:=mkd Tryz.func61
noncomputable def d65:Cd Tryz.prog 65:=mkd Tryz.func65
noncomputable def d75:Cd Tryz.prog 75:=mkd Tryz.func75
noncomputable def d99:Cd Tryz.prog 99:=mkd Tryz.func99
noncomputable def d119:Cd Tryz.prog 119:=mkd Tryz.func119
noncomputable def d126:Cd Tryz.prog 126:=mkd Tryz.func126
noncomputable def d136:Cd Tryz.prog 136:=mkd Tryz.func136
noncomputable def d170:Cd Tryz.prog 170:=mkd Tryz.func170
noncomputable def d193:Cd Tryz.prog 193:=mkd Tryz.func193
noncomputable def d200:Cd Tryz.prog 200:=mkd Tryz.func200
noncomputable def d227:Cd Tryz.prog 227:=mkd Tryz.func227
noncomputable def d252:Cd Tryz.prog 252:=mkd Tryz.func252
noncomputable def d256:Cd Tryz.prog 256:=mkd Tryz.func256
noncomputable def d262:Cd Tryz.prog 262:=mkd Tryz.func262
noncomputable def d268:Cd Tryz.prog 268:=mkd Tryz.func268
noncomputable def d339:Cd Tryz.prog 339:=mkd Tryz.func339
noncomputable def d348:Cd Tryz.prog 348:=mkd Tryz.func348
noncomputable def d352:Cd Tryz.prog 352:=mkd Tryz.func352
noncomputable def d356:Cd Tryz.prog 356:=mkd Tryz.func356
noncomputable def d369:Cd Tryz.prog 369:=mkd Tryz.func369
noncomputable def d373:Cd Tryz.prog 373:=mkd Tryz.func373
noncomputable def d379:Cd Tryz.prog 379:=mkd Tryz.func379
noncomputable def d387:Cd Tryz.prog 387:=mkd Tryz.func387
noncomputable def d442:Cd Tryz.prog 442:=mkd Tryz.func442
noncomputable def d449:Cd Tryz.prog 449:=mkd Tryz.func449
noncomputable def d459:Cd Tryz.prog 459:=mkd Tryz.func459
noncomputable def d463:Cd Tryz.prog 463:=mkd Tryz.func463
noncomputable def d469:Cd Tryz.prog 469:=mkd Tryz.func469
noncomputable def d474:Cd Tryz.prog 474:=mkd Tryz.func474
noncomputable def d479:Cd Tryz.prog 479:=mkd Tryz.func479
noncomputable def d498:Cd Tryz.prog 498:=mkd Tryz.func498
noncomputable def d521:Cd Tryz.prog 521:=mkd Tryz.func521
noncomputable def d526:Cd Tryz.prog 526:=mkd Tryz.func526
noncomputable def d533:Cd Tryz.prog 533:=mkd Tryz.func533
noncomputable def d539:Cd Tryz.prog 539:=mkd Tryz.func539
noncomputable def d552:Cd Tryz.prog 552:=mkd Tryz.func552
noncomputable def d562:Cd Tryz.prog 562:=mkd Tryz.func562
noncomputable def d575:Cd Tryz.prog 575:=mkd Tryz.func575
noncomputable def d580:Cd Tryz.prog 580:=mkd Tryz.func580
noncomputable def d587:Cd Tryz.prog 587:=mkd Tryz.func587
noncomputable def d592:Cd Tryz.prog 592:=mkd Tryz.func592
noncomputable def d597:Cd Tryz.prog 597:=mkd Tryz.func597
noncomputable def d613:Cd Tryz.prog 613:=mkd Tryz.func613
noncomputable def d622:Cd Tryz.prog 622:=mkd Tryz.func622
noncomputable def d653:Cd Tryz.prog 653:=mkd Tryz.func653
noncomputable def d659:Cd Tryz.prog 659:=mkd Tryz.func659
noncomputable def d684:Cd Tryz.prog 684:=mkd Tryz.func684
end Go.Proofs.YtikcimlokhmleaaGreatDoor.Q
set_option maxRecDepth 100000
namespace Go.Proofs.YtikcimlokhmleaaGreatDoor.Q
open Go Go.Sx Go.Sx.S
theorem mixed:Tryz.prog.follows .mixedOrders=true:=by kernel_rfl
def f6r0:List SOper:=[
 o 6 (.new [(.int .i64 0),(.int .i64 0),(.string ⟨#[]⟩),(.slice none 0 0)]),
 o 7 (.new [(.slice none 0 0)])]
def f6r1:List SOper:=[
 o 12 (.mv (t 0)),
 o 13 (.call 19 [(t 12)])]
def f6r2:List SOper:=[
 o 14 (.call 20 [(.const (.string ⟨#[69,82,82,32,117,110,107,110,111,119,110]⟩))]),
 q (.st 4 (t 6) (t 14)),
 q (.st 1 (t 7) (.const (.slice none 0 0)))]
def f6r3:List SOper:=[
 o 15 (.mv (t 2)),
 o 16 (.len (t 15)),
 o 17 (.cmp .gtr (t 16) (i 65536)),
 o 18 (.mv (t 17)),
 n 19 18 (.mv (t 2)),
 n 20 18 (.call 21 [(t 19),(u 22)]),
 o 21 (.pick (t 18) (b true) (t 20))]
def f6r4:List SOper:=[
 o 22 (.call 20 [(.const (.string ⟨#[69,82,82,32,108,111,110,103]⟩))]),
 q (.st 4 (t 6) (t 22)),
 q (.st 1 (t 7) (.const (.slice none 0 0)))]
def f6r5:List SOper:=[
 o 23 (.mv (t 0)),
 o 24 (.mv (t 1)),
 o 25 (.build [(.pointer none),(.slice none 0 0),(.int .i64 0),(.slice none 0 0)] [(0,1),(2,1)] [(t 23),(t 24)]),
 o 26 (.box (t 25)),
 o 8 (.mv (t 26))]
def f6r6:List SOper:=[
 o 27 (.mv (t 2)),
 o 28 (.len (t 27)),
 o 29 (.cmp .gtr (t 28) (i 0))]
def f6t7:OTree:=(.one (o 32 (.mv (t 2)))
 (.one (o 33 (.ixs 1 (t 32) (i 0)))
 (.one (o 34 (.ld1 (t 33)))
 (.one (o 31 (.call 23 []))
 (.chk [o 34 (.ld1 (t 33))] (.one (o 35 (.call 24 [(t 34)]))
 (.one (o 36 (.look .str .nilFunc true (t 31) (t 35)))
 (.one (o 30 (.mv (t 36)))
 (.one (o 37 (.ext (t 30) 0))
 (.one (o 38 (.ext (t 30) 1))
 (.one (o 9 (.mv (t 37)))
 (.one (o 10 (.mv (t 38)))
 .done))))))))))))
def f6r8:List SOper:=[
 o 39 (.mv (t 10))]
def f6r9:List SOper:=[
 o 40 (.fn 25 [] [(t 6),(t 7)])]
def f6r10:List SOper:=[
 o 41 (.mv (t 8)),
 o 42 (.mv (t 2)),
 o 43 (.slc 1 (t 42) (some (i 1)) none),
 o 44 (.nilck (t 41)),
 o 45 (.fa 3 (t 44)),
 q (.st 1 (t 45) (t 43))]
def f6r11:List SOper:=[
 o 46 (.mv (t 9)),
 o 47 (.mv (t 8)),
 o 48 (.callv (t 46) [(t 47)]),
 q (.st 4 (t 6) (t 48))]
def f6t12:OTree:=(.one (o 49 (.ldn 4 (t 6)))
 (.one (o 50 (.mv (t 8)))
 (.one (o 51 (.nilck (t 50)))
 (.one (o 52 (.fa 1 (t 51)))
 (.one (o 53 (.fa 0 (t 52)))
 (.one (o 54 (.ld1 (t 53)))
 (.one (q (.st 4 (t 6) (t 49)))
 (.chk [o 54 (.ld1 (t 53))] (.one (q (.st 1 (t 7) (t 54)))
 .done)))))))))
def f6r13:List SOper:=[
 o 56 (.mv (t 0)),
 o 57 (.nilck (t 56)),
 o 58 (.fa 0 (t 57)),
 o 59 (.ld1 (t 58)),
 o 60 (.nilck (t 59)),
 o 61 (.fa 0 (t 60)),
 o 62 (.ld1 (t 61)),
 o 63 (.mv (t 1)),
 o 64 (.mv (t 2)),
 o 65 (.call 26 [(t 62),(t 63),(t 64)]),
 o 55 (.mv (t 65)),
 o 66 (.ext (t 55) 0),
 o 67 (.ext (t 55) 1),
 q (.st 4 (t 6) (t 66)),
 o 11 (.mv (t 67))]
def f6r14:List SOper:=[
 o 68 (.mv (t 8)),
 o 69 (.nilck (t 68)),
 o 70 (.fa 1 (t 69)),
 o 71 (.mv (t 11)),
 o 72 (.call 27 [(t 70),(t 71)])]
def f6t15:OTree:=(.one (o 73 (.ldn 4 (t 6)))
 (.one (o 74 (.mv (t 8)))
 (.one (o 75 (.nilck (t 74)))
 (.one (o 76 (.fa 1 (t 75)))
 (.one (o 77 (.fa 0 (t 76)))
 (.one (o 78 (.ld1 (t 77)))
 (.one (q (.st 4 (t 6) (t 73)))
 (.chk [o 78 (.ld1 (t 77))] (.one (q (.st 1 (t 7) (t 78)))
 .done)))))))))
def f6:SCode:=(.seq (.ops f6r0) (.seq (.seq (.ops f6r1) (.cond (t 13) (.seq (.ops f6r2) .ret) .skip)) (.seq (.seq (.ops f6r3) (.cond (t 21) (.seq (.ops f6r4) .ret) .skip)) (.seq (.ops f6r5) (.seq (.seq (.ops f6r6) (.cond (t 29) (.seq (.tree [31,32,33,34,35,36,30,37,38,9,10] f6t7) (.seq (.ops f6r8) (.cond (t 39) (.seq (.dfr f6r9 none (t 40) []) (.seq (.ops f6r10) (.seq (.ops f6r11) (.seq (.tree [49,50,51,52,53,54] f6t12) .ret)))) .skip))) .skip)) (.seq (.ops f6r13) (.seq (.ops f6r14) (.seq (.tree [73,74,75,76,77,78] f6t15) .ret))))))))
def f6_ent:Ent:=.code 79 f6 [.cn 6 4,.c1 7]
theorem f6_ok (oq:Nat→Value) (F:Nat→Prop) (h0:Heap):EntOK Tryz.prog oq F h0 6 f6_ent:=⟨soundD_of (fl:=false) mixed Tryz.func6 rfl (by kernel_rfl) (by kernel_rfl) (by kernel_rfl),soundF_of (fl:=false) mixed Tryz.func6 rfl (by kernel_rfl) (by kernel_rfl) (by kernel_rfl)⟩
def f7r0:List SOper:=[
 o 1 (.box (t 0)),
 o 2 (.mv (.const (.pointer none)))]
def f7t1:OTree:=(.one (o 7 (.ldn 3 (t 1)))
 (.one (o 3 (.call 17 []))
 (.chk [o 7 (.ldn 3 (t 1))] (.one (o 4 (.call 28 []))
 (.chk [o 7 (.ldn 3 (t 1))] (.one (o 5 (.build [(.pointer none),(.pointer none)] [(0,1),(1,1)] [(t 3),(t 4)]))
 (.chk [o 7 (.ldn 3 (t 1))] (.one (o 6 (.box (t 5)))
 (.chk [o 7 (.ldn 3 (t 1))] (.one (o 8 (.build [(.pointer none),(.int .i64 0),(.int .i64 0),(.int .i64 0)] [(0,1),(1,3)] [(t 6),(t 7)]))
 (.chk [o 7 (.ldn 3 (t 1))] (.one (o 9 (.box (t 8)))
 (.one (o 2 (.mv (t 9)))
 .done)))))))))))))
def f7:SCode:=(.seq (.ops f7r0) (.seq (.tree [3,4,5,6,7,8,9,2] f7t1) .ret))
def f7_ent:Ent:=.code 10 f7 [.t 2]
theorem f7_ok (oq:Nat→Value) (F:Nat→Prop) (h0:Heap):EntOK Tryz.prog oq F h0 7 f7_ent:=⟨soundD_of (fl:=false) mixed Tryz.func7 rfl (by kernel_rfl) (by kernel_rfl) (by kernel_rfl),soundF_of (fl:=false) mixed Tryz.func7 rfl (by kernel_rfl) (by kernel_rfl) (by kernel_rfl)⟩
def f8r0:List SOper:=[
 o 2 (.mv (.const (.pointer none)))]
def f8r1:List SOper:=[
 o 3 (.mv (t 0)),
 o 4 (.call 19 [(t 3)])]
def f8r2:List SOper:=[
 o 2 (.mv (.const (.pointer none)))]
def f8t3:OTree:=(.one (o 5 (.mv (t 0)))
 (.one (o 6 (.nilck (t 5)))
 (.one (o 7 (.fa 0 (t 6)))
 (.one (o 8 (.ld1 (t 7)))
 (.one (o 9 (.nilck (t 8)))
 (.one (o 10 (.fa 0 (t 9)))
 (.one (o 11 (.ld1 (t 10)))
 (.one (o 13 (.mv (t 0)))
 (.one (o 14 (.nilck (t 13)))
 (.one (o 15 (.fa 0 (t 14)))
 (.one (o 23 (.mv (t 0)))
 (.one (o 24 (.nilck (t 23)))
 (.one (o 25 (.fa 1 (t 24)))
 (.one (o 16 (.ld1 (t 15)))
 (.one (o 17 (.nilck (t 16)))
 (.chk [o 16 (.ld1 (t 15))] (.one (o 18 (.fa 1 (t 17)))
 (.chk [o 16 (.ld1 (t 15))] (.one (o 19 (.ld1 (t 18)))
 (.one (o 26 (.ldn 3 (t 25)))
 (.one (o 12 (.call 29 [(t 11)]))
 (.chk [o 26 (.ldn 3 (t 25)),o 19 (.ld1 (t 18)),o 16 (.ld1 (t 15))] (.one (o 20 (.call 30 [(t 19)]))
 (.chk [o 26 (.ldn 3 (t 25))] (.one (o 21 (.build [(.pointer none),(.pointer none)] [(0,1),(1,1)] [(t 12),(t 20)]))
 (.chk [o 26 (.ldn 3 (t 25))] (.one (o 22 (.box (t 21)))
 (.chk [o 26 (.ldn 3 (t 25))] (.one (o 27 (.build [(.pointer none),(.int .i64 0),(.int .i64 0),(.int .i64 0)] [(0,1),(1,3)] [(t 22),(t 26)]))
 (.chk [o 26 (.ldn 3 (t 25))] (.one (o 28 (.box (t 27)))
 (.one (o 2 (.mv (t 28)))
 .done))))))))))))))))))))))))))))))))
def f8:SCode:=(.seq (.ops f8r0) (.seq (.seq (.ops f8r1) (.cond (t 4) (.seq (.ops f8r2) .ret) .skip)) (.seq (.tree [5,6,7,8,9,10,11,12,13,14,15,16,17,18,19,20,21,22,23,24,25,26,27,28,2] f8t3) .ret)))
def f8_ent:Ent:=.code 29 f8 [.t 2]
theorem f8_ok (oq:Nat→Value) (F:Nat→Prop) (h0:Heap):EntOK Tryz.prog oq F h0 8 f8_ent:=⟨soundD_of (fl:=false) mixed Tryz.func8 rfl (by kernel_rfl) (by kernel_rfl) (by kernel_rfl),soundF_of (fl:=false) mixed Tryz.func8 rfl (by kernel_rfl) (by kernel_rfl) (by kernel_rfl)⟩
def f12r0:List SOper:=[
 o 3 (.box (t 1)),
 o 4 (.new [(.int .i64 0)])]
def f12r1:List SOper:=[
 o 8 (.mv (t 0)),
 o 9 (.call 19 [(t 8)])]
def f12r2:List SOper:=[
 q (.st 1 (t 4) (i 1))]
def f12t3:OTree:=(.one (o 10 (.mv (t 0)))
 (.one (o 11 (.nilck (t 10)))
 (.one (o 12 (.fa 0 (t 11)))
 (.one (o 13 (.ld1 (t 12)))
 (.one (o 14 (.nilck (t 13)))
 (.one (o 15 (.fa 0 (t 14)))
 (.one (o 16 (.ld1 (t 15)))
 (.one (o 18 (.mv (t 0)))
 (.one (o 19 (.nilck (t 18)))
 (.one (o 20 (.fa 0 (t 19)))
 (.one (o 21 (.ld1 (t 20)))
 (.one (o 22 (.nilck (t 21)))
 (.chk [o 21 (.ld1 (t 20))] (.one (o 23 (.fa 1 (t 22)))
 (.chk [o 21 (.ld1 (t 20))] (.one (o 24 (.ld1 (t 23)))
 (.one (o 17 (.call 29 [(t 16)]))
 (.chk [o 24 (.ld1 (t 23)),o 21 (.ld1 (t 20))] (.one (o 25 (.call 30 [(t 24)]))
 (.one (o 26 (.build [(.pointer none),(.pointer none)] [(0,1),(1,1)] [(t 17),(t 25)]))
 (.one (o 27 (.box (t 26)))
 (.one (o 5 (.mv (t 27)))
 .done))))))))))))))))))))))
def f12r4:List SOper:=[
 o 6 (.new [(.int .i64 0)]),
 q (.st 1 (t 6) (i 0))]
def f12r5:List SOper:=[
 o 28 (.fn 33 [] [(t 6),(t 3)]),
 o 7 (.mv (t 28))]
def f12r6:List SOper:=[
 o 29 (.fn 34 [] [(t 4)])]
def f12r7:List SOper:=[
 o 30 (.ld1 (t 6)),
 o 31 (.ld1 (t 3)),
 o 32 (.len (t 31)),
 o 33 (.cmp .lss (t 30) (t 32))]
def f12r8:List SOper:=[
 o 34 (.mv (t 5)),
 o 35 (.mv (t 7)),
 o 36 (.callv (t 35) []),
 o 37 (.mv (t 7)),
 o 38 (.call 35 [(t 34),(t 36),(t 37)]),
 o 39 (.un .not (t 38))]
def f12r9:List SOper:=[
 q (.st 1 (t 4) (i 320))]
def f12l10:SCode:=(.seq (.seq (.ops f12r7) (.cond (t 33) .skip (.exit 0))) (.block 1 (.seq (.ops f12r8) (.cond (t 39) (.seq (.ops f12r9) .ret) .skip))))
def f12r11:List SOper:=[
 o 40 (.mv (t 0)),
 o 41 (.nilck (t 40)),
 o 42 (.fa 0 (t 41)),
 o 43 (.ld1 (t 42)),
 o 44 (.mv (t 0)),
 o 45 (.nilck (t 44)),
 o 46 (.fa 0 (t 45)),
 o 47 (.ld1 (t 46)),
 o 48 (.mv (t 5)),
 o 49 (.nilck (t 48)),
 o 50 (.fa 0 (t 49)),
 o 51 (.ld1 (t 50)),
 o 52 (.mv (t 5)),
 o 53 (.nilck (t 52)),
 o 54 (.fa 1 (t 53)),
 o 55 (.ld1 (t 54)),
 o 56 (.nilck (t 43)),
 o 57 (.fa 0 (t 56)),
 q (.st 1 (t 57) (t 51)),
 o 58 (.nilck (t 47)),
 o 59 (.fa 1 (t 58)),
 q (.st 1 (t 59) (t 55))]
def f12r12:List SOper:=[
 q (.st 1 (t 4) (i 0))]
def f12:SCode:=(.seq (.ops f12r0) (.seq (.seq (.ops f12r1) (.cond (t 9) (.seq (.ops f12r2) .ret) .skip)) (.seq (.tree [10,11,12,13,14,15,16,17,18,19,20,21,22,23,24,25,26,27,5] f12t3) (.seq (.ops f12r4) (.seq (.ops f12r5) (.seq (.dfr f12r6 none (t 29) []) (.seq (.block 0 (.loop f12l10)) (.seq (.ops f12r11) (.seq (.ops f12r12) .ret)))))))))
def f12_ent:Ent:=.code 60 f12 [.c1 4]
theorem f12_ok (oq:Nat→Value) (F:Nat→Prop) (h0:Heap):EntOK Tryz.prog oq F h0 12 f12_ent:=⟨soundD_of (fl:=false) mixed Tryz.func12 rfl (by kernel_rfl) (by kernel_rfl) (by kernel_rfl),soundF_of (fl:=false) mixed Tryz.func12 rfl (by kernel_rfl) (by kernel_rfl) (by kernel_rfl)⟩
def f13r0:List SOper:=[
 o 2 (.mv (.const (.slice none 0 0)))]
def f13r1:List SOper:=[
 o 13 (.mv (t 0)),
 o 14 (.call 19 [(t 13)])]
def f13r2:List SOper:=[
 o 2 (.mv (.const (.slice none 0 0)))]
def f13r3:List SOper:=[
 o 3 (.new [(.slice none 0 0)])]
def f13r4:List SOper:=[
 o 15 (.fn 36 [] [(t 3)]),
 o 4 (.new [.nilFunc]),
 q (.st 1 (t 4) (t 15))]
def f13r5:List SOper:=[
 o 16 (.mv (t 0)),
 o 17 (.nilck (t 16)),
 o 18 (.fa 0 (t 17)),
 o 19 (.ld1 (t 18)),
 o 20 (.nilck (t 19)),
 o 21 (.fa 0 (t 20)),
 o 22 (.ld1 (t 21)),
 o 23 (.call 37 [(t 22)])]
def f13r6:List SOper:=[
 o 5 (.new [(.string ⟨#[]⟩)]),
 q (.st 1 (t 5) (t 24))]
def f13r7:List SOper:=[
 o 6 (.new [(.int .i64 0),(.string ⟨#[]⟩),(.slice none 0 0),(.slice none 0 0),(.slice none 0 0),(.bool false),(.int .i64 0)]),
 q (.st 7 (t 6) (t 25))]
def f13r8:List SOper:=[
 o 26 (.ld1 (t 4)),
 o 27 (.fn 38 [] [(t 5),(t 6)]),
 o 28 (.callv (t 26) [(t 27)])]
def f13a9:SCode:=(.seq (.ops f13r6) (.ops f13r7))
def f13b9:SCode:=(.block 1 (.ops f13r8))
def f13r10:List SOper:=[
 o 29 (.mv (t 0)),
 o 30 (.nilck (t 29)),
 o 31 (.fa 0 (t 30)),
 o 32 (.ld1 (t 31)),
 o 33 (.nilck (t 32)),
 o 34 (.fa 1 (t 33)),
 o 35 (.ld1 (t 34)),
 o 36 (.call 40 [(t 35)])]
def f13r11:List SOper:=[
 o 8 (.new [(.string ⟨#[]⟩)]),
 q (.st 1 (t 8) (t 38))]
def f13r12:List SOper:=[
 o 39 (.ld1 (t 4)),
 o 40 (.fn 41 [] [(t 8)]),
 o 41 (.callv (t 39) [(t 40)])]
def f13a13:SCode:=(.ops f13r11)
def f13b13:SCode:=(.block 3 (.ops f13r12))
def f13r14:List SOper:=[
 o 42 (.mv (t 0)),
 o 43 (.nilck (t 42)),
 o 44 (.fa 0 (t 43)),
 o 45 (.ld1 (t 44)),
 o 46 (.nilck (t 45)),
 o 47 (.fa 1 (t 46)),
 o 48 (.ld1 (t 47)),
 o 49 (.call 43 [(t 48)]),
 o 50 (.len (t 49)),
 o 51 (.mv (i 0))]
def f13r15:List SOper:=[
 o 52 (.cmp .lss (t 51) (t 50))]
def f13r16:List SOper:=[
 o 53 (.ixs 1 (t 49) (t 51)),
 o 54 (.ld1 (t 53)),
 o 10 (.new [(.string ⟨#[]⟩)]),
 q (.st 1 (t 10) (t 54))]
def f13t17:OTree:=(.one (o 56 (.mv (t 0)))
 (.one (o 57 (.nilck (t 56)))
 (.one (o 58 (.fa 0 (t 57)))
 (.one (o 59 (.ld1 (t 58)))
 (.one (o 60 (.nilck (t 59)))
 (.one (o 61 (.fa 1 (t 60)))
 (.one (o 62 (.ld1 (t 61)))
 (.one (o 63 (.ld1 (t 10)))
 (.both (.one (o 64 (.call 44 [(t 62),(t 63)]))
 (.one (o 55 (.mv (t 64)))
 (.one (o 65 (.ext (t 55) 0))
 (.one (o 66 (.ext (t 55) 1))
 (.one (o 11 (.new [(.string ⟨#[]⟩)]))
 (.one (q (.st 1 (t 11) (t 65)))
 (.one (o 12 (.mv (t 66)))
 .done))))))) (.one (o 11 (.new [(.string ⟨#[]⟩)]))
 (.one (o 64 (.call 44 [(t 62),(t 63)]))
 (.one (o 55 (.mv (t 64)))
 (.one (o 65 (.ext (t 55) 0))
 (.one (o 66 (.ext (t 55) 1))
 (.one (q (.st 1 (t 11) (t 65)))
 (.one (o 12 (.mv (t 66)))
 .done))))))))))))))))
def f13r18:List SOper:=[
 o 67 (.ld1 (t 4)),
 o 68 (.fn 45 [] [(t 10),(t 11)]),
 o 69 (.callv (t 67) [(t 68)])]
def f13r19:List SOper:=[
 o 70 (.ar .add (t 51) (i 1)),
 o 51 (.mv (t 70))]
def f13l20:SCode:=(.seq (.ops f13r15) (.seq (.cond (t 52) .skip (.exit 4)) (.seq (.block 5 (.seq (.ops f13r16) (.seq (.tree [56,57,58,59,60,61,62,63,64,55,65,66,11,12] f13t17) (.ops f13r18)))) (.ops f13r19))))
def f13r21:List SOper:=[
 o 71 (.ld1 (t 3)),
 o 2 (.mv (t 71))]
def f13:SCode:=(.seq (.ops f13r0) (.seq (.seq (.ops f13r1) (.cond (t 14) (.seq (.ops f13r2) .ret) .skip)) (.seq (.ops f13r3) (.seq (.ops f13r4) (.seq (.seq (.ops f13r5) (.block 0 (.rangeF (t 23) [24,25] f13a9 f13b9))) (.seq (.seq (.ops f13r10) (.block 2 (.rangeF (t 36) [37,38] f13a13 f13b13))) (.seq (.seq (.ops f13r14) (.block 4 (.loop f13l20))) (.seq (.ops f13r21) .ret))))))))
def f13_ent:Ent:=.code 72 f13 [.t 2]
theorem f13_ok (oq:Nat→Value) (F:Nat→Prop) (h0:Heap):EntOK Tryz.prog oq F h0 13 f13_ent:=⟨soundD_of (fl:=false) mixed Tryz.func13 rfl (by kernel_rfl) (by kernel_rfl) (by kernel_rfl),soundF_of (fl:=false) mixed Tryz.func13 rfl (by kernel_rfl) (by kernel_rfl) (by kernel_rfl)⟩
def f27r0:List SOper:=[
 o 6 (.mv (t 1)),
 o 7 (.len (t 6)),
 o 8 (.mv (i 0))]
def f27r1:List SOper:=[
 o 9 (.cmp .lss (t 8) (t 7))]
def f27r2:List SOper:=[
 o 10 (.ixs 5 (t 6) (t 8)),
 o 11 (.ldn 5 (t 10)),
 o 5 (.new [(.int .i64 0),(.string ⟨#[]⟩),(.string ⟨#[]⟩),(.string ⟨#[]⟩),(.int .i64 0)]),
 q (.st 5 (t 5) (t 11))]
def f27t3:OTree:=(.one (o 12 (.mv (t 0)))
 (.one (o 13 (.fa 0 (t 5)))
 (.one (o 14 (.ld1 (t 13)))
 (.one (o 16 (.fa 1 (t 5)))
 (.one (o 18 (.fa 2 (t 5)))
 (.one (o 20 (.fa 3 (t 5)))
 (.one (o 22 (.fa 4 (t 5)))
 (.one (o 17 (.ld1 (t 16)))
 (.one (o 19 (.ld1 (t 18)))
 (.one (o 21 (.ld1 (t 20)))
 (.one (o 23 (.ld1 (t 22)))
 (.one (o 15 (.call 59 [(t 14)]))
 (.chk [o 23 (.ld1 (t 22)),o 21 (.ld1 (t 20)),o 19 (.ld1 (t 18)),o 17 (.ld1 (t 16))] (.one (o 24 (.call 60 [(t 23),(i 10)]))
 (.chk [o 21 (.ld1 (t 20)),o 19 (.ld1 (t 18)),o 17 (.ld1 (t 16))] (.one (o 25 (.bslice [(.string ⟨#[]⟩),(.string ⟨#[]⟩),(.string ⟨#[]⟩),(.string ⟨#[]⟩),(.string ⟨#[]⟩),(.string ⟨#[]⟩)] 6 [(0,1),(1,1),(2,1),(3,1),(4,1),(5,1)] [(.const (.string ⟨#[101,102,102,101,99,116]⟩)),(t 15),(t 17),(t 19),(t 21),(t 24)]))
 (.one (o 26 (.call 42 [(t 12),(t 25)]))
 .done)))))))))))))))))
def f27r4:List SOper:=[
 o 27 (.ar .add (t 8) (i 1)),
 o 8 (.mv (t 27))]
def f27l5:SCode:=(.seq (.ops f27r1) (.seq (.cond (t 9) .skip (.exit 0)) (.seq (.block 1 (.seq (.ops f27r2) (.tree [12,13,14,15,16,17,18,19,20,21,22,23,24,25,26] f27t3))) (.ops f27r4))))
def f27:SCode:=(.seq (.ops f27r0) (.block 0 (.loop f27l5)))
def f27_ent:Ent:=.code 28 f27 []
theorem f27_ok (oq:Nat→Value) (F:Nat→Prop) (h0:Heap):EntOK Tryz.prog oq F h0 27 f27_ent:=⟨soundD_of (fl:=false) mixed Tryz.func27 rfl (by kernel_rfl) (by kernel_rfl) (by kernel_rfl),soundF_of (fl:=false) mixed Tryz.func27 rfl (by kernel_rfl) (by kernel_rfl) (by kernel_rfl)⟩
def f30r0:List SOper:=[
 o 2 (.mv (.const (.pointer none)))]
def f30r1:List SOper:=[
 o 3 (.mv (t 0)),
 o 4 (.call 61 [(t 3)])]
def f30r2:List SOper:=[
 o 2 (.mv (.const (.pointer none)))]
def f30t3:OTree:=(.one (o 5 (.mv (t 0)))
 (.one (o 6 (.nilck (t 5)))
 (.one (o 7 (.fa 0 (t 6)))
 (.one (o 8 (.fa 0 (t 7)))
 (.one (o 9 (.ld1 (t 8)))
 (.one (o 11 (.mv (t 0)))
 (.one (o 12 (.nilck (t 11)))
 (.one (o 13 (.fa 0 (t 12)))
 (.one (o 14 (.fa 1 (t 13)))
 (.one (o 15 (.ld1 (t 14)))
 (.one (o 10 (.call 62 [(t 9)]))
 (.chk [o 15 (.ld1 (t 14))] (.one (o 16 (.call 62 [(t 15)]))
 (.one (o 17 (.build [(.map none),(.map none)] [(0,1),(1,1)] [(t 10),(t 16)]))
 (.one (o 18 (.build [(.map none),(.map none)] [(0,2)] [(t 17)]))
 (.one (o 19 (.box (t 18)))
 (.one (o 2 (.mv (t 19)))
 .done)))))))))))))))))
def f30:SCode:=(.seq (.ops f30r0) (.seq (.seq (.ops f30r1) (.cond (t 4) (.seq (.ops f30r2) .ret) .skip)) (.seq (.tree [5,6,7,8,9,10,11,12,13,14,15,16,17,18,19,2] f30t3) .ret)))
def f30_ent:Ent:=.code 20 f30 [.t 2]
theorem f30_ok (oq:Nat→Value) (F:Nat→Prop) (h0:Heap):EntOK Tryz.prog oq F h0 30 f30_ent:=⟨soundD_of (fl:=false) mixed Tryz.func30 rfl (by kernel_rfl) (by kernel_rfl) (by kernel_rfl),soundF_of (fl:=false) mixed Tryz.func30 rfl (by kernel_rfl) (by kernel_rfl) (by kernel_rfl)⟩
def f32r0:List SOper:=[
 o 3 (.box (t 1)),
 o 4 (.mv (i 0))]
def f32t1:OTree:=(.one (o 12 (.fa 0 (t 3)))
 (.one (o 13 (.ld1 (t 12)))
 (.both (.one (o 11 (.call 63 []))
 (.chk [o 13 (.ld1 (t 12))] (.one (o 14 (.look (.int .i64) (.agg #[(.bool false),(.bool false),(.bool false),(.int .i64 0),(.bool false),.nilFunc]) true (t 11) (t 13)))
 (.chk [o 13 (.ld1 (t 12))] (.one (o 10 (.mv (t 14)))
 (.chk [o 13 (.ld1 (t 12))] (.one (o 15 (.ext (t 10) 0))
 (.chk [o 13 (.ld1 (t 12))] (.one (o 16 (.ext (t 10) 1))
 (.chk [o 13 (.ld1 (t 12))] (.one (o 5 (.new [(.bool false),(.bool false),(.bool false),(.int .i64 0),(.bool false),.nilFunc]))
 (.chk [o 13 (.ld1 (t 12))] (.one (q (.st 6 (t 5) (t 15)))
 (.one (o 6 (.mv (t 16)))
 .done)))))))))))))) (.one (o 5 (.new [(.bool false),(.bool false),(.bool false),(.int .i64 0),(.bool false),.nilFunc]))
 (.chk [o 13 (.ld1 (t 12))] (.one (o 11 (.call 63 []))
 (.chk [o 13 (.ld1 (t 12))] (.one (o 14 (.look (.int .i64) (.agg #[(.bool false),(.bool false),(.bool false),(.int .i64 0),(.bool false),.nilFunc]) true (t 11) (t 13)))
 (.chk [o 13 (.ld1 (t 12))] (.one (o 10 (.mv (t 14)))
 (.chk [o 13 (.ld1 (t 12))] (.one (o 15 (.ext (t 10) 0))
 (.chk [o 13 (.ld1 (t 12))] (.one (o 16 (.ext (t 10) 1))
 (.chk [o 13 (.ld1 (t 12))] (.one (q (.st 6 (t 5) (t 15)))
 (.one (o 6 (.mv (t 16)))
 .done)))))))))))))))))
def f32r2:List SOper:=[
 o 17 (.mv (t 6)),
 o 18 (.un .not (t 17)),
 o 19 (.mv (t 18)),
 n 20 19 (.fa 0 (t 5)),
 n 21 19 (.ld1 (t 20)),
 n 22 19 (.un .not (t 21)),
 n 23 19 (.mv (t 22)),
 g 24 23 (.fa 2 (t 3)),
 g 25 23 (.ld1 (t 24)),
 g 26 23 (.cmp .neq (t 25) e),
 n 27 19 (.pick (t 23) (t 26) (b false)),
 o 28 (.pick (t 19) (b true) (t 27)),
 o 29 (.mv (t 28)),
 n 30 29 (.fa 1 (t 5)),
 n 31 29 (.ld1 (t 30)),
 n 32 29 (.un .not (t 31)),
 n 33 29 (.mv (t 32)),
 g 34 33 (.fa 3 (t 3)),
 g 35 33 (.ld1 (t 34)),
 g 36 33 (.cmp .neq (t 35) e),
 n 37 29 (.pick (t 33) (t 36) (b false)),
 o 38 (.pick (t 29) (b true) (t 37)),
 o 39 (.mv (t 38)),
 n 40 39 (.fa 2 (t 5)),
 n 41 39 (.ld1 (t 40)),
 n 42 39 (.un .not (t 41)),
 n 43 39 (.mv (t 42)),
 g 44 43 (.fa 4 (t 3)),
 g 45 43 (.ld1 (t 44)),
 g 46 43 (.cmp .neq (t 45) (i 0)),
 n 47 39 (.pick (t 43) (t 46) (b false)),
 o 48 (.pick (t 39) (b true) (t 47))]
def f32r3:List SOper:=[
 o 4 (.mv (i 2))]
def f32r4:List SOper:=[
 o 49 (.fa 1 (t 3)),
 o 50 (.ld1 (t 49)),
 o 51 (.fa 2 (t 3)),
 o 52 (.ld1 (t 51)),
 o 53 (.fa 3 (t 3)),
 o 54 (.ld1 (t 53)),
 o 55 (.bslice [(.string ⟨#[]⟩),(.string ⟨#[]⟩),(.string ⟨#[]⟩)] 3 [(0,1),(1,1),(2,1)] [(t 50),(t 52),(t 54)]),
 o 56 (.call 64 [(t 55)]),
 o 57 (.un .not (t 56))]
def f32r5:List SOper:=[
 o 4 (.mv (i 3))]
def f32r6:List SOper:=[
 o 59 (.mv (t 0)),
 o 60 (.fa 1 (t 3)),
 o 61 (.ld1 (t 60)),
 o 62 (.call 65 [(t 59),(t 61)]),
 o 58 (.mv (t 62)),
 o 63 (.ext (t 58) 0),
 o 64 (.ext (t 58) 1),
 o 7 (.new [(.int .i64 0),(.string ⟨#[]⟩),(.slice none 0 0),(.slice none 0 0),(.slice none 0 0),(.bool false),(.int .i64 0)]),
 q (.st 7 (t 7) (t 63)),
 o 8 (.mv (t 64))]
def f32r7:List SOper:=[
 o 66 (.mv (t 8)),
 o 67 (.un .not (t 66)),
 o 68 (.mv (t 67)),
 g 69 68 (.fa 4 (t 5)),
 g 70 68 (.ld1 (t 69)),
 g 71 68 (.un .not (t 70)),
 o 72 (.pick (t 68) (t 71) (b false)),
 o 65 (.mv (t 72))]
def f32r8:List SOper:=[
 o 4 (.mv (i 5))]
def f32r9:List SOper:=[
 o 74 (.mv (t 8)),
 o 75 (.un .not (t 74)),
 o 73 (.mv (t 75))]
def f32r10:List SOper:=[
 o 76 (.fa 3 (t 5)),
 o 77 (.ld1 (t 76)),
 o 78 (.fa 0 (t 7)),
 q (.st 1 (t 78) (t 77))]
def f32r11:List SOper:=[
 o 80 (.fa 3 (t 5)),
 o 81 (.ld1 (t 80)),
 o 82 (.cmp .neq (t 81) (i 0)),
 o 83 (.mv (t 82)),
 g 84 83 (.fa 0 (t 7)),
 g 85 83 (.ld1 (t 84)),
 g 86 83 (.fa 3 (t 5)),
 g 87 83 (.ld1 (t 86)),
 g 88 83 (.cmp .neq (t 85) (t 87)),
 o 89 (.pick (t 83) (t 88) (b false)),
 o 79 (.mv (t 89))]
def f32r12:List SOper:=[
 o 4 (.mv (i 170))]
def f32r13:List SOper:=[
 o 90 (.fa 5 (t 5)),
 o 91 (.ld1 (t 90)),
 o 92 (.ldn 5 (t 3)),
 o 93 (.callv (t 91) [(t 7),(t 92)]),
 o 9 (.mv (t 93))]
def f32r14:List SOper:=[
 o 94 (.mv (t 9)),
 o 95 (.cmp .neq (t 94) (i 0))]
def f32r15:List SOper:=[
 o 96 (.mv (t 9)),
 o 4 (.mv (t 96))]
def f32r16:List SOper:=[
 o 107 (.fa 0 (t 7)),
 o 108 (.ld1 (t 107)),
 o 109 (.cmp .neq (t 108) (i 1)),
 o 110 (.mv (t 109)),
 g 111 110 (.ldn 7 (t 7)),
 g 112 110 (.call 66 [(t 111)]),
 g 113 110 (.cmp .eql (t 112) (i 0)),
 o 114 (.pick (t 110) (t 113) (b false)),
 o 106 (.mv (t 114))]
def f32r17:List SOper:=[
 o 115 (.mv (t 0)),
 o 116 (.nilck (t 115)),
 o 117 (.fa 0 (t 116)),
 o 118 (.ld1 (t 117)),
 o 119 (.nilck (t 118)),
 o 120 (.fa 0 (t 119)),
 o 121 (.ld1 (t 120)),
 o 122 (.fa 1 (t 3)),
 o 123 (.ld1 (t 122)),
 q (.mdel .str (t 121) (t 123))]
def f32r18:List SOper:=[
 o 125 (.ldn 7 (t 7)),
 o 126 (.call 66 [(t 125)]),
 o 127 (.cmp .gtr (t 126) (i 65536)),
 o 128 (.mv (t 127)),
 n 129 128 (.mv (t 8)),
 n 130 128 (.un .not (t 129)),
 n 131 128 (.mv (t 130)),
 g 132 131 (.mv (t 0)),
 g 133 131 (.nilck (t 132)),
 g 134 131 (.fa 0 (t 133)),
 g 135 131 (.ld1 (t 134)),
 g 136 131 (.nilck (t 135)),
 g 137 131 (.fa 0 (t 136)),
 g 138 131 (.ld1 (t 137)),
 g 139 131 (.lenm (t 138)),
 g 140 131 (.cmp .geq (t 139) (i 65536)),
 n 141 128 (.pick (t 131) (t 140) (b false)),
 o 142 (.pick (t 128) (b true) (t 141)),
 o 124 (.mv (t 142))]
def f32r19:List SOper:=[
 o 4 (.mv (i 3))]
def f32r20:List SOper:=[
 o 97 (.mv (t 0)),
 o 98 (.nilck (t 97)),
 o 99 (.fa 0 (t 98)),
 o 100 (.ld1 (t 99)),
 o 101 (.nilck (t 100)),
 o 102 (.fa 0 (t 101)),
 o 103 (.ld1 (t 102)),
 o 104 (.fa 1 (t 3)),
 o 105 (.ld1 (t 104)),
 q (.mup .str (t 103) (t 105) (t 7))]
def f32r21:List SOper:=[
 o 4 (.mv (i 0))]
def f32:SCode:=(.seq (.ops f32r0) (.seq (.tree [11,12,13,14,10,15,16,5,6] f32t1) (.seq (.seq (.ops f32r2) (.cond (t 48) (.seq (.ops f32r3) .ret) .skip)) (.seq (.seq (.ops f32r4) (.cond (t 57) (.seq (.ops f32r5) .ret) .skip)) (.seq (.ops f32r6) (.seq (.block 0 (.seq (.ops f32r7) (.cond (t 65) (.seq (.ops f32r8) .ret) (.seq (.ops f32r9) (.cond (t 73) (.ops f32r10) (.seq (.ops f32r11) (.cond (t 79) (.seq (.ops f32r12) .ret) .skip))))))) (.seq (.seq (.ops f32r13) (.seq (.ops f32r14) (.cond (t 95) (.seq (.ops f32r15) .ret) .skip))) (.seq (.block 1 (.seq (.ops f32r16) (.cond (t 106) (.ops f32r17) (.seq (.ops f32r18) (.cond (t 124) (.seq (.ops f32r19) .ret) (.ops f32r20)))))) (.seq (.ops f32r21) .ret)))))))))
def f32_ent:Ent:=.code 143 f32 [.t 4]
theorem f32_ok (oq:Nat→Value) (F:Nat→Prop) (h0:Heap):EntOK Tryz.prog oq F h0 32 f32_ent:=⟨soundD_of (fl:=false) mixed Tryz.func32 rfl (by kernel_rfl) (by kernel_rfl) (by kernel_rfl),soundF_of (fl:=false) mixed Tryz.func32 rfl (by kernel_rfl) (by kernel_rfl) (by kernel_rfl)⟩
def f76r0:List SOper:=[
 o 1 (.box (t 0)),
 o 2 (.new [(.int .i64 0),(.string ⟨#[]⟩),(.slice none 0 0),(.slice none 0 0),(.slice none 0 0),(.bool false),(.int .i64 0)])]
def f76t1:OTree:=(.one (o 3 (.fa 2 (t 1)))
 (.one (o 4 (.ld1 (t 3)))
 (.one (o 6 (.fa 3 (t 1)))
 (.one (o 9 (.fa 4 (t 1)))
 (.one (o 7 (.ld1 (t 6)))
 (.one (o 10 (.ld1 (t 9)))
 (.one (o 5 (.call 127 [(t 4)]))
 (.chk [o 10 (.ld1 (t 9)),o 7 (.ld1 (t 6))] (.one (o 12 (.fa 2 (t 1)))
 (.chk [o 10 (.ld1 (t 9)),o 7 (.ld1 (t 6))] (.one (o 8 (.call 128 [(t 7)]))
 (.chk [o 10 (.ld1 (t 9))] (.one (o 11 (.call 129 [(t 10)]))
 (.one (q (.st 1 (t 12) (t 5)))
 (.one (o 13 (.fa 3 (t 1)))
 (.one (q (.st 1 (t 13) (t 8)))
 (.one (o 14 (.fa 4 (t 1)))
 (.one (q (.st 1 (t 14) (t 11)))
 .done))))))))))))))))))
def f76r2:List SOper:=[
 o 15 (.ldn 7 (t 1)),
 q (.st 7 (t 2) (t 15))]
def f76:SCode:=(.seq (.ops f76r0) (.seq (.tree [3,4,5,6,7,8,9,10,11,12,13,14] f76t1) (.seq (.ops f76r2) .ret)))
def f76_ent:Ent:=.code 16 f76 [.cn 2 7]
theorem f76_ok (oq:Nat→Value) (F:Nat→Prop) (h0:Heap):EntOK Tryz.prog oq F h0 76 f76_ent:=⟨soundD_of (fl:=false) mixed Tryz.func76 rfl (by kernel_rfl) (by kernel_rfl) (by kernel_rfl),soundF_of (fl:=false) mixed Tryz.func76 rfl (by kernel_rfl) (by kernel_rfl) (by kernel_rfl)⟩
def f89r0:List SOper:=[
 o 8 (.new [(.int .i64 0),(.int .i64 0),(.string ⟨#[]⟩),(.slice none 0 0)])]
def f89r1:List SOper:=[
 o 14 (.mv (t 1)),
 o 15 (.call 136 [(t 14)]),
 o 13 (.mv (t 15)),
 o 16 (.ext (t 13) 0),
 o 17 (.ext (t 13) 1),
 o 18 (.ext (t 13) 2),
 o 9 (.new [(.slice none 0 0),(.slice none 0 0),(.slice none 0 0)]),
 q (.st 3 (t 9) (t 16)),
 o 10 (.mv (t 17)),
 o 11 (.mv (t 18))]
def f89r2:List SOper:=[
 o 19 (.mv (t 11)),
 o 20 (.cmp .eql (t 19) (i 0)),
 o 21 (.call 91 [(t 20),(.const (.string ⟨#[69,82,82,32,99,111,109,112,105,108,101]⟩))])]
def f89t3:OTree:=(.one (o 23 (.mv (t 0)))
 (.one (o 24 (.nilck (t 23)))
 (.one (o 25 (.fa 0 (t 24)))
 (.one (o 26 (.ld1 (t 25)))
 (.one (o 27 (.nilck (t 26)))
 (.one (o 28 (.fa 0 (t 27)))
 (.one (o 29 (.ld1 (t 28)))
 (.one (o 30 (.nilck (t 29)))
 (.one (o 31 (.fa 0 (t 30)))
 (.one (o 32 (.ld1 (t 31)))
 (.one (o 33 (.ldn 3 (t 9)))
 (.one (o 34 (.mv (t 2)))
 (.one (o 35 (.mv (t 3)))
 (.one (o 36 (.mv (t 0)))
 (.one (o 37 (.nilck (t 36)))
 (.one (o 38 (.fa 2 (t 37)))
 (.one (o 39 (.ld1 (t 38)))
 (.one (o 40 (.mv (t 0)))
 (.one (o 41 (.nilck (t 40)))
 (.one (o 42 (.fa 0 (t 41)))
 (.one (o 43 (.ld1 (t 42)))
 (.one (o 44 (.nilck (t 43)))
 (.one (o 45 (.fa 1 (t 44)))
 (.one (o 46 (.fa 0 (t 45)))
 (.one (o 47 (.ld1 (t 46)))
 (.one (o 48 (.mv (t 0)))
 (.one (o 49 (.nilck (t 48)))
 (.one (o 50 (.fa 0 (t 49)))
 (.one (o 51 (.ld1 (t 50)))
 (.one (o 52 (.nilck (t 51)))
 (.one (o 53 (.fa 1 (t 52)))
 (.one (o 54 (.fa 1 (t 53)))
 (.one (o 55 (.ld1 (t 54)))
 (.one (o 56 (.mv (t 0)))
 (.one (o 57 (.nilck (t 56)))
 (.one (o 58 (.fa 0 (t 57)))
 (.one (o 59 (.ld1 (t 58)))
 (.one (o 60 (.nilck (t 59)))
 (.one (o 61 (.fa 1 (t 60)))
 (.one (o 62 (.fa 2 (t 61)))
 (.one (o 63 (.ld1 (t 62)))
 (.one (o 64 (.build [(.slice none 0 0),(.slice none 0 0),(.int .i64 0),(.int .i64 0),(.int .i64 0),(.int .i64 0)] [(0,1),(1,1),(2,1),(3,1),(4,1),(5,1)] [(t 34),(t 35),(t 39),(t 47),(t 55),(t 63)]))
 (.both (.one (o 65 (.call 137 [(t 32),(t 33),(t 64)]))
 (.one (o 22 (.mv (t 65)))
 (.one (o 66 (.ext (t 22) 0))
 (.one (o 67 (.ext (t 22) 1))
 (.one (o 12 (.new [(.int .i64 0),(.int .i64 0),(.string ⟨#[]⟩),(.slice none 0 0),(.slice none 0 0),(.int .i64 0),(.int .i64 0)]))
 (.one (q (.st 7 (t 12) (t 66)))
 (.one (o 11 (.mv (t 67)))
 .done))))))) (.one (o 12 (.new [(.int .i64 0),(.int .i64 0),(.string ⟨#[]⟩),(.slice none 0 0),(.slice none 0 0),(.int .i64 0),(.int .i64 0)]))
 (.one (o 65 (.call 137 [(t 32),(t 33),(t 64)]))
 (.one (o 22 (.mv (t 65)))
 (.one (o 66 (.ext (t 22) 0))
 (.one (o 67 (.ext (t 22) 1))
 (.one (q (.st 7 (t 12) (t 66)))
 (.one (o 11 (.mv (t 67)))
 .done))))))))))))))))))))))))))))))))))))))))))))))))))
def f89r4:List SOper:=[
 o 68 (.mv (t 11)),
 o 69 (.cmp .eql (t 68) (i 0)),
 o 70 (.call 91 [(t 69),(.const (.string ⟨#[69,82,82,32,108,111,110,103]⟩))])]
def f89r5:List SOper:=[
 o 71 (.mv (t 0)),
 o 72 (.nilck (t 71)),
 o 73 (.fa 1 (t 72)),
 o 74 (.fa 4 (t 12)),
 o 75 (.ld1 (t 74)),
 o 76 (.call 27 [(t 73),(t 75)])]
def f89r6:List SOper:=[
 o 77 (.fa 0 (t 12)),
 o 78 (.ldn 4 (t 77)),
 q (.st 4 (t 8) (t 78))]
def f89:SCode:=(.seq (.ops f89r0) (.seq (.ops f89r1) (.seq (.ops f89r2) (.seq (.tree [23,24,25,26,27,28,29,30,31,32,33,34,35,36,37,38,39,40,41,42,43,44,45,46,47,48,49,50,51,52,53,54,55,56,57,58,59,60,61,62,63,64,65,22,66,67,12,11] f89t3) (.seq (.ops f89r4) (.seq (.ops f89r5) (.seq (.ops f89r6) .ret)))))))
def f89_ent:Ent:=.code 79 f89 [.cn 8 4]
theorem f89_ok (oq:Nat→Value) (F:Nat→Prop) (h0:Heap):EntOK Tryz.prog oq F h0 89 f89_ent:=⟨soundD_of (fl:=false) mixed Tryz.func89 rfl (by kernel_rfl) (by kernel_rfl) (by kernel_rfl),soundF_of (fl:=false) mixed Tryz.func89 rfl (by kernel_rfl) (by kernel_rfl) (by kernel_rfl)⟩
def f137r0:List SOper:=[
 o 4 (.box (t 1)),
 o 5 (.box (t 2)),
 o 6 (.new [(.int .i64 0),(.int .i64 0),(.string ⟨#[]⟩),(.slice none 0 0),(.slice none 0 0),(.int .i64 0),(.int .i64 0)]),
 o 7 (.mv (i 0))]
def f137r1:List SOper:=[
 o 12 (.mv (t 0)),
 o 13 (.call 16 [(t 12),(.const (.pointer none))]),
 o 11 (.mv (t 13))]
def f137r2:List SOper:=[
 o 14 (.build [(.int .i64 0),(.int .i64 0),(.string ⟨#[]⟩),(.slice none 0 0),(.slice none 0 0),(.int .i64 0),(.int .i64 0)] [] []),
 q (.st 7 (t 6) (t 14)),
 o 7 (.mv (i 1))]
def f137r3:List SOper:=[
 o 16 (.ldn 3 (t 4)),
 o 17 (.call 191 [(t 16)]),
 o 18 (.cmp .neq (t 17) (i 0)),
 o 19 (.mv (t 18)),
 n 20 19 (.fa 0 (t 5)),
 n 21 19 (.ld1 (t 20)),
 n 22 19 (.fa 1 (t 5)),
 n 23 19 (.ld1 (t 22)),
 n 24 19 (.bslice [(.slice none 0 0),(.slice none 0 0)] 2 [(0,1),(1,1)] [(t 21),(t 23)]),
 n 25 19 (.call 193 [(t 24)]),
 n 26 19 (.call 192 [(t 25)]),
 n 27 19 (.un .not (t 26)),
 o 28 (.pick (t 19) (b true) (t 27)),
 o 15 (.mv (t 28))]
def f137r4:List SOper:=[
 o 29 (.build [(.int .i64 0),(.int .i64 0),(.string ⟨#[]⟩),(.slice none 0 0),(.slice none 0 0),(.int .i64 0),(.int .i64 0)] [] []),
 q (.st 7 (t 6) (t 29)),
 o 7 (.mv (i 2))]
def f137r5:List SOper:=[
 o 30 (.fa 3 (t 5)),
 o 31 (.ld1 (t 30)),
 o 32 (.mx (t 31) (i 0)),
 o 33 (.mn (t 32) (i 16777216)),
 o 8 (.mv (t 33))]
def f137t6:OTree:=(.one (o 35 (.fa 4 (t 5)))
 (.one (o 36 (.ld1 (t 35)))
 (.one (o 37 (.mn (t 36) (i 1048576)))
 (.one (o 39 (.mv (t 0)))
 (.one (o 40 (.fa 2 (t 5)))
 (.one (o 42 (.mv (t 8)))
 (.one (o 43 (.fa 5 (t 5)))
 (.one (o 34 (.ldn 3 (t 4)))
 (.one (o 41 (.ld1 (t 40)))
 (.one (o 44 (.ld1 (t 43)))
 (.one (o 45 (.mx (t 44) (i 0)))
 (.chk [o 44 (.ld1 (t 43)),o 41 (.ld1 (t 40)),o 34 (.ldn 3 (t 4))] (.one (o 46 (.mn (t 45) (i 200)))
 (.chk [o 44 (.ld1 (t 43)),o 41 (.ld1 (t 40)),o 34 (.ldn 3 (t 4))] (.one (o 38 (.call 194 [(t 37)]))
 (.chk [o 44 (.ld1 (t 43)),o 41 (.ld1 (t 40)),o 34 (.ldn 3 (t 4))] (.one (o 47 (.build [(.slice none 0 0),(.slice none 0 0),(.slice none 0 0),(.pointer none),(.pointer none),(.int .i64 0),(.int .i64 0),(.int .i64 0),(.int .i64 0),(.int .i64 0),(.string ⟨#[]⟩),(.int .i64 0),(.int .i64 0),(.string ⟨#[]⟩),(.slice none 0 0),(.slice none 0 0),(.int .i64 0),(.int .i64 0),(.string ⟨#[]⟩)] [(0,3),(3,1),(4,1),(5,1),(6,1),(7,1)] [(t 34),(t 38),(t 39),(t 41),(t 42),(t 46)]))
 (.chk [o 44 (.ld1 (t 43)),o 41 (.ld1 (t 40)),o 34 (.ldn 3 (t 4))] (.one (o 48 (.box (t 47)))
 (.one (o 9 (.mv (t 48)))
 .done))))))))))))))))))))
def f137r7:List SOper:=[
 o 49 (.mv (t 9)),
 o 50 (.ldn 6 (t 5)),
 o 51 (.call 195 [(t 49),(t 50)]),
 o 10 (.new [(.int .i64 0),(.int .i64 0),(.string ⟨#[]⟩),(.slice none 0 0)]),
 q (.st 4 (t 10) (t 51))]
def f137t8:OTree:=(.one (o 53 (.mv (t 9)))
 (.one (o 54 (.nilck (t 53)))
 (.one (o 55 (.fa 15 (t 54)))
 (.one (o 57 (.mv (t 8)))
 (.one (o 58 (.mv (t 9)))
 (.one (o 59 (.nilck (t 58)))
 (.one (o 60 (.fa 6 (t 59)))
 (.one (o 63 (.mv (t 9)))
 (.one (o 64 (.nilck (t 63)))
 (.one (o 65 (.fa 3 (t 64)))
 (.one (o 66 (.ld1 (t 65)))
 (.one (o 52 (.ldn 4 (t 10)))
 (.one (o 56 (.ld1 (t 55)))
 (.one (o 61 (.ld1 (t 60)))
 (.one (o 62 (.ar .sub (t 57) (t 61)))
 (.chk [o 61 (.ld1 (t 60)),o 56 (.ld1 (t 55)),o 52 (.ldn 4 (t 10))] (.one (o 67 (.call 196 [(t 66)]))
 (.chk [o 61 (.ld1 (t 60)),o 56 (.ld1 (t 55)),o 52 (.ldn 4 (t 10))] (.one (o 68 (.build [(.int .i64 0),(.int .i64 0),(.string ⟨#[]⟩),(.slice none 0 0),(.slice none 0 0),(.int .i64 0),(.int .i64 0)] [(0,4),(4,1),(5,1),(6,1)] [(t 52),(t 56),(t 62),(t 67)]))
 (.chk [o 61 (.ld1 (t 60)),o 56 (.ld1 (t 55)),o 52 (.ldn 4 (t 10))] (.one (q (.st 7 (t 6) (t 68)))
 (.one (o 7 (.mv (i 0)))
 .done))))))))))))))))))))))
def f137:SCode:=(.seq (.ops f137r0) (.seq (.block 0 (.seq (.ops f137r1) (.cond (t 11) (.seq (.ops f137r2) .ret) (.seq (.ops f137r3) (.cond (t 15) (.seq (.ops f137r4) .ret) .skip))))) (.seq (.ops f137r5) (.seq (.tree [34,35,36,37,38,39,40,41,42,43,44,45,46,47,48,9] f137t6) (.seq (.ops f137r7) (.seq (.tree [52,53,54,55,56,57,58,59,60,61,62,63,64,65,66,67,68,7] f137t8) .ret))))))
def f137_ent:Ent:=.code 69 f137 [.cn 6 7,.t 7]
theorem f137_ok (oq:Nat→Value) (F:Nat→Prop) (h0:Heap):EntOK Tryz.prog oq F h0 137 f137_ent:=⟨soundD_of (fl:=false) mixed Tryz.func137 rfl (by kernel_rfl) (by kernel_rfl) (by kernel_rfl),soundF_of (fl:=false) mixed Tryz.func137 rfl (by kernel_rfl) (by kernel_rfl) (by kernel_rfl)⟩
def f144r0:List SOper:=[
 o 6 (.new [(.int .i64 0),(.int .i64 0),(.string ⟨#[]⟩),(.slice none 0 0)]),
 o 7 (.new [(.slice none 0 0)]),
 o 8 (.mv (b false))]
def f144r1:List SOper:=[
 o 11 (.mv (t 2)),
 o 12 (.len (t 11)),
 o 13 (.cmp .eql (t 12) (i 0)),
 o 14 (.mv (t 13)),
 n 15 14 (.mv (t 0)),
 n 16 14 (.call 16 [(t 15),(.const (.pointer none))]),
 o 17 (.pick (t 14) (b true) (t 16))]
def f144r2:List SOper:=[
 o 18 (.build [(.int .i64 0),(.int .i64 0),(.string ⟨#[]⟩),(.slice none 0 0)] [] []),
 q (.st 4 (t 6) (t 18)),
 q (.st 1 (t 7) (.const (.slice none 0 0))),
 o 8 (.mv (b false))]
def f144t3:OTree:=(.one (o 21 (.mv (t 2)))
 (.one (o 22 (.ixs 1 (t 21) (i 0)))
 (.one (o 23 (.ld1 (t 22)))
 (.one (o 20 (.call 199 []))
 (.chk [o 23 (.ld1 (t 22))] (.one (o 24 (.call 200 [(t 23)]))
 (.one (o 25 (.look .str .nilFunc true (t 20) (t 24)))
 (.one (o 19 (.mv (t 25)))
 (.one (o 26 (.ext (t 19) 0))
 (.one (o 27 (.ext (t 19) 1))
 (.one (o 9 (.mv (t 26)))
 (.one (o 8 (.mv (t 27)))
 .done))))))))))))
def f144r4:List SOper:=[
 o 28 (.mv (t 8)),
 o 29 (.un .not (t 28))]
def f144r5:List SOper:=[
 o 30 (.build [(.int .i64 0),(.int .i64 0),(.string ⟨#[]⟩),(.slice none 0 0)] [] []),
 q (.st 4 (t 6) (t 30)),
 q (.st 1 (t 7) (.const (.slice none 0 0))),
 o 8 (.mv (b false))]
def f144r6:List SOper:=[
 o 31 (.fn 201 [] [(t 6),(t 7)])]
def f144r7:List SOper:=[
 o 32 (.mv (t 0)),
 o 33 (.mv (t 1)),
 o 34 (.mv (t 2)),
 o 35 (.slc 1 (t 34) (some (i 1)) none),
 o 36 (.build [(.pointer none),(.int .i64 0),(.slice none 0 0),(.slice none 0 0)] [(0,1),(1,1),(2,1)] [(t 32),(t 33),(t 35)]),
 o 37 (.box (t 36)),
 o 10 (.mv (t 37))]
def f144r8:List SOper:=[
 o 38 (.mv (t 9)),
 o 39 (.mv (t 10)),
 o 40 (.callv (t 38) [(t 39)]),
 q (.st 4 (t 6) (t 40))]
def f144t9:OTree:=(.one (o 41 (.ldn 4 (t 6)))
 (.one (o 42 (.mv (t 10)))
 (.one (o 43 (.nilck (t 42)))
 (.one (o 44 (.fa 3 (t 43)))
 (.one (o 45 (.ld1 (t 44)))
 (.one (q (.st 4 (t 6) (t 41)))
 (.chk [o 45 (.ld1 (t 44))] (.one (q (.st 1 (t 7) (t 45)))
 (.one (o 8 (.mv (b true)))
 .done)))))))))
def f144:SCode:=(.seq (.ops f144r0) (.seq (.seq (.ops f144r1) (.cond (t 17) (.seq (.ops f144r2) .ret) .skip)) (.seq (.tree [20,21,22,23,24,25,19,26,27,9,8] f144t3) (.seq (.seq (.ops f144r4) (.cond (t 29) (.seq (.ops f144r5) .ret) .skip)) (.seq (.dfr f144r6 none (t 31) []) (.seq (.ops f144r7) (.seq (.ops f144r8) (.seq (.tree [41,42,43,44,45,8] f144t9) .ret))))))))
def f144_ent:Ent:=.code 46 f144 [.cn 6 4,.c1 7,.t 8]
theorem f144_ok (oq:Nat→Value) (F:Nat→Prop) (h0:Heap):EntOK Tryz.prog oq F h0 144 f144_ent:=⟨soundD_of (fl:=false) mixed Tryz.func144 rfl (by kernel_rfl) (by kernel_rfl) (by kernel_rfl),soundF_of (fl:=false) mixed Tryz.func144 rfl (by kernel_rfl) (by kernel_rfl) (by kernel_rfl)⟩
def f189r0:List SOper:=[
 o 2 (.new [(.int .i64 0),(.string ⟨#[]⟩),(.string ⟨#[]⟩),(.int .i64 0),(.slice none 0 0),(.slice none 0 0)]),
 o 3 (.new [(.int .i64 0)]),
 o 4 (.new [(.int .i64 0)])]
def f189r1:List SOper:=[
 o 8 (.mv (t 0)),
 o 9 (.call 245 [(t 8)]),
 o 7 (.mv (t 9)),
 o 10 (.ext (t 7) 0),
 o 11 (.ext (t 7) 1),
 o 12 (.ext (t 7) 2),
 o 5 (.mv (t 10)),
 q (.st 1 (t 3) (t 11)),
 q (.st 1 (t 4) (t 12))]
def f189r2:List SOper:=[
 o 13 (.ld1 (t 4)),
 o 14 (.cmp .neq (t 13) (i 0))]
def f189t3:OTree:=(.one (o 15 (.build [(.int .i64 0),(.string ⟨#[]⟩),(.string ⟨#[]⟩),(.int .i64 0),(.slice none 0 0),(.slice none 0 0)] [] []))
 (.one (o 16 (.ld1 (t 3)))
 (.one (o 17 (.ld1 (t 4)))
 (.one (q (.st 6 (t 2) (t 15)))
 (.chk [o 17 (.ld1 (t 4)),o 16 (.ld1 (t 3))] (.one (q (.st 1 (t 3) (t 16)))
 (.chk [o 17 (.ld1 (t 4))] (.one (q (.st 1 (t 4) (t 17)))
 .done))))))))
def f189r4:List SOper:=[
 o 18 (.fn 246 [] [(t 2),(t 3),(t 4)])]
def f189r5:List SOper:=[
 o 19 (.mv (t 5)),
 o 20 (.mv (t 0)),
 o 21 (.lens (t 20)),
 o 22 (.build [(.slice none 0 0),(.int .i64 0),(.int .i64 0),(.int .i64 0)] [(0,1),(2,1)] [(t 19),(t 21)]),
 o 23 (.box (t 22)),
 o 6 (.mv (t 23))]
def f189r6:List SOper:=[
 o 24 (.mv (t 6)),
 o 25 (.call 247 [(t 24)]),
 q (.st 6 (t 2) (t 25))]
def f189r7:List SOper:=[
 o 26 (.mv (t 6)),
 o 27 (.mv (t 6)),
 o 28 (.nilck (t 27)),
 o 29 (.fa 1 (t 28)),
 o 30 (.ld1 (t 29)),
 o 31 (.mv (t 6)),
 o 32 (.nilck (t 31)),
 o 33 (.fa 0 (t 32)),
 o 34 (.ld1 (t 33)),
 o 35 (.len (t 34)),
 o 36 (.cmp .eql (t 30) (t 35)),
 o 37 (.call 248 [(t 26),(t 36)])]
def f189r8:List SOper:=[
 o 38 (.ldn 6 (t 2)),
 o 39 (.call 249 [(t 38)]),
 o 40 (.cmp .neq (t 39) (i 0))]
def f189r9:List SOper:=[
 o 41 (.build [(.int .i64 0),(.string ⟨#[]⟩),(.string ⟨#[]⟩),(.int .i64 0),(.slice none 0 0),(.slice none 0 0)] [] []),
 q (.st 6 (t 2) (t 41)),
 q (.st 1 (t 3) (i 0)),
 q (.st 1 (t 4) (i 221))]
def f189r10:List SOper:=[
 o 42 (.ldn 6 (t 2)),
 q (.st 6 (t 2) (t 42)),
 q (.st 1 (t 3) (i 0)),
 q (.st 1 (t 4) (i 0))]
def f189:SCode:=(.seq (.ops f189r0) (.seq (.ops f189r1) (.seq (.seq (.ops f189r2) (.cond (t 14) (.seq (.tree [15,16,17] f189t3) .ret) .skip)) (.seq (.dfr f189r4 none (t 18) []) (.seq (.ops f189r5) (.seq (.ops f189r6) (.seq (.ops f189r7) (.seq (.seq (.ops f189r8) (.cond (t 40) (.seq (.ops f189r9) .ret) .skip)) (.seq (.ops f189r10) .ret)))))))))
def f189_ent:Ent:=.code 43 f189 [.cn 2 6,.c1 3,.c1 4]
theorem f189_ok (oq:Nat→Value) (F:Nat→Prop) (h0:Heap):EntOK Tryz.prog oq F h0 189 f189_ent:=⟨soundD_of (fl:=false) mixed Tryz.func189 rfl (by kernel_rfl) (by kernel_rfl) (by kernel_rfl),soundF_of (fl:=false) mixed Tryz.func189 rfl (by kernel_rfl) (by kernel_rfl) (by kernel_rfl)⟩
def f190r0:List SOper:=[
 o 1 (.box (t 0)),
 o 2 (.new [(.slice none 0 0),(.slice none 0 0),(.slice none 0 0)]),
 o 3 (.new [(.int .i64 0)])]
def f190r1:List SOper:=[
 o 12 (.ldn 6 (t 1)),
 o 13 (.call 250 [(t 12)]),
 o 11 (.mv (t 13)),
 o 14 (.ext (t 11) 0),
 o 15 (.ext (t 11) 1),
 o 16 (.ext (t 11) 2),
 o 4 (.new [(.int .i64 0),(.string ⟨#[]⟩),(.string ⟨#[]⟩),(.int .i64 0),(.slice none 0 0),(.slice none 0 0)]),
 q (.st 6 (t 4) (t 14)),
 o 5 (.mv (t 15)),
 q (.st 1 (t 3) (t 16))]
def f190r2:List SOper:=[
 o 17 (.ld1 (t 3)),
 o 18 (.cmp .neq (t 17) (i 0))]
def f190t3:OTree:=(.one (o 19 (.build [(.slice none 0 0),(.slice none 0 0),(.slice none 0 0)] [] []))
 (.one (o 20 (.ld1 (t 3)))
 (.one (q (.st 3 (t 2) (t 19)))
 (.chk [o 20 (.ld1 (t 3))] (.one (q (.st 1 (t 3) (t 20)))
 .done)))))
def f190r4:List SOper:=[
 o 21 (.fn 251 [] [(t 2),(t 3)])]
def f190r5:List SOper:=[
 o 22 (.mkm),
 o 23 (.ldn 6 (t 4)),
 q (.mup (.int .i64) (t 22) (i 0) (t 23)),
 o 24 (.mv (t 22)),
 o 6 (.new [(.map none)]),
 q (.st 1 (t 6) (t 24))]
def f190r6:List SOper:=[
 o 25 (.ldn 6 (t 4)),
 o 26 (.call 252 [(t 25)])]
def f190r7:List SOper:=[
 o 7 (.new [(.int .i64 0),(.string ⟨#[]⟩),(.string ⟨#[]⟩),(.int .i64 0),(.slice none 0 0),(.slice none 0 0)]),
 q (.st 6 (t 7) (t 27))]
def f190r8:List SOper:=[
 o 28 (.fa 0 (t 7)),
 o 29 (.ld1 (t 28)),
 o 30 (.cmp .eql (t 29) (i 9))]
def f190r9:List SOper:=[
 o 31 (.ld1 (t 6)),
 o 32 (.fa 3 (t 7)),
 o 33 (.ld1 (t 32)),
 o 34 (.fa 5 (t 7)),
 o 35 (.ld1 (t 34)),
 o 36 (.ixs 6 (t 35) (i 0)),
 o 37 (.ldn 6 (t 36)),
 q (.mup (.int .i64) (t 31) (t 33) (t 37))]
def f190a10:SCode:=(.ops f190r7)
def f190b10:SCode:=(.block 1 (.seq (.ops f190r8) (.cond (t 30) (.ops f190r9) .skip)))
def f190r11:List SOper:=[
 o 38 (.mkm),
 o 39 (.mkm),
 o 40 (.build [(.map none),(.map none),(.pointer none)] [(0,1),(1,1),(2,1)] [(t 38),(t 39),(t 2)]),
 o 41 (.box (t 40)),
 o 8 (.mv (t 41))]
def f190r12:List SOper:=[
 o 42 (.mv (t 5)),
 o 43 (.len (t 42)),
 o 44 (.mv (i 0))]
def f190r13:List SOper:=[
 o 45 (.cmp .lss (t 44) (t 43))]
def f190r14:List SOper:=[
 o 46 (.mv (t 44)),
 o 47 (.ixs 3 (t 42) (t 44)),
 o 48 (.ldn 3 (t 47)),
 o 10 (.new [(.string ⟨#[]⟩),(.int .i64 0),(.int .i64 0)]),
 o 9 (.mv (t 46)),
 q (.st 3 (t 10) (t 48))]
def f190t15:OTree:=(.one (o 49 (.fa 0 (t 2)))
 (.one (o 51 (.mv (t 8)))
 (.one (o 52 (.ldn 3 (t 10)))
 (.one (o 53 (.ld1 (t 6)))
 (.one (o 54 (.mv (t 9)))
 (.one (o 55 (.look (.int .i64) (.agg #[(.int .i64 0),(.string ⟨#[]⟩),(.string ⟨#[]⟩),(.int .i64 0),(.slice none 0 0),(.slice none 0 0)]) false (t 53) (t 54)))
 (.one (o 50 (.ld1 (t 49)))
 (.one (o 56 (.call 253 [(t 51),(t 52),(t 55)]))
 (.chk [o 50 (.ld1 (t 49))] (.one (o 57 (.bslice [(.int .i64 0),(.int .i64 0),(.slice none 0 0)] 1 [(0,3)] [(t 56)]))
 (.chk [o 50 (.ld1 (t 49))] (.one (o 58 (.app 3 40 [(.int .i64 0),(.int .i64 0),(.slice none 0 0)] (t 50) (t 57)))
 (.one (o 59 (.fa 0 (t 2)))
 (.one (q (.st 1 (t 59) (t 58)))
 .done))))))))))))))
def f190r16:List SOper:=[
 o 60 (.ar .add (t 44) (i 1)),
 o 44 (.mv (t 60))]
def f190l17:SCode:=(.seq (.ops f190r13) (.seq (.cond (t 45) .skip (.exit 2)) (.seq (.block 3 (.seq (.ops f190r14) (.tree [49,50,51,52,53,54,55,56,57,58,59] f190t15))) (.ops f190r16))))
def f190r18:List SOper:=[
 o 61 (.ldn 3 (t 2)),
 o 62 (.call 191 [(t 61)]),
 o 63 (.cmp .neq (t 62) (i 0))]
def f190r19:List SOper:=[
 o 64 (.build [(.slice none 0 0),(.slice none 0 0),(.slice none 0 0)] [] []),
 q (.st 3 (t 2) (t 64)),
 q (.st 1 (t 3) (i 3))]
def f190r20:List SOper:=[
 o 65 (.ldn 3 (t 2)),
 q (.st 3 (t 2) (t 65)),
 q (.st 1 (t 3) (i 0))]
def f190:SCode:=(.seq (.ops f190r0) (.seq (.ops f190r1) (.seq (.seq (.ops f190r2) (.cond (t 18) (.seq (.tree [19,20] f190t3) .ret) .skip)) (.seq (.dfr f190r4 none (t 21) []) (.seq (.ops f190r5) (.seq (.seq (.ops f190r6) (.block 0 (.rangeF (t 26) [27] f190a10 f190b10))) (.seq (.ops f190r11) (.seq (.seq (.ops f190r12) (.block 2 (.loop f190l17))) (.seq (.seq (.ops f190r18) (.cond (t 63) (.seq (.ops f190r19) .ret) .skip)) (.seq (.ops f190r20) .ret))))))))))
def f190_ent:Ent:=.code 66 f190 [.cn 2 3,.c1 3]
theorem f190_ok (oq:Nat→Value) (F:Nat→Prop) (h0:Heap):EntOK Tryz.prog oq F h0 190 f190_ent:=⟨soundD_of (fl:=false) mixed Tryz.func190 rfl (by kernel_rfl) (by kernel_rfl) (by kernel_rfl),soundF_of (fl:=false) mixed Tryz.func190 rfl (by kernel_rfl) (by kernel_rfl) (by kernel_rfl)⟩
def f191r0:List SOper:=[
 o 1 (.box (t 0)),
 o 2 (.mv (i 0))]
def f191t1:OTree:=(.one (o 11 (.fa 0 (t 1)))
 (.one (o 12 (.ld1 (t 11)))
 (.one (o 13 (.len (t 12)))
 (.one (o 14 (.cmp .lss (t 13) (i 1)))
 (.one (o 15 (.mv (t 14)))
 (.one (n 16 15 (.fa 0 (t 1)))
 (.one (n 17 15 (.ld1 (t 16)))
 (.one (n 18 15 (.len (t 17)))
 (.one (n 19 15 (.cmp .gtr (t 18) (i 1000)))
 (.one (o 20 (.pick (t 15) (b true) (t 19)))
 (.one (o 21 (.mv (t 20)))
 (.one (n 22 21 (.fa 0 (t 1)))
 (.one (n 23 21 (.ld1 (t 22)))
 (.one (n 24 21 (.ixs 3 (t 23) (i 0)))
 (.one (n 25 21 (.fa 0 (t 24)))
 (.one (n 26 21 (.ld1 (t 25)))
 (.one (n 27 21 (.cmp .neq (t 26) (i 0)))
 (.one (o 28 (.pick (t 21) (b true) (t 27)))
 (.one (o 29 (.mv (t 28)))
 (.one (n 30 29 (.ldn 3 (t 1)))
 (.one (n 32 29 (.fa 1 (t 1)))
 (.one (n 36 29 (.fa 2 (t 1)))
 (.one (n 33 29 (.ld1 (t 32)))
 (.one (n 34 29 (.len (t 33)))
 (.chk [n 33 29 (.ld1 (t 32))] (.one (n 37 29 (.ld1 (t 36)))
 (.one (n 38 29 (.len (t 37)))
 (.chk [n 37 29 (.ld1 (t 36)),n 33 29 (.ld1 (t 32))] (.one (n 31 29 (.call 254 [(t 30)]))
 (.chk [n 37 29 (.ld1 (t 36)),n 33 29 (.ld1 (t 32))] (.one (n 35 29 (.ar .add (t 31) (t 34)))
 (.chk [n 37 29 (.ld1 (t 36)),n 33 29 (.ld1 (t 32))] (.one (n 39 29 (.ar .add (t 35) (t 38)))
 (.chk [n 37 29 (.ld1 (t 36)),n 33 29 (.ld1 (t 32))] (.one (n 40 29 (.cmp .gtr (t 39) (i 65536)))
 (.chk [n 37 29 (.ld1 (t 36)),n 33 29 (.ld1 (t 32))] (.one (o 41 (.pick (t 29) (b true) (t 40)))
 (.chk [n 37 29 (.ld1 (t 36)),n 33 29 (.ld1 (t 32))] .done))))))))))))))))))))))))))))))))))))))
def f191r2:List SOper:=[
 o 2 (.mv (i 2))]
def f191r3:List SOper:=[
 o 42 (.fa 2 (t 1)),
 o 43 (.ld1 (t 42)),
 o 44 (.call 21 [(t 43),(u 255)]),
 o 45 (.un .not (t 44)),
 o 3 (.mv (t 45))]
def f191r4:List SOper:=[
 o 46 (.fa 0 (t 1)),
 o 47 (.ld1 (t 46)),
 o 48 (.len (t 47)),
 o 49 (.mv (i 0))]
def f191r5:List SOper:=[
 o 50 (.cmp .lss (t 49) (t 48))]
def f191r6:List SOper:=[
 o 51 (.ixs 3 (t 47) (t 49)),
 o 52 (.ldn 3 (t 51)),
 o 5 (.new [(.int .i64 0),(.int .i64 0),(.slice none 0 0)]),
 q (.st 3 (t 5) (t 52))]
def f191r7:List SOper:=[
 o 53 (.mv (t 3)),
 o 54 (.mv (t 53)),
 g 55 54 (.fa 0 (t 5)),
 g 56 54 (.ld1 (t 55)),
 g 57 54 (.cmp .geq (t 56) (i 0)),
 o 58 (.pick (t 54) (t 57) (b false)),
 o 59 (.mv (t 58)),
 g 60 59 (.fa 0 (t 5)),
 g 61 59 (.ld1 (t 60)),
 g 62 59 (.fa 1 (t 5)),
 g 63 59 (.ld1 (t 62)),
 g 64 59 (.cmp .leq (t 61) (t 63)),
 o 65 (.pick (t 59) (t 64) (b false)),
 o 66 (.mv (t 65)),
 g 67 66 (.fa 1 (t 5)),
 g 68 66 (.ld1 (t 67)),
 g 69 66 (.cmp .leq (t 68) (i 500)),
 o 70 (.pick (t 66) (t 69) (b false)),
 o 3 (.mv (t 70))]
def f191r8:List SOper:=[
 o 71 (.ar .add (t 49) (i 1)),
 o 49 (.mv (t 71))]
def f191l9:SCode:=(.seq (.ops f191r5) (.seq (.cond (t 50) .skip (.exit 0)) (.seq (.block 1 (.seq (.ops f191r6) (.ops f191r7))) (.ops f191r8))))
def f191r10:List SOper:=[
 o 72 (.mv (t 3)),
 o 73 (.un .not (t 72))]
def f191r11:List SOper:=[
 o 2 (.mv (i 2))]
def f191r12:List SOper:=[
 o 74 (.fa 0 (t 1)),
 o 75 (.ld1 (t 74)),
 o 76 (.len (t 75)),
 o 77 (.mv (i 0))]
def f191r13:List SOper:=[
 o 78 (.cmp .lss (t 77) (t 76))]
def f191r14:List SOper:=[
 o 79 (.ixs 3 (t 75) (t 77)),
 o 80 (.ldn 3 (t 79)),
 o 7 (.new [(.int .i64 0),(.int .i64 0),(.slice none 0 0)]),
 q (.st 3 (t 7) (t 80))]
def f191r15:List SOper:=[
 o 81 (.ldn 3 (t 1)),
 o 82 (.ldn 3 (t 7)),
 o 83 (.build [(.slice none 0 0),(.slice none 0 0),(.slice none 0 0),(.int .i64 0),(.int .i64 0),(.slice none 0 0)] [(0,3),(3,3)] [(t 81),(t 82)]),
 o 8 (.new [(.slice none 0 0),(.slice none 0 0),(.slice none 0 0),(.int .i64 0),(.int .i64 0),(.slice none 0 0)]),
 q (.st 6 (t 8) (t 83))]
def f191r16:List SOper:=[
 o 84 (.fa 2 (t 7)),
 o 85 (.ld1 (t 84)),
 o 86 (.call 256 [(t 85)]),
 o 3 (.mv (t 86))]
def f191r17:List SOper:=[
 o 87 (.mv (t 3)),
 o 88 (.un .not (t 87))]
def f191r18:List SOper:=[
 o 89 (.fa 2 (t 7)),
 o 90 (.ld1 (t 89)),
 o 91 (.len (t 90)),
 o 92 (.mv (i 0))]
def f191r19:List SOper:=[
 o 93 (.cmp .lss (t 92) (t 91))]
def f191r20:List SOper:=[
 o 94 (.ixs 4 (t 90) (t 92)),
 o 95 (.ldn 4 (t 94)),
 o 10 (.new [(.int .i64 0),(.int .i64 0),(.int .i64 0),(.int .i64 0)]),
 q (.st 4 (t 10) (t 95))]
def f191r21:List SOper:=[
 o 96 (.ldn 6 (t 8)),
 o 97 (.ldn 4 (t 10)),
 o 98 (.call 257 [(t 96),(t 97)]),
 o 3 (.mv (t 98))]
def f191r22:List SOper:=[
 o 99 (.mv (t 3)),
 o 100 (.un .not (t 99))]
def f191r23:List SOper:=[
 o 101 (.ar .add (t 92) (i 1)),
 o 92 (.mv (t 101))]
def f191l24:SCode:=(.seq (.ops f191r19) (.seq (.cond (t 93) .skip (.exit 4)) (.seq (.block 5 (.seq (.ops f191r20) (.seq (.ops f191r21) (.seq (.ops f191r22) (.cond (t 100) (.exit 2) .skip))))) (.ops f191r23))))
def f191r25:List SOper:=[
 o 102 (.ar .add (t 77) (i 1)),
 o 77 (.mv (t 102))]
def f191l26:SCode:=(.seq (.ops f191r13) (.seq (.cond (t 78) .skip (.exit 2)) (.seq (.block 3 (.seq (.ops f191r14) (.seq (.ops f191r15) (.seq (.seq (.ops f191r16) (.seq (.ops f191r17) (.cond (t 88) (.exit 2) .skip))) (.seq (.ops f191r18) (.block 4 (.loop f191l24))))))) (.ops f191r25))))
def f191r27:List SOper:=[
 o 103 (.mv (t 3)),
 o 104 (.un .not (t 103))]
def f191r28:List SOper:=[
 o 2 (.mv (i 2))]
def f191r29:List SOper:=[
 o 2 (.mv (i 0))]
def f191r30:List SOper:=[
 o 74 (.fa 0 (t 1)),
 o 75 (.ld1 (t 74)),
 o 76 (.len (t 75)),
 o 77 (.mv (i 0))]
def f191r31:List SOper:=[
 o 78 (.cmp .lss (t 77) (t 76))]
def f191r32:List SOper:=[
 o 79 (.ixs 3 (t 75) (t 77)),
 o 80 (.ldn 3 (t 79)),
 o 7 (.new [(.int .i64 0),(.int .i64 0),(.slice none 0 0)]),
 q (.st 3 (t 7) (t 80))]
def f191r33:List SOper:=[
 o 81 (.ldn 3 (t 1)),
 o 82 (.ldn 3 (t 7)),
 o 83 (.build [(.slice none 0 0),(.slice none 0 0),(.slice none 0 0),(.int .i64 0),(.int .i64 0),(.slice none 0 0)] [(0,3),(3,3)] [(t 81),(t 82)]),
 o 8 (.new [(.slice none 0 0),(.slice none 0 0),(.slice none 0 0),(.int .i64 0),(.int .i64 0),(.slice none 0 0)]),
 q (.st 6 (t 8) (t 83))]
def f191r34:List SOper:=[
 o 84 (.fa 2 (t 7)),
 o 85 (.ld1 (t 84)),
 o 86 (.call 256 [(t 85)]),
 o 3 (.mv (t 86))]
def f191r35:List SOper:=[
 o 87 (.mv (t 3)),
 o 88 (.un .not (t 87))]
def f191r36:List SOper:=[
 o 89 (.fa 2 (t 7)),
 o 90 (.ld1 (t 89)),
 o 91 (.len (t 90)),
 o 92 (.mv (i 0))]
def f191r37:List SOper:=[
 o 93 (.cmp .lss (t 92) (t 91))]
def f191r38:List SOper:=[
 o 94 (.ixs 4 (t 90) (t 92)),
 o 95 (.ldn 4 (t 94)),
 o 10 (.new [(.int .i64 0),(.int .i64 0),(.int .i64 0),(.int .i64 0)]),
 q (.st 4 (t 10) (t 95))]
def f191r39:List SOper:=[
 o 96 (.ldn 6 (t 8)),
 o 97 (.ldn 4 (t 10)),
 o 98 (.call 257 [(t 96),(t 97)]),
 o 3 (.mv (t 98))]
def f191r40:List SOper:=[
 o 99 (.mv (t 3)),
 o 100 (.un .not (t 99))]
def f191r41:List SOper:=[
 o 101 (.ar .add (t 92) (i 1)),
 o 92 (.mv (t 101))]
def f191l42:SCode:=(.seq (.ops f191r37) (.seq (.cond (t 93) .skip (.exit 4)) (.seq (.block 5 (.seq (.ops f191r38) (.seq (.ops f191r39) (.seq (.ops f191r40) (.cond (t 100) (.exit 2) .skip))))) (.ops f191r41))))
def f191r43:List SOper:=[
 o 102 (.ar .add (t 77) (i 1)),
 o 77 (.mv (t 102))]
def f191l44:SCode:=(.seq (.ops f191r31) (.seq (.cond (t 78) .skip (.exit 2)) (.seq (.block 3 (.seq (.ops f191r32) (.seq (.ops f191r33) (.seq (.seq (.ops f191r34) (.seq (.ops f191r35) (.cond (t 88) (.exit 2) .skip))) (.seq (.ops f191r36) (.block 4 (.loop f191l42))))))) (.ops f191r43))))
def f191r45:List SOper:=[
 o 103 (.mv (t 3)),
 o 104 (.un .not (t 103))]
def f191r46:List SOper:=[
 o 2 (.mv (i 2))]
def f191r47:List SOper:=[
 o 2 (.mv (i 0))]
def f191:SCode:=(.seq (.ops f191r0) (.scopeG (.seq (.seq (.tree [11,12,13,14,15,16,17,18,19,20,21,22,23,24,25,26,27,28,29,30,31,32,33,34,35,36,37,38,39,40,41] f191t1) (.cond (t 41) (.seq (.ops f191r2) .ret) .skip)) (.seq (.ops f191r3) (.seq (.seq (.ops f191r4) (.block 0 (.loop f191l9))) (.seq (.seq (.ops f191r10) (.cond (t 73) (.seq (.ops f191r11) .ret) .skip)) (.seq (.label 0) (.seq (.seq (.ops f191r12) (.block 2 (.loop f191l26))) (.seq (.seq (.ops f191r27) (.cond (t 104) (.seq (.ops f191r28) .ret) .skip)) (.seq (.ops f191r29) .ret)))))))) 0 (.seq .skip (.seq (.seq (.ops f191r30) (.block 2 (.loop f191l44))) (.seq (.seq (.ops f191r45) (.cond (t 104) (.seq (.ops f191r46) .ret) .skip)) (.seq (.ops f191r47) .ret))))))
def f191_ent:Ent:=.code 105 f191 [.t 2]
theorem f191_ok (oq:Nat→Value) (F:Nat→Prop) (h0:Heap):EntOK Tryz.prog oq F h0 191 f191_ent:=⟨soundD_of (fl:=false) mixed Tryz.func191 rfl (by kernel_rfl) (by kernel_rfl) (by kernel_rfl),soundF_of (fl:=false) mixed Tryz.func191 rfl (by kernel_rfl) (by kernel_rfl) (by kernel_rfl)⟩
def f195r0:List SOper:=[
 o 2 (.box (t 0)),
 o 3 (.box (t 1)),
 o 4 (.new [(.int .i64 0),(.int .i64 0),(.string ⟨#[]⟩),(.slice none 0 0)])]
def f195r1:List SOper:=[
 o 8 (.fn 260 [] [(t 4)])]
def f195t2:OTree:=(.one (o 11 (.ld1 (t 2)))
 (.one (o 12 (.fa 0 (t 3)))
 (.one (o 13 (.ld1 (t 12)))
 (.one (o 16 (.fa 1 (t 3)))
 (.one (o 9 (.ld1 (t 2)))
 (.one (o 10 (.ld1 (t 2)))
 (.one (o 15 (.ld1 (t 2)))
 (.one (o 17 (.ld1 (t 16)))
 (.one (o 14 (.call 261 [(t 11),(t 13)]))
 (.chk [o 17 (.ld1 (t 16)),o 15 (.ld1 (t 2)),o 10 (.ld1 (t 2)),o 9 (.ld1 (t 2))] (.one (o 18 (.call 261 [(t 15),(t 17)]))
 (.chk [o 10 (.ld1 (t 2)),o 9 (.ld1 (t 2))] (.one (o 19 (.nilck (t 9)))
 (.chk [o 10 (.ld1 (t 2)),o 9 (.ld1 (t 2))] (.one (o 20 (.fa 8 (t 19)))
 (.chk [o 10 (.ld1 (t 2)),o 9 (.ld1 (t 2))] (.one (q (.st 3 (t 20) (t 14)))
 (.chk [o 10 (.ld1 (t 2))] (.one (o 21 (.nilck (t 10)))
 (.chk [o 10 (.ld1 (t 2))] (.one (o 22 (.fa 11 (t 21)))
 (.chk [o 10 (.ld1 (t 2))] (.one (q (.st 3 (t 22) (t 18)))
 .done)))))))))))))))))))))))
def f195r3:List SOper:=[
 o 23 (.ld1 (t 2)),
 o 24 (.call 262 [(t 23)]),
 o 5 (.new (List.replicate 36 .nilFunc)),
 q (.st 36 (t 5) (t 24))]
def f195r4:List SOper:=[
 o 25 (.ld1 (t 2)),
 o 26 (.call 263 [(t 25),(i 0),(i 0),(.const (.slice none 0 0))])]
def f195r5:List SOper:=[
 o 27 (.ld1 (t 2)),
 o 28 (.call 264 [(t 27)])]
def f195r6:List SOper:=[
 o 6 (.new [(.int .i64 0),(.int .i64 0),(.int .i64 0),(.int .i64 0)]),
 q (.st 4 (t 6) (t 29))]
def f195r7:List SOper:=[
 o 30 (.fa 0 (t 6)),
 o 31 (.ld1 (t 30)),
 o 32 (.ixa 36 1 (t 5) (t 31)),
 o 33 (.ld1 (t 32)),
 o 34 (.ldn 4 (t 6)),
 o 35 (.callv (t 33) [(t 34)])]
def f195r8:List SOper:=[
 o 36 (.ld1 (t 2)),
 o 37 (.nilck (t 36)),
 o 38 (.fa 14 (t 37)),
 o 39 (.ld1 (t 38)),
 o 40 (.len (t 39)),
 o 41 (.cmp .eql (t 40) (i 0))]
def f195a9:SCode:=(.ops f195r6)
def f195b9:SCode:=(.block 1 (.seq (.ops f195r7) (.seq (.ops f195r8) (.cond (t 41) (.exit 0) .skip))))
def f195r10:List SOper:=[
 o 43 (.ld1 (t 2)),
 o 44 (.nilck (t 43)),
 o 45 (.fa 3 (t 44)),
 o 46 (.ld1 (t 45)),
 o 47 (.ld1 (t 2)),
 o 48 (.nilck (t 47)),
 o 49 (.fa 16 (t 48)),
 o 50 (.ldn 3 (t 49)),
 o 51 (.call 265 [(t 46),(t 50)]),
 o 42 (.mv (t 51)),
 o 52 (.ext (t 42) 0),
 o 53 (.ext (t 42) 1),
 q (.st 4 (t 4) (t 52)),
 o 7 (.mv (t 53))]
def f195r11:List SOper:=[
 o 54 (.mv (t 7)),
 o 55 (.call 266 [(t 54)])]
def f195r12:List SOper:=[
 o 56 (.ldn 4 (t 4)),
 q (.st 4 (t 4) (t 56))]
def f195r13:List SOper:=[
 o 27 (.ld1 (t 2)),
 o 28 (.call 264 [(t 27)])]
def f195r14:List SOper:=[
 o 6 (.new [(.int .i64 0),(.int .i64 0),(.int .i64 0),(.int .i64 0)]),
 q (.st 4 (t 6) (t 29))]
def f195r15:List SOper:=[
 o 30 (.fa 0 (t 6)),
 o 31 (.ld1 (t 30)),
 o 32 (.ixa 36 1 (t 5) (t 31)),
 o 33 (.ld1 (t 32)),
 o 34 (.ldn 4 (t 6)),
 o 35 (.callv (t 33) [(t 34)])]
def f195r16:List SOper:=[
 o 36 (.ld1 (t 2)),
 o 37 (.nilck (t 36)),
 o 38 (.fa 14 (t 37)),
 o 39 (.ld1 (t 38)),
 o 40 (.len (t 39)),
 o 41 (.cmp .eql (t 40) (i 0))]
def f195a17:SCode:=(.ops f195r14)
def f195b17:SCode:=(.block 1 (.seq (.ops f195r15) (.seq (.ops f195r16) (.cond (t 41) (.exit 0) .skip))))
def f195r18:List SOper:=[
 o 43 (.ld1 (t 2)),
 o 44 (.nilck (t 43)),
 o 45 (.fa 3 (t 44)),
 o 46 (.ld1 (t 45)),
 o 47 (.ld1 (t 2)),
 o 48 (.nilck (t 47)),
 o 49 (.fa 16 (t 48)),
 o 50 (.ldn 3 (t 49)),
 o 51 (.call 265 [(t 46),(t 50)]),
 o 42 (.mv (t 51)),
 o 52 (.ext (t 42) 0),
 o 53 (.ext (t 42) 1),
 q (.st 4 (t 4) (t 52)),
 o 7 (.mv (t 53))]
def f195r19:List SOper:=[
 o 54 (.mv (t 7)),
 o 55 (.call 266 [(t 54)])]
def f195r20:List SOper:=[
 o 56 (.ldn 4 (t 4)),
 q (.st 4 (t 4) (t 56))]
def f195:SCode:=(.seq (.ops f195r0) (.scopeG (.seq (.dfr f195r1 none (t 8) []) (.seq (.tree [9,10,11,12,13,14,15,16,17,18,19,20,21,22] f195t2) (.seq (.ops f195r3) (.seq (.ops f195r4) (.seq (.label 0) (.seq (.seq (.ops f195r5) (.block 0 (.rangeF (t 28) [29] f195a9 f195b9))) (.seq (.ops f195r10) (.seq (.ops f195r11) (.seq (.ops f195r12) .ret))))))))) 0 (.seq .skip (.seq (.seq (.ops f195r13) (.block 0 (.rangeF (t 28) [29] f195a17 f195b17))) (.seq (.ops f195r18) (.seq (.ops f195r19) (.seq (.ops f195r20) .ret)))))))
def f195_ent:Ent:=.code 57 f195 [.cn 4 4]
theorem f195_ok (oq:Nat→Value) (F:Nat→Prop) (h0:Heap):EntOK Tryz.prog oq F h0 195 f195_ent:=⟨soundD_of (fl:=false) mixed Tryz.func195 rfl (by kernel_rfl) (by kernel_rfl) (by kernel_rfl),soundF_of (fl:=false) mixed Tryz.func195 rfl (by kernel_rfl) (by kernel_rfl) (by kernel_rfl)⟩
def f245r0:List SOper:=[
 o 2 (.new [(.slice none 0 0)]),
 o 3 (.new [(.int .i64 0)]),
 o 4 (.new [(.int .i64 0)])]
def f245r1:List SOper:=[
 o 8 (.mv (t 0)),
 o 9 (.lens (t 8)),
 o 10 (.cmp .gtr (t 9) (i 1048576))]
def f245r2:List SOper:=[
 q (.st 1 (t 2) (.const (.slice none 0 0))),
 q (.st 1 (t 3) (i 0)),
 q (.st 1 (t 4) (i 3))]
def f245r3:List SOper:=[
 o 5 (.new [(.slice none 0 0)])]
def f245r4:List SOper:=[
 o 11 (.mv (t 0)),
 o 12 (.call 339 [(t 11)])]
def f245r5:List SOper:=[
 o 6 (.new [(.int .i64 0),(.string ⟨#[]⟩),(.int .i64 0),(.int .i64 0)]),
 q (.st 4 (t 6) (t 13))]
def f245r6:List SOper:=[
 o 7 (.mv (t 14))]
def f245r7:List SOper:=[
 o 15 (.mv (t 7)),
 o 16 (.cmp .eql (t 15) (i 0))]
def f245t8:OTree:=(.one (o 17 (.fa 3 (t 6)))
 (.one (o 18 (.ld1 (t 17)))
 (.one (q (.st 1 (t 2) (.const (.slice none 0 0))))
 (.chk [o 18 (.ld1 (t 17))] (.one (q (.st 1 (t 3) (t 18)))
 (.one (q (.st 1 (t 4) (i 210)))
 .done))))))
def f245r9:List SOper:=[
 o 19 (.ld1 (t 5)),
 o 20 (.ldn 4 (t 6)),
 o 21 (.bslice [(.int .i64 0),(.string ⟨#[]⟩),(.int .i64 0),(.int .i64 0)] 1 [(0,4)] [(t 20)]),
 o 22 (.app 4 40 [(.int .i64 0),(.string ⟨#[]⟩),(.int .i64 0),(.int .i64 0)] (t 19) (t 21)),
 q (.st 1 (t 5) (t 22))]
def f245a10:SCode:=(.seq (.ops f245r5) (.ops f245r6))
def f245b10:SCode:=(.block 1 (.seq (.seq (.ops f245r7) (.cond (t 16) (.seq (.tree [17,18] f245t8) .ret) .skip)) (.ops f245r9)))
def f245r11:List SOper:=[
 o 23 (.ld1 (t 5)),
 q (.st 1 (t 2) (t 23)),
 q (.st 1 (t 3) (i 0)),
 q (.st 1 (t 4) (i 0))]
def f245:SCode:=(.seq (.ops f245r0) (.seq (.seq (.ops f245r1) (.cond (t 10) (.seq (.ops f245r2) .ret) .skip)) (.seq (.ops f245r3) (.seq (.seq (.ops f245r4) (.block 0 (.rangeF (t 12) [13,14] f245a10 f245b10))) (.seq (.ops f245r11) .ret)))))
def f245_ent:Ent:=.code 24 f245 [.c1 2,.c1 3,.c1 4]
theorem f245_ok (oq:Nat→Value) (F:Nat→Prop) (h0:Heap):EntOK Tryz.prog oq F h0 245 f245_ent:=⟨soundD_of (fl:=false) mixed Tryz.func245 rfl (by kernel_rfl) (by kernel_rfl) (by kernel_rfl),soundF_of (fl:=false) mixed Tryz.func245 rfl (by kernel_rfl) (by kernel_rfl) (by kernel_rfl)⟩
def f246r0:List SOper:=[
 o 8 (.eqn 4 false (t 6))]
def f246r1:List SOper:=[
 o 3 (.mv (t 6))]
def f246r2:List SOper:=[
 o 9 (.tas 340 (.agg #[(.int .i64 0),(.int .i64 0)]) true (t 6)),
 o 10 (.ext (t 9) 1),
 o 11 (.ext (t 9) 0)]
def f246r3:List SOper:=[
 o 4 (.new [(.int .i64 0),(.int .i64 0)]),
 q (.st 2 (t 4) (t 11))]
def f246t4:OTree:=(.one (o 12 (.build [(.int .i64 0),(.string ⟨#[]⟩),(.string ⟨#[]⟩),(.int .i64 0),(.slice none 0 0),(.slice none 0 0)] [] []))
 (.one (o 13 (.fa 0 (t 4)))
 (.one (o 15 (.fa 1 (t 4)))
 (.one (o 14 (.ld1 (t 13)))
 (.one (o 16 (.ld1 (t 15)))
 (.one (q (.st 6 (t 0) (t 12)))
 (.chk [o 16 (.ld1 (t 15)),o 14 (.ld1 (t 13))] (.one (q (.st 1 (t 1) (t 14)))
 (.chk [o 16 (.ld1 (t 15))] (.one (q (.st 1 (t 2) (t 16)))
 .done))))))))))
def f246r5:List SOper:=[
 o 5 (.mv (t 6))]
def f246r6:List SOper:=[
 o 7 (.mv (t 5)),
 q (.pan (t 7))]
def f246:SCode:=(.seq (.rcv (some 6)) (.block 0 (.seq (.ops f246r0) (.cond (t 8) (.ops f246r1) (.seq (.ops f246r2) (.cond (t 10) (.seq (.ops f246r3) (.tree [12,13,14,15,16] f246t4)) (.seq (.ops f246r5) (.ops f246r6))))))))
def f246_ent:Ent:=.code 17 f246 []
theorem f246_ok (oq:Nat→Value) (F:Nat→Prop) (h0:Heap):EntOK Tryz.prog oq F h0 246 f246_ent:=⟨soundD_of (fl:=false) mixed Tryz.func246 rfl (by kernel_rfl) (by kernel_rfl) (by kernel_rfl),soundF_of (fl:=false) mixed Tryz.func246 rfl (by kernel_rfl) (by kernel_rfl) (by kernel_rfl)⟩
def f250r0:List SOper:=[
 o 1 (.box (t 0)),
 o 2 (.new [(.int .i64 0),(.string ⟨#[]⟩),(.string ⟨#[]⟩),(.int .i64 0),(.slice none 0 0),(.slice none 0 0)]),
 o 3 (.new [(.slice none 0 0)]),
 o 4 (.new [(.int .i64 0)])]
def f250r1:List SOper:=[
 o 6 (.ldn 6 (t 1)),
 o 7 (.call 249 [(t 6)]),
 o 8 (.cmp .neq (t 7) (i 0))]
def f250r2:List SOper:=[
 o 9 (.build [(.int .i64 0),(.string ⟨#[]⟩),(.string ⟨#[]⟩),(.int .i64 0),(.slice none 0 0),(.slice none 0 0)] [] []),
 q (.st 6 (t 2) (t 9)),
 q (.st 1 (t 3) (.const (.slice none 0 0))),
 q (.st 1 (t 4) (i 2))]
def f250r3:List SOper:=[
 o 10 (.fn 346 [] [(t 2),(t 3),(t 4)])]
def f250r4:List SOper:=[
 o 11 (.build [(.string ⟨#[]⟩),(.int .i64 0),(.int .i64 0)] [] []),
 o 12 (.bslice [(.string ⟨#[]⟩),(.int .i64 0),(.int .i64 0)] 1 [(0,3)] [(t 11)]),
 o 13 (.build [(.slice none 0 0),(.slice none 0 0),(.int .i64 0),(.int .i64 0),(.slice none 0 0)] [(4,1)] [(t 12)]),
 o 14 (.box (t 13)),
 o 5 (.mv (t 14))]
def f250r5:List SOper:=[
 o 15 (.mv (t 5)),
 o 16 (.ldn 6 (t 1)),
 o 17 (.call 347 [(t 15),(t 16)]),
 q (.st 6 (t 2) (t 17))]
def f250t6:OTree:=(.one (o 18 (.ldn 6 (t 2)))
 (.one (o 19 (.mv (t 5)))
 (.one (o 20 (.nilck (t 19)))
 (.one (o 21 (.fa 4 (t 20)))
 (.one (o 22 (.ld1 (t 21)))
 (.one (q (.st 6 (t 2) (t 18)))
 (.chk [o 22 (.ld1 (t 21))] (.one (q (.st 1 (t 3) (t 22)))
 (.one (q (.st 1 (t 4) (i 0)))
 .done)))))))))
def f250:SCode:=(.seq (.ops f250r0) (.seq (.seq (.ops f250r1) (.cond (t 8) (.seq (.ops f250r2) .ret) .skip)) (.seq (.dfr f250r3 none (t 10) []) (.seq (.ops f250r4) (.seq (.ops f250r5) (.seq (.tree [18,19,20,21,22] f250t6) .ret))))))
def f250_ent:Ent:=.code 23 f250 [.cn 2 6,.c1 3,.c1 4]
theorem f250_ok (oq:Nat→Value) (F:Nat→Prop) (h0:Heap):EntOK Tryz.prog oq F h0 250 f250_ent:=⟨soundD_of (fl:=false) mixed Tryz.func250 rfl (by kernel_rfl) (by kernel_rfl) (by kernel_rfl),soundF_of (fl:=false) mixed Tryz.func250 rfl (by kernel_rfl) (by kernel_rfl) (by kernel_rfl)⟩
def f251r0:List SOper:=[
 o 7 (.eqn 4 false (t 5))]
def f251r1:List SOper:=[
 o 2 (.mv (t 5))]
def f251r2:List SOper:=[
 o 8 (.tas 350 (.agg #[(.int .i64 0)]) true (t 5)),
 o 9 (.ext (t 8) 1),
 o 10 (.ext (t 8) 0)]
def f251r3:List SOper:=[
 o 3 (.new [(.int .i64 0)]),
 q (.st 1 (t 3) (t 10))]
def f251t4:OTree:=(.one (o 11 (.build [(.slice none 0 0),(.slice none 0 0),(.slice none 0 0)] [] []))
 (.one (o 12 (.fa 0 (t 3)))
 (.one (o 13 (.ld1 (t 12)))
 (.one (q (.st 3 (t 0) (t 11)))
 (.chk [o 13 (.ld1 (t 12))] (.one (q (.st 1 (t 1) (t 13)))
 .done))))))
def f251r5:List SOper:=[
 o 4 (.mv (t 5))]
def f251r6:List SOper:=[
 o 6 (.mv (t 4)),
 q (.pan (t 6))]
def f251:SCode:=(.seq (.rcv (some 5)) (.block 0 (.seq (.ops f251r0) (.cond (t 7) (.ops f251r1) (.seq (.ops f251r2) (.cond (t 9) (.seq (.ops f251r3) (.tree [11,12,13] f251t4)) (.seq (.ops f251r5) (.ops f251r6))))))))
def f251_ent:Ent:=.code 14 f251 []
theorem f251_ok (oq:Nat→Value) (F:Nat→Prop) (h0:Heap):EntOK Tryz.prog oq F h0 251 f251_ent:=⟨soundD_of (fl:=false) mixed Tryz.func251 rfl (by kernel_rfl) (by kernel_rfl) (by kernel_rfl),soundF_of (fl:=false) mixed Tryz.func251 rfl (by kernel_rfl) (by kernel_rfl) (by kernel_rfl)⟩
def f257r0:List SOper:=[
 o 2 (.box (t 0)),
 o 3 (.box (t 1)),
 o 4 (.mv (b false))]
def f257r1:List SOper:=[
 o 6 (.fa 0 (t 3)),
 o 7 (.ld1 (t 6)),
 o 8 (.cmp .lss (t 7) (i 1)),
 o 9 (.mv (t 8)),
 n 10 9 (.fa 0 (t 3)),
 n 11 9 (.ld1 (t 10)),
 n 12 9 (.cmp .gtr (t 11) (i 35)),
 o 13 (.pick (t 9) (b true) (t 12))]
def f257r2:List SOper:=[
 o 4 (.mv (b false))]
def f257t3:OTree:=(.one (o 15 (.fa 0 (t 3)))
 (.one (o 16 (.ld1 (t 15)))
 (.both (.one (o 14 (.call 352 []))
 (.chk [o 16 (.ld1 (t 15))] (.one (o 17 (.ixw 36 3 (t 14) (t 16)))
 (.chk [o 16 (.ld1 (t 15))] (.one (o 5 (.new [(.int .i64 0),(.int .i64 0),(.int .i64 0)]))
 (.chk [o 16 (.ld1 (t 15))] (.one (q (.st 3 (t 5) (t 17)))
 .done))))))) (.one (o 5 (.new [(.int .i64 0),(.int .i64 0),(.int .i64 0)]))
 (.chk [o 16 (.ld1 (t 15))] (.one (o 14 (.call 352 []))
 (.chk [o 16 (.ld1 (t 15))] (.one (o 17 (.ixw 36 3 (t 14) (t 16)))
 (.chk [o 16 (.ld1 (t 15))] (.one (q (.st 3 (t 5) (t 17)))
 .done))))))))))
def f257r4:List SOper:=[
 o 18 (.ldn 6 (t 2)),
 o 19 (.fa 0 (t 5)),
 o 20 (.ld1 (t 19)),
 o 21 (.fa 1 (t 3)),
 o 22 (.ld1 (t 21)),
 o 23 (.call 353 [(t 18),(t 20),(t 22)]),
 o 24 (.un .not (t 23)),
 o 25 (.mv (t 24)),
 n 26 25 (.ldn 6 (t 2)),
 n 27 25 (.fa 1 (t 5)),
 n 28 25 (.ld1 (t 27)),
 n 29 25 (.fa 2 (t 3)),
 n 30 25 (.ld1 (t 29)),
 n 31 25 (.call 353 [(t 26),(t 28),(t 30)]),
 n 32 25 (.un .not (t 31)),
 o 33 (.pick (t 25) (b true) (t 32)),
 o 34 (.mv (t 33)),
 n 35 34 (.ldn 6 (t 2)),
 n 36 34 (.fa 2 (t 5)),
 n 37 34 (.ld1 (t 36)),
 n 38 34 (.fa 3 (t 3)),
 n 39 34 (.ld1 (t 38)),
 n 40 34 (.call 353 [(t 35),(t 37),(t 39)]),
 n 41 34 (.un .not (t 40)),
 o 42 (.pick (t 34) (b true) (t 41))]
def f257r5:List SOper:=[
 o 4 (.mv (b false))]
def f257r6:List SOper:=[
 o 43 (.fa 0 (t 3)),
 o 44 (.ld1 (t 43))]
def f257r7:List SOper:=[
 o 46 (.cmp .eql (t 44) (i 1)),
 o 45 (.mv (t 46))]
def f257r8:List SOper:=[
 o 47 (.fa 2 (t 3)),
 o 48 (.ld1 (t 47)),
 o 49 (.fa 1 (t 3)),
 o 50 (.ld1 (t 49)),
 o 51 (.cmp .geq (t 48) (t 50)),
 o 4 (.mv (t 51))]
def f257r9:List SOper:=[
 o 53 (.cmp .eql (t 44) (i 30)),
 o 52 (.mv (t 53))]
def f257r10:List SOper:=[
 o 54 (.cmp .eql (t 44) (i 31)),
 o 52 (.mv (t 54))]
def f257r11:List SOper:=[
 o 55 (.fa 1 (t 3)),
 o 56 (.ld1 (t 55)),
 o 57 (.ar .add (t 56) (i 2)),
 o 58 (.fa 3 (t 2)),
 o 59 (.fa 1 (t 58)),
 o 60 (.ld1 (t 59)),
 o 61 (.cmp .lss (t 57) (t 60)),
 o 4 (.mv (t 61))]
def f257r12:List SOper:=[
 o 63 (.cmp .eql (t 44) (i 32)),
 o 62 (.mv (t 63))]
def f257r13:List SOper:=[
 o 64 (.fa 1 (t 3)),
 o 65 (.ld1 (t 64)),
 o 66 (.fa 0 (t 2)),
 o 67 (.fa 0 (t 66)),
 o 68 (.ld1 (t 67)),
 o 69 (.fa 2 (t 3)),
 o 70 (.ld1 (t 69)),
 o 71 (.ixs 3 (t 68) (t 70)),
 o 72 (.fa 0 (t 71)),
 o 73 (.ld1 (t 72)),
 o 74 (.ar .add (t 65) (t 73)),
 o 75 (.fa 3 (t 2)),
 o 76 (.fa 1 (t 75)),
 o 77 (.ld1 (t 76)),
 o 78 (.cmp .leq (t 74) (t 77)),
 o 4 (.mv (t 78))]
def f257r14:List SOper:=[
 o 80 (.cmp .eql (t 44) (i 33)),
 o 79 (.mv (t 80))]
def f257r15:List SOper:=[
 o 81 (.fa 1 (t 3)),
 o 82 (.ld1 (t 81)),
 o 83 (.fa 3 (t 3)),
 o 84 (.ld1 (t 83)),
 o 85 (.ar .add (t 82) (t 84)),
 o 86 (.fa 3 (t 2)),
 o 87 (.fa 1 (t 86)),
 o 88 (.ld1 (t 87)),
 o 89 (.cmp .leq (t 85) (t 88)),
 o 4 (.mv (t 89))]
def f257r16:List SOper:=[
 o 4 (.mv (b true))]
def f257:SCode:=(.seq (.ops f257r0) (.seq (.seq (.ops f257r1) (.cond (t 13) (.seq (.ops f257r2) .ret) .skip)) (.seq (.tree [14,15,16,17,5] f257t3) (.seq (.seq (.ops f257r4) (.cond (t 42) (.seq (.ops f257r5) .ret) .skip)) (.seq (.seq (.ops f257r6) (.block 0 (.seq (.ops f257r7) (.cond (t 45) (.seq (.ops f257r8) .ret) (.seq (.seq (.ops f257r9) (.cond (t 52) .skip (.ops f257r10))) (.cond (t 52) (.seq (.ops f257r11) .ret) (.seq (.ops f257r12) (.cond (t 62) (.seq (.ops f257r13) .ret) (.seq (.ops f257r14) (.cond (t 79) (.seq (.ops f257r15) .ret) .skip)))))))))) (.seq (.ops f257r16) .ret))))))
def f257_ent:Ent:=.code 90 f257 [.t 4]
theorem f257_ok (oq:Nat→Value) (F:Nat→Prop) (h0:Heap):EntOK Tryz.prog oq F h0 257 f257_ent:=⟨soundD_of (fl:=false) mixed Tryz.func257 rfl (by kernel_rfl) (by kernel_rfl) (by kernel_rfl),soundF_of (fl:=false) mixed Tryz.func257 rfl (by kernel_rfl) (by kernel_rfl) (by kernel_rfl)⟩
def f261r0:List SOper:=[
 o 4 (.new [(.int .i64 0),(.int .i64 0),(.string ⟨#[]⟩)])]
def f261r1:List SOper:=[
 o 10 (.mv (t 0)),
 o 11 (.nilck (t 10)),
 o 12 (.fa 3 (t 11)),
 o 13 (.ld1 (t 12)),
 o 14 (.call 354 [(t 13)]),
 o 9 (.mv (t 14)),
 o 15 (.ext (t 9) 0),
 o 16 (.ext (t 9) 1),
 o 5 (.new [(.int .i64 0),(.int .i64 0),(.string ⟨#[]⟩)]),
 q (.st 3 (t 5) (t 15)),
 o 6 (.mv (t 16))]
def f261r2:List SOper:=[
 o 17 (.mv (t 6)),
 o 18 (.call 266 [(t 17)])]
def f261r3:List SOper:=[
 o 19 (.mv (t 1)),
 o 20 (.len (t 19)),
 o 21 (.mv (i 0))]
def f261r4:List SOper:=[
 o 22 (.cmp .lss (t 21) (t 20))]
def f261r5:List SOper:=[
 o 23 (.mv (t 21)),
 o 24 (.ixs 1 (t 19) (t 21)),
 o 25 (.ld1 (t 24)),
 o 7 (.mv (t 23)),
 o 8 (.mv (t 25))]
def f261t6:OTree:=(.one (o 26 (.mv (t 0)))
 (.one (o 27 (.nilck (t 26)))
 (.one (o 28 (.fa 3 (t 27)))
 (.one (o 31 (.mv (t 7)))
 (.one (o 32 (.ar .add (t 31) (i 1)))
 (.one (o 34 (.mv (t 8)))
 (.one (o 29 (.ld1 (t 28)))
 (.one (o 30 (.ldn 3 (t 5)))
 (.one (o 33 (.call 356 [(t 32)]))
 (.chk [o 30 (.ldn 3 (t 5)),o 29 (.ld1 (t 28))] (.one (o 35 (.call 357 [(t 34)]))
 (.chk [o 30 (.ldn 3 (t 5)),o 29 (.ld1 (t 28))] (.one (o 36 (.call 355 [(t 29),(t 30),(t 33),(t 35)]))
 (.one (o 37 (.call 266 [(t 36)]))
 .done))))))))))))))
def f261r7:List SOper:=[
 o 38 (.ar .add (t 21) (i 1)),
 o 21 (.mv (t 38))]
def f261l8:SCode:=(.seq (.ops f261r4) (.seq (.cond (t 22) .skip (.exit 0)) (.seq (.block 1 (.seq (.ops f261r5) (.tree [26,27,28,29,30,31,32,33,34,35,36,37] f261t6))) (.ops f261r7))))
def f261r9:List SOper:=[
 o 39 (.ldn 3 (t 5)),
 q (.st 3 (t 4) (t 39))]
def f261:SCode:=(.seq (.ops f261r0) (.seq (.ops f261r1) (.seq (.ops f261r2) (.seq (.seq (.ops f261r3) (.block 0 (.loop f261l8))) (.seq (.ops f261r9) .ret)))))
def f261_ent:Ent:=.code 40 f261 [.cn 4 3]
theorem f261_ok (oq:Nat→Value) (F:Nat→Prop) (h0:Heap):EntOK Tryz.prog oq F h0 261 f261_ent:=⟨soundD_of (fl:=false) mixed Tryz.func261 rfl (by kernel_rfl) (by kernel_rfl) (by kernel_rfl),soundF_of (fl:=false) mixed Tryz.func261 rfl (by kernel_rfl) (by kernel_rfl) (by kernel_rfl)⟩
def f263r0:List SOper:=[
 o 10 (.mv (t 0)),
 o 11 (.nilck (t 10)),
 o 12 (.fa 14 (t 11)),
 o 13 (.ld1 (t 12)),
 o 14 (.len (t 13)),
 o 15 (.mv (t 0)),
 o 16 (.nilck (t 15)),
 o 17 (.fa 7 (t 16)),
 o 18 (.ld1 (t 17)),
 o 19 (.cmp .geq (t 14) (t 18))]
def f263r1:List SOper:=[
 o 20 (.build [(.string ⟨#[]⟩)] [(0,1)] [(.const (.string ⟨#[69,82,82,32,100,101,112,116,104]⟩))]),
 o 21 (.mki 380 (t 20)),
 q (.pan (t 21))]
def f263r2:List SOper:=[
 o 22 (.mv (t 0)),
 o 23 (.nilck (t 22)),
 o 24 (.fa 0 (t 23)),
 o 25 (.fa 0 (t 24)),
 o 26 (.ld1 (t 25)),
 o 27 (.mv (t 1)),
 o 28 (.ixs 3 (t 26) (t 27)),
 o 29 (.ldn 3 (t 28)),
 o 8 (.new [(.int .i64 0),(.int .i64 0),(.slice none 0 0)]),
 q (.st 3 (t 8) (t 29))]
def f263t3:OTree:=(.one (o 30 (.ldn 3 (t 8)))
 (.one (o 31 (.fa 1 (t 8)))
 (.one (o 32 (.ld1 (t 31)))
 (.one (o 34 (.mv (t 2)))
 (.both (.one (o 33 (.mks 32 [(.int .i64 0),(.int .i64 0),(.string ⟨#[]⟩)] (t 32) (t 32)))
 (.one (o 35 (.build [(.int .i64 0),(.int .i64 0),(.slice none 0 0),(.slice none 0 0),(.int .i64 0),(.int .i64 0)] [(0,3),(3,1),(5,1)] [(t 30),(t 33),(t 34)]))
 (.one (o 9 (.new [(.int .i64 0),(.int .i64 0),(.slice none 0 0),(.slice none 0 0),(.int .i64 0),(.int .i64 0)]))
 (.one (q (.st 6 (t 9) (t 35)))
 .done)))) (.one (o 9 (.new [(.int .i64 0),(.int .i64 0),(.slice none 0 0),(.slice none 0 0),(.int .i64 0),(.int .i64 0)]))
 (.one (o 33 (.mks 32 [(.int .i64 0),(.int .i64 0),(.string ⟨#[]⟩)] (t 32) (t 32)))
 (.one (o 35 (.build [(.int .i64 0),(.int .i64 0),(.slice none 0 0),(.slice none 0 0),(.int .i64 0),(.int .i64 0)] [(0,3),(3,1),(5,1)] [(t 30),(t 33),(t 34)]))
 (.one (q (.st 6 (t 9) (t 35)))
 .done)))))))))
def f263r4:List SOper:=[
 o 36 (.fa 3 (t 9)),
 o 37 (.ld1 (t 36)),
 o 38 (.mv (t 3)),
 o 39 (.cpy 3 (t 37) (t 38))]
def f263r5:List SOper:=[
 o 40 (.mv (t 0)),
 o 41 (.mv (t 0)),
 o 42 (.nilck (t 41)),
 o 43 (.fa 14 (t 42)),
 o 44 (.ld1 (t 43)),
 o 45 (.ldn 6 (t 9)),
 o 46 (.bslice [(.int .i64 0),(.int .i64 0),(.slice none 0 0),(.slice none 0 0),(.int .i64 0),(.int .i64 0)] 1 [(0,6)] [(t 45)]),
 o 47 (.app 6 80 [(.int .i64 0),(.int .i64 0),(.slice none 0 0),(.slice none 0 0),(.int .i64 0),(.int .i64 0)] (t 44) (t 46)),
 o 48 (.nilck (t 40)),
 o 49 (.fa 14 (t 48)),
 q (.st 1 (t 49) (t 47))]
def f263:SCode:=(.seq (.seq (.ops f263r0) (.cond (t 19) (.ops f263r1) .skip)) (.seq (.ops f263r2) (.seq (.tree [30,31,32,33,34,35,9] f263t3) (.seq (.ops f263r4) (.ops f263r5)))))
def f263_ent:Ent:=.code 50 f263 []
theorem f263_ok (oq:Nat→Value) (F:Nat→Prop) (h0:Heap):EntOK Tryz.prog oq F h0 263 f263_ent:=⟨soundD_of (fl:=false) mixed Tryz.func263 rfl (by kernel_rfl) (by kernel_rfl) (by kernel_rfl),soundF_of (fl:=false) mixed Tryz.func263 rfl (by kernel_rfl) (by kernel_rfl) (by kernel_rfl)⟩
def f267r0:List SOper:=[
 o 2 (.new [(.int .i64 0),(.int .i64 0),(.string ⟨#[]⟩),(.slice none 0 0)])]
def f267r1:List SOper:=[
 o 11 (.mv (t 0)),
 o 12 (.call 274 [(t 11),(i 2),(i 4)])]
def f267r2:List SOper:=[
 o 13 (.mv (t 0)),
 o 14 (.nilck (t 13)),
 o 15 (.fa 2 (t 14)),
 o 16 (.ld1 (t 15)),
 o 17 (.ixs 1 (t 16) (i 0)),
 o 18 (.ld1 (t 17)),
 o 19 (.mv (t 0)),
 o 20 (.nilck (t 19)),
 o 21 (.fa 2 (t 20)),
 o 22 (.ld1 (t 21)),
 o 23 (.ixs 1 (t 22) (i 1)),
 o 24 (.ld1 (t 23)),
 o 3 (.mv (t 18)),
 o 4 (.mv (t 24))]
def f267r3:List SOper:=[
 o 25 (.mv (t 0)),
 o 26 (.nilck (t 25)),
 o 27 (.fa 2 (t 26)),
 o 28 (.ld1 (t 27)),
 o 29 (.len (t 28)),
 o 30 (.cmp .eql (t 29) (i 4)),
 o 31 (.mv (t 30)),
 g 32 31 (.mv (t 0)),
 g 33 31 (.nilck (t 32)),
 g 34 31 (.fa 2 (t 33)),
 g 35 31 (.ld1 (t 34)),
 g 36 31 (.ixs 1 (t 35) (i 2)),
 g 37 31 (.ld1 (t 36)),
 g 38 31 (.call 200 [(t 37)]),
 g 39 31 (.cmp .eql (t 38) (.const (.string ⟨#[80,88]⟩))),
 o 40 (.pick (t 31) (t 39) (b false)),
 o 5 (.mv (t 40))]
def f267r4:List SOper:=[
 o 41 (.mv (t 0)),
 o 42 (.nilck (t 41)),
 o 43 (.fa 2 (t 42)),
 o 44 (.ld1 (t 43)),
 o 45 (.len (t 44)),
 o 46 (.cmp .eql (t 45) (i 3)),
 o 47 (.mv (t 46)),
 g 48 47 (.mv (t 0)),
 g 49 47 (.nilck (t 48)),
 g 50 47 (.fa 2 (t 49)),
 g 51 47 (.ld1 (t 50)),
 g 52 47 (.ixs 1 (t 51) (i 2)),
 g 53 47 (.ld1 (t 52)),
 g 54 47 (.call 200 [(t 53)]),
 g 55 47 (.cmp .eql (t 54) (.const (.string ⟨#[78,88]⟩))),
 o 56 (.pick (t 47) (t 55) (b false)),
 o 6 (.mv (t 56))]
def f267r5:List SOper:=[
 o 57 (.mv (t 0)),
 o 58 (.nilck (t 57)),
 o 59 (.fa 2 (t 58)),
 o 60 (.ld1 (t 59)),
 o 61 (.len (t 60)),
 o 62 (.cmp .eql (t 61) (i 2)),
 o 63 (.mv (t 62)),
 n 64 63 (.mv (t 5)),
 o 65 (.pick (t 63) (b true) (t 64)),
 o 66 (.mv (t 65)),
 n 67 66 (.mv (t 6)),
 o 68 (.pick (t 66) (b true) (t 67)),
 o 69 (.call 376 [(t 68),(.const (.string ⟨#[69,82,82,32,97,114,103,115]⟩))])]
def f267r6:List SOper:=[
 o 70 (.mv (t 5))]
def f267r7:List SOper:=[
 o 71 (.mv (t 0)),
 o 72 (.call 276 [(t 71),(i 3)]),
 o 7 (.mv (t 72))]
def f267r8:List SOper:=[
 o 73 (.mv (t 7)),
 o 74 (.cmp .geq (t 73) (i 1)),
 o 75 (.call 376 [(t 74),(.const (.string ⟨#[69,82,82,32,114,97,110,103,101]⟩))])]
def f267r9:List SOper:=[
 o 76 (.mv (t 0)),
 o 77 (.nilck (t 76)),
 o 78 (.fa 1 (t 77)),
 o 79 (.ld1 (t 78)),
 o 80 (.mv (t 7)),
 o 81 (.call 377 [(t 79),(t 80)]),
 o 8 (.mv (t 81))]
def f267r10:List SOper:=[
 o 82 (.mv (t 0)),
 o 83 (.mv (t 3)),
 o 84 (.mv (t 4)),
 o 85 (.call 378 [(t 82),(t 83),(t 84),(b false)])]
def f267r11:List SOper:=[
 o 86 (.mv (t 0)),
 o 87 (.mv (t 3)),
 o 88 (.mv (t 8)),
 o 89 (.build [(.int .i64 0),(.string ⟨#[]⟩),(.string ⟨#[]⟩),(.string ⟨#[]⟩),(.int .i64 0)] [(0,1),(1,1),(4,1)] [(i 3),(t 87),(t 88)]),
 o 90 (.bslice [(.int .i64 0),(.string ⟨#[]⟩),(.string ⟨#[]⟩),(.string ⟨#[]⟩),(.int .i64 0)] 1 [(0,5)] [(t 89)]),
 o 91 (.call 379 [(t 86),(t 90)])]
def f267r12:List SOper:=[
 o 92 (.call 380 []),
 q (.st 4 (t 2) (t 92))]
def f267t13:OTree:=(.one (o 94 (.mv (t 0)))
 (.one (o 95 (.nilck (t 94)))
 (.one (o 96 (.fa 0 (t 95)))
 (.one (o 97 (.ld1 (t 96)))
 (.one (o 98 (.mv (t 3)))
 (.one (o 99 (.mv (t 0)))
 (.one (o 100 (.nilck (t 99)))
 (.one (o 101 (.fa 1 (t 100)))
 (.one (o 102 (.ld1 (t 101)))
 (.both (.one (o 103 (.call 381 [(t 97),(t 98),(t 102)]))
 (.one (o 93 (.mv (t 103)))
 (.one (o 104 (.ext (t 93) 0))
 (.one (o 105 (.ext (t 93) 1))
 (.one (o 9 (.new [(.int .i64 0),(.string ⟨#[]⟩),(.slice none 0 0),(.slice none 0 0),(.slice none 0 0),(.bool false),(.int .i64 0)]))
 (.one (q (.st 7 (t 9) (t 104)))
 (.one (o 10 (.mv (t 105)))
 .done))))))) (.one (o 9 (.new [(.int .i64 0),(.string ⟨#[]⟩),(.slice none 0 0),(.slice none 0 0),(.slice none 0 0),(.bool false),(.int .i64 0)]))
 (.one (o 103 (.call 381 [(t 97),(t 98),(t 102)]))
 (.one (o 93 (.mv (t 103)))
 (.one (o 104 (.ext (t 93) 0))
 (.one (o 105 (.ext (t 93) 1))
 (.one (q (.st 7 (t 9) (t 104)))
 (.one (o 10 (.mv (t 105)))
 .done)))))))))))))))))
def f267r14:List SOper:=[
 o 106 (.mv (t 6)),
 o 107 (.mv (t 106)),
 g 108 107 (.mv (t 10)),
 o 109 (.pick (t 107) (t 108) (b false))]
def f267r15:List SOper:=[
 o 110 (.build [(.int .i64 0),(.int .i64 0),(.string ⟨#[]⟩),(.slice none 0 0)] [] []),
 q (.st 4 (t 2) (t 110))]
def f267r16:List SOper:=[
 o 111 (.mv (t 0)),
 o 112 (.mv (t 3)),
 o 113 (.mv (t 4)),
 o 114 (.call 378 [(t 111),(t 112),(t 113),(b false)])]
def f267r17:List SOper:=[
 o 115 (.call 380 []),
 q (.st 4 (t 2) (t 115))]
def f267:SCode:=(.seq (.ops f267r0) (.seq (.ops f267r1) (.seq (.ops f267r2) (.seq (.ops f267r3) (.seq (.ops f267r4) (.seq (.ops f267r5) (.seq (.seq (.ops f267r6) (.cond (t 70) (.seq (.ops f267r7) (.seq (.ops f267r8) (.seq (.ops f267r9) (.seq (.ops f267r10) (.seq (.ops f267r11) (.seq (.ops f267r12) .ret)))))) .skip)) (.seq (.seq (.tree [94,95,96,97,98,99,100,101,102,103,93,104,105,9,10] f267t13) (.seq (.ops f267r14) (.cond (t 109) (.seq (.ops f267r15) .ret) .skip))) (.seq (.ops f267r16) (.seq (.ops f267r17) .ret))))))))))
def f267_ent:Ent:=.code 116 f267 [.cn 2 4]
theorem f267_ok (oq:Nat→Value) (F:Nat→Prop) (h0:Heap):EntOK Tryz.prog oq F h0 267 f267_ent:=⟨soundD_of (fl:=false) mixed Tryz.func267 rfl (by kernel_rfl) (by kernel_rfl) (by kernel_rfl),soundF_of (fl:=false) mixed Tryz.func267 rfl (by kernel_rfl) (by kernel_rfl) (by kernel_rfl)⟩
def f341r0:List SOper:=[
 o 2 (.new [(.int .i64 0),(.string ⟨#[]⟩),(.string ⟨#[]⟩),(.int .i64 0),(.slice none 0 0),(.slice none 0 0)])]
def f341r1:List SOper:=[
 o 8 (.mv (t 0)),
 o 9 (.call 342 [(t 8),(.const (.string ⟨#[108,111,99,97,108]⟩))]),
 o 7 (.mv (t 9))]
def f341r2:List SOper:=[
 o 10 (.mv (t 0)),
 o 11 (.call 438 [(t 10)]),
 q (.st 6 (t 2) (t 11))]
def f341r3:List SOper:=[
 o 13 (.mv (t 0)),
 o 14 (.call 342 [(t 13),(.const (.string ⟨#[100,111]⟩))]),
 o 12 (.mv (t 14))]
def f341r4:List SOper:=[
 o 15 (.mv (t 0)),
 o 16 (.call 439 [(t 15)]),
 o 17 (.bslice [(.int .i64 0),(.string ⟨#[]⟩),(.string ⟨#[]⟩),(.int .i64 0),(.slice none 0 0),(.slice none 0 0)] 1 [(0,6)] [(t 16)]),
 o 18 (.build [(.int .i64 0),(.string ⟨#[]⟩),(.string ⟨#[]⟩),(.int .i64 0),(.slice none 0 0),(.slice none 0 0)] [(0,1),(5,1)] [(i 3),(t 17)]),
 q (.st 6 (t 2) (t 18))]
def f341r5:List SOper:=[
 o 20 (.mv (t 0)),
 o 21 (.call 342 [(t 20),(.const (.string ⟨#[105,102]⟩))]),
 o 19 (.mv (t 21))]
def f341r6:List SOper:=[
 o 22 (.mv (t 0)),
 o 23 (.call 440 [(t 22)]),
 q (.st 6 (t 2) (t 23))]
def f341r7:List SOper:=[
 o 25 (.mv (t 0)),
 o 26 (.call 342 [(t 25),(.const (.string ⟨#[119,104,105,108,101]⟩))]),
 o 24 (.mv (t 26))]
def f341r8:List SOper:=[
 o 27 (.mv (t 0)),
 o 28 (.call 441 [(t 27),(i 0)]),
 o 29 (.bslice [(.int .i64 0),(.string ⟨#[]⟩),(.string ⟨#[]⟩),(.int .i64 0),(.slice none 0 0),(.slice none 0 0)] 1 [(0,6)] [(t 28)]),
 o 30 (.build [(.int .i64 0),(.string ⟨#[]⟩),(.string ⟨#[]⟩),(.int .i64 0),(.slice none 0 0),(.slice none 0 0)] [(0,1),(5,1)] [(i 5),(t 29)]),
 o 3 (.new [(.int .i64 0),(.string ⟨#[]⟩),(.string ⟨#[]⟩),(.int .i64 0),(.slice none 0 0),(.slice none 0 0)]),
 q (.st 6 (t 3) (t 30))]
def f341r9:List SOper:=[
 o 31 (.mv (t 0)),
 o 32 (.call 442 [(t 31),(.const (.string ⟨#[100,111]⟩))])]
def f341t10:OTree:=(.one (o 33 (.fa 5 (t 3)))
 (.one (o 35 (.mv (t 0)))
 (.one (o 34 (.ld1 (t 33)))
 (.one (o 36 (.call 439 [(t 35)]))
 (.chk [o 34 (.ld1 (t 33))] (.one (o 37 (.bslice [(.int .i64 0),(.string ⟨#[]⟩),(.string ⟨#[]⟩),(.int .i64 0),(.slice none 0 0),(.slice none 0 0)] 1 [(0,6)] [(t 36)]))
 (.chk [o 34 (.ld1 (t 33))] (.one (o 38 (.app 6 96 [(.int .i64 0),(.string ⟨#[]⟩),(.string ⟨#[]⟩),(.int .i64 0),(.slice none 0 0),(.slice none 0 0)] (t 34) (t 37)))
 (.one (o 39 (.fa 5 (t 3)))
 (.one (q (.st 1 (t 39) (t 38)))
 .done))))))))))
def f341r11:List SOper:=[
 o 40 (.ldn 6 (t 3)),
 q (.st 6 (t 2) (t 40))]
def f341r12:List SOper:=[
 o 42 (.mv (t 0)),
 o 43 (.call 342 [(t 42),(.const (.string ⟨#[102,111,114]⟩))]),
 o 41 (.mv (t 43))]
def f341r13:List SOper:=[
 o 44 (.mv (t 0)),
 o 45 (.call 443 [(t 44)]),
 q (.st 6 (t 2) (t 45))]
def f341r14:List SOper:=[
 o 47 (.mv (t 0)),
 o 48 (.call 342 [(t 47),(.const (.string ⟨#[98,114,101,97,107]⟩))]),
 o 46 (.mv (t 48))]
def f341r15:List SOper:=[
 o 49 (.build [(.int .i64 0),(.string ⟨#[]⟩),(.string ⟨#[]⟩),(.int .i64 0),(.slice none 0 0),(.slice none 0 0)] [(0,1)] [(i 8)]),
 q (.st 6 (t 2) (t 49))]
def f341r16:List SOper:=[
 o 51 (.mv (t 0)),
 o 52 (.call 342 [(t 51),(.const (.string ⟨#[114,101,116,117,114,110]⟩))]),
 o 50 (.mv (t 52))]
def f341r17:List SOper:=[
 o 53 (.build [(.int .i64 0),(.string ⟨#[]⟩),(.string ⟨#[]⟩),(.int .i64 0),(.slice none 0 0),(.slice none 0 0)] [(0,1)] [(i 7)]),
 o 4 (.new [(.int .i64 0),(.string ⟨#[]⟩),(.string ⟨#[]⟩),(.int .i64 0),(.slice none 0 0),(.slice none 0 0)]),
 q (.st 6 (t 4) (t 53))]
def f341r18:List SOper:=[
 o 54 (.mv (t 0)),
 o 55 (.nilck (t 54)),
 o 56 (.fa 1 (t 55)),
 o 57 (.ld1 (t 56)),
 o 58 (.mv (t 0)),
 o 59 (.nilck (t 58)),
 o 60 (.fa 0 (t 59)),
 o 61 (.ld1 (t 60)),
 o 62 (.len (t 61)),
 o 63 (.cmp .lss (t 57) (t 62)),
 o 64 (.mv (t 63)),
 g 65 64 (.mv (t 0)),
 g 66 64 (.call 340 [(t 65),(.const (.string ⟨#[59]⟩))]),
 g 67 64 (.un .not (t 66)),
 o 68 (.pick (t 64) (t 67) (b false)),
 o 69 (.mv (t 68)),
 g 70 69 (.mv (t 0)),
 g 71 69 (.call 340 [(t 70),(.const (.string ⟨#[101,110,100]⟩))]),
 g 72 69 (.un .not (t 71)),
 o 73 (.pick (t 69) (t 72) (b false)),
 o 74 (.mv (t 73)),
 g 75 74 (.mv (t 0)),
 g 76 74 (.call 340 [(t 75),(.const (.string ⟨#[101,108,115,101]⟩))]),
 g 77 74 (.un .not (t 76)),
 o 78 (.pick (t 74) (t 77) (b false)),
 o 79 (.mv (t 78)),
 g 80 79 (.mv (t 0)),
 g 81 79 (.call 340 [(t 80),(.const (.string ⟨#[101,108,115,101,105,102]⟩))]),
 g 82 79 (.un .not (t 81)),
 o 83 (.pick (t 79) (t 82) (b false))]
def f341r19:List SOper:=[
 o 84 (.mv (t 0)),
 o 85 (.call 441 [(t 84),(i 0)]),
 o 86 (.bslice [(.int .i64 0),(.string ⟨#[]⟩),(.string ⟨#[]⟩),(.int .i64 0),(.slice none 0 0),(.slice none 0 0)] 1 [(0,6)] [(t 85)]),
 o 87 (.fa 5 (t 4)),
 q (.st 1 (t 87) (t 86))]
def f341r20:List SOper:=[
 o 88 (.ldn 6 (t 4)),
 q (.st 6 (t 2) (t 88))]
def f341r21:List SOper:=[
 o 89 (.mv (t 0)),
 o 90 (.call 343 [(t 89)]),
 o 5 (.mv (t 90))]
def f341r22:List SOper:=[
 o 91 (.mv (t 0)),
 o 92 (.call 444 [(t 91)]),
 o 6 (.new [(.int .i64 0),(.string ⟨#[]⟩),(.string ⟨#[]⟩),(.int .i64 0),(.slice none 0 0),(.slice none 0 0)]),
 q (.st 6 (t 6) (t 92))]
def f341r23:List SOper:=[
 o 93 (.fa 0 (t 6)),
 o 94 (.ld1 (t 93)),
 o 95 (.cmp .eql (t 94) (i 17)),
 o 96 (.mv (t 95)),
 g 97 96 (.mv (t 0)),
 g 98 96 (.call 340 [(t 97),(.const (.string ⟨#[61]⟩))]),
 g 99 96 (.un .not (t 98)),
 o 100 (.pick (t 96) (t 99) (b false))]
def f341r24:List SOper:=[
 o 101 (.ldn 6 (t 6)),
 q (.st 6 (t 2) (t 101))]
def f341r25:List SOper:=[
 o 102 (.fa 0 (t 6)),
 o 103 (.ld1 (t 102)),
 o 104 (.cmp .neq (t 103) (i 15)),
 o 105 (.mv (t 104)),
 g 106 105 (.fa 0 (t 6)),
 g 107 105 (.ld1 (t 106)),
 g 108 105 (.cmp .neq (t 107) (i 16)),
 o 109 (.pick (t 105) (t 108) (b false))]
def f341r26:List SOper:=[
 o 110 (.mv (t 5)),
 o 111 (.build [(.int .i64 0),(.int .i64 0)] [(0,1),(1,1)] [(t 110),(i 220)]),
 o 112 (.mki 340 (t 111)),
 q (.pan (t 112))]
def f341r27:List SOper:=[
 o 113 (.mv (t 0)),
 o 114 (.call 442 [(t 113),(.const (.string ⟨#[61]⟩))])]
def f341t28:OTree:=(.one (o 116 (.mv (t 0)))
 (.one (o 115 (.ldn 6 (t 6)))
 (.one (o 117 (.call 441 [(t 116),(i 0)]))
 (.chk [o 115 (.ldn 6 (t 6))] (.one (o 118 (.bslice [(.int .i64 0),(.string ⟨#[]⟩),(.string ⟨#[]⟩),(.int .i64 0),(.slice none 0 0),(.slice none 0 0),(.int .i64 0),(.string ⟨#[]⟩),(.string ⟨#[]⟩),(.int .i64 0),(.slice none 0 0),(.slice none 0 0)] 2 [(0,6),(6,6)] [(t 115),(t 117)]))
 (.one (o 119 (.build [(.int .i64 0),(.string ⟨#[]⟩),(.string ⟨#[]⟩),(.int .i64 0),(.slice none 0 0),(.slice none 0 0)] [(0,1),(5,1)] [(i 2),(t 118)]))
 (.one (q (.st 6 (t 2) (t 119)))
 .done)))))))
def f341:SCode:=(.seq (.ops f341r0) (.seq (.block 0 (.seq (.ops f341r1) (.cond (t 7) (.seq (.ops f341r2) .ret) (.seq (.ops f341r3) (.cond (t 12) (.seq (.ops f341r4) .ret) (.seq (.ops f341r5) (.cond (t 19) (.seq (.ops f341r6) .ret) (.seq (.ops f341r7) (.cond (t 24) (.seq (.ops f341r8) (.seq (.ops f341r9) (.seq (.tree [33,34,35,36,37,38,39] f341t10) (.seq (.ops f341r11) .ret)))) (.seq (.ops f341r12) (.cond (t 41) (.seq (.ops f341r13) .ret) (.seq (.ops f341r14) (.cond (t 46) (.seq (.ops f341r15) .ret) (.seq (.ops f341r16) (.cond (t 50) (.seq (.ops f341r17) (.seq (.seq (.ops f341r18) (.cond (t 83) (.ops f341r19) .skip)) (.seq (.ops f341r20) .ret))) .skip))))))))))))))) (.seq (.ops f341r21) (.seq (.ops f341r22) (.seq (.seq (.ops f341r23) (.cond (t 100) (.seq (.ops f341r24) .ret) .skip)) (.seq (.seq (.ops f341r25) (.cond (t 109) (.ops f341r26) .skip)) (.seq (.ops f341r27) (.seq (.tree [115,116,117,118,119] f341t28) .ret))))))))
def f341_ent:Ent:=.code 120 f341 [.cn 2 6]
theorem f341_ok (oq:Nat→Value) (F:Nat→Prop) (h0:Heap):EntOK Tryz.prog oq F h0 341 f341_ent:=⟨soundD_of (fl:=false) mixed Tryz.func341 rfl (by kernel_rfl) (by kernel_rfl) (by kernel_rfl),soundF_of (fl:=false) mixed Tryz.func341 rfl (by kernel_rfl) (by kernel_rfl) (by kernel_rfl)⟩
def f345r0:List SOper:=[
 o 1 (.box (t 0)),
 o 2 (.mv (b false))]
def f345r1:List SOper:=[
 o 5 (.fa 5 (t 1)),
 o 6 (.ld1 (t 5)),
 o 7 (.call 445 [(t 6),(u 447)])]
def f345r2:List SOper:=[
 o 2 (.mv (b false))]
def f345r3:List SOper:=[
 o 8 (.fa 0 (t 1)),
 o 9 (.ld1 (t 8)),
 o 10 (.cmp .eql (t 9) (i 0))]
def f345r4:List SOper:=[
 o 11 (.fa 1 (t 1)),
 o 12 (.ld1 (t 11)),
 o 13 (.cmp .eql (t 12) e),
 o 14 (.mv (t 13)),
 g 15 14 (.fa 2 (t 1)),
 g 16 14 (.ld1 (t 15)),
 g 17 14 (.cmp .eql (t 16) e),
 o 18 (.pick (t 14) (t 17) (b false)),
 o 19 (.mv (t 18)),
 g 20 19 (.fa 3 (t 1)),
 g 21 19 (.ld1 (t 20)),
 g 22 19 (.cmp .eql (t 21) (i 0)),
 o 23 (.pick (t 19) (t 22) (b false)),
 o 24 (.mv (t 23)),
 g 25 24 (.fa 4 (t 1)),
 g 26 24 (.ld1 (t 25)),
 g 27 24 (.len (t 26)),
 g 28 24 (.cmp .eql (t 27) (i 0)),
 o 29 (.pick (t 24) (t 28) (b false)),
 o 30 (.mv (t 29)),
 g 31 30 (.fa 5 (t 1)),
 g 32 30 (.ld1 (t 31)),
 g 33 30 (.call 448 [(t 32)]),
 o 34 (.pick (t 30) (t 33) (b false)),
 o 2 (.mv (t 34))]
def f345t5:OTree:=(.one (o 37 (.fa 0 (t 1)))
 (.one (o 38 (.ld1 (t 37)))
 (.both (.one (o 36 (.call 449 []))
 (.chk [o 38 (.ld1 (t 37))] (.one (o 39 (.look (.int .i64) (.agg #[(.bool false),(.bool false),(.bool false),(.bool false),(.int .i64 0),(.int .i64 0),(.bool false),.nilFunc]) true (t 36) (t 38)))
 (.chk [o 38 (.ld1 (t 37))] (.one (o 35 (.mv (t 39)))
 (.chk [o 38 (.ld1 (t 37))] (.one (o 40 (.ext (t 35) 0))
 (.chk [o 38 (.ld1 (t 37))] (.one (o 41 (.ext (t 35) 1))
 (.chk [o 38 (.ld1 (t 37))] (.one (o 3 (.new [(.bool false),(.bool false),(.bool false),(.bool false),(.int .i64 0),(.int .i64 0),(.bool false),.nilFunc]))
 (.chk [o 38 (.ld1 (t 37))] (.one (q (.st 8 (t 3) (t 40)))
 (.one (o 4 (.mv (t 41)))
 .done)))))))))))))) (.one (o 3 (.new [(.bool false),(.bool false),(.bool false),(.bool false),(.int .i64 0),(.int .i64 0),(.bool false),.nilFunc]))
 (.chk [o 38 (.ld1 (t 37))] (.one (o 36 (.call 449 []))
 (.chk [o 38 (.ld1 (t 37))] (.one (o 39 (.look (.int .i64) (.agg #[(.bool false),(.bool false),(.bool false),(.bool false),(.int .i64 0),(.int .i64 0),(.bool false),.nilFunc]) true (t 36) (t 38)))
 (.chk [o 38 (.ld1 (t 37))] (.one (o 35 (.mv (t 39)))
 (.chk [o 38 (.ld1 (t 37))] (.one (o 40 (.ext (t 35) 0))
 (.chk [o 38 (.ld1 (t 37))] (.one (o 41 (.ext (t 35) 1))
 (.chk [o 38 (.ld1 (t 37))] (.one (q (.st 8 (t 3) (t 40)))
 (.one (o 4 (.mv (t 41)))
 .done)))))))))))))))))
def f345r6:List SOper:=[
 o 43 (.mv (t 4)),
 o 44 (.un .not (t 43)),
 o 45 (.mv (t 44)),
 n 46 45 (.fa 7 (t 3)),
 n 47 45 (.ld1 (t 46)),
 n 48 45 (.fa 5 (t 1)),
 n 49 45 (.ld1 (t 48)),
 n 50 45 (.callv (t 47) [(t 49)]),
 n 51 45 (.un .not (t 50)),
 o 52 (.pick (t 45) (b true) (t 51)),
 o 53 (.mv (t 52)),
 n 54 53 (.fa 4 (t 1)),
 n 55 53 (.ld1 (t 54)),
 n 56 53 (.len (t 55)),
 n 57 53 (.fa 4 (t 3)),
 n 58 53 (.ld1 (t 57)),
 n 59 53 (.cmp .lss (t 56) (t 58)),
 o 60 (.pick (t 53) (b true) (t 59)),
 o 61 (.mv (t 60)),
 n 62 61 (.fa 4 (t 1)),
 n 63 61 (.ld1 (t 62)),
 n 64 61 (.len (t 63)),
 n 65 61 (.fa 5 (t 3)),
 n 66 61 (.ld1 (t 65)),
 n 67 61 (.cmp .gtr (t 64) (t 66)),
 o 68 (.pick (t 61) (b true) (t 67)),
 o 69 (.mv (t 68)),
 n 70 69 (.fa 4 (t 1)),
 n 71 69 (.ld1 (t 70)),
 n 72 69 (.call 21 [(t 71),(u 450)]),
 o 73 (.pick (t 69) (b true) (t 72)),
 o 42 (.mv (t 73))]
def f345r7:List SOper:=[
 o 2 (.mv (b false))]
def f345r8:List SOper:=[
 o 75 (.fa 0 (t 3)),
 o 76 (.ld1 (t 75)),
 o 77 (.mv (t 76)),
 g 78 77 (.fa 1 (t 1)),
 g 79 77 (.ld1 (t 78)),
 g 80 77 (.call 451 [(t 79)]),
 g 81 77 (.un .not (t 80)),
 o 82 (.pick (t 77) (t 81) (b false)),
 o 83 (.mv (t 82)),
 n 84 83 (.fa 1 (t 3)),
 n 85 83 (.ld1 (t 84)),
 n 86 83 (.mv (t 85)),
 g 87 86 (.fa 1 (t 1)),
 g 88 86 (.ld1 (t 87)),
 g 89 86 (.call 452 [(t 88)]),
 g 90 86 (.un .not (t 89)),
 n 91 83 (.pick (t 86) (t 90) (b false)),
 o 92 (.pick (t 83) (b true) (t 91)),
 o 93 (.mv (t 92)),
 n 94 93 (.fa 0 (t 3)),
 n 95 93 (.ld1 (t 94)),
 n 96 93 (.un .not (t 95)),
 n 97 93 (.mv (t 96)),
 g 98 97 (.fa 1 (t 3)),
 g 99 97 (.ld1 (t 98)),
 g 100 97 (.un .not (t 99)),
 n 101 93 (.pick (t 97) (t 100) (b false)),
 n 102 93 (.mv (t 101)),
 g 103 102 (.fa 1 (t 1)),
 g 104 102 (.ld1 (t 103)),
 g 105 102 (.cmp .neq (t 104) e),
 n 106 93 (.pick (t 102) (t 105) (b false)),
 o 107 (.pick (t 93) (b true) (t 106)),
 o 74 (.mv (t 107))]
def f345r9:List SOper:=[
 o 2 (.mv (b false))]
def f345r10:List SOper:=[
 o 109 (.fa 2 (t 3)),
 o 110 (.ld1 (t 109)),
 o 111 (.un .not (t 110)),
 o 112 (.mv (t 111)),
 g 113 112 (.fa 2 (t 1)),
 g 114 112 (.ld1 (t 113)),
 g 115 112 (.cmp .neq (t 114) e),
 o 116 (.pick (t 112) (t 115) (b false)),
 o 117 (.mv (t 116)),
 n 118 117 (.fa 3 (t 3)),
 n 119 117 (.ld1 (t 118)),
 n 120 117 (.un .not (t 119)),
 n 121 117 (.mv (t 120)),
 g 122 121 (.fa 3 (t 1)),
 g 123 121 (.ld1 (t 122)),
 g 124 121 (.cmp .neq (t 123) (i 0)),
 n 125 117 (.pick (t 121) (t 124) (b false)),
 o 126 (.pick (t 117) (b true) (t 125)),
 o 127 (.mv (t 126)),
 n 128 127 (.fa 3 (t 1)),
 n 129 127 (.ld1 (t 128)),
 n 130 127 (.cmp .lss (t 129) (i 0)),
 o 131 (.pick (t 127) (b true) (t 130)),
 o 108 (.mv (t 131))]
def f345r11:List SOper:=[
 o 2 (.mv (b false))]
def f345r12:List SOper:=[
 o 132 (.fa 0 (t 1)),
 o 133 (.ld1 (t 132)),
 o 134 (.cmp .neq (t 133) (i 1)),
 o 135 (.mv (t 134)),
 n 136 135 (.fa 5 (t 1)),
 n 137 135 (.ld1 (t 136)),
 n 138 135 (.len (t 137)),
 n 139 135 (.fa 4 (t 1)),
 n 140 135 (.ld1 (t 139)),
 n 141 135 (.len (t 140)),
 n 142 135 (.cmp .leq (t 138) (t 141)),
 o 143 (.pick (t 135) (b true) (t 142)),
 o 2 (.mv (t 143))]
def f345:SCode:=(.seq (.ops f345r0) (.seq (.seq (.ops f345r1) (.cond (t 7) (.seq (.ops f345r2) .ret) .skip)) (.seq (.seq (.ops f345r3) (.cond (t 10) (.seq (.ops f345r4) .ret) .skip)) (.seq (.tree [36,37,38,39,35,40,41,3,4] f345t5) (.seq (.block 0 (.seq (.ops f345r6) (.cond (t 42) (.seq (.ops f345r7) .ret) (.seq (.ops f345r8) (.cond (t 74) (.seq (.ops f345r9) .ret) (.seq (.ops f345r10) (.cond (t 108) (.seq (.ops f345r11) .ret) .skip))))))) (.seq (.ops f345r12) .ret))))))
def f345_ent:Ent:=.code 144 f345 [.t 2]
theorem f345_ok (oq:Nat→Value) (F:Nat→Prop) (h0:Heap):EntOK Tryz.prog oq F h0 345 f345_ent:=⟨soundD_of (fl:=false) mixed Tryz.func345 rfl (by kernel_rfl) (by kernel_rfl) (by kernel_rfl),soundF_of (fl:=false) mixed Tryz.func345 rfl (by kernel_rfl) (by kernel_rfl) (by kernel_rfl)⟩
def f346r0:List SOper:=[
 o 8 (.eqn 4 false (t 6))]
def f346r1:List SOper:=[
 o 3 (.mv (t 6))]
def f346r2:List SOper:=[
 o 9 (.tas 414 (.agg #[(.int .i64 0)]) true (t 6)),
 o 10 (.ext (t 9) 1),
 o 11 (.ext (t 9) 0)]
def f346r3:List SOper:=[
 o 4 (.new [(.int .i64 0)]),
 q (.st 1 (t 4) (t 11))]
def f346t4:OTree:=(.one (o 12 (.build [(.int .i64 0),(.string ⟨#[]⟩),(.string ⟨#[]⟩),(.int .i64 0),(.slice none 0 0),(.slice none 0 0)] [] []))
 (.one (o 13 (.fa 0 (t 4)))
 (.one (o 14 (.ld1 (t 13)))
 (.one (q (.st 6 (t 0) (t 12)))
 (.chk [o 14 (.ld1 (t 13))] (.one (q (.st 1 (t 1) (.const (.slice none 0 0))))
 (.chk [o 14 (.ld1 (t 13))] (.one (q (.st 1 (t 2) (t 14)))
 .done))))))))
def f346r5:List SOper:=[
 o 5 (.mv (t 6))]
def f346r6:List SOper:=[
 o 7 (.mv (t 5)),
 q (.pan (t 7))]
def f346:SCode:=(.seq (.rcv (some 6)) (.block 0 (.seq (.ops f346r0) (.cond (t 8) (.ops f346r1) (.seq (.ops f346r2) (.cond (t 10) (.seq (.ops f346r3) (.tree [12,13,14] f346t4)) (.seq (.ops f346r5) (.ops f346r6))))))))
def f346_ent:Ent:=.code 15 f346 []
theorem f346_ok (oq:Nat→Value) (F:Nat→Prop) (h0:Heap):EntOK Tryz.prog oq F h0 346 f346_ent:=⟨soundD_of (fl:=false) mixed Tryz.func346 rfl (by kernel_rfl) (by kernel_rfl) (by kernel_rfl),soundF_of (fl:=false) mixed Tryz.func346 rfl (by kernel_rfl) (by kernel_rfl) (by kernel_rfl)⟩
def f347r0:List SOper:=[
 o 2 (.box (t 0)),
 o 3 (.box (t 1)),
 o 4 (.new [(.int .i64 0),(.string ⟨#[]⟩),(.string ⟨#[]⟩),(.int .i64 0),(.slice none 0 0),(.slice none 0 0)])]
def f347r1:List SOper:=[
 o 7 (.fa 4 (t 3)),
 o 8 (.ld1 (t 7)),
 o 9 (.call 128 [(t 8)]),
 o 10 (.fa 4 (t 3)),
 q (.st 1 (t 10) (t 9))]
def f347r2:List SOper:=[
 o 11 (.fa 0 (t 3)),
 o 12 (.ld1 (t 11))]
def f347r3:List SOper:=[
 o 14 (.cmp .eql (t 12) (i 0)),
 o 13 (.mv (t 14))]
def f347r4:List SOper:=[
 o 15 (.ld1 (t 2)),
 o 16 (.fn 454 [] [(t 2),(t 3)]),
 o 17 (.call 453 [(t 15),(t 16)])]
def f347r5:List SOper:=[
 o 18 (.ldn 6 (t 3)),
 q (.st 6 (t 4) (t 18))]
def f347r6:List SOper:=[
 o 20 (.cmp .eql (t 12) (i 1)),
 o 19 (.mv (t 20))]
def f347r7:List SOper:=[
 o 21 (.ld1 (t 2)),
 o 22 (.fa 5 (t 3)),
 o 23 (.ld1 (t 22)),
 o 24 (.call 455 [(t 21),(t 23)]),
 o 25 (.fa 5 (t 3)),
 q (.st 1 (t 25) (t 24))]
def f347r8:List SOper:=[
 o 26 (.ld1 (t 2)),
 o 27 (.fa 4 (t 3)),
 o 28 (.ld1 (t 27)),
 o 29 (.call 456 [(t 26),(t 28)]),
 o 30 (.fa 3 (t 3)),
 q (.st 1 (t 30) (t 29))]
def f347r9:List SOper:=[
 o 31 (.ldn 6 (t 3)),
 q (.st 6 (t 4) (t 31))]
def f347r10:List SOper:=[
 o 33 (.cmp .eql (t 12) (i 9)),
 o 32 (.mv (t 33))]
def f347r11:List SOper:=[
 o 34 (.ld1 (t 2)),
 o 35 (.ldn 6 (t 3)),
 o 36 (.call 457 [(t 34),(t 35)]),
 q (.st 6 (t 4) (t 36))]
def f347r12:List SOper:=[
 o 38 (.cmp .eql (t 12) (i 6)),
 o 37 (.mv (t 38))]
def f347r13:List SOper:=[
 o 39 (.ld1 (t 2)),
 o 40 (.ldn 6 (t 3)),
 o 41 (.call 458 [(t 39),(t 40)]),
 q (.st 6 (t 4) (t 41))]
def f347r14:List SOper:=[
 o 43 (.cmp .eql (t 12) (i 5)),
 o 42 (.mv (t 43))]
def f347t15:OTree:=(.one (o 44 (.ld1 (t 2)))
 (.one (o 45 (.fa 5 (t 3)))
 (.one (o 46 (.ld1 (t 45)))
 (.one (o 47 (.ixs 6 (t 46) (i 0)))
 (.one (o 48 (.ldn 6 (t 47)))
 (.both (.one (o 49 (.call 347 [(t 44),(t 48)]))
 (.one (o 5 (.new [(.int .i64 0),(.string ⟨#[]⟩),(.string ⟨#[]⟩),(.int .i64 0),(.slice none 0 0),(.slice none 0 0)]))
 (.one (q (.st 6 (t 5) (t 49)))
 .done))) (.one (o 5 (.new [(.int .i64 0),(.string ⟨#[]⟩),(.string ⟨#[]⟩),(.int .i64 0),(.slice none 0 0),(.slice none 0 0)]))
 (.one (o 49 (.call 347 [(t 44),(t 48)]))
 (.one (q (.st 6 (t 5) (t 49)))
 .done)))))))))
def f347r16:List SOper:=[
 o 50 (.ld1 (t 2)),
 o 51 (.nilck (t 50)),
 o 52 (.fa 0 (t 51)),
 o 53 (.fa 3 (t 52)),
 o 54 (.ld1 (t 53)),
 o 55 (.ar .add (t 54) (i 1)),
 o 56 (.nilck (t 50)),
 o 57 (.fa 0 (t 56)),
 o 58 (.fa 3 (t 57)),
 q (.st 1 (t 58) (t 55))]
def f347t17:OTree:=(.one (o 60 (.ld1 (t 2)))
 (.one (o 61 (.fa 5 (t 3)))
 (.one (o 62 (.ld1 (t 61)))
 (.one (o 63 (.ixs 6 (t 62) (i 1)))
 (.one (o 64 (.ldn 6 (t 63)))
 (.one (o 59 (.ldn 6 (t 5)))
 (.one (o 65 (.call 347 [(t 60),(t 64)]))
 (.chk [o 59 (.ldn 6 (t 5))] (.one (o 66 (.bslice [(.int .i64 0),(.string ⟨#[]⟩),(.string ⟨#[]⟩),(.int .i64 0),(.slice none 0 0),(.slice none 0 0),(.int .i64 0),(.string ⟨#[]⟩),(.string ⟨#[]⟩),(.int .i64 0),(.slice none 0 0),(.slice none 0 0)] 2 [(0,6),(6,6)] [(t 59),(t 65)]))
 (.one (o 67 (.fa 5 (t 3)))
 (.one (q (.st 1 (t 67) (t 66)))
 .done)))))))))))
def f347r18:List SOper:=[
 o 68 (.ld1 (t 2)),
 o 69 (.nilck (t 68)),
 o 70 (.fa 0 (t 69)),
 o 71 (.fa 3 (t 70)),
 o 72 (.ld1 (t 71)),
 o 73 (.ar .sub (t 72) (i 1)),
 o 74 (.nilck (t 68)),
 o 75 (.fa 0 (t 74)),
 o 76 (.fa 3 (t 75)),
 q (.st 1 (t 76) (t 73))]
def f347r19:List SOper:=[
 o 77 (.ldn 6 (t 3)),
 q (.st 6 (t 4) (t 77))]
def f347r20:List SOper:=[
 o 79 (.cmp .eql (t 12) (i 8)),
 o 78 (.mv (t 79))]
def f347r21:List SOper:=[
 o 80 (.ld1 (t 2)),
 o 81 (.nilck (t 80)),
 o 82 (.fa 0 (t 81)),
 o 83 (.fa 3 (t 82)),
 o 84 (.ld1 (t 83)),
 o 85 (.cmp .gtr (t 84) (i 0)),
 o 86 (.call 459 [(t 85),(i 232)])]
def f347r22:List SOper:=[
 o 88 (.cmp .eql (t 12) (i 15)),
 o 87 (.mv (t 88))]
def f347r23:List SOper:=[
 o 89 (.ld1 (t 2)),
 o 90 (.fa 1 (t 3)),
 o 91 (.ld1 (t 90)),
 o 92 (.call 460 [(t 89),(t 91)]),
 o 93 (.fa 3 (t 3)),
 q (.st 1 (t 93) (t 92))]
def f347r24:List SOper:=[
 o 95 (.cmp .eql (t 12) (i 17)),
 o 94 (.mv (t 95))]
def f347r25:List SOper:=[
 o 96 (.ld1 (t 2)),
 o 97 (.fa 1 (t 3)),
 o 98 (.ld1 (t 97)),
 o 99 (.fa 5 (t 3)),
 o 100 (.ld1 (t 99)),
 o 101 (.len (t 100)),
 o 102 (.call 461 [(t 96),(t 98),(t 101)]),
 o 103 (.fa 3 (t 3)),
 q (.st 1 (t 103) (t 102))]
def f347r26:List SOper:=[
 o 105 (.cmp .eql (t 12) (i 2)),
 o 104 (.mv (t 105))]
def f347r27:List SOper:=[
 o 106 (.fa 5 (t 3)),
 o 107 (.ld1 (t 106)),
 o 108 (.ixs 6 (t 107) (i 0)),
 o 109 (.ldn 6 (t 108)),
 o 6 (.new [(.int .i64 0),(.string ⟨#[]⟩),(.string ⟨#[]⟩),(.int .i64 0),(.slice none 0 0),(.slice none 0 0)]),
 q (.st 6 (t 6) (t 109))]
def f347r28:List SOper:=[
 o 110 (.fa 0 (t 6)),
 o 111 (.ld1 (t 110)),
 o 112 (.cmp .neq (t 111) (i 15)),
 o 113 (.mv (t 112)),
 n 114 113 (.ld1 (t 2)),
 n 115 113 (.fa 1 (t 6)),
 n 116 113 (.ld1 (t 115)),
 n 117 113 (.call 460 [(t 114),(t 116)]),
 n 118 113 (.cmp .geq (t 117) (i 0)),
 o 119 (.pick (t 113) (b true) (t 118)),
 o 120 (.call 459 [(t 119),(i 234)])]
def f347r29:List SOper:=[
 o 121 (.ld1 (t 2)),
 o 122 (.fa 5 (t 3)),
 o 123 (.ld1 (t 122)),
 o 124 (.call 455 [(t 121),(t 123)]),
 o 125 (.fa 5 (t 3)),
 q (.st 1 (t 125) (t 124))]
def f347r30:List SOper:=[
 o 126 (.ldn 6 (t 3)),
 q (.st 6 (t 4) (t 126))]
def f347:SCode:=(.seq (.ops f347r0) (.seq (.ops f347r1) (.seq (.seq (.ops f347r2) (.block 0 (.seq (.ops f347r3) (.cond (t 13) (.seq (.ops f347r4) (.seq (.ops f347r5) .ret)) (.seq (.ops f347r6) (.cond (t 19) (.seq (.ops f347r7) (.seq (.ops f347r8) (.seq (.ops f347r9) .ret))) (.seq (.ops f347r10) (.cond (t 32) (.seq (.ops f347r11) .ret) (.seq (.ops f347r12) (.cond (t 37) (.seq (.ops f347r13) .ret) (.seq (.ops f347r14) (.cond (t 42) (.seq (.tree [44,45,46,47,48,49,5] f347t15) (.seq (.ops f347r16) (.seq (.tree [59,60,61,62,63,64,65,66,67] f347t17) (.seq (.ops f347r18) (.seq (.ops f347r19) .ret))))) (.seq (.ops f347r20) (.cond (t 78) (.ops f347r21) (.seq (.ops f347r22) (.cond (t 87) (.ops f347r23) (.seq (.ops f347r24) (.cond (t 94) (.ops f347r25) (.seq (.ops f347r26) (.cond (t 104) (.seq (.ops f347r27) (.ops f347r28)) .skip)))))))))))))))))))) (.seq (.ops f347r29) (.seq (.ops f347r30) .ret)))))
def f347_ent:Ent:=.code 127 f347 [.cn 4 6]
theorem f347_ok (oq:Nat→Value) (F:Nat→Prop) (h0:Heap):EntOK Tryz.prog oq F h0 347 f347_ent:=⟨soundD_of (fl:=false) mixed Tryz.func347 rfl (by kernel_rfl) (by kernel_rfl) (by kernel_rfl),soundF_of (fl:=false) mixed Tryz.func347 rfl (by kernel_rfl) (by kernel_rfl) (by kernel_rfl)⟩
def f358r0:List SOper:=[
 o 3 (.box (t 1))]
def f358r1:List SOper:=[
 o 6 (.build [(.int .i64 0),(.int .i64 0),(.string ⟨#[]⟩)] [] []),
 o 4 (.new [(.int .i64 0),(.int .i64 0),(.string ⟨#[]⟩)]),
 q (.st 3 (t 4) (t 6))]
def f358r2:List SOper:=[
 o 7 (.fa 0 (t 3)),
 o 8 (.ld1 (t 7))]
def f358r3:List SOper:=[
 o 10 (.cmp .eql (t 8) (i 1)),
 o 9 (.mv (t 10))]
def f358r4:List SOper:=[
 o 11 (.fa 1 (t 3)),
 o 12 (.ld1 (t 11)),
 o 5 (.mv (t 12))]
def f358r5:List SOper:=[
 o 13 (.mv (t 5)),
 o 14 (.fa 2 (t 3)),
 o 15 (.ld1 (t 14)),
 o 16 (.cmp .leq (t 13) (t 15))]
def f358t6:OTree:=(.one (o 19 (.mv (t 0)))
 (.one (o 24 (.mv (t 5)))
 (.one (o 25 (.ldn 3 (t 4)))
 (.one (o 20 (.call 369 [(t 19)]))
 (.chk [o 25 (.ldn 3 (t 4))] (.one (o 21 (.nilck (t 20)))
 (.chk [o 25 (.ldn 3 (t 4))] (.one (o 22 (.fa 3 (t 21)))
 (.chk [o 25 (.ldn 3 (t 4))] (.one (o 23 (.ld1 (t 22)))
 (.chk [o 25 (.ldn 3 (t 4))] (.one (o 26 (.ixs 3 (t 23) (t 24)))
 (.chk [o 25 (.ldn 3 (t 4))] (.one (q (.st 3 (t 26) (t 25)))
 .done))))))))))))))
def f358r7:List SOper:=[
 o 17 (.mv (t 5)),
 o 18 (.ar .add (t 17) (i 1)),
 o 5 (.mv (t 18))]
def f358l8:SCode:=(.seq (.seq (.ops f358r5) (.cond (t 16) .skip (.exit 1))) (.seq (.block 2 (.tree [19,20,21,22,23,24,25,26] f358t6)) (.ops f358r7)))
def f358r9:List SOper:=[
 o 28 (.cmp .eql (t 8) (i 2)),
 o 27 (.mv (t 28))]
def f358r10:List SOper:=[
 o 29 (.cmp .eql (t 8) (i 3)),
 o 27 (.mv (t 29))]
def f358r11:List SOper:=[
 o 30 (.fa 0 (t 3)),
 o 31 (.ld1 (t 30)),
 o 32 (.cmp .eql (t 31) (i 2)),
 o 33 (.call 480 [(t 32)]),
 q (.st 3 (t 4) (t 33))]
def f358r12:List SOper:=[
 o 35 (.cmp .eql (t 8) (i 4)),
 o 34 (.mv (t 35))]
def f358r13:List SOper:=[
 o 36 (.mv (t 0)),
 o 37 (.nilck (t 36)),
 o 38 (.fa 0 (t 37)),
 o 39 (.fa 1 (t 38)),
 o 40 (.ld1 (t 39)),
 o 41 (.fa 2 (t 3)),
 o 42 (.ld1 (t 41)),
 o 43 (.ixs 1 (t 40) (t 42)),
 o 44 (.ld1 (t 43)),
 o 45 (.call 356 [(t 44)]),
 q (.st 3 (t 4) (t 45))]
def f358r14:List SOper:=[
 o 47 (.cmp .eql (t 8) (i 5)),
 o 46 (.mv (t 47))]
def f358r15:List SOper:=[
 o 48 (.mv (t 0)),
 o 49 (.nilck (t 48)),
 o 50 (.fa 0 (t 49)),
 o 51 (.fa 2 (t 50)),
 o 52 (.ld1 (t 51)),
 o 53 (.fa 2 (t 3)),
 o 54 (.ld1 (t 53)),
 o 55 (.ixs 1 (t 52) (t 54)),
 o 56 (.ld1 (t 55)),
 o 57 (.call 357 [(t 56)]),
 q (.st 3 (t 4) (t 57))]
def f358r16:List SOper:=[
 o 59 (.cmp .eql (t 8) (i 6)),
 o 58 (.mv (t 59))]
def f358r17:List SOper:=[
 o 60 (.mv (t 0)),
 o 61 (.fa 2 (t 3)),
 o 62 (.ld1 (t 61)),
 o 63 (.call 481 [(t 60),(t 62)]),
 q (.st 3 (t 4) (t 63))]
def f358r18:List SOper:=[
 o 65 (.cmp .eql (t 8) (i 7)),
 o 64 (.mv (t 65))]
def f358r19:List SOper:=[
 o 66 (.mv (t 0)),
 o 67 (.nilck (t 66)),
 o 68 (.fa 8 (t 67)),
 o 69 (.ldn 3 (t 68)),
 q (.st 3 (t 4) (t 69))]
def f358r20:List SOper:=[
 o 71 (.cmp .eql (t 8) (i 8)),
 o 70 (.mv (t 71))]
def f358r21:List SOper:=[
 o 72 (.mv (t 0)),
 o 73 (.nilck (t 72)),
 o 74 (.fa 11 (t 73)),
 o 75 (.ldn 3 (t 74)),
 q (.st 3 (t 4) (t 75))]
def f358r22:List SOper:=[
 o 76 (.mv (t 0)),
 o 77 (.ldn 4 (t 3)),
 o 78 (.ldn 3 (t 4)),
 o 79 (.call 482 [(t 76),(t 77),(t 78),e])]
def f358:SCode:=(.seq (.ops f358r0) (.seq (.ops f358r1) (.seq (.seq (.ops f358r2) (.block 0 (.seq (.ops f358r3) (.cond (t 9) (.seq (.seq (.ops f358r4) (.block 1 (.loop f358l8))) .ret) (.seq (.seq (.ops f358r9) (.cond (t 27) .skip (.ops f358r10))) (.cond (t 27) (.ops f358r11) (.seq (.ops f358r12) (.cond (t 34) (.ops f358r13) (.seq (.ops f358r14) (.cond (t 46) (.ops f358r15) (.seq (.ops f358r16) (.cond (t 58) (.ops f358r17) (.seq (.ops f358r18) (.cond (t 64) (.ops f358r19) (.seq (.ops f358r20) (.cond (t 70) (.ops f358r21) .skip)))))))))))))))) (.ops f358r22))))
def f358_ent:Ent:=.code 80 f358 []
theorem f358_ok (oq:Nat→Value) (F:Nat→Prop) (h0:Heap):EntOK Tryz.prog oq F h0 358 f358_ent:=⟨soundD_of (fl:=false) mixed Tryz.func358 rfl (by kernel_rfl) (by kernel_rfl) (by kernel_rfl),soundF_of (fl:=false) mixed Tryz.func358 rfl (by kernel_rfl) (by kernel_rfl) (by kernel_rfl)⟩
def f359r0:List SOper:=[
 o 3 (.box (t 1))]
def f359r1:List SOper:=[
 o 8 (.fa 0 (t 3)),
 o 9 (.ld1 (t 8))]
def f359r2:List SOper:=[
 o 29 (.cmp .eql (t 9) (i 9)),
 o 28 (.mv (t 29))]
def f359r3:List SOper:=[
 o 31 (.mv (t 0)),
 o 32 (.nilck (t 31)),
 o 33 (.fa 3 (t 32)),
 o 34 (.ld1 (t 33)),
 o 35 (.call 354 [(t 34)]),
 o 30 (.mv (t 35)),
 o 36 (.ext (t 30) 0),
 o 37 (.ext (t 30) 1),
 o 4 (.new [(.int .i64 0),(.int .i64 0),(.string ⟨#[]⟩)]),
 q (.st 3 (t 4) (t 36)),
 o 5 (.mv (t 37))]
def f359r4:List SOper:=[
 o 38 (.mv (t 0)),
 o 39 (.ldn 4 (t 3)),
 o 40 (.ldn 3 (t 4)),
 o 41 (.mv (t 5)),
 o 42 (.call 482 [(t 38),(t 39),(t 40),(t 41)])]
def f359r5:List SOper:=[
 o 44 (.cmp .eql (t 9) (i 10)),
 o 43 (.mv (t 44))]
def f359t6:OTree:=(.one (o 46 (.mv (t 0)))
 (.one (o 47 (.nilck (t 46)))
 (.one (o 48 (.fa 3 (t 47)))
 (.one (o 50 (.mv (t 0)))
 (.one (o 51 (.fa 2 (t 3)))
 (.one (o 52 (.ld1 (t 51)))
 (.one (o 54 (.mv (t 0)))
 (.one (o 55 (.fa 3 (t 3)))
 (.one (o 49 (.ld1 (t 48)))
 (.one (o 56 (.ld1 (t 55)))
 (.both (.one (o 53 (.call 481 [(t 50),(t 52)]))
 (.chk [o 56 (.ld1 (t 55)),o 49 (.ld1 (t 48))] (.both (.one (o 57 (.call 481 [(t 54),(t 56)]))
 (.chk [o 49 (.ld1 (t 48))] (.both (.one (o 58 (.call 475 [(t 49),(t 53),(t 57)]))
 (.one (o 45 (.mv (t 58)))
 (.one (o 59 (.ext (t 45) 0))
 (.one (o 60 (.ext (t 45) 1))
 (.one (o 6 (.new [(.int .i64 0),(.int .i64 0),(.string ⟨#[]⟩)]))
 (.one (q (.st 3 (t 6) (t 59)))
 (.one (o 7 (.mv (t 60)))
 .done))))))) (.one (o 6 (.new [(.int .i64 0),(.int .i64 0),(.string ⟨#[]⟩)]))
 (.chk [o 49 (.ld1 (t 48))] (.one (o 58 (.call 475 [(t 49),(t 53),(t 57)]))
 (.one (o 45 (.mv (t 58)))
 (.one (o 59 (.ext (t 45) 0))
 (.one (o 60 (.ext (t 45) 1))
 (.one (q (.st 3 (t 6) (t 59)))
 (.one (o 7 (.mv (t 60)))
 .done))))))))))) (.one (o 6 (.new [(.int .i64 0),(.int .i64 0),(.string ⟨#[]⟩)]))
 (.chk [o 56 (.ld1 (t 55)),o 49 (.ld1 (t 48))] (.one (o 57 (.call 481 [(t 54),(t 56)]))
 (.chk [o 49 (.ld1 (t 48))] (.one (o 58 (.call 475 [(t 49),(t 53),(t 57)]))
 (.one (o 45 (.mv (t 58)))
 (.one (o 59 (.ext (t 45) 0))
 (.one (o 60 (.ext (t 45) 1))
 (.one (q (.st 3 (t 6) (t 59)))
 (.one (o 7 (.mv (t 60)))
 .done))))))))))))) (.one (o 6 (.new [(.int .i64 0),(.int .i64 0),(.string ⟨#[]⟩)]))
 (.chk [o 56 (.ld1 (t 55)),o 49 (.ld1 (t 48))] (.one (o 53 (.call 481 [(t 50),(t 52)]))
 (.chk [o 56 (.ld1 (t 55)),o 49 (.ld1 (t 48))] (.one (o 57 (.call 481 [(t 54),(t 56)]))
 (.chk [o 49 (.ld1 (t 48))] (.one (o 58 (.call 475 [(t 49),(t 53),(t 57)]))
 (.one (o 45 (.mv (t 58)))
 (.one (o 59 (.ext (t 45) 0))
 (.one (o 60 (.ext (t 45) 1))
 (.one (q (.st 3 (t 6) (t 59)))
 (.one (o 7 (.mv (t 60)))
 .done)))))))))))))))))))))))
def f359r7:List SOper:=[
 o 61 (.mv (t 0)),
 o 62 (.ldn 4 (t 3)),
 o 63 (.ldn 3 (t 6)),
 o 64 (.mv (t 7)),
 o 65 (.call 482 [(t 61),(t 62),(t 63),(t 64)])]
def f359t8:OTree:=(.one (o 10 (.mv (t 0)))
 (.one (o 11 (.nilck (t 10)))
 (.one (o 12 (.fa 3 (t 11)))
 (.one (o 14 (.mv (t 0)))
 (.one (o 15 (.fa 1 (t 3)))
 (.one (o 16 (.ld1 (t 15)))
 (.one (o 18 (.mv (t 0)))
 (.one (o 19 (.fa 2 (t 3)))
 (.one (o 22 (.mv (t 0)))
 (.one (o 23 (.fa 3 (t 3)))
 (.one (o 13 (.ld1 (t 12)))
 (.one (o 20 (.ld1 (t 19)))
 (.one (o 24 (.ld1 (t 23)))
 (.one (o 17 (.call 481 [(t 14),(t 16)]))
 (.chk [o 24 (.ld1 (t 23)),o 20 (.ld1 (t 19)),o 13 (.ld1 (t 12))] (.one (o 21 (.call 481 [(t 18),(t 20)]))
 (.chk [o 24 (.ld1 (t 23)),o 13 (.ld1 (t 12))] (.one (o 25 (.call 481 [(t 22),(t 24)]))
 (.chk [o 13 (.ld1 (t 12))] (.one (o 26 (.call 355 [(t 13),(t 17),(t 21),(t 25)]))
 (.one (o 27 (.call 266 [(t 26)]))
 .done)))))))))))))))))))))
def f359:SCode:=(.seq (.ops f359r0) (.seq (.ops f359r1) (.block 0 (.seq (.ops f359r2) (.cond (t 28) (.seq (.ops f359r3) (.ops f359r4)) (.seq (.ops f359r5) (.cond (t 43) (.seq (.tree [46,47,48,49,50,51,52,53,54,55,56,57,58,45,59,60,6,7] f359t6) (.ops f359r7)) (.tree [10,11,12,13,14,15,16,17,18,19,20,21,22,23,24,25,26,27] f359t8))))))))
def f359_ent:Ent:=.code 66 f359 []
theorem f359_ok (oq:Nat→Value) (F:Nat→Prop) (h0:Heap):EntOK Tryz.prog oq F h0 359 f359_ent:=⟨soundD_of (fl:=false) mixed Tryz.func359 rfl (by kernel_rfl) (by kernel_rfl) (by kernel_rfl),soundF_of (fl:=false) mixed Tryz.func359 rfl (by kernel_rfl) (by kernel_rfl) (by kernel_rfl)⟩
def f365r0:List SOper:=[
 o 3 (.box (t 1))]
def f365t1:OTree:=(.one (o 9 (.mv (t 0)))
 (.one (o 14 (.fa 1 (t 3)))
 (.one (o 16 (.fa 1 (t 3)))
 (.one (o 18 (.fa 3 (t 3)))
 (.one (o 15 (.ld1 (t 14)))
 (.one (o 17 (.ld1 (t 16)))
 (.one (o 19 (.ld1 (t 18)))
 (.one (o 20 (.ar .add (t 17) (t 19)))
 (.chk [o 19 (.ld1 (t 18)),o 17 (.ld1 (t 16)),o 15 (.ld1 (t 14))] (.one (o 10 (.call 369 [(t 9)]))
 (.chk [o 19 (.ld1 (t 18)),o 17 (.ld1 (t 16)),o 15 (.ld1 (t 14))] (.one (o 11 (.nilck (t 10)))
 (.chk [o 19 (.ld1 (t 18)),o 17 (.ld1 (t 16)),o 15 (.ld1 (t 14))] (.one (o 12 (.fa 3 (t 11)))
 (.chk [o 19 (.ld1 (t 18)),o 17 (.ld1 (t 16)),o 15 (.ld1 (t 14))] (.one (o 13 (.ld1 (t 12)))
 (.chk [o 19 (.ld1 (t 18)),o 17 (.ld1 (t 16)),o 15 (.ld1 (t 14))] (.one (o 21 (.slc 3 (t 13) (some (t 15)) (some (t 20))))
 (.chk [o 19 (.ld1 (t 18)),o 17 (.ld1 (t 16)),o 15 (.ld1 (t 14))] (.one (o 22 (.call 487 [(t 21)]))
 (.one (o 4 (.mv (t 22)))
 .done)))))))))))))))))))))
def f365r2:List SOper:=[
 o 23 (.mv (t 0)),
 o 24 (.nilck (t 23)),
 o 25 (.fa 0 (t 24)),
 o 26 (.fa 2 (t 25)),
 o 27 (.ld1 (t 26)),
 o 28 (.fa 2 (t 3)),
 o 29 (.ld1 (t 28)),
 o 30 (.ixs 1 (t 27) (t 29)),
 o 31 (.ld1 (t 30)),
 o 5 (.mv (t 31))]
def f365r3:List SOper:=[
 o 32 (.mv (t 5))]
def f365r4:List SOper:=[
 o 34 (.cmp .eql (t 32) (.const (.string ⟨#[99,97,108,108]⟩))),
 o 33 (.mv (t 34))]
def f365r5:List SOper:=[
 o 35 (.cmp .eql (t 32) (.const (.string ⟨#[116,114,121]⟩))),
 o 33 (.mv (t 35))]
def f365r6:List SOper:=[
 o 36 (.mv (t 0)),
 o 37 (.ldn 4 (t 3)),
 o 38 (.mv (t 5)),
 o 39 (.cmp .eql (t 38) (.const (.string ⟨#[116,114,121]⟩))),
 o 40 (.mv (t 4)),
 o 41 (.call 488 [(t 36),(t 37),(t 39),(t 40)])]
def f365r7:List SOper:=[
 o 43 (.cmp .eql (t 32) (.const (.string ⟨#[101,114,114,111,114]⟩))),
 o 42 (.mv (t 43))]
def f365r8:List SOper:=[
 o 44 (.mv (t 4)),
 o 45 (.len (t 44)),
 o 46 (.cmp .gtr (t 45) (i 0)),
 o 47 (.mv (t 46)),
 g 48 47 (.mv (t 4)),
 g 49 47 (.ixs 3 (t 48) (i 0)),
 g 50 47 (.fa 0 (t 49)),
 g 51 47 (.ld1 (t 50)),
 g 52 47 (.cmp .eql (t 51) (i 3)),
 g 53 47 (.mv (t 52)),
 n 54 53 (.mv (t 4)),
 n 55 53 (.ixs 3 (t 54) (i 0)),
 n 56 53 (.fa 0 (t 55)),
 n 57 53 (.ld1 (t 56)),
 n 58 53 (.cmp .eql (t 57) (i 2)),
 g 59 47 (.pick (t 53) (b true) (t 58)),
 o 60 (.pick (t 47) (t 59) (b false))]
def f365r9:List SOper:=[
 o 61 (.mv (t 4)),
 o 62 (.ixs 3 (t 61) (i 0)),
 o 63 (.ldn 3 (t 62)),
 o 64 (.call 489 [(t 63)]),
 o 65 (.build [(.string ⟨#[]⟩)] [(0,1)] [(t 64)]),
 o 66 (.mki 380 (t 65)),
 q (.pan (t 66))]
def f365r10:List SOper:=[
 o 67 (.call 266 [(.const (.string ⟨#[101,114,114,111,114]⟩))])]
def f365r11:List SOper:=[
 o 69 (.mv (t 0)),
 o 70 (.nilck (t 69)),
 o 71 (.fa 3 (t 70)),
 o 72 (.ld1 (t 71)),
 o 73 (.mv (t 5)),
 o 74 (.mv (t 4)),
 o 75 (.call 490 [(t 72),(t 73),(t 74)]),
 o 68 (.mv (t 75)),
 o 76 (.ext (t 68) 0),
 o 77 (.ext (t 68) 1),
 o 78 (.ext (t 68) 2),
 o 6 (.new [(.int .i64 0),(.int .i64 0),(.string ⟨#[]⟩)]),
 q (.st 3 (t 6) (t 76)),
 o 7 (.mv (t 77)),
 o 8 (.mv (t 78))]
def f365r12:List SOper:=[
 o 79 (.mv (t 7)),
 o 80 (.call 266 [(t 79)])]
def f365r13:List SOper:=[
 o 81 (.mv (t 0)),
 o 82 (.ldn 4 (t 3)),
 o 83 (.ldn 3 (t 6)),
 o 84 (.call 491 [(t 81),(t 82),(t 83)])]
def f365:SCode:=(.seq (.ops f365r0) (.seq (.tree [9,10,11,12,13,14,15,16,17,18,19,20,21,22,4] f365t1) (.seq (.ops f365r2) (.seq (.seq (.ops f365r3) (.block 0 (.seq (.seq (.ops f365r4) (.cond (t 33) .skip (.ops f365r5))) (.cond (t 33) (.seq (.ops f365r6) .ret) (.seq (.ops f365r7) (.cond (t 42) (.seq (.seq (.ops f365r8) (.cond (t 60) (.ops f365r9) .skip)) (.ops f365r10)) .skip)))))) (.seq (.ops f365r11) (.seq (.ops f365r12) (.ops f365r13)))))))
def f365_ent:Ent:=.code 85 f365 []
theorem f365_ok (oq:Nat→Value) (F:Nat→Prop) (h0:Heap):EntOK Tryz.prog oq F h0 365 f365_ent:=⟨soundD_of (fl:=false) mixed Tryz.func365 rfl (by kernel_rfl) (by kernel_rfl) (by kernel_rfl),soundF_of (fl:=false) mixed Tryz.func365 rfl (by kernel_rfl) (by kernel_rfl) (by kernel_rfl)⟩
def f378r0:List SOper:=[
 o 10 (.mv (t 2)),
 o 11 (.lens (t 10)),
 o 12 (.cmp .leq (t 11) (i 1048576)),
 o 13 (.mv (t 12)),
 g 14 13 (.mv (t 1)),
 g 15 13 (.lens (t 14)),
 g 16 13 (.cmp .leq (t 15) (i 1048576)),
 o 17 (.pick (t 13) (t 16) (b false)),
 o 18 (.call 376 [(t 17),(.const (.string ⟨#[69,82,82,32,108,111,110,103]⟩))])]
def f378t1:OTree:=(.one (o 20 (.mv (t 0)))
 (.one (o 21 (.nilck (t 20)))
 (.one (o 22 (.fa 0 (t 21)))
 (.one (o 23 (.ld1 (t 22)))
 (.one (o 24 (.mv (t 1)))
 (.one (o 25 (.mv (t 0)))
 (.one (o 26 (.nilck (t 25)))
 (.one (o 27 (.fa 1 (t 26)))
 (.one (o 28 (.ld1 (t 27)))
 (.both (.one (o 29 (.call 381 [(t 23),(t 24),(t 28)]))
 (.one (o 19 (.mv (t 29)))
 (.one (o 30 (.ext (t 19) 0))
 (.one (o 31 (.ext (t 19) 1))
 (.one (o 8 (.new [(.int .i64 0),(.string ⟨#[]⟩),(.slice none 0 0),(.slice none 0 0),(.slice none 0 0),(.bool false),(.int .i64 0)]))
 (.one (q (.st 7 (t 8) (t 30)))
 (.one (o 9 (.mv (t 31)))
 .done))))))) (.one (o 8 (.new [(.int .i64 0),(.string ⟨#[]⟩),(.slice none 0 0),(.slice none 0 0),(.slice none 0 0),(.bool false),(.int .i64 0)]))
 (.one (o 29 (.call 381 [(t 23),(t 24),(t 28)]))
 (.one (o 19 (.mv (t 29)))
 (.one (o 30 (.ext (t 19) 0))
 (.one (o 31 (.ext (t 19) 1))
 (.one (q (.st 7 (t 8) (t 30)))
 (.one (o 9 (.mv (t 31)))
 .done)))))))))))))))))
def f378r2:List SOper:=[
 o 32 (.mv (t 0)),
 o 33 (.mv (t 0)),
 o 34 (.nilck (t 33)),
 o 35 (.fa 0 (t 34)),
 o 36 (.ld1 (t 35)),
 o 37 (.mv (t 0)),
 o 38 (.nilck (t 37)),
 o 39 (.fa 1 (t 38)),
 o 40 (.ld1 (t 39)),
 o 41 (.mv (t 1)),
 o 42 (.call 387 [(t 36),(t 40),(t 41)]),
 o 43 (.call 379 [(t 32),(t 42)])]
def f378r3:List SOper:=[
 o 44 (.mv (t 0)),
 o 45 (.mv (t 1)),
 o 46 (.mv (t 2)),
 o 47 (.build [(.int .i64 0),(.string ⟨#[]⟩),(.string ⟨#[]⟩),(.string ⟨#[]⟩),(.int .i64 0)] [(0,1),(1,1),(3,1)] [(i 2),(t 45),(t 46)]),
 o 48 (.bslice [(.int .i64 0),(.string ⟨#[]⟩),(.string ⟨#[]⟩),(.string ⟨#[]⟩),(.int .i64 0)] 1 [(0,5)] [(t 47)]),
 o 49 (.call 379 [(t 44),(t 48)])]
def f378r4:List SOper:=[
 o 50 (.mv (t 3)),
 o 51 (.mv (t 50)),
 g 52 51 (.mv (t 9)),
 o 53 (.pick (t 51) (t 52) (b false)),
 o 54 (.mv (t 53)),
 g 55 54 (.fa 5 (t 8)),
 g 56 54 (.ld1 (t 55)),
 o 57 (.pick (t 54) (t 56) (b false))]
def f378r5:List SOper:=[
 o 58 (.mv (t 0)),
 o 59 (.mv (t 1)),
 o 60 (.fa 6 (t 8)),
 o 61 (.ld1 (t 60)),
 o 62 (.build [(.int .i64 0),(.string ⟨#[]⟩),(.string ⟨#[]⟩),(.string ⟨#[]⟩),(.int .i64 0)] [(0,1),(1,1),(4,1)] [(i 3),(t 59),(t 61)]),
 o 63 (.bslice [(.int .i64 0),(.string ⟨#[]⟩),(.string ⟨#[]⟩),(.string ⟨#[]⟩),(.int .i64 0)] 1 [(0,5)] [(t 62)]),
 o 64 (.call 379 [(t 58),(t 63)])]
def f378:SCode:=(.seq (.ops f378r0) (.seq (.tree [20,21,22,23,24,25,26,27,28,29,19,30,31,8,9] f378t1) (.seq (.ops f378r2) (.seq (.ops f378r3) (.seq (.ops f378r4) (.cond (t 57) (.ops f378r5) .skip))))))
def f378_ent:Ent:=.code 65 f378 []
theorem f378_ok (oq:Nat→Value) (F:Nat→Prop) (h0:Heap):EntOK Tryz.prog oq F h0 378 f378_ent:=⟨soundD_of (fl:=false) mixed Tryz.func378 rfl (by kernel_rfl) (by kernel_rfl) (by kernel_rfl),soundF_of (fl:=false) mixed Tryz.func378 rfl (by kernel_rfl) (by kernel_rfl) (by kernel_rfl)⟩
def f382r0:List SOper:=[
 o 4 (.mv e),
 o 5 (.mv (b false))]
def f382t1:OTree:=(.one (o 9 (.mv (t 0)))
 (.one (o 10 (.nilck (t 9)))
 (.one (o 11 (.fa 0 (t 10)))
 (.one (o 12 (.ld1 (t 11)))
 (.one (o 13 (.mv (t 1)))
 (.one (o 14 (.mv (t 0)))
 (.one (o 15 (.nilck (t 14)))
 (.one (o 16 (.fa 1 (t 15)))
 (.one (o 17 (.ld1 (t 16)))
 (.both (.one (o 18 (.call 381 [(t 12),(t 13),(t 17)]))
 (.one (o 8 (.mv (t 18)))
 (.one (o 19 (.ext (t 8) 0))
 (.one (o 20 (.ext (t 8) 1))
 (.one (o 6 (.new [(.int .i64 0),(.string ⟨#[]⟩),(.slice none 0 0),(.slice none 0 0),(.slice none 0 0),(.bool false),(.int .i64 0)]))
 (.one (q (.st 7 (t 6) (t 19)))
 (.one (o 7 (.mv (t 20)))
 .done))))))) (.one (o 6 (.new [(.int .i64 0),(.string ⟨#[]⟩),(.slice none 0 0),(.slice none 0 0),(.slice none 0 0),(.bool false),(.int .i64 0)]))
 (.one (o 18 (.call 381 [(t 12),(t 13),(t 17)]))
 (.one (o 8 (.mv (t 18)))
 (.one (o 19 (.ext (t 8) 0))
 (.one (o 20 (.ext (t 8) 1))
 (.one (q (.st 7 (t 6) (t 19)))
 (.one (o 7 (.mv (t 20)))
 .done)))))))))))))))))
def f382r2:List SOper:=[
 o 21 (.mv (t 7)),
 o 22 (.un .not (t 21)),
 o 23 (.mv (t 22)),
 n 24 23 (.fa 0 (t 6)),
 n 25 23 (.ld1 (t 24)),
 n 26 23 (.cmp .eql (t 25) (i 1)),
 o 27 (.pick (t 23) (b true) (t 26)),
 o 28 (.call 376 [(t 27),(.const (.string ⟨#[87,82,79,78,71,84,89,80,69]⟩))])]
def f382r3:List SOper:=[
 o 29 (.fa 1 (t 6)),
 o 30 (.ld1 (t 29)),
 o 31 (.mv (t 7)),
 o 4 (.mv (t 30)),
 o 5 (.mv (t 31))]
def f382:SCode:=(.seq (.ops f382r0) (.seq (.tree [9,10,11,12,13,14,15,16,17,18,8,19,20,6,7] f382t1) (.seq (.ops f382r2) (.seq (.ops f382r3) .ret))))
def f382_ent:Ent:=.code 32 f382 [.t 4,.t 5]
theorem f382_ok (oq:Nat→Value) (F:Nat→Prop) (h0:Heap):EntOK Tryz.prog oq F h0 382 f382_ent:=⟨soundD_of (fl:=false) mixed Tryz.func382 rfl (by kernel_rfl) (by kernel_rfl) (by kernel_rfl),soundF_of (fl:=false) mixed Tryz.func382 rfl (by kernel_rfl) (by kernel_rfl) (by kernel_rfl)⟩
def f437r0:List SOper:=[
 o 2 (.new [(.int .i64 0),(.string ⟨#[]⟩),(.int .i64 0),(.int .i64 0)]),
 o 3 (.mv (i 0))]
def f437r1:List SOper:=[
 o 12 (.mv (t 0)),
 o 13 (.call 523 [(t 12)]),
 o 4 (.mv (t 13))]
def f437r2:List SOper:=[
 o 14 (.build [(.int .i64 0),(.string ⟨#[]⟩),(.int .i64 0),(.int .i64 0)] [] []),
 o 5 (.new [(.int .i64 0),(.string ⟨#[]⟩),(.int .i64 0),(.int .i64 0)]),
 q (.st 4 (t 5) (t 14))]
def f437r3:List SOper:=[
 o 16 (.mv (t 4)),
 o 17 (.cmp .gtr (t 16) (i 0)),
 o 18 (.mv (t 17)),
 g 19 18 (.mv (t 0)),
 g 20 18 (.ixc (t 19) (i 0)),
 g 21 18 (.call 524 [(t 20)]),
 o 22 (.pick (t 18) (t 21) (b false)),
 o 15 (.mv (t 22))]
def f437r4:List SOper:=[
 o 23 (.mv (t 0)),
 o 24 (.mv (t 4)),
 o 25 (.sls (t 23) none (some (t 24))),
 o 26 (.fa 1 (t 5)),
 q (.st 1 (t 26) (t 25))]
def f437t5:OTree:=(.one (o 28 (.fa 1 (t 5)))
 (.one (o 29 (.ld1 (t 28)))
 (.one (o 27 (.call 525 []))
 (.chk [o 29 (.ld1 (t 28))] (.one (o 30 (.look .str (.int .i64 0) false (t 27) (t 29)))
 (.chk [o 29 (.ld1 (t 28))] (.one (o 31 (.cmp .gtr (t 30) (i 0)))
 (.chk [o 29 (.ld1 (t 28))] .done))))))))
def f437r6:List SOper:=[
 o 32 (.fa 0 (t 5)),
 q (.st 1 (t 32) (i 1))]
def f437r7:List SOper:=[
 o 33 (.fa 1 (t 5)),
 o 34 (.ld1 (t 33)),
 o 35 (.call 451 [(t 34)]),
 o 36 (.un .not (t 35))]
def f437r8:List SOper:=[
 o 37 (.ldn 4 (t 5)),
 o 38 (.mv (t 4)),
 q (.st 4 (t 2) (t 37)),
 o 3 (.mv (t 38))]
def f437r9:List SOper:=[
 o 40 (.mv (t 4)),
 o 41 (.cmp .gtr (t 40) (i 0)),
 o 39 (.mv (t 41))]
def f437r10:List SOper:=[
 o 43 (.mv (t 0)),
 o 44 (.mv (t 4)),
 o 45 (.sls (t 43) none (some (t 44))),
 o 46 (.call 526 [(t 45),(i 10),(i 63)]),
 o 42 (.mv (t 46)),
 o 47 (.ext (t 42) 0),
 o 48 (.ext (t 42) 1),
 o 6 (.mv (t 47)),
 o 7 (.mv (t 48))]
def f437r11:List SOper:=[
 o 49 (.mv (t 7)),
 o 50 (.eqn 4 true (t 49))]
def f437r12:List SOper:=[
 o 51 (.mv (t 6)),
 o 52 (.cvt .i64 (t 51)),
 o 53 (.build [(.int .i64 0),(.string ⟨#[]⟩),(.int .i64 0),(.int .i64 0)] [(0,1),(2,1)] [(i 2),(t 52)]),
 o 54 (.mv (t 4)),
 q (.st 4 (t 2) (t 53)),
 o 3 (.mv (t 54))]
def f437r13:List SOper:=[
 o 56 (.mv (t 0)),
 o 57 (.ixc (t 56) (i 0)),
 o 58 (.cmp .eql (t 57) (.const (.int .u8 39))),
 o 59 (.mv (t 58)),
 n 60 59 (.mv (t 0)),
 n 61 59 (.ixc (t 60) (i 0)),
 n 62 59 (.cmp .eql (t 61) (.const (.int .u8 34))),
 o 63 (.pick (t 59) (b true) (t 62)),
 o 55 (.mv (t 63))]
def f437r14:List SOper:=[
 o 65 (.mv (t 0)),
 o 66 (.call 527 [(t 65)]),
 o 64 (.mv (t 66)),
 o 67 (.ext (t 64) 0),
 o 68 (.ext (t 64) 1),
 o 8 (.mv (t 67)),
 o 9 (.mv (t 68))]
def f437r15:List SOper:=[
 o 69 (.mv (t 9)),
 o 70 (.cmp .eql (t 69) (i 0))]
def f437r16:List SOper:=[
 o 71 (.mv (t 8)),
 o 72 (.build [(.int .i64 0),(.string ⟨#[]⟩),(.int .i64 0),(.int .i64 0)] [(0,1),(1,1)] [(i 3),(t 71)]),
 o 73 (.mv (t 9)),
 q (.st 4 (t 2) (t 72)),
 o 3 (.mv (t 73))]
def f437r17:List SOper:=[
 o 74 (.call 528 []),
 o 75 (.mv (i 0))]
def f437r18:List SOper:=[
 o 76 (.cmp .lss (t 75) (i 24))]
def f437r19:List SOper:=[
 o 77 (.ixv 24 1 (t 74) (t 75)),
 o 11 (.mv (t 77))]
def f437r20:List SOper:=[
 o 78 (.mv (t 0)),
 o 79 (.mv (t 11)),
 o 80 (.call 521 [(t 78),(t 79)])]
def f437r21:List SOper:=[
 o 81 (.mv (t 11)),
 o 82 (.build [(.int .i64 0),(.string ⟨#[]⟩),(.int .i64 0),(.int .i64 0)] [(0,1),(1,1)] [(i 4),(t 81)]),
 o 83 (.mv (t 11)),
 o 84 (.lens (t 83)),
 q (.st 4 (t 2) (t 82)),
 o 3 (.mv (t 84))]
def f437r22:List SOper:=[
 o 85 (.ar .add (t 75) (i 1)),
 o 75 (.mv (t 85))]
def f437l23:SCode:=(.seq (.ops f437r18) (.seq (.cond (t 76) .skip (.exit 1)) (.seq (.block 2 (.seq (.ops f437r19) (.seq (.ops f437r20) (.cond (t 80) (.seq (.ops f437r21) .ret) .skip)))) (.ops f437r22))))
def f437r24:List SOper:=[
 o 86 (.build [(.int .i64 0),(.string ⟨#[]⟩),(.int .i64 0),(.int .i64 0)] [] []),
 q (.st 4 (t 2) (t 86)),
 o 3 (.mv (i 0))]
def f437r25:List SOper:=[
 o 86 (.build [(.int .i64 0),(.string ⟨#[]⟩),(.int .i64 0),(.int .i64 0)] [] []),
 q (.st 4 (t 2) (t 86)),
 o 3 (.mv (i 0))]
def f437:SCode:=(.seq (.ops f437r0) (.scopeG (.seq (.ops f437r1) (.seq (.ops f437r2) (.seq (.block 0 (.seq (.ops f437r3) (.cond (t 15) (.seq (.ops f437r4) (.seq (.seq (.tree [27,28,29,30,31] f437t5) (.cond (t 31) (.ops f437r6) (.seq (.ops f437r7) (.cond (t 36) (.goto 0) .skip)))) (.seq (.ops f437r8) .ret))) (.seq (.ops f437r9) (.cond (t 39) (.seq (.ops f437r10) (.seq (.seq (.ops f437r11) (.cond (t 50) (.goto 0) .skip)) (.seq (.ops f437r12) .ret))) (.seq (.ops f437r13) (.cond (t 55) (.seq (.ops f437r14) (.seq (.seq (.ops f437r15) (.cond (t 70) (.goto 0) .skip)) (.seq (.ops f437r16) .ret))) .skip))))))) (.seq (.seq (.ops f437r17) (.block 1 (.loop f437l23))) (.seq (.label 0) (.seq (.ops f437r24) .ret)))))) 0 (.seq .skip (.seq (.ops f437r25) .ret))))
def f437_ent:Ent:=.code 87 f437 [.cn 2 4,.t 3]
theorem f437_ok (oq:Nat→Value) (F:Nat→Prop) (h0:Heap):EntOK Tryz.prog oq F h0 437 f437_ent:=⟨soundD_of (fl:=false) mixed Tryz.func437 rfl (by kernel_rfl) (by kernel_rfl) (by kernel_rfl),soundF_of (fl:=false) mixed Tryz.func437 rfl (by kernel_rfl) (by kernel_rfl) (by kernel_rfl)⟩
def f444r0:List SOper:=[
 o 2 (.new [(.int .i64 0),(.string ⟨#[]⟩),(.string ⟨#[]⟩),(.int .i64 0),(.slice none 0 0),(.slice none 0 0)])]
def f444r1:List SOper:=[
 o 6 (.mv (t 0)),
 o 7 (.call 537 [(t 6)]),
 o 5 (.mv (t 7)),
 o 8 (.ext (t 5) 0),
 o 9 (.ext (t 5) 1),
 o 3 (.new [(.int .i64 0),(.string ⟨#[]⟩),(.string ⟨#[]⟩),(.int .i64 0),(.slice none 0 0),(.slice none 0 0)]),
 q (.st 6 (t 3) (t 8)),
 o 4 (.mv (t 9))]
def f444r2:List SOper:=[
 o 10 (.mv (t 4))]
def f444r3:List SOper:=[
 o 13 (.mv (t 0)),
 o 14 (.call 342 [(t 13),(.const (.string ⟨#[91]⟩))]),
 o 12 (.mv (t 14))]
def f444t4:OTree:=(.one (o 16 (.mv (t 0)))
 (.one (o 15 (.ldn 6 (t 3)))
 (.one (o 17 (.call 538 [(t 16),(.const (.string ⟨#[93]⟩))]))
 (.chk [o 15 (.ldn 6 (t 3))] (.one (o 18 (.bslice [(.int .i64 0),(.string ⟨#[]⟩),(.string ⟨#[]⟩),(.int .i64 0),(.slice none 0 0),(.slice none 0 0),(.int .i64 0),(.string ⟨#[]⟩),(.string ⟨#[]⟩),(.int .i64 0),(.slice none 0 0),(.slice none 0 0)] 2 [(0,6),(6,6)] [(t 15),(t 17)]))
 (.one (o 19 (.build [(.int .i64 0),(.string ⟨#[]⟩),(.string ⟨#[]⟩),(.int .i64 0),(.slice none 0 0),(.slice none 0 0)] [(0,1),(5,1)] [(i 16),(t 18)]))
 (.one (q (.st 6 (t 3) (t 19)))
 .done)))))))
def f444r5:List SOper:=[
 o 21 (.mv (t 0)),
 o 22 (.call 342 [(t 21),(.const (.string ⟨#[46]⟩))]),
 o 20 (.mv (t 22))]
def f444t6:OTree:=(.one (o 24 (.mv (t 0)))
 (.one (o 23 (.ldn 6 (t 3)))
 (.one (o 25 (.call 529 [(t 24)]))
 (.chk [o 23 (.ldn 6 (t 3))] (.one (o 26 (.build [(.int .i64 0),(.string ⟨#[]⟩),(.string ⟨#[]⟩),(.int .i64 0),(.slice none 0 0),(.slice none 0 0)] [(0,1),(2,1)] [(i 14),(t 25)]))
 (.chk [o 23 (.ldn 6 (t 3))] (.one (o 27 (.bslice [(.int .i64 0),(.string ⟨#[]⟩),(.string ⟨#[]⟩),(.int .i64 0),(.slice none 0 0),(.slice none 0 0),(.int .i64 0),(.string ⟨#[]⟩),(.string ⟨#[]⟩),(.int .i64 0),(.slice none 0 0),(.slice none 0 0)] 2 [(0,6),(6,6)] [(t 23),(t 26)]))
 (.one (o 28 (.build [(.int .i64 0),(.string ⟨#[]⟩),(.string ⟨#[]⟩),(.int .i64 0),(.slice none 0 0),(.slice none 0 0)] [(0,1),(5,1)] [(i 16),(t 27)]))
 (.one (q (.st 6 (t 3) (t 28)))
 .done)))))))))
def f444r7:List SOper:=[
 o 11 (.ldn 6 (t 3)),
 q (.st 6 (t 2) (t 11))]
def f444l8:SCode:=(.seq (.seq (.ops f444r2) (.cond (t 10) .skip (.exit 0))) (.block 1 (.block 2 (.seq (.ops f444r3) (.cond (t 12) (.tree [15,16,17,18,19] f444t4) (.seq (.ops f444r5) (.cond (t 20) (.tree [23,24,25,26,27,28] f444t6) (.seq (.ops f444r7) .ret))))))))
def f444r9:List SOper:=[
 o 29 (.ldn 6 (t 3)),
 q (.st 6 (t 2) (t 29))]
def f444:SCode:=(.seq (.ops f444r0) (.seq (.ops f444r1) (.seq (.block 0 (.loop f444l8)) (.seq (.ops f444r9) .ret))))
def f444_ent:Ent:=.code 30 f444 [.cn 2 6]
theorem f444_ok (oq:Nat→Value) (F:Nat→Prop) (h0:Heap):EntOK Tryz.prog oq F h0 444 f444_ent:=⟨soundD_of (fl:=false) mixed Tryz.func444 rfl (by kernel_rfl) (by kernel_rfl) (by kernel_rfl),soundF_of (fl:=false) mixed Tryz.func444 rfl (by kernel_rfl) (by kernel_rfl) (by kernel_rfl)⟩
def f448r0:List SOper:=[
 o 2 (.mv (b false))]
def f448r1:List SOper:=[
 o 5 (.mv (t 0)),
 o 6 (.len (t 5)),
 o 7 (.mv (i 0))]
def f448r2:List SOper:=[
 o 8 (.cmp .lss (t 7) (t 6))]
def f448r3:List SOper:=[
 o 9 (.mv (t 7)),
 o 10 (.ixs 6 (t 5) (t 7)),
 o 11 (.ldn 6 (t 10)),
 o 4 (.new [(.int .i64 0),(.string ⟨#[]⟩),(.string ⟨#[]⟩),(.int .i64 0),(.slice none 0 0),(.slice none 0 0)]),
 o 3 (.mv (t 9)),
 q (.st 6 (t 4) (t 11))]
def f448t4:OTree:=(.one (o 13 (.fa 0 (t 4)))
 (.one (o 14 (.ld1 (t 13)))
 (.one (o 12 (.call 449 []))
 (.chk [o 14 (.ld1 (t 13))] (.one (o 15 (.look (.int .i64) (.agg #[(.bool false),(.bool false),(.bool false),(.bool false),(.int .i64 0),(.int .i64 0),(.bool false),.nilFunc]) false (t 12) (t 14)))
 (.chk [o 14 (.ld1 (t 13))] (.one (o 16 (.fl1 6 (t 15)))
 (.chk [o 14 (.ld1 (t 13))] (.one (o 17 (.un .not (t 16)))
 (.chk [o 14 (.ld1 (t 13))] (.one (o 18 (.mv (t 17)))
 (.chk [o 14 (.ld1 (t 13))] (.one (n 19 18 (.mv (t 3)))
 (.chk [o 14 (.ld1 (t 13))] (.one (n 20 18 (.mv (t 0)))
 (.chk [o 14 (.ld1 (t 13))] (.one (n 21 18 (.len (t 20)))
 (.chk [o 14 (.ld1 (t 13))] (.one (n 22 18 (.ar .sub (t 21) (i 1)))
 (.chk [o 14 (.ld1 (t 13))] (.one (n 23 18 (.cmp .lss (t 19) (t 22)))
 (.chk [o 14 (.ld1 (t 13))] (.one (n 24 18 (.mv (t 23)))
 (.chk [o 14 (.ld1 (t 13))] (.one (g 25 24 (.fa 0 (t 4)))
 (.chk [o 14 (.ld1 (t 13))] (.one (g 26 24 (.ld1 (t 25)))
 (.chk [o 14 (.ld1 (t 13))] (.one (g 27 24 (.cmp .eql (t 26) (i 7)))
 (.chk [o 14 (.ld1 (t 13))] (.one (g 28 24 (.mv (t 27)))
 (.chk [o 14 (.ld1 (t 13))] (.one (n 29 28 (.fa 0 (t 4)))
 (.chk [o 14 (.ld1 (t 13))] (.one (n 30 28 (.ld1 (t 29)))
 (.chk [o 14 (.ld1 (t 13))] (.one (n 31 28 (.cmp .eql (t 30) (i 8)))
 (.chk [o 14 (.ld1 (t 13))] (.one (g 32 24 (.pick (t 28) (b true) (t 31)))
 (.chk [o 14 (.ld1 (t 13))] (.one (n 33 18 (.pick (t 24) (t 32) (b false)))
 (.chk [o 14 (.ld1 (t 13))] (.one (o 34 (.pick (t 18) (b true) (t 33)))
 (.chk [o 14 (.ld1 (t 13))] .done))))))))))))))))))))))))))))))))))))))))))))
def f448r5:List SOper:=[
 o 2 (.mv (b false))]
def f448r6:List SOper:=[
 o 35 (.ar .add (t 7) (i 1)),
 o 7 (.mv (t 35))]
def f448l7:SCode:=(.seq (.ops f448r2) (.seq (.cond (t 8) .skip (.exit 0)) (.seq (.block 1 (.seq (.ops f448r3) (.seq (.tree [12,13,14,15,16,17,18,19,20,21,22,23,24,25,26,27,28,29,30,31,32,33,34] f448t4) (.cond (t 34) (.seq (.ops f448r5) .ret) .skip)))) (.ops f448r6))))
def f448r8:List SOper:=[
 o 2 (.mv (b true))]
def f448:SCode:=(.seq (.ops f448r0) (.seq (.seq (.ops f448r1) (.block 0 (.loop f448l7))) (.seq (.ops f448r8) .ret)))
def f448_ent:Ent:=.code 36 f448 [.t 2]
theorem f448_ok (oq:Nat→Value) (F:Nat→Prop) (h0:Heap):EntOK Tryz.prog oq F h0 448 f448_ent:=⟨soundD_of (fl:=false) mixed Tryz.func448 rfl (by kernel_rfl) (by kernel_rfl) (by kernel_rfl),soundF_of (fl:=false) mixed Tryz.func448 rfl (by kernel_rfl) (by kernel_rfl) (by kernel_rfl)⟩
def f453r0:List SOper:=[
 o 2 (.box (t 0))]
def f453t1:OTree:=(.one (o 6 (.ld1 (t 2)))
 (.one (o 7 (.nilck (t 6)))
 (.one (o 8 (.fa 0 (t 7)))
 (.one (o 9 (.fa 0 (t 8)))
 (.one (o 10 (.ld1 (t 9)))
 (.one (o 11 (.len (t 10)))
 (.one (o 12 (.ld1 (t 2)))
 (.one (o 13 (.nilck (t 12)))
 (.chk [o 12 (.ld1 (t 2))] (.one (o 14 (.fa 0 (t 13)))
 (.chk [o 12 (.ld1 (t 2))] (.one (o 15 (.fa 1 (t 14)))
 (.chk [o 12 (.ld1 (t 2))] (.one (o 16 (.ld1 (t 15)))
 (.one (o 17 (.len (t 16)))
 (.chk [o 16 (.ld1 (t 15)),o 12 (.ld1 (t 2))] (.both (.one (o 4 (.new [(.int .i64 0)]))
 (.chk [o 16 (.ld1 (t 15)),o 12 (.ld1 (t 2))] (.one (o 5 (.new [(.int .i64 0)]))
 (.chk [o 16 (.ld1 (t 15)),o 12 (.ld1 (t 2))] (.one (q (.st 1 (t 4) (t 11)))
 (.chk [o 16 (.ld1 (t 15)),o 12 (.ld1 (t 2))] (.one (q (.st 1 (t 5) (t 17)))
 .done))))))) (.one (o 5 (.new [(.int .i64 0)]))
 (.chk [o 16 (.ld1 (t 15)),o 12 (.ld1 (t 2))] (.one (o 4 (.new [(.int .i64 0)]))
 (.chk [o 16 (.ld1 (t 15)),o 12 (.ld1 (t 2))] (.one (q (.st 1 (t 4) (t 11)))
 (.chk [o 16 (.ld1 (t 15)),o 12 (.ld1 (t 2))] (.one (q (.st 1 (t 5) (t 17)))
 .done))))))))))))))))))))))))
def f453r2:List SOper:=[
 o 18 (.fn 555 [] [(t 2),(t 4),(t 5)])]
def f453r3:List SOper:=[
 o 19 (.mv (t 1)),
 o 20 (.callv (t 19) [])]
def f453:SCode:=(.seq (.ops f453r0) (.seq (.tree [6,7,8,9,10,11,12,13,14,15,16,17,4,5] f453t1) (.seq (.dfr f453r2 none (t 18) []) (.ops f453r3))))
def f453_ent:Ent:=.code 21 f453 []
theorem f453_ok (oq:Nat→Value) (F:Nat→Prop) (h0:Heap):EntOK Tryz.prog oq F h0 453 f453_ent:=⟨soundD_of (fl:=false) mixed Tryz.func453 rfl (by kernel_rfl) (by kernel_rfl) (by kernel_rfl),soundF_of (fl:=false) mixed Tryz.func453 rfl (by kernel_rfl) (by kernel_rfl) (by kernel_rfl)⟩
def f464r0:List SOper:=[
 o 3 (.box (t 1))]
def f464t1:OTree:=(.one (o 5 (.fa 0 (t 3)))
 (.one (o 8 (.mv (t 0)))
 (.one (o 6 (.ld1 (t 5)))
 (.one (o 9 (.ldn 6 (t 3)))
 (.one (o 4 (.call 562 []))
 (.chk [o 9 (.ldn 6 (t 3)),o 6 (.ld1 (t 5))] (.one (o 7 (.look (.int .i64) .nilFunc false (t 4) (t 6)))
 (.chk [o 9 (.ldn 6 (t 3)),o 6 (.ld1 (t 5))] (.one (o 10 (.callv (t 7) [(t 8),(t 9)]))
 .done)))))))))
def f464:SCode:=(.seq (.ops f464r0) (.tree [4,5,6,7,8,9,10] f464t1))
def f464_ent:Ent:=.code 11 f464 []
theorem f464_ok (oq:Nat→Value) (F:Nat→Prop) (h0:Heap):EntOK Tryz.prog oq F h0 464 f464_ent:=⟨soundD_of (fl:=false) mixed Tryz.func464 rfl (by kernel_rfl) (by kernel_rfl) (by kernel_rfl),soundF_of (fl:=false) mixed Tryz.func464 rfl (by kernel_rfl) (by kernel_rfl) (by kernel_rfl)⟩
def f476r0:List SOper:=[
 o 1 (.box (t 0)),
 o 2 (.mv (b false))]
def f476r1:List SOper:=[
 o 3 (.fa 0 (t 1)),
 o 4 (.ld1 (t 3))]
def f476r2:List SOper:=[
 o 6 (.cmp .eql (t 4) (i 0)),
 o 5 (.mv (t 6))]
def f476r3:List SOper:=[
 o 7 (.ldn 3 (t 1)),
 o 8 (.build [(.int .i64 0),(.int .i64 0),(.string ⟨#[]⟩)] [] []),
 o 9 (.eqa false [(.int .i64),(.int .i64),.str] (t 7) (t 8)),
 o 2 (.mv (t 9))]
def f476r4:List SOper:=[
 o 11 (.cmp .eql (t 4) (i 1)),
 o 10 (.mv (t 11))]
def f476r5:List SOper:=[
 o 12 (.fa 2 (t 1)),
 o 13 (.ld1 (t 12)),
 o 14 (.cmp .eql (t 13) e),
 o 15 (.mv (t 14)),
 g 16 15 (.fa 1 (t 1)),
 g 17 15 (.ld1 (t 16)),
 g 18 15 (.cmp .eql (t 17) (i 0)),
 g 19 15 (.mv (t 18)),
 n 20 19 (.fa 1 (t 1)),
 n 21 19 (.ld1 (t 20)),
 n 22 19 (.cmp .eql (t 21) (i 1)),
 g 23 15 (.pick (t 19) (b true) (t 22)),
 o 24 (.pick (t 15) (t 23) (b false)),
 o 2 (.mv (t 24))]
def f476r6:List SOper:=[
 o 26 (.cmp .eql (t 4) (i 2)),
 o 25 (.mv (t 26))]
def f476r7:List SOper:=[
 o 27 (.fa 2 (t 1)),
 o 28 (.ld1 (t 27)),
 o 29 (.cmp .eql (t 28) e),
 o 2 (.mv (t 29))]
def f476r8:List SOper:=[
 o 31 (.cmp .eql (t 4) (i 3)),
 o 30 (.mv (t 31))]
def f476r9:List SOper:=[
 o 32 (.fa 1 (t 1)),
 o 33 (.ld1 (t 32)),
 o 34 (.cmp .eql (t 33) (i 0)),
 o 35 (.mv (t 34)),
 g 36 35 (.fa 2 (t 1)),
 g 37 35 (.ld1 (t 36)),
 g 38 35 (.lens (t 37)),
 g 39 35 (.cmp .leq (t 38) (i 1048576)),
 o 40 (.pick (t 35) (t 39) (b false)),
 o 2 (.mv (t 40))]
def f476r10:List SOper:=[
 o 42 (.cmp .eql (t 4) (i 4)),
 o 41 (.mv (t 42))]
def f476r11:List SOper:=[
 o 43 (.fa 2 (t 1)),
 o 44 (.ld1 (t 43)),
 o 45 (.cmp .eql (t 44) e),
 o 46 (.mv (t 45)),
 g 47 46 (.fa 1 (t 1)),
 g 48 46 (.ld1 (t 47)),
 g 49 46 (.cmp .geq (t 48) (i 0)),
 o 50 (.pick (t 46) (t 49) (b false)),
 o 2 (.mv (t 50))]
def f476r12:List SOper:=[
 o 2 (.mv (b false))]
def f476:SCode:=(.seq (.ops f476r0) (.seq (.seq (.ops f476r1) (.block 0 (.seq (.ops f476r2) (.cond (t 5) (.seq (.ops f476r3) .ret) (.seq (.ops f476r4) (.cond (t 10) (.seq (.ops f476r5) .ret) (.seq (.ops f476r6) (.cond (t 25) (.seq (.ops f476r7) .ret) (.seq (.ops f476r8) (.cond (t 30) (.seq (.ops f476r9) .ret) (.seq (.ops f476r10) (.cond (t 41) (.seq (.ops f476r11) .ret) .skip)))))))))))) (.seq (.ops f476r12) .ret)))
def f476_ent:Ent:=.code 51 f476 [.t 2]
theorem f476_ok (oq:Nat→Value) (F:Nat→Prop) (h0:Heap):EntOK Tryz.prog oq F h0 476 f476_ent:=⟨soundD_of (fl:=false) mixed Tryz.func476 rfl (by kernel_rfl) (by kernel_rfl) (by kernel_rfl),soundF_of (fl:=false) mixed Tryz.func476 rfl (by kernel_rfl) (by kernel_rfl) (by kernel_rfl)⟩
def f482r0:List SOper:=[
 o 5 (.box (t 1)),
 o 6 (.box (t 2))]
def f482r1:List SOper:=[
 o 8 (.mv (t 3)),
 o 9 (.call 266 [(t 8)])]
def f482t2:OTree:=(.one (o 10 (.mv (t 0)))
 (.one (o 15 (.fa 1 (t 5)))
 (.one (o 16 (.ld1 (t 15)))
 (.one (o 17 (.ldn 3 (t 6)))
 (.one (o 11 (.call 369 [(t 10)]))
 (.chk [o 17 (.ldn 3 (t 6)),o 16 (.ld1 (t 15))] (.one (o 12 (.nilck (t 11)))
 (.chk [o 17 (.ldn 3 (t 6)),o 16 (.ld1 (t 15))] (.one (o 13 (.fa 3 (t 12)))
 (.chk [o 17 (.ldn 3 (t 6)),o 16 (.ld1 (t 15))] (.one (o 14 (.ld1 (t 13)))
 (.chk [o 17 (.ldn 3 (t 6)),o 16 (.ld1 (t 15))] (.one (o 18 (.ixs 3 (t 14) (t 16)))
 (.chk [o 17 (.ldn 3 (t 6)),o 16 (.ld1 (t 15))] (.one (q (.st 3 (t 18) (t 17)))
 .done)))))))))))))))
def f482:SCode:=(.seq (.ops f482r0) (.seq (.ops f482r1) (.tree [10,11,12,13,14,15,16,17,18] f482t2)))
def f482_ent:Ent:=.code 19 f482 []
theorem f482_ok (oq:Nat→Value) (F:Nat→Prop) (h0:Heap):EntOK Tryz.prog oq F h0 482 f482_ent:=⟨soundD_of (fl:=false) mixed Tryz.func482 rfl (by kernel_rfl) (by kernel_rfl) (by kernel_rfl),soundF_of (fl:=false) mixed Tryz.func482 rfl (by kernel_rfl) (by kernel_rfl) (by kernel_rfl)⟩
def f488r0:List SOper:=[
 o 5 (.box (t 1))]
def f488r1:List SOper:=[
 o 8 (.mv (.const (.slice none 0 0)))]
def f488r2:List SOper:=[
 o 15 (.mv (t 3)),
 o 16 (.len (t 15)),
 o 17 (.mv (i 0))]
def f488r3:List SOper:=[
 o 18 (.cmp .lss (t 17) (t 16))]
def f488r4:List SOper:=[
 o 19 (.ixs 3 (t 15) (t 17)),
 o 20 (.ldn 3 (t 19)),
 o 10 (.new [(.int .i64 0),(.int .i64 0),(.string ⟨#[]⟩)]),
 q (.st 3 (t 10) (t 20))]
def f488r5:List SOper:=[
 o 21 (.fa 0 (t 10)),
 o 22 (.ld1 (t 21)),
 o 23 (.cmp .neq (t 22) (i 3)),
 o 24 (.mv (t 23)),
 g 25 24 (.fa 0 (t 10)),
 g 26 24 (.ld1 (t 25)),
 g 27 24 (.cmp .neq (t 26) (i 2)),
 o 28 (.pick (t 24) (t 27) (b false))]
def f488r6:List SOper:=[
 o 29 (.call 266 [(.const (.string ⟨#[116,121,112,101]⟩))])]
def f488r7:List SOper:=[
 o 30 (.mv (t 8)),
 o 31 (.ldn 3 (t 10)),
 o 32 (.call 489 [(t 31)]),
 o 33 (.bslice [(.string ⟨#[]⟩)] 1 [(0,1)] [(t 32)]),
 o 34 (.app 1 16 [(.string ⟨#[]⟩)] (t 30) (t 33)),
 o 8 (.mv (t 34))]
def f488r8:List SOper:=[
 o 35 (.ar .add (t 17) (i 1)),
 o 17 (.mv (t 35))]
def f488l9:SCode:=(.seq (.ops f488r3) (.seq (.cond (t 18) .skip (.exit 0)) (.seq (.block 1 (.seq (.ops f488r4) (.seq (.seq (.ops f488r5) (.cond (t 28) (.ops f488r6) .skip)) (.ops f488r7)))) (.ops f488r8))))
def f488r10:List SOper:=[
 o 36 (.mv (t 8)),
 o 37 (.len (t 36)),
 o 38 (.cmp .eql (t 37) (i 0))]
def f488r11:List SOper:=[
 o 39 (.call 266 [(.const (.string ⟨#[97,114,103,115]⟩))])]
def f488t12:OTree:=(.one (o 41 (.mv (t 0)))
 (.one (o 42 (.nilck (t 41)))
 (.one (o 43 (.fa 4 (t 42)))
 (.one (o 44 (.ld1 (t 43)))
 (.one (o 45 (.mv (t 0)))
 (.one (o 46 (.nilck (t 45)))
 (.one (o 47 (.fa 5 (t 46)))
 (.one (o 48 (.ld1 (t 47)))
 (.one (o 49 (.mv (t 8)))
 (.both (.one (o 50 (.call 26 [(t 44),(t 48),(t 49)]))
 (.one (o 40 (.mv (t 50)))
 (.one (o 51 (.ext (t 40) 0))
 (.one (o 52 (.ext (t 40) 1))
 (.one (o 11 (.new [(.int .i64 0),(.int .i64 0),(.string ⟨#[]⟩),(.slice none 0 0)]))
 (.one (q (.st 4 (t 11) (t 51)))
 (.one (o 12 (.mv (t 52)))
 .done))))))) (.one (o 11 (.new [(.int .i64 0),(.int .i64 0),(.string ⟨#[]⟩),(.slice none 0 0)]))
 (.one (o 50 (.call 26 [(t 44),(t 48),(t 49)]))
 (.one (o 40 (.mv (t 50)))
 (.one (o 51 (.ext (t 40) 0))
 (.one (o 52 (.ext (t 40) 1))
 (.one (q (.st 4 (t 11) (t 51)))
 (.one (o 12 (.mv (t 52)))
 .done)))))))))))))))))
def f488r13:List SOper:=[
 o 53 (.mv (t 0)),
 o 54 (.mv (t 0)),
 o 55 (.nilck (t 54)),
 o 56 (.fa 15 (t 55)),
 o 57 (.ld1 (t 56)),
 o 58 (.mv (t 12)),
 o 59 (.app 5 64 [(.int .i64 0),(.string ⟨#[]⟩),(.string ⟨#[]⟩),(.string ⟨#[]⟩),(.int .i64 0)] (t 57) (t 58)),
 o 60 (.nilck (t 53)),
 o 61 (.fa 15 (t 60)),
 q (.st 1 (t 61) (t 59))]
def f488r14:List SOper:=[
 o 62 (.fa 0 (t 11)),
 o 63 (.ld1 (t 62)),
 o 64 (.cmp .eql (t 63) (i 2)),
 o 65 (.mv (t 64)),
 g 66 65 (.mv (t 2)),
 g 67 65 (.un .not (t 66)),
 o 68 (.pick (t 65) (t 67) (b false))]
def f488r15:List SOper:=[
 o 69 (.fa 2 (t 11)),
 o 70 (.ld1 (t 69)),
 o 71 (.build [(.string ⟨#[]⟩)] [(0,1)] [(t 70)]),
 o 72 (.mki 380 (t 71)),
 q (.pan (t 72))]
def f488t16:OTree:=(.one (o 74 (.mv (t 0)))
 (.one (o 75 (.nilck (t 74)))
 (.one (o 76 (.fa 3 (t 75)))
 (.one (o 77 (.ld1 (t 76)))
 (.one (o 78 (.ldn 4 (t 11)))
 (.both (.one (o 79 (.call 566 [(t 77),(t 78)]))
 (.one (o 73 (.mv (t 79)))
 (.one (o 80 (.ext (t 73) 0))
 (.one (o 81 (.ext (t 73) 1))
 (.one (o 13 (.new [(.int .i64 0),(.int .i64 0),(.string ⟨#[]⟩)]))
 (.one (q (.st 3 (t 13) (t 80)))
 (.one (o 14 (.mv (t 81)))
 .done))))))) (.one (o 13 (.new [(.int .i64 0),(.int .i64 0),(.string ⟨#[]⟩)]))
 (.one (o 79 (.call 566 [(t 77),(t 78)]))
 (.one (o 73 (.mv (t 79)))
 (.one (o 80 (.ext (t 73) 0))
 (.one (o 81 (.ext (t 73) 1))
 (.one (q (.st 3 (t 13) (t 80)))
 (.one (o 14 (.mv (t 81)))
 .done)))))))))))))
def f488r17:List SOper:=[
 o 82 (.mv (t 14)),
 o 83 (.call 266 [(t 82)])]
def f488r18:List SOper:=[
 o 84 (.mv (t 0)),
 o 85 (.ldn 4 (t 5)),
 o 86 (.ldn 3 (t 13)),
 o 87 (.call 491 [(t 84),(t 85),(t 86)])]
def f488:SCode:=(.seq (.ops f488r0) (.seq (.ops f488r1) (.seq (.seq (.ops f488r2) (.block 0 (.loop f488l9))) (.seq (.seq (.ops f488r10) (.cond (t 38) (.ops f488r11) .skip)) (.seq (.tree [41,42,43,44,45,46,47,48,49,50,40,51,52,11,12] f488t12) (.seq (.ops f488r13) (.seq (.seq (.ops f488r14) (.cond (t 68) (.ops f488r15) .skip)) (.seq (.tree [74,75,76,77,78,79,73,80,81,13,14] f488t16) (.seq (.ops f488r17) (.ops f488r18))))))))))
def f488_ent:Ent:=.code 88 f488 []
theorem f488_ok (oq:Nat→Value) (F:Nat→Prop) (h0:Heap):EntOK Tryz.prog oq F h0 488 f488_ent:=⟨soundD_of (fl:=false) mixed Tryz.func488 rfl (by kernel_rfl) (by kernel_rfl) (by kernel_rfl),soundF_of (fl:=false) mixed Tryz.func488 rfl (by kernel_rfl) (by kernel_rfl) (by kernel_rfl)⟩
def f491r0:List SOper:=[
 o 4 (.box (t 1)),
 o 5 (.box (t 2))]
def f491t1:OTree:=(.one (o 6 (.mv (t 0)))
 (.one (o 11 (.fa 1 (t 4)))
 (.one (o 12 (.ld1 (t 11)))
 (.one (o 13 (.ldn 3 (t 5)))
 (.one (o 7 (.call 369 [(t 6)]))
 (.chk [o 13 (.ldn 3 (t 5)),o 12 (.ld1 (t 11))] (.one (o 8 (.nilck (t 7)))
 (.chk [o 13 (.ldn 3 (t 5)),o 12 (.ld1 (t 11))] (.one (o 9 (.fa 3 (t 8)))
 (.chk [o 13 (.ldn 3 (t 5)),o 12 (.ld1 (t 11))] (.one (o 10 (.ld1 (t 9)))
 (.chk [o 13 (.ldn 3 (t 5)),o 12 (.ld1 (t 11))] (.one (o 14 (.ixs 3 (t 10) (t 12)))
 (.chk [o 13 (.ldn 3 (t 5)),o 12 (.ld1 (t 11))] (.one (q (.st 3 (t 14) (t 13)))
 .done)))))))))))))))
def f491:SCode:=(.seq (.ops f491r0) (.tree [6,7,8,9,10,11,12,13,14] f491t1))
def f491_ent:Ent:=.code 15 f491 []
theorem f491_ok (oq:Nat→Value) (F:Nat→Prop) (h0:Heap):EntOK Tryz.prog oq F h0 491 f491_ent:=⟨soundD_of (fl:=false) mixed Tryz.func491 rfl (by kernel_rfl) (by kernel_rfl) (by kernel_rfl),soundF_of (fl:=false) mixed Tryz.func491 rfl (by kernel_rfl) (by kernel_rfl) (by kernel_rfl)⟩
def f492r0:List SOper:=[
 o 3 (.box (t 1))]
def f492r1:List SOper:=[
 o 5 (.mv (t 0)),
 o 6 (.call 369 [(t 5)]),
 o 7 (.nilck (t 6)),
 o 8 (.fa 5 (t 7)),
 o 9 (.ld1 (t 8)),
 o 4 (.mv (t 9))]
def f492r2:List SOper:=[
 o 10 (.mv (t 0)),
 o 11 (.mv (t 0)),
 o 12 (.nilck (t 11)),
 o 13 (.fa 14 (t 12)),
 o 14 (.ld1 (t 13)),
 o 15 (.mv (t 0)),
 o 16 (.nilck (t 15)),
 o 17 (.fa 14 (t 16)),
 o 18 (.ld1 (t 17)),
 o 19 (.len (t 18)),
 o 20 (.ar .sub (t 19) (i 1)),
 o 21 (.slc 6 (t 14) none (some (t 20))),
 o 22 (.nilck (t 10)),
 o 23 (.fa 14 (t 22)),
 q (.st 1 (t 23) (t 21))]
def f492r3:List SOper:=[
 o 24 (.mv (t 0)),
 o 25 (.nilck (t 24)),
 o 26 (.fa 14 (t 25)),
 o 27 (.ld1 (t 26)),
 o 28 (.len (t 27)),
 o 29 (.cmp .eql (t 28) (i 0))]
def f492r4:List SOper:=[
 o 30 (.mv (t 0)),
 o 31 (.ldn 3 (t 3)),
 o 32 (.nilck (t 30)),
 o 33 (.fa 16 (t 32)),
 q (.st 3 (t 33) (t 31))]
def f492t5:OTree:=(.one (o 34 (.mv (t 0)))
 (.one (o 39 (.mv (t 4)))
 (.one (o 40 (.ldn 3 (t 3)))
 (.one (o 35 (.call 369 [(t 34)]))
 (.chk [o 40 (.ldn 3 (t 3))] (.one (o 36 (.nilck (t 35)))
 (.chk [o 40 (.ldn 3 (t 3))] (.one (o 37 (.fa 3 (t 36)))
 (.chk [o 40 (.ldn 3 (t 3))] (.one (o 38 (.ld1 (t 37)))
 (.chk [o 40 (.ldn 3 (t 3))] (.one (o 41 (.ixs 3 (t 38) (t 39)))
 (.chk [o 40 (.ldn 3 (t 3))] (.one (q (.st 3 (t 41) (t 40)))
 .done))))))))))))))
def f492:SCode:=(.seq (.ops f492r0) (.seq (.ops f492r1) (.seq (.ops f492r2) (.seq (.seq (.ops f492r3) (.cond (t 29) (.seq (.ops f492r4) .ret) .skip)) (.tree [34,35,36,37,38,39,40,41] f492t5)))))
def f492_ent:Ent:=.code 42 f492 []
theorem f492_ok (oq:Nat→Value) (F:Nat→Prop) (h0:Heap):EntOK Tryz.prog oq F h0 492 f492_ent:=⟨soundD_of (fl:=false) mixed Tryz.func492 rfl (by kernel_rfl) (by kernel_rfl) (by kernel_rfl),soundF_of (fl:=false) mixed Tryz.func492 rfl (by kernel_rfl) (by kernel_rfl) (by kernel_rfl)⟩
def f500r0:List SOper:=[
 o 4 (.box (t 1)),
 o 6 (.new [(.int .i64 0),(.int .i64 0),(.string ⟨#[]⟩),(.slice none 0 0)])]
def f500r1:List SOper:=[
 o 15 (.mv (t 0)),
 o 16 (.nilck (t 15)),
 o 17 (.fa 2 (t 16)),
 o 18 (.ld1 (t 17)),
 o 19 (.ldn 3 (t 4)),
 o 20 (.call 372 [(t 18),(t 19)]),
 o 14 (.mv (t 20)),
 o 21 (.ext (t 14) 0),
 o 22 (.ext (t 14) 1),
 o 7 (.mv (t 21)),
 o 8 (.mv (t 22))]
def f500r2:List SOper:=[
 o 23 (.mv (t 8)),
 o 24 (.cmp .eql (t 23) e),
 o 25 (.mv (t 8)),
 o 26 (.call 373 [(t 24),(t 25)])]
def f500r3:List SOper:=[
 o 27 (.build [(.string ⟨#[]⟩),(.int .i64 0)] [(0,1),(1,1)] [(.const (.string ⟨#[101,114,114]⟩)),(i 2)]),
 o 28 (.build [(.string ⟨#[]⟩),(.int .i64 0)] [(0,1),(1,1)] [(.const (.string ⟨#[111,107]⟩)),(i 1)]),
 o 29 (.bslice [(.string ⟨#[]⟩),(.int .i64 0),(.string ⟨#[]⟩),(.int .i64 0)] 2 [(0,2),(2,2)] [(t 27),(t 28)]),
 o 30 (.len (t 29)),
 o 31 (.mv (i 0))]
def f500r4:List SOper:=[
 o 32 (.cmp .lss (t 31) (t 30))]
def f500r5:List SOper:=[
 o 33 (.ixs 2 (t 29) (t 31)),
 o 34 (.ldn 2 (t 33)),
 o 10 (.new [(.string ⟨#[]⟩),(.int .i64 0)]),
 q (.st 2 (t 10) (t 34))]
def f500t6:OTree:=(.one (o 35 (.mv (t 0)))
 (.one (o 36 (.nilck (t 35)))
 (.one (o 37 (.fa 2 (t 36)))
 (.one (o 40 (.fa 0 (t 10)))
 (.one (o 41 (.ld1 (t 40)))
 (.one (o 38 (.ld1 (t 37)))
 (.one (o 39 (.ldn 3 (t 4)))
 (.both (.one (o 42 (.call 357 [(t 41)]))
 (.chk [o 39 (.ldn 3 (t 4)),o 38 (.ld1 (t 37))] (.both (.one (o 43 (.call 475 [(t 38),(t 39),(t 42)]))
 (.one (o 44 (.ext (t 43) 0))
 (.one (o 45 (.ext (t 43) 1))
 (.both (.one (o 46 (.call 572 [(t 44),(t 45)]))
 (.one (o 11 (.new [(.int .i64 0),(.int .i64 0),(.string ⟨#[]⟩)]))
 (.one (q (.st 3 (t 11) (t 46)))
 .done))) (.one (o 11 (.new [(.int .i64 0),(.int .i64 0),(.string ⟨#[]⟩)]))
 (.one (o 46 (.call 572 [(t 44),(t 45)]))
 (.one (q (.st 3 (t 11) (t 46)))
 .done))))))) (.one (o 11 (.new [(.int .i64 0),(.int .i64 0),(.string ⟨#[]⟩)]))
 (.chk [o 39 (.ldn 3 (t 4)),o 38 (.ld1 (t 37))] (.one (o 43 (.call 475 [(t 38),(t 39),(t 42)]))
 (.one (o 44 (.ext (t 43) 0))
 (.one (o 45 (.ext (t 43) 1))
 (.one (o 46 (.call 572 [(t 44),(t 45)]))
 (.one (q (.st 3 (t 11) (t 46)))
 .done)))))))))) (.one (o 11 (.new [(.int .i64 0),(.int .i64 0),(.string ⟨#[]⟩)]))
 (.chk [o 39 (.ldn 3 (t 4)),o 38 (.ld1 (t 37))] (.one (o 42 (.call 357 [(t 41)]))
 (.chk [o 39 (.ldn 3 (t 4)),o 38 (.ld1 (t 37))] (.one (o 43 (.call 475 [(t 38),(t 39),(t 42)]))
 (.one (o 44 (.ext (t 43) 0))
 (.one (o 45 (.ext (t 43) 1))
 (.one (o 46 (.call 572 [(t 44),(t 45)]))
 (.one (q (.st 3 (t 11) (t 46)))
 .done)))))))))))))))))
def f500r7:List SOper:=[
 o 47 (.fa 0 (t 11)),
 o 48 (.ld1 (t 47)),
 o 49 (.cmp .eql (t 48) (i 3))]
def f500t8:OTree:=(.one (o 50 (.fa 1 (t 10)))
 (.one (o 52 (.mv (t 0)))
 (.one (o 53 (.nilck (t 52)))
 (.one (o 54 (.fa 0 (t 53)))
 (.one (o 55 (.fa 2 (t 11)))
 (.one (o 56 (.ld1 (t 55)))
 (.one (o 51 (.ld1 (t 50)))
 (.one (o 57 (.call 498 [(t 54),(t 56)]))
 (.chk [o 51 (.ld1 (t 50))] (.one (o 58 (.build [(.int .i64 0),(.int .i64 0),(.string ⟨#[]⟩),(.slice none 0 0)] [(0,1),(2,1)] [(t 51),(t 57)]))
 (.chk [o 51 (.ld1 (t 50))] (.one (q (.st 4 (t 6) (t 58)))
 .done))))))))))))
def f500r9:List SOper:=[
 o 59 (.ar .add (t 31) (i 1)),
 o 31 (.mv (t 59))]
def f500l10:SCode:=(.seq (.ops f500r4) (.seq (.cond (t 32) .skip (.exit 0)) (.seq (.block 1 (.seq (.ops f500r5) (.seq (.tree [35,36,37,38,39,40,41,42,43,44,45,46,11] f500t6) (.seq (.ops f500r7) (.cond (t 49) (.seq (.tree [50,51,52,53,54,55,56,57,58] f500t8) .ret) .skip))))) (.ops f500r9))))
def f500r11:List SOper:=[
 o 60 (.mv (t 2)),
 o 61 (.cmp .gtr (t 60) (i 0)),
 o 62 (.call 373 [(t 61),(.const (.string ⟨#[114,101,112,108,121]⟩))])]
def f500r12:List SOper:=[
 o 63 (.mv (t 0)),
 o 64 (.nilck (t 63)),
 o 65 (.fa 0 (t 64)),
 o 66 (.mv (t 7)),
 o 67 (.call 573 [(t 65),(t 66)])]
def f500r13:List SOper:=[
 o 68 (.build [(.int .i64 0),(.int .i64 0),(.string ⟨#[]⟩),(.slice none 0 0)] [(0,1)] [(i 5)]),
 o 12 (.new [(.int .i64 0),(.int .i64 0),(.string ⟨#[]⟩),(.slice none 0 0)]),
 q (.st 4 (t 12) (t 68))]
def f500r14:List SOper:=[
 o 69 (.mv (t 7)),
 o 70 (.mv (i 0))]
def f500r15:List SOper:=[
 o 71 (.cmp .lss (t 70) (t 69))]
def f500r16:List SOper:=[
 o 72 (.mv (t 70)),
 o 13 (.mv (t 72))]
def f500t17:OTree:=(.one (o 73 (.fa 3 (t 12)))
 (.one (o 75 (.mv (t 0)))
 (.one (o 76 (.mv (t 0)))
 (.one (o 77 (.nilck (t 76)))
 (.one (o 78 (.fa 2 (t 77)))
 (.one (o 81 (.mv (t 13)))
 (.one (o 82 (.ar .add (t 81) (i 1)))
 (.one (o 88 (.mv (t 2)))
 (.one (o 89 (.ar .sub (t 88) (i 1)))
 (.one (o 74 (.ld1 (t 73)))
 (.one (o 79 (.ld1 (t 78)))
 (.one (o 80 (.ldn 3 (t 4)))
 (.one (o 83 (.call 356 [(t 82)]))
 (.chk [o 80 (.ldn 3 (t 4)),o 79 (.ld1 (t 78)),o 74 (.ld1 (t 73))] (.one (o 84 (.call 475 [(t 79),(t 80),(t 83)]))
 (.chk [o 74 (.ld1 (t 73))] (.one (o 85 (.ext (t 84) 0))
 (.chk [o 74 (.ld1 (t 73))] (.one (o 86 (.ext (t 84) 1))
 (.chk [o 74 (.ld1 (t 73))] (.one (o 87 (.call 572 [(t 85),(t 86)]))
 (.chk [o 74 (.ld1 (t 73))] (.one (o 90 (.call 374 [(t 75),(t 87),(t 89)]))
 (.chk [o 74 (.ld1 (t 73))] (.one (o 91 (.bslice [(.int .i64 0),(.int .i64 0),(.string ⟨#[]⟩),(.slice none 0 0)] 1 [(0,4)] [(t 90)]))
 (.chk [o 74 (.ld1 (t 73))] (.one (o 92 (.app 4 56 [(.int .i64 0),(.int .i64 0),(.string ⟨#[]⟩),(.slice none 0 0)] (t 74) (t 91)))
 (.one (o 93 (.fa 3 (t 12)))
 (.one (q (.st 1 (t 93) (t 92)))
 .done)))))))))))))))))))))))))))))
def f500r18:List SOper:=[
 o 94 (.ar .add (t 70) (i 1)),
 o 70 (.mv (t 94))]
def f500l19:SCode:=(.seq (.ops f500r15) (.seq (.cond (t 71) .skip (.exit 2)) (.seq (.block 3 (.seq (.ops f500r16) (.tree [73,74,75,76,77,78,79,80,81,82,83,84,85,86,87,88,89,90,91,92,93] f500t17))) (.ops f500r18))))
def f500r20:List SOper:=[
 o 95 (.ldn 4 (t 12)),
 q (.st 4 (t 6) (t 95))]
def f500:SCode:=(.seq (.ops f500r0) (.seq (.ops f500r1) (.seq (.ops f500r2) (.seq (.seq (.ops f500r3) (.block 0 (.loop f500l10))) (.seq (.ops f500r11) (.seq (.ops f500r12) (.seq (.ops f500r13) (.seq (.seq (.ops f500r14) (.block 2 (.loop f500l19))) (.seq (.ops f500r20) .ret)))))))))
def f500_ent:Ent:=.code 96 f500 [.cn 6 4]
theorem f500_ok (oq:Nat→Value) (F:Nat→Prop) (h0:Heap):EntOK Tryz.prog oq F h0 500 f500_ent:=⟨soundD_of (fl:=false) mixed Tryz.func500 rfl (by kernel_rfl) (by kernel_rfl) (by kernel_rfl),soundF_of (fl:=false) mixed Tryz.func500 rfl (by kernel_rfl) (by kernel_rfl) (by kernel_rfl)⟩
def f535r0:List SOper:=[
 o 4 (.mv e),
 o 5 (.mv (b false))]
def f535t1:OTree:=(.one (o 6 (.mv (t 0)))
 (.one (o 7 (.nilck (t 6)))
 (.one (o 8 (.fa 1 (t 7)))
 (.one (o 9 (.ld1 (t 8)))
 (.one (o 10 (.mv (t 0)))
 (.one (o 11 (.nilck (t 10)))
 (.one (o 12 (.fa 0 (t 11)))
 (.one (o 13 (.ld1 (t 12)))
 (.one (o 14 (.len (t 13)))
 (.one (o 15 (.cmp .lss (t 9) (t 14)))
 (.one (o 16 (.mv (t 15)))
 (.one (g 17 16 (.mv (t 0)))
 (.one (g 18 16 (.nilck (t 17)))
 (.one (g 19 16 (.fa 0 (t 18)))
 (.one (g 20 16 (.ld1 (t 19)))
 (.one (g 21 16 (.mv (t 0)))
 (.one (g 22 16 (.nilck (t 21)))
 (.one (g 23 16 (.fa 1 (t 22)))
 (.one (g 24 16 (.ld1 (t 23)))
 (.one (g 25 16 (.ixs 4 (t 20) (t 24)))
 (.one (g 26 16 (.fa 0 (t 25)))
 (.one (g 27 16 (.ld1 (t 26)))
 (.one (g 28 16 (.cmp .eql (t 27) (i 4)))
 (.one (g 29 16 (.mv (t 28)))
 (.one (n 30 29 (.mv (t 0)))
 (.one (n 31 29 (.nilck (t 30)))
 (.one (n 32 29 (.fa 0 (t 31)))
 (.one (n 33 29 (.ld1 (t 32)))
 (.one (n 34 29 (.mv (t 0)))
 (.one (n 35 29 (.nilck (t 34)))
 (.one (n 36 29 (.fa 1 (t 35)))
 (.one (n 37 29 (.ld1 (t 36)))
 (.one (n 38 29 (.ixs 4 (t 33) (t 37)))
 (.one (n 39 29 (.fa 0 (t 38)))
 (.one (n 40 29 (.ld1 (t 39)))
 (.one (n 41 29 (.cmp .eql (t 40) (i 1)))
 (.one (g 42 16 (.pick (t 29) (b true) (t 41)))
 (.one (o 43 (.pick (t 16) (t 42) (b false)))
 (.one (o 44 (.mv (t 43)))
 (.one (g 46 44 (.mv (t 1)))
 (.one (g 49 44 (.mv (t 0)))
 (.one (g 50 44 (.nilck (t 49)))
 (.one (g 51 44 (.fa 0 (t 50)))
 (.one (g 53 44 (.mv (t 0)))
 (.one (g 54 44 (.nilck (t 53)))
 (.one (g 55 44 (.fa 1 (t 54)))
 (.one (g 52 44 (.ld1 (t 51)))
 (.one (g 56 44 (.ld1 (t 55)))
 (.one (g 57 44 (.ixs 4 (t 52) (t 56)))
 (.chk [g 56 44 (.ld1 (t 55)),g 52 44 (.ld1 (t 51))] (.one (g 58 44 (.fa 1 (t 57)))
 (.chk [g 56 44 (.ld1 (t 55)),g 52 44 (.ld1 (t 51))] (.one (g 59 44 (.ld1 (t 58)))
 (.one (g 45 44 (.call 533 []))
 (.chk [g 59 44 (.ld1 (t 58)),g 56 44 (.ld1 (t 55)),g 52 44 (.ld1 (t 51))] (.one (g 47 44 (.ixs 1 (t 45) (t 46)))
 (.chk [g 59 44 (.ld1 (t 58)),g 56 44 (.ld1 (t 55)),g 52 44 (.ld1 (t 51))] (.one (g 48 44 (.ld1 (t 47)))
 (.chk [g 59 44 (.ld1 (t 58)),g 56 44 (.ld1 (t 55)),g 52 44 (.ld1 (t 51))] (.one (g 60 44 (.look .str (.bool false) false (t 48) (t 59)))
 (.chk [g 59 44 (.ld1 (t 58)),g 56 44 (.ld1 (t 55)),g 52 44 (.ld1 (t 51))] (.one (o 61 (.pick (t 44) (t 60) (b false)))
 (.chk [g 59 44 (.ld1 (t 58)),g 56 44 (.ld1 (t 55)),g 52 44 (.ld1 (t 51))] .done)))))))))))))))))))))))))))))))))))))))))))))))))))))))))))))))
def f535r2:List SOper:=[
 o 62 (.mv (t 0)),
 o 63 (.nilck (t 62)),
 o 64 (.fa 1 (t 63)),
 o 65 (.ld1 (t 64)),
 o 66 (.ar .add (t 65) (i 1)),
 o 67 (.nilck (t 62)),
 o 68 (.fa 1 (t 67)),
 q (.st 1 (t 68) (t 66))]
def f535r3:List SOper:=[
 o 69 (.mv (t 0)),
 o 70 (.nilck (t 69)),
 o 71 (.fa 0 (t 70)),
 o 72 (.ld1 (t 71)),
 o 73 (.mv (t 0)),
 o 74 (.nilck (t 73)),
 o 75 (.fa 1 (t 74)),
 o 76 (.ld1 (t 75)),
 o 77 (.ar .sub (t 76) (i 1)),
 o 78 (.ixs 4 (t 72) (t 77)),
 o 79 (.fa 1 (t 78)),
 o 80 (.ld1 (t 79)),
 o 4 (.mv (t 80)),
 o 5 (.mv (b true))]
def f535r4:List SOper:=[
 o 4 (.mv e),
 o 5 (.mv (b false))]
def f535:SCode:=(.seq (.ops f535r0) (.seq (.seq (.tree [6,7,8,9,10,11,12,13,14,15,16,17,18,19,20,21,22,23,24,25,26,27,28,29,30,31,32,33,34,35,36,37,38,39,40,41,42,43,44,45,46,47,48,49,50,51,52,53,54,55,56,57,58,59,60,61] f535t1) (.cond (t 61) (.seq (.ops f535r2) (.seq (.ops f535r3) .ret)) .skip)) (.seq (.ops f535r4) .ret)))
def f535_ent:Ent:=.code 81 f535 [.t 4,.t 5]
theorem f535_ok (oq:Nat→Value) (F:Nat→Prop) (h0:Heap):EntOK Tryz.prog oq F h0 535 f535_ent:=⟨soundD_of (fl:=false) mixed Tryz.func535 rfl (by kernel_rfl) (by kernel_rfl) (by kernel_rfl),soundF_of (fl:=false) mixed Tryz.func535 rfl (by kernel_rfl) (by kernel_rfl) (by kernel_rfl)⟩
def f566r0:List SOper:=[
 o 2 (.box (t 0)),
 o 3 (.box (t 1)),
 o 4 (.new [(.int .i64 0),(.int .i64 0),(.string ⟨#[]⟩)]),
 o 5 (.new [(.string ⟨#[]⟩)])]
def f566t1:OTree:=(.one (o 13 (.ld1 (t 2)))
 (.one (o 14 (.call 357 [e]))
 (.chk [o 13 (.ld1 (t 2))] (.one (o 15 (.call 372 [(t 13),(t 14)]))
 (.one (o 12 (.mv (t 15)))
 (.one (o 16 (.ext (t 12) 0))
 (.one (o 17 (.ext (t 12) 1))
 (.one (o 6 (.mv (t 16)))
 (.one (o 7 (.mv (t 17)))
 .done)))))))))
def f566r2:List SOper:=[
 o 18 (.mv (t 7)),
 o 19 (.cmp .neq (t 18) e)]
def f566r3:List SOper:=[
 o 20 (.build [(.int .i64 0),(.int .i64 0),(.string ⟨#[]⟩)] [] []),
 o 21 (.mv (t 7)),
 q (.st 3 (t 4) (t 20)),
 q (.st 1 (t 5) (t 21))]
def f566r4:List SOper:=[
 o 22 (.ldn 4 (t 3)),
 o 23 (.call 375 [(t 22)]),
 o 24 (.cmp .neq (t 23) (i 0))]
def f566r5:List SOper:=[
 o 25 (.build [(.int .i64 0),(.int .i64 0),(.string ⟨#[]⟩)] [] []),
 q (.st 3 (t 4) (t 25)),
 q (.st 1 (t 5) (.const (.string ⟨#[114,101,112,108,121]⟩)))]
def f566r6:List SOper:=[
 o 26 (.fn 613 [] [(t 5),(t 4)])]
def f566r7:List SOper:=[
 ]
def f566r8:List SOper:=[
 o 27 (.fn 614 [] [(t 2)]),
 o 8 (.new [.nilFunc]),
 q (.st 1 (t 8) (t 27))]
def f566r9:List SOper:=[
 o 9 (.new [.nilFunc])]
def f566r10:List SOper:=[
 o 28 (.fn 615 [] [(t 2),(t 8)]),
 o 10 (.mv (t 28))]
def f566r11:List SOper:=[
 o 29 (.mkm),
 q (.mup (.int .i64) (t 29) (i 0) (u 618)),
 q (.mup (.int .i64) (t 29) (i 3) (u 619)),
 o 30 (.fn 620 [] [(t 2)]),
 q (.mup (.int .i64) (t 29) (i 4) (t 30)),
 o 31 (.mv (t 10)),
 o 32 (.callv (t 31) [(.const (.string ⟨#[111,107]⟩))]),
 q (.mup (.int .i64) (t 29) (i 1) (t 32)),
 o 33 (.mv (t 10)),
 o 34 (.callv (t 33) [(.const (.string ⟨#[101,114,114]⟩))]),
 q (.mup (.int .i64) (t 29) (i 2) (t 34)),
 o 35 (.fn 621 [] [(t 2),(t 8),(t 9)]),
 q (.mup (.int .i64) (t 29) (i 5) (t 35)),
 o 36 (.mv (t 29)),
 o 11 (.new [(.map none)]),
 q (.st 1 (t 11) (t 36))]
def f566r12:List SOper:=[
 o 37 (.fn 622 [] [(t 11)]),
 q (.st 1 (t 9) (t 37))]
def f566r13:List SOper:=[
 o 38 (.ld1 (t 9)),
 o 39 (.ldn 4 (t 3)),
 o 40 (.callv (t 38) [(t 39)]),
 q (.st 3 (t 4) (t 40)),
 q (.st 1 (t 5) e)]
def f566:SCode:=(.seq (.ops f566r0) (.seq (.seq (.tree [13,14,15,12,16,17,6,7] f566t1) (.seq (.ops f566r2) (.cond (t 19) (.seq (.ops f566r3) .ret) .skip))) (.seq (.seq (.ops f566r4) (.cond (t 24) (.seq (.ops f566r5) .ret) .skip)) (.seq (.dfr f566r6 none (t 26) []) (.seq (.dfr f566r7 none (u 371) [(t 5)]) (.seq (.ops f566r8) (.seq (.ops f566r9) (.seq (.ops f566r10) (.seq (.ops f566r11) (.seq (.ops f566r12) (.seq (.ops f566r13) .ret)))))))))))
def f566_ent:Ent:=.code 41 f566 [.cn 4 3,.c1 5]
theorem f566_ok (oq:Nat→Value) (F:Nat→Prop) (h0:Heap):EntOK Tryz.prog oq F h0 566 f566_ent:=⟨soundD_of (fl:=false) mixed Tryz.func566 rfl (by kernel_rfl) (by kernel_rfl) (by kernel_rfl),soundF_of (fl:=false) mixed Tryz.func566 rfl (by kernel_rfl) (by kernel_rfl) (by kernel_rfl)⟩
def f576r0:List SOper:=[
 o 6 (.box (t 0))]
def f576r1:List SOper:=[
 o 11 (.fa 0 (t 6)),
 o 12 (.ld1 (t 11)),
 o 13 (.build [(.int .i64 0),(.int .i64 0),(.string ⟨#[]⟩),(.slice none 0 0)] [(0,1)] [(t 12)]),
 o 8 (.new [(.int .i64 0),(.int .i64 0),(.string ⟨#[]⟩),(.slice none 0 0)]),
 q (.st 4 (t 8) (t 13))]
def f576r2:List SOper:=[
 o 14 (.ld1 (t 2)),
 o 15 (.fa 2 (t 6)),
 o 16 (.ld1 (t 15)),
 o 17 (.lens (t 16)),
 o 18 (.mn (t 17) (i 1048577)),
 o 19 (.ar .sub (t 14) (t 18)),
 q (.st 1 (t 2) (t 19))]
def f576r3:List SOper:=[
 o 20 (.ld1 (t 3)),
 o 21 (.fa 3 (t 6)),
 o 22 (.ld1 (t 21)),
 o 23 (.len (t 22)),
 o 24 (.mn (t 23) (i 65537)),
 o 25 (.ar .sub (t 20) (t 24)),
 q (.st 1 (t 3) (t 25))]
def f576r4:List SOper:=[
 o 26 (.ld1 (t 2)),
 o 27 (.cmp .geq (t 26) (i 0)),
 o 28 (.mv (t 27)),
 g 29 28 (.ld1 (t 3)),
 g 30 28 (.cmp .geq (t 29) (i 0)),
 o 31 (.pick (t 28) (t 30) (b false)),
 o 32 (.call 577 [(t 31),(i 2)])]
def f576r5:List SOper:=[
 o 33 (.fa 0 (t 6)),
 o 34 (.ld1 (t 33))]
def f576r6:List SOper:=[
 o 37 (.cmp .eql (t 34) (i 0)),
 o 36 (.mv (t 37))]
def f576r7:List SOper:=[
 o 38 (.call 578 [(t 4),(.const (.string ⟨#[36,45,49,13,10]⟩))])]
def f576r8:List SOper:=[
 o 40 (.cmp .eql (t 34) (i 1)),
 o 39 (.mv (t 40))]
def f576r9:List SOper:=[
 o 41 (.cmp .eql (t 34) (i 2)),
 o 39 (.mv (t 41))]
def f576r10:List SOper:=[
 o 42 (.fa 2 (t 6)),
 o 43 (.ld1 (t 42)),
 o 44 (.call 579 [(t 43),(.const (.string ⟨#[13]⟩))]),
 o 45 (.un .not (t 44)),
 o 46 (.mv (t 45)),
 g 47 46 (.fa 2 (t 6)),
 g 48 46 (.ld1 (t 47)),
 g 49 46 (.call 579 [(t 48),(.const (.string ⟨#[10]⟩))]),
 g 50 46 (.un .not (t 49)),
 o 51 (.pick (t 46) (t 50) (b false)),
 o 52 (.call 577 [(t 51),(i 2)])]
def f576r11:List SOper:=[
 o 53 (.fa 0 (t 6)),
 o 54 (.ld1 (t 53)),
 o 55 (.ar .sub (t 54) (i 1)),
 o 56 (.sls (.const (.string ⟨#[43,45]⟩)) (some (t 55)) none),
 o 57 (.sls (t 56) none (some (i 1))),
 o 58 (.fa 2 (t 6)),
 o 59 (.ld1 (t 58)),
 o 60 (.cat (t 57) (t 59)),
 o 61 (.cat (t 60) (.const (.string ⟨#[13,10]⟩))),
 o 62 (.call 578 [(t 4),(t 61)])]
def f576r12:List SOper:=[
 o 63 (.fa 2 (t 6)),
 o 64 (.ld1 (t 63)),
 o 65 (.fa 2 (t 8)),
 q (.st 1 (t 65) (t 64))]
def f576r13:List SOper:=[
 o 67 (.cmp .eql (t 34) (i 3)),
 o 66 (.mv (t 67))]
def f576r14:List SOper:=[
 o 68 (.fa 1 (t 6)),
 o 69 (.ld1 (t 68)),
 o 70 (.call 60 [(t 69),(i 10)]),
 o 71 (.cat (.const (.string ⟨#[58]⟩)) (t 70)),
 o 72 (.cat (t 71) (.const (.string ⟨#[13,10]⟩))),
 o 73 (.call 578 [(t 4),(t 72)])]
def f576r15:List SOper:=[
 o 74 (.fa 1 (t 6)),
 o 75 (.ld1 (t 74)),
 o 76 (.fa 1 (t 8)),
 q (.st 1 (t 76) (t 75))]
def f576r16:List SOper:=[
 o 78 (.cmp .eql (t 34) (i 4)),
 o 77 (.mv (t 78))]
def f576t17:OTree:=(.one (o 79 (.fa 2 (t 6)))
 (.one (o 80 (.ld1 (t 79)))
 (.one (o 81 (.lens (t 80)))
 (.one (o 85 (.fa 2 (t 6)))
 (.one (o 86 (.ld1 (t 85)))
 (.one (o 82 (.call 59 [(t 81)]))
 (.chk [o 86 (.ld1 (t 85))] (.one (o 83 (.cat (.const (.string ⟨#[36]⟩)) (t 82)))
 (.chk [o 86 (.ld1 (t 85))] (.one (o 84 (.cat (t 83) (.const (.string ⟨#[13,10]⟩))))
 (.chk [o 86 (.ld1 (t 85))] (.one (o 87 (.cat (t 84) (t 86)))
 (.chk [o 86 (.ld1 (t 85))] (.one (o 88 (.cat (t 87) (.const (.string ⟨#[13,10]⟩))))
 (.chk [o 86 (.ld1 (t 85))] (.one (o 89 (.call 578 [(t 4),(t 88)]))
 .done))))))))))))))))
def f576r18:List SOper:=[
 o 90 (.fa 2 (t 6)),
 o 91 (.ld1 (t 90)),
 o 92 (.fa 2 (t 8)),
 q (.st 1 (t 92) (t 91))]
def f576r19:List SOper:=[
 o 94 (.cmp .eql (t 34) (i 5)),
 o 93 (.mv (t 94))]
def f576r20:List SOper:=[
 o 95 (.mv (t 1)),
 o 96 (.cmp .gtr (t 95) (i 0)),
 o 97 (.call 577 [(t 96),(i 2)])]
def f576r21:List SOper:=[
 o 98 (.fa 3 (t 6)),
 o 99 (.ld1 (t 98)),
 o 100 (.len (t 99)),
 o 101 (.call 59 [(t 100)]),
 o 102 (.cat (.const (.string ⟨#[42]⟩)) (t 101)),
 o 103 (.cat (t 102) (.const (.string ⟨#[13,10]⟩))),
 o 104 (.call 578 [(t 4),(t 103)])]
def f576r22:List SOper:=[
 o 105 (.fa 3 (t 6)),
 o 106 (.ld1 (t 105)),
 o 107 (.len (t 106)),
 o 108 (.mv (i 0))]
def f576r23:List SOper:=[
 o 109 (.cmp .lss (t 108) (t 107))]
def f576r24:List SOper:=[
 o 110 (.ixs 4 (t 106) (t 108)),
 o 111 (.ldn 4 (t 110)),
 o 10 (.new [(.int .i64 0),(.int .i64 0),(.string ⟨#[]⟩),(.slice none 0 0)]),
 q (.st 4 (t 10) (t 111))]
def f576r25:List SOper:=[
 o 112 (.ld1 (t 5)),
 o 113 (.ldn 4 (t 10)),
 o 114 (.mv (t 1)),
 o 115 (.ar .sub (t 114) (i 1)),
 o 116 (.callv (t 112) [(t 113),(t 115)])]
def f576r26:List SOper:=[
 o 117 (.ar .add (t 108) (i 1)),
 o 108 (.mv (t 117))]
def f576l27:SCode:=(.seq (.ops f576r23) (.seq (.cond (t 109) .skip (.exit 1)) (.seq (.block 2 (.seq (.ops f576r24) (.ops f576r25))) (.ops f576r26))))
def f576r28:List SOper:=[
 o 118 (.fa 3 (t 6)),
 o 119 (.ld1 (t 118)),
 o 120 (.fa 3 (t 8)),
 q (.st 1 (t 120) (t 119))]
def f576r29:List SOper:=[
 o 35 (.call 577 [(b false),(i 2)])]
def f576r30:List SOper:=[
 o 121 (.fa 1 (t 8)),
 o 122 (.ld1 (t 121)),
 o 123 (.fa 1 (t 6)),
 o 124 (.ld1 (t 123)),
 o 125 (.cmp .eql (t 122) (t 124)),
 o 126 (.mv (t 125)),
 g 127 126 (.fa 2 (t 8)),
 g 128 126 (.ld1 (t 127)),
 g 129 126 (.fa 2 (t 6)),
 g 130 126 (.ld1 (t 129)),
 g 131 126 (.cmp .eql (t 128) (t 130)),
 o 132 (.pick (t 126) (t 131) (b false)),
 o 133 (.mv (t 132)),
 g 134 133 (.fa 3 (t 8)),
 g 135 133 (.ld1 (t 134)),
 g 136 133 (.len (t 135)),
 g 137 133 (.fa 3 (t 6)),
 g 138 133 (.ld1 (t 137)),
 g 139 133 (.len (t 138)),
 g 140 133 (.cmp .eql (t 136) (t 139)),
 o 141 (.pick (t 133) (t 140) (b false)),
 o 142 (.call 577 [(t 141),(i 2)])]
def f576:SCode:=(.seq (.ops f576r0) (.seq (.ops f576r1) (.seq (.ops f576r2) (.seq (.ops f576r3) (.seq (.ops f576r4) (.seq (.seq (.ops f576r5) (.block 0 (.seq (.ops f576r6) (.cond (t 36) (.ops f576r7) (.seq (.seq (.ops f576r8) (.cond (t 39) .skip (.ops f576r9))) (.cond (t 39) (.seq (.ops f576r10) (.seq (.ops f576r11) (.ops f576r12))) (.seq (.ops f576r13) (.cond (t 66) (.seq (.ops f576r14) (.ops f576r15)) (.seq (.ops f576r16) (.cond (t 77) (.seq (.tree [79,80,81,82,83,84,85,86,87,88,89] f576t17) (.ops f576r18)) (.seq (.ops f576r19) (.cond (t 93) (.seq (.ops f576r20) (.seq (.ops f576r21) (.seq (.seq (.ops f576r22) (.block 1 (.loop f576l27))) (.ops f576r28)))) (.ops f576r29))))))))))))) (.ops f576r30)))))))
def f576_ent:Ent:=.code 143 f576 []
theorem f576_ok (oq:Nat→Value) (F:Nat→Prop) (h0:Heap):EntOK Tryz.prog oq F h0 576 f576_ent:=⟨soundD_of (fl:=false) mixed Tryz.func576 rfl (by kernel_rfl) (by kernel_rfl) (by kernel_rfl),soundF_of (fl:=false) mixed Tryz.func576 rfl (by kernel_rfl) (by kernel_rfl) (by kernel_rfl)⟩
def f616r0:List SOper:=[
 o 4 (.box (t 0)),
 o 5 (.new [(.int .i64 0),(.int .i64 0),(.string ⟨#[]⟩)])]
def f616r1:List SOper:=[
 o 7 (.ld1 (t 1)),
 o 8 (.call 354 [(t 7)]),
 o 9 (.ext (t 8) 0),
 o 10 (.ext (t 8) 1),
 o 11 (.call 572 [(t 9),(t 10)]),
 o 6 (.new [(.int .i64 0),(.int .i64 0),(.string ⟨#[]⟩)]),
 q (.st 3 (t 6) (t 11))]
def f616t2:OTree:=(.one (o 14 (.ld1 (t 3)))
 (.one (o 17 (.fa 2 (t 4)))
 (.one (o 12 (.ld1 (t 2)))
 (.one (o 13 (.ldn 3 (t 6)))
 (.one (o 16 (.ld1 (t 1)))
 (.one (o 18 (.ld1 (t 17)))
 (.one (o 15 (.call 357 [(t 14)]))
 (.chk [o 18 (.ld1 (t 17)),o 16 (.ld1 (t 1)),o 13 (.ldn 3 (t 6)),o 12 (.ld1 (t 2))] (.one (o 19 (.call 617 [(t 16),(t 18)]))
 (.chk [o 13 (.ldn 3 (t 6)),o 12 (.ld1 (t 2))] (.one (o 20 (.ext (t 19) 0))
 (.chk [o 13 (.ldn 3 (t 6)),o 12 (.ld1 (t 2))] (.one (o 21 (.ext (t 19) 1))
 (.chk [o 13 (.ldn 3 (t 6)),o 12 (.ld1 (t 2))] (.one (o 22 (.call 572 [(t 20),(t 21)]))
 (.chk [o 13 (.ldn 3 (t 6)),o 12 (.ld1 (t 2))] (.one (o 23 (.callv (t 12) [(t 13),(t 15),(t 22)]))
 .done)))))))))))))))))
def f616r3:List SOper:=[
 o 24 (.ldn 3 (t 6)),
 q (.st 3 (t 5) (t 24))]
def f616:SCode:=(.seq (.ops f616r0) (.seq (.ops f616r1) (.seq (.tree [12,13,14,15,16,17,18,19,20,21,22,23] f616t2) (.seq (.ops f616r3) .ret))))
def f616_ent:Ent:=.code 25 f616 [.cn 5 3]
theorem f616_ok (oq:Nat→Value) (F:Nat→Prop) (h0:Heap):EntOK Tryz.prog oq F h0 616 f616_ent:=⟨soundD_of (fl:=false) mixed Tryz.func616 rfl (by kernel_rfl) (by kernel_rfl) (by kernel_rfl),soundF_of (fl:=false) mixed Tryz.func616 rfl (by kernel_rfl) (by kernel_rfl) (by kernel_rfl)⟩
def f666r0:List SOper:=[
 o 4 (.mv (i 0))]
def f666r1:List SOper:=[
 o 8 (.mv (t 0)),
 o 9 (.nilck (t 8)),
 o 10 (.fa 0 (t 9)),
 o 11 (.ld1 (t 10)),
 o 12 (.mv (t 1)),
 o 13 (.look (.int .i64) (.int .i64 0) true (t 11) (t 12)),
 o 7 (.mv (t 13)),
 o 14 (.ext (t 7) 0),
 o 15 (.ext (t 7) 1),
 o 5 (.mv (t 14)),
 o 6 (.mv (t 15))]
def f666r2:List SOper:=[
 o 16 (.mv (t 6)),
 o 17 (.un .not (t 16))]
def f666r3:List SOper:=[
 o 18 (.mv (t 0)),
 o 19 (.nilck (t 18)),
 o 20 (.fa 2 (t 19)),
 o 21 (.ld1 (t 20)),
 o 22 (.nilck (t 21)),
 o 23 (.fa 1 (t 22)),
 o 24 (.ld1 (t 23)),
 o 25 (.len (t 24)),
 o 5 (.mv (t 25))]
def f666r4:List SOper:=[
 o 26 (.mv (t 0)),
 o 27 (.nilck (t 26)),
 o 28 (.fa 0 (t 27)),
 o 29 (.ld1 (t 28)),
 o 30 (.mv (t 1)),
 o 31 (.mv (t 5)),
 q (.mup (.int .i64) (t 29) (t 30) (t 31))]
def f666t5:OTree:=(.one (o 32 (.mv (t 0)))
 (.one (o 33 (.nilck (t 32)))
 (.one (o 34 (.fa 2 (t 33)))
 (.one (o 36 (.mv (t 0)))
 (.one (o 37 (.nilck (t 36)))
 (.one (o 38 (.fa 2 (t 37)))
 (.one (o 39 (.ld1 (t 38)))
 (.one (o 40 (.nilck (t 39)))
 (.one (o 41 (.fa 1 (t 40)))
 (.one (o 42 (.ld1 (t 41)))
 (.one (o 43 (.mv (t 1)))
 (.one (o 35 (.ld1 (t 34)))
 (.one (o 44 (.bslice [(.int .i64 0)] 1 [(0,1)] [(t 43)]))
 (.chk [o 35 (.ld1 (t 34))] (.one (o 45 (.app 1 8 [(.int .i64 0)] (t 42) (t 44)))
 (.chk [o 35 (.ld1 (t 34))] (.one (o 46 (.nilck (t 35)))
 (.chk [o 35 (.ld1 (t 34))] (.one (o 47 (.fa 1 (t 46)))
 (.chk [o 35 (.ld1 (t 34))] (.one (q (.st 1 (t 47) (t 45)))
 .done)))))))))))))))))))))
def f666r6:List SOper:=[
 o 48 (.mv (t 5)),
 o 4 (.mv (t 48))]
def f666:SCode:=(.seq (.ops f666r0) (.seq (.ops f666r1) (.seq (.seq (.ops f666r2) (.cond (t 17) (.seq (.ops f666r3) (.seq (.ops f666r4) (.tree [32,33,34,35,36,37,38,39,40,41,42,43,44,45,46,47] f666t5))) .skip)) (.seq (.ops f666r6) .ret))))
def f666_ent:Ent:=.code 49 f666 [.t 4]
theorem f666_ok (oq:Nat→Value) (F:Nat→Prop) (h0:Heap):EntOK Tryz.prog oq F h0 666 f666_ent:=⟨soundD_of (fl:=false) mixed Tryz.func666 rfl (by kernel_rfl) (by kernel_rfl) (by kernel_rfl),soundF_of (fl:=false) mixed Tryz.func666 rfl (by kernel_rfl) (by kernel_rfl) (by kernel_rfl)⟩
def f683t0:OTree:=(.one (o 4 (.fa 0 (t 0)))
 (.one (o 5 (.ld1 (t 4)))
 (.one (o 7 (.ld1 (t 1)))
 (.one (o 8 (.ld1 (t 2)))
 (.one (o 9 (.ldn 6 (t 0)))
 (.one (o 3 (.call 684 []))
 (.chk [o 9 (.ldn 6 (t 0)),o 8 (.ld1 (t 2)),o 7 (.ld1 (t 1)),o 5 (.ld1 (t 4))] (.one (o 6 (.look (.int .i64) .nilFunc false (t 3) (t 5)))
 (.chk [o 9 (.ldn 6 (t 0)),o 8 (.ld1 (t 2)),o 7 (.ld1 (t 1)),o 5 (.ld1 (t 4))] (.one (o 10 (.callv (t 6) [(t 7),(t 8),(t 9)]))
 .done))))))))))
def f683:SCode:=(.tree [3,4,5,6,7,8,9,10] f683t0)
def f683_ent:Ent:=.code 11 f683 []
theorem f683_ok (oq:Nat→Value) (F:Nat→Prop) (h0:Heap):EntOK Tryz.prog oq F h0 683 f683_ent:=⟨soundD_of (fl:=false) mixed Tryz.func683 rfl (by kernel_rfl) (by kernel_rfl) (by kernel_rfl),soundF_of (fl:=false) mixed Tryz.func683 rfl (by kernel_rfl) (by kernel_rfl) (by kernel_rfl)⟩
def f708r0:List SOper:=[
 o 5 (.box (t 2))]
def f708r1:List SOper:=[
 o 9 (.mv (t 0)),
 o 10 (.fa 5 (t 5)),
 o 11 (.ld1 (t 10)),
 o 12 (.len (t 11)),
 o 13 (.mx (i 1) (t 12)),
 o 14 (.call 660 [(t 9),(t 13)]),
 o 6 (.mv (t 14))]
def f708r2:List SOper:=[
 o 15 (.fa 5 (t 5)),
 o 16 (.ld1 (t 15)),
 o 17 (.len (t 16)),
 o 18 (.mv (i 0))]
def f708r3:List SOper:=[
 o 19 (.cmp .lss (t 18) (t 17))]
def f708r4:List SOper:=[
 o 20 (.mv (t 18)),
 o 21 (.ixs 6 (t 16) (t 18)),
 o 22 (.ldn 6 (t 21)),
 o 8 (.new [(.int .i64 0),(.string ⟨#[]⟩),(.string ⟨#[]⟩),(.int .i64 0),(.slice none 0 0),(.slice none 0 0)]),
 o 7 (.mv (t 20)),
 q (.st 6 (t 8) (t 22))]
def f708r5:List SOper:=[
 o 23 (.mv (t 0)),
 o 24 (.mv (t 6)),
 o 25 (.mv (t 7)),
 o 26 (.ar .add (t 24) (t 25)),
 o 27 (.ldn 6 (t 8)),
 o 28 (.call 661 [(t 23),(t 26),(t 27)])]
def f708r6:List SOper:=[
 o 29 (.ar .add (t 18) (i 1)),
 o 18 (.mv (t 29))]
def f708l7:SCode:=(.seq (.ops f708r3) (.seq (.cond (t 19) .skip (.exit 0)) (.seq (.block 1 (.seq (.ops f708r4) (.ops f708r5))) (.ops f708r6))))
def f708r8:List SOper:=[
 o 30 (.fa 3 (t 5)),
 o 31 (.ld1 (t 30)),
 o 32 (.cmp .geq (t 31) (i 0))]
def f708r9:List SOper:=[
 o 33 (.mv (t 0)),
 o 34 (.mv (t 6)),
 o 35 (.fa 3 (t 5)),
 o 36 (.ld1 (t 35)),
 o 37 (.call 351 [(t 33),(i 32),(t 34),(t 36),(i 0)])]
def f708t10:OTree:=(.one (o 38 (.mv (t 0)))
 (.one (o 39 (.mv (t 6)))
 (.one (o 40 (.mv (t 0)))
 (.one (o 41 (.nilck (t 40)))
 (.one (o 42 (.fa 0 (t 41)))
 (.one (o 43 (.ld1 (t 42)))
 (.one (o 44 (.fa 1 (t 5)))
 (.one (o 45 (.ld1 (t 44)))
 (.one (o 47 (.fa 5 (t 5)))
 (.one (o 48 (.ld1 (t 47)))
 (.one (o 49 (.len (t 48)))
 (.chk [o 48 (.ld1 (t 47))] (.one (o 46 (.call 720 [(t 43),(t 45)]))
 (.chk [o 48 (.ld1 (t 47))] (.one (o 50 (.call 351 [(t 38),(i 33),(t 39),(t 46),(t 49)]))
 .done)))))))))))))))
def f708r11:List SOper:=[
 o 51 (.mv (t 0)),
 o 52 (.mv (t 1)),
 o 53 (.mv (t 6)),
 o 54 (.call 351 [(t 51),(i 6),(t 52),(t 53),(i 0)])]
def f708:SCode:=(.seq (.ops f708r0) (.seq (.ops f708r1) (.seq (.seq (.ops f708r2) (.block 0 (.loop f708l7))) (.seq (.seq (.ops f708r8) (.cond (t 32) (.ops f708r9) (.tree [38,39,40,41,42,43,44,45,46,47,48,49,50] f708t10))) (.ops f708r11)))))
def f708_ent:Ent:=.code 55 f708 []
theorem f708_ok (oq:Nat→Value) (F:Nat→Prop) (h0:Heap):EntOK Tryz.prog oq F h0 708 f708_ent:=⟨soundD_of (fl:=false) mixed Tryz.func708 rfl (by kernel_rfl) (by kernel_rfl) (by kernel_rfl),soundF_of (fl:=false) mixed Tryz.func708 rfl (by kernel_rfl) (by kernel_rfl) (by kernel_rfl)⟩
def f720r0:List SOper:=[
 o 4 (.mv (i 0))]
def f720r1:List SOper:=[
 o 8 (.mv (t 0)),
 o 9 (.nilck (t 8)),
 o 10 (.fa 1 (t 9)),
 o 11 (.ld1 (t 10)),
 o 12 (.mv (t 1)),
 o 13 (.look .str (.int .i64 0) true (t 11) (t 12)),
 o 7 (.mv (t 13)),
 o 14 (.ext (t 7) 0),
 o 15 (.ext (t 7) 1),
 o 5 (.mv (t 14)),
 o 6 (.mv (t 15))]
def f720r2:List SOper:=[
 o 16 (.mv (t 6)),
 o 17 (.un .not (t 16))]
def f720r3:List SOper:=[
 o 18 (.mv (t 0)),
 o 19 (.nilck (t 18)),
 o 20 (.fa 2 (t 19)),
 o 21 (.ld1 (t 20)),
 o 22 (.nilck (t 21)),
 o 23 (.fa 2 (t 22)),
 o 24 (.ld1 (t 23)),
 o 25 (.len (t 24)),
 o 5 (.mv (t 25))]
def f720r4:List SOper:=[
 o 26 (.mv (t 0)),
 o 27 (.nilck (t 26)),
 o 28 (.fa 1 (t 27)),
 o 29 (.ld1 (t 28)),
 o 30 (.mv (t 1)),
 o 31 (.mv (t 5)),
 q (.mup .str (t 29) (t 30) (t 31))]
def f720t5:OTree:=(.one (o 32 (.mv (t 0)))
 (.one (o 33 (.nilck (t 32)))
 (.one (o 34 (.fa 2 (t 33)))
 (.one (o 36 (.mv (t 0)))
 (.one (o 37 (.nilck (t 36)))
 (.one (o 38 (.fa 2 (t 37)))
 (.one (o 39 (.ld1 (t 38)))
 (.one (o 40 (.nilck (t 39)))
 (.one (o 41 (.fa 2 (t 40)))
 (.one (o 42 (.ld1 (t 41)))
 (.one (o 43 (.mv (t 1)))
 (.one (o 35 (.ld1 (t 34)))
 (.one (o 44 (.bslice [(.string ⟨#[]⟩)] 1 [(0,1)] [(t 43)]))
 (.chk [o 35 (.ld1 (t 34))] (.one (o 45 (.app 1 16 [(.string ⟨#[]⟩)] (t 42) (t 44)))
 (.chk [o 35 (.ld1 (t 34))] (.one (o 46 (.nilck (t 35)))
 (.chk [o 35 (.ld1 (t 34))] (.one (o 47 (.fa 2 (t 46)))
 (.chk [o 35 (.ld1 (t 34))] (.one (q (.st 1 (t 47) (t 45)))
 .done)))))))))))))))))))))
def f720r6:List SOper:=[
 o 48 (.mv (t 5)),
 o 4 (.mv (t 48))]
def f720:SCode:=(.seq (.ops f720r0) (.seq (.ops f720r1) (.seq (.seq (.ops f720r2) (.cond (t 17) (.seq (.ops f720r3) (.seq (.ops f720r4) (.tree [32,33,34,35,36,37,38,39,40,41,42,43,44,45,46,47] f720t5))) .skip)) (.seq (.ops f720r6) .ret))))
def f720_ent:Ent:=.code 49 f720 [.t 4]
theorem f720_ok (oq:Nat→Value) (F:Nat→Prop) (h0:Heap):EntOK Tryz.prog oq F h0 720 f720_ent:=⟨soundD_of (fl:=false) mixed Tryz.func720 rfl (by kernel_rfl) (by kernel_rfl) (by kernel_rfl),soundF_of (fl:=false) mixed Tryz.func720 rfl (by kernel_rfl) (by kernel_rfl) (by kernel_rfl)⟩
end Go.Proofs.YtikcimlokhmleaaGreatDoor.Q
set_option maxRecDepth 100000
namespace Go.Proofs.YtikcimlokhmleaaGreatDoor.Q
open Go Go.Sx
theorem x102_ok (oq:Nat→Value) (F:Nat→Prop) (h0:Heap):EntOK Tryz.prog oq F h0 102 (.ext xClone):=xClone_ok Tryz.func102 (by kernel_rfl) (by kernel_rfl) (by kernel_rfl) (by kernel_rfl)
theorem x649_ok (oq:Nat→Value) (F:Nat→Prop) (h0:Heap):EntOK Tryz.prog oq F h0 649 (.ext xIdx):=xIdx_ok Tryz.func649 (by kernel_rfl) (by kernel_rfl) (by kernel_rfl) (by kernel_rfl)
theorem x680_ok (oq:Nat→Value) (F:Nat→Prop) (h0:Heap):EntOK Tryz.prog oq F h0 680 (.ext xSame):=xSame_ok Tryz.func680 (by kernel_rfl) (by kernel_rfl) (by kernel_rfl) (by kernel_rfl)
noncomputable def tb:Tbl:=(.node (.node (.node (.node (.node (.node (.node (.node (.node .nil 5 d5.e .nil) 6 f6_ent .nil) 7 f7_ent (.node .nil 8 f8_ent .nil)) 9 d9.e (.node (.node .nil 10 d10.e .nil) 11 d11.e (.node .nil 12 f12_ent .nil))) 13 f13_ent (.node (.node (.node .nil 14 d14.e .nil) 15 d15.e (.node .nil 16 d16.e .nil)) 17 d17.e (.node (.node .nil 19 d19.e .nil) 20 d20.e (.node .nil 21 d21.e .nil)))) 22 d22.e (.node (.node (.node (.node (.node .nil 23 d23.e .nil) 24 d24.e .nil) 25 d25.e (.node .nil 26 d26.e .nil)) 27 f27_ent (.node (.node .nil 28 d28.e .nil) 29 d29.e (.node .nil 30 f30_ent .nil))) 31 d31.e (.node (.node (.node .nil 32 f32_ent .nil) 37 d37.e (.node .nil 42 d42.e .nil)) 47 d47.e (.node (.node .nil 52 d52.e .nil) 53 d53.e (.node .nil 58 d58.e .nil))))) 59 d59.e (.node (.node (.node (.node (.node (.node .nil 60 d60.e .nil) 61 d61.e .nil) 62 d62.e (.node .nil 63 d63.e .nil)) 64 d64.e (.node (.node .nil 65 d65.e .nil) 66 d66.e (.node .nil 73 d73.e .nil))) 74 d74.e (.node (.node (.node .nil 75 d75.e .nil) 76 f76_ent (.node .nil 88 d88.e .nil)) 89 f89_ent (.node (.node .nil 91 d91.e .nil) 98 d98.e (.node .nil 99 d99.e .nil)))) 100 d100.e (.node (.node (.node (.node (.node .nil 101 d101.e .nil) 102 (.ext xClone) .nil) 104 d104.e (.node .nil 119 d119.e .nil)) 120 d120.e (.node (.node .nil 124 d124.e .nil) 125 d125.e (.node .nil 126 d126.e .nil))) 127 d127.e (.node (.node (.node .nil 128 d128.e .nil) 129 d129.e (.node .nil 136 d136.e .nil)) 137 f137_ent (.node (.node .nil 143 d143.e .nil) 144 f144_ent (.node .nil 146 d146.e .nil)))))) 165 d165.e (.node (.node (.node (.node (.node (.node (.node .nil 170 d170.e .nil) 171 d171.e .nil) 172 d172.e (.node .nil 189 f189_ent .nil)) 190 f190_ent (.node (.node .nil 191 f191_ent .nil) 192 d192.e (.node .nil 193 d193.e .nil))) 194 d194.e (.node (.node (.node .nil 195 f195_ent .nil) 196 d196.e (.node .nil 199 d199.e .nil)) 200 d200.e (.node (.node .nil 201 d201.e .nil) 206 d206.e (.node .nil 220 d220.e .nil)))) 227 d227.e (.node (.node (.node (.node (.node .nil 245 f245_ent .nil) 246 f246_ent .nil) 247 d247.e (.node .nil 248 d248.e .nil)) 249 d249.e (.node (.node .nil 250 f250_ent .nil) 251 f251_ent (.node .nil 252 d252.e .nil))) 253 d253.e (.node (.node (.node .nil 254 d254.e .nil) 255 d255.e (.node .nil 256 d256.e .nil)) 257 f257_ent (.node (.node .nil 258 d258.e .nil) 259 d259.e (.node .nil 260 d260.e .nil))))) 261 f261_ent (.node (.node (.node (.node (.node (.node .nil 262 d262.e .nil) 263 f263_ent .nil) 264 d264.e (.node .nil 265 d265.e .nil)) 266 d266.e (.node (.node .nil 267 f267_ent .nil) 268 d268.e (.node .nil 272 d272.e .nil))) 274 d274.e (.node (.node (.node .nil 321 d321.e .nil) 339 d339.e (.node .nil 340 d340.e .nil)) 341 f341_ent (.node (.node .nil 342 d342.e .nil) 344 d344.e (.node .nil 345 f345_ent .nil)))) 346 f346_ent (.node (.node (.node (.node (.node .nil 347 f347_ent .nil) 348 d348.e .nil) 349 d349.e (.node .nil 350 d350.e .nil)) 351 d351.e (.node (.node .nil 352 d352.e .nil) 353 d353.e (.node .nil 354 d354.e .nil))) 355 d355.e (.node (.node (.node .nil 356 d356.e .nil) 357 d357.e (.node .nil 358 f358_ent .nil)) 359 f359_ent (.node (.node .nil 365 f365_ent .nil) 366 d366.e (.node .nil 368 d368.e .nil))))))) 369 d369.e (.node (.node (.node (.node (.node (.node (.node (.node .nil 370 d370.e .nil) 371 d371.e .nil) 372 d372.e (.node .nil 373 d373.e .nil)) 374 d374.e (.node (.node .nil 375 d375.e .nil) 376 d376.e (.node .nil 378 f378_ent .nil))) 379 d379.e (.node (.node (.node .nil 380 d380.e .nil) 381 d381.e (.node .nil 382 f382_ent .nil)) 383 d383.e (.node (.node .nil 387 d387.e .nil) 435 d435.e (.node .nil 436 d436.e .nil)))) 437 f437_ent (.node (.node (.node (.node (.node .nil 441 d441.e .nil) 442 d442.e .nil) 444 f444_ent (.node .nil 445 d445.e .nil)) 446 d446.e (.node (.node .nil 447 d447.e .nil) 448 f448_ent (.node .nil 449 d449.e .nil))) 451 d451.e (.node (.node (.node .nil 453 f453_ent .nil) 454 d454.e (.node .nil 455 d455.e .nil)) 459 d459.e (.node (.node .nil 460 d460.e .nil) 461 d461.e (.node .nil 462 d462.e .nil))))) 463 d463.e (.node (.node (.node (.node (.node (.node .nil 464 f464_ent .nil) 465 d465.e .nil) 466 d466.e (.node .nil 468 d468.e .nil)) 469 d469.e (.node (.node .nil 471 d471.e .nil) 472 d472.e (.node .nil 473 d473.e .nil))) 474 d474.e (.node (.node (.node .nil 475 d475.e .nil) 476 f476_ent (.node .nil 477 d477.e .nil)) 478 d478.e (.node (.node .nil 479 d479.e .nil) 481 d481.e (.node .nil 482 f482_ent .nil)))) 487 d487.e (.node (.node (.node (.node (.node .nil 488 f488_ent .nil) 489 d489.e .nil) 491 f491_ent (.node .nil 492 f492_ent .nil)) 498 d498.e (.node (.node .nil 499 d499.e .nil) 500 f500_ent (.node .nil 501 d501.e .nil))) 502 d502.e (.node (.node (.node .nil 521 d521.e .nil) 523 d523.e (.node .nil 524 d524.e .nil)) 525 d525.e (.node (.node .nil 526 d526.e .nil) 527 d527.e (.node .nil 528 d528.e .nil)))))) 531 d531.e (.node (.node (.node (.node (.node (.node (.node .nil 533 d533.e .nil) 534 d534.e .nil) 535 f535_ent (.node .nil 537 d537.e .nil)) 538 d538.e (.node (.node .nil 539 d539.e .nil) 540 d540.e (.node .nil 541 d541.e .nil))) 548 d548.e (.node (.node (.node .nil 552 d552.e .nil) 555 d555.e (.node .nil 560 d560.e .nil)) 561 d561.e (.node (.node .nil 562 d562.e .nil) 563 d563.e (.node .nil 566 f566_ent .nil)))) 572 d572.e (.node (.node (.node (.node (.node .nil 574 d574.e .nil) 575 d575.e .nil) 576 f576_ent (.node .nil 577 d577.e .nil)) 578 d578.e (.node (.node .nil 579 d579.e .nil) 580 d580.e (.node .nil 583 d583.e .nil))) 584 d584.e (.node (.node (.node .nil 585 d585.e .nil) 587 d587.e (.node .nil 588 d588.e .nil)) 590 d590.e (.node (.node .nil 591 d591.e .nil) 592 d592.e (.node .nil 594 d594.e .nil))))) 595 d595.e (.node (.node (.node (.node (.node (.node .nil 596 d596.e .nil) 597 d597.e .nil) 600 d600.e (.node .nil 601 d601.e .nil)) 608 d608.e (.node (.node .nil 613 d613.e .nil) 614 d614.e (.node .nil 615 d615.e .nil))) 616 f616_ent (.node (.node (.node .nil 617 d617.e .nil) 622 d622.e (.node .nil 635 d635.e .nil)) 648 d648.e (.node (.node .nil 649 (.ext xIdx) .nil) 650 d650.e (.node .nil 653 d653.e .nil)))) 654 d654.e (.node (.node (.node (.node .nil 657 d657.e .nil) 658 d658.e (.node .nil 659 d659.e .nil)) 660 d660.e (.node (.node .nil 661 d661.e .nil) 666 f666_ent (.node .nil 670 d670.e .nil))) 680 (.ext xSame) (.node (.node (.node .nil 683 f683_ent .nil) 684 d684.e (.node .nil 705 d705.e .nil)) 706 d706.e (.node (.node .nil 707 d707.e .nil) 708 f708_ent (.node .nil 720 f720_ent .nil))))))))
theorem tb_ok (oq:Nat→Value) (F:Nat→Prop) (h0:Heap):TOK Tryz.prog oq F h0 tb:=⟨⟨⟨⟨⟨⟨⟨⟨⟨trivial,d5.k oq F h0,trivial⟩,f6_ok oq F h0,trivial⟩,f7_ok oq F h0,⟨trivial,f8_ok oq F h0,trivial⟩⟩,d9.k oq F h0,⟨⟨trivial,d10.k oq F h0,trivial⟩,d11.k oq F h0,⟨trivial,f12_ok oq F h0,trivial⟩⟩⟩,f13_ok oq F h0,⟨⟨⟨trivial,d14.k oq F h0,trivial⟩,d15.k oq F h0,⟨trivial,d16.k oq F h0,trivial⟩⟩,d17.k oq F h0,⟨⟨trivial,d19.k oq F h0,trivial⟩,d20.k oq F h0,⟨trivial,d21.k oq F h0,trivial⟩⟩⟩⟩,d22.k oq F h0,⟨⟨⟨⟨⟨trivial,d23.k oq F h0,trivial⟩,d24.k oq F h0,trivial⟩,d25.k oq F h0,⟨trivial,d26.k oq F h0,trivial⟩⟩,f27_ok oq F h0,⟨⟨trivial,d28.k oq F h0,trivial⟩,d29.k oq F h0,⟨trivial,f30_ok oq F h0,trivial⟩⟩⟩,d31.k oq F h0,⟨⟨⟨trivial,f32_ok oq F h0,trivial⟩,d37.k oq F h0,⟨trivial,d42.k oq F h0,trivial⟩⟩,d47.k oq F h0,⟨⟨trivial,d52.k oq F h0,trivial⟩,d53.k oq F h0,⟨trivial,d58.k oq F h0,trivial⟩⟩⟩⟩⟩,d59.k oq F h0,⟨⟨⟨⟨⟨⟨trivial,d60.k oq F h0,trivial⟩,d61.k oq F h0,trivial⟩,d62.k oq F h0,⟨trivial,d63.k oq F h0,trivial⟩⟩,d64.k oq F h0,⟨⟨trivial,d65.k oq F h0,trivial⟩,d66.k oq F h0,⟨trivial,d73.k oq F h0,trivial⟩⟩⟩,d74.k oq F h0,⟨⟨⟨trivial,d75.k oq F h0,trivial⟩,f76_ok oq F h0,⟨trivial,d88.k oq F h0,trivial⟩⟩,f89_ok oq F h0,⟨⟨trivial,d91.k oq F h0,trivial⟩,d98.k oq F h0,⟨trivial,d99.k oq F h0,trivial⟩⟩⟩⟩,d100.k oq F h0,⟨⟨⟨⟨⟨trivial,d101.k oq F h0,trivial⟩,x102_ok oq F h0,trivial⟩,d104.k oq F h0,⟨trivial,d119.k oq F h0,trivial⟩⟩,d120.k oq F h0,⟨⟨trivial,d124.k oq F h0,trivial⟩,d125.k oq F h0,⟨trivial,d126.k oq F h0,trivial⟩⟩⟩,d127.k oq F h0,⟨⟨⟨trivial,d128.k oq F h0,trivial⟩,d129.k oq F h0,⟨trivial,d136.k oq F h0,trivial⟩⟩,f137_ok oq F h0,⟨⟨trivial,d143.k oq F h0,trivial⟩,f144_ok oq F h0,⟨trivial,d146.k oq F h0,trivial⟩⟩⟩⟩⟩⟩,d165.k oq F h0,⟨⟨⟨⟨⟨⟨⟨trivial,d170.k oq F h0,trivial⟩,d171.k oq F h0,trivial⟩,d172.k oq F h0,⟨trivial,f189_ok oq F h0,trivial⟩⟩,f190_ok oq F h0,⟨⟨trivial,f191_ok oq F h0,trivial⟩,d192.k oq F h0,⟨trivial,d193.k oq F h0,trivial⟩⟩⟩,d194.k oq F h0,⟨⟨⟨trivial,f195_ok oq F h0,trivial⟩,d196.k oq F h0,⟨trivial,d199.k oq F h0,trivial⟩⟩,d200.k oq F h0,⟨⟨trivial,d201.k oq F h0,trivial⟩,d206.k oq F h0,⟨trivial,d220.k oq F h0,trivial⟩⟩⟩⟩,d227.k oq F h0,⟨⟨⟨⟨⟨trivial,f245_ok oq F h0,trivial⟩,f246_ok oq F h0,trivial⟩,d247.k oq F h0,⟨trivial,d248.k oq F h0,trivial⟩⟩,d249.k oq F h0,⟨⟨trivial,f250_ok oq F h0,trivial⟩,f251_ok oq F h0,⟨trivial,d252.k oq F h0,trivial⟩⟩⟩,d253.k oq F h0,⟨⟨⟨trivial,d254.k oq F h0,trivial⟩,d255.k oq F h0,⟨trivial,d256.k oq F h0,trivial⟩⟩,f257_ok oq F h0,⟨⟨trivial,d258.k oq F h0,trivial⟩,d259.k oq F h0,⟨trivial,d260.k oq F h0,trivial⟩⟩⟩⟩⟩,f261_ok oq F h0,⟨⟨⟨⟨⟨⟨trivial,d262.k oq F h0,trivial⟩,f263_ok oq F h0,trivial⟩,d264.k oq F h0,⟨trivial,d265.k oq F h0,trivial⟩⟩,d266.k oq F h0,⟨⟨trivial,f267_ok oq F h0,trivial⟩,d268.k oq F h0,⟨trivial,d272.k oq F h0,trivial⟩⟩⟩,d274.k oq F h0,⟨⟨⟨trivial,d321.k oq F h0,trivial⟩,d339.k oq F h0,⟨trivial,d340.k oq F h0,trivial⟩⟩,f341_ok oq F h0,⟨⟨trivial,d342.k oq F h0,trivial⟩,d344.k oq F h0,⟨trivial,f345_ok oq F h0,trivial⟩⟩⟩⟩,f346_ok oq F h0,⟨⟨⟨⟨⟨trivial,f347_ok oq F h0,trivial⟩,d348.k oq F h0,trivial⟩,d349.k oq F h0,⟨trivial,d350.k oq F h0,trivial⟩⟩,d351.k oq F h0,⟨⟨trivial,d352.k oq F h0,trivial⟩,d353.k oq F h0,⟨trivial,d354.k oq F h0,trivial⟩⟩⟩,d355.k oq F h0,⟨⟨⟨trivial,d356.k oq F h0,trivial⟩,d357.k oq F h0,⟨trivial,f358_ok oq F h0,trivial⟩⟩,f359_ok oq F h0,⟨⟨trivial,f365_ok oq F h0,trivial⟩,d366.k oq F h0,⟨trivial,d368.k oq F h0,trivial⟩⟩⟩⟩⟩⟩⟩,d369.k oq F h0,⟨⟨⟨⟨⟨⟨⟨⟨trivial,d370.k oq F h0,trivial⟩,d371.k oq F h0,trivial⟩,d372.k oq F h0,⟨trivial,d373.k oq F h0,trivial⟩⟩,d374.k oq F h0,⟨⟨trivial,d375.k oq F h0,trivial⟩,d376.k oq F h0,⟨trivial,f378_ok oq F h0,trivial⟩⟩⟩,d379.k oq F h0,⟨⟨⟨trivial,d380.k oq F h0,trivial⟩,d381.k oq F h0,⟨trivial,f382_ok oq F h0,trivial⟩⟩,d383.k oq F h0,⟨⟨trivial,d387.k oq F h0,trivial⟩,d435.k oq F h0,⟨trivial,d436.k oq F h0,trivial⟩⟩⟩⟩,f437_ok oq F h0,⟨⟨⟨⟨⟨trivial,d441.k oq F h0,trivial⟩,d442.k oq F h0,trivial⟩,f444_ok oq F h0,⟨trivial,d445.k oq F h0,trivial⟩⟩,d446.k oq F h0,⟨⟨trivial,d447.k oq F h0,trivial⟩,f448_ok oq F h0,⟨trivial,d449.k oq F h0,trivial⟩⟩⟩,d451.k oq F h0,⟨⟨⟨trivial,f453_ok oq F h0,trivial⟩,d454.k oq F h0,⟨trivial,d455.k oq F h0,trivial⟩⟩,d459.k oq F h0,⟨⟨trivial,d460.k oq F h0,trivial⟩,d461.k oq F h0,⟨trivial,d462.k oq F h0,trivial⟩⟩⟩⟩⟩,d463.k oq F h0,⟨⟨⟨⟨⟨⟨trivial,f464_ok oq F h0,trivial⟩,d465.k oq F h0,trivial⟩,d466.k oq F h0,⟨trivial,d468.k oq F h0,trivial⟩⟩,d469.k oq F h0,⟨⟨trivial,d471.k oq F h0,trivial⟩,d472.k oq F h0,⟨trivial,d473.k oq F h0,trivial⟩⟩⟩,d474.k oq F h0,⟨⟨⟨trivial,d475.k oq F h0,trivial⟩,f476_ok oq F h0,⟨trivial,d477.k oq F h0,trivial⟩⟩,d478.k oq F h0,⟨⟨trivial,d479.k oq F h0,trivial⟩,d481.k oq F h0,⟨trivial,f482_ok oq F h0,trivial⟩⟩⟩⟩,d487.k oq F h0,⟨⟨⟨⟨⟨trivial,f488_ok oq F h0,trivial⟩,d489.k oq F h0,trivial⟩,f491_ok oq F h0,⟨trivial,f492_ok oq F h0,trivial⟩⟩,d498.k oq F h0,⟨⟨trivial,d499.k oq F h0,trivial⟩,f500_ok oq F h0,⟨trivial,d501.k oq F h0,trivial⟩⟩⟩,d502.k oq F h0,⟨⟨⟨trivial,d521.k oq F h0,trivial⟩,d523.k oq F h0,⟨trivial,d524.k oq F h0,trivial⟩⟩,d525.k oq F h0,⟨⟨trivial,d526.k oq F h0,trivial⟩,d527.k oq F h0,⟨trivial,d528.k oq F h0,trivial⟩⟩⟩⟩⟩⟩,d531.k oq F h0,⟨⟨⟨⟨⟨⟨⟨trivial,d533.k oq F h0,trivial⟩,d534.k oq F h0,trivial⟩,f535_ok oq F h0,⟨trivial,d537.k oq F h0,trivial⟩⟩,d538.k oq F h0,⟨⟨trivial,d539.k oq F h0,trivial⟩,d540.k oq F h0,⟨trivial,d541.k oq F h0,trivial⟩⟩⟩,d548.k oq F h0,⟨⟨⟨trivial,d552.k oq F h0,trivial⟩,d555.k oq F h0,⟨trivial,d560.k oq F h0,trivial⟩⟩,d561.k oq F h0,⟨⟨trivial,d562.k oq F h0,trivial⟩,d563.k oq F h0,⟨trivial,f566_ok oq F h0,trivial⟩⟩⟩⟩,d572.k oq F h0,⟨⟨⟨⟨⟨trivial,d574.k oq F h0,trivial⟩,d575.k oq F h0,trivial⟩,f576_ok oq F h0,⟨trivial,d577.k oq F h0,trivial⟩⟩,d578.k oq F h0,⟨⟨trivial,d579.k oq F h0,trivial⟩,d580.k oq F h0,⟨trivial,d583.k oq F h0,trivial⟩⟩⟩,d584.k oq F h0,⟨⟨⟨trivial,d585.k oq F h0,trivial⟩,d587.k oq F h0,⟨trivial,d588.k oq F h0,trivial⟩⟩,d590.k oq F h0,⟨⟨trivial,d591.k oq F h0,trivial⟩,d592.k oq F h0,⟨trivial,d594.k oq F h0,trivial⟩⟩⟩⟩⟩,d595.k oq F h0,⟨⟨⟨⟨⟨⟨trivial,d596.k oq F h0,trivial⟩,d597.k oq F h0,trivial⟩,d600.k oq F h0,⟨trivial,d601.k oq F h0,trivial⟩⟩,d608.k oq F h0,⟨⟨trivial,d613.k oq F h0,trivial⟩,d614.k oq F h0,⟨trivial,d615.k oq F h0,trivial⟩⟩⟩,f616_ok oq F h0,⟨⟨⟨trivial,d617.k oq F h0,trivial⟩,d622.k oq F h0,⟨trivial,d635.k oq F h0,trivial⟩⟩,d648.k oq F h0,⟨⟨trivial,x649_ok oq F h0,trivial⟩,d650.k oq F h0,⟨trivial,d653.k oq F h0,trivial⟩⟩⟩⟩,d654.k oq F h0,⟨⟨⟨⟨trivial,d657.k oq F h0,trivial⟩,d658.k oq F h0,⟨trivial,d659.k oq F h0,trivial⟩⟩,d660.k oq F h0,⟨⟨trivial,d661.k oq F h0,trivial⟩,f666_ok oq F h0,⟨trivial,d670.k oq F h0,trivial⟩⟩⟩,x680_ok oq F h0,⟨⟨⟨trivial,f683_ok oq F h0,trivial⟩,d684.k oq F h0,⟨trivial,d705.k oq F h0,trivial⟩⟩,d706.k oq F h0,⟨⟨trivial,d707.k oq F h0,trivial⟩,f708_ok oq F h0,⟨trivial,f720_ok oq F h0,trivial⟩⟩⟩⟩⟩⟩⟩⟩
end Go.Proofs.YtikcimlokhmleaaGreatDoor.Q
namespace Go.Sx
open Go
noncomputable def aopF (op:SOp):Program→AE→AH→Nat→Option (AV×AH):=
 @SOp.rec (fun _=>Program→AE→AH→Nat→Option (AV×AH))
 (fun x _ E H _=>match aev H E x with
  |some v=>some (v,H)
  |none=>none)
 (fun c a b _ E H _=>match aev H E c,aev H E a,aev H E b with
  |some (.b t),some x,some y=>some (bif t then x else y,H)
  |_,_,_=>none)
 (fun z _ _ H id=>match avals z with
  |some l=>match grow H id (.cells false 0 l)with
   |some H'=>some (.p id 0,H')
   |none=>none
  |none=>none)
 (fun x _ E H id=>match aev H E x with
  |some v=>match acells v with
   |some l=>match grow H id (.cells false 0 l)with
    |some H'=>some (.p id 0,H')
    |none=>none
   |none=>none
  |none=>none)
 (fun z ps xs _ E H _=>match avals z,aevs H E xs with
  |some z,some vs=>match fillA z ps vs with
   |some l=>some (.g l,H)
   |none=>none
  |_,_=>none)
 (fun z n ps xs _ E H id=>match avals z,aevs H E xs with
  |some z,some vs=>match fillA z ps vs with
   |some l=>match grow H id (.cells false 0 l)with
    |some H'=>some (.sl id 0 n n,H')
    |none=>none
   |none=>none
  |_,_=>none)
 (fun x _ E H _=>match aev H E x with
  |some (.p a o)=>match getB H a with
   |some (_,_,l)=>match nth l o with
    |some v=>some (v,H)
    |none=>none
   |none=>none
  |_=>none)
 (fun n x _ E H _=>match aev H E x with
  |some (.p a o)=>match getB H a with
   |some (_,_,l)=>match taken (dropped l o) n with
    |some vs=>some (.g vs,H)
    |none=>none
   |none=>none
  |_=>none)
 (fun n x v _ E H _=>match aev H E x,aev H E v with
  |some (.p a o),some v=>match getB H a,acells v with
   |some (false,g,l),some vs=>bif Nat.beq (countA vs) n&&onesA vs then
     match setB H a false g l o vs with
     |some H'=>some (.t [],H')
     |none=>none
    else none
   |_,_=>none
  |_,_=>none)
 (fun x _ E H _=>match aev H E x with
  |some (.p a o)=>some (.p a o,H)
  |some (.f f fi c)=>some (.f f fi c,H)
  |some (.y l)=>some (.y l,H)
  |_=>none)
 (fun op x y _ E H _=>match aev H E x,aev H E y with
  |some (.i k a),some (.i k' b)=>bif keq k k' then some (mkI k (arithF op k a b),H)else none
  |_,_=>none)
 (fun op x y _ E H _=>match aev H E x,aev H E y with
  |some (.i k a),some (.i k' b)=>bif keq k k' then some (mkI k (bitw op k a b),H)else none
  |_,_=>none)
 (fun op x y _ E H _=>match aev H E x,aev H E y with
  |some (.i k a),some (.i k' b)=>bif keq k k' then match acmpI op a b with
    |some t=>some (.b t,H)
    |none=>none
   else none
  |some (.s a),some (.s b)=>match acmpS op a b with
   |some t=>some (.b t,H)
   |none=>none
  |_,_=>none)
 (fun x y _ E H _=>match aev H E x,aev H E y with
  |some (.s a),some (.s b)=>bif Nat.blt (countA a+countA b) 9223372036854775808 then some (.s (joined a b),H)else none
  |_,_=>none)
 (fun neg x y _ E H _=>match aev H E x,aev H E y with
  |some .np,some .np=>some (.b (!neg),H)
  |some .np,some (.p _ _)=>some (.b neg,H)
  |some (.p _ _),some .np=>some (.b neg,H)
  |some (.p a o),some (.p a' o')=>match getB H a,getB H a' with
   |some (false,_,_::_),some (false,_,_::_)=>some (eqResI neg (Nat.beq a a'&&Nat.beq o o'),H)
   |_,_=>none
  |_,_=>none)
 (fun kd neg x _ E H _=>match aev H E x with
  |some v=>match anil kd v with
   |some r=>some (eqResI neg r,H)
   |none=>none
  |none=>none)
 (fun neg ks x y _ E H _=>match aev H E x,aev H E y with
  |some (.g a),some (.g b)=>bif afitsAll ks a&&afitsAll ks b then some (eqResI neg (aeqs a b),H)else none
  |_,_=>none)
 (fun op x _ E H _=>match op,aev H E x with
  |.not,some (.b t)=>some (.b (!t),H)
  |.neg,some (.i k a)=>some (mkI k (wrapF k (0-a)),H)
  |.xor,some (.i k a)=>some (mkI k (bitw .xor k (ones k) a),H)
  |_,_=>none)
 (fun off x _ E H _=>match aev H E x with
  |some (.p a o)=>some (.p a (o+off),H)
  |_=>none)
 (fun off x _ E H _=>match aev H E x with
  |some (.g l)=>match nth l off with
   |some v=>some (v,H)
   |none=>none
  |_=>none)
 (fun off n x _ E H _=>match aev H E x with
  |some (.g l)=>bif Nat.ble (off+n) (countA l)then match taken (dropped l off) n with
    |some vs=>some (.g vs,H)
    |none=>none
   else none
  |_=>none)
 (fun len size x i _ E H _=>match aev H E x,aev H E i with
  |some (.p a o),some (.i _ (.ofNat j))=>bif Nat.blt j len then some (.p a (o+j*size),H)else none
  |_,_=>none)
 (fun size x i _ E H _=>match aev H E x,aev H E i with
  |some (.sl a o n _),some (.i _ (.ofNat j))=>bif Nat.blt j n then some (.p a (o+j*size),H)else none
  |some (.su a o n _),some (.i _ (.ofNat j))=>bif Nat.blt j n then some (.p a (o+j*size),H)else none
  |_,_=>none)
 (fun x i _ E H _=>match aev H E x,aev H E i with
  |some (.s l),some (.i _ (.ofNat j))=>match nth l j with
   |some c=>some (mkI .u8 (.ofNat c.toNat),H)
   |none=>none
  |_,_=>none)
 (fun size x lo hi _ E H _=>match aev H E x with
  |some v=>match alen v with
   |some n=>match abnd H E lo 0,abnd H E hi n with
    |some (.ofNat l),some (.ofNat m)=>match acut size v l m with
     |some u=>some (u,H)
     |none=>none
    |_,_=>none
   |none=>none
  |none=>none)
 (fun x lo hi _ E H _=>match aev H E x with
  |some (.s s)=>match abnd H E lo 0,abnd H E hi (countA s)with
   |some (.ofNat l),some (.ofNat m)=>bif Nat.ble l m&&Nat.ble m (countA s)then match taken (dropped s l) (m-l)with
     |some r=>some (.s r,H)
     |none=>none
    else none
   |_,_=>none
  |_=>none)
 (fun x _ E H _=>match aev H E x with
  |some v=>match alen v with
   |some n=>some (.i .i64 (.ofNat n),H)
   |none=>none
  |none=>none)
 (fun x _ E H _=>match aev H E x with
  |some .nm=>some (.i .i64 0,H)
  |some (.m a)=>match H.get a with
   |some (.map es _)=>some (.i .i64 (.ofNat (countA es)),H)
   |_=>none
  |_=>none)
 (fun bytes z x y _ E H id=>match avals z,aev H E x,aev H E y with
  |some z,some (.i .i64 (.ofNat n)),some (.i .i64 (.ofNat c))=>bif Nat.ble n c&&Nat.ble (bytes*c) 281474976710656&&Nat.blt c 9223372036854775808 then
    match grow H id (.cells false 0 (copies c z))with
    |some H'=>some (.sl id 0 n c,H')
    |none=>none
   else none
  |_,_,_=>none)
 (fun _ _ H id=>match grow H id (.map [] 0)with
  |some H'=>some (.m id,H')
  |none=>none)
 (fun kd zero ok m k _ E H _=>match avalg zero,aev H E m,aev H E k with
  |some z,some .nm,some k=>bif afits kd k then some (bif ok then .t [z,.b false]else z,H)else none
  |some z,some (.m a),some k=>match H.get a with
   |some (.map es _)=>bif afits kd k&&afitsM kd es then
     match afind k es 0 with
     |some (_,v)=>some (bif ok then .t [v,.b true]else v,H)
     |none=>some (bif ok then .t [z,.b false]else z,H)
    else none
   |_=>none
  |_,_,_=>none)
 (fun kd m k v _ E H _=>match aev H E m,aev H E k,aev H E v with
  |some (.m a),some k,some v=>match H.get a with
   |some (.map es c)=>bif afits kd k&&afitsM kd es then
     match afind k es 0 with
     |some (i,_)=>match T.wput H a (some (.map (asetM v es i) c))with
      |some H'=>some (.t [],H')
      |none=>none
     |none=>match T.wput H a (some (.map (joined es [(k,v,c)]) (c+1)))with
      |some H'=>some (.t [],H')
      |none=>none
    else none
   |_=>none
  |_,_,_=>none)
 (fun kd m k _ E H _=>match aev H E m,aev H E k with
  |some .nm,some k=>bif afits kd k then some (.t [],H)else none
  |some (.m a),some k=>match H.get a with
   |some (.map es c)=>bif afits kd k&&afitsM kd es then
     match afind k es 0 with
     |some (i,_)=>match T.wput H a (some (.map (adelM es i) c))with
      |some H'=>some (.t [],H')
      |none=>none
     |none=>match T.wput H a (some (.map es c))with
      |some H'=>some (.t [],H')
      |none=>none
    else none
   |_=>none
  |_,_=>none)
 (fun _ _ _ _ _ _=>none)
 (fun _ _ _ _ _ _=>none)
 (fun _ _ _ _ _ _=>none)
 (fun _ _ _ _ _ _=>none)
 (fun k left n x _ E H _=>match aev H E x with
  |some (.i k' a)=>bif keq k' k then some (mkI k (bif left then wrapF k (a*2 ^ n)else a.fdiv (2 ^ n)),H)else none
  |_=>none)
 (fun neg x y _ E H _=>match aev H E x,aev H E y with
  |some (.b a),some (.b b)=>some (eqResI neg (beqB a b),H)
  |_,_=>none)
 (fun x _ E H _=>match aev H E x with
  |some (.s l)=>some (.i .i64 (.ofNat (countA l)),H)
  |_=>none)
 (fun x _ E H _=>match aev H E x with
  |some (.s l)=>some (.s l,H)
  |_=>none)
 (fun x _ E H _=>match aev H E x with
  |some v=>match alen v with
   |some n=>match readS H v n 1 with
    |some vs=>match abytes vs with
     |some bs=>some (.s bs,H)
     |none=>none
    |none=>none
   |none=>none
  |none=>none)
 (fun x y _ E H _=>match aev H E x,aev H E y with
  |some (.i k a),some (.i k' b)=>bif keq k k'&&!ieq b 0 then some (mkI k (wrapF k (a.tdiv b)),H)else none
  |_,_=>none)
 (fun x y _ E H _=>match aev H E x,aev H E y with
  |some (.i k a),some (.i k' b)=>bif keq k k'&&!ieq b 0 then some (mkI k (a.tmod b),H)else none
  |_,_=>none)
 (fun size bytes z x y _ E H id=>match aev H E x,aev H E y with
  |some v,some u=>match alen u with
   |some m=>match readS H u m size with
    |some ys=>bif onesA ys&&Nat.beq (countA z) size then appA H id size bytes 0 false v ys m else none
    |none=>none
   |none=>none
  |_,_=>none)
 (fun x i _ E H _=>match aev H E x with
  |some (.t l)=>match nth l i with
   |some v=>some (v,H)
   |none=>none
  |_=>none)
 (fun f a c _ E H _=>match aevs H E a,aevs H E c with
  |some x,some y=>some (.f f x y,H)
  |_,_=>none)
 (fun k x _ E H _=>match aev H E x with
  |some (.i _ a)=>some (mkI k (wrapF k a),H)
  |_=>none)
 (fun x y _ E H _=>match aev H E x,aev H E y with
  |some (.i k a),some (.i k' b)=>bif keq k k' then some (.i k (bif ilt b a then b else a),H)else none
  |_,_=>none)
 (fun x y _ E H _=>match aev H E x,aev H E y with
  |some (.i k a),some (.i k' b)=>bif keq k k' then some (.i k (bif ilt a b then b else a),H)else none
  |_,_=>none)
 (fun t x _ E H _=>match aev H E x with
  |some v=>some (.e t v,H)
  |none=>none)
 (fun x _ E H _=>match aev H E x with
  |some .ns=>some (.i .i64 0,H)
  |some (.sl _ _ _ c)=>some (.i .i64 (.ofNat c),H)
  |_=>none)
 (fun size x lo hi mx _ E H _=>match aev H E x with
  |some (.sl a o _ c)=>match abnd H E lo 0,abnd H E (some hi) 0,abnd H E (some mx) 0 with
   |some (.ofNat l),some (.ofNat m),some (.ofNat k)=>bif Nat.ble l m&&Nat.ble m k&&Nat.ble k c then some (.sl a (bif Nat.blt l k then o+l*size else o) (m-l) (k-l),H)else none
   |_,_,_=>none
  |some (.su a o n _)=>match abnd H E lo 0,abnd H E (some hi) 0,abnd H E (some mx) 0 with
   |some (.ofNat l),some (.ofNat m),some (.ofNat k)=>bif Nat.ble l m&&Nat.ble m k&&Nat.ble k n then some (.sl a (bif Nat.blt l k then o+l*size else o) (m-l) (k-l),H)else none
   |_,_,_=>none
  |_=>none)
 (fun size x y _ E H _=>match aev H E x,aev H E y with
  |some v,some u=>match alen v,alen u with
   |some n,some m=>match readS H u (min m n) size with
    |some ys=>bif Nat.beq (countA ys) 0 then some (.i .i64 (.ofNat (min m n)),H)else
     match v with
     |.sl a o _ _|.su a o _ _=>match getB H a with
      |some (false,g,l)=>bif onesA ys then match setB H a false g l o ys with
        |some H'=>some (.i .i64 (.ofNat (min m n)),H')
        |none=>none
       else none
      |_=>none
     |_=>none
    |none=>none
   |_,_=>none
  |_,_=>none)
 (fun z x _ E H _=>match avals z,aev H E x with
  |some z,some v=>match alen v with
   |some n=>bif Nat.beq (countA (copies n z)) 0 then some (.t [],H)else
    match v with
    |.sl a o _ _|.su a o _ _=>match getB H a with
     |some (false,g,l)=>bif onesA (copies n z)then match setB H a false g l o (copies n z)with
       |some H'=>some (.t [],H')
       |none=>none
      else none
     |_=>none
    |_=>none
   |none=>none
  |_,_=>none)
 (fun size bytes z x y _ E H id=>match avals z,aev H E x,aev H E y with
  |some z,some .ns,some (.i .i64 (.ofNat m))=>bif Nat.beq (countA z) size&&Nat.blt size gM&&Nat.blt m 9223372036854775808&&Nat.blt 0 m&&Nat.ble ((m*2+768)*bytes) 281474976710656 then
    match grow H id (.cells false size (copies m z))with
    |some H'=>some (.su id 0 m 0,H')
    |none=>none
   else none
  |some z,some (.sl a o n c),some (.i .i64 (.ofNat m))=>bif Nat.beq (countA z) size&&Nat.blt size gM&&Nat.blt m 9223372036854775808&&Nat.blt c (n+m)&&Nat.ble (((n+m)*2+768)*bytes) 281474976710656 then
    match getB H a with
    |some (_,_,l)=>match taken (dropped l o) (n*size)with
     |some xs=>match grow H id (.cells false size (joined xs (copies m z)))with
      |some H'=>some (.su id 0 (n+m) 0,H')
      |none=>none
     |none=>none
    |none=>none
   else none
  |_,_,_=>none)
 (fun _ _ _ _ _ _=>none)
 (fun size bytes z y _ E H id=>match aev H E y with
  |some u=>match alen u with
   |some m=>match readS H u m size with
    |some ys=>bif onesA ys&&Nat.beq (countA z) size then appA H id size bytes 0 false .ns ys m else none
    |none=>none
   |none=>none
  |none=>none)
 (fun n size x i _ E H _=>match aev H E x,aev H E i with
  |some (.g l),some (.i _ (.ofNat j))=>bif Nat.blt j n then match nth l (j*size)with
    |some v=>some (v,H)
    |none=>none
   else none
  |_,_=>none)
 (fun n size x lo hi _ E H _=>match aev H E x with
  |some (.p a o)=>match abnd H E lo 0,abnd H E hi n with
   |some (.ofNat l),some (.ofNat m)=>bif Nat.ble l m&&Nat.ble m n then some (.sl a (bif Nat.blt l n then o+l*size else o) (m-l) (n-l),H)else none
   |_,_=>none
  |_=>none)
 (fun k left x y _ E H _=>match aev H E x,aev H E y with
  |some (.i k' a),some (.i _ (.ofNat n))=>bif keq k' k then some (mkI k (bif left then wrapF k (a*2 ^ (min n k.bits))else a.fdiv (2 ^ (min n k.bits))),H)else none
  |_,_=>none)
 (fun t zero ok x _ E H _=>match avalg zero,aev H E x with
  |some z,some .ni=>bif ok then some (.t [z,.b false],H)else none
  |some z,some (.e u v)=>bif Nat.beq u t then some (bif ok then .t [v,.b true]else v,H)else bif ok then some (.t [z,.b false],H)else none
  |none,some (.e u v)=>bif Nat.beq u t&&!ok then some (v,H)else none
  |_,_=>none)
 (fun neg x y P E H _=>match aev H E x,aev H E y with
  |some .ni,some (.e _ _)=>some (.b neg,H)
  |some (.e _ _),some .ni=>some (.b neg,H)
  |some (.e t v),some (.e u w)=>bif Nat.beq t u then match kdE P t with
    |some kd=>bif afits kd v&&afits kd w then some (eqResI neg (aeq v w),H)else none
    |none=>none
   else some (.b neg,H)
  |_,_=>none)
 (fun _ _ _ _ _=>none)
 (fun x _ E H id=>match aev H E x with
  |some (.s l)=>match grow H id (.cells true 1 (abyteCells l))with
   |some H'=>some (.su id 0 (countA l) 0,H')
   |none=>none
  |_=>none)
 (fun x v _ E H _=>match aev H E x,aev H E v with
  |some (.p a o),some v=>match getB H a,acells v with
   |some (_w,g,l),some vs=>bif Nat.beq (countA vs) 1&&onesA vs then
     match setB H a true g l o vs with
     |some H'=>some (.t [],H')
     |none=>none
    else none
   |_,_=>none
  |_,_=>none)
 (fun x y _ E H _=>match aev H E x,aev H E y with
  |some v,some u=>match alen v,alenB u with
   |some n,some m=>match readB H u (min m n)with
    |some ys=>bif Nat.beq (countA ys) 0 then some (.i .i64 (.ofNat (min m n)),H)else
     match v with
     |.sl a o _ _|.su a o _ _=>match getB H a with
      |some (_w,g,l)=>bif onesA ys then match setB H a true g l o ys with
        |some H'=>some (.i .i64 (.ofNat (min m n)),H')
        |none=>none
       else none
      |_=>none
     |_=>none
    |none=>none
   |_,_=>none
  |_,_=>none)
 (fun e x y _ E H id=>match aev H E x,aev H E y with
  |some v,some u=>match alenB u with
   |some m=>match readB H u m with
    |some ys=>bif onesA ys then appA H id 1 1 e true v ys m else none
    |none=>none
   |none=>none
  |_,_=>none)
 (fun x _ E H id=>match aev H E x with
  |some .nm=>match grow H id (.iter none 0 [] 0)with
   |some H'=>some (.p id 0,H')
   |none=>none
  |some (.m a)=>match H.get a with
   |some (.map _ c)=>match grow H id (.iter (some a) c [] c)with
    |some H'=>some (.p id 0,H')
    |none=>none
   |_=>none
  |_=>none)
 (fun x _ E H _=>match aev H E x with
  |some (.p r 0)=>match H.get r with
   |some (.iter none _ _ _)=>some (.t [.b false],H)
   |some (.iter (some a) since seen last)=>match H.get a with
    |some (.map es c)=>match aleft since seen es with
     |some []=>bif Nat.ble since last then some (.t [.b false],H)else none
     |some [e]=>bif Nat.ble since last then match T.wput H r (some (.iter (some a) since (joined seen [e.2.2]) c))with
       |some H'=>some (.t [.b true,e.1,e.2.1],H')
       |none=>none
      else none
     |_=>none
    |_=>none
   |_=>none
  |_=>none)
 (fun x _ E H _=>match aev H E x with
  |some (.p r 0)=>match H.get r with
   |some (.iter (some a) _ [b] last)=>match H.get a with
    |some (.map es c)=>bif Nat.beq c last then match abyBorn b es with
      |some e=>some (.t [e.1,e.2.1],H)
      |none=>none
     else none
    |_=>none
   |_=>none
  |_=>none)
 (fun x _ E H _=>match aev H E x with
  |some (.sl a o n c)=>match getB H a with
   |some (_,g,l)=>match T.wput H a (some (.cells true g l))with
    |some H'=>some (.sl a o n c,H')
    |none=>none
   |none=>none
  |some (.su a o n k)=>match getB H a with
   |some (_,g,l)=>match T.wput H a (some (.cells true g l))with
    |some H'=>some (.su a o n k,H')
    |none=>none
   |none=>none
  |_=>none)
 (fun n size x i _ E H _=>match aev H E x,aev H E i with
  |some (.g l),some (.i _ (.ofNat j))=>bif Nat.blt j n&&Nat.ble (j*size+size) (countA l)then match taken (dropped l (j*size)) size with
    |some vs=>some (.g vs,H)
    |none=>none
   else none
  |_,_=>none)
 (fun x _ E H _=>match aev H E x with
  |some .nm=>some (.t [],H)
  |some (.m a)=>match H.get a with
   |some (.map _ c)=>match T.wput H a (some (.map [] c))with
    |some H'=>some (.t [],H')
    |none=>none
   |_=>none
  |_=>none)
 (fun t z _ _ H id=>match avals z with
  |some l=>match grow H id (.cells false (gM*t) l)with
   |some H'=>some (.p id 0,H')
   |none=>none
  |none=>none)
 (fun x _ E H _=>match aev H E x with
  |some (.p a o)=>match getB H a with
   |some (_,_,l)=>bif Nat.blt o (countA l)then some (.p a o,H)else none
   |none=>none
  |_=>none)
 (fun t n x _ E H _=>match aev H E x with
  |some (.p a 0)=>match getB H a with
   |some (_,g,l)=>bif Nat.beq g (gM*t)&&Nat.blt 0 t&&Nat.beq (countA l) n then some (.p a 0,H)else none
   |none=>none
  |_=>none)
 (fun x _ E H _=>match aev H E x with
  |some .ns=>some (.np,H)
  |some (.sl a o _ c)=>bif Nat.blt 0 c then some (.p a o,H)else none
  |some (.su a o n _)=>bif Nat.blt 0 n then some (.p a o,H)else none
  |_=>none)
 (fun e x n _ E H _=>match aev H E x,aev H E n with
  |some .np,some (.i .i64 (.ofNat 0))=>some (.s [],H)
  |some (.p a o),some (.i .i64 (.ofNat m))=>bif Nat.beq m 0 then some (.s [],H)else
   match getB H a with
   |some (_,g,l)=>bif Nat.beq o 0&&Nat.beq (g/gM) e&&Nat.blt 0 e&&Nat.blt m 9223372036854775808 then
     match taken l m with
     |some vs=>match abytes vs with
      |some bs=>match T.wput H a (some .dead)with
       |some H'=>some (.s bs,H')
       |none=>none
      |none=>none
     |none=>none
    else none
   |none=>none
  |_,_=>none)
 (fun x _ E H id=>match aev H E x with
  |some (.s l)=>match grow H id (.siter l 0)with
   |some H'=>some (.p id 0,H')
   |none=>none
  |_=>none)
 (fun x _ E H _=>match aev H E x with
  |some (.p r 0)=>match H.get r with
   |some (.siter l pos)=>match nth l pos with
    |some c=>bif Nat.blt c.toNat 128 then match T.wput H r (some (.siter l (pos+1)))with
      |some H'=>some (.t [.b true,mkI .i64 (.ofNat pos),mkI .i32 (.ofNat c.toNat)],H')
      |none=>none
     else none
    |none=>bif Nat.ble (countA l) pos then some (.t [.b false],H)else none
   |_=>none
  |_=>none)
 op
theorem aopF_eq (op:SOp) (P:Program) (E:AE) (H:AH) (id:Nat):aopF op P E H id=aop P E H id op:=by cases op<;>rfl
noncomputable def plainF (op:SOp) (P:Program) (_:Tbl) (_:Rec) (_:AY) (E:AE) (S:AS) (id N':Nat) (d:Option Nat):Option OR:=
 match aopF op P E S.H id with
 |some (v,H')=>match aupd E d v with
  |some E'=>some (.ok E' ⟨H',N'⟩)
  |none=>none
 |none=>none
noncomputable def arunF (op:SOp):SOp→Program→Tbl→Rec→AY→AE→AS→Nat→Nat→Option Nat→Option OR:=
 @SOp.rec (fun _=>SOp→Program→Tbl→Rec→AY→AE→AS→Nat→Nat→Option Nat→Option OR)
 (fun _=>plainF)
 (fun _ _ _=>plainF)
 (fun _=>plainF)
 (fun _=>plainF)
 (fun _ _ _=>plainF)
 (fun _ _ _ _=>plainF)
 (fun _=>plainF)
 (fun _ _=>plainF)
 (fun _ _ _=>plainF)
 (fun _=>plainF)
 (fun _ _ _=>plainF)
 (fun _ _ _=>plainF)
 (fun _ _ _=>plainF)
 (fun _ _=>plainF)
 (fun _ _ _=>plainF)
 (fun _ _ _=>plainF)
 (fun _ _ _ _=>plainF)
 (fun _ _=>plainF)
 (fun _ _=>plainF)
 (fun _ _=>plainF)
 (fun _ _ _=>plainF)
 (fun _ _ _ _=>plainF)
 (fun _ _ _=>plainF)
 (fun _ _=>plainF)
 (fun _ _ _ _=>plainF)
 (fun _ _ _=>plainF)
 (fun _=>plainF)
 (fun _=>plainF)
 (fun _ _ _ _=>plainF)
 plainF
 (fun _ _ _ _ _=>plainF)
 (fun _ _ _ _=>plainF)
 (fun _ _ _=>plainF)
 (fun f xs _ _ tb rc Y E S _ _ d=>match aevs S.H E xs with
  |some vs=>putR d E (acall tb rc Y f vs S)
  |none=>none)
 (fun x xs _ _ tb rc Y E S _ _ d=>match aev S.H E x,aevs S.H E xs with
  |some (.f f fi cap),some vs=>putR d E (acall tb rc Y f (joined fi (joined vs cap)) S)
  |some (.y l),some vs=>putR d E (ayield rc Y l vs S)
  |_,_=>none)
 (fun _ _=>plainF)
 (fun _ _=>plainF)
 (fun _ _ _ _=>plainF)
 (fun _ _ _=>plainF)
 (fun _=>plainF)
 (fun _=>plainF)
 (fun _=>plainF)
 (fun _ _=>plainF)
 (fun _ _=>plainF)
 (fun _ _ _ _ _=>plainF)
 (fun _ _=>plainF)
 (fun _ _ _=>plainF)
 (fun _ _=>plainF)
 (fun _ _=>plainF)
 (fun _ _=>plainF)
 (fun _ _=>plainF)
 (fun _=>plainF)
 (fun _ _ _ _ _=>plainF)
 (fun _ _ _=>plainF)
 (fun _ _=>plainF)
 (fun _ _ _ _ _=>plainF)
 (fun f xs _ _ tb _ _ E S _ _ d=>match aevs S.H E xs with
  |some vs=>match tb.find f with
   |some (.ext g)=>match g vs S with
    |some (v,S')=>putR d E (some (.ret v,S'))
    |none=>none
   |_=>none
  |none=>none)
 (fun _ _ _ _=>plainF)
 (fun _ _ _ _=>plainF)
 (fun _ _ _ _ _=>plainF)
 (fun _ _ _ _=>plainF)
 (fun _ _ _ _=>plainF)
 (fun _ _ _=>plainF)
 (fun x _ _ _ _ _ E S _ _ _=>match aev S.H E x with
  |some (.e t v)=>some (.pan [(.e t v,false)] S)
  |_=>none)
 (fun _=>plainF)
 (fun _ _=>plainF)
 (fun _ _=>plainF)
 (fun _ _ _=>plainF)
 (fun _=>plainF)
 (fun _=>plainF)
 (fun _=>plainF)
 (fun _=>plainF)
 (fun _ _ _ _=>plainF)
 (fun _=>plainF)
 (fun _ _=>plainF)
 (fun _=>plainF)
 (fun _ _ _=>plainF)
 (fun _=>plainF)
 (fun _ _ _=>plainF)
 (fun _=>plainF)
 (fun _=>plainF)
 op
theorem arunF_eq (op:SOp) (P:Program) (tb:Tbl) (rc:Rec) (Y:AY) (E:AE) (S:AS) (id N':Nat) (d:Option Nat):arunF op op P tb rc Y E S id N' d=arun P tb rc Y E S id N' d op:=by
 cases op<;>first
  |rfl
  |exact plainF_eq _ P tb rc Y E S id N' d
section
variable (P:Program) (tb:Tbl) (rc:Rec)
noncomputable def aoprF (Y:AY) (E:AE) (S:AS) (id N':Nat) (o:SOper):Option OR:=
 match o.guard with
 |none=>arunF o.op o.op P tb rc Y E S id N' o.dst
 |some (g,want)=>match E.get g with
  |some (.b t)=>bif beqB t want then arunF o.op o.op P tb rc Y E S id N' o.dst else
   match aupd E o.dst (.t [])with
   |some E'=>some (.ok E' S)
   |none=>none
  |some (.t _)=>match aupd E o.dst (.t [])with
   |some E'=>some (.ok E' S)
   |none=>none
  |_=>none
noncomputable def aopsF (Y:AY):List SOper→AE→AS→Option OR
 |[],E,S=>some (.ok E S)
 |o::l,E,S=>match aoprF P tb rc Y E S S.N (bif anew o.op then S.N+1 else S.N) o with
  |some (.ok E' S')=>aopsF Y l E' S'
  |r=>r
noncomputable def achkF (E:AE) (H:AH) (o:SOper):Bool:=
 match o.guard,o.dst with
 |none,some d=>match aopF o.op P E H 0,E.get d with
  |some (v,_),some u=>aeq v u
  |_,_=>false
 |some (g,want),some d=>match E.get g with
  |some (.b t)=>bif beqB t want then match aopF o.op P E H 0,E.get d with
    |some (v,_),some u=>aeq v u
    |_,_=>false
   else match E.get d with
    |some u=>aeq (.t []) u
    |none=>false
  |some (.t _)=>match E.get d with
   |some u=>aeq (.t []) u
   |none=>false
  |_=>false
 |_,none=>false
noncomputable def achksF (E:AE) (H:AH):List SOper→Bool
 |[]=>true
 |o::l=>Nat.ble (cls o.op) 1&&achkF P E H o&&achksF E H l
noncomputable def atreeF (Y:AY) (base:Nat):OTree→AE→AS→Option OR
 |.done,E,S=>some (.ok E S)
 |.one o t,E,S=>match aoprF P tb rc Y E S (base+o.dst.getD 0) S.N o with
  |some (.ok E' S')=>atreeF Y base t E' S'
  |r=>r
 |.both a b,E,S=>match atreeF Y base a E S,atreeF Y base b E S with
  |some (.ok E1 S1),some (.ok E2 S2)=>bif beqT aeq E1 E2&&beqS S1 S2 then some (.ok E1 S1)else none
  |_,_=>none
 |.chk l t,E,S=>bif achksF P E S.H l then atreeF Y base t E S else none
end
theorem aoprF_eq {P:Program} {tb:Tbl} {rc:Rec} (Y:AY) (E:AE) (S:AS) (id N':Nat) (o:SOper):aoprF P tb rc Y E S id N' o=aopr P tb rc Y E S id N' o:=by
 unfold aoprF aopr
 simp only[arunF_eq]
 rfl
theorem aopsF_eq {P:Program} {tb:Tbl} {rc:Rec} (Y:AY):∀(l:List SOper) (E:AE) (S:AS),aopsF P tb rc Y l E S=aops P tb rc Y l E S
 |[],_,_=>rfl
 |o::l,E,S=>by
  simp only[aopsF,aops,aoprF_eq,aopsF_eq Y l]
  rfl
theorem achkF_eq {P:Program} (E:AE) (H:AH) (o:SOper):achkF P E H o=achk P E H o:=by
 unfold achkF achk
 simp only[aopF_eq]
 rfl
theorem achksF_eq {P:Program} (E:AE) (H:AH):∀l:List SOper,achksF P E H l=achks P E H l
 |[]=>rfl
 |o::l=>by simp only[achksF,achks,achkF_eq,achksF_eq E H l]
theorem atreeF_eq {P:Program} {tb:Tbl} {rc:Rec} (Y:AY) (base:Nat):∀(t:OTree) (E:AE) (S:AS),atreeF P tb rc Y base t E S=atree P tb rc Y base t E S
 |.done,_,_=>rfl
 |.one o t,E,S=>by simp only[atreeF,atree,aoprF_eq,atreeF_eq Y base t];rfl
 |.both a b,E,S=>by simp only[atreeF,atree,atreeF_eq Y base a,atreeF_eq Y base b];rfl
 |.chk l t,E,S=>by simp only[atreeF,atree,achksF_eq,atreeF_eq Y base t]
noncomputable def astepF (c:SCode):Program→Tbl→Rec→AY→AE→List AD→AS→Option AOut:=
 @SCode.rec (fun _=>Program→Tbl→Rec→AY→AE→List AD→AS→Option AOut)
 (fun _ _ _ _ E D S=>some (.nrm,E,D,S))
 (fun l P tb rc Y E D S=>match aopsF P tb rc Y l E S with
  |some (.ok E' S')=>some (.nrm,E',D,S')
  |some (.pan ch S')=>match delA E (dstsOf l)with
   |some E'=>some (.pan ch,E',D,S')
   |none=>none
  |none=>none)
 (fun _ _ _ _ _ _ _ _ _ _=>none)
 (fun a b _ _ _ _ rc Y E D S=>match rc Y a E D S with
  |some (.nrm,E',D',S')=>rc Y b E' D' S'
  |r=>r)
 (fun c a b _ _ _ _ rc Y E D S=>match aev S.H E c with
  |some (.b t)=>bif t then rc Y a E D S else rc Y b E D S
  |_=>none)
 (fun id c _ _ _ rc Y E D S=>match rc Y c E D S with
  |some (.ex id',E',D',S')=>bif Nat.beq id' id then some (.nrm,E',D',S')else some (.ex id',E',D',S')
  |r=>r)
 (fun c _ _ _ rc Y E D S=>match aloop rc Y c D 17 E S with
  |.out o=>some o
  |_=>none)
 (fun c _ _ _ rc Y E D S=>match rc Y c E D S with
  |some (.gt _,_,_,_)=>none
  |r=>r)
 (fun id _ _ _ _ E D S=>some (.ex id,E,D,S))
 (fun _ _ _ _ E D S=>some (.ret,E,D,S))
 (fun g ps a b _ _ _ tb rc Y E D S=>match aev S.H E g with
  |some (.f f fi cap)=>match grow S.H S.N (.dfd true)with
   |some H1=>match grow H1 (S.N+1) (.loop .ready none)with
    |some H2=>match acall tb rc ((S.N+1,E,ps,a,b)::Y) f (joined fi (joined [.y (S.N+1)] cap)) ⟨H2,S.N+2⟩with
     |some (.ret _,S3)=>match S3.H.get (S.N+1)with
      |some (.loop st p)=>bif steq st .busy then none else
       match setL S3 (S.N+1) .exhausted p with
       |some S4=>match p with
        |none=>some (.nrm,E,.mk S.N::D,S4)
        |some none=>some (.ret,E,.mk S.N::D,S4)
        |some (some id)=>some (.ex id,E,.mk S.N::D,S4)
       |none=>none
      |_=>none
     |_=>none
    |none=>none
   |none=>none
  |_=>none)
 (fun l d x args P tb rc Y E D S=>match aopsF P tb rc Y l E S with
  |some (.ok E' S')=>match aev S'.H E' x,aevs S'.H E' args with
   |some (.f f fi cap),some vs=>match aupd E' d (.t [])with
    |some E2=>some (.nrm,E2,.fn f cap (joined fi vs)::D,S')
    |none=>none
   |_,_=>none
  |some (.pan ch S')=>match delA E (dstsOf l)with
   |some E'=>some (.pan ch,E',D,S')
   |none=>none
  |none=>none)
 (fun _ _ _ _ _ _ _ _=>none)
 (fun l t P tb rc Y E D S=>match atreeF P tb rc Y S.N t E ⟨S.H,S.N+maxL l+1⟩with
  |some (.ok E' S')=>some (.nrm,E',D,S')
  |some (.pan ch S')=>match delA E l with
   |some E'=>some (.pan ch,E',D,S')
   |none=>none
  |none=>none)
 (fun _ _ _ _ _ E D S=>some (.nrm,E,D,S))
 (fun l _ _ _ _ E D S=>some (.gt l,E,D,S))
 (fun c l r _ _ _ _ rc Y E D S=>match rc Y c E D S with
  |some (.gt l',E',D',S')=>bif Nat.beq l' l then match rc Y r E' D' S' with
    |some (.gt _,_,_,_)=>none
    |r=>r
   else none
  |r=>r)
 c
theorem astepF_eq {P:Program} {tb:Tbl} {rc:Rec} (Y:AY) (c:SCode) (E:AE) (D:List AD) (S:AS):astepF c P tb rc Y E D S=astep P tb rc Y c E D S:=by
 cases c with
 |ops l=>rw[as_ops,←aopsF_eq];rfl
 |tree l t=>rw[as_tree,←atreeF_eq];rfl
 |dfr l d x args=>rw[as_dfr,←aopsF_eq];rfl
 |loop c=>rw[as_loop];rfl
 |_=>rfl
noncomputable def arecF (P:Program) (tb:Tbl) (n:Nat):Rec:=Nat.rec (fun _ _ _ _ _=>none) (fun _ ih=>fun Y c E D S=>astepF c P tb ih Y E D S) n
theorem arecF_eq {P:Program} {tb:Tbl}:∀n:Nat,arecF P tb n=arec P tb n
 |0=>rfl
 |n+1=>by
  show(fun Y c E D S=>astepF c P tb (arecF P tb n) Y E D S)=(fun Y c E D S=>astep P tb (arec P tb n) Y c E D S)
  rw[arecF_eq n]
  funext Y c E D S
  exact astepF_eq Y c E D S
end Go.Sx
namespace Go.Sx
open Go
mutual
def sh (N:Nat):AV→AV
 |.p a o=>.p (N+a) o
 |.sl a o n c=>.sl (N+a) o n c
 |.su a o n k=>.su (N+a) o n k
 |.g l=>.g (shL N l)
 |.t l=>.t (shL N l)
 |v=>v
def shL (N:Nat):List AV→List AV
 |[]=>[]
 |x::l=>sh N x::shL N l
end
mutual
def like (ψ:Nat→Nat) (k:Nat):AV→AV→Bool
 |.i a n,v=>match v with|.i b z=>keq a b&&ieq n z|_=>false
 |.b s,v=>match v with|.b t=>beqB s t|_=>false
 |.s l,v=>match v with|.s m=>seq8 l m|_=>false
 |.p a o,v=>match v with|.p b q=>Nat.blt a k&&(Nat.beq (ψ a) b&&Nat.beq o q)|_=>false
 |.np,v=>match v with|.np=>true|_=>false
 |.sl a o n c,v=>match v with|.sl b q m d=>Nat.blt a k&&(Nat.beq (ψ a) b&&(Nat.beq o q&&(Nat.beq n m&&Nat.beq c d)))|_=>false
 |.su a o n c,v=>match v with|.su b q m d=>Nat.blt a k&&(Nat.beq (ψ a) b&&(Nat.beq o q&&(Nat.beq n m&&Nat.beq c d)))|_=>false
 |.ns,v=>match v with|.ns=>true|_=>false
 |.nm,v=>match v with|.nm=>true|_=>false
 |.ni,v=>match v with|.ni=>true|_=>false
 |.g l,v=>match v with|.g m=>likeL ψ k l m|_=>false
 |.t l,v=>match v with|.t m=>likeL ψ k l m|_=>false
 |_,_=>false
def likeL (ψ:Nat→Nat) (k:Nat):List AV→List AV→Bool
 |[],m=>match m with|[]=>true|_=>false
 |x::l,m=>match m with|y::m=>like ψ k x y&&likeL ψ k l m|[]=>false
end
section
variable {ρ1 ρ2:Rho} {ψ:Nat→Nat} {N k:Nat}
mutual
theorem like_conc (hop:ρ1.op=ρ2.op) (hpl:∀a r,a<k→ρ2.pl (ψ a)=some r→ρ1.pl (N+a)=some r):∀(a v:AV) (u:Value),like ψ k a v=true→conc ρ2 v=some u→conc ρ1 (sh N a)=some u
 |.i a n,v,u,h,hc=>by
  simp only[like]at h
  split at h
  ·simp only[Bool.and_eq_true]at h
   rw[keq_eq h.1,(ieq_iff _ _).1 h.2];simpa[sh,conc]using hc
  ·cases h
 |.b s,v,u,h,hc=>by
  simp only[like]at h
  split at h
  ·rw[beqB_eq.1 h];simpa[sh,conc]using hc
  ·cases h
 |.s l,v,u,h,hc=>by
  simp only[like]at h
  split at h
  ·rw[(seq8_iff _ _).1 h];simpa[sh,conc]using hc
  ·cases h
 |.p a o,v,u,h,hc=>by
  simp only[like]at h
  split at h
  ·simp only[Bool.and_eq_true,Nat.beq_eq]at h
   obtain⟨h1,h2,h3⟩:=h
   have h1:a<k:=Nat.le_of_ble_eq_true h1
   subst h2;subst h3
   simp only[conc]at hc
   split at hc
   ·rename_i hr
    simp only[sh,conc,hpl a _ h1 hr];exact hc
   ·cases hc
  ·cases h
 |.np,v,u,h,hc=>by
  simp only[like]at h
  split at h
  ·simpa[sh,conc]using hc
  ·cases h
 |.sl a o n c,v,u,h,hc=>by
  simp only[like]at h
  split at h
  ·simp only[Bool.and_eq_true,Nat.beq_eq]at h
   obtain⟨h1,h2,h3,h4,h5⟩:=h
   have h1:a<k:=Nat.le_of_ble_eq_true h1
   subst h2;subst h3;subst h4;subst h5
   simp only[conc]at hc
   split at hc
   ·rename_i hr
    simp only[sh,conc,hpl a _ h1 hr];exact hc
   ·cases hc
  ·cases h
 |.su a o n c,v,u,h,hc=>by
  simp only[like]at h
  split at h
  ·simp only[Bool.and_eq_true,Nat.beq_eq]at h
   obtain⟨h1,h2,h3,h4,h5⟩:=h
   have h1:a<k:=Nat.le_of_ble_eq_true h1
   subst h2;subst h3;subst h4;subst h5
   simp only[conc]at hc
   split at hc
   ·rename_i hr
    simp only[sh,conc,hpl a _ h1 hr];exact hc
   ·cases hc
  ·cases h
 |.ns,v,u,h,hc=>by
  simp only[like]at h
  split at h
  ·simpa[sh,conc]using hc
  ·cases h
 |.nm,v,u,h,hc=>by
  simp only[like]at h
  split at h
  ·simpa[sh,conc]using hc
  ·cases h
 |.ni,v,u,h,hc=>by
  simp only[like]at h
  split at h
  ·simpa[sh,conc]using hc
  ·cases h
 |.g l,v,u,h,hc=>by
  simp only[like]at h
  split at h
  ·simp only[conc]at hc
   split at hc
   ·rename_i x hx
    simp only[sh,conc,likeL_conc hop hpl l _ x h hx];exact hc
   ·cases hc
  ·cases h
 |.t l,v,u,h,hc=>by
  simp only[like]at h
  split at h
  ·simp only[conc]at hc
   split at hc
   ·rename_i x hx
    simp only[sh,conc,likeL_conc hop hpl l _ x h hx];exact hc
   ·cases hc
  ·cases h
 |.m _,v,u,h,hc=>by simp[like]at h
 |.f _ _ _,v,u,h,hc=>by simp[like]at h
 |.nf,v,u,h,hc=>by simp[like]at h
 |.y _,v,u,h,hc=>by simp[like]at h
 |.e _ _,v,u,h,hc=>by simp[like]at h
 |.q _,v,u,h,hc=>by simp[like]at h
theorem likeL_conc (hop:ρ1.op=ρ2.op) (hpl:∀a r,a<k→ρ2.pl (ψ a)=some r→ρ1.pl (N+a)=some r):∀(l m:List AV) (us:List Value),likeL ψ k l m=true→concs ρ2 m=some us→concs ρ1 (shL N l)=some us
 |[],m,us,h,hc=>by
  simp only[likeL]at h
  split at h
  ·simpa[shL,concs]using hc
  ·cases h
 |x::l,m,us,h,hc=>by
  simp only[likeL]at h
  split at h
  ·simp only[Bool.and_eq_true]at h
   simp only[concs]at hc
   split at hc
   ·rename_i v vs hv hvs
    simp only[shL,concs,like_conc hop hpl x _ v h.1 hv,likeL_conc hop hpl l _ vs h.2 hvs];exact hc
   ·cases hc
  ·cases h
end
end
def putBs (N:Nat):List (Nat×List AV)→Nat→AH→Option AH
 |[],_,H=>some H
 |(gz,l)::r,k,H=>match grow H (N+k) (.cells false gz (shL N l))with
  |some H'=>putBs N r (k+1) H'
  |none=>none
def areBs (ψ:Nat→Nat) (H2:AH):List (Nat×List AV)→Nat→Bool
 |[],_=>true
 |(gz,l)::r,k=>(match H2.get (ψ k)with
  |some (.cells w g m)=>(!w)&&(Nat.beq gz g&&(Nat.blt gz gM&&likeL ψ k l m))
  |_=>false)&&(Nat.ble gtop (ψ k)&&areBs ψ H2 r (k+1))
theorem merge {F:Nat→Prop} {h0 h h':Heap} {ρ2:Rho} {H2:AH} {ψ:Nat→Nat} {N:Nat} (R2:Rep (fun k=>k<h.size) h ρ2 H2 h') (hF:∀k,F k→k<h.size):
  ∀(bl:List (Nat×List AV)) (k:Nat) (ρ:Rho) (H H':AH),(∀j,j<k+bl.length→∀i,i<j→ψ i≠ψ j)→Rep F h0 ρ H h'→ρ.op=ρ2.op→(∀a r,a<k→ρ2.pl (ψ a)=some r→ρ.pl (N+a)=some r)→
  (∀a B r,H.get a=some B→B≠.dead→ρ.pl a=some r→r.1<h.size∨∃i B2,i<k∧ρ2.pl (ψ i)=some r∧H2.get (ψ i)=some B2∧B2≠.dead)→
  areBs ψ H2 bl k=true→putBs N bl k H=some H'→
  ∃ρ',Le ρ ρ'∧Rep F h0 ρ' H' h'∧∀a r,a<k+bl.length→ρ2.pl (ψ a)=some r→ρ'.pl (N+a)=some r
 |[],k,ρ,H,H',_,hR,_,hpl,_,_,hp=>by
  simp only[putBs,Option.some.injEq]at hp;subst hp
  exact⟨ρ,Le.refl ρ,hR,hpl⟩
 |(gz,l)::bl,k,ρ,H,H',hinj,hR,hop,hpl,hold,ha,hp=>by
  simp only[putBs]at hp
  split at hp
  ·rename_i H1 hg
   simp only[areBs,Bool.and_eq_true]at ha
   obtain⟨ha,hgt,har⟩:=ha
   have hgt:gtop≤ψ k:=Nat.le_of_ble_eq_true hgt
   split at ha
   ·rename_i w g m hm
    simp only[Bool.and_eq_true,Nat.beq_eq,Bool.not_eq_true']at ha
    obtain⟨rfl,rfl,hgm,hlk⟩:=ha
    obtain⟨⟨b,ba,cp⟩,hr2,hnF,hlt,vs,pre,tail,hcs,hpre,hcap,hblk,hty⟩:=R2.obj _ _ hm (by simp)
    obtain⟨_,_,get⟩:=grow_spec hg
    have hb:h.size≤b:=Nat.le_of_not_lt (hnF hgt)
    obtain⟨ρ1,hl1,hp1,_,R1⟩:=hR.add (id:=N+k) (b:=b) (ba:=ba) (cp:=cp) default hg (fun a' B' r' q1 q2 q3=>by
      rcases hold a' B' r' q1 q2 q3 with hlo|⟨i,B2,hi,q4,q5,q6⟩
      ·show r'.1≠b;omega
      ·exact R2.inj _ _ _ _ _ _ q5 q6 hm (by simp) q4 hr2 (hinj k (by simp) i hi))
     (fun hf=>by have:=hF _ hf;omega) hlt (Nat.le_refl _) (fun _ _ _=>rfl)
     (fun ρ' hl hp' _=>⟨vs,pre,tail,likeL_conc (by rw[hl.op,hop]) (fun a r ha hr=>hl.pl _ _ (hpl a r ha hr)) l m vs hlk hcs,hpre,by
      have:(shL N l).length=m.length:=(concs_len (likeL_conc (ρ1:=ρ') (N:=N) (by rw[hl.op,hop]) (fun a r ha hr=>hl.pl _ _ (hpl a r ha hr)) l m vs hlk hcs)).symm.trans (concs_len hcs)
      rw[this];exact hcap,hblk,hty⟩)
    obtain⟨ρ3,hl3,R3,hp3⟩:=merge R2 hF bl (k+1) ρ1 H1 H' (fun j hj=>hinj j (by simp at hj⊢;omega)) R1 (by rw[hl1.op,hop]) (fun a r hak hr=>by
      rcases Nat.lt_or_ge a k with hlt|hge
      ·exact hl1.pl _ _ (hpl a r hlt hr)
      ·have e:a=k:=by omega
       rw[e]at hr⊢
       rw[hr2]at hr;cases hr
       exact hp1)
     (fun a B r q1 q2 q3=>by
      rw[get a]at q1
      split at q1
      ·rename_i he;subst he
       rw[hp1]at q3;cases q3
       exact .inr ⟨k,_,Nat.lt_succ_self k,hr2,hm,by simp⟩
      ·rename_i hne
       obtain⟨r',q4,q5⟩:=hR.obj a B q1 q2
       have q6:=hl1.pl _ _ q4
       rw[q3]at q6;cases q6
       rcases hold a B r q1 q2 q4 with hlo|⟨i,B2,hi,x1,x2,x3⟩
       ·exact .inl hlo
       ·exact .inr ⟨i,B2,by omega,x1,x2,x3⟩)
     har hp
    exact⟨ρ3,hl1.trans hl3,R3,fun a r hak hr=>hp3 a r (by simp at hak⊢;omega) hr⟩
   ·cases ha
  ·cases hp
def toldP (txt:List UInt8) (bl:List (Nat×List AV)) (v:AV) (args:List AV) (S:AS):Option (AV×AS):=
 match args with
 |[.s l]=>bif seq8 l txt then match putBs S.N bl 0 S.H with
  |some H'=>some (sh S.N v,⟨H',S.N+bl.length⟩)
  |none=>none else none
 |_=>none
def isTold (ψ:Nat→Nat) (bl:List (Nat×List AV)) (v:AV):Option (AEnd×AS)→Bool
 |some (.ret u,S)=>areBs ψ S.H bl 0&&like ψ bl.length v u
 |_=>false
theorem told_ok {P:Program} {tb:Tbl} {oq:Nat→Value} {h0:Heap} {f n:Nat} {gs:List (Nat×List AV)} {ψ:Nat→Nat} {txt:List UInt8} {bl:List (Nat×List AV)} {v:AV}
  (hT:∀h:Heap,h0.size≤h.size→(∀k,k<h0.size→h[k]? =h0[k]?)→TOK P oq (fun k=>k<h.size) h tb)
  (hg:∀h:Heap,h0.size≤h.size→(∀k,k<h0.size→h[k]? =h0[k]?)→∀h1:∀j,(oq j).oneCell'=true,∀p∈gs,p.1<gtop∧∃vs,concs (gRho oq h1 gs) p.2=some vs∧Blk h p.1 vs)
  (hinj:∀j,j<0+bl.length→∀i,i<j→ψ i≠ψ j)
  (hr:isTold ψ bl v (acall tb (arecF P tb n) [] f [.s txt] ⟨gH gs,gtop⟩)=true):EntOK P oq (fun k=>k<h0.size) h0 f (.prim (toldP txt bl v)):=by
 intro ρ h args vs S S' u R hop hgo hR hcs hK
 unfold toldP at hgo
 split at hgo
 ·rename_i l
  cases hq:seq8 l txt with
  |false=>rw[hq]at hgo;simp at hgo
  |true=>
   rw[hq]at hgo
   have hl:=(seq8_iff _ _).1 hq
   subst hl
   simp only[cond_true]at hgo
   split at hgo
   ·rename_i H' hp
    simp only[Option.some.injEq,Prod.mk.injEq]at hgo
    obtain⟨rfl,rfl⟩:=hgo
    have hsz:h0.size≤h.size:=by
     rcases Nat.lt_or_ge h.size h0.size with hlt|hge
     ·have:=(hR.fr _ hlt).1;omega
     ·exact hge
    have hex:=fun k hk=>(hR.fr k hk).2
    have h1:∀j,(oq j).oneCell'=true:=by rw[←hop];exact ρ.op1
    rw[arecF_eq]at hr
    unfold isTold at hr
    split at hr
    ·rename_i w S2 hs
     simp only[Bool.and_eq_true]at hr
     refine(run_callsG (h1:=h1) (hT h hsz hex) (hg h hsz hex h1) hs (by simp only[concs,conc]at hcs⊢;exact hcs)).mono ?_
     rintro ee h' ⟨ρ2,hl2,R2,x,rfl,hx⟩
     have hop2:ρ.op=ρ2.op:=by rw[hl2.op,hop];rfl
     have hRg:=hR.grown (h':=h') (by
      rcases Nat.lt_or_ge h'.size h.size with hlt|hge
      ·have:=(R2.fr _ hlt).1;omega
      ·exact hge) (fun k hk=>(R2.fr k hk).2)
     obtain⟨ρ3,hl3,R3,hp3⟩:=merge (N:=S.N) R2 (fun k hk=>Nat.lt_of_lt_of_le hk hsz) bl 0 ρ S.H H' hinj hRg hop2 (fun a r ha=>absurd ha (Nat.not_lt_zero _)) (fun a B r q1 q2 q3=>.inl (by
      obtain⟨r',q4,_,q5,_⟩:=hR.obj a B q1 q2
      rw[q3]at q4;cases q4;exact q5)) hr.1 hp
     exact hK ρ3 h' x hl3 R3 (like_conc (by rw[hl3.op,hop2]) (fun a r ha hr=>hp3 a r (by omega) hr) v w x hr.2 hx)
    ·cases hr
   ·cases hgo
 ·cases hgo
end Go.Sx
