/-
  Layer 22: RunnerNil's contract: vast() or a long record: known(); else a run, the request and the record not looked at.
  Layer 22: arguments opened: a request at a time; a list of texts.
-/
import Derived.Test.YtikcimlokhmleaaGreatDoorRXJ
import Derived.Test.YtikcimlokhmleaaGreatDoorRXH
set_option linter.unusedSimpArgs false
set_option linter.unusedVariables false
namespace Go.Proofs.YtikcimlokhmleaaGreatDoor
open Go Go.Sx C
def pKnown (args:List AV) (S:AS):Option (AV×AS):=
 match args with
 |[]=>some (.b true,S)
 |_=>none
theorem pKnown_ok {oq:Nat→Value} {h0:Heap} (hs:LaidS h0):EntOK Tryz.prog oq (fun k=>k<h0.size) h0 5 (.prim pKnown):=by
 intro ρ h args vs S S' u R hop hg hR hcs hK
 unfold pKnown at hg
 split at hg
 ·simp at hg;obtain⟨rfl,rfl⟩:=hg
  simp[concs]at hcs
  subst hcs
  have hl:LaidS h:=laid_on hs (by
   rcases Nat.lt_or_ge h.size h0.size with hlt|hge
   ·have:=(hR.fr _ hlt).1;omega
   ·exact hge) fun k hk=>(hR.fr k hk).2
  refine(known_ret hl).mono ?_
  intro e h' he
  cases e with
  |returned u=>
   obtain⟨rfl,hch⟩:=he
   exact hK ρ h' _ (Le.refl ρ) (hR.grown hch.size hch.ext) rfl
  |panicked ch=>exact he.elim
  |outgrown=>exact he.elim
 ·simp at hg
noncomputable def tbN:Tbl:=.node Q.tb 5 (.prim pKnown) Q.tb
theorem tbN_ok {oq:Nat→Value} {h0:Heap} (hs:LaidS h0):TOK Tryz.prog oq (fun k=>k<h0.size) h0 tbN:=⟨Q.tb_ok _ _ _,pKnown_ok hs,Q.tb_ok _ _ _⟩
def restN:SCode:=(.seq (.ops f3r3) (.seq (.ops f3r4) (.seq (.ops f3r5) (.seq (.ops f3r6) (.seq (.ops f3r7) (.seq (.ops f3r8) (.seq (.ops f3r9) (.seq (.ops f3r10) (.seq (.ops f3r11) (.seq (.ops f3r12) .ret))))))))))
def askA:AB:=.cells false 0 [.q 0,.q 1]
def envA:Option AE:=match T.put (.e:AE) 1 (some (.q 2))with
 |some E=>T.put E 2 (some (.p 1000 0))
 |none=>none
def endsTrue:Option (AX×AE×List AD×AS)→Bool
 |some (.ret,E,[],_)=>match E.get 4 with
  |some (.b true)=>true
  |_=>false
 |_=>false
noncomputable def restRun:Bool:=match grow (gH gsS) 1000 askA,envA with
 |some H,some E=>endsTrue (arecF Tryz.prog tbN 1000 [] restN E [] ⟨H,1001⟩)
 |_,_=>false
set_option maxRecDepth 1000000 in
theorem rest_run:restRun=true:=by kernel_rfl
theorem rest_swp {h h1 h3:Heap} {b:Nat} {va vb vr:Value} (hl:LaidS h) (g:Grow h h1 b [va,vb]) (c3:Chg [] h1 h3) (oa:va.oneCell'=true) (ob:vb.oneCell'=true) (orr:vr.oneCell'=true):
  swp Tryz.prog restN (retQ [.t 4] (Ret fun r h'=>r=.bool true∧Chg [] h h')) (mk [(1,vr),(2,.pointer (some ⟨b,0,none⟩))]) [] h3:=by
 have hr:=rest_run
 unfold restRun at hr
 split at hr
 ·rename_i H E hg hE
  rw[arecF_eq]at hr
  unfold endsTrue at hr
  split at hr
  ·rename_i E' S' hs
   have h1o:∀j,(told [va,vb,vr] j).oneCell'=true:=told_one (by
    intro u hu
    simp at hu
    rcases hu with rfl|rfl|rfl<;>assumption)
   have R0:=rep_globals (h1:=h1o) (spaces hl)
   obtain⟨ρ,hle,hp,R1⟩:=R0.newCells (w:=false) (cp:=0) (vs:=[va,vb]) (tail:=[]) hg (by simp[concs,conc,gRho,told]) g (fun h=>absurd rfl h)
   have R3:=R1.grown c3.size c3.ext
   have hop:ρ.op=told [va,vb,vr]:=by rw[hle.op];rfl
   unfold envA at hE
   split at hE
   ·rename_i E1 hE1
    have e1:=T.put_get hE1
    have e2:=T.put_get hE
    have hRE:RE ρ E (mk [(1,vr),(2,.pointer (some ⟨b,0,none⟩))]):=by
     intro t a ht
     rw[e2 t,e1 t]at ht
     split at ht
     ·rename_i q;subst q
      cases ht
      exact⟨_,by simp only[conc,hp],rfl⟩
     ·split at ht
      ·rename_i q;subst q
       cases ht
       refine⟨vr,?_,rfl⟩
       simp only[conc,hop];rfl
      ·simp[T.get_e]at ht
    refine(arec_sound (tbN_ok (oq:=told [va,vb,vr]) hl) 1000:XOK Tryz.prog _ (fun k=>k<h.size) h (arec Tryz.prog tbN 1000)) hs R3 hRE rfl ⟨hop,fun l E ps a b hy=>by simp[yfind]at hy⟩ ?_
    rintro ρ' h' σ' ds' xx hl' R' hE' hD hX
    cases hX
    cases hD
    split at hr
    ·rename_i hE4
     obtain⟨v,hv,hσ⟩:=hE' 4 _ hE4
     simp[conc]at hv;subst hv
     have hch:Chg [] h h':=chg_of_ext fun k hk=>(R'.fr k hk).2
     simp only[retQ,leaveQ,resQ,hσ]
     exact Ai rfl hch
    ·cases hr
   ·cases hE
  ·cases hr
 ·cases hr
set_option maxRecDepth 100000 in
theorem rn_calls {h:Heap} {now:Int} {va:Value} {ks rs:List ByteArray} {vr:Value} (sl:SL encS h va ks) (hk:ks.length<4611686018427387904) (sr:SL encS h vr rs) (hl:LaidS h):
  CallsH Tryz.prog 3 [.agg ⟨[.int .i64 now,va]⟩,vr] h (Ret fun r h'=>r=.bool true∧Chg [] h h'):=by
 obtain⟨ra,rc,rfl,_⟩:=sr.form
 have ova:va.oneCell'=true:=by obtain⟨xa,xc,rfl,_⟩:=sl.form;rfl
 refine f3_calls (by simp) ?_
 intro b2 h1 g1
 have B2:Blk h1 b2 [.int .i64 now,va]:=g1.blk
 refine Ei _ (Ai rfl (Ai (cells_blk B2) ?_))
 intro b15 h2 g2
 have B15:Blk h2 b15 [.int .i64 now,va]:=g2.blk
 have c2:=g1.chg.nil g2.chg
 refine call_ret (vast_calls B15 (sl.ext c2) hk) ?_
 rintro _ h3 ⟨⟨t,rfl⟩,c3⟩
 have c03:=c2.nil c3
 have known:∀{h4:Heap},Chg [] h h4→CallsH Tryz.prog 5 [] h4 (Ret fun r h'=>r=.bool true∧Chg [] h h'):=fun c4=>by
  refine(known_ret (hl.ext c4)).mono ?_
  intro e h' he
  cases e with
  |returned u=>exact⟨he.1,c4.nil he.2⟩
  |panicked ch=>exact he.elim
  |outgrown=>exact he.elim
 cases t with
 |true=>
  refine call_ret (known c03) ?_
  rintro _ h4 ⟨rfl,c4⟩
  exact Ai rfl c4
 |false=>
  refine Ai rfl (Ai (fun _=>?_) (fun _=>?_))
  ·refine call_ret (known c03) ?_
   rintro _ h4 ⟨rfl,c4⟩
   exact Ai rfl c4
  ·exact cut_at [(1,.slice ra rs.length rc),(2,.pointer (some ⟨b2,0,none⟩))] ⟨rfl,rfl,trivial⟩ (rest_swp hl g1 (g2.chg.nil c3) rfl ova rfl)
end Go.Proofs.YtikcimlokhmleaaGreatDoor
namespace Go.Proofs.YtikcimlokhmleaaGreatDoor
open Go Go.Sx Go.ChangeShapes Go.WideShapes Go.ChangeAt Go.RowKit
theorem len2 {α:Type} {l:List α} (h:l.length=2):∃a0 a1,l=[a0,a1]:=by
 match l,h with
 |[a0,a1],_=>exact⟨a0,a1,rfl⟩
section
variable {H:Type} {enc:TypeId×Value→H} {W:World} {base:Nat} {sp:Nat→Bool} {held:Bool}
theorem open_s {n:Nat} {cs:List Value} {x:DataW H×List MemPlace} (h:DataW.trod enc Tryz.prog W base sp held n 9 cs=some x) (hw:Wts Tryz.prog 9 x.1):∃a:ByteArray,cs=encS a∧True:=by
 obtain⟨nm,e0,_⟩:=str_of_trod Tryz.underlying9 h hw
 exact⟨nm,e0,trivial⟩
set_option maxRecDepth 100000 in
theorem open_names {n:Nat} {v:Value} {x:DataW H×List MemPlace} (h:DataW.trod enc Tryz.prog W base sp held n 22 [v]=some x) (hw:Wts Tryz.prog 22 x.1):∃l:List ByteArray,SL encS W.heap v l∧l.length<4611686018427387904:=by
 obtain⟨l,sl,_,nl⟩:=open_cell (k:=1) (en:=encS) Tryz.underlying22 (by kernel_rfl) (by decide) encS_len (fun n cs x h hw=>open_s h hw) h hw
 have b:Tryz.prog.bytesOf 9=16:=by kernel_rfl
 rw[b]at nl
 have:=reachBytes_lt
 exact⟨l,sl,by omega⟩
set_option maxRecDepth 100000 in
theorem open_list {b0:Nat} {r:Reach} {v:Value} {d:DataW H} {ps:List MemPlace} (hval:Value.okWide Tryz.prog W r b0 22 v) (h:DataW.Trod enc Tryz.prog W base sp held 22 v d ps) (hw:Wts Tryz.prog 22 d):
  ∃l:List ByteArray,SL encS W.heap v l∧l.length<4611686018427387904:=by
 obtain⟨n,hn⟩:=cell_arg Tryz.underlying22 hval h
 exact open_names hn hw
set_option maxRecDepth 100000 in
theorem open_ask {b0:Nat} {r:Reach} {v:Value} {d:DataW H} {ps:List MemPlace} (hval:Value.okWide Tryz.prog W r b0 24 v) (h:DataW.Trod enc Tryz.prog W base sp held 24 v d ps) (hw:Wts Tryz.prog 24 d):
  ∃(now:Int) (va:Value) (ks:List ByteArray),v=.agg ⟨[.int .i64 now,va]⟩∧SL encS W.heap va ks∧ks.length<4611686018427387904:=by
 obtain⟨cs,rfl,hcs⟩:=okWide_struct Tryz.underlying24 hval
 obtain⟨fuel,h⟩:=h
 obtain⟨xs,m,rfl,hx,hl,hls,hi⟩:=DataW.trod_struct Tryz.underlying24 h
 have hd:d=.agg (xs.map (·.1)):=congrArg Prod.fst hx
 have c2:Tryz.prog.cellsOf 2=1:=by kernel_rfl
 have cs':Tryz.prog.cellsOf 22=1:=by kernel_rfl
 have cc:Tryz.prog.cellsOf 24=2:=by kernel_rfl
 rw[cc]at hl
 obtain⟨cs⟩:=cs
 obtain⟨a0,a1,rfl⟩:=len2 (l:=cs) hl
 obtain⟨y0,y1,rfl⟩:=len2 (l:=xs) hls
 have h0:=fld hi 0 2 0 1 rfl rfl rfl c2 rfl rfl
 have h1:=fld hi 1 22 1 1 rfl rfl rfl cs' rfl rfl
 have hwk:∀(i t:Nat) (y:DataW H×List MemPlace),[2,22][i]? =some t→[y0,y1][i]? =some y→Wts Tryz.prog t y.1:=by
  intro i t y ht hy k hk
  refine hw k ?_
  rw[hd]
  simp only[DataW.weights,Tryz.underlying24]
  refine DataW.weights_mem_each (j:=i) (t:=t) (d:=y.1) ?_ ?_ k hk
  ·exact ht
  ·rw[List.getElem?_map,hy];rfl
 obtain⟨z0,e0,_,_⟩:=DataW.trod_int Tryz.underlying2 h0
 obtain⟨ks,sk,nk⟩:=open_names h1 (hwk 1 22 y1 rfl rfl)
 obtain⟨rfl⟩:=e0
 exact⟨z0,a1,ks,rfl,sk,nk⟩
end
end Go.Proofs.YtikcimlokhmleaaGreatDoor
