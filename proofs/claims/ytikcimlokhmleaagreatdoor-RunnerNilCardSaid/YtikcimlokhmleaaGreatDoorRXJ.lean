/-
  Layer 17: trees as they stand in memory; how many nodes one has: a number.
  Layer 22: trees and the blocks that they lie in; the document's reader of words as it stands in memory; its small steps.
  Layer 22: the document's reader: its small steps.
  Layer 22: the document's reader: brackets, ends of blocks, names.
  Layer 22: the document's reader: lists, blocks, brackets, given what statements and expressions come to.
  Layer 22: the document's reader: what stands in brackets, what is opened, what is ended.
  Layer 22: the document's reader: what stands behind local; operands.
  Layer 22: the document's reader: operands, what stands ahead of them.
  The simplified code of this seat's functions, and that it is what the program's code comes to. Printed by a program (wip/print.lean).
  Layer 22: the document's reader: indices, items, tables.
  Layer 22: the document's reader: items, tables.
  Layer 22: the document's reader: what stands behind if, and for.
  Layer 22: the document's reader: if and for.
  Layer 22: the document's reader: statements.
  Layer 22: the document's reader: how strong operators bind; what stands ahead of operands.
  Layer 22: the document's reader: expressions.
  Layer 22: the document's reader: all of it, by how many words are left.
  Layer 22: the document's words: bytes, names, numbers, blanks.
  Layer 22: the document's words: bytes that are put together; names, numbers, blanks, texts.
  Layer 22: the document's words: blanks, signs, texts.
  Layer 22: the document's words: texts.
  Layer 22: the document's words.
  Layer 22: the document's words and trees of a text: there are some, or there is none; is a request vast?
-/
import Derived.Test.YtikcimlokhmleaaGreatDoorProg
import Derived.Test.YtikcimlokhmleaaGreatDoorRXI
set_option linter.unusedSimpArgs false
set_option linter.unusedVariables false
namespace Go.Proofs.YtikcimlokhmleaaGreatDoor
open Go Go.Sx C
def encS (s:ByteArray):List Value:=[.string s]
theorem encS_len (p:ByteArray):(encS p).length=1:=rfl
inductive ND where
 |mk (k:Int) (s t:ByteArray) (i:Int) (u:Value) (ns:List ByteArray) (v:Value) (l:List ND)
def encN:ND→List Value
 |.mk k s t i u _ v _=>[.int .i64 k,.string s,.string t,.int .i64 i,u,v]
mutual
def ND.ok (h:Heap):ND→Prop
 |.mk _ _ _ _ u ns v l=>SL encS h u ns∧ns.length<4611686018427387904∧SL encN h v l∧l.length<4611686018427387904∧ND.oks h l
def ND.oks (h:Heap):List ND→Prop
 |[]=>True
 |t::l=>t.ok h∧ND.oks h l
end
mutual
theorem ND.ok.ext {h h':Heap} (hc:Chg [] h h'):∀{t:ND},t.ok h→t.ok h'
 |.mk _ _ _ _ _ _ _ _,⟨h1,h2,h3,h4,h5⟩=>⟨h1.ext hc,h2,h3.ext hc,h4,ND.oks.ext hc h5⟩
theorem ND.oks.ext {h h':Heap} (hc:Chg [] h h'):∀{l:List ND},ND.oks h l→ND.oks h' l
 |[],_=>trivial
 |_::_,⟨h1,h2⟩=>⟨h1.ext hc,ND.oks.ext hc h2⟩
end
theorem ND.oks.mem {h:Heap}:∀{l:List ND},ND.oks h l→∀t∈l,t.ok h
 |_::_,⟨h1,h2⟩,t,ht=>by
  rcases List.mem_cons.1 ht with rfl|ht
  ·exact h1
  ·exact ND.oks.mem h2 t ht
theorem encN_len:∀t,(encN t).length=6
 |.mk _ _ _ _ _ _ _ _=>rfl
theorem ND.ok.ones {h:Heap}:∀{t:ND},t.ok h→∀u∈encN t,u.oneCell'=true
 |.mk k s t i u ns v l,⟨h1,_,h3,_⟩,x,hx=>by
  obtain⟨a,c,rfl,_⟩:=h1.form
  obtain⟨a',c',rfl,_⟩:=h3.form
  simp[encN]at hx
  rcases hx with rfl|rfl|rfl|rfl|rfl|rfl<;>rfl
theorem sizeOf_kid {k:Int} {s t:ByteArray} {i:Int} {u:Value} {ns:List ByteArray} {v:Value} {l:List ND} {q:Nat} (hq:q<l.length):SizeOf.sizeOf l[q]<SizeOf.sizeOf (ND.mk k s t i u ns v l):=by
 have h1:=List.sizeOf_lt_of_mem (List.getElem_mem hq)
 rw[ND.mk.sizeOf_spec];omega
theorem count_calls:∀(n:Nat) (a:ND) (most:Int) (h:Heap),SizeOf.sizeOf a<n→a.ok h→CallsH Tryz.prog 51 [.agg ⟨encN a⟩,.int .i64 most] h (Ret fun r h'=>(∃z,r=.int .i64 z)∧Chg [] h h')
 |0,_,_,_,hn,_=>absurd hn (by omega)
 |n+1,.mk k s t i u ns v l,most,h,hn,⟨_,_,hv,hl,hls⟩=>by
  obtain⟨x,c,rfl,hlc⟩:=hv.form
  refine f51_calls (by simp) ?_
  intro b1 h1 g1
  have B1:Blk h1 b1 [.int .i64 k,.string s,.string t,.int .i64 i,u,.slice x l.length c]:=g1.blk
  refine loop_intro (fun p:Nat×Int=>[(1,.int .i64 most),(2,.pointer (some ⟨b1,0,none⟩)),(5,.int .i64 p.2),(6,.int .i64 p.1)]) (fun p h'=>p.1≤l.length∧Chg [] h1 h') (fun p=>l.length-p.1) (0,1) ⟨rfl,rfl,rfl,rfl,trivial⟩ ⟨Nat.zero_le _,Chg.refl _⟩ ?_
  rintro⟨q,z⟩ h2 ⟨hq,hc1⟩
  have C1:=B1.chg hc1 (by simp)
  have hch:=g1.chg.nil hc1
  refine Ei _ (Ai (cell_blk C1 rfl) (Ai rfl (Ai (fun hlt=>?_) (fun hge=>?_))))
  ·have hlt:q<l.length:=by simp only at hlt hq;omega
   refine Ai rfl (Ai (fun hle=>?_) (fun hgt=>?_))
   ·obtain⟨b,o,rfl⟩:=hv.addr (by omega)
    have hcs:=(hv.ext hch).cells encN_len (i:=q) (x:=l[q]) (by simp[hlt])
    refine Ei _ (Ai (cell_blk C1 rfl) ?_)
    refine Ai (by simp only;omega) (Ai (by simp only;omega) (Ei (encN l[q]) (Ai (encN_len _) (Ai hcs ?_))))
    refine Ai rfl (fun z3 _=>?_)
    refine call_ret (count_calls n l[q] z3 h2 (by have:=sizeOf_kid (k:=k) (s:=s) (t:=t) (i:=i) (u:=u) (ns:=ns) (v:=.slice (some ⟨b,o,none⟩) l.length c) hlt;omega) ((hls.mem _ (List.getElem_mem hlt)).ext hch)) ?_
    rintro _ h3 ⟨⟨z4,rfl⟩,hc3⟩
    refine Ai rfl (fun z5 _=>?_)
    refine Ai rfl (fun z6 hz=>?_)
    have hz:=add_in hz (by omega) (by omega)
    subst hz
    exact Ai rfl (Ei (q+1,z5) (Ai ⟨rfl,rfl,rfl,rfl,trivial⟩ (Ai ⟨hlt,hc1.nil hc3⟩ (by simp only;omega))))
   ·exact Ai (Ei z rfl) hch
  ·exact Ai (Ei z rfl) hch
mutual
def ND.blks:ND→List Nat
 |.mk _ _ _ _ u _ v l=>vblk u++(vblk v++ND.blkss l)
def ND.blkss:List ND→List Nat
 |[]=>[]
 |t::l=>t.blks++ND.blkss l
end
theorem ND.blkss_of:∀{l:List ND} {q:Nat},q∈ND.blkss l→∃t∈l,q∈t.blks
 |x::l,q,h=>by
  simp only[ND.blkss,List.mem_append]at h
  rcases h with h|h
  ·exact⟨x,by simp,h⟩
  ·obtain⟨t,ht,hq⟩:=ND.blkss_of h
   exact⟨t,by simp[ht],hq⟩
mutual
theorem ND.ok.chg {S:List Nat} {h h':Heap} (hc:Chg S h h'):∀{t:ND},t.ok h→(∀q∈t.blks,q∉S)→t.ok h'
 |.mk _ _ _ _ _ _ _ _,⟨h1,h2,h3,h4,h5⟩,hn=>⟨h1.chg hc fun q hq=>hn q (by simp[ND.blks,hq]),h2,h3.chg hc fun q hq=>hn q (by simp[ND.blks,hq]),h4,ND.oks.chg hc h5 fun q hq=>hn q (by simp[ND.blks,hq])⟩
theorem ND.oks.chg {S:List Nat} {h h':Heap} (hc:Chg S h h'):∀{l:List ND},ND.oks h l→(∀q∈ND.blkss l,q∉S)→ND.oks h' l
 |[],_,_=>trivial
 |_::_,⟨h1,h2⟩,hn=>⟨ND.ok.chg hc h1 fun q hq=>hn q (by simp[ND.blkss,hq]),ND.oks.chg hc h2 fun q hq=>hn q (by simp[ND.blkss,hq])⟩
end
theorem oks_all {h:Heap}:∀{l:List ND},(∀t∈l,t.ok h)→ND.oks h l
 |[],_=>trivial
 |t::l,hl=>⟨hl t (by simp),oks_all fun u hu=>hl u (by simp[hu])⟩
abbrev zN:List Value:=[(.int .i64 0),(.string ⟨#[]⟩),(.string ⟨#[]⟩),(.int .i64 0),(.slice none 0 0),(.slice none 0 0)]
structure Made (lo:Nat) (h:Heap) (t:ND):Prop where
 ok:t.ok h
 fr:∀q∈t.blks,lo≤q∧q<h.size
theorem Made.chg {lo:Nat} {S:List Nat} {h h':Heap} {t:ND} (m:Made lo h t) (hc:Chg S h h') (hn:∀q∈t.blks,q∉S):Made lo h' t:=⟨m.ok.chg hc hn,fun q hq=>⟨(m.fr q hq).1,Nat.lt_of_lt_of_le (m.fr q hq).2 hc.size⟩⟩
theorem Made.old {lo:Nat} {S:List Nat} {h h':Heap} {t:ND} (m:Made lo h t) (hc:Chg S h h') (hS:∀x∈S,x<lo∨h.size≤x):Made lo h' t:=m.chg hc fun q hq hin=>by
 have:=m.fr q hq
 rcases hS q hin with h|h<;>omega
theorem Made.ext {lo:Nat} {h h':Heap} {t:ND} (m:Made lo h t) (hc:Chg [] h h'):Made lo h' t:=m.chg hc (by simp)
theorem Made.lo {lo lo':Nat} {h:Heap} {t:ND} (m:Made lo h t) (hl:lo'≤lo):Made lo' h t:=⟨m.ok,fun q hq=>⟨Nat.le_trans hl (m.fr q hq).1,(m.fr q hq).2⟩⟩
structure Kids (lo:Nat) (h:Heap) (v:Value) (L:List ND):Prop where
 ol:OL encN 6 h v L
 fr:∀q∈vblk v,lo≤q∧q<h.size
 ok:∀t∈L,Made lo h t
 aw:∀t∈L,∀q∈t.blks,q∉vblk v
theorem Kids.nil {lo:Nat} {h:Heap}:Kids lo h (.slice none 0 0) []:=⟨OL.nil,by simp[vblk,ablk],by simp,by simp⟩
theorem Kids.old {lo:Nat} {S:List Nat} {h h':Heap} {v:Value} {L:List ND} (k:Kids lo h v L) (hc:Chg S h h') (hS:∀x∈S,x<lo∨h.size≤x):Kids lo h' v L:=
 ⟨k.ol.chg hc fun q hq hin=>by have:=k.fr q hq;rcases hS q hin with h|h<;>omega,fun q hq=>⟨(k.fr q hq).1,Nat.lt_of_lt_of_le (k.fr q hq).2 hc.size⟩,fun t ht=>(k.ok t ht).old hc hS,k.aw⟩
theorem Kids.ext {lo:Nat} {h h':Heap} {v:Value} {L:List ND} (k:Kids lo h v L) (hc:Chg [] h h'):Kids lo h' v L:=k.old hc (by simp)
theorem Kids.lo {lo lo':Nat} {h:Heap} {v:Value} {L:List ND} (k:Kids lo h v L) (hl:lo'≤lo):Kids lo' h v L:=⟨k.ol,fun q hq=>⟨Nat.le_trans hl (k.fr q hq).1,(k.fr q hq).2⟩,fun t ht=>(k.ok t ht).lo hl,k.aw⟩
theorem Kids.one {lo:Nat} {h h':Heap} {t:ND} {b:Nat} (m:Made lo h t) (g:Grow h h' b (encN t)) (hl:lo≤h.size):Kids lo h' (.slice (some ⟨b,0,none⟩) 1 1) [t]:=by
 have i:=g.id
 have s:=g.size
 refine⟨OL.mk (rest:=[]) rfl (Nat.le_refl _) (by simpa using g.blk) (by simp[encN_len]),fun q hq=>?_,fun x hx=>?_,fun x hx q hq hin=>?_⟩
 ·simp[vblk,ablk]at hq;omega
 ·have hx:=List.mem_singleton.1 hx;subst hx;exact m.ext g.chg
 ·have hx:=List.mem_singleton.1 hx;subst hx
  have:=m.fr q hq
  simp[vblk,ablk]at hin;omega
theorem Kids.two {lo:Nat} {h h':Heap} {t u:ND} {b:Nat} (m:Made lo h t) (m2:Made lo h u) (g:Grow h h' b (encN t++encN u)) (hl:lo≤h.size):Kids lo h' (.slice (some ⟨b,0,none⟩) 2 2) [t,u]:=by
 have i:=g.id
 have s:=g.size
 refine⟨OL.mk (rest:=[]) rfl (Nat.le_refl _) (by simpa using g.blk) (by simp[encN_len]),fun q hq=>?_,fun x hx=>?_,fun x hx q hq hin=>?_⟩
 ·simp[vblk,ablk]at hq;omega
 ·rcases List.mem_cons.1 hx with hx|hx
  ·subst hx;exact m.ext g.chg
  ·have hx:=List.mem_singleton.1 hx;subst hx;exact m2.ext g.chg
 ·simp[vblk,ablk]at hin
  rcases List.mem_cons.1 hx with hx|hx
  ·subst hx;have:=m.fr q hq;omega
  ·have hx:=List.mem_singleton.1 hx;subst hx;have:=m2.fr q hq;omega
theorem Kids.add2 {lo:Nat} {h h1:Heap} {oa:Option Addr} {oc:Nat} {L:List ND} {t:ND} {b:Nat} (k:Kids lo h (.slice oa L.length oc) L) (m:Made lo h t) (ma:∀q∈t.blks,q∉ablk oa) (hl:lo≤h.size) (g:Grow h h1 b (encN t)) (hL:L.length<10000)
  {K:Value→Heap→Prop} (hK:∀oa' oc' h2,Kids lo h2 (.slice oa' (L++[t]).length oc') (L++[t])→Chg (ablk oa) h h2→(∀q∈ablk oa',q∈ablk oa∨h.size≤q)→K (.slice oa' (L++[t]).length oc') h2):
  appP h1 K 6 96 zN oa L.length oc (some ⟨b,0,none⟩) 1:=by
 have hsl:=SL.one encN_len g.blk
 have k1:=k.ext g.chg
 have m1:=m.ext g.chg
 have gi:=g.id
 have gs:=g.size
 -- the items' cells are of one value each
 have hones:∀x∈L++[t],∀u∈encN x,u.oneCell'=true:=by
  intro x hx
  rcases List.mem_append.1 hx with hx|hx
  ·exact(k.ok x hx).ok.ones
  ·have hx:=List.mem_singleton.1 hx;subst hx;exact m.ok.ones
 obtain⟨hn,hrep⟩:=k1.ol.open
 have hsl1:=k1.ol.sl
 refine⟨L.flatMap encN,[t].flatMap encN,flatMap_len encN_len L,flatMap_len encN_len [t],hsl1.src,hsl.src,?_,fun hroom=>?_,fun hfull=>⟨by omega,fun c' b' h' hc' hg=>?_⟩⟩
 ·intro u hu
  obtain⟨x,hx,hx2⟩:=List.mem_flatMap.1 hu
  exact hones x (List.mem_append_right _ hx) u hx2
 ·rcases hrep with⟨rfl,rfl,rfl⟩|⟨b0,rfl,h2,rest,hb,h3⟩
  ·simp at hroom
  ·have hlen1:=flatMap_len encN_len L
   have hlen2:([t].flatMap encN).length=6:=by simp[encN_len]
   have hcs:(L.length+1)*6≤oc*6:=Nat.mul_le_mul_right _ hroom
   refine⟨_,hb,by rw[h3];omega,fun h' hp=>?_⟩
   have hrl:([t].flatMap encN).length≤rest.length:=by
    rw[List.length_append]at h3;omega
   have hsp:splice (L.flatMap encN++rest) (0+L.length*6) ([t].flatMap encN)=(L++[t]).flatMap encN++rest.drop ([t].flatMap encN).length:=by
    rw[Nat.zero_add,←hlen1,splice_mid _ _ _ hrl];simp
   rw[hsp]at hp
   have e1:L.length+1=(L++[t]).length:=by simp
   have hol:OL encN 6 h' (.slice (some ⟨b0,0,none⟩) (L++[t]).length oc) (L++[t]):=by
    refine OL.mk rfl (by rw[←e1];exact hroom) hp.blk ?_
    rw[←h3];simp only[List.length_append,List.length_drop,List.flatMap_append]at h3 hrl⊢;omega
   have hb0:=k.fr b0 (by simp[vblk,ablk])
   rw[show L.length+1=(L++[t]).length from e1]
   refine hK _ _ _ ⟨hol,fun q hq=>?_,fun x hx=>?_,fun x hx=>?_⟩ (g.chg.trans hp.chg (fun _ hx=>by simp at hx) (fun _ hx _=>hx)) (fun q hq=>.inl hq)
   ·simp[vblk,ablk]at hq;have:=hp.chg.size;omega
   ·rcases List.mem_append.1 hx with hx|hx
    ·exact(k1.ok x hx).chg hp.chg (k.aw x hx)
    ·have hx:=List.mem_singleton.1 hx;subst hx;exact m1.chg hp.chg ma
   ·rcases List.mem_append.1 hx with hx|hx
    ·exact k.aw x hx
    ·have hx:=List.mem_singleton.1 hx;subst hx;exact ma
 ·have e1:L.length+1=(L++[t]).length:=by simp
  have hol:OL encN 6 h' (.slice (some ⟨b',0,none⟩) (L++[t]).length c') (L++[t]):=by
   refine OL.mk (rest:=(List.replicate (c'-(L.length+1)) zN).flatten) rfl (by rw[←e1];exact hc') ?_ ?_
   ·have:=hg.blk
    simpa using this
   ·have hlen1:=flatMap_len encN_len (L++[t])
    rw[List.length_append,hlen1,←e1]
    have:((List.replicate (c'-(L.length+1)) zN).flatten).length=(c'-(L.length+1))*6:=by simp
    rw[this,←Nat.add_mul]
    congr 1;omega
  have i':=hg.id
  have s':=hg.size
  rw[show L.length+1=(L++[t]).length from e1]
  refine hK _ _ _ ⟨hol,fun q hq=>?_,fun x hx=>?_,fun x hx q hq hin=>?_⟩ ((g.chg.nil hg.chg).mono (by simp)) (fun q hq=>.inr (by simp[ablk]at hq;omega))
  ·simp[vblk,ablk]at hq;omega
  ·rcases List.mem_append.1 hx with hx|hx
   ·exact(k1.ok x hx).ext hg.chg
   ·have hx:=List.mem_singleton.1 hx;subst hx;exact m1.ext hg.chg
  ·simp[vblk,ablk]at hin
   rcases List.mem_append.1 hx with hx|hx
   ·have:=(k1.ok x hx).fr q hq;omega
   ·have hx:=List.mem_singleton.1 hx;subst hx;have:=m1.fr q hq;omega
theorem Kids.add {lo:Nat} {h h1:Heap} {oa:Option Addr} {oc:Nat} {L:List ND} {t:ND} {b:Nat} (k:Kids lo h (.slice oa L.length oc) L) (m:Made lo h t) (ma:∀q∈t.blks,q∉ablk oa) (hl:lo≤h.size) (g:Grow h h1 b (encN t)) (hL:L.length<10000)
  {K:Value→Heap→Prop} (hK:∀oa' oc' h2,Kids lo h2 (.slice oa' (L++[t]).length oc') (L++[t])→Chg (ablk oa) h h2→K (.slice oa' (L++[t]).length oc') h2):
  appP h1 K 6 96 zN oa L.length oc (some ⟨b,0,none⟩) 1:=
 Kids.add2 k m ma hl g hL fun oa' oc' h2 k2 c2 _=>hK oa' oc' h2 k2 c2
theorem Kids.node {lo:Nat} {h:Heap} {v u:Value} {L:List ND} {ns:List ByteArray} (k:Kids lo h v L) (kd i:Int) (s t:ByteArray) (hu:SL encS h u ns) (hn:ns.length<4611686018427387904) (hl:L.length<4611686018427387904) (hf:∀q∈vblk u,lo≤q∧q<h.size):Made lo h (.mk kd s t i u ns v L):=by
 refine⟨⟨hu,hn,k.ol.sl,hl,oks_all fun x hx=>(k.ok x hx).ok⟩,fun q hq=>?_⟩
 simp only[ND.blks,List.mem_append]at hq
 rcases hq with hq|hq|hq
 ·exact hf q hq
 ·exact k.fr q hq
 ·obtain⟨x,hx,hq⟩:=ND.blkss_of hq
  exact(k.ok x hx).fr q hq
theorem made_leaf {lo:Nat} {h:Heap} (kd i:Int) (s t:ByteArray):Made lo h (.mk kd s t i (.slice none 0 0) [] (.slice none 0 0) []):=
 Kids.nil.node kd i s t SL.nil (by simp) (by simp) (by simp[vblk,ablk])
structure WD where
 kind:Int
 text:ByteArray
 num:Int
 place:Int
def encW (w:WD):List Value:=[.int .i64 w.kind,.string w.text,.int .i64 w.num,.int .i64 w.place]
theorem encW_len (w:WD):(encW w).length=4:=rfl
structure Ct where
 b:Nat
 wa:Option Addr
 wc:Nat
 ws:List WD
structure Rd (C:Ct) (h:Heap) (left:Nat):Prop where
 blk:∃lg op pl wy:Int,Blk h C.b [.slice C.wa C.ws.length C.wc,.int .i64 ((C.ws.length-left:Nat):Int),.int .i64 lg,.int .i64 op,.int .i64 pl,.int .i64 wy]
 le:left≤C.ws.length
 sl:SL encW h (.slice C.wa C.ws.length C.wc) C.ws
 old:∀q∈ablk C.wa,q<C.b
 few:C.ws.length≤2000
theorem Rd.ext {C:Ct} {h h':Heap} {left:Nat} (R:Rd C h left) (hc:Chg [] h h'):Rd C h' left:=⟨let⟨a,b,c,d,x⟩:=R.blk;⟨a,b,c,d,x.chg hc (by simp)⟩,R.le,R.sl.ext hc,R.old,R.few⟩
theorem Rd.lt {C:Ct} {h:Heap} {left:Nat} (R:Rd C h left):C.b<h.size:=let⟨_,_,_,_,x⟩:=R.blk;x.lt
theorem Rd.put {C:Ct} {h h':Heap} {left left':Nat} {lg op pl wy:Int} (R:Rd C h left) (hp:Put h h' C.b [.slice C.wa C.ws.length C.wc,.int .i64 ((C.ws.length-left':Nat):Int),.int .i64 lg,.int .i64 op,.int .i64 pl,.int .i64 wy]) (hl:left'≤C.ws.length):Rd C h' left':=
 ⟨⟨lg,op,pl,wy,hp.blk⟩,hl,R.sl.chg hp.chg fun q hq hin=>by have hin:=List.mem_singleton.1 hin;subst hin;exact Nat.lt_irrefl _ (R.old _ hq),R.old,R.few⟩
theorem Rd.other {C:Ct} {S:List Nat} {h h':Heap} {left:Nat} (R:Rd C h left) (hc:Chg S h h') (hS:∀x∈S,C.b<x):Rd C h' left:=
 ⟨let⟨a,b,c,d,x⟩:=R.blk;⟨a,b,c,d,x.chg hc fun hin=>Nat.lt_irrefl _ (hS _ hin)⟩,R.le,R.sl.chg hc fun q hq hin=>Nat.lt_asymm (R.old q hq) (hS q hin),R.old,R.few⟩
theorem Rd.put1 {C:Ct} {h h':Heap} {left b:Nat} {l:List Value} (R:Rd C h left) (p:Put h h' b l) (hb:C.b<b):Rd C h' left:=R.other p.chg fun x hx=>by rw[List.mem_singleton.1 hx];exact hb
def pt (b:Nat):Value:=.pointer (some ⟨b,0,none⟩)
theorem place_calls {C:Ct} {h:Heap} {left:Nat} (R:Rd C h left):CallsH Tryz.prog 86 [pt C.b] h (Ret fun r h'=>(∃z:Int,r=.int .i64 z)∧h=h'):=by
 obtain⟨lg,op,pl,wy,B⟩:=R.blk
 have hle:=R.le
 have hfew:=R.few
 refine f86_calls (by simp) ?_
 refine Ei _ (Ai (cell_blk B rfl) (Ei _ (Ai (cell_blk B rfl) ?_)))
 refine Ai rfl (Ai (fun hlt=>?_) (fun _=>?_))
 ·have hlt:C.ws.length-left<C.ws.length:=by omega
  have hsl:=R.sl
  obtain⟨b0,o,e0⟩:=hsl.addr (by omega)
  rw[e0]at hsl
  have hcs:=hsl.cells encW_len (i:=C.ws.length-left) (x:=C.ws[C.ws.length-left]) (by simp[hlt])
  rw[e0]at B
  refine Ei _ (Ai (cell_blk B rfl) (Ei _ (Ai (cell_blk B rfl) ?_)))
  refine Ai (by omega) (Ai (by omega) (Ei _ (Ai (hcs 3 _ rfl) ?_)))
  exact Ai (Ei _ rfl) rfl
 ·refine Ei _ (Ai (cell_blk B rfl) ?_)
  exact Ai (Ei _ rfl) rfl
theorem Rd.word {C:Ct} {h:Heap} {left:Nat} (R:Rd C h left) {i:Nat} (hi:i<C.ws.length):∃b0 o,C.wa=some ⟨b0,o,none⟩∧Cells h b0 (o+i*4) (encW C.ws[i]):=by
 have hsl:=R.sl
 obtain⟨b0,o,e0⟩:=hsl.addr (by omega)
 rw[e0]at hsl
 exact⟨b0,o,e0,hsl.cells encW_len (i:=i) (x:=C.ws[i]) (by simp[hi])⟩
theorem give_calls {C:Ct} {h:Heap} {left:Nat} (R:Rd C h left) (z y:Int):CallsH Tryz.prog 85 [pt C.b,.int .i64 z,.int .i64 y] h (Ret fun _ h'=>Rd C h' 0∧Chg [C.b] h h'):=by
 obtain⟨lg,op,pl,wy,B⟩:=R.blk
 have fin:∀{h1:Heap} {pl wy:Int},Blk h1 C.b [.slice C.wa C.ws.length C.wc,.int .i64 ((C.ws.length-left:Nat):Int),.int .i64 lg,.int .i64 op,.int .i64 pl,.int .i64 wy]→Rd C h1 left→Chg [C.b] h h1→
   swp Tryz.prog (.ops f85r2) (retQ [] (Ret fun _ h'=>Rd C h' 0∧Chg [C.b] h h')) (mk [(0,pt C.b)]) [] h1:=by
  intro h1 pl wy B1 R1 c1
  refine Ei _ (Ai (cell_blk B1 rfl) ?_)
  refine Ei _ (Ai B1 (Ai (by simp) (Ai rfl (Ai (Go.Sx.ones1 rfl) fun h2 p2=>?_))))
  refine Ai (R1.put (left':=0) (lg:=lg) (op:=op) (pl:=pl) (wy:=wy) p2 (Nat.zero_le _)) (c1.trans p2.chg (fun _ h=>h) (fun _ hx _=>hx))
 refine f85_calls (by simp) ?_
 refine Ei _ (Ai (cell_blk B rfl) (Ai rfl (Ai (fun _=>?_) (fun _=>?_))))
 ·refine Ei _ (Ai B (Ai (by simp) (Ai rfl (Ai (Go.Sx.ones1 rfl) fun h1 p1=>?_))))
  replace p1:Put h h1 C.b [.slice C.wa C.ws.length C.wc,.int .i64 ((C.ws.length-left:Nat):Int),.int .i64 lg,.int .i64 op,.int .i64 z,.int .i64 wy]:=p1
  refine Ei _ (Ai p1.blk (Ai (by simp) (Ai rfl (Ai (Go.Sx.ones1 rfl) fun h2 p2=>?_))))
  replace p2:Put h1 h2 C.b [.slice C.wa C.ws.length C.wc,.int .i64 ((C.ws.length-left:Nat):Int),.int .i64 lg,.int .i64 op,.int .i64 z,.int .i64 y]:=p2
  have R1:=R.put (left':=left) p1 R.le
  have R2:=R1.put (left':=left) p2 R.le
  exact cut_at [(0,pt C.b)] ⟨rfl,trivial⟩ (fin p2.blk R2 (p1.chg.trans p2.chg (fun _ h=>h) (fun _ hx _=>hx)))
 ·exact cut_at [(0,pt C.b)] ⟨rfl,trivial⟩ (fin B R (Chg.refl h|>.mono (by simp)))
theorem is_calls {C:Ct} {h:Heap} {left:Nat} (R:Rd C h left) (s:ByteArray):CallsH Tryz.prog 181 [pt C.b,.string s] h (Ret fun r h'=>(∃t,r=.bool t∧(t=true→0<left))∧h=h'):=by
 obtain⟨lg,op,pl,wy,B⟩:=R.blk
 have hle:=R.le
 have hfew:=R.few
 have no:∃t,Value.bool false=.bool t∧(t=true→0<left):=⟨false,rfl,fun e=>(by cases e)⟩
 refine f181_calls (by simp) ?_
 refine Ei _ (Ai (cell_blk B rfl) (Ai rfl (Ai (fun _=>?_) (fun _=>?_))))
 case refine_2=>exact Ai no rfl
 refine Ei _ (Ai (cell_blk B rfl) (Ei _ (Ai (cell_blk B rfl) ?_)))
 refine Ai rfl (Ai (fun hlt=>?_) (fun _=>?_))
 case refine_2=>exact Ai no rfl
 have hlt:C.ws.length-left<C.ws.length:=by omega
 obtain⟨b0,o,e0,hcs⟩:=R.word hlt
 rw[e0]at B
 refine Ei _ (Ai (cell_blk B rfl) (Ei _ (Ai (cell_blk B rfl) ?_)))
 refine Ai (by omega) (Ai (by omega) (Ei _ (Ai (hcs 1 _ rfl) ?_)))
 refine Ai (fun _=>?_) (fun _=>?_)
 case refine_2=>exact Ai no rfl
 refine Ei _ (Ai (cell_blk B rfl) (Ei _ (Ai (cell_blk B rfl) ?_)))
 refine Ai (by omega) (Ai (by omega) (Ei _ (Ai (hcs 0 _ rfl) ?_)))
 refine Ai rfl (Ai (fun _=>?_) (fun _=>?_))
 ·exact Ai (Ei true (Ai rfl (fun _=>by omega))) rfl
 refine Ei _ (Ai (cell_blk B rfl) (Ei _ (Ai (cell_blk B rfl) ?_)))
 refine Ai (by omega) (Ai (by omega) (Ei _ (Ai (hcs 0 _ rfl) ?_)))
 refine Ai rfl (Ai (fun _=>?_) (fun _=>?_))
 ·exact Ai (Ei true (Ai rfl (fun _=>by omega))) rfl
 ·exact Ai no rfl
def TakeQ (C:Ct) (h:Heap) (left:Nat) (r:Value) (h':Heap):Prop:=(r=.bool false∧h=h')∨(r=.bool true∧0<left∧Rd C h' (left-1)∧Chg [C.b] h h')
theorem take_calls {C:Ct} {h:Heap} {left:Nat} (R:Rd C h left) (s:ByteArray):CallsH Tryz.prog 135 [pt C.b,.string s] h (Ret (TakeQ C h left)):=by
 obtain⟨lg,op,pl,wy,B⟩:=R.blk
 have hle:=R.le
 have hfew:=R.few
 refine f135_calls (by simp) ?_
 refine call_ret (is_calls R s) ?_
 rintro _ _ ⟨⟨t,rfl,ht⟩,rfl⟩
 cases t with
 |false=>exact .inl ⟨rfl,rfl⟩
 |true=>
  have hp:=ht rfl
  refine Ei _ (Ai (cell_blk B rfl) (Ai rfl (fun z hz=>?_)))
  have hz:=add_in hz (by omega) (by omega)
  have hz:z=((C.ws.length-(left-1):Nat):Int):=by omega
  subst hz
  refine Ei _ (Ai B (Ai (by simp) (Ai rfl (Ai (Go.Sx.ones1 rfl) fun h1 p1=>?_))))
  exact .inr ⟨rfl,hp,R.put (left':=left-1) (lg:=lg) (op:=op) (pl:=pl) (wy:=wy) p1 (by omega),p1.chg⟩
def StepQ (C:Ct) (h:Heap) (left:Nat) (h':Heap):Prop:=∃left',left'≤left∧Rd C h' left'∧Chg [C.b] h h'
theorem want_calls {C:Ct} {h:Heap} {left:Nat} (R:Rd C h left) (s:ByteArray):CallsH Tryz.prog 186 [pt C.b,.string s] h (Ret fun _ h'=>StepQ C h left h'):=by
 refine f186_calls (by simp) ?_
 refine call_ret (take_calls R s) ?_
 rintro _ h1 (⟨rfl,rfl⟩|⟨rfl,hp,R1,c1⟩)
 ·refine call_ret (place_calls R) ?_
  rintro _ _ ⟨⟨z,rfl⟩,rfl⟩
  refine call_ret (give_calls R z 220) ?_
  rintro _ h2 ⟨R2,c2⟩
  exact⟨0,Nat.zero_le _,R2,c2⟩
 ·exact⟨left-1,by omega,R1,c1⟩
def KindQ (C:Ct) (h:Heap) (left:Nat) (r:Value) (h':Heap):Prop:=
 ∃(k n p:Int) (s:ByteArray) (t:Bool),r=.tuple ⟨[.agg ⟨[.int .i64 k,.string s,.int .i64 n,.int .i64 p]⟩,.bool t]⟩∧((t=false∧Rd C h' left∧Chg [] h h')∨(t=true∧0<left∧Rd C h' (left-1)∧Chg [C.b] h h'))
theorem ones_w (k n p:Int) (s:ByteArray):∀u∈[Value.int .i64 k,.string s,.int .i64 n,.int .i64 p],u.oneCell'=true:=by
 intro u hu
 simp only[List.mem_cons,List.not_mem_nil,or_false]at hu
 rcases hu with rfl|rfl|rfl|rfl<;>rfl
theorem one_in {b x:Nat} (hx:x∈[b]):x=b:=List.mem_singleton.1 hx
theorem kind_calls {C:Ct} {h:Heap} {left:Nat} (R:Rd C h left) (k:Int):CallsH Tryz.prog 335 [pt C.b,.int .i64 k] h (Ret (KindQ C h left)):=by
 have hle:=R.le
 have hfew:=R.few
 refine f335_calls (by simp) ?_
 intro b4 h1 g1
 have R1:=R.ext g1.chg
 have i1:=g1.id
 have lt0:=R.lt
 obtain⟨lg,op,pl,wy,B⟩:=R1.blk
 have B4:Blk h1 b4 [.int .i64 0,.string ⟨#[]⟩,.int .i64 0,.int .i64 0]:=g1.blk
 have no:∀{h2:Heap},Put h1 h2 b4 [.int .i64 0,.string ⟨#[]⟩,.int .i64 0,.int .i64 0]→KindQ C h left (.tuple ⟨[.agg ⟨[.int .i64 0,.string ⟨#[]⟩,.int .i64 0,.int .i64 0]⟩,.bool false]⟩) h2:=fun{h2} p2=>
  ⟨0,0,0,⟨#[]⟩,false,rfl,.inl ⟨rfl,R1.put1 p2 (by omega),g1.chg.fresh p2.chg (fun q hq=>by rw[one_in hq];omega)⟩⟩
 refine Ei _ (Ai (cell_blk B rfl) (Ai rfl (Ai (fun _=>?_) (fun _=>?_))))
 ·refine Ei _ (Ai B4 (Ai (by simp) (Ai rfl (Ai (ones_w 0 0 0 ⟨#[]⟩) fun h2 p2=>?_))))
  exact Ei _ (Ai rfl (Ai (cells_blk p2.blk) (no p2)))
 refine Ei _ (Ai (cell_blk B rfl) (Ei _ (Ai (cell_blk B rfl) ?_)))
 refine Ai rfl (Ai (fun _=>?_) (fun hlt=>?_))
 ·refine Ei _ (Ai B4 (Ai (by simp) (Ai rfl (Ai (ones_w 0 0 0 ⟨#[]⟩) fun h2 p2=>?_))))
  exact Ei _ (Ai rfl (Ai (cells_blk p2.blk) (no p2)))
 have hlt:C.ws.length-left<C.ws.length:=by omega
 obtain⟨b0,o,e0,hcs⟩:=R1.word hlt
 rw[e0]at B
 refine Ei _ (Ai (cell_blk B rfl) (Ei _ (Ai (cell_blk B rfl) ?_)))
 refine Ai (by omega) (Ai (by omega) (Ei _ (Ai (hcs 0 _ rfl) ?_)))
 refine Ai rfl (Ai (fun _=>?_) (fun _=>?_))
 ·refine Ei _ (Ai B4 (Ai (by simp) (Ai rfl (Ai (ones_w 0 0 0 ⟨#[]⟩) fun h2 p2=>?_))))
  exact Ei _ (Ai rfl (Ai (cells_blk p2.blk) (no p2)))
 refine Ei _ (Ai (cell_blk B rfl) (Ai rfl (fun z hz=>?_)))
 have hz:=add_in hz (by omega) (by omega)
 have hz:z=((C.ws.length-(left-1):Nat):Int):=by omega
 subst hz
 refine Ei _ (Ai B (Ai (by simp) (Ai rfl (Ai (Go.Sx.ones1 rfl) fun h2 p2=>?_))))
 replace p2:Put h1 h2 C.b [.slice (some ⟨b0,o,none⟩) C.ws.length C.wc,.int .i64 ((C.ws.length-(left-1):Nat):Int),.int .i64 lg,.int .i64 op,.int .i64 pl,.int .i64 wy]:=p2
 have B2:=p2.blk
 have R2:=R1.put (left':=left-1) (lg:=lg) (op:=op) (pl:=pl) (wy:=wy) (by rw[e0];exact p2) (by omega)
 have B42:=B4.chg p2.chg (by intro hin;have:=one_in hin;omega)
 obtain⟨b0',o',e0',hcs2⟩:=R2.word hlt
 rw[e0]at e0'
 cases e0'
 refine Ei _ (Ai (cell_blk B2 rfl) (Ei _ (Ai (cell_blk B2 rfl) ?_)))
 refine Ai rfl (fun z hz=>?_)
 have hz:=sub_in hz (by omega) (by omega)
 have hz:z=((C.ws.length-left:Nat):Int):=by omega
 subst hz
 refine Ai (by omega) (Ai (by omega) (Ei (encW C.ws[C.ws.length-left]) (Ai (encW_len _) (Ai hcs2 ?_))))
 refine Ei _ (Ai B42 (Ai (by simp) (Ai (encW_len _) (Ai (ones_w _ _ _ _) fun h3 p3=>?_))))
 refine Ei (encW C.ws[C.ws.length-left]) (Ai rfl (Ai (cells_blk p3.blk) ?_))
 refine Ei _ (Ei _ (Ei _ (Ei _ (Ei true (Ai rfl (.inr ⟨rfl,by omega,R2.put1 p3 (by omega),?_⟩))))))
 exact(g1.chg.trans p2.chg (fun _ h=>by simp at h) (fun _ hx _=>hx)).trans p3.chg (fun _ h=>h) (fun x hx hlt=>by have:=one_in hx;omega)
theorem Chg.also {S T:List Nat} {h h1 h2:Heap} (c1:Chg S h h1) (c2:Chg T h1 h2) (hT:∀x∈T,x∈S∨h.size≤x):Chg S h h2:=c1.trans c2 (fun _ h=>h) (fun x hx hlt=>by
 rcases hT x hx with h|h
 ·exact h
 ·omega)
theorem enter_calls {C:Ct} {h:Heap} {left:Nat} (R:Rd C h left) (hp:left<C.ws.length):CallsH Tryz.prog 336 [pt C.b] h (Ret fun r h'=>(∃t,r=.bool t)∧StepQ C h left h'):=by
 have hle:=R.le
 have hfew:=R.few
 obtain⟨lg,op,pl,wy,B⟩:=R.blk
 refine f336_calls (by simp) ?_
 refine Ei _ (Ai (cell_blk B rfl) (Ai rfl (Ai (fun _=>?_) (fun _=>?_))))
 ·exact Ai (Ei false rfl) ⟨left,Nat.le_refl _,R,(Chg.refl h).mono (by simp)⟩
 refine Ei _ (Ai (cell_blk B rfl) (Ai rfl (fun z _=>?_)))
 refine Ei _ (Ai B (Ai (by simp) (Ai rfl (Ai (Go.Sx.ones1 rfl) fun h1 p1=>?_))))
 replace p1:Put h h1 C.b [.slice C.wa C.ws.length C.wc,.int .i64 ((C.ws.length-left:Nat):Int),.int .i64 lg,.int .i64 z,.int .i64 pl,.int .i64 wy]:=p1
 have R1:=R.put (left':=left) p1 hle
 have B1:=p1.blk
 have c1:=p1.chg
 refine Ei _ (Ai (cell_blk B1 rfl) (Ai rfl (Ai (fun _=>?_) (fun _=>?_))))
 ·obtain⟨b0,o,e0,hcs⟩:=R1.word (i:=C.ws.length-left-1) (by omega)
  rw[e0]at B1
  refine Ei _ (Ai (cell_blk B1 rfl) (Ei _ (Ai (cell_blk B1 rfl) ?_)))
  refine Ai rfl (fun y hy=>?_)
  have hy:=sub_in hy (by omega) (by omega)
  have hy:y=((C.ws.length-left-1:Nat):Int):=by omega
  subst hy
  refine Ai (by omega) (Ai (by omega) (Ei _ (Ai (hcs 3 _ rfl) ?_)))
  refine call_ret (give_calls R1 _ _) ?_
  rintro _ h2 ⟨R2,c2⟩
  exact Ai (Ei false rfl) ⟨0,Nat.zero_le _,R2,Chg.also c1 c2 (fun x hx=>.inl hx)⟩
 ·exact Ai (Ei true rfl) ⟨left,Nat.le_refl _,R1,c1⟩
theorem ends_calls {C:Ct} {h:Heap} {left:Nat} (R:Rd C h left):CallsH Tryz.prog 133 [pt C.b] h (Ret fun r h'=>(∃t,r=.bool t∧(t=false→0<left))∧h=h'):=by
 have hle:=R.le
 obtain⟨lg,op,pl,wy,B⟩:=R.blk
 have yes:∃t,Value.bool true=.bool t∧(t=false→0<left):=⟨true,rfl,fun e=>(by cases e)⟩
 refine f133_calls (by simp) ?_
 refine Ei _ (Ai (cell_blk B rfl) (Ai rfl (Ai (fun _=>?_) (fun _=>?_))))
 ·exact Ai yes rfl
 refine Ei _ (Ai (cell_blk B rfl) (Ei _ (Ai (cell_blk B rfl) ?_)))
 refine Ai rfl (Ai (fun _=>?_) (fun hlt=>?_))
 ·exact Ai yes rfl
 have hpos:0<left:=by omega
 refine call_ret (is_calls R _) ?_
 rintro _ _ ⟨⟨t,rfl,_⟩,rfl⟩
 cases t with
 |true=>exact Ai yes rfl
 |false=>
  refine call_ret (is_calls R _) ?_
  rintro _ _ ⟨⟨t,rfl,_⟩,rfl⟩
  cases t with
  |true=>exact Ai yes rfl
  |false=>
   refine call_ret (is_calls R _) ?_
   rintro _ _ ⟨⟨t,rfl,_⟩,rfl⟩
   cases t with
   |true=>exact Ai yes rfl
   |false=>exact Ai (Ei false (Ai rfl (fun _=>hpos))) rfl
def NameQ (C:Ct) (h:Heap) (left:Nat) (r:Value) (h':Heap):Prop:=∃(s:ByteArray) (left':Nat),r=.string s∧left'≤left∧(0<left→left'<left)∧Rd C h' left'∧Chg [C.b] h h'
theorem name_calls {C:Ct} {h:Heap} {left:Nat} (R:Rd C h left):CallsH Tryz.prog 237 [pt C.b] h (Ret (NameQ C h left)):=by
 refine f237_calls (by simp) ?_
 refine call_ret (kind_calls R 0) ?_
 rintro _ h1 ⟨k,n,p,s,t,rfl,hq⟩
 have hs1:h.size≤h1.size:=by rcases hq with⟨_,_,c⟩|⟨_,_,_,c⟩<;>exact c.size
 intro b3 h2 g2
 refine Ei _ (Ai g2.blk (Ai (by simp) (Ai rfl (Ai (ones_w _ _ _ _) fun h3 p3=>?_))))
 have g3:Grow h1 h3 b3 [.int .i64 k,.string s,.int .i64 n,.int .i64 p]:=g2.put p3
 have B3:=g3.blk
 have i3:=g3.id
 rcases hq with⟨rfl,R1,c1⟩|⟨rfl,hpos,R1,c1⟩
 ·have R3:=R1.ext g3.chg
  refine call_ret (place_calls R3) ?_
  rintro _ _ ⟨⟨z,rfl⟩,rfl⟩
  refine call_ret (give_calls R3 z 220) ?_
  rintro _ h4 ⟨R4,c4⟩
  have B4:=B3.chg c4 (by intro hin;have:=one_in hin;have:=R1.lt;omega)
  refine Ei _ (Ai (cell_blk B4 rfl) ?_)
  exact⟨s,0,rfl,Nat.zero_le _,fun h=>h,R4,Chg.also ((c1.nil g3.chg).mono (by simp)) c4 (fun x hx=>.inl hx)⟩
 ·have R3:=R1.ext g3.chg
  refine Ei _ (Ai (cell_blk B3 rfl) ?_)
  exact⟨s,left-1,rfl,by omega,fun h=>by omega,R3,Chg.also c1 g3.chg (by simp)⟩
theorem encS_ones (s:ByteArray):∀u∈encS s,u.oneCell'=true:=by
 intro u hu
 have hu:=List.mem_singleton.1 hu
 subst hu;rfl
structure Txts (lo:Nat) (h:Heap) (v:Value) (l:List ByteArray):Prop where
 ol:OL encS 1 h v l
 fr:∀q∈vblk v,lo≤q∧q<h.size
theorem Txts.nil {lo:Nat} {h:Heap}:Txts lo h (.slice none 0 0) []:=⟨OL.nil,by simp[vblk,ablk]⟩
theorem Txts.old {lo:Nat} {S:List Nat} {h h':Heap} {v:Value} {l:List ByteArray} (k:Txts lo h v l) (hc:Chg S h h') (hS:∀x∈S,x<lo∨h.size≤x):Txts lo h' v l:=
 ⟨k.ol.chg hc fun q hq hin=>by have:=k.fr q hq;rcases hS q hin with h|h<;>omega,fun q hq=>⟨(k.fr q hq).1,Nat.lt_of_lt_of_le (k.fr q hq).2 hc.size⟩⟩
theorem Txts.one {lo:Nat} {h h':Heap} {s:ByteArray} {b:Nat} (g:Grow h h' b (encS s)) (hl:lo≤h.size):Txts lo h' (.slice (some ⟨b,0,none⟩) 1 1) [s]:=by
 have i:=g.id
 have z:=g.size
 exact⟨OL.mk (rest:=[]) rfl (Nat.le_refl _) (by simpa using g.blk) (by simp[encS_len]),fun q hq=>by simp[vblk,ablk]at hq;omega⟩
theorem Txts.add2 {lo:Nat} {h h1:Heap} {oa:Option Addr} {oc:Nat} {l:List ByteArray} {s:ByteArray} {b:Nat} (k:Txts lo h (.slice oa l.length oc) l) (hl:lo≤h.size) (g:Grow h h1 b (encS s)) (hL:l.length<3000)
  {K:Value→Heap→Prop} (hK:∀oa' oc' h2,Txts lo h2 (.slice oa' (l++[s]).length oc') (l++[s])→Chg (ablk oa) h h2→(∀q∈ablk oa',q∈ablk oa∨h.size≤q)→K (.slice oa' (l++[s]).length oc') h2):
  appP h1 K 1 16 [(.string ⟨#[]⟩)] oa l.length oc (some ⟨b,0,none⟩) 1:=by
 refine app_own encS_len encS_ones rfl (k.ol.ext g.chg) (SL.one encS_len g.blk) (by simp;omega) ?_
 intro v' h2 ho hc hb
 obtain⟨oa',oc',rfl,_⟩:=ho.form
 have gs':=g.size
 refine hK oa' oc' h2 ⟨ho,fun q hq=>?_⟩ (g.chg.trans hc (fun _ hx=>by simp at hx) (fun _ hx _=>hx)) (fun q hq=>(hb q hq).imp id (fun h=>by omega))
 have hlt:=ho.lt q hq
 have gs:=g.size
 rcases hb q hq with h|h
 ·exact⟨(k.fr q h).1,hlt⟩
 ·exact⟨by omega,hlt⟩
theorem Txts.add {lo:Nat} {h h1:Heap} {oa:Option Addr} {oc:Nat} {l:List ByteArray} {s:ByteArray} {b:Nat} (k:Txts lo h (.slice oa l.length oc) l) (hl:lo≤h.size) (g:Grow h h1 b (encS s)) (hL:l.length<3000)
  {K:Value→Heap→Prop} (hK:∀oa' oc' h2,Txts lo h2 (.slice oa' (l++[s]).length oc') (l++[s])→Chg (ablk oa) h h2→K (.slice oa' (l++[s]).length oc') h2):
  appP h1 K 1 16 [(.string ⟨#[]⟩)] oa l.length oc (some ⟨b,0,none⟩) 1:=
 Txts.add2 k hl g hL fun oa' oc' h2 k2 c2 _=>hK oa' oc' h2 k2 c2
def NamesQ (C:Ct) (h:Heap) (left:Nat) (r:Value) (h':Heap):Prop:=∃(l:List ByteArray) (left':Nat),Txts h.size h' r l∧l.length≤2001∧left'≤left∧Rd C h' left'∧Chg [C.b] h h'
theorem names_calls {C:Ct} {h:Heap} {left:Nat} (R:Rd C h left):CallsH Tryz.prog 238 [pt C.b] h (Ret (NamesQ C h left)):=by
 have hfew:=R.few
 have hle:=R.le
 refine f238_calls (by simp) ?_
 refine call_ret (name_calls R) ?_
 rintro _ h1 ⟨s,left1,rfl,hl1,_,R1,c1⟩
 intro b3 h2 g2
 have T2:=Txts.one g2 c1.size
 have R2:=R1.ext g2.chg
 have c2:Chg [C.b] h h2:=Chg.also c1 g2.chg (by simp)
 refine loop_intro (fun i:Nat×List ByteArray×Option Addr×Nat=>[(0,pt C.b),(3,.slice i.2.2.1 i.2.1.length i.2.2.2)])
  (fun i h'=>i.1≤left∧Rd C h' i.1∧Txts h.size h' (.slice i.2.2.1 i.2.1.length i.2.2.2) i.2.1∧i.2.1.length+i.1≤2001∧Chg [C.b] h h') (fun i=>i.1) (left1,[s],some ⟨b3,0,none⟩,1) ⟨rfl,rfl,trivial⟩
  ⟨hl1,R2,T2,by simp;omega,c2⟩ ?_
 rintro⟨left3,l,oa,oc⟩ h3 ⟨hl3,R3,T3,hn,c3⟩
 simp only at hl3 R3 T3 hn
 refine call_ret (take_calls R3 _) ?_
 rintro _ h4 (⟨rfl,rfl⟩|⟨rfl,hpos,R4,c4⟩)
 ·exact⟨l,left3,T3,by omega,hl3,R3,c3⟩
 have hb:C.b<h.size:=R.lt
 have T4:=T3.old c4 (fun x hx=>.inl (by rw[one_in hx];exact hb))
 have c04:Chg [C.b] h h4:=Chg.also c3 c4 (fun x hx=>.inl hx)
 refine call_ret (name_calls R4) ?_
 rintro _ h5 ⟨s5,left5,rfl,hl5,_,R5,c5⟩
 have T5:=T4.old c5 (fun x hx=>.inl (by rw[one_in hx];exact hb))
 have c05:Chg [C.b] h h5:=Chg.also c04 c5 (fun x hx=>.inl hx)
 intro b6 h6 g6
 refine Txts.add T5 c05.size g6 (by omega) ?_
 intro oa' oc' h7 T7 c7
 refine Ai rfl (Ei (left5,l++[s5],oa',oc') (Ai ⟨rfl,rfl,trivial⟩ (Ai ⟨by simp only;omega,R5.other c7 (fun x hx=>?_),T7,by simp only[List.length_append,List.length_cons,List.length_nil];omega,Chg.also c05 c7 (fun x hx=>.inr (T5.fr x hx).1)⟩ (by simp only;omega))))
 have:=(T5.fr x hx).1
 omega
def NodeQ (C:Ct) (h:Heap) (left:Nat) (st:Bool) (r:Value) (h':Heap):Prop:=
 ∃(t:ND) (left':Nat),r=.agg ⟨encN t⟩∧Made h.size h' t∧left'≤left∧(st=true→0<left→left'<left)∧Rd C h' left'∧Chg [C.b] h h'
def NodeC (C:Ct) (F:Nat) (xs:List Value) (st:Bool) (left:Nat):Prop:=∀{h:Heap},Rd C h left→CallsH Tryz.prog F (pt C.b::xs) h (Ret (NodeQ C h left st))
theorem node_done {C:Ct} {h h1 h2:Heap} {left left' lo b2:Nat} {st:Bool} {t:ND} {l:List Value} (p:Put h1 h2 b2 l) (m:Made lo h1 t) (hb:b2<lo) (h0:h.size≤b2) (R:Rd C h1 left') (hl:left'≤left) (hs:st=true→0<left→left'<left) (c:Chg [C.b] h h1) (hC:C.b<h.size):
  NodeQ C h left st (.agg ⟨encN t⟩) h2:=
 ⟨t,left',rfl,(m.old p.chg (fun x hx=>.inl (by rw[one_in hx];exact hb))).lo (by omega),hl,hs,R.put1 p (by omega),Chg.also c p.chg (fun x hx=>.inr (by rw[one_in hx];exact h0))⟩
def ListQ (C:Ct) (h:Heap) (left:Nat) (r:Value) (h':Heap):Prop:=∃(L:List ND) (left':Nat),Kids h.size h' r L∧L.length≤2001∧left'≤left∧Rd C h' left'∧Chg [C.b] h h'
theorem list_calls {C:Ct} {h:Heap} {left:Nat} (R:Rd C h left) (hx:∀l,l≤left→NodeC C 185 [.int .i64 0] true l):CallsH Tryz.prog 239 [pt C.b] h (Ret (ListQ C h left)):=by
 have hfew:=R.few
 have hle:=R.le
 have hb:C.b<h.size:=R.lt
 refine f239_calls (by simp) ?_
 refine call_ret (hx left (Nat.le_refl _) R) ?_
 rintro _ h1 ⟨⟨k1,s1,x1,n1,u1,w1,v1,l1⟩,left1,rfl,m1,hl1,_,R1,c1⟩
 intro b3 h2 g2
 have K2:=Kids.one m1 g2 c1.size
 have R2:=R1.ext g2.chg
 have c2:Chg [C.b] h h2:=Chg.also c1 g2.chg (by simp)
 refine loop_intro (fun i:Nat×List ND×Option Addr×Nat=>[(0,pt C.b),(3,.slice i.2.2.1 i.2.1.length i.2.2.2)])
  (fun i h'=>i.1≤left∧Rd C h' i.1∧Kids h.size h' (.slice i.2.2.1 i.2.1.length i.2.2.2) i.2.1∧i.2.1.length+i.1≤2001∧Chg [C.b] h h') (fun i=>i.1) (left1,[ND.mk k1 s1 x1 n1 u1 w1 v1 l1],some ⟨b3,0,none⟩,1) ⟨rfl,rfl,trivial⟩
  ⟨hl1,R2,K2,by simp;omega,c2⟩ ?_
 rintro⟨left3,L,oa,oc⟩ h3 ⟨hl3,R3,K3,hn,c3⟩
 simp only at hl3 R3 K3 hn
 refine call_ret (take_calls R3 _) ?_
 rintro _ h4 (⟨rfl,rfl⟩|⟨rfl,hpos,R4,c4⟩)
 ·exact⟨L,left3,K3,by omega,hl3,R3,c3⟩
 have K4:=K3.old c4 (fun x hx=>.inl (by rw[one_in hx];exact hb))
 have c04:Chg [C.b] h h4:=Chg.also c3 c4 (fun x hx=>.inl hx)
 refine call_ret (hx (left3-1) (by omega) R4) ?_
 rintro _ h5 ⟨⟨k5,s5,x5,n5,u5,w5,v5,l5⟩,left5,rfl,m5,hl5,_,R5,c5⟩
 have K5:=K4.old c5 (fun x hx=>.inl (by rw[one_in hx];exact hb))
 have c05:Chg [C.b] h h5:=Chg.also c04 c5 (fun x hx=>.inl hx)
 intro b6 h6 g6
 refine Kids.add K5 (m5.lo c04.size) (fun q hq hin=>by have:=(m5.fr q hq).1;have:=(K4.fr q hin).2;omega) c05.size g6 (by omega) ?_
 intro oa' oc' h7 K7 c7
 refine Ai rfl (Ei (left5,L++[ND.mk k5 s5 x5 n5 u5 w5 v5 l5],oa',oc') (Ai ⟨rfl,rfl,trivial⟩ (Ai ⟨by simp only;omega,R5.other c7 (fun x hx=>?_),K7,by simp only[List.length_append,List.length_cons,List.length_nil];omega,Chg.also c05 c7 (fun x hx=>.inr (K5.fr x hx).1)⟩ (by simp only;omega))))
 have:=(K5.fr x hx).1
 omega
set_option maxRecDepth 100000 in
theorem block_calls {C:Ct} {h:Heap} {left:Nat} (R:Rd C h left) (hx:∀l,l≤left→NodeC C 134 [] true l):CallsH Tryz.prog 84 [pt C.b] h (Ret (NodeQ C h left false)):=by
 have hfew:=R.few
 have hle:=R.le
 have hb:C.b<h.size:=R.lt
 refine f84_calls (by simp) ?_
 intro b2 h1 g1 b3 h2 g2
 have i1:=g1.id
 have i2:=g2.id
 have s1:=g1.size
 have s2:=g2.size
 have c2:Chg [] h h2:=g1.chg.nil g2.chg
 have B2:Blk h2 b2 zN:=Blk.chg g1.blk g2.chg (by simp)
 have B3:Blk h2 b3 zN:=g2.blk
 refine loop_intro (fun i:Nat×List ND×Option Addr×Nat=>[(0,pt C.b),(2,pt b2),(3,pt b3)])
  (fun i h'=>i.1≤left∧Rd C h' i.1∧Kids h2.size h' (.slice i.2.2.1 i.2.1.length i.2.2.2) i.2.1∧i.2.1.length+i.1≤2000∧Chg [C.b] h h'∧h2.size≤h'.size∧Blk h' b2 zN∧Blk h' b3 [.int .i64 0,.string ⟨#[]⟩,.string ⟨#[]⟩,.int .i64 0,.slice none 0 0,.slice i.2.2.1 i.2.1.length i.2.2.2]) (fun i=>i.1) (left,[],none,0) ⟨rfl,rfl,rfl,trivial⟩
  ⟨Nat.le_refl _,R.ext c2,Kids.nil,by simp;omega,c2.mono (by simp),Nat.le_refl _,B2,B3⟩ ?_
 rintro⟨left3,L,oa,oc⟩ h3 ⟨hl3,R3,K3,hn,c3,z3,B23,B33⟩
 simp only at hl3 R3 K3 hn B33
 refine call_ret (ends_calls R3) ?_
 rintro _ _ ⟨⟨t,rfl,ht⟩,rfl⟩
 have node:∀{h':Heap},Kids h2.size h' (.slice oa L.length oc) L→Made h2.size h' (.mk 0 ⟨#[]⟩ ⟨#[]⟩ 0 (.slice none 0 0) [] (.slice oa L.length oc) L):=fun k=>k.node 0 0 _ _ SL.nil (by simp) (by omega) (by simp[vblk,ablk])
 cases t with
 |true=>
  refine Ei _ (Ai rfl (Ai (cells_blk B33) ?_))
  refine Ei _ (Ai B23 (Ai (by simp) (Ai rfl (Ai (node K3).ok.ones fun h4 p4=>?_))))
  refine Ei _ (Ai rfl (Ai (cells_blk p4.blk) ?_))
  exact node_done p4 (node K3) (by omega) (by omega) R3 hl3 (fun h=>by cases h) c3 hb
 |false=>
  have hpos:=ht rfl
  refine call_ret (hx left3 hl3 R3) ?_
  rintro _ h4 ⟨⟨k,s,x,n,u,ns,v,l⟩,left4,rfl,m4,hl4,hst,R4,c4⟩
  have hst:=hst rfl hpos
  have K4:=K3.old c4 (fun x hx=>.inl (by rw[one_in hx];omega))
  have c04:Chg [C.b] h h4:=Chg.also c3 c4 (fun x hx=>.inl hx)
  have n4:∀{x:Nat},h2.size≤x+2→h.size≤x→x∉[C.b]:=fun h1 h2 hin=>by have:=one_in hin;omega
  have B24:=B23.chg c4 (by intro hin;have:=one_in hin;omega)
  have B34:=B33.chg c4 (by intro hin;have:=one_in hin;omega)
  intro b4 h5 g5
  have s5:=g5.size
  have i5:=g5.id
  have z4:=c4.size
  refine Ei _ (Ai g5.blk (Ai (by simp) (Ai rfl (Ai m4.ok.ones fun h6 p6=>?_))))
  have g6:Grow h4 h6 b4 (encN (ND.mk k s x n u ns v l)):=g5.put p6
  have B46:=g6.blk
  have B26:=B24.chg g6.chg (by simp)
  have B36:=B34.chg g6.chg (by simp)
  have K6:=K4.ext g6.chg
  have m6:=m4.ext g6.chg
  have R6:=R4.ext g6.chg
  have c06:Chg [C.b] h h6:=Chg.also c04 g6.chg (by simp)
  refine Ei _ (Ai (cell_blk B36 rfl) ?_)
  refine Ei _ (Ai (encN_len _) (Ai (cells_blk B46) ?_))
  intro b7 h7 g7
  refine Kids.add K6 (m6.lo z3) (fun q hq hin=>by have:=(m4.fr q hq).1;have:=(K3.fr q hin).2;omega) (by have:=g6.chg.size;omega) g7 (by omega) ?_
  intro oa' oc' h8 K8 c8
  have hk6:∀x∈ablk oa,h2.size≤x:=fun x hx=>(K6.fr x hx).1
  have hk3:∀x∈ablk oa,x<h3.size:=fun x hx=>(K3.fr x hx).2
  have B38:=B36.chg c8 (by intro hin;have:=hk6 _ hin;omega)
  have B28:=B26.chg c8 (by intro hin;have:=hk6 _ hin;omega)
  have B48:=B46.chg c8 (by intro hin;have:=hk3 _ hin;omega)
  have R8:=R6.other c8 (fun x hx=>by have:=hk6 x hx;omega)
  have c08:Chg [C.b] h h8:=Chg.also c06 c8 (fun x hx=>.inr (by have:=hk6 x hx;omega))
  refine Ei _ (Ai B38 (Ai (by simp) (Ai rfl (Ai (Go.Sx.ones1 rfl) fun h9 p9=>?_))))
  replace p9:Put h8 h9 b3 [.int .i64 0,.string ⟨#[]⟩,.string ⟨#[]⟩,.int .i64 0,.slice none 0 0,.slice oa' (L++[ND.mk k s x n u ns v l]).length oc']:=p9
  have K9:=K8.old p9.chg (fun x hx=>.inl (by rw[one_in hx];omega))
  have R9:=R8.put1 p9 (by omega)
  have c09:Chg [C.b] h h9:=Chg.also c08 p9.chg (fun x hx=>.inr (by rw[one_in hx];omega))
  have B39:=p9.blk
  have B29:=B28.chg p9.chg (by intro hin;have:=one_in hin;omega)
  have B49:=B48.chg p9.chg (by intro hin;have:=one_in hin;omega)
  have hlen:(L++[ND.mk k s x n u ns v l]).length=L.length+1:=by simp
  refine call_ret (take_calls R9 _) ?_
  intro r h10 hq
  have hq':∃left',left'≤left4∧Rd C h10 left'∧Chg [C.b] h9 h10∧∃t,r=.bool t:=by
   rcases hq with⟨rfl,rfl⟩|⟨rfl,_,R10,c10⟩
   ·exact⟨left4,Nat.le_refl _,R9,(Chg.refl _).mono (by simp),_,rfl⟩
   ·exact⟨left4-1,by omega,R10,c10,_,rfl⟩
  obtain⟨left5,hl5,R10,c10,tt,rfl⟩:=hq'
  have K10:=K9.old c10 (fun x hx=>.inl (by rw[one_in hx];omega))
  have c010:Chg [C.b] h h10:=Chg.also c09 c10 (fun x hx=>.inl hx)
  have B310:=B39.chg c10 (by intro hin;have:=one_in hin;omega)
  have B210:=B29.chg c10 (by intro hin;have:=one_in hin;omega)
  have B410:=B49.chg c10 (by intro hin;have:=one_in hin;omega)
  have z10:=c010.size
  have zz:=c09.size
  have y10:h2.size≤h10.size:=by have:=c10.size;have:=p9.chg.size;have:=c8.size;have:=g6.chg.size;omega
  have node2:Made h2.size h10 (.mk 0 ⟨#[]⟩ ⟨#[]⟩ 0 (.slice none 0 0) [] (.slice oa' (L++[ND.mk k s x n u ns v l]).length oc') (L++[ND.mk k s x n u ns v l])):=K10.node 0 0 _ _ SL.nil (by simp) (by omega) (by simp[vblk,ablk])
  have fin:∀{h11:Heap},Put h10 h11 b2 (encN (.mk 0 ⟨#[]⟩ ⟨#[]⟩ 0 (.slice none 0 0) [] (.slice oa' (L++[ND.mk k s x n u ns v l]).length oc') (L++[ND.mk k s x n u ns v l])))→NodeQ C h left false (.agg ⟨encN (.mk 0 ⟨#[]⟩ ⟨#[]⟩ 0 (.slice none 0 0) [] (.slice oa' (L++[ND.mk k s x n u ns v l]).length oc') (L++[ND.mk k s x n u ns v l]))⟩) h11:=fun{h11} p11=>node_done p11 node2 (by omega) (by omega) R10 (by omega) (fun h=>by cases h) c010 hb
  refine Ei _ (Ai (cell_blk B410 rfl) (Ai rfl (Ai (fun _=>?_) (fun _=>?_))))
  ·refine Ei _ (Ai rfl (Ai (cells_blk B310) ?_))
   refine Ei _ (Ai B210 (Ai (by simp) (Ai rfl (Ai node2.ok.ones fun h11 p11=>?_))))
   exact Ei _ (Ai rfl (Ai (cells_blk p11.blk) (fin p11)))
  refine Ei _ (Ai (cell_blk B410 rfl) (Ai rfl (Ai (fun _=>?_) (fun _=>?_))))
  ·refine Ei _ (Ai rfl (Ai (cells_blk B310) ?_))
   refine Ei _ (Ai B210 (Ai (by simp) (Ai rfl (Ai node2.ok.ones fun h11 p11=>?_))))
   exact Ei _ (Ai rfl (Ai (cells_blk p11.blk) (fin p11)))
  ·refine Ai rfl (Ei (left5,L++[ND.mk k s x n u ns v l],oa',oc') (Ai ⟨rfl,rfl,rfl,trivial⟩ (Ai ⟨by simp only;omega,R10,K10,by simp only;omega,c010,y10,B210,B310⟩ (by simp only;omega))))
theorem stepC {C:Ct} {h h1 h2:Heap} (c1:Chg [C.b] h h1) (c2:Chg [C.b] h1 h2):Chg [C.b] h h2:=Chg.also c1 c2 (fun _ hx=>.inl hx)
theorem leaf_ones (k n:Int) (s x:ByteArray):∀u∈encN (.mk k s x n (.slice none 0 0) [] (.slice none 0 0) []),u.oneCell'=true:=(made_leaf (lo:=0) (h:= #[]) k n s x).ok.ones
set_option maxRecDepth 100000 in
theorem opened_calls {C:Ct} {h:Heap} {left:Nat} (R:Rd C h left) (hp:left<C.ws.length) (hx:∀l,l≤left→NodeC C 84 [] false l):CallsH Tryz.prog 240 [pt C.b] h (Ret (NodeQ C h left false)):=by
 have hb:C.b<h.size:=R.lt
 refine f240_calls (by simp) ?_
 intro b2 h1 g1
 have i1:=g1.id
 have s1:=g1.size
 have B2:Blk h1 b2 zN:=g1.blk
 refine call_ret (enter_calls (R.ext g1.chg) hp) ?_
 rintro _ h2 ⟨⟨t,rfl⟩,left2,hl2,R2,c2⟩
 have z2:=c2.size
 have c02:Chg [C.b] h h2:=Chg.also (g1.chg.mono (by simp)) c2 (fun _ hx=>.inl hx)
 have B22:=B2.chg c2 (by intro hin;have:=one_in hin;omega)
 cases t with
 |false=>
  refine Ei _ (Ai B22 (Ai (by simp) (Ai rfl (Ai (leaf_ones 0 0 _ _) fun h3 p3=>?_))))
  refine Ei _ (Ai rfl (Ai (cells_blk p3.blk) ?_))
  exact node_done (t:=.mk 0 ⟨#[]⟩ ⟨#[]⟩ 0 (.slice none 0 0) [] (.slice none 0 0) []) p3 (made_leaf (lo:=h1.size) 0 0 _ _) (by omega) (by omega) R2 hl2 (fun h=>by cases h) c02 hb
 |true=>
  refine call_ret (hx left2 hl2 R2) ?_
  rintro _ h3 ⟨⟨k,s,x,n,u,ns,v,l⟩,left3,rfl,m3,hl3,_,R3,c3⟩
  have c03:=stepC c02 c3
  have B23:=B22.chg c3 (by intro hin;have:=one_in hin;omega)
  intro b3 h4 g4
  refine Ei _ (Ai g4.blk (Ai (by simp) (Ai rfl (Ai m3.ok.ones fun h5 p5=>?_))))
  have g5:Grow h3 h5 b3 (encN (ND.mk k s x n u ns v l)):=g4.put p5
  have i5:=g5.id
  have z3:=c03.size
  have z23:=c3.size
  have B35:=g5.blk
  have B25:=B23.chg g5.chg (by simp)
  have m5:=m3.ext g5.chg
  have R5:=R3.ext g5.chg
  have c05:Chg [C.b] h h5:=Chg.also c03 g5.chg (by simp)
  obtain⟨lg,op,pl,wy,B⟩:=R5.blk
  refine Ei _ (Ai (cell_blk B rfl) (Ai rfl (fun z _=>?_)))
  refine Ei _ (Ai B (Ai (by simp) (Ai rfl (Ai (Go.Sx.ones1 rfl) fun h6 p6=>?_))))
  have R6:=R5.put (left':=left3) (lg:=lg) (op:=z) (pl:=pl) (wy:=wy) p6 R5.le
  have c6:Chg [C.b] h5 h6:=p6.chg
  have m6:=m5.old c6 (fun x hx=>.inl (by rw[one_in hx];omega))
  have B36:=B35.chg c6 (by intro hin;have:=one_in hin;omega)
  have B26:=B25.chg c6 (by intro hin;have:=one_in hin;omega)
  refine Ei _ (Ai rfl (Ai (cells_blk B36) ?_))
  refine Ei _ (Ai B26 (Ai (by simp) (Ai rfl (Ai m6.ok.ones fun h7 p7=>?_))))
  refine Ei _ (Ai rfl (Ai (cells_blk p7.blk) ?_))
  exact node_done p7 m6 (by omega) (by omega) R6 (by omega) (fun h=>by cases h) (stepC c05 c6) hb
set_option maxRecDepth 100000 in
theorem ended_calls {C:Ct} {h:Heap} {left:Nat} (R:Rd C h left) (hx:NodeC C 240 [] false left):CallsH Tryz.prog 183 [pt C.b] h (Ret (NodeQ C h left false)):=by
 have hb:C.b<h.size:=R.lt
 refine f183_calls (by simp) ?_
 intro b2 h1 g1
 have i1:=g1.id
 have s1:=g1.size
 have B2:Blk h1 b2 zN:=g1.blk
 refine call_ret (hx (R.ext g1.chg)) ?_
 rintro _ h3 ⟨⟨k,s,x,n,u,ns,v,l⟩,left3,rfl,m3,hl3,_,R3,c3⟩
 have c03:Chg [C.b] h h3:=Chg.also (g1.chg.mono (by simp)) c3 (fun _ hx=>.inl hx)
 have B23:=B2.chg c3 (by intro hin;have:=one_in hin;omega)
 intro b3 h4 g4
 refine Ei _ (Ai g4.blk (Ai (by simp) (Ai rfl (Ai m3.ok.ones fun h5 p5=>?_))))
 have g5:Grow h3 h5 b3 (encN (ND.mk k s x n u ns v l)):=g4.put p5
 have i5:=g5.id
 have z3:=c03.size
 have B35:=g5.blk
 have B25:=B23.chg g5.chg (by simp)
 have m5:=m3.ext g5.chg
 have c05:Chg [C.b] h h5:=Chg.also c03 g5.chg (by simp)
 refine call_ret (want_calls (R3.ext g5.chg) _) ?_
 rintro _ h6 ⟨left6,hl6,R6,c6⟩
 have m6:=m5.old c6 (fun x hx=>.inl (by rw[one_in hx];omega))
 have B36:=B35.chg c6 (by intro hin;have:=one_in hin;omega)
 have B26:=B25.chg c6 (by intro hin;have:=one_in hin;omega)
 refine Ei _ (Ai rfl (Ai (cells_blk B36) ?_))
 refine Ei _ (Ai B26 (Ai (by simp) (Ai rfl (Ai m6.ok.ones fun h7 p7=>?_))))
 refine Ei _ (Ai rfl (Ai (cells_blk p7.blk) ?_))
 exact node_done p7 m6 (by omega) (by omega) R6 (by omega) (fun h=>by cases h) (stepC c05 c6) hb
set_option maxRecDepth 100000 in
theorem bracketed_calls {C:Ct} {h:Heap} {left:Nat} (R:Rd C h left) (hp:left<C.ws.length) (hx:∀l,l≤left→NodeC C 185 [.int .i64 0] true l) (w:ByteArray):CallsH Tryz.prog 244 [pt C.b,.string w] h (Ret (NodeQ C h left false)):=by
 have hb:C.b<h.size:=R.lt
 refine f244_calls (by simp) ?_
 intro b2 h1 g1
 have i1:=g1.id
 have s1:=g1.size
 have B2:Blk h1 b2 zN:=g1.blk
 refine call_ret (enter_calls (R.ext g1.chg) hp) ?_
 rintro _ h2 ⟨⟨t,rfl⟩,left2,hl2,R2,c2⟩
 have z2:=c2.size
 have c02:Chg [C.b] h h2:=Chg.also (g1.chg.mono (by simp)) c2 (fun _ hx=>.inl hx)
 have B22:=B2.chg c2 (by intro hin;have:=one_in hin;omega)
 cases t with
 |false=>
  refine Ei _ (Ai B22 (Ai (by simp) (Ai rfl (Ai (leaf_ones 0 0 _ _) fun h3 p3=>?_))))
  refine Ei _ (Ai rfl (Ai (cells_blk p3.blk) ?_))
  exact node_done (t:=.mk 0 ⟨#[]⟩ ⟨#[]⟩ 0 (.slice none 0 0) [] (.slice none 0 0) []) p3 (made_leaf (lo:=h1.size) 0 0 _ _) (by omega) (by omega) R2 hl2 (fun h=>by cases h) c02 hb
 |true=>
  refine call_ret (hx left2 hl2 R2) ?_
  rintro _ h3 ⟨⟨k,s,x,n,u,ns,v,l⟩,left3,rfl,m3,hl3,_,R3,c3⟩
  have c03:=stepC c02 c3
  have B23:=B22.chg c3 (by intro hin;have:=one_in hin;omega)
  intro b3 h4 g4
  refine Ei _ (Ai g4.blk (Ai (by simp) (Ai rfl (Ai m3.ok.ones fun h5 p5=>?_))))
  have g5:Grow h3 h5 b3 (encN (ND.mk k s x n u ns v l)):=g4.put p5
  have i5:=g5.id
  have z3:=c03.size
  have z23:=c3.size
  have B35:=g5.blk
  have B25:=B23.chg g5.chg (by simp)
  have m5:=m3.ext g5.chg
  have R5:=R3.ext g5.chg
  have c05:Chg [C.b] h h5:=Chg.also c03 g5.chg (by simp)
  obtain⟨lg,op,pl,wy,B⟩:=R5.blk
  refine Ei _ (Ai (cell_blk B rfl) (Ai rfl (fun z _=>?_)))
  refine Ei _ (Ai B (Ai (by simp) (Ai rfl (Ai (Go.Sx.ones1 rfl) fun h6 p6=>?_))))
  have R6:=R5.put (left':=left3) (lg:=lg) (op:=z) (pl:=pl) (wy:=wy) p6 R5.le
  have c6:Chg [C.b] h5 h6:=p6.chg
  refine call_ret (want_calls R6 _) ?_
  rintro _ h7 ⟨left7,hl7,R7,c7⟩
  have c57:=stepC c6 c7
  have m7:=m5.old c57 (fun x hx=>.inl (by rw[one_in hx];omega))
  have B37:=B35.chg c57 (by intro hin;have:=one_in hin;omega)
  have B27:=B25.chg c57 (by intro hin;have:=one_in hin;omega)
  refine Ei _ (Ai rfl (Ai (cells_blk B37) ?_))
  refine Ei _ (Ai B27 (Ai (by simp) (Ai rfl (Ai m7.ok.ones fun h8 p8=>?_))))
  refine Ei _ (Ai rfl (Ai (cells_blk p8.blk) ?_))
  exact node_done p8 m7 (by omega) (by omega) R7 (by omega) (fun h=>by cases h) (stepC c05 c57) hb
set_option maxRecDepth 100000 in
theorem rcall_calls {C:Ct} {h:Heap} {left:Nat} (R:Rd C h left) (hp:left<C.ws.length) (hx:∀l,l≤left→NodeC C 185 [.int .i64 0] true l) (w:ByteArray):CallsH Tryz.prog 337 [pt C.b,.string w] h (Ret (NodeQ C h left false)):=by
 have hb:C.b<h.size:=R.lt
 refine f337_calls (by simp) ?_
 intro b2 h1 g1 b3 h2 g2
 have i1:=g1.id
 have s1:=g1.size
 refine Ei _ (Ai g2.blk (Ai (by simp) (Ai rfl (Ai (leaf_ones 17 0 w _) fun h3 p3=>?_))))
 have g3:Grow h1 h3 b3 [.int .i64 17,.string w,.string ⟨#[]⟩,.int .i64 0,.slice none 0 0,.slice none 0 0]:=g2.put p3
 have i3:=g3.id
 have s3:=g3.size
 have B23:Blk h3 b2 zN:=Blk.chg g1.blk g3.chg (by simp)
 have B33:=g3.blk
 have c3:Chg [] h h3:=g1.chg.nil g3.chg
 refine call_ret (enter_calls (R.ext c3) hp) ?_
 rintro _ h4 ⟨⟨t,rfl⟩,left4,hl4,R4,c4⟩
 have c04:Chg [C.b] h h4:=Chg.also (c3.mono (by simp)) c4 (fun _ hx=>.inl hx)
 have B24:=B23.chg c4 (by intro hin;have:=one_in hin;omega)
 have B34:=B33.chg c4 (by intro hin;have:=one_in hin;omega)
 have z4:=c4.size
 cases t with
 |false=>
  refine Ei _ (Ai rfl (Ai (cells_blk B34) ?_))
  refine Ei _ (Ai B24 (Ai (by simp) (Ai rfl (Ai (leaf_ones 17 0 w _) fun h5 p5=>?_))))
  refine Ei _ (Ai rfl (Ai (cells_blk p5.blk) ?_))
  exact node_done (t:=.mk 17 w ⟨#[]⟩ 0 (.slice none 0 0) [] (.slice none 0 0) []) p5 (made_leaf (lo:=h3.size) 17 0 _ _) (by omega) (by omega) R4 hl4 (fun h=>by cases h) c04 hb
 |true=>
  have fin:∀{h5:Heap} {v:Value} {L:List ND} {left5:Nat},Kids h3.size h5 v L→L.length≤2001→left5≤left→Rd C h5 left5→Chg [C.b] h h5→h3.size≤h5.size→Blk h5 b2 zN→Blk h5 b3 [.int .i64 17,.string w,.string ⟨#[]⟩,.int .i64 0,.slice none 0 0,v]→
    swp Tryz.prog (.seq (.ops f337r6) (.seq (.ops f337r7) (.seq (.ops f337r8) .ret))) (retQ [.cn 4 6] (Ret (NodeQ C h left false))) (mk [(0,pt C.b),(4,pt b2),(5,pt b3)]) [] h5:=by
   intro h5 v L left5 K5 hL hl5 R5 c05 z5 B25 B35
   obtain⟨lg,op,pl,wy,B⟩:=R5.blk
   refine Ei _ (Ai (cell_blk B rfl) (Ai rfl (fun z _=>?_)))
   refine Ei _ (Ai B (Ai (by simp) (Ai rfl (Ai (Go.Sx.ones1 rfl) fun h6 p6=>?_))))
   have R6:=R5.put (left':=left5) (lg:=lg) (op:=z) (pl:=pl) (wy:=wy) p6 R5.le
   have c6:Chg [C.b] h5 h6:=p6.chg
   refine call_ret (want_calls R6 _) ?_
   rintro _ h7 ⟨left7,hl7,R7,c7⟩
   have c57:=stepC c6 c7
   have K7:=K5.old c57 (fun x hx=>.inl (by rw[one_in hx];omega))
   have B37:=B35.chg c57 (by intro hin;have:=one_in hin;omega)
   have B27:=B25.chg c57 (by intro hin;have:=one_in hin;omega)
   have m7:Made h3.size h7 (.mk 17 w ⟨#[]⟩ 0 (.slice none 0 0) [] v L):=K7.node 17 0 w ⟨#[]⟩ SL.nil (by simp) (by omega) (by simp[vblk,ablk])
   refine Ei _ (Ai rfl (Ai (cells_blk B37) ?_))
   refine Ei _ (Ai B27 (Ai (by simp) (Ai rfl (Ai m7.ok.ones fun h8 p8=>?_))))
   refine Ei _ (Ai rfl (Ai (cells_blk p8.blk) ?_))
   exact node_done p8 m7 (by omega) (by omega) R7 (by omega) (fun h=>by cases h) (stepC c05 c57) hb
  refine call_ret (is_calls R4 _) ?_
  rintro _ _ ⟨⟨t,rfl,_⟩,rfl⟩
  cases t with
  |true=>exact cut_at [(0,pt C.b),(4,pt b2),(5,pt b3)] ⟨rfl,rfl,rfl,trivial⟩ (fin Kids.nil (by simp) hl4 R4 c04 (by omega) B24 B34)
  |false=>
   refine call_ret (list_calls R4 (fun l hl=>hx l (by omega))) ?_
   rintro r h5 ⟨L,left5,K5,hL,hl5,R5,c5⟩
   obtain⟨a,c,rfl,_⟩:=K5.ol.form
   have B35:=B34.chg c5 (by intro hin;have:=one_in hin;omega)
   have B25:=B24.chg c5 (by intro hin;have:=one_in hin;omega)
   refine Ei _ (Ai B35 (Ai (by simp) (Ai rfl (Ai (Go.Sx.ones1 rfl) fun h6 p6=>?_))))
   have z5:=c5.size
   have K6:=(K5.lo z4).old p6.chg (fun x hx=>.inl (by rw[one_in hx];omega))
   exact cut_at [(0,pt C.b),(4,pt b2),(5,pt b3)] ⟨rfl,rfl,rfl,trivial⟩ (fin K6 hL (by omega) (R5.put1 p6 (by omega)) (Chg.also (stepC c04 c5) p6.chg (fun x hx=>.inr (by rw[one_in hx];omega))) (by have:=p6.chg.size;omega) (B25.chg p6.chg (by intro hin;have:=one_in hin;omega)) p6.blk)
theorem cnd_no {P:Program} {x:Operand} {a b:SCode} {Q:Post} {σ:Env} {ds:List Deferred} {h:Heap} (he:ev σ x=some (.bool false)) (hs:swp P b Q σ ds h):swp P (.cond x a b) Q σ ds h:=by
 simp only[swp,he];exact hs
theorem not_end {P:Program} {K1:List PanicEntry→Heap→Prop} {c:SCode} {Q Q':Post} {ds:List Deferred} {d:Nat} {y:Operand} {σ:Env} {h:Heap} {v:Bool} (he:ev σ y=some (.bool v)) (hs:swp P c Q (upd σ (some d) (.bool !v)) ds h):
  sops P K1 (fun σ' h'=>thenQ (swp P c Q) Q' .normal σ' ds h') [⟨some d,none,.un .not y⟩] σ h:=by
 simp only[sops,sopr,sop,he]
 exact hs
theorem skp_no {P:Program} {c:SCode} {Q Q':Post} {σ:Env} {ds:List Deferred} {h:Heap} (hs:swp P c Q σ ds h):swp P .skip (thenQ (swp P c Q) Q') σ ds h:=hs
set_option maxRecDepth 100000 in
theorem local_calls {C:Ct} {h:Heap} {left:Nat} (R:Rd C h left) (he:∀l,l≤left→NodeC C 183 [] false l) (hx:∀l,l≤left→NodeC C 185 [.int .i64 0] true l):CallsH Tryz.prog 182 [pt C.b] h (Ret (NodeQ C h left false)):=by
 have hb:C.b<h.size:=R.lt
 refine f182_calls (by simp) ?_
 intro b2 h1 g1
 have i1:=g1.id
 have s1:=g1.size
 have B2:Blk h1 b2 zN:=g1.blk
 have c1:Chg [C.b] h h1:=g1.chg.mono (by simp)
 refine call_ret (take_calls (R.ext g1.chg) _) ?_
 rintro _ h2 (⟨rfl,rfl⟩|⟨rfl,hpos,R2,c2⟩)
 ·-- names,and what they are
  refine call_ret (names_calls (R.ext g1.chg)) ?_
  rintro u h3 ⟨ns,left3,T3,hn3,hl3,R3,c3⟩
  obtain⟨ua,uc,rfl,_⟩:=T3.ol.form
  have z3:=c3.size
  have B23:=B2.chg c3 (by intro hin;have:=one_in hin;omega)
  intro b4 h4 g4
  have k4:∀{lo:Nat},Kids lo h3 (.slice none 0 0) []:=Kids.nil
  refine Ei _ (Ai g4.blk (Ai (by simp) (Ai rfl (Ai ((k4.node (lo:=h1.size) 1 0 ⟨#[]⟩ ⟨#[]⟩ T3.ol.sl (by omega) (by simp) T3.fr).ok.ones) fun h5 p5=>?_))))
  have g5:Grow h3 h5 b4 [.int .i64 1,.string ⟨#[]⟩,.string ⟨#[]⟩,.int .i64 0,.slice ua ns.length uc,.slice none 0 0]:=g4.put p5
  have i5:=g5.id
  have s5:=g5.size
  have B45:=g5.blk
  have B25:=B23.chg g5.chg (by simp)
  have T5:=T3.old g5.chg (by simp)
  have R5:=R3.ext g5.chg
  have c05:Chg [C.b] h h5:=Chg.also (stepC c1 c3) g5.chg (by simp)
  have fin:∀{h6:Heap} {v:Value} {L:List ND} {left6:Nat},Kids h1.size h6 v L→L.length≤2001→Txts h1.size h6 (.slice ua ns.length uc) ns→left6≤left→Rd C h6 left6→Chg [C.b] h h6→h1.size≤h6.size→Blk h6 b2 zN→Blk h6 b4 [.int .i64 1,.string ⟨#[]⟩,.string ⟨#[]⟩,.int .i64 0,.slice ua ns.length uc,v]→
    swp Tryz.prog (.seq (.ops f182r15) .ret) (retQ [.cn 2 6] (Ret (NodeQ C h left false))) (mk [(2,pt b2),(4,pt b4)]) [] h6:=by
   intro h6 v L left6 K6 hL T6 hl6 R6 c06 z6 B26 B46
   have m6:Made h1.size h6 (.mk 1 ⟨#[]⟩ ⟨#[]⟩ 0 (.slice ua ns.length uc) ns v L):=K6.node 1 0 ⟨#[]⟩ ⟨#[]⟩ T6.ol.sl (by omega) (by omega) T6.fr
   refine Ei _ (Ai rfl (Ai (cells_blk B46) ?_))
   refine Ei _ (Ai B26 (Ai (by simp) (Ai rfl (Ai m6.ok.ones fun h8 p8=>?_))))
   refine Ei _ (Ai rfl (Ai (cells_blk p8.blk) ?_))
   exact node_done p8 m6 (by omega) (by omega) R6 (by omega) (fun h=>by cases h) c06 hb
  refine call_ret (take_calls R5 _) ?_
  rintro _ h6 (⟨rfl,rfl⟩|⟨rfl,hpos,R6,c6⟩)
  ·exact cut_at [(2,pt b2),(4,pt b4)] ⟨rfl,rfl,trivial⟩ (fin Kids.nil (by simp) T5 hl3 R5 c05 (by omega) B25 B45)
  have c06:=stepC c05 c6
  have T6:=T5.old c6 (fun x hx=>.inl (by rw[one_in hx];omega))
  have B26:=B25.chg c6 (by intro hin;have:=one_in hin;omega)
  have B46:=B45.chg c6 (by intro hin;have:=one_in hin;omega)
  have z6:=c6.size
  refine call_ret (place_calls R6) ?_
  rintro _ _ ⟨⟨pz,rfl⟩,rfl⟩
  refine call_ret (list_calls R6 (fun l hl=>hx l (by omega))) ?_
  rintro r h7 ⟨L,left7,K7,hL,hl7,R7,c7⟩
  obtain⟨a,c,rfl,_⟩:=K7.ol.form
  have c07:=stepC c06 c7
  have T7:=T6.old c7 (fun x hx=>.inl (by rw[one_in hx];omega))
  have B27:=B26.chg c7 (by intro hin;have:=one_in hin;omega)
  have B47:=B46.chg c7 (by intro hin;have:=one_in hin;omega)
  have z7:=c7.size
  refine Ei _ (Ai B47 (Ai (by simp) (Ai rfl (Ai (Go.Sx.ones1 rfl) fun h8 p8=>?_))))
  replace p8:Put h7 h8 b4 [.int .i64 1,.string ⟨#[]⟩,.string ⟨#[]⟩,.int .i64 0,.slice ua ns.length uc,.slice a L.length c]:=p8
  have T8:=T7.ol
  have K8:=(K7.lo (by omega:h6.size≤h6.size)).old p8.chg (fun x hx=>.inl (by rw[one_in hx];omega))
  have hu4:∀q∈ablk ua,q<h3.size:=fun q hq=>(T3.fr q hq).2
  have T8:Txts h1.size h8 (.slice ua ns.length uc) ns:=⟨T7.ol.chg p8.chg (fun q hq hin=>by have:=one_in hin;have:=hu4 q hq;omega),fun q hq=>⟨(T7.fr q hq).1,Nat.lt_of_lt_of_le (T7.fr q hq).2 p8.chg.size⟩⟩
  have R8:=R7.put1 p8 (by omega)
  have c08:=Chg.also c07 p8.chg (fun x hx=>.inr (by rw[one_in hx];omega))
  have B28:=B27.chg p8.chg (by intro hin;have:=one_in hin;omega)
  have B48:=p8.blk
  have z8:=p8.chg.size
  refine Ei _ (Ai (cell_blk B48 rfl) (Ei _ (Ai (cell_blk B48 rfl) ?_)))
  refine Ai rfl (Ai (fun _=>?_) (fun _=>?_))
  ·refine call_ret (give_calls R8 _ _) ?_
   rintro _ h9 ⟨R9,c9⟩
   exact cut_at [(2,pt b2),(4,pt b4)] ⟨rfl,rfl,trivial⟩ (fin ((K8.old c9 (fun x hx=>.inl (by rw[one_in hx];omega))).lo (by omega)) hL (T8.old c9 (fun x hx=>.inl (by rw[one_in hx];omega))) (Nat.zero_le _) R9 (stepC c08 c9) (by have:=c9.size;omega) (B28.chg c9 (by intro hin;have:=one_in hin;omega)) (B48.chg c9 (by intro hin;have:=one_in hin;omega)))
  ·exact cut_at [(2,pt b2),(4,pt b4)] ⟨rfl,rfl,trivial⟩ (fin (K8.lo (by omega)) hL T8 (by omega) R8 c08 (by omega) B28 B48)
 ·-- a function
  have c02:=stepC c1 c2
  have B22:=B2.chg c2 (by intro hin;have:=one_in hin;omega)
  refine call_ret (name_calls R2) ?_
  rintro _ h3 ⟨s,left3,rfl,hl3,_,R3,c3⟩
  have c03:=stepC c02 c3
  have B23:=B22.chg c3 (by intro hin;have:=one_in hin;omega)
  have z3:=c03.size
  intro b3 h4 g4
  refine Ei _ (Ai g4.blk (Ai (by simp) (Ai rfl (Ai (leaf_ones 9 0 s _) fun h5 p5=>?_))))
  have g5:Grow h3 h5 b3 [.int .i64 9,.string s,.string ⟨#[]⟩,.int .i64 0,.slice none 0 0,.slice none 0 0]:=g4.put p5
  have i5:=g5.id
  have s5:=g5.size
  have B35:=g5.blk
  have B25:=B23.chg g5.chg (by simp)
  have c05:Chg [C.b] h h5:=Chg.also c03 g5.chg (by simp)
  have z23:=c3.size
  have z12:=c2.size
  refine call_ret (want_calls (R3.ext g5.chg) _) ?_
  rintro _ h6 ⟨left6,hl6,R6,c6⟩
  have c06:=stepC c05 c6
  have B36:=B35.chg c6 (by intro hin;have:=one_in hin;omega)
  have B26:=B25.chg c6 (by intro hin;have:=one_in hin;omega)
  have z6:=c6.size
  have fin:∀{nx:Env→List Deferred→Heap→Prop} {h7:Heap} {u:Value} {ns:List ByteArray} {left7:Nat},Txts h5.size h7 u ns→ns.length≤2001→left7≤left→Rd C h7 left7→Chg [C.b] h h7→h5.size≤h7.size→Blk h7 b2 zN→Blk h7 b3 [.int .i64 9,.string s,.string ⟨#[]⟩,.int .i64 0,u,.slice none 0 0]→
    swp Tryz.prog (.seq (.ops f182r7) (.seq (.ops f182r8) .ret)) (thenQ nx (retQ [.cn 2 6] (Ret (NodeQ C h left false)))) (mk [(0,pt C.b),(2,pt b2),(3,pt b3)]) [] h7:=by
   intro nx h7 u ns left7 T7 hn hl7 R7 c07 z7 B27 B37
   refine call_ret (he left7 hl7 R7) ?_
   rintro _ h8 ⟨⟨k,s8,x8,n8,u8,w8,v8,l8⟩,left8,rfl,m8,hl8,_,R8,c8⟩
   have c08:=stepC c07 c8
   have T8:=T7.old c8 (fun x hx=>.inl (by rw[one_in hx];omega))
   have B38:=B37.chg c8 (by intro hin;have:=one_in hin;omega)
   have B28:=B27.chg c8 (by intro hin;have:=one_in hin;omega)
   have z8:=c8.size
   intro b9 h9 g9
   have K9:=(Kids.one m8 g9 z8).lo z7
   have T9:=T8.old g9.chg (by simp)
   have B39:=B38.chg g9.chg (by simp)
   have B29:=B28.chg g9.chg (by simp)
   have c09:Chg [C.b] h h9:=Chg.also c08 g9.chg (by simp)
   refine Ei _ (Ai B39 (Ai (by simp) (Ai rfl (Ai (Go.Sx.ones1 rfl) fun h10 p10=>?_))))
   replace p10:Put h9 h10 b3 [.int .i64 9,.string s,.string ⟨#[]⟩,.int .i64 0,u,.slice (some ⟨b9,0,none⟩) 1 1]:=p10
   have K10:=K9.old p10.chg (fun x hx=>.inl (by rw[one_in hx];omega))
   have T10:=T9.old p10.chg (fun x hx=>.inl (by rw[one_in hx];omega))
   have m10:Made h5.size h10 (.mk 9 s ⟨#[]⟩ 0 u ns (.slice (some ⟨b9,0,none⟩) 1 1) _):=K10.node 9 0 s ⟨#[]⟩ T10.ol.sl (by omega) (by simp) T10.fr
   have c010:Chg [C.b] h h10:=Chg.also c09 p10.chg (fun x hx=>.inr (by rw[one_in hx];omega))
   have B210:=B29.chg p10.chg (by intro hin;have:=one_in hin;omega)
   refine Ei _ (Ai rfl (Ai (cells_blk p10.blk) ?_))
   refine Ei _ (Ai B210 (Ai (by simp) (Ai rfl (Ai m10.ok.ones fun h11 p11=>?_))))
   refine Ei _ (Ai rfl (Ai (cells_blk p11.blk) ?_))
   exact node_done p11 m10 (by omega) (by omega) ((R8.ext g9.chg).put1 p10 (by omega)) (by omega) (fun h=>by cases h) c010 hb
  refine call_ret (take_calls R6 _) ?_
  rintro _ h7 (⟨rfl,rfl⟩|⟨rfl,hpos7,R7,c7⟩)
  ·refine call_ret (names_calls R6) ?_
   rintro u h8 ⟨ns,left8,T8,hn8,hl8,R8,c8⟩
   obtain⟨ua,uc,rfl,_⟩:=T8.ol.form
   have z8:=c8.size
   have c08:=stepC c06 c8
   have B38:=B36.chg c8 (by intro hin;have:=one_in hin;omega)
   have B28:=B26.chg c8 (by intro hin;have:=one_in hin;omega)
   refine Ei _ (Ai B38 (Ai (by simp) (Ai rfl (Ai (Go.Sx.ones1 rfl) fun h9 p9=>?_))))
   replace p9:Put h8 h9 b3 [.int .i64 9,.string s,.string ⟨#[]⟩,.int .i64 0,.slice ua ns.length uc,.slice none 0 0]:=p9
   have T9:=T8.old p9.chg (fun x hx=>.inl (by rw[one_in hx];omega))
   have R9:=R8.put1 p9 (by omega)
   have c09:Chg [C.b] h h9:=Chg.also c08 p9.chg (fun x hx=>.inr (by rw[one_in hx];omega))
   have B29:=B28.chg p9.chg (by intro hin;have:=one_in hin;omega)
   have z9:=p9.chg.size
   refine call_ret (want_calls R9 _) ?_
   rintro _ h10 ⟨left10,hl10,R10,c10⟩
   have z10:=c10.size
   exact cut_in [(0,pt C.b),(2,pt b2),(3,pt b3)] (mono_thenQ (fun σ σ' ds h hs hh=>swp_sub _ _ σ σ' ds h mono_retQ hs hh) mono_retQ) ⟨rfl,rfl,rfl,trivial⟩ (fin (ns:=ns) ⟨(T9.old c10 (fun x hx=>.inl (by rw[one_in hx];omega))).ol,fun q hq=>⟨by have:=(T9.fr q hq).1;omega,Nat.lt_of_lt_of_le (T9.fr q hq).2 z10⟩⟩ hn8 (by omega) R10 (stepC c09 c10) (by omega) (B29.chg c10 (by intro hin;have:=one_in hin;omega)) (p9.blk.chg c10 (by intro hin;have:=one_in hin;omega)))
  ·have z7:=c7.size
   refine not_end (v:=true) rfl ?_
   refine cnd_no rfl ?_
   refine skp_no (c:=.seq (.ops f182r7) (.seq (.ops f182r8) .ret)) ?_
   exact cut_in [(0,pt C.b),(2,pt b2),(3,pt b3)] (mono_thenQ (fun σ σ' ds h hs hh=>swp_sub _ _ σ σ' ds h mono_retQ hs hh) mono_retQ) ⟨rfl,rfl,rfl,trivial⟩ (fin (ns:=[]) Txts.nil (by simp) (by omega) R7 (stepC c06 c7) (by omega) (B26.chg c7 (by intro hin;have:=one_in hin;omega)) (B36.chg c7 (by intro hin;have:=one_in hin;omega)))
def OpQ (C:Ct) (h:Heap) (left:Nat) (r:Value) (h':Heap):Prop:=
 ∃(t:ND) (left':Nat) (may:Bool),r=.tuple ⟨[.agg ⟨encN t⟩,.bool may]⟩∧Made h.size h' t∧left'≤left∧(0<left→left'<left)∧Rd C h' left'∧Chg [C.b] h h'
theorem op_done {C:Ct} {h h1 h2:Heap} {left left' lo b2:Nat} {may:Bool} {t:ND} {l:List Value} (p:Put h1 h2 b2 l) (m:Made lo h1 t) (hb:b2<lo) (h0:h.size≤b2) (R:Rd C h1 left') (hl:left'≤left) (hs:0<left→left'<left) (c:Chg [C.b] h h1) (hC:C.b<h.size):
  OpQ C h left (.tuple ⟨[.agg ⟨encN t⟩,.bool may]⟩) h2:=
 ⟨t,left',may,rfl,(m.old p.chg (fun x hx=>.inl (by rw[one_in hx];exact hb))).lo (by omega),hl,hs,R.put1 p (by omega),Chg.also c p.chg (fun x hx=>.inr (by rw[one_in hx];exact h0))⟩
set_option maxRecDepth 100000 in
theorem operand_calls {C:Ct} {h:Heap} {left:Nat} (R:Rd C h left) (hc:∀l,l<left→∀w,NodeC C 337 [.string w] false l) (hbr:∀l,l<left→∀w,NodeC C 244 [.string w] false l) (ht:∀l,l<left→NodeC C 338 [] false l):
  CallsH Tryz.prog 243 [pt C.b] h (Ret (OpQ C h left)):=by
 have hb:C.b<h.size:=R.lt
 refine f243_calls (by simp) ?_
 intro b2 h1 g1
 have i1:=g1.id
 have s1:=g1.size
 have B2:Blk h1 b2 zN:=g1.blk
 have c1:Chg [C.b] h h1:=g1.chg.mono (by simp)
 -- the first kind
 refine call_ret (kind_calls (R.ext g1.chg) 2) ?_
 rintro _ h2 ⟨k2,n2,p2,w2,t2,rfl,hq2⟩
 have z2:h1.size≤h2.size:=by rcases hq2 with⟨_,_,c⟩|⟨_,_,_,c⟩<;>exact c.size
 intro b4 h3 g3
 refine Ei _ (Ai g3.blk (Ai (by simp) (Ai rfl (Ai (ones_w _ _ _ _) fun h4 q4=>?_))))
 have g4:Grow h2 h4 b4 [.int .i64 k2,.string w2,.int .i64 n2,.int .i64 p2]:=g3.put q4
 have i4:=g4.id
 have s4:=g4.size
 have B44:=g4.blk
 rcases hq2 with⟨rfl,R2,c2⟩|⟨rfl,hpos,R2,c2⟩
 case inr=>
  have R4:=R2.ext g4.chg
  have c04:Chg [C.b] h h4:=Chg.also (stepC c1 c2) g4.chg (by simp)
  have B24:=(B2.chg c2 (by intro hin;have:=one_in hin;omega)).chg g4.chg (by simp)
  refine Ei _ (Ai (cell_blk B44 rfl) ?_)
  refine Ei _ (Ai B24 (Ai (by simp) (Ai rfl (Ai (leaf_ones 13 n2 _ _) fun h9 p9=>?_))))
  refine Ei _ (Ai rfl (Ai (cells_blk p9.blk) ?_))
  exact op_done (t:=.mk 13 ⟨#[]⟩ ⟨#[]⟩ n2 (.slice none 0 0) [] (.slice none 0 0) []) p9 (made_leaf (lo:=h1.size) 13 n2 _ _) (by omega) (by omega) R4 (by omega) (fun _=>by omega) c04 hb
 have R4:=R2.ext g4.chg
 have e14:Chg [] h1 h4:=c2.nil g4.chg
 have B24:=B2.chg e14 (by simp)
 have c04:Chg [C.b] h h4:=Chg.also c1 e14 (by simp)
 -- the second
 refine call_ret (kind_calls R4 3) ?_
 rintro _ h5 ⟨k5,n5,p5,w5,t5,rfl,hq5⟩
 have z5:h4.size≤h5.size:=by rcases hq5 with⟨_,_,c⟩|⟨_,_,_,c⟩<;>exact c.size
 have B45:Blk h5 b4 [.int .i64 k2,.string w2,.int .i64 n2,.int .i64 p2]:=by
  rcases hq5 with⟨_,_,c⟩|⟨_,_,_,c⟩
  ·exact B44.chg c (by simp)
  ·exact B44.chg c (by intro hin;have:=one_in hin;omega)
 refine Ei _ (Ai B45 (Ai (by simp) (Ai rfl (Ai (ones_w _ _ _ _) fun h6 q6=>?_))))
 replace q6:Put h5 h6 b4 [.int .i64 k5,.string w5,.int .i64 n5,.int .i64 p5]:=q6
 have B46:=q6.blk
 have z6:=q6.chg.size
 rcases hq5 with⟨rfl,R5,c5⟩|⟨rfl,hpos,R5,c5⟩
 case inr=>
  have R6:=R5.put1 q6 (by omega)
  have c06:Chg [C.b] h h6:=Chg.also (stepC c04 c5) q6.chg (fun x hx=>.inr (by rw[one_in hx];omega))
  have B26:=(B24.chg c5 (by intro hin;have:=one_in hin;omega)).chg q6.chg (by intro hin;have:=one_in hin;omega)
  refine Ei _ (Ai (cell_blk B46 rfl) ?_)
  refine Ei _ (Ai B26 (Ai (by simp) (Ai rfl (Ai (leaf_ones 14 0 _ w5) fun h9 p9=>?_))))
  refine Ei _ (Ai rfl (Ai (cells_blk p9.blk) ?_))
  exact op_done (t:=.mk 14 ⟨#[]⟩ w5 0 (.slice none 0 0) [] (.slice none 0 0) []) p9 (made_leaf (lo:=h1.size) 14 0 _ _) (by omega) (by omega) R6 (by omega) (fun _=>by omega) c06 hb
 have R6:=R5.put1 q6 (by omega)
 have c06:Chg [C.b] h h6:=Chg.also (Chg.also c04 c5 (by simp)) q6.chg (fun x hx=>.inr (by rw[one_in hx];omega))
 have B26:=(B24.chg c5 (by simp)).chg q6.chg (by intro hin;have:=one_in hin;omega)
 -- a name
 refine call_ret (kind_calls R6 0) ?_
 rintro _ h7 ⟨k7,n7,p7,w7,t7,rfl,hq7⟩
 have z7:h6.size≤h7.size:=by rcases hq7 with⟨_,_,c⟩|⟨_,_,_,c⟩<;>exact c.size
 have B47:Blk h7 b4 [.int .i64 k5,.string w5,.int .i64 n5,.int .i64 p5]:=by
  rcases hq7 with⟨_,_,c⟩|⟨_,_,_,c⟩
  ·exact B46.chg c (by simp)
  ·exact B46.chg c (by intro hin;have:=one_in hin;omega)
 refine Ei _ (Ai B47 (Ai (by simp) (Ai rfl (Ai (ones_w _ _ _ _) fun h8 q8=>?_))))
 replace q8:Put h7 h8 b4 [.int .i64 k7,.string w7,.int .i64 n7,.int .i64 p7]:=q8
 have B48:=q8.blk
 have z8:=q8.chg.size
 rcases hq7 with⟨rfl,R7,c7⟩|⟨rfl,hpos,R7,c7⟩
 case inr=>
  have R8:=R7.put1 q8 (by omega)
  have c08:Chg [C.b] h h8:=Chg.also (stepC c06 c7) q8.chg (fun x hx=>.inr (by rw[one_in hx];omega))
  have B28:=(B26.chg c7 (by intro hin;have:=one_in hin;omega)).chg q8.chg (by intro hin;have:=one_in hin;omega)
  refine call_ret (take_calls R8 _) ?_
  rintro _ h9 (⟨rfl,rfl⟩|⟨rfl,hpos9,R9,c9⟩)
  ·refine Ei _ (Ai (cell_blk B48 rfl) ?_)
   refine Ei _ (Ai B28 (Ai (by simp) (Ai rfl (Ai (leaf_ones 15 0 w7 _) fun h9 p9=>?_))))
   refine Ei _ (Ai rfl (Ai (cells_blk p9.blk) ?_))
   exact op_done (t:=.mk 15 w7 ⟨#[]⟩ 0 (.slice none 0 0) [] (.slice none 0 0) []) p9 (made_leaf (lo:=h1.size) 15 0 _ _) (by omega) (by omega) R8 (by omega) (fun _=>by omega) c08 hb
  ·have B49:=B48.chg c9 (by intro hin;have:=one_in hin;omega)
   have B29:=B28.chg c9 (by intro hin;have:=one_in hin;omega)
   have z9:=c9.size
   refine Ei _ (Ai (cell_blk B49 rfl) ?_)
   refine call_ret (hc _ (by omega) w7 R9) ?_
   rintro _ h10 ⟨⟨k,s,x,n,u,ns,v,l⟩,left10,rfl,m10,hl10,_,R10,c10⟩
   have B210:=B29.chg c10 (by intro hin;have:=one_in hin;omega)
   refine Ei _ (Ai B210 (Ai (by simp) (Ai rfl (Ai m10.ok.ones fun h11 p11=>?_))))
   refine Ei _ (Ai rfl (Ai (cells_blk p11.blk) ?_))
   exact op_done (t:=.mk k s x n u ns v l) p11 m10 (by omega) (by omega) R10 (by omega) (fun _=>by omega) (stepC (stepC c08 c9) c10) hb
 have R8:=R7.put1 q8 (by omega)
 have c08:Chg [C.b] h h8:=Chg.also (Chg.also c06 c7 (by simp)) q8.chg (fun x hx=>.inr (by rw[one_in hx];omega))
 have B28:=(B26.chg c7 (by simp)).chg q8.chg (by intro hin;have:=one_in hin;omega)
 -- words of the language
 refine call_ret (take_calls R8 _) ?_
 rintro _ h9 (⟨rfl,rfl⟩|⟨rfl,hpos9,R9,c9⟩)
 case inr=>
  have B29:=B28.chg c9 (by intro hin;have:=one_in hin;omega)
  refine Ei _ (Ai B29 (Ai (by simp) (Ai rfl (Ai (leaf_ones 10 0 _ _) fun h10 p10=>?_))))
  refine Ei _ (Ai rfl (Ai (cells_blk p10.blk) ?_))
  exact op_done (t:=.mk 10 ⟨#[]⟩ ⟨#[]⟩ 0 (.slice none 0 0) [] (.slice none 0 0) []) p10 (made_leaf (lo:=h1.size) 10 0 _ _) (by omega) (by omega) R9 (by omega) (fun _=>by omega) (stepC c08 c9) hb
 refine call_ret (take_calls R8 _) ?_
 rintro _ h9 (⟨rfl,rfl⟩|⟨rfl,hpos9,R9,c9⟩)
 case inr=>
  have B29:=B28.chg c9 (by intro hin;have:=one_in hin;omega)
  refine Ei _ (Ai B29 (Ai (by simp) (Ai rfl (Ai (leaf_ones 11 0 _ _) fun h10 p10=>?_))))
  refine Ei _ (Ai rfl (Ai (cells_blk p10.blk) ?_))
  exact op_done (t:=.mk 11 ⟨#[]⟩ ⟨#[]⟩ 0 (.slice none 0 0) [] (.slice none 0 0) []) p10 (made_leaf (lo:=h1.size) 11 0 _ _) (by omega) (by omega) R9 (by omega) (fun _=>by omega) (stepC c08 c9) hb
 refine call_ret (take_calls R8 _) ?_
 rintro _ h9 (⟨rfl,rfl⟩|⟨rfl,hpos9,R9,c9⟩)
 case inr=>
  have B29:=B28.chg c9 (by intro hin;have:=one_in hin;omega)
  refine Ei _ (Ai B29 (Ai (by simp) (Ai rfl (Ai (leaf_ones 12 0 _ _) fun h10 p10=>?_))))
  refine Ei _ (Ai rfl (Ai (cells_blk p10.blk) ?_))
  exact op_done (t:=.mk 12 ⟨#[]⟩ ⟨#[]⟩ 0 (.slice none 0 0) [] (.slice none 0 0) []) p10 (made_leaf (lo:=h1.size) 12 0 _ _) (by omega) (by omega) R9 (by omega) (fun _=>by omega) (stepC c08 c9) hb
 refine call_ret (take_calls R8 _) ?_
 rintro _ h9 (⟨rfl,rfl⟩|⟨rfl,hpos9,R9,c9⟩)
 case inr=>
  have B29:=B28.chg c9 (by intro hin;have:=one_in hin;omega)
  have z9:=c9.size
  refine call_ret (hbr _ (by omega) _ R9) ?_
  rintro _ h10 ⟨⟨k,s,x,n,u,ns,v,l⟩,left10,rfl,m10,hl10,_,R10,c10⟩
  have B210:=B29.chg c10 (by intro hin;have:=one_in hin;omega)
  refine Ei _ (Ai B210 (Ai (by simp) (Ai rfl (Ai m10.ok.ones fun h11 p11=>?_))))
  refine Ei _ (Ai rfl (Ai (cells_blk p11.blk) ?_))
  exact op_done (t:=.mk k s x n u ns v l) p11 m10 (by omega) (by omega) R10 (by omega) (fun _=>by omega) (stepC (stepC c08 c9) c10) hb
 refine call_ret (take_calls R8 _) ?_
 rintro _ h9 (⟨rfl,rfl⟩|⟨rfl,hpos9,R9,c9⟩)
 case inr=>
  have B29:=B28.chg c9 (by intro hin;have:=one_in hin;omega)
  have z9:=c9.size
  refine call_ret (ht _ (by omega) R9) ?_
  rintro _ h10 ⟨⟨k,s,x,n,u,ns,v,l⟩,left10,rfl,m10,hl10,_,R10,c10⟩
  have B210:=B29.chg c10 (by intro hin;have:=one_in hin;omega)
  refine Ei _ (Ai B210 (Ai (by simp) (Ai rfl (Ai m10.ok.ones fun h11 p11=>?_))))
  refine Ei _ (Ai rfl (Ai (cells_blk p11.blk) ?_))
  exact op_done (t:=.mk k s x n u ns v l) p11 m10 (by omega) (by omega) R10 (by omega) (fun _=>by omega) (stepC (stepC c08 c9) c10) hb
 refine call_ret (place_calls R8) ?_
 rintro _ _ ⟨⟨z,rfl⟩,rfl⟩
 refine call_ret (give_calls R8 z 220) ?_
 rintro _ h9 ⟨R9,c9⟩
 have B29:=B28.chg c9 (by intro hin;have:=one_in hin;omega)
 refine Ei _ (Ai B29 (Ai (by simp) (Ai rfl (Ai (leaf_ones 0 0 _ _) fun h10 p10=>?_))))
 refine Ei _ (Ai rfl (Ai (cells_blk p10.blk) ?_))
 exact op_done (t:=.mk 0 ⟨#[]⟩ ⟨#[]⟩ 0 (.slice none 0 0) [] (.slice none 0 0) []) p10 (made_leaf (lo:=h1.size) 0 0 _ _) (by omega) (by omega) R9 (by omega) (fun h=>h) (stepC c08 c9) hb
end Go.Proofs.YtikcimlokhmleaaGreatDoor
set_option maxRecDepth 100000
namespace Go.Proofs.YtikcimlokhmleaaGreatDoor.C
open Go Go.Sx Go.Sx.S
def g134r0:LS:=[o 2 (.new [(.int .i64 0),(.string ⟨#[]⟩),(.string ⟨#[]⟩),(.int .i64 0),(.slice none 0 0),(.slice none 0 0)])]
def g134r1:LS:=[M 6 0,o 7 (.call 135 [(t 6),(.const (.string ⟨#[108,111,99,97,108]⟩))])]
def g134r2:LS:=[M 8 0,o 9 (.call 182 [(t 8)]),q (.st 6 (t 2) (t 9))]
def g134r3:LS:=[M 10 0,o 11 (.call 135 [(t 10),(.const (.string ⟨#[100,111]⟩))])]
def g134r4:LS:=[M 12 0,o 13 (.call 183 [(t 12)]),o 14 (.bslice [(.int .i64 0),(.string ⟨#[]⟩),(.string ⟨#[]⟩),(.int .i64 0),(.slice none 0 0),(.slice none 0 0)] 1 [(0,6)] [(t 13)]),o 15 (.build [(.int .i64 0),(.string ⟨#[]⟩),(.string ⟨#[]⟩),(.int .i64 0),(.slice none 0 0),(.slice none 0 0)] [(0,1),(5,1)] [(i 3),(t 14)]),q (.st 6 (t 2) (t 15))]
def g134r5:LS:=[M 16 0,o 17 (.call 135 [(t 16),(.const (.string ⟨#[105,102]⟩))])]
def g134r6:LS:=[M 18 0,o 19 (.call 184 [(t 18)]),q (.st 6 (t 2) (t 19))]
def g134r7:LS:=[M 20 0,o 21 (.call 135 [(t 20),(.const (.string ⟨#[119,104,105,108,101]⟩))])]
def g134r8:LS:=[M 22 0,o 23 (.call 185 [(t 22),(i 0)]),o 3 (.new [(.int .i64 0),(.string ⟨#[]⟩),(.string ⟨#[]⟩),(.int .i64 0),(.slice none 0 0),(.slice none 0 0)]),q (.st 6 (t 3) (t 23))]
def g134r9:LS:=[M 24 0,o 25 (.call 186 [(t 24),(.const (.string ⟨#[100,111]⟩))])]
def g134t10:OTree:=(.one (M 27 0)
 (.one (o 26 (.ldn 6 (t 3)))
 (.one (o 28 (.call 183 [(t 27)]))
 (.chk [o 26 (.ldn 6 (t 3))] (.one (o 29 (.bslice [(.int .i64 0),(.string ⟨#[]⟩),(.string ⟨#[]⟩),(.int .i64 0),(.slice none 0 0),(.slice none 0 0),(.int .i64 0),(.string ⟨#[]⟩),(.string ⟨#[]⟩),(.int .i64 0),(.slice none 0 0),(.slice none 0 0)] 2 [(0,6),(6,6)] [(t 26),(t 28)]))
 (.one (o 30 (.build [(.int .i64 0),(.string ⟨#[]⟩),(.string ⟨#[]⟩),(.int .i64 0),(.slice none 0 0),(.slice none 0 0)] [(0,1),(5,1)] [(i 5),(t 29)]))
 (.one (q (.st 6 (t 2) (t 30)))
 .done)))))))
def g134r11:LS:=[M 31 0,o 32 (.call 135 [(t 31),(.const (.string ⟨#[102,111,114]⟩))])]
def g134r12:LS:=[M 33 0,o 34 (.call 187 [(t 33)]),q (.st 6 (t 2) (t 34))]
def g134r13:LS:=[M 35 0,o 36 (.call 135 [(t 35),(.const (.string ⟨#[98,114,101,97,107]⟩))])]
def g134r14:LS:=[o 37 (.build [(.int .i64 0),(.string ⟨#[]⟩),(.string ⟨#[]⟩),(.int .i64 0),(.slice none 0 0),(.slice none 0 0)] [(0,1)] [(i 8)]),q (.st 6 (t 2) (t 37))]
def g134r15:LS:=[M 38 0,o 39 (.call 135 [(t 38),(.const (.string ⟨#[114,101,116,117,114,110]⟩))])]
def g134r16:LS:=[M 40 0,o 41 (.call 181 [(t 40),(.const (.string ⟨#[59]⟩))]),M 42 41,
 n 43 42 (.mv (t 0)),
 n 44 42 (.call 133 [(t 43)]),o 45 (.pick (t 42) (b true) (t 44))]
def g134r17:LS:=[o 46 (.build [(.int .i64 0),(.string ⟨#[]⟩),(.string ⟨#[]⟩),(.int .i64 0),(.slice none 0 0),(.slice none 0 0)] [(0,1)] [(i 7)]),q (.st 6 (t 2) (t 46))]
def g134r18:LS:=[M 47 0,o 48 (.call 185 [(t 47),(i 0)]),o 49 (.bslice [(.int .i64 0),(.string ⟨#[]⟩),(.string ⟨#[]⟩),(.int .i64 0),(.slice none 0 0),(.slice none 0 0)] 1 [(0,6)] [(t 48)]),o 50 (.build [(.int .i64 0),(.string ⟨#[]⟩),(.string ⟨#[]⟩),(.int .i64 0),(.slice none 0 0),(.slice none 0 0)] [(0,1),(5,1)] [(i 7),(t 49)]),q (.st 6 (t 2) (t 50))]
def g134r19:LS:=[M 51 0,o 52 (.call 86 [(t 51)]),M 4 52]
def g134r20:LS:=[M 53 0,o 54 (.call 188 [(t 53)]),o 5 (.new [(.int .i64 0),(.string ⟨#[]⟩),(.string ⟨#[]⟩),(.int .i64 0),(.slice none 0 0),(.slice none 0 0)]),q (.st 6 (t 5) (t 54))]
def g134r21:LS:=[A 55 0 5,L 56 55,E 57 56 17,M 58 57,
 g 59 58 (.mv (t 0)),
 g 60 58 (.call 181 [(t 59),(.const (.string ⟨#[61]⟩))]),
 g 61 58 (.un .not (t 60)),o 62 (.pick (t 58) (t 61) (b false))]
def g134r22:LS:=[o 63 (.ldn 6 (t 5)),q (.st 6 (t 2) (t 63))]
def g134r23:LS:=[A 64 0 5,L 65 64,o 66 (.cmp .neq (t 65) (i 15)),M 67 66,
 g 68 67 (.fa 0 (t 5)),
 g 69 67 (.ld1 (t 68)),
 g 70 67 (.cmp .neq (t 69) (i 16)),o 71 (.pick (t 67) (t 70) (b false))]
def g134r24:LS:=[M 72 0,M 73 4,o 74 (.call 85 [(t 72),(t 73),(i 220)])]
def g134r25:LS:=[M 75 0,o 76 (.call 186 [(t 75),(.const (.string ⟨#[61]⟩))])]
def g134t26:OTree:=(.one (M 78 0)
 (.one (o 77 (.ldn 6 (t 5)))
 (.one (o 79 (.call 185 [(t 78),(i 0)]))
 (.chk [o 77 (.ldn 6 (t 5))] (.one (o 80 (.bslice [(.int .i64 0),(.string ⟨#[]⟩),(.string ⟨#[]⟩),(.int .i64 0),(.slice none 0 0),(.slice none 0 0),(.int .i64 0),(.string ⟨#[]⟩),(.string ⟨#[]⟩),(.int .i64 0),(.slice none 0 0),(.slice none 0 0)] 2 [(0,6),(6,6)] [(t 77),(t 79)]))
 (.one (o 81 (.build [(.int .i64 0),(.string ⟨#[]⟩),(.string ⟨#[]⟩),(.int .i64 0),(.slice none 0 0),(.slice none 0 0)] [(0,1),(5,1)] [(i 2),(t 80)]))
 (.one (q (.st 6 (t 2) (t 81)))
 .done)))))))
def g134:SCode:=(.j g134r0 (.seq (.j g134r1 (.k 7 g134r2)) (.seq (.j g134r3 (.k 11 g134r4)) (.seq (.j g134r5 (.k 17 g134r6)) (.seq (.j g134r7 (.cond (t 21) (.j g134r8 (.j g134r9 (.seq (.tree [26,27,28,29,30] g134t10) .ret))) .skip)) (.seq (.j g134r11 (.k 32 g134r12)) (.seq (.j g134r13 (.k 36 g134r14)) (.seq (.j g134r15 (.cond (t 39) (.seq (.j g134r16 (.k 45 g134r17)) (.j g134r18 .ret)) .skip)) (.j g134r19 (.j g134r20 (.seq (.j g134r21 (.k 62 g134r22)) (.seq (.j g134r23 (.cond (t 71) (.ops g134r24) .skip)) (.j g134r25 (.seq (.tree [77,78,79,80,81] g134t26) .ret))))))))))))))
theorem g134_calls:SoundD Tryz.prog 134 82 g134 [.cn 2 6]:=soundD_of (fl:=false) mixed Tryz.func134 rfl (by kernel_rfl) (by kernel_rfl) (by kernel_rfl)
def g184r0:LS:=[o 2 (.new [(.int .i64 0),(.string ⟨#[]⟩),(.string ⟨#[]⟩),(.int .i64 0),(.slice none 0 0),(.slice none 0 0)])]
def g184r1:LS:=[o 4 (.build [(.int .i64 0),(.string ⟨#[]⟩),(.string ⟨#[]⟩),(.int .i64 0),(.slice none 0 0),(.slice none 0 0)] [(0,1)] [(i 4)]),o 3 (.new [(.int .i64 0),(.string ⟨#[]⟩),(.string ⟨#[]⟩),(.int .i64 0),(.slice none 0 0),(.slice none 0 0)]),q (.st 6 (t 3) (t 4))]
def g184t2:OTree:=(.one (A 5 5 3)
 (.one (M 7 0)
 (.one (L 6 5)
 (.one (o 8 (.call 185 [(t 7),(i 0)]))
 (.chk [L 6 5] (.one (o 9 (.bslice [(.int .i64 0),(.string ⟨#[]⟩),(.string ⟨#[]⟩),(.int .i64 0),(.slice none 0 0),(.slice none 0 0)] 1 [(0,6)] [(t 8)]))
 (.chk [L 6 5] (.one (o 10 (.app 6 96 [(.int .i64 0),(.string ⟨#[]⟩),(.string ⟨#[]⟩),(.int .i64 0),(.slice none 0 0),(.slice none 0 0)] (t 6) (t 9)))
 (.one (A 11 5 3)
 (.one (q (.st 1 (t 11) (t 10)))
 .done))))))))))
def g184r3:LS:=[M 12 0,o 13 (.call 186 [(t 12),(.const (.string ⟨#[116,104,101,110]⟩))])]
def g184t4:OTree:=(.one (A 14 5 3)
 (.one (M 16 0)
 (.one (L 15 14)
 (.one (o 17 (.call 240 [(t 16)]))
 (.chk [L 15 14] (.one (o 18 (.bslice [(.int .i64 0),(.string ⟨#[]⟩),(.string ⟨#[]⟩),(.int .i64 0),(.slice none 0 0),(.slice none 0 0)] 1 [(0,6)] [(t 17)]))
 (.chk [L 15 14] (.one (o 19 (.app 6 96 [(.int .i64 0),(.string ⟨#[]⟩),(.string ⟨#[]⟩),(.int .i64 0),(.slice none 0 0),(.slice none 0 0)] (t 15) (t 18)))
 (.one (A 20 5 3)
 (.one (q (.st 1 (t 20) (t 19)))
 .done))))))))))
def g184r5:LS:=[M 21 0,o 22 (.call 135 [(t 21),(.const (.string ⟨#[101,108,115,101,105,102]⟩))]),o 23 (.un .not (t 22))]
def g184l6:SCode:=(.block 1 (.seq (.tree [5,6,7,8,9,10,11] g184t2) (.j g184r3 (.seq (.tree [14,15,16,17,18,19,20] g184t4) (.j g184r5 (.cond (t 23) (.exit 0) .skip))))))
def g184r7:LS:=[M 24 0,o 25 (.call 135 [(t 24),(.const (.string ⟨#[101,108,115,101]⟩))])]
def g184t8:OTree:=(.one (A 26 5 3)
 (.one (M 28 0)
 (.one (L 27 26)
 (.one (o 29 (.call 240 [(t 28)]))
 (.chk [L 27 26] (.one (o 30 (.bslice [(.int .i64 0),(.string ⟨#[]⟩),(.string ⟨#[]⟩),(.int .i64 0),(.slice none 0 0),(.slice none 0 0)] 1 [(0,6)] [(t 29)]))
 (.chk [L 27 26] (.one (o 31 (.app 6 96 [(.int .i64 0),(.string ⟨#[]⟩),(.string ⟨#[]⟩),(.int .i64 0),(.slice none 0 0),(.slice none 0 0)] (t 27) (t 30)))
 (.one (A 32 5 3)
 (.one (q (.st 1 (t 32) (t 31)))
 .done))))))))))
def g184r9:LS:=[M 33 0,o 34 (.call 186 [(t 33),(.const (.string ⟨#[101,110,100]⟩))])]
def g184r10:LS:=[o 35 (.ldn 6 (t 3)),q (.st 6 (t 2) (t 35))]
def g184:SCode:=(.j g184r0 (.j g184r1 (.seq (.block 0 (.loop g184l6)) (.seq (.j g184r7 (.cond (t 25) (.tree [26,27,28,29,30,31,32] g184t8) .skip)) (.j g184r9 (.j g184r10 .ret))))))
theorem g184_calls:SoundD Tryz.prog 184 36 g184 [.cn 2 6]:=soundD_of (fl:=false) mixed Tryz.func184 rfl (by kernel_rfl) (by kernel_rfl) (by kernel_rfl)
def g187r0:LS:=[o 2 (.new [(.int .i64 0),(.string ⟨#[]⟩),(.string ⟨#[]⟩),(.int .i64 0),(.slice none 0 0),(.slice none 0 0)])]
def g187r1:LS:=[M 4 0,o 5 (.call 237 [(t 4)]),o 6 (.bslice [(.string ⟨#[]⟩)] 1 [(0,1)] [(t 5)]),o 7 (.build [(.int .i64 0),(.string ⟨#[]⟩),(.string ⟨#[]⟩),(.int .i64 0),(.slice none 0 0),(.slice none 0 0)] [(0,1),(4,1)] [(i 6),(t 6)]),o 3 (.new [(.int .i64 0),(.string ⟨#[]⟩),(.string ⟨#[]⟩),(.int .i64 0),(.slice none 0 0),(.slice none 0 0)]),q (.st 6 (t 3) (t 7))]
def g187r2:LS:=[M 8 0,o 9 (.call 186 [(t 8),(.const (.string ⟨#[61]⟩))])]
def g187t3:OTree:=(.one (A 10 5 3)
 (.one (M 12 0)
 (.one (L 11 10)
 (.one (o 13 (.call 185 [(t 12),(i 0)]))
 (.chk [L 11 10] (.one (o 14 (.bslice [(.int .i64 0),(.string ⟨#[]⟩),(.string ⟨#[]⟩),(.int .i64 0),(.slice none 0 0),(.slice none 0 0)] 1 [(0,6)] [(t 13)]))
 (.chk [L 11 10] (.one (o 15 (.app 6 96 [(.int .i64 0),(.string ⟨#[]⟩),(.string ⟨#[]⟩),(.int .i64 0),(.slice none 0 0),(.slice none 0 0)] (t 11) (t 14)))
 (.one (A 16 5 3)
 (.one (q (.st 1 (t 16) (t 15)))
 .done))))))))))
def g187r4:LS:=[M 17 0,o 18 (.call 186 [(t 17),(.const (.string ⟨#[44]⟩))])]
def g187t5:OTree:=(.one (A 19 5 3)
 (.one (M 21 0)
 (.one (L 20 19)
 (.one (o 22 (.call 185 [(t 21),(i 0)]))
 (.chk [L 20 19] (.one (o 23 (.bslice [(.int .i64 0),(.string ⟨#[]⟩),(.string ⟨#[]⟩),(.int .i64 0),(.slice none 0 0),(.slice none 0 0)] 1 [(0,6)] [(t 22)]))
 (.chk [L 20 19] (.one (o 24 (.app 6 96 [(.int .i64 0),(.string ⟨#[]⟩),(.string ⟨#[]⟩),(.int .i64 0),(.slice none 0 0),(.slice none 0 0)] (t 20) (t 23)))
 (.one (A 25 5 3)
 (.one (q (.st 1 (t 25) (t 24)))
 .done))))))))))
def g187r6:LS:=[M 26 0,o 27 (.call 135 [(t 26),(.const (.string ⟨#[44]⟩))])]
def g187t7:OTree:=(.one (A 28 5 3)
 (.one (M 30 0)
 (.one (L 29 28)
 (.one (o 31 (.call 185 [(t 30),(i 0)]))
 (.chk [L 29 28] (.one (o 32 (.bslice [(.int .i64 0),(.string ⟨#[]⟩),(.string ⟨#[]⟩),(.int .i64 0),(.slice none 0 0),(.slice none 0 0)] 1 [(0,6)] [(t 31)]))
 (.chk [L 29 28] (.one (o 33 (.app 6 96 [(.int .i64 0),(.string ⟨#[]⟩),(.string ⟨#[]⟩),(.int .i64 0),(.slice none 0 0),(.slice none 0 0)] (t 29) (t 32)))
 (.one (A 34 5 3)
 (.one (q (.st 1 (t 34) (t 33)))
 .done))))))))))
def g187r8:LS:=[M 35 0,o 36 (.call 186 [(t 35),(.const (.string ⟨#[100,111]⟩))])]
def g187t9:OTree:=(.one (A 37 5 3)
 (.one (M 39 0)
 (.one (L 38 37)
 (.one (o 40 (.call 183 [(t 39)]))
 (.chk [L 38 37] (.one (o 41 (.bslice [(.int .i64 0),(.string ⟨#[]⟩),(.string ⟨#[]⟩),(.int .i64 0),(.slice none 0 0),(.slice none 0 0)] 1 [(0,6)] [(t 40)]))
 (.chk [L 38 37] (.one (o 42 (.app 6 96 [(.int .i64 0),(.string ⟨#[]⟩),(.string ⟨#[]⟩),(.int .i64 0),(.slice none 0 0),(.slice none 0 0)] (t 38) (t 41)))
 (.one (A 43 5 3)
 (.one (q (.st 1 (t 43) (t 42)))
 .done))))))))))
def g187r10:LS:=[o 44 (.ldn 6 (t 3)),q (.st 6 (t 2) (t 44))]
def g187:SCode:=(.j g187r0 (.j g187r1 (.j g187r2 (.seq (.tree [10,11,12,13,14,15,16] g187t3) (.j g187r4 (.seq (.tree [19,20,21,22,23,24,25] g187t5) (.seq (.j g187r6 (.cond (t 27) (.tree [28,29,30,31,32,33,34] g187t7) .skip)) (.j g187r8 (.seq (.tree [37,38,39,40,41,42,43] g187t9) (.j g187r10 .ret))))))))))
theorem g187_calls:SoundD Tryz.prog 187 45 g187 [.cn 2 6]:=soundD_of (fl:=false) mixed Tryz.func187 rfl (by kernel_rfl) (by kernel_rfl) (by kernel_rfl)
def g188r0:LS:=[o 2 (.new [(.int .i64 0),(.string ⟨#[]⟩),(.string ⟨#[]⟩),(.int .i64 0),(.slice none 0 0),(.slice none 0 0)])]
def g188r1:LS:=[M 6 0,o 7 (.call 243 [(t 6)]),M 5 7,X 8 5 0,X 9 5 1,o 3 (.new [(.int .i64 0),(.string ⟨#[]⟩),(.string ⟨#[]⟩),(.int .i64 0),(.slice none 0 0),(.slice none 0 0)]),q (.st 6 (t 3) (t 8)),M 4 9]
def g188r2:LS:=[M 10 4,M 11 10,
 g 12 11 (.mv (t 0)),
 g 13 11 (.nilck (t 12)),
 g 14 11 (.fa 5 (t 13)),
 g 15 11 (.ld1 (t 14)),
 g 16 11 (.cmp .eql (t 15) (i 0)),o 17 (.pick (t 11) (t 16) (b false))]
def g188r3:LS:=[M 18 0,o 19 (.call 135 [(t 18),(.const (.string ⟨#[91]⟩))])]
def g188t4:OTree:=(.one (M 21 0)
 (.one (o 20 (.ldn 6 (t 3)))
 (.one (o 22 (.call 244 [(t 21),(.const (.string ⟨#[93]⟩))]))
 (.chk [o 20 (.ldn 6 (t 3))] (.one (o 23 (.bslice [(.int .i64 0),(.string ⟨#[]⟩),(.string ⟨#[]⟩),(.int .i64 0),(.slice none 0 0),(.slice none 0 0),(.int .i64 0),(.string ⟨#[]⟩),(.string ⟨#[]⟩),(.int .i64 0),(.slice none 0 0),(.slice none 0 0)] 2 [(0,6),(6,6)] [(t 20),(t 22)]))
 (.one (o 24 (.build [(.int .i64 0),(.string ⟨#[]⟩),(.string ⟨#[]⟩),(.int .i64 0),(.slice none 0 0),(.slice none 0 0)] [(0,1),(5,1)] [(i 16),(t 23)]))
 (.one (q (.st 6 (t 3) (t 24)))
 .done)))))))
def g188r5:LS:=[M 25 0,o 26 (.call 135 [(t 25),(.const (.string ⟨#[46]⟩))])]
def g188t6:OTree:=(.one (M 28 0)
 (.one (o 27 (.ldn 6 (t 3)))
 (.one (o 29 (.call 237 [(t 28)]))
 (.chk [o 27 (.ldn 6 (t 3))] (.one (o 30 (.build [(.int .i64 0),(.string ⟨#[]⟩),(.string ⟨#[]⟩),(.int .i64 0),(.slice none 0 0),(.slice none 0 0)] [(0,1),(2,1)] [(i 14),(t 29)]))
 (.chk [o 27 (.ldn 6 (t 3))] (.one (o 31 (.bslice [(.int .i64 0),(.string ⟨#[]⟩),(.string ⟨#[]⟩),(.int .i64 0),(.slice none 0 0),(.slice none 0 0),(.int .i64 0),(.string ⟨#[]⟩),(.string ⟨#[]⟩),(.int .i64 0),(.slice none 0 0),(.slice none 0 0)] 2 [(0,6),(6,6)] [(t 27),(t 30)]))
 (.one (o 32 (.build [(.int .i64 0),(.string ⟨#[]⟩),(.string ⟨#[]⟩),(.int .i64 0),(.slice none 0 0),(.slice none 0 0)] [(0,1),(5,1)] [(i 16),(t 31)]))
 (.one (q (.st 6 (t 3) (t 32)))
 .done)))))))))
def g188l7:SCode:=(.seq (.j g188r2 (.cond (t 17) .skip (.exit 0))) (.block 1 (.j g188r3 (.cond (t 19) (.tree [20,21,22,23,24] g188t4) (.j g188r5 (.cond (t 26) (.tree [27,28,29,30,31,32] g188t6) (.exit 0)))))))
def g188r8:LS:=[o 33 (.ldn 6 (t 3)),q (.st 6 (t 2) (t 33))]
def g188:SCode:=(.j g188r0 (.j g188r1 (.seq (.block 0 (.loop g188l7)) (.j g188r8 .ret))))
theorem g188_calls:SoundD Tryz.prog 188 34 g188 [.cn 2 6]:=soundD_of (fl:=false) mixed Tryz.func188 rfl (by kernel_rfl) (by kernel_rfl) (by kernel_rfl)
def g338r0:LS:=[o 2 (.new [(.int .i64 0),(.string ⟨#[]⟩),(.string ⟨#[]⟩),(.int .i64 0),(.slice none 0 0),(.slice none 0 0)])]
def g338r1:LS:=[o 4 (.build [(.int .i64 0),(.string ⟨#[]⟩),(.string ⟨#[]⟩),(.int .i64 0),(.slice none 0 0),(.slice none 0 0)] [(0,1)] [(i 18)]),o 3 (.new [(.int .i64 0),(.string ⟨#[]⟩),(.string ⟨#[]⟩),(.int .i64 0),(.slice none 0 0),(.slice none 0 0)]),q (.st 6 (t 3) (t 4))]
def g338r2:LS:=[M 5 0,o 6 (.call 336 [(t 5)]),o 7 (.un .not (t 6))]
def g338r3:LS:=[o 8 (.ldn 6 (t 3)),q (.st 6 (t 2) (t 8))]
def g338r4:LS:=[M 9 0,K 10 9,A 11 5 10,L 12 11,E 13 12 0,M 14 13,
 g 15 14 (.mv (t 0)),
 g 16 14 (.call 181 [(t 15),(.const (.string ⟨#[125]⟩))]),
 g 17 14 (.un .not (t 16)),o 18 (.pick (t 14) (t 17) (b false))]
def g338t5:OTree:=(.one (A 19 5 3)
 (.one (M 21 0)
 (.one (L 20 19)
 (.one (o 22 (.call 434 [(t 21)]))
 (.chk [L 20 19] (.one (o 23 (.bslice [(.int .i64 0),(.string ⟨#[]⟩),(.string ⟨#[]⟩),(.int .i64 0),(.slice none 0 0),(.slice none 0 0)] 1 [(0,6)] [(t 22)]))
 (.chk [L 20 19] (.one (o 24 (.app 6 96 [(.int .i64 0),(.string ⟨#[]⟩),(.string ⟨#[]⟩),(.int .i64 0),(.slice none 0 0),(.slice none 0 0)] (t 20) (t 23)))
 (.one (A 25 5 3)
 (.one (q (.st 1 (t 25) (t 24)))
 .done))))))))))
def g338r6:LS:=[M 26 0,o 27 (.call 135 [(t 26),(.const (.string ⟨#[44]⟩))]),o 28 (.un .not (t 27)),M 29 28,
 g 30 29 (.mv (t 0)),
 g 31 29 (.call 135 [(t 30),(.const (.string ⟨#[59]⟩))]),
 g 32 29 (.un .not (t 31)),o 33 (.pick (t 29) (t 32) (b false))]
def g338l7:SCode:=(.seq (.j g338r4 (.cond (t 18) .skip (.exit 0))) (.block 1 (.seq (.tree [19,20,21,22,23,24,25] g338t5) (.j g338r6 (.cond (t 33) (.exit 0) .skip)))))
def g338r8:LS:=[M 34 0,K 35 34,A 36 3 35,L 37 36,o 38 (.ar .sub (t 37) (i 1)),K 39 34,A 40 3 39,q (.st 1 (t 40) (t 38))]
def g338r9:LS:=[M 41 0,o 42 (.call 186 [(t 41),(.const (.string ⟨#[125]⟩))])]
def g338r10:LS:=[o 43 (.ldn 6 (t 3)),q (.st 6 (t 2) (t 43))]
def g338:SCode:=(.j g338r0 (.j g338r1 (.seq (.j g338r2 (.k 7 g338r3)) (.seq (.block 0 (.loop g338l7)) (.j g338r8 (.j g338r9 (.j g338r10 .ret)))))))
theorem g338_calls:SoundD Tryz.prog 338 44 g338 [.cn 2 6]:=soundD_of (fl:=false) mixed Tryz.func338 rfl (by kernel_rfl) (by kernel_rfl) (by kernel_rfl)
def g434r0:LS:=[o 2 (.new [(.int .i64 0),(.string ⟨#[]⟩),(.string ⟨#[]⟩),(.int .i64 0),(.slice none 0 0),(.slice none 0 0)])]
def g434r1:LS:=[M 5 0,o 6 (.call 135 [(t 5),(.const (.string ⟨#[91]⟩))])]
def g434r2:LS:=[M 7 0,o 8 (.call 244 [(t 7),(.const (.string ⟨#[93]⟩))]),o 3 (.new [(.int .i64 0),(.string ⟨#[]⟩),(.string ⟨#[]⟩),(.int .i64 0),(.slice none 0 0),(.slice none 0 0)]),q (.st 6 (t 3) (t 8))]
def g434r3:LS:=[M 9 0,o 10 (.call 186 [(t 9),(.const (.string ⟨#[61]⟩))])]
def g434t4:OTree:=(.one (M 12 0)
 (.one (o 11 (.ldn 6 (t 3)))
 (.one (o 13 (.call 185 [(t 12),(i 0)]))
 (.chk [o 11 (.ldn 6 (t 3))] (.one (o 14 (.bslice [(.int .i64 0),(.string ⟨#[]⟩),(.string ⟨#[]⟩),(.int .i64 0),(.slice none 0 0),(.slice none 0 0),(.int .i64 0),(.string ⟨#[]⟩),(.string ⟨#[]⟩),(.int .i64 0),(.slice none 0 0),(.slice none 0 0)] 2 [(0,6),(6,6)] [(t 11),(t 13)]))
 (.one (o 15 (.build [(.int .i64 0),(.string ⟨#[]⟩),(.string ⟨#[]⟩),(.int .i64 0),(.slice none 0 0),(.slice none 0 0)] [(0,1),(5,1)] [(i 20),(t 14)]))
 (.one (q (.st 6 (t 2) (t 15)))
 .done)))))))
def g434r5:LS:=[M 16 0,K 17 16,A 18 1 17,L 19 18,D 20 19 1,M 21 0,K 22 21,A 23 0 22,L 24 23,o 25 (.len (t 24)),o 26 (.cmp .lss (t 20) (t 25)),M 27 26,
 g 28 27 (.mv (t 0)),
 g 29 27 (.nilck (t 28)),
 g 30 27 (.fa 0 (t 29)),
 g 31 27 (.ld1 (t 30)),
 g 32 27 (.mv (t 0)),
 g 33 27 (.nilck (t 32)),
 g 34 27 (.fa 1 (t 33)),
 g 35 27 (.ld1 (t 34)),
 g 36 27 (.ixs 4 (t 31) (t 35)),
 g 37 27 (.fa 0 (t 36)),
 g 38 27 (.ld1 (t 37)),
 g 39 27 (.cmp .eql (t 38) (i 0)),o 40 (.pick (t 27) (t 39) (b false)),M 41 40,
 g 42 41 (.mv (t 0)),
 g 43 41 (.nilck (t 42)),
 g 44 41 (.fa 0 (t 43)),
 g 45 41 (.ld1 (t 44)),
 g 46 41 (.mv (t 0)),
 g 47 41 (.nilck (t 46)),
 g 48 41 (.fa 1 (t 47)),
 g 49 41 (.ld1 (t 48)),
 g 50 41 (.ar .add (t 49) (i 1)),
 g 51 41 (.ixs 4 (t 45) (t 50)),
 g 52 41 (.fa 0 (t 51)),
 g 53 41 (.ld1 (t 52)),
 g 54 41 (.cmp .eql (t 53) (i 4)),o 55 (.pick (t 41) (t 54) (b false)),M 56 55,
 g 57 56 (.mv (t 0)),
 g 58 56 (.nilck (t 57)),
 g 59 56 (.fa 0 (t 58)),
 g 60 56 (.ld1 (t 59)),
 g 61 56 (.mv (t 0)),
 g 62 56 (.nilck (t 61)),
 g 63 56 (.fa 1 (t 62)),
 g 64 56 (.ld1 (t 63)),
 g 65 56 (.ar .add (t 64) (i 1)),
 g 66 56 (.ixs 4 (t 60) (t 65)),
 g 67 56 (.fa 1 (t 66)),
 g 68 56 (.ld1 (t 67)),
 g 69 56 (.cmp .eql (t 68) (.const (.string ⟨#[61]⟩))),o 70 (.pick (t 56) (t 69) (b false))]
def g434r6:LS:=[M 71 0,o 72 (.call 237 [(t 71)]),o 73 (.build [(.int .i64 0),(.string ⟨#[]⟩),(.string ⟨#[]⟩),(.int .i64 0),(.slice none 0 0),(.slice none 0 0)] [(0,1),(2,1)] [(i 14),(t 72)]),o 4 (.new [(.int .i64 0),(.string ⟨#[]⟩),(.string ⟨#[]⟩),(.int .i64 0),(.slice none 0 0),(.slice none 0 0)]),q (.st 6 (t 4) (t 73))]
def g434r7:LS:=[M 74 0,o 75 (.call 186 [(t 74),(.const (.string ⟨#[61]⟩))])]
def g434t8:OTree:=(.one (M 77 0)
 (.one (o 76 (.ldn 6 (t 4)))
 (.one (o 78 (.call 185 [(t 77),(i 0)]))
 (.chk [o 76 (.ldn 6 (t 4))] (.one (o 79 (.bslice [(.int .i64 0),(.string ⟨#[]⟩),(.string ⟨#[]⟩),(.int .i64 0),(.slice none 0 0),(.slice none 0 0),(.int .i64 0),(.string ⟨#[]⟩),(.string ⟨#[]⟩),(.int .i64 0),(.slice none 0 0),(.slice none 0 0)] 2 [(0,6),(6,6)] [(t 76),(t 78)]))
 (.one (o 80 (.build [(.int .i64 0),(.string ⟨#[]⟩),(.string ⟨#[]⟩),(.int .i64 0),(.slice none 0 0),(.slice none 0 0)] [(0,1),(5,1)] [(i 20),(t 79)]))
 (.one (q (.st 6 (t 2) (t 80)))
 .done)))))))
def g434r9:LS:=[M 81 0,o 82 (.call 185 [(t 81),(i 0)]),o 83 (.bslice [(.int .i64 0),(.string ⟨#[]⟩),(.string ⟨#[]⟩),(.int .i64 0),(.slice none 0 0),(.slice none 0 0)] 1 [(0,6)] [(t 82)]),o 84 (.build [(.int .i64 0),(.string ⟨#[]⟩),(.string ⟨#[]⟩),(.int .i64 0),(.slice none 0 0),(.slice none 0 0)] [(0,1),(5,1)] [(i 19),(t 83)]),q (.st 6 (t 2) (t 84))]
def g434:SCode:=(.j g434r0 (.seq (.j g434r1 (.cond (t 6) (.j g434r2 (.j g434r3 (.seq (.tree [11,12,13,14,15] g434t4) .ret))) .skip)) (.seq (.j g434r5 (.cond (t 70) (.j g434r6 (.j g434r7 (.seq (.tree [76,77,78,79,80] g434t8) .ret))) .skip)) (.j g434r9 .ret))))
theorem g434_calls:SoundD Tryz.prog 434 85 g434 [.cn 2 6]:=soundD_of (fl:=false) mixed Tryz.func434 rfl (by kernel_rfl) (by kernel_rfl) (by kernel_rfl)
end Go.Proofs.YtikcimlokhmleaaGreatDoor.C
namespace Go.Proofs.YtikcimlokhmleaaGreatDoor
open Go Go.Sx C
theorem chk_ld {P:Program} {σ:Env} {h:Heap} {x d b k:Nat} {v:Value} (hσ:σ x=some (.pointer (some ⟨b,k,none⟩))) (hc:Sx.cell h b k=some v) (hd:σ d=some v):cls (SOp.ld1 (.tmp x))≤1∧chkOp P σ h ⟨some d,none,.ld1 (.tmp x)⟩:=by
 refine⟨Nat.le_of_ble_eq_true rfl,?_⟩
 unfold chkOp sopr
 simp only[sop,ev,hσ]
 refine⟨v,hc,trivial,?_⟩
 funext i
 show(bif Nat.beq i d then some v else σ i)=σ i
 cases hi:Nat.beq i d with
 |false=>rfl
 |true=>rw[Nat.eq_of_beq_eq_true hi,hd];rfl
theorem chk_ldn {P:Program} {σ:Env} {h:Heap} {x d b n:Nat} {l:List Value} (hσ:σ x=some (.pointer (some ⟨b,0,none⟩))) (hl:l.length=n) (hc:Cells h b 0 l) (hd:σ d=some (.agg ⟨l⟩)):cls (SOp.ldn n (.tmp x))≤1∧chkOp P σ h ⟨some d,none,.ldn n (.tmp x)⟩:=by
 refine⟨Nat.le_of_ble_eq_true rfl,?_⟩
 unfold chkOp sopr
 simp only[sop,ev,hσ]
 refine⟨l,hl,hc,trivial,?_⟩
 funext i
 show(bif Nat.beq i d then some (.agg ⟨l⟩)else σ i)=σ i
 cases hi:Nat.beq i d with
 |false=>rfl
 |true=>rw[Nat.eq_of_beq_eq_true hi,hd];rfl
theorem all1 {α:Type} {p:α→Prop} {a:α} (h:p a):∀x∈[a],p x:=fun x hx=>by rw[List.mem_singleton.1 hx];exact h
set_option maxRecDepth 100000 in
theorem behind_calls {C:Ct} {h:Heap} {left:Nat} (R:Rd C h left) (ho:∀{h:Heap},Rd C h left→CallsH Tryz.prog 243 [pt C.b] h (Ret (OpQ C h left))) (hbr:∀l,l<left→∀w,NodeC C 244 [.string w] false l):
  CallsH Tryz.prog 188 [pt C.b] h (Ret (NodeQ C h left true)):=by
 have hb:C.b<h.size:=R.lt
 have hfew:=R.few
 refine g188_calls (by simp) ?_
 intro b2 h1 g1
 have i1:=g1.id
 have s1:=g1.size
 have B2:Blk h1 b2 zN:=g1.blk
 have c1:Chg [C.b] h h1:=g1.chg.mono (by simp)
 refine call_ret (ho (R.ext g1.chg)) ?_
 rintro _ h2 ⟨⟨k,s,x,n,u,ns,v,l⟩,left2,may,rfl,m2,hl2,hs2,R2,c2⟩
 have z2:=c2.size
 have c02:=stepC c1 c2
 have B22:=B2.chg c2 (by intro hin;have:=one_in hin;omega)
 intro b3 h3 g3
 refine Ei _ (Ai g3.blk (Ai (by simp) (Ai rfl (Ai m2.ok.ones fun h4 q4=>?_))))
 have g4:Grow h2 h4 b3 (encN (ND.mk k s x n u ns v l)):=g3.put q4
 have i4:=g4.id
 have s4:=g4.size
 refine loop_intro (fun i:Nat×ND=>[(0,pt C.b),(2,pt b2),(3,pt b3),(4,.bool may)])
  (fun i h'=>i.1≤left∧(0<left→i.1<left)∧Rd C h' i.1∧Made h1.size h' i.2∧b3∉i.2.blks∧Chg [C.b] h h'∧h4.size≤h'.size∧Blk h' b2 zN∧Blk h' b3 (encN i.2)) (fun i=>i.1) (left2,.mk k s x n u ns v l) ⟨rfl,rfl,rfl,rfl,trivial⟩
  ⟨hl2,hs2,R2.ext g4.chg,m2.ext g4.chg,fun hin=>by have:=(m2.fr _ hin).2;omega,Chg.also c02 g4.chg (by simp),Nat.le_refl _,B22.chg g4.chg (by simp),g4.blk⟩ ?_
 rintro⟨left5,⟨k,s,x,n,u,ns,v,l⟩⟩ h5 ⟨hl5,hs5,R5,m5,n5,c5,z5,B25,B35⟩
 simp only at hl5 hs5 R5 m5 n5 B35
 have done:∀{h6:Heap} {l:List Value},Put h5 h6 b2 l→NodeQ C h left true (.agg ⟨encN (.mk k s x n u ns v _)⟩) h6:=fun p6=>node_done p6 m5 (by omega) (by omega) R5 hl5 (fun _=>hs5) c5 hb
 cases may with
 |false=>
  refine Ei _ (Ai rfl (Ai (cells_blk B35) ?_))
  refine Ei _ (Ai B25 (Ai (by simp) (Ai rfl (Ai m5.ok.ones fun h6 p6=>?_))))
  exact Ei _ (Ai rfl (Ai (cells_blk p6.blk) (done p6)))
 |true=>
  obtain⟨lg,op,pl,wy,B⟩:=R5.blk
  refine Ei _ (Ai (cell_blk B rfl) (Ai rfl (Ai (fun _=>?_) (fun _=>?_))))
  case refine_2=>
   refine Ei _ (Ai rfl (Ai (cells_blk B35) ?_))
   refine Ei _ (Ai B25 (Ai (by simp) (Ai rfl (Ai m5.ok.ones fun h6 p6=>?_))))
   exact Ei _ (Ai rfl (Ai (cells_blk p6.blk) (done p6)))
  refine call_ret (take_calls R5 _) ?_
  rintro _ h6 (⟨rfl,rfl⟩|⟨rfl,hpos,R6,c6⟩)
  case inr=>
   have z6:=c6.size
   have B26:=B25.chg c6 (by intro hin;have:=one_in hin;omega)
   have B36:=B35.chg c6 (by intro hin;have:=one_in hin;omega)
   have m6:=m5.old c6 (fun x hx=>.inl (by rw[one_in hx];omega))
   refine Ei _ (Ai rfl (Ai (cells_blk B36) ?_))
   refine call_ret (hbr _ (by omega) _ R6) ?_
   rintro _ h7 ⟨⟨k7,s7,x7,n7,u7,ns7,v7,l7⟩,left7,rfl,m7,hl7,_,R7,c7⟩
   have z7:=c7.size
   have B27:=B26.chg c7 (by intro hin;have:=one_in hin;omega)
   have B37:=B36.chg c7 (by intro hin;have:=one_in hin;omega)
   have m67:=m6.old c7 (fun x hx=>.inl (by rw[one_in hx];omega))
   have c07:=stepC (stepC c5 c6) c7
   refine Ai (all1 (chk_ldn rfl rfl (cells_blk B37) rfl)) ?_
   intro b8 h8 g8
   have i8:=g8.id
   have K8:=Kids.two m67 (m7.lo (by omega)) g8 (by omega)
   have m8:Made h1.size h8 (.mk 16 ⟨#[]⟩ ⟨#[]⟩ 0 (.slice none 0 0) [] (.slice (some ⟨b8,0,none⟩) 2 2) [.mk k s x n u ns v l,.mk k7 s7 x7 n7 u7 ns7 v7 l7]):=K8.node 16 0 ⟨#[]⟩ ⟨#[]⟩ SL.nil (by simp) (by simp) (by simp[vblk,ablk])
   have B38:=B37.chg g8.chg (by simp)
   have B28:=B27.chg g8.chg (by simp)
   have R8:=R7.ext g8.chg
   have c08:Chg [C.b] h h8:=Chg.also c07 g8.chg (by simp)
   have n8:b3∉(ND.mk 16 ⟨#[]⟩ ⟨#[]⟩ 0 (.slice none 0 0) [] (.slice (some ⟨b8,0,none⟩) 2 2) [.mk k s x n u ns v l,.mk k7 s7 x7 n7 u7 ns7 v7 l7]).blks:=by
    intro hin
    simp only[ND.blks,ND.blkss,vblk,ablk,List.nil_append,List.mem_append,List.append_nil,List.mem_singleton]at hin n5
    rcases hin with hin|hin|hin
    ·omega
    ·exact n5 hin
    ·have:=(m7.fr b3 (by simp only[ND.blks,List.mem_append];exact hin)).1;omega
   refine Ei _ (Ai B38 (Ai (by simp[encN]) (Ai rfl (Ai m8.ok.ones fun h9 p9=>?_))))
   have p9:Put h8 h9 b3 (encN (ND.mk 16 ⟨#[]⟩ ⟨#[]⟩ 0 (.slice none 0 0) [] (.slice (some ⟨b8,0,none⟩) 2 2) [.mk k s x n u ns v l,.mk k7 s7 x7 n7 u7 ns7 v7 l7])):=p9
   have m9:=m8.chg p9.chg (fun q hq hin=>n8 (by rw[←one_in hin];exact hq))
   have B29:=B28.chg p9.chg (by intro hin;have:=one_in hin;omega)
   have R9:=R8.put1 p9 (by omega)
   have c09:Chg [C.b] h h9:=Chg.also c08 p9.chg (fun x hx=>.inr (by rw[one_in hx];omega))
   exact Ai rfl (Ei (left7,_) (Ai ⟨rfl,rfl,rfl,rfl,trivial⟩ (Ai ⟨by simp only;omega,fun h=>by simp only;omega,R9,m9,n8,c09,by have:=p9.chg.size;have:=g8.chg.size;omega,B29,p9.blk⟩ (by simp only;omega))))
  refine call_ret (take_calls R5 _) ?_
  rintro _ h6 (⟨rfl,rfl⟩|⟨rfl,hpos,R6,c6⟩)
  ·refine Ei _ (Ai rfl (Ai (cells_blk B35) ?_))
   refine Ei _ (Ai B25 (Ai (by simp) (Ai rfl (Ai m5.ok.ones fun h6 p6=>?_))))
   exact Ei _ (Ai rfl (Ai (cells_blk p6.blk) (done p6)))
  ·have z6:=c6.size
   have B26:=B25.chg c6 (by intro hin;have:=one_in hin;omega)
   have B36:=B35.chg c6 (by intro hin;have:=one_in hin;omega)
   have m6:=m5.old c6 (fun x hx=>.inl (by rw[one_in hx];omega))
   refine Ei _ (Ai rfl (Ai (cells_blk B36) ?_))
   refine call_ret (name_calls R6) ?_
   rintro _ h7 ⟨w7,left7,rfl,hl7,_,R7,c7⟩
   have z7:=c7.size
   have B27:=B26.chg c7 (by intro hin;have:=one_in hin;omega)
   have B37:=B36.chg c7 (by intro hin;have:=one_in hin;omega)
   have m67:=m6.old c7 (fun x hx=>.inl (by rw[one_in hx];omega))
   have m7:Made h6.size h7 (.mk 14 ⟨#[]⟩ w7 0 (.slice none 0 0) [] (.slice none 0 0) []):=made_leaf 14 0 _ _
   have c07:=stepC (stepC c5 c6) c7
   refine Ai (all1 (chk_ldn rfl rfl (cells_blk B37) rfl)) ?_
   refine Ai (all1 (chk_ldn rfl rfl (cells_blk B37) rfl)) ?_
   intro b8 h8 g8
   have i8:=g8.id
   have K8:=Kids.two m67 (m7.lo (by omega)) g8 (by omega)
   have m8:Made h1.size h8 (.mk 16 ⟨#[]⟩ ⟨#[]⟩ 0 (.slice none 0 0) [] (.slice (some ⟨b8,0,none⟩) 2 2) [.mk k s x n u ns v l,.mk 14 ⟨#[]⟩ w7 0 (.slice none 0 0) [] (.slice none 0 0) []]):=K8.node 16 0 ⟨#[]⟩ ⟨#[]⟩ SL.nil (by simp) (by simp) (by simp[vblk,ablk])
   have B38:=B37.chg g8.chg (by simp)
   have B28:=B27.chg g8.chg (by simp)
   have R8:=R7.ext g8.chg
   have c08:Chg [C.b] h h8:=Chg.also c07 g8.chg (by simp)
   have n8:b3∉(ND.mk 16 ⟨#[]⟩ ⟨#[]⟩ 0 (.slice none 0 0) [] (.slice (some ⟨b8,0,none⟩) 2 2) [.mk k s x n u ns v l,.mk 14 ⟨#[]⟩ w7 0 (.slice none 0 0) [] (.slice none 0 0) []]).blks:=by
    intro hin
    simp only[ND.blks,ND.blkss,vblk,ablk,List.nil_append,List.mem_append,List.append_nil,List.mem_singleton]at hin n5
    rcases hin with hin|hin
    ·omega
    ·exact n5 hin
   refine Ei _ (Ai B38 (Ai (by simp[encN]) (Ai rfl (Ai m8.ok.ones fun h9 p9=>?_))))
   have p9:Put h8 h9 b3 (encN (ND.mk 16 ⟨#[]⟩ ⟨#[]⟩ 0 (.slice none 0 0) [] (.slice (some ⟨b8,0,none⟩) 2 2) [.mk k s x n u ns v l,.mk 14 ⟨#[]⟩ w7 0 (.slice none 0 0) [] (.slice none 0 0) []])):=p9
   have m9:=m8.chg p9.chg (fun q hq hin=>n8 (by rw[←one_in hin];exact hq))
   have B29:=B28.chg p9.chg (by intro hin;have:=one_in hin;omega)
   have R9:=R8.put1 p9 (by omega)
   have c09:Chg [C.b] h h9:=Chg.also c08 p9.chg (fun x hx=>.inr (by rw[one_in hx];omega))
   exact Ai rfl (Ei (left7,_) (Ai ⟨rfl,rfl,rfl,rfl,trivial⟩ (Ai ⟨by simp only;omega,fun h=>by simp only;omega,R9,m9,n8,c09,by have:=p9.chg.size;have:=g8.chg.size;omega,B29,p9.blk⟩ (by simp only;omega))))
theorem leaveQD_sub {P:Program} {rs:List SRes} {R:Ending→Heap→Prop}:∀(ds:List Deferred) {σ σ':Env} (u:FrameMode) (h:Heap),Sub σ σ'→leaveQD P rs R σ ds u h→leaveQD P rs R σ' ds u h
 |[],_,_,.returning,_,hs,hh=>resQ_sub rs hs hh
 |[],_,_,.panicking _,_,_,hh=>hh
 |[],_,_,.run,_,_,hh=>hh
 |d::ds,_,_,u,h,hs,hh=>by
  simp only[leaveQD]at hh⊢
  refine⟨hh.1,?_⟩
  have hh:=hh.2
  generalize d.target=tg at hh⊢
  split at hh
  ·exact⟨hh.1,fun h' hp=>leaveQD_sub ds u h' hs (hh.2 h' hp)⟩
  ·refine hh.mono fun e u' h' he=>?_
   cases e with
   |returned _=>exact leaveQD_sub ds _ _ hs he
   |panicked _=>exact leaveQD_sub ds _ _ hs he
   |outgrown=>exact he
  ·exact hh.elim
theorem mono_retQD {P:Program} {rs:List SRes} {R:Ending→Heap→Prop}:Mono (retQD P rs R):=by
 intro e σ σ' ds h hs hh
 cases e<;>first|exact leaveQD_sub ds _ h hs hh|exact hh
theorem cut_atD {P:Program} {c:SCode} {rs:List SRes} {R:Ending→Heap→Prop} {ds:List Deferred} {σ:Env} {h:Heap} (E:List (Nat×Value)) (hE:SubL σ E) (hh:swp P c (retQD P rs R) (mk E) ds h):swp P c (retQD P rs R) σ ds h:=
 swp_sub c _ _ _ ds h mono_retQD (sub_mk hE) hh
set_option maxRecDepth 100000 in
theorem item_calls {C:Ct} {h:Heap} {left:Nat} (R:Rd C h left) (hx:∀l,l≤left→NodeC C 185 [.int .i64 0] true l) (hbr:∀l,l<left→∀w,NodeC C 244 [.string w] false l):
  CallsH Tryz.prog 434 [pt C.b] h (Ret (NodeQ C h left false)):=by
 have hb:C.b<h.size:=R.lt
 have hfew:=R.few
 have hle:=R.le
 refine g434_calls (by simp) ?_
 intro b2 h1 g1
 have i1:=g1.id
 have s1:=g1.size
 have B2:Blk h1 b2 zN:=g1.blk
 have c1:Chg [C.b] h h1:=g1.chg.mono (by simp)
 have R1:=R.ext g1.chg
 refine call_ret (take_calls R1 _) ?_
 rintro _ h2 (⟨rfl,rfl⟩|⟨rfl,hpos,R2,c2⟩)
 case inr=>
  have B22:=B2.chg c2 (by intro hin;have:=one_in hin;omega)
  refine call_ret (hbr _ (by omega) _ R2) ?_
  rintro _ h3 ⟨⟨k,s,x,n,u,ns,v,l⟩,left3,rfl,m3,hl3,_,R3,c3⟩
  have z2:=c2.size
  have z3:=c3.size
  have B23:=B22.chg c3 (by intro hin;have:=one_in hin;omega)
  have c03:=stepC (stepC c1 c2) c3
  intro b4 h4 g4
  refine Ei _ (Ai g4.blk (Ai (by simp) (Ai rfl (Ai m3.ok.ones fun h5 p5=>?_))))
  have g5:Grow h3 h5 b4 (encN (ND.mk k s x n u ns v l)):=g4.put p5
  have i5:=g5.id
  have z5:=g5.size
  have R5:=R3.ext g5.chg
  have m5:=m3.ext g5.chg
  have c05:Chg [C.b] h h5:=Chg.also c03 g5.chg (by simp)
  refine call_ret (want_calls R5 _) ?_
  rintro _ h6 ⟨left6,hl6,R6,c6⟩
  have z6:=c6.size
  have B46:=g5.blk.chg c6 (by intro hin;have:=one_in hin;omega)
  have B26:=(B23.chg g5.chg (by simp)).chg c6 (by intro hin;have:=one_in hin;omega)
  have m6:=m5.old c6 (fun x hx=>.inl (by rw[one_in hx];omega))
  refine Ei _ (Ai rfl (Ai (cells_blk B46) ?_))
  refine call_ret (hx _ (by omega) R6) ?_
  rintro _ h7 ⟨⟨k7,s7,x7,n7,u7,ns7,v7,l7⟩,left7,rfl,m7,hl7,_,R7,c7⟩
  have z7:=c7.size
  have B27:=B26.chg c7 (by intro hin;have:=one_in hin;omega)
  have B47:=B46.chg c7 (by intro hin;have:=one_in hin;omega)
  have m67:=m6.old c7 (fun x hx=>.inl (by rw[one_in hx];omega))
  have c07:=stepC (stepC c05 c6) c7
  refine Ai (all1 (chk_ldn rfl rfl (cells_blk B47) rfl)) ?_
  intro b8 h8 g8
  have K8:=Kids.two (m67.lo (by omega:h1.size≤h2.size)) (m7.lo (by omega)) g8 (by omega)
  have m8:Made h1.size h8 (.mk 20 ⟨#[]⟩ ⟨#[]⟩ 0 (.slice none 0 0) [] (.slice (some ⟨b8,0,none⟩) 2 2) [.mk k s x n u ns v l,.mk k7 s7 x7 n7 u7 ns7 v7 l7]):=K8.node 20 0 ⟨#[]⟩ ⟨#[]⟩ SL.nil (by simp) (by simp) (by simp[vblk,ablk])
  have B28:=B27.chg g8.chg (by simp)
  refine Ei _ (Ai B28 (Ai (by simp) (Ai rfl (Ai m8.ok.ones fun h9 p9=>?_))))
  refine Ei _ (Ai rfl (Ai (cells_blk p9.blk) ?_))
  exact node_done p9 m8 (by omega) (by omega) (R7.ext g8.chg) (by omega) (fun h=>by cases h) (Chg.also c07 g8.chg (by simp)) hb
 -- the last way
 have fin:∀{h9:Heap} {l:List Value} {k7:Int} {s7 x7:ByteArray} {n7:Int} {u7:Value} {ns7:List ByteArray} {v7:Value} {l7:List ND} {left7 b8:Nat} {h7 h8:Heap},Made h1.size h7 (.mk k7 s7 x7 n7 u7 ns7 v7 l7)→h1.size≤h7.size→left7≤left→Rd C h7 left7→Chg [C.b] h1 h7→Grow h7 h8 b8 (encN (.mk k7 s7 x7 n7 u7 ns7 v7 l7))→Put h8 h9 b2 l→NodeQ C h left false (.agg ⟨[.int .i64 19,.string ⟨#[]⟩,.string ⟨#[]⟩,.int .i64 0,.slice none 0 0,.slice (some ⟨b8,0,none⟩) 1 1]⟩) h9:=by
  intro h9 l k7 s7 x7 n7 u7 ns7 v7 l7 left7 b8 h7 h8 m7 z7 hl7 R7 c7 g8 p9
  have K8:=Kids.one m7 g8 z7
  have m8:Made h1.size h8 (.mk 19 ⟨#[]⟩ ⟨#[]⟩ 0 (.slice none 0 0) [] (.slice (some ⟨b8,0,none⟩) 1 1) [.mk k7 s7 x7 n7 u7 ns7 v7 l7]):=K8.node 19 0 ⟨#[]⟩ ⟨#[]⟩ SL.nil (by simp) (by simp) (by simp[vblk,ablk])
  exact node_done p9 m8 (by omega) (by omega) (R7.ext g8.chg) (by omega) (fun h=>by cases h) (Chg.also (stepC c1 c7) g8.chg (by simp)) hb
 have m19:∀{h7 h8:Heap} {b8:Nat} {t:ND},Made h1.size h7 t→h1.size≤h7.size→Grow h7 h8 b8 (encN t)→∀u∈[Value.int .i64 19,.string ⟨#[]⟩,.string ⟨#[]⟩,.int .i64 0,.slice none 0 0,.slice (some ⟨b8,0,none⟩) 1 1],u.oneCell'=true:=fun m z g=>
  ((Kids.one m g z).node 19 0 ⟨#[]⟩ ⟨#[]⟩ SL.nil (by simp) (by simp) (by simp[vblk,ablk])).ok.ones
 obtain⟨lg,op,pl,wy,B⟩:=R1.blk
 refine Ei _ (Ai (cell_blk B rfl) ?_)
 refine Ai rfl (fun z hz=>?_)
 have hz:=add_in hz (by omega) (by omega)
 refine Ei _ (Ai (cell_blk B rfl) ?_)
 refine Ai rfl (Ai (fun hlt=>?_) (fun _=>?_))
 case refine_2=>
  refine call_ret (hx left (Nat.le_refl _) R1) ?_
  rintro _ h7 ⟨⟨k7,s7,x7,n7,u7,ns7,v7,l7⟩,left7,rfl,m7,hl7,_,R7,c7⟩
  have z7:=c7.size
  intro b8 h8 g8
  have B28:=(B2.chg c7 (by intro hin;have:=one_in hin;omega)).chg g8.chg (by simp)
  refine Ei _ (Ai B28 (Ai (by simp) (Ai rfl (Ai (m19 m7 z7 g8) fun h9 p9=>?_))))
  exact Ei _ (Ai rfl (Ai (cells_blk p9.blk) (fin m7 z7 hl7 R7 c7 g8 p9)))
 have hlt1:C.ws.length-left+1<C.ws.length:=by omega
 obtain⟨b0,o,e0,hcs⟩:=R1.word (i:=C.ws.length-left) (by omega)
 obtain⟨b0',o',e0',hcs1⟩:=R1.word hlt1
 rw[e0]at e0'
 cases e0'
 rw[e0]at B
 refine Ei _ (Ai (cell_blk B rfl) (Ei _ (Ai (cell_blk B rfl) ?_)))
 refine Ai (by omega) (Ai (by omega) (Ei _ (Ai (hcs 0 _ rfl) ?_)))
 refine Ai rfl (Ai (fun _=>?_) (fun _=>?_))
 case refine_2=>
  refine call_ret (hx left (Nat.le_refl _) R1) ?_
  rintro _ h7 ⟨⟨k7,s7,x7,n7,u7,ns7,v7,l7⟩,left7,rfl,m7,hl7,_,R7,c7⟩
  have z7:=c7.size
  intro b8 h8 g8
  have B28:=(B2.chg c7 (by intro hin;have:=one_in hin;omega)).chg g8.chg (by simp)
  refine Ei _ (Ai B28 (Ai (by simp) (Ai rfl (Ai (m19 m7 z7 g8) fun h9 p9=>?_))))
  exact Ei _ (Ai rfl (Ai (cells_blk p9.blk) (fin m7 z7 hl7 R7 c7 g8 p9)))
 refine Ei _ (Ai (cell_blk B rfl) (Ei _ (Ai (cell_blk B rfl) ?_)))
 refine Ai rfl (fun y hy=>?_)
 have hy:=add_in hy (by omega) (by omega)
 have hy:y=((C.ws.length-left+1:Nat):Int):=by omega
 subst hy
 refine Ai (by omega) (Ai (by omega) (Ei _ (Ai (hcs1 0 _ rfl) ?_)))
 refine Ai rfl (Ai (fun _=>?_) (fun _=>?_))
 case refine_2=>
  refine call_ret (hx left (Nat.le_refl _) R1) ?_
  rintro _ h7 ⟨⟨k7,s7,x7,n7,u7,ns7,v7,l7⟩,left7,rfl,m7,hl7,_,R7,c7⟩
  have z7:=c7.size
  intro b8 h8 g8
  have B28:=(B2.chg c7 (by intro hin;have:=one_in hin;omega)).chg g8.chg (by simp)
  refine Ei _ (Ai B28 (Ai (by simp) (Ai rfl (Ai (m19 m7 z7 g8) fun h9 p9=>?_))))
  exact Ei _ (Ai rfl (Ai (cells_blk p9.blk) (fin m7 z7 hl7 R7 c7 g8 p9)))
 refine Ei _ (Ai (cell_blk B rfl) (Ei _ (Ai (cell_blk B rfl) ?_)))
 refine Ai rfl (fun y hy=>?_)
 have hy:=add_in hy (by omega) (by omega)
 have hy:y=((C.ws.length-left+1:Nat):Int):=by omega
 subst hy
 refine Ai (by omega) (Ai (by omega) (Ei _ (Ai (hcs1 1 _ rfl) ?_)))
 refine Ai (fun _=>?_) (fun _=>?_)
 case refine_2=>
  refine call_ret (hx left (Nat.le_refl _) R1) ?_
  rintro _ h7 ⟨⟨k7,s7,x7,n7,u7,ns7,v7,l7⟩,left7,rfl,m7,hl7,_,R7,c7⟩
  have z7:=c7.size
  intro b8 h8 g8
  have B28:=(B2.chg c7 (by intro hin;have:=one_in hin;omega)).chg g8.chg (by simp)
  refine Ei _ (Ai B28 (Ai (by simp) (Ai rfl (Ai (m19 m7 z7 g8) fun h9 p9=>?_))))
  exact Ei _ (Ai rfl (Ai (cells_blk p9.blk) (fin m7 z7 hl7 R7 c7 g8 p9)))
 refine call_ret (name_calls R1) ?_
 rintro _ h3 ⟨w,left3,rfl,hl3,_,R3,c3⟩
 have z3:=c3.size
 have B23:=B2.chg c3 (by intro hin;have:=one_in hin;omega)
 have c03:=stepC c1 c3
 intro b4 h4 g4
 refine Ei _ (Ai g4.blk (Ai (by simp) (Ai rfl (Ai (leaf_ones 14 0 _ w) fun h5 p5=>?_))))
 have g5:Grow h3 h5 b4 (encN (ND.mk 14 ⟨#[]⟩ w 0 (.slice none 0 0) [] (.slice none 0 0) [])):=g4.put p5
 have i5:=g5.id
 have z5:=g5.size
 have R5:=R3.ext g5.chg
 have c05:Chg [C.b] h h5:=Chg.also c03 g5.chg (by simp)
 refine call_ret (want_calls R5 _) ?_
 rintro _ h6 ⟨left6,hl6,R6,c6⟩
 have z6:=c6.size
 have B46:=g5.blk.chg c6 (by intro hin;have:=one_in hin;omega)
 have B26:=(B23.chg g5.chg (by simp)).chg c6 (by intro hin;have:=one_in hin;omega)
 refine Ei _ (Ai rfl (Ai (cells_blk B46) ?_))
 refine call_ret (hx _ (by omega) R6) ?_
 rintro _ h7 ⟨⟨k7,s7,x7,n7,u7,ns7,v7,l7⟩,left7,rfl,m7,hl7,_,R7,c7⟩
 have z7:=c7.size
 have B27:=B26.chg c7 (by intro hin;have:=one_in hin;omega)
 have B47:=B46.chg c7 (by intro hin;have:=one_in hin;omega)
 have c07:=stepC (stepC c05 c6) c7
 refine Ai (all1 (chk_ldn rfl rfl (cells_blk B47) rfl)) ?_
 intro b8 h8 g8
 have K8:=Kids.two (made_leaf (lo:=h1.size) (h:=h7) 14 0 ⟨#[]⟩ w) (m7.lo (by omega)) g8 (by omega)
 have m8:Made h1.size h8 (.mk 20 ⟨#[]⟩ ⟨#[]⟩ 0 (.slice none 0 0) [] (.slice (some ⟨b8,0,none⟩) 2 2) [.mk 14 ⟨#[]⟩ w 0 (.slice none 0 0) [] (.slice none 0 0) [],.mk k7 s7 x7 n7 u7 ns7 v7 l7]):=K8.node 20 0 ⟨#[]⟩ ⟨#[]⟩ SL.nil (by simp) (by simp) (by simp[vblk,ablk])
 have B28:=B27.chg g8.chg (by simp)
 refine Ei _ (Ai B28 (Ai (by simp) (Ai rfl (Ai m8.ok.ones fun h9 p9=>?_))))
 refine Ei _ (Ai rfl (Ai (cells_blk p9.blk) ?_))
 exact node_done p9 m8 (by omega) (by omega) (R7.ext g8.chg) (by omega) (fun h=>by cases h) (Chg.also c07 g8.chg (by simp)) hb
set_option maxRecDepth 100000 in
theorem table_calls {C:Ct} {h:Heap} {left:Nat} (R:Rd C h left) (hp:left<C.ws.length) (hi:∀l,l≤left→NodeC C 434 [] false l):CallsH Tryz.prog 338 [pt C.b] h (Ret (NodeQ C h left false)):=by
 have hb:C.b<h.size:=R.lt
 have hfew:=R.few
 refine g338_calls (by simp) ?_
 intro b2 h1 g1 b3 h2 g2
 have i1:=g1.id
 have s1:=g1.size
 refine Ei _ (Ai g2.blk (Ai (by simp) (Ai rfl (Ai (leaf_ones 18 0 _ _) fun h3 p3=>?_))))
 have g3:Grow h1 h3 b3 [.int .i64 18,.string ⟨#[]⟩,.string ⟨#[]⟩,.int .i64 0,.slice none 0 0,.slice none 0 0]:=g2.put p3
 have i3:=g3.id
 have s3:=g3.size
 have B23:Blk h3 b2 zN:=Blk.chg g1.blk g3.chg (by simp)
 have B33:=g3.blk
 have c3:Chg [] h h3:=g1.chg.nil g3.chg
 refine call_ret (enter_calls (R.ext c3) hp) ?_
 rintro _ h4 ⟨⟨t,rfl⟩,left4,hl4,R4,c4⟩
 have c04:Chg [C.b] h h4:=Chg.also (c3.mono (by simp)) c4 (fun _ hx=>.inl hx)
 have B24:=B23.chg c4 (by intro hin;have:=one_in hin;omega)
 have B34:=B33.chg c4 (by intro hin;have:=one_in hin;omega)
 have z4:=c4.size
 cases t with
 |false=>
  refine Ei _ (Ai rfl (Ai (cells_blk B34) ?_))
  refine Ei _ (Ai B24 (Ai (by simp) (Ai rfl (Ai (leaf_ones 18 0 _ _) fun h5 p5=>?_))))
  refine Ei _ (Ai rfl (Ai (cells_blk p5.blk) ?_))
  exact node_done (t:=.mk 18 ⟨#[]⟩ ⟨#[]⟩ 0 (.slice none 0 0) [] (.slice none 0 0) []) p5 (made_leaf (lo:=h3.size) 18 0 _ _) (by omega) (by omega) R4 hl4 (fun h=>by cases h) c04 hb
 |true=>
  refine loop_intro (fun i:Nat×List ND×Option Addr×Nat=>[(0,pt C.b),(2,pt b2),(3,pt b3)])
   (fun i h'=>i.1≤left∧Rd C h' i.1∧Kids h3.size h' (.slice i.2.2.1 i.2.1.length i.2.2.2) i.2.1∧i.2.1.length+i.1≤2001∧Chg [C.b] h h'∧h3.size≤h'.size∧Blk h' b2 zN∧Blk h' b3 [.int .i64 18,.string ⟨#[]⟩,.string ⟨#[]⟩,.int .i64 0,.slice none 0 0,.slice i.2.2.1 i.2.1.length i.2.2.2]) (fun i=>i.1) (left4,[],none,0) ⟨rfl,rfl,rfl,trivial⟩
   ⟨hl4,R4,Kids.nil,by simp;omega,c04,z4,B24,B34⟩ ?_
  rintro⟨left5,L,oa,oc⟩ h5 ⟨hl5,R5,K5,hn,c05,z5,B25,B35⟩
  simp only at hl5 R5 K5 hn B35
  have fin:∀{h6:Heap} {L:List ND} {oa:Option Addr} {oc left6:Nat},Kids h3.size h6 (.slice oa L.length oc) L→L.length≤2002→left6≤left→Rd C h6 left6→Chg [C.b] h h6→h3.size≤h6.size→Blk h6 b2 zN→Blk h6 b3 [.int .i64 18,.string ⟨#[]⟩,.string ⟨#[]⟩,.int .i64 0,.slice none 0 0,.slice oa L.length oc]→
    swp Tryz.prog (.seq (.ops g338r8) (.seq (.ops g338r9) (.seq (.ops g338r10) .ret))) (retQD Tryz.prog [.cn 2 6] (Ret (NodeQ C h left false))) (mk [(0,pt C.b),(2,pt b2),(3,pt b3)]) [] h6:=by
   intro h5 L oa oc left5 K5 hL hl5 R5 c05 z5 B25 B35
   obtain⟨lg,op,pl,wy,B⟩:=R5.blk
   refine Ei _ (Ai (cell_blk B rfl) (Ai rfl (fun z _=>?_)))
   refine Ei _ (Ai B (Ai (by simp) (Ai rfl (Ai (Go.Sx.ones1 rfl) fun h6 p6=>?_))))
   have R6:=R5.put (left':=left5) (lg:=lg) (op:=z) (pl:=pl) (wy:=wy) p6 R5.le
   have c6:Chg [C.b] h5 h6:=p6.chg
   refine call_ret (want_calls R6 _) ?_
   rintro _ h7 ⟨left7,hl7,R7,c7⟩
   have c57:=stepC c6 c7
   have K7:=K5.old c57 (fun x hx=>.inl (by rw[one_in hx];omega))
   have B37:=B35.chg c57 (by intro hin;have:=one_in hin;omega)
   have B27:=B25.chg c57 (by intro hin;have:=one_in hin;omega)
   have m7:Made h3.size h7 (.mk 18 ⟨#[]⟩ ⟨#[]⟩ 0 (.slice none 0 0) [] (.slice oa L.length oc) L):=K7.node 18 0 ⟨#[]⟩ ⟨#[]⟩ SL.nil (by simp) (by omega) (by simp[vblk,ablk])
   refine Ei _ (Ai rfl (Ai (cells_blk B37) ?_))
   refine Ei _ (Ai B27 (Ai (by simp) (Ai rfl (Ai m7.ok.ones fun h8 p8=>?_))))
   refine Ei _ (Ai rfl (Ai (cells_blk p8.blk) ?_))
   exact node_done p8 m7 (by omega) (by omega) R7 (by omega) (fun h=>by cases h) (stepC c05 c57) hb
  obtain⟨lg,op,pl,wy,B⟩:=R5.blk
  refine Ei _ (Ai (cell_blk B rfl) (Ai rfl (Ai (fun _=>?_) (fun _=>?_))))
  case refine_2=>exact cut_atD [(0,pt C.b),(2,pt b2),(3,pt b3)] ⟨rfl,rfl,rfl,trivial⟩ (fin K5 (by omega) hl5 R5 c05 z5 B25 B35)
  refine call_ret (is_calls R5 _) ?_
  rintro _ _ ⟨⟨t,rfl,_⟩,rfl⟩
  cases t with
  |true=>exact cut_atD [(0,pt C.b),(2,pt b2),(3,pt b3)] ⟨rfl,rfl,rfl,trivial⟩ (fin K5 (by omega) hl5 R5 c05 z5 B25 B35)
  |false=>
   refine Ei _ (Ai (cell_blk B35 rfl) ?_)
   refine call_ret (hi left5 hl5 R5) ?_
   rintro _ h6 ⟨⟨k,s,x,n,u,ns,v,l⟩,left6,rfl,m6,hl6,_,R6,c6⟩
   have z6:=c6.size
   have K6:=K5.old c6 (fun x hx=>.inl (by rw[one_in hx];omega))
   have c06:=stepC c05 c6
   have B26:=B25.chg c6 (by intro hin;have:=one_in hin;omega)
   have B36:=B35.chg c6 (by intro hin;have:=one_in hin;omega)
   refine Ai (all1 (chk_ld rfl (cell_blk B36 rfl) rfl)) ?_
   intro b7 h7 g7
   have B37:=B36.chg g7.chg (by simp)
   have B27:=B26.chg g7.chg (by simp)
   refine Ai (all1 (chk_ld rfl (cell_blk B37 rfl) rfl)) ?_
   refine Kids.add K6 (m6.lo z5) (fun q hq hin=>by have:=(m6.fr q hq).1;have:=(K5.fr q hin).2;omega) (by omega) g7 (by omega) ?_
   intro oa' oc' h8 K8 c8
   have hk6:∀x∈ablk oa,h3.size≤x:=fun x hx=>(K6.fr x hx).1
   have B38:Blk h8 b3 _:=B36.chg c8 (by intro hin;have:=hk6 _ hin;omega)
   have B28:=B26.chg c8 (by intro hin;have:=hk6 _ hin;omega)
   have R8:=R6.other c8 (fun x hx=>by have:=hk6 x hx;omega)
   have c08:Chg [C.b] h h8:=Chg.also c06 c8 (fun x hx=>.inr (by have:=hk6 x hx;omega))
   refine Ei _ (Ai B38 (Ai (by simp) (Ai rfl (Ai (Go.Sx.ones1 rfl) fun h9 p9=>?_))))
   replace p9:Put h8 h9 b3 [.int .i64 18,.string ⟨#[]⟩,.string ⟨#[]⟩,.int .i64 0,.slice none 0 0,.slice oa' (L++[ND.mk k s x n u ns v l]).length oc']:=p9
   have K9:=K8.old p9.chg (fun x hx=>.inl (by rw[one_in hx];omega))
   have R9:=R8.put1 p9 (by omega)
   have c09:Chg [C.b] h h9:=Chg.also c08 p9.chg (fun x hx=>.inr (by rw[one_in hx];omega))
   have B39:=p9.blk
   have B29:=B28.chg p9.chg (by intro hin;have:=one_in hin;omega)
   have hlen:(L++[ND.mk k s x n u ns v l]).length=L.length+1:=by simp
   have z9:h3.size≤h9.size:=by have:=p9.chg.size;have:=c8.size;omega
   refine call_ret (take_calls R9 _) ?_
   rintro _ h10 (⟨rfl,rfl⟩|⟨rfl,hpos,R10,c10⟩)
   case inr=>
    exact Ai rfl (Ei (left6-1,L++[ND.mk k s x n u ns v l],oa',oc') (Ai ⟨rfl,rfl,rfl,trivial⟩ (Ai ⟨by simp only;omega,R10,K9.old c10 (fun x hx=>.inl (by rw[one_in hx];omega)),by simp only;omega,stepC c09 c10,by have:=c10.size;omega,B29.chg c10 (by intro hin;have:=one_in hin;omega),B39.chg c10 (by intro hin;have:=one_in hin;omega)⟩ (by simp only;omega))))
   refine call_ret (take_calls R9 _) ?_
   rintro _ h10 (⟨rfl,rfl⟩|⟨rfl,hpos,R10,c10⟩)
   case inr=>
    exact Ai rfl (Ei (left6-1,L++[ND.mk k s x n u ns v l],oa',oc') (Ai ⟨rfl,rfl,rfl,trivial⟩ (Ai ⟨by simp only;omega,R10,K9.old c10 (fun x hx=>.inl (by rw[one_in hx];omega)),by simp only;omega,stepC c09 c10,by have:=c10.size;omega,B29.chg c10 (by intro hin;have:=one_in hin;omega),B39.chg c10 (by intro hin;have:=one_in hin;omega)⟩ (by simp only;omega))))
   exact cut_atD [(0,pt C.b),(2,pt b2),(3,pt b3)] ⟨rfl,rfl,rfl,trivial⟩ (fin K9 (by omega) (by omega) R9 c09 z9 B29 B39)
structure Acc (C:Ct) (h:Heap) (lo b2 b3:Nat) (kd:Int) (u:Value) (ns:List ByteArray) (left0:Nat) (h':Heap) (left:Nat) (L:List ND) (oa:Option Addr) (oc:Nat):Prop where
 le:left≤left0
 rd:Rd C h' left
 kids:Kids lo h' (.slice oa L.length oc) L
 txts:SL encS h' u ns
 uo:∀q∈vblk u,b2<q∧q<b3
 nl:ns.length≤2001
 c:Chg [C.b] h h'
 z:lo≤h'.size
 B2:Blk h' b2 zN
 B3:Blk h' b3 [.int .i64 kd,.string ⟨#[]⟩,.string ⟨#[]⟩,.int .i64 0,u,.slice oa L.length oc]
 hb:C.b<h.size
 o2:h.size≤b2
 o23:b2<b3
 o3:b3<lo
section
variable {C:Ct} {h h' h'':Heap} {lo b2 b3:Nat} {kd:Int} {u:Value} {ns:List ByteArray} {left0 left left':Nat} {L:List ND} {oa:Option Addr} {oc:Nat}
theorem Acc.step (A:Acc C h lo b2 b3 kd u ns left0 h' left L oa oc) (c:Chg [C.b] h' h'') (R:Rd C h'' left') (hl:left'≤left):Acc C h lo b2 b3 kd u ns left0 h'' left' L oa oc:=by
 have:=A.hb;have:=A.o2;have:=A.o23;have:=A.o3;have:=A.le;have:=c.size;have:=A.z
 exact⟨by omega,R,A.kids.old c (fun x hx=>.inl (by rw[one_in hx];omega)),A.txts.chg c (fun q hq hin=>by have:=A.uo q hq;have:=one_in hin;omega),A.uo,A.nl,stepC A.c c,by omega,A.B2.chg c (by intro hin;have:=one_in hin;omega),A.B3.chg c (by intro hin;have:=one_in hin;omega),A.hb,A.o2,A.o23,A.o3⟩
theorem Acc.add {h7:Heap} {b7:Nat} {t:ND} (A0:Acc C h lo b2 b3 kd u ns left0 h' left L oa oc) (A:Acc C h lo b2 b3 kd u ns left0 h'' left' L oa oc) (m:Made h'.size h'' t) (g:Grow h'' h7 b7 (encN t)) (hL:L.length<10000)
  {K:Value→Heap→Prop} (hK:∀oa' oc' h8,Blk h8 b3 [.int .i64 kd,.string ⟨#[]⟩,.string ⟨#[]⟩,.int .i64 0,u,.slice oa L.length oc]→(∀h9,Put h8 h9 b3 [.int .i64 kd,.string ⟨#[]⟩,.string ⟨#[]⟩,.int .i64 0,u,.slice oa' (L++[t]).length oc']→Acc C h lo b2 b3 kd u ns left0 h9 left' (L++[t]) oa' oc')→K (.slice oa' (L++[t]).length oc') h8):
  appP h7 K 6 96 zN oa L.length oc (some ⟨b7,0,none⟩) 1:=by
 have e1:=A.hb;have e2:=A.o2;have e3:=A.o23;have e4:=A.o3;have e5:=A0.z;have e6:=A.z
 have hk:∀x∈ablk oa,lo≤x∧x<h'.size:=fun x hx=>A0.kids.fr x hx
 refine Kids.add A.kids (m.lo e5) (fun q hq hin=>by have:=(m.fr q hq).1;have:=(hk q hin).2;omega) e6 g hL ?_
 intro oa' oc' h8 K8 c8
 have T8:=A.txts.chg c8 (fun q hq hin=>by have:=(A.uo q hq).2;have:=(hk q hin).1;omega)
 have R8:=A.rd.other c8 (fun x hx=>by have:=(hk x hx).1;omega)
 have c08:Chg [C.b] h h8:=Chg.also A.c c8 (fun x hx=>.inr (by have:=(hk x hx).1;omega))
 have B28:=A.B2.chg c8 (by intro hin;have:=(hk _ hin).1;omega)
 have B38:=A.B3.chg c8 (by intro hin;have:=(hk _ hin).1;omega)
 have hz:=c8.size
 refine hK oa' oc' h8 B38 fun h9 p9=>?_
 have z9:=p9.chg.size
 exact⟨A.le,R8.put1 p9 (by omega),K8.old p9.chg (fun x hx=>.inl (by rw[one_in hx];omega)),T8.chg p9.chg (fun q hq hin=>by have:=(A.uo q hq).2;have:=one_in hin;omega),A.uo,A.nl,Chg.also c08 p9.chg (fun x hx=>.inr (by rw[one_in hx];omega)),by omega,B28.chg p9.chg (by intro hin;have:=one_in hin;omega),p9.blk,A.hb,A.o2,A.o23,A.o3⟩
theorem Acc.node (A:Acc C h lo b2 b3 kd u ns left0 h' left L oa oc) (hL:L.length≤10000):Made (b2+1) h' (.mk kd ⟨#[]⟩ ⟨#[]⟩ 0 u ns (.slice oa L.length oc) L):=by
 have:=A.o23;have:=A.o3;have:=A.nl;have:=A.z
 exact(A.kids.lo (by omega:b2+1≤lo)).node kd 0 ⟨#[]⟩ ⟨#[]⟩ A.txts (by omega) (by omega) fun q hq=>by have:=A.uo q hq;omega
theorem Acc.done {h1:Heap} {l:List Value} (A:Acc C h lo b2 b3 kd u ns left0 h' left L oa oc) (hL:L.length≤10000) (p:Put h' h1 b2 l):NodeQ C h left0 false (.agg ⟨[.int .i64 kd,.string ⟨#[]⟩,.string ⟨#[]⟩,.int .i64 0,u,.slice oa L.length oc]⟩) h1:=by
 have:=A.o23;have:=A.o3;have:=A.nl
 exact node_done p (A.node hL) (by omega) A.o2 A.rd A.le (fun h=>by cases h) A.c A.hb
theorem Acc.ones (A:Acc C h lo b2 b3 kd u ns left0 h' left L oa oc) (hL:L.length≤10000):∀w∈[Value.int .i64 kd,.string ⟨#[]⟩,.string ⟨#[]⟩,.int .i64 0,u,.slice oa L.length oc],w.oneCell'=true:=
 (A.node hL).ok.ones
end
end Go.Proofs.YtikcimlokhmleaaGreatDoor
namespace Go.Proofs.YtikcimlokhmleaaGreatDoor
open Go Go.Sx C
set_option maxRecDepth 100000 in
theorem choice_calls {C:Ct} {h:Heap} {left:Nat} (R:Rd C h left) (hx:∀l,l≤left→NodeC C 185 [.int .i64 0] true l) (ho:∀l,l≤left→NodeC C 240 [] false l):
  CallsH Tryz.prog 184 [pt C.b] h (Ret (NodeQ C h left false)):=by
 have hb:C.b<h.size:=R.lt
 have hfew:=R.few
 have hle:=R.le
 refine g184_calls (by simp) ?_
 intro b2 h1 g1 b3 h2 g2
 have i1:=g1.id
 have s1:=g1.size
 refine Ei _ (Ai g2.blk (Ai (by simp) (Ai rfl (Ai (leaf_ones 4 0 _ _) fun h3 p3=>?_))))
 have g3:Grow h1 h3 b3 [.int .i64 4,.string ⟨#[]⟩,.string ⟨#[]⟩,.int .i64 0,.slice none 0 0,.slice none 0 0]:=g2.put p3
 have i3:=g3.id
 have s3:=g3.size
 have c3:Chg [] h h3:=g1.chg.nil g3.chg
 have A3:Acc C h h3.size b2 b3 4 (.slice none 0 0) [] left h3 left [] none 0:=⟨Nat.le_refl _,R.ext c3,Kids.nil,SL.nil,by simp[vblk,ablk],by simp,c3.mono (by simp),Nat.le_refl _,Blk.chg g1.blk g3.chg (by simp),g3.blk,hb,by omega,by omega,by omega⟩
 refine loop_intro (fun i:Nat×List ND×Option Addr×Nat=>[(0,pt C.b),(2,pt b2),(3,pt b3)])
  (fun i h'=>Acc C h h3.size b2 b3 4 (.slice none 0 0) [] left h' i.1 i.2.1 i.2.2.1 i.2.2.2∧i.2.1.length+2*i.1≤4000) (fun i=>i.1) (left,[],none,0) ⟨rfl,rfl,rfl,trivial⟩
  ⟨A3,by simp;omega⟩ ?_
 rintro⟨left5,L,oa,oc⟩ h5 ⟨A5,hn⟩
 simp only at A5 hn
 have hl5:=A5.le
 -- a condition
 refine Ei _ (Ai (cell_blk A5.B3 rfl) ?_)
 refine call_ret (hx left5 hl5 A5.rd) ?_
 rintro _ h6 ⟨⟨k,s,x,n,u,ns,v,l⟩,left6,rfl,m6,hl6,_,R6,c6⟩
 have A6:=A5.step c6 R6 hl6
 refine Ai (all1 (chk_ld rfl (cell_blk A6.B3 rfl) rfl)) ?_
 intro b7 h7 g7
 refine Ai (all1 (chk_ld rfl (cell_blk (A6.B3.chg g7.chg (by simp)) rfl) rfl)) ?_
 refine Acc.add A5 A6 m6 g7 (by omega) ?_
 intro oa8 oc8 h8 B38 k8
 refine Ei _ (Ai B38 (Ai (by simp) (Ai rfl (Ai (Go.Sx.ones1 rfl) fun h9 p9=>?_))))
 have A9:=k8 h9 p9
 refine call_ret (want_calls A9.rd _) ?_
 rintro _ h10 ⟨left10,hl10,R10,c10⟩
 have A10:=A9.step c10 R10 hl10
 -- a block
 refine Ei _ (Ai (cell_blk A10.B3 rfl) ?_)
 refine call_ret (ho left10 A10.le A10.rd) ?_
 rintro _ h11 ⟨⟨k',s',x',n',u',ns',v',l'⟩,left11,rfl,m11,hl11,_,R11,c11⟩
 have A11:=A10.step c11 R11 hl11
 refine Ai (all1 (chk_ld rfl (cell_blk A11.B3 rfl) rfl)) ?_
 intro b12 h12 g12
 refine Ai (all1 (chk_ld rfl (cell_blk (A11.B3.chg g12.chg (by simp)) rfl) rfl)) ?_
 have e9:(L++[ND.mk k s x n u ns v l]).length=L.length+1:=by simp
 refine Acc.add A10 A11 m11 g12 (by omega) ?_
 intro oa13 oc13 h13 B313 k13
 refine Ei _ (Ai B313 (Ai (by simp) (Ai rfl (Ai (Go.Sx.ones1 rfl) fun h14 p14=>?_))))
 have A14:=k13 h14 p14
 have e14:(L++[ND.mk k s x n u ns v l]++[ND.mk k' s' x' n' u' ns' v' l']).length=L.length+2:=by simp
 generalize L++[ND.mk k s x n u ns v l]++[ND.mk k' s' x' n' u' ns' v' l']=L2 at A14 e14⊢
 refine call_ret (take_calls A14.rd _) ?_
 rintro _ h15 (⟨rfl,rfl⟩|⟨rfl,hpos,R15,c15⟩)
 case inr=>
  exact Ai rfl (Ei (left11-1,L2,oa13,oc13) (Ai ⟨rfl,rfl,rfl,trivial⟩ (Ai ⟨A14.step c15 R15 (by omega),by simp only;omega⟩ (by simp only;omega))))
 have fin:∀{h6:Heap} {L:List ND} {oa:Option Addr} {oc left6:Nat},Acc C h h3.size b2 b3 4 (.slice none 0 0) [] left h6 left6 L oa oc→L.length≤5000→
   swp Tryz.prog (.seq (.ops g184r9) (.seq (.ops g184r10) .ret)) (retQD Tryz.prog [.cn 2 6] (Ret (NodeQ C h left false))) (mk [(0,pt C.b),(2,pt b2),(3,pt b3)]) [] h6:=by
  intro h6 L oa oc left6 A6 hL
  refine call_ret (want_calls A6.rd _) ?_
  rintro _ h7 ⟨left7,hl7,R7,c7⟩
  have A7:=A6.step c7 R7 hl7
  refine Ei _ (Ai rfl (Ai (cells_blk A7.B3) ?_))
  refine Ei _ (Ai A7.B2 (Ai (by simp) (Ai rfl (Ai (A7.ones (by omega)) fun h8 p8=>?_))))
  exact Ei _ (Ai rfl (Ai (cells_blk p8.blk) (A7.done (by omega) p8)))
 refine call_ret (take_calls A14.rd _) ?_
 rintro _ h15 (⟨rfl,rfl⟩|⟨rfl,hpos,R15,c15⟩)
 ·exact cut_atD [(0,pt C.b),(2,pt b2),(3,pt b3)] ⟨rfl,rfl,rfl,trivial⟩ (fin A14 (by omega))
 have A15:=A14.step c15 R15 (by omega)
 refine Ei _ (Ai (cell_blk A15.B3 rfl) ?_)
 refine call_ret (ho _ A15.le A15.rd) ?_
 rintro _ h16 ⟨⟨k6,s6,x6,n6,u6,ns6,v6,l6⟩,left16,rfl,m16,hl16,_,R16,c16⟩
 have A16:=A15.step c16 R16 hl16
 refine Ai (all1 (chk_ld rfl (cell_blk A16.B3 rfl) rfl)) ?_
 intro b17 h17 g17
 refine Ai (all1 (chk_ld rfl (cell_blk (A16.B3.chg g17.chg (by simp)) rfl) rfl)) ?_
 refine Acc.add A15 A16 m16 g17 (by omega) ?_
 intro oa18 oc18 h18 B318 k18
 refine Ei _ (Ai B318 (Ai (by simp) (Ai rfl (Ai (Go.Sx.ones1 rfl) fun h19 p19=>?_))))
 exact cut_atD [(0,pt C.b),(2,pt b2),(3,pt b3)] ⟨rfl,rfl,rfl,trivial⟩ (fin (k18 h19 p19) (by simp;omega))
set_option maxRecDepth 100000 in
theorem loop_calls {C:Ct} {h:Heap} {left:Nat} (R:Rd C h left) (hx:∀l,l≤left→NodeC C 185 [.int .i64 0] true l) (he:∀l,l≤left→NodeC C 183 [] false l):
  CallsH Tryz.prog 187 [pt C.b] h (Ret (NodeQ C h left false)):=by
 have hb:C.b<h.size:=R.lt
 refine g187_calls (by simp) ?_
 intro b2 h1 g1
 have i1:=g1.id
 have s1:=g1.size
 refine call_ret (name_calls (R.ext g1.chg)) ?_
 rintro _ h2 ⟨w,left2,rfl,hl2,_,R2,c2⟩
 have z2:=c2.size
 intro b4 h4 g4 b3 h5 g5
 have i4:=g4.id
 have s4:=g4.size
 refine Ei _ (Ai g5.blk (Ai (by simp) (Ai rfl (Ai ((Kids.nil (lo:=0) (h:=h5)).node 6 0 ⟨#[]⟩ ⟨#[]⟩ (u:=.slice (some ⟨b4,0,none⟩) 1 1) (ns:=[w]) ((SL.one encS_len g4.blk).ext g5.chg) (by simp) (by simp) (by intro q hq;simp[vblk,ablk]at hq;have:=g5.size;omega)).ok.ones fun h6 p6=>?_))))
 have g6:Grow h4 h6 b3 [.int .i64 6,.string ⟨#[]⟩,.string ⟨#[]⟩,.int .i64 0,.slice (some ⟨b4,0,none⟩) 1 1,.slice none 0 0]:=g5.put p6
 have i6:=g6.id
 have s6:=g6.size
 have c6:Chg [C.b] h h6:=Chg.also (Chg.also (stepC (g1.chg.mono (by simp)) c2) g4.chg (by simp)) g6.chg (by simp)
 have A6:Acc C h h6.size b2 b3 6 (.slice (some ⟨b4,0,none⟩) 1 1) [w] left h6 left2 [] none 0:=
  ⟨hl2,(R2.ext g4.chg).ext g6.chg,Kids.nil,(SL.one encS_len g4.blk).ext g6.chg,by intro q hq;simp[vblk,ablk]at hq;omega,by simp,c6,Nat.le_refl _,((Blk.chg g1.blk c2 (by intro hin;have:=one_in hin;omega)).chg g4.chg (by simp)).chg g6.chg (by simp),g6.blk,hb,by omega,by omega,by omega⟩
 obtain⟨lo6,A6⟩:∃lo,Acc C h lo b2 b3 6 (.slice (some ⟨b4,0,none⟩) 1 1) [w] left h6 left2 [] none 0:=⟨_,A6⟩
 refine call_ret (want_calls A6.rd _) ?_
 rintro _ h7 ⟨left7,hl7,R7,c7⟩
 have A7:=A6.step c7 R7 hl7
 refine Ei _ (Ai (cell_blk A7.B3 rfl) ?_)
 refine call_ret (hx _ A7.le A7.rd) ?_
 rintro _ h20 ⟨⟨k20,s20,x20,n20,u20,ns20,v20,l20⟩,left20,rfl,m20,hl20,_,R20,c20⟩
 have A20:=A7.step c20 R20 hl20
 refine Ai (all1 (chk_ld rfl (cell_blk A20.B3 rfl) rfl)) ?_
 intro b21 h21 g21
 refine Ai (all1 (chk_ld rfl (cell_blk (A20.B3.chg g21.chg (by simp)) rfl) rfl)) ?_
 refine Acc.add A7 A20 m20 g21 (by first|omega|simp) ?_
 intro oa22 oc22 h22 B322 q22
 refine Ei _ (Ai B322 (Ai (by simp) (Ai rfl (Ai (Go.Sx.ones1 rfl) fun h23 p23=>?_))))
 have A23:=q22 h23 p23
 refine call_ret (want_calls A23.rd _) ?_
 rintro _ h24 ⟨left24,hl24,R24,c24⟩
 have A24:=A23.step c24 R24 hl24
 refine Ei _ (Ai (cell_blk A24.B3 rfl) ?_)
 refine call_ret (hx _ A24.le A24.rd) ?_
 rintro _ h30 ⟨⟨k30,s30,x30,n30,u30,ns30,v30,l30⟩,left30,rfl,m30,hl30,_,R30,c30⟩
 have A30:=A24.step c30 R30 hl30
 refine Ai (all1 (chk_ld rfl (cell_blk A30.B3 rfl) rfl)) ?_
 intro b31 h31 g31
 refine Ai (all1 (chk_ld rfl (cell_blk (A30.B3.chg g31.chg (by simp)) rfl) rfl)) ?_
 refine Acc.add A24 A30 m30 g31 (by first|omega|simp) ?_
 intro oa32 oc32 h32 B332 q32
 refine Ei _ (Ai B332 (Ai (by simp) (Ai rfl (Ai (Go.Sx.ones1 rfl) fun h33 p33=>?_))))
 have A33:=q32 h33 p33
 have fin:∀{h6:Heap} {L:List ND} {oa:Option Addr} {oc left6:Nat},Acc C h lo6 b2 b3 6 (.slice (some ⟨b4,0,none⟩) 1 1) [w] left h6 left6 L oa oc→L.length≤3→
   swp Tryz.prog (.seq (.ops g187r8) (.seq (.tree [37,38,39,40,41,42,43] g187t9) (.seq (.ops g187r10) .ret))) (retQD Tryz.prog [.cn 2 6] (Ret (NodeQ C h left false))) (mk [(0,pt C.b),(2,pt b2),(3,pt b3)]) [] h6:=by
  intro h6 L oa oc left6 A6 hL
  refine call_ret (want_calls A6.rd _) ?_
  rintro _ h7 ⟨left7,hl7,R7,c7⟩
  have A7:=A6.step c7 R7 hl7
  refine Ei _ (Ai (cell_blk A7.B3 rfl) ?_)
  refine call_ret (he _ A7.le A7.rd) ?_
  rintro _ h50 ⟨⟨k50,s50,x50,n50,u50,ns50,v50,l50⟩,left50,rfl,m50,hl50,_,R50,c50⟩
  have A50:=A7.step c50 R50 hl50
  refine Ai (all1 (chk_ld rfl (cell_blk A50.B3 rfl) rfl)) ?_
  intro b51 h51 g51
  refine Ai (all1 (chk_ld rfl (cell_blk (A50.B3.chg g51.chg (by simp)) rfl) rfl)) ?_
  refine Acc.add A7 A50 m50 g51 (by first|omega|simp) ?_
  intro oa52 oc52 h52 B352 q52
  refine Ei _ (Ai B352 (Ai (by simp) (Ai rfl (Ai (Go.Sx.ones1 rfl) fun h53 p53=>?_))))
  have A53:=q52 h53 p53
  refine Ei _ (Ai rfl (Ai (cells_blk A53.B3) ?_))
  refine Ei _ (Ai A53.B2 (Ai (by simp) (Ai rfl (Ai (A53.ones (by simp;omega)) fun h8 p8=>?_))))
  exact Ei _ (Ai rfl (Ai (cells_blk p8.blk) (A53.done (by simp;omega) p8)))
 refine call_ret (take_calls A33.rd _) ?_
 rintro _ h34 (⟨rfl,rfl⟩|⟨rfl,hpos,R34,c34⟩)
 ·exact cut_atD [(0,pt C.b),(2,pt b2),(3,pt b3)] ⟨rfl,rfl,rfl,trivial⟩ (fin A33 (by simp))
 have A34:=A33.step c34 R34 (by omega)
 refine Ei _ (Ai (cell_blk A34.B3 rfl) ?_)
 refine call_ret (hx _ A34.le A34.rd) ?_
 rintro _ h40 ⟨⟨k40,s40,x40,n40,u40,ns40,v40,l40⟩,left40,rfl,m40,hl40,_,R40,c40⟩
 have A40:=A34.step c40 R40 hl40
 refine Ai (all1 (chk_ld rfl (cell_blk A40.B3 rfl) rfl)) ?_
 intro b41 h41 g41
 refine Ai (all1 (chk_ld rfl (cell_blk (A40.B3.chg g41.chg (by simp)) rfl) rfl)) ?_
 refine Acc.add A34 A40 m40 g41 (by first|omega|simp) ?_
 intro oa42 oc42 h42 B342 q42
 refine Ei _ (Ai B342 (Ai (by simp) (Ai rfl (Ai (Go.Sx.ones1 rfl) fun h43 p43=>?_))))
 have A43:=q42 h43 p43
 exact cut_atD [(0,pt C.b),(2,pt b2),(3,pt b3)] ⟨rfl,rfl,rfl,trivial⟩ (fin A43 (by simp))
theorem one_node {lo:Nat} {h h':Heap} {t:ND} {b:Nat} (m:Made lo h t) (g:Grow h h' b (encN t)) (hl:lo≤h.size) (kd:Int):Made lo h' (.mk kd ⟨#[]⟩ ⟨#[]⟩ 0 (.slice none 0 0) [] (.slice (some ⟨b,0,none⟩) 1 1) [t]):=
 (Kids.one m g hl).node kd 0 ⟨#[]⟩ ⟨#[]⟩ SL.nil (by simp) (by simp) (by simp[vblk,ablk])
theorem two_node {lo:Nat} {h h':Heap} {t u:ND} {b:Nat} (m:Made lo h t) (m2:Made lo h u) (g:Grow h h' b (encN t++encN u)) (hl:lo≤h.size) (kd:Int):Made lo h' (.mk kd ⟨#[]⟩ ⟨#[]⟩ 0 (.slice none 0 0) [] (.slice (some ⟨b,0,none⟩) 2 2) [t,u]):=
 (Kids.two m m2 g hl).node kd 0 ⟨#[]⟩ ⟨#[]⟩ SL.nil (by simp) (by simp) (by simp[vblk,ablk])
set_option maxHeartbeats 2000000 in
set_option maxRecDepth 100000 in
theorem statement_calls {C:Ct} {h:Heap} {left:Nat} (R:Rd C h left) (hlo:∀l,l<left→NodeC C 182 [] false l) (hen:∀l,l<left→NodeC C 183 [] false l) (hch:∀l,l<left→NodeC C 184 [] false l) (hfo:∀l,l<left→NodeC C 187 [] false l)
  (hbe:NodeC C 188 [] true left) (hx:∀l,l≤left→NodeC C 185 [.int .i64 0] true l):CallsH Tryz.prog 134 [pt C.b] h (Ret (NodeQ C h left true)):=by
 have hb:C.b<h.size:=R.lt
 refine g134_calls (by simp) ?_
 intro b2 h1 g1
 have i1:=g1.id
 have s1:=g1.size
 have B2:Blk h1 b2 zN:=g1.blk
 have c1:Chg [C.b] h h1:=g1.chg.mono (by simp)
 have R1:=R.ext g1.chg
 -- local
 refine call_ret (take_calls R1 _) ?_
 rintro _ h2 (⟨rfl,rfl⟩|⟨rfl,hpos,R2,c2⟩)
 case inr=>
  have z2:=c2.size
  have B22:=B2.chg c2 (by intro hin;have:=one_in hin;omega)
  have c02:=stepC c1 c2
  refine call_ret (hlo _ (by omega) R2) ?_
  rintro _ h3 ⟨⟨k,s,x,n,u,ns,v,l⟩,left3,rfl,m3,hl3,_,R3,c3⟩
  have B23:=B22.chg c3 (by intro hin;have:=one_in hin;omega)
  refine Ei _ (Ai B23 (Ai (by simp) (Ai rfl (Ai m3.ok.ones fun h4 p4=>?_))))
  refine Ei _ (Ai rfl (Ai (cells_blk p4.blk) ?_))
  exact node_done p4 m3 (by omega) (by omega) R3 (by omega) (fun _ _=>by omega) (stepC c02 c3) hb
 -- do
 refine call_ret (take_calls R1 _) ?_
 rintro _ h2 (⟨rfl,rfl⟩|⟨rfl,hpos,R2,c2⟩)
 case inr=>
  have z2:=c2.size
  have B22:=B2.chg c2 (by intro hin;have:=one_in hin;omega)
  have c02:=stepC c1 c2
  refine call_ret (hen _ (by omega) R2) ?_
  rintro _ h3 ⟨⟨k,s,x,n,u,ns,v,l⟩,left3,rfl,m3,hl3,_,R3,c3⟩
  have z3:=c3.size
  have B23:=B22.chg c3 (by intro hin;have:=one_in hin;omega)
  intro b4 h4 g4
  have m4:=one_node m3 g4 z3 3
  refine Ei _ (Ai (B23.chg g4.chg (by simp)) (Ai (by simp) (Ai rfl (Ai m4.ok.ones fun h5 p5=>?_))))
  refine Ei _ (Ai rfl (Ai (cells_blk p5.blk) ?_))
  exact node_done p5 m4 (by omega) (by omega) (R3.ext g4.chg) (by omega) (fun _ _=>by omega) (Chg.also (stepC c02 c3) g4.chg (by simp)) hb
 -- if
 refine call_ret (take_calls R1 _) ?_
 rintro _ h2 (⟨rfl,rfl⟩|⟨rfl,hpos,R2,c2⟩)
 case inr=>
  have z2:=c2.size
  have B22:=B2.chg c2 (by intro hin;have:=one_in hin;omega)
  have c02:=stepC c1 c2
  refine call_ret (hch _ (by omega) R2) ?_
  rintro _ h3 ⟨⟨k,s,x,n,u,ns,v,l⟩,left3,rfl,m3,hl3,_,R3,c3⟩
  have B23:=B22.chg c3 (by intro hin;have:=one_in hin;omega)
  refine Ei _ (Ai B23 (Ai (by simp) (Ai rfl (Ai m3.ok.ones fun h4 p4=>?_))))
  refine Ei _ (Ai rfl (Ai (cells_blk p4.blk) ?_))
  exact node_done p4 m3 (by omega) (by omega) R3 (by omega) (fun _ _=>by omega) (stepC c02 c3) hb
 -- while
 refine call_ret (take_calls R1 _) ?_
 rintro _ h2 (⟨rfl,rfl⟩|⟨rfl,hpos,R2,c2⟩)
 case inr=>
  have z2:=c2.size
  have B22:=B2.chg c2 (by intro hin;have:=one_in hin;omega)
  have c02:=stepC c1 c2
  refine call_ret (hx _ (by omega) R2) ?_
  rintro _ h3 ⟨⟨k,s,x,n,u,ns,v,l⟩,left3,rfl,m3,hl3,_,R3,c3⟩
  have z3:=c3.size
  have B23:=B22.chg c3 (by intro hin;have:=one_in hin;omega)
  intro b4 h4 g4
  refine Ei _ (Ai g4.blk (Ai (by simp) (Ai rfl (Ai m3.ok.ones fun h5 p5=>?_))))
  have g5:Grow h3 h5 b4 (encN (ND.mk k s x n u ns v l)):=g4.put p5
  have i5:=g5.id
  have z5:=g5.size
  refine call_ret (want_calls (R3.ext g5.chg) _) ?_
  rintro _ h6 ⟨left6,hl6,R6,c6⟩
  have z6:=c6.size
  have B46:=g5.blk.chg c6 (by intro hin;have:=one_in hin;omega)
  have B26:=(B23.chg g5.chg (by simp)).chg c6 (by intro hin;have:=one_in hin;omega)
  have m6:=(m3.ext g5.chg).old c6 (fun x hx=>.inl (by rw[one_in hx];omega))
  refine Ei _ (Ai rfl (Ai (cells_blk B46) ?_))
  refine call_ret (hen _ (by omega) R6) ?_
  rintro _ h7 ⟨⟨k7,s7,x7,n7,u7,ns7,v7,l7⟩,left7,rfl,m7,hl7,_,R7,c7⟩
  have z7:=c7.size
  have B27:=B26.chg c7 (by intro hin;have:=one_in hin;omega)
  have B47:=B46.chg c7 (by intro hin;have:=one_in hin;omega)
  have m67:=m6.old c7 (fun x hx=>.inl (by rw[one_in hx];omega))
  have c07:=stepC (stepC (Chg.also (stepC c02 c3) g5.chg (by simp)) c6) c7
  refine Ai (all1 (chk_ldn rfl rfl (cells_blk B47) rfl)) ?_
  intro b8 h8 g8
  have m8:=two_node (m67.lo (by omega:h1.size≤h2.size)) (m7.lo (by omega)) g8 (by omega) 5
  refine Ei _ (Ai (B27.chg g8.chg (by simp)) (Ai (by simp) (Ai rfl (Ai m8.ok.ones fun h9 p9=>?_))))
  refine Ei _ (Ai rfl (Ai (cells_blk p9.blk) ?_))
  exact node_done p9 m8 (by omega) (by omega) (R7.ext g8.chg) (by omega) (fun _ _=>by omega) (Chg.also c07 g8.chg (by simp)) hb
 -- for
 refine call_ret (take_calls R1 _) ?_
 rintro _ h2 (⟨rfl,rfl⟩|⟨rfl,hpos,R2,c2⟩)
 case inr=>
  have z2:=c2.size
  have B22:=B2.chg c2 (by intro hin;have:=one_in hin;omega)
  have c02:=stepC c1 c2
  refine call_ret (hfo _ (by omega) R2) ?_
  rintro _ h3 ⟨⟨k,s,x,n,u,ns,v,l⟩,left3,rfl,m3,hl3,_,R3,c3⟩
  have B23:=B22.chg c3 (by intro hin;have:=one_in hin;omega)
  refine Ei _ (Ai B23 (Ai (by simp) (Ai rfl (Ai m3.ok.ones fun h4 p4=>?_))))
  refine Ei _ (Ai rfl (Ai (cells_blk p4.blk) ?_))
  exact node_done p4 m3 (by omega) (by omega) R3 (by omega) (fun _ _=>by omega) (stepC c02 c3) hb
 -- break
 refine call_ret (take_calls R1 _) ?_
 rintro _ h2 (⟨rfl,rfl⟩|⟨rfl,hpos,R2,c2⟩)
 case inr=>
  have z2:=c2.size
  have B22:=B2.chg c2 (by intro hin;have:=one_in hin;omega)
  have c02:=stepC c1 c2
  refine Ei _ (Ai B22 (Ai (by simp) (Ai rfl (Ai (leaf_ones 8 0 _ _) fun h5 p5=>?_))))
  refine Ei _ (Ai rfl (Ai (cells_blk p5.blk) ?_))
  exact node_done (t:=.mk 8 ⟨#[]⟩ ⟨#[]⟩ 0 (.slice none 0 0) [] (.slice none 0 0) []) p5 (made_leaf (lo:=h1.size) 8 0 _ _) (by omega) (by omega) R2 (by omega) (fun _ _=>by omega) c02 hb
 -- return
 refine call_ret (take_calls R1 _) ?_
 rintro _ h2 (⟨rfl,rfl⟩|⟨rfl,hpos,R2,c2⟩)
 case inr=>
  have z2:=c2.size
  have B22:=B2.chg c2 (by intro hin;have:=one_in hin;omega)
  have c02:=stepC c1 c2
  refine call_ret (is_calls R2 _) ?_
  rintro _ _ ⟨⟨t,rfl,_⟩,rfl⟩
  cases t with
  |true=>
   refine Ei _ (Ai B22 (Ai (by simp) (Ai rfl (Ai (leaf_ones 7 0 _ _) fun h5 p5=>?_))))
   refine Ei _ (Ai rfl (Ai (cells_blk p5.blk) ?_))
   exact node_done (t:=.mk 7 ⟨#[]⟩ ⟨#[]⟩ 0 (.slice none 0 0) [] (.slice none 0 0) []) p5 (made_leaf (lo:=h1.size) 7 0 _ _) (by omega) (by omega) R2 (by omega) (fun _ _=>by omega) c02 hb
  |false=>
  refine call_ret (ends_calls R2) ?_
  rintro _ _ ⟨⟨t,rfl,_⟩,rfl⟩
  cases t with
  |true=>
   refine Ei _ (Ai B22 (Ai (by simp) (Ai rfl (Ai (leaf_ones 7 0 _ _) fun h5 p5=>?_))))
   refine Ei _ (Ai rfl (Ai (cells_blk p5.blk) ?_))
   exact node_done (t:=.mk 7 ⟨#[]⟩ ⟨#[]⟩ 0 (.slice none 0 0) [] (.slice none 0 0) []) p5 (made_leaf (lo:=h1.size) 7 0 _ _) (by omega) (by omega) R2 (by omega) (fun _ _=>by omega) c02 hb
  |false=>
  refine call_ret (hx _ (by omega) R2) ?_
  rintro _ h3 ⟨⟨k,s,x,n,u,ns,v,l⟩,left3,rfl,m3,hl3,_,R3,c3⟩
  have z3:=c3.size
  have B23:=B22.chg c3 (by intro hin;have:=one_in hin;omega)
  intro b4 h4 g4
  have m4:=one_node m3 g4 z3 7
  refine Ei _ (Ai (B23.chg g4.chg (by simp)) (Ai (by simp) (Ai rfl (Ai m4.ok.ones fun h5 p5=>?_))))
  refine Ei _ (Ai rfl (Ai (cells_blk p5.blk) ?_))
  exact node_done p5 m4 (by omega) (by omega) (R3.ext g4.chg) (by omega) (fun _ _=>by omega) (Chg.also (stepC c02 c3) g4.chg (by simp)) hb
 -- what is called,or set
 refine call_ret (place_calls R1) ?_
 rintro _ _ ⟨⟨pz,rfl⟩,rfl⟩
 refine call_ret (hbe R1) ?_
 rintro _ h3 ⟨⟨k,s,x,n,u,ns,v,l⟩,left3,rfl,m3,hl3,hs3,R3,c3⟩
 have hs3:=hs3 rfl
 have z3:=c3.size
 have B23:=B2.chg c3 (by intro hin;have:=one_in hin;omega)
 intro b5 h4 g4
 refine Ei _ (Ai g4.blk (Ai (by simp) (Ai rfl (Ai m3.ok.ones fun h5 p5=>?_))))
 have g5:Grow h3 h5 b5 (encN (ND.mk k s x n u ns v l)):=g4.put p5
 have i5:=g5.id
 have z5:=g5.size
 have B55:Blk h5 b5 [.int .i64 k,.string s,.string x,.int .i64 n,u,v]:=g5.blk
 have B25:=B23.chg g5.chg (by simp)
 have R5:=R3.ext g5.chg
 have m5:=m3.ext g5.chg
 have c05:Chg [C.b] h h5:=Chg.also (stepC c1 c3) g5.chg (by simp)
 have fin:∀{h6:Heap} {left6:Nat},Rd C h6 left6→left6≤left3→Chg [C.b] h5 h6→
   swp Tryz.prog (.seq (.ops g134r25) (.seq (.tree [77,78,79,80,81] g134t26) .ret)) (retQD Tryz.prog [.cn 2 6] (Ret (NodeQ C h left true))) (mk [(0,pt C.b),(2,pt b2),(5,pt b5)]) [] h6:=by
  intro h6 left6 R6 hl6 c6
  have z6:=c6.size
  refine call_ret (want_calls R6 _) ?_
  rintro _ h7 ⟨left7,hl7,R7,c7⟩
  have z7:=c7.size
  have c57:=stepC c6 c7
  have B57:=B55.chg c57 (by intro hin;have:=one_in hin;omega)
  have B27:=B25.chg c57 (by intro hin;have:=one_in hin;omega)
  have m7:=m5.old c57 (fun x hx=>.inl (by rw[one_in hx];omega))
  refine Ei _ (Ai rfl (Ai (cells_blk B57) ?_))
  refine call_ret (hx _ (by omega) R7) ?_
  rintro _ h8 ⟨⟨k8,s8,x8,n8,u8,ns8,v8,l8⟩,left8,rfl,m8,hl8,_,R8,c8⟩
  have z8:=c8.size
  have B58:=B57.chg c8 (by intro hin;have:=one_in hin;omega)
  have B28:=B27.chg c8 (by intro hin;have:=one_in hin;omega)
  have m78:=m7.old c8 (fun x hx=>.inl (by rw[one_in hx];omega))
  refine Ai (all1 (chk_ldn rfl rfl (cells_blk B58) rfl)) ?_
  intro b9 h9 g9
  have m9:=two_node m78 (m8.lo (by omega)) g9 (by omega) 2
  refine Ei _ (Ai (B28.chg g9.chg (by simp)) (Ai (by simp) (Ai rfl (Ai m9.ok.ones fun h10 p10=>?_))))
  refine Ei _ (Ai rfl (Ai (cells_blk p10.blk) ?_))
  exact node_done p10 m9 (by omega) (by omega) (R8.ext g9.chg) (by omega) (fun _ h=>by have:=hs3 h;omega) (Chg.also (stepC (stepC c05 c57) c8) g9.chg (by simp)) hb
 have tail:∀{h6:Heap},h6=h5→swp Tryz.prog (.seq (.seq (.ops g134r23) (.cond (.tmp 71) (.ops g134r24) .skip)) (.seq (.ops g134r25) (.seq (.tree [77,78,79,80,81] g134t26) .ret))) (retQD Tryz.prog [.cn 2 6] (Ret (NodeQ C h left true))) (mk [(0,pt C.b),(2,pt b2),(4,.int .i64 pz),(5,pt b5)]) [] h6:=by
  rintro _ rfl
  refine Ei _ (Ai (cell_blk B55 rfl) (Ai rfl (Ai (fun _=>?_) (fun _=>?_))))
  case refine_2=>exact cut_atD [(0,pt C.b),(2,pt b2),(5,pt b5)] ⟨rfl,rfl,rfl,trivial⟩ (fin R5 (Nat.le_refl _) ((Chg.refl _).mono (by simp)))
  refine Ei _ (Ai (cell_blk B55 rfl) (Ai rfl (Ai (fun _=>?_) (fun _=>?_))))
  case refine_2=>exact cut_atD [(0,pt C.b),(2,pt b2),(5,pt b5)] ⟨rfl,rfl,rfl,trivial⟩ (fin R5 (Nat.le_refl _) ((Chg.refl _).mono (by simp)))
  refine call_ret (give_calls R5 _ _) ?_
  rintro _ h6 ⟨R6,c6⟩
  exact cut_atD [(0,pt C.b),(2,pt b2),(5,pt b5)] ⟨rfl,rfl,rfl,trivial⟩ (fin R6 (Nat.zero_le _) c6)
 refine Ei _ (Ai (cell_blk B55 rfl) (Ai rfl (Ai (fun _=>?_) (fun _=>?_))))
 case refine_2=>exact cut_atD [(0,pt C.b),(2,pt b2),(4,.int .i64 pz),(5,pt b5)] ⟨rfl,rfl,rfl,rfl,trivial⟩ (tail rfl)
 refine call_ret (is_calls R5 _) ?_
 rintro _ _ ⟨⟨t,rfl,_⟩,rfl⟩
 cases t with
 |true=>exact cut_atD [(0,pt C.b),(2,pt b2),(4,.int .i64 pz),(5,pt b5)] ⟨rfl,rfl,rfl,rfl,trivial⟩ (tail rfl)
 |false=>
  refine Ei _ (Ai rfl (Ai (cells_blk B55) ?_))
  refine Ei _ (Ai B25 (Ai (by simp) (Ai rfl (Ai m5.ok.ones fun h6 p6=>?_))))
  refine Ei _ (Ai rfl (Ai (cells_blk p6.blk) ?_))
  exact node_done p6 m5 (by omega) (by omega) R5 hl3 (fun _ h=>hs3 h) c05 hb
theorem level_calls {h:Heap} (s:ByteArray):CallsH Tryz.prog 242 [.string s] h (Ret fun r h'=>(∃z:Int,r=.int .i64 z)∧h=h'):=by
 refine f242_calls (by simp) ?_
 repeat' (first|exact Ai (Ei _ rfl) rfl|refine Ai (fun _=>?_) (fun _=>?_))
def encI (i:Int):List Value:=[.int .i64 i]
theorem encI_len (i:Int):(encI i).length=1:=rfl
theorem encI_ones (i:Int):∀u∈encI i,u.oneCell'=true:=by
 intro u hu
 have hu:=List.mem_singleton.1 hu
 subst hu;rfl
structure Nums (lo:Nat) (h:Heap) (v:Value) (l:List Int):Prop where
 ol:OL encI 1 h v l
 fr:∀q∈vblk v,lo≤q∧q<h.size
theorem Nums.old {lo:Nat} {S:List Nat} {h h':Heap} {v:Value} {l:List Int} (k:Nums lo h v l) (hc:Chg S h h') (hS:∀x∈S,x<lo∨h.size≤x):Nums lo h' v l:=
 ⟨k.ol.chg hc fun q hq hin=>by have:=k.fr q hq;rcases hS q hin with h|h<;>omega,fun q hq=>⟨(k.fr q hq).1,Nat.lt_of_lt_of_le (k.fr q hq).2 hc.size⟩⟩
theorem Nums.add {lo:Nat} {h h1:Heap} {oa:Option Addr} {oc:Nat} {l:List Int} {s:Int} {b:Nat} (k:Nums lo h (.slice oa l.length oc) l) (hl:lo≤h.size) (g:Grow h h1 b (encI s)) (hL:l.length<3000)
  {K:Value→Heap→Prop} (hK:∀oa' oc' h2,Nums lo h2 (.slice oa' (l++[s]).length oc') (l++[s])→Chg (ablk oa) h h2→K (.slice oa' (l++[s]).length oc') h2):
  appP h1 K 1 8 [(.int .i64 0)] oa l.length oc (some ⟨b,0,none⟩) 1:=by
 refine app_own encI_len encI_ones rfl (k.ol.ext g.chg) (SL.one encI_len g.blk) (by simp;omega) ?_
 intro v' h2 ho hc hb
 obtain⟨oa',oc',rfl,_⟩:=ho.form
 refine hK oa' oc' h2 ⟨ho,fun q hq=>?_⟩ (g.chg.trans hc (fun _ hx=>by simp at hx) (fun _ hx _=>hx))
 have hlt:=ho.lt q hq
 have gs:=g.size
 rcases hb q hq with h|h
 ·exact⟨(k.fr q h).1,hlt⟩
 ·exact⟨by omega,hlt⟩
set_option maxHeartbeats 1000000 in
set_option maxRecDepth 100000 in
theorem unary_calls {C:Ct} {h:Heap} {left:Nat} (R:Rd C h left) (hbe:∀l,l≤left→NodeC C 188 [] true l):CallsH Tryz.prog 241 [pt C.b] h (Ret (NodeQ C h left true)):=by
 have hb:C.b<h.size:=R.lt
 have hfew:=R.few
 have hle:=R.le
 refine f241_calls (by simp) ?_
 intro b2 h1 g1
 have i1:=g1.id
 have s1:=g1.size
 have B2:Blk h1 b2 zN:=g1.blk
 have c1:Chg [C.b] h h1:=g1.chg.mono (by simp)
 refine loop_intro (fun i:Nat×List Int×Option Addr×Nat=>[(0,pt C.b),(2,pt b2),(3,.slice i.2.2.1 i.2.1.length i.2.2.2)])
  (fun i h'=>i.1≤left∧Rd C h' i.1∧Nums h1.size h' (.slice i.2.2.1 i.2.1.length i.2.2.2) i.2.1∧i.2.1.length+i.1≤2000∧Chg [C.b] h h'∧h1.size≤h'.size∧Blk h' b2 zN) (fun i=>i.1) (left,[],none,0) ⟨rfl,rfl,rfl,trivial⟩
  ⟨Nat.le_refl _,R.ext g1.chg,⟨OL.nil,by simp[vblk,ablk]⟩,by simp;omega,c1,Nat.le_refl _,B2⟩ ?_
 rintro⟨left3,l,oa,oc⟩ h3 ⟨hl3,R3,N3,hn,c3,z3,B23⟩
 simp only at hl3 R3 N3 hn
 have round:∀{h4 h5:Heap} {b5:Nat} {k:Int} {K:Value→Heap→Prop},Rd C h4 (left3-1)→Chg [C.b] h3 h4→Grow h4 h5 b5 (encI k)→
   (∀oa' oc' h6,Rd C h6 (left3-1)→Nums h1.size h6 (.slice oa' (l++[k]).length oc') (l++[k])→Chg [C.b] h h6→h1.size≤h6.size→Blk h6 b2 zN→K (.slice oa' (l++[k]).length oc') h6)→appP h5 K 1 8 [(.int .i64 0)] oa l.length oc (some ⟨b5,0,none⟩) 1:=by
  intro h4 h5 b5 k K R4 c4 g5 hK
  have z4:=c4.size
  have N4:=N3.old c4 (fun x hx=>.inl (by rw[one_in hx];omega))
  refine N4.add (by omega) g5 (by omega) ?_
  intro oa' oc' h6 N6 c6
  have hk:∀x∈ablk oa,h1.size≤x:=fun x hx=>(N4.fr x hx).1
  refine hK oa' oc' h6 (R4.other c6 (fun x hx=>by have:=hk x hx;omega)) N6 (Chg.also (stepC c3 c4) c6 (fun x hx=>.inr (by have:=hk x hx;omega))) (by have:=c6.size;omega) ((B23.chg c4 (by intro hin;have:=one_in hin;omega)).chg c6 (by intro hin;have:=hk _ hin;omega))
 refine call_ret (take_calls R3 _) ?_
 rintro _ h4 (⟨rfl,rfl⟩|⟨rfl,hpos,R4,c4⟩)
 case inr=>
  intro b5 h5 g5
  refine round R4 c4 g5 ?_
  intro oa' oc' h6 R6 N6 c6 z6 B26
  exact Ai rfl (Ei (left3-1,l++[22],oa',oc') (Ai ⟨rfl,rfl,rfl,trivial⟩ (Ai ⟨by simp only;omega,R6,N6,by simp only[List.length_append,List.length_cons,List.length_nil];omega,c6,z6,B26⟩ (by simp only;omega))))
 refine call_ret (take_calls R3 _) ?_
 rintro _ h4 (⟨rfl,rfl⟩|⟨rfl,hpos,R4,c4⟩)
 case inr=>
  intro b5 h5 g5
  refine round R4 c4 g5 ?_
  intro oa' oc' h6 R6 N6 c6 z6 B26
  exact Ai rfl (Ei (left3-1,l++[23],oa',oc') (Ai ⟨rfl,rfl,rfl,trivial⟩ (Ai ⟨by simp only;omega,R6,N6,by simp only[List.length_append,List.length_cons,List.length_nil];omega,c6,z6,B26⟩ (by simp only;omega))))
 refine call_ret (take_calls R3 _) ?_
 rintro _ h4 (⟨rfl,rfl⟩|⟨rfl,hpos,R4,c4⟩)
 case inr=>
  intro b5 h5 g5
  refine round R4 c4 g5 ?_
  intro oa' oc' h6 R6 N6 c6 z6 B26
  exact Ai rfl (Ei (left3-1,l++[24],oa',oc') (Ai ⟨rfl,rfl,rfl,trivial⟩ (Ai ⟨by simp only;omega,R6,N6,by simp only[List.length_append,List.length_cons,List.length_nil];omega,c6,z6,B26⟩ (by simp only;omega))))
 -- the operand
 refine call_ret (hbe left3 hl3 R3) ?_
 rintro _ h4 ⟨⟨k,s,x,n,u,ns,v,kl⟩,left4,rfl,m4,hl4,hs4,R4,c4⟩
 have hs4:=hs4 rfl
 have z4:=c4.size
 have N4:=N3.old c4 (fun x hx=>.inl (by rw[one_in hx];omega))
 have B24:=B23.chg c4 (by intro hin;have:=one_in hin;omega)
 have c04:=stepC c3 c4
 intro b4 h5 g5
 refine Ei _ (Ai g5.blk (Ai (by simp) (Ai rfl (Ai m4.ok.ones fun h6 p6=>?_))))
 have g6:Grow h4 h6 b4 (encN (ND.mk k s x n u ns v kl)):=g5.put p6
 have i6:=g6.id
 have s6:=g6.size
 have hq4:∀q∈ablk oa,q<b4:=fun q hq=>by have:=(N4.fr q hq).2;omega
 refine Ai rfl (fun z hz=>?_)
 have hz:=sub_in (a:=(l.length:Int)) (b:=1) hz (by omega) (by omega)
 refine loop_intro (fun i:Nat×ND=>[(0,pt C.b),(2,pt b2),(3,.slice oa l.length oc),(4,pt b4),(5,.int .i64 ((i.1:Int)-1))])
  (fun i h'=>i.1≤l.length∧Chg [] h4 h'∧Made h1.size h' i.2∧b4∉i.2.blks∧Blk h' b4 (encN i.2)) (fun i=>i.1) (l.length,.mk k s x n u ns v kl) ⟨rfl,rfl,rfl,rfl,by subst hz;rfl,trivial⟩
  ⟨Nat.le_refl _,g6.chg,(m4.lo (by omega)).ext g6.chg,fun hin=>by have:=(m4.fr _ hin).2;omega,g6.blk⟩ ?_
 rintro⟨j,⟨k,s,x,n,u,ns,v,kl⟩⟩ h7 ⟨hj,c7,m7,n7,B47⟩
 simp only at hj m7 n7 B47
 refine Ai rfl (Ai (fun hge=>?_) (fun hlt=>?_))
 case refine_2=>
  have R7:=R4.ext c7
  have B27:=B24.chg c7 (by simp)
  refine Ei _ (Ai rfl (Ai (cells_blk B47) ?_))
  refine Ei _ (Ai B27 (Ai (by simp) (Ai rfl (Ai m7.ok.ones fun h8 p8=>?_))))
  refine Ei _ (Ai rfl (Ai (cells_blk p8.blk) ?_))
  exact node_done p8 m7 (by omega) (by omega) R7 (by omega) (fun _ h=>by omega) (Chg.also c04 c7 (by simp)) hb
 have hj1:j-1<l.length:=by omega
 have N7:=N4.old c7 (by simp)
 have sl7:=N7.ol.sl
 obtain⟨b0,o,e0⟩:=sl7.addr (by omega)
 subst e0
 have hcs:=sl7.cells encI_len (i:=j-1) (x:=l[j-1]) (by simp[hj1])
 refine Ai (by omega) (Ai (by simp only;omega) (Ei (.int .i64 l[j-1]) (Ai ?_ ?_)))
 ·have e:((j:Int)-1).toNat=j-1:=by omega
  rw[e];exact hcs 0 _ rfl
 refine Ei _ (Ai rfl (Ai (cells_blk B47) ?_))
 intro b8 h8 g8
 have z7:=c7.size
 have i8:=g8.id
 have lt7:=B47.lt
 have m8:=one_node m7 g8 (by omega) l[j-1]
 have n8:b4∉(ND.mk l[j-1] ⟨#[]⟩ ⟨#[]⟩ 0 (.slice none 0 0) [] (.slice (some ⟨b8,0,none⟩) 1 1) [.mk k s x n u ns v kl]).blks:=by
  intro hin
  simp only[ND.blks,ND.blkss,vblk,ablk,List.nil_append,List.mem_append,List.append_nil,List.mem_singleton]at hin n7
  rcases hin with hin|hin
  ·omega
  ·exact n7 hin
 refine Ei _ (Ai (B47.chg g8.chg (by simp)) (Ai (by simp[encN]) (Ai rfl (Ai m8.ok.ones fun h9 p9=>?_))))
 have p9:Put h8 h9 b4 (encN (ND.mk l[j-1] ⟨#[]⟩ ⟨#[]⟩ 0 (.slice none 0 0) [] (.slice (some ⟨b8,0,none⟩) 1 1) [.mk k s x n u ns v kl])):=p9
 refine Ai rfl (fun y hy=>?_)
 have hy:=sub_in hy (by omega) (by omega)
 refine Ai rfl (Ei (j-1,_) (Ai ⟨rfl,rfl,rfl,rfl,?_,trivial⟩ (Ai ⟨by simp only;omega,(c7.nil g8.chg).fresh p9.chg (fun q hq=>by rw[one_in hq];omega),m8.chg p9.chg (fun q hq hin=>n8 (by rw[←one_in hin];exact hq)),n8,p9.blk⟩ (by simp only;omega))))
 have:y=(((j-1:Nat):Int)-1):=by omega
 rw[this];rfl
theorem Kids.apart {lo:Nat} {S:List Nat} {h h':Heap} {v:Value} {L:List ND} (k:Kids lo h v L) (hc:Chg S h h') (h1:∀q∈vblk v,q∉S) (h2:∀t∈L,∀q∈t.blks,q∉S):Kids lo h' v L:=
 ⟨k.ol.chg hc h1,fun q hq=>⟨(k.fr q hq).1,Nat.lt_of_lt_of_le (k.fr q hq).2 hc.size⟩,fun t ht=>(k.ok t ht).chg hc (h2 t ht),k.aw⟩
theorem Txts.apart {lo:Nat} {S:List Nat} {h h':Heap} {v:Value} {l:List ByteArray} (k:Txts lo h v l) (hc:Chg S h h') (h1:∀q∈vblk v,q∉S):Txts lo h' v l:=
 ⟨k.ol.chg hc h1,fun q hq=>⟨(k.fr q hq).1,Nat.lt_of_lt_of_le (k.fr q hq).2 hc.size⟩⟩
theorem two_nodeN {lo:Nat} {h h':Heap} {t u:ND} {b:Nat} (m:Made lo h t) (m2:Made lo h u) (g:Grow h h' b (encN t++encN u)) (hl:lo≤h.size) (kd:Int) (s:ByteArray):Made lo h' (.mk kd s ⟨#[]⟩ 0 (.slice none 0 0) [] (.slice (some ⟨b,0,none⟩) 2 2) [t,u]):=
 (Kids.two m m2 g hl).node kd 0 s ⟨#[]⟩ SL.nil (by simp) (by simp) (by simp[vblk,ablk])
set_option maxRecDepth 100000 in
theorem expr6_calls {C:Ct} {h:Heap} {left:Nat} (R:Rd C h left) (hu:NodeC C 241 [] true left):CallsH Tryz.prog 185 [pt C.b,.int .i64 6] h (Ret (NodeQ C h left true)):=by
 have hb:C.b<h.size:=R.lt
 refine f185_calls (by simp) ?_
 intro b2 h1 g1
 have i1:=g1.id
 have s1:=g1.size
 refine Ai rfl (Ai (fun _=>?_) (fun hne=>absurd rfl hne))
 refine call_ret (hu (R.ext g1.chg)) ?_
 rintro _ h2 ⟨⟨k,s,x,n,u,ns,v,kl⟩,left2,rfl,m2,hl2,hs2,R2,c2⟩
 have z2:=c2.size
 refine Ei _ (Ai (Blk.chg g1.blk c2 (by intro hin;have:=one_in hin;omega)) (Ai (by simp) (Ai rfl (Ai m2.ok.ones fun h3 p3=>?_))))
 refine Ei _ (Ai rfl (Ai (cells_blk p3.blk) ?_))
 exact node_done (t:=.mk k s x n u ns v kl) p3 m2 (by omega) (by omega) R2 hl2 hs2 (Chg.also (g1.chg.mono (by simp)) c2 (fun _ hx=>.inl hx)) hb
structure Ops (C:Ct) (h h1:Heap) (b2 left0:Nat) (h':Heap) (left:Nat) (ops:List ByteArray) (oa:Option Addr) (oc:Nat) (L:List ND) (la:Option Addr) (lc:Nat):Prop where
 le:left≤left0
 st:0<left0→left<left0
 rd:Rd C h' left
 tx:Txts h1.size h' (.slice oa ops.length oc) ops
 ks:Kids h1.size h' (.slice la L.length lc) L
 len:L.length=ops.length+1
 few:ops.length+left≤2001
 c:Chg [C.b] h h'
 z:h1.size≤h'.size
 B2:Blk h' b2 zN
 d1:∀q∈ablk oa,q∉ablk la
 d2:∀t∈L,∀q∈t.blks,q∉ablk oa
 hb:C.b<h.size
 o2:b2=h.size
 o1:h1.size=h.size+1
set_option maxHeartbeats 4000000 in
set_option maxRecDepth 100000 in
theorem expr_tail {C:Ct} {h h1:Heap} {b2 left0:Nat} {k:Nat} {h':Heap} {left:Nat} {ops:List ByteArray} {oa:Option Addr} {oc:Nat} {L:List ND} {la:Option Addr} {lc:Nat} (A:Ops C h h1 b2 left0 h' left ops oa oc L la lc):
  swp Tryz.prog (.seq (.seq (.ops f185r10) (.cond (.tmp 97) (.seq (.ops f185r11) (.seq (.seq (.ops f185r12) (.block 2 (.loop f185l16))) (.seq (.ops f185r17) .ret))) .skip)) (.seq (.ops f185r18) (.seq (.seq (.ops f185r19) (.block 4 (.loop f185l23))) (.seq (.ops f185r24) .ret))))
   (retQ [.cn 4 6] (Ret (NodeQ C h left0 true))) (mk [(0,pt C.b),(1,.int .i64 (k:Int)),(4,pt b2),(5,.slice la L.length lc),(6,.slice oa ops.length oc)]) [] h':=by
 have hz:=A.z
 have ho1:=A.o1
 have ho2:=A.o2
 have hlen:=A.len
 have hfew:=A.few
 have hb:=A.hb
 obtain⟨lb,e0⟩:∃lb,la=some ⟨lb,0,none⟩:=by
  rcases A.ks.ol.open with⟨_,⟨_,h2,_⟩|⟨b,e,_⟩⟩
  ·rw[h2]at hlen;simp at hlen
  ·exact⟨b,e⟩
 subst e0
 have node:∀{j:Nat} (hj:j<L.length) {h2:Heap},Chg [] h' h2→Made h1.size h2 L[j]∧Cells h2 lb (0+j*6) (encN L[j]):=by
  intro j hj h2 c
  exact⟨(A.ks.ok _ (List.getElem_mem hj)).ext c,(A.ks.ext c).ol.sl.cells encN_len (i:=j) (x:=L[j]) (by simp[hj])⟩
 have op:∀{j:Nat} (hj:j<ops.length) {h2:Heap},Chg [] h' h2→∃ob,oa=some ⟨ob,0,none⟩∧Cells h2 ob (0+j*1) (encS ops[j]):=by
  intro j hj h2 c
  have sl:=(A.tx.ol.ext c)
  rcases sl.open with⟨_,⟨_,h2,_⟩|⟨b,e,_⟩⟩
  ·rw[h2]at hj;simp at hj
  ·subst e
   exact⟨b,rfl,sl.sl.cells encS_len (x:=ops[j]) (by simp[hj])⟩
 have fin:∀{h2 h3:Heap} {t:ND} {l:List Value},Chg [] h' h2→Made h1.size h2 t→Put h2 h3 b2 l→NodeQ C h left0 true (.agg ⟨encN t⟩) h3:=fun c m p=>node_done p m (by omega) (by omega) (A.rd.ext c) A.le (fun _=>A.st) (Chg.also A.c c (by simp)) hb
 refine Ai rfl (Ai (fun hk=>?_) (fun hk=>?_))
 ·-- from the right
  refine Ai rfl (fun z hz=>?_)
  have hz:=sub_in (a:=(L.length:Int)) (b:=1) hz (by omega) (by omega)
  have hz:z=((L.length-1:Nat):Int):=by omega
  subst hz
  obtain⟨m0,c0⟩:=node (j:=L.length-1) (by omega) (Chg.refl h')
  generalize L[L.length-1]=t0 at m0 c0
  obtain⟨k0,s0,x0,n0,u0,ns0,v0,l0⟩:=t0
  refine Ai (by omega) (Ai (by omega) (Ei (encN _) (Ai (encN_len _) (Ai c0 ?_))))
  intro b7 h2 g2
  refine Ei _ (Ai g2.blk (Ai (by simp) (Ai rfl (Ai m0.ok.ones fun h3 p3=>?_))))
  have g3:Grow h' h3 b7 (encN (ND.mk k0 s0 x0 n0 u0 ns0 v0 l0)):=g2.put p3
  have i3:=g3.id
  refine Ai rfl (fun z hz=>?_)
  have hz:=sub_in (a:=(ops.length:Int)) (b:=1) hz (by omega) (by omega)
  refine loop_intro (fun i:Nat×ND=>[(4,pt b2),(5,.slice (some ⟨lb,0,none⟩) L.length lc),(6,.slice oa ops.length oc),(7,pt b7),(8,.int .i64 ((i.1:Int)-1))])
   (fun i h2=>i.1≤ops.length∧Chg [] h' h2∧Made h1.size h2 i.2∧b7∉i.2.blks∧Blk h2 b7 (encN i.2)) (fun i=>i.1) (ops.length,.mk k0 s0 x0 n0 u0 ns0 v0 l0) ⟨rfl,rfl,rfl,rfl,by subst hz;rfl,trivial⟩
   ⟨Nat.le_refl _,g3.chg,m0.ext g3.chg,fun hin=>by have:=(m0.fr _ hin).2;omega,g3.blk⟩ ?_
  rintro⟨j,⟨k1,s1,x1,n1,u1,ns1,v1,l1⟩⟩ h4 ⟨hj,c4,m4,n4,B4⟩
  simp only at hj m4 n4 B4
  refine Ai rfl (Ai (fun hge=>?_) (fun hlt=>?_))
  case refine_2=>
   refine Ei _ (Ai rfl (Ai (cells_blk B4) ?_))
   refine Ei _ (Ai (A.B2.chg c4 (by simp)) (Ai (by simp) (Ai rfl (Ai m4.ok.ones fun h8 p8=>?_))))
   exact Ei _ (Ai rfl (Ai (cells_blk p8.blk) (fin c4 m4 p8)))
  have hj1:j-1<ops.length:=by omega
  have ej:((j:Int)-1).toNat=j-1:=by omega
  obtain⟨ob,e1,co⟩:=op hj1 c4
  subst e1
  obtain⟨m5,c5⟩:=node (j:=j-1) (by omega) c4
  have b5:=m5.fr
  have hL5:∀q∈(L[j-1]'(by omega)).blks,q<h'.size:=fun q hq=>((A.ks.ok _ (List.getElem_mem (by omega))).fr q hq).2
  generalize (L[j-1]'(by omega))=t5 at m5 c5 b5 hL5
  obtain⟨k5,s5,x5,n5,u5,ns5,v5,l5⟩:=t5
  refine Ai (by omega) (Ai (by simp only;omega) (Ei (.string ops[j-1]) (Ai ?_ ?_)))
  ·rw[ej];exact co 0 _ rfl
  refine Ai (by omega) (Ai (by simp only;omega) (Ei (encN (.mk k5 s5 x5 n5 u5 ns5 v5 l5)) (Ai (encN_len _) (Ai (by show Cells h4 lb (0+((j:Int)-1).toNat*6) _;rw[ej];exact c5) ?_))))
  refine Ei _ (Ai rfl (Ai (cells_blk B4) ?_))
  intro b8 h8 g8
  have lt4:=B4.lt
  have i8:=g8.id
  have m8:=two_nodeN m5 m4 g8 (by have:=c4.size;omega) 21 ops[j-1]
  have n8:b7∉(ND.mk 21 ops[j-1] ⟨#[]⟩ 0 (.slice none 0 0) [] (.slice (some ⟨b8,0,none⟩) 2 2) [.mk k5 s5 x5 n5 u5 ns5 v5 l5,.mk k1 s1 x1 n1 u1 ns1 v1 l1]).blks:=by
   intro hin
   simp only[ND.blks,ND.blkss,vblk,ablk,List.nil_append,List.mem_append,List.append_nil,List.mem_singleton]at hin n4
   rcases hin with hin|hin|hin
   ·omega
   ·have:=hL5 b7 (by simp only[ND.blks,List.mem_append];exact hin);omega
   ·exact n4 hin
  refine Ei _ (Ai (B4.chg g8.chg (by simp)) (Ai (by simp[encN]) (Ai rfl (Ai m8.ok.ones fun h9 p9=>?_))))
  have p9:Put h8 h9 b7 (encN (ND.mk 21 ops[j-1] ⟨#[]⟩ 0 (.slice none 0 0) [] (.slice (some ⟨b8,0,none⟩) 2 2) [.mk k5 s5 x5 n5 u5 ns5 v5 l5,.mk k1 s1 x1 n1 u1 ns1 v1 l1])):=p9
  refine Ai rfl (fun y hy=>?_)
  have hy:=sub_in hy (by omega) (by omega)
  refine Ai rfl (Ei (j-1,_) (Ai ⟨rfl,rfl,rfl,rfl,?_,trivial⟩ (Ai ⟨by simp only;omega,(c4.nil g8.chg).fresh p9.chg (fun q hq=>by rw[one_in hq];omega),m8.chg p9.chg (fun q hq hin=>n8 (by rw[←one_in hin];exact hq)),n8,p9.blk⟩ (by simp only;omega))))
  have:y=(((j-1:Nat):Int)-1):=by omega
  rw[this];rfl
 ·-- from the left
  obtain⟨m0,c0⟩:=node (j:=0) (by omega) (Chg.refl h')
  have hL0:∀q∈(L[0]'(by omega)).blks,q<h'.size:=fun q hq=>((A.ks.ok _ (List.getElem_mem (by omega))).fr q hq).2
  generalize (L[0]'(by omega))=t0 at m0 c0 hL0
  obtain⟨k0,s0,x0,n0,u0,ns0,v0,l0⟩:=t0
  refine Ai (by omega) (Ai (by omega) (Ei (encN (.mk k0 s0 x0 n0 u0 ns0 v0 l0)) (Ai (encN_len _) (Ai c0 ?_))))
  intro b7 h2 g2
  refine Ei _ (Ai g2.blk (Ai (by simp) (Ai rfl (Ai m0.ok.ones fun h3 p3=>?_))))
  have g3:Grow h' h3 b7 (encN (ND.mk k0 s0 x0 n0 u0 ns0 v0 l0)):=g2.put p3
  have i3:=g3.id
  refine loop_intro (fun i:Nat×ND=>[(4,pt b2),(5,.slice (some ⟨lb,0,none⟩) L.length lc),(6,.slice oa ops.length oc),(9,pt b7),(10,.int .i64 (i.1:Int))])
   (fun i h2=>i.1≤ops.length∧Chg [] h' h2∧Made h1.size h2 i.2∧b7∉i.2.blks∧Blk h2 b7 (encN i.2)) (fun i=>ops.length-i.1) (0,.mk k0 s0 x0 n0 u0 ns0 v0 l0) ⟨rfl,rfl,rfl,rfl,rfl,trivial⟩
   ⟨Nat.zero_le _,g3.chg,m0.ext g3.chg,fun hin=>by have:=(m0.fr _ hin).2;omega,g3.blk⟩ ?_
  rintro⟨j,⟨k1,s1,x1,n1,u1,ns1,v1,l1⟩⟩ h4 ⟨hj,c4,m4,n4,B4⟩
  simp only at hj m4 n4 B4
  refine Ai rfl (Ai (fun hlt=>?_) (fun hge=>?_))
  case refine_2=>
   refine Ei _ (Ai rfl (Ai (cells_blk B4) ?_))
   refine Ei _ (Ai (A.B2.chg c4 (by simp)) (Ai (by simp) (Ai rfl (Ai m4.ok.ones fun h8 p8=>?_))))
   exact Ei _ (Ai rfl (Ai (cells_blk p8.blk) (fin c4 m4 p8)))
  have hj1:j<ops.length:=by simp only at hlt;omega
  obtain⟨ob,e1,co⟩:=op hj1 c4
  subst e1
  obtain⟨m5,c5⟩:=node (j:=j+1) (by omega) c4
  have hL5:∀q∈(L[j+1]'(by omega)).blks,q<h'.size:=fun q hq=>((A.ks.ok _ (List.getElem_mem (by omega))).fr q hq).2
  generalize (L[j+1]'(by omega))=t5 at m5 c5 hL5
  obtain⟨k5,s5,x5,n5,u5,ns5,v5,l5⟩:=t5
  refine Ai (by simp only;omega) (Ai (by simp only;omega) (Ei (.string ops[j]) (Ai (co 0 _ rfl) ?_)))
  refine Ei _ (Ai rfl (Ai (cells_blk B4) ?_))
  refine Ai rfl (fun z hz=>?_)
  have hz:=add_in (a:=(j:Int)) (b:=1) hz (by omega) (by omega)
  have hz:z=((j+1:Nat):Int):=by omega
  subst hz
  refine Ai (by omega) (Ai (by omega) (Ei (encN (.mk k5 s5 x5 n5 u5 ns5 v5 l5)) (Ai (encN_len _) (Ai c5 ?_))))
  intro b8 h8 g8
  have lt4:=B4.lt
  have i8:=g8.id
  have m8:=two_nodeN m4 m5 g8 (by have:=c4.size;omega) 21 ops[j]
  have n8:b7∉(ND.mk 21 ops[j] ⟨#[]⟩ 0 (.slice none 0 0) [] (.slice (some ⟨b8,0,none⟩) 2 2) [.mk k1 s1 x1 n1 u1 ns1 v1 l1,.mk k5 s5 x5 n5 u5 ns5 v5 l5]).blks:=by
   intro hin
   simp only[ND.blks,ND.blkss,vblk,ablk,List.nil_append,List.mem_append,List.append_nil,List.mem_singleton]at hin n4
   rcases hin with hin|hin|hin
   ·omega
   ·exact n4 hin
   ·have:=hL5 b7 (by simp only[ND.blks,List.mem_append];exact hin);omega
  refine Ei _ (Ai (B4.chg g8.chg (by simp)) (Ai (by simp[encN]) (Ai rfl (Ai m8.ok.ones fun h9 p9=>?_))))
  have p9:Put h8 h9 b7 (encN (ND.mk 21 ops[j] ⟨#[]⟩ 0 (.slice none 0 0) [] (.slice (some ⟨b8,0,none⟩) 2 2) [.mk k1 s1 x1 n1 u1 ns1 v1 l1,.mk k5 s5 x5 n5 u5 ns5 v5 l5])):=p9
  refine Ai rfl (fun y hy=>?_)
  have hy:=add_in (a:=(j:Int)) (b:=1) hy (by omega) (by omega)
  have hy:y=((j+1:Nat):Int):=by omega
  subst hy
  exact Ai rfl (Ei (j+1,_) (Ai ⟨rfl,rfl,rfl,rfl,rfl,trivial⟩ (Ai ⟨by simp only;omega,(c4.nil g8.chg).fresh p9.chg (fun q hq=>by rw[one_in hq];omega),m8.chg p9.chg (fun q hq hin=>n8 (by rw[←one_in hin];exact hq)),n8,p9.blk⟩ (by simp only;omega))))
set_option maxHeartbeats 4000000 in
set_option maxRecDepth 100000 in
theorem expr_calls {C:Ct} {h:Heap} {left:Nat} (R:Rd C h left) (k:Nat) (hk:k<6) (hx:∀l,l≤left→NodeC C 185 [.int .i64 ((k+1:Nat):Int)] true l):CallsH Tryz.prog 185 [pt C.b,.int .i64 (k:Int)] h (Ret (NodeQ C h left true)):=by
 have hb:C.b<h.size:=R.lt
 have hfew:=R.few
 have hle:=R.le
 refine f185_calls (by simp) ?_
 intro b2 h1 g1
 have i1:=g1.id
 have s1:=g1.size
 have B2:Blk h1 b2 zN:=g1.blk
 refine Ai rfl (Ai (fun e=>by omega) (fun _=>?_))
 refine Ai rfl (fun z hz=>?_)
 have hz:=add_in (a:=(k:Int)) (b:=1) hz (by omega) (by omega)
 have hz:z=((k+1:Nat):Int):=by omega
 subst hz
 refine call_ret (hx left (Nat.le_refl _) (R.ext g1.chg)) ?_
 rintro _ h2 ⟨⟨k2,s2,x2,n2,u2,ns2,v2,l2⟩,left2,rfl,m2,hl2,hs2,R2,c2⟩
 have hs2:=hs2 rfl
 have z2:=c2.size
 have c02:Chg [C.b] h h2:=Chg.also (g1.chg.mono (by simp)) c2 (fun _ hx=>.inl hx)
 intro b5 h3 g3
 have i3:=g3.id
 have A3:Ops C h h1 b2 left h3 left2 [] none 0 [.mk k2 s2 x2 n2 u2 ns2 v2 l2] (some ⟨b5,0,none⟩) 1:=
  ⟨hl2,hs2,R2.ext g3.chg,⟨OL.nil,by simp[vblk,ablk]⟩,Kids.one m2 g3 z2,rfl,by simp;have:=R2.le;omega,Chg.also c02 g3.chg (by simp),by have:=g3.size;omega,(B2.chg c2 (by intro hin;have:=one_in hin;omega)).chg g3.chg (by simp),by simp[ablk],by simp[ablk],hb,i1,s1⟩
 refine loop_intro (fun i:Nat×(List ByteArray×Option Addr×Nat)×(List ND×Option Addr×Nat)=>[(0,pt C.b),(1,.int .i64 (k:Int)),(4,pt b2),(5,.slice i.2.2.2.1 i.2.2.1.length i.2.2.2.2),(6,.slice i.2.1.2.1 i.2.1.1.length i.2.1.2.2)])
  (fun i h'=>Ops C h h1 b2 left h' i.1 i.2.1.1 i.2.1.2.1 i.2.1.2.2 i.2.2.1 i.2.2.2.1 i.2.2.2.2) (fun i=>i.1) (left2,([],none,0),([.mk k2 s2 x2 n2 u2 ns2 v2 l2],some ⟨b5,0,none⟩,1)) ⟨rfl,rfl,rfl,rfl,rfl,trivial⟩
  A3 ?_
 rintro⟨left4,⟨ops,oa,oc⟩,⟨L,la,lc⟩⟩ h4 A4
 simp only at A4
 have R4:=A4.rd
 obtain⟨lg,op,pl,wy,B⟩:=R4.blk
 refine Ei _ (Ai (cell_blk B rfl) (Ai rfl (Ai (fun _=>?_) (fun _=>?_))))
 case refine_2=>exact cut_at [(0,pt C.b),(1,.int .i64 (k:Int)),(4,pt b2),(5,.slice la L.length lc),(6,.slice oa ops.length oc)] ⟨rfl,rfl,rfl,rfl,rfl,trivial⟩ (expr_tail A4)
 refine Ei _ (Ai (cell_blk B rfl) (Ei _ (Ai (cell_blk B rfl) ?_)))
 refine Ai rfl (Ai (fun hlt=>?_) (fun _=>?_))
 case refine_2=>exact cut_at [(0,pt C.b),(1,.int .i64 (k:Int)),(4,pt b2),(5,.slice la L.length lc),(6,.slice oa ops.length oc)] ⟨rfl,rfl,rfl,rfl,rfl,trivial⟩ (expr_tail A4)
 have hle4:=R4.le
 have hlt:C.ws.length-left4<C.ws.length:=by omega
 obtain⟨b0,o,e0,hcs⟩:=R4.word hlt
 rw[e0]at B
 refine Ei _ (Ai (cell_blk B rfl) (Ei _ (Ai (cell_blk B rfl) ?_)))
 refine Ai (by omega) (Ai (by omega) (Ei _ (Ai (hcs 1 _ rfl) ?_)))
 refine call_ret (is_calls R4 _) ?_
 rintro _ _ ⟨⟨t,rfl,_⟩,rfl⟩
 cases t with
 |false=>exact cut_at [(0,pt C.b),(1,.int .i64 (k:Int)),(4,pt b2),(5,.slice la L.length lc),(6,.slice oa ops.length oc)] ⟨rfl,rfl,rfl,rfl,rfl,trivial⟩ (expr_tail A4)
 |true=>
 refine Ei _ (Ai (cell_blk B rfl) (Ei _ (Ai (cell_blk B rfl) ?_)))
 refine Ai (by omega) (Ai (by omega) (Ei _ (Ai (hcs 1 _ rfl) ?_)))
 refine call_ret (level_calls _) ?_
 rintro _ _ ⟨⟨lv,rfl⟩,rfl⟩
 refine Ai rfl (Ai (fun _=>?_) (fun _=>?_))
 case refine_2=>exact cut_at [(0,pt C.b),(1,.int .i64 (k:Int)),(4,pt b2),(5,.slice la L.length lc),(6,.slice oa ops.length oc)] ⟨rfl,rfl,rfl,rfl,rfl,trivial⟩ (expr_tail A4)
 -- one more operator
 have ho1:=A4.o1
 have ho2:=A4.o2
 have hz4:=A4.z
 have hfew4:=A4.few
 have hlen4:=A4.len
 refine Ei _ (Ai (cell_blk B rfl) (Ei _ (Ai (cell_blk B rfl) ?_)))
 refine Ai (by omega) (Ai (by omega) (Ei _ (Ai (hcs 1 _ rfl) ?_)))
 intro b6 h6 g6
 refine Txts.add2 A4.tx hz4 g6 (by omega) ?_
 intro oa' oc' h7 T7 c7 f7
 have hoa:∀x∈ablk oa,h1.size≤x∧x<h4.size:=fun x hx=>A4.tx.fr x hx
 have hla:∀x∈ablk la,h1.size≤x∧x<h4.size:=fun x hx=>A4.ks.fr x hx
 have hLt:∀t∈L,∀x∈t.blks,h1.size≤x∧x<h4.size:=fun t ht x hx=>(A4.ks.ok t ht).fr x hx
 have K7:=A4.ks.apart c7 (fun q hq hin=>A4.d1 q hin hq) (fun t ht q hq hin=>A4.d2 t ht q hq hin)
 have R7:=R4.other c7 (fun x hx=>by have:=(hoa x hx).1;omega)
 have c07:Chg [C.b] h h7:=Chg.also A4.c c7 (fun x hx=>.inr (by have:=(hoa x hx).1;omega))
 have B27:=A4.B2.chg c7 (by intro hin;have:=(hoa _ hin).1;omega)
 have z7:=c7.size
 obtain⟨lg7,op7,pl7,wy7,B7⟩:=R7.blk
 refine Ei _ (Ai (cell_blk B7 rfl) (Ai rfl (fun z hz=>?_)))
 have hz:=add_in hz (by omega) (by omega)
 have hz:z=((C.ws.length-(left4-1):Nat):Int):=by omega
 subst hz
 refine Ei _ (Ai B7 (Ai (by simp) (Ai rfl (Ai (Go.Sx.ones1 rfl) fun h8 p8=>?_))))
 have R8:=R7.put (left':=left4-1) (lg:=lg7) (op:=op7) (pl:=pl7) (wy:=wy7) p8 (by omega)
 have c8:Chg [C.b] h7 h8:=p8.chg
 have z8:=c8.size
 have T8:=T7.old c8 (fun x hx=>.inl (by rw[one_in hx];omega))
 have K8:=K7.old c8 (fun x hx=>.inl (by rw[one_in hx];omega))
 have c08:=stepC c07 c8
 have B28:=B27.chg c8 (by intro hin;have:=one_in hin;omega)
 refine Ai rfl (fun z hz=>?_)
 have hz:=add_in (a:=(k:Int)) (b:=1) hz (by omega) (by omega)
 have hz:z=((k+1:Nat):Int):=by omega
 subst hz
 refine call_ret (hx (left4-1) (by have:=A4.le;omega) R8) ?_
 rintro _ h9 ⟨⟨k9,s9,x9,n9,u9,ns9,v9,l9⟩,left9,rfl,m9,hl9,_,R9,c9⟩
 have z9:=c9.size
 have T9:=T8.old c9 (fun x hx=>.inl (by rw[one_in hx];omega))
 have K9:=K8.old c9 (fun x hx=>.inl (by rw[one_in hx];omega))
 have c09:=stepC c08 c9
 have B29:=B28.chg c9 (by intro hin;have:=one_in hin;omega)
 have hoa':∀x∈ablk oa',h1.size≤x∧x<h7.size:=fun x hx=>T7.fr x hx
 have hd:∀x∈ablk oa',x∉ablk la:=fun x hx hin=>by
  rcases f7 x hx with h|h
  ·exact A4.d1 x h hin
  ·have:=(hla x hin).2;omega
 have hd2:∀t∈L,∀x∈t.blks,x∉ablk oa':=fun t ht x hx hin=>by
  rcases f7 x hin with h|h
  ·exact A4.d2 t ht x hx h
  ·have:=(hLt t ht x hx).2;omega
 intro b10 h10 g10
 refine Kids.add2 K9 (m9.lo (by omega)) (fun q hq hin=>by have:=(m9.fr q hq).1;have:=(hla q hin).2;omega) (by omega) g10 (by omega) ?_
 intro la' lc' h11 K11 c11 f11
 have T11:=T9.apart c11 (fun q hq hin=>hd q hq hin)
 have R11:=R9.other c11 (fun x hx=>by have:=(hla x hx).1;omega)
 refine Ai rfl (Ei (left9,(ops++[_],oa',oc'),(L++[_],la',lc')) (Ai ⟨rfl,rfl,rfl,rfl,rfl,trivial⟩ (Ai ⟨by have:=A4.le;simp only;omega,fun h=>by have:=A4.st h;simp only;omega,R11,T11,K11,by simp only[List.length_append,List.length_cons,List.length_nil];omega,by simp only[List.length_append,List.length_cons,List.length_nil];omega,
  Chg.also c09 c11 (fun x hx=>.inr (by have:=(hla x hx).1;omega)),by have:=c11.size;omega,B29.chg c11 (by intro hin;have:=(hla _ hin).1;omega),fun q hq hin=>?_,fun t ht q hq hin=>?_,A4.hb,ho2,ho1⟩ (by simp only;omega))))
 ·rcases f11 q hin with h|h
  ·exact hd q hq h
  ·have:=(hoa' q hq).2;omega
 ·rcases List.mem_append.1 ht with ht|ht
  ·exact hd2 t ht q hq hin
  ·have ht:=List.mem_singleton.1 ht
   subst ht
   have:=(m9.fr q hq).1
   have:=(hoa' q hin).2
   omega
structure Bn (C:Ct) (l:Nat):Prop where
 be:NodeC C 188 [] true l
 un:NodeC C 241 [] true l
 ex:∀k:Nat,k≤6→NodeC C 185 [.int .i64 (k:Int)] true l
 br:l<C.ws.length→∀w,NodeC C 244 [.string w] false l
 ca:l<C.ws.length→∀w,NodeC C 337 [.string w] false l
 it:NodeC C 434 [] false l
 ta:l<C.ws.length→NodeC C 338 [] false l
 st:NodeC C 134 [] true l
 bl:NodeC C 84 [] false l
 op:l<C.ws.length→NodeC C 240 [] false l
 en:l<C.ws.length→NodeC C 183 [] false l
 lo:l<C.ws.length→NodeC C 182 [] false l
 ch:l<C.ws.length→NodeC C 184 [] false l
 fo:l<C.ws.length→NodeC C 187 [] false l
theorem bn_all (C:Ct) (l:Nat):Bn C l:=by
 induction l using Nat.strongRecOn with
 |_ l H=>
 have be:NodeC C 188 [] true l:=fun{h} R=>behind_calls R (fun{h} R=>operand_calls R (fun m hm w=>(H m hm).ca (by have:=R.le;omega) w) (fun m hm w=>(H m hm).br (by have:=R.le;omega) w) (fun m hm=>(H m hm).ta (by have:=R.le;omega))) (fun m hm w=>(H m hm).br (by have:=R.le;omega) w)
 have be':∀m,m≤l→NodeC C 188 [] true m:=fun m hm=>by
  rcases Nat.lt_or_eq_of_le hm with h|h
  ·exact(H m h).be
  ·rw[h];exact be
 have un:NodeC C 241 [] true l:=fun{h} R=>unary_calls R be'
 have ex:∀j:Nat,j≤6→NodeC C 185 [.int .i64 ((6-j:Nat):Int)] true l:=by
  intro j
  induction j with
  |zero=>exact fun _ {h} R=>expr6_calls R un
  |succ j ih=>
   intro hj
   have e:(6-(j+1))+1=6-j:=by omega
   refine fun{h} R=>expr_calls R (6-(j+1)) (by omega) fun m hm=>?_
   rw[e]
   rcases Nat.lt_or_eq_of_le hm with h|h
   ·exact(H m h).ex (6-j) (by omega)
   ·rw[h];exact ih (by omega)
 have ex:∀k:Nat,k≤6→NodeC C 185 [.int .i64 (k:Int)] true l:=fun k hk=>by
  have e:6-(6-k)=k:=by omega
  have hh:NodeC C 185 [.int .i64 ((6-(6-k):Nat):Int)] true l:=ex (6-k) (by omega)
  rw[e]at hh;exact fun{h} R=>hh R
 have ex0:∀m,m≤l→NodeC C 185 [.int .i64 0] true m:=fun m hm=>by
  rcases Nat.lt_or_eq_of_le hm with h|h
  ·exact(H m h).ex 0 (by omega)
  ·rw[h];exact ex 0 (by omega)
 have br:l<C.ws.length→∀w,NodeC C 244 [.string w] false l:=fun hp w {h} R=>bracketed_calls R hp ex0 w
 have ca:l<C.ws.length→∀w,NodeC C 337 [.string w] false l:=fun hp w {h} R=>rcall_calls R hp ex0 w
 have it:NodeC C 434 [] false l:=fun{h} R=>item_calls R ex0 (fun m hm w=>(H m hm).br (by have:=R.le;omega) w)
 have it':∀m,m≤l→NodeC C 434 [] false m:=fun m hm=>by
  rcases Nat.lt_or_eq_of_le hm with h|h
  ·exact(H m h).it
  ·rw[h];exact it
 have ta:l<C.ws.length→NodeC C 338 [] false l:=fun hp {h} R=>table_calls R hp it'
 have st:NodeC C 134 [] true l:=fun{h} R=>statement_calls R (fun m hm=>(H m hm).lo (by have:=R.le;omega)) (fun m hm=>(H m hm).en (by have:=R.le;omega)) (fun m hm=>(H m hm).ch (by have:=R.le;omega)) (fun m hm=>(H m hm).fo (by have:=R.le;omega)) be ex0
 have st':∀m,m≤l→NodeC C 134 [] true m:=fun m hm=>by
  rcases Nat.lt_or_eq_of_le hm with h|h
  ·exact(H m h).st
  ·rw[h];exact st
 have bl:NodeC C 84 [] false l:=fun{h} R=>block_calls R st'
 have bl':∀m,m≤l→NodeC C 84 [] false m:=fun m hm=>by
  rcases Nat.lt_or_eq_of_le hm with h|h
  ·exact(H m h).bl
  ·rw[h];exact bl
 have op:l<C.ws.length→NodeC C 240 [] false l:=fun hp {h} R=>opened_calls R hp bl'
 have op':l<C.ws.length→∀m,m≤l→NodeC C 240 [] false m:=fun hp m hm=>by
  rcases Nat.lt_or_eq_of_le hm with h|h
  ·exact(H m h).op (by omega)
  ·rw[h];exact op hp
 have en:l<C.ws.length→NodeC C 183 [] false l:=fun hp {h} R=>ended_calls R (op hp)
 have en':l<C.ws.length→∀m,m≤l→NodeC C 183 [] false m:=fun hp m hm=>by
  rcases Nat.lt_or_eq_of_le hm with h|h
  ·exact(H m h).en (by omega)
  ·rw[h];exact en hp
 exact⟨be,un,ex,br,ca,it,ta,st,bl,op,en,fun hp {h} R=>local_calls R (en' hp) ex0,fun hp {h} R=>choice_calls R ex0 (op' hp),fun hp {h} R=>loop_calls R ex0 (en' hp)⟩
theorem ix_at {s:ByteArray} {q:Nat} (hq:q<s.size):s[((q:Nat):Int).toNat]? =some s[q]:=by
 rw[Int.toNat_natCast]
 exact getElem?_pos s q hq
def isStrV:Value→Bool
 |.string _=>true
 |_=>false
theorem str_get {l:List Value} (h:l.all isStrV=true) {q:Nat} (hq:q<l.length):∃s,l[q]? =some (.string s):=by
 have h1:=List.all_eq_true.1 h _ (List.getElem_mem hq)
 rw[List.getElem?_eq_getElem hq]
 generalize l[q]=v at h1
 cases v<;>first|exact⟨_,rfl⟩|simp[isStrV]at h1
theorem blk_str {h:Heap} {b n:Nat} {l:List Value} (B:Blk h b l) (ha:l.all isStrV=true) (hn:l.length=n) {q:Nat} (hq:q<n):∃s,Sx.cell h b q=some (.string s):=by
 obtain⟨w,hw⟩:=str_get ha (q:=q) (by omega)
 exact⟨w,cell_blk B hw⟩
def BoolQ (h:Heap) (r:Value) (h':Heap):Prop:=(∃t,r=.bool t)∧Chg [] h h'
def Bool0 (h:Heap) (r:Value) (h':Heap):Prop:=(∃t,r=.bool t)∧h=h'
theorem digit_calls {h:Heap} (c:Int):CallsH Tryz.prog 175 [.int .u8 c] h (Ret (Bool0 h)):=by
 refine f175_calls (by simp) ?_
 repeat' (first|exact Ai (Ei _ rfl) rfl|refine Ai rfl (Ai (fun _=>?_) (fun _=>?_)))
theorem letter_calls {h:Heap} (c:Int):CallsH Tryz.prog 174 [.int .u8 c] h (Ret (Bool0 h)):=by
 refine f174_calls (by simp) ?_
 repeat' (first|exact Ai (Ei _ rfl) rfl|refine Ai rfl (Ai (fun _=>?_) (fun _=>?_)))
set_option maxRecDepth 100000 in
theorem key_calls {h:Heap} (s:ByteArray):CallsH Tryz.prog 177 [.string s] h (Ret (BoolQ h)):=by
 refine f177_calls (by simp) ?_
 intro b h1 g
 have B:=g.blk
 refine loop_intro (fun q:Nat=>[(0,.string s),(3,.slice (some ⟨b,0,none⟩) 19 19),(4,.int .i64 q)]) (fun q h'=>q≤19∧h1=h') (fun q=>19-q) 0 ⟨rfl,rfl,rfl,trivial⟩ ⟨Nat.zero_le _,rfl⟩ ?_
 rintro q _ ⟨hq,rfl⟩
 refine Ai rfl (Ai (fun hlt=>?_) (fun hge=>?_))
 ·have hlt:q<19:=by omega
  obtain⟨w,hc⟩:=blk_str B rfl rfl hlt
  refine Ai (by omega) (Ai (by omega) (Ei _ (Ai (by simpa using hc) ?_)))
  refine Ai (fun _=>?_) (fun _=>?_)
  ·exact Ai (Ei true rfl) g.chg
  ·refine Ai rfl (fun z hz=>?_)
   have hz:=add_in hz (by omega) (by omega)
   have hz:z=((q+1:Nat):Int):=by omega
   subst hz
   exact Ai rfl (Ei (q+1) (Ai ⟨rfl,rfl,rfl,trivial⟩ (Ai ⟨by omega,rfl⟩ (by omega))))
 ·exact Ai (Ei false rfl) g.chg
abbrev Bs:=List UInt8
def encY (b:UInt8):List Value:=[.int .u8 b.toNat]
theorem encY_len (b:UInt8):(encY b).length=1:=rfl
theorem flat_map (l:Bs):l.flatMap encY=l.map fun b=>Value.int .u8 b.toNat:=by
 induction l with
 |nil=>rfl
 |cons b l ih=>simp only[List.flatMap_cons,List.map_cons,ih];rfl
theorem len_Y (l:Bs):(l.flatMap encY).length=l.length:=by rw[flatMap_len encY_len];omega
theorem blkW_of {h:Heap} {b:Nat} {l:List Value} (hb:Blk h b l):BlkW h b l:=let⟨e,x⟩:=hb;⟨e,(0,0),x,.inl rfl⟩
theorem putW_chg {h h':Heap} {b:Nat} {l:List Value} (g:PutW h h' b l):Chg [b] h h':=⟨by rw[g.size];exact Nat.le_refl _,fun k _ hn=>g.old k (by simpa using hn)⟩
theorem blkW_chg {S:List Nat} {h h':Heap} {b:Nat} {l:List Value} (hb:BlkW h b l) (hc:Chg S h h') (hn:b∉S):BlkW h' b l:=let⟨e,k,x,z⟩:=hb;⟨e,k,get_chg x hc hn,z⟩
theorem cell_W {h:Heap} {b o:Nat} {l:List Value} {v:Value} (hb:BlkW h b l) (hv:l[o]? =some v):cell h b o=some v:=by
 obtain⟨e,k,x,_⟩:=hb
 unfold Sx.cell
 rw[x]
 simpa using hv
theorem u8_wrap (n:Int):∃b:UInt8,IntKind.u8.wrap n=(b.toNat:Int):=by
 have h:IntKind.u8.wrap n=n%256:=rfl
 have h1:0≤n%256:=Int.emod_nonneg _ (by decide)
 have h2:n%256<256:=Int.emod_lt_of_pos _ (by decide)
 refine⟨UInt8.ofNat (n%256).toNat,?_⟩
 rw[h,UInt8.toNat_ofNat']
 omega
structure BV (lo:Nat) (h:Heap) (a:Option Addr) (c:Nat) (l:Bs):Prop where
 rep:(a=none∧c=0∧l=[])∨∃b rest,a=some ⟨b,0,none⟩∧BlkW h b (l.flatMap encY++rest)∧(l.flatMap encY++rest).length=c
 fr:∀q∈ablk a,lo≤q∧q<h.size
theorem BV.nil {lo:Nat} {h:Heap}:BV lo h none 0 []:=⟨.inl ⟨rfl,rfl,rfl⟩,by simp[ablk]⟩
theorem BV.ext {lo:Nat} {h h':Heap} {a:Option Addr} {c:Nat} {l:Bs} (V:BV lo h a c l) (hc:Chg [] h h'):BV lo h' a c l:=by
 refine⟨?_,fun q hq=>⟨(V.fr q hq).1,Nat.lt_of_lt_of_le (V.fr q hq).2 hc.size⟩⟩
 rcases V.rep with h|⟨b,rest,h1,h2,h3⟩
 ·exact .inl h
 ·exact .inr ⟨b,rest,h1,blkW_chg h2 hc (by simp),h3⟩
theorem BV.src {lo:Nat} {h:Heap} {a:Option Addr} {c:Nat} {l:Bs} (V:BV lo h a c l):Src0 h a l.length (l.map fun b=>Value.int .u8 b.toNat):=by
 rcases V.rep with⟨rfl,_,rfl⟩|⟨b,rest,rfl,h2,_⟩
 ·rfl
 ·intro i v hv
  rw[Nat.zero_add]
  refine cell_W h2 ?_
  rw[flat_map,List.getElem?_append_left (List.getElem?_eq_some_iff.1 hv).1]
  exact hv
theorem src_of0 {h:Heap} {a:Option Addr} {n:Nat} {l:List Value} (hs:Src0 h a n l):Src h a n l:=by
 unfold Src0 at hs
 unfold Src
 split at hs<;>simp_all
theorem BV.add {lo:Nat} {h h1:Heap} {e:TypeId} {a:Option Addr} {c:Nat} {l:Bs} {x:UInt8} {b:Nat} (V:BV lo h a c l) (hl:lo≤h.size) (g:Grow h h1 b [.int .u8 x.toNat]) (hL:l.length≤100000)
  {K:Value→Heap→Prop} (hK:∀a' c' h2,BV lo h2 a' c' (l++[x])→Chg (ablk a) h h2→K (.slice a' (l++[x]).length c') h2):appbP h1 K e a l.length c (.slice (some ⟨b,0,none⟩) 1 1) 1:=by
 have V1:=V.ext g.chg
 have gi:=g.id
 have gs:=g.size
 have hly:=len_Y l
 have e1:l.length+1=(l++[x]).length:=by simp
 refine⟨l.flatMap encY,[.int .u8 x.toNat],hly,rfl,src_of0 (by rw[flat_map];exact V1.src),⟨rfl,fun i v hv=>cell_blk (o:=0+i) g.blk (by rw[Nat.zero_add];exact hv)⟩,?_,fun hroom=>?_,fun hfull=>⟨by omega,fun c' b' h2 hc' hg _=>?_⟩⟩
 ·intro u hu
  have hu:=List.mem_singleton.1 hu
  subst hu;rfl
 ·rcases V1.rep with⟨rfl,rfl,rfl⟩|⟨b0,rest,rfl,h2,h3⟩
  ·simp at hroom
  ·rw[List.length_append]at h3
   refine⟨_,h2,by rw[List.length_append];omega,fun h' p=>?_⟩
   have hs:splice (l.flatMap encY++rest) (0+l.length) [.int .u8 x.toNat]=(l++[x]).flatMap encY++rest.drop 1:=by
    rw[Nat.zero_add,←hly,splice_mid _ _ _ (by simp;omega),List.flatMap_append,List.append_assoc];rfl
   rw[hs]at p
   rw[e1]
   have hp:=putW_chg p
   refine hK _ _ _ ⟨.inr ⟨b0,_,rfl,p.blk,?_⟩,fun q hq=>⟨(V.fr q hq).1,by have:=(V.fr q hq).2;have:=hp.size;omega⟩⟩ (g.chg.trans hp (fun _ hx=>by simp at hx) (fun _ hx _=>hx))
   have:((l++[x]).flatMap encY).length=l.length+1:=by rw[len_Y];simp
   rw[List.length_append,this,List.length_drop];omega
 ·have i':=hg.id
  have s':=hg.size
  rw[e1]
  refine hK _ _ _ ⟨.inr ⟨b',List.replicate (c'-(l.length+1)) (.int .u8 0),rfl,by rw[List.flatMap_append];exact blkW_of hg.blk,?_⟩,fun q hq=>by simp[ablk]at hq;omega⟩ ((g.chg.nil hg.chg).mono (by simp))
  have:((l++[x]).flatMap encY).length=l.length+1:=by rw[len_Y];simp
  rw[List.length_append,this,List.length_replicate];omega
set_option maxRecDepth 100000 in
theorem number_calls {h:Heap} (s:ByteArray) (hs:s.size≤100000):CallsH Tryz.prog 176 [.string s] h (Ret fun r h'=>(∃(z:Int) (t:Bool),r=.tuple ⟨[.int .i64 z,.bool t]⟩)∧h=h'):=by
 refine f176_calls (by simp) ?_
 refine loop_intro (fun i:Nat×Int=>[(0,.string s),(4,.int .i64 i.2),(5,.int .i64 (i.1:Int))]) (fun i h'=>i.1≤s.size∧h=h') (fun i=>s.size-i.1) (0,0) ⟨rfl,rfl,rfl,trivial⟩ ⟨Nat.zero_le _,rfl⟩ ?_
 rintro⟨q,n⟩ _ ⟨hq,rfl⟩
 simp only at hq
 refine Ai rfl (Ai (fun hlt=>?_) (fun hge=>?_))
 ·have hlt:q<s.size:=by simp only at hlt;omega
  refine Ei _ (Ai (by simp only;omega) (Ai (ix_at hlt) ?_))
  refine Ai rfl (fun z1 _ z2 _=>?_)
  refine Ai rfl (fun z3 _=>?_)
  refine Ai rfl (Ai (by decide) (fun z4 _=>?_))
  refine Ai rfl (Ai (fun _=>?_) (fun _=>?_))
  ·exact Ai (Ei _ (Ei _ rfl)) rfl
  refine Ai rfl (fun z5 _=>?_)
  refine Ai rfl (fun z6 _=>?_)
  refine Ai rfl (fun z hz=>?_)
  have hz:=add_in (a:=(q:Int)) (b:=1) hz (by omega) (by omega)
  have hz:z=((q+1:Nat):Int):=by omega
  subst hz
  exact Ai rfl (Ei (q+1,z6) (Ai ⟨rfl,rfl,rfl,trivial⟩ (Ai ⟨by simp only;omega,rfl⟩ (by simp only;omega))))
 ·exact Ai (Ei _ (Ei _ rfl)) rfl
theorem empty_of {s:ByteArray} (h:¬s=⟨#[]⟩):0<s.size:=by
 rcases Nat.eq_zero_or_pos s.size with h0|h0
 ·exfalso
  apply h
  obtain⟨⟨l⟩⟩:=s
  have:l.length=0:=h0
  have:l=[]:=by simpa using this
  subst this;rfl
 ·exact h0
set_option maxRecDepth 100000 in
theorem lname_calls {h:Heap} (s:ByteArray) (hs:s.size≤100000):CallsH Tryz.prog 178 [.string s] h (Ret (BoolQ h)):=by
 have no:∀{h':Heap},Chg [] h h'→BoolQ h (.bool false) h':=fun c=>⟨⟨_,rfl⟩,c⟩
 refine f178_calls (by simp) ?_
 refine Ai (fun _=>?_) (fun hne=>?_)
 ·exact no (Chg.refl h)
 have hpos:=empty_of hne
 refine Ai rfl (Ai (fun _=>?_) (fun _=>?_))
 ·exact no (Chg.refl h)
 refine Ei _ (Ai (by decide) (Ai (ix_at hpos) ?_))
 refine call_ret (digit_calls _) ?_
 rintro _ _ ⟨⟨t,rfl⟩,rfl⟩
 cases t with
 |true=>exact no (Chg.refl h)
 |false=>
 refine call_ret (key_calls s) ?_
 rintro _ h1 ⟨⟨t,rfl⟩,c1⟩
 cases t with
 |true=>exact no c1
 |false=>
 refine loop_intro (fun q:Nat=>[(0,.string s),(3,.int .i64 (q:Int))]) (fun q h'=>q≤s.size∧h1=h') (fun q=>s.size-q) 0 ⟨rfl,rfl,trivial⟩ ⟨Nat.zero_le _,rfl⟩ ?_
 rintro q _ ⟨hq,rfl⟩
 refine Ai rfl (Ai (fun hlt=>?_) (fun hge=>?_))
 case refine_2=>exact Ai (Ei true rfl) c1
 have hlt:q<s.size:=by omega
 have next:∀{z:Int},z=arith .add .i64 (q:Int) 1→z=((q+1:Nat):Int):=fun hz=>by
  have hz:=add_in hz (by omega) (by omega);omega
 refine Ei _ (Ai (by omega) (Ai (ix_at hlt) ?_))
 refine call_ret (letter_calls _) ?_
 rintro _ _ ⟨⟨t,rfl⟩,rfl⟩
 cases t with
 |true=>
  refine Ai rfl (fun z hz=>?_)
  have hz:=next hz
  subst hz
  exact Ai rfl (Ei (q+1) (Ai ⟨rfl,rfl,trivial⟩ (Ai ⟨by omega,rfl⟩ (by omega))))
 |false=>
  refine Ei _ (Ai (by omega) (Ai (ix_at hlt) ?_))
  refine call_ret (digit_calls _) ?_
  rintro _ _ ⟨⟨t,rfl⟩,rfl⟩
  cases t with
  |true=>
   refine Ai rfl (fun z hz=>?_)
   have hz:=next hz
   subst hz
   exact Ai rfl (Ei (q+1) (Ai ⟨rfl,rfl,trivial⟩ (Ai ⟨by omega,rfl⟩ (by omega))))
  |false=>exact no c1
def BlankQ (s:ByteArray) (at0:Nat) (h:Heap) (r:Value) (h':Heap):Prop:=(∃q:Nat,r=.int .i64 (q:Int)∧at0≤q∧q≤s.size)∧h=h'
set_option maxRecDepth 100000 in
theorem blank_calls {h:Heap} (s:ByteArray) (hs:s.size≤100000) (at0:Nat) (h0:at0≤s.size):CallsH Tryz.prog 131 [.string s,.int .i64 (at0:Int)] h (Ret (BlankQ s at0 h)):=by
 refine f131_calls (by simp) ?_
 refine loop_intro (fun q:Nat=>[(0,.string s),(1,.int .i64 (q:Int))]) (fun q h'=>at0≤q∧q≤s.size∧h=h') (fun q=>s.size-q) at0 ⟨rfl,rfl,trivial⟩ ⟨Nat.le_refl _,h0,rfl⟩ ?_
 rintro q _ ⟨hq0,hq,rfl⟩
 refine Ai rfl (Ai (fun hlt=>?_) (fun hge=>?_))
 case refine_2=>exact Ai (Ei q (Ai rfl ⟨hq0,hq⟩)) rfl
 have hlt:q<s.size:=by omega
 have next:∀{z:Int},z=arith .add .i64 (q:Int) 1→z=((q+1:Nat):Int):=fun hz=>by
  have hz:=add_in hz (by omega) (by omega);omega
 refine Ei _ (Ai (by omega) (Ai (ix_at hlt) ?_))
 refine Ai rfl (Ai (fun _=>?_) (fun _=>?_))
 ·refine Ai rfl (fun z hz=>?_)
  have hz:=next hz
  subst hz
  exact Ai rfl (Ei (q+1) (Ai ⟨rfl,rfl,trivial⟩ (Ai ⟨by omega,by omega,rfl⟩ (by omega))))
 refine Ei _ (Ai (by omega) (Ai (ix_at hlt) ?_))
 refine Ai rfl (Ai (fun _=>?_) (fun _=>?_))
 ·refine Ai rfl (fun z hz=>?_)
  have hz:=next hz
  subst hz
  exact Ai rfl (Ei (q+1) (Ai ⟨rfl,rfl,trivial⟩ (Ai ⟨by omega,by omega,rfl⟩ (by omega))))
 refine Ei _ (Ai (by omega) (Ai (ix_at hlt) ?_))
 refine Ai rfl (Ai (fun _=>?_) (fun _=>?_))
 ·refine Ai rfl (fun z hz=>?_)
  have hz:=next hz
  subst hz
  exact Ai rfl (Ei (q+1) (Ai ⟨rfl,rfl,trivial⟩ (Ai ⟨by omega,by omega,rfl⟩ (by omega))))
 refine Ei _ (Ai (by omega) (Ai (ix_at hlt) ?_))
 refine Ai rfl (Ai (fun _=>?_) (fun _=>?_))
 ·refine Ai rfl (fun z hz=>?_)
  have hz:=next hz
  subst hz
  exact Ai rfl (Ei (q+1) (Ai ⟨rfl,rfl,trivial⟩ (Ai ⟨by omega,by omega,rfl⟩ (by omega))))
 -- a comment?
 refine Ei _ (Ai (by omega) (Ai (ix_at hlt) ?_))
 refine Ai rfl (Ai (fun _=>?_) (fun h45=>?_))
 ·exact Ai (Ei q (Ai rfl ⟨hq0,hq⟩)) rfl
 refine Ai rfl (fun z hz=>?_)
 have hz:=next hz
 subst hz
 refine Ai rfl (Ai (fun _=>?_) (fun hlt1=>?_))
 ·exact Ai (Ei q (Ai rfl ⟨hq0,hq⟩)) rfl
 have hlt1:q+1<s.size:=by omega
 refine Ai rfl (fun z hz=>?_)
 have hz:=next hz
 subst hz
 refine Ei _ (Ai (by omega) (Ai (ix_at hlt1) ?_))
 refine Ai rfl (Ai (fun _=>?_) (fun _=>?_))
 ·exact Ai (Ei q (Ai rfl ⟨hq0,hq⟩)) rfl
 refine loop_intro (fun p:Nat=>[(0,.string s),(1,.int .i64 (p:Int))]) (fun p h'=>q≤p∧p≤s.size∧h=h') (fun p=>s.size-p) q ⟨rfl,rfl,trivial⟩ ⟨Nat.le_refl _,hq,rfl⟩ ?_
 rintro p _ ⟨hp0,hp,rfl⟩
 refine Ai rfl (Ai (fun hplt=>?_) (fun hpge=>?_))
 ·have hplt:p<s.size:=by omega
  refine Ei _ (Ai (by omega) (Ai (ix_at hplt) ?_))
  refine Ai rfl (Ai (fun _=>?_) (fun h10=>?_))
  ·refine Ai rfl (fun z hz=>?_)
   have hz:=add_in hz (by omega) (by omega)
   have hz:z=((p+1:Nat):Int):=by omega
   subst hz
   exact Ai rfl (Ei (p+1) (Ai ⟨rfl,rfl,trivial⟩ (Ai ⟨by omega,by omega,rfl⟩ (by omega))))
  ·have hne:p≠q:=fun e=>by
    subst e
    have e1:=Classical.not_not.1 h45
    have e2:=Classical.not_not.1 h10
    omega
   exact Ai rfl (Ei p (Ai ⟨rfl,rfl,trivial⟩ (Ai ⟨by omega,hp,rfl⟩ (by omega))))
 ·exact Ai rfl (Ei p (Ai ⟨rfl,rfl,trivial⟩ (Ai ⟨by omega,hp,rfl⟩ (by omega))))
def isSgn:Value→Bool
 |.string s=>Nat.blt 0 s.size&&Nat.blt s.size 100
 |_=>false
theorem blk_sgn {h:Heap} {b n:Nat} {l:List Value} (B:Blk h b l) (ha:l.all isSgn=true) (hn:l.length=n) {q:Nat} (hq:q<n):∃s:ByteArray,Sx.cell h b q=some (.string s)∧0<s.size∧s.size<100:=by
 have h1:=List.all_eq_true.1 ha _ (List.getElem_mem (by omega:q<l.length))
 have h2:l[q]? =some l[q]:=List.getElem?_eq_getElem (by omega)
 generalize l[q]=v at h1 h2
 cases v with
 |string s=>exact⟨s,cell_blk B h2,by simpa[isSgn]using h1⟩
 |_=>simp[isSgn]at h1
set_option maxRecDepth 100000 in
theorem signs_calls {h:Heap}:CallsH Tryz.prog 180 [] h (Ret fun r h'=>(∃b l,r=.slice (some ⟨b,0,none⟩) 24 24∧Blk h' b l∧l.all isSgn=true∧l.length=24)∧Chg [] h h'):=by
 refine f180_calls (by simp) ?_
 intro b h1 g
 exact Ai (Ei b (Ei _ (Ai rfl ⟨g.blk,rfl,rfl⟩))) g.chg
theorem appb_go {P:Program} {Qp:List PanicEntry→Heap→Prop} {K:Env→Heap→Prop} {e:TypeId} {x y:Operand} {d:Option Nat} {l:List SOper} {σ:Env} {h:Heap} {a:Option Addr} {n c m:Nat} {v:Value} (hx:ev σ x=some (.slice a n c)) (hy:ev σ y=some v) (hm:lenB v=some m)
  (hs:appbP h (fun u h'=>sops P Qp K l (upd σ d u) h') e a n c v m):sops P Qp K (⟨d,none,.appb e x y⟩::l) σ h:=by
 simp only[sops,sopr,sop,hx,hy,hm]
 exact hs
def TextQ (s:ByteArray) (at0:Nat) (h:Heap) (r:Value) (h':Heap):Prop:=(∃(w:ByteArray) (z:Nat),r=.tuple ⟨[.string w,.int .i64 (z:Int)]⟩∧(z=0∨at0<z∧z≤s.size))∧Chg [] h h'
set_option maxHeartbeats 4000000 in
set_option maxRecDepth 100000 in
theorem text_calls {h:Heap} (s:ByteArray) (hs:s.size≤100000) (at0:Nat) (h0:at0<s.size):CallsH Tryz.prog 179 [.string s,.int .i64 (at0:Int)] h (Ret (TextQ s at0 h)):=by
 have no:∀{h':Heap},Chg [] h h'→TextQ s at0 h (.tuple ⟨[.string ⟨#[]⟩,.int .i64 0]⟩) h':=fun c=>⟨⟨⟨#[]⟩,0,rfl,.inl rfl⟩,c⟩
 refine f179_calls (by simp) ?_
 refine Ai rfl (fun z hz=>?_)
 have hz:=add_in (a:=(at0:Int)) (b:=1) hz (by omega) (by omega)
 have hz:z=((at0+1:Nat):Int):=by omega
 subst hz
 refine loop_intro (fun i:Nat×Bs×Option Addr×Nat=>[(0,.string s),(1,.int .i64 (at0:Int)),(6,.slice i.2.2.1 i.2.1.length i.2.2.2),(7,.int .i64 (i.1:Int))])
  (fun i h'=>at0<i.1∧i.1≤s.size∧BV h.size h' i.2.2.1 i.2.2.2 i.2.1∧i.2.1.length≤i.1∧Chg [] h h') (fun i=>s.size-i.1) (at0+1,[],none,0) ⟨rfl,rfl,rfl,rfl,trivial⟩
  ⟨by simp,by simp only;omega,BV.nil,by simp,Chg.refl h⟩ ?_
 rintro⟨i,out,va,vc⟩ h1 ⟨hi0,hi,V1,hl,c1⟩
 simp only at hi0 hi V1 hl
 refine Ai rfl (Ai (fun hlt=>?_) (fun hge=>?_))
 case refine_2=>exact no c1
 have hlt:i<s.size:=by simp only at hlt;omega
 have z1:=c1.size
 -- one more byte
 have more:∀{h2 h3:Heap} {e:TypeId} {b:Nat} {x:UInt8} {K:Value→Heap→Prop},h1=h2→Grow h2 h3 b [.int .u8 x.toNat]→(∀a' c' h4,BV h.size h4 a' c' (out++[x])→Chg [] h h4→K (.slice a' (out++[x]).length c') h4)→appbP h3 K e va out.length vc (.slice (some ⟨b,0,none⟩) 1 1) 1:=by
  rintro _ h3 e b x K rfl g hK
  refine V1.add z1 g (by omega) ?_
  intro a' c' h4 V4 c4
  exact hK a' c' h4 V4 (c1.fresh c4 (fun q hq=>(V1.fr q hq).1))
 refine Ei _ (Ai (by simp only;omega) (Ai (ix_at hlt) ?_))
 refine Ei _ (Ai (by omega) (Ai (ix_at h0) ?_))
 refine Ai rfl (Ai (fun _=>?_) (fun _=>?_))
 ·refine Ei out (Ai rfl (Ai V1.src ?_))
  refine Ai rfl (fun z hz=>?_)
  have hz:=add_in (a:=(i:Int)) (b:=1) hz (by omega) (by omega)
  have hz:z=((i+1:Nat):Int):=by omega
  subst hz
  exact Ai (Ei _ (Ei (i+1) (Ai rfl (.inr ⟨by omega,by omega⟩)))) c1
 refine Ai rfl (Ai (fun _=>?_) (fun _=>?_))
 ·exact no c1
 refine Ai rfl (Ai (fun _=>?_) (fun _=>?_))
 ·intro b h2 g
  refine appb_go rfl rfl rfl ?_
  refine more rfl g ?_
  intro a' c' h4 V4 c4
  refine Ai rfl (fun z hz=>?_)
  have hz:=add_in (a:=(i:Int)) (b:=1) hz (by omega) (by omega)
  have hz:z=((i+1:Nat):Int):=by omega
  subst hz
  exact Ai rfl (Ei (i+1,_,a',c') (Ai ⟨rfl,rfl,rfl,rfl,trivial⟩ (Ai ⟨by simp only;omega,by simp only;omega,V4,by simp only[List.length_append,List.length_cons,List.length_nil];omega,c4⟩ (by simp only;omega))))
 refine Ai rfl (fun z hz=>?_)
 have hz:=add_in (a:=(i:Int)) (b:=1) hz (by omega) (by omega)
 have hz:z=((i+1:Nat):Int):=by omega
 subst hz
 refine Ai rfl (Ai (fun _=>?_) (fun hlt1=>?_))
 ·exact no c1
 have hlt1:i+1<s.size:=by omega
 refine Ei _ (Ai (by omega) (Ai (ix_at hlt1) ?_))
 -- the round's end
 have again:∀{x:UInt8} {a':Option Addr} {c':Nat} {h4:Heap},BV h.size h4 a' c' (out++[x])→Chg [] h h4→(at0<i+2∧i+2≤s.size∧BV h.size h4 a' c' (out++[x])∧(out++[x]).length≤i+2∧Chg [] h h4):=fun V4 c4=>⟨by omega,by omega,V4,by simp only[List.length_append,List.length_cons,List.length_nil];omega,c4⟩
 refine Ai rfl (Ai (fun _=>?_) (fun _=>?_))
 ·intro b h2 g
  refine appb_go rfl rfl rfl ?_
  refine more (x:=10) rfl g ?_
  intro a' c' h4 V4 c4
  refine Ai rfl (fun z hz=>?_)
  have hz:=add_in (a:=((i+1:Nat):Int)) (b:=1) hz (by omega) (by omega)
  have hz:z=((i+2:Nat):Int):=by omega
  subst hz
  exact Ai rfl (Ei (i+2,_,a',c') (Ai ⟨rfl,rfl,rfl,rfl,trivial⟩ (Ai (again V4 c4) (by simp only;omega))))
 refine Ai rfl (Ai (fun _=>?_) (fun _=>?_))
 ·intro b h2 g
  refine appb_go rfl rfl rfl ?_
  refine more (x:=9) rfl g ?_
  intro a' c' h4 V4 c4
  refine Ai rfl (fun z hz=>?_)
  have hz:=add_in (a:=((i+1:Nat):Int)) (b:=1) hz (by omega) (by omega)
  have hz:z=((i+2:Nat):Int):=by omega
  subst hz
  exact Ai rfl (Ei (i+2,_,a',c') (Ai ⟨rfl,rfl,rfl,rfl,trivial⟩ (Ai (again V4 c4) (by simp only;omega))))
 refine Ai rfl (Ai (fun _=>?_) (fun _=>?_))
 ·intro b h2 g
  refine appb_go rfl rfl rfl ?_
  refine more (x:=13) rfl g ?_
  intro a' c' h4 V4 c4
  refine Ai rfl (fun z hz=>?_)
  have hz:=add_in (a:=((i+1:Nat):Int)) (b:=1) hz (by omega) (by omega)
  have hz:z=((i+2:Nat):Int):=by omega
  subst hz
  exact Ai rfl (Ei (i+2,_,a',c') (Ai ⟨rfl,rfl,rfl,rfl,trivial⟩ (Ai (again V4 c4) (by simp only;omega))))
 refine Ai rfl (Ai (fun _=>?_) (fun _=>?_))
 ·refine Ei _ (Ai (by omega) (Ai (ix_at hlt1) ?_))
  intro b h2 g
  refine appb_go rfl rfl rfl ?_
  refine more rfl g ?_
  intro a' c' h4 V4 c4
  refine Ai rfl (fun z hz=>?_)
  have hz:=add_in (a:=((i+1:Nat):Int)) (b:=1) hz (by omega) (by omega)
  have hz:z=((i+2:Nat):Int):=by omega
  subst hz
  exact Ai rfl (Ei (i+2,_,a',c') (Ai ⟨rfl,rfl,rfl,rfl,trivial⟩ (Ai (again V4 c4) (by simp only;omega))))
 refine Ai rfl (Ai (fun _=>?_) (fun _=>?_))
 ·refine Ei _ (Ai (by omega) (Ai (ix_at hlt1) ?_))
  intro b h2 g
  refine appb_go rfl rfl rfl ?_
  refine more rfl g ?_
  intro a' c' h4 V4 c4
  refine Ai rfl (fun z hz=>?_)
  have hz:=add_in (a:=((i+1:Nat):Int)) (b:=1) hz (by omega) (by omega)
  have hz:z=((i+2:Nat):Int):=by omega
  subst hz
  exact Ai rfl (Ei (i+2,_,a',c') (Ai ⟨rfl,rfl,rfl,rfl,trivial⟩ (Ai (again V4 c4) (by simp only;omega))))
 refine Ai rfl (Ai (fun _=>?_) (fun _=>?_))
 ·refine Ei _ (Ai (by omega) (Ai (ix_at hlt1) ?_))
  intro b h2 g
  refine appb_go rfl rfl rfl ?_
  refine more rfl g ?_
  intro a' c' h4 V4 c4
  refine Ai rfl (fun z hz=>?_)
  have hz:=add_in (a:=((i+1:Nat):Int)) (b:=1) hz (by omega) (by omega)
  have hz:z=((i+2:Nat):Int):=by omega
  subst hz
  exact Ai rfl (Ei (i+2,_,a',c') (Ai ⟨rfl,rfl,rfl,rfl,trivial⟩ (Ai (again V4 c4) (by simp only;omega))))
 -- three digits
 refine Ai rfl (fun z hz=>?_)
 have hz:=add_in (a:=((i+1:Nat):Int)) (b:=2) hz (by omega) (by omega)
 have hz:z=((i+3:Nat):Int):=by omega
 subst hz
 refine Ai rfl (Ai (fun _=>?_) (fun hlt3=>?_))
 ·exact no c1
 have hlt3:i+3<s.size:=by omega
 have hlt2:i+2<s.size:=by omega
 refine Ei _ (Ai (by omega) (Ai (ix_at hlt1) ?_))
 refine call_ret (digit_calls _) ?_
 rintro _ _ ⟨⟨t,rfl⟩,rfl⟩
 cases t with
 |false=>exact no c1
 |true=>
 refine Ai rfl (fun z hz=>?_)
 have hz:=add_in (a:=((i+1:Nat):Int)) (b:=1) hz (by omega) (by omega)
 have hz:z=((i+2:Nat):Int):=by omega
 subst hz
 refine Ei _ (Ai (by omega) (Ai (ix_at hlt2) ?_))
 refine call_ret (digit_calls _) ?_
 rintro _ _ ⟨⟨t,rfl⟩,rfl⟩
 cases t with
 |false=>exact no c1
 |true=>
 refine Ai rfl (fun z hz=>?_)
 have hz:=add_in (a:=((i+1:Nat):Int)) (b:=2) hz (by omega) (by omega)
 have hz:z=((i+3:Nat):Int):=by omega
 subst hz
 refine Ei _ (Ai (by omega) (Ai (ix_at hlt3) ?_))
 refine call_ret (digit_calls _) ?_
 rintro _ _ ⟨⟨t,rfl⟩,rfl⟩
 cases t with
 |false=>exact no c1
 |true=>
 refine Ei _ (Ai (by omega) (Ai (ix_at hlt1) ?_))
 refine Ai rfl (fun _ _ _ _=>?_)
 refine Ai rfl (fun _ _=>?_)
 refine Ai rfl (fun z hz=>?_)
 have hz:=add_in (a:=((i+1:Nat):Int)) (b:=1) hz (by omega) (by omega)
 have hz:z=((i+2:Nat):Int):=by omega
 subst hz
 refine Ei _ (Ai (by omega) (Ai (ix_at hlt2) ?_))
 refine Ai rfl (fun _ _ _ _=>?_)
 refine Ai rfl (fun _ _=>?_)
 refine Ai rfl (fun _ _=>?_)
 refine Ai rfl (fun z hz=>?_)
 have hz:=add_in (a:=((i+1:Nat):Int)) (b:=2) hz (by omega) (by omega)
 have hz:z=((i+3:Nat):Int):=by omega
 subst hz
 refine Ei _ (Ai (by omega) (Ai (ix_at hlt3) ?_))
 refine Ai rfl (fun _ _ _ _=>?_)
 refine Ai rfl (fun nn _=>?_)
 refine Ai rfl (Ai (fun _=>?_) (fun _=>?_))
 ·exact no c1
 intro y hy
 obtain⟨x,hx⟩:=u8_wrap nn
 have hy:=hy.trans hx
 subst hy
 intro b h2 g
 refine appb_go rfl rfl rfl ?_
 refine more rfl g ?_
 intro a' c' h4 V4 c4
 refine Ai rfl (fun z hz=>?_)
 have hz:=add_in (a:=((i+1:Nat):Int)) (b:=2) hz (by omega) (by omega)
 have hz:z=((i+3:Nat):Int):=by omega
 subst hz
 refine Ai rfl (fun z hz=>?_)
 have hz:=add_in (a:=((i+3:Nat):Int)) (b:=1) hz (by omega) (by omega)
 have hz:z=((i+4:Nat):Int):=by omega
 subst hz
 exact Ai rfl (Ei (i+4,_,a',c') (Ai ⟨rfl,rfl,rfl,rfl,trivial⟩ (Ai ⟨by simp only;omega,by simp only;omega,V4,by simp only[List.length_append,List.length_cons,List.length_nil];omega,c4⟩ (by simp only;omega))))
def WordQ (s:ByteArray) (at0:Nat) (h:Heap) (r:Value) (h':Heap):Prop:=(∃(w:WD) (z:Nat),r=.tuple ⟨[.agg ⟨encW w⟩,.int .i64 (z:Int)]⟩∧(z=0∨at0<z∧z≤s.size))∧Chg [] h h'
theorem ext_size (s:ByteArray) (a b:Nat):(s.extract a b).size≤s.size:=by
 rw[ByteArray.size_extract];omega
set_option maxHeartbeats 4000000 in
set_option maxRecDepth 100000 in
theorem word_calls {h:Heap} (s:ByteArray) (hs:s.size≤100000) (at0:Nat) (h0:at0<s.size):CallsH Tryz.prog 132 [.string s,.int .i64 (at0:Int)] h (Ret (WordQ s at0 h)):=by
 refine f132_calls (by simp) ?_
 intro b4 h1 g1
 have i4:=g1.id
 have B4:Blk h1 b4 (encW ⟨0,⟨#[]⟩,0,0⟩):=g1.blk
 have fin:∀{h2 h3:Heap} {w:WD} {z:Nat},Chg [] h1 h2→Put h2 h3 b4 (encW w)→(z=0∨at0<z∧z≤s.size)→WordQ s at0 h (.tuple ⟨[.agg ⟨encW w⟩,.int .i64 (z:Int)]⟩) h3:=fun c p hz=>
  ⟨⟨_,_,rfl,hz⟩,(g1.chg.nil c).fresh p.chg (fun q hq=>by rw[one_in hq];omega)⟩
 -- how far letters and digits go
 refine loop_intro (fun q:Nat=>[(0,.string s),(1,.int .i64 (at0:Int)),(4,pt b4),(6,.int .i64 (q:Int))]) (fun q h'=>at0≤q∧q≤s.size∧h1=h') (fun q=>s.size-q) at0 ⟨rfl,rfl,rfl,rfl,trivial⟩ ⟨Nat.le_refl _,by omega,rfl⟩ ?_
 rintro e _ ⟨he0,he,rfl⟩
 have next:∀{z:Int},e<s.size→z=arith .add .i64 (e:Int) 1→z=((e+1:Nat):Int):=fun _ hz=>by
  have hz:=add_in hz (by omega) (by omega);omega
 -- the three leaves that say:none
 have tail:∀{h2:Heap},h1=h2→swp Tryz.prog (.seq (.seq (.ops f132r5) (.cond (.tmp 43) (.seq (.seq (.ops f132r6) (.block 2 (.loop f132l11))) (.seq (.ops f132r12) (.seq (.seq (.ops f132r13) (.cond (.tmp 65) (.seq (.ops f132r14) .ret) .skip)) (.seq (.ops f132r15) .ret)))) .skip))
   (.seq (.seq (.ops f132r16) (.cond (.tmp 73) (.seq (.ops f132r17) (.seq (.seq (.ops f132r18) (.cond (.tmp 79) (.seq (.ops f132r19) .ret) .skip)) (.seq (.seq (.ops f132r20) (.cond (.tmp 86) (.seq (.ops f132r21) .ret) .skip)) (.seq (.ops f132r22) .ret)))) .skip))
   (.seq (.seq (.ops f132r23) (.cond (.tmp 101) (.seq (.ops f132r24) (.seq (.seq (.ops f132r25) (.cond (.tmp 109) (.seq (.ops f132r26) .ret) .skip)) (.seq (.ops f132r27) .ret))) .skip))
   (.seq (.ops f132r28) (.seq (.seq (.ops f132r29) (.block 4 (.loop f132l35))) (.seq (.ops f132r36) .ret)))))) (retQ [.cn 4 4,.t 5] (Ret (WordQ s at0 h))) (mk [(0,.string s),(1,.int .i64 (at0:Int)),(4,pt b4),(6,.int .i64 (e:Int))]) [] h2:=by
  rintro _ rfl
  -- what is no number
  have rest:∀{h2:Heap},h1=h2→swp Tryz.prog (.seq (.seq (.ops f132r16) (.cond (.tmp 73) (.seq (.ops f132r17) (.seq (.seq (.ops f132r18) (.cond (.tmp 79) (.seq (.ops f132r19) .ret) .skip)) (.seq (.seq (.ops f132r20) (.cond (.tmp 86) (.seq (.ops f132r21) .ret) .skip)) (.seq (.ops f132r22) .ret)))) .skip))
    (.seq (.seq (.ops f132r23) (.cond (.tmp 101) (.seq (.ops f132r24) (.seq (.seq (.ops f132r25) (.cond (.tmp 109) (.seq (.ops f132r26) .ret) .skip)) (.seq (.ops f132r27) .ret))) .skip))
    (.seq (.ops f132r28) (.seq (.seq (.ops f132r29) (.block 4 (.loop f132l35))) (.seq (.ops f132r36) .ret))))) (retQ [.cn 4 4,.t 5] (Ret (WordQ s at0 h))) (mk [(0,.string s),(1,.int .i64 (at0:Int)),(4,pt b4),(6,.int .i64 (e:Int))]) [] h2:=by
   rintro _ rfl
   refine Ai rfl (Ai (fun hgt=>?_) (fun _=>?_))
   ·have hgt:at0<e:=by omega
    refine Ai (by omega) (Ai (by omega) (Ai (by omega) ?_))
    refine call_ret (key_calls _) ?_
    rintro _ h2 ⟨⟨t,rfl⟩,c2⟩
    have B2:=B4.chg c2 (by simp)
    cases t with
    |true=>
     refine Ei _ (Ai B2 (Ai (by simp[encW]) (Ai rfl (Ai (ones_w _ _ _ _) fun h3 p3=>?_))))
     exact Ei _ (Ai rfl (Ai (cells_blk p3.blk) (fin (w:=⟨1,_,0,_⟩) c2 p3 (.inr ⟨hgt,he⟩))))
    |false=>
     refine call_ret (lname_calls _ (Nat.le_trans (ext_size _ _ _) hs)) ?_
     rintro _ h3 ⟨⟨t,rfl⟩,c3⟩
     have B3:=B2.chg c3 (by simp)
     cases t with
     |false=>
      refine Ei _ (Ai B3 (Ai (by simp[encW]) (Ai rfl (Ai (ones_w _ _ _ _) fun h4 p4=>?_))))
      exact Ei _ (Ai rfl (Ai (cells_blk p4.blk) (fin (w:=⟨0,⟨#[]⟩,0,0⟩) (z:=0) (c2.nil c3) p4 (.inl rfl))))
     |true=>
      refine Ei _ (Ai B3 (Ai (by simp[encW]) (Ai rfl (Ai (ones_w _ _ _ _) fun h4 p4=>?_))))
      exact Ei _ (Ai rfl (Ai (cells_blk p4.blk) (fin (w:=⟨0,_,0,_⟩) (c2.nil c3) p4 (.inr ⟨hgt,he⟩))))
   have signs:∀{h2:Heap},h1=h2→swp Tryz.prog (.seq (.ops f132r28) (.seq (.seq (.ops f132r29) (.block 4 (.loop f132l35))) (.seq (.ops f132r36) .ret))) (retQ [.cn 4 4,.t 5] (Ret (WordQ s at0 h))) (mk [(0,.string s),(1,.int .i64 (at0:Int)),(4,pt b4)]) [] h2:=by
    rintro _ rfl
    refine call_ret signs_calls ?_
    rintro _ h2 ⟨⟨bl,l,rfl,BL,hall,hlen⟩,c2⟩
    have B2:=B4.chg c2 (by simp)
    refine loop_intro (fun q:Nat=>[(0,.string s),(1,.int .i64 (at0:Int)),(4,pt b4),(13,.slice (some ⟨bl,0,none⟩) 24 24),(14,.int .i64 (q:Int))]) (fun q h'=>q≤24∧h2=h') (fun q=>24-q) 0 ⟨rfl,rfl,rfl,rfl,rfl,trivial⟩ ⟨Nat.zero_le _,rfl⟩ ?_
    rintro q _ ⟨hq,rfl⟩
    refine Ai rfl (Ai (fun hlt=>?_) (fun _=>?_))
    case refine_2=>
     refine Ei _ (Ai B2 (Ai (by simp[encW]) (Ai rfl (Ai (ones_w _ _ _ _) fun h4 p4=>?_))))
     exact Ei _ (Ai rfl (Ai (cells_blk p4.blk) (fin (w:=⟨0,⟨#[]⟩,0,0⟩) (z:=0) c2 p4 (.inl rfl))))
    have hlt:q<24:=by omega
    obtain⟨g,hg,gp,gl⟩:=blk_sgn BL hall hlen hlt
    have nextq:∀{z:Int},z=arith .add .i64 (q:Int) 1→z=((q+1:Nat):Int):=fun hz=>by
     have hz:=add_in hz (by omega) (by omega);omega
    refine Ai (by omega) (Ai (by omega) (Ei _ (Ai (by simpa using hg) ?_)))
    refine Ai rfl (fun z hz=>?_)
    have hz:=add_in hz (by omega) (by omega)
    have hz:z=((at0+g.size:Nat):Int):=by omega
    subst hz
    refine Ai rfl (Ai (fun hle=>?_) (fun _=>?_))
    case refine_2=>
     refine Ai rfl (fun z hz=>?_)
     have hz:=nextq hz
     subst hz
     exact Ai rfl (Ei (q+1) (Ai ⟨rfl,rfl,rfl,rfl,rfl,trivial⟩ (Ai ⟨by omega,rfl⟩ (by omega))))
    have hle:at0+g.size≤s.size:=by omega
    have nextg:∀{z:Int},z=arith .add .i64 (at0:Int) (g.size:Int)→z=((at0+g.size:Nat):Int):=fun hz=>by
     have hz:=add_in hz (by omega) (by omega);omega
    refine Ai rfl (fun z hz=>?_)
    have hz:=nextg hz
    subst hz
    refine Ai (by omega) (Ai (by omega) (Ai (by omega) ?_))
    refine Ai (by omega) (Ai (by omega) (Ei _ (Ai (by simpa using hg) ?_)))
    refine Ai (fun _=>?_) (fun _=>?_)
    ·refine Ai (by omega) (Ai (by omega) (Ei _ (Ai (by simpa using hg) ?_)))
     refine Ai rfl (fun z hz=>?_)
     have hz:=nextg hz
     subst hz
     refine Ei _ (Ai B2 (Ai (by simp[encW]) (Ai rfl (Ai (ones_w _ _ _ _) fun h4 p4=>?_))))
     exact Ei _ (Ai rfl (Ai (cells_blk p4.blk) (fin (w:=⟨4,_,0,_⟩) c2 p4 (.inr ⟨by omega,hle⟩))))
    ·refine Ai rfl (fun z hz=>?_)
     have hz:=nextq hz
     subst hz
     exact Ai rfl (Ei (q+1) (Ai ⟨rfl,rfl,rfl,rfl,rfl,trivial⟩ (Ai ⟨by omega,rfl⟩ (by omega))))
   -- a text?
   refine Ei _ (Ai (by omega) (Ai (ix_at h0) ?_))
   refine Ai rfl (Ai (fun _=>?_) (fun _=>?_))
   ·refine call_ret (text_calls s hs at0 h0) ?_
    rintro _ h2 ⟨⟨w,z,rfl,hz⟩,c2⟩
    have B2:=B4.chg c2 (by simp)
    refine Ai rfl (Ai (fun _=>?_) (fun _=>?_))
    ·refine Ei _ (Ai B2 (Ai (by simp[encW]) (Ai rfl (Ai (ones_w _ _ _ _) fun h4 p4=>?_))))
     exact Ei _ (Ai rfl (Ai (cells_blk p4.blk) (fin (w:=⟨0,⟨#[]⟩,0,0⟩) (z:=0) c2 p4 (.inl rfl))))
    ·refine Ei _ (Ai B2 (Ai (by simp[encW]) (Ai rfl (Ai (ones_w _ _ _ _) fun h4 p4=>?_))))
     exact Ei _ (Ai rfl (Ai (cells_blk p4.blk) (fin (w:=⟨3,_,0,_⟩) c2 p4 hz)))
   refine Ei _ (Ai (by omega) (Ai (ix_at h0) ?_))
   refine Ai rfl (Ai (fun _=>?_) (fun _=>?_))
   ·refine call_ret (text_calls s hs at0 h0) ?_
    rintro _ h2 ⟨⟨w,z,rfl,hz⟩,c2⟩
    have B2:=B4.chg c2 (by simp)
    refine Ai rfl (Ai (fun _=>?_) (fun _=>?_))
    ·refine Ei _ (Ai B2 (Ai (by simp[encW]) (Ai rfl (Ai (ones_w _ _ _ _) fun h4 p4=>?_))))
     exact Ei _ (Ai rfl (Ai (cells_blk p4.blk) (fin (w:=⟨0,⟨#[]⟩,0,0⟩) (z:=0) c2 p4 (.inl rfl))))
    ·refine Ei _ (Ai B2 (Ai (by simp[encW]) (Ai rfl (Ai (ones_w _ _ _ _) fun h4 p4=>?_))))
     exact Ei _ (Ai rfl (Ai (cells_blk p4.blk) (fin (w:=⟨3,_,0,_⟩) c2 p4 hz)))
   ·exact cut_at [(0,.string s),(1,.int .i64 (at0:Int)),(4,pt b4)] ⟨rfl,rfl,rfl,trivial⟩ (signs rfl)
  -- a number?
  refine Ai rfl (Ai (fun hgt=>?_) (fun _=>?_))
  case refine_2=>exact cut_at [(0,.string s),(1,.int .i64 (at0:Int)),(4,pt b4),(6,.int .i64 (e:Int))] ⟨rfl,rfl,rfl,rfl,trivial⟩ (rest rfl)
  have hgt:at0<e:=by omega
  refine Ei _ (Ai (by omega) (Ai (ix_at h0) ?_))
  refine call_ret (digit_calls _) ?_
  rintro _ _ ⟨⟨t,rfl⟩,rfl⟩
  cases t with
  |false=>exact cut_at [(0,.string s),(1,.int .i64 (at0:Int)),(4,pt b4),(6,.int .i64 (e:Int))] ⟨rfl,rfl,rfl,rfl,trivial⟩ (rest rfl)
  |true=>
  refine loop_intro (fun q:Nat=>[(0,.string s),(1,.int .i64 (at0:Int)),(4,pt b4),(6,.int .i64 (e:Int)),(7,.int .i64 (q:Int))]) (fun q h'=>at0≤q∧q≤e∧h1=h') (fun q=>e-q) at0 ⟨rfl,rfl,rfl,rfl,rfl,trivial⟩ ⟨Nat.le_refl _,he0,rfl⟩ ?_
  rintro q _ ⟨hq0,hq,rfl⟩
  refine Ai rfl (Ai (fun hlt=>?_) (fun _=>?_))
  ·have hlt:q<e:=by omega
   refine Ei _ (Ai (by omega) (Ai (ix_at (by omega)) ?_))
   refine call_ret (digit_calls _) ?_
   rintro _ _ ⟨⟨t,rfl⟩,rfl⟩
   cases t with
   |false=>
    refine Ei _ (Ai B4 (Ai (by simp[encW]) (Ai rfl (Ai (ones_w _ _ _ _) fun h4 p4=>?_))))
    exact Ei _ (Ai rfl (Ai (cells_blk p4.blk) (fin (w:=⟨0,⟨#[]⟩,0,0⟩) (z:=0) (Chg.refl _) p4 (.inl rfl))))
   |true=>
    refine Ai rfl (fun z hz=>?_)
    have hz:=add_in hz (by omega) (by omega)
    have hz:z=((q+1:Nat):Int):=by omega
    subst hz
    exact Ai rfl (Ei (q+1) (Ai ⟨rfl,rfl,rfl,rfl,rfl,trivial⟩ (Ai ⟨by omega,by omega,rfl⟩ (by omega))))
  ·refine Ai (by omega) (Ai (by omega) (Ai (by omega) ?_))
   refine call_ret (number_calls _ (Nat.le_trans (ext_size _ _ _) hs)) ?_
   rintro _ _ ⟨⟨z,t,rfl⟩,rfl⟩
   cases t with
   |false=>
    refine Ei _ (Ai B4 (Ai (by simp[encW]) (Ai rfl (Ai (ones_w _ _ _ _) fun h4 p4=>?_))))
    exact Ei _ (Ai rfl (Ai (cells_blk p4.blk) (fin (w:=⟨0,⟨#[]⟩,0,0⟩) (z:=0) (Chg.refl _) p4 (.inl rfl))))
   |true=>
    refine Ei _ (Ai B4 (Ai (by simp[encW]) (Ai rfl (Ai (ones_w _ _ _ _) fun h4 p4=>?_))))
    exact Ei _ (Ai rfl (Ai (cells_blk p4.blk) (fin (w:=⟨2,⟨#[]⟩,_,_⟩) (Chg.refl _) p4 (.inr ⟨hgt,he⟩))))
 refine Ai rfl (Ai (fun hlt=>?_) (fun _=>?_))
 case refine_2=>exact cut_at [(0,.string s),(1,.int .i64 (at0:Int)),(4,pt b4),(6,.int .i64 (e:Int))] ⟨rfl,rfl,rfl,rfl,trivial⟩ (tail rfl)
 have hlt:e<s.size:=by omega
 refine Ei _ (Ai (by omega) (Ai (ix_at hlt) ?_))
 refine call_ret (letter_calls _) ?_
 rintro _ _ ⟨⟨t,rfl⟩,rfl⟩
 cases t with
 |true=>
  refine Ai rfl (fun z hz=>?_)
  have hz:=next hlt hz
  subst hz
  exact Ai rfl (Ei (e+1) (Ai ⟨rfl,rfl,rfl,rfl,trivial⟩ (Ai ⟨by omega,by omega,rfl⟩ (by omega))))
 |false=>
  refine Ei _ (Ai (by omega) (Ai (ix_at hlt) ?_))
  refine call_ret (digit_calls _) ?_
  rintro _ _ ⟨⟨t,rfl⟩,rfl⟩
  cases t with
  |true=>
   refine Ai rfl (fun z hz=>?_)
   have hz:=next hlt hz
   subst hz
   exact Ai rfl (Ei (e+1) (Ai ⟨rfl,rfl,rfl,rfl,trivial⟩ (Ai ⟨by omega,by omega,rfl⟩ (by omega))))
  |false=>exact cut_at [(0,.string s),(1,.int .i64 (at0:Int)),(4,pt b4),(6,.int .i64 (e:Int))] ⟨rfl,rfl,rfl,rfl,trivial⟩ (tail rfl)
theorem encW_ones (w:WD):∀u∈encW w,u.oneCell'=true:=ones_w _ _ _ _
def LexQ (s:ByteArray) (h:Heap) (r:Value) (h':Heap):Prop:=
 (∃(a:Option Addr) (c:Nat) (l:List WD) (z e:Int),r=.tuple ⟨[.slice a l.length c,.int .i64 z,.int .i64 e]⟩∧SL encW h' (.slice a l.length c) l∧l.length≤s.size∧∀q∈ablk a,q<h'.size)∧Chg [] h h'
set_option maxRecDepth 100000 in
theorem lex_calls {h:Heap} (s:ByteArray) (hs:s.size≤2000):CallsH Tryz.prog 83 [.string s] h (Ret (LexQ s h)):=by
 have no:∀{h':Heap} (z e:Int),Chg [] h h'→LexQ s h (.tuple ⟨[.slice none 0 0,.int .i64 z,.int .i64 e]⟩) h':=fun z e c=>⟨⟨none,0,[],z,e,rfl,SL.nil,by simp,by simp[ablk]⟩,c⟩
 refine f83_calls (by simp) ?_
 refine Ai rfl (Ai (fun hgt=>by omega) (fun _=>?_))
 refine call_ret (blank_calls s (by omega) 0 (Nat.zero_le _)) ?_
 rintro _ _ ⟨⟨q0,rfl,_,hq0⟩,rfl⟩
 refine loop_intro (fun i:Nat×List WD×Option Addr×Nat=>[(0,.string s),(5,.slice i.2.2.1 i.2.1.length i.2.2.2),(6,.int .i64 (i.1:Int))])
  (fun i h'=>i.1≤s.size∧OL encW 4 h' (.slice i.2.2.1 i.2.1.length i.2.2.2) i.2.1∧(∀q∈ablk i.2.2.1,h.size≤q)∧i.2.1.length≤i.1∧Chg [] h h') (fun i=>s.size-i.1) (q0,[],none,0) ⟨rfl,rfl,rfl,trivial⟩
  ⟨hq0,OL.nil,by simp[ablk],by simp,Chg.refl h⟩ ?_
 rintro⟨q,l,a,c⟩ h1 ⟨hq,O1,f1,hl,c1⟩
 simp only at hq O1 f1 hl
 refine Ai rfl (Ai (fun hlt=>?_) (fun _=>?_))
 case refine_2=>exact Ai (Ei a (Ei c (Ei l (Ei 0 (Ei 0 (Ai rfl ⟨O1.sl,by omega,fun q hq=>O1.lt q hq⟩)))))) c1
 have hlt:q<s.size:=by simp only at hlt;omega
 refine call_ret (word_calls s (by omega) q hlt) ?_
 rintro _ h2 ⟨⟨w,z,rfl,hz⟩,c2⟩
 intro b7 h3 g3
 refine Ei _ (Ai g3.blk (Ai (by simp) (Ai rfl (Ai (ones_w _ _ _ _) fun h4 p4=>?_))))
 have g4:Grow h2 h4 b7 (encW w):=g3.put p4
 have c24:=c2.nil g4.chg
 have c04:=c1.nil c24
 refine Ai rfl (Ai (fun _=>?_) (fun hne=>?_))
 ·exact no _ _ c04
 have hz:q<z∧z≤s.size:=by
  rcases hz with h|h
  ·exact absurd (by rw[h];rfl) hne
  ·exact h
 refine Ei (encW w) (Ai rfl (Ai (cells_blk g4.blk) ?_))
 intro b5 h5 g5
 have z1:=c1.size
 have z24:=c24.size
 have gs:=g5.size
 refine app_own encW_len encW_ones rfl (O1.ext (c24.nil g5.chg)) (SL.one encW_len (x:=w) g5.blk) (by simp only[List.length_cons,List.length_nil];omega) ?_
 intro v6 h6 O6 c6 f6
 obtain⟨a6,k6,rfl,_⟩:=O6.form
 refine call_ret (blank_calls s (by omega) z hz.2) ?_
 rintro _ _ ⟨⟨q6,rfl,hq6,hq7⟩,rfl⟩
 refine Ai rfl (Ei (q6,l++[w],a6,k6) (Ai ⟨rfl,rfl,rfl,trivial⟩ (Ai ⟨hq7,O6,fun x hx=>?_,by simp only[List.length_append,List.length_cons,List.length_nil];omega,(c04.nil g5.chg).fresh c6 f1⟩ (by simp only;omega))))
 rcases f6 x hx with h|h
 ·exact f1 x h
 ·omega
theorem deep_calls:∀(n:Nat) (a:ND) (most:Int) (h:Heap),SizeOf.sizeOf a<n→a.ok h→CallsH Tryz.prog 87 [.agg ⟨encN a⟩,.int .i64 most] h (Ret (BoolQ h))
 |0,_,_,_,hn,_=>absurd hn (by omega)
 |n+1,.mk k s t i u ns v l,most,h,hn,⟨_,_,hv,hl,hls⟩=>by
  obtain⟨x,c,rfl,hlc⟩:=hv.form
  refine f87_calls (by simp) ?_
  intro b1 h1 g1
  have B1:Blk h1 b1 [.int .i64 k,.string s,.string t,.int .i64 i,u,.slice x l.length c]:=g1.blk
  refine Ai rfl (Ai (fun _=>?_) (fun _=>?_))
  ·exact Ai (Ei true rfl) g1.chg
  refine loop_intro (fun p:Nat=>[(1,.int .i64 most),(2,pt b1),(5,.int .i64 (p:Int))]) (fun p h'=>p≤l.length∧Chg [] h1 h') (fun p=>l.length-p) 0 ⟨rfl,rfl,rfl,trivial⟩ ⟨Nat.zero_le _,Chg.refl _⟩ ?_
  rintro q h2 ⟨hq,hc1⟩
  have C1:=B1.chg hc1 (by simp)
  have hch:=g1.chg.nil hc1
  refine Ei _ (Ai (cell_blk C1 rfl) (Ai rfl (Ai (fun hlt=>?_) (fun hge=>?_))))
  ·have hlt:q<l.length:=by omega
   obtain⟨b,o,rfl⟩:=hv.addr (by omega)
   have hcs:=(hv.ext hch).cells encN_len (i:=q) (x:=l[q]) (by simp[hlt])
   refine Ei _ (Ai (cell_blk C1 rfl) ?_)
   refine Ai (by omega) (Ai (by omega) (Ei (encN l[q]) (Ai (encN_len _) (Ai hcs ?_))))
   refine Ai rfl (fun z3 _=>?_)
   refine call_ret (deep_calls n l[q] z3 h2 (by have:=sizeOf_kid (k:=k) (s:=s) (t:=t) (i:=i) (u:=u) (ns:=ns) (v:=.slice (some ⟨b,o,none⟩) l.length c) hlt;omega) ((hls.mem _ (List.getElem_mem hlt)).ext hch)) ?_
   rintro _ h3 ⟨⟨tt,rfl⟩,hc3⟩
   cases tt with
   |true=>exact Ai (Ei true rfl) (hch.nil hc3)
   |false=>
    refine Ai rfl (fun z6 hz=>?_)
    have hz:=add_in hz (by omega) (by omega)
    have hz:z6=((q+1:Nat):Int):=by omega
    subst hz
    exact Ai rfl (Ei (q+1) (Ai ⟨rfl,rfl,rfl,trivial⟩ (Ai ⟨by omega,hc1.nil hc3⟩ (by omega))))
  ·exact Ai (Ei false rfl) hch
theorem all2 {α:Type} {p:α→Prop} {a b:α} (h:p a) (h2:p b):∀x∈[a,b],p x:=fun x hx=>by
 rcases List.mem_cons.1 hx with hx|hx
 ·rw[hx];exact h
 ·rw[List.mem_singleton.1 hx];exact h2
def ParseQ (h:Heap) (r:Value) (h':Heap):Prop:=(∃(t:ND) (z e:Int),r=.tuple ⟨[.agg ⟨encN t⟩,.int .i64 z,.int .i64 e]⟩∧t.ok h')∧Chg [] h h'
set_option maxHeartbeats 1000000 in
set_option maxRecDepth 100000 in
theorem parse_calls {h:Heap} (s:ByteArray) (hs:s.size≤2000):CallsH Tryz.prog 50 [.string s] h (Ret (ParseQ h)):=by
 refine f50_calls (by simp) ?_
 intro b2 h1 g1
 have i2:=g1.id
 have B2:Blk h1 b2 zN:=g1.blk
 have fin:∀{h2 h3:Heap} {t:ND} {z e:Int} {l:List Value},Chg [] h1 h2→Made (b2+1) h2 t→Put h2 h3 b2 l→ParseQ h (.tuple ⟨[.agg ⟨encN t⟩,.int .i64 z,.int .i64 e]⟩) h3:=fun c m p=>
  ⟨⟨_,_,_,rfl,(m.old p.chg (fun x hx=>.inl (by rw[one_in hx];omega))).ok⟩,(g1.chg.nil c).fresh p.chg (fun q hq=>by rw[one_in hq];omega)⟩
 have leaf:∀{h2:Heap},Made (b2+1) h2 (.mk 0 ⟨#[]⟩ ⟨#[]⟩ 0 (.slice none 0 0) [] (.slice none 0 0) []):=made_leaf 0 0 _ _
 refine call_ret (lex_calls s hs) ?_
 rintro _ h2 ⟨⟨a,c,ws,lz,le,rfl,sl2,hn2,hq2⟩,c2⟩
 have B22:=B2.chg c2 (by simp)
 refine Ai rfl (Ai (fun _=>?_) (fun _=>?_))
 ·refine Ei _ (Ai B22 (Ai (by simp) (Ai rfl (Ai (leaf_ones 0 0 _ _) fun h3 p3=>?_))))
  exact Ei _ (Ai rfl (Ai (cells_blk p3.blk) (fin c2 leaf p3)))
 intro b8 h3 g3
 have i8:=g3.id
 have s3:=g3.size
 have z2:=c2.size
 have s1:=g1.size
 obtain⟨C,e1,e2,e3,e4⟩:∃C:Ct,C.b=b8∧C.wa=a∧C.wc=c∧C.ws=ws:=⟨⟨b8,a,c,ws⟩,rfl,rfl,rfl,rfl⟩
 subst e1 e2 e3 e4
 have R3:Rd C h3 C.ws.length:=⟨⟨s.size,0,0,0,by rw[Nat.sub_self];exact g3.blk⟩,Nat.le_refl _,sl2.ext g3.chg,fun q hq=>by have:=hq2 q hq;omega,by omega⟩
 have c3:Chg [] h1 h3:=c2.nil g3.chg
 have B23:=B22.chg g3.chg (by simp)
 refine call_ret ((bn_all C C.ws.length).bl R3) ?_
 rintro _ h4 ⟨⟨k,sn,x,n,u,ns,v,l⟩,left4,rfl,m4,hl4,_,R4,c4⟩
 have z4:=c4.size
 have e4:Chg [] h1 h4:=c3.fresh c4 (fun q hq=>by rw[one_in hq];omega)
 have B24:=B23.chg c4 (by intro hin;have:=one_in hin;omega)
 intro b9 h5 g5
 refine Ei _ (Ai g5.blk (Ai (by simp) (Ai rfl (Ai m4.ok.ones fun h6 p6=>?_))))
 have g6:Grow h4 h6 b9 (encN (ND.mk k sn x n u ns v l)):=g5.put p6
 have i9:=g6.id
 have B26:=B24.chg g6.chg (by simp)
 have B96:=g6.blk
 have R6:=R4.ext g6.chg
 have m6:=m4.ext g6.chg
 have e6:=e4.nil g6.chg
 -- behind the whole
 have tail:∀{h7:Heap} {left7:Nat},Rd C h7 left7→Made (b2+1) h7 (.mk k sn x n u ns v l)→Chg [] h1 h7→Blk h7 b2 zN→Blk h7 b9 (encN (.mk k sn x n u ns v l))→
   swp Tryz.prog (.seq (.seq (.ops f50r8) (.cond (.tmp 53) (.seq (.tree [54,55,56,57,58,59,60,61,62,3,4] f50t9) .ret) .skip)) (.seq (.seq (.ops f50r10) (.cond (.tmp 64) (.seq (.ops f50r11) .ret) .skip)) (.seq (.ops f50r12) .ret))) (retQ [.cn 2 6,.t 3,.t 4] (Ret (ParseQ h))) (mk [(2,pt b2),(8,pt C.b),(9,pt b9)]) [] h7:=by
  intro h7 left7 R7 m7 e7 B27 B97
  obtain⟨lg,op,pl,wy,B⟩:=R7.blk
  have B:Blk h7 C.b _:=B
  refine Ei _ (Ai (cell_blk B rfl) (Ai rfl (Ai (fun _=>?_) (fun _=>?_))))
  ·refine Ei _ (Ai (cell_blk B rfl) (Ei _ (Ai (cell_blk B rfl) ?_)))
   refine Ei _ (Ai B27 (Ai (by simp) (Ai rfl (Ai (leaf_ones 0 0 _ _) fun h8 p8=>?_))))
   have B8:=B.chg p8.chg (by intro hin;have:=one_in hin;omega)
   refine Ai (all2 (chk_ld rfl (cell_blk B8 rfl) rfl) (chk_ld rfl (cell_blk B8 rfl) rfl)) ?_
   refine Ai (all2 (chk_ld rfl (cell_blk B8 rfl) rfl) (chk_ld rfl (cell_blk B8 rfl) rfl)) ?_
   refine Ai (all2 (chk_ld rfl (cell_blk B8 rfl) rfl) (chk_ld rfl (cell_blk B8 rfl) rfl)) ?_
   exact Ei _ (Ai rfl (Ai (cells_blk p8.blk) (fin e7 leaf p8)))
  ·refine Ei _ (Ai rfl (Ai (cells_blk B97) ?_))
   refine call_ret (deep_calls _ _ _ _ (Nat.lt_succ_self _) m7.ok) ?_
   rintro _ h8 ⟨⟨t,rfl⟩,c8⟩
   have B28:=B27.chg c8 (by simp)
   have B98:=B97.chg c8 (by simp)
   cases t with
   |true=>
    refine Ei _ (Ai B28 (Ai (by simp) (Ai rfl (Ai (leaf_ones 0 0 _ _) fun h9 p9=>?_))))
    exact Ei _ (Ai rfl (Ai (cells_blk p9.blk) (fin (e7.nil c8) leaf p9)))
   |false=>
    refine Ei _ (Ai rfl (Ai (cells_blk B98) ?_))
    refine Ei _ (Ai B28 (Ai (by simp) (Ai rfl (Ai m7.ok.ones fun h9 p9=>?_))))
    exact Ei _ (Ai rfl (Ai (cells_blk p9.blk) (fin (e7.nil c8) (m7.ext c8) p9)))
 have m6':Made (b2+1) h6 (.mk k sn x n u ns v l):=m6.lo (by omega)
 obtain⟨lg,op,pl,wy,B⟩:=R6.blk
 have B:Blk h6 C.b _:=B
 refine Ei _ (Ai (cell_blk B rfl) (Ai rfl (Ai (fun _=>?_) (fun _=>?_))))
 case refine_2=>exact cut_at [(2,pt b2),(8,pt C.b),(9,pt b9)] ⟨rfl,rfl,rfl,trivial⟩ (tail R6 m6' e6 B26 B96)
 refine Ei _ (Ai (cell_blk B rfl) (Ei _ (Ai (cell_blk B rfl) ?_)))
 refine Ai rfl (Ai (fun _=>?_) (fun _=>?_))
 case refine_2=>exact cut_at [(2,pt b2),(8,pt C.b),(9,pt b9)] ⟨rfl,rfl,rfl,trivial⟩ (tail R6 m6' e6 B26 B96)
 refine call_ret (place_calls R6) ?_
 rintro _ _ ⟨⟨z,rfl⟩,rfl⟩
 refine call_ret (give_calls R6 z 220) ?_
 rintro _ h7 ⟨R7,c7⟩
 exact cut_at [(2,pt b2),(8,pt C.b),(9,pt b9)] ⟨rfl,rfl,rfl,trivial⟩ (tail R7 ((m6.old c7 (fun x hx=>.inl (by rw[one_in hx];omega))).lo (by omega)) (e6.fresh c7 (fun q hq=>by rw[one_in hq];omega)) (B26.chg c7 (by intro hin;have:=one_in hin;omega)) (B96.chg c7 (by intro hin;have:=one_in hin;omega)))
theorem large_calls {h:Heap} (s:ByteArray) (hs:s.size≤2000):CallsH Tryz.prog 18 [.string s] h (Ret (BoolQ h)):=by
 refine f18_calls (by simp) ?_
 refine call_ret (parse_calls s hs) ?_
 rintro _ h1 ⟨⟨⟨k,sn,x,n,u,ns,v,l⟩,z,e,rfl,ok⟩,c1⟩
 intro b3 h2 g2
 refine Ei _ (Ai g2.blk (Ai (by simp) (Ai rfl (Ai ok.ones fun h3 p3=>?_))))
 have g3:Grow h1 h3 b3 (encN (ND.mk k sn x n u ns v l)):=g2.put p3
 have c3:=c1.nil g3.chg
 refine Ai rfl (Ai (fun _=>?_) (fun _=>?_))
 case refine_2=>exact Ai (Ei _ rfl) c3
 refine Ei _ (Ai rfl (Ai (cells_blk g3.blk) ?_))
 refine call_ret (count_calls _ _ _ _ (Nat.lt_succ_self _) (ok.ext g3.chg)) ?_
 rintro _ h4 ⟨⟨w,rfl⟩,c4⟩
 refine Ai rfl (Ai (fun _=>?_) (fun _=>?_))
 ·exact Ai (Ei _ rfl) (c3.nil c4)
 ·exact Ai (Ei _ rfl) (c3.nil c4)
set_option maxRecDepth 100000 in
/-- Is a request vast? -/
theorem vast_calls {h:Heap} {bl:Nat} {now:Int} {va:Value} {ks:List ByteArray} (BL:Blk h bl [.int .i64 now,va]) (sl:SL encS h va ks) (hk:ks.length<4611686018427387904):
  CallsH Tryz.prog 4 [.slice (some ⟨bl,0,none⟩) 1 1,.agg ⟨[.int .i64 0,.int .i64 0,.int .i64 0]⟩] h (Ret (BoolQ h)):=by
 obtain⟨xa,xc,rfl,_⟩:=sl.form
 refine f4_calls (by simp) ?_
 intro b3 h1 g1
 have B3:Blk h1 b3 [.int .i64 0,.int .i64 0,.int .i64 0]:=g1.blk
 refine Ai rfl (Ai (fun hgt=>absurd hgt (by decide)) (fun _=>?_))
 refine Ei _ (Ai (cell_blk B3 rfl) (Ai rfl (Ai (fun hgt=>absurd hgt (by decide)) (fun _=>?_))))
 refine Ei _ (Ai (cell_blk B3 rfl) (Ai rfl (Ai (fun hgt=>absurd hgt (by decide)) (fun _=>?_))))
 refine loop_intro (fun p:Nat=>[(0,.slice (some ⟨bl,0,none⟩) 1 1),(5,.int .i64 (p:Int))]) (fun p h'=>p≤1∧Chg [] h1 h') (fun p=>1-p) 0 ⟨rfl,rfl,trivial⟩ ⟨Nat.zero_le _,Chg.refl _⟩ ?_
 rintro p h2 ⟨hp,c2⟩
 have c02:=g1.chg.nil c2
 refine Ai rfl (Ai (fun hlt=>?_) (fun _=>?_))
 case refine_2=>exact Ai (Ei false rfl) c02
 have e0:p=0:=by omega
 subst e0
 have BL2:=BL.chg c02 (by simp)
 refine Ai (by decide) (Ai (by decide) (Ei _ (Ai (cell_blk BL2 rfl) ?_)))
 refine Ai rfl (Ai (fun _=>?_) (fun _=>?_))
 ·exact Ai (Ei true rfl) c02
 refine loop_intro (fun q:Nat=>[(0,.slice (some ⟨bl,0,none⟩) 1 1),(5,.int .i64 ((0:Nat):Int)),(6,.int .i64 (q:Int))]) (fun q h'=>q≤ks.length∧Chg [] h1 h') (fun q=>ks.length-q) 0 ⟨rfl,rfl,rfl,trivial⟩ ⟨Nat.zero_le _,c2⟩ ?_
 rintro q h3 ⟨hq,c3⟩
 have c03:=g1.chg.nil c3
 have BL3:=BL.chg c03 (by simp)
 have sl3:=sl.ext c03
 refine Ai (by decide) (Ai (by decide) (Ei _ (Ai (cell_blk BL3 rfl) ?_)))
 refine Ai rfl (Ai (fun hlt=>?_) (fun _=>?_))
 ·have hlt:q<ks.length:=by omega
  obtain⟨b,o,rfl⟩:=sl3.addr (by omega)
  have hcs:=sl3.cells encS_len (i:=q) (x:=ks[q]) (by simp[hlt])
  have next:∀{z:Int},z=arith .add .i64 (q:Int) 1→z=((q+1:Nat):Int):=fun hz=>by
   have hz:=add_in hz (by omega) (by omega);omega
  refine Ai (by decide) (Ai (by decide) (Ei _ (Ai (cell_blk BL3 rfl) ?_)))
  refine Ai (by omega) (Ai (by omega) (Ei _ (Ai (hcs 0 _ rfl) ?_)))
  refine Ai rfl (Ai (fun _=>?_) (fun hle=>?_))
  ·exact Ai (Ei true rfl) c03
  refine Ai (by decide) (Ai (by decide) (Ei _ (Ai (cell_blk BL3 rfl) ?_)))
  refine Ai (by omega) (Ai (by omega) (Ei _ (Ai (hcs 0 _ rfl) ?_)))
  refine call_ret (large_calls ks[q] (by omega)) ?_
  rintro _ h4 ⟨⟨t,rfl⟩,c4⟩
  cases t with
  |true=>exact Ai (Ei true rfl) (c03.nil c4)
  |false=>
   refine Ai rfl (fun z hz=>?_)
   have hz:=next hz
   subst hz
   exact Ai rfl (Ei (q+1) (Ai ⟨rfl,rfl,rfl,trivial⟩ (Ai ⟨by omega,c3.nil c4⟩ (by omega))))
 ·refine Ai rfl (fun z hz=>?_)
  have hz:z=((1:Nat):Int):=hz
  subst hz
  exact Ai rfl (Ei 1 (Ai ⟨rfl,rfl,trivial⟩ (Ai ⟨Nat.le_refl _,c3⟩ (by decide))))
end Go.Proofs.YtikcimlokhmleaaGreatDoor
