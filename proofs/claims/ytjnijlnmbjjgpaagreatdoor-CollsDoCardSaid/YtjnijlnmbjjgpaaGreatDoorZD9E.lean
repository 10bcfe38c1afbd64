/-
  Layer 9: the document's answer: the commands of lists. (Written by genrl.py.)
  Layer 9: a text in capital letters, by the program.
  Layer 9: the map of commands; Do, for a word that is a command's. (Written by gencg.py.)
  Layer 9: the document's answer: Do. (Written by genrd.py.)
  Layer 9: the document's answer: Do, for the commands of lists.
  Layer 8: replies as they stand in memory; whether two are the same.
  Layer 9: effects on things with items: all of a command's effects are done; plain.
  Layer 9: all of a command's effects are done, whatever is asked; plain.
  Layer 9: looking for a field, a member; adding; which names are new.
  Layer 9: the commands of hashes. (Written by gencI.py.)
  Layer 9: the commands of lists: LLEN, LPOP, RPOP, LINDEX, LRANGE, LSET, LPUSH, RPUSH.
  Layer 9: the commands of sets, but SINTER.
  The contracts of the functions of taborref05: what they give is what plain functions on lists give.
  The contracts of taborref05.Set and Of.
  The contract of taborref05.Of.
  The order of members, in plain Lean.
  A ranked set in the heap: its members, one behind the other, and at each height the links. Plain.
  The way down.
  Small ones: less, TrailingZeros, none.
  Links put in and taken out, height by height. Plain.
  A member put in, height by height: what holds below a height, and above. Plain.
  put.
  put, walked.
  A member taken out, height by height. Plain.
  take, walked.
  What a set's map tells; Drop, Len, Set, Score.
  Set, Score, Rank.
  begun, Of.
  from, At, Between.
  At, Between.
  Layer 9: the commands of ranked sets. (Written by gencK.py.)
-/
import Derived.Test.YtjnijlnmbjjgpaaGreatDoorZD9D
namespace Go.Proofs.YtjnijlnmbjjgpaaGreatDoor
open Go Go.Sx C
def Jd9 (res:Res) (q:Rep) (E:List Eff) (why:ByteArray):Prop:=(why=noText∧res=.ok (q,E))∨(why≠noText∧res=.error why)
section
variable {h0 h h1 h':Heap} {xb i:Nat} {now n m:Int} {kv av lv pv lw rv:Value} {k:List RX} {A:List ByteArray} {L E:List Eff} {why key s u:ByteArray} {t:Thing} {M:List En} {T:List Nat} {res:Res}
theorem Jd9.ok {q:Rep} {E:List Eff} (h:res=.ok (q,E)):Jd9 res q E noText:=.inl ⟨rfl,h⟩
theorem Jd9.no {q:Rep} {E:List Eff} (hw:why≠noText) (h:res=.error why):Jd9 res q E why:=.inr ⟨hw,h⟩
def Reply9 (h0 h:Heap) (xb:Nat) (t:Thing) (pv lw rv:Value) (key:ByteArray) (kv:Value) (now:Int) (av lv:Value) (res:Res) (r:Value) (h':Heap):Prop:=
 ∃q lv' E why,RepAt h.size h' r q∧(∃t' pv' lw' rv' key',RxO9 h0 h (aT xb t pv lw rv key kv now av lv [] noText) h' (aT xb t' pv' lw' rv' key' kv now av lv' E why))∧Jd9 res q E why
theorem Reply9.fin {b4:Nat} {a m:Int} {lv':Value} {E:List Eff} (x:As h0 h (aT xb t pv lw rv key kv now av lv [] noText)) (w:St (xb::vblk lv) h h' M) (i j:Nat) (hi:M[i]? =some (.b b4 [.int .i64 a,.int .i64 m,.string s,.slice none 0 0])) (hj:M[j]? =some (aT xb t pv lw rv key kv now av lv' E why))
  (hd:Jd9 res (rep a m s) E why):∃vs,vs.length=4∧Cells h' b4 0 vs∧Reply9 h0 h xb t pv lw rv key kv now av lv res (.agg ⟨vs⟩) h':=
 ⟨_,rfl,cells_blk (w.get i hi),rep a m s,lv',E,why,⟨none,0,0,rfl,SL.nil,fun b hb=>(nomatch (show b∈([]:List Nat)from hb))⟩,⟨t,pv,lw,rv,key,x.out w j hj⟩,hd⟩
theorem th_lists (x:TH h (cellsT t pv lw rv) t):SL encP h pv t.pairs∧SL encS h lw t.list∧SL encR h rv t.ranks:=by
 obtain⟨p,l,r,e,h1,h2,h3⟩:=x
 simp only[cellsT,List.cons.injEq,and_true,true_and]at e
 obtain⟨rfl,rfl,rfl⟩:=e
 exact⟨h1,h2,h3⟩
theorem rplace_none {n:Nat} {a:Int} (hn:n≤100000) (ha:In64 a) (hp:placeN n a=none):CallsH Tryz.prog 136 [.int .i64 n,.int .i64 a] h (Ret fun r h'=>r=.tuple #[.int .i64 0,.bool false]∧h'=h):=by
 have:=rplace_calls (h:=h) hn ha
 rwa [hp]at this
theorem rplace_some {n:Nat} {a:Int} (hn:n≤100000) (ha:In64 a) (hp:placeN n a=some i):CallsH Tryz.prog 136 [.int .i64 n,.int .i64 a] h (Ret fun r h'=>r=.tuple #[.int .i64 i,.bool true]∧h'=h):=by
 have:=rplace_calls (h:=h) hn ha
 rwa [hp]at this
theorem rnum_some {s:ByteArray} (hs:s.size<4611686018427387904) (hn:numOf s=some n):CallsH Tryz.prog 132 [.string s] h (Ret fun r h'=>r=.tuple #[.int .i64 n,.bool true]∧h'=h):=by
 have:=rnum89_calls (h:=h) hs
 rwa [hn]at this
structure RG9 (h0:Heap) (kv:Value) (k:List RX) (av:Value) (A:List ByteArray) (key:ByteArray) (t:Thing) (pv lw rv:Value):Prop where
 c:RC9 h0 kv k av A
 th:∀h2,Chg [] h0 h2→TH h2 (cellsT t pv lw rv) t
 t9:T9 t
 ks:key.size≤300
 az:∀s∈A,s.size≤300
 al:A.length≤20
theorem rllen_calls (x:As h0 h (aT xb t pv lw rv key kv now av lv [] noText)) (g:RG9 h0 kv k av A key t pv lw rv):CallsH Tryz.prog 61 [ptr xb,.string ⟨#[76,76,69,78]⟩] h
  (Ret (Reply9 h0 h xb t pv lw rv key kv now av lv (.ok (numR t.list.length,[])))):=by
 refine f61_calls (by simp) ?_
 intro b4 h1 g1
 have w:=x.st.new g1
 have hsl:=fun h2 hc=>(th_lists (g.th h2 hc)).2.1
 obtain⟨la,lc,rfl,_⟩:=(hsl h0 (Chg.refl _)).form
 have t9:=g.t9
 have ln:t.list.length≤2000:=t9.ls
 refine w.ldr9 1 rfl rfl ?_
 refine Ai (fun he=>absurd he (by decide)) (fun _=>?_)
 refine Ai (fun he=>absurd he (by decide)) (fun _=>?_)
 refine Ai (fun he=>absurd he (by decide)) (fun _=>?_)
 refine Ai (fun he=>absurd he (by decide)) (fun _=>?_)
 refine Ai (fun _=>?_) (fun he=>absurd rfl he)
 refine w.callv rInt9_calls fun h2 w=>?_
 refine w.st1 0 rfl rfl rfl rfl fun h3 w=>?_
 exact Reply9.fin x w 0 1 rfl rfl (Jd9.ok rfl)
theorem rlpop_calls (x:As h0 h (aT xb t pv lw rv key kv now av lv [] noText)) (g:RG9 h0 kv k av A key t pv lw rv):CallsH Tryz.prog 61 [ptr xb,.string ⟨#[76,80,79,80]⟩] h
  (Ret (Reply9 h0 h xb t pv lw rv key kv now av lv (match placeN t.list.length 0 with
   |some i=>.ok (textR (t.list[i]?.getD noText),[unheadE key])
   |none=>.ok (nilR,[])))):=by
 refine f61_calls (by simp) ?_
 intro b4 h1 g1
 have w:=x.st.new g1
 have hsl:=fun h2 hc=>(th_lists (g.th h2 hc)).2.1
 obtain⟨la,lc,rfl,_⟩:=(hsl h0 (Chg.refl _)).form
 have t9:=g.t9
 have ln:t.list.length≤2000:=t9.ls
 refine w.ldr9 1 rfl rfl ?_
 refine Ai (fun he=>absurd he (by decide)) (fun _=>?_)
 refine Ai (fun he=>absurd he (by decide)) (fun _=>?_)
 refine Ai (fun _=>?_) (fun he=>absurd rfl he)
 refine Ai rfl (Ai (fun hz=>?_) (fun hz=>?_))
 ·have hz:t.list.length=0:=by omega
  refine w.st1 0 rfl rfl rfl rfl fun h3 w=>?_
  exact Reply9.fin (a:=0) (m:=0) (s:=noText) x w 0 1 rfl rfl (Jd9.ok (by rw[hz];rfl))
 ·have hz:0<t.list.length:=by omega
  have hp:placeN t.list.length 0=some 0:=by unfold placeN;rw[if_neg (by omega),if_pos (by omega)];rfl
  rw[hp]
  refine Ai (fun _=>?_) (fun he=>absurd rfl he)
  refine call_ret (rtake9_calls (x.out w 1 rfl).1 (by simp)) ?_
  rintro _ h3 ⟨lv2,_,o3⟩
  have w:=w.own 1 rfl o3
  obtain⟨b,o,rfl⟩:=(hsl h0 (Chg.refl _)).addr hz
  obtain⟨s,hs⟩:∃s,t.list[0]? =some s:=⟨_,List.getElem?_eq_getElem (by omega)⟩
  have hcs:=(hsl _ (x.base w)).cells encS_len hs
  refine sl_ix (hsl _ (x.base w)) (0) (by omega) hs ?_
  refine w.callv rText9_calls fun h4 w=>?_
  refine w.st1 0 rfl rfl rfl rfl fun h5 w=>?_
  exact Reply9.fin x w 0 1 rfl rfl (Jd9.ok (by show Except.ok (textR (t.list[0]?.getD noText),[unheadE key])=_;rw[hs];rfl))
theorem rrpop_calls (x:As h0 h (aT xb t pv lw rv key kv now av lv [] noText)) (g:RG9 h0 kv k av A key t pv lw rv):CallsH Tryz.prog 61 [ptr xb,.string ⟨#[82,80,79,80]⟩] h
  (Ret (Reply9 h0 h xb t pv lw rv key kv now av lv (match placeN t.list.length (-1)with
   |some i=>.ok (textR (t.list[i]?.getD noText),[untailE key])
   |none=>.ok (nilR,[])))):=by
 refine f61_calls (by simp) ?_
 intro b4 h1 g1
 have w:=x.st.new g1
 have hsl:=fun h2 hc=>(th_lists (g.th h2 hc)).2.1
 obtain⟨la,lc,rfl,_⟩:=(hsl h0 (Chg.refl _)).form
 have t9:=g.t9
 have ln:t.list.length≤2000:=t9.ls
 refine w.ldr9 1 rfl rfl ?_
 refine Ai (fun he=>absurd he (by decide)) (fun _=>?_)
 refine Ai (fun he=>absurd he (by decide)) (fun _=>?_)
 refine Ai (fun he=>absurd he (by decide)) (fun _=>?_)
 refine Ai (fun _=>?_) (fun he=>absurd rfl he)
 refine Ai rfl (Ai (fun hz=>?_) (fun hz=>?_))
 ·have hz:t.list.length=0:=by omega
  refine w.st1 0 rfl rfl rfl rfl fun h3 w=>?_
  exact Reply9.fin (a:=0) (m:=0) (s:=noText) x w 0 1 rfl rfl (Jd9.ok (by rw[hz];rfl))
 ·have hz:0<t.list.length:=by omega
  have hp:placeN t.list.length (-1)=some (t.list.length-1):=by unfold placeN;rw[if_pos (by omega),if_pos (by omega)];congr 1;omega
  rw[hp]
  refine Ai (fun he=>absurd he (by decide)) (fun _=>?_)
  refine call_ret (rtake9_calls (x.out w 1 rfl).1 (by simp)) ?_
  rintro _ h3 ⟨lv2,_,o3⟩
  have w:=w.own 1 rfl o3
  obtain⟨b,o,rfl⟩:=(hsl h0 (Chg.refl _)).addr hz
  refine Ai rfl (fun z hz'=>?_)
  have hz':z=(t.list.length:Int)-1:=hz'.trans (wrap_in (by omega) (by omega))
  subst hz'
  obtain⟨s,hs⟩:∃s,t.list[t.list.length-1]? =some s:=⟨_,List.getElem?_eq_getElem (by omega)⟩
  have hcs:=(hsl _ (x.base w)).cells encS_len hs
  refine sl_ix (hsl _ (x.base w)) (t.list.length-1) (by omega) hs ?_
  refine w.callv rText9_calls fun h4 w=>?_
  refine w.st1 0 rfl rfl rfl rfl fun h5 w=>?_
  exact Reply9.fin x w 0 1 rfl rfl (Jd9.ok (by show Except.ok (textR (t.list[t.list.length-1]?.getD noText),[untailE key])=_;rw[hs];rfl))
theorem rlindex_calls (hn:numOf s=some n) (x:As h0 h (aT xb t pv lw rv key kv now av lv [] noText)) (g:RG9 h0 kv k av [key,s] key t pv lw rv):CallsH Tryz.prog 61 [ptr xb,.string ⟨#[76,73,78,68,69,88]⟩] h
  (Ret (Reply9 h0 h xb t pv lw rv key kv now av lv (match placeN t.list.length n with
   |some i=>.ok (textR (t.list[i]?.getD noText),[])
   |none=>.ok (nilR,[])))):=by
 refine f61_calls (by simp) ?_
 intro b4 h1 g1
 have w:=x.st.new g1
 have hsl:=fun h2 hc=>(th_lists (g.th h2 hc)).2.1
 obtain⟨la,lc,rfl,_⟩:=(hsl h0 (Chg.refl _)).form
 have t9:=g.t9
 have ln:t.list.length≤2000:=t9.ls
 refine w.ldr9 1 rfl rfl ?_
 refine Ai (fun he=>absurd he (by decide)) (fun _=>?_)
 refine Ai (fun he=>absurd he (by decide)) (fun _=>?_)
 refine Ai (fun he=>absurd he (by decide)) (fun _=>?_)
 refine Ai (fun he=>absurd he (by decide)) (fun _=>?_)
 refine Ai (fun he=>absurd he (by decide)) (fun _=>?_)
 obtain⟨b,o,cc,rfl⟩:=g.c.argF (by simp)
 refine w.ldr9 1 rfl rfl ?_
 refine g.c.ix (x.base w) 1 rfl rfl ?_
 have zs:=g.az s (by simp)
 refine callp (rnum_some (by omega) hn) ?_
 have n64:=numOf_in hn
 refine Ai (fun he=>absurd he (by decide)) (fun _=>?_)
 cases hp:placeN t.list.length n with
 |none=>
  refine callp (rplace_none (by omega) n64 hp) ?_
  refine Ai (fun _=>?_) (fun he=>absurd rfl he)
  refine w.st1 0 rfl rfl rfl rfl fun h3 w=>?_
  exact Reply9.fin (a:=0) (m:=0) (s:=noText) x w 0 1 rfl rfl (Jd9.ok rfl)
 |some i=>
  have hi:=placeN_lt hp
  refine callp (rplace_some (by omega) n64 hp) ?_
  refine Ai (fun _=>?_) (fun he=>absurd rfl he)
  obtain⟨b,o,rfl⟩:=(hsl h0 (Chg.refl _)).addr (by omega)
  obtain⟨s',hs⟩:∃s,t.list[i]? =some s:=⟨_,List.getElem?_eq_getElem hi⟩
  refine sl_ix (hsl _ (x.base w)) i rfl hs ?_
  refine w.callv rText9_calls fun h4 w=>?_
  refine w.st1 0 rfl rfl rfl rfl fun h5 w=>?_
  exact Reply9.fin x w 0 1 rfl rfl (Jd9.ok (by show Except.ok (textR (t.list[i]?.getD noText),[])=_;rw[hs];rfl))
theorem rlset_calls (hn:numOf s=some n) (x:As h0 h (aT xb t pv lw rv key kv now av lv [] noText)) (g:RG9 h0 kv k av [key,s,u] key t pv lw rv):CallsH Tryz.prog 61 [ptr xb,.string ⟨#[76,83,69,84]⟩] h
  (Ret (Reply9 h0 h xb t pv lw rv key kv now av lv (match placeN t.list.length n with
   |some i=>.ok (okR,dropsS (k.map RX.pr) key now++[atE key i u])
   |none=>.error wRange))):=by
 refine f61_calls (by simp) ?_
 intro b4 h1 g1
 have w:=x.st.new g1
 have hsl:=fun h2 hc=>(th_lists (g.th h2 hc)).2.1
 obtain⟨la,lc,rfl,_⟩:=(hsl h0 (Chg.refl _)).form
 have t9:=g.t9
 have ln:t.list.length≤2000:=t9.ls
 refine w.ldr9 1 rfl rfl ?_
 refine Ai (fun he=>absurd he (by decide)) (fun _=>?_)
 refine Ai (fun he=>absurd he (by decide)) (fun _=>?_)
 refine Ai (fun he=>absurd he (by decide)) (fun _=>?_)
 refine Ai (fun he=>absurd he (by decide)) (fun _=>?_)
 refine Ai (fun he=>absurd he (by decide)) (fun _=>?_)
 obtain⟨b,o,cc,rfl⟩:=g.c.argF (by simp)
 refine w.ldr9 1 rfl rfl ?_
 refine g.c.ix (x.base w) 1 rfl rfl ?_
 have zs:=g.az s (by simp)
 refine callp (rnum_some (by omega) hn) ?_
 have n64:=numOf_in hn
 refine Ai (fun he=>absurd he (by decide)) (fun _=>?_)
 cases hp:placeN t.list.length n with
 |none=>
  refine callp (rplace_none (by omega) n64 hp) ?_
  refine Ai (fun he=>absurd he (by decide)) (fun _=>?_)
  refine w.stw9 1 rfl fun h2 w=>?_
  refine w.st1 0 rfl rfl rfl rfl fun h3 w=>?_
  exact Reply9.fin (a:=0) (m:=0) (s:=noText) x w 0 1 rfl rfl (Jd9.no (why:=wRange) (by decide) rfl)
 |some i=>
  refine callp (rplace_some (by omega) n64 hp) ?_
  refine Ai (fun he=>absurd he (by decide)) (fun _=>?_)
  have zu:=g.az u (by simp)
  have zk:=g.ks
  refine w.ldr9 1 rfl rfl ?_
  refine g.c.ix (x.base w) 2 rfl rfl ?_
  refine call_ret (rput9_calls g.c (x.out w 1 rfl).1 (by simp) (by omega) (by omega) (by decide) (by omega)) ?_
  rintro _ h8 ⟨rfl,lv2,_,o8⟩
  have w:=w.own 1 rfl o8
  refine w.callv rStatus9_calls fun h9 w=>?_
  refine w.st1 0 rfl rfl rfl rfl fun h10 w=>?_
  exact Reply9.fin x w 0 1 rfl rfl (Jd9.ok rfl)
theorem rlrange_calls (hn:numOf s=some n) (hm:numOf u=some m) (x:As h0 h (aT xb t pv lw rv key kv now av lv [] noText)) (g:RG9 h0 kv k av [key,s,u] key t pv lw rv):CallsH Tryz.prog 61 [ptr xb,.string ⟨#[76,82,65,78,71,69]⟩] h
  (Ret (Reply9 h0 h xb t pv lw rv key kv now av lv (.ok (listR (spanL t.list n m),[])))):=by
 refine f61_calls (by simp) ?_
 intro b4 h1 g1
 have w:=x.st.new g1
 have hsl:=fun h2 hc=>(th_lists (g.th h2 hc)).2.1
 obtain⟨la,lc,rfl,_⟩:=(hsl h0 (Chg.refl _)).form
 have t9:=g.t9
 have ln:t.list.length≤2000:=t9.ls
 refine w.ldr9 1 rfl rfl ?_
 refine Ai (fun he=>absurd he (by decide)) (fun _=>?_)
 refine Ai (fun he=>absurd he (by decide)) (fun _=>?_)
 refine Ai (fun he=>absurd he (by decide)) (fun _=>?_)
 refine Ai (fun he=>absurd he (by decide)) (fun _=>?_)
 refine Ai (fun he=>absurd he (by decide)) (fun _=>?_)
 obtain⟨b,o,cc,rfl⟩:=g.c.argF (by simp)
 refine w.ldr9 1 rfl rfl ?_
 refine g.c.ix (x.base w) 1 rfl rfl ?_
 have zs:=g.az s (by simp)
 refine callp (rnum_some (by omega) hn) ?_
 have n64:=numOf_in hn
 refine Ai (fun _=>?_) (fun he=>absurd rfl he)
 refine w.ldr9 1 rfl rfl ?_
 refine g.c.ix (x.base w) 2 rfl rfl ?_
 have zu:=g.az u (by simp)
 refine callp (rnum_some (by omega) hm) ?_
 have m64:=numOf_in hm
 refine callp (rspan_calls (by omega) n64 m64) ?_
 have hsp:=spanN_le t.list.length n m
 unfold spanL
 generalize (spanN t.list.length n m).1=p at*
 generalize (spanN t.list.length n m).2=q at*
 refine Ai (by omega) (Ai (by omega) (Ai (by omega) ?_))
 refine sl_slc (lo:=p) (hi:=q) encS_len (hsl _ (x.base w)) hsp.1 hsp.2 fun v1 hv1=>?_
 refine call_ret (rtexts_calls (hv1 _ (hsl _ (x.base w))) (by simp only[List.length_take,List.length_drop];omega)) ?_
 rintro _ h5 ⟨⟨ra,rn,rc,rfl,sl,fr⟩,c5⟩
 have w:=w.ext c5
 have zz:=w.chg.size
 have i4:=g1.id
 have z1:=g1.size
 refine w.st2 0 rfl rfl rfl rfl fun h6 w k6=>?_
 exact⟨_,rfl,cells_blk (w.get 0 rfl),listR (((t.list.drop p).take (q-p))),lv,[],noText,⟨ra,rn,rc,rfl,sl.chg k6 (fun b hb=>by have:=fr b hb;simp;omega),fun b hb=>by have:=fr b hb;omega⟩,⟨t,_,_,_,key,x.out w 1 rfl⟩,Jd9.ok rfl⟩
def accR9 (S:Space) (key:ByteArray) (now:Int) (e:ByteArray→Eff) (l:List ByteArray) (j:Nat):List Eff:=if j=0 then[]else dropsS S key now++(l.take j).map e
theorem accR9_next {S:Space} {key:ByteArray} {now:Int} {e:ByteArray→Eff} {l:List ByteArray} {j:Nat} (hj:j<l.length):preL S key now (accR9 S key now e l j)++[e l[j]]=accR9 S key now e l (j+1):=by
 unfold accR9 preL
 rw[if_neg (by omega:¬j+1=0),List.take_succ_eq_append_getElem hj,List.map_append]
 cases j with
 |zero=>simp
 |succ j=>
  have h1:¬(j+1=0):=by omega
  have h2:¬((dropsS S key now++(l.take (j+1)).map e).length=0):=by rw[List.length_append,List.length_map,List.length_take];omega
  rw[if_neg h1,if_neg h2,List.append_assoc]
  rfl
theorem accR9_len {S:Space} {key:ByteArray} {now:Int} {e:ByteArray→Eff} {l:List ByteArray} {j:Nat} (hl:l.length≤20):(accR9 S key now e l j).length≤100:=by
 unfold accR9
 have:=drops_len S key now
 split
 ·simp
 ·simp only[List.length_append,List.length_map,List.length_take];omega
set_option maxHeartbeats 1000000 in
theorem rlpush_calls {l:List ByteArray} (hl:0<l.length) (x:As h0 h (aT xb t pv lw rv key kv now av lv [] noText)) (g:RG9 h0 kv k av (key::l) key t pv lw rv):CallsH Tryz.prog 61 [ptr xb,.string ⟨#[76,80,85,83,72]⟩] h
  (Ret (Reply9 h0 h xb t pv lw rv key kv now av lv (.ok (numR (t.list.length+l.length),dropsS (k.map RX.pr) key now++l.map (headE key))))):=by
 refine f61_calls (by simp) ?_
 intro b4 h1 g1
 have w:=x.st.new g1
 have hsl:=fun h2 hc=>(th_lists (g.th h2 hc)).2.1
 obtain⟨la,lc,rfl,_⟩:=(hsl h0 (Chg.refl _)).form
 have t9:=g.t9
 have ln:t.list.length≤2000:=t9.ls
 refine w.ldr9 1 rfl rfl ?_
 have zk:=g.ks
 have zal:(key::l).length≤20:=g.al
 simp only[List.length_cons]at zal
 obtain⟨b,o,cc,rfl⟩:=g.c.argF (by simp)
 refine Ai (fun _=>?_) (fun he=>absurd rfl he)
 refine Ai (fun he=>absurd he (by decide)) (fun _=>?_)
 refine loop_intro (fun q:Nat×Value=>[(0,ptr xb),(4,ptr b4),(5,.slice la t.list.length lc),(6,.int .i64 7),(7,.int .i64 ((q.1+1:Nat):Int))])
  (fun q h'=>q.1≤l.length∧St (xb::vblk lv) h h' [.b b4 [.int .i64 0,.int .i64 0,.string ⟨#[]⟩,.slice none 0 0],aT xb t pv (.slice la t.list.length lc) rv key kv now (.slice (some ⟨b,o,none⟩) (key::l).length cc) q.2 (accR9 (k.map RX.pr) key now (headE key) l q.1) noText])
  (fun q=>l.length-q.1) (0,lv) ⟨rfl,rfl,rfl,rfl,rfl,trivial⟩ ⟨Nat.zero_le _,w⟩ ?_
 rintro⟨q,lq⟩ h4 ⟨hq,w⟩
 have hq:q≤l.length:=hq
 have la2:=accR9_len (S:=k.map RX.pr) (key:=key) (now:=now) (e:=headE key) (l:=l) (j:=q) (by omega)
 refine w.ldr9 1 rfl rfl ?_
 refine Ai rfl (Ai (fun hlt=>?_) (fun hge=>?_))
 ·have hlt:q<l.length:=by simp only[List.length_cons]at hlt;omega
  refine w.ldr9 1 rfl rfl ?_
  refine g.c.ix (x.base w) (q+1) rfl (s:=l[q]) (by simp[hlt]) ?_
  refine Ai rfl (fun z hz=>?_)
  have hz:z=(t.list.length:Int)+((q+1:Nat):Int):=hz.trans (wrap_in (by omega) (by omega))
  subst hz
  have zl:=g.az l[q] (List.mem_cons_of_mem _ (List.getElem_mem hlt))
  refine call_ret (rput9_calls g.c (x.out w 1 rfl).1 (Nat.le_trans la2 (by omega)) (by omega) (by omega) (by decide) (by omega)) ?_
  rintro _ h5 ⟨rfl,lv2,_,o5⟩
  have w:=w.own 1 rfl o5
  rw[show preL (k.map RX.pr) key now (accR9 (k.map RX.pr) key now (headE key) l q)++[⟨7,key,⟨#[]⟩,l[q],0⟩]=accR9 (k.map RX.pr) key now (headE key) l (q+1)from accR9_next (e:=headE key) hlt]at w
  refine Ai rfl (fun z hz=>?_)
  have hz:=add_in hz (by omega) (by omega)
  subst hz
  exact Ai rfl (Ei (q+1,_) (Ai ⟨rfl,rfl,rfl,rfl,rfl,trivial⟩ (Ai ⟨hlt,w⟩ (by simp only;omega))))
 ·have hkl:q=l.length:=by simp only[List.length_cons]at hge;omega
  subst hkl
  refine w.ldr9 1 rfl rfl ?_
  refine Ai rfl (fun z hz=>?_)
  have hz:z=(t.list.length:Int)+((key::l).length:Int):=hz.trans (wrap_in (by simp only[List.length_cons];omega) (by simp only[List.length_cons];omega))
  subst hz
  refine Ai rfl (fun z hz=>?_)
  have hz:z=(t.list.length:Int)+(l.length:Int):=hz.trans ((wrap_in (by simp only[List.length_cons];omega) (by simp only[List.length_cons];omega)).trans (by simp only[List.length_cons];omega))
  subst hz
  refine w.callv rInt9_calls fun h6 w=>?_
  refine w.st1 0 rfl rfl rfl rfl fun h7 w=>?_
  exact Reply9.fin x w 0 1 rfl rfl (Jd9.ok (by unfold accR9;rw[if_neg (by omega),List.take_length];rfl))
set_option maxHeartbeats 1000000 in
theorem rrpush_calls {l:List ByteArray} (hl:0<l.length) (x:As h0 h (aT xb t pv lw rv key kv now av lv [] noText)) (g:RG9 h0 kv k av (key::l) key t pv lw rv):CallsH Tryz.prog 61 [ptr xb,.string ⟨#[82,80,85,83,72]⟩] h
  (Ret (Reply9 h0 h xb t pv lw rv key kv now av lv (.ok (numR (t.list.length+l.length),dropsS (k.map RX.pr) key now++l.map (tailE key))))):=by
 refine f61_calls (by simp) ?_
 intro b4 h1 g1
 have w:=x.st.new g1
 have hsl:=fun h2 hc=>(th_lists (g.th h2 hc)).2.1
 obtain⟨la,lc,rfl,_⟩:=(hsl h0 (Chg.refl _)).form
 have t9:=g.t9
 have ln:t.list.length≤2000:=t9.ls
 refine w.ldr9 1 rfl rfl ?_
 have zk:=g.ks
 have zal:(key::l).length≤20:=g.al
 simp only[List.length_cons]at zal
 obtain⟨b,o,cc,rfl⟩:=g.c.argF (by simp)
 refine Ai (fun he=>absurd he (by decide)) (fun _=>?_)
 refine Ai (fun _=>?_) (fun he=>absurd rfl he)
 refine Ai (fun _=>?_) (fun he=>absurd rfl he)
 refine loop_intro (fun q:Nat×Value=>[(0,ptr xb),(4,ptr b4),(5,.slice la t.list.length lc),(6,.int .i64 8),(7,.int .i64 ((q.1+1:Nat):Int))])
  (fun q h'=>q.1≤l.length∧St (xb::vblk lv) h h' [.b b4 [.int .i64 0,.int .i64 0,.string ⟨#[]⟩,.slice none 0 0],aT xb t pv (.slice la t.list.length lc) rv key kv now (.slice (some ⟨b,o,none⟩) (key::l).length cc) q.2 (accR9 (k.map RX.pr) key now (tailE key) l q.1) noText])
  (fun q=>l.length-q.1) (0,lv) ⟨rfl,rfl,rfl,rfl,rfl,trivial⟩ ⟨Nat.zero_le _,w⟩ ?_
 rintro⟨q,lq⟩ h4 ⟨hq,w⟩
 have hq:q≤l.length:=hq
 have la2:=accR9_len (S:=k.map RX.pr) (key:=key) (now:=now) (e:=tailE key) (l:=l) (j:=q) (by omega)
 refine w.ldr9 1 rfl rfl ?_
 refine Ai rfl (Ai (fun hlt=>?_) (fun hge=>?_))
 ·have hlt:q<l.length:=by simp only[List.length_cons]at hlt;omega
  refine w.ldr9 1 rfl rfl ?_
  refine g.c.ix (x.base w) (q+1) rfl (s:=l[q]) (by simp[hlt]) ?_
  refine Ai rfl (fun z hz=>?_)
  have hz:z=(t.list.length:Int)+((q+1:Nat):Int):=hz.trans (wrap_in (by omega) (by omega))
  subst hz
  have zl:=g.az l[q] (List.mem_cons_of_mem _ (List.getElem_mem hlt))
  refine call_ret (rput9_calls g.c (x.out w 1 rfl).1 (Nat.le_trans la2 (by omega)) (by omega) (by omega) (by decide) (by omega)) ?_
  rintro _ h5 ⟨rfl,lv2,_,o5⟩
  have w:=w.own 1 rfl o5
  rw[show preL (k.map RX.pr) key now (accR9 (k.map RX.pr) key now (tailE key) l q)++[⟨8,key,⟨#[]⟩,l[q],0⟩]=accR9 (k.map RX.pr) key now (tailE key) l (q+1)from accR9_next (e:=tailE key) hlt]at w
  refine Ai rfl (fun z hz=>?_)
  have hz:=add_in hz (by omega) (by omega)
  subst hz
  exact Ai rfl (Ei (q+1,_) (Ai ⟨rfl,rfl,rfl,rfl,rfl,trivial⟩ (Ai ⟨hlt,w⟩ (by simp only;omega))))
 ·have hkl:q=l.length:=by simp only[List.length_cons]at hge;omega
  subst hkl
  refine w.ldr9 1 rfl rfl ?_
  refine Ai rfl (fun z hz=>?_)
  have hz:z=(t.list.length:Int)+((key::l).length:Int):=hz.trans (wrap_in (by simp only[List.length_cons];omega) (by simp only[List.length_cons];omega))
  subst hz
  refine Ai rfl (fun z hz=>?_)
  have hz:z=(t.list.length:Int)+(l.length:Int):=hz.trans ((wrap_in (by simp only[List.length_cons];omega) (by simp only[List.length_cons];omega)).trans (by simp only[List.length_cons];omega))
  subst hz
  refine w.callv rInt9_calls fun h6 w=>?_
  refine w.st1 0 rfl rfl rfl rfl fun h7 w=>?_
  exact Reply9.fin x w 0 1 rfl rfl (Jd9.ok (by unfold accR9;rw[if_neg (by omega),List.take_length];rfl))
end
end Go.Proofs.YtjnijlnmbjjgpaaGreatDoor
namespace Go.Proofs.YtjnijlnmbjjgpaaGreatDoor
open Go Go.Sx C
theorem lword_calls {h:Heap} {s:ByteArray} (hs:s.size<4611686018427387904):CallsH Tryz.prog 39 [.string s] h (Ret fun r h'=>r=.string (up s)∧Chg [] h h'):=by
 obtain⟨⟨bs⟩⟩:=s
 have hs:bs.length<4611686018427387904:=hs
 refine f39_calls (by simp) ?_
 intro c b h1 hc g
 have hc:bs.length≤c:=hc
 obtain⟨tail,ht⟩:∃tail,tail=List.replicate (c-bs.length) (Value.int .u8 0):=⟨_,rfl⟩
 have gb:BlkW h1 b (cellB bs++tail):=by rw[ht];exact g.blk
 refine loop_intro (fun q:Nat=>[(3,.slice (some ⟨b,0,none⟩) bs.length c),(8,.slice (some ⟨b,0,none⟩) bs.length c),(9,.int .i64 bs.length),(10,.int .i64 q)]) (fun q h'=>q≤bs.length∧BlkW h' b (cellB (upTo bs q)++tail)∧h'.size=h1.size∧∀k,k≠b→h'[k]? =h1[k]?) (fun q=>bs.length-q) 0 ⟨rfl,rfl,rfl,rfl,trivial⟩ ⟨Nat.zero_le _,by rw[upTo_zero];exact gb,rfl,fun _ _=>rfl⟩ ?_
 rintro q h2 ⟨hq,hb,hsz,hold⟩
 have next:∀{h3:Heap},q<bs.length→BlkW h3 b (cellB (upTo bs (q+1))++tail)→h3.size=h1.size→(∀k,k≠b→h3[k]? =h1[k]?)→q+1≤bs.length∧BlkW h3 b (cellB (upTo bs (q+1))++tail)∧h3.size=h1.size∧∀k,k≠b→h3[k]? =h1[k]? :=fun a b c d=>⟨a,b,c,d⟩
 refine Ai rfl (Ai (fun hlt=>?_) (fun hge=>?_))
 ·have hlt:q<bs.length:=by omega
  have cq:=cell_q hb hlt
  refine Ai (by omega) (Ai (by omega) (Ei _ (Ai cq (Ai rfl (Ai (fun h97=>?_) (fun hn=>?_))))))
  ·refine Ai rfl (Ai (fun h122=>?_) (fun hn=>?_))
   ·refine Ai rfl (fun z hz=>Ai rfl (fun z1 hz1=>?_))
    have hz:z=(bs[q].toNat:Int)-97:=by rw[hz];exact wrap8 (by omega) (by omega)
    have hz1:z1=(upB bs[q]).toNat:=by
     rw[upB_lo h97 h122,hz1,hz]
     have:=wrap8 (x:=(bs[q].toNat:Int)-97+65) (by omega) (by omega)
     exact this.trans (by omega)
    refine Ai (by omega) (Ai (by omega) (Ei _ (Ai hb (Ai ?_ (Ai rfl (Ai (Go.Sx.ones1 rfl) fun h3 p=>?_))))))
    ·show 0+q*1+1≤_
     rw[List.length_append,cellB_len,upTo_len];omega
    ·refine Ai rfl (fun z2 hz2=>?_)
     have hz2:=add_in hz2 (by omega) (by omega)
     subst hz2
     exact Ai rfl (Ei (q+1) (Ai ⟨rfl,rfl,rfl,rfl,trivial⟩ (Ai (next hlt (put_q hlt hz1 p) (p.size.trans hsz) fun k hk=>(p.old k hk).trans (hold k hk)) (by omega))))
   ·refine Ai rfl (fun z2 hz2=>?_)
    have hz2:=add_in hz2 (by omega) (by omega)
    subst hz2
    exact Ai rfl (Ei (q+1) (Ai ⟨rfl,rfl,rfl,rfl,trivial⟩ (Ai (next hlt (by rw[same_q hlt (upB_not fun hh=>hn hh.2)];exact hb) hsz hold) (by omega))))
  ·refine Ai rfl (fun z2 hz2=>?_)
   have hz2:=add_in hz2 (by omega) (by omega)
   subst hz2
   exact Ai rfl (Ei (q+1) (Ai ⟨rfl,rfl,rfl,rfl,trivial⟩ (Ai (next hlt (by rw[same_q hlt (upB_not fun hh=>hn hh.1)];exact hb) hsz hold) (by omega))))
 ·have hkl:q=bs.length:=by omega
  subst hkl
  rw[upTo_all]at hb
  refine Ei (bs.map upB) (Ai (by simp) (Ai (cells_pre hb) (Ai rfl ?_)))
  refine⟨by rw[hsz,g.size];omega,fun k hk _=>?_⟩
  have:=g.id
  rw[hold k (by omega),g.old k hk]
def cmd9:List (List UInt8×Nat):=[
 ([72,83,69,84],81),
 ([72,71,69,84],82),
 ([72,68,69,76],83),
 ([72,76,69,78],84),
 ([72,71,69,84,65,76,76],85),
 ([72,73,78,67,82,66,89],86),
 ([76,80,85,83,72],87),
 ([82,80,85,83,72],88),
 ([76,80,79,80],89),
 ([82,80,79,80],90),
 ([76,76,69,78],91),
 ([76,73,78,68,69,88],92),
 ([76,82,65,78,71,69],93),
 ([76,83,69,84],94),
 ([83,65,68,68],95),
 ([83,82,69,77],96),
 ([83,73,83,77,69,77,66,69,82],97),
 ([83,67,65,82,68],98),
 ([83,77,69,77,66,69,82,83],99),
 ([83,73,78,84,69,82],100),
 ([90,65,68,68],101),
 ([90,82,69,77],102),
 ([90,83,67,79,82,69],103),
 ([90,73,78,67,82,66,89],104),
 ([90,67,65,82,68],105),
 ([90,82,65,78,75],106),
 ([90,82,65,78,71,69],107),
 ([90,82,65,78,71,69,66,89,83,67,79,82,69],108)]
def look9:List (List UInt8×Nat)→ByteArray→Option Nat
 |[],_=>none
 |(n,g)::l,w=>if w=ofB n then some g else look9 l w
def Found9 (W:ByteArray) (ms:List MapEntry):Option Nat→Prop
 |some g=>∃j,mfind (.string W) ms 0=some (j,.func (.func g) #[] #[])
 |none=>mfind (.string W) ms 0=none
def Cm9:List MapEntry→List (List UInt8×Nat)→Prop
 |[],[]=>True
 |e::es,(n,g)::ns=>e.key=.string (ofB n)∧e.val=.func (.func g) #[] #[]∧Cm9 es ns
 |_,_=>False
theorem Cm9.snoc:∀{es:List MapEntry} {ns:List (List UInt8×Nat)} {n:List UInt8} {g c:Nat},Cm9 es ns→Cm9 (es++[{key:=.string (ofB n),val:=.func (.func g) #[] #[],born:=c}]) (ns++[(n,g)])
 |[],[],_,_,_,_=>⟨rfl,rfl,trivial⟩
 |_::_,(_,_)::_,_,_,_,⟨h1,h2,h3⟩=>⟨h1,h2,Cm9.snoc h3⟩
 |[],_::_,_,_,_,h=>h.elim
 |_::_,[],_,_,_,h=>h.elim
theorem Cm9.keys:∀{es:List MapEntry} {ns:List (List UInt8×Nat)},Cm9 es ns→KeysF es (ns.map Prod.fst)
 |[],[],_=>rfl
 |e::es,(n,g)::ns,⟨h1,_,h3⟩=>by
  have:=Cm9.keys h3
  unfold KeysF at this⊢
  simp[h1,this]
 |[],_::_,h=>h.elim
 |_::_,[],h=>h.elim
theorem Cm9.found (W:ByteArray):∀{es:List MapEntry} {ns:List (List UInt8×Nat)} (i:Nat),Cm9 es ns→(match look9 ns W with|some g=>∃j,mfind (.string W) es i=some (j,.func (.func g) #[] #[])|none=>mfind (.string W) es i=none)
 |[],[],_,_=>rfl
 |e::es,(n,g)::ns,i,⟨h1,h2,h3⟩=>by
  have ih:=Cm9.found W (i+1) h3
  unfold look9
  by_cases hw:W=ofB n
  ·rw[if_pos hw]
   refine⟨i,?_⟩
   unfold mfind
   rw[h1,hw,if_pos (sameBits_refl (k:=.str) rfl),h2]
  ·rw[if_neg hw]
   have hn:¬(Instr.sameBits 10000 (.string W) e.key=true):=fun hs=>by
    have:=sameBits_eq (k:=.str) (by rfl) (by rw[h1];rfl) hs
    rw[h1]at this
    simp at this
    exact hw this
   cases hl:look9 ns W with
   |none=>
    rw[hl]at ih
    show mfind _ (e::es) i=none
    unfold mfind
    rw[if_neg hn];exact ih
   |some g2=>
    rw[hl]at ih
    obtain⟨j,h7⟩:=ih
    refine⟨j,?_⟩
    unfold mfind
    rw[if_neg hn];exact h7
 |[],_::_,_,h=>h.elim
 |_::_,[],_,h=>h.elim
def mupO (p:List UInt8×Nat):SOper:=⟨none,none,.mup .str (.tmp 1) (.const (.string (ofB p.1))) (.func p.2)⟩
theorem mup_go {Qp:List PanicEntry→Heap→Prop} {K:Env→Heap→Prop} {h0:Heap} {mb:Nat} {σ:Env} {rest:List SOper} (hσ:σ 1=some (.map (some mb))) (k:∀h' es c,St [] h0 h' [.m mb es c]→Cm9 es cmd9→sops Tryz.prog Qp K rest σ h'):
  ∀(ns pre:List (List UInt8×Nat)) {h:Heap} {es:List MapEntry} {c:Nat},pre++ns=cmd9→St [] h0 h [.m mb es c]→Cm9 es pre→((pre++ns).map Prod.fst).Nodup→sops Tryz.prog Qp K (ns.map mupO++rest) σ h
 |[],pre,h,es,c,e,w,cm,_=>by
  simp only[List.append_nil]at e
  subst e
  exact k h es c w cm
 |(n,g)::ns,pre,h,es,c,e,w,cm,hd=>by
  have ky:=cm.keys
  have hnot:n∉pre.map Prod.fst:=by
   rw[List.map_append]at hd
   have:=(List.nodup_append.1 hd).2.2
   intro hm
   exact this n hm n (by simp) rfl
  show sopr Tryz.prog σ h (mupO (n,g)) (sops Tryz.prog Qp K (ns.map mupO++rest)) Qp
  simp only[mupO,sopr,sop,ev,hσ]
  refine Ai rfl (Ei es (Ei c (Ai (w.get 0 rfl) (Ai ky.fits ?_))))
  rw[ky.miss hnot]
  intro h' p
  have w:St [] h0 h' [.m mb _ _]:=w.mput 0 rfl p
  exact mup_go hσ k ns (pre++[(n,g)]) (by rw[List.append_assoc];exact e) w cm.snoc (by rw[List.append_assoc];exact hd)
theorem cmd9_nodup:(cmd9.map Prod.fst).Nodup:=by decide+kernel
theorem r1_eq:f38r1=⟨some 1,none,.mkm⟩::((cmd9.map mupO)++[⟨some 2,none,.mv (.tmp 1)⟩,⟨some 0,none,.mv (.tmp 2)⟩]):=by kernel_rfl
theorem ops_go {P:Program} {l:List SOper} {c:SCode} {Q:Post} {σ:Env} {ds:List Deferred} {h:Heap} (hs:sops P (fun ch h'=>thenQ (swp P c Q) Q (.panic ch) (hide l σ) ds h') (fun σ' h'=>thenQ (swp P c Q) Q .normal σ' ds h') l σ h):swp P (.seq (.ops l) c) Q σ ds h:=hs
theorem cmds9_calls {h:Heap}:CallsH Tryz.prog 38 [] h (Ret fun r h'=>Chg [] h h'∧∃mb es c,r=.map (some mb)∧MapB h' mb es c∧(∀e∈es,fits .str e.key=true)∧∀W,Found9 W es (look9 cmd9 W)):=by
 refine f38_calls (by simp) ?_
 refine mv_go (v:=.map none) rfl ?_
 refine ops_go ?_
 rw[r1_eq]
 intro mb h1 g1
 have w:=(St.start h).newm g1
 refine mup_go rfl (fun h' es c w cm=>?_) cmd9 [] rfl w trivial cmd9_nodup
 refine⟨w.chg,mb,es,c,rfl,w.get 0 rfl,cm.keys.fits,fun W=>?_⟩
 have:=Cm9.found W 0 cm
 unfold Found9
 exact this
theorem do9_D:SoundD Tryz.prog 20 46 f20 [.cn 6 4,.c1 7,.t 8]:=soundD_of (fl:=true) mixed Tryz.func20 rfl (by kernel_rfl) (by kernel_rfl) (by kernel_rfl)
theorem dodef9_F:SoundF Tryz.prog 40 14 f40 []:=soundF_of (fl:=true) mixed Tryz.func40 rfl (by kernel_rfl) (by kernel_rfl) (by kernel_rfl)
theorem dodef9_calm {h:Heap} {b6 b7:Nat}:DefH Tryz.prog 40 [ptr b6,ptr b7] .returning h fun e u' h'=>(∃v,e=.returned v)∧u'=.returning∧h'=h:=by
 refine dodef9_F (by simp) ?_
 exact⟨rfl,⟨_,rfl⟩,rfl,rfl⟩
theorem BFail9_calls {h:Heap} {s:ByteArray}:CallsH Tryz.prog 41 [.string s] h (Ret fun r h'=>r=repV 2 0 s∧Chg [] h h'):=by
 refine f41_calls (by simp) ?_
 intro b h1 g1
 refine Ei _ (Ai g1.blk (Ai (by decide) (Ai rfl (Ai (repV_ones 2 0 s) ?_))))
 intro h2 p2
 have g2:=g1.put p2
 exact⟨_,rfl,cells_blk g2.blk,rfl,g2.chg⟩
theorem dodef9_stop {h:Heap} {b6 b7:Nat} {why:ByteArray} {r4:List Value} {lv:Value} (B6:Blk h b6 r4) (hr:r4.length=4) (B7:Blk h b7 [lv]) (hne:b6≠b7):
  DefH Tryz.prog 40 [ptr b6,ptr b7] (.panicking (stop9 why)) h fun e u' h'=>(∃v,e=.returned v)∧u'=.panicking [{v:=.iface 92 (.agg #[.string why]),recovered:=true}]∧
   Blk h' b6 [.int .i64 2,.int .i64 0,.string why,.slice none 0 0]∧Blk h' b7 [.slice none 0 0]∧Chg [b6,b7] h h':=by
 refine dodef9_F (by simp) ?_
 have l6:=B6.lt
 have l7:=B7.lt
 refine Ai (fun _=>?_) (fun hne=>absurd rfl hne)
 intro b3 h1 g1
 refine Ei _ (Ai g1.blk (Ai (by decide) (Ai rfl (Ai (ones1 rfl) ?_))))
 intro h2 p2
 have g2:=g1.put p2
 have B3:Blk h2 b3 [.string why]:=p2.blk
 refine Ei _ (Ai (cell_blk B3 rfl) ?_)
 refine call_ret BFail9_calls ?_
 rintro _ h3 ⟨rfl,c3⟩
 have c03:=g2.chg.nil c3
 refine Ei _ (Ai (B6.chg c03 (by simp)) (Ai (by rw[hr];decide) (Ai rfl (Ai (repV_ones 2 0 why) ?_))))
 intro h4 p4
 have B64:Blk h4 b6 [.int .i64 2,.int .i64 0,.string why,.slice none 0 0]:=by
  have h9:Blk h4 b6 (splice r4 0 [.int .i64 2,.int .i64 0,.string why,.slice none 0 0]):=p4.blk
  rw[four hr rfl]at h9
  exact h9
 refine Ei _ (Ai ((B7.chg c03 (by simp)).chg p4.chg (by simp;omega)) (Ai (by simp) (Ai rfl (Ai (ones1 rfl) ?_))))
 intro h5 p5
 have B75:Blk h5 b7 [.slice none 0 0]:=p5.blk
 have c5:Chg [b6,b7] h h5:=((c03.mono (by simp)).trans p4.chg (fun _ hx=>hx) (fun x hx _=>by simp at hx;simp[hx])).trans p5.chg (fun _ hx=>hx) (fun x hx _=>by simp at hx;simp[hx])
 exact⟨rfl,⟨_,rfl⟩,rfl,B64.chg p5.chg (by simp;omega),B75,c5⟩
theorem do9_calls {h:Heap} {kb sb mb c g:Nat} {now:Int} {av:Value} {w:ByteArray} {A:List ByteArray} {m:List KI} {res:Res} (kr:KR h kb sb mb c m)
  (hA:SL encS h av (w::A)) (_hl:(w::A).length<4611686018427387904) (hz:w.size<4611686018427387904) (hno:look9 cmd9 (up w)=some g)
  (hf:∀h1 ab av',(∀h',Chg [] h h'→SL encS h' av' A)→As h h1 (c0 ab kb now av')→CallsH Tryz.prog g [ptr ab] h1 (Cmd9 h h1 ab kb now av' res)):
  CallsH Tryz.prog 20 [ptr kb,.int .i64 now,av] h (Ret (DoR h res)):=by
 obtain⟨a,cc,rfl,hcc⟩:=hA.form
 obtain⟨bb,oo,rfl⟩:=hA.addr (by simp)
 refine do9_D (by simp) ?_
 intro b6 h1 g1
 have w1:=(St.start h).new g1
 intro b7 h2 g2
 have w2:=w1.new g2
 have c2:Chg [] h h2:=w2.chg
 refine Ai rfl (Ai (fun h0=>absurd h0 (by simp;omega)) (fun _=>?_))
 refine callp (same_nil (kr.ext c2).ks) ?_
 have hA2:=hA.ext c2
 have hc0:=hA2.cells encS_len (i:=0) (x:=w) (by simp)
 refine Ai (by decide) (Ai (by simp) (Ei _ (Ai (by simpa using hc0 0 _ rfl) ?_)))
 refine callq_ret cmds9_calls ?_
 rintro _ h3 ⟨c3,b,es,c',rfl,hm,hfit,hfd⟩
 refine Ai c3.ext ?_
 refine callq_ret (lword_calls hz) ?_
 rintro _ h4 ⟨rfl,c4⟩
 refine Ai c4.ext ?_
 refine Ai rfl (Ei es (Ei c' (Ai (hm.chg c4 (by simp)) (Ai hfit ?_))))
 have hfind:=hfd (up w)
 rw[hno]at hfind
 obtain⟨i,hfind⟩:=hfind
 rw[hfind]
 have w4:=(w2.ext c3).ext c4
 refine Ai (by decide) (Ai (by simp only[List.length_cons];omega) (Ai (by omega) ?_))
 refine sl_slc (lo:=1) (hi:=(w::A).length) encS_len (hA.ext w4.chg) (by simp) (Nat.le_refl _) fun v1 hv1=>?_
 have e1:((w::A).drop 1).take ((w::A).length-1)=A:=by simp
 rw[e1]at hv1
 obtain⟨a1,cc1,rfl,hcc1⟩:=(hv1 h hA).form
 intro ab h5 g5
 have w5:St [] h h5 [.b ab (cellsC zeroT nilV nilV nilV false kb now noText (.slice a1 A.length cc1) nilV),.b b7 [.slice none 0 0],.b b6 [.int .i64 0,.int .i64 0,.string ⟨#[]⟩,.slice none 0 0]]:=w4.new g5
 have z4:=w4.chg.size
 have i5:=g5.id
 have w6:St [] h h5 [c0 ab kb now (.slice a1 A.length cc1),.b b7 [.slice none 0 0],.b b6 [.int .i64 0,.int .i64 0,.string ⟨#[]⟩,.slice none 0 0]]:=
  w5.set 0 rfl (Chg.refl _) (by simp) ⟨w5.get 0 rfl,OL.nil,⟨_,_,_,rfl,SL.nil,SL.nil,SL.nil⟩,by simp[bl3,vblk,ablk],by simp[vblk,ablk],by simp[bl3,vblk,ablk],by simp[vblk,ablk]⟩ (fun b hb=>by
   simp[cE,En.fp,bl3,vblk,ablk]at hb
   exact .inl (by simp[En.fp,hb]))
 refine call_out9 (hf h5 ab _ (fun h' hc=>hv1 h' (hA.ext hc)) (w6.as 0 rfl)) ?_ ?_
 ·rintro v h6 ⟨q,E,key,t,is,pv,lw,rv,lv,he,⟨ra,rn,rc,rfl,sl,fr⟩,_,o6⟩
  subst he
  have w:=w6.own 0 rfl o6
  obtain⟨la,lc,rfl⟩:=w.cform 0 rfl
  have hi6:=g1.id
  have hi7:=g2.id
  have z1:=g1.size
  have z2:=g2.size
  have z3:=(c3.nil c4).size
  have z5:=g5.size
  have keep:∀{h7 h8:Heap} {k:Nat},k<h5.size→SL encQ h7 (.slice ra rn rc) q.l→Chg [k] h7 h8→SL encQ h8 (.slice ra rn rc) q.l:=fun hk sl hc=>sl.chg hc fun b hb=>by have:=fr b hb;simp;omega
  have l6:b6<h5.size:=by omega
  have l7:b7<h5.size:=by omega
  refine w.st2 2 rfl rfl rfl rfl fun h7 w7 k7=>?_
  have sl:=keep l6 sl k7
  refine w7.ldw 2 rfl rfl ?_
  refine Ai ?_ ?_
  ·refine w7.ldc 0 rfl rfl ?_
   refine w7.st2 2 rfl rfl rfl rfl fun h8 w8 k8=>?_
   refine w8.st2 1 rfl rfl rfl rfl fun h9 w9 k9=>?_
   have sl:=keep l7 (keep l6 sl k8) k9
   refine Ai (by simp) (dodef9_calm.mono ?_)
   rintro e u' h' ⟨⟨v,rfl⟩,rfl,rfl⟩
   exact⟨_,rfl,cells_blk (w9.get 2 rfl),_,cell_blk (w9.get 1 rfl) rfl,w9.chg,_,_,rfl,⟨ra,rn,rc,rfl,sl,fun _ _=>Nat.zero_le _⟩,(w9.get 0 rfl).2.1.sl,fun b hb=>by
    rcases(w9.ents 0 _ rfl).2 b (List.mem_cons_of_mem _ (List.mem_append_left _ hb))with h1|h1
    ·cases h1
    ·exact h1⟩
  ·refine w7.st2 2 rfl rfl rfl rfl fun h8 w8 k8=>?_
   refine w8.ldc 0 rfl rfl ?_
   refine w8.st2 1 rfl rfl rfl rfl fun h9 w9 k9=>?_
   have sl:=keep l7 (keep l6 sl k8) k9
   refine Ai (by simp) (dodef9_calm.mono ?_)
   rintro e u' h' ⟨⟨v,rfl⟩,rfl,rfl⟩
   exact⟨_,rfl,cells_blk (w9.get 2 rfl),_,cell_blk (w9.get 1 rfl) rfl,w9.chg,_,_,rfl,⟨ra,rn,rc,rfl,sl,fun _ _=>Nat.zero_le _⟩,(w9.get 0 rfl).2.1.sl,fun b hb=>by
    rcases(w9.ents 0 _ rfl).2 b (List.mem_cons_of_mem _ (List.mem_append_left _ hb))with h1|h1
    ·cases h1
    ·exact h1⟩
 ·rintro why h6 ⟨he,c6⟩
  subst he
  have w:=w6.gone 0 rfl c6 (fun k hk=>.inl hk)
  have hi6:=g1.id
  have hi7:=g2.id
  have z1:=g1.size
  refine Ai (by simp) ((dodef9_stop (w.get 2 rfl) rfl (w.get 1 rfl) (w.ne 2 1 rfl rfl (by decide))).mono ?_)
  rintro e u' h' ⟨⟨v,rfl⟩,rfl,B6',B7',c7⟩
  exact⟨_,rfl,cells_blk B6',_,cell_blk B7' rfl,w.chg.fresh c7 (by simp;omega),rfl⟩
def BoundR9 (N:ByteArray) (lo hi kd wh:Int):Prop:=∀h,CallsH Tryz.prog 55 [.string N] h (Ret fun r h'=>r=.tuple #[.int .i64 lo,.int .i64 hi,.int .i64 kd,.int .i64 wh,.bool true]∧h'=h)
def qHSET:ByteArray:=⟨#[72,83,69,84]⟩
def qHGET:ByteArray:=⟨#[72,71,69,84]⟩
def qHDEL:ByteArray:=⟨#[72,68,69,76]⟩
def qHLEN:ByteArray:=⟨#[72,76,69,78]⟩
def qHGETALL:ByteArray:=⟨#[72,71,69,84,65,76,76]⟩
def qHINCRBY:ByteArray:=⟨#[72,73,78,67,82,66,89]⟩
def qLPUSH:ByteArray:=⟨#[76,80,85,83,72]⟩
def qRPUSH:ByteArray:=⟨#[82,80,85,83,72]⟩
def qLPOP:ByteArray:=⟨#[76,80,79,80]⟩
def qRPOP:ByteArray:=⟨#[82,80,79,80]⟩
def qLLEN:ByteArray:=⟨#[76,76,69,78]⟩
def qLINDEX:ByteArray:=⟨#[76,73,78,68,69,88]⟩
def qLRANGE:ByteArray:=⟨#[76,82,65,78,71,69]⟩
def qLSET:ByteArray:=⟨#[76,83,69,84]⟩
def qSADD:ByteArray:=⟨#[83,65,68,68]⟩
def qSREM:ByteArray:=⟨#[83,82,69,77]⟩
def qSISMEMBER:ByteArray:=⟨#[83,73,83,77,69,77,66,69,82]⟩
def qSCARD:ByteArray:=⟨#[83,67,65,82,68]⟩
def qSMEMBERS:ByteArray:=⟨#[83,77,69,77,66,69,82,83]⟩
def qSINTER:ByteArray:=⟨#[83,73,78,84,69,82]⟩
def qZADD:ByteArray:=⟨#[90,65,68,68]⟩
def qZREM:ByteArray:=⟨#[90,82,69,77]⟩
def qZSCORE:ByteArray:=⟨#[90,83,67,79,82,69]⟩
def qZRANK:ByteArray:=⟨#[90,82,65,78,75]⟩
def qZINCRBY:ByteArray:=⟨#[90,73,78,67,82,66,89]⟩
def qZCARD:ByteArray:=⟨#[90,67,65,82,68]⟩
def qZRANGE:ByteArray:=⟨#[90,82,65,78,71,69]⟩
def qZRANGEBYSCORE:ByteArray:=⟨#[90,82,65,78,71,69,66,89,83,67,79,82,69]⟩
def need9 (wh:Int) (i:Nat):Prop:=(wh=4∧i%2=1)∨wh=3∨(wh=i∧wh<3)
section
variable {rest:List Value} {h0 h h1 h':Heap} {xb i:Nat} {now n wh kd lo hi:Int} {kv av lv:Value} {k:List RX} {A l:List ByteArray} {L:List Eff} {why key N:ByteArray} {M:List En} {T:List Nat} {e e1 e2:En} {res:Res}
theorem RxO9.trans {h2:Heap} (a:RxO9 h0 h e h1 e1) (b:RxO9 h0 h1 e1 h2 e2):RxO9 h0 h e h2 e2:=by
 obtain⟨a1,a2⟩:=a
 obtain⟨b1,b2⟩:=b
 have hz:=a2.chg.size
 refine⟨b1,b2.at_,a2.chg.trans b2.chg (fun b hb=>hb) (fun b hb hlt=>?_),fun b hb=>?_⟩
 ·rcases a2.fresh b hb with h|h
  ·exact h
  ·omega
 ·rcases b2.fresh b hb with h|h
  ·exact a2.fresh b h
  ·exact .inr (by omega)
set_option maxHeartbeats 1000000 in
theorem rnums9_calls (c:RC9 h0 kv k av A) (x:As h0 h (rxE9 xb rest kv now av lv L noText)) (hA:A.length≤20) (hz:∀s∈A,s.size≤300):CallsH Tryz.prog 57 [ptr xb,.int .i64 wh] h
  (Ret fun r h'=>((∀j,1≤j→j<A.length→need9 wh j→∃m,(A[j]?.bind numOf)=some m)∧r=.bool true∧RxO9 h0 h (rxE9 xb rest kv now av lv L noText) h' (rxE9 xb rest kv now av lv L noText))∨
   ((∃j,1≤j∧j<A.length∧need9 wh j∧(A[j]?.bind numOf)=none)∧r=.bool false∧RxO9 h0 h (rxE9 xb rest kv now av lv L noText) h' (rxE9 xb rest kv now av lv L wNum))):=by
 obtain⟨a,cc,rfl⟩:=c.argN
 refine f57_calls (by simp) ?_
 refine loop_intro (fun i:Nat=>[(0,ptr xb),(1,.int .i64 wh),(4,.bool false),(5,.int .i64 i)])
  (fun i h'=>1≤i∧(i≤A.length∨i=1)∧(∀j,1≤j→j<i→need9 wh j→∃m,(A[j]?.bind numOf)=some m)∧RxO9 h0 h (rxE9 xb rest kv now (.slice a A.length cc) lv L noText) h' (rxE9 xb rest kv now (.slice a A.length cc) lv L noText))
  (fun i=>A.length+1-i) 1 ⟨rfl,rfl,rfl,rfl,trivial⟩ ⟨Nat.le_refl _,.inr rfl,fun j h1 h2=>absurd h2 (by omega),RxO9.refl x (Chg.refl _)⟩ ?_
 rintro i h4 ⟨hi1,hil,hall,rx⟩
 have w:=rx.1.st
 refine w.ldr9 0 rfl rfl ?_
 refine Ai rfl (Ai (fun hlt=>?_) (fun hge=>?_))
 ·have hlt:i<A.length:=by omega
  refine Ai rfl (Ai (fun q1=>?_) (fun q1=>?_))
  ·refine Ai rfl (Ai (by decide) (fun z hz'=>?_))
   have hz':z=((i%2:Nat):Int):=by rw[hz'];exact(Int.ofNat_tmod i 2).symm
   subst hz'
   refine Ai rfl (Ai (fun q2=>?_) (fun q2=>?_))
   ·have hneed:need9 wh i:=.inl ⟨q1,by omega⟩
    refine call_ret (rnumA9_calls c rx.1 (List.getElem?_eq_getElem hlt) (by have:=hz _ (List.getElem_mem hlt);omega)) ?_
    rintro _ h5 ⟨rfl,r5⟩
    cases hn:numOf A[i]with
    |none=>
     rw[hn]at r5
     exact .inr ⟨⟨i,by omega,hlt,hneed,by rw[List.getElem?_eq_getElem hlt];exact hn⟩,rfl,rx.trans r5⟩
    |some m=>
     rw[hn]at r5
     have rx:=rx.trans r5
     refine Ai rfl (fun z hz=>?_)
     have hz:=add_in hz (by omega) (by omega)
     subst hz
     refine Ai rfl (Ei (i+1) (Ai ⟨rfl,rfl,rfl,rfl,trivial⟩ (Ai ⟨by omega,.inl hlt,fun j h1 h2=>?_,rx⟩ (by omega))))
     rcases Nat.lt_or_ge j i with h3|h3
     ·exact hall j h1 h3
     ·obtain rfl:j=i:=by omega
      exact fun _=>by rw[List.getElem?_eq_getElem hlt];exact⟨m,hn⟩
   ·refine Ai rfl (Ai (fun q3=>absurd q3 (by omega)) (fun q3=>?_))
    refine Ai rfl (Ai (fun q4=>?_) (fun q4=>?_))
    ·refine Ai rfl (Ai (fun q5=>absurd q5 (by omega)) (fun q5=>?_))
     refine Ai rfl (fun z hz=>?_)
     have hz:=add_in hz (by omega) (by omega)
     subst hz
     refine Ai rfl (Ei (i+1) (Ai ⟨rfl,rfl,rfl,rfl,trivial⟩ (Ai ⟨by omega,.inl hlt,fun j h1 h2=>?_,rx⟩ (by omega))))
     rcases Nat.lt_or_ge j i with h3|h3
     ·exact hall j h1 h3
     ·obtain rfl:j=i:=by omega
      exact fun hn=>by unfold need9 at hn;omega
    ·refine Ai rfl (fun z hz=>?_)
     have hz:=add_in hz (by omega) (by omega)
     subst hz
     refine Ai rfl (Ei (i+1) (Ai ⟨rfl,rfl,rfl,rfl,trivial⟩ (Ai ⟨by omega,.inl hlt,fun j h1 h2=>?_,rx⟩ (by omega))))
     rcases Nat.lt_or_ge j i with h3|h3
     ·exact hall j h1 h3
     ·obtain rfl:j=i:=by omega
      exact fun hn=>by unfold need9 at hn;omega
  ·refine Ai rfl (Ai (fun q3=>?_) (fun q3=>?_))
   ·have hneed:need9 wh i:=.inr (.inl q3)
    refine call_ret (rnumA9_calls c rx.1 (List.getElem?_eq_getElem hlt) (by have:=hz _ (List.getElem_mem hlt);omega)) ?_
    rintro _ h5 ⟨rfl,r5⟩
    cases hn:numOf A[i]with
    |none=>
     rw[hn]at r5
     exact .inr ⟨⟨i,by omega,hlt,hneed,by rw[List.getElem?_eq_getElem hlt];exact hn⟩,rfl,rx.trans r5⟩
    |some m=>
     rw[hn]at r5
     have rx:=rx.trans r5
     refine Ai rfl (fun z hz=>?_)
     have hz:=add_in hz (by omega) (by omega)
     subst hz
     refine Ai rfl (Ei (i+1) (Ai ⟨rfl,rfl,rfl,rfl,trivial⟩ (Ai ⟨by omega,.inl hlt,fun j h1 h2=>?_,rx⟩ (by omega))))
     rcases Nat.lt_or_ge j i with h3|h3
     ·exact hall j h1 h3
     ·obtain rfl:j=i:=by omega
      exact fun _=>by rw[List.getElem?_eq_getElem hlt];exact⟨m,hn⟩
   ·refine Ai rfl (Ai (fun q4=>?_) (fun q4=>?_))
    ·refine Ai rfl (Ai (fun q5=>?_) (fun q5=>?_))
     ·have hneed:need9 wh i:=.inr (.inr ⟨q4,q5⟩)
      refine call_ret (rnumA9_calls c rx.1 (List.getElem?_eq_getElem hlt) (by have:=hz _ (List.getElem_mem hlt);omega)) ?_
      rintro _ h5 ⟨rfl,r5⟩
      cases hn:numOf A[i]with
      |none=>
       rw[hn]at r5
       exact .inr ⟨⟨i,by omega,hlt,hneed,by rw[List.getElem?_eq_getElem hlt];exact hn⟩,rfl,rx.trans r5⟩
      |some m=>
       rw[hn]at r5
       have rx:=rx.trans r5
       refine Ai rfl (fun z hz=>?_)
       have hz:=add_in hz (by omega) (by omega)
       subst hz
       refine Ai rfl (Ei (i+1) (Ai ⟨rfl,rfl,rfl,rfl,trivial⟩ (Ai ⟨by omega,.inl hlt,fun j h1 h2=>?_,rx⟩ (by omega))))
       rcases Nat.lt_or_ge j i with h3|h3
       ·exact hall j h1 h3
       ·obtain rfl:j=i:=by omega
        exact fun _=>by rw[List.getElem?_eq_getElem hlt];exact⟨m,hn⟩
     ·refine Ai rfl (fun z hz=>?_)
      have hz:=add_in hz (by omega) (by omega)
      subst hz
      refine Ai rfl (Ei (i+1) (Ai ⟨rfl,rfl,rfl,rfl,trivial⟩ (Ai ⟨by omega,.inl hlt,fun j h1 h2=>?_,rx⟩ (by omega))))
      rcases Nat.lt_or_ge j i with h3|h3
      ·exact hall j h1 h3
      ·obtain rfl:j=i:=by omega
       exact fun hn=>by unfold need9 at hn;omega
    ·refine Ai rfl (fun z hz=>?_)
     have hz:=add_in hz (by omega) (by omega)
     subst hz
     refine Ai rfl (Ei (i+1) (Ai ⟨rfl,rfl,rfl,rfl,trivial⟩ (Ai ⟨by omega,.inl hlt,fun j h1 h2=>?_,rx⟩ (by omega))))
     rcases Nat.lt_or_ge j i with h3|h3
     ·exact hall j h1 h3
     ·obtain rfl:j=i:=by omega
      exact fun hn=>by unfold need9 at hn;omega
 ·exact .inl ⟨fun j h1 h2=>hall j h1 (by omega),rfl,rx⟩
end
end Go.Proofs.YtjnijlnmbjjgpaaGreatDoor
namespace Go.Proofs.YtjnijlnmbjjgpaaGreatDoor
open Go Go.Sx C
def NumsOk (wh:Int) (A:List ByteArray):Prop:=∀j,1≤j→j<A.length→need9 wh j→∃m,(A[j]?.bind numOf)=some m
inductive RT where
 |mk (k i:Int) (s:ByteArray) (v:Value) (l:List RT)
def encT:RT→List Value
 |.mk k i s v _=>[.int .i64 k,.int .i64 i,.string s,v]
mutual
def RT.ok (h:Heap):RT→Prop
 |.mk _ _ _ v l=>SL encT h v l∧l.length<4611686018427387904∧RT.oks h l
def RT.oks (h:Heap):List RT→Prop
 |[]=>True
 |t::l=>t.ok h∧RT.oks h l
end
mutual
def RT.same:RT→RT→Bool
 |.mk k i s _ l,.mk k' i' s' _ m=>decide (k=k')&&decide (i=i')&&decide (s=s')&&RT.sames l m
def RT.sames:List RT→List RT→Bool
 |[],[]=>true
 |x::l,y::m=>x.same y&&RT.sames l m
 |_,_=>false
end
mutual
theorem RT.ok.ext {h h':Heap} (hc:Chg [] h h'):∀{t:RT},t.ok h→t.ok h'
 |.mk _ _ _ _ _,⟨h1,h2,h3⟩=>⟨h1.ext hc,h2,RT.oks.ext hc h3⟩
theorem RT.oks.ext {h h':Heap} (hc:Chg [] h h'):∀{l:List RT},RT.oks h l→RT.oks h' l
 |[],_=>trivial
 |_::_,⟨h1,h2⟩=>⟨h1.ext hc,RT.oks.ext hc h2⟩
end
theorem RT.oks.mem {h:Heap}:∀{l:List RT},RT.oks h l→∀t∈l,t.ok h
 |_::_,⟨h1,h2⟩,t,ht=>by
  rcases List.mem_cons.1 ht with rfl|ht
  ·exact h1
  ·exact RT.oks.mem h2 t ht
theorem encT_len:∀t,(encT t).length=4
 |.mk _ _ _ _ _=>rfl
theorem sames_len:∀{l m:List RT},l.length≠m.length→RT.sames l m=false
 |[],[],h=>absurd rfl h
 |[],_::_,_=>by simp[RT.sames]
 |_::_,[],_=>by simp[RT.sames]
 |x::l,y::m,h=>by
  simp only[RT.sames,Bool.and_eq_false_iff]
  exact .inr (sames_len (by simpa using h))
mutual
theorem RT.same_refl:∀t:RT,t.same t=true
 |.mk _ _ _ _ l=>by simp[RT.same,RT.sames_refl l]
theorem RT.sames_refl:∀l:List RT,RT.sames l l=true
 |[]=>by simp[RT.sames]
 |t::l=>by simp[RT.sames,RT.same_refl t,RT.sames_refl l]
end
theorem sames_drop {l m:List RT} {q:Nat} (hl:q<l.length) (hm:q<m.length):RT.sames (l.drop q) (m.drop q)=(l[q].same m[q]&&RT.sames (l.drop (q+1)) (m.drop (q+1))):=by
 rw[List.drop_eq_getElem_cons hl,List.drop_eq_getElem_cons hm,RT.sames]
theorem sizeOf_item {k i:Int} {s:ByteArray} {v:Value} {l:List RT} {q:Nat} (hq:q<l.length):SizeOf.sizeOf l[q]<SizeOf.sizeOf (RT.mk k i s v l):=by
 have h1:=List.sizeOf_lt_of_mem (List.getElem_mem hq)
 rw[RT.mk.sizeOf_spec];omega
theorem rsame_calls:∀(n:Nat) (a b:RT) (h:Heap),SizeOf.sizeOf a<n→a.ok h→b.ok h→CallsH Tryz.prog 27 [.agg ⟨encT a⟩,.agg ⟨encT b⟩] h (Ret fun r h'=>r=.bool (a.same b)∧Chg [] h h')
 |0,_,_,_,hn,_,_=>absurd hn (by omega)
 |n+1,.mk k i s v l,.mk k' i' s' v' m,h,hn,⟨hv,hl,hls⟩,⟨hu,hm,hms⟩=>by
  obtain⟨x,c,rfl,hlc⟩:=hv.form
  obtain⟨x',c',rfl,hmc⟩:=hu.form
  have hs:RT.same (.mk k i s (.slice x l.length c) l) (.mk k' i' s' (.slice x' m.length c') m)=(decide (k=k')&&decide (i=i')&&decide (s=s')&&RT.sames l m):=by rw[RT.same]
  rw[hs]
  refine f27_calls (by simp) ?_
  intro b1 h1 g1 b2 h2 g2
  have B1:Blk h2 b1 [.int .i64 k,.int .i64 i,.string s,.slice x l.length c]:=Blk.chg g1.blk g2.chg (by simp)
  have B2:Blk h2 b2 [.int .i64 k',.int .i64 i',.string s',.slice x' m.length c']:=g2.blk
  have ch:Chg [] h h2:=g1.chg.nil g2.chg
  refine Ei _ (Ai (cell_blk B1 rfl) (Ei _ (Ai (cell_blk B2 rfl) (Ai rfl (Ai (fun hne=>?_) (fun he=>?_))))))
  ·exact Ai (by rw[decide_eq_false hne];rfl) ch
  have he:k=k':=Classical.not_not.1 he
  refine Ei _ (Ai (cell_blk B1 rfl) (Ei _ (Ai (cell_blk B2 rfl) (Ai rfl (Ai (fun hne=>?_) (fun he2=>?_))))))
  ·exact Ai (by rw[decide_eq_false hne,Bool.and_false];rfl) ch
  have he2:i=i':=Classical.not_not.1 he2
  refine Ei _ (Ai (cell_blk B1 rfl) (Ei _ (Ai (cell_blk B2 rfl) (Ai (fun hne=>?_) (fun he3=>?_)))))
  ·exact Ai (by rw[decide_eq_false hne,Bool.and_false];rfl) ch
  have he3:s=s':=Classical.not_not.1 he3
  rw[decide_eq_true he,decide_eq_true he2,decide_eq_true he3,Bool.true_and,Bool.true_and,Bool.true_and]
  refine Ei _ (Ai (cell_blk B1 rfl) (Ei _ (Ai (cell_blk B2 rfl) (Ai rfl (Ai (fun hne=>?_) (fun he4=>?_))))))
  ·exact Ai (by rw[sames_len (by omega)];rfl) ch
  have he4:l.length=m.length:=by omega
  clear hs he he2 he3 g1 g2
  refine loop_intro (fun q:Nat=>[(2,.pointer (some ⟨b1,0,none⟩)),(3,.pointer (some ⟨b2,0,none⟩)),(5,.int .i64 q)]) (fun q h'=>q≤l.length∧Chg [] h2 h'∧RT.sames l m=RT.sames (l.drop q) (m.drop q)) (fun q=>l.length-q) 0 ⟨rfl,rfl,rfl,trivial⟩ ⟨Nat.zero_le _,Chg.refl _,rfl⟩ ?_
  rintro q h3 ⟨hq,hc3,hr⟩
  have C1:=B1.chg hc3 (by simp)
  have C2:=B2.chg hc3 (by simp)
  refine Ei _ (Ai (cell_blk C1 rfl) (Ai rfl (Ai (fun hlt=>?_) (fun hge=>?_))))
  ·have hlt:q<l.length:=by omega
   have hltm:q<m.length:=by omega
   have hch:=ch.nil hc3
   obtain⟨b,o,rfl⟩:=hv.addr (by omega)
   obtain⟨b',o',rfl⟩:=hu.addr (by omega)
   have hcs:=(hv.ext hch).cells encT_len (i:=q) (x:=l[q]) (by simp[hlt])
   have hds:=(hu.ext hch).cells encT_len (i:=q) (x:=m[q]) (by simp[hltm])
   refine Ei _ (Ai (cell_blk C1 rfl) ?_)
   refine Ai (by omega) (Ai (by omega) (Ei (encT l[q]) (Ai (encT_len _) (Ai hcs ?_))))
   refine Ei _ (Ai (cell_blk C2 rfl) ?_)
   refine Ai (by omega) (Ai (by omega) (Ei (encT m[q]) (Ai (encT_len _) (Ai hds ?_))))
   refine call_ret (rsame_calls n l[q] m[q] h3 (by have:=sizeOf_item (k:=k) (i:=i) (s:=s) (v:=.slice (some ⟨b,o,none⟩) l.length c) hlt;omega) ((hls.mem _ (List.getElem_mem hlt)).ext hch) ((hms.mem _ (List.getElem_mem hltm)).ext hch)) ?_
   rintro r h4 ⟨hrr,hc4⟩
   rw[sames_drop hlt hltm]at hr
   cases hsm:l[q].same m[q]with
   |false=>
    rw[hsm]at hrr hr
    subst hrr
    exact Ai (by rw[hr];rfl) (hch.nil hc4)
   |true=>
    rw[hsm]at hrr hr
    subst hrr
    refine Ai rfl (fun z hz=>?_)
    have hz:=add_in hz (by omega) (by omega)
    subst hz
    refine Ai rfl (Ei (q+1) (Ai ⟨rfl,rfl,rfl,trivial⟩ (Ai ⟨by omega,hc3.nil hc4,by rw[hr,Bool.true_and]⟩ (by omega))))
  ·have hkl:q=l.length:=by omega
   subst hkl
   rw[List.drop_length,he4,List.drop_length,RT.sames]at hr
   exact Ai (by rw[hr];rfl) (ch.nil hc3)
end Go.Proofs.YtjnijlnmbjjgpaaGreatDoor


namespace Go.Proofs.YtjnijlnmbjjgpaaGreatDoor
open Go Go.Sx C
theorem ixfP_calls {h:Heap} {v:Value} {l:List Pair} {g:Nat} {cap:List Value} {p:Pair→Bool} (hv:SL encP h v l) (hl:l.length<4611686018427387904)
  (hg:∀h' x,Chg [] h h'→CallsH Tryz.prog g (.agg ⟨encP x⟩::cap) h' (Ret fun u h''=>u=.bool (p x)∧Chg [] h' h'')):
  CallsH Tryz.prog 229 [v,.func (.func g) #[] ⟨cap⟩] h
   (Ret fun r h'=>((∃(k:Nat) (hk:k<l.length),r=.int .i64 k∧p l[k]=true∧∀x∈l.take k,p x=false)∨(r=.int .i64 (-1)∧∀x∈l,p x=false))∧Chg [] h h'):=by
 obtain⟨a,c,rfl,hlc⟩:=hv.form
 refine f229_calls (by simp) ?_
 refine loop_intro (fun k:Nat=>[(0,.slice a l.length c),(1,.func (.func g) #[] ⟨cap⟩),(7,.int .i64 l.length),(8,.int .i64 k)]) (fun k h'=>k≤l.length∧Chg [] h h'∧∀x∈l.take k,p x=false) (fun k=>l.length-k) 0
  ⟨rfl,rfl,rfl,rfl,trivial⟩ ⟨Nat.zero_le _,Chg.refl h,by simp⟩ ?_
 rintro k h1 ⟨hk,hc,hall⟩
 refine Ai rfl (Ai (fun hlt=>?_) (fun hlt=>?_))
 ·have hlt:k<l.length:=by omega
  have hv1:=hv.ext hc
  obtain⟨b,o,rfl⟩:=hv1.addr (by omega)
  have hcs:=hv1.cells encP_len (i:=k) (x:=l[k]) (by simp[hlt])
  refine Ai (by omega) (Ai (by omega) (Ei (encP l[k]) (Ai rfl (Ai hcs ?_))))
  refine call_ret (hg h1 l[k] hc) ?_
  rintro _ h2 ⟨rfl,hc2⟩
  cases hp:p l[k]with
  |true=>exact Ai (.inl ⟨k,hlt,rfl,hp,hall⟩) (hc.nil hc2)
  |false=>
   refine Ai rfl (fun y hy=>?_)
   have hy:=add_in hy (by omega) (by omega)
   subst hy
   refine Ai rfl (Ei (k+1) (Ai ?_ (Ai ?_ ?_)))
   ·exact⟨rfl,rfl,rfl,rfl,trivial⟩
   ·refine⟨by omega,hc.nil hc2,fun x hx=>?_⟩
    rw[take_snoc l k hlt]at hx
    rcases List.mem_append.1 hx with hx|hx
    ·exact hall x hx
    ·simp at hx;rw[hx];exact hp
   ·omega
 ·have hkl:k=l.length:=by omega
  subst hkl
  rw[List.take_length]at hall
  exact Ai (.inr ⟨rfl,hall⟩) hc
theorem cNaN_calls {h:Heap} {s:ByteArray}:CallsH Tryz.prog 306 [.string s] h (Ret fun r h'=>r=.bool false∧h'=h):=by
 refine f306_calls (by simp) ?_
 exact Ai (fun h1=>absurd rfl h1) (fun _=>⟨rfl,rfl⟩)
theorem sNaN_calls {h:Heap} {s:ByteArray}:CallsH Tryz.prog 278 [.string s] h (Ret fun r h'=>r=.bool false∧h'=h):=by
 refine f278_calls (by simp) ?_
 exact Ai (fun h1=>absurd rfl h1) (fun _=>⟨rfl,rfl⟩)
theorem cLess_calls {h:Heap} {x y:ByteArray}:CallsH Tryz.prog 277 [.string x,.string y] h (Ret fun r h'=>r=.bool (sless x y)∧h'=h):=by
 refine f277_calls (by simp) ?_
 refine callp cNaN_calls ?_
 refine Ai (fun hl=>?_) (fun hl=>?_)
 ·have e:sless x y=true:=hl
  exact⟨by rw[e];rfl,rfl⟩
 ·have e:sless x y=false:=by
   cases hb:sless x y with
   |false=>rfl
   |true=>exact absurd hb hl
  exact⟨by rw[e];rfl,rfl⟩
theorem bsO_calls {h:Heap} {v:Value} {l:List ByteArray} {tgt:ByteArray} (hv:SL encS h v l) (hl:l.length<4611686018427387904) (hs:l.Pairwise fun a b=>sless a b=true):
  CallsH Tryz.prog 235 [v,.string tgt] h (Ret fun r h'=>(∃k:Nat,r=.tuple #[.int .i64 k,.bool (thereL l tgt)])∧h'=h):=by
 obtain⟨a,c,rfl,hlc⟩:=hv.form
 have hm:∀i j (hj:j<l.length) (hi:i≤j),sless l[j] tgt=true→sless (l[i]'(by omega)) tgt=true:=fun i j hj hi hb=>by
  by_cases e:i=j
  ·subst e;exact hb
  ·exact sless_trans (List.pairwise_iff_getElem.1 hs i j (by omega) hj (by omega)) hb
 refine f235_calls (by simp) ?_
 refine loop_intro (fun p:Nat×Nat=>[(0,.slice a l.length c),(1,.string tgt),(6,.int .i64 l.length),(7,.int .i64 p.1),(8,.int .i64 p.2)])
  (fun p h'=>p.1≤p.2∧p.2≤l.length∧h'=h∧(∀i (_:i<p.1) (h:i<l.length),sless l[i] tgt=true)∧(∀i (_:p.2≤i) (h:i<l.length),sless l[i] tgt=false)) (fun p=>p.2-p.1) (0,l.length)
  ⟨rfl,rfl,rfl,rfl,rfl,trivial⟩ ⟨Nat.zero_le _,Nat.le_refl _,rfl,by intro i hi;omega,by intro i hi hh;omega⟩ ?_
 rintro⟨i,j⟩ h1 ⟨hij,hjl,hc,hlow,hhigh⟩
 have hc:=hc.symm
 subst hc
 simp only at hij hjl hlow hhigh
 refine Ai rfl (Ai (fun hlt=>?_) (fun hlt=>?_))
 ·have hlt:i<j:=by omega
  refine Ai rfl (fun z hz=>?_)
  have hz:=add_in hz (by omega) (by omega)
  subst hz
  intro z hz
  rw[wrapU (by omega) (by omega)]at hz
  subst hz
  refine Ai rfl (fun z hz=>?_)
  have hz:z=((i:Int)+j)/2:=by
   have:z=((i:Int)+j).fdiv (2 ^ 1):=hz
   rw[this,Int.fdiv_eq_ediv_of_nonneg _ (by decide)]
   rfl
  subst hz
  intro z hz
  rw[wrap_in (by omega) (by omega)]at hz
  obtain⟨m,hm1⟩:∃m:Nat,m=(i+j)/2:=⟨_,rfl⟩
  have hz:z=(m:Int):=by omega
  subst hz
  have him:i≤m:=by omega
  have hmj:m<j:=by omega
  have hml:m<l.length:=by omega
  obtain⟨b,o,rfl⟩:=hv.addr (by omega)
  have hcs:=hv.cells encS_len (i:=m) (x:=l[m]) (by simp[hml])
  refine Ai (by omega) (Ai (by omega) (Ei _ (Ai (hcs 0 _ rfl) ?_)))
  refine callp cLess_calls ?_
  cases hb:sless l[m] tgt with
  |true=>
   refine Ai rfl (fun y hy=>?_)
   have hy:=add_in hy (by omega) (by omega)
   have hy:y=((m+1:Nat):Int):=by omega
   subst hy
   refine Ai rfl (Ei (m+1,j) (Ai ?_ (Ai ?_ ?_)))
   ·exact⟨rfl,rfl,rfl,rfl,rfl,trivial⟩
   ·refine⟨by simp only;omega,hjl,rfl,fun q hq hql=>?_,hhigh⟩
    exact hm q m hml (by simp only at hq;omega) hb
   ·simp only;omega
  |false=>
   refine Ai rfl (Ei (i,m) (Ai ?_ (Ai ?_ ?_)))
   ·exact⟨rfl,rfl,rfl,rfl,rfl,trivial⟩
   ·refine⟨him,by simp only;omega,rfl,hlow,fun q hq hql=>?_⟩
    cases hbb:sless l[q] tgt with
    |false=>rfl
    |true=>rw[hm m q hql (by simp only at hq;omega) hbb]at hb;cases hb
   ·simp only;omega
 ·have hij2:i=j:=by omega
  subst hij2
  have hno:(∀(hi:i<l.length),l[i]≠tgt)→thereL l tgt=false:=fun hne=>decide_eq_false fun hm9=>by
   obtain⟨q,hq,e⟩:=List.getElem_of_mem hm9
   by_cases h1:q<i
   ·have:=hlow q h1 hq
    rw[e,sless_irrefl]at this
    cases this
   ·by_cases h2:q=i
    ·subst h2;exact hne hq e
    ·have h3:=List.pairwise_iff_getElem.1 hs i q (by omega) hq (by omega)
     rw[e]at h3
     have h4:=hhigh i (Nat.le_refl _) (by omega)
     rw[h3]at h4
     cases h4
  refine Ai rfl (Ai (fun hin=>?_) (fun hin=>?_))
  ·have hin:i<l.length:=by omega
   obtain⟨b,o,rfl⟩:=hv.addr (by omega)
   have hcs:=hv.cells encS_len (i:=i) (x:=l[i]) (by simp[hin])
   refine Ai (by omega) (Ai (by omega) (Ei _ (Ai (hcs 0 _ rfl) ?_)))
   refine Ai (fun he=>?_) (fun hne=>?_)
   ·have e:thereL l tgt=true:=decide_eq_true (by rw[←show l[i]=tgt from he];exact List.getElem_mem hin)
    exact⟨⟨i,by rw[e];rfl⟩,rfl⟩
   ·refine Ai (by omega) (Ai (by omega) (Ei _ (Ai (hcs 0 _ rfl) ?_)))
    refine callp sNaN_calls ?_
    exact⟨⟨i,by rw[hno fun _=>hne];rfl⟩,rfl⟩
  ·exact⟨⟨i,by rw[hno fun h9=>by omega];rfl⟩,rfl⟩
theorem plus9_calls {h:Heap} {a b:Int} (ha:In64 a) (hb:In64 b):CallsH Tryz.prog 165 [.int .i64 a,.int .i64 b] h (Out9 (fun r h'=>okSum a b∧r=.int .i64 (a+b)∧h'=h) (fun why h'=>¬okSum a b∧why=wOver∧h'=h)):=by
 obtain⟨a0,a1⟩:=ha
 obtain⟨b0,b1⟩:=hb
 unfold okSum
 have good:okSum a b→swp Tryz.prog (.seq (.ops f165r2) .ret) (retQ [.t 4] (Out9 (fun r h'=>okSum a b∧r=.int .i64 (a+b)∧h'=h) (fun why h'=>¬okSum a b∧why=wOver∧h'=h))) (mk [(0,.int .i64 a),(1,.int .i64 b)]) [] h:=by
  intro hk
  obtain⟨k0,k1⟩:=id hk
  refine Ai rfl (fun z hz=>?_)
  have hz:z=a+b:=hz.trans (wrap_in (by omega) (by omega))
  subst hz
  exact⟨hk,rfl,rfl⟩
 refine f165_calls (by simp) ?_
 refine Ai rfl (Ai (fun h1=>?_) (fun h1=>?_))
 ·refine Ai rfl (fun z hz=>?_)
  have hz:z=9223372036854775807-b:=hz.trans (wrap_in (by omega) (by omega))
  subst hz
  refine Ai rfl (Ai (fun h2=>?_) (fun h2=>?_))
  ·refine must9_yes fun _=>?_
   exact cut_at [(0,.int .i64 a),(1,.int .i64 b)] ⟨rfl,rfl,trivial⟩ (good ⟨by omega,by omega⟩)
  ·refine Ai rfl (Ai (fun h3=>absurd h3 (by omega)) (fun h3=>?_))
   exact must9_no ⟨_,rfl,fun hk=>by have:=hk.2;omega,rfl,rfl⟩
 ·refine Ai rfl (Ai (fun h3=>?_) (fun h3=>absurd (show b<0 by omega) h3))
  refine Ai rfl (fun z hz=>?_)
  have hz:z= -9223372036854775808-b:=hz.trans (wrap_in (by omega) (by omega))
  subst hz
  refine Ai rfl (Ai (fun h2=>?_) (fun h2=>?_))
  ·refine must9_yes fun _=>?_
   exact cut_at [(0,.int .i64 a),(1,.int .i64 b)] ⟨rfl,rfl,trivial⟩ (good ⟨by omega,by omega⟩)
  ·exact must9_no ⟨_,rfl,fun hk=>by have:=hk.1;omega,rfl,rfl⟩
section
variable {h0 h h1 h':Heap} {ab kb sb mb c bs bt b1 b2:Nat} {now:Int} {av lv pv lw rv fv:Value} {key s n:ByteArray} {t:Thing} {is:Bool} {A pre:List ByteArray} {L:List Eff} {M:List En} {T:List Nat} {p:ByteArray→Bool} {Z:Heap→Prop}
theorem thC (hE:(cE ab kb now av key t is pv lw rv lv L).at h):SL encP h pv t.pairs∧SL encS h lw t.list∧SL encR h rv t.ranks:=by
 obtain⟨_,_,hT,_⟩:=hE
 obtain⟨p,l,r,e,h1,h2,h3⟩:=hT
 simp only[cellsT,List.cons.injEq,and_true,true_and]at e
 obtain⟨rfl,rfl,rfl⟩:=e
 exact⟨h1,h2,h3⟩
theorem fieldD1_calls {b:Nat} (B:Blk h b [.string n]) (x:Pair):CallsH Tryz.prog 230 [.agg ⟨encP x⟩,ptr b] h (Ret fun u h'=>u=.bool (decide (x.name=n))∧Chg [] h h'):=by
 refine f230_calls (by simp) ?_
 intro b2 h1 g1
 refine Ei _ (Ai (cell_blk g1.blk rfl) (Ei _ (Ai (cell_blk (B.chg g1.chg (by simp)) rfl) ?_)))
 refine Ai (fun he=>?_) (fun hne=>?_)
 ·exact⟨by rw[decide_eq_true (show x.name=n from he)];rfl,g1.chg⟩
 ·exact⟨by rw[decide_eq_false (show¬x.name=n from hne)];rfl,g1.chg⟩
theorem find_at {l:List Pair} {k:Nat} (hk:k<l.length) (hp:decide (l[k].name=n)=true) (hn:∀x∈l.take k,decide (x.name=n)=false):fieldF l n=some l[k].text:=by
 unfold fieldF
 have e:l=l.take k++l[k]::l.drop (k+1):=by rw[←List.drop_eq_getElem_cons hk,List.take_append_drop]
 have hf:l.find? (fun p=>decide (p.name=n))=some l[k]:=by
  rw[List.find?_eq_some_iff_append]
  exact⟨hp,l.take k,l.drop (k+1),e,fun x hx=>by rw[hn x hx];rfl⟩
 rw[hf];rfl
theorem find_no9 {l:List Pair} (hn:∀x∈l,decide (x.name=n)=false):fieldF l n=none:=by
 unfold fieldF
 rw[List.find?_eq_none.2 fun x hx=>by rw[hn x hx];simp];rfl
theorem field9_calls (hE:(cE ab kb now av key t is pv lw rv lv L).at h) (hl:t.pairs.length<4611686018427387904):
  CallsH Tryz.prog 154 [ptr ab,.string n] h (Ret fun r h'=>r=.tuple #[.string ((fieldF t.pairs n).getD noText),.bool (fieldF t.pairs n).isSome]∧Chg [] h h'):=by
 have sp:=(thC hE).1
 obtain⟨pa,pc,rfl,_⟩:=sp.form
 refine f154_calls (by simp) ?_
 intro b3 h1 g1
 refine Ei _ (Ai (cell_blk (hE.1.chg g1.chg (by simp)) rfl) ?_)
 refine call_ret (ixfP_calls (g:=230) (cap:=[ptr b3]) (p:=fun x=>decide (x.name=n)) (sp.ext g1.chg) hl fun h' x hc=>fieldD1_calls (g1.blk.chg hc (by simp)) x) ?_
 rintro r h2 ⟨hr,c2⟩
 have c02:=g1.chg.nil c2
 rcases hr with⟨k,hk,rfl,hp,hn⟩|⟨rfl,hn⟩
 ·rw[find_at hk hp hn]
  refine Ai rfl (Ai (fun h9=>absurd h9 (by omega)) (fun _=>?_))
  refine Ei _ (Ai (cell_blk (hE.1.chg c02 (by simp)) rfl) ?_)
  have sp2:=sp.ext c02
  obtain⟨b,o,rfl⟩:=sp2.addr (by omega)
  have hcs:=sp2.cells encP_len (i:=k) (x:=t.pairs[k]) (by simp[hk])
  refine Ai (by omega) (Ai (by omega) (Ei _ (Ai (hcs 1 _ rfl) ?_)))
  exact⟨rfl,c02⟩
 ·rw[find_no9 hn]
  refine Ai rfl (Ai (fun _=>?_) (fun h9=>absurd (by decide) h9))
  exact⟨rfl,c02⟩
theorem member9_calls (hE:(cE ab kb now av key t is pv lw rv lv L).at h) (hl:t.list.length<4611686018427387904) (hs:t.list.Pairwise fun a b=>sless a b=true):
  CallsH Tryz.prog 172 [ptr ab,.string n] h (Ret fun r h'=>r=.bool (thereL t.list n)∧Chg [] h h'):=by
 have sp:=(thC hE).2.1
 obtain⟨pa,pc,rfl,_⟩:=sp.form
 refine f172_calls (by simp) ?_
 refine Ei _ (Ai (cell_blk hE.1 rfl) ?_)
 refine call_ret (bsO_calls sp hl hs) ?_
 rintro r h2 ⟨⟨k,rfl⟩,e⟩
 have e:=e.symm
 subst e
 exact⟨rfl,Chg.refl _⟩
def TC (ab kb:Nat) (now:Int) (av:Value) (t:Thing) (is:Bool) (pv lw rv:Value) (Z:Heap→Prop) (fv:Value) (p:ByteArray→Bool):Prop:=
 ∃g fi cap,fv=.func (.func g) fi cap∧∀{h:Heap} {s key:ByteArray} {lv:Value} {L:List Eff},(cE ab kb now av key t is pv lw rv lv L).at h→Z h→CallsH Tryz.prog g (fi.toList++[.string s]++cap.toList) h (Ret fun u h'=>u=.bool (p s)∧Chg [] h h')
theorem tc_hset (hl:t.pairs.length<4611686018427387904):TC ab kb now av t is pv lw rv (fun h=>Blk h b1 [ptr ab]) (.func (.func 153) #[] #[ptr b1]) (thereH t.pairs):=
 ⟨_,_,_,rfl,fun{h s key lv L} hE hZ=>by
  refine f153_calls (by simp) ?_
  refine Ei _ (Ai (cell_blk hZ rfl) ?_)
  refine call_ret (field9_calls hE hl) ?_
  rintro _ h2 ⟨rfl,c2⟩
  exact⟨rfl,c2⟩⟩
theorem tc_hdel (hl:t.pairs.length<4611686018427387904):TC ab kb now av t is pv lw rv (fun h=>Blk h b1 [ptr ab]) (.func (.func 160) #[] #[ptr b1]) (thereH t.pairs):=
 ⟨_,_,_,rfl,fun{h s key lv L} hE hZ=>by
  refine f160_calls (by simp) ?_
  refine Ei _ (Ai (cell_blk hZ rfl) ?_)
  refine call_ret (field9_calls hE hl) ?_
  rintro _ h2 ⟨rfl,c2⟩
  exact⟨rfl,c2⟩⟩
theorem tc_member (hl:t.list.length<4611686018427387904) (hs:t.list.Pairwise fun a b=>sless a b=true):TC ab kb now av t is pv lw rv (fun _=>True) (.func (.func 172) #[ptr ab] #[]) (thereL t.list):=
 ⟨_,_,_,rfl,fun{_h _s _key _lv _L} hE _=>member9_calls hE hl hs⟩
def frE (bs mb bt:Nat) (fv:Value) (pre:List ByteArray):En:=
 .x [bs,mb,bt] (fun h=>Blk h bs [.map (some mb)]∧(∃es c,MapB h mb es c∧CM es pre)∧Blk h bt [fv]∧bs≠mb∧bt≠mb)
  (fun _ _ _ hc hn ⟨h1,⟨es,c,h2,h3⟩,h4,h5,h6⟩=>⟨h1.chg hc (hn _ (by simp)),⟨es,c,h2.chg hc (hn _ (by simp)),h3⟩,h4.chg hc (hn _ (by simp)),h5,h6⟩)
  (fun _ ⟨h1,⟨_,_,h2,_⟩,h4,_⟩ b hb=>by
   simp at hb
   rcases hb with rfl|rfl|rfl
   ·exact h1.lt
   ·exact h2.lt
   ·exact h4.lt)
theorem fresh9_calls {f:Fn} {fi cap:Array Value}:CallsH Tryz.prog 152 [.func f fi cap] h (Ret fun r h'=>(∃bs mb bt,r=.func (.func 228) #[] #[ptr bs,ptr bt]∧(frE bs mb bt (.func f fi cap) []).at h'∧∀b∈[bs,mb,bt],h.size≤b)∧Chg [] h h'):=by
 refine f152_calls (by simp) ?_
 intro bt h1 g1
 have w:=(St.start h).new g1
 intro mb h2 g2
 have w:=w.newm g2
 intro bs h3 g3
 have w:=w.new g3
 refine w.st1 0 rfl rfl rfl rfl fun h4 w=>?_
 have n1:=g1.id;have n2:=g2.id;have n3:=g3.id
 have z1:=g1.size;have z2:=g2.size;have z3:=g3.size
 refine⟨⟨bs,mb,bt,rfl,⟨w.get 0 rfl,⟨[],0,w.get 1 rfl,CM.nil⟩,w.get 2 rfl,by omega,by omega⟩,fun b hb=>?_⟩,w.chg⟩
 simp at hb
 rcases hb with rfl|rfl|rfl<;>omega
theorem _root_.Go.Sx.St.fresh {K:Value→Heap→Prop} {Qp:List PanicEntry→Heap→Prop} (w:St T h0 h M) (i j:Nat) (hi:M[i]? =some (frE bs mb bt fv pre)) (hj:M[j]? =some (cE ab kb now av key t is pv lw rv lv L)) (hij:i≠j)
  (tc:TC ab kb now av t is pv lw rv Z fv p) (hZ:∀h',Chg [mb] h h'→Z h') (hpre:pre.length<4611686018427387904)
  (k:∀h',St T h0 h' (M.set i (frE bs mb bt fv (pre++[s])))→K (.bool (!p s&&decide (s∉pre))) h'):CallsH Tryz.prog 228 [.string s,ptr bs,ptr bt] h (after K Qp):=by
 obtain⟨B1,⟨es,c,hM,cm⟩,B2,n1,n2⟩:=w.get i hi
 have hE:=w.get j hj
 have hap:mb∉(cE ab kb now av key t is pv lw rv lv L).fp:=w.apart i j _ _ hi hj hij mb (by simp[frE,En.fp])
 have hcl:cntB s pre≤pre.length:=cntB_le
 have main:CallsH Tryz.prog 228 [.string s,ptr bs,ptr bt] h (Ret fun u h'=>u=.bool (!p s&&decide (s∉pre))∧(frE bs mb bt fv (pre++[s])).at h'∧Chg [mb] h h'):=by
  obtain⟨g,fi,cap,rfl,hg⟩:=tc
  refine f228_calls (by simp) ?_
  refine Ei _ (Ai (cell_blk B1 rfl) ?_)
  -- behind the map's turn
  have rest:∀{h4:Heap} {es':List MapEntry} {c':Nat},PutO h h4 mb (.map ⟨es'⟩ c')→CM es' (pre++[s])→
    swp Tryz.prog (.seq (.ops f228r2) .ret) (retQ [.t 4] (Ret fun u h'=>u=.bool (!p s&&decide (s∉pre))∧(frE bs mb bt (.func (.func g) fi cap) (pre++[s])).at h'∧Chg [mb] h h')) (mk [(0,.string s),(1,ptr bs),(2,ptr bt)]) [] h4:=fun{h4 es' c'} p4 cm'=>by
   have c4:Chg [mb] h h4:=p4.chg
   have M4:MapB h4 mb es' c':=p4.blk
   have B14:=B1.chg c4 (by simp[n1])
   have B24:=B2.chg c4 (by simp[n2])
   have hfr:∀{h5},Chg [] h4 h5→(frE bs mb bt (.func (.func g) fi cap) (pre++[s])).at h5:=fun c5=>⟨B14.chg c5 (by simp),⟨es',c',M4.chg c5 (by simp),cm'⟩,B24.chg c5 (by simp),n1,n2⟩
   obtain⟨j2,e2⟩:=cm'.hit
   refine Ei _ (Ai (cell_blk B14 rfl) ?_)
   refine Ai rfl (Ei es' (Ei c' (Ai M4 (Ai cm'.fits ?_))))
   rw[e2]
   refine Ai rfl (Ai (fun h1=>?_) (fun h1=>?_))
   ·have hc0:cntB s pre=0:=by omega
    have hno:s∉pre:=fun hm=>by have:=cntB_pos hm;omega
    refine Ei _ (Ai (cell_blk B24 rfl) ?_)
    have hE4:(cE ab kb now av key t is pv lw rv lv L).at h4:=En.chg hE c4 (fun b hb hm=>by simp at hm;subst hm;exact hap hb)
    refine call_ret (hg hE4 (hZ h4 c4)) ?_
    rintro _ h5 ⟨rfl,c5⟩
    refine⟨?_,hfr c5,c4.trans c5 (by simp) (by simp)⟩
    rw[decide_eq_true hno,Bool.and_true]
    rfl
   ·have hin:s∈pre:=by
     rcases Decidable.em (s∈pre)with h9|h9
     ·exact h9
     ·exact absurd (by rw[cntB_zero h9];rfl) h1
    refine⟨?_,hfr (Chg.refl _),c4⟩
    rw[decide_eq_false (fun h9=>h9 hin),Bool.and_false]
    rfl
  rcases cm.cnt s with⟨e1,hn⟩|⟨j1,e1,hm⟩
  ·refine Ai rfl (Ei es (Ei c (Ai hM (Ai cm.fits ?_))))
   rw[e1]
   refine Ai rfl (fun z hz=>?_)
   have hz:z=1:=by have:=add_in hz (by omega) (by omega);omega
   subst hz
   refine Ai rfl (Ei es (Ei c (Ai hM (Ai cm.fits ?_))))
   rw[e1]
   intro h4 p4
   exact cut_at [(0,.string s),(1,ptr bs),(2,ptr bt)] ⟨rfl,rfl,rfl,trivial⟩ (rest p4 (cm.put0 (c:=c) e1 hn rfl))
  ·refine Ai rfl (Ei es (Ei c (Ai hM (Ai cm.fits ?_))))
   rw[e1]
   refine Ai rfl (fun z hz=>?_)
   have hz:=add_in hz (by omega) (by omega)
   subst hz
   refine Ai rfl (Ei es (Ei c (Ai hM (Ai cm.fits ?_))))
   rw[e1]
   intro h4 p4
   exact cut_at [(0,.string s),(1,ptr bs),(2,ptr bt)] ⟨rfl,rfl,rfl,trivial⟩ (rest p4 (cm.put1 e1 rfl))
 refine call_ret main ?_
 rintro _ h2 ⟨rfl,hf,c2⟩
 exact k h2 (w.set i hi c2 (fun b hb=>.inl (by simp at hb;simp[frE,En.fp,hb])) hf (fun b hb=>.inl hb))
end
end Go.Proofs.YtjnijlnmbjjgpaaGreatDoor
namespace Go.Proofs.YtjnijlnmbjjgpaaGreatDoor
open Go Go.Sx C
theorem newL_app {th:ByteArray→Bool}:∀{a b pre:List ByteArray},newL th pre (a++b)=newL th pre a++newL th (pre++a) b
 |[],b,pre=>by simp[newL]
 |x::a,b,pre=>by
  have ih:=newL_app (th:=th) (a:=a) (b:=b) (pre:=pre++[x])
  have e:pre++[x]++a=pre++x::a:=by simp
  rw[e]at ih
  simp only[List.cons_append,newL,ih,List.append_assoc]
theorem newL_snoc {th:ByteArray→Bool} {l:List ByteArray} {q:Nat} (hq:q<l.length):newL th [] (l.take (q+1))=newL th [] (l.take q)++(if(!th l[q]&&decide (l[q]∉l.take q))=true then[l[q]]else[]):=by
 rw[List.take_succ_eq_append_getElem hq,newL_app]
 simp[newL]
theorem newL_le {th:ByteArray→Bool} {l:List ByteArray} (q:Nat):(newL th [] (l.take q)).length≤(newL th [] l).length:=by
 have:=newL_app (th:=th) (a:=l.take q) (b:=l.drop q) (pre:=[])
 rw[List.take_append_drop]at this
 rw[this,List.length_append]
 omega
theorem newL_len {th:ByteArray→Bool}:∀{l pre:List ByteArray},(newL th pre l).length≤l.length
 |[],_=>Nat.le_refl _
 |x::l,pre=>by
  have:=newL_len (th:=th) (l:=l) (pre:=pre++[x])
  simp only[newL]
  split<;>simp<;>omega
theorem newL_cnt {th:ByteArray→Bool} {l:List ByteArray} {q:Nat} {b:Bool} (hq:q<l.length) (hb:b=(!th l[q]&&decide (l[q]∉l.take q))):(newL th [] (l.take (q+1))).length=(newL th [] (l.take q)).length+(if b=true then 1 else 0):=by
 rw[newL_snoc hq,←hb]
 cases b<;>simp
theorem twos_get:∀{q:Nat} {l:List ByteArray} (h:2*q+1<l.length),(twos l)[q]? =some (l[2*q],l[2*q+1])
 |q,[],h=>by simp at h
 |q,[a],h=>by simp at h
 |0,a::b::l,_=>rfl
 |q+1,a::b::l,h=>by
  have:=twos_get (q:=q) (l:=l) (by simp at h;omega)
  show(twos l)[q]? =_
  rw[this]
  rfl
theorem twos_half:∀{m:Nat} {l:List ByteArray},l.length≤m→2*(twos l).length=2*(l.length/2)
 |_,[],_=>rfl
 |_,[a],_=>by simp[twos]
 |0,a::b::l,hm=>by simp at hm
 |m+1,a::b::l,hm=>by
  have:=twos_half (m:=m) (l:=l) (by simp at hm;omega)
  show 2*((twos l).length+1)=2*((l.length+2)/2)
  omega
theorem twos_small:∀{m:Nat} {l:List ByteArray},l.length≤m→l.length%2=0→(∀p∈twos l,small p.1=true∧small p.2=true)→l.all small=true
 |_,[],_,_,_=>rfl
 |_,[a],_,h,_=>by simp at h
 |0,a::b::l,hm,_,_=>by simp at hm
 |m+1,a::b::l,hm,h2,h=>by
  have:=twos_small (m:=m) (l:=l) (by simp at hm;omega) (by simp at h2;omega) fun p hp=>h p (List.mem_cons_of_mem _ hp)
  obtain⟨h3,h4⟩:=h (a,b) (List.mem_cons_self ..)
  simp only[List.all_cons,this,h3,h4,Bool.and_self]
theorem small_of9 {l:List ByteArray} {x:ByteArray} (h:l.all small=true) (hx:x∈l):x.size≤1048576:=of_decide_eq_true (List.all_eq_true.1 h x hx)
theorem mv1 {P:Program} {F:List PanicEntry→Heap→Prop} {K:Env→Heap→Prop} {x:Operand} {d:Nat} {l:List SOper} {σ:Env} {h:Heap} {v:Value} (he:ev σ x=some v) (hs:sops P F K l (upd σ (some d) v) h):sops P F K (⟨some d,none,.mv x⟩::l) σ h:=by
 simp only[sops,sopr,sop,he]
 exact hs
theorem ext1 {P:Program} {F:List PanicEntry→Heap→Prop} {K:Env→Heap→Prop} {x:Operand} {d i:Nat} {l:List SOper} {σ:Env} {h:Heap} {vs:Array Value} {v:Value} (he:ev σ x=some (.tuple vs)) (hi:vs.toList[i]? =some v) (hs:sops P F K l (upd σ (some d) v) h):sops P F K (⟨some d,none,.ext x i⟩::l) σ h:=by
 simp only[sops,sopr,sop,he,hi]
 exact hs
theorem mv_two9 {P:Program} {F:List PanicEntry→Heap→Prop} {x y:Operand} {d e:Nat} {c:SCode} {Q:Post} {σ:Env} {ds:List Deferred} {h:Heap} {v u:Value} (he:ev σ x=some v) (hf:ev (upd σ (some d) v) y=some u) (hs:swp P c Q (upd (upd σ (some d) v) (some e) u) ds h):
  sops P F (fun σ' h'=>thenQ (swp P c Q) Q .normal σ' ds h') [⟨some d,none,.mv x⟩,⟨some e,none,.mv y⟩] σ h:=by
 simp only[sops,sopr,sop,he,hf]
 exact hs
section
variable {h0 h h1 h2 h':Heap} {ab kb sb mb c b1 b2 bs bt mb2:Nat} {now op kd:Int} {av lv pv lw rv fv v:Value} {key why:ByteArray} {t:Thing} {is:Bool} {A l pre:List ByteArray} {L:List Eff} {m:List KI} {S:Space} {M:List En} {T:List Nat} {res:Res} {th:ByteArray→Bool} {Z:Heap→Prop}
theorem cons_of {n:Int} (hn:1≤n) (hb:n≤A.length):∃k0 l,A=k0::l:=by
 cases A with
 |nil=>simp at hb;omega
 |cons k0 l=>exact⟨k0,l,rfl⟩
theorem fr_box (w:St T h0 h M) (i j:Nat) (hi:M[i]? =some (frE bs mb2 bt fv pre)) (hj:M[j]? =some (.b b1 [v])) (hij:i≠j):∀h',Chg [mb2] h h'→Blk h' b1 [v]:=fun h' c=>
 Blk.chg (w.get j hj) c fun hm=>w.apart i j _ _ hi hj hij mb2 (by simp[frE,En.fp]) (by simp at hm;simp[En.fp,hm])
set_option maxHeartbeats 2000000 in
theorem hset9 (p:P9 h0 kb sb mb c m S av A) (hs9:S9 S) (hA:∀a∈A,a.size<281474976710656) (x:As h0 h (c0 ab kb now av)):CallsH Tryz.prog 81 [ptr ab] h (Cmd9 h0 h ab kb now av (cHset S now A)):=by
 refine f81_calls (by simp) ?_
 intro b1 h1 g1
 have w:=x.st.new g1
 intro b2 h2 g2
 have w:=w.new g2
 refine w.ld1 1 rfl rfl ?_
 refine sub9_go (i:=2) x w rfl (fun x=>many9_calls p (by decide) x) ?_ ?_
 rotate_left
 ·rintro why h3 ⟨hB,rfl⟩ c3
  refine bad9 ?_ c3
  cases A with
  |nil=>rfl
  |cons k0 l=>exact if_neg fun hh=>hB ⟨by simp;omega,by simp;omega⟩
 rintro _ h3 _ ⟨hb,k0,hk0,rfl⟩ w
 obtain⟨k9,l,rfl⟩:=cons_of (by decide) hb.1
 cases hk0
 obtain⟨ba,oa,ac,rfl⟩:=p.argF (by simp)
 refine w.ld1 1 rfl rfl ?_
 refine w.ldc 2 rfl rfl ?_
 refine Ai rfl (Ai (by decide) (fun z hz=>?_))
 have hz:z=(((k0::l).length%2:Nat):Int):=by rw[hz];exact(Int.ofNat_tmod (k0::l).length 2).symm
 subst hz
 have hlc:(k0::l).length=l.length+1:=rfl
 refine Ai rfl (Ai (fun hodd=>?_) (fun hev=>must9_no (bad9 (if_neg fun hh=>hev (by omega)) w.chg)))
 refine must9_yes fun _=>?_
 have hc9:2≤l.length∧l.length<65536∧l.length%2=0:=⟨by omega,by omega,by omega⟩
 have hc0:∀(f:Thing→Res),kindly S now 2 k0 f=.error wType→(if 2≤l.length∧l.length<65536∧l.length%2=0 then kindly S now 2 k0 f else .error wArgs)=.error wType:=fun f hf=>(if_pos hc9).trans hf
 refine w.ld1 1 rfl rfl ?_
 refine sub9_go (i:=2) x w rfl (fun x=>of9_calls p x) ?_ ?_
 rotate_left
 ·rintro why h4 ⟨hB,rfl⟩ c4
  exact bad9 (hc0 _ (kindly_no hB)) c4
 rintro _ h4 _ ⟨hk,p2,w2,r2,rfl⟩ w
 have htl:=(hs9.get k0 now).ps
 have hk9:=hA k0 (by simp)
 have he:cHset S now (k0::l)=_:=(if_pos hc9).trans (kindly_ok hk)
 generalize (getS S k0 now).getD zeroT=t at*
 obtain⟨pa,pc,rfl,_⟩:=(w.thc 2 rfl).1.form
 obtain⟨names,hnames⟩:∃names,names=(twos l).map Prod.fst:=⟨_,rfl⟩
 obtain⟨D,hDe⟩:∃D,D=(twos l).map fun p=>hashE k0 p.1 p.2:=⟨_,rfl⟩
 have he:cHset S now (k0::l)=makes S now k0 (t.pairs.length+(newL (thereH t.pairs) [] names).length) (l.all small) (numR (newL (thereH t.pairs) [] names).length) D:=by rw[he,hnames,hDe]
 have hhalf:=twos_half (Nat.le_refl l.length)
 have hnl:names.length=(twos l).length:=by rw[hnames];exact List.length_map _
 have hDl:D.length=(twos l).length:=by rw[hDe];exact List.length_map _
 have hD9:D≠[]:=fun e=>by rw[e]at hDl;simp at hDl;omega
 have hnle:=fun q=>newL_le (th:=thereH t.pairs) (l:=names) q
 refine call_ret fresh9_calls ?_
 rintro _ h5 ⟨⟨bs,mb2,bt,rfl,hf,hfb⟩,c5⟩
 have w:=w.add (e:=frE bs mb2 bt (.func (.func 153) #[] #[ptr b1]) []) c5 hf (fun b hb=>hfb b (by simpa[frE,En.fp]using hb))
 refine loop_intro (fun q:Nat×Nat×Value=>[(1,ptr b1),(2,ptr b2),(3,.int .i64 q.2.1),(4,.func (.func 228) #[] #[ptr bs,ptr bt]),(5,.int .i64 (2*q.1+1:Nat))])
  (fun q h'=>(2*q.1≤l.length∧q.2.1=(newL (thereH t.pairs) [] (names.take q.1)).length∧(0<q.1→((t.pairs.length:Int)+q.2.1≤65536∧k0.size≤1048576))∧∀p∈(twos l).take q.1,small p.1=true∧small p.2=true)∧
   St (c0 ab kb now (.slice (some ⟨ba,oa,none⟩) (k0::l).length ac)).fp h h' [frE bs mb2 bt (.func (.func 153) #[] #[ptr b1]) (names.take q.1),.b b2 [.int .i64 0,.int .i64 0,.string ⟨#[]⟩,.slice none 0 0],.b b1 [ptr ab],
    cE ab kb now (.slice (some ⟨ba,oa,none⟩) (k0::l).length ac) k0 t (getS S k0 now).isSome (.slice pa t.pairs.length pc) w2 r2 q.2.2 (accE S k0 now D q.1)])
  (fun q=>l.length-2*q.1) (0,0,nilV) ⟨rfl,rfl,rfl,rfl,rfl,trivial⟩ ⟨⟨Nat.zero_le _,rfl,fun h9=>absurd h9 (by simp),by simp⟩,w⟩ ?_
 rintro⟨q,n,lv⟩ h6 ⟨⟨hq,hn0,hfits,hsm⟩,w⟩
 replace hq:2*q≤l.length:=hq
 replace hn0:n=(newL (thereH t.pairs) [] (names.take q)).length:=hn0
 replace hfits:0<q→((t.pairs.length:Int)+n≤65536∧k0.size≤1048576):=hfits
 replace hsm:∀p∈(twos l).take q,small p.1=true∧small p.2=true:=hsm
 have hnq:n≤q:=by
  have h1:=newL_len (th:=thereH t.pairs) (l:=names.take q) (pre:=[])
  rw[List.length_take]at h1
  omega
 refine w.ld1 2 rfl rfl ?_
 refine w.ldc 3 rfl rfl ?_
 refine Ai rfl (Ai (fun hlt=>?_) (fun hge=>?_))
 ·have hlt1:2*q+1<l.length:=by omega
  have htg:=twos_get hlt1
  have hq2:q<(twos l).length:=by omega
  obtain⟨nm,hnm⟩:∃nm,nm=l[2*q]:=⟨_,rfl⟩
  obtain⟨tx,htx⟩:∃tx,tx=l[2*q+1]:=⟨_,rfl⟩
  rw[←hnm,←htx]at htg
  have hn1:nm∈l:=by rw[hnm];exact List.getElem_mem _
  have ht1:tx∈l:=by rw[htx];exact List.getElem_mem _
  have hn:(k0::l)[2*q+1]? =some nm:=by rw[hnm];simp
  have ht:(k0::l)[2*q+2]? =some tx:=by rw[htx];simp
  clear hnm htx
  have hz1:=hA nm (by simp[hn1])
  have hz2:=hA tx (by simp[ht1])
  have hD:∀q' (_:q'<(twos l).length),q'=q→D[q']? =some {(⟨5,noText,nm,tx,0⟩:Eff)with key:=k0}:=fun q' _ e=>by subst e;rw[hDe,List.getElem?_map,htg];rfl
  have hD:∀q' (_:q'<(twos l).length),D[q]? =some {(⟨5,noText,nm,tx,0⟩:Eff)with key:=k0}:=fun _ _=>hD q hq2 rfl
  have hal:=acc_len (S:=S) (key:=k0) (now:=now) D q (by omega)
  have htk:(twos l).take (q+1)=(twos l).take q++[(nm,tx)]:=by
   rw[List.take_succ_eq_append_getElem hq2]
   have:=(List.getElem?_eq_some_iff.1 htg).2
   rw[this]
  have hqn:q<names.length:=by omega
  have hnq9:names[q]=nm:=by
   have:names[q]? =some nm:=by rw[hnames,List.getElem?_map,htg];rfl
   exact(List.getElem?_eq_some_iff.1 this).2
  have htk2:names.take (q+1)=names.take q++[nm]:=by rw[List.take_succ_eq_append_getElem hqn,hnq9]
  refine w.ld1 2 rfl rfl ?_
  refine w.ldc 3 rfl rfl ?_
  refine p.ix (x.base w) (2*q+1) rfl hn ?_
  refine w.fresh 0 3 rfl rfl (by decide) (tc_hset (by omega)) (fr_box w 0 2 rfl rfl (by decide)) (by rw[List.length_take];omega) fun h7 w=>?_
  obtain⟨bb,hbb⟩:∃bb,bb=(!thereH t.pairs nm&&decide (nm∉names.take q)):=⟨_,rfl⟩
  have hcnt:=newL_cnt (th:=thereH t.pairs) hqn (b:=bb) (by rw[hnq9];exact hbb)
  have hcl:=hnle (q+1)
  rw[←hbb]
  cases bb with
  |true=>
   have hcnt:(newL (thereH t.pairs) [] (names.take (q+1))).length=n+1:=by rw[hcnt,hn0];rfl
   refine Ai rfl (fun z hz=>?_)
   have hz:=add_in hz (by simp only;omega) (by simp only;omega)
   subst hz
   refine w.ld1 2 rfl rfl ?_
   refine w.ld1 2 rfl rfl ?_
   refine w.ldc 3 rfl rfl ?_
   refine p.ix (x.base w) (2*q+1) rfl hn ?_
   refine w.ld1 2 rfl rfl ?_
   refine w.ldc 3 rfl rfl ?_
   refine Ai rfl (fun z hz=>?_)
   have hz:=add_in hz (by simp only;omega) (by simp only;omega)
   subst hz
   refine p.ix (x.base w) (2*q+2) rfl ht ?_
   refine w.ld1 2 rfl rfl ?_
   refine w.ldc 3 rfl rfl ?_
   refine Ai rfl (fun z hz=>?_)
   have hz:z=(t.pairs.length:Int)+(n+1:Nat):=hz.trans (wrap_in (by simp only;omega) (by simp only;omega))
   subst hz
   refine sub9_go (i:=3) x w rfl (fun x=>put9_calls p ⟨5,noText,nm,tx,0⟩ x (by simp only;omega) (by omega) (by show nm.size<_;omega) (by show tx.size<_;omega)) ?_ ?_
   rotate_left
   ·rintro why h5 ⟨hB,rfl⟩ c5
    refine bad9 (he.trans (mkNo9 ?_)) c5
    rintro⟨m1,m2,m3⟩
    exact hB ⟨by omega,m2,small_of9 m3 hn1,small_of9 m3 ht1⟩
   rintro _ h5 _ ⟨hfit,lv5,rfl⟩ w
   rw[acc_put (hD q hq2)]at w
   refine Ai rfl (fun z hz=>?_)
   have hz:=add_in hz (by simp only;omega) (by simp only;omega)
   subst hz
   refine Ai rfl (Ei (q+1,n+1,lv5) (Ai ⟨rfl,rfl,rfl,rfl,rfl,trivial⟩ (Ai ⟨⟨by omega,by rw[hcnt],fun _=>⟨?_,hfit.2.1⟩,?_⟩,?_⟩ (by simp only;omega))))
   ·have:=hfit.1
    push_cast at this⊢
    omega
   ·intro pr hpr
    rw[htk,List.mem_append]at hpr
    rcases hpr with hpr|hpr
    ·exact hsm pr hpr
    ·rw[List.mem_singleton.1 hpr]
     exact⟨decide_eq_true hfit.2.2.1,decide_eq_true hfit.2.2.2⟩
   ·rw[htk2];exact w
  |false=>
   have hcnt:(newL (thereH t.pairs) [] (names.take (q+1))).length=n:=by rw[hcnt,hn0];rfl
   refine w.ld1 2 rfl rfl ?_
   refine w.ld1 2 rfl rfl ?_
   refine w.ldc 3 rfl rfl ?_
   refine p.ix (x.base w) (2*q+1) rfl hn ?_
   refine w.ld1 2 rfl rfl ?_
   refine w.ldc 3 rfl rfl ?_
   refine Ai rfl (fun z hz=>?_)
   have hz:=add_in hz (by simp only;omega) (by simp only;omega)
   subst hz
   refine p.ix (x.base w) (2*q+2) rfl ht ?_
   refine w.ld1 2 rfl rfl ?_
   refine w.ldc 3 rfl rfl ?_
   refine Ai rfl (fun z hz=>?_)
   have hz:z=(t.pairs.length:Int)+(n:Nat):=hz.trans (wrap_in (by simp only;omega) (by simp only;omega))
   subst hz
   refine sub9_go (i:=3) x w rfl (fun x=>put9_calls p ⟨5,noText,nm,tx,0⟩ x (by simp only;omega) (by omega) (by show nm.size<_;omega) (by show tx.size<_;omega)) ?_ ?_
   rotate_left
   ·rintro why h5 ⟨hB,rfl⟩ c5
    refine bad9 (he.trans (mkNo9 ?_)) c5
    rintro⟨m1,m2,m3⟩
    exact hB ⟨by omega,m2,small_of9 m3 hn1,small_of9 m3 ht1⟩
   rintro _ h5 _ ⟨hfit,lv5,rfl⟩ w
   rw[acc_put (hD q hq2)]at w
   refine Ai rfl (fun z hz=>?_)
   have hz:=add_in hz (by simp only;omega) (by simp only;omega)
   subst hz
   refine Ai rfl (Ei (q+1,n,lv5) (Ai ⟨rfl,rfl,rfl,rfl,rfl,trivial⟩ (Ai ⟨⟨by omega,by rw[hcnt],fun _=>⟨?_,hfit.2.1⟩,?_⟩,?_⟩ (by simp only;omega))))
   ·have:=hfit.1
    push_cast at this⊢
    omega
   ·intro pr hpr
    rw[htk,List.mem_append]at hpr
    rcases hpr with hpr|hpr
    ·exact hsm pr hpr
    ·rw[List.mem_singleton.1 hpr]
     exact⟨decide_eq_true hfit.2.2.1,decide_eq_true hfit.2.2.2⟩
   ·rw[htk2];exact w
 ·have hql:2*q=l.length:=by omega
  have hqt:q=(twos l).length:=by omega
  have hnf:n=(newL (thereH t.pairs) [] names).length:=by rw[hn0,List.take_of_length_le (by omega)]
  refine w.callv number9_calls fun h7 w=>?_
  refine w.st1 1 rfl rfl rfl rfl fun h8 w=>?_
  refine fin9 x w 1 3 rfl rfl ?_
  rw[he,mkOk9 ⟨by have:=(hfits (by omega)).1;omega,(hfits (by omega)).2,twos_small (Nat.le_refl _) hc9.2.2 fun pr hpr=>hsm pr (by rw[hqt,List.take_length];exact hpr)⟩,hqt,←hDl,acc_all hD9,hnf]
  rfl
theorem hget9 (p:P9 h0 kb sb mb c m S av A) (hs9:S9 S) (x:As h0 h (c0 ab kb now av)):CallsH Tryz.prog 82 [ptr ab] h (Cmd9 h0 h ab kb now av (cHget S now A)):=by
 refine f82_calls (by simp) ?_
 intro b2 h1 g1
 have w:=x.st.new g1
 refine sub9_go (i:=1) x w rfl (fun x=>begin9_calls p (by decide) x) ?_ ?_
 rotate_left
 ·rintro why h2 hB c2
  exact bad9 (NoB.a2 (f:=fun _ n t=>match fieldF t.pairs n with
   |some s=>.ok (textR s,[])
   |none=>.ok (nilR,[])) hB) c2
 rintro _ h2 _ ⟨hb,k0,hk0,hk,p2,w2,r2,rfl⟩ w
 obtain⟨k9,n,rfl⟩:=two_arg hb
 cases hk0
 have he:cHget S now [k0,n]=_:=(show cHget S now [k0,n]=kindly S now 2 k0 (fun t=>match fieldF t.pairs n with
   |some s=>.ok (textR s,[])
   |none=>.ok (nilR,[]))from rfl).trans (kindly_ok hk)
 have htl:=(hs9.get k0 now).ps
 generalize (getS S k0 now).getD zeroT=t at*
 obtain⟨b,o,cc,rfl⟩:=p.argF (by simp)
 refine w.ldc 1 rfl rfl ?_
 refine p.ix (x.base w) 1 rfl rfl ?_
 refine w.callv (field9_calls (w.get 1 rfl) (by omega)) fun h3 w=>?_
 generalize fieldF t.pairs n=fo at he⊢
 cases fo with
 |none=>
  refine w.st1 0 rfl rfl rfl rfl fun h4 w=>?_
  exact fin9 x w 0 1 rfl rfl he
 |some s=>
  refine w.callv text9_calls fun h4 w=>?_
  refine w.st1 0 rfl rfl rfl rfl fun h5 w=>?_
  exact fin9 x w 0 1 rfl rfl he
theorem hlen9 (p:P9 h0 kb sb mb c m S av A) (x:As h0 h (c0 ab kb now av)):CallsH Tryz.prog 84 [ptr ab] h (Cmd9 h0 h ab kb now av (cHlen S now A)):=by
 refine f84_calls (by simp) ?_
 intro b2 h1 g1
 have w:=x.st.new g1
 refine sub9_go (i:=1) x w rfl (fun x=>begin9_calls p (by decide) x) ?_ ?_
 rotate_left
 ·rintro why h2 hB c2
  exact bad9 (NoB.a1 (f:=fun _ t=>.ok (numR t.pairs.length,[])) hB) c2
 rintro _ h2 _ ⟨hb,k0,hk0,hk,p2,w2,r2,rfl⟩ w
 obtain⟨k9,rfl⟩:=one_arg hb
 cases hk0
 obtain⟨la,lc,rfl,_⟩:=(w.thc 1 rfl).1.form
 refine w.ldc 1 rfl rfl ?_
 refine w.callv number9_calls fun h3 w=>?_
 refine w.st1 0 rfl rfl rfl rfl fun h4 w=>?_
 have he:cHlen S now [k0]=_:=(show cHlen S now [k0]=kindly S now 2 k0 (fun t=>.ok (numR t.pairs.length,[]))from rfl).trans (kindly_ok hk)
 exact fin9 x w 0 1 rfl rfl he
theorem hall9 (p:P9 h0 kb sb mb c m S av A) (hs9:S9 S) (x:As h0 h (c0 ab kb now av)):CallsH Tryz.prog 85 [ptr ab] h (Cmd9 h0 h ab kb now av (cHall S now A)):=by
 refine f85_calls (by simp) ?_
 intro b2 h1 g1
 have w:=x.st.new g1
 refine sub9_go (i:=1) x w rfl (fun x=>begin9_calls p (by decide) x) ?_ ?_
 rotate_left
 ·rintro why h2 hB c2
  exact bad9 (NoB.a1 (f:=fun _ t=>.ok (listR (t.pairs.flatMap fun p:Pair=>[p.name,p.text]),[])) hB) c2
 rintro _ h2 _ ⟨hb,k0,hk0,hk,p2,w2,r2,rfl⟩ w
 obtain⟨k9,rfl⟩:=one_arg hb
 cases hk0
 have htl:=(hs9.get k0 now).ps
 have he:cHall S now [k0]=_:=(show cHall S now [k0]=kindly S now 2 k0 (fun t=>.ok (listR (t.pairs.flatMap fun p=>[p.name,p.text]),[]))from rfl).trans (kindly_ok hk)
 generalize (getS S k0 now).getD zeroT=t at*
 have hsv:=(w.thc 1 rfl).1
 obtain⟨la,lc,rfl,_⟩:=hsv.form
 refine w.ldc 1 rfl rfl ?_
 refine call_ret (listPair_calls hsv (by omega)) ?_
 rintro _ h5 ⟨⟨ra,rn,rc,rfl,ol,fr⟩,c5⟩
 have hz:=w.size
 have w:=w.add (e:=.o encQ 4 (.slice ra rn rc) _) c5 ol fr
 refine w.st1 1 rfl rfl rfl rfl fun h6 w=>?_
 exact finl9 x w 1 2 0 rfl rfl rfl (fun b hb=>by have:=fr b hb;omega) he
theorem tc_away (tc:TC ab kb now av t is pv lw rv Z fv th):TC ab kb now av t is pv lw rv (fun h=>Blk h b1 [fv]∧Z h) (.func (.func 232) #[] #[ptr b1]) (fun s=>!th s):=by
 obtain⟨g,fi,cap,rfl,hg⟩:=tc
 refine⟨_,_,_,rfl,fun{h s key lv L} hE hZ=>?_⟩
 refine f232_calls (by simp) ?_
 refine Ei _ (Ai (cell_blk hZ.1 rfl) ?_)
 refine call_ret (hg hE hZ.2) ?_
 rintro _ h2 ⟨rfl,c2⟩
 exact⟨rfl,c2⟩
set_option maxHeartbeats 1000000 in
theorem away9_calls {k0:ByteArray} (p:P9 h0 kb sb mb c m S av (k0::l)) (hl:1≤l.length∧l.length<65536) (x:As h0 h (cE ab kb now av key t is pv lw rv nilV [])) (tc:TC ab kb now av t is pv lw rv Z fv th)
  (hZ:∀h',Chg (cE ab kb now av key t is pv lw rv nilV []).fp h h'→Z h'):
  CallsH Tryz.prog 159 [ptr ab,.int .i64 op,fv] h (Ret fun r h'=>r=repV 3 (hereL th l).length noText∧∃lv',Tn h0 h (cE ab kb now av key t is pv lw rv nilV []) h' (cE ab kb now av key t is pv lw rv lv' ((hereL th l).map fun n=>⟨op,key,n,noText,0⟩))):=by
 obtain⟨ba,oa,ac,rfl⟩:=p.argF (by simp)
 obtain⟨fg,ffi,fcap,rfl⟩:∃g fi cap,fv=.func (.func g) fi cap:=by
  obtain⟨g,fi,cap,e,_⟩:=tc
  exact⟨g,fi,cap,e⟩
 refine f159_calls (by simp) ?_
 intro b5 h1 g1
 have w:=x.st.new g1
 intro b6 h2 g2
 have w:=w.new g2
 have hlc:(k0::l).length=l.length+1:=rfl
 refine call_ret fresh9_calls ?_
 rintro _ h5 ⟨⟨bs,mb2,bt,rfl,hf,hfb⟩,c5⟩
 have w:=w.add (e:=frE bs mb2 bt (.func (.func 232) #[] #[ptr b5]) []) c5 hf (fun b hb=>hfb b (by simpa[frE,En.fp]using hb))
 refine w.ldc 3 rfl rfl ?_
 have hac:=(p.args _ (x.base w)).len.2
 refine Ai (by decide) (Ai (by simp only[List.length_cons];omega) (Ai (by omega) ?_))
 refine sl_slc (lo:=1) (hi:=(k0::l).length) encS_len (p.args _ (x.base w)) (by simp) (Nat.le_refl _) fun v1 hv1=>?_
 have e1:((k0::l).drop 1).take ((k0::l).length-1)=l:=by simp
 rw[e1]at hv1
 have hsl:∀{h'},Chg [] h0 h'→SL encS h' v1 l:=fun hc=>hv1 _ (p.args _ hc)
 clear hv1
 obtain⟨va,vc,rfl,_⟩:=(hsl (Chg.refl _)).form
 obtain⟨vb,vo,rfl⟩:=(hsl (Chg.refl _)).addr (by omega)
 obtain⟨th2,hth2⟩:∃th2:ByteArray→Bool,th2=fun s=>!th s:=⟨_,rfl⟩
 have tc2:=tc_away (b1:=b5) tc
 rw[show hereL th l=newL th2 [] l by rw[hth2];rfl]
 rw[←hth2]at tc2
 refine loop_intro (fun q:Nat×Nat×Value=>[(0,ptr ab),(1,.int .i64 op),(6,ptr b6),(7,.int .i64 q.2.1),(8,.func (.func 228) #[] #[ptr bs,ptr bt]),(17,.slice (some ⟨vb,vo,none⟩) l.length vc),(18,.int .i64 l.length),(19,.int .i64 q.1)])
  (fun q h'=>(q.1≤l.length∧q.2.1=(newL th2 [] (l.take q.1)).length)∧St (cE ab kb now (.slice (some ⟨ba,oa,none⟩) (k0::l).length ac) key t is pv lw rv nilV []).fp h h' [frE bs mb2 bt (.func (.func 232) #[] #[ptr b5]) (l.take q.1),.b b6 [.int .i64 0,.int .i64 0,.string ⟨#[]⟩,.slice none 0 0],.b b5 [.func (.func fg) ffi fcap],
   cE ab kb now (.slice (some ⟨ba,oa,none⟩) (k0::l).length ac) key t is pv lw rv q.2.2 ((newL th2 [] (l.take q.1)).map fun n=>⟨op,key,n,noText,0⟩)])
  (fun q=>l.length-q.1) (0,0,nilV) ⟨rfl,rfl,rfl,rfl,rfl,rfl,rfl,rfl,trivial⟩ ⟨⟨Nat.zero_le _,rfl⟩,w⟩ ?_
 rintro⟨q,n,lv⟩ h6 ⟨⟨hq,hn0⟩,w⟩
 replace hq:q≤l.length:=hq
 replace hn0:n=(newL th2 [] (l.take q)).length:=hn0
 have hnq:n≤q:=by
  have h1:=newL_len (th:=th2) (l:=l.take q) (pre:=[])
  rw[List.length_take]at h1
  omega
 refine Ai rfl (Ai (fun hlt=>?_) (fun hge=>?_))
 ·have hlt:q<l.length:=by omega
  have htk:=List.take_succ_eq_append_getElem hlt
  obtain⟨s,hs⟩:∃s,s=l[q]:=⟨_,rfl⟩
  rw[←hs]at htk
  refine sl_ix (s:=s) (hsl (x.base w)) q rfl (by rw[hs];exact List.getElem?_eq_getElem hlt) ?_
  refine w.fresh 0 3 rfl rfl (by decide) tc2 (fun h9 c9=>⟨fr_box w 0 2 rfl rfl (by decide) h9 c9,hZ h9 (w.set (e':=En.nil) 0 rfl c9 (fun b hb=>.inl (by simp at hb;simp[frE,En.fp,hb])) trivial (fun b hb=>(nomatch (show b∈([]:List Nat)from hb)))).chg⟩) (by rw[List.length_take];omega) fun h7 w=>?_
  rw[←htk]at w
  obtain⟨bb,hbb⟩:∃bb,bb=(!th2 s&&decide (s∉l.take q)):=⟨_,rfl⟩
  have hsn:=newL_snoc (th:=th2) hlt
  rw[←hs,←hbb]at hsn
  have hcnt:=newL_cnt (th:=th2) hlt (b:=bb) (by rw[←hs];exact hbb)
  rw[←hbb]
  cases bb with
  |true=>
   refine Ai rfl (fun z hz=>?_)
   have hz:=add_in hz (by simp only;omega) (by simp only;omega)
   subst hz
   refine sub9_go (i:=3) x w rfl (fun x=>take9_calls ⟨op,noText,s,noText,0⟩ x (by rw[List.length_map];simp only;omega)) ?_ ?_
   rotate_left
   ·rintro why h8 hB
    exact hB.elim
   rintro _ h8 _ ⟨lv8,rfl⟩ w
   have hm:(newL th2 [] (l.take q)).map (fun n=>(⟨op,key,n,noText,0⟩:Eff))++[⟨op,key,s,noText,0⟩]=(newL th2 [] (l.take (q+1))).map fun n=>⟨op,key,n,noText,0⟩:=by
    rw[hsn,if_pos rfl,List.map_append];rfl
   have w:=(show St _ _ _ [_,_,_,cE ab kb now (.slice (some ⟨ba,oa,none⟩) (k0::l).length ac) key t is pv lw rv lv8 ((newL th2 [] (l.take q)).map (fun n=>(⟨op,key,n,noText,0⟩:Eff))++[⟨op,key,s,noText,0⟩])]from w)
   rw[hm]at w
   refine Ai rfl (fun z hz=>?_)
   have hz:=add_in hz (by simp only;omega) (by simp only;omega)
   subst hz
   exact Ai rfl (Ei (q+1,n+1,lv8) (Ai ⟨rfl,rfl,rfl,rfl,rfl,rfl,rfl,rfl,trivial⟩ (Ai ⟨⟨hlt,by rw[hcnt,hn0];rfl⟩,w⟩ (by simp only;omega))))
  |false=>
   have hm:newL th2 [] (l.take q)=newL th2 [] (l.take (q+1)):=by rw[hsn,if_neg (by decide),List.append_nil]
   have w:=(show St _ _ _ [_,_,_,cE ab kb now (.slice (some ⟨ba,oa,none⟩) (k0::l).length ac) key t is pv lw rv lv ((newL th2 [] (l.take q)).map (fun n=>(⟨op,key,n,noText,0⟩:Eff)))]from w)
   rw[hm]at w
   refine Ai rfl (fun z hz=>?_)
   have hz:=add_in hz (by simp only;omega) (by simp only;omega)
   subst hz
   exact Ai rfl (Ei (q+1,n,lv) (Ai ⟨rfl,rfl,rfl,rfl,rfl,rfl,rfl,rfl,trivial⟩ (Ai ⟨⟨hlt,by rw[hcnt,hn0];rfl⟩,w⟩ (by simp only;omega))))
 ·have hkl:q=l.length:=by omega
  subst hkl
  rw[List.take_length]at w hn0
  refine w.callv number9_calls fun h7 w=>?_
  refine w.st1 1 rfl rfl rfl rfl fun h8 w=>?_
  exact⟨_,rfl,cells_blk (w.get 1 rfl),by rw[hn0];rfl,lv,x.out w 3 rfl⟩
theorem no_away {f:ByteArray→List ByteArray→Thing→Res} {g:List ByteArray→Res} (h:NoB S now A 2 65536 kd why) (hg:∀key l,g (key::l)=if 1≤l.length∧l.length<65536 then kindly S now kd key (f key l)else .error wArgs) (hn:g []=.error wArgs):g A=.error why:=by
 match A,h with
 |[],.inl ⟨_,e⟩=>rw[hn,e]
 |[],.inr ⟨hb,_⟩=>simp at hb
 |key::l,.inl ⟨hb,e⟩=>
  rw[hg,e,if_neg]
  intro hh
  exact hb ⟨by simp;omega,by simp;omega⟩
 |key::l,.inr ⟨hb,k0,hk0,hk,e⟩=>
  cases hk0
  simp at hb
  rw[hg,e,if_pos ⟨by omega,by omega⟩,kindly_no hk]
theorem hdel9 (p:P9 h0 kb sb mb c m S av A) (hs9:S9 S) (x:As h0 h (c0 ab kb now av)):CallsH Tryz.prog 83 [ptr ab] h (Cmd9 h0 h ab kb now av (cHdel S now A)):=by
 refine f83_calls (by simp) ?_
 intro b1 h1 g1
 have w:=x.st.new g1
 intro b2 h2 g2
 have w:=w.new g2
 refine w.ld1 1 rfl rfl ?_
 refine sub9_go (i:=2) x w rfl (fun x=>begin9_calls p (by decide) x) ?_ ?_
 rotate_left
 ·rintro why h2 hB c2
  exact bad9 (no_away (f:=fun key l t=>.ok (numR (hereL (thereH t.pairs) l).length,(hereL (thereH t.pairs) l).map (unhashE key))) hB (fun _ _=>rfl) rfl) c2
 rintro _ h3 _ ⟨hb,k0,hk0,hk,p2,w2,r2,rfl⟩ w
 obtain⟨k9,l,rfl⟩:=cons_of (by decide) hb.1
 cases hk0
 have hlc:(k0::l).length=l.length+1:=rfl
 have hc9:1≤l.length∧l.length<65536:=⟨by omega,by omega⟩
 have htl:=(hs9.get k0 now).ps
 have he:cHdel S now (k0::l)=_:=(show cHdel S now (k0::l)=if 1≤l.length∧l.length<65536 then kindly S now 2 k0 (fun t=>.ok (numR (hereL (thereH t.pairs) l).length,(hereL (thereH t.pairs) l).map (unhashE k0)))else .error wArgs from rfl).trans ((if_pos hc9).trans (kindly_ok hk))
 generalize (getS S k0 now).getD zeroT=t at*
 refine w.ld1 1 rfl rfl ?_
 refine call_ret (away9_calls p hc9 (x.out w 2 rfl).1 (tc_hdel (b1:=b1) (by omega)) (fun h9 c9=>Blk.chg (w.get 1 rfl) c9 (fun hm=>w.apart 1 2 _ _ rfl rfl (by decide) b1 (by simp[En.fp]) hm))) ?_
 rintro _ h5 ⟨rfl,lv5,_,o5⟩
 have w:=w.own 2 rfl o5
 refine w.st1 0 rfl rfl rfl rfl fun h6 w=>?_
 exact fin9 x w 0 2 rfl rfl he
theorem hincr9 (p:P9 h0 kb sb mb c m S av A) (hs9:S9 S) (hl:LaidN h0) (hA:∀a∈A,a.size<281474976710656) (x:As h0 h (c0 ab kb now av)):CallsH Tryz.prog 86 [ptr ab] h (Cmd9 h0 h ab kb now av (cHincr S now A)):=by
 refine f86_calls (by simp) ?_
 intro b2 h1 g1
 have w:=x.st.new g1
 refine sub9_go (i:=1) x w rfl (fun x=>many9_calls p (by decide) x) ?_ ?_
 rotate_left
 ·rintro why h2 ⟨hB,rfl⟩ c2
  exact bad9 (arg3_bad hB) c2
 rintro _ h2 _ ⟨hb,k0,hk0,rfl⟩ w
 obtain⟨k9,n,u,rfl⟩:=three_arg hb
 cases hk0
 refine sub9_go (i:=1) x w rfl (fun x=>num9_calls (j:=2) p x hl rfl (hA u (by simp))) ?_ ?_
 rotate_left
 ·rintro why h3 ⟨hB,rfl⟩ c3
  refine bad9 ?_ c3
  show numbered u _=_
  unfold numbered
  rw[hB]
 rintro _ h3 _ ⟨by_,hby,rfl,rfl⟩ w
 have hnn:∀f,numbered u f=f by_:=fun f=>by unfold numbered;rw[hby]
 refine sub9_go (i:=1) x w rfl (fun x=>of9_calls p x) ?_ ?_
 rotate_left
 ·rintro why h4 ⟨hB,rfl⟩ c4
  exact bad9 ((hnn _).trans (kindly_no hB)) c4
 rintro _ h4 _ ⟨hk,p2,w2,r2,rfl⟩ w
 have ht9:=hs9.get k0 now
 have hk9:=hA k0 (by simp)
 have hn9:=hA n (by simp)
 have he:cHincr S now [k0,n,u]=_:=(hnn _).trans (kindly_ok hk)
 generalize (getS S k0 now).getD zeroT=t at*
 have htl:=ht9.ps
 obtain⟨b,o,cc,rfl⟩:=p.argF (by simp)
 refine w.ldc 1 rfl rfl ?_
 refine p.ix (x.base w) 1 rfl rfl ?_
 refine w.callv (field9_calls (w.get 1 rfl) (by omega)) fun h5 w=>?_
 have hfs:((fieldF t.pairs n).getD zeroS).size<281474976710656:=by
  unfold fieldF
  cases hf:t.pairs.find? fun p=>decide (p.name=n)with
  |none=>decide
  |some pr=>
   have:=ht9.pt pr (List.mem_of_find?_eq_some hf)
   show pr.text.size<_
   omega
 have hth:thereH t.pairs n=(fieldF t.pairs n).isSome:=rfl
 rw[hth]at he
 generalize fieldF t.pairs n=fo at he hfs⊢
 -- what stands behind the field's text
 have rest:∀{h6:Heap} {s:ByteArray} {M:List En},s=fo.getD zeroS→St (c0 ab kb now (.slice (some ⟨b,o,none⟩) 3 cc)).fp h h6 (.b b2 [.int .i64 0,.int .i64 0,.string ⟨#[]⟩,.slice none 0 0]::cE ab kb now (.slice (some ⟨b,o,none⟩) 3 cc) k0 t (getS S k0 now).isSome p2 w2 r2 nilV []::M)→
   swp Tryz.prog (.seq (.ops f86r7) (.seq (.ops f86r8) (.seq (.ops f86r9) (.seq (.ops f86r10) (.seq (.seq (.ops f86r11) (.cond (.tmp 45) (.ops f86r12) .skip)) (.seq (.ops f86r13) (.seq (.ops f86r14) .ret)))))))
    (retQ [.cn 2 4] (Cmd9 h0 h ab kb now (.slice (some ⟨b,o,none⟩) 3 cc) (cHincr S now [k0,n,u]))) (mk [(0,ptr ab),(2,ptr b2),(3,.int .i64 by_),(4,.string s),(5,.bool fo.isSome)]) [] h6:=by
  intro h6 s M hs w
  rw[←hs]at hfs he
  obtain⟨⟨sl⟩⟩:=s
  refine call_ret (bnum_calls (hl.ext (x.base w)) hfs) ?_
  rintro _ h7 ⟨rfl,c7⟩
  have w:=w.ext c7
  have hnu:numOf ⟨⟨sl⟩⟩=Num.num sl:=rfl
  obtain⟨nu,hnv⟩:∃nu,nu=Num.num sl:=⟨_,rfl⟩
  rw[←hnv]at hnu⊢
  cases nu with
  |none=>exact must9_no (bad9 (by rw[he];unfold numbered;rw[hnu];rfl) w.chg)
  |some z=>
   have he:cHincr S now [k0,n,u]=_:=he.trans (show numbered _ _=_ by unfold numbered;rw[hnu])
   refine must9_yes fun _=>?_
   refine call_out9 (plus9_calls (numOf_in hnu) (numOf_in hby)) ?_ ?_
   rotate_left
   ·rintro why h8 ⟨hno,rfl,e⟩
    have e:=e.symm
    subst e
    exact bad9 (he.trans (if_neg hno)) w.chg
   rintro _ h8 ⟨hok,rfl,e⟩
   have e:=e.symm
   subst e
   have he:=he.trans (if_pos hok)
   obtain⟨pa,pc,rfl,_⟩:=(w.thc 1 rfl).1.form
   have hil:=itoa_len hok
   have hisz:(⟨⟨Lib.itoa (z+by_)⟩⟩:ByteArray).size≤20:=hil
   have fin:∀{h9:Heap} {items:Nat} {M:List En},items=t.pairs.length+(if fo.isSome=true then 0 else 1)→St (c0 ab kb now (.slice (some ⟨b,o,none⟩) 3 cc)).fp h h9 (.b b2 [.int .i64 0,.int .i64 0,.string ⟨#[]⟩,.slice none 0 0]::cE ab kb now (.slice (some ⟨b,o,none⟩) 3 cc) k0 t (getS S k0 now).isSome (.slice pa t.pairs.length pc) w2 r2 nilV []::M)→
     swp Tryz.prog (.seq (.ops f86r13) (.seq (.ops f86r14) .ret))
      (retQ [.cn 2 4] (Cmd9 h0 h ab kb now (.slice (some ⟨b,o,none⟩) 3 cc) (cHincr S now [k0,n,u]))) (mk [(0,ptr ab),(2,ptr b2),(6,.int .i64 (z+by_)),(8,.int .i64 items)]) [] h9:=by
    intro h9 items M hit w
    refine w.ldc 1 rfl rfl ?_
    refine p.ix (x.base w) 1 rfl rfl ?_
    refine w.callqv (format_calls (hl.ext (x.base w)) hok.1 hok.2) fun h10 w=>?_
    refine sub9_go (i:=1) x w rfl (fun x=>put9_calls p ⟨5,noText,n,⟨⟨Lib.itoa (z+by_)⟩⟩,0⟩ x (by simp) (by omega) (by show n.size<_;omega) (by show(⟨⟨Lib.itoa (z+by_)⟩⟩:ByteArray).size<_;omega)) ?_ ?_
    rotate_left
    ·rintro why h11 ⟨hB,rfl⟩ c11
     refine bad9 (he.trans (mkNo9 fun hh=>hB ⟨?_,hh.2.1,?_⟩)) c11
     ·have:=hh.1
      rw[hit]
      push_cast
      split at this<;>simp_all
     ·have:=hh.2.2
      rw[Bool.and_eq_true]at this
      exact⟨of_decide_eq_true this.1,of_decide_eq_true this.2⟩
    rintro _ h11 _ ⟨hfit,lv11,rfl⟩ w
    refine w.callv number9_calls fun h12 w=>?_
    refine w.st1 0 rfl rfl rfl rfl fun h13 w=>?_
    refine fin9 x w 0 1 rfl rfl (he.trans (mkOk9 ⟨?_,hfit.2.1,?_⟩))
    ·have:=hfit.1
     rw[hit]at this
     push_cast at this
     split<;>simp_all
    ·rw[Bool.and_eq_true]
     exact⟨decide_eq_true hfit.2.2.1,decide_eq_true hfit.2.2.2⟩
   refine w.ldc 1 rfl rfl ?_
   refine cut_at [(0,ptr ab),(2,ptr b2),(5,.bool fo.isSome),(6,.int .i64 (z+by_)),(8,.int .i64 t.pairs.length)] ⟨rfl,rfl,rfl,rfl,rfl,trivial⟩ ?_
   refine ass_go ?_
   refine not_go (v:=fo.isSome) rfl rfl ?_
   refine cnd_go (t:=!fo.isSome) rfl ?_
   cases fo with
   |none=>
    refine Ai rfl (fun z hz=>?_)
    have hz:=add_in hz (by omega) (by omega)
    subst hz
    exact cut_at [(0,ptr ab),(2,ptr b2),(6,.int .i64 (z+by_)),(8,.int .i64 (t.pairs.length+1:Nat))] ⟨rfl,rfl,rfl,rfl,trivial⟩ (fin rfl w)
   |some s=>
    refine skp_go ?_
    exact cut_at [(0,ptr ab),(2,ptr b2),(6,.int .i64 (z+by_)),(8,.int .i64 t.pairs.length)] ⟨rfl,rfl,rfl,rfl,trivial⟩ (fin rfl w)
 refine mv1 rfl ?_
 refine ext1 rfl rfl ?_
 refine ext1 rfl rfl ?_
 refine mv_two9 rfl rfl ?_
 refine cut_at [(0,ptr ab),(2,ptr b2),(3,.int .i64 by_),(4,.string (fo.getD noText)),(5,.bool fo.isSome)] ⟨rfl,rfl,rfl,rfl,rfl,trivial⟩ ?_
 refine ass_go ?_
 refine not_go (v:=fo.isSome) rfl rfl ?_
 refine cnd_go (t:=!fo.isSome) rfl ?_
 cases fo with
 |none=>
  refine mv_go (v:=.string zeroS) rfl ?_
  exact cut_at [(0,ptr ab),(2,ptr b2),(3,.int .i64 by_),(4,.string zeroS),(5,.bool false)] ⟨rfl,rfl,rfl,rfl,rfl,trivial⟩ (rest rfl w)
 |some s=>
  refine skp_go ?_
  exact cut_at [(0,ptr ab),(2,ptr b2),(3,.int .i64 by_),(4,.string s),(5,.bool true)] ⟨rfl,rfl,rfl,rfl,rfl,trivial⟩ (rest rfl w)
end
end Go.Proofs.YtjnijlnmbjjgpaaGreatDoor
namespace Go.Proofs.YtjnijlnmbjjgpaaGreatDoor
open Go Go.Sx C
section
variable {h0 h h1 h2 h':Heap} {ab kb sb mb c b2:Nat} {now op at_:Int} {av:Value} {A:List ByteArray} {m:List KI} {S:Space} {res:Res}
theorem pass9 {M:List En} {key:ByteArray} {t:Thing} {is:Bool} {pv lw rv lv:Value} {E:List Eff} {q:Rep} {ra:Option Addr} {rn rc:Nat} (x:As h0 h (c0 ab kb now av)) (w:St (c0 ab kb now av).fp h h' M) (i j:Nat)
  (hi:M[i]? =some (.b b2 [.int .i64 q.k,.int .i64 q.i,.string q.s,.slice ra rn rc])) (hj:M[j]? =some (cE ab kb now av key t is pv lw rv lv E)) (sl:SL encQ h2 (.slice ra rn rc) q.l) (fr:∀b∈ablk ra,h1.size≤b) (kc:Chg [b2] h2 h') (hb:b2<h1.size) (hz:h.size≤h1.size)
  (he:res=.ok (q,E)):∃vs,vs.length=4∧Cells h' b2 0 vs∧Cmd9 h0 h ab kb now av res (.returned (.agg ⟨vs⟩)) h':=
 ⟨_,rfl,cells_blk (w.get i hi),q,E,key,t,is,pv,lw,rv,lv,he,⟨ra,rn,rc,rfl,sl.chg kc (fun b hb2=>by have:=fr b hb2;simp;omega),fun b hb2=>by have:=fr b hb2;omega⟩,x.out w j hj⟩
theorem llen9 (p:P9 h0 kb sb mb c m S av A) (x:As h0 h (c0 ab kb now av)):CallsH Tryz.prog 91 [ptr ab] h (Cmd9 h0 h ab kb now av (cLlen S now A)):=by
 refine f91_calls (by simp) ?_
 intro b2 h1 g1
 have w:=x.st.new g1
 refine sub9_go (i:=1) x w rfl (fun x=>begin9_calls p (by decide) x) ?_ ?_
 rotate_left
 ·rintro why h2 hB c2
  exact bad9 (NoB.a1 (f:=fun _ t=>.ok (numR t.list.length,[])) hB) c2
 rintro _ h2 _ ⟨hb,k0,hk0,hk,p2,w2,r2,rfl⟩ w
 obtain⟨k9,rfl⟩:=one_arg hb
 cases hk0
 obtain⟨la,lc,rfl,_⟩:=(w.thc 1 rfl).2.1.form
 refine w.ldc 1 rfl rfl ?_
 refine w.callv number9_calls fun h3 w=>?_
 refine w.st1 0 rfl rfl rfl rfl fun h4 w=>?_
 have he:cLlen S now [k0]=_:=(show cLlen S now [k0]=kindly S now 3 k0 (fun t=>.ok (numR t.list.length,[]))from rfl).trans (kindly_ok hk)
 exact fin9 x w 0 1 rfl rfl he
theorem pop9 (p:P9 h0 kb sb mb c m S av A) (hs9:S9 S) (hat:In64 at_) (x:As h0 h (c0 ab kb now av)):CallsH Tryz.prog 167 [ptr ab,.int .i64 op,.int .i64 at_] h (Cmd9 h0 h ab kb now av (cPop S now (fun key=>⟨op,key,noText,noText,0⟩) at_ A)):=by
 refine f167_calls (by simp) ?_
 intro b6 h1 g1
 have w:=x.st.new g1
 refine sub9_go (i:=1) x w rfl (fun x=>begin9_calls p (by decide) x) ?_ ?_
 rotate_left
 ·rintro why h2 hB c2
  exact bad9 (NoB.a1 (f:=fun key t=>match placeN t.list.length at_ with
   |some i=>.ok (textR (t.list[i]?.getD noText),[⟨op,key,noText,noText,0⟩])
   |none=>.ok (nilR,[])) hB) c2
 rintro _ h2 _ ⟨hb,k0,hk0,hk,p2,w2,r2,rfl⟩ w
 obtain⟨k9,rfl⟩:=one_arg hb
 cases hk0
 have ht:=(hs9.get k0 now).ls
 have he:cPop S now (fun key=>⟨op,key,noText,noText,0⟩) at_ [k0]=_:=(show cPop S now (fun key=>⟨op,key,noText,noText,0⟩) at_ [k0]=kindly S now 3 k0 (fun t=>match placeN t.list.length at_ with
  |some i=>.ok (textR (t.list[i]?.getD noText),[⟨op,k0,noText,noText,0⟩])
  |none=>.ok (nilR,[]))from rfl).trans (kindly_ok hk)
 generalize (getS S k0 now).getD zeroT=t at*
 obtain⟨la,lc,rfl,_⟩:=(w.thc 1 rfl).2.1.form
 refine w.ldc 1 rfl rfl ?_
 refine callp (place_calls (by omega) hat) ?_
 cases hp:placeN t.list.length at_ with
 |none=>
  rw[hp]at he
  refine w.st1 0 rfl rfl rfl rfl fun h3 w=>?_
  exact fin9 x w 0 1 rfl rfl he
 |some i=>
  have hil:=placeN_lt hp
  rw[hp]at he
  refine sub9_go (i:=1) x w rfl (fun x=>take9_calls ⟨op,noText,noText,noText,0⟩ x (by simp)) ?_ ?_
  rotate_left
  ·rintro why h3 hB
   exact hB.elim
  rintro _ h3 _ ⟨lv3,rfl⟩ w
  obtain⟨b,o,rfl⟩:=(w.thc 1 rfl).2.1.addr (by omega)
  refine w.ldc 1 rfl rfl ?_
  refine sl_ix (w.thc 1 rfl).2.1 i rfl (List.getElem?_eq_getElem hil) ?_
  refine w.callv text9_calls fun h4 w=>?_
  refine w.st1 0 rfl rfl rfl rfl fun h5 w=>?_
  refine fin9 x w 0 1 rfl rfl ?_
  rw[he]
  simp[hil,textR]
theorem lpop9 (p:P9 h0 kb sb mb c m S av A) (hs9:S9 S) (x:As h0 h (c0 ab kb now av)):CallsH Tryz.prog 89 [ptr ab] h (Cmd9 h0 h ab kb now av (cPop S now unheadE 0 A)):=by
 refine f89_calls (by simp) ?_
 intro b2 h1 g1
 have w:=x.st.new g1
 refine call_out9 (pop9 p hs9 ⟨by decide,by decide⟩ (x.out w 1 rfl).1) ?_ (fun why h2 ⟨he,c2⟩=>bad9 he (w.gone 1 rfl c2 (fun _ hb=>.inl hb)).chg)
 rintro _ h2 ⟨q,E,key,t,is,pv,lw,rv,lv,he,⟨ra,rn,rc,rfl,sl,fr⟩,_,o2⟩
 have w:=w.own 1 rfl o2
 refine w.st2 0 rfl rfl rfl rfl fun h3 w k3=>?_
 exact pass9 x w 0 1 rfl rfl sl fr k3 (by have:=g1.id;have:=g1.size;omega) g1.chg.size he
theorem rpop9 (p:P9 h0 kb sb mb c m S av A) (hs9:S9 S) (x:As h0 h (c0 ab kb now av)):CallsH Tryz.prog 90 [ptr ab] h (Cmd9 h0 h ab kb now av (cPop S now untailE (-1) A)):=by
 refine f90_calls (by simp) ?_
 intro b2 h1 g1
 have w:=x.st.new g1
 refine call_out9 (pop9 p hs9 ⟨by decide,by decide⟩ (x.out w 1 rfl).1) ?_ (fun why h2 ⟨he,c2⟩=>bad9 he (w.gone 1 rfl c2 (fun _ hb=>.inl hb)).chg)
 rintro _ h2 ⟨q,E,key,t,is,pv,lw,rv,lv,he,⟨ra,rn,rc,rfl,sl,fr⟩,_,o2⟩
 have w:=w.own 1 rfl o2
 refine w.st2 0 rfl rfl rfl rfl fun h3 w k3=>?_
 exact pass9 x w 0 1 rfl rfl sl fr k3 (by have:=g1.id;have:=g1.size;omega) g1.chg.size he
theorem lindex9 (p:P9 h0 kb sb mb c m S av A) (hs9:S9 S) (hl:LaidN h0) (hA:∀a∈A,a.size<281474976710656) (x:As h0 h (c0 ab kb now av)):CallsH Tryz.prog 92 [ptr ab] h (Cmd9 h0 h ab kb now av (cLindex S now A)):=by
 refine f92_calls (by simp) ?_
 intro b2 h1 g1
 have w:=x.st.new g1
 refine sub9_go (i:=1) x w rfl (fun x=>many9_calls p (by decide) x) ?_ ?_
 rotate_left
 ·rintro why h2 ⟨hB,rfl⟩ c2
  exact bad9 (arg2_bad hB) c2
 rintro _ h2 _ ⟨hb,k0,hk0,rfl⟩ w
 obtain⟨k9,s,rfl⟩:=two_arg hb
 cases hk0
 refine sub9_go (i:=1) x w rfl (fun x=>num9_calls (j:=1) p x hl rfl (hA s (by simp))) ?_ ?_
 rotate_left
 ·rintro why h3 ⟨hB,rfl⟩ c3
  refine bad9 ?_ c3
  show numbered s _=_
  unfold numbered
  rw[hB]
 rintro _ h3 _ ⟨n,hn,rfl,rfl⟩ w
 have hnn:∀f,numbered s f=f n:=fun f=>by unfold numbered;rw[hn]
 refine sub9_go (i:=1) x w rfl (fun x=>of9_calls p x) ?_ ?_
 rotate_left
 ·rintro why h4 ⟨hB,rfl⟩ c4
  exact bad9 ((hnn _).trans (kindly_no hB)) c4
 rintro _ h4 _ ⟨hk,p2,w2,r2,rfl⟩ w
 have ht:=(hs9.get k0 now).ls
 have he:cLindex S now [k0,s]=_:=(hnn _).trans (kindly_ok hk)
 generalize (getS S k0 now).getD zeroT=t at*
 obtain⟨la,lc,rfl,_⟩:=(w.thc 1 rfl).2.1.form
 refine w.ldc 1 rfl rfl ?_
 refine callp (place_calls (by omega) (numOf_in hn)) ?_
 cases hp:placeN t.list.length n with
 |none=>
  rw[hp]at he
  refine w.st1 0 rfl rfl rfl rfl fun h3 w=>?_
  exact fin9 x w 0 1 rfl rfl he
 |some i=>
  have hil:=placeN_lt hp
  rw[hp]at he
  obtain⟨b,o,rfl⟩:=(w.thc 1 rfl).2.1.addr (by omega)
  refine w.ldc 1 rfl rfl ?_
  refine sl_ix (w.thc 1 rfl).2.1 i rfl (List.getElem?_eq_getElem hil) ?_
  refine w.callv text9_calls fun h4 w=>?_
  refine w.st1 0 rfl rfl rfl rfl fun h5 w=>?_
  refine fin9 x w 0 1 rfl rfl ?_
  rw[he]
  simp[hil,textR]
theorem lrange9 (p:P9 h0 kb sb mb c m S av A) (hs9:S9 S) (hl:LaidN h0) (hA:∀a∈A,a.size<281474976710656) (x:As h0 h (c0 ab kb now av)):CallsH Tryz.prog 93 [ptr ab] h (Cmd9 h0 h ab kb now av (cLrange S now A)):=by
 refine f93_calls (by simp) ?_
 intro b2 h1 g1
 have w:=x.st.new g1
 refine sub9_go (i:=1) x w rfl (fun x=>many9_calls p (by decide) x) ?_ ?_
 rotate_left
 ·rintro why h2 ⟨hB,rfl⟩ c2
  exact bad9 (arg3_bad hB) c2
 rintro _ h2 _ ⟨hb,k0,hk0,rfl⟩ w
 obtain⟨k9,s,u,rfl⟩:=three_arg hb
 cases hk0
 refine sub9_go (i:=1) x w rfl (fun x=>num9_calls (j:=1) p x hl rfl (hA s (by simp))) ?_ ?_
 rotate_left
 ·rintro why h3 ⟨hB,rfl⟩ c3
  refine bad9 ?_ c3
  show numbered s _=_
  unfold numbered
  rw[hB]
 rintro _ h3 _ ⟨n,hn,rfl,rfl⟩ w
 have hnn:∀f,numbered s f=f n:=fun f=>by unfold numbered;rw[hn]
 refine sub9_go (i:=1) x w rfl (fun x=>num9_calls (j:=2) p x hl rfl (hA u (by simp))) ?_ ?_
 rotate_left
 ·rintro why h3 ⟨hB,rfl⟩ c3
  refine bad9 ((hnn _).trans ?_) c3
  show numbered u _=_
  unfold numbered
  rw[hB]
 rintro _ h3 _ ⟨n2,hn2,rfl,rfl⟩ w
 have hnn2:∀f,numbered u f=f n2:=fun f=>by unfold numbered;rw[hn2]
 refine sub9_go (i:=1) x w rfl (fun x=>of9_calls p x) ?_ ?_
 rotate_left
 ·rintro why h4 ⟨hB,rfl⟩ c4
  exact bad9 ((hnn _).trans ((hnn2 _).trans (kindly_no hB))) c4
 rintro _ h4 _ ⟨hk,p2,w2,r2,rfl⟩ w
 have ht:=(hs9.get k0 now).ls
 have he:cLrange S now [k0,s,u]=_:=(hnn _).trans ((hnn2 _).trans (kindly_ok hk))
 generalize (getS S k0 now).getD zeroT=t at*
 obtain⟨la,lc,rfl,hlc⟩:=(w.thc 1 rfl).2.1.form
 refine w.ldc 1 rfl rfl ?_
 refine callp (span_calls (by omega) (numOf_in hn) (numOf_in hn2)) ?_
 have hsp:=spanN_le t.list.length n n2
 refine w.ldc 1 rfl rfl ?_
 refine Ai (by omega) (Ai (by omega) (Ai (by omega) ?_))
 refine sl_slc encS_len (w.thc 1 rfl).2.1 hsp.1 hsp.2 fun v1 hv1=>?_
 have hsv:=hv1 _ (w.thc 1 rfl).2.1
 refine call_ret (listStr_calls hsv (by simp;omega)) ?_
 rintro _ h5 ⟨⟨ra,rn,rc,rfl,ol,fr⟩,c5⟩
 have hz:=w.size
 have w:=w.add (e:=.o encQ 4 (.slice ra rn rc) _) c5 ol fr
 refine w.st1 1 rfl rfl rfl rfl fun h6 w=>?_
 refine finl9 x w 1 2 0 rfl rfl rfl (fun b hb=>by have:=fr b hb;omega) ?_
 rw[he]
 simp[listR,qs,spanL]
 rfl
theorem lset9 (p:P9 h0 kb sb mb c m S av A) (hs9:S9 S) (hl:LaidN h0) (hA:∀a∈A,a.size<281474976710656) (x:As h0 h (c0 ab kb now av)):CallsH Tryz.prog 94 [ptr ab] h (Cmd9 h0 h ab kb now av (cLset S now A)):=by
 refine f94_calls (by simp) ?_
 intro b2 h1 g1
 have w:=x.st.new g1
 refine sub9_go (i:=1) x w rfl (fun x=>many9_calls p (by decide) x) ?_ ?_
 rotate_left
 ·rintro why h2 ⟨hB,rfl⟩ c2
  exact bad9 (arg3_bad hB) c2
 rintro _ h2 _ ⟨hb,k0,hk0,rfl⟩ w
 obtain⟨k9,s,u,rfl⟩:=three_arg hb
 cases hk0
 refine sub9_go (i:=1) x w rfl (fun x=>num9_calls (j:=1) p x hl rfl (hA s (by simp))) ?_ ?_
 rotate_left
 ·rintro why h3 ⟨hB,rfl⟩ c3
  refine bad9 ?_ c3
  show numbered s _=_
  unfold numbered
  rw[hB]
 rintro _ h3 _ ⟨n,hn,rfl,rfl⟩ w
 have hnn:∀f,numbered s f=f n:=fun f=>by unfold numbered;rw[hn]
 refine sub9_go (i:=1) x w rfl (fun x=>of9_calls p x) ?_ ?_
 rotate_left
 ·rintro why h4 ⟨hB,rfl⟩ c4
  exact bad9 ((hnn _).trans (kindly_no hB)) c4
 rintro _ h4 _ ⟨hk,p2,w2,r2,rfl⟩ w
 have ht:=(hs9.get k0 now).ls
 have he:cLset S now [k0,s,u]=_:=(hnn _).trans (kindly_ok hk)
 generalize (getS S k0 now).getD zeroT=t at*
 obtain⟨la,lc,rfl,_⟩:=(w.thc 1 rfl).2.1.form
 refine w.ldc 1 rfl rfl ?_
 refine callp (place_calls (by omega) (numOf_in hn)) ?_
 cases hp:placeN t.list.length n with
 |none=>
  rw[hp]at he
  exact must9_no (bad9 he w.chg)
 |some i=>
  have hil:=placeN_lt hp
  rw[hp]at he
  refine must9_yes fun _=>?_
  obtain⟨b,o,cc,rfl⟩:=p.argF (by simp)
  refine w.ldc 1 rfl rfl ?_
  refine p.ix (x.base w) 2 rfl rfl ?_
  refine w.ldc 1 rfl rfl ?_
  refine sub9_go (i:=1) x w rfl (fun x=>put9_calls p ⟨11,noText,noText,u,i⟩ x (by simp) (by have:=hA k0 (by simp);omega) (by show noText.size<_;decide) (by have:=hA u (by simp);show u.size<_;omega)) ?_ ?_
  rotate_left
  ·rintro why h5 ⟨hB,rfl⟩ c5
   exact bad9 (he.trans (mkNo9 (fun hh=>hB ⟨hh.1,hh.2.1,by show noText.size≤_;decide,of_decide_eq_true hh.2.2⟩))) c5
  rintro _ h5 _ ⟨hfit,lv5,rfl⟩ w
  refine w.st1 0 rfl rfl rfl rfl fun h6 w=>?_
  exact fin9 x w 0 1 rfl rfl (he.trans (mkOk9 ⟨hfit.1,hfit.2.1,decide_eq_true hfit.2.2.2⟩))
theorem NoB.ak {kd:Int} {why:ByteArray} {f:ByteArray→List ByteArray→Thing→Res} {g:List ByteArray→Res} (h:NoB S now A 2 65536 kd why) (hg:∀key l,g (key::l)=if 1≤l.length∧l.length<65536 then kindly S now kd key (f key l)else .error wArgs) (hn:g []=.error wArgs):g A=.error why:=by
 match A,h with
 |[],.inl ⟨_,e⟩=>rw[hn,e]
 |[],.inr ⟨hb,_⟩=>simp at hb
 |key::l,.inl ⟨hb,e⟩=>
  rw[hg,e,if_neg]
  intro hh
  exact hb ⟨by simp;omega,by simp;omega⟩
 |key::l,.inr ⟨hb,k0,hk0,hk,e⟩=>
  cases hk0
  simp at hb
  rw[hg,e,if_pos ⟨by omega,by omega⟩,kindly_no hk]
set_option maxHeartbeats 1000000 in
theorem push9 (p:P9 h0 kb sb mb c m S av A) (hs9:S9 S) (hA:∀a∈A,a.size<281474976710656) (x:As h0 h (c0 ab kb now av)):CallsH Tryz.prog 166 [ptr ab,.int .i64 op] h (Cmd9 h0 h ab kb now av (cPush S now (fun key s=>⟨op,key,noText,s,0⟩) A)):=by
 refine f166_calls (by simp) ?_
 intro b4 h1 g1
 have w:=x.st.new g1
 refine sub9_go (i:=1) x w rfl (fun x=>begin9_calls p (by decide) x) ?_ ?_
 rotate_left
 ·rintro why h2 hB c2
  exact bad9 (NoB.ak (f:=fun key l t=>makes S now key (t.list.length+l.length) (l.all small) (numR (t.list.length+l.length)) (l.map fun s=>⟨op,key,noText,s,0⟩)) hB (fun _ _=>rfl) rfl) c2
 rintro _ h2 _ ⟨hb,k0,hk0,hk,p2,w2,r2,rfl⟩ w
 obtain⟨k9,l,rfl⟩:∃k0 l,A=k0::l:=by
  cases A with
  |nil=>simp at hb
  |cons k0 l=>exact⟨k0,l,rfl⟩
 cases hk0
 have hll:1≤l.length∧l.length<65536:=by simp at hb;exact⟨by omega,by omega⟩
 have ht:=(hs9.get k0 now).ls
 have hk0:=hA k0 (by simp)
 have he:cPush S now (fun key s=>⟨op,key,noText,s,0⟩) (k0::l)=makes S now k0 (((getS S k0 now).getD zeroT).list.length+l.length) (l.all small) (numR (((getS S k0 now).getD zeroT).list.length+l.length)) (l.map fun s=>⟨op,k0,noText,s,0⟩):=
  (if_pos hll).trans (kindly_ok hk)
 generalize (getS S k0 now).getD zeroT=t at*
 obtain⟨aa,ac,rfl⟩:=p.argN
 obtain⟨la,lc,rfl,_⟩:=(w.thc 1 rfl).2.1.form
 refine w.ldc 1 rfl rfl ?_
 have hac:=(p.args _ (x.base w)).len.2
 refine Ai (by decide) (Ai (by simp only[List.length_cons];omega) (Ai (by omega) ?_))
 refine sl_slc (lo:=1) (hi:=(k0::l).length) encS_len (p.args _ (x.base w)) (by simp) (Nat.le_refl _) fun v1 hv1=>?_
 have e1:((k0::l).drop 1).take ((k0::l).length-1)=l:=by simp
 rw[e1]at hv1
 have hsl:∀{h'},Chg [] h0 h'→SL encS h' v1 l:=fun hc=>hv1 _ (p.args _ hc)
 clear hv1
 obtain⟨va,vc,rfl,_⟩:=(hsl (Chg.refl _)).form
 obtain⟨vb,vo,rfl⟩:=(hsl (Chg.refl _)).addr (by omega)
 have hD:∀q (hq:q<l.length),(l.map fun s=>(⟨op,k0,noText,s,0⟩:Eff))[q]? =some {(⟨op,noText,noText,l[q],0⟩:Eff)with key:=k0}:=fun q hq=>by simp[hq]
 have hDl:(l.map fun s=>(⟨op,k0,noText,s,0⟩:Eff)).length=l.length:=List.length_map _
 have hDn:(l.map fun s=>(⟨op,k0,noText,s,0⟩:Eff))≠[]:=fun e=>by rw[e]at hDl;simp at hDl;omega
 generalize hDg:(l.map fun s=>(⟨op,k0,noText,s,0⟩:Eff))=D at*
 refine loop_intro (fun q:Nat×Value=>[(0,ptr ab),(1,.int .i64 op),(4,ptr b4),(13,.slice (some ⟨vb,vo,none⟩) l.length vc),(14,.int .i64 l.length),(15,.int .i64 q.1)])
  (fun q h'=>(q.1≤l.length∧(0<q.1→(t.list.length+q.1:Int)≤65536∧k0.size≤1048576)∧(l.take q.1).all small=true)∧St (c0 ab kb now (.slice aa (k0::l).length ac)).fp h h' [.b b4 [.int .i64 0,.int .i64 0,.string ⟨#[]⟩,.slice none 0 0],cE ab kb now (.slice aa (k0::l).length ac) k0 t (getS S k0 now).isSome p2 (.slice la t.list.length lc) r2 q.2 (accE S k0 now D q.1)])
  (fun q=>l.length-q.1) (0,nilV) ⟨rfl,rfl,rfl,rfl,rfl,rfl,trivial⟩ ⟨⟨Nat.zero_le _,fun h9=>absurd h9 (by simp),rfl⟩,w⟩ ?_
 rintro⟨q,lv⟩ h3 ⟨⟨hq,hq1,hq2⟩,w⟩
 have hq:q≤l.length:=hq
 refine Ai rfl (Ai (fun hlt=>?_) (fun hge=>?_))
 ·have hlt:q<l.length:=by omega
  obtain⟨s,hs⟩:∃s,s=l[q]:=⟨_,rfl⟩
  have hsm:s∈l:=by rw[hs];exact List.getElem_mem hlt
  have hsz:=hA s (by simp[hsm])
  have hD:=hD q hlt
  rw[←hs]at hD
  refine sl_ix (s:=s) (hsl (x.base w)) q rfl (by rw[hs];exact List.getElem?_eq_getElem hlt) ?_
  refine w.ldc 1 rfl rfl ?_
  refine Ai rfl (fun z hz=>?_)
  have hz:z=(t.list.length:Int)+q:=hz.trans (wrap_in (by omega) (by omega))
  subst hz
  refine Ai rfl (fun z hz=>?_)
  have hz:z=(t.list.length:Int)+q+1:=hz.trans (wrap_in (by omega) (by omega))
  subst hz
  have hal:=acc_len (S:=S) (key:=k0) (now:=now) D q (by omega)
  refine sub9_go (i:=1) x w rfl (fun x=>put9_calls (items:=(t.list.length:Int)+q+1) p ⟨op,noText,noText,s,0⟩ x (by simp only;omega) (by omega) (by show noText.size<_;decide) (by show s.size<_;omega)) ?_ ?_
  rotate_left
  ·rintro why h5 ⟨hB,rfl⟩ c5
   refine bad9 (he.trans (mkNo9 ?_)) c5
   rintro⟨m1,m2,m3⟩
   exact hB ⟨by omega,m2,by show noText.size≤_;decide,of_decide_eq_true (List.all_eq_true.1 m3 s hsm)⟩
  rintro _ h5 _ ⟨hfit,lv5,rfl⟩ w
  rw[acc_put hD]at w
  refine Ai rfl (fun z hz=>?_)
  have hz:=add_in hz (by omega) (by omega)
  subst hz
  refine Ai rfl (Ei (q+1,lv5) (Ai ⟨rfl,rfl,rfl,rfl,rfl,rfl,trivial⟩ (Ai ⟨⟨hlt,fun _=>⟨?_,hfit.2.1⟩,?_⟩,w⟩ (by simp only;omega))))
  ·have:=hfit.1
   push_cast
   omega
  ·rw[List.take_succ_eq_append_getElem hlt,←hs,List.all_append,hq2]
   simp[small]
   exact hfit.2.2.2
 ·have hkl:q=l.length:=by omega
  subst hkl
  refine w.ldc 1 rfl rfl ?_
  refine w.ldc 1 rfl rfl ?_
  refine Ai rfl (fun z hz=>?_)
  have hz:z=(t.list.length:Int)+((k0::l).length:Nat):=hz.trans (wrap_in (by simp;omega) (by simp;omega))
  subst hz
  refine Ai rfl (fun z hz=>?_)
  have hz:z=(t.list.length:Int)+l.length:=hz.trans ((wrap_in (by simp;omega) (by simp;omega)).trans (by simp;omega))
  subst hz
  refine w.callv number9_calls fun h4 w=>?_
  refine w.st1 0 rfl rfl rfl rfl fun h5 w=>?_
  have e9:accE S k0 now D l.length=dropsS S k0 now++D:=by rw[←hDl];exact acc_all hDn
  rw[e9]at w
  obtain⟨m1,m2⟩:=hq1 (by show 0<l.length;omega)
  have hq2:(l.take l.length).all small=true:=hq2
  rw[List.take_length]at hq2
  exact fin9 x w 0 1 rfl rfl (he.trans (mkOk9 ⟨m1,m2,hq2⟩))
theorem lpush9 (p:P9 h0 kb sb mb c m S av A) (hs9:S9 S) (hA:∀a∈A,a.size<281474976710656) (x:As h0 h (c0 ab kb now av)):CallsH Tryz.prog 87 [ptr ab] h (Cmd9 h0 h ab kb now av (cPush S now headE A)):=by
 refine f87_calls (by simp) ?_
 intro b2 h1 g1
 have w:=x.st.new g1
 refine call_out9 (push9 p hs9 hA (x.out w 1 rfl).1) ?_ (fun why h2 ⟨he,c2⟩=>bad9 he (w.gone 1 rfl c2 (fun _ hb=>.inl hb)).chg)
 rintro _ h2 ⟨q,E,key,t,is,pv,lw,rv,lv,he,⟨ra,rn,rc,rfl,sl,fr⟩,_,o2⟩
 have w:=w.own 1 rfl o2
 refine w.st2 0 rfl rfl rfl rfl fun h3 w k3=>?_
 exact pass9 x w 0 1 rfl rfl sl fr k3 (by have:=g1.id;have:=g1.size;omega) g1.chg.size he
theorem rpush9 (p:P9 h0 kb sb mb c m S av A) (hs9:S9 S) (hA:∀a∈A,a.size<281474976710656) (x:As h0 h (c0 ab kb now av)):CallsH Tryz.prog 88 [ptr ab] h (Cmd9 h0 h ab kb now av (cPush S now tailE A)):=by
 refine f88_calls (by simp) ?_
 intro b2 h1 g1
 have w:=x.st.new g1
 refine call_out9 (push9 p hs9 hA (x.out w 1 rfl).1) ?_ (fun why h2 ⟨he,c2⟩=>bad9 he (w.gone 1 rfl c2 (fun _ hb=>.inl hb)).chg)
 rintro _ h2 ⟨q,E,key,t,is,pv,lw,rv,lv,he,⟨ra,rn,rc,rfl,sl,fr⟩,_,o2⟩
 have w:=w.own 1 rfl o2
 refine w.st2 0 rfl rfl rfl rfl fun h3 w k3=>?_
 exact pass9 x w 0 1 rfl rfl sl fr k3 (by have:=g1.id;have:=g1.size;omega) g1.chg.size he
end
end Go.Proofs.YtjnijlnmbjjgpaaGreatDoor
namespace Go.Proofs.YtjnijlnmbjjgpaaGreatDoor
open Go Go.Sx C
theorem newL_at {th:ByteArray→Bool} {l:List ByteArray} {q:Nat} (hq:q<l.length) (hb:(!th l[q]&&decide (l[q]∉l.take q))=true):(newL th [] l)[(newL th [] (l.take q)).length]? =some l[q]:=by
 have e1:=newL_app (th:=th) (a:=l.take (q+1)) (b:=l.drop (q+1)) (pre:=[])
 rw[List.take_append_drop,newL_snoc hq,if_pos hb]at e1
 rw[e1,List.append_assoc,List.getElem?_append_right (Nat.le_refl _),Nat.sub_self]
 rfl
section
variable {h0 h h1 h2 h':Heap} {ab kb sb mb c b1 b2 bs bt mb2:Nat} {now op kd:Int} {av lv pv lw rv fv v:Value} {key why:ByteArray} {t:Thing} {is:Bool} {A l pre:List ByteArray} {L:List Eff} {m:List KI} {S:Space} {M:List En} {T:List Nat} {res:Res} {th:ByteArray→Bool} {Z:Heap→Prop}
theorem good9 (hi:InS S):TGood ((getS S key now).getD zeroT):=by
 cases hg:getS S key now with
 |none=>exact TGood.zero 0
 |some t=>exact(hi _ (getS_mem hg)).good
theorem set_sorted (hi:InS S) (hk:okK 4 (getS S key now)=true):((getS S key now).getD zeroT).list.Pairwise fun a b=>sless a b=true:=by
 cases hg:getS S key now with
 |none=>exact List.Pairwise.nil
 |some t=>
  rw[hg]at hk
  exact(hi _ (getS_mem hg)).good.ls (of_decide_eq_true hk)
theorem NoB.as {f:ByteArray→List ByteArray→Thing→Res} {g:List ByteArray→Res} (h:NoB S now A 2 65536 kd why) (hg:∀key l,g (key::l)=if 1≤l.length∧l.length<65536 then kindly S now kd key (f key l)else .error wArgs) (hn:g []=.error wArgs):g A=.error why:=no_away h hg hn
set_option maxHeartbeats 1000000 in
theorem sadd9 (p:P9 h0 kb sb mb c m S av A) (hs9:S9 S) (hi:InS S) (hA:∀a∈A,a.size<281474976710656) (x:As h0 h (c0 ab kb now av)):CallsH Tryz.prog 95 [ptr ab] h (Cmd9 h0 h ab kb now av (cSadd S now A)):=by
 refine f95_calls (by simp) ?_
 intro b2 h1 g1
 have w:=x.st.new g1
 refine sub9_go (i:=1) x w rfl (fun x=>begin9_calls p (by decide) x) ?_ ?_
 rotate_left
 ·rintro why h2 hB c2
  exact bad9 (NoB.as (f:=fun key l t=>if newL (thereL t.list) [] l=[]then .ok (numR 0,[])else makes S now key (t.list.length+(newL (thereL t.list) [] l).length) ((newL (thereL t.list) [] l).all small) (numR (newL (thereL t.list) [] l).length) ((newL (thereL t.list) [] l).map (addE key))) hB (fun _ _=>rfl) rfl) c2
 rintro _ h2 _ ⟨hb,k0,hk0,hk,p2,w2,r2,rfl⟩ w
 obtain⟨k9,l,rfl⟩:=cons_of (by decide) hb.1
 cases hk0
 obtain⟨ba,oa,ac,rfl⟩:=p.argF (by simp)
 have hlc:(k0::l).length=l.length+1:=rfl
 have hc9:1≤l.length∧l.length<65536:=⟨by omega,by omega⟩
 have htl:=(hs9.get k0 now).ls
 have hso:=set_sorted hi hk
 have hk9:=hA k0 (by simp)
 have he:cSadd S now (k0::l)=_:=(if_pos hc9).trans (kindly_ok hk)
 generalize (getS S k0 now).getD zeroT=t at*
 obtain⟨la,lc,rfl,_⟩:=(w.thc 1 rfl).2.1.form
 obtain⟨ns,hns⟩:∃ns,ns=newL (thereL t.list) [] l:=⟨_,rfl⟩
 obtain⟨D,hDe⟩:∃D,D=ns.map (addE k0):=⟨_,rfl⟩
 have he:cSadd S now (k0::l)=if ns=[]then .ok (numR 0,[])else makes S now k0 (t.list.length+ns.length) (ns.all small) (numR ns.length) D:=by rw[he,hDe,hns]
 have hDl:D.length=ns.length:=by rw[hDe];exact List.length_map _
 have hnsl:ns.length≤l.length:=by rw[hns];exact newL_len
 refine call_ret fresh9_calls ?_
 rintro _ h5 ⟨⟨bs,mb2,bt,rfl,hf,hfb⟩,c5⟩
 have w:=w.add (e:=frE bs mb2 bt (.func (.func 172) #[ptr ab] #[]) []) c5 hf (fun b hb=>hfb b (by simpa[frE,En.fp]using hb))
 refine w.ldc 2 rfl rfl ?_
 have hac:=(p.args _ (x.base w)).len.2
 refine Ai (by decide) (Ai (by simp only[List.length_cons];omega) (Ai (by omega) ?_))
 refine sl_slc (lo:=1) (hi:=(k0::l).length) encS_len (p.args _ (x.base w)) (by simp) (Nat.le_refl _) fun v1 hv1=>?_
 have e1:((k0::l).drop 1).take ((k0::l).length-1)=l:=by simp
 rw[e1]at hv1
 have hsl:∀{h'},Chg [] h0 h'→SL encS h' v1 l:=fun hc=>hv1 _ (p.args _ hc)
 clear hv1
 obtain⟨va,vc,rfl,_⟩:=(hsl (Chg.refl _)).form
 obtain⟨vb,vo,rfl⟩:=(hsl (Chg.refl _)).addr (by omega)
 refine loop_intro (fun q:Nat×Nat×Value=>[(0,ptr ab),(2,ptr b2),(3,.int .i64 q.2.1),(4,.func (.func 228) #[] #[ptr bs,ptr bt]),(16,.slice (some ⟨vb,vo,none⟩) l.length vc),(17,.int .i64 l.length),(18,.int .i64 q.1)])
  (fun q h'=>(q.1≤l.length∧q.2.1=(newL (thereL t.list) [] (l.take q.1)).length∧q.2.1≤ns.length∧(0<q.2.1→((t.list.length:Int)+q.2.1≤65536∧k0.size≤1048576))∧(newL (thereL t.list) [] (l.take q.1)).all small=true)∧
   St (c0 ab kb now (.slice (some ⟨ba,oa,none⟩) (k0::l).length ac)).fp h h' [frE bs mb2 bt (.func (.func 172) #[ptr ab] #[]) (l.take q.1),.b b2 [.int .i64 0,.int .i64 0,.string ⟨#[]⟩,.slice none 0 0],
    cE ab kb now (.slice (some ⟨ba,oa,none⟩) (k0::l).length ac) k0 t (getS S k0 now).isSome p2 (.slice la t.list.length lc) r2 q.2.2 (accE S k0 now D q.2.1)])
  (fun q=>l.length-q.1) (0,0,nilV) ⟨rfl,rfl,rfl,rfl,rfl,rfl,rfl,trivial⟩ ⟨⟨Nat.zero_le _,rfl,Nat.zero_le _,fun h9=>absurd h9 (by simp),rfl⟩,w⟩ ?_
 rintro⟨q,n,lv⟩ h6 ⟨⟨hq,hn0,hnn,hfits,hsm⟩,w⟩
 replace hq:q≤l.length:=hq
 replace hn0:n=(newL (thereL t.list) [] (l.take q)).length:=hn0
 replace hnn:n≤ns.length:=hnn
 replace hfits:0<n→((t.list.length:Int)+n≤65536∧k0.size≤1048576):=hfits
 replace hsm:(newL (thereL t.list) [] (l.take q)).all small=true:=hsm
 refine Ai rfl (Ai (fun hlt=>?_) (fun hge=>?_))
 ·have hlt:q<l.length:=by omega
  have htk:=List.take_succ_eq_append_getElem hlt
  obtain⟨s,hs⟩:∃s,s=l[q]:=⟨_,rfl⟩
  rw[←hs]at htk
  have hsl9:s∈l:=by rw[hs];exact List.getElem_mem hlt
  have hsz:=hA s (by simp[hsl9])
  refine sl_ix (s:=s) (hsl (x.base w)) q rfl (by rw[hs];exact List.getElem?_eq_getElem hlt) ?_
  refine w.fresh 0 2 rfl rfl (by decide) (tc_member (by omega) hso) (fun _ _=>trivial) (by rw[List.length_take];omega) fun h7 w=>?_
  rw[←htk]at w
  obtain⟨bb,hbb⟩:∃bb,bb=(!thereL t.list s&&decide (s∉l.take q)):=⟨_,rfl⟩
  have hsn:=newL_snoc (th:=thereL t.list) hlt
  rw[←hs,←hbb]at hsn
  have hcnt:=newL_cnt (th:=thereL t.list) hlt (b:=bb) (by rw[←hs];exact hbb)
  rw[←hbb]
  cases bb with
  |true=>
   have hat:=newL_at (th:=thereL t.list) hlt (by rw[←hs];exact hbb.symm)
   rw[←hs,←hns,←hn0]at hat
   have hnlt:n<ns.length:=(List.getElem?_eq_some_iff.1 hat).1
   have hsns:s∈ns:=List.mem_of_getElem? hat
   have hD:D[n]? =some {(⟨12,noText,s,noText,0⟩:Eff)with key:=k0}:=by rw[hDe,List.getElem?_map,hat];rfl
   have hcnt:(newL (thereL t.list) [] (l.take (q+1))).length=n+1:=by rw[hcnt,hn0];rfl
   have hal:=acc_len (S:=S) (key:=k0) (now:=now) D n (by omega)
   have hne:ns≠[]:=fun e=>by rw[e]at hnlt;simp at hnlt
   refine Ai rfl (fun z hz=>?_)
   have hz:=add_in hz (by simp only;omega) (by simp only;omega)
   subst hz
   refine w.ldc 2 rfl rfl ?_
   refine Ai rfl (fun z hz=>?_)
   have hz:z=(t.list.length:Int)+(n+1:Nat):=hz.trans (wrap_in (by simp only;omega) (by simp only;omega))
   subst hz
   refine sub9_go (i:=2) x w rfl (fun x=>put9_calls p ⟨12,noText,s,noText,0⟩ x (by simp only;omega) (by omega) (by show s.size<_;omega) (by show noText.size<_;decide)) ?_ ?_
   rotate_left
   ·rintro why h8 ⟨hB,rfl⟩ c8
    refine bad9 (he.trans ((if_neg hne).trans (mkNo9 ?_))) c8
    rintro⟨m1,m2,m3⟩
    exact hB ⟨by omega,m2,small_of9 m3 hsns,by show noText.size≤_;decide⟩
   rintro _ h8 _ ⟨hfit,lv8,rfl⟩ w
   rw[acc_put hD]at w
   refine Ai rfl (fun z hz=>?_)
   have hz:=add_in hz (by simp only;omega) (by simp only;omega)
   subst hz
   refine Ai rfl (Ei (q+1,n+1,lv8) (Ai ⟨rfl,rfl,rfl,rfl,rfl,rfl,rfl,trivial⟩ (Ai ⟨⟨hlt,by rw[hcnt],hnlt,fun _=>⟨?_,hfit.2.1⟩,?_⟩,w⟩ (by simp only;omega))))
   ·have:=hfit.1
    push_cast at this⊢
    omega
   ·rw[hsn,if_pos rfl,List.all_append,hsm]
    simp[small]
    exact hfit.2.2.1
  |false=>
   have hcnt:(newL (thereL t.list) [] (l.take (q+1))).length=n:=by rw[hcnt,hn0];rfl
   refine Ai rfl (fun z hz=>?_)
   have hz:=add_in hz (by simp only;omega) (by simp only;omega)
   subst hz
   exact Ai rfl (Ei (q+1,n,lv) (Ai ⟨rfl,rfl,rfl,rfl,rfl,rfl,rfl,trivial⟩ (Ai ⟨⟨hlt,by rw[hcnt],hnn,hfits,by rw[hsn,if_neg (by decide),List.append_nil];exact hsm⟩,w⟩ (by simp only;omega))))
 ·have hkl:q=l.length:=by omega
  subst hkl
  rw[List.take_length,←hns]at hn0 hsm
  refine w.callv number9_calls fun h7 w=>?_
  refine w.st1 1 rfl rfl rfl rfl fun h8 w=>?_
  subst hn0
  refine fin9 x w 1 2 rfl rfl ?_
  by_cases hne:ns=[]
  ·rw[he,if_pos hne]
   have hD0:D=[]:=List.eq_nil_of_length_eq_zero (by rw[hDl,hne];rfl)
   rw[hD0,hne]
   rfl
  ·have hD9:D≠[]:=fun e=>hne (List.eq_nil_of_length_eq_zero (by rw[←hDl,e];rfl))
   have hpos:0<ns.length:=List.length_pos_iff.2 hne
   rw[he,if_neg hne,mkOk9 ⟨(hfits hpos).1,(hfits hpos).2,hsm⟩]
   have:=acc_all (S:=S) (key:=k0) (now:=now) hD9
   rw[hDl]at this
   rw[show accE S k0 now D (l.length,ns.length,lv).2.1=dropsS S k0 now++D from this]
   rfl
theorem srem9 (p:P9 h0 kb sb mb c m S av A) (hs9:S9 S) (hi:InS S) (x:As h0 h (c0 ab kb now av)):CallsH Tryz.prog 96 [ptr ab] h (Cmd9 h0 h ab kb now av (cSrem S now A)):=by
 refine f96_calls (by simp) ?_
 intro b2 h2 g2
 have w:=x.st.new g2
 refine sub9_go (i:=1) x w rfl (fun x=>begin9_calls p (by decide) x) ?_ ?_
 rotate_left
 ·rintro why h2 hB c2
  exact bad9 (no_away (f:=fun key l t=>.ok (numR (hereL (thereL t.list) l).length,(hereL (thereL t.list) l).map (removeE key))) hB (fun _ _=>rfl) rfl) c2
 rintro _ h3 _ ⟨hb,k0,hk0,hk,p2,w2,r2,rfl⟩ w
 obtain⟨k9,l,rfl⟩:=cons_of (by decide) hb.1
 cases hk0
 have hlc:(k0::l).length=l.length+1:=rfl
 have hc9:1≤l.length∧l.length<65536:=⟨by omega,by omega⟩
 have htl:=(hs9.get k0 now).ls
 have hso:=set_sorted hi hk
 have he:cSrem S now (k0::l)=_:=(show cSrem S now (k0::l)=if 1≤l.length∧l.length<65536 then kindly S now 4 k0 (fun t=>.ok (numR (hereL (thereL t.list) l).length,(hereL (thereL t.list) l).map (removeE k0)))else .error wArgs from rfl).trans ((if_pos hc9).trans (kindly_ok hk))
 generalize (getS S k0 now).getD zeroT=t at*
 refine call_ret (away9_calls p hc9 (x.out w 1 rfl).1 (tc_member (by omega) hso) (fun _ _=>trivial)) ?_
 rintro _ h5 ⟨rfl,lv5,_,o5⟩
 have w:=w.own 1 rfl o5
 refine w.st1 0 rfl rfl rfl rfl fun h6 w=>?_
 exact fin9 x w 0 1 rfl rfl he
theorem truth9_calls {b:Bool}:CallsH Tryz.prog 173 [.bool b] h (Ret fun r h'=>r=repV 3 (if b=true then 1 else 0) noText∧Chg [] h h'):=by
 refine f173_calls (by simp) ?_
 intro b1 h1 g1
 have w:=(St.start h).new g1
 cases b with
 |true=>
  refine w.callv number9_calls fun h2 w=>?_
  refine w.st1 0 rfl rfl rfl rfl fun h3 w=>?_
  exact⟨_,rfl,cells_blk (w.get 0 rfl),rfl,w.chg⟩
 |false=>
  refine w.callv number9_calls fun h2 w=>?_
  refine w.st1 0 rfl rfl rfl rfl fun h3 w=>?_
  exact⟨_,rfl,cells_blk (w.get 0 rfl),rfl,w.chg⟩
theorem sis9 (p:P9 h0 kb sb mb c m S av A) (hs9:S9 S) (hi:InS S) (x:As h0 h (c0 ab kb now av)):CallsH Tryz.prog 97 [ptr ab] h (Cmd9 h0 h ab kb now av (cSis S now A)):=by
 refine f97_calls (by simp) ?_
 intro b2 h1 g1
 have w:=x.st.new g1
 refine sub9_go (i:=1) x w rfl (fun x=>begin9_calls p (by decide) x) ?_ ?_
 rotate_left
 ·rintro why h2 hB c2
  exact bad9 (NoB.a2 (f:=fun _ n t=>.ok (numR (if thereL t.list n=true then 1 else 0),[])) hB) c2
 rintro _ h2 _ ⟨hb,k0,hk0,hk,p2,w2,r2,rfl⟩ w
 obtain⟨k9,n,rfl⟩:=two_arg hb
 cases hk0
 have he:cSis S now [k0,n]=_:=(show cSis S now [k0,n]=kindly S now 4 k0 (fun t=>.ok (numR (if thereL t.list n=true then 1 else 0),[]))from rfl).trans (kindly_ok hk)
 have htl:=(hs9.get k0 now).ls
 have hso:=set_sorted hi hk
 generalize (getS S k0 now).getD zeroT=t at*
 obtain⟨b,o,cc,rfl⟩:=p.argF (by simp)
 refine w.ldc 1 rfl rfl ?_
 refine p.ix (x.base w) 1 rfl rfl ?_
 refine w.callv (member9_calls (w.get 1 rfl) (by omega) hso) fun h3 w=>?_
 refine w.callv truth9_calls fun h4 w=>?_
 refine w.st1 0 rfl rfl rfl rfl fun h5 w=>?_
 exact fin9 x w 0 1 rfl rfl he
theorem scard9 (p:P9 h0 kb sb mb c m S av A) (x:As h0 h (c0 ab kb now av)):CallsH Tryz.prog 98 [ptr ab] h (Cmd9 h0 h ab kb now av (cScard S now A)):=by
 refine f98_calls (by simp) ?_
 intro b2 h1 g1
 have w:=x.st.new g1
 refine sub9_go (i:=1) x w rfl (fun x=>begin9_calls p (by decide) x) ?_ ?_
 rotate_left
 ·rintro why h2 hB c2
  exact bad9 (NoB.a1 (f:=fun _ t=>.ok (numR t.list.length,[])) hB) c2
 rintro _ h2 _ ⟨hb,k0,hk0,hk,p2,w2,r2,rfl⟩ w
 obtain⟨k9,rfl⟩:=one_arg hb
 cases hk0
 obtain⟨la,lc,rfl,_⟩:=(w.thc 1 rfl).2.1.form
 refine w.ldc 1 rfl rfl ?_
 refine w.callv number9_calls fun h3 w=>?_
 refine w.st1 0 rfl rfl rfl rfl fun h4 w=>?_
 have he:cScard S now [k0]=_:=(show cScard S now [k0]=kindly S now 4 k0 (fun t=>.ok (numR t.list.length,[]))from rfl).trans (kindly_ok hk)
 exact fin9 x w 0 1 rfl rfl he
theorem smem9 (p:P9 h0 kb sb mb c m S av A) (hs9:S9 S) (x:As h0 h (c0 ab kb now av)):CallsH Tryz.prog 99 [ptr ab] h (Cmd9 h0 h ab kb now av (cSmem S now A)):=by
 refine f99_calls (by simp) ?_
 intro b2 h1 g1
 have w:=x.st.new g1
 refine sub9_go (i:=1) x w rfl (fun x=>begin9_calls p (by decide) x) ?_ ?_
 rotate_left
 ·rintro why h2 hB c2
  exact bad9 (NoB.a1 (f:=fun _ t=>.ok (listR t.list,[])) hB) c2
 rintro _ h2 _ ⟨hb,k0,hk0,hk,p2,w2,r2,rfl⟩ w
 obtain⟨k9,rfl⟩:=one_arg hb
 cases hk0
 have htl:=(hs9.get k0 now).ls
 have he:cSmem S now [k0]=_:=(show cSmem S now [k0]=kindly S now 4 k0 (fun t=>.ok (listR t.list,[]))from rfl).trans (kindly_ok hk)
 generalize (getS S k0 now).getD zeroT=t at*
 have hsv:=(w.thc 1 rfl).2.1
 obtain⟨la,lc,rfl,_⟩:=hsv.form
 refine w.ldc 1 rfl rfl ?_
 refine call_ret (listStr_calls hsv (by omega)) ?_
 rintro _ h5 ⟨⟨ra,rn,rc,rfl,ol,fr⟩,c5⟩
 have hz:=w.size
 have w:=w.add (e:=.o encQ 4 (.slice ra rn rc) _) c5 ol fr
 refine w.st1 1 rfl rfl rfl rfl fun h6 w=>?_
 refine finl9 x w 1 2 0 rfl rfl rfl (fun b hb=>by have:=fr b hb;omega) ?_
 rw[he]
 simp[listR,qs,toQ]
end
end Go.Proofs.YtjnijlnmbjjgpaaGreatDoor
namespace Go.Proofs.YtjnijlnmbjjgpaaGreatDoor.K5
open Go Go.Sx Go.Proofs.YtjnijlnmbjjgpaaGreatDoor C
def ahead (a b:Rank):Bool:=decide (a.score<b.score)||(decide (a.score=b.score)&&sless a.name b.name)
def findR (n:ByteArray):List Rank→Nat→Int
 |[],_=> -1
 |r::l,i=>if r.name=n then i else findR n l (i+1)
def sel (p:Rank→Nat→Bool):List Rank→Nat→List Rank
 |[],_=>[]
 |x::l,i=>if p x i then x::sel p l (i+1)else sel p l (i+1)
def dropR (n:ByteArray) (l:List Rank):List Rank:=sel (fun x _=>decide (x.name≠n)) l 0
def atR (f u:Int) (l:List Rank):List Rank:=sel (fun _ i=>decide (f≤i)&&decide ((i:Int)<u)) l 0
def betweenR (a b:Int) (l:List Rank):List Rank:=sel (fun x _=>decide (a≤x.score)&&decide (x.score≤b)) l 0
def upto (x:Rank):List Rank→Nat
 |[]=>0
 |y::l=>if ahead y x then upto x l+1 else 0
theorem upto_le (x:Rank):∀l,upto x l≤l.length
 |[]=>by simp[upto]
 |y::l=>by
  have:=upto_le x l
  simp only[upto];split<;>simp;omega
def insR (x:Rank) (l:List Rank):List Rank:=l.take (upto x l)++x::l.drop (upto x l)
def setR (l:List Rank) (x:Rank):List Rank:=insR x (dropR x.name l)
def setErr (l:List Rank) (x:Rank):Bool:=decide (1048576<x.name.size)||(decide (findR x.name l 0<0)&&decide (65536≤l.length))
def ofGo:List Rank→List Rank→Option (List Rank)
 |out,[]=>some out
 |out,x::l=>if 0≤findR x.name out 0 then none else ofGo (if setErr out x then out else setR out x) l
def ofErr (l:List Rank):Int:=
 if 65536<l.length then 3 else if l.any (fun x=>decide (1048576<x.name.size))then 3 else if(ofGo [] l).isNone then 2 else 0
def ofR (l:List Rank):List Rank:=if ofErr l=0 then(ofGo [] l).getD []else[]
theorem insR_len (x:Rank) (l:List Rank):(insR x l).length=l.length+1:=by
 have:=upto_le x l
 simp[insR];omega
theorem upto_spec (x:Rank):∀(l:List Rank) (k:Nat),(∀j (hj:j<l.length),j<k→ahead l[j] x=true)→k≤l.length→(∀hk:k<l.length,ahead l[k] x=false)→upto x l=k
 |[],k,_,hk,_=>by simp at hk;simp[upto,hk]
 |y::l,0,_,_,h=>by
  have:=h (by simp)
  simp at this
  simp[upto,this]
 |y::l,k+1,h1,hk,h2=>by
  have hy:=h1 0 (by simp) (by omega)
  simp at hy
  simp only[upto,hy,if_true]
  rw[upto_spec x l k (fun j hj hjk=>by have:=h1 (j+1) (by simpa using hj) (by omega);simpa using this) (by simpa using hk) (fun hk'=>by have:=h2 (by simpa using hk');simpa using this)]
end Go.Proofs.YtjnijlnmbjjgpaaGreatDoor.K5

namespace Go.Proofs.YtjnijlnmbjjgpaaGreatDoor.K5
open Go Go.Sx Go.Proofs.YtjnijlnmbjjgpaaGreatDoor C
theorem any_drop {p:Rank→Bool} {l:List Rank} {k:Nat} (h:k<l.length) (hp:p l[k]=true):l.any p=true:=
 List.any_eq_true.2 ⟨l[k],List.getElem_mem h,hp⟩
theorem ahead_iff (a b:Rank):ahead a b=true↔a.score<b.score∨(a.score=b.score∧sless a.name b.name=true):=by simp[ahead]
theorem ahead_irrefl (a:Rank):ahead a a=false:=by
 have:=sless_irrefl a.name
 simp[ahead,this]
theorem ahead_trans {a b c:Rank} (h1:ahead a b=true) (h2:ahead b c=true):ahead a c=true:=by
 rw[ahead_iff]at*
 rcases h1 with h1|⟨h1,h1'⟩<;>rcases h2 with h2|⟨h2,h2'⟩
 ·left;omega
 ·left;omega
 ·left;omega
 ·right;exact⟨by omega,sless_trans h1' h2'⟩
theorem ahead_total {a b:Rank} (h:a.name≠b.name):ahead a b=true∨ahead b a=true:=by
 rw[ahead_iff,ahead_iff]
 by_cases e:a.score=b.score
 ·rcases sless_total h with h|h
  ·left;right;exact⟨e,h⟩
  ·right;right;exact⟨e.symm,h⟩
 ·rcases Int.lt_or_gt_of_ne e with h|h
  ·left;left;exact h
  ·right;left;exact h
def Sorted (l:List Rank):Prop:=l.Pairwise fun a b=>ahead a b=true
theorem upto_iff {x:Rank}:∀{l:List Rank},Sorted l→∀(k:Nat) (hk:k<l.length),ahead l[k] x=true↔k<upto x l
 |[],_,k,hk=>by simp at hk
 |y::l,hs,0,hk=>by
  simp only[List.getElem_cons_zero,upto]
  split<;>simp_all
 |y::l,hs,k+1,hk=>by
  have⟨h1,h2⟩:=List.pairwise_cons.1 hs
  have ih:=upto_iff (x:=x) h2 k (by simpa using hk)
  simp only[List.getElem_cons_succ,upto]
  split
  ·rw[ih];omega
  ·rename_i hy
   constructor
   ·intro h
    exact absurd (ahead_trans (h1 _ (List.getElem_mem _)) h) hy
   ·intro h;omega
theorem sorted_app {a b:List Rank}:Sorted (a++b)↔Sorted a∧Sorted b∧∀x∈a,∀y∈b,ahead x y=true:=List.pairwise_append
theorem insR_sorted {x:Rank} {l:List Rank} (hs:Sorted l) (hn:∀y∈l,y.name≠x.name):Sorted (insR x l):=by
 have hl:l.take (upto x l)++l.drop (upto x l)=l:=List.take_append_drop ..
 have hs2:=hs
 rw[←hl,sorted_app]at hs2
 obtain⟨h1,h2,h3⟩:=hs2
 have ha:∀y∈l.take (upto x l),ahead y x=true:=by
  intro y hy
  obtain⟨k,hk,rfl⟩:=List.getElem_of_mem hy
  have hk2:k<upto x l∧k<l.length:=by simp at hk;omega
  rw[List.getElem_take]
  exact(upto_iff hs k hk2.2).2 hk2.1
 have hb:∀y∈l.drop (upto x l),ahead x y=true:=by
  intro y hy
  obtain⟨k,hk,rfl⟩:=List.getElem_of_mem hy
  have hk2:upto x l+k<l.length:=by simp at hk;omega
  rw[List.getElem_drop]
  rcases ahead_total (hn _ (List.getElem_mem hk2))with h|h
  ·have:=(upto_iff hs _ hk2).1 h;omega
  ·exact h
 unfold insR
 rw[sorted_app]
 refine⟨h1,List.pairwise_cons.2 ⟨hb,h2⟩,fun y hy z hz=>?_⟩
 rcases List.mem_cons.1 hz with rfl|hz
 ·exact ha y hy
 ·exact h3 y hy z hz
theorem upto_mid {a b:List Rank} {x:Rank} (hs:Sorted (a++x::b)):upto x (a++x::b)=a.length:=by
 refine upto_spec x _ _ ?_ (by simp) ?_
 ·intro j hj hja
  rw[List.getElem_append_left hja]
  exact(sorted_app.1 hs).2.2 _ (List.getElem_mem hja) x (by simp)
 ·intro hk
  rw[List.getElem_append_right (Nat.le_refl _)]
  simp[ahead_irrefl]
def Names (l:List Rank):Prop:=(l.map Rank.name).Nodup
theorem sel_all {p:Rank→Nat→Bool}:∀{l:List Rank} {i:Nat},(∀x∈l,∀j,p x j=true)→sel p l i=l
 |[],_,_=>rfl
 |x::l,i,h=>by
  simp only[sel,h x (by simp) i,if_true]
  rw[sel_all fun y hy=>h y (by simp[hy])]
theorem dropR_none {n:ByteArray} {l:List Rank} (h:∀y∈l,y.name≠n):dropR n l=l:=
 sel_all fun x hx _=>by simpa using h x hx
theorem findR_none {n:ByteArray}:∀{l:List Rank} {i:Nat},(∀y∈l,y.name≠n)→findR n l i= -1
 |[],_,_=>rfl
 |x::l,i,h=>by
  simp only[findR]
  rw[if_neg (h x (by simp)),findR_none fun y hy=>h y (by simp[hy])]
theorem findR_mid {x:Rank}:∀{a b:List Rank} {i:Nat},Names (a++x::b)→findR x.name (a++x::b) i=i+a.length
 |[],b,i,_=>by simp[findR]
 |y::a,b,i,h=>by
  have h':Names (a++x::b):=(List.nodup_cons.1 h).2
  have hy:y.name≠x.name:=fun e=>(List.nodup_cons.1 h).1 (by rw[e];simp)
  simp only[List.cons_append,findR]
  rw[if_neg hy,findR_mid h']
  simp;omega
theorem insR_names {x:Rank} {l:List Rank} (hs:Names l) (hn:∀y∈l,y.name≠x.name):Names (insR x l):=by
 have hp:(insR x l).Perm (x::l):=by
  unfold insR
  refine List.perm_middle.trans ?_
  rw[List.take_append_drop]
 have:=hp.map Rank.name
 unfold Names
 rw[this.nodup_iff]
 simp only[List.map_cons,List.nodup_cons]
 refine⟨fun h=>?_,hs⟩
 obtain⟨y,hy,e⟩:=List.mem_map.1 h
 exact hn y hy e
structure Nd where
 mb:Nat
 lb:Nat
 ht:Nat
 r:Rank
def Nd.row (a:Nd):List Value:=encR a.r++[.slice (some ⟨a.lb,0,none⟩) a.ht a.ht]
structure NodeOK (h:Heap) (a:Nd):Prop where
 m:Blk h a.mb a.row
 l:∃lk,Blk h a.lb lk∧lk.length=2*a.ht
 pos:1≤a.ht
 top:a.ht≤16
def link (h:Heap) (a:Nd) (hh:Nat) (to:Value) (w:Int):Prop:=
 cell h a.lb (2*hh)=some to∧cell h a.lb (2*hh+1)=some (.int .i64 w)
def lead (h:Heap) (hh:Nat) (a:Nd) (i:Nat):List (Nd×Nat)→Prop
 |[]=>∃w,link h a hh (.pointer none) w
 |(b,k)::_=>link h a hh (ptr b.mb) ((k:Int)-i)
def LvL (h:Heap) (hh:Nat):List (Nd×Nat)→Prop
 |[]=>True
 |(a,i)::l=>lead h hh a i l∧LvL h hh l
def ons (hh:Nat):Nat→List Nd→List (Nd×Nat)
 |_,[]=>[]
 |k,a::l=>if hh<a.ht then(a,k)::ons hh (k+1) l else ons hh (k+1) l
theorem ons_app (hh:Nat):∀(k:Nat) (a b:List Nd),ons hh k (a++b)=ons hh k a++ons hh (k+a.length) b
 |k,[],b=>by simp[ons]
 |k,x::a,b=>by
  have ih:=ons_app hh (k+1) a b
  have e:k+(x::a).length=k+1+a.length:=by simp;omega
  simp only[List.cons_append,ons,ih,e]
  split<;>simp
theorem ons_mem {hh:Nat}:∀{k:Nat} {l:List Nd} {a:Nd} {i:Nat},(a,i)∈ons hh k l→hh<a.ht∧k≤i∧l[i-k]? =some a
 |k,[],a,i,h=>by simp[ons]at h
 |k,x::l,a,i,h=>by
  simp only[ons]at h
  have key:(a,i)∈ons hh (k+1) l→hh<a.ht∧k≤i∧(x::l)[i-k]? =some a:=by
   intro h
   obtain⟨h1,h2,h3⟩:=ons_mem h
   refine⟨h1,by omega,?_⟩
   have e:i-k=(i-(k+1))+1:=by omega
   rw[e];simpa using h3
  split at h
  ·rename_i hx
   rcases List.mem_cons.1 h with h|h
   ·cases h;simp[hx]
   ·exact key h
  ·exact key h
theorem mem_ons {hh:Nat}:∀{k:Nat} {l:List Nd} {a:Nd} {i:Nat},hh<a.ht→l[i]? =some a→(a,k+i)∈ons hh k l
 |k,[],a,i,_,h=>by simp at h
 |k,x::l,a,0,hh',h=>by
  simp at h;subst h
  simp[ons,hh']
 |k,x::l,a,i+1,hh',h=>by
  have ih:=mem_ons (k:=k+1) hh' (show l[i]? =some a by simpa using h)
  have e:k+(i+1)=k+1+i:=by omega
  simp only[ons,e]
  split
  ·exact List.mem_cons_of_mem _ ih
  ·exact ih
theorem ons_low {hh hh':Nat} (hl:hh'≤hh) {k:Nat} {l:List Nd} {a:Nd} {i:Nat} (h:(a,i)∈ons hh k l):(a,i)∈ons hh' k l:=by
 obtain⟨h1,h2,h3⟩:=ons_mem h
 have:=mem_ons (hh:=hh') (k:=k) (by omega) h3
 have e:k+(i-k)=i:=by omega
 rw[e]at this;exact this
theorem ons_rise {hh:Nat}:∀{k:Nat} {l:List Nd},(ons hh k l).Pairwise fun x y=>x.2<y.2
 |k,[]=>by simp[ons]
 |k,x::l=>by
  have ih:=@ons_rise hh (k+1) l
  simp only[ons]
  split
  ·refine List.pairwise_cons.2 ⟨fun y hy=>?_,ih⟩
   have:=(ons_mem (a:=y.1) (i:=y.2) hy).2.1
   simp only;omega
  ·exact ih
def Seg (h:Heap) (hh:Nat):List (Nd×Nat)→(Nd×Nat)→Prop
 |[],_=>True
 |(a,i)::l,y=>lead h hh a i (l++[y])∧Seg h hh l y
theorem lead_head {h:Heap} {hh:Nat} {a:Nd} {i:Nat} {l:List (Nd×Nat)} {y:Nd×Nat} {r:List (Nd×Nat)}:lead h hh a i (l++y::r)↔lead h hh a i (l++[y]):=by
 cases l<;>obtain⟨b,k⟩:=y<;>simp[lead]
theorem lvl_app {h:Heap} {hh:Nat} {y:Nd×Nat} {r:List (Nd×Nat)}:∀{l:List (Nd×Nat)},LvL h hh (l++y::r)↔Seg h hh l y∧LvL h hh (y::r)
 |[]=>by simp[Seg]
 |(a,i)::l=>by
  have ih:=@lvl_app h hh y r l
  simp only[List.cons_append,LvL,Seg,ih,lead_head,and_assoc]
theorem link_keep {h h':Heap} {hh:Nat} {a:Nd} (e:∀o,o=2*hh∨o=2*hh+1→cell h' a.lb o=cell h a.lb o) {to:Value} {w:Int} (hl:link h a hh to w):link h' a hh to w:=
 ⟨by rw[e _ (Or.inl rfl)];exact hl.1,by rw[e _ (Or.inr rfl)];exact hl.2⟩
theorem lead_keep {h h':Heap} {hh:Nat} {a:Nd} {i:Nat} {l:List (Nd×Nat)} (e:∀o,o=2*hh∨o=2*hh+1→cell h' a.lb o=cell h a.lb o) (hl:lead h hh a i l):lead h' hh a i l:=by
 cases l with
 |nil=>obtain⟨w,hw⟩:=hl;exact⟨w,link_keep e hw⟩
 |cons y l=>obtain⟨b,k⟩:=y;exact link_keep e hl
theorem lvl_keep {h h':Heap} {hh:Nat}:∀{l:List (Nd×Nat)},(∀x∈l,∀o,o=2*hh∨o=2*hh+1→cell h' x.1.lb o=cell h x.1.lb o)→LvL h hh l→LvL h' hh l
 |[],_,_=>trivial
 |(a,i)::l,e,hl=>⟨lead_keep (e (a,i) (by simp)) hl.1,lvl_keep (fun x hx=>e x (by simp[hx])) hl.2⟩
theorem seg_keep {h h':Heap} {hh:Nat} {y:Nd×Nat}:∀{l:List (Nd×Nat)},(∀x∈l,∀o,o=2*hh∨o=2*hh+1→cell h' x.1.lb o=cell h x.1.lb o)→Seg h hh l y→Seg h' hh l y
 |[],_,_=>trivial
 |(a,i)::l,e,hl=>⟨lead_keep (e (a,i) (by simp)) hl.1,seg_keep (fun x hx=>e x (by simp[hx])) hl.2⟩
def up1 (l:List (Nd×Nat)):List (Nd×Nat):=l.map fun x=>(x.1,x.2+1)
theorem ons_up (hh:Nat):∀(k:Nat) (l:List Nd),ons hh (k+1) l=up1 (ons hh k l)
 |k,[]=>rfl
 |k,x::l=>by
  have ih:=ons_up hh (k+1) l
  simp only[ons,ih]
  split<;>simp[up1]
theorem lead_up {h:Heap} {hh:Nat} {a:Nd} {i:Nat} {l:List (Nd×Nat)}:lead h hh a (i+1) (up1 l)↔lead h hh a i l:=by
 cases l with
 |nil=>simp[up1,lead]
 |cons y l=>
  obtain⟨b,k⟩:=y
  have e:((k+1:Nat):Int)-((i+1:Nat):Int)=k-i:=by omega
  simp only[up1,List.map_cons,lead,e]
theorem lvl_up {h:Heap} {hh:Nat}:∀{l:List (Nd×Nat)},LvL h hh (up1 l)↔LvL h hh l
 |[]=>by simp[up1]
 |(a,i)::l=>by
  have ih:=@lvl_up h hh l
  have h1:=@lead_up h hh a i l
  have e:up1 ((a,i)::l)=(a,i+1)::up1 l:=rfl
  rw[e]
  simp only[LvL,ih,h1]
def LastOn (hh:Nat) (A:List Nd) (p:Nd) (i:Nat):Prop:=∃l,ons hh 0 A=l++[(p,i)]
theorem LastOn.mem {hh:Nat} {A:List Nd} {p:Nd} {i:Nat} (hl:LastOn hh A p i):(p,i)∈ons hh 0 A:=by
 obtain⟨l,e⟩:=hl;rw[e];simp
theorem LastOn.get {hh:Nat} {A:List Nd} {p:Nd} {i:Nat} (hl:LastOn hh A p i):hh<p.ht∧A[i]? =some p:=by
 obtain⟨h1,_,h3⟩:=ons_mem hl.mem
 exact⟨h1,by simpa using h3⟩
theorem next_cases {h:Heap} {hh:Nat} {A B:List Nd} (hL:LvL h hh (ons hh 0 (A++B))) {a:Nd} {i:Nat} (ha:(a,i)∈ons hh 0 A):
  ((∃w,link h a hh (.pointer none) w)∧LastOn hh A a i)∨
  (∃(b:Nd) (k:Nat),link h a hh (ptr b.mb) ((k:Int)-i)∧i<k∧k<A.length∧(b,k)∈ons hh 0 A)∨
  (∃(b:Nd) (k:Nat),link h a hh (ptr b.mb) ((k:Int)-i)∧A.length≤k∧(A++B)[k]? =some b∧LastOn hh A a i):=by
 obtain⟨l,r,e⟩:=List.append_of_mem ha
 have hrise:=@ons_rise hh 0 A
 rw[ons_app,e,List.append_assoc,List.cons_append,lvl_app]at hL
 have hl:=hL.2.1
 cases r with
 |cons y r=>
  obtain⟨b,k⟩:=y
  right;left
  have hm:(b,k)∈ons hh 0 A:=by rw[e];simp
  obtain⟨h1,_,h3⟩:=ons_mem hm
  refine⟨b,k,hl,?_,?_,hm⟩
  ·rw[e,List.pairwise_append]at hrise
   exact(List.pairwise_cons.1 hrise.2.1).1 (b,k) (by simp)
  ·have:=(List.getElem?_eq_some_iff.1 h3).1;omega
 |nil=>
  have hlast:LastOn hh A a i:=⟨l,e⟩
  cases hB:ons hh (0+A.length) B with
  |nil=>rw[hB]at hl;exact Or.inl ⟨hl,hlast⟩
  |cons y r=>
   obtain⟨b,k⟩:=y
   rw[hB]at hl
   right;right
   obtain⟨h1,h2,h3⟩:=ons_mem (show(b,k)∈ons hh (0+A.length) B by rw[hB];simp)
   refine⟨b,k,hl,by omega,?_,hlast⟩
   rw[List.getElem?_append_right (by omega)]
   simpa using h3
theorem NodeOK.ext {h h':Heap} {a:Nd} (hn:NodeOK h a) (hc:Chg [] h h'):NodeOK h' a:=
 ⟨hn.m.chg hc (by simp),let⟨lk,h1,h2⟩:=hn.l;⟨lk,h1.chg hc (by simp),h2⟩,hn.pos,hn.top⟩
structure RD (h:Heap) (rb mpb:Nat) (N:List Nd):Prop where
 r:∃hd mem,N=hd::mem∧hd.ht=16∧Blk h rb [ptr hd.mb,.map (some mpb)]
 ok:∀a∈N,NodeOK h a
 lv:∀hh<16,LvL h hh (ons hh 0 N)
 len:N.length≤65537
theorem mem_of_ons {hh k i:Nat} {N:List Nd} {a:Nd} (h:(a,i)∈ons hh k N):a∈N:=
 List.mem_of_getElem? (ons_mem h).2.2
theorem lb_keep {h h':Heap} {a:Nd} (hn:NodeOK h a) (hc:Chg [] h h') (o:Nat):cell h' a.lb o=cell h a.lb o:=by
 obtain⟨lk,h1,_⟩:=hn.l
 unfold cell
 rw[hc.old a.lb h1.lt (by simp)]
theorem RD.ext {h h':Heap} {rb mpb:Nat} {N:List Nd} (rd:RD h rb mpb N) (hc:Chg [] h h'):RD h' rb mpb N where
 r:=let⟨hd,mem,h1,h2,h3⟩:=rd.r;⟨hd,mem,h1,h2,h3.chg hc (by simp)⟩
 ok a ha:=(rd.ok a ha).ext hc
 lv hh h1:=lvl_keep (fun x hx o _=>lb_keep (rd.ok x.1 (mem_of_ons (i:=x.2) hx)) hc o) (rd.lv hh h1)
 len:=rd.len
def PathOK (h:Heap) (pb:Nat) (A:List Nd):Prop:=
 ∃pl,Blk h pb pl∧∀hh<16,∃p i,LastOn hh A p i∧pl[hh]? =some (ptr p.mb)∧pl[16+hh]? =some (.int .i64 i)
def AskP (fi cap:Array Value) (f:Nat) (h:Heap) (N:List Nd) (K:Nat):Prop:=
 ∀h' k a,Chg [] h h'→N[k]? =some a→1≤k→CallsH Tryz.prog f (fi.toList++[.agg ⟨encR a.r⟩,.int .i64 ((k:Int)-1)]++cap.toList) h' (Ret fun u h''=>u=.bool (decide (k<K))∧Chg [] h' h'')
theorem down_round {Q:Post} {h h1:Heap} {rb mpb f:Nat} {fi cap:Array Value} {N A B:List Nd} (rd:RD h rb mpb N) (hN:N=A++B) (hP:AskP fi cap f h N A.length) (hc1:Chg [] h h1)
  {hh:Nat} (hhlt:hh<16) {pb:Nat} {pl:List Value} (hpb:Blk h1 pb pl) (hpl:pl.length=32) (hnew:h.size≤pb) {σ:Env} {a:Nd} {i:Nat}
  (hσ:SubL σ [(1,.func (.func f) fi cap),(5,ptr pb),(6,ptr a.mb),(7,.int .i64 i),(8,.int .i64 hh)]) (ha:(a,i)∈ons hh 0 A)
  (hQ:∀(σ':Env) (a':Nd) (i':Nat) (h':Heap),SubL σ' [(1,.func (.func f) fi cap),(5,ptr pb),(6,ptr a'.mb),(7,.int .i64 i'),(8,.int .i64 hh)]→LastOn hh A a' i'→Chg [] h h'→
   Blk h' pb (splice (splice pl hh [ptr a'.mb]) (16+hh) [.int .i64 i'])→Q .normal σ' [] h'):
  swp Tryz.prog (.seq (.block 2 (.loop f241l8)) (.ops f241r9)) Q σ [] h1:=by
 have hlen:=rd.len
 refine loop_intro (fun x:Nd×Nat=>[(1,.func (.func f) fi cap),(5,ptr pb),(6,ptr x.1.mb),(7,.int .i64 x.2),(8,.int .i64 hh)])
  (fun x h'=>x∈ons hh 0 A∧Chg [] h h'∧Blk h' pb pl) (fun x=>A.length-x.2) (a,i) hσ ⟨ha,hc1,hpb⟩ ?_
 rintro⟨b,k⟩ h2 ⟨hb,hc2,hpb2⟩
 have rd2:=rd.ext hc2
 have hbA:=ons_mem hb
 have hbN:b∈N:=by rw[hN];exact List.mem_append_left _ (mem_of_ons hb)
 have ok:=rd2.ok b hbN
 have hk:k<A.length:=by have:=(List.getElem?_eq_some_iff.1 hbA.2.2).1;omega
 have hAlen:A.length≤N.length:=by rw[hN];simp
 have hlv:=rd2.lv hh hhlt
 rw[hN]at hlv
 have hnext:=next_cases hlv hb
 -- leaving
 have fin:∀(σ':Env) (h3:Heap),LastOn hh A b k→Chg [] h2 h3→SubL σ' [(1,.func (.func f) fi cap),(5,ptr pb),(6,ptr b.mb),(7,.int .i64 k),(8,.int .i64 hh)]→
   ∀h4 h5,Put h3 h4 pb (splice pl (0+0+hh*1) [ptr b.mb])→Put h4 h5 pb (splice (splice pl (0+0+hh*1) [ptr b.mb]) (0+16+hh*1) [.int .i64 k])→Q .normal σ' [] h5:=by
  intro σ' h3 hlast hc3 hs h4 h5 p4 p5
  have e1:0+0+hh*1=hh:=by omega
  have e2:0+16+hh*1=16+hh:=by omega
  rw[e1]at p4 p5
  rw[e2]at p5
  have hc0:Chg [] h h3:=hc2.nil hc3
  refine hQ σ' b k h5 hs hlast ?_ p5.blk
  exact(hc0.fresh p4.chg (by simp;exact hnew)).fresh p5.chg (by simp;exact hnew)
 refine Ei _ (Ai (cell_blk ok.m rfl) ?_)
 refine Ai (by omega) (Ai (by omega) ?_)
 have go:∀(to:Value) (w:Int),link h2 b hh to w→cell h2 b.lb (0+hh*2)=some to∧cell h2 b.lb (0+hh*2+1)=some (.int .i64 w):=by
  intro to w hl
  have e:0+hh*2=2*hh:=by omega
  rw[e];exact hl
 have cs:∀(to:Value) (w:Int),link h2 b hh to w→Cells h2 b.lb (0+hh*2) [to,.int .i64 w]:=by
  intro to w hl j v hj
  obtain⟨h1,h2⟩:=go to w hl
  match j,hj with
  |0,hj=>simp at hj;subst hj;exact h1
  |1,hj=>simp at hj;subst hj;exact h2
 obtain⟨to,w,hl,hone,hcase⟩:∃to w,link h2 b hh to w∧to.oneCell'=true∧((to=.pointer none∧LastOn hh A b k)∨(∃(c:Nd) (k':Nat),to=ptr c.mb∧w=(k':Int)-k∧k<k'∧N[k']? =some c∧
   ((k'<A.length∧(c,k')∈ons hh 0 A)∨(A.length≤k'∧LastOn hh A b k)))):=by
  rcases hnext with⟨⟨w,hw⟩,hlast⟩|⟨c,k',hw,hkk,hkA,hc⟩|⟨c,k',hw,hkA,hcN,hlast⟩
  ·exact⟨_,w,hw,rfl,Or.inl ⟨rfl,hlast⟩⟩
  ·refine⟨_,_,hw,rfl,Or.inr ⟨c,k',rfl,rfl,hkk,?_,Or.inl ⟨hkA,hc⟩⟩⟩
   have:=(ons_mem hc).2.2
   rw[hN,List.getElem?_append_left hkA];simpa using this
  ·exact⟨_,_,hw,rfl,Or.inr ⟨c,k',rfl,rfl,by omega,by rw[hN];exact hcN,Or.inr ⟨hkA,hlast⟩⟩⟩
 refine Ei [to,.int .i64 w] (Ai rfl (Ai (cs _ _ hl) ?_))
 intro b9 h3 g3
 refine Ei _ (Ai g3.blk (Ai (by decide) (Ai rfl (Ai (ones2 hone rfl) ?_))))
 intro h4 p4
 have g4:=g3.put p4
 have B4:Blk h4 b9 [to,.int .i64 w]:=p4.blk
 have hpb4:=hpb2.chg g4.chg (by simp)
 refine Ei _ (Ai (cell_blk B4 rfl) ?_)
 rcases hcase with⟨rfl,hlast⟩|⟨c,k',rfl,rfl,hkk,hcN,hcase⟩
 ·-- nobody behind
  refine Ai (by omega) (Ai (by omega) ?_)
  refine Ei _ (Ai hpb4 (Ai (by omega) (Ai rfl (Ai (ones1 rfl) ?_))))
  intro h5 p5
  refine Ai (by omega) (Ai (by omega) ?_)
  refine Ei _ (Ai p5.blk (Ai (by rw[splice_size];omega) (Ai rfl (Ai (ones1 rfl) ?_))))
  intro h6 p6
  exact fin _ h4 hlast g4.chg ⟨rfl,rfl,rfl,rfl,rfl,trivial⟩ h5 h6 p5 p6
 ·refine Ei _ (Ai (cell_blk B4 rfl) ?_)
  have rd4:=rd2.ext g4.chg
  have okc:=rd4.ok c (List.mem_of_getElem? hcN)
  refine Ei (encR c.r) (Ai rfl (Ai (cells_part (l:=c.row) okc.m ?_) ?_))
  ·intro j v hj
   rw[Nat.zero_add]
   unfold Nd.row
   rw[List.getElem?_append_left (List.getElem?_eq_some_iff.1 hj).1];exact hj
  refine Ei _ (Ai (cell_blk B4 rfl) ?_)
  have hkN:k'<N.length:=(List.getElem?_eq_some_iff.1 hcN).1
  refine Ai rfl (fun z hz=>?_)
  have hz:=add_in hz (by omega) (by omega)
  have hz:z=k':=by omega
  subst hz
  refine Ai rfl (fun z hz=>?_)
  have hz:=sub_in hz (by omega) (by omega)
  subst hz
  refine call_ret (hP h4 k' c (hc2.nil g4.chg) hcN (by omega)) ?_
  rintro _ h5 ⟨rfl,hc5⟩
  have hc25:Chg [] h2 h5:=g4.chg.nil hc5
  rcases hcase with⟨hkA,hcA⟩|⟨hkA,hlast⟩
  ·rw[decide_eq_true hkA]
   have B5:=B4.chg hc5 (by simp)
   refine Ei _ (Ai (cell_blk B5 rfl) ?_)
   refine Ei _ (Ai (cell_blk B5 rfl) ?_)
   refine Ai rfl (fun z hz=>?_)
   have hz:=add_in hz (by omega) (by omega)
   have hz:z=k':=by omega
   subst hz
   refine Ai rfl (Ei (c,k') (Ai ?_ (Ai ?_ ?_)))
   ·exact⟨rfl,rfl,rfl,rfl,rfl,trivial⟩
   ·exact⟨hcA,hc2.nil hc25,hpb2.chg hc25 (by simp)⟩
   ·simp only;omega
  ·rw[decide_eq_false (by omega)]
   have hpb5:=hpb2.chg hc25 (by simp)
   refine Ai (by omega) (Ai (by omega) ?_)
   refine Ei _ (Ai hpb5 (Ai (by omega) (Ai rfl (Ai (ones1 rfl) ?_))))
   intro h6 p6
   refine Ai (by omega) (Ai (by omega) ?_)
   refine Ei _ (Ai p6.blk (Ai (by rw[splice_size];omega) (Ai rfl (Ai (ones1 rfl) ?_))))
   intro h7 p7
   exact fin _ h5 hlast hc25 ⟨rfl,rfl,rfl,rfl,rfl,trivial⟩ h6 h7 p6 p7
theorem down_calls {h:Heap} {rb mpb f:Nat} {fi cap:Array Value} {N A B:List Nd} (rd:RD h rb mpb N) (hN:N=A++B) (hA:A≠[]) (hP:AskP fi cap f h N A.length):
  CallsH Tryz.prog 241 [ptr rb,.func (.func f) fi cap] h (Ret fun u h'=>∃pb,u=ptr pb∧h.size≤pb∧PathOK h' pb A∧Chg [] h h'):=by
 obtain⟨hd,mem,hNe,hht,hrb⟩:=rd.r
 have hA0:A[0]? =some hd:=by
  cases A with
  |nil=>exact absurd rfl hA
  |cons x A=>rw[hNe]at hN;simp at hN;simp[hN.1]
 refine f241_calls (by simp) ?_
 intro pb h1 g1
 have hrb1:=hrb.chg g1.chg (by simp)
 refine Ei _ (Ai (cell_blk hrb1 rfl) ?_)
 refine loop_intro (fun x:Nat×Nd×Nat=>[(1,.func (.func f) fi cap),(5,ptr pb),(6,ptr x.2.1.mb),(7,.int .i64 x.2.2),(8,.int .i64 ((x.1:Int)-1))])
  (fun x h'=>x.1≤16∧Chg [] h h'∧(∀hh<x.1,(x.2.1,x.2.2)∈ons hh 0 A)∧∃pl,Blk h' pb pl∧pl.length=32∧∀hh,x.1≤hh→hh<16→∃p i,LastOn hh A p i∧pl[hh]? =some (ptr p.mb)∧pl[16+hh]? =some (.int .i64 i))
  (fun x=>x.1) (16,hd,0) ⟨rfl,rfl,rfl,rfl,rfl,trivial⟩ ⟨Nat.le_refl _,g1.chg,?_,_,g1.blk,rfl,fun hh h1 h2=>by omega⟩ ?_
 ·intro hh hlt
  have:=mem_ons (hh:=hh) (k:=0) (a:=hd) (by simp only at hlt;omega) hA0
  simpa using this
 rintro⟨n,a,i⟩ h2 ⟨hn,hc2,hmem,pl,hpb,hpl,hdone⟩
 simp only at hn hmem hdone
 refine Ai rfl (Ai (fun ht=>?_) (fun ht=>?_))
 ·obtain⟨hh,rfl⟩:∃hh,n=hh+1:=⟨n-1,by omega⟩
  have e:(((hh+1:Nat):Int)-1)=hh:=by omega
  refine down_round rd hN hP hc2 (hh:=hh) (by omega) hpb hpl (by rw[g1.id];exact Nat.le_refl _) (a:=a) (i:=i) ?_ (hmem hh (by omega)) ?_
  ·refine⟨rfl,rfl,rfl,rfl,?_,trivial⟩
   show some (Value.int .i64 (((hh+1:Nat):Int)-1))=_
   rw[e]
  intro σ' a' i' h3 hσ hlast hc3 hpb3
  obtain⟨s1,s5,s6,s7,s8,_⟩:=hσ
  have hsub:Sub (mk [(1,.func (.func f) fi cap),(5,ptr pb),(6,ptr a'.mb),(7,.int .i64 i'),(8,.int .i64 hh)]) σ':=sub_mk ⟨s1,s5,s6,s7,s8,trivial⟩
  refine sops_sub (P:=Tryz.prog) (Qp:=fun _ _=>False) (fun ch h hf=>hf.elim)
   (K:=fun σ1 h4=>SubL σ1 [(1,.func (.func f) fi cap),(5,ptr pb),(6,ptr a'.mb),(7,.int .i64 i'),(8,.int .i64 ((hh:Int)-1))]∧h4=h3) ?_ f241r10 _ _ _ hsub ?_
  ·rintro σ1 σ2 h4 h12 ⟨hs1,rfl⟩
   have hs2:=hs1.sub h12
   refine Ai rfl (Ei (hh,a',i') (Ai hs2 (Ai ?_ ?_)))
   ·refine⟨by simp only;omega,hc3,fun hh' hlt=>ons_low (by simp only at hlt;omega) hlast.mem,_,hpb3,by simp only[splice_size];exact hpl,fun hh' h1 h2=>?_⟩
    simp only at h1
    by_cases e:hh'=hh
    ·subst e
     refine⟨a',i',hlast,?_,?_⟩
     ·rw[splice_get _ _ _ (by rw[splice_size];simp;omega),if_neg (by simp;omega),splice_get _ _ _ (by simp;omega),if_pos (by simp)];simp
     ·rw[splice_get _ _ _ (by rw[splice_size];simp;omega),if_pos (by simp)];simp
    ·obtain⟨p,j,h3,h4,h5⟩:=hdone hh' (by omega) h2
     refine⟨p,j,h3,?_,?_⟩
     ·rw[splice_get _ _ _ (by rw[splice_size];simp;omega),if_neg (by simp;omega),splice_get _ _ _ (by simp;omega),if_neg (by simp;omega)];exact h4
     ·rw[splice_get _ _ _ (by rw[splice_size];simp;omega),if_neg (by simp;omega),splice_get _ _ _ (by simp;omega),if_neg (by simp;omega)];exact h5
   ·simp only;omega
  ·refine Ai rfl (fun z hz=>?_)
   have hz:=sub_in hz (by omega) (by omega)
   subst hz
   exact⟨⟨rfl,rfl,rfl,rfl,rfl,trivial⟩,rfl⟩
 ·have h0:n=0:=by omega
  subst h0
  refine⟨pb,rfl,by rw[g1.id];exact Nat.le_refl _,⟨pl,hpb,fun hh hlt=>hdone hh (by omega) hlt⟩,hc2⟩
theorem less_calls {h:Heap} (x:Rank):
  CallsH Tryz.prog 242 [.agg ⟨encR x⟩] h (Ret fun u h'=>∃b,u=.func (.func 279) #[] #[ptr b]∧h.size≤b∧Blk h' b (encR x)∧Chg [] h h'):=by
 refine f242_calls (by simp) ?_
 intro b h1 g1
 exact⟨b,rfl,by rw[g1.id];exact Nat.le_refl _,g1.blk,g1.chg⟩
theorem less1_calls {h:Heap} {b:Nat} {x:Rank} (B:Blk h b (encR x)) (y:Rank) (v:Value):
  CallsH Tryz.prog 279 [.agg ⟨encR y⟩,v,ptr b] h (Ret fun u h'=>u=.bool (ahead y x)∧Chg [] h h'):=by
 refine f279_calls (by simp) ?_
 intro b1 h1 g1
 have B1:Blk h1 b1 (encR y):=g1.blk
 have B2:Blk h1 b (encR x):=B.chg g1.chg (by simp)
 have hc:=g1.chg
 refine Ei _ (Ai (cell_blk B1 rfl) (Ei _ (Ai (cell_blk B2 rfl) ?_)))
 refine Ai rfl (Ai (fun ht=>?_) (fun ht=>?_))
 ·have e:ahead y x=true:=by simp[ahead,ht]
  refine Ai ?_ hc
  rw[e];rfl
 ·refine Ei _ (Ai (cell_blk B1 rfl) (Ei _ (Ai (cell_blk B2 rfl) ?_)))
  refine Ai rfl (Ai (fun he=>?_) (fun he=>?_))
  ·refine Ei _ (Ai (cell_blk B1 rfl) (Ei _ (Ai (cell_blk B2 rfl) ?_)))
   refine Ai (fun hl=>?_) (fun hl=>?_)
   ·have e:ahead y x=true:=by simp[ahead,he,hl]
    exact Ai (by rw[e];rfl) hc
   ·have e:ahead y x=false:=by simp[ahead,he,hl]
    exact Ai (by rw[e];rfl) hc
  ·have e:ahead y x=false:=by simp[ahead,ht,he]
   exact Ai (by rw[e];rfl) hc
def recs (N:List Nd):List Rank:=N.tail.map Nd.r
theorem less_ask {h:Heap} {b:Nat} {x:Rank} (B:Blk h b (encR x)) {N:List Nd} (hs:Sorted (recs N)):AskP #[] #[ptr b] 279 h N (upto x (recs N)+1):=by
 intro h' k a hc hk hpos
 obtain⟨j,rfl⟩:∃j,k=j+1:=⟨k-1,by omega⟩
 have hj:(recs N)[j]? =some a.r:=by
  cases N with
  |nil=>simp at hk
  |cons y N=>simp at hk;simp[recs,hk]
 obtain⟨hlt,he⟩:=List.getElem?_eq_some_iff.1 hj
 have hiff:=upto_iff (x:=x) hs j hlt
 rw[he]at hiff
 refine Ret.mono (less1_calls (B.chg hc (by simp)) a.r _) ?_
 rintro _ h'' ⟨rfl,hc'⟩
 refine⟨?_,hc'⟩
 congr 1
 rw[Bool.eq_iff_iff,hiff]
 simp
def TabH (h:Heap):Prop:=∀i<64,∃v:Int,0≤v∧v≤255∧cell h 3 i=some (.int .u8 v)
theorem wrap_u64 (x:Int):0≤IntKind.u64.wrap x∧IntKind.u64.wrap x<18446744073709551616:=by
 have e:IntKind.u64.wrap x=x%18446744073709551616:=by
  simp[IntKind.wrap,IntKind.bits,IntKind.signed]
 rw[e];omega
theorem and_one {a z:Int} (hz:z=bitw .and .i64 a 1):0≤z∧z≤1:=by
 have hb:((BitVec.ofInt IntKind.i64.bits a)&&&(BitVec.ofInt IntKind.i64.bits 1)).toNat≤1:=by
  rw[BitVec.toNat_and]
  exact Nat.le_trans Nat.and_le_right (by decide)
 have:z=IntKind.i64.wrap (((BitVec.ofInt IntKind.i64.bits a)&&&(BitVec.ofInt IntKind.i64.bits 1)).toNat:Nat):=hz
 rw[wrap_in (by omega) (by omega)]at this
 omega
theorem tz64_calls {h:Heap} (ht:TabH h) (v:Int):
  CallsH Tryz.prog 274 [.int .u64 v] h (Ret fun u h'=>(∃z:Int,u=.int .i64 z∧0≤z∧z≤255)∧h'=h):=by
 refine f274_calls (by simp) ?_
 refine Ai rfl (Ai (fun he=>?_) (fun he=>?_))
 ·exact⟨⟨64,rfl,by decide,by decide⟩,rfl⟩
 ·intro n hn
  refine Ai rfl (fun b hb=>?_)
  refine Ai rfl (fun m hm=>?_)
  refine Ai rfl (fun s hs=>?_)
  have hm2:0≤m∧m<18446744073709551616:=by rw[hm];exact wrap_u64 _
  have hs2:s=m/288230376151711744:=by
   have:s=m.fdiv (2 ^ 58):=hs
   rw[this,Int.fdiv_eq_ediv_of_nonneg _ (by decide)];rfl
  have h0:0≤s:=by omega
  have h1:s<64:=by omega
  obtain⟨v,v0,v1,hv⟩:=ht s.toNat (by omega)
  have e:0+s.toNat*1=s.toNat:=by omega
  refine Ai h0 (Ai h1 (Ei _ (Ai (by rw[e];exact hv) ?_)))
  intro z hz
  rw[wrap_in (by omega) (by omega)]at hz
  exact⟨⟨z,rfl,by omega,by omega⟩,rfl⟩
theorem tz_calls {h:Heap} (ht:TabH h) (v:Int):
  CallsH Tryz.prog 225 [.int .u64 v] h (Ret fun u h'=>(∃z:Int,u=.int .i64 z∧0≤z∧z≤255)∧h'=h):=by
 refine f225_calls (by simp) ?_
 refine call_ret (tz64_calls ht v) ?_
 rintro _ h' ⟨⟨z,rfl,h0,h1⟩,rfl⟩
 exact⟨⟨z,rfl,h0,h1⟩,rfl⟩
theorem none_calls {h:Heap} {rb hb:Nat} {m:Value} (hr:Blk h rb [ptr hb,m]):
  CallsH Tryz.prog 240 [ptr rb] h (Ret fun u h'=>u=.bool false∧h'=h):=by
 refine f240_calls (by simp) ?_
 refine Ei _ (Ai (cell_blk hr rfl) ?_)
 exact⟨rfl,rfl⟩
theorem cell_put {h h':Heap} {b o:Nat} {l vs:List Value} (hl:o+vs.length≤l.length) (B:Blk h b l) (p:Put h h' b (splice l o vs)) (b' o':Nat):
  cell h' b' o'=if b'=b∧o≤o'∧o'<o+vs.length then vs[o'-o]? else cell h b' o':=by
 by_cases hb:b'=b
 ·subst hb
  obtain⟨e,he⟩:=p.blk
  obtain⟨e0,he0⟩:=B
  have h1:cell h' b' o'=(splice l o vs)[o']? :=by simp[cell,he]
  have h2:cell h b' o'=l[o']? :=by simp[cell,he0]
  rw[h1,h2,splice_get l o vs hl o']
  simp
 ·rw[if_neg (by intro h;exact hb h.1)]
  unfold cell
  rw[p.old b' hb]
def Grows (h h':Heap) (b b' o:Nat) (d:Int):Prop:=
 ∃w w',cell h b o=some (.int .i64 w)∧cell h' b' o=some (.int .i64 w')∧(-70000≤w→w≤70000→w'=w+d)
def lbs (L:List (Nd×Nat)):List Nat:=L.map fun x=>x.1.lb
theorem lbs_mid {l r:List (Nd×Nat)} {y:Nd×Nat} (nd:(lbs (l++y::r)).Nodup):(∀x∈l,x.1.lb≠y.1.lb)∧∀x∈r,x.1.lb≠y.1.lb:=by
 simp only[lbs,List.map_append,List.map_cons,List.nodup_append,List.nodup_cons]at nd
 obtain⟨_,⟨h1,_⟩,h2⟩:=nd
 refine⟨fun x hx=>?_,fun x hx e=>?_⟩
 ·exact h2 x.1.lb (List.mem_map_of_mem (f:=fun x:Nd×Nat=>x.1.lb) hx) y.1.lb (by simp)
 ·exact h1 (by rw[←e];exact List.mem_map_of_mem (f:=fun x:Nd×Nat=>x.1.lb) hx)
variable {h h':Heap} {hh:Nat} {l r:List (Nd×Nat)} {p x:Nd} {i K:Nat}
theorem lv_skip (hL:LvL h hh (l++(p,i)::r)) (nd:(lbs (l++(p,i)::r)).Nodup) (hk:∀y∈l++(p,i)::r,y.2≤65537)
  (keep:∀b o,b≠p.lb→cell h' b o=cell h b o) (k0:cell h' p.lb (2*hh)=cell h p.lb (2*hh)) (k1:Grows h h' p.lb p.lb (2*hh+1) 1):LvL h' hh (l++(p,i)::up1 r):=by
 obtain⟨n1,n2⟩:=lbs_mid nd
 obtain⟨hs,hl,hr⟩:=lvl_app.1 hL
 rw[lvl_app]
 refine⟨seg_keep (fun y hy o _=>keep _ _ (n1 y hy)) hs,?_,lvl_up.2 (lvl_keep (fun y hy o _=>keep _ _ (n2 y hy)) hr)⟩
 obtain⟨w,w',e1,e2,e3⟩:=k1
 cases r with
 |nil=>
  obtain⟨w0,hw⟩:=hl
  exact⟨w',by rw[k0];exact hw.1,e2⟩
 |cons y r=>
  obtain⟨b,k⟩:=y
  refine⟨by rw[k0];exact hl.1,?_⟩
  have hw:=hl.2
  rw[e1]at hw
  simp at hw
  have h1:=hk (b,k) (by simp)
  have h2:=hk (p,i) (by simp)
  simp only at h1 h2
  rw[e2,e3 (by omega) (by omega),hw]
  congr 2
  push_cast
  omega
theorem lv_put (hL:LvL h hh (l++(p,i)::r)) (nd:(lbs (l++(p,i)::r)).Nodup) (hx:x.lb∉lbs (l++(p,i)::r)) (hk:∀y∈l++(p,i)::r,y.2≤65537)
  (keep:∀b o,b≠p.lb→b≠x.lb→cell h' b o=cell h b o) (p0:cell h' p.lb (2*hh)=some (ptr x.mb)) (p1:cell h' p.lb (2*hh+1)=some (.int .i64 ((K:Int)-i)))
  (x0:cell h' x.lb (2*hh)=cell h p.lb (2*hh)) (x1:Grows h h' p.lb x.lb (2*hh+1) (i+1-(K:Int))):LvL h' hh (l++(p,i)::(x,K)::up1 r):=by
 obtain⟨n1,n2⟩:=lbs_mid nd
 obtain⟨hs,hl,hr⟩:=lvl_app.1 hL
 have m1:∀y∈l,y.1.lb≠x.lb:=fun y hy e=>hx (by rw[←e];exact List.mem_map_of_mem (f:=fun x:Nd×Nat=>x.1.lb) (by simp[hy]))
 have m2:∀y∈r,y.1.lb≠x.lb:=fun y hy e=>hx (by rw[←e];exact List.mem_map_of_mem (f:=fun x:Nd×Nat=>x.1.lb) (by simp[hy]))
 rw[lvl_app]
 refine⟨seg_keep (fun y hy o _=>keep _ _ (n1 y hy) (m1 y hy)) hs,⟨p0,p1⟩,?_,lvl_up.2 (lvl_keep (fun y hy o _=>keep _ _ (n2 y hy) (m2 y hy)) hr)⟩
 obtain⟨w,w',e1,e2,e3⟩:=x1
 cases r with
 |nil=>
  obtain⟨w0,hw⟩:=hl
  exact⟨w',by rw[x0];exact hw.1,e2⟩
 |cons y r=>
  obtain⟨b,k⟩:=y
  refine⟨by rw[x0];exact hl.1,?_⟩
  have hw:=hl.2
  rw[e1]at hw
  simp at hw
  have h1:=hk (b,k) (by simp)
  have h2:=hk (p,i) (by simp)
  simp only at h1 h2
  rw[e2,e3 (by omega) (by omega),hw]
  congr 2
  push_cast
  omega
end Go.Proofs.YtjnijlnmbjjgpaaGreatDoor.K5
namespace Go.Proofs.YtjnijlnmbjjgpaaGreatDoor.K5
open Go Go.Sx Go.Proofs.YtjnijlnmbjjgpaaGreatDoor C
def lbN (N:List Nd):List Nat:=N.map Nd.lb
theorem lbs_ons (hh:Nat):∀(k:Nat) (N:List Nd),(lbs (ons hh k N)).Sublist (lbN N)
 |k,[]=>by simp[lbs,ons,lbN]
 |k,a::N=>by
  have ih:=lbs_ons hh (k+1) N
  simp only[ons]
  split
  ·exact ih.cons_cons _
  ·exact ih.cons _
theorem ons_mid (hh:Nat) (A B:List Nd) (x:Nd):ons hh 0 (A++x::B)=ons hh 0 A++(if hh<x.ht then(x,A.length)::up1 (ons hh A.length B)else up1 (ons hh A.length B)):=by
 rw[ons_app,Nat.zero_add]
 simp only[ons,ons_up]
theorem ons_both (hh:Nat) (A B:List Nd):ons hh 0 (A++B)=ons hh 0 A++ons hh A.length B:=by
 rw[ons_app,Nat.zero_add]
structure PI (h2 h':Heap) (A B:List Nd) (x:Nd) (n:Nat):Prop where
 chg:Chg (x.lb::lbN (A++B)) h2 h'
 blk:∀a∈A++x::B,∃lk,Blk h' a.lb lk∧lk.length=2*a.ht
 lv:∀hh<16,LvL h' hh (if hh<n then ons hh 0 (A++x::B)else ons hh 0 (A++B))
theorem blk_put {h h':Heap} {b o m:Nat} {l vs:List Value} (p:Put h h' b (splice l o vs)) {b':Nat} (hb:∃lk,Blk h b' lk∧lk.length=m) (e:b'=b→l.length=m):∃lk,Blk h' b' lk∧lk.length=m:=by
 by_cases hbb:b'=b
 ·exact⟨_,by rw[hbb];exact p.blk,by rw[splice_size];exact e hbb⟩
 ·obtain⟨lk,⟨e,he⟩,h2⟩:=hb
  exact⟨lk,⟨e,by rw[p.old b' hbb];exact he⟩,h2⟩
theorem blk_inj {h:Heap} {b:Nat} {l l':List Value} (h1:Blk h b l) (h2:Blk h b l'):l=l':=by
 obtain⟨e,h1⟩:=h1
 obtain⟨e',h2⟩:=h2
 rw[h1]at h2
 simp at h2
 exact h2.1
theorem lv_other {h h':Heap} {n hh:Nat} {L:List (Nd×Nat)} (hne:hh≠n) (keep:∀b o,o≠2*n→o≠2*n+1→cell h' b o=cell h b o) (hL:LvL h hh L):LvL h' hh L:=
 lvl_keep (fun _ _ o ho=>keep _ _ (by omega) (by omega)) hL
variable {h2 h h' h'':Heap} {A B:List Nd} {x p:Nd} {n i:Nat}
theorem PI.mid (hlast:LastOn n A p i):∃l,ons n 0 A=l++[(p,i)]∧ons n 0 (A++B)=l++(p,i)::ons n A.length B∧
  ons n 0 (A++x::B)=l++(p,i)::(if n<x.ht then(x,A.length)::up1 (ons n A.length B)else up1 (ons n A.length B)):=by
 obtain⟨l,e⟩:=hlast
 exact⟨l,e,by rw[ons_both,e];simp,by rw[ons_mid,e];simp⟩
theorem LastOn.memN (hlast:LastOn n A p i):p∈A:=mem_of_ons hlast.mem
theorem ons_le {N:List Nd} (hlen:N.length≤65537) {k:Nat}:∀y∈ons k 0 N,y.2≤65537:=by
 intro y hy
 have:=(List.getElem?_eq_some_iff.1 (ons_mem (a:=y.1) (i:=y.2) hy).2.2).1
 omega
theorem PI.skip (pi:PI h2 h A B x n) (hn:n<16) (nd:(x.lb::lbN (A++B)).Nodup) (hlen:(A++B).length≤65537) (hlast:LastOn n A p i) (hx:¬n<x.ht)
  {lk:List Value} {w w':Int} (hb:Blk h p.lb lk) (hw:cell h p.lb (2*n+1)=some (.int .i64 w)) (hw': -70000≤w→w≤70000→w'=w+1) (hp:Put h h' p.lb (splice lk (2*n+1) [.int .i64 w'])):
  PI h2 h' A B x (n+1):=by
 obtain⟨l,e,e1,e2⟩:=PI.mid (B:=B) (x:=x) hlast
 rw[if_neg hx]at e2
 have hpN:p∈A++B:=List.mem_append_left _ hlast.memN
 obtain⟨lk0,hb0,hlk⟩:=pi.blk p (by simp[hlast.memN])
 have:=blk_inj hb hb0;subst this
 have hpt:=hlast.get.1
 have hc:=fun b' o'=>cell_put (by simp;omega) hb hp b' o'
 simp only[List.length_cons,List.length_nil]at hc
 refine⟨pi.chg.trans hp.chg (fun k hk=>hk) (fun k hk _=>?_),fun a ha=>blk_put hp (pi.blk a ha) fun hab=>?_,fun hh hlt=>?_⟩
 ·simp at hk;subst hk
  exact List.mem_cons_of_mem _ (List.mem_map_of_mem hpN)
 ·obtain⟨lk1,hb1,hlk1⟩:=pi.blk a ha
  rw[hab]at hb1
  rw[blk_inj hb hb1];exact hlk1
 ·by_cases hne:hh=n
  ·subst hne
   have hL:=pi.lv hh hlt
   rw[if_neg (by omega),e1]at hL
   rw[if_pos (by omega),e2]
   refine lv_skip hL ?_ (by rw[←e1];exact ons_le hlen) (fun b o hb=>?_) ?_ ⟨w,w',hw,?_,hw'⟩
   ·rw[←e1];exact(List.nodup_cons.1 nd).2.sublist (lbs_ons ..)
   ·rw[hc,if_neg (by intro h;exact hb h.1)]
   ·rw[hc,if_neg (by omega)]
   ·rw[hc,if_pos (by omega)];simp
  ·have hL:=pi.lv hh hlt
   have hb:(if hh<n+1 then ons hh 0 (A++x::B)else ons hh 0 (A++B))=(if hh<n then ons hh 0 (A++x::B)else ons hh 0 (A++B)):=by
    by_cases h1:hh<n
    ·rw[if_pos h1,if_pos (by omega)]
    ·rw[if_neg h1,if_neg (by omega)]
   rw[hb]
   exact lv_other hne (fun b o _ h2=>by rw[hc,if_neg (by omega)]) hL
theorem PI.put (pi:PI h2 h A B x n) (hn:n<16) (nd:(x.lb::lbN (A++B)).Nodup) (hlen:(A++B).length≤65537) (hlast:LastOn n A p i) (hx:n<x.ht)
  {lk xk:List Value} {to:Value} {w w1 w2:Int} (hb:Blk h p.lb lk) (hxb:Blk h x.lb xk) (hto:cell h p.lb (2*n)=some to) (hw:cell h p.lb (2*n+1)=some (.int .i64 w))
  (hw1: -70000≤w→w≤70000→w1=w-((A.length:Int)-1-i)) (hw2:w2=(A.length:Int)-i)
  (hp:Put h h' x.lb (splice xk (2*n) [to,.int .i64 w1])) (hp2:Put h' h'' p.lb (splice lk (2*n) [ptr x.mb,.int .i64 w2])):
  PI h2 h'' A B x (n+1):=by
 obtain⟨l,e,e1,e2⟩:=PI.mid (B:=B) (x:=x) hlast
 rw[if_pos hx]at e2
 have hpN:p∈A++B:=List.mem_append_left _ hlast.memN
 have hpx:p.lb≠x.lb:=fun h=>(List.nodup_cons.1 nd).1 (by rw[←h];exact List.mem_map_of_mem hpN)
 obtain⟨lk0,hb0,hlk⟩:=pi.blk p (by simp[hlast.memN])
 have:=blk_inj hb hb0;subst this
 obtain⟨xk0,hx0,hxk⟩:=pi.blk x (by simp)
 have:=blk_inj hxb hx0;subst this
 have hpt:=hlast.get.1
 have hb':Blk h' p.lb lk:=by obtain⟨e,he⟩:=hb;exact⟨e,by rw[hp.old _ hpx];exact he⟩
 have hc1:=fun b' o'=>cell_put (by simp;omega) hxb hp b' o'
 have hc2:=fun b' o'=>cell_put (by simp;omega) hb' hp2 b' o'
 simp only[List.length_cons,List.length_nil]at hc1 hc2
 refine⟨(pi.chg.trans hp.chg (fun k hk=>hk) (fun k hk _=>?_)).trans hp2.chg (fun k hk=>hk) (fun k hk _=>?_),fun a ha=>blk_put hp2 (blk_put hp (pi.blk a ha) fun hab=>?_) fun hab=>?_,fun hh hlt=>?_⟩
 ·simp at hk;subst hk;simp
 ·simp at hk;subst hk
  exact List.mem_cons_of_mem _ (List.mem_map_of_mem hpN)
 ·obtain⟨lk1,hb1,hlk1⟩:=pi.blk a ha
  rw[hab]at hb1
  rw[blk_inj hxb hb1];exact hlk1
 ·obtain⟨lk1,hb1,hlk1⟩:=pi.blk a ha
  rw[hab]at hb1
  rw[blk_inj hb hb1];exact hlk1
 ·by_cases hne:hh=n
  ·subst hne
   have hL:=pi.lv hh hlt
   rw[if_neg (by omega),e1]at hL
   rw[if_pos (by omega),e2]
   refine lv_put (x:=x) (K:=A.length) hL ?_ ?_ (by rw[←e1];exact ons_le hlen) (fun b o hb hbx=>?_) ?_ ?_ ?_ ⟨w,w1,hw,?_,fun h1 h2=>by rw[hw1 h1 h2];omega⟩
   ·rw[←e1];exact(List.nodup_cons.1 nd).2.sublist (lbs_ons ..)
   ·rw[←e1];exact fun h=>(List.nodup_cons.1 nd).1 ((lbs_ons ..).subset h)
   ·rw[hc2,if_neg (by intro h;exact hb h.1),hc1,if_neg (by intro h;exact hbx h.1)]
   ·rw[hc2,if_pos (by omega)];simp
   ·rw[hc2,if_pos (by omega),hw2];simp
   ·rw[hc2,if_neg (by intro h;exact hpx h.1.symm),hc1,if_pos (by omega),hto];simp
   ·rw[hc2,if_neg (by intro h;exact hpx h.1.symm),hc1,if_pos (by omega)];simp
  ·have hL:=pi.lv hh hlt
   have hb:(if hh<n+1 then ons hh 0 (A++x::B)else ons hh 0 (A++B))=(if hh<n then ons hh 0 (A++x::B)else ons hh 0 (A++B)):=by
    by_cases h1:hh<n
    ·rw[if_pos h1,if_pos (by omega)]
    ·rw[if_neg h1,if_neg (by omega)]
   rw[hb]
   exact lv_other hne (fun b o _ h2=>by rw[hc2,if_neg (by omega),hc1,if_neg (by omega)]) hL
end Go.Proofs.YtjnijlnmbjjgpaaGreatDoor.K5
namespace Go.Proofs.YtjnijlnmbjjgpaaGreatDoor.K5
open Go Go.Sx Go.Proofs.YtjnijlnmbjjgpaaGreatDoor C
def blks (rb mpb:Nat) (N:List Nd):List Nat:=rb::mpb::(N.map Nd.mb++lbN N)
def mapOf (N:List Nd):List (Value×Value):=N.tail.map fun a=>(.string a.r.name,ptr a.mb)
structure RK (h:Heap) (rb mpb:Nat) (N:List Nd) (S:List Rank):Prop where
 rd:RD h rb mpb N
 dis:(blks rb mpb N).Nodup
 isS:recs N=S
 map:∃es c,MapB h mpb es c∧(es.map fun e=>(e.key,e.val)).Perm (mapOf N)
 sorted:Sorted S
 names:Names S
 tab:TabH h
 no1:3∉blks rb mpb N
theorem TabH.chg {S:List Nat} {h h':Heap} (ht:TabH h) (hc:Chg S h h') (hn:3∉S):TabH h':=fun i hi=>
 let⟨v,h0,h1,h2⟩:=ht i hi
 ⟨v,h0,h1,cell_chg h2 hc hn⟩
theorem RK.ext {h h':Heap} {rb mpb:Nat} {N:List Nd} {S:List Rank} (rk:RK h rb mpb N S) (hc:Chg [] h h'):RK h' rb mpb N S:=
 ⟨rk.rd.ext hc,rk.dis,rk.isS,let⟨es,c,h1,h2⟩:=rk.map;⟨es,c,h1.chg hc (by simp),h2⟩,rk.sorted,rk.names,rk.tab.chg hc (by simp),rk.no1⟩
theorem RK.len {h:Heap} {rb mpb:Nat} {N:List Nd} {S:List Rank} (rk:RK h rb mpb N S):N.length=S.length+1:=by
 obtain⟨hd,mem,rfl,_,_⟩:=rk.rd.r
 rw[←rk.isS];simp[recs]
theorem RK.lt {h:Heap} {rb mpb:Nat} {N:List Nd} {S:List Rank} (rk:RK h rb mpb N S):∀b∈blks rb mpb N,b<h.size:=by
 intro b hb
 obtain⟨hd,mem,hN,_,hrb⟩:=rk.rd.r
 obtain⟨es,c,hm,_⟩:=rk.map
 simp only[blks,List.mem_cons,List.mem_append,lbN,List.mem_map]at hb
 rcases hb with rfl|rfl|⟨a,ha,rfl⟩|⟨a,ha,rfl⟩
 ·exact hrb.lt
 ·exact hm.lt
 ·exact(rk.rd.ok a ha).m.lt
 ·obtain⟨lk,hl,_⟩:=(rk.rd.ok a ha).l
  exact hl.lt
theorem dis_parts {rb mpb:Nat} {N:List Nd} (hd:(blks rb mpb N).Nodup):rb∉lbN N∧mpb∉lbN N∧(∀a∈N,a.mb∉lbN N)∧(lbN N).Nodup∧(∀a∈N,a.mb≠mpb)∧rb≠mpb∧∀a∈N,a.mb≠rb:=by
 simp only[blks,List.nodup_cons,List.mem_cons,List.mem_append,List.nodup_append,not_or]at hd
 obtain⟨⟨h0,h1,h2⟩,⟨h3,h4⟩,h5,h6,h7⟩:=hd
 refine⟨h2,h4,fun a ha h=>?_,h6,fun a ha e=>h3 (by rw[←e];exact List.mem_map_of_mem ha),h0,fun a ha e=>h1 (by rw[←e];exact List.mem_map_of_mem ha)⟩
 exact h7 a.mb (List.mem_map_of_mem ha) a.mb h rfl
theorem lbN_sub {rb mpb:Nat} {N:List Nd}:∀b∈lbN N,b∈blks rb mpb N:=fun b hb=>by simp[blks,hb]
theorem blks_mid {rb mpb:Nat} {A B:List Nd} {x:Nd}:(blks rb mpb (A++x::B)).Perm (x.mb::x.lb::blks rb mpb (A++B)):=by
 have h1:((A++x::B).map Nd.mb++lbN (A++x::B)).Perm (x.mb::x.lb::((A++B).map Nd.mb++lbN (A++B))):=by
  have e1:((A++x::B).map Nd.mb).Perm (x.mb::(A++B).map Nd.mb):=by simp[List.perm_middle]
  have e2:(lbN (A++x::B)).Perm (x.lb::lbN (A++B)):=by simp[lbN,List.perm_middle]
  refine(e1.append e2).trans ?_
  rw[List.cons_append]
  exact List.perm_middle.cons _
 unfold blks
 refine((h1.cons mpb).cons rb).trans ?_
 have e3:∀(a b c d:Nat) (l:List Nat),(a::b::c::d::l).Perm (c::d::a::b::l):=by
  intro a b c d l
  have:=(List.perm_append_comm (l₁:=[a,b]) (l₂:=[c,d])).append_right l
  simpa using this
 exact e3 ..
theorem split_at {h:Heap} {rb mpb:Nat} {N:List Nd} {S:List Rank} (rk:RK h rb mpb N S) {K:Nat} (hK:K≤S.length):
  N=N.take (K+1)++N.drop (K+1)∧(N.take (K+1)).length=K+1∧(∃hd A',N.take (K+1)=hd::A'∧A'.map Nd.r=S.take K)∧(N.drop (K+1)).map Nd.r=S.drop K:=by
 have hl:=rk.len
 obtain⟨hd,mem,rfl,_,_⟩:=rk.rd.r
 have hr:mem.map Nd.r=S:=rk.isS
 simp at hl
 refine⟨(List.take_append_drop ..).symm,by simp;omega,⟨hd,mem.take K,rfl,?_⟩,?_⟩
 ·rw[List.map_take,hr]
 ·rw[List.drop_succ_cons,List.map_drop,hr]
theorem RK.put {h h':Heap} {rb mpb:Nat} {A B:List Nd} {S:List Rank} {x:Nd} (rk:RK h rb mpb (A++B) S) (hA:A≠[]) {es:List MapEntry} {c c':Nat} (hmap:(es.map fun e=>(e.key,e.val)).Perm (mapOf (A++B)))
  (hrd:RD h' rb mpb (A++x::B)) (hm:MapB h' mpb (es++[{key:=.string x.r.name,val:=ptr x.mb,born:=c}]) c') (hrec:recs (A++x::B)=insR x.r S) (hn:∀y∈S,y.name≠x.r.name)
  (hf:x.mb∉blks rb mpb (A++B)∧x.lb∉blks rb mpb (A++B)∧x.mb≠x.lb) (ht:TabH h') (h1:x.mb≠3∧x.lb≠3):RK h' rb mpb (A++x::B) (insR x.r S) where
 rd:=hrd
 dis:=by
  rw[blks_mid.nodup_iff,List.nodup_cons,List.nodup_cons]
  exact⟨by simp[hf.2.2,hf.1],hf.2.1,rk.dis⟩
 isS:=hrec
 map:=by
  refine⟨_,_,hm,?_⟩
  obtain⟨hd,A',rfl⟩:=List.exists_cons_of_ne_nil hA
  simp only[List.map_append,List.map_cons,List.map_nil]
  have e:(mapOf (hd::A'++x::B)).Perm ((.string x.r.name,ptr x.mb)::mapOf (hd::A'++B)):=by
   simp only[mapOf,List.cons_append,List.tail_cons,List.map_append,List.map_cons]
   exact List.perm_middle
  refine(hmap.append_right _).trans (List.Perm.trans ?_ e.symm)
  exact List.perm_append_comm
 sorted:=insR_sorted rk.sorted hn
 names:=insR_names rk.names hn
 tab:=ht
 no1:=by
  rw[blks_mid.mem_iff]
  simp only[List.mem_cons,not_or]
  exact⟨h1.1.symm,h1.2.symm,rk.no1⟩
theorem lead_ptr {h:Heap} {hh:Nat} {a:Nd} {i:Nat} {L:List (Nd×Nat)} (hl:lead h hh a i L):∃q w,link h a hh (.pointer q) w:=by
 cases L with
 |nil=>obtain⟨w,hw⟩:=hl;exact⟨none,w,hw⟩
 |cons y r=>obtain⟨b,k⟩:=y;exact⟨_,_,hl⟩
theorem PI.link {h2 h:Heap} {A B:List Nd} {x p:Nd} {n i:Nat} (pi:PI h2 h A B x n) (hn:n<16) (hlast:LastOn n A p i):∃q w,link h p n (.pointer q) w:=by
 obtain⟨l,e,e1,e2⟩:=PI.mid (B:=B) (x:=x) hlast
 have hL:=pi.lv n hn
 rw[if_neg (by omega),e1]at hL
 exact lead_ptr (lvl_app.1 hL).2.1
theorem last_low {A:List Nd} (hA:∀a∈A,1≤a.ht) {p:Nd} {i:Nat} (hl:LastOn 0 A p i):i=A.length-1:=by
 obtain⟨l,e⟩:=hl
 have hmem:(p,i)∈ons 0 0 A:=by rw[e];simp
 have h1:=(ons_mem hmem).2.2
 have hi:=(List.getElem?_eq_some_iff.1 h1).1
 have hlast:A[A.length-1]? =some (A[A.length-1]'(by omega)):=List.getElem?_eq_getElem (by omega)
 have hm2:=mem_ons (hh:=0) (k:=0) (hA _ (List.mem_of_getElem? hlast)) hlast
 have hr:=@ons_rise 0 0 A
 rw[e]at hr hm2
 rw[List.pairwise_append]at hr
 rcases List.mem_append.1 hm2 with h|h
 ·have:=hr.2.2 _ h (p,i) (by simp)
  simp only at this;omega
 ·simp at h;omega
theorem put_calls {h:Heap} {rb mpb:Nat} {N:List Nd} {S:List Rank} (rk:RK h rb mpb N S) (x:Rank) (coin:Int) (hn:∀y∈S,y.name≠x.name) (hlen:S.length<65536):
  CallsH Tryz.prog 239 [ptr rb,.agg ⟨encR x⟩,.int .i64 coin] h (Ret fun _ h'=>∃N',RK h' rb mpb N' (insR x S)∧Chg (blks rb mpb N) h h'∧∀b∈blks rb mpb N',b∈blks rb mpb N∨h.size≤b):=by
 have hK:upto x S≤S.length:=upto_le x S
 have hNl:=rk.len
 obtain⟨hN,hAl,⟨hd,A',hA',hAr⟩,hBr⟩:=split_at rk hK
 generalize N.take (upto x S+1)=A at hN hAl hA'
 generalize N.drop (upto x S+1)=B at hN hBr
 subst hN
 have hAne:A≠[]:=by rw[hA'];simp
 refine f239_calls (by simp) ?_
 intro b4 h1 g1
 refine Ei (encR x) (Ai rfl (Ai (cells_blk g1.blk) ?_))
 refine call_ret (less_calls x) ?_
 rintro _ h2 ⟨bl,rfl,hbl,Bl,hc2⟩
 have hc02:Chg [] h h2:=g1.chg.nil hc2
 have rk2:=rk.ext hc02
 have ask:=less_ask Bl (N:=A++B) (by rw[rk.isS];exact rk.sorted)
 rw[rk.isS,←hAl]at ask
 refine call_ret (down_calls rk2.rd rfl hAne ask) ?_
 rintro _ h3 ⟨pb,rfl,hpb,⟨pl,Bp,hpath⟩,hc3⟩
 have rk3:=rk2.ext hc3
 have B43:Blk h3 b4 (encR x):=(g1.blk.chg hc2 (by simp)).chg hc3 (by simp)
 refine Ei (encR x) (Ai rfl (Ai (cells_blk B43) ?_))
 obtain⟨hd0,mem0,hN0,hht0,hrb⟩:=rk3.rd.r
 refine Ei _ (Ai (cell_blk hrb rfl) ?_)
 obtain⟨es,cl,hmap,hperm⟩:=rk3.map
 refine Ei es (Ei cl (Ai hmap ?_))
 refine Ai rfl (fun z hz=>?_)
 intro u hu
 refine Ai rfl (fun c hc=>?_)
 have hc:=and_one hc
 refine callq_ret (tz_calls rk3.tab u) ?_
 rintro _ h4 ⟨⟨t,rfl,t0,t1⟩,rfl⟩
 refine Ai (Ext.refl _) ?_
 refine Ai rfl (fun s hs=>?_)
 have hs:=add_in hs (by omega) (by omega)
 refine Ai rfl ?_
 refine Ai rfl (fun m hm=>?_)
 have hm:=add_in hm (by omega) (by omega)
 have hm1:1≤m∧m≤16:=by omega
 refine Ai (by omega) (Ai (Int.le_refl _) (Ai (by omega) (Ai (by omega) ?_)))
 intro xl h5 g5
 intro xb h6 g6
 let x':Nd:=⟨xb,xl,m.toNat,x⟩
 have hxh:x'.ht=m.toNat:=rfl
 have hxl:x'.lb=xl:=rfl
 have hc46:Chg [] h4 h6:=g5.chg.nil g6.chg
 have hc06:Chg [] h h6:=(hc02.nil hc3).nil hc46
 have rk6:=rk3.ext hc46
 have BX:Blk h6 xb x'.row:=g6.blk
 have BL:Blk h6 xl ((List.replicate m.toNat [.pointer none,.int .i64 0]).flatten):=g5.blk.chg g6.chg (by simp)
 have B46:=B43.chg hc46 (by simp)
 have Bp6:=Bp.chg hc46 (by simp)
 have hrb6:=hrb.chg hc46 (by simp)
 have hmap6:=hmap.chg hc46 (by simp)
 -- which blocks are which
 have s1:=g1.id;have s1':=g1.size;have s5:=g5.id;have s5':=g5.size;have s6:=g6.id;have s6':=g6.size
 have z1:=hc02.size;have z2:=hc2.size;have z3:=hc3.size
 have old:∀b∈blks rb mpb (A++B),b<h.size:=rk.lt
 obtain⟨d1,d2,d3,d4,d5,d6,d7⟩:=dis_parts rk.dis
 have lold:∀b∈lbN (A++B),b<h.size:=fun b hb=>old b (lbN_sub b hb)
 have nd:(x'.lb::lbN (A++B)).Nodup:=List.nodup_cons.2 ⟨fun hb=>by have:=lold _ hb;simp only[x']at this;omega,d4⟩
 have hlen':(A++B).length≤65537:=rk.rd.len
 have hrb6r:rb∉x'.lb::lbN (A++B):=by
  simp only[List.mem_cons,not_or];exact⟨by have:=old rb (by simp[blks]);simp only[x'];omega,d1⟩
 have fresh6:∀b,h.size≤b→b≠xl→b∉x'.lb::lbN (A++B):=by
  intro b hb hne
  simp only[List.mem_cons,not_or];exact⟨hne,fun hb'=>by have:=lold _ hb';omega⟩
 have hhead:(hd0::mem0).map Nd.r=(A++B).map Nd.r:=by rw[hN0]
 refine loop_intro (fun n:Nat=>[(0,ptr rb),(4,ptr b4),(6,ptr pb),(7,ptr xb),(32,.int .i64 n)]) (fun n h'=>n≤16∧PI h6 h' A B x' n) (fun n=>16-n) 0 ⟨rfl,rfl,rfl,rfl,rfl,trivial⟩
  ⟨Nat.zero_le _,⟨(Chg.refl h6).mono (by simp),fun a ha=>?_,fun hh hlt=>?_⟩⟩ ?_
 ·rcases List.mem_append.1 ha with ha|ha
  ·exact(rk6.rd.ok a (by simp[ha])).l
  ·rcases List.mem_cons.1 ha with rfl|ha
   ·exact⟨_,BL,by simp[x'];omega⟩
   ·exact(rk6.rd.ok a (by simp[ha])).l
 ·rw[if_neg (by omega)];exact rk6.rd.lv hh hlt
 rintro n h7 ⟨hn16,pi⟩
 have BX7:Blk h7 xb x'.row:=BX.chg pi.chg (fresh6 xb (by omega) (by omega))
 have Bp7:=Bp6.chg pi.chg (fresh6 pb (by omega) (by have:=Bp.lt;omega))
 have B47:=B46.chg pi.chg (fresh6 b4 (by omega) (by have:=B43.lt;omega))
 refine Ai rfl (Ai (fun ht=>?_) (fun ht=>?_))
 ·have hn:n<16:=by omega
  obtain⟨p,i,hlast,hp1,hp2⟩:=hpath n hn
  obtain⟨p0,i0,hlast0,_,hp02⟩:=hpath 0 (by omega)
  obtain⟨q,w,hlk⟩:=pi.link hn hlast
  have hpA:=hlast.memN
  have okp6:=rk6.rd.ok p (List.mem_append_left _ hpA)
  have Pm7:Blk h7 p.mb p.row:=okp6.m.chg pi.chg (by
   simp only[List.mem_cons,not_or]
   have:=old p.mb (by simp only[blks,List.mem_cons,List.mem_append];exact Or.inr (Or.inr (Or.inl (List.mem_map_of_mem (List.mem_append_left _ hpA)))))
   exact⟨by simp only[x'];omega,d3 p (List.mem_append_left _ hpA)⟩)
  obtain⟨lk,Bl7,hlkl⟩:=pi.blk p (List.mem_append_left _ hpA)
  obtain⟨xk,Bxl7,hxkl⟩:=pi.blk x' (by simp)
  have hpt:=hlast.get.1
  have hi:i<A.length:=(List.getElem?_eq_some_iff.1 hlast.get.2).1
  have hi0:i0=A.length-1:=last_low (fun a ha=>(rk6.rd.ok a (List.mem_append_left _ ha)).pos) hlast0
  have en:0+0+n*1=n:=by omega
  have en2:0+16+n*1=16+n:=by omega
  have em:0+n*2=2*n:=by omega
  refine Ai (by omega) (Ai (by omega) (Ei (ptr p.mb) (Ai ?_ ?_)))
  ·exact cell_blk Bp7 (by rw[←hp1];exact congrArg (fun o=>pl[o]?) en)
  refine Ei _ (Ai (cell_blk Pm7 rfl) ?_)
  refine Ai (by omega) (Ai (by omega) ?_)
  refine Ei _ (Ai (cell_blk BX7 rfl) ?_)
  refine Ai rfl (Ai (fun hge=>?_) (fun hge=>?_))
  ·refine Ei (.int .i64 w) (Ai ?_ ?_)
   ·exact Eq.trans (congrArg (fun o=>cell h7 p.lb (o+1)) em) hlk.2
   refine Ai rfl (fun w' hw'=>?_)
   refine Ei lk (Ai Bl7 (Ai (by omega) (Ai rfl (Ai (ones1 rfl) ?_))))
   intro h8 p8
   have p8:Put h7 h8 p.lb (splice lk (0+n*2+1) [.int .i64 w']):=p8
   rw[em]at p8
   refine Ai rfl (fun z3 hz3=>?_)
   have hz3:=add_in hz3 (by omega) (by omega)
   subst hz3
   refine Ai rfl (Ei (n+1) (Ai ?_ (Ai ?_ ?_)))
   ·exact⟨rfl,rfl,rfl,rfl,rfl,trivial⟩
   ·exact⟨by omega,pi.skip hn nd hlen' hlast (by omega) Bl7 hlk.2 (fun a b=>add_in hw' (by omega) (by omega)) p8⟩
   ·omega
  ·refine Ai (by decide) (Ai (by decide) (Ei (.int .i64 i0) (Ai (cell_blk Bp7 hp02) ?_)))
   refine Ai (by omega) (Ai (by omega) (Ei (.int .i64 i) (Ai ?_ ?_)))
   ·exact cell_blk Bp7 (by rw[←hp2];exact congrArg (fun o=>pl[o]?) en2)
   refine Ai rfl (fun ov hov=>?_)
   have hov:=sub_in hov (by omega) (by omega)
   refine Ei _ (Ai (cell_blk BX7 rfl) ?_)
   refine Ei (.pointer q) (Ai ?_ ?_)
   ·exact Eq.trans (congrArg (fun o=>cell h7 p.lb (o+0)) em) hlk.1
   refine Ei (.int .i64 w) (Ai ?_ ?_)
   ·exact Eq.trans (congrArg (fun o=>cell h7 p.lb (o+1)) em) hlk.2
   refine Ai rfl (fun w1 hw1=>?_)
   refine Ai (by omega) (Ai (by omega) ?_)
   refine Ei xk (Ai Bxl7 (Ai (by omega) (Ai rfl (Ai (ones2 rfl rfl) ?_))))
   intro h8 p8
   have p8:Put h7 h8 xl (splice xk (0+n*2) [.pointer q,.int .i64 w1]):=p8
   refine Ai rfl (fun w2 hw2=>?_)
   have hw2:=add_in hw2 (by omega) (by omega)
   have hpx:p.lb≠xl:=by
    intro e
    have:=lold p.lb (List.mem_map_of_mem (List.mem_append_left _ hpA))
    omega
   have Bl8:Blk h8 p.lb lk:=by
    obtain⟨e,he⟩:=Bl7
    exact⟨e,by rw[p8.old _ hpx];exact he⟩
   refine Ei lk (Ai Bl8 (Ai (by omega) (Ai rfl (Ai (ones2 rfl rfl) ?_))))
   intro h9 p9
   have p9:Put h8 h9 p.lb (splice lk (0+n*2) [ptr x'.mb,.int .i64 w2]):=p9
   rw[em]at p8 p9
   refine Ai rfl (fun z3 hz3=>?_)
   have hz3:=add_in hz3 (by omega) (by omega)
   subst hz3
   refine Ai rfl (Ei (n+1) (Ai ?_ (Ai ?_ ?_)))
   ·exact⟨rfl,rfl,rfl,rfl,rfl,trivial⟩
   ·refine⟨by omega,pi.put hn nd hlen' hlast (by omega) Bl7 Bxl7 hlk.1 hlk.2 (w1:=w1) (w2:=w2) (fun a b=>?_) (by omega) p8 p9⟩
    rw[sub_in hw1 (by omega) (by omega)];omega
   ·omega
 ·have hn:n=16:=by omega
  subst hn
  have hrb7:Blk h7 rb [ptr hd0.mb,.map (some mpb)]:=hrb6.chg pi.chg hrb6r
  have hmn:mpb∉x'.lb::lbN (A++B):=by
   simp only[List.mem_cons,not_or];exact⟨by have:=old mpb (by simp[blks]);omega,d2⟩
  have hmap7:MapB h7 mpb es cl:=hmap6.chg pi.chg hmn
  have hkeys:∀e∈es,∃a∈(A++B).tail,e.key=.string a.r.name:=by
   intro e he
   have h1:(e.key,e.val)∈mapOf (A++B):=hperm.mem_iff.1 (List.mem_map_of_mem (f:=fun e:MapEntry=>(e.key,e.val)) he)
   obtain⟨a,ha,hae⟩:=List.mem_map.1 h1
   exact⟨a,ha,(congrArg Prod.fst hae).symm⟩
  have hfits:∀e∈es,fits .str e.key=true:=fun e he=>by
   obtain⟨a,_,h2⟩:=hkeys e he;rw[h2];rfl
  have hmf:mfind (.string x.name) es 0=none:=by
   cases hm:mfind (.string x.name) es 0 with
   |none=>rfl
   |some jv=>
    obtain⟨j,v⟩:=jv
    obtain⟨_,e,he,hek,_⟩:=mfind_spec (k:=.str) rfl es 0 j v hfits hm
    obtain⟨a,ha,hae⟩:=hkeys e (List.mem_of_getElem? he)
    rw[hae]at hek
    have:a.r.name=x.name:=by simpa using hek
    exact absurd this (hn a.r (by rw[←rk.isS];exact List.mem_map_of_mem ha))
  refine Ei _ (Ai (cell_blk hrb7 rfl) ?_)
  refine Ei _ (Ai (cell_blk B47 rfl) ?_)
  refine Ai rfl (Ei es (Ei cl (Ai hmap7 (Ai hfits ?_))))
  rw[hmf]
  intro h8 p8
  have hc68:Chg (mpb::x'.lb::lbN (A++B)) h6 h8:=pi.chg.trans p8.chg (fun k hk=>by simp[hk]) (fun k hk _=>by simp at hk;simp[hk])
  have hrecs:recs (A++x'::B)=insR x S:=by
   rw[hA']
   simp only[recs,List.cons_append,List.tail_cons,List.map_append,List.map_cons,hAr,hBr]
   rfl
  have hrd:RD h8 rb mpb (A++x'::B):=by
   refine⟨?_,fun a ha=>?_,fun hh hlt=>?_,?_⟩
   ·have he:hd0=hd:=by rw[hA']at hN0;simp at hN0;exact hN0.1.symm
    refine⟨hd0,A'++x'::B,by rw[hA',he];rfl,hht0,hrb7.chg p8.chg (by simp;exact d6)⟩
   ·have hmb:a.mb∉mpb::x'.lb::lbN (A++B)∧Blk h6 a.mb a.row∧a.lb≠mpb:=by
     by_cases hax:a=x'
     ·subst hax
      simp only[List.mem_cons,not_or]
      have hm0:=old mpb (by simp[blks])
      refine⟨⟨by show xb≠mpb;omega,by show xb≠xl;omega,fun hb=>by have:=lold _ hb;have:xb<h.size:=this;omega⟩,BX,by show xl≠mpb;omega⟩
     ·have haN:a∈A++B:=by
       rcases List.mem_append.1 ha with ha|ha
       ·simp[ha]
       ·rcases List.mem_cons.1 ha with h|h
        ·exact absurd h hax
        ·simp[h]
      have hm0:a.mb<h.size:=old a.mb (by simp only[blks,List.mem_cons,List.mem_append];exact Or.inr (Or.inr (Or.inl (List.mem_map_of_mem haN))))
      simp only[List.mem_cons,not_or]
      exact⟨⟨d5 a haN,by omega,d3 a haN⟩,(rk6.rd.ok a haN).m,fun e=>d2 (by rw[←e];exact List.mem_map_of_mem haN)⟩
    obtain⟨lk,h1,h2⟩:=pi.blk a ha
    have hht:1≤a.ht∧a.ht≤16:=by
     rcases List.mem_append.1 ha with ha|ha
     ·exact⟨(rk6.rd.ok a (by simp[ha])).pos,(rk6.rd.ok a (by simp[ha])).top⟩
     ·rcases List.mem_cons.1 ha with h|h
      ·subst h;omega
      ·exact⟨(rk6.rd.ok a (by simp[h])).pos,(rk6.rd.ok a (by simp[h])).top⟩
    exact⟨hmb.2.1.chg hc68 hmb.1,⟨lk,h1.chg p8.chg (by simp;exact hmb.2.2),h2⟩,hht.1,hht.2⟩
   ·have hL:=pi.lv hh hlt
    rw[if_pos hlt]at hL
    refine lvl_keep (fun y hy o _=>?_) hL
    have hyN:=mem_of_ons (a:=y.1) (i:=y.2) hy
    have hne:y.1.lb≠mpb:=by
     rcases List.mem_append.1 hyN with ha|ha
     ·exact fun e=>d2 (by rw[←e];exact List.mem_map_of_mem (List.mem_append_left _ ha))
     ·rcases List.mem_cons.1 ha with h|h
      ·rw[h];have:=old mpb (by simp[blks]);omega
      ·exact fun e=>d2 (by rw[←e];exact List.mem_map_of_mem (List.mem_append_right _ h))
    unfold cell
    rw[p8.old _ hne]
   ·simp at hNl⊢;omega
  have h1lt:3<h.size:=by
   obtain⟨v,_,_,hv⟩:=rk.tab 0 (by omega)
   exact cell_lt hv
  have hno1:3∉mpb::x'.lb::lbN (A++B):=by
   have:=rk.no1
   simp only[blks,List.mem_cons,List.mem_append,not_or]at this
   simp only[List.mem_cons,not_or]
   exact⟨this.2.1,by omega,this.2.2.2⟩
  refine Ei (A++x'::B) (Ai ?_ (Ai ?_ ?_))
  ·refine rk.put hAne hperm hrd p8.blk hrecs hn ⟨fun hb=>?_,fun hb=>?_,?_⟩ ((rk6.tab).chg hc68 hno1) ⟨?_,?_⟩
   ·have:xb<h.size:=old _ hb
    omega
   ·have:xl<h.size:=old _ hb
    omega
   ·show xb≠xl;omega
   ·show xb≠3;omega
   ·show xl≠3;omega
  ·refine hc06.trans hc68 (by simp) (fun k hk hlt=>?_)
   simp only[List.mem_cons]at hk
   rcases hk with rfl|rfl|hk
   ·simp[blks]
   ·omega
   ·exact lbN_sub k hk
  ·intro b hb
   rw[blks_mid.mem_iff]at hb
   simp only[List.mem_cons]at hb
   have e1:x'.mb=xb:=rfl
   rcases hb with hb|hb|hb
   ·right;omega
   ·right;omega
   ·left;simpa using hb
end Go.Proofs.YtjnijlnmbjjgpaaGreatDoor.K5


namespace Go.Proofs.YtjnijlnmbjjgpaaGreatDoor.K5
open Go Go.Sx Go.Proofs.YtjnijlnmbjjgpaaGreatDoor C
theorem RK.look {h:Heap} {rb mpb:Nat} {N:List Nd} {S:List Rank} (rk:RK h rb mpb N S) (nm:ByteArray):
  ∃es c,MapB h mpb es c∧(∀e∈es,fits .str e.key=true)∧es.length=S.length∧
   (((∀y∈S,y.name≠nm)∧mfind (.string nm) es 0=none)∨∃A m B j,N=A++m::B∧A≠[]∧m.r.name=nm∧mfind (.string nm) es 0=some (j,ptr m.mb)):=by
 obtain⟨es,cl,hmap,hperm⟩:=rk.map
 obtain⟨hd,mem,hN,_,_⟩:=rk.rd.r
 have hS:S=mem.map Nd.r:=by rw[←rk.isS,hN];rfl
 have hlen:=hperm.length_eq
 have hkeys:∀e∈es,∃a∈mem,e.key=.string a.r.name∧e.val=ptr a.mb:=by
  intro e he
  have h1:(e.key,e.val)∈mapOf N:=hperm.mem_iff.1 (List.mem_map_of_mem (f:=fun e:MapEntry=>(e.key,e.val)) he)
  rw[hN]at h1
  obtain⟨a,ha,hae⟩:=List.mem_map.1 h1
  exact⟨a,ha,(congrArg Prod.fst hae).symm,(congrArg Prod.snd hae).symm⟩
 have hfits:∀e∈es,fits .str e.key=true:=fun e he=>by
  obtain⟨a,_,h2,_⟩:=hkeys e he;rw[h2];rfl
 refine⟨es,cl,hmap,hfits,by rw[hS];simpa[mapOf,hN]using hlen,?_⟩
 cases hm:mfind (.string nm) es 0 with
 |none=>
  refine Or.inl ⟨fun y hy e=>?_,rfl⟩
  have hno:=mfind_none (k:=.str) rfl es 0 hfits hm
  rw[hS]at hy
  obtain⟨a,ha,rfl⟩:=List.mem_map.1 hy
  have hin:((.string a.r.name,ptr a.mb):Value×Value)∈es.map fun e=>(e.key,e.val):=by
   rw[hperm.mem_iff,hN];exact List.mem_map_of_mem (f:=fun a:Nd=>((.string a.r.name,ptr a.mb):Value×Value)) ha
  obtain⟨x,hx,hxe⟩:=List.mem_map.1 hin
  exact hno x hx (by rw[←e];exact congrArg Prod.fst hxe)
 |some jv=>
  obtain⟨j,v⟩:=jv
  obtain⟨_,e,hej,hek,hev⟩:=mfind_spec (k:=.str) rfl es 0 j v hfits hm
  obtain⟨a,ha,hak,hav⟩:=hkeys e (List.mem_of_getElem? hej)
  obtain⟨A,B,rfl⟩:=List.append_of_mem ha
  rw[hek]at hak
  refine Or.inr ⟨hd::A,a,B,j,hN,by simp,(by simpa using hak.symm),?_⟩
  rw[←hev,hav]
def RS (h:Heap) (v:Value) (S:List Rank) (fp:List Nat):Prop:=∃rb mpb N,v=ptr rb∧RK h rb mpb N S∧fp=blks rb mpb N
theorem RS.ext {h h':Heap} {v:Value} {S:List Rank} {fp:List Nat} (rs:RS h v S fp) (hc:Chg [] h h'):RS h' v S fp:=by
 obtain⟨rb,mpb,N,h1,h2,h3⟩:=rs
 exact⟨rb,mpb,N,h1,h2.ext hc,h3⟩
theorem RK.there {h:Heap} {rb mpb:Nat} {A B:List Nd} {m:Nd} {S:List Rank} (rk:RK h rb mpb (A++m::B) S) (hA:A≠[]):
  S=(A.tail.map Nd.r)++m.r::B.map Nd.r:=by
 obtain⟨hd,A',rfl⟩:=List.exists_cons_of_ne_nil hA
 rw[←rk.isS];simp[recs]
theorem score_calls {h:Heap} {v:Value} {S:List Rank} {fp:List Nat} (rs:RS h v S fp) (nm:ByteArray):
  CallsH Tryz.prog 237 [v,.string nm] h (Ret fun u h'=>h'=h∧(((∀y∈S,y.name≠nm)∧u=.tuple #[.int .i64 0,.bool false])∨∃a y b,S=a++y::b∧y.name=nm∧u=.tuple #[.int .i64 y.score,.bool true])):=by
 obtain⟨rb,mpb,N,rfl,rk,rfl⟩:=rs
 obtain⟨hd0,mem0,hN0,hht0,hrb⟩:=rk.rd.r
 obtain⟨es,cl,hmap,hfits,hel,hl⟩:=rk.look nm
 refine f237_calls (by simp) ?_
 refine call_ret (none_calls hrb) ?_
 rintro _ h1 ⟨rfl,rfl⟩
 refine Ei _ (Ai (cell_blk hrb rfl) ?_)
 refine Ai rfl (Ei es (Ei cl (Ai hmap (Ai hfits ?_))))
 rcases hl with⟨hno,hm⟩|⟨A,m,B,j,rfl,hA,hmn,hm⟩
 ·rw[hm]
  exact Ai rfl (Or.inl ⟨hno,rfl⟩)
 ·rw[hm]
  have Mm:=(rk.rd.ok m (by simp)).m
  refine Ei _ (Ai (cell_blk Mm rfl) ?_)
  exact Ai rfl (Or.inr ⟨_,_,_,rk.there hA,hmn,rfl⟩)
theorem rank_calls {h:Heap} {v:Value} {S:List Rank} {fp:List Nat} (rs:RS h v S fp) (nm:ByteArray):
  CallsH Tryz.prog 180 [v,.string nm] h (Ret fun u h'=>Chg [] h h'∧(((∀y∈S,y.name≠nm)∧u=.tuple #[.int .i64 0,.bool false])∨∃a y b,S=a++y::b∧y.name=nm∧u=.tuple #[.int .i64 a.length,.bool true])):=by
 obtain⟨rb,mpb,N,rfl,rk,rfl⟩:=rs
 obtain⟨hd0,mem0,hN0,hht0,hrb⟩:=rk.rd.r
 obtain⟨es,cl,hmap,hfits,hel,hl⟩:=rk.look nm
 refine f180_calls (by simp) ?_
 refine call_ret (none_calls hrb) ?_
 rintro _ h1 ⟨rfl,rfl⟩
 refine Ei _ (Ai (cell_blk hrb rfl) ?_)
 refine Ai rfl (Ei es (Ei cl (Ai hmap (Ai hfits ?_))))
 rcases hl with⟨hno,hm⟩|⟨A,m,B,j,rfl,hA,hmn,hm⟩
 ·rw[hm]
  exact Ai (Chg.refl h1) (Or.inl ⟨hno,rfl⟩)
 ·rw[hm]
  have okm:=rk.rd.ok m (by simp)
  have hS:=rk.there hA
  refine Ei (encR m.r) (Ai rfl (Ai (cells_part (l:=m.row) okm.m ?_) ?_))
  ·intro j v hj
   rw[Nat.zero_add]
   unfold Nd.row
   rw[List.getElem?_append_left (List.getElem?_eq_some_iff.1 hj).1];exact hj
  refine call_ret (less_calls m.r) ?_
  rintro _ h2 ⟨bl,rfl,hbl,Bl,hc2⟩
  have rk2:=rk.ext hc2
  have hup:upto m.r S=A.tail.length:=by
   have hs:=rk.sorted
   rw[hS]at hs⊢
   rw[upto_mid hs];simp
  have hAl:A.length=upto m.r S+1:=by
   rw[hup];cases A with
   |nil=>exact absurd rfl hA
   |cons a A=>simp
  have ask:=less_ask Bl (N:=A++m::B) (by rw[rk.isS];exact rk.sorted)
  rw[rk.isS,←hAl]at ask
  refine call_ret (down_calls rk2.rd rfl hA ask) ?_
  rintro _ h3 ⟨pb,rfl,hpb,⟨pl,Bp,hpath⟩,hc3⟩
  obtain⟨p0,i0,hlast0,_,hp02⟩:=hpath 0 (by omega)
  have hi0:i0=A.length-1:=last_low (fun a ha=>(rk.rd.ok a (List.mem_append_left _ ha)).pos) hlast0
  refine Ai (by decide) (Ai (by decide) (Ei (.int .i64 i0) (Ai (cell_blk Bp hp02) ?_)))
  refine Ai (hc2.nil hc3) (Or.inr ⟨_,_,_,hS,hmn,?_⟩)
  have:i0=(A.tail.map Nd.r).length:=by simp;omega
  rw[←this];rfl
theorem rep_get {a b:Value}:∀(n i:Nat),i<n→((List.replicate n [a,b]).flatten)[2*i]? =some a∧((List.replicate n [a,b]).flatten)[2*i+1]? =some b
 |0,i,h=>by omega
 |n+1,0,_=>by simp[List.replicate_succ]
 |n+1,i+1,h=>by
  have ih:=rep_get (a:=a) (b:=b) n i (by omega)
  have e:2*(i+1)=2*i+1+1:=by omega
  rw[List.replicate_succ,List.flatten_cons,e]
  simpa using ih
theorem begun_calls {h:Heap} (ht:TabH h):
  CallsH Tryz.prog 238 [] h (Ret fun u h'=>Chg [] h h'∧∃fp,RS h' u [] fp∧∀b∈fp,h.size≤b):=by
 have h1lt:3<h.size:=by
  obtain⟨v,_,_,hv⟩:=ht 0 (by omega)
  exact cell_lt hv
 refine f238_calls (by simp) ?_
 refine Ai (by decide) (Ai (by decide) (Ai (by decide) (Ai (by decide) ?_)))
 intro lb h1 g1
 intro mb h2 g2
 intro mpb h3 g3
 intro rb h4 g4
 have s1:=g1.id;have s1':=g1.size;have s2:=g2.id;have s2':=g2.size;have s3:=g3.id;have s3':=g3.size;have s4:=g4.id;have s4':=g4.size
 have hc24:Chg [] h2 h4:=g3.chg.nil g4.chg
 have hc:Chg [] h h4:=(g1.chg.nil g2.chg).nil hc24
 have BL:Blk h4 lb ((List.replicate 16 [.pointer none,.int .i64 0]).flatten):=(g1.blk.chg g2.chg (by simp)).chg hc24 (by simp)
 have BM:Blk h4 mb (Nd.row ⟨mb,lb,16,⟨⟨#[]⟩,0⟩⟩):=(show Blk h2 mb (Nd.row ⟨mb,lb,16,⟨⟨#[]⟩,0⟩⟩)from g2.blk).chg hc24 (by simp)
 have BP:MapB h4 mpb [] 0:=(show MapB h3 mpb [] 0 from g3.blk).chg g4.chg (by simp)
 have BR:Blk h4 rb [ptr mb,.map (some mpb)]:=g4.blk
 have hfp:blks rb mpb [⟨mb,lb,16,⟨⟨#[]⟩,0⟩⟩]=[rb,mpb,mb,lb]:=rfl
 refine Ai hc (Ei [rb,mpb,mb,lb] (Ai ⟨rb,mpb,[⟨mb,lb,16,⟨⟨#[]⟩,0⟩⟩],rfl,?_,rfl⟩ ?_))
 ·refine⟨⟨⟨_,[],rfl,rfl,BR⟩,fun a ha=>?_,fun hh hlt=>?_,by simp⟩,?_,rfl,⟨[],0,BP,by simp[mapOf]⟩,List.Pairwise.nil,List.nodup_nil,ht.chg hc (by simp),?_⟩
  ·simp at ha;subst ha
   exact⟨BM,⟨_,BL,by simp⟩,by simp,by simp⟩
  ·have hg:=rep_get (a:=.pointer none) (b:=.int .i64 0) 16 hh hlt
   simp only[ons,hlt,if_true]
   exact⟨⟨0,cell_blk BL hg.1,cell_blk BL hg.2⟩,trivial⟩
  ·rw[hfp];simp;omega
  ·rw[hfp];simp;omega
 ·intro b hb
  simp at hb;omega
def encI (i:Int):List Value:=[.int .i64 i]
theorem encI_len (i:Int):(encI i).length=1:=rfl
def OfP (h:Heap) (l:List Rank) (u:Value) (h':Heap):Prop:=
 Chg [] h h'∧if ofErr l=0 then∃v fp,u=.tuple #[v,.int .i64 0]∧RS h' v (ofR l) fp∧∀b∈fp,h.size≤b else u=.tuple #[.pointer none,.int .i64 (ofErr l)]
theorem ofP_bad {h h':Heap} {l:List Rank} (hc:Chg [] h h') {e:Int} (he:ofErr l=e) (hn:e≠0):OfP h l (.tuple #[.pointer none,.int .i64 e]) h':=by
 refine⟨hc,?_⟩
 rw[he,if_neg hn]
theorem ofm_second {h h1:Heap} {a:Option Addr} {c:Nat} {l:List Rank} {cv:Value} {cs:List Int} (hv:SL encR h1 (.slice a l.length c) l) (hcv:SL encI h1 cv cs) (hcl:cs.length<4611686018427387904)
  (hc1:Chg [] h h1) (ht:TabH h1) (hlen:l.length≤65536) (hsz:l.any (fun x=>decide (1048576<x.name.size))=false):
  swp Tryz.prog (.seq (.ops f179r10) (.seq (.seq (.ops f179r11) (.block 2 (.loop f179l22))) (.seq (.ops f179r23) .ret))) (retQ [.t 4,.t 5] (Ret (OfP h l))) (mk [(0,.slice a l.length c),(1,cv)]) [] h1:=by
 have hsm:∀x∈l,¬1048576<x.name.size:=by
  intro x hx
  have:=List.any_eq_false.1 hsz x hx
  simpa using this
 obtain⟨ca,cc,rfl,hcc⟩:=hcv.form
 refine call_ret (begun_calls ht) ?_
 rintro rv h2 ⟨hc2,fp0,rs0,hfp0⟩
 refine loop_intro (fun k:Nat=>[(1,.slice ca cs.length cc),(8,rv),(29,.slice a l.length c),(30,.int .i64 l.length),(31,.int .i64 k)])
  (fun k h'=>k≤l.length∧Chg [] h1 h'∧∃out fp,RS h' rv out fp∧(∀b∈fp,h1.size≤b)∧out.length≤k∧ofGo out (l.drop k)=ofGo [] l) (fun k=>l.length-k) 0
  ⟨rfl,rfl,rfl,rfl,rfl,trivial⟩ ⟨Nat.zero_le _,hc2,[],fp0,rs0,hfp0,Nat.le_refl _,rfl⟩ ?_
 rintro k h3 ⟨hk,hc3,out,fp,rs,hfp,hol,hgo⟩
 refine Ai rfl (Ai (fun hlt=>?_) (fun hlt=>?_))
 ·have hlt:k<l.length:=by omega
  obtain⟨b,o,rfl⟩:=hv.addr (by omega)
  have hcs:=(hv.ext hc3).cells encR_len (i:=k) (x:=l[k]) (by simp[hlt])
  rw[List.drop_eq_getElem_cons hlt,ofGo]at hgo
  refine Ai (by omega) (Ai (by omega) (Ei (encR l[k]) (Ai rfl (Ai hcs ?_))))
  intro b4 h4 g4
  refine Ei _ (Ai g4.blk (Ai (by decide) (Ai rfl (Ai (ones2 rfl rfl) ?_))))
  intro h5 p5
  have g5:=g4.put p5
  have B5:Blk h5 b4 (encR l[k]):=p5.blk
  have hc5:=g5.chg
  have rs5:=rs.ext hc5
  have rs5':=rs5
  obtain⟨rb,mpb,N,rfl,rk,rfl⟩:=rs5
  obtain⟨hd0,mem0,hN0,hht0,hrb⟩:=rk.rd.r
  obtain⟨es,cl,hmap,hfits,hel,hl⟩:=rk.look l[k].name
  refine Ei _ (Ai (cell_blk hrb rfl) ?_)
  refine Ei _ (Ai (cell_blk B5 rfl) ?_)
  refine Ai rfl (Ei es (Ei cl (Ai hmap (Ai hfits ?_))))
  have hc35:Chg [] h1 h5:=hc3.nil hc5
  rcases hl with⟨hno,hm⟩|⟨A,m,B,j,rfl,hA,hmn,hm⟩
  ·rw[hm]
   have hfn:findR l[k].name out 0= -1:=findR_none hno
   rw[hfn,if_neg (by decide)]at hgo
   have hse:setErr out l[k]=false:=by
    have:=hsm l[k] (List.getElem_mem hlt)
    simp[setErr];omega
   rw[hse,if_neg (by simp)]at hgo
   have hset:setR out l[k]=insR l[k] out:=by unfold setR;rw[dropR_none hno]
   rw[hset]at hgo
   have done:∀N' h6,RK h6 rb mpb N' (insR l[k] out)→Chg (blks rb mpb N) h5 h6→(∀b∈blks rb mpb N',b∈blks rb mpb N∨h5.size≤b)→
     k+1≤l.length∧Chg [] h1 h6∧∃out fp,RS h6 (ptr rb) out fp∧(∀b∈fp,h1.size≤b)∧out.length≤k+1∧ofGo out (l.drop (k+1))=ofGo [] l:=by
    intro N' h6 rk6 hc6 hb6
    refine⟨by omega,hc35.fresh hc6 hfp,_,_,⟨rb,mpb,N',rfl,rk6,rfl⟩,fun b hb=>?_,by rw[insR_len];omega,hgo⟩
    rcases hb6 b hb with h|h
    ·exact hfp b h
    ·have:=hc35.size;omega
   refine Ai rfl (Ai (fun hcn=>?_) (fun hcn=>?_))
   ·have hcn:k<cs.length:=by omega
    obtain⟨cb,co,rfl⟩:=hcv.addr (by omega)
    have hcc5:=(hcv.ext hc35).cells encI_len (i:=k) (x:=cs[k]) (by simp[hcn])
    refine Ai (by omega) (Ai (by omega) (Ei _ (Ai (hcc5 0 _ rfl) ?_)))
    refine Ei (encR l[k]) (Ai rfl (Ai (cells_blk B5) ?_))
    refine call_ret (put_calls rk l[k] cs[k] hno (by omega)) ?_
    rintro _ h6 ⟨N',rk6,hc6,hb6⟩
    refine Ai rfl (fun z hz=>?_)
    have hz:=add_in hz (by omega) (by omega)
    subst hz
    refine Ai rfl (Ei (k+1) (Ai ?_ (Ai (done N' h6 rk6 hc6 hb6) ?_)))
    ·exact⟨rfl,rfl,rfl,rfl,rfl,trivial⟩
    ·omega
   ·refine Ei (encR l[k]) (Ai rfl (Ai (cells_blk B5) ?_))
    refine call_ret (put_calls rk l[k] 0 hno (by omega)) ?_
    rintro _ h6 ⟨N',rk6,hc6,hb6⟩
    refine Ai rfl (fun z hz=>?_)
    have hz:=add_in hz (by omega) (by omega)
    subst hz
    refine Ai rfl (Ei (k+1) (Ai ?_ (Ai (done N' h6 rk6 hc6 hb6) ?_)))
    ·exact⟨rfl,rfl,rfl,rfl,rfl,trivial⟩
    ·omega
  ·rw[hm]
   refine ofP_bad (hc1.nil hc35) ?_ (by decide)
   have hS:=rk.there hA
   have hf:0≤findR l[k].name out 0:=by
    have hnm:=rk.names
    rw[hS]at hnm⊢
    rw[←hmn,findR_mid hnm];omega
   rw[if_pos hf]at hgo
   unfold ofErr
   rw[if_neg (by omega),hsz,if_neg (by simp),←hgo];rfl
 ·have hlt:k=l.length:=by omega
  subst hlt
  rw[List.drop_length,ofGo]at hgo
  have e0:ofErr l=0:=by
   unfold ofErr
   rw[if_neg (by omega),hsz,if_neg (by simp),←hgo];rfl
  refine Ai (hc1.nil hc3) ?_
  rw[if_pos e0]
  have:ofR l=out:=by
   unfold ofR
   rw[if_pos e0,←hgo];rfl
  rw[this]
  exact⟨rv,fp,rfl,rs,fun b hb=>by have:=hfp b hb;have:=hc1.size;omega⟩
theorem ofm_calls {h:Heap} {v cv:Value} {l:List Rank} {cs:List Int} (hv:SL encR h v l) (hcv:SL encI h cv cs) (hl:l.length<4611686018427387904) (hcl:cs.length<4611686018427387904) (ht:TabH h):
  CallsH Tryz.prog 179 [v,cv] h (Ret (OfP h l)):=by
 obtain⟨a,c,rfl,hlc⟩:=hv.form
 refine f179_calls (by simp) ?_
 refine Ai rfl (Ai (fun hn=>?_) (fun hn=>?_))
 ·exact ofP_bad (Chg.refl h) (e:=3) (by unfold ofErr;rw[if_pos (by omega)]) (by decide)
 ·refine loop_intro (fun k:Nat=>[(0,.slice a l.length c),(1,cv),(17,.slice a l.length c),(18,.int .i64 l.length),(19,.int .i64 k)]) (fun k h'=>k≤l.length∧Chg [] h h'∧(l.take k).any (fun x=>decide (1048576<x.name.size))=false) (fun k=>l.length-k) 0 ⟨rfl,rfl,rfl,rfl,rfl,trivial⟩ ⟨Nat.zero_le _,Chg.refl h,rfl⟩ ?_
  rintro k h1 ⟨hk,hc1,hall⟩
  refine Ai rfl (Ai (fun hlt=>?_) (fun hlt=>?_))
  ·have hlt:k<l.length:=by omega
   obtain⟨b,o,rfl⟩:=hv.addr (by omega)
   have hcs:=(hv.ext hc1).cells encR_len (i:=k) (x:=l[k]) (by simp[hlt])
   refine Ai (by omega) (Ai (by omega) (Ei (encR l[k]) (Ai rfl (Ai hcs ?_))))
   intro b4 h4 g4
   refine Ei _ (Ai g4.blk (Ai (by decide) (Ai rfl (Ai (ones2 rfl rfl) ?_))))
   intro h5 p5
   have g5:=g4.put p5
   have B5:Blk h5 b4 (encR l[k]):=p5.blk
   have hc5:=hc1.nil g5.chg
   refine Ei _ (Ai (cell_blk B5 rfl) ?_)
   refine Ai rfl (Ai (fun hs=>?_) (fun hs=>?_))
   ·refine ofP_bad hc5 (e:=3) ?_ (by decide)
    unfold ofErr
    rw[if_neg (by omega),any_drop hlt (by simp;omega),if_pos rfl]
   ·refine Ai rfl (fun z hz=>?_)
    have hz:=add_in hz (by omega) (by omega)
    subst hz
    refine Ai rfl (Ei (k+1) (Ai ?_ (Ai ?_ ?_)))
    ·exact⟨rfl,rfl,rfl,rfl,rfl,trivial⟩
    ·refine⟨by omega,hc5,?_⟩
     rw[take_snoc l k hlt,List.any_append,hall]
     simp;omega
    ·omega
  ·have hlt:k=l.length:=by omega
   subst hlt
   rw[List.take_length]at hall
   exact cut_at [(0,.slice a l.length c),(1,cv)] ⟨rfl,rfl,trivial⟩ (ofm_second (hv.ext hc1) (hcv.ext hc1) hcl hc1 (ht.chg hc1 (by simp)) (by omega) hall)
def pv:Option Nd→Value
 |some b=>ptr b.mb
 |none=>.pointer none
theorem low_lead {h:Heap}:∀{N:List Nd} {k i:Nat} {a:Nd},(∀a∈N,1≤a.ht)→LvL h 0 (ons 0 k N)→N[i]? =some a→∃w,link h a 0 (pv N[i+1]?) w
 |[],k,i,a,_,_,h=>by simp at h
 |x::N,k,i,a,hp,hL,h=>by
  have hx:=hp x (by simp)
  have hx0:0<x.ht:=by omega
  simp only[ons,hx0,if_true]at hL
  cases i with
  |zero=>
   simp at h;subst h
   cases N with
   |nil=>exact hL.1
   |cons y N=>
    have hy:=hp y (by simp)
    have hy0:0<y.ht:=by omega
    simp only[ons,hy0,if_true]at hL
    exact⟨_,hL.1⟩
  |succ i=>
   have:=low_lead (k:=k+1) (i:=i) (a:=a) (fun b hb=>hp b (by simp[hb])) hL.2 (by simpa using h)
   simpa using this
def AskW (gi gc:Array Value) (g:Nat) (h:Heap) (S:List Rank) (E:Nat):Prop:=
 ∀h' k a,Chg [] h h'→S[k]? =some a→CallsH Tryz.prog g (gi.toList++[.agg ⟨encR a⟩,.int .i64 k]++gc.toList) h' (Ret fun u h''=>u=.bool (decide (k<E))∧Chg [] h' h'')
theorem from_calls {h:Heap} {rb mpb f g:Nat} {fi cap gi gc:Array Value} {N:List Nd} {S:List Rank} (rk:RK h rb mpb N S) {K E:Nat} (hK:K≤S.length) (hP:AskP fi cap f h N (K+1)) (hW:AskW gi gc g h S E):
  CallsH Tryz.prog 243 [ptr rb,.func (.func f) fi cap,.func (.func g) gi gc] h (Ret fun u h'=>OL encR 2 h' u ((S.drop K).take (E-K))∧Chg [] h h'∧∀b∈vblk u,h.size≤b):=by
 obtain⟨hd0,mem0,hN0,hht0,hrb⟩:=rk.rd.r
 have hNl:=rk.len
 have hN65:=rk.rd.len
 obtain⟨hN,hAl,⟨hd,A',hA',hAr⟩,hBr⟩:=split_at rk hK
 have hAne:N.take (K+1)≠[]:=by rw[hA'];simp
 have hget:∀k,N[k+1]?.map Nd.r=S[k]? :=by
  intro k
  rw[←rk.isS,hN0];simp[recs]
 refine f243_calls (by simp) ?_
 refine call_ret (none_calls hrb) ?_
 rintro _ h1 ⟨rfl,rfl⟩
 refine call_ret (down_calls rk.rd hN hAne (by rw[hAl];exact hP)) ?_
 rintro _ h2 ⟨pb,rfl,hpb,⟨pl,Bp,hpath⟩,hc2⟩
 have rk2:=rk.ext hc2
 obtain⟨p0,i0,hlast0,hp01,hp02⟩:=hpath 0 (by omega)
 have hi0:i0=K:=by
  have:=last_low (fun a ha=>(rk.rd.ok a (List.mem_of_mem_take ha)).pos) hlast0
  omega
 subst hi0
 have hp0N:N[i0]? =some p0:=by
  have h1:=hlast0.get.2
  rw[List.getElem?_take]at h1
  split at h1
  ·exact h1
  ·simp at h1
 have ok0:=rk2.rd.ok p0 (List.mem_of_getElem? hp0N)
 obtain⟨w0,hl0⟩:=low_lead (fun a ha=>(rk2.rd.ok a ha).pos) (rk2.rd.lv 0 (by omega)) hp0N
 have hpos:=ok0.pos
 refine Ai (by decide) (Ai (by decide) (Ei (.int .i64 i0) (Ai (cell_blk Bp hp02) ?_)))
 refine Ai (by decide) (Ai (by decide) (Ei (ptr p0.mb) (Ai (cell_blk Bp hp01) ?_)))
 refine Ei _ (Ai (cell_blk ok0.m rfl) ?_)
 refine Ai (by decide) (Ai (by omega) (Ei _ (Ai hl0.1 ?_)))
 refine loop_intro (fun x:Nat×Value×Option Nd=>[(2,.func (.func g) gi gc),(7,x.2.1),(9,.int .i64 x.1),(10,pv x.2.2)])
  (fun x h'=>i0≤x.1∧x.1≤S.length∧x.1≤max E i0∧Chg [] h1 h'∧OL encR 2 h' x.2.1 ((S.drop i0).take (x.1-i0))∧(∀b∈vblk x.2.1,h1.size≤b)∧x.2.2=N[x.1+1]?) (fun x=>S.length-x.1) (i0,.slice none 0 0,N[i0+1]?)
  ⟨rfl,rfl,rfl,rfl,trivial⟩ ⟨Nat.le_refl _,hK,by simp only;omega,hc2,by simp only[Nat.sub_self,List.take_zero];exact OL.nil,by simp[vblk,ablk],rfl⟩ ?_
 rintro⟨k,ov,q⟩ h3 ⟨hk0,hk,hkE,hc3,ho,hb,hq⟩
 simp only at hk0 hk hkE ho hb hq
 have rk3:=rk.ext hc3
 have fin:∀h4,Chg [] h3 h4→(k=S.length∨¬k<E)→OL encR 2 h4 ov ((S.drop i0).take (E-i0))∧Chg [] h1 h4∧∀b∈vblk ov,h1.size≤b:=by
  intro h4 hc4 hor
  refine⟨?_,hc3.nil hc4,hb⟩
  have e:(S.drop i0).take (E-i0)=(S.drop i0).take (k-i0):=by
   rcases hor with h|h
   ·by_cases hE:E≤k
    ·have:E-i0=k-i0:=by omega
     rw[this]
    ·rw[List.take_of_length_le (by simp;omega),List.take_of_length_le (by simp;omega)]
   ·have:E-i0=k-i0:=by omega
    rw[this]
  rw[e];exact ho.ext hc4
 cases q with
 |none=>
  have hkS:k=S.length:=by
   have:=List.getElem?_eq_none_iff.1 hq.symm
   omega
  exact fin h3 (Chg.refl h3) (Or.inl hkS)
 |some b=>
  have hbN:=hq.symm
  have okb:=rk3.rd.ok b (List.mem_of_getElem? hbN)
  have hSk:S[k]? =some b.r:=by rw[←hget k,hbN];rfl
  have hkS:k<S.length:=(List.getElem?_eq_some_iff.1 hSk).1
  refine Ei (encR b.r) (Ai rfl (Ai (cells_part (l:=b.row) okb.m ?_) ?_))
  ·intro j v hj
   rw[Nat.zero_add]
   unfold Nd.row
   rw[List.getElem?_append_left (List.getElem?_eq_some_iff.1 hj).1];exact hj
  refine call_ret (hW h3 k b.r hc3 hSk) ?_
  rintro _ h4 ⟨rfl,hc4⟩
  by_cases hkE':k<E
  ·rw[decide_eq_true hkE']
   have okb4:=okb.ext hc4
   refine Ei (encR b.r) (Ai rfl (Ai (cells_part (l:=b.row) okb4.m ?_) ?_))
   ·intro j v hj
    rw[Nat.zero_add]
    unfold Nd.row
    rw[List.getElem?_append_left (List.getElem?_eq_some_iff.1 hj).1];exact hj
   intro b5 h5 g5
   have ho5:=(ho.ext hc4).ext g5.chg
   have holen:((S.drop i0).take (k-i0)).length=k-i0:=by simp;omega
   obtain⟨a5,c5,rfl,hoc⟩:=ho5.sl.form
   refine app_own encR_len encR_one rfl ho5 (SL.one encR_len g5.blk) (by simp;omega) ?_
   intro v' h6 ho6 hc6 hbl
   have hc36:Chg [] h1 h6:=((hc3.nil hc4).nil g5.chg).fresh hc6 fun k' hk'=>hb k' hk'
   refine Ai rfl (fun z hz=>?_)
   have hz:=add_in hz (by omega) (by omega)
   subst hz
   have rk6:=rk.ext hc36
   have okb6:=rk6.rd.ok b (List.mem_of_getElem? hbN)
   obtain⟨wb,hlb⟩:=low_lead (fun a ha=>(rk6.rd.ok a ha).pos) (rk6.rd.lv 0 (by omega)) hbN
   have hpos':=okb6.pos
   refine Ei _ (Ai (cell_blk okb6.m rfl) ?_)
   refine Ai (by decide) (Ai (by omega) (Ei _ (Ai hlb.1 ?_)))
   refine Ai rfl (Ei (k+1,v',N[k+1+1]?) (Ai ?_ (Ai ?_ ?_)))
   ·exact⟨rfl,rfl,rfl,rfl,trivial⟩
   ·refine⟨by simp only;omega,by simp only;omega,by simp only;omega,hc36,?_,fun b' hb'=>?_,rfl⟩
    ·have e:(S.drop i0).take (k+1-i0)=(S.drop i0).take (k-i0)++[b.r]:=by
      have h1:k+1-i0=(k-i0)+1:=by omega
      have h2:(S.drop i0)[k-i0]? =some b.r:=by
       rw[List.getElem?_drop]
       have:i0+(k-i0)=k:=by omega
       rw[this];exact hSk
      rw[h1,List.take_add_one,h2];rfl
     rw[e];exact ho6
    ·rcases hbl b' hb' with h|h
     ·exact hb b' h
     ·have:=hc3.size;have:=hc4.size;have:=g5.size;omega
   ·simp only;omega
  ·rw[decide_eq_false hkE']
   exact fin h4 hc4 (Or.inr hkE')
theorem sel_iv (F U:Nat):∀(l:List Rank) (j:Nat),sel (fun _ i=>decide (F≤i)&&decide (i<U)) l j=(l.drop (F-j)).take (U-max j F)
 |[],j=>by simp[sel]
 |x::l,j=>by
  have ih:=sel_iv F U l (j+1)
  simp only[sel,ih]
  by_cases h1:j<F
  ·rw[if_neg (by simp;omega)]
   have e1:F-j=(F-(j+1))+1:=by omega
   have e2:max (j+1) F=max j F:=by omega
   rw[e1,List.drop_succ_cons,e2]
  ·have e0:F-j=0:=by omega
   have e1:F-(j+1)=0:=by omega
   rw[e0,e1,List.drop_zero,List.drop_zero]
   by_cases h2:j<U
   ·rw[if_pos (by simp;omega)]
    have e3:U-max j F=(U-max (j+1) F)+1:=by omega
    rw[e3,List.take_succ_cons]
   ·rw[if_neg (by simp;omega)]
    have e3:U-max j F=0:=by omega
    have e4:U-max (j+1) F=0:=by omega
    rw[e3,e4];simp
theorem sel_congr {p q:Rank→Nat→Bool}:∀(l:List Rank) (j:Nat),(∀k (hk:k<l.length),p l[k] (j+k)=q l[k] (j+k))→sel p l j=sel q l j
 |[],j,_=>rfl
 |x::l,j,h=>by
  have h0:=h 0 (by simp)
  simp only[Nat.add_zero,List.getElem_cons_zero]at h0
  have ih:=sel_congr (p:=p) (q:=q) l (j+1) fun k hk=>by
   have h1:=h (k+1) (by simpa using hk)
   have e:j+(k+1)=j+1+k:=by omega
   rw[e]at h1
   exact h1
  simp only[sel,h0,ih]
theorem sel_part {p:Rank→Nat→Bool} {l:List Rank} {K E:Nat} (h:∀k (hk:k<l.length),p l[k] k=true↔K≤k∧k<E):sel p l 0=(l.drop K).take (E-K):=by
 rw[sel_congr (q:=fun _ i=>decide (K≤i)&&decide (i<E)) l 0 fun k hk=>by
  rw[Nat.zero_add,Bool.eq_iff_iff,h k hk];simp,sel_iv]
 simp
def pre (q:Rank→Bool):List Rank→Nat
 |[]=>0
 |x::l=>if q x then pre q l+1 else 0
theorem pre_le (q:Rank→Bool):∀l,pre q l≤l.length
 |[]=>by simp[pre]
 |y::l=>by
  have:=pre_le q l
  simp only[pre];split<;>simp;omega
theorem pre_iff {q:Rank→Bool} (hq:∀x y,ahead x y=true→q y=true→q x=true):∀{l:List Rank},Sorted l→∀(k:Nat) (hk:k<l.length),q l[k]=true↔k<pre q l
 |[],_,k,hk=>by simp at hk
 |y::l,hs,0,hk=>by
  simp only[List.getElem_cons_zero,pre]
  split<;>simp_all
 |y::l,hs,k+1,hk=>by
  have⟨h1,h2⟩:=List.pairwise_cons.1 hs
  have ih:=pre_iff hq h2 k (by simpa using hk)
  simp only[List.getElem_cons_succ,pre]
  split
  ·rw[ih];omega
  ·rename_i hy
   constructor
   ·intro h
    exact absurd (hq _ _ (h1 _ (List.getElem_mem _)) h) hy
   ·intro h;omega
theorem nd_of {N:List Nd} {S:List Rank} (hS:recs N=S) {k:Nat} {a:Nd} (h:N[k+1]? =some a):S[k]? =some a.r:=by
 cases N with
 |nil=>simp at h
 |cons y N=>rw[←hS];simp at h;simp[recs,h]
theorem atm_calls {h:Heap} {v:Value} {S:List Rank} {fp:List Nat} (rs:RS h v S fp) (f u:Int):
  CallsH Tryz.prog 182 [v,.int .i64 f,.int .i64 u] h (Ret fun r h'=>OL encR 2 h' r (atR f u S)∧Chg [] h h'∧∀b∈vblk r,h.size≤b):=by
 obtain⟨rb,mpb,N,rfl,rk,rfl⟩:=rs
 refine f182_calls (by simp) ?_
 intro b1 h1 g1
 intro b2 h2 g2
 have hc:=g1.chg.nil g2.chg
 have rk2:=rk.ext hc
 have B1:Blk h2 b1 [.int .i64 f]:=(show Blk h1 b1 [.int .i64 f]from g1.blk).chg g2.chg (by simp)
 have B2:Blk h2 b2 [.int .i64 u]:=g2.blk
 have e:atR f u S=(S.drop (min f.toNat S.length)).take (u.toNat-min f.toNat S.length):=by
  unfold atR
  refine sel_part fun k hk=>?_
  simp;omega
 refine call_ret (from_calls (K:=min f.toNat S.length) (E:=u.toNat) (f:=244) (g:=245) (fi:= #[]) (gi:= #[]) (cap:= #[ptr b1]) (gc:= #[ptr b2]) rk2 (by omega) ?_ ?_) ?_
 ·intro h' k a hc' hk hpos
  obtain⟨j,rfl⟩:∃j,k=j+1:=⟨k-1,by omega⟩
  have hj:=(List.getElem?_eq_some_iff.1 (nd_of rk.isS hk)).1
  refine f244_calls (by simp) ?_
  intro b3 h3 g3
  refine Ei _ (Ai (cell_blk ((B1.chg hc' (by simp)).chg g3.chg (by simp)) rfl) ?_)
  refine Ai rfl (Ai (fun ht=>?_) (fun ht=>?_))
  ·refine Ai ?_ g3.chg
   rw[decide_eq_true (by omega)];rfl
  ·refine Ai ?_ g3.chg
   rw[decide_eq_false (by omega)];rfl
 ·intro h' k a hc' hk
  refine f245_calls (by simp) ?_
  intro b3 h3 g3
  refine Ei _ (Ai (cell_blk ((B2.chg hc' (by simp)).chg g3.chg (by simp)) rfl) ?_)
  refine Ai rfl (Ai (fun ht=>?_) (fun ht=>?_))
  ·refine Ai ?_ g3.chg
   rw[decide_eq_true (by omega)];rfl
  ·refine Ai ?_ g3.chg
   rw[decide_eq_false (by omega)];rfl
 ·rintro r h3 ⟨ho,hc3,hb⟩
  rw[e]
  exact Ai ho (Ai (hc.nil hc3) fun b hb'=>by have:=hb b hb';have:=hc.size;omega)
theorem betweenm_calls {h:Heap} {v:Value} {S:List Rank} {fp:List Nat} (rs:RS h v S fp) (f u:Int):
  CallsH Tryz.prog 184 [v,.int .i64 f,.int .i64 u] h (Ret fun r h'=>OL encR 2 h' r (betweenR f u S)∧Chg [] h h'∧∀b∈vblk r,h.size≤b):=by
 obtain⟨rb,mpb,N,rfl,rk,rfl⟩:=rs
 refine f184_calls (by simp) ?_
 intro b1 h1 g1
 intro b2 h2 g2
 have hc:=g1.chg.nil g2.chg
 have rk2:=rk.ext hc
 have B1:Blk h2 b1 [.int .i64 f]:=(show Blk h1 b1 [.int .i64 f]from g1.blk).chg g2.chg (by simp)
 have B2:Blk h2 b2 [.int .i64 u]:=g2.blk
 have q1:=fun k hk=>pre_iff (q:=fun y=>decide (y.score<f)) (fun x y hxy hy=>by rw[ahead_iff]at hxy;simp at hy⊢;omega) rk.sorted k hk
 have q2:=fun k hk=>pre_iff (q:=fun y=>decide (y.score≤u)) (fun x y hxy hy=>by rw[ahead_iff]at hxy;simp at hy⊢;omega) rk.sorted k hk
 have l1:=pre_le (fun y=>decide (y.score<f)) S
 have e:betweenR f u S=(S.drop (pre (fun y=>decide (y.score<f)) S)).take (pre (fun y=>decide (y.score≤u)) S-pre (fun y=>decide (y.score<f)) S):=by
  unfold betweenR
  refine sel_part fun k hk=>?_
  have h1:=q1 k hk
  have h2:=q2 k hk
  simp only[decide_eq_true_eq]at h1 h2
  simp only[Bool.and_eq_true,decide_eq_true_eq]
  omega
 refine call_ret (from_calls (K:=pre (fun y=>decide (y.score<f)) S) (E:=pre (fun y=>decide (y.score≤u)) S) (f:=246) (g:=247) (fi:= #[]) (gi:= #[]) (cap:= #[ptr b1]) (gc:= #[ptr b2]) rk2 l1 ?_ ?_) ?_
 ·intro h' k a hc' hk hpos
  obtain⟨j,rfl⟩:∃j,k=j+1:=⟨k-1,by omega⟩
  obtain⟨hj,hje⟩:=List.getElem?_eq_some_iff.1 (nd_of rk.isS hk)
  have h1:=q1 j hj
  rw[hje]at h1
  simp only[decide_eq_true_eq]at h1
  refine f246_calls (by simp) ?_
  intro b3 h3 g3
  refine Ei _ (Ai (cell_blk g3.blk rfl) ?_)
  refine Ei _ (Ai (cell_blk ((B1.chg hc' (by simp)).chg g3.chg (by simp)) rfl) ?_)
  refine Ai rfl (Ai (fun ht=>?_) (fun ht=>?_))
  ·refine Ai ?_ g3.chg
   rw[decide_eq_true (by omega)];rfl
  ·refine Ai ?_ g3.chg
   rw[decide_eq_false (by omega)];rfl
 ·intro h' k a hc' hk
  obtain⟨hj,hje⟩:=List.getElem?_eq_some_iff.1 hk
  have h2:=q2 k hj
  rw[hje]at h2
  simp only[decide_eq_true_eq]at h2
  refine f247_calls (by simp) ?_
  intro b3 h3 g3
  refine Ei _ (Ai (cell_blk g3.blk rfl) ?_)
  refine Ei _ (Ai (cell_blk ((B2.chg hc' (by simp)).chg g3.chg (by simp)) rfl) ?_)
  refine Ai rfl (Ai (fun ht=>?_) (fun ht=>?_))
  ·refine Ai ?_ g3.chg
   rw[decide_eq_true (by omega)];rfl
  ·refine Ai ?_ g3.chg
   rw[decide_eq_false (by omega)];rfl
 ·rintro r h3 ⟨ho,hc3,hb⟩
  rw[e]
  exact Ai ho (Ai (hc.nil hc3) fun b hb'=>by have:=hb b hb';have:=hc.size;omega)
end Go.Proofs.YtjnijlnmbjjgpaaGreatDoor.K5
namespace Go.Proofs.YtjnijlnmbjjgpaaGreatDoor
open Go Go.Sx C
namespace K5
theorem upto_all {x:Rank}:∀{l:List Rank},(∀y∈l,ahead y x=true)→upto x l=l.length
 |[],_=>rfl
 |y::l,h=>by
  have ih:=upto_all (x:=x) (l:=l) fun z hz=>h z (by simp[hz])
  simp only[upto]
  rw[if_pos (h y (by simp)),ih];rfl
theorem ofGo_id:∀{l out:List Rank},(out++l).Pairwise (fun a b=>aheadR a b=true)→((out++l).map Rank.name).Nodup→(out++l).length≤65536→(∀x∈l,x.name.size≤1048576)→ofGo out l=some (out++l)
 |[],out,_,_,_,_=>by simp[ofGo]
 |x::l,out,hs,hn,hl,hz=>by
  have e:out++x::l=(out++[x])++l:=by simp
  have hno:∀y∈out,y.name≠x.name:=fun y hy he=>by
   rw[List.map_append,List.nodup_append]at hn
   exact hn.2.2 y.name (List.mem_map_of_mem hy) x.name (by simp) he
  have hf:findR x.name out 0= -1:=findR_none hno
  have hlen:out.length<65536:=by simp at hl;omega
  have hxz:=hz x (by simp)
  have hse:setErr out x=false:=by
   unfold setErr
   rw[decide_eq_false (by omega),hf,decide_eq_true (by decide),decide_eq_false (by omega)]
   rfl
  have hup:upto x out=out.length:=upto_all fun y hy=>(List.pairwise_append.1 hs).2.2 y hy x (by simp)
  have hset:setR out x=out++[x]:=by
   unfold setR insR
   rw[dropR_none hno,hup,List.take_length,List.drop_length]
  unfold ofGo
  rw[if_neg (by rw[hf];decide),hse,if_neg (by decide),hset,ofGo_id (l:=l) (out:=out++[x]) (by rw[←e];exact hs) (by rw[←e];exact hn) (by rw[←e];exact hl) (fun y hy=>hz y (by simp[hy])),←e]
theorem of_id {l:List Rank} (hs:l.Pairwise (fun a b=>aheadR a b=true)) (hn:(l.map Rank.name).Nodup) (hl:l.length≤65536) (hz:∀x∈l,x.name.size≤1048576):ofErr l=0∧ofR l=l:=by
 have hg:ofGo [] l=some l:=ofGo_id (l:=l) (out:=[]) hs hn hl hz
 have he:ofErr l=0:=by
  unfold ofErr
  rw[if_neg (by omega),if_neg,hg]
  ·rfl
  ·intro h
   obtain⟨x,hx,h⟩:=List.any_eq_true.1 h
   have:=hz x hx
   have:=of_decide_eq_true h
   omega
 refine⟨he,?_⟩
 unfold ofR
 rw[if_pos he,hg];rfl
theorem sel_filter {p:Rank→Bool}:∀{l:List Rank} {i:Nat},sel (fun x _=>p x) l i=l.filter p
 |[],_=>rfl
 |x::l,i=>by
  have ih:=sel_filter (p:=p) (l:=l) (i:=i+1)
  simp only[sel,ih,List.filter_cons]
theorem at_span {l:List Rank} {f u:Nat} (_h1:f≤u) (_h2:u≤l.length):atR f u l=(l.drop f).take (u-f):=by
 have e:atR f u l=(l.drop f).take (u-f):=by
  unfold atR
  refine sel_part fun k hk=>?_
  simp
 exact e
end K5
structure RkOK (l:List Rank):Prop where
 up:l.Pairwise fun a b=>aheadR a b=true
 once:(l.map Rank.name).Nodup
 len:l.length≤2000
 sz:∀x∈l,x.name.size≤2000
 ri:∀x∈l,In64 x.score
theorem rk_find {l a b:List Rank} {y:Rank} {n:ByteArray} (hn:(l.map Rank.name).Nodup) (e:l=a++y::b) (hy:y.name=n):scoreF l n=some y.score∧(l.findIdx? fun r=>decide (r.name=n))=some a.length:=by
 subst e
 have hno:∀x∈a,x.name≠n:=fun x hx he=>by
  rw[List.map_append,List.nodup_append]at hn
  exact hn.2.2 x.name (List.mem_map_of_mem hx) y.name (by simp) (by rw[he,hy])
 constructor
 ·unfold scoreF
  rw[show(a++y::b).find? (fun r=>decide (r.name=n))=some y by
   rw[List.find?_eq_some_iff_append]
   exact⟨decide_eq_true hy,a,b,rfl,fun x hx=>by rw[decide_eq_false (hno x hx)];rfl⟩]
  rfl
 ·rw[List.findIdx?_append,List.findIdx?_eq_none_iff.2 fun x hx=>decide_eq_false (hno x hx),List.findIdx?_cons,if_pos (decide_eq_true hy)]
  simp
theorem rk_none {l:List Rank} {n:ByteArray} (h:∀y∈l,y.name≠n):scoreF l n=none∧(l.findIdx? fun r=>decide (r.name=n))=none:=by
 constructor
 ·unfold scoreF
  rw[List.find?_eq_none.2 fun x hx=>by rw[decide_eq_false (h x hx)];simp];rfl
 ·exact List.findIdx?_eq_none_iff.2 fun x hx=>decide_eq_false (h x hx)
section
variable {h0 h h1 h2 h':Heap} {ab kb sb mb c b1 b2 bs bt mb2:Nat} {now op kd:Int} {av lv pv lw rv fv v:Value} {key why n s:ByteArray} {t:Thing} {is:Bool} {A l pre:List ByteArray} {L:List Eff} {m:List KI} {S:Space} {M:List En} {T:List Nat} {res:Res} {th:ByteArray→Bool} {Z:Heap→Prop}
theorem tab9 (ht:K5.TabH h) (hc:Chg [] h h'):K5.TabH h':=ht.chg hc (by simp)
theorem rk9 (hs9:S9 S) (hi:InS S):RkOK ((getS S key now).getD zeroT).ranks:=by
 have g:=good9 (key:=key) (now:=now) hi
 have t:=hs9.get key now
 exact⟨g.rs,g.once,t.rs,t.rz,t.ri⟩
theorem rof_calls {l:List Rank} (hv:SL encR h rv l) (hr:RkOK l) (ht:K5.TabH h):CallsH Tryz.prog 179 [rv,.slice none 0 0] h (Ret fun r h'=>(∃v fp,r=.tuple #[v,.int .i64 0]∧K5.RS h' v l fp)∧Chg [] h h'):=by
 have hl:=hr.len
 obtain⟨e1,e2⟩:=K5.of_id hr.up hr.once (by omega) (fun x hx=>by have:=hr.sz x hx;omega)
 refine(K5.ofm_calls (cs:=[]) hv SL.nil (by omega) (by simp) ht).mono fun e h' he=>?_
 cases e with
 |panicked ch=>exact he.elim
 |outgrown=>exact he.elim
 |returned u=>
  obtain⟨c,he⟩:=he
  rw[if_pos e1]at he
  obtain⟨v,fp,rfl,rs,_⟩:=he
  rw[e2]at rs
  exact⟨⟨v,fp,rfl,rs⟩,c⟩
theorem score9_calls (hE:(cE ab kb now av key t is pv lw rv lv L).at h) (hr:RkOK t.ranks) (ht:K5.TabH h):
  CallsH Tryz.prog 177 [ptr ab,.string n] h (Ret fun r h'=>r=.tuple #[.int .i64 ((scoreF t.ranks n).getD 0),.bool (scoreF t.ranks n).isSome]∧Chg [] h h'):=by
 have sp:=(thC hE).2.2
 refine f177_calls (by simp) ?_
 refine Ei _ (Ai (cell_blk hE.1 rfl) ?_)
 refine call_ret (rof_calls sp hr ht) ?_
 rintro _ h2 ⟨⟨v,fp,rfl,rs⟩,c2⟩
 refine call_ret (K5.score_calls rs n) ?_
 rintro u h3 ⟨e3,hu⟩
 have e3:=e3.symm
 subst e3
 rcases hu with⟨hno,rfl⟩|⟨a,y,b,e,hy,rfl⟩
 ·rw[(rk_none hno).1]
  exact⟨rfl,c2⟩
 ·rw[(rk_find hr.once e hy).1]
  exact⟨rfl,c2⟩
theorem tc_zadd (hr:RkOK t.ranks):TC ab kb now av t is pv lw rv (fun h=>Blk h b1 [ptr ab]∧K5.TabH h) (.func (.func 176) #[] #[ptr b1]) (thereR t.ranks):=
 ⟨_,_,_,rfl,fun{h s key lv L} hE hZ=>by
  refine f176_calls (by simp) ?_
  refine Ei _ (Ai (cell_blk hZ.1 rfl) ?_)
  refine call_ret (score9_calls hE hr hZ.2) ?_
  rintro _ h2 ⟨rfl,c2⟩
  exact⟨rfl,c2⟩⟩
theorem tc_zrem (hr:RkOK t.ranks):TC ab kb now av t is pv lw rv (fun h=>Blk h b1 [ptr ab]∧K5.TabH h) (.func (.func 178) #[] #[ptr b1]) (thereR t.ranks):=
 ⟨_,_,_,rfl,fun{h s key lv L} hE hZ=>by
  refine f178_calls (by simp) ?_
  refine Ei _ (Ai (cell_blk hZ.1 rfl) ?_)
  refine call_ret (score9_calls hE hr hZ.2) ?_
  rintro _ h2 ⟨rfl,c2⟩
  exact⟨rfl,c2⟩⟩
theorem num9_ret {j:Nat} (p:P9 h0 kb sb mb c m S av A) (hE:(cE ab kb now av key t is pv lw rv lv L).at h) (hc:Chg [] h0 h) (hl:LaidN h0) (hj:A[j]? =some s) (hs:s.size<281474976710656) {z:Int} (hz:numOf s=some z):
  CallsH Tryz.prog 163 [ptr ab,.int .i64 j] h (Ret fun r h'=>r=.int .i64 z∧Chg [] h h'):=by
 obtain⟨b,o,cc,rfl⟩:=p.argF (by have:=(List.getElem?_eq_some_iff.1 hj).1;omega)
 refine f163_calls (by simp) ?_
 refine Ei _ (Ai (cell_blk hE.1 rfl) ?_)
 refine p.ix hc j rfl hj ?_
 obtain⟨⟨l⟩⟩:=s
 refine call_ret (bnum_calls (hl.ext hc) hs) ?_
 rintro _ h1 ⟨rfl,c1⟩
 rw[show Num.num l=some z from hz]
 exact must9_yes fun _=>⟨rfl,c1⟩
theorem scored_some:∀{l:List (ByteArray×ByteArray)},(∀p∈l,(numOf p.1).isSome=true)→∃r,scored l=some r
 |[],_=>⟨[],rfl⟩
 |(s,n)::l,h=>by
  obtain⟨z,hz⟩:=Option.isSome_iff_exists.1 (h (s,n) (by simp))
  obtain⟨r,hr⟩:=scored_some (l:=l) fun p hp=>h p (by simp[hp])
  refine⟨(z,n)::r,?_⟩
  simp only[scored]
  have hz:numOf s=some z:=hz
  rw[hz,hr]
theorem scored_len:∀{l:List (ByteArray×ByteArray)} {r:List (Int×ByteArray)},scored l=some r→r.length=l.length
 |[],r,h=>by cases h;rfl
 |(s,n)::l,r,h=>by
  simp only[scored]at h
  split at h
  ·rename_i z r' hz hr
   cases h
   show r'.length+1=l.length+1
   rw[scored_len hr]
  ·cases h
theorem scored_none:∀{l:List (ByteArray×ByteArray)} {p:ByteArray×ByteArray},p∈l→numOf p.1=none→scored l=none
 |(s,n)::l,p,hp,h=>by
  simp only[scored]
  rcases List.mem_cons.1 hp with rfl|hp
  ·have h:numOf s=none:=h
   rw[h]
  ·rw[scored_none hp h]
   cases numOf s<;>rfl
theorem scored_get:∀{l:List (ByteArray×ByteArray)} {r:List (Int×ByteArray)} {q:Nat} {s n:ByteArray},scored l=some r→l[q]? =some (s,n)→∃z,numOf s=some z∧r[q]? =some (z,n)
 |(s,n)::l,r,q,s',n',h,hq=>by
  simp only[scored]at h
  split at h
  ·rename_i z r' hz hr
   cases h
   cases q with
   |zero=>
    simp at hq
    obtain⟨rfl,rfl⟩:=hq
    exact⟨z,hz,rfl⟩
   |succ q=>
    obtain⟨z',h1,h2⟩:=scored_get (q:=q) hr (by simpa using hq)
    exact⟨z',h1,by simpa using h2⟩
  ·cases h
theorem numbers9_calls {k0:ByteArray} (p:P9 h0 kb sb mb c m S av (k0::l)) (hl:LaidN h0) (hev:l.length%2=0) (hlen:l.length<65536) (hA:∀a∈k0::l,a.size<281474976710656) (x:As h0 h (cE ab kb now av key t is pv lw rv lv L)):
  CallsH Tryz.prog 175 [ptr ab,.int .i64 1] h (Sub9 h0 h (cE ab kb now av key t is pv lw rv lv L) (fun _ e'=>(∃r,scored (twos l)=some r)∧e'=cE ab kb now av key t is pv lw rv lv L) (fun why=>scored (twos l)=none∧why=wNum)):=by
 obtain⟨ba,oa,ac,rfl⟩:=p.argF (by simp)
 have hlc:(k0::l).length=l.length+1:=rfl
 have hhalf:=twos_half (Nat.le_refl l.length)
 refine f175_calls (by simp) ?_
 have w:=x.st
 refine loop_intro (fun q:Nat=>[(0,ptr ab),(4,.int .i64 (2*q+1:Nat))])
  (fun q h'=>(2*q≤l.length∧∀p∈(twos l).take q,(numOf p.1).isSome=true)∧St (cE ab kb now (.slice (some ⟨ba,oa,none⟩) (k0::l).length ac) key t is pv lw rv lv L).fp h h' [cE ab kb now (.slice (some ⟨ba,oa,none⟩) (k0::l).length ac) key t is pv lw rv lv L])
  (fun q=>l.length-2*q) 0 ⟨rfl,rfl,trivial⟩ ⟨⟨Nat.zero_le _,by simp⟩,w⟩ ?_
 rintro q h1 ⟨⟨hq,hsm⟩,w⟩
 refine w.ldc 0 rfl rfl ?_
 refine Ai rfl (Ai (fun hlt=>?_) (fun hge=>?_))
 ·have hlt1:2*q+1<l.length:=by omega
  have htg:=twos_get hlt1
  have hq2:q<(twos l).length:=by omega
  obtain⟨nm,hnm⟩:∃nm,nm=l[2*q]:=⟨_,rfl⟩
  obtain⟨tx,htx⟩:∃tx,tx=l[2*q+1]:=⟨_,rfl⟩
  rw[←hnm,←htx]at htg
  have hn1:nm∈l:=by rw[hnm];exact List.getElem_mem _
  have hn:(k0::l)[2*q+1]? =some nm:=by rw[hnm];simp
  have htk:(twos l).take (q+1)=(twos l).take q++[(nm,tx)]:=by
   rw[List.take_succ_eq_append_getElem hq2]
   have:=(List.getElem?_eq_some_iff.1 htg).2
   rw[this]
  refine sub9_go (i:=0) x w rfl (fun x=>num9_calls (j:=2*q+1) p x hl hn (hA nm (by simp[hn1]))) ?_ ?_
  rotate_left
  ·rintro why h3 ⟨hB,rfl⟩ c3
   exact⟨_,rfl,⟨scored_none (List.mem_of_getElem? htg) hB,rfl⟩,c3⟩
  rintro _ h3 _ ⟨z9,hz9,rfl,rfl⟩ w
  refine Ai rfl (fun z hz=>?_)
  have hz:=add_in hz (by omega) (by omega)
  subst hz
  refine Ai rfl (Ei (q+1) (Ai ⟨rfl,rfl,trivial⟩ (Ai ⟨⟨by omega,fun pr hpr=>?_⟩,w⟩ (by omega))))
  rw[htk,List.mem_append]at hpr
  rcases hpr with hpr|hpr
  ·exact hsm pr hpr
  ·rw[List.mem_singleton.1 hpr]
   show(numOf nm).isSome=true
   rw[hz9];rfl
 ·have hqt:q=(twos l).length:=by omega
  rw[hqt,List.take_length]at hsm
  exact⟨_,⟨scored_some hsm,rfl⟩,x.out w 0 rfl⟩
set_option maxHeartbeats 2000000 in
theorem zadd9 (p:P9 h0 kb sb mb c m S av A) (hs9:S9 S) (hi:InS S) (hl:LaidN h0) (ht9:K5.TabH h0) (hA:∀a∈A,a.size<281474976710656) (x:As h0 h (c0 ab kb now av)):CallsH Tryz.prog 101 [ptr ab] h (Cmd9 h0 h ab kb now av (cZadd S now A)):=by
 refine f101_calls (by simp) ?_
 intro b1 h1 g1
 have w:=x.st.new g1
 intro b2 h2 g2
 have w:=w.new g2
 refine w.ld1 1 rfl rfl ?_
 refine sub9_go (i:=2) x w rfl (fun x=>many9_calls p (by decide) x) ?_ ?_
 rotate_left
 ·rintro why h3 ⟨hB,rfl⟩ c3
  refine bad9 ?_ c3
  cases A with
  |nil=>rfl
  |cons k0 l=>exact if_neg fun hh=>hB ⟨by simp;omega,by simp;omega⟩
 rintro _ h3 _ ⟨hb,k0,hk0,rfl⟩ w
 obtain⟨k9,l,rfl⟩:=cons_of (by decide) hb.1
 cases hk0
 obtain⟨ba,oa,ac,rfl⟩:=p.argF (by simp)
 refine w.ld1 1 rfl rfl ?_
 refine w.ldc 2 rfl rfl ?_
 refine Ai rfl (Ai (by decide) (fun z hz=>?_))
 have hz:z=(((k0::l).length%2:Nat):Int):=by rw[hz];exact(Int.ofNat_tmod (k0::l).length 2).symm
 subst hz
 have hlc:(k0::l).length=l.length+1:=rfl
 refine Ai rfl (Ai (fun hodd=>?_) (fun hev=>must9_no (bad9 (if_neg fun hh=>hev (by omega)) w.chg)))
 refine must9_yes fun _=>?_
 have hc9:2≤l.length∧l.length<65536∧l.length%2=0:=⟨by omega,by omega,by omega⟩
 refine w.ld1 1 rfl rfl ?_
 refine sub9_go (i:=2) x w rfl (fun x=>numbers9_calls p hl hc9.2.2 hc9.2.1 hA x) ?_ ?_
 rotate_left
 ·rintro why h4 ⟨hB,rfl⟩ c4
  refine bad9 ((if_pos hc9).trans ?_) c4
  rw[hB]
 rintro _ h4 _ ⟨⟨rr,hrr⟩,rfl⟩ w
 have hnn:cZadd S now (k0::l)=kindly S now 5 k0 (fun t=>makes S now k0 (t.ranks.length+(newL (thereR t.ranks) [] (rr.map Prod.snd)).length) ((rr.map Prod.snd).all small) (numR (newL (thereR t.ranks) [] (rr.map Prod.snd)).length) (rr.map fun p=>rankE k0 p.2 p.1)):=
  (show cZadd S now (k0::l)=if 2≤l.length∧l.length<65536∧l.length%2=0 then _ else _ from rfl).trans ((if_pos hc9).trans (by rw[hrr]))
 refine w.ld1 1 rfl rfl ?_
 refine sub9_go (i:=2) x w rfl (fun x=>of9_calls p x) ?_ ?_
 rotate_left
 ·rintro why h4 ⟨hB,rfl⟩ c4
  exact bad9 (hnn.trans (kindly_no hB)) c4
 rintro _ h4 _ ⟨hk,p2,w2,r2,rfl⟩ w
 have hrk:=rk9 (key:=k0) (now:=now) hs9 hi
 have htl:=hrk.len
 have hk9:=hA k0 (by simp)
 have he:=hnn.trans (kindly_ok hk)
 clear hnn
 generalize (getS S k0 now).getD zeroT=t at*
 obtain⟨pa,pc,rfl,_⟩:=(w.thc 2 rfl).2.2.form
 obtain⟨names,hnames⟩:∃names,names=rr.map Prod.snd:=⟨_,rfl⟩
 obtain⟨D,hDe⟩:∃D,D=rr.map fun p=>rankE k0 p.2 p.1:=⟨_,rfl⟩
 have hrl:rr.length=(twos l).length:=scored_len hrr
 have he:cZadd S now (k0::l)=makes S now k0 (t.ranks.length+(newL (thereR t.ranks) [] names).length) (names.all small) (numR (newL (thereR t.ranks) [] names).length) D:=by rw[he,hnames,hDe]
 have hhalf:=twos_half (Nat.le_refl l.length)
 have hnl:names.length=(twos l).length:=by rw[hnames,List.length_map];exact hrl
 have hDl:D.length=(twos l).length:=by rw[hDe,List.length_map];exact hrl
 have hD9:D≠[]:=fun e=>by rw[e]at hDl;simp at hDl;omega
 have hnle:=fun q=>newL_le (th:=thereR t.ranks) (l:=names) q
 refine call_ret fresh9_calls ?_
 rintro _ h5 ⟨⟨bs,mb2,bt,rfl,hf,hfb⟩,c5⟩
 have w:=w.add (e:=frE bs mb2 bt (.func (.func 176) #[] #[ptr b1]) []) c5 hf (fun b hb=>hfb b (by simpa[frE,En.fp]using hb))
 refine loop_intro (fun q:Nat×Nat×Value=>[(1,ptr b1),(2,ptr b2),(3,.int .i64 q.2.1),(4,.func (.func 228) #[] #[ptr bs,ptr bt]),(5,.int .i64 (2*q.1+1:Nat))])
  (fun q h'=>(2*q.1≤l.length∧q.2.1=(newL (thereR t.ranks) [] (names.take q.1)).length∧(0<q.1→((t.ranks.length:Int)+q.2.1≤65536∧k0.size≤1048576))∧(names.take q.1).all small=true)∧
   St (c0 ab kb now (.slice (some ⟨ba,oa,none⟩) (k0::l).length ac)).fp h h' [frE bs mb2 bt (.func (.func 176) #[] #[ptr b1]) (names.take q.1),.b b2 [.int .i64 0,.int .i64 0,.string ⟨#[]⟩,.slice none 0 0],.b b1 [ptr ab],
    cE ab kb now (.slice (some ⟨ba,oa,none⟩) (k0::l).length ac) k0 t (getS S k0 now).isSome p2 w2 (.slice pa t.ranks.length pc) q.2.2 (accE S k0 now D q.1)])
  (fun q=>l.length-2*q.1) (0,0,nilV) ⟨rfl,rfl,rfl,rfl,rfl,trivial⟩ ⟨⟨Nat.zero_le _,rfl,fun h9=>absurd h9 (by simp),rfl⟩,w⟩ ?_
 rintro⟨q,n,lv⟩ h6 ⟨⟨hq,hn0,hfits,hsm⟩,w⟩
 replace hq:2*q≤l.length:=hq
 replace hn0:n=(newL (thereR t.ranks) [] (names.take q)).length:=hn0
 replace hfits:0<q→((t.ranks.length:Int)+n≤65536∧k0.size≤1048576):=hfits
 replace hsm:(names.take q).all small=true:=hsm
 have hnq:n≤q:=by
  have h1:=newL_len (th:=thereR t.ranks) (l:=names.take q) (pre:=[])
  rw[List.length_take]at h1
  omega
 refine w.ld1 2 rfl rfl ?_
 refine w.ldc 3 rfl rfl ?_
 refine Ai rfl (Ai (fun hlt=>?_) (fun hge=>?_))
 ·have hlt1:2*q+1<l.length:=by omega
  have htg:=twos_get hlt1
  have hq2:q<(twos l).length:=by omega
  obtain⟨nm,hnm⟩:∃nm,nm=l[2*q]:=⟨_,rfl⟩
  obtain⟨tx,htx⟩:∃tx,tx=l[2*q+1]:=⟨_,rfl⟩
  rw[←hnm,←htx]at htg
  have hn1:nm∈l:=by rw[hnm];exact List.getElem_mem _
  have ht1:tx∈l:=by rw[htx];exact List.getElem_mem _
  have hn:(k0::l)[2*q+1]? =some nm:=by rw[hnm];simp
  have ht:(k0::l)[2*q+2]? =some tx:=by rw[htx];simp
  clear hnm htx
  have hz1:=hA nm (by simp[hn1])
  have hz2:=hA tx (by simp[ht1])
  obtain⟨sc,hsc,hrg⟩:=scored_get hrr htg
  have hD:D[q]? =some {(⟨14,noText,tx,noText,sc⟩:Eff)with key:=k0}:=by rw[hDe,List.getElem?_map,hrg];rfl
  have hal:=acc_len (S:=S) (key:=k0) (now:=now) D q (by omega)
  have hqn:q<names.length:=by omega
  have hnq8:names[q]? =some tx:=by rw[hnames,List.getElem?_map,hrg];rfl
  have hnq9:names[q]=tx:=(List.getElem?_eq_some_iff.1 hnq8).2
  have hnin:tx∈names:=List.mem_of_getElem? hnq8
  have htk2:names.take (q+1)=names.take q++[tx]:=by rw[List.take_succ_eq_append_getElem hqn,hnq9]
  refine w.ld1 2 rfl rfl ?_
  refine w.ldc 3 rfl rfl ?_
  refine Ai rfl (fun z hz=>?_)
  have hz:=add_in hz (by simp only;omega) (by simp only;omega)
  subst hz
  refine p.ix (x.base w) (2*q+2) rfl ht ?_
  refine w.fresh 0 3 rfl rfl (by decide) (tc_zadd hrk) (fun h9 c9=>⟨fr_box w 0 2 rfl rfl (by decide) h9 c9,tab9 ht9 (x.base (w.set (e':=En.nil) 0 rfl c9 (fun b hb=>.inl (by simp at hb;simp[frE,En.fp,hb])) trivial (fun b hb=>(nomatch (show b∈([]:List Nat)from hb)))))⟩) (by rw[List.length_take];omega) fun h7 w=>?_
  obtain⟨bb,hbb⟩:∃bb,bb=(!thereR t.ranks tx&&decide (tx∉names.take q)):=⟨_,rfl⟩
  have hcnt:=newL_cnt (th:=thereR t.ranks) hqn (b:=bb) (by rw[hnq9];exact hbb)
  have hcl:=hnle (q+1)
  rw[←hbb]
  cases bb with
  |true=>
   have hcnt:(newL (thereR t.ranks) [] (names.take (q+1))).length=n+1:=by rw[hcnt,hn0];rfl
   refine Ai rfl (fun z hz=>?_)
   have hz:=add_in hz (by simp only;omega) (by simp only;omega)
   subst hz
   refine w.ld1 2 rfl rfl ?_
   refine w.ld1 2 rfl rfl ?_
   refine w.ldc 3 rfl rfl ?_
   refine Ai rfl (fun z hz=>?_)
   have hz:=add_in hz (by simp only;omega) (by simp only;omega)
   subst hz
   refine p.ix (x.base w) (2*q+2) rfl ht ?_
   refine w.ld1 2 rfl rfl ?_
   refine w.ld1 2 rfl rfl ?_
   refine w.ldc 3 rfl rfl ?_
   refine Ai rfl (fun z hz=>?_)
   have hz:z=(t.ranks.length:Int)+(n+1:Nat):=hz.trans (wrap_in (by simp only;omega) (by simp only;omega))
   subst hz
   refine w.callqv (num9_ret p (w.get 3 rfl) (x.base w) hl hn hz1 hsc) fun h7 w=>?_
   refine sub9_go (i:=3) x w rfl (fun x=>put9_calls p ⟨14,noText,tx,noText,sc⟩ x (by simp only;omega) (by omega) (by show tx.size<_;omega) (by show noText.size<_;decide)) ?_ ?_
   rotate_left
   ·rintro why h5 ⟨hB,rfl⟩ c5
    refine bad9 (he.trans (mkNo9 ?_)) c5
    rintro⟨m1,m2,m3⟩
    exact hB ⟨by omega,m2,small_of9 m3 hnin,by show noText.size≤_;decide⟩
   rintro _ h5 _ ⟨hfit,lv5,rfl⟩ w
   rw[acc_put hD]at w
   refine Ai rfl (fun z hz=>?_)
   have hz:=add_in hz (by simp only;omega) (by simp only;omega)
   subst hz
   refine Ai rfl (Ei (q+1,n+1,lv5) (Ai ⟨rfl,rfl,rfl,rfl,rfl,trivial⟩ (Ai ⟨⟨by omega,by rw[hcnt],fun _=>⟨?_,hfit.2.1⟩,?_⟩,?_⟩ (by simp only;omega))))
   ·have:=hfit.1
    push_cast at this⊢
    omega
   ·rw[htk2,List.all_append,hsm]
    simp[small]
    exact hfit.2.2.1
   ·rw[htk2];exact w
  |false=>
   have hcnt:(newL (thereR t.ranks) [] (names.take (q+1))).length=n:=by rw[hcnt,hn0];rfl
   refine w.ld1 2 rfl rfl ?_
   refine w.ld1 2 rfl rfl ?_
   refine w.ldc 3 rfl rfl ?_
   refine Ai rfl (fun z hz=>?_)
   have hz:=add_in hz (by simp only;omega) (by simp only;omega)
   subst hz
   refine p.ix (x.base w) (2*q+2) rfl ht ?_
   refine w.ld1 2 rfl rfl ?_
   refine w.ld1 2 rfl rfl ?_
   refine w.ldc 3 rfl rfl ?_
   refine Ai rfl (fun z hz=>?_)
   have hz:z=(t.ranks.length:Int)+(n:Nat):=hz.trans (wrap_in (by simp only;omega) (by simp only;omega))
   subst hz
   refine w.callqv (num9_ret p (w.get 3 rfl) (x.base w) hl hn hz1 hsc) fun h7 w=>?_
   refine sub9_go (i:=3) x w rfl (fun x=>put9_calls p ⟨14,noText,tx,noText,sc⟩ x (by simp only;omega) (by omega) (by show tx.size<_;omega) (by show noText.size<_;decide)) ?_ ?_
   rotate_left
   ·rintro why h5 ⟨hB,rfl⟩ c5
    refine bad9 (he.trans (mkNo9 ?_)) c5
    rintro⟨m1,m2,m3⟩
    exact hB ⟨by omega,m2,small_of9 m3 hnin,by show noText.size≤_;decide⟩
   rintro _ h5 _ ⟨hfit,lv5,rfl⟩ w
   rw[acc_put hD]at w
   refine Ai rfl (fun z hz=>?_)
   have hz:=add_in hz (by simp only;omega) (by simp only;omega)
   subst hz
   refine Ai rfl (Ei (q+1,n,lv5) (Ai ⟨rfl,rfl,rfl,rfl,rfl,trivial⟩ (Ai ⟨⟨by omega,by rw[hcnt],fun _=>⟨?_,hfit.2.1⟩,?_⟩,?_⟩ (by simp only;omega))))
   ·have:=hfit.1
    push_cast at this⊢
    omega
   ·rw[htk2,List.all_append,hsm]
    simp[small]
    exact hfit.2.2.1
   ·rw[htk2];exact w
 ·have hql:2*q=l.length:=by omega
  have hqt:q=(twos l).length:=by omega
  have hnf:n=(newL (thereR t.ranks) [] names).length:=by rw[hn0,List.take_of_length_le (by omega)]
  refine w.callv number9_calls fun h7 w=>?_
  refine w.st1 1 rfl rfl rfl rfl fun h8 w=>?_
  refine fin9 x w 1 3 rfl rfl ?_
  rw[he,mkOk9 ⟨by have:=(hfits (by omega)).1;omega,(hfits (by omega)).2,by rw[←List.take_of_length_le (l:=names) (i:=q) (by omega)];exact hsm⟩,hqt,←hDl,acc_all hD9,hnf]
  rfl
theorem zrem9 (p:P9 h0 kb sb mb c m S av A) (hs9:S9 S) (hi:InS S) (ht:K5.TabH h0) (x:As h0 h (c0 ab kb now av)):CallsH Tryz.prog 102 [ptr ab] h (Cmd9 h0 h ab kb now av (cZrem S now A)):=by
 refine f102_calls (by simp) ?_
 intro b1 h1 g1
 have w:=x.st.new g1
 intro b2 h2 g2
 have w:=w.new g2
 refine w.ld1 1 rfl rfl ?_
 refine sub9_go (i:=2) x w rfl (fun x=>begin9_calls p (by decide) x) ?_ ?_
 rotate_left
 ·rintro why h2 hB c2
  exact bad9 (no_away (f:=fun key l t=>.ok (numR (hereL (thereR t.ranks) l).length,(hereL (thereR t.ranks) l).map (unrankE key))) hB (fun _ _=>rfl) rfl) c2
 rintro _ h3 _ ⟨hb,k0,hk0,hk,p2,w2,r2,rfl⟩ w
 obtain⟨k9,l,rfl⟩:=cons_of (by decide) hb.1
 cases hk0
 have hlc:(k0::l).length=l.length+1:=rfl
 have hc9:1≤l.length∧l.length<65536:=⟨by omega,by omega⟩
 have hrk:=rk9 (key:=k0) (now:=now) hs9 hi
 have he:cZrem S now (k0::l)=_:=(show cZrem S now (k0::l)=if 1≤l.length∧l.length<65536 then kindly S now 5 k0 (fun t=>.ok (numR (hereL (thereR t.ranks) l).length,(hereL (thereR t.ranks) l).map (unrankE k0)))else .error wArgs from rfl).trans ((if_pos hc9).trans (kindly_ok hk))
 generalize (getS S k0 now).getD zeroT=t at*
 refine w.ld1 1 rfl rfl ?_
 have C3:=x.base w
 have x3:=(x.out w 2 rfl).1
 refine call_ret (away9_calls p hc9 x3 (tc_zrem (b1:=b1) hrk) (fun h9 c9=>⟨Blk.chg (w.get 1 rfl) c9 (fun hm=>w.apart 1 2 _ _ rfl rfl (by decide) b1 (by simp[En.fp]) hm),tab9 ht (C3.fresh c9 x3.fresh)⟩)) ?_
 rintro _ h5 ⟨rfl,lv5,_,o5⟩
 have w:=w.own 2 rfl o5
 refine w.st1 0 rfl rfl rfl rfl fun h6 w=>?_
 exact fin9 x w 0 2 rfl rfl he
theorem zcard9 (p:P9 h0 kb sb mb c m S av A) (x:As h0 h (c0 ab kb now av)):CallsH Tryz.prog 105 [ptr ab] h (Cmd9 h0 h ab kb now av (cZcard S now A)):=by
 refine f105_calls (by simp) ?_
 intro b2 h1 g1
 have w:=x.st.new g1
 refine sub9_go (i:=1) x w rfl (fun x=>begin9_calls p (by decide) x) ?_ ?_
 rotate_left
 ·rintro why h2 hB c2
  exact bad9 (NoB.a1 (f:=fun _ t=>.ok (numR t.ranks.length,[])) hB) c2
 rintro _ h2 _ ⟨hb,k0,hk0,hk,p2,w2,r2,rfl⟩ w
 obtain⟨k9,rfl⟩:=one_arg hb
 cases hk0
 obtain⟨la,lc,rfl,_⟩:=(w.thc 1 rfl).2.2.form
 refine w.ldc 1 rfl rfl ?_
 refine w.callv number9_calls fun h3 w=>?_
 refine w.st1 0 rfl rfl rfl rfl fun h4 w=>?_
 have he:cZcard S now [k0]=_:=(show cZcard S now [k0]=kindly S now 5 k0 (fun t=>.ok (numR t.ranks.length,[]))from rfl).trans (kindly_ok hk)
 exact fin9 x w 0 1 rfl rfl he
theorem zscore9 (p:P9 h0 kb sb mb c m S av A) (hs9:S9 S) (hi:InS S) (hl:LaidN h0) (ht:K5.TabH h0) (x:As h0 h (c0 ab kb now av)):CallsH Tryz.prog 103 [ptr ab] h (Cmd9 h0 h ab kb now av (cZscore S now A)):=by
 refine f103_calls (by simp) ?_
 intro b2 h1 g1
 have w:=x.st.new g1
 refine sub9_go (i:=1) x w rfl (fun x=>begin9_calls p (by decide) x) ?_ ?_
 rotate_left
 ·rintro why h2 hB c2
  exact bad9 (NoB.a2 (f:=fun _ n t=>match scoreF t.ranks n with
   |some z=>.ok (textR ⟨⟨Lib.itoa z⟩⟩,[])
   |none=>.ok (nilR,[])) hB) c2
 rintro _ h2 _ ⟨hb,k0,hk0,hk,p2,w2,r2,rfl⟩ w
 obtain⟨k9,n,rfl⟩:=two_arg hb
 cases hk0
 have he:cZscore S now [k0,n]=_:=(show cZscore S now [k0,n]=kindly S now 5 k0 (fun t=>match scoreF t.ranks n with
   |some z=>.ok (textR ⟨⟨Lib.itoa z⟩⟩,[])
   |none=>.ok (nilR,[]))from rfl).trans (kindly_ok hk)
 have hrk:=rk9 (key:=k0) (now:=now) hs9 hi
 generalize (getS S k0 now).getD zeroT=t at*
 obtain⟨b,o,cc,rfl⟩:=p.argF (by simp)
 refine w.ldc 1 rfl rfl ?_
 refine p.ix (x.base w) 1 rfl rfl ?_
 refine w.callv (score9_calls (w.get 1 rfl) hrk (tab9 ht (x.base w))) fun h3 w=>?_
 have hin:∀z,scoreF t.ranks n=some z→In64 z:=fun z hz=>by
  unfold scoreF at hz
  obtain⟨r,hr,rfl⟩:=Option.map_eq_some_iff.1 hz
  exact hrk.ri r (List.mem_of_find?_eq_some hr)
 generalize scoreF t.ranks n=fo at he hin⊢
 cases fo with
 |none=>
  refine w.st1 0 rfl rfl rfl rfl fun h4 w=>?_
  exact fin9 x w 0 1 rfl rfl he
 |some z=>
  have hz:=hin z rfl
  refine w.callv (format_calls (n:=z) (hl.ext (x.base w)) hz.1 hz.2) fun h4 w=>?_
  refine w.callv text9_calls fun h4 w=>?_
  refine w.st1 0 rfl rfl rfl rfl fun h5 w=>?_
  exact fin9 x w 0 1 rfl rfl he
theorem zrank9 (p:P9 h0 kb sb mb c m S av A) (hs9:S9 S) (hi:InS S) (ht:K5.TabH h0) (x:As h0 h (c0 ab kb now av)):CallsH Tryz.prog 106 [ptr ab] h (Cmd9 h0 h ab kb now av (cZrank S now A)):=by
 refine f106_calls (by simp) ?_
 intro b2 h1 g1
 have w:=x.st.new g1
 refine sub9_go (i:=1) x w rfl (fun x=>begin9_calls p (by decide) x) ?_ ?_
 rotate_left
 ·rintro why h2 hB c2
  exact bad9 (NoB.a2 (f:=fun _ n t=>match t.ranks.findIdx? fun r=>decide (r.name=n)with
   |some i=>.ok (numR i,[])
   |none=>.ok (nilR,[])) hB) c2
 rintro _ h2 _ ⟨hb,k0,hk0,hk,p2,w2,r2,rfl⟩ w
 obtain⟨k9,n,rfl⟩:=two_arg hb
 cases hk0
 have he:cZrank S now [k0,n]=_:=(show cZrank S now [k0,n]=kindly S now 5 k0 (fun t=>match t.ranks.findIdx? fun r=>decide (r.name=n)with
   |some i=>.ok (numR i,[])
   |none=>.ok (nilR,[]))from rfl).trans (kindly_ok hk)
 have hrk:=rk9 (key:=k0) (now:=now) hs9 hi
 generalize (getS S k0 now).getD zeroT=t at*
 obtain⟨b,o,cc,rfl⟩:=p.argF (by simp)
 refine w.ldc 1 rfl rfl ?_
 refine call_ret (rof_calls (w.thc 1 rfl).2.2 hrk (tab9 ht (x.base w))) ?_
 rintro _ h3 ⟨⟨v,fp,rfl,rs⟩,c3⟩
 have w:=w.ext c3
 refine w.ldc 1 rfl rfl ?_
 refine p.ix (x.base w) 1 rfl rfl ?_
 refine call_ret (K5.rank_calls rs n) ?_
 rintro u h4 ⟨c4,hu⟩
 have w:=w.ext c4
 rcases hu with⟨hno,rfl⟩|⟨a,y,b,e,hy,rfl⟩
 ·rw[(rk_none hno).2]at he
  refine w.st1 0 rfl rfl rfl rfl fun h4 w=>?_
  exact fin9 x w 0 1 rfl rfl he
 ·rw[(rk_find hrk.once e hy).2]at he
  refine w.callv number9_calls fun h4 w=>?_
  refine w.st1 0 rfl rfl rfl rfl fun h5 w=>?_
  exact fin9 x w 0 1 rfl rfl he
theorem names_flat (l:List Rank):qs (l.flatMap fun r=>[r.name])=(l.map Rank.name).map toQ:=by
 induction l with
 |nil=>rfl
 |cons r l ih=>
  unfold qs at ih⊢
  rw[List.flatMap_cons,List.map_append,ih]
  rfl
theorem zrange9 (p:P9 h0 kb sb mb c m S av A) (hs9:S9 S) (hi:InS S) (hl:LaidN h0) (ht:K5.TabH h0) (hA:∀a∈A,a.size<281474976710656) (x:As h0 h (c0 ab kb now av)):CallsH Tryz.prog 107 [ptr ab] h (Cmd9 h0 h ab kb now av (cZrange S now A)):=by
 refine f107_calls (by simp) ?_
 intro b2 h1 g1
 have w:=x.st.new g1
 refine sub9_go (i:=1) x w rfl (fun x=>many9_calls p (by decide) x) ?_ ?_
 rotate_left
 ·rintro why h2 ⟨hB,rfl⟩ c2
  exact bad9 (arg3_bad hB) c2
 rintro _ h2 _ ⟨hb,k0,hk0,rfl⟩ w
 obtain⟨k9,s,u,rfl⟩:=three_arg hb
 cases hk0
 refine sub9_go (i:=1) x w rfl (fun x=>num9_calls (j:=1) p x hl rfl (hA s (by simp))) ?_ ?_
 rotate_left
 ·rintro why h3 ⟨hB,rfl⟩ c3
  refine bad9 ?_ c3
  show numbered s _=_
  unfold numbered
  rw[hB]
 rintro _ h3 _ ⟨n,hn,rfl,rfl⟩ w
 have hnn:∀f,numbered s f=f n:=fun f=>by unfold numbered;rw[hn]
 refine sub9_go (i:=1) x w rfl (fun x=>num9_calls (j:=2) p x hl rfl (hA u (by simp))) ?_ ?_
 rotate_left
 ·rintro why h3 ⟨hB,rfl⟩ c3
  refine bad9 ((hnn _).trans ?_) c3
  show numbered u _=_
  unfold numbered
  rw[hB]
 rintro _ h3 _ ⟨n2,hn2,rfl,rfl⟩ w
 have hnn2:∀f,numbered u f=f n2:=fun f=>by unfold numbered;rw[hn2]
 refine sub9_go (i:=1) x w rfl (fun x=>of9_calls p x) ?_ ?_
 rotate_left
 ·rintro why h4 ⟨hB,rfl⟩ c4
  exact bad9 ((hnn _).trans ((hnn2 _).trans (kindly_no hB))) c4
 rintro _ h4 _ ⟨hk,p2,w2,r2,rfl⟩ w
 have hrk:=rk9 (key:=k0) (now:=now) hs9 hi
 have hrl:=hrk.len
 have he:cZrange S now [k0,s,u]=_:=(hnn _).trans ((hnn2 _).trans (kindly_ok hk))
 generalize (getS S k0 now).getD zeroT=t at*
 have hsv:=(w.thc 1 rfl).2.2
 obtain⟨la,lc,rfl,_⟩:=hsv.form
 refine w.ldc 1 rfl rfl ?_
 refine callp (span_calls (by omega) (numOf_in hn) (numOf_in hn2)) ?_
 have hsp:=spanN_le t.ranks.length n n2
 refine w.ldc 1 rfl rfl ?_
 refine call_ret (rof_calls (w.thc 1 rfl).2.2 hrk (tab9 ht (x.base w))) ?_
 rintro _ h3 ⟨⟨v,fp,rfl,rs⟩,c3⟩
 have w:=w.ext c3
 refine call_ret (K5.atm_calls rs _ _) ?_
 rintro r h4 ⟨ol4,c4,_⟩
 have w:=w.ext c4
 rw[K5.at_span hsp.1 hsp.2]at ol4
 refine call_ret (listRank_calls ol4.sl (by rw[List.length_take,List.length_drop];omega)) ?_
 rintro _ h5 ⟨⟨ra,rn,rc,rfl,ol,fr⟩,c5⟩
 have hz:=w.size
 have w:=w.add (e:=.o encQ 4 (.slice ra rn rc) _) c5 ol fr
 refine w.st1 1 rfl rfl rfl rfl fun h6 w=>?_
 refine finl9 x w 1 2 0 rfl rfl rfl (fun b hb=>by have:=fr b hb;omega) ?_
 rw[he,names_flat]
 rfl
theorem zby9 (p:P9 h0 kb sb mb c m S av A) (hs9:S9 S) (hi:InS S) (hl:LaidN h0) (ht:K5.TabH h0) (hA:∀a∈A,a.size<281474976710656) (x:As h0 h (c0 ab kb now av)):CallsH Tryz.prog 108 [ptr ab] h (Cmd9 h0 h ab kb now av (cZby S now A)):=by
 refine f108_calls (by simp) ?_
 intro b2 h1 g1
 have w:=x.st.new g1
 refine sub9_go (i:=1) x w rfl (fun x=>many9_calls p (by decide) x) ?_ ?_
 rotate_left
 ·rintro why h2 ⟨hB,rfl⟩ c2
  exact bad9 (arg3_bad hB) c2
 rintro _ h2 _ ⟨hb,k0,hk0,rfl⟩ w
 obtain⟨k9,s,u,rfl⟩:=three_arg hb
 cases hk0
 refine sub9_go (i:=1) x w rfl (fun x=>num9_calls (j:=1) p x hl rfl (hA s (by simp))) ?_ ?_
 rotate_left
 ·rintro why h3 ⟨hB,rfl⟩ c3
  refine bad9 ?_ c3
  show numbered s _=_
  unfold numbered
  rw[hB]
 rintro _ h3 _ ⟨n,hn,rfl,rfl⟩ w
 have hnn:∀f,numbered s f=f n:=fun f=>by unfold numbered;rw[hn]
 refine sub9_go (i:=1) x w rfl (fun x=>num9_calls (j:=2) p x hl rfl (hA u (by simp))) ?_ ?_
 rotate_left
 ·rintro why h3 ⟨hB,rfl⟩ c3
  refine bad9 ((hnn _).trans ?_) c3
  show numbered u _=_
  unfold numbered
  rw[hB]
 rintro _ h3 _ ⟨n2,hn2,rfl,rfl⟩ w
 have hnn2:∀f,numbered u f=f n2:=fun f=>by unfold numbered;rw[hn2]
 refine sub9_go (i:=1) x w rfl (fun x=>of9_calls p x) ?_ ?_
 rotate_left
 ·rintro why h4 ⟨hB,rfl⟩ c4
  exact bad9 ((hnn _).trans ((hnn2 _).trans (kindly_no hB))) c4
 rintro _ h4 _ ⟨hk,p2,w2,r2,rfl⟩ w
 have hrk:=rk9 (key:=k0) (now:=now) hs9 hi
 have hrl:=hrk.len
 have he:cZby S now [k0,s,u]=_:=(hnn _).trans ((hnn2 _).trans (kindly_ok hk))
 generalize (getS S k0 now).getD zeroT=t at*
 refine w.ldc 1 rfl rfl ?_
 refine call_ret (rof_calls (w.thc 1 rfl).2.2 hrk (tab9 ht (x.base w))) ?_
 rintro _ h3 ⟨⟨v,fp,rfl,rs⟩,c3⟩
 have w:=w.ext c3
 refine call_ret (K5.betweenm_calls rs _ _) ?_
 rintro r h4 ⟨ol4,c4,_⟩
 have w:=w.ext c4
 unfold K5.betweenR at ol4
 rw[K5.sel_filter]at ol4
 have hfl:=List.length_filter_le (fun r:Rank=>decide (n≤r.score)&&decide (r.score≤n2)) t.ranks
 refine call_ret (listRank_calls ol4.sl (by omega)) ?_
 rintro _ h5 ⟨⟨ra,rn,rc,rfl,ol,fr⟩,c5⟩
 have hz:=w.size
 have w:=w.add (e:=.o encQ 4 (.slice ra rn rc) _) c5 ol fr
 refine w.st1 1 rfl rfl rfl rfl fun h6 w=>?_
 refine finl9 x w 1 2 0 rfl rfl rfl (fun b hb=>by have:=fr b hb;omega) ?_
 rw[he,names_flat]
 rfl
theorem zincr9 (p:P9 h0 kb sb mb c m S av A) (hs9:S9 S) (hi:InS S) (hl:LaidN h0) (ht:K5.TabH h0) (hA:∀a∈A,a.size<281474976710656) (x:As h0 h (c0 ab kb now av)):CallsH Tryz.prog 104 [ptr ab] h (Cmd9 h0 h ab kb now av (cZincr S now A)):=by
 refine f104_calls (by simp) ?_
 intro b2 h1 g1
 have w:=x.st.new g1
 refine sub9_go (i:=1) x w rfl (fun x=>many9_calls p (by decide) x) ?_ ?_
 rotate_left
 ·rintro why h2 ⟨hB,rfl⟩ c2
  exact bad9 (arg3_bad hB) c2
 rintro _ h2 _ ⟨hb,k0,hk0,rfl⟩ w
 obtain⟨k9,u,n,rfl⟩:=three_arg hb
 cases hk0
 refine sub9_go (i:=1) x w rfl (fun x=>num9_calls (j:=1) p x hl rfl (hA u (by simp))) ?_ ?_
 rotate_left
 ·rintro why h3 ⟨hB,rfl⟩ c3
  refine bad9 ?_ c3
  show numbered u _=_
  unfold numbered
  rw[hB]
 rintro _ h3 _ ⟨by_,hby,rfl,rfl⟩ w
 have hnn:∀f,numbered u f=f by_:=fun f=>by unfold numbered;rw[hby]
 refine sub9_go (i:=1) x w rfl (fun x=>of9_calls p x) ?_ ?_
 rotate_left
 ·rintro why h4 ⟨hB,rfl⟩ c4
  exact bad9 ((hnn _).trans (kindly_no hB)) c4
 rintro _ h4 _ ⟨hk,p2,w2,r2,rfl⟩ w
 have hrk:=rk9 (key:=k0) (now:=now) hs9 hi
 have hrl:=hrk.len
 have hk9:=hA k0 (by simp)
 have hn9:=hA n (by simp)
 have he:cZincr S now [k0,u,n]=_:=(hnn _).trans (kindly_ok hk)
 generalize (getS S k0 now).getD zeroT=t at*
 obtain⟨b,o,cc,rfl⟩:=p.argF (by simp)
 refine w.ldc 1 rfl rfl ?_
 refine p.ix (x.base w) 2 rfl rfl ?_
 refine w.callv (score9_calls (w.get 1 rfl) hrk (tab9 ht (x.base w))) fun h5 w=>?_
 have hin:In64 ((scoreF t.ranks n).getD 0):=by
  unfold scoreF
  cases hf:t.ranks.find? fun r=>decide (r.name=n)with
  |none=>exact⟨by decide,by decide⟩
  |some r=>exact hrk.ri r (List.mem_of_find?_eq_some hf)
 have hth:thereR t.ranks n=(scoreF t.ranks n).isSome:=rfl
 rw[hth]at he
 generalize scoreF t.ranks n=fo at he hin⊢
 obtain⟨pa,pc,rfl,_⟩:=(w.thc 1 rfl).2.2.form
 refine call_out9 (plus9_calls hin (numOf_in hby)) ?_ ?_
 rotate_left
 ·rintro why h8 ⟨hno,rfl,e⟩
  have e:=e.symm
  subst e
  exact bad9 (he.trans (if_neg hno)) w.chg
 rintro _ h8 ⟨hok,rfl,e⟩
 have e:=e.symm
 subst e
 have he:=he.trans (if_pos hok)
 obtain⟨z,hz9⟩:∃z,z=fo.getD 0+by_:=⟨_,rfl⟩
 have hok:In64 z:=by rw[hz9];exact hok
 rw[←hz9]at he⊢
 have fin:∀{h9:Heap} {items:Nat} {M:List En},items=t.ranks.length+(if fo.isSome=true then 0 else 1)→St (c0 ab kb now (.slice (some ⟨b,o,none⟩) 3 cc)).fp h h9 (.b b2 [.int .i64 0,.int .i64 0,.string ⟨#[]⟩,.slice none 0 0]::cE ab kb now (.slice (some ⟨b,o,none⟩) 3 cc) k0 t (getS S k0 now).isSome p2 w2 (.slice pa t.ranks.length pc) nilV []::M)→
   swp Tryz.prog (.seq (.ops f104r9) (.seq (.ops f104r10) .ret))
    (retQ [.cn 2 4] (Cmd9 h0 h ab kb now (.slice (some ⟨b,o,none⟩) 3 cc) (cZincr S now [k0,u,n]))) (mk [(0,ptr ab),(2,ptr b2),(4,.int .i64 z),(6,.int .i64 items)]) [] h9:=by
  intro h9 items M hit w
  refine w.ldc 1 rfl rfl ?_
  refine p.ix (x.base w) 2 rfl rfl ?_
  refine sub9_go (i:=1) x w rfl (fun x=>put9_calls p ⟨14,noText,n,noText,z⟩ x (by simp) (by omega) (by show n.size<_;omega) (by show noText.size<_;decide)) ?_ ?_
  rotate_left
  ·rintro why h11 ⟨hB,rfl⟩ c11
   refine bad9 (he.trans (mkNo9 fun hh=>hB ⟨?_,hh.2.1,of_decide_eq_true hh.2.2,by show noText.size≤_;decide⟩)) c11
   have:=hh.1
   rw[hit]
   push_cast
   split at this<;>simp_all
  rintro _ h11 _ ⟨hfit,lv11,rfl⟩ w
  refine w.callv (format_calls (hl.ext (x.base w)) hok.1 hok.2) fun h12 w=>?_
  refine w.callv text9_calls fun h12 w=>?_
  refine w.st1 0 rfl rfl rfl rfl fun h13 w=>?_
  refine fin9 x w 0 1 rfl rfl (he.trans (mkOk9 ⟨?_,hfit.2.1,decide_eq_true hfit.2.2.1⟩))
  have:=hfit.1
  rw[hit]at this
  push_cast at this
  split<;>simp_all
 refine w.ldc 1 rfl rfl ?_
 refine cut_at [(0,ptr ab),(2,ptr b2),(4,.int .i64 z),(5,.bool fo.isSome),(6,.int .i64 t.ranks.length)] ⟨rfl,rfl,rfl,rfl,rfl,trivial⟩ ?_
 refine ass_go ?_
 refine not_go (v:=fo.isSome) rfl rfl ?_
 refine cnd_go (t:=!fo.isSome) rfl ?_
 cases fo with
 |none=>
  refine Ai rfl (fun z hz=>?_)
  have hz:=add_in hz (by omega) (by omega)
  subst hz
  exact cut_at [(0,ptr ab),(2,ptr b2),(4,.int .i64 z),(6,.int .i64 (t.ranks.length+1:Nat))] ⟨rfl,rfl,rfl,rfl,trivial⟩ (fin rfl w)
 |some s=>
  refine skp_go ?_
  exact cut_at [(0,ptr ab),(2,ptr b2),(4,.int .i64 z),(6,.int .i64 t.ranks.length)] ⟨rfl,rfl,rfl,rfl,trivial⟩ (fin rfl w)
end
end Go.Proofs.YtjnijlnmbjjgpaaGreatDoor
