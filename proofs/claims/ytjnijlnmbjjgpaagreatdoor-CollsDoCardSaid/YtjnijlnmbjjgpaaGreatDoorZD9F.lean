/-
  Layer 9: SINTER: a map that counts, its keys in order.
  Layer 9: Do, whatever is asked: its effects are all done.
  Layer 9: the program's answer against the document's: replies, effects, the keyspace.
  Layer 9: the commands of lists, by the program and by the document. (Written by genrp.py.)
  Layer 9: the document's answer: is a name there? is it named ahead?
  Layer 9: the document's answer: what is taken away (HDEL, SREM, ZREM).
  Layer 9: Apply once more: what is made of a thing lies in new blocks.
  Layer 9: what was put in is told; plain.
  Layer 9: what was put in is told: the calls. (Written by genct.py.)
  Layer 9: the document's answer: the commands of hashes. (Written by genrk.py.)
  Layer 9: the document's answer: HSET.
  Layer 9: the document's answer: Do, for the commands of hashes, sets and ranked sets. (Written by genre.py.)
  Layer 9: the document's bounds, the other names. (Written by genrd2.py.)
  Layer 9: the commands of hashes, by the program and by the document. (Written by genrp2.py.)
  Layer 9: the document's answer: the commands of sets. (Written by genrs.py.)
  Layer 9: the commands of sets but SINTER, by the program and by the document. (Written by genrp3.py.)
  Layer 9: the document's answer: SINTER.
  Layer 9: the document's answer: Do, for every command; how many arguments each has, and of which kind.
  Layer 9: the document's answer: the commands of ranked sets. (Written by genrz.py.)
  Layer 9: the document's answer: ZADD.
  Layer 9: the document's answer: ZRANGE, ZRANGEBYSCORE. (Written by genrz3.py.)
  Layer 9: each command of any letters with any arguments, by the program and by the document. (Written by genrx.py.)
  Layer 9: whatever is asked, by the program and by the document. (Written out of RW2.)
  Layer 9: what is too much.
  Layer 9: known(), by a walk.
  Layer 9: the law of any command (taborlaw09.CollsDo). (Written out of RW3.)
  The world of a witness: the tables and errors of strconv and math/bits as they are laid.
  Layer 7: things, entries and effects opened.
  Layer 8: strconv's laid variables, as the walks want them; arguments opened.
  Layer 9: the table of math/bits as it is laid.
-/
import Derived.Test.YtjnijlnmbjjgpaaGreatDoorCards
import Derived.Test.YtjnijlnmbjjgpaaGreatDoorTie
import Derived.Deep.DeepHandedRow
import Derived.ProofKit
import Derived.Test.YtjnijlnmbjjgpaaGreatDoorZD9E
namespace Go.Proofs.YtjnijlnmbjjgpaaGreatDoor
open Go Go.Sx C
namespace SI
def keysHeap (h:Heap) (mb:Nat):Heap:=h.push (.cells #[.map (some mb)] 189)
theorem keysHeap_chg (h:Heap) (mb:Nat):Chg [] h (keysHeap h mb):=by
 refine⟨by simp[keysHeap],fun k hk _=>?_⟩
 unfold keysHeap
 rw[Array.getElem?_push,if_neg (by omega)]
theorem mKeys_calls {h:Heap} {mb:Nat}:CallsH Tryz.prog 174 [.map (some mb)] h (Ret fun r h'=>r=.func (.func 236) #[] #[ptr h.size]∧h'=keysHeap h mb):=by
 refine⟨by kernel_rfl,fun w hw=>?_⟩
 refine((callsIn_wide (n:=5)).1 (Tryz.maps_Keys_174 (some mb) w)).mono ?_
 rintro e w' ⟨rfl,rfl⟩
 refine⟨?_,by simp,rfl,rfl,rfl⟩
 subst hw
 exact⟨rfl,rfl⟩
structure MK (h:Heap) (mb c:Nat) (ms:List MapEntry) (ks:List ByteArray):Prop where
 map:MapB h mb ms c
 keys:ms.map (·.key)=ks.map Value.string
 small:∀k∈ks,k.size≤1048576
 len:ms.length≤65536
 born:∀e∈ms,e.born<c
 borns:(ms.map (·.born)).Nodup
 nodup:ks.Nodup
theorem MK.key {h:Heap} {mb c:Nat} {ms:List MapEntry} {ks:List ByteArray} (x:MK h mb c ms ks):∀e∈ms,∃k∈ks,e.key=.string k∧k.size≤1048576:=by
 intro e he
 have:e.key∈ms.map (·.key):=List.mem_map.2 ⟨e,he,rfl⟩
 rw[x.keys]at this
 obtain⟨k,hk,e2⟩:=List.mem_map.1 this
 exact⟨k,hk,e2.symm,x.small k hk⟩
theorem own_of {w:World} {mb c:Nat} {ms:List MapEntry} {ks:List ByteArray} (x:MK w.heap mb c ms ks):w.ownsMap Tryz.prog 9 RN mb ms.length (.map ((((⟨ms⟩:Array MapEntry)).toList.map (Go.WideElems.rg Tryz.prog 9 RN)).foldr DataW.insert []):DataW Unit):=by
 have hl:=x.len
 refine⟨⟨ms⟩,c,x.map,⟨?_,⟨?_,?_,?_⟩,?_⟩,by simp,rfl⟩
 ·have:(65536:Nat)≤maxLen:=by decide
  simp;omega
 ·exact x.born
 ·exact x.borns
 ·show(ms.map (·.key)).Nodup
  rw[x.keys]
  exact List.Pairwise.map Value.string (fun a b (hab:a≠b)=>fun he=>hab (by simpa using he)) x.nodup
 ·intro e he
  obtain⟨k,_,hk,hs⟩:=x.key e he
  refine⟨(.string (bytesL k),.nil),?_⟩
  unfold Go.WideElems.rd
  rw[hk,key_reads _ hs]
  rfl
theorem strKeys_perm {h:Heap} {mb c:Nat} {ms:List MapEntry} {ks:List ByteArray} (x:MK h mb c ms ks):(strKeys (.map ((((⟨ms⟩:Array MapEntry)).toList.map (Go.WideElems.rg Tryz.prog 9 RN)).foldr DataW.insert []):DataW Unit)).Perm (ks.map bytesL):=by
 unfold strKeys
 have h1:=Go.WideShapes.sorted_perm (((⟨ms⟩:Array MapEntry)).toList.map (Go.WideElems.rg Tryz.prog 9 RN))
 refine(h1.map _).trans ?_
 rw[List.map_map]
 refine List.Perm.of_eq ?_
 have e:ks.map bytesL=(ks.map Value.string).map (fun v=>match v with|.string s=>bytesL s|_=>[]):=by rw[List.map_map];rfl
 rw[e,←x.keys,List.map_map]
 refine List.map_congr_left fun i hi=>?_
 obtain⟨k,_,hk,hs⟩:=x.key i hi
 simp only[Function.comp]
 unfold Go.WideElems.rg Go.WideElems.rd
 rw[hk,key_reads _ hs]
 rfl
theorem own_all {w:World} {mb c:Nat} {ms:List MapEntry} {ks:List ByteArray} (x:MK w.heap mb c ms ks):∃D:DataW Unit,w.ownsMap Tryz.prog 9 RN mb ms.length D∧(strKeys D).Perm (ks.map bytesL)∧Go.Maps.size D=ms.length:=
 ⟨_,own_of x,strKeys_perm x,by rw[Go.Maps.size_eq,Go.length_sorted];simp⟩
theorem sSorted_calls {h:Heap} {mb c:Nat} {ms:List MapEntry} {ks:List ByteArray} (x:MK h mb c ms ks):
  CallsH Tryz.prog 119 [.func (.func 236) #[] #[ptr h.size]] (keysHeap h mb) (Ret fun r h'=>∃L:List ByteArray,SL encS h' r L∧L.Perm ks∧L.Pairwise (fun a b=>sless a b=true)∧(∀b∈vblk r,h.size<b)∧Chg [] (keysHeap h mb) h'):=by
 refine⟨by kernel_rfl,fun w hw=>?_⟩
 let w0:World:={w with heap:=h}
 have ew:w0.alloc (.cells #[.map (some mb)] 189)=w:=by
  show({w with heap:=h.push _}:World)=w
  rw[show h.push (.cells #[.map (some mb)] 189)=w.heap from hw.symm]
 have x0:MK w0.heap mb c ms ks:=x
 have hl:=x.len
 obtain⟨D,hown,hsk,hsz⟩:=own_all x0
 have h65:(65536:Nat)≤maxLen:=by decide
 have key:=Tryz.slices_Sorted_keys_119_174 (H:=Unit) mb ms.length D RN w0 hown (by omega) (by omega)
 rw[ew]at key
 refine((callsIn_wide (n:=5)).1 key).mono ?_
 rintro e w' ⟨v,ss,rfl,hp,hrow,hnil,hb⟩
 refine⟨?_,by simp,hb.os,hb.output,hb.tape⟩
 have hperm:ss.Perm (ks.map bytesL):=hp.trans hsk
 have hms:(ss.mergeSort leB).Perm (ks.map bytesL):=(List.mergeSort_perm ss leB).trans hperm
 have tr:∀a b c:List UInt8,leB a b=true→leB b c=true→leB a c=true:=fun a b c h1 h2=>by simp only[leB,decide_eq_true_eq]at*;exact List.le_trans h1 h2
 have to:∀a b:List UInt8,(leB a b||leB b a)=true:=fun a b=>by simp only[leB,Bool.or_eq_true,decide_eq_true_eq];exact List.le_total a b
 have hpw:(ss.mergeSort leB).Pairwise (fun a b=>leB a b=true):=List.pairwise_mergeSort tr to ss
 have hnd:(ss.mergeSort leB).Nodup:=by
  refine hms.symm.nodup ?_
  exact List.Pairwise.map bytesL (fun a b (hab:a≠b)=>fun he=>hab (by cases a;cases b;simp_all [bytesL])) x.nodup
 have hsize:w.heap.size=h.size+1:=by rw[hw];simp[keysHeap]
 refine⟨(ss.mergeSort leB).map ofL,?_,?_,?_,?_,?_⟩
 ·-- the slice
  obtain⟨hlen,hr⟩:=hrow
  have hsl:(ss.mergeSort leB).length=ss.length:=(List.mergeSort_perm ss leB).length_eq
  rcases hr with⟨rfl,hn⟩|⟨g,cap,cur,rfl,hg,hcur,hcap,hmax,hcs,htk⟩
  ·have:(ss.mergeSort leB).map ofL=[]:=by rw[List.map_eq_nil_iff];exact List.length_eq_zero_iff.1 (hsl.trans hn)
   rw[this];exact SL.nil
  ·refine⟨some ⟨g,0,none⟩,cap,by rw[List.length_map,hsl],by rw[List.length_map,hsl];exact hcap,?_⟩
   intro i v hv
   have hfm:∀l:List (List UInt8),(l.map ofL).flatMap encS=l.map encStr:=by
    intro l
    induction l with
    |nil=>rfl
    |cons a l ih=>rw[List.map_cons,List.flatMap_cons,ih];rfl
   rw[hfm]at hv
   have htk':cur.toList.take (ss.length*1)=(ss.mergeSort leB).map encStr:=htk
   rw[←htk']at hv
   rw[Nat.zero_add]
   unfold Sx.cell
   rw[hcur]
   simp only
   rw[List.getElem?_take]at hv
   split at hv
   ·simpa using hv
   ·cases hv
 ·have:ks=(ks.map bytesL).map ofL:=by rw[List.map_map];exact(List.map_id' ks).symm
  rw[this]
  exact hms.map _
 ·refine List.Pairwise.map ofL (fun a b (hab:leB a b=true∧a≠b)=>?_) (hpw.and hnd)
  rw[sless_data,bl_lt]
  show a<b
  obtain⟨h1,h2⟩:=hab
  simp only[leB,decide_eq_true_eq]at h1
  have hb:Op.bytesLess b a≠true:=fun h=>h1 ((bl_lt b a).1 h)
  rcases bl_total h2 with h|h
  ·exact(bl_lt a b).1 h
  ·exact absurd h hb
 ·intro b hb'
  obtain⟨_,hr⟩:=hrow
  rcases hr with⟨rfl,_⟩|⟨g,cap,cur,rfl,hg,_⟩
  ·simp[vblk,ablk]at hb'
  ·simp[vblk,ablk]at hb'
   subst hb'
   omega
 ·refine⟨by rw[←hw];exact hb.size,fun k hk _=>?_⟩
  rw[←hw]at hk⊢
  exact hb.block k hk
end SI
structure IM (ms:List MapEntry) (c:Nat) (ks:List ByteArray) (f:ByteArray→Nat):Prop where
 keys:ms.map (·.key)=ks.map Value.string
 small:∀k∈ks,k.size≤1048576
 born:∀e∈ms,e.born<c
 borns:(ms.map (·.born)).Nodup
 nodup:ks.Nodup
 val:∀k,(k∉ks∧mfind (.string k) ms 0=none∧f k=0)∨(k∈ks∧∃i,mfind (.string k) ms 0=some (i,.int .i64 (f k)))
section
variable {ms:List MapEntry} {c:Nat} {ks:List ByteArray} {f:ByteArray→Nat} {k:ByteArray}
theorem IM.nil:IM [] 0 [] fun _=>0:=⟨rfl,by simp,by simp,List.nodup_nil,List.nodup_nil,fun k=>.inl ⟨by simp,rfl,rfl⟩⟩
theorem IM.fits (x:IM ms c ks f):∀e∈ms,fits .str e.key=true:=fun e he=>by
 have:e.key∈ms.map (·.key):=List.mem_map_of_mem he
 rw[x.keys]at this
 obtain⟨k,_,e2⟩:=List.mem_map.1 this
 rw[←e2];rfl
theorem IM.klen (x:IM ms c ks f):ks.length=ms.length:=by
 have:=congrArg List.length x.keys
 simpa using this.symm
def bump (f:ByteArray→Nat) (k:ByteArray):ByteArray→Nat:=fun s=>if s=k then f k+1 else f s
theorem IM.put0 (x:IM ms c ks f) (hn:k∉ks) (h1:mfind (.string k) ms 0=none) (h0:f k=0) (hk:k.size≤1048576) {n:Int} (e:n=1):IM (ms++[{key:=.string k,val:=.int .i64 n,born:=c}]) (c+1) (ks++[k]) (bump f k):=by
 subst e
 refine⟨by rw[List.map_append,List.map_append,x.keys];rfl,fun k' hk'=>?_,fun e he=>?_,?_,?_,fun k'=>?_⟩
 ·rcases List.mem_append.1 hk' with h|h
  ·exact x.small k' h
  ·rw[List.mem_singleton.1 h];exact hk
 ·rcases List.mem_append.1 he with h|h
  ·have:=x.born e h;omega
  ·rw[List.mem_singleton.1 h];exact Nat.lt_succ_self _
 ·rw[List.map_append,List.nodup_append]
  refine⟨x.borns,by simp,fun a ha b hb=>?_⟩
  obtain⟨e,he,rfl⟩:=List.mem_map.1 ha
  have:=x.born e he
  simp at hb
  omega
 ·rw[List.nodup_append]
  exact⟨x.nodup,by simp,fun a ha b hb e=>hn (by simp at hb;rw[←hb,←e];exact ha)⟩
 ·rw[mfind_app x.fits h1]
  unfold bump
  by_cases h:k'=k
  ·rw[if_pos h,if_pos h]
   exact .inr ⟨by simp[h],0+ms.length,by rw[h0];rfl⟩
  ·rw[if_neg h,if_neg h]
   rcases x.val k' with⟨a,b,c⟩|⟨a,i,b⟩
   ·exact .inl ⟨by simp[a,h],b,c⟩
   ·exact .inr ⟨by simp[a],i,b⟩
theorem mod_map {α:Type} {g:MapEntry→α} {v:Value} (hg:∀e:MapEntry,g {e with val:=v}=g e):∀(ms:List MapEntry) (i:Nat),(ms.modify i fun e=>{e with val:=v}).map g=ms.map g:=fun ms i=>by
 refine List.ext_getElem? fun j=>?_
 rw[List.getElem?_map,List.getElem?_map,List.getElem?_modify]
 cases ms[j]? with
 |none=>rfl
 |some e=>
  show some (g (if i=j then _ else e))=some (g e)
  split
  ·rw[hg]
  ·rfl
theorem IM.put1 (x:IM ms c ks f) {i:Nat} (hm:k∈ks) (h1:mfind (.string k) ms 0=some (i,.int .i64 (f k))) {n:Int} (e:n=f k+1):IM (ms.modify i fun e=>{e with val:=.int .i64 n}) c ks (bump f k):=by
 subst e
 refine⟨by rw[mod_map (g:=MapEntry.key) fun _=>rfl];exact x.keys,x.small,fun e he=>?_,by rw[mod_map (g:=MapEntry.born) fun _=>rfl];exact x.borns,x.nodup,fun k'=>?_⟩
 ·have hb:e.born∈(ms.modify i fun e=>{e with val:=.int .i64 (f k+1)}).map (·.born):=List.mem_map_of_mem he
  rw[mod_map (g:=MapEntry.born) fun _=>rfl]at hb
  obtain⟨e2,he2,e3⟩:=List.mem_map.1 hb
  rw[←e3];exact x.born e2 he2
 ·have h1':mfind (.string k) ms 0=some (0+i,.int .i64 (f k)):=by rw[h1];simp
  obtain⟨m1,m2⟩:=mfind_mod (k':=k') (v:=.int .i64 ((f k:Int)+1)) x.fits h1'
  unfold bump
  by_cases h:k'=k
  ·rw[if_pos h]
   exact .inr ⟨by rw[h];exact hm,0+i,m1 h⟩
  ·rw[if_neg h,m2 h]
   exact x.val k'
end
def stepF (f:ByteArray→Nat) (i:Nat) (l:List ByteArray):ByteArray→Nat:=fun s=>if s∈l∧f s=i then i+1 else f s
theorem stepF_nil {f:ByteArray→Nat} {i:Nat}:stepF f i []=f:=by
 funext s
 simp[stepF]
theorem stepF_yes {f:ByteArray→Nat} {i:Nat} {l:List ByteArray} {x:ByteArray} (hx:x∉l) (hf:f x=i):bump (stepF f i l) x=stepF f i (l++[x]):=by
 funext s
 unfold bump stepF
 by_cases h:s=x
 ·subst h
  rw[if_pos rfl,if_neg (fun hh=>hx hh.1),if_pos ⟨by simp,hf⟩,hf]
 ·rw[if_neg h]
  by_cases h2:s∈l∧f s=i
  ·rw[if_pos h2,if_pos ⟨by simp[h2.1],h2.2⟩]
  ·rw[if_neg h2,if_neg]
   rintro⟨h3,h4⟩
   simp[h]at h3
   exact h2 ⟨h3,h4⟩
theorem stepF_no {f:ByteArray→Nat} {i:Nat} {l:List ByteArray} {x:ByteArray} (hf:f x≠i):stepF f i l=stepF f i (l++[x]):=by
 funext s
 unfold stepF
 by_cases h2:s∈l∧f s=i
 ·rw[if_pos h2,if_pos ⟨by simp[h2.1],h2.2⟩]
 ·rw[if_neg h2,if_neg]
  rintro⟨h3,h4⟩
  simp at h3
  rcases h3 with h3|rfl
  ·exact h2 ⟨h3,h4⟩
  ·exact hf h4
theorem stepF_at {f:ByteArray→Nat} {i:Nat} {l:List ByteArray} {x:ByteArray} (hx:x∉l):stepF f i l x=f x:=if_neg fun h=>hx h.1
theorem sorted_same {a b:List ByteArray} (ha:a.Pairwise fun x y=>sless x y=true) (hb:b.Pairwise fun x y=>sless x y=true) (h:∀s,s∈a↔s∈b):a=b:=by
 have na:a.Nodup:=ha.imp fun h=>sless_ne h
 have nb:b.Nodup:=hb.imp fun h=>sless_ne h
 refine List.Perm.eq_of_pairwise (le:=fun x y=>sless x y=true) (fun x y _ _ h1 h2=>?_) ha hb ((List.perm_ext_iff_of_nodup na nb).2 h)
 exact absurd h2 (by rw[sless_no h1];decide)
theorem sl_lt {h:Heap} {r:Value} {l:List ByteArray} (hs:SL encS h r l) (hne:l≠[]):∀b∈vblk r,b<h.size:=by
 obtain⟨a,c,rfl,hlc⟩:=hs.form
 have hp:0<l.length:=List.length_pos_iff.2 hne
 obtain⟨b,o,rfl⟩:=hs.addr hp
 intro b' hb'
 have hb':b'=b:=by simpa[vblk,ablk]using hb'
 subst hb'
 have hcs:=hs.cells encS_len (List.getElem?_eq_getElem hp)
 exact cell_lt (hcs 0 _ rfl)
theorem sl_none {h h':Heap} {r:Value} (hs:SL encS h r []):SL encS h' r []:=by
 obtain⟨a,c,rfl,hlc,hsrc⟩:=hs
 refine⟨a,c,rfl,hlc,?_⟩
 cases a with
 |none=>exact hsrc
 |some ad=>
  obtain⟨b,o,n⟩:=ad
  cases n with
  |none=>exact fun i v hv=>by simp at hv
  |some n=>exact hsrc
def slE (r:Value) (l:List ByteArray):En:=.x (if l=[]then[]else vblk r) (fun h=>SL encS h r l)
 (fun S h h' hc hn hs=>by
  by_cases hl:l=[]
  ·subst hl;exact sl_none hs
  ·rw[if_neg hl]at hn;exact hs.chg hc hn)
 (fun h hs b hb=>by
  by_cases hl:l=[]
  ·rw[if_pos hl]at hb;exact(nomatch hb)
  ·rw[if_neg hl]at hb;exact sl_lt hs hl b hb)
theorem slE_fp {r:Value} {l:List ByteArray} {b:Nat} (hb:b∈(slE r l).fp):b∈vblk r:=by
 have hb:b∈(if l=[]then[]else vblk r):=hb
 split at hb
 ·exact(nomatch hb)
 ·exact hb
section
variable {h0 h h1 h2 h':Heap} {ab kb sb mb c b1 b2:Nat} {now:Int} {av:Value} {A l:List ByteArray} {m:List KI} {S:Space}
def Gone9 (S:Space) (now:Int) (A:List ByteArray) (i:Nat) (f:ByteArray→Nat) (acc:List ByteArray):Prop:=
 (∀s,f s≤i)∧(0<i→acc.Pairwise (fun x y=>sless x y=true)∧(∀s,f s=i↔s∈acc)∧cSinter S now A=interL S now acc (A.drop i) fun l=>.ok (listR l,[]))
theorem gone9_step {i:Nat} {f:ByteArray→Nat} {acc:List ByteArray} {key:ByteArray} (g:Gone9 S now A i f acc) (hl:A.length<65536) (hk:A[i]? =some key) (hok:okK 4 (getS S key now)=true) (hso:((getS S key now).getD zeroT).list.Pairwise fun a b=>sless a b=true):
  ∃acc',Gone9 S now A (i+1) (stepF f i ((getS S key now).getD zeroT).list) acc':=by
 obtain⟨g1,g2⟩:=g
 have hil:i<A.length:=(List.getElem?_eq_some_iff.1 hk).1
 have hke:A[i]=key:=(List.getElem?_eq_some_iff.1 hk).2
 have hle:∀s,stepF f i ((getS S key now).getD zeroT).list s≤i+1:=fun s=>by
  have:=g1 s
  unfold stepF
  split<;>omega
 have hdr:A.drop i=key::A.drop (i+1):=by rw[List.drop_eq_getElem_cons hil,hke]
 by_cases hi:i=0
 ·subst hi
  refine⟨((getS S key now).getD zeroT).list,hle,fun _=>⟨hso,fun s=>?_,?_⟩⟩
  ·have:=g1 s
   unfold stepF
   constructor
   ·intro h
    split at h
    ·rename_i h2;exact h2.1
    ·omega
   ·intro h
    rw[if_pos ⟨h,by omega⟩]
  ·obtain⟨ks,rfl⟩:∃ks,A=key::ks:=⟨A.drop 1,by simpa using hdr⟩
   have hl:ks.length+1<65536:=hl
   show(if ks.length<65536 then kindly S now 4 key fun t=>interL S now t.list ks fun l=>.ok (listR l,[])else .error wArgs)=_
   rw[if_pos (by omega),kindly_ok hok]
   rfl
 ·obtain⟨g3,g4,g5⟩:=g2 (by omega)
  refine⟨acc.filter (thereL ((getS S key now).getD zeroT).list),hle,fun _=>⟨g3.filter _,fun s=>?_,?_⟩⟩
  ·rw[List.mem_filter]
   unfold stepF thereL
   have h4:=g4 s
   have:=g1 s
   constructor
   ·intro h
    split at h
    ·rename_i h2;exact⟨h4.1 h2.2,decide_eq_true h2.1⟩
    ·omega
   ·rintro⟨h5,h6⟩
    rw[if_pos ⟨of_decide_eq_true h6,h4.2 h5⟩]
  ·rw[g5,hdr]
   show kindly S now 4 key (fun t=>interL S now (acc.filter (thereL t.list)) (A.drop (i+1)) fun l=>.ok (listR l,[]))=_
   rw[kindly_ok hok]
theorem gone9_bad {i:Nat} {f:ByteArray→Nat} {acc:List ByteArray} {key:ByteArray} (g:Gone9 S now A i f acc) (hl:A.length<65536) (hk:A[i]? =some key) (hok:okK 4 (getS S key now)=false):cSinter S now A=.error wType:=by
 have hil:i<A.length:=(List.getElem?_eq_some_iff.1 hk).1
 have hke:A[i]=key:=(List.getElem?_eq_some_iff.1 hk).2
 have hdr:A.drop i=key::A.drop (i+1):=by rw[List.drop_eq_getElem_cons hil,hke]
 by_cases hi:i=0
 ·subst hi
  obtain⟨ks,rfl⟩:∃ks,A=key::ks:=⟨A.drop 1,by simpa using hdr⟩
  have hl:ks.length+1<65536:=hl
  show(if ks.length<65536 then kindly S now 4 key fun t=>interL S now t.list ks fun l=>.ok (listR l,[])else .error wArgs)=_
  rw[if_pos (by omega),kindly_no hok]
 ·rw[(g.2 (by omega)).2.2,hdr]
  exact kindly_no hok
set_option maxHeartbeats 2000000 in
theorem sinter9 (p:P9 h0 kb sb mb c m S av A) (hs9:S9 S) (hi:InS S) (hA:A.length≤30) (x:As h0 h (c0 ab kb now av)):CallsH Tryz.prog 100 [ptr ab] h (Cmd9 h0 h ab kb now av (cSinter S now A)):=by
 refine f100_calls (by simp) ?_
 intro b2 h1 g1
 have w:=x.st.new g1
 refine sub9_go (i:=1) x w rfl (fun x=>many9_calls p (by decide) x) ?_ ?_
 rotate_left
 ·rintro why h2 ⟨hB,rfl⟩ c2
  refine bad9 ?_ c2
  cases A with
  |nil=>rfl
  |cons k0 l=>exact absurd ⟨by simp;omega,by simp at hA⊢;omega⟩ hB
 rintro _ h2 _ ⟨hb,k0,hk0,rfl⟩ w
 obtain⟨ba,oa,ac,rfl⟩:=p.argF (by omega)
 intro mb2 h3 g3
 have w:=w.newm g3
 refine w.ldc 2 rfl rfl ?_
 refine loop_intro (fun i:Nat=>[(0,ptr ab),(2,ptr b2),(3,.map (some mb2)),(17,.slice (some ⟨ba,oa,none⟩) A.length ac),(18,.int .i64 A.length),(19,.int .i64 i)])
  (fun i h'=>i≤A.length∧∃ms cc ks f acc key t is pv lw rv,IM ms cc ks f∧ms.length≤2000*i∧Gone9 S now A i f acc∧
   St (c0 ab kb now (.slice (some ⟨ba,oa,none⟩) A.length ac)).fp h h' [.m mb2 ms cc,.b b2 [.int .i64 0,.int .i64 0,.string ⟨#[]⟩,.slice none 0 0],cE ab kb now (.slice (some ⟨ba,oa,none⟩) A.length ac) key t is pv lw rv nilV []])
  (fun i=>A.length-i) 0 ⟨rfl,rfl,rfl,rfl,rfl,rfl,trivial⟩ ⟨Nat.zero_le _,[],0,[],fun _=>0,[],_,_,_,_,_,_,IM.nil,Nat.zero_le _,⟨fun _=>Nat.le_refl _,fun h9=>absurd h9 (by decide)⟩,w⟩ ?_
 rintro i h4 ⟨hil,ms,cc,ks,f,acc,key,t,is,pv,lw,rv,im,hml,gn,w⟩
 refine Ai rfl (Ai (fun hlt=>?_) (fun hge=>?_))
 ·have hlt:i<A.length:=by omega
  obtain⟨s,hs⟩:∃s,A[i]? =some s:=⟨_,List.getElem?_eq_getElem hlt⟩
  refine p.ix (x.base w) i rfl hs ?_
  refine w.ckey 2 rfl fun h5 w=>?_
  refine sub9_go (i:=2) x w rfl (fun x=>of9_calls p x) ?_ ?_
  rotate_left
  ·rintro why h6 ⟨hB,rfl⟩ c6
   exact bad9 (gone9_bad gn (by omega) hs hB) c6
  rintro _ h6 _ ⟨hk,p2,w2,r2,rfl⟩ w
  have htl:=(hs9.get s now).ls
  have htz:=(hs9.get s now).lz
  have hso:=set_sorted hi hk
  obtain⟨acc2,gn2⟩:=gone9_step gn (by omega) hs hk hso
  generalize (getS S s now).getD zeroT=t at*
  obtain⟨la,lc,rfl,_⟩:=(w.thc 2 rfl).2.1.form
  have hnd:t.list.Nodup:=hso.imp fun h=>sless_ne h
  refine w.ldc 2 rfl rfl ?_
  refine loop_intro (fun j:Nat=>[(0,ptr ab),(2,ptr b2),(3,.map (some mb2)),(4,.int .i64 i),(17,.slice (some ⟨ba,oa,none⟩) A.length ac),(18,.int .i64 A.length),(19,.int .i64 i),(34,.slice la t.list.length lc),(35,.int .i64 t.list.length),(36,.int .i64 j)])
   (fun j h'=>j≤t.list.length∧∃ms cc ks,IM ms cc ks (stepF f i (t.list.take j))∧ms.length≤2000*i+j∧
    St (c0 ab kb now (.slice (some ⟨ba,oa,none⟩) A.length ac)).fp h h' [.m mb2 ms cc,.b b2 [.int .i64 0,.int .i64 0,.string ⟨#[]⟩,.slice none 0 0],cE ab kb now (.slice (some ⟨ba,oa,none⟩) A.length ac) s t (getS S s now).isSome p2 (.slice la t.list.length lc) r2 nilV []])
   (fun j=>t.list.length-j) 0 ⟨rfl,rfl,rfl,rfl,rfl,rfl,rfl,rfl,rfl,rfl,trivial⟩ ⟨Nat.zero_le _,ms,cc,ks,by rw[List.take_zero,stepF_nil];exact im,by omega,w⟩ ?_
  clear im w hml
  rintro j h7 ⟨hjl,ms,cc,ks,im,hml,w⟩
  refine Ai rfl (Ai (fun hlt2=>?_) (fun hge2=>?_))
  ·have hlt2:j<t.list.length:=by omega
   obtain⟨b,o,rfl⟩:=(w.thc 2 rfl).2.1.addr (by omega)
   obtain⟨y,hy⟩:∃y,y=t.list[j]:=⟨_,rfl⟩
   have hyz:=htz y (by rw[hy];exact List.getElem_mem hlt2)
   have htk:t.list.take (j+1)=t.list.take j++[y]:=by rw[List.take_succ_eq_append_getElem hlt2,hy]
   have hyn:y∉t.list.take j:=fun hm=>by
    have h9:t.list.take (j+1)=t.list.take j++[y]:=htk
    have h8:=hnd.sublist (List.take_sublist (j+1) t.list)
    rw[h9,List.nodup_append]at h8
    exact h8.2.2 y hm y (by simp) rfl
   have hfy:=stepF_at (f:=f) (i:=i) hyn
   refine sl_ix (s:=y) (w.thc 2 rfl).2.1 j rfl (by rw[hy];exact List.getElem?_eq_getElem hlt2) ?_
   have gfy:f y≤i:=gn.1 y
   have next:∀{h8:Heap} {ms:List MapEntry} {cc:Nat} {ks:List ByteArray},IM ms cc ks (stepF f i (t.list.take (j+1)))→ms.length≤2000*i+(j+1)→
     St (c0 ab kb now (.slice (some ⟨ba,oa,none⟩) A.length ac)).fp h h8 [.m mb2 ms cc,.b b2 [.int .i64 0,.int .i64 0,.string ⟨#[]⟩,.slice none 0 0],cE ab kb now (.slice (some ⟨ba,oa,none⟩) A.length ac) s t (getS S s now).isSome p2 (.slice (some ⟨b,o,none⟩) t.list.length lc) r2 nilV []]→
     j+1≤t.list.length∧∃ms cc ks,IM ms cc ks (stepF f i (t.list.take (j+1)))∧ms.length≤2000*i+(j+1)∧St (c0 ab kb now (.slice (some ⟨ba,oa,none⟩) A.length ac)).fp h h8 [.m mb2 ms cc,.b b2 [.int .i64 0,.int .i64 0,.string ⟨#[]⟩,.slice none 0 0],cE ab kb now (.slice (some ⟨ba,oa,none⟩) A.length ac) s t (getS S s now).isSome p2 (.slice (some ⟨b,o,none⟩) t.list.length lc) r2 nilV []]:=
    fun a b c=>⟨hlt2,_,_,_,a,b,c⟩
   rcases im.val y with⟨hn,e1,hf0⟩|⟨hm,q,e1⟩
   ·have hf0:f y=0:=hfy.symm.trans hf0
    refine Ai rfl (Ei ms (Ei cc (Ai (w.get 0 rfl) (Ai im.fits ?_))))
    rw[e1]
    refine Ai rfl (Ai (fun heq=>?_) (fun hne=>?_))
    ·have hi0:i=0:=by omega
     refine Ai rfl (Ei ms (Ei cc (Ai (w.get 0 rfl) (Ai im.fits ?_))))
     rw[e1]
     refine Ai rfl (fun z hz=>?_)
     have hz:z=1:=by have:=add_in hz (by omega) (by omega);omega
     subst hz
     refine Ai rfl (Ei ms (Ei cc (Ai (w.get 0 rfl) (Ai im.fits ?_))))
     rw[e1]
     intro h8 p8
     have w:=w.mput 0 rfl p8
     have im2:=im.put0 hn e1 (hfy.trans hf0) (by omega) rfl
     rw[stepF_yes hyn (by omega),←htk]at im2
     refine Ai rfl (fun z hz=>?_)
     have hz:=add_in hz (by omega) (by omega)
     subst hz
     exact Ai rfl (Ei (j+1) (Ai ⟨rfl,rfl,rfl,rfl,rfl,rfl,rfl,rfl,rfl,rfl,trivial⟩ (Ai (next im2 (by simp;omega) w) (by omega))))
    ·rw[stepF_no (x:=y) (by omega),←htk]at im
     refine Ai rfl (fun z hz=>?_)
     have hz:=add_in hz (by omega) (by omega)
     subst hz
     exact Ai rfl (Ei (j+1) (Ai ⟨rfl,rfl,rfl,rfl,rfl,rfl,rfl,rfl,rfl,rfl,trivial⟩ (Ai (next im (by omega) w) (by omega))))
   ·refine Ai rfl (Ei ms (Ei cc (Ai (w.get 0 rfl) (Ai im.fits ?_))))
    rw[e1]
    refine Ai rfl (Ai (fun heq=>?_) (fun hne=>?_))
    ·have hfi:f y=i:=by rw[hfy]at heq;omega
     refine Ai rfl (Ei ms (Ei cc (Ai (w.get 0 rfl) (Ai im.fits ?_))))
     rw[e1]
     refine Ai rfl (fun z hz=>?_)
     have hz:=add_in hz (by omega) (by omega)
     subst hz
     refine Ai rfl (Ei ms (Ei cc (Ai (w.get 0 rfl) (Ai im.fits ?_))))
     rw[e1]
     intro h8 p8
     have w:=w.mput 0 rfl p8
     have im2:=im.put1 hm e1 rfl
     rw[stepF_yes hyn hfi,←htk]at im2
     refine Ai rfl (fun z hz=>?_)
     have hz:=add_in hz (by omega) (by omega)
     subst hz
     exact Ai rfl (Ei (j+1) (Ai ⟨rfl,rfl,rfl,rfl,rfl,rfl,rfl,rfl,rfl,rfl,trivial⟩ (Ai (next im2 (by rw[List.length_modify];omega) w) (by omega))))
    ·have hfi:f y≠i:=fun e=>hne (by rw[hfy];omega)
     rw[stepF_no hfi,←htk]at im
     refine Ai rfl (fun z hz=>?_)
     have hz:=add_in hz (by omega) (by omega)
     subst hz
     exact Ai rfl (Ei (j+1) (Ai ⟨rfl,rfl,rfl,rfl,rfl,rfl,rfl,rfl,rfl,rfl,trivial⟩ (Ai (next im (by omega) w) (by omega))))
  ·have hj:j=t.list.length:=by omega
   subst hj
   rw[List.take_length]at im
   refine Ai rfl (fun z hz=>?_)
   have hz:=add_in hz (by omega) (by omega)
   subst hz
   exact Ai rfl (Ei (i+1) (Ai ⟨rfl,rfl,rfl,rfl,rfl,rfl,trivial⟩ (Ai ⟨hlt,ms,cc,ks,_,acc2,_,_,_,_,_,_,im,by omega,gn2,w⟩ (by omega))))
 ·have hin:i=A.length:=by omega
  subst hin
  obtain⟨g1,g2⟩:=gn
  obtain⟨g3,g4,g5⟩:=g2 (by omega)
  rw[List.drop_length]at g5
  have he:cSinter S now A=.ok (listR acc,[]):=g5
  have hM:MapB h4 mb2 ms cc:=w.get 0 rfl
  refine call_ret SI.mKeys_calls ?_
  rintro _ h5 ⟨rfl,rfl⟩
  have w5:=w.ext (SI.keysHeap_chg h4 mb2)
  refine call_ret (SI.sSorted_calls (mb:=mb2) (c:=cc) (ms:=ms) (ks:=ks) ⟨hM,im.keys,im.small,by omega,im.born,im.borns,im.nodup⟩) ?_
  rintro r h6 ⟨Lk,hLs,hLp,hLo,hfb,c6⟩
  have w:=w5.add (e:=slE r Lk) c6 hLs (fun b hb=>by
   have:=hfb b (slE_fp hb)
   show(SI.keysHeap h4 mb2).size≤b
   unfold SI.keysHeap
   simp;omega)
  have hkl:=im.klen
  have hLl:Lk.length≤60000:=by rw[hLp.length_eq,hkl];omega
  obtain⟨ra,rc,rfl,_⟩:=hLs.form
  have hfin:Lk.filter (fun s=>decide (f s=A.length))=acc:=sorted_same (hLo.filter _) g3 fun s=>by
   rw[List.mem_filter,hLp.mem_iff,←g4 s]
   constructor
   ·rintro⟨_,h9⟩;exact of_decide_eq_true h9
   ·intro h9
    refine⟨?_,decide_eq_true h9⟩
    rcases im.val s with⟨_,_,h0⟩|⟨hm,_⟩
    ·omega
    ·exact hm
  have w:=w.empty (enc:=encS) (size:=1)
  refine loop_intro (fun q:Nat×Value=>[(0,ptr ab),(2,ptr b2),(3,.map (some mb2)),(8,q.2),(53,.slice ra Lk.length rc),(54,.int .i64 Lk.length),(55,.int .i64 q.1)])
   (fun q h'=>q.1≤Lk.length∧St (c0 ab kb now (.slice (some ⟨ba,oa,none⟩) A.length ac)).fp h h' [.o encS 1 q.2 ((Lk.take q.1).filter fun s=>decide (f s=A.length)),slE (.slice ra Lk.length rc) Lk,.m mb2 ms cc,.b b2 [.int .i64 0,.int .i64 0,.string ⟨#[]⟩,.slice none 0 0],
    cE ab kb now (.slice (some ⟨ba,oa,none⟩) A.length ac) key t is pv lw rv nilV []])
   (fun q=>Lk.length-q.1) (0,.slice none 0 0) ⟨rfl,rfl,rfl,rfl,rfl,rfl,rfl,trivial⟩ ⟨Nat.zero_le _,w⟩ ?_
  rintro⟨q,v⟩ h7 ⟨hq,w⟩
  replace hq:q≤Lk.length:=hq
  have hfl:=List.length_filter_le (fun s=>decide (f s=A.length)) (Lk.take q)
  rw[List.length_take]at hfl
  obtain⟨a7,c7,rfl,_⟩:=(show OL encS 1 h7 v ((Lk.take q).filter fun s=>decide (f s=A.length))from w.get 0 rfl).sl.form
  refine Ai rfl (Ai (fun hlt=>?_) (fun hge2=>?_))
  ·have hlt:q<Lk.length:=by omega
   have hSL:SL encS h7 (.slice ra Lk.length rc) Lk:=w.get 1 rfl
   obtain⟨b,o,rfl⟩:=hSL.addr (by omega)
   obtain⟨y,hy⟩:∃y,y=Lk[q]:=⟨_,rfl⟩
   have hym:y∈ks:=hLp.mem_iff.1 (by rw[hy];exact List.getElem_mem hlt)
   have htk:Lk.take (q+1)=Lk.take q++[y]:=by rw[List.take_succ_eq_append_getElem hlt,hy]
   refine sl_ix (s:=y) hSL q rfl (by rw[hy];exact List.getElem?_eq_getElem hlt) ?_
   rcases im.val y with⟨hn,_⟩|⟨_,p1,e1⟩
   ·exact absurd hym hn
   refine Ai rfl (Ei ms (Ei cc (Ai (w.get 2 rfl) (Ai im.fits ?_))))
   rw[e1]
   refine w.ldc 4 rfl rfl ?_
   refine Ai rfl (Ai (fun heq=>?_) (fun hne=>?_))
   ·have hfy:decide (f y=A.length)=true:=decide_eq_true (by omega)
    intro b8 h8 g8
    have w:=w.new g8
    refine w.app 1 rfl encS_len encS_one rfl (SL.one encS_len (x:=y) (w.get 0 rfl)) (by simp only[List.length_singleton];omega) fun v' h9 w=>?_
    have hsn:(Lk.take q).filter (fun s=>decide (f s=A.length))++[y]=(Lk.take (q+1)).filter fun s=>decide (f s=A.length):=by
     rw[htk,List.filter_append,List.filter_cons,hfy];rfl
    rw[hsn]at w
    have w:=w.pick [1,2,3,4,5] (by decide)
    refine Ai rfl (fun z hz=>?_)
    have hz:=add_in hz (by omega) (by omega)
    subst hz
    exact Ai rfl (Ei (q+1,v') (Ai ⟨rfl,rfl,rfl,rfl,rfl,rfl,rfl,trivial⟩ (Ai ⟨hlt,w⟩ (by simp only;omega))))
   ·have hfy:decide (f y=A.length)=false:=decide_eq_false (by omega)
    have hsn:(Lk.take q).filter (fun s=>decide (f s=A.length))=(Lk.take (q+1)).filter fun s=>decide (f s=A.length):=by
     rw[htk,List.filter_append,List.filter_cons,hfy];simp
    have ew:(En.o encS 1 (.slice a7 ((Lk.take q).filter fun s=>decide (f s=A.length)).length c7) ((Lk.take q).filter fun s=>decide (f s=A.length)))=.o encS 1 (.slice a7 ((Lk.take q).filter fun s=>decide (f s=A.length)).length c7) ((Lk.take (q+1)).filter fun s=>decide (f s=A.length)):=by rw[←hsn]
    rw[ew]at w
    refine Ai rfl (fun z hz=>?_)
    have hz:=add_in hz (by omega) (by omega)
    subst hz
    exact Ai rfl (Ei (q+1,_) (Ai ⟨rfl,rfl,rfl,rfl,rfl,rfl,rfl,trivial⟩ (Ai ⟨hlt,w⟩ (by simp only;omega))))
  ·have hql:q=Lk.length:=by omega
   subst hql
   have hO:OL encS 1 h7 (.slice a7 ((Lk.take Lk.length).filter fun s=>decide (f s=A.length)).length c7) ((Lk.take Lk.length).filter fun s=>decide (f s=A.length)):=w.get 0 rfl
   refine call_ret (listStr_calls hO.sl (by omega)) ?_
   rintro _ h8 ⟨⟨ra8,rn8,rc8,rfl,ol,fr⟩,c8⟩
   have hz:=w.size
   have w:=w.add (e:=.o encQ 4 (.slice ra8 rn8 rc8) _) c8 ol fr
   refine w.st1 4 rfl rfl rfl rfl fun h9 w=>?_
   refine finl9 x w 4 5 0 rfl rfl rfl (fun b hb=>by have:=fr b hb;omega) ?_
   rw[he,List.take_length,hfin]
   simp[listR,qs,toQ]
end
end Go.Proofs.YtjnijlnmbjjgpaaGreatDoor
namespace Go.Proofs.YtjnijlnmbjjgpaaGreatDoor
open Go Go.Sx C
theorem do9_empty {h:Heap} {kv nv:Value} {a:Option Addr} {cc:Nat}:CallsH Tryz.prog 20 [kv,nv,.slice a 0 cc] h (Ret fun r h'=>r=nothing8∧Chg [] h h'):=by
 refine do9_D (by simp) ?_
 intro b6 h1 g1
 have w:=(St.start h).new g1
 intro b7 h2 g2
 have w:=w.new g2
 refine Ai rfl (Ai (fun _=>?_) (fun h0=>absurd rfl h0))
 refine w.st1 1 rfl rfl rfl rfl fun h5 w=>?_
 refine w.st1 0 rfl rfl rfl rfl fun h6 w=>?_
 exact⟨_,rfl,cells_blk (w.get 1 rfl),_,cell_blk (w.get 0 rfl) rfl,rfl,w.chg⟩
theorem do9_none {h:Heap} {kb sb mb c:Nat} {now:Int} {av:Value} {w _W:ByteArray} {A:List ByteArray} {m:List KI} (kr:KR h kb sb mb c m) (hA:SL encS h av (w::A)) (_hl:(w::A).length<4611686018427387904) (hz:w.size<4611686018427387904) (hno:look9 cmd9 (up w)=none):
  CallsH Tryz.prog 20 [ptr kb,.int .i64 now,av] h (Ret fun r h'=>r=nothing8∧Chg [] h h'):=by
 obtain⟨a,cc,rfl,hcc⟩:=hA.form
 obtain⟨b0,o0,rfl⟩:=hA.addr (by simp)
 refine do9_D (by simp) ?_
 intro b6 h1 g1
 have w1:=(St.start h).new g1
 intro b7 h2 g2
 have w2:=w1.new g2
 have c2:Chg [] h h2:=w2.chg
 refine Ai rfl (Ai (fun h0=>absurd h0 (by simp;omega)) (fun _=>?_))
 refine callp (same_nil (kr.ext c2).ks) ?_
 have hA2:=hA.ext c2
 have hc0:=hA2.cells encS_len (i:=0) (x:=w) (by simp)
 refine Ai (by decide) (Ai (by simp) (Ei _ (Ai (by simpa using hc0 0 _ rfl) ?_)))
 refine callq_ret cmds9_calls ?_
 rintro _ h3 ⟨c3,b,es,c',rfl,hm,hfit,hfd⟩
 refine Ai c3.ext ?_
 refine callq_ret (lword_calls hz) ?_
 rintro _ h4 ⟨rfl,c4⟩
 refine Ai c4.ext ?_
 refine Ai rfl (Ei es (Ei c' (Ai (hm.chg c4 (by simp)) (Ai hfit ?_))))
 have hfind:=hfd (up w)
 rw[hno]at hfind
 have hfind:mfind (.string (up w)) es 0=none:=hfind
 rw[hfind]
 have w4:=(w2.ext c3).ext c4
 refine w4.st1 1 rfl rfl rfl rfl fun h5 w5=>?_
 refine w5.st1 0 rfl rfl rfl rfl fun h6 w6=>?_
 exact⟨_,rfl,cells_blk (w6.get 1 rfl),_,cell_blk (w6.get 0 rfl) rfl,rfl,w6.chg⟩
theorem s9_of {l k:List RX} (nv:NVast l) (hk:ofX [] l=some k) (hr:∀x∈l,∀r∈x.thing.ranks,In64 r.score):S9 (k.map RX.pr):=by
 obtain⟨_,h2,_⟩:=ofX_ok List.Pairwise.nil hk
 intro p hp
 obtain⟨x,hx,rfl⟩:=List.mem_map.1 hp
 have hm:x∈l:=by simpa using(h2 x).1 hx
 have s:=nv.small x hm
 have a:=s.p;have b:=s.l;have c:=s.r
 exact⟨by show x.thing.pairs.length≤_;omega,by show x.thing.list.length≤_;omega,by show x.thing.ranks.length≤_;omega,fun p hp=>(s.ps p hp).2,hr x hm,s.rs,s.ls⟩
def itRT (x:Int×Int×ByteArray):RT:=.mk x.1 x.2.1 x.2.2 (.slice none 0 0) []
theorem sl_rt {h:Heap} {v:Value} {l:List (Int×Int×ByteArray)} (hs:SL encQ h v l):SL encT h v (l.map itRT):=by
 obtain⟨a,c,rfl,h1,h2⟩:=hs
 refine⟨a,c,by rw[List.length_map],by rw[List.length_map];exact h1,?_⟩
 rw[List.length_map,List.flatMap_map]
 exact h2
theorem oks_rt {h:Heap}:∀{l:List (Int×Int×ByteArray)},RT.oks h (l.map itRT)
 |[]=>trivial
 |x::l=>⟨⟨SL.nil,by simp,trivial⟩,oks_rt⟩
theorem rsameQ_calls {h:Heap} {q:Rep} {v u:Value} (hv:SL encQ h v q.l) (hu:SL encQ h u q.l) (hl:q.l.length≤100000):
  CallsH Tryz.prog 27 [.agg ⟨[.int .i64 q.k,.int .i64 q.i,.string q.s,v]⟩,.agg ⟨[.int .i64 q.k,.int .i64 q.i,.string q.s,u]⟩] h (Ret fun r h'=>r=.bool true∧Chg [] h h'):=by
 have hc:=rsame_calls _ (.mk q.k q.i q.s v (q.l.map itRT)) (.mk q.k q.i q.s u (q.l.map itRT)) h (Nat.lt_succ_self _) ⟨sl_rt hv,by simp;omega,oks_rt⟩ ⟨sl_rt hu,by simp;omega,oks_rt⟩
 have e:RT.same (.mk q.k q.i q.s v (q.l.map itRT)) (.mk q.k q.i q.s u (q.l.map itRT))=true:=by simp[RT.same,RT.sames_refl]
 rw[e]at hc
 exact hc
theorem rsameE_calls {h:Heap} {v u:Value} {E:List Eff} (hv:SL encD h v E) (hu:SL encD h u E) (hE:E.length≤100000):CallsH Tryz.prog 32 [v,u] h (Ret fun r h'=>r=.bool true∧h'=h):=by
 obtain⟨a,c,rfl,_⟩:=hv.form
 obtain⟨a',c',rfl,_⟩:=hu.form
 refine f32_calls (by simp) ?_
 refine Ai rfl (Ai (fun hne=>absurd rfl hne) (fun _=>?_))
 refine loop_intro (fun q:Nat=>[(0,.slice a E.length c),(1,.slice a' E.length c'),(5,.int .i64 q)]) (fun q h'=>q≤E.length∧h'=h) (fun q=>E.length-q) 0 ⟨rfl,rfl,rfl,trivial⟩ ⟨Nat.zero_le _,rfl⟩ ?_
 rintro q h' ⟨hq,e⟩
 have e:=e.symm
 subst e
 refine Ai rfl (Ai (fun hlt=>?_) (fun hge=>?_))
 ·have hlt:q<E.length:=by omega
  obtain⟨b,o,rfl⟩:=hv.addr (by omega)
  obtain⟨b',o',rfl⟩:=hu.addr (by omega)
  have hcs:=hv.cells encD_len (List.getElem?_eq_getElem hlt)
  have hds:=hu.cells encD_len (List.getElem?_eq_getElem hlt)
  refine Ai (by omega) (Ai (by omega) (Ei (encD E[q]) (Ai rfl (Ai hcs ?_))))
  refine Ai (by omega) (Ai (by omega) (Ei (encD E[q]) (Ai rfl (Ai hds ?_))))
  refine Ai rfl (Ai rfl (Ai (fun _=>?_) (fun hne=>absurd rfl hne)))
  refine Ai rfl (fun z hz=>?_)
  have hz:=add_in hz (by omega) (by omega)
  subst hz
  exact Ai rfl (Ei (q+1) (Ai ⟨rfl,rfl,rfl,trivial⟩ (Ai ⟨hlt,rfl⟩ (by omega))))
 ·exact Ai rfl rfl
theorem getPr9 {w:List RX} {k:Nat} (hk:k<(w.map RX.pr).length) (hk':k<w.length):(w.map RX.pr)[k]=(w[k].key,w[k].thing):=by
 rw[List.getElem_map];rfl
theorem w9same_calls {h:Heap} {kb sb mb c:Nat} {m:List KI} {v:Value} {w0:List RX} (kr:KR h kb sb mb c m) (hv:SL encX h v w0) (g:GX h w0) (hW:Sorted m (w0.map RX.pr)) (hl:w0.length≤65536):
  CallsH Tryz.prog 33 [ptr kb,v] h (Ret fun r h'=>r=.bool true∧Chg [] h h'):=by
 have hlens:∀x∈w0,Lens x.thing:=by
  intro x hx
  obtain⟨i,hi,hip⟩:=List.mem_map.1 ((hW.mem x.pr).1 (List.mem_map_of_mem hx))
  have:i.thing=x.thing:=congrArg Prod.snd hip
  rw[←this];exact(kr.here i hi).2.2
 obtain⟨a,cc,rfl,hcc⟩:=hv.form
 refine f33_calls (by simp) ?_
 intro b3 h1 g1
 have w:=(St.start h).new g1
 intro b4 h2 g2
 have w:=w.new g2
 intro b5 h3 g3
 have w:=w.new g3
 refine w.st1 0 rfl rfl rfl rfl fun h4 w=>?_
 refine call_ret (All_calls (kb:=kb)) ?_
 rintro _ h5 ⟨bI,rfl,g5⟩
 have w:St [] h h5 [.b bI [ptr kb],.b b5 [.int .i64 0],.b b4 [.bool false],.b b3 [.slice a w0.length cc]]:=w.new g5
 intro l D r h7 hD hl7 hsz hold hmark hloop hy
 have hc7:Chg [] h5 h7:=⟨by omega,fun k hk _=>hold k hk⟩
 have hne:D≠l:=by omega
 have w:=w.add (e:=lpE l D r .ready) hc7 ⟨hloop,hmark⟩ (fun b hb=>by simp[lpE,En.fp]at hb;omega)
 refine(iter_calls hW (fun p k h'=>St [] h h' [ltE p,lpE l D r .ready,.b bI [ptr kb],.b b5 [.int .i64 k],.b b4 [.bool false],.b b3 [.slice a w0.length cc]]) (fun _=>False) (w.get 1 rfl) (kr.ext w.chg)
  (fun p h' hp1 hp2 hc=>w.add (e:=ltE p) hc hp2 (fun b hb=>by simp[ltE,En.fp]at hb;omega)) (fun p k h' w=>⟨w.get 2 rfl,kr.ext w.chg⟩) (fun p k h' h'' w hc=>w.ext hc) (fun p k h' us hk w tu=>?_)).mono ?_
 ·have hkw:k<w0.length:=by simpa using hk
  rw[getPr9 hk hkw]at tu⊢
  have hlp:=w.get 0 rfl
  have w:=w.set (e':=fixE p h'[p]?) 0 rfl (Chg.refl _) (by simp) ⟨hlp,rfl⟩ (fun b hb=>.inl hb)
  refine hy h' _ _ (w.get 1 rfl).1 rfl ?_
  intro b8 h8 g8
  refine Ei _ (Ai g8.blk (Ai (by decide) (Ai tu.len (Ai (thing_one tu) ?_))))
  intro h9 p9
  have g9:Grow h' h9 b8 (splice zeroV 0 us):=g8.put p9
  rw[seven rfl tu.len]at g9
  have w:=w.new g9
  have tu9:TH h9 us w0[k].thing:=tu.ext g9.chg
  have L9:=(w.get 2 rfl).1
  refine Ai L9 (fun h10 t10=>?_)
  have w:=w.turn 2 rfl hne t10
  have tu10:TH h10 us w0[k].thing:=tu9.ch (turn_ch L9 t10)
  have hv10:=hv.ext w.chg
  have hx10:=(g.ext w.chg) w0[k] (List.getElem_mem hkw)
  obtain⟨b,o,rfl⟩:=hv10.addr (by omega)
  have hcs:=hv10.cells encX_len (i:=k) (x:=w0[k]) (by simp[hkw])
  refine w.ld1 4 rfl rfl ?_
  refine w.ld1 6 rfl rfl ?_
  refine Ai rfl (Ai (fun hge=>absurd hge (by omega)) (fun _=>?_))
  refine w.ld1 6 rfl rfl ?_
  refine w.ld1 4 rfl rfl ?_
  refine Ai (by omega) (Ai (by omega) (Ei _ (Ai (hcs 0 _ rfl) ?_)))
  refine Ai (fun hne=>absurd rfl hne) (fun _=>?_)
  refine Ei us (Ai tu10.len (Ai (cells_blk (w.get 0 rfl)) ?_))
  refine w.ld1 6 rfl rfl ?_
  refine w.ld1 4 rfl rfl ?_
  refine Ai (by omega) (Ai (by omega) (Ei w0[k].vs (Ai w0[k].len (Ai (cells_vs hcs) ?_))))
  have hfk:=(hlens w0[k] (List.getElem_mem hkw)).fits
  refine call_ret (RSame_calls tu10 hx10 hfk hfk) ?_
  rintro r11 h11 ⟨hr11,c11⟩
  rw[decide_eq_true rfl]at hr11
  subst hr11
  have w:=w.ext c11
  refine w.ld1 4 rfl rfl ?_
  refine Ai rfl (fun z hz=>?_)
  have hz:=add_in hz (by omega) (by omega)
  subst hz
  refine w.st1 4 rfl rfl rfl rfl fun h12 w=>?_
  refine Ai (w.get 2 rfl).1 (fun h13 t13=>?_)
  have w:=w.turn 2 rfl hne t13
  have hfx:=w.get 1 rfl
  have w:=(w.pick [1,2,3,4,5,6] (by decide))
  have w:=w.set (e':=ltE p) 0 rfl (Chg.refl _) (by simp) hfx.1 (fun b hb=>.inl hb)
  exact .inl ⟨rfl,w,hfx.2⟩
 ·intro e h8 he
  cases e with
  |panicked ch=>exact he.elim
  |outgrown=>exact he.elim
  |returned u=>
   obtain⟨p,w⟩|hF:=he
   rotate_left
   ·exact hF.elim
   refine⟨.ready,none,(w.get 1 rfl).1,by simp,fun h9 t9=>?_⟩
   have w:=w.turn 1 rfl hne t9
   refine w.ld1 3 rfl rfl ?_
   refine w.ld1 5 rfl rfl ?_
   refine Ai rfl (Ai (fun _=>?_) (fun hne=>absurd (by simp) hne))
   refine w.st1 4 rfl rfl rfl rfl fun h10 w=>?_
   refine Ai (w.get 1 rfl).2 (fun h11 p11=>?_)
   have w:=w.gone 1 rfl p11.chg (fun b hb=>.inl (by simp at hb;simp[lpE,En.fp,hb]))
   refine Ei _ (Ai (cell_blk (w.get 4 rfl) rfl) ?_)
   exact Ai rfl w.chg
def outR:Res→Rep×List Eff
 |.ok p=>p
 |.error why=>(rep 2 0 why,[])
theorem DoR.out {h h':Heap} {r:Value} {res:Res} (x:DoR h res r h'):Chg [] h h'∧∃ra rn rc la lc,r=.tuple ⟨[.agg ⟨[.int .i64 (outR res).1.k,.int .i64 (outR res).1.i,.string (outR res).1.s,.slice ra rn rc]⟩,.slice la (outR res).2.length lc,.bool true]⟩∧
  SL encQ h' (.slice ra rn rc) (outR res).1.l∧SL encD h' (.slice la (outR res).2.length lc) (outR res).2:=by
 obtain⟨c,x⟩:=x
 cases res with
 |error why=>
  have x:r=.tuple ⟨[repV 2 0 why,.slice none 0 0,.bool true]⟩:=x
  subst x
  exact⟨c,none,0,0,none,0,rfl,SL.nil,SL.nil⟩
 |ok p=>
  obtain⟨q,E⟩:=p
  obtain⟨v,lv,rfl,⟨ra,rn,rc,rfl,hq,_⟩,hs,_⟩:=x
  obtain⟨la,lc,rfl,_⟩:=hs.form
  exact⟨c,ra,rn,rc,la,lc,rfl,hq,hs⟩
def Short (res:Res):Prop:=(outR res).1.l.length≤100000∧(outR res).2.length≤100000
def ByP9 (now:Int) (AA:List ByteArray) (res:Space→Res):Prop:=∀{h:Heap} {kb sb mb c:Nat} {m:List KI} {S:Space} {av:Value},KR h kb sb mb c m→Sorted m S→S8 S→S9 S→LaidN h→K5.TabH h→SL encS h av AA→CallsH Tryz.prog 20 [ptr kb,.int .i64 now,av] h (Ret (DoR h (res S)))
def ByR9 (now:Int) (AA:List ByteArray) (res:Space→Res):Prop:=∀{h:Heap} {kv av:Value} {k:List RX},SL encX h kv k→GX h k→UpX k→k.length≤20→KeysFit k→S8 (k.map RX.pr)→S9 (k.map RX.pr)→LaidN h→SL encS h av AA→CallsH Tryz.prog 31 [kv,.int .i64 now,av] h (Ret (DoR h (res (k.map RX.pr))))
theorem does9_calls {h:Heap} {v av:Value} {l:List RX} {now:Int} {AA:List ByteArray} {res:Space→Res} (hv:SL encX h v l) (g:GX h l) (nv:NVast l) (hun:∀x∈l,In64 x.thing.unt) (hri:∀x∈l,∀r∈x.thing.ranks,In64 r.score) (hla:LaidN h) (ht:K5.TabH h) (hA:SL encS h av AA) (hp:ByP9 now AA res) (hr:ByR9 now AA res)
  (hsh:∀S,S8 S→S9 S→Short (res S)):CallsH Tryz.prog 14 [v,.int .i64 now,av] h (Ret fun r h'=>r=.bool true∧Chg [] h h'):=by
 refine f14_calls (by simp) ?_
 refine call_ret (KOf_calls hv g nv) ?_
 rintro r1 h1 ⟨c1,ho⟩
 cases hk2:ofX [] l with
 |none=>
  rw[hk2]at ho
  subst ho
  refine call_ret (ROf_calls (hv.ext c1) (g.ext c1) nv) ?_
  rintro r2 h2 ⟨c2,hr2⟩
  have c02:=c1.nil c2
  rw[hk2]at hr2
  subst hr2
  refine Ai rfl (Ai (fun _=>?_) (fun hne=>absurd (by decide) hne))
  refine Ai rfl (Ai (fun _=>?_) (fun hne=>absurd rfl hne))
  exact Ai rfl c02
 |some k=>
  rw[hk2]at ho
  obtain⟨kb,sb,mb,c,m,rfl,kr,hpr,hmb⟩:=ho
  refine call_ret (ROf_calls (hv.ext c1) (g.ext c1) nv) ?_
  rintro r2 h2 ⟨c2,hr2⟩
  have c02:=c1.nil c2
  rw[hk2]at hr2
  obtain⟨w,rfl,hw,hwb⟩:=hr2
  have hW:=sorted_of hpr hk2
  obtain⟨hup,hmem,hkl⟩:=ofX_ok List.Pairwise.nil hk2
  have hnl:=nv.len
  have hkl:k.length=l.length:=by simpa using hkl
  have hkf:KeysFit k:=fun x hx=>nv.fit x (by simpa using(hmem x).1 hx)
  have gk:GX h2 k:=fun x hx=>(g.ext c02) x (by simpa using(hmem x).1 hx)
  have s8:=s8_of nv hk2 hun
  have s9:=s9_of nv hk2 hri
  have hsh:=hsh _ s8 s9
  refine Ai rfl (Ai (fun hne=>absurd rfl hne) (fun _=>?_))
  refine Ai rfl (Ai (fun hne=>absurd rfl hne) (fun _=>?_))
  refine call_ret (hp (kr.ext c2) hW s8 s9 (hla.ext c02) (tab9 ht c02) (hA.ext c02)) ?_
  rintro r3 h3 h3r
  obtain⟨c3,ra,rn,rc,la,lc,rfl,hq,hE⟩:=h3r.out
  intro b11 h4 g4
  have u:=(St.start h3).new g4
  refine u.st1 0 rfl rfl rfl rfl fun h5 u=>?_
  have c25:=c3.nil u.chg
  refine call_ret (hr (hw.sl.ext c25) (gk.ext c25) hup (by omega) hkf s8 s9 (hla.ext (c02.nil c25)) (hA.ext (c02.nil c25))) ?_
  rintro r6 h6 h6r
  obtain⟨c6,ra',rn',rc',la',lc',rfl,hq',hE'⟩:=h6r.out
  have u:=u.ext c6
  intro b14 h7 g7
  have u:=u.new g7
  have z7:=(St.start h6).new g7
  refine u.st2 0 rfl rfl rfl rfl fun h8 u k8=>?_
  have c68:Chg [] h6 h8:=g7.chg.fresh k8 (by simp;have:=g7.id;omega)
  refine Ai (fun _=>?_) (fun hne=>absurd rfl hne)
  refine u.ldw 1 rfl rfl ?_
  refine u.ldw 0 rfl rfl ?_
  refine call_ret (rsameQ_calls (hq.ext u.chg) (hq'.ext c68) hsh.1) ?_
  rintro _ h9 ⟨rfl,c9⟩
  have u:=u.ext c9
  refine call_ret (rsameE_calls (hE.ext u.chg) (hE'.ext (c68.nil c9)) hsh.2) ?_
  rintro _ h10 ⟨rfl,e10⟩
  have e10:=e10.symm
  subst e10
  have c2f:=c3.nil u.chg
  refine call_ret (w9same_calls ((kr.ext c2).ext c2f) (hw.sl.ext c2f) (gk.ext c2f) hW (by omega)) ?_
  rintro _ h11 ⟨rfl,c11⟩
  exact Ai rfl ((c02.nil c2f).nil c11)
section
variable {S:Space} {now kd:Int} {key s u:ByteArray} {names:List ByteArray} {f:Thing→Res} {res:Res} {r:Rep} {E:List Eff} {a b:Res}
theorem kindlyR_ok (h:okK kd (getS S key now)=true):kindly S now kd key f=f ((getS S key now).getD zeroT):=by
 unfold kindly
 cases hg:getS S key now with
 |none=>rfl
 |some t=>
  rw[hg]at h
  exact if_pos (of_decide_eq_true h)
theorem kindlyR_no (h:okK kd (getS S key now)=false):kindly S now kd key f=.error wType:=by
 unfold kindly
 cases hg:getS S key now with
 |none=>rw[hg]at h;cases h
 |some t=>
  rw[hg]at h
  exact if_neg (of_decide_eq_false h)
theorem makes_ok {items:Int} {ok:Bool} (h1:items≤65536) (h2:key.size≤300) (h3:ok=true):makes S now key items ok r E=.ok (r,dropsS S key now++E):=if_pos ⟨h1,by omega,h3⟩
theorem all_small {l:List ByteArray} (h:∀s∈l,s.size≤300):l.all small=true:=List.all_eq_true.2 fun s hs=>decide_eq_true (by have:=h s hs;omega)
end
end Go.Proofs.YtjnijlnmbjjgpaaGreatDoor
namespace Go.Proofs.YtjnijlnmbjjgpaaGreatDoor
open Go Go.Sx C
section
variable {h0 h h1 h':Heap} {xb i:Nat} {now n m:Int} {kv av lv pv lw rv:Value} {k:List RX} {A:List ByteArray} {L E:List Eff} {why key s u nm:ByteArray} {t:Thing} {M:List En} {T:List Nat} {res:Res}
theorem ix_first {α:Type} {l:List α} {p:α→Bool} {k:Nat} (hk:k<l.length) (hp:p l[k]=true) (hn:∀j (hj:j<l.length),j<k→p l[j]=false):l.find? p=some l[k]:=by
 rw[List.find?_eq_some_iff_append]
 refine⟨hp,l.take k,l.drop (k+1),?_,fun x hx=>?_⟩
 ·rw[List.getElem_cons_drop,List.take_append_drop]
 ·obtain⟨j,hj,rfl⟩:=List.mem_iff_getElem.1 hx
  rw[List.length_take]at hj
  rw[List.getElem_take,hn j (by omega) (by omega)]
  rfl
theorem rfield_calls (x:As h0 h (aT xb t pv lw rv key kv now av lv L why)) (g:RG9 h0 kv k av A key t pv lw rv):CallsH Tryz.prog 129 [ptr xb,.string nm] h
  (Ret fun r h'=>((fieldF t.pairs nm=none∧r=.tuple #[.string noText,.bool false])∨∃s,fieldF t.pairs nm=some s∧r=.tuple #[.string s,.bool true])∧h'=h):=by
 have w:=x.st
 have hsl:=(th_lists (g.th h (x.base w))).1
 obtain⟨la,lc,rfl,_⟩:=hsl.form
 have ln:t.pairs.length≤2000:=g.t9.ps
 refine f129_calls (by simp) ?_
 refine loop_intro (fun i:Nat=>[(0,ptr xb),(1,.string nm),(6,.int .i64 i)]) (fun i h'=>i≤t.pairs.length∧(∀j (hj:j<t.pairs.length),j<i→t.pairs[j].name≠nm)∧h'=h) (fun i=>t.pairs.length-i) 0
  ⟨rfl,rfl,rfl,trivial⟩ ⟨Nat.zero_le _,fun j _ h=>absurd h (by omega),rfl⟩ ?_
 rintro i h4 ⟨hi,hall,e⟩
 have e:=e.symm
 subst e
 refine w.ldr9 0 rfl rfl ?_
 refine Ai rfl (Ai (fun hlt=>?_) (fun hge=>?_))
 ·have hlt:i<t.pairs.length:=by omega
  obtain⟨b,o,rfl⟩:=hsl.addr (by omega)
  have hcs:=hsl.cells encP_len (List.getElem?_eq_getElem hlt)
  refine w.ldr9 0 rfl rfl ?_
  refine Ai (by omega) (Ai (by omega) (Ei _ (Ai (by simpa using hcs 0 _ rfl) ?_)))
  refine Ai (fun he=>?_) (fun hne=>?_)
  ·refine w.ldr9 0 rfl rfl ?_
   refine Ai (by omega) (Ai (by omega) (Ei _ (Ai (by simpa using hcs 1 _ rfl) ?_)))
   have hf:t.pairs.find? (fun p=>decide (p.name=nm))=some t.pairs[i]:=ix_first hlt (decide_eq_true he) fun j hj h=>decide_eq_false (hall j hj h)
   exact⟨.inr ⟨t.pairs[i].text,by unfold fieldF;rw[hf];rfl,rfl⟩,rfl⟩
  ·refine Ai rfl (fun z hz=>?_)
   have hz:=add_in hz (by omega) (by omega)
   subst hz
   refine Ai rfl (Ei (i+1) (Ai ⟨rfl,rfl,rfl,trivial⟩ (Ai ⟨hlt,fun j hj h=>?_,rfl⟩ (by omega))))
   rcases Nat.lt_or_ge j i with h3|h3
   ·exact hall j hj h3
   ·obtain rfl:j=i:=by omega
    exact hne
 ·have hf:fieldF t.pairs nm=none:=by
   unfold fieldF
   rw[List.find?_eq_none.2 fun x hx=>by
    obtain⟨j,hj,rfl⟩:=List.mem_iff_getElem.1 hx
    rw[decide_eq_false (hall j hj (by omega))];simp]
   rfl
  exact⟨.inl ⟨hf,rfl⟩,rfl⟩
theorem rmember_calls (x:As h0 h (aT xb t pv lw rv key kv now av lv L why)) (g:RG9 h0 kv k av A key t pv lw rv):CallsH Tryz.prog 122 [ptr xb,.string nm] h
  (Ret fun r h'=>((nm∉t.list∧r=.bool false)∨(nm∈t.list∧r=.bool true))∧h'=h):=by
 have w:=x.st
 have hsl:=(th_lists (g.th h (x.base w))).2.1
 obtain⟨la,lc,rfl,_⟩:=hsl.form
 have ln:t.list.length≤2000:=g.t9.ls
 refine f122_calls (by simp) ?_
 refine loop_intro (fun i:Nat=>[(0,ptr xb),(1,.string nm),(5,.int .i64 i)]) (fun i h'=>i≤t.list.length∧(∀j (hj:j<t.list.length),j<i→t.list[j]≠nm)∧h'=h) (fun i=>t.list.length-i) 0
  ⟨rfl,rfl,rfl,trivial⟩ ⟨Nat.zero_le _,fun j _ h=>absurd h (by omega),rfl⟩ ?_
 rintro i h4 ⟨hi,hall,e⟩
 have e:=e.symm
 subst e
 refine w.ldr9 0 rfl rfl ?_
 refine Ai rfl (Ai (fun hlt=>?_) (fun hge=>?_))
 ·have hlt:i<t.list.length:=by omega
  obtain⟨b,o,rfl⟩:=hsl.addr (by omega)
  have hcs:=hsl.cells encS_len (List.getElem?_eq_getElem hlt)
  refine w.ldr9 0 rfl rfl ?_
  refine Ai (by omega) (Ai (by omega) (Ei _ (Ai (by simpa using hcs 0 _ rfl) ?_)))
  refine Ai (fun he=>?_) (fun hne=>?_)
  ·exact⟨.inr ⟨by rw[←he];exact List.getElem_mem hlt,rfl⟩,rfl⟩
  ·refine Ai rfl (fun z hz=>?_)
   have hz:=add_in hz (by omega) (by omega)
   subst hz
   refine Ai rfl (Ei (i+1) (Ai ⟨rfl,rfl,rfl,trivial⟩ (Ai ⟨hlt,fun j hj h=>?_,rfl⟩ (by omega))))
   rcases Nat.lt_or_ge j i with h3|h3
   ·exact hall j hj h3
   ·obtain rfl:j=i:=by omega
    exact hne
 ·refine⟨.inl ⟨fun hm=>?_,rfl⟩,rfl⟩
  obtain⟨j,hj,he⟩:=List.mem_iff_getElem.1 hm
  exact hall j hj (by omega) he
theorem rscore_calls (x:As h0 h (aT xb t pv lw rv key kv now av lv L why)) (g:RG9 h0 kv k av A key t pv lw rv):CallsH Tryz.prog 138 [ptr xb,.string nm] h
  (Ret fun r h'=>((scoreF t.ranks nm=none∧t.ranks.findIdx? (fun r=>decide (r.name=nm))=none∧r=.tuple #[.int .i64 0,.int .i64 0,.bool false])∨
   ∃(i:Nat) (z:Int),scoreF t.ranks nm=some z∧t.ranks.findIdx? (fun r=>decide (r.name=nm))=some i∧r=.tuple #[.int .i64 i,.int .i64 z,.bool true])∧h'=h):=by
 have w:=x.st
 have hsl:=(th_lists (g.th h (x.base w))).2.2
 obtain⟨la,lc,rfl,_⟩:=hsl.form
 have ln:t.ranks.length≤2000:=g.t9.rs
 refine f138_calls (by simp) ?_
 refine loop_intro (fun i:Nat=>[(0,ptr xb),(1,.string nm),(7,.int .i64 i)]) (fun i h'=>i≤t.ranks.length∧(∀j (hj:j<t.ranks.length),j<i→t.ranks[j].name≠nm)∧h'=h) (fun i=>t.ranks.length-i) 0
  ⟨rfl,rfl,rfl,trivial⟩ ⟨Nat.zero_le _,fun j _ h=>absurd h (by omega),rfl⟩ ?_
 rintro i h4 ⟨hi,hall,e⟩
 have e:=e.symm
 subst e
 refine w.ldr9 0 rfl rfl ?_
 refine Ai rfl (Ai (fun hlt=>?_) (fun hge=>?_))
 ·have hlt:i<t.ranks.length:=by omega
  obtain⟨b,o,rfl⟩:=hsl.addr (by omega)
  have hcs:=hsl.cells encR_len (List.getElem?_eq_getElem hlt)
  refine w.ldr9 0 rfl rfl ?_
  refine Ai (by omega) (Ai (by omega) (Ei _ (Ai (by simpa using hcs 0 _ rfl) ?_)))
  refine Ai (fun he=>?_) (fun hne=>?_)
  ·refine w.ldr9 0 rfl rfl ?_
   refine Ai (by omega) (Ai (by omega) (Ei _ (Ai (by simpa using hcs 1 _ rfl) ?_)))
   have hf:t.ranks.find? (fun p=>decide (p.name=nm))=some t.ranks[i]:=ix_first hlt (decide_eq_true he) fun j hj h=>decide_eq_false (hall j hj h)
   refine⟨.inr ⟨i,t.ranks[i].score,by unfold scoreF;rw[hf];rfl,?_,rfl⟩,rfl⟩
   rw[List.findIdx?_eq_some_iff_getElem]
   exact⟨hlt,decide_eq_true he,fun j hj=>by simpa using hall j (by omega) hj⟩
  ·refine Ai rfl (fun z hz=>?_)
   have hz:=add_in hz (by omega) (by omega)
   subst hz
   refine Ai rfl (Ei (i+1) (Ai ⟨rfl,rfl,rfl,trivial⟩ (Ai ⟨hlt,fun j hj h=>?_,rfl⟩ (by omega))))
   rcases Nat.lt_or_ge j i with h3|h3
   ·exact hall j hj h3
   ·obtain rfl:j=i:=by omega
    exact hne
 ·have hno:∀x∈t.ranks,decide (x.name=nm)=false:=fun x hx=>by
   obtain⟨j,hj,rfl⟩:=List.mem_iff_getElem.1 hx
   exact decide_eq_false (hall j hj (by omega))
  refine⟨.inl ⟨?_,?_,rfl⟩,rfl⟩
  ·unfold scoreF
   rw[List.find?_eq_none.2 fun x hx=>by rw[hno x hx];simp]
   rfl
  ·rw[List.findIdx?_eq_none_iff]
   exact hno
theorem rthere2_calls (x:As h0 h (aT xb t pv lw rv key kv now av lv L why)) (g:RG9 h0 kv k av A key t pv lw rv):CallsH Tryz.prog 125 [ptr xb,.int .i64 2,.string nm] h
  (Ret fun r h'=>((thereH t.pairs nm=false∧r=.bool false)∨(thereH t.pairs nm=true∧r=.bool true))∧h'=h):=by
 refine f125_calls (by simp) ?_
 refine Ai rfl (Ai (fun _=>?_) (fun hne=>absurd rfl hne))
 refine call_ret (rfield_calls x g) ?_
 rintro _ h2 ⟨hr,e⟩
 have e:=e.symm
 subst e
 rcases hr with⟨hf,rfl⟩|⟨s,hf,rfl⟩
 ·exact⟨.inl ⟨by unfold thereH;rw[hf];rfl,rfl⟩,rfl⟩
 ·exact⟨.inr ⟨by unfold thereH;rw[hf];rfl,rfl⟩,rfl⟩
theorem rthere4_calls (x:As h0 h (aT xb t pv lw rv key kv now av lv L why)) (g:RG9 h0 kv k av A key t pv lw rv):CallsH Tryz.prog 125 [ptr xb,.int .i64 4,.string nm] h
  (Ret fun r h'=>((thereL t.list nm=false∧r=.bool false)∨(thereL t.list nm=true∧r=.bool true))∧h'=h):=by
 refine f125_calls (by simp) ?_
 refine Ai rfl (Ai (fun he=>absurd he (by decide)) (fun _=>?_))
 refine Ai rfl (Ai (fun _=>?_) (fun hne=>absurd rfl hne))
 refine call_ret (rmember_calls x g) ?_
 rintro _ h2 ⟨hr,e⟩
 have e:=e.symm
 subst e
 rcases hr with⟨hf,rfl⟩|⟨hf,rfl⟩
 ·exact⟨.inl ⟨decide_eq_false hf,rfl⟩,rfl⟩
 ·exact⟨.inr ⟨decide_eq_true hf,rfl⟩,rfl⟩
theorem rthere5_calls (x:As h0 h (aT xb t pv lw rv key kv now av lv L why)) (g:RG9 h0 kv k av A key t pv lw rv):CallsH Tryz.prog 125 [ptr xb,.int .i64 5,.string nm] h
  (Ret fun r h'=>((thereR t.ranks nm=false∧r=.bool false)∨(thereR t.ranks nm=true∧r=.bool true))∧h'=h):=by
 refine f125_calls (by simp) ?_
 refine Ai rfl (Ai (fun he=>absurd he (by decide)) (fun _=>?_))
 refine Ai rfl (Ai (fun he=>absurd he (by decide)) (fun _=>?_))
 refine call_ret (rscore_calls x g) ?_
 rintro _ h2 ⟨hr,e⟩
 have e:=e.symm
 subst e
 rcases hr with⟨hf,_,rfl⟩|⟨i,z,hf,_,rfl⟩
 ·exact⟨.inl ⟨by unfold thereR;rw[hf];rfl,rfl⟩,rfl⟩
 ·exact⟨.inr ⟨by unfold thereR;rw[hf];rfl,rfl⟩,rfl⟩
theorem rahead_calls {p f0 st:Nat} (x:As h0 h (aT xb t pv lw rv key kv now av lv L why)) (c:RC9 h0 kv k av A) (hA:A.length≤20) (hp:p<A.length) (hst:1≤st) (hs2:st≤2):CallsH Tryz.prog 126 [ptr xb,.int .i64 p,.int .i64 f0,.int .i64 st] h
  (Ret fun r h'=>(((∀q,f0+q*st<p→A[f0+q*st]? ≠A[p]?)∧r=.bool false)∨((∃q,f0+q*st<p∧A[f0+q*st]? =A[p]?)∧r=.bool true))∧h'=h):=by
 have w:=x.st
 obtain⟨b,o,cc,rfl⟩:=c.argF (by omega)
 refine f126_calls (by simp) ?_
 refine loop_intro (fun q:Nat=>[(0,ptr xb),(1,.int .i64 p),(3,.int .i64 st),(9,.int .i64 ((f0+q*st:Nat):Int))]) (fun q h'=>(∀j,j<q→f0+j*st<p→A[f0+j*st]? ≠A[p]?)∧h'=h) (fun q=>p+st-(f0+q*st)) 0
  ⟨rfl,rfl,rfl,by show _=some (Value.int .i64 ((f0+0*st:Nat):Int));rw[Nat.zero_mul];rfl,trivial⟩ ⟨fun j h=>absurd h (by omega),rfl⟩ ?_
 rintro q h4 ⟨hall,e⟩
 have e:=e.symm
 subst e
 refine Ai rfl (Ai (fun hlt=>?_) (fun hge=>?_))
 ·have hlt:f0+q*st<p:=by omega
  refine w.ldr9 0 rfl rfl ?_
  refine c.ix (x.base w) (f0+q*st) rfl (List.getElem?_eq_getElem (by omega)) ?_
  refine w.ldr9 0 rfl rfl ?_
  refine c.ix (x.base w) p rfl (List.getElem?_eq_getElem hp) ?_
  refine Ai (fun he=>?_) (fun hne=>?_)
  ·exact⟨.inr ⟨⟨q,hlt,by rw[List.getElem?_eq_getElem (by omega),List.getElem?_eq_getElem hp,he]⟩,rfl⟩,rfl⟩
  ·refine Ai rfl (fun z hz=>?_)
   have hm:(q+1)*st=q*st+st:=Nat.succ_mul q st
   have hz:z=((f0+(q+1)*st:Nat):Int):=(hz.trans (wrap_in (by omega) (by omega))).trans (by omega)
   subst hz
   refine Ai rfl (Ei (q+1) (Ai ⟨rfl,rfl,rfl,rfl,trivial⟩ (Ai ⟨fun j hj h=>?_,rfl⟩ (by omega))))
   rcases Nat.lt_or_ge j q with h3|h3
   ·exact hall j h3 h
   ·obtain rfl:j=q:=by omega
    rw[List.getElem?_eq_getElem (by omega),List.getElem?_eq_getElem hp]
    exact fun he=>hne (Option.some.inj he)
 ·refine⟨.inl ⟨fun j hj=>hall j ?_ hj,rfl⟩,rfl⟩
  rcases Nat.lt_or_ge j q with h3|h3
  ·exact h3
  ·have:=Nat.mul_le_mul_right st h3
   omega
end
end Go.Proofs.YtjnijlnmbjjgpaaGreatDoor
namespace Go.Proofs.YtjnijlnmbjjgpaaGreatDoor
open Go Go.Sx C
section
variable {h0 h h1 h':Heap} {xb i:Nat} {now n m:Int} {kv av lv pv lw rv:Value} {k:List RX} {A l:List ByteArray} {L E:List Eff} {why key s u nm:ByteArray} {t:Thing} {M:List En} {T:List Nat} {res:Res}
theorem ahead_in9 {q:Nat} (hq:q<l.length) (h:∃j,1+j*1<q+1∧(key::l)[1+j*1]? =(key::l)[q+1]?):l[q]∈l.take q:=by
 obtain⟨j,h1,h2⟩:=h
 have e:1+j*1=j+1:=by omega
 rw[e,List.getElem?_cons_succ,List.getElem?_cons_succ,List.getElem?_eq_getElem (by omega),List.getElem?_eq_getElem hq]at h2
 rw[←Option.some.inj h2]
 exact List.mem_iff_getElem.2 ⟨j,by rw[List.length_take];omega,by rw[List.getElem_take]⟩
theorem ahead_no9 {q:Nat} (hq:q<l.length) (h:∀j,1+j*1<q+1→(key::l)[1+j*1]? ≠(key::l)[q+1]?):l[q]∉l.take q:=by
 intro hm
 obtain⟨j,hj,he⟩:=List.mem_iff_getElem.1 hm
 rw[List.length_take]at hj
 rw[List.getElem_take]at he
 refine h j (by omega) ?_
 have e:1+j*1=j+1:=by omega
 rw[e,List.getElem?_cons_succ,List.getElem?_cons_succ,List.getElem?_eq_getElem (by omega),List.getElem?_eq_getElem hq,he]
set_option maxHeartbeats 1000000 in
theorem raway_calls {kd op:Int} {th:ByteArray→Bool} (hth:∀{h1:Heap} {lv:Value} {L:List Eff} {nm:ByteArray},As h0 h1 (aT xb t pv lw rv key kv now av lv L noText)→CallsH Tryz.prog 125 [ptr xb,.int .i64 kd,.string nm] h1 (Ret fun r h'=>((th nm=false∧r=.bool false)∨(th nm=true∧r=.bool true))∧h'=h1))
  (x:As h0 h (aT xb t pv lw rv key kv now av lv [] noText)) (g:RG9 h0 kv k av (key::l) key t pv lw rv):CallsH Tryz.prog 131 [ptr xb,.int .i64 kd,.int .i64 op] h
  (Ret (Reply9 h0 h xb t pv lw rv key kv now av lv (.ok (numR (hereL th l).length,(hereL th l).map fun n=>⟨op,key,n,noText,0⟩)))):=by
 have al:=g.al
 simp only[List.length_cons]at al
 obtain⟨b,o,cc,rfl⟩:=g.c.argF (by simp)
 refine f131_calls (by simp) ?_
 intro b6 h1 g1
 have w:=x.st.new g1
 have hlen:∀q,(newL (fun n=>!th n) [] (l.take q)).length≤20:=fun q=>by
  have:=newL_len (th:=fun n=>!th n) (l:=l.take q) (pre:=[])
  rw[List.length_take]at this
  omega
 obtain⟨mk',hmk⟩:∃mk':ByteArray→Eff,mk'=fun n=>⟨op,key,n,noText,0⟩:=⟨_,rfl⟩
 refine loop_intro (fun q:Nat×Value=>[(0,ptr xb),(1,.int .i64 kd),(2,.int .i64 op),(6,ptr b6),(7,.int .i64 ((newL (fun n=>!th n) [] (l.take q.1)).length:Nat)),(8,.int .i64 ((q.1+1:Nat):Int))])
  (fun q h'=>q.1≤l.length∧St (xb::vblk lv) h h' [.b b6 [.int .i64 0,.int .i64 0,.string ⟨#[]⟩,.slice none 0 0],aT xb t pv lw rv key kv now (.slice (some ⟨b,o,none⟩) (key::l).length cc) q.2 ((newL (fun n=>!th n) [] (l.take q.1)).map mk') noText])
  (fun q=>l.length-q.1) (0,lv) ⟨rfl,rfl,rfl,rfl,rfl,rfl,trivial⟩ ⟨Nat.zero_le _,w⟩ ?_
 rintro⟨q,lq⟩ h4 ⟨hq,w⟩
 have hq:q≤l.length:=hq
 have hl4:=hlen q
 have hl5:(newL (fun n=>!th n) [] (l.take (q,lq).1)).length≤20:=hl4
 have w:St (xb::vblk lv) h h4 [.b b6 [.int .i64 0,.int .i64 0,.string ⟨#[]⟩,.slice none 0 0],aT xb t pv lw rv key kv now (.slice (some ⟨b,o,none⟩) (key::l).length cc) lq ((newL (fun n=>!th n) [] (l.take q)).map mk') noText]:=w
 refine w.ldr9 1 rfl rfl ?_
 refine Ai rfl (Ai (fun hlt=>?_) (fun hge=>?_))
 ·have hlt:q<l.length:=by simp only[List.length_cons]at hlt;omega
  have hsn:=newL_snoc (th:=fun n=>!th n) hlt
  have next:∀{h5:Heap} {lv2:Value} {c:Bool},(!(!th l[q])&&decide (l[q]∉l.take q))=c→St (xb::vblk lv) h h5 [.b b6 [.int .i64 0,.int .i64 0,.string ⟨#[]⟩,.slice none 0 0],aT xb t pv lw rv key kv now (.slice (some ⟨b,o,none⟩) (key::l).length cc) lv2 ((newL (fun n=>!th n) [] (l.take q)).map mk'++(if c=true then[mk' l[q]]else[])) noText]→
    St (xb::vblk lv) h h5 [.b b6 [.int .i64 0,.int .i64 0,.string ⟨#[]⟩,.slice none 0 0],aT xb t pv lw rv key kv now (.slice (some ⟨b,o,none⟩) (key::l).length cc) lv2 ((newL (fun n=>!th n) [] (l.take (q+1))).map mk') noText]:=fun{h5 lv2 c} hc w=>by
   rw[hsn,hc]
   cases c with
   |true=>rw[if_pos rfl]at w⊢;rw[List.map_append];exact w
   |false=>rw[if_neg (by decide)]at w⊢;rw[List.map_append];exact w
  refine w.ldr9 1 rfl rfl ?_
  refine g.c.ix (x.base w) (q+1) rfl (s:=l[q]) (by simp[hlt]) ?_
  refine call_ret (hth (x.out w 1 rfl).1) ?_
  rintro _ h5 ⟨hr,e5⟩
  have e5:=e5.symm
  subst e5
  have no:(!(!th l[q])&&decide (l[q]∉l.take q))=false→St (xb::vblk lv) h h4 [.b b6 [.int .i64 0,.int .i64 0,.string ⟨#[]⟩,.slice none 0 0],aT xb t pv lw rv key kv now (.slice (some ⟨b,o,none⟩) (key::l).length cc) lq ((newL (fun n=>!th n) [] (l.take (q+1))).map mk') noText]∧(newL (fun n=>!th n) [] (l.take (q+1))).length=(newL (fun n=>!th n) [] (l.take q)).length:=fun hc=>
   ⟨next hc (by rw[if_neg (by decide),List.append_nil];exact w),by rw[hsn,hc,if_neg (by decide),List.append_nil]⟩
  rcases hr with⟨hf,rfl⟩|⟨hf,rfl⟩
  ·obtain⟨w,hln⟩:=no (by rw[hf];rfl)
   refine Ai rfl (fun z hz=>?_)
   have hz:=add_in hz (by omega) (by omega)
   subst hz
   exact Ai rfl (Ei (q+1,_) (Ai ⟨rfl,rfl,rfl,rfl,by rw[hln];rfl,rfl,trivial⟩ (Ai ⟨hlt,w⟩ (by simp only;omega))))
  ·refine call_ret (rahead_calls (p:=q+1) (f0:=1) (st:=1) (x.out w 1 rfl).1 g.c (by simp only[List.length_cons];omega) (by simp only[List.length_cons];omega) (Nat.le_refl _) (by omega)) ?_
   rintro _ h6 ⟨hr,e6⟩
   have e6:=e6.symm
   subst e6
   rcases hr with⟨ha,rfl⟩|⟨ha,rfl⟩
   ·have hc:(!(!th l[q])&&decide (l[q]∉l.take q))=true:=by rw[hf,decide_eq_true (ahead_no9 hlt ha)];rfl
    refine Ai rfl (fun z hz=>?_)
    have hz:=add_in hz (by omega) (by omega)
    subst hz
    refine w.ldr9 1 rfl rfl ?_
    refine g.c.ix (x.base w) (q+1) rfl (s:=l[q]) (by simp[hlt]) ?_
    refine call_ret (rtake9_calls (x.out w 1 rfl).1 (by simp only[List.length_map];omega)) ?_
    rintro _ h7 ⟨lv2,_,o7⟩
    have w:=w.own 1 rfl o7
    have w:=next hc (by rw[if_pos rfl,hmk];rw[hmk]at w;exact w)
    have hln:(newL (fun n=>!th n) [] (l.take (q+1))).length=(newL (fun n=>!th n) [] (l.take q)).length+1:=by rw[hsn,hc,if_pos rfl];simp
    refine Ai rfl (fun z hz=>?_)
    have hz:=add_in hz (by omega) (by omega)
    subst hz
    exact Ai rfl (Ei (q+1,_) (Ai ⟨rfl,rfl,rfl,rfl,by rw[hln];rfl,rfl,trivial⟩ (Ai ⟨hlt,w⟩ (by simp only;omega))))
   ·obtain⟨w,hln⟩:=no (by rw[decide_eq_false (fun hn=>hn (ahead_in9 hlt ha)),Bool.and_false])
    refine Ai rfl (fun z hz=>?_)
    have hz:=add_in hz (by omega) (by omega)
    subst hz
    exact Ai rfl (Ei (q+1,_) (Ai ⟨rfl,rfl,rfl,rfl,by rw[hln];rfl,rfl,trivial⟩ (Ai ⟨hlt,w⟩ (by simp only;omega))))
 ·have hkl:q=l.length:=by simp only[List.length_cons]at hge;omega
  subst hkl
  refine w.callv rInt9_calls fun h6 w=>?_
  refine w.st1 0 rfl rfl rfl rfl fun h7 w=>?_
  rw[List.take_length]at w
  exact Reply9.fin x w 0 1 rfl rfl (Jd9.ok (by rw[hmk];unfold hereL;rfl))
end
end Go.Proofs.YtjnijlnmbjjgpaaGreatDoor

namespace Go.Proofs.YtjnijlnmbjjgpaaGreatDoor
open Go Go.Sx C
def hT (n s:ByteArray):Thing:=⟨2,noText,[⟨n,s⟩],[],[],false,0⟩
end Go.Proofs.YtjnijlnmbjjgpaaGreatDoor
namespace Go.Proofs.YtjnijlnmbjjgpaaGreatDoor
open Go Go.Sx C
section
variable {h:Heap} {kb sb mb:Nat} {now z:Int} {av:Value} {key n s:ByteArray}
theorem itoa_300 (hz:In64 z):(⟨⟨Lib.itoa z⟩⟩:ByteArray).size≤300:=by
 have h9:(Lib.itoa (0+z)).length≤20:=itoa_len (k:=0) (n:=z) ⟨by have:=hz.1;omega,by have:=hz.2;omega⟩
 rw[Int.zero_add]at h9
 show(Lib.itoa z).length≤_
 omega
end
end Go.Proofs.YtjnijlnmbjjgpaaGreatDoor
namespace Go.Proofs.YtjnijlnmbjjgpaaGreatDoor
open Go Go.Sx C
section
variable {h0 h h1 h':Heap} {xb i:Nat} {now n m:Int} {kv av lv pv lw rv:Value} {k:List RX} {A l:List ByteArray} {L E:List Eff} {why key s u nm:ByteArray} {t:Thing} {M:List En} {T:List Nat} {res:Res}
theorem rhlen_calls (x:As h0 h (aT xb t pv lw rv key kv now av lv [] noText)) (g:RG9 h0 kv k av A key t pv lw rv):CallsH Tryz.prog 60 [ptr xb,.string ⟨#[72,76,69,78]⟩] h
  (Ret (Reply9 h0 h xb t pv lw rv key kv now av lv (.ok (numR t.pairs.length,[])))):=by
 refine f60_calls (by simp) ?_
 intro b4 h1 g1
 have w:=x.st.new g1
 have hsl:=fun h2 hc=>(th_lists (g.th h2 hc)).1
 obtain⟨la,lc,rfl,_⟩:=(hsl h0 (Chg.refl _)).form
 have ln:t.pairs.length≤2000:=g.t9.ps
 refine Ai (fun he=>absurd he (by decide)) (fun _=>?_)
 refine Ai (fun he=>absurd he (by decide)) (fun _=>?_)
 refine Ai (fun he=>absurd he (by decide)) (fun _=>?_)
 refine Ai (fun _=>?_) (fun he=>absurd rfl he)
 refine w.ldr9 1 rfl rfl ?_
 refine w.callv rInt9_calls fun h2 w=>?_
 refine w.st1 0 rfl rfl rfl rfl fun h3 w=>?_
 exact Reply9.fin x w 0 1 rfl rfl (Jd9.ok rfl)
theorem rhget_calls (x:As h0 h (aT xb t pv lw rv key kv now av lv [] noText)) (g:RG9 h0 kv k av [key,s] key t pv lw rv):CallsH Tryz.prog 60 [ptr xb,.string ⟨#[72,71,69,84]⟩] h
  (Ret (Reply9 h0 h xb t pv lw rv key kv now av lv (match fieldF t.pairs s with
   |some u=>.ok (textR u,[])
   |none=>.ok (nilR,[])))):=by
 refine f60_calls (by simp) ?_
 intro b4 h1 g1
 have w:=x.st.new g1
 have hsl:=fun h2 hc=>(th_lists (g.th h2 hc)).1
 obtain⟨la,lc,rfl,_⟩:=(hsl h0 (Chg.refl _)).form
 have ln:t.pairs.length≤2000:=g.t9.ps
 obtain⟨b,o,cc,rfl⟩:=g.c.argF (by simp)
 refine Ai (fun he=>absurd he (by decide)) (fun _=>?_)
 refine Ai (fun _=>?_) (fun he=>absurd rfl he)
 refine w.ldr9 1 rfl rfl ?_
 refine g.c.ix (x.base w) 1 rfl rfl ?_
 refine call_ret (rfield_calls (x.out w 1 rfl).1 g) ?_
 rintro _ h2 ⟨hr,e⟩
 have e:=e.symm
 subst e
 rcases hr with⟨hf,rfl⟩|⟨v,hf,rfl⟩
 ·refine w.st1 0 rfl rfl rfl rfl fun h3 w=>?_
  exact Reply9.fin (a:=0) (m:=0) (s:=noText) x w 0 1 rfl rfl (Jd9.ok (by rw[hf];rfl))
 ·refine w.callv rText9_calls fun h4 w=>?_
  refine w.st1 0 rfl rfl rfl rfl fun h5 w=>?_
  exact Reply9.fin x w 0 1 rfl rfl (Jd9.ok (by rw[hf];rfl))
theorem rhall_calls (x:As h0 h (aT xb t pv lw rv key kv now av lv [] noText)) (g:RG9 h0 kv k av A key t pv lw rv):CallsH Tryz.prog 60 [ptr xb,.string ⟨#[72,71,69,84,65,76,76]⟩] h
  (Ret (Reply9 h0 h xb t pv lw rv key kv now av lv (.ok (listR (t.pairs.flatMap fun p=>[p.name,p.text]),[])))):=by
 refine f60_calls (by simp) ?_
 intro b4 h1 g1
 have w:=x.st.new g1
 have hsl:=fun h2 hc=>(th_lists (g.th h2 hc)).1
 obtain⟨la,lc,rfl,_⟩:=(hsl h0 (Chg.refl _)).form
 have ln:t.pairs.length≤2000:=g.t9.ps
 refine Ai (fun he=>absurd he (by decide)) (fun _=>?_)
 refine Ai (fun he=>absurd he (by decide)) (fun _=>?_)
 refine Ai (fun he=>absurd he (by decide)) (fun _=>?_)
 refine Ai (fun he=>absurd he (by decide)) (fun _=>?_)
 refine Ai (fun _=>?_) (fun he=>absurd rfl he)
 have two:∀p:Pair,((fun p:Pair=>[p.name,p.text]) p).length≤2:=fun p=>Nat.le_refl _
 have w:=w.empty (enc:=encS) (size:=1)
 refine loop_intro (fun q:Nat×Value=>[(0,ptr xb),(4,ptr b4),(9,q.2),(10,.int .i64 q.1)])
  (fun q h'=>q.1≤t.pairs.length∧St (xb::vblk lv) h h' [.o encS 1 q.2 ((t.pairs.take q.1).flatMap fun p=>[p.name,p.text]),.b b4 [.int .i64 0,.int .i64 0,.string ⟨#[]⟩,.slice none 0 0],aT xb t (.slice la t.pairs.length lc) lw rv key kv now av lv [] noText])
  (fun q=>t.pairs.length-q.1) (0,.slice none 0 0) ⟨rfl,rfl,rfl,rfl,trivial⟩ ⟨Nat.zero_le _,w⟩ ?_
 rintro⟨q,v⟩ h4 ⟨hq,w⟩
 have hq:q≤t.pairs.length:=hq
 have w:St (xb::vblk lv) h h4 [.o encS 1 v ((t.pairs.take q).flatMap fun p=>[p.name,p.text]),.b b4 [.int .i64 0,.int .i64 0,.string ⟨#[]⟩,.slice none 0 0],aT xb t (.slice la t.pairs.length lc) lw rv key kv now av lv [] noText]:=w
 have hln:=flat_len two (t.pairs.take q)
 rw[List.length_take]at hln
 obtain⟨a4,c4,rfl,_⟩:=(show OL encS 1 h4 v _ from w.get 0 rfl).sl.form
 refine w.ldr9 2 rfl rfl ?_
 refine Ai rfl (Ai (fun hlt=>?_) (fun hge=>?_))
 ·have hlt:q<t.pairs.length:=by omega
  obtain⟨b,o,rfl⟩:=(hsl h0 (Chg.refl _)).addr (by omega)
  have hcs:=(hsl _ (x.base w)).cells encP_len (List.getElem?_eq_getElem hlt)
  refine w.ldr9 2 rfl rfl ?_
  refine Ai (by omega) (Ai (by omega) (Ei _ (Ai (by simpa using hcs 0 _ rfl) ?_)))
  refine w.ldr9 2 rfl rfl ?_
  refine Ai (by omega) (Ai (by omega) (Ei _ (Ai (by simpa using hcs 1 _ rfl) ?_)))
  intro b9 h8 g8
  have w:=w.new g8
  have s2:SL encS h8 (.slice (some ⟨b9,0,none⟩) 2 2) [t.pairs[q].name,t.pairs[q].text]:=⟨_,2,rfl,Nat.le_refl _,by exact cells_blk g8.blk⟩
  refine w.app 1 rfl encS_len encS_one rfl s2 (by simp only[List.length_cons,List.length_nil];omega) fun v' h9 w=>?_
  rw[←flat_take (f:=fun p:Pair=>[p.name,p.text]) hlt]at w
  have w:=w.pick [1,2,3] (by decide)
  refine Ai rfl (fun z hz=>?_)
  have hz:=add_in hz (by omega) (by omega)
  subst hz
  exact Ai rfl (Ei (q+1,_) (Ai ⟨rfl,rfl,rfl,rfl,trivial⟩ (Ai ⟨hlt,w⟩ (by simp only;omega))))
 ·have hkl:q=t.pairs.length:=by omega
  subst hkl
  have se:=(show OL encS 1 h4 _ ((t.pairs.take t.pairs.length).flatMap fun p=>[p.name,p.text])from w.get 0 rfl).sl
  have hle:=Nat.min_le_left t.pairs.length t.pairs.length
  refine call_ret (rtexts_calls se (by omega)) ?_
  rintro _ h5 ⟨⟨ra,rn,rc,rfl,sl,fr⟩,c5⟩
  have zz:=w.chg.size
  have l4:b4<h4.size:=(show Blk h4 b4 _ from w.get 1 rfl).lt
  have w:=w.ext c5
  refine w.st2 1 rfl rfl rfl rfl fun h6 w k6=>?_
  exact⟨_,rfl,cells_blk (w.get 1 rfl),listR ((t.pairs.take t.pairs.length).flatMap fun p=>[p.name,p.text]),lv,[],noText,⟨ra,rn,rc,rfl,sl.chg k6 (fun b hb=>by have:=fr b hb;simp;omega),fun b hb=>by have:=fr b hb;omega⟩,⟨t,_,_,_,key,x.out w 2 rfl⟩,Jd9.ok (by rw[List.take_length])⟩
theorem rhdel_calls (x:As h0 h (aT xb t pv lw rv key kv now av lv [] noText)) (g:RG9 h0 kv k av (key::l) key t pv lw rv):CallsH Tryz.prog 60 [ptr xb,.string ⟨#[72,68,69,76]⟩] h
  (Ret (Reply9 h0 h xb t pv lw rv key kv now av lv (.ok (numR (hereL (thereH t.pairs) l).length,(hereL (thereH t.pairs) l).map fun n=>⟨6,key,n,noText,0⟩)))):=by
 refine f60_calls (by simp) ?_
 intro b4 h1 g1
 have w:=x.st.new g1
 have hsl:=fun h2 hc=>(th_lists (g.th h2 hc)).1
 obtain⟨la,lc,rfl,_⟩:=(hsl h0 (Chg.refl _)).form
 have ln:t.pairs.length≤2000:=g.t9.ps
 refine Ai (fun he=>absurd he (by decide)) (fun _=>?_)
 refine Ai (fun he=>absurd he (by decide)) (fun _=>?_)
 refine Ai (fun _=>?_) (fun he=>absurd rfl he)
 refine call_ret (raway_calls (th:=thereH t.pairs) (fun x=>rthere2_calls x g) (x.out w 1 rfl).1 g) ?_
 rintro _ h2 ⟨q,lv',E,why,⟨ra,rn,rc,rfl,sl,fr⟩,⟨t',pv',lw',rv',key',_,o2⟩,hd⟩
 have l4:b4<h1.size:=(show Blk h1 b4 _ from w.get 0 rfl).lt
 have z1:=w.chg.size
 have w:=w.own 1 rfl o2
 refine w.st2 0 rfl rfl rfl rfl fun h3 w k3=>?_
 exact⟨_,rfl,cells_blk (w.get 0 rfl),q,lv',E,why,⟨ra,rn,rc,rfl,sl.chg k3 (fun b hb=>by have:=fr b hb;simp;omega),fun b hb=>by have:=fr b hb;omega⟩,⟨t',pv',lw',rv',key',x.out w 1 rfl⟩,hd⟩
set_option maxHeartbeats 1000000 in
theorem rhincr_calls (hn:numOf s=some n) (hla:LaidN h0) (x:As h0 h (aT xb t pv lw rv key kv now av lv [] noText)) (g:RG9 h0 kv k av [key,nm,s] key t pv lw rv):CallsH Tryz.prog 60 [ptr xb,.string ⟨#[72,73,78,67,82,66,89]⟩] h
  (Ret (Reply9 h0 h xb t pv lw rv key kv now av lv (numbered ((fieldF t.pairs nm).getD zeroS) fun m=>addTo m n fun z=>.ok (numR z,dropsS (k.map RX.pr) key now++[hashE key nm ⟨⟨Lib.itoa z⟩⟩])))):=by
 refine f60_calls (by simp) ?_
 intro b4 h1 g1
 have w:=x.st.new g1
 have hsl:=fun h2 hc=>(th_lists (g.th h2 hc)).1
 obtain⟨la,lc,rfl,_⟩:=(hsl h0 (Chg.refl _)).form
 have ln:t.pairs.length≤2000:=g.t9.ps
 obtain⟨b,o,cc,rfl⟩:=g.c.argF (by simp)
 refine Ai (fun he=>absurd he (by decide)) (fun _=>?_)
 refine Ai (fun he=>absurd he (by decide)) (fun _=>?_)
 refine Ai (fun he=>absurd he (by decide)) (fun _=>?_)
 refine Ai (fun he=>absurd he (by decide)) (fun _=>?_)
 refine Ai (fun he=>absurd he (by decide)) (fun _=>?_)
 have zk:=g.ks
 have zn:=g.az nm (by simp)
 have zs:=g.az s (by simp)
 have n64:=numOf_in hn
 have tail:∀{h2:Heap} {m items:Int},numOf ((fieldF t.pairs nm).getD zeroS)=some m→items≤65536→St (xb::vblk lv) h h2 [.b b4 [.int .i64 0,.int .i64 0,.string ⟨#[]⟩,.slice none 0 0],aT xb t (.slice la t.pairs.length lc) lw rv key kv now (.slice (some ⟨b,o,none⟩) [key,nm,s].length cc) lv [] noText]→
   swp Tryz.prog (.seq (.ops f60r40) (.seq (.seq (.ops f60r41) (.cond (.tmp 203) (.ops f60r42) .skip)) (.seq (.ops f60r43) .ret)))
    (retQ [.cn 4 4] (Ret (Reply9 h0 h xb t (.slice la t.pairs.length lc) lw rv key kv now (.slice (some ⟨b,o,none⟩) [key,nm,s].length cc) lv (numbered ((fieldF t.pairs nm).getD zeroS) fun m=>addTo m n fun z=>.ok (numR z,dropsS (k.map RX.pr) key now++[hashE key nm ⟨⟨Lib.itoa z⟩⟩])))))
    (mk [(0,ptr xb),(4,ptr b4),(11,.int .i64 n),(15,.int .i64 m),(17,.int .i64 items)]) [] h2:=by
  intro h2 m items hm hi w
  unfold numbered
  rw[hm]
  refine call_ret (rplus9_calls (numOf_in hm) n64 (x.out w 1 rfl).1) ?_
  rintro _ h6 (⟨ho,rfl,_,o6⟩|⟨ho,rfl,_,o6⟩)
  ·have w:=w.own 1 rfl o6
   have z300:=itoa_300 (z:=m+n) ho
   refine w.ldr9 1 rfl rfl ?_
   refine g.c.ix (x.base w) 1 rfl rfl ?_
   refine w.callqv (format_calls (hla.ext (x.base w)) ho.1 ho.2) fun h7 w=>?_
   refine call_ret (rput9_calls g.c (x.out w 1 rfl).1 (by simp) hi (by omega) (by omega) (by omega)) ?_
   rintro _ h8 ⟨rfl,lv2,_,o8⟩
   have w:=w.own 1 rfl o8
   refine w.callv rInt9_calls fun h9 w=>?_
   refine w.st1 0 rfl rfl rfl rfl fun h10 w=>?_
   exact Reply9.fin x w 0 1 rfl rfl (Jd9.ok (if_pos ho))
  ·have w:=w.own 1 rfl o6
   refine w.callv rInt9_calls fun h9 w=>?_
   refine w.st1 0 rfl rfl rfl rfl fun h10 w=>?_
   exact Reply9.fin x w 0 1 rfl rfl (Jd9.no (why:=wOver) (by decide) (if_neg ho))
 refine w.ldr9 1 rfl rfl ?_
 refine g.c.ix (x.base w) 2 rfl rfl ?_
 refine callp (rnum_some (by omega) hn) ?_
 refine w.ldr9 1 rfl rfl ?_
 refine g.c.ix (x.base w) 1 rfl rfl ?_
 refine call_ret (rfield_calls (x.out w 1 rfl).1 g) ?_
 rintro _ h2 ⟨hr,e⟩
 have e:=e.symm
 subst e
 rcases hr with⟨hf,rfl⟩|⟨v,hf,rfl⟩
 ·refine w.ldr9 1 rfl rfl ?_
  refine Ai rfl (fun z hz=>?_)
  have hz:=add_in hz (by omega) (by omega)
  subst hz
  refine cut_at [(0,ptr xb),(4,ptr b4),(11,.int .i64 n),(14,.bool false),(15,.int .i64 0),(16,.bool true),(17,.int .i64 ((t.pairs.length+1:Nat):Int))] ⟨rfl,rfl,rfl,rfl,rfl,rfl,rfl,trivial⟩ ?_
  refine ass_go ?_
  refine mv_go (v:=.bool false) rfl ?_
  refine cnd_go (t:=false) rfl ?_
  refine skp_go ?_
  refine ass_go ?_
  refine not_go (v:=true) rfl rfl ?_
  refine cnd_go (t:=false) rfl ?_
  refine skp_go ?_
  exact cut_at [(0,ptr xb),(4,ptr b4),(11,.int .i64 n),(15,.int .i64 0),(17,.int .i64 ((t.pairs.length+1:Nat):Int))] ⟨rfl,rfl,rfl,rfl,rfl,trivial⟩ (tail (by rw[hf];kernel_rfl) (by omega) w)
 ·refine w.ldr9 1 rfl rfl ?_
  refine Ai rfl (fun z hz=>?_)
  have hz:=add_in hz (by omega) (by omega)
  subst hz
  refine Ai rfl (fun z hz=>?_)
  have hz:z=(t.pairs.length:Int):=hz.trans ((wrap_in (by omega) (by omega)).trans (by omega))
  subst hz
  have hv:v.size<4611686018427387904:=by
   unfold fieldF at hf
   cases hp:t.pairs.find? (fun p=>decide (p.name=nm))with
   |none=>rw[hp]at hf;cases hf
   |some p=>
    rw[hp]at hf
    have:=g.t9.pt p (List.mem_of_find?_eq_some hp)
    rw[←Option.some.inj hf]
    omega
  cases hm:numOf v with
  |none=>
   refine callp (show CallsH _ _ _ _ (Ret fun r h'=>r=.tuple #[.int .i64 0,.bool false]∧h'=h1)by have:=rnum89_calls (h:=h1) hv;rwa [hm]at this) ?_
   refine w.stw9 1 rfl fun h3 w=>?_
   refine w.st1 0 rfl rfl rfl rfl fun h4 w=>?_
   refine Reply9.fin (a:=0) (m:=0) (s:=noText) x w 0 1 rfl rfl (Jd9.no (why:=wNum) (by decide) ?_)
   unfold numbered
   rw[hf,show(some v).getD zeroS=v from rfl,hm]
  |some mm=>
   refine callp (rnum_some hv hm) ?_
   refine cut_at [(0,ptr xb),(4,ptr b4),(11,.int .i64 n),(15,.int .i64 mm),(16,.bool true),(17,.int .i64 (t.pairs.length:Int))] ⟨rfl,rfl,rfl,rfl,rfl,rfl,trivial⟩ ?_
   refine ass_go ?_
   refine not_go (v:=true) rfl rfl ?_
   refine cnd_go (t:=false) rfl ?_
   refine skp_go ?_
   exact cut_at [(0,ptr xb),(4,ptr b4),(11,.int .i64 n),(15,.int .i64 mm),(17,.int .i64 (t.pairs.length:Int))] ⟨rfl,rfl,rfl,rfl,rfl,trivial⟩ (tail (by rw[hf];exact hm) (by omega) w)
end
end Go.Proofs.YtjnijlnmbjjgpaaGreatDoor
namespace Go.Proofs.YtjnijlnmbjjgpaaGreatDoor
open Go Go.Sx C
def accG (S:Space) (key:ByteArray) (now:Int) (Es:List Eff) (j:Nat):List Eff:=if j=0 then[]else dropsS S key now++Es.take j
theorem accG_next {S:Space} {key:ByteArray} {now:Int} {Es:List Eff} {e:Eff} {j:Nat} (hj:Es[j]? =some e):preL S key now (accG S key now Es j)++[e]=accG S key now Es (j+1):=by
 obtain⟨hlt,he⟩:=List.getElem?_eq_some_iff.1 hj
 unfold accG preL
 rw[if_neg (by omega:¬j+1=0),List.take_succ_eq_append_getElem hlt,he]
 cases j with
 |zero=>simp
 |succ j=>
  have h1:¬(j+1=0):=by omega
  have h2:¬((dropsS S key now++Es.take (j+1)).length=0):=by rw[List.length_append,List.length_take];omega
  rw[if_neg h1,if_neg h2,List.append_assoc]
theorem accG_len {S:Space} {key:ByteArray} {now:Int} {Es:List Eff} {j:Nat} (hl:Es.length≤20):(accG S key now Es j).length≤100:=by
 unfold accG
 have:=drops_len S key now
 split
 ·simp
 ·simp only[List.length_append,List.length_take];omega
section
variable {h0 h h1 h':Heap} {xb i:Nat} {now n m:Int} {kv av lv pv lw rv:Value} {k:List RX} {A l:List ByteArray} {L E:List Eff} {why key s u nm:ByteArray} {t:Thing} {M:List En} {T:List Nat} {res:Res}
theorem twos_fst {q:Nat} (h:2*q+1<l.length):((twos l).map Prod.fst)[q]? =some l[2*q]:=by
 rw[List.getElem?_map,twos_get h];rfl
theorem ahead2_in {q:Nat} (hq:2*q+1<l.length) (h:∃j,1+j*2<1+q*2∧(key::l)[1+j*2]? =(key::l)[1+q*2]?):l[2*q]∈((twos l).map Prod.fst).take q:=by
 obtain⟨j,h1,h2⟩:=h
 have e:1+j*2=2*j+1:=by omega
 have e':1+q*2=2*q+1:=by omega
 rw[e,e',List.getElem?_cons_succ,List.getElem?_cons_succ,List.getElem?_eq_getElem (by omega),List.getElem?_eq_getElem (by omega)]at h2
 rw[←Option.some.inj h2]
 refine List.mem_iff_getElem?.2 ⟨j,?_⟩
 rw[List.getElem?_take_of_lt (by omega),twos_fst (by omega)]
theorem ahead2_no {q:Nat} (hq:2*q+1<l.length) (h:∀j,1+j*2<1+q*2→(key::l)[1+j*2]? ≠(key::l)[1+q*2]?):l[2*q]∉((twos l).map Prod.fst).take q:=by
 intro hm
 obtain⟨j,he⟩:=List.mem_iff_getElem?.1 hm
 have hj:j<q:=by
  obtain⟨hlt,_⟩:=List.getElem?_eq_some_iff.1 he
  rw[List.length_take]at hlt
  omega
 rw[List.getElem?_take_of_lt hj,twos_fst (by omega)]at he
 refine h j (by omega) ?_
 have e:1+j*2=2*j+1:=by omega
 have e':1+q*2=2*q+1:=by omega
 rw[e,e',List.getElem?_cons_succ,List.getElem?_cons_succ,List.getElem?_eq_getElem (by omega),List.getElem?_eq_getElem (by omega),Option.some.inj he]
set_option maxHeartbeats 2000000 in
theorem rhset_calls (x:As h0 h (aT xb t pv lw rv key kv now av lv [] noText)) (g:RG9 h0 kv k av (key::l) key t pv lw rv) (h2:2≤l.length) (hev:l.length%2=0):CallsH Tryz.prog 60 [ptr xb,.string ⟨#[72,83,69,84]⟩] h
  (Ret (Reply9 h0 h xb t pv lw rv key kv now av lv (.ok (numR (newL (thereH t.pairs) [] ((twos l).map Prod.fst)).length,dropsS (k.map RX.pr) key now++(twos l).map fun p=>hashE key p.1 p.2)))):=by
 have al:=g.al
 simp only[List.length_cons]at al
 obtain⟨b,o,cc,rfl⟩:=g.c.argF (by simp)
 refine f60_calls (by simp) ?_
 intro b4 h1 g1
 have w:=x.st.new g1
 have hsl:=fun h2 hc=>(th_lists (g.th h2 hc)).1
 obtain⟨la,lc,rfl,_⟩:=(hsl h0 (Chg.refl _)).form
 have ln:t.pairs.length≤2000:=g.t9.ps
 have zk:=g.ks
 obtain⟨N,hN⟩:∃N,N=(twos l).map Prod.fst:=⟨_,rfl⟩
 obtain⟨Es,hEs⟩:∃Es,Es=(twos l).map fun p=>hashE key p.1 p.2:=⟨_,rfl⟩
 have hhalf:=twos_half (Nat.le_refl l.length)
 have hNl:N.length=(twos l).length:=by rw[hN];exact List.length_map _
 have hEl:Es.length=(twos l).length:=by rw[hEs];exact List.length_map _
 have hnl:∀q,(newL (thereH t.pairs) [] (N.take q)).length≤20:=fun q=>by
  have:=newL_len (th:=thereH t.pairs) (l:=N.take q) (pre:=[])
  rw[List.length_take]at this
  omega
 rw[←hN,←hEs]
 refine Ai (fun _=>?_) (fun he=>absurd rfl he)
 refine loop_intro (fun q:Nat×Value=>[(0,ptr xb),(4,ptr b4),(5,.int .i64 ((newL (thereH t.pairs) [] (N.take q.1)).length:Nat)),(6,.int .i64 ((1+q.1*2:Nat):Int))])
  (fun q h'=>2*q.1≤l.length∧St (xb::vblk lv) h h' [.b b4 [.int .i64 0,.int .i64 0,.string ⟨#[]⟩,.slice none 0 0],aT xb t (.slice la t.pairs.length lc) lw rv key kv now (.slice (some ⟨b,o,none⟩) (key::l).length cc) q.2 (accG (k.map RX.pr) key now Es q.1) noText])
  (fun q=>l.length-2*q.1) (0,lv) ⟨rfl,rfl,rfl,rfl,trivial⟩ ⟨Nat.zero_le _,w⟩ ?_
 rintro⟨q,lq⟩ h4 ⟨hq,w⟩
 have hq:2*q≤l.length:=hq
 have hn4:=hnl q
 have hn5:(newL (thereH t.pairs) [] (N.take (q,lq).1)).length≤20:=hn4
 have la2:=accG_len (S:=k.map RX.pr) (key:=key) (now:=now) (Es:=Es) (j:=q) (by omega)
 have w:St (xb::vblk lv) h h4 [.b b4 [.int .i64 0,.int .i64 0,.string ⟨#[]⟩,.slice none 0 0],aT xb t (.slice la t.pairs.length lc) lw rv key kv now (.slice (some ⟨b,o,none⟩) (key::l).length cc) lq (accG (k.map RX.pr) key now Es q) noText]:=w
 refine w.ldr9 1 rfl rfl ?_
 refine Ai rfl (Ai (fun hlt=>?_) (fun hge=>?_))
 ·have hlt:2*q+1<l.length:=by simp only[List.length_cons]at hlt;omega
  have hNq:N[q]? =some l[2*q]:=by have e:=twos_fst hlt;rw[←hN]at e;exact e
  have hNlt:q<N.length:=(List.getElem?_eq_some_iff.1 hNq).1
  have hNe:N[q]=l[2*q]:=(List.getElem?_eq_some_iff.1 hNq).2
  have hEq:Es[q]? =some ⟨5,key,l[2*q],l[2*q+1],0⟩:=by
   have e:((twos l).map fun p=>hashE key p.1 p.2)[q]? =some (hashE key l[2*q] l[2*q+1]):=by rw[List.getElem?_map,twos_get hlt];rfl
   rw[←hEs]at e;exact e
  have hA1:(key::l)[1+q*2]? =some l[2*q]:=by rw[show 1+q*2=2*q+1 by omega,List.getElem?_cons_succ,List.getElem?_eq_getElem (by omega)]
  have hA2:(key::l)[1+q*2+1]? =some l[2*q+1]:=by rw[show 1+q*2+1=(2*q+1)+1 by omega,List.getElem?_cons_succ,List.getElem?_eq_getElem hlt]
  have zn:=g.az l[2*q] (List.mem_cons_of_mem _ (List.getElem_mem _))
  have zt:=g.az l[2*q+1] (List.mem_cons_of_mem _ (List.getElem_mem _))
  have ain:=ahead2_in (key:=key) hlt
  have ano:=ahead2_no (key:=key) hlt
  rw[←hN]at ain ano
  have hsn:=newL_snoc (th:=thereH t.pairs) hNlt
  rw[hNe]at hsn
  refine w.ldr9 1 rfl rfl ?_
  refine g.c.ix (x.base w) (1+q*2) rfl hA1 ?_
  refine call_ret (rthere2_calls (x.out w 1 rfl).1 g) ?_
  rintro _ h5 ⟨hr,e5⟩
  have e5:=e5.symm
  subst e5
  have same:(!thereH t.pairs l[2*q]&&decide (l[2*q]∉N.take q))=false→(newL (thereH t.pairs) [] (N.take (q+1))).length=(newL (thereH t.pairs) [] (N.take q)).length:=fun hc=>by rw[hsn,hc,if_neg (by decide),List.append_nil]
  rcases hr with⟨hf,rfl⟩|⟨hf,rfl⟩
  ·refine call_ret (rahead_calls (p:=1+q*2) (f0:=1) (st:=2) (x.out w 1 rfl).1 g.c (by simp only[List.length_cons];omega) (by simp only[List.length_cons];omega) (by omega) (Nat.le_refl _)) ?_
   rintro _ h6 ⟨hr,e6⟩
   have e6:=e6.symm
   subst e6
   rcases hr with⟨ha,rfl⟩|⟨ha,rfl⟩
   ·have hc:(!thereH t.pairs l[2*q]&&decide (l[2*q]∉N.take q))=true:=by rw[hf,decide_eq_true (ano ha)];rfl
    have hln:(newL (thereH t.pairs) [] (N.take (q+1))).length=(newL (thereH t.pairs) [] (N.take q)).length+1:=by rw[hsn,hc,if_pos rfl];simp
    refine Ai rfl (fun z hz=>?_)
    have hz:=add_in hz (by omega) (by omega)
    subst hz
    refine w.ldr9 1 rfl rfl ?_
    refine g.c.ix (x.base w) (1+q*2) rfl hA1 ?_
    refine w.ldr9 1 rfl rfl ?_
    refine Ai rfl (fun z hz=>?_)
    have hz:=add_in hz (by omega) (by omega)
    subst hz
    refine g.c.ix (x.base w) (1+q*2+1) rfl hA2 ?_
    refine w.ldr9 1 rfl rfl ?_
    refine Ai rfl (fun z hz=>?_)
    have hz:z=(t.pairs.length:Int)+(((newL (thereH t.pairs) [] (N.take q)).length+1:Nat):Int):=hz.trans (wrap_in (by omega) (by omega))
    subst hz
    refine call_ret (rput9_calls g.c (x.out w 1 rfl).1 (Nat.le_trans la2 (by omega)) (by omega) (by omega) (by omega) (by omega)) ?_
    rintro _ h6 ⟨rfl,lv2,_,o6⟩
    have w:=w.own 1 rfl o6
    rw[accG_next hEq]at w
    refine Ai rfl (fun z hz=>?_)
    have hz:z=((1+(q+1)*2:Nat):Int):=(hz.trans (wrap_in (by omega) (by omega))).trans (by omega)
    subst hz
    exact Ai rfl (Ei (q+1,_) (Ai ⟨rfl,rfl,by rw[hln];rfl,rfl,trivial⟩ (Ai ⟨by show 2*(q+1)≤_;omega,w⟩ (by simp only;omega))))
   ·have hln:=same (by rw[decide_eq_false (fun hn=>hn (ain ha)),Bool.and_false])
    refine w.ldr9 1 rfl rfl ?_
    refine g.c.ix (x.base w) (1+q*2) rfl hA1 ?_
    refine w.ldr9 1 rfl rfl ?_
    refine Ai rfl (fun z hz=>?_)
    have hz:=add_in hz (by omega) (by omega)
    subst hz
    refine g.c.ix (x.base w) (1+q*2+1) rfl hA2 ?_
    refine w.ldr9 1 rfl rfl ?_
    refine Ai rfl (fun z hz=>?_)
    have hz:z=(t.pairs.length:Int)+(((newL (thereH t.pairs) [] (N.take q)).length:Nat):Int):=hz.trans (wrap_in (by omega) (by omega))
    subst hz
    refine call_ret (rput9_calls g.c (x.out w 1 rfl).1 (Nat.le_trans la2 (by omega)) (by omega) (by omega) (by omega) (by omega)) ?_
    rintro _ h6 ⟨rfl,lv2,_,o6⟩
    have w:=w.own 1 rfl o6
    rw[accG_next hEq]at w
    refine Ai rfl (fun z hz=>?_)
    have hz:z=((1+(q+1)*2:Nat):Int):=(hz.trans (wrap_in (by omega) (by omega))).trans (by omega)
    subst hz
    exact Ai rfl (Ei (q+1,_) (Ai ⟨rfl,rfl,by rw[hln];rfl,rfl,trivial⟩ (Ai ⟨by show 2*(q+1)≤_;omega,w⟩ (by simp only;omega))))
  ·have hln:=same (by rw[hf];rfl)
   refine w.ldr9 1 rfl rfl ?_
   refine g.c.ix (x.base w) (1+q*2) rfl hA1 ?_
   refine w.ldr9 1 rfl rfl ?_
   refine Ai rfl (fun z hz=>?_)
   have hz:=add_in hz (by omega) (by omega)
   subst hz
   refine g.c.ix (x.base w) (1+q*2+1) rfl hA2 ?_
   refine w.ldr9 1 rfl rfl ?_
   refine Ai rfl (fun z hz=>?_)
   have hz:z=(t.pairs.length:Int)+(((newL (thereH t.pairs) [] (N.take q)).length:Nat):Int):=hz.trans (wrap_in (by omega) (by omega))
   subst hz
   refine call_ret (rput9_calls g.c (x.out w 1 rfl).1 (Nat.le_trans la2 (by omega)) (by omega) (by omega) (by omega) (by omega)) ?_
   rintro _ h6 ⟨rfl,lv2,_,o6⟩
   have w:=w.own 1 rfl o6
   rw[accG_next hEq]at w
   refine Ai rfl (fun z hz=>?_)
   have hz:z=((1+(q+1)*2:Nat):Int):=(hz.trans (wrap_in (by omega) (by omega))).trans (by omega)
   subst hz
   exact Ai rfl (Ei (q+1,_) (Ai ⟨rfl,rfl,by rw[hln];rfl,rfl,trivial⟩ (Ai ⟨by show 2*(q+1)≤_;omega,w⟩ (by simp only;omega))))
 ·have hkl:2*q=l.length:=by simp only[List.length_cons]at hge;omega
  have hqN:N.length≤q:=by omega
  have hqE:Es.length≤q:=by omega
  refine w.callv rInt9_calls fun h6 w=>?_
  refine w.st1 0 rfl rfl rfl rfl fun h7 w=>?_
  exact Reply9.fin x w 0 1 rfl rfl (Jd9.ok (by unfold accG;rw[if_neg (by omega),List.take_of_length_le hqN,List.take_of_length_le hqE];rfl))
end
end Go.Proofs.YtjnijlnmbjjgpaaGreatDoor



namespace Go.Proofs.YtjnijlnmbjjgpaaGreatDoor
open Go Go.Sx C
def accS (S:Space) (key:ByteArray) (now:Int) (e:ByteArray→Eff) (ns:List ByteArray):List Eff:=if ns=[]then[]else dropsS S key now++ns.map e
theorem accS_next {S:Space} {key:ByteArray} {now:Int} {e:ByteArray→Eff} {ns:List ByteArray} {n:ByteArray}:preL S key now (accS S key now e ns)++[e n]=accS S key now e (ns++[n]):=by
 unfold accS preL
 rw[if_neg (by simp:¬ns++[n]=[]),List.map_append]
 cases ns with
 |nil=>simp
 |cons a ns=>
  have h1:¬(a::ns=[]):=by simp
  have h2:¬((dropsS S key now++(a::ns).map e).length=0):=by simp only[List.length_append,List.map_cons,List.length_cons];omega
  rw[if_neg h1,if_neg h2,List.append_assoc]
  rfl
theorem accS_len {S:Space} {key:ByteArray} {now:Int} {e:ByteArray→Eff} {ns:List ByteArray} (hl:ns.length≤20):(accS S key now e ns).length≤100:=by
 unfold accS
 have:=drops_len S key now
 split
 ·simp
 ·simp only[List.length_append,List.length_map];omega
section
variable {h0 h h1 h':Heap} {xb i:Nat} {now n m:Int} {kv av lv pv lw rv:Value} {k:List RX} {A l:List ByteArray} {L E:List Eff} {why key s u nm:ByteArray} {t:Thing} {M:List En} {T:List Nat} {res:Res}
theorem rscard_calls (x:As h0 h (aT xb t pv lw rv key kv now av lv [] noText)) (g:RG9 h0 kv k av A key t pv lw rv):CallsH Tryz.prog 62 [ptr xb,.string ⟨#[83,67,65,82,68]⟩] h
  (Ret (Reply9 h0 h xb t pv lw rv key kv now av lv (.ok (numR t.list.length,[])))):=by
 refine f62_calls (by simp) ?_
 intro b4 h1 g1
 have w:=x.st.new g1
 have hsl:=fun h2 hc=>(th_lists (g.th h2 hc)).2.1
 obtain⟨la,lc,rfl,_⟩:=(hsl h0 (Chg.refl _)).form
 have ln:t.list.length≤2000:=g.t9.ls
 refine Ai (fun he=>absurd he (by decide)) (fun _=>?_)
 refine Ai (fun he=>absurd he (by decide)) (fun _=>?_)
 refine Ai (fun he=>absurd he (by decide)) (fun _=>?_)
 refine Ai (fun _=>?_) (fun he=>absurd rfl he)
 refine w.ldr9 1 rfl rfl ?_
 refine w.callv rInt9_calls fun h2 w=>?_
 refine w.st1 0 rfl rfl rfl rfl fun h3 w=>?_
 exact Reply9.fin x w 0 1 rfl rfl (Jd9.ok rfl)
theorem rsmem_calls (x:As h0 h (aT xb t pv lw rv key kv now av lv [] noText)) (g:RG9 h0 kv k av A key t pv lw rv):CallsH Tryz.prog 62 [ptr xb,.string ⟨#[83,77,69,77,66,69,82,83]⟩] h
  (Ret (Reply9 h0 h xb t pv lw rv key kv now av lv (.ok (listR t.list,[])))):=by
 refine f62_calls (by simp) ?_
 intro b4 h1 g1
 have w:=x.st.new g1
 have hsl:=fun h2 hc=>(th_lists (g.th h2 hc)).2.1
 obtain⟨la,lc,rfl,_⟩:=(hsl h0 (Chg.refl _)).form
 have ln:t.list.length≤2000:=g.t9.ls
 refine Ai (fun he=>absurd he (by decide)) (fun _=>?_)
 refine Ai (fun he=>absurd he (by decide)) (fun _=>?_)
 refine Ai (fun he=>absurd he (by decide)) (fun _=>?_)
 refine Ai (fun he=>absurd he (by decide)) (fun _=>?_)
 refine w.ldr9 1 rfl rfl ?_
 have l4:b4<h1.size:=(show Blk h1 b4 _ from w.get 0 rfl).lt
 have z1:=w.chg.size
 refine call_ret (rtexts_calls (hsl _ (x.base w)) (by omega)) ?_
 rintro _ h5 ⟨⟨ra,rn,rc,rfl,sl,fr⟩,c5⟩
 have w:=w.ext c5
 refine w.st2 0 rfl rfl rfl rfl fun h6 w k6=>?_
 exact⟨_,rfl,cells_blk (w.get 0 rfl),listR t.list,lv,[],noText,⟨ra,rn,rc,rfl,sl.chg k6 (fun b hb=>by have:=fr b hb;simp;omega),fun b hb=>by have:=fr b hb;omega⟩,⟨t,_,_,_,key,x.out w 1 rfl⟩,Jd9.ok rfl⟩
theorem rsis_calls (x:As h0 h (aT xb t pv lw rv key kv now av lv [] noText)) (g:RG9 h0 kv k av [key,s] key t pv lw rv):CallsH Tryz.prog 62 [ptr xb,.string ⟨#[83,73,83,77,69,77,66,69,82]⟩] h
  (Ret (Reply9 h0 h xb t pv lw rv key kv now av lv (.ok (numR (if thereL t.list s=true then 1 else 0),[])))):=by
 refine f62_calls (by simp) ?_
 intro b4 h1 g1
 have w:=x.st.new g1
 have hsl:=fun h2 hc=>(th_lists (g.th h2 hc)).2.1
 obtain⟨la,lc,rfl,_⟩:=(hsl h0 (Chg.refl _)).form
 have ln:t.list.length≤2000:=g.t9.ls
 obtain⟨b,o,cc,rfl⟩:=g.c.argF (by simp)
 refine Ai (fun he=>absurd he (by decide)) (fun _=>?_)
 refine Ai (fun he=>absurd he (by decide)) (fun _=>?_)
 refine Ai (fun _=>?_) (fun he=>absurd rfl he)
 refine w.ldr9 1 rfl rfl ?_
 refine g.c.ix (x.base w) 1 rfl rfl ?_
 refine call_ret (rmember_calls (x.out w 1 rfl).1 g) ?_
 rintro _ h2 ⟨hr,e⟩
 have e:=e.symm
 subst e
 rcases hr with⟨hf,rfl⟩|⟨hf,rfl⟩
 ·refine w.callv rInt9_calls fun h4 w=>?_
  refine w.st1 0 rfl rfl rfl rfl fun h5 w=>?_
  exact Reply9.fin x w 0 1 rfl rfl (Jd9.ok (by rw[if_neg (by simpa[thereL]using hf)];rfl))
 ·refine w.callv rInt9_calls fun h4 w=>?_
  refine w.st1 0 rfl rfl rfl rfl fun h5 w=>?_
  exact Reply9.fin x w 0 1 rfl rfl (Jd9.ok (by rw[if_pos (by simpa[thereL]using hf)];rfl))
theorem rsrem_calls (x:As h0 h (aT xb t pv lw rv key kv now av lv [] noText)) (g:RG9 h0 kv k av (key::l) key t pv lw rv):CallsH Tryz.prog 62 [ptr xb,.string ⟨#[83,82,69,77]⟩] h
  (Ret (Reply9 h0 h xb t pv lw rv key kv now av lv (.ok (numR (hereL (thereL t.list) l).length,(hereL (thereL t.list) l).map fun n=>⟨13,key,n,noText,0⟩)))):=by
 refine f62_calls (by simp) ?_
 intro b4 h1 g1
 have w:=x.st.new g1
 have hsl:=fun h2 hc=>(th_lists (g.th h2 hc)).2.1
 obtain⟨la,lc,rfl,_⟩:=(hsl h0 (Chg.refl _)).form
 have ln:t.list.length≤2000:=g.t9.ls
 refine Ai (fun he=>absurd he (by decide)) (fun _=>?_)
 refine Ai (fun _=>?_) (fun he=>absurd rfl he)
 refine call_ret (raway_calls (th:=thereL t.list) (fun x=>rthere4_calls x g) (x.out w 1 rfl).1 g) ?_
 rintro _ h2 ⟨q,lv',E,why,⟨ra,rn,rc,rfl,sl,fr⟩,⟨t',pv',lw',rv',key',_,o2⟩,hd⟩
 have l4:b4<h1.size:=(show Blk h1 b4 _ from w.get 0 rfl).lt
 have z1:=w.chg.size
 have w:=w.own 1 rfl o2
 refine w.st2 0 rfl rfl rfl rfl fun h3 w k3=>?_
 exact⟨_,rfl,cells_blk (w.get 0 rfl),q,lv',E,why,⟨ra,rn,rc,rfl,sl.chg k3 (fun b hb=>by have:=fr b hb;simp;omega),fun b hb=>by have:=fr b hb;omega⟩,⟨t',pv',lw',rv',key',x.out w 1 rfl⟩,hd⟩
set_option maxHeartbeats 1000000 in
theorem rsadd_calls (x:As h0 h (aT xb t pv lw rv key kv now av lv [] noText)) (g:RG9 h0 kv k av (key::l) key t pv lw rv):CallsH Tryz.prog 62 [ptr xb,.string ⟨#[83,65,68,68]⟩] h
  (Ret (Reply9 h0 h xb t pv lw rv key kv now av lv (.ok (numR (newL (thereL t.list) [] l).length,accS (k.map RX.pr) key now (addE key) (newL (thereL t.list) [] l))))):=by
 have al:=g.al
 simp only[List.length_cons]at al
 obtain⟨b,o,cc,rfl⟩:=g.c.argF (by simp)
 refine f62_calls (by simp) ?_
 intro b4 h1 g1
 have w:=x.st.new g1
 have hsl:=fun h2 hc=>(th_lists (g.th h2 hc)).2.1
 obtain⟨la,lc,rfl,_⟩:=(hsl h0 (Chg.refl _)).form
 have ln:t.list.length≤2000:=g.t9.ls
 have zk:=g.ks
 have hnl:∀q,(newL (thereL t.list) [] (l.take q)).length≤20:=fun q=>by
  have:=newL_len (th:=thereL t.list) (l:=l.take q) (pre:=[])
  rw[List.length_take]at this
  omega
 refine Ai (fun _=>?_) (fun he=>absurd rfl he)
 refine loop_intro (fun q:Nat×Value=>[(0,ptr xb),(4,ptr b4),(5,.int .i64 ((newL (thereL t.list) [] (l.take q.1)).length:Nat)),(6,.int .i64 ((q.1+1:Nat):Int))])
  (fun q h'=>q.1≤l.length∧St (xb::vblk lv) h h' [.b b4 [.int .i64 0,.int .i64 0,.string ⟨#[]⟩,.slice none 0 0],aT xb t pv (.slice la t.list.length lc) rv key kv now (.slice (some ⟨b,o,none⟩) (key::l).length cc) q.2 (accS (k.map RX.pr) key now (addE key) (newL (thereL t.list) [] (l.take q.1))) noText])
  (fun q=>l.length-q.1) (0,lv) ⟨rfl,rfl,rfl,rfl,trivial⟩ ⟨Nat.zero_le _,w⟩ ?_
 rintro⟨q,lq⟩ h4 ⟨hq,w⟩
 have hq:q≤l.length:=hq
 have hn4:=hnl q
 have hn5:(newL (thereL t.list) [] (l.take (q,lq).1)).length≤20:=hn4
 have la2:=accS_len (S:=k.map RX.pr) (key:=key) (now:=now) (e:=addE key) hn4
 have w:St (xb::vblk lv) h h4 [.b b4 [.int .i64 0,.int .i64 0,.string ⟨#[]⟩,.slice none 0 0],aT xb t pv (.slice la t.list.length lc) rv key kv now (.slice (some ⟨b,o,none⟩) (key::l).length cc) lq (accS (k.map RX.pr) key now (addE key) (newL (thereL t.list) [] (l.take q))) noText]:=w
 refine w.ldr9 1 rfl rfl ?_
 refine Ai rfl (Ai (fun hlt=>?_) (fun hge=>?_))
 ·have hlt:q<l.length:=by simp only[List.length_cons]at hlt;omega
  have hsn:=newL_snoc (th:=thereL t.list) hlt
  have zn:=g.az l[q] (List.mem_cons_of_mem _ (List.getElem_mem _))
  have sameL:(!thereL t.list l[q]&&decide (l[q]∉l.take q))=false→newL (thereL t.list) [] (l.take (q+1))=newL (thereL t.list) [] (l.take q):=fun hc=>by rw[hsn,hc,if_neg (by decide),List.append_nil]
  have same:(!thereL t.list l[q]&&decide (l[q]∉l.take q))=false→(newL (thereL t.list) [] (l.take (q+1))).length=(newL (thereL t.list) [] (l.take q)).length:=fun hc=>by rw[sameL hc]
  refine w.ldr9 1 rfl rfl ?_
  refine g.c.ix (x.base w) (q+1) rfl (s:=l[q]) (by simp[hlt]) ?_
  refine call_ret (rmember_calls (x.out w 1 rfl).1 g) ?_
  rintro _ h5 ⟨hr,e5⟩
  have e5:=e5.symm
  subst e5
  rcases hr with⟨hf,rfl⟩|⟨hf,rfl⟩
  ·have hf:thereL t.list l[q]=false:=decide_eq_false hf
   refine call_ret (rahead_calls (p:=q+1) (f0:=1) (st:=1) (x.out w 1 rfl).1 g.c (by simp only[List.length_cons];omega) (by simp only[List.length_cons];omega) (Nat.le_refl _) (by omega)) ?_
   rintro _ h6 ⟨hr,e6⟩
   have e6:=e6.symm
   subst e6
   rcases hr with⟨ha,rfl⟩|⟨ha,rfl⟩
   ·have hc:(!thereL t.list l[q]&&decide (l[q]∉l.take q))=true:=by rw[hf,decide_eq_true (ahead_no9 hlt ha)];rfl
    have hns:newL (thereL t.list) [] (l.take (q+1))=newL (thereL t.list) [] (l.take q)++[l[q]]:=by rw[hsn,hc,if_pos rfl]
    have hln:(newL (thereL t.list) [] (l.take (q+1))).length=(newL (thereL t.list) [] (l.take q)).length+1:=by rw[hns];simp
    refine Ai rfl (fun z hz=>?_)
    have hz:=add_in hz (by omega) (by omega)
    subst hz
    refine w.ldr9 1 rfl rfl ?_
    refine g.c.ix (x.base w) (q+1) rfl (s:=l[q]) (by simp[hlt]) ?_
    refine w.ldr9 1 rfl rfl ?_
    refine Ai rfl (fun z hz=>?_)
    have hz:z=(t.list.length:Int)+(((newL (thereL t.list) [] (l.take q)).length+1:Nat):Int):=hz.trans (wrap_in (by omega) (by omega))
    subst hz
    refine call_ret (rput9_calls g.c (x.out w 1 rfl).1 (Nat.le_trans la2 (by omega)) (by omega) (by omega) (by omega) (by decide)) ?_
    rintro _ h7 ⟨rfl,lv2,_,o7⟩
    have w:=w.own 1 rfl o7
    rw[show preL (k.map RX.pr) key now (accS (k.map RX.pr) key now (addE key) (newL (thereL t.list) [] (l.take q)))++[⟨12,key,l[q],⟨#[]⟩,0⟩]=accS (k.map RX.pr) key now (addE key) (newL (thereL t.list) [] (l.take (q+1)))by rw[hns];exact accS_next (e:=addE key)]at w
    refine Ai rfl (fun z hz=>?_)
    have hz:=add_in hz (by omega) (by omega)
    subst hz
    exact Ai rfl (Ei (q+1,_) (Ai ⟨rfl,rfl,by rw[hln];rfl,rfl,trivial⟩ (Ai ⟨hlt,w⟩ (by simp only;omega))))
   ·have hc:(!thereL t.list l[q]&&decide (l[q]∉l.take q))=false:=by rw[decide_eq_false (fun hn=>hn (ahead_in9 hlt ha)),Bool.and_false]
    have hln:=same hc
    have hns:=sameL hc
    rw[←hns]at w
    refine Ai rfl (fun z hz=>?_)
    have hz:=add_in hz (by omega) (by omega)
    subst hz
    exact Ai rfl (Ei (q+1,_) (Ai ⟨rfl,rfl,by rw[hln];rfl,rfl,trivial⟩ (Ai ⟨hlt,w⟩ (by simp only;omega))))
  ·have hc:(!thereL t.list l[q]&&decide (l[q]∉l.take q))=false:=by rw[show thereL t.list l[q]=true from decide_eq_true hf];rfl
   have hln:=same hc
   have hns:=sameL hc
   rw[←hns]at w
   refine Ai rfl (fun z hz=>?_)
   have hz:=add_in hz (by omega) (by omega)
   subst hz
   exact Ai rfl (Ei (q+1,_) (Ai ⟨rfl,rfl,by rw[hln];rfl,rfl,trivial⟩ (Ai ⟨hlt,w⟩ (by simp only;omega))))
 ·have hkl:q=l.length:=by simp only[List.length_cons]at hge;omega
  subst hkl
  refine w.callv rInt9_calls fun h6 w=>?_
  refine w.st1 0 rfl rfl rfl rfl fun h7 w=>?_
  rw[List.take_length]at w
  exact Reply9.fin x w 0 1 rfl rfl (Jd9.ok rfl)
end
end Go.Proofs.YtjnijlnmbjjgpaaGreatDoor

namespace Go.Proofs.YtjnijlnmbjjgpaaGreatDoor
open Go Go.Sx C
section
variable {h0 h h1 h':Heap} {xb i:Nat} {now n m:Int} {kv av lv pv lw rv:Value} {k:List RX} {A l:List ByteArray} {L E:List Eff} {why key s u nm:ByteArray} {t:Thing} {M:List En} {T:List Nat} {res:Res}
set_option maxHeartbeats 2000000 in
theorem rinter_calls (c:RC9 h0 kv k av A) (x:As h0 h (aT xb t pv lw rv key kv now av lv [] noText)) (s9:S9 (k.map RX.pr)) (hz:∀a∈A,a.size≤300) (hal:A.length≤20) (hpos:0<A.length):CallsH Tryz.prog 58 [ptr xb] h
  (Ret (Reply9 h0 h xb t pv lw rv key kv now av lv (cSinter (k.map RX.pr) now A))):=by
 obtain⟨b,o,cc,rfl⟩:=c.argF hpos
 obtain⟨S,hS⟩:∃S,S=k.map RX.pr:=⟨_,rfl⟩
 obtain⟨rs,hrs⟩:∃rs,rs=cSinter S now A:=⟨_,rfl⟩
 rw[←hS]at s9
 rw[←hS,←hrs]
 refine f58_calls (by simp) ?_
 intro b2 h1 g1
 have w:=x.st.new g1
 have w:=w.add (e:=En.nil) (Chg.refl _) trivial (fun b hb=>(nomatch (show b∈([]:List Nat)from hb)))
 refine loop_intro (fun q:Nat×Value=>[(0,ptr xb),(2,ptr b2),(3,q.2),(4,.int .i64 q.1)])
  (fun q h'=>q.1≤A.length∧∃(e0:En) (acc:List ByteArray) (t':Thing) (pv' lw' rv' lv':Value) (key':ByteArray),
   St (xb::vblk lv) h h' [e0,.b b2 [.int .i64 0,.int .i64 0,.string ⟨#[]⟩,.slice none 0 0],aT xb t' pv' lw' rv' key' kv now (.slice (some ⟨b,o,none⟩) A.length cc) lv' [] noText]∧
   (∀h2,e0.at h2→Chg [] h0 h2→SL encS h2 q.2 acc)∧acc.length≤2000∧(0<q.1→rs=interL S now acc (A.drop q.1) fun l=>.ok (listR l,[])))
  (fun q=>A.length-q.1) (0,.slice none 0 0) ⟨rfl,rfl,rfl,rfl,trivial⟩ ⟨Nat.zero_le _,En.nil,[],t,pv,lw,rv,lv,key,w,fun _ _ _=>SL.nil,by simp,fun h=>absurd h (by simp)⟩ ?_
 rintro⟨q,v⟩ h4 ⟨hq,e0,acc,t1,pv1,lw1,rv1,lv1,key1,w,hv,hacc,hres⟩
 have hq:q≤A.length:=hq
 have hv:∀h2,e0.at h2→Chg [] h0 h2→SL encS h2 v acc:=hv
 have hres:0<q→rs=interL S now acc (A.drop q) fun l=>.ok (listR l,[]):=hres
 have hv4:=hv _ (w.get 0 rfl) (x.base w)
 obtain⟨va,vc,rfl,_⟩:=hv4.form
 refine w.ldr9 2 rfl rfl ?_
 refine Ai rfl (Ai (fun hlt=>?_) (fun hge=>?_))
 ·have hlt:q<A.length:=by omega
  have zk:A[q].size≤300:=hz _ (List.getElem_mem hlt)
  refine w.ldr9 2 rfl rfl ?_
  refine c.ix (x.base w) q rfl (List.getElem?_eq_getElem hlt) ?_
  refine w.stK9 2 rfl fun h5 w=>?_
  refine call_ret (rof9_calls (kd:=4) c (x.out w 2 rfl).1 (by omega)) ?_
  rintro _ h6 ⟨pv2,lw2,rv2,rfl,hth,_,o6⟩
  have w:=w.own 2 rfl o6
  rw[←hS]at hth w⊢
  have t9:=s9.get A[q] now
  have hdr:A.drop q=A[q]::A.drop (q+1):=List.drop_eq_getElem_cons hlt
  cases hok:okK 4 (getS S A[q] now)with
  |false=>
   rw[hok]at w
   refine w.st1 1 rfl rfl rfl rfl fun h7 w=>?_
   refine⟨_,rfl,cells_blk (w.get 1 rfl),rep 0 0 noText,_,[],wType,⟨none,0,0,rfl,SL.nil,fun b hb=>(nomatch (show b∈([]:List Nat)from hb))⟩,⟨_,_,_,_,_,x.out w 2 rfl⟩,Jd9.no (by decide) ?_⟩
   cases q with
   |zero=>
    rw[hrs]
    cases A with
    |nil=>simp at hpos
    |cons a A'=>
     show(if A'.length<65536 then kindly S now 4 a _ else _)=_
     rw[if_pos (by simp only[List.length_cons]at hal;omega)]
     exact kindlyR_no hok
   |succ q=>
    rw[hres (by omega),hdr]
    exact kindlyR_no hok
  |true=>
   rw[hok]at w
   have hls:=fun h2 hc=>(th_lists (hth h2 hc)).2.1
   have tl:=t9.ls
   obtain⟨la,lc,rfl,_⟩:=(hls h0 (Chg.refl _)).form
   refine Ai rfl (Ai (fun hq0=>?_) (fun hq0=>?_))
   ·obtain rfl:q=0:=by omega
    refine w.ldr9 2 rfl rfl ?_
    refine Ai rfl (fun z hz=>?_)
    have hz:=add_in hz (by omega) (by omega)
    subst hz
    have w:=w.gone 0 rfl (Chg.refl _|>.mono (fun k hk=>hk)) (S:=[]) (fun b hb=>(nomatch hb))
    refine Ai rfl (Ei (1,_) (Ai ⟨rfl,rfl,rfl,rfl,trivial⟩ (Ai ⟨hlt,En.nil,((getS S A[0] now).getD zeroT).list,_,_,_,_,_,_,w,fun h2 _ hc=>hls h2 hc,tl,fun _=>?_⟩ (by simp only;omega))))
    rw[hrs]
    cases A with
    |nil=>simp at hpos
    |cons a A'=>
     show(if A'.length<65536 then kindly S now 4 a _ else _)=_
     rw[if_pos (by simp only[List.length_cons]at hal;omega)]
     exact kindlyR_ok hok
   ·have hq1:0<q:=by omega
    have g:RG9 h0 kv k (.slice (some ⟨b,o,none⟩) A.length cc) A A[q] ((getS S A[q] now).getD zeroT) pv2 (.slice la ((getS S A[q] now).getD zeroT).list.length lc) rv2:=⟨c,hth,t9,zk,hz,hal⟩
    obtain⟨tt,htt⟩:∃tt,tt=(getS S A[q] now).getD zeroT:=⟨_,rfl⟩
    rw[←htt]at w g hls tl
    have w:=w.empty (enc:=encS) (size:=1)
    refine loop_intro (fun j:Nat×Value=>[(0,ptr xb),(2,ptr b2),(3,.slice va acc.length vc),(4,.int .i64 q),(5,j.2),(6,.int .i64 j.1)])
     (fun j h'=>j.1≤acc.length∧∃lv':Value,St (xb::vblk lv) h h' [.o encS 1 j.2 ((acc.take j.1).filter (thereL tt.list)),e0,.b b2 [.int .i64 0,.int .i64 0,.string ⟨#[]⟩,.slice none 0 0],aT xb tt pv2 (.slice la tt.list.length lc) rv2 A[q] kv now (.slice (some ⟨b,o,none⟩) A.length cc) lv' [] noText])
     (fun j=>acc.length-j.1) (0,.slice none 0 0) ⟨rfl,rfl,rfl,rfl,rfl,rfl,trivial⟩ ⟨Nat.zero_le _,_,w⟩ ?_
    rintro⟨j,vb⟩ h8 ⟨hj,lv8,w⟩
    have hj:j≤acc.length:=hj
    have w:St (xb::vblk lv) h h8 [.o encS 1 vb ((acc.take j).filter (thereL tt.list)),e0,.b b2 [.int .i64 0,.int .i64 0,.string ⟨#[]⟩,.slice none 0 0],aT xb tt pv2 (.slice la tt.list.length lc) rv2 A[q] kv now (.slice (some ⟨b,o,none⟩) A.length cc) lv8 [] noText]:=w
    have hfl:((acc.take j).filter (thereL tt.list)).length≤2000:=Nat.le_trans (List.length_filter_le _ _) (by rw[List.length_take];omega)
    obtain⟨ba,bc,rfl,_⟩:=(show OL encS 1 h8 vb _ from w.get 0 rfl).sl.form
    refine Ai rfl (Ai (fun hjl=>?_) (fun hjg=>?_))
    ·have hjl:j<acc.length:=by omega
     have hv8:=hv _ (w.get 1 rfl) (x.base w)
     obtain⟨vb',vo,rfl⟩:=hv8.addr (by omega)
     have nxt:(acc.take (j+1)).filter (thereL tt.list)=(acc.take j).filter (thereL tt.list)++(if thereL tt.list acc[j]=true then[acc[j]]else[]):=by
      rw[List.take_succ_eq_append_getElem hjl,List.filter_append]
      congr 1
      cases hp:thereL tt.list acc[j]with
      |true=>rw[if_pos rfl];simp[hp]
      |false=>rw[if_neg (by decide)];simp[hp]
     refine sl_ix hv8 j rfl (List.getElem?_eq_getElem hjl) ?_
     refine call_ret (rmember_calls (x.out w 3 rfl).1 g) ?_
     rintro _ h9 ⟨hr,e9⟩
     have e9:=e9.symm
     subst e9
     rcases hr with⟨hf,rfl⟩|⟨hf,rfl⟩
     ·have w:St (xb::vblk lv) h h8 [.o encS 1 (.slice ba ((acc.take j).filter (thereL tt.list)).length bc) ((acc.take (j+1)).filter (thereL tt.list)),e0,.b b2 [.int .i64 0,.int .i64 0,.string ⟨#[]⟩,.slice none 0 0],aT xb tt pv2 (.slice la tt.list.length lc) rv2 A[q] kv now (.slice (some ⟨b,o,none⟩) A.length cc) lv8 [] noText]:=by
       rw[nxt,if_neg (by simpa[thereL]using hf),List.append_nil];exact w
      refine Ai rfl (fun z hz=>?_)
      have hz:=add_in hz (by omega) (by omega)
      subst hz
      exact Ai rfl (Ei (j+1,_) (Ai ⟨rfl,rfl,rfl,rfl,rfl,rfl,trivial⟩ (Ai ⟨hjl,_,w⟩ (by simp only;omega))))
     ·refine sl_ix hv8 j rfl (List.getElem?_eq_getElem hjl) ?_
      intro b9 h10 g10
      have w:=w.new g10
      refine w.app 1 rfl encS_len encS_one rfl (SL.one encS_len (x:=acc[j]) (w.get 0 rfl)) (by simp only[List.length_singleton];omega) fun v' h11 w=>?_
      rw[show(acc.take j).filter (thereL tt.list)++[acc[j]]=(acc.take (j+1)).filter (thereL tt.list)by rw[nxt,if_pos (by simpa[thereL]using hf)]]at w
      have w:=w.pick [1,2,3,4] (by decide)
      refine Ai rfl (fun z hz=>?_)
      have hz:=add_in hz (by omega) (by omega)
      subst hz
      exact Ai rfl (Ei (j+1,_) (Ai ⟨rfl,rfl,rfl,rfl,rfl,rfl,trivial⟩ (Ai ⟨hjl,_,w⟩ (by simp only;omega))))
    ·have hjn:j=acc.length:=by omega
     have w:=w.pick [0,2,3] (by decide)
     refine Ai rfl (fun z hz=>?_)
     have hz:=add_in hz (by omega) (by omega)
     subst hz
     refine Ai rfl (Ei (q+1,_) (Ai ⟨rfl,rfl,rfl,rfl,trivial⟩ (Ai ⟨hlt,_,(acc.take j).filter (thereL tt.list),_,_,_,_,_,_,w,fun h2 he _=>(show OL encS 1 h2 _ _ from he).sl,hfl,fun _=>?_⟩ (by simp only;omega))))
     show rs=_
     rw[hres hq1,hdr,hjn,List.take_length]
     show kindly S now 4 A[q] _=_
     rw[kindlyR_ok hok,htt]
 ·have hqn:q=A.length:=by omega
  have l4:b2<h4.size:=(show Blk h4 b2 _ from w.get 1 rfl).lt
  have z1:=w.chg.size
  refine call_ret (rtexts_calls hv4 (by omega)) ?_
  rintro _ h5 ⟨⟨ra,rn,rc,rfl,sl,fr⟩,c5⟩
  have w:=w.ext c5
  refine w.st2 1 rfl rfl rfl rfl fun h6 w k6=>?_
  refine⟨_,rfl,cells_blk (w.get 1 rfl),listR acc,lv1,[],noText,⟨ra,rn,rc,rfl,sl.chg k6 (fun b hb=>by have:=fr b hb;simp;omega),fun b hb=>by have:=fr b hb;omega⟩,⟨_,_,_,_,_,x.out w 2 rfl⟩,Jd9.ok ?_⟩
  rw[hres (by omega),hqn,List.drop_length]
  rfl
end
end Go.Proofs.YtjnijlnmbjjgpaaGreatDoor
namespace Go.Proofs.YtjnijlnmbjjgpaaGreatDoor
open Go Go.Sx C
def Arg9 (N:ByteArray) (lo hi:Int) (A:List ByteArray):Prop:=lo≤A.length∧(A.length:Int)≤hi∧((N=qHSET∨N=qZADD)→A.length%2=1)
set_option maxHeartbeats 2000000 in
theorem rdo9_calls {h:Heap} {kv av:Value} {k:List RX} {now lo hi kd wh:Int} {fn:Nat} {w N:ByteArray} {A:List ByteArray} {res:Res} (hsl:SL encX h kv k) (hgx:GX h k) (hup:UpX k) (hlen:k.length<4611686018427387904) (hfit:KeysFit k)
  (hA:SL encS h av (w::A)) (hal:A.length+1≤20) (hzw:w.size≤300) (hz:∀s∈A,s.size≤300) (hN:up w=N) (hb:BoundR9 N lo hi kd wh) (hlo:1≤lo)
  (hfn:(kd=2∧fn=60)∨(kd=3∧fn=61)∨(kd=4∧fn=62)∨(kd=5∧fn=63))
  (hout:¬Arg9 N lo hi A→res=.error wArgs)
  (hnum:Arg9 N lo hi A→(∃j,1≤j∧j<A.length∧need9 wh j∧(A[j]?.bind numOf)=none)→res=.error wNum)
  (hkd:N≠qSINTER→Arg9 N lo hi A→NumsOk wh A→∀key,A[0]? =some key→okK kd (getS (k.map RX.pr) key now)=false→res=.error wType)
  (ht9:∀key,T9 ((getS (k.map RX.pr) key now).getD zeroT))
  (hf:N≠qSINTER→∀{h1:Heap} {xb:Nat} {av' pv lw rv:Value} {key:ByteArray},A[0]? =some key→Arg9 N lo hi A→NumsOk wh A→okK kd (getS (k.map RX.pr) key now)=true→RG9 h kv k av' A key ((getS (k.map RX.pr) key now).getD zeroT) pv lw rv→
   As h h1 (aT xb ((getS (k.map RX.pr) key now).getD zeroT) pv lw rv key kv now av' (.slice none 0 0) [] noText)→
   CallsH Tryz.prog fn [ptr xb,.string N] h1 (Ret (Reply9 h h1 xb ((getS (k.map RX.pr) key now).getD zeroT) pv lw rv key kv now av' (.slice none 0 0) res)))
  (hin:N=qSINTER→Arg9 N lo hi A→∀{h1:Heap} {xb:Nat} {av':Value} {key:ByteArray},RC9 h kv k av' A→As h h1 (aT xb zeroT (.slice none 0 0) (.slice none 0 0) (.slice none 0 0) key kv now av' (.slice none 0 0) [] noText)→
   CallsH Tryz.prog 58 [ptr xb] h1 (Ret (Reply9 h h1 xb zeroT (.slice none 0 0) (.slice none 0 0) (.slice none 0 0) key kv now av' (.slice none 0 0) res))):
  CallsH Tryz.prog 31 [kv,.int .i64 now,av] h (Ret (DoR h res)):=by
 obtain⟨ka,kc,rfl,_⟩:=hsl.form
 obtain⟨a,cc,rfl,hcc⟩:=hA.form
 obtain⟨b0,o0,rfl⟩:=hA.addr (by simp)
 have hl:(w::A).length≤20:=hal
 refine f31_calls (by simp) ?_
 intro b6 h1 g1
 have w1:=(St.start h).new g1
 refine Ai rfl (Ai (fun h0=>absurd h0 (by simp;omega)) (fun _=>?_))
 have hc0:=(hA.ext w1.chg).cells encS_len (i:=0) (x:=w) (by simp)
 refine Ai (by decide) (Ai (by simp) (Ei _ (Ai (by simpa using hc0 0 _ rfl) ?_)))
 refine w1.callv (rword_calls (by omega)) fun h2 w2=>?_
 rw[hN]
 refine callp (hb h2) ?_
 refine Ai (by decide) (Ai (by simp only[List.length_cons];omega) (Ai (by omega) ?_))
 refine sl_slc (lo:=1) (hi:=(w::A).length) encS_len (hA.ext w2.chg) (by simp) (Nat.le_refl _) fun v1 hv1=>?_
 have e1:((w::A).drop 1).take ((w::A).length-1)=A:=by simp
 rw[e1]at hv1
 obtain⟨a1,cc1,rfl,hcc1⟩:=(hv1 h hA).form
 intro xb h5 g5
 have w5:=w2.new g5
 have z2:=w2.chg.size
 have i5:=g5.id
 have c:RC9 h (.slice ka k.length kc) k (.slice a1 A.length cc1) A:=⟨hsl,hgx,hup,hlen,hfit,fun h' hc=>hv1 h' (hA.ext hc)⟩
 have nomem:xb∉vblk (.slice none 0 0):=fun hm=>(nomatch (show xb∈([]:List Nat)from hm))
 have w:St [] h h5 [aT xb zeroT (.slice none 0 0) (.slice none 0 0) (.slice none 0 0) noText (.slice ka k.length kc) now (.slice a1 A.length cc1) (.slice none 0 0) [] noText,.b b6 [.int .i64 0,.int .i64 0,.string ⟨#[]⟩,.slice none 0 0]]:=
  w5.set 0 rfl (Chg.refl _) (by simp) ⟨w5.get 0 rfl,OL.nil,nomem⟩ (fun b hb=>by
   rcases List.mem_cons.1 hb with rfl|hb
   ·exact .inl (by simp[En.fp])
   ·exact(nomatch (show b∈([]:List Nat)from hb)))
 have tail:∀{h':Heap} {b17:Nat} {why:ByteArray} {q:Rep} {ra:Option Addr} {rn rc:Nat} {t':Thing} {pv' lw' rv' lv':Value} {key':ByteArray} {E:List Eff},Jd9 res q E why→SL encQ h' (.slice ra rn rc) q.l→b6∉ablk ra→
   St [] h h' [.b b17 [.int .i64 q.k,.int .i64 q.i,.string q.s,.slice ra rn rc],aT xb t' pv' lw' rv' key' (.slice ka k.length kc) now (.slice a1 A.length cc1) lv' E why,.b b6 [.int .i64 0,.int .i64 0,.string ⟨#[]⟩,.slice none 0 0]]→
   swp Tryz.prog (.seq (.seq (.ops f31r28) (.cond (.tmp 130) (.seq (.ops f31r29) .ret) .skip)) (.seq (.two f31p30 f31r30 f31s30) .ret)) (retQ [.cn 6 4,.t 7,.t 8] (Ret (DoR h res))) (mk [(6,ptr b6),(15,ptr xb),(17,ptr b17)]) [] h':=by
  intro h' b17 why q ra rn rc t' pv' lw' rv' lv' key' E hd sl hnb w
  refine w.ldr9 1 rfl rfl ?_
  rcases hd with⟨rfl,hd⟩|⟨hne,hr⟩
  ·refine Ai (fun h9=>absurd rfl h9) (fun _=>?_)
   obtain⟨la,lc,rfl⟩:=w.rform9 1 rfl
   have fin:∀{h2:Heap},St [] h h2 [.b b17 [.int .i64 q.k,.int .i64 q.i,.string q.s,.slice ra rn rc],aT xb t' pv' lw' rv' key' (.slice ka k.length kc) now (.slice a1 A.length cc1) (.slice la E.length lc) E noText,.b b6 [.int .i64 q.k,.int .i64 q.i,.string q.s,.slice ra rn rc]]→Chg [b6] h' h2→
     ∃vs,vs.length=4∧Cells h2 b6 0 vs∧DoR h res (.tuple ⟨[.agg ⟨vs⟩,.slice la E.length lc,.bool true]⟩) h2:=fun w k=>by
    rw[hd]
    refine⟨_,rfl,cells_blk (w.get 2 rfl),w.chg,_,_,rfl,⟨ra,rn,rc,rfl,sl.chg k (fun b hb=>by simp;rintro rfl;exact hnb hb),fun _ _=>Nat.zero_le _⟩,(w.get 1 rfl).2.1.sl,fun b hb=>?_⟩
    rcases(w.ents 1 _ rfl).2 b (List.mem_cons_of_mem _ hb)with h1|h1
    ·cases h1
    ·exact h1
   refine w.ldw 0 rfl rfl ?_
   refine Ai ?_ ?_
   ·refine w.ldr9 1 rfl rfl ?_
    refine w.st2 2 rfl rfl rfl rfl fun h13 w k13=>?_
    exact fin w k13
   ·refine w.st2 2 rfl rfl rfl rfl fun h13 w k13=>?_
    refine w.ldr9 1 rfl rfl ?_
    exact fin w k13
  ·refine Ai (fun _=>?_) (fun h9=>absurd (fun e=>hne e) h9)
   refine w.ldr9 1 rfl rfl ?_
   refine w.callv rFail9_calls fun h10 w=>?_
   refine w.st1 2 rfl rfl rfl rfl fun h11 w=>?_
   rw[hr]
   exact⟨_,rfl,cells_blk (w.get 2 rfl),w.chg,rfl⟩
 have mid:∀{h6:Heap},Arg9 N lo hi A→St [] h h6 [aT xb zeroT (.slice none 0 0) (.slice none 0 0) (.slice none 0 0) noText (.slice ka k.length kc) now (.slice a1 A.length cc1) (.slice none 0 0) [] noText,.b b6 [.int .i64 0,.int .i64 0,.string ⟨#[]⟩,.slice none 0 0]]→
   swp Tryz.prog (.seq (.seq (.ops f31r12) (.cond (.tmp 80) (.seq (.ops f31r13) .ret) .skip)) (.seq (.ops f31r14) (.seq (.ops f31r15) (.seq (.seq (.ops f31r16) (.cond (.tmp 98) (.ops f31r17) (.seq (.ops f31r18) (.cond (.tmp 103) (.seq (.ops f31r19) (.block 0 (.seq (.ops f31r20) (.cond (.tmp 105) (.ops f31r21) (.seq (.ops f31r22) (.cond (.tmp 110) (.ops f31r23) (.seq (.ops f31r24) (.cond (.tmp 115) (.ops f31r25) (.seq (.ops f31r26) (.cond (.tmp 120) (.ops f31r27) .skip)))))))))) .skip))))
    (.seq (.seq (.ops f31r28) (.cond (.tmp 130) (.seq (.ops f31r29) .ret) .skip)) (.seq (.two f31p30 f31r30 f31s30) .ret))))))
    (retQ [.cn 6 4,.t 7,.t 8] (Ret (DoR h res))) (mk [(6,ptr b6),(9,.string N),(12,.int .i64 kd),(13,.int .i64 wh),(15,ptr xb),(16,.bool true)]) [] h6:=by
  intro h6 ar w
  refine call_ret (rnums9_calls c (w.as 0 rfl) (by omega) hz) ?_
  rintro _ h7 (⟨hall,rfl,_,o7⟩|⟨hbad,rfl,_,o7⟩)
  rotate_left
  ·have w:=w.own 0 rfl o7
   refine w.ldr9 0 rfl rfl ?_
   refine w.callv rFail9_calls fun h8 w=>?_
   refine w.st1 1 rfl rfl rfl rfl fun h9 w=>?_
   rw[hnum ar hbad]
   exact⟨_,rfl,cells_blk (w.get 1 rfl),w.chg,rfl⟩
  have w:=w.own 0 rfl o7
  have hpos:0<A.length:=by have:=ar.1;omega
  obtain⟨key,hkey⟩:∃key,A[0]? =some key:=⟨_,List.getElem?_eq_getElem hpos⟩
  have hks:key.size≤300:=hz key (List.mem_of_getElem? hkey)
  obtain⟨b1,o1,cc2,he1⟩:=c.argF hpos
  obtain⟨rfl,_,rfl⟩:=Value.slice.inj he1
  refine w.ldr9 0 rfl rfl ?_
  refine c.ix (w.chg) 0 rfl hkey ?_
  refine w.stK9 0 rfl fun h8 w=>?_
  intro b17 h9 g9
  have w:=w.new g9
  have l6:b6<h9.size:=(show Blk h9 b6 _ from w.get 2 rfl).lt
  refine Ai (fun he=>?_) (fun hne=>?_)
  ·refine call_ret (hin he ar c (w.as 1 rfl)) ?_
   rintro _ h11 ⟨q,lv',E,why,⟨ra,rn,rc,rfl,sl,fr⟩,⟨t',pv',lw',rv',key',_,o11⟩,hd⟩
   have w:=w.own 1 rfl o11
   have l17:b17<h9.size:=g9.blk.lt
   refine w.st2 0 rfl rfl rfl rfl fun h12 w k12=>?_
   exact cut_at [(6,ptr b6),(15,ptr xb),(17,ptr b17)] ⟨rfl,rfl,rfl,trivial⟩ (tail hd (sl.chg k12 (fun b hb=>by have:=fr b hb;simp;omega)) (fun hb=>by have:=fr _ hb;omega) w)
  refine call_ret (rof9_calls (kd:=kd) c (w.as 1 rfl) (by omega)) ?_
  rintro _ h10 ⟨pv,lw,rv,rfl,hth,_,o10⟩
  have w:=w.own 1 rfl o10
  have l6:b6<h10.size:=(show Blk h10 b6 _ from w.get 2 rfl).lt
  have l17:b17<h10.size:=(show Blk h10 b17 _ from w.get 0 rfl).lt
  cases hok:okK kd (getS (k.map RX.pr) key now)with
  |false=>
   rw[hok]at w
   exact cut_at [(6,ptr b6),(15,ptr xb),(17,ptr b17)] ⟨rfl,rfl,rfl,trivial⟩ (tail (q:=⟨0,0,⟨#[]⟩,[]⟩) (Jd9.no (by decide) (hkd hne ar hall key hkey hok)) SL.nil (fun hb=>(nomatch (show b6∈([]:List Nat)from hb))) w)
  |true=>
   rw[hok]at w
   have hc:=hf hne hkey ar hall hok ⟨c,hth,ht9 key,hks,hz,by omega⟩ (w.as 1 rfl)
   rcases hfn with⟨rfl,rfl⟩|⟨rfl,rfl⟩|⟨rfl,rfl⟩|⟨rfl,rfl⟩
   all_goals
    repeat refine Ai rfl (Ai (fun he=>absurd he (by decide)) (fun _=>?_))
    refine Ai rfl (Ai (fun _=>?_) (fun he=>absurd rfl he))
    refine call_ret hc ?_
    rintro _ h11 ⟨q,lv',E,why,⟨ra,rn,rc,rfl,sl,fr⟩,⟨t',pv',lw',rv',key',_,o11⟩,hd⟩
    have w:=w.own 1 rfl o11
    refine w.st2 0 rfl rfl rfl rfl fun h12 w k12=>?_
    exact cut_at [(6,ptr b6),(15,ptr xb),(17,ptr b17)] ⟨rfl,rfl,rfl,trivial⟩ (tail hd (sl.chg k12 (fun b hb=>by have:=fr b hb;simp;omega)) (fun hb=>by have:=fr _ hb;omega) w)
 refine call_ret (rmany9_calls c (w.as 0 rfl)) ?_
 rintro _ h6 (⟨m1,m2,rfl,_,o6⟩|⟨mn,rfl,_,o6⟩)
 rotate_left
 ·have w:=w.own 0 rfl o6
  refine w.ldr9 0 rfl rfl ?_
  refine w.callv rFail9_calls fun h7 w=>?_
  refine w.st1 1 rfl rfl rfl rfl fun h8 w=>?_
  rw[hout (fun ar=>mn ⟨ar.1,ar.2.1⟩)]
  exact⟨_,rfl,cells_blk (w.get 1 rfl),w.chg,rfl⟩
 have w:=w.own 0 rfl o6
 refine Ai (fun he=>?_) (fun hn1=>?_)
 rotate_left
 refine Ai (fun he=>?_) (fun hn2=>?_)
 rotate_left
 ·exact cut_at [(6,ptr b6),(9,.string N),(12,.int .i64 kd),(13,.int .i64 wh),(15,ptr xb),(16,.bool true)] ⟨rfl,rfl,rfl,rfl,rfl,rfl,trivial⟩ (mid ⟨m1,m2,fun hp=>absurd hp (by rintro(h|h);exact hn1 h;exact hn2 h)⟩ w)
 all_goals
  have hp:N=qHSET∨N=qZADD:=by first|exact .inl he|exact .inr he
  refine w.ldr9 0 rfl rfl ?_
  refine Ai rfl (Ai (by decide) (fun z hz'=>?_))
  have hz':z=((A.length%2:Nat):Int):=by rw[hz'];exact(Int.ofNat_tmod A.length 2).symm
  subst hz'
  refine Ai rfl (Ai (fun hev=>?_) (fun hodd=>?_))
  ·refine w.stw9 0 rfl fun h7 w=>?_
   refine w.ldr9 0 rfl rfl ?_
   refine w.callv rFail9_calls fun h8 w=>?_
   refine w.st1 1 rfl rfl rfl rfl fun h9 w=>?_
   rw[hout (fun ar=>by have:=ar.2.2 hp;omega)]
   exact⟨_,rfl,cells_blk (w.get 1 rfl),w.chg,rfl⟩
  ·exact cut_at [(6,ptr b6),(9,.string N),(12,.int .i64 kd),(13,.int .i64 wh),(15,ptr xb),(16,.bool true)] ⟨rfl,rfl,rfl,rfl,rfl,rfl,trivial⟩ (mid ⟨m1,m2,fun _=>by omega⟩ w)
section
variable {h0 h h1 h':Heap} {xb i:Nat} {now n m:Int} {kv av lv pv lw rv:Value} {k:List RX} {A l:List ByteArray} {L E:List Eff} {why key s u nm:ByteArray} {t:Thing} {M:List En} {T:List Nat} {res:Res}
theorem score_in (t9:T9 t) {z:Int} (h:scoreF t.ranks nm=some z):In64 z:=by
 unfold scoreF at h
 cases hp:t.ranks.find? (fun r=>decide (r.name=nm))with
 |none=>rw[hp]at h;cases h
 |some p=>
  rw[hp]at h
  rw[←Option.some.inj h]
  exact t9.ri p (List.mem_of_find?_eq_some hp)
theorem rzcard_calls (x:As h0 h (aT xb t pv lw rv key kv now av lv [] noText)) (g:RG9 h0 kv k av A key t pv lw rv):CallsH Tryz.prog 63 [ptr xb,.string ⟨#[90,67,65,82,68]⟩] h
  (Ret (Reply9 h0 h xb t pv lw rv key kv now av lv (.ok (numR t.ranks.length,[])))):=by
 refine f63_calls (by simp) ?_
 intro b4 h1 g1
 have w:=x.st.new g1
 have hsl:=fun h2 hc=>(th_lists (g.th h2 hc)).2.2
 obtain⟨la,lc,rfl,_⟩:=(hsl h0 (Chg.refl _)).form
 have ln:t.ranks.length≤2000:=g.t9.rs
 refine w.ldr9 1 rfl rfl ?_
 refine Ai (fun he=>absurd he (by decide)) (fun _=>?_)
 refine Ai (fun he=>absurd he (by decide)) (fun _=>?_)
 refine Ai (fun _=>?_) (fun he=>absurd rfl he)
 refine w.callv rInt9_calls fun h2 w=>?_
 refine w.st1 0 rfl rfl rfl rfl fun h3 w=>?_
 exact Reply9.fin x w 0 1 rfl rfl (Jd9.ok rfl)
theorem rzrem_calls (x:As h0 h (aT xb t pv lw rv key kv now av lv [] noText)) (g:RG9 h0 kv k av (key::l) key t pv lw rv):CallsH Tryz.prog 63 [ptr xb,.string ⟨#[90,82,69,77]⟩] h
  (Ret (Reply9 h0 h xb t pv lw rv key kv now av lv (.ok (numR (hereL (thereR t.ranks) l).length,(hereL (thereR t.ranks) l).map fun n=>⟨15,key,n,noText,0⟩)))):=by
 refine f63_calls (by simp) ?_
 intro b4 h1 g1
 have w:=x.st.new g1
 have hsl:=fun h2 hc=>(th_lists (g.th h2 hc)).2.2
 obtain⟨la,lc,rfl,_⟩:=(hsl h0 (Chg.refl _)).form
 have ln:t.ranks.length≤2000:=g.t9.rs
 refine w.ldr9 1 rfl rfl ?_
 refine Ai (fun he=>absurd he (by decide)) (fun _=>?_)
 refine Ai (fun _=>?_) (fun he=>absurd rfl he)
 refine call_ret (raway_calls (th:=thereR t.ranks) (fun x=>rthere5_calls x g) (x.out w 1 rfl).1 g) ?_
 rintro _ h2 ⟨q,lv',E,why,⟨ra,rn,rc,rfl,sl,fr⟩,⟨t',pv',lw',rv',key',_,o2⟩,hd⟩
 have l4:b4<h1.size:=(show Blk h1 b4 _ from w.get 0 rfl).lt
 have z1:=w.chg.size
 have w:=w.own 1 rfl o2
 refine w.st2 0 rfl rfl rfl rfl fun h3 w k3=>?_
 exact⟨_,rfl,cells_blk (w.get 0 rfl),q,lv',E,why,⟨ra,rn,rc,rfl,sl.chg k3 (fun b hb=>by have:=fr b hb;simp;omega),fun b hb=>by have:=fr b hb;omega⟩,⟨t',pv',lw',rv',key',x.out w 1 rfl⟩,hd⟩
theorem rzscore_calls (hla:LaidN h0) (x:As h0 h (aT xb t pv lw rv key kv now av lv [] noText)) (g:RG9 h0 kv k av [key,s] key t pv lw rv):CallsH Tryz.prog 63 [ptr xb,.string ⟨#[90,83,67,79,82,69]⟩] h
  (Ret (Reply9 h0 h xb t pv lw rv key kv now av lv (match scoreF t.ranks s with
   |some z=>.ok (textR ⟨⟨Lib.itoa z⟩⟩,[])
   |none=>.ok (nilR,[])))):=by
 refine f63_calls (by simp) ?_
 intro b4 h1 g1
 have w:=x.st.new g1
 have hsl:=fun h2 hc=>(th_lists (g.th h2 hc)).2.2
 obtain⟨la,lc,rfl,_⟩:=(hsl h0 (Chg.refl _)).form
 have ln:t.ranks.length≤2000:=g.t9.rs
 refine w.ldr9 1 rfl rfl ?_
 obtain⟨b,o,cc,rfl⟩:=g.c.argF (by simp)
 refine Ai (fun he=>absurd he (by decide)) (fun _=>?_)
 refine Ai (fun he=>absurd he (by decide)) (fun _=>?_)
 refine Ai (fun he=>absurd he (by decide)) (fun _=>?_)
 refine Ai (fun _=>?_) (fun he=>absurd rfl he)
 refine w.ldr9 1 rfl rfl ?_
 refine g.c.ix (x.base w) 1 rfl rfl ?_
 refine call_ret (rscore_calls (x.out w 1 rfl).1 g) ?_
 rintro _ h2 ⟨hr,e⟩
 have e:=e.symm
 subst e
 rcases hr with⟨hf,hi,rfl⟩|⟨i,z,hf,hi,rfl⟩
 ·refine w.st1 0 rfl rfl rfl rfl fun h3 w=>?_
  exact Reply9.fin (a:=0) (m:=0) (s:=noText) x w 0 1 rfl rfl (Jd9.ok (by rw[hf];rfl))
 ·refine Ai (fun he=>absurd he (by decide)) (fun _=>?_)
  have z64:=score_in g.t9 hf
  refine w.callv (format_calls (hla.ext (x.base w)) z64.1 z64.2) fun h3 w=>?_
  refine w.callv rText9_calls fun h4 w=>?_
  refine w.st1 0 rfl rfl rfl rfl fun h5 w=>?_
  exact Reply9.fin x w 0 1 rfl rfl (Jd9.ok (by rw[hf];rfl))
theorem rzrank_calls (_hla:LaidN h0) (x:As h0 h (aT xb t pv lw rv key kv now av lv [] noText)) (g:RG9 h0 kv k av [key,s] key t pv lw rv):CallsH Tryz.prog 63 [ptr xb,.string ⟨#[90,82,65,78,75]⟩] h
  (Ret (Reply9 h0 h xb t pv lw rv key kv now av lv (match t.ranks.findIdx? fun r=>decide (r.name=s)with
   |some i=>.ok (numR i,[])
   |none=>.ok (nilR,[])))):=by
 refine f63_calls (by simp) ?_
 intro b4 h1 g1
 have w:=x.st.new g1
 have hsl:=fun h2 hc=>(th_lists (g.th h2 hc)).2.2
 obtain⟨la,lc,rfl,_⟩:=(hsl h0 (Chg.refl _)).form
 have ln:t.ranks.length≤2000:=g.t9.rs
 refine w.ldr9 1 rfl rfl ?_
 obtain⟨b,o,cc,rfl⟩:=g.c.argF (by simp)
 refine Ai (fun he=>absurd he (by decide)) (fun _=>?_)
 refine Ai (fun he=>absurd he (by decide)) (fun _=>?_)
 refine Ai (fun he=>absurd he (by decide)) (fun _=>?_)
 refine Ai (fun he=>absurd he (by decide)) (fun _=>?_)
 refine Ai (fun _=>?_) (fun he=>absurd rfl he)
 refine w.ldr9 1 rfl rfl ?_
 refine g.c.ix (x.base w) 1 rfl rfl ?_
 refine call_ret (rscore_calls (x.out w 1 rfl).1 g) ?_
 rintro _ h2 ⟨hr,e⟩
 have e:=e.symm
 subst e
 rcases hr with⟨hf,hi,rfl⟩|⟨i,z,hf,hi,rfl⟩
 ·refine w.st1 0 rfl rfl rfl rfl fun h3 w=>?_
  exact Reply9.fin (a:=0) (m:=0) (s:=noText) x w 0 1 rfl rfl (Jd9.ok (by rw[hi];rfl))
 ·refine Ai (fun _=>?_) (fun he=>absurd rfl he)
  refine w.callv rInt9_calls fun h4 w=>?_
  refine w.st1 0 rfl rfl rfl rfl fun h5 w=>?_
  exact Reply9.fin x w 0 1 rfl rfl (Jd9.ok (by rw[hi];rfl))
set_option maxHeartbeats 1000000 in
theorem rzincr_calls (hn:numOf s=some n) (hla:LaidN h0) (x:As h0 h (aT xb t pv lw rv key kv now av lv [] noText)) (g:RG9 h0 kv k av [key,s,nm] key t pv lw rv):CallsH Tryz.prog 63 [ptr xb,.string ⟨#[90,73,78,67,82,66,89]⟩] h
  (Ret (Reply9 h0 h xb t pv lw rv key kv now av lv (addTo ((scoreF t.ranks nm).getD 0) n fun z=>.ok (textR ⟨⟨Lib.itoa z⟩⟩,dropsS (k.map RX.pr) key now++[rankE key nm z])))):=by
 refine f63_calls (by simp) ?_
 intro b4 h1 g1
 have w:=x.st.new g1
 have hsl:=fun h2 hc=>(th_lists (g.th h2 hc)).2.2
 obtain⟨la,lc,rfl,_⟩:=(hsl h0 (Chg.refl _)).form
 have ln:t.ranks.length≤2000:=g.t9.rs
 refine w.ldr9 1 rfl rfl ?_
 obtain⟨b,o,cc,rfl⟩:=g.c.argF (by simp)
 refine Ai (fun he=>absurd he (by decide)) (fun _=>?_)
 refine Ai (fun he=>absurd he (by decide)) (fun _=>?_)
 refine Ai (fun he=>absurd he (by decide)) (fun _=>?_)
 refine Ai (fun he=>absurd he (by decide)) (fun _=>?_)
 refine Ai (fun he=>absurd he (by decide)) (fun _=>?_)
 have zk:=g.ks
 have zn:=g.az nm (by simp)
 have zs:=g.az s (by simp)
 have n64:=numOf_in hn
 have tail:∀{cr:SCode} {h2:Heap} {m items:Int},(scoreF t.ranks nm).getD 0=m→In64 m→items≤65536→St (xb::vblk lv) h h2 [.b b4 [.int .i64 0,.int .i64 0,.string ⟨#[]⟩,.slice none 0 0],aT xb t pv lw (.slice la t.ranks.length lc) key kv now (.slice (some ⟨b,o,none⟩) [key,s,nm].length cc) lv [] noText]→
   swp Tryz.prog (.seq (.ops f63r33) (.seq (.seq (.ops f63r34) (.cond (.tmp 174) (.ops f63r35) .skip)) (.seq (.ops f63r36) .ret)))
    (thenQ (swp Tryz.prog cr (retQ [.cn 4 4] (Ret (Reply9 h0 h xb t pv lw (.slice la t.ranks.length lc) key kv now (.slice (some ⟨b,o,none⟩) [key,s,nm].length cc) lv (addTo ((scoreF t.ranks nm).getD 0) n fun z=>.ok (textR ⟨⟨Lib.itoa z⟩⟩,dropsS (k.map RX.pr) key now++[rankE key nm z])))))) (retQ [.cn 4 4] (Ret (Reply9 h0 h xb t pv lw (.slice la t.ranks.length lc) key kv now (.slice (some ⟨b,o,none⟩) [key,s,nm].length cc) lv (addTo ((scoreF t.ranks nm).getD 0) n fun z=>.ok (textR ⟨⟨Lib.itoa z⟩⟩,dropsS (k.map RX.pr) key now++[rankE key nm z]))))))
    (mk [(0,ptr xb),(4,ptr b4),(13,.int .i64 n),(16,.int .i64 m),(18,.int .i64 items)]) [] h2:=by
  intro cr h2 m items hm m64 hi w
  rw[hm]
  refine call_ret (rplus9_calls m64 n64 (x.out w 1 rfl).1) ?_
  rintro _ h6 (⟨ho,rfl,_,o6⟩|⟨ho,rfl,_,o6⟩)
  ·have w:=w.own 1 rfl o6
   refine w.ldr9 1 rfl rfl ?_
   refine g.c.ix (x.base w) 2 rfl rfl ?_
   refine call_ret (rput9_calls g.c (x.out w 1 rfl).1 (by simp) hi (by omega) (by omega) (by decide)) ?_
   rintro _ h8 ⟨rfl,lv2,_,o8⟩
   have w:=w.own 1 rfl o8
   refine w.callv (format_calls (hla.ext (x.base w)) ho.1 ho.2) fun h7 w=>?_
   refine w.callv rText9_calls fun h9 w=>?_
   refine w.st1 0 rfl rfl rfl rfl fun h10 w=>?_
   exact Reply9.fin x w 0 1 rfl rfl (Jd9.ok (if_pos ho))
  ·have w:=w.own 1 rfl o6
   refine w.callv (format_calls (hla.ext (x.base w)) (by decide) (by decide)) fun h7 w=>?_
   refine w.callv rText9_calls fun h9 w=>?_
   refine w.st1 0 rfl rfl rfl rfl fun h10 w=>?_
   exact Reply9.fin x w 0 1 rfl rfl (Jd9.no (why:=wOver) (by decide) (if_neg ho))
 refine w.ldr9 1 rfl rfl ?_
 refine g.c.ix (x.base w) 1 rfl rfl ?_
 refine callp (rnum_some (by omega) hn) ?_
 refine Ai (fun _=>?_) (fun he=>absurd rfl he)
 refine w.ldr9 1 rfl rfl ?_
 refine g.c.ix (x.base w) 2 rfl rfl ?_
 refine call_ret (rscore_calls (x.out w 1 rfl).1 g) ?_
 rintro _ h2 ⟨hr,e⟩
 have e:=e.symm
 subst e
 rcases hr with⟨hf,_,rfl⟩|⟨i,z0,hf,_,rfl⟩
 ·refine Ai rfl (fun z hz=>?_)
  have hz:=add_in hz (by omega) (by omega)
  subst hz
  refine cut_in [(0,ptr xb),(4,ptr b4),(13,.int .i64 n),(16,.int .i64 0),(17,.bool false),(18,.int .i64 ((t.ranks.length+1:Nat):Int))] (mono_thenQ (fun σ σ' ds h hs hh=>swp_sub _ _ σ σ' ds h mono_retQ hs hh) mono_retQ) ⟨rfl,rfl,rfl,rfl,rfl,rfl,trivial⟩ ?_
  refine ass_go ?_
  refine mv_go (v:=.bool false) rfl ?_
  refine cnd_go (t:=false) rfl ?_
  refine skp_go ?_
  exact cut_in [(0,ptr xb),(4,ptr b4),(13,.int .i64 n),(16,.int .i64 0),(18,.int .i64 ((t.ranks.length+1:Nat):Int))] (mono_thenQ (fun σ σ' ds h hs hh=>swp_sub _ _ σ σ' ds h mono_retQ hs hh) mono_retQ) ⟨rfl,rfl,rfl,rfl,rfl,trivial⟩ (tail (by rw[hf];rfl) ⟨by decide,by decide⟩ (by omega) w)
 ·have z64:=score_in g.t9 hf
  refine Ai rfl (fun z hz=>?_)
  have hz:=add_in hz (by omega) (by omega)
  subst hz
  refine Ai rfl (fun z hz=>?_)
  have hz:z=(t.ranks.length:Int):=hz.trans ((wrap_in (by omega) (by omega)).trans (by omega))
  subst hz
  exact cut_in [(0,ptr xb),(4,ptr b4),(13,.int .i64 n),(16,.int .i64 z0),(18,.int .i64 (t.ranks.length:Int))] (mono_thenQ (fun σ σ' ds h hs hh=>swp_sub _ _ σ σ' ds h mono_retQ hs hh) mono_retQ) ⟨rfl,rfl,rfl,rfl,rfl,trivial⟩ (tail (by rw[hf];rfl) z64 (by omega) w)
end
end Go.Proofs.YtjnijlnmbjjgpaaGreatDoor
namespace Go.Proofs.YtjnijlnmbjjgpaaGreatDoor
open Go Go.Sx C
section
variable {h0 h h1 h':Heap} {xb i:Nat} {now n m:Int} {kv av lv pv lw rv:Value} {k:List RX} {A l:List ByteArray} {L E:List Eff} {why key s u nm:ByteArray} {t:Thing} {M:List En} {T:List Nat} {res:Res} {r:List (Int×ByteArray)}
theorem scored_at (hr:scored (twos l)=some r) {q:Nat} (h:2*q+1<l.length):∃z,numOf l[2*q]=some z∧r[q]? =some (z,l[2*q+1]):=scored_get hr (twos_get h)
theorem scored_snd (hr:scored (twos l)=some r) {q:Nat} (h:2*q+1<l.length):(r.map Prod.snd)[q]? =some l[2*q+1]:=by
 obtain⟨z,_,h2⟩:=scored_at hr h
 rw[List.getElem?_map,h2];rfl
theorem ahead3_in (hr:scored (twos l)=some r) {q:Nat} (hq:2*q+1<l.length) (h:∃j,2+j*2<2+q*2∧(key::l)[2+j*2]? =(key::l)[2+q*2]?):l[2*q+1]∈(r.map Prod.snd).take q:=by
 obtain⟨j,h1,h2⟩:=h
 have e:2+j*2=(2*j+1)+1:=by omega
 have e':2+q*2=(2*q+1)+1:=by omega
 rw[e,e',List.getElem?_cons_succ,List.getElem?_cons_succ,List.getElem?_eq_getElem (by omega),List.getElem?_eq_getElem (by omega)]at h2
 rw[←Option.some.inj h2]
 refine List.mem_iff_getElem?.2 ⟨j,?_⟩
 rw[List.getElem?_take_of_lt (by omega),scored_snd hr (by omega)]
theorem ahead3_no (hr:scored (twos l)=some r) {q:Nat} (hq:2*q+1<l.length) (h:∀j,2+j*2<2+q*2→(key::l)[2+j*2]? ≠(key::l)[2+q*2]?):l[2*q+1]∉(r.map Prod.snd).take q:=by
 intro hm
 obtain⟨j,he⟩:=List.mem_iff_getElem?.1 hm
 have hj:j<q:=by
  obtain⟨hlt,_⟩:=List.getElem?_eq_some_iff.1 he
  rw[List.length_take]at hlt
  omega
 rw[List.getElem?_take_of_lt hj,scored_snd hr (by omega)]at he
 refine h j (by omega) ?_
 have e:2+j*2=(2*j+1)+1:=by omega
 have e':2+q*2=(2*q+1)+1:=by omega
 rw[e,e',List.getElem?_cons_succ,List.getElem?_cons_succ,List.getElem?_eq_getElem (by omega),List.getElem?_eq_getElem (by omega),Option.some.inj he]
set_option maxHeartbeats 2000000 in
theorem rzadd_calls (hr:scored (twos l)=some r) (x:As h0 h (aT xb t pv lw rv key kv now av lv [] noText)) (g:RG9 h0 kv k av (key::l) key t pv lw rv) (h2:2≤l.length) (hev:l.length%2=0):CallsH Tryz.prog 63 [ptr xb,.string ⟨#[90,65,68,68]⟩] h
  (Ret (Reply9 h0 h xb t pv lw rv key kv now av lv (.ok (numR (newL (thereR t.ranks) [] (r.map Prod.snd)).length,dropsS (k.map RX.pr) key now++r.map fun p=>rankE key p.2 p.1)))):=by
 have al:=g.al
 simp only[List.length_cons]at al
 obtain⟨b,o,cc,rfl⟩:=g.c.argF (by simp)
 refine f63_calls (by simp) ?_
 intro b4 h1 g1
 have w:=x.st.new g1
 have hsl:=fun h2 hc=>(th_lists (g.th h2 hc)).2.2
 obtain⟨la,lc,rfl,_⟩:=(hsl h0 (Chg.refl _)).form
 have ln:t.ranks.length≤2000:=g.t9.rs
 have zk:=g.ks
 obtain⟨N,hN⟩:∃N,N=r.map Prod.snd:=⟨_,rfl⟩
 obtain⟨Es,hEs⟩:∃Es,Es=r.map fun p=>rankE key p.2 p.1:=⟨_,rfl⟩
 have hhalf:=twos_half (Nat.le_refl l.length)
 have hrl:=scored_len hr
 have hNl:N.length=(twos l).length:=by rw[hN,List.length_map,hrl]
 have hEl:Es.length=(twos l).length:=by rw[hEs,List.length_map,hrl]
 have hnl:∀q,(newL (thereR t.ranks) [] (N.take q)).length≤20:=fun q=>by
  have:=newL_len (th:=thereR t.ranks) (l:=N.take q) (pre:=[])
  rw[List.length_take]at this
  omega
 rw[←hN,←hEs]
 refine w.ldr9 1 rfl rfl ?_
 refine Ai (fun _=>?_) (fun he=>absurd rfl he)
 refine loop_intro (fun q:Nat×Value=>[(0,ptr xb),(4,ptr b4),(5,.slice la t.ranks.length lc),(6,.int .i64 ((newL (thereR t.ranks) [] (N.take q.1)).length:Nat)),(7,.int .i64 ((1+q.1*2:Nat):Int))])
  (fun q h'=>2*q.1≤l.length∧St (xb::vblk lv) h h' [.b b4 [.int .i64 0,.int .i64 0,.string ⟨#[]⟩,.slice none 0 0],aT xb t pv lw (.slice la t.ranks.length lc) key kv now (.slice (some ⟨b,o,none⟩) (key::l).length cc) q.2 (accG (k.map RX.pr) key now Es q.1) noText])
  (fun q=>l.length-2*q.1) (0,lv) ⟨rfl,rfl,rfl,rfl,rfl,trivial⟩ ⟨Nat.zero_le _,w⟩ ?_
 rintro⟨q,lq⟩ h4 ⟨hq,w⟩
 have hq:2*q≤l.length:=hq
 have hn4:=hnl q
 have hn5:(newL (thereR t.ranks) [] (N.take (q,lq).1)).length≤20:=hn4
 have la2:=accG_len (S:=k.map RX.pr) (key:=key) (now:=now) (Es:=Es) (j:=q) (by omega)
 have w:St (xb::vblk lv) h h4 [.b b4 [.int .i64 0,.int .i64 0,.string ⟨#[]⟩,.slice none 0 0],aT xb t pv lw (.slice la t.ranks.length lc) key kv now (.slice (some ⟨b,o,none⟩) (key::l).length cc) lq (accG (k.map RX.pr) key now Es q) noText]:=w
 refine w.ldr9 1 rfl rfl ?_
 refine Ai rfl (Ai (fun hlt=>?_) (fun hge=>?_))
 ·have hlt:2*q+1<l.length:=by simp only[List.length_cons]at hlt;omega
  obtain⟨zq,hzq,hrq⟩:=scored_at hr hlt
  have hNq:N[q]? =some l[2*q+1]:=by have e:=scored_snd hr hlt;rw[←hN]at e;exact e
  have hNlt:q<N.length:=(List.getElem?_eq_some_iff.1 hNq).1
  have hNe:N[q]=l[2*q+1]:=(List.getElem?_eq_some_iff.1 hNq).2
  have hEq:Es[q]? =some ⟨14,key,l[2*q+1],⟨#[]⟩,zq⟩:=by
   have e:(r.map fun p=>rankE key p.2 p.1)[q]? =some (rankE key l[2*q+1] zq):=by rw[List.getElem?_map,hrq];rfl
   rw[←hEs]at e;exact e
  have hA1:(key::l)[1+q*2]? =some l[2*q]:=by rw[show 1+q*2=2*q+1 by omega,List.getElem?_cons_succ,List.getElem?_eq_getElem (by omega)]
  have hA2:(key::l)[1+q*2+1]? =some l[2*q+1]:=by rw[show 1+q*2+1=(2*q+1)+1 by omega,List.getElem?_cons_succ,List.getElem?_eq_getElem hlt]
  have zn:=g.az l[2*q] (List.mem_cons_of_mem _ (List.getElem_mem _))
  have zt:=g.az l[2*q+1] (List.mem_cons_of_mem _ (List.getElem_mem _))
  have ain:=ahead3_in (key:=key) hr hlt
  have ano:=ahead3_no (key:=key) hr hlt
  rw[←hN]at ain ano
  have hsn:=newL_snoc (th:=thereR t.ranks) hNlt
  rw[hNe]at hsn
  refine w.ldr9 1 rfl rfl ?_
  refine Ai rfl (fun z hz=>?_)
  have hz:=add_in hz (by omega) (by omega)
  subst hz
  refine g.c.ix (x.base w) (1+q*2+1) rfl hA2 ?_
  refine call_ret (rthere5_calls (x.out w 1 rfl).1 g) ?_
  rintro _ h5 ⟨hr,e5⟩
  have e5:=e5.symm
  subst e5
  have same:(!thereR t.ranks l[2*q+1]&&decide (l[2*q+1]∉N.take q))=false→(newL (thereR t.ranks) [] (N.take (q+1))).length=(newL (thereR t.ranks) [] (N.take q)).length:=fun hc=>by rw[hsn,hc,if_neg (by decide),List.append_nil]
  rcases hr with⟨hf,rfl⟩|⟨hf,rfl⟩
  ·refine Ai rfl (fun z hz=>?_)
   have hz:=add_in hz (by omega) (by omega)
   subst hz
   refine call_ret (rahead_calls (p:=1+q*2+1) (f0:=2) (st:=2) (x.out w 1 rfl).1 g.c (by simp only[List.length_cons];omega) (by simp only[List.length_cons];omega) (by omega) (Nat.le_refl _)) ?_
   rintro _ h6 ⟨hr,e6⟩
   have e6:=e6.symm
   subst e6
   rcases hr with⟨ha,rfl⟩|⟨ha,rfl⟩
   ·have hc:(!thereR t.ranks l[2*q+1]&&decide (l[2*q+1]∉N.take q))=true:=by rw[hf,decide_eq_true (ano (by simpa only[show 1+q*2+1=2+q*2 by omega]using ha))];rfl
    have hln:(newL (thereR t.ranks) [] (N.take (q+1))).length=(newL (thereR t.ranks) [] (N.take q)).length+1:=by rw[hsn,hc,if_pos rfl];simp
    refine Ai rfl (fun z hz=>?_)
    have hz:=add_in hz (by omega) (by omega)
    subst hz
    refine w.ldr9 1 rfl rfl ?_
    refine g.c.ix (x.base w) (1+q*2) rfl hA1 ?_
    refine callp (rnum_some (by omega) hzq) ?_
    refine w.ldr9 1 rfl rfl ?_
    refine Ai rfl (fun z hz=>?_)
    have hz:=add_in hz (by omega) (by omega)
    subst hz
    refine g.c.ix (x.base w) (1+q*2+1) rfl hA2 ?_
    refine Ai rfl (fun z hz=>?_)
    have hz:z=(t.ranks.length:Int)+(((newL (thereR t.ranks) [] (N.take q)).length+1:Nat):Int):=hz.trans (wrap_in (by omega) (by omega))
    subst hz
    refine call_ret (rput9_calls g.c (x.out w 1 rfl).1 (Nat.le_trans la2 (by omega)) (by omega) (by omega) (by omega) (by decide)) ?_
    rintro _ h6 ⟨rfl,lv2,_,o6⟩
    have w:=w.own 1 rfl o6
    rw[accG_next hEq]at w
    refine Ai rfl (fun z hz=>?_)
    have hz:z=((1+(q+1)*2:Nat):Int):=(hz.trans (wrap_in (by omega) (by omega))).trans (by omega)
    subst hz
    exact Ai rfl (Ei (q+1,_) (Ai ⟨rfl,rfl,rfl,by rw[hln];rfl,rfl,trivial⟩ (Ai ⟨by show 2*(q+1)≤_;omega,w⟩ (by simp only;omega))))
   ·have hln:=same (by rw[decide_eq_false (fun hn=>hn (ain (by simpa only[show 1+q*2+1=2+q*2 by omega]using ha))),Bool.and_false])
    refine w.ldr9 1 rfl rfl ?_
    refine g.c.ix (x.base w) (1+q*2) rfl hA1 ?_
    refine callp (rnum_some (by omega) hzq) ?_
    refine w.ldr9 1 rfl rfl ?_
    refine Ai rfl (fun z hz=>?_)
    have hz:=add_in hz (by omega) (by omega)
    subst hz
    refine g.c.ix (x.base w) (1+q*2+1) rfl hA2 ?_
    refine Ai rfl (fun z hz=>?_)
    have hz:z=(t.ranks.length:Int)+(((newL (thereR t.ranks) [] (N.take q)).length:Nat):Int):=hz.trans (wrap_in (by omega) (by omega))
    subst hz
    refine call_ret (rput9_calls g.c (x.out w 1 rfl).1 (Nat.le_trans la2 (by omega)) (by omega) (by omega) (by omega) (by decide)) ?_
    rintro _ h6 ⟨rfl,lv2,_,o6⟩
    have w:=w.own 1 rfl o6
    rw[accG_next hEq]at w
    refine Ai rfl (fun z hz=>?_)
    have hz:z=((1+(q+1)*2:Nat):Int):=(hz.trans (wrap_in (by omega) (by omega))).trans (by omega)
    subst hz
    exact Ai rfl (Ei (q+1,_) (Ai ⟨rfl,rfl,rfl,by rw[hln];rfl,rfl,trivial⟩ (Ai ⟨by show 2*(q+1)≤_;omega,w⟩ (by simp only;omega))))
  ·have hln:=same (by rw[hf];rfl)
   refine w.ldr9 1 rfl rfl ?_
   refine g.c.ix (x.base w) (1+q*2) rfl hA1 ?_
   refine callp (rnum_some (by omega) hzq) ?_
   refine w.ldr9 1 rfl rfl ?_
   refine Ai rfl (fun z hz=>?_)
   have hz:=add_in hz (by omega) (by omega)
   subst hz
   refine g.c.ix (x.base w) (1+q*2+1) rfl hA2 ?_
   refine Ai rfl (fun z hz=>?_)
   have hz:z=(t.ranks.length:Int)+(((newL (thereR t.ranks) [] (N.take q)).length:Nat):Int):=hz.trans (wrap_in (by omega) (by omega))
   subst hz
   refine call_ret (rput9_calls g.c (x.out w 1 rfl).1 (Nat.le_trans la2 (by omega)) (by omega) (by omega) (by omega) (by decide)) ?_
   rintro _ h6 ⟨rfl,lv2,_,o6⟩
   have w:=w.own 1 rfl o6
   rw[accG_next hEq]at w
   refine Ai rfl (fun z hz=>?_)
   have hz:z=((1+(q+1)*2:Nat):Int):=(hz.trans (wrap_in (by omega) (by omega))).trans (by omega)
   subst hz
   exact Ai rfl (Ei (q+1,_) (Ai ⟨rfl,rfl,rfl,by rw[hln];rfl,rfl,trivial⟩ (Ai ⟨by show 2*(q+1)≤_;omega,w⟩ (by simp only;omega))))
 ·have hkl:2*q=l.length:=by simp only[List.length_cons]at hge;omega
  have hqN:N.length≤q:=by omega
  have hqE:Es.length≤q:=by omega
  refine w.callv rInt9_calls fun h6 w=>?_
  refine w.st1 0 rfl rfl rfl rfl fun h7 w=>?_
  exact Reply9.fin x w 0 1 rfl rfl (Jd9.ok (by unfold accG;rw[if_neg (by omega),List.take_of_length_le hqN,List.take_of_length_le hqE];rfl))
end
end Go.Proofs.YtjnijlnmbjjgpaaGreatDoor
namespace Go.Proofs.YtjnijlnmbjjgpaaGreatDoor
open Go Go.Sx C
section
variable {h0 h h1 h':Heap} {xb i:Nat} {now n m:Int} {kv av lv pv lw rv:Value} {k:List RX} {A l:List ByteArray} {L E:List Eff} {why key s u nm:ByteArray} {t:Thing} {M:List En} {T:List Nat} {res:Res}
theorem rng_next {α:Type} {l:List α} {i p q:Nat} (hi:i<l.length):(l.take (min (i+1) q)).drop p=(l.take (min i q)).drop p++(if p≤i∧i<q then[l[i]]else[]):=by
 by_cases hq:i<q
 ·rw[Nat.min_eq_left (by omega:i+1≤q),Nat.min_eq_left (by omega:i≤q),List.take_succ_eq_append_getElem hi]
  by_cases hp:p≤i
  ·rw[if_pos ⟨hp,hq⟩,List.drop_append_of_le_length (by rw[List.length_take];omega)]
  ·rw[if_neg (fun h=>hp h.1),List.append_nil,List.drop_eq_nil_of_le (by rw[List.length_append,List.length_take,List.length_singleton];omega),List.drop_eq_nil_of_le (by rw[List.length_take];omega)]
 ·rw[if_neg (fun h=>hq h.2),List.append_nil,Nat.min_eq_right (by omega:q≤i+1),Nat.min_eq_right (by omega:q≤i)]
theorem flt_next {l:List Rank} {P:Rank→Bool} {i:Nat} (hi:i<l.length):(l.take (i+1)).filter P=(l.take i).filter P++(if P l[i]=true then[l[i]]else[]):=by
 rw[List.take_succ_eq_append_getElem hi,List.filter_append]
 congr 1
 cases hp:P l[i]with
 |true=>rw[if_pos rfl];simp[hp]
 |false=>rw[if_neg (by decide)];simp[hp]
set_option maxHeartbeats 1000000 in
theorem rzrange_calls (hn:numOf s=some n) (hm:numOf u=some m) (x:As h0 h (aT xb t pv lw rv key kv now av lv [] noText)) (g:RG9 h0 kv k av [key,s,u] key t pv lw rv):CallsH Tryz.prog 63 [ptr xb,.string ⟨#[90,82,65,78,71,69]⟩] h
  (Ret (Reply9 h0 h xb t pv lw rv key kv now av lv (.ok (listR ((spanL t.ranks n m).map Rank.name),[])))):=by
 refine f63_calls (by simp) ?_
 intro b4 h1 g1
 have w:=x.st.new g1
 have hsl:=fun h2 hc=>(th_lists (g.th h2 hc)).2.2
 obtain⟨la,lc,rfl,_⟩:=(hsl h0 (Chg.refl _)).form
 have ln:t.ranks.length≤2000:=g.t9.rs
 obtain⟨b,o,cc,rfl⟩:=g.c.argF (by simp)
 have zs:=g.az s (by simp)
 have zu:=g.az u (by simp)
 have n64:=numOf_in hn
 have m64:=numOf_in hm
 refine w.ldr9 1 rfl rfl ?_
 refine Ai (fun he=>absurd he (by decide)) (fun _=>?_)
 refine Ai (fun he=>absurd he (by decide)) (fun _=>?_)
 refine Ai (fun he=>absurd he (by decide)) (fun _=>?_)
 refine Ai (fun he=>absurd he (by decide)) (fun _=>?_)
 refine Ai (fun he=>absurd he (by decide)) (fun _=>?_)
 refine w.ldr9 1 rfl rfl ?_
 refine g.c.ix (x.base w) 1 rfl rfl ?_
 refine callp (rnum_some (by omega) hn) ?_
 refine Ai (fun he=>absurd he (by decide)) (fun _=>?_)
 refine w.ldr9 1 rfl rfl ?_
 refine g.c.ix (x.base w) 2 rfl rfl ?_
 refine callp (rnum_some (by omega) hm) ?_
 refine callp (rspan_calls (by omega) n64 m64) ?_
 have hsp:=spanN_le t.ranks.length n m
 obtain⟨p1,hp1⟩:∃p1,p1=(spanN t.ranks.length n m).1:=⟨_,rfl⟩
 obtain⟨p2,hp2⟩:∃p2,p2=(spanN t.ranks.length n m).2:=⟨_,rfl⟩
 rw[←hp1,←hp2]
 rw[←hp1,←hp2]at hsp
 have w:=w.empty (enc:=encS) (size:=1)
 refine loop_intro (fun q:Nat×Value=>[(0,ptr xb),(1,.string ⟨#[90,82,65,78,71,69]⟩),(4,ptr b4),(5,.slice la t.ranks.length lc),(13,.int .i64 n),(20,.int .i64 m),(22,q.2),(23,.int .i64 p1),(24,.int .i64 p2),(25,.int .i64 q.1)])
  (fun q h'=>q.1≤t.ranks.length∧St (xb::vblk lv) h h' [.o encS 1 q.2 (((t.ranks.take (min q.1 p2)).drop p1).map Rank.name),.b b4 [.int .i64 0,.int .i64 0,.string ⟨#[]⟩,.slice none 0 0],aT xb t pv lw (.slice la t.ranks.length lc) key kv now (.slice (some ⟨b,o,none⟩) [key,s,u].length cc) lv [] noText])
  (fun q=>t.ranks.length-q.1) (0,.slice none 0 0) ⟨rfl,rfl,rfl,rfl,rfl,rfl,rfl,rfl,rfl,rfl,trivial⟩ ⟨Nat.zero_le _,by show St _ h h1 [.o encS 1 (.slice none 0 0) (((t.ranks.take (min 0 p2)).drop p1).map Rank.name),_,_];rw[show(((t.ranks.take (min 0 p2)).drop p1).map Rank.name)=([]:List ByteArray)by simp];exact w⟩ ?_
 rintro⟨i,v⟩ h4 ⟨hi,w⟩
 have hi:i≤t.ranks.length:=hi
 have w:St (xb::vblk lv) h h4 [.o encS 1 v (((t.ranks.take (min i p2)).drop p1).map Rank.name),.b b4 [.int .i64 0,.int .i64 0,.string ⟨#[]⟩,.slice none 0 0],aT xb t pv lw (.slice la t.ranks.length lc) key kv now (.slice (some ⟨b,o,none⟩) [key,s,u].length cc) lv [] noText]:=w
 obtain⟨ac,hac⟩:∃ac,ac=(((t.ranks.take (min i p2)).drop p1).map Rank.name):=⟨_,rfl⟩
 have hal:ac.length≤2000:=by rw[hac];simp only[List.length_map,List.length_drop,List.length_take];omega
 rw[←hac]at w
 obtain⟨a4,c4,rfl,_⟩:=(show OL encS 1 h4 v ac from w.get 0 rfl).sl.form
 refine Ai rfl (Ai (fun hlt=>?_) (fun hge=>?_))
 ·have hlt:i<t.ranks.length:=by omega
  obtain⟨rb,ro,rfl⟩:=(hsl h0 (Chg.refl _)).addr (by omega)
  have hcs:=(hsl _ (x.base w)).cells encR_len (List.getElem?_eq_getElem hlt)
  have nxY:(p1≤i∧i<p2)→(((t.ranks.take (min (i+1) p2)).drop p1).map Rank.name)=ac++[t.ranks[i].name]:=fun hc=>by rw[rng_next hlt,if_pos hc,List.map_append,hac];rfl
  have nxN:¬(p1≤i∧i<p2)→(((t.ranks.take (min (i+1) p2)).drop p1).map Rank.name)=ac:=fun hc=>by rw[rng_next hlt,if_neg hc,List.append_nil,hac]
  refine Ai (fun _=>?_) (fun he=>absurd rfl he)
  refine Ai rfl (Ai (fun q1=>?_) (fun q1=>?_))
  ·refine Ai rfl (Ai (fun q2=>?_) (fun q2=>?_))
   ·refine Ai (by omega) (Ai (by omega) (Ei _ (Ai (by simpa using hcs 0 _ rfl) ?_)))
    intro b9 h8 g8
    have w:=w.new g8
    refine w.app 1 rfl encS_len encS_one rfl (SL.one encS_len (x:=t.ranks[i].name) (w.get 0 rfl)) (by simp only[List.length_singleton];omega) fun v' h9 w=>?_
    rw[←nxY ⟨by omega,by omega⟩]at w
    have w:=w.pick [1,2,3] (by decide)
    refine Ai rfl (fun z hz=>?_)
    have hz:=add_in hz (by omega) (by omega)
    subst hz
    exact Ai rfl (Ei (i+1,_) (Ai ⟨rfl,rfl,rfl,rfl,rfl,rfl,rfl,rfl,rfl,rfl,trivial⟩ (Ai ⟨hlt,w⟩ (by simp only;omega))))
   ·refine Ai (fun hne=>absurd rfl hne) (fun _=>?_)
    have w:St (xb::vblk lv) h h4 [.o encS 1 (.slice a4 ac.length c4) (((t.ranks.take (min (i+1) p2)).drop p1).map Rank.name),.b b4 [.int .i64 0,.int .i64 0,.string ⟨#[]⟩,.slice none 0 0],aT xb t pv lw (.slice (some ⟨rb,ro,none⟩) t.ranks.length lc) key kv now (.slice (some ⟨b,o,none⟩) [key,s,u].length cc) lv [] noText]:=by rw[nxN (fun h=>q2 (by omega))];exact w
    refine Ai rfl (fun z hz=>?_)
    have hz:=add_in hz (by omega) (by omega)
    subst hz
    exact Ai rfl (Ei (i+1,_) (Ai ⟨rfl,rfl,rfl,rfl,rfl,rfl,rfl,rfl,rfl,rfl,trivial⟩ (Ai ⟨hlt,w⟩ (by simp only;omega))))
  ·refine Ai (fun hne=>absurd rfl hne) (fun _=>?_)
   have w:St (xb::vblk lv) h h4 [.o encS 1 (.slice a4 ac.length c4) (((t.ranks.take (min (i+1) p2)).drop p1).map Rank.name),.b b4 [.int .i64 0,.int .i64 0,.string ⟨#[]⟩,.slice none 0 0],aT xb t pv lw (.slice (some ⟨rb,ro,none⟩) t.ranks.length lc) key kv now (.slice (some ⟨b,o,none⟩) [key,s,u].length cc) lv [] noText]:=by rw[nxN (fun h=>q1 (by omega))];exact w
   refine Ai rfl (fun z hz=>?_)
   have hz:=add_in hz (by omega) (by omega)
   subst hz
   exact Ai rfl (Ei (i+1,_) (Ai ⟨rfl,rfl,rfl,rfl,rfl,rfl,rfl,rfl,rfl,rfl,trivial⟩ (Ai ⟨hlt,w⟩ (by simp only;omega))))
 ·have hil:i=t.ranks.length:=by omega
  have se:=(show OL encS 1 h4 _ ac from w.get 0 rfl).sl
  have l4:b4<h4.size:=(show Blk h4 b4 _ from w.get 1 rfl).lt
  have z1:=w.chg.size
  refine call_ret (rtexts_calls se (by omega)) ?_
  rintro _ h5 ⟨⟨ra,rn,rc,rfl,sl,fr⟩,c5⟩
  have w:=w.ext c5
  refine w.st2 1 rfl rfl rfl rfl fun h6 w k6=>?_
  exact⟨_,rfl,cells_blk (w.get 1 rfl),listR ac,lv,[],noText,⟨ra,rn,rc,rfl,sl.chg k6 (fun b hb=>by have:=fr b hb;simp;omega),fun b hb=>by have:=fr b hb;omega⟩,⟨t,_,_,_,key,x.out w 2 rfl⟩,Jd9.ok (by rw[hac,hil];rw[Nat.min_eq_right hsp.2];unfold spanL;rw[←hp1,←hp2,List.drop_take])⟩
set_option maxHeartbeats 1000000 in
theorem rzby_calls (hn:numOf s=some n) (hm:numOf u=some m) (x:As h0 h (aT xb t pv lw rv key kv now av lv [] noText)) (g:RG9 h0 kv k av [key,s,u] key t pv lw rv):CallsH Tryz.prog 63 [ptr xb,.string ⟨#[90,82,65,78,71,69,66,89,83,67,79,82,69]⟩] h
  (Ret (Reply9 h0 h xb t pv lw rv key kv now av lv (.ok (listR ((t.ranks.filter fun r=>decide (n≤r.score)&&decide (r.score≤m)).map Rank.name),[])))):=by
 refine f63_calls (by simp) ?_
 intro b4 h1 g1
 have w:=x.st.new g1
 have hsl:=fun h2 hc=>(th_lists (g.th h2 hc)).2.2
 obtain⟨la,lc,rfl,_⟩:=(hsl h0 (Chg.refl _)).form
 have ln:t.ranks.length≤2000:=g.t9.rs
 obtain⟨b,o,cc,rfl⟩:=g.c.argF (by simp)
 have zs:=g.az s (by simp)
 have zu:=g.az u (by simp)
 have n64:=numOf_in hn
 have m64:=numOf_in hm
 refine w.ldr9 1 rfl rfl ?_
 refine Ai (fun he=>absurd he (by decide)) (fun _=>?_)
 refine Ai (fun he=>absurd he (by decide)) (fun _=>?_)
 refine Ai (fun he=>absurd he (by decide)) (fun _=>?_)
 refine Ai (fun he=>absurd he (by decide)) (fun _=>?_)
 refine Ai (fun he=>absurd he (by decide)) (fun _=>?_)
 refine w.ldr9 1 rfl rfl ?_
 refine g.c.ix (x.base w) 1 rfl rfl ?_
 refine callp (rnum_some (by omega) hn) ?_
 refine Ai (fun he=>absurd he (by decide)) (fun _=>?_)
 refine w.ldr9 1 rfl rfl ?_
 refine g.c.ix (x.base w) 2 rfl rfl ?_
 refine callp (rnum_some (by omega) hm) ?_
 refine callp (rspan_calls (by omega) n64 m64) ?_
 have hsp:=spanN_le t.ranks.length n m
 obtain⟨p1,hp1⟩:∃p1,p1=(spanN t.ranks.length n m).1:=⟨_,rfl⟩
 obtain⟨p2,hp2⟩:∃p2,p2=(spanN t.ranks.length n m).2:=⟨_,rfl⟩
 rw[←hp1,←hp2]
 rw[←hp1,←hp2]at hsp
 have w:=w.empty (enc:=encS) (size:=1)
 refine loop_intro (fun q:Nat×Value=>[(0,ptr xb),(1,.string ⟨#[90,82,65,78,71,69,66,89,83,67,79,82,69]⟩),(4,ptr b4),(5,.slice la t.ranks.length lc),(13,.int .i64 n),(20,.int .i64 m),(22,q.2),(23,.int .i64 p1),(24,.int .i64 p2),(25,.int .i64 q.1)])
  (fun q h'=>q.1≤t.ranks.length∧St (xb::vblk lv) h h' [.o encS 1 q.2 (((t.ranks.take q.1).filter fun r=>decide (n≤r.score)&&decide (r.score≤m)).map Rank.name),.b b4 [.int .i64 0,.int .i64 0,.string ⟨#[]⟩,.slice none 0 0],aT xb t pv lw (.slice la t.ranks.length lc) key kv now (.slice (some ⟨b,o,none⟩) [key,s,u].length cc) lv [] noText])
  (fun q=>t.ranks.length-q.1) (0,.slice none 0 0) ⟨rfl,rfl,rfl,rfl,rfl,rfl,rfl,rfl,rfl,rfl,trivial⟩ ⟨Nat.zero_le _,by show St _ h h1 [.o encS 1 (.slice none 0 0) (((t.ranks.take 0).filter fun r=>decide (n≤r.score)&&decide (r.score≤m)).map Rank.name),_,_];rw[show(((t.ranks.take 0).filter fun r=>decide (n≤r.score)&&decide (r.score≤m)).map Rank.name)=([]:List ByteArray)by simp];exact w⟩ ?_
 rintro⟨i,v⟩ h4 ⟨hi,w⟩
 have hi:i≤t.ranks.length:=hi
 have w:St (xb::vblk lv) h h4 [.o encS 1 v (((t.ranks.take i).filter fun r=>decide (n≤r.score)&&decide (r.score≤m)).map Rank.name),.b b4 [.int .i64 0,.int .i64 0,.string ⟨#[]⟩,.slice none 0 0],aT xb t pv lw (.slice la t.ranks.length lc) key kv now (.slice (some ⟨b,o,none⟩) [key,s,u].length cc) lv [] noText]:=w
 obtain⟨ac,hac⟩:∃ac,ac=(((t.ranks.take i).filter fun r=>decide (n≤r.score)&&decide (r.score≤m)).map Rank.name):=⟨_,rfl⟩
 have hal:ac.length≤2000:=by rw[hac];refine Nat.le_trans (by rw[List.length_map];exact List.length_filter_le _ _) ?_;rw[List.length_take];omega
 rw[←hac]at w
 obtain⟨a4,c4,rfl,_⟩:=(show OL encS 1 h4 v ac from w.get 0 rfl).sl.form
 refine Ai rfl (Ai (fun hlt=>?_) (fun hge=>?_))
 ·have hlt:i<t.ranks.length:=by omega
  obtain⟨rb,ro,rfl⟩:=(hsl h0 (Chg.refl _)).addr (by omega)
  have hcs:=(hsl _ (x.base w)).cells encR_len (List.getElem?_eq_getElem hlt)
  have nxY:(n≤t.ranks[i].score∧t.ranks[i].score≤m)→(((t.ranks.take (i+1)).filter fun r=>decide (n≤r.score)&&decide (r.score≤m)).map Rank.name)=ac++[t.ranks[i].name]:=fun hc=>by rw[flt_next hlt,if_pos (by rw[decide_eq_true hc.1,decide_eq_true hc.2];rfl),List.map_append,hac];rfl
  have nxN:¬(n≤t.ranks[i].score∧t.ranks[i].score≤m)→(((t.ranks.take (i+1)).filter fun r=>decide (n≤r.score)&&decide (r.score≤m)).map Rank.name)=ac:=fun hc=>by rw[flt_next hlt,if_neg (by simpa using hc),List.append_nil,hac]
  refine Ai (fun he=>absurd he (by decide)) (fun _=>?_)
  refine Ai (fun _=>?_) (fun he=>absurd (by decide) he)
  refine Ai (by omega) (Ai (by omega) (Ei _ (Ai (by simpa using hcs 1 _ rfl) ?_)))
  refine Ai rfl (Ai (fun q1=>?_) (fun q1=>?_))
  ·refine Ai (by omega) (Ai (by omega) (Ei _ (Ai (by simpa using hcs 1 _ rfl) ?_)))
   refine Ai rfl (Ai (fun q2=>?_) (fun q2=>?_))
   ·refine Ai (by omega) (Ai (by omega) (Ei _ (Ai (by simpa using hcs 0 _ rfl) ?_)))
    intro b9 h8 g8
    have w:=w.new g8
    refine w.app 1 rfl encS_len encS_one rfl (SL.one encS_len (x:=t.ranks[i].name) (w.get 0 rfl)) (by simp only[List.length_singleton];omega) fun v' h9 w=>?_
    rw[←nxY ⟨by omega,by omega⟩]at w
    have w:=w.pick [1,2,3] (by decide)
    refine Ai rfl (fun z hz=>?_)
    have hz:=add_in hz (by omega) (by omega)
    subst hz
    exact Ai rfl (Ei (i+1,_) (Ai ⟨rfl,rfl,rfl,rfl,rfl,rfl,rfl,rfl,rfl,rfl,trivial⟩ (Ai ⟨hlt,w⟩ (by simp only;omega))))
   ·have w:St (xb::vblk lv) h h4 [.o encS 1 (.slice a4 ac.length c4) (((t.ranks.take (i+1)).filter fun r=>decide (n≤r.score)&&decide (r.score≤m)).map Rank.name),.b b4 [.int .i64 0,.int .i64 0,.string ⟨#[]⟩,.slice none 0 0],aT xb t pv lw (.slice (some ⟨rb,ro,none⟩) t.ranks.length lc) key kv now (.slice (some ⟨b,o,none⟩) [key,s,u].length cc) lv [] noText]:=by rw[nxN (fun h=>q2 (by omega))];exact w
    refine Ai rfl (fun z hz=>?_)
    have hz:=add_in hz (by omega) (by omega)
    subst hz
    exact Ai rfl (Ei (i+1,_) (Ai ⟨rfl,rfl,rfl,rfl,rfl,rfl,rfl,rfl,rfl,rfl,trivial⟩ (Ai ⟨hlt,w⟩ (by simp only;omega))))
  ·have w:St (xb::vblk lv) h h4 [.o encS 1 (.slice a4 ac.length c4) (((t.ranks.take (i+1)).filter fun r=>decide (n≤r.score)&&decide (r.score≤m)).map Rank.name),.b b4 [.int .i64 0,.int .i64 0,.string ⟨#[]⟩,.slice none 0 0],aT xb t pv lw (.slice (some ⟨rb,ro,none⟩) t.ranks.length lc) key kv now (.slice (some ⟨b,o,none⟩) [key,s,u].length cc) lv [] noText]:=by rw[nxN (fun h=>q1 (by omega))];exact w
   refine Ai rfl (fun z hz=>?_)
   have hz:=add_in hz (by omega) (by omega)
   subst hz
   exact Ai rfl (Ei (i+1,_) (Ai ⟨rfl,rfl,rfl,rfl,rfl,rfl,rfl,rfl,rfl,rfl,trivial⟩ (Ai ⟨hlt,w⟩ (by simp only;omega))))
 ·have hil:i=t.ranks.length:=by omega
  have se:=(show OL encS 1 h4 _ ac from w.get 0 rfl).sl
  have l4:b4<h4.size:=(show Blk h4 b4 _ from w.get 1 rfl).lt
  have z1:=w.chg.size
  refine call_ret (rtexts_calls se (by omega)) ?_
  rintro _ h5 ⟨⟨ra,rn,rc,rfl,sl,fr⟩,c5⟩
  have w:=w.ext c5
  refine w.st2 1 rfl rfl rfl rfl fun h6 w k6=>?_
  exact⟨_,rfl,cells_blk (w.get 1 rfl),listR ac,lv,[],noText,⟨ra,rn,rc,rfl,sl.chg k6 (fun b hb=>by have:=fr b hb;simp;omega),fun b hb=>by have:=fr b hb;omega⟩,⟨t,_,_,_,key,x.out w 2 rfl⟩,Jd9.ok (by rw[hac,hil];rw[List.take_length])⟩
end
end Go.Proofs.YtjnijlnmbjjgpaaGreatDoor
namespace Go.Proofs.YtjnijlnmbjjgpaaGreatDoor
open Go Go.Sx C
theorem rx_HSET:BoundR9 qHSET 3 65536 2 0:=fun h=>by
 refine f55_calls (by simp) ?_
 repeat refine Ai (fun he=>absurd he (by decide)) (fun _=>?_)
 exact Ai (fun _=>⟨rfl,rfl⟩) (fun he=>absurd rfl he)
theorem rx_HGET:BoundR9 qHGET 2 2 2 0:=fun h=>by
 refine f55_calls (by simp) ?_
 repeat refine Ai (fun he=>absurd he (by decide)) (fun _=>?_)
 exact Ai (fun _=>⟨rfl,rfl⟩) (fun he=>absurd rfl he)
theorem rx_HDEL:BoundR9 qHDEL 2 65536 2 0:=fun h=>by
 refine f55_calls (by simp) ?_
 repeat refine Ai (fun he=>absurd he (by decide)) (fun _=>?_)
 exact Ai (fun _=>⟨rfl,rfl⟩) (fun he=>absurd rfl he)
theorem rx_HLEN:BoundR9 qHLEN 1 1 2 0:=fun h=>by
 refine f55_calls (by simp) ?_
 repeat refine Ai (fun he=>absurd he (by decide)) (fun _=>?_)
 exact Ai (fun _=>⟨rfl,rfl⟩) (fun he=>absurd rfl he)
theorem rx_HGETALL:BoundR9 qHGETALL 1 1 2 0:=fun h=>by
 refine f55_calls (by simp) ?_
 repeat refine Ai (fun he=>absurd he (by decide)) (fun _=>?_)
 exact Ai (fun _=>⟨rfl,rfl⟩) (fun he=>absurd rfl he)
theorem rx_HINCRBY:BoundR9 qHINCRBY 3 3 2 2:=fun h=>by
 refine f55_calls (by simp) ?_
 repeat refine Ai (fun he=>absurd he (by decide)) (fun _=>?_)
 exact Ai (fun _=>⟨rfl,rfl⟩) (fun he=>absurd rfl he)
theorem rx_LPUSH:BoundR9 qLPUSH 2 65536 3 0:=fun h=>by
 refine f55_calls (by simp) ?_
 repeat refine Ai (fun he=>absurd he (by decide)) (fun _=>?_)
 exact Ai (fun _=>⟨rfl,rfl⟩) (fun he=>absurd rfl he)
theorem rx_RPUSH:BoundR9 qRPUSH 2 65536 3 0:=fun h=>by
 refine f55_calls (by simp) ?_
 repeat refine Ai (fun he=>absurd he (by decide)) (fun _=>?_)
 exact Ai (fun _=>⟨rfl,rfl⟩) (fun he=>absurd rfl he)
theorem rx_LPOP:BoundR9 qLPOP 1 1 3 0:=fun h=>by
 refine f55_calls (by simp) ?_
 repeat refine Ai (fun he=>absurd he (by decide)) (fun _=>?_)
 exact Ai (fun _=>⟨rfl,rfl⟩) (fun he=>absurd rfl he)
theorem rx_RPOP:BoundR9 qRPOP 1 1 3 0:=fun h=>by
 refine f55_calls (by simp) ?_
 repeat refine Ai (fun he=>absurd he (by decide)) (fun _=>?_)
 exact Ai (fun _=>⟨rfl,rfl⟩) (fun he=>absurd rfl he)
theorem rx_LLEN:BoundR9 qLLEN 1 1 3 0:=fun h=>by
 refine f55_calls (by simp) ?_
 repeat refine Ai (fun he=>absurd he (by decide)) (fun _=>?_)
 exact Ai (fun _=>⟨rfl,rfl⟩) (fun he=>absurd rfl he)
theorem rx_LINDEX:BoundR9 qLINDEX 2 2 3 1:=fun h=>by
 refine f55_calls (by simp) ?_
 repeat refine Ai (fun he=>absurd he (by decide)) (fun _=>?_)
 exact Ai (fun _=>⟨rfl,rfl⟩) (fun he=>absurd rfl he)
theorem rx_LRANGE:BoundR9 qLRANGE 3 3 3 3:=fun h=>by
 refine f55_calls (by simp) ?_
 repeat refine Ai (fun he=>absurd he (by decide)) (fun _=>?_)
 exact Ai (fun _=>⟨rfl,rfl⟩) (fun he=>absurd rfl he)
theorem rx_LSET:BoundR9 qLSET 3 3 3 1:=fun h=>by
 refine f55_calls (by simp) ?_
 repeat refine Ai (fun he=>absurd he (by decide)) (fun _=>?_)
 exact Ai (fun _=>⟨rfl,rfl⟩) (fun he=>absurd rfl he)
theorem rx_SADD:BoundR9 qSADD 2 65536 4 0:=fun h=>by
 refine f55_calls (by simp) ?_
 repeat refine Ai (fun he=>absurd he (by decide)) (fun _=>?_)
 exact Ai (fun _=>⟨rfl,rfl⟩) (fun he=>absurd rfl he)
theorem rx_SREM:BoundR9 qSREM 2 65536 4 0:=fun h=>by
 refine f55_calls (by simp) ?_
 repeat refine Ai (fun he=>absurd he (by decide)) (fun _=>?_)
 exact Ai (fun _=>⟨rfl,rfl⟩) (fun he=>absurd rfl he)
theorem rx_SISMEMBER:BoundR9 qSISMEMBER 2 2 4 0:=fun h=>by
 refine f55_calls (by simp) ?_
 repeat refine Ai (fun he=>absurd he (by decide)) (fun _=>?_)
 exact Ai (fun _=>⟨rfl,rfl⟩) (fun he=>absurd rfl he)
theorem rx_SCARD:BoundR9 qSCARD 1 1 4 0:=fun h=>by
 refine f55_calls (by simp) ?_
 repeat refine Ai (fun he=>absurd he (by decide)) (fun _=>?_)
 exact Ai (fun _=>⟨rfl,rfl⟩) (fun he=>absurd rfl he)
theorem rx_SMEMBERS:BoundR9 qSMEMBERS 1 1 4 0:=fun h=>by
 refine f55_calls (by simp) ?_
 repeat refine Ai (fun he=>absurd he (by decide)) (fun _=>?_)
 exact Ai (fun _=>⟨rfl,rfl⟩) (fun he=>absurd rfl he)
theorem rx_SINTER:BoundR9 qSINTER 1 65536 4 0:=fun h=>by
 refine f55_calls (by simp) ?_
 repeat refine Ai (fun he=>absurd he (by decide)) (fun _=>?_)
 exact Ai (fun _=>⟨rfl,rfl⟩) (fun he=>absurd rfl he)
theorem rx_ZADD:BoundR9 qZADD 3 65536 5 4:=fun h=>by
 refine f55_calls (by simp) ?_
 repeat refine Ai (fun he=>absurd he (by decide)) (fun _=>?_)
 exact Ai (fun _=>⟨rfl,rfl⟩) (fun he=>absurd rfl he)
theorem rx_ZREM:BoundR9 qZREM 2 65536 5 0:=fun h=>by
 refine f55_calls (by simp) ?_
 repeat refine Ai (fun he=>absurd he (by decide)) (fun _=>?_)
 exact Ai (fun _=>⟨rfl,rfl⟩) (fun he=>absurd rfl he)
theorem rx_ZSCORE:BoundR9 qZSCORE 2 2 5 0:=fun h=>by
 refine f55_calls (by simp) ?_
 repeat refine Ai (fun he=>absurd he (by decide)) (fun _=>?_)
 exact Ai (fun _=>⟨rfl,rfl⟩) (fun he=>absurd rfl he)
theorem rx_ZRANK:BoundR9 qZRANK 2 2 5 0:=fun h=>by
 refine f55_calls (by simp) ?_
 repeat refine Ai (fun he=>absurd he (by decide)) (fun _=>?_)
 exact Ai (fun _=>⟨rfl,rfl⟩) (fun he=>absurd rfl he)
theorem rx_ZINCRBY:BoundR9 qZINCRBY 3 3 5 1:=fun h=>by
 refine f55_calls (by simp) ?_
 repeat refine Ai (fun he=>absurd he (by decide)) (fun _=>?_)
 exact Ai (fun _=>⟨rfl,rfl⟩) (fun he=>absurd rfl he)
theorem rx_ZCARD:BoundR9 qZCARD 1 1 5 0:=fun h=>by
 refine f55_calls (by simp) ?_
 repeat refine Ai (fun he=>absurd he (by decide)) (fun _=>?_)
 exact Ai (fun _=>⟨rfl,rfl⟩) (fun he=>absurd rfl he)
theorem rx_ZRANGE:BoundR9 qZRANGE 3 3 5 3:=fun h=>by
 refine f55_calls (by simp) ?_
 repeat refine Ai (fun he=>absurd he (by decide)) (fun _=>?_)
 exact Ai (fun _=>⟨rfl,rfl⟩) (fun he=>absurd rfl he)
theorem rx_ZRANGEBYSCORE:BoundR9 qZRANGEBYSCORE 3 3 5 3:=fun h=>by
 refine f55_calls (by simp) ?_
 repeat refine Ai (fun he=>absurd he (by decide)) (fun _=>?_)
 exact Ai (fun _=>⟨rfl,rfl⟩) (fun he=>absurd rfl he)
section
variable {S:Space} {now kd lo hi wh:Int} {fn g:Nat} {key s u nm w N:ByteArray} {l A:List ByteArray} {res:Space→Res} {r:Rep} {E:List Eff} {a b:Res}
theorem p9 (hN:up w=N) (hwz:w.size≤300) (hal:A.length≤19) (hz:∀a∈A,a.size≤300) (hg:look9 cmd9 N=some g)
  (hc:∀{h0 h:Heap} {kb sb mb c ab:Nat} {m:List KI} {S:Space} {av:Value},P9 h0 kb sb mb c m S av A→S9 S→InS S→LaidN h0→K5.TabH h0→(∀a∈A,a.size<281474976710656)→As h0 h (c0 ab kb now av)→CallsH Tryz.prog g [ptr ab] h (Cmd9 h0 h ab kb now av (res S))):ByP9 now (w::A) res:=by
 intro h kb sb mb c m S av kr hs s8 s9 hla ht hav
 exact do9_calls kr hav (by simp only[List.length_cons];omega) (by omega) (by rw[hN];exact hg) (fun h2 ab av' hx x=>hc ⟨kr,hs,hx⟩ s9 s8.few.ins hla ht (fun a ha=>by have:=hz a ha;omega) x)
theorem Sh.bad {e:ByteArray}:Short (.error e):=⟨by show(0:Nat)≤_;omega,by show(0:Nat)≤_;omega⟩
theorem Sh.one (h:r.l.length≤100000) (hE:E.length≤100000):Short (.ok (r,E)):=⟨h,hE⟩
theorem Sh.nil (h:r.l.length≤100000):Short (.ok (r,[])):=⟨h,by show(0:Nat)≤_;omega⟩
theorem Sh.ite {c:Prop} [Decidable c] (ha:Short a) (hb:Short b):Short (if c then a else b):=by split<;>assumption
theorem Sh.kind {f:Thing→Res} (hs:S9 S) (h:∀t,T9 t→Short (f t)):Short (kindly S now kd key f):=by
 unfold kindly
 have h9:=hs.get key now
 cases hg:getS S key now with
 |none=>rw[hg]at h9;exact h _ h9
 |some t=>rw[hg]at h9;exact Sh.ite (h _ h9) Sh.bad
theorem drops_len9:(dropsS S key now).length≤1:=by unfold dropsS;split<;>simp
theorem hereL_len {th:ByteArray→Bool}:(hereL th l).length≤l.length:=newL_len
theorem Sh.make {items:Int} {ok:Bool} (h:r.l.length≤100000) (hE:E.length≤90000):Short (makes S now key items ok r E):=
 Sh.ite (Sh.one h (by have:=drops_len9 (S:=S) (key:=key) (now:=now);rw[List.length_append];omega)) Sh.bad
theorem Sh.num {f:Int→Res} (h:∀n,Short (f n)):Short (numbered s f):=by
 unfold numbered
 split
 ·exact h _
 ·exact Sh.bad
theorem Sh.add {n m:Int} {f:Int→Res} (h:∀z,Short (f z)):Short (addTo n m f):=Sh.ite (h _) Sh.bad
theorem Sh.a1 {f:ByteArray→Res} (h:∀k,Short (f k)):Short (arg1 f A):=by
 unfold arg1
 split
 ·exact h _
 ·exact Sh.bad
theorem Sh.a2 {f:ByteArray→ByteArray→Res} (h:∀k n,Short (f k n)):Short (arg2 f A):=by
 unfold arg2
 split
 ·exact h _ _
 ·exact Sh.bad
theorem Sh.a3 {f:ByteArray→ByteArray→ByteArray→Res} (h:∀k n m,Short (f k n m)):Short (arg3 f A):=by
 unfold arg3
 split
 ·exact h _ _ _
 ·exact Sh.bad
theorem Sh.many {c:List ByteArray→Res} (h0:c []=.error wArgs) (h:∀key l,A=key::l→Short (c A)):Short (c A):=by
 cases A with
 |nil=>rw[h0];exact Sh.bad
 |cons key l=>exact h key l rfl
theorem Sh.inter (hs:S9 S):∀{ks acc:List ByteArray},acc.length≤2000→Short (interL S now acc ks fun l=>.ok (listR l,[]))
 |[],acc,ha=>Sh.nil (by show(acc.map _).length≤_;rw[List.length_map];omega)
 |key::ks,acc,ha=>Sh.kind hs (fun t ht=>Sh.inter hs (Nat.le_trans (List.length_filter_le _ _) ha))
theorem zero_le9:(0:Nat)≤100000:=Nat.zero_le _
def Fn9 (kd:Int) (fn:Nat):Prop:=(kd=2∧fn=60)∨(kd=3∧fn=61)∨(kd=4∧fn=62)∨(kd=5∧fn=63)
abbrev Say9 (now:Int) (fn:Nat) (N:ByteArray) (A:List ByteArray) (key:ByteArray) (f:Space→Thing→Res):Prop:=∀{h0 h:Heap} {xb:Nat} {kv av pv lw rv:Value} {k:List RX} {t:Thing},LaidN h0→RG9 h0 kv k av A key t pv lw rv→As h0 h (aT xb t pv lw rv key kv now av (.slice none 0 0) [] noText)→
 CallsH Tryz.prog fn [ptr xb,.string N] h (Ret (Reply9 h0 h xb t pv lw rv key kv now av (.slice none 0 0) (f (k.map RX.pr) t)))
structure R9 (now:Int) (AA:List ByteArray) (res:Space→Res):Prop where
 get:ByR9 now AA res
theorem r9 (hb:BoundR9 N lo hi kd wh) (hlo:1≤lo) (hfn:Fn9 kd fn) (hns:N≠qSINTER) (hN:up w=N) (hwz:w.size≤300) (hal:A.length≤19) (hz:∀a∈A,a.size≤300)
  (h1:∀S,¬Arg9 N lo hi A→res S=.error wArgs) (h2:∀S,Arg9 N lo hi A→(∃j,1≤j∧j<A.length∧need9 wh j∧(A[j]?.bind numOf)=none)→res S=.error wNum)
  (h3:Arg9 N lo hi A→NumsOk wh A→∀key,A[0]? =some key→∃f:Space→Thing→Res,(∀S,res S=kindly S now kd key (f S))∧Say9 now fn N A key f):R9 now (w::A) res:=⟨by
 intro h kv av k hsl hgx hup hlen hfit s8 s9 hla hav
 refine rdo9_calls hsl hgx hup (by omega) hfit hav (by omega) hwz hz hN hb hlo hfn (h1 _) (h2 _) (fun _ ar nm key hk hok=>?_) (fun key=>s9.get key now) (fun _=>?_) (fun e=>absurd e hns)
 ·obtain⟨f,e,_⟩:=h3 ar nm key hk
  rw[e];exact kindlyR_no hok
 ·intro h1 xb av' pv lw rv key hk ar nm hok g x
  obtain⟨f,e,c⟩:=h3 ar nm key hk
  have hh:=c hla g x
  rw[e,kindlyR_ok hok];exact hh⟩
def Plain9 (N:ByteArray):Prop:=N≠qHSET∧N≠qZADD∧N≠qSINTER
theorem ar9 (hp:Plain9 N) (h1:lo≤A.length) (h2:(A.length:Int)≤hi):Arg9 N lo hi A:=⟨h1,h2,fun h=>absurd h (by rintro(h|h);exact hp.1 h;exact hp.2.1 h)⟩
theorem no0 {P:Prop} (h:∃j,1≤j∧j<A.length∧need9 0 j∧(A[j]?.bind numOf)=none):P:=by
 obtain⟨j,h1,_,h3,_⟩:=h
 unfold need9 at h3;omega
theorem an1 (h:Arg9 N 1 1 A) (hk:A[0]? =some key):A=[key]:=by
 match A,h.1,h.2.1,hk with
 |[_],_,_,hk=>cases hk;rfl
 |_::_::_,_,h2,_=>simp only[List.length_cons]at h2;omega
theorem an2 (h:Arg9 N 2 2 A) (hk:A[0]? =some key):∃s,A=[key,s]:=by
 match A,h.1,h.2.1,hk with
 |[_],h1,_,_=>simp at h1
 |[_,s],_,_,hk=>cases hk;exact⟨s,rfl⟩
 |_::_::_::_,_,h2,_=>simp only[List.length_cons]at h2;omega
theorem an3 (h:Arg9 N 3 3 A) (hk:A[0]? =some key):∃s u,A=[key,s,u]:=by
 match A,h.1,h.2.1,hk with
 |[_],h1,_,_=>simp at h1
 |[_,_],h1,_,_=>simp at h1
 |[_,s,u],_,_,hk=>cases hk;exact⟨s,u,rfl⟩
 |_::_::_::_::_,_,h2,_=>simp only[List.length_cons]at h2;omega
theorem key9 (h:Arg9 N lo hi A) (hlo:1≤lo):∃key,A[0]? =some key:=⟨_,List.getElem?_eq_getElem (by have:=h.1;omega)⟩
theorem no1 {f:ByteArray→Res} (h:A.length≠1):arg1 f A=.error wArgs:=by
 unfold arg1;split
 ·exact absurd rfl h
 ·rfl
theorem no2 {f:ByteArray→ByteArray→Res} (h:A.length≠2):arg2 f A=.error wArgs:=by
 unfold arg2;split
 ·exact absurd rfl h
 ·rfl
theorem no3 {f:ByteArray→ByteArray→ByteArray→Res} (h:A.length≠3):arg3 f A=.error wArgs:=by
 unfold arg3;split
 ·exact absurd rfl h
 ·rfl
theorem num_some {f:Int→Res} {n:Int} (h:numOf s=some n):numbered s f=f n:=by unfold numbered;rw[h]
theorem num_none {f:Int→Res} (h:numOf s=none):numbered s f=.error wNum:=by unfold numbered;rw[h]
theorem r1 {f:Space→ByteArray→Thing→Res} (hb:BoundR9 N 1 1 kd 0) (hfn:Fn9 kd fn) (hp:Plain9 N) (hc:∀key,Say9 now fn N [key] key fun S=>f S key) (hN:up w=N) (hwz:w.size≤300) (hal:A.length≤19) (hz:∀a∈A,a.size≤300):R9 now (w::A) (fun S=>arg1 (fun key=>kindly S now kd key (f S key)) A):=by
 refine r9 hb (by decide) hfn hp.2.2 hN hwz hal hz (fun S ha=>no1 fun e=>ha (ar9 hp (by omega) (by omega))) (fun S _ h=>no0 h) (fun ar _ key hk=>?_)
 obtain rfl:=an1 ar hk
 exact⟨fun S=>f S key,fun S=>rfl,hc key⟩
theorem r2 {f:Space→ByteArray→ByteArray→Thing→Res} (hb:BoundR9 N 2 2 kd 0) (hfn:Fn9 kd fn) (hp:Plain9 N) (hc:∀key s,Say9 now fn N [key,s] key fun S=>f S key s) (hN:up w=N) (hwz:w.size≤300) (hal:A.length≤19) (hz:∀a∈A,a.size≤300):R9 now (w::A) (fun S=>arg2 (fun key s=>kindly S now kd key (f S key s)) A):=by
 refine r9 hb (by decide) hfn hp.2.2 hN hwz hal hz (fun S ha=>no2 fun e=>ha (ar9 hp (by omega) (by omega))) (fun S _ h=>no0 h) (fun ar _ key hk=>?_)
 obtain⟨s,rfl⟩:=an2 ar hk
 exact⟨fun S=>f S key s,fun S=>rfl,hc key s⟩
theorem r2n {f:Space→ByteArray→Int→Thing→Res} (hb:BoundR9 N 2 2 kd 1) (hfn:Fn9 kd fn) (hp:Plain9 N) (hc:∀key s n,numOf s=some n→Say9 now fn N [key,s] key fun S=>f S key n) (hN:up w=N) (hwz:w.size≤300) (hal:A.length≤19) (hz:∀a∈A,a.size≤300):R9 now (w::A) (fun S=>arg2 (fun key s=>numbered s fun n=>kindly S now kd key (f S key n)) A):=by
 refine r9 hb (by decide) hfn hp.2.2 hN hwz hal hz (fun S ha=>no2 fun e=>ha (ar9 hp (by omega) (by omega))) (fun S ar h=>?_) (fun ar nm key hk=>?_)
 ·obtain⟨key,hk⟩:=key9 ar (by decide)
  obtain⟨s,rfl⟩:=an2 ar hk
  obtain⟨j,h1,h2,h3,h4⟩:=h
  obtain rfl:j=1:=by simp at h2;omega
  exact num_none h4
 ·obtain⟨s,rfl⟩:=an2 ar hk
  obtain⟨n,hn⟩:=nm 1 (by decide) (by simp) (.inr (.inr ⟨rfl,by decide⟩))
  exact⟨fun S=>f S key n,fun S=>num_some hn,hc key s n hn⟩
theorem r3 {f:Space→ByteArray→Int→Int→Thing→Res} (hb:BoundR9 N 3 3 kd 3) (hfn:Fn9 kd fn) (hp:Plain9 N) (hc:∀key s u n m,numOf s=some n→numOf u=some m→Say9 now fn N [key,s,u] key fun S=>f S key n m) (hN:up w=N) (hwz:w.size≤300) (hal:A.length≤19) (hz:∀a∈A,a.size≤300):R9 now (w::A) (fun S=>arg3 (fun key s u=>numbered s fun n=>numbered u fun m=>kindly S now kd key (f S key n m)) A):=by
 refine r9 hb (by decide) hfn hp.2.2 hN hwz hal hz (fun S ha=>no3 fun e=>ha (ar9 hp (by omega) (by omega))) (fun S ar h=>?_) (fun ar nm key hk=>?_)
 ·obtain⟨key,hk⟩:=key9 ar (by decide)
  obtain⟨s,u,rfl⟩:=an3 ar hk
  obtain⟨j,h1,h2,h3,h4⟩:=h
  have h2:j<3:=h2
  show numbered s _=_
  rcases(show j=1∨j=2 by omega)with rfl|rfl
  ·exact num_none h4
  ·cases hs:numOf s with
   |none=>exact num_none hs
   |some n=>rw[num_some hs];exact num_none h4
 ·obtain⟨s,u,rfl⟩:=an3 ar hk
  obtain⟨n,hn⟩:=nm 1 (by decide) (by simp) (.inr (.inl rfl))
  obtain⟨m,hm⟩:=nm 2 (by decide) (by simp) (.inr (.inl rfl))
  exact⟨fun S=>f S key n m,fun S=>(num_some hn).trans (num_some hm),hc key s u n m hn hm⟩
theorem r3a {f:Space→ByteArray→Int→ByteArray→Thing→Res} (hb:BoundR9 N 3 3 kd 1) (hfn:Fn9 kd fn) (hp:Plain9 N) (hc:∀key s u n,numOf s=some n→Say9 now fn N [key,s,u] key fun S=>f S key n u) (hN:up w=N) (hwz:w.size≤300) (hal:A.length≤19) (hz:∀a∈A,a.size≤300):R9 now (w::A) (fun S=>arg3 (fun key s u=>numbered s fun n=>kindly S now kd key (f S key n u)) A):=by
 refine r9 hb (by decide) hfn hp.2.2 hN hwz hal hz (fun S ha=>no3 fun e=>ha (ar9 hp (by omega) (by omega))) (fun S ar h=>?_) (fun ar nm key hk=>?_)
 ·obtain⟨key,hk⟩:=key9 ar (by decide)
  obtain⟨s,u,rfl⟩:=an3 ar hk
  obtain⟨j,h1,h2,h3,h4⟩:=h
  obtain rfl:j=1:=by unfold need9 at h3;omega
  exact num_none h4
 ·obtain⟨s,u,rfl⟩:=an3 ar hk
  obtain⟨n,hn⟩:=nm 1 (by decide) (by simp) (.inr (.inr ⟨rfl,by decide⟩))
  exact⟨fun S=>f S key n u,fun S=>num_some hn,hc key s u n hn⟩
theorem r3b {f:Space→ByteArray→ByteArray→Int→Thing→Res} (hb:BoundR9 N 3 3 kd 2) (hfn:Fn9 kd fn) (hp:Plain9 N) (hc:∀key s u n,numOf u=some n→Say9 now fn N [key,s,u] key fun S=>f S key s n) (hN:up w=N) (hwz:w.size≤300) (hal:A.length≤19) (hz:∀a∈A,a.size≤300):R9 now (w::A) (fun S=>arg3 (fun key s u=>numbered u fun n=>kindly S now kd key (f S key s n)) A):=by
 refine r9 hb (by decide) hfn hp.2.2 hN hwz hal hz (fun S ha=>no3 fun e=>ha (ar9 hp (by omega) (by omega))) (fun S ar h=>?_) (fun ar nm key hk=>?_)
 ·obtain⟨key,hk⟩:=key9 ar (by decide)
  obtain⟨s,u,rfl⟩:=an3 ar hk
  obtain⟨j,h1,h2,h3,h4⟩:=h
  obtain rfl:j=2:=by unfold need9 at h3;omega
  exact num_none h4
 ·obtain⟨s,u,rfl⟩:=an3 ar hk
  obtain⟨n,hn⟩:=nm 2 (by decide) (by simp) (.inr (.inr ⟨rfl,by decide⟩))
  exact⟨fun S=>f S key s n,fun S=>num_some hn,hc key s u n hn⟩
theorem rM {c:Space→List ByteArray→Res} {f:Space→ByteArray→List ByteArray→Thing→Res} (e0:∀S,c S []=.error wArgs) (e1:∀S key l,c S (key::l)=if 1≤l.length∧l.length<65536 then kindly S now kd key (f S key l)else .error wArgs) (hb:BoundR9 N 2 65536 kd 0) (hfn:Fn9 kd fn) (hp:Plain9 N)
  (hc:∀key l,1≤l.length→Say9 now fn N (key::l) key fun S=>f S key l) (hN:up w=N) (hwz:w.size≤300) (hal:A.length≤19) (hz:∀a∈A,a.size≤300):R9 now (w::A) (fun S=>c S A):=by
 refine r9 hb (by decide) hfn hp.2.2 hN hwz hal hz (fun S ha=>?_) (fun S _ h=>no0 h) (fun ar _ key hk=>?_)
 ·cases A with
  |nil=>exact e0 S
  |cons key l=>
   have hal:l.length+1≤19:=hal
   exact(e1 S key l).trans (if_neg fun h=>ha (ar9 hp (by simp only[List.length_cons];omega) (by simp only[List.length_cons];omega)))
 ·cases A with
  |nil=>cases hk
  |cons key' l=>
   cases hk
   have hl:1≤l.length:=by have:=ar.1;simp only[List.length_cons]at this;omega
   have hal:l.length+1≤19:=hal
   exact⟨fun S=>f S key l,fun S=>(e1 S key l).trans (if_pos ⟨hl,by omega⟩),hc key l hl⟩
theorem said {h0 h:Heap} {xb:Nat} {kv av lv pv lw rv:Value} {t:Thing} {ar:List Value} {a b:Res} (e:b=a) (hh:CallsH Tryz.prog fn ar h (Ret (Reply9 h0 h xb t pv lw rv key kv now av lv a))):CallsH Tryz.prog fn ar h (Ret (Reply9 h0 h xb t pv lw rv key kv now av lv b)):=by rw[e];exact hh
theorem say_hincr {t:Thing} {n:Int} (hz:∀s∈[key,nm,u],s.size≤300) (hp:t.pairs.length≤2000) (hk:key.size≤300):(numbered ((fieldF t.pairs nm).getD zeroS) fun m=>addTo m n fun z=>makes S now key (t.pairs.length+(if thereH t.pairs nm=true then 0 else 1)) (small nm&&small ⟨⟨Lib.itoa z⟩⟩) (numR z) [hashE key nm ⟨⟨Lib.itoa z⟩⟩])=
  numbered ((fieldF t.pairs nm).getD zeroS) fun m=>addTo m n fun z=>.ok (numR z,dropsS S key now++[hashE key nm ⟨⟨Lib.itoa z⟩⟩]):=by
 have zn:=hz nm (by simp)
 unfold numbered
 cases hm:numOf ((fieldF t.pairs nm).getD zeroS)with
 |none=>rfl
 |some mm=>
  show addTo mm n _=addTo mm n _
  unfold addTo
  by_cases ho:okSum mm n
  ·rw[if_pos ho,if_pos ho]
   have z300:=itoa_300 (z:=mm+n) ho
   refine makes_ok ?_ hk ?_
   ·split<;>omega
   ·unfold small
    rw[decide_eq_true (by omega:nm.size≤1048576),decide_eq_true (by omega:(⟨⟨Lib.itoa (mm+n)⟩⟩:ByteArray).size≤1048576)]
    rfl
  ·rw[if_neg ho,if_neg ho]
theorem say_zincr {t:Thing} {n:Int} (hz:∀x∈[key,s,u],x.size≤300) (hp:t.ranks.length≤2000) (hk:key.size≤300):(addTo ((scoreF t.ranks u).getD 0) n fun z=>makes S now key (t.ranks.length+(if thereR t.ranks u=true then 0 else 1)) (small u) (textR ⟨⟨Lib.itoa z⟩⟩) [rankE key u z])=
  addTo ((scoreF t.ranks u).getD 0) n fun z=>.ok (textR ⟨⟨Lib.itoa z⟩⟩,dropsS S key now++[rankE key u z]):=by
 have zn:=hz u (by simp)
 unfold addTo
 by_cases ho:okSum ((scoreF t.ranks u).getD 0) n
 ·rw[if_pos ho,if_pos ho]
  refine makes_ok ?_ hk (decide_eq_true (by omega))
  split<;>omega
 ·rw[if_neg ho,if_neg ho]
theorem say_push {t:Thing} {e:ByteArray→Eff} (hz:∀x∈(key::l),x.size≤300) (hp:t.list.length≤2000) (hk:key.size≤300) (hl:(key::l).length≤20):makes S now key (t.list.length+l.length) (l.all small) r (l.map e)=.ok (r,dropsS S key now++l.map e):=
 makes_ok (by simp only[List.length_cons]at hl;omega) hk (all_small fun s hs=>hz s (List.mem_cons_of_mem _ hs))
theorem say_lset {t:Thing} {n:Int} (hz:u.size≤300) (hp:t.list.length≤2000) (hk:key.size≤300):(match placeN t.list.length n with
  |some i=>makes S now key t.list.length (small u) okR [atE key i u]
  |none=>.error wRange)=match placeN t.list.length n with
  |some i=>.ok (okR,dropsS S key now++[atE key i u])
  |none=>.error wRange:=by
 cases placeN t.list.length n with
 |none=>rfl
 |some i=>exact makes_ok (by omega) hk (decide_eq_true (by omega))
theorem newL_sub9 {th:ByteArray→Bool}:∀{l pre:List ByteArray},∀x∈newL th pre l,x∈l
 |[],_,x,h=>(nomatch h)
 |n::ns,pre,x,h=>by
  simp only[newL]at h
  rcases List.mem_append.1 h with h|h
  ·split at h
   ·rw[List.mem_singleton.1 h];exact List.mem_cons_self ..
   ·cases h
  ·exact List.mem_cons_of_mem _ (newL_sub9 x h)
theorem say_sadd {t:Thing} (hz:∀x∈(key::l),x.size≤300) (hp:t.list.length≤2000) (hk:key.size≤300) (hl:(key::l).length≤20):(if newL (thereL t.list) [] l=[]then Except.ok (numR 0,[])else makes S now key (t.list.length+(newL (thereL t.list) [] l).length) ((newL (thereL t.list) [] l).all small) (numR (newL (thereL t.list) [] l).length) ((newL (thereL t.list) [] l).map (addE key)))=
  .ok (numR (newL (thereL t.list) [] l).length,accS S key now (addE key) (newL (thereL t.list) [] l)):=by
 have h3:=newL_len (th:=thereL t.list) (l:=l) (pre:=[])
 have hsub:=newL_sub9 (th:=thereL t.list) (l:=l) (pre:=[])
 simp only[List.length_cons]at hl
 generalize newL (thereL t.list) [] l=ns at*
 unfold accS
 cases ns with
 |nil=>rfl
 |cons a ns=>
  rw[if_neg (by simp),if_neg (by simp)]
  exact makes_ok (by simp only[List.length_cons]at h3⊢;omega) hk (all_small fun s hs=>hz s (List.mem_cons_of_mem _ (hsub s hs)))
theorem gx_HSET (hN:up w=qHSET) (hwz:w.size≤300) (hln:l.length+1≤19) (hz:∀a∈(key::l),a.size≤300):R9 now (w::(key::l)) (fun S=>cHset S now (key::l)):=⟨by
 have hln9:(key::l).length+1≤20:=by simp only[List.length_cons];omega
 intro h kv av k hsl hgx hup hlen hfit s8 s9 hla hav
 refine rdo9_calls (N:=qHSET) (A:=(key::l)) hsl hgx hup (by omega) hfit hav hln9 hwz hz hN rx_HSET (by decide) (.inl ⟨rfl,rfl⟩) ?_ (fun ar=>?_) (fun _ ar=>?_) (fun key=>s9.get key now) (fun _=>?_) (fun e=>absurd e (by decide))
 ·intro hh
  show(if 2≤l.length∧l.length<65536∧l.length%2=0 then _ else _)=_
  rw[if_neg (fun hc=>hh ⟨by simp only[List.length_cons];omega,by simp only[List.length_cons];omega,fun _=>by simp only[List.length_cons];omega⟩)]
 ·rintro⟨j,h1,h2,h3,_⟩
  unfold need9 at h3;omega
 ·obtain⟨m1,m2,hodd⟩:=ar
  have hodd:=hodd (by first|exact .inl rfl|exact .inr rfl)
  intro hall key' hk' hok
  obtain rfl:key=key':=Option.some.inj hk'
  have hp:2≤l.length∧l.length<65536∧l.length%2=0:=by simp only[List.length_cons]at m1 hodd;omega
  show(if 2≤l.length∧l.length<65536∧l.length%2=0 then kindly _ _ _ _ _ else _)=_
  rw[if_pos hp,kindlyR_no hok]
 ·intro h1 xb av' pv lw rv key' hk' ar hall hok g x
  obtain⟨m1,m2,hodd⟩:=ar
  have hodd:=hodd (by first|exact .inl rfl|exact .inr rfl)
  obtain rfl:key=key':=Option.some.inj hk'
  have hp:2≤l.length∧l.length<65536∧l.length%2=0:=by simp only[List.length_cons]at m1 hodd;omega
  have hl9:=g.t9.ps
  have e:cHset (k.map RX.pr) now (key::l)=.ok (numR (newL (thereH ((getS (k.map RX.pr) key now).getD zeroT).pairs) [] ((twos l).map Prod.fst)).length,dropsS (k.map RX.pr) key now++(twos l).map fun p=>hashE key p.1 p.2):=by
   show(if 2≤l.length∧l.length<65536∧l.length%2=0 then kindly _ _ _ _ _ else _)=_
   rw[if_pos hp,kindlyR_ok hok]
   have h3:=newL_len (th:=thereH ((getS (k.map RX.pr) key now).getD zeroT).pairs) (l:=(twos l).map Prod.fst) (pre:=[])
   have h4:=twos_half (Nat.le_refl l.length)
   rw[List.length_map]at h3
   exact makes_ok (by omega) g.ks (all_small fun s hs=>hz s (List.mem_cons_of_mem _ hs))
  have hh:=rhset_calls x g hp.1 hp.2.2
  rw[←e]at hh
  exact hh⟩
theorem gx_ZADD (hN:up w=qZADD) (hwz:w.size≤300) (hln:l.length+1≤19) (hz:∀a∈(key::l),a.size≤300):R9 now (w::(key::l)) (fun S=>cZadd S now (key::l)):=⟨by
 have hln9:(key::l).length+1≤20:=by simp only[List.length_cons];omega
 intro h kv av k hsl hgx hup hlen hfit s8 s9 hla hav
 have two:∀p∈twos l,∃q,∃h:2*q+1<l.length,p=(l[2*q],l[2*q+1]):=fun p hp=>by
  obtain⟨q,hq,rfl⟩:=List.mem_iff_getElem.1 hp
  have hh:=twos_half (Nat.le_refl l.length)
  have h1:2*q+1<l.length:=by omega
  have h2:=twos_get h1
  rw[List.getElem?_eq_getElem hq]at h2
  exact⟨q,h1,Option.some.inj h2⟩
 have sc:(key::l).length%2=1→NumsOk 4 (key::l)→∃r,scored (twos l)=some r:=fun hodd hall=>scored_some fun p hp=>by
  obtain⟨q,hq,rfl⟩:=two p hp
  obtain⟨m,hm⟩:=hall (2*q+1) (by omega) (by simp only[List.length_cons];omega) (.inl ⟨rfl,by omega⟩)
  rw[List.getElem?_cons_succ,List.getElem?_eq_getElem (by omega)]at hm
  have hm:numOf l[2*q]=some m:=hm
  show(numOf l[2*q]).isSome=true
  rw[hm];rfl
 refine rdo9_calls (N:=qZADD) (A:=(key::l)) hsl hgx hup (by omega) hfit hav hln9 hwz hz hN rx_ZADD (by decide) (.inr (.inr (.inr ⟨rfl,rfl⟩))) ?_ (fun ar=>?_) (fun _ ar=>?_) (fun key=>s9.get key now) (fun _=>?_) (fun e=>absurd e (by decide))
 ·intro hh
  show(if 2≤l.length∧l.length<65536∧l.length%2=0 then _ else _)=_
  rw[if_neg (fun hc=>hh ⟨by simp only[List.length_cons];omega,by simp only[List.length_cons];omega,fun _=>by simp only[List.length_cons];omega⟩)]
 ·obtain⟨m1,m2,hodd⟩:=ar
  have hodd:=hodd (by first|exact .inl rfl|exact .inr rfl)
  rintro⟨j,h1,h2,h3,h4⟩
  have hp:2≤l.length∧l.length<65536∧l.length%2=0:=by simp only[List.length_cons]at m1 hodd;omega
  have hj:j%2=1:=by unfold need9 at h3;omega
  obtain⟨q,rfl⟩:∃q,j=2*q+1:=⟨j/2,by omega⟩
  have h2:2*q<l.length:=by simp only[List.length_cons]at h2;omega
  rw[List.getElem?_cons_succ,List.getElem?_eq_getElem h2]at h4
  have hm:=List.mem_of_getElem? (twos_get (show 2*q+1<l.length by omega))
  have hn:=scored_none hm h4
  show(if 2≤l.length∧l.length<65536∧l.length%2=0 then _ else _)=_
  rw[if_pos hp,hn]
 ·obtain⟨m1,m2,hodd⟩:=ar
  have hodd:=hodd (by first|exact .inl rfl|exact .inr rfl)
  intro hall key' hk' hok
  obtain rfl:key=key':=Option.some.inj hk'
  have hp:2≤l.length∧l.length<65536∧l.length%2=0:=by simp only[List.length_cons]at m1 hodd;omega
  obtain⟨r,hr⟩:=sc hodd hall
  show(if 2≤l.length∧l.length<65536∧l.length%2=0 then _ else _)=_
  rw[if_pos hp,hr]
  exact kindlyR_no hok
 ·intro h1 xb av' pv lw rv key' hk' ar hall hok g x
  obtain⟨m1,m2,hodd⟩:=ar
  have hodd:=hodd (by first|exact .inl rfl|exact .inr rfl)
  obtain rfl:key=key':=Option.some.inj hk'
  have hp:2≤l.length∧l.length<65536∧l.length%2=0:=by simp only[List.length_cons]at m1 hodd;omega
  obtain⟨r,hr⟩:=sc hodd hall
  have hl9:=g.t9.rs
  have e:cZadd (k.map RX.pr) now (key::l)=.ok (numR (newL (thereR ((getS (k.map RX.pr) key now).getD zeroT).ranks) [] (r.map Prod.snd)).length,dropsS (k.map RX.pr) key now++r.map fun p=>rankE key p.2 p.1):=by
   show(if 2≤l.length∧l.length<65536∧l.length%2=0 then _ else _)=_
   rw[if_pos hp,hr]
   show kindly _ _ _ _ _=_
   rw[kindlyR_ok hok]
   have h3:=newL_len (th:=thereR ((getS (k.map RX.pr) key now).getD zeroT).ranks) (l:=r.map Prod.snd) (pre:=[])
   have h4:=twos_half (Nat.le_refl l.length)
   have h5:=scored_len hr
   rw[List.length_map]at h3
   refine makes_ok (by omega) g.ks (all_small fun s hs=>?_)
   obtain⟨p,hp2,rfl⟩:=List.mem_map.1 hs
   obtain⟨q,hq,rfl⟩:=List.mem_iff_getElem.1 hp2
   have h6:2*q+1<l.length:=by omega
   have h7:=scored_snd hr h6
   rw[List.getElem?_map,List.getElem?_eq_getElem hq]at h7
   have h7:r[q].2=l[2*q+1]:=Option.some.inj h7
   rw[h7]
   exact hz _ (List.mem_cons_of_mem _ (List.getElem_mem _))
  have hh:=rzadd_calls hr x g hp.1 hp.2.2
  rw[←e]at hh
  exact hh⟩
theorem ax_HSET (hN:up w=qHSET) (hwz:w.size≤300) (hal:A.length≤19) (hz:∀a∈A,a.size≤300):R9 now (w::A) (fun S=>cHset S now A):=by
 cases A with
 |cons key l=>exact gx_HSET hN hwz hal hz
 |nil=>
  refine⟨?_⟩
  intro h kv av k hsl hgx hup hlen hfit s8 s9 hla hav
  exact rdo9_calls hsl hgx hup (by omega) hfit hav (by decide) hwz hz hN rx_HSET (by decide) (.inl ⟨rfl,rfl⟩) (fun _=>rfl) (fun ar=>absurd ar.1 (by decide)) (fun _ ar=>absurd ar.1 (by decide)) (fun key=>s9.get key now) (fun _ _ _ _ _ _ _ _ _ ar=>absurd ar.1 (by decide)) (fun e=>absurd e (by decide))
theorem ax_ZADD (hN:up w=qZADD) (hwz:w.size≤300) (hal:A.length≤19) (hz:∀a∈A,a.size≤300):R9 now (w::A) (fun S=>cZadd S now A):=by
 cases A with
 |cons key l=>exact gx_ZADD hN hwz hal hz
 |nil=>
  refine⟨?_⟩
  intro h kv av k hsl hgx hup hlen hfit s8 s9 hla hav
  exact rdo9_calls hsl hgx hup (by omega) hfit hav (by decide) hwz hz hN rx_ZADD (by decide) (.inr (.inr (.inr ⟨rfl,rfl⟩))) (fun _=>rfl) (fun ar=>absurd ar.1 (by decide)) (fun _ ar=>absurd ar.1 (by decide)) (fun key=>s9.get key now) (fun _ _ _ _ _ _ _ _ _ ar=>absurd ar.1 (by decide)) (fun e=>absurd e (by decide))
theorem ax_SINTER (hN:up w=qSINTER) (hwz:w.size≤300) (hal:A.length≤19) (hz:∀a∈A,a.size≤300):R9 now (w::A) (fun S=>cSinter S now A):=⟨by
 intro h kv av k hsl hgx hup hlen hfit s8 s9 hla hav
 have hp:¬Arg9 qSINTER 1 65536 A→A=[]:=fun ha=>by
  cases A with
  |nil=>rfl
  |cons key l=>exact absurd ⟨by simp only[List.length_cons];omega,by simp only[List.length_cons]at hal⊢;omega,fun h=>absurd h (by decide)⟩ ha
 refine rdo9_calls hsl hgx hup (by omega) hfit hav (by omega) hwz hz hN rx_SINTER (by decide) (.inr (.inr (.inl ⟨rfl,rfl⟩))) (fun ha=>by rw[hp ha];rfl) (fun _ h=>no0 h) (fun e=>absurd rfl e) (fun key=>s9.get key now) (fun e=>absurd rfl e) (fun _ ar=>?_)
 intro h1 xb av' key' c x
 cases A with
 |cons key l=>exact rinter_calls c x s9 hz (by omega) (by simp)
 |nil=>exact absurd ar.1 (by decide)⟩
def All9 (now:Int) (AA:List ByteArray) (res:Space→Res):Prop:=ByP9 now AA res∧R9 now AA res∧∀S,S8 S→S9 S→Short (res S)
theorem x_HSET (hN:up w=qHSET) (hwz:w.size≤300) (hal:A.length≤19) (hz:∀a∈A,a.size≤300):All9 now (w::A) (fun S=>cHset S now A):=
 ⟨p9 hN hwz hal hz rfl fun p s9 hi hla ht hzA x=>hset9 p s9 hzA x,ax_HSET hN hwz hal hz,fun S _ s9=>Sh.many rfl fun key l e=>by subst e;exact Sh.ite (Sh.kind s9 fun t _=>Sh.make zero_le9 (by have h4:=twos_half (Nat.le_refl l.length);rw[List.length_map];simp only[List.length_cons]at hal;omega)) Sh.bad⟩
theorem x_HGET (hN:up w=qHGET) (hwz:w.size≤300) (hal:A.length≤19) (hz:∀a∈A,a.size≤300):All9 now (w::A) (fun S=>cHget S now A):=
 ⟨p9 hN hwz hal hz rfl fun p s9 hi hla ht hzA x=>hget9 p s9 x,r2 rx_HGET (.inl ⟨rfl,rfl⟩) (by unfold Plain9;decide) (fun _ _=>fun _ g x=>rhget_calls x g) hN hwz hal hz,fun S _ s9=>Sh.a2 fun _ _=>Sh.kind s9 fun t _=>by split<;>exact Sh.nil zero_le9⟩
theorem x_HDEL (hN:up w=qHDEL) (hwz:w.size≤300) (hal:A.length≤19) (hz:∀a∈A,a.size≤300):All9 now (w::A) (fun S=>cHdel S now A):=
 ⟨p9 hN hwz hal hz rfl fun p s9 hi hla ht hzA x=>hdel9 p s9 x,rM (c:=fun S=>cHdel S now) (fun _=>rfl) (fun _ _ _=>rfl) rx_HDEL (.inl ⟨rfl,rfl⟩) (by unfold Plain9;decide) (fun _ _ _=>fun _ g x=>rhdel_calls x g) hN hwz hal hz,fun S _ s9=>Sh.many rfl fun key l e=>by subst e;exact Sh.ite (Sh.kind s9 fun t _=>Sh.one zero_le9 (by rw[List.length_map];refine Nat.le_trans hereL_len ?_;simp only[List.length_cons]at hal;omega)) Sh.bad⟩
theorem x_HLEN (hN:up w=qHLEN) (hwz:w.size≤300) (hal:A.length≤19) (hz:∀a∈A,a.size≤300):All9 now (w::A) (fun S=>cHlen S now A):=
 ⟨p9 hN hwz hal hz rfl fun p s9 hi hla ht hzA x=>hlen9 p x,r1 rx_HLEN (.inl ⟨rfl,rfl⟩) (by unfold Plain9;decide) (fun _=>fun _ g x=>rhlen_calls x g) hN hwz hal hz,fun S _ s9=>Sh.a1 fun _=>Sh.kind s9 fun t _=>Sh.nil zero_le9⟩
theorem x_HGETALL (hN:up w=qHGETALL) (hwz:w.size≤300) (hal:A.length≤19) (hz:∀a∈A,a.size≤300):All9 now (w::A) (fun S=>cHall S now A):=
 ⟨p9 hN hwz hal hz rfl fun p s9 hi hla ht hzA x=>hall9 p s9 x,r1 rx_HGETALL (.inl ⟨rfl,rfl⟩) (by unfold Plain9;decide) (fun _=>fun _ g x=>rhall_calls x g) hN hwz hal hz,fun S _ s9=>Sh.a1 fun _=>Sh.kind s9 fun t ht=>Sh.nil (by show((t.pairs.flatMap _).map _).length≤_;have:=ht.ps;have h2:=flat_len (f:=fun p:Pair=>[p.name,p.text]) (fun _=>Nat.le_refl 2) t.pairs;rw[List.length_map];omega)⟩
theorem x_HINCRBY (hN:up w=qHINCRBY) (hwz:w.size≤300) (hal:A.length≤19) (hz:∀a∈A,a.size≤300):All9 now (w::A) (fun S=>cHincr S now A):=
 ⟨p9 hN hwz hal hz rfl fun p s9 hi hla ht hzA x=>hincr9 p s9 hla hzA x,r3b rx_HINCRBY (.inl ⟨rfl,rfl⟩) (by unfold Plain9;decide) (fun _ _ _ _ hn=>fun hla g x=>said (say_hincr (hz:=g.az) (hp:=g.t9.ps) (hk:=g.ks)) (rhincr_calls hn hla x g)) hN hwz hal hz,fun S _ s9=>Sh.a3 fun _ _ _=>Sh.num fun _=>Sh.kind s9 fun t _=>Sh.num fun _=>Sh.add fun _=>Sh.make zero_le9 (by simp)⟩
theorem x_LPUSH (hN:up w=qLPUSH) (hwz:w.size≤300) (hal:A.length≤19) (hz:∀a∈A,a.size≤300):All9 now (w::A) (fun S=>cPush S now headE A):=
 ⟨p9 hN hwz hal hz rfl fun p s9 hi hla ht hzA x=>lpush9 p s9 hzA x,rM (c:=fun S=>cPush S now headE) (fun _=>rfl) (fun _ _ _=>rfl) rx_LPUSH (.inr (.inl ⟨rfl,rfl⟩)) (by unfold Plain9;decide) (fun _ l hl=>fun _ g x=>said (say_push (hz:=g.az) (hp:=g.t9.ls) (hk:=g.ks) (hl:=g.al)) (rlpush_calls hl x g)) hN hwz hal hz,fun S _ s9=>Sh.many rfl fun key l e=>by subst e;exact Sh.ite (Sh.kind s9 fun t _=>Sh.make zero_le9 (by rw[List.length_map];simp only[List.length_cons]at hal;omega)) Sh.bad⟩
theorem x_RPUSH (hN:up w=qRPUSH) (hwz:w.size≤300) (hal:A.length≤19) (hz:∀a∈A,a.size≤300):All9 now (w::A) (fun S=>cPush S now tailE A):=
 ⟨p9 hN hwz hal hz rfl fun p s9 hi hla ht hzA x=>rpush9 p s9 hzA x,rM (c:=fun S=>cPush S now tailE) (fun _=>rfl) (fun _ _ _=>rfl) rx_RPUSH (.inr (.inl ⟨rfl,rfl⟩)) (by unfold Plain9;decide) (fun _ l hl=>fun _ g x=>said (say_push (hz:=g.az) (hp:=g.t9.ls) (hk:=g.ks) (hl:=g.al)) (rrpush_calls hl x g)) hN hwz hal hz,fun S _ s9=>Sh.many rfl fun key l e=>by subst e;exact Sh.ite (Sh.kind s9 fun t _=>Sh.make zero_le9 (by rw[List.length_map];simp only[List.length_cons]at hal;omega)) Sh.bad⟩
theorem x_LPOP (hN:up w=qLPOP) (hwz:w.size≤300) (hal:A.length≤19) (hz:∀a∈A,a.size≤300):All9 now (w::A) (fun S=>cPop S now unheadE 0 A):=
 ⟨p9 hN hwz hal hz rfl fun p s9 hi hla ht hzA x=>lpop9 p s9 x,r1 rx_LPOP (.inr (.inl ⟨rfl,rfl⟩)) (by unfold Plain9;decide) (fun _=>fun _ g x=>rlpop_calls x g) hN hwz hal hz,fun S _ s9=>Sh.a1 fun _=>Sh.kind s9 fun t _=>by split;exact Sh.one zero_le9 (by simp);exact Sh.nil zero_le9⟩
theorem x_RPOP (hN:up w=qRPOP) (hwz:w.size≤300) (hal:A.length≤19) (hz:∀a∈A,a.size≤300):All9 now (w::A) (fun S=>cPop S now untailE (-1) A):=
 ⟨p9 hN hwz hal hz rfl fun p s9 hi hla ht hzA x=>rpop9 p s9 x,r1 rx_RPOP (.inr (.inl ⟨rfl,rfl⟩)) (by unfold Plain9;decide) (fun _=>fun _ g x=>rrpop_calls x g) hN hwz hal hz,fun S _ s9=>Sh.a1 fun _=>Sh.kind s9 fun t _=>by split;exact Sh.one zero_le9 (by simp);exact Sh.nil zero_le9⟩
theorem x_LLEN (hN:up w=qLLEN) (hwz:w.size≤300) (hal:A.length≤19) (hz:∀a∈A,a.size≤300):All9 now (w::A) (fun S=>cLlen S now A):=
 ⟨p9 hN hwz hal hz rfl fun p s9 hi hla ht hzA x=>llen9 p x,r1 rx_LLEN (.inr (.inl ⟨rfl,rfl⟩)) (by unfold Plain9;decide) (fun _=>fun _ g x=>rllen_calls x g) hN hwz hal hz,fun S _ s9=>Sh.a1 fun _=>Sh.kind s9 fun t _=>Sh.nil zero_le9⟩
theorem x_LINDEX (hN:up w=qLINDEX) (hwz:w.size≤300) (hal:A.length≤19) (hz:∀a∈A,a.size≤300):All9 now (w::A) (fun S=>cLindex S now A):=
 ⟨p9 hN hwz hal hz rfl fun p s9 hi hla ht hzA x=>lindex9 p s9 hla hzA x,r2n rx_LINDEX (.inr (.inl ⟨rfl,rfl⟩)) (by unfold Plain9;decide) (fun _ _ _ hn=>fun _ g x=>rlindex_calls hn x g) hN hwz hal hz,fun S _ s9=>Sh.a2 fun _ _=>Sh.num fun _=>Sh.kind s9 fun t _=>by split<;>exact Sh.nil zero_le9⟩
theorem x_LRANGE (hN:up w=qLRANGE) (hwz:w.size≤300) (hal:A.length≤19) (hz:∀a∈A,a.size≤300):All9 now (w::A) (fun S=>cLrange S now A):=
 ⟨p9 hN hwz hal hz rfl fun p s9 hi hla ht hzA x=>lrange9 p s9 hla hzA x,r3 rx_LRANGE (.inr (.inl ⟨rfl,rfl⟩)) (by unfold Plain9;decide) (fun _ _ _ _ _ hn hm=>fun _ g x=>rlrange_calls hn hm x g) hN hwz hal hz,fun S _ s9=>Sh.a3 fun _ _ _=>Sh.num fun n=>Sh.num fun m=>Sh.kind s9 fun t ht=>Sh.nil (by show((spanL t.list n m).map _).length≤_;have:=ht.ls;unfold spanL;simp only[List.length_map,List.length_take,List.length_drop];omega)⟩
theorem x_LSET (hN:up w=qLSET) (hwz:w.size≤300) (hal:A.length≤19) (hz:∀a∈A,a.size≤300):All9 now (w::A) (fun S=>cLset S now A):=
 ⟨p9 hN hwz hal hz rfl fun p s9 hi hla ht hzA x=>lset9 p s9 hla hzA x,r3a rx_LSET (.inr (.inl ⟨rfl,rfl⟩)) (by unfold Plain9;decide) (fun key _ u _ hn=>fun _ g x=>said (say_lset (hz:=g.az u (by simp)) (hp:=g.t9.ls) (hk:=g.ks)) (rlset_calls hn x g)) hN hwz hal hz,fun S _ s9=>Sh.a3 fun _ _ _=>Sh.num fun _=>Sh.kind s9 fun t _=>by split;exact Sh.make zero_le9 (by simp);exact Sh.bad⟩
theorem x_SADD (hN:up w=qSADD) (hwz:w.size≤300) (hal:A.length≤19) (hz:∀a∈A,a.size≤300):All9 now (w::A) (fun S=>cSadd S now A):=
 ⟨p9 hN hwz hal hz rfl fun p s9 hi hla ht hzA x=>sadd9 p s9 hi hzA x,rM (c:=fun S=>cSadd S now) (fun _=>rfl) (fun _ _ _=>rfl) rx_SADD (.inr (.inr (.inl ⟨rfl,rfl⟩))) (by unfold Plain9;decide) (fun _ l _=>fun _ g x=>said (say_sadd (hz:=g.az) (hp:=g.t9.ls) (hk:=g.ks) (hl:=g.al)) (rsadd_calls x g)) hN hwz hal hz,fun S _ s9=>Sh.many rfl fun key l e=>by subst e;exact Sh.ite (Sh.kind s9 fun t _=>Sh.ite (Sh.nil zero_le9) (Sh.make zero_le9 (by have h3:=newL_len (th:=thereL t.list) (l:=l) (pre:=[]);rw[List.length_map];simp only[List.length_cons]at hal;omega))) Sh.bad⟩
theorem x_SREM (hN:up w=qSREM) (hwz:w.size≤300) (hal:A.length≤19) (hz:∀a∈A,a.size≤300):All9 now (w::A) (fun S=>cSrem S now A):=
 ⟨p9 hN hwz hal hz rfl fun p s9 hi hla ht hzA x=>srem9 p s9 hi x,rM (c:=fun S=>cSrem S now) (fun _=>rfl) (fun _ _ _=>rfl) rx_SREM (.inr (.inr (.inl ⟨rfl,rfl⟩))) (by unfold Plain9;decide) (fun _ _ _=>fun _ g x=>rsrem_calls x g) hN hwz hal hz,fun S _ s9=>Sh.many rfl fun key l e=>by subst e;exact Sh.ite (Sh.kind s9 fun t _=>Sh.one zero_le9 (by rw[List.length_map];refine Nat.le_trans hereL_len ?_;simp only[List.length_cons]at hal;omega)) Sh.bad⟩
theorem x_SISMEMBER (hN:up w=qSISMEMBER) (hwz:w.size≤300) (hal:A.length≤19) (hz:∀a∈A,a.size≤300):All9 now (w::A) (fun S=>cSis S now A):=
 ⟨p9 hN hwz hal hz rfl fun p s9 hi hla ht hzA x=>sis9 p s9 hi x,r2 rx_SISMEMBER (.inr (.inr (.inl ⟨rfl,rfl⟩))) (by unfold Plain9;decide) (fun _ _=>fun _ g x=>rsis_calls x g) hN hwz hal hz,fun S _ s9=>Sh.a2 fun _ _=>Sh.kind s9 fun t _=>Sh.nil zero_le9⟩
theorem x_SCARD (hN:up w=qSCARD) (hwz:w.size≤300) (hal:A.length≤19) (hz:∀a∈A,a.size≤300):All9 now (w::A) (fun S=>cScard S now A):=
 ⟨p9 hN hwz hal hz rfl fun p s9 hi hla ht hzA x=>scard9 p x,r1 rx_SCARD (.inr (.inr (.inl ⟨rfl,rfl⟩))) (by unfold Plain9;decide) (fun _=>fun _ g x=>rscard_calls x g) hN hwz hal hz,fun S _ s9=>Sh.a1 fun _=>Sh.kind s9 fun t _=>Sh.nil zero_le9⟩
theorem x_SMEMBERS (hN:up w=qSMEMBERS) (hwz:w.size≤300) (hal:A.length≤19) (hz:∀a∈A,a.size≤300):All9 now (w::A) (fun S=>cSmem S now A):=
 ⟨p9 hN hwz hal hz rfl fun p s9 hi hla ht hzA x=>smem9 p s9 x,r1 rx_SMEMBERS (.inr (.inr (.inl ⟨rfl,rfl⟩))) (by unfold Plain9;decide) (fun _=>fun _ g x=>rsmem_calls x g) hN hwz hal hz,fun S _ s9=>Sh.a1 fun _=>Sh.kind s9 fun t ht=>Sh.nil (by show(t.list.map _).length≤_;have:=ht.ls;rw[List.length_map];omega)⟩
theorem x_SINTER (hN:up w=qSINTER) (hwz:w.size≤300) (hal:A.length≤19) (hz:∀a∈A,a.size≤300):All9 now (w::A) (fun S=>cSinter S now A):=
 ⟨p9 hN hwz hal hz rfl fun p s9 hi hla ht hzA x=>sinter9 p s9 hi (by omega) x,ax_SINTER hN hwz hal hz,fun S _ s9=>Sh.many rfl fun key l e=>by subst e;exact Sh.ite (Sh.kind s9 fun t ht=>Sh.inter s9 (by have:=ht.ls;omega)) Sh.bad⟩
theorem x_ZADD (hN:up w=qZADD) (hwz:w.size≤300) (hal:A.length≤19) (hz:∀a∈A,a.size≤300):All9 now (w::A) (fun S=>cZadd S now A):=
 ⟨p9 hN hwz hal hz rfl fun p s9 hi hla ht hzA x=>zadd9 p s9 hi hla ht hzA x,ax_ZADD hN hwz hal hz,fun S _ s9=>Sh.many rfl fun key l e=>by
   subst e
   refine Sh.ite ?_ Sh.bad
   split
   ·exact Sh.bad
   ·rename_i r hr
    have h4:=twos_half (Nat.le_refl l.length)
    have h5:=scored_len hr
    exact Sh.kind s9 fun t _=>Sh.make zero_le9 (by rw[List.length_map];simp only[List.length_cons]at hal;omega)⟩
theorem x_ZREM (hN:up w=qZREM) (hwz:w.size≤300) (hal:A.length≤19) (hz:∀a∈A,a.size≤300):All9 now (w::A) (fun S=>cZrem S now A):=
 ⟨p9 hN hwz hal hz rfl fun p s9 hi hla ht hzA x=>zrem9 p s9 hi ht x,rM (c:=fun S=>cZrem S now) (fun _=>rfl) (fun _ _ _=>rfl) rx_ZREM (.inr (.inr (.inr ⟨rfl,rfl⟩))) (by unfold Plain9;decide) (fun _ _ _=>fun _ g x=>rzrem_calls x g) hN hwz hal hz,fun S _ s9=>Sh.many rfl fun key l e=>by subst e;exact Sh.ite (Sh.kind s9 fun t _=>Sh.one zero_le9 (by rw[List.length_map];refine Nat.le_trans hereL_len ?_;simp only[List.length_cons]at hal;omega)) Sh.bad⟩
theorem x_ZSCORE (hN:up w=qZSCORE) (hwz:w.size≤300) (hal:A.length≤19) (hz:∀a∈A,a.size≤300):All9 now (w::A) (fun S=>cZscore S now A):=
 ⟨p9 hN hwz hal hz rfl fun p s9 hi hla ht hzA x=>zscore9 p s9 hi hla ht x,r2 rx_ZSCORE (.inr (.inr (.inr ⟨rfl,rfl⟩))) (by unfold Plain9;decide) (fun _ _=>fun hla g x=>rzscore_calls hla x g) hN hwz hal hz,fun S _ s9=>Sh.a2 fun _ _=>Sh.kind s9 fun t _=>by split<;>exact Sh.nil zero_le9⟩
theorem x_ZINCRBY (hN:up w=qZINCRBY) (hwz:w.size≤300) (hal:A.length≤19) (hz:∀a∈A,a.size≤300):All9 now (w::A) (fun S=>cZincr S now A):=
 ⟨p9 hN hwz hal hz rfl fun p s9 hi hla ht hzA x=>zincr9 p s9 hi hla ht hzA x,r3a rx_ZINCRBY (.inr (.inr (.inr ⟨rfl,rfl⟩))) (by unfold Plain9;decide) (fun _ _ _ _ hn=>fun hla g x=>said (say_zincr (hz:=g.az) (hp:=g.t9.rs) (hk:=g.ks)) (rzincr_calls hn hla x g)) hN hwz hal hz,fun S _ s9=>Sh.a3 fun _ _ _=>Sh.num fun _=>Sh.kind s9 fun t _=>Sh.add fun _=>Sh.make zero_le9 (by simp)⟩
theorem x_ZCARD (hN:up w=qZCARD) (hwz:w.size≤300) (hal:A.length≤19) (hz:∀a∈A,a.size≤300):All9 now (w::A) (fun S=>cZcard S now A):=
 ⟨p9 hN hwz hal hz rfl fun p s9 hi hla ht hzA x=>zcard9 p x,r1 rx_ZCARD (.inr (.inr (.inr ⟨rfl,rfl⟩))) (by unfold Plain9;decide) (fun _=>fun _ g x=>rzcard_calls x g) hN hwz hal hz,fun S _ s9=>Sh.a1 fun _=>Sh.kind s9 fun t _=>Sh.nil zero_le9⟩
theorem x_ZRANK (hN:up w=qZRANK) (hwz:w.size≤300) (hal:A.length≤19) (hz:∀a∈A,a.size≤300):All9 now (w::A) (fun S=>cZrank S now A):=
 ⟨p9 hN hwz hal hz rfl fun p s9 hi hla ht hzA x=>zrank9 p s9 hi ht x,r2 rx_ZRANK (.inr (.inr (.inr ⟨rfl,rfl⟩))) (by unfold Plain9;decide) (fun _ _=>fun hla g x=>rzrank_calls hla x g) hN hwz hal hz,fun S _ s9=>Sh.a2 fun _ _=>Sh.kind s9 fun t _=>by split<;>exact Sh.nil zero_le9⟩
theorem x_ZRANGE (hN:up w=qZRANGE) (hwz:w.size≤300) (hal:A.length≤19) (hz:∀a∈A,a.size≤300):All9 now (w::A) (fun S=>cZrange S now A):=
 ⟨p9 hN hwz hal hz rfl fun p s9 hi hla ht hzA x=>zrange9 p s9 hi hla ht hzA x,r3 rx_ZRANGE (.inr (.inr (.inr ⟨rfl,rfl⟩))) (by unfold Plain9;decide) (fun _ _ _ _ _ hn hm=>fun _ g x=>rzrange_calls hn hm x g) hN hwz hal hz,fun S _ s9=>Sh.a3 fun _ _ _=>Sh.num fun n=>Sh.num fun m=>Sh.kind s9 fun t ht=>Sh.nil (by show(((spanL t.ranks n m).map _).map _).length≤_;have:=ht.rs;unfold spanL;simp only[List.length_map,List.length_take,List.length_drop];omega)⟩
theorem x_ZRANGEBYSCORE (hN:up w=qZRANGEBYSCORE) (hwz:w.size≤300) (hal:A.length≤19) (hz:∀a∈A,a.size≤300):All9 now (w::A) (fun S=>cZby S now A):=
 ⟨p9 hN hwz hal hz rfl fun p s9 hi hla ht hzA x=>zby9 p s9 hi hla ht hzA x,r3 rx_ZRANGEBYSCORE (.inr (.inr (.inr ⟨rfl,rfl⟩))) (by unfold Plain9;decide) (fun _ _ _ _ _ hn hm=>fun _ g x=>rzby_calls hn hm x g) hN hwz hal hz,fun S _ s9=>Sh.a3 fun _ _ _=>Sh.num fun n=>Sh.num fun m=>Sh.kind s9 fun t ht=>Sh.nil (by have:=ht.rs;refine Nat.le_trans (by show(((t.ranks.filter _).map _).map _).length≤t.ranks.length;rw[List.length_map,List.length_map];exact List.length_filter_le _ _) (by omega))⟩
end
end Go.Proofs.YtjnijlnmbjjgpaaGreatDoor
namespace Go.Proofs.YtjnijlnmbjjgpaaGreatDoor
open Go Go.Sx C
theorem look9_pair:∀{L:List (List UInt8×Nat)} {w:ByteArray} {g:Nat},look9 L w=some g→∃n,(n,g)∈L∧w=ofB n
 |[],w,g,h=>by cases h
 |(n,g')::L,w,g,h=>by
  simp only[look9]at h
  split at h
  ·rename_i hw
   cases h;exact⟨n,by simp,hw⟩
  ·obtain⟨n',h1,h2⟩:=look9_pair h
   exact⟨n',List.mem_cons_of_mem _ h1,h2⟩
theorem look9_none:∀{L:List (List UInt8×Nat)} {w:ByteArray},look9 L w=none→∀n∈L.map Prod.fst,w≠ofB n
 |[],w,h,n,hn=>(nomatch hn)
 |(n',g')::L,w,h,n,hn=>by
  simp only[look9]at h
  split at h
  ·cases h
  ·rename_i hw
   rcases List.mem_cons.1 hn with rfl|hn
   ·exact hw
   ·exact look9_none h n hn
section
variable {S:Space} {now:Int} {w N:ByteArray} {A:List ByteArray}
theorem any9 {g:Nat} (hwz:w.size≤300) (hal:A.length≤19) (hz:∀a∈A,a.size≤300) (hf:look9 cmd9 (up w)=some g):∃res:Space→Res,All9 now (w::A) res:=by
 obtain⟨n,hm,hN⟩:=look9_pair hf
 clear hf
 simp only[cmd9,List.mem_cons,Prod.mk.injEq,List.not_mem_nil,or_false]at hm
 rcases hm with⟨rfl,_⟩|⟨rfl,_⟩|⟨rfl,_⟩|⟨rfl,_⟩|⟨rfl,_⟩|⟨rfl,_⟩|⟨rfl,_⟩|⟨rfl,_⟩|⟨rfl,_⟩|⟨rfl,_⟩|⟨rfl,_⟩|⟨rfl,_⟩|⟨rfl,_⟩|⟨rfl,_⟩|⟨rfl,_⟩|⟨rfl,_⟩|⟨rfl,_⟩|⟨rfl,_⟩|⟨rfl,_⟩|⟨rfl,_⟩|⟨rfl,_⟩|⟨rfl,_⟩|⟨rfl,_⟩|⟨rfl,_⟩|⟨rfl,_⟩|⟨rfl,_⟩|⟨rfl,_⟩|⟨rfl,_⟩
 ·exact⟨_,x_HSET hN hwz hal hz⟩
 ·exact⟨_,x_HGET hN hwz hal hz⟩
 ·exact⟨_,x_HDEL hN hwz hal hz⟩
 ·exact⟨_,x_HLEN hN hwz hal hz⟩
 ·exact⟨_,x_HGETALL hN hwz hal hz⟩
 ·exact⟨_,x_HINCRBY hN hwz hal hz⟩
 ·exact⟨_,x_LPUSH hN hwz hal hz⟩
 ·exact⟨_,x_RPUSH hN hwz hal hz⟩
 ·exact⟨_,x_LPOP hN hwz hal hz⟩
 ·exact⟨_,x_RPOP hN hwz hal hz⟩
 ·exact⟨_,x_LLEN hN hwz hal hz⟩
 ·exact⟨_,x_LINDEX hN hwz hal hz⟩
 ·exact⟨_,x_LRANGE hN hwz hal hz⟩
 ·exact⟨_,x_LSET hN hwz hal hz⟩
 ·exact⟨_,x_SADD hN hwz hal hz⟩
 ·exact⟨_,x_SREM hN hwz hal hz⟩
 ·exact⟨_,x_SISMEMBER hN hwz hal hz⟩
 ·exact⟨_,x_SCARD hN hwz hal hz⟩
 ·exact⟨_,x_SMEMBERS hN hwz hal hz⟩
 ·exact⟨_,x_SINTER hN hwz hal hz⟩
 ·exact⟨_,x_ZADD hN hwz hal hz⟩
 ·exact⟨_,x_ZREM hN hwz hal hz⟩
 ·exact⟨_,x_ZSCORE hN hwz hal hz⟩
 ·exact⟨_,x_ZINCRBY hN hwz hal hz⟩
 ·exact⟨_,x_ZCARD hN hwz hal hz⟩
 ·exact⟨_,x_ZRANK hN hwz hal hz⟩
 ·exact⟨_,x_ZRANGE hN hwz hal hz⟩
 ·exact⟨_,x_ZRANGEBYSCORE hN hwz hal hz⟩
theorem rb_none (hno:look9 cmd9 N=none) (h:Heap):CallsH Tryz.prog 55 [.string N] h (Ret fun r h'=>r=.tuple #[.int .i64 0,.int .i64 0,.int .i64 0,.int .i64 0,.bool false]∧h'=h):=by
 have ne:∀n∈cmd9.map Prod.fst,N≠ofB n:=look9_none hno
 refine f55_calls (by simp) ?_
 repeat refine Ai (fun he=>absurd he (ne _ (by decide))) (fun _=>?_)
 exact⟨rfl,rfl⟩
theorem rdo_empty {h:Heap} {kv nv:Value} {a:Option Addr} {cc:Nat}:CallsH Tryz.prog 31 [kv,nv,.slice a 0 cc] h (Ret fun r h'=>r=nothing8∧Chg [] h h'):=by
 refine f31_calls (by simp) ?_
 intro b6 h1 g1
 have w1:=(St.start h).new g1
 refine Ai rfl (Ai (fun _=>?_) (fun h0=>absurd rfl h0))
 refine w1.st1 0 rfl rfl rfl rfl fun h2 w=>?_
 exact⟨_,rfl,cells_blk (w.get 0 rfl),rfl,w.chg⟩
theorem rdo_none {h:Heap} {kv av:Value} (hA:SL encS h av (w::A)) (hal:A.length+1≤20) (hzw:w.size≤300) (hno:look9 cmd9 (up w)=none):CallsH Tryz.prog 31 [kv,.int .i64 now,av] h (Ret fun r h'=>r=nothing8∧Chg [] h h'):=by
 obtain⟨a,cc,rfl,hcc⟩:=hA.form
 obtain⟨b0,o0,rfl⟩:=hA.addr (by simp)
 have hl:(w::A).length≤20:=hal
 refine f31_calls (by simp) ?_
 intro b6 h1 g1
 have w1:=(St.start h).new g1
 refine Ai rfl (Ai (fun h0=>absurd h0 (by simp;omega)) (fun _=>?_))
 have hc0:=(hA.ext w1.chg).cells encS_len (i:=0) (x:=w) (by simp)
 refine Ai (by decide) (Ai (by simp) (Ei _ (Ai (by simpa using hc0 0 _ rfl) ?_)))
 refine w1.callv (rword_calls (by omega)) fun h2 w2=>?_
 refine callp (rb_none hno h2) ?_
 refine w2.st1 0 rfl rfl rfl rfl fun h3 w=>?_
 exact⟨_,rfl,cells_blk (w.get 0 rfl),rfl,w.chg⟩
def NoP9 (now:Int) (AA:List ByteArray):Prop:=∀{h:Heap} {kb sb mb c:Nat} {m:List KI} {av:Value},KR h kb sb mb c m→SL encS h av AA→CallsH Tryz.prog 20 [ptr kb,.int .i64 now,av] h (Ret fun r h'=>r=nothing8∧Chg [] h h')
def NoR9 (now:Int) (AA:List ByteArray):Prop:=∀{h:Heap} {kv av:Value},SL encS h av AA→CallsH Tryz.prog 31 [kv,.int .i64 now,av] h (Ret fun r h'=>r=nothing8∧Chg [] h h')
theorem all9 {AA:List ByteArray} (hal:AA.length≤20) (hz:∀a∈AA,a.size≤300):(NoP9 now AA∧NoR9 now AA)∨∃res:Space→Res,All9 now AA res:=by
 match AA,hal,hz with
 |[],_,_=>
  refine .inl ⟨fun{h kb sb mb c m av} kr hA=>?_,fun{h kv av} hA=>?_⟩
  ·obtain⟨a,cc,rfl,_⟩:=hA.form
   exact do9_empty
  ·obtain⟨a,cc,rfl,_⟩:=hA.form
   exact rdo_empty
 |w::A,hal,hz=>
  have hal:A.length+1≤20:=hal
  have hzw:=hz w (by simp)
  cases hf:look9 cmd9 (up w)with
  |none=>exact .inl ⟨fun{h kb sb mb c m av} kr hA=>do9_none (_W:=w) kr hA (by simp only[List.length_cons];omega) (by omega) hf,fun{h kv av} hA=>rdo_none hA hal hzw hf⟩
  |some g=>exact .inr (any9 hzw (by omega) (fun a ha=>hz a (List.mem_cons_of_mem _ ha)) hf)
end
end Go.Proofs.YtjnijlnmbjjgpaaGreatDoor
namespace Go.Proofs.YtjnijlnmbjjgpaaGreatDoor
open Go Go.Sx C
theorem large9_calls {h:Heap} {vs:List Value} {t:Thing} (x:TH h vs t) (f:Fits t) (s:Sized t):
  CallsH Tryz.prog 30 [.agg ⟨vs⟩] h (Ret fun r h'=>(∃b,r=.bool b∧(b=false→Small t))∧Chg [] h h'):=by
 have fp:=f.p;have fl:=f.l;have fr:=f.r
 refine f30_calls (by simp) ?_
 intro b1 h1 g1
 have B1:Blk h1 b1 vs:=g1.blk
 have hc:=g1.chg
 obtain⟨pv,lv,rv,rfl,hp,hl,hr⟩:=x.ext hc
 obtain⟨pa,pc,rfl,_⟩:=hp.form
 obtain⟨la,lc,rfl,_⟩:=hl.form
 obtain⟨ra,rc,rfl,_⟩:=hr.form
 have yes:Ret (fun r h'=>(∃b,r=.bool b∧(b=false→Small t))∧Chg [] h h') (.returned (retV [Value.bool true])) h1:=⟨⟨true,rfl,fun h=>by cases h⟩,hc⟩
 refine Ei _ (Ai (cell_blk B1 rfl) ?_)
 refine Ei _ (Ai (cell_blk B1 rfl) ?_)
 refine Ai rfl (Ai (fun _=>yes) (fun n1=>?_))
 refine Ei _ (Ai (cell_blk B1 rfl) ?_)
 refine Ai rfl (Ai (fun _=>yes) (fun n2=>?_))
 refine Ei _ (Ai (cell_blk B1 rfl) ?_)
 refine Ai rfl (Ai (fun _=>yes) (fun n3=>?_))
 refine Ai rfl (Ai (fun _=>yes) (fun n4=>?_))
 have ht:=s.text
 -- the pairs
 refine loop_intro (fun i:Nat×Int=>[(1,.pointer (some ⟨b1,0,none⟩)),(3,.int .i64 i.2),(4,.int .i64 i.1)]) (fun i h'=>i.1≤t.pairs.length∧h'=h1∧0≤i.2∧i.2≤2000∧∀x∈t.pairs.take i.1,x.name.size≤2000∧x.text.size≤2000) (fun i=>t.pairs.length-i.1) (0,t.text.size)
  ⟨rfl,rfl,rfl,trivial⟩ ⟨Nat.zero_le _,rfl,by simp only;omega,by simp only;omega,by simp⟩ ?_
 rintro⟨k,n⟩ h3 ⟨hk,h32,hn0,hn1,hps⟩
 have h32:=h32.symm
 subst h32
 simp only at hk hn0 hn1 hps
 refine Ei _ (Ai (cell_blk B1 rfl) ?_)
 refine Ai rfl (Ai (fun hlt=>?_) (fun hlt=>?_))
 ·have hkk:k<t.pairs.length:=by omega
  obtain⟨b3,o,rfl⟩:=hp.addr (by omega)
  have hcs:=hp.cells encP_len (i:=k) (x:=t.pairs[k]) (by simp[hkk])
  obtain⟨z1,z2⟩:=s.ps t.pairs[k] (List.getElem_mem hkk)
  refine Ei _ (Ai (cell_blk B1 rfl) ?_)
  refine Ai (by omega) (Ai (by omega) (Ei _ (Ai (hcs 0 _ rfl) ?_)))
  refine Ai rfl (fun y hy=>?_)
  have hy:=add_in hy (by omega) (by omega)
  refine Ei _ (Ai (cell_blk B1 rfl) ?_)
  refine Ai (by omega) (Ai (by omega) (Ei _ (Ai (hcs 1 _ rfl) ?_)))
  refine Ai rfl (fun w hw=>?_)
  have hw:=add_in hw (by omega) (by omega)
  refine Ai rfl (Ai (fun _=>yes) (fun n5=>?_))
  refine Ai rfl (fun z hz=>?_)
  have hz:=add_in hz (by omega) (by omega)
  subst hz
  refine Ai rfl (Ei (k+1,w) (Ai ?_ (Ai ?_ ?_)))
  ·exact⟨rfl,rfl,rfl,trivial⟩
  ·refine⟨by simp only;omega,rfl,by simp only;omega,by simp only;omega,fun q hq=>?_⟩
   simp only at hq
   rw[take_snoc t.pairs k hkk]at hq
   rcases List.mem_append.1 hq with hq|hq
   ·exact hps q hq
   ·have:q=t.pairs[k]:=by simpa using hq
    rw[this];omega
  ·simp only;omega
 have hkl:k=t.pairs.length:=by omega
 rw[hkl,List.take_length]at hps
 clear hlt hkl hk
 -- the list
 refine loop_intro (fun i:Nat×Int=>[(1,.pointer (some ⟨b1,0,none⟩)),(3,.int .i64 i.2),(5,.int .i64 i.1)]) (fun i h'=>i.1≤t.list.length∧h'=h1∧0≤i.2∧i.2≤2000∧∀x∈t.list.take i.1,x.size≤2000) (fun i=>t.list.length-i.1) (0,n)
  ⟨rfl,rfl,rfl,trivial⟩ ⟨Nat.zero_le _,rfl,by simp only;omega,by simp only;omega,by simp⟩ ?_
 clear hn0 hn1
 rintro⟨k,n⟩ h3 ⟨hk,h32,hn0,hn1,hls⟩
 have h32:=h32.symm
 subst h32
 simp only at hk hn0 hn1 hls
 refine Ei _ (Ai (cell_blk B1 rfl) ?_)
 refine Ai rfl (Ai (fun hlt=>?_) (fun hlt=>?_))
 ·have hkk:k<t.list.length:=by omega
  obtain⟨b3,o,rfl⟩:=hl.addr (by omega)
  have hcs:=hl.cells encS_len (i:=k) (x:=t.list[k]) (by simp[hkk])
  have z1:=s.ls t.list[k] (List.getElem_mem hkk)
  refine Ei _ (Ai (cell_blk B1 rfl) ?_)
  refine Ai (by omega) (Ai (by omega) (Ei _ (Ai (hcs 0 _ rfl) ?_)))
  refine Ai rfl (fun w hw=>?_)
  have hw:=add_in hw (by omega) (by omega)
  refine Ai rfl (Ai (fun _=>yes) (fun n5=>?_))
  refine Ai rfl (fun z hz=>?_)
  have hz:=add_in hz (by omega) (by omega)
  subst hz
  refine Ai rfl (Ei (k+1,w) (Ai ?_ (Ai ?_ ?_)))
  ·exact⟨rfl,rfl,rfl,trivial⟩
  ·refine⟨by simp only;omega,rfl,by simp only;omega,by simp only;omega,fun q hq=>?_⟩
   simp only at hq
   rw[take_snoc t.list k hkk]at hq
   rcases List.mem_append.1 hq with hq|hq
   ·exact hls q hq
   ·have:q=t.list[k]:=by simpa using hq
    rw[this];omega
  ·simp only;omega
 have hkl:k=t.list.length:=by omega
 rw[hkl,List.take_length]at hls
 clear hlt hkl hk
 -- the ranks
 refine loop_intro (fun i:Nat×Int=>[(1,.pointer (some ⟨b1,0,none⟩)),(3,.int .i64 i.2),(6,.int .i64 i.1)]) (fun i h'=>i.1≤t.ranks.length∧h'=h1∧0≤i.2∧i.2≤2000∧∀x∈t.ranks.take i.1,x.name.size≤2000) (fun i=>t.ranks.length-i.1) (0,n)
  ⟨rfl,rfl,rfl,trivial⟩ ⟨Nat.zero_le _,rfl,by simp only;omega,by simp only;omega,by simp⟩ ?_
 clear hn0 hn1
 rintro⟨k,n⟩ h3 ⟨hk,h32,hn0,hn1,hrs⟩
 have h32:=h32.symm
 subst h32
 simp only at hk hn0 hn1 hrs
 refine Ei _ (Ai (cell_blk B1 rfl) ?_)
 refine Ai rfl (Ai (fun hlt=>?_) (fun hlt=>?_))
 ·have hkk:k<t.ranks.length:=by omega
  obtain⟨b3,o,rfl⟩:=hr.addr (by omega)
  have hcs:=hr.cells encR_len (i:=k) (x:=t.ranks[k]) (by simp[hkk])
  have z1:=s.rs t.ranks[k] (List.getElem_mem hkk)
  refine Ei _ (Ai (cell_blk B1 rfl) ?_)
  refine Ai (by omega) (Ai (by omega) (Ei _ (Ai (hcs 0 _ rfl) ?_)))
  refine Ai rfl (fun w hw=>?_)
  have hw:=add_in hw (by omega) (by omega)
  refine Ai rfl (Ai (fun _=>yes) (fun n5=>?_))
  refine Ai rfl (fun z hz=>?_)
  have hz:=add_in hz (by omega) (by omega)
  subst hz
  refine Ai rfl (Ei (k+1,w) (Ai ?_ (Ai ?_ ?_)))
  ·exact⟨rfl,rfl,rfl,trivial⟩
  ·refine⟨by simp only;omega,rfl,by simp only;omega,by simp only;omega,fun q hq=>?_⟩
   simp only at hq
   rw[take_snoc t.ranks k hkk]at hq
   rcases List.mem_append.1 hq with hq|hq
   ·exact hrs q hq
   ·have:q=t.ranks[k]:=by simpa using hq
    rw[this];omega
  ·simp only;omega
 have hkl:k=t.ranks.length:=by omega
 rw[hkl,List.take_length]at hrs
 exact⟨⟨false,rfl,fun _=>⟨by omega,by omega,by omega,by omega,hps,hls,hrs⟩⟩,hc⟩
theorem vast9_calls {h:Heap} {v u:Value} {l:List RX} {d:List ByteArray} (hv:SL encX h v l) (hu:SL encS h u d) (g:GX h l) (f:XFit l) (fd:SFit d):
  CallsH Tryz.prog 12 [v,u] h (Ret fun r h'=>(∃b,r=.bool b∧(b=false→NVast l∧SSmall d))∧Chg [] h h'):=by
 have fl:=f.len
 have fdl:=fd.len
 obtain⟨a,c,rfl,hlc⟩:=hv.form
 obtain⟨a',c',rfl,hlc'⟩:=hu.form
 have yes:∀h',Chg [] h h'→Ret (fun r h'=>(∃b,r=.bool b∧(b=false→NVast l∧SSmall d))∧Chg [] h h') (.returned (retV [Value.bool true])) h':=fun h' hc=>⟨⟨true,rfl,fun h=>by cases h⟩,hc⟩
 refine f12_calls (by simp) ?_
 refine Ai rfl (Ai (fun _=>yes h (Chg.refl h)) (fun n1=>?_))
 refine Ai rfl (Ai (fun _=>yes h (Chg.refl h)) (fun n2=>?_))
 refine loop_intro (fun k:Nat=>[(0,.slice a l.length c),(1,.slice a' d.length c'),(5,.int .i64 k)]) (fun k h'=>k≤l.length∧Chg [] h h'∧∀x∈l.take k,x.key.size≤300∧Small x.thing) (fun k=>l.length-k) 0
  ⟨rfl,rfl,rfl,trivial⟩ ⟨Nat.zero_le _,Chg.refl h,by simp⟩ ?_
 rintro k h1 ⟨hk,hc1,hall⟩
 have hv1:=hv.ext hc1
 refine Ai rfl (Ai (fun ht=>?_) (fun ht=>?_))
 ·have hlt:k<l.length:=by omega
  obtain⟨b,o,rfl⟩:=hv1.addr (by omega)
  have hcs:=hv1.cells encX_len (i:=k) (x:=l[k]) (by simp[hlt])
  have hmem:l[k]∈l:=List.getElem_mem hlt
  have hkz:=f.keys _ hmem
  refine Ai (by omega) (Ai (by omega) (Ei _ (Ai (hcs 0 _ rfl) ?_)))
  refine Ai rfl (Ai (fun _=>yes h1 hc1) (fun n3=>?_))
  refine Ai (by omega) (Ai (by omega) (Ei l[k].vs (Ai l[k].len (Ai (cells_vs hcs) ?_))))
  refine call_ret (large9_calls ((g.ext hc1) _ hmem) (f.fits _ hmem) (f.sized _ hmem)) ?_
  rintro _ h2 ⟨⟨b2,rfl,hsm⟩,hc2⟩
  cases b2 with
  |true=>exact yes h2 (hc1.nil hc2)
  |false=>
   refine Ai rfl (fun z hz=>?_)
   have hz:=add_in hz (by omega) (by omega)
   subst hz
   refine Ai rfl (Ei (k+1) (Ai ?_ (Ai ?_ ?_)))
   ·exact⟨rfl,rfl,rfl,trivial⟩
   ·refine⟨by omega,hc1.nil hc2,fun x hx=>?_⟩
    rw[take_snoc l k hlt,List.mem_append,List.mem_singleton]at hx
    rcases hx with hx|rfl
    ·exact hall x hx
    ·exact⟨by omega,hsm rfl⟩
   ·omega
 have hkl:k=l.length:=by omega
 rw[hkl,List.take_length]at hall
 clear hkl ht hk hv1
 have nv:NVast l:=⟨by omega,fun x hx=>(hall x hx).1,fun x hx=>(hall x hx).2⟩
 refine loop_intro (fun k:Nat=>[(1,.slice a' d.length c'),(6,.int .i64 k)]) (fun k h'=>k≤d.length∧Chg [] h h'∧∀e∈d.take k,e.size≤300) (fun k=>d.length-k) 0
  ⟨rfl,rfl,trivial⟩ ⟨Nat.zero_le _,hc1,by simp⟩ ?_
 clear k hc1
 rintro k h1 ⟨hk,hc1,hall⟩
 have hu1:=hu.ext hc1
 refine Ai rfl (Ai (fun ht=>?_) (fun ht=>?_))
 ·have hlt:k<d.length:=by omega
  obtain⟨b,o,rfl⟩:=hu1.addr (by omega)
  have hcs:=hu1.cells encS_len (i:=k) (x:=d[k]) (by simp[hlt])
  have z1:=fd.each _ (List.getElem_mem hlt)
  refine Ai (by omega) (Ai (by omega) (Ei _ (Ai (hcs 0 _ rfl) ?_)))
  refine Ai rfl (Ai (fun _=>yes h1 hc1) (fun n3=>?_))
  refine Ai rfl (fun z hz=>?_)
  have hz:=add_in hz (by omega) (by omega)
  subst hz
  refine Ai rfl (Ei (k+1) (Ai ?_ (Ai ?_ ?_)))
  ·exact⟨rfl,rfl,trivial⟩
  ·refine⟨by omega,hc1,fun x hx=>?_⟩
   rw[take_snoc d k hlt,List.mem_append,List.mem_singleton]at hx
   rcases hx with hx|rfl
   ·exact hall x hx
   ·omega
  ·omega
 have hkl:k=d.length:=by omega
 rw[hkl,List.take_length]at hall
 exact⟨⟨false,rfl,fun _=>⟨nv,⟨by omega,hall⟩⟩⟩,hc1⟩
theorem known9_ret {h:Heap}:CallsH Tryz.prog 13 [] h (Ret fun r h'=>r=.bool true∧Chg [] h h'):=by
 refine f13_calls (by simp) ?_
 refine call_ret New_calls ?_
 rintro _ h1 ⟨kb,sb,mb,rfl,ks,hm,_,_,_,c1⟩
 have kr:KR h1 kb sb mb 0 []:=⟨ks,hm,by simp,by simp,by simp,by simp,by simp,by simp⟩
 have hs:Sorted [] []:=⟨List.Pairwise.nil,by simp⟩
 intro b2 h2 g2
 have sa:SL encS h2 (.slice (some ⟨b2,0,none⟩) 3 3) [⟨#[115,97,100,100]⟩,⟨#[97]⟩,⟨#[109]⟩]:=by
  refine⟨_,3,rfl,Nat.le_refl _,?_⟩
  exact cells_blk g2.blk
 have s9:S9 []:=fun p hp=>(nomatch hp)
 have hin:InS []:=fun p hp=>(nomatch hp)
 refine call_ret (do9_calls (now:=0) (kr.ext g2.chg) sa (by simp) (by decide) (by kernel_rfl) fun h3 ab av' hx x=>sadd9 ⟨kr.ext g2.chg,hs,hx⟩ s9 hin (fun s hs=>?_) x) ?_
 ·simp at hs
  rcases hs with rfl|rfl<;>decide
 rintro r h3 ⟨c3,hr⟩
 have e:cSadd [] 0 [⟨#[97]⟩,⟨#[109]⟩]=.ok (rep 3 1 noText,[addE ⟨#[97]⟩ ⟨#[109]⟩]):=by kernel_rfl
 rw[e]at hr
 obtain⟨vq,lv,rfl,⟨ra,rn,rc,rfl,sl,fr⟩,hsl,hfr⟩:=hr
 obtain⟨la,lc,rfl,_⟩:=hsl.form
 obtain⟨lb,lo,rfl⟩:=hsl.addr (by simp)
 intro b9 h4 g4
 have w:=(St.start h3).new g4
 refine w.st1 0 rfl rfl rfl rfl fun h5 w=>?_
 have hcs:=(hsl.ext w.chg).cells encD_len (i:=0) (x:=addE ⟨#[97]⟩ ⟨#[109]⟩) rfl
 refine w.ld1 0 rfl rfl ?_
 refine Ai rfl (Ai (fun _=>?_) (fun hne=>absurd rfl hne))
 refine w.ld1 0 rfl rfl ?_
 refine Ai rfl (Ai (fun _=>?_) (fun hne=>absurd rfl hne))
 refine Ai rfl (Ai (fun _=>?_) (fun hne=>absurd rfl hne))
 refine Ai (by decide) (Ai (by simp) (Ei _ (Ai (by simpa using hcs 0 _ rfl) ?_)))
 refine Ai rfl (Ai (fun _=>?_) (fun hne=>absurd rfl hne))
 refine Ai (by decide) (Ai (by simp) (Ei _ (Ai (by simpa using hcs 2 _ rfl) ?_)))
 refine Ai (fun _=>?_) (fun hne=>absurd rfl hne)
 exact⟨rfl,((c1.nil g2.chg).nil c3).nil w.chg⟩
theorem kn9 {h h2:Heap} {K:Value→Heap→Prop} {Qp:List PanicEntry→Heap→Prop} (c2:Chg [] h h2) (hK:∀h',Chg [] h h'→K (.bool true) h'):CallsH Tryz.prog 13 [] h2 (after K Qp):=
 call_ret known9_ret fun v h' hv=>by rw[hv.1];exact hK h' (c2.nil hv.2)
theorem does9_none {h:Heap} {v av:Value} {l:List RX} {now:Int} {AA:List ByteArray} (hv:SL encX h v l) (g:GX h l) (nv:NVast l) (hA:SL encS h av AA) (hp:NoP9 now AA) (hr:NoR9 now AA):CallsH Tryz.prog 14 [v,.int .i64 now,av] h (Ret fun r h'=>r=.bool true∧Chg [] h h'):=by
 refine f14_calls (by simp) ?_
 refine call_ret (KOf_calls hv g nv) ?_
 rintro r1 h1 ⟨c1,ho⟩
 cases hk2:ofX [] l with
 |none=>
  rw[hk2]at ho
  subst ho
  refine call_ret (ROf_calls (hv.ext c1) (g.ext c1) nv) ?_
  rintro r2 h2 ⟨c2,hr2⟩
  have c02:=c1.nil c2
  rw[hk2]at hr2
  subst hr2
  refine Ai rfl (Ai (fun _=>?_) (fun hne=>absurd (by decide) hne))
  refine Ai rfl (Ai (fun _=>?_) (fun hne=>absurd rfl hne))
  exact Ai rfl c02
 |some k=>
  rw[hk2]at ho
  obtain⟨kb,sb,mb,c,m,rfl,kr,hpr,hmb⟩:=ho
  refine call_ret (ROf_calls (hv.ext c1) (g.ext c1) nv) ?_
  rintro r2 h2 ⟨c2,hr2⟩
  have c02:=c1.nil c2
  rw[hk2]at hr2
  obtain⟨w,rfl,hw,hwb⟩:=hr2
  have hW:=sorted_of hpr hk2
  obtain⟨hup,hmem,hkl⟩:=ofX_ok List.Pairwise.nil hk2
  have hnl:=nv.len
  have hkl:k.length=l.length:=by simpa using hkl
  have gk:GX h2 k:=fun x hx=>(g.ext c02) x (by simpa using(hmem x).1 hx)
  refine Ai rfl (Ai (fun hne=>absurd rfl hne) (fun _=>?_))
  refine Ai rfl (Ai (fun hne=>absurd rfl hne) (fun _=>?_))
  refine call_ret (hp (kr.ext c2) (hA.ext c02)) ?_
  rintro _ h3 ⟨rfl,c3⟩
  intro b11 h4 g4
  have u:=(St.start h3).new g4
  refine u.st1 0 rfl rfl rfl rfl fun h5 u=>?_
  have c25:=c3.nil u.chg
  refine call_ret (hr (hA.ext (c02.nil c25))) ?_
  rintro _ h6 ⟨rfl,c6⟩
  have u:=u.ext c6
  intro b14 h7 g7
  have u:=u.new g7
  refine u.st2 0 rfl rfl rfl rfl fun h8 u k8=>?_
  refine Ai (fun _=>?_) (fun hne=>absurd rfl hne)
  refine u.ldw 1 rfl rfl ?_
  refine u.ldw 0 rfl rfl ?_
  refine call_ret (rsameQ_calls (q:=nilR) (v:=.slice none 0 0) (u:=.slice none 0 0) SL.nil SL.nil (by show(0:Nat)≤_;omega)) ?_
  rintro _ h9 ⟨rfl,c9⟩
  have u:=u.ext c9
  refine call_ret (rsameE_calls (E:=[]) SL.nil SL.nil (by show(0:Nat)≤_;omega)) ?_
  rintro _ h10 ⟨rfl,e10⟩
  have e10:=e10.symm
  subst e10
  have c2f:=c3.nil u.chg
  refine call_ret (w9same_calls ((kr.ext c2).ext c2f) (hw.sl.ext c2f) (gk.ext c2f) hW (by omega)) ?_
  rintro _ h11 ⟨rfl,c11⟩
  exact Ai rfl ((c02.nil c2f).nil c11)
theorem CollsDo_calls {h:Heap} {v u:Value} {l:List RX} {A:List ByteArray} {now:Int} (hv:SL encX h v l) (hu:SL encS h u A) (g:GX h l) (f:XFit l) (fd:SFit A) (hun:∀x∈l,In64 x.thing.unt) (hri:∀x∈l,∀r∈x.thing.ranks,In64 r.score) (hla:LaidN h) (ht:K5.TabH h):
  CallsH Tryz.prog 7 [v,.int .i64 now,u] h (Ret fun r h'=>r=.bool true∧Chg [] h h'):=by
 refine f7_calls (by simp) ?_
 refine call_ret (vast9_calls hv hu g f fd) ?_
 rintro _ h1 ⟨⟨b,rfl,hb⟩,c1⟩
 cases b with
 |true=>exact kn9 c1 fun h2 c2=>Ai rfl c2
 |false=>
  obtain⟨nv,sm⟩:=hb rfl
  rcases all9 (now:=now) sm.len sm.each with⟨hp,hr⟩|⟨res,hp,hr,hsh⟩
  ·refine call_ret (does9_none (hv.ext c1) (g.ext c1) nv (hu.ext c1) hp hr) ?_
   rintro _ h2 ⟨rfl,c2⟩
   refine call_ret known9_ret ?_
   rintro _ h3 ⟨rfl,c3⟩
   exact Ai rfl ((c1.nil c2).nil c3)
  ·refine call_ret (does9_calls (hv.ext c1) (g.ext c1) nv hun hri (hla.ext c1) (tab9 ht c1) (hu.ext c1) hp hr.get hsh) ?_
   rintro _ h2 ⟨rfl,c2⟩
   refine call_ret known9_ret ?_
   rintro _ h3 ⟨rfl,c3⟩
   exact Ai rfl ((c1.nil c2).nil c3)
end Go.Proofs.YtjnijlnmbjjgpaaGreatDoor
namespace Go.Proofs.YtjnijlnmbjjgpaaGreatDoor
open Go Go.Sx Go.ChangeShapes Go.WideShapes Go.ChangeAt Go.RowKit
theorem own:ownKnob Tryz.prog.godebug=none:=by kernel_rfl
theorem laidOut:laidOutB Tryz.prog=true:=by kernel_rfl
def tab32:List Int:=[0,1,28,2,29,14,24,3,30,22,20,15,25,17,4,8,31,27,13,23,21,19,16,7,26,12,18,6,11,5,10,9]
def tab64:List Int:=[0,1,56,2,57,49,28,3,61,58,42,50,38,29,17,4,62,47,59,36,45,43,51,22,53,39,33,30,24,18,12,5,63,55,48,27,60,41,37,16,46,35,44,21,52,32,23,11,54,26,40,15,34,20,31,10,25,14,19,9,13,8,7,6]
def pow10:List Int:=[1,10,100,1000,10000,100000,1000000,10000000,100000000,1000000000,10000000000,100000000000,1000000000000,10000000000000,100000000000000,1000000000000000,10000000000000000,100000000000000000,1000000000000000000,10000000000000000000]
def wordRange:ByteArray:=⟨#[118,97,108,117,101,32,111,117,116,32,111,102,32,114,97,110,103,101]⟩
def wordSyntax:ByteArray:=⟨#[105,110,118,97,108,105,100,32,115,121,110,116,97,120]⟩
def laid5:List (String×DataW Unit):=[("math/bits.deBruijn32tab",Rows.laid_math_bits_deBruijn32tab),("math/bits.deBruijn64tab",Rows.laid_math_bits_deBruijn64tab),("internal/strconv.uint64pow10",Rows.laid_internal_strconv_uint64pow10),("strconv.ErrRange",Rows.laid_strconv_ErrRange),("strconv.ErrSyntax",Rows.laid_strconv_ErrSyntax)]
def putTab (vs:Array Value):Obj→Obj
 |.cells _ t frozen=>.cells vs t frozen
 |o=>o
noncomputable def bare (os:Os):World:=World.holding Tryz.prog os ⟨#[], #[],[]⟩
noncomputable def laidWorld (os:Os):World:=
 {bare os with heap:=((((((bare os).heap.modify 2 (putTab (tab32.map fun z=>Value.int .u8 z).toArray)).modify 3 (putTab (tab64.map fun z=>Value.int .u8 z).toArray)).modify 0 (putTab (pow10.map fun z=>Value.int .u64 z).toArray)).modify 5
  (putTab #[.iface 348 (.pointer (some ⟨(bare os).heap.size,0,none⟩))])).modify 4 (putTab #[.iface 348 (.pointer (some ⟨(bare os).heap.size+1,0,none⟩))]))++
  #[.cells #[.string wordRange] 350 (0,0),.cells #[.string wordSyntax] 350 (0,0)]}
theorem laid_met (os:Os) (args:Array Value):laidMet Tryz.prog laid5 ((laidWorld os).forCall (fun _ _=>0) ⟨#[],args,[]⟩).memory:=
 laidMet_of_run' 8 (by kernel_rfl) (by kernel_rfl)
theorem int_arg {P:Program} {W:World} {b0:Nat} {r:Reach} {t:TypeId} {v:Value} (ht:P.underlying t=some (.int .i64)) (hval:Value.okWide P W r b0 t v):
  ∃n,v=.int .i64 n:=by
 simp only[Value.okWide,Cell.okWide,Cell.ok,ht]at hval
 split at hval<;>simp_all
theorem len2 {α:Type} {l:List α} (h:l.length=2):∃a b,l=[a,b]:=by
 match l,h with
 |[a,b],_=>exact⟨a,b,rfl⟩
theorem len7 {α:Type} {l:List α} (h:l.length=7):∃a0 a1 a2 a3 a4 a5 a6,l=[a0,a1,a2,a3,a4,a5,a6]:=by
 match l,h with
 |[a0,a1,a2,a3,a4,a5,a6],_=>exact⟨a0,a1,a2,a3,a4,a5,a6,rfl⟩
theorem len8 {α:Type} {l:List α} (h:l.length=8):∃a0 a1 a2 a3 a4 a5 a6 a7,l=[a0,a1,a2,a3,a4,a5,a6,a7]:=by
 match l,h with
 |[a0,a1,a2,a3,a4,a5,a6,a7],_=>exact⟨a0,a1,a2,a3,a4,a5,a6,a7,rfl⟩
section
variable {H:Type} {enc:TypeId×Value→H} {W:World} {base n:Nat} {sp:Nat→Bool} {held:Bool} {cs:List Value} {x:DataW H×List MemPlace}
theorem open_rank (h:DataW.trod enc Tryz.prog W base sp held n 110 cs=some x) (hw:Wts Tryz.prog 110 x.1):∃a:Rank,cs=encR a∧a.name.size<1000000000000000000∧(-9223372036854775808≤a.score∧a.score≤9223372036854775807):=by
 obtain⟨xs,m,rfl,hx,hl,hls,hi⟩:=DataW.trod_struct Tryz.underlying110 h
 have c9:Tryz.prog.cellsOf 9=1:=by kernel_rfl
 have c2:Tryz.prog.cellsOf 2=1:=by kernel_rfl
 have cc:Tryz.prog.cellsOf 110=2:=by kernel_rfl
 rw[cc]at hl
 obtain⟨u,v,rfl⟩:=len2 hl
 obtain⟨y,z,rfl⟩:=len2 (l:=xs) hls
 have h0:=fld hi 0 9 0 1 rfl rfl rfl c9 rfl rfl
 have h1:=fld hi 1 2 1 1 rfl rfl rfl c2 rfl rfl
 have hw0:Wts Tryz.prog 9 y.1:=by
  intro k hk
  refine hw k ?_
  rw[hx]
  simp only[DataW.weights,Tryz.underlying110,List.map_cons,List.map_nil,DataW.weightsEach,List.mem_append]
  exact .inl hk
 obtain⟨nm,e0,hs⟩:=str_of_trod Tryz.underlying9 h0 hw0
 obtain⟨k,e1,_,wf1⟩:=DataW.trod_int Tryz.underlying2 h1
 have un1: -9223372036854775808≤k∧k≤9223372036854775807:=by
  unfold Lit.wf at wf1
  simp only[Bool.and_eq_true,decide_eq_true_eq]at wf1
  exact wf1
 obtain⟨rfl⟩:=e0
 obtain⟨rfl⟩:=e1
 have:=reachBytes_lt
 exact⟨⟨nm,k⟩,rfl,by show nm.size<_;omega,un1⟩
theorem open_pair (h:DataW.trod enc Tryz.prog W base sp held n 108 cs=some x) (hw:Wts Tryz.prog 108 x.1):∃a:Pair,cs=encP a∧a.name.size<1000000000000000000∧a.text.size<1000000000000000000:=by
 obtain⟨xs,m,rfl,hx,hl,hls,hi⟩:=DataW.trod_struct Tryz.underlying108 h
 have c9:Tryz.prog.cellsOf 9=1:=by kernel_rfl
 have cc:Tryz.prog.cellsOf 108=2:=by kernel_rfl
 rw[cc]at hl
 obtain⟨u,v,rfl⟩:=len2 hl
 obtain⟨y,z,rfl⟩:=len2 (l:=xs) hls
 have h0:=fld hi 0 9 0 1 rfl rfl rfl c9 rfl rfl
 have h1:=fld hi 1 9 1 1 rfl rfl rfl c9 rfl rfl
 have hw0:Wts Tryz.prog 9 y.1:=by
  intro k hk
  refine hw k ?_
  rw[hx]
  simp only[DataW.weights,Tryz.underlying108,List.map_cons,List.map_nil,DataW.weightsEach,List.mem_append]
  exact .inl hk
 have hw1:Wts Tryz.prog 9 z.1:=by
  intro k hk
  refine hw k ?_
  rw[hx]
  simp only[DataW.weights,Tryz.underlying108,List.map_cons,List.map_nil,DataW.weightsEach,List.mem_append]
  exact .inr (.inl hk)
 obtain⟨nm,e0,hs⟩:=str_of_trod Tryz.underlying9 h0 hw0
 obtain⟨tx,e1,hs1⟩:=str_of_trod Tryz.underlying9 h1 hw1
 obtain⟨rfl⟩:=e0
 obtain⟨rfl⟩:=e1
 have:=reachBytes_lt
 exact⟨⟨nm,tx⟩,rfl,by show nm.size<_;omega,by show tx.size<_;omega⟩
theorem open_s (h:DataW.trod enc Tryz.prog W base sp held n 9 cs=some x) (hw:Wts Tryz.prog 9 x.1):∃a:ByteArray,cs=encS a∧a.size<1000000000000000000:=by
 obtain⟨nm,e0,hs⟩:=str_of_trod Tryz.underlying9 h hw
 have:=reachBytes_lt
 exact⟨nm,e0,by omega⟩
set_option maxRecDepth 100000 in
theorem open_thing (h:DataW.trod enc Tryz.prog W base sp held n 27 cs=some x) (hw:Wts Tryz.prog 27 x.1):
  ∃t:Thing,TH W.heap cs t∧Fits t∧Sized t∧cs.length=7∧(-9223372036854775808≤t.unt∧t.unt≤9223372036854775807)∧∀r∈t.ranks,-9223372036854775808≤r.score∧r.score≤9223372036854775807:=by
 obtain⟨xs,m,rfl,hx,hl,hls,hi⟩:=DataW.trod_struct Tryz.underlying27 h
 have hd:x.1=.agg (xs.map (·.1)):=congrArg Prod.fst hx
 have c9:Tryz.prog.cellsOf 9=1:=by kernel_rfl
 have c2:Tryz.prog.cellsOf 2=1:=by kernel_rfl
 have c4:Tryz.prog.cellsOf 4=1:=by kernel_rfl
 have c22:Tryz.prog.cellsOf 22=1:=by kernel_rfl
 have c23:Tryz.prog.cellsOf 23=1:=by kernel_rfl
 have c24:Tryz.prog.cellsOf 24=1:=by kernel_rfl
 have c25:Tryz.prog.cellsOf 25=1:=by kernel_rfl
 have c27:Tryz.prog.cellsOf 27=7:=by kernel_rfl
 rw[c27]at hl
 obtain⟨a0,a1,a2,a3,a4,a5,a6,rfl⟩:=len7 hl
 obtain⟨y0,y1,y2,y3,y4,y5,y6,rfl⟩:=len7 (l:=xs) hls
 have h0:=fld hi 0 22 0 1 rfl rfl rfl c22 rfl rfl
 have h1:=fld hi 1 9 1 1 rfl rfl rfl c9 rfl rfl
 have h2:=fld hi 2 23 2 1 rfl rfl rfl c23 rfl rfl
 have h3:=fld hi 3 24 3 1 rfl rfl rfl c24 rfl rfl
 have h4:=fld hi 4 25 4 1 rfl rfl rfl c25 rfl rfl
 have h5:=fld hi 5 4 5 1 rfl rfl rfl c4 rfl rfl
 have h6:=fld hi 6 2 6 1 rfl rfl rfl c2 rfl rfl
 have hwk:∀(i t:Nat) (y:DataW H×List MemPlace),[22,9,23,24,25,4,2][i]? =some t→[y0,y1,y2,y3,y4,y5,y6][i]? =some y→Wts Tryz.prog t y.1:=by
  intro i t y ht hy k hk
  refine hw k ?_
  rw[hd]
  simp only[DataW.weights,Tryz.underlying27]
  refine DataW.weights_mem_each (j:=i) (t:=t) (d:=y.1) ?_ ?_ k hk
  ·exact ht
  ·rw[List.getElem?_map,hy];rfl
 obtain⟨kd,e0,_,_⟩:=DataW.trod_int Tryz.underlying22 h0
 obtain⟨tx,e1,hs1⟩:=str_of_trod Tryz.underlying9 h1 (hwk 1 9 y1 rfl rfl)
 obtain⟨lp,sp,gp,np⟩:=open_cell (k:=2) (en:=encP) Tryz.underlying23 (by kernel_rfl) (by decide) encP_len (fun n cs x h hw=>open_pair h hw) h2 (hwk 2 23 y2 rfl rfl)
 obtain⟨ll,sl,gl,nl⟩:=open_cell (k:=1) (en:=encS) Tryz.underlying24 (by kernel_rfl) (by decide) encS_len (fun n cs x h hw=>open_s h hw) h3 (hwk 3 24 y3 rfl rfl)
 obtain⟨lr,sr,gr,nr⟩:=open_cell (k:=2) (en:=encR) Tryz.underlying25 (by kernel_rfl) (by decide) encR_len (fun n cs x h hw=>open_rank h hw) h4 (hwk 4 25 y4 rfl rfl)
 obtain⟨bu,e5,_⟩:=DataW.trod_bool Tryz.underlying4 h5
 obtain⟨un,e6,_,wf6⟩:=DataW.trod_int Tryz.underlying2 h6
 have un6: -9223372036854775808≤un∧un≤9223372036854775807:=by
  unfold Lit.wf at wf6
  simp only[Bool.and_eq_true,decide_eq_true_eq]at wf6
  exact wf6
 obtain⟨rfl⟩:=e0
 obtain⟨rfl⟩:=e1
 obtain⟨rfl⟩:=e5
 obtain⟨rfl⟩:=e6
 have b32:Tryz.prog.bytesOf 108=32:=by kernel_rfl
 have b9:Tryz.prog.bytesOf 9=16:=by kernel_rfl
 have b34:Tryz.prog.bytesOf 110=24:=by kernel_rfl
 rw[b32]at np
 rw[b9]at nl
 rw[b34]at nr
 have:=reachBytes_lt
 refine⟨⟨kd,tx,lp,ll,lr,bu,un⟩,⟨_,_,_,rfl,sp,sl,sr⟩,⟨?_,?_,?_⟩,⟨?_,gp,gl,fun r hr=>(gr r hr).1⟩,rfl,un6,fun r hr=>(gr r hr).2⟩
 ·show lp.length<_;omega
 ·show ll.length<_;omega
 ·show lr.length<_;omega
 ·show tx.size<_;omega
structure GoodX (h:Heap) (x:RX):Prop where
 th:TH h x.vs x.thing
 fits:Fits x.thing
 sized:Sized x.thing
 key:x.key.size<1000000000000000000
 unt: -9223372036854775808≤x.thing.unt∧x.thing.unt≤9223372036854775807
 ri:∀r∈x.thing.ranks,-9223372036854775808≤r.score∧r.score≤9223372036854775807
set_option maxRecDepth 100000 in
theorem open_entry (h:DataW.trod enc Tryz.prog W base sp held n 29 cs=some x) (hw:Wts Tryz.prog 29 x.1):∃a:RX,cs=encX a∧GoodX W.heap a:=by
 obtain⟨xs,m,rfl,hx,hl,hls,hi⟩:=DataW.trod_struct Tryz.underlying29 h
 have hd:x.1=.agg (xs.map (·.1)):=congrArg Prod.fst hx
 have c9:Tryz.prog.cellsOf 9=1:=by kernel_rfl
 have c7:Tryz.prog.cellsOf 27=7:=by kernel_rfl
 have cc:Tryz.prog.cellsOf 29=8:=by kernel_rfl
 rw[cc]at hl
 obtain⟨k0,a0,a1,a2,a3,a4,a5,a6,rfl⟩:=len8 hl
 obtain⟨y,z,rfl⟩:=len2 (l:=xs) hls
 have h0:=fld hi 0 9 0 1 rfl rfl rfl c9 rfl rfl
 have h1:=fld hi 1 27 1 7 rfl rfl rfl c7 rfl rfl
 have hwk:∀(i t:Nat) (w:DataW H×List MemPlace),[9,27][i]? =some t→[y,z][i]? =some w→Wts Tryz.prog t w.1:=by
  intro i t y ht hy k hk
  refine hw k ?_
  rw[hd]
  simp only[DataW.weights,Tryz.underlying29]
  refine DataW.weights_mem_each (j:=i) (t:=t) (d:=y.1) ?_ ?_ k hk
  ·exact ht
  ·rw[List.getElem?_map,hy];rfl
 obtain⟨key,e0,hz⟩:=str_of_trod Tryz.underlying9 h0 (hwk 0 9 y rfl rfl)
 obtain⟨t,th,ft,st,hl7,un,ri⟩:=open_thing h1 (hwk 1 27 z rfl rfl)
 obtain⟨rfl⟩:=e0
 have:=reachBytes_lt
 exact⟨⟨key,t,_,hl7,thing_one th⟩,rfl,th,ft,st,by show key.size<_;omega,un,ri⟩
set_option maxRecDepth 100000 in
theorem open_entries9 {v:Value} {d:DataW H} {ps:List MemPlace} {r:Reach} {b0:Nat} (hval:Value.okWide Tryz.prog W r b0 32 v) (h:DataW.Trod enc Tryz.prog W base sp held 32 v d ps) (hw:Wts Tryz.prog 32 d):
  ∃l:List RX,SL encX W.heap v l∧GX W.heap l∧XFit l∧(∀x∈l,-9223372036854775808≤x.thing.unt∧x.thing.unt≤9223372036854775807)∧∀x∈l,∀r∈x.thing.ranks,-9223372036854775808≤r.score∧r.score≤9223372036854775807:=by
 obtain⟨n,hn⟩:=cell_arg Tryz.underlying32 hval h
 obtain⟨l,sl,g,nl⟩:=open_cell (k:=8) (en:=encX) Tryz.underlying32 (by kernel_rfl) (by decide) encX_len (fun n cs x h hw=>open_entry h hw) hn hw
 have b:Tryz.prog.bytesOf 29=128:=by kernel_rfl
 rw[b]at nl
 have:=reachBytes_lt
 exact⟨l,sl,fun x hx=>(g x hx).th,⟨by omega,fun x hx=>by have:=(g x hx).key;omega,fun x hx=>(g x hx).fits,fun x hx=>(g x hx).sized⟩,fun x hx=>(g x hx).unt,fun x hx=>(g x hx).ri⟩
end
end Go.Proofs.YtjnijlnmbjjgpaaGreatDoor
namespace Go.Proofs.YtjnijlnmbjjgpaaGreatDoor
open Go Go.Sx Go.ChangeShapes Go.WideShapes Go.ChangeAt Go.RowKit
theorem trod_iface {H:Type} {enc:TypeId×Value→H} {P:Program} {w:World} {base n:Nat} {sp:Nat→Bool} {held:Bool} {t:TypeId} {cs:List Value} {x:DataW H×List MemPlace}
  (ht:(match P.underlying t with|some (.interface _)=>true|_=>false)=true) (h:DataW.trod enc P w base sp held n t cs=some x):∃v,cs=[v]∧IfaceV v:=by
 obtain⟨ms,ht⟩:∃ms,P.underlying t=some (.interface ms):=by
  split at ht
  ·rename_i ms h1;exact⟨ms,h1⟩
  ·cases ht
 cases n with
 |zero=>simp[DataW.trod]at h
 |succ n=>
  simp only[DataW.trod,ht]at h
  split at h<;>first|exact⟨_,rfl,.inl rfl⟩|exact⟨_,rfl,.inr ⟨_,_,rfl⟩⟩|(exfalso;simp_all;done)
theorem errV {W:World} {n:String} {gi:Nat} {g:Nat} {t:TypeId} {cs:Array Value} {fuel:Nat} {d:DataW Unit} {p:List MemPlace} (hgi:Tryz.prog.globalNamed n=some gi) (hti:(Tryz.prog.globals[gi]?).map (·.type)=some 244)
  (hg:Tryz.prog.globalNamed n=some g) (ht:(Tryz.prog.globals[g]?).map (·.type)=some t) (hv:W.var? Tryz.prog n=some cs) (h:DataW.trod (fun _=>()) Tryz.prog W 0 (fun _=>true) false fuel t cs.toList=some (d,p)):
  ∃v,cell W.heap gi 0=some v∧IfaceV v:=by
 obtain rfl:=Option.some.inj (hgi.symm.trans hg)
 obtain rfl:=Option.some.inj (hti.symm.trans ht)
 obtain⟨v,e,hi⟩:=trod_iface (by kernel_rfl) h
 refine⟨v,?_,hi⟩
 unfold World.var? at hv
 rw[hgi]at hv
 have hv:(match W.heap[gi]? with|some (.cells cs _ _)=>some cs|_=>none)=some cs:=hv
 unfold cell
 split at hv
 ·rename_i h1
  injection hv with hv
  subst hv
  rw[h1]
  show(_:Array Value)[0]? =_
  rw[←Array.getElem?_toList,e];rfl
 ·cases hv
theorem laidN_of {W:World} (h:laidMetH Tryz.prog laid5 W):LaidN W.heap:=by
 have h:laidMet Tryz.prog laid5 W:=h
 obtain⟨ps,⟨_,_,_,_,_,_,_,_,_,_,⟨_,_,_,_,_,_,_,_,_,_,⟨g,t,cs,fuel,p,q,hg,ht,hv,htr,⟨g2,t2,cs2,fuel2,p2,q2,hg2,ht2,hv2,htr2,⟨g3,t3,cs3,fuel3,p3,q3,hg3,ht3,hv3,htr3,_,_⟩,_⟩,_⟩,_⟩,_⟩,_⟩:=h
 refine⟨?_,errV (by kernel_rfl) (by kernel_rfl) hg3 ht3 hv3 htr3,errV (by kernel_rfl) (by kernel_rfl) hg2 ht2 hv2 htr2⟩
 have hgi:Tryz.prog.globalNamed "internal/strconv.uint64pow10" =some 0:=by kernel_rfl
 have hti:(Tryz.prog.globals[0]?).map (·.type)=some 234:=by kernel_rfl
 obtain rfl:=Option.some.inj (hgi.symm.trans hg)
 obtain rfl:=Option.some.inj (hti.symm.trans ht)
 have hc:=Lib.cells_of_tab (k:=.u64) (zs:=Lib.pow10Tab) (n:=20) (e:=183) (by kernel_rfl) (by kernel_rfl) (by kernel_rfl) (by kernel_rfl) htr
 unfold World.var? at hv
 rw[hgi]at hv
 have hv:(match W.heap[(0:Nat)]? with|some (.cells cs _ _)=>some cs|_=>none)=some cs:=hv
 split at hv
 ·rename_i h1
  injection hv with hv
  subst hv
  exact⟨_,_,by rw[h1,←hc]⟩
 ·cases hv
section
variable {H:Type} {enc:TypeId×Value→H} {W:World} {base n:Nat} {sp:Nat→Bool} {held:Bool}
set_option maxRecDepth 100000 in
theorem open_strs {v:Value} {d:DataW H} {ps:List MemPlace} {r:Reach} {b0:Nat} (hval:Value.okWide Tryz.prog W r b0 24 v) (h:DataW.Trod enc Tryz.prog W base sp held 24 v d ps) (hw:Wts Tryz.prog 24 d):
  ∃l:List ByteArray,SL encS W.heap v l∧SFit l:=by
 obtain⟨n,hn⟩:=cell_arg Tryz.underlying24 hval h
 obtain⟨l,sl,g,nl⟩:=open_cell (k:=1) (en:=encS) Tryz.underlying24 (by kernel_rfl) (by decide) encS_len (fun n cs x h hw=>open_s h hw) hn hw
 have b:Tryz.prog.bytesOf 9=16:=by kernel_rfl
 rw[b]at nl
 have:=reachBytes_lt
 exact⟨l,sl,⟨by omega,fun x hx=>by have:=g x hx;omega⟩⟩
end
end Go.Proofs.YtjnijlnmbjjgpaaGreatDoor
namespace Go.Proofs.YtjnijlnmbjjgpaaGreatDoor
open Go Go.Sx Go.ChangeShapes Go.WideShapes Go.ChangeAt Go.RowKit
theorem g64:Tryz.prog.globalNamed "math/bits.deBruijn64tab" =some 3:=by kernel_rfl
theorem tab64_in:∀i<64,0≤tab64.getD i 0∧tab64.getD i 0≤255:=by decide
theorem laid_tail {P:Program} {W:World} {x:String×DataW Unit} {l:List (String×DataW Unit)} (h:laidMet P (x::l) W):∃ps,DataW.LaidVars P W l ps:=by
 obtain⟨ps,⟨g',t',cs,fuel,p,q,hg',ht',hvar,hd,hr,_⟩,_⟩:=h
 exact⟨q,hr⟩
theorem tabH_of {W:World} (h:laidMetH Tryz.prog laid5 W):K5.TabH W.heap:=by
 have h':laidMet Tryz.prog laid5 W:=h
 obtain⟨ps,g',t',cs,fuel,p,q,hg',ht',hvar,hd,_,_⟩:=laid_tail h'
 obtain rfl:=Option.some.inj (g64.symm.trans hg')
 have hti:(Tryz.prog.globals[3]?).map (·.type)=some 318:=by kernel_rfl
 obtain rfl:=Option.some.inj (hti.symm.trans ht')
 have hcs:=Lib.cells_of_tab (k:=.u8) (zs:=tab64) (n:=64) (e:=5) (by kernel_rfl) (by kernel_rfl) (by kernel_rfl) (by kernel_rfl) hd
 intro i hi
 have hc:=World.var?_cell g64 hvar i
 have h1:=tab64_in i hi
 refine⟨tab64.getD i 0,h1.1,h1.2,?_⟩
 rw[←world_cell,hc]
 have e1:cs[i]? =cs.toList[i]? :=by simp
 rw[e1,hcs]
 have hi':i<tab64.length:=hi
 simp[List.getD,hi']
end Go.Proofs.YtjnijlnmbjjgpaaGreatDoor
