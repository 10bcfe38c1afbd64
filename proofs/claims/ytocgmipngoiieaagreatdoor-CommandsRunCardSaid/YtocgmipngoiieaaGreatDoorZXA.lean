/-
  Part 1 of the proof of CommandsRun.
-/
import Derived.OrdersIn
import Derived.RangeFuncIn
import Derived.DefersIn
import Derived.KernelRfl
import Derived.Laws.Cells
import Derived.Laws.CopyRow
import Derived.Laws.StructEq
import Derived.Laws.Small
import Derived.Laws.MakeOwn
import Derived.Laws.AppendOwn
import Derived.Laws.BytesArg
import Derived.Lib.Builder
import Derived.Lib.UnsafeStr
import Derived.Lib.ConvBytes
import Derived.RangeFuncBox
import Derived.RangeFuncLeaves
import Derived.RangeFuncRecord
import Derived.RecoverIn
set_option linter.defProp false
set_option linter.unusedVariables false
set_option linter.unusedSimpArgs false
def Go.V{p:Prop}(h:p:=by omega):p:=h
def Go.Yy{p:Prop}(h:p:=by simp):p:=h
def Go.Dd{p:Prop}(h:p:=by decide):p:=h
def Go.Ys{p:Prop}(h:p:=by simp;omega):p:=h
def Go.Yo{p:Prop}(h:p:=by simp only;omega):p:=h
def Go.Bi{α:Sort _}{x:α}{a b c d:Prop}(f:a->b)(g:c->d):x=x∧(a->b)∧(c->d):=⟨rfl,f,g⟩
def Go.Bn{a b c:Prop}(f:c)(n:¬a:=by decide):(a->b)∧(¬a->c):=⟨λh=>absurd h n,λ_=>f⟩
abbrev Go.BA:=ByteArray
abbrev Go.zR:List Go.Value:=[.int .i64 0,.int .i64 0,.string ⟨#[]⟩,.slice none 0 0]
abbrev Go.zT:List Go.Value:=[.int .i64 0,.string ⟨#[]⟩,.slice none 0 0,.slice none 0 0,.slice none 0 0,.bool false,.int .i64 0]
def Go.Kr{p:Prop}(h:p:=by kernel_rfl):p:=h
def Go.J2{a_:Sort _}{a:a_}{b_:Sort _}{b:b_}:a=a∧b=b∧True:=⟨rfl,rfl,trivial⟩
def Go.J3{a_:Sort _}{a:a_}{b_:Sort _}{b:b_}{c_:Sort _}{c:c_}:a=a∧b=b∧c=c∧True:=⟨rfl,rfl,rfl,trivial⟩
def Go.J4{a_:Sort _}{a:a_}{b_:Sort _}{b:b_}{c_:Sort _}{c:c_}{d_:Sort _}{d:d_}:a=a∧b=b∧c=c∧d=d∧True:=⟨rfl,rfl,rfl,rfl,trivial⟩
def Go.J5{a_:Sort _}{a:a_}{b_:Sort _}{b:b_}{c_:Sort _}{c:c_}{d_:Sort _}{d:d_}{e_:Sort _}{e:e_}:a=a∧b=b∧c=c∧d=d∧e=e∧True:=⟨rfl,rfl,rfl,rfl,rfl,trivial⟩
def Go.J6{a_:Sort _}{a:a_}{b_:Sort _}{b:b_}{c_:Sort _}{c:c_}{d_:Sort _}{d:d_}{e_:Sort _}{e:e_}{f_:Sort _}{f:f_}:a=a∧b=b∧c=c∧d=d∧e=e∧f=f∧True:=⟨rfl,rfl,rfl,rfl,rfl,rfl,trivial⟩
def Go.J7{a_:Sort _}{a:a_}{b_:Sort _}{b:b_}{c_:Sort _}{c:c_}{d_:Sort _}{d:d_}{e_:Sort _}{e:e_}{f_:Sort _}{f:f_}{g_:Sort _}{g:g_}:a=a∧b=b∧c=c∧d=d∧e=e∧f=f∧g=g∧True:=⟨rfl,rfl,rfl,rfl,rfl,rfl,rfl,trivial⟩
def Go.J8{a_:Sort _}{a:a_}{b_:Sort _}{b:b_}{c_:Sort _}{c:c_}{d_:Sort _}{d:d_}{e_:Sort _}{e:e_}{f_:Sort _}{f:f_}{g_:Sort _}{g:g_}{h_:Sort _}{h:h_}:a=a∧b=b∧c=c∧d=d∧e=e∧f=f∧g=g∧h=h∧True:=⟨rfl,rfl,rfl,rfl,rfl,rfl,rfl,rfl,trivial⟩
def Go.J9{a_:Sort _}{a:a_}{b_:Sort _}{b:b_}{c_:Sort _}{c:c_}{d_:Sort _}{d:d_}{e_:Sort _}{e:e_}{f_:Sort _}{f:f_}{g_:Sort _}{g:g_}{h_:Sort _}{h:h_}{i_:Sort _}{i:i_}:a=a∧b=b∧c=c∧d=d∧e=e∧f=f∧g=g∧h=h∧i=i∧True:=⟨rfl,rfl,rfl,rfl,rfl,rfl,rfl,rfl,rfl,trivial⟩
def Go.lY{a_:Sort _}{a:a_}{b_:Sort _}{b:b_}{c_:Sort _}{c:c_}{d_:Sort _}{d:d_}{e_:Sort _}{e:e_}{f_:Sort _}{f:f_}{g_:Sort _}{g:g_}{h_:Sort _}{h:h_}{i_:Sort _}{i:i_}{j_:Sort _}{j:j_}:a=a∧b=b∧c=c∧d=d∧e=e∧f=f∧g=g∧h=h∧i=i∧j=j∧True:=⟨rfl,rfl,rfl,rfl,rfl,rfl,rfl,rfl,rfl,rfl,trivial⟩
def Go.J11{a_:Sort _}{a:a_}{b_:Sort _}{b:b_}{c_:Sort _}{c:c_}{d_:Sort _}{d:d_}{e_:Sort _}{e:e_}{f_:Sort _}{f:f_}{g_:Sort _}{g:g_}{h_:Sort _}{h:h_}{i_:Sort _}{i:i_}{j_:Sort _}{j:j_}{k_:Sort _}{k:k_}:a=a∧b=b∧c=c∧d=d∧e=e∧f=f∧g=g∧h=h∧i=i∧j=j∧k=k∧True:=⟨rfl,rfl,rfl,rfl,rfl,rfl,rfl,rfl,rfl,rfl,rfl,trivial⟩
def Go.Y{α:Sort _}{a:α}:a=a:=rfl
def Go.akU:=@List.getElem?_eq_getElem
def Go.akZ:=@if_neg
def Go.ak0:=@List.length_cons
def Go.ak1:=@List.length_append
def Go.ak3:=@List.mem_cons
def Go.ak4:=@if_pos
def Go.ak7:=@List.getElem?_eq_some_iff
def Go.ak8:=@Nat.zero_le
def Go.ak9:=@List.getElem_mem
def Go.ale:=@decide_eq_true
def Go.alf:=@List.mem_append
def Go.alg:=@decide_eq_false
def Go.ali:=@Nat.le_refl
def Go.alm:=@List.take_length
def Go.alr:=@List.mem_cons_of_mem
def Go.als:=@List.mem_map_of_mem
def Go.alx:=@List.drop_eq_getElem_cons
def Go.aly:=@List.length_nil
def Go.alA:=@List.length_take
def Go.alC:=@congrArg
def Go.alD:=@List.map_append
def Go.alE:=@List.mem_singleton
def Go.alF:=@List.mem_map
def Go.alG:=@List.append_assoc
def Go.alI:=@List.take_succ_eq_append_getElem
def Go.alL:=@List.length_map
def Go.alN:=@Option.map_eq_some_iff
def Go.alO:=@Bool.and_eq_true
def Go.alQ:=@List.getElem?_cons_succ
def Go.alR:=@List.map_cons
def Go.al1:=@List.length_singleton
def Go.al4:=@Array.getElem?_eq_some_iff
def Go.al6:=@Nat.le_trans
def Go.al7:=@Bool.toNat_false
def Go.al9:=@List.mem_of_getElem?
def Go.al':=@Bool.toNat_true
def Go.ama:=@List.take_append_drop
def Go.amb:=@List.mem_filter
def Go.amc:=@List.nodup_cons
def Go.amd:=@List.pairwise_cons
def Go.amm:=@decide_eq_true_eq
def Go.amo:=@List.take_of_length_le
def Go.amu:=@Option.some.inj
def Go.amx:=@Decidable.not_not
def Go.amy:=@of_decide_eq_true
def Go.amz:=@List.length_eq_zero_iff
def Go.amA:=@List.append_nil
def Go.amB:=@List.getElem?_map
def Go.amC:=@List.mem_append_left
def Go.amD:=@Bool.true_and
def Go.amE:=@List.drop_length
def Go.amF:=@Bool.toNat_le
def Go.amG:=@Array.getElem?_setIfInBounds
def Go.amH:=@Bool.false_eq_true
def Go.amI:=@Array.ext'
def Go.amJ:=@Nat.zero_add
def Go.amK:=@List.cons_append
def Go.amL:=@List.length_drop
def Go.amM:=@List.getElem?_append_left
def Go.amN:=@List.nodup_append
def Go.amO:=@Array.getD_eq_getD_getElem?
def Go.amP:=@Nat.le_of_ble_eq_true
def Go.amQ:=@Nat.lt_or_ge
def Go.amR:=@List.length_filter_le
def Go.amS:=@List.getElem_of_mem
def Go.amT:=@Nat.eq_of_beq_eq_true
def Go.amU:=@List.not_mem_nil
def Go.amV:=@List.all_eq_true
def Go.amW:=@List.eq_nil_of_length_eq_zero
def Go.amX:=@Nat.lt_of_lt_of_le
def Go.amY:=@List.mem_cons_self
def Go.amZ:=@Bool.or_eq_true
def Go.am0:=@Bool.not_eq_true'
def Go.am1:=@List.getElem?_append_right
def Go.am2:=@List.exists_cons_of_ne_nil
def Go.am3:=@Nat.mul_le_mul_right
def Go.am4:=@List.drop_eq_nil_of_le
def Go.am5:=@List.pairwise_iff_getElem
def Go.am6:=@List.mem_of_find?_eq_some
def Go.am7:=@Array.getElem?_push
def Go.am8:=@List.length_pos_iff
def Go.am9:=@List.flatMap_cons
def Go.am':=@List.map_map
def Go.ana:=@if_false
def Go.anb:=@List.pairwise_append
def Go.anc:=@List.getElem?_set_ne
def Go.ane:=@List.mem_iff_getElem
def Go.anf:=@List.getElem?_set_self
def Go.ang:=@List.Pairwise.map
def Go.anh:=@List.flatMap_append
def Go.ani:=@List.Sublist.append_left
def Go.anj:=@List.drop_zero
def Go.ank:=@List.nodup_nil
def Go.anl:=@List.getElem_take
def Go.anm:=@List.cons.injEq
def Go.ann:=@UInt8.toNat_inj
def Go.ano:=@List.sublist_cons_self
def Go.anp:=@Int.fdiv_eq_ediv_of_nonneg
def Go.anq:=@List.getElem_zip
def Go.anr:=@Array.ext_getElem?
def Go.ans:=@UInt8.lt_iff_toNat_lt
def Go.ant:=@List.getElem?_cons_zero
def Go.anu:=@Bool.and_false
def Go.anv:=@List.getElem_cons_zero
def Go.anw:=@Nat.sub_zero
def Go.anx:=@Nat.add_sub_cancel
def Go.anz:=@List.filter_append
def Go.anA:=@List.find?_eq_none
def Go.anB:=@if_true
def Go.anC:=@List.of_mem_zip
def Go.anD:=@List.nil_append
def Go.anE:=@List.length_set
def Go.anF:=@or_false
def Go.anG:=@List.flatten_cons
def Go.anH:=@not_or
def Go.anI:=@Nat.beq_refl
def Go.anJ:=@List.getElem?_take_of_lt
def Go.anK:=@List.replicate_succ
def Go.anL:=@Nat.add_assoc
def Go.anM:=@List.find?_eq_some_iff_append
def Go.anN:=@Int.toNat_natCast
def Go.anO:=@Option.some.injEq
def Go.anP:=@Classical.not_not
def Go.anQ:=@List.getElem?_toArray
def Go.anR:=@List.getElem?_eq_none
def Go.anS:=@List.mem_append_right
def Go.anT:=@Int.ofNat_tmod
def Go.anU:=@List.mem_iff_getElem?
def Go.anV:=@List.getElem?_modify
def Go.anW:=@List.filter_cons
def Go.anX:=@List.getD_eq_getElem?_getD
def Go.anY:=@List.mergeSort_perm
def Go.anZ:=@Nat.min_eq_left
def Go.an0:=@Option.map_some
def Go.an1:=@List.rel_of_pairwise_cons
def Go.an2:=@List.getElem_append_right
def Go.an3:=@List.mem_or_eq_of_mem_set
def Go.an4:=@List.findIdx?_eq_none_iff
def Go.an5:=@Array.size_setIfInBounds
def Go.an6:=@Nat.add_zero
def Go.an7:=@List.append_of_mem
def Go.an8:=@Array.getElem?_replicate
def Go.an9:=@of_decide_eq_false
def Go.an':=@Bool.eq_false_iff
def Go.aoa:=@Nat.add_mul
def Go.aob:=@Array.getElem?_setIfInBounds_self
def Go.aoc:=@List.getElem_cons_succ
def Go.aod:=@List.drop_of_length_le
def Go.aoe:=@List.set_eq_take_append_cons_drop
def Go.aof:=@Prod.mk.injEq
def Go.aog:=@List.any_eq_true
def Go.aoh:=@Array.getElem?_append
def Go.aoi:=@List.dropLast_sublist
def Go.aoj:=@List.countP_le_length
def Go.aok:=@Array.getElem?_setIfInBounds_ne
def Go.aol:=@List.map_nil
def Go.aom:=@List.mem_of_mem_take
def Go.aon:=@List.mem_of_mem_drop
def Go.aoo:=@cond_false
def Go.aop:=@List.all_append
def Go.aoq:=@List.map_congr_left
def Go.aor:=@List.filter_sublist
def Go.aos:=@true_and
def Go.aot:=@List.mapM_cons
def Go.aou:=@List.set_cons_succ
def Go.aov:=@List.zip_cons_cons
def Go.aow:=@Nat.lt_or_eq_of_le
def Go.aox:=@List.getElem?_take
def Go.aoy:=@List.Nodup.sublist
def Go.aoz:=@cond_true
def Go.aoA:=@List.perm_ext_iff_of_nodup
def Go.aoB:=@List.ext_getElem?
def Go.aoC:=@List.any_eq_false
def Go.aoD:=@Nat.le_succ_of_le
def Go.aoE:=@Array.mapM_eq_mapM_toList
def Go.aoF:=@Nat.mul_comm
def Go.aoG:=@and_true
def Go.aoH:=@Nat.add_comm
def Go.aoI:=@List.mem_flatMap
def Go.aoJ:=@List.getElem_map
def Go.aoK:=@Nat.lt_succ_self
def Go.aoL:=@List.Sublist.map
def Go.aoM:=@List.getElem_append_left
def Go.aoN:=@List.perm_middle
def Go.aoO:=@Nat.min_eq_right
def Go.aoP:=@Nat.le_mul_of_pos_right
def Go.aoQ:=@Option.bind_eq_some_iff
def Go.aoR:=@List.pairwise_singleton
def Go.aoS:=@List.pairwise_mergeSort
def Go.aoT:=@Bool.eq_iff_iff
def Go.aoU:=@Array.getElem?_modify
def Go.aoV:=@Array.getElem?_toList
def Go.aoW:=@Bool.not_false
def Go.aoX:=@Ne.symm
def Go.aoY:=@Nat.ble_eq_true_of_le
def Go.aoZ:=@Bool.and_eq_false_iff
def Go.ao0:=@List.dropLast_eq_take
def Go.ao1:=@List.modify_succ_cons
def Go.ao2:=@List.countP_singleton
def Go.ao3:=@List.perm_append_comm
def Go.ao4:=@beq_iff_eq
def Go.ao5:=@List.any_cons
def Go.ao6:=@Bool.false_or
def Go.ao7:=@Bool.or_false
def Go.ao8:=@Int.le_trans
def Go.ao9:=@Nat.zero_mul
def Go.ao':=@List.any_nil
def Go.apa:=@Nat.sub_self
def Go.Ai{a b : Prop}(x : a)(y : b): a ∧ b := ⟨x, y⟩
def Go.Ei{α : Sort _}{p : α -> Prop}(w : α)(h : p w): ∃x, p x := ⟨w, h⟩
namespace Go.Sx
open Go
abbrev af:=Array Obj
def cell(h:af)(b o:Nat):Option Value:=
 match h[b]? with
 |some (.cells c _ _)=>c[o]?
 |_=>none
def fF(h:af)(b o:Nat)(vs:List Value):Prop:=∀i v,vs[i]? =some v->cell h b (o+i)=some v
def Src(h:af)(a:Option Addr)(n:Nat)(xs:List Value):Prop:=
 match a with
 |none=>n=0
 |some ⟨b,o,none⟩=>fF h b o xs
 |some ⟨_,_,some _⟩=>n=0
def yq(h:af)(a:Option Addr)(n:Nat)(xs:List Value):Prop:=
 match a with
 |none=>n=0
 |some ⟨b,o,none⟩=>fF h b o xs
 |_=>False
def ai(h:af)(b:Nat)(l:List Value):Prop:=∃e,h[b]? =some (.cells ⟨l⟩ e (0,0))
def cN(h:af)(b:Nat)(es:List MapEntry)(clock:Nat):Prop:=h[b]? =some (.map ⟨es⟩ clock)
structure ag (S:List Nat) (h h':af):Prop where
 size:h.size<=h'.size
 old:∀k,k<h.size->k∉S->h'[k]? =h[k]?
structure jr (h h':af) (b:Nat) (l:List Value):Prop where
 id:b=h.size
 blk:ai h' b l
 size:h'.size=h.size+1
 old:∀k,k<h.size->h'[k]? =h[k]?
structure sD (h h':af) (b:Nat) (o:Obj):Prop where
 id:b=h.size
 blk:h'[b]? =some o
 size:h'.size=h.size+1
 old:∀k,k<h.size->h'[k]? =h[k]?
def EJ(h:af)(b:Nat)(t:TypeId):Prop:=∃c k,h[b]? =some (.cells c t k)
structure dL (h h':af) (b:Nat) (l:List Value):Prop where
 blk:ai h' b l
 size:h'.size=h.size
 old:∀k,k≠b->h'[k]? =h[k]?
 ty:∀t,EJ h b t->EJ h' b t
structure kG (h h':af) (b:Nat) (o:Obj):Prop where
 blk:h'[b]? =some o
 size:h'.size=h.size
 old:∀k,k≠b->h'[k]? =h[k]?
def gP(h:af)(b:Nat)(l:List Value):Prop:=∃e k,h[b]? =some (.cells ⟨l⟩ e k)∧(k=(0,0)∨k=(l.length,l.length+1))
structure H' (h h':af) (b:Nat) (l:List Value):Prop where
 id:b=h.size
 blk:gP h' b l
 size:h'.size=h.size+1
 old:∀k,k<h.size->h'[k]? =h[k]?
structure Ig (h h':af) (b:Nat) (l:List Value):Prop where
 blk:gP h' b l
 size:h'.size=h.size
 old:∀k,k≠b->h'[k]? =h[k]?
 ty:∀t,EJ h b t->EJ h' b t
def splice:List Value->Nat->List Value->List Value
 |l,_,[]=>l
 |[],_,_::_=>[]
 |_::l,0,v::vs=>v::splice l 0 vs
 |x::l,n+1,v::vs=>x::splice l n (v::vs)
abbrev Env:=Nat->Option Value
def upd(σ:Env)(d:Option Nat)(v:Value):Env:=
 match d with
 |none=>σ
 |some d=>λt=>bif Nat.beq t d then some v else σ t
def ev(σ:Env):Operand->Option Value
 |.tmp t=>σ t
 |.const v=>some v
 |.global g=>some (.pointer (some ⟨g,0,none⟩))
 |.func f=>some (.func (.func f) #[] #[])
def fI(σ:Env):List Operand->Option (List Value)
 |[]=>some []
 |x::xs=>match ev σ x,fI σ xs with
  |some v,some vs=>some (v::vs)
  |_,_=>none
def Sub(E σ:Env):Prop:=∀t v,E t=some v->σ t=some v
inductive Kd where
 |int (k:IntKind)|str|bool
 deriving DecidableEq
def Kd.type:Kd->TypeDesc
 |.int k=>.int k
 |.str=>.string
 |.bool=>.bool
inductive dx where
 |mv (x:Operand)
 |pick (c a b:Operand)
 |new (z:List Value)
 |box (x:Operand)
 |build (z:List Value) (ps:List (Nat×Nat)) (xs:List Operand)
 |uB (z:List Value) (n:Nat) (ps:List (Nat×Nat)) (xs:List Operand)
 |ld1 (x:Operand)
 |ny (n:Nat) (x:Operand)
 |st (n:Nat) (x v:Operand)
 |Ah (x:Operand)
 |ar (op:BinOp) (x y:Operand)
 |bit (op:BinOp) (x y:Operand)
 |cmp (op:BinOp) (x y:Operand)
 |cat (x y:Operand)
 |eqn (kd:Nat) (neg:Bool) (x:Operand)
 |sL (neg:Bool) (ks:List Kd) (x y:Operand)
 |un (op:UnOp) (x:Operand)
 |fa (off:Nat) (x:Operand)
 |Dp (len size:Nat) (x i:Operand)
 |ixs (size:Nat) (x i:Operand)
 |zM (x i:Operand)
 |slc (size:Nat) (x:Operand) (lo hi:Option Operand)
 |xW (x:Operand) (lo hi:Option Operand)
 |len (x:Operand)
 |zV (x:Operand)
 |DD (bytes:Nat) (z:List Value) (x y:Operand)
 |vn
 |look (kd:Kd) (zero:Value) (ok:Bool) (m k:Operand)
 |fm (kd:Kd) (m k v:Operand)
 |Dy (kd:Kd) (m k:Operand)
 |call (f:Nat) (xs:List Operand)
 |aV (x:Operand) (xs:List Operand)
 |eR (f:Nat) (xs:List Operand)
 |sh (k:IntKind) (left:Bool) (n:Nat) (x:Operand)
 |uI (neg:Bool) (x y:Operand)
 |lens (x:Operand)
 |yE (x:Operand)
 |quo (x y:Operand)
 |rem (x y:Operand)
 |app (size bytes:Nat) (z:List Value) (x y:Operand)
 |ext (x:Operand) (i:Nat)
 |fn (f:Nat) (first cap:List Operand)
 |BQ (k:IntKind) (x:Operand)
 |mn (x y:Operand)
 |mx (x y:Operand)
 |DC (t:TypeId) (x:Operand)
 |BD (x:Operand)
 |vE (size:Nat) (x:Operand) (lo:Option Operand) (hi mx:Operand)
 |BO (size:Nat) (x y:Operand)
 |BI (z:List Value) (x:Operand)
 |Bh (size bytes:Nat) (z:List Value) (x y:Operand)
 |yG (f:Nat) (xs:List Operand)
 |uy (size bytes:Nat) (z:List Value) (y:Operand)
 |zN (n size:Nat) (x i:Operand)
 |vH (t:TypeId) (zero:Value) (ok:Bool) (x:Operand)
 |vu (x:Operand)
 |vZ (x:Operand)
 |HH (x v:Operand)
 |rng (x:Operand)
 |gD (x:Operand)
 |ent (x:Operand)
structure aD where
 dst:Option Nat
 guard:Option (Nat×Bool)
 op:dx
inductive lZ where
 |done
 |one (s:aD) (t:lZ)
 |both (a b:lZ)
 |IU (l:List aD) (t:lZ)
inductive akX where
 |skip
 |ops (l:List aD)
 |two (pre l1 l2:List aD)
 |seq (a b:akX)
 |cond (c:Operand) (a b:akX)
 |block (id:Nat) (c:akX)
 |loop (c:akX)
 |scope (c:akX)
 |exit (id:Nat)
 |ret
 |Aw (g:Operand) (ps:List Nat) (assign body:akX)
 |wq (l:List aD) (dst:Option Nat) (x:Operand) (args:List Operand)
 |rcv (dst:Option Nat)
 |tree (l:List Nat) (t:lZ)
 |label (l:Nat)
 |goto (l:Nat)
 |Hu (c:akX) (l:Nat) (rest:akX)
def arith(op:BinOp)(k:IntKind)(a b:Int):Int:=
 match op with
 |.add=>k.wrap (a+b)
 |.sub=>k.wrap (a-b)
 |_=>k.wrap (a*b)
def Bj(op:BinOp)(k:IntKind)(a b:Int):Int:=
 let x:=BitVec.ofInt k.bits a;let y:=BitVec.ofInt k.bits b
 match op with
 |.and=>k.wrap (x&&&y).toNat
 |.or=>k.wrap (x|||y).toNat
 |.xor=>k.wrap (x ^^^ y).toNat
 |_=>k.wrap (x&&& ~~~y).toNat
def SP(k:IntKind):Int:=if k.signed then -1 else k.max
def aP(a b:BA):Bool:=Op.bytesLess a.toList b.toList
def either(p:Prop)(K:Value->af->Prop)(h:af):Prop:=(p->K (.bool true) h)∧(¬p->K (.bool false) h)
def fits:Kd->Value->Bool
 |.int k,.int k' _=>decide (k=k')
 |.str,.string _=>true
 |.bool,.bool _=>true
 |_,_=>false
def rN:List Kd->List Value->Bool
 |[],[]=>true
 |k::ks,v::vs=>fits k v&&rN ks vs
 |_,_=>false
def yQ(z:List Value):List (Nat×Nat)->List Value->Option (List Value)
 |(off,n)::ps,v::vs=>
  if v.cells.toList.length=n∧off+n<=z.length then yQ (splice z off v.cells.toList) ps vs else none
 |[],[]=>some z
 |_,_=>none
def kQ:Nat->Value->Option Bool
 |0,.pointer a=>some a.isNone
 |1,.slice a _ _=>some a.isNone
 |2,.map a=>some a.isNone
 |3,.func _ _ _=>some false
 |3,.nilFunc=>some true
 |4,.nilIface=>some true
 |4,.iface _ _=>some false
 |_,_=>none
def ja(σ:Env)(x:Option Operand)(Ym:Nat):Option Int:=
 match x with
 |none=>some Ym
 |some x=>match ev σ x with
  |some (.int _ n)=>some n
  |_=>none
def om(P:Program)(f:Nat):Bool:=
 match P.funcs[f]? with
 |some fn=>fn.name != "runtime.NumGoroutine" &&fn.body.isSome
 |none=>false
def aj(P:Program)(f:Nat)(args:List Value)(h:af)(R:Ending->af->Prop):Prop:=
 om P f=true∧∀w:World,w.heap=h->Calls P f ⟨args⟩ w λe w'=>R e w'.heap∧e≠.outgrown∧w'.os=w.os∧w'.output=w.output∧w'.tape=w.tape
def sG(P:Program)(l:Nat)(args:List Value)(h:af)(R:Ending->af->Prop):Prop:=
 ∀w:World,w.heap=h->∃fn tmps assign body,(Instr.yield l ⟨args⟩).run P w=.ok (.round l fn tmps assign body) w∧
  RoundIn Fence.wide 0 P l fn tmps assign body w λe w'=>R e w'.heap∧e≠.outgrown∧w'.os=w.os∧w'.output=w.output∧w'.tape=w.tape
def Ext(h h':af):Prop:=∀k,k<h.size->h'[k]? =h[k]?
def after(K:Value->af->Prop)(Qp:List PanicEntry->af->Prop):Ending->af->Prop
 |.returned v,h=>K v h
 |.panicked ch,h=>Qp ch h
 |.outgrown,_=>False
def bH(k:Value):List MapEntry->Nat->Option (Nat×Value)
 |[],_=>none
 |e::es,i=>if Instr.sameBits 10000 k e.key then some (i,e.val)else bH k es (i+1)
def Ip(h:af)(K:Value->af->Prop)(size:Nat)(a:Option Addr)(n c m:Nat)(ys:List Value):Prop:=
 match a with
 |none=>K (.slice none (n+m) c) h
 |some ⟨b,o,none⟩=>∃l,ai h b l∧o+(n+m)*size<=l.length∧∀h',dL h h' b (splice l (o+n*size) ys)->K (.slice (some ⟨b,o,none⟩) (n+m) c) h'
 |_=>False
def ux(h:af)(K:Value->af->Prop)(size bytes:Nat)(z:List Value)(a:Option Addr)(n c:Nat)(a':Option Addr)(m:Nat):Prop:=
 ∃xs ys,xs.length=n*size∧ys.length=m*size∧Src h a n xs∧Src h a' m ys∧(∀u∈ys,u.oneCell'=true)∧
  (n+m<=c->Ip h K size a n c m ys)∧
  (c<n+m->((n+m)*2+768)*bytes<=281474976710656∧
   ∀c' b h',n+m<=c'->jr h h' b (xs++ys++(List.replicate (c'-(n+m)) z).flatten)->K (.slice (some ⟨b,0,none⟩) (n+m) c') h')
def vL(h:af)(K:af->Prop)(a:Option Addr)(ys:List Value):Prop:=
 (ys=[]->K h)∧(ys≠[]->match a with
  |some ⟨b,o,none⟩=>∃l,ai h b l∧o+ys.length<=l.length∧(∀u∈ys,u.oneCell'=true)∧∀h',dL h h' b (splice l o ys)->K h'
  |_=>False)
def W0(h:af)(K:Value->af->Prop)(size bytes:Nat)(z:List Value)(a:Option Addr)(n c m:Nat):Prop:=
 ∃xs,xs.length=n*size∧Src h a n xs∧c<n+m∧((n+m)*2+768)*bytes<=281474976710656∧
  ∀c' b h',n+m<=c'->jr h h' b (xs++(List.replicate m z).flatten++(List.replicate (c'-(n+m)) z).flatten)->K (.slice (some ⟨b,0,none⟩) (n+m) c') h'
def A3(P:Program)(f:Nat)(args:List Value)(h:af)(R:Value->af->Prop):Prop:=
 ∀w:World,w.heap=h->∃v w',(callFunc f ⟨args⟩).run P w=.ok (.value v) w'∧R v w'.heap∧w'.os=w.os∧w'.output=w.output∧w'.tape=w.tape
def ud(K:Value->af->Prop)(h:af)(size:Nat)(a:Option Addr)(c:Nat)(l m:Int):Prop:=
 match a with
 |none=>K (.slice none (m-l).toNat (c-l).toNat) h
 |some ⟨b,o,none⟩=>∀o',(l<c->o'=o+l.toNat*size)->(c=l->o'=o)->K (.slice (some ⟨b,o',none⟩) (m-l).toNat (c-l).toNat) h
 |some ⟨b,o,some s⟩=>l=0∧K (.slice (some ⟨b,o,some s⟩) (m-l).toNat (c-l).toNat) h
def byteCells(s:BA):List Value:=s.data.toList.map λb=>.int .u8 b.toNat
def ad7(h:af)(K:Value->af->Prop)(r:Nat):Prop:=
 (∃since seen last,h[r]? =some (.mapIter none since seen last)∧K (.tuple #[.bool false]) h)∨
 (∃(m since:Nat)(seen:Array Nat)(last:Nat)(es:List MapEntry)(clock:Nat),h[r]? =some (.mapIter (some m) since seen last)∧cN h m es clock∧(∀e∈es,e.born<since)∧(seen= #[]∨es=[]∨since<=last)∧
  ((∀e∈es,seen.contains e.born=true)->K (.tuple #[.bool false]) h)∧
  (∀e∈es,seen.contains e.born=false->∀h',kG h h' r (.mapIter (some m) since (seen.push e.born) clock)->K (.tuple #[.bool true,e.key,e.val]) h'))
def YT(h:af)(K:Value->af->Prop)(r:Nat):Prop:=
 ∃(m since:Nat)(seen:Array Nat)(last:Nat)(es:List MapEntry)(b:Nat)(e:MapEntry),h[r]? =some (.mapIter (some m) since seen last)∧cN h m es last∧seen.back? =some b∧
  es.find? (λe=>e.born==b)=some e∧K (.tuple #[e.key,e.val]) h
def aE(P:Program)(σ:Env)(h:af)(K:Value->af->Prop)(Qp:List PanicEntry->af->Prop):dx->Prop
 |.mv x=>match ev σ x with
  |some v=>K v h
  |none=>False
 |.pick c a b=>match ev σ c,ev σ a,ev σ b with
  |some (.bool t),some x,some y=>K (bif t then x else y) h
  |_,_,_=>False
 |.new z=>∀b h',jr h h' b z->K (.pointer (some ⟨b,0,none⟩)) h'
 |.box x=>match ev σ x with
  |some v=>∀b h',jr h h' b v.cells.toList->K (.pointer (some ⟨b,0,none⟩)) h'
  |none=>False
 |.build z ps xs=>match fI σ xs with
  |some vs=>match yQ z ps vs with
   |some l=>K (.agg ⟨l⟩) h
   |none=>False
  |none=>False
 |.uB z n ps xs=>match fI σ xs with
  |some vs=>match yQ z ps vs with
   |some l=>∀b h',jr h h' b l->K (.slice (some ⟨b,0,none⟩) n n) h'
   |none=>False
  |none=>False
 |.ld1 x=>match ev σ x with
  |some (.pointer (some ⟨b,o,none⟩))=>∃v,cell h b o=some v∧K v h
  |_=>False
 |.ny n x=>match ev σ x with
  |some (.pointer (some ⟨b,o,none⟩))=>∃vs,vs.length=n∧fF h b o vs∧K (.agg ⟨vs⟩) h
  |_=>False
 |.st n x v=>match ev σ x,ev σ v with
  |some (.pointer (some ⟨b,o,none⟩)),some v=>
   ∃l,ai h b l∧o+n<=l.length∧v.cells.toList.length=n∧(∀u∈v.cells.toList,u.oneCell'=true)∧∀h',dL h h' b (splice l o v.cells.toList)->K undef h'
  |_,_=>False
 |.Ah x=>match ev σ x with
  |some (.pointer (some a))=>K (.pointer (some a)) h
  |some (.func (.func f) fi c)=>K (.func (.func f) fi c) h
  |some (.func (.yield f) fi c)=>K (.func (.yield f) fi c) h
  |_=>False
 |.ar op x y=>match ev σ x,ev σ y with
  |some (.int k a),some (.int k' b)=>k=k'∧∀z,z=arith op k a b->K (.int k z) h
  |_,_=>False
 |.bit op x y=>match ev σ x,ev σ y with
  |some (.int k a),some (.int k' b)=>k=k'∧∀z,z=Bj op k a b->K (.int k z) h
  |_,_=>False
 |.cmp op x y=>match op,ev σ x,ev σ y with
  |.eql,some (.int k a),some (.int k' b)=>k=k'∧either (a=b) K h
  |.neq,some (.int k a),some (.int k' b)=>k=k'∧either (a≠b) K h
  |.lss,some (.int k a),some (.int k' b)=>k=k'∧either (a<b) K h
  |.leq,some (.int k a),some (.int k' b)=>k=k'∧either (a<=b) K h
  |.gtr,some (.int k a),some (.int k' b)=>k=k'∧either (b<a) K h
  |.geq,some (.int k a),some (.int k' b)=>k=k'∧either (b<=a) K h
  |.eql,some (.string a),some (.string b)=>either (a=b) K h
  |.neq,some (.string a),some (.string b)=>either (a≠b) K h
  |.lss,some (.string a),some (.string b)=>either (aP a b=true) K h
  |.leq,some (.string a),some (.string b)=>either (aP a b=true∨a=b) K h
  |.gtr,some (.string a),some (.string b)=>either (¬(aP a b=true∨a=b)) K h
  |.geq,some (.string a),some (.string b)=>either (¬aP a b=true) K h
  |_,_,_=>False
 |.uI neg x y=>match ev σ x,ev σ y with
  |some (.bool a),some (.bool b)=>(a=b->K (.bool (!neg)) h)∧(a≠b->K (.bool neg) h)
  |_,_=>False
 |.cat x y=>match ev σ x,ev σ y with
  |some (.string a),some (.string b)=>a.size+b.size<9223372036854775808∧K (.string (a++b)) h
  |_,_=>False
 |.eqn kd neg x=>match ev σ x with
  |some v=>match kQ kd v with
   |some r=>K (.bool (bif r then !neg else neg)) h
   |none=>False
  |none=>False
 |.sL neg ks x y=>match ev σ x,ev σ y with
  |some (.agg a),some (.agg b)=>rN ks a.toList=true∧rN ks b.toList=true∧
   (a.toList=b.toList->K (.bool (!neg)) h)∧(a.toList≠b.toList->K (.bool neg) h)
  |_,_=>False
 |.un op x=>match op,ev σ x with
  |.not,some (.bool t)=>K (.bool (!t)) h
  |.neg,some (.int k a)=>∀z,z=k.wrap (0-a)->K (.int k z) h
  |.xor,some (.int k a)=>∀z,z=Bj .xor k (SP k) a->K (.int k z) h
  |_,_=>False
 |.fa off x=>match ev σ x with
  |some (.pointer (some ⟨b,o,none⟩))=>K (.pointer (some ⟨b,o+off,none⟩)) h
  |_=>False
 |.Dp len size x i=>match ev σ x,ev σ i with
  |some (.pointer (some ⟨b,o,none⟩)),some (.int _ i)=>0<=i∧i<len∧K (.pointer (some ⟨b,o+i.toNat*size,none⟩)) h
  |_,_=>False
 |.ixs size x i=>match ev σ x,ev σ i with
  |some (.slice (some ⟨b,o,none⟩) n _),some (.int _ i)=>0<=i∧i<n∧K (.pointer (some ⟨b,o+i.toNat*size,none⟩)) h
  |_,_=>False
 |.zM x i=>match ev σ x,ev σ i with
  |some (.string s),some (.int _ i)=>∃c,0<=i∧s[i.toNat]? =some c∧K (.int .u8 c.toNat) h
  |_,_=>False
 |.slc size x lo hi=>match ev σ x with
  |some (.slice a n c)=>match ja σ lo 0,ja σ hi n with
   |some l,some m=>0<=l∧l<=m∧m<=c∧ud K h size a c l m
   |_,_=>False
  |_=>False
 |.xW x lo hi=>match ev σ x with
  |some (.string s)=>match ja σ lo 0,ja σ hi s.size with
   |some l,some m=>0<=l∧l<=m∧m<=s.size∧K (.string (s.extract l.toNat m.toNat)) h
   |_,_=>False
  |_=>False
 |.len x=>match ev σ x with
  |some (.slice _ n _)=>K (.int .i64 n) h
  |_=>False
 |.yE x=>match ev σ x with
  |some (.slice a n _)=>∃bs:List UInt8,bs.length=n∧yq h a n (bs.map λb=>.int .u8 b.toNat)∧K (.string ⟨⟨bs⟩⟩) h
  |_=>False
 |.lens x=>match ev σ x with
  |some (.string s)=>K (.int .i64 s.size) h
  |_=>False
 |.zV x=>match ev σ x with
  |some (.map none)=>K (.int .i64 0) h
  |some (.map (some r))=>∃es c,cN h r es c∧K (.int .i64 es.length) h
  |_=>False
 |.DD bytes z x y=>match ev σ x,ev σ y with
  |some (.int .i64 n),some (.int .i64 c)=>0<=n∧n<=c∧bytes*c<=281474976710656∧c<9223372036854775808∧
   ∀b h',jr h h' b ((List.replicate c.toNat z).flatten)->K (.slice (some ⟨b,0,none⟩) n.toNat c.toNat) h'
  |_,_=>False
 |.vn=>∀b h',sD h h' b (.map #[] 0)->K (.map (some b)) h'
 |.look kd zero ok m k=>match ev σ m,ev σ k with
  |some (.map none),some k=>fits kd k=true∧K (if ok then .tuple #[zero,.bool false]else zero) h
  |some (.map (some r)),some k=>fits kd k=true∧∃es c,cN h r es c∧(∀e∈es,fits kd e.key=true)∧
   match bH k es 0 with
   |some (_,v)=>K (if ok then .tuple #[v,.bool true]else v) h
   |none=>K (if ok then .tuple #[zero,.bool false]else zero) h
  |_,_=>False
 |.fm kd m k v=>match ev σ m,ev σ k,ev σ v with
  |some (.map (some r)),some k,some v=>fits kd k=true∧∃es c,cN h r es c∧(∀e∈es,fits kd e.key=true)∧
   match bH k es 0 with
   |some (i,_)=>∀h',kG h h' r (.map ⟨es.modify i λe=>{e with val:=v}⟩ c)->K undef h'
   |none=>∀h',kG h h' r (.map ⟨es++[{key:=k,val:=v,born:=c}]⟩ (c+1))->K undef h'
  |_,_,_=>False
 |.Dy kd m k=>match ev σ m,ev σ k with
  |some (.map none),some k=>fits kd k=true∧K (.tuple #[]) h
  |some (.map (some r)),some k=>fits kd k=true∧∃es c,cN h r es c∧(∀e∈es,fits kd e.key=true)∧
   match bH k es 0 with
   |some (i,_)=>∀h',kG h h' r (.map ⟨es.eraseIdx i⟩ c)->K (.tuple #[]) h'
   |none=>∀h',kG h h' r (.map ⟨es⟩ c)->K (.tuple #[]) h'
  |_,_=>False
 |.call f xs=>match fI σ xs with
  |some vs=>aj P f vs h (after K Qp)
  |none=>False
 |.aV x xs=>match ev σ x,fI σ xs with
  |some (.func (.func f) fi cap),some vs=>aj P f (fi.toList++vs++cap.toList) h (after K Qp)
  |some (.func (.yield l) fi _),some vs=>sG P l (fi.toList++vs) h (after K Qp)
  |_,_=>False
 |.eR f xs=>match fI σ xs with
  |some vs=>aj P f vs h λe h'=>Ext h h'∧after K Qp e h'
  |none=>False
 |.sh k left n x=>match ev σ x with
  |some (.int k' a)=>k'=k∧∀z,z=(bif left then k.wrap (a*2 ^ n)else a.fdiv (2 ^ n))->K (.int k z) h
  |_=>False
 |.quo x y=>match ev σ x,ev σ y with
  |some (.int k a),some (.int k' b)=>k=k'∧b≠0∧∀z,z=k.wrap (a.tdiv b)->K (.int k z) h
  |_,_=>False
 |.rem x y=>match ev σ x,ev σ y with
  |some (.int k a),some (.int k' b)=>k=k'∧b≠0∧∀z,z=a.tmod b->K (.int k z) h
  |_,_=>False
 |.app size bytes z x y=>match ev σ x,ev σ y with
  |some (.slice a n c),some (.slice a' m _)=>ux h K size bytes z a n c a' m
  |_,_=>False
 |.ext x i=>match ev σ x with
  |some (.tuple vs)=>match vs.toList[i]? with
   |some v=>K v h
   |none=>False
  |_=>False
 |.fn f first cap=>match fI σ first,fI σ cap with
  |some a,some c=>K (.func (.func f) ⟨a⟩ ⟨c⟩) h
  |_,_=>False
 |.BQ k x=>match ev σ x with
  |some (.int _ a)=>∀z,z=k.wrap a->K (.int k z) h
  |_=>False
 |.mn x y=>match ev σ x,ev σ y with
  |some (.int k a),some (.int k' b)=>k=k'∧K (.int k (min a b)) h
  |_,_=>False
 |.mx x y=>match ev σ x,ev σ y with
  |some (.int k a),some (.int k' b)=>k=k'∧K (.int k (max a b)) h
  |_,_=>False
 |.DC t x=>match ev σ x with
  |some v=>K (.iface t v) h
  |none=>False
 |.BD x=>match ev σ x with
  |some (.slice _ _ c)=>K (.int .i64 c) h
  |_=>False
 |.vE size x lo hi mx=>match ev σ x with
  |some (.slice a _ c)=>match ja σ lo 0,ja σ (some hi) 0,ja σ (some mx) 0 with
   |some l,some m,some k=>0<=l∧l<=m∧m<=k∧k<=c∧ud K h size a k.toNat l m
   |_,_,_=>False
  |_=>False
 |.BO size x y=>match ev σ x,ev σ y with
  |some (.slice a n _),some (.slice a' m _)=>∃ys,ys.length=min m n*size∧Src h a' (min m n) ys∧vL h (K (.int .i64 (min m n:Nat))) a ys
  |_,_=>False
 |.BI z x=>match ev σ x with
  |some (.slice a n _)=>vL h (K (.tuple #[])) a (List.replicate n z).flatten
  |_=>False
 |.Bh size bytes z x y=>match ev σ x,ev σ y with
  |some (.slice a n c),some (.int .i64 k)=>0<=k∧k<9223372036854775808∧W0 h K size bytes z a n c k.toNat
  |_,_=>False
 |.yG f xs=>match fI σ xs with
  |some vs=>A3 P f vs h K
  |none=>False
 |.uy size bytes z y=>match ev σ y with
  |some (.slice a' m _)=>ux h K size bytes z none 0 0 a' m
  |_=>False
 |.zN n size x i=>match ev σ x,ev σ i with
  |some (.agg cs),some (.int _ i)=>∃v,0<=i∧i<n∧cs.toList[i.toNat*size]? =some v∧K v h
  |_,_=>False
 |.vH t zero ok x=>match ev σ x with
  |some .nilIface=>ok=true∧K (.tuple #[zero,.bool false]) h
  |some (.iface u v)=>(u=t->K (bif ok then .tuple #[v,.bool true]else v) h)∧(u≠t->ok=true∧K (.tuple #[zero,.bool false]) h)
  |_=>False
 |.vu x=>match ev σ x with
  |some (.iface t v)=>Qp [{v:=.iface t v,recovered:=false}] h
  |_=>False
 |.vZ x=>match ev σ x with
  |some (.string s)=>∀c b h',s.size<=c->H' h h' b (byteCells s++List.replicate (c-s.size) (.int .u8 0))->K (.slice (some ⟨b,0,none⟩) s.size c) h'
  |_=>False
 |.HH x v=>match ev σ x,ev σ v with
  |some (.pointer (some ⟨b,o,none⟩)),some v=>∃l,gP h b l∧o+1<=l.length∧v.cells.toList.length=1∧(∀u∈v.cells.toList,u.oneCell'=true)∧∀h',Ig h h' b (splice l o v.cells.toList)->K undef h'
  |_,_=>False
 |.rng x=>match ev σ x with
  |some (.map none)=>∀b h',sD h h' b (.mapIter none 0 #[] 0)->K (.pointer (some ⟨b,0,none⟩)) h'
  |some (.map (some r))=>∃es c,cN h r es c∧∀b h',sD h h' b (.mapIter (some r) c #[] c)->K (.pointer (some ⟨b,0,none⟩)) h'
  |_=>False
 |.gD x=>match ev σ x with
  |some (.pointer (some ⟨r,0,none⟩))=>ad7 h K r
  |_=>False
 |.ent x=>match ev σ x with
  |some (.pointer (some ⟨r,0,none⟩))=>YT h K r
  |_=>False
def MR:Value->Bool->Bool
 |.bool true,true=>true
 |.bool false,false=>true
 |_,_=>false
def cW(P:Program)(σ:Env)(h:af)(o:aD)(K:Env->af->Prop)(Qp:List PanicEntry->af->Prop):Prop:=
 match o.guard with
 |none=>aE P σ h (λv h'=>K (upd σ o.dst v) h') Qp o.op
 |some (g,want)=>match σ g with
  |some t=>match MR t want with
   |true=>aE P σ h (λv h'=>K (upd σ o.dst v) h') Qp o.op
   |false=>K (upd σ o.dst undef) h
  |none=>False
def cD(P:Program)(Qp:List PanicEntry->af->Prop)(K:Env->af->Prop):List aD->Env->af->Prop
 |[],σ,h=>K σ h
 |o::l,σ,h=>cW P σ h o (cD P Qp K l) Qp
def eW(P:Program)(t:TypeId):Option Nat:=(P.info? t).map (·.size)
def zeroOf(P:Program)(t:TypeId):Option Value:=(P.info? t).bind (·.zero)
def pE(P:Program)(t:TypeId):Option Bool:=
 match P.underlying t with
 |some (.struct _)|some (.array _ _)=>some true
 |some _=>some false
 |none=>none
def iE(P:Program)(t:TypeId):Option Kd:=
 match P.underlying t with
 |some (.int k)=>some (.int k)
 |some .string=>some .str
 |some .bool=>some .bool
 |_=>none
def isNil(kd:Nat):Operand->Bool
 |.const (.pointer none)=>Nat.beq kd 0
 |.const (.slice none _ _)=>Nat.beq kd 1
 |.const (.map none)=>Nat.beq kd 2
 |.const .nilFunc=>Nat.beq kd 3
 |.const .nilIface=>Nat.beq kd 4
 |_=>false
def oF(kd:Nat)(neg:Bool)(x y:Operand):Option dx:=
 if isNil kd y then some (.eqn kd neg x)else if isNil kd x then some (.eqn kd neg y)else none
def wz(P:Program):List Field->Option (List (Nat×Nat))
 |[]=>some []
 |f::r=>match eW P f.type,wz P r with
  |some n,some ps=>some ((f.offset,n)::ps)
  |_,_=>none
def placesOf(qs:List (Nat×Nat)):List (Nat×Operand)->Option (List (Nat×Nat))
 |[]=>some []
 |(i,_)::r=>match qs[i]?,placesOf qs r with
  |some p,some ps=>some (p::ps)
  |_,_=>none
def vw(size:Nat):List (Nat×Operand)->List (Nat×Nat)
 |[]=>[]
 |(i,_)::r=>(i*size,size)::vw size r
def xu(P:Program):Nat->List Field->Option (List Kd)
 |_,[]=>some []
 |n,f::fs=>if f.name= "_" ∨f.offset≠n then none else
  match iE P f.type,xu P (n+1) fs with
  |some k,some ks=>some (k::ks)
  |_,_=>none
def pw(P:Program)(e:TypeId)(size:Nat):Option (List Value):=
 match zeroOf P e with
 |some z=>if z.cells.toList.length=size then some z.cells.toList else none
 |none=>none
def I1(P:Program)(op:BinOp)(t:TypeId)(x y:Operand):Option dx:=
 match op with
 |.add=>match iE P t with
  |some (.int _)=>some (.ar op x y)
  |some .str=>some (.cat x y)
  |_=>none
 |.sub|.mul=>match iE P t with
  |some (.int _)=>some (.ar op x y)
  |_=>none
 |.and|.or|.xor|.andNot=>match iE P t with
  |some (.int _)=>some (.bit op x y)
  |_=>none
 |.eql|.neq=>
  let neg:Bool:=match op with|.neq=>true|_=>false
  match iE P t with
  |some .bool=>some (.uI neg x y)
  |some _=>some (.cmp op x y)
  |none=>match P.underlying t with
   |some (.pointer _)=>oF 0 neg x y
   |some (.slice _)=>oF 1 neg x y
   |some (.map _ _)=>oF 2 neg x y
   |some (.func _ _ _)=>oF 3 neg x y
   |some (.interface _)=>oF 4 neg x y
   |some (.struct fs)=>if P.stoodInHeld t=false∧P.eqGuardType P.depth t=false then(xu P 0 fs.toList).map λks=>.sL neg ks x y else none
   |_=>none
 |.shl|.shr=>match iE P t,y with
  |some (.int k),.const (.int _ n)=>if 0<=n∧n.toNat<=k.bits then some (.sh k (match op with|.shl=>true|_=>false) n.toNat x)else none
  |_,_=>none
 |.quo=>match iE P t with
  |some (.int _)=>some (.quo x y)
  |_=>none
 |.rem=>match iE P t with
  |some (.int _)=>some (.rem x y)
  |_=>none
 |.lss|.leq|.gtr|.geq=>match iE P t with
  |some (.int _)=>some (.cmp op x y)
  |some .str=>some (.cmp op x y)
  |_=>none
def I2(P:Program)(c:Call):Option dx:=
 match c.callee with
 |.value (.func f)=>match P.funcs[f]? with
  |some fn=>match fn.body with
   |some _=>some (.call f c.args.toList)
   |none=>some (.yG f c.args.toList)
  |none=>none
 |.value x=>some (.aV x c.args.toList)
 |.invoke _ _=>none
 |.builtin .len=>match c.args.toList,c.argTypes.toList with
  |[x],[t]=>match P.underlying t with
   |some .string=>some (.lens x)
   |some (.slice _)=>some (.len x)
   |some (.map _ _)=>some (.zV x)
   |_=>none
  |_,_=>none
 |.builtin .append=>match c.args.toList,c.argTypes.toList with
  |[x,y],[t,u]=>match P.underlying t,P.underlying u with
   |some (.slice e),some (.slice _)=>match P.info? e with
    |some i=>if 1<=i.bytes then(pw P e i.size).map λz=>(match x with|.const (.slice none 0 0)=>.uy i.size i.bytes z y|_=>.app i.size i.bytes z x y)else none
    |none=>none
   |some (.slice e),some (.int _)=>match P.info? e with
    |some i=>if 1<=i.bytes then(pw P e i.size).map λz=>.Bh i.size i.bytes z x y else none
    |none=>none
   |_,_=>none
  |_,_=>none
 |.builtin .cap=>match c.args.toList,c.argTypes.toList with
  |[x],[t]=>match P.underlying t with
   |some (.slice _)=>some (.BD x)
   |_=>none
  |_,_=>none
 |.builtin .copy=>match c.args.toList,c.argTypes.toList with
  |[x,y],[t,u]=>match P.underlying t,P.underlying u with
   |some (.slice e),some (.slice _)=>(eW P e).map λn=>.BO n x y
   |_,_=>none
  |_,_=>none
 |.builtin .clear=>match c.args.toList,c.argTypes.toList with
  |[x],[t]=>match P.underlying t with
   |some (.slice e)=>match P.info? e with
    |some i=>(pw P e i.size).map λz=>.BI z x
    |none=>none
   |_=>none
  |_,_=>none
 |.builtin .delete=>match c.args.toList,c.argTypes.toList with
  |[x,y],[t,_]=>match P.underlying t with
   |some (.map k _)=>(iE P k).map λkd=>.Dy kd x y
   |_=>none
  |_,_=>none
 |.builtin .min=>match c.args.toList,c.argTypes.toList with
  |[x,y],[t,_]=>match iE P t with
   |some (.int _)=>some (.mn x y)
   |_=>none
  |_,_=>none
 |.builtin .max=>match c.args.toList,c.argTypes.toList with
  |[x,y],[t,_]=>match iE P t with
   |some (.int _)=>some (.mx x y)
   |_=>none
  |_,_=>none
 |_=>none
def SG:Option Operand->Bool
 |none=>true
 |some (.const (.int _ _))=>true
 |_=>false
def Fo(P:Program)(o:Oper):Option dx:=
 match o.op with
 |.move x|.assign x=>some (.mv x)
 |.pick c a b=>some (.pick c a b)
 |.alloc t=>(zeroOf P t).map λz=>.new z.cells.toList
 |.box _ x=>some (.box x)
 |.build t parts=>match zeroOf P t,P.underlying t with
  |some z,some (.struct fs)=>match wz P fs.toList with
   |some qs=>(placesOf qs parts.toList).map λps=>.build z.cells.toList ps (parts.toList.map (·.2))
   |none=>none
  |some z,some (.array _ e)=>(eW P e).map λn=>.build z.cells.toList (vw n parts.toList) (parts.toList.map (·.2))
  |_,_=>none
 |.buildSlice t n parts=>match P.underlying t with
  |some (.slice e)=>match eW P e with
   |some s=>if n*s<=65536 then(pw P e s).map λz=>.uB ((List.replicate n z).flatten) n (vw s parts.toList) (parts.toList.map (·.2))else none
   |none=>none
  |_=>none
 |.load t x=>match pE P t,eW P t with
  |some true,some n=>some (.ny n x)
  |some false,some _=>some (.ld1 x)
  |_,_=>none
 |.store t x v=>match P.underlying t with
  |some (.int .u8)=>match eW P t with
   |some 1=>some (.HH x v)
   |_=>none
  |_=>(eW P t).map λn=>.st n x v
 |.nilCheck x=>some (.Ah x)
 |.binOp op t x y _=>I1 P op t x y
 |.unOp op _ x=>match op with
  |.not|.neg|.xor=>some (.un op x)
  |_=>none
 |.convert s d x=>match P.underlying s,P.underlying d with
  |some (.int _),some (.int k)=>some (.BQ k x)
  |some (.slice e),some .string=>match P.underlying e with
   |some (.int .u8)=>some (.yE x)
   |_=>none
  |some .string,some (.slice e)=>match P.underlying e with
   |some (.int .u8)=>some (.vZ x)
   |_=>none
  |_,_=>none
 |.makeInterface t x=>match P.underlying t with
  |some (.interface _)=>none
  |some _=>some (.DC t x)
  |none=>none
 |.makeFunc (.func f) first cap=>some (.fn f first.toList cap.toList)
 |.makeMap t r=>if SG r=true then match P.underlying t with
   |some (.map _ _)=>some .vn
   |_=>none
  else none
 |.makeSlice t x y=>match P.underlying t with
  |some (.slice e)=>match P.info? e with
   |some i=>(pw P e i.size).map λz=>.DD i.bytes z x y
   |none=>none
  |_=>none
 |.slice t x lo hi none=>match P.underlying t with
  |some .string=>some (.xW x lo hi)
  |some (.slice e)=>(eW P e).map λn=>.slc n x lo hi
  |_=>none
 |.slice t x lo (some hi) (some mx)=>match P.underlying t with
  |some (.slice e)=>(eW P e).map λn=>.vE n x lo hi mx
  |_=>none
 |.fieldAddr t x f=>match P.underlying t with
  |some (.struct fs)=>match fs[f]? with
   |some fl=>match eW P fl.type with
    |some (_+1)=>some (.fa fl.offset x)
    |_=>none
   |none=>none
  |_=>none
 |.indexAddr t x i=>match P.underlying t with
  |some (.array n e)=>(eW P e).map λs=>.Dp n s x i
  |some (.slice e)=>(eW P e).map λs=>.ixs s x i
  |_=>none
 |.index t x i=>match P.underlying t with
  |some .string=>some (.zM x i)
  |some (.array n e)=>match pE P e,eW P e with
   |some false,some s=>some (.zN n s x i)
   |_,_=>none
  |_=>none
 |.lookup t m k ok=>match P.underlying t with
  |some (.map kt et)=>match iE P kt,zeroOf P et with
   |some kd,some z=>some (.look kd z ok m k)
   |_,_=>none
  |_=>none
 |.mapUpdate t m k v|.insert t m k v=>match P.underlying t with
  |some (.map kt _)=>(iE P kt).map λkd=>.fm kd m k v
  |_=>none
 |.extract x i=>some (.ext x i)
 |.call c=>I2 P c
 |.panic x=>some (.vu x)
 |.range t x=>match P.underlying t with
  |some (.map _ _)=>some (.rng x)
  |_=>none
 |.next x false=>some (.gD x)
 |.entry x=>some (.ent x)
 |.typeAssert x _ t ok=>match P.underlying t,zeroOf P t with
  |some (.interface _),_=>none
  |some _,some z=>some (.vH t z ok x)
  |_,_=>none
 |_=>none
def alV(P:Program)(ops:Array Oper)(nt:Nat)(o:Oper):Option aD:=
 match Fo P o with
 |none=>none
 |some s=>
  match(match o.dst with|some d=>Nat.ble (d+1) nt|none=>true)with
  |false=>none
  |true=>
   match o.guard with
   |none=>some ⟨o.dst,none,s⟩
   |some (j,want)=>match(ops[j]?).bind (·.dst)with
    |some g=>if g<nt then some ⟨o.dst,some (g,want),s⟩else none
    |none=>none
def cls:dx->Nat
 |.mv _|.pick .. |.build .. |.Ah _|.ar .. |.bit .. |.cmp .. |.cat .. |.eqn .. |.sL .. |.un .. |.fa .. |.Dp .. |.ixs .. |.zM .. |.slc .. |.xW .. |.len _|.ext .. |.fn .. |.BQ .. |.mn .. |.mx .. |.DC .. |.sh .. |.quo .. |.rem .. |.lens _|.uI .. |.BD _|.vE .. |.zN .. |.vH .. =>0
 |.ld1 _|.ny .. |.zV _|.look .. |.yE _|.ent _=>1
 |.new _|.box _|.uB .. |.DD .. |.vn|.eR .. |.uy .. |.vZ _|.rng _=>2
 |_=>3
def opt:Option Operand->List Operand
 |none=>[]
 |some x=>[x]
def dx.reads:dx->List Operand
 |.mv x|.box x|.ld1 x|.ny _ x|.Ah x|.eqn _ _ x|.un _ x|.fa _ x|.len x|.zV x|.ext x _|.BQ _ x|.DC _ x|.sh _ _ _ x|.lens x|.yE x|.BD x|.BI _ x|.uy _ _ _ x|.vH _ _ _ x|.vu x|.vZ x|.rng x|.gD x|.ent x=>[x]
 |.pick c a b=>[c,a,b]
 |.new _|.vn=>[]
 |.build _ _ xs|.uB _ _ _ xs|.call _ xs|.eR _ xs|.yG _ xs=>xs
 |.st _ x v|.ar _ x v|.bit _ x v|.cmp _ x v|.cat x v|.sL _ _ x v|.Dp _ _ x v|.ixs _ x v|.zM x v|.DD _ _ x v|.look _ _ _ x v|.Dy _ x v|.app _ _ _ x v|.mn x v|.mx x v|.quo x v|.rem x v|.uI _ x v|.BO _ x v|.Bh _ _ _ x v|.zN _ _ x v|.HH x v=>[x,v]
 |.slc _ x lo hi|.xW x lo hi=>x::(opt lo++opt hi)
 |.vE _ x lo hi tp=>x::(opt lo++[hi,tp])
 |.fm _ m k v=>[m,k,v]
 |.aV x xs=>x::xs
 |.fn _ a c=>a++c
def slotsOf:List Operand->List Nat
 |[]=>[]
 |.tmp t::r=>t::slotsOf r
 |_::r=>slotsOf r
def aD.slots(o:aD):List Nat:=
 match o.guard with
 |none=>slotsOf o.op.reads
 |some (g,_)=>g::slotsOf o.op.reads
def dz(n:Nat):List Nat->Bool
 |[]=>false
 |m::r=>bif Nat.beq n m then true else dz n r
def loose(x y:aD):Bool:=
 (match x.dst with
  |some d=>!dz d y.slots&&(match y.dst with|some e=>!Nat.beq d e|none=>true)
  |none=>true)&&
 (match y.dst with
  |some e=>!dz e x.slots
  |none=>true)&&
 (match cls x.op with
  |0=>true
  |1=>Nat.ble (cls y.op) 2
  |_=>false)
def lg(ops:Array Oper)(i:Nat):List Nat:=
 match ops[i]? with
 |some o=>(o.after.toList.filter (Region.binds .any)).map (·.on)
 |none=>[]
def gS(ops:Array Oper):List (List Nat):=(List.range ops.size).map (lg ops)
def closure(as:List (List Nat)):Nat->List Nat->List Nat->List Nat
 |0,_,acc=>acc
 |_,[],acc=>acc
 |n+1,x::r,acc=>if dz x acc then closure as n r acc else closure as n (as.getD x []++r) (x::acc)
def Hc(n:Nat):List Nat->List Nat
 |[]=>[]
 |m::r=>bif Nat.beq n m then r else m::Hc n r
def S7(ss:List aD)(as:List (List Nat))(done:List Nat):List Nat->Option Nat
 |[]=>none
 |i::r=>if(as.getD i []).all (λj=>dz j done)&&(match ss[i]? with|some s=>Nat.ble (cls s.op) 1|none=>false)then some i else S7 ss as done r
def S6(as:List (List Nat))(done:List Nat):List Nat->Option Nat
 |[]=>none
 |i::r=>if(as.getD i []).all (λj=>dz j done)then some i else S6 as done r
def order(ss:List aD)(as:List (List Nat)):Nat->List Nat->List Nat->List Nat
 |0,_,_=>[]
 |n+1,done,left=>
  match(match S7 ss as done left with|some i=>some i|none=>S6 as done left)with
  |some i=>i::order ss as n (i::done) (Hc i left)
  |none=>[]
def FJ(ss:List aD)(cl:List (List Nat))(x:Nat):List Nat->Bool
 |[]=>true
 |y::r=>(dz x (cl.getD y [])||(match ss[x]?,ss[y]? with|some a,some b=>loose a b|_,_=>false))&&FJ ss cl x r
def FI(ss:List aD)(cl:List (List Nat)):List Nat->Bool
 |[]=>true
 |x::r=>FJ ss cl x r&&FI ss cl r
def Eh(as:List (List Nat)):List Nat->List Nat->Bool
 |_,[]=>true
 |done,x::r=>(as.getD x []).all (λk=>dz k done)&&Eh as (x::done) r
def DH:List Nat->Bool
 |[]=>true
 |x::r=>!dz x r&&DH r
def j6(ss:List aD):List Nat->Option (List aD)
 |[]=>some []
 |i::r=>match ss[i]?,j6 ss r with
  |some s,some l=>some (s::l)
  |_,_=>none
def rK(P:Program)(ops:Array Oper)(nt:Nat):List Oper->Option (List aD)
 |[]=>some []
 |o::r=>match alV P ops nt o,rK P ops nt r with
  |some s,some l=>some (s::l)
  |_,_=>none
def mO(s:aD):aD:=
 match s.op with
 |.call f xs=>{s with op:=.eR f xs}
 |_=>s
def ordered(ss:List aD)(as:List (List Nat))(n:Nat):Option (List aD):=
 let cl:=(List.range n).map λi=>closure as (n*n+n) (as.getD i []) [];let l:=order ss as n [] (List.range n)
 if l.length=n∧DH l=true∧l.all (λi=>Nat.ble (i+1) n)=true∧FI ss cl l=true∧Eh as [] l=true then j6 ss l else none
def FL(ss:List aD)(cl:List (List Nat))(a b x:Nat):List Nat->Bool
 |[]=>true
 |y::r=>(dz x (cl.getD y [])||(match ss[x]?,ss[y]? with|some s,some t=>loose s t|_,_=>false)||(Nat.beq x a&&(Nat.beq y b||dz b (cl.getD y []))))&&FL ss cl a b x r
def FK(ss:List aD)(cl:List (List Nat))(a b:Nat):List Nat->Bool
 |[]=>true
 |x::r=>FL ss cl a b x r&&FK ss cl a b r
def JG(ss:List aD)(cl:List (List Nat))(x:Nat):List Nat->List (Nat×Nat)
 |[]=>[]
 |y::r=>if(match ss[x]?,ss[y]? with|some s,some t=>(Nat.ble 2 (cls s.op)&&Nat.ble 2 (cls t.op))||(Nat.beq 1 (cls s.op)&&Nat.beq 3 (cls t.op))||(Nat.beq 3 (cls s.op)&&Nat.beq 1 (cls t.op))|_,_=>false)&&!dz x (cl.getD y [])&&!dz y (cl.getD x [])then(x,y)::JG ss cl x r else JG ss cl x r
def P2(ss:List aD)(cl:List (List Nat)):List Nat->List (Nat×Nat)
 |[]=>[]
 |x::r=>JG ss cl x r++P2 ss cl r
def G0(ss:List aD)(as cl:List (List Nat))(n a b:Nat)(l:List Nat):Bool:=
 Nat.beq l.length n&&DH l&&l.all (λi=>Nat.ble (i+1) n)&&FK ss cl a b l&&Eh as [] l
def GF(cl:List (List Nat))(a b:Nat):List Nat->Bool
 |[]=>true
 |y::r=>(Nat.beq y b||dz a (cl.getD y [])||dz b (cl.getD y []))&&GF cl a b r
def L5(ss:List aD)(as cl:List (List Nat))(n a b:Nat):Option (List aD×List aD×List aD):=
 let p:=order ss as n [] ((List.range n).filter λi=>!(Nat.beq i a)&&!(Nat.beq i b)&&!(dz a (cl.getD i []))&&!(dz b (cl.getD i [])));let rest:=(List.range n).filter λi=>!(dz i p);let r1:=order ss as n (a::p) (Hc a rest);let r2:=order ss as n (b::p) (Hc b rest)
 if Nat.beq a b=false∧G0 ss as cl n a b (p++a::r1)=true∧G0 ss as cl n b a (p++b::r2)=true∧GF cl a b r1=true then
  match j6 ss p,j6 ss (a::r1),j6 ss (b::r2)with
  |some sp,some s1,some s2=>some (sp,s1,s2)
  |_,_,_=>none
 else none
def DO(ss:List aD)(as cl:List (List Nat))(n:Nat):List (Nat×Nat)->Option (List aD×List aD×List aD)
 |[]=>none
 |(a,b)::r=>match L5 ss as cl n a b with
  |some x=>some x
  |none=>DO ss as cl n r
def LY(ss:List aD)(as:List (List Nat))(n:Nat):Option (List aD×List aD×List aD):=
 let cl:=(List.range n).map λi=>closure as (n*n+n) (as.getD i []) []
 DO ss as cl n (P2 ss cl (List.range n))
def Fs(P:Program)(nt:Nat)(ops:Array Oper):Option (List aD×List aD×List aD):=
 match rK P ops nt ops.toList with
 |none=>none
 |some ss=>LY (ss.map mO) (gS ops) ops.size
def covers(cl:List (List Nat))(n i:Nat):Bool:=(List.range n).all λj=>Nat.beq j i||dz j (cl.getD i [])
def uG(cl:List (List Nat))(n:Nat):Nat->List aD->List aD
 |_,[]=>[]
 |i,s::r=>(bif covers cl n i then s else mO s)::uG cl n (i+1) r
def IJ(ss:List aD)(as:List (List Nat))(n:Nat):List aD:=
 uG ((List.range n).map λi=>closure as (n*n+n) (as.getD i []) []) n 0 ss
def alW(P:Program)(nt:Nat)(ops:Array Oper)(draw:Bool):Option (List aD):=
 match rK P ops nt ops.toList with
 |none=>none
 |some ss=>
  match draw with
  |false=>some ss
  |true=>match ordered ss (gS ops) ops.size with
   |some l=>some l
   |none=>ordered (IJ ss (gS ops) ops.size) (gS ops) ops.size
def alY(x y:aD):Bool:=
 (match x.dst with
  |some d=>!dz d y.slots&&(match y.dst with|some e=>!Nat.beq d e|none=>true)
  |none=>true)&&
 (match y.dst with
  |some e=>!dz e x.slots
  |none=>true)
def BV(ss:List aD)(cl:List (List Nat))(listed:Array Bool)(x:Nat)(s:aD):Nat->Bool
 |0=>true
 |y+1=>(Nat.beq y x||listed.getD y true||dz x (cl.getD y [])||(match ss[y]? with|some t=>loose s t|none=>false))&&BV ss cl listed x s y
def Cb(ss:List aD)(cl:List (List Nat))(listed:Array Bool)(x:Nat)(s:aD):Nat->Bool
 |0=>true
 |y+1=>(Nat.beq y x||listed.getD y true||dz x (cl.getD y [])||(match ss[y]? with|some t=>alY s t|none=>false))&&Cb ss cl listed x s y
def MD(s:aD):Bool:=
 match s.dst with
 |some d=>!dz d s.slots
 |none=>true
def xG(s:aD):List (Nat×aD)->Bool
 |[]=>true
 |p::W=>(match s.dst with
  |some d=>!dz d p.2.slots&&(match p.2.dst with|some e=>!Nat.beq d e|none=>true)
  |none=>true)&&xG s W
def jl(cl:List (List Nat))(y:Nat)(s:aD)(W:List (Nat×aD)):List (Nat×aD):=
 if Nat.ble (cls s.op) 1=true then W else W.filter λp=>!dz p.1 (cl.getD y [])
def DP(ss:List aD)(cl:List (List Nat))(W:List (Nat×aD))(listed:Array Bool)(n:Nat):List Nat->Option (Nat×aD)
 |[]=>none
 |x::r=>match ss[x]? with
  |some s=>if BV ss cl listed x s n=true∧xG s W=true then some (x,s)else DP ss cl W listed n r
  |none=>none
def DQ(ss:List aD)(cl:List (List Nat))(W:List (Nat×aD))(listed:Array Bool)(n:Nat):List Nat->Option (Nat×aD)
 |[]=>none
 |x::r=>match ss[x]? with
  |some s=>if Nat.ble (cls s.op) 1=true∧MD s=true∧Cb ss cl listed x s n=true∧xG s W=true then some (x,s)else DQ ss cl W listed n r
  |none=>none
def GO(W:List (Nat×aD))(t:lZ):lZ:=
 match W with
 |[]=>t
 |_=>.IU (W.map (·.2)) t
def Be(f:Nat->aD->Option lZ)(ss:List aD):List Nat->Option lZ
 |[]=>none
 |[x]=>match ss[x]? with
  |some s=>(f x s).map (.one s)
  |none=>none
 |x::r=>match ss[x]? with
  |some s=>match f x s,Be f ss r with
   |some t,some u=>some (.both (.one s t) u)
   |_,_=>none
  |none=>none
def alz(ss:List aD)(cl:List (List Nat))(ops:Array Oper):Nat->Nat->List (Nat×aD)->Array Bool->Option lZ
 |0,_,_,listed=>if(Region.ready .any ops listed).isEmpty=true then some .done else none
 |f+1,k,W,listed=>
  match Region.ready .any ops listed with
  |[]=>some .done
  |x::r=>match DP ss cl W listed ops.size (x::r)with
   |some (y,s)=>(alz ss cl ops f k (jl cl y s W) (listed.setIfInBounds y true)).map λt=>.one s (GO (jl cl y s W) t)
   |none=>match DQ ss cl W listed ops.size (x::r)with
    |some (y,s)=>(alz ss cl ops f k ((y,s)::W) (listed.setIfInBounds y true)).map (.one s)
    |none=>match k with
     |0=>none
     |k+1=>Be (λi s=>(alz ss cl ops f k (jl cl i s W) (listed.setIfInBounds i true)).map (GO (jl cl i s W))) ss (x::r)
def dstsOf:List aD->List Nat
 |[]=>[]
 |o::l=>match o.dst with
  |some d=>d::dstsOf l
  |none=>dstsOf l
def wo(P:Program)(nt:Nat)(ops:Array Oper):Option akX:=
 match rK P ops nt ops.toList with
 |none=>none
 |some ss=>(alz ss ((List.range ops.size).map λi=>closure (gS ops) (ops.size*ops.size+ops.size) ((gS ops).getD i []) []) ops ops.size 6 [] (Array.replicate ops.size false)).map (.tree (dstsOf ss))
def flat:akX->Bool
 |.seq a b|.cond _ a b=>flat a&&flat b
 |.block _ c|.loop c|.scope c=>flat c
 |.Aw .. |.wq .. |.rcv _|.goto _|.Hu .. =>false
 |_=>true
def SF(nt:Nat):Option Nat->Bool
 |some d=>Nat.ble (d+1) nt
 |none=>true
def yH(P:Program)(nt:Nat)(ops:Array Oper):Option akX:=
 match ops.toList.getLast? with
 |some o=>match o.op,o.guard with
  |.defer c,none=>match c.callee,rK P ops nt (ops.toList.dropLast)with
   |.value x,some l=>if SF nt o.dst=true then some (.wq l o.dst x c.args.toList)else none
   |_,_=>none
  |_,_=>none
 |none=>none
def wm(nt:Nat)(ops:Array Oper):Option akX:=
 match ops.toList with
 |[o]=>match o.op,o.guard with
  |.call c,none=>match c.callee,c.args.toList with
   |.builtin .recover,[]=>if SF nt o.dst=true then some (.rcv o.dst)else none
   |_,_=>none
  |_,_=>none
 |_=>none
def OY(P:Program)(nt:Nat)(ops:Array Oper)(draw:Bool):Option (List aD):=
 match rK P ops nt ops.toList with
 |none=>none
 |some ss=>
  match draw with
  |false=>some ss
  |true=>ordered ss (gS ops) ops.size
def Fu(P:Program)(nt:Nat)(ops:Array Oper):Option akX:=
 match yH P nt ops with
 |some s=>some s
 |none=>wm nt ops
def I3(fl:Bool)(P:Program)(nt:Nat)(ops:Array Oper)(draw:Bool):Option akX:=
 match fl with
 |true=>match alW P nt ops draw with
  |some l=>some (.ops l)
  |none=>match draw with
   |true=>match Fs P nt ops with
    |some x=>some (.two x.1 x.2.1 x.2.2)
    |none=>wo P nt ops
   |false=>Fu P nt ops
 |false=>match OY P nt ops draw with
  |some l=>some (.ops l)
  |none=>match draw with
   |true=>wo P nt ops
   |false=>Fu P nt ops
def jM:akX->Nat->Option akX
 |.seq a b,l=>match jM a l with
  |some r=>some (.seq r b)
  |none=>jM b l
 |.label l',l=>if l'==l then some .skip else none
 |_,_=>none
def MF:akX->Option Nat
 |.seq a b=>match MF a with
  |some l=>some l
  |none=>MF b
 |.label l=>some l
 |_=>none
def HJ:akX:=.ops [⟨none,none,.vu (.const (.bool true))⟩]
def cI(fl:Bool)(P:Program)(nt:Nat):Code->Option akX
 |.skip=>some .skip
 |.label l=>some (.label l)
 |.region _ ops draw=>I3 fl P nt ops draw
 |.seq a b=>match cI fl P nt a,cI fl P nt b with
  |some x,some y=>some (.seq x y)
  |_,_=>none
 |.cond c a b=>match cI fl P nt a,cI fl P nt b with
  |some x,some y=>some (.cond c x y)
  |_,_=>none
 |.block id c=>(cI fl P nt c).map (.block id)
 |.loop c=>(cI fl P nt c).map .loop
 |.scope c=>match cI fl P nt c with
  |some sc=>match MF sc with
   |none=>some (.scope sc)
   |some l=>match jM sc l with
    |some r=>some (.Hu sc l r)
    |none=>none
  |none=>none
 |.exit id=>some (.exit id)
 |.ret=>some .ret
 |.rangeFunc g ps a b=>match cI fl P nt a,cI fl P nt b with
  |some x,some y=>if ps.toList.all (λp=>Nat.ble (p+1) nt)=true∧flat x=true∧flat y=true then some (.Aw g ps.toList x y)else none
  |_,_=>none
 |.goto l=>some (.goto l)
 |.refuse _=>some HJ
abbrev comp(P:Program)(nt:Nat)(c:Code):Option akX:=cI true P nt c
inductive gj where
 |t (n:Nat)
 |c1 (a:Nat)
 |cn (a n:Nat)
def kH(P:Program):List ResultVar->Option (List gj)
 |[]=>some []
 |.tmp n::r=>(kH P r).map (.t n:: ·)
 |.cell a t::r=>match pE P t,eW P t,kH P r with
  |some true,some n,some l=>some (.cn a n::l)
  |some false,some _,some l=>some (.c1 a::l)
  |_,_,_=>none
variable{h:af}{s:Sem Value}
variable {P:Program}
def addr_add(b o n:Nat):(⟨b,o,none⟩:Addr).add n=⟨b,o+n,none⟩:=by
 unfold Addr.add;split
 .rename_i h;subst h;rfl
 .rfl
def BE(w:World)(b o:Nat):w.cell? ⟨b,o,none⟩=cell w.heap b o:=by
 unfold World.cell? cell;cases w.heap[b]? with
 |none=>rfl
 |some x=>cases x<;>rfl
def cZ{t:TypeId}{d:TypeDesc}(h:P.underlying t=some d)(w:World):(underlying t).run P w=.ok d w:=run_underlying h w
def acT{t:TypeId}{n:Nat}(h:eW P t=some n):∃i,P.info? t=some i∧i.size=n:=by
 unfold eW at h;cases hi:P.info? t with
 |none=>simp[hi]at h
 |some i=>simp[hi]at h;exact⟨i,Y,h⟩
def Hr{t:TypeId}{i:TypeInfo}(h:P.info? t=some i)(w:World):(typeInfo t).run P w=.ok i w:=by
 simp[typeInfo,h]
def iY{t:TypeId}{n:Nat}(h:eW P t=some n)(w:World):(sizeOf t).run P w=.ok n w:=by
 obtain⟨i,hi,hn⟩:=acT h;simp[sizeOf,Hr hi,hn]
def qh{t:TypeId}{z:Value}(h:zeroOf P t=some z)(w:World):(zeroValue t).run P w=.ok z w:=by
 unfold zeroOf at h;cases hi:P.info? t with
 |none=>simp[hi]at h
 |some i=>
  simp[hi]at h;simp[zeroValue,Hr hi,h]
def D4{t:TypeId}{g:Bool}(h:pE P t=some g)(w:World):(isAgg t).run P w=.ok g w:=by
 unfold pE at h;cases hu:P.underlying t with
 |none=>simp[hu]at h
 |some d=>
  simp only[hu]at h;simp only[isAgg,Sem.run_bind,cZ hu,Result.andThen_ok];cases d<;>simp at h<;>subst h<;>simp
def Dr{t:TypeId}{k:Kd}(h:iE P t=some k):P.underlying t=some k.type:=by
 unfold iE at h;split at h<;>simp at h<;>subst h<;>assumption
def af4{t:TypeId}{fs:Array Field}{f:Nat}{fl:Field}{n:Nat}(hu:P.underlying t=some (.struct fs))(hf:fs[f]? =some fl)(hs:eW P fl.type=some (n+1))(b o:Nat)(w:World):(Instr.fieldAt t (.pointer (some ⟨b,o,none⟩)) f).run P w=.ok (.pointer (some ⟨b,o+fl.offset,none⟩)) w:=by
 simp[Instr.fieldAt,cZ hu,hf,Instr.sureAddr,fieldPlace,iY hs,addr_add]
def af5{b o:Nat}{v:Value}(w:World)(hw:w.heap=h)(hc:cell h b o=some v):(load ⟨b,o,none⟩).run P w=.ok v w:=by
 rw[run_load,BE,hw,hc]
def UL{b o:Nat}{vs:List Value}(w:World)(hw:w.heap=h)(hc:fF h b o vs):(loadCells ⟨b,o,none⟩ vs.length).run P w=.ok ⟨vs⟩ w:=
 run_loadCells_list w ⟨b,o,none⟩ vs λj v hj=>by rw[addr_add,BE,hw];exact hc j v hj
def UJ{t:TypeId}{b o:Nat}{v:Value}(hg:pE P t=some false)(w:World)(hw:w.heap=h)(hc:cell h b o=some v):(Instr.loadAt t (.pointer (some ⟨b,o,none⟩))).run P w=.ok v w:=by
 have hl:=af5 (P:=P) w hw hc;simp[Instr.loadAt,Instr.sureAddr,loadVar,D4 hg,hl,-run_load]
def UK{t:TypeId}{b o n:Nat}{vs:List Value}(hg:pE P t=some true)(hs:eW P t=some n)(hn:vs.length=n)(w:World)(hw:w.heap=h)(hc:fF h b o vs):(Instr.loadAt t (.pointer (some ⟨b,o,none⟩))).run P w=.ok (.agg ⟨vs⟩) w:=by
 subst hn;simp[Instr.loadAt,Instr.sureAddr,loadVar,D4 hg,iY hs,UL w hw hc]
def ck(w w':World):Prop:=w'.os=w.os∧w'.output=w.output∧w'.tape=w.tape
def ck.refl(w:World):ck w w:=⟨Y,Y,Y⟩
def ck.trans{a b c:World}(h:ck a b)(k:ck b c):ck a c:=⟨k.1.trans h.1,k.2.1.trans h.2.1,k.2.2.trans h.2.2⟩
def xY(l:List Value)(o:Nat):splice l o []=l:=by cases l<;>rfl
def ry:∀(l:List Value)(o:Nat)(vs:List Value),(splice l o vs).length=l.length
 |l,o,[]=>by cases l<;>rfl
 |[],_,_::_=>rfl
 |x::l,0,v::vs=>by simp[splice,ry l 0 vs]
 |x::l,o+1,v::vs=>by simp[splice,ry l o (v::vs)]
def su:∀(l:List Value)(o:Nat)(vs:List Value),o+vs.length<=l.length->∀j:Nat,(splice l o vs)[j]? =if o<=j∧j<o+vs.length then vs[j-o]? else l[j]?
 |l,o,[],_,j=>by
  rw[xY,akZ Yy]
 |[],o,v::vs,h,j=>by simp at h
 |x::l,0,v::vs,h,j=>by
  have ih:=su l 0 vs (by simp at h⊢;omega);cases j with
  |zero=>simp[splice]
  |succ j=>
   simp only[splice,alQ,ih j];simp only[ak8,aos,ak0,amJ,anw,alQ];by_cases hj:j<vs.length
   .rw[ak4 hj,ak4 V]
   .rw[akZ hj,akZ V]
 |x::l,o+1,v::vs,h,j=>by
  have ih:=su l o (v::vs) (by simp at h⊢;omega);cases j with
  |zero=>simp[splice]
  |succ j=>
   simp only[splice,alQ,ih j];have e:j+1-(o+1)=j-o:=V
   rw[e];by_cases hj:o<=j∧j<o+(v::vs).length
   .rw[ak4 hj,ak4 V]
   .rw[akZ hj,akZ V]
def agY(l:List Value)(o:Nat)(v:Value):(⟨l⟩:Array Value).setIfInBounds o v=⟨l.set o v⟩:=by
 apply amI;simp
def MN(l:List Value)(o:Nat)(v:Value)(vs:List Value)(h:o<l.length):splice l o (v::vs)=splice (l.set o v) (o+1) vs:=by
 induction l generalizing o with
 |nil=>simp at h
 |cons x l ih=>
  cases o with
  |zero=>
   cases vs with
   |nil=>cases l<;>rfl
   |cons u us=>simp[splice]
  |succ o=>
   simp only[splice,aou];have:=ih o (by simpa using h);rw[this];cases vs with
   |nil=>rw[xY,xY]
   |cons u us=>rfl
def Hq(b:Nat)(e:TypeId):∀(vs:List Value)(i o:Nat)(l:List Value)(w:World),w.heap[b]? =some (.cells ⟨l⟩ e (0,0))->o+i+vs.length<=l.length->(∀v∈vs,v.oneCell'=true)->
  ∃w',(storeCells ⟨b,o,none⟩ vs i).run P w=.ok () w'∧ck w w'∧w'.heap=w.heap.setIfInBounds b (.cells ⟨splice l (o+i) vs⟩ e (0,0))
 |[],i,o,l,w,hb,_,_=>by
  refine⟨w,by simp[storeCells],ck.refl w,?_⟩;have hs:splice l (o+i) []=l:=by cases l<;>rfl
  rw[hs];apply anr;intro k;rw[amG];split
  .rename_i h;subst h;have ah:=(al4.1 hb).1;rw[ak4 ah,hb]
  .rfl
 |v::vs,i,o,l,w,hb,hl,h1=>by
  simp only[ak0]at hl;have hc:w.cell? ⟨b,o+i,none⟩=some l[o+i]:=by
   rw[BE];unfold cell;rw[hb];simp
  have hf:w.frozen? ⟨b,o+i,none⟩=false:=by
   unfold World.frozen?;simp[hb]
  have ah:=(al4.1 hb).1;have tE:(w.setCell ⟨b,o+i,none⟩ v).heap=w.heap.setIfInBounds b (.cells ⟨l.set (o+i) v⟩ e (0,0)):=by
   unfold World.setCell;apply anr;intro k;simp only[aoU,amG];by_cases hk:b=k
   .subst hk;have:=(al4.1 hb).2;simp[ah,this]
   .simp[hk]
  have bh:(w.setCell ⟨b,o+i,none⟩ v).heap[b]? =some (.cells ⟨l.set (o+i) v⟩ e (0,0)):=by
   rw[tE];simp[ah]
  obtain⟨w',hr,jH,mX⟩:=Hq b e vs (i+1) o (l.set (o+i) v) (w.setCell ⟨b,o+i,none⟩ v) bh Ys (λx hx=>h1 x (by simp[hx]));refine⟨w',?_,⟨jH.1,jH.2.1,jH.2.2⟩,?_⟩
  .have hv:=h1 v Yy;simp only[storeCells,Sem.run_bind,addr_add,run_store P w _ v .plain hv,hc,hf,amH,ana,Result.andThen_ok];exact hr
  .rw[mX,tE,MN l (o+i) v vs V];apply anr;intro k;simp only[amG,an5];split<;>simp_all [anL]
def Md{b:Nat}{l:List Value}{e:TypeId}{c:Array Value}{k:Nat×Nat}(hb:h[b]? =some (.cells c e k)):dL h (h.setIfInBounds b (.cells ⟨l⟩ e (0,0))) b l:=by
 have ah:=(al4.1 hb).1;refine⟨⟨e,by simp[ah]⟩,Yy,λk hk=>?_,λt ⟨c',k',ht⟩=>?_⟩
 .rw[amG,akZ (λh=>hk h.symm)]
 .rw[hb]at ht;simp at ht;obtain⟨_,rfl,_⟩:=ht;exact⟨_,_,by simp[ah];exact⟨Y,Y⟩⟩
def xM{b:Nat}{o x:Obj}(hb:h[b]? =some x):kG h (h.setIfInBounds b o) b o:=by
 have ah:=(al4.1 hb).1;refine⟨by simp[ah],Yy,λk hk=>?_⟩;rw[amG,akZ (λh=>hk h.symm)]
def yX(h:af)(l:List Value)(e:TypeId):jr h (h.push (.cells ⟨l⟩ e (0,0))) h.size l:=
 ⟨Y,⟨e,Yy⟩,Yy,λk hk=>by rw[am7,akZ V]⟩
def Jv(h:af)(o:Obj):sD h (h.push o) h.size o:=
 ⟨Y,Yy,Yy,λk hk=>by rw[am7,akZ V]⟩
def aR(P:Program)(s:Sem Next)(w:World)(K:Value->af->Prop):Prop:=
 ∃v w',(s.run P w=.ok (.value v) w'∨(s.run P w=.ok .skip w'∧v=undef))∧ck w w'∧K v w'.heap
def aR.val{w w':World}{K:Value->af->Prop}{v:Value}(hr:s.run P w=.ok v w')(hb:ck w w')(hk:K v w'.heap):aR P (do pure (.value (<-s))) w K:=
 ⟨v,w',.inl (by simp[hr]),hb,hk⟩
def aR.same{w:World}{K:Value->af->Prop}{v:Value}(hr:s.run P w=.ok v w)(hk:K v w.heap):aR P (do pure (.value (<-s))) w K:=aR.val hr (ck.refl w) hk
end Go.Sx
namespace Go.Sx
open Go
variable{parts:Array (Nat×Operand)}
variable {P:Program}{σ:Env}{ρ:Operand->Value}{w:World}{K:Value->af->Prop}{Qp:List PanicEntry->af->Prop}
def cg(σ:Env)(ρ:Operand->Value):Prop:=∀x v,ev σ x=some v->ρ x=v
def cg.list(hρ:cg σ ρ):∀(xs:List Operand)(vs:List Value),fI σ xs=some vs->xs.map ρ=vs
 |[],vs,h=>by simp[fI]at h;simp[h]
 |x::xs,vs,h=>by
  simp only[fI]at h;split at h
  .rename_i v us hv u9;simp at h;subst h;simp[hρ x v hv,cg.list hρ xs us u9]
  .simp at h
def PN{x:Operand}(hρ:cg σ ρ)(h:aE P σ w.heap K Qp (.mv x)):aR P (pure (.value (ρ x))) w K:=by
 simp only[aE]at h;split at h
 .rename_i v hv;exact⟨v,w,.inl (by simp[hρ x v hv]),ck.refl w,h⟩
 .exact h.elim
def abi{c a b:Operand}(hρ:cg σ ρ)(h:aE P σ w.heap K Qp (.pick c a b)):aR P (do pure (.value (if<-asBool (ρ c)then ρ a else ρ b))) w K:=by
 simp only[aE]at h;split at h
 .rename_i t x y hc ha hb;refine⟨_,w,.inl ?_,ck.refl w,h⟩;simp only[hρ c _ hc,hρ a _ ha,hρ b _ hb,asBool];cases t<;>simp
 .exact h.elim
def abf{t:TypeId}{z:Value}(hz:zeroOf P t=some z)(h:aE P σ w.heap K Qp (.new z.cells.toList)):aR P (do pure (.value (<-Instr.alloc t true (.tuple #[])))) w K:=by
 simp only[aE]at h;refine aR.val (v:=.pointer (some ⟨w.heap.size,0,none⟩)) (w':={w with heap:=w.heap.push (.cells z.cells t)}) ?_ ⟨Y,Y,Y⟩ (h _ _ (yX w.heap z.cells.toList t));simp[Instr.alloc,qh hz,newVar,newRow]
def aaI{t:TypeId}{x:Operand}(hρ:cg σ ρ)(h:aE P σ w.heap K Qp (.box x)):aR P (do pure (.value (<-Instr.box t (ρ x)))) w K:=by
 simp only[aE]at h;split at h
 .rename_i v hv;rw[hρ x v hv];refine aR.val (v:=.pointer (some ⟨w.heap.size,0,none⟩)) (w':={w with heap:=w.heap.push (.cells v.cells t)}) ?_ ⟨Y,Y,Y⟩ (h _ _ (yX w.heap v.cells.toList t));simp[Instr.box,newVar,newRow]
 .exact h.elim
def PC(off:Nat):∀(vs:List Value)(j:Nat)(z:List Value),off+j+vs.length<=z.length->
  (vs.zipIdx j).foldl (λ(cs:Array Value)(x:Value×Nat)=>cs.setIfInBounds (off+x.2) x.1) ⟨z⟩=⟨splice z (off+j) vs⟩
 |[],j,z,_=>by simp[xY]
 |v::vs,j,z,h=>by
  simp only[ak0]at h;simp only[List.zipIdx_cons,List.foldl_cons,agY];rw[PC off vs (j+1) (z.set (off+j) v) Ys,MN z (off+j) v vs V];rfl
def fill_eq{place:Nat->Option (Nat×Nat)}(hρ:cg σ ρ):∀(parts:List (Nat×Operand))(ps:List (Nat×Nat))(vs z l:List Value),
  parts.map (λp=>place p.1)=ps.map some->fI σ (parts.map (·.2))=some vs->yQ z ps vs=some l->
  Instr.fill place ⟨z⟩ (parts.map λp=>(p.1,ρ p.2))=some ⟨l⟩
 |[],ps,vs,z,l,hp,hv,hf=>by
  have h1:ps=[]:=by cases ps<;>simp at hp⊢
  simp[fI]at hv;subst h1;subst hv;simp[yQ]at hf;simp[Instr.fill,hf]
 |(i,x)::parts,ps,vs,z,l,hp,hv,hf=>by
  cases ps with
  |nil=>simp at hp
  |cons p ps=>
   obtain⟨off,n⟩:=p;simp only[alR,anm]at hp;simp only[alR,fI]at hv;split at hv
   .rename_i v us hx u9;simp at hv;subst hv;simp only[yQ]at hf;split at hf
    .rename_i hc;obtain⟨bd,aO⟩:=hc;have ih:=fill_eq hρ parts ps us _ l hp.2 u9 hf;simp only[alR,Instr.fill,hp.1,hρ x v hx];have hs:v.cells.size=n:=by rw[<-bd];simp
     have hz:(⟨z⟩:Array Value).size=z.length:=rfl;rw[akZ (by rw[hz];simp[hs];omega)];have:=PC off v.cells.toList 0 z (by rw[bd];omega);rw[an6]at this;have e2:v.cells.zipIdx.foldl (λ(cs:Array Value)(x:Value×Nat)=>cs.setIfInBounds (off+x.2) x.1) ⟨z⟩=⟨splice z off v.cells.toList⟩:=by
      rw[<-this,<-Array.foldl_toList,Array.toList_zipIdx]
     exact(alC (λc=>Instr.fill place c _) e2).trans ih
    .simp at hf
   .simp at hv
def Tc(qs:List (Nat×Nat)):∀(parts:List (Nat×Operand))(ps:List (Nat×Nat)),placesOf qs parts=some ps->
  parts.map (λp=>qs[p.1]?)=ps.map some
 |[],ps,h=>by simp[placesOf]at h;subst h;rfl
 |(i,x)::parts,ps,h=>by
  simp only[placesOf]at h;split at h
  .rename_i p ps' hp fQ;simp at h;subst h;simp[hp,Tc qs parts ps' fQ]
  .simp at h
def UI:∀(fs:List Field)(qs:List (Nat×Nat)),wz P fs=some qs->∀w:World,
  (fs.mapM λf=>(do pure (f.offset,<-sizeOf f.type):Sem (Nat×Nat))).run P w=.ok qs w
 |[],qs,h,w=>by simp[wz]at h;subst h;simp
 |f::fs,qs,h,w=>by
  simp only[wz]at h;split at h
  .rename_i n ps hn fQ;simp at h;subst h;have ih:=UI fs ps fQ w;simp only[aot,Sem.run_bind,iY hn,Result.andThen_ok,Sem.run_pure];rw[ih];rfl
  .simp at h
def afZ(fs:Array Field)(qs:List (Nat×Nat))(h:wz P fs.toList=some qs)(w:World):(fs.mapM λf=>(do pure (f.offset,<-sizeOf f.type):Sem (Nat×Nat))).run P w=.ok ⟨qs⟩ w:=by
 have e:=aoE (m:=Sem) (f:=λf:Field=>(do pure (f.offset,<-sizeOf f.type):Sem (Nat×Nat))) (xs:=fs);rw[e,Sem.run_map,UI fs.toList qs h w];rfl
def aaM{t:TypeId}{z:Value}{fs:Array Field}{qs ps:List (Nat×Nat)}(hρ:cg σ ρ)(hz:zeroOf P t=some z)(hu:P.underlying t=some (.struct fs))(hq:wz P fs.toList=some qs)(hp:placesOf qs parts.toList=some ps)(h:aE P σ w.heap K Qp (.build z.cells.toList ps (parts.toList.map (·.2)))):aR P (do pure (.value (<-Instr.build t (parts.map λ(i,x)=>(i,ρ x))))) w K:=by
 simp only[aE]at h;split at h
 .rename_i vs qT;split at h
  .rename_i l hl;have hf:=fill_eq (place:=λi:Nat=>qs[i]?) hρ parts.toList ps vs z.cells.toList l (Tc qs _ _ hp) qT hl;refine aR.same (v:=.agg ⟨l⟩) ?_ h;have tD:=afZ fs qs hq w;have hm:(parts.map λ(i,x)=>(i,ρ x)).toList=parts.toList.map λp=>(p.1,ρ p.2):=Yy
   simp only[Instr.build,Sem.run_bind,qh hz,Result.andThen_ok,cZ hu,tD,hm];have hg:(λi=>(⟨qs⟩:Array (Nat×Nat))[i]?)=λi:Nat=>qs[i]? :=by funext i;simp
   rw[hg];have CA:Instr.fill (λi:Nat=>qs[i]?) z.cells (parts.toList.map λp=>(p.1,ρ p.2))=some ⟨l⟩:=hf;rw[CA];rfl
  .exact h.elim
 .exact h.elim
def Ma(size:Nat):∀(parts:List (Nat×Operand)),parts.map (λp=>some (p.1*size,size))=(vw size parts).map some
 |[]=>rfl
 |(i,x)::parts=>by simp[vw,Ma size parts]
def aaL{t e:TypeId}{z:Value}{n size:Nat}(hρ:cg σ ρ)(hz:zeroOf P t=some z)(hu:P.underlying t=some (.array n e))(hs:eW P e=some size)(h:aE P σ w.heap K Qp (.build z.cells.toList (vw size parts.toList) (parts.toList.map (·.2)))):aR P (do pure (.value (<-Instr.build t (parts.map λ(i,x)=>(i,ρ x))))) w K:=by
 simp only[aE]at h;split at h
 .rename_i vs qT;split at h
  .rename_i l hl;have hf:=fill_eq (place:=λi=>some (i*size,size)) hρ parts.toList _ vs z.cells.toList l (Ma size _) qT hl;refine aR.same (v:=.agg ⟨l⟩) ?_ h;have hm:(parts.map λ(i,x)=>(i,ρ x)).toList=parts.toList.map λp=>(p.1,ρ p.2):=Yy
   simp only[Instr.build,Sem.run_bind,qh hz,Result.andThen_ok,cZ hu,iY hs,hm];have CA:Instr.fill (λi=>some (i*size,size)) z.cells (parts.toList.map λp=>(p.1,ρ p.2))=some ⟨l⟩:=hf;rw[CA];rfl
  .exact h.elim
 .exact h.elim
def DX(z:Array Value)(n:Nat):((Array.range (n*z.size)).map (λi=>z[i%z.size]!))=⟨(List.replicate n z.toList).flatten⟩:=by
 apply amI;simp only[Array.toList_map,Array.toList_range];induction n with
 |zero=>simp
 |succ n ih=>
  rw[Nat.succ_mul,List.range_add,alD,ih,List.replicate_succ',List.flatten_append];congr 1;simp only[am',anG,List.flatten_nil,amA];apply aoB;intro i;simp only[amB,aoV];by_cases hi:i<z.size
  .simp[hi,Nat.add_mod,Nat.mod_eq_of_lt hi]
  .simp[hi]
def Ep{e:TypeId}{size:Nat}{z:List Value}(h:pw P e size=some z):∃v,zeroOf P e=some v∧v.cells.toList=z∧v.cells.size=size:=by
 unfold pw at h;split at h
 .rename_i v hv;split at h
  .rename_i hs;simp at h;exact⟨v,hv,h,by simpa using hs⟩
  .simp at h
 .simp at h
def aaJ{t e:TypeId}{n size:Nat}{z:List Value}(hρ:cg σ ρ)(hu:P.underlying t=some (.slice e))(hs:eW P e=some size)(hn:n*size<=65536)(hz:pw P e size=some z)(h:aE P σ w.heap K Qp (.uB ((List.replicate n z).flatten) n (vw size parts.toList) (parts.toList.map (·.2)))):aR P (do pure (.value (<-Instr.buildSlice t n (parts.map λ(i,x)=>(i,ρ x))))) w K:=by
 obtain⟨zv,pV,rfl,tK⟩:=Ep hz;simp only[aE]at h;split at h
 .rename_i vs qT;split at h
  .rename_i l hl;have hf:=fill_eq (place:=λi=>some (i*size,size)) hρ parts.toList _ vs _ l (Ma size _) qT hl;refine aR.val (v:=.slice (some ⟨w.heap.size,0,none⟩) n n) (w':={w with heap:=w.heap.push (.cells ⟨l⟩ e)}) ?_ ⟨Y,Y,Y⟩ (h _ _ (yX w.heap l e));have hm:(parts.map λ(i,x)=>(i,ρ x)).toList=parts.toList.map λp=>(p.1,ρ p.2):=Yy
   have hle:¬n*size>2 ^ 24:=V
   have hr:=DX zv.cells n;rw[tK]at hr;by_cases h0:n*size=0
   .have xm:(List.replicate n zv.cells.toList).flatten=[]:=by
     have q:(⟨(List.replicate n zv.cells.toList).flatten⟩:Array Value)= #[]:=by
      rw[<-hr,h0,Array.range_zero'];simp
     exact alC Array.toList q
    rw[xm]at hf;have CA:Instr.fill (λi=>some (i*size,size)) #[] (parts.toList.map λp=>(p.1,ρ p.2))=some ⟨l⟩:=hf;simp[Instr.buildSlice,cZ hu,iY hs,h0,CA,newRow,Array.range_zero']
   .simp only[Instr.buildSlice,Sem.run_bind,cZ hu,Result.andThen_ok,iY hs,hle,ana,h0,qh pV,Sem.run_pure,hm,tK];simp only[hr,hf];rfl
  .exact h.elim
 .exact h.elim
end Go.Sx
namespace Go.Sx
open Go
variable{op:BinOp}
variable {P:Program}{σ:Env}{ρ:Operand->Value}{w:World}{K:Value->af->Prop}{Qp:List PanicEntry->af->Prop}
def aa4{t:TypeId}{x:Operand}(hρ:cg σ ρ)(hg:pE P t=some false)(h:aE P σ w.heap K Qp (.ld1 x)):aR P (do pure (.value (<-Instr.loadAt t (ρ x)))) w K:=by
 simp only[aE]at h;split at h
 .rename_i b o hx;obtain⟨v,hc,hk⟩:=h;rw[hρ x _ hx];exact aR.same (UJ hg w Y hc) hk
 .exact h.elim
def aa5{t:TypeId}{n:Nat}{x:Operand}(hρ:cg σ ρ)(hg:pE P t=some true)(hs:eW P t=some n)(h:aE P σ w.heap K Qp (.ny n x)):aR P (do pure (.value (<-Instr.loadAt t (ρ x)))) w K:=by
 simp only[aE]at h;split at h
 .rename_i b o hx;obtain⟨vs,hn,hc,hk⟩:=h;rw[hρ x _ hx];exact aR.same (UK hg hs hn w Y hc) hk
 .exact h.elim
def abp{t:TypeId}{n:Nat}{x v:Operand}(hρ:cg σ ρ)(hs:eW P t=some n)(h:aE P σ w.heap K Qp (.st n x v)):aR P (do Instr.storeAt t (ρ x) (ρ v);pure .skip) w K:=by
 simp only[aE]at h;split at h
 .rename_i b o v' hx hv;obtain⟨l,⟨e,hb⟩,bK,hn,h1,hk⟩:=h;obtain⟨w',hr,jH,mX⟩:=Hq (P:=P) b e v'.cells.toList 0 o l w hb (by rw[hn];omega) h1;rw[an6]at mX;rw[hρ x _ hx,hρ v _ hv];refine⟨undef,w',.inr ⟨?_,Y⟩,jH,hk _ ?_⟩
  .have ax:¬(v'.cells.size≠n):=by simp at hn;simp[hn]
   have cG:(storeCells ⟨b,o,none⟩ v'.cells.toList).run P w=.ok () w':=hr;simp only[Instr.storeAt,Instr.sureAddr,storeVar,Sem.run_bind,Sem.run_pure,Result.andThen_ok,iY hs];rw[akZ ax];simp[cG]
  .rw[mX];exact Md hb
 .exact h.elim
def abg{x:Operand}(hρ:cg σ ρ)(h:aE P σ w.heap K Qp (.Ah x))(o:Oper)(ho:o.op=.nilCheck x):aR P (execOp ρ o) w K:=by
 simp only[aE]at h;split at h
 .rename_i a hx;exact⟨_,w,.inl (by simp[execOp,ho,hρ x _ hx]),ck.refl w,h⟩
 .rename_i f fi c hx;exact⟨_,w,.inl (by simp[execOp,ho,hρ x _ hx]),ck.refl w,h⟩
 .rename_i f fi c hx;exact⟨_,w,.inl (by simp[execOp,ho,hρ x _ hx]),ck.refl w,h⟩
 .exact h.elim
def AE(op:BinOp)(t:TypeId)(x y:Operand)(k k':IntKind)(a b:Int)(w:World):(eqGuard op t x y (.int k a) (.int k' b)).run P w=.ok () w:=by
 cases op<;>simp[eqGuard]
def UH(op:BinOp)(t:TypeId)(x y:Operand)(a b:BA)(w:World):(eqGuard op t x y (.string a) (.string b)).run P w=.ok () w:=by
 cases op<;>simp[eqGuard]
def UF(op:BinOp)(t:TypeId)(x y:Operand)(a b:Bool)(w:World):(eqGuard op t x y (.bool a) (.bool b)).run P w=.ok () w:=by
 cases op<;>simp[eqGuard]
abbrev ald(op:BinOp)(t:TypeId)(x y:Operand)(a b:Value):Sem Next:=do pure (.value (<-(do eqGuard op t x y a b;binOp op t a b)))
def aR.bin{t:TypeId}{x y:Operand}{a b v:Value}(hg:(eqGuard op t x y a b).run P w=.ok () w)(hr:(binOp op t a b).run P w=.ok v w)(hk:K v w.heap):aR P (ald op t x y a b) w K:=
 ⟨v,w,.inl (by simp[ald,hg,hr]),ck.refl w,hk⟩
def Jt{t:TypeId}{x y:Operand}(bz:op=.add∨op=.sub∨op=.mul)(hρ:cg σ ρ)(h:aE P σ w.heap K Qp (.ar op x y)):aR P (ald op t x y (ρ x) (ρ y)) w K:=by
 simp only[aE]at h;split at h
 .rename_i k a k' b hx hy;obtain⟨rfl,hk⟩:=h;rw[hρ x _ hx,hρ y _ hy];refine aR.bin (AE _ _ _ _ _ _ _ _ _) ?_ (hk _ Y);rcases bz with rfl|rfl|rfl<;>simp[binOp,Op.intArith,arith]
 .exact h.elim
def FT{t:TypeId}{x y:Operand}(bz:op=.and∨op=.or∨op=.xor∨op=.andNot)(hρ:cg σ ρ)(h:aE P σ w.heap K Qp (.bit op x y)):aR P (ald op t x y (ρ x) (ρ y)) w K:=by
 simp only[aE]at h;split at h
 .rename_i k a k' b hx hy;obtain⟨rfl,hk⟩:=h;rw[hρ x _ hx,hρ y _ hy];refine aR.bin (AE _ _ _ _ _ _ _ _ _) ?_ (hk _ Y);rcases bz with rfl|rfl|rfl|rfl<;>simp[binOp,Op.intBits,Bj]
 .exact h.elim
def abj{t:TypeId}{x y:Operand}(hρ:cg σ ρ)(h:aE P σ w.heap K Qp (.quo x y)):aR P (ald .quo t x y (ρ x) (ρ y)) w K:=by
 simp only[aE]at h;split at h
 .rename_i k a k' b hx hy;obtain⟨rfl,hb,hk⟩:=h;rw[hρ x _ hx,hρ y _ hy];refine aR.bin (AE _ _ _ _ _ _ _ _ _) ?_ (hk _ Y);simp[binOp,Op.intDiv,hb]
 .exact h.elim
def abk{t:TypeId}{x y:Operand}(hρ:cg σ ρ)(h:aE P σ w.heap K Qp (.rem x y)):aR P (ald .rem t x y (ρ x) (ρ y)) w K:=by
 simp only[aE]at h;split at h
 .rename_i k a k' b hx hy;obtain⟨rfl,hb,hk⟩:=h;rw[hρ x _ hx,hρ y _ hy];refine aR.bin (AE _ _ _ _ _ _ _ _ _) ?_ (hk _ Y);simp[binOp,Op.intDiv,hb]
 .exact h.elim
def PO{t:TypeId}{x:Operand}{kt k2:IntKind}{n:Int}(bz:op=.shl∨op=.shr)(h0:0<=n)(hn:n.toNat<=kt.bits)(hρ:cg σ ρ)(h:aE P σ w.heap K Qp (.sh kt (match op with|.shl=>true|_=>false) n.toNat x)):aR P (ald op t x (.const (.int k2 n)) (ρ x) (.int k2 n)) w K:=by
 simp only[aE]at h;split at h
 .rename_i k a hx;obtain⟨rfl,h⟩:=h;rw[hρ x _ hx];have ah:¬n<0:=V
  have Gf:min n.toNat k.bits=n.toNat:=anZ hn;refine aR.bin (AE _ _ _ _ _ _ _ _ _) ?_ (h _ Y);rcases bz with rfl|rfl<;>simp[binOp,Op.shift,ah,Gf]
 .exact h.elim
def Xt{a b:BA}(h:a.toList=b.toList):a=b:=by
 rw[ByteArray.toList_eq,ByteArray.toList_eq]at h;obtain⟨⟨x⟩⟩:=a;obtain⟨⟨y⟩⟩:=b;simp at h;rw[h]
def Iy{a b:BA}:(a.toList==b.toList)=decide (a=b):=by
 by_cases h:a=b
 .subst h;simp
 .rw[alg h];exact beq_eq_false_iff_ne.2 λe=>h (Xt e)
def aR.either{t:TypeId}{x y:Operand}{a b:Value}{p:Prop}(hg:(eqGuard op t x y a b).run P w=.ok () w)(ht:p->(binOp op t a b).run P w=.ok (.bool true) w)(hf:¬p->(binOp op t a b).run P w=.ok (.bool false) w)(hk:either p K w.heap):aR P (ald op t x y a b) w K:=by
 by_cases hp:p
 .exact aR.bin hg (ht hp) (hk.1 hp)
 .exact aR.bin hg (hf hp) (hk.2 hp)
def Cd{t:TypeId}{x y:Operand}(hρ:cg σ ρ)(h:aE P σ w.heap K Qp (.cmp op x y)):aR P (ald op t x y (ρ x) (ρ y)) w K:=by
 simp only[aE]at h;split at h<;>first
  |exact h.elim
  |(rename_i k a k' b hx hy
    obtain⟨rfl,hk⟩:=h;rw[hρ x _ hx,hρ y _ hy];refine aR.either (AE _ _ _ _ _ _ _ _ _) ?_ ?_ hk<;>intro hp<;>simp[binOp,Op.intCmp]<;>first|exact hp|omega|(intro hc;exact hp hc)|skip)
  |(rename_i a b hx hy
    rw[hρ x _ hx,hρ y _ hy];refine aR.either (UH _ _ _ _ _ _ _) ?_ ?_ h<;>intro hp<;>simp[binOp,Op.stringOp,Iy,aP]at hp⊢ <;>first|exact hp|skip)
def aaR{t:TypeId}{x y:Operand}{neg:Bool}(bz:(op=.eql∧neg=false)∨(op=.neq∧neg=true))(uX:iE P t=some .bool)(hρ:cg σ ρ)(h:aE P σ w.heap K Qp (.uI neg x y)):aR P (ald op t x y (ρ x) (ρ y)) w K:=by
 simp only[aE]at h;split at h
 .rename_i a b hx hy;have hu:=Dr uX;rw[hρ x _ hx,hρ y _ hy];by_cases cY:a=b
  .refine aR.bin (UF _ _ _ _ _ _ _) ?_ (h.1 cY);subst cY;rcases bz with⟨rfl,rfl⟩|⟨rfl,rfl⟩<;>simp[binOp,Op.equal,Op.maxDepth,run_equalIn_bool' _ _ _ _ _ hu]
  .refine aR.bin (UF _ _ _ _ _ _ _) ?_ (h.2 cY);have hb:(a==b)=false:=by simp[cY]
   rcases bz with⟨rfl,rfl⟩|⟨rfl,rfl⟩<;>simp[binOp,Op.equal,Op.maxDepth,run_equalIn_bool' _ _ _ _ _ hu,hb]
 .exact h.elim
def aaP{t:TypeId}{x y:Operand}(hρ:cg σ ρ)(h:aE P σ w.heap K Qp (.cat x y)):aR P (ald .add t x y (ρ x) (ρ y)) w K:=by
 simp only[aE]at h;split at h
 .rename_i a b hx hy;rw[hρ x _ hx,hρ y _ hy];refine aR.bin (UH _ _ _ _ _ _ _) ?_ h.2;have ah:¬(((a.size+b.size:Nat):Int)>IntKind.i64.max):=by
   have:IntKind.i64.max=9223372036854775807:=rfl;rw[this];have:=h.1;omega
  simp only[binOp,Op.stringOp];rw[akZ ah];rfl
 .exact h.elim
def abt{op:UnOp}{x:Operand}(hρ:cg σ ρ)(h:aE P σ w.heap K Qp (.un op x)):aR P (do pure (.value (<-Op.unary op (ρ x)))) w K:=by
 simp only[aE]at h;split at h
 .rename_i t hx;rw[hρ x _ hx];exact aR.same (by simp[Op.unary]) h
 .rename_i k a hx;rw[hρ x _ hx];exact aR.same (by simp[Op.unary,Op.intArith]) (h _ Y)
 .rename_i k a hx;rw[hρ x _ hx];exact aR.same (by simp[Op.unary,Op.intBits,Bj,SP]) (h _ Y)
 .exact h.elim
def aaY{t:TypeId}{fs:Array Field}{f n:Nat}{fl:Field}{x:Operand}(hρ:cg σ ρ)(hu:P.underlying t=some (.struct fs))(hf:fs[f]? =some fl)(hs:eW P fl.type=some (n+1))(h:aE P σ w.heap K Qp (.fa fl.offset x)):aR P (do pure (.value (<-Instr.fieldAt t (ρ x) f))) w K:=by
 simp only[aE]at h;split at h
 .rename_i b o hx;rw[hρ x _ hx];exact aR.same (af4 hu hf hs b o w) h
 .exact h.elim
def aa0{t e:TypeId}{n size:Nat}{x i:Operand}(hρ:cg σ ρ)(hu:P.underlying t=some (.array n e))(hs:eW P e=some size)(h:aE P σ w.heap K Qp (.Dp n size x i)):aR P (do pure (.value (<-Instr.indexAt t (ρ x) (ρ i)))) w K:=by
 simp only[aE]at h;split at h
 .rename_i b o k j hx hi;obtain⟨h0,h1,hk⟩:=h;rw[hρ x _ hx,hρ i _ hi];refine aR.same ?_ hk;simp[Instr.indexAt,asIntOf,cZ hu,Instr.sureAddr,h0,h1,iY hs,addr_add]
 .exact h.elim
def aa2{t e:TypeId}{size:Nat}{x i:Operand}(hρ:cg σ ρ)(hu:P.underlying t=some (.slice e))(hs:eW P e=some size)(h:aE P σ w.heap K Qp (.ixs size x i)):aR P (do pure (.value (<-Instr.indexAt t (ρ x) (ρ i)))) w K:=by
 simp only[aE]at h;split at h
 .rename_i b o n c k j hx hi;obtain⟨h0,h1,hk⟩:=h;rw[hρ x _ hx,hρ i _ hi];refine aR.same ?_ hk;simp[Instr.indexAt,asIntOf,cZ hu,h0,h1,iY hs,addr_add]
 .exact h.elim
def aa1{t:TypeId}{x i:Operand}(hρ:cg σ ρ)(hu:P.underlying t=some .string)(h:aE P σ w.heap K Qp (.zM x i)):aR P (do pure (.value (<-Instr.index t (ρ x) (ρ i)))) w K:=by
 simp only[aE]at h;split at h
 .rename_i s k j hx hi;obtain⟨c,h0,h1,hk⟩:=h;rw[hρ x _ hx,hρ i _ hi];refine aR.same ?_ hk;simp[Instr.index,asIntOf,cZ hu,h0,h1]
 .exact h.elim
def aa6{t e:TypeId}{x:Operand}{args:Array TypeId}{ty:TypeId}(hρ:cg σ ρ)(ha:args= #[t])(hu:P.underlying t=some (.slice e))(h:aE P σ w.heap K Qp (.len x)):aR P (do pure (.value (<-Builtin.len_ args ty #[ρ x]))) w K:=by
 subst ha;simp only[aE]at h;split at h
 .rename_i a n c hx;rw[hρ x _ hx];exact aR.same (by simp[Builtin.len_,cZ hu,goInt]) h
 .exact h.elim
def aa8{t:TypeId}{x:Operand}{args:Array TypeId}{ty:TypeId}(hρ:cg σ ρ)(ha:args= #[t])(hu:P.underlying t=some .string)(h:aE P σ w.heap K Qp (.lens x)):aR P (do pure (.value (<-Builtin.len_ args ty #[ρ x]))) w K:=by
 subst ha;simp only[aE]at h;split at h
 .rename_i s hx;rw[hρ x _ hx];exact aR.same (by simp[Builtin.len_,cZ hu,goInt]) h
 .exact h.elim
def aaO{t e:TypeId}{x:Operand}{args:Array TypeId}{ty:TypeId}(hρ:cg σ ρ)(ha:args= #[t])(hu:P.underlying t=some (.slice e))(h:aE P σ w.heap K Qp (.BD x)):aR P (do pure (.value (<-Builtin.cap_ args ty #[ρ x]))) w K:=by
 subst ha;simp only[aE]at h;split at h
 .rename_i a n c hx;rw[hρ x _ hx];exact aR.same (by simp[Builtin.cap_,cZ hu,goInt]) h
 .exact h.elim
def aaX{x:Operand}{i:Nat}(hρ:cg σ ρ)(h:aE P σ w.heap K Qp (.ext x i)):aR P (do pure (.value (<-Instr.extract (ρ x) i))) w K:=by
 simp only[aE]at h;split at h
 .rename_i vs hx;split at h
  .rename_i v hv;rw[hρ x _ hx];have Dh:vs[i]? =some v:=by simpa using hv
   exact aR.same (by simp[Instr.extract,Dh]) h
  .exact h.elim
 .exact h.elim
def aaZ{f:Nat}{a c:Array Operand}(hρ:cg σ ρ)(h:aE P σ w.heap K Qp (.fn f a.toList c.toList)):aR P (do pure (.value (<-Instr.makeFunc (.func f) (a.map ρ) (c.map ρ)))) w K:=by
 simp only[aE]at h;split at h
 .rename_i va vc ha hc;have e1:a.map ρ=⟨va⟩:=by apply amI;simp[hρ.list _ _ ha]
  have e2:c.map ρ=⟨vc⟩:=by apply amI;simp[hρ.list _ _ hc]
  rw[e1,e2];exact aR.same (by simp[Instr.makeFunc]) h
 .exact h.elim
def aaT{s d:TypeId}{ks k:IntKind}{x:Operand}(hρ:cg σ ρ)(hs:P.underlying s=some (.int ks))(hd:P.underlying d=some (.int k))(h:aE P σ w.heap K Qp (.BQ k x)):aR P (do pure (.value (<-convert s d (ρ x)))) w K:=by
 simp only[aE]at h;split at h
 .rename_i k' a hx;rw[hρ x _ hx];exact aR.same (by simp[convert,cZ hs,cZ hd,Conv.intToInt]) (h _ Y)
 .exact h.elim
def aaK{s d e:TypeId}{x:Operand}(hρ:cg σ ρ)(hs:P.underlying s=some (.slice e))(he:P.underlying e=some (.int .u8))(hd:P.underlying d=some .string)(h:aE P σ w.heap K Qp (.yE x)):aR P (do pure (.value (<-convert s d (ρ x)))) w K:=by
 simp only[aE]at h;split at h
 .rename_i a n c hx;obtain⟨bs,hn,jj,hk⟩:=h;rw[hρ x _ hx];cases a with
  |none=>
   have h0:n=0:=jj;have:bs=[]:=by rw[h0]at hn;simpa using hn
   subst this;refine aR.same (v:=.string ⟨⟨[]⟩⟩) ?_ hk;exact(run_convert_bytes_nil w s e hs he n c d hd).trans Y
  |some a=>
   obtain⟨b,o,sp⟩:=a;cases sp with
   |some q=>exact jj.elim
   |none=>
    have jj:fF w.heap b o (bs.map λb=>.int .u8 b.toNat):=jj;refine aR.same (v:=.string ⟨⟨bs⟩⟩) ?_ hk;have Cs:∀i,i<n->w.cell? ⟨b,o+i,none⟩=some (.int .u8 ((bs.map λb=>(b.toNat:Int)).getD i 0)):=by
     intro i hi;have CE:i<bs.length:=V
     rw[BE];refine jj i _ ?_;simp[List.getD,CE]
    have e1:strOfNums (bs.map λb=>(b.toNat:Int))=⟨⟨bs⟩⟩:=by
     unfold strOfNums;have:(bs.map λb=>(b.toNat:Int)).map (λn=>UInt8.ofNat n.toNat)=bs:=by
      rw[am']
      conv=>rhs;rw[<-List.map_id bs]
      refine aoq λx _=>?_;simp
     rw[this]
    rw[<-e1];exact run_convert_bytes_arg w s e hs he b o n c (bs.map λb=>(b.toNat:Int)) (by simp[hn]) Cs d hd
 .exact h.elim
def abd{x y:Operand}{args:Array TypeId}{ty:TypeId}(hρ:cg σ ρ)(h:aE P σ w.heap K Qp (.mn x y)):aR P (do pure (.value (<-Builtin.min_ args ty #[ρ x,ρ y]))) w K:=by
 simp only[aE]at h;split at h
 .rename_i k a k' b hx hy;obtain⟨rfl,hk⟩:=h;rw[hρ x _ hx,hρ y _ hy];refine aR.same (v:=.int k (min a b)) ?_ hk;have:(if b<a then b else a)=min a b:=by simp only[Int.min_def];split<;>split<;>omega
  simp[Builtin.min_,Builtin.min2,this]
 .exact h.elim
def abe{x y:Operand}{args:Array TypeId}{ty:TypeId}(hρ:cg σ ρ)(h:aE P σ w.heap K Qp (.mx x y)):aR P (do pure (.value (<-Builtin.max_ args ty #[ρ x,ρ y]))) w K:=by
 simp only[aE]at h;split at h
 .rename_i k a k' b hx hy;obtain⟨rfl,hk⟩:=h;rw[hρ x _ hx,hρ y _ hy];refine aR.same (v:=.int k (max a b)) ?_ hk;have:(if b>a then b else a)=max a b:=by simp only[Int.max_def];split<;>split<;>omega
  simp[Builtin.max_,Builtin.max2,this]
 .exact h.elim
def aba{t:TypeId}{d:TypeDesc}{x:Operand}(hρ:cg σ ρ)(hu:P.underlying t=some d)(hd:∀ms,d≠.interface ms)(h:aE P σ w.heap K Qp (.DC t x)):aR P (do pure (.value (<-Instr.makeInterface t (ρ x)))) w K:=by
 simp only[aE]at h;split at h
 .rename_i v hx;rw[hρ x _ hx];refine aR.same (v:=.iface t v) ?_ h;cases d<;>simp[Instr.makeInterface,cZ hu]<;>exact absurd Y (hd _)
 .exact h.elim
end Go.Sx
namespace Go.Sx
open Go
variable{kd:Nat}{neg:Bool}{op:BinOp}
variable {P:Program}{σ:Env}{ρ:Operand->Value}{w:World}{K:Value->af->Prop}{Qp:List PanicEntry->af->Prop}
def LF(kd:Nat)(d:TypeDesc):Prop:=
 match kd with
 |0=>∃e,d=.pointer e
 |1=>∃e,d=.slice e
 |2=>∃k e,d=.map k e
 |3=>∃a b c,d=.func a b c
 |_=>∃ms,d=.interface ms
def Rl{y:Operand}(h:isNil kd y=true):∃c,y=.const c∧kQ kd c=some true:=by
 unfold isNil at h;split at h<;>first|(have h':=amT h;subst h';exact⟨_,Y,Y⟩)|simp at h
def YW{t e:TypeId}(hu:P.underlying t=some (.pointer e))(x:Option Addr)(w:World):(Op.equal t (.pointer x) (.pointer none)).run P w=.ok x.isNone w∧(Op.equal t (.pointer none) (.pointer x)).run P w=.ok x.isNone w:=by
 constructor<;>unfold Op.equal Op.maxDepth Op.equalIn<;>simp only[Sem.run_bind,cZ hu,Result.andThen_ok]<;>cases x<;>rfl
def YX{t e:TypeId}(hu:P.underlying t=some (.slice e))(x:Option Addr)(n c n' c':Nat)(w:World):(Op.equal t (.slice x n c) (.slice none n' c')).run P w=.ok x.isNone w∧(Op.equal t (.slice none n' c') (.slice x n c)).run P w=.ok x.isNone w:=by
 constructor<;>unfold Op.equal Op.maxDepth Op.equalIn<;>simp only[Sem.run_bind,cZ hu,Result.andThen_ok]<;>cases x<;>rfl
def YV{t k e:TypeId}(hu:P.underlying t=some (.map k e))(x:Option Nat)(w:World):(Op.equal t (.map x) (.map none)).run P w=.ok x.isNone w∧(Op.equal t (.map none) (.map x)).run P w=.ok x.isNone w:=by
 constructor<;>unfold Op.equal Op.maxDepth Op.equalIn<;>simp only[Sem.run_bind,cZ hu,Result.andThen_ok]<;>cases x<;>rfl
def FE{t:TypeId}{a b:Array TypeId}{c:Bool}(hu:P.underlying t=some (.func a b c))(fn:Fn)(f1 f2:Array Value)(w:World):(Op.equal t (.func fn f1 f2) .nilFunc).run P w=.ok false w∧(Op.equal t .nilFunc (.func fn f1 f2)).run P w=.ok false w∧(Op.equal t .nilFunc .nilFunc).run P w=.ok true w:=by
 refine⟨?_,?_,?_⟩<;>unfold Op.equal Op.maxDepth Op.equalIn<;>simp only[Sem.run_bind,cZ hu,Result.andThen_ok]<;>rfl
def FF{t u:TypeId}{ms:Array (String×TypeId)}(hu:P.underlying t=some (.interface ms))(v:Value)(w:World):(Op.equal t (.iface u v) .nilIface).run P w=.ok false w∧(Op.equal t .nilIface (.iface u v)).run P w=.ok false w∧(Op.equal t .nilIface .nilIface).run P w=.ok true w:=by
 refine⟨?_,?_,?_⟩<;>unfold Op.equal Op.maxDepth Op.equalIn<;>simp only[Sem.run_bind,cZ hu,Result.andThen_ok]<;>rfl
def UM{t:TypeId}{d:TypeDesc}{a b:Value}{r:Bool}(hu:P.underlying t=some d)(hd:LF kd d)(ha:kQ kd a=some r)(hb:kQ kd b=some true)(w:World):(Op.equal t a b).run P w=.ok r w∧(Op.equal t b a).run P w=.ok r w:=by
 unfold kQ at ha;split at ha
 .rename_i x;cases b<;>simp[kQ]at hb;subst hb;obtain⟨e,rfl⟩:=hd;simp at ha;subst ha;exact YW hu x w
 .rename_i x n c;cases b<;>simp[kQ]at hb;subst hb;obtain⟨e,rfl⟩:=hd;simp at ha;subst ha;exact YX hu x n c _ _ w
 .rename_i x;cases b<;>simp[kQ]at hb;subst hb;obtain⟨k,e,rfl⟩:=hd;simp at ha;subst ha;exact YV hu x w
 .rename_i f1 f2 f3;cases b<;>simp[kQ]at hb;obtain⟨k,e,c,rfl⟩:=hd;simp at ha;subst ha;exact⟨(FE hu f1 f2 f3 w).1,(FE hu f1 f2 f3 w).2.1⟩
 .cases b<;>simp[kQ]at hb;obtain⟨k,e,c,rfl⟩:=hd;simp at ha;subst ha;exact⟨(FE hu default #[] #[] w).2.2,(FE hu default #[] #[] w).2.2⟩
 .cases b<;>simp[kQ]at hb;obtain⟨ms,rfl⟩:=hd;simp at ha;subst ha;exact⟨(FF hu (u:=0) undef w).2.2,(FF hu (u:=0) undef w).2.2⟩
 .rename_i u v;cases b<;>simp[kQ]at hb;obtain⟨ms,rfl⟩:=hd;simp at ha;subst ha;exact⟨(FF hu v w).1,(FF hu v w).2.1⟩
 .simp at ha
def ad0{v:Value}{r:Bool}(h:kQ kd v=some r):(∀k n,v≠.int k n)∧(∀s,v≠.string s)∧(∀k n,v≠.float k n)∧(∀k n m,v≠.complex k n m)∧(∀c,v≠.agg c):=by
 refine⟨?_,?_,?_,?_,?_⟩<;>intros<;>rintro rfl<;>unfold kQ at h<;>split at h<;>simp_all
def UG(op:BinOp)(t:TypeId)(x y:Operand){a b:Value}{r q:Bool}(ha:kQ kd a=some r)(hb:kQ kd b=some q)(hc:(∃c,x=.const c)∨(∃c,y=.const c))(w:World):(eqGuard op t x y a b).run P w=.ok () w:=by
 unfold kQ at ha hb;split at ha<;>simp at ha<;>split at hb<;>simp at hb<;>rcases hc with⟨c,rfl⟩|⟨c,rfl⟩<;>cases op<;>simp[eqGuard]
def UD{t:TypeId}{a b:Value}{r:Bool}{r1:Bool}(bz:(op=.eql∧neg=false)∨(op=.neq∧neg=true))(ha:kQ kd a=some r1)(hr:(Op.equal t a b).run P w=.ok r w):(binOp op t a b).run P w=.ok (.bool (bif r then !neg else neg)) w:=by
 obtain⟨h1,h2,h3,h4,h5⟩:=ad0 ha;rcases bz with⟨rfl,rfl⟩|⟨rfl,rfl⟩<;>cases a<;>simp_all [binOp]<;>cases r<;>rfl
def aaW{t:TypeId}{d:TypeDesc}{x y:Operand}{s:dx}(bz:(op=.eql∧neg=false)∨(op=.neq∧neg=true))(hρ:cg σ ρ)(hu:P.underlying t=some d)(hd:LF kd d)(hs:oF kd neg x y=some s)(h:aE P σ w.heap K Qp s):aR P (ald op t x y (ρ x) (ρ y)) w K:=by
 unfold oF at hs;split at hs
 .rename_i hy;simp at hs;subst hs;obtain⟨c,rfl,hc⟩:=Rl hy;simp only[aE]at h;split at h
  .rename_i v hv;split at h
   .rename_i r hr;rw[hρ x _ hv,hρ (.const c) c Y];exact aR.bin (UG _ _ _ _ hr hc (.inr ⟨c,Y⟩) w) (UD bz hr (UM hu hd hr hc w).1) h
   .exact h.elim
  .exact h.elim
 .split at hs
  .rename_i hx;simp at hs;subst hs;obtain⟨c,rfl,hc⟩:=Rl hx;simp only[aE]at h;split at h
   .rename_i v hv;split at h
    .rename_i r hr;rw[hρ y _ hv,hρ (.const c) c Y];exact aR.bin (UG _ _ _ _ hc hr (.inl ⟨c,Y⟩) w) (UD bz hc (UM hu hd hr hc w).2) h
    .exact h.elim
   .exact h.elim
  .simp at hs
end Go.Sx
namespace Go.Sx
open Go
variable{es:List MapEntry}{hi:Option Operand}{kd:Kd}{lo:Option Operand}
variable {P:Program}{σ:Env}{ρ:Operand->Value}{w:World}{K:Value->af->Prop}{Qp:List PanicEntry->af->Prop}
def Rr{t:TypeId}{k:Kd}(h:iE P t=some k):pE P t=some false:=by
 have:=Dr h;unfold pE;rw[this];cases k<;>rfl
def af3{t:TypeId}{k:Kd}(hk:iE P t=some k){a b:Value}(ha:fits k a=true)(hb:fits k b=true)(d:Nat)(w:World):∃r,(Op.equalIn (d+1) t a b).run P w=.ok r w∧(r=true↔a=b):=by
 have hu:=Dr hk;cases k with
 |int k=>
  cases a<;>simp[fits]at ha;cases b<;>simp[fits]at hb;subst ha;subst hb;rename_i n m;exact⟨n==m,run_equalIn_int w d t _ _ n m hu,Yy⟩
 |str=>
  cases a<;>simp[fits]at ha;cases b<;>simp[fits]at hb;rename_i s u;exact⟨s.toList==u.toList,run_equalIn_string w d t s u hu,by rw[Iy];simp⟩
 |bool=>
  cases a<;>simp[fits]at ha;cases b<;>simp[fits]at hb;rename_i s u;exact⟨s==u,run_equalIn_bool' w d t s u hu,Yy⟩
def UE:∀(fs:List Field)(n:Nat)(ks:List Kd)(xs ys:List Value),xu P n fs=some ks->rN ks (xs.drop n)=true->rN ks (ys.drop n)=true->
  ∀w:World,∃r,(Op.eqFields 9999 ⟨xs⟩ ⟨ys⟩ fs).run P w=.ok r w∧(r=true↔xs.drop n=ys.drop n)
 |[],n,ks,xs,ys,hk,hx,hy,w=>by
  simp[xu]at hk;subst hk;refine⟨true,by simp[Op.eqFields],?_⟩;have h1:xs.drop n=[]:=by cases h:xs.drop n<;>simp_all [rN]
  have h2:ys.drop n=[]:=by cases h:ys.drop n<;>simp_all [rN]
  simp only[h1,h2]
 |f::fs,n,ks,xs,ys,hk,hx,hy,w=>by
  simp only[xu]at hk;split at hk
  .simp at hk
  .rename_i hf;split at hk
   .rename_i k ks' dR kj;simp at hk;subst hk;have Km:f.name≠ "_" :=λe=>hf (.inl e);have QK:f.offset=n:=by
     by_cases h:f.offset=n
     .exact h
     .exact absurd (.inr h) hf
    cases sg:xs.drop n with
    |nil=>rw[sg]at hx;simp[rN]at hx
    |cons a xr=>
     cases Gs:ys.drop n with
     |nil=>rw[Gs]at hy;simp[rN]at hy
     |cons b yr=>
      rw[sg]at hx;rw[Gs]at hy;simp only[rN,alO]at hx hy;have Rb:xs.drop (n+1)=xr:=by rw[<-List.tail_drop,sg];rfl
      have Rf:ys.drop (n+1)=yr:=by rw[<-List.tail_drop,Gs];rfl
      have hxa:xs[n]? =some a:=by rw[<-List.head?_drop,sg];rfl
      have hyb:ys[n]? =some b:=by rw[<-List.head?_drop,Gs];rfl
      obtain⟨r1,cH,acv⟩:=af3 dR hx.1 hy.1 9998 w;obtain⟨r2,cJ,QT⟩:=UE fs (n+1) ks' xs ys kj (by rw[Rb];exact hx.2) (by rw[Rf];exact hy.2) w;have pa:(part f.type ⟨xs⟩ f.offset).run P w=.ok a w:=by
       simp[part,D4 (Rr dR),QK,hxa]
      have pb:(part f.type ⟨ys⟩ f.offset).run P w=.ok b w:=by
       simp[part,D4 (Rr dR),QK,hyb]
      rw[Rb,Rf]at QT;refine⟨r1&&r2,?_,?_⟩
      .simp only[Op.eqFields,Km,ne_eq,not_false_eq_true,anB,Sem.run_bind,pa,pb,Result.andThen_ok,cH];cases r1
       .simp
       .simp[cJ]
      .simp only[alO,acv,QT,anm]
   .simp at hk
def aaV{op:BinOp}{t:TypeId}{fs:Array Field}{ks:List Kd}{x y:Operand}{neg:Bool}(bz:(op=.eql∧neg=false)∨(op=.neq∧neg=true))(hρ:cg σ ρ)(hu:P.underlying t=some (.struct fs))(eU:P.stoodInHeld t=false)(hg:P.eqGuardType P.depth t=false)(hk:xu P 0 fs.toList=some ks)(h:aE P σ w.heap K Qp (.sL neg ks x y)):aR P (ald op t x y (ρ x) (ρ y)) w K:=by
 simp only[aE]at h;split at h
 .rename_i a b hx hy;obtain⟨ha,hb,h1,h2⟩:=h;rw[hρ x _ hx,hρ y _ hy];obtain⟨r,hr,cG⟩:=UE fs.toList 0 ks a.toList b.toList hk (by simpa using ha) (by simpa using hb) w;simp only[anj]at cG;have uU:P.fieldsOf t=fs:=by simp[Program.fieldsOf,hu]
  have he:=run_equalIn_agg (P:=P) w 9999 t a b (by rw[uU];exact hu) eU;rw[uU]at he;have zh:(Op.equalIn 10000 t (.agg a) (.agg b)).run P w=.ok r w:=he.trans hr;have Qi:=run_eqGuard_agg (P:=P) w op t x y a b hg;have bh:(binOp op t (.agg a) (.agg b)).run P w=.ok (.bool (bif r then !neg else neg)) w:=by
   rcases bz with⟨rfl,rfl⟩|⟨rfl,rfl⟩
   .rw[run_eql_struct,zh];cases r<;>rfl
   .rw[run_neq_struct,zh];cases r<;>rfl
  by_cases cY:a.toList=b.toList
  .have:=cG.2 cY;subst this;exact aR.bin Qi bh (h1 cY)
  .have:r=false:=by cases r with
    |false=>rfl
    |true=>exact absurd (cG.1 Y) cY
   subst this;exact aR.bin Qi bh (h2 cY)
 .exact h.elim
def Bk{x:Option Operand}{d:Nat}{n:Int}(hρ:cg σ ρ)(h:ja σ x d=some n):(x=none∧n=d)∨(∃y k,x=some y∧ρ y=.int k n):=by
 unfold ja at h;cases x with
 |none=>simp at h;exact .inl ⟨Y,h.symm⟩
 |some y=>
  simp at h;split at h
  .rename_i k m hy;simp at h;subst h;exact .inr ⟨y,k,Y,hρ y _ hy⟩
  .simp at h
def run_sliceBound{k:IntKind}{i:Int}{y:Nat}{code:BoundsCode}(h0:0<=i)(h1:i<=(y:Int))(w:World):(Instr.sliceBound (.int k i) y code).run P w=.ok i.toNat w:=by
 simp only[Instr.sliceBound,asIntOf,Sem.run_bind,Sem.run_pure,Result.andThen_ok,Sem.run_ite];rw[ak4 ⟨h0,h1⟩]
def UN{l m:Int}{n c:Nat}{isS:Bool}(hρ:cg σ ρ)(hl:ja σ lo 0=some l)(hh:ja σ hi n=some m)(h0:0<=l)(h1:l<=m)(h2:m<=c)(w:World):(Instr.sliceBounds isS n c (lo.map ρ) (hi.map ρ) none).run P w=.ok (l.toNat,m.toNat,c) w:=by
 have rR:0<=m:=ao8 h0 h1;have hlm:l<=(m.toNat:Int):=V
 rcases Bk hρ hh with⟨rfl,rfl⟩|⟨y,k,rfl,hy⟩<;>rcases Bk hρ hl with⟨rfl,rfl⟩|⟨y2,k2,rfl,Gr⟩
 .simp[Instr.sliceBounds]
 .have hb:=λw=>run_sliceBound (P:=P) (k:=k2) (code:=.sliceB) h0 h1 w;simp[Instr.sliceBounds,Gr,hb]
 .have hb:=λw=>run_sliceBound (P:=P) (k:=k) (code:=(if isS then .sliceAcap else .sliceAlen)) rR h2 w;simp[Instr.sliceBounds,hy,hb]
 .have hb:=λw=>run_sliceBound (P:=P) (k:=k) (code:=(if isS then .sliceAcap else .sliceAlen)) rR h2 w;have eL:=λw=>run_sliceBound (P:=P) (k:=k2) (code:=.sliceB) h0 hlm w;simp[Instr.sliceBounds,hy,Gr,hb,eL]
def abm{t e:TypeId}{size:Nat}{x:Operand}(hρ:cg σ ρ)(hu:P.underlying t=some (.slice e))(hs:eW P e=some size)(h:aE P σ w.heap K Qp (.slc size x lo hi)):aR P (do pure (.value (<-Instr.sliceAt t (ρ x) (lo.map ρ) (hi.map ρ) none))) w K:=by
 simp only[aE]at h;split at h
 .rename_i a n c hx;split at h
  .rename_i l m hl hm;obtain⟨h0,h1,h2,h⟩:=h;rw[hρ x _ hx];have hb:=UN (P:=P) (isS:=true) hρ hl hm h0 h1 h2 w;have xf:m.toNat-l.toNat=(m-l).toNat:=V
   have tF:c-l.toNat=((c:Int)-l).toNat:=V
   cases a with
   |none=>
    refine aR.same (v:=.slice none (m-l).toNat (c-l).toNat) ?_ h;simp only[Instr.sliceAt,Sem.run_bind,cZ hu,Result.andThen_ok,Instr.slice,hb,iY hs,Option.map_none,ite_self,Sem.run_pure,xf,tF]
   |some a=>
    obtain⟨b,o,sp⟩:=a;cases sp with
    |some s=>
     obtain⟨tj,h⟩:=h;subst tj;refine aR.same (v:=.slice (some ⟨b,o,some s⟩) (m-0).toNat ((c:Int)-0).toNat) ?_ h;simp only[Instr.sliceAt,Sem.run_bind,cZ hu,Result.andThen_ok,Instr.slice,hb,iY hs,Sem.run_pure,xf,tF,an0];simp[Addr.add]
    |none=>
     refine aR.same (v:=.slice (some ⟨b,if c=l.toNat then o else o+l.toNat*size,none⟩) (m-l).toNat (c-l).toNat) ?_ (h _ (λah=>akZ V) (λhe=>ak4 V));simp only[Instr.sliceAt,Sem.run_bind,cZ hu,Result.andThen_ok,Instr.slice,hb,iY hs,Sem.run_pure,xf,tF,an0,addr_add];split<;>rfl
  .exact h.elim
 .exact h.elim
def af7{hi mx:Operand}{l m k:Int}{n c:Nat}(hρ:cg σ ρ)(hl:ja σ lo 0=some l)(hh:ja σ (some hi) 0=some m)(hk:ja σ (some mx) 0=some k)(h0:0<=l)(h1:l<=m)(h2:m<=k)(h3:k<=c)(w:World):(Instr.sliceBounds true n c (lo.map ρ) ((some hi).map ρ) ((some mx).map ρ)).run P w=.ok (l.toNat,m.toNat,k.toNat) w:=by
 have rR:0<=m:=ao8 h0 h1;have bP:0<=k:=ao8 rR h2;have hlm:l<=(m.toNat:Int):=V
 have lJ:m<=(k.toNat:Int):=V
 rcases Bk hρ hh with⟨e,_⟩|⟨y,ky,e,hy⟩
 .cases e
 cases e;rcases Bk hρ hk with⟨e,_⟩|⟨y3,ky3,e,Rc⟩
 .cases e
 cases e;have rP:=λw=>run_sliceBound (P:=P) (k:=ky3) (code:=.slice3Acap) bP h3 w;have bS:=λw=>run_sliceBound (P:=P) (k:=ky) (code:=.slice3B) rR lJ w;rcases Bk hρ hl with⟨rfl,rfl⟩|⟨y2,k2,rfl,Gr⟩
 .simp[Instr.sliceBounds,hy,Rc,bS,rP]
 .have eL:=λw=>run_sliceBound (P:=P) (k:=k2) (code:=.slice3C) h0 hlm w;simp[Instr.sliceBounds,hy,Gr,Rc,bS,eL,rP]
def abn{t e:TypeId}{size:Nat}{x:Operand}{hi mx:Operand}(hρ:cg σ ρ)(hu:P.underlying t=some (.slice e))(hs:eW P e=some size)(h:aE P σ w.heap K Qp (.vE size x lo hi mx)):aR P (do pure (.value (<-Instr.sliceAt t (ρ x) (lo.map ρ) ((some hi).map ρ) ((some mx).map ρ)))) w K:=by
 simp only[aE]at h;split at h
 .rename_i a n c hx;split at h
  .rename_i l m k hl hm hk;obtain⟨h0,h1,h2,h3,h⟩:=h;rw[hρ x _ hx];have hb:(Instr.sliceBounds true n c (lo.map ρ) (some (ρ hi)) (some (ρ mx))).run P w=.ok (l.toNat,m.toNat,k.toNat) w:=af7 (P:=P) (n:=n) hρ hl hm hk h0 h1 h2 h3 w;have xf:m.toNat-l.toNat=(m-l).toNat:=V
   have tF:k.toNat-l.toNat=((k.toNat:Int)-l).toNat:=V
   cases a with
   |none=>
    refine aR.same (v:=.slice none (m-l).toNat ((k.toNat:Int)-l).toNat) ?_ h;simp only[Instr.sliceAt,Sem.run_bind,cZ hu,Result.andThen_ok,Instr.slice,an0,hb,iY hs,Option.map_none,ite_self,Sem.run_pure,xf,tF]
   |some a=>
    obtain⟨b,o,sp⟩:=a;cases sp with
    |some s=>
     obtain⟨tj,h⟩:=h;subst tj;refine aR.same (v:=.slice (some ⟨b,o,some s⟩) (m-0).toNat ((k.toNat:Int)-0).toNat) ?_ h;simp only[Instr.sliceAt,Sem.run_bind,cZ hu,Result.andThen_ok,Instr.slice,hb,iY hs,Sem.run_pure,xf,tF,an0];simp[Addr.add]
    |none=>
     refine aR.same (v:=.slice (some ⟨b,if k.toNat=l.toNat then o else o+l.toNat*size,none⟩) (m-l).toNat ((k.toNat:Int)-l).toNat) ?_ (h _ (λah=>akZ V) (λhe=>ak4 V));simp only[Instr.sliceAt,Sem.run_bind,cZ hu,Result.andThen_ok,Instr.slice,hb,iY hs,Sem.run_pure,xf,tF,an0,addr_add];split<;>rfl
  .exact h.elim
 .exact h.elim
def abo{t:TypeId}{x:Operand}(hρ:cg σ ρ)(hu:P.underlying t=some .string)(h:aE P σ w.heap K Qp (.xW x lo hi)):aR P (do pure (.value (<-Instr.sliceAt t (ρ x) (lo.map ρ) (hi.map ρ) none))) w K:=by
 simp only[aE]at h;split at h
 .rename_i s hx;split at h
  .rename_i l m hl hm;obtain⟨h0,h1,h2,h⟩:=h;rw[hρ x _ hx];have hb:=UN (P:=P) (isS:=false) hρ hl hm h0 h1 h2 w;refine aR.same ?_ h;simp[Instr.sliceAt,cZ hu,Instr.slice,hb]
  .exact h.elim
 .exact h.elim
def abc{t e:TypeId}{i:TypeInfo}{z:List Value}{x y:Operand}(hρ:cg σ ρ)(hu:P.underlying t=some (.slice e))(hi:P.info? e=some i)(hz:pw P e i.size=some z)(h:aE P σ w.heap K Qp (.DD i.bytes z x y)):aR P (do pure (.value (<-Instr.makeSlice t (ρ x) (ρ y)))) w K:=by
 obtain⟨zv,pV,rfl,tK⟩:=Ep hz;have Rg:i.zero=some zv:=by unfold zeroOf at pV;rw[hi]at pV;exact pV
 simp only[aE]at h;split at h
 .rename_i n c hx hy;obtain⟨h0,h1,h2,h3,h⟩:=h;rw[hρ x _ hx,hρ y _ hy];have hr:=run_make (P:=P) w t e i zv hu hi Rg .i64 .i64 n c h0 h1 h2 V;refine aR.val hr ⟨Y,Y,Y⟩ (h _ _ ?_);have hm:madeCells zv.cells (c.toNat*i.size)=⟨(List.replicate c.toNat zv.cells.toList).flatten⟩:=by
   rw[<-DX];simp[madeCells,tK]
  rw[hm];exact yX w.heap _ e
 .exact h.elim
def abb{t k e:TypeId}{r:Option Operand}(hu:P.underlying t=some (.map k e))(hr:r=none∨∃kk n,r=some (.const (.int kk n)))(hρ:cg σ ρ)(h:aE P σ w.heap K Qp .vn):aR P (do pure (.value (<-Instr.makeMap t (r.map ρ)))) w K:=by
 simp only[aE]at h;refine aR.val (v:=.map (some w.heap.size)) (w':={w with heap:=w.heap.push (.map #[] 0)}) ?_ ⟨Y,Y,Y⟩ (h _ _ (Jv w.heap _));rcases hr with rfl|⟨kk,n,rfl⟩
 .simp[Instr.makeMap]
 .simp[Instr.makeMap,hρ (.const (.int kk n)) _ Y,cZ hu,asInt,asIntOf]
def Ca{t:TypeId}{k:Kd}(hk:iE P t=some k)(v:Value)(hv:fits k v=true)(em:Bool)(w:World):(Instr.checkKey em 10000 t v).run P w=.ok () w:=by
 have hu:=Dr hk;unfold Instr.checkKey;cases k<;>cases v<;>simp[fits]at hv<;>simp[cZ hu,Kd.type]
def agK{k:Kd}{a b:Value}(ha:fits k a=true)(hb:fits k b=true):Instr.sameNow k.type a b=some (Instr.sameBits 10000 a b):=by
 cases k<;>cases a<;>simp[fits]at ha<;>cases b<;>simp[fits]at hb<;>simp_all [Instr.sameNow,Instr.sameBits,Kd.type]
def Pv{k:Kd}{a:Value}(ha:fits k a=true):∀(es:List MapEntry)(i:Nat),(∀e∈es,fits k e.key=true)->
  Instr.findNow k.type a es i=some (bH a es i)
 |[],i,_=>rfl
 |e::es,i,h=>by
  have ih:=Pv ha es (i+1) (λx hx=>h x (by simp[hx]));simp only[Instr.findNow,agK ha (h e Yy),bH];cases Instr.sameBits 10000 a e.key<;>simp[ih]
def run_findKey{t:TypeId}{k:Kd}(hk:iE P t=some k){a:Value}(ha:fits k a=true)(es:List MapEntry)(h:∀e∈es,fits k e.key=true)(w:World):(Instr.findKey t a es).run P w=.ok (bH a es 0) w:=by
 have hu:=Dr hk;simp only[Instr.findKey,Sem.run_bind,cZ hu,Result.andThen_ok,Pv ha es 0 h,Sem.run_pure]
def rq{h:af}{r c:Nat}(hm:cN h r es c)(w:World)(hw:w.heap=h):(getObj r).run P w=.ok (.map ⟨es⟩ c) w:=by
 have wS:h[r]? =some (.map ⟨es⟩ c):=hm;simp[getObj,Sem.run,hw,wS]
def aa7{t k e:TypeId}{x:Operand}{args:Array TypeId}{ty:TypeId}(hρ:cg σ ρ)(ha:args= #[t])(hu:P.underlying t=some (.map k e))(h:aE P σ w.heap K Qp (.zV x)):aR P (do pure (.value (<-Builtin.len_ args ty #[ρ x]))) w K:=by
 subst ha;simp only[aE]at h;split at h
 .rename_i hx;rw[hρ x _ hx];exact aR.same (by simp[Builtin.len_,cZ hu,goInt]) h
 .rename_i r hx;obtain⟨es,c,hm,hk⟩:=h;rw[hρ x _ hx];exact aR.same (by simp[Builtin.len_,cZ hu,goInt,rq hm w Y]) hk
 .exact h.elim
def aa9{t kt et:TypeId}{z:Value}{ok:Bool}{m k:Operand}(hρ:cg σ ρ)(hu:P.underlying t=some (.map kt et))(hk:iE P kt=some kd)(hz:zeroOf P et=some z)(h:aE P σ w.heap K Qp (.look kd z ok m k)):aR P (do pure (.value (<-Instr.lookup t (ρ m) (ρ k) ok))) w K:=by
 simp only[aE]at h;split at h
 .rename_i kv hm tg;obtain⟨hf,h⟩:=h;rw[hρ m _ hm,hρ k _ tg];refine aR.same ?_ h;simp[Instr.lookup,cZ hu,Ca hk kv hf,run_findKey hk hf,bH,qh hz]
 .rename_i r kv hm tg;obtain⟨hf,es,c,hb,qJ,h⟩:=h;rw[hρ m _ hm,hρ k _ tg];have h1:∀em,(Instr.checkKey em 10000 kt kv).run P w=.ok () w:=λem=>Ca hk kv hf em w;have h2:=run_findKey hk hf es qJ w;split at h
  .rename_i i v hv;refine aR.same ?_ h;simp[Instr.lookup,cZ hu,rq hb w Y,h1,h2,hv]
  .rename_i hv;refine aR.same ?_ h;simp[Instr.lookup,cZ hu,rq hb w Y,h1,h2,hv,qh hz]
 .exact h.elim
def xR{k:Kd}{a b:Value}(ha:fits k a=true)(hb:fits k b=true)(h:Instr.sameBits 10000 a b=true):a=b:=by
 cases k<;>cases a<;>simp[fits]at ha<;>cases b<;>simp[fits]at hb<;>simp_all [Instr.sameBits];rename_i s u;rw[beq_toListBytes,Iy]at h;simpa using h
def xS{k:Kd}{a:Value}(ha:fits k a=true):Instr.sameBits 10000 a a=true:=by
 cases k<;>cases a<;>simp[fits]at ha<;>simp[Instr.sameBits];rename_i s;rw[beq_toListBytes];simp
def DB{k:Kd}{a:Value}(ha:fits k a=true):∀(es:List MapEntry)(i j:Nat)(v:Value),(∀e∈es,fits k e.key=true)->bH a es i=some (j,v)->
  i<=j∧∃e,es[j-i]? =some e∧e.key=a∧e.val=v
 |[],i,j,v,_,h=>by simp[bH]at h
 |e::es,i,j,v,hf,h=>by
  simp only[bH]at h;split at h
  .rename_i hs;simp at h;obtain⟨rfl,rfl⟩:=h;exact⟨ali _,e,Yy,(xR ha (hf e Yy) hs).symm,Y⟩
  .obtain⟨h1,e',h2,h3⟩:=DB ha es (i+1) j v (λx hx=>hf x (by simp[hx])) h;refine⟨V,e',?_,h3⟩;have:j-i=(j-(i+1))+1:=V
   rw[this,alQ];exact h2
def Hp{r c c':Nat}{oG:List MapEntry}(hm:cN w.heap r es c):(setObj r (.map ⟨oG⟩ c')).run P w=.ok () {w with heap:=w.heap.setIfInBounds r (.map ⟨oG⟩ c')}:=by
 have wS:w.heap[r]? =some (.map ⟨es⟩ c):=hm;simp[setObj,Sem.run,wS]
def PM{t kt et:TypeId}{m k v:Operand}(hρ:cg σ ρ)(hu:P.underlying t=some (.map kt et))(hk:iE P kt=some kd)(h:aE P σ w.heap K Qp (.fm kd m k v)):aR P (do Instr.mapUpdate t (ρ m) (ρ k) (ρ v);pure .skip) w K:=by
 simp only[aE]at h;split at h
 .rename_i r kv vv hm tg hvv;obtain⟨hf,es,c,hb,qJ,h⟩:=h;rw[hρ m _ hm,hρ k _ tg,hρ v _ hvv];have h1:∀em,(Instr.checkKey em 10000 kt kv).run P w=.ok () w:=λem=>Ca hk kv hf em w;have h2:=run_findKey hk hf es qJ w;split at h
  .rename_i i v0 hv;obtain⟨_,e,he,qI,jw⟩:=DB hf es 0 i v0 qJ hv;rw[anw]at he;have jH:Instr.sameBits 10000 e.key kv=true:=by rw[qI];exact xS hf
   have acg:es.modify i (λe=>{e with key:=kv,val:=vv})=es.modify i (λe=>{e with val:=vv}):=by
    apply aoB;intro j;rw[anV,anV];by_cases hj:i=j
    .subst hj;simp[he,<-qI]
    .simp[hj]
   refine⟨undef,{w with heap:=w.heap.setIfInBounds r (.map ⟨es.modify i λe=>{e with val:=vv}⟩ c)},.inr ⟨?_,Y⟩,⟨Y,Y,Y⟩,h _ (xM hb)⟩
   have tf:(Instr.keyThatStays (((⟨es⟩:Array MapEntry)[i]?.map (·.key)).getD kv) kv).run P w=.ok kv w:=by
    simp[Instr.keyThatStays,he,jH]
   have Ge:(⟨es⟩:Array MapEntry).modify i (λe=>{e with key:=kv,val:=vv})=⟨es.modify i λe=>{e with val:=vv}⟩:=by
    rw[<-acg];apply amI;simp
   simp only[Instr.mapUpdate,Sem.run_bind,cZ hu,Result.andThen_ok,rq hb w Y,h1,h2,hv,tf];rw[Ge,Hp hb];rfl
  .rename_i hv;refine⟨undef,{w with heap:=w.heap.setIfInBounds r (.map ⟨es++[{key:=kv,val:=vv,born:=c}]⟩ (c+1))},.inr ⟨?_,Y⟩,⟨Y,Y,Y⟩,h _ (xM hb)⟩;have acr:(⟨es⟩:Array MapEntry).push {key:=kv,val:=vv,born:=c}=⟨es++[{key:=kv,val:=vv,born:=c}]⟩:=by apply amI;simp
   simp only[Instr.mapUpdate,Sem.run_bind,cZ hu,Result.andThen_ok,rq hb w Y,h1,h2,hv];rw[acr,Hp hb];rfl
 .exact h.elim
def aa'{t u kt et:TypeId}{m k:Operand}{ty:TypeId}(hρ:cg σ ρ)(hu:P.underlying t=some (.map kt et))(hk:iE P kt=some kd)(h:aE P σ w.heap K Qp (.Dy kd m k)):aR P (do pure (.value (<-Builtin.delete_ #[t,u] ty #[ρ m,ρ k]))) w K:=by
 simp only[aE]at h;split at h
 .rename_i kv hm tg;rw[hρ m _ hm,hρ k _ tg];refine aR.same ?_ h.2;simp[Builtin.delete_,cZ hu,Ca hk kv h.1]
 .rename_i r kv hm tg;obtain⟨hf,es,c,hb,qJ,h⟩:=h;rw[hρ m _ hm,hρ k _ tg];have h1:∀em,(Instr.checkKey em 10000 kt kv).run P w=.ok () w:=λem=>Ca hk kv hf em w;have h2:=run_findKey hk hf es qJ w;split at h
  .rename_i i v hv;refine aR.val (v:=.tuple #[]) (w':={w with heap:=w.heap.setIfInBounds r (.map ⟨es.eraseIdx i⟩ c)}) ?_ ⟨Y,Y,Y⟩ (h _ (xM hb));have he:(⟨es⟩:Array MapEntry).eraseIdxIfInBounds i=⟨es.eraseIdx i⟩:=by apply amI;simp
   simp only[Builtin.delete_,Sem.run_bind,cZ hu,Result.andThen_ok,rq hb w Y,h1,h2,hv,anQ,ant,alQ];rw[he,Hp hb];rfl
  .rename_i hv;refine aR.val (v:=.tuple #[]) (w':={w with heap:=w.heap.setIfInBounds r (.map ⟨es⟩ c)}) ?_ ⟨Y,Y,Y⟩ (h _ (xM hb));simp only[Builtin.delete_,Sem.run_bind,cZ hu,Result.andThen_ok,rq hb w Y,h1,h2,hv,anQ,ant,alQ];rw[Hp hb];rfl
 .exact h.elim
end Go.Sx
namespace Go.Sx
open Go
variable {P:Program}{σ:Env}{ρ:Operand->Value}{w:World}{K:Value->af->Prop}{Qp:List PanicEntry->af->Prop}
def PS(need:Nat):∀(r c:Nat),c<=2*need+768->Builtin.growBy need r c<=2*need+768
 |0,c,h=>h
 |r+1,c,h=>by
  unfold Builtin.growBy;split
  .exact h
  .exact PS need r _ V
def nextslicecap_le{need old:Nat}(h:old<need):Builtin.nextslicecap need old<=2*need+768:=by
 unfold Builtin.nextslicecap;split
 .omega
 .split
  .omega
  .exact PS need 4 old V
def Hm{h:af}{a:Option Addr}{n size cap m:Nat}{xs:List Value}(hs:Src h a n xs)(hl:xs.length=n*size)(w:World)(hw:w.heap=h):(Builtin.firstCells size n (.slice a m cap)).run P w=.ok ⟨xs⟩ w:=by
 cases a with
 |none=>
  have h0:n=0:=hs;subst h0;have:xs=[]:=by simpa using hl
  subst this;rfl
 |some a=>
  obtain⟨b,o,sp⟩:=a;cases sp with
  |some s=>
   have h0:n=0:=hs;subst h0;have:xs=[]:=by simpa using hl
   subst this;simp[Builtin.firstCells,loadCells,loadCellsFrom]
  |none=>
   have:=UL (P:=P) w hw hs;rw[hl]at this;exact this
def UP{a:Option Addr}{ys:List Value}{KK:af->Prop}(hw:vL w.heap KK a ys):∃w',(match a with|some a=>storeCells a ys|none=>pure ()).run P w=.ok () w'∧ck w w'∧KK w'.heap:=by
 by_cases hy:ys=[]
 .subst hy;refine⟨w,?_,ck.refl w,hw.1 Y⟩;cases a<;>rfl
 .have h:=hw.2 hy;split at h
  .rename_i b o;obtain⟨l,⟨e,hb⟩,bK,h1,hk⟩:=h;obtain⟨w',hr,jH,mX⟩:=Hq (P:=P) b e ys 0 o l w hb V h1;rw[an6]at mX;refine⟨w',hr,jH,hk _ ?_⟩;rw[mX];exact Md hb
  .exact h.elim
def aaS{t u e e2:TypeId}{size:Nat}{x y:Operand}{ty:TypeId}(hρ:cg σ ρ)(hu:P.underlying t=some (.slice e))(_:P.underlying u=some (.slice e2))(hs:eW P e=some size)(h:aE P σ w.heap K Qp (.BO size x y)):aR P (do pure (.value (<-Builtin.copy_ #[t,u] ty #[ρ x,ρ y]))) w K:=by
 simp only[aE]at h;split at h
 .rename_i a n c a' m c' hx hy;obtain⟨ys,Gt,KW,hw⟩:=h;rw[hρ x _ hx,hρ y _ hy];have fy:=Hm (P:=P) (cap:=c') (m:=m) KW Gt w Y;obtain⟨w',hr,hb,hk⟩:=UP (P:=P) hw;refine aR.val (v:=.int .i64 (min m n:Nat)) (w':=w') ?_ hb hk;have Gf:Nat.min m n=min m n:=rfl;cases a with
  |none=>
   have cG:(pure ():Sem Unit).run P w=.ok () w':=hr;have e:w'=w:=by simpa using cG.symm
   subst e;simp[Builtin.copy_,cZ hu,Builtin.lenOf,iY hs,Gf,fy,goInt]
  |some a=>
   have cG:(storeCells a ys).run P w=.ok () w':=hr;simp[Builtin.copy_,cZ hu,Builtin.lenOf,iY hs,Gf,fy,goInt,cG]
 .exact h.elim
def aaQ{t e:TypeId}{i:TypeInfo}{z:List Value}{x:Operand}{args:Array TypeId}{ty:TypeId}(hρ:cg σ ρ)(ha:args= #[t])(hu:P.underlying t=some (.slice e))(hz:pw P e i.size=some z)(h:aE P σ w.heap K Qp (.BI z x)):aR P (do pure (.value (<-Builtin.clear_ args ty #[ρ x]))) w K:=by
 subst ha;obtain⟨zv,pV,rfl,tK⟩:=Ep hz;simp only[aE]at h;split at h
 .rename_i a n c hx;rw[hρ x _ hx];have zJ:(Builtin.zeroCells zv.cells n).toList=(List.replicate n zv.cells.toList).flatten:=by
   have:Builtin.zeroCells zv.cells n=⟨(List.replicate n zv.cells.toList).flatten⟩:=DX _ _;rw[this]
  obtain⟨w',hr,hb,hk⟩:=UP (P:=P) h;refine aR.val (v:=.tuple #[]) (w':=w') ?_ hb hk;cases a with
  |none=>
   have cG:(pure ():Sem Unit).run P w=.ok () w':=hr;have e:w'=w:=by simpa using cG.symm
   subst e;simp[Builtin.clear_,cZ hu]
  |some a=>
   have cG:(storeCells a (List.replicate n zv.cells.toList).flatten).run P w=.ok () w':=hr;cases n with
   |zero=>
    have e:w'=w:=by simpa[storeCells]using cG.symm
    subst e;simp[Builtin.clear_,cZ hu]
   |succ n=>simp[Builtin.clear_,cZ hu,qh pV,zJ,cG]
 .exact h.elim
def aaH{t u e:TypeId}{ku:IntKind}{i:TypeInfo}{z:List Value}{x y:Operand}{ty:TypeId}(hρ:cg σ ρ)(hu:P.underlying t=some (.slice e))(iD:P.underlying u=some (.int ku))(hi:P.info? e=some i)(mi:1<=i.bytes)(hz:pw P e i.size=some z)(h:aE P σ w.heap K Qp (.Bh i.size i.bytes z x y)):aR P (do pure (.value (<-Builtin.append_ #[t,u] ty #[ρ x,ρ y]))) w K:=by
 obtain⟨zv,pV,rfl,tK⟩:=Ep hz;have aS:eW P e=some i.size:=by simp[eW,hi]
 simp only[aE]at h;split at h
 .rename_i a n c k hx hy;obtain⟨h0,PT,xs,Gq,zI,jG,hbound,hk⟩:=h;obtain⟨m,rfl⟩:∃m:Nat,k=m:=⟨k.toNat,V⟩
  rw[anN]at jG hbound hk;rw[hρ x _ hx,hρ y _ hy];have fx:∀w':World,w'.heap=w.heap->(Builtin.firstCells i.size n (.slice a n c)).run P w'=.ok ⟨xs⟩ w':=λw' tH=>Hm zI Gq w' tH;have wY:n+m<9223372036854775808:=by
   have h2:(n+m)*2+768<=((n+m)*2+768)*i.bytes:=aoP _ mi;omega
  have hwr:IntKind.i64.wrap (m:Int)=m:=by
   have e:IntKind.i64.wrap (m:Int)=if(m:Int)%18446744073709551616>=9223372036854775808 then(m:Int)%18446744073709551616-18446744073709551616 else(m:Int)%18446744073709551616:=by
    simp[IntKind.wrap,IntKind.bits,IntKind.signed]
   rw[e];split<;>omega
  have gz:¬((m:Int)<0):=V
  have rS:¬((m:Int)*(i.bytes:Nat)>2 ^ 48):=by
   have h2:m*i.bytes<=((n+m)*2+768)*i.bytes:=am3 _ V;have h3:((m*i.bytes:Nat):Int)=(m:Int)*(i.bytes:Nat):=by rw[Int.natCast_mul]
   omega
  have CB:¬(Builtin.nextslicecap (n+m) c*i.bytes>2 ^ 48):=by
   have h2:=nextslicecap_le (need:=n+m) (old:=c) V;have h3:Builtin.nextslicecap (n+m) c*i.bytes<=(2*(n+m)+768)*i.bytes:=am3 _ h2;have h4:(2*(n+m)+768)*i.bytes=((n+m)*2+768)*i.bytes:=by rw[aoF 2]
   omega
  obtain⟨cap,qG⟩:∃cap,cap=(Question.appendCap (n+m) c e).cut (w.tape w.drawn (.appendCap (n+m) c e)):=⟨_,Y⟩
  have JV:n+m<=cap:=by rw[qG];simp[Question.cut]
  obtain⟨w1,hG⟩:∃w1:World,w1={w with drawn:=w.drawn+1}:=⟨_,Y⟩
  have iA:(choose (.appendCap (n+m) c e)).run P w=.ok cap w1:=by
   rw[run_choose,qG,hG];simp[Question.forced]
  have zJ:∀q,Builtin.zeroCells zv.cells q=⟨(List.replicate q zv.cells.toList).flatten⟩:=λq=>DX _ _;have uW:w1.heap=w.heap:=by rw[hG]
  have hnr:¬n+m<=c:=V
  have hg1:¬(((n+m:Nat):Int)>IntKind.i64.max):=by
   have:IntKind.i64.max=9223372036854775807:=rfl;omega
  have fe:∀w':World,(if m*i.size=0 then(pure #[]:Sem (Array Value))else do pure (Builtin.zeroCells (<-zeroValue e).cells m)).run P w'=.ok ⟨(List.replicate m zv.cells.toList).flatten⟩ w':=by
   intro w';by_cases h0:m*i.size=0
   .rw[ak4 h0];have:(List.replicate m zv.cells.toList).flatten=[]:=by
     rcases Nat.mul_eq_zero.1 h0 with h|h
     .rw[h];rfl
     .have:zv.cells.toList=[]:=by
       apply amW;rw[Array.length_toList,tK,h]
      rw[this];simp
    rw[this];rfl
   .rw[akZ h0,Sem.run_bind,qh pV];simp only[Result.andThen_ok,Sem.run_pure,zJ]
  refine aR.val (v:=.slice (some ⟨w.heap.size,0,none⟩) (n+m) cap)
   (w':={w1 with heap:=w1.heap.push (.cells ⟨xs++(List.replicate m zv.cells.toList).flatten++(List.replicate (cap-(n+m)) zv.cells.toList).flatten⟩ e)}) ?_ ⟨by rw[hG],by rw[hG],by rw[hG]⟩ (hk cap _ _ JV ?_)
  .have gV:(⟨xs⟩:Array Value)++⟨(List.replicate m zv.cells.toList).flatten⟩++⟨(List.replicate (cap-(n+m)) zv.cells.toList).flatten⟩=⟨xs++(List.replicate m zv.cells.toList).flatten++(List.replicate (cap-(n+m)) zv.cells.toList).flatten⟩:=by
    apply amI;simp
   have abF:∀w,(asInt (.int .i64 (m:Int))).run P w=.ok (m:Int) w:=λw=>rfl;simp only[Builtin.append_,anQ,ant,alQ,Sem.run_bind,cZ hu,cZ iD,Result.andThen_ok,iY aS,
    Sem.run_pure,Builtin.lenOf,Hr hi,anB,abF,hwr,akZ gz,akZ rS,anN,true_or,aoG,Bool.not_true,amH,ana,akZ hnr,akZ hg1,akZ CB,iA,run_askRoom,fx w1 uW,fe,qh pV,zJ,gV,newRow,run_newObj]
   rw[uW]
  .show jr w.heap (w1.heap.push _) w.heap.size _;rw[uW];exact yX w.heap _ e
 .exact h.elim
def PL{t u e e2:TypeId}{i:TypeInfo}{z:List Value}{x y:Operand}{ty:TypeId}(hρ:cg σ ρ)(hu:P.underlying t=some (.slice e))(iD:P.underlying u=some (.slice e2))(hi:P.info? e=some i)(mi:1<=i.bytes)(hz:pw P e i.size=some z)(h:aE P σ w.heap K Qp (.app i.size i.bytes z x y)):aR P (do pure (.value (<-Builtin.append_ #[t,u] ty #[ρ x,ρ y]))) w K:=by
 obtain⟨zv,pV,rfl,tK⟩:=Ep hz;have aS:eW P e=some i.size:=by simp[eW,hi]
 simp only[aE]at h;split at h
 .rename_i a n c a' m c' hx hy;unfold ux at h;obtain⟨xs,ys,Gq,Gt,zI,KW,h1,hin,pR⟩:=h;unfold Ip at hin;rw[hρ x _ hx,hρ y _ hy];have fx:∀w':World,w'.heap=w.heap->(Builtin.firstCells i.size n (.slice a n c)).run P w'=.ok ⟨xs⟩ w':=λw' tH=>Hm zI Gq w' tH;have fy:∀w':World,w'.heap=w.heap->(Builtin.firstCells i.size m (.slice a' m c')).run P w'=.ok ⟨ys⟩ w':=λw' tH=>Hm KW Gt w' tH;by_cases jG:n+m<=c
  .have h:=hin jG;cases a with
   |none=>
    refine aR.same (v:=.slice none (n+m) c) ?_ h;simp[Builtin.append_,cZ hu,cZ iD,iY aS,Builtin.lenOf,jG,fy w Y]
   |some a=>
    obtain⟨b,o,sp⟩:=a;cases sp with
    |some s=>exact h.elim
    |none=>
     obtain⟨l,⟨eb,hb⟩,bK,hk⟩:=h;have abZ:o+n*i.size+0+ys.length<=l.length:=by
      rw[Gt];have:(n+m)*i.size=n*i.size+m*i.size:=aoa _ _ _;omega
     obtain⟨w',hr,jH,mX⟩:=Hq (P:=P) b eb ys 0 (o+n*i.size) l w hb abZ h1;rw[an6]at mX;refine aR.val (v:=.slice (some ⟨b,o,none⟩) (n+m) c) (w':=w') ?_ jH (hk _ ?_)
     .have cG:(storeCells ⟨b,o+n*i.size,none⟩ ys).run P w=.ok () w':=hr;simp[Builtin.append_,cZ hu,cZ iD,iY aS,Builtin.lenOf,jG,fy w Y,addr_add,cG]
     .rw[mX];exact Md hb
  .obtain⟨hbound,hk⟩:=pR V;have wY:n+m<9223372036854775808:=by
    have h2:(n+m)*2+768<=((n+m)*2+768)*i.bytes:=aoP _ mi;omega
   have hg1:¬(((n+m:Nat):Int)>IntKind.i64.max∧((false=true)∨i.bytes=0)):=by
    rintro⟨_,h|h⟩
    .cases h
    .omega
   have CB:¬(Builtin.nextslicecap (n+m) c*i.bytes>2 ^ 48):=by
    have h2:=nextslicecap_le (need:=n+m) (old:=c) V;have h3:Builtin.nextslicecap (n+m) c*i.bytes<=(2*(n+m)+768)*i.bytes:=am3 _ h2;have h4:(2*(n+m)+768)*i.bytes=((n+m)*2+768)*i.bytes:=by rw[aoF 2]
    omega
   obtain⟨cap,qG⟩:∃cap,cap=(Question.appendCap (n+m) c e).cut (w.tape w.drawn (.appendCap (n+m) c e)):=⟨_,Y⟩
   have JV:n+m<=cap:=by rw[qG];simp[Question.cut]
   obtain⟨w1,hG⟩:∃w1:World,w1={w with drawn:=w.drawn+1}:=⟨_,Y⟩
   have iA:(choose (.appendCap (n+m) c e)).run P w=.ok cap w1:=by
    rw[run_choose,qG,hG];simp[Question.forced]
   have zJ:Builtin.zeroCells zv.cells (cap-(n+m))=⟨(List.replicate (cap-(n+m)) zv.cells.toList).flatten⟩:=DX _ _;have uW:w1.heap=w.heap:=by rw[hG]
   have hnr:¬n+m<=c:=jG;refine aR.val (v:=.slice (some ⟨w.heap.size,0,none⟩) (n+m) cap)
    (w':={w1 with heap:=w1.heap.push (.cells ⟨xs++ys++(List.replicate (cap-(n+m)) zv.cells.toList).flatten⟩ e)}) ?_ ⟨by rw[hG],by rw[hG],by rw[hG]⟩ (hk cap _ _ JV ?_)
   .have gV:(⟨xs⟩:Array Value)++⟨ys⟩++⟨(List.replicate (cap-(n+m)) zv.cells.toList).flatten⟩=⟨xs++ys++(List.replicate (cap-(n+m)) zv.cells.toList).flatten⟩:=by
     apply amI;simp
    have ab2:¬(((n+m:Nat):Int)>IntKind.i64.max∧i.bytes=0):=λh=>hg1 ⟨h.1,.inr h.2⟩;simp only[Builtin.append_,anQ,ant,alQ,Sem.run_bind,cZ hu,cZ iD,Result.andThen_ok,iY aS,
     Sem.run_pure,Builtin.lenOf,Hr hi,amH,false_or,ana,akZ hnr,akZ ab2,akZ CB,iA,run_askRoom,fx w1 uW,fy w1 uW,qh pV,zJ,gV,newRow,run_newObj,aoW,anB]
    rw[uW]
   .show jr w.heap (w1.heap.push _) w.heap.size _;rw[uW];exact yX w.heap _ e
 .exact h.elim
def aaG{t u e e2:TypeId}{i:TypeInfo}{z:List Value}{y:Operand}{ty:TypeId}(hρ:cg σ ρ)(hu:P.underlying t=some (.slice e))(iD:P.underlying u=some (.slice e2))(hi:P.info? e=some i)(mi:1<=i.bytes)(hz:pw P e i.size=some z)(h:aE P σ w.heap K Qp (.uy i.size i.bytes z y)):aR P (do pure (.value (<-Builtin.append_ #[t,u] ty #[ρ (.const (.slice none 0 0)),ρ y]))) w K:=by
 refine PL (Qp:=Qp) (x:=.const (.slice none 0 0)) hρ hu iD hi mi hz ?_;simp only[aE]at h⊢;split at h
 .rename_i a' m c' hy;rw[hy];exact h
 .exact h.elim
end Go.Sx
namespace Go.Sx
open Go
variable {P:Program}{σ:Env}{ρ:Operand->Value}{w:World}{K:Value->af->Prop}{Qp:List PanicEntry->af->Prop}
def aa3{t e:TypeId}{n size:Nat}{x i:Operand}(hρ:cg σ ρ)(hu:P.underlying t=some (.array n e))(hg:pE P e=some false)(hs:eW P e=some size)(h:aE P σ w.heap K Qp (.zN n size x i)):aR P (do pure (.value (<-Instr.index t (ρ x) (ρ i)))) w K:=by
 simp only[aE]at h;split at h
 .rename_i cs k j hx hi;obtain⟨v,h0,h1,hv,hk⟩:=h;rw[hρ x _ hx,hρ i _ hi];refine aR.same (v:=v) ?_ hk;have Dh:cs[j.toNat*size]? =some v:=by simpa using hv
  simp[Instr.index,asIntOf,cZ hu,h0,h1,iY hs,part,D4 hg,Dh]
 .exact h.elim
def abr{t xt:TypeId}{d:TypeDesc}{z:Value}{ok:Bool}{x:Operand}(hρ:cg σ ρ)(hu:P.underlying t=some d)(hd:∀ms,d≠.interface ms)(hz:zeroOf P t=some z)(h:aE P σ w.heap K Qp (.vH t z ok x)):aR P (do pure (.value (<-Instr.typeAssert (ρ x) xt t ok))) w K:=by
 simp only[aE]at h;split at h
 .rename_i hx;obtain⟨rfl,hk⟩:=h;rw[hρ x _ hx];refine aR.same ?_ hk;cases d<;>first|exact absurd Y (hd _)|simp[Instr.typeAssert,cZ hu,qh hz]
 .rename_i u v hx;rw[hρ x _ hx];by_cases sd:u=t
  .refine aR.same ?_ (h.1 sd);cases ok<;>cases d<;>first|exact absurd Y (hd _)|simp[Instr.typeAssert,cZ hu,sd]
  .obtain⟨rfl,hk⟩:=h.2 sd;refine aR.same ?_ hk;cases d<;>first|exact absurd Y (hd _)|simp[Instr.typeAssert,cZ hu,sd,qh hz]
 .exact h.elim
def abx(w:World)(n old:Nat)(e:TypeId):n<=grownCap w n old e:=by
 unfold grownCap;simp[Question.cut]
def aaN{s d e:TypeId}{x:Operand}(hρ:cg σ ρ)(hs:P.underlying s=some .string)(hd:P.underlying d=some (.slice e))(he:P.underlying e=some (.int .u8))(h:aE P σ w.heap K Qp (.vZ x)):aR P (do pure (.value (<-convert s d (ρ x)))) w K:=by
 simp only[aE]at h;split at h
 .rename_i b hx;rw[hρ x _ hx];have hr:=Lib.run_convert_string_bytes w s d e b hs hd he;have abS:Lib.bytesCells w e b=⟨byteCells b++List.replicate (grownCap w b.size 0 e-b.size) (.int .u8 0)⟩:=by
   apply amI;simp[Lib.bytesCells,byteCells]
  refine aR.val hr ⟨Y,Y,Y⟩ (h _ _ _ (abx w b.size 0 e) ⟨Y,?_,Lib.bytesWorld_size w e b,λk hk=>Lib.bytesWorld_at_old w e b k hk⟩);refine⟨e,_,?_,.inr Y⟩;rw[Lib.bytesWorld_at_new,abS];rfl
 .exact h.elim
def UO(b:Nat)(e:TypeId)(k:Nat×Nat):∀(vs:List Value)(i o:Nat)(l:List Value)(w:World),w.heap[b]? =some (.cells ⟨l⟩ e k)->(k=(0,0)∨k=(l.length,l.length+1))->o+i+vs.length<=l.length->(∀v∈vs,v.oneCell'=true)->
  ∃w',(storeCells ⟨b,o,none⟩ vs i).run P w=.ok () w'∧ck w w'∧w'.heap=w.heap.setIfInBounds b (.cells ⟨splice l (o+i) vs⟩ e k)
 |[],i,o,l,w,hb,_,_,_=>by
  refine⟨w,by simp[storeCells],ck.refl w,?_⟩;rw[xY];apply anr;intro k;rw[amG];split
  .rename_i h;subst h;have ah:=(al4.1 hb).1;rw[ak4 ah,hb]
  .rfl
 |v::vs,i,o,l,w,hb,hk,hl,h1=>by
  simp only[ak0]at hl;have hc:w.cell? ⟨b,o+i,none⟩=some l[o+i]:=by
   rw[BE];unfold cell;rw[hb];simp
  have hf:w.frozen? ⟨b,o+i,none⟩=false:=by
   unfold World.frozen?;rw[hb];rcases hk with rfl|rfl
   .simp
   .simp;omega
  have ah:=(al4.1 hb).1;have tE:(w.setCell ⟨b,o+i,none⟩ v).heap=w.heap.setIfInBounds b (.cells ⟨l.set (o+i) v⟩ e k):=by
   unfold World.setCell;apply anr;intro k;simp only[aoU,amG];by_cases hk:b=k
   .subst hk;have:=(al4.1 hb).2;simp[ah,this]
   .simp[hk]
  have bh:(w.setCell ⟨b,o+i,none⟩ v).heap[b]? =some (.cells ⟨l.set (o+i) v⟩ e k):=by
   rw[tE];simp[ah]
  obtain⟨w',hr,jH,mX⟩:=UO b e k vs (i+1) o (l.set (o+i) v) (w.setCell ⟨b,o+i,none⟩ v) bh (by simpa using hk) Ys (λx hx=>h1 x (by simp[hx]));refine⟨w',?_,⟨jH.1,jH.2.1,jH.2.2⟩,?_⟩
  .have hv:=h1 v Yy;simp only[storeCells,Sem.run_bind,addr_add,run_store P w _ v .plain hv,hc,hf,amH,ana,Result.andThen_ok];exact hr
  .rw[mX,tE,MN l (o+i) v vs V];apply anr;intro k;simp only[amG,an5];split<;>simp_all [anL]
def aeQ{h:af}{b o:Nat}{l vs:List Value}{e:TypeId}{k k0:Nat×Nat}{c:Array Value}(hb:h[b]? =some (.cells c e k0))(hk:k=(0,0)∨k=(l.length,l.length+1)):Ig h (h.setIfInBounds b (.cells ⟨splice l o vs⟩ e k)) b (splice l o vs):=by
 have ah:=(al4.1 hb).1;refine⟨⟨e,k,by simp[ah],by rw[ry];exact hk⟩,Yy,λk hk=>?_,λt ⟨c',k',ht⟩=>?_⟩
 .rw[amG,akZ (λh=>hk h.symm)]
 .rw[hb]at ht;simp at ht;obtain⟨_,rfl,_⟩:=ht;exact⟨_,_,by simp[ah];exact⟨Y,Y⟩⟩
def abq{t:TypeId}{x v:Operand}(hρ:cg σ ρ)(hs:eW P t=some 1)(h:aE P σ w.heap K Qp (.HH x v)):aR P (do Instr.storeAt t (ρ x) (ρ v);pure .skip) w K:=by
 simp only[aE]at h;split at h
 .rename_i b o v' hx hv;obtain⟨l,⟨e,k,hb,dk⟩,bK,hn,h1,hk⟩:=h;obtain⟨w',hr,jH,mX⟩:=UO (P:=P) b e k v'.cells.toList 0 o l w hb dk (by rw[hn];omega) h1;rw[an6]at mX;rw[hρ x _ hx,hρ v _ hv];refine⟨undef,w',.inr ⟨?_,Y⟩,jH,hk _ ?_⟩
  .have ax:¬(v'.cells.size≠1):=by simp at hn;simp[hn]
   have cG:(storeCells ⟨b,o,none⟩ v'.cells.toList).run P w=.ok () w':=hr;simp only[Instr.storeAt,Instr.sureAddr,storeVar,Sem.run_bind,Sem.run_pure,Result.andThen_ok,iY hs];rw[akZ ax];simp[cG]
  .rw[mX];exact aeQ hb dk
 .exact h.elim
def abl{t k e:TypeId}{x:Operand}(hρ:cg σ ρ)(hu:P.underlying t=some (.map k e))(h:aE P σ w.heap K Qp (.rng x)):aR P (do pure (.value (<-Instr.range t (ρ x)))) w K:=by
 simp only[aE]at h;split at h
 .rename_i hx;rw[hρ x _ hx];refine aR.val (v:=.pointer (some ⟨w.heap.size,0,none⟩)) (w':={w with heap:=w.heap.push (.mapIter none 0 #[] 0)}) ?_ ⟨Y,Y,Y⟩ (h _ _ (Jv w.heap _));simp[Instr.range,cZ hu]
 .rename_i r hx;obtain⟨es,c,hm,hk⟩:=h;rw[hρ x _ hx];refine aR.val (v:=.pointer (some ⟨w.heap.size,0,none⟩)) (w':={w with heap:=w.heap.push (.mapIter (some r) c #[] c)}) ?_ ⟨Y,Y,Y⟩ (hk _ _ (Jv w.heap _));simp[Instr.range,cZ hu,rq hm w Y]
 .exact h.elim
def Gy:Obj->Bool
 |.mapIter .. =>true
 |_=>false
def Hn{h:af}{r:Nat}{x:Obj}(hm:h[r]? =some x)(hi:Gy x=true)(w:World)(hw:w.heap=h):(getObj r).run P w=.ok x w:=by
 cases x<;>simp[Gy]at hi<;>simp[getObj,Sem.run,hw,hm]
def af6{r:Nat}{x y:Obj}(hm:w.heap[r]? =some x)(hi:Gy x=true):(setObj r y).run P w=.ok () {w with heap:=w.heap.setIfInBounds r y}:=by
 cases x<;>simp[Gy]at hi<;>simp[setObj,Sem.run,hm]
def abh{x:Operand}{ty:TypeId}(hρ:cg σ ρ)(h:aE P σ w.heap K Qp (.gD x)):aR P (do pure (.value (<-Instr.next (ρ x) false ty))) w K:=by
 simp only[aE]at h;split at h
 .rename_i r hx;rw[hρ x _ hx];rcases h with⟨since,seen,last,hr,hk⟩|⟨m,since,seen,last,es,clock,hr,hm,JJ,aN,h1,h2⟩
  .refine aR.same (v:=.tuple #[.bool false]) ?_ hk;simp[Instr.next,Hn hr Y w Y]
  .have zB:(!seen.isEmpty&&!(⟨es⟩:Array MapEntry).isEmpty&&(⟨es⟩:Array MapEntry).all (λe=>decide (e.born>=last)))=false:=by
    rcases aN with rfl|rfl|hle
    .simp
    .simp
    .cases es with
     |nil=>simp
     |cons e es=>
      have:=JJ e Yy;have ah:¬e.born>=last:=V
      simp[ah]
   have bD:∀e∈es,decide (e.born<since)=true:=λe he=>by simpa using JJ e he
   have QD:∀e∈es,decide (e.born>=since)=false:=λe he=>by have:=JJ e he;simp;omega
   obtain⟨left,alH⟩:∃left:List MapEntry,left=es.filter λe=>!seen.contains e.born:=⟨_,Y⟩
   have hold:((⟨es⟩:Array MapEntry).filter λe=>!seen.contains e.born).filter (λe=>decide (e.born<since))=⟨left⟩:=by
    apply amI;simp only[Array.toList_filter,<-alH];refine List.filter_eq_self.2 λe he=>?_;rw[alH]at he;exact bD e (amb.1 he).1
   have CT:((⟨es⟩:Array MapEntry).filter λe=>!seen.contains e.born).filter (λe=>decide (e.born>=since))=⟨[]⟩:=by
    apply amI;simp only[Array.toList_filter,<-alH];refine List.filter_eq_nil_iff.2 λe he=>?_;rw[alH]at he;rw[QD e (amb.1 he).1];simp
   cases hl:left with
   |nil=>
    have Cw:∀e∈es,seen.contains e.born=true:=by
     intro e he;by_cases hs:seen.contains e.born=true
     .exact hs
     .have:e∈left:=by rw[alH];exact amb.2 ⟨he,by simpa using hs⟩
      rw[hl]at this;simp at this
    obtain⟨w1,hG⟩:∃w1:World,w1=(if(Question.mapNext 1).forced then w else{w with drawn:=w.drawn+1}):=⟨_,Y⟩
    have iA:(choose (.mapNext 1)).run P w=.ok 0 w1:=by
     rw[run_choose,hG];by_cases hf:(Question.mapNext 1).forced=true
     .simp[hf]
     .simp only[hf,ana,amH];have:(Question.mapNext 1).cut (w.tape w.drawn (.mapNext 1))=0:=by simp[Question.cut];omega
      rw[this]
    have bS:ck w w1:=by rw[hG];split<;>exact⟨Y,Y,Y⟩
    have sU:w1.heap=w.heap:=by rw[hG];split<;>rfl
    refine aR.val (v:=.tuple #[.bool false]) (w':=w1) ?_ bS (by rw[sU];exact h1 Cw);have JR:(if(⟨[]⟩:Array MapEntry).isEmpty=true then(#[none]:Array (Option MapEntry))else #[])++((⟨[]⟩:Array MapEntry)++(⟨[]⟩:Array MapEntry)).map some= #[none]:=by
     apply amI;simp
    have Df:(#[none]:Array (Option MapEntry)).size=1:=rfl;have hc0:(#[none]:Array (Option MapEntry))[0]? =some none:=rfl;simp only[Instr.next,Sem.run_bind,Hn hr Y w Y,Result.andThen_ok,rq hm w Y,zB,amH,ana,Sem.run_pure,hold,CT,hl,JR,Df,iA,hc0]
   |cons e0 rest=>
    obtain⟨q,hq⟩:∃q,q=Question.mapNext (left.length):=⟨_,Y⟩
    obtain⟨w1,j,iA,hj,bS,sU⟩:∃w1 j,(choose q).run P w=.ok j w1∧j<left.length∧ck w w1∧w1.heap=w.heap:=by
     rw[run_choose];by_cases hf:q.forced=true
     .exact⟨w,0,by simp[hf],by rw[hl];simp,ck.refl w,Y⟩
     .refine⟨{w with drawn:=w.drawn+1},q.cut (w.tape w.drawn q),by simp only[hf,ana,amH],?_,⟨Y,Y,Y⟩,Y⟩;rw[hq];have:0<left.length:=by rw[hl];simp
      simp only[Question.cut];exact Nat.mod_lt _ this
    obtain⟨e,sY⟩:∃e,left[j]? =some e:=⟨_,akU hj⟩
    have hin:e∈left:=al9 sY;have Qm:=hin;rw[alH]at Qm;obtain⟨abW,acB⟩:=amb.1 Qm;have acC:seen.contains e.born=false:=by simpa using acB
    have cH:w1.heap[r]? =some (.mapIter (some m) since seen last):=by rw[sU];exact hr
    refine aR.val (v:=.tuple #[.bool true,e.key,e.val]) (w':={w1 with heap:=w1.heap.setIfInBounds r (.mapIter (some m) since (seen.push e.born) clock)}) ?_ ⟨bS.1,bS.2.1,bS.2.2⟩
     (by
      refine h2 e abW acC _ ?_;show kG w.heap (w1.heap.setIfInBounds r _) r _;rw[sU];exact xM hr)
    have JR:(if(⟨left⟩:Array MapEntry).isEmpty=true then(#[none]:Array (Option MapEntry))else #[])++((⟨left⟩:Array MapEntry)++(⟨[]⟩:Array MapEntry)).map some=⟨left.map some⟩:=by
     rw[hl];apply amI;simp
    have Df:(⟨left.map some⟩:Array (Option MapEntry)).size=left.length:=Yy
    have Ct:(⟨left.map some⟩:Array (Option MapEntry))[j]? =some (some e):=by simp[sY]
    simp only[Instr.next,Sem.run_bind,Hn hr Y w Y,Result.andThen_ok,rq hm w Y,zB,amH,ana,Sem.run_pure,hold,CT,JR,Df];rw[<-hq,iA];simp only[Result.andThen_ok,Ct,Sem.run_bind,af6 cH Y,Sem.run_pure]
 .exact h.elim
def aaU{x:Operand}(hρ:cg σ ρ)(h:aE P σ w.heap K Qp (.ent x)):aR P (do pure (.value (<-Instr.entry (ρ x)))) w K:=by
 simp only[aE]at h;split at h
 .rename_i r hx;rw[hρ x _ hx];obtain⟨m,since,seen,last,es,b,e,hr,hm,hb,he,hk⟩:=h;refine aR.same (v:=.tuple #[e.key,e.val]) ?_ hk;have hf:(⟨es⟩:Array MapEntry).find? (λe=>e.born==b)=some e:=by simpa using he
  simp only[Instr.entry,Sem.run_bind,Hn hr Y w Y,Result.andThen_ok,hb,rq hm w Y];simp[hf]
 .exact h.elim
end Go.Sx
namespace Go.Sx
open Go
variable {P:Program}{σ σ':Env}{h:af}{K K':Value->af->Prop}{Qp:List PanicEntry->af->Prop}
def aj.mono{f:Nat}{args:List Value}{R R':Ending->af->Prop}(hc:aj P f args h R)(hr:∀e h',R e h'->R' e h'):aj P f args h R':=
 ⟨hc.1,λw hw=>(hc.2 w hw).mono λ_ _ ⟨a,b⟩=>⟨hr _ _ a,b⟩⟩
def sG.mono{l:Nat}{args:List Value}{R R':Ending->af->Prop}(hy:sG P l args h R)(hr:∀e h',R e h'->R' e h'):sG P l args h R':=by
 intro w hw;obtain⟨fn,tmps,as,bo,h1,h2⟩:=hy w hw;exact⟨fn,tmps,as,bo,h1,h2.mono λe w' ⟨a,b⟩=>⟨hr _ _ a,b⟩⟩
def sM:∀(xs:List Operand),(∀x∈xs,ev σ x=ev σ' x)->fI σ xs=fI σ' xs
 |[],_=>rfl
 |x::xs,hx=>by
  simp only[fI];rw[hx x Yy,sM xs λy hy=>hx y (by simp[hy])]
def vX{x:Option Operand}{d:Nat}(hx:∀y∈opt x,ev σ y=ev σ' y):ja σ x d=ja σ' x d:=by
 cases x with
 |none=>rfl
 |some y=>simp only[ja];rw[hx y (by simp[opt])]
def U8(s:dx)(hx:∀x∈s.reads,ev σ x=ev σ' x):aE P σ h K Qp s=aE P σ' h K Qp s:=by
 cases s
 case build z ps xs=>simp only[aE];rw[sM xs hx]
 case uB z n ps xs=>simp only[aE];rw[sM xs hx]
 case call f xs=>simp only[aE];rw[sM xs hx]
 case eR f xs=>simp only[aE];rw[sM xs hx]
 case yG f xs=>simp only[aE];rw[sM xs hx]
 case aV x xs=>simp only[aE];rw[sM xs λy hy=>hx y (by simp[dx.reads,hy]),hx x (by simp[dx.reads])]
 case fn f a c=>simp only[aE];rw[sM a λy hy=>hx y (by simp[dx.reads,hy]),sM c λy hy=>hx y (by simp[dx.reads,hy])]
 case slc n x lo hi=>
  simp only[aE];rw[hx x (by simp[dx.reads]),vX (x:=lo) λy hy=>hx y (by simp[dx.reads,hy])];have hh:∀d,ja σ hi d=ja σ' hi d:=λd=>vX λy hy=>hx y (by simp[dx.reads,hy]);simp only[hh]
 case vE n x lo hi mx=>
  simp only[aE];rw[hx x (by simp[dx.reads]),vX (x:=lo) λy hy=>hx y (by simp[dx.reads,hy]),vX (x:=some hi) λy hy=>hx y (by simp only[opt,alE]at hy;subst hy;simp[dx.reads]),
   vX (x:=some mx) λy hy=>hx y (by simp only[opt,alE]at hy;subst hy;simp[dx.reads])]
 case xW x lo hi=>
  simp only[aE];rw[hx x (by simp[dx.reads]),vX (x:=lo) λy hy=>hx y (by simp[dx.reads,hy])];have hh:∀d,ja σ hi d=ja σ' hi d:=λd=>vX λy hy=>hx y (by simp[dx.reads,hy]);simp only[hh]
 all_goals first
  |rfl
  |(simp only[dx.reads,ak3,amU,anF,forall_eq_or_imp,forall_eq]at hx;simp only[aE,hx])
def Ext.refl(h:af):Ext h h:=λ_ _=>rfl
def OK{h h':af}(he:Ext h h'){b o:Nat}{v:Value}(hc:cell h b o=some v):cell h' b o=some v:=by
 unfold cell at hc⊢;cases hb:h[b]? with
 |none=>rw[hb]at hc;cases hc
 |some x=>
  have ah:=(al4.1 hb).1;rw[he b ah,hb];rw[hb]at hc;exact hc
def fF.ext{h h':af}(he:Ext h h'){b o:Nat}{vs:List Value}(hc:fF h b o vs):fF h' b o vs:=λi v hv=>OK he (hc i v hv)
def yq.ad8{h h':af}(he:Ext h h'){a:Option Addr}{n:Nat}{xs:List Value}(hs:yq h a n xs):yq h' a n xs:=by
 unfold yq at hs⊢;split at hs
 .exact hs
 .exact fF.ext he hs
 .exact hs.elim
def Js{h h':af}(he:Ext h h'){b:Nat}{x:Obj}(hb:h[b]? =some x):h'[b]? =some x:=by
 rw[he b (al4.1 hb).1,hb]
def cN.ext{h h':af}(he:Ext h h'){b c:Nat}{es:List MapEntry}(hb:cN h b es c):cN h' b es c:=Js he hb
def quiet(s:dx)(hq:cls s<=1)(hs:aE P σ h K Qp s):∃v,K v h∧∀h',(cls s=0∨Ext h h')->∀(K':Value->af->Prop)(dp:List PanicEntry->af->Prop),K' v h'->aE P σ h' K' dp s:=by
 cases s<;>simp only[cls]at hq<;>first|(exfalso;omega)|skip
 case slc n x lo hi=>
  simp only[aE]at hs⊢;split at hs
  .rename_i a n' c hx;split at hs
   .rename_i l m hl hm;obtain⟨h0,h1,h2,hs⟩:=hs;simp only[ud]at hs⊢;split at hs
    .exact⟨_,hs,λh' _ K' dp hk=>⟨h0,h1,h2,hk⟩⟩
    .rename_i b o;refine⟨_,hs (if c=l.toNat then o else o+l.toNat*n) (λah=>akZ V) (λhe=>ak4 V),λh' _ K' dp hk=>?_⟩;refine⟨h0,h1,h2,λo' nh jF=>?_⟩;have:o'=(if c=l.toNat then o else o+l.toNat*n):=by
      split
      .exact jF V
      .exact nh V
     rw[this];exact hk
    .obtain⟨tj,hs⟩:=hs;exact⟨_,hs,λh' _ K' dp hk=>⟨h0,h1,h2,tj,hk⟩⟩
   .exact hs.elim
  .exact hs.elim
 case vE n x lo hi mx=>
  simp only[aE]at hs⊢;split at hs
  .rename_i a n' c hx;split at hs
   .rename_i l m k hl hm hk;obtain⟨h0,h1,h2,h3,hs⟩:=hs;simp only[ud]at hs⊢;split at hs
    .exact⟨_,hs,λh' _ K' dp hk=>⟨h0,h1,h2,h3,hk⟩⟩
    .rename_i b o;refine⟨_,hs (if k.toNat=l.toNat then o else o+l.toNat*n) (λah=>akZ V) (λhe=>ak4 V),λh' _ K' dp hk=>?_⟩;refine⟨h0,h1,h2,h3,λo' nh jF=>?_⟩;have:o'=(if k.toNat=l.toNat then o else o+l.toNat*n):=by
      split
      .exact jF V
      .exact nh V
     rw[this];exact hk
    .obtain⟨tj,hs⟩:=hs;exact⟨_,hs,λh' _ K' dp hk=>⟨h0,h1,h2,h3,tj,hk⟩⟩
   .exact hs.elim
  .exact hs.elim
 case zN tn n x i=>
  simp only[aE]at hs⊢;split at hs
  .rename_i cs k j hx hi;obtain⟨v,h0,h1,h2,hs⟩:=hs;exact⟨_,hs,λh' _ K' dp hk=>by exact⟨v,h0,h1,h2,hk⟩⟩
  .exact hs.elim
 case vH t z ok x=>
  simp only[aE]at hs⊢;split at hs
  .rename_i hx;exact⟨_,hs.2,λh' _ K' dp hk=>by exact⟨hs.1,hk⟩⟩
  .rename_i u v hx;by_cases sd:u=t
   .exact⟨_,hs.1 sd,λh' _ K' dp hk=>by exact⟨λ_=>hk,λhn=>absurd sd hn⟩⟩
   .exact⟨_,(hs.2 sd).2,λh' _ K' dp hk=>by exact⟨λhn=>absurd hn sd,λ_=>⟨(hs.2 sd).1,hk⟩⟩⟩
  .exact hs.elim
 case ent x=>
  simp only[aE]at hs⊢;split at hs
  .obtain⟨m,since,seen,last,es,b,e,h1,h2,h3,h4,hs⟩:=hs;refine⟨_,hs,λh' he K' dp hk=>?_⟩;have he:Ext h h':=he.resolve_left (by simp[cls]);exact⟨m,since,seen,last,es,b,e,Js he h1,h2.ext he,h3,h4,hk⟩
  .exact hs.elim
 case look kd z ok m k=>
  simp only[aE]at hs⊢;split at hs
  .rename_i kv hm hk;exact⟨_,hs.2,λh' _ K' dp fZ=>by exact⟨hs.1,fZ⟩⟩
  .rename_i r kv hm hk;obtain⟨hf,es,c,hb,qJ,hs⟩:=hs;split at hs
   .rename_i i v hv;refine⟨_,hs,λh' he K' dp fZ=>?_⟩;have he:Ext h h':=he.resolve_left (by simp[cls]);refine⟨hf,es,c,hb.ext he,qJ,?_⟩;simp only[hv];exact fZ
   .rename_i hv;refine⟨_,hs,λh' he K' dp fZ=>?_⟩;have he:Ext h h':=he.resolve_left (by simp[cls]);refine⟨hf,es,c,hb.ext he,qJ,?_⟩;simp only[hv];exact fZ
  .exact hs.elim
 case zV x=>
  simp only[aE]at hs⊢;split at hs
  .rename_i hx;exact⟨_,hs,λh' _ K' dp hk=>by exact hk⟩
  .rename_i r hx;obtain⟨es,c,hb,hs⟩:=hs;refine⟨_,hs,λh' he K' dp hk=>?_⟩;have he:Ext h h':=he.resolve_left (by simp[cls]);exact⟨es,c,hb.ext he,hk⟩
  .exact hs.elim
 case ld1 x=>
  simp only[aE]at hs⊢;split at hs
  .rename_i b o hx;obtain⟨v,hc,hs⟩:=hs;refine⟨v,hs,λh' he K' dp hk=>?_⟩;have he:Ext h h':=he.resolve_left (by simp[cls]);exact⟨v,OK he hc,hk⟩
  .exact hs.elim
 case yE x=>
  simp only[aE]at hs⊢;split at hs
  .rename_i a n c hx;obtain⟨bs,hn,hc,hs⟩:=hs;refine⟨_,hs,λh' he K' dp hk=>?_⟩;have he:Ext h h':=he.resolve_left (by simp[cls]);exact⟨bs,hn,yq.ad8 he hc,hk⟩
  .exact hs.elim
 case ny n x=>
  simp only[aE]at hs⊢;split at hs
  .rename_i b o hx;obtain⟨v,hn,hc,hs⟩:=hs;refine⟨_,hs,λh' he K' dp hk=>?_⟩;have he:Ext h h':=he.resolve_left (by simp[cls]);exact⟨v,hn,hc.ext he,hk⟩
  .exact hs.elim
 case uI neg x y=>
  simp only[aE]at hs⊢;split at hs
  .rename_i a b hx hy;by_cases cY:a=b
   .exact⟨_,hs.1 cY,λh' _ K' dp hk=>by exact⟨λ_=>hk,λhn=>absurd cY hn⟩⟩
   .exact⟨_,hs.2 cY,λh' _ K' dp hk=>by exact⟨λhe=>absurd he cY,λ_=>hk⟩⟩
  .exact hs.elim
 case sL neg ks x y=>
  simp only[aE]at hs⊢;split at hs
  .rename_i a b hx hy;obtain⟨h1,h2,hs⟩:=hs;by_cases cY:a.toList=b.toList
   .exact⟨_,hs.1 cY,λh' _ K' dp hk=>by exact⟨h1,h2,λ_=>hk,λhn=>absurd cY hn⟩⟩
   .exact⟨_,hs.2 cY,λh' _ K' dp hk=>by exact⟨h1,h2,λhe=>absurd he cY,λ_=>hk⟩⟩
  .exact hs.elim
 case cmp op x y=>
  have two:∀p:Prop,either p K h->∃t,K (.bool t) h∧∀h'(K':Value->af->Prop),K' (.bool t) h'->either p K' h':=by
   intro p hp;by_cases hc:p
   .exact⟨true,hp.1 hc,λh' K' hk=>⟨λ_=>hk,λhn=>absurd hc hn⟩⟩
   .exact⟨false,hp.2 hc,λh' K' hk=>⟨λhe=>absurd he hc,λ_=>hk⟩⟩
  simp only[aE]at hs⊢;split at hs<;>first
   |exact hs.elim
   |(obtain⟨hk,hs⟩:=hs;obtain⟨t,ht,bD⟩:=two _ hs;exact⟨_,ht,λh' _ K' dp fZ=>⟨hk,bD h' K' fZ⟩⟩)
   |(obtain⟨t,ht,bD⟩:=two _ hs;exact⟨_,ht,λh' _ K' dp fZ=>bD h' K' fZ⟩)
 case zM x i=>
  simp only[aE]at hs⊢;split at hs
  .rename_i s k j hx hi;obtain⟨c,h0,h1,hs⟩:=hs;exact⟨_,hs,λh' _ K' dp hk=>by exact⟨c,h0,h1,hk⟩⟩
  .exact hs.elim
 all_goals
  simp only[aE]at hs⊢
  (repeat' split at hs)<;>first
   |exact hs.elim
   |(refine⟨_,hs,λh' _ K' dp hk=>?_⟩;exact hk)
   |(obtain⟨h1,hs⟩:=hs;refine⟨_,hs,λh' _ K' dp hk=>?_⟩;first|exact hk|exact⟨h1,hk⟩|exact⟨Y,hk⟩|exact⟨trivial,hk⟩)
   |(obtain⟨h1,h2,hs⟩:=hs;refine⟨_,hs,λh' _ K' dp hk=>?_⟩;first|exact hk|exact⟨h1,h2,hk⟩)
   |(obtain⟨h1,h2,h3,hs⟩:=hs;refine⟨_,hs,λh' _ K' dp hk=>?_⟩;first|exact hk|exact⟨h1,h2,h3,hk⟩)
   |(refine⟨_,hs _ rfl,λh' _ K' dp hk=>?_⟩;intro z hz;rw[hz];exact hk)
   |(obtain⟨h1,hs⟩:=hs;refine⟨_,hs _ rfl,λh' _ K' dp hk=>?_⟩;first|exact⟨h1,λz hz=>by rw[hz];exact hk⟩|exact⟨Y,λz hz=>by rw[hz];exact hk⟩|exact⟨trivial,λz hz=>by rw[hz];exact hk⟩)
   |(obtain⟨h1,h2,hs⟩:=hs;refine⟨_,hs _ rfl,λh' _ K' dp hk=>?_⟩;exact⟨h1,h2,λz hz=>by rw[hz];exact hk⟩)
   |skip
def vL.mono{K K':af->Prop}{a:Option Addr}{ys:List Value}(hw:vL h K a ys)(hk:∀h',K h'->K' h'):vL h K' a ys:=by
 refine⟨λe=>hk _ (hw.1 e),λax=>?_⟩;have:=hw.2 ax;split at this
 .obtain⟨l,x,y,z,u⟩:=this;exact⟨l,x,y,z,λh' hp=>hk _ (u h' hp)⟩
 .exact this.elim
def HB(s:dx)(hs:aE P σ h K Qp s)(hk:∀v h',K v h'->K' v h'):aE P σ h K' Qp s:=by
 by_cases hq:cls s<=1
 .obtain⟨v,hv,bD⟩:=quiet s hq hs;exact bD h (.inr (Ext.refl h)) K' Qp (hk _ _ hv)
 .cases s<;>first|(simp[cls]at hq;done)|skip
  case app size bytes z x y=>
   simp only[aE]at hs⊢;split at hs
   .obtain⟨xs,ys,h1,h2,h3,h4,h5,h6,h7⟩:=hs;refine⟨xs,ys,h1,h2,h3,h4,h5,λhle=>?_,λah=>?_⟩
    .have h6:=h6 hle;unfold Ip at h6⊢;split at h6
     .exact hk _ _ h6
     .obtain⟨l,a,b,c⟩:=h6;exact⟨l,a,b,λh' hp=>hk _ _ (c h' hp)⟩
     .exact h6.elim
    .obtain⟨a,b⟩:=h7 ah;exact⟨a,λc' b' h' x y=>hk _ _ (b c' b' h' x y)⟩
   .exact hs.elim
  case BO size x y=>
   simp only[aE]at hs⊢;split at hs
   .obtain⟨ys,h1,h2,h3⟩:=hs;exact⟨ys,h1,h2,h3.mono (hk _)⟩
   .exact hs.elim
  case BI z x=>
   simp only[aE]at hs⊢;split at hs
   .exact vL.mono hs (hk _)
   .exact hs.elim
  case Bh size bytes z x y=>
   simp only[aE]at hs⊢;split at hs
   .obtain⟨h0,PT,xs,h1,h2,h3,h4,h5⟩:=hs;exact⟨h0,PT,xs,h1,h2,h3,h4,λc' b h' x y=>hk _ _ (h5 c' b h' x y)⟩
   .exact hs.elim
  case vu x=>
   simp only[aE]at hs⊢;split at hs
   .exact hs
   .exact hs.elim
  case vZ x=>
   simp only[aE]at hs⊢;split at hs
   .exactλc b h' h1 h2=>hk _ _ (hs c b h' h1 h2)
   .exact hs.elim
  case rng x=>
   simp only[aE]at hs⊢;split at hs
   .exactλb h' hg=>hk _ _ (hs b h' hg)
   .obtain⟨es,c,h1,h2⟩:=hs;exact⟨es,c,h1,λb h' hg=>hk _ _ (h2 b h' hg)⟩
   .exact hs.elim
  case gD x=>
   simp only[aE]at hs⊢;split at hs
   .rcases hs with⟨since,seen,last,h1,h2⟩|⟨m,since,seen,last,es,clock,h1,h2,h3,h4,h5,h6⟩
    .exact .inl ⟨since,seen,last,h1,hk _ _ h2⟩
    .exact .inr ⟨m,since,seen,last,es,clock,h1,h2,h3,h4,λha=>hk _ _ (h5 ha),λe he hs h' hp=>hk _ _ (h6 e he hs h' hp)⟩
   .exact hs.elim
  case uy size bytes z y=>
   simp only[aE]at hs⊢;split at hs
   .obtain⟨xs,ys,h1,h2,h3,h4,h5,h6,h7⟩:=hs;exact⟨xs,ys,h1,h2,h3,h4,h5,λhle=>hk _ _ (h6 hle),λah=>⟨(h7 ah).1,λc' b' h' x y=>hk _ _ ((h7 ah).2 c' b' h' x y)⟩⟩
   .exact hs.elim
  case yG f xs=>
   simp only[aE]at hs⊢;split at hs
   .exactλw hw=>let⟨v,w',h1,h2,h3⟩:=hs w hw;⟨v,w',h1,hk _ _ h2,h3⟩
   .exact hs.elim
  case fm kd m k v=>
   simp only[aE]at hs⊢;split at hs
   .obtain⟨h1,es,c,h2,h3,h4⟩:=hs;refine⟨h1,es,c,h2,h3,?_⟩;split at h4
    .rename_i hv;exactλh' hp=>hk _ _ (h4 h' hp)
    .rename_i hv;exactλh' hp=>hk _ _ (h4 h' hp)
   .exact hs.elim
  case Dy kd m k=>
   simp only[aE]at hs⊢;split at hs
   .exact⟨hs.1,hk _ _ hs.2⟩
   .obtain⟨h1,es,c,h2,h3,h4⟩:=hs;refine⟨h1,es,c,h2,h3,?_⟩;split at h4
    .rename_i hv;exactλh' hp=>hk _ _ (h4 h' hp)
    .rename_i hv;exactλh' hp=>hk _ _ (h4 h' hp)
   .exact hs.elim
  case call f xs=>
   simp only[aE]at hs⊢;split at hs
   .exact hs.mono λe h' he=>by cases e<;>first|exact hk _ _ he|exact he
   .exact hs.elim
  case aV x xs=>
   simp only[aE]at hs⊢;split at hs
   .exact hs.mono λe h' he=>by cases e<;>first|exact hk _ _ he|exact he
   .exact hs.mono λe h' he=>by cases e<;>first|exact hk _ _ he|exact he
   .exact hs.elim
  case eR f xs=>
   simp only[aE]at hs⊢;split at hs
   .exact hs.mono λe h' he=>⟨he.1,by cases e<;>first|exact hk _ _ he.2|exact he.2⟩
   .exact hs.elim
  all_goals
   simp only[aE]at hs⊢
   (repeat' split at hs)<;>first
    |exact hs.elim
    |exactλb h' hg=>hk _ _ (hs b h' hg)
    |(obtain⟨l,a,b,c,d,e⟩:=hs;exact⟨l,a,b,c,d,λh' hp=>hk _ _ (e h' hp)⟩)
    |(obtain⟨a,b,c,d,e⟩:=hs;exact⟨a,b,c,d,λb' h' hp=>hk _ _ (e b' h' hp)⟩)
def MJ{dp:List PanicEntry->af->Prop}(s:dx)(hs:aE P σ h K Qp s)(hq:∀ch h,Qp ch h->dp ch h):aE P σ h K dp s:=by
 by_cases hc:cls s<=1
 .obtain⟨v,hv,bD⟩:=quiet s hc hs;exact bD h (.inr λ_ _=>rfl) K dp hv
 .cases s<;>first|(simp[cls]at hc;done)|exact hs|skip
  case vu x=>
   simp only[aE]at hs⊢;split at hs
   .exact hq _ _ hs
   .exact hs.elim
  case call f xs=>
   simp only[aE]at hs⊢;split at hs
   .exact hs.mono λe h' he=>by cases e<;>first|exact hq _ _ he|exact he
   .exact hs.elim
  case aV x xs=>
   simp only[aE]at hs⊢;split at hs
   .exact hs.mono λe h' he=>by cases e<;>first|exact hq _ _ he|exact he
   .exact hs.mono λe h' he=>by cases e<;>first|exact hq _ _ he|exact he
   .exact hs.elim
  case eR f xs=>
   simp only[aE]at hs⊢;split at hs
   .exact hs.mono λe h' he=>⟨he.1,by cases e<;>first|exact hq _ _ he.2|exact he.2⟩
   .exact hs.elim
def H'.ext{h h':af}{b:Nat}{l:List Value}(hg:H' h h' b l):Ext h h':=hg.old
def jr.ext{h h':af}{b:Nat}{l:List Value}(hg:jr h h' b l):Ext h h':=hg.old
def sD.ext{h h':af}{b:Nat}{o:Obj}(hg:sD h h' b o):Ext h h':=hg.old
def ahc(s:dx)(hq:cls s<=2)(hs:aE P σ h K Qp s):aE P σ h (λv h'=>K v h'∧Ext h h') Qp s:=by
 by_cases oV:cls s<=1
 .obtain⟨v,hv,bD⟩:=quiet s oV hs;exact bD h (.inr (Ext.refl h)) _ Qp ⟨hv,Ext.refl h⟩
 .cases s<;>first|(simp[cls]at oV;done)|(simp[cls]at hq;done)|skip
  case eR f xs=>
   simp only[aE]at hs⊢;split at hs
   .exact hs.mono λe h' he=>⟨he.1,by cases e<;>first|exact⟨he.2,he.1⟩|exact he.2⟩
   .exact hs.elim
  case uy size bytes z y=>
   simp only[aE]at hs⊢;split at hs
   .obtain⟨xs,ys,h1,h2,h3,h4,h5,h6,h7⟩:=hs;exact⟨xs,ys,h1,h2,h3,h4,h5,λhle=>⟨h6 hle,Ext.refl h⟩,λah=>⟨(h7 ah).1,λc' b' h' x y=>⟨(h7 ah).2 c' b' h' x y,y.ext⟩⟩⟩
   .exact hs.elim
  case vZ x=>
   simp only[aE]at hs⊢;split at hs
   .exactλc b h' h1 h2=>⟨hs c b h' h1 h2,h2.ext⟩
   .exact hs.elim
  case rng x=>
   simp only[aE]at hs⊢;split at hs
   .exactλb h' hg=>⟨hs b h' hg,hg.ext⟩
   .obtain⟨es,c,h1,h2⟩:=hs;exact⟨es,c,h1,λb h' hg=>⟨h2 b h' hg,hg.ext⟩⟩
   .exact hs.elim
  all_goals
   simp only[aE]at hs⊢
   (repeat' split at hs)<;>first
    |exact hs.elim
    |exactλb h' hg=>⟨hs b h' hg,hg.ext⟩
    |(obtain⟨a,b,c,d,e⟩:=hs;exact⟨a,b,c,d,λb' h' hp=>⟨e b' h' hp,hp.ext⟩⟩)
end Go.Sx
namespace Go.Sx
open Go
variable{Q:Exit->Act->World->Prop}{args:List Value}{fi:Array Value}{next:Act->World->Prop}{ro:Option Nat}{ρ:Operand->Value}
variable {P:Program}{σ σ':Env}{K:Value->af->Prop}{Qp:List PanicEntry->af->Prop}
def FW(ro:Option Nat):Fence:={Fence.wide with round:=ro}
def OC{n:Nat}{f:FuncId}{args:Array Value}{w:World}{R:Ending->World->Prop}:CallsIn (FW ro) n P f args w R↔Calls P f args w R:=
 callsIn_wide (n:=n)
def GZ{f:Nat}(h:om P f=true)(args:Array Value)(w:World):(callFunc f args).run P w=.ok (.enter f args) w:=by
 unfold om at h;split at h
 .rename_i fn hf;simp only[alO]at h;obtain⟨h1,h2⟩:=h;have jV:fn.name≠ "runtime.NumGoroutine" :=by simpa using h1
  have pJ:fn.body≠none:=by intro e;rw[e]at h2;simp at h2
  simp[callFunc,hf,jV,pJ]
 .simp at h
def oy{o:Oper}{a:Act}{w:World}{n:Nat}(hd:∀c,o.op≠.defer c)(hg:aR P (execOp a.eval o) w K)(hK:∀v w',ck w w'->K v w'.heap->next (a.put o.dst v) w'):o.wpIn (FW ro) n P a w next Q:=by
 refine⟨λ_ _=>trivial,?_⟩;rw[Oper.semAt_eq _ _ _ hd];obtain⟨v,w',hr,hb,hk⟩:=hg;rcases hr with hr|⟨hr,rfl⟩
 .rw[hr];exact hK v w' hb hk
 .rw[hr];exact hK undef w' hb hk
def VE{o:Oper}{a:Act}{w:World}{n:Nat}(hd:∀c,o.op≠.defer c){f:Nat}(hr:(execOp a.eval o).run P w=.ok (.enter f ⟨args⟩) w)(hc:aj P f args w.heap (after K Qp))(hK:∀v w',ck w w'->K v w'.heap->next (a.put o.dst v) w')(hQ:∀ch w',ck w w'->Qp ch w'.heap->Q (.panic ch) a w'):o.wpIn (FW ro) n P a w next Q:=by
 refine⟨λ_ _=>trivial,?_⟩;rw[Oper.semAt_eq _ _ _ hd,hr];refine⟨λh=>by simp[FW,Fence.wide]at h,OC.2 ((hc.2 w Y).mono ?_)⟩;rintro e w' ⟨he,ax,h1,h2,h3⟩;cases e with
 |returned v=>exact hK v w' ⟨h1,h2,h3⟩ he
 |panicked ch=>exact hQ ch w' ⟨h1,h2,h3⟩ he
 |outgrown=>exact absurd Y ax
def af0(hρ:cg σ ρ){o:Oper}{c:Call}{f:Nat}{vs:List Value}(ho:o.op=.call c)(hc:c.callee=.value (.func f))(hv:fI σ c.args.toList=some vs)(aN:om P f=true)(w:World):(execOp ρ o).run P w=.ok (.enter f ⟨vs⟩) w:=by
 have ha:c.args.map ρ=⟨vs⟩:=by apply amI;simp[hρ.list _ _ hv]
 have hf:=hρ (.func f) _ Y;simp[execOp,ho,resolve,hc,ha,hf,Deferred.ofValue,invoke,GZ aN]
def af1(hρ:cg σ ρ){o:Oper}{c:Call}{x:Operand}{f:Nat}{cap:Array Value}{vs:List Value}(ho:o.op=.call c)(hc:c.callee=.value x)(hx:ev σ x=some (.func (.func f) fi cap))(hv:fI σ c.args.toList=some vs)(aN:om P f=true)(w:World):(execOp ρ o).run P w=.ok (.enter f ⟨fi.toList++vs++cap.toList⟩) w:=by
 have ha:c.args.map ρ=⟨vs⟩:=by apply amI;simp[hρ.list _ _ hv]
 have hf:=hρ x _ hx;have fe:fi++(⟨vs⟩:Array Value)++cap=⟨fi.toList++vs++cap.toList⟩:=by apply amI;simp
 simp[execOp,ho,resolve,hc,ha,hf,Deferred.ofValue,invoke,GZ aN,fe]
def af2(hρ:cg σ ρ){o:Oper}{c:Call}{x:Operand}{l:Nat}{cap:Array Value}{vs:List Value}(ho:o.op=.call c)(hc:c.callee=.value x)(hx:ev σ x=some (.func (.yield l) fi cap))(hv:fI σ c.args.toList=some vs):execOp ρ o=Instr.yield l ⟨fi.toList++vs⟩:=by
 have ha:c.args.map ρ=⟨vs⟩:=by apply amI;simp[hρ.list _ _ hv]
 have hf:=hρ x _ hx;have fe:fi++(⟨vs⟩:Array Value)=⟨fi.toList++vs⟩:=by apply amI;simp
 simp[execOp,ho,resolve,hc,ha,hf,Deferred.ofValue,invoke,fe]
def ahX{o:Oper}{a:Act}{w:World}{n:Nat}(hd:∀c,o.op≠.defer c){l:Nat}(hr:execOp a.eval o=Instr.yield l ⟨args⟩)(hc:sG P l args w.heap (after K Qp))(hK:∀v w',ck w w'->K v w'.heap->next (a.put o.dst v) w')(hQ:∀ch w',ck w w'->Qp ch w'.heap->Q (.panic ch) a w'):o.wpIn (FW ro) n P a w next Q:=by
 refine⟨λ_ _=>trivial,?_⟩;obtain⟨fn,tmps,as,bo,h1,h2⟩:=hc w Y;rw[Oper.semAt_eq _ _ _ hd,hr,h1];refine⟨λh=>by simp[FW,Fence.wide]at h,?_⟩;have h3:RoundIn (FW ro) (n-1) P l fn tmps as bo w λe w'=>after K Qp e w'.heap∧e≠.outgrown∧w'.os=w.os∧w'.output=w.output∧w'.tape=w.tape:=
  ⟨trivial,λc cs _=>h2.2 c cs (room_wide _)⟩
 refine h3.mono ?_;rintro e w' ⟨he,ax,h1,h2,h3⟩;cases e with
 |returned v=>exact hK v w' ⟨h1,h2,h3⟩ he
 |panicked ch=>exact hQ ch w' ⟨h1,h2,h3⟩ he
 |outgrown=>exact absurd Y ax
def X0{o:Oper}{c:Call}{s:dx}(ho:o.op=.call c)(hs:I2 P c=some s){a:Act}{w:World}(hρ:cg σ a.eval)(h:aE P σ w.heap K Qp s){n:Nat}(hK:∀v w',ck w w'->K v w'.heap->next (a.put o.dst v) w')(hQ:∀ch w',ck w w'->Qp ch w'.heap->Q (.panic ch) a w'):o.wpIn (FW ro) n P a w next Q:=by
 have hd:∀c,o.op≠.defer c:=by intro c';rw[ho];simp
 have bi:∀(b:Builtin)(xs:List Operand)(ts:List TypeId),c.callee=.builtin b->c.args.toList=xs->c.argTypes.toList=ts->
   execOp a.eval o=builtin b ⟨ts⟩ o.type (c.args.map fun|.const _=>true|_=>false) ⟨xs.map a.eval⟩:=by
  intro b xs ts hb hx ht;have h1:c.args.map a.eval=⟨xs.map a.eval⟩:=by apply amI;simp[<-hx]
  have h2:c.argTypes=⟨ts⟩:=by apply amI;simp[<-ht]
  simp only[execOp,ho,resolve,hb,h1,h2];rfl
 unfold I2 at hs;split at hs
 .rename_i f hc;split at hs
  .split at hs
   .simp at hs;subst hs;simp only[aE]at h;split at h
    .rename_i vs hv;exact VE hd (af0 hρ ho hc hv h.1 w) h hK hQ
    .exact h.elim
   .simp at hs;subst hs;simp only[aE]at h;split at h
    .rename_i vs hv;obtain⟨v,w',h1,h2,h3,h4,h5⟩:=h w Y;have ha:c.args.map a.eval=⟨vs⟩:=by apply amI;simp[hρ.list _ _ hv]
     have hf:=hρ (.func f) _ Y;refine oy hd ⟨v,w',.inl ?_,⟨h3,h4,h5⟩,h2⟩ hK;simp[execOp,ho,resolve,hc,ha,hf,Deferred.ofValue,invoke,h1]
    .exact h.elim
  .simp at hs
 .rename_i x _ hc;simp at hs;subst hs;simp only[aE]at h;split at h
  .rename_i f fi cap vs hx hv;exact VE hd (af1 hρ ho hc hx hv h.1 w) h hK hQ
  .rename_i l fi cap vs hx hv;exact ahX hd (af2 hρ ho hc hx hv) h hK hQ
  .exact h.elim
 .simp at hs
 .rename_i hb;split at hs
  .rename_i x t hx ht;have e:=bi .len [x] [t] hb hx ht;split at hs
   .rename_i hu;simp at hs;subst hs;refine oy hd ?_ hK;rw[e];exact aa8 hρ Y hu h
   .rename_i e2 hu;simp at hs;subst hs;refine oy hd ?_ hK;rw[e];exact aa6 hρ Y hu h
   .rename_i e2 e3 hu;simp at hs;subst hs;refine oy hd ?_ hK;rw[e];exact aa7 hρ Y hu h
   .simp at hs
  .simp at hs
 .rename_i hb;split at hs
  .rename_i x y t u hx ht;have e:=bi .append [x,y] [t,u] hb hx ht;split at hs
   .rename_i e1 e2 kM iD;split at hs
    .rename_i i hi;split at hs
     .rename_i mi;simp only[alN]at hs;obtain⟨z,hz,hs⟩:=hs;split at hs
      .subst hs;refine oy hd ?_ hK;rw[e];exact aaG hρ kM iD hi mi hz h
      .subst hs;refine oy hd ?_ hK;rw[e];exact PL hρ kM iD hi mi hz h
     .simp at hs
    .simp at hs
   .rename_i e1 k2 kM iD;split at hs
    .rename_i i hi;split at hs
     .rename_i mi;simp only[alN]at hs;obtain⟨z,hz,rfl⟩:=hs;refine oy hd ?_ hK;rw[e];exact aaH hρ kM iD hi mi hz h
     .simp at hs
    .simp at hs
   .simp at hs
  .simp at hs
 .rename_i hb;split at hs
  .rename_i x t hx ht;have e:=bi .cap [x] [t] hb hx ht;split at hs
   .rename_i e2 hu;simp at hs;subst hs;refine oy hd ?_ hK;rw[e];exact aaO hρ Y hu h
   .simp at hs
  .simp at hs
 .rename_i hb;split at hs
  .rename_i x y t u hx ht;have e:=bi .copy [x,y] [t,u] hb hx ht;split at hs
   .rename_i e1 e2 kM iD;simp only[alN]at hs;obtain⟨z,hz,rfl⟩:=hs;refine oy hd ?_ hK;rw[e];exact aaS hρ kM iD hz h
   .simp at hs
  .simp at hs
 .rename_i hb;split at hs
  .rename_i x t hx ht;have e:=bi .clear [x] [t] hb hx ht;split at hs
   .rename_i e2 hu;split at hs
    .rename_i i hi;simp only[alN]at hs;obtain⟨z,hz,rfl⟩:=hs;refine oy hd ?_ hK;rw[e];exact aaQ hρ Y hu hz h
    .simp at hs
   .simp at hs
  .simp at hs
 .rename_i hb;split at hs
  .rename_i x y t u hx ht;have e:=bi .delete [x,y] [t,u] hb hx ht;split at hs
   .rename_i k e2 hu;simp only[alN]at hs;obtain⟨kd,hk,rfl⟩:=hs;refine oy hd ?_ hK;rw[e];exact aa' hρ hu hk h
   .simp at hs
  .simp at hs
 .rename_i hb;split at hs
  .rename_i x y t u hx ht;have e:=bi .min [x,y] [t,u] hb hx ht;split at hs
   .simp at hs;subst hs;refine oy hd ?_ hK;rw[e];exact abd hρ h
   .simp at hs
  .simp at hs
 .rename_i hb;split at hs
  .rename_i x y t u hx ht;have e:=bi .max [x,y] [t,u] hb hx ht;split at hs
   .simp at hs;subst hs;refine oy hd ?_ hK;rw[e];exact abe hρ h
   .simp at hs
  .simp at hs
 .simp at hs
def XZ{op:BinOp}{t:TypeId}{x y:Operand}{s:dx}(hs:I1 P op t x y=some s){w:World}(hρ:cg σ ρ)(h:aE P σ w.heap K Qp s):aR P (ald op t x y (ρ x) (ρ y)) w K:=by
 have DG:∀(neg:Bool){kd:Nat}{d:TypeDesc}{s:dx},(op=.eql∧neg=false)∨(op=.neq∧neg=true)->P.underlying t=some d->LF kd d->oF kd neg x y=some s->
   aE P σ w.heap K Qp s->aR P (ald op t x y (ρ x) (ρ y)) w K:=λneg kd d s bz hu hd he h=>aaW bz hρ hu hd he h
 have eqs:∀(neg:Bool),(op=.eql∧neg=false)∨(op=.neq∧neg=true)->(match iE P t with
   |some .bool=>some (.uI neg x y)
   |some _=>some (.cmp op x y)
   |none=>match P.underlying t with
    |some (.pointer _)=>oF 0 neg x y
    |some (.slice _)=>oF 1 neg x y
    |some (.map _ _)=>oF 2 neg x y
    |some (.func _ _ _)=>oF 3 neg x y
    |some (.interface _)=>oF 4 neg x y
    |some (.struct fs)=>if P.stoodInHeld t=false∧P.eqGuardType P.depth t=false then(xu P 0 fs.toList).map λks=>dx.sL neg ks x y else none
    |_=>none)=some s->aR P (ald op t x y (ρ x) (ρ y)) w K:=by
  intro neg bz he;split at he
  .rename_i hk;simp at he;subst he;exact aaR bz hk hρ h
  .simp at he;subst he;exact Cd hρ h
  .split at he
   .rename_i e hu;exact DG neg (kd:=0) bz hu ⟨_,Y⟩ he h
   .rename_i e hu;exact DG neg (kd:=1) bz hu ⟨_,Y⟩ he h
   .rename_i e e2 hu;exact DG neg (kd:=2) bz hu ⟨_,_,Y⟩ he h
   .rename_i e e2 e3 hu;exact DG neg (kd:=3) bz hu ⟨_,_,_,Y⟩ he h
   .rename_i e hu;exact DG neg (kd:=4) bz hu ⟨_,Y⟩ he h
   .rename_i fs hu;split at he
    .rename_i hc;simp only[alN]at he;obtain⟨ks,tf,rfl⟩:=he;exact aaV bz hρ hu hc.1 hc.2 tf h
    .simp at he
   .simp at he
 cases op<;>simp only[I1]at hs
 case eql=>exact eqs false (.inl ⟨Y,Y⟩) hs
 case neq=>exact eqs true (.inr ⟨Y,Y⟩) hs
 case add=>
  split at hs
  .simp at hs;subst hs;exact Jt (.inl Y) hρ h
  .simp at hs;subst hs;exact aaP hρ h
  .simp at hs
 case sub=>split at hs<;>simp at hs;subst hs;exact Jt (.inr (.inl Y)) hρ h
 case mul=>split at hs<;>simp at hs;subst hs;exact Jt (.inr (.inr Y)) hρ h
 case and=>split at hs<;>simp at hs;subst hs;exact FT (.inl Y) hρ h
 case or=>split at hs<;>simp at hs;subst hs;exact FT (.inr (.inl Y)) hρ h
 case xor=>split at hs<;>simp at hs;subst hs;exact FT (.inr (.inr (.inl Y))) hρ h
 case andNot=>split at hs<;>simp at hs;subst hs;exact FT (.inr (.inr (.inr Y))) hρ h
 case quo=>split at hs<;>simp at hs;subst hs;exact abj hρ h
 case rem=>split at hs<;>simp at hs;subst hs;exact abk hρ h
 case lss=>split at hs<;>simp at hs<;>subst hs<;>exact Cd hρ h
 case leq=>split at hs<;>simp at hs<;>subst hs<;>exact Cd hρ h
 case gtr=>split at hs<;>simp at hs<;>subst hs<;>exact Cd hρ h
 case geq=>split at hs<;>simp at hs<;>subst hs<;>exact Cd hρ h
 case shl=>
  split at hs
  .rename_i k k2 n hk;split at hs
   .rename_i hn;simp at hs;subst hs;have:=PO (op:=.shl) (t:=t) (x:=x) (k2:=k2) (w:=w) (P:=P) (K:=K) (Qp:=Qp) (.inl Y) hn.1 hn.2 hρ h;rw[hρ (.const (.int k2 n)) _ Y];exact this
   .simp at hs
  .simp at hs
 case shr=>
  split at hs
  .rename_i k k2 n hk;split at hs
   .rename_i hn;simp at hs;subst hs;have:=PO (op:=.shr) (t:=t) (x:=x) (k2:=k2) (w:=w) (P:=P) (K:=K) (Qp:=Qp) (.inr Y) hn.1 hn.2 hρ h;rw[hρ (.const (.int k2 n)) _ Y];exact this
   .simp at hs
  .simp at hs
end Go.Sx
namespace Go.Sx
open Go
variable {P:Program}{σ σ':Env}{K:Value->af->Prop}{Qp:List PanicEntry->af->Prop}
def X1{o:Oper}{s:dx}(hs:Fo P o=some s){a:Act}{w:World}(hρ:cg σ a.eval)(h:aE P σ w.heap K Qp s){ro:Option Nat}{n:Nat}{next:Act->World->Prop}{Q:Exit->Act->World->Prop}(hK:∀v w',ck w w'->K v w'.heap->next (a.put o.dst v) w')(hQ:∀ch w',ck w w'->Qp ch w'.heap->Q (.panic ch) a w'):o.wpIn (FW ro) n P a w next Q:=by
 have key:(∀c,o.op≠.defer c)->aR P (execOp a.eval o) w K->o.wpIn (FW ro) n P a w next Q:=λhd hg=>oy hd hg hK;cases ho:o.op<;>simp only[Fo,ho]at hs<;>first|(simp at hs;done)|skip
 case call c=>exact X0 ho hs hρ h hK hQ
 case move x=>simp at hs;subst hs;exact key (by simp[ho]) (by simp only[execOp,ho];exact PN hρ h)
 case assign x=>simp at hs;subst hs;exact key (by simp[ho]) (by simp only[execOp,ho];exact PN hρ h)
 case pick c x y=>simp at hs;subst hs;exact key (by simp[ho]) (by simp only[execOp,ho];exact abi hρ h)
 case alloc t=>
  simp only[alN]at hs;obtain⟨z,hz,rfl⟩:=hs;exact key (by simp[ho]) (by simp only[execOp,ho];exact abf hz h)
 case box t x=>simp at hs;subst hs;exact key (by simp[ho]) (by simp only[execOp,ho];exact aaI hρ h)
 case build t parts=>
  split at hs
  .rename_i z fs hz hu;split at hs
   .rename_i qs hq;simp only[alN]at hs;obtain⟨ps,hp,rfl⟩:=hs;exact key (by simp[ho]) (by simp only[execOp,ho];exact aaM hρ hz hu hq hp h)
   .simp at hs
  .rename_i z n e hz hu;simp only[alN]at hs;obtain⟨size,aS,rfl⟩:=hs;exact key (by simp[ho]) (by simp only[execOp,ho];exact aaL hρ hz hu aS h)
  .simp at hs
 case buildSlice t m parts=>
  split at hs
  .rename_i e hu;split at hs
   .rename_i size aS;split at hs
    .rename_i hm;simp only[alN]at hs;obtain⟨z,hz,rfl⟩:=hs;exact key (by simp[ho]) (by simp only[execOp,ho];exact aaJ hρ hu aS hm hz h)
    .simp at hs
   .simp at hs
  .simp at hs
 case load t x=>
  split at hs
  .rename_i m hg aS;simp at hs;subst hs;exact key (by simp[ho]) (by simp only[execOp,ho];exact aa5 hρ hg aS h)
  .rename_i m hg aS;simp at hs;subst hs;exact key (by simp[ho]) (by simp only[execOp,ho];exact aa4 hρ hg h)
  .simp at hs
 case store t x v=>
  split at hs
  .split at hs
   .rename_i hm;simp at hs;subst hs;exact key (by simp[ho]) (by simp only[execOp,ho];exact abq hρ hm h)
   .simp at hs
  .simp only[alN]at hs;obtain⟨m,hm,rfl⟩:=hs;exact key (by simp[ho]) (by simp only[execOp,ho];exact abp hρ hm h)
 case nilCheck x=>simp at hs;subst hs;exact key (by simp[ho]) (abg hρ h o ho)
 case binOp op t x y yt=>exact key (by simp[ho]) (by simp only[execOp,ho];exact XZ hs hρ h)
 case unOp op t x=>split at hs<;>simp at hs<;>subst hs<;>exact key (by simp[ho]) (by simp only[execOp,ho];exact abt hρ h)
 case convert src d x=>
  split at hs
  .rename_i k1 k2 kM iD;simp at hs;subst hs;exact key (by simp[ho]) (by simp only[execOp,ho];exact aaT hρ kM iD h)
  .rename_i e kM iD;split at hs
   .rename_i KN;simp at hs;subst hs;exact key (by simp[ho]) (by simp only[execOp,ho];exact aaK hρ kM KN iD h)
   .simp at hs
  .rename_i e kM iD;split at hs
   .rename_i KN;simp at hs;subst hs;exact key (by simp[ho]) (by simp only[execOp,ho];exact aaN hρ kM iD KN h)
   .simp at hs
  .simp at hs
 case makeInterface t x=>
  split at hs
  .simp at hs
  .rename_i d hd hu;simp at hs;subst hs;exact key (by simp[ho]) (by simp only[execOp,ho];exact aba hρ hu (by rintro ms rfl;exact hd ms Y) h)
  .simp at hs
 case makeFunc fn first cap=>
  cases fn<;>simp at hs;subst hs;exact key (by simp[ho]) (by simp only[execOp,ho];exact aaZ hρ h)
 case makeMap t r=>
  split at hs
  .rename_i hr;have cG:r=none∨∃kk n,r=some (.const (.int kk n)):=by
    unfold SG at hr;split at hr<;>simp at hr⊢
   split at hs
   .rename_i k e hu;simp at hs;subst hs;exact key (by simp[ho]) (by simp only[execOp,ho];exact abb hu cG hρ h)
   .simp at hs
  .simp at hs
 case makeSlice t x y=>
  split at hs
  .rename_i e hu;split at hs
   .rename_i i hi;simp only[alN]at hs;obtain⟨z,hz,rfl⟩:=hs;exact key (by simp[ho]) (by simp only[execOp,ho];exact abc hρ hu hi hz h)
   .simp at hs
  .simp at hs
 case slice t x lo hi mx=>
  cases mx with
  |some mx=>
   cases hi<;>simp only at hs<;>first|(simp at hs;done)|skip;split at hs
   .rename_i e hu;simp only[alN]at hs;obtain⟨m,hm,rfl⟩:=hs;exact key (by simp[ho]) (by simp only[execOp,ho];exact abn hρ hu hm h)
   .simp at hs
  |none=>
  simp only at hs;split at hs
  .rename_i hu;simp at hs;subst hs;exact key (by simp[ho]) (by simp only[execOp,ho];exact abo hρ hu h)
  .rename_i e hu;simp only[alN]at hs;obtain⟨m,hm,rfl⟩:=hs;exact key (by simp[ho]) (by simp only[execOp,ho];exact abm hρ hu hm h)
  .simp at hs
 case fieldAddr t x f=>
  split at hs
  .rename_i fs hu;split at hs
   .rename_i fl hf;split at hs
    .rename_i m hm;simp at hs;subst hs;exact key (by simp[ho]) (by simp only[execOp,ho];exact aaY hρ hu hf hm h)
    .simp at hs
   .simp at hs
  .simp at hs
 case indexAddr t x i=>
  split at hs
  .rename_i m e hu;simp only[alN]at hs;obtain⟨z,hz,rfl⟩:=hs;exact key (by simp[ho]) (by simp only[execOp,ho];exact aa0 hρ hu hz h)
  .rename_i e hu;simp only[alN]at hs;obtain⟨z,hz,rfl⟩:=hs;exact key (by simp[ho]) (by simp only[execOp,ho];exact aa2 hρ hu hz h)
  .simp at hs
 case index t x i=>
  split at hs
  .rename_i hu;simp at hs;subst hs;exact key (by simp[ho]) (by simp only[execOp,ho];exact aa1 hρ hu h)
  .rename_i m e hu;split at hs
   .rename_i s hg aS;simp at hs;subst hs;exact key (by simp[ho]) (by simp only[execOp,ho];exact aa3 hρ hu hg aS h)
   .simp at hs
  .simp at hs
 case lookup t m k ok=>
  split at hs
  .rename_i kt et hu;split at hs
   .rename_i kd z hk hz;simp at hs;subst hs;exact key (by simp[ho]) (by simp only[execOp,ho];exact aa9 hρ hu hk hz h)
   .simp at hs
  .simp at hs
 case mapUpdate t m k v=>
  split at hs
  .rename_i kt et hu;simp only[alN]at hs;obtain⟨kd,hk,rfl⟩:=hs;exact key (by simp[ho]) (by simp only[execOp,ho];exact PM hρ hu hk h)
  .simp at hs
 case insert t m k v=>
  split at hs
  .rename_i kt et hu;simp only[alN]at hs;obtain⟨kd,hk,rfl⟩:=hs;exact key (by simp[ho]) (by simp only[execOp,ho];exact PM hρ hu hk h)
  .simp at hs
 case extract x i=>simp at hs;subst hs;exact key (by simp[ho]) (by simp only[execOp,ho];exact aaX hρ h)
 case panic x=>
  simp at hs;subst hs;simp only[aE]at h;split at h
  .rename_i t v hx;refine⟨λ_ _=>trivial,?_⟩;have hd:∀c,o.op≠.defer c:=by simp[ho]
   have hr:(execOp a.eval o).run P w=.halt (.panic (.iface t v)) w:=by
    simp[execOp,ho,hρ x _ hx,Instr.panic,goPanic]
   rw[Oper.semAt_eq _ _ _ hd,hr];exact hQ _ w (ck.refl w) h
  .exact h.elim
 case range t x=>
  split at hs
  .rename_i k e hu;simp at hs;subst hs;exact key (by simp[ho]) (by simp only[execOp,ho];exact abl hρ hu h)
  .simp at hs
 case next x b=>
  cases b with
  |false=>
   simp at hs;subst hs;exact key (by simp[ho]) (by simp only[execOp,ho];exact abh hρ h)
  |true=>simp at hs
 case entry x=>simp at hs;subst hs;exact key (by simp[ho]) (by simp only[execOp,ho];exact aaU hρ h)
 case typeAssert x xt t ok=>
  split at hs
  .simp at hs
  .rename_i d z hd hu hz;simp at hs;subst hs;exact key (by simp[ho]) (by simp only[execOp,ho];exact abr hρ hu (by rintro ms rfl;exact hd ms Y) hz h)
  .simp at hs
end Go.Sx
namespace Go.Sx
open Go
variable{K':Env->af->Prop}{Q:Exit->Act->World->Prop}{listed:Array Bool}{post:List (Nat×aD)}{ro:Option Nat}{s:aD}{w0:World}{τ:Env}
variable {P:Program}{σ σ':Env}{h:af}{Qp:List PanicEntry->af->Prop}
def oJ(n:Nat):∀l:List Nat,dz n l=true↔n∈l
 |[]=>by simp[dz]
 |m::l=>by
  simp only[dz,ak3,cond_eq_ite];split
  .rename_i e;simp[amT e]
  .rename_i e;have ax:n≠m:=by rintro rfl;exact e (anI n)
   rw[oJ n l];simp[ax]
def iM{d:Option Nat}{v:Value}{t:Nat}(ht:d≠some t):upd σ d v t=σ t:=by
 cases d with
 |none=>rfl
 |some d=>
  have:Nat.beq t d=false:=by
   cases hb:Nat.beq t d
   .rfl
   .exact absurd (by rw[amT hb]) ht
  simp[upd,this]
def rC{d:Nat}{v:Value}:upd σ (some d) v d=some v:=by simp[upd]
def HR{d e:Option Nat}{v u:Value}(ax:∀t,d=some t->e≠some t):upd (upd σ d v) e u=upd (upd σ e u) d v:=by
 funext t;by_cases h1:d=some t
 .subst h1;rw[iM (ax t Y),rC,rC]
 .by_cases h2:e=some t
  .subst h2;rw[rC,iM h1,rC]
  .rw[iM h2,iM h1,iM h1,iM h2]
def R5:∀(l:List Operand)(t:Nat),t∈slotsOf l↔.tmp t∈l
 |[],t=>by simp[slotsOf]
 |x::l,t=>by
  cases x<;>simp[slotsOf,R5 l t]
def Y0{l:List Operand}(ha:∀t∈slotsOf l,σ' t=σ t):∀x∈l,ev σ x=ev σ' x:=by
 intro x hx;cases x with
 |tmp t=>exact(ha t ((R5 l t).2 hx)).symm
 |_=>rfl
def HA{s:dx}{K:Value->af->Prop}(ha:∀t∈slotsOf s.reads,σ' t=σ t)(hs:aE P σ h K Qp s):aE P σ' h K Qp s:=by
 rw[<-U8 s (Y0 ha)];exact hs
def vz{x:aD}{K:Env->af->Prop}(hq:cls x.op<=1)(hs:cW P σ h x K Qp):∃v,K (upd σ x.dst v) h∧∀σ' h',(∀t∈x.slots,σ' t=σ t)->(cls x.op=0∨Ext h h')->∀K':Env->af->Prop,K' (upd σ' x.dst v) h'->cW P σ' h' x K' Qp:=by
 unfold cW at hs⊢;split at hs
 .rename_i hg;obtain⟨v,hv,bD⟩:=quiet x.op hq hs;refine⟨v,hv,λσ' h' ha he K' hk=>?_⟩;refine HA (σ:=σ) (λt ht=>ha t ?_) (bD h' he _ Qp hk);simpa[aD.slots,hg]using ht
 .rename_i g want hg;split at hs
  .rename_i t ht;split at hs
   .rename_i hw;obtain⟨v,hv,bD⟩:=quiet x.op hq hs;refine⟨v,hv,λσ' h' ha he K' hk=>?_⟩;have hσ:σ' g=some t:=by rw[ha g (by simp[aD.slots,hg]),ht]
    simp only[hσ,hw];refine HA (σ:=σ) (λt ht=>ha t ?_) (bD h' he _ Qp hk);simp[aD.slots,hg,ht]
   .rename_i hw;refine⟨undef,hs,λσ' h' ha he K' hk=>?_⟩;have hσ:σ' g=some t:=by rw[ha g (by simp[aD.slots,hg]),ht]
    simp only[hσ,hw];exact hk
  .exact hs.elim
def HC{y:aD}{K:Env->af->Prop}(ha:∀t∈y.slots,σ' t=σ t)(hs:cW P σ h y K Qp)(hk:∀v h',(cls y.op<=2->Ext h h')->K (upd σ y.dst v) h'->K' (upd σ' y.dst v) h'):cW P σ' h y K' Qp:=by
 have main:∀hs:aE P σ h (λv h'=>K (upd σ y.dst v) h') Qp y.op,aE P σ h (λv h'=>K' (upd σ' y.dst v) h') Qp y.op:=by
  intro hs;by_cases hc:cls y.op<=2
  .exact HB y.op (ahc y.op hc hs) λv h' hv=>hk v h' (λ_=>hv.2) hv.1
  .exact HB y.op hs λv h' hv=>hk v h' (λh=>absurd h hc) hv
 unfold cW at hs⊢;split at hs
 .rename_i hg;refine HA (σ:=σ) (λt ht=>ha t ?_) (main hs);simpa[aD.slots,hg]using ht
 .rename_i g want hg;split at hs
  .rename_i t ht;have hσ:σ' g=some t:=by rw[ha g (by simp[aD.slots,hg]),ht]
   simp only[hσ];split at hs
   .rename_i hw;refine HA (σ:=σ) (λt ht=>ha t ?_) (main hs);simp[aD.slots,hg,ht]
   .rename_i hw;exact hk undef h (λ_=>Ext.refl h) hs
  .exact hs.elim
def ue{y:aD}{K:Env->af->Prop}(hs:cW P σ h y K Qp)(hk:∀σ' h',K σ' h'->K' σ' h'):cW P σ h y K' Qp:=
 HC (λ_ _=>rfl) hs λ_ _ _ hv=>hk _ _ hv
def RW{x y:aD}(hl:loose x y=true):(∀d,x.dst=some d->d∉y.slots)∧(∀t,x.dst=some t->y.dst≠some t)∧(∀e,y.dst=some e->e∉x.slots)∧(cls x.op=0∨(cls x.op=1∧cls y.op<=2)):=by
 unfold loose at hl;simp only[alO]at hl;obtain⟨⟨h1,h2⟩,h3⟩:=hl;refine⟨λd hd=>?_,λt ht hy=>?_,λe he=>?_,?_⟩
 .rw[hd]at h1;simp only[alO,am0]at h1;intro hm;rw[(oJ d y.slots).2 hm]at h1;simp at h1
 .rw[ht]at h1;simp only[hy,alO,am0]at h1;simp at h1
 .rw[he]at h2;simp only[am0]at h2;intro hm;rw[(oJ e x.slots).2 hm]at h2;simp at h2
 .split at h3
  .rename_i h;exact .inl h
  .rename_i h;exact .inr ⟨h,amP h3⟩
  .simp at h3
def swap{x y:aD}{K:Env->af->Prop}(hl:loose x y=true)(hs:cW P σ h x (λσ1 h1=>cW P σ1 h1 y K Qp) Qp):cW P σ h y (λσ1 h1=>cW P σ1 h1 x K Qp) Qp:=by
 obtain⟨l1,l2,l3,l4⟩:=RW hl;obtain⟨v,hy,nE⟩:=vz V hs;refine HC (σ:=upd σ x.dst v) (λt ht=>(iM λe=>l1 t e ht).symm) hy λu h' he hk=>nE _ h' (λt ht=>iM λe=>l3 t e ht) ?_ K ?_
 .rcases l4 with h0|⟨_,h2⟩
  .exact .inl h0
  .exact .inr (he h2)
 .rw[<-HR l2];exact hk
def HD{K:Env->af->Prop}(y:aD)(post:List aD):∀(pre:List aD)(σ:Env)(h:af),(∀x∈pre,loose x y=true)->cD P Qp K (pre++y::post) σ h->cD P Qp K (y::(pre++post)) σ h
 |[],σ,h,_,hs=>hs
 |x::pre,σ,h,hl,hs=>by
  simp only[amK,cD]at hs⊢;exact swap (hl x Yy) (ue hs λσ1 h1 h2=>HD y post pre σ1 h1 (λz hz=>hl z (by simp[hz])) h2)
structure Rel (σ:Env) (nt:Nat) (ds:List Deferred) (a:Act):Prop where
 size:a.tmps.size=nt
 defers:a.defers=ds
 knows:cg σ a.eval
def Rel.put{nt:Nat}{ds:List Deferred}{a:Act}(hr:Rel σ nt ds a){d:Option Nat}(hd:∀t,d=some t->t<nt)(v:Value):Rel (upd σ d v) nt ds (a.put d v):=by
 cases d with
 |none=>exact hr
 |some d=>
  have ah:=hd d Y;refine⟨by simp[Act.put,hr.size],by simp[Act.put,hr.defers],λx u hx=>?_⟩;cases x with
  |tmp t=>
   by_cases ht:t=d
   .subst ht;simp[ev,upd]at hx;subst hx;simp[Act.eval,Act.put,hr.size,ah]
   .have hn:upd σ (some d) v t=σ t:=iM (by intro e;exact ht (by simpa using e.symm));have hx':ev σ (.tmp t)=some u:=by rw[<-hx];exact hn.symm
    have:=hr.knows _ _ hx';simp only[Act.eval,Act.put]at this⊢;rw[<-this];simp[aok (aoX ht)]
  |const c=>exact hr.knows (.const c) u hx
  |global g=>exact hr.knows (.global g) u hx
  |func f=>exact hr.knows (.func f) u hx
def Rel.Tp{nt:Nat}{ds:List Deferred}{a:Act}(hr:Rel σ nt ds a){d:Option Nat}(hd:∀t,d=some t->σ t=none)(v:Value):Rel σ nt ds (a.put d v):=by
 cases d with
 |none=>exact hr
 |some d=>
  refine⟨by simp[Act.put,hr.size],by simp[Act.put,hr.defers],λx u hx=>?_⟩;cases x with
  |tmp t=>
   have ht:t≠d:=by
    rintro rfl;have:=hd t Y;simp[ev,this]at hx
   have:=hr.knows _ _ hx;simp only[Act.eval,Act.put]at this⊢;rw[<-this];simp[aok (aoX ht)]
  |_=>exact hr.knows _ _ hx
def Rel.sub{nt:Nat}{ds:List Deferred}{a:Act}(hr:Rel σ nt ds a)(hs:Sub σ' σ):Rel σ' nt ds a:=
 ⟨hr.size,hr.defers,λx u hx=>by
  cases x with
  |tmp t=>exact hr.knows (.tmp t) u (hs t u hx)
  |_=>exact hr.knows _ u hx⟩
variable {ops:Array Oper}{nt:Nat}{ds:List Deferred}
def Good(P:Program)(ops:Array Oper)(nt:Nat)(i:Nat)(s:aD):Prop:=
 ∃o s0,ops[i]? =some o∧alV P ops nt o=some s0∧(s=s0∨s=mO s0)
def X2{o:Oper}(hs:alV P ops nt o=some s):s.dst=o.dst∧Fo P o=some s.op∧(∀d,o.dst=some d->d<nt)∧
  ((o.guard=none∧s.guard=none)∨∃j want g,o.guard=some (j,want)∧(ops[j]?).bind (·.dst)=some g∧g<nt∧s.guard=some (g,want)):=by
 unfold alV at hs;split at hs
 .simp at hs
 .rename_i s1 hc;split at hs
  .simp at hs
  .rename_i ah;have Qu:∀d,o.dst=some d->d<nt:=by
    intro d hd;rw[hd]at ah;exact amP ah
   split at hs
   .rename_i hg;simp at hs;subst hs;exact⟨Y,hc,Qu,.inl ⟨hg,Y⟩⟩
   .rename_i j want hg;split at hs
    .rename_i g hj;split at hs
     .rename_i hgn;simp at hs;subst hs;exact⟨Y,hc,Qu,.inr ⟨j,want,g,hg,hj,hgn,Y⟩⟩
     .simp at hs
    .simp at hs
def XD{K:Env->af->Prop}(hs:cW P σ h (mO s) K Qp):cW P σ h s K Qp:=by
 have main:∀K:Value->af->Prop,aE P σ h K Qp (mO s).op->aE P σ h K Qp s.op:=by
  intro K hs;unfold mO at hs;split at hs
  .rename_i f xs ho;rw[ho];simp only[aE]at hs⊢;split at hs
   .exact hs.mono λ_ _ he=>he.2
   .exact hs.elim
  .exact hs
 have hg:(mO s).guard=s.guard:=by unfold mO;split<;>rfl
 have hd:(mO s).dst=s.dst:=by unfold mO;split<;>rfl
 unfold cW at hs⊢;rw[hg,hd]at hs;split at hs
 .rename_i h0;exact main _ hs
 .rename_i g want h0;split at hs
  .rename_i t ht;split at hs
   .exact main _ hs
   .exact hs
  .exact hs.elim
def Au{i:Nat}(mW:Good P ops nt i s){K:Env->af->Prop}{a:Act}{w:World}(oW:Rel σ nt ds a)(fL:Rel τ nt ds a)(wJ:∀d,s.dst=some d->τ d=none)(hs:cW P σ w.heap s K Qp){n:Nat}{next:Act->World->Prop}(hK:∀σ' a' w',Rel σ' nt ds a'->Rel τ nt ds a'->ck w w'->K σ' w'.heap->next a' w')(hQ:∀ch w',ck w w'->Qp ch w'.heap->Q (.panic ch) a w'):wpOpIn (FW ro) n P ops Q i next a w:=by
 obtain⟨o,s0,hi,hc,KD⟩:=mW;have eG:cW P σ w.heap s0 K Qp:=by
  rcases KD with rfl|rfl
  .exact hs
  .exact XD hs
 have qH:s.dst=s0.dst:=by
  rcases KD with rfl|rfl
  .rfl
  .unfold mO;split<;>rfl
 obtain⟨h1,h2,h3,h4⟩:=X2 hc;have run:aE P σ w.heap (λv h'=>K (upd σ s0.dst v) h') Qp s0.op->o.wpIn (FW ro) n P a w next Q:=λhs=>
  X1 h2 oW.knows hs (λv w' hb hk=>hK _ _ w' (by rw[h1];exact oW.put h3 v) (fL.Tp (λt ht=>wJ t (by rw[qH,h1];exact ht)) v) hb hk) hQ
 simp only[wpOpIn,hi];rcases h4 with⟨hg,hg'⟩|⟨j,want,g,hg,hj,hgn,hg'⟩
 .have hw:Region.wanted o (yielded ops a.tmps)=true:=by simp[Region.wanted,hg]
  rw[ak4 hw];simp only[cW,hg']at eG;exact run eG
 .simp only[cW,hg']at eG;split at eG
  .rename_i t ht;have jw:=oW.knows (.tmp g) _ ht;have hgt:a.tmps[g]? =some t:=by
    simp only[Act.eval]at jw;have ah:g<a.tmps.size:=by rw[oW.size];exact hgn
    rw[Array.getElem?_eq_getElem ah];simpa[Array.getD,ah]using jw
   have hw:Region.wanted o (yielded ops a.tmps)=MR t want:=by
    simp only[Region.wanted,hg,yielded,hj,Option.bind_some,hgt];unfold MR;cases t<;>first|rfl|(rename_i b;cases b<;>cases want<;>rfl)
   split at eG
   .rename_i KM;rw[ak4 (by rw[hw];exact KM)];exact run eG
   .rename_i KM;rw[akZ (by rw[hw,KM];simp)];exact⟨λ_ _=>trivial,hK (upd σ s0.dst undef) (a.put o.dst undef) w (by rw[h1];exact oW.put h3 undef) (fL.Tp (λt ht=>wJ t (by rw[qH,h1];exact ht)) undef) (ck.refl w) eG⟩
  .exact eG.elim
def RO{K:Env->af->Prop}{τ:Env}{ro:Option Nat}{n:Nat}{Q:Exit->Act->World->Prop}{w0:World}(hN:∀σ' a' w',Rel σ' nt ds a'->ck w0 w'->K σ' w'.heap->Q .normal a' w')(hQ:∀ch a' w',Rel τ nt ds a'->ck w0 w'->Qp ch w'.heap->Q (.panic ch) a' w'):∀(l:List (Nat×aD))(σ:Env)(a:Act)(w:World),(∀p∈l,Good P ops nt p.1 p.2)->(∀p∈l,∀d,p.2.dst=some d->τ d=none)->Rel σ nt ds a->Rel τ nt ds a->ck w0 w->
   cD P Qp K (l.map (·.2)) σ w.heap->wpOpsIn (FW ro) n P ops Q (l.map (·.1)) a w
 |[],σ,a,w,_,_,hr,_,hb,hs=>hN σ a w hr hb hs
 |(i,s)::l,σ,a,w,hg,hd,hr,fL,hb,hs=>by
  simp only[alR,cD]at hs⊢;rw[wpOpsIn_cons];exact Au (hg (i,s) Yy) hr fL (hd (i,s) Yy) hs (λσ' a' w' cG qV bh hk=>RO hN hQ l σ' a' w' (λp hp=>hg p (by simp[hp])) (λp hp=>hd p (by simp[hp])) cG qV (hb.trans bh) hk) (λch w' bh hk=>hQ ch a w' fL (hb.trans bh) hk)
def Bc(i:Nat):(gS ops).getD i []=lg ops i:=by
 unfold gS;by_cases hi:i<ops.size
 .simp[List.getD,hi]
 .have:ops[i]? =none:=by simp;omega
  simp[List.getD,lg,hi]
def px(ops:Array Oper)(L:Nat->Prop):Prop:=∀j,L j->∀k∈lg ops j,L k
def BH{L:Nat->Prop}(hL:px ops L):∀(n:Nat)(work acc:List Nat),(∀k∈work,L k)->(∀k∈acc,L k)->∀k∈closure (gS ops) n work acc,L k
 |0,work,acc,_,ha=>by cases work<;>simpa[closure]using ha
 |n+1,[],acc,_,ha=>by simpa[closure]using ha
 |n+1,x::r,acc,hw,ha=>by
  simp only[closure];split
  .exact BH hL n r acc (λk hk=>hw k (by simp[hk])) ha
  .refine BH hL n _ _ (λk hk=>?_) (λk hk=>?_)
   .rw[Bc]at hk;rcases alf.1 hk with hk|hk
    .exact hL x (hw x Yy) k hk
    .exact hw k (by simp[hk])
   .rcases ak3.1 hk with rfl|hk
    .exact hw k Yy
    .exact ha k hk
def qq(ops:Array Oper):(Nat->Prop)->List Nat->Prop
 |_,[]=>True
 |L,x::r=>(∀k∈lg ops x,L k)∧qq ops (λk=>L k∨k=x) r
def qq.mono{L L':Nat->Prop}(PW:∀k,L k->L' k):∀{l:List Nat},qq ops L l->qq ops L' l
 |[],_=>trivial
 |_::_,⟨h1,h2⟩=>⟨λk hk=>PW k (h1 k hk),h2.mono λk hk=>hk.imp (PW k) id⟩
def qq.drop{y:Nat}{post:List Nat}:∀{pre:List Nat}{L:Nat->Prop},qq ops L (pre++y::post)->qq ops (λk=>L k∨k=y) (pre++post)
 |[],L,ht=>ht.2
 |x::pre,L,⟨h1,h2⟩=>by
  refine⟨λk hk=>.inl (h1 k hk),?_⟩;have:=qq.drop h2;refine this.mono λk hk=>?_;rcases hk with(hk|hk)|hk
  .exact .inl (.inl hk)
  .exact .inr hk
  .exact .inl (.inr hk)
def Nj(ops:Array Oper)(x y:Nat×aD):Prop:=(∀L:Nat->Prop,px ops L->(∀k∈lg ops y.1,L k)->L x.1)∨loose x.2 y.2=true
def N9{K:Env->af->Prop}{n:Nat}(hN:∀σ' a' w',Rel σ' nt ds a'->ck w0 w'->K σ' w'.heap->Q .normal a' w')(hQ:∀ch a' w',Rel τ nt ds a'->ck w0 w'->Qp ch w'.heap->Q (.panic ch) a' w'):∀(fuel:Nat)(l:List (Nat×aD))(listed:Array Bool)(σ:Env)(a:Act)(w:World),l.length=fuel->(∀p∈l,Good P ops nt p.1 p.2)->(∀p∈l,∀d,p.2.dst=some d->τ d=none)->
   (l.map (·.1)).Nodup->(∀i,i<ops.size->(listed.getD i true=false↔i∈l.map (·.1)))->listed.size=ops.size->px ops (λk=>listed.getD k false=true)->
   qq ops (λk=>listed.getD k false=true) (l.map (·.1))->l.Pairwise (Nj ops)->Rel σ nt ds a->Rel τ nt ds a->ck w0 w->cD P Qp K (l.map (·.2)) σ w.heap->
   wpAnyIn (FW ro) n P .any ops Q fuel listed a w:=by
 intro fuel;induction fuel with
 |zero=>
  intro l listed σ a w hlen hg hd dt tq aS dE xh nZ hr fL hb hs;have:l=[]:=by simpa using hlen
  subst this;refine⟨?_,hN σ a w hr hb hs⟩;rw[List.eq_nil_iff_forall_not_mem];intro j hj;obtain⟨h1,o,h2,_⟩:=mem_ready.1 hj;have:=(tq j (al4.1 h2).1).1 h1;simp at this
 |succ fuel ih=>
  intro l listed σ a w hlen hg hd dt tq aS dE xh nZ hr fL hb hs;refine⟨λpQ=>?_,λi hi=>?_⟩
  ·-- the first of ours is ready
   exfalso;cases l with
   |nil=>simp at hlen
   |cons p l=>
    obtain⟨o,s0,ho,_⟩:=hg p Yy;have ah:=(al4.1 ho).1;have:p.1∈Region.ready .any ops listed:=by
     refine mem_ready.2 ⟨(tq p.1 ah).2 Yy,o,ho,λe he oK=>xh.1 e.on ?_⟩;simp only[lg,ho,alF,amb];exact⟨e,⟨by simpa using he,oK⟩,Y⟩
    rw[pQ]at this;simp at this
  .obtain⟨jX,o,CG,sV⟩:=mem_ready.1 hi;have ah:=(al4.1 CG).1;have dF:=(tq i ah).1 jX;obtain⟨p,hp,tC⟩:=alF.1 dF;obtain⟨pre,post,rfl⟩:=an7 hp;obtain⟨j,s⟩:=p;simp only at tC;subst tC;have gK:∀k∈lg ops j,listed.getD k false=true:=by
    intro k hk;simp only[lg,CG,alF,amb]at hk;obtain⟨e,⟨he,oK⟩,rfl⟩:=hk;exact sV e (by simpa using he) oK
   have CP:∀x∈pre.map (·.2),loose x s=true:=by
    intro x hx;obtain⟨q,hq,rfl⟩:=alF.1 hx;have eg:=(anb.1 nZ).2.2 q hq (j,s) Yy;rcases eg with Di|hl
    .exfalso;have oV:=Di _ dE gK;obtain⟨oq,_,Ks,_⟩:=hg q (by simp[hq]);have KA:=(al4.1 Ks).1;have eC:=(tq q.1 KA).2 (by simp only[alD,alf,alF];exact .inl ⟨q,hq,Y⟩);rw[amO]at oV eC;have eG:q.1<listed.size:=V
     simp[eG]at oV eC;simp[oV]at eC
    .exact hl
   simp only[alD,alR]at hs
   have eT:=HD s (post.map (·.2)) (pre.map (·.2)) σ w.heap CP hs
   simp only[cD]at eT;refine Au (hg (j,s) Yy) hr fL (hd (j,s) Yy) eT (λσ' a' w' cG qV bh hk=>?_) (λch w' bh hk=>hQ ch a w' fL (hb.trans bh) hk);have eA:j<listed.size:=V
   refine ih (pre++post) (listed.setIfInBounds j true) σ' a' w' ?_ ?_ ?_ ?_ ?_ (by simp[aS]) ?_ ?_ ?_ cG qV (hb.trans bh) (by simpa using hk)
   .simp at hlen⊢;omega
   .exactλp hp=>hg p (by simp only[alf,ak3]at hp⊢;rcases hp with h|h<;>simp[h])
   .exactλp hp=>hd p (by simp only[alf,ak3]at hp⊢;rcases hp with h|h<;>simp[h])
   .simp only[alD,alR]at dt⊢;exact dt.sublist (ani (ano _ _) _)
   .intro k hk;have aZ:k<listed.size:=V
    have qM:j∉pre.map (·.1)∧j∉post.map (·.1):=by
     simp only[alD,alR]at dt;have:=amN.1 dt;refine⟨λhm=>this.2.2 j hm j Yy Y,(amc.1 this.2.1).1⟩
    by_cases oO:k=j
    .subst oO;simp only[amO,aob,aZ,anB,Option.getD_some,alD,alf];simp[qM]
    .have h1:(listed.setIfInBounds j true).getD k true=listed.getD k true:=getD_set_ne true (λe=>oO e.symm);rw[h1,tq k hk];simp only[alD,alR,alf,ak3];constructor
     .rintro(h|h|h)
      .exact .inl h
      .exact absurd h oO
      .exact .inr h
     .rintro(h|h)
      .exact .inl h
      .exact .inr (.inr h)
   .intro k hk m hm;by_cases oO:k=j
    .subst oO;exact getD_set_true (gK m hm)
    .rw[getD_set_ne false (λe=>oO e.symm)]at hk;exact getD_set_true (dE k hk m hm)
   .simp only[alD,alR]at xh⊢;refine xh.drop.mono λk hk=>?_;rcases hk with hk|rfl
    .exact getD_set_true hk
    .simp[eA]
   .exact nZ.sublist (ani (ano _ _) _)
structure Inv (P:Program) (ops:Array Oper) (nt:Nat) (τ:Env) (l:List (Nat×aD)) (listed:Array Bool):Prop where
 good:∀p∈l,Good P ops nt p.1 p.2
 dst:∀p∈l,∀d,p.2.dst=some d->τ d=none
 nd:(l.map (·.1)).Nodup
 mem:∀i,i<ops.size->(listed.getD i true=false↔i∈l.map (·.1))
 HM:qq ops (λk=>listed.getD k false=true) (l.map (·.1))
def Inv.step{pre:List (Nat×aD)}{j:Nat}(v:Inv P ops nt τ (pre++(j,s)::post) listed)(aS:listed.size=ops.size)(hj:j<ops.size):Inv P ops nt τ (pre++post) (listed.setIfInBounds j true) where
 good p hp:=v.good p (by simp only[alf,ak3]at hp⊢;rcases hp with h|h<;>simp[h])
 dst p hp:=v.dst p (by simp only[alf,ak3]at hp⊢;rcases hp with h|h<;>simp[h])
 nd:=by
  have dt:=v.nd;simp only[alD,alR]at dt⊢;exact dt.sublist (ani (ano _ _) _)
 mem k hk:=by
  have aZ:k<listed.size:=V
  have dt:=v.nd
  have qM:j∉pre.map (·.1)∧j∉post.map (·.1):=by
   simp only[alD,alR]at dt;have:=amN.1 dt;refine⟨λhm=>this.2.2 j hm j Yy Y,(amc.1 this.2.1).1⟩
  by_cases oO:k=j
  .subst oO;simp only[amO,aob,aZ,anB,Option.getD_some,alD,alf];simp[qM]
  .have h1:(listed.setIfInBounds j true).getD k true=listed.getD k true:=getD_set_ne true (λe=>oO e.symm);rw[h1,v.mem k hk];simp only[alD,alR,alf,ak3];constructor
   .rintro(h|h|h)
    .exact .inl h
    .exact absurd h oO
    .exact .inr h
   .rintro(h|h)
    .exact .inl h
    .exact .inr (.inr h)
 HM:=by
  have xh:=v.HM;simp only[alD,alR]at xh⊢;refine xh.drop.mono λk hk=>?_;rcases hk with hk|rfl
  .exact getD_set_true hk
  .have eA:k<listed.size:=V
   simp[eA]
def wk{j:Nat}(dE:px ops (λk=>listed.getD k false=true))(gK:∀k∈lg ops j,listed.getD k false=true):px ops (λk=>(listed.setIfInBounds j true).getD k false=true):=by
 intro k hk m hm;by_cases oO:k=j
 .subst oO;exact getD_set_true (gK m hm)
 .rw[getD_set_ne false (λe=>oO e.symm)]at hk;exact getD_set_true (dE k hk m hm)
def Inv.first{p:Nat×aD}{l:List (Nat×aD)}(v:Inv P ops nt τ (p::l) listed):p.1∈Region.ready .any ops listed:=by
 obtain⟨o,s0,ho,_⟩:=v.good p Yy;have ah:=(al4.1 ho).1;refine mem_ready.2 ⟨(v.mem p.1 ah).2 Yy,o,ho,λe he oK=>v.HM.1 e.on ?_⟩;simp only[lg,ho,alF,amb];exact⟨e,⟨by simpa using he,oK⟩,Y⟩
def Inv.El{l:List (Nat×aD)}(v:Inv P ops nt τ l listed)(aS:listed.size=ops.size){q:Nat×aD}(hq:q∈l)(h:listed.getD q.1 false=true):False:=by
 obtain⟨oq,_,Ks,_⟩:=v.good q hq;have KA:=(al4.1 Ks).1;have eC:=(v.mem q.1 KA).2 (alF.2 ⟨q,hq,Y⟩);rw[amO]at h eC;have eG:q.1<listed.size:=V
 simp[eG]at h eC;simp[h]at eC
def vS(ops:Array Oper)(a y:Nat):Prop:=∀L:Nat->Prop,px ops L->(∀k∈lg ops y,L k)->L a
def AU(ops:Array Oper)(a b:Nat)(x y:Nat×aD):Prop:=Nj ops x y∨(x.1=a∧(y.1=b∨vS ops b y.1))
def Va{K:Env->af->Prop}:∀(l m:List aD)(σ:Env)(h:af),cD P Qp (λσ1 h1=>cD P Qp K m σ1 h1) l σ h->cD P Qp K (l++m) σ h
 |[],_,_,_,hs=>hs
 |_::l,m,_,_,hs=>ue hs λσ1 h1 h2=>Va l m σ1 h1 h2
def amg{K K':Env->af->Prop}(hk:∀σ h,K σ h->K' σ h):∀(l:List aD)(σ:Env)(h:af),cD P Qp K l σ h->cD P Qp K' l σ h
 |[],σ,h,hs=>hk σ h hs
 |_::l,_,_,hs=>ue hs λσ1 h1 h2=>amg hk l σ1 h1 h2
def move{K:Env->af->Prop}{pre:List (Nat×aD)}{j a b:Nat}(v:Inv P ops nt τ (pre++(j,s)::post) listed)(aS:listed.size=ops.size)(dE:px ops (λk=>listed.getD k false=true))(gK:∀k∈lg ops j,listed.getD k false=true)(nZ:(pre++(j,s)::post).Pairwise (AU ops a b))(cY:a∉pre.map (·.1)){σ:Env}{h:af}(hs:cD P Qp K ((pre++(j,s)::post).map (·.2)) σ h):cW P σ h s (cD P Qp K ((pre++post).map (·.2))) Qp:=by
 have CP:∀x∈pre.map (·.2),loose x s=true:=by
  intro x hx;obtain⟨q,hq,rfl⟩:=alF.1 hx;have eg:=(anb.1 nZ).2.2 q hq (j,s) Yy;rcases eg with(Di|hl)|⟨h1,_⟩
  .exact(v.El aS (q:=q) (by simp[hq]) (Di _ dE gK)).elim
  .exact hl
  .exact absurd (by rw[<-h1];exact alF.2 ⟨q,hq,Y⟩) cY
 simp only[alD,alR]at hs⊢
 have:=HD s (post.map (·.2)) (pre.map (·.2)) σ h CP hs
 simpa only[cD]using this
def ahK{K:Env->af->Prop}{n:Nat}{a b:Nat}{sa sb:aD}(cY:a≠b)(hN:∀σ' a' w',Rel σ' nt ds a'->ck w0 w'->K σ' w'.heap->Q .normal a' w')(hQ:∀ch a' w',Rel τ nt ds a'->ck w0 w'->Qp ch w'.heap->Q (.panic ch) a' w'){r1 r2:List (Nat×aD)}(ab9:∀p∈r1,p.1=b∨vS ops a p.1∨vS ops b p.1):∀(fuel:Nat)(pre:List (Nat×aD))(listed:Array Bool)(σ:Env)(ac:Act)(w:World),(pre++(a,sa)::r1).length=fuel->(pre++(b,sb)::r2).length=fuel->
   Inv P ops nt τ (pre++(a,sa)::r1) listed->Inv P ops nt τ (pre++(b,sb)::r2) listed->listed.size=ops.size->px ops (λk=>listed.getD k false=true)->
   (pre++(a,sa)::r1).Pairwise (AU ops a b)->(pre++(b,sb)::r2).Pairwise (AU ops b a)->Rel σ nt ds ac->Rel τ nt ds ac->ck w0 w->
   cD P Qp (λσ1 h1=>cD P Qp K (sa::r1.map (·.2)) σ1 h1∧cD P Qp K (sb::r2.map (·.2)) σ1 h1) (pre.map (·.2)) σ w.heap->
   wpAnyIn (FW ro) n P .any ops Q fuel listed ac w:=by
 intro fuel;induction fuel with
 |zero=>intro pre listed σ ac w hlen;simp at hlen
 |succ fuel ih=>
  intro pre listed σ ac w wP Gc v1 v2 aS dE Gj Kw hr fL hb hs;refine⟨λpQ=>?_,λi hi=>?_⟩
  .exfalso;cases pre with
   |nil=>have:=Inv.first v1;rw[pQ]at this;simp at this
   |cons p pre=>have:=Inv.first (l:=pre++(a,sa)::r1) v1;rw[pQ]at this;simp at this
  .obtain⟨jX,o,CG,sV⟩:=mem_ready.1 hi;have ah:=(al4.1 CG).1;have gK:∀k∈lg ops i,listed.getD k false=true:=by
    intro k hk;simp only[lg,CG,alF,amb]at hk;obtain⟨e,⟨he,oK⟩,rfl⟩:=hk;exact sV e (by simpa using he) oK
   have one:∀{c d:Nat}{sc:aD}{r:List (Nat×aD)},c≠d->(pre++(c,sc)::r).length=fuel+1->Inv P ops nt τ (pre++(c,sc)::r) listed->(pre++(c,sc)::r).Pairwise (AU ops c d)->
     cD P Qp (λσ1 h1=>cD P Qp K (sc::r.map (·.2)) σ1 h1) (pre.map (·.2)) σ w.heap->i=c->wpOpIn (FW ro) n P ops Q i (wpAnyIn (FW ro) n P .any ops Q fuel (listed.setIfInBounds i true)) ac w:=by
    rintro c d sc r _ hlen v nZ hs rfl
    have hin:i∉pre.map (·.1):=by
     have dt:=v.nd;simp only[alD,alR]at dt;exactλhm=>(amN.1 dt).2.2 i hm i Yy Y
    have gB:=Va (pre.map (·.2)) (sc::r.map (·.2)) σ w.heap hs
    have eT:=move (K:=K) v aS dE gK nZ hin (by simpa using gB);refine Au (v.good (i,sc) Yy) hr fL (v.dst (i,sc) Yy) eT (λσ' a' w' cG qV bh hk=>?_) (λch w' bh hk=>hQ ch ac w' fL (hb.trans bh) hk);have v':=v.step aS ah;refine N9 hN hQ fuel (pre++r) (listed.setIfInBounds i true) σ' a' w' (by simp at hlen⊢;omega) v'.good v'.dst v'.nd v'.mem (by simp[aS]) (wk dE gK) v'.HM (List.Pairwise.imp_of_mem ?_ (nZ.sublist (ani (ano _ _) _))) cG qV (hb.trans bh) hk;rintro x y hx _ (h|⟨h1,_⟩)
    .exact h
    .exfalso;have dt:=v.nd;simp only[alD,alR]at dt;have Gg:=amN.1 dt;rcases alf.1 hx with hx|hx
     .exact Gg.2.2 x.1 (alF.2 ⟨x,hx,Y⟩) i Yy h1
     .exact(amc.1 Gg.2.1).1 (by rw[<-h1];exact alF.2 ⟨x,hx,Y⟩)
   by_cases Qk:i=a
   .exact one cY wP v1 Gj (amg (λσ1 h1 h=>h.1) _ _ _ hs) Qk
   by_cases CE:i=b
   .exact one (aoX cY) Gc v2 Kw (amg (λσ1 h1 h=>h.2) _ _ _ hs) CE
   have dF:=(v1.mem i ah).1 jX;simp only[alD,alR,alf,ak3]at dF;rcases dF with dF|rfl|dF
   .obtain⟨p,hp,tC⟩:=alF.1 dF;obtain⟨p1,p2,rfl⟩:=an7 hp;obtain⟨j,s⟩:=p;simp only at tC;subst tC;have e1:(p1++(j,s)::p2)++(a,sa)::r1=p1++(j,s)::(p2++(a,sa)::r1):=Yy
    have e2:(p1++(j,s)::p2)++(b,sb)::r2=p1++(j,s)::(p2++(b,sb)::r2):=Yy
    rw[e1]at wP v1 Gj;rw[e2]at Gc v2 Kw
    have CP:∀x∈p1.map (·.2),loose x s=true:=by
     intro x hx;obtain⟨q,hq,rfl⟩:=alF.1 hx;have eg:=(anb.1 Gj).2.2 q hq (j,s) Yy;rcases eg with(Di|hl)|⟨h1,h2⟩
     .exact(v1.El aS (q:=q) (by simp[hq]) (Di _ dE gK)).elim
     .exact hl
     .rcases h2 with h2|h2
      .exact absurd h2 CE
      .exact(v2.El aS (q:=(b,sb)) Yy (h2 _ dE gK)).elim
    simp only[alD,alR]at hs
    have eT:=HD s (p2.map (·.2)) (p1.map (·.2)) σ w.heap CP hs
    simp only[cD]at eT;refine Au (v1.good (j,s) Yy) hr fL (v1.dst (j,s) Yy) eT (λσ' a' w' cG qV bh hk=>?_) (λch w' bh hk=>hQ ch ac w' fL (hb.trans bh) hk);have f1:p1++(p2++(a,sa)::r1)=(p1++p2)++(a,sa)::r1:=Yy
    have f2:p1++(p2++(b,sb)::r2)=(p1++p2)++(b,sb)::r2:=Yy
    have u1:=v1.step aS ah;have u2:=v2.step aS ah;rw[f1]at u1;rw[f2]at u2;refine ih (p1++p2) (listed.setIfInBounds j true) σ' a' w' (by simp at wP⊢;omega) (by simp at Gc⊢;omega) u1 u2 (by simp[aS]) (wk dE gK) ?_ ?_ cG qV (hb.trans bh) (by rw[alD];exact hk)
    .rw[<-f1];exact Gj.sublist (ani (ano _ _) _)
    .rw[<-f2];exact Kw.sublist (ani (ano _ _) _)
   .exact absurd Y Qk
   .exfalso;obtain⟨p,hp,tC⟩:=alF.1 dF;rcases ab9 p hp with h|h|h
    .exact CE (by rw[<-tC];exact h)
    .exact v1.El aS (q:=(a,sa)) Yy (h _ dE (by rw[tC];exact gK))
    .exact v2.El aS (q:=(b,sb)) Yy (h _ dE (by rw[tC];exact gK))
end Go.Sx
namespace Go.Sx
open Go
def hide(l:List aD)(σ:Env):Env:=λt=>bif dz t (dstsOf l)then none else σ t
def zo(l:List Nat)(σ:Env):Env:=λt=>bif dz t l then none else σ t
def mk:List (Nat×Value)->Env
 |[]=>λ_=>none
 |(n,v)::r=>upd (mk r) (some n) v
def fN(σ:Env):List (Nat×Value)->Prop
 |[]=>True
 |(n,v)::r=>σ n=some v∧fN σ r
def uh{σ:Env}:∀{l:List (Nat×Value)},fN σ l->Sub (mk l) σ
 |[],_=>λt v h=>by simp[mk]at h
 |(n,u)::r,⟨h1,h2⟩=>λt v h=>by
  by_cases ht:t=n
  .subst ht;simp[mk,upd]at h;rw[h1,h]
  .refine uh h2 t v ?_;rw[<-h];exact(iM (by intro e;exact ht (by simpa using e.symm))).symm
abbrev de:=Exit->Env->List Deferred->af->Prop
def fc(next:Env->List Deferred->af->Prop)(Q:de):de
 |.normal,σ,ds,h=>next σ ds h
 |e,σ,ds,h=>Q e σ ds h
def qw(id:Nat)(Q:de):de
 |.exit Gv,σ,ds,h=>if Gv=id then Q .normal σ ds h else Q (.exit Gv) σ ds h
 |e,σ,ds,h=>Q e σ ds h
def AJ(Q:de):de
 |.goto _,_,_,_=>False
 |e,σ,ds,h=>Q e σ ds h
def K9(l:Nat)(next:Env->List Deferred->af->Prop)(Q:de):de
 |.goto l',σ,ds,h=>l'=l∧next σ ds h
 |e,σ,ds,h=>Q e σ ds h
def sB(σ:Env):List Nat->List Value->Env
 |p::ps,v::vs=>sB (upd σ (some p) v) ps vs
 |_,_=>σ
structure jR (h:af) (l:Nat) (r:Loop) (st:LoopState) (p:Option Code):Prop where
 at_:h[l]? =some (.loop {r with state:=st,pending:=p})
structure rG (h h':af) (l:Nat) (r:Loop) (st:LoopState) (p:Option Code):Prop where
 alM:jR h' l r st p
 size:h'.size=h.size
 old:∀k,k≠l->h'[k]? =h[k]?
def Uo(l:Nat)(r:Loop)(R:Ending->af->Prop):de
 |.normal,_,_,h=>jR h l r .busy none∧∀h',rG h h' l r .ready none->R (.returned (.bool true)) h'
 |.ret,_,_,h=>jR h l r .busy none∧∀h',rG h h' l r .done (some .ret)->R (.returned (.bool false)) h'
 |.exit id,_,_,h=>jR h l r .busy none∧∀h',rG h h' l r .done (some (.exit id))->R (.returned (.bool false)) h'
 |_,_,_,_=>False
def YS(l D:Nat)(r:Loop)(Q:de)(σ:Env)(ds:List Deferred):Ending->af->Prop
 |.returned _,h=>∃st p,jR h l r st p∧st≠.busy∧∀h',rG h h' l r .exhausted p->
  match p with
  |none=>Q .normal σ ({target:=.collected D,args:= #[]}::ds) h'
  |some .ret=>Q .ret σ ({target:=.collected D,args:= #[]}::ds) h'
  |some (.exit id)=>Q (.exit id) σ ({target:=.collected D,args:= #[]}::ds) h'
  |_=>False
 |_,_=>False
def lj(P:Program)(σ:Env)(h:af)(x:aD):Prop:=cW P σ h x (λσ' h'=>h'=h∧σ'=σ) (λ_ _=>False)
def qk(P:Program)(Qp:List PanicEntry->af->Prop)(K:Env->af->Prop):lZ->Env->af->Prop
 |.done,σ,h=>K σ h
 |.one s t,σ,h=>cW P σ h s (qk P Qp K t) Qp
 |.both a b,σ,h=>qk P Qp K a σ h∧qk P Qp K b σ h
 |.IU l t,σ,h=>(∀x∈l,cls x.op<=1∧lj P σ h x)∧qk P Qp K t σ h
def swp(P:Program):akX->de->Env->List Deferred->af->Prop
 |.skip,Q,σ,ds,h=>Q .normal σ ds h
 |.ops l,Q,σ,ds,h=>cD P (λch h'=>Q (.panic ch) (hide l σ) ds h') (λσ' h'=>Q .normal σ' ds h') l σ h
 |.two pre l1 l2,Q,σ,ds,h=>
  let Qp:List PanicEntry->af->Prop:=λch h'=>Q (.panic ch) (hide (pre++(l1++l2)) σ) ds h'
  cD P Qp (λσ1 h1=>cD P Qp (λσ' h'=>Q .normal σ' ds h') l1 σ1 h1∧cD P Qp (λσ' h'=>Q .normal σ' ds h') l2 σ1 h1) pre σ h
 |.seq a b,Q,σ,ds,h=>swp P a (fc (swp P b Q) Q) σ ds h
 |.cond c a b,Q,σ,ds,h=>match ev σ c with
  |some (.bool true)=>swp P a Q σ ds h
  |some (.bool false)=>swp P b Q σ ds h
  |_=>False
 |.block id c,Q,σ,ds,h=>swp P c (qw id Q) σ ds h
 |.loop c,Q,σ,ds,h=>∃(ι:Type)(E:ι->List (Nat×Value))(I:ι->af->Prop)(μ:ι->Nat)(i:ι),fN σ (E i)∧I i h∧
  ∀i h,I i h->swp P c (fc (λσ' eX h'=>eX=ds∧∃i',fN σ' (E i')∧I i' h'∧μ i'<μ i) Q) (mk (E i)) ds h
 |.scope c,Q,σ,ds,h=>swp P c (AJ Q) σ ds h
 |.exit id,Q,σ,ds,h=>Q (.exit id) σ ds h
 |.ret,Q,σ,ds,h=>Q .ret σ ds h
 |.Aw g ps a b,Q,σ,ds,h=>match ev σ g with
  |some (.func (.func f) fi cap)=>∀(l D:Nat)(r:Loop)(h1:af),D=h.size->l=h.size+1->h1.size=h.size+2->(∀k,k<h.size->h1[k]? =h[k]?)->
   h1[D]? =some (.deferred (some []))->jR h1 l r .ready none->
   (∀(h2:af)(args:List Value)(R:Ending->af->Prop),jR h2 l r .ready none->args.length=ps.length->
    swp P a (fc (λσ' eX h3=>jR h3 l r .ready none∧∀h4,rG h3 h4 l r .busy none->swp P b (Uo l r R) σ' eX h4) (λ_ _ _ _=>False)) (sB σ ps args) [] h2->sG P l args h2 R)->
   aj P f (fi.toList++[.func (.yield l) #[] #[]]++cap.toList) h1 (YS l D r Q σ ds)
  |_=>False
 |.wq l d x args,Q,σ,ds,h=>cD P (λch h'=>Q (.panic ch) (hide l σ) ds h') (λσ' h'=>match ev σ' x,fI σ' args with
  |some (.func (.func f) fi cap),some vs=>Q .normal (upd σ' d undef) ({target:=.fn (.func f) cap,args:=⟨fi.toList++vs⟩}::ds) h'
  |_,_=>False) l σ h
 |.rcv _,_,_,_,_=>False
 |.label _,Q,σ,ds,h=>Q .normal σ ds h
 |.goto l,Q,σ,ds,h=>Q (.goto l) σ ds h
 |.Hu c l r,Q,σ,ds,h=>swp P c (K9 l (swp P r (AJ Q)) Q) σ ds h
 |.tree l t,Q,σ,ds,h=>qk P (λch h'=>Q (.panic ch) (zo l σ) ds h') (λσ' h'=>Q .normal σ' ds h') t σ h
variable {P:Program}{σ σ':Env}{ops:Array Oper}{nt:Nat}{ds:List Deferred}
def jQ(nt:Nat)(w0:World)(Q:de):Exit->Act->World->Prop:=λe a w=>∃σ ds,Rel σ nt ds a∧ck w0 w∧Q e σ ds w.heap
def BN:∀(l:List Oper)(ss:List aD),rK P ops nt l=some ss->ss.length=l.length∧∀(i:Nat)(o:Oper),l[i]? =some o->∃s,ss[i]? =some s∧alV P ops nt o=some s
 |[],ss,h=>by simp[rK]at h;subst h;simp
 |o::l,ss,h=>by
  simp only[rK]at h;split at h
  .rename_i s sl hs hl;simp at h;subst h;obtain⟨h1,h2⟩:=BN l sl hl;refine⟨by simp[h1],λi o' ho=>?_⟩;cases i with
   |zero=>simp at ho;subst ho;exact⟨s,Yy,hs⟩
   |succ i=>simpa using h2 i o' (by simpa using ho)
  .simp at h
def R4:∀(l:List aD)(s:aD)(d:Nat),s∈l->s.dst=some d->d∈dstsOf l
 |[],s,d,hs,_=>by simp at hs
 |o::l,s,d,hs,hd=>by
  simp only[dstsOf];rcases ak3.1 hs with rfl|hs
  .rw[hd];simp
  .have:=R4 l s d hs hd;split
   .simp[this]
   .exact this
def zp{l:List aD}{s:aD}{d:Nat}(hs:s∈l)(hd:s.dst=some d):hide l σ d=none:=by
 unfold hide;rw[(oJ d _).2 (R4 l s d hs hd)];rfl
def CF(l:List aD):Sub (hide l σ) σ:=by
 intro t v h;unfold hide at h;cases hn:dz t (dstsOf l)<;>simp[hn]at h;exact h
def Px{ss:List aD}{cl:List (List Nat)}{x:Nat}:∀{l:List Nat},FJ ss cl x l=true->∀y∈l,dz x (cl.getD y [])=true∨∃a b,ss[x]? =some a∧ss[y]? =some b∧loose a b=true
 |[],_,y,hy=>by simp at hy
 |z::l,h,y,hy=>by
  simp only[FJ,alO,amZ]at h;rcases ak3.1 hy with rfl|hy
  .rcases h.1 with h1|h1
   .exact .inl h1
   .split at h1
    .rename_i a b ha hb;exact .inr ⟨a,b,ha,hb,h1⟩
    .simp at h1
  .exact Px h.2 y hy
def alv{ss:List aD}:∀{l:List Nat}{sl:List aD},j6 ss l=some sl->sl.length=l.length∧∀(k i:Nat),l[k]? =some i->∃s,sl[k]? =some s∧ss[i]? =some s
 |[],sl,h=>by simp[j6]at h;subst h;simp
 |i::l,sl,h=>by
  simp only[j6]at h;split at h
  .rename_i s r hs hr;simp at h;subst h;obtain⟨h1,h2⟩:=alv hr;refine⟨by simp[h1],λk j hk=>?_⟩;cases k with
   |zero=>simp at hk;subst hk;exact⟨s,Yy,hs⟩
   |succ k=>simpa using h2 k j (by simpa using hk)
  .simp at h
def LI:∀{l:List Nat},DH l=true->l.Nodup
 |[],_=>ank
 |x::l,h=>by
  simp only[DH,alO,am0]at h;refine amc.2 ⟨λhm=>?_,LI h.2⟩;rw[(oJ x l).2 hm]at h;simp at h
def MV:∀{l done:List Nat},Eh (gS ops) done l=true->qq ops (λk=>k∈done) l
 |[],_,_=>trivial
 |x::l,done,h=>by
  simp only[Eh,alO,amV,oJ]at h;refine⟨λk hk=>h.1 k (by rw[Bc];exact hk),(MV h.2).mono λk hk=>?_⟩;rcases ak3.1 hk with rfl|hk
  .exact .inr Y
  .exact .inl hk
def S3{ss:List aD}{cl:List (List Nat)}{R:Nat×aD->Nat×aD->Prop}(hR:∀x y a b,ss[x]? =some a->ss[y]? =some b->(dz x (cl.getD y [])=true∨loose a b=true)->R (x,a) (y,b)):∀{l:List Nat}{sl:List aD},FI ss cl l=true->j6 ss l=some sl->(l.zip sl).Pairwise R
 |[],sl,_,_=>Yy
 |x::l,sl,hf,hp=>by
  simp only[j6]at hp;split at hp
  .rename_i s r hs hr;simp at hp;subst hp;simp only[FI,alO]at hf;simp only[aov];refine amd.2 ⟨λq hq=>?_,S3 hR hf.2 hr⟩;obtain⟨y,b⟩:=q;have hy:y∈l:=(anC hq).1;obtain⟨k,hk,fA⟩:=amS hq;have hl:=alv hr;have gM:k<l.length:=by simp at hk;omega
   have hy1:l[k]? =some y:=by
    rw[anq]at fA;simp at fA;rw[akU gM];simp[fA.1]
   obtain⟨s2,eT,ob⟩:=hl.2 k y hy1;have hb:r[k]? =some b:=by
    rw[anq]at fA;simp at fA;have:k<r.length:=by rw[hl.1];exact gM
    rw[akU this];simp[fA.2]
   rw[eT]at hb;simp at hb;subst hb;rcases Px hf.1 y hy with h1|⟨a,b,ha,hb,cY⟩
   .exact hR x y s s2 hs ob (.inl h1)
   .rw[hs]at ha;rw[ob]at hb;simp at ha hb;subst ha;subst hb;exact hR x y s s2 hs ob (.inr cY)
  .simp at hp
def Dx{α β:Type}:∀(l:List α)(r:List β),r.length=l.length->(l.zip r).map (·.1)=l
 |[],r,h=>Yy
 |x::l,[],h=>by simp at h
 |x::l,y::r,h=>by simp[Dx l r (by simpa using h)]
def xz{α β:Type}:∀(l:List α)(r:List β),r.length=l.length->(l.zip r).map (·.2)=r
 |[],[],h=>Yy
 |[],y::r,h=>by simp at h
 |x::l,[],h=>by simp at h
 |x::l,y::r,h=>by simp[xz l r (by simpa using h)]
def GI:∀(n:Nat)(l:List Nat),l.Nodup->(∀x∈l,x<n)->l.length<=n
 |0,l,_,h=>by
  cases l with
  |nil=>simp
  |cons x l=>exact absurd (h x Yy) V
 |n+1,l,hn,h=>by
  have ih:=GI n (l.erase n) (hn.erase n) (λx hx=>by
   have h1:=hn.mem_erase_iff.1 hx;have:=h x h1.2;omega)
  have he:=List.length_erase (a:=n) (l:=l);split at he<;>omega
def SW{ss l:List aD}(hm:P.follows .mixedOrders=true)(hlen:ss.length=ops.size)(mW:∀i s,ss[i]? =some s->Good P ops nt i s)(ho:ordered ss (gS ops) ops.size=some l){ro:Option Nat}{n id:Nat}{Q:de}{a:Act}{w:World}(hr:Rel σ nt ds a)(h:cD P (λch h'=>Q (.panic ch) (hide l σ) ds h') (λσ' h'=>Q .normal σ' ds h') l σ w.heap):(Code.region id ops true).wpIn (FW ro) n P (jQ nt w Q) a w:=by
 unfold ordered at ho;simp only at ho;split at ho
 .rename_i hc;obtain⟨h1,h2,h3,h4,h5⟩:=hc;generalize akE:order ss (gS ops) ops.size [] (List.range ops.size)=ord at*;refine wpIn_region_any hm ?_;have fQ:=alv ho
  have e1:(ord.zip l).map (·.1)=ord:=Dx ord l fQ.1
  have e2:(ord.zip l).map (·.2)=l:=xz ord l fQ.1
  have dt:=LI h2;refine N9 (Qp:=λch h'=>Q (.panic ch) (hide l σ) ds h') (K:=λσ' h'=>Q .normal σ' ds h') (τ:=hide l σ) (ds:=ds) (nt:=nt) (w0:=w)
   (λσ' a' w' cG hb hk=>⟨σ',ds,cG,hb,hk⟩) (λch a' w' fL hb hk=>⟨_,ds,fL,hb,hk⟩) ops.size (ord.zip l) (Array.replicate ops.size false) σ a _ ?_ ?_ ?_ ?_ ?_ Yy ?_ ?_ ?_ hr (hr.sub (CF l)) ⟨Y,Y,Y⟩ ?_
  .simp[h1,fQ.1]
  .rintro⟨i,s⟩ hp;obtain⟨k,hk,fA⟩:=amS hp;have gM:k<ord.length:=by simp at hk;omega
   rw[anq]at fA;simp at fA;obtain⟨s2,eT,ob⟩:=fQ.2 k i (by rw[akU gM];simp[fA.1]);have oR:k<l.length:=by rw[fQ.1];exact gM
   rw[akU oR]at eT;simp[fA.2]at eT;subst eT;exact mW i _ ob
  .rintro⟨i,s⟩ hp d hd;exact zp (anC hp).2 hd
  .rw[e1];exact dt
  .intro i hi;rw[e1];have bD:∀i,i<ops.size->i∈ord:=by
    intro i hi;by_cases hin:i∈ord
    .exact hin
    .have:=GI ops.size (i::ord) (amc.2 ⟨hin,dt⟩) (λx hx=>by
      rcases ak3.1 hx with rfl|hx
      .exact hi
      .have:=amV.1 h3 x hx;exact amP this)
     simp at this;omega
   simp[hi,bD i hi]
  .intro j hj;simp only[amO,an8]at hj;split at hj<;>simp at hj
  .rw[e1];refine(MV h5).mono λk hk=>by simp at hk
  .refine S3 (cl:=(List.range ops.size).map λi=>closure (gS ops) (ops.size*ops.size+ops.size) ((gS ops).getD i []) []) ?_ h4 ho;intro x y sa sb hx hy jY;rcases jY with jY|jY
   .refine .inl λL dE bD=>?_;have Dk:y<ops.size:=by rw[<-hlen];exact(ak7.1 hy).1
    rw[oJ]at jY;simp[List.getD,Dk]at jY;refine BH dE _ _ _ ?_ ?_ x jY
    .intro k hk;rw[<-anX,Bc]at hk;exact bD k hk
    .simp
   .exact .inr jY
  .rw[e2];exact h
 .simp at ho
def Py{ss:List aD}{cl:List (List Nat)}{a b x:Nat}:∀{l:List Nat},FL ss cl a b x l=true->∀y∈l,dz x (cl.getD y [])=true∨(∃s t,ss[x]? =some s∧ss[y]? =some t∧loose s t=true)∨(x=a∧(y=b∨dz b (cl.getD y [])=true))
 |[],_,y,hy=>by simp at hy
 |z::l,h,y,hy=>by
  simp only[FL,alO,amZ]at h;rcases ak3.1 hy with rfl|hy
  .rcases h.1 with(h1|h1)|h1
   .exact .inl h1
   .split at h1
    .rename_i s t hs ht;exact .inr (.inl ⟨s,t,hs,ht,h1⟩)
    .simp at h1
   .exact .inr (.inr ⟨amT h1.1,h1.2.imp amT id⟩)
  .exact Py h.2 y hy
def S4{ss:List aD}{cl:List (List Nat)}{c d:Nat}{R:Nat×aD->Nat×aD->Prop}(hR:∀x y a b,ss[x]? =some a->ss[y]? =some b->(dz x (cl.getD y [])=true∨loose a b=true∨(x=c∧(y=d∨dz d (cl.getD y [])=true)))->R (x,a) (y,b)):∀{l:List Nat}{sl:List aD},FK ss cl c d l=true->j6 ss l=some sl->(l.zip sl).Pairwise R
 |[],sl,_,_=>Yy
 |x::l,sl,hf,hp=>by
  simp only[j6]at hp;split at hp
  .rename_i s r hs hr;simp at hp;subst hp;simp only[FK,alO]at hf;simp only[aov];refine amd.2 ⟨λq hq=>?_,S4 hR hf.2 hr⟩;obtain⟨y,b⟩:=q;have hy:y∈l:=(anC hq).1;obtain⟨k,hk,fA⟩:=amS hq;have hl:=alv hr;have gM:k<l.length:=by simp at hk;omega
   have hy1:l[k]? =some y:=by
    rw[anq]at fA;simp at fA;rw[akU gM];simp[fA.1]
   obtain⟨s2,eT,ob⟩:=hl.2 k y hy1;have hb:r[k]? =some b:=by
    rw[anq]at fA;simp at fA;have:k<r.length:=by rw[hl.1];exact gM
    rw[akU this];simp[fA.2]
   rw[eT]at hb;simp at hb;subst hb;rcases Py hf.1 y hy with h1|⟨a,b,ha,hb,cY⟩|h1
   .exact hR x y s s2 hs ob (.inl h1)
   .rw[hs]at ha;rw[ob]at hb;simp at ha hb;subst ha;subst hb;exact hR x y s s2 hs ob (.inr (.inl cY))
   .exact hR x y s s2 hs ob (.inr (.inr h1))
  .simp at hp
def L7{ss:List aD}:∀{l m:List Nat}{sl sm:List aD},j6 ss l=some sl->j6 ss m=some sm->j6 ss (l++m)=some (sl++sm)
 |[],m,sl,sm,h1,h2=>by simp[j6]at h1;subst h1;exact h2
 |x::l,m,sl,sm,h1,h2=>by
  simp only[j6]at h1;split at h1
  .rename_i s r hs hr;simp at h1;subst h1;simp only[amK,j6,hs,L7 hr h2]
  .simp at h1
def AT{a y:Nat}(hy:y<ops.size)(h:dz a (((List.range ops.size).map λi=>closure (gS ops) (ops.size*ops.size+ops.size) ((gS ops).getD i []) []).getD y [])=true):vS ops a y:=by
 intro L dE bD;rw[oJ]at h;simp[List.getD,hy]at h;refine BH dE _ _ _ ?_ ?_ a h
 .intro k hk;rw[<-anX,Bc]at hk;exact bD k hk
 .simp
def Rj{ss sl:List aD}{ord:List Nat}{a b:Nat}{τ:Env}(hlen:ss.length=ops.size)(mW:∀i s,ss[i]? =some s->Good P ops nt i s)(aN:G0 ss (gS ops) ((List.range ops.size).map λi=>closure (gS ops) (ops.size*ops.size+ops.size) ((gS ops).getD i []) []) ops.size a b ord=true)(hp:j6 ss ord=some sl)(fL:∀s∈sl,∀d,s.dst=some d->τ d=none):(ord.zip sl).length=ops.size∧Inv P ops nt τ (ord.zip sl) (Array.replicate ops.size false)∧(ord.zip sl).Pairwise (AU ops a b):=by
 simp only[G0,alO]at aN;obtain⟨⟨⟨⟨h1,h2⟩,h3⟩,h4⟩,h5⟩:=aN;have h1:=amT h1;have fQ:=alv hp
 have e1:(ord.zip sl).map (·.1)=ord:=Dx ord sl fQ.1
 have dt:=LI h2;refine⟨by simp[h1,fQ.1],⟨?_,?_,by rw[e1];exact dt,?_,?_⟩,?_⟩
 .rintro⟨i,s⟩ hp;obtain⟨k,hk,fA⟩:=amS hp;have gM:k<ord.length:=by simp at hk;omega
  rw[anq]at fA;simp at fA;obtain⟨s2,eT,ob⟩:=fQ.2 k i (by rw[akU gM];simp[fA.1]);have oR:k<sl.length:=by rw[fQ.1];exact gM
  rw[akU oR]at eT;simp[fA.2]at eT;subst eT;exact mW i _ ob
 .rintro⟨i,s⟩ hp d hd;exact fL s (anC hp).2 d hd
 .intro i hi;rw[e1];have bD:i∈ord:=by
   by_cases hin:i∈ord
   .exact hin
   .have:=GI ops.size (i::ord) (amc.2 ⟨hin,dt⟩) (λx hx=>by
     rcases ak3.1 hx with rfl|hx
     .exact hi
     .have:=amV.1 h3 x hx;exact amP this)
    simp at this;omega
  simp[hi,bD]
 .rw[e1];refine(MV h5).mono λk hk=>by simp at hk
 .refine S4 ?_ h4 hp;intro x y sa sb hx hy jY;rcases jY with jY|jY|jY
  .refine .inl (.inl λL dE bD=>?_);have Dk:y<ops.size:=by rw[<-hlen];exact(ak7.1 hy).1
   rw[oJ]at jY;simp[List.getD,Dk]at jY;refine BH dE _ _ _ ?_ ?_ x jY
   .intro k hk;rw[<-anX,Bc]at hk;exact bD k hk
   .simp
  .exact .inl (.inr jY)
  .have Dk:y<ops.size:=by rw[<-hlen];exact(ak7.1 hy).1
   exact .inr ⟨jY.1,jY.2.imp id (AT Dk)⟩
def Ry{cl:List (List Nat)}{a b:Nat}:∀{l:List Nat},GF cl a b l=true->∀y∈l,y=b∨dz a (cl.getD y [])=true∨dz b (cl.getD y [])=true
 |[],_,y,hy=>by simp at hy
 |z::l,h,y,hy=>by
  simp only[GF,alO,amZ]at h;rcases ak3.1 hy with rfl|hy
  .rcases h.1 with(h1|h1)|h1
   .exact .inl (amT h1)
   .exact .inr (.inl h1)
   .exact .inr (.inr h1)
  .exact Ry h.2 y hy
def VN{α β:Type}:∀(l:List α)(l':List β)(m:List α)(m':List β),l'.length=l.length->(l++m).zip (l'++m')=l.zip l'++m.zip m'
 |[],[],m,m',_=>rfl
 |[],_::_,_,_,h=>by simp at h
 |_::_,[],_,_,h=>by simp at h
 |x::l,y::l',m,m',h=>by simp[VN l l' m m' (by simpa using h)]
def S1{ss:List aD}{as cl:List (List Nat)}{n:Nat}{x:List aD×List aD×List aD}:∀{l:List (Nat×Nat)},DO ss as cl n l=some x->∃a b,L5 ss as cl n a b=some x
 |[],h=>by simp[DO]at h
 |(a,b)::r,h=>by
  simp only[DO]at h;split at h
  .rename_i y hy;exact⟨a,b,by rw[hy];exact h⟩
  .exact S1 h
def aey{ss sp s1 s2:List aD}(hm:P.follows .mixedOrders=true)(hlen:ss.length=ops.size)(mW:∀i s,ss[i]? =some s->Good P ops nt i s)(ho:LY ss (gS ops) ops.size=some (sp,s1,s2)){ro:Option Nat}{n id:Nat}{Q:de}{ac:Act}{w:World}(hr:Rel σ nt ds ac)(h:cD P (λch h'=>Q (.panic ch) (hide (sp++(s1++s2)) σ) ds h')
   (λσ1 h1=>cD P (λch h'=>Q (.panic ch) (hide (sp++(s1++s2)) σ) ds h') (λσ' h'=>Q .normal σ' ds h') s1 σ1 h1∧cD P (λch h'=>Q (.panic ch) (hide (sp++(s1++s2)) σ) ds h') (λσ' h'=>Q .normal σ' ds h') s2 σ1 h1) sp σ w.heap):
  (Code.region id ops true).wpIn (FW ro) n P (jQ nt w Q) ac w:=by
 unfold LY at ho;obtain⟨a,b,ho⟩:=S1 ho;unfold L5 at ho;simp only at ho;generalize order ss (gS ops) ops.size [] _=p at ho;generalize cH:order ss (gS ops) ops.size (a::p) _=r1 at ho;generalize cJ:order ss (gS ops) ops.size (b::p) _=r2 at ho;split at ho
 .rename_i hc;obtain⟨h0,h1,h2,h3⟩:=hc;split at ho
  .rename_i tp t1 t2 hp hC eg;simp only[anO,aof]at ho;obtain⟨rfl,rfl,rfl⟩:=ho;refine wpIn_region_any hm ?_;have q1:=L7 hp hC;have q2:=L7 hp eg;obtain⟨l1,v1,w1⟩:=Rj (P:=P) (nt:=nt) (τ:=hide (tp++(t1++t2)) σ) hlen mW h1 q1 (λs hs d hd=>zp (by simp only[alf]at hs⊢;rcases hs with h|h<;>simp[h]) hd);obtain⟨l2,v2,w2⟩:=Rj (P:=P) (nt:=nt) (τ:=hide (tp++(t1++t2)) σ) hlen mW h2 q2 (λs hs d hd=>zp (by simp only[alf]at hs⊢;rcases hs with h|h<;>simp[h]) hd);have lp:=(alv hp).1;rw[VN _ _ _ _ lp]at l1 v1 w1 l2 v2 w2
   -- the akr
   simp only[j6]at hC eg;split at hC
   .rename_i sa ra hsa hra;simp at hC;subst hC;split at eg
    .rename_i sb rb hsb jZ;simp at eg;subst eg;have cY:a≠b:=by
      rintro rfl;simp at h0
     simp only[aov]at l1 v1 w1 l2 v2 w2
     have e2:(p.zip tp).map (·.2)=tp:=xz _ _ lp
     have YY:(r1.zip ra).map (·.2)=ra:=xz _ _ (alv hra).1
     have YZ:(r2.zip rb).map (·.2)=rb:=xz _ _ (alv jZ).1
     refine ahK (Qp:=λch h'=>Q (.panic ch) (hide (tp++((sa::ra)++(sb::rb))) σ) ds h') (K:=λσ' h'=>Q .normal σ' ds h') (τ:=hide (tp++((sa::ra)++(sb::rb))) σ) (ds:=ds) (nt:=nt) (w0:=w) (a:=a) (b:=b) cY
      (λσ' a' w' cG hb hk=>⟨σ',ds,cG,hb,hk⟩) (λch a' w' fL hb hk=>⟨_,ds,fL,hb,hk⟩) (r1:=r1.zip ra) (r2:=r2.zip rb) ?_ ops.size (p.zip tp) (Array.replicate ops.size false) σ ac _ l1 l2 v1 v2 Yy ?_ w1 w2 hr (hr.sub (CF _)) ⟨Y,Y,Y⟩ ?_
     .rintro⟨y,s⟩ hq;have hy:y∈r1:=(anC hq).1;have ah:y<ops.size:=by
       have hg:=v1.good (y,s) (by simp[hq]);obtain⟨o,_,ho,_⟩:=hg;exact(al4.1 ho).1
      rcases Ry h3 y hy with h|h|h
      .exact .inl h
      .exact .inr (.inl (AT ah h))
      .exact .inr (.inr (AT ah h))
     .intro j hj;simp only[amO,an8]at hj;split at hj<;>simp at hj
     .rw[e2,YY,YZ];exact h
    .simp at eg
   .simp at hC
  .simp at ho
 .simp at ho
end Go.Sx
namespace Go.Sx
open Go
variable{W:List (Nat×aD)}{cl:List (List Nat)}{dp:List PanicEntry->af->Prop}{h:af}{listed:Array Bool}{s:aD}{ss:List aD}
variable {P:Program}{σ:Env}{ops:Array Oper}{nt:Nat}{ds:List Deferred}{Qp:List PanicEntry->af->Prop}
def Im(P:Program)(Qp:List PanicEntry->af->Prop)(K:Env->af->Prop)(ss:List aD)(ops:Array Oper):Nat->Array Bool->Env->af->Prop
 |0,listed,σ,h=>Region.ready .any ops listed=[]∧K σ h
 |f+1,listed,σ,h=>(Region.ready .any ops listed=[]->K σ h)∧∀i∈Region.ready .any ops listed,∃s,ss[i]? =some s∧cW P σ h s (Im P Qp K ss ops f (listed.setIfInBounds i true)) Qp
def N6{K:Env->af->Prop}{τ:Env}{ro:Option Nat}{n:Nat}{Q:Exit->Act->World->Prop}{w0:World}{ss:List aD}(mW:∀(i:Nat)(s:aD),ss[i]? =some s->Good P ops nt i s)(hd:∀(i:Nat)(s:aD),ss[i]? =some s->∀d,s.dst=some d->τ d=none)(hN:∀σ' a' w',Rel σ' nt ds a'->ck w0 w'->K σ' w'.heap->Q .normal a' w')(hQ:∀ch a' w',Rel τ nt ds a'->ck w0 w'->Qp ch w'.heap->Q (.panic ch) a' w'):∀(f:Nat)(listed:Array Bool)(σ:Env)(a:Act)(w:World),Rel σ nt ds a->Rel τ nt ds a->ck w0 w->Im P Qp K ss ops f listed σ w.heap->wpAnyIn (FW ro) n P .any ops Q f listed a w
 |0,listed,σ,a,w,hr,_,hb,h=>⟨h.1,hN σ a w hr hb h.2⟩
 |f+1,listed,σ,a,w,hr,fL,hb,h=>by
  refine⟨λhe=>hN σ a w hr hb (h.1 he),λi hi=>?_⟩;obtain⟨s,hs,hk⟩:=h.2 i hi;exact Au (mW i s hs) hr fL (hd i s hs) hk (λσ' a' w' cG qV bh fZ=>N6 mW hd hN hQ f _ σ' a' w' cG qV (hb.trans bh) fZ) (λch w' bh fZ=>hQ ch a w' fL (hb.trans bh) fZ)
def set_comm(l:Array Bool)(i j:Nat):(l.setIfInBounds i true).setIfInBounds j true=(l.setIfInBounds j true).setIfInBounds i true:=by
 apply anr;intro k;simp only[amG,an5];by_cases h1:j=k<;>by_cases h2:i=k<;>simp[h1,h2]
def Ha{i x:Nat}(ax:i≠x)(hi:i∈Region.ready .any ops listed)(aS:listed.size=ops.size):i∈Region.ready .any ops (listed.setIfInBounds x true):=by
 obtain⟨h1,o,ho,h2⟩:=mem_ready.1 hi;refine mem_ready.2 ⟨by rw[getD_set_ne true (λe=>ax e.symm)];exact h1,o,ho,λe he hb=>getD_set_true (h2 e he hb)⟩
def yv{i:Nat}(hi:i∈Region.ready .any ops listed):∀k∈lg ops i,listed.getD k false=true:=by
 obtain⟨h1,o,ho,h2⟩:=mem_ready.1 hi;intro k hk;simp only[lg,ho,alF,amb]at hk;obtain⟨e,⟨he,oK⟩,rfl⟩:=hk;exact h2 e (by simpa using he) oK
def vQ(n f:Nat)(listed:Array Bool):Prop:=∀S:List Nat,S.Nodup->(∀y∈S,y<n∧listed.getD y true=false)->S.length<=f
def vQ.step{n f x:Nat}(hf:vQ n (f+1) listed)(hx:x<n)(hl:listed.getD x true=false):vQ n f (listed.setIfInBounds x true):=by
 intro S dt hS;have zI:x∉S:=by
  intro hm;have:=(hS x hm).2;rw[amO]at this hl;by_cases eG:x<listed.size
  .simp[eG]at this
  .simp[eG]at hl
 have:=hf (x::S) (amc.2 ⟨zI,dt⟩) (λy hy=>by
  rcases ak3.1 hy with rfl|hy
  .exact⟨hx,hl⟩
  .obtain⟨h1,h2⟩:=hS y hy;refine⟨h1,?_⟩;have ax:y≠x:=λe=>zI (by rw[<-e];exact hy)
   rwa [getD_set_ne true (λe=>ax e.symm)]at h2)
 simp at this;exact this
def tZ{i:Nat}(hi:i∈Region.ready .any ops listed):i<ops.size:=by
 obtain⟨_,o,ho,_⟩:=mem_ready.1 hi;exact(al4.1 ho).1
def VD(σ:Env)(d:Option Nat)(v u:Value):upd (upd σ d v) d u=upd σ d u:=by
 funext t;by_cases h1:d=some t
 .subst h1;rw[rC,rC]
 .rw[iM h1,iM h1,iM h1]
def vM(s p:aD):Prop:=∀d,s.dst=some d->d∉p.slots∧p.dst≠some d
def ON{p:aD}{v:Value}(hq:cls p.op<=1)(ha:vM s p)(hc:lj P (upd σ s.dst v) h p):lj P σ h p:=by
 obtain⟨u,⟨_,hu⟩,nE⟩:=vz hq hc;refine nE σ h (λt ht=>(iM λe=>(ha t e).1 ht).symm) (.inr (Ext.refl h)) _ ⟨Y,?_⟩;funext t;by_cases hd:p.dst=some t
 .have h1:=congrFun hu t;have ax:s.dst≠some t:=λe=>(ha t e).2 hd;rw[iM ax]at h1;rw[<-h1,hd,rC,rC]
 .rw[iM hd]
def XK{p:aD}{v:Value}(hq:cls p.op<=1)(ha:vM s p)(hc:lj P σ h p):lj P (upd σ s.dst v) h p:=by
 obtain⟨u,⟨_,hu⟩,nE⟩:=vz hq hc;refine nE _ h (λt ht=>iM λe=>(ha t e).1 ht) (.inr (Ext.refl h)) _ ⟨Y,?_⟩;show upd (upd σ s.dst v) p.dst u=upd σ s.dst v;rw[HR (λt h1 h2=>(ha t h1).2 h2),hu]
def ahe{K:Env->af->Prop}(hs:cW P σ h s K Qp)(hq:∀ch h,Qp ch h->dp ch h):cW P σ h s K dp:=by
 unfold cW at hs⊢;split at hs
 .exact MJ s.op hs hq
 .split at hs
  .split at hs
   .exact MJ s.op hs hq
   .exact hs
  .exact hs.elim
def ahf{K:Env->af->Prop}(hq:cls s.op<=1)(hs:cW P σ h s K Qp):cW P σ h s K dp:=by
 unfold cW at hs⊢;split at hs
 .obtain⟨v,hv,bD⟩:=quiet s.op hq hs;exact bD h (.inr (Ext.refl h)) _ _ hv
 .split at hs
  .split at hs
   .obtain⟨v,hv,bD⟩:=quiet s.op hq hs;exact bD h (.inr (Ext.refl h)) _ _ hv
   .exact hs
  .exact hs.elim
def XM{v:Value}{K:Env->af->Prop}(hq:cls s.op<=1)(hd:∀d,s.dst=some d->d∉s.slots)(hc:lj P (upd σ s.dst v) h s)(hk:K (upd σ s.dst v) h):cW P σ h s K Qp:=by
 obtain⟨u,⟨_,hu⟩,nE⟩:=vz hq hc;have hr:cW P σ h s K (λ_ _=>False):=nE σ h (λt ht=>(iM λe=>hd t e ht).symm) (.inr (Ext.refl h)) K (by
  rw[VD]at hu;rw[hu];exact hk)
 obtain⟨u',fZ,akO⟩:=vz hq hr;exact ahe hr λ_ _ hf=>hf.elim
def rH(P:Program)(Qp:List PanicEntry->af->Prop)(K:Env->af->Prop)(ss:List aD)(cl:List (List Nat))(ops:Array Oper):Nat->List (Nat×aD)->Array Bool->Env->af->Prop
 |0,W,listed,σ,h=>(∀p∈W,lj P σ h p.2)∧Region.ready .any ops listed=[]∧K σ h
 |f+1,W,listed,σ,h=>(∀p∈W,lj P σ h p.2)∧(Region.ready .any ops listed=[]->K σ h)∧
  ∀i∈Region.ready .any ops listed,∃s,ss[i]? =some s∧cW P σ h s (rH P Qp K ss cl ops f (jl cl i s W) (listed.setIfInBounds i true)) Qp
def N8{K:Env->af->Prop}{f:Nat}(ha:rH P Qp K ss cl ops f W listed σ h):∀p∈W,lj P σ h p.2:=by
 cases f<;>exact ha.1
def zO{y:Nat}:∀p∈jl cl y s W,p∈W:=by
 intro p hp;unfold jl at hp;split at hp
 .exact hp
 .exact(amb.1 hp).1
def ac9{y:Nat}{W':List (Nat×aD)}(hs:∀p∈W',p∈W):∀p∈jl cl y s W',p∈jl cl y s W:=by
 intro p hp;unfold jl at hp⊢;split at hp
 .rename_i h;rw[ak4 h];exact hs p hp
 .rename_i h;rw[akZ h];exact amb.2 ⟨hs p (amb.1 hp).1,(amb.1 hp).2⟩
def Io{K:Env->af->Prop}{ss:List aD}{cl:List (List Nat)}:∀(f:Nat)(W W':List (Nat×aD))(listed:Array Bool)(σ:Env)(h:af),(∀p∈W',p∈W)->rH P Qp K ss cl ops f W listed σ h->rH P Qp K ss cl ops f W' listed σ h
 |0,W,W',listed,σ,h,hs,ha=>⟨λp hp=>ha.1 p (hs p hp),ha.2⟩
 |f+1,W,W',listed,σ,h,hs,ha=>⟨λp hp=>ha.1 p (hs p hp),ha.2.1,λi hi=>by
  obtain⟨s,h1,h2⟩:=ha.2.2 i hi;exact⟨s,h1,ue h2 λσ1 h1 hh=>Io f _ _ _ σ1 h1 (ac9 hs) hh⟩⟩
def N7{K:Env->af->Prop}{ss:List aD}{cl:List (List Nat)}:∀(f:Nat)(W:List (Nat×aD))(listed:Array Bool)(σ:Env)(h:af),rH P Qp K ss cl ops f W listed σ h->Im P Qp K ss ops f listed σ h
 |0,W,listed,σ,h,ha=>ha.2
 |f+1,W,listed,σ,h,ha=>⟨ha.2.1,λi hi=>by
  obtain⟨s,h1,h2⟩:=ha.2.2 i hi;exact⟨s,h1,ue h2 λσ1 h1 hh=>N7 f _ _ σ1 h1 hh⟩⟩
abbrev jT(ops:Array Oper):List (List Nat):=(List.range ops.size).map λi=>closure (gS ops) (ops.size*ops.size+ops.size) ((gS ops).getD i []) []
def LL{x i:Nat}(dE:px ops (λk=>listed.getD k false=true))(hx:x∈Region.ready .any ops listed)(hi:i∈Region.ready .any ops listed)(aS:listed.size=ops.size):¬vS ops x i:=by
 intro hw;have h1:=hw _ dE (yv hi);have h2:=(mem_ready.1 hx).1;have ah:=tZ hx;rw[amO]at h1 h2;have eG:x<listed.size:=V
 simp[eG]at h1 h2;rw[h1]at h2;simp at h2
def Vw{x i f:Nat}(lD:vQ ops.size (f+1) listed)(lH:i≠x)(hx:x∈Region.ready .any ops listed)(hi:i∈Region.ready .any ops listed):f≠0:=by
 rintro rfl;have:=lD [x,i] (by simp[aoX lH]) (λy hy=>by
  simp only[ak3,amU,anF]at hy;rcases hy with rfl|rfl
  .exact⟨tZ hx,(mem_ready.1 hx).1⟩
  .exact⟨tZ hi,(mem_ready.1 hi).1⟩)
 simp at this
def Vl{y i:Nat}(hi:listed.getD i true=false)(hy:(listed.setIfInBounds i true).getD y true=false):listed.getD y true=false:=by
 by_cases Re:y=i
 .subst Re;exact hi
 .rwa [getD_set_ne true (λe=>Re e.symm)]at hy
def agU{v:Value}(hq:cls s.op<=1)(xe:∀d,s.dst=some d->d∉s.slots)(nE:∀(σ':Env)(h':af),(∀(t:Nat),t∈s.slots->σ' t=σ t)->cls s.op=0∨Ext h h'->∀(K':Env->af->Prop),K' (upd σ' s.dst v) h'->cW P σ' h' s K' Qp):lj P (upd σ s.dst v) h s:=by
 have h1:=nE (upd σ s.dst v) h (λq tD=>iM λe=>xe q e tD) (.inr (Ext.refl h)) (λσ' h'=>h'=h∧σ'=upd σ s.dst v) ⟨Y,VD _ _ _ _⟩;exact ahf hq h1
def YI{K:Env->af->Prop}{x:Nat}(hs:ss[x]? =some s):∀(f:Nat)(W:List (Nat×aD))(listed:Array Bool)(σ:Env)(h:af),listed.size=ops.size->vQ ops.size (f+1) listed->px ops (λk=>listed.getD k false=true)->x∈Region.ready .any ops listed->
  (∀y,listed.getD y true=false->y≠x->vS ops x y∨∃t,ss[y]? =some t∧loose s t=true)->(∀p∈W,cls p.2.op<=1∧vM s p.2)->(∀p∈W,lj P σ h p.2)->
  cW P σ h s (rH P Qp K ss (jT ops) ops f (jl (jT ops) x s W) (listed.setIfInBounds x true)) Qp->rH P Qp K ss (jT ops) ops (f+1) W listed σ h:=by
 intro f;induction f with
 |zero=>
  intro W listed σ h aS lD dE hx hy hW mV hk;refine⟨mV,λhe=>(by rw[he]at hx;simp at hx),λi hi=>?_⟩;by_cases lH:i=x
  .subst lH;exact⟨s,hs,hk⟩
  .exact absurd Y (Vw lD lH hx hi)
 |succ f ih=>
  intro W listed σ h aS lD dE hx hy hW mV hk;refine⟨mV,λhe=>(by rw[he]at hx;simp at hx),λi hi=>?_⟩;by_cases lH:i=x
  .subst lH;exact⟨s,hs,hk⟩
  .have sV:=Ha lH hi aS;have jX:=(mem_ready.1 hi).1;rcases hy i jX lH with hw|⟨t,ht,hl⟩
   .exact absurd hw (LL dE hx hi aS)
   .refine⟨t,ht,?_⟩;obtain⟨l1,l2,l3,l4⟩:=RW hl;have hq:cls s.op<=1:=V
    have ab7:jl (jT ops) x s W=W:=by unfold jl;rw[ak4 (aoY hq)]
    rw[ab7]at hk;obtain⟨v,hv,nE⟩:=vz hq hk;obtain⟨t',mu,hh⟩:=hv.2.2 i sV;rw[ht]at mu;simp at mu;subst mu;refine HC (σ:=upd σ s.dst v) (λq tD=>(iM λe=>l1 q e tD).symm) hh λu h' he ki=>?_;rw[HR l2]at ki;have sP:∀p∈jl (jT ops) i t W,cls p.2.op<=1∧vM s p.2:=λp hp=>hW p (zO p hp);refine ih (jl (jT ops) i t W) (listed.setIfInBounds i true) _ h' (by simp[aS]) (lD.step (tZ hi) jX) (wk dE (yv hi)) (Ha (λe=>lH e.symm) hx aS)
     (λy hy1 tJ=>hy y (Vl jX hy1) tJ) sP (λp hp=>ON (sP p hp).1 (sP p hp).2 (N8 ki p hp)) ?_
    have ab8:jl (jT ops) x s (jl (jT ops) i t W)=jl (jT ops) i t W:=by
     show(if _ then _ else _)=_;rw[ak4 (aoY hq)]
    rw[ab8];refine nE _ h' (λq tD=>iM λe=>l3 q e tD) ?_ _ ?_
    .rcases l4 with h0|⟨_,h2⟩
     .exact .inl h0
     .exact .inr (he h2)
    .rw[set_comm];exact ki
def YU{x y:aD}(hl:alY x y=true):(∀d,x.dst=some d->d∉y.slots)∧(∀t,x.dst=some t->y.dst≠some t)∧(∀e,y.dst=some e->e∉x.slots):=by
 unfold alY at hl;simp only[alO]at hl;obtain⟨h1,h2⟩:=hl;refine⟨λd hd=>?_,λt ht hy=>?_,λe he=>?_⟩
 .rw[hd]at h1;simp only[alO,am0]at h1;intro hm;rw[(oJ d y.slots).2 hm]at h1;simp at h1
 .rw[ht]at h1;simp only[hy,alO,am0]at h1;simp at h1
 .rw[he]at h2;simp only[am0]at h2;intro hm;rw[(oJ e x.slots).2 hm]at h2;simp at h2
def ah1{K:Env->af->Prop}{x:Nat}(hs:ss[x]? =some s)(hq:cls s.op<=1)(xe:∀d,s.dst=some d->d∉s.slots):∀(f:Nat)(W:List (Nat×aD))(listed:Array Bool)(σ:Env)(h:af),listed.size=ops.size->vQ ops.size (f+1) listed->px ops (λk=>listed.getD k false=true)->x∈Region.ready .any ops listed->
  (∀y,listed.getD y true=false->y≠x->vS ops x y∨∃t,ss[y]? =some t∧alY s t=true)->(∀p∈W,cls p.2.op<=1∧vM s p.2)->(∀p∈W,lj P σ h p.2)->
  cW P σ h s (rH P Qp K ss (jT ops) ops f ((x,s)::W) (listed.setIfInBounds x true)) Qp->rH P Qp K ss (jT ops) ops (f+1) W listed σ h:=by
 intro f;induction f with
 |zero=>
  intro W listed σ h aS lD dE hx hy hW mV hk;refine⟨mV,λhe=>(by rw[he]at hx;simp at hx),λi hi=>?_⟩;by_cases lH:i=x
  .subst lH;exact⟨s,hs,ue hk λσ1 h1 hh=>Io 0 _ _ _ σ1 h1 (λp hp=>by simp[zO p hp]) hh⟩
  .exact absurd Y (Vw lD lH hx hi)
 |succ f ih=>
  intro W listed σ h aS lD dE hx hy hW mV hk;refine⟨mV,λhe=>(by rw[he]at hx;simp at hx),λi hi=>?_⟩;by_cases lH:i=x
  .subst lH;exact⟨s,hs,ue hk λσ1 h1 hh=>Io (f+1) _ _ _ σ1 h1 (λp hp=>by simp[zO p hp]) hh⟩
  .have sV:=Ha lH hi aS;have jX:=(mem_ready.1 hi).1;rcases hy i jX lH with hw|⟨t,ht,hl⟩
   .exact absurd hw (LL dE hx hi aS)
   .refine⟨t,ht,?_⟩;obtain⟨l1,l2,l3⟩:=YU hl;obtain⟨v,hv,nE⟩:=vz hq hk;obtain⟨t',mu,hh⟩:=hv.2.2 i sV;rw[ht]at mu;simp at mu;subst mu;have wH:jl (jT ops) i t ((x,s)::W)=(x,s)::jl (jT ops) i t W:=by
     unfold jl;split
     .rfl
     .have hn:dz x ((jT ops).getD i [])=false:=by
       cases hb:dz x ((jT ops).getD i [])with
       |false=>rfl
       |true=>exact absurd (AT (tZ hi) hb) (LL dE hx hi aS)
      rw[anW,ak4 (by show(!dz x ((jT ops).getD i []))=true;rw[hn];rfl)]
    rw[wH]at hh;refine HC (σ:=upd σ s.dst v) (λq tD=>(iM λe=>l1 q e tD).symm) hh λu h' _ ki=>?_;rw[HR l2]at ki;have sP:∀p∈jl (jT ops) i t W,cls p.2.op<=1∧vM s p.2:=λp hp=>hW p (zO p hp);have bD:=N8 ki;refine ih (jl (jT ops) i t W) (listed.setIfInBounds i true) _ h' (by simp[aS]) (lD.step (tZ hi) jX) (wk dE (yv hi)) (Ha (λe=>lH e.symm) hx aS)
     (λy hy1 tJ=>hy y (Vl jX hy1) tJ) sP (λp hp=>ON (sP p hp).1 (sP p hp).2 (bD p (by simp[hp]))) ?_
    exact XM hq xe (bD (x,s) Yy) (by rw[set_comm];exact ki)
def Pl{ss:List aD}{cl:List (List Nat)}{listed:Array Bool}{x:Nat}{s:aD}:∀(n:Nat),BV ss cl listed x s n=true->∀y,y<n->listed.getD y true=false->y≠x->dz x (cl.getD y [])=true∨∃t,ss[y]? =some t∧loose s t=true
 |0,_,y,hy,_,_=>V
 |n+1,h,y,hy,hl,tJ=>by
  simp only[BV,alO,amZ]at h;by_cases tI:y=n
  .subst tI;rcases h.1 with((h1|h1)|h1)|h1
   .exact absurd (amT h1) tJ
   .rw[hl]at h1;simp at h1
   .exact .inl h1
   .split at h1
    .rename_i t ht;exact .inr ⟨t,ht,h1⟩
    .simp at h1
  .exact Pl n h.2 y V hl tJ
def PE{ss:List aD}{cl:List (List Nat)}{listed:Array Bool}{x:Nat}{s:aD}:∀(n:Nat),Cb ss cl listed x s n=true->∀y,y<n->listed.getD y true=false->y≠x->dz x (cl.getD y [])=true∨∃t,ss[y]? =some t∧alY s t=true
 |0,_,y,hy,_,_=>V
 |n+1,h,y,hy,hl,tJ=>by
  simp only[Cb,alO,amZ]at h;by_cases tI:y=n
  .subst tI;rcases h.1 with((h1|h1)|h1)|h1
   .exact absurd (amT h1) tJ
   .rw[hl]at h1;simp at h1
   .exact .inl h1
   .split at h1
    .rename_i t ht;exact .inr ⟨t,ht,h1⟩
    .simp at h1
  .exact PE n h.2 y V hl tJ
def GW{s:aD}:∀{W:List (Nat×aD)},xG s W=true->∀p∈W,vM s p.2
 |[],_,p,hp=>by simp at hp
 |q::W,h,p,hp=>by
  simp only[xG,alO]at h;rcases ak3.1 hp with rfl|hp
  .intro d hd;have h1:=h.1;rw[hd]at h1;simp only[alO,am0]at h1;refine⟨λhm=>?_,λhe=>?_⟩
   .rw[(oJ d p.2.slots).2 hm]at h1;simp at h1
   .rw[he]at h1;simp at h1
  .exact GW h.2 p hp
def Ta{ss:List aD}{cl:List (List Nat)}{W:List (Nat×aD)}{listed:Array Bool}{n:Nat}{y:Nat}{s:aD}:∀{r:List Nat},DP ss cl W listed n r=some (y,s)->y∈r∧ss[y]? =some s∧BV ss cl listed y s n=true∧xG s W=true
 |[],h=>by simp[DP]at h
 |x::r,h=>by
  simp only[DP]at h;split at h
  .rename_i s' eG;split at h
   .rename_i he;simp at h;obtain⟨rfl,rfl⟩:=h;exact⟨Yy,eG,he⟩
   .obtain⟨h1,h2⟩:=Ta h;exact⟨by simp[h1],h2⟩
  .simp at h
def Tb{ss:List aD}{cl:List (List Nat)}{W:List (Nat×aD)}{listed:Array Bool}{n:Nat}{y:Nat}{s:aD}:∀{r:List Nat},DQ ss cl W listed n r=some (y,s)->y∈r∧ss[y]? =some s∧(cls s.op<=1∧MD s=true)∧Cb ss cl listed y s n=true∧xG s W=true
 |[],h=>by simp[DQ]at h
 |x::r,h=>by
  simp only[DQ]at h;split at h
  .rename_i s' eG;split at h
   .rename_i he;simp at h;obtain⟨rfl,rfl⟩:=h;exact⟨Yy,eG,⟨amP he.1,he.2.1⟩,he.2.2.1,he.2.2.2⟩
   .obtain⟨h1,h2⟩:=Tb h;exact⟨by simp[h1],h2⟩
  .simp at h
def amr{K:Env->af->Prop}{t:lZ}(hs:qk P Qp K (GO W t) σ h):(∀p∈W,lj P σ h p.2)∧qk P Qp K t σ h:=by
 unfold GO at hs;split at hs
 .exact⟨λp hp=>by simp at hp,hs⟩
 .exact⟨λp hp=>(hs.1 p.2 (alF.2 ⟨p,hp,Y⟩)).2,hs.2⟩
def N5{h:af}{K:Env->af->Prop}{f:Nat->aD->Option lZ}{ss:List aD}:∀{r:List Nat}{t:lZ},Be f ss r=some t->qk P Qp K t σ h->∀i∈r,∃s u,ss[i]? =some s∧f i s=some u∧cW P σ h s (qk P Qp K u) Qp
 |[],t,ha,_,i,hi=>by simp at hi
 |[x],t,ha,hs,i,hi=>by
  simp only[Be]at ha;split at ha
  .rename_i s h1;simp only[alN]at ha;obtain⟨u,h2,rfl⟩:=ha;simp at hi;subst hi;exact⟨s,u,h1,h2,hs⟩
  .simp at ha
 |x::y::r,t,ha,hs,i,hi=>by
  simp only[Be]at ha;split at ha
  .rename_i s h1;split at ha
   .rename_i u v h2 h3;simp at ha;subst ha;rcases ak3.1 hi with rfl|hi
    .exact⟨s,u,h1,h2,hs.1⟩
    .exact N5 h3 hs.2 i hi
   .simp at ha
  .simp at ha
def HN{K:Env->af->Prop}{ss:List aD}:∀(f k:Nat)(W:List (Nat×aD))(listed:Array Bool)(t:lZ)(σ:Env)(h:af),listed.size=ops.size->vQ ops.size f listed->px ops (λk=>listed.getD k false=true)->
  (∀p∈W,cls p.2.op<=1)->(∀p∈W,lj P σ h p.2)->
  alz ss (jT ops) ops f k W listed=some t->qk P Qp K t σ h->rH P Qp K ss (jT ops) ops f W listed σ h
 |0,k,W,listed,t,σ,h,aS,lD,dE,hW,mV,ht,hs=>by
  simp only[alz]at ht;split at ht
  .rename_i he;simp at ht;subst ht;exact⟨mV,List.isEmpty_iff.1 he,hs⟩
  .simp at ht
 |f+1,k,W,listed,t,σ,h,aS,lD,dE,hW,mV,ht,hs=>by
  have Gd:∀z,listed.getD z true=false->z<ops.size:=by
   intro z hz;rcases amQ z ops.size with ah|cp
   .exact ah
   .rw[amO,Array.getElem?_eq_none V]at hz;simp at hz
  simp only[alz]at ht;split at ht
  .rename_i he;simp at ht;subst ht;exact⟨mV,λ_=>hs,λi hi=>by rw[he]at hi;simp at hi⟩
  .rename_i x r Db;split at ht
   .rename_i y s hp;simp only[alN]at ht;obtain⟨u,hu,rfl⟩:=ht;obtain⟨h1,h2,h3,h4⟩:=Ta hp;rw[<-Db]at h1;refine YI h2 f W listed σ h aS lD dE h1 ?_ (λp hp=>⟨hW p hp,GW h4 p hp⟩) mV ?_
    .intro z hz K2;rcases Pl _ h3 z (Gd z hz) hz K2 with hw|hl
     .exact .inl (AT (Gd z hz) hw)
     .exact .inr hl
    .refine ue hs λσ1 jV hh=>?_;obtain⟨aO,hh2⟩:=amr hh;exact HN f k _ _ u σ1 jV (by simp[aS]) (lD.step (tZ h1) (mem_ready.1 h1).1) (wk dE (yv h1)) (λp hp=>hW p (zO p hp)) aO hu hh2
   .split at ht
    .rename_i y s hp;simp only[alN]at ht;obtain⟨u,hu,rfl⟩:=ht;obtain⟨h1,h2,⟨hq,xe⟩,h3,h4⟩:=Tb hp;rw[<-Db]at h1;have Q0:∀d,s.dst=some d->d∉s.slots:=by
      intro d hd hm;unfold MD at xe;have Qy:=(oJ d s.slots).2 hm;simp only[hd,Qy]at xe;simp at xe
     refine ah1 h2 hq Q0 f W listed σ h aS lD dE h1 ?_ (λp hp=>⟨hW p hp,GW h4 p hp⟩) mV ?_
     .intro z hz K2;rcases PE _ h3 z (Gd z hz) hz K2 with hw|hl
      .exact .inl (AT (Gd z hz) hw)
      .exact .inr hl
     .obtain⟨v,hv,nE⟩:=vz hq hs;have self:lj P (upd σ s.dst v) h s:=agU hq Q0 nE;have Kn:=HN f k ((y,s)::W) _ u (upd σ s.dst v) h (by simp[aS]) (lD.step (tZ h1) (mem_ready.1 h1).1) (wk dE (yv h1))
       (λp hp=>by
        rcases ak3.1 hp with rfl|hp
        .exact hq
        .exact hW p hp)
       (λp hp=>by
        rcases ak3.1 hp with rfl|hp
        .exact self
        .exact XK (hW p hp) (GW h4 p hp) (mV p hp)) hu hv
      exact nE σ h (λ_ _=>rfl) (.inr (Ext.refl h)) _ Kn
    .split at ht
     .simp at ht
     .rename_i k';refine⟨mV,λhe=>by rw[he]at Db;simp at Db,λi hi=>?_⟩;have gL:=hi;rw[Db]at hi;obtain⟨s,u,h1,h2,h3⟩:=N5 ht hs i hi;simp only[alN]at h2;obtain⟨u',hu',rfl⟩:=h2;refine⟨s,h1,ue h3 λσ1 jV hh=>?_⟩;obtain⟨aO,hh2⟩:=amr hh;exact HN f k' _ _ u' σ1 jV (by simp[aS]) (lD.step (tZ gL) (mem_ready.1 gL).1) (wk dE (yv gL)) (λp hp=>hW p (zO p hp)) aO hu' hh2
def Ye{s:akX}(hm:P.follows .mixedOrders=true)(hc:wo P nt ops=some s){ro:Option Nat}{n id:Nat}{Q:de}{a:Act}{w:World}(hr:Rel σ nt ds a)(h:swp P s Q σ ds w.heap):(Code.region id ops true).wpIn (FW ro) n P (jQ nt w Q) a w:=by
 unfold wo at hc;split at hc
 .simp at hc
 .rename_i ss gN;simp only[alN]at hc;obtain⟨t,ht,rfl⟩:=hc;obtain⟨hlen,lF⟩:=BN ops.toList ss gN;have mZ:ss.length=ops.size:=by simpa using hlen
  have good:∀(i:Nat)(s:aD),ss[i]? =some s->Good P ops nt i s:=by
   intro i s hi;have ah:i<ops.size:=by rw[<-mZ];exact(ak7.1 hi).1
   obtain⟨s2,h2,h3⟩:=lF i ops[i] (by simp[ah]);rw[hi]at h2;simp at h2;subst h2;exact⟨ops[i],s,by simp[ah],h3,.inl Y⟩
  refine wpIn_region_any hm ?_;have nj:Sub (hide ss σ) σ:=CF ss;refine N6 (ss:=ss) (Q:=jQ nt w Q) (Qp:=λch h'=>Q (.panic ch) (hide ss σ) ds h') (K:=λσ' h'=>Q .normal σ' ds h') (τ:=hide ss σ) (ds:=ds) (nt:=nt) (w0:=w) good
   (λi s hs d hd=>zp (al9 hs) hd) (λσ' a' w' cG hb hk=>⟨σ',ds,cG,hb,hk⟩) (λch a' w' fL hb hk=>⟨_,ds,fL,hb,hk⟩) ops.size (Array.replicate ops.size false) σ a _ hr (hr.sub nj) ⟨Y,Y,Y⟩ ?_
  refine N7 ops.size [] _ σ w.heap (HN ops.size 6 [] _ t σ w.heap Yy ?_ ?_ (λp hp=>by simp at hp) (λp hp=>by simp at hp) ht h)
  .intro S dt hS;exact GI ops.size S dt λx hx=>(hS x hx).1
  .intro j hj;simp only[amO,an8]at hj;split at hj<;>simp at hj
end Go.Sx
namespace Go.Sx
open Go
variable{Q:de}{ro:Option Nat}{s:akX}
variable {P:Program}{σ σ':Env}{nt:Nat}{ds:List Deferred}{fl:Bool}
def jQ.trans{w w1:World}{Q:de}(hb:ck w w1){e:Exit}{a:Act}{w2:World}(h:jQ nt w1 Q e a w2):jQ nt w Q e a w2:=by
 obtain⟨σ,ds,h1,h2,h3⟩:=h;exact⟨σ,ds,h1,hb.trans h2,h3⟩
def OF{cl:List (List Nat)}{n:Nat}:∀{ss:List aD}{i:Nat},(uG cl n i ss).length=ss.length
 |[],_=>rfl
 |_::r,i=>by simp[uG,OF (ss:=r)]
def OE{cl:List (List Nat)}{n:Nat}:∀{ss:List aD}{b i:Nat}{s:aD},(uG cl n b ss)[i]? =some s->∃s2,ss[i]? =some s2∧(s=s2∨s=mO s2)
 |[],_,_,_,h=>by simp[uG]at h
 |x::r,b,0,s,h=>by
  simp only[uG,ant,anO]at h;refine⟨x,Y,?_⟩;cases hc:covers cl n b with
  |true=>rw[hc]at h;exact .inl h.symm
  |false=>rw[hc]at h;exact .inr h.symm
 |x::r,b,i+1,s,h=>by
  simp only[uG,alQ]at h;simpa using OE h
def afa{ops:Array Oper}{l:List aD}{draw:Bool}(hm:P.follows .mixedOrders=true)(hc:alW P nt ops draw=some l){n id:Nat}{a:Act}{w:World}(hr:Rel σ nt ds a)(h:cD P (λch h'=>Q (.panic ch) (hide l σ) ds h') (λσ' h'=>Q .normal σ' ds h') l σ w.heap):(Code.region id ops draw).wpIn (FW ro) n P (jQ nt w Q) a w:=by
 unfold alW at hc;split at hc
 .simp at hc
 .rename_i ss gN;obtain⟨hlen,lF⟩:=BN ops.toList ss gN;have mZ:ss.length=ops.size:=by simpa using hlen
  have good:∀(i:Nat)(s:aD),ss[i]? =some s->Good P ops nt i s:=by
   intro i s hi;have ah:i<ops.size:=by rw[<-mZ];exact(ak7.1 hi).1
   obtain⟨s2,h2,h3⟩:=lF i ops[i] (by simp[ah]);rw[hi]at h2;simp at h2;subst h2;exact⟨ops[i],s,by simp[ah],h3,.inl Y⟩
  split at hc
  .simp at hc;subst hc;refine wpIn_region ?_;have e:(List.range ops.size).zip ss=(List.range ops.size).zip ss:=rfl
   have e1:((List.range ops.size).zip ss).map (·.1)=List.range ops.size:=Dx _ _ (by simp[mZ])
   have e2:((List.range ops.size).zip ss).map (·.2)=ss:=xz _ _ (by simp[mZ])
   have:=RO (P:=P) (ops:=ops) (nt:=nt) (ds:=ds) (Qp:=λch h'=>Q (.panic ch) (hide ss σ) ds h') (K:=λσ' h'=>Q .normal σ' ds h') (τ:=hide ss σ) (ro:=ro) (n:=n) (Q:=jQ nt w Q) (w0:=w)
    (λσ' a' w' cG hb hk=>⟨σ',ds,cG,hb,hk⟩) (λch a' w' fL hb hk=>⟨_,ds,fL,hb,hk⟩) ((List.range ops.size).zip ss) σ a w ?_ ?_ hr (hr.sub (CF ss)) (ck.refl w) (by rw[e2];exact h)
   .rw[e1]at this;exact this
   .rintro⟨i,s⟩ hp;obtain⟨k,hk,fA⟩:=amS hp;rw[anq]at fA;simp at fA;have tf:k<ss.length:=by simp at hk;omega
    exact good i s (by rw[<-fA.1,akU tf,fA.2])
   .rintro⟨i,s⟩ hp d hd;exact zp (anC hp).2 hd
  .split at hc
   .rename_i l' hl;simp at hc;subst hc;exact SW hm mZ good hl hr h
   .rename_i QD;refine SW (ss:=IJ ss (gS ops) ops.size) hm (by unfold IJ;rw[OF,mZ]) ?_ hc hr h;intro i s hi;obtain⟨s2,hs,eT⟩:=OE hi;obtain⟨o,s0,h1,h2,h3⟩:=good i s2 (by simpa using hs);rcases eT with rfl|rfl
    .exact⟨o,s0,h1,h2,h3⟩
    .rcases h3 with rfl|rfl
     .exact⟨o,s2,h1,h2,.inr Y⟩
     .refine⟨o,s0,h1,h2,.inr ?_⟩;cases bz:s0.op<;>simp[mO,bz]
def amp{Qp:List PanicEntry->af->Prop}{ops:Array Oper}{K:Env->af->Prop}{τ:Env}{ro:Option Nat}{n:Nat}{Q:Exit->Act->World->Prop}{w0:World}{rest:List Nat}(hN:∀σ' a' w',Rel σ' nt ds a'->ck w0 w'->K σ' w'.heap->wpOpsIn (FW ro) n P ops Q rest a' w')(hQ:∀ch a' w',Rel τ nt ds a'->ck w0 w'->Qp ch w'.heap->Q (.panic ch) a' w'):∀(l:List (Nat×aD))(σ:Env)(a:Act)(w:World),(∀p∈l,Good P ops nt p.1 p.2)->(∀p∈l,∀d,p.2.dst=some d->τ d=none)->Rel σ nt ds a->Rel τ nt ds a->ck w0 w->
   cD P Qp K (l.map (·.2)) σ w.heap->wpOpsIn (FW ro) n P ops Q (l.map (·.1)++rest) a w
 |[],σ,a,w,_,_,hr,_,hb,hs=>hN σ a w hr hb hs
 |(i,s)::l,σ,a,w,hg,hd,hr,fL,hb,hs=>by
  simp only[alR,cD,amK]at hs⊢;rw[wpOpsIn_cons];exact Au (hg (i,s) Yy) hr fL (hd (i,s) Yy) hs (λσ' a' w' cG qV bh hk=>amp hN hQ l σ' a' w' (λp hp=>hg p (by simp[hp])) (λp hp=>hd p (by simp[hp])) cG qV (hb.trans bh) hk) (λch w' bh hk=>hQ ch a w' fL (hb.trans bh) hk)
def OX{ops:Array Oper}(h:wm nt ops=some s):∃d,s=.rcv d:=by
 unfold wm at h;split at h
 .rename_i o ho;split at h
  .split at h
   .split at h
    .simp at h;exact⟨_,h.symm⟩
    .simp at h
   .simp at h
  .simp at h
 .simp at h
def Fj{ops:Array Oper}(h:yH P nt ops=some s):∃o c x l,ops.toList.getLast? =some o∧o.op=.defer c∧o.guard=none∧c.callee=.value x∧rK P ops nt ops.toList.dropLast=some l∧
  (∀d,o.dst=some d->d<nt)∧s=.wq l o.dst x c.args.toList:=by
 unfold yH at h;split at h
 .rename_i o ho;split at h
  .rename_i c bz hg;split at h
   .rename_i x l hc hl;split at h
    .rename_i hd;simp at h;refine⟨o,c,x,l,ho,bz,hg,hc,hl,λd Cv=>?_,h.symm⟩;rw[Cv]at hd;exact amP hd
    .simp at h
   .simp at h
  .simp at h
 .simp at h
def Yg{ops:Array Oper}(hc:yH P nt ops=some s){n id:Nat}{a:Act}{w:World}(hr:Rel σ nt ds a)(h:swp P s Q σ ds w.heap):(Code.region id ops false).wpIn (FW none) n P (jQ nt w Q) a w:=by
 obtain⟨o,c,x,l,ho,bz,hg,Cr,hl,wJ,rfl⟩:=Fj hc;obtain⟨hlen,lF⟩:=BN _ l hl;have ax:ops.toList≠[]:=by intro e;rw[e]at ho;simp at ho
 have iC:0<ops.size:=by
  rcases Nat.eq_zero_or_pos ops.size with h0|h0
  .exact absurd (by apply amW;simpa using h0) ax
  .exact h0
 obtain⟨m,hm⟩:∃m,ops.size=m+1:=⟨ops.size-1,V⟩
 have hlm:l.length=m:=by rw[hlen];simp[hm]
 have acj:ops[m]? =some o:=by
  rw[List.getLast?_eq_getElem?]at ho;simpa[hm]using ho
 refine wpIn_region ?_;rw[hm,List.range_succ]
 have e1:((List.range m).zip l).map (·.1)=List.range m:=Dx _ _ (by simp[hlm])
 have e2:((List.range m).zip l).map (·.2)=l:=xz _ _ (by simp[hlm])
 simp only[swp]at h;have:=amp (P:=P) (ops:=ops) (nt:=nt) (ds:=ds) (ro:=none) (n:=n) (Q:=jQ nt w Q) (w0:=w) (rest:=[m]) (τ:=hide l σ)
  (Qp:=λch h'=>Q (.panic ch) (hide l σ) ds h') (K:=λσ' h'=>match ev σ' x,fI σ' c.args.toList with
   |some (.func (.func f) fi cap),some vs=>Q .normal (upd σ' o.dst undef) ({target:=.fn (.func f) cap,args:=⟨fi.toList++vs⟩}::ds) h'
   |_,_=>False) ?_ (λch a' w' fL hb hk=>⟨_,ds,fL,hb,hk⟩) ((List.range m).zip l) σ a w ?_ ?_ hr (hr.sub (CF l)) (ck.refl w) (by rw[e2];exact h)
 .rw[e1]at this;exact this
 .intro σ' a' w' cG bh hk;split at hk
  .rename_i f fi cap vs hx hv;rw[wpOpsIn_cons];simp only[wpOpIn,acj];have hw:Region.wanted o (yielded ops a'.tmps)=true:=by simp[Region.wanted,hg]
   rw[ak4 hw];refine⟨λ_ _=>trivial,?_⟩;have ha:c.args.map a'.eval=⟨vs⟩:=by apply amI;simp[cG.knows.list _ _ hv]
   have hf:=cG.knows x _ hx;have fe:fi++(⟨vs⟩:Array Value)=⟨fi.toList++vs⟩:=by apply amI;simp
   have kL:(o.semAt (FW none).round a'.eval).run P w'=.ok (.defer {target:=.fn (.func f) cap,args:=⟨fi.toList++vs⟩}) w':=by
    show(Oper.semAt none a'.eval o).run P w'=_;rw[Oper.semAt_none];simp[execOp,bz,resolve,Cr,ha,hf,Deferred.ofValue,fe]
   rw[kL];show wpOpsIn (FW none) n P ops (jQ nt w Q) [] _ w';refine⟨_,_,?_,bh,hk⟩;have Cv:Rel σ' nt ({target:=.fn (.func f) cap,args:=⟨fi.toList++vs⟩}::ds) {a' with defers:={target:=.fn (.func f) cap,args:=⟨fi.toList++vs⟩}::a'.defers}:=
    ⟨cG.size,by simp[cG.defers],λy v hy=>by have:=cG.knows y v hy;simpa[Act.eval]using this⟩
   exact Cv.put wJ undef
  .exact hk.elim
 .rintro⟨i,s⟩ hp;obtain⟨k,hk,fA⟩:=amS hp;rw[anq]at fA;simp at fA;have tf:k<l.length:=by simp at hk;omega
  obtain⟨s2,h2,h3⟩:=lF k (ops.toList.dropLast[k]'(by simp[hm];omega)) (akU _);have tB:ops[k]? =some (ops.toList.dropLast[k]'(by simp[hm];omega)):=by
   rw[List.getElem_dropLast];simp
  rw[akU tf]at h2;simp[fA.2]at h2;subst h2;obtain⟨rfl,_⟩:=fA;exact⟨_,s,tB,h3,.inl Y⟩
 .rintro⟨i,s⟩ hp d hd;exact zp (anC hp).2 hd
def ae9{ops:Array Oper}{sp s1 s2:List aD}(hm:P.follows .mixedOrders=true)(hc:Fs P nt ops=some (sp,s1,s2)){n id:Nat}{a:Act}{w:World}(hr:Rel σ nt ds a)(h:swp P (.two sp s1 s2) Q σ ds w.heap):(Code.region id ops true).wpIn (FW ro) n P (jQ nt w Q) a w:=by
 unfold Fs at hc;split at hc
 .simp at hc
 .rename_i ss gN;obtain⟨hlen,lF⟩:=BN ops.toList ss gN;have mZ:ss.length=ops.size:=by simpa using hlen
  have good:∀(i:Nat)(s:aD),ss[i]? =some s->Good P ops nt i s:=by
   intro i s hi;have ah:i<ops.size:=by rw[<-mZ];exact(ak7.1 hi).1
   obtain⟨s2,h2,h3⟩:=lF i ops[i] (by simp[ah]);rw[hi]at h2;simp at h2;subst h2;exact⟨ops[i],s,by simp[ah],h3,.inl Y⟩
  refine aey (ss:=ss.map mO) hm (by simp[mZ]) ?_ hc hr h;intro i s hi;rw[amB]at hi;cases hs:ss[i]? with
  |none=>rw[hs]at hi;simp at hi
  |some s2=>
   rw[hs]at hi;simp at hi;subst hi;obtain⟨o,s0,h1,h2,h3⟩:=good i s2 hs;rcases h3 with rfl|rfl
   .exact⟨o,s2,h1,h2,.inr Y⟩
   .refine⟨o,s0,h1,h2,.inr ?_⟩;cases bz:s0.op<;>simp[mO,bz]
def ah4{F:Fence}{n:Nat}{Q:Exit->Act->World->Prop}{c:Code}(I:Nat->Act->World->Prop){m:Nat}{a:Act}{w:World}(h₀:I m a w)(round:∀m a w,I m a w->c.wpIn F n P (Exit.then (λa' w'=>∃m',m'<m∧I m' a' w') Q) a w):(Code.loop c).wpIn F n P Q a w:=by
 intro b k cs pU hb hr;have key:∀j a w,I j a w->
   ∃e a' w',Q e a' w'∧ArrivesIn (Machine.fenced P F) P (lone (b.atR a (.code c::.inLoop c::k)) cs w) b k cs e a' w':=by
  intro j;induction j using Nat.strongRecOn with
  |_ j ih=>
   intro a w hI;obtain⟨e,a₁,w₁,hq,gV⟩:=round j a w hI b (.inLoop c::k) cs pU hb hr;cases e with
   |normal=>
    obtain⟨m',ah,abC⟩:=hq;obtain⟨e₂,a₂,w₂,acu,abE⟩:=ih m' ah a₁ w₁ abC;exact⟨e₂,a₂,w₂,acu,.of_steps (StepsIn.trans gV (.one (fenced_calm hb hr Y) stepR_inLoop)) abE⟩
   |exit id=>exact⟨_,a₁,w₁,hq,.pass (x:=.inLoop c) Y (λ_ _=>.inl Yy) gV⟩
   |goto l=>exact⟨_,a₁,w₁,hq,.pass (x:=.inLoop c) Y (λ_ _=>.inl Yy) gV⟩
   |ret=>exact⟨_,a₁,w₁,hq,.pass (x:=.inLoop c) Y (λ_ _=>.inl Yy) gV⟩
   |panic ch=>exact⟨_,a₁,w₁,hq,.pass (x:=.inLoop c) Y (λ_ _=>.inl Yy) gV⟩
   |outgrown=>exact⟨_,a₁,w₁,hq,.pass (x:=.inLoop c) Y (λ_ _=>.inl Yy) gV⟩
 obtain⟨e,a',w',hq,gV⟩:=key m a w h₀;exact⟨e,a',w',hq,.of_steps (.one (fenced_calm hb hr Y) stepR_loop) gV⟩
section
variable {b:Frame}{a:Act}{k:List Item}{cs:List Frame}{w:World}
def pk{c:Code}:step P (lone (b.atR a (.code (.scope c)::k)) cs w)=.next (lone (b.atR a (.code c::.inScope c::k)) cs w):=
 step_lone_go (by simp[stepG,stepG.exec,Frame.atR])
def MP{c:Code}:step P (lone (b.atR a (.inScope c::k)) cs w)=.next (lone (b.atR a k) cs w):=
 step_lone_go (by simp[stepG,stepG.exec,Frame.atR])
end
def Sy(Q:Exit->Act->World->Prop):Exit->Act->World->Prop
 |.goto _,_,_=>False
 |e,a,w=>Q e a w
def ah6{F:Fence}{n:Nat}{Q:Exit->Act->World->Prop}{c:Code}{a:Act}{w:World}(h:c.wpIn F n P (Sy Q) a w):(Code.scope c).wpIn F n P Q a w:=by
 intro b k cs pU hb hr;obtain⟨e,a₁,w₁,hq,gV⟩:=h b (.inScope c::k) cs pU hb hr;have h0:(lone (b.atR a (.code (.scope c)::k)) cs w).fenced P F:=fenced_calm hb hr Y;cases e with
 |normal=>exact⟨.normal,a₁,w₁,hq,.head h0 pk (StepsIn.trans gV (.one (fenced_calm hb hr Y) MP))⟩
 |exit id=>
  have hx:exitTo id (.inScope c::k)=exitTo id k:=by simp[exitTo]
  exact⟨.exit id,a₁,w₁,hq,λk' hk=>.head h0 pk (gV.1 k' (by rw[hx];exact hk)),
   λcG hk=>let⟨k₁,h1,h2⟩:=gV.2 cG (by rw[hx];exact hk);⟨k₁,h1,.head h0 pk h2⟩⟩
 |goto l=>exact hq.elim
 |ret=>exact⟨_,a₁,w₁,hq,.of_steps (.one h0 pk) gV⟩
 |panic ch=>exact⟨_,a₁,w₁,hq,.of_steps (.one h0 pk) gV⟩
 |outgrown=>exact⟨_,a₁,w₁,hq,.of_steps (.one h0 pk) gV⟩
def ak5:Code->Nat
 |.seq a b|.cond _ a b|.rangeFunc _ _ a b=>ak5 a+ak5 b+1
 |.block _ c|.loop c|.scope c=>ak5 c+1
 |_=>1
def Yc(c:Code):1<=ak5 c:=by cases c<;>simp[ak5]
def Yb:∀(c:Code)(l:Nat)(rest:Code),findLabel c l=some rest->ak5 rest<=ak5 c:=by
 intro c;induction c with
 |seq x y ihx nq=>
  intro l rest h;simp only[findLabel]at h;split at h
  .rename_i r hr;simp at h;subst h;have:=ihx l r hr;simp only[ak5];omega
  .have:=nq l rest h;simp only[ak5];omega
 |label l'=>
  intro l rest h;simp only[findLabel]at h;split at h
  .simp at h;subst h;simp[ak5]
  .simp at h
 |_=>intro l rest h;simp[findLabel]at h
def I4{ops:Array Oper}{draw:Bool}{sc:akX}(hc:I3 fl P nt ops draw=some sc):(∃l,sc=.ops l∧alW P nt ops draw=some l)∨(draw=true∧∃x:List aD×List aD×List aD,sc=.two x.1 x.2.1 x.2.2∧Fs P nt ops=some x)∨(draw=true∧wo P nt ops=some sc)∨
  (draw=false∧yH P nt ops=some sc)∨(draw=false∧wm nt ops=some sc):=by
 have hd:Fu P nt ops=some sc->yH P nt ops=some sc∨wm nt ops=some sc:=by
  intro h;unfold Fu at h;split at h
  .rename_i s hs;exact .inl (by rw[hs];exact h)
  .exact .inr h
 unfold I3 at hc;split at hc
 .split at hc
  .rename_i l hl;simp at hc;exact .inl ⟨l,hc.symm,hl⟩
  .split at hc
   .split at hc
    .rename_i x hx;simp at hc;exact .inr (.inl ⟨Y,x,hc.symm,hx⟩)
    .exact .inr (.inr (.inl ⟨Y,hc⟩))
   .exact .inr (.inr (.inr ((hd hc).imp (λh=>⟨Y,h⟩) λh=>⟨Y,h⟩)))
 .split at hc
  .rename_i l hl;simp at hc;refine .inl ⟨l,hc.symm,?_⟩;unfold OY at hl;unfold alW;split at hl
   .simp at hl
   .rename_i ss gN;split at hl
    .simp[hl]
    .simp[hl]
  .split at hc
   .exact .inr (.inr (.inl ⟨Y,hc⟩))
   .exact .inr (.inr (.inr ((hd hc).imp (λh=>⟨Y,h⟩) λh=>⟨Y,h⟩)))
def ae'{id:Nat}{ops:Array Oper}{draw:Bool}{sc:akX}(hc:cI fl P nt (.region id ops draw)=some sc)(l:Nat):jM sc l=none:=by
 simp only[cI]at hc;rcases I4 hc with⟨l,rfl,_⟩|⟨_,x,rfl,_⟩|⟨_,h⟩|⟨_,h⟩|⟨_,h⟩
 .rfl
 .rfl
 .unfold wo at h;split at h
  .simp at h
  .simp only[alN]at h;obtain⟨x,_,rfl⟩:=h;rfl
 .obtain⟨o,c,x,l,_,_,_,_,_,_,rfl⟩:=Fj h;rfl
 .obtain⟨d,rfl⟩:=OX h;rfl
def aas:∀(c:Code)(sc:akX)(l:Nat),cI fl P nt c=some sc->jM sc l=none->findLabel c l=none:=by
 intro c;induction c with
 |seq x y ihx nq=>
  intro sc l hc hf;simp only[cI]at hc;split at hc
  .rename_i sx sy hx hy;simp at hc;subst hc;simp only[jM]at hf;split at hf
   .simp at hf
   .rename_i hn;simp[findLabel,ihx sx l hx hn,nq sy l hy hf]
  .simp at hc
 |label l'=>
  intro sc l hc hf;simp[cI]at hc;subst hc;simp only[jM]at hf;split at hf
  .simp at hf
  .rename_i he;simp[findLabel,he]
 |_=>intro sc l hc hf;rfl
def ag1:∀(c:Code)(sc:akX)(l:Nat)(r:akX),cI fl P nt c=some sc->jM sc l=some r->∃rest,findLabel c l=some rest∧cI fl P nt rest=some r:=by
 intro c;induction c with
 |seq x y ihx nq=>
  intro sc l r hc hf;simp only[cI]at hc;split at hc
  .rename_i sx sy hx hy;simp at hc;subst hc;simp only[jM]at hf;split at hf
   .rename_i r' cG;simp at hf;subst hf;obtain⟨rest,h1,h2⟩:=ihx sx l r' hx cG;exact⟨.seq rest y,by simp[findLabel,h1],by simp[cI,h2,hy]⟩
   .rename_i hn;obtain⟨rest,h1,h2⟩:=nq sy l r hy hf;have xj:findLabel x l=none:=by
     cases oM:findLabel x l with
     |none=>rfl
     |some akQ=>
      exfalso;have:=aas x sx l hx hn;rw[oM]at this;simp at this
    exact⟨rest,by simp[findLabel,xj,h1],h2⟩
  .simp at hc
 |label l'=>
  intro sc l r hc hf;simp[cI]at hc;subst hc;simp only[jM]at hf;split at hf
  .rename_i he;simp at hf;subst hf;exact⟨.skip,by simp[findLabel,he],Y⟩
  .simp at hf
 |skip=>intro sc l r hc hf;simp[cI]at hc;subst hc;simp[jM]at hf
 |region id ops draw=>
  intro sc l r hc hf;rw[ae' hc l]at hf;simp at hf
 |cond o x y ihx nq=>
  intro sc l r hc hf;simp only[cI]at hc;split at hc
  .simp at hc;subst hc;simp[jM]at hf
  .simp at hc
 |block id c ih=>intro sc l r hc hf;simp only[cI,alN]at hc;obtain⟨_,_,rfl⟩:=hc;simp[jM]at hf
 |loop c ih=>intro sc l r hc hf;simp only[cI,alN]at hc;obtain⟨_,_,rfl⟩:=hc;simp[jM]at hf
 |scope c ih=>
  intro sc l r hc hf;simp only[cI]at hc;split at hc
  .split at hc
   .simp at hc;subst hc;simp[jM]at hf
   .split at hc
    .simp at hc;subst hc;simp[jM]at hf
    .simp at hc
  .simp at hc
 |exit id=>intro sc l r hc hf;simp[cI]at hc;subst hc;simp[jM]at hf
 |ret=>intro sc l r hc hf;simp[cI]at hc;subst hc;simp[jM]at hf
 |goto l=>intro sc l r hc hf;simp[cI]at hc;subst hc;simp[jM]at hf
 |refuse s=>intro sc l r hc hf;simp[cI]at hc;subst hc;simp[jM,HJ]at hf
 |rangeFunc g ps x y ihx nq=>
  intro sc l r hc hf;simp only[cI]at hc;split at hc
  .split at hc
   .simp at hc;subst hc;simp[jM]at hf
   .simp at hc
  .simp at hc
def ah5{F:Fence}{n:Nat}{Q:Exit->Act->World->Prop}{c rest:Code}{l:Nat}{a:Act}{w:World}(hl:findLabel c l=some rest)(h:c.wpIn F n P (λe a' w'=>match e with|.goto l'=>l'=l∧rest.wpIn F n P (Sy Q) a' w'|e=>Q e a' w') a w):(Code.scope c).wpIn F n P Q a w:=by
 intro b k cs pU hb hr;obtain⟨e,a₁,w₁,hq,gV⟩:=h b (.inScope c::k) cs pU hb hr;have h0:(lone (b.atR a (.code (.scope c)::k)) cs w).fenced P F:=fenced_calm hb hr Y;cases e with
 |normal=>exact⟨.normal,a₁,w₁,hq,.head h0 pk (StepsIn.trans gV (.one (fenced_calm hb hr Y) MP))⟩
 |exit id=>
  have hx:exitTo id (.inScope c::k)=exitTo id k:=by simp[exitTo]
  exact⟨.exit id,a₁,w₁,hq,λk' hk=>.head h0 pk (gV.1 k' (by rw[hx];exact hk)),
   λcG hk=>let⟨k₁,h1,h2⟩:=gV.2 cG (by rw[hx];exact hk);⟨k₁,h1,.head h0 pk h2⟩⟩
 |goto l'=>
  obtain⟨rfl,rW⟩:=hq;have hg:gotoIn l' (.inScope c::k)=some (.code rest::.inScope c::k):=by simp[gotoIn,hl]
  have acI:=gV.1 _ hg;obtain⟨e2,a2,w2,eC,zb⟩:=rW b (.inScope c::k) cs pU hb hr;have rV:=StepsIn.head h0 pk acI;cases e2 with
  |normal=>exact⟨.normal,a2,w2,eC,StepsIn.trans rV (StepsIn.trans zb (.one (fenced_calm hb hr Y) MP))⟩
  |exit id=>
   have hx:exitTo id (.inScope c::k)=exitTo id k:=by simp[exitTo]
   exact⟨.exit id,a2,w2,eC,λk' hk=>StepsIn.trans rV (zb.1 k' (by rw[hx];exact hk)),
    λcG hk=>let⟨k₁,h1,h2⟩:=zb.2 cG (by rw[hx];exact hk);⟨k₁,h1,StepsIn.trans rV h2⟩⟩
  |goto l=>exact eC.elim
  |ret=>exact⟨_,a2,w2,eC,.of_steps rV zb⟩
  |panic ch=>exact⟨_,a2,w2,eC,.of_steps rV zb⟩
  |outgrown=>exact⟨_,a2,w2,eC,.of_steps rV zb⟩
 |ret=>exact⟨_,a₁,w₁,hq,.of_steps (.one h0 pk) gV⟩
 |panic ch=>exact⟨_,a₁,w₁,hq,.of_steps (.one h0 pk) gV⟩
 |outgrown=>exact⟨_,a₁,w₁,hq,.of_steps (.one h0 pk) gV⟩
def Rel.Tq:∀(ps:List Nat)(vs:List Value)(σ:Env)(a:Act),Rel σ nt ds a->(∀p∈ps,p<nt)->vs.length=ps.length->
  Rel (sB σ ps vs) nt ds {a with tmps:=(ps.zip vs).foldl (λt(x:Nat×Value)=>t.setIfInBounds x.1 x.2) a.tmps}
 |[],vs,σ,a,hr,_,_=>by
  have:sB σ [] vs=σ:=by cases vs<;>rfl
  rw[this];exact hr
 |p::ps,[],σ,a,hr,_,hl=>by simp at hl
 |p::ps,v::vs,σ,a,hr,hp,hl=>by
  have h1:Rel (upd σ (some p) v) nt ds (a.put (some p) v):=hr.put (λt ht=>by simp at ht;subst ht;exact hp _ Yy) v;exact Rel.Tq ps vs _ _ h1 (λq hq=>hp q (by simp[hq])) (by simpa using hl)
def Ej{h:af}{l:Nat}{r:Loop}{x:Obj}(hx:h[l]? =some x)(st:LoopState)(p:Option Code):rG h (h.setIfInBounds l (.loop {r with state:=st,pending:=p})) l r st p:=by
 have ah:=(al4.1 hx).1;refine⟨⟨by simp[ah]⟩,Yy,λk hk=>?_⟩;rw[amG,akZ (λe=>hk e.symm)]
def ahq{P:Program}{Q:de}{σ:Env}{ds:List Deferred}{h:af}(hs:swp P HJ Q σ ds h):False:=by
 simp[HJ,swp,cD,cW,aE,ev]at hs
def XY(hm:P.follows .mixedOrders=true):∀(N:Nat)(c:Code),ak5 c<=N->∀(sc:akX),cI fl P nt c=some sc->∀(ro:Option Nat),(ro=none∨flat sc=true)->∀(n:Nat)(Q:de)(σ:Env)(ds:List Deferred)(a:Act)(w:World),
  Rel σ nt ds a->swp P sc Q σ ds w.heap->c.wpIn (FW ro) n P (jQ nt w Q) a w:=by
 intro N;induction N with
 |zero=>intro c hN;exact absurd hN (by have:=Yc c;omega)
 |succ N IH=>
 intro c hN;cases c with
 |skip=>
  intro sc hc ro hf n Q σ ds a w hr h;simp[cI]at hc;subst hc;exact wpIn_skip ⟨σ,ds,hr,ck.refl w,h⟩
 |label l=>
  intro sc hc ro hf n Q σ ds a w hr h;simp[cI]at hc;subst hc;exact wpIn_label ⟨σ,ds,hr,ck.refl w,h⟩
 |region id ops draw=>
  intro sc hc ro hf n Q σ ds a w hr h;simp only[cI]at hc;rcases I4 hc with⟨l,rfl,hl⟩|⟨rfl,⟨sp,s1,s2⟩,rfl,hl⟩|⟨rfl,hl⟩|⟨rfl,hl⟩|⟨rfl,hl⟩
  .exact afa hm hl hr h
  .exact ae9 hm hl hr h
  .exact Ye hm hl hr h
  .have pU:ro=none:=by
    rcases hf with hf|hf
    .exact hf
    .obtain⟨o,c,x,l,_,_,_,_,_,_,rfl⟩:=Fj hl;simp[flat]at hf
   subst pU;exact Yg hl hr h
  .obtain⟨d,rfl⟩:=OX hl;exact h.elim
 |seq x y=>
  have ihx:=IH x (by simp only[ak5]at hN;omega);have nq:=IH y (by simp only[ak5]at hN;omega);intro sc hc ro hf n Q σ ds a w hr h;simp only[cI]at hc;split at hc
  .rename_i sx sy hx hy;simp at hc;subst hc;have JZ:ro=none∨flat sx=true:=hf.imp id λh=>by simp[flat]at h;exact h.1
   have J0:ro=none∨flat sy=true:=hf.imp id λh=>by simp[flat]at h;exact h.2
   refine wpIn_seq (wpIn_mono (ihx sx hx ro JZ n (fc (swp P sy Q) Q) σ ds a w hr h) ?_);rintro e a1 w1 ⟨σ1,dh,cH,bS,hq⟩;cases e with
   |normal=>exact wpIn_mono (nq sy hy ro J0 n Q σ1 dh a1 w1 cH hq) λe a w h=>jQ.trans bS h
   |exit id=>exact⟨σ1,dh,cH,bS,hq⟩
   |goto l=>exact⟨σ1,dh,cH,bS,hq⟩
   |ret=>exact⟨σ1,dh,cH,bS,hq⟩
   |panic ch=>exact⟨σ1,dh,cH,bS,hq⟩
   |outgrown=>exact⟨σ1,dh,cH,bS,hq⟩
  .simp at hc
 |cond o x y=>
  have ihx:=IH x (by simp only[ak5]at hN;omega);have nq:=IH y (by simp only[ak5]at hN;omega);intro sc hc ro hf n Q σ ds a w hr h;simp only[cI]at hc;split at hc
  .rename_i sx sy hx hy;simp at hc;subst hc;have JZ:ro=none∨flat sx=true:=hf.imp id λh=>by simp[flat]at h;exact h.1
   have J0:ro=none∨flat sy=true:=hf.imp id λh=>by simp[flat]at h;exact h.2
   simp only[swp]at h;split at h
   .rename_i he;exact wpIn_cond_true (hr.knows _ _ he) (ihx sx hx ro JZ n Q σ ds a w hr h)
   .rename_i he;exact wpIn_cond_false (hr.knows _ _ he) (nq sy hy ro J0 n Q σ ds a w hr h)
   .exact h.elim
  .simp at hc
 |block id c=>
  have ih:=IH c (by simp only[ak5]at hN;omega);intro sc hc ro hf n Q σ ds a w hr h;simp only[cI,alN]at hc;obtain⟨s,hs,rfl⟩:=hc;refine wpIn_block (wpIn_mono (ih s hs ro (hf.imp (λx=>x) λh=>by simpa[flat]using h) n (qw id Q) σ ds a w hr h) ?_);rintro e a1 w1 ⟨σ1,dh,cH,bS,hq⟩;cases e with
  |exit Gv=>
   simp only[qw]at hq;simp only[Exit.inBlock];split
   .rename_i he;rw[ak4 he]at hq;exact⟨σ1,dh,cH,bS,hq⟩
   .rename_i he;rw[akZ he]at hq;exact⟨σ1,dh,cH,bS,hq⟩
  |normal=>exact⟨σ1,dh,cH,bS,hq⟩
  |goto l=>exact⟨σ1,dh,cH,bS,hq⟩
  |ret=>exact⟨σ1,dh,cH,bS,hq⟩
  |panic ch=>exact⟨σ1,dh,cH,bS,hq⟩
  |outgrown=>exact⟨σ1,dh,cH,bS,hq⟩
 |loop c=>
  have ih:=IH c (by simp only[ak5]at hN;omega);intro sc hc ro hf n Q σ ds a w hr h;simp only[cI,alN]at hc;obtain⟨s,hs,rfl⟩:=hc;simp only[swp]at h;obtain⟨ι,E,I,μ,i,nj,hI,acA⟩:=h;refine ah4 (λm a' w'=>∃i,μ i=m∧Rel (mk (E i)) nt ds a'∧ck w w'∧I i w'.heap) (m:=μ i) ⟨i,Y,hr.sub (uh nj),ck.refl w,hI⟩ ?_;rintro m a1 w1 ⟨i1,hm1,cH,bS,hI1⟩;refine wpIn_mono (ih s hs ro (hf.imp (λx=>x) λh=>by simpa[flat]using h) n _ (mk (E i1)) ds a1 w1 cH (acA i1 w1.heap hI1)) ?_;rintro e a2 w2 ⟨σ2,pH,cJ,eL,hq⟩;cases e with
  |normal=>
   obtain⟨rfl,i2,tF,hI2,ah⟩:=hq;exact⟨μ i2,V,i2,Y,cJ.sub (uh tF),bS.trans eL,hI2⟩
  |exit id=>exact⟨σ2,pH,cJ,bS.trans eL,hq⟩
  |goto l=>exact⟨σ2,pH,cJ,bS.trans eL,hq⟩
  |ret=>exact⟨σ2,pH,cJ,bS.trans eL,hq⟩
  |panic ch=>exact⟨σ2,pH,cJ,bS.trans eL,hq⟩
  |outgrown=>exact⟨σ2,pH,cJ,bS.trans eL,hq⟩
 |scope c=>
  have ih:=IH c (by simp only[ak5]at hN;omega);intro sc hc ro hf n Q σ ds a w hr h;simp only[cI]at hc;split at hc
  .rename_i s hs;split at hc
   .simp at hc;subst hc;refine ah6 (wpIn_mono (ih s hs ro (hf.imp (λx=>x) λh=>by simpa[flat]using h) n (AJ Q) σ ds a w hr h) ?_);rintro e a1 w1 ⟨σ1,dh,cH,bS,hq⟩;cases e with
    |goto l=>exact hq.elim
    |exit id=>exact⟨σ1,dh,cH,bS,hq⟩
    |normal=>exact⟨σ1,dh,cH,bS,hq⟩
    |ret=>exact⟨σ1,dh,cH,bS,hq⟩
    |panic ch=>exact⟨σ1,dh,cH,bS,hq⟩
    |outgrown=>exact⟨σ1,dh,cH,bS,hq⟩
   .rename_i l hl;split at hc
    .rename_i r jD;simp at hc;subst hc;have pU:ro=none:=by rcases hf with hf|hf;exact hf;simp[flat]at hf
     subst pU;obtain⟨rest,h1,h2⟩:=ag1 c s l r hs jD;refine ah5 h1 (wpIn_mono (ih s hs none (.inl Y) n (K9 l (swp P r (AJ Q)) Q) σ ds a w hr h) ?_);rintro e a1 w1 ⟨σ1,dh,cH,bS,hq⟩;cases e with
     |goto l'=>
      obtain⟨rfl,hq⟩:=hq;refine⟨Y,?_⟩;have aS:=Yb c l' rest h1;refine wpIn_mono (IH rest (by simp only[ak5]at hN;omega) r h2 none (.inl Y) n (AJ Q) σ1 dh a1 w1 cH hq) ?_;rintro e a2 w2 ⟨σ2,pH,cJ,eL,eC⟩;cases e with
      |goto l=>exact eC.elim
      |exit id=>exact⟨σ2,pH,cJ,bS.trans eL,eC⟩
      |normal=>exact⟨σ2,pH,cJ,bS.trans eL,eC⟩
      |ret=>exact⟨σ2,pH,cJ,bS.trans eL,eC⟩
      |panic ch=>exact⟨σ2,pH,cJ,bS.trans eL,eC⟩
      |outgrown=>exact⟨σ2,pH,cJ,bS.trans eL,eC⟩
     |exit id=>exact⟨σ1,dh,cH,bS,hq⟩
     |normal=>exact⟨σ1,dh,cH,bS,hq⟩
     |ret=>exact⟨σ1,dh,cH,bS,hq⟩
     |panic ch=>exact⟨σ1,dh,cH,bS,hq⟩
     |outgrown=>exact⟨σ1,dh,cH,bS,hq⟩
    .simp at hc
  .simp at hc
 |exit id=>
  intro sc hc ro hf n Q σ ds a w hr h;simp[cI]at hc;subst hc;exact wpIn_exit ⟨σ,ds,hr,ck.refl w,h⟩
 |ret=>
  intro sc hc ro hf n Q σ ds a w hr h;simp[cI]at hc;subst hc;exact wpIn_ret ⟨σ,ds,hr,ck.refl w,h⟩
 |goto l=>
  intro sc hc ro hf n Q σ ds a w hr h;simp[cI]at hc;subst hc;exact wpIn_goto ⟨σ,ds,hr,ck.refl w,h⟩
 |refuse s=>
  intro sc hc ro hf n Q σ ds a w hr h;simp[cI]at hc;subst hc;exact(ahq h).elim
 |rangeFunc g ps ca cb=>
  have xo:=IH ca (by simp only[ak5]at hN;omega);have xp:=IH cb (by simp only[ak5]at hN;omega);intro sc hc ro hf n Q σ ds a w hr h;simp only[cI]at hc;split at hc
  .rename_i sa sb ha hb;split at hc
   .rename_i bD;obtain⟨fQ,hfa,qK⟩:=bD;simp at hc;subst hc;have pU:ro=none:=by rcases hf with hf|hf;exact hf;simp[flat]at hf
    subst pU;have acq:∀p∈ps.toList,p<nt:=λp hp=>amP (amV.1 fQ p hp);simp only[swp]at h;split at h
    .rename_i f fi cap hg;have hgv:=hr.knows _ _ hg;refine wpIn_rangeFunc λfn _=>?_;obtain⟨r,Da⟩:∃r:Loop,r={state:=.ready,pending:=none,fn,tmps:=a.tmps,params:=ps,assign:=ca,body:=cb,defers:=w.heap.size}:=⟨_,Y⟩
     obtain⟨w1,hG⟩:∃w1,w1=(w.alloc (.deferred (some []))).alloc (.loop r):=⟨_,Y⟩
     have sU:w1.heap=(w.heap.push (.deferred (some []))).push (.loop r):=by rw[hG];rfl
     have hL:jR w1.heap (w.heap.size+1) r .ready none:=⟨by
      rw[sU,Da,am7,ak4 Yy]⟩
     have Qc:=h (w.heap.size+1) w.heap.size r w1.heap Y Y (by rw[sU];simp) (λk hk=>by
       rw[sU,am7,akZ Ys,am7,akZ V]) (by
       rw[sU,am7,akZ Yy,am7,ak4 Y]) hL ?_
     .refine⟨w.heap.size+1,[{target:=.collected w.heap.size,args:= #[]}],w1,{target:=.fn (.func f) cap,args:=fi++ #[.func (.yield (w.heap.size+1)) #[] #[]]},w1,f,
       ⟨fi.toList++[.func (.yield (w.heap.size+1)) #[] #[]]++cap.toList⟩,w1,?_,?_,λ_ _=>trivial,?_,λhd=>by simp[FW,Fence.wide]at hd,?_⟩
      .have:=run_enterLoop_outer (P:=P) (w:=w) fn a.tmps ps ca cb;rw[hG,Da];exact this
      .have hc:a.eval (.const (.func (.yield (w.heap.size+1)) #[] #[]))=.func (.yield (w.heap.size+1)) #[] #[]:=rfl;simp[resolve,hgv,Deferred.ofValue,hc]
      .have e:fi++ #[Value.func (.yield (w.heap.size+1)) #[] #[]]++cap=⟨fi.toList++[.func (.yield (w.heap.size+1)) #[] #[]]++cap.toList⟩:=by apply amI;simp
       simp only[invoke];rw[e];exact GZ Qc.1 _ _
      .refine OC.2 ((Qc.2 w1 Y).mono ?_);rintro e w2 ⟨he,ax,h1,h2,h3⟩;have bS:ck w w2:=⟨h1.trans (by rw[hG];rfl),h2.trans (by rw[hG];rfl),h3.trans (by rw[hG];rfl)⟩
       cases e with
       |panicked ch=>exact he.elim
       |outgrown=>exact he.elim
       |returned v=>
        obtain⟨st,p,zx,abL,Cy⟩:=he;have xa:=run_endLoop (P:=P) (w:=w2) zx.at_ abL;have cJ:Rel σ nt ({target:=.collected w.heap.size,args:= #[]}::ds) {a with defers:=[{target:=.collected w.heap.size,args:= #[]}]++a.defers}:=
         ⟨hr.size,by simp[hr.defers],hr.knows⟩
        have hq:=Cy _ (Ej (r:=r) zx.at_ .exhausted p);refine⟨p,_,xa,?_⟩;cases p with
        |none=>exact⟨σ,_,cJ,bS,hq⟩
        |some c=>
         cases c with
         |ret=>exact wpIn_ret ⟨σ,_,cJ,bS,hq⟩
         |exit id=>exact wpIn_exit ⟨σ,_,cJ,bS,hq⟩
         |_=>exact hq.elim
     ·-- a round
      intro h2 args R tm hlen KH w2 zH;subst zH;have mZ:(⟨args⟩:Array Value).size=r.params.size:=by rw[Da];simpa using hlen
      have hy:=run_yield (P:=P) (w:=w2) (args:=⟨args⟩) tm.at_ mZ;refine⟨_,_,_,_,hy,?_⟩;have oW:Rel (sB σ ps.toList args) nt [] {tmps:=(ps.toList.zip args).foldl (λt(x:Nat×Value)=>t.setIfInBounds x.1 x.2) a.tmps,defers:=[]}:=by
       have:=Rel.Tq (nt:=nt) (ds:=[]) ps.toList args σ {a with defers:=[]} ⟨hr.size,Y,hr.knows⟩ acq hlen;exact this
      have KL:(r.params.zip (⟨args⟩:Array Value)).foldl (λtmps(x:Tmp×Value)=>tmps.setIfInBounds x.1 x.2) r.tmps=(ps.toList.zip args).foldl (λt(x:Nat×Value)=>t.setIfInBounds x.1 x.2) a.tmps:=by
       rw[Da,<-Array.foldl_toList,Array.toList_zip]
      refine roundIn_of_wpIn (F:=Fence.wide) trivial ?_;have key:ca.wpIn (FW (some (w.heap.size+1))) 0 P (Exit.then (λa₁ w₁=>∃w₂,(Instr.beginRound (w.heap.size+1)).run P w₁=.ok () w₂∧
        cb.wpIn (FW (some (w.heap.size+1))) 0 P (roundPost P (w.heap.size+1) λe w'=>R e w'.heap∧e≠.outgrown∧w'.os=w2.os∧w'.output=w2.output∧w'.tape=w2.tape) a₁ w₂) (λ_ _ _=>False))
        {tmps:=(ps.toList.zip args).foldl (λt(x:Nat×Value)=>t.setIfInBounds x.1 x.2) a.tmps,defers:=[]} w2:=by
       refine wpIn_mono (xo sa ha (some (w.heap.size+1)) (.inr hfa) 0 _ _ [] _ w2 oW KH) ?_;rintro e a3 w3 ⟨σ3,YH,pT,rP,hq⟩;cases e with
       |normal=>
        obtain⟨oP,abK⟩:=hq;have hbr:=run_beginRound (P:=P) (w:=w3) oP.at_ Y;have acM:=Ej (r:=r) oP.at_ .busy none;have acJ:=abK _ acM;refine⟨_,hbr,wpIn_mono (xp sb hb (some (w.heap.size+1)) (.inr qK) 0 _ σ3 YH a3 _ pT acJ) ?_⟩;rintro e a5 w5 ⟨σ5,ds5,C9,cK,hq⟩;have JI:ck w2 w5:=rP.trans (ck.trans ⟨Y,Y,Y⟩ cK);cases e with
        |normal=>
         obtain⟨oQ,hR⟩:=hq;have xa:=run_endRound (P:=P) (w:=w5) none oQ.at_;exact⟨_,_,xa,hR _ (Ej (r:=r) oQ.at_ .ready none),Yy,JI⟩
        |ret=>
         obtain⟨oQ,hR⟩:=hq;have xa:=run_endRound (P:=P) (w:=w5) (some .ret) oQ.at_;exact⟨_,_,xa,hR _ (Ej (r:=r) oQ.at_ .done (some .ret)),Yy,JI⟩
        |exit id=>
         obtain⟨oQ,hR⟩:=hq;have xa:=run_endRound (P:=P) (w:=w5) (some (.exit id)) oQ.at_;exact⟨_,_,xa,hR _ (Ej (r:=r) oQ.at_ .done (some (.exit id))),Yy,JI⟩
        |goto l=>exact hq.elim
        |panic ch=>exact hq.elim
        |outgrown=>exact hq.elim
       |_=>exact hq.elim
      rw[Da]at KL⊢;simp only at KL⊢;rw[KL];exact key
    .exact h.elim
   .simp at hc
  .simp at hc
def alU(hm:P.follows .mixedOrders=true)(c:Code)(sc:akX)(hc:cI fl P nt c=some sc)(ro:Option Nat)(hf:ro=none∨flat sc=true)(n:Nat)(Q:de)(σ:Env)(ds:List Deferred)(a:Act)(w:World)(hr:Rel σ nt ds a)(h:swp P sc Q σ ds w.heap):c.wpIn (FW ro) n P (jQ nt w Q) a w:=
 XY hm (ak5 c) c (ali _) sc hc ro hf n Q σ ds a w hr h
end Go.Sx
namespace Go.Sx
open Go
variable{R:Ending->FrameMode->af->Prop}{args:List Value}{cs:List Frame}{h:af}{rs:List gj}{sc:akX}
variable {P:Program}{σ:Env}{nt:Nat}{ds:List Deferred}{fl:Bool}
def kU(σ:Env)(h:af):List gj->(List Value->Prop)->Prop
 |[],K=>K []
 |.t n::r,K=>match σ n with
  |some v=>kU σ h r λvs=>K (v::vs)
  |none=>False
 |.c1 a::r,K=>match σ a with
  |some (.pointer (some ⟨b,o,none⟩))=>∃v,cell h b o=some v∧kU σ h r λvs=>K (v::vs)
  |_=>False
 |.cn a n::r,K=>match σ a with
  |some (.pointer (some ⟨b,o,none⟩))=>∃vs,vs.length=n∧fF h b o vs∧kU σ h r λus=>K (.agg ⟨vs⟩::us)
  |_=>False
def j7:List Value->Value
 |[v]=>v
 |vs=>.tuple ⟨vs⟩
def vj(rs:List gj)(R:Ending->af->Prop)(σ:Env):List Deferred->FrameMode->af->Prop
 |[],.returning,h=>kU σ h rs λvs=>R (.returned (j7 vs)) h
 |[],.panicking ch,h=>R (.panicked ch) h
 |[],.run,_=>False
 |d::ds,u,h=>match d.target with
  |.collected D=>h[D]? =some (.deferred (some []))∧∀h',kG h h' D (.deferred none)->vj rs R σ ds u h'
  |_=>False
def cC(rs:List gj)(R:Ending->af->Prop):de
 |.normal,σ,ds,h|.ret,σ,ds,h=>vj rs R σ ds .returning h
 |.panic ch,σ,ds,h=>vj rs R σ ds (.panicking ch) h
 |_,_,_,_=>False
def nQ:Nat->List Value->Env
 |_,[]=>λ_=>none
 |n,v::vs=>upd (nQ (n+1) vs) (some n) v
def xP(tmps:Array Value):ResultVar->Sem Value
 |.tmp t=>pure (tmps.getD t undef)
 |.cell a t=>do loadVar t (<-asAddr (tmps.getD a undef))
def afd(fn:Func)(tmps:Array Value):results fn tmps=(do let vs<-fn.results.mapM (xP tmps);pure (if h:vs.size=1 then vs[0]else .tuple vs)):=by
 have e:(λx=>match x with
  |ResultVar.tmp t=>(pure (tmps.getD t undef):Sem Value)
  |ResultVar.cell a t=>do loadVar t (<-asAddr (tmps.getD a undef)))=xP tmps:=by
  funext x;cases x<;>rfl
 unfold results;rw[<-e];rfl
def UC(a:Addr)(w:World):(asAddr (.pointer (some a))).run P w=.ok a w:=rfl
def Hd{ro:Unit}:∀(rv:List ResultVar)(rs:List gj)(K:List Value->Prop)(a:Act)(w:World),kH P rv=some rs->Rel σ nt ds a->kU σ w.heap rs K->
  ∃vs,(rv.mapM (xP a.tmps)).run P w=.ok vs w∧vs.length=rv.length∧K vs
 |[],rs,K,a,w,hc,hr,h=>by
  simp[kH]at hc;subst hc;exact⟨[],Yy,Y,h⟩
 |.tmp n::rv,rs,K,a,w,hc,hr,h=>by
  simp only[kH,alN]at hc;obtain⟨r,zE,rfl⟩:=hc;simp only[kU]at h;split at h
  .rename_i v hv;obtain⟨vs,h1,h2,h3⟩:=Hd (ro:=ro) rv r _ a w zE hr h;have hk:=hr.knows (.tmp n) v hv;simp only[Act.eval]at hk;refine⟨v::vs,?_,by simp[h2],h3⟩;simp only[aot,xP,Sem.run_bind,Sem.run_pure,Result.andThen_ok,h1,hk]
  .exact h.elim
 |.cell x t::rv,rs,K,a,w,hc,hr,h=>by
  simp only[kH]at hc;split at hc
  .rename_i n l hg hs hl;simp at hc;subst hc;simp only[kU]at h;split at h
   .rename_i b o hx;obtain⟨us,hn,aI,h⟩:=h;obtain⟨vs,h1,h2,h3⟩:=Hd (ro:=ro) rv l _ a w hl hr h;have hk:=hr.knows (.tmp x) _ hx;simp only[Act.eval]at hk;have Kh:=UK (P:=P) hg hs hn w Y aI;have Ki:(loadVar t ⟨b,o,none⟩).run P w=.ok (.agg ⟨us⟩) w:=by simpa[Instr.loadAt,Instr.sureAddr]using Kh
    refine⟨.agg ⟨us⟩::vs,?_,by simp[h2],h3⟩;simp only[aot,xP,Sem.run_bind,Sem.run_pure,Result.andThen_ok,h1,hk,UC,Ki]
   .exact h.elim
  .rename_i n l hg hs hl;simp at hc;subst hc;simp only[kU]at h;split at h
   .rename_i b o hx;obtain⟨u,aI,h⟩:=h;obtain⟨vs,h1,h2,h3⟩:=Hd (ro:=ro) rv l _ a w hl hr h;have hk:=hr.knows (.tmp x) _ hx;simp only[Act.eval]at hk;have Kh:=UJ (P:=P) hg w Y aI;have Ki:(loadVar t ⟨b,o,none⟩).run P w=.ok u w:=by simpa[Instr.loadAt,Instr.sureAddr]using Kh
    refine⟨u::vs,?_,by simp[h2],h3⟩;simp only[aot,xP,Sem.run_bind,Sem.run_pure,Result.andThen_ok,h1,hk,UC,Ki]
   .exact h.elim
  .simp at hc
def Ho{fn:Func}{K:List Value->Prop}{a:Act}{w:World}(hc:kH P fn.results.toList=some rs)(hr:Rel σ nt ds a)(h:kU σ w.heap rs K):∃vs,(results fn a.tmps).run P w=.ok (j7 vs) w∧K vs:=by
 obtain⟨vs,h1,h2,h3⟩:=Hd (P:=P) (ro:=()) fn.results.toList rs K a w hc hr h;refine⟨vs,?_,h3⟩;have e:=aoE (m:=Sem) (f:=xP a.tmps) (xs:=fn.results);rw[afd,Sem.run_bind,e,Sem.run_map,h1];simp only[Result.andThen_ok,Sem.run_pure];cases vs with
 |nil=>rfl
 |cons v vs=>cases vs<;>rfl
def GH{fn:Func}{rs:List gj}{R:Ending->af->Prop}{w0:World}(hc:kH P fn.results.toList=some rs){n:Nat}:∀(ds eX:List Deferred)(u:FrameMode)(a:Act)(w:World),Rel σ nt eX a->ck w0 w->
  vj rs R σ ds u w.heap->LeavesInM Fence.wide n P fn a.tmps (λe w'=>R e w'.heap∧e≠.outgrown∧w'.os=w0.os∧w'.output=w0.output∧w'.tape=w0.tape) ds u w
 |[],eX,.returning,a,w,hr,hb,h=>by
  obtain⟨vs,h1,h2⟩:=Ho hc hr h;exact⟨_,h1,h2,Yy,hb⟩
 |[],eX,.panicking ch,a,w,hr,hb,h=>⟨h,Yy,hb⟩
 |[],eX,.run,a,w,hr,hb,h=>h.elim
 |d::ds,eX,u,a,w,hr,hb,h=>by
  simp only[vj]at h;split at h
  .rename_i D hd;obtain⟨h1,h2⟩:=h;have ht:=run_takeDeferred (P:=P) (w:=w) h1;have:=GH (n:=n) hc ds eX u a (w.putObj D (.deferred none)) hr (hb.trans ⟨Y,Y,Y⟩) (h2 _ (xM h1));have hu:u≠.run:=by
    rintro rfl;clear ht h2 h1;induction ds generalizing w with
    |nil=>simp[LeavesInM,LeavesIn]at this
    |cons d ds ih=>exact absurd Y this.1
   exact⟨hu,.inl ⟨D,_,hd,ht,this⟩⟩
  .exact h.elim
def Iq:∀(args:List Value)(n t:Nat)(v:Value),nQ n args t=some v->n<=t∧args[t-n]? =some v
 |[],n,t,v,h=>by simp[nQ]at h
 |x::args,n,t,v,h=>by
  by_cases ht:t=n
  .subst ht;simp[nQ,upd]at h;simp[h]
  .have:nQ (n+1) args t=some v:=by
    rw[<-h];exact(iM (by intro e;exact ht (by simpa using e.symm))).symm
   obtain⟨h1,h2⟩:=Iq args (n+1) t v this;refine⟨V,?_⟩;have e:t-n=(t-(n+1))+1:=V
   rw[e,alQ];exact h2
def Ua(nt:Nat)(args:List Value)(ha:args.length<=nt):Rel (nQ 0 args) nt [] {tmps:=(⟨args⟩:Array Value)++Array.replicate (nt-(⟨args⟩:Array Value).size) undef,defers:=[]}:=by
 refine⟨by simp;omega,Y,λx v hx=>?_⟩;cases x with
 |tmp t=>
  obtain⟨_,h2⟩:=Iq args 0 t v hx;have ah:=(ak7.1 h2).1;simp at h2 ah;rw[akU ah]at h2;simp at h2;simp[Act.eval,aoh,ah,h2]
 |const c=>simpa[ev,Act.eval]using hx
 |global g=>simpa[ev,Act.eval]using hx
 |func f=>simpa[ev,Act.eval]using hx
def OD(hm:P.follows .mixedOrders=true){f:Nat}{fn:Func}{c:Code}{R:Ending->af->Prop}(hf:P.funcs[f]? =some fn)(hb:fn.body=some c)(aN:om P f=true)(hc:comp P fn.ntmps c=some sc)(df:kH P fn.results.toList=some rs)(ha:args.length<=fn.ntmps)(hs:swp P sc (cC rs R) (nQ 0 args) [] h):aj P f args h R:=by
 refine⟨aN,λw hw=>?_⟩;subst hw;refine(callsIn_wide (n:=0)).1 (callsIn_of_wp_marks hf hb trivial ?_);have oW:Rel (nQ 0 args) fn.ntmps [] {tmps:=(⟨args⟩:Array Value)++Array.replicate (fn.ntmps-(⟨args⟩:Array Value).size) undef,defers:=[]}:=by
  refine⟨by simp;omega,Y,λx v hx=>?_⟩;cases x with
  |tmp t=>
   obtain⟨_,h2⟩:=Iq args 0 t v hx;have ah:=(ak7.1 h2).1;simp at h2 ah;rw[akU ah]at h2;simp at h2;simp[Act.eval,aoh,ah,h2]
  |const c=>simpa[ev,Act.eval]using hx
  |global g=>simpa[ev,Act.eval]using hx
  |func f=>simpa[ev,Act.eval]using hx
 refine wpIn_mono (alU hm c sc hc none (.inl Y) 0 _ _ [] _ w oW hs) ?_;rintro e a1 w1 ⟨σ1,dh,cH,bS,hq⟩;cases e with
 |normal=>
  have:=GH (n:=0) (w0:=w) df dh dh .returning a1 w1 cH bS hq;rw[<-cH.defers]at this;exact this
 |ret=>
  have:=GH (n:=0) (w0:=w) df dh dh .returning a1 w1 cH bS hq;rw[<-cH.defers]at this;exact this
 |panic ch=>
  have:=GH (n:=0) (w0:=w) df dh dh (.panicking ch) a1 w1 cH bS hq;rw[<-cH.defers]at this;exact this
 |exit id=>exact hq.elim
 |goto l=>exact hq.elim
 |outgrown=>exact hq.elim
def yp(P:Program)(f nt:Nat)(sc:akX)(rs:List gj):Prop:=
 ∀{args:List Value}{h:af}{R:Ending->af->Prop},args.length<=nt->swp P sc (cC rs R) (nQ 0 args) [] h->aj P f args h R
def Vc(hm:P.follows .mixedOrders=true){f:Nat}{fn:Func}{c:Code}(hf:P.funcs[f]? =some fn)(hb:fn.body=some c)(aN:om P f=true)(hc:comp P fn.ntmps c=some sc)(df:kH P fn.results.toList=some rs):yp P f fn.ntmps sc rs:=
 λha hs=>OD hm hf hb aN hc df ha hs
def rD(P:Program)(f:Nat)(args:List Value)(u:FrameMode)(h:af)(R:Ending->FrameMode->af->Prop):Prop:=
 om P f=true∧∀w:World,w.heap=h->CallsDIn Fence.wide 0 P f ⟨args⟩ u w λe u' w'=>R e u' w'.heap∧e≠.outgrown∧w'.os=w.os∧w'.output=w.output∧w'.tape=w.tape
def rD.mono{f:Nat}{args:List Value}{u:FrameMode}{h:af}{R R':Ending->FrameMode->af->Prop}(hd:rD P f args u h R)(hr:∀e u' h',R e u' h'->R' e u' h'):rD P f args u h R':=
 ⟨hd.1,λw hw=>(hd.2 w hw).mono λ_ _ _ ⟨a,b⟩=>⟨hr _ _ _ a,b⟩⟩
def xw(P:Program)(rs:List gj)(R:Ending->af->Prop)(σ:Env):List Deferred->FrameMode->af->Prop
 |[],.returning,h=>kU σ h rs λvs=>R (.returned (j7 vs)) h
 |[],.panicking ch,h=>R (.panicked ch) h
 |[],.run,_=>False
 |d::ds,u,h=>u≠.run∧match d.target with
  |.collected D=>h[D]? =some (.deferred (some []))∧∀h',kG h h' D (.deferred none)->xw P rs R σ ds u h'
  |.fn (.func f) cap=>rD P f (d.args.toList++cap.toList) u h λe u' h'=>match e with
   |.returned _=>xw P rs R σ ds (settle u') h'
   |.panicked ch=>xw P rs R σ ds (raised u' ch) h'
   |.outgrown=>False
  |_=>False
def Uf(P:Program)(rs:List gj)(R:Ending->af->Prop):de
 |.normal,σ,ds,h|.ret,σ,ds,h=>xw P rs R σ ds .returning h
 |.panic ch,σ,ds,h=>xw P rs R σ ds (.panicking ch) h
 |_,_,_,_=>False
def zU{fn:Func}{rs:List gj}{R:Ending->af->Prop}{w0:World}(hc:kH P fn.results.toList=some rs):∀(ds eX:List Deferred)(u:FrameMode)(a:Act)(w:World),Rel σ nt eX a->ck w0 w->
  xw P rs R σ ds u w.heap->LeavesInM Fence.wide 0 P fn a.tmps (λe w'=>R e w'.heap∧e≠.outgrown∧w'.os=w0.os∧w'.output=w0.output∧w'.tape=w0.tape) ds u w
 |[],eX,.returning,a,w,hr,hb,h=>by
  obtain⟨vs,h1,h2⟩:=Ho hc hr h;exact⟨_,h1,h2,Yy,hb⟩
 |[],eX,.panicking ch,a,w,hr,hb,h=>⟨h,Yy,hb⟩
 |[],eX,.run,a,w,hr,hb,h=>h.elim
 |d::ds,eX,u,a,w,hr,hb,h=>by
  simp only[xw]at h;obtain⟨hu,h⟩:=h;split at h
  .rename_i D hd;obtain⟨h1,h2⟩:=h;have ht:=run_takeDeferred (P:=P) (w:=w) h1;have:=zU hc ds eX u a (w.putObj D (.deferred none)) hr (hb.trans ⟨Y,Y,Y⟩) (h2 _ (xM h1));exact⟨hu,.inl ⟨D,_,hd,ht,this⟩⟩
  .rename_i f cap hd;refine⟨hu,.inr ⟨λh=>by simp[Fence.wide]at h,.func f,cap,f,⟨d.args.toList++cap.toList⟩,hd,?_,λ_ _=>trivial,(h.2 w Y).mono ?_⟩⟩
   .have fe:d.args++cap=⟨d.args.toList++cap.toList⟩:=by apply amI;simp
    rw[hd];show(callFunc f (d.args++cap)).run P w=_;rw[fe];exact GZ h.1 _ w
   .rintro e u' w' ⟨he,ax,h3⟩;cases e with
    |returned v=>exact zU hc ds eX _ a w' hr (hb.trans h3) he
    |panicked ch=>exact zU hc ds eX _ a w' hr (hb.trans h3) he
    |outgrown=>exact absurd Y ax
  .exact h.elim
def XC(hm:P.follows .mixedOrders=true){f:Nat}{fn:Func}{c:Code}{R:Ending->af->Prop}(hf:P.funcs[f]? =some fn)(hb:fn.body=some c)(aN:om P f=true)(hc:cI fl P fn.ntmps c=some sc)(df:kH P fn.results.toList=some rs)(ha:args.length<=fn.ntmps)(hs:swp P sc (Uf P rs R) (nQ 0 args) [] h):aj P f args h R:=by
 refine⟨aN,λw hw=>?_⟩;subst hw;refine(callsIn_wide (n:=0)).1 (callsIn_of_wp_marks hf hb trivial ?_);have oW:=Ua fn.ntmps args ha;refine wpIn_mono (alU hm c sc hc none (.inl Y) 0 _ _ [] _ w oW hs) ?_;rintro e a1 w1 ⟨σ1,dh,cH,bS,hq⟩;cases e with
 |normal=>
  have:=zU (w0:=w) df dh dh .returning a1 w1 cH bS hq;rw[<-cH.defers]at this;exact this
 |ret=>
  have:=zU (w0:=w) df dh dh .returning a1 w1 cH bS hq;rw[<-cH.defers]at this;exact this
 |panic ch=>
  have:=zU (w0:=w) df dh dh (.panicking ch) a1 w1 cH bS hq;rw[<-cH.defers]at this;exact this
 |exit id=>exact hq.elim
 |goto l=>exact hq.elim
 |outgrown=>exact hq.elim
def EH(P:Program)(f nt:Nat)(sc:akX)(rs:List gj):Prop:=
 ∀{args:List Value}{h:af}{R:Ending->af->Prop},args.length<=nt->swp P sc (Uf P rs R) (nQ 0 args) [] h->aj P f args h R
def MM(hm:P.follows .mixedOrders=true){f:Nat}{fn:Func}{c:Code}(hf:P.funcs[f]? =some fn)(hb:fn.body=some c)(aN:om P f=true)(hc:cI fl P fn.ntmps c=some sc)(df:kH P fn.results.toList=some rs):EH P f fn.ntmps sc rs:=
 λha hs=>XC hm hf hb aN hc df ha hs
def Hb:FrameMode->Value
 |.panicking ({v,recovered:=false,goexit:=false}::_)=>v
 |_=>.nilIface
def xO:FrameMode->FrameMode
 |.panicking ({v,recovered:=false,goexit:=false}::Aq)=>.panicking ({v,recovered:=true}::Aq)
 |u=>u
def xZ(P:Program):akX->(FrameMode->de)->FrameMode->Env->List Deferred->af->Prop
 |.rcv d,Q,u,σ,ds,h=>Q (xO u) .normal (upd σ d (Hb u)) ds h
 |.seq a b,Q,u,σ,ds,h=>xZ P a (λu' e σ' eX h'=>match e with
  |.normal=>xZ P b Q u' σ' eX h'
  |e=>Q u' e σ' eX h') u σ ds h
 |c,Q,u,σ,ds,h=>swp P c (Q u) σ ds h
def Mk(rs:List gj)(u:FrameMode)(R:Ending->FrameMode->af->Prop):de
 |.normal,σ,ds,h|.ret,σ,ds,h=>ds=[]∧kU σ h rs λvs=>R (.returned (j7 vs)) u h
 |.panic ch,_,ds,h=>ds=[]∧R (.panicked ch) u h
 |_,_,_,_=>False
def Ng{F:Fence}{n:Nat}{Q Q':Exit->Act->List Frame->World->Prop}{c:Code}{a:Act}{w:World}(h:c.wpSIn F n P Q a cs w)(hq:∀e a' mQ w',Q e a' mQ w'->Q' e a' mQ w'):c.wpSIn F n P Q' a cs w:=
 λb k hb hr hF jG=>let⟨e,a',mQ,w',l,q,r⟩:=h b k hb hr hF jG;⟨e,a',mQ,w',l,hq _ _ _ _ q,r⟩
def X'{ops:Array Oper}{s:akX}(h:wm nt ops=some s):∃o c,ops= #[o]∧o.op=.call c∧o.guard=none∧c.callee=.builtin .recover∧c.args= #[]∧(∀d,o.dst=some d->d<nt)∧s=.rcv o.dst:=by
 unfold wm at h;split at h
 .rename_i o ho;split at h
  .rename_i c bz hg;split at h
   .rename_i Cr wF;split at h
    .rename_i hd;simp at h;refine⟨o,c,by apply amI;simpa using ho,bz,hg,Cr,by apply amI;simpa using wF,λd Cv=>?_,h.symm⟩;rw[Cv]at hd;exact amP hd
    .simp at h
   .simp at h
  .simp at h
 .simp at h
def ae7(c₀:Frame)(cs:List Frame):(recoverD (c₀::cs)=some (Hb c₀.mode,{c₀ with mode:=xO c₀.mode}::cs))∨(recoverD (c₀::cs)=none∧Hb c₀.mode=.nilIface∧({c₀ with mode:=xO c₀.mode}:Frame)=c₀):=by
 simp only[recoverD];split
 .rename_i v Aq hm;left;rw[hm];rfl
 .rename_i hm;right;refine⟨Y,?_,?_⟩
  .unfold Hb;split
   .rename_i v Aq wS;exact absurd wS (hm v Aq)
   .rfl
  .have:xO c₀.mode=c₀.mode:=by
    unfold xO;split
    .rename_i v Aq wS;exact absurd wS (hm v Aq)
    .rfl
   rw[this]
def ahr(hm:P.follows .mixedOrders=true)(cs:List Frame):∀(c:Code)(sc:akX),cI fl P nt c=some sc->
  ∀(c₀:Frame)(Q:FrameMode->de)(σ:Env)(ds:List Deferred)(a:Act)(w:World),Rel σ nt ds a->xZ P sc Q c₀.mode σ ds w.heap->
  c.wpSIn (FW none) 0 P (λe a' mQ w'=>∃u',mQ={c₀ with mode:=u'}::cs∧jQ nt w (Q u') e a' w') a (c₀::cs) w:=by
 intro c;have plain:∀(sc:akX),cI fl P nt c=some sc->∀(c₀:Frame)(Q:FrameMode->de)(σ:Env)(ds:List Deferred)(a:Act)(w:World),Rel σ nt ds a->swp P sc (Q c₀.mode) σ ds w.heap->
   c.wpSIn (FW none) 0 P (λe a' mQ w'=>∃u',mQ={c₀ with mode:=u'}::cs∧jQ nt w (Q u') e a' w') a (c₀::cs) w:=λsc hc c₀ Q σ ds a w hr h=>
  wpSIn_of_wpIn Y (wpIn_mono (alU hm c sc hc none (.inl Y) 0 (Q c₀.mode) σ ds a w hr h) λe a2 w2 hl=>⟨c₀.mode,Y,hl⟩)
 induction c with
 |region id ops draw=>
  intro sc hc c₀ Q σ ds a w hr h;have hc0:=hc;simp only[cI]at hc;rcases I4 hc with⟨l,rfl,hl⟩|⟨rfl,x,rfl,hl⟩|⟨rfl,hl⟩|⟨rfl,hl⟩|⟨rfl,hl⟩
  .exact plain _ hc0 c₀ Q σ ds a w hr h
  .exact plain _ hc0 c₀ Q σ ds a w hr h
  .unfold wo at hl;split at hl
   .simp at hl
   .simp only[alN]at hl;obtain⟨x,_,rfl⟩:=hl;exact plain _ hc0 c₀ Q σ ds a w hr h
  .obtain⟨o,c,x,l,_,_,_,_,_,_,rfl⟩:=Fj hl;exact plain _ hc0 c₀ Q σ ds a w hr h
  .obtain⟨o,c,rfl,bz,hg,Cr,wF,wJ,rfl⟩:=X' hl;refine wpSIn_region ?_;have acb:List.range (#[o]:Array Oper).size=[0]:=rfl;rw[acb];simp only[wpOpsSIn];have ho:(#[o]:Array Oper)[0]? =some o:=rfl;simp only[ho];refine⟨λ_ _=>trivial,?_⟩;have hw:Region.wanted o (yielded #[o] a.tmps)=true:=by simp[Region.wanted,hg]
   have kL:(execOp a.eval o).run P w=.ok .recover w:=by
    simp[execOp,bz,resolve,Cr,wF,invoke,builtin]
   simp only[hw,anB,kL];simp only[xZ]at h;rcases ae7 c₀ cs with Dc|⟨Dc,hv,ie⟩
   .simp only[Dc];exact⟨xO c₀.mode,Y,_,ds,hr.put wJ _,ck.refl w,h⟩
   .simp only[Dc];rw[hv]at h;exact⟨xO c₀.mode,by rw[ie],_,ds,hr.put wJ _,ck.refl w,h⟩
 |seq x y ihx nq=>
  intro sc hc c₀ Q σ ds a w hr h;simp only[cI]at hc;split at hc
  .rename_i sx sy hx hy;simp at hc;subst hc;simp only[xZ]at h;refine wpSIn_seq (Ng (ihx (λsc hc c₀ Q σ ds a w hr h=>wpSIn_of_wpIn Y (wpIn_mono (alU hm x sc hc none (.inl Y) 0 (Q c₀.mode) σ ds a w hr h) λe a2 w2 hl=>⟨c₀.mode,Y,hl⟩)) sx hx c₀ _ σ ds a w hr h) ?_);rintro e a1 cs1 w1 ⟨u',rfl,σ1,dh,cH,bS,hq⟩;cases e with
   |normal=>
    refine Ng (nq (λsc hc c₀ Q σ ds a w hr h=>wpSIn_of_wpIn Y (wpIn_mono (alU hm y sc hc none (.inl Y) 0 (Q c₀.mode) σ ds a w hr h) λe a2 w2 hl=>⟨c₀.mode,Y,hl⟩)) sy hy {c₀ with mode:=u'} Q σ1 dh a1 w1 cH hq) ?_;rintro e a2 Ya w2 ⟨u2,rfl,hl⟩;exact⟨u2,Y,jQ.trans bS hl⟩
   |exit id=>exact⟨u',Y,σ1,dh,cH,bS,hq⟩
   |goto l=>exact⟨u',Y,σ1,dh,cH,bS,hq⟩
   |ret=>exact⟨u',Y,σ1,dh,cH,bS,hq⟩
   |panic ch=>exact⟨u',Y,σ1,dh,cH,bS,hq⟩
   |outgrown=>exact⟨u',Y,σ1,dh,cH,bS,hq⟩
  .simp at hc
 |skip=>intro sc hc;have hc0:=hc;simp[cI]at hc;subst hc;exactλc₀ Q σ ds a w hr h=>plain _ hc0 c₀ Q σ ds a w hr h
 |label l=>intro sc hc;have hc0:=hc;simp[cI]at hc;subst hc;exactλc₀ Q σ ds a w hr h=>plain _ hc0 c₀ Q σ ds a w hr h
 |exit l=>intro sc hc;have hc0:=hc;simp[cI]at hc;subst hc;exactλc₀ Q σ ds a w hr h=>plain _ hc0 c₀ Q σ ds a w hr h
 |ret=>intro sc hc;have hc0:=hc;simp[cI]at hc;subst hc;exactλc₀ Q σ ds a w hr h=>plain _ hc0 c₀ Q σ ds a w hr h
 |goto l=>intro sc hc;have hc0:=hc;simp[cI]at hc;subst hc;exactλc₀ Q σ ds a w hr h=>plain _ hc0 c₀ Q σ ds a w hr h
 |refuse l=>intro sc hc;have hc0:=hc;simp[cI]at hc;subst hc;exactλc₀ Q σ ds a w hr h=>plain _ hc0 c₀ Q σ ds a w hr h
 |cond o x y ihx nq=>
  intro sc hc;have hc0:=hc;simp only[cI]at hc;split at hc
  .simp at hc;subst hc;exactλc₀ Q σ ds a w hr h=>plain _ hc0 c₀ Q σ ds a w hr h
  .simp at hc
 |block id c ih=>intro sc hc;have hc0:=hc;simp only[cI,alN]at hc;obtain⟨_,_,rfl⟩:=hc;exactλc₀ Q σ ds a w hr h=>plain _ hc0 c₀ Q σ ds a w hr h
 |loop c ih=>intro sc hc;have hc0:=hc;simp only[cI,alN]at hc;obtain⟨_,_,rfl⟩:=hc;exactλc₀ Q σ ds a w hr h=>plain _ hc0 c₀ Q σ ds a w hr h
 |scope c ih=>
  intro sc hc;have hc0:=hc;simp only[cI]at hc;split at hc
  .split at hc
   .simp at hc;subst hc;exactλc₀ Q σ ds a w hr h=>plain _ hc0 c₀ Q σ ds a w hr h
   .split at hc
    .simp at hc;subst hc;exactλc₀ Q σ ds a w hr h=>plain _ hc0 c₀ Q σ ds a w hr h
    .simp at hc
  .simp at hc
 |rangeFunc g ps x y ihx nq=>
  intro sc hc;have hc0:=hc;simp only[cI]at hc;split at hc
  .split at hc
   .simp at hc;subst hc;exactλc₀ Q σ ds a w hr h=>plain _ hc0 c₀ Q σ ds a w hr h
   .simp at hc
  .simp at hc
def afe{fn:Func}{u':FrameMode}{c₀:Frame}{w:World}(df:kH P fn.results.toList=some rs){e:Exit}{a:Act}{mQ:List Frame}{w':World}(aI:mQ={c₀ with mode:=u'}::cs)(h:jQ nt w (Mk rs u' R) e a w'):bodyPostS P fn c₀ cs (λe u' w'=>R e u' w'.heap∧e≠.outgrown∧w'.os=w.os∧w'.output=w.output∧w'.tape=w.tape) e a mQ w':=by
 obtain⟨σ1,dh,cH,bS,hq⟩:=h;cases e with
 |normal=>
  obtain⟨rfl,hq⟩:=hq;obtain⟨vs,h1,h2⟩:=Ho df cH hq;exact⟨cH.defers,u',aI,_,h1,h2,Yy,bS⟩
 |ret=>
  obtain⟨rfl,hq⟩:=hq;obtain⟨vs,h1,h2⟩:=Ho df cH hq;exact⟨cH.defers,u',aI,_,h1,h2,Yy,bS⟩
 |panic ch=>
  obtain⟨rfl,hq⟩:=hq;exact⟨cH.defers,u',aI,hq,Yy,bS⟩
 |exit id=>exact hq.elim
 |goto l=>exact hq.elim
 |outgrown=>exact hq.elim
def Yf(hm:P.follows .mixedOrders=true){f:Nat}{fn:Func}{c:Code}{u:FrameMode}(hf:P.funcs[f]? =some fn)(hb:fn.body=some c)(aN:om P f=true)(hc:cI fl P fn.ntmps c=some sc)(df:kH P fn.results.toList=some rs)(ha:args.length<=fn.ntmps)(hs:xZ P sc (λu'=>Mk rs u' R) u (nQ 0 args) [] h):rD P f args u h R:=by
 refine⟨aN,λw hw=>?_⟩;subst hw;refine callsDIn_of_wpSIn hf hb trivial ?_;intro c₀ cs hu;subst hu;have oW:=Ua fn.ntmps args ha;refine Ng (ahr hm cs c sc hc c₀ _ _ [] _ w oW hs) ?_;rintro e a' mQ w' ⟨u',h1,h2⟩;exact afe df h1 h2
def Ij(P:Program)(f nt:Nat)(sc:akX)(rs:List gj):Prop:=
 ∀{args:List Value}{u:FrameMode}{h:af}{R:Ending->FrameMode->af->Prop},args.length<=nt->xZ P sc (λu'=>Mk rs u' R) u (nQ 0 args) [] h->rD P f args u h R
def Vb(hm:P.follows .mixedOrders=true){f:Nat}{fn:Func}{c:Code}(hf:P.funcs[f]? =some fn)(hb:fn.body=some c)(aN:om P f=true)(hc:cI fl P fn.ntmps c=some sc)(df:kH P fn.results.toList=some rs):Ij P f fn.ntmps sc rs:=
 λha hs=>Yf hm hf hb aN hc df ha hs
namespace S
abbrev o(d:Nat)(s:dx):aD:=⟨some d,none,s⟩
abbrev q(s:dx):aD:=⟨none,none,s⟩
abbrev g(d j:Nat)(s:dx):aD:=⟨some d,some (j,true),s⟩
abbrev n(d j:Nat)(s:dx):aD:=⟨some d,some (j,false),s⟩
abbrev t(x:Nat):Operand:=.tmp x
abbrev i(x:Int):Operand:=.const (.int .i64 x)
abbrev b(x:Bool):Operand:=.const (.bool x)
abbrev e:Operand:=.const (.string ⟨#[]⟩)
abbrev u(x:Nat):Operand:=.func x
end S
#print axioms OD
end Go.Sx
namespace Go.Sx
open Go
variable{P:Program}{Q:Value->af->Prop}{Qp:List PanicEntry->af->Prop}{T:List Nat}{es:List MapEntry}{h h':af}
def bA{c:akX}{Q:de}{σ:Env}{ds:List Deferred}{ι:Type}(E:ι->List (Nat×Value))(I:ι->af->Prop)(μ:ι->Nat)(i:ι)(h0:fN σ (E i))(hI:I i h)(hr:∀i h,I i h->swp P c (fc (λσ' eX h'=>eX=ds∧∃i',fN σ' (E i')∧I i' h'∧μ i'<μ i) Q) (mk (E i)) ds h):∃(ι:Type)(E:ι->List (Nat×Value))(I:ι->af->Prop)(μ:ι->Nat)(i:ι),fN σ (E i)∧I i h∧
   ∀i h,I i h->swp P c (fc (λσ' eX h'=>eX=ds∧∃i',fN σ' (E i')∧I i' h'∧μ i'<μ i) Q) (mk (E i)) ds h:=
 ⟨ι,E,I,μ,i,h0,hI,hr⟩
def ao(Q:Value->af->Prop):Ending->af->Prop
 |.returned v,h=>Q v h
 |_,_=>False
def akV{f:Nat}{vs:List Value}{K:Value->af->Prop}(hc:aj P f vs h (ao Q))(hk:∀v h',Q v h'->K v h'):aj P f vs h (after K Qp):=
 hc.mono λe h' he=>by cases e<;>first|exact hk _ _ he|exact he.elim
def iw{f:Nat}{vs:List Value}{K:Value->af->Prop}(hc:aj P f vs h (ao Q))(hk:∀v h',Q v h'->Ext h h'∧K v h'):aj P f vs h (λe h'=>Ext h h'∧after K Qp e h'):=
 hc.mono λe h' he=>by cases e<;>first|exact hk _ _ he|exact he.elim
def ao.mono{P:Program}{f:Nat}{vs:List Value}{h:af}{Q Q':Value->af->Prop}(hc:aj P f vs h (ao Q))(hk:∀v h',Q v h'->Q' v h'):aj P f vs h (ao Q'):=
 hc.mono λe h' he=>by cases e<;>first|exact hk _ _ he|exact he.elim
def cx{x:Int}(h0: -9223372036854775808<=x)(h1:x<9223372036854775808):IntKind.i64.wrap x=x:=by
 have e:IntKind.i64.wrap x=if x%18446744073709551616>=9223372036854775808 then x%18446744073709551616-18446744073709551616 else x%18446744073709551616:=by
  simp[IntKind.wrap,IntKind.bits,IntKind.signed]
 rw[e];split<;>omega
def cd{a b z:Int}(hz:z=arith .add .i64 a b)(h0: -9223372036854775808<=a+b)(h1:a+b<9223372036854775808):z=a+b:=by
 rw[hz];exact cx h0 h1
def mG{a b z:Int}(hz:z=arith .sub .i64 a b)(h0: -9223372036854775808<=a-b)(h1:a-b<9223372036854775808):z=a-b:=by
 rw[hz];exact cx h0 h1
def ag.refl(h:af):ag [] h h:=⟨ali _,λ_ _ _=>rfl⟩
def ag.trans{S U:List Nat}{a b c:af}(h1:ag S a b)(h2:ag T b c)(hS:∀k,k∈S->k∈U)(hT:∀k,k∈T->k<a.size->k∈U):ag U a c:=
 ⟨al6 h1.size h2.size,λk hk hn=>by
  rw[h2.old k (amX hk h1.size) (λht=>hn (hT k ht hk)),h1.old k hk (λhs=>hn (hS k hs))]⟩
def ag.nil{a b c:af}(h1:ag [] a b)(h2:ag [] b c):ag [] a c:=h1.trans h2 Yy Yy
def ag.ext{a b:af}(h:ag [] a b):Ext a b:=λk hk=>h.old k hk Yy
def ag.mono{S:List Nat}{a b:af}(h:ag S a b)(hs:∀k,k∈S->k∈T):ag T a b:=⟨h.size,λk hk hn=>h.old k hk λe=>hn (hs k e)⟩
def ag.fresh{S:List Nat}{a b c:af}(h1:ag [] a b)(h2:ag S b c)(hS:∀k,k∈S->a.size<=k):ag [] a c:=
 h1.trans h2 Yy λk hk ah=>absurd (hS k hk) V
def jr.ae{b:Nat}{l:List Value}(g:jr h h' b l):ag [] h h':=⟨by rw[g.size];omega,λk hk _=>g.old k hk⟩
def sD.ae{b:Nat}{o:Obj}(g:sD h h' b o):ag [] h h':=⟨by rw[g.size];omega,λk hk _=>g.old k hk⟩
def dL.ae{b:Nat}{l:List Value}(g:dL h h' b l):ag [b] h h':=⟨by rw[g.size];exact ali _,λk _ hn=>g.old k (by simpa using hn)⟩
def kG.ae{b:Nat}{o:Obj}(g:kG h h' b o):ag [b] h h':=⟨by rw[g.size];exact ali _,λk _ hn=>g.old k (by simpa using hn)⟩
def rG.ae{l:Nat}{r:Loop}{st:LoopState}{p:Option Code}(g:rG h h' l r st p):ag [l] h h':=⟨by rw[g.size];exact ali _,λk _ hn=>g.old k (by simpa using hn)⟩
def lA{b:Nat}{x:Obj}(hb:h[b]? =some x):b<h.size:=(al4.1 hb).1
def ai.lt{b:Nat}{l:List Value}(hb:ai h b l):b<h.size:=let⟨_,x⟩:=hb;lA x
def cN.lt{b c:Nat}(hb:cN h b es c):b<h.size:=lA hb
def oI{S:List Nat}{b:Nat}{x:Obj}(hb:h[b]? =some x)(hc:ag S h h')(hn:b∉S):h'[b]? =some x:=by
 rw[hc.old b (lA hb) hn,hb]
def ai.ae{S:List Nat}{b:Nat}{l:List Value}(hb:ai h b l)(hc:ag S h h')(hn:b∉S):ai h' b l:=let⟨e,x⟩:=hb;⟨e,oI x hc hn⟩
def cN.ae{S:List Nat}{b c:Nat}(hb:cN h b es c)(hc:ag S h h')(hn:b∉S):cN h' b es c:=oI hb hc hn
def an{b o:Nat}{l:List Value}{v:Value}(hb:ai h b l)(hv:l[o]? =some v):cell h b o=some v:=by
 obtain⟨e,x⟩:=hb;simp[cell,x,hv]
def akW{b:Nat}{l:List Value}(hb:ai h b l):fF h b 0 l:=λi v hv=>by rw[amJ];exact an hb hv
def BF{b o:Nat}{l vs:List Value}(hb:ai h b l)(hv:∀i v,vs[i]? =some v->l[o+i]? =some v):fF h b o vs:=λi v h1=>an hb (hv i v h1)
def wi{b o:Nat}{v:Value}(hc:cell h b o=some v):b<h.size:=by
 unfold cell at hc;cases hb:h[b]? with
 |none=>rw[hb]at hc;cases hc
 |some x=>exact lA hb
def sI{S:List Nat}{b o:Nat}{v:Value}(hc:cell h b o=some v)(hg:ag S h h')(hn:b∉S):cell h' b o=some v:=by
 have:=hg.old b (wi hc) hn;unfold cell at hc⊢;rw[this];exact hc
end Go.Sx
theorem Go.Az {α:Sort _} {k:α} {a b:Int} {C:Int→Prop} (h:C (a+b)) (h0:-9223372036854775808≤a+b:=by omega) (h1:a+b<9223372036854775808:=by omega):k=k∧∀z,z=Go.Sx.arith .add .i64 a b→C z:=⟨rfl,fun z e=>by
 have e:=Go.Sx.cd e h0 h1
 subst e;exact h⟩
