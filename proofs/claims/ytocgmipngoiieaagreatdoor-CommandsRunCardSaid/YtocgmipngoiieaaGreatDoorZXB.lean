/-
  Part 2 of the proof of CommandsRun.
-/
import Derived.OpenShut
import Derived.Carry
import Derived.SizedLaws
import Derived.WideKeyArgs
import Derived.Lib.LaidTab
import Derived.Lib.Bytealg
import Derived.Deep.DeepHandedRow
import Derived.Test.YtocgmipngoiieaaGreatDoorProg
import Derived.WalkKit
import Derived.Laws.Externs
import Derived.Lib.Overlaps
import Derived.Shelf.SlIter.Nil
import Derived.Shelf.SortM.Plain
import Derived.Shelf.SortM.SortNone
import Derived.Ground.GgzProg
import Derived.Ground.SlgmProg
import Derived.Test.YtocgmipngoiieaaGreatDoorZXA
set_option linter.defProp false
set_option linter.unusedVariables false
set_option linter.unusedSimpArgs false
namespace Go.Sx
open Go
variable{h h':af}
variable {α:Type}{enc:α->List Value}{size:Nat}
def kJ(aS:∀x,(enc x).length=size):∀l:List α,(l.flatMap enc).length=l.length*size
 |[]=>Yy
 |x::l=>by simp[kJ aS l,aS x,aoa,aoH]
def Jl(aS:∀x,(enc x).length=size):∀(l:List α)(i:Nat)(x:α),l[i]? =some x->∀(j:Nat)(v:Value),(enc x)[j]? =some v->(l.flatMap enc)[i*size+j]? =some v
 |[],i,x,h,_,_,_=>by simp at h
 |y::l,0,x,h,j,v,hj=>by
  simp at h;subst h;have ah:=(ak7.1 hj).1;simp only[am9,ao9,amJ];rw[amM ah];exact hj
 |y::l,i+1,x,h,j,v,hj=>by
  have ih:=Jl aS l i x (by simpa using h) j v hj;simp only[am9];rw[am1 (by rw[aS y,aoa];omega)];have e:(i+1)*size+j-(enc y).length=i*size+j:=by rw[aS y,aoa];omega
  rw[e];exact ih
def SL(enc:α->List Value)(h:af)(v:Value)(l:List α):Prop:=∃a c,v=.slice a l.length c∧l.length<=c∧Src h a l.length (l.flatMap enc)
def bG:Option Addr->List Nat
 |none=>[]
 |some a=>[a.block]
def aq:Value->List Nat
 |.slice a _ _=>bG a
 |_=>[]
def Src.ae{S:List Nat}{a:Option Addr}{n:Nat}{xs:List Value}(hs:Src h a n xs)(hc:ag S h h')(hn:∀b∈bG a,b∉S):Src h' a n xs:=by
 cases a with
 |none=>exact hs
 |some a=>
  obtain⟨b,o,sp⟩:=a;cases sp with
  |some s=>exact hs
  |none=>exactλi v hv=>sI (hs i v hv) hc (hn b (by simp[bG]))
def SL.ae{S:List Nat}{h h':af}{v:Value}{l:List α}(hs:SL enc h v l)(hc:ag S h h')(hn:∀b∈aq v,b∉S):SL enc h' v l:=by
 obtain⟨a,c,rfl,h1,h2⟩:=hs;exact⟨a,c,Y,h1,h2.ae hc hn⟩
def SL.ext{v:Value}{l:List α}(hs:SL enc h v l)(hc:ag [] h h'):SL enc h' v l:=hs.ae hc Yy
def SL.addr{a:Option Addr}{n c:Nat}{l:List α}(hs:SL enc h (.slice a n c) l)(iC:0<l.length):∃b o,a=some ⟨b,o,none⟩:=by
 obtain⟨a',c',he,_,h2⟩:=hs;cases he;cases a with
 |none=>have:l.length=0:=h2;omega
 |some a=>
  obtain⟨b,o,sp⟩:=a;cases sp with
  |some s=>have:l.length=0:=h2;omega
  |none=>exact⟨b,o,Y⟩
def SL.cells{b o n c:Nat}{l:List α}(aS:∀x,(enc x).length=size)(hs:SL enc h (.slice (some ⟨b,o,none⟩) n c) l){i:Nat}{x:α}(hi:l[i]? =some x):fF h b (o+i*size) (enc x):=by
 obtain⟨a',c',he,_,h2⟩:=hs;cases he;intro j v hj;have:=h2 (i*size+j) v (Jl aS l i x hi j v hj);rw[anL];exact this
def SL.len{a:Option Addr}{n c:Nat}{l:List α}(hs:SL enc h (.slice a n c) l):n=l.length∧l.length<=c:=by
 obtain⟨a',c',he,h1,_⟩:=hs;cases he;exact⟨Y,h1⟩
def SL.form{v:Value}{l:List α}(hs:SL enc h v l):∃a c,v=.slice a l.length c∧l.length<=c:=by
 obtain⟨a',c',he,h1,_⟩:=hs;exact⟨a',c',he,h1⟩
def SL.nil:SL enc h (.slice none 0 0) []:=⟨none,0,Y,ali _,Y⟩
def SL.cut{h:af}{b o o' n c:Nat}{l:List α}(aS:∀x,(enc x).length=size)(hs:SL enc h (.slice (some ⟨b,o,none⟩) n c) l){lo hi:Nat}(h0:lo<=hi)(h1:hi<=l.length)(nh:lo<c->o'=o+lo*size)(_:c=lo->o'=o):SL enc h (.slice (some ⟨b,o',none⟩) (hi-lo) (c-lo)) ((l.drop lo).take (hi-lo)):=by
 obtain⟨hn,hc⟩:=hs.len;have hlen:((l.drop lo).take (hi-lo)).length=hi-lo:=by simp;omega
 refine⟨some ⟨b,o',none⟩,c-lo,by rw[hlen],by rw[hlen];omega,?_⟩;obtain⟨a',c',he,_,h2⟩:=hs;cases he;by_cases ah:lo<c
 .rw[nh ah];intro j v hj
  -- the cells of a cut are cells of the whole
  have Kj:j<((l.drop lo).take (hi-lo)).length*size:=by rw[<-kJ aS];exact(ak7.1 hj).1
  have e1:l.flatMap enc=(l.take lo).flatMap enc++(((l.drop lo).take (hi-lo)).flatMap enc++((l.drop lo).drop (hi-lo)).flatMap enc):=by
   rw[<-anh,ama,<-anh,ama]
  have e2:((l.take lo).flatMap enc).length=lo*size:=by rw[kJ aS,alA,anZ V]
  have:(l.flatMap enc)[lo*size+j]? =some v:=by
   rw[e1,am1 V,e2];have:lo*size+j-lo*size=j:=V
   rw[this,amM (by rw[kJ aS];exact Kj)];exact hj
  have:=h2 _ _ this;rw[anL];exact this
 .have:hi-lo=0:=V
  rw[this];intro j v hj;simp at hj
def OL(enc:α->List Value)(size:Nat)(h:af)(v:Value)(l:List α):Prop:=
 ∃a c,v=.slice a l.length c∧match a with
  |none=>l=[]∧c=0
  |some ⟨b,o,none⟩=>o=0∧l.length<=c∧∃rest,ai h b (l.flatMap enc++rest)∧(l.flatMap enc++rest).length=c*size
  |_=>False
def OL.nil:OL enc size h (.slice none 0 0) []:=⟨none,0,Y,Y,Y⟩
def OL.sl{v:Value}{l:List α}(ho:OL enc size h v l):SL enc h v l:=by
 obtain⟨a,c,rfl,h1⟩:=ho;split at h1
 .obtain⟨rfl,rfl⟩:=h1;exact SL.nil
 .rename_i b o;obtain⟨rfl,h2,rest,hb,h3⟩:=h1;refine⟨_,c,Y,h2,λi v hv=>?_⟩;rw[amJ];refine an hb ?_;rw[amM (ak7.1 hv).1];exact hv
 .exact h1.elim
def OL.ae{S:List Nat}{h h':af}{v:Value}{l:List α}(ho:OL enc size h v l)(hc:ag S h h')(hn:∀b∈aq v,b∉S):OL enc size h' v l:=by
 obtain⟨a,c,rfl,h1⟩:=ho;refine⟨a,c,Y,?_⟩;split at h1
 .exact h1
 .rename_i b o;obtain⟨h0,h2,rest,hb,h3⟩:=h1;exact⟨h0,h2,rest,hb.ae hc (hn b (by simp[aq,bG])),h3⟩
 .exact h1.elim
def OL.ext{v:Value}{l:List α}(hs:OL enc size h v l)(hc:ag [] h h'):OL enc size h' v l:=hs.ae hc Yy
def OL.lt{h:af}{v:Value}{l:List α}(ho:OL enc size h v l):∀b∈aq v,b<h.size:=by
 obtain⟨a,c,rfl,h1⟩:=ho;split at h1
 .simp[aq,bG]
 .obtain⟨_,_,rest,hb,_⟩:=h1;simp[aq,bG];exact hb.lt
 .exact h1.elim
def HF:∀(xs l ys:List Value),ys.length<=l.length->splice (xs++l) xs.length ys=xs++(ys++l.drop ys.length)
 |[],l,[],_=>by simp[xY]
 |[],[],y::ys,h=>by simp at h
 |[],x::l,y::ys,h=>by
  have ih:=HF [] l ys (by simpa using h);simp at ih;simp[splice,ih]
 |x::xs,l,[],h=>by simp[xY]
 |x::xs,l,y::ys,h=>by
  have ih:=HF xs l (y::ys) h;simp only[amK,ak0,splice];rw[ih];simp
def dZ{bytes:Nat}{z:List Value}(aS:∀x,(enc x).length=size)(h1:∀x,∀u∈enc x,u.oneCell'=true)(hz:z.length=size){a:Option Addr}{n c:Nat}{a':Option Addr}{m c2:Nat}{l l2:List α}(oT:OL enc size h (.slice a n c) l)(jj:SL enc h (.slice a' m c2) l2)(hbound:((l.length+l2.length)*2+768)*bytes<=281474976710656){K:Value->af->Prop}(hk:∀v' h',OL enc size h' v' (l++l2)->ag (bG a) h h'->(∀b∈aq v',b∈bG a∨h.size<=b)->K v' h'):ux h K size bytes z a n c a' m:=by
 obtain⟨hn,_⟩:=oT.sl.len;obtain⟨hm,_⟩:=jj.len;have aQ:=oT.sl;obtain⟨a1,c1,he,KC⟩:=oT;cases he;obtain⟨a3,c3,zj,_,ob⟩:=jj;cases zj;obtain⟨a4,c4,F3,_,mq⟩:=aQ;cases F3;refine⟨l.flatMap enc,l2.flatMap enc,kJ aS l,kJ aS l2,mq,ob,?_,λjG=>?_,λzm=>⟨hbound,λc' b h' pM hg=>?_⟩⟩
 .intro u hu;obtain⟨x,_,hx⟩:=aoI.1 hu;exact h1 x u hx
 .cases a with
  |none=>
   obtain⟨rfl,rfl⟩:=KC;have tm:l2=[]:=by simpa using jG
   subst tm;exact hk _ _ (by simpa using OL.nil) ⟨ali _,λ_ _ _=>rfl⟩ (by simp[aq,bG])
  |some a=>
   obtain⟨b,o,sp⟩:=a;cases sp with
   |some s=>exact KC.elim
   |none=>
    obtain⟨rfl,h2,rest,hb,h3⟩:=KC;have wP:=kJ aS l;have Gc:=kJ aS l2;have hmul:(l.length+l2.length)*size=l.length*size+l2.length*size:=aoa _ _ _;have aI:(l.length+l2.length)*size<=c*size:=am3 _ jG;refine⟨_,hb,by rw[h3];omega,λh' hp=>?_⟩;have qR:(l2.flatMap enc).length<=rest.length:=by
     rw[ak1]at h3;omega
    have eh:splice (l.flatMap enc++rest) (0+l.length*size) (l2.flatMap enc)=(l++l2).flatMap enc++rest.drop (l2.flatMap enc).length:=by
     rw[amJ,<-wP,HF _ _ _ qR];simp
    rw[eh]at hp;have tB:OL enc size h' (.slice (some ⟨b,0,none⟩) (l.length+l2.length) c) (l++l2):=by
     refine⟨some ⟨b,0,none⟩,c,by rw[ak1],Y,by rw[ak1];exact jG,_,hp.blk,?_⟩;rw[<-h3];simp only[ak1,amL,anh]at h3 qR⊢;omega
    exact hk _ _ tB hp.ae (by simp[aq,bG])
 .have tB:OL enc size h' (.slice (some ⟨b,0,none⟩) (l.length+l2.length) c') (l++l2):=by
   refine⟨some ⟨b,0,none⟩,c',by rw[ak1],Y,by rw[ak1];exact pM,(List.replicate (c'-(l.length+l2.length)) z).flatten,?_,?_⟩
   .have:=hg.blk;simpa using this
   .have wP:=kJ aS (l++l2);rw[ak1,wP,ak1];have:((List.replicate (c'-(l.length+l2.length)) z).flatten).length=(c'-(l.length+l2.length))*size:=by simp[hz]
    rw[this,<-aoa];congr 1;omega
  refine hk _ _ tB (hg.ae.mono Yy) ?_;intro b' bh;simp[aq,bG]at bh;right;rw[bh,hg.id];exact ali _
def SL.one{b:Nat}{x:α}(_:∀x,(enc x).length=size)(hb:ai h b (enc x)):SL enc h (.slice (some ⟨b,0,none⟩) 1 1) [x]:=by
 refine⟨_,1,Y,ali _,?_⟩;have:=akW hb;simpa[Src]using this
end Go.Sx
namespace Go.Sx
open Go
variable{K':Env->af->Prop}{Q:de}{Qp:List PanicEntry->af->Prop}{R:Ending->af->Prop}{ds:List Deferred}{next:Env->List Deferred->af->Prop}{rs:List gj}
variable {P:Program}{σ σ':Env}{h:af}
def Sub.upd(hs:Sub σ σ')(d:Option Nat)(v:Value):Sub (Sx.upd σ d v) (Sx.upd σ' d v):=by
 intro t u ht;by_cases hd:d=some t
 .subst hd;rw[rC]at ht⊢;exact ht
 .rw[iM hd]at ht⊢;exact hs t u ht
def Sub.ev(hs:Sub σ σ'){x:Operand}{v:Value}(hx:Sx.ev σ x=some v):Sx.ev σ' x=some v:=by
 cases x with
 |tmp t=>exact hs t v hx
 |_=>exact hx
def Sub.Pr(hs:Sub σ σ'):∀(xs:List Operand)(vs:List Value),fI σ xs=some vs->fI σ' xs=some vs
 |[],vs,h=>h
 |x::xs,vs,h=>by
  simp only[fI]at h⊢;split at h
  .rename_i v us hv u9;rw[hs.ev hv,hs.Pr xs us u9];exact h
  .simp at h
def Sub.hide(hs:Sub σ σ')(l:List aD):Sub (Sx.hide l σ) (Sx.hide l σ'):=by
 intro t u ht;unfold Sx.hide at ht⊢;cases hn:dz t (dstsOf l)<;>simp[hn]at ht⊢;exact hs t u ht
def Sub.zo(hs:Sub σ σ')(l:List Nat):Sub (Sx.zo l σ) (Sx.zo l σ'):=by
 intro t u ht;unfold Sx.zo at ht⊢;cases hn:dz t l<;>simp[hn]at ht⊢;exact hs t u ht
def rL:∀(xs:List Operand)(vs:List Value),fI σ xs=some vs->∀x∈xs,∃v,ev σ x=some v
 |[],_,_,x,hx=>by simp at hx
 |y::xs,vs,h,x,hx=>by
  simp only[fI]at h;split at h
  .rename_i v us hv u9;rcases ak3.1 hx with rfl|hx
   .exact⟨v,hv⟩
   .exact rL xs us u9 x hx
  .simp at h
def vY{x:Option Operand}{d:Nat}{n:Int}(hb:ja σ x d=some n):∀y∈opt x,∃v,ev σ y=some v:=by
 intro y hy;cases x with
 |none=>simp[opt]at hy
 |some z=>
  simp[opt]at hy;subst hy;simp only[ja]at hb;split at hb
  .rename_i k m hv;exact⟨_,hv⟩
  .simp at hb
def ahd{K:Value->af->Prop}(s:dx)(hs:aE P σ h K Qp s):∀x∈s.reads,∃v,ev σ x=some v:=by
 intro x hx;cases s
 case build z ps xs=>simp only[aE]at hs;split at hs;rename_i vs hv;exact rL _ _ hv x hx;exact hs.elim
 case uB z n ps xs=>simp only[aE]at hs;split at hs;rename_i vs hv;exact rL _ _ hv x hx;exact hs.elim
 case call f xs=>simp only[aE]at hs;split at hs;rename_i vs hv;exact rL _ _ hv x hx;exact hs.elim
 case eR f xs=>simp only[aE]at hs;split at hs;rename_i vs hv;exact rL _ _ hv x hx;exact hs.elim
 case yG f xs=>simp only[aE]at hs;split at hs;rename_i vs hv;exact rL _ _ hv x hx;exact hs.elim
 case aV y xs=>
  simp only[aE]at hs;split at hs
  .rename_i hy hv;rcases ak3.1 hx with rfl|hx
   .exact⟨_,hy⟩
   .exact rL _ _ hv x hx
  .rename_i hy hv;rcases ak3.1 hx with rfl|hx
   .exact⟨_,hy⟩
   .exact rL _ _ hv x hx
  .exact hs.elim
 case fn f a c=>
  simp only[aE]at hs;split at hs
  .rename_i ha hc;rcases alf.1 hx with hx|hx
   .exact rL _ _ ha x hx
   .exact rL _ _ hc x hx
  .exact hs.elim
 case slc n y lo hi=>
  simp only[aE]at hs;split at hs
  .rename_i hy;split at hs
   .rename_i hl hm;simp only[dx.reads,ak3,alf]at hx;rcases hx with rfl|hx|hx
    .exact⟨_,hy⟩
    .exact vY hl x hx
    .exact vY hm x hx
   .exact hs.elim
  .exact hs.elim
 case vE n y lo hi mx=>
  simp only[aE]at hs;split at hs
  .rename_i hy;split at hs
   .rename_i hl hm hk;simp only[dx.reads,ak3,alf,amU,anF]at hx;rcases hx with rfl|hx|rfl|rfl
    .exact⟨_,hy⟩
    .exact vY hl x hx
    .exact vY hm x (by simp[opt])
    .exact vY hk x (by simp[opt])
   .exact hs.elim
  .exact hs.elim
 case xW y lo hi=>
  simp only[aE]at hs;split at hs
  .rename_i hy;split at hs
   .rename_i hl hm;simp only[dx.reads,ak3,alf]at hx;rcases hx with rfl|hx|hx
    .exact⟨_,hy⟩
    .exact vY hl x hx
    .exact vY hm x hx
   .exact hs.elim
  .exact hs.elim
 case new z=>simp[dx.reads]at hx
 case vn=>simp[dx.reads]at hx
 all_goals
  simp only[dx.reads,ak3,amU,anF]at hx;simp only[aE]at hs
  first
   |exact hx.elim
   |((repeat' split at hs)<;>first|exact hs.elim|(rcases hx with rfl|rfl|rfl<;>exact⟨_,by assumption⟩)|(rcases hx with rfl|rfl<;>exact⟨_,by assumption⟩)|(subst hx;exact⟨_,by assumption⟩))
def U9{K:Value->af->Prop}{s:dx}(gN:Sub σ σ')(hs:aE P σ h K Qp s):aE P σ' h K Qp s:=by
 rw[<-U8 s λx hx=>by
  obtain⟨v,hv⟩:=ahd s hs x hx;rw[hv,gN.ev hv]]
 exact hs
def Ib(K:Env->af->Prop):Prop:=∀σ σ' h,Sub σ σ'->K σ h->K σ' h
def kF(Q:de):Prop:=∀e σ σ' ds h,Sub σ σ'->Q e σ ds h->Q e σ' ds h
def U'{K:Env->af->Prop}{dp:List PanicEntry->af->Prop}{s:aD}(gN:Sub σ σ')(hq:∀ch h,Qp ch h->dp ch h)(hk:∀σ σ' h,Sub σ σ'->K σ h->K' σ' h)(hs:cW P σ h s K Qp):cW P σ' h s K' dp:=by
 have main:aE P σ h (λv h'=>K (upd σ s.dst v) h') Qp s.op->aE P σ' h (λv h'=>K' (upd σ' s.dst v) h') dp s.op:=by
  intro hs;have h1:=U9 (P:=P) gN (HB (K':=λv h'=>K' (upd σ' s.dst v) h') s.op hs λv h' hv=>hk _ _ h' (gN.upd s.dst v) hv);exact MJ s.op h1 hq
 unfold cW at hs⊢;split at hs
 .exact main hs
 .rename_i g want hg;split at hs
  .rename_i t ht;have mu:=gN g t ht;simp only[mu];split at hs
   .exact main hs
   .exact hk _ _ h (gN.upd s.dst undef) hs
  .exact hs.elim
def vF{Qp dp:List PanicEntry->af->Prop}{K K':Env->af->Prop}(hq:∀ch h,Qp ch h->dp ch h)(hk:∀σ σ' h,Sub σ σ'->K σ h->K' σ' h):∀(l:List aD)(σ σ':Env)(h:af),Sub σ σ'->cD P Qp K l σ h->cD P dp K' l σ' h
 |[],σ,σ',h,hs,hh=>hk σ σ' h hs hh
 |_::l,_,_,_,hs,hh=>U' hs hq (λσ1 σ2 h1 cO dR=>vF hq hk l σ1 σ2 h1 cO dR) hh
def ahg{K:Env->af->Prop}{s:aD}(gN:Sub σ σ')(hs:cW P σ h s K Qp)(hk:∀v h',K (upd σ s.dst v) h'->K' (upd σ' s.dst v) h'):cW P σ' h s K' Qp:=by
 have main:aE P σ h (λv h'=>K (upd σ s.dst v) h') Qp s.op->aE P σ' h (λv h'=>K' (upd σ' s.dst v) h') Qp s.op:=λhs=>
  U9 (P:=P) gN (HB (K':=λv h'=>K' (upd σ' s.dst v) h') s.op hs λv h' hv=>hk v h' hv)
 unfold cW at hs⊢;split at hs
 .exact main hs
 .rename_i g want hg;split at hs
  .rename_i t ht;have mu:=gN g t ht;simp only[mu];split at hs
   .exact main hs
   .exact hk undef h hs
  .exact hs.elim
def XL{x:aD}(hq:cls x.op<=1)(hs:Sub σ σ')(hc:lj P σ h x):lj P σ' h x:=by
 refine ahg hs hc λu h1 hk=>?_;obtain⟨h2,h3⟩:=hk;refine⟨h2,?_⟩;funext t;by_cases hd:x.dst=some t
 .have h4:=congrFun h3 t;rw[hd,rC]at h4;rw[hd,rC,hs t u h4.symm]
 .rw[iM hd]
def Ee{Qp dp:List PanicEntry->af->Prop}{K K':Env->af->Prop}(hq:∀ch h,Qp ch h->dp ch h)(hk:∀σ σ' h,Sub σ σ'->K σ h->K' σ' h):∀(t:lZ)(σ σ':Env)(h:af),Sub σ σ'->qk P Qp K t σ h->qk P dp K' t σ' h
 |.done,σ,σ',h,hs,hh=>hk σ σ' h hs hh
 |.one _ t,_,_,_,hs,hh=>U' hs hq (λσ1 σ2 h1 cO dR=>Ee hq hk t σ1 σ2 h1 cO dR) hh
 |.both a b,_,_,_,hs,hh=>⟨Ee hq hk a _ _ _ hs hh.1,Ee hq hk b _ _ _ hs hh.2⟩
 |.IU l t,σ,σ',h,hs,hh=>⟨λx hx=>⟨(hh.1 x hx).1,XL (hh.1 x hx).1 hs (hh.1 x hx).2⟩,Ee hq hk t σ σ' h hs hh.2⟩
def fN.sub:∀{l:List (Nat×Value)},Sub σ σ'->fN σ l->fN σ' l
 |[],_,_=>trivial
 |(n,v)::_,hs,⟨h1,h2⟩=>⟨hs n v h1,fN.sub hs h2⟩
def Sub.sB:∀(ps:List Nat)(vs:List Value){σ σ':Env},Sub σ σ'->Sub (Sx.sB σ ps vs) (Sx.sB σ' ps vs)
 |[],vs,σ,σ',hs=>by
  cases vs<;>exact hs
 |p::ps,[],σ,σ',hs=>hs
 |p::ps,v::vs,σ,σ',hs=>Sub.sB ps vs (hs.upd (some p) v)
def pZ(hn:∀σ σ' ds h,Sub σ σ'->next σ ds h->next σ' ds h)(hq:kF Q):kF (fc next Q):=by
 intro e σ σ' ds h hs hh;cases e<;>first|exact hn σ σ' ds h hs hh|exact hq _ σ σ' ds h hs hh
def adO{l:Nat}(hn:∀σ σ' ds h,Sub σ σ'->next σ ds h->next σ' ds h)(hq:kF Q):kF (K9 l next Q):=by
 intro e σ σ' ds h hs hh;cases e<;>first|exact⟨hh.1,hn σ σ' ds h hs hh.2⟩|exact hq _ σ σ' ds h hs hh
def kB{id:Nat}(hq:kF Q):kF (qw id Q):=by
 intro e σ σ' ds h hs hh;cases e with
 |exit Gv=>
  simp only[qw]at hh⊢;split
  .rename_i he;rw[ak4 he]at hh;exact hq _ σ σ' ds h hs hh
  .rename_i he;rw[akZ he]at hh;exact hq _ σ σ' ds h hs hh
 |_=>exact hq _ σ σ' ds h hs hh
def Sa(hq:kF Q):kF (AJ Q):=by
 intro e σ σ' ds h hs hh;cases e<;>first|exact hh.elim|exact hq _ σ σ' ds h hs hh
def adQ{l:Nat}{r:Loop}:kF (Uo l r R):=by
 intro e σ σ' ds h hs hh;cases e<;>exact hh
def adN:kF λ_ _ _ _=>False:=λ_ _ _ _ _ _ h=>h
def adP{ι:Type}{E:ι->List (Nat×Value)}{I:ι->af->Prop}{p:ι->Prop}:∀(σ σ':Env)(eX:List Deferred)(h:af),Sub σ σ'->
  (eX=ds∧∃i',fN σ (E i')∧I i' h∧p i')->(eX=ds∧∃i',fN σ' (E i')∧I i' h∧p i'):=
 λ_ _ _ _ hs ⟨h1,i,h2,h3⟩=>⟨h1,i,h2.sub hs,h3⟩
def ql:∀(c:akX)(Q:de)(σ σ':Env)(ds:List Deferred)(h:af),kF Q->Sub σ σ'->swp P c Q σ ds h->swp P c Q σ' ds h:=by
 intro c;induction c with
 |skip=>exactλQ σ σ' ds h hq hs hh=>hq _ σ σ' ds h hs hh
 |exit id=>exactλQ σ σ' ds h hq hs hh=>hq _ σ σ' ds h hs hh
 |ret=>exactλQ σ σ' ds h hq hs hh=>hq _ σ σ' ds h hs hh
 |ops l=>
  intro Q σ σ' ds h hq hs hh;exact vF (λch h' hk=>hq _ _ _ ds h' (hs.hide l) hk) (λσ1 σ2 h1 cO hk=>hq _ σ1 σ2 ds h1 cO hk) l σ σ' h hs hh
 |two pre l1 l2=>
  intro Q σ σ' ds h hq hs hh;have hp:∀ch h',Q (.panic ch) (hide (pre++(l1++l2)) σ) ds h'->Q (.panic ch) (hide (pre++(l1++l2)) σ') ds h':=λch h' hk=>hq _ _ _ ds h' (hs.hide _) hk;exact vF hp (λσ1 σ2 h1 cO hk=>⟨vF hp (λσ3 Ni h3 Jx hk=>hq _ σ3 Ni ds h3 Jx hk) l1 σ1 σ2 h1 cO hk.1,vF hp (λσ3 Ni h3 Jx hk=>hq _ σ3 Ni ds h3 Jx hk) l2 σ1 σ2 h1 cO hk.2⟩) pre σ σ' h hs hh
 |seq a b xo xp=>
  intro Q σ σ' ds h hq hs hh;exact xo _ σ σ' ds h (pZ (λσ1 σ2 dh h1 cO hk=>xp Q σ1 σ2 dh h1 hq cO hk) hq) hs hh
 |cond c a b xo xp=>
  intro Q σ σ' ds h hq hs hh;simp only[swp]at hh⊢;split at hh
  .rename_i he;rw[hs.ev he];exact xo Q σ σ' ds h hq hs hh
  .rename_i he;rw[hs.ev he];exact xp Q σ σ' ds h hq hs hh
  .exact hh.elim
 |block id c ih=>exactλQ σ σ' ds h hq hs hh=>ih _ σ σ' ds h (kB hq) hs hh
 |scope c ih=>exactλQ σ σ' ds h hq hs hh=>ih _ σ σ' ds h (Sa hq) hs hh
 |loop c ih=>
  intro Q σ σ' ds h hq hs hh;obtain⟨ι,E,I,μ,i,h1,h2,h3⟩:=hh;exact⟨ι,E,I,μ,i,h1.sub hs,h2,h3⟩
 |rcv d=>exactλQ σ σ' ds h hq hs hh=>hh.elim
 |label l=>exactλQ σ σ' ds h hq hs hh=>hq _ σ σ' ds h hs hh
 |goto l=>exactλQ σ σ' ds h hq hs hh=>hq _ σ σ' ds h hs hh
 |Hu c l r ihc ihr=>exactλQ σ σ' ds h hq hs hh=>ihc _ σ σ' ds h (adO (λσ1 σ2 dh h1 cO hk=>ihr _ σ1 σ2 dh h1 (Sa hq) cO hk) hq) hs hh
 |tree l t=>
  intro Q σ σ' ds h hq hs hh;exact Ee (λch h' hk=>hq _ _ _ ds h' (hs.zo l) hk) (λσ1 σ2 h1 cO hk=>hq _ σ1 σ2 ds h1 cO hk) t σ σ' h hs hh
 |wq l d x args=>
  intro Q σ σ' ds h hq hs hh;refine vF (λch h' hk=>hq _ _ _ ds h' (hs.hide l) hk) (λσ1 σ2 h1 cO hk=>?_) l σ σ' h hs hh;split at hk
  .rename_i f fi cap vs hx hv;rw[cO.ev hx,cO.Pr _ _ hv];exact hq _ _ _ _ h1 (cO.upd d undef) hk
  .exact hk.elim
 |Aw g ps a b xo xp=>
  intro Q σ σ' ds h hq hs hh;simp only[swp]at hh⊢;split at hh
  .rename_i f fi cap hg;rw[hs.ev hg];intro l D r h1 e1 e2 e3 e4 e5 e6 hy;refine(hh l D r h1 e1 e2 e3 e4 e5 e6 λh2 args R hl hlen KH=>hy h2 args R hl hlen ?_).mono ?_
   .refine xo _ _ _ [] h2 (pZ (λσ1 σ2 dh h3 cO hk=>⟨hk.1,λh4 ht=>xp _ σ1 σ2 dh h4 adQ cO (hk.2 h4 ht)⟩) adN) (Sub.sB ps args hs) KH
   .intro e h2 he;cases e with
    |returned v=>
     obtain⟨st,p,h3,h4,h5⟩:=he;refine⟨st,p,h3,h4,λh' ht=>?_⟩;have:=h5 h' ht;cases p with
     |none=>exact hq _ σ σ' _ h' hs this
     |some c=>cases c<;>first|exact hq _ σ σ' _ h' hs this|exact this.elim
    |panicked ch=>exact he.elim
    |outgrown=>exact he.elim
  .exact hh.elim
def He:∀(rs:List gj){σ σ':Env}{h:af}{K:List Value->Prop},Sub σ σ'->kU σ h rs K->kU σ' h rs K
 |[],_,_,_,_,_,hh=>hh
 |.t n::rs,σ,σ',h,K,hs,hh=>by
  simp only[kU]at hh⊢;split at hh
  .rename_i v hv;rw[hs n v hv];exact He rs hs hh
  .exact hh.elim
 |.c1 n::rs,σ,σ',h,K,hs,hh=>by
  simp only[kU]at hh⊢;split at hh
  .rename_i b o hv;rw[hs n _ hv];obtain⟨v,h1,h2⟩:=hh;exact⟨v,h1,He rs hs h2⟩
  .exact hh.elim
 |.cn n m::rs,σ,σ',h,K,hs,hh=>by
  simp only[kU]at hh⊢;split at hh
  .rename_i b o hv;rw[hs n _ hv];obtain⟨v,h0,h1,h2⟩:=hh;exact⟨v,h0,h1,He rs hs h2⟩
  .exact hh.elim
def RE{rs:List gj}{R:Ending->af->Prop}:∀(ds:List Deferred){σ σ':Env}(u:FrameMode)(h:af),Sub σ σ'->vj rs R σ ds u h->vj rs R σ' ds u h
 |[],_,_,.returning,_,hs,hh=>He rs hs hh
 |[],_,_,.panicking _,_,_,hh=>hh
 |[],_,_,.run,_,_,hh=>hh
 |d::ds,_,_,u,h,hs,hh=>by
  simp only[vj]at hh⊢;split at hh
  .exact⟨hh.1,λh' hp=>RE ds u h' hs (hh.2 h' hp)⟩
  .exact hh.elim
def eV:kF (cC rs R):=by
 intro e σ σ' ds h hs hh;cases e<;>first|exact RE ds _ h hs hh|exact hh
def aW{c:akX}(E:List (Nat×Value))(hE:fN σ E)(hh:swp P c (cC rs R) (mk E) ds h):swp P c (cC rs R) σ ds h:=
 ql c _ _ _ ds h eV (uh hE) hh
def uJ{c:akX}(E:List (Nat×Value))(hq:kF Q)(hE:fN σ E)(hh:swp P c Q (mk E) ds h):swp P c Q σ ds h:=
 ql c _ _ _ ds h hq (uh hE) hh
end Go.Sx
namespace Go.Sx
open Go
variable {α:Type}{enc:α->List Value}{size:Nat}
def SL.slc{h:af}{a:Option Addr}{n c:Nat}{l:List α}(aS:∀x,(enc x).length=size)(hs:SL enc h (.slice a n c) l){lo hi:Nat}(h0:lo<=hi)(h1:hi<=l.length){K:Value->af->Prop}(hk:∀a',bG a'=bG a->SL enc h (.slice a' (hi-lo) (c-lo)) ((l.drop lo).take (hi-lo))->K (.slice a' (hi-lo) (c-lo)) h):0<=(lo:Int)∧(lo:Int)<=hi∧(hi:Int)<=c∧ud K h size a c lo hi:=by
 obtain⟨hn,hc⟩:=hs.len;have e1:((hi:Int)-lo).toNat=hi-lo:=V
 have e2:((c:Int)-lo).toNat=c-lo:=V
 refine⟨V,V,V,?_⟩;unfold ud;rw[e1,e2];cases a with
 |none=>
  obtain⟨a',c',he,_,h2⟩:=hs;cases he;have:l.length=0:=h2;have hl:l=[]:=by simpa using this
  subst hl;have jE:lo=0:=by simp at h1;omega
  have hhi:hi=0:=by simpa using h1
  subst jE;subst hhi;exact hk none Y ⟨none,c,Y,Yy,Y⟩
 |some a=>
  obtain⟨b,o,sp⟩:=a;cases sp with
  |some s=>
   obtain⟨a',c',he,_,h2⟩:=hs;cases he;have h0:l.length=0:=h2;have hl:l=[]:=by simpa using h0
   subst hl;have jE:lo=0:=by simp at h1;omega
   have hhi:hi=0:=by simpa using h1
   subst jE;subst hhi;exact⟨Y,hk (some ⟨b,o,some s⟩) Y ⟨some ⟨b,o,some s⟩,c,Y,Yy,Y⟩⟩
  |none=>
   intro o' nh jF;refine hk (some ⟨b,o',none⟩) Y (hs.cut aS h0 h1 (λah=>?_) (λhe=>?_))
   .have:=nh V;simpa using this
   .exact jF V
def jr.put{h h1 h2:af}{b:Nat}{l l':List Value}(g:jr h h1 b l)(p:dL h1 h2 b l'):jr h h2 b l':=
 ⟨g.id,p.blk,by rw[p.size,g.size],λk hk=>by rw[p.old k (by rw[g.id];omega),g.old k hk]⟩
def DK{a b:Value}(ha:a.oneCell'=true)(hb:b.oneCell'=true):∀u∈[a,b],u.oneCell'=true:=by
 intro u hu;simp at hu;rcases hu with rfl|rfl<;>assumption
def cM{a:Value}(ha:a.oneCell'=true):∀u∈[a],u.oneCell'=true:=by
 intro u hu;simp at hu;rw[hu];exact ha
end Go.Sx
namespace Go.Sx
open Go Go.ChangeShapes
section
variable {H:Type}{enc:TypeId×Value->H}{P:Program}
def HW{W:World}(b o:Nat):W.cell? ⟨b,o,none⟩=cell W.heap b o:=by
 unfold World.cell? cell;cases W.heap[b]? with
 |none=>rfl
 |some x=>cases x<;>rfl
def agJ{W W':World}(h:∀k,k<W.heap.size->W'.heap[k]? =W.heap[k]?){p:MemPlace}(hp:p.block<W.heap.size):W.sameAt W' p:=by
 cases p with
 |cell b o=>
  show W'.cell? _=W.cell? _;rw[HW,HW];unfold cell;rw[h b hp]
 |map b=>exact h b hp
def Vu{W W':World}{Vd:Nat->Bool}(hl:laidOutB P=true)(h:∀k,k<W.heap.size->W'.heap[k]? =W.heap[k]?):∀{ts:List TypeId}{vs:List Value}{ds:List (DataW H)}{ps:List MemPlace},
  (∀t∈ts,P.readableRec t=true∧t<P.types.size)->DataW.TrodAll enc P W 0 (λ_=>true) true ts vs ds ps->(∀p∈ps,p.block<W.heap.size)->(∀p∈ps,Vd p.block=true)->
  DataW.TrodAll enc P W' 0 Vd true ts vs ds ps
 |[],_,_,_,_,hT,_,_=>by
  obtain⟨rfl,rfl,rfl⟩:=trodAll_nil hT;rfl
 |t::ts,_,_,_,Gm,hT,ah,hs=>by
  obtain⟨v,vs,d,ds,p,q,rfl,rfl,rfl,h1,h2⟩:=trodAll_cons hT;have ht:=Gm t Yy;exact⟨p,q,WideElems.Trod_stays hl ht.1 ht.2 h1 (λx hx=>agJ h (ah x (by simp[hx]))) (λx hx=>hs x (by simp[hx])),
   Vu hl h (λt ht=>Gm t (by simp[ht])) h2 (λx hx=>ah x (by simp[hx])) (λx hx=>hs x (by simp[hx])),Y⟩
def Vt:∀{W:World}{base:Nat}{sp:Nat->Bool}{hd:Bool}{ts:List TypeId}{vs:List Value}{ds:List (DataW H)}{ps:List MemPlace},DataW.TrodAll enc P W base sp hd ts vs ds ps->ds.length=ts.length
 |_,_,_,_,[],_,_,_,h=>by obtain⟨rfl,rfl,rfl⟩:=trodAll_nil h;rfl
 |_,_,_,_,_::_,_,_,_,h=>by
  obtain⟨v,vs,d,ds,p,q,rfl,rfl,rfl,_,h2⟩:=trodAll_cons h;simp[Vt h2]
def ada{W W':World}(Kt:W'.os=W.os)(pR:W'.output=W.output)(h:∀k,k<W.heap.size->W'.heap[k]? =W.heap[k]?)(may:MemPlace->Prop):W.keptBut W' may:=by
 refine⟨Kt,pR,λi hi=>?_⟩;rw[h i hi];exact(World.keptBut_refl W may).2.2 i hi
def adq{f:Nat}{fn:Func}{s:ChangeSpec}{tb:TypeId}{apart fresh handsOn again:Bool}{W:World}{args:Array Value}{ds gs:List (DataW H)}{before:List MemPlace}(jE:laidOutB P=true)(Gm:∀t∈fn.params.toList,P.readableRec t=true∧t<P.types.size)(iW:fn.resultTypes= #[tb])(hb:P.underlying tb=some .bool)(Q8:s.vars=[])(hs:∀l:List (DataW H),l.length=fn.params.size->s.fn H l={results:=[.lit (.bool true)],args:=l})(hW:DataW.Whole enc P fn.params.toList s.vars apart W args.toList ds gs before)(hc:aj P f args.toList W.heap (ao λr h'=>r=.bool true∧ag [] W.heap h')):Calls P f args W λe W'=>∃v,e=.returned v∧s.post enc P fn apart fresh handsOn again W args v W':=by
 refine(hc.2 W Y).mono ?_;rintro e W' ⟨hR,bw,Kt,pR,_⟩;cases e with
 |panicked ch=>exact hR.elim
 |outgrown=>exact hR.elim
 |returned v=>
 obtain⟨rfl,iA⟩:=hR;refine⟨_,Y,?_⟩;have jH:∀k,k<W.heap.size->W'.heap[k]? =W.heap[k]? :=λk hk=>iA.old k hk Yy;have ah:=λp hp=>hW.lt p hp;have sP:=hW;obtain⟨p,q,hA,hV,rfl,hz,hn⟩:=hW;have hlen:ds.length=fn.params.size:=by rw[Vt hA];simp
 rw[Q8]at hV;obtain⟨rfl,rfl⟩:=trodVars_none hV;have fz:s.fn H (ds++[])={results:=[.lit (.bool true)],args:=ds}:=by rw[amA];exact hs ds hlen
 have hold:∀x∈p++[],(λb=>decide (b<W.heap.size)) x.block=true:=λx hx=>by simpa using ah x hx
 have wF:∀sp:Nat->Bool,(∀x∈p++[],sp x.block=true)->DataW.TrodAll enc P W' 0 sp true fn.params.toList args.toList (s.fn H (ds++[])).args p:=λsp eh=>by
  rw[fz];exact Vu jE jH Gm hA (λx hx=>ah x (by simp[hx])) (λx hx=>eh x (by simp[hx]))
 have hr:∀(b:Nat)(sp:Nat->Bool)(hd:Bool),DataW.TrodAll enc P W' b sp hd fn.resultTypes.toList ((Value.bool true).resultList fn.resultTypes.size) (s.fn H (ds++[])).results []:=λb sp hd=>by
  rw[fz,iW];exact trodAll_mk1 (Go.RowKit.shut_bool hb true)
 have qT:∀sp:Nat->Bool,DataW.TrodVars enc P W' sp s.vars (s.fn H (ds++[])).vars []:=λsp=>by
  rw[fz,Q8];rfl
 refine⟨ds,[],p++[],[],p,[],sP,hr _ _ _,wF _ hold,qT _,World.keptBut_mono (λx hx=>⟨hx,?_⟩) (ada Kt pR jH _),λ_=>?_⟩
 .simpa using hx
 .refine⟨Go.RowKit.ok_one iW Y (Go.RowKit.okWide_bool_mk hb true),_,_,([]++p)++[],⟨[]++p,[],trodAll_append (wF _ (λ_ _=>rfl)) (hr _ _ _),qT _,Y,?_,?_⟩,?_⟩
  .intro b off hp;have bh:b<W.heap.size:=ah (.cell b off) (by simpa using hp);have:=hz b off (by simpa using hp);unfold World.frozen? at this⊢;simp only[jH b bh];exact this
  .intro ha;simpa using hn ha
  .intro x hx _;simpa using hx
def kf(P:Program)(t:TypeId)(d:DataW H):Prop:=∀n∈d.weights P t,n<=reachBytes
def VL{e:TypeId}:∀{l:List (DataW H)}{d:DataW H},d∈l->∀n∈d.weights P e,n∈DataW.weightsAll P e l
 |x::l,d,hd,n,hn=>by
  simp only[DataW.weightsAll,alf];rcases ak3.1 hd with rfl|hd
  .exact .inl hn
  .exact .inr (VL hd n hn)
def VM{ts:List TypeId}{ds:List (DataW H)}(h:(DataW.weightsEach P ts ds).all (· <=reachBytes)=true){j:Nat}{t:TypeId}{d:DataW H}(ht:ts[j]? =some t)(hd:ds[j]? =some d):kf P t d:=by
 intro n hn;have:=amV.1 h n (DataW.weights_mem_each ht hd n hn);simpa using this
def Ps{α:Type}{p:Nat->α->Prop}:∀n,(∀i<n,∃a,p i a)->∃l:List α,l.length=n∧∀i a,l[i]? =some a->p i a
 |0,_=>⟨[],Y,Yy⟩
 |n+1,h=>by
  obtain⟨l,hl,hp⟩:=Ps n (λi hi=>h i V);obtain⟨a,ha⟩:=h n V;refine⟨l++[a],by simp[hl],λi x hx=>?_⟩;by_cases hi:i<l.length
  .rw[amM hi]at hx;exact hp i x hx
  .rw[am1 V]at hx;have:i-l.length=0:=by
    rcases amQ (i-l.length) 1 with h|h
    .omega
    .rw[anR (by simpa using h)]at hx;cases hx
   rw[this]at hx;simp at hx;subst hx;have:i=n:=V
   rw[this];exact ha
def oH{W:World}{base n:Nat}{sp:Nat->Bool}{held:Bool}{cs:List Value}{fs:Array Field}{xs:List (DataW H×List MemPlace)}(hi:∀(i:Nat)(f:Field),fs[i]? =some f->DataW.trod enc P W base sp held n f.type (List.take (P.cellsOf f.type) (List.drop f.offset cs))=xs[i]?)(i ty off k:Nat){f:Field}{mQ:List Value}{x:DataW H×List MemPlace}(hf:fs[i]? =some f)(ht:f.type=ty)(ho:f.offset=off)(hc:P.cellsOf ty=k)(aI:(cs.drop off).take k=mQ)(hx:xs[i]? =some x):DataW.trod enc P W base sp held n ty mQ=some x:=by
 subst ht ho hc aI;rw[<-hx];exact hi i f hf
def AL{t:TypeId}{W:World}{base n:Nat}{sp:Nat->Bool}{held:Bool}{cs:List Value}{x:DataW H×List MemPlace}(ht:P.underlying t=some .string)(h:DataW.trod enc P W base sp held n t cs=some x)(hw:kf P t x.1):∃s:BA,cs=[.string s]∧s.size<=reachBytes:=by
 obtain⟨s,rfl,rfl,_⟩:=DataW.trod_string ht h;refine⟨s,Y,?_⟩;have:=hw s.data.toList.length (by simp[DataW.weights]);simpa using this
end
end Go.Sx
namespace Go.Sx
open Go
def Ol:∀a:List UInt8,Op.bytesLess a a=false
 |[]=>rfl
 |x::a=>by simp[Op.bytesLess,Ol a]
def Om:∀{a b c:List UInt8},Op.bytesLess a b=true->Op.bytesLess b c=true->Op.bytesLess a c=true
 |_,[],_,h,_=>by cases ‹List UInt8› <;>simp[Op.bytesLess]at h
 |_,_::_,[],_,h=>by simp[Op.bytesLess]at h
 |[],_::_,_::_,_,_=>by simp[Op.bytesLess]
 |x::a,y::b,z::c,h1,h2=>by
  have ih:=@Om a b c;simp only[Op.bytesLess,amZ,amm,alO,ao4,ans,<-ann]at h1 h2⊢;rcases h1 with h1|⟨h1,jV⟩<;>rcases h2 with h2|⟨h2,pJ⟩
  .left;omega
  .left;omega
  .left;omega
  .right;exact⟨V,ih jV pJ⟩
def EX:∀{a b:List UInt8},a≠b->Op.bytesLess a b=true∨Op.bytesLess b a=true
 |[],[],h=>absurd Y h
 |[],_::_,_=>by simp[Op.bytesLess]
 |_::_,[],_=>by simp[Op.bytesLess]
 |x::a,y::b,h=>by
  have ih:=@EX a b;simp only[Op.bytesLess,amZ,amm,alO,ao4,ans,<-ann];by_cases e:x=y
  .subst e;rcases ih (by intro e;exact h (by rw[e]))with h|h
   .left;right;exact⟨Y,h⟩
   .right;right;exact⟨Y,h⟩
  .have:x.toNat≠y.toNat:=λh=>e (ann.1 h);rcases Nat.lt_or_gt_of_ne this with h|h
   .left;left;exact h
   .right;left;exact h
def toList_inj{a b:BA}(h:a.toList=b.toList):a=b:=by
 rw[Go.ByteArray.toList_eq,Go.ByteArray.toList_eq]at h;cases a;cases b;simp_all
def qj(a:BA):aP a a=false:=Ol _
def mF{a b c:BA}:aP a b=true->aP b c=true->aP a c=true:=Om
def Hz{a b:BA}(h:a≠b):aP a b=true∨aP b a=true:=EX λe=>h (toList_inj e)
def yI(a b:BA):Int:=Lib.compareBytes a.data.toList b.data.toList
def OR:∀a b:List UInt8,(Lib.compareBytes a b<0↔Op.bytesLess a b=true)
 |[],[]=>by simp[Lib.compareBytes,Op.bytesLess]
 |[],_::_=>by simp[Lib.compareBytes,Op.bytesLess]
 |_::_,[]=>by simp[Lib.compareBytes,Op.bytesLess]
 |x::a,y::b=>by
  have ih:=OR a b;simp only[Lib.compareBytes,Op.bytesLess,amZ,amm,alO,ao4,ans,<-ann];by_cases h1:x.toNat<y.toNat
  .rw[ak4 h1];simp[h1]
  .rw[akZ h1];by_cases h2:y.toNat<x.toNat
   .rw[ak4 h2];constructor
    .intro h;omega
    .rintro(h|⟨h,_⟩)<;>omega
   .rw[akZ h2,ih];constructor
    .intro h;exact .inr ⟨V,h⟩
    .rintro(h|⟨_,h⟩)
     .exact absurd h h1
     .exact h
def BJ(a b:BA):yI a b<0↔aP a b=true:=by
 unfold yI aP;rw[Go.ByteArray.toList_eq,Go.ByteArray.toList_eq];exact OR _ _
def Xl{x y:UInt8}{a b:List UInt8}(h:x=y):Op.bytesLess (x::a) (y::b)=Op.bytesLess a b:=by
 subst h;simp[Op.bytesLess]
def Xi{x y:UInt8}{a b:List UInt8}(h:x≠y):Op.bytesLess (x::a) (y::b)=decide (x<y):=by
 simp[Op.bytesLess,h]
end Go.Sx
namespace Go.Sx
open Go Go.ChangeShapes Go.WideShapes Go.ChangeAt Go.RowKit
section
variable {H:Type}{enc:TypeId×Value->H}{P:Program}
def aes{α:Type}{en:α->List Value}{Good:α->Prop}{t e:TypeId}{k:Nat}{W:World}{base:Nat}{sp:Nat->Bool}{held:Bool}(ht:P.underlying t=some (.slice e))(hk:P.cellsOf e=k)(iC:0<k)(aS:∀a,(en a).length=k){n:Nat}(wL:∀n',n'<n->∀cs x,DataW.trod enc P W base sp held n' e cs=some x->kf P e x.1->∃a,cs=en a∧Good a){v:Value}{x:DataW H×List MemPlace}(h:DataW.trod enc P W base sp held n t [v]=some x)(hw:kf P t x.1):∃l:List α,SL en W.heap v l∧(∀a∈l,Good a)∧l.length*P.bytesOf e<=reachBytes:=by
 rcases DataW.trod_slice ht h with⟨aI,_⟩|⟨a,len,cap,elems,rest,n',lD,aI,hx,_,di,_,hlen,Qe,_,_⟩
 .have hv:v=.slice none 0 0:=by simpa using aI
  subst hv;exact⟨[],SL.nil,Yy,Yy⟩
 .have hv:v=.slice (some a) len cap:=by simpa using aI
  subst hv;obtain⟨b,o,s⟩:=a;cases s with
  |some q=>
   have h0:len=0:=by
    rcases Nat.eq_zero_or_pos len with h|h
    .exact h
    .exfalso;have h1:=Qe 0 h;have gL:0<elems.length:=V
     rw[akU gL]at h1;obtain⟨cs,sR,_⟩:=aoQ.1 h1;obtain⟨_,ab',Cs⟩:=World.cells?_some sR;have:=Cs 0 (by rw[hk];exact iC);rw[akU V]at this;simp only[ao9,Addr.add,anB]at this;unfold World.cell? at this;split at this<;>simp at this
   subst h0;exact⟨[],⟨_,cap,Y,ak8 _,Y⟩,Yy,Yy⟩
  |none=>
   have hwd:∀i(hi:i<elems.length),kf P e (elems[i]).1:=by
    intro i hi m hm
    have hd:x.1=.slice (elems.map (·.1)) (rest.map (·.1)):=alC Prod.fst hx
    refine hw m ?_;rw[hd];simp only[DataW.weights,ht,ak3,alf];exact .inr (.inl (VL (d:=(elems[i]).1) (alF.2 ⟨_,ak9 hi,Y⟩) m hm))
   obtain⟨l,hl,hp⟩:=Ps (p:=λi(a:α)=>(∀j v,(en a)[j]? =some v->cell W.heap b (o+i*k+j)=some v)∧Good a) len (by
    intro i hi;have h1:=Qe i hi;have gL:i<elems.length:=V
    rw[akU gL]at h1;obtain⟨cs,sR,tG⟩:=aoQ.1 h1;obtain⟨_,ab',Cs⟩:=World.cells?_some sR;have aO:∀j,j<k->cell W.heap b (o+i*k+j)=cs[j]? :=by
     intro j sZ;have:=Cs j (by rw[hk];exact sZ);have e1:(Addr.add ⟨b,o,none⟩ (i*P.cellsOf e)).add j=⟨b,o+i*k+j,none⟩:=by
      rw[hk];unfold Addr.add;split<;>split<;>simp_all
     rw[e1,HW]at this;exact this
    obtain⟨x,vd,hx2⟩:=wL n' V _ _ tG (hwd i gL);subst vd;refine⟨x,λj v hj=>?_,hx2⟩;have sZ:j<k:=by have:=(ak7.1 hj).1;rw[aS]at this;exact this
    rw[aO j sZ,hj])
   subst hl;refine⟨l,⟨_,cap,Y,di,?_⟩,λa ha=>?_,?_⟩
   .intro q v hq;have oV:=(ak7.1 hq).1;rw[kJ aS]at oV;have iV:q/k<l.length:=Nat.div_lt_of_lt_mul (by rw[aoF];exact oV);have tq:l[q/k]? =some l[q/k]:=akU iV;have sZ:q%k<(en l[q/k]).length:=by rw[aS];exact Nat.mod_lt _ iC
    have F4:=akU sZ;have h2:=Jl aS l (q/k) _ tq (q%k) _ F4;have eC:q/k*k+q%k=q:=by rw[aoF];exact Nat.div_add_mod q k
    rw[eC,hq]at h2;cases h2;have:=(hp _ _ tq).1 _ _ F4;rw[anL,eC]at this;exact this
   .obtain⟨i,hi⟩:=List.getElem?_of_mem ha;exact(hp i a hi).2
   ·have hd:x.1=.slice (elems.map (·.1)) (rest.map (·.1)):=alC Prod.fst hx
    have:=hw ((elems.map (·.1)).length+(rest.map (·.1)).length|>(· *P.bytesOf e)) (by rw[hd];simp[DataW.weights,ht])
    simp only[alL]at this;refine al6 (am3 _ ?_) this;omega
def Ar{α:Type}{en:α->List Value}{Good:α->Prop}{t e:TypeId}{k:Nat}{W:World}{base:Nat}{sp:Nat->Bool}{held:Bool}(ht:P.underlying t=some (.slice e))(hk:P.cellsOf e=k)(iC:0<k)(aS:∀a,(en a).length=k)(wL:∀n cs x,DataW.trod enc P W base sp held n e cs=some x->kf P e x.1->∃a,cs=en a∧Good a){n:Nat}{v:Value}{x:DataW H×List MemPlace}(h:DataW.trod enc P W base sp held n t [v]=some x)(hw:kf P t x.1):∃l:List α,SL en W.heap v l∧(∀a∈l,Good a)∧l.length*P.bytesOf e<=reachBytes:=
 aes ht hk iC aS (λn' _ cs x=>wL n' cs x) h hw
def OJ{t e:TypeId}{W:World}{base b0:Nat}{r:Reach}{sp:Nat->Bool}{held:Bool}{v:Value}{d:DataW H}{ps:List MemPlace}(ht:P.underlying t=some (.slice e))(ak6:Value.okWide P W r b0 t v)(h:DataW.Trod enc P W base sp held t v d ps):∃n,DataW.trod enc P W base sp held n t [v]=some (d,ps):=by
 have hv:Cell.okWide P W r b0 t v:=by
  simp only[Value.okWide,ht]at ak6;exact ak6
 obtain⟨n,h⟩:=h;refine⟨n,?_⟩;have:v.cells.toList=[v]:=by
  simp only[Cell.okWide,Cell.ok,ht]at hv;split at hv<;>simp_all [Value.cells]
 rw[<-this];exact h
end
end Go.Sx
namespace Go.Sx
open Go
variable {α:Type}{enc:α->List Value}{size:Nat}
def vT{h:af}{bytes:Nat}{z:List Value}(aS:∀x,(enc x).length=size)(h1:∀x,∀u∈enc x,u.oneCell'=true)(hz:z.length=size){a':Option Addr}{m c2:Nat}{l2:List α}(jj:SL enc h (.slice a' m c2) l2)(hbound:(l2.length*2+768)*bytes<=281474976710656){K:Value->af->Prop}(hk:∀v' h',OL enc size h' v' l2->ag [] h h'->(∀b∈aq v',h.size<=b)->K v' h'):ux h K size bytes z none 0 0 a' m:=by
 refine dZ (l:=[]) aS h1 hz OL.nil jj (by simpa using hbound) λv' h' ho hc hb=>hk v' h' (by simpa using ho) hc λb bh=>?_;rcases hb b bh with h|h
 .simp[bG]at h
 .exact h
end Go.Sx
abbrev Go.Sx.LS : Type := List Go.Sx.aD
namespace Go.Sx.S
abbrev M(d s:Nat):aD:=o d (.mv (t s))
abbrev I(d:Nat)(n:Int):aD:=o d (.mv (i n))
abbrev A(d k s:Nat):aD:=o d (.fa k (t s))
abbrev L(d s:Nat):aD:=o d (.ld1 (t s))
abbrev K(d s:Nat):aD:=o d (.Ah (t s))
abbrev X(d s k:Nat):aD:=o d (.ext (t s) k)
abbrev E(d s:Nat)(n:Int):aD:=o d (.cmp .eql (t s) (i n))
abbrev D(d s:Nat)(n:Int):aD:=o d (.ar .add (t s) (i n))
abbrev G(d k s n:Nat):aD:=o d (.ixs k (t s) (t n))
end Go.Sx.S
abbrev Go.Sx.akX.j(l:List aD)(c:akX):akX:=.seq (.ops l) c
abbrev Go.Sx.akX.k(n:Nat)(l:List aD):akX:=.cond (.tmp n) (.seq (.ops l) .ret) .skip
set_option maxRecDepth 100000
namespace Go.Proofs.YtocgmipngoiieaaGreatDoor.C
open Go Go.Sx Go.Sx.S
noncomputable section
def mixed:Tryz.prog.follows .mixedOrders=true:=Kr
def UY{f:Nat}{fn:Func}{c:Code}{sc:akX}{rs:List gj}(hf:Tryz.prog.funcs[f]? =some fn)(hb:fn.body=some c)(h:(om Tryz.prog f,comp Tryz.prog fn.ntmps c,kH Tryz.prog fn.results.toList)=(true,some sc,some rs)):yp Tryz.prog f fn.ntmps sc rs:=
 Vc mixed hf hb (alC (λx=>x.1) h) (alC (λx=>x.2.1) h) (alC (λx=>x.2.2) h)
def I0(P : Program)(f : Nat)(fn : Func): Option (akX × List gj) :=
  match om P f, fn.body with
  | true, some c => match comp P fn.ntmps c, kH P fn.results.toList with
    | some sc, some rs => some (sc, rs)
    | _, _ => none
  | _, _ => none
structure Cf (P : Program) (f : Nat) where
  sc : akX
  rs : List gj
  nt : Nat
  ok : yp P f nt sc rs
def WS{f : Nat}{fn : Func}{p : akX × List gj}(hf : Tryz.prog.funcs[f]? = some fn)(h : I0 Tryz.prog f fn = some p): yp Tryz.prog f fn.ntmps p.1 p.2 := by
  unfold I0 at h;split at h
  · rename_i aN hb
    split at h
    · rename_i hc hr
      cases h;exact Vc mixed hf hb aN hc hr
    · cases h
  · cases h
def y2s(h): (Tryz.prog.types[2]'h).size = 1 := rfl
def y3s(h): (Tryz.prog.types[3]'h).size = 1 := rfl
def y4s(h): (Tryz.prog.types[4]'h).size = 1 := rfl
def y5s(h): (Tryz.prog.types[5]'h).size = 1 := rfl
def y9s(h): (Tryz.prog.types[9]'h).size = 1 := rfl
def aiK(h): (Tryz.prog.types[22]'h).size = 1 := rfl
def aiL(h): (Tryz.prog.types[26]'h).size = 1 := rfl
def aiM(h): (Tryz.prog.types[27]'h).size = 1 := rfl
def aiS(h): (Tryz.prog.types[33]'h).size = 1 := rfl
def aiT(h): (Tryz.prog.types[35]'h).size = 1 := rfl
def aiV(h): (Tryz.prog.types[37]'h).size = 4 := rfl
def aiW(h): (Tryz.prog.types[38]'h).size = 1 := rfl
def aiX(h): (Tryz.prog.types[43]'h).size = 1 := rfl
def aiY(h): (Tryz.prog.types[44]'h).size = 1 := rfl
def aiZ(h): (Tryz.prog.types[45]'h).size = 1 := rfl
def ai0(h): (Tryz.prog.types[47]'h).size = 7 := rfl
def ai2(h): (Tryz.prog.types[49]'h).size = 8 := rfl
def ai3(h): (Tryz.prog.types[59]'h).size = 1 := rfl
def ai4(h): (Tryz.prog.types[62]'h).size = 1 := rfl
def ai6(h): (Tryz.prog.types[75]'h).size = 2 := rfl
def ai8(h): (Tryz.prog.types[77]'h).size = 2 := rfl
def aiA(h): (Tryz.prog.types[106]'h).size = 5 := rfl
def aiB(h): (Tryz.prog.types[116]'h).size = 1 := rfl
def aiD(h): (Tryz.prog.types[118]'h).size = 5 := rfl
def aiE(h): (Tryz.prog.types[129]'h).size = 1 := rfl
def aiF(h): (Tryz.prog.types[133]'h).size = 1 := rfl
def aiG(h): (Tryz.prog.types[167]'h).size = 1 := rfl
def aiH(h): (Tryz.prog.types[169]'h).size = 6 := rfl
def aiI(h): (Tryz.prog.types[196]'h).size = 1 := rfl
def aiJ(h): (Tryz.prog.types[205]'h).size = 1 := rfl
def aiN(h): (Tryz.prog.types[297]'h).size = 1 := rfl
def aiO(h): (Tryz.prog.types[299]'h).size = 1 := rfl
def aiP(h): (Tryz.prog.types[311]'h).size = 1 := rfl
def aiR(h): (Tryz.prog.types[320]'h).size = 2 := rfl
def y9b(h): (Tryz.prog.types[9]'h).bytes = 16 := rfl
def aiU(h): (Tryz.prog.types[37]'h).bytes = 56 := rfl
def ai1(h): (Tryz.prog.types[49]'h).bytes = 128 := rfl
def ai5(h): (Tryz.prog.types[75]'h).bytes = 32 := rfl
def ai7(h): (Tryz.prog.types[77]'h).bytes = 24 := rfl
def aiC(h): (Tryz.prog.types[118]'h).bytes = 64 := rfl
def aiQ(h): (Tryz.prog.types[320]'h).bytes = 16 := rfl
noncomputable def ay{f : Nat}{fn : Func}(hf : Tryz.prog.funcs[f]? = some fn)(x : {p // I0 Tryz.prog f fn = some p} := by (apply Subtype.mk; conv => (lhs; whnf; dsimp only [y2s, y3s, y4s, y5s, y9s, aiK, aiL, aiM, aiS, aiT, aiV, aiW, aiX, aiY, aiZ, ai0, ai2, ai3, ai4, ai6, ai8, aiA, aiB, aiD, aiE, aiF, aiG, aiH, aiI, aiJ, aiN, aiO, aiP, aiR, y9b, aiU, ai1, ai5, ai7, aiC, aiQ, Value.cells, cond, List.toList_toArray, List.getElem_toArray, List.getElem_cons_succ, List.getElem_cons_zero, vw, List.map_cons, List.map_nil, List.replicate, List.flatten_cons, List.flatten_nil, List.cons_append, List.nil_append]))): Cf Tryz.prog f := ⟨x.1.1, x.1.2, fn.ntmps, WS hf x.2⟩
def Cf.c{P : Program}{f : Nat}(g : Cf P f){args : List Value}{h : af}{R : Ending -> af -> Prop}(s : swp P g.sc (cC g.rs R) (nQ 0 args) [] h)(hl : args.length.ble g.nt = true := by rfl): aj P f args h R := g.ok (amP hl) s
def _root_.Go.Sx.akX.l : akX -> akX
  | .seq a _ => a
  | .cond _ a _ => a
  | .block _ a => a
  | .loop a => a
  | .scope a => a
  | .Aw _ _ a _ => a
  | c => c
def _root_.Go.Sx.akX.r : akX -> akX
  | .seq _ a => a
  | .cond _ _ a => a
  | .Aw _ _ _ a => a
  | c => c
def _root_.Go.Sx.akX.p : akX -> List aD
  | .ops l => l
  | _ => []
def _root_.Go.Sx.akX.t0 : akX -> List aD
  | .two a _ _ => a
  | _ => []
def _root_.Go.Sx.akX.t1 : akX -> List aD
  | .two _ a _ => a
  | _ => []
def _root_.Go.Sx.akX.t2 : akX -> List aD
  | .two _ _ a => a
  | _ => []

def f6:=ay Tryz.func6
def f7:=ay Tryz.func7
def f13:=ay Tryz.func13
def f15:=ay Tryz.func15
def f16:=ay Tryz.func16
def f17:=ay Tryz.func17
def f18:=ay Tryz.func18
def f19:=ay Tryz.func19
abbrev Pu:=f19.sc.r.r.r.r.r.l.r.l.l.r.r.p
def f20:=ay Tryz.func20
def f24:=ay Tryz.func24
def f25:=ay Tryz.func25
def ZK:LS:=[o 2 (.box (t 0)),o 3 (.box (t 1)),o 4 (.mv (b false))]
def ZL:LS:=[A 8 0 2,L 9 8,A 10 0 3,L 11 10,o 12 (.cmp .neq (t 9) (t 11)),M 13 12,
 n 14 13 (.fa 1 (t 2)),
 n 15 13 (.ld1 (t 14)),
 n 16 13 (.fa 1 (t 3)),
 n 17 13 (.ld1 (t 16)),
 n 18 13 (.cmp .neq (t 15) (t 17)),o 19 (.pick (t 13) (b true) (t 18)),M 20 19,
 n 21 20 (.fa 5 (t 2)),
 n 22 20 (.ld1 (t 21)),
 n 23 20 (.fa 5 (t 3)),
 n 24 20 (.ld1 (t 23)),
 n 25 20 (.uI true (t 22) (t 24)),o 26 (.pick (t 20) (b true) (t 25)),M 27 26,
 n 28 27 (.fa 6 (t 2)),
 n 29 27 (.ld1 (t 28)),
 n 30 27 (.fa 6 (t 3)),
 n 31 27 (.ld1 (t 30)),
 n 32 27 (.cmp .neq (t 29) (t 31)),o 33 (.pick (t 27) (b true) (t 32)),M 34 33,
 n 35 34 (.fa 2 (t 2)),
 n 36 34 (.ld1 (t 35)),
 n 37 34 (.len (t 36)),
 n 38 34 (.fa 2 (t 3)),
 n 39 34 (.ld1 (t 38)),
 n 40 34 (.len (t 39)),
 n 41 34 (.cmp .neq (t 37) (t 40)),o 42 (.pick (t 34) (b true) (t 41)),M 43 42,
 n 44 43 (.fa 3 (t 2)),
 n 45 43 (.ld1 (t 44)),
 n 46 43 (.len (t 45)),
 n 47 43 (.fa 3 (t 3)),
 n 48 43 (.ld1 (t 47)),
 n 49 43 (.len (t 48)),
 n 50 43 (.cmp .neq (t 46) (t 49)),o 51 (.pick (t 43) (b true) (t 50)),M 52 51,
 n 53 52 (.fa 4 (t 2)),
 n 54 52 (.ld1 (t 53)),
 n 55 52 (.len (t 54)),
 n 56 52 (.fa 4 (t 3)),
 n 57 52 (.ld1 (t 56)),
 n 58 52 (.len (t 57)),
 n 59 52 (.cmp .neq (t 55) (t 58)),o 60 (.pick (t 52) (b true) (t 59))]
def ZV:LS:=[o 4 (.mv (b false))]
def ZX:LS:=[I 5 0]
def ZY:LS:=[M 61 5,A 62 2 2,L 63 62,o 64 (.len (t 63)),o 65 (.cmp .lss (t 61) (t 64))]
def ZZ:LS:=[A 68 2 2,L 69 68,M 70 5,G 71 2 69 70,o 72 (.ny 2 (t 71)),A 73 2 3,L 74 73,M 75 5,G 76 2 74 75,o 77 (.ny 2 (t 76)),o 78 (.sL true [.str,.str] (t 72) (t 77))]
def Z0:LS:=[o 4 (.mv (b false))]
def Z1:LS:=[M 66 5,D 67 66 1,M 5 67]
def ZJ:akX:=(.seq (.j ZY (.cond (t 65) .skip (.exit 0))) (.seq (.block 1 (.j ZZ (.k 78 Z0))) (.ops Z1)))
def Z2:LS:=[I 6 0]
def ZM:LS:=[M 79 6,A 80 3 2,L 81 80,o 82 (.len (t 81)),o 83 (.cmp .lss (t 79) (t 82))]
def ZN:LS:=[A 86 3 2,L 87 86,M 88 6,G 89 1 87 88,L 90 89,A 91 3 3,L 92 91,M 93 6,G 94 1 92 93,L 95 94,o 96 (.cmp .neq (t 90) (t 95))]
def ZO:LS:=[o 4 (.mv (b false))]
def ZP:LS:=[M 84 6,D 85 84 1,M 6 85]
def ZH:akX:=(.seq (.j ZM (.cond (t 83) .skip (.exit 2))) (.seq (.block 3 (.j ZN (.k 96 ZO))) (.ops ZP)))
def ZQ:LS:=[I 7 0]
def ZR:LS:=[M 97 7,A 98 4 2,L 99 98,o 100 (.len (t 99)),o 101 (.cmp .lss (t 97) (t 100))]
def ZS:LS:=[A 104 4 2,L 105 104,M 106 7,G 107 2 105 106,o 108 (.ny 2 (t 107)),A 109 4 3,L 110 109,M 111 7,G 112 2 110 111,o 113 (.ny 2 (t 112)),o 114 (.sL true [.str,(.int .i64)] (t 108) (t 113))]
def ZT:LS:=[o 4 (.mv (b false))]
def ZU:LS:=[M 102 7,D 103 102 1,M 7 103]
def ZI:akX:=(.seq (.j ZR (.cond (t 101) .skip (.exit 4))) (.seq (.block 5 (.j ZS (.k 114 ZT))) (.ops ZU)))
def ZW:LS:=[o 4 (.mv (b true))]
def f26:akX:=(.j ZK (.seq (.j ZL (.k 60 ZV)) (.seq (.j ZX (.block 0 (.loop ZJ))) (.seq (.j Z2 (.block 2 (.loop ZH))) (.seq (.j ZQ (.block 4 (.loop ZI))) (.j ZW .ret))))))
def ZG:yp Tryz.prog 26 115 f26 [.t 4]:=UY Tryz.func26 Y Kr
def f28:=ay Tryz.func28
def f29:=ay Tryz.func29
def f30:=ay Tryz.func30
def f31:=ay Tryz.func31
def f32:=ay Tryz.func32
def f33:=ay Tryz.func33
def f34:=ay Tryz.func34
def f35:=ay Tryz.func35
def f36:=ay Tryz.func36
def f37:=ay Tryz.func37
def f38:=ay Tryz.func38
def f39:=ay Tryz.func39
def f40:=ay Tryz.func40
def f41:=ay Tryz.func41
def f42:=ay Tryz.func42
def f43:=ay Tryz.func43
def f44:=ay Tryz.func44
def f45:=ay Tryz.func45
def f58:=ay Tryz.func58
def f59:=ay Tryz.func59
def f60:=ay Tryz.func60
def f64:=ay Tryz.func64
def f67:=ay Tryz.func67
def aj8:LS:=[A 12 0 3,L 13 12]
def aj9:LS:=[o 5 (.new [(.bool false),(.bool false),(.bool false),(.int .i64 0),(.bool false),.nilFunc]),o 11 (.eR 113 []),o 14 (.look (.int .i64) (.agg #[(.bool false),(.bool false),(.bool false),(.int .i64 0),(.bool false),.nilFunc]) true (t 11) (t 13)),M 10 14,X 15 10 0,X 16 10 1,q (.st 6 (t 5) (t 15)),M 6 16]
def f68:=ay Tryz.func68
def f69:=ay Tryz.func69
def f70:=ay Tryz.func70
def f75:=ay Tryz.func75
def f92:=ay Tryz.func92
abbrev Z4:=f92.sc.r.r.l.p
abbrev Z5:=f92.sc.r.r.r.l.p
def f99:=ay Tryz.func99
def f100:=ay Tryz.func100
def ajz:LS:=[A 19 4 3,A 21 5 2]
def ajB:LS:=[q (.st 1 (t 21) (b true)),L 20 19,A 22 6 2,q (.st 1 (t 22) (t 20))]
def ajy:LS:=[A 62 3 2,L 63 62,A 65 3 3,L 66 65]
def ajA:LS:=[o 67 (.uB [(.string ⟨#[]⟩)] 1 [(0,1)] [(t 66)]),o 64 (.uy 1 16 [(.string ⟨#[]⟩)] (t 63)),o 68 (.app 1 16 [(.string ⟨#[]⟩)] (t 64) (t 67)),A 69 3 2,q (.st 1 (t 69) (t 68))]
def f101:=ay Tryz.func101
def f102:=ay Tryz.func102
def f103:=ay Tryz.func103
def f113:=ay Tryz.func113
def f114:=ay Tryz.func114
def f119:=ay Tryz.func119
def f136:=ay Tryz.func136
def f137:=ay Tryz.func137
def ajG:LS:=[M 5 0,M 6 0,A 7 4 3,K 9 5,A 10 5 9]
def ajH:LS:=[q (.st 1 (t 10) (b true)),L 8 7,K 11 6,A 12 6 11,q (.st 1 (t 12) (t 8))]
def f138:=ay Tryz.func138
def f139:=ay Tryz.func139
def f140:=ay Tryz.func140
def f141:=ay Tryz.func141
def f142:=ay Tryz.func142
def f143:=ay Tryz.func143
def f144:=ay Tryz.func144
def f145:=ay Tryz.func145
def f146:=ay Tryz.func146
def f147:=ay Tryz.func147
def f148:=ay Tryz.func148
def f149:=ay Tryz.func149
def f150:=ay Tryz.func150
def f151:=ay Tryz.func151
def f215:=ay Tryz.func215
def f216:=ay Tryz.func216
def f217:=ay Tryz.func217
def f218:=ay Tryz.func218
def f221:=ay Tryz.func221
def f222:=ay Tryz.func222
def f223:=ay Tryz.func223
def f224:=ay Tryz.func224
def f225:=ay Tryz.func225
def f226:=ay Tryz.func226
def f227:=ay Tryz.func227
def f228:=ay Tryz.func228
def f248:=ay Tryz.func248
def f252:=ay Tryz.func252
def f253:=ay Tryz.func253
def f289:=ay Tryz.func289
def f290:=ay Tryz.func290
def f294:=ay Tryz.func294
def f295:=ay Tryz.func295
end
end Go.Proofs.YtocgmipngoiieaaGreatDoor.C
namespace Go.Proofs.YtocgmipngoiieaaGreatDoor
open Go Go.Sx C
set_option maxRecDepth 100000 in
def XW{h:af}(a b:BA):aj Tryz.prog 71 [.string a,.string b] h (ao λu h'=>u=.int .i64 (yI a b)∧h'=h):=by
 refine⟨Kr,λw hw=>?_⟩;have key:Calls Tryz.prog 71 #[.string a,.string b] w λe w'=>e=.returned (.int .i64 (Lib.compareBytes a.data.toList b.data.toList))∧w'=w:=by
  go_enter Tryz.func71,Tryz.ntmps71
  go_wp2
  rw[run_callFunc_extern Tryz.func115 Kr Kr Kr (e:=Extern.BytealgCompare.compare) Kr,Lib.run_compareString];simp only[Result.andThen];rw[Oper.upon_value]
  go_wp2
  all_goals go_ret
  all_goals exact⟨Y,Y⟩
 refine key.mono ?_;rintro e w' ⟨rfl,rfl⟩;exact⟨⟨Y,hw⟩,Yy,Y,Y,Y⟩
def BK{h:af}(a b:BA):aj Tryz.prog 36 [.string a,.string b] h (ao λu h'=>u=.int .i64 (yI a b)∧h'=h):=by
 refine f36.c<|akV (XW a b) ?_;rintro _ h1 ⟨rfl,rfl⟩;exact⟨Y,Y⟩
end Go.Proofs.YtocgmipngoiieaaGreatDoor
namespace Go.Proofs.YtocgmipngoiieaaGreatDoor
open Go Go.Sx C
structure bM where
 name:BA
 text:BA
 deriving DecidableEq
structure aF where
 name:BA
 score:Int
 deriving DecidableEq
def aX(p:bM):List Value:=[.string p.name,.string p.text]
def aK(r:aF):List Value:=[.string r.name,.int .i64 r.score]
def encS(s:BA):List Value:=[.string s]
def du(p:bM):(aX p).length=2:=rfl
def dm(p:aF):(aK p).length=2:=rfl
def bj(p:BA):(encS p).length=1:=rfl
def nS(r:bM):∀u∈aX r,u.oneCell'=true:=by
 intro u hu;simp[aX]at hu;rcases hu with rfl|rfl<;>rfl
def ly(r:aF):∀u∈aK r,u.oneCell'=true:=by
 intro u hu;simp[aK]at hu;rcases hu with rfl|rfl<;>rfl
def fP(r:BA):∀u∈encS r,u.oneCell'=true:=by
 intro u hu;simp[encS]at hu;rw[hu];rfl
def YM{a b:bM}(h:aX a=aX b):a=b:=by
 cases a;cases b;simp[aX]at h;simp[h]
def YO{a b:aF}(h:aK a=aK b):a=b:=by
 cases a;cases b;simp[aK]at h;simp[h]
def iL{α:Type}(l:List α)(k:Nat)(h:k<l.length):l.take (k+1)=l.take k++[l[k]]:=by
 rw[alI h]
def rising{α:Type}(lt:α->α->Bool):List α->Bool
 |x::y::l=>lt x y&&rising lt (y::l)
 |_=>true
def vC{α:Type}{lt:α->α->Bool}:∀{l:List α},l.length<=1->rising lt l=true
 |[],_=>rfl
 |[_],_=>rfl
 |_::_::_,h=>by simp at h
def yN{α:Type}{l:List α}{k:Nat}(h1:1<=k)(h:k<l.length):l.drop (k-1)=l[k-1]::l[k]::l.drop (k+1):=by
 rw[alx (show k-1<l.length by omega)];have e:k-1+1=k:=V
 rw[e,alx h]
def NR(g:Nat)(lt:bM->bM->Bool)(h:af):Prop:=∀h' x y,ag [] h h'->aj Tryz.prog g [.agg ⟨aX x⟩,.agg ⟨aX y⟩] h' (ao λu bq=>(∃z,u=.int .i64 z∧(z<0↔lt x y=true))∧ag [] h' bq)
def aft{h:af}{v:Value}{l:List bM}{g:Nat}{lt:bM->bM->Bool}(hv:SL aX h v l)(hl:l.length<4611686018427387904)(hg:NR g lt h):aj Tryz.prog 34 [v,.func (.func g) #[] #[]] h (ao λr h'=>r=.bool (rising lt l)∧ag [] h h'):=by
 obtain⟨a,c,rfl,di⟩:=hv.form;refine f34.c<|bA (λk:Nat=>[(0,.slice a l.length c),(1,.func (.func g) #[] #[]),(5,.int .i64 k)]) (λk h'=>1<=k∧k<=l.length+1∧ag [] h h'∧rising lt l=rising lt (l.drop (k-1))) (λk=>l.length+1-k) 1 J3 ⟨ali _,V,ag.refl h,Y⟩ ?_;rintro k h1 ⟨dR,hk,hc,hr⟩;refine Bi (λah=>?_) λah=>?_
 .have ah:k<l.length:=V
  have bL:=hv.ext hc;obtain⟨b,o,rfl⟩:=hv.addr V;have aI:=bL.cells du (i:=k-1) (x:=l[k-1]) Yy;have iU:=bL.cells du (i:=k) (x:=l[k]) (by simp[ah]);refine Ai Y (λz hz=>?_);have hz:=mG hz V V;have hz:z=((k-1:Nat):Int):=V
  subst hz;refine Ai V (Ai V (Ei (aX l[k-1]) (Ai Y (Ai aI<|Ai V (Ai V (Ei (aX l[k]) (Ai Y (Ai iU<|akV (hg h1 l[k-1] l[k] hc) ?_))))))));rintro _ h2 ⟨⟨z,rfl,kN⟩,aO⟩;rw[yN dR ah,rising]at hr;have e1:l[k]::l.drop (k+1)=l.drop k:=by rw[alx ah]
  rw[e1]at hr;refine Bi (λcp=>?_) λcp=>?_
  .refine Ai ?_ (hc.nil aO);have:lt l[k-1] l[k]=false:=by
    cases hb:lt l[k-1] l[k]with
    |false=>rfl
    |true=>have:=kN.2 hb;omega
   rw[hr,this];rfl
  .have hb:lt l[k-1] l[k]=true:=kN.1 V;rw[hb,amD]at hr;refine Az<|Ai Y (Ei (k+1) (Ai ?_ (Ai ?_ ?_)))
   .exact J3
   .exact⟨V,V,hc.nil aO,by rw[anx];exact hr⟩
   .omega
 .refine Ai ?_ hc;rw[hr,vC Ys];rfl
def NT(g:Nat)(lt:BA->BA->Bool)(h:af):Prop:=∀h' x y,ag [] h h'->aj Tryz.prog g [.string x,.string y] h' (ao λu bq=>(∃z,u=.int .i64 z∧(z<0↔lt x y=true))∧ag [] h' bq)
def afv{h:af}{v:Value}{l:List BA}{g:Nat}{lt:BA->BA->Bool}(hv:SL encS h v l)(hl:l.length<4611686018427387904)(hg:NT g lt h):aj Tryz.prog 37 [v,.func (.func g) #[] #[]] h (ao λr h'=>r=.bool (rising lt l)∧ag [] h h'):=by
 obtain⟨a,c,rfl,di⟩:=hv.form;refine f37.c<|bA (λk:Nat=>[(0,.slice a l.length c),(1,.func (.func g) #[] #[]),(5,.int .i64 k)]) (λk h'=>1<=k∧k<=l.length+1∧ag [] h h'∧rising lt l=rising lt (l.drop (k-1))) (λk=>l.length+1-k) 1 J3 ⟨ali _,V,ag.refl h,Y⟩ ?_;rintro k h1 ⟨dR,hk,hc,hr⟩;refine Bi (λah=>?_) λah=>?_
 .have ah:k<l.length:=V
  have bL:=hv.ext hc;obtain⟨b,o,rfl⟩:=hv.addr V;have aI:=bL.cells bj (i:=k-1) (x:=l[k-1]) Yy;have iU:=bL.cells bj (i:=k) (x:=l[k]) (by simp[ah]);refine Ai Y (λz hz=>?_);have hz:=mG hz V V;have hz:z=((k-1:Nat):Int):=V
  subst hz;refine Ai V (Ai V (Ei _ (Ai (aI 0 _ Y)<|Ai V (Ai V (Ei _ (Ai (iU 0 _ Y)<|akV (hg h1 l[k-1] l[k] hc) ?_))))));rintro _ h2 ⟨⟨z,rfl,kN⟩,aO⟩;rw[yN dR ah,rising]at hr;have e1:l[k]::l.drop (k+1)=l.drop k:=by rw[alx ah]
  rw[e1]at hr;refine Bi (λcp=>?_) λcp=>?_
  .refine Ai ?_ (hc.nil aO);have:lt l[k-1] l[k]=false:=by
    cases hb:lt l[k-1] l[k]with
    |false=>rfl
    |true=>have:=kN.2 hb;omega
   rw[hr,this];rfl
  .have hb:lt l[k-1] l[k]=true:=kN.1 V;rw[hb,amD]at hr;refine Az<|Ai Y (Ei (k+1) (Ai ?_ (Ai ?_ ?_)))
   .exact J3
   .exact⟨V,V,hc.nil aO,by rw[anx];exact hr⟩
   .omega
 .refine Ai ?_ hc;rw[hr,vC Ys];rfl
def NS(g:Nat)(lt:aF->aF->Bool)(h:af):Prop:=∀h' x y,ag [] h h'->aj Tryz.prog g [.agg ⟨aK x⟩,.agg ⟨aK y⟩] h' (ao λu bq=>(∃z,u=.int .i64 z∧(z<0↔lt x y=true))∧ag [] h' bq)
def afu{h:af}{v:Value}{l:List aF}{g:Nat}{lt:aF->aF->Bool}(hv:SL aK h v l)(hl:l.length<4611686018427387904)(hg:NS g lt h):aj Tryz.prog 38 [v,.func (.func g) #[] #[]] h (ao λr h'=>r=.bool (rising lt l)∧ag [] h h'):=by
 obtain⟨a,c,rfl,di⟩:=hv.form;refine f38.c<|bA (λk:Nat=>[(0,.slice a l.length c),(1,.func (.func g) #[] #[]),(5,.int .i64 k)]) (λk h'=>1<=k∧k<=l.length+1∧ag [] h h'∧rising lt l=rising lt (l.drop (k-1))) (λk=>l.length+1-k) 1 J3 ⟨ali _,V,ag.refl h,Y⟩ ?_;rintro k h1 ⟨dR,hk,hc,hr⟩;refine Bi (λah=>?_) λah=>?_
 .have ah:k<l.length:=V
  have bL:=hv.ext hc;obtain⟨b,o,rfl⟩:=hv.addr V;have aI:=bL.cells dm (i:=k-1) (x:=l[k-1]) Yy;have iU:=bL.cells dm (i:=k) (x:=l[k]) (by simp[ah]);refine Ai Y (λz hz=>?_);have hz:=mG hz V V;have hz:z=((k-1:Nat):Int):=V
  subst hz;refine Ai V (Ai V (Ei (aK l[k-1]) (Ai Y (Ai aI<|Ai V (Ai V (Ei (aK l[k]) (Ai Y (Ai iU<|akV (hg h1 l[k-1] l[k] hc) ?_))))))));rintro _ h2 ⟨⟨z,rfl,kN⟩,aO⟩;rw[yN dR ah,rising]at hr;have e1:l[k]::l.drop (k+1)=l.drop k:=by rw[alx ah]
  rw[e1]at hr;refine Bi (λcp=>?_) λcp=>?_
  .refine Ai ?_ (hc.nil aO);have:lt l[k-1] l[k]=false:=by
    cases hb:lt l[k-1] l[k]with
    |false=>rfl
    |true=>have:=kN.2 hb;omega
   rw[hr,this];rfl
  .have hb:lt l[k-1] l[k]=true:=kN.1 V;rw[hb,amD]at hr;refine Az<|Ai Y (Ei (k+1) (Ai ?_ (Ai ?_ ?_)))
   .exact J3
   .exact⟨V,V,hc.nil aO,by rw[anx];exact hr⟩
   .omega
 .refine Ai ?_ hc;rw[hr,vC Ys];rfl
def Og(a:BA)(k:Nat)(h:k<a.size):a[k]? =some (a.data.toList[k]'h):=by
 rw[getElem?_pos a k h];rfl
def MI(a b:BA):aP a b=Op.bytesLess a.data.toList b.data.toList:=by
 unfold aP;rw[Go.ByteArray.toList_eq,Go.ByteArray.toList_eq]
def Xk:∀a:List UInt8,Op.bytesLess a []=false
 |[]=>rfl
 |_::_=>rfl
def Xj{b:List UInt8}(h:b≠[]):Op.bytesLess [] b=true:=by
 cases b with
 |nil=>exact absurd Y h
 |cons=>rfl
def yl{h:af}(a b:BA)(ha:a.size<4611686018427387904)(hb:b.size<4611686018427387904):aj Tryz.prog 44 [.string a,.string b] h (ao λr h'=>r=.bool (aP a b)∧h'=h):=by
 have la:a.data.toList.length=a.size:=rfl;have lb:b.data.toList.length=b.size:=rfl;refine f44.c<|bA (λk:Nat=>[(0,.string a),(1,.string b),(5,.int .i64 k)]) (λk h'=>k<=a.size∧k<=b.size∧h'=h∧aP a b=Op.bytesLess (a.data.toList.drop k) (b.data.toList.drop k)) (λk=>a.size-k) 0 J3 ⟨ak8 _,ak8 _,Y,MI a b⟩ ?_;rintro k h1 ⟨hka,hkb,rfl,hr⟩;have fin:¬(k<a.size∧k<b.size)->(a.size<b.size↔aP a b=true):=by
  intro hn;rw[hr];by_cases h1:k<a.size
  .have:k=b.size:=V
   rw[aod (l:=b.data.toList) V,Xk];simp;omega
  .rw[aod (l:=a.data.toList) V];by_cases h2:k<b.size
   .rw[Xj (by intro e;have:=alC List.length e;simp at this;omega)];simp;omega
   .rw[aod (l:=b.data.toList) V];simp[Op.bytesLess];omega
 have out:¬(k<a.size∧k<b.size)->∀t:Bool,(t=true↔a.size<b.size)->j7 [Value.bool t]=.bool (aP a b)∧h1=h1:=by
  intro hn t ht;refine⟨?_,Y⟩;have e:t=aP a b:=aoT.2 (ht.trans (fin hn));rw[e];rfl
 refine Bi (λah=>?_) λah=>?_
 .refine Bi (λgY=>?_) λgY=>?_
  .have jV:k<a.size:=V
   have pJ:k<b.size:=V
   have ga:=Og a k jV;have gb:=Og b k pJ;have da:a.data.toList.drop k=a.data.toList[k]::a.data.toList.drop (k+1):=alx jV;have db:b.data.toList.drop k=b.data.toList[k]::b.data.toList.drop (k+1):=alx pJ;rw[da,db]at hr;refine Ei _ (Ai V (Ai ga<|Ei _ (Ai V (Ai gb<|Bi (λax=>?_) λheq=>?_))))
   .refine Ei _ (Ai V (Ai ga<|Ei _ (Ai V (Ai gb ?_))));have rT:a.data.toList[k]≠b.data.toList[k]:=by intro e;rw[e]at ax;exact ax Y
    rw[Xi rT]at hr;refine Bi (λhl=>?_) λhl=>?_
    .refine Ai ?_ Y;rw[hr,ale (by rw[ans];omega)];rfl
    .refine Ai ?_ Y;rw[hr,alg (by rw[ans];omega)];rfl
   .have abX:a.data.toList[k]=b.data.toList[k]:=ann.1 V;rw[Xl abX]at hr;refine Az<|Ai Y (Ei (k+1) (Ai ?_ (Ai ?_ ?_)))
    .exact J3
    .exact⟨V,V,Y,hr⟩
    .omega
  .refine Bi (λhl=>?_) λhl=>?_
   .exact out V true Ys
   .exact out V false Ys
 .refine Bi (λhl=>?_) λhl=>?_
  .exact out V true Ys
  .exact out V false Ys
def cS(a b:aF):Bool:=decide (a.score<b.score)||(decide (a.score=b.score)&&aP a.name b.name)
def Nk{h:af}(a b:aF)(ha:a.name.size<4611686018427387904)(hb:b.name.size<4611686018427387904):aj Tryz.prog 45 [.agg ⟨aK a⟩,.agg ⟨aK b⟩] h (ao λu h'=>u=.bool (cS a b)∧ag [] h h'):=by
 refine f45.c ?_;intro b1 h1 g1;intro b2 h2 g2;have B1:ai h2 b1 (aK a):=(show ai h1 b1 (aK a)from g1.blk).ae g2.ae Yy;have B2:ai h2 b2 (aK b):=g2.blk;have hc:=g1.ae.nil g2.ae;refine Ei _ (Ai (an B1 Y) (Ei _ (Ai (an B2 Y)<|Bi (λhl=>?_) λhl=>?_)))
 .exact Ai (by rw[cS,ale hl];rfl) hc
 .refine Ei _ (Ai (an B1 Y) (Ei _ (Ai (an B2 Y)<|Bi (λhe=>?_) λhe=>?_)))
  .refine Ei _ (Ai (an B1 Y) (Ei _ (Ai (an B2 Y)<|akV (yl a.name b.name ha hb) ?_)));rintro _ h3 ⟨rfl,rfl⟩;exact Ai (by rw[cS,alg hl,ale he];rfl) hc
  .exact Ai (by rw[cS,alg hl,alg he];rfl) hc
def XJ{h:af}:NR 35 (λx y=>aP x.name y.name) h:=by
 intro h' x y _;refine f35.c ?_;intro b1 h1 g1;intro b2 h2 g2;have B1:ai h2 b1 (aX x):=(show ai h1 b1 (aX x)from g1.blk).ae g2.ae Yy;have B2:ai h2 b2 (aX y):=g2.blk;refine Ei _ (Ai (an B1 Y) (Ei _ (Ai (an B2 Y)<|akV (BK x.name y.name) ?_)));rintro _ h3 ⟨rfl,rfl⟩;exact Ai (Ei _ (Ai Y (BJ _ _))) (g1.ae.nil g2.ae)
def XV{h:af}:NT 36 aP h:=by
 intro h' x y _;exact(BK x y).mono λe bq he=>by
  cases e<;>first|exact he.elim|skip;obtain⟨rfl,rfl⟩:=he;exact Ai (Ei _ (Ai Y (BJ _ _))) (ag.refl _)
def N4{h:af}:NS 39 cS h:=by
 intro h' x y _;refine f39.c ?_;intro b1 h1 g1;intro b2 h2 g2;have B1:ai h2 b1 (aK x):=(show ai h1 b1 (aK x)from g1.blk).ae g2.ae Yy;have B2:ai h2 b2 (aK y):=g2.blk;have hc:=g1.ae.nil g2.ae;refine Ei _ (Ai (an B1 Y) (Ei _ (Ai (an B2 Y)<|Bi (λhl=>?_) λhl=>?_)))
 .exact Ai (Ei (-1) (Ai Y (by simp[cS,hl]))) hc
 .refine Ei _ (Ai (an B1 Y) (Ei _ (Ai (an B2 Y)<|Bi (λhg=>?_) λhg=>?_)))
  .exact Ai (Ei 1 (Ai Y (by simp[cS];omega))) hc
  .refine Ei _ (Ai (an B1 Y) (Ei _ (Ai (an B2 Y)<|akV (BK x.name y.name) ?_)));rintro _ h3 ⟨rfl,rfl⟩;have e:x.score=y.score:=V
   exact Ai (Ei _ (Ai Y (by rw[BJ];simp[cS,e]))) hc
structure aB where
 kind:Int
 text:BA
 pairs:List bM
 list:List BA
 ranks:List aF
 cP:Bool
 bQ:Int
 deriving DecidableEq
def ahE{a b:aB}(h1:a.kind=b.kind)(h2:a.text=b.text)(h3:a.pairs=b.pairs)(h4:a.list=b.list)(h5:a.ranks=b.ranks)(h6:a.cP=b.cP)(h7:a.bQ=b.bQ):a=b:=by
 cases a;cases b;simp_all
def TH(h:af)(vs:List Value)(t:aB):Prop:=
 ∃pv lv rv,vs=[.int .i64 t.kind,.string t.text,pv,lv,rv,.bool t.cP,.int .i64 t.bQ]∧SL aX h pv t.pairs∧SL encS h lv t.list∧SL aK h rv t.ranks
def TH.ext{h h':af}{vs:List Value}{t:aB}(x:TH h vs t)(hc:ag [] h h'):TH h' vs t:=by
 obtain⟨pv,lv,rv,h1,h2,h3,h4⟩:=x;exact⟨pv,lv,rv,h1,h2.ext hc,h3.ext hc,h4.ext hc⟩
def TH.len{h:af}{vs:List Value}{t:aB}(x:TH h vs t):vs.length=7:=by
 obtain⟨pv,lv,rv,rfl,_⟩:=x;rfl
structure Fits (t:aB):Prop where
 p:t.pairs.length<4611686018427387904
 l:t.list.length<4611686018427387904
 r:t.ranks.length<4611686018427387904
def Wu{h:af}{vs us:List Value}{a b:aB}(ta:TH h vs a)(tb:TH h us b)(fa:Fits a)(fb:Fits b):aj Tryz.prog 26 [.agg ⟨vs⟩,.agg ⟨us⟩] h (ao λr h'=>r=.bool (decide (a=b))∧ag [] h h'):=by
 have fap:=fa.p;have fal:=fa.l;have far:=fa.r;have fbp:=fb.p;have fbl:=fb.l;have fbr:=fb.r;refine ZG Yy ?_;intro b1 h1 g1;intro b2 h2 g2;have B1:ai h2 b1 vs:=(show ai h1 b1 vs from g1.blk).ae g2.ae Yy;have B2:ai h2 b2 us:=g2.blk;have hc:=g1.ae.nil g2.ae;obtain⟨pv,lv,rv,rfl,hp,hl,hr⟩:=ta.ext hc;obtain⟨qv,mv,sv,rfl,hq,hm,hs⟩:=tb.ext hc;obtain⟨pa,pc,rfl,_⟩:=hp.form;obtain⟨la,lc,rfl,_⟩:=hl.form;obtain⟨ra,rc,rfl,_⟩:=hr.form;obtain⟨qa,qc,rfl,_⟩:=hq.form;obtain⟨ma,mc,rfl,_⟩:=hm.form;obtain⟨sa,sc,rfl,_⟩:=hs.form;have bad:a≠b->ao (λr h'=>r=.bool (decide (a=b))∧ag [] h h') (.returned (j7 [Value.bool false])) h2:=λax=>⟨by rw[alg ax];rfl,hc⟩
 refine Ei _ (Ai (an B1 Y) (Ei _ (Ai (an B2 Y)<|Bi (λn1=>?_) λn1=>?_)))
 .exact bad (by rintro rfl;exact n1 Y)
 refine Ei _ (Ai (an B1 Y) (Ei _ (Ai (an B2 Y)<|Ai (λn2=>?_) (λn2=>?_))))
 .exact bad (by rintro rfl;exact n2 Y)
 refine Ei _ (Ai (an B1 Y) (Ei _ (Ai (an B2 Y)<|Ai (λe6=>?_) (λn6=>?_))));rotate_left
 .exact bad (by rintro rfl;exact n6 Y)
 refine Ei _ (Ai (an B1 Y) (Ei _ (Ai (an B2 Y)<|Bi (λn7=>?_) λn7=>?_)))
 .exact bad (by rintro rfl;exact n7 Y)
 refine Ei _ (Ai (an B1 Y) (Ei _ (Ai (an B2 Y)<|Bi (λn3=>?_) λn3=>?_)))
 .exact bad (by rintro rfl;exact n3 Y)
 refine Ei _ (Ai (an B1 Y) (Ei _ (Ai (an B2 Y)<|Bi (λn4=>?_) λn4=>?_)))
 .exact bad (by rintro rfl;exact n4 Y)
 refine Ei _ (Ai (an B1 Y) (Ei _ (Ai (an B2 Y)<|Bi (λn5=>?_) λn5=>?_)))
 .exact bad (by rintro rfl;exact n5 Y)
 have l3:a.pairs.length=b.pairs.length:=V
 have l4:a.list.length=b.list.length:=V
 have l5:a.ranks.length=b.ranks.length:=V
 refine bA (λk:Nat=>[(2,.pointer (some ⟨b1,0,none⟩)),(3,.pointer (some ⟨b2,0,none⟩)),(5,.int .i64 k)]) (λk h'=>k<=a.pairs.length∧h'=h2∧a.pairs.take k=b.pairs.take k) (λk=>a.pairs.length-k) 0 J3 ⟨ak8 _,Y,Y⟩ ?_;rintro k h3 ⟨hk,gU,Gl⟩;have gU:=gU.symm;subst gU;refine Ei _ (Ai (an B1 Y)<|Bi (λah=>?_) λah=>?_)
 .have ah:k<a.pairs.length:=V
  have pP:k<b.pairs.length:=V
  obtain⟨b3,o,rfl⟩:=hp.addr V;obtain⟨b4,o',rfl⟩:=hq.addr V;have aI:=hp.cells du (i:=k) (x:=a.pairs[k]) (by simp[ah]);have iU:=hq.cells du (i:=k) (x:=b.pairs[k]) (by simp[pP]);refine Ei _ (Ai (an B1 Y)<|Ai V (Ai V (Ei (aX a.pairs[k]) (Ai Y (Ai aI<|Ei _ (Ai (an B2 Y)<|Ai V (Ai V (Ei (aX b.pairs[k]) (Ai Y (Ai iU<|Ai Y (Ai Y (Ai (λhe=>?_) (λhd=>?_)))))))))))));rotate_left
  .exact bad (by rintro rfl;exact hd Y)
  have he:a.pairs[k]=b.pairs[k]:=YM he;refine Az<|Ai Y (Ei (k+1) (Ai ?_ (Ai ?_ ?_)))
  .exact J3
  .exact⟨V,Y,by rw[iL a.pairs k ah,iL b.pairs k pP,Gl,he]⟩
  .omega
 have bP:k=a.pairs.length:=V
 have e3:a.pairs=b.pairs:=by
  rw[bP,alm,l3,alm]at Gl;exact Gl
 clear ah bP Gl hk;refine bA (λk:Nat=>[(2,.pointer (some ⟨b1,0,none⟩)),(3,.pointer (some ⟨b2,0,none⟩)),(6,.int .i64 k)]) (λk h'=>k<=a.list.length∧h'=h2∧a.list.take k=b.list.take k) (λk=>a.list.length-k) 0 J3 ⟨ak8 _,Y,Y⟩ ?_;rintro k h3 ⟨hk,gU,rZ⟩;have gU:=gU.symm;subst gU;refine Ei _ (Ai (an B1 Y)<|Bi (λah=>?_) λah=>?_)
 .have ah:k<a.list.length:=V
  have pP:k<b.list.length:=V
  obtain⟨b3,o,rfl⟩:=hl.addr V;obtain⟨b4,o',rfl⟩:=hm.addr V;have aI:=hl.cells bj (i:=k) (x:=a.list[k]) (by simp[ah]);have iU:=hm.cells bj (i:=k) (x:=b.list[k]) (by simp[pP]);refine Ei _ (Ai (an B1 Y)<|Ai V (Ai V (Ei _ (Ai (aI 0 _ Y)<|Ei _ (Ai (an B2 Y)<|Ai V (Ai V (Ei _ (Ai (iU 0 _ Y)<|Ai (λhd=>?_) (λhd=>?_)))))))))
  .exact bad (by rintro rfl;exact hd Y)
  have he:a.list[k]=b.list[k]:=amx.1 hd;refine Az<|Ai Y (Ei (k+1) (Ai ?_ (Ai ?_ ?_)))
  .exact J3
  .exact⟨V,Y,by rw[iL a.list k ah,iL b.list k pP,rZ,he]⟩
  .omega
 have dR:k=a.list.length:=V
 have e4:a.list=b.list:=by
  rw[dR,alm,l4,alm]at rZ;exact rZ
 clear ah dR rZ hk;refine bA (λk:Nat=>[(2,.pointer (some ⟨b1,0,none⟩)),(3,.pointer (some ⟨b2,0,none⟩)),(7,.int .i64 k)]) (λk h'=>k<=a.ranks.length∧h'=h2∧a.ranks.take k=b.ranks.take k) (λk=>a.ranks.length-k) 0 J3 ⟨ak8 _,Y,Y⟩ ?_;rintro k h3 ⟨hk,gU,zF⟩;have gU:=gU.symm;subst gU;refine Ei _ (Ai (an B1 Y)<|Bi (λah=>?_) λah=>?_)
 .have ah:k<a.ranks.length:=V
  have pP:k<b.ranks.length:=V
  obtain⟨b3,o,rfl⟩:=hr.addr V;obtain⟨b4,o',rfl⟩:=hs.addr V;have aI:=hr.cells dm (i:=k) (x:=a.ranks[k]) (by simp[ah]);have iU:=hs.cells dm (i:=k) (x:=b.ranks[k]) (by simp[pP]);refine Ei _ (Ai (an B1 Y)<|Ai V (Ai V (Ei (aK a.ranks[k]) (Ai Y (Ai aI<|Ei _ (Ai (an B2 Y)<|Ai V (Ai V (Ei (aK b.ranks[k]) (Ai Y (Ai iU<|Ai Y (Ai Y (Ai (λhe=>?_) (λhd=>?_)))))))))))));rotate_left
  .exact bad (by rintro rfl;exact hd Y)
  have he:a.ranks[k]=b.ranks[k]:=YO he;refine Az<|Ai Y (Ei (k+1) (Ai ?_ (Ai ?_ ?_)))
  .exact J3
  .exact⟨V,Y,by rw[iL a.ranks k ah,iL b.ranks k pP,zF,he]⟩
  .omega
 have kj:k=a.ranks.length:=V
 have e5:a.ranks=b.ranks:=by
  rw[kj,alm,l5,alm]at zF;exact zF
 clear ah kj zF hk;exact Ai (by rw[ale (ahE (amx.1 n1) (amx.1 n2) e3 e4 e5 e6 (amx.1 n7))];rfl) hc
structure j' (t:aB):Prop where
 p:t.pairs.length<=70000
 l:t.list.length<=70000
 r:t.ranks.length<=70000
def j'.fits{t:aB}(x:j' t):Fits t:=⟨by have:=x.p;omega,by have:=x.l;omega,by have:=x.r;omega⟩
def dX(t:aB):Nat:=t.pairs.length+t.list.length+t.ranks.length
def Fp{h:af}{vs:List Value}{t:aB}(x:TH h vs t)(n:j' t):aj Tryz.prog 31 [.agg ⟨vs⟩] h (ao λr h'=>r=.int .i64 (dX t)∧ag [] h h'):=by
 have np:=n.p;have nl:=n.l;have nr:=n.r;refine f31.c ?_;intro b1 h1 g1;have B1:ai h1 b1 vs:=g1.blk;obtain⟨pv,lv,rv,rfl,hp,hl,hr⟩:=x;obtain⟨pa,pc,rfl,_⟩:=hp.form;obtain⟨la,lc,rfl,_⟩:=hl.form;obtain⟨ra,rc,rfl,_⟩:=hr.form;refine Ei _ (Ai (an B1 Y) (Ei _ (Ai (an B1 Y)<|Ai Y (λz hz=>?_))));have hz:=cd hz V V;refine Ei _ (Ai (an B1 Y)<|Ai Y (λy hy=>?_));have hy:=cd hy V V;refine Ai ?_ g1.ae;have:y=(dX t:Int):=by unfold dX;omega
 rw[this];rfl
def ag2(s:BA)(h:af):aj Tryz.prog 70 [.string s] h (ao λr h'=>r=.bool (decide (1048576<s.size))∧h'=h):=by
 refine f70.c<|Bi (λhl=>?_) λhl=>?_
 .exact Ai (by rw[ale V];rfl) Y
 .exact Ai (by rw[alg V];rfl) Y
def acP{g:Nat}(hg:∀(s:BA)(h:af),aj Tryz.prog g [.string s] h (ao λr h'=>r=.bool (decide (1048576<s.size))∧h'=h)){h:af}{v:Value}{l:List BA}(hv:SL encS h v l)(hl:l.length<4611686018427387904):aj Tryz.prog 114 [v,.func (.func g) #[] #[]] h (ao λr h'=>(∃z,r=.int .i64 z∧(z<0↔∀s∈l,s.size<=1048576))∧h'=h):=by
 obtain⟨a,c,rfl,di⟩:=hv.form;refine f114.c<|bA (λk:Nat=>[(0,.slice a l.length c),(1,.func (.func g) #[] #[]),(7,.int .i64 l.length),(8,.int .i64 k)]) (λk h'=>k<=l.length∧h'=h∧∀s∈l.take k,s.size<=1048576) (λk=>l.length-k) 0 J4 ⟨ak8 _,Y,Yy⟩ ?_;rintro k h9 ⟨hk,rfl,ht⟩;refine Bi (λah=>?_) λah=>?_
 .have ah:k<l.length:=V
  obtain⟨b,o,rfl⟩:=hv.addr V;have aI:=hv.cells bj (i:=k) (x:=l[k]) (by simp[ah]);refine Ai V (Ai V (Ei _ (Ai (aI 0 _ Y)<|akV (hg l[k] _) ?_)));rintro r _ ⟨hr,rfl⟩;by_cases hs:1048576<l[k].size
  .rw[ale hs]at hr;subst hr;refine Ai (Ei k (Ai Y ?_)) Y;constructor
   .intro h;omega
   .intro h;have:=h l[k] (ak9 ah);omega
  .rw[alg hs]at hr;subst hr;refine Az<|Ai Y (Ei (k+1) (Ai ?_ (Ai ?_ ?_)))
   .exact J4
   .refine⟨V,Y,λs eG=>?_⟩;rw[iL l k ah]at eG;rcases alf.1 eG with eG|eG
    .exact ht s eG
    .have:s=l[k]:=by simpa using eG
     rw[this];omega
   .omega
 .have aZ:k=l.length:=V
  rw[aZ,alm]at ht;exact Ai (Ei (-1) (Ai Y ⟨λ_=>ht,λ_=>Dd⟩)) Y
def ox(l:List BA):Bool:=l.all λs=>decide (s.size<=1048576)
def xU{l:List BA}:ox l=true↔∀s∈l,s.size<=1048576:=by simp[ox]
def OT{g:Nat}(hg:∀(s:BA)(h:af),aj Tryz.prog g [.string s] h (ao λr h'=>r=.bool (decide (1048576<s.size))∧h'=h)){h:af}{v:Value}{l:List BA}(hv:SL encS h v l)(hl:l.length<4611686018427387904):aj Tryz.prog 69 [v,.func (.func g) #[] #[]] h (ao λr h'=>r=.bool (!ox l)∧h'=h):=by
 refine f69.c<|akV (acP hg hv hl) ?_;rintro _ _ ⟨⟨z,rfl,hz⟩,rfl⟩;rw[<-xU]at hz;refine Bi (λhg=>?_) λhg=>?_
 .have:ox l=false:=by
   cases hs:ox l with
   |false=>rfl
   |true=>have:=hz.2 hs;omega
  exact Ai (by rw[this];rfl) Y
 .exact Ai (by rw[hz.1 V];rfl) Y
def xV{h:af}{v:Value}{l:List BA}(hv:SL encS h v l)(hl:l.length<4611686018427387904):aj Tryz.prog 32 [v] h (ao λr h'=>r=.bool (ox l)∧h'=h):=by
 refine f32.c ?_;refine akV (OT ag2 hv hl) ?_;rintro _ _ ⟨rfl,rfl⟩;exact Ai (by cases ox l<;>rfl) Y
def DF(t:aB):List BA:=t.pairs.flatMap (λp=>[p.name,p.text])++t.ranks.map aF.name
def Sn{h:af}{vs:List Value}{t:aB}(x:TH h vs t)(n:j' t):aj Tryz.prog 33 [.agg ⟨vs⟩] h (ao λr h'=>OL encS 1 h' r (DF t)∧ag [] h h'):=by
 have np:=n.p;have nr:=n.r;refine f33.c ?_;intro b1 h1 g1;have B1:ai h1 b1 vs:=g1.blk;have bd:=g1.ae;obtain⟨pv,lv,rv,rfl,hp,hl,hr⟩:=x.ext bd;obtain⟨pa,pc,rfl,_⟩:=hp.form;obtain⟨ra,rc,rfl,_⟩:=hr.form;refine Ei _ (Ai (an B1 Y) ?_);have fl:∀k,((t.pairs.take k).flatMap λp=>[p.name,p.text]).length<=2*k:=by
  intro k;induction k with
  |zero=>simp
  |succ k ih=>
   by_cases hk:k<t.pairs.length
   .rw[iL t.pairs k hk,anh];simp at ih⊢;omega
   .rw[amo V]at ih⊢;omega
 refine bA (λi:Nat×Value=>[(1,.pointer (some ⟨b1,0,none⟩)),(3,i.2),(9,.slice pa t.pairs.length pc),(10,.int .i64 t.pairs.length),(11,.int .i64 i.1)])
  (λi h'=>i.1<=t.pairs.length∧ag [] h1 h'∧OL encS 1 h' i.2 ((t.pairs.take i.1).flatMap λp=>[p.name,p.text])∧∀b∈aq i.2,h1.size<=b) (λi=>t.pairs.length-i.1) (0,.slice none 0 0) J5
  ⟨ak8 _,ag.refl _,OL.nil,by simp[aq,bG]⟩ ?_
 rintro⟨k,ov⟩ h2 ⟨hk,aO,ho,tA⟩;simp only at hk ho tA;refine Bi (λah=>?_) λah=>?_
 .have dk:k<t.pairs.length:=V
  obtain⟨b,o,rfl⟩:=hp.addr V;have aI:=(hp.ext aO).cells du (i:=k) (x:=t.pairs[k]) (by simp[dk]);obtain⟨oa,oc,rfl,_⟩:=ho.sl.form;refine Ai V (Ai V (Ei (aX t.pairs[k]) (Ai Y (Ai aI ?_))));intro b3 h3 g3;refine Ei _ (Ai g3.blk (Ai Dd (Ai Y (Ai (nS _) ?_))));intro h4 p4;have g4:=g3.put p4;have B4:ai h4 b3 (aX t.pairs[k]):=g4.blk;refine Ei _ (Ai (an B4 Y) (Ei _ (Ai (an B4 Y) ?_)));intro b5 h5 g5;have dY:=g4.ae.nil g5.ae;have jj:SL encS h5 (.slice (some ⟨b5,0,none⟩) 2 2) [t.pairs[k].name,t.pairs[k].text]:=⟨_,_,Y,ali _,akW g5.blk⟩
  have hfl:=fl k;refine dZ bj fP Y (ho.ext dY) jj (by simp at hfl⊢;omega) ?_;intro v' h6 ho6 iz mU;have JO:ag [] h1 h6:=(aO.nil dY).fresh iz tA;refine Az<|Ai Y (Ei (k+1,v') (Ai ?_ (Ai ?_ ?_)))
  .exact J5
  .refine⟨by simp only;omega,JO,?_,λb' bh=>?_⟩
   .simp only;rw[iL t.pairs k dk,anh];exact ho6
   .rcases mU b' bh with h|h
    .exact tA b' h
    .have:=(aO.nil dY).size;omega
  .simp only;omega
 have aZ:k=t.pairs.length:=V
 rw[aZ,alm]at ho;have B2:=B1.ae aO Yy;refine Ei _ (Ai (an B2 Y) ?_);have flp:(t.pairs.flatMap λp=>[p.name,p.text]).length<=140000:=by
  have:=fl t.pairs.length;rw[alm]at this;omega
 refine bA (λi:Nat×Value=>[(3,i.2),(24,.slice ra t.ranks.length rc),(25,.int .i64 t.ranks.length),(26,.int .i64 i.1)])
  (λi h'=>i.1<=t.ranks.length∧ag [] h1 h'∧OL encS 1 h' i.2 (t.pairs.flatMap (λp=>[p.name,p.text])++(t.ranks.take i.1).map aF.name)∧∀b∈aq i.2,h1.size<=b) (λi=>t.ranks.length-i.1) (0,ov) J4
  ⟨ak8 _,aO,by simpa using ho,tA⟩ ?_
 clear ah aZ hk tA ho;rintro⟨k,ov⟩ h2 ⟨hk,aO,ho,tA⟩;simp only at hk ho tA;refine Bi (λah=>?_) λah=>?_
 .have dk:k<t.ranks.length:=V
  obtain⟨b,o,rfl⟩:=hr.addr V;have aI:=(hr.ext aO).cells dm (i:=k) (x:=t.ranks[k]) (by simp[dk]);obtain⟨oa,oc,rfl,_⟩:=ho.sl.form;refine Ai V (Ai V (Ei (aK t.ranks[k]) (Ai Y (Ai aI ?_))));intro b3 h3 g3;refine Ei _ (Ai g3.blk (Ai Dd (Ai Y (Ai (ly _) ?_))));intro h4 p4;have g4:=g3.put p4;have B4:ai h4 b3 (aK t.ranks[k]):=g4.blk;refine Ei _ (Ai (an B4 Y) ?_);intro b5 h5 g5;have dY:=g4.ae.nil g5.ae;have jj:SL encS h5 (.slice (some ⟨b5,0,none⟩) 1 1) [t.ranks[k].name]:=SL.one bj g5.blk;refine dZ bj fP Y (ho.ext dY) jj (by simp at flp⊢;omega) ?_;intro v' h6 ho6 iz mU;have JO:ag [] h1 h6:=(aO.nil dY).fresh iz tA;refine Az<|Ai Y (Ei (k+1,v') (Ai ?_ (Ai ?_ ?_)))
  .exact J4
  .refine⟨by simp only;omega,JO,?_,λb' bh=>?_⟩
   .simp only;rw[iL t.ranks k dk,alD,<-alG];exact ho6
   .rcases mU b' bh with h|h
    .exact tA b' h
    .have:=(aO.nil dY).size;omega
  .simp only;omega
 have aZ:k=t.ranks.length:=V
 rw[aZ,alm]at ho;exact Ai ho (bd.nil aO)
def Ls{k:Kd}{a:Value}(ha:fits k a=true):∀(es:List MapEntry)(i:Nat),(∀e∈es,fits k e.key=true)->bH a es i=none->∀e∈es,e.key≠a
 |[],_,_,_,e,he=>by simp at he
 |x::es,i,hf,h,e,he=>by
  simp only[bH]at h;split at h
  .simp at h
  .rename_i hs;rcases ak3.1 he with rfl|he
   .intro e;exact hs (by rw[e];exact xS ha)
   .exact Ls ha es (i+1) (λy hy=>hf y (by simp[hy])) h e he
def modify_keys(f:MapEntry->MapEntry)(hf:∀e,(f e).key=e.key):∀(es:List MapEntry)(i:Nat),(es.modify i f).map (·.key)=es.map (·.key)
 |[],i=>Yy
 |e::es,0=>by simp[hf]
 |e::es,i+1=>by simp[modify_keys f hf es i]
def mem_modify{f:MapEntry->MapEntry}:∀{es:List MapEntry}{i:Nat}{e:MapEntry},e∈es.modify i f->e∈es∨∃x∈es,e=f x
 |[],i,e,h=>by simp at h
 |x::es,0,e,h=>by
  simp at h;rcases h with rfl|h
  .exact .inr ⟨x,Yy,Y⟩
  .exact .inl (by simp[h])
 |x::es,i+1,e,h=>by
  simp at h;rcases h with rfl|h
  .exact .inl Yy
  .rcases mem_modify h with h|⟨y,hy,rfl⟩
   .exact .inl (by simp[h])
   .exact .inr ⟨y,by simp[hy],Y⟩
structure Seen (h:af) (mb:Nat) (m:List BA):Prop where
 ex:∃(es:List MapEntry)(c:Nat)(ks:List BA),cN h mb es c∧es.map (·.key)=ks.map Value.string∧(∀n,n∈ks↔n∈m)∧(ks.length=m.length↔m.Nodup)∧ks.length<=m.length∧∀e∈es,∃z,e.val=.int .i64 z
def LJ{m:List BA}{n:BA}:(m++[n]).Nodup↔m.Nodup∧n∉m:=by
 rw[amN];constructor
 .rintro⟨h1,_,h3⟩;exact⟨h1,λhm=>h3 n hm n Yy Y⟩
 .rintro⟨h1,h2⟩;refine⟨h1,Yy,λa ha b hb=>?_⟩;have:b=n:=by simpa using hb
  rw[this];rintro rfl;exact h2 ha
def xI(l:List aF):Bool:=decide (l.map aF.name).Nodup
def aef{h:af}{v:Value}{l:List aF}(hv:SL aK h v l)(hl:l.length<4611686018427387904):aj Tryz.prog 40 [v] h (ao λr h'=>r=.bool (xI l)∧ag [] h h'):=by
 obtain⟨a,c,rfl,di⟩:=hv.form;refine f40.c ?_;intro mb h1 g1;have rR:Seen h1 mb []:=⟨[],0,[],g1.blk,Y,Yy,Yy,Yy,Yy⟩
 have rS:h.size<=mb:=by rw[g1.id];exact ali _
 refine bA (λk:Nat=>[(0,.slice a l.length c),(3,.map (some mb)),(7,.slice a l.length c),(8,.int .i64 l.length),(9,.int .i64 k)]) (λk h'=>k<=l.length∧ag [] h h'∧Seen h' mb ((l.take k).map aF.name)) (λk=>l.length-k) 0
  J5 ⟨ak8 _,g1.ae,rR⟩ ?_
 rintro k h2 ⟨hk,aO,hs⟩;refine Bi (λah=>?_) λah=>?_
 .have dk:k<l.length:=V
  obtain⟨b,o,rfl⟩:=hv.addr V;have aI:=(hv.ext aO).cells dm (i:=k) (x:=l[k]) (by simp[dk]);refine Ai V (Ai V (Ei (aK l[k]) (Ai Y (Ai aI ?_))));intro b3 h3 g3;refine Ei _ (Ai g3.blk (Ai Dd (Ai Y (Ai (ly _) ?_))));intro h4 p4;have g4:=g3.put p4;have B4:ai h4 b3 (aK l[k]):=g4.blk;obtain⟨es,cl,ks,mo,oN,dF,dt,hle,Gp⟩:=hs.ex;have Kl:cN h4 mb es cl:=mo.ae g4.ae Yy;have ff:∀e∈es,fits .str e.key=true:=by
   intro e he
   have:e.key∈es.map (·.key):=alF.2 ⟨e,he,Y⟩
   rw[oN]at this;obtain⟨n,_,hn⟩:=alF.1 this;rw[<-hn];rfl
  refine Ei _ (Ai (an B4 Y)<|Ai Y (Ei es (Ei cl (Ai Kl (Ai ff ?_)))));have ej:(l.take (k+1)).map aF.name=(l.take k).map aF.name++[l[k].name]:=by rw[iL l k dk,alD];rfl
  have dw:=aO.nil g4.ae;cases eS:bH (.string l[k].name) es 0 with
  |none=>
   have zB:=Ls (k:=.str) Y es 0 ff eS;have hnk:l[k].name∉ks:=by
    intro hm
    have:Value.string l[k].name∈es.map (·.key):=by rw[oN];exact alF.2 ⟨_,hm,Y⟩
    obtain⟨e,he,qI⟩:=alF.1 this;exact zB e he qI
   refine Ai Y (λz hz=>Ai Y (Ei es (Ei cl (Ai Kl (Ai ff ?_)))));rw[eS];intro h5 p5;refine Az<|Ai Y (Ei (k+1) (Ai ?_ (Ai ?_ ?_)))
   .exact J5
   .refine⟨V,dw.fresh p5.ae (by simp;exact rS),⟨_,_,ks++[l[k].name],p5.blk,by rw[alD,alD,oN];rfl,?_,?_,?_,?_⟩⟩
    .intro n;rw[ej];simp[dF n]
    .have ach:l[k].name∉(l.take k).map aF.name:=λh=>hnk ((dF _).2 h);rw[ej,LJ];simp only[ak1,ak0,aly];constructor
     .intro h;exact⟨dt.1 V,ach⟩
     .rintro⟨h,_⟩;have:=dt.2 h;omega
    .rw[ej];simp only[ak1,ak0,aly];omega
    .intro e he;rcases alf.1 he with he|he
     .exact Gp e he
     .have:e={key:=.string l[k].name,val:=.int .i64 z,born:=cl}:=by simpa using he
      rw[this];exact⟨z,Y⟩
   .omega
  |some p=>
   obtain⟨i,w⟩:=p;obtain⟨_,e0,Cx,qI,jw⟩:=DB (k:=.str) Y es 0 i w ff eS;have uT:e0∈es:=al9 Cx;obtain⟨zz,hzz⟩:=Gp e0 uT;rw[hzz]at jw;subst jw;have hin:l[k].name∈ks:=by
    have:Value.string l[k].name∈es.map (·.key):=alF.2 ⟨e0,uT,qI⟩
    rw[oN]at this;obtain⟨n,hn,ax⟩:=alF.1 this;cases ax;exact hn
   refine Ai Y (λz hz=>Ai Y (Ei es (Ei cl (Ai Kl (Ai ff ?_)))));rw[eS];intro h5 p5;refine Az<|Ai Y (Ei (k+1) (Ai ?_ (Ai ?_ ?_)))
   .exact J5
   .refine⟨V,dw.fresh p5.ae (by simp;exact rS),⟨_,_,ks,p5.blk,by rw[modify_keys (λe=>{e with val:=.int .i64 z}) (λ_=>rfl)];exact oN,?_,?_,?_,?_⟩⟩
    .intro n;rw[ej];simp only[alf,alE,dF n];constructor
     .exact .inl
     .rintro(h|rfl)
      .exact h
      .exact(dF _).1 hin
    .rw[ej,LJ];simp only[ak1,ak0,aly];constructor
     .intro h;omega
     .rintro⟨_,h⟩;exact absurd ((dF _).1 hin) h
    .rw[ej];simp only[ak1,ak0,aly];omega
    .intro e he;rcases mem_modify he with he|⟨x,_,rfl⟩
     .exact Gp e he
     .exact⟨_,Y⟩
   .omega
 .have aZ:k=l.length:=V
  rw[aZ,alm]at hs;obtain⟨es,cl,ks,mo,oN,dF,dt,hle,Gp⟩:=hs.ex;have wL:es.length=ks.length:=by
   have:=alC List.length oN;simpa using this
  simp only[alL]at dt;refine Ei es (Ei cl (Ai mo<|Bi (λhe=>?_) λhe=>?_))
  .exact Ai (by rw[xI,ale (dt.1 V)];rfl) aO
  .exact Ai (by rw[xI,alg (λh=>he (by have:=dt.2 h;omega))];rfl) aO
structure Small (t:aB):Prop where
 p:t.pairs.length<=40
 l:t.list.length<=40
 r:t.ranks.length<=40
 text:t.text.size<=2000
 ps:∀x∈t.pairs,x.name.size<=2000∧x.text.size<=2000
 ls:∀x∈t.list,x.size<=2000
 rs:∀x∈t.ranks,x.name.size<=2000
structure A9 (t:aB):Prop where
 text:t.text.size<1000000000000000000
 ps:∀x∈t.pairs,x.name.size<1000000000000000000∧x.text.size<1000000000000000000
 ls:∀x∈t.list,x.size<1000000000000000000
 rs:∀x∈t.ranks,x.name.size<1000000000000000000
def Small.lens{t:aB}(s:Small t):j' t:=⟨by have:=s.p;omega,by have:=s.l;omega,by have:=s.r;omega⟩
def au:BA:=⟨#[]⟩
def fR(t:aB):Bool:=
 if t.cP=false∧t.bQ≠0 then false else
 if t.kind=1 then decide (t.pairs.length+t.list.length+t.ranks.length=0)else
 if t.kind=2 then decide (0<t.pairs.length)&&(decide (t.list.length+t.ranks.length=0)&&(decide (t.text=au)&&rising (λx y=>aP x.name y.name) t.pairs))else
 if t.kind=3 then decide (0<t.list.length)&&(decide (t.pairs.length+t.ranks.length=0)&&decide (t.text=au))else
 if t.kind=4 then decide (0<t.list.length)&&(decide (t.pairs.length+t.ranks.length=0)&&(decide (t.text=au)&&rising aP t.list))else
 if t.kind=5 then decide (0<t.ranks.length)&&(decide (t.pairs.length+t.list.length=0)&&(decide (t.text=au)&&(rising cS t.ranks&&xI t.ranks)))else false
def U7{t:aB}(s:Small t):ox [t.text]=true∧ox t.list=true∧ox (DF t)=true∧dX t<=65536:=by
 have:=s.text;have hp:=s.p;have hl:=s.l;have hr:=s.r;refine⟨by rw[xU];intro x hx;simp at hx;rw[hx];omega,by rw[xU];intro x hx;have:=s.ls x hx;omega,?_,by unfold dX;omega⟩;rw[xU];intro x hx;simp only[DF,alf,aoI,alF]at hx;rcases hx with⟨p,hp,hx⟩|⟨r,hr,rfl⟩
 .have:=s.ps p hp;simp at hx;rcases hx with rfl|rfl<;>omega
 .have:=s.rs r hr;omega
def Sm{t:aB}(s:Small t):(DF t).length<4611686018427387904:=by
 have hp:=s.p;have hr:=s.r;unfold DF;have:∀l:List bM,(l.flatMap λp=>[p.name,p.text]).length=2*l.length:=by
  intro l;induction l with
  |nil=>rfl
  |cons x l ih=>simp at ih⊢;omega
 rw[ak1,this,alL];omega
def NJ{h h0:af}{b1:Nat}{vs:List Value}{t:aB}(s:Small t)(hc:ag [] h0 h)(B1:ai h b1 vs)(x:TH h vs t)(hu:¬(t.cP=false∧t.bQ≠0)):swp Tryz.prog f16.sc.r.r.r
   (cC [.t 2] (ao λr h'=>r=.bool (fR t)∧ag [] h0 h')) (mk [(1,.pointer (some ⟨b1,0,none⟩)),(2,.bool false),(3,.int .i64 t.pairs.length),(4,.int .i64 t.list.length),(5,.int .i64 t.ranks.length)]) [] h:=by
 have sp:=s.p;have sl:=s.l;have sr:=s.r;obtain⟨pv,lv,rv,rfl,hp,hl,hr⟩:=x;have e0:fR t=if t.kind=1 then decide (t.pairs.length+t.list.length+t.ranks.length=0)else
   if t.kind=2 then decide (0<t.pairs.length)&&(decide (t.list.length+t.ranks.length=0)&&(decide (t.text=au)&&rising (λx y=>aP x.name y.name) t.pairs))else
   if t.kind=3 then decide (0<t.list.length)&&(decide (t.pairs.length+t.ranks.length=0)&&decide (t.text=au))else
   if t.kind=4 then decide (0<t.list.length)&&(decide (t.pairs.length+t.ranks.length=0)&&(decide (t.text=au)&&rising aP t.list))else
   if t.kind=5 then decide (0<t.ranks.length)&&(decide (t.pairs.length+t.list.length=0)&&(decide (t.text=au)&&(rising cS t.ranks&&xI t.ranks)))else false:=by
  unfold fR;rw[akZ hu]
 rw[e0];refine Ei _ (Ai (an B1 Y)<|Bi (λk1=>?_) λk1=>?_)
 .rw[ak4 k1];refine Ai Y (λz hz=>?_);have hz:=cd hz V V;refine Ai Y (λy hy=>?_);have hy:=cd hy V V;refine Bi (λhe=>?_) λhe=>?_
  .exact Ai (by rw[ale V];rfl) hc
  .exact Ai (by rw[alg V];rfl) hc
 rw[akZ k1];refine Bi (λk2=>?_) λk2=>?_
 .rw[ak4 k2];refine Bi (λg1=>?_) λg1=>?_;rotate_left
  .exact Ai (by rw[alg V];rfl) hc
  rw[ale (show 0<t.pairs.length by omega),amD];refine Ai Y (λz hz=>?_);have hz:=cd hz V V;refine Bi (λg2=>?_) λg2=>?_;rotate_left
  .exact Ai (by rw[alg V];rfl) hc
  rw[ale (show t.list.length+t.ranks.length=0 by omega),amD];refine Ei _ (Ai (an B1 Y)<|Ai (λg3=>?_) (λg3=>?_));rotate_left
  .exact Ai (by rw[alg (show¬t.text=au from g3)];rfl) hc
  rw[ale (show t.text=au from g3),amD];refine Ei _ (Ai (an B1 Y)<|akV (aft hp V XJ) ?_);rintro _ h2 ⟨rfl,aO⟩;exact Ai Y (hc.nil aO)
 rw[akZ k2];refine Bi (λk3=>?_) λk3=>?_
 .rw[ak4 k3];refine Bi (λg1=>?_) λg1=>?_;rotate_left
  .exact Ai (by rw[alg V];rfl) hc
  rw[ale (show 0<t.list.length by omega),amD];refine Ai Y (λz hz=>?_);have hz:=cd hz V V;refine Bi (λg2=>?_) λg2=>?_;rotate_left
  .exact Ai (by rw[alg V];rfl) hc
  rw[ale (show t.pairs.length+t.ranks.length=0 by omega),amD];refine Ei _ (Ai (an B1 Y)<|Ai (λg3=>?_) (λg3=>?_))
  .exact Ai (by rw[ale (show t.text=au from g3)];rfl) hc
  .exact Ai (by rw[alg (show¬t.text=au from g3)];rfl) hc
 rw[akZ k3];refine Bi (λk4=>?_) λk4=>?_
 .rw[ak4 k4];refine Bi (λg1=>?_) λg1=>?_;rotate_left
  .exact Ai (by rw[alg V];rfl) hc
  rw[ale (show 0<t.list.length by omega),amD];refine Ai Y (λz hz=>?_);have hz:=cd hz V V;refine Bi (λg2=>?_) λg2=>?_;rotate_left
  .exact Ai (by rw[alg V];rfl) hc
  rw[ale (show t.pairs.length+t.ranks.length=0 by omega),amD];refine Ei _ (Ai (an B1 Y)<|Ai (λg3=>?_) (λg3=>?_));rotate_left
  .exact Ai (by rw[alg (show¬t.text=au from g3)];rfl) hc
  rw[ale (show t.text=au from g3),amD];refine Ei _ (Ai (an B1 Y)<|akV (afv hl V XV) ?_);rintro _ h2 ⟨rfl,aO⟩;exact Ai Y (hc.nil aO)
 rw[akZ k4];refine Bi (λk5=>?_) λk5=>?_
 .rw[ak4 k5];refine Bi (λg1=>?_) λg1=>?_;rotate_left
  .exact Ai (by rw[alg V];rfl) hc
  rw[ale (show 0<t.ranks.length by omega),amD];refine Ai Y (λz hz=>?_);have hz:=cd hz V V;refine Bi (λg2=>?_) λg2=>?_;rotate_left
  .exact Ai (by rw[alg V];rfl) hc
  rw[ale (show t.pairs.length+t.list.length=0 by omega),amD];refine Ei _ (Ai (an B1 Y)<|Ai (λg3=>?_) (λg3=>?_));rotate_left
  .exact Ai (by rw[alg (show¬t.text=au from g3)];rfl) hc
  rw[ale (show t.text=au from g3),amD];refine Ei _ (Ai (an B1 Y)<|akV (afu hr V N4) ?_);rintro r2 h2 ⟨cJ,aO⟩;cases QW:rising cS t.ranks with
  |false=>
   rw[QW]at cJ;subst cJ;exact Ai Y (hc.nil aO)
  |true=>
   rw[QW]at cJ;subst cJ;have B2:=B1.ae aO Yy;refine Ei _ (Ai (an B2 Y)<|akV (aef (hr.ext aO) V) ?_);rintro _ h3 ⟨rfl,bB⟩;exact Ai Y ((hc.nil aO).nil bB)
 rw[akZ k5];exact Ai Y hc
def Wd{h:af}{vs:List Value}{t:aB}(x:TH h vs t)(s:Small t):aj Tryz.prog 16 [.agg ⟨vs⟩] h (ao λr h'=>r=.bool (fR t)∧ag [] h h'):=by
 have sp:=s.p;have sl:=s.l;have sr:=s.r;obtain⟨q1,q2,q3,q4⟩:=U7 s;refine f16.c ?_;intro b1 h1 g1;have B1:ai h1 b1 vs:=g1.blk;have bd:=g1.ae;have x1:=x.ext bd;have x1':=x1;obtain⟨pv,lv,rv,rfl,hp,hl,hr⟩:=x1;obtain⟨pa,pc,rfl,_⟩:=hp.form;obtain⟨la,lc,rfl,_⟩:=hl.form;obtain⟨ra,rc,rfl,_⟩:=hr.form;have fin:∀h2,ag [] h1 h2->¬(t.cP=false∧t.bQ≠0)->ag [] h h2∧TH h2 [.int .i64 t.kind,.string t.text,.slice pa t.pairs.length pc,.slice la t.list.length lc,.slice ra t.ranks.length rc,.bool t.cP,.int .i64 t.bQ] t:=
  λh2 aO _=>⟨bd.nil aO,x1'.ext aO⟩
 refine Ei _ (Ai (an B1 Y) ?_);have bU:ai h1 b1 [.int .i64 t.kind,.string t.text,.slice pa t.pairs.length pc,.slice la t.list.length lc,.slice ra t.ranks.length rc,.bool t.cP,.int .i64 t.bQ]:=B1;cases hU:t.cP with
 |false=>
  refine Ei _ (Ai (an B1 Y)<|Bi (λu0=>?_) λu0=>?_)
  .exact Ai (by unfold fR;rw[ak4 ⟨hU,u0⟩];rfl) bd
  have hu:¬(t.cP=false∧t.bQ≠0):=λh=>u0 h.2;refine Ei _ (Ai Y (Ai (akW bU)<|akV (Fp x1' s.lens) ?_));rintro _ h2 ⟨rfl,aO⟩;refine Ai Y (Ai (λbig=>absurd big V) (λ_=>?_));have B2:=bU.ae aO Yy;refine Ei _ (Ai (an B2 Y) ?_);intro b3 h3 g3;refine akV (xV (SL.one bj (x:=t.text) g3.blk) Yy) ?_;rintro r3 _ ⟨pT,rfl⟩;rw[q1]at pT;subst pT;have bB:=aO.nil g3.ae;have B3:=bU.ae bB Yy;refine Ei _ (Ai (an B3 Y)<|akV (xV (hl.ext bB) V) ?_);rintro r4 _ ⟨C8,rfl⟩;rw[q2]at C8;subst C8;refine Ei _ (Ai Y (Ai (akW B3)<|akV (Sn (x1'.ext bB) s.lens) ?_));rintro nv h5 ⟨dS,dY⟩;refine akV (xV dS.sl (Sm s)) ?_;rintro r6 _ ⟨C',rfl⟩;rw[q3]at C';subst C';have iz:=bB.nil dY;have B6:=bU.ae iz Yy;exact Ei _ (Ai (an B6 Y) (Ei _ (Ai (an B6 Y) (Ei _ (Ai (an B6 Y)<|aW [(1,.pointer (some ⟨b1,0,none⟩)),(2,.bool false),(3,.int .i64 t.pairs.length),(4,.int .i64 t.list.length),(5,.int .i64 t.ranks.length)] J5 (NJ s (bd.nil iz) B6 (x1'.ext iz) hu))))))
 |true=>
  have hu:¬(t.cP=false∧t.bQ≠0):=λh=>by rw[hU]at h;cases h.1
  refine Ei _ (Ai Y (Ai (akW bU)<|akV (Fp x1' s.lens) ?_));rintro _ h2 ⟨rfl,aO⟩;refine Ai Y (Ai (λbig=>absurd big V) (λ_=>?_));have B2:=bU.ae aO Yy;refine Ei _ (Ai (an B2 Y) ?_);intro b3 h3 g3;refine akV (xV (SL.one bj (x:=t.text) g3.blk) Yy) ?_;rintro r3 _ ⟨pT,rfl⟩;rw[q1]at pT;subst pT;have bB:=aO.nil g3.ae;have B3:=bU.ae bB Yy;refine Ei _ (Ai (an B3 Y)<|akV (xV (hl.ext bB) V) ?_);rintro r4 _ ⟨C8,rfl⟩;rw[q2]at C8;subst C8;refine Ei _ (Ai Y (Ai (akW B3)<|akV (Sn (x1'.ext bB) s.lens) ?_));rintro nv h5 ⟨dS,dY⟩;refine akV (xV dS.sl (Sm s)) ?_;rintro r6 _ ⟨C',rfl⟩;rw[q3]at C';subst C';have iz:=bB.nil dY;have B6:=bU.ae iz Yy;exact Ei _ (Ai (an B6 Y) (Ei _ (Ai (an B6 Y) (Ei _ (Ai (an B6 Y)<|aW [(1,.pointer (some ⟨b1,0,none⟩)),(2,.bool false),(3,.int .i64 t.pairs.length),(4,.int .i64 t.list.length),(5,.int .i64 t.ranks.length)] J5 (NJ s (bd.nil iz) B6 (x1'.ext iz) hu))))))
def qZ(x y:bM):Bool:=aP x.name y.name
def Mf(t:aB):Bool:=
 if t.kind=1 then decide (t.pairs.length+t.list.length+t.ranks.length=0)else
 if t.kind=2 then decide (0<t.pairs.length)&&decide (t.list.length+t.ranks.length=0)else
 if t.kind=3∨t.kind=4 then decide (0<t.list.length)&&decide (t.pairs.length+t.ranks.length=0)else
 if t.kind=5 then decide (0<t.ranks.length)&&decide (t.pairs.length+t.list.length=0)else false
structure vR (t:aB):Prop where
 u:¬(t.cP=false∧t.bQ≠0)
 text:¬(t.kind≠1∧t.text≠au)
 ps:rising qZ t.pairs=true
 ls:t.kind=4->rising aP t.list=true
 rs:rising cS t.ranks=true
 once:xI t.ranks=true
def Ld{t:aB}(h:¬vR t):fR t=false:=by
 by_cases hu:t.cP=false∧t.bQ≠0
 .unfold fR;rw[ak4 hu]
 unfold fR;rw[akZ hu];have GU:t.pairs.length=0->rising qZ t.pairs=true:=λe=>vC V;have vp:t.ranks.length=0->rising cS t.ranks=true∧xI t.ranks=true:=λe=>⟨vC V,by
  have:t.ranks=[]:=amz.1 e;rw[this];rfl⟩
 split
 .rename_i k1;refine alg λhe=>h ⟨hu,λhn=>hn.1 k1,GU V,λk4=>V,(vp V).1,(vp V).2⟩
 split
 .rename_i k1 k2;refine an'.2 λhe=>h ?_;simp only[alO,amm]at he;exact⟨hu,λhn=>hn.2 he.2.2.1,he.2.2.2,λk4=>V,(vp V).1,(vp V).2⟩
 split
 .rename_i k1 k2 k3;refine an'.2 λhe=>h ?_;simp only[alO,amm]at he;exact⟨hu,λhn=>hn.2 he.2.2,GU V,λk4=>V,(vp V).1,(vp V).2⟩
 split
 .rename_i k1 k2 k3 k4;refine an'.2 λhe=>h ?_;simp only[alO,amm]at he;exact⟨hu,λhn=>hn.2 he.2.2.1,GU V,λ_=>he.2.2.2,(vp V).1,(vp V).2⟩
 split
 .rename_i k1 k2 k3 k4 k5;refine an'.2 λhe=>h ?_;simp only[alO,amm]at he;exact⟨hu,λhn=>hn.2 he.2.2.1,GU V,λk4=>V,he.2.2.2.1,he.2.2.2.2⟩
 .rfl
def ac8{t:aB}(h:vR t):fR t=Mf t:=by
 unfold fR Mf;rw[akZ h.u];have ht:t.kind≠1->decide (t.text=au)=true:=λk=>ale (amx.1 λhn=>h.text ⟨k,hn⟩);by_cases k1:t.kind=1
 .rw[ak4 k1,ak4 k1]
 rw[akZ k1,akZ k1,ht k1];by_cases k2:t.kind=2
 .rw[ak4 k2,ak4 k2];have:rising (λx y=>aP x.name y.name) t.pairs=true:=h.ps;rw[this];simp
 rw[akZ k2,akZ k2];by_cases k3:t.kind=3
 .rw[ak4 k3,ak4 (.inl k3)];simp
 rw[akZ k3];by_cases k4:t.kind=4
 .rw[ak4 k4,ak4 (.inr k4),h.ls k4];simp
 rw[akZ k4,akZ (show¬(t.kind=3∨t.kind=4)from λh=>h.elim k3 k4)];by_cases k5:t.kind=5
 .rw[ak4 k5,ak4 k5,h.rs,h.once];simp
 rw[akZ k5,akZ k5]
def Wp{h h0:af}{b1:Nat}{vs:List Value}{t:aB}(s:Small t)(hc:ag [] h0 h)(B1:ai h b1 vs)(x:TH h vs t)(hr:vR t):swp Tryz.prog f19.sc.r.r.r.r.r.r
   (cC [.t 2] (ao λr h'=>r=.bool (fR t)∧ag [] h0 h')) (mk [(1,.pointer (some ⟨b1,0,none⟩)),(3,.int .i64 t.pairs.length),(4,.int .i64 t.list.length),(5,.int .i64 t.ranks.length)]) [] h:=by
 have sp:=s.p;have sl:=s.l;have sr:=s.r;obtain⟨pv,lv,rv,rfl,_,_,_⟩:=x;rw[ac8 hr];unfold Mf;refine Ei _ (Ai (an B1 Y)<|Bi (λk1=>?_) λk1=>?_)
 .rw[ak4 k1];refine Ai Y (λz hz=>?_);have hz:=cd hz V V;refine Ai Y (λy hy=>?_);have hy:=cd hy V V;refine Bi (λhe=>?_) λhe=>?_
  .exact Ai (by rw[ale V];rfl) hc
  .exact Ai (by rw[alg V];rfl) hc
 rw[akZ k1];refine Bi (λk2=>?_) λk2=>?_
 .rw[ak4 k2];refine Bi (λg1=>?_) λg1=>?_;rotate_left
  .exact Ai (by rw[alg V];rfl) hc
  rw[ale (show 0<t.pairs.length by omega),amD];refine Ai Y (λz hz=>?_);have hz:=cd hz V V;refine Bi (λg2=>?_) λg2=>?_
  .exact Ai (by rw[ale V];rfl) hc
  .exact Ai (by rw[alg V];rfl) hc
 rw[akZ k2];refine Bi (λk3=>?_) λk3=>?_
 .rw[ak4 (.inl k3)];refine Bi (λg1=>?_) λg1=>?_;rotate_left
  .exact Ai (by rw[alg V];rfl) hc
  rw[ale (show 0<t.list.length by omega),amD];refine Ai Y (λz hz=>?_);have hz:=cd hz V V;refine Bi (λg2=>?_) λg2=>?_
  .exact Ai (by rw[ale V];rfl) hc
  .exact Ai (by rw[alg V];rfl) hc
 refine Bi (λk4=>?_) λk4=>?_
 .rw[ak4 (.inr k4)];refine Bi (λg1=>?_) λg1=>?_;rotate_left
  .exact Ai (by rw[alg V];rfl) hc
  rw[ale (show 0<t.list.length by omega),amD];refine Ai Y (λz hz=>?_);have hz:=cd hz V V;refine Bi (λg2=>?_) λg2=>?_
  .exact Ai (by rw[ale V];rfl) hc
  .exact Ai (by rw[alg V];rfl) hc
 rw[akZ V];refine Bi (λk5=>?_) λk5=>?_
 .rw[ak4 k5];refine Bi (λg1=>?_) λg1=>?_;rotate_left
  .exact Ai (by rw[alg V];rfl) hc
  rw[ale (show 0<t.ranks.length by omega),amD];refine Ai Y (λz hz=>?_);have hz:=cd hz V V;refine Bi (λg2=>?_) λg2=>?_
  .exact Ai (by rw[ale V];rfl) hc
  .exact Ai (by rw[alg V];rfl) hc
 rw[akZ k5];exact Ai Y hc
def Hf{α:Type}{lt:α->α->Bool}:∀{l:List α}{k:Nat}(h1:1<=k)(h:k<l.length),rising lt l=true->lt (l[k-1]' V) l[k]=true
 |[],_,_,h,_=>by simp at h
 |[_],_,h1,h,_=>by simp at h;omega
 |x::y::l,1,_,_,hr=>by
  simp only[rising,alO]at hr;exact hr.1
 |x::y::l,k+2,_,h,hr=>by
  simp only[rising,alO]at hr;have:=Hf (l:=y::l) (k:=k+1) V (by simpa using h) hr.2;exact this
def Wo{h h0:af}{b1:Nat}{vs:List Value}{t:aB}(s:Small t)(hc:ag [] h0 h)(B1:ai h b1 vs)(x:TH h vs t)(hu:¬(t.cP=false∧t.bQ≠0))(ht:¬(t.kind≠1∧t.text≠au))(fQ:rising qZ t.pairs=true)(jx:t.kind=4->rising aP t.list=true):swp Tryz.prog f19.sc.r.r.r.r.r
   (cC [.t 2] (ao λr h'=>r=.bool (fR t)∧ag [] h0 h')) (mk [(1,.pointer (some ⟨b1,0,none⟩)),(3,.int .i64 t.pairs.length),(4,.int .i64 t.list.length),(5,.int .i64 t.ranks.length)]) [] h:=by
 have sr:=s.r;have x':=x;obtain⟨pv,lv,rv,rfl,hp,hl,hr⟩:=x;obtain⟨ra,rc,rfl,_⟩:=hr.form;refine bA (λk:Nat=>[(1,.pointer (some ⟨b1,0,none⟩)),(3,.int .i64 t.pairs.length),(4,.int .i64 t.list.length),(5,.int .i64 t.ranks.length),(8,.int .i64 k)])
  (λk h'=>k<=t.ranks.length∧ag [] h h'∧rising cS t.ranks=rising cS (t.ranks.drop (k-1))∧((t.ranks.take k).map aF.name).Nodup) (λk=>t.ranks.length-k) 0 J5 ⟨ak8 _,ag.refl h,Y,Yy⟩ ?_
 rintro k h1 ⟨hk,bd,gA,dt⟩;have Qa:=hc.nil bd;have bad:∀h2,ag [] h1 h2->¬vR t->ao (λr h'=>r=.bool (fR t)∧ag [] h0 h') (.returned (j7 [Value.bool false])) h2:=λh2 aO hn=>⟨by rw[Ld hn];rfl,Qa.nil aO⟩
 refine Bi (λah=>?_) λah=>?_
 .have dk:k<t.ranks.length:=V
  obtain⟨b3,o,rfl⟩:=hr.addr V;have cH:=hr.ext bd;have aI:=cH.cells dm (i:=k) (x:=t.ranks[k]) (by simp[dk]);have aS:=s.rs t.ranks[k] (ak9 dk);have B2:=B1.ae bd Yy
  -- the inner loop,from whatever heap
  have inner:∀h2(aO:ag [] h1 h2)(Gk:rising cS t.ranks=rising cS (t.ranks.drop k))σ,fN σ [(1,.pointer (some ⟨b1,0,none⟩)),(3,.int .i64 t.pairs.length),(4,.int .i64 t.list.length),(5,.int .i64 t.ranks.length),(8,.int .i64 k)]->
    ∀Q:de,(∀h3 σ',ag [] h1 h3->fN σ' [(1,.pointer (some ⟨b1,0,none⟩)),(3,.int .i64 t.pairs.length),(4,.int .i64 t.list.length),(5,.int .i64 t.ranks.length),(8,.int .i64 k)]->((t.ranks.take (k+1)).map aF.name).Nodup->Q .normal σ' [] h3)->
    (∀h3 σ',ag [] h1 h3->σ' 2=some (.bool false)->¬vR t->Q .ret σ' [] h3)->
    swp Tryz.prog f19.sc.r.r.r.r.r.l.r.l.l.r.l.l.r Q σ [] h2:=by
   intro h2 aO _ σ hσ Q hQ hQr;obtain⟨s1,s3,s4,s5,s8,_⟩:=hσ;have cJ:=cH.ext aO;have B3:=B2.ae aO Yy;have F2:=cJ.cells dm (i:=k) (x:=t.ranks[k]) (by simp[dk]);refine bA (λj:Nat=>[(1,.pointer (some ⟨b1,0,none⟩)),(3,.int .i64 t.pairs.length),(4,.int .i64 t.list.length),(5,.int .i64 t.ranks.length),(8,.int .i64 k),(9,.int .i64 j)])
    (λj h'=>j<=k∧h'=h2∧∀q(_:q<j)(hq:q<t.ranks.length),t.ranks[q].name≠t.ranks[k].name) (λj=>k-j) 0 ⟨s1,s3,s4,s5,s8,Y,trivial⟩ ⟨ak8 _,Y,λq h=>V⟩ ?_
   rintro j h3 ⟨hj,gU,ax⟩;have gU:=gU.symm;subst gU;refine Bi (λah=>?_) λah=>?_
   .have sZ:j<k:=V
    have eA:j<t.ranks.length:=V
    have iU:=cJ.cells dm (i:=j) (x:=t.ranks[j]) (by simp[eA]);refine Ei _ (Ai (an B3 Y)<|Ai V (Ai V (Ei _ (Ai (iU 0 _ Y)<|Ei _ (Ai (an B3 Y)<|Ai V (Ai V (Ei _ (Ai (F2 0 _ Y)<|Ai (λhe=>?_) (λhe=>?_)))))))))
    .refine hQr h2 _ aO Y λro=>?_;have hn:=amy ro.once;have:=am5.1 hn j k (by simpa using eA) (by simpa using dk) sZ;simp only[aoJ]at this;exact this he
    .refine Az<|Ai Y (Ei (j+1) (Ai ?_ (Ai ?_ ?_)))
     .exact J6
     .refine⟨V,Y,λq hq lN=>?_⟩;by_cases hqj:q=j
      .subst hqj;exact he
      .exact ax q V lN
     .omega
   .have sZ:j=k:=V
    refine hQ h2 _ aO J5 ?_;rw[iL t.ranks k dk,alD];refine LJ.2 ⟨dt,λhm=>?_⟩;obtain⟨r,cG,hrn⟩:=alF.1 hm;obtain⟨q,hq,QQ⟩:=amS cG;have QR:q<k:=by simp at hq;omega
    rw[anl]at QQ;exact ax q V V (by rw[QQ];exact hrn)
  have PQ:∀h2(aO:ag [] h1 h2)(Gk:rising cS t.ranks=rising cS (t.ranks.drop k))σ,fN σ [(1,.pointer (some ⟨b1,0,none⟩)),(3,.int .i64 t.pairs.length),(4,.int .i64 t.list.length),(5,.int .i64 t.ranks.length),(8,.int .i64 k)]->
    swp Tryz.prog f19.sc.r.r.r.r.r.l.r.l.l.r.l.l.r (qw 5 (fc (swp Tryz.prog (.ops Pu) (fc (λσ' eX h'=>eX=[]∧∃i',fN σ' [(1,.pointer (some ⟨b1,0,none⟩)),(3,.int .i64 t.pairs.length),(4,.int .i64 t.list.length),(5,.int .i64 t.ranks.length),(8,.int .i64 (i':Nat))]∧
     (i'<=t.ranks.length∧ag [] h h'∧rising cS t.ranks=rising cS (t.ranks.drop (i'-1))∧((t.ranks.take i').map aF.name).Nodup)∧t.ranks.length-i'<t.ranks.length-k)
     (qw 4 (fc (swp Tryz.prog f19.sc.r.r.r.r.r.r (cC [.t 2] (ao λr h'=>r=.bool (fR t)∧ag [] h0 h')))
      (cC [.t 2] (ao λr h'=>r=.bool (fR t)∧ag [] h0 h'))))))
     (fc (λσ' eX h'=>eX=[]∧∃i',fN σ' [(1,.pointer (some ⟨b1,0,none⟩)),(3,.int .i64 t.pairs.length),(4,.int .i64 t.list.length),(5,.int .i64 t.ranks.length),(8,.int .i64 (i':Nat))]∧
     (i'<=t.ranks.length∧ag [] h h'∧rising cS t.ranks=rising cS (t.ranks.drop (i'-1))∧((t.ranks.take i').map aF.name).Nodup)∧t.ranks.length-i'<t.ranks.length-k)
     (qw 4 (fc (swp Tryz.prog f19.sc.r.r.r.r.r.r (cC [.t 2] (ao λr h'=>r=.bool (fR t)∧ag [] h0 h')))
      (cC [.t 2] (ao λr h'=>r=.bool (fR t)∧ag [] h0 h'))))))) σ [] h2:=by
   intro h2 aO Gk σ hσ;refine inner h2 aO Gk σ hσ _ ?_ ?_
   .intro h3 σ' bB acO Gg;refine vF (P:=Tryz.prog) (Qp:=λ_ _=>False) (λch h hf=>hf.elim)
     (K:=λσ1 h4=>fN σ1 [(1,.pointer (some ⟨b1,0,none⟩)),(3,.int .i64 t.pairs.length),(4,.int .i64 t.list.length),(5,.int .i64 t.ranks.length),(8,.int .i64 ((k+1:Nat):Int))]∧h4=h3) ?_ Pu _ _ _ (uh acO) ?_
    .rintro σ1 σ2 h4 cO ⟨gB,rfl⟩;refine Ai Y (Ei (k+1) (Ai (gB.sub cO) (Ai ?_ ?_)))
     .exact⟨V,bd.nil bB,by rw[anx];exact Gk,Gg⟩
     .omega
    .refine Az ?_;exact⟨J5,Y⟩
   .intro h3 σ' bB pJ hn;have iW:kU σ' h3 [.t 2] (λvs=>ao (λr h'=>r=.bool (fR t)∧ag [] h0 h') (.returned (j7 vs)) h3):=by
     simp only[kU,pJ];exact bad h3 bB hn
    exact iW
  refine Ei _ (Ai (an B2 Y)<|Ai V (Ai V (Ei _ (Ai (aI 0 _ Y)<|Ai Y (Ai (λbig=>absurd big V) (λ_=>Bi (λbP=>?_) λbP=>?_))))))
  .have dR:1<=k:=V
   have iU:=cH.cells dm (i:=k-1) (x:=t.ranks[k-1]) Yy;have akG:=s.rs t.ranks[k-1] (ak9 V);refine Ei _ (Ai (an B2 Y)<|Ai Y (λz hz=>?_));have hz:=mG hz V V;have hz:z=((k-1:Nat):Int):=V
   subst hz;refine Ai V (Ai V (Ei (aK t.ranks[k-1]) (Ai Y (Ai iU<|Ei _ (Ai (an B2 Y)<|Ai V (Ai V (Ei (aK t.ranks[k]) (Ai Y (Ai aI<|akV (Nk t.ranks[k-1] t.ranks[k] V V) ?_)))))))));rintro r2 h2 ⟨cJ,aO⟩;rw[yN dR dk,rising]at gA;have e1:t.ranks[k]::t.ranks.drop (k+1)=t.ranks.drop k:=by rw[alx dk]
   rw[e1]at gA;cases gK:cS t.ranks[k-1] t.ranks[k]with
   |false=>
    rw[gK]at cJ;subst cJ;refine bad h2 aO λro=>?_;have:=Hf dR dk ro.rs;rw[gK]at this;cases this
   |true=>
    rw[gK]at cJ gA;subst cJ;exact PQ h2 aO (by rw[gA,amD]) _ J5
  .have dR:k=0:=V
   exact PQ h1 (ag.refl h1) (by rw[gA,dR]) _ J5
 .have aZ:k=t.ranks.length:=V
  rw[aZ,alm]at dt;have gA:rising cS t.ranks=true:=by
   rw[gA,aZ];exact vC (l:=t.ranks.drop (t.ranks.length-1)) (by rw[amL];omega)
  exact aW [(1,.pointer (some ⟨b1,0,none⟩)),(3,.int .i64 t.pairs.length),(4,.int .i64 t.list.length),(5,.int .i64 t.ranks.length)] J4 (Wp s Qa (B1.ae bd Yy) (x'.ext bd) ⟨hu,ht,fQ,jx,gA,ale dt⟩)
def EF{h h0:af}{b1:Nat}{vs:List Value}{t:aB}(s:Small t)(hc:ag [] h0 h)(B1:ai h b1 vs)(x:TH h vs t)(hu:¬(t.cP=false∧t.bQ≠0))(ht:¬(t.kind≠1∧t.text≠au)):swp Tryz.prog f19.sc.r.r.r
   (cC [.t 2] (ao λr h'=>r=.bool (fR t)∧ag [] h0 h')) (mk [(1,.pointer (some ⟨b1,0,none⟩)),(3,.int .i64 t.pairs.length),(4,.int .i64 t.list.length),(5,.int .i64 t.ranks.length)]) [] h:=by
 have sp:=s.p;have sl:=s.l;have x':=x;obtain⟨pv,lv,rv,rfl,hp,hl,_⟩:=x;obtain⟨pa,pc,rfl,_⟩:=hp.form;obtain⟨la,lc,rfl,_⟩:=hl.form;have bad:¬vR t->ao (λr h'=>r=.bool (fR t)∧ag [] h0 h') (.returned (j7 [Value.bool false])) h:=λhn=>⟨by rw[Ld hn];rfl,hc⟩
 refine bA (λk:Nat=>[(1,.pointer (some ⟨b1,0,none⟩)),(3,.int .i64 t.pairs.length),(4,.int .i64 t.list.length),(5,.int .i64 t.ranks.length),(6,.int .i64 k)])
  (λk h'=>k<=t.pairs.length∧h'=h∧rising qZ t.pairs=rising qZ (t.pairs.drop (k-1))) (λk=>t.pairs.length-k) 0 J5 ⟨ak8 _,Y,Y⟩ ?_
 rintro k h1 ⟨hk,cO,gA⟩;have cO:=cO.symm;subst cO;refine Bi (λah=>?_) λah=>?_
 .have dk:k<t.pairs.length:=V
  obtain⟨b3,o,rfl⟩:=hp.addr V;have aI:=hp.cells du (i:=k) (x:=t.pairs[k]) (by simp[dk]);obtain⟨z1,z2⟩:=s.ps t.pairs[k] (ak9 dk);have step:∀z:Int,z=((k+1:Nat):Int)->rising qZ t.pairs=rising qZ (t.pairs.drop k)->k+1<=t.pairs.length∧h=h∧rising qZ t.pairs=rising qZ (t.pairs.drop (k+1-1)):=λz _ hr=>⟨V,Y,by rw[anx];exact hr⟩
  refine Ei _ (Ai (an B1 Y)<|Ai V (Ai V (Ei _ (Ai (aI 0 _ Y)<|Ai Y (Ai (λbig=>absurd big V) (λ_=>Ei _ (Ai (an B1 Y)<|Ai V (Ai V (Ei _ (Ai (aI 1 _ Y)<|Ai Y (Ai (λbig=>absurd big V) (λ_=>Bi (λbP=>?_) λbP=>?_))))))))))))
  .have dR:1<=k:=V
   have iU:=hp.cells du (i:=k-1) (x:=t.pairs[k-1]) Yy;obtain⟨z3,_⟩:=s.ps t.pairs[k-1] (ak9 V);refine Ei _ (Ai (an B1 Y)<|Ai Y (λz hz=>?_));have hz:=mG hz V V;have hz:z=((k-1:Nat):Int):=V
   subst hz;refine Ai V (Ai V (Ei _ (Ai (iU 0 _ Y)<|Ei _ (Ai (an B1 Y)<|Ai V (Ai V (Ei _ (Ai (aI 0 _ Y)<|akV (yl t.pairs[k-1].name t.pairs[k].name V V) ?_)))))));rintro r2 _ ⟨cJ,rfl⟩;rw[yN dR dk,rising]at gA;have e1:t.pairs[k]::t.pairs.drop (k+1)=t.pairs.drop k:=by rw[alx dk]
   rw[e1]at gA;have Qw:qZ t.pairs[k-1] t.pairs[k]=aP t.pairs[k-1].name t.pairs[k].name:=rfl;cases gK:aP t.pairs[k-1].name t.pairs[k].name with
   |false=>
    rw[gK]at cJ;subst cJ;refine bad λro=>?_;have:=Hf dR dk ro.ps;rw[Qw,gK]at this;cases this
   |true=>
    rw[gK]at cJ;rw[Qw,gK,amD]at gA;subst cJ;refine Az<|Ai Y (Ei (k+1) (Ai ?_ (Ai (step _ Y gA) ?_)))
    .exact J5
    .omega
  .have dR:k=0:=V
   refine Az<|Ai Y (Ei (k+1) (Ai ?_ (Ai (step _ Y (by rw[gA,dR])) ?_)))
   .exact J5
   .omega
 have aZ:k=t.pairs.length:=V
 have fQ:rising qZ t.pairs=true:=by
  rw[gA,aZ];exact vC (l:=t.pairs.drop (t.pairs.length-1)) (by rw[amL];omega)
 clear ah aZ gA hk;refine bA (λk:Nat=>[(1,.pointer (some ⟨b1,0,none⟩)),(3,.int .i64 t.pairs.length),(4,.int .i64 t.list.length),(5,.int .i64 t.ranks.length),(7,.int .i64 k)])
  (λk h'=>k<=t.list.length∧h'=h∧(t.kind=4->rising aP t.list=rising aP (t.list.drop (k-1)))) (λk=>t.list.length-k) 0 J5 ⟨ak8 _,Y,λ_=>rfl⟩ ?_
 rintro k h1 ⟨hk,cO,gA⟩;have cO:=cO.symm;subst cO;refine Bi (λah=>?_) λah=>?_
 .have dk:k<t.list.length:=V
  obtain⟨b3,o,rfl⟩:=hl.addr V;have aI:=hl.cells bj (i:=k) (x:=t.list[k]) (by simp[dk]);have z1:=s.ls t.list[k] (ak9 dk);have step:(t.kind=4->rising aP t.list=rising aP (t.list.drop k))->k+1<=t.list.length∧h=h∧(t.kind=4->rising aP t.list=rising aP (t.list.drop (k+1-1))):=λhr=>⟨V,Y,by rw[anx];exact hr⟩
  refine Ei _ (Ai (an B1 Y)<|Ai V (Ai V (Ei _ (Ai (aI 0 _ Y)<|Ai Y (Ai (λbig=>absurd big V) (λ_=>Ei _ (Ai (an B1 Y)<|Bi (λk4=>?_) λk4=>?_)))))))
  .refine Bi (λbP=>?_) λbP=>?_
   .have dR:1<=k:=V
    have iU:=hl.cells bj (i:=k-1) (x:=t.list[k-1]) Yy;have z3:=s.ls t.list[k-1] (ak9 V);refine Ei _ (Ai (an B1 Y)<|Ai Y (λz hz=>?_));have hz:=mG hz V V;have hz:z=((k-1:Nat):Int):=V
    subst hz;refine Ai V (Ai V (Ei _ (Ai (iU 0 _ Y)<|Ei _ (Ai (an B1 Y)<|Ai V (Ai V (Ei _ (Ai (aI 0 _ Y)<|akV (yl t.list[k-1] t.list[k] V V) ?_)))))));rintro r2 _ ⟨cJ,rfl⟩;have gA:=gA k4;rw[yN dR dk,rising]at gA;have e1:t.list[k]::t.list.drop (k+1)=t.list.drop k:=by rw[alx dk]
    rw[e1]at gA;cases gK:aP t.list[k-1] t.list[k]with
    |false=>
     rw[gK]at cJ;subst cJ;refine bad λro=>?_;have:=Hf dR dk (ro.ls k4);rw[gK]at this;cases this
    |true=>
     rw[gK]at cJ;rw[gK,amD]at gA;subst cJ;refine Az<|Ai Y (Ei (k+1) (Ai ?_ (Ai (step λ_=>gA) ?_)))
     .exact J5
     .omega
   .have dR:k=0:=V
    refine Az<|Ai Y (Ei (k+1) (Ai ?_ (Ai (step λk4=>by rw[gA k4,dR]) ?_)))
    .exact J5
    .omega
  .refine Az<|Ai Y (Ei (k+1) (Ai ?_ (Ai (step λk4'=>absurd k4' k4) ?_)))
   .exact J5
   .omega
 have aZ:k=t.list.length:=V
 have jx:t.kind=4->rising aP t.list=true:=by
  intro k4;rw[gA k4,aZ];exact vC (l:=t.list.drop (t.list.length-1)) (by rw[amL];omega)
 exact aW [(1,.pointer (some ⟨b1,0,none⟩)),(3,.int .i64 t.pairs.length),(4,.int .i64 t.list.length),(5,.int .i64 t.ranks.length)] J4 (Wo s hc B1 x' hu ht fQ jx)
def Wn{h:af}{vs:List Value}{t:aB}(x:TH h vs t)(s:Small t):aj Tryz.prog 19 [.agg ⟨vs⟩] h (ao λr h'=>r=.bool (fR t)∧ag [] h h'):=by
 have sp:=s.p;have sl:=s.l;have sr:=s.r;have st:=s.text;refine f19.c ?_;intro b1 h1 g1;have B1:ai h1 b1 vs:=g1.blk;have hc:=g1.ae;have x1:=x.ext hc;have x':=x1;obtain⟨pv,lv,rv,rfl,hp,hl,hr⟩:=x1;obtain⟨pa,pc,rfl,_⟩:=hp.form;obtain⟨la,lc,rfl,_⟩:=hl.form;obtain⟨ra,rc,rfl,_⟩:=hr.form;have bad:¬vR t->ao (λr h'=>r=.bool (fR t)∧ag [] h h') (.returned (j7 [Value.bool false])) h1:=λhn=>⟨by rw[Ld hn];rfl,hc⟩
 have bU:ai h1 b1 [.int .i64 t.kind,.string t.text,.slice pa t.pairs.length pc,.slice la t.list.length lc,.slice ra t.ranks.length rc,.bool t.cP,.int .i64 t.bQ]:=B1;refine Ei _ (Ai (an B1 Y) (Ei _ (Ai (an B1 Y) (Ei _ (Ai (an B1 Y)<|Ei _ (Ai (an B1 Y) ?_))))));cases hU:t.cP with
 |false=>
  refine Ei _ (Ai (an B1 Y)<|Bi (λu0=>?_) λu0=>?_)
  .exact bad λro=>ro.u ⟨hU,u0⟩
  have hu:¬(t.cP=false∧t.bQ≠0):=λh=>u0 h.2;refine Ai Y (Ai (λbig=>absurd big V) (λ_=>Ai Y (Ai (λbig=>absurd big V) (λ_=>Ai Y (Ai (λbig=>absurd big V) (λ_=>Ei _ (Ai (an B1 Y)<|Ai Y (Ai (λbig=>absurd big V) (λ_=>Ei _ (Ai (an B1 Y)<|Bi (λk1=>?_) λk1=>?_))))))))))
  .refine Ei _ (Ai (an B1 Y)<|Ai (λt1=>?_) (λt1=>?_))
   .exact bad λro=>ro.text ⟨k1,t1⟩
   .exact aW [(1,.pointer (some ⟨b1,0,none⟩)),(3,.int .i64 t.pairs.length),(4,.int .i64 t.list.length),(5,.int .i64 t.ranks.length)] J4 (EF s hc bU x' hu (λh=>t1 h.2))
  .exact aW [(1,.pointer (some ⟨b1,0,none⟩)),(3,.int .i64 t.pairs.length),(4,.int .i64 t.list.length),(5,.int .i64 t.ranks.length)] J4 (EF s hc bU x' hu (λh=>k1 h.1))
 |true=>
  have hu:¬(t.cP=false∧t.bQ≠0):=λh=>by rw[hU]at h;cases h.1
  refine Ai Y (Ai (λbig=>absurd big V) (λ_=>Ai Y (Ai (λbig=>absurd big V) (λ_=>Ai Y (Ai (λbig=>absurd big V) (λ_=>Ei _ (Ai (an B1 Y)<|Ai Y (Ai (λbig=>absurd big V) (λ_=>Ei _ (Ai (an B1 Y)<|Bi (λk1=>?_) λk1=>?_))))))))))
  .refine Ei _ (Ai (an B1 Y)<|Ai (λt1=>?_) (λt1=>?_))
   .exact bad λro=>ro.text ⟨k1,t1⟩
   .exact aW [(1,.pointer (some ⟨b1,0,none⟩)),(3,.int .i64 t.pairs.length),(4,.int .i64 t.list.length),(5,.int .i64 t.ranks.length)] J4 (EF s hc bU x' hu (λh=>t1 h.2))
  .exact aW [(1,.pointer (some ⟨b1,0,none⟩)),(3,.int .i64 t.pairs.length),(4,.int .i64 t.list.length),(5,.int .i64 t.ranks.length)] J4 (EF s hc bU x' hu (λh=>k1 h.1))
variable{h:af}{lv rv:Value}
def XO{v:Value}{l:List bM}(hv:SL aX h v l)(hl:l.length<=70000):aj Tryz.prog 41 [v] h (ao λr h'=>OL aX 2 h' r l∧(∀b∈aq r,h.size<=b)∧ag [] h h'):=by
 obtain⟨a,c,rfl,di⟩:=hv.form;refine f41.c ?_;cases a with
 |none=>
  have h0:l.length=0:=by
   obtain⟨a',c',he,_,h2⟩:=hv;cases he;exact h2
  have:l=[]:=amz.1 h0;subst this;exact Ai OL.nil (Ai (λb hb=>absurd (show b∈([]:List Nat)from hb) Yy) (ag.refl h))
 |some a=>
  intro b1 h1 g1;have own:OL aX 2 h1 (.slice (some ⟨b1,0,none⟩) 0 0) []:=⟨some ⟨b1,0,none⟩,0,Y,Y,ak8 _,[],g1.blk,Yy⟩
  refine dZ du nS Y own (hv.ext g1.ae) Ys ?_;intro v' h2 jF aO eL;have i1:=g1.id;refine Ai jF (Ai (λb hb=>?_) (g1.ae.fresh aO (by simp[bG];omega)));rcases eL b hb with h|h
  .simp[bG]at h;omega
  .have:=g1.size;omega
def XQ{v:Value}{l:List BA}(hv:SL encS h v l)(hl:l.length<=70000):aj Tryz.prog 42 [v] h (ao λr h'=>OL encS 1 h' r l∧(∀b∈aq r,h.size<=b)∧ag [] h h'):=by
 obtain⟨a,c,rfl,di⟩:=hv.form;refine f42.c ?_;cases a with
 |none=>
  have h0:l.length=0:=by
   obtain⟨a',c',he,_,h2⟩:=hv;cases he;exact h2
  have:l=[]:=amz.1 h0;subst this;exact Ai OL.nil (Ai (λb hb=>absurd (show b∈([]:List Nat)from hb) Yy) (ag.refl h))
 |some a=>
  intro b1 h1 g1;have own:OL encS 1 h1 (.slice (some ⟨b1,0,none⟩) 0 0) []:=⟨some ⟨b1,0,none⟩,0,Y,Y,ak8 _,[],g1.blk,Yy⟩
  refine dZ bj fP Y own (hv.ext g1.ae) Ys ?_;intro v' h2 jF aO eL;have i1:=g1.id;refine Ai jF (Ai (λb hb=>?_) (g1.ae.fresh aO (by simp[bG];omega)));rcases eL b hb with h|h
  .simp[bG]at h;omega
  .have:=g1.size;omega
def XP{v:Value}{l:List aF}(hv:SL aK h v l)(hl:l.length<=70000):aj Tryz.prog 43 [v] h (ao λr h'=>OL aK 2 h' r l∧(∀b∈aq r,h.size<=b)∧ag [] h h'):=by
 obtain⟨a,c,rfl,di⟩:=hv.form;refine f43.c ?_;cases a with
 |none=>
  have h0:l.length=0:=by
   obtain⟨a',c',he,_,h2⟩:=hv;cases he;exact h2
  have:l=[]:=amz.1 h0;subst this;exact Ai OL.nil (Ai (λb hb=>absurd (show b∈([]:List Nat)from hb) Yy) (ag.refl h))
 |some a=>
  intro b1 h1 g1;have own:OL aK 2 h1 (.slice (some ⟨b1,0,none⟩) 0 0) []:=⟨some ⟨b1,0,none⟩,0,Y,Y,ak8 _,[],g1.blk,Yy⟩
  refine dZ dm ly Y own (hv.ext g1.ae) Ys ?_;intro v' h2 jF aO eL;have i1:=g1.id;refine Ai jF (Ai (λb hb=>?_) (g1.ae.fresh aO (by simp[bG];omega)));rcases eL b hb with h|h
  .simp[bG]at h;omega
  .have:=g1.size;omega
def aL:aB:=⟨0,au,[],[],[],false,0⟩
def zeroV:List Value:=zT
def jA:TH h zeroV aL:=⟨_,_,_,Y,SL.nil,SL.nil,SL.nil⟩
def dB{vs:List Value}{t:aB}(x:TH h vs t):∀u∈vs,u.oneCell'=true:=by
 obtain⟨pv,lv,rv,rfl,hp,hl,hr⟩:=x;obtain⟨pa,pc,rfl,_⟩:=hp.form;obtain⟨la,lc,rfl,_⟩:=hl.form;obtain⟨ra,rc,rfl,_⟩:=hr.form;intro u hu;simp at hu;rcases hu with rfl|rfl|rfl|rfl|rfl|rfl|rfl<;>rfl
def bg(t:aB)(pv lv rv:Value):List Value:=[.int .i64 t.kind,.string t.text,pv,lv,rv,.bool t.cP,.int .i64 t.bQ]
def bk(pv lv rv:Value):List Nat:=aq pv++(aq lv++aq rv)
structure TO (h:af) (pv lv rv:Value) (t:aB):Prop where
 p:OL aX 2 h pv t.pairs
 l:OL encS 1 h lv t.list
 r:OL aK 2 h rv t.ranks
 pl:∀b∈aq pv,b∉aq lv
 pr:∀b∈aq pv,b∉aq rv
 lr:∀b∈aq lv,b∉aq rv
def TO.ae{S:List Nat}{h h':af}{pv lv rv:Value}{t:aB}(o:TO h pv lv rv t)(c:ag S h h')(hn:∀b∈bk pv lv rv,b∉S):TO h' pv lv rv t:=
 ⟨o.p.ae c λb hb=>hn b (by simp[bk,hb]),o.l.ae c λb hb=>hn b (by simp[bk,hb]),o.r.ae c λb hb=>hn b (by simp[bk,hb]),o.pl,o.pr,o.lr⟩
def TO.ext{h':af}{pv:Value}{t:aB}(o:TO h pv lv rv t)(c:ag [] h h'):TO h' pv lv rv t:=o.ae c Yy
def TO.th{pv:Value}{t:aB}(o:TO h pv lv rv t):TH h (bg t pv lv rv) t:=⟨pv,lv,rv,Y,o.p.sl,o.l.sl,o.r.sl⟩
def Xh{t:aB}{pv v:Value}{b:Nat}(hv:v∈bg t pv lv rv)(hb:b∈aq v):b∈bk pv lv rv:=by
 simp only[bg,ak3,amU,anF]at hv;rcases hv with rfl|rfl|rfl|rfl|rfl|rfl|rfl
 .exact absurd (show b∈([]:List Nat)from hb) Yy
 .exact absurd (show b∈([]:List Nat)from hb) Yy
 .simp[bk,hb]
 .simp[bk,hb]
 .simp[bk,hb]
 .exact absurd (show b∈([]:List Nat)from hb) Yy
 .exact absurd (show b∈([]:List Nat)from hb) Yy
def OW{vs:List Value}{t:aB}(x:TH h vs t)(n:j' t):aj Tryz.prog 17 [.agg ⟨vs⟩] h (ao λr h'=>(∃pv lv rv,r=.agg ⟨bg t pv lv rv⟩∧TO h' pv lv rv t∧∀b∈bk pv lv rv,h.size<=b)∧ag [] h h'):=by
 refine f17.c ?_;intro b1 h1 g1;intro b2 h2 g2;have B1:ai h2 b1 vs:=(show ai h1 b1 vs from g1.blk).ae g2.ae Yy;have aO:=g1.ae.nil g2.ae;have i1:=g1.id;have i2:=g2.id;have z1:=g1.size;obtain⟨pv,lv,rv,rfl,hp,hl,hr⟩:=x.ext aO;obtain⟨pa,pc,rfl,_⟩:=hp.form;obtain⟨la,lc,rfl,_⟩:=hl.form;obtain⟨ra,rc,rfl,_⟩:=hr.form;refine Ei _ (Ai (an B1 Y) (Ei _ (Ai (an B1 Y) (Ei _ (Ai (an B1 Y)<|iw (XO hp n.p) ?_)))));rintro r3 h3 ⟨rU,rP,bB⟩;refine Ai bB.ext<|iw (XQ (hl.ext bB) n.l) ?_;rintro r4 h4 ⟨CJ,kg,dw⟩;refine Ai dw.ext<|iw (XP ((hr.ext bB).ext dw) n.r) ?_;rintro r5 h5 ⟨C9,cK,dY⟩;refine Ai dY.ext ?_;have uS:=(bB.nil dw).nil dY;have B5:=B1.ae uS Yy;have RY:=rU.lt;have ll4:=CJ.lt;have s3:=bB.size;have s4:=dw.size;have s5:=dY.size;have s2:=aO.size;have si:=g2.size;have o5:TO h5 r3 r4 r5 t:=⟨(rU.ext dw).ext dY,CJ.ext dY,C9,λb hb hx=>by have:=RY b hb;have:=kg b hx;omega,λb hb hx=>by have:=RY b hb;have:=cK b hx;omega,λb hb hx=>by have:=ll4 b hb;have:=cK b hx;omega⟩
 have fr:∀b∈bk r3 r4 r5,h2.size<=b:=by
  intro b hb;simp only[bk,alf]at hb;rcases hb with hb|hb|hb
  .exact rP b hb
  .have:=kg b hb;omega
  .have:=cK b hb;omega
 obtain⟨qa,qc,rfl,_⟩:=rU.sl.form;obtain⟨ma,mc,rfl,_⟩:=CJ.sl.form;obtain⟨sa,sc,rfl,_⟩:=C9.sl.form;refine Ei _ (Ai B5 (Ai Yy (Ai Y (Ai (cM Y) ?_))));intro h6 p6;have B6:ai h6 b1 (bg t (.slice qa t.pairs.length qc) (.slice la t.list.length lc) (.slice ra t.ranks.length rc)):=p6.blk;refine Ei _ (Ai B6 (Ai (by simp[bg]) (Ai Y (Ai (cM Y) ?_))));intro h7 p7;have B7:ai h7 b1 (bg t (.slice qa t.pairs.length qc) (.slice ma t.list.length mc) (.slice ra t.ranks.length rc)):=p7.blk;refine Ei _ (Ai B7 (Ai (by simp[bg]) (Ai Y (Ai (cM Y) ?_))));intro h8 p8;have B8:ai h8 b1 (bg t (.slice qa t.pairs.length qc) (.slice ma t.list.length mc) (.slice sa t.ranks.length sc)):=p8.blk;have we:ag [b1] h5 h8:=(p6.ae.trans p7.ae (U:=[b1]) (λ_ h=>h) (λ_ h _=>h)).trans p8.ae (λ_ h=>h) (λ_ h _=>h);have o8:=o5.ae we (λb hb=>by have:=fr b hb;simp;omega);refine Ei _ (Ai Y (Ai (akW B8) ?_));have Bz:ai h8 b2 zeroV:=((show ai h2 b2 zeroV from g2.blk).ae uS Yy).ae we Ys;refine Ei _ (Ai Bz (Ai Dd (Ai Y (Ai (dB o8.th) ?_))));intro h9 p9;have B9:ai h9 b2 (bg t (.slice qa t.pairs.length qc) (.slice ma t.list.length mc) (.slice sa t.ranks.length sc)):=p9.blk;have abP:ag [] h h9:=((aO.nil uS).fresh we Ys).fresh p9.ae Ys;exact Ei _ (Ai Y (Ai (akW B9)<|Ai (Ei _ (Ei _ (Ei _ (Ai Y (Ai (o8.ae p9.ae (λb hb=>by have:=fr b hb;simp;omega)) (λb hb=>by have:=fr b hb;omega)))))) abP))
def OV{vs:List Value}{t:aB}(x:TH h vs t)(n:j' t):aj Tryz.prog 17 [.agg ⟨vs⟩] h (ao λr h'=>(∃us,r=.agg ⟨us⟩∧TH h' us t∧∀v∈us,∀b∈aq v,h.size<=b)∧ag [] h h'):=by
 refine(OW x n).mono λe h' he=>?_;cases e with
 |returned v=>
  obtain⟨⟨pv,lv,rv,hv,o,fr⟩,c⟩:=he;exact⟨⟨_,hv,o.th,λv hv b hb=>fr b (Xh hv hb)⟩,c⟩
 |panicked ch=>exact he.elim
 |outgrown=>exact he.elim
def Ju{vs:List Value}{t:aB}(x:TH h vs t)(now:Int):aj Tryz.prog 30 [.agg ⟨vs⟩,.int .i64 now] h (ao λr h'=>r=.bool (t.cP&&decide (t.bQ<=now))∧ag [] h h'):=by
 refine f30.c ?_;intro b1 h1 g1;have B1:ai h1 b1 vs:=g1.blk;obtain⟨pv,lv,rv,rfl,hp,hl,hr⟩:=x;refine Ei _ (Ai (an B1 Y) ?_);cases hU:t.cP with
 |false=>exact Ai Y g1.ae
 |true=>
  refine Ei _ (Ai (an B1 Y)<|Bi (λhl=>?_) λhl=>?_)
  .exact Ai (by rw[ale hl];rfl) g1.ae
  .exact Ai (by rw[alg hl];rfl) g1.ae
def TH.ae{S:List Nat}{h h':af}{vs:List Value}{t:aB}(x:TH h vs t)(hc:ag S h h')(hn:∀v∈vs,∀b∈aq v,b∉S):TH h' vs t:=by
 obtain⟨pv,lv,rv,rfl,h2,h3,h4⟩:=x;exact⟨pv,lv,rv,Y,h2.ae hc (hn pv Yy),h3.ae hc (hn lv Yy),h4.ae hc (hn rv Yy)⟩
def ptr(b:Nat):Value:=.pointer (some ⟨b,0,none⟩)
structure KS (h:af) (kb sb mb:Nat):Prop where
 k:ai h kb [ptr sb]
 s:ai h sb [.map (some mb)]
def KS.ae{S:List Nat}{h h':af}{kb sb mb:Nat}(x:KS h kb sb mb)(hc:ag S h h')(h1:kb∉S)(h2:sb∉S):KS h' kb sb mb:=⟨x.k.ae hc h1,x.s.ae hc h2⟩
def q9{kb sb mb:Nat}(x:KS h kb sb mb):aj Tryz.prog 60 [ptr kb] h (ao λr h'=>r=.bool false∧h'=h):=by
 refine f60.c<|Ei _ (Ai (an x.k Y) ?_);exact⟨Y,Y⟩
def Ic:aj Tryz.prog 13 [] h (ao λr h'=>∃kb sb mb,r=ptr kb∧KS h' kb sb mb∧cN h' mb [] 0∧mb=h.size∧sb=h.size+1∧kb=h.size+2∧ag [] h h'):=by
 refine f13.c ?_;intro mb h1 g1;intro sb h2 g2;intro kb h3 g3;have i1:=g1.id;have i2:=g2.id;have i3:=g3.id;have z1:=g1.size;have z2:=g2.size;refine Ei kb (Ei sb (Ei mb (Ai Y (Ai ⟨g3.blk,(show ai h2 sb _ from g2.blk).ae g3.ae Yy⟩ (Ai ?_ (Ai i1 (Ai V (Ai V ?_))))))))
 .exact cN.ae (cN.ae (show cN h1 mb [] 0 from g1.blk) g2.ae Yy) g3.ae Yy
 .exact(g1.ae.nil g2.ae).nil g3.ae
end Go.Proofs.YtocgmipngoiieaaGreatDoor
namespace Go.Proofs.YtocgmipngoiieaaGreatDoor
open Go Go.Sx C
def ec:List (Int×Value)->Nat->List MapEntry
 |[],_=>[]
 |(k,v)::r,n=>{key:=.int .i64 k,val:=v,born:=n}::ec r (n+1)
def kI:∀(l:List (Int×Value))(n:Nat),∀e∈ec l n,fits (.int .i64) e.key=true
 |[],_,e,h=>by simp[ec]at h
 |(k,v)::r,n,e,h=>by
  rcases ak3.1 h with rfl|h
  .rfl
  .exact kI r (n+1) e h
def agL(a b:Int):Instr.sameBits 10000 (.int .i64 a) (.int .i64 b)=decide (a=b):=by
 simp[Instr.sameBits];by_cases h:a=b<;>simp[h]
def lQ(k:Int):∀(l:List (Int×Value))(n i:Nat),(∀x∈l,x.1≠k)->bH (.int .i64 k) (ec l n) i=none
 |[],_,_,_=>rfl
 |(k',v)::r,n,i,h=>by
  have hk:k'≠k:=h (k',v) Yy;simp only[ec,bH,agL];rw[alg (λe=>hk e.symm)];exact lQ k r (n+1) (i+1) λx hx=>h x (by simp[hx])
def lU(name text number:Bool)(kind:Int)(makes:Bool)(f:Nat):Value:=.agg ⟨[.bool name,.bool text,.bool number,.int .i64 kind,.bool makes,.func (.func f) #[] #[]]⟩
def dq:List (Int×Value):=[
 (1,lU false false false 0 false 136),(2,lU false true false 0 true 137),(3,lU false false true 0 false 138),(4,lU false false false 0 false 139),
 (5,lU true true false 2 true 140),(6,lU true false false 2 false 141),(7,lU false true false 3 true 142),(8,lU false true false 3 true 144),
 (9,lU false false false 3 false 145),(10,lU false false false 3 false 146),(11,lU false true true 3 false 147),(12,lU true false false 4 true 148),
 (13,lU true false false 4 false 149),(14,lU true false true 5 true 150),(15,lU true false false 5 false 151)]
def Uz{h:af}:aj Tryz.prog 113 [] h (ao λr h'=>∃mb,r=.map (some mb)∧cN h' mb (ec dq 0) 15∧h.size<=mb∧ag [] h h'):=by
 refine f113.c ?_;intro mb h0 g0;have i0:h.size<=mb:=by rw[g0.id];exact ali _
 have c0:=g0.ae;have m0:cN h0 mb (ec (dq.take 0) 0) 0:=g0.blk;refine Ai Y (Ei (ec (dq.take 0) 0) (Ei 0 (Ai m0 (Ai (kI _ _) ?_))));rw[lQ 1 (dq.take 0) 0 0 Dd];intro h1 p1;have m1:cN h1 mb (ec (dq.take 1) 0) 1:=p1.blk;have c1:=c0.fresh p1.ae (by simp;exact i0);refine Ai Y (Ei (ec (dq.take 1) 0) (Ei 1 (Ai m1 (Ai (kI _ _) ?_))));rw[lQ 2 (dq.take 1) 0 0 Dd];intro h2 p2;have m2:cN h2 mb (ec (dq.take 2) 0) 2:=p2.blk;have c2:=c1.fresh p2.ae (by simp;exact i0);refine Ai Y (Ei (ec (dq.take 2) 0) (Ei 2 (Ai m2 (Ai (kI _ _) ?_))));rw[lQ 3 (dq.take 2) 0 0 Dd];intro h3 p3;have m3:cN h3 mb (ec (dq.take 3) 0) 3:=p3.blk;have c3:=c2.fresh p3.ae (by simp;exact i0);refine Ai Y (Ei (ec (dq.take 3) 0) (Ei 3 (Ai m3 (Ai (kI _ _) ?_))));rw[lQ 4 (dq.take 3) 0 0 Dd];intro h4 p4;have m4:cN h4 mb (ec (dq.take 4) 0) 4:=p4.blk;have c4:=c3.fresh p4.ae (by simp;exact i0);refine Ai Y (Ei (ec (dq.take 4) 0) (Ei 4 (Ai m4 (Ai (kI _ _) ?_))));rw[lQ 5 (dq.take 4) 0 0 Dd];intro h5 p5;have m5:cN h5 mb (ec (dq.take 5) 0) 5:=p5.blk;have c5:=c4.fresh p5.ae (by simp;exact i0);refine Ai Y (Ei (ec (dq.take 5) 0) (Ei 5 (Ai m5 (Ai (kI _ _) ?_))));rw[lQ 6 (dq.take 5) 0 0 Dd];intro h6 p6;have m6:cN h6 mb (ec (dq.take 6) 0) 6:=p6.blk;have c6:=c5.fresh p6.ae (by simp;exact i0);refine Ai Y (Ei (ec (dq.take 6) 0) (Ei 6 (Ai m6 (Ai (kI _ _) ?_))));rw[lQ 7 (dq.take 6) 0 0 Dd];intro h7 p7;have m7:cN h7 mb (ec (dq.take 7) 0) 7:=p7.blk;have c7:=c6.fresh p7.ae (by simp;exact i0);refine Ai Y (Ei (ec (dq.take 7) 0) (Ei 7 (Ai m7 (Ai (kI _ _) ?_))));rw[lQ 8 (dq.take 7) 0 0 Dd];intro h8 p8;have m8:cN h8 mb (ec (dq.take 8) 0) 8:=p8.blk;have c8:=c7.fresh p8.ae (by simp;exact i0);refine Ai Y (Ei (ec (dq.take 8) 0) (Ei 8 (Ai m8 (Ai (kI _ _) ?_))));rw[lQ 9 (dq.take 8) 0 0 Dd];intro h9 p9;have m9:cN h9 mb (ec (dq.take 9) 0) 9:=p9.blk;have c9:=c8.fresh p9.ae (by simp;exact i0);refine Ai Y (Ei (ec (dq.take 9) 0) (Ei 9 (Ai m9 (Ai (kI _ _) ?_))));rw[lQ 10 (dq.take 9) 0 0 Dd];intro bp jn;have m10:cN bp mb (ec (dq.take 10) 0) 10:=jn.blk;have l9:=c9.fresh jn.ae (by simp;exact i0);refine Ai Y (Ei (ec (dq.take 10) 0) (Ei 10 (Ai m10 (Ai (kI _ _) ?_))));rw[lQ 11 (dq.take 10) 0 0 Dd];intro dO p11;have m11:cN dO mb (ec (dq.take 11) 0) 11:=p11.blk;have iO:=l9.fresh p11.ae (by simp;exact i0);refine Ai Y (Ei (ec (dq.take 11) 0) (Ei 11 (Ai m11 (Ai (kI _ _) ?_))));rw[lQ 12 (dq.take 11) 0 0 Dd];intro cO xJ;have m12:cN cO mb (ec (dq.take 12) 0) 12:=xJ.blk;have c12:=iO.fresh xJ.ae (by simp;exact i0);refine Ai Y (Ei (ec (dq.take 12) 0) (Ei 12 (Ai m12 (Ai (kI _ _) ?_))));rw[lQ 13 (dq.take 12) 0 0 Dd];intro dn DL;have m13:cN dn mb (ec (dq.take 13) 0) 13:=DL.blk;have Xv:=c12.fresh DL.ae (by simp;exact i0);refine Ai Y (Ei (ec (dq.take 13) 0) (Ei 13 (Ai m13 (Ai (kI _ _) ?_))));rw[lQ 14 (dq.take 13) 0 0 Dd];intro dJ rl;have m14:cN dJ mb (ec (dq.take 14) 0) 14:=rl.blk;have dM:=Xv.fresh rl.ae (by simp;exact i0);refine Ai Y (Ei (ec (dq.take 14) 0) (Ei 14 (Ai m14 (Ai (kI _ _) ?_))));rw[lQ 15 (dq.take 14) 0 0 Dd];intro jW DM;have m15:cN jW mb (ec (dq.take 15) 0) 15:=DM.blk;have me:=dM.fresh DM.ae (by simp;exact i0);exact Ei mb (Ai Y (Ai m15 (Ai i0 me)))
def Wg{h:af}{kb sb mb c:Nat}{es:List MapEntry}{key:BA}(ks:KS h kb sb mb)(hm:cN h mb es c)(hf:∀e∈es,fits .str e.key=true)(hn:bH (.string key) es 0=none):aj Tryz.prog 29 [ptr kb,.string key] h (ao λr h'=>r=.tuple #[.agg ⟨zeroV⟩,.bool false]∧ag [] h h'):=by
 refine f29.c ?_;intro b4 h1 g1;have hc:=g1.ae;have Du:=ks.ae hc Yy Yy;have hm1:cN h1 mb es c:=hm.ae hc Yy;refine akV (q9 Du) ?_;rintro _ h9 ⟨rfl,e9⟩;have e9:=e9.symm;subst e9;refine Ei _ (Ai (an Du.k Y) (Ei _ (Ai (an Du.s Y)<|Ai Y (Ei es (Ei c (Ai hm1 (Ai hf ?_)))))));rw[hn];refine Ei _ (Ai g1.blk (Ai Dd (Ai Y (Ai (dB (t:=aL) (h:=h1) jA) ?_))));intro h2 p2;have g2:=g1.put p2;have B2:ai h2 b4 zeroV:=p2.blk;exact Ei zeroV (Ai Y (Ai (akW B2)<|Ai Y g2.ae))
def rA(tx:BA):aB:=⟨1,tx,[],[],[],false,0⟩
def MS(tx:BA):List Value:=[.int .i64 1,.string tx,.slice none 0 0,.slice none 0 0,.slice none 0 0,.bool false,.int .i64 0]
def MT{h:af}{tx:BA}:TH h (MS tx) (rA tx):=⟨_,_,_,Y,SL.nil,SL.nil,SL.nil⟩
def seven{ws vs:List Value}(hw:ws.length=7)(hv:vs.length=7):splice ws 0 vs=vs:=by
 match ws,hw,vs,hv with
 |[_,_,_,_,_,_,_],_,[_,_,_,_,_,_,_],_=>rfl
end Go.Proofs.YtocgmipngoiieaaGreatDoor
namespace Go.Sx
open Go
variable {α:Type}{enc:α->List Value}{size:Nat}
def dL.refl{h:af}{b:Nat}{l:List Value}(hb:ai h b l):dL h h b l:=⟨hb,Y,λ_ _=>rfl,λ_ h=>h⟩
def dL.trans{h h1 h2:af}{b:Nat}{l l':List Value}(p:dL h h1 b l)(q:dL h1 h2 b l'):dL h h2 b l':=
 ⟨q.blk,by rw[q.size,p.size],λk hk=>by rw[q.old k hk,p.old k hk],λt ht=>q.ty t (p.ty t ht)⟩
def vG(A B C ys:List Value)(hl:ys.length=B.length):splice (A++(B++C)) A.length ys=A++(ys++C):=by
 rw[HF A (B++C) ys (by simp[hl])];rw[hl,List.drop_left]
def nJ{h:af}{b o:Nat}(A B C:List Value){ys:List Value}{K:af->Prop}(hb:ai h b (A++(B++C)))(ho:o=A.length)(hl:ys.length=B.length)(h1:∀u∈ys,u.oneCell'=true)(hk:∀h',dL h h' b (A++(ys++C))->K h'):vL h K (some ⟨b,o,none⟩) ys:=by
 subst ho;refine⟨λe=>?_,λ_=>?_⟩
 .subst e;have e:B=[]:=by simpa using hl.symm
  subst e;exact hk h (dL.refl hb)
 .refine⟨_,hb,by simp[hl],h1,λh' hp=>?_⟩;rw[vG A B C ys hl]at hp;exact hk h' hp
def sJ(h1:∀x,∀u∈enc x,u.oneCell'=true)(l:List α):∀u∈l.flatMap enc,u.oneCell'=true:=by
 intro u hu;obtain⟨x,_,hx⟩:=aoI.1 hu;exact h1 x u hx
def uf(l:List α)(i:Nat):l.flatMap enc=(l.take i).flatMap enc++(l.drop i).flatMap enc:=by
 rw[<-anh,ama]
def pq(aS:∀x,(enc x).length=size)(l:List α)(i:Nat)(h:i<=l.length):((l.take i).flatMap enc).length=i*size:=by
 rw[kJ aS,alA,anZ h]
def yM(aS:∀x,(enc x).length=size)(l:List α)(i:Nat):((l.drop i).flatMap enc).length=(l.length-i)*size:=by
 rw[kJ aS,amL]
def OL.open{h:af}{a:Option Addr}{n c:Nat}{l:List α}(ho:OL enc size h (.slice a n c) l):n=l.length∧((a=none∧l=[]∧c=0)∨∃b,a=some ⟨b,0,none⟩∧l.length<=c∧∃rest,ai h b (l.flatMap enc++rest)∧(l.flatMap enc++rest).length=c*size):=by
 obtain⟨a1,c1,he,hm⟩:=ho;cases he;refine⟨Y,?_⟩;split at hm
 .exact .inl ⟨Y,hm.1,hm.2⟩
 .rename_i b o;obtain⟨rfl,h2,rest,h3,h4⟩:=hm;exact .inr ⟨b,Y,h2,rest,h3,h4⟩
 .exact hm.elim
def OL.mk{h:af}{b n c:Nat}{l:List α}{rest:List Value}(hn:n=l.length)(hc:l.length<=c)(hb:ai h b (l.flatMap enc++rest))(hl:(l.flatMap enc++rest).length=c*size):OL enc size h (.slice (some ⟨b,0,none⟩) n c) l:=by
 subst hn;exact⟨_,c,Y,Y,hc,rest,hb,hl⟩
def OL.form{h:af}{v:Value}{l:List α}(ho:OL enc size h v l):∃a c,v=.slice a l.length c∧l.length<=c:=ho.sl.form
def nF{h:af}{b o n:Nat}(A ys C:List Value)(hb:ai h b (A++(ys++C)))(ho:o=A.length):Src h (some ⟨b,o,none⟩) n ys:=by
 subst ho;intro i v hv;refine an hb ?_;have ah:=(ak7.1 hv).1;rw[am1 V,Nat.add_sub_cancel_left,amM ah];exact hv
def SL.src{h:af}{a:Option Addr}{n c:Nat}{l:List α}(hs:SL enc h (.slice a n c) l):Src h a n (l.flatMap enc):=by
 obtain⟨a',c',he,_,h2⟩:=hs;injection he with e1 e2 e3
 subst e1 e2 e3;exact h2
def LZ{P:Program}{f:Nat}{fn:Func}{tS tR e:TypeId}{size:Nat}(hf:P.funcs[f]? =some fn) (Km:(fn.name== "runtime.NumGoroutine")=false) (hbn:fn.body.isNone=true) (hn:Extern.findNext fn=none)
  (he:Extern.find fn=some (Extern.SlicesOverlaps.overlaps #[tS,tS] #[tR])) (ht:P.underlying tS=some (.slice e)) (hz:eW P e=some size) {h:af} {vb b o o' n c n' c':Nat} {l l':List Value}
  (hv:ai h vb l) (hb:ai h b l') (hl:l'≠[]) (ax:vb≠b):
  A3 P f [.slice (some ⟨vb,o,none⟩) n c,.slice (some ⟨b,o',none⟩) n' c'] h λv h'=>v=.bool false∧h'=h:=by
 intro w hw;subst hw;obtain⟨e1,h1⟩:=hv;obtain⟨e2,h2⟩:=hb;have key:=Go.Lib.run_overlaps_apart (P:=P) w tS tR e ht size (λw=>iY hz w) ⟨vb,o,none⟩ ⟨b,o',none⟩ n c n' c' ax e1 e2 l.length l'.length
  (by simp[World.shape?,h1]) (by simp[World.shape?,h2]) (λh=>hl (amz.1 h)) (by simp[World.frozen?,h1]) (by simp[World.frozen?,h1])
 refine⟨.bool false,w,?_,⟨Y,Y⟩,Y,Y,Y⟩;rw[run_callFunc_extern hf Km hbn hn he,key];rfl
end Go.Sx
namespace Go.Proofs.YtocgmipngoiieaaGreatDoor
open Go Go.Sx C
variable{c':Nat}{h:af}{l':List Value}{n' o' vb:Nat}
def aeE{b o n c:Nat}{l:List Value}(hv:ai h vb l)(hb:ai h b l')(hl:l'≠[])(ax:vb≠b):A3 Tryz.prog 219 [.slice (some ⟨vb,o,none⟩) n c,.slice (some ⟨b,o',none⟩) n' c'] h λv h'=>v=.bool false∧h'=h:=
 LZ (P:=Tryz.prog) (tS:=26) (tR:=4) (e:=9) (size:=1) Tryz.func219 Kr Kr Kr Kr Tryz.underlying26 Kr hv hb hl ax
set_option maxHeartbeats 1000000 in
/-- slices.Insert of one item. -/
def Ri{v:Value}{l:List BA}{i:Nat}{x:BA}(ho:OL encS 1 h v l)(hl:l.length<=80000)(hi:i<=l.length)(hx:ai h vb (encS x))(ax:vb∉aq v):aj Tryz.prog 143 [v,.int .i64 i,.slice (some ⟨vb,0,none⟩) 1 1] h
   (ao λr h'=>OL encS 1 h' r (l.take i++x::l.drop i)∧ag (aq v) h h'∧∀b∈aq r,b∈aq v∨h.size<=b):=by
 obtain⟨a,c,rfl,di⟩:=ho.form;have ax:vb∉bG a:=ax;refine f143.c<|SL.slc (lo:=i) (hi:=l.length) bj ho.sl hi (ali _) ?_;intro a0 _ _;refine Ai Y (Ai (λe=>absurd e Dd) (λ_=>Bi (λe=>?_) λhin=>?_))
 .have e:i=l.length:=V
  subst e;refine dZ bj fP Y ho (SL.one bj hx) Ys ?_;intro v' h' CV hc hb;rw[alm,amE];exact Ai CV (Ai hc hb)
 have hin:i<l.length:=V
 refine Az ?_;obtain⟨_,lM⟩:=ho.open;rcases lM with⟨_,e,_⟩|⟨b,rfl,_,rest,B,dD⟩
 .rw[e]at hin;exact absurd hin Yy
 have eN:((l.length:Int)+1)=((l.length+1:Nat):Int):=V
 have eI:((i:Int)+1)=((i+1:Nat):Int):=V
 have zi:=pq bj l i hi;have zd:=yM bj l i;have eh:=uf (enc:=encS) l i;have xl:=bj x;have fin:(l.take i).flatMap encS++(encS x++(l.drop i).flatMap encS)=(l.take i++x::l.drop i).flatMap encS:=Yy
 have gv:l.length+1=(l.take i++x::l.drop i).length:=by simp;omega
 refine Bi (λzm=>?_) λjG=>?_
 .have zm:c<l.length+1:=V
  have s0:SL encS h (.slice (some ⟨b,0,none⟩) l.length c) l:=ho.sl;refine SL.slc (lo:=0) (hi:=i) bj s0 (ak8 _) hi ?_;intro a1 _ gB;simp only[anw,anj]at gB⊢;refine Az<|Ai Y (λz hz=>?_);have hz:=mG hz V V;have hz:z=((l.length+1-i:Nat):Int):=V
  subst hz;have Ec:=gB.src;refine Ai V (Ai V (Ei ((l.take i).flatMap encS) (Ai zi (Ai ?_ (Ai V (Ai V ?_))))))
  .exact Ec
  intro c3 b3 h1 bB g1;rw[anN]at bB g1⊢;have bB:l.length+1<=c3:=V
  have e3:i+(l.length+1-i)=l.length+1:=V
  rw[e3]at g1⊢;obtain⟨Z,hZ⟩:∃Z:List Value,Z=(List.replicate (c3-(l.length+1)) ([.string ⟨#[]⟩]:List Value)).flatten:=⟨_,Y⟩
  have Cn:Z.length=(c3-(l.length+1))*1:=by rw[hZ];simp
  have q0:(List.replicate (l.length+1-i) ([.string ⟨#[]⟩]:List Value)).flatten=([.string ⟨#[]⟩]:List Value)++(List.replicate (l.length-i) ([.string ⟨#[]⟩]:List Value)).flatten:=by
   rw[show l.length+1-i=(l.length-i)+1 by omega,anK,anG]
  have B1:ai h1 b3 ((l.take i).flatMap encS++(([.string ⟨#[]⟩]:List Value)++((List.replicate (l.length-i) ([.string ⟨#[]⟩]:List Value)).flatten++Z))):=by
   have:=g1.blk;rw[q0,<-hZ]at this;simpa using this
  have i3:=g1.id;have lx:=hx.lt;have lb:=B.lt
  -- the item
  refine Ai V (Ai V (Ai V ?_));intro o3 ji _;have ji:=ji V;have t1:(((l.length+1:Nat):Int)-(i:Int)).toNat=l.length+1-i:=V
  rw[t1];have ez:o3=((l.take i).flatMap encS).length:=by rw[zi];omega
  have m1:min 1 (l.length+1-i)=1:=V
  refine Ei (encS x) (Ai (by rw[m1,xl]) (Ai ?_ ?_))
  .rw[m1];exact nF [] (encS x) [] (by simpa using hx.ae g1.ae Yy) Y
  refine nJ _ ([.string ⟨#[]⟩]:List Value) _ B1 ez (by rw[xl];rfl) (fP x) ?_;intro h2 p2;have B2:=p2.blk;have g2:=g1.put p2
  -- what stands behind
  refine Ai Y (λz hz=>?_);have hz:=cd hz V V;have hz:z=((i+1:Nat):Int):=V
  subst hz;refine Ai V (Ai V (Ai V ?_));intro o4 fj _;have fj:=fj V;have s2:SL encS h2 (.slice (some ⟨b,0,none⟩) l.length c) l:=s0.ext g2.ae;refine SL.slc (lo:=i) (hi:=l.length) bj s2 hi (ali _) ?_;intro a5 _ u6;have e5:(l.drop i).take (l.length-i)=l.drop i:=by rw[amo];simp
  rw[e5]at u6;have Ed:=u6.src;have t2:(((l.length+1:Nat):Int)-((i+1:Nat):Int)).toNat=l.length-i:=V
  rw[t2];have m2:min (l.length-i) (l.length-i)=l.length-i:=V
  refine Ei ((l.drop i).flatMap encS) (Ai (by rw[m2,zd]) (Ai (by rw[m2];exact Ed) ?_));refine nJ ((l.take i).flatMap encS++encS x) ((List.replicate (l.length-i) ([.string ⟨#[]⟩]:List Value)).flatten) Z (by rw[alG];exact B2) ?_ ?_ (sJ fP _) ?_
  .rw[ak1,zi,xl];omega
  .rw[zd];simp
  intro h3 p3;have g3:=g2.put p3;refine Ai (OL.mk (rest:=Z) gv (by rw[<-gv];omega) ?_ ?_) (Ai (g3.ae.mono Yy) (λb' bh=>.inr (by have:b'=b3:=alE.1 bh;omega)))
  .have:=g3.blk;rw[<-fin];simpa using this
  .rw[<-fin];simp only[ak1,zi,zd,xl,Cn];omega
 .have jG:l.length+1<=c:=V
  have rT:vb≠b:=λe=>ax (by simp[bG,e])
  -- there is room
  obtain⟨R1,R2,hR,nU⟩:∃R1 R2,rest=R1++R2∧R1.length=1:=by
   refine⟨rest.take 1,rest.drop 1,(ama _ _).symm,?_⟩;rw[ak1,kJ bj]at dD;rw[alA];omega
  subst hR;refine Ai Y (λz hz=>?_);have hz:=cd hz V V;have hz:z=((l.length+1:Nat):Int):=V
  subst hz;refine Ai V (Ai V (Ai V ?_));intro o1 hA hB;have qy:o1=0:=by
   have:=hA V;simpa using this
  subst qy;have t0:(((l.length+1:Nat):Int)-((0:Nat):Int)).toNat=l.length+1:=V
  have Eg:((c:Int)-((0:Nat):Int)).toNat=c:=V
  rw[t0,Eg];refine Ai Y (λz hz=>?_);have hz:=cd hz V V;have hz:z=((i+1:Nat):Int):=V
  subst hz;refine Ai V (Ai V (Ai V ?_));intro o2 _ _;have pQ:l.flatMap encS++(R1++R2)≠[]:=by
   intro e;have:=alC List.length e;rw[ak1,ak1,nU]at this;simp at this
  refine ?_;have ext:=aeE (o:=0) (o':=o2) (n:=1) (c:=1) (n':=(((l.length+1:Nat):Int)-((i+1:Nat):Int)).toNat) (c':=((c:Int)-((i+1:Nat):Int)).toNat) hx B pQ rT;refineλw hw=>?_;obtain⟨u,w',hr,⟨rfl,hh⟩,rW⟩:=ext w hw;refine⟨_,w',hr,?_,rW⟩;rw[hh];clear ext hr hh rW w' w hw;refine Ai Y (λz hz=>?_);have hz:=cd hz V V;have hz:z=((i+1:Nat):Int):=V
  subst hz;refine Ai V (Ai V (Ai V ?_));intro o3 ji CW;have qz:o3=(i+1)*1:=by
   have:=ji V;omega
  refine Ai V (Ai V (Ai V ?_));intro o4 fj _;have BY:o4=i*1:=by
   have:=fj V;omega
  have t1:(((l.length+1:Nat):Int)-((i+1:Nat):Int)).toNat=l.length-i:=V
  have t2:(((l.length+1:Nat):Int)-(i:Int)).toNat=l.length+1-i:=V
  rw[t1,t2];have m2:min (l.length+1-i) (l.length-i)=l.length-i:=V
  have B0:ai h b ((l.take i).flatMap encS++((l.drop i).flatMap encS++(R1++R2))):=by
   rw[eh,alG]at B;exact B
  -- the part behind,cut Bf
  obtain⟨D1,D2,hD,lC⟩:∃D1 D2,(l.drop i).flatMap encS++R1=D1++D2∧D1.length=1:=by
   refine⟨((l.drop i).flatMap encS++R1).take 1,((l.drop i).flatMap encS++R1).drop 1,(ama _ _).symm,?_⟩;rw[alA,ak1,nU];omega
  have qC:D2.length=(l.length-i)*1:=by
   have:=alC List.length hD;rw[ak1,ak1,zd,nU,lC]at this;omega
  refine Ei ((l.drop i).flatMap encS) (Ai (by rw[m2,zd]) (Ai (by rw[m2];exact nF _ _ _ B0 (by rw[zi];exact BY)) ?_));refine nJ ((l.take i).flatMap encS++D1) D2 R2 ?_ ?_ ?_ (sJ fP _) ?_
  .rw[alG,<-alG D1,<-hD,alG];exact B0
  .rw[ak1,zi,lC,qz];omega
  .rw[zd,qC]
  intro h1 p1;have B1:ai h1 b ((l.take i).flatMap encS++(D1++((l.drop i).flatMap encS++R2))):=by
   have:=p1.blk;rw[alG]at this;exact this
  have vd:=hx.ae p1.ae (by simpa using rT);refine Ai V (Ai V (Ai V ?_));intro o5 dS _;have BZ:o5=i*1:=by
   have:=dS V;omega
  rw[t2];have m1:min 1 (l.length+1-i)=1:=V
  refine Ei (encS x) (Ai (by rw[m1,xl]) (Ai ?_ ?_))
  .rw[m1];exact nF [] (encS x) [] (by simpa using vd) Y
  refine nJ _ D1 _ B1 (by rw[zi];exact BZ) (by rw[xl,lC]) (fP x) ?_;intro h2 p2;refine Ai (OL.mk (rest:=R2) gv (by rw[<-gv];exact jG) ?_ ?_) (Ai (p1.trans p2).ae (λ_ h=>.inl h))
  .have:=p2.blk;rw[<-fin];simpa using this
  .rw[<-fin];rw[eh]at dD;simp only[ak1,zi,zd,xl,nU]at dD⊢;omega
set_option maxHeartbeats 1000000 in
/-- slices.Delete of one item. -/
def Yj{v:Value}{l:List BA}{i:Nat}(ho:OL encS 1 h v l)(hl:l.length<=80000)(hi:i<l.length):aj Tryz.prog 223 [v,.int .i64 i,.int .i64 (i+1:Nat)] h
   (ao λr h'=>OL encS 1 h' r (l.take i++l.drop (i+1))∧ag (aq v) h h'∧∀b∈aq r,b∈aq v):=by
 obtain⟨a,c,rfl,di⟩:=ho.form;refine f223.c ?_;obtain⟨_,lM⟩:=ho.open;rcases lM with⟨_,e,_⟩|⟨b,rfl,_,rest,B,dD⟩
 .rw[e]at hi;exact absurd hi Yy
 refine Ai V (Ai V (Ai V (Ai V ?_)));intro o0 _ _;refine Ai Y (Ai (λe=>absurd e V) (λ_=>?_));have zi:=pq bj l i V;have zd:=yM bj l (i+1);have wH:l.drop i=l[i]::l.drop (i+1):=alx hi;have eh:=uf (enc:=encS) l i;rw[wH,am9]at eh;have xl:=bj l[i];have B0:ai h b ((l.take i).flatMap encS++(encS l[i]++((l.drop (i+1)).flatMap encS++rest))):=by
  rw[eh]at B;simpa using B
 -- s[:i]
 refine Ai V (Ai V (Ai V ?_));intro o1 nh QG;have qy:o1=0:=by
  have:=nh V;simpa using this
 subst qy;refine Ai V (Ai V (Ai V ?_));intro o2 jF QI;have t1:((i:Int)-((0:Nat):Int)).toNat=i:=V
 have t2:((c:Int)-((0:Nat):Int)).toNat=c:=V
 have t3:((l.length:Int)-((i+1:Nat):Int)).toNat=l.length-(i+1):=V
 rw[t1,t2,t3];have bK:i+(l.length-(i+1))<=c:=V
 -- the end of the part behind,cut Bf
 obtain⟨D1,D2,hD,lC,qC⟩:∃D1 D2,encS l[i]++(l.drop (i+1)).flatMap encS=D1++D2∧D1.length=(l.length-(i+1))*1∧D2.length=1:=by
  refine⟨(encS l[i]++(l.drop (i+1)).flatMap encS).take ((l.length-(i+1))*1),(encS l[i]++(l.drop (i+1)).flatMap encS).drop ((l.length-(i+1))*1),(ama _ _).symm,?_,?_⟩
  .rw[alA,ak1,xl,zd];omega
  .rw[amL,ak1,xl,zd];omega
 have fin:(l.take i).flatMap encS++(l.drop (i+1)).flatMap encS=(l.take i++l.drop (i+1)).flatMap encS:=Yy
 have gv:i+(l.length-(i+1))=(l.take i++l.drop (i+1)).length:=by simp;omega
 have hY:Src h (some ⟨b,o2,none⟩) (l.length-(i+1)) ((l.drop (i+1)).flatMap encS):=by
  by_cases ah:i+1<c
  .have:=jF V;refine nF ((l.take i).flatMap encS++encS l[i]) _ rest (by simpa using B0) ?_;rw[ak1,zi,xl];omega
  .have:l.drop (i+1)=[]:=by apply am4;omega
   rw[this];intro j u hj;simp at hj
 refine⟨(l.take i).flatMap encS,(l.drop (i+1)).flatMap encS,zi,zd,nF [] _ _ B0 Y,hY,sJ fP _,λ_=>?_,λah=>absurd ah V⟩;have bl:((l.take i).flatMap encS++(D1++(D2++rest))).length=c*1:=by
  rw[eh]at dD;have:=alC List.length hD;simp only[ak1]at dD this⊢;omega
 refine⟨(l.take i).flatMap encS++(D1++(D2++rest)),?_,?_,?_⟩
 .rw[<-alG D1,<-hD,alG];exact B0
 .rw[bl];have:(i+(l.length-(i+1)))*1<=c*1:=am3 _ bK;omega
 intro h1 p1;have e1:splice ((l.take i).flatMap encS++(D1++(D2++rest))) (0+i*1) ((l.drop (i+1)).flatMap encS)=(l.take i).flatMap encS++((l.drop (i+1)).flatMap encS++(D2++rest)):=by
  rw[amJ,<-zi];exact vG _ _ _ _ (by rw[zd,lC])
 rw[e1]at p1
 -- clear
 refine Ai V (Ai V (Ai V ?_));intro o3 ji CW;have t4:((l.length:Int)-((i+(l.length-(i+1)):Nat):Int)).toNat=1:=V
 rw[t4];have qz:o3=(l.length-1)*1:=by
  have:=ji V;omega
 refine nJ ((l.take i).flatMap encS++(l.drop (i+1)).flatMap encS) D2 rest (by simpa using p1.blk) ?_ (by simp[qC]) Dd ?_
 .rw[ak1,zi,zd,qz];omega
 intro h2 p2;have DN:=p2.blk;refine Ai (OL.mk (rest:=(List.replicate 1 ([.string ⟨#[]⟩]:List Value)).flatten++rest) gv (by rw[<-gv];exact bK) ?_ ?_) (Ai (p1.trans p2).ae (λ_ h=>h))
 .rw[<-fin];exact DN
 .rw[<-fin];rw[eh]at dD;simp only[ak1]at dD⊢;simp only[zi,zd,xl]at dD⊢;simp;omega
def aeC{b o n c:Nat}{l:List Value}(hv:ai h vb l)(hb:ai h b l')(hl:l'≠[])(ax:vb≠b):A3 Tryz.prog 291 [.slice (some ⟨vb,o,none⟩) n c,.slice (some ⟨b,o',none⟩) n' c'] h λv h'=>v=.bool false∧h'=h:=
 LZ (P:=Tryz.prog) (tS:=44) (tR:=4) (e:=75) (size:=2) Tryz.func291 Kr Kr Kr Kr Tryz.underlying44 Kr hv hb hl ax
set_option maxHeartbeats 1000000 in
/-- slices.Insert of one item. -/
def acU{v:Value}{l:List bM}{i:Nat}{x:bM}(ho:OL aX 2 h v l)(hl:l.length<=80000)(hi:i<=l.length)(hx:ai h vb (aX x))(ax:vb∉aq v):aj Tryz.prog 217 [v,.int .i64 i,.slice (some ⟨vb,0,none⟩) 1 1] h
   (ao λr h'=>OL aX 2 h' r (l.take i++x::l.drop i)∧ag (aq v) h h'∧∀b∈aq r,b∈aq v∨h.size<=b):=by
 obtain⟨a,c,rfl,di⟩:=ho.form;have ax:vb∉bG a:=ax;refine f217.c<|SL.slc (lo:=i) (hi:=l.length) du ho.sl hi (ali _) ?_;intro a0 _ _;refine Ai Y (Ai (λe=>absurd e Dd) (λ_=>Bi (λe=>?_) λhin=>?_))
 .have e:i=l.length:=V
  subst e;refine dZ du nS Y ho (SL.one du hx) Ys ?_;intro v' h' CV hc hb;rw[alm,amE];exact Ai CV (Ai hc hb)
 have hin:i<l.length:=V
 refine Az ?_;obtain⟨_,lM⟩:=ho.open;rcases lM with⟨_,e,_⟩|⟨b,rfl,_,rest,B,dD⟩
 .rw[e]at hin;exact absurd hin Yy
 have eN:((l.length:Int)+1)=((l.length+1:Nat):Int):=V
 have eI:((i:Int)+1)=((i+1:Nat):Int):=V
 have zi:=pq du l i hi;have zd:=yM du l i;have eh:=uf (enc:=aX) l i;have xl:=du x;have fin:(l.take i).flatMap aX++(aX x++(l.drop i).flatMap aX)=(l.take i++x::l.drop i).flatMap aX:=Yy
 have gv:l.length+1=(l.take i++x::l.drop i).length:=by simp;omega
 refine Bi (λzm=>?_) λjG=>?_
 .have zm:c<l.length+1:=V
  have s0:SL aX h (.slice (some ⟨b,0,none⟩) l.length c) l:=ho.sl;refine SL.slc (lo:=0) (hi:=i) du s0 (ak8 _) hi ?_;intro a1 _ gB;simp only[anw,anj]at gB⊢;refine Az<|Ai Y (λz hz=>?_);have hz:=mG hz V V;have hz:z=((l.length+1-i:Nat):Int):=V
  subst hz;have Ec:=gB.src;refine Ai V (Ai V (Ei ((l.take i).flatMap aX) (Ai zi (Ai ?_ (Ai V (Ai V ?_))))))
  .exact Ec
  intro c3 b3 h1 bB g1;rw[anN]at bB g1⊢;have bB:l.length+1<=c3:=V
  have e3:i+(l.length+1-i)=l.length+1:=V
  rw[e3]at g1⊢;obtain⟨Z,hZ⟩:∃Z:List Value,Z=(List.replicate (c3-(l.length+1)) ([.string ⟨#[]⟩,.string ⟨#[]⟩]:List Value)).flatten:=⟨_,Y⟩
  have Cn:Z.length=(c3-(l.length+1))*2:=by rw[hZ];simp
  have q0:(List.replicate (l.length+1-i) ([.string ⟨#[]⟩,.string ⟨#[]⟩]:List Value)).flatten=([.string ⟨#[]⟩,.string ⟨#[]⟩]:List Value)++(List.replicate (l.length-i) ([.string ⟨#[]⟩,.string ⟨#[]⟩]:List Value)).flatten:=by
   rw[show l.length+1-i=(l.length-i)+1 by omega,anK,anG]
  have B1:ai h1 b3 ((l.take i).flatMap aX++(([.string ⟨#[]⟩,.string ⟨#[]⟩]:List Value)++((List.replicate (l.length-i) ([.string ⟨#[]⟩,.string ⟨#[]⟩]:List Value)).flatten++Z))):=by
   have:=g1.blk;rw[q0,<-hZ]at this;simpa using this
  have i3:=g1.id;have lx:=hx.lt;have lb:=B.lt
  -- the item
  refine Ai V (Ai V (Ai V ?_));intro o3 ji _;have ji:=ji V;have t1:(((l.length+1:Nat):Int)-(i:Int)).toNat=l.length+1-i:=V
  rw[t1];have ez:o3=((l.take i).flatMap aX).length:=by rw[zi];omega
  have m1:min 1 (l.length+1-i)=1:=V
  refine Ei (aX x) (Ai (by rw[m1,xl]) (Ai ?_ ?_))
  .rw[m1];exact nF [] (aX x) [] (by simpa using hx.ae g1.ae Yy) Y
  refine nJ _ ([.string ⟨#[]⟩,.string ⟨#[]⟩]:List Value) _ B1 ez (by rw[xl];rfl) (nS x) ?_;intro h2 p2;have B2:=p2.blk;have g2:=g1.put p2
  -- what stands behind
  refine Ai Y (λz hz=>?_);have hz:=cd hz V V;have hz:z=((i+1:Nat):Int):=V
  subst hz;refine Ai V (Ai V (Ai V ?_));intro o4 fj _;have fj:=fj V;have s2:SL aX h2 (.slice (some ⟨b,0,none⟩) l.length c) l:=s0.ext g2.ae;refine SL.slc (lo:=i) (hi:=l.length) du s2 hi (ali _) ?_;intro a5 _ u6;have e5:(l.drop i).take (l.length-i)=l.drop i:=by rw[amo];simp
  rw[e5]at u6;have Ed:=u6.src;have t2:(((l.length+1:Nat):Int)-((i+1:Nat):Int)).toNat=l.length-i:=V
  rw[t2];have m2:min (l.length-i) (l.length-i)=l.length-i:=V
  refine Ei ((l.drop i).flatMap aX) (Ai (by rw[m2,zd]) (Ai (by rw[m2];exact Ed) ?_));refine nJ ((l.take i).flatMap aX++aX x) ((List.replicate (l.length-i) ([.string ⟨#[]⟩,.string ⟨#[]⟩]:List Value)).flatten) Z (by rw[alG];exact B2) ?_ ?_ (sJ nS _) ?_
  .rw[ak1,zi,xl];omega
  .rw[zd];simp
  intro h3 p3;have g3:=g2.put p3;refine Ai (OL.mk (rest:=Z) gv (by rw[<-gv];omega) ?_ ?_) (Ai (g3.ae.mono Yy) (λb' bh=>.inr (by have:b'=b3:=alE.1 bh;omega)))
  .have:=g3.blk;rw[<-fin];simpa using this
  .rw[<-fin];simp only[ak1,zi,zd,xl,Cn];omega
 .have jG:l.length+1<=c:=V
  have rT:vb≠b:=λe=>ax (by simp[bG,e])
  -- there is room
  obtain⟨R1,R2,hR,nU⟩:∃R1 R2,rest=R1++R2∧R1.length=2:=by
   refine⟨rest.take 2,rest.drop 2,(ama _ _).symm,?_⟩;rw[ak1,kJ du]at dD;rw[alA];omega
  subst hR;refine Ai Y (λz hz=>?_);have hz:=cd hz V V;have hz:z=((l.length+1:Nat):Int):=V
  subst hz;refine Ai V (Ai V (Ai V ?_));intro o1 hA hB;have qy:o1=0:=by
   have:=hA V;simpa using this
  subst qy;have t0:(((l.length+1:Nat):Int)-((0:Nat):Int)).toNat=l.length+1:=V
  have Eg:((c:Int)-((0:Nat):Int)).toNat=c:=V
  rw[t0,Eg];refine Ai Y (λz hz=>?_);have hz:=cd hz V V;have hz:z=((i+1:Nat):Int):=V
  subst hz;refine Ai V (Ai V (Ai V ?_));intro o2 _ _;have pQ:l.flatMap aX++(R1++R2)≠[]:=by
   intro e;have:=alC List.length e;rw[ak1,ak1,nU]at this;simp at this
  refine ?_;have ext:=aeC (o:=0) (o':=o2) (n:=1) (c:=1) (n':=(((l.length+1:Nat):Int)-((i+1:Nat):Int)).toNat) (c':=((c:Int)-((i+1:Nat):Int)).toNat) hx B pQ rT;refineλw hw=>?_;obtain⟨u,w',hr,⟨rfl,hh⟩,rW⟩:=ext w hw;refine⟨_,w',hr,?_,rW⟩;rw[hh];clear ext hr hh rW w' w hw;refine Ai Y (λz hz=>?_);have hz:=cd hz V V;have hz:z=((i+1:Nat):Int):=V
  subst hz;refine Ai V (Ai V (Ai V ?_));intro o3 ji CW;have qz:o3=(i+1)*2:=by
   have:=ji V;omega
  refine Ai V (Ai V (Ai V ?_));intro o4 fj _;have BY:o4=i*2:=by
   have:=fj V;omega
  have t1:(((l.length+1:Nat):Int)-((i+1:Nat):Int)).toNat=l.length-i:=V
  have t2:(((l.length+1:Nat):Int)-(i:Int)).toNat=l.length+1-i:=V
  rw[t1,t2];have m2:min (l.length+1-i) (l.length-i)=l.length-i:=V
  have B0:ai h b ((l.take i).flatMap aX++((l.drop i).flatMap aX++(R1++R2))):=by
   rw[eh,alG]at B;exact B
  -- the part behind,cut Bf
  obtain⟨D1,D2,hD,lC⟩:∃D1 D2,(l.drop i).flatMap aX++R1=D1++D2∧D1.length=2:=by
   refine⟨((l.drop i).flatMap aX++R1).take 2,((l.drop i).flatMap aX++R1).drop 2,(ama _ _).symm,?_⟩;rw[alA,ak1,nU];omega
  have qC:D2.length=(l.length-i)*2:=by
   have:=alC List.length hD;rw[ak1,ak1,zd,nU,lC]at this;omega
  refine Ei ((l.drop i).flatMap aX) (Ai (by rw[m2,zd]) (Ai (by rw[m2];exact nF _ _ _ B0 (by rw[zi];exact BY)) ?_));refine nJ ((l.take i).flatMap aX++D1) D2 R2 ?_ ?_ ?_ (sJ nS _) ?_
  .rw[alG,<-alG D1,<-hD,alG];exact B0
  .rw[ak1,zi,lC,qz];omega
  .rw[zd,qC]
  intro h1 p1;have B1:ai h1 b ((l.take i).flatMap aX++(D1++((l.drop i).flatMap aX++R2))):=by
   have:=p1.blk;rw[alG]at this;exact this
  have vd:=hx.ae p1.ae (by simpa using rT);refine Ai V (Ai V (Ai V ?_));intro o5 dS _;have BZ:o5=i*2:=by
   have:=dS V;omega
  rw[t2];have m1:min 1 (l.length+1-i)=1:=V
  refine Ei (aX x) (Ai (by rw[m1,xl]) (Ai ?_ ?_))
  .rw[m1];exact nF [] (aX x) [] (by simpa using vd) Y
  refine nJ _ D1 _ B1 (by rw[zi];exact BZ) (by rw[xl,lC]) (nS x) ?_;intro h2 p2;refine Ai (OL.mk (rest:=R2) gv (by rw[<-gv];exact jG) ?_ ?_) (Ai (p1.trans p2).ae (λ_ h=>.inl h))
  .have:=p2.blk;rw[<-fin];simpa using this
  .rw[<-fin];rw[eh]at dD;simp only[ak1,zi,zd,xl,nU]at dD⊢;omega
set_option maxHeartbeats 1000000 in
/-- slices.Delete of one item. -/
def Yh{v:Value}{l:List bM}{i:Nat}(ho:OL aX 2 h v l)(hl:l.length<=80000)(hi:i<l.length):aj Tryz.prog 218 [v,.int .i64 i,.int .i64 (i+1:Nat)] h
   (ao λr h'=>OL aX 2 h' r (l.take i++l.drop (i+1))∧ag (aq v) h h'∧∀b∈aq r,b∈aq v):=by
 obtain⟨a,c,rfl,di⟩:=ho.form;refine f218.c ?_;obtain⟨_,lM⟩:=ho.open;rcases lM with⟨_,e,_⟩|⟨b,rfl,_,rest,B,dD⟩
 .rw[e]at hi;exact absurd hi Yy
 refine Ai V (Ai V (Ai V (Ai V ?_)));intro o0 _ _;refine Ai Y (Ai (λe=>absurd e V) (λ_=>?_));have zi:=pq du l i V;have zd:=yM du l (i+1);have wH:l.drop i=l[i]::l.drop (i+1):=alx hi;have eh:=uf (enc:=aX) l i;rw[wH,am9]at eh;have xl:=du l[i];have B0:ai h b ((l.take i).flatMap aX++(aX l[i]++((l.drop (i+1)).flatMap aX++rest))):=by
  rw[eh]at B;simpa using B
 -- s[:i]
 refine Ai V (Ai V (Ai V ?_));intro o1 nh QG;have qy:o1=0:=by
  have:=nh V;simpa using this
 subst qy;refine Ai V (Ai V (Ai V ?_));intro o2 jF QI;have t1:((i:Int)-((0:Nat):Int)).toNat=i:=V
 have t2:((c:Int)-((0:Nat):Int)).toNat=c:=V
 have t3:((l.length:Int)-((i+1:Nat):Int)).toNat=l.length-(i+1):=V
 rw[t1,t2,t3];have bK:i+(l.length-(i+1))<=c:=V
 -- the end of the part behind,cut Bf
 obtain⟨D1,D2,hD,lC,qC⟩:∃D1 D2,aX l[i]++(l.drop (i+1)).flatMap aX=D1++D2∧D1.length=(l.length-(i+1))*2∧D2.length=2:=by
  refine⟨(aX l[i]++(l.drop (i+1)).flatMap aX).take ((l.length-(i+1))*2),(aX l[i]++(l.drop (i+1)).flatMap aX).drop ((l.length-(i+1))*2),(ama _ _).symm,?_,?_⟩
  .rw[alA,ak1,xl,zd];omega
  .rw[amL,ak1,xl,zd];omega
 have fin:(l.take i).flatMap aX++(l.drop (i+1)).flatMap aX=(l.take i++l.drop (i+1)).flatMap aX:=Yy
 have gv:i+(l.length-(i+1))=(l.take i++l.drop (i+1)).length:=by simp;omega
 have hY:Src h (some ⟨b,o2,none⟩) (l.length-(i+1)) ((l.drop (i+1)).flatMap aX):=by
  by_cases ah:i+1<c
  .have:=jF V;refine nF ((l.take i).flatMap aX++aX l[i]) _ rest (by simpa using B0) ?_;rw[ak1,zi,xl];omega
  .have:l.drop (i+1)=[]:=by apply am4;omega
   rw[this];intro j u hj;simp at hj
 refine⟨(l.take i).flatMap aX,(l.drop (i+1)).flatMap aX,zi,zd,nF [] _ _ B0 Y,hY,sJ nS _,λ_=>?_,λah=>absurd ah V⟩;have bl:((l.take i).flatMap aX++(D1++(D2++rest))).length=c*2:=by
  rw[eh]at dD;have:=alC List.length hD;simp only[ak1]at dD this⊢;omega
 refine⟨(l.take i).flatMap aX++(D1++(D2++rest)),?_,?_,?_⟩
 .rw[<-alG D1,<-hD,alG];exact B0
 .rw[bl];have:(i+(l.length-(i+1)))*2<=c*2:=am3 _ bK;omega
 intro h1 p1;have e1:splice ((l.take i).flatMap aX++(D1++(D2++rest))) (0+i*2) ((l.drop (i+1)).flatMap aX)=(l.take i).flatMap aX++((l.drop (i+1)).flatMap aX++(D2++rest)):=by
  rw[amJ,<-zi];exact vG _ _ _ _ (by rw[zd,lC])
 rw[e1]at p1
 -- clear
 refine Ai V (Ai V (Ai V ?_));intro o3 ji CW;have t4:((l.length:Int)-((i+(l.length-(i+1)):Nat):Int)).toNat=1:=V
 rw[t4];have qz:o3=(l.length-1)*2:=by
  have:=ji V;omega
 refine nJ ((l.take i).flatMap aX++(l.drop (i+1)).flatMap aX) D2 rest (by simpa using p1.blk) ?_ (by simp[qC]) Dd ?_
 .rw[ak1,zi,zd,qz];omega
 intro h2 p2;have DN:=p2.blk;refine Ai (OL.mk (rest:=(List.replicate 1 ([.string ⟨#[]⟩,.string ⟨#[]⟩]:List Value)).flatten++rest) gv (by rw[<-gv];exact bK) ?_ ?_) (Ai (p1.trans p2).ae (λ_ h=>h))
 .rw[<-fin];exact DN
 .rw[<-fin];rw[eh]at dD;simp only[ak1]at dD⊢;simp only[zi,zd,xl]at dD⊢;simp;omega
def aeD{b o n c:Nat}{l:List Value}(hv:ai h vb l)(hb:ai h b l')(hl:l'≠[])(ax:vb≠b):A3 Tryz.prog 296 [.slice (some ⟨vb,o,none⟩) n c,.slice (some ⟨b,o',none⟩) n' c'] h λv h'=>v=.bool false∧h'=h:=
 LZ (P:=Tryz.prog) (tS:=45) (tR:=4) (e:=77) (size:=2) Tryz.func296 Kr Kr Kr Kr Tryz.underlying45 Kr hv hb hl ax
set_option maxHeartbeats 1000000 in
/-- slices.Insert of one item. -/
def acV{v:Value}{l:List aF}{i:Nat}{x:aF}(ho:OL aK 2 h v l)(hl:l.length<=80000)(hi:i<=l.length)(hx:ai h vb (aK x))(ax:vb∉aq v):aj Tryz.prog 225 [v,.int .i64 i,.slice (some ⟨vb,0,none⟩) 1 1] h
   (ao λr h'=>OL aK 2 h' r (l.take i++x::l.drop i)∧ag (aq v) h h'∧∀b∈aq r,b∈aq v∨h.size<=b):=by
 obtain⟨a,c,rfl,di⟩:=ho.form;have ax:vb∉bG a:=ax;refine f225.c<|SL.slc (lo:=i) (hi:=l.length) dm ho.sl hi (ali _) ?_;intro a0 _ _;refine Ai Y (Ai (λe=>absurd e Dd) (λ_=>Bi (λe=>?_) λhin=>?_))
 .have e:i=l.length:=V
  subst e;refine dZ dm ly Y ho (SL.one dm hx) Ys ?_;intro v' h' CV hc hb;rw[alm,amE];exact Ai CV (Ai hc hb)
 have hin:i<l.length:=V
 refine Az ?_;obtain⟨_,lM⟩:=ho.open;rcases lM with⟨_,e,_⟩|⟨b,rfl,_,rest,B,dD⟩
 .rw[e]at hin;exact absurd hin Yy
 have eN:((l.length:Int)+1)=((l.length+1:Nat):Int):=V
 have eI:((i:Int)+1)=((i+1:Nat):Int):=V
 have zi:=pq dm l i hi;have zd:=yM dm l i;have eh:=uf (enc:=aK) l i;have xl:=dm x;have fin:(l.take i).flatMap aK++(aK x++(l.drop i).flatMap aK)=(l.take i++x::l.drop i).flatMap aK:=Yy
 have gv:l.length+1=(l.take i++x::l.drop i).length:=by simp;omega
 refine Bi (λzm=>?_) λjG=>?_
 .have zm:c<l.length+1:=V
  have s0:SL aK h (.slice (some ⟨b,0,none⟩) l.length c) l:=ho.sl;refine SL.slc (lo:=0) (hi:=i) dm s0 (ak8 _) hi ?_;intro a1 _ gB;simp only[anw,anj]at gB⊢;refine Az<|Ai Y (λz hz=>?_);have hz:=mG hz V V;have hz:z=((l.length+1-i:Nat):Int):=V
  subst hz;have Ec:=gB.src;refine Ai V (Ai V (Ei ((l.take i).flatMap aK) (Ai zi (Ai ?_ (Ai V (Ai V ?_))))))
  .exact Ec
  intro c3 b3 h1 bB g1;rw[anN]at bB g1⊢;have bB:l.length+1<=c3:=V
  have e3:i+(l.length+1-i)=l.length+1:=V
  rw[e3]at g1⊢;obtain⟨Z,hZ⟩:∃Z:List Value,Z=(List.replicate (c3-(l.length+1)) ([.string ⟨#[]⟩,.int .i64 0]:List Value)).flatten:=⟨_,Y⟩
  have Cn:Z.length=(c3-(l.length+1))*2:=by rw[hZ];simp
  have q0:(List.replicate (l.length+1-i) ([.string ⟨#[]⟩,.int .i64 0]:List Value)).flatten=([.string ⟨#[]⟩,.int .i64 0]:List Value)++(List.replicate (l.length-i) ([.string ⟨#[]⟩,.int .i64 0]:List Value)).flatten:=by
   rw[show l.length+1-i=(l.length-i)+1 by omega,anK,anG]
  have B1:ai h1 b3 ((l.take i).flatMap aK++(([.string ⟨#[]⟩,.int .i64 0]:List Value)++((List.replicate (l.length-i) ([.string ⟨#[]⟩,.int .i64 0]:List Value)).flatten++Z))):=by
   have:=g1.blk;rw[q0,<-hZ]at this;simpa using this
  have i3:=g1.id;have lx:=hx.lt;have lb:=B.lt
  -- the item
  refine Ai V (Ai V (Ai V ?_));intro o3 ji _;have ji:=ji V;have t1:(((l.length+1:Nat):Int)-(i:Int)).toNat=l.length+1-i:=V
  rw[t1];have ez:o3=((l.take i).flatMap aK).length:=by rw[zi];omega
  have m1:min 1 (l.length+1-i)=1:=V
  refine Ei (aK x) (Ai (by rw[m1,xl]) (Ai ?_ ?_))
  .rw[m1];exact nF [] (aK x) [] (by simpa using hx.ae g1.ae Yy) Y
  refine nJ _ ([.string ⟨#[]⟩,.int .i64 0]:List Value) _ B1 ez (by rw[xl];rfl) (ly x) ?_;intro h2 p2;have B2:=p2.blk;have g2:=g1.put p2
  -- what stands behind
  refine Ai Y (λz hz=>?_);have hz:=cd hz V V;have hz:z=((i+1:Nat):Int):=V
  subst hz;refine Ai V (Ai V (Ai V ?_));intro o4 fj _;have fj:=fj V;have s2:SL aK h2 (.slice (some ⟨b,0,none⟩) l.length c) l:=s0.ext g2.ae;refine SL.slc (lo:=i) (hi:=l.length) dm s2 hi (ali _) ?_;intro a5 _ u6;have e5:(l.drop i).take (l.length-i)=l.drop i:=by rw[amo];simp
  rw[e5]at u6;have Ed:=u6.src;have t2:(((l.length+1:Nat):Int)-((i+1:Nat):Int)).toNat=l.length-i:=V
  rw[t2];have m2:min (l.length-i) (l.length-i)=l.length-i:=V
  refine Ei ((l.drop i).flatMap aK) (Ai (by rw[m2,zd]) (Ai (by rw[m2];exact Ed) ?_));refine nJ ((l.take i).flatMap aK++aK x) ((List.replicate (l.length-i) ([.string ⟨#[]⟩,.int .i64 0]:List Value)).flatten) Z (by rw[alG];exact B2) ?_ ?_ (sJ ly _) ?_
  .rw[ak1,zi,xl];omega
  .rw[zd];simp
  intro h3 p3;have g3:=g2.put p3;refine Ai (OL.mk (rest:=Z) gv (by rw[<-gv];omega) ?_ ?_) (Ai (g3.ae.mono Yy) (λb' bh=>.inr (by have:b'=b3:=alE.1 bh;omega)))
  .have:=g3.blk;rw[<-fin];simpa using this
  .rw[<-fin];simp only[ak1,zi,zd,xl,Cn];omega
 .have jG:l.length+1<=c:=V
  have rT:vb≠b:=λe=>ax (by simp[bG,e])
  -- there is room
  obtain⟨R1,R2,hR,nU⟩:∃R1 R2,rest=R1++R2∧R1.length=2:=by
   refine⟨rest.take 2,rest.drop 2,(ama _ _).symm,?_⟩;rw[ak1,kJ dm]at dD;rw[alA];omega
  subst hR;refine Ai Y (λz hz=>?_);have hz:=cd hz V V;have hz:z=((l.length+1:Nat):Int):=V
  subst hz;refine Ai V (Ai V (Ai V ?_));intro o1 hA hB;have qy:o1=0:=by
   have:=hA V;simpa using this
  subst qy;have t0:(((l.length+1:Nat):Int)-((0:Nat):Int)).toNat=l.length+1:=V
  have Eg:((c:Int)-((0:Nat):Int)).toNat=c:=V
  rw[t0,Eg];refine Ai Y (λz hz=>?_);have hz:=cd hz V V;have hz:z=((i+1:Nat):Int):=V
  subst hz;refine Ai V (Ai V (Ai V ?_));intro o2 _ _;have pQ:l.flatMap aK++(R1++R2)≠[]:=by
   intro e;have:=alC List.length e;rw[ak1,ak1,nU]at this;simp at this
  refine ?_;have ext:=aeD (o:=0) (o':=o2) (n:=1) (c:=1) (n':=(((l.length+1:Nat):Int)-((i+1:Nat):Int)).toNat) (c':=((c:Int)-((i+1:Nat):Int)).toNat) hx B pQ rT;refineλw hw=>?_;obtain⟨u,w',hr,⟨rfl,hh⟩,rW⟩:=ext w hw;refine⟨_,w',hr,?_,rW⟩;rw[hh];clear ext hr hh rW w' w hw;refine Ai Y (λz hz=>?_);have hz:=cd hz V V;have hz:z=((i+1:Nat):Int):=V
  subst hz;refine Ai V (Ai V (Ai V ?_));intro o3 ji CW;have qz:o3=(i+1)*2:=by
   have:=ji V;omega
  refine Ai V (Ai V (Ai V ?_));intro o4 fj _;have BY:o4=i*2:=by
   have:=fj V;omega
  have t1:(((l.length+1:Nat):Int)-((i+1:Nat):Int)).toNat=l.length-i:=V
  have t2:(((l.length+1:Nat):Int)-(i:Int)).toNat=l.length+1-i:=V
  rw[t1,t2];have m2:min (l.length+1-i) (l.length-i)=l.length-i:=V
  have B0:ai h b ((l.take i).flatMap aK++((l.drop i).flatMap aK++(R1++R2))):=by
   rw[eh,alG]at B;exact B
  -- the part behind,cut Bf
  obtain⟨D1,D2,hD,lC⟩:∃D1 D2,(l.drop i).flatMap aK++R1=D1++D2∧D1.length=2:=by
   refine⟨((l.drop i).flatMap aK++R1).take 2,((l.drop i).flatMap aK++R1).drop 2,(ama _ _).symm,?_⟩;rw[alA,ak1,nU];omega
  have qC:D2.length=(l.length-i)*2:=by
   have:=alC List.length hD;rw[ak1,ak1,zd,nU,lC]at this;omega
  refine Ei ((l.drop i).flatMap aK) (Ai (by rw[m2,zd]) (Ai (by rw[m2];exact nF _ _ _ B0 (by rw[zi];exact BY)) ?_));refine nJ ((l.take i).flatMap aK++D1) D2 R2 ?_ ?_ ?_ (sJ ly _) ?_
  .rw[alG,<-alG D1,<-hD,alG];exact B0
  .rw[ak1,zi,lC,qz];omega
  .rw[zd,qC]
  intro h1 p1;have B1:ai h1 b ((l.take i).flatMap aK++(D1++((l.drop i).flatMap aK++R2))):=by
   have:=p1.blk;rw[alG]at this;exact this
  have vd:=hx.ae p1.ae (by simpa using rT);refine Ai V (Ai V (Ai V ?_));intro o5 dS _;have BZ:o5=i*2:=by
   have:=dS V;omega
  rw[t2];have m1:min 1 (l.length+1-i)=1:=V
  refine Ei (aK x) (Ai (by rw[m1,xl]) (Ai ?_ ?_))
  .rw[m1];exact nF [] (aK x) [] (by simpa using vd) Y
  refine nJ _ D1 _ B1 (by rw[zi];exact BZ) (by rw[xl,lC]) (ly x) ?_;intro h2 p2;refine Ai (OL.mk (rest:=R2) gv (by rw[<-gv];exact jG) ?_ ?_) (Ai (p1.trans p2).ae (λ_ h=>.inl h))
  .have:=p2.blk;rw[<-fin];simpa using this
  .rw[<-fin];rw[eh]at dD;simp only[ak1,zi,zd,xl,nU]at dD⊢;omega
set_option maxHeartbeats 1000000 in
/-- slices.Delete of one item. -/
def Yi{v:Value}{l:List aF}{i:Nat}(ho:OL aK 2 h v l)(hl:l.length<=80000)(hi:i<l.length):aj Tryz.prog 228 [v,.int .i64 i,.int .i64 (i+1:Nat)] h
   (ao λr h'=>OL aK 2 h' r (l.take i++l.drop (i+1))∧ag (aq v) h h'∧∀b∈aq r,b∈aq v):=by
 obtain⟨a,c,rfl,di⟩:=ho.form;refine f228.c ?_;obtain⟨_,lM⟩:=ho.open;rcases lM with⟨_,e,_⟩|⟨b,rfl,_,rest,B,dD⟩
 .rw[e]at hi;exact absurd hi Yy
 refine Ai V (Ai V (Ai V (Ai V ?_)));intro o0 _ _;refine Ai Y (Ai (λe=>absurd e V) (λ_=>?_));have zi:=pq dm l i V;have zd:=yM dm l (i+1);have wH:l.drop i=l[i]::l.drop (i+1):=alx hi;have eh:=uf (enc:=aK) l i;rw[wH,am9]at eh;have xl:=dm l[i];have B0:ai h b ((l.take i).flatMap aK++(aK l[i]++((l.drop (i+1)).flatMap aK++rest))):=by
  rw[eh]at B;simpa using B
 -- s[:i]
 refine Ai V (Ai V (Ai V ?_));intro o1 nh QG;have qy:o1=0:=by
  have:=nh V;simpa using this
 subst qy;refine Ai V (Ai V (Ai V ?_));intro o2 jF QI;have t1:((i:Int)-((0:Nat):Int)).toNat=i:=V
 have t2:((c:Int)-((0:Nat):Int)).toNat=c:=V
 have t3:((l.length:Int)-((i+1:Nat):Int)).toNat=l.length-(i+1):=V
 rw[t1,t2,t3];have bK:i+(l.length-(i+1))<=c:=V
 -- the end of the part behind,cut Bf
 obtain⟨D1,D2,hD,lC,qC⟩:∃D1 D2,aK l[i]++(l.drop (i+1)).flatMap aK=D1++D2∧D1.length=(l.length-(i+1))*2∧D2.length=2:=by
  refine⟨(aK l[i]++(l.drop (i+1)).flatMap aK).take ((l.length-(i+1))*2),(aK l[i]++(l.drop (i+1)).flatMap aK).drop ((l.length-(i+1))*2),(ama _ _).symm,?_,?_⟩
  .rw[alA,ak1,xl,zd];omega
  .rw[amL,ak1,xl,zd];omega
 have fin:(l.take i).flatMap aK++(l.drop (i+1)).flatMap aK=(l.take i++l.drop (i+1)).flatMap aK:=Yy
 have gv:i+(l.length-(i+1))=(l.take i++l.drop (i+1)).length:=by simp;omega
 have hY:Src h (some ⟨b,o2,none⟩) (l.length-(i+1)) ((l.drop (i+1)).flatMap aK):=by
  by_cases ah:i+1<c
  .have:=jF V;refine nF ((l.take i).flatMap aK++aK l[i]) _ rest (by simpa using B0) ?_;rw[ak1,zi,xl];omega
  .have:l.drop (i+1)=[]:=by apply am4;omega
   rw[this];intro j u hj;simp at hj
 refine⟨(l.take i).flatMap aK,(l.drop (i+1)).flatMap aK,zi,zd,nF [] _ _ B0 Y,hY,sJ ly _,λ_=>?_,λah=>absurd ah V⟩;have bl:((l.take i).flatMap aK++(D1++(D2++rest))).length=c*2:=by
  rw[eh]at dD;have:=alC List.length hD;simp only[ak1]at dD this⊢;omega
 refine⟨(l.take i).flatMap aK++(D1++(D2++rest)),?_,?_,?_⟩
 .rw[<-alG D1,<-hD,alG];exact B0
 .rw[bl];have:(i+(l.length-(i+1)))*2<=c*2:=am3 _ bK;omega
 intro h1 p1;have e1:splice ((l.take i).flatMap aK++(D1++(D2++rest))) (0+i*2) ((l.drop (i+1)).flatMap aK)=(l.take i).flatMap aK++((l.drop (i+1)).flatMap aK++(D2++rest)):=by
  rw[amJ,<-zi];exact vG _ _ _ _ (by rw[zd,lC])
 rw[e1]at p1
 -- clear
 refine Ai V (Ai V (Ai V ?_));intro o3 ji CW;have t4:((l.length:Int)-((i+(l.length-(i+1)):Nat):Int)).toNat=1:=V
 rw[t4];have qz:o3=(l.length-1)*2:=by
  have:=ji V;omega
 refine nJ ((l.take i).flatMap aK++(l.drop (i+1)).flatMap aK) D2 rest (by simpa using p1.blk) ?_ (by simp[qC]) Dd ?_
 .rw[ak1,zi,zd,qz];omega
 intro h2 p2;have DN:=p2.blk;refine Ai (OL.mk (rest:=(List.replicate 1 ([.string ⟨#[]⟩,.int .i64 0]:List Value)).flatten++rest) gv (by rw[<-gv];exact bK) ?_ ?_) (Ai (p1.trans p2).ae (λ_ h=>h))
 .rw[<-fin];exact DN
 .rw[<-fin];rw[eh]at dD;simp only[ak1]at dD⊢;simp only[zi,zd,xl]at dD⊢;simp;omega
end Go.Proofs.YtocgmipngoiieaaGreatDoor
namespace Go.Proofs.YtocgmipngoiieaaGreatDoor
open Go Go.Sx C
variable{h:af}{tgt:BA}
def OS:∀a b:List UInt8,(Lib.compareBytes a b=0↔a=b)
 |[],[]=>by simp[Lib.compareBytes]
 |[],_::_=>by simp[Lib.compareBytes]
 |_::_,[]=>by simp[Lib.compareBytes]
 |x::a,y::b=>by
  have ih:=OS a b;simp only[Lib.compareBytes,ans];by_cases h1:x.toNat<y.toNat
  .rw[ak4 h1];constructor
   .intro h;omega
   .intro h;injection h with h2 _;subst h2;omega
  .rw[akZ h1];by_cases h2:y.toNat<x.toNat
   .rw[ak4 h2];constructor
    .intro h;omega
    .intro h;injection h with h3 _;subst h3;omega
   .rw[akZ h2,ih];have:x=y:=ann.1 V;constructor
    .intro h;rw[this,h]
    .intro h;injection h
def OQ(a b:BA):yI a b=0↔a=b:=by
 unfold yI;rw[OS];constructor
 .intro h;cases a;cases b;simp_all
 .intro h;rw[h]
def HX{x:Int}(h0:0<=x)(h1:x<18446744073709551616):IntKind.u64.wrap x=x:=by
 have e:IntKind.u64.wrap x=x%18446744073709551616:=by simp[IntKind.wrap,IntKind.bits,IntKind.signed]
 rw[e];omega
structure ak' {α:Type} (lo:α->Bool) (l:List α) (k:Nat):Prop where
 le:k<=l.length
 low:∀i(_:i<k)(h:i<l.length),lo l[i]=true
 high:∀i(_:k<=i)(h:i<l.length),lo l[i]=false
def V8(g:Nat)(tgt cap:List Value)(lo eq:BA->Bool)(h:af):Prop:=∀h' x,ag [] h h'->aj Tryz.prog g (.string x::(tgt++cap)) h' (ao λu bq=>(∃z,u=.int .i64 z∧(z<0↔lo x=true)∧(z=0↔eq x=true))∧ag [] h' bq)
def Xq{v:Value}{l:List BA}{g:Nat}{cap:List Value}{lo eq:BA->Bool}(hv:SL encS h v l)(hl:l.length<4611686018427387904)(hg:V8 g [.string tgt] cap lo eq h)(hm:∀i j(hj:j<l.length)(hi:i<=j),lo l[j]=true->lo (l[i]' V)=true):aj Tryz.prog 294 [v,.string tgt,.func (.func g) #[] ⟨cap⟩] h
   (ao λr h'=>(∃k,r=.tuple #[.int .i64 (k:Nat),.bool ((l[k]?).any eq)]∧ak' lo l k)∧ag [] h h'):=by
 obtain⟨a,c,rfl,di⟩:=hv.form;refine f294.c ?_;have il:=hv;have hc0:ag [] h h:=ag.refl h;refine bA (λp:Nat×Nat=>[(0,.slice a l.length c),(1,.string tgt),(2,.func (.func g) #[] ⟨cap⟩),(8,.int .i64 l.length),(9,.int .i64 p.1),(10,.int .i64 p.2)])
  (λp h'=>p.1<=p.2∧p.2<=l.length∧ag [] h h'∧(∀i(_:i<p.1)(h:i<l.length),lo l[i]=true)∧(∀i(_:p.2<=i)(h:i<l.length),lo l[i]=false)) (λp=>p.2-p.1) (0,l.length)
  J6 ⟨ak8 _,ali _,ag.refl h,by intro i hi;omega,by intro i hi hh;omega⟩ ?_
 rintro⟨i,j⟩ h1 ⟨jh,eA,hc,lI,mY⟩;simp only at jh eA lI mY;refine Bi (λah=>?_) λah=>?_
 .have ah:i<j:=V
  refine Az ?_;intro z hz;rw[HX V V]at hz;subst hz;refine Ai Y (λz hz=>?_);have hz:z=((i:Int)+j)/2:=by
   have:z=((i:Int)+j).fdiv (2 ^ 1):=hz;rw[this,anp _ Dd];rfl
  subst hz;intro z hz;rw[cx V V]at hz;obtain⟨m,hm1⟩:∃m:Nat,m=(i+j)/2:=⟨_,Y⟩
  have hz:z=(m:Int):=V
  subst hz;have sW:i<=m:=V
  have zy:m<j:=V
  have ko:m<l.length:=V
  have lO:=il.ext hc;obtain⟨b,o,rfl⟩:=lO.addr V;have aI:=lO.cells bj (i:=m) (x:=l[m]) (by simp[ko]);refine Ai V (Ai V (Ei _ (Ai (aI 0 _ Y)<|akV (hg h1 l[m] (hc0.nil hc)) ?_)));rintro _ h2 ⟨⟨z,rfl,kN,_⟩,aO⟩;refine Bi (λgz=>?_) λgz=>?_
  .have hb:lo l[m]=true:=kN.1 gz;refine Ai Y (λy hy=>?_);have hy:=cd hy V V;have hy:y=((m+1:Nat):Int):=V
   subst hy;refine Ai Y (Ei (m+1,j) (Ai ?_ (Ai ?_ ?_)))
   .exact J6
   .refine⟨by simp only;omega,eA,hc.nil aO,λq hq lN=>?_,mY⟩;exact hm q m ko (by simp only at hq;omega) hb
   .simp only;omega
  .have hb:lo l[m]=false:=by
    cases eO:lo l[m]with
    |false=>rfl
    |true=>exact absurd (kN.2 eO) gz
   refine Ai Y (Ei (i,m) (Ai ?_ (Ai ?_ ?_)))
   .exact J6
   .refine⟨sW,by simp only;omega,hc.nil aO,lI,λq hq lN=>?_⟩;cases eO:lo l[q]with
    |false=>rfl
    |true=>
     have:=hm m q lN hq eO;rw[hb]at this;cases this
   .simp only;omega
 .have e:i=j:=V
  subst e;have cut:ak' lo l i:=⟨eA,lI,mY⟩
  refine Bi (λhin=>?_) λhin=>?_
  .have hin:i<l.length:=V
   have lO:=il.ext hc;obtain⟨b,o,rfl⟩:=lO.addr V;have aI:=lO.cells bj (i:=i) (x:=l[i]) (by simp[hin]);refine Ai V (Ai V (Ei _ (Ai (aI 0 _ Y)<|akV (hg h1 l[i] (hc0.nil hc)) ?_)));rintro _ h2 ⟨⟨z,rfl,_,xm⟩,aO⟩;have lF:l[i]? =some l[i]:=akU hin;refine Bi (λhe=>?_) λhe=>?_
   .refine Ai (Ei i (Ai ?_ cut)) ((hc0.nil hc).nil aO);rw[lF];show Value.tuple _=Value.tuple #[_,.bool (eq l[i])];rw[xm.1 he];rfl
   .refine Ai (Ei i (Ai ?_ cut)) ((hc0.nil hc).nil aO);rw[lF];show Value.tuple _=Value.tuple #[_,.bool (eq l[i])];have:eq l[i]=false:=by
     cases eO:eq l[i]with
     |false=>rfl
     |true=>exact absurd (xm.2 eO) he
    rw[this];rfl
  .have hin:i=l.length:=V
   refine Ai (Ei i (Ai ?_ cut)) (hc0.nil hc);rw[anR V];rfl
def V6(g:Nat)(tgt cap:List Value)(lo eq:bM->Bool)(h:af):Prop:=∀h' x,ag [] h h'->aj Tryz.prog g (.agg ⟨aX x⟩::(tgt++cap)) h' (ao λu bq=>(∃z,u=.int .i64 z∧(z<0↔lo x=true)∧(z=0↔eq x=true))∧ag [] h' bq)
def Xo{v:Value}{l:List bM}{g:Nat}{cap:List Value}{lo eq:bM->Bool}(hv:SL aX h v l)(hl:l.length<4611686018427387904)(hg:V6 g [.string tgt] cap lo eq h)(hm:∀i j(hj:j<l.length)(hi:i<=j),lo l[j]=true->lo (l[i]' V)=true):aj Tryz.prog 289 [v,.string tgt,.func (.func g) #[] ⟨cap⟩] h
   (ao λr h'=>(∃k,r=.tuple #[.int .i64 (k:Nat),.bool ((l[k]?).any eq)]∧ak' lo l k)∧ag [] h h'):=by
 obtain⟨a,c,rfl,di⟩:=hv.form;refine f289.c ?_;have il:=hv;have hc0:ag [] h h:=ag.refl h;refine bA (λp:Nat×Nat=>[(0,.slice a l.length c),(1,.string tgt),(2,.func (.func g) #[] ⟨cap⟩),(8,.int .i64 l.length),(9,.int .i64 p.1),(10,.int .i64 p.2)])
  (λp h'=>p.1<=p.2∧p.2<=l.length∧ag [] h h'∧(∀i(_:i<p.1)(h:i<l.length),lo l[i]=true)∧(∀i(_:p.2<=i)(h:i<l.length),lo l[i]=false)) (λp=>p.2-p.1) (0,l.length)
  J6 ⟨ak8 _,ali _,ag.refl h,by intro i hi;omega,by intro i hi hh;omega⟩ ?_
 rintro⟨i,j⟩ h1 ⟨jh,eA,hc,lI,mY⟩;simp only at jh eA lI mY;refine Bi (λah=>?_) λah=>?_
 .have ah:i<j:=V
  refine Az ?_;intro z hz;rw[HX V V]at hz;subst hz;refine Ai Y (λz hz=>?_);have hz:z=((i:Int)+j)/2:=by
   have:z=((i:Int)+j).fdiv (2 ^ 1):=hz;rw[this,anp _ Dd];rfl
  subst hz;intro z hz;rw[cx V V]at hz;obtain⟨m,hm1⟩:∃m:Nat,m=(i+j)/2:=⟨_,Y⟩
  have hz:z=(m:Int):=V
  subst hz;have sW:i<=m:=V
  have zy:m<j:=V
  have ko:m<l.length:=V
  have lO:=il.ext hc;obtain⟨b,o,rfl⟩:=lO.addr V;have aI:=lO.cells du (i:=m) (x:=l[m]) (by simp[ko]);refine Ai V (Ai V (Ei (aX l[m]) (Ai Y (Ai aI<|akV (hg h1 l[m] (hc0.nil hc)) ?_))));rintro _ h2 ⟨⟨z,rfl,kN,_⟩,aO⟩;refine Bi (λgz=>?_) λgz=>?_
  .have hb:lo l[m]=true:=kN.1 gz;refine Ai Y (λy hy=>?_);have hy:=cd hy V V;have hy:y=((m+1:Nat):Int):=V
   subst hy;refine Ai Y (Ei (m+1,j) (Ai ?_ (Ai ?_ ?_)))
   .exact J6
   .refine⟨by simp only;omega,eA,hc.nil aO,λq hq lN=>?_,mY⟩;exact hm q m ko (by simp only at hq;omega) hb
   .simp only;omega
  .have hb:lo l[m]=false:=by
    cases eO:lo l[m]with
    |false=>rfl
    |true=>exact absurd (kN.2 eO) gz
   refine Ai Y (Ei (i,m) (Ai ?_ (Ai ?_ ?_)))
   .exact J6
   .refine⟨sW,by simp only;omega,hc.nil aO,lI,λq hq lN=>?_⟩;cases eO:lo l[q]with
    |false=>rfl
    |true=>
     have:=hm m q lN hq eO;rw[hb]at this;cases this
   .simp only;omega
 .have e:i=j:=V
  subst e;have cut:ak' lo l i:=⟨eA,lI,mY⟩
  refine Bi (λhin=>?_) λhin=>?_
  .have hin:i<l.length:=V
   have lO:=il.ext hc;obtain⟨b,o,rfl⟩:=lO.addr V;have aI:=lO.cells du (i:=i) (x:=l[i]) (by simp[hin]);refine Ai V (Ai V (Ei (aX l[i]) (Ai Y (Ai aI<|akV (hg h1 l[i] (hc0.nil hc)) ?_))));rintro _ h2 ⟨⟨z,rfl,_,xm⟩,aO⟩;have lF:l[i]? =some l[i]:=akU hin;refine Bi (λhe=>?_) λhe=>?_
   .refine Ai (Ei i (Ai ?_ cut)) ((hc0.nil hc).nil aO);rw[lF];show Value.tuple _=Value.tuple #[_,.bool (eq l[i])];rw[xm.1 he];rfl
   .refine Ai (Ei i (Ai ?_ cut)) ((hc0.nil hc).nil aO);rw[lF];show Value.tuple _=Value.tuple #[_,.bool (eq l[i])];have:eq l[i]=false:=by
     cases eO:eq l[i]with
     |false=>rfl
     |true=>exact absurd (xm.2 eO) he
    rw[this];rfl
  .have hin:i=l.length:=V
   refine Ai (Ei i (Ai ?_ cut)) (hc0.nil hc);rw[anR V];rfl
def V7(g:Nat)(tgt cap:List Value)(lo:aF->Bool)(h:af):Prop:=∀h' x,ag [] h h'->aj Tryz.prog g (.agg ⟨aK x⟩::(tgt++cap)) h' (ao λu bq=>(∃z,u=.int .i64 z∧(z<0↔lo x=true))∧ag [] h' bq)
def Xp{v:Value}{l:List aF}{g:Nat}{cap:List Value}{tgt:aF}{lo:aF->Bool}(hv:SL aK h v l)(hl:l.length<4611686018427387904)(hg:V7 g [.agg ⟨aK tgt⟩] cap lo h)(hm:∀i j(hj:j<l.length)(hi:i<=j),lo l[j]=true->lo (l[i]' V)=true):aj Tryz.prog 224 [v,.agg ⟨aK tgt⟩,.func (.func g) #[] ⟨cap⟩] h
   (ao λr h'=>(∃k f,r=.tuple #[.int .i64 (k:Nat),.bool f]∧ak' lo l k)∧ag [] h h'):=by
 obtain⟨a,c,rfl,di⟩:=hv.form;refine f224.c ?_;intro b4 h0 g0;have hc0:=g0.ae;have il:=hv.ext hc0;have B4:ai h0 b4 (aK tgt):=g0.blk;refine bA (λp:Nat×Nat=>[(0,.slice a l.length c),(4,.pointer (some ⟨b4,0,none⟩)),(2,.func (.func g) #[] ⟨cap⟩),(8,.int .i64 l.length),(9,.int .i64 p.1),(10,.int .i64 p.2)])
  (λp h'=>p.1<=p.2∧p.2<=l.length∧ag [] h0 h'∧(∀i(_:i<p.1)(h:i<l.length),lo l[i]=true)∧(∀i(_:p.2<=i)(h:i<l.length),lo l[i]=false)) (λp=>p.2-p.1) (0,l.length)
  J6 ⟨ak8 _,ali _,ag.refl h0,by intro i hi;omega,by intro i hi hh;omega⟩ ?_
 rintro⟨i,j⟩ h1 ⟨jh,eA,hc,lI,mY⟩;simp only at jh eA lI mY;refine Bi (λah=>?_) λah=>?_
 .have ah:i<j:=V
  refine Az ?_;intro z hz;rw[HX V V]at hz;subst hz;refine Ai Y (λz hz=>?_);have hz:z=((i:Int)+j)/2:=by
   have:z=((i:Int)+j).fdiv (2 ^ 1):=hz;rw[this,anp _ Dd];rfl
  subst hz;intro z hz;rw[cx V V]at hz;obtain⟨m,hm1⟩:∃m:Nat,m=(i+j)/2:=⟨_,Y⟩
  have hz:z=(m:Int):=V
  subst hz;have sW:i<=m:=V
  have zy:m<j:=V
  have ko:m<l.length:=V
  have lO:=il.ext hc;obtain⟨b,o,rfl⟩:=lO.addr V;have aI:=lO.cells dm (i:=m) (x:=l[m]) (by simp[ko]);refine Ai V (Ai V (Ei (aK l[m]) (Ai Y (Ai aI<|Ei (aK tgt) (Ai Y (Ai (akW (B4.ae hc Yy))<|akV (hg h1 l[m] (hc0.nil hc)) ?_))))));rintro _ h2 ⟨⟨z,rfl,kN⟩,aO⟩;refine Bi (λgz=>?_) λgz=>?_
  .have hb:lo l[m]=true:=kN.1 gz;refine Ai Y (λy hy=>?_);have hy:=cd hy V V;have hy:y=((m+1:Nat):Int):=V
   subst hy;refine Ai Y (Ei (m+1,j) (Ai ?_ (Ai ?_ ?_)))
   .exact J6
   .refine⟨by simp only;omega,eA,hc.nil aO,λq hq lN=>?_,mY⟩;exact hm q m ko (by simp only at hq;omega) hb
   .simp only;omega
  .have hb:lo l[m]=false:=by
    cases eO:lo l[m]with
    |false=>rfl
    |true=>exact absurd (kN.2 eO) gz
   refine Ai Y (Ei (i,m) (Ai ?_ (Ai ?_ ?_)))
   .exact J6
   .refine⟨sW,by simp only;omega,hc.nil aO,lI,λq hq lN=>?_⟩;cases eO:lo l[q]with
    |false=>rfl
    |true=>
     have:=hm m q lN hq eO;rw[hb]at this;cases this
   .simp only;omega
 .have e:i=j:=V
  subst e;have cut:ak' lo l i:=⟨eA,lI,mY⟩
  refine Bi (λhin=>?_) λhin=>?_
  .have hin:i<l.length:=V
   have lO:=il.ext hc;obtain⟨b,o,rfl⟩:=lO.addr V;have aI:=lO.cells dm (i:=i) (x:=l[i]) (by simp[hin]);refine Ai V (Ai V (Ei (aK l[i]) (Ai Y (Ai aI<|Ei (aK tgt) (Ai Y (Ai (akW (B4.ae hc Yy))<|akV (hg h1 l[i] (hc0.nil hc)) ?_))))));rintro _ h2 ⟨⟨z,rfl,_⟩,aO⟩;refine Bi (λhe=>?_) λhe=>?_
   .exact Ai (Ei i (Ei true (Ai Y cut))) ((hc0.nil hc).nil aO)
   .exact Ai (Ei i (Ei false (Ai Y cut))) ((hc0.nil hc).nil aO)
  .have hin:i=l.length:=V
   exact Ai (Ei i (Ei false (Ai Y cut))) (hc0.nil hc)
def ac2(s:BA):aj Tryz.prog 222 [.string s] h (ao λu h'=>u=.string s∧h'=h):=by
 exact f222.c<|Ai Y Y
def aeG(p:bM):aj Tryz.prog 216 [.agg ⟨aX p⟩] h (ao λu h'=>u=.string p.name∧ag [] h h'):=by
 refine f216.c ?_;intro b1 h1 g1;have B1:ai h1 b1 (aX p):=g1.blk;exact Ei _ (Ai (an B1 Y)<|Ai Y g1.ae)
def Hg{α:Type}{lt:α->α->Bool}(tG:∀a b c,lt a b=true->lt b c=true->lt a c=true):∀{l:List α},rising lt l=true->l.Pairwise λa b=>lt a b=true
 |[],_=>List.Pairwise.nil
 |[x],_=>aoR _ _
 |x::y::l,h=>by
  simp only[rising,alO]at h;have ih:=Hg tG h.2;refine List.Pairwise.cons (λz hz=>?_) ih;rcases ak3.1 hz with rfl|hz
  .exact h.1
  .exact tG _ _ _ h.1 (an1 ih hz)
def Ot{v:Value}{l:List BA}(name:BA)(hv:SL encS h v l)(hl:l.length<4611686018427387904)(hs:l.Pairwise λa b=>aP a b=true):aj Tryz.prog 221 [v,.func (.func 222) #[] #[],.string name] h
   (ao λr h'=>(∃k,r=.tuple #[.int .i64 (k:Nat),.bool ((l[k]?).any λx=>decide (x=name))]∧ak' (λx=>aP x name) l k)∧ag [] h h'):=by
 refine f221.c ?_;intro b4 h1 g1;have B4:ai h1 b4 [.func (.func 222) #[] #[]]:=g1.blk;refine akV (Xq (g:=295) (cap:=[ptr b4]) (lo:=λx=>aP x name) (eq:=λx=>decide (x=name)) (hv.ext g1.ae) hl ?_ ?_) ?_
 .intro h2 x aO;refine f295.c<|Ei _ (Ai (an (B4.ae aO Yy) Y)<|akV (ac2 x) ?_);rintro _ h3 ⟨rfl,rfl⟩;refine akV (BK x name) ?_;rintro _ h4 ⟨rfl,rfl⟩;exact Ai (Ei _ (Ai Y (Ai (BJ _ _) (by rw[OQ];simp)))) (ag.refl _)
 .intro i j hj hi jE;rcases aow hi with ah|rfl
  .exact mF (am5.1 hs i j V hj ah) jE
  .exact jE
 .rintro _ h2 ⟨⟨k,rfl,hk⟩,aO⟩;exact Ai (Ei k (Ai Y hk)) (g1.ae.nil aO)
def Oq{v:Value}{l:List bM}(name:BA)(hv:SL aX h v l)(hl:l.length<4611686018427387904)(hs:l.Pairwise λa b=>aP a.name b.name=true):aj Tryz.prog 215 [v,.func (.func 216) #[] #[],.string name] h
   (ao λr h'=>(∃k,r=.tuple #[.int .i64 (k:Nat),.bool ((l[k]?).any λx=>decide (x.name=name))]∧ak' (λx=>aP x.name name) l k)∧ag [] h h'):=by
 refine f215.c ?_;intro b4 h1 g1;have B4:ai h1 b4 [.func (.func 216) #[] #[]]:=g1.blk;refine akV (Xo (g:=290) (cap:=[ptr b4]) (lo:=λx=>aP x.name name) (eq:=λx=>decide (x.name=name)) (hv.ext g1.ae) hl ?_ ?_) ?_
 .intro h2 x aO;refine f290.c ?_;intro b3 h3 g3;have B3:ai h3 b3 (aX x):=g3.blk;have AW:=(B4.ae aO Yy).ae g3.ae Yy;refine Ei _ (Ai (an AW Y)<|Ei (aX x) (Ai Y (Ai (akW B3)<|akV (aeG x) ?_)));rintro _ h4 ⟨rfl,dw⟩;refine akV (BK x.name name) ?_;rintro _ h5 ⟨rfl,rfl⟩;exact Ai (Ei _ (Ai Y (Ai (BJ _ _) (by rw[OQ];simp)))) (g3.ae.nil dw)
 .intro i j hj hi jE;rcases aow hi with ah|rfl
  .exact mF (am5.1 hs i j V hj ah) jE
  .exact jE
 .rintro _ h2 ⟨⟨k,rfl,hk⟩,aO⟩;exact Ai (Ei k (Ai Y hk)) (g1.ae.nil aO)
def ac4{v:Value}{l:List aF}{g:Nat}{cap:List Value}{p:aF->Bool}(hv:SL aK h v l)(hl:l.length<4611686018427387904)(hg:∀h' x,ag [] h h'->aj Tryz.prog g (.agg ⟨aK x⟩::cap) h' (ao λu bq=>u=.bool (p x)∧ag [] h' bq)):aj Tryz.prog 226 [v,.func (.func g) #[] ⟨cap⟩] h
   (ao λr h'=>((∃(k:Nat)(hk:k<l.length),r=.int .i64 k∧p l[k]=true)∨(r=.int .i64 (-1)∧∀x∈l,p x=false))∧ag [] h h'):=by
 obtain⟨a,c,rfl,di⟩:=hv.form;refine f226.c<|bA (λk:Nat=>[(0,.slice a l.length c),(1,.func (.func g) #[] ⟨cap⟩),(7,.int .i64 l.length),(8,.int .i64 k)]) (λk h'=>k<=l.length∧ag [] h h'∧∀x∈l.take k,p x=false) (λk=>l.length-k) 0
  J4 ⟨ak8 _,ag.refl h,Yy⟩ ?_
 rintro k h1 ⟨hk,hc,bD⟩;refine Bi (λah=>?_) λah=>?_
 .have ah:k<l.length:=V
  have bL:=hv.ext hc;obtain⟨b,o,rfl⟩:=bL.addr V;have aI:=bL.cells dm (i:=k) (x:=l[k]) (by simp[ah]);refine Ai V (Ai V (Ei (aK l[k]) (Ai Y (Ai aI<|akV (hg h1 l[k] hc) ?_))));rintro _ h2 ⟨rfl,aO⟩;cases hp:p l[k]with
  |true=>exact Ai (.inl ⟨k,ah,Y,hp⟩) (hc.nil aO)
  |false=>
   refine Az<|Ai Y (Ei (k+1) (Ai ?_ (Ai ?_ ?_)))
   .exact J4
   .refine⟨V,hc.nil aO,λx hx=>?_⟩;rw[iL l k ah]at hx;rcases alf.1 hx with hx|hx
    .exact bD x hx
    .simp at hx;rw[hx];exact hp
   .omega
 .have aZ:k=l.length:=V
  subst aZ;rw[alm]at bD;exact Ai (.inr ⟨Y,bD⟩) hc
end Go.Proofs.YtocgmipngoiieaaGreatDoor
namespace Go.Proofs.YtocgmipngoiieaaGreatDoor
open Go Go.Sx
structure RX where
 key:BA
 thing:aB
 vs:List Value
 len:vs.length=7
 one:∀u∈vs,u.oneCell'=true
def dv(x:RX):List Value:=.string x.key::x.vs
def gT(x:RX):(dv x).length=8:=by simp[dv,x.len]
def yP(x:RX):∀u∈dv x,u.oneCell'=true:=by
 intro u hu;simp only[dv,ak3]at hu;rcases hu with rfl|hu
 .rfl
 .exact x.one u hu
def GX(h:af)(l:List RX):Prop:=∀x∈l,TH h x.vs x.thing
def GX.ext{h h':af}{l:List RX}(g:GX h l)(hc:ag [] h h'):GX h' l:=λx hx=>(g x hx).ext hc
def br(key:BA):List RX->Nat×Bool
 |[]=>(0,false)
 |x::l=>if x.key=key then(0,true)else if aP key x.key=true then(0,false)else((br key l).1+1,(br key l).2)
def iX(l:List RX)(x:RX):List RX:=
 l.take (br x.key l).1++[x]++l.drop (if(br x.key l).2=true then(br x.key l).1+1 else(br x.key l).1)
def mR(l:List RX)(key:BA):List RX:=
 if(br key l).2=true then l.take (br key l).1++l.drop ((br key l).1+1)else l
def gR(l:List RX):Prop:=l.Pairwise λx y=>aP x.key y.key=true
def B'(key:BA):∀l:List RX,(br key l).1<=l.length
 |[]=>ali _
 |x::l=>by
  have:=B' key l;unfold br;split
  .exact ak8 _
  .split
   .exact ak8 _
   .simp;exact this
def alq(key:BA):∀l:List RX,(br key l).2=true->∃h:(br key l).1<l.length,l[(br key l).1].key=key
 |[],h=>by simp[br]at h
 |x::l,h=>by
  by_cases h1:x.key=key
  .have e:br key (x::l)=(0,true):=by unfold br;rw[ak4 h1]
   simp only[e];exact⟨Yy,by simpa using h1⟩
  .by_cases h2:aP key x.key=true
   .have e:br key (x::l)=(0,false):=by unfold br;rw[akZ h1,ak4 h2]
    rw[e]at h;simp at h
   .have e:br key (x::l)=((br key l).1+1,(br key l).2):=by rw[br,akZ h1,akZ h2]
    rw[e]at h;obtain⟨h3,h4⟩:=alq key l h;simp only[e];exact⟨by simp;exact h3,by simpa using h4⟩
def aao{key:BA}{l:List RX}(h:(br key l).2=true):∃x∈l,x.key=key:=by
 obtain⟨h1,h2⟩:=alq key l h;exact⟨_,ak9 h1,h2⟩
def yR{key:BA}:∀{l:List RX},gR l->(∃x∈l,x.key=key)->(br key l).2=true
 |[],_,h=>by simp at h
 |x::l,hu,h=>by
  unfold br;split
  .rfl
  .rename_i h1;obtain⟨y,hy,hk⟩:=h;rcases ak3.1 hy with rfl|hy
   .exact absurd hk h1
   .have h2:=(amd.1 hu).1 y hy;rw[hk]at h2;split
    .rename_i h3;have:=mF h2 h3;rw[qj]at this;cases this
    .exact yR (amd.1 hu).2 ⟨y,hy,hk⟩
def Tl(y:RX)(l:List RX)(x:RX):iX (y::l) x=if y.key=x.key then x::l else if aP x.key y.key=true then x::y::l else y::iX l x:=by
 unfold iX;by_cases h1:y.key=x.key
 .have e:br x.key (y::l)=(0,true):=by unfold br;rw[ak4 h1]
  rw[e,ak4 h1];simp
 .by_cases h2:aP x.key y.key=true
  .have e:br x.key (y::l)=(0,false):=by unfold br;rw[akZ h1,ak4 h2]
   rw[e,akZ h1,ak4 h2];simp
  .have e:br x.key (y::l)=((br x.key l).1+1,(br x.key l).2):=by rw[br,akZ h1,akZ h2]
   rw[e,akZ h1,akZ h2];cases hb:(br x.key l).2<;>simp
def To(x:RX):iX [] x=[x]:=rfl
def Pe(y:RX)(l:List RX)(k:BA):mR (y::l) k=if y.key=k then l else if aP k y.key=true then y::l else y::mR l k:=by
 unfold mR;by_cases h1:y.key=k
 .have e:br k (y::l)=(0,true):=by unfold br;rw[ak4 h1]
  rw[e,ak4 h1];simp
 .by_cases h2:aP k y.key=true
  .have e:br k (y::l)=(0,false):=by unfold br;rw[akZ h1,ak4 h2]
   rw[e,akZ h1,ak4 h2];simp
  .have e:br k (y::l)=((br k l).1+1,(br k l).2):=by rw[br,akZ h1,akZ h2]
   rw[e,akZ h1,akZ h2];cases hb:(br k l).2<;>simp
def sq{a b:BA}(h:aP a b=true):a≠b:=by
 intro e;subst e;rw[qj]at h;cases h
def oh{x y:RX}:∀{l:List RX},gR l->(y∈iX l x↔y=x∨(y∈l∧y.key≠x.key))
 |[],_=>by simp[To]
 |z::l,hu=>by
  obtain⟨h1,h2⟩:=amd.1 hu;rw[Tl];split
  .rename_i hk;rw[ak3,ak3];constructor
   .rintro(rfl|hy)
    .exact .inl Y
    .refine .inr ⟨.inr hy,λe=>sq (h1 y hy) (hk.trans e.symm)⟩
   .rintro(rfl|⟨rfl|hy,hn⟩)
    .exact .inl Y
    .exact absurd hk hn
    .exact .inr hy
  .rename_i hk;split
   .rename_i hl;rw[ak3,ak3];constructor
    .rintro(rfl|rfl|hy)
     .exact .inl Y
     .exact .inr ⟨.inl Y,hk⟩
     .refine .inr ⟨.inr hy,λe=>?_⟩;have:=mF hl (h1 y hy);rw[e,qj]at this;cases this
    .rintro(rfl|⟨rfl|hy,hn⟩)
     .exact .inl Y
     .exact .inr (.inl Y)
     .exact .inr (.inr hy)
   .rw[ak3,oh h2,ak3];constructor
    .rintro(rfl|rfl|⟨hy,hn⟩)
     .exact .inr ⟨.inl Y,hk⟩
     .exact .inl Y
     .exact .inr ⟨.inr hy,hn⟩
    .rintro(rfl|⟨rfl|hy,hn⟩)
     .exact .inr (.inl Y)
     .exact .inl Y
     .exact .inr (.inr ⟨hy,hn⟩)
def uo{x:RX}:∀{l:List RX},gR l->gR (iX l x)
 |[],_=>by rw[To];exact aoR _ _
 |z::l,hu=>by
  obtain⟨h1,h2⟩:=amd.1 hu;rw[Tl];split
  .rename_i hk;exact amd.2 ⟨λy hy=>by rw[<-hk];exact h1 y hy,h2⟩
  .rename_i hk;split
   .rename_i hl;refine amd.2 ⟨λy hy=>?_,hu⟩;rcases ak3.1 hy with rfl|hy
    .exact hl
    .exact mF hl (h1 y hy)
   .rename_i hl;refine amd.2 ⟨λy hy=>?_,uo h2⟩;rcases(oh h2).1 hy with rfl|⟨hy,_⟩
    .rcases Hz (a:=z.key) (b:=y.key) hk with h|h
     .exact h
     .exact absurd h hl
    .exact h1 y hy
def vm{k:BA}{y:RX}:∀{l:List RX},gR l->(y∈mR l k↔y∈l∧y.key≠k)
 |[],_=>by simp[mR,br]
 |z::l,hu=>by
  obtain⟨h1,h2⟩:=amd.1 hu;rw[Pe];split
  .rename_i hk;rw[ak3];constructor
   .exactλhy=>⟨.inr hy,λe=>sq (h1 y hy) (hk.trans e.symm)⟩
   .rintro⟨rfl|hy,hn⟩
    .exact absurd hk hn
    .exact hy
  .rename_i hk;split
   .rename_i hl;rw[ak3];constructor
    .rintro(rfl|hy)
     .exact⟨.inl Y,hk⟩
     .refine⟨.inr hy,λe=>?_⟩;have:=mF hl (h1 y hy);rw[e,qj]at this;cases this
    .exactλh=>h.1
   .rw[ak3,vm h2,ak3];constructor
    .rintro(rfl|⟨hy,hn⟩)
     .exact⟨.inl Y,hk⟩
     .exact⟨.inr hy,hn⟩
    .rintro⟨rfl|hy,hn⟩
     .exact .inl Y
     .exact .inr ⟨hy,hn⟩
def M8{k:BA}:∀{l:List RX},gR l->gR (mR l k)
 |[],_=>by simp[mR,br,gR]
 |z::l,hu=>by
  obtain⟨h1,h2⟩:=amd.1 hu;rw[Pe];split
  .exact h2
  .split
   .exact hu
   .exact amd.2 ⟨λy hy=>h1 y ((vm h2).1 hy).1,M8 h2⟩
def aeR(l:List RX)(x:RX):(iX l x).length<=l.length+1:=by
 unfold iX;have:=B' x.key l;simp only[ak1,alA,amL,ak0,aly];split<;>omega
def Tm{l:List RX}{x:RX}(h:(br x.key l).2=false):(iX l x).length=l.length+1:=by
 unfold iX;have:=B' x.key l;simp only[ak1,alA,amL,ak0,aly,h];simp;omega
def HQ{α:Type}{lt:α->α->Prop}(ha:∀a b,lt a b->¬lt b a):∀{l m:List α},l.Pairwise lt->m.Pairwise lt->(∀x,x∈l↔x∈m)->l=m
 |[],[],_,_,_=>rfl
 |[],b::m,_,_,h=>by have:=(h b).2 Yy;simp at this
 |a::l,[],_,_,h=>by have:=(h a).1 Yy;simp at this
 |a::l,b::m,hl,hm,h=>by
  obtain⟨l1,l2⟩:=amd.1 hl;obtain⟨m1,m2⟩:=amd.1 hm;have e:a=b:=by
   rcases ak3.1 ((h a).1 Yy)with e|ha'
   .exact e
   .rcases ak3.1 ((h b).2 Yy)with e|bh
    .exact e.symm
    .exact absurd (l1 b bh) (ha b a (m1 a ha'))
  subst e;have Rk:∀x,¬lt x x:=λx hx=>ha x x hx hx;refine alC _ (HQ ha l2 m2 λx=>⟨λhx=>?_,λhx=>?_⟩)
  .rcases ak3.1 ((h x).1 (alr _ hx))with e|h'
   .exact absurd (l1 x hx) (by rw[e];exact Rk _)
   .exact h'
  .rcases ak3.1 ((h x).2 (alr _ hx))with e|h'
   .exact absurd (m1 x hx) (by rw[e];exact Rk _)
   .exact h'
end Go.Proofs.YtocgmipngoiieaaGreatDoor
namespace Go.Proofs.YtocgmipngoiieaaGreatDoor
open Go Go.Sx C
def pG{h:af}{b o:Nat}{x:RX}(hc:fF h b o (dv x)):fF h b (o+1) x.vs:=λi v hv=>by
 have:=hc (i+1) v hv;rw[show o+1+i=o+(i+1)by omega];exact this
def Ef{P:Program}{a b:akX}{Q:de}{σ:Env}{ds:List Deferred}{h:af}(hs:swp P a (fc (swp P b Q) Q) σ ds h):swp P (.seq a b) Q σ ds h:=hs
def ag0{vs:List Value}(h:vs.length=7):∃a b c d e f g,vs=[a,b,c,d,e,f,g]:=by
 match vs,h with
 |[a,b,c,d,e,f,g],_=>exact⟨a,b,c,d,e,f,g,Y⟩
def TH.cP{h:af}{vs:List Value}{t:aB}(x:TH h vs t):vs[5]? =some (.bool t.cP):=by
 obtain⟨pv,lv,rv,rfl,_⟩:=x;rfl
def TH.bQ{h:af}{vs:List Value}{t:aB}(x:TH h vs t):vs[6]? =some (.int .i64 t.bQ):=by
 obtain⟨pv,lv,rv,rfl,_⟩:=x;rfl
def oB(l:List RX):Prop:=∀x∈l,x.key.size<4611686018427387904
def vP{h:af}{v:Value}{l:List RX}(key:BA)(hv:SL dv h v l)(hl:l.length<4611686018427387904)(hk:key.size<4611686018427387904)(hf:oB l):aj Tryz.prog 18 [v,.string key] h (ao λr h'=>r=.tuple #[.int .i64 (br key l).1,.bool (br key l).2]∧h'=h):=by
 obtain⟨a,c,rfl,di⟩:=hv.form;refine f18.c<|bA (λk:Nat=>[(0,.slice a l.length c),(1,.string key),(6,.int .i64 k)]) (λk h'=>k<=l.length∧h'=h∧br key l=((br key (l.drop k)).1+k,(br key (l.drop k)).2)) (λk=>l.length-k) 0
  J3 ⟨ak8 _,Y,Yy⟩ ?_
 rintro k h1 ⟨dR,e1,oM⟩;have e1:=e1.symm;subst e1;refine Bi (λht=>?_) λht=>?_
 .have ah:k<l.length:=V
  obtain⟨b,o,rfl⟩:=hv.addr V;have aI:=hv.cells gT (i:=k) (x:=l[k]) (by simp[ah]);have fX:l.drop k=l[k]::l.drop (k+1):=alx ah;rw[fX]at oM;refine Ai V (Ai V (Ei _ (Ai (aI 0 _ Y)<|Ai (λheq=>?_) (λax=>?_))))
  .have e:br key l=(k,true):=by rw[oM];simp[br,heq]
   exact Ai (by rw[e];rfl) Y
  .refine Ai V (Ai V (Ei _ (Ai (aI 0 _ Y)<|akV (yl key l[k].key hk (hf _ (ak9 ah))) ?_)));rintro r h2 ⟨hr,e2⟩;have e2:=e2.symm;subst e2;cases hs:aP key l[k].key with
   |true=>
    rw[hs]at hr;subst hr;have e:br key l=(k,false):=by rw[oM,br,akZ ax,ak4 hs];simp
    exact Ai (by rw[e];rfl) Y
   |false=>
    rw[hs]at hr;subst hr;refine Az<|Ai Y (Ei (k+1) (Ai ?_ (Ai ?_ ?_)))
    .exact J3
    .refine⟨V,Y,?_⟩;rw[oM,br,akZ ax,akZ (by rw[hs];simp)];simp;omega
    .omega
 .have ah:k=l.length:=V
  subst ah;have e:br key l=(l.length,false):=by rw[oM];simp[br]
  exact Ai (by rw[e];rfl) Y
def NU{h:af}{v:Value}{l:List RX}(x:RX)(hv:SL dv h v l)(hl:l.length<=100000)(hk:x.key.size<4611686018427387904)(hf:oB l):aj Tryz.prog 20 [v,.string x.key,.agg ⟨x.vs⟩] h (ao λr h'=>OL dv 8 h' r (iX l x)∧(∀b∈aq r,h.size<=b)∧ag [] h h'):=by
 obtain⟨a,c,rfl,di⟩:=hv.form;obtain⟨v0,v1,v2,v3,v4,v5,v6,qT⟩:=ag0 x.len;rw[qT];refine f20.c ?_;intro b5 h1 g1;have B1:ai h1 b5 [v0,v1,v2,v3,v4,v5,v6]:=g1.blk;have bL:=hv.ext g1.ae;refine akV (vP x.key bL V hk hf) ?_;rintro _ h9 ⟨rfl,e9⟩;have e9:=e9.symm;subst e9;have hi:=B' x.key l;refine SL.slc (lo:=0) gT bL (ak8 _) hi ?_;intro a1 _ gB;simp only[anw,anj]at gB⊢;refine vT gT yP Y gB Ys ?_;intro w4 h4 fj dw kg;have B4:=B1.ae dw Yy;refine Ei [v0,v1,v2,v3,v4,v5,v6] (Ai Y (Ai (akW B4) ?_));intro Xc h5 g5;have Xd:ai h5 Xc (dv x):=by have:=g5.blk;unfold dv;rw[qT];exact this
 have dS:=fj.ext g5.ae;obtain⟨a5,c5,rfl,akB⟩:=dS.sl.form;refine dZ gT yP Y dS (SL.one gT Xd) Ys ?_;intro w6 h6 ho6 iz mU;have amn:∀b∈bG a5,h1.size<=b:=λb hb=>kg b hb;have JM:ag [] h1 h6:=(dw.nil g5.ae).fresh iz amn;have P6:∀b∈aq w6,h1.size<=b:=λb hb=>by
  rcases mU b hb with h|h
  .exact amn b h
  .have:=dw.size;have:=g5.size;omega
 have hv6:=bL.ext JM;obtain⟨a6,c6,rfl,akC⟩:=ho6.sl.form;have z1:=g1.size;have fin:∀(i:Nat),i<=l.length->(l.take (br x.key l).1++[x]++l.drop i=iX l x)->
   swp Tryz.prog f20.sc.r.r.r.r.r (cC [.t 6] (ao λr h'=>OL dv 8 h' r (iX l x)∧(∀b∈aq r,h.size<=b)∧ag [] h h')) (mk [(9,.slice a6 (l.take (br x.key l).1++[x]).length c6),(0,.slice a l.length c),(7,.int .i64 i)]) [] h6:=by
  intro i fY acs;refine SL.slc (lo:=i) gT hv6 fY (ali _) ?_;intro a7 _ QY;have e:(l.drop i).take (l.length-i)=l.drop i:=by rw[amo];simp
  rw[e]at QY;refine dZ gT yP Y ho6 QY Ys ?_;intro v8 h8 QJ JQ P';have abO:ag [] h1 h8:=JM.fresh JQ P6;rw[acs]at QJ;refine Ai QJ (Ai (λb hb=>?_) (g1.ae.nil abO));rcases P' b hb with h|h
  .have:=P6 b h;omega
  .have:=JM.size;omega
 cases hb:(br x.key l).2 with
 |true=>
  obtain⟨ah,_⟩:=alq x.key l hb;exact Az<|aW [(9,.slice a6 (l.take (br x.key l).1++[x]).length c6),(0,.slice a l.length c),(7,.int .i64 ((br x.key l).1+1:Nat))] J3 (fin ((br x.key l).1+1) ah (by unfold iX;rw[ak4 hb]))
 |false=>
  exact Ef<|aW [(9,.slice a6 (l.take (br x.key l).1++[x]).length c6),(0,.slice a l.length c),(7,.int .i64 (br x.key l).1)] J3 (fin (br x.key l).1 hi (by unfold iX;rw[akZ (by rw[hb];simp)]))
def iT(t:aB)(now:Int):Bool:=t.cP&&decide (t.bQ<=now)
def tN(l:List RX)(key:BA):Option aB:=if(br key l).2=true then(l[(br key l).1]?).map (·.thing)else none
def iR(l:List RX)(key:BA)(now:Int):Option aB:=match tN l key with
 |some t=>if iT t now=true then none else some t
 |none=>none
def Ws{h:af}{v:Value}{l:List RX}(key:BA)(now:Int)(hv:SL dv h v l)(g:GX h l)(hl:l.length<4611686018427387904)(hk:key.size<4611686018427387904)(hf:oB l):aj Tryz.prog 75 [v,.string key,.int .i64 now] h (ao λr h'=>(∃us,r=.tuple #[.agg ⟨us⟩,.bool (iR l key now).isSome]∧TH h' us ((iR l key now).getD aL))∧ag [] h h'):=by
 obtain⟨a,c,rfl,di⟩:=hv.form;refine f75.c ?_;intro b6 h1 g1;have B1:ai h1 b6 zeroV:=g1.blk;have bL:=hv.ext g1.ae;refine akV (vP key bL hl hk hf) ?_;rintro _ h9 ⟨rfl,e9⟩;have e9:=e9.symm;subst e9;have z1:=g1.size;have i1:=g1.id;cases hb:(br key l).2 with
 |false=>
  have hn:iR l key now=none:=by unfold iR tN;rw[akZ (by rw[hb];simp)]
  refine Ei _ (Ai B1 (Ai Dd (Ai Y (Ai (dB (t:=aL) (h:=h1) jA) ?_))));intro h2 p2;have B2:ai h2 b6 zeroV:=p2.blk;refine Ei zeroV (Ai Y (Ai (akW B2) ?_));rw[hn];exact Ai (Ei zeroV (Ai Y jA)) (g1.ae.fresh p2.ae Ys)
 |true=>
  obtain⟨ah,_⟩:=alq key l hb;have gM:tN l key=some l[(br key l).1].thing:=by unfold tN;rw[ak4 hb];simp[ah]
  obtain⟨b,o,rfl⟩:=bL.addr V;generalize (br key l).1=i at*;have aI:=bL.cells gT (i:=i) (x:=l[i]) (by simp[ah]);have hx:=(g.ext g1.ae) l[i] (ak9 ah);have yes:iT l[i].thing now=false->
    swp Tryz.prog f75.sc.r.r.r (cC [.cn 6 7,.t 7] (ao λr h'=>(∃us,r=.tuple #[.agg ⟨us⟩,.bool (iR l key now).isSome]∧TH h' us ((iR l key now).getD aL))∧ag [] h h')) (mk [(6,.pointer (some ⟨b6,0,none⟩)),(0,.slice (some ⟨b,o,none⟩) l.length c),(8,.int .i64 i)]) [] h1:=by
   intro hg;have hn:iR l key now=some l[i].thing:=by unfold iR;rw[gM];simp[hg]
   refine Ai V (Ai V (Ei l[i].vs (Ai l[i].len (Ai (pG aI)<|Ei _ (Ai B1 (Ai Dd (Ai l[i].len (Ai l[i].one ?_))))))));intro h2 p2;have B2:ai h2 b6 l[i].vs:=by
    have h8:ai h2 b6 (splice zeroV 0 l[i].vs):=p2.blk;rw[seven Y l[i].len]at h8;exact h8
   refine Ei l[i].vs (Ai l[i].len (Ai (akW B2) ?_));rw[hn];exact Ai (Ei l[i].vs (Ai Y (((g l[i] (ak9 ah)).ext (g1.ae.fresh p2.ae Ys))))) (g1.ae.fresh p2.ae Ys)
  refine Ai V (Ai V (Ei _ (Ai (pG aI 5 _ hx.cP) ?_)));cases hU:l[i].thing.cP with
  |false=>
   exact aW [(6,.pointer (some ⟨b6,0,none⟩)),(0,.slice (some ⟨b,o,none⟩) l.length c),(8,.int .i64 i)] J3 (yes (by unfold iT;rw[hU];rfl))
  |true=>
   refine Ai V (Ai V (Ei _ (Ai (pG aI 6 _ hx.bQ)<|Bi (λhle=>?_) λhle=>?_)))
   .have hn:iR l key now=none:=by unfold iR;rw[gM];simp[iT,hU,hle]
    refine Ei _ (Ai B1 (Ai Dd (Ai Y (Ai (dB (t:=aL) (h:=h1) jA) ?_))));intro h2 p2;have B2:ai h2 b6 zeroV:=p2.blk;refine Ei zeroV (Ai Y (Ai (akW B2) ?_));rw[hn];exact Ai (Ei zeroV (Ai Y jA)) (g1.ae.fresh p2.ae Ys)
   .exact aW [(6,.pointer (some ⟨b6,0,none⟩)),(0,.slice (some ⟨b,o,none⟩) l.length c),(8,.int .i64 i)] J3 (yes (by unfold iT;rw[hU];simpa using hle))
structure KI where
 key:BA
 tb:Nat
 vs:List Value
 thing:aB
 born:Nat
def KI.ent(i:KI):MapEntry:={key:=.string i.key,val:=ptr i.tb,born:=i.born}
def KI.pr(i:KI):BA×aB:=(i.key,i.thing)
def RX.pr(i:RX):BA×aB:=(i.key,i.thing)
structure KR (h:af) (kb sb mb c:Nat) (m:List KI):Prop where
 ks:KS h kb sb mb
 map:cN h mb (m.map KI.ent) c
 here:∀i∈m,ai h i.tb i.vs∧TH h i.vs i.thing∧j' i.thing
 nodup:(m.map KI.key).Nodup
 born:∀i∈m,i.born<c
 nR:(m.map KI.born).Nodup
 keys:∀i∈m,i.key.size<=1048576
 len:m.length<=65536
def KR.ext{h h':af}{kb sb mb c:Nat}{m:List KI}(x:KR h kb sb mb c m)(hc:ag [] h h'):KR h' kb sb mb c m:=
 ⟨x.ks.ae hc Yy Yy,x.map.ae hc Yy,λi hi=>⟨(x.here i hi).1.ae hc Yy,(x.here i hi).2.1.ext hc,(x.here i hi).2.2⟩,x.nodup,x.born,x.nR,x.keys,x.len⟩
def sK(m:List KI):∀e∈m.map KI.ent,fits .str e.key=true:=by
 intro e he;obtain⟨i,_,rfl⟩:=alF.1 he;rfl
def ahp(a b:BA):Instr.sameBits 10000 (.string a) (.string b)=decide (a=b):=by
 cases hd:decide (a=b)with
 |true=>
  have:=amy hd;subst this;exact xS (k:=.str) Y
 |false=>
  cases h:Instr.sameBits 10000 (.string a) (.string b)with
  |false=>rfl
  |true=>
   have:=xR (k:=.str) Y Y h;simp at this;exact absurd this (an9 hd)
def xB(key:BA):∀(m:List KI)(n:Nat),(bH (.string key) (m.map KI.ent) n=none∧∀i∈m,i.key≠key)∨
  ∃(j:Nat)(i:KI),bH (.string key) (m.map KI.ent) n=some (n+j,ptr i.tb)∧m[j]? =some i∧i.key=key
 |[],n=>.inl ⟨Y,Yy⟩
 |x::m,n=>by
  simp only[alR,bH];rw[show(KI.ent x).key=.string x.key from Y,ahp];by_cases hk:key=x.key
  .exact .inr ⟨0,x,by simp[hk,KI.ent],Y,hk.symm⟩
  .rw[akZ (by simpa using hk)];rcases xB key m (n+1)with⟨h1,h2⟩|⟨j,i,h1,h2,h3⟩
   .exact .inl ⟨h1,λi hi=>by
     rcases ak3.1 hi with rfl|hi
     .exactλe=>hk e.symm
     .exact h2 i hi⟩
   .exact .inr ⟨j+1,i,by rw[h1,show n+1+j=n+(j+1)by omega],by simpa using h2,h3⟩
def gE:List RX->List RX->Option (List RX)
 |acc,[]=>some acc
 |acc,x::r=>if(br x.key acc).2=true∨fR x.thing=false then none else gE (iX acc x) r
structure rE (l:List RX):Prop where
 len:l.length<=20
 keys:∀x∈l,x.key.size<=300
 small:∀x∈l,Small x.thing
def rE.fit{l:List RX}(n:rE l):oB l:=λx hx=>by have:=n.keys x hx;omega
def Ao:∀{r acc k:List RX},gR acc->gE acc r=some k->gR k∧(∀y,y∈k↔y∈acc∨y∈r)∧k.length=acc.length+r.length
 |[],acc,k,hu,h=>by
  simp only[gE,anO]at h;subst h;exact⟨hu,Yy,Yy⟩
 |x::r,acc,k,hu,h=>by
  simp only[gE]at h;split at h
  .cases h
  .rename_i hn;have hf:(br x.key acc).2=false:=by
    cases hb:(br x.key acc).2 with
    |false=>rfl
    |true=>exact absurd (.inl hb) hn
   obtain⟨h1,h2,h3⟩:=Ao (uo hu) h;refine⟨h1,λy=>?_,by rw[h3,Tm hf];simp;omega⟩;rw[h2,oh hu,ak3];constructor
   .rintro((rfl|⟨h,_⟩)|h)
    .exact .inr (.inl Y)
    .exact .inl h
    .exact .inr (.inr h)
   .rintro(h|rfl|h)
    .refine .inl (.inr ⟨h,λe=>?_⟩);have:=yR hu ⟨y,h,e⟩;rw[hf]at this;cases this
    .exact .inl (.inl Y)
    .exact .inr h
def LU:∀{r acc k:List RX},gR acc->gE acc r=some k->(r.map (·.key)).Nodup∧∀x∈r,fR x.thing=true
 |[],acc,k,hu,h=>Yy
 |x::r,acc,k,hu,h=>by
  have h0:=h;simp only[gE]at h;split at h
  .cases h
  .rename_i hn;obtain⟨h1,h2⟩:=LU (uo hu) h;refine⟨?_,?_⟩
   .rw[alR,amc];refine⟨λhm=>?_,h1⟩;obtain⟨y,hy,hk⟩:=alF.1 hm
    -- y akT have been refused
    have:∀{r acc k:List RX},gR acc->gE acc r=some k->∀y∈r,∀z∈acc,z.key≠y.key:=by
     intro r;induction r with
     |nil=>intro acc k _ _ y hy;simp at hy
     |cons w r ih=>
      intro acc k hu h y hy z hz e;simp only[gE]at h;split at h
      .cases h
      .rename_i hn;rcases ak3.1 hy with rfl|hy
       .exact hn (.inl (yR hu ⟨z,hz,e⟩))
       .by_cases pW:z.key=w.key
        .exact ih (uo hu) h y hy w ((oh hu).2 (.inl Y)) (pW.symm.trans e)
        .exact ih (uo hu) h y hy z ((oh hu).2 (.inr ⟨hz,pW⟩)) e
    exact this (uo hu) h y hy x ((oh hu).2 (.inl Y)) hk.symm
   .intro y hy;rcases ak3.1 hy with rfl|hy
    .cases hk:fR y.thing with
     |true=>rfl
     |false=>exact absurd (.inr hk) hn
    .exact h2 y hy
variable{es:List MapEntry}{h h':af}{kb mb sb:Nat}
structure CH (h h':af):Prop where
 blk:∀b l,ai h b l->ai h' b l
 cell:∀b o v,cell h b o=some v->cell h' b o=some v
def adX{b c:Nat}{l:List Value}(hb:ai h b l)(hm:cN h mb es c):b≠mb:=by
 rintro rfl;obtain⟨e,he⟩:=hb;have hm:h[b]? =_:=hm;rw[he]at hm;cases hm
def BG{c:Nat}{o:Obj}(hm:cN h mb es c)(p:kG h h' mb o):CH h h':=by
 refine⟨λb l hb=>?_,λb o v hc=>?_⟩
 .have:=adX hb hm;obtain⟨e,he⟩:=hb;exact⟨e,by rw[p.old b this];exact he⟩
 .have ax:b≠mb:=by
   rintro rfl;have hm:h[b]? =_:=hm;unfold Sx.cell at hc;rw[hm]at hc;cases hc
  unfold Sx.cell at hc⊢;rw[p.old b ax];exact hc
def SL.ch{α:Type}{enc:α->List Value}{v:Value}{l:List α}(hs:SL enc h v l)(x:CH h h'):SL enc h' v l:=by
 obtain⟨a,c,rfl,h1,h2⟩:=hs;refine⟨a,c,Y,h1,?_⟩;cases a with
 |none=>exact h2
 |some a=>
  obtain⟨b,o,sp⟩:=a;cases sp with
  |some q=>exact h2
  |none=>exactλi v hv=>x.cell _ _ _ (h2 i v hv)
def TH.ch{h h':af}{vs:List Value}{t:aB}(x:TH h vs t)(hc:CH h h'):TH h' vs t:=by
 obtain⟨pv,lv,rv,rfl,h2,h3,h4⟩:=x;exact⟨pv,lv,rv,Y,SL.ch h2 hc,SL.ch h3 hc,SL.ch h4 hc⟩
def KS.ch(x:KS h kb sb mb)(hc:CH h h'):KS h' kb sb mb:=⟨hc.blk _ _ x.k,hc.blk _ _ x.s⟩
def KR.put{c tb:Nat}{m:List KI}{key:BA}{us:List Value}{t:aB}(x:KR h kb sb mb c m)(p:kG h h' mb (.map ⟨m.map KI.ent++[{key:=.string key,val:=ptr tb,born:=c}]⟩ (c+1)))(hn:∀i∈m,i.key≠key)(hk:key.size<=1048576)(B:ai h tb us)(tx:TH h us t)(n:j' t)(hl:m.length<65536):KR h' kb sb mb (c+1) (m++[⟨key,tb,us,t,c⟩]):=by
 have ch:=BG x.map p;refine⟨x.ks.ch ch,?_,λi hi=>?_,?_,λi hi=>?_,?_,λi hi=>?_,by simp;omega⟩
 .show h'[mb]? =_;rw[p.blk];simp[KI.ent]
 .rcases alf.1 hi with hi|hi
  .obtain⟨h1,h2,h3⟩:=x.here i hi;exact⟨ch.blk _ _ h1,h2.ch ch,h3⟩
  .simp at hi;subst hi;exact⟨ch.blk _ _ B,tx.ch ch,n⟩
 .rw[alD,amN];refine⟨x.nodup,Yy,?_⟩;intro a ha b hb;obtain⟨i,hi,rfl⟩:=alF.1 ha;simp at hb;subst hb;exact hn i hi
 .rcases alf.1 hi with hi|hi
  .have:=x.born i hi;omega
  .simp at hi;subst hi;exact aoK _
 .rw[alD,amN];refine⟨x.nR,Yy,?_⟩;intro a ha b hb;obtain⟨i,hi,rfl⟩:=alF.1 ha;simp at hb;subst hb;have:=x.born i hi;exactλe=>V
 .rcases alf.1 hi with hi|hi
  .exact x.keys i hi
  .simp at hi;subst hi;exact hk
def eight{ws vs:List Value}(hw:ws.length=8)(hv:vs.length=8):splice ws 0 vs=vs:=by
 match ws,hw,vs,hv with
 |[_,_,_,_,_,_,_,_],_,[_,_,_,_,_,_,_,_],_=>rfl
def ajd:List Value:=[.string ⟨#[]⟩,.int .i64 0,.string ⟨#[]⟩,.slice none 0 0,.slice none 0 0,.slice none 0 0,.bool false,.int .i64 0]
def OM{b:Nat}{x:RX}(B:ai h b (dv x)):fF h b 1 x.vs:=BF B λi v hv=>by
 rw[aoH];exact hv
def NP(h:af)(l:List RX)(r:Value)(h':af):Prop:=ag [] h h'∧match gE [] l with
 |none=>r=.tuple #[.pointer none,.int .i64 2]
 |some _=>∃kb sb mb c m,r=.tuple #[ptr kb,.int .i64 0]∧KR h' kb sb mb c m∧m.map KI.pr=l.map RX.pr∧h.size<=mb
def SC{l:List RX}(hc:ag [] h h')(hn:gE [] l=none):NP h l (.tuple #[.pointer none,.int .i64 2]) h':=by
 refine⟨hc,?_⟩;rw[hn]
def We{v:Value}{l:List RX}(hv:SL dv h v l)(g:GX h l)(nv:rE l):aj Tryz.prog 6 [v] h (ao (NP h l)):=by
 have hl:=nv.len;obtain⟨a,c,rfl,di⟩:=hv.form;refine f6.c<|akV Ic ?_;rintro _ h1 ⟨kb,sb,mb,rfl,Du,hm1,YJ,_,_,bd⟩;have tM:KR h1 kb sb mb 0 []:=⟨Du,hm1,Yy,Yy,Yy,Yy,Yy,Yy⟩
 refine bA (λk:Nat=>[(0,.slice a l.length c),(4,ptr kb),(11,.slice a l.length c),(12,.int .i64 l.length),(13,.int .i64 k)])
  (λk h'=>k<=l.length∧ag [] h h'∧∃m acc,KR h' kb sb mb k m∧m.map KI.pr=(l.take k).map RX.pr∧gR acc∧gE [] l=gE acc (l.drop k)∧∀y,y∈acc↔y∈l.take k) (λk=>l.length-k) 0
  J5 ⟨ak8 _,bd,[],[],tM,Y,List.Pairwise.nil,Y,Yy⟩ ?_
 rintro k h2 ⟨hk,aO,m,acc,vi,eF,gg,kq,pK⟩;refine Bi (λht=>?_) λht=>?_
 .have ah:k<l.length:=V
  obtain⟨b,o,rfl⟩:=hv.addr V;have aI:=(hv.ext aO).cells gT (i:=k) (x:=l[k]) (by simp[ah]);have fX:l.drop k=l[k]::l.drop (k+1):=alx ah;have tk:l.take (k+1)=l.take k++[l[k]]:=iL l k ah;have dF:l[k]∈l:=ak9 ah;have hx:=g _ dF;have dU:=nv.small _ dF;have Qs:=nv.keys _ dF;generalize Dj:l[k]=x at*;have ko:m.length=k:=by
   have:=alC List.length eF;simp at this;omega
  refine Ai V (Ai ht (Ei (dv x) (Ai (gT x) (Ai aI ?_))));intro b6 h3 g3;refine Ei _ (Ai g3.blk (Ai Dd (Ai (gT x) (Ai (yP x) ?_))));intro h4 p4;have g4:=g3.put p4;have B4:ai h4 b6 (dv x):=by
   have h8:ai h4 b6 (splice ajd 0 (dv x)):=p4.blk;rw[eight Y (gT x)]at h8;exact h8
  have c24:=g4.ae;have mw:=vi.ext c24;have dw:=aO.nil c24;refine Ei _ (Ai (an mw.ks.k Y) (Ei _ (Ai (an mw.ks.s Y) (Ei _ (Ai (an B4 Y)<|Ai Y (Ei (m.map KI.ent) (Ei k (Ai mw.map (Ai (sK m) ?_)))))))));rw[fX]at kq;rcases xB x.key m 0 with⟨eS,bw⟩|⟨j,i,eS,hj,iV⟩
  rotate_left
  .rw[eS];refine SC dw ?_;have sW:i∈m:=al9 hj;have:i.pr∈(l.take k).map RX.pr:=by rw[<-eF];exact als sW
   obtain⟨y,hy,hyp⟩:=alF.1 this;have KV:y.key=x.key:=by
    have:=alC Prod.fst hyp;exact this.trans iV
   rw[kq,gE,ak4 (.inl (yR gg ⟨y,(pK y).2 hy,KV⟩))]
  .rw[eS];refine Ei _ (Ai (an B4 Y)<|Ai Y (Ai (λbig=>absurd big V) (λ_=>Ei x.vs (Ai x.len (Ai (OM B4)<|akV (Wd (hx.ext dw) dU) ?_)))));rintro r h5 ⟨hr,c45⟩;have dY:=dw.nil c45;have fz:(br x.key acc).2=false:=by
    cases hb:(br x.key acc).2 with
    |false=>rfl
    |true=>
     obtain⟨y,hy,KV⟩:=aao hb;have:y.pr∈m.map KI.pr:=by rw[eF];exact als ((pK y).1 hy)
     obtain⟨i,hi,sX⟩:=alF.1 this;have:i.key=y.key:=alC Prod.fst sX;exact absurd (this.trans KV) (bw i hi)
   cases td:fR x.thing with
   |false=>
    rw[td]at hr;subst hr;refine SC dY ?_;rw[kq,gE,ak4 (.inr td)]
   |true=>
    rw[td]at hr;subst hr;have B5:=B4.ae c45 Yy;refine Ei x.vs (Ai x.len (Ai (OM B5)<|akV (OV (hx.ext dY) dU.lens) ?_));rintro _ h6 ⟨⟨us,rfl,tu,hub⟩,Xz⟩;intro b9 h7 g7;refine Ei _ (Ai g7.blk (Ai Dd (Ai tu.len (Ai (dB tu) ?_))));intro h8 p8;have g8:=g7.put p8;have B8:ai h8 b9 us:=by
     have h9:ai h8 b9 (splice zeroV 0 us):=p8.blk;rw[seven Y tu.len]at h9;exact h9
    have we:=Xz.nil g8.ae;have kr8:=(mw.ext c45).ext we;have VZ:=B5.ae we Yy;refine Ei _ (Ai (an kr8.ks.k Y) (Ei _ (Ai (an kr8.ks.s Y) (Ei _ (Ai (an VZ Y)<|Ai Y (Ei (m.map KI.ent) (Ei k (Ai kr8.map (Ai (sK m) ?_)))))))));rw[eS];intro h9 p9;have qX:=kr8.put p9 bw V B8 (tu.ext g8.ae) dU.lens V;have JQ:=dY.nil we;refine Az<|Ai Y (Ei (k+1) (Ai ?_ (Ai ?_ ?_)))
    .exact J5
    .refine⟨V,JQ.fresh p9.ae Ys,_,iX acc x,qX,?_,uo gg,?_,λy=>?_⟩
     .rw[tk,alD,alD,eF];rfl
     .rw[kq,gE,akZ];rintro(h|h)
      .rw[fz]at h;cases h
      .rw[td]at h;cases h
     .rw[oh gg,tk,alf,alE,pK];constructor
      .rintro(h|⟨h,_⟩)
       .exact .inr h
       .exact .inl h
      .rintro(h|h)
       .refine .inr ⟨h,λe=>?_⟩;have:=yR gg ⟨y,(pK y).2 h,e⟩;rw[fz]at this;cases this
       .exact .inl h
    .omega
 .have ah:k=l.length:=V
  subst ah;refine Ai Y (Ai (λbig=>absurd big V) (λ_=>?_));refine⟨aO,?_⟩;rw[kq,amE,gE];rw[alm]at eF;exact⟨kb,sb,mb,_,m,Y,vi,eF,V⟩
end Go.Proofs.YtocgmipngoiieaaGreatDoor
namespace Go.Proofs
open Go.RowKit Go.Maps Go.Sort Go.Shelf
/- numbers:mapT=62 keyT=9 -/
def Tryz.keys62_ren:Go.Shelf.Ren:=⟨fun|7=>62|10=>106|n=>n,fun|23=>62|26=>9|3=>57|28=>122|0=>0|27=>121|33=>132|4=>4|n=>n,fun|n=>n⟩
def Tryz.keys62:Go.Proofs.SlLaysZ.n7 Tryz.prog Tryz.keys62_ren:={
 mixed:=Kr
 f7:=⟨Tryz.f62.name,Dd,Tryz.func62.trans (alC some Kr)⟩
 f10:=⟨Tryz.f106.name,Dd,Tryz.func106.trans (alC some Kr)⟩
 t0:=Tryz.underlying0
 a0:=Tryz.isAgg0
 z0:=Tryz.sizeOf0
 v0:=Tryz.zeroValue0
 t4:=Tryz.underlying4
 a4:=Tryz.isAgg4
 z4:=Tryz.sizeOf4
 v4:=Tryz.zeroValue4
 t23:=Tryz.underlying62
 a23:=Tryz.isAgg62
 z23:=Tryz.sizeOf62
 v23:=Tryz.zeroValue62
 t26:=Tryz.underlying9
 a26:=Tryz.isAgg9
 z26:=Tryz.sizeOf9
 v26:=Tryz.zeroValue9
 t27:=Tryz.underlying121
 a27:=Tryz.isAgg121
 z27:=Tryz.sizeOf121
 v27:=Tryz.zeroValue121
 t28:=Tryz.underlying122
 a28:=Tryz.isAgg122
 z28:=Tryz.sizeOf122
 v28:=Tryz.zeroValue122
 t33:=Tryz.underlying132
 a33:=Tryz.isAgg132
 z33:=Tryz.sizeOf132
 v33:=Tryz.zeroValue132}
def Tryz.sorted61_ren:Go.Shelf.Ren:=⟨fun|6=>61|8=>104|9=>105|11=>124|13=>126|12=>125|23=>165|24=>166|14=>156|15=>157|16=>158|17=>159|18=>160|19=>161|20=>162|21=>163|22=>164|25=>233|26=>234|27=>235|28=>236|29=>237|30=>238|31=>300|n=>n,fun|26=>9|28=>122|24=>26|0=>0|3=>3|37=>187|48=>225|50=>212|4=>4|40=>219|39=>218|45=>66|5=>5|9=>9|51=>245|55=>249|57=>286|58=>153|33=>132|n=>n,fun|n=>n⟩
def Tryz.sorted61:Go.Proofs.SlLaysZ.n6 Tryz.prog Tryz.sorted61_ren:={
 mixed:=Kr
 f6:=⟨Tryz.f61.name,Dd,Tryz.func61.trans (alC some Kr)⟩
 f8:=⟨Tryz.f104.name,Dd,Tryz.func104.trans (alC some Kr)⟩
 f11:=⟨Tryz.f124.name,Dd,Tryz.func124.trans (alC some Kr)⟩
 t0:=Tryz.underlying0
 a0:=Tryz.isAgg0
 z0:=Tryz.sizeOf0
 v0:=Tryz.zeroValue0
 t24:=Tryz.underlying26
 a24:=Tryz.isAgg26
 z24:=Tryz.sizeOf26
 v24:=Tryz.zeroValue26
 t26:=Tryz.underlying9
 a26:=Tryz.isAgg9
 z26:=Tryz.sizeOf9
 v26:=Tryz.zeroValue9
 t28:=Tryz.underlying122
 a28:=Tryz.isAgg122
 z28:=Tryz.sizeOf122
 v28:=Tryz.zeroValue122
 i26:=by kernel_rfl}
def Tryz.sort105_ren:Go.Shelf.Ren:=⟨fun|6=>105|8=>126|9=>125|19=>165|20=>166|21=>156|22=>157|23=>158|24=>159|25=>160|26=>161|27=>162|28=>163|29=>164|36=>233|31=>234|32=>235|37=>236|38=>237|39=>238|41=>300|n=>n,fun|27=>26|29=>9|3=>3|32=>187|26=>26|0=>0|44=>225|46=>212|4=>4|36=>219|35=>218|41=>66|5=>5|9=>9|53=>245|57=>249|63=>286|64=>153|n=>n,fun|n=>n⟩
def Tryz.sort105:Go.Proofs.SlLaysM.n6 Tryz.prog Tryz.sort105_ren:={
 mixed:=Kr
 f6:=⟨Tryz.f105.name,Dd,Tryz.func105.trans (alC some Kr)⟩
 f8:=Tryz.func126.trans (alC some Kr)
 f9:=⟨Tryz.f125.name,Dd,Tryz.func125.trans (alC some Kr)⟩
 f19:=Tryz.func165.trans (alC some Kr)
 f20:=Tryz.func166.trans (alC some Kr)
 f21:=⟨Tryz.f156.name,Dd,Tryz.func156.trans (alC some Kr)⟩
 f22:=⟨Tryz.f157.name,Dd,Tryz.func157.trans (alC some Kr)⟩
 f23:=⟨Tryz.f158.name,Dd,Tryz.func158.trans (alC some Kr)⟩
 f24:=⟨Tryz.f159.name,Dd,Tryz.func159.trans (alC some Kr)⟩
 f25:=⟨Tryz.f160.name,Dd,Tryz.func160.trans (alC some Kr)⟩
 f26:=⟨Tryz.f161.name,Dd,Tryz.func161.trans (alC some Kr)⟩
 f27:=⟨Tryz.f162.name,Dd,Tryz.func162.trans (alC some Kr)⟩
 f28:=⟨Tryz.f163.name,Dd,Tryz.func163.trans (alC some Kr)⟩
 f29:=⟨Tryz.f164.name,Dd,Tryz.func164.trans (alC some Kr)⟩
 f31:=Tryz.func234.trans (alC some Kr)
 f32:=Tryz.func235.trans (alC some Kr)
 f36:=⟨Tryz.f233.name,Dd,Tryz.func233.trans (alC some Kr)⟩
 f37:=⟨Tryz.f236.name,Dd,Tryz.func236.trans (alC some Kr)⟩
 f38:=⟨Tryz.f237.name,Dd,Tryz.func237.trans (alC some Kr)⟩
 f39:=⟨Tryz.f238.name,Dd,Tryz.func238.trans (alC some Kr)⟩
 f41:=⟨Tryz.f300.name,Dd,Tryz.func300.trans (alC some Kr)⟩
 t0:=Tryz.underlying0
 a0:=Tryz.isAgg0
 z0:=Tryz.sizeOf0
 v0:=Tryz.zeroValue0
 t3:=Tryz.underlying3
 a3:=Tryz.isAgg3
 z3:=Tryz.sizeOf3
 v3:=Tryz.zeroValue3
 t4:=Tryz.underlying4
 a4:=Tryz.isAgg4
 z4:=Tryz.sizeOf4
 v4:=Tryz.zeroValue4
 t5:=Tryz.underlying5
 a5:=Tryz.isAgg5
 z5:=Tryz.sizeOf5
 v5:=Tryz.zeroValue5
 t9:=Tryz.underlying9
 a9:=Tryz.isAgg9
 z9:=Tryz.sizeOf9
 v9:=Tryz.zeroValue9
 t26:=Tryz.underlying26
 a26:=Tryz.isAgg26
 z26:=Tryz.sizeOf26
 v26:=Tryz.zeroValue26
 t27:=Tryz.underlying26
 a27:=Tryz.isAgg26
 z27:=Tryz.sizeOf26
 v27:=Tryz.zeroValue26
 t29:=Tryz.underlying9
 a29:=Tryz.isAgg9
 z29:=Tryz.sizeOf9
 v29:=Tryz.zeroValue9
 t32:=Tryz.underlying187
 a32:=Tryz.isAgg187
 z32:=Tryz.sizeOf187
 v32:=Tryz.zeroValue187
 t35:=Tryz.underlying218
 a35:=Tryz.isAgg218
 z35:=Tryz.sizeOf218
 v35:=Tryz.zeroValue218
 t36:=Tryz.underlying219
 a36:=Tryz.isAgg219
 z36:=Tryz.sizeOf219
 v36:=Tryz.zeroValue219
 t41:=Tryz.underlying66
 a41:=Tryz.isAgg66
 z41:=Tryz.sizeOf66
 v41:=Tryz.zeroValue66
 t44:=Tryz.underlying225
 a44:=Tryz.isAgg225
 z44:=Tryz.sizeOf225
 v44:=Tryz.zeroValue225
 t46:=Tryz.underlying212
 a46:=Tryz.isAgg212
 z46:=Tryz.sizeOf212
 v46:=Tryz.zeroValue212
 t53:=Tryz.underlying245
 a53:=Tryz.isAgg245
 z53:=Tryz.sizeOf245
 v53:=Tryz.zeroValue245
 t57:=Tryz.underlying249
 a57:=Tryz.isAgg249
 z57:=Tryz.sizeOf249
 v57:=Tryz.zeroValue249
 t63:=Tryz.underlying286
 a63:=Tryz.isAgg286
 z63:=Tryz.sizeOf286
 v63:=Tryz.zeroValue286
 t64:=Tryz.underlying153
 a64:=Tryz.isAgg153
 z64:=Tryz.sizeOf153
 v64:=Tryz.zeroValue153}
def Tryz.sorts61(m:Nat):AnyZ.SortsIn Tryz.prog Tryz.sorted61_ren Fence.wide m:=
 ⟨λblk off cap ss W hH abJ aS=>callsIn_wide.2 (AnyM.slices_Sort_string Tryz.sort105 blk off cap ss W hH abJ aS),
  λp cap W=>callsIn_wide.2 (AnyM.slices_Sort_string_none Tryz.sort105 p cap W)⟩
def Tryz.maps_Keys_62(mb:Option Nat)(W:World):CallsIn Fence.wide 5 Tryz.prog 62 #[.map mb] W λe w'=>e=.returned (.func (.func 106) #[] #[.pointer (some ⟨W.heap.size,0,none⟩)])∧w'=W.alloc (.cells #[.map mb] 62):=
 AnyZ.keys_in Tryz.keys62 Fence.wide 5 trivial Y mb W
set_option maxHeartbeats 1000000 in
/-- **slices.Sorted[string] AT WHAT maps.Keys[map[string]*tabor/api.Thing,string,*tabor/api.Thing] HANDED BACK FOR A MAP THAT IS NOT nil**('w':the world AHEAD of maps.Keys' call):A NEW SLICE THAT HOLDS THE MAP's KEYS,SORTED;nil just where it has none;nothing that lay before has turned. -/
def Tryz.slices_Sorted_keys_61_62{H:Type}(b nn:Nat)(D0:DataW H)(R:Value->Option (DataW H×List MemPlace))(w:World)(oT:w.ownsMap Tryz.prog 9 R b nn D0)(CS:Maps.size D0<=maxLen)(JK:Maps.size D0*16<=140737488355328):CallsIn Fence.wide 5 Tryz.prog 61 #[.func (.func 106) #[] #[.pointer (some ⟨w.heap.size,0,none⟩)]] (w.alloc (.cells #[.map (some b)] 62)) λe w'=>∃(v:Value)(ss:List (List UInt8)),e=.returned v∧ss.Perm (strKeys D0)∧
   w'.ownsRow (w.alloc (.cells #[.map (some b)] 62)).heap.size 9 1 v ss.length ((ss.mergeSort (λx y=>decide (x<=y))).map encStr)∧(v=.slice none 0 0↔ss=[])∧Below (w.alloc (.cells #[.map (some b)] 62)).heap.size (w.alloc (.cells #[.map (some b)] 62)) w':=by
 have dD:=oT.lt;have KF:SeqGives Fence.wide 2 Tryz.prog 106 #[.pointer (some ⟨w.heap.size,0,none⟩)] encStr (λss=>ss.Perm (strKeys D0)) (Maps.size D0) (w.alloc (.cells #[.map (some b)] 62)):=
  AnyZ.keys_gives (ρ:=Tryz.keys62_ren) {Tryz.keys62 with} Fence.wide _ trivial Y V w.heap.size b nn D0 _ Yy Yy (by
   obtain⟨es,clock,hb,Ft,hs,hD⟩:=oT;exact⟨es,clock,(Below.heap_alloc _ _ b dD).trans hb,Ft,hs,hD⟩)
 exact AnyZ.sorted_in Tryz.sorted61 Fence.wide 5 trivial trivial trivial trivial Y V (Tryz.sorts61 _) (enters_of Tryz.func105 Kr Y) 106 #[.pointer (some ⟨w.heap.size,0,none⟩)] trivial (enters_of Tryz.func106 Kr Y) _ _ CS JK _ KF
def Tryz.keys278_ren:Go.Shelf.Ren:=⟨fun|7=>278|10=>308|n=>n,fun|23=>133|26=>9|3=>3|28=>122|0=>0|27=>121|33=>132|4=>4|n=>n,fun|n=>n⟩
def Tryz.keys278:Go.Proofs.SlLaysZ.n7 Tryz.prog Tryz.keys278_ren:={
 mixed:=Kr
 f7:=⟨Tryz.f278.name,Dd,Tryz.func278.trans (alC some Kr)⟩
 f10:=⟨Tryz.f308.name,Dd,Tryz.func308.trans (alC some Kr)⟩
 t0:=Tryz.underlying0
 a0:=Tryz.isAgg0
 z0:=Tryz.sizeOf0
 v0:=Tryz.zeroValue0
 t4:=Tryz.underlying4
 a4:=Tryz.isAgg4
 z4:=Tryz.sizeOf4
 v4:=Tryz.zeroValue4
 t23:=Tryz.underlying133
 a23:=Tryz.isAgg133
 z23:=Tryz.sizeOf133
 v23:=Tryz.zeroValue133
 t26:=Tryz.underlying9
 a26:=Tryz.isAgg9
 z26:=Tryz.sizeOf9
 v26:=Tryz.zeroValue9
 t27:=Tryz.underlying121
 a27:=Tryz.isAgg121
 z27:=Tryz.sizeOf121
 v27:=Tryz.zeroValue121
 t28:=Tryz.underlying122
 a28:=Tryz.isAgg122
 z28:=Tryz.sizeOf122
 v28:=Tryz.zeroValue122
 t33:=Tryz.underlying132
 a33:=Tryz.isAgg132
 z33:=Tryz.sizeOf132
 v33:=Tryz.zeroValue132}
def Tryz.maps_Keys_278(mb:Option Nat)(W:World):CallsIn Fence.wide 5 Tryz.prog 278 #[.map mb] W λe w'=>e=.returned (.func (.func 308) #[] #[.pointer (some ⟨W.heap.size,0,none⟩)])∧w'=W.alloc (.cells #[.map mb] 133):=
 AnyZ.keys_in Tryz.keys278 Fence.wide 5 trivial Y mb W
set_option maxHeartbeats 1000000 in
/-- **slices.Sorted[string] AT WHAT maps.Keys[map[string]int,string,int] HANDED BACK FOR A MAP THAT IS NOT nil**('w':the world AHEAD of maps.Keys' call):A NEW SLICE THAT HOLDS THE MAP's KEYS,SORTED;nil just where it has none;nothing that lay before has turned. -/
def Tryz.slices_Sorted_keys_61_278{H:Type}(b nn:Nat)(D0:DataW H)(R:Value->Option (DataW H×List MemPlace))(w:World)(oT:w.ownsMap Tryz.prog 9 R b nn D0)(CS:Maps.size D0<=maxLen)(JK:Maps.size D0*16<=140737488355328):CallsIn Fence.wide 5 Tryz.prog 61 #[.func (.func 308) #[] #[.pointer (some ⟨w.heap.size,0,none⟩)]] (w.alloc (.cells #[.map (some b)] 133)) λe w'=>∃(v:Value)(ss:List (List UInt8)),e=.returned v∧ss.Perm (strKeys D0)∧
   w'.ownsRow (w.alloc (.cells #[.map (some b)] 133)).heap.size 9 1 v ss.length ((ss.mergeSort (λx y=>decide (x<=y))).map encStr)∧(v=.slice none 0 0↔ss=[])∧Below (w.alloc (.cells #[.map (some b)] 133)).heap.size (w.alloc (.cells #[.map (some b)] 133)) w':=by
 have dD:=oT.lt;have KF:SeqGives Fence.wide 2 Tryz.prog 308 #[.pointer (some ⟨w.heap.size,0,none⟩)] encStr (λss=>ss.Perm (strKeys D0)) (Maps.size D0) (w.alloc (.cells #[.map (some b)] 133)):=
  AnyZ.keys_gives (ρ:=Tryz.keys278_ren) {Tryz.keys278 with} Fence.wide _ trivial Y V w.heap.size b nn D0 _ Yy Yy (by
   obtain⟨es,clock,hb,Ft,hs,hD⟩:=oT;exact⟨es,clock,(Below.heap_alloc _ _ b dD).trans hb,Ft,hs,hD⟩)
 exact AnyZ.sorted_in Tryz.sorted61 Fence.wide 5 trivial trivial trivial trivial Y V (Tryz.sorts61 _) (enters_of Tryz.func105 Kr Y) 308 #[.pointer (some ⟨w.heap.size,0,none⟩)] trivial (enters_of Tryz.func308 Kr Y) _ _ CS JK _ KF
end Go.Proofs
namespace Go.Proofs.YtocgmipngoiieaaGreatDoor
open Go Go.Sx C
def vW:∀a b:List UInt8,Op.bytesLess a b=true↔a<b
 |[],[]=>by simp[Op.bytesLess]
 |a::x,[]=>by simp[Op.bytesLess]
 |[],b::y=>by simp[Op.bytesLess]
 |a::x,b::y=>by
  rw[List.cons_lt_cons_iff,<-vW x y];simp only[Op.bytesLess,amZ,alO,amm,ao4]
abbrev ju(b:BA):List UInt8:=b.data.toList
abbrev sn(l:List UInt8):BA:=⟨l.toArray⟩
def kO(h:af)(mb:Nat):af:=h.push (.cells #[.map (some mb)] 62)
def Lf(h:af)(mb:Nat):ag [] h (kO h mb):=by
 refine⟨by simp[kO],λk hk _=>?_⟩;unfold kO;rw[am7,akZ V]
def Lp{h:af}{mb:Nat}:aj Tryz.prog 62 [.map (some mb)] h (ao λr h'=>r=.func (.func 106) #[] #[ptr h.size]∧h'=kO h mb):=by
 refine⟨Kr,λw hw=>?_⟩;refine((callsIn_wide (n:=5)).1 (Tryz.maps_Keys_62 (some mb) w)).mono ?_;rintro e w' ⟨rfl,rfl⟩;refine⟨?_,Yy,Y,Y,Y⟩;subst hw;exact⟨Y,Y⟩
def RN:Value->Option (DataW Unit×List MemPlace):=λ_=>some (.nil,[])
def GC(s:BA)(hs:s.size<=1048576):keyOf Tryz.prog 9 (.string s)=some (.string (ju s)):=by
 have hu:Tryz.prog.underlying 9=some .string:=Tryz.underlying9;unfold keyOf;rw[hu];simp only[mapKey,hu];rw[ak4];have:(1048576:Nat)<=maxLen:=Dd
 exact al6 hs this
def afi(i:KI)(hs:i.key.size<=1048576):Go.WideElems.rg Tryz.prog 9 RN i.ent=(.string (ju i.key),.nil):=by
 unfold Go.WideElems.rg Go.WideElems.rd;rw[show i.ent.key=.string i.key from Y,GC _ hs];rfl
def aho:∀{m:List KI},(m.map KI.key).Nodup->((m.map KI.ent).map (·.key)).Nodup:=by
 intro m h;rw[am'];have e:(MapEntry.key∘KI.ent)=Value.string∘KI.key:=rfl;rw[e,<-am'];exact(ang Value.string (λa b(cY:a≠b)=>λhe=>cY (by simpa using he)) h)
def L3{w:World}{kb sb mb c:Nat}{m:List KI}(x:KR w.heap kb sb mb c m):w.ownsMap Tryz.prog 9 RN mb m.length (.map ((((⟨m.map KI.ent⟩:Array MapEntry)).toList.map (Go.WideElems.rg Tryz.prog 9 RN)).foldr DataW.insert []):DataW Unit):=by
 have hl:=x.len;refine⟨⟨m.map KI.ent⟩,c,x.map,⟨?_,⟨?_,?_,?_⟩,?_⟩,Yy,Y⟩
 .have:(65536:Nat)<=maxLen:=Dd
  simp;omega
 .intro e he;obtain⟨i,hi,rfl⟩:=alF.1 he;exact x.born i hi
 ·have:((⟨m.map KI.ent⟩:Array MapEntry).toList.map (·.born))=m.map KI.born:=by simp[KI.ent,Function.comp_def]
  rw[this];exact x.nR
 .exact aho x.nodup
 .intro e he;obtain⟨i,hi,rfl⟩:=alF.1 he;refine⟨(.string (ju i.key),.nil),?_⟩;unfold Go.WideElems.rd;rw[show i.ent.key=.string i.key from Y,GC _ (x.keys i hi)];rfl
def strKeys_perm{m:List KI}(hk:∀i∈m,i.key.size<=1048576):(strKeys (.map ((((⟨m.map KI.ent⟩:Array MapEntry)).toList.map (Go.WideElems.rg Tryz.prog 9 RN)).foldr DataW.insert []):DataW Unit)).Perm (m.map λi=>ju i.key):=by
 unfold strKeys;have h1:=Go.WideShapes.sorted_perm (((⟨m.map KI.ent⟩:Array MapEntry)).toList.map (Go.WideElems.rg Tryz.prog 9 RN));refine(h1.map _).trans ?_;rw[am',am'];refine List.Perm.of_eq (aoq λi hi=>?_);simp only[Function.comp];rw[afi i (hk i hi)];rfl
def L1{w:World}{kb sb mb c:Nat}{m:List KI}(x:KR w.heap kb sb mb c m):∃D:DataW Unit,w.ownsMap Tryz.prog 9 RN mb m.length D∧(strKeys D).Perm (m.map λi=>ju i.key)∧Go.Maps.size D=m.length:=
 ⟨_,L3 x,strKeys_perm x.keys,by rw[Go.Maps.size_eq,Go.length_sorted];simp⟩
def Mv{h:af}{kb sb mb c:Nat}{m:List KI}(x:KR h kb sb mb c m):aj Tryz.prog 61 [.func (.func 106) #[] #[ptr h.size]] (kO h mb) (ao λr h'=>∃L:List BA,SL encS h' r L∧L.Perm (m.map KI.key)∧L.Pairwise (λa b=>aP a b=true)∧(∀b∈aq r,h.size<b)∧ag [] (kO h mb) h'):=by
 refine⟨Kr,λw hw=>?_⟩;let w0:World:={w with heap:=h}
 have ew:w0.alloc (.cells #[.map (some mb)] 62)=w:=by
  show({w with heap:=h.push _}:World)=w;rw[show h.push (.cells #[.map (some mb)] 62)=w.heap from hw.symm]
 have x0:KR w0.heap kb sb mb c m:=x;have hl:=x.len;obtain⟨D,oT,KG,aS⟩:=L1 x0;have h65:(65536:Nat)<=maxLen:=Dd
 have key:=Tryz.slices_Sorted_keys_61_62 (H:=Unit) mb m.length D RN w0 oT V V;rw[ew]at key;refine((callsIn_wide (n:=5)).1 key).mono ?_;rintro e w' ⟨v,ss,rfl,hp,De,pQ,hb⟩;refine⟨?_,Yy,hb.os,hb.output,hb.tape⟩;have oU:ss.Perm (m.map λi=>ju i.key):=hp.trans KG;have wV:(ss.mergeSort leB).Perm (m.map λi=>ju i.key):=(anY ss leB).trans oU;have tr:∀a b c:List UInt8,leB a b=true->leB b c=true->leB a c=true:=λa b c h1 h2=>by simp only[leB,amm]at*;exact List.le_trans h1 h2
 have to:∀a b:List UInt8,(leB a b||leB b a)=true:=λa b=>by simp only[leB,amZ,amm];exact List.le_total a b
 have nZ:(ss.mergeSort leB).Pairwise (λa b=>leB a b=true):=aoS tr to ss;have dt:(ss.mergeSort leB).Nodup:=by
  refine wV.symm.nodup ?_;have:(m.map λi=>ju i.key)=(m.map KI.key).map ju:=by rw[am'];rfl
  rw[this];exact ang ju (λa b(cY:a≠b)=>λhe=>cY (by cases a;cases b;simp_all [ju])) x.nodup
 have Df:w.heap.size=h.size+1:=by rw[hw];simp[kO]
 refine⟨(ss.mergeSort leB).map sn,?_,?_,?_,?_,?_⟩
 ·-- the slice
  obtain⟨hlen,hr⟩:=De;have aQ:(ss.mergeSort leB).length=ss.length:=(anY ss leB).length_eq;rcases hr with⟨rfl,hn⟩|⟨g,cap,cur,rfl,hg,JW,qG,CS,aI,ej⟩
  .have:(ss.mergeSort leB).map sn=[]:=by rw[List.map_eq_nil_iff];exact amz.1 (aQ.trans hn)
   rw[this];exact SL.nil
  .refine⟨some ⟨g,0,none⟩,cap,by rw[alL,aQ],by rw[alL,aQ];exact qG,?_⟩;intro i v hv;have hfm:∀l:List (List UInt8),(l.map sn).flatMap encS=l.map encStr:=by
    intro l;induction l with
    |nil=>rfl
    |cons a l ih=>rw[alR,am9,ih];rfl
   rw[hfm]at hv;have KJ:cur.toList.take (ss.length*1)=(ss.mergeSort leB).map encStr:=ej;rw[<-KJ]at hv;rw[amJ];unfold Sx.cell;rw[JW];simp only;rw[aox]at hv;split at hv
   .simpa using hv
   .cases hv
 .have:m.map KI.key=(m.map λi=>ju i.key).map sn:=by rw[am'];rfl
  rw[this];exact wV.map _
 .refine ang sn (λa b(cY:leB a b=true∧a≠b)=>?_) (nZ.and dt);rw[MI,vW];show a<b;obtain⟨h1,h2⟩:=cY;simp only[leB,amm]at h1;have hb:Op.bytesLess b a≠true:=λh=>h1 ((vW b a).1 h);rcases EX h2 with h|h
  .exact(vW a b).1 h
  .exact absurd h hb
 .intro b bh;obtain⟨_,hr⟩:=De;rcases hr with⟨rfl,_⟩|⟨g,cap,cur,rfl,hg,_⟩
  .simp[aq,bG]at bh
  .simp[aq,bG]at bh;subst bh;omega
 .refine⟨by rw[<-hw];exact hb.size,λk hk _=>?_⟩;rw[<-hw]at hk⊢;exact hb.block k hk
def ai9{P:Program}{l:Nat}{vs:List Value}{h:af}{Q K:Value->af->Prop}{Qp:List PanicEntry->af->Prop}(hc:sG P l vs h (ao Q))(hk:∀v h',Q v h'->K v h'):sG P l vs h (after K Qp):=
 hc.mono λe h' he=>by cases e<;>first|exact hk _ _ he|exact he.elim
structure bT (m:List KI) (W:List (BA×aB)):Prop where
 up:W.Pairwise λa b=>aP a.1 b.1=true
 mem:∀p,p∈W↔p∈m.map KI.pr
def Hy(a b:BA)(h:aP a b=true):¬aP b a=true:=λh2=>by
 have:=mF h h2;rw[qj]at this;cases this
def ahh{m:List KI}{W:List (BA×aB)}{L:List BA}(hW:bT m W)(hp:L.Perm (m.map KI.key))(hl:L.Pairwise λa b=>aP a b=true):L=W.map Prod.fst:=by
 refine HQ (lt:=λa b=>aP a b=true) Hy hl (ang Prod.fst (λ_ _ h=>h) hW.up) λx=>?_;rw[hp.mem_iff,alF,alF];constructor
 .rintro⟨i,hi,rfl⟩;exact⟨i.pr,(hW.mem _).2 (als hi),Y⟩
 .rintro⟨p,hp,rfl⟩;obtain⟨i,hi,rfl⟩:=alF.1 ((hW.mem _).1 hp);exact⟨i,hi,Y⟩
def SL.keep{α:Type}{enc:α->List Value}{h h':af}{v:Value}{l:List α}(hs:SL enc h v l)(hk:∀b∈aq v,h'[b]? =h[b]?):SL enc h' v l:=by
 obtain⟨a,c,rfl,h1,h2⟩:=hs;refine⟨a,c,Y,h1,?_⟩;cases a with
 |none=>exact h2
 |some a=>
  obtain⟨b,o,sp⟩:=a;cases sp with
  |some q=>exact h2
  |none=>
   intro i v hv;have:=h2 i v hv;unfold Sx.cell at this⊢;rw[hk b (by simp[aq,bG])];exact this
def Gz{h:af}{l b1 kb sb mb c:Nat}{m:List KI}{W:List (BA×aB)}(hW:bT m W)(J:Nat->Nat->af->Prop)(Je:af->Prop)(B0:ai h b1 [ptr kb])(bW:KR h kb sb mb c m)(hJ:∀p h',h.size<=p->p<h'.size->ag [] h h'->J p 0 h')(hB:∀p k h',J p k h'->ai h' b1 [ptr kb]∧KR h' kb sb mb c m)(abY:∀p k h' bq,J p k h'->ag [] h' bq->J p k bq)(hy:∀p k h' us(hk:k<W.length),J p k h'->TH h' us W[k].2->sG Tryz.prog l [.string W[k].1,.agg ⟨us⟩] h' (ao λv bq=>(v=.bool true∧J p (k+1) bq∧bq[p]? =h'[p]?)∨(v=.bool false∧Je bq))):aj Tryz.prog 59 [.func (.yield l) #[] #[],ptr b1] h (ao λ_ h'=>(∃p,J p W.length h')∨Je h'):=by
 refine f59.c<|Ei _ (Ai (an B0 Y)<|akV (q9 bW.ks) ?_);rintro _ h9 ⟨rfl,e9⟩;have e9:=e9.symm;subst e9;refine Ei _ (Ai (an B0 Y) (Ei _ (Ai (an bW.ks.k Y) (Ei _ (Ai (an bW.ks.s Y)<|akV Lp ?_)))));rintro _ h2 ⟨rfl,rfl⟩;refine akV (Mv bW) ?_;rintro v h3 ⟨L,aQ,oU,nZ,bC,bB⟩;have hL:=ahh hW oU nZ;have hWl:W.length<=65536:=by
  have h1:=oU.length_eq;rw[hL]at h1;simp at h1;have:=bW.len;omega
 obtain⟨a,cc,rfl,ie⟩:=aQ.form;have JC:L.length=W.length:=by rw[hL];simp
 have abM:ag [] h h3:=(Lf h mb).nil bB;have hz:h.size<h3.size:=by have:=bB.size;simp[kO]at this;omega
 obtain⟨p,hC,eg,rU⟩:∃p,h.size<=p∧p<h3.size∧(0<L.length->∀b∈bG a,b=p):=by
  by_cases h0:L.length=0
  .exact⟨h.size,ali _,hz,λh=>V⟩
  .obtain⟨b,o,e⟩:=aQ.addr V;cases e;have aI:=aQ.cells bj (i:=0) (x:=L[0]' V) Yy;have:=wi (aI 0 _ Y);exact⟨b,by have:=bC b (by simp[aq,bG]);omega,this,by simp[bG]⟩
 refine bA (λk:Nat=>[(0,.func (.yield l) #[] #[]),(1,ptr b1),(16,.slice a L.length cc),(17,.int .i64 L.length),(18,.int .i64 k)]) (λk h'=>k<=W.length∧J p k h'∧SL encS h' (.slice a L.length cc) L) (λk=>W.length-k) 0
  J5 ⟨ak8 _,hJ p h3 hC eg abM,aQ⟩ ?_
 rintro k h4 ⟨hk,JB,mq⟩;obtain⟨B4,mw⟩:=hB p k h4 JB;refine Bi (λht=>?_) λht=>?_
 .have ah:k<W.length:=V
  have Qv:k<L.length:=V
  obtain⟨b,o,rfl⟩:=mq.addr V;have aI:=mq.cells bj (i:=k) (x:=L[k]) (by simp[Qv]);have hLk:L[k]=W[k].1:=by
   have:L[k]? =(W.map Prod.fst)[k]? :=by rw[<-hL]
   rw[akU Qv,amB,akU ah]at this;simpa using this
  rw[hLk]at aI;refine Ai V (Ai V (Ei _ (Ai (aI 0 _ Y)<|Ei _ (Ai (an B4 Y) (Ei _ (Ai (an mw.ks.k Y) (Ei _ (Ai (an mw.ks.s Y)<|Ai Y (Ei (m.map KI.ent) (Ei c (Ai mw.map (Ai (sK m) ?_))))))))))));obtain⟨i,hi,sX⟩:=alF.1 ((hW.mem W[k]).1 (ak9 ah));have iV:i.key=W[k].1:=alC Prod.fst sX;have hit:i.thing=W[k].2:=alC Prod.snd sX;rcases xB W[k].1 m 0 with⟨_,bw⟩|⟨j,i',eS,hj,F'⟩
  .exact absurd iV (bw i hi)
  have gL:i'∈m:=al9 hj;have ei:i'=i:=by
   have dt:=mw.nodup;have:∀{m:List KI},(m.map KI.key).Nodup->i∈m->i'∈m->i'.key=i.key->i'=i:=by
    intro m;induction m with
    |nil=>intro _ h;simp at h
    |cons x m ih=>
     intro hn h1 h2 he;rw[alR,amc]at hn;rcases ak3.1 h1 with e1|g1
     .rcases ak3.1 h2 with e2|g2
      .rw[e1,e2]
      .refine absurd ?_ hn.1;rw[<-e1,<-he];exact als g2
     .rcases ak3.1 h2 with e2|g2
      .refine absurd ?_ hn.1;rw[<-e2,he];exact als g1
      .exact ih hn.2 g1 g2 he
   exact this dt hi gL (F'.trans iV.symm)
  subst ei;rw[eS];obtain⟨Bi,ti,ni⟩:=mw.here i' hi;refine Ei i'.vs (Ai ti.len (Ai (akW Bi)<|akV (OV ti ni) ?_));rintro _ h5 ⟨⟨us,rfl,tu,u9⟩,dY⟩;rw[hit]at tu;refine ai9 (hy p k h5 us ah (abY p k _ _ JB dY) tu) ?_;rintro r h6 (⟨rfl,hJ6,hp6⟩|⟨rfl,hJe⟩)
  .refine Az<|Ai Y (Ei (k+1) (Ai ?_ (Ai ?_ ?_)))
   .exact J5
   .refine⟨V,hJ6,SL.keep (mq.ext dY) λb' bh=>?_⟩;rw[rU V b' bh];exact hp6
   .omega
  .exact .inr hJe
 .have ah:k=W.length:=V
  subst ah;exact .inl ⟨p,JB⟩
def AV{h:af}{kb:Nat}:aj Tryz.prog 25 [ptr kb] h (ao λu h'=>∃b1,u=.func (.func 59) #[] #[ptr b1]∧jr h h' b1 [ptr kb]):=by
 refine f25.c ?_;intro b1 h1 g1;exact⟨b1,Y,g1⟩
def tO{S:List Nat}{h h':af}{l:Nat}{r:Loop}{st:LoopState}{p:Option Go.Code}(hl:jR h l r st p)(hc:ag S h h')(hn:l∉S):jR h' l r st p:=⟨oI hl.at_ hc hn⟩
structure A8 (h0:af) (l D b1 kb:Nat) (r:Loop) (p:Nat) (h:af):Prop where
 loop:jR h l r .ready none
 mark:h[D]? =some (.deferred (some []))
 b1:ai h b1 [ptr kb]
 ae:ag [] h0 h
 lt:l<p
 pn:p<h.size
def A8.ext{h0 h h':af}{l D b1 kb:Nat}{r:Loop}{p:Nat}(x:A8 h0 l D b1 kb r p h)(hc:ag [] h h'):A8 h0 l D b1 kb r p h':=
 ⟨tO x.loop hc Yy,oI x.mark hc Yy,x.b1.ae hc Yy,x.ae.nil hc,x.lt,amX x.pn hc.size⟩
def aaD{w:List RX}{k:Nat}(hk:k<(w.map RX.pr).length)(fZ:k<w.length):(w.map RX.pr)[k]=(w[k].key,w[k].thing):=by
 rw[aoJ];rfl
structure aA where
 op:Int
 key:BA
 name:BA
 text:BA
 num:Int
def cf(e:aA):List Value:=[.int .i64 e.op,.string e.key,.string e.name,.string e.text,.int .i64 e.num]
def yO(e:aA):(cf e).length=5:=rfl
def FA(e:aA):∀u∈cf e,u.oneCell'=true:=by
 intro u hu;simp only[cf,ak3,amU,anF]at hu;rcases hu with rfl|rfl|rfl|rfl|rfl<;>rfl
structure Ik (l:List RX):Prop where
 len:l.length<4611686018427387904
 keys:∀x∈l,x.key.size<4611686018427387904
 fits:∀x∈l,Fits x.thing
 sized:∀x∈l,A9 x.thing
def NQ(h:af)(l:List RX)(r:Value)(h':af):Prop:=ag [] h h'∧match gE [] l with
 |none=>r=.tuple #[.slice none 0 0,.int .i64 2]
 |some k=>∃u,r=.tuple #[u,.int .i64 0]∧OL dv 8 h' u k∧∀b∈aq u,h.size<=b
def SD{h h':af}{l:List RX}(hc:ag [] h h')(hn:gE [] l=none):NQ h l (.tuple #[.slice none 0 0,.int .i64 2]) h':=by
 refine⟨hc,?_⟩;rw[hn]
def NW{h:af}{v:Value}{l:List RX}(hv:SL dv h v l)(g:GX h l)(nv:rE l):aj Tryz.prog 7 [v] h (ao (NQ h l)):=by
 have hl:=nv.len;obtain⟨a,c,rfl,di⟩:=hv.form;refine f7.c<|bA (λi:Nat×Option Addr×Nat×List RX=>[(0,.slice a l.length c),(4,.slice i.2.1 i.2.2.2.length i.2.2.1),(5,.int .i64 i.1)])
  (λi h'=>i.1<=l.length∧ag [] h h'∧OL dv 8 h' (.slice i.2.1 i.2.2.2.length i.2.2.1) i.2.2.2∧(∀b∈bG i.2.1,h.size<=b)∧gE [] l=gE i.2.2.2 (l.drop i.1)∧i.2.2.2.length<=i.1∧oB i.2.2.2) (λi=>l.length-i.1) (0,none,0,[])
  J3 ⟨ak8 _,ag.refl h,OL.nil,by simp[bG],Y,ali _,by intro x hx;simp at hx⟩ ?_
 rintro⟨k,a2,c2,acc⟩ h1 ⟨hk,bd,ho,bC,kq,aw,CI⟩;simp only at hk ho bC kq aw CI;have bL:=hv.ext bd;refine Bi (λht=>?_) λht=>?_
 .have ah:k<l.length:=V
  obtain⟨b,o,rfl⟩:=bL.addr V;have aI:=bL.cells gT (i:=k) (x:=l[k]) (by simp[ah]);have fX:l.drop k=l[k]::l.drop (k+1):=alx ah;have dF:l[k]∈l:=ak9 ah;have Qs:=nv.keys _ dF;rw[fX]at kq;refine Ai V (Ai V (Ei _ (Ai (aI 0 _ Y)<|akV (vP l[k].key ho.sl V V CI) ?_)));rintro _ h9 ⟨rfl,e9⟩;have e9:=e9.symm;subst e9;cases hb:(br l[k].key acc).2 with
  |true=>exact SD bd (by rw[kq,gE,ak4 (.inl hb)])
  |false=>
   refine Ai V (Ai V (Ei _ (Ai (aI 0 _ Y)<|Ai Y (Ai (λbig=>absurd big V) (λ_=>Ai V (Ai V (Ei l[k].vs (Ai l[k].len (Ai (pG aI)<|akV (Wn ((g.ext bd) _ dF) (nv.small _ dF)) ?_)))))))));rintro r2 h2 ⟨cJ,aO⟩;cases td:fR l[k].thing with
   |false=>
    rw[td]at cJ;subst cJ;exact SD (bd.nil aO) (by rw[kq,gE,ak4 (.inr td)])
   |true=>
    rw[td]at cJ;subst cJ;have F2:=(bL.ext aO).cells gT (i:=k) (x:=l[k]) (by simp[ah]);refine Ai V (Ai V (Ei _ (Ai (F2 0 _ Y)<|Ai V (Ai V (Ei l[k].vs (Ai l[k].len (Ai (pG F2)<|akV (NU l[k] (ho.ext aO).sl V V CI) ?_)))))));rintro v3 h3 ⟨ji,rP,bB⟩;obtain⟨a3,c3,rfl,akp⟩:=ji.sl.form;have pS:=aeR acc l[k];refine Az<|Ai Y (Ei (k+1,a3,c3,iX acc l[k]) (Ai ?_ (Ai ?_ ?_)))
    .exact J3
    .have z1:=bd.size;have z2:=aO.size;refine⟨by simp only;omega,(bd.nil aO).nil bB,ji,λb hb=>by have:=rP b hb;omega,?_,by simp only;omega,λx hx=>?_⟩
     .rw[kq,gE,akZ];rintro(h|h)
      .rw[hb]at h;cases h
      .rw[td]at h;cases h
     .have hx:x∈iX acc l[k]:=hx;unfold iX at hx;rcases alf.1 hx with hx|hx
      .rcases alf.1 hx with hx|hx
       .exact CI x (aom hx)
       .simp at hx;subst hx;omega
      .exact CI x (aon hx)
    .simp only;omega
 .have aZ:k=l.length:=V
  subst aZ;refine Ai Y (Ai (λbig=>absurd big V) (λ_=>?_));refine⟨bd,?_⟩;rw[kq,amE,gE];exact⟨_,Y,ho,bC⟩
def ahi{m:List KI}{l k:List RX}(eF:m.map KI.pr=l.map RX.pr)(hk:gE [] l=some k):bT m (k.map RX.pr):=by
 obtain⟨h1,h2,_⟩:=Ao (acc:=[]) List.Pairwise.nil hk;refine⟨ang RX.pr (λ_ _ h=>h) h1,λp=>?_⟩;rw[eF,alF,alF];constructor
 .rintro⟨x,hx,rfl⟩;exact⟨x,by simpa using(h2 x).1 hx,Y⟩
 .rintro⟨x,hx,rfl⟩;exact⟨x,(h2 x).2 (by simp[hx]),Y⟩
section
variable {α:Type}{eq lt:α->Bool}{y:α}
def cQ(eq lt:α->Bool)(y:α):List α->Bool->List α
 |[],d=>if d then[]else[y]
 |x::l,d=>if eq x then cQ eq lt y l d else if !d&&lt x then y::x::cQ eq lt y l true else x::cQ eq lt y l d
def dC(eq:α->Bool)(l:List α):List α:=l.filter λx=>!eq x
def Fw:∀{l:List α},(∀x∈l,eq x=false)->dC eq l=l:=by
 intro l h;exact List.filter_eq_self.2 λx hx=>by rw[h x hx];rfl
def DV:∀(l:List α),cQ eq lt y l true=dC eq l
 |[]=>rfl
 |x::l=>by
  have ih:=DV l;unfold cQ dC;cases he:eq x with
  |true=>rw[ak4 Y,ih];simp[dC,he]
  |false=>simp[he,ih,dC]
def G5:∀{A B:List α},(∀x∈A,eq x=false∧lt x=false)->cQ eq lt y (A++B) false=A++cQ eq lt y B false
 |[],B,_=>rfl
 |x::A,B,h=>by
  have hx:=h x Yy;have ih:=G5 (A:=A) (B:=B) λz hz=>h z (by simp[hz]);rw[amK,cQ,hx.1,hx.2];simp[ih]
def Tk:∀(l:List α)(d:Bool),cQ eq lt y (dC eq l) d=cQ eq lt y l d
 |[],d=>rfl
 |x::l,d=>by
  have ih:=Tk l;cases he:eq x with
  |true=>
   have:dC eq (x::l)=dC eq l:=by simp[dC,he]
   rw[this,ih,cQ,he];simp
  |false=>
   have:dC eq (x::l)=x::dC eq l:=by simp[dC,he]
   rw[this,cQ,cQ,he,ih,ih]
def Mc{B:List α}(h:∀x∈B,eq x=false∧lt x=true):cQ eq lt y B false=y::B:=by
 cases B with
 |nil=>rfl
 |cons x B=>
  have hx:=h x Yy;rw[cQ,hx.1,hx.2];have hd:dC eq B=B:=Fw λz hz=>(h z (alr _ hz)).1;simp[DV,hd]
def aeO{x:α}{B:List α}(hx:eq x=true)(h:∀x∈B,eq x=false∧lt x=true):cQ eq lt y (x::B) false=y::B:=by
 rw[cQ,hx];simp[Mc h]
def O0{x:α}{A B:List α}(hx:eq x=true)(hA:∀x∈A,eq x=false)(hB:∀x∈B,eq x=false):dC eq (A++x::B)=A++B:=by
 unfold dC;rw[anz,anW,hx];have h1:=Fw (eq:=eq) hA;have h2:=Fw (eq:=eq) hB;unfold dC at h1 h2;rw[h1,h2];rfl
def q8{z:α}:∀{l:List α}{d:Bool},z∈cQ eq lt y l d->z=y∨(z∈l∧eq z=false)
 |[],d,h=>by
  simp only[cQ]at h;split at h<;>simp at h;exact .inl h
 |x::l,d,h=>by
  simp only[cQ]at h;cases he:eq x with
  |true=>
   rw[he]at h;rcases q8 (l:=l) (by simpa using h)with h|⟨h1,h2⟩
   .exact .inl h
   .exact .inr ⟨by simp[h1],h2⟩
  |false=>
   rw[he]at h;simp only[amH,ana]at h;split at h
   .rcases ak3.1 h with h|h
    .exact .inl h
    .rcases ak3.1 h with h|h
     .subst h;exact .inr ⟨Yy,he⟩
     .rcases q8 (l:=l) h with h|⟨h1,h2⟩
      .exact .inl h
      .exact .inr ⟨by simp[h1],h2⟩
   .rcases ak3.1 h with h|h
    .subst h;exact .inr ⟨Yy,he⟩
    .rcases q8 (l:=l) h with h|⟨h1,h2⟩
     .exact .inl h
     .exact .inr ⟨by simp[h1],h2⟩
def G4:∀(l:List α)(d:Bool),(cQ eq lt y l d).length<=l.length+1
 |[],d=>by cases d<;>simp[cQ]
 |x::l,d=>by
  have h1:=G4 l d;have h2:(cQ eq lt y l true).length<=l.length:=by rw[DV];exact amR _ _
  simp only[cQ];split
  .simp;omega
  .split<;>simp<;>omega
def G6{R:α->α->Prop}(h1:∀x,eq x=false->lt x=true->R y x)(h2:∀x,eq x=false->lt x=false->R x y)(tG:∀a b c,R a b->R b c->R a c):∀{l:List α},l.Pairwise R->(cQ eq lt y l false).Pairwise R
 |[],_=>by simp[cQ]
 |x::l,h=>by
  have hx:=amd.1 h;have ih:=G6 h1 h2 tG hx.2;simp only[cQ];cases he:eq x with
  |true=>simpa using ih
  |false=>
   cases hl:lt x with
   |true=>
    simp only[amH,ana,aoW,Bool.and_self,anB,DV];refine amd.2 ⟨λz hz=>?_,amd.2 ⟨λz hz=>hx.1 z (amb.1 hz).1,hx.2.filter _⟩⟩;rcases ak3.1 hz with rfl|hz
    .exact h1 _ he hl
    .exact tG _ _ _ (h1 _ he hl) (hx.1 z (amb.1 hz).1)
   |false=>
    simp only[amH,ana,aoW,anu];refine amd.2 ⟨λz hz=>?_,ih⟩;rcases q8 hz with rfl|⟨hz,_⟩
    .exact h2 _ he hl
    .exact hx.1 z hz
end
section
variable {α:Type}{nm:α->BA}{name:BA}
def Vp{lo:α->Bool}{l:List α}{k:Nat}(c:ak' lo l k):∀x∈l.take k,lo x=true:=by
 intro x hx;obtain⟨i,hi,rfl⟩:=amS hx;rw[alA]at hi;rw[anl];exact c.low i V V
def Pf{lo:α->Bool}{l:List α}{k:Nat}(c:ak' lo l k):∀x∈l.drop k,lo x=false:=by
 intro x hx;obtain⟨i,hi,rfl⟩:=amS hx;rw[amL]at hi;rw[List.getElem_drop];exact c.high (k+i) V V
def D'{a b:BA}(h1:aP a b=false)(h2:a≠b):aP b a=true:=by
 rcases Hz h2 with h|h
 .rw[h1]at h;cases h
 .exact h
def U6{a b:BA}(h:aP a b=true):aP b a=false:=by
 cases hb:aP b a with
 |false=>rfl
 |true=>exact absurd hb (Hy a b h)
def Fv{l:List α}{k:Nat}(c:ak' (λx=>aP (nm x) name) l k):∀x∈l.take k,decide (nm x=name)=false∧aP name (nm x)=false:=by
 intro x hx;have:=Vp c x hx;exact⟨alg (sq this),U6 this⟩
def OZ{l:List α}{k:Nat}(hs:l.Pairwise λa b=>aP (nm a) (nm b)=true)(c:ak' (λx=>aP (nm x) name) l k)(hn:(l[k]?).any (λx=>decide (nm x=name))=false):∀x∈l.drop k,decide (nm x=name)=false∧aP name (nm x)=true:=by
 have hd:∀x∈l.drop k,nm x≠name:=by
  by_cases hk:k<l.length
  .rw[akU hk]at hn;have cu:nm l[k]≠name:=by simpa using hn
   have lI:=c.high k (ali _) hk;have ah:=D' lI cu;rw[alx hk]at*;have hp:(l[k]::l.drop (k+1)).Pairwise λa b=>aP (nm a) (nm b)=true:=by
    rw[<-alx hk];exact hs.drop
   intro x hx;rcases ak3.1 hx with rfl|hx
   .exact cu
   .have:=mF ah (an1 hp hx);exactλe=>sq this e.symm
  .rw[am4 V];simp
 intro x hx;exact⟨alg (hd x hx),D' (Pf c x hx) (hd x hx)⟩
def yK{l:List α}{k:Nat}(hs:l.Pairwise λa b=>aP (nm a) (nm b)=true)(_:ak' (λx=>aP (nm x) name) l k)(hn:(l[k]?).any (λx=>decide (nm x=name))=true):∃hk:k<l.length,nm l[k]=name∧∀x∈l.drop (k+1),decide (nm x=name)=false∧aP name (nm x)=true:=by
 by_cases hk:k<l.length
 .rw[akU hk]at hn;have cu:nm l[k]=name:=by simpa using hn
  refine⟨hk,cu,λx hx=>?_⟩;have hp:(l[k]::l.drop (k+1)).Pairwise λa b=>aP (nm a) (nm b)=true:=by
   rw[<-alx hk];exact hs.drop
  have:=an1 hp hx;rw[cu]at this;exact⟨alg λe=>sq this e.symm,this⟩
 .rw[anR V]at hn;cases hn
def Eb{l:List α}{k:Nat}(hk:k<l.length):l=l.take k++l[k]::l.drop (k+1):=by
 rw[<-alx hk,ama]
def Tr{y:α}{l:List α}{k:Nat}(hs:l.Pairwise λa b=>aP (nm a) (nm b)=true)(c:ak' (λx=>aP (nm x) name) l k)(hn:(l[k]?).any (λx=>decide (nm x=name))=false):cQ (λx=>decide (nm x=name)) (λx=>aP name (nm x)) y l false=l.take k++y::l.drop k:=by
 have e:l=l.take k++l.drop k:=(ama k l).symm;rw[show cQ (λx=>decide (nm x=name)) (λx=>aP name (nm x)) y l false=cQ (λx=>decide (nm x=name)) (λx=>aP name (nm x)) y (l.take k++l.drop k) false by rw[<-e],
  G5 (Fv c),Mc (OZ hs c hn)]
def Tt{y:α}{l:List α}{k:Nat}(hs:l.Pairwise λa b=>aP (nm a) (nm b)=true)(c:ak' (λx=>aP (nm x) name) l k)(hn:(l[k]?).any (λx=>decide (nm x=name))=true):cQ (λx=>decide (nm x=name)) (λx=>aP name (nm x)) y l false=l.take k++y::l.drop (k+1):=by
 obtain⟨hk,he,hb⟩:=yK hs c hn;rw[show cQ (λx=>decide (nm x=name)) (λx=>aP name (nm x)) y l false=cQ (λx=>decide (nm x=name)) (λx=>aP name (nm x)) y (l.take k++l[k]::l.drop (k+1)) false by rw[<-Eb hk],
  G5 (Fv c),aeO (by simpa using he) hb]
def amj{l:List α}{k:Nat}(hs:l.Pairwise λa b=>aP (nm a) (nm b)=true)(c:ak' (λx=>aP (nm x) name) l k)(hn:(l[k]?).any (λx=>decide (nm x=name))=true):dC (λx=>decide (nm x=name)) l=l.take k++l.drop (k+1)∧l.any (λx=>decide (nm x=name))=true:=by
 obtain⟨hk,he,hb⟩:=yK hs c hn;refine⟨?_,aog.2 ⟨l[k],ak9 hk,by simpa using he⟩⟩;have:=O0 (eq:=λx=>decide (nm x=name)) (x:=l[k]) (A:=l.take k) (B:=l.drop (k+1)) (by simpa using he) (λx hx=>(Fv c x hx).1) (λx hx=>(hb x hx).1);rw[<-Eb hk]at this;exact this
def any_none{l:List α}{k:Nat}(hs:l.Pairwise λa b=>aP (nm a) (nm b)=true)(c:ak' (λx=>aP (nm x) name) l k)(hn:(l[k]?).any (λx=>decide (nm x=name))=false):l.any (λx=>decide (nm x=name))=false:=by
 rw[aoC];intro x hx;rw[<-ama k l]at hx;rcases alf.1 hx with hx|hx
 .rw[(Fv c x hx).1];simp
 .rw[(OZ hs c hn x hx).1];simp
end
def EO(a b c:aF)(h1:cS a b=true)(h2:cS b c=true):cS a c=true:=by
 simp only[cS,amZ,amm,alO]at h1 h2⊢;rcases h1 with h1|⟨h1,jV⟩<;>rcases h2 with h2|⟨h2,pJ⟩
 .left;omega
 .left;omega
 .left;omega
 .right;exact⟨V,mF jV pJ⟩
def N3{a b:aF}(h1:cS a b=false)(h2:a.name≠b.name):cS b a=true:=by
 simp only[cS,Bool.or_eq_false_iff,decide_eq_false_iff_not,aoZ]at h1;simp only[cS,amZ,amm,alO];by_cases h:b.score<a.score
 .exact .inl h
 .have:a.score=b.score:=V
  rcases h1.2 with h|h
  .exact absurd this h
  .exact .inr ⟨this.symm,D' h h2⟩
def WM{a b:aF}(h:cS a b=true):cS b a=false:=by
 cases hb:cS b a with
 |false=>rfl
 |true=>
  have:=EO a b a h hb;simp[cS,qj]at this
def Yl{l:List aF}{k:Nat}{name:BA}(hn:(l.map aF.name).Nodup)(hk:k<l.length)(he:l[k].name=name):dC (λx=>decide (x.name=name)) l=l.take k++l.drop (k+1):=by
 have e:=Eb hk;have cu:((l.take k++l[k]::l.drop (k+1)).map aF.name).Nodup:=by rw[<-e];exact hn
 rw[alD,alR,amN]at cu;obtain⟨_,h2,h3⟩:=cu;rw[amc]at h2;have:=O0 (eq:=λx:aF=>decide (x.name=name)) (x:=l[k]) (A:=l.take k) (B:=l.drop (k+1)) (by simpa using he)
  (λx hx=>alg λe=>h3 _ (als hx) _ amY (by rw[e,he]))
  (λx hx=>alg λe=>h2.1 (by rw[he,<-e];exact als hx))
 rw[<-e]at this;exact this
def aeT{y:aF}{l:List aF}{k:Nat}(bw:∀x∈l,x.name≠y.name)(c:ak' (λx=>cS x y) l k):cQ (λx=>decide (x.name=y.name)) (λx=>cS y x) y l false=l.take k++y::l.drop k:=by
 have e:l=l.take k++l.drop k:=(ama k l).symm;rw[show cQ (λx:aF=>decide (x.name=y.name)) (λx=>cS y x) y l false=cQ (λx:aF=>decide (x.name=y.name)) (λx=>cS y x) y (l.take k++l.drop k) false by rw[<-e],
  G5 λx hx=>⟨alg (bw x (aom hx)),WM (Vp c x hx)⟩,
  Mc λx hx=>⟨alg (bw x (aon hx)),N3 (Pf c x hx) (bw x (aon hx))⟩]
def bm(t:aB)(e:aA):aB×Int:=
 if e.op=1 then(aL,0)else
 if e.op=2 then(rA e.text,0)else
 if e.op=3 then({t with cP:=true,bQ:=e.num},0)else
 if e.op=4 then({t with cP:=false,bQ:=0},0)else
 if e.op=5 then({t with pairs:=cQ (λx=>decide (x.name=e.name)) (λx=>aP e.name x.name) ⟨e.name,e.text⟩ t.pairs false},0)else
 if e.op=6 then({t with pairs:=dC (λx=>decide (x.name=e.name)) t.pairs},if t.pairs.any (λx=>decide (x.name=e.name))then 0 else 5)else
 if e.op=7 then({t with list:=e.text::t.list},0)else
 if e.op=8 then({t with list:=t.list++[e.text]},0)else
 if e.op=9 then({t with list:=t.list.tail},0)else
 if e.op=10 then({t with list:=t.list.dropLast},0)else
 if e.op=11 then(if 0<=e.num∧e.num<t.list.length then({t with list:=t.list.set e.num.toNat e.text},0)else(t,4))else
 if e.op=12 then({t with list:=cQ (λx=>decide (x=e.name)) (λx=>aP e.name x) e.name t.list false},0)else
 if e.op=13 then({t with list:=dC (λx=>decide (x=e.name)) t.list},if t.list.any (λx=>decide (x=e.name))then 0 else 5)else
 if e.op=14 then({t with ranks:=cQ (λx=>decide (x.name=e.name)) (λx=>cS ⟨e.name,e.num⟩ x) ⟨e.name,e.num⟩ t.ranks false},0)else
 if e.op=15 then({t with ranks:=dC (λx=>decide (x.name=e.name)) t.ranks},if t.ranks.any (λx=>decide (x.name=e.name))then 0 else 5)else(t,0)
structure fG (t:aB):Prop where
 ps:t.pairs.Pairwise λa b=>aP a.name b.name=true
 ls:t.kind=4->t.list.Pairwise λa b=>aP a b=true
 rs:t.ranks.Pairwise λa b=>cS a b=true
 once:(t.ranks.map aF.name).Nodup
 only:t.kind=3->t.pairs=[]∧t.ranks=[]
 few:dX t<=65536
def fG.lens{t:aB}(g:fG t):j' t:=by
 have:=g.few;unfold dX at this;exact⟨V,V,V⟩
end Go.Proofs.YtocgmipngoiieaaGreatDoor
namespace Go.Proofs.YtocgmipngoiieaaGreatDoor
open Go Go.Sx C
variable{aY:Value}{b3:Nat}{dQ dV:Value}{h h':af}{lv rv:Value}{t':aB}{tb:Nat}
def _root_.Go.Sx.ag.step{S U:List Nat}{a b c:af}(c1:ag U a b)(c2:ag S b c)(hs:∀k∈S,k<a.size->k∈U):ag U a c:=c1.trans c2 (λ_ h=>h) hs
def yg(t':aB)(n:Int)(tb:Nat)(pv lv rv:Value)(h:af)(r:Value)(h':af):Prop:=
 r=.int .i64 n∧(n=0->∃ws,ai h' tb ws∧TH h' ws t'∧∀v∈ws,∀b∈aq v,b∈bk pv lv rv∨h.size<=b)∧ag (tb::bk pv lv rv) h h'
def mg{pv:Value}(B:ai h' tb (bg t' dQ aY dV))(sp:SL aX h' dQ t'.pairs)(sl:SL encS h' aY t'.list)(sr:SL aK h' dV t'.ranks)(hb:∀b∈bk dQ aY dV,b∈bk pv lv rv∨h.size<=b)(c:ag (tb::bk pv lv rv) h h'):yg t' 0 tb pv lv rv h (.int .i64 0) h':=by
 refine⟨Y,λ_=>⟨_,B,⟨_,_,_,Y,sp,sl,sr⟩,λv hv b sf=>?_⟩,c⟩;simp only[bg,ak3,amU,anF]at hv;rcases hv with rfl|rfl|rfl|rfl|rfl|rfl|rfl
 .exact absurd (show b∈([]:List Nat)from sf) Yy
 .exact absurd (show b∈([]:List Nat)from sf) Yy
 .exact hb b (by simp[bk,sf])
 .exact hb b (by simp[bk,sf])
 .exact hb b (by simp[bk,sf])
 .exact absurd (show b∈([]:List Nat)from sf) Yy
 .exact absurd (show b∈([]:List Nat)from sf) Yy
def I7{n:Int}{pv:Value}(hn:n≠0)(c:ag (tb::bk pv lv rv) h h'):yg t' n tb pv lv rv h (.int .i64 n) h':=⟨Y,λe=>absurd e hn,c⟩
def kY(g:Nat)(t:aB)(e:aA):Prop:=∀(h:af)(tb:Nat)(pv lv rv:Value),ai h tb (bg t pv lv rv)->TO h pv lv rv t->tb∉bk pv lv rv->
 aj Tryz.prog g [ptr tb,.agg ⟨cf e⟩] h (ao (yg (bm t e).1 (bm t e).2 tb pv lv rv h))
def Oh{pv:Value}:∀b∈bk (.slice none 0 0) (.slice none 0 0) (.slice none 0 0),b∈bk pv lv rv∨h.size<=b:=by
 intro b hb;exact absurd (show b∈([]:List Nat)from hb) Yy
def EW{pv:Value}:∀b∈bk pv lv rv,b∈bk pv lv rv∨h.size<=b:=λ_ hb=>.inl hb
def yC{pv:Value}(hl:∀b∈aq aY,b∈aq lv∨h.size<=b):∀b∈bk pv aY rv,b∈bk pv lv rv∨h.size<=b:=by
 intro b hb;simp only[bk,alf]at hb⊢;rcases hb with hb|hb|hb
 .exact .inl (.inl hb)
 .rcases hl b hb with h|h
  .exact .inl (.inr (.inl h))
  .exact .inr h
 .exact .inl (.inr (.inr hb))
def Oi{pv:Value}(hl:∀b∈aq dQ,b∈aq pv∨h.size<=b):∀b∈bk dQ lv rv,b∈bk pv lv rv∨h.size<=b:=by
 intro b hb;simp only[bk,alf]at hb⊢;rcases hb with hb|hb
 .rcases hl b hb with h|h
  .exact .inl (.inl h)
  .exact .inr h
 .exact .inl (.inr hb)
def Oj{pv:Value}(hl:∀b∈aq dV,b∈aq rv∨h.size<=b):∀b∈bk pv lv dV,b∈bk pv lv rv∨h.size<=b:=by
 intro b hb;simp only[bk,alf]at hb⊢;rcases hb with hb|hb|hb
 .exact .inl (.inl hb)
 .exact .inl (.inr (.inl hb))
 .rcases hl b hb with h|h
  .exact .inl (.inr (.inr h))
  .exact .inr h
def YE{t:aB}{e:aA}(bz:e.op=1)(gd:fG t):kY 136 t e:=by
 have ed:bm t e=(aL,0):=by unfold bm;simp[bz]
 intro h tb pv lv rv T0 o0 hn;rw[ed];have lens:=gd.lens;have lp:=lens.p;have ll:=lens.l;have lr:=lens.r;have cu:tb∉aq pv∧tb∉aq lv∧tb∉aq rv:=by simpa[bk]using hn
 have og:=T0.lt;refine f136.c ?_;intro b3 h1 g1;have c1:=g1.ae;have i3:=g1.id;have s1:=g1.size;have B31:ai h1 b3 (cf e):=g1.blk;have T1:=T0.ae c1 Yy;have o1:=o0.ext c1;have z1:ag (tb::bk pv lv rv) h h1:=((ag.refl h).mono Yy).step c1 Yy;refine Ei _ (Ai T1 (Ai (by simp[bg]) (Ai Y (Ai (dB (t:=aL) (h:=h1) jA) ?_))));intro h2 p2;exact mg (t':=aL) (show ai h2 tb (bg aL _ _ _)from p2.blk) SL.nil SL.nil SL.nil Oh (z1.step p2.ae Yy)
def ahD{t:aB}{e:aA}(bz:e.op=2)(gd:fG t):kY 137 t e:=by
 have ed:bm t e=(rA e.text,0):=by unfold bm;simp[bz]
 intro h tb pv lv rv T0 o0 hn;rw[ed];have lens:=gd.lens;have lp:=lens.p;have ll:=lens.l;have lr:=lens.r;have cu:tb∉aq pv∧tb∉aq lv∧tb∉aq rv:=by simpa[bk]using hn
 have og:=T0.lt;refine f137.c ?_;intro b3 h1 g1;have c1:=g1.ae;have i3:=g1.id;have s1:=g1.size;have B31:ai h1 b3 (cf e):=g1.blk;have T1:=T0.ae c1 Yy;have o1:=o0.ext c1;have z1:ag (tb::bk pv lv rv) h h1:=((ag.refl h).mono Yy).step c1 Yy;refine Ei _ (Ai (an B31 Y)<|Ei _ (Ai T1 (Ai (by simp[bg]) (Ai Y (Ai (dB (t:=rA e.text) (h:=h1) MT) ?_)))));intro h2 p2;exact mg (t':=rA e.text) (show ai h2 tb (bg (rA e.text) _ _ _)from p2.blk) SL.nil SL.nil SL.nil Oh (z1.step p2.ae Yy)
def ahT{t:aB}{e:aA}(bz:e.op=3)(gd:fG t):kY 138 t e:=by
 have ed:bm t e=({t with cP:=true,bQ:=e.num},0):=by unfold bm;simp[bz]
 intro h tb pv lv rv T0 o0 hn;rw[ed];have lens:=gd.lens;have lp:=lens.p;have ll:=lens.l;have lr:=lens.r;have cu:tb∉aq pv∧tb∉aq lv∧tb∉aq rv:=by simpa[bk]using hn
 have og:=T0.lt;refine f138.c ?_;intro b3 h1 g1;have c1:=g1.ae;have i3:=g1.id;have s1:=g1.size;have B31:ai h1 b3 (cf e):=g1.blk;have T1:=T0.ae c1 Yy;have o1:=o0.ext c1;have z1:ag (tb::bk pv lv rv) h h1:=((ag.refl h).mono Yy).step c1 Yy;have fin:∀h2 h3,dL h1 h2 tb (bg {t with cP:=true} pv lv rv)->dL h2 h3 tb (bg {t with cP:=true,bQ:=e.num} pv lv rv)->yg {t with cP:=true,bQ:=e.num} 0 tb pv lv rv h (.int .i64 0) h3:=by
  intro h2 h3 p2 p3;have p:=p2.trans p3;have o3:=o1.ae p.ae (λb hb=>by simp;rintro rfl;exact hn hb);exact mg p3.blk o3.p.sl o3.l.sl o3.r.sl EW (z1.step p.ae Yy)
 refine Ai ?_ ?_
 .refine Ei _ (Ai (an B31 Y)<|Ei _ (Ai T1 (Ai (by simp[bg]) (Ai Y (Ai (cM Y) ?_)))));intro h2 p2;refine Ei _ (Ai p2.blk (Ai (by show 0+6+1<=(bg {t with cP:=true} pv lv rv).length;simp[bg]) (Ai Y (Ai (cM Y) ?_))));intro h3 p3;exact fin h2 h3 p2 p3
 .refine Ei _ (Ai T1 (Ai (by simp[bg]) (Ai Y (Ai (cM Y) ?_))));intro h2 p2;refine Ei _ (Ai (an (B31.ae p2.ae Ys) Y)<|Ei _ (Ai p2.blk (Ai (by show 0+6+1<=(bg {t with cP:=true} pv lv rv).length;simp[bg]) (Ai Y (Ai (cM Y) ?_)))));intro h3 p3;exact fin h2 h3 p2 p3
def ac'{t:aB}{e:aA}(bz:e.op=4)(gd:fG t):kY 139 t e:=by
 have ed:bm t e=({t with cP:=false,bQ:=0},0):=by unfold bm;simp[bz]
 intro h tb pv lv rv T0 o0 hn;rw[ed];have lens:=gd.lens;have lp:=lens.p;have ll:=lens.l;have lr:=lens.r;have cu:tb∉aq pv∧tb∉aq lv∧tb∉aq rv:=by simpa[bk]using hn
 have og:=T0.lt;refine f139.c ?_;intro b3 h1 g1;have c1:=g1.ae;have i3:=g1.id;have s1:=g1.size;have B31:ai h1 b3 (cf e):=g1.blk;have T1:=T0.ae c1 Yy;have o1:=o0.ext c1;have z1:ag (tb::bk pv lv rv) h h1:=((ag.refl h).mono Yy).step c1 Yy;refine Ei _ (Ai T1 (Ai (by simp[bg]) (Ai Y (Ai (cM Y) ?_))));intro h2 p2;refine Ei _ (Ai p2.blk (Ai (by show 0+6+1<=(bg {t with cP:=false} pv lv rv).length;simp[bg]) (Ai Y (Ai (cM Y) ?_))));intro h3 p3;have p:=p2.trans p3;have o3:=o1.ae p.ae (λb hb=>by simp;rintro rfl;exact hn hb);exact mg (show ai h3 tb (bg {t with cP:=false,bQ:=0} pv lv rv)from p3.blk) o3.p.sl o3.l.sl o3.r.sl EW (z1.step p.ae Yy)
def abV{t:aB}{e:aA}(bz:e.op=7)(gd:fG t):kY 142 t e:=by
 have ed:bm t e=({t with list:=e.text::t.list},0):=by unfold bm;simp[bz]
 intro h tb pv lv rv T0 o0 hn;rw[ed];have lens:=gd.lens;have lp:=lens.p;have ll:=lens.l;have lr:=lens.r;have cu:tb∉aq pv∧tb∉aq lv∧tb∉aq rv:=by simpa[bk]using hn
 have og:=T0.lt;refine f142.c ?_;intro b3 h1 g1;have c1:=g1.ae;have i3:=g1.id;have s1:=g1.size;have B31:ai h1 b3 (cf e):=g1.blk;have T1:=T0.ae c1 Yy;have o1:=o0.ext c1;have z1:ag (tb::bk pv lv rv) h h1:=((ag.refl h).mono Yy).step c1 Yy;refine Ei _ (Ai (an T1 Y) (Ei _ (Ai (an B31 Y) ?_)));intro b2 h2 g2;have c2:=g2.ae;have i2:=g2.id;have s2:=g2.size;have o2:=o1.ext c2;have T2:=T1.ae c2 Yy;have z2:=z1.step c2 Yy;have lb:=o1.l.lt;refine akV (Ri (i:=0) (x:=e.text) o2.l V (ak8 _) g2.blk (λhb=>by have:=lb b2 hb;omega)) ?_;rintro r5 h5 ⟨O5,c5,cK⟩;have S5:SL encS h5 r5 (e.text::t.list):=O5.sl;have T5:=T2.ae c5 cu.2.1;have vr:=o2.p;have xH:=o2.r;have o5p:=vr.ae c5 (λb hb=>o0.pl b hb);have lR:=xH.ae c5 (λb hb=>λhp=>o0.lr b hp hb);have z5:=z2.step c5 (λk hk _=>by simp[bk,hk]);have cK:∀b∈aq r5,b∈aq lv∨h.size<=b:=λb hb=>by
  rcases cK b hb with h|h
  .exact .inl h
  .exact .inr V
 obtain⟨a5,k5,rfl,_⟩:=S5.form;have oZ:tb∉aq (.slice a5 (e.text::t.list).length k5):=λhm=>by
  rcases cK tb hm with h|h
  .exact cu.2.1 h
  .omega
 refine Ei _ (Ai T5 (Ai (by simp[bg]) (Ai Y (Ai (cM Y) ?_))));intro h6 p6;exact mg (show ai h6 tb (bg {t with list:=(e.text::t.list)} pv (.slice a5 (e.text::t.list).length k5) rv)from p6.blk) (o5p.sl.ae p6.ae (by intro b hb;simp;rintro rfl;exact cu.1 hb)) (S5.ae p6.ae (by intro b hb;simp;rintro rfl;exact oZ hb)) (lR.sl.ae p6.ae (by intro b hb;simp;rintro rfl;exact cu.2.2 hb)) (yC cK) (z5.step p6.ae Yy)
def ahw{t:aB}{e:aA}(bz:e.op=8)(gd:fG t):kY 144 t e:=by
 have ed:bm t e=({t with list:=t.list++[e.text]},0):=by unfold bm;simp[bz]
 intro h tb pv lv rv T0 o0 hn;rw[ed];have lens:=gd.lens;have lp:=lens.p;have ll:=lens.l;have lr:=lens.r;have cu:tb∉aq pv∧tb∉aq lv∧tb∉aq rv:=by simpa[bk]using hn
 have og:=T0.lt;refine f144.c ?_;intro b3 h1 g1;have c1:=g1.ae;have i3:=g1.id;have s1:=g1.size;have B31:ai h1 b3 (cf e):=g1.blk;have T1:=T0.ae c1 Yy;have o1:=o0.ext c1;have z1:ag (tb::bk pv lv rv) h h1:=((ag.refl h).mono Yy).step c1 Yy;refine Ei _ (Ai (an T1 Y) (Ei _ (Ai (an B31 Y) ?_)));intro b2 h2 g2;have c2:=g2.ae;have i2:=g2.id;have s2:=g2.size;have o2:=o1.ext c2;have T2:=T1.ae c2 Yy;have z2:=z1.step c2 Yy;obtain⟨la,lc,CR,_⟩:=o2.l.form;have Wy:=T2;rw[CR]at o2 cu Wy;have An:=o2.l;have B2:ai h2 b2 (encS e.text):=g2.blk;subst CR;refine dZ bj fP Y An (SL.one bj B2) Ys ?_;intro r5 h5 O5 c5 cK;have S5:SL encS h5 r5 (t.list++[e.text]):=O5.sl;have c5:ag (aq (.slice la t.list.length lc)) h2 h5:=c5;have T5:=T2.ae c5 cu.2.1;have vr:=o2.p;have xH:=o2.r;have o5p:=vr.ae c5 (λb hb=>o0.pl b hb);have lR:=xH.ae c5 (λb hb=>λhp=>o0.lr b hp hb);have z5:=z2.step c5 (λk hk _=>by simp[bk,hk]);have cK:∀b∈aq r5,b∈aq (.slice la t.list.length lc)∨h.size<=b:=λb hb=>by
  rcases cK b hb with h|h
  .exact .inl h
  .exact .inr V
 obtain⟨a5,k5,rfl,_⟩:=S5.form;have oZ:tb∉aq (.slice a5 (t.list++[e.text]).length k5):=λhm=>by
  rcases cK tb hm with h|h
  .exact cu.2.1 h
  .omega
 refine Ei _ (Ai T5 (Ai (by simp[bg]) (Ai Y (Ai (cM Y) ?_))));intro h6 p6;exact mg (show ai h6 tb (bg {t with list:=(t.list++[e.text])} pv (.slice a5 (t.list++[e.text]).length k5) rv)from p6.blk) (o5p.sl.ae p6.ae (by intro b hb;simp;rintro rfl;exact cu.1 hb)) (S5.ae p6.ae (by intro b hb;simp;rintro rfl;exact oZ hb)) (lR.sl.ae p6.ae (by intro b hb;simp;rintro rfl;exact cu.2.2 hb)) (yC cK) (z5.step p6.ae Yy)
def ahO{t:aB}{e:aA}(bz:e.op=9)(gd:fG t)(ax:t.list≠[]):kY 145 t e:=by
 have ed:bm t e=({t with list:=t.list.tail},0):=by unfold bm;simp[bz]
 intro h tb pv lv rv T0 o0 hn;rw[ed];have lens:=gd.lens;have lp:=lens.p;have ll:=lens.l;have lr:=lens.r;have cu:tb∉aq pv∧tb∉aq lv∧tb∉aq rv:=by simpa[bk]using hn
 have og:=T0.lt;refine f145.c ?_;intro b3 h1 g1;have c1:=g1.ae;have i3:=g1.id;have s1:=g1.size;have B31:ai h1 b3 (cf e):=g1.blk;have T1:=T0.ae c1 Yy;have o1:=o0.ext c1;have z1:ag (tb::bk pv lv rv) h h1:=((ag.refl h).mono Yy).step c1 Yy;have adB:0<t.list.length:=am8.2 ax;obtain⟨la,lc,rfl,_⟩:=o1.l.form;refine Ei _ (Ai (an T1 Y)<|SL.slc (lo:=1) (hi:=t.list.length) bj o1.l.sl V (ali _) ?_);intro a5 cY S5;have el:(t.list.drop 1).take (t.list.length-1)=t.list.tail:=by
  rw[amo Yy];simp
 have ell:t.list.length-1=t.list.tail.length:=Yy
 rw[el]at S5;have T5:=T1;have o5p:=o1.p;have lR:=o1.r;have z5:=z1;rw[ell]at S5⊢;have cK:∀b∈aq (.slice a5 t.list.tail.length (lc-1)),b∈aq (.slice la t.list.length lc)∨h.size<=b:=λb hb=>by
  have hb:b∈bG a5:=hb;rw[cY]at hb;exact .inl hb
 obtain⟨k5,Ke⟩:∃k5,k5=lc-1:=⟨_,Y⟩
 rw[<-Ke]at S5 cK⊢;have oZ:tb∉aq (.slice a5 t.list.tail.length k5):=λhm=>by
  rcases cK tb hm with h|h
  .exact cu.2.1 h
  .omega
 refine Ei _ (Ai T5 (Ai (by simp[bg]) (Ai Y (Ai (cM Y) ?_))));intro h6 p6;exact mg (show ai h6 tb (bg {t with list:=t.list.tail} pv (.slice a5 t.list.tail.length k5) rv)from p6.blk) (o5p.sl.ae p6.ae (by intro b hb;simp;rintro rfl;exact cu.1 hb)) (S5.ae p6.ae (by intro b hb;simp;rintro rfl;exact oZ hb)) (lR.sl.ae p6.ae (by intro b hb;simp;rintro rfl;exact cu.2.2 hb)) (yC cK) (z5.step p6.ae Yy)
def ahS{t:aB}{e:aA}(bz:e.op=10)(gd:fG t)(ax:t.list≠[]):kY 146 t e:=by
 have ed:bm t e=({t with list:=t.list.dropLast},0):=by unfold bm;simp[bz]
 intro h tb pv lv rv T0 o0 hn;rw[ed];have lens:=gd.lens;have lp:=lens.p;have ll:=lens.l;have lr:=lens.r;have cu:tb∉aq pv∧tb∉aq lv∧tb∉aq rv:=by simpa[bk]using hn
 have og:=T0.lt;refine f146.c ?_;intro b3 h1 g1;have c1:=g1.ae;have i3:=g1.id;have s1:=g1.size;have B31:ai h1 b3 (cf e):=g1.blk;have T1:=T0.ae c1 Yy;have o1:=o0.ext c1;have z1:ag (tb::bk pv lv rv) h h1:=((ag.refl h).mono Yy).step c1 Yy;have adB:0<t.list.length:=am8.2 ax;obtain⟨la,lc,rfl,_⟩:=o1.l.form;refine Ei _ (Ai (an T1 Y) (Ei _ (Ai (an T1 Y)<|Ai Y (λz hz=>?_))));have hz:=mG hz V V;have hz:z=((t.list.length-1:Nat):Int):=V
 subst hz;refine SL.slc (lo:=0) (hi:=t.list.length-1) bj o1.l.sl (ak8 _) V ?_;intro a5 cY S5;have el:(t.list.drop 0).take (t.list.length-1-0)=t.list.dropLast:=by
  rw[anj,ao0];simp
 have ell:t.list.length-1-0=t.list.dropLast.length:=Yy
 rw[el]at S5;have T5:=T1;have o5p:=o1.p;have lR:=o1.r;have z5:=z1;rw[ell]at S5⊢;have cK:∀b∈aq (.slice a5 t.list.dropLast.length (lc-0)),b∈aq (.slice la t.list.length lc)∨h.size<=b:=λb hb=>by
  have hb:b∈bG a5:=hb;rw[cY]at hb;exact .inl hb
 obtain⟨k5,Ke⟩:∃k5,k5=lc-0:=⟨_,Y⟩
 rw[<-Ke]at S5 cK⊢;have oZ:tb∉aq (.slice a5 t.list.dropLast.length k5):=λhm=>by
  rcases cK tb hm with h|h
  .exact cu.2.1 h
  .omega
 refine Ei _ (Ai T5 (Ai (by simp[bg]) (Ai Y (Ai (cM Y) ?_))));intro h6 p6;exact mg (show ai h6 tb (bg {t with list:=t.list.dropLast} pv (.slice a5 t.list.dropLast.length k5) rv)from p6.blk) (o5p.sl.ae p6.ae (by intro b hb;simp;rintro rfl;exact cu.1 hb)) (S5.ae p6.ae (by intro b hb;simp;rintro rfl;exact oZ hb)) (lR.sl.ae p6.ae (by intro b hb;simp;rintro rfl;exact cu.2.2 hb)) (yC cK) (z5.step p6.ae Yy)
def ME{α:Type}{enc:α->List Value}(l:List α)(n:Nat)(hn:n<l.length)(x:α)(rest:List Value):l.flatMap enc++rest=(l.take n).flatMap enc++(enc l[n]++((l.drop (n+1)).flatMap enc++rest))∧(l.set n x).flatMap enc++rest=(l.take n).flatMap enc++(enc x++((l.drop (n+1)).flatMap enc++rest)):=by
 have e:=Eb hn;constructor
 .have e2:l.flatMap enc=(l.take n++l[n]::l.drop (n+1)).flatMap enc:=alC (λq=>q.flatMap enc) e;rw[e2,anh,am9,alG,alG]
 .rw[aoe,ak4 hn];simp
def W1{t:aB}{e:aA}(bz:e.op=11)(gd:fG t):kY 147 t e:=by
 have ed:bm t e=(if 0<=e.num∧e.num<t.list.length then({t with list:=t.list.set e.num.toNat e.text},0)else(t,4)):=by unfold bm;simp[bz]
 intro h tb pv lv rv T0 o0 hn;rw[ed];have lens:=gd.lens;have lp:=lens.p;have ll:=lens.l;have lr:=lens.r;have cu:tb∉aq pv∧tb∉aq lv∧tb∉aq rv:=by simpa[bk]using hn
 have og:=T0.lt;refine f147.c ?_;intro b3 h1 g1;have c1:=g1.ae;have i3:=g1.id;have s1:=g1.size;have B31:ai h1 b3 (cf e):=g1.blk;have T1:=T0.ae c1 Yy;have o1:=o0.ext c1;have z1:ag (tb::bk pv lv rv) h h1:=((ag.refl h).mono Yy).step c1 Yy;have bad:¬(0<=e.num∧e.num<t.list.length)->yg (if 0<=e.num∧e.num<t.list.length then(({t with list:=t.list.set e.num.toNat e.text},0):aB×Int)else(t,4)).1 (if 0<=e.num∧e.num<t.list.length then(({t with list:=t.list.set e.num.toNat e.text},0):aB×Int)else(t,4)).2 tb pv lv rv h (.int .i64 4) h1:=by
  intro hb;rw[akZ hb];exact I7 (n:=4) Dd z1
 refine Ei _ (Ai (an B31 Y)<|Ai Y (Ai (λgz=>bad V) (λgz=>?_)));obtain⟨la,lc,rfl,_⟩:=o1.l.form;refine Ei _ (Ai (an B31 Y) (Ei _ (Ai (an T1 Y)<|Ai Y (Ai (λuR=>bad V) (λuR=>?_)))));have hin:0<=e.num∧e.num<t.list.length:=V
 rw[ak4 hin];obtain⟨n,fB⟩:∃n:Nat,e.num=n:=⟨e.num.toNat,V⟩
 have lL:n<t.list.length:=V
 have wZ:e.num.toNat=n:=V
 obtain⟨_,lM⟩:=o1.l.open;rcases lM with⟨_,e0,_⟩|⟨b,rfl,hle,rest,B,dD⟩
 .rw[e0]at lL;exact absurd lL Yy
 refine Ei _ (Ai (an T1 Y) (Ei _ (Ai (an B31 Y) (Ei _ (Ai (an B31 Y)<|Ai hin.1 (Ai hin.2 ?_))))));obtain⟨q1,q2⟩:=ME (enc:=encS) t.list n lL e.text rest;rw[q1]at B;refine Ei _ (Ai B (Ai ?_ (Ai Y (Ai (cM Y) ?_))))
 .rw[wZ,<-q1,dD];omega
 intro h5 p5;have zi:=pq bj t.list n V;have e5:splice ((t.list.take n).flatMap encS++(encS t.list[n]++((t.list.drop (n+1)).flatMap encS++rest))) (0+e.num.toNat*1) [.string e.text]=(t.list.set n e.text).flatMap encS++rest:=by
  rw[q2,wZ,show 0+n*1=((t.list.take n).flatMap encS).length by rw[zi];omega];exact vG _ _ _ _ Y
 have P5:dL h1 h5 b ((t.list.set n e.text).flatMap encS++rest):=by
  rw[<-e5];exact p5
 have O5:OL encS 1 h5 (.slice (some ⟨b,0,none⟩) t.list.length lc) (t.list.set n e.text):=by
  refine OL.mk (rest:=rest) Yy (by simp;exact hle) P5.blk ?_;rw[<-dD];simp only[ak1,kJ bj,anE]
 have c5:ag (aq (.slice (some ⟨b,0,none⟩) t.list.length lc)) h1 h5:=P5.ae;have T5:=T1.ae c5 cu.2.1;have o1p:=o1.p;have o1r:=o1.r;have o5p:=o1p.ae c5 (λb hb=>o0.pl b hb);have lR:=o1r.ae c5 (λb hb=>λhp=>o0.lr b hp hb);have z5:=z1.step c5 (λk hk _=>by simp only[bk,ak3,alf];exact .inr (.inr (.inl hk)));rw[wZ];exact mg (t':={t with list:=t.list.set n e.text}) (show ai h5 tb (bg {t with list:=t.list.set n e.text} _ _ _)from T5) o5p.sl O5.sl lR.sl EW z5
def WG{t:aB}{e:aA}(bz:e.op=12)(gd:fG t)(hk:t.kind=4):kY 148 t e:=by
 have ed:bm t e=({t with list:=cQ (λx=>decide (x=e.name)) (λx=>aP e.name x) e.name t.list false},0):=by unfold bm;simp[bz]
 intro h tb pv lv rv T0 o0 hn;rw[ed];have lens:=gd.lens;have lp:=lens.p;have ll:=lens.l;have lr:=lens.r;have cu:tb∉aq pv∧tb∉aq lv∧tb∉aq rv:=by simpa[bk]using hn
 have og:=T0.lt;refine f148.c ?_;intro b3 h1 g1;have c1:=g1.ae;have i3:=g1.id;have s1:=g1.size;have B31:ai h1 b3 (cf e):=g1.blk;have T1:=T0.ae c1 Yy;have o1:=o0.ext c1;have z1:ag (tb::bk pv lv rv) h h1:=((ag.refl h).mono Yy).step c1 Yy;have hs:=gd.ls hk;refine Ei _ (Ai (an T1 Y) (Ei _ (Ai (an B31 Y)<|akV (Ot e.name o1.l.sl V hs) ?_)));rintro _ h2 ⟨⟨k,rfl,hc⟩,c2⟩;have s2:=c2.size;have o2:=o1.ext c2;have T2:=T1.ae c2 Yy;have uq:=B31.ae c2 Yy;have z2:=z1.step c2 Yy;cases hf:(t.list[k]?).any λx=>decide (x=e.name)with
 |true=>
  obtain⟨aZ,qN,_⟩:=yK (nm:=λx=>x) hs hc hf;have ep:cQ (λx=>decide (x=e.name)) (λx=>aP e.name x) e.name t.list false=t.list:=by
   have h1:cQ (λx=>decide (x=e.name)) (λx=>aP e.name x) e.name t.list false=t.list.take k++e.name::t.list.drop (k+1):=Tt (nm:=λx=>x) hs hc hf;rw[h1];have:=Eb aZ;rw[show t.list[k]=e.name from qN]at this;exact this.symm
  rw[ep];exact mg (t':={t with list:=t.list}) (show ai h2 tb (bg {t with list:=t.list} pv lv rv)from T2) o2.p.sl o2.l.sl o2.r.sl EW z2
 |false=>
  have ep:cQ (λx=>decide (x=e.name)) (λx=>aP e.name x) e.name t.list false=t.list.take k++e.name::t.list.drop k:=Tr (nm:=λx=>x) hs hc hf;rw[ep];refine Ei _ (Ai (an T2 Y) (Ei _ (Ai (an uq Y) ?_)));intro b4 h3 g3;have c3:=g3.ae;have i4:=g3.id;have s3:=g3.size;have o3:=o2.ext c3;have T3:=T2.ae c3 Yy;have z3:=z2.step c3 Yy;have lb:=o2.l.lt;refine akV (Ri (x:=e.name) o3.l V hc.le g3.blk (λhb=>by have:=lb b4 hb;omega)) ?_;rintro r5 h5 ⟨O5,c5,cK⟩;have S5:=O5.sl;have T5:=T3.ae c5 cu.2.1;have o3p:=o3.p;have LP:=o3.r;have o5p:=o3p.ae c5 (λb hb=>o0.pl b hb);have lR:=LP.ae c5 (λb hb=>λhp=>o0.lr b hp hb);have z5:=z3.step c5 (λk hk _=>by simp[bk,hk]);have cK:∀b∈aq r5,b∈aq lv∨h.size<=b:=λb hb=>by
   rcases cK b hb with h|h
   .exact .inl h
   .exact .inr V
  obtain⟨a5,k5,rfl,_⟩:=S5.form;have oZ:tb∉aq (.slice a5 (t.list.take k++e.name::t.list.drop k).length k5):=λhm=>by
   rcases cK tb hm with h|h
   .exact cu.2.1 h
   .omega
  refine Ei _ (Ai T5 (Ai (by simp[bg]) (Ai Y (Ai (cM Y) ?_))));intro h6 p6;exact mg (show ai h6 tb (bg {t with list:=(t.list.take k++e.name::t.list.drop k)} pv (.slice a5 (t.list.take k++e.name::t.list.drop k).length k5) rv)from p6.blk) (o5p.sl.ae p6.ae (by intro b hb;simp;rintro rfl;exact cu.1 hb)) (S5.ae p6.ae (by intro b hb;simp;rintro rfl;exact oZ hb)) (lR.sl.ae p6.ae (by intro b hb;simp;rintro rfl;exact cu.2.2 hb)) (yC cK) (z5.step p6.ae Yy)
def afb{t:aB}{e:aA}(bz:e.op=13)(gd:fG t)(hk:t.kind=4):kY 149 t e:=by
 have ed:bm t e=({t with list:=dC (λx=>decide (x=e.name)) t.list},if t.list.any (λx=>decide (x=e.name))then 0 else 5):=by unfold bm;simp[bz]
 intro h tb pv lv rv T0 o0 hn;rw[ed];have lens:=gd.lens;have lp:=lens.p;have ll:=lens.l;have lr:=lens.r;have cu:tb∉aq pv∧tb∉aq lv∧tb∉aq rv:=by simpa[bk]using hn
 have og:=T0.lt;refine f149.c ?_;intro b3 h1 g1;have c1:=g1.ae;have i3:=g1.id;have s1:=g1.size;have B31:ai h1 b3 (cf e):=g1.blk;have T1:=T0.ae c1 Yy;have o1:=o0.ext c1;have z1:ag (tb::bk pv lv rv) h h1:=((ag.refl h).mono Yy).step c1 Yy;have hs:=gd.ls hk;refine Ei _ (Ai (an T1 Y) (Ei _ (Ai (an B31 Y)<|akV (Ot e.name o1.l.sl V hs) ?_)));rintro _ h2 ⟨⟨k,rfl,hc⟩,c2⟩;have s2:=c2.size;have o2:=o1.ext c2;have T2:=T1.ae c2 Yy;have z2:=z1.step c2 Yy;cases hf:(t.list[k]?).any λx=>decide (x=e.name)with
 |false=>
  have ea:=any_none (nm:=λx:BA=>x) hs hc hf;rw[akZ (by rw[ea];simp)];exact I7 Dd z2
 |true=>
  obtain⟨Jc,ea⟩:=amj (nm:=λx:BA=>x) hs hc hf;obtain⟨aZ,_⟩:=yK (nm:=λx:BA=>x) hs hc hf;rw[ak4 ea,Jc];refine Ei _ (Ai (an T2 Y)<|Ai Y (λz hz=>?_));have hz:=cd hz V V;have hz:z=((k+1:Nat):Int):=V
  subst hz;refine akV (Yj o2.l V aZ) ?_;rintro r5 h5 ⟨O5,c5,cK⟩;have S5:=O5.sl;have T5:=T2.ae c5 cu.2.1;have vr:=o2.p;have An:=o2.l;have xH:=o2.r;have o5p:=vr.ae c5 (λb hb=>o0.pl b hb);have lR:=xH.ae c5 (λb hb=>λhp=>o0.lr b hp hb);have z5:=z2.step c5 (λk hk _=>by simp[bk,hk]);have cK:∀b∈aq r5,b∈aq lv∨h.size<=b:=λb hb=>.inl (cK b hb);obtain⟨a5,k5,rfl,_⟩:=S5.form;have oZ:tb∉aq (.slice a5 (t.list.take k++t.list.drop (k+1)).length k5):=λhm=>by
   rcases cK tb hm with h|h
   .exact cu.2.1 h
   .omega
  refine Ei _ (Ai T5 (Ai (by simp[bg]) (Ai Y (Ai (cM Y) ?_))));intro h6 p6;exact mg (show ai h6 tb (bg {t with list:=(t.list.take k++t.list.drop (k+1))} pv (.slice a5 (t.list.take k++t.list.drop (k+1)).length k5) rv)from p6.blk) (o5p.sl.ae p6.ae (by intro b hb;simp;rintro rfl;exact cu.1 hb)) (S5.ae p6.ae (by intro b hb;simp;rintro rfl;exact oZ hb)) (lR.sl.ae p6.ae (by intro b hb;simp;rintro rfl;exact cu.2.2 hb)) (yC cK) (z5.step p6.ae Yy)
def ahN{t:aB}{e:aA}(bz:e.op=6)(gd:fG t):kY 141 t e:=by
 have ed:bm t e=({t with pairs:=dC (λx=>decide (x.name=e.name)) t.pairs},if t.pairs.any (λx=>decide (x.name=e.name))then 0 else 5):=by unfold bm;simp[bz]
 intro h tb pv lv rv T0 o0 hn;rw[ed];have lens:=gd.lens;have lp:=lens.p;have ll:=lens.l;have lr:=lens.r;have cu:tb∉aq pv∧tb∉aq lv∧tb∉aq rv:=by simpa[bk]using hn
 have og:=T0.lt;refine f141.c ?_;intro b3 h1 g1;have c1:=g1.ae;have i3:=g1.id;have s1:=g1.size;have B31:ai h1 b3 (cf e):=g1.blk;have T1:=T0.ae c1 Yy;have o1:=o0.ext c1;have z1:ag (tb::bk pv lv rv) h h1:=((ag.refl h).mono Yy).step c1 Yy;have hs:=gd.ps;refine Ei _ (Ai (an T1 Y) (Ei _ (Ai (an B31 Y)<|akV (Oq e.name o1.p.sl V hs) ?_)));rintro _ h2 ⟨⟨k,rfl,hc⟩,c2⟩;have s2:=c2.size;have o2:=o1.ext c2;have T2:=T1.ae c2 Yy;have z2:=z1.step c2 Yy;cases hf:(t.pairs[k]?).any λx=>decide (x.name=e.name)with
 |false=>
  have ea:=any_none (nm:=λx:bM=>x.name) hs hc hf;rw[akZ (by rw[ea];simp)];exact I7 Dd z2
 |true=>
  obtain⟨Jc,ea⟩:=amj (nm:=λx:bM=>x.name) hs hc hf;obtain⟨aZ,_⟩:=yK (nm:=λx:bM=>x.name) hs hc hf;rw[ak4 ea,Jc];refine Ei _ (Ai (an T2 Y)<|Ai Y (λz hz=>?_));have hz:=cd hz V V;have hz:z=((k+1:Nat):Int):=V
  subst hz;refine akV (Yh o2.p V aZ) ?_;rintro r5 h5 ⟨O5,c5,cK⟩;have S5:=O5.sl;have T5:=T2.ae c5 cu.1;have vr:=o2.p;have An:=o2.l;have xH:=o2.r;have LQ:=An.ae c5 (λb hb=>λhp=>o0.pl b hp hb);have lR:=xH.ae c5 (λb hb=>λhp=>o0.pr b hp hb);have z5:=z2.step c5 (λk hk _=>by simp[bk,hk]);have cK:∀b∈aq r5,b∈aq pv∨h.size<=b:=λb hb=>.inl (cK b hb);obtain⟨a5,k5,rfl,_⟩:=S5.form;have oZ:tb∉aq (.slice a5 (t.pairs.take k++t.pairs.drop (k+1)).length k5):=λhm=>by
   rcases cK tb hm with h|h
   .exact cu.1 h
   .omega
  refine Ei _ (Ai T5 (Ai (by simp[bg]) (Ai Y (Ai (cM Y) ?_))));intro h6 p6;exact mg (show ai h6 tb (bg {t with pairs:=(t.pairs.take k++t.pairs.drop (k+1))} (.slice a5 (t.pairs.take k++t.pairs.drop (k+1)).length k5) lv rv)from p6.blk) (S5.ae p6.ae (by intro b hb;simp;rintro rfl;exact oZ hb)) (LQ.sl.ae p6.ae (by intro b hb;simp;rintro rfl;exact cu.2.1 hb)) (lR.sl.ae p6.ae (by intro b hb;simp;rintro rfl;exact cu.2.2 hb)) (Oi cK) (z5.step p6.ae Yy)
def P3{t:aB}{e:aA}{h2:af}{k:Nat}{pv:Value}{L:List bM}(cu:tb∉aq dQ∧tb∉aq lv∧tb∉aq rv)(T:ai h2 tb (bg {t with pairs:=L} dQ lv rv))(B3:ai h2 b3 (cf e))(O:OL aX 2 h2 dQ L)(hk:k<L.length)(f':L[k].name=e.name)(sl:SL encS h2 lv t.list)(sr:SL aK h2 rv t.ranks)(hl:∀b∈aq dQ,b∉aq lv)(hr:∀b∈aq dQ,b∉aq rv)(hb:∀b∈aq dQ,b∈aq pv∨h.size<=b)(c:ag (tb::bk pv lv rv) h h2)(_:h.size<=h2.size):swp Tryz.prog f140.sc.r.r.r (cC [.t 4] (ao (yg {t with pairs:=L.set k ⟨e.name,e.text⟩} 0 tb pv lv rv h))) (mk [(0,ptr tb),(3,ptr b3),(5,.int .i64 k)]) [] h2:=by
 obtain⟨la,lc,rfl,_⟩:=O.form;obtain⟨_,lM⟩:=O.open;rcases lM with⟨_,e0,_⟩|⟨b,rfl,hle,rest,B,dD⟩
 .subst e0;exact absurd hk Yy
 refine Ei _ (Ai (an T Y) (Ei _ (Ai (an B3 Y)<|Ai V (Ai V ?_))));obtain⟨q1,q2⟩:=ME (enc:=aX) L k hk ⟨e.name,e.text⟩ rest;have zi:=pq du L k V;have q1':L.flatMap aX++rest=((L.take k).flatMap aX++[.string e.name])++([.string L[k].text]++((L.drop (k+1)).flatMap aX++rest)):=by
  rw[q1];simp[aX,f']
 have q2':(L.set k ⟨e.name,e.text⟩).flatMap aX++rest=((L.take k).flatMap aX++[.string e.name])++([.string e.text]++((L.drop (k+1)).flatMap aX++rest)):=by
  rw[q2];simp[aX]
 refine Ei _ (Ai B (Ai ?_ (Ai Y (Ai (cM Y) ?_))))
 .rw[dD];omega
 intro h5 p5;have e5:splice (L.flatMap aX++rest) (0+(k:Int).toNat*2+1) [.string e.text]=(L.set k ⟨e.name,e.text⟩).flatMap aX++rest:=by
  rw[q2',q1',show 0+(k:Int).toNat*2+1=((L.take k).flatMap aX++[Value.string e.name]).length by rw[ak1,zi];simp];exact vG _ _ _ _ Y
 have P5:dL h2 h5 b ((L.set k ⟨e.name,e.text⟩).flatMap aX++rest):=by
  rw[<-e5];exact p5
 have O5:OL aX 2 h5 (.slice (some ⟨b,0,none⟩) L.length lc) (L.set k ⟨e.name,e.text⟩):=by
  refine OL.mk (rest:=rest) Yy (by simp;exact hle) P5.blk ?_;rw[<-dD];simp only[ak1,kJ du,anE]
 have c5:ag (aq (.slice (some ⟨b,0,none⟩) L.length lc)) h2 h5:=P5.ae;refine mg (t':={t with pairs:=L.set k ⟨e.name,e.text⟩}) (show ai h5 tb (bg {t with pairs:=L.set k ⟨e.name,e.text⟩} _ _ _)from T.ae c5 cu.1) O5.sl (sl.ae c5 λx hx hp=>hl x hp hx) (sr.ae c5 λx hx hp=>hr x hp hx) (Oi hb) (c.step c5 λx hx ah=>?_);rcases hb x hx with h|h
 .simp[bk,h]
 .omega
def abG{t:aB}{e:aA}(bz:e.op=5)(gd:fG t):kY 140 t e:=by
 have ed:bm t e=({t with pairs:=cQ (λx=>decide (x.name=e.name)) (λx=>aP e.name x.name) ⟨e.name,e.text⟩ t.pairs false},0):=by unfold bm;simp[bz]
 intro h tb pv lv rv T0 o0 hn;rw[ed];have lens:=gd.lens;have lp:=lens.p;have ll:=lens.l;have lr:=lens.r;have cu:tb∉aq pv∧tb∉aq lv∧tb∉aq rv:=by simpa[bk]using hn
 have og:=T0.lt;refine f140.c ?_;intro b3 h1 g1;have c1:=g1.ae;have i3:=g1.id;have s1:=g1.size;have B31:ai h1 b3 (cf e):=g1.blk;have T1:=T0.ae c1 Yy;have o1:=o0.ext c1;have z1:ag (tb::bk pv lv rv) h h1:=((ag.refl h).mono Yy).step c1 Yy;have hs:=gd.ps;refine Ei _ (Ai (an T1 Y) (Ei _ (Ai (an B31 Y)<|akV (Oq e.name o1.p.sl V hs) ?_)));rintro _ h2 ⟨⟨k,rfl,hc⟩,c2⟩;have s2:=c2.size;have o2:=o1.ext c2;have T2:=T1.ae c2 Yy;have uq:=B31.ae c2 Yy;have z2:=z1.step c2 Yy;cases hf:(t.pairs[k]?).any λx=>decide (x.name=e.name)with
 |true=>
  obtain⟨aZ,qN,_⟩:=yK (nm:=λx:bM=>x.name) hs hc hf;have ep:cQ (λx=>decide (x.name=e.name)) (λx=>aP e.name x.name) ⟨e.name,e.text⟩ t.pairs false=t.pairs.set k ⟨e.name,e.text⟩:=by
   have h1:=Tt (nm:=λx:bM=>x.name) (y:=(⟨e.name,e.text⟩:bM)) hs hc hf;rw[h1,aoe,ak4 aZ]
  rw[ep];exact Ef<|aW [(0,ptr tb),(3,ptr b3),(5,.int .i64 k)] J3 (P3 (pv:=pv) cu T2 uq o2.p aZ qN o2.l.sl o2.r.sl o0.pl o0.pr (λb hb=>.inl hb) z2 V)
 |false=>
  have ep:=Tr (nm:=λx:bM=>x.name) (y:=(⟨e.name,e.text⟩:bM)) hs hc hf;rw[ep];refine Ei _ (Ai (an T2 Y) (Ei _ (Ai (an uq Y) ?_)));intro b4 h3 g3;have c3:=g3.ae;have i4:=g3.id;have s3:=g3.size;have o3:=o2.ext c3;have T3:=T2.ae c3 Yy;have z3:=z2.step c3 Yy;have lb:=o2.p.lt;have B4:ai h3 b4 (aX ⟨e.name,au⟩):=g3.blk;refine akV (acU (x:=⟨e.name,au⟩) o3.p V hc.le B4 (λhb=>by have:=lb b4 hb;omega)) ?_;rintro r5 h5 ⟨O5,c5,cK⟩;have oQ:∀b∈aq r5,b∉aq lv:=λb hb hx=>by
   rcases cK b hb with h|h
   .exact o0.pl b h hx
   .have:=o0.l.lt b hx;omega
  have C9:∀b∈aq r5,b∉aq rv:=λb hb hx=>by
   rcases cK b hb with h|h
   .exact o0.pr b h hx
   .have:=o0.r.lt b hx;omega
  obtain⟨a5,k5,rfl,_⟩:=O5.form;have T5:=T3.ae c5 cu.1;have VU:=(uq.ae c3 Yy).ae c5 (λhx=>by have:=o0.p.lt b3 hx;omega);have o3l:=o3.l;have LP:=o3.r;have LQ:=o3l.ae c5 (λb hb=>λhp=>o0.pl b hp hb);have lR:=LP.ae c5 (λb hb=>λhp=>o0.pr b hp hb);have z5:=z3.step c5 (λk hk _=>by simp[bk,hk]);have s5:=c5.size;have n5:tb∉aq (.slice a5 (t.pairs.take k++⟨e.name,au⟩::t.pairs.drop k).length k5):=λhm=>by
   rcases cK tb hm with h|h
   .exact cu.1 h
   .omega
  refine Ei _ (Ai T5 (Ai (by simp[bg]) (Ai Y (Ai (cM Y) ?_))));intro h6 p6;have aZ:k<(t.pairs.take k++(⟨e.name,au⟩:bM)::t.pairs.drop k).length:=by have:=hc.le;simp;omega
  have Vs:(t.pairs.take k).length=k:=by have:=hc.le;simp;omega
  have qN:(t.pairs.take k++(⟨e.name,au⟩:bM)::t.pairs.drop k)[k].name=e.name:=by
   rw[an2 V];simp[Vs]
  have es:(t.pairs.take k++(⟨e.name,au⟩:bM)::t.pairs.drop k).set k ⟨e.name,e.text⟩=t.pairs.take k++⟨e.name,e.text⟩::t.pairs.drop k:=by
   rw[List.set_append_right _ _ V];simp[Vs]
  rw[<-es];refine aW [(0,ptr tb),(3,ptr b3),(5,.int .i64 k)] J3 (P3 (pv:=pv) ⟨n5,cu.2⟩ (show ai h6 tb (bg {t with pairs:=_} _ _ _)from p6.blk) (VU.ae p6.ae Ys) (O5.ae p6.ae (by intro b hb;simp;rintro rfl;exact n5 hb)) aZ qN
   (LQ.sl.ae p6.ae (by intro b hb;simp;rintro rfl;exact cu.2.1 hb)) (lR.sl.ae p6.ae (by intro b hb;simp;rintro rfl;exact cu.2.2 hb)) oQ C9 (λb hb=>?_) (z5.step p6.ae Yy) (by have:=p6.size;omega))
  rcases cK b hb with h|h
  .exact .inl h
  .exact .inr V
def ahP(x:aF)(e:aA)(B3:ai h b3 (cf e)):aj Tryz.prog 227 [.agg ⟨aK x⟩,ptr b3] h (ao λu h'=>u=.bool (decide (x.name=e.name))∧ag [] h h'):=by
 refine f227.c ?_;intro b2 h1 g1;have B2:ai h1 b2 (aK x):=g1.blk;refine Ei _ (Ai (an B2 Y) (Ei _ (Ai (an (B3.ae g1.ae Yy) Y)<|Ai (λhq=>?_) (λhq=>?_))))
 .exact Ai (by rw[ale hq];rfl) g1.ae
 .exact Ai (by rw[alg hq];rfl) g1.ae
def Vy{t:aB}(e:aA){pv:Value}(gd:fG t)(T0:ai h tb (bg t pv lv rv))(o0:TO h pv lv rv t)(hn:tb∉bk pv lv rv):aj Tryz.prog 151 [ptr tb,.agg ⟨cf e⟩] h (ao λr h'=>r=.int .i64 (if t.ranks.any (λx=>decide (x.name=e.name))then 0 else 5)∧
   ∃dV,ai h' tb (bg {t with ranks:=dC (λx=>decide (x.name=e.name)) t.ranks} pv lv dV)∧OL aK 2 h' dV (dC (λx=>decide (x.name=e.name)) t.ranks)∧(∀b∈aq dV,b∈aq rv)∧ag (tb::aq rv) h h'):=by
 have lens:=gd.lens;have lr:=lens.r;have cu:tb∉aq pv∧tb∉aq lv∧tb∉aq rv:=by simpa[bk]using hn
 have og:=T0.lt;refine f151.c ?_;intro b3 h1 g1;have c1:=g1.ae;have B31:ai h1 b3 (cf e):=g1.blk;have T1:=T0.ae c1 Yy;have o1:=o0.ext c1;have z1:ag (tb::aq rv) h h1:=((ag.refl h).mono Yy).step c1 Yy;refine Ei _ (Ai (an T1 Y)<|akV (ac4 (g:=227) (cap:=[ptr b3]) (p:=λx=>decide (x.name=e.name)) o1.r.sl V λh' x hc=>ahP x e (B31.ae hc Yy)) ?_);rintro r2 h2 ⟨cJ,c2⟩;have o2:=o1.ext c2;have T2:=T1.ae c2 Yy;have z2:=z1.step c2 Yy;rcases cJ with⟨k,hk,rfl,hp⟩|⟨rfl,bD⟩
 rotate_left
 .refine Ai Y (Ai (λ_=>?_) (λhx=>absurd (show(-1:Int)<0 by decide) hx));have ea:t.ranks.any (λx=>decide (x.name=e.name))=false:=aoC.2 λx hx=>by rw[bD x hx];simp
  have ed:dC (λx:aF=>decide (x.name=e.name)) t.ranks=t.ranks:=Fw bD;rw[ea,ed];exact Ai Y (Ei rv (Ai T2 (Ai o2.r (Ai (λ_ h=>h) z2))))
 refine Ai Y (Ai (λhx=>absurd hx V) (λ_=>?_));have qN:t.ranks[k].name=e.name:=by simpa using hp
 have ea:t.ranks.any (λx=>decide (x.name=e.name))=true:=aog.2 ⟨_,ak9 hk,hp⟩;have ed:=Yl gd.once hk qN;rw[ea,ed];refine Ei _ (Ai (an T2 Y)<|Ai Y (λz hz=>?_));have hz:=cd hz V V;have hz:z=((k+1:Nat):Int):=V
 subst hz;refine akV (Yi o2.r V hk) ?_;rintro r5 h5 ⟨O5,c5,cK⟩;have n5:tb∉aq r5:=λhx=>cu.2.2 (cK tb hx);obtain⟨a5,k5,rfl,_⟩:=O5.form;have T5:=T2.ae c5 cu.2.2;refine Ei _ (Ai T5 (Ai (by simp[bg]) (Ai Y (Ai (cM Y) ?_))));intro h6 p6;have z5:=z2.step c5 (λk hk _=>by simp[hk]);exact Ai Y (Ei _ (Ai (show ai h6 tb (bg {t with ranks:=_} _ _ _)from p6.blk) (Ai (O5.ae p6.ae (by intro b hb;simp;rintro rfl;exact n5 hb)) (Ai cK (z5.step p6.ae Yy)))))
def ahQ{t:aB}{e:aA}(bz:e.op=15)(gd:fG t):kY 151 t e:=by
 have ed:bm t e=({t with ranks:=dC (λx=>decide (x.name=e.name)) t.ranks},if t.ranks.any (λx=>decide (x.name=e.name))then 0 else 5):=by unfold bm;simp[bz]
 intro h tb pv lv rv T0 o0 hn;rw[ed];have cu:tb∉aq pv∧tb∉aq lv∧tb∉aq rv:=by simpa[bk]using hn
 refine(Vy e gd T0 o0 hn).mono λen h' he=>?_;cases en with
 |returned v=>
  obtain⟨hv,dV,B,O,hb,c⟩:=he;have c':ag (tb::bk pv lv rv) h h':=c.mono (by intro k hk;simp only[ak3,bk,alf]at hk⊢;rcases hk with h|h;exact .inl h;exact .inr (.inr (.inr h)));refine⟨hv,λ_=>?_,c'⟩;have Kv:∀b∈aq pv,b∉tb::aq rv:=λb hb=>by simp only[ak3,anH];exact⟨by rintro rfl;exact cu.1 hb,o0.pr b hb⟩
  have di:∀b∈aq lv,b∉tb::aq rv:=λb hb=>by simp only[ak3,anH];exact⟨by rintro rfl;exact cu.2.1 hb,o0.lr b hb⟩
  exact(mg (t':={t with ranks:=dC (λx=>decide (x.name=e.name)) t.ranks}) B (o0.p.sl.ae c Kv) (o0.l.sl.ae c di) O.sl (Oj λb bh=>.inl (hb b bh)) c').2.1 Y
 |panicked ch=>exact he.elim
 |outgrown=>exact he.elim
def fG.ahR{t:aB}(gd:fG t)(name:BA):((dC (λx:aF=>decide (x.name=name)) t.ranks).map aF.name).Nodup∧(dC (λx:aF=>decide (x.name=name)) t.ranks).Pairwise (λa b=>cS a b=true)∧(dC (λx:aF=>decide (x.name=name)) t.ranks).length<=t.ranks.length∧∀x∈dC (λx:aF=>decide (x.name=name)) t.ranks,x.name≠name:=by
 refine⟨?_,gd.rs.filter _,amR _ _,λx hx=>?_⟩
 .exact aoy (aoL _ aor) gd.once
 .have:=(amb.1 hx).2;simpa using this
def aeZ{t:aB}{e:aA}(bz:e.op=14)(gd:fG t):kY 150 t e:=by
 have ed:bm t e=({t with ranks:=cQ (λx=>decide (x.name=e.name)) (λx=>cS ⟨e.name,e.num⟩ x) ⟨e.name,e.num⟩ t.ranks false},0):=by unfold bm;simp[bz]
 intro h tb pv lv rv T0 o0 hn;rw[ed];have lens:=gd.lens;have lr:=lens.r;have cu:tb∉aq pv∧tb∉aq lv∧tb∉aq rv:=by simpa[bk]using hn
 have og:=T0.lt;refine f150.c ?_;intro b3 h1 g1;have c1:=g1.ae;have i3:=g1.id;have s1:=g1.size;have B31:ai h1 b3 (cf e):=g1.blk;have T1:=T0.ae c1 Yy;have o1:=o0.ext c1;have z1:ag (tb::bk pv lv rv) h h1:=((ag.refl h).mono Yy).step c1 Yy;refine Ei (cf e) (Ai Y (Ai (akW B31)<|akV (Vy e gd T1 o1 hn) ?_));rintro r2 h2 ⟨cJ,AF,T2,O2,eL,c2⟩;obtain⟨un,up,ul,unn⟩:=gd.ahR e.name;generalize hL:dC (λx:aF=>decide (x.name=e.name)) t.ranks=L at*;have Kv:∀b∈aq pv,b∉tb::aq rv:=λb hb=>by simp only[ak3,anH];exact⟨by rintro rfl;exact cu.1 hb,o0.pr b hb⟩
 have di:∀b∈aq lv,b∉tb::aq rv:=λb hb=>by simp only[ak3,anH];exact⟨by rintro rfl;exact cu.2.1 hb,o0.lr b hb⟩
 have vr:=o1.p.ae c2 Kv;have An:=o1.l.ae c2 di;have uq:=B31.ae c2 (by simp only[ak3,anH];exact⟨V,λhx=>by have:=o0.r.lt b3 hx;omega⟩);have z2:=z1.step c2 (by intro k hk _;simp only[ak3,bk,alf]at hk⊢;rcases hk with h|h;exact .inl h;exact .inr (.inr (.inr h)));have s2:=c2.size;refine Ei _ (Ai (an uq Y) (Ei _ (Ai (an uq Y) ?_)));intro b5 h3 g3;refine Ei _ (Ai g3.blk (Ai Dd (Ai Y (Ai (ly ⟨e.name,e.num⟩) ?_))));intro h4 p4;have g4:=g3.put p4;have B5:ai h4 b5 (aK ⟨e.name,e.num⟩):=p4.blk;have c4:=g4.ae;have s4:=g4.size;have T4:=T2.ae c4 Yy;have O4:=O2.ae c4 Yy;have z4:=z2.step c4 Yy;refine Ei _ (Ai (an T4 Y)<|Ei (aK ⟨e.name,e.num⟩) (Ai Y (Ai (akW B5)<|akV (Xp (g:=39) (cap:=[]) (tgt:=⟨e.name,e.num⟩) (lo:=λx=>cS x ⟨e.name,e.num⟩) O4.sl V ?_ ?_) ?_)))
 .intro h' x hc;exact N4 h' x ⟨e.name,e.num⟩ hc
 .intro i j hj hi jE;rcases aow hi with ah|rfl
  .exact EO _ _ _ (am5.1 up i j V hj ah) jE
  .exact jE
 rintro _ h5 ⟨⟨k,f,rfl,hc⟩,c5⟩;have ep:cQ (λx=>decide (x.name=e.name)) (λx=>cS ⟨e.name,e.num⟩ x) ⟨e.name,e.num⟩ t.ranks false=L.take k++⟨e.name,e.num⟩::L.drop k:=by
  have h1:=aeT (y:=⟨e.name,e.num⟩) unn hc;rw[<-h1,<-hL,Tk]
 rw[ep];have T5:=T4.ae c5 Yy;have O5:=O4.ae c5 Yy;have z5:=z4.step c5 Yy;have VY:=B5.ae c5 Yy;have s5:=c5.size;refine Ei _ (Ai (an T5 Y)<|Ei (aK ⟨e.name,e.num⟩) (Ai Y (Ai (akW VY) ?_)));intro b6 h6 g6;have B6:ai h6 b6 (aK ⟨e.name,e.num⟩):=g6.blk;have c6:=g6.ae;have i6:=g6.id;have s6:=g6.size;have T6:=T5.ae c6 Yy;have O6:=O5.ae c6 Yy;have z6:=z5.step c6 Yy;have lb:=O5.lt;refine akV (acV (x:=⟨e.name,e.num⟩) O6 V hc.le B6 (λhb=>by have:=lb b6 hb;omega)) ?_;rintro r7 h7 ⟨O7,c7,Cp⟩;have P8:∀b∈aq r7,b∈aq rv∨h.size<=b:=λb hb=>by
  rcases Cp b hb with h|h
  .exact .inl (eL b h)
  .exact .inr V
 have n7:tb∉aq r7:=λhm=>by
  rcases P8 tb hm with h|h
  .exact cu.2.2 h
  .omega
 have Oy:∀b,b<h.size->b∉aq rv->b∉aq AF:=λb _ hb hx=>hb (eL b hx);obtain⟨a7,k7,rfl,_⟩:=O7.form;have T7:=T6.ae c7 (λhx=>cu.2.2 (eL tb hx));have o7p:=(((vr.ae c4 Yy).ae c5 Yy).ae c6 Yy).ae c7 (λb hb hx=>o0.pr b hb (eL b hx));have o7l:=(((An.ae c4 Yy).ae c5 Yy).ae c6 Yy).ae c7 (λb hb hx=>o0.lr b hb (eL b hx));have z7:=z6.step c7 (λk hk _=>by simp only[ak3,bk,alf];exact .inr (.inr (.inr (eL k hk))));refine Ei _ (Ai T7 (Ai (by simp[bg]) (Ai Y (Ai (cM Y) ?_))));intro h8 p8;exact mg (t':={t with ranks:=L.take k++⟨e.name,e.num⟩::L.drop k}) (show ai h8 tb (bg {t with ranks:=_} _ _ _)from p8.blk) (o7p.sl.ae p8.ae (by intro b hb;simp;rintro rfl;exact cu.1 hb)) (o7l.sl.ae p8.ae (by intro b hb;simp;rintro rfl;exact cu.2.1 hb))
  (O7.sl.ae p8.ae (by intro b hb;simp;rintro rfl;exact n7 hb)) (Oj P8) (z7.step p8.ae Yy)
end Go.Proofs.YtocgmipngoiieaaGreatDoor
