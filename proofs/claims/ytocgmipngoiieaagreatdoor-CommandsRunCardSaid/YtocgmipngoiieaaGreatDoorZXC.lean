/-
  Part 3 of the proof of CommandsRun.
-/
import Derived.Test.YtocgmipngoiieaaGreatDoorProg
import Derived.Shelf.Strconv.ParseIntPublic10
import Derived.Shelf.Strconv.Itoa4
import Derived.Lib.ParseIntB
import Derived.Lib.ItoaNum
import Derived.Test.YtocgmipngoiieaaGreatDoorZXB
set_option linter.defProp false
set_option linter.unusedVariables false
set_option linter.unusedSimpArgs false
namespace Go.Proofs.YtocgmipngoiieaaGreatDoor
open Go Go.Sx C
structure ib where
 name:Bool
 text:Bool
 number:Bool
 kind:Int
 makes:Bool
 f:Nat
def ib.val(r:ib):Value:=lU r.name r.text r.number r.kind r.makes r.f
def fD(op:Int):Option ib:=
 if op=1 then some ⟨false,false,false,0,false,136⟩else
 if op=2 then some ⟨false,true,false,0,true,137⟩else
 if op=3 then some ⟨false,false,true,0,false,138⟩else
 if op=4 then some ⟨false,false,false,0,false,139⟩else
 if op=5 then some ⟨true,true,false,2,true,140⟩else
 if op=6 then some ⟨true,false,false,2,false,141⟩else
 if op=7 then some ⟨false,true,false,3,true,142⟩else
 if op=8 then some ⟨false,true,false,3,true,144⟩else
 if op=9 then some ⟨false,false,false,3,false,145⟩else
 if op=10 then some ⟨false,false,false,3,false,146⟩else
 if op=11 then some ⟨false,true,true,3,false,147⟩else
 if op=12 then some ⟨true,false,false,4,true,148⟩else
 if op=13 then some ⟨true,false,false,4,false,149⟩else
 if op=14 then some ⟨true,false,true,5,true,150⟩else
 if op=15 then some ⟨true,false,false,5,false,151⟩else none
def Ux(op:Int):(fD op=none∧bH (.int .i64 op) (ec dq 0) 0=none)∨∃r i,fD op=some r∧bH (.int .i64 op) (ec dq 0) 0=some (i,r.val):=by
 by_cases h1:op=1; · subst h1;exact .inr ⟨_,_,Y,Y⟩
 by_cases h2:op=2; · subst h2;exact .inr ⟨_,_,Y,Y⟩
 by_cases h3:op=3; · subst h3;exact .inr ⟨_,_,Y,Y⟩
 by_cases h4:op=4; · subst h4;exact .inr ⟨_,_,Y,Y⟩
 by_cases h5:op=5; · subst h5;exact .inr ⟨_,_,Y,Y⟩
 by_cases h6:op=6; · subst h6;exact .inr ⟨_,_,Y,Y⟩
 by_cases h7:op=7; · subst h7;exact .inr ⟨_,_,Y,Y⟩
 by_cases h8:op=8; · subst h8;exact .inr ⟨_,_,Y,Y⟩
 by_cases h9:op=9; · subst h9;exact .inr ⟨_,_,Y,Y⟩
 by_cases bp:op=10; · subst bp;exact .inr ⟨_,_,Y,Y⟩
 by_cases dO:op=11; · subst dO;exact .inr ⟨_,_,Y,Y⟩
 by_cases cO:op=12; · subst cO;exact .inr ⟨_,_,Y,Y⟩
 by_cases dn:op=13; · subst dn;exact .inr ⟨_,_,Y,Y⟩
 by_cases dJ:op=14; · subst dJ;exact .inr ⟨_,_,Y,Y⟩
 by_cases jW:op=15; · subst jW;exact .inr ⟨_,_,Y,Y⟩
 refine .inl ⟨by unfold fD;simp[h1,h2,h3,h4,h5,h6,h7,h8,h9,bp,dO,cO,dn,dJ,jW],lQ op dq 0 0 λx hx=>?_⟩;simp only[dq,ak3,amU,anF]at hx;rcases hx with rfl|rfl|rfl|rfl|rfl|rfl|rfl|rfl|rfl|rfl|rfl|rfl|rfl|rfl|rfl
 all_goals intro e;simp only at e;omega
inductive oz where
 |no (n:Int)
 |drop
 |put (t:aB)
def d'(r:aB×Int)(there full:Bool):oz:=
 if r.2≠0 then .no r.2 else if r.1.kind≠1∧dX r.1=0 then .drop else if 65536<dX r.1∨(there=false∧full=true)then .no 3 else .put r.1
def iq(old:Option aB)(e:aA)(full:Bool):oz:=
 match fD e.op with
 |none=>.no 2
 |some r=>
  if(r.name=false∧e.name≠au)∨(r.text=false∧e.text≠au)∨(r.number=false∧e.num≠0)then .no 2 else
  if 1048576<e.key.size∨1048576<e.name.size∨1048576<e.text.size then .no 3 else
  match old with
  |none=>if r.makes=false then .no 5 else d' (bm {aL with kind:=r.kind} e) false full
  |some t=>if r.kind≠0∧t.kind≠r.kind then .no 170 else d' (bm t e) true full
abbrev aH:=List (BA×aB)
def eu(S:aH)(key:BA):Option aB:=(S.find? λp=>decide (p.1=key)).map (·.2)
def BU(S:aH)(key:BA):aH:=S.filter λp=>!decide (p.1=key)
def Av(S:aH)(key:BA)(t:aB):aH:=S.filter (λp=>aP p.1 key)++(key,t)::S.filter (λp=>aP key p.1)
def oz.num:oz->Int
 |.no n=>n
 |_=>0
def oz.space(S:aH)(key:BA):oz->aH
 |.no _=>S
 |.drop=>BU S key
 |.put t=>Av S key t
def dy(S:aH)(e:aA):oz:=iq (eu S e.key) e (decide (65536<=S.length))
def eK:aH->List aA->aH×Nat×Int
 |S,[]=>(S,0,0)
 |S,e::d=>if(dy S e).num=0 then let r:=eK ((dy S e).space S e.key) d;(r.1,r.2.1+1,r.2.2)else(S,0,(dy S e).num)
def pB(S:aH):Prop:=S.Pairwise λa b=>aP a.1 b.1=true
def zZ{S:aH}{key:BA}{t:aB}{p:BA×aB}:p∈Av S key t↔p=(key,t)∨(p∈S∧p.1≠key):=by
 unfold Av;rw[alf,ak3,amb,amb];constructor
 .rintro(⟨h1,h2⟩|h|⟨h1,h2⟩)
  .exact .inr ⟨h1,sq (by simpa using h2)⟩
  .exact .inl h
  .exact .inr ⟨h1,λe=>sq (by simpa using h2) e.symm⟩
 .rintro(h|⟨h1,h2⟩)
  .exact .inr (.inl h)
  .rcases Hz h2 with h|h
   .exact .inl ⟨h1,by simpa using h⟩
   .exact .inr (.inr ⟨h1,by simpa using h⟩)
def VC{S:aH}{key:BA}{t:aB}(hu:pB S):pB (Av S key t):=by
 unfold Av pB;rw[anb,amd];refine⟨hu.filter _,⟨λp hp=>?_,hu.filter _⟩,λp hp q hq=>?_⟩
 .have:=(amb.1 hp).2;simpa using this
 .have h1:aP p.1 key=true:=by simpa using(amb.1 hp).2
  rcases ak3.1 hq with rfl|hq
  .exact h1
  .have h2:aP key q.1=true:=by simpa using(amb.1 hq).2
   exact mF h1 h2
def xA{S:aH}{key:BA}{p:BA×aB}:p∈BU S key↔p∈S∧p.1≠key:=by
 unfold BU;rw[amb];simp
def VB{S:aH}{key:BA}(hu:pB S):pB (BU S key):=hu.filter _
def ahW{S:aH}{key:BA}(f:oz)(hu:pB S):pB (f.space S key):=by
 cases f with
 |no n=>exact hu
 |drop=>exact VB hu
 |put t=>exact VC hu
def ahU{S:aH}(hu:pB S){p q:BA×aB}(hp:p∈S)(hq:q∈S)(h:p.1=q.1):p=q:=by
 induction S with
 |nil=>simp at hp
 |cons x S ih=>
  have hx:=amd.1 hu;rcases ak3.1 hp with e1|hp
  .rcases ak3.1 hq with e2|hq
   .rw[e1,e2]
   .have:=hx.1 q hq;rw[<-e1,h,qj]at this;cases this
  .rcases ak3.1 hq with e2|hq
   .have:=hx.1 p hp;rw[<-e2,h,qj]at this;cases this
   .exact ih hx.2 hp hq
def Jh{S:aH}(hu:pB S){key:BA}{t:aB}(h:(key,t)∈S):eu S key=some t:=by
 unfold eu;cases hf:S.find? λp=>decide (p.1=key)with
 |none=>
  have:=anA.1 hf _ h;simp at this
 |some p=>
  have h1:=List.find?_some hf;have h2:=am6 hf;have:p=(key,t):=ahU hu h2 h (by simpa using h1);rw[this];rfl
def aan{S:aH}{key:BA}(h:∀p∈S,p.1≠key):eu S key=none:=by
 unfold eu;rw[anA.2 λp hp=>by simpa using h p hp];rfl
def uL{S:aH}{key:BA}{t:aB}(h:eu S key=some t):(key,t)∈S:=by
 unfold eu at h;cases hf:S.find? λp=>decide (p.1=key)with
 |none=>rw[hf]at h;cases h
 |some p=>
  rw[hf]at h;have h1:p.1=key:=by simpa using List.find?_some hf
  have h2:=am6 hf;have h3:p.2=t:=by simpa using h
  rw[<-h1,<-h3];exact h2
def fG.zero(k:Int):fG {aL with kind:=k}:=
 ⟨List.Pairwise.nil,λ_=>List.Pairwise.nil,List.Pairwise.nil,ank,λ_=>⟨Y,Y⟩,by show(0:Nat)+0+0<=65536;omega⟩
structure rF (t:aB):Prop where
 good:fG t
 some:t.kind=3->t.list≠[]
def ED(t:aB)(e:aA):Prop:=∀r,fD e.op=some r->r.kind≠0->t.kind=r.kind
def Sz{y:aF}:∀{l:List aF},(l.map aF.name).Nodup->((cQ (λx=>decide (x.name=y.name)) (λx=>cS y x) y l false).map aF.name).Nodup
 |[],_=>by simp[cQ]
 |x::l,h=>by
  rw[alR,amc]at h;have ih:=Sz (y:=y) h.2;have dF:∀{d:Bool}{m:List aF}{z:aF},z∈cQ (λx=>decide (x.name=y.name)) (λx=>cS y x) y m d->z=y∨(z∈m∧z.name≠y.name):=by
   intro d m z hz;rcases q8 hz with h|⟨h1,h2⟩
   .exact .inl h
   .exact .inr ⟨h1,by simpa using h2⟩
  simp only[cQ];by_cases he:x.name=y.name
  .rw[ak4 (by simpa using he)];exact ih
  .rw[akZ (by simpa using he)];split
   .rw[DV,alR,alR,amc,amc];refine⟨?_,?_,?_⟩
    .simp only[ak3,alF,anH,not_exists,not_and];refine⟨λe=>he e.symm,λz hz e=>?_⟩;have:=(amb.1 hz).2;simp[e]at this
    .intro hm;obtain⟨z,hz,e⟩:=alF.1 hm;exact h.1 (by rw[<-e];exact als (amb.1 hz).1)
    .exact aoy (aoL _ aor) h.2
   .rw[alR,amc];refine⟨λhm=>?_,ih⟩;obtain⟨z,hz,e⟩:=alF.1 hm;rcases dF hz with rfl|⟨h1,_⟩
    .exact he e.symm
    .exact h.1 (by rw[<-e];exact als h1)
def BT{t:aB}{e:aA}{P:aB×Int->Prop}(h1:P (aL,0))(h2:P (rA e.text,0))(h3:P ({t with cP:=true,bQ:=e.num},0))(h4:P ({t with cP:=false,bQ:=0},0))(h5:e.op=5->P ({t with pairs:=cQ (λx=>decide (x.name=e.name)) (λx=>aP e.name x.name) ⟨e.name,e.text⟩ t.pairs false},0))(h6:e.op=6->P ({t with pairs:=dC (λx=>decide (x.name=e.name)) t.pairs},if t.pairs.any (λx=>decide (x.name=e.name))then 0 else 5))(h7:e.op=7->P ({t with list:=e.text::t.list},0))(h8:e.op=8->P ({t with list:=t.list++[e.text]},0))(h9:P ({t with list:=t.list.tail},0))(bp:P ({t with list:=t.list.dropLast},0))(dO:e.op=11->P ({t with list:=t.list.set e.num.toNat e.text},0))(abA:P (t,4))(cO:P ({t with list:=cQ (λx=>decide (x=e.name)) (λx=>aP e.name x) e.name t.list false},0))(dn:P ({t with list:=dC (λx=>decide (x=e.name)) t.list},if t.list.any (λx=>decide (x=e.name))then 0 else 5))(dJ:e.op=14->P ({t with ranks:=cQ (λx=>decide (x.name=e.name)) (λx=>cS ⟨e.name,e.num⟩ x) ⟨e.name,e.num⟩ t.ranks false},0))(jW:e.op=15->P ({t with ranks:=dC (λx=>decide (x.name=e.name)) t.ranks},if t.ranks.any (λx=>decide (x.name=e.name))then 0 else 5))(PU:P (t,0)):P (bm t e):=by
 unfold bm;by_cases e1:e.op=1
 .rw[ak4 e1];exact h1
 rw[akZ e1];by_cases e2:e.op=2
 .rw[ak4 e2];exact h2
 rw[akZ e2];by_cases e3:e.op=3
 .rw[ak4 e3];exact h3
 rw[akZ e3];by_cases e4:e.op=4
 .rw[ak4 e4];exact h4
 rw[akZ e4];by_cases e5:e.op=5
 .rw[ak4 e5];exact h5 e5
 rw[akZ e5];by_cases e6:e.op=6
 .rw[ak4 e6];exact h6 e6
 rw[akZ e6];by_cases e7:e.op=7
 .rw[ak4 e7];exact h7 e7
 rw[akZ e7];by_cases e8:e.op=8
 .rw[ak4 e8];exact h8 e8
 rw[akZ e8];by_cases e9:e.op=9
 .rw[ak4 e9];exact h9
 rw[akZ e9];by_cases Ph:e.op=10
 .rw[ak4 Ph];exact bp
 rw[akZ Ph];by_cases I':e.op=11
 .rw[ak4 I'];by_cases hh:0<=e.num∧e.num<t.list.length
  .rw[ak4 hh];exact dO I'
  .rw[akZ hh];exact abA
 rw[akZ I'];by_cases Pj:e.op=12
 .rw[ak4 Pj];exact cO
 rw[akZ Pj];by_cases Pk:e.op=13
 .rw[ak4 Pk];exact dn
 rw[akZ Pk];by_cases Ja:e.op=14
 .rw[ak4 Ja];exact dJ Ja
 rw[akZ Ja];by_cases Jb:e.op=15
 .rw[ak4 Jb];exact jW Jb
 rw[akZ Jb];exact PU
def EI(t:aB):Prop:=(t.kind=3->t.pairs=[]∧t.ranks=[])∧(t.pairs.Pairwise λa b=>aP a.name b.name=true)∧(t.kind=4->t.list.Pairwise λa b=>aP a b=true)∧(t.ranks.Pairwise λa b=>cS a b=true)∧(t.ranks.map aF.name).Nodup
def Yw{t:aB}{e:aA}(f:fG t)(hk:ED t e):EI (bm t e).1:=by
 have hp:∀x:bM,decide (x.name=e.name)=false->aP e.name x.name=false->aP x.name e.name=true:=λx h1 h2=>D' h2 (λh=>by simp[h]at h1);have k3:t.kind=3->t.kind≠4:=λh1=>V
 have z:∀t:aB,t.pairs=[]->t.list=[]->t.ranks=[]->EI t:=λt h1 h2 h3=>by
  unfold EI;rw[h1,h2,h3];exact⟨λ_=>⟨Y,Y⟩,List.Pairwise.nil,λ_=>List.Pairwise.nil,List.Pairwise.nil,ank⟩
 refine BT (P:=λr=>EI r.1) (z _ Y Y Y) (z _ Y Y Y) ⟨f.only,f.ps,f.ls,f.rs,f.once⟩ ⟨f.only,f.ps,f.ls,f.rs,f.once⟩ (λh7=>?_) (λh7=>?_) (λh7=>?_) (λh7=>?_)
  ⟨f.only,f.ps,λk=>(f.ls k).tail,f.rs,f.once⟩ ⟨f.only,f.ps,λk=>(f.ls k).sublist (aoi _),f.rs,f.once⟩ (λh7=>?_) ⟨f.only,f.ps,f.ls,f.rs,f.once⟩ ⟨f.only,f.ps,λk=>?_,f.rs,f.once⟩
  ⟨f.only,f.ps,λk=>(f.ls k).filter _,f.rs,f.once⟩ (λh7=>?_) (λh7=>?_) ⟨f.only,f.ps,f.ls,f.rs,f.once⟩
 .have:=hk ⟨true,true,false,2,true,140⟩ (by rw[h7];rfl) Dd;exact⟨λk=>absurd k (by rw[this];decide),G6 (y:=(⟨e.name,e.text⟩:bM)) (R:=λa b:bM=>aP a.name b.name=true) (λx _ h=>h) (λx h1 h2=>hp x h1 h2) (λa b c=>mF) f.ps,f.ls,f.rs,f.once⟩
 .have:=hk ⟨true,false,false,2,false,141⟩ (by rw[h7];rfl) Dd;exact⟨λk=>absurd k (by rw[this];decide),f.ps.filter _,f.ls,f.rs,f.once⟩
 .have:=hk ⟨false,true,false,3,true,142⟩ (by rw[h7];rfl) Dd;exact⟨f.only,f.ps,λk=>absurd k (k3 this),f.rs,f.once⟩
 .have:=hk ⟨false,true,false,3,true,144⟩ (by rw[h7];rfl) Dd;exact⟨f.only,f.ps,λk=>absurd k (k3 this),f.rs,f.once⟩
 .have:=hk ⟨false,true,true,3,false,147⟩ (by rw[h7];rfl) Dd;exact⟨f.only,f.ps,λk=>absurd k (k3 this),f.rs,f.once⟩
 .exact G6 (y:=e.name) (R:=λa b=>aP a b=true) (λx _ h=>h) (λx h1 h2=>D' h2 (λh=>by simp[h]at h1)) (λa b c=>mF) (f.ls k)
 .have:=hk ⟨true,false,true,5,true,150⟩ (by rw[h7];rfl) Dd;exact⟨λk=>absurd k (by rw[this];decide),f.ps,f.ls,G6 (y:=(⟨e.name,e.num⟩:aF)) (R:=λa b=>cS a b=true) (λx _ h=>h) (λx h1 h2=>N3 h2 (λh=>by
   have:x.name=e.name:=h.symm;simp[this]at h1)) EO f.rs,Sz (y:=⟨e.name,e.num⟩) f.once⟩
 .have:=hk ⟨true,false,false,5,false,151⟩ (by rw[h7];rfl) Dd;exact⟨λk=>absurd k (by rw[this];decide),f.ps,f.ls,f.rs.filter _,aoy (aoL _ aor) f.once⟩
def I8{t:aB}{e:aA}:dX (bm t e).1<=dX t+1:=by
 have h1:=G4 (eq:=λx:bM=>decide (x.name=e.name)) (lt:=λx=>aP e.name x.name) (y:=⟨e.name,e.text⟩) t.pairs false;have h2:=G4 (eq:=λx:BA=>decide (x=e.name)) (lt:=λx=>aP e.name x) (y:=e.name) t.list false;have h3:=G4 (eq:=λx:aF=>decide (x.name=e.name)) (lt:=λx=>cS ⟨e.name,e.num⟩ x) (y:=⟨e.name,e.num⟩) t.ranks false;have d1:(dC (λx:bM=>decide (x.name=e.name)) t.pairs).length<=t.pairs.length:=amR _ _;have d2:(dC (λx:BA=>decide (x=e.name)) t.list).length<=t.list.length:=amR _ _;have d3:(dC (λx:aF=>decide (x.name=e.name)) t.ranks).length<=t.ranks.length:=amR _ _;refine BT (P:=λr=>dX r.1<=dX t+1) ?_ ?_ ?_ ?_ (λ_=>?_) (λ_=>?_) (λ_=>?_) (λ_=>?_) ?_ ?_ (λ_=>?_) ?_ ?_ ?_ (λ_=>?_) (λ_=>?_) ?_
 all_goals simp only[dX,aL,rA,aly,ak0,ak1,List.length_tail,List.length_dropLast,anE]
 all_goals omega
def FC{r:aB×Int}{there full:Bool}{t:aB}(h:d' r there full=.put t):t=r.1∧r.2=0∧dX t<=65536∧(t.kind=1∨dX t≠0)∧(there=false->full=false):=by
 unfold d' at h;split at h
 .cases h
 .rename_i h1;split at h
  .cases h
  .rename_i h2;split at h
   .cases h
   .rename_i h3;injection h with h
    subst h;refine⟨Y,amx.1 h1,V,?_,λht=>?_⟩
    .by_cases hk:r.1.kind=1
     .exact .inl hk
     .exact .inr λhc=>h2 ⟨hk,hc⟩
    .cases hf:full with
     |false=>rfl
     |true=>exact absurd (.inr ⟨ht,hf⟩) h3
def Pn{t t':aB}{e:aA}{there full:Bool}(f:fG t)(hk:ED t e)(h:d' (bm t e) there full=.put t'):rF t':=by
 obtain⟨rfl,_,h1,h2,_⟩:=FC h;obtain⟨u1,u2,u3,u4,u5⟩:=Yw f hk;refine⟨⟨u2,u3,u4,u5,u1,h1⟩,λh3 e0=>?_⟩;rcases h2 with h2|h2
 .rw[h3]at h2;exact absurd h2 Dd
 .obtain⟨p1,p2⟩:=u1 h3;exact h2 (by unfold dX;rw[p1,p2,e0];rfl)
def gQ(S:aH):Prop:=∀p∈S,rF p.2
def SJ{S:aH}{e:aA}{full:Bool}{t:aB}(hi:gQ S)(h:iq (eu S e.key) e full=.put t):rF t:=by
 unfold iq at h;cases hr:fD e.op with
 |none=>rw[hr]at h;cases h
 |some r=>
  rw[hr]at h;simp only at h;split at h
  .cases h
  split at h
  .cases h
  cases hf:eu S e.key with
  |none=>
   rw[hf]at h;simp only at h;split at h
   .cases h
   .exact Pn (fG.zero _) (λr' h1 _=>by rw[hr]at h1;injection h1 with h1;rw[h1]) h
  |some t0=>
   rw[hf]at h;simp only at h;split at h
   .cases h
   .rename_i hk;refine Pn (hi _ (uL hf)).good (λr' h1 h2=>?_) h;rw[hr]at h1;injection h1 with h1
    subst h1;exact amx.1 λax=>hk ⟨h2,ax⟩
def acQ{S:aH}{e:aA}{full:Bool}(hi:gQ S):gQ ((iq (eu S e.key) e full).space S e.key):=by
 cases hf:iq (eu S e.key) e full with
 |no n=>exact hi
 |drop=>exactλp hp=>hi p (xA.1 hp).1
 |put t=>
  intro p hp;rcases zZ.1 hp with rfl|⟨hp,_⟩
  .exact SJ hi hf
  .exact hi p hp
variable{h':af}{kb mb sb tb:Nat}{us:List Value}
def Uw{t:aB}{e:aA}{r:ib}(hr:fD e.op=some r)(gd:fG t)(hk:ED t e)(ax:e.op=9∨e.op=10->t.list≠[]):kY r.f t e:=by
 unfold fD at hr;by_cases h1:e.op=1
 .rw[ak4 h1]at hr;injection hr with hr
  rw[<-hr];exact YE h1 gd
 rw[akZ h1]at hr;by_cases h2:e.op=2
 .rw[ak4 h2]at hr;injection hr with hr
  rw[<-hr];exact ahD h2 gd
 rw[akZ h2]at hr;by_cases h3:e.op=3
 .rw[ak4 h3]at hr;injection hr with hr
  rw[<-hr];exact ahT h3 gd
 rw[akZ h3]at hr;by_cases h4:e.op=4
 .rw[ak4 h4]at hr;injection hr with hr
  rw[<-hr];exact ac' h4 gd
 rw[akZ h4]at hr;by_cases h5:e.op=5
 .rw[ak4 h5]at hr;injection hr with hr
  rw[<-hr];exact abG h5 gd
 rw[akZ h5]at hr;by_cases h6:e.op=6
 .rw[ak4 h6]at hr;injection hr with hr
  rw[<-hr];exact ahN h6 gd
 rw[akZ h6]at hr;by_cases h7:e.op=7
 .rw[ak4 h7]at hr;injection hr with hr
  rw[<-hr];exact abV h7 gd
 rw[akZ h7]at hr;by_cases h8:e.op=8
 .rw[ak4 h8]at hr;injection hr with hr
  rw[<-hr];exact ahw h8 gd
 rw[akZ h8]at hr;by_cases h9:e.op=9
 .rw[ak4 h9]at hr;injection hr with hr
  rw[<-hr];exact ahO h9 gd (ax (.inl h9))
 rw[akZ h9]at hr;by_cases bp:e.op=10
 .rw[ak4 bp]at hr;injection hr with hr
  rw[<-hr];exact ahS bp gd (ax (.inr bp))
 rw[akZ bp]at hr;by_cases dO:e.op=11
 .rw[ak4 dO]at hr;injection hr with hr
  rw[<-hr];exact W1 dO gd
 rw[akZ dO]at hr;by_cases cO:e.op=12
 .rw[ak4 cO]at hr;injection hr with hr
  rw[<-hr];exact WG cO gd (hk ⟨true,false,false,4,true,148⟩ (by rw[cO];rfl) Dd)
 rw[akZ cO]at hr;by_cases dn:e.op=13
 .rw[ak4 dn]at hr;injection hr with hr
  rw[<-hr];exact afb dn gd (hk ⟨true,false,false,4,false,149⟩ (by rw[dn];rfl) Dd)
 rw[akZ dn]at hr;by_cases dJ:e.op=14
 .rw[ak4 dJ]at hr;injection hr with hr
  rw[<-hr];exact aeZ dJ gd
 rw[akZ dJ]at hr;by_cases jW:e.op=15
 .rw[ak4 jW]at hr;injection hr with hr
  rw[<-hr];exact ahQ jW gd
 rw[akZ jW]at hr;cases hr
def map_set{m:List KI}{j:Nat}{i:KI}{t:aB}(hj:m[j]? =some i):(m.map KI.ent).modify j (λe=>{e with val:=ptr tb})=(m.set j ⟨i.key,tb,us,t,i.born⟩).map KI.ent:=by
 induction m generalizing j with
 |nil=>simp at hj
 |cons x m ih=>
  cases j with
  |zero=>
   simp at hj;subst hj;simp[KI.ent]
  |succ j=>
   have:=ih (j:=j) (by simpa using hj);simp only[alR,ao1,aou,this]
def adK{m:List KI}{j:Nat}:(m.map KI.ent).eraseIdx j=(m.eraseIdx j).map KI.ent:=by
 induction m generalizing j with
 |nil=>simp
 |cons x m ih=>
  cases j with
  |zero=>simp
  |succ j=>simp[ih]
def mem_set{m:List KI}{j:Nat}{i x y:KI}(hn:(m.map KI.key).Nodup)(hj:m[j]? =some i):y∈m.set j x↔y=x∨(y∈m∧y.key≠i.key):=by
 induction m generalizing j with
 |nil=>simp at hj
 |cons z m ih=>
  rw[alR,amc]at hn;cases j with
  |zero=>
   simp at hj;subst hj;rw[List.set_cons_zero,ak3,ak3];constructor
   .rintro(h|h)
    .exact .inl h
    .exact .inr ⟨.inr h,λe=>hn.1 (by rw[<-e];exact als h)⟩
   .rintro(h|⟨h|h,hk⟩)
    .exact .inl h
    .exact absurd (by rw[h]) hk
    .exact .inr h
  |succ j=>
   have hj':m[j]? =some i:=by simpa using hj
   have:=ih hn.2 hj';rw[aou,ak3,ak3,this];have hi:=al9 hj';constructor
   .rintro(h|h|⟨h,hk⟩)
    .exact .inr ⟨.inl h,λe=>hn.1 (by rw[<-h,e];exact als hi)⟩
    .exact .inl h
    .exact .inr ⟨.inr h,hk⟩
   .rintro(h|⟨h|h,hk⟩)
    .exact .inr (.inl h)
    .exact .inl h
    .exact .inr (.inr ⟨h,hk⟩)
def mem_erase{m:List KI}{j:Nat}{i y:KI}(hn:(m.map KI.key).Nodup)(hj:m[j]? =some i):y∈m.eraseIdx j↔y∈m∧y.key≠i.key:=by
 induction m generalizing j with
 |nil=>simp at hj
 |cons z m ih=>
  rw[alR,amc]at hn;cases j with
  |zero=>
   simp at hj;subst hj;rw[List.eraseIdx_cons_zero,ak3];constructor
   .exactλh=>⟨.inr h,λe=>hn.1 (by rw[<-e];exact als h)⟩
   .rintro⟨h|h,hk⟩
    .exact absurd (by rw[h]) hk
    .exact h
  |succ j=>
   have hj':m[j]? =some i:=by simpa using hj
   have hi:=al9 hj';rw[List.eraseIdx_cons_succ,ak3,ak3,ih hn.2 hj'];constructor
   .rintro(h|⟨h,hk⟩)
    .exact⟨.inl h,λe=>hn.1 (by rw[<-h,e];exact als hi)⟩
    .exact⟨.inr h,hk⟩
   .rintro⟨h|h,hk⟩
    .exact .inl h
    .exact .inr ⟨h,hk⟩
def KR.turn{h:af}{c j:Nat}{m:List KI}{i:KI}{t:aB}(x:KR h kb sb mb c m)(hj:m[j]? =some i)(p:kG h h' mb (.map ⟨(m.map KI.ent).modify j (λe=>{e with val:=ptr tb})⟩ c))(B:ai h tb us)(tx:TH h us t)(n:j' t):KR h' kb sb mb c (m.set j ⟨i.key,tb,us,t,i.born⟩):=by
 have ch:=BG x.map p;have hi:=al9 hj;have km:∀{β:Type}(f:KI->β),f ⟨i.key,tb,us,t,i.born⟩=f i->(m.set j ⟨i.key,tb,us,t,i.born⟩).map f=m.map f:=λf hf=>by
  rw[List.map_set,hf];have:(m.map f)[j]? =some (f i):=by rw[amB,hj];rfl
  rw[ak7]at this;obtain⟨ah,he⟩:=this;rw[<-he];exact List.set_getElem_self ah
 refine⟨x.ks.ch ch,?_,λy hy=>?_,?_,λy hy=>?_,?_,λy hy=>?_,by rw[anE];exact x.len⟩
 .show h'[mb]? =_;rw[p.blk,map_set (us:=us) (t:=t) hj]
 .rcases(mem_set x.nodup hj).1 hy with rfl|⟨hy,_⟩
  .exact⟨ch.blk _ _ B,tx.ch ch,n⟩
  .obtain⟨h1,h2,h3⟩:=x.here y hy;exact⟨ch.blk _ _ h1,h2.ch ch,h3⟩
 .rw[km KI.key Y];exact x.nodup
 .rcases(mem_set x.nodup hj).1 hy with rfl|⟨hy,_⟩
  .exact x.born i hi
  .exact x.born y hy
 .rw[km KI.born Y];exact x.nR
 .rcases(mem_set x.nodup hj).1 hy with rfl|⟨hy,_⟩
  .exact x.keys i hi
  .exact x.keys y hy
def KR.erase{h:af}{c j:Nat}{m:List KI}(x:KR h kb sb mb c m)(p:kG h h' mb (.map ⟨(m.map KI.ent).eraseIdx j⟩ c)):KR h' kb sb mb c (m.eraseIdx j):=by
 have ch:=BG x.map p;have sub:(m.eraseIdx j).Sublist m:=List.eraseIdx_sublist m j;refine⟨x.ks.ch ch,?_,λy hy=>?_,x.nodup.sublist (sub.map _),λy hy=>x.born y (sub.subset hy),x.nR.sublist (sub.map _),λy hy=>x.keys y (sub.subset hy),al6 sub.length_le x.len⟩
 .show h'[mb]? =_;rw[p.blk,adK]
 .obtain⟨h1,h2,h3⟩:=x.here y (sub.subset hy);exact⟨ch.blk _ _ h1,h2.ch ch,h3⟩
def yi(key:BA)(m m':List KI):oz->Prop
 |.no _=>m'.map KI.pr=m.map KI.pr
 |.drop=>∀p,p∈m'.map KI.pr↔p∈m.map KI.pr∧p.1≠key
 |.put t=>∀p,p∈m'.map KI.pr↔p=(key,t)∨(p∈m.map KI.pr∧p.1≠key)
def pY{m:List KI}{p:BA×aB}:p∈m.map KI.pr↔∃i∈m,i.key=p.1∧i.thing=p.2:=by
 rw[alF];constructor
 .rintro⟨i,hi,rfl⟩;exact⟨i,hi,Y,Y⟩
 .rintro⟨i,hi,h1,h2⟩;exact⟨i,hi,by cases p;simp_all [KI.pr]⟩
def aai{m:List KI}{j:Nat}{i:KI}{t:aB}(hn:(m.map KI.key).Nodup)(hj:m[j]? =some i):yi i.key m (m.set j ⟨i.key,tb,us,t,i.born⟩) (.put t):=by
 intro p;rw[pY,pY];constructor
 .rintro⟨y,hy,h1,h2⟩;rcases(mem_set hn hj).1 hy with rfl|⟨hy,hk⟩
  .exact .inl (by cases p;simp_all)
  .exact .inr ⟨⟨y,hy,h1,h2⟩,λe=>hk (h1.trans e)⟩
 .rintro(rfl|⟨⟨y,hy,h1,h2⟩,hk⟩)
  .exact⟨_,(mem_set hn hj).2 (.inl Y),Y,Y⟩
  .exact⟨y,(mem_set hn hj).2 (.inr ⟨hy,λe=>hk (h1.symm.trans e)⟩),h1,h2⟩
def aad{m:List KI}{b:Nat}{key:BA}{t:aB}(hn:∀i∈m,i.key≠key):yi key m (m++[⟨key,tb,us,t,b⟩]) (.put t):=by
 intro p;rw[pY,pY];constructor
 .rintro⟨y,hy,h1,h2⟩;rcases alf.1 hy with hy|hy
  .exact .inr ⟨⟨y,hy,h1,h2⟩,λe=>hn y hy (h1.trans e)⟩
  .rw[alE]at hy;subst hy;exact .inl (by cases p;simp_all)
 .rintro(rfl|⟨⟨y,hy,h1,h2⟩,hk⟩)
  .exact⟨_,anS _ (alE.2 Y),Y,Y⟩
  .exact⟨y,amC _ hy,h1,h2⟩
def Z8{m:List KI}{j:Nat}{i:KI}(hn:(m.map KI.key).Nodup)(hj:m[j]? =some i):yi i.key m (m.eraseIdx j) .drop:=by
 intro p;rw[pY,pY];constructor
 .rintro⟨y,hy,h1,h2⟩;obtain⟨hy,hk⟩:=(mem_erase hn hj).1 hy;exact⟨⟨y,hy,h1,h2⟩,λe=>hk (h1.trans e)⟩
 .rintro⟨⟨y,hy,h1,h2⟩,hk⟩;exact⟨y,(mem_erase hn hj).2 ⟨hy,λe=>hk (h1.symm.trans e)⟩,h1,h2⟩
def aaf{m:List KI}{key:BA}(hn:∀i∈m,i.key≠key):yi key m m .drop:=by
 intro p;constructor
 .exactλh=>⟨h,by obtain⟨i,hi,h1,_⟩:=pY.1 h;rw[<-h1];exact hn i hi⟩
 .exactλh=>h.1
def DZ(r:ib):List Value:=[.bool r.name,.bool r.text,.bool r.number,.int .i64 r.kind,.bool r.makes,.func (.func r.f) #[] #[]]
end Go.Proofs.YtocgmipngoiieaaGreatDoor
namespace Go.Proofs.YtocgmipngoiieaaGreatDoor
open Go Go.Sx C
def adb{m:List KI}(hn:(m.map KI.key).Nodup){i j:KI}(hi:i∈m)(hj:j∈m)(he:i.key=j.key):i=j:=by
 induction m with
 |nil=>simp at hi
 |cons x m ih=>
  rw[alR,amc]at hn;rcases ak3.1 hi with e1|g1
  .rcases ak3.1 hj with e2|g2
   .rw[e1,e2]
   .exact absurd (by rw[<-e1,he];exact als g2) hn.1
  .rcases ak3.1 hj with e2|g2
   .exact absurd (by rw[<-e2,<-he];exact als g1) hn.1
   .exact ih hn.2 g1 g2
def EB{h:af}{kb sb mb c:Nat}{m:List KI}(key:BA)(x:KR h kb sb mb c m):aj Tryz.prog 29 [ptr kb,.string key] h (ao λr h'=>((∃i∈m,i.key=key∧∃pv lv rv,r=.tuple #[.agg ⟨bg i.thing pv lv rv⟩,.bool true]∧TO h' pv lv rv i.thing∧∀b∈bk pv lv rv,h.size<=b)∨
   ((∀i∈m,i.key≠key)∧r=.tuple #[.agg ⟨zeroV⟩,.bool false]))∧ag [] h h'):=by
 rcases xB key m 0 with⟨eS,bw⟩|⟨j,i,eS,hj,iV⟩
 .refine(Wg x.ks x.map (sK m) eS).mono λe h' he=>?_;cases e with
  |returned v=>exact⟨.inr ⟨bw,he.1⟩,he.2⟩
  |panicked ch=>exact he.elim
  |outgrown=>exact he.elim
 have hi:i∈m:=al9 hj;obtain⟨Bi,ti,ni⟩:=x.here i hi;refine f29.c ?_;intro b4 h1 g1;have hc:=g1.ae;have x1:=x.ext hc;refine akV (q9 x1.ks) ?_;rintro _ h9 ⟨rfl,e9⟩;have e9:=e9.symm;subst e9;refine Ei _ (Ai (an x1.ks.k Y) (Ei _ (Ai (an x1.ks.s Y)<|Ai Y (Ei (m.map KI.ent) (Ei c (Ai x1.map (Ai (sK m) ?_)))))));rw[eS];refine Ei _ (Ai (an x1.ks.k Y) (Ei _ (Ai (an x1.ks.s Y)<|Ai Y (Ei (m.map KI.ent) (Ei c (Ai x1.map (Ai (sK m) ?_)))))));rw[eS];have B1:=Bi.ae hc Yy;have t1:=ti.ext hc;refine Ei i.vs (Ai t1.len (Ai (akW B1)<|akV (OW t1 ni) ?_));rintro _ h2 ⟨⟨pv,lv,rv,rfl,o2,fr⟩,aO⟩;have Bz:ai h2 b4 zeroV:=(show ai h1 b4 zeroV from g1.blk).ae aO Yy;refine Ei _ (Ai Bz (Ai Dd (Ai Y (Ai (dB o2.th) ?_))));intro h3 p3;have i4:=g1.id;have z4:=g1.size;have B3:ai h3 b4 (bg i.thing pv lv rv):=p3.blk;refine Ei _ (Ai Y (Ai (akW B3)<|Ai (.inl ⟨i,hi,iV,pv,lv,rv,Y,o2.ae p3.ae (λb hb=>by have:=fr b hb;simp;omega),λb hb=>by have:=fr b hb;omega⟩) ((hc.nil aO).fresh p3.ae Ys)))
def TO.nil{h:af}{t:aB}(h1:t.pairs=[])(h2:t.list=[])(h3:t.ranks=[]):TO h (.slice none 0 0) (.slice none 0 0) (.slice none 0 0) t:=
 ⟨by rw[h1];exact OL.nil,by rw[h2];exact OL.nil,by rw[h3];exact OL.nil,by simp[aq,bG],by simp[aq,bG],by simp[aq,bG]⟩
def EE(m:List KI)(key:BA):Option aB->Prop
 |some t=>∃i∈m,i.key=key∧i.thing=t
 |none=>∀i∈m,i.key≠key
def wj(r:ib)(old:Option aB)(e:aA)(full:Bool):oz:=
 match old with
 |none=>if r.makes=false then .no 5 else d' (bm {aL with kind:=r.kind} e) false full
 |some t=>if r.kind≠0∧t.kind≠r.kind then .no 170 else d' (bm t e) true full
def Uy(r:ib):∀u∈(ib.val r).cells.toList,u.oneCell'=true:=by
 intro u hu;simp only[ib.val,lU,Value.cells,ak3,amU,anF]at hu;rcases hu with rfl|rfl|rfl|rfl|rfl|rfl<;>rfl
def ade{m:List KI}(hn:(m.map KI.key).Nodup):(m.map KI.pr).Nodup:=by
 have:m.map KI.key=(m.map KI.pr).map Prod.fst:=by rw[am'];rfl
 rw[this]at hn;exact List.Pairwise.imp (λh e=>h (by rw[e])) (List.pairwise_map.1 hn)
def ahV{S:aH}(hu:pB S):S.Nodup:=hu.imp λh e=>by rw[e,qj]at h;cases h
def HE{m:List KI}{S:aH}(hn:(m.map KI.key).Nodup)(hs:bT m S):S.length=m.length:=by
 have:=((aoA (ahV hs.up) (ade hn)).2 hs.mem).length_eq;simpa using this
def aee{m:List KI}{S:aH}(hs:bT m S)(key:BA):EE m key (eu S key):=by
 cases hf:eu S key with
 |some t=>
  obtain⟨i,hi,h1,h2⟩:=pY.1 ((hs.mem _).1 (uL hf));exact⟨i,hi,h1,h2⟩
 |none=>
  intro i hi hk;have:(key,i.thing)∈S:=(hs.mem _).2 (pY.2 ⟨i,hi,hk,Y⟩);rw[Jh hs.up this]at hf;cases hf
def acR{m:List KI}{S:aH}(hs:bT m S)(hi:gQ S):∀i∈m,rF i.thing:=λi h=>hi i.pr ((hs.mem _).2 (als h))
def aaj{m m':List KI}{S:aH}{key:BA}{f:oz}(hs:bT m S)(hf:yi key m m' f):bT m' (f.space S key):=by
 refine⟨ahW f hs.up,λp=>?_⟩;cases f with
 |no n=>
  have hf:m'.map KI.pr=m.map KI.pr:=hf;rw[hf];exact hs.mem p
 |drop=>rw[hf p,<-hs.mem];exact xA
 |put t=>rw[hf p,<-hs.mem];exact zZ
def yx{S:aH}{e:aA}{d:List aA}(h:(dy S e).num≠0):eK S (e::d)=(S,0,(dy S e).num):=by
 rw[eK,akZ h]
def yy{S:aH}{e:aA}{d:List aA}(h:(dy S e).num=0):eK S (e::d)=((eK ((dy S e).space S e.key) d).1,(eK ((dy S e).space S e.key) d).2.1+1,(eK ((dy S e).space S e.key) d).2.2):=by
 rw[eK,ak4 h]
def ad2{S:aH}{e:aA}(h:(dy S e).num≠0):(dy S e).space S e.key=S:=by
 cases hf:dy S e with
 |no n=>rfl
 |drop=>rw[hf]at h;exact absurd Y h
 |put t=>rw[hf]at h;exact absurd Y h
end Go.Proofs.YtocgmipngoiieaaGreatDoor
set_option maxRecDepth 100000
namespace Go.Proofs.YtocgmipngoiieaaGreatDoor.C
open Go Go.Sx Go.Sx.S
noncomputable section
def f121:=ay Tryz.func121
def f122:=ay Tryz.func122
def f123:=ay Tryz.func123
end
end Go.Proofs.YtocgmipngoiieaaGreatDoor.C
namespace Go.Proofs.YtocgmipngoiieaaGreatDoor
open Go Go.Sx C
section
variable {α:Type}
def ey(put:Bool)(eq lt:α->Bool)(y:α):List α->Bool->List α
 |[],d=>if put&&!d then[y]else[]
 |x::l,d=>if eq x then ey put eq lt y l d else if put&&!d&&lt x then y::x::ey put eq lt y l true else x::ey put eq lt y l d
def Cg{eq lt:α->Bool}{y:α}:∀(l:List α)(d:Bool),ey true eq lt y l d=cQ eq lt y l d
 |[],d=>by cases d<;>rfl
 |x::l,d=>by
  simp only[ey,cQ,Cg l d,Cg l true,amD]
def Ce{eq lt:α->Bool}{y:α}:∀(l:List α)(d:Bool),ey false eq lt y l d=dC eq l
 |[],d=>rfl
 |x::l,d=>by
  simp only[ey,Ce l d,Ce l true,Bool.false_and,amH,ana];cases he:eq x<;>simp[dC,he]
end
def R7{h:af}{v:Value}{l:List BA}(name:BA)(put:Bool)(hv:SL encS h v l)(hl:l.length<=70000)(hn:name.size<4611686018427387904)(hf:∀x∈l,x.size<4611686018427387904):aj Tryz.prog 122 [v,.string name,.bool put] h
   (ao λr h'=>(∃u,r=.tuple #[u,.bool (l.any λx=>decide (x=name))]∧OL encS 1 h' u (ey put (λx=>decide (x=name)) (λx=>aP name x) name l false)∧∀b∈aq u,h.size<=b)∧ag [] h h'):=by
 obtain⟨a,c,rfl,di⟩:=hv.form;refine f122.c ?_;have il:=hv;have hc0:ag [] h h:=ag.refl h;obtain⟨eq,heq⟩:∃eq:BA->Bool,eq=λx=>decide (x=name):=⟨_,Y⟩
 obtain⟨lt,ah⟩:∃lt:BA->Bool,lt=λx=>aP name x:=⟨_,Y⟩
 rw[<-heq,<-ah];have sh:=hc0.size;refine bA (λi:Nat×Bool×Bool×List BA×Option Addr×Nat=>[(0,.slice a l.length c),(1,.string name),(2,.bool put),(8,.slice i.2.2.2.2.1 i.2.2.2.1.length i.2.2.2.2.2),(9,.bool i.2.1),(10,.bool i.2.2.1),(11,.int .i64 i.1)])
  (λi h'=>i.1<=l.length∧ag [] h h'∧OL encS 1 h' (.slice i.2.2.2.2.1 i.2.2.2.1.length i.2.2.2.2.2) i.2.2.2.1∧(∀b∈bG i.2.2.2.2.1,h.size<=b)∧i.2.2.2.1.length<=i.1+i.2.2.1.toNat∧
   ey put eq lt name l false=i.2.2.2.1++ey put eq lt name (l.drop i.1) i.2.2.1∧l.any eq=(i.2.1||(l.drop i.1).any eq)) (λi=>l.length-i.1) (0,false,false,[],none,0)
  J7 ⟨ak8 _,ag.refl h,OL.nil,by simp[bG],Yy,Y,Y⟩ ?_
 rintro⟨k,th,d,A,a2,c2⟩ h1 ⟨hk,bd,ho,bC,aw,bN,gy⟩;simp only at hk ho bC aw bN gy;have bL:=il.ext bd;refine Bi (λht=>?_) λht=>?_
 .have ij:k<l.length:=V
  obtain⟨b,o,rfl⟩:=bL.addr V;have aI:=bL.cells bj (i:=k) (x:=l[k]) (by simp[ij]);have fX:l.drop k=l[k]::l.drop (k+1):=alx ij;rw[fX,ey]at bN;rw[fX,ao5]at gy;refine Ai V (Ai V (Ei _ (Ai (aI 0 _ Y)<|Ai (λhe=>?_) (λax=>?_))))
  .have e1:eq l[k]=true:=by rw[heq];simpa using he
   rw[e1]at bN gy;refine Az<|Ai Y (Ei (k+1,true,d,A,a2,c2) (Ai ?_ (Ai ?_ ?_)))
   .exact J7
   .exact⟨by simp only;omega,bd,ho,bC,by simp only;omega,by simpa using bN,by simpa using gy⟩
   .simp only;omega
  .have e1:eq l[k]=false:=by rw[heq];simpa using ax
   rw[e1]at bN gy;simp only[amH,ana,ao6]at bN gy;have keep:(put&&!d&&lt l[k])=false->ey put eq lt name l false=A++l[k]::ey put eq lt name (l.drop (k+1)) d:=λhb=>by rw[hb]at bN;simpa using bN
   have nW:=gy;cases hp:put with
   |false=>
    subst hp;have jg:=keep Y;have ak2:=(il.ext bd).cells bj (i:=k) (x:=l[k]) (by simp[ij]);refine Ai V (Ai V (Ei _ (Ai (ak2 0 _ Y) ?_)));intro b6 dn g13;have B6:ai dn b6 (encS l[k]):=g13.blk;refine dZ bj fP Y (ho.ext g13.ae) (SL.one bj B6) (by have:=aw;have:=amF d;simp only[ak1,ak0,aly,al',al7]at*;omega) ?_;intro v14 dJ eY fW jc;have jf:∀b∈aq v14,h.size<=b:=λb' bh=>by
     rcases jc b' bh with h|h
     .exact bC b' h
     .have:=bd.size;have:=g13.size;omega
    have jd:ag [] h dJ:=(bd.nil g13.ae).fresh fW bC;obtain⟨iZ,dM,rfl,_⟩:=eY.form;refine Az<|Ai Y (Ei (k+1,th,d,A++[l[k]],iZ,dM) (Ai ?_ (Ai ?_ ?_)))
    .exact J7
    .exact⟨by simp only;omega,jd,eY,jf,by have:=aw;have:=amF d;simp only[ak1,ak0,aly,al',al7]at*;omega,by rw[jg];simp,nW⟩
    .simp only;omega
   |true=>
    cases hd:d with
    |true=>
     subst hp hd;have jg:=keep Y;have ak2:=(il.ext bd).cells bj (i:=k) (x:=l[k]) (by simp[ij]);refine Ai V (Ai V (Ei _ (Ai (ak2 0 _ Y) ?_)));intro b6 dn g13;have B6:ai dn b6 (encS l[k]):=g13.blk;refine dZ bj fP Y (ho.ext g13.ae) (SL.one bj B6) (by have:=aw;have:=amF true;simp only[ak1,ak0,aly,al',al7]at*;omega) ?_;intro v14 dJ eY fW jc;have jf:∀b∈aq v14,h.size<=b:=λb' bh=>by
      rcases jc b' bh with h|h
      .exact bC b' h
      .have:=bd.size;have:=g13.size;omega
     have jd:ag [] h dJ:=(bd.nil g13.ae).fresh fW bC;obtain⟨iZ,dM,rfl,_⟩:=eY.form;refine Az<|Ai Y (Ei (k+1,th,true,A++[l[k]],iZ,dM) (Ai ?_ (Ai ?_ ?_)))
     .exact J7
     .exact⟨by simp only;omega,jd,eY,jf,by have:=aw;have:=amF true;simp only[ak1,ak0,aly,al',al7]at*;omega,by rw[jg];simp,nW⟩
     .simp only;omega
    |false=>
     subst hp hd;have sR:=bL.cells bj (i:=k) (x:=l[k]) (by simp[ij]);refine Ai V (Ai V (Ei _ (Ai (sR 0 _ Y)<|akV (yl name l[k] hn (hf _ (ak9 ij))) ?_)));rintro r2 h9 ⟨hr,e9⟩;have e9:=e9.symm;subst e9;cases hs:aP name l[k]with
     |false=>
      rw[hs]at hr;subst hr;have qO:lt l[k]=false:=by rw[ah];exact hs
      have jg:=keep (by rw[qO];rfl);have ak2:=(il.ext bd).cells bj (i:=k) (x:=l[k]) (by simp[ij]);refine Ai V (Ai V (Ei _ (Ai (ak2 0 _ Y) ?_)));intro b6 dn g13;have B6:ai dn b6 (encS l[k]):=g13.blk;refine dZ bj fP Y (ho.ext g13.ae) (SL.one bj B6) (by have:=aw;have:=amF false;simp only[ak1,ak0,aly,al',al7]at*;omega) ?_;intro v14 dJ eY fW jc;have jf:∀b∈aq v14,h.size<=b:=λb' bh=>by
       rcases jc b' bh with h|h
       .exact bC b' h
       .have:=bd.size;have:=g13.size;omega
      have jd:ag [] h dJ:=(bd.nil g13.ae).fresh fW bC;obtain⟨iZ,dM,rfl,_⟩:=eY.form;refine Az<|Ai Y (Ei (k+1,th,false,A++[l[k]],iZ,dM) (Ai ?_ (Ai ?_ ?_)))
      .exact J7
      .exact⟨by simp only;omega,jd,eY,jf,by have:=aw;have:=amF false;simp only[ak1,ak0,aly,al',al7]at*;omega,by rw[jg];simp,nW⟩
      .simp only;omega
     |true=>
      rw[hs]at hr;subst hr;have qO:lt l[k]=true:=by rw[ah];exact hs
      rw[qO]at bN;intro b5 h3 g3;have B5:ai h3 b5 (encS name):=g3.blk;refine dZ bj fP Y (ho.ext g3.ae) (SL.one bj B5) (by have:=aw;simp only[ak0,aly,al',al7]at this⊢;omega) ?_;intro v4 h4 fj dw kg;have uV:∀b∈aq v4,h.size<=b:=λb' bh=>by
       rcases kg b' bh with h|h
       .exact bC b' h
       .have:=bd.size;have:=g3.size;omega
      have qF:ag [] h h4:=(bd.nil g3.ae).fresh dw bC;obtain⟨a4,c4,rfl,_⟩:=fj.form;have uQ:(A++[name]).length<=k+true.toNat:=by have:=aw;simp only[ak1,ak0,aly,al',al7]at this⊢;omega
      have jg:ey true eq lt name l false=(A++[name])++l[k]::ey true eq lt name (l.drop (k+1)) true:=by simpa using bN
      have ak2:=(il.ext qF).cells bj (i:=k) (x:=l[k]) (by simp[ij]);refine Ai V (Ai V (Ei _ (Ai (ak2 0 _ Y) ?_)));intro b6 dn g13;have B6:ai dn b6 (encS l[k]):=g13.blk;refine dZ bj fP Y (fj.ext g13.ae) (SL.one bj B6) (by have:=uQ;have:=amF true;simp only[ak1,ak0,aly,al',al7]at*;omega) ?_;intro v14 dJ eY fW jc;have jf:∀b∈aq v14,h.size<=b:=λb' bh=>by
       rcases jc b' bh with h|h
       .exact uV b' h
       .have:=qF.size;have:=g13.size;omega
      have jd:ag [] h dJ:=(qF.nil g13.ae).fresh fW uV;obtain⟨iZ,dM,rfl,_⟩:=eY.form;refine Az<|Ai Y (Ei (k+1,th,true,(A++[name])++[l[k]],iZ,dM) (Ai ?_ (Ai ?_ ?_)))
      .exact J7
      .exact⟨by simp only;omega,jd,eY,jf,by have:=uQ;have:=amF true;simp only[ak1,ak0,aly,al',al7]at*;omega,by rw[jg];simp,nW⟩
      .simp only;omega
 .have aZ:k=l.length:=V
  subst aZ;rw[amE,ey]at bN;rw[amE,ao',ao7]at gy;have fin:put=false∨d=true->ey put eq lt name l false=A:=λh=>by
   rw[bN];rcases h with h|h
   .rw[h];simp
   .rw[h];simp
  rw[gy];cases hp:put with
  |false=>
   subst hp;rw[fin (.inl Y)];exact Ai (Ei _ (Ai Y (Ai ho (λb hb=>by have:=bC b hb;omega)))) (hc0.nil bd)
  |true=>
   cases hd:d with
   |true=>
    subst hp hd;rw[fin (.inr Y)];exact Ai (Ei _ (Ai Y (Ai ho (λb hb=>by have:=bC b hb;omega)))) (hc0.nil bd)
   |false=>
    subst hp hd;intro b5 h3 g3;have B5:ai h3 b5 (encS name):=g3.blk;refine dZ bj fP Y (ho.ext g3.ae) (SL.one bj B5) (by have:=aw;simp only[ak0,aly,al',al7]at this⊢;omega) ?_;intro v4 h4 fj dw kg;have e4:ey true eq lt name l false=A++[name]:=by rw[bN];rfl
    rw[e4];refine Ai (Ei _ (Ai Y (Ai fj (λb' bh=>?_)))) (hc0.nil ((bd.nil g3.ae).fresh dw bC));rcases kg b' bh with h|h
    .have:=bC b' h;omega
    .have:=bd.size;have:=g3.size;omega
def S2{h:af}{v:Value}{l:List bM}(name text:BA)(put:Bool)(hv:SL aX h v l)(hl:l.length<=70000)(hn:name.size<4611686018427387904)(hf:∀x∈l,x.name.size<4611686018427387904):aj Tryz.prog 121 [v,.string name,.string text,.bool put] h
   (ao λr h'=>(∃u,r=.tuple #[u,.bool (l.any λx=>decide (x.name=name))]∧OL aX 2 h' u (ey put (λx=>decide (x.name=name)) (λx=>aP name x.name) (⟨name,text⟩:bM) l false)∧∀b∈aq u,h.size<=b)∧ag [] h h'):=by
 obtain⟨a,c,rfl,di⟩:=hv.form;refine f121.c ?_;have il:=hv;have hc0:ag [] h h:=ag.refl h;obtain⟨eq,heq⟩:∃eq:bM->Bool,eq=λx=>decide (x.name=name):=⟨_,Y⟩
 obtain⟨lt,ah⟩:∃lt:bM->Bool,lt=λx=>aP name x.name:=⟨_,Y⟩
 rw[<-heq,<-ah];have sh:=hc0.size;refine bA (λi:Nat×Bool×Bool×List bM×Option Addr×Nat=>[(0,.slice a l.length c),(1,.string name),(2,.string text),(3,.bool put),(10,.slice i.2.2.2.2.1 i.2.2.2.1.length i.2.2.2.2.2),(11,.bool i.2.1),(12,.bool i.2.2.1),(13,.int .i64 i.1)])
  (λi h'=>i.1<=l.length∧ag [] h h'∧OL aX 2 h' (.slice i.2.2.2.2.1 i.2.2.2.1.length i.2.2.2.2.2) i.2.2.2.1∧(∀b∈bG i.2.2.2.2.1,h.size<=b)∧i.2.2.2.1.length<=i.1+i.2.2.1.toNat∧
   ey put eq lt (⟨name,text⟩:bM) l false=i.2.2.2.1++ey put eq lt (⟨name,text⟩:bM) (l.drop i.1) i.2.2.1∧l.any eq=(i.2.1||(l.drop i.1).any eq)) (λi=>l.length-i.1) (0,false,false,[],none,0)
  J8 ⟨ak8 _,ag.refl h,OL.nil,by simp[bG],Yy,Y,Y⟩ ?_
 rintro⟨k,th,d,A,a2,c2⟩ h1 ⟨hk,bd,ho,bC,aw,bN,gy⟩;simp only at hk ho bC aw bN gy;have bL:=il.ext bd;refine Bi (λht=>?_) λht=>?_
 .have ij:k<l.length:=V
  obtain⟨b,o,rfl⟩:=bL.addr V;have aI:=bL.cells du (i:=k) (x:=l[k]) (by simp[ij]);have fX:l.drop k=l[k]::l.drop (k+1):=alx ij;rw[fX,ey]at bN;rw[fX,ao5]at gy;refine Ai V (Ai V (Ei _ (Ai (aI 0 _ Y)<|Ai (λhe=>?_) (λax=>?_))))
  .have e1:eq l[k]=true:=by rw[heq];simpa using he
   rw[e1]at bN gy;refine Az<|Ai Y (Ei (k+1,true,d,A,a2,c2) (Ai ?_ (Ai ?_ ?_)))
   .exact J8
   .exact⟨by simp only;omega,bd,ho,bC,by simp only;omega,by simpa using bN,by simpa using gy⟩
   .simp only;omega
  .have e1:eq l[k]=false:=by rw[heq];simpa using ax
   rw[e1]at bN gy;simp only[amH,ana,ao6]at bN gy;have keep:(put&&!d&&lt l[k])=false->ey put eq lt (⟨name,text⟩:bM) l false=A++l[k]::ey put eq lt (⟨name,text⟩:bM) (l.drop (k+1)) d:=λhb=>by rw[hb]at bN;simpa using bN
   have nW:=gy;cases hp:put with
   |false=>
    subst hp;have jg:=keep Y;have ak2:=(il.ext bd).cells du (i:=k) (x:=l[k]) (by simp[ij]);refine Ai V (Ai V (Ei (aX l[k]) (Ai Y (Ai ak2 ?_))));intro b6 dn g13;have B6:ai dn b6 (aX l[k]):=g13.blk;refine dZ du nS Y (ho.ext g13.ae) (SL.one du B6) (by have:=aw;have:=amF d;simp only[ak1,ak0,aly,al',al7]at*;omega) ?_;intro v14 dJ eY fW jc;have jf:∀b∈aq v14,h.size<=b:=λb' bh=>by
     rcases jc b' bh with h|h
     .exact bC b' h
     .have:=bd.size;have:=g13.size;omega
    have jd:ag [] h dJ:=(bd.nil g13.ae).fresh fW bC;obtain⟨iZ,dM,rfl,_⟩:=eY.form;refine Az<|Ai Y (Ei (k+1,th,d,A++[l[k]],iZ,dM) (Ai ?_ (Ai ?_ ?_)))
    .exact J8
    .exact⟨by simp only;omega,jd,eY,jf,by have:=aw;have:=amF d;simp only[ak1,ak0,aly,al',al7]at*;omega,by rw[jg];simp,nW⟩
    .simp only;omega
   |true=>
    cases hd:d with
    |true=>
     subst hp hd;have jg:=keep Y;have ak2:=(il.ext bd).cells du (i:=k) (x:=l[k]) (by simp[ij]);refine Ai V (Ai V (Ei (aX l[k]) (Ai Y (Ai ak2 ?_))));intro b6 dn g13;have B6:ai dn b6 (aX l[k]):=g13.blk;refine dZ du nS Y (ho.ext g13.ae) (SL.one du B6) (by have:=aw;have:=amF true;simp only[ak1,ak0,aly,al',al7]at*;omega) ?_;intro v14 dJ eY fW jc;have jf:∀b∈aq v14,h.size<=b:=λb' bh=>by
      rcases jc b' bh with h|h
      .exact bC b' h
      .have:=bd.size;have:=g13.size;omega
     have jd:ag [] h dJ:=(bd.nil g13.ae).fresh fW bC;obtain⟨iZ,dM,rfl,_⟩:=eY.form;refine Az<|Ai Y (Ei (k+1,th,true,A++[l[k]],iZ,dM) (Ai ?_ (Ai ?_ ?_)))
     .exact J8
     .exact⟨by simp only;omega,jd,eY,jf,by have:=aw;have:=amF true;simp only[ak1,ak0,aly,al',al7]at*;omega,by rw[jg];simp,nW⟩
     .simp only;omega
    |false=>
     subst hp hd;have sR:=bL.cells du (i:=k) (x:=l[k]) (by simp[ij]);refine Ai V (Ai V (Ei _ (Ai (sR 0 _ Y)<|akV (yl name l[k].name hn (hf _ (ak9 ij))) ?_)));rintro r2 h9 ⟨hr,e9⟩;have e9:=e9.symm;subst e9;cases hs:aP name l[k].name with
     |false=>
      rw[hs]at hr;subst hr;have qO:lt l[k]=false:=by rw[ah];exact hs
      have jg:=keep (by rw[qO];rfl);have ak2:=(il.ext bd).cells du (i:=k) (x:=l[k]) (by simp[ij]);refine Ai V (Ai V (Ei (aX l[k]) (Ai Y (Ai ak2 ?_))));intro b6 dn g13;have B6:ai dn b6 (aX l[k]):=g13.blk;refine dZ du nS Y (ho.ext g13.ae) (SL.one du B6) (by have:=aw;have:=amF false;simp only[ak1,ak0,aly,al',al7]at*;omega) ?_;intro v14 dJ eY fW jc;have jf:∀b∈aq v14,h.size<=b:=λb' bh=>by
       rcases jc b' bh with h|h
       .exact bC b' h
       .have:=bd.size;have:=g13.size;omega
      have jd:ag [] h dJ:=(bd.nil g13.ae).fresh fW bC;obtain⟨iZ,dM,rfl,_⟩:=eY.form;refine Az<|Ai Y (Ei (k+1,th,false,A++[l[k]],iZ,dM) (Ai ?_ (Ai ?_ ?_)))
      .exact J8
      .exact⟨by simp only;omega,jd,eY,jf,by have:=aw;have:=amF false;simp only[ak1,ak0,aly,al',al7]at*;omega,by rw[jg];simp,nW⟩
      .simp only;omega
     |true=>
      rw[hs]at hr;subst hr;have qO:lt l[k]=true:=by rw[ah];exact hs
      rw[qO]at bN;intro b5 h3 g3;have B5:ai h3 b5 (aX (⟨name,text⟩:bM)):=g3.blk;refine dZ du nS Y (ho.ext g3.ae) (SL.one du B5) (by have:=aw;simp only[ak0,aly,al',al7]at this⊢;omega) ?_;intro v4 h4 fj dw kg;have uV:∀b∈aq v4,h.size<=b:=λb' bh=>by
       rcases kg b' bh with h|h
       .exact bC b' h
       .have:=bd.size;have:=g3.size;omega
      have qF:ag [] h h4:=(bd.nil g3.ae).fresh dw bC;obtain⟨a4,c4,rfl,_⟩:=fj.form;have uQ:(A++[(⟨name,text⟩:bM)]).length<=k+true.toNat:=by have:=aw;simp only[ak1,ak0,aly,al',al7]at this⊢;omega
      have jg:ey true eq lt (⟨name,text⟩:bM) l false=(A++[(⟨name,text⟩:bM)])++l[k]::ey true eq lt (⟨name,text⟩:bM) (l.drop (k+1)) true:=by simpa using bN
      have ak2:=(il.ext qF).cells du (i:=k) (x:=l[k]) (by simp[ij]);refine Ai V (Ai V (Ei (aX l[k]) (Ai Y (Ai ak2 ?_))));intro b6 dn g13;have B6:ai dn b6 (aX l[k]):=g13.blk;refine dZ du nS Y (fj.ext g13.ae) (SL.one du B6) (by have:=uQ;have:=amF true;simp only[ak1,ak0,aly,al',al7]at*;omega) ?_;intro v14 dJ eY fW jc;have jf:∀b∈aq v14,h.size<=b:=λb' bh=>by
       rcases jc b' bh with h|h
       .exact uV b' h
       .have:=qF.size;have:=g13.size;omega
      have jd:ag [] h dJ:=(qF.nil g13.ae).fresh fW uV;obtain⟨iZ,dM,rfl,_⟩:=eY.form;refine Az<|Ai Y (Ei (k+1,th,true,(A++[(⟨name,text⟩:bM)])++[l[k]],iZ,dM) (Ai ?_ (Ai ?_ ?_)))
      .exact J8
      .exact⟨by simp only;omega,jd,eY,jf,by have:=uQ;have:=amF true;simp only[ak1,ak0,aly,al',al7]at*;omega,by rw[jg];simp,nW⟩
      .simp only;omega
 .have aZ:k=l.length:=V
  subst aZ;rw[amE,ey]at bN;rw[amE,ao',ao7]at gy;have fin:put=false∨d=true->ey put eq lt (⟨name,text⟩:bM) l false=A:=λh=>by
   rw[bN];rcases h with h|h
   .rw[h];simp
   .rw[h];simp
  rw[gy];cases hp:put with
  |false=>
   subst hp;rw[fin (.inl Y)];exact Ai (Ei _ (Ai Y (Ai ho (λb hb=>by have:=bC b hb;omega)))) (hc0.nil bd)
  |true=>
   cases hd:d with
   |true=>
    subst hp hd;rw[fin (.inr Y)];exact Ai (Ei _ (Ai Y (Ai ho (λb hb=>by have:=bC b hb;omega)))) (hc0.nil bd)
   |false=>
    subst hp hd;intro b5 h3 g3;have B5:ai h3 b5 (aX (⟨name,text⟩:bM)):=g3.blk;refine dZ du nS Y (ho.ext g3.ae) (SL.one du B5) (by have:=aw;simp only[ak0,aly,al',al7]at this⊢;omega) ?_;intro v4 h4 fj dw kg;have e4:ey true eq lt (⟨name,text⟩:bM) l false=A++[(⟨name,text⟩:bM)]:=by rw[bN];rfl
    rw[e4];refine Ai (Ei _ (Ai Y (Ai fj (λb' bh=>?_)))) (hc0.nil ((bd.nil g3.ae).fresh dw bC));rcases kg b' bh with h|h
    .have:=bC b' h;omega
    .have:=bd.size;have:=g3.size;omega
def TY{h:af}{v:Value}{l:List aF}(y:aF)(put:Bool)(hv:SL aK h v l)(hl:l.length<=70000)(hn:y.name.size<4611686018427387904)(hf:∀x∈l,x.name.size<4611686018427387904):aj Tryz.prog 123 [v,.agg ⟨aK y⟩,.bool put] h
   (ao λr h'=>(∃u,r=.tuple #[u,.bool (l.any λx=>decide (x.name=y.name))]∧OL aK 2 h' u (ey put (λx=>decide (x.name=y.name)) (λx=>cS y x) y l false)∧∀b∈aq u,h.size<=b)∧ag [] h h'):=by
 obtain⟨a,c,rfl,di⟩:=hv.form;refine f123.c ?_;intro b4 h0 g0;have hc0:=g0.ae;have il:=hv.ext hc0;have B4:ai h0 b4 (aK y):=g0.blk;obtain⟨eq,heq⟩:∃eq:aF->Bool,eq=λx=>decide (x.name=y.name):=⟨_,Y⟩
 obtain⟨lt,ah⟩:∃lt:aF->Bool,lt=λx=>cS y x:=⟨_,Y⟩
 rw[<-heq,<-ah];have sh:=hc0.size;refine bA (λi:Nat×Bool×Bool×List aF×Option Addr×Nat=>[(0,.slice a l.length c),(2,.bool put),(4,.pointer (some ⟨b4,0,none⟩)),(8,.slice i.2.2.2.2.1 i.2.2.2.1.length i.2.2.2.2.2),(9,.bool i.2.1),(10,.bool i.2.2.1),(11,.int .i64 i.1)])
  (λi h'=>i.1<=l.length∧ag [] h0 h'∧OL aK 2 h' (.slice i.2.2.2.2.1 i.2.2.2.1.length i.2.2.2.2.2) i.2.2.2.1∧(∀b∈bG i.2.2.2.2.1,h0.size<=b)∧i.2.2.2.1.length<=i.1+i.2.2.1.toNat∧
   ey put eq lt y l false=i.2.2.2.1++ey put eq lt y (l.drop i.1) i.2.2.1∧l.any eq=(i.2.1||(l.drop i.1).any eq)) (λi=>l.length-i.1) (0,false,false,[],none,0)
  J7 ⟨ak8 _,ag.refl h0,OL.nil,by simp[bG],Yy,Y,Y⟩ ?_
 rintro⟨k,th,d,A,a2,c2⟩ h1 ⟨hk,bd,ho,bC,aw,bN,gy⟩;simp only at hk ho bC aw bN gy;have bL:=il.ext bd;refine Bi (λht=>?_) λht=>?_
 .have ij:k<l.length:=V
  obtain⟨b,o,rfl⟩:=bL.addr V;have aI:=bL.cells dm (i:=k) (x:=l[k]) (by simp[ij]);have fX:l.drop k=l[k]::l.drop (k+1):=alx ij;rw[fX,ey]at bN;rw[fX,ao5]at gy;refine Ai V (Ai V (Ei _ (Ai (aI 0 _ Y)<|Ei _ (Ai (an (B4.ae bd Yy) Y)<|Ai (λhe=>?_) (λax=>?_)))))
  .have e1:eq l[k]=true:=by rw[heq];simpa using he
   rw[e1]at bN gy;refine Az<|Ai Y (Ei (k+1,true,d,A,a2,c2) (Ai ?_ (Ai ?_ ?_)))
   .exact J7
   .exact⟨by simp only;omega,bd,ho,bC,by simp only;omega,by simpa using bN,by simpa using gy⟩
   .simp only;omega
  .have e1:eq l[k]=false:=by rw[heq];simpa using ax
   rw[e1]at bN gy;simp only[amH,ana,ao6]at bN gy;have keep:(put&&!d&&lt l[k])=false->ey put eq lt y l false=A++l[k]::ey put eq lt y (l.drop (k+1)) d:=λhb=>by rw[hb]at bN;simpa using bN
   have nW:=gy;cases hp:put with
   |false=>
    subst hp;have jg:=keep Y;have ak2:=(il.ext bd).cells dm (i:=k) (x:=l[k]) (by simp[ij]);refine Ai V (Ai V (Ei (aK l[k]) (Ai Y (Ai ak2 ?_))));intro b6 dn g13;have B6:ai dn b6 (aK l[k]):=g13.blk;refine dZ dm ly Y (ho.ext g13.ae) (SL.one dm B6) (by have:=aw;have:=amF d;simp only[ak1,ak0,aly,al',al7]at*;omega) ?_;intro v14 dJ eY fW jc;have jf:∀b∈aq v14,h0.size<=b:=λb' bh=>by
     rcases jc b' bh with h|h
     .exact bC b' h
     .have:=bd.size;have:=g13.size;omega
    have jd:ag [] h0 dJ:=(bd.nil g13.ae).fresh fW bC;obtain⟨iZ,dM,rfl,_⟩:=eY.form;refine Az<|Ai Y (Ei (k+1,th,d,A++[l[k]],iZ,dM) (Ai ?_ (Ai ?_ ?_)))
    .exact J7
    .exact⟨by simp only;omega,jd,eY,jf,by have:=aw;have:=amF d;simp only[ak1,ak0,aly,al',al7]at*;omega,by rw[jg];simp,nW⟩
    .simp only;omega
   |true=>
    cases hd:d with
    |true=>
     subst hp hd;have jg:=keep Y;have ak2:=(il.ext bd).cells dm (i:=k) (x:=l[k]) (by simp[ij]);refine Ai V (Ai V (Ei (aK l[k]) (Ai Y (Ai ak2 ?_))));intro b6 dn g13;have B6:ai dn b6 (aK l[k]):=g13.blk;refine dZ dm ly Y (ho.ext g13.ae) (SL.one dm B6) (by have:=aw;have:=amF true;simp only[ak1,ak0,aly,al',al7]at*;omega) ?_;intro v14 dJ eY fW jc;have jf:∀b∈aq v14,h0.size<=b:=λb' bh=>by
      rcases jc b' bh with h|h
      .exact bC b' h
      .have:=bd.size;have:=g13.size;omega
     have jd:ag [] h0 dJ:=(bd.nil g13.ae).fresh fW bC;obtain⟨iZ,dM,rfl,_⟩:=eY.form;refine Az<|Ai Y (Ei (k+1,th,true,A++[l[k]],iZ,dM) (Ai ?_ (Ai ?_ ?_)))
     .exact J7
     .exact⟨by simp only;omega,jd,eY,jf,by have:=aw;have:=amF true;simp only[ak1,ak0,aly,al',al7]at*;omega,by rw[jg];simp,nW⟩
     .simp only;omega
    |false=>
     subst hp hd;refine Ei (aK y) (Ai Y (Ai (akW (B4.ae bd Yy)) ?_));have sR:=bL.cells dm (i:=k) (x:=l[k]) (by simp[ij]);refine Ai V (Ai V (Ei (aK l[k]) (Ai Y (Ai sR<|akV (Nk y l[k] hn (hf _ (ak9 ij))) ?_))));rintro r2 h9 ⟨hr,e9⟩;have bd:=bd.nil e9;have ho:=ho.ext e9;have bL:=bL.ext e9;cases hs:cS y l[k]with
     |false=>
      rw[hs]at hr;subst hr;have qO:lt l[k]=false:=by rw[ah];exact hs
      have jg:=keep (by rw[qO];rfl);have ak2:=(il.ext bd).cells dm (i:=k) (x:=l[k]) (by simp[ij]);refine Ai V (Ai V (Ei (aK l[k]) (Ai Y (Ai ak2 ?_))));intro b6 dn g13;have B6:ai dn b6 (aK l[k]):=g13.blk;refine dZ dm ly Y (ho.ext g13.ae) (SL.one dm B6) (by have:=aw;have:=amF false;simp only[ak1,ak0,aly,al',al7]at*;omega) ?_;intro v14 dJ eY fW jc;have jf:∀b∈aq v14,h0.size<=b:=λb' bh=>by
       rcases jc b' bh with h|h
       .exact bC b' h
       .have:=bd.size;have:=g13.size;omega
      have jd:ag [] h0 dJ:=(bd.nil g13.ae).fresh fW bC;obtain⟨iZ,dM,rfl,_⟩:=eY.form;refine Az<|Ai Y (Ei (k+1,th,false,A++[l[k]],iZ,dM) (Ai ?_ (Ai ?_ ?_)))
      .exact J7
      .exact⟨by simp only;omega,jd,eY,jf,by have:=aw;have:=amF false;simp only[ak1,ak0,aly,al',al7]at*;omega,by rw[jg];simp,nW⟩
      .simp only;omega
     |true=>
      rw[hs]at hr;subst hr;have qO:lt l[k]=true:=by rw[ah];exact hs
      rw[qO]at bN;refine Ei (aK y) (Ai Y (Ai (akW (B4.ae bd Yy)) ?_));intro b5 h3 g3;have B5:ai h3 b5 (aK y):=g3.blk;refine dZ dm ly Y (ho.ext g3.ae) (SL.one dm B5) (by have:=aw;simp only[ak0,aly,al',al7]at this⊢;omega) ?_;intro v4 h4 fj dw kg;have uV:∀b∈aq v4,h0.size<=b:=λb' bh=>by
       rcases kg b' bh with h|h
       .exact bC b' h
       .have:=bd.size;have:=g3.size;omega
      have qF:ag [] h0 h4:=(bd.nil g3.ae).fresh dw bC;obtain⟨a4,c4,rfl,_⟩:=fj.form;have uQ:(A++[y]).length<=k+true.toNat:=by have:=aw;simp only[ak1,ak0,aly,al',al7]at this⊢;omega
      have jg:ey true eq lt y l false=(A++[y])++l[k]::ey true eq lt y (l.drop (k+1)) true:=by simpa using bN
      have ak2:=(il.ext qF).cells dm (i:=k) (x:=l[k]) (by simp[ij]);refine Ai V (Ai V (Ei (aK l[k]) (Ai Y (Ai ak2 ?_))));intro b6 dn g13;have B6:ai dn b6 (aK l[k]):=g13.blk;refine dZ dm ly Y (fj.ext g13.ae) (SL.one dm B6) (by have:=uQ;have:=amF true;simp only[ak1,ak0,aly,al',al7]at*;omega) ?_;intro v14 dJ eY fW jc;have jf:∀b∈aq v14,h0.size<=b:=λb' bh=>by
       rcases jc b' bh with h|h
       .exact uV b' h
       .have:=qF.size;have:=g13.size;omega
      have jd:ag [] h0 dJ:=(qF.nil g13.ae).fresh fW uV;obtain⟨iZ,dM,rfl,_⟩:=eY.form;refine Az<|Ai Y (Ei (k+1,th,true,(A++[y])++[l[k]],iZ,dM) (Ai ?_ (Ai ?_ ?_)))
      .exact J7
      .exact⟨by simp only;omega,jd,eY,jf,by have:=uQ;have:=amF true;simp only[ak1,ak0,aly,al',al7]at*;omega,by rw[jg];simp,nW⟩
      .simp only;omega
 .have aZ:k=l.length:=V
  subst aZ;rw[amE,ey]at bN;rw[amE,ao',ao7]at gy;have fin:put=false∨d=true->ey put eq lt y l false=A:=λh=>by
   rw[bN];rcases h with h|h
   .rw[h];simp
   .rw[h];simp
  rw[gy];cases hp:put with
  |false=>
   subst hp;rw[fin (.inl Y)];exact Ai (Ei _ (Ai Y (Ai ho (λb hb=>by have:=bC b hb;omega)))) (hc0.nil bd)
  |true=>
   cases hd:d with
   |true=>
    subst hp hd;rw[fin (.inr Y)];exact Ai (Ei _ (Ai Y (Ai ho (λb hb=>by have:=bC b hb;omega)))) (hc0.nil bd)
   |false=>
    subst hp hd;refine Ei (aK y) (Ai Y (Ai (akW (B4.ae bd Yy)) ?_));intro b5 h3 g3;have B5:ai h3 b5 (aK y):=g3.blk;refine dZ dm ly Y (ho.ext g3.ae) (SL.one dm B5) (by have:=aw;simp only[ak0,aly,al',al7]at this⊢;omega) ?_;intro v4 h4 fj dw kg;have e4:ey true eq lt y l false=A++[y]:=by rw[bN];rfl
    rw[e4];refine Ai (Ei _ (Ai Y (Ai fj (λb' bh=>?_)))) (hc0.nil ((bd.nil g3.ae).fresh dw bC));rcases kg b' bh with h|h
    .have:=bC b' h;omega
    .have:=bd.size;have:=g3.size;omega
end Go.Proofs.YtocgmipngoiieaaGreatDoor
namespace Go.Proofs.YtocgmipngoiieaaGreatDoor
open Go Go.Sx C
def AR(op:Int):Value:=match fD op with
 |some r=>.tuple #[.bool r.name,.bool r.text,.bool r.number,.bool true]
 |none=>.tuple #[.bool false,.bool false,.bool false,.bool false]
def zQ(op:Int):Int:=match fD op with
 |some r=>r.kind
 |none=>0
def ahZ{h:af}(op:Int):aj Tryz.prog 99 [.int .i64 op] h (ao λr h'=>r=AR op∧h'=h):=by
 refine f99.c<|Bi (λh1=>?_) λn1=>?_
 .subst h1;exact Ai Y Y
 refine Bi (λh4=>?_) λn4=>?_
 .subst h4;exact Ai Y Y
 refine Bi (λh9=>?_) λn9=>?_
 .subst h9;exact Ai Y Y
 refine Bi (λbp=>?_) λn10=>?_
 .subst bp;exact Ai Y Y
 refine Bi (λh2=>?_) λn2=>?_
 .subst h2;exact Ai Y Y
 refine Bi (λh7=>?_) λn7=>?_
 .subst h7;exact Ai Y Y
 refine Bi (λh8=>?_) λn8=>?_
 .subst h8;exact Ai Y Y
 refine Bi (λh3=>?_) λn3=>?_
 .subst h3;exact Ai Y Y
 refine Bi (λh5=>?_) λn5=>?_
 .subst h5;exact Ai Y Y
 refine Bi (λh6=>?_) λn6=>?_
 .subst h6;exact Ai Y Y
 refine Bi (λcO=>?_) λn12=>?_
 .subst cO;exact Ai Y Y
 refine Bi (λdn=>?_) λn13=>?_
 .subst dn;exact Ai Y Y
 refine Bi (λjW=>?_) λn15=>?_
 .subst jW;exact Ai Y Y
 refine Bi (λdO=>?_) λn11=>?_
 .subst dO;exact Ai Y Y
 refine Bi (λdJ=>?_) λn14=>?_
 .subst dJ;exact Ai Y Y
 have e:fD op=none:=by unfold fD;simp[n1,n2,n3,n4,n5,n6,n7,n8,n9,n10,n11,n12,n13,n14,n15]
 exact Ai (by unfold AR;rw[e];rfl) Y
def GD{h:af}(op:Int):aj Tryz.prog 100 [.int .i64 op] h (ao λr h'=>r=.int .i64 (zQ op)∧h'=h):=by
 refine f100.c<|Bi (λh5=>?_) λn5=>?_
 .subst h5;exact Ai Y Y
 refine Bi (λh6=>?_) λn6=>?_
 .subst h6;exact Ai Y Y
 refine Bi (λh7=>?_) λn7=>?_
 .subst h7;exact Ai Y Y
 refine Bi (λh8=>?_) λn8=>?_
 .subst h8;exact Ai Y Y
 refine Bi (λh9=>?_) λn9=>?_
 .subst h9;exact Ai Y Y
 refine Bi (λbp=>?_) λn10=>?_
 .subst bp;exact Ai Y Y
 refine Bi (λdO=>?_) λn11=>?_
 .subst dO;exact Ai Y Y
 refine Bi (λcO=>?_) λn12=>?_
 .subst cO;exact Ai Y Y
 refine Bi (λdn=>?_) λn13=>?_
 .subst dn;exact Ai Y Y
 refine Bi (λdJ=>?_) λn14=>?_
 .subst dJ;exact Ai Y Y
 refine Bi (λjW=>?_) λn15=>?_
 .subst jW;exact Ai Y Y
 have e:zQ op=0:=by
  unfold zQ fD;simp only[n5,n6,n7,n8,n9,n10,n11,n12,n13,n14,n15,ana]
  by_cases h1:op=1; · rw[ak4 h1]
  by_cases h2:op=2; · rw[akZ h1,ak4 h2]
  by_cases h3:op=3; · rw[akZ h1,akZ h2,ak4 h3]
  by_cases h4:op=4; · rw[akZ h1,akZ h2,akZ h3,ak4 h4]
  rw[akZ h1,akZ h2,akZ h3,akZ h4]
 exact Ai (by rw[e];rfl) Y
def NV{h:af}{vs:List Value}{t:aB}(x:TH h vs t)(n:j' t):aj Tryz.prog 102 [.agg ⟨vs⟩] h (ao λr h'=>r=.int .i64 (dX t)∧ag [] h h'):=by
 have np:=n.p;have nl:=n.l;have nr:=n.r;refine f102.c ?_;intro b1 h1 g1;have B1:ai h1 b1 vs:=g1.blk;obtain⟨pv,lv,rv,rfl,hp,hl,hr⟩:=x;obtain⟨pa,pc,rfl,_⟩:=hp.form;obtain⟨la,lc,rfl,_⟩:=hl.form;obtain⟨ra,rc,rfl,_⟩:=hr.form;refine Ei _ (Ai (an B1 Y) (Ei _ (Ai (an B1 Y)<|Ai Y (λz hz=>?_))));have hz:=cd hz V V;refine Ei _ (Ai (an B1 Y)<|Ai Y (λy hy=>?_));have hy:=cd hy V V;refine Ai ?_ g1.ae;have:y=(dX t:Int):=by unfold dX;omega
 rw[this];rfl
structure py (t:aB):Prop where
 ps:∀x∈t.pairs,x.name.size<4611686018427387904
 ls:∀x∈t.list,x.size<4611686018427387904
 rs:∀x∈t.ranks,x.name.size<4611686018427387904
def NM(h:af)(vs:List Value)(t:aB)(h':af)(us:List Value)(t':aB):Prop:=
 ∀S bq,(∀b∈S,b<h.size)->ag S h' bq->TH bq vs t->TH bq us t'
def H9(h:af)(vs:List Value)(t:aB)(e:aA)(r:Value)(h':af):Prop:=
 (∃us t',r=.tuple #[.agg ⟨us⟩,.int .i64 (bm t e).2]∧NM h vs t h' us t'∧((bm t e).2=0->t'=(bm t e).1))∧ag [] h h'
def yL{h h':af}{vs:List Value}{t t':aB}{e:aA}{us:List Value}{n:Int}(hn:(bm t e).2=n)(x:NM h vs t h' us t')(ht:n=0->t'=(bm t e).1)(c:ag [] h h'):ao (H9 h vs t e) (.returned (j7 [.agg ⟨us⟩,.int .i64 n])) h':=by
 subst hn;exact⟨⟨us,t',Y,x,ht⟩,c⟩
def TH.open{h:af}{t:aB}{k tx hu un pv lv rv:Value}(x:TH h [k,tx,pv,lv,rv,hu,un] t):SL aX h pv t.pairs∧SL encS h lv t.list∧SL aK h rv t.ranks:=by
 obtain⟨p,l,r,he,h1,h2,h3⟩:=x;simp only[anm]at he;obtain⟨_,_,rfl,rfl,rfl,_⟩:=he;exact⟨h1,h2,h3⟩
def aeF{α:Type}{enc:α->List Value}{h:af}{b:Nat}{x:α}{size:Nat}(hs:(enc x).length=size)(B:ai h b (enc x)):OL enc size h (.slice (some ⟨b,0,none⟩) 1 1) [x]:=by
 refine OL.mk (rest:=[]) Y (ali _) ?_ ?_
 .simpa using B
 .simp[hs]
def YA{h:af}{vs:List Value}{t:aB}{e:aA}(x:TH h vs t)(n:j' t)(nm:py t)(hz:e.name.size<4611686018427387904)(ax:e.op=9∨e.op=10->t.list≠[]):aj Tryz.prog 101 [.agg ⟨vs⟩,.agg ⟨cf e⟩] h (ao (H9 h vs t e)):=by
 have np:=n.p;have nl:=n.l;have nr:=n.r;refine f101.c ?_;intro b2 h1 g1;intro b3 h2 g2;intro b4 h3 g3;have i2:=g1.id;have i3:=g2.id;have i4:=g3.id;have z1:=g1.size;have z2:=g2.size;have z3:=g3.size;have bB:ag [] h h3:=(g1.ae.nil g2.ae).nil g3.ae;have B2:ai h3 b2 vs:=((show ai h1 b2 vs from g1.blk).ae g2.ae Yy).ae g3.ae Yy;have B3:ai h3 b3 (cf e):=(show ai h2 b3 (cf e)from g2.blk).ae g3.ae Yy;have B4:ai h3 b4 zeroV:=g3.blk;have zz:h.size+3=h3.size:=V
 have j2:b2=h.size:=V
 have j3:b3=h.size+1:=V
 have j4:b4=h.size+2:=V
 obtain⟨pv,lv,rv,rfl,hp,hl,hr⟩:=x;obtain⟨pa,pc,rfl,_⟩:=hp.form;obtain⟨la,lc,rfl,_⟩:=hl.form;obtain⟨ra,rc,rfl,_⟩:=hr.form;have rU:=hp.ext bB;have oP:=hl.ext bB;have pT:=hr.ext bB;have fin:∀(h9:af)(th:Bool)(n:Int)(t':aB)(us:List Value),ai h9 b2 us->(∀(S:List Nat)(bp:af),(∀b∈S,b<h.size∨b=b4)->ag S h9 bp->SL aX bp (.slice pa t.pairs.length pc) t.pairs->SL encS bp (.slice la t.list.length lc) t.list->SL aK bp (.slice ra t.ranks.length rc) t.ranks->TH bp us t')->ai h9 b4 zeroV->ag [] h h9->(bm t e).2=n->(th=true->n=0∧t'=(bm t e).1)->(th=false->n=5)->
   swp Tryz.prog f101.sc.r.r.r (cC [.cn 4 7,.t 5] (ao (H9 h [.int .i64 t.kind,.string t.text,.slice pa t.pairs.length pc,.slice la t.list.length lc,.slice ra t.ranks.length rc,.bool t.cP,.int .i64 t.bQ] t e))) (mk [(2,ptr b2),(4,ptr b4),(6,.bool th)]) [] h9:=by
  intro h9 th n t' us C2 tx C4 c hn h1 h2;have sA:=tx [] h9 Yy (ag.refl h9) (hp.ext c) (hl.ext c) (hr.ext c);cases th with
  |false=>
   have h2:=h2 Y;subst h2;refine Ei us (Ai sA.len (Ai (akW C2)<|Ei _ (Ai C4 (Ai Dd (Ai sA.len (Ai (dB sA) ?_))))));intro bp jn;have H8:ai bp b4 us:=by
    have h8:ai bp b4 (splice zeroV 0 us):=jn.blk;rw[seven Y sA.len]at h8;exact h8
   exact Ei us (Ai sA.len (Ai (akW H8)<|yL hn (λS dO hS iO yd=>tx (b4::S) dO (λb hb=>(ak3.1 hb).elim .inr (λhb=>.inl (hS b hb))) ((jn.ae.mono Yy).step iO (λk hk _=>alr _ hk)) yd.open.1 yd.open.2.1 yd.open.2.2) (λh=>absurd h Dd) (c.fresh jn.ae Ys)))
  |true=>
   obtain⟨h1,jV⟩:=h1 Y;subst h1;refine Ei us (Ai sA.len (Ai (akW C2)<|Ei _ (Ai C4 (Ai Dd (Ai sA.len (Ai (dB sA) ?_))))));intro bp jn;have H8:ai bp b4 us:=by
    have h8:ai bp b4 (splice zeroV 0 us):=jn.blk;rw[seven Y sA.len]at h8;exact h8
   exact Ei us (Ai sA.len (Ai (akW H8)<|yL hn (λS dO hS iO yd=>tx (b4::S) dO (λb hb=>(ak3.1 hb).elim .inr (λhb=>.inl (hS b hb))) ((jn.ae.mono Yy).step iO (λk hk _=>alr _ hk)) yd.open.1 yd.open.2.1 yd.open.2.2) (λ_=>jV) (c.fresh jn.ae Ys)))
 clear g1 g2 g3;refine Ei _ (Ai (an B3 Y)<|Bi (λbz=>?_) λn1=>?_)
 .have hd:bm t e=(aL,0):=by unfold bm;simp[bz]
  refine Ei _ (Ai B4 (Ai Dd (Ai Y (Ai (dB (t:=aL) (h:=h3) jA) ?_))));intro h4 p4;have C4:ai h4 b4 zeroV:=p4.blk;exact Ei zeroV (Ai Y (Ai (akW C4)<|yL (by rw[hd]) (t':=aL) (λ_ _ _ _ _=>jA) (λ_=>by rw[hd]) (bB.fresh p4.ae Ys)))
 refine Bi (λbz=>?_) λn2=>?_
 .have hd:bm t e=((rA e.text),0):=by unfold bm;simp[bz]
  refine Ei _ (Ai (an B3 Y)<|Ei _ (Ai B4 (Ai Dd (Ai Y (Ai (dB (t:=(rA e.text)) (h:=h3) MT) ?_)))));intro h4 p4;have C4:ai h4 b4 (MS e.text):=p4.blk;exact Ei (MS e.text) (Ai Y (Ai (akW C4)<|yL (by rw[hd]) (t':=(rA e.text)) (λ_ _ _ _ _=>MT) (λ_=>by rw[hd]) (bB.fresh p4.ae Ys)))
 refine Bi (λbz=>?_) λn3=>?_
 .have hd:bm t e=({t with cP:=true,bQ:=e.num},0):=by unfold bm;simp[bz]
  refine Ai ?_ ?_
  .refine Ei _ (Ai (an B3 Y)<|Ei _ (Ai B2 (Ai Yy (Ai Y (Ai (cM Y) ?_)))));intro h4 p4;have C2:ai h4 b2 [.int .i64 t.kind,.string t.text,.slice pa t.pairs.length pc,.slice la t.list.length lc,.slice ra t.ranks.length rc,.bool true,.int .i64 t.bQ]:=p4.blk;have C3:ai h4 b3 (cf e):=B3.ae p4.ae Ys;refine Ei _ (Ai C2 (Ai Yy (Ai Y (Ai (cM Y) ?_))));intro h5 p5;have D2:ai h5 b2 [.int .i64 t.kind,.string t.text,.slice pa t.pairs.length pc,.slice la t.list.length lc,.slice ra t.ranks.length rc,.bool true,.int .i64 e.num]:=p5.blk;have rI:ag [b2] h3 h5:=p4.ae.trans p5.ae (λ_ hx=>hx) (λ_ hx _=>hx);exact aW [(2,ptr b2),(4,ptr b4),(6,.bool (true))] J3 (fin h5 (true) (0) {t with cP:=true,bQ:=e.num} _ (D2) (λS bp hS c2 q1 q2 q3=>⟨_,_,_,Y,q1,q2,q3⟩) (B4.ae rI Ys) (bB.fresh rI Ys) (by rw[hd]) (λ_=>⟨Y,by rw[hd]⟩) (λh=>absurd h Dd))
  .refine Ei _ (Ai B2 (Ai Yy (Ai Y (Ai (cM Y) ?_))));intro h4 p4;have C2:ai h4 b2 [.int .i64 t.kind,.string t.text,.slice pa t.pairs.length pc,.slice la t.list.length lc,.slice ra t.ranks.length rc,.bool true,.int .i64 t.bQ]:=p4.blk;have C3:ai h4 b3 (cf e):=B3.ae p4.ae Ys;refine Ei _ (Ai (an C3 Y)<|Ei _ (Ai C2 (Ai Yy (Ai Y (Ai (cM Y) ?_)))));intro h5 p5;have D2:ai h5 b2 [.int .i64 t.kind,.string t.text,.slice pa t.pairs.length pc,.slice la t.list.length lc,.slice ra t.ranks.length rc,.bool true,.int .i64 e.num]:=p5.blk;have rI:ag [b2] h3 h5:=p4.ae.trans p5.ae (λ_ hx=>hx) (λ_ hx _=>hx);exact aW [(2,ptr b2),(4,ptr b4),(6,.bool (true))] J3 (fin h5 (true) (0) {t with cP:=true,bQ:=e.num} _ (D2) (λS bp hS c2 q1 q2 q3=>⟨_,_,_,Y,q1,q2,q3⟩) (B4.ae rI Ys) (bB.fresh rI Ys) (by rw[hd]) (λ_=>⟨Y,by rw[hd]⟩) (λh=>absurd h Dd))
 refine Bi (λbz=>?_) λn4=>?_
 .have hd:bm t e=({t with cP:=false,bQ:=0},0):=by unfold bm;simp[bz]
  refine Ei _ (Ai B2 (Ai Yy (Ai Y (Ai (cM Y) ?_))));intro h4 p4;have C2:ai h4 b2 [.int .i64 t.kind,.string t.text,.slice pa t.pairs.length pc,.slice la t.list.length lc,.slice ra t.ranks.length rc,.bool false,.int .i64 t.bQ]:=p4.blk;refine Ei _ (Ai C2 (Ai Yy (Ai Y (Ai (cM Y) ?_))));intro h5 p5;have D2:ai h5 b2 [.int .i64 t.kind,.string t.text,.slice pa t.pairs.length pc,.slice la t.list.length lc,.slice ra t.ranks.length rc,.bool false,.int .i64 0]:=p5.blk;have rI:ag [b2] h3 h5:=p4.ae.trans p5.ae (λ_ hx=>hx) (λ_ hx _=>hx);exact aW [(2,ptr b2),(4,ptr b4),(6,.bool (true))] J3 (fin h5 (true) (0) {t with cP:=false,bQ:=0} _ (D2) (λS bp hS c2 q1 q2 q3=>⟨_,_,_,Y,q1,q2,q3⟩) (B4.ae rI Ys) (bB.fresh rI Ys) (by rw[hd]) (λ_=>⟨Y,by rw[hd]⟩) (λh=>absurd h Dd))
 refine Bi (λbz=>?_) λn5=>?_
 .have hd:bm t e=({t with pairs:=cQ (λx=>decide (x.name=e.name)) (λx=>aP e.name x.name) ⟨e.name,e.text⟩ t.pairs false},0):=by unfold bm;simp[bz]
  refine Ei _ (Ai (an B2 Y) (Ei _ (Ai (an B3 Y) (Ei _ (Ai (an B3 Y)<|akV (S2 e.name e.text true rU V hz nm.ps) ?_)))));rintro _ h4 ⟨⟨u,rfl,ho,bC⟩,c4⟩;rw[Cg]at ho;obtain⟨ua,uc,rfl,_⟩:=ho.sl.form;refine Ei _ (Ai (B2.ae c4 Yy) (Ai Yy (Ai Y (Ai (cM Y) ?_))));intro h5 p5;have c5:ag [] h h5:=(bB.nil c4).fresh p5.ae Ys;have dS:=ho.ae p5.ae (λb hb=>by have:=bC b hb;simp;omega);have C4:ai h5 b4 zeroV:=(B4.ae c4 Yy).ae p5.ae Ys;exact aW [(2,ptr b2),(4,ptr b4),(6,.bool (true))] J3 (fin h5 (true) (0) ({t with pairs:=cQ (λx=>decide (x.name=e.name)) (λx=>aP e.name x.name) ⟨e.name,e.text⟩ t.pairs false}) _ (p5.blk) (λS bp hS c2 q1 q2 q3=>⟨_,_,_,Y,(dS.ae c2 (λb hb hx=>by have:=bC b hb;have:=hS b hx;omega)).sl,q2,q3⟩) (C4) (c5) (by rw[hd]) (λ_=>⟨Y,by rw[hd]⟩) (λh=>absurd h Dd))
 refine Bi (λbz=>?_) λn6=>?_
 .have hd:bm t e=({t with pairs:=dC (λx=>decide (x.name=e.name)) t.pairs},if t.pairs.any (λx=>decide (x.name=e.name))then 0 else 5):=by unfold bm;simp[bz]
  refine Ei _ (Ai (an B2 Y) (Ei _ (Ai (an B3 Y)<|akV (S2 e.name ⟨#[]⟩ false rU V hz nm.ps) ?_)));rintro _ h4 ⟨⟨u,rfl,ho,bC⟩,c4⟩;rw[Ce]at ho;obtain⟨ua,uc,rfl,_⟩:=ho.sl.form;refine Ei _ (Ai (B2.ae c4 Yy) (Ai Yy (Ai Y (Ai (cM Y) ?_))));intro h5 p5;have c5:ag [] h h5:=(bB.nil c4).fresh p5.ae Ys;have dS:=ho.ae p5.ae (λb hb=>by have:=bC b hb;simp;omega);have C4:ai h5 b4 zeroV:=(B4.ae c4 Yy).ae p5.ae Ys;exact aW [(2,ptr b2),(4,ptr b4),(6,.bool (t.pairs.any (λx=>decide (x.name=e.name))))] J3 (fin h5 (t.pairs.any (λx=>decide (x.name=e.name))) (if t.pairs.any (λx=>decide (x.name=e.name))then 0 else 5) ({t with pairs:=dC (λx=>decide (x.name=e.name)) t.pairs}) _ (p5.blk) (λS bp hS c2 q1 q2 q3=>⟨_,_,_,Y,(dS.ae c2 (λb hb hx=>by have:=bC b hb;have:=hS b hx;omega)).sl,q2,q3⟩) (C4) (c5) (by rw[hd]) (λh=>⟨ak4 h,by rw[hd]⟩) (λh=>akZ (by rw[h];simp)))
 refine Bi (λbz=>?_) λn7=>?_
 .have hd:bm t e=({t with list:=e.text::t.list},0):=by unfold bm;simp[bz]
  refine Ei _ (Ai (an B3 Y) ?_);intro b5 h4 g4;have i5:=g4.id;have s4:=g4.size;have own:OL encS 1 h4 (.slice (some ⟨b5,0,none⟩) 1 1) [e.text]:=aeF Y g4.blk;have C2:=B2.ae g4.ae Yy;refine Ei _ (Ai (an C2 Y)<|dZ bj fP Y own (oP.ext g4.ae) Ys ?_);intro v5 h5 dS dY cK;have bC:∀b∈aq v5,h3.size<=b:=λb hb=>by
   rcases cK b hb with h|h
   .simp[bG]at h;omega
   .omega
  obtain⟨va,vc,rfl,_⟩:=dS.sl.form;have dS:OL encS 1 h5 _ (e.text::t.list):=dS;have c5:ag [] h3 h5:=g4.ae.fresh dY (by simp[bG];omega);refine Ei _ (Ai (B2.ae c5 Yy) (Ai Yy (Ai Y (Ai (cM Y) ?_))));intro h9 p9;have tw:=dS.ae p9.ae (λb hb=>by have:=bC b hb;simp;omega);exact aW [(2,ptr b2),(4,ptr b4),(6,.bool (true))] J3 (fin h9 (true) (0) ({t with list:=e.text::t.list}) _ (p9.blk) (λS bp hS c2 q1 q2 q3=>⟨_,_,_,Y,q1,(tw.ae c2 (λb hb hx=>by have:=bC b hb;have:=hS b hx;omega)).sl,q3⟩) ((B4.ae c5 Yy).ae p9.ae Ys) ((bB.nil c5).fresh p9.ae Ys) (by rw[hd]) (λ_=>⟨Y,by rw[hd]⟩) (λh=>absurd h Dd))
 refine Bi (λbz=>?_) λn8=>?_
 .have hd:bm t e=({t with list:=t.list++[e.text]},0):=by unfold bm;simp[bz]
  refine Ei _ (Ai (an B2 Y) (Ei _ (Ai (an B3 Y)<|Ai ?_ ?_)))
  .refine vT bj fP Y oP V ?_;intro v5 h5 dS dY cK;intro b6 h6 g6;obtain⟨va,vc,rfl,_⟩:=dS.sl.form;have c6:ag [] h3 h6:=dY.nil g6.ae;have z5:=dY.size;have own:=dS.ext g6.ae;have one:SL encS h6 (.slice (some ⟨b6,0,none⟩) 1 1) [e.text]:=SL.one bj g6.blk;have z6:=g6.size;refine dZ bj fP Y own one Ys ?_;intro v7 h7 CX kK Cp;have bC:∀b∈aq v7,h3.size<=b:=λb hb=>by
    rcases Cp b hb with h|h
    .exact cK b h
    .omega
   obtain⟨wa,wc,rfl,_⟩:=CX.sl.form;have c7:ag [] h3 h7:=c6.fresh kK cK;refine Ei _ (Ai (B2.ae c7 Yy) (Ai Yy (Ai Y (Ai (cM Y) ?_))));intro h9 p9;have tw:=CX.ae p9.ae (λb hb=>by have:=bC b hb;simp;omega);exact aW [(2,ptr b2),(4,ptr b4),(6,.bool (true))] J3 (fin h9 (true) (0) ({t with list:=t.list++[e.text]}) _ (p9.blk) (λS bp hS c2 q1 q2 q3=>⟨_,_,_,Y,q1,(tw.ae c2 (λb hb hx=>by have:=bC b hb;have:=hS b hx;omega)).sl,q3⟩) ((B4.ae c7 Yy).ae p9.ae Ys) ((bB.nil c7).fresh p9.ae Ys) (by rw[hd]) (λ_=>⟨Y,by rw[hd]⟩) (λh=>absurd h Dd))
  .intro b6 h4 g4;refine vT bj fP Y (oP.ext g4.ae) V ?_;intro v5 h6 own dY abI;have z5:=g4.size;have cK:∀b∈aq v5,h3.size<=b:=λb hb=>by have:=abI b hb;omega
   obtain⟨va,vc,rfl,_⟩:=own.sl.form;have c6:ag [] h3 h6:=g4.ae.nil dY;have one:SL encS h6 (.slice (some ⟨b6,0,none⟩) 1 1) [e.text]:=(SL.one bj (show ai h4 b6 (encS e.text)from g4.blk)).ext dY;have z6:=dY.size;refine dZ bj fP Y own one Ys ?_;intro v7 h7 CX kK Cp;have bC:∀b∈aq v7,h3.size<=b:=λb hb=>by
    rcases Cp b hb with h|h
    .exact cK b h
    .omega
   obtain⟨wa,wc,rfl,_⟩:=CX.sl.form;have c7:ag [] h3 h7:=c6.fresh kK cK;refine Ei _ (Ai (B2.ae c7 Yy) (Ai Yy (Ai Y (Ai (cM Y) ?_))));intro h9 p9;have tw:=CX.ae p9.ae (λb hb=>by have:=bC b hb;simp;omega);exact aW [(2,ptr b2),(4,ptr b4),(6,.bool (true))] J3 (fin h9 (true) (0) ({t with list:=t.list++[e.text]}) _ (p9.blk) (λS bp hS c2 q1 q2 q3=>⟨_,_,_,Y,q1,(tw.ae c2 (λb hb hx=>by have:=bC b hb;have:=hS b hx;omega)).sl,q3⟩) ((B4.ae c7 Yy).ae p9.ae Ys) ((bB.nil c7).fresh p9.ae Ys) (by rw[hd]) (λ_=>⟨Y,by rw[hd]⟩) (λh=>absurd h Dd))
 refine Bi (λbz=>?_) λn9=>?_
 .have hd:bm t e=({t with list:=t.list.tail},0):=by unfold bm;simp[bz]
  have hlen:0<t.list.length:=am8.2 (ax V);refine Ei _ (Ai (an B2 Y)<|SL.slc (lo:=1) bj oP V (ali _) ?_);intro a4 _ mq;have e4:(t.list.drop 1).take (t.list.length-1)=t.list.tail:=by rw[amo Yy,List.drop_one]
  rw[e4]at mq;refine vT bj fP Y mq Ys ?_;intro v5 h5 dS c5 cK;obtain⟨va,vc,rfl,_⟩:=dS.sl.form;refine Ei _ (Ai (B2.ae c5 Yy) (Ai Yy (Ai Y (Ai (cM Y) ?_))));intro h9 p9;have tw:=dS.ae p9.ae (λb hb=>by have:=cK b hb;simp;omega);exact aW [(2,ptr b2),(4,ptr b4),(6,.bool (true))] J3 (fin h9 (true) (0) ({t with list:=t.list.tail}) _ (p9.blk) (λS bp hS c2 q1 q2 q3=>⟨_,_,_,Y,q1,(tw.ae c2 (λb hb hx=>by have:=cK b hb;have:=hS b hx;omega)).sl,q3⟩) ((B4.ae c5 Yy).ae p9.ae Ys) ((bB.nil c5).fresh p9.ae Ys) (by rw[hd]) (λ_=>⟨Y,by rw[hd]⟩) (λh=>absurd h Dd))
 refine Bi (λbz=>?_) λn10=>?_
 .have hd:bm t e=({t with list:=t.list.dropLast},0):=by unfold bm;simp[bz]
  have hlen:0<t.list.length:=am8.2 (ax V);refine Ei _ (Ai (an B2 Y) (Ei _ (Ai (an B2 Y)<|Ai Y (λz jk=>?_))));have jk:z=((t.list.length-1:Nat):Int):=by have:=mG jk V V;omega
  subst jk;refine SL.slc (lo:=0) (hi:=t.list.length-1) bj oP V V ?_;intro a4 _ mq;have e4:(t.list.drop 0).take (t.list.length-1-0)=t.list.dropLast:=by rw[ao0,anj,anw]
  rw[e4]at mq;simp only[anw]at mq⊢;refine vT bj fP Y mq Ys ?_;intro v5 h5 dS c5 cK;obtain⟨va,vc,rfl,_⟩:=dS.sl.form;refine Ei _ (Ai (B2.ae c5 Yy) (Ai Yy (Ai Y (Ai (cM Y) ?_))));intro h9 p9;have tw:=dS.ae p9.ae (λb hb=>by have:=cK b hb;simp;omega);exact aW [(2,ptr b2),(4,ptr b4),(6,.bool (true))] J3 (fin h9 (true) (0) ({t with list:=t.list.dropLast}) _ (p9.blk) (λS bp hS c2 q1 q2 q3=>⟨_,_,_,Y,q1,(tw.ae c2 (λb hb hx=>by have:=cK b hb;have:=hS b hx;omega)).sl,q3⟩) ((B4.ae c5 Yy).ae p9.ae Ys) ((bB.nil c5).fresh p9.ae Ys) (by rw[hd]) (λ_=>⟨Y,by rw[hd]⟩) (λh=>absurd h Dd))
 refine Bi (λbz=>?_) λn11=>?_
 .have ed:bm t e=(if 0<=e.num∧e.num<t.list.length then({t with list:=t.list.set e.num.toNat e.text},0)else(t,4)):=by unfold bm;simp[bz]
  refine Ei _ (Ai (an B3 Y)<|Bi (λgz=>?_) λgz=>?_)
  .have hd:bm t e=(t,4):=by rw[ed,akZ V]
   have sw:TH h3 [.int .i64 t.kind,.string t.text,.slice pa t.pairs.length pc,.slice la t.list.length lc,.slice ra t.ranks.length rc,.bool t.cP,.int .i64 t.bQ] t:=⟨_,_,_,Y,rU,oP,pT⟩
   refine Ei _ (Ai Y (Ai (akW B2)<|Ei _ (Ai B4 (Ai Dd (Ai Y (Ai (dB sw) ?_))))));intro h4 p4;have C4:ai h4 b4 [.int .i64 t.kind,.string t.text,.slice pa t.pairs.length pc,.slice la t.list.length lc,.slice ra t.ranks.length rc,.bool t.cP,.int .i64 t.bQ]:=p4.blk;refine Ei _ (Ai Y (Ai (akW C4) ?_));have c1:=bB.fresh p4.ae Ys;exact yL (by rw[hd]) (t':=t) (λ_ _ _ _ x=>x) (λh=>absurd h Dd) c1
  refine Ei _ (Ai (an B3 Y) (Ei _ (Ai (an B2 Y)<|Bi (λuR=>?_) λuR=>?_)))
  .have hd:bm t e=(t,4):=by rw[ed,akZ V]
   have sw:TH h3 [.int .i64 t.kind,.string t.text,.slice pa t.pairs.length pc,.slice la t.list.length lc,.slice ra t.ranks.length rc,.bool t.cP,.int .i64 t.bQ] t:=⟨_,_,_,Y,rU,oP,pT⟩
   refine Ei _ (Ai Y (Ai (akW B2)<|Ei _ (Ai B4 (Ai Dd (Ai Y (Ai (dB sw) ?_))))));intro h4 p4;have C4:ai h4 b4 [.int .i64 t.kind,.string t.text,.slice pa t.pairs.length pc,.slice la t.list.length lc,.slice ra t.ranks.length rc,.bool t.cP,.int .i64 t.bQ]:=p4.blk;refine Ei _ (Ai Y (Ai (akW C4) ?_));have c1:=bB.fresh p4.ae Ys;exact yL (by rw[hd]) (t':=t) (λ_ _ _ _ x=>x) (λh=>absurd h Dd) c1
  have hin:0<=e.num∧e.num<t.list.length:=V
  have hd:bm t e=({t with list:=t.list.set e.num.toNat e.text},0):=by rw[ed,ak4 hin]
  obtain⟨n,fB⟩:∃n:Nat,e.num=n:=⟨e.num.toNat,V⟩
  have lL:n<t.list.length:=V
  have wZ:e.num.toNat=n:=V
  refine Ei _ (Ai (an B2 Y)<|vT bj fP Y oP V ?_);intro v5 h5 dS c5 cK;obtain⟨va,vc,rfl,hvc⟩:=dS.sl.form;have s5:=c5.size;refine Ei _ (Ai (B2.ae c5 Yy) (Ai Yy (Ai Y (Ai (cM Y) ?_))));intro h6 p6;have C2:ai h6 b2 [.int .i64 t.kind,.string t.text,.slice pa t.pairs.length pc,.slice va t.list.length vc,.slice ra t.ranks.length rc,.bool t.cP,.int .i64 t.bQ]:=p6.blk;have c6:ag [b2] h3 h6:=(c5.mono Yy).trans p6.ae (λ_ hx=>hx) (λ_ hx _=>hx);have C3:ai h6 b3 (cf e):=B3.ae c6 Ys;have ho6:=dS.ae p6.ae (λb hb=>by have:=cK b hb;simp;omega);obtain⟨_,lM⟩:=ho6.open;rcases lM with⟨_,e0,_⟩|⟨b,rfl,hle,rest,B,dD⟩
  .rw[e0]at lL;exact absurd lL Yy
  have eO:h3.size<=b:=cK b (by simp[aq,bG]);refine Ei _ (Ai (an C2 Y) (Ei _ (Ai (an C3 Y) (Ei _ (Ai (an C3 Y)<|Ai hin.1 (Ai hin.2 ?_))))));obtain⟨q1,q2⟩:=ME (enc:=encS) t.list n lL e.text rest;rw[q1]at B;refine Ei _ (Ai B (Ai ?_ (Ai Y (Ai (cM Y) ?_))))
  .rw[wZ,<-q1,dD];omega
  intro h7 p7;have zi:=pq bj t.list n V;have e7:splice ((t.list.take n).flatMap encS++(encS t.list[n]++((t.list.drop (n+1)).flatMap encS++rest))) (0+e.num.toNat*1) [.string e.text]=(t.list.set n e.text).flatMap encS++rest:=by
   rw[q2,wZ,show 0+n*1=((t.list.take n).flatMap encS).length by rw[zi];omega];exact vG _ _ _ _ Y
  have P7:dL h6 h7 b ((t.list.set n e.text).flatMap encS++rest):=by
   rw[<-e7];exact p7
  have O7:OL encS 1 h7 (.slice (some ⟨b,0,none⟩) t.list.length vc) (t.list.set n e.text):=by
   refine OL.mk (rest:=rest) Yy (by simp;exact hle) P7.blk ?_;rw[<-dD];simp only[ak1,kJ bj,anE]
  have c7:ag [b2,b] h3 h7:=(c6.mono Yy).trans P7.ae (λ_ hx=>hx) (λx hx _=>by simp at hx;simp[hx]);have D2:=C2.ae P7.ae Ys;rw[wZ]at hd;exact aW [(2,ptr b2),(4,ptr b4),(6,.bool (true))] J3 (fin h7 (true) (0) {t with list:=t.list.set n e.text} _ (D2) (λS bp hS c2 q1 q2 q3=>⟨_,_,_,Yy,q1,(O7.ae c2 (λb hb hx=>by simp[aq,bG]at hb;have:=hS b hx;omega)).sl,q3⟩) (B4.ae c7 Ys) (bB.fresh c7 Ys) (by rw[hd]) (λ_=>⟨Y,by rw[hd]⟩) (λh=>absurd h Dd))
 refine Bi (λbz=>?_) λn12=>?_
 .have hd:bm t e=({t with list:=cQ (λx=>decide (x=e.name)) (λx=>aP e.name x) e.name t.list false},0):=by unfold bm;simp[bz]
  refine Ei _ (Ai (an B2 Y) (Ei _ (Ai (an B3 Y)<|akV (R7 e.name true oP V hz nm.ls) ?_)));rintro _ h4 ⟨⟨u,rfl,ho,bC⟩,c4⟩;rw[Cg]at ho;obtain⟨ua,uc,rfl,_⟩:=ho.sl.form;refine Ei _ (Ai (B2.ae c4 Yy) (Ai Yy (Ai Y (Ai (cM Y) ?_))));intro h5 p5;have c5:ag [] h h5:=(bB.nil c4).fresh p5.ae Ys;have dS:=ho.ae p5.ae (λb hb=>by have:=bC b hb;simp;omega);have C4:ai h5 b4 zeroV:=(B4.ae c4 Yy).ae p5.ae Ys;exact aW [(2,ptr b2),(4,ptr b4),(6,.bool (true))] J3 (fin h5 (true) (0) ({t with list:=cQ (λx=>decide (x=e.name)) (λx=>aP e.name x) e.name t.list false}) _ (p5.blk) (λS bp hS c2 q1 q2 q3=>⟨_,_,_,Y,q1,(dS.ae c2 (λb hb hx=>by have:=bC b hb;have:=hS b hx;omega)).sl,q3⟩) (C4) (c5) (by rw[hd]) (λ_=>⟨Y,by rw[hd]⟩) (λh=>absurd h Dd))
 refine Bi (λbz=>?_) λn13=>?_
 .have hd:bm t e=({t with list:=dC (λx=>decide (x=e.name)) t.list},if t.list.any (λx=>decide (x=e.name))then 0 else 5):=by unfold bm;simp[bz]
  refine Ei _ (Ai (an B2 Y) (Ei _ (Ai (an B3 Y)<|akV (R7 e.name false oP V hz nm.ls) ?_)));rintro _ h4 ⟨⟨u,rfl,ho,bC⟩,c4⟩;rw[Ce]at ho;obtain⟨ua,uc,rfl,_⟩:=ho.sl.form;refine Ei _ (Ai (B2.ae c4 Yy) (Ai Yy (Ai Y (Ai (cM Y) ?_))));intro h5 p5;have c5:ag [] h h5:=(bB.nil c4).fresh p5.ae Ys;have dS:=ho.ae p5.ae (λb hb=>by have:=bC b hb;simp;omega);have C4:ai h5 b4 zeroV:=(B4.ae c4 Yy).ae p5.ae Ys;exact aW [(2,ptr b2),(4,ptr b4),(6,.bool (t.list.any (λx=>decide (x=e.name))))] J3 (fin h5 (t.list.any (λx=>decide (x=e.name))) (if t.list.any (λx=>decide (x=e.name))then 0 else 5) ({t with list:=dC (λx=>decide (x=e.name)) t.list}) _ (p5.blk) (λS bp hS c2 q1 q2 q3=>⟨_,_,_,Y,q1,(dS.ae c2 (λb hb hx=>by have:=bC b hb;have:=hS b hx;omega)).sl,q3⟩) (C4) (c5) (by rw[hd]) (λh=>⟨ak4 h,by rw[hd]⟩) (λh=>akZ (by rw[h];simp)))
 refine Bi (λbz=>?_) λn14=>?_
 .have hd:bm t e=({t with ranks:=cQ (λx=>decide (x.name=e.name)) (λx=>cS ⟨e.name,e.num⟩ x) ⟨e.name,e.num⟩ t.ranks false},0):=by unfold bm;simp[bz]
  refine Ei _ (Ai (an B2 Y) (Ei _ (Ai (an B3 Y) (Ei _ (Ai (an B3 Y)<|akV (TY ⟨e.name,e.num⟩ true pT V hz nm.rs) ?_)))));rintro _ h4 ⟨⟨u,rfl,ho,bC⟩,c4⟩;rw[Cg]at ho;obtain⟨ua,uc,rfl,_⟩:=ho.sl.form;refine Ei _ (Ai (B2.ae c4 Yy) (Ai Yy (Ai Y (Ai (cM Y) ?_))));intro h5 p5;have c5:ag [] h h5:=(bB.nil c4).fresh p5.ae Ys;have dS:=ho.ae p5.ae (λb hb=>by have:=bC b hb;simp;omega);have C4:ai h5 b4 zeroV:=(B4.ae c4 Yy).ae p5.ae Ys;exact aW [(2,ptr b2),(4,ptr b4),(6,.bool (true))] J3 (fin h5 (true) (0) ({t with ranks:=cQ (λx=>decide (x.name=e.name)) (λx=>cS ⟨e.name,e.num⟩ x) ⟨e.name,e.num⟩ t.ranks false}) _ (p5.blk) (λS bp hS c2 q1 q2 q3=>⟨_,_,_,Y,q1,q2,(dS.ae c2 (λb hb hx=>by have:=bC b hb;have:=hS b hx;omega)).sl⟩) (C4) (c5) (by rw[hd]) (λ_=>⟨Y,by rw[hd]⟩) (λh=>absurd h Dd))
 refine Bi (λbz=>?_) λn15=>?_
 .have hd:bm t e=({t with ranks:=dC (λx=>decide (x.name=e.name)) t.ranks},if t.ranks.any (λx=>decide (x.name=e.name))then 0 else 5):=by unfold bm;simp[bz]
  refine Ei _ (Ai (an B2 Y) (Ei _ (Ai (an B3 Y)<|akV (TY ⟨e.name,0⟩ false pT V hz nm.rs) ?_)));rintro _ h4 ⟨⟨u,rfl,ho,bC⟩,c4⟩;rw[Ce]at ho;obtain⟨ua,uc,rfl,_⟩:=ho.sl.form;refine Ei _ (Ai (B2.ae c4 Yy) (Ai Yy (Ai Y (Ai (cM Y) ?_))));intro h5 p5;have c5:ag [] h h5:=(bB.nil c4).fresh p5.ae Ys;have dS:=ho.ae p5.ae (λb hb=>by have:=bC b hb;simp;omega);have C4:ai h5 b4 zeroV:=(B4.ae c4 Yy).ae p5.ae Ys;exact aW [(2,ptr b2),(4,ptr b4),(6,.bool (t.ranks.any (λx=>decide (x.name=e.name))))] J3 (fin h5 (t.ranks.any (λx=>decide (x.name=e.name))) (if t.ranks.any (λx=>decide (x.name=e.name))then 0 else 5) ({t with ranks:=dC (λx=>decide (x.name=e.name)) t.ranks}) _ (p5.blk) (λS bp hS c2 q1 q2 q3=>⟨_,_,_,Y,q1,q2,(dS.ae c2 (λb hb hx=>by have:=bC b hb;have:=hS b hx;omega)).sl⟩) (C4) (c5) (by rw[hd]) (λh=>⟨ak4 h,by rw[hd]⟩) (λh=>akZ (by rw[h];simp)))
 have hd:bm t e=(t,0):=by unfold bm;simp[n1,n2,n3,n4,n5,n6,n7,n8,n9,n10,n11,n12,n13,n14,n15]
 exact aW [(2,ptr b2),(4,ptr b4),(6,.bool (true))] J3 (fin h3 (true) (0) t _ (B2) (λS bp hS c2 q1 q2 q3=>⟨_,_,_,Y,q1,q2,q3⟩) (B4) (bB) (by rw[hd]) (λ_=>⟨Y,by rw[hd]⟩) (λh=>absurd h Dd))
def TH.kind{h:af}{vs:List Value}{t:aB}(x:TH h vs t):vs[0]? =some (.int .i64 t.kind):=by
 obtain⟨pv,lv,rv,rfl,_⟩:=x;rfl
def amw{t:aB}{e:aA}(n:py t)(hn:e.name.size<4611686018427387904)(ht:e.text.size<4611686018427387904):py (bm t e).1:=by
 have z:∀t:aB,t.pairs=[]->t.list=[]->t.ranks=[]->py t:=λt h1 h2 h3=>⟨by rw[h1];simp,by rw[h2];simp,by rw[h3];simp⟩
 refine BT (P:=λr=>py r.1) (z _ Y Y Y) (z _ Y Y Y) ⟨n.ps,n.ls,n.rs⟩ ⟨n.ps,n.ls,n.rs⟩ (λ_=>⟨λx hx=>?_,n.ls,n.rs⟩) (λ_=>⟨λx hx=>n.ps x (amb.1 hx).1,n.ls,n.rs⟩)
  (λ_=>⟨n.ps,λx hx=>?_,n.rs⟩) (λ_=>⟨n.ps,λx hx=>?_,n.rs⟩) ⟨n.ps,λx hx=>n.ls x (List.mem_of_mem_tail hx),n.rs⟩ ⟨n.ps,λx hx=>n.ls x ((aoi _).subset hx),n.rs⟩
  (λ_=>⟨n.ps,λx hx=>?_,n.rs⟩) n ⟨n.ps,λx hx=>?_,n.rs⟩ ⟨n.ps,λx hx=>n.ls x (amb.1 hx).1,n.rs⟩ (λ_=>⟨n.ps,n.ls,λx hx=>?_⟩) (λ_=>⟨n.ps,n.ls,λx hx=>n.rs x (amb.1 hx).1⟩) n
 .rcases q8 hx with rfl|⟨hx,_⟩
  .exact hn
  .exact n.ps x hx
 .rcases ak3.1 hx with rfl|hx
  .exact ht
  .exact n.ls x hx
 .rcases alf.1 hx with hx|hx
  .exact n.ls x hx
  .rw[alE.1 hx];exact ht
 .rcases an3 hx with hx|rfl
  .exact n.ls x hx
  .exact ht
 .rcases q8 hx with rfl|⟨hx,_⟩
  .exact hn
  .exact n.ls x hx
 .rcases q8 hx with rfl|⟨hx,_⟩
  .exact hn
  .exact n.rs x hx
def xK{l:List RX}(hu:gR l):pB (l.map RX.pr):=ang RX.pr (λ_ _ h=>h) hu
def FH{l:List RX}(hu:gR l){key:BA}{i:Nat}(hi:i<l.length)(hk:l[i].key=key):eu (l.map RX.pr) key=some l[i].thing:=by
 refine Jh (xK hu) (alF.2 ⟨l[i],ak9 hi,?_⟩);unfold RX.pr;rw[hk]
def Jj{l:List RX}(hu:gR l){key:BA}(hb:(br key l).2=false):eu (l.map RX.pr) key=none:=by
 refine aan λp hp=>?_;obtain⟨x,hx,rfl⟩:=alF.1 hp;intro hk;rw[yR hu ⟨x,hx,hk⟩]at hb;cases hb
def aeS{l:List RX}(hu:gR l)(x:RX):(iX l x).map RX.pr=Av (l.map RX.pr) x.key x.thing:=
 HQ (lt:=λa b:BA×aB=>aP a.1 b.1=true) (λa b=>Hy a.1 b.1) (xK (uo hu)) (VC (xK hu)) λp=>by
  rw[zZ,alF];constructor
  .rintro⟨y,hy,rfl⟩;rcases(oh hu).1 hy with rfl|⟨hy,hk⟩
   .exact .inl Y
   .exact .inr ⟨als hy,hk⟩
  .rintro(rfl|⟨hp,hk⟩)
   .exact⟨x,(oh hu).2 (.inl Y),Y⟩
   .obtain⟨y,hy,rfl⟩:=alF.1 hp;exact⟨y,(oh hu).2 (.inr ⟨hy,hk⟩),Y⟩
def YF{l:List RX}(hu:gR l)(key:BA):(mR l key).map RX.pr=BU (l.map RX.pr) key:=
 HQ (lt:=λa b:BA×aB=>aP a.1 b.1=true) (λa b=>Hy a.1 b.1) (xK (M8 hu)) (VB (xK hu)) λp=>by
  rw[xA,alF];constructor
  .rintro⟨y,hy,rfl⟩;obtain⟨hy,hk⟩:=(vm hu).1 hy;exact⟨als hy,hk⟩
  .rintro⟨hp,hk⟩;obtain⟨y,hy,rfl⟩:=alF.1 hp;exact⟨y,(vm hu).2 ⟨hy,hk⟩,Y⟩
structure RG (l:List RX):Prop where
 up:gR l
 len:l.length<=65536
 fit:oB l
 uk:∀x∈l,rF x.thing
 nm:∀x∈l,py x.thing
def RG.ins{l:List RX}(g:RG l):gQ (l.map RX.pr):=by
 intro p hp;obtain⟨x,hx,rfl⟩:=alF.1 hp;exact g.uk x hx
def RG.drop{l:List RX}(g:RG l)(key:BA):RG (mR l key):=by
 refine⟨M8 g.up,?_,λx hx=>g.fit x ((vm g.up).1 hx).1,λx hx=>g.uk x ((vm g.up).1 hx).1,λx hx=>g.nm x ((vm g.up).1 hx).1⟩;have:=g.len;unfold mR;split
 .simp only[ak1,alA,amL];omega
 .exact this
def RG.put{l:List RX}(g:RG l){x:RX}(hl:(br x.key l).2=true∨l.length<65536)(hk:x.key.size<4611686018427387904)(ht:rF x.thing)(hn:py x.thing):RG (iX l x):=by
 refine⟨uo g.up,?_,λy hy=>?_,λy hy=>?_,λy hy=>?_⟩
 .have:=g.len;cases hb:(br x.key l).2 with
  |false=>
   rw[Tm hb];rcases hl with h|h
   .rw[hb]at h;cases h
   .omega
  |true=>
   obtain⟨ah,_⟩:=alq x.key l hb;unfold iX;simp only[ak1,alA,amL,ak0,aly,hb,anB];omega
 .rcases(oh g.up).1 hy with rfl|⟨hy,_⟩
  .exact hk
  .exact g.fit y hy
 .rcases(oh g.up).1 hy with rfl|⟨hy,_⟩
  .exact ht
  .exact g.uk y hy
 .rcases(oh g.up).1 hy with rfl|⟨hy,_⟩
  .exact hn
  .exact g.nm y hy
def nP(r:ib)(e:aA):Prop:=(r.name=false∧e.name≠au)∨(r.text=false∧e.text≠au)∨(r.number=false∧e.num≠0)
def oY(e:aA):Prop:=1048576<e.key.size∨1048576<e.name.size∨1048576<e.text.size
def aah{S:aH}{e:aA}(h:fD e.op=none):dy S e=.no 2:=by unfold dy iq;rw[h]
def wy{S:aH}{e:aA}{r:ib}(h:fD e.op=some r)(h1:nP r e):dy S e=.no 2:=by
 unfold nP at*;unfold dy iq;rw[h];simp only;rw[ak4 h1]
def Jf{S:aH}{e:aA}{r:ib}(h:fD e.op=some r)(h1:¬nP r e)(h2:oY e):dy S e=.no 3:=by
 unfold nP oY at*;unfold dy iq;rw[h];simp only;rw[akZ h1,ak4 h2]
def aac{S:aH}{e:aA}{r:ib}(h:fD e.op=some r)(h1:¬nP r e)(h2:¬oY e)(h3:eu S e.key=none)(h4:r.makes=false):dy S e=.no 5:=by
 unfold nP oY at*;unfold dy iq;rw[h];simp only;rw[akZ h1,akZ h2,h3];simp only;rw[ak4 h4]
def Z9{S:aH}{e:aA}{r:ib}(h:fD e.op=some r)(h1:¬nP r e)(h2:¬oY e)(h3:eu S e.key=none)(h4:r.makes=true):dy S e=d' (bm {aL with kind:=r.kind} e) false (decide (65536<=S.length)):=by
 unfold nP oY at*;unfold dy iq;rw[h];simp only;rw[akZ h1,akZ h2,h3];simp only;rw[akZ (by rw[h4];simp)]
def aab{S:aH}{e:aA}{r:ib}{t:aB}(h:fD e.op=some r)(h1:¬nP r e)(h2:¬oY e)(h3:eu S e.key=some t)(h4:r.kind≠0∧t.kind≠r.kind):dy S e=.no 170:=by
 unfold nP oY at*;unfold dy iq;rw[h];simp only;rw[akZ h1,akZ h2,h3];simp only;rw[ak4 h4]
def aag{S:aH}{e:aA}{r:ib}{t:aB}(h:fD e.op=some r)(h1:¬nP r e)(h2:¬oY e)(h3:eu S e.key=some t)(h4:¬(r.kind≠0∧t.kind≠r.kind)):dy S e=d' (bm t e) true (decide (65536<=S.length)):=by
 unfold nP oY at*;unfold dy iq;rw[h];simp only;rw[akZ h1,akZ h2,h3];simp only;rw[akZ h4]
def zX{op:Int}{r:ib}(h:fD op=some r)(ho:op=2∨op=5∨op=7∨op=8∨op=12∨op=14):r.makes=true:=by
 rcases ho with rfl|rfl|rfl|rfl|rfl|rfl<;>(injection (show some _=some r from h)with h;rw[<-h])
def adI{op:Int}{r:ib}(h:fD op=some r)(n2:¬op=2)(n5:¬op=5)(n7:¬op=7)(n8:¬op=8)(n12:¬op=12)(n14:¬op=14):r.makes=false:=by
 by_cases h1:op=1; · subst h1;injection (show some _=some r from h)with h;rw[<-h]
 by_cases h3:op=3; · subst h3;injection (show some _=some r from h)with h;rw[<-h]
 by_cases h4:op=4; · subst h4;injection (show some _=some r from h)with h;rw[<-h]
 by_cases h6:op=6; · subst h6;injection (show some _=some r from h)with h;rw[<-h]
 by_cases h9:op=9; · subst h9;injection (show some _=some r from h)with h;rw[<-h]
 by_cases bp:op=10; · subst bp;injection (show some _=some r from h)with h;rw[<-h]
 by_cases dO:op=11; · subst dO;injection (show some _=some r from h)with h;rw[<-h]
 by_cases dn:op=13; · subst dn;injection (show some _=some r from h)with h;rw[<-h]
 by_cases jW:op=15; · subst jW;injection (show some _=some r from h)with h;rw[<-h]
 unfold fD at h;simp[h1,n2,h3,h4,n5,h6,n7,n8,h9,bp,dO,n12,dn,n14,jW]at h
def Ru{op:Int}{r:ib}(h:fD op=some r)(ho:op=9∨op=10):r.kind=3∧r.makes=false:=by
 rcases ho with rfl|rfl<;>(injection (show some _=some r from h)with h;rw[<-h];exact⟨Y,Y⟩)
def aC(S:aH)(key:BA)(now:Int):Option aB:=match eu S key with
 |some t=>if iT t now=true then none else some t
 |none=>none
def ady{l:List RX}(hu:gR l)(key:BA):tN l key=eu (l.map RX.pr) key:=by
 unfold tN;cases hb:(br key l).2 with
 |true=>
  obtain⟨ah,hk⟩:=alq key l hb;rw[ak4 Y,FH hu ah hk,akU ah];rfl
 |false=>rw[akZ Yy,Jj hu hb]
theorem PK {l:List RX} (hu:gR l) (key:ByteArray) (now:Int):iR l key now=aC (l.map RX.pr) key now:=by
 unfold iR aC
 rw[ady hu]
 all_goals rfl
def Ji{m:List KI}{S:aH}(hs:bT m S){i:KI}(hi:i∈m):eu S i.key=some i.thing:=
 Jh hs.up ((hs.mem _).2 (pY.2 ⟨i,hi,Y,Y⟩))
def Jk{m:List KI}{S:aH}(hs:bT m S){key:BA}(bw:∀i∈m,i.key≠key):eu S key=none:=by
 cases hf:eu S key with
 |none=>rfl
 |some t=>
  obtain⟨i,hi,h1,h2⟩:=pY.1 ((hs.mem _).1 (uL hf));exact absurd h1 (bw i hi)
def NK{h:af}{kb sb mb c:Nat}{m:List KI}{S:aH}(key:BA)(now:Int)(x:KR h kb sb mb c m)(hs:bT m S):aj Tryz.prog 15 [ptr kb,.string key,.int .i64 now] h (ao λr h'=>(∃us,r=.tuple #[.agg ⟨us⟩,.bool (aC S key now).isSome]∧TH h' us ((aC S key now).getD aL))∧ag [] h h'):=by
 obtain⟨go,bN⟩:∃go,go=aC S key now:=⟨_,Y⟩
 rw[<-bN];refine f15.c ?_;intro b6 h1 g1;have c1:=g1.ae;have i6:=g1.id;have z1:=g1.size;have B6:ai h1 b6 zeroV:=g1.blk;refine akV (EB key (x.ext c1)) ?_;rintro _ h2 ⟨CO,c2⟩;have z2:=c2.size;rcases CO with⟨i,hi,iV,pv,lv,rv,rfl,o2,fr⟩|⟨bw,rfl⟩
 .have pN:eu S key=some i.thing:=by rw[<-iV];exact Ji hs hi
  intro b8 h3 g3;refine Ei zeroV (Ai g3.blk (Ai Dd (Ai Y (Ai (dB o2.th) ?_))));intro h4 p4;have g4:=g3.put p4;have B8:ai h4 b8 (bg i.thing pv lv rv):=p4.blk;have o4:=o2.ext g4.ae;have dM:ag [] h1 h4:=c2.nil g4.ae;refine Ei _ (Ai Y (Ai (akW B8)<|akV (Ju o4.th now) ?_));rintro _ h5 ⟨rfl,c5⟩;have me:=dM.nil c5;have o5:=o4.ext c5;have B65:=B6.ae me Yy;have H3:=B8.ae c5 Yy;cases hg:(i.thing.cP&&decide (i.thing.bQ<=now))with
  |true=>
   have e:go=none:=by rw[bN];unfold aC;rw[pN];simp only;rw[ak4 (show iT i.thing now=true from hg)]
   subst e;refine Ei zeroV (Ai B65 (Ai Dd (Ai Y (Ai (dB (jA (h:=h5))) ?_))));intro h6 p6;have qn:ai h6 b6 zeroV:=p6.blk;exact Ei zeroV (Ai Y (Ai (akW qn)<|Ai (Ei zeroV (Ai Y jA)) ((c1.nil me).fresh p6.ae Ys)))
  |false=>
   have e:go=some i.thing:=by rw[bN];unfold aC;rw[pN];simp only;rw[akZ (by unfold iT;rw[hg];simp)]
   subst e;refine Ei _ (Ai Y (Ai (akW H3)<|Ei zeroV (Ai B65 (Ai Dd (Ai Y (Ai (dB o5.th) ?_))))));intro h6 p6;have qn:ai h6 b6 (bg i.thing pv lv rv):=p6.blk;have o6:=o5.ae p6.ae (λb hb=>by have:=fr b hb;simp;omega);exact Ei _ (Ai Y (Ai (akW qn)<|Ai (Ei _ (Ai Y o6.th)) ((c1.nil me).fresh p6.ae Ys)))
 .have e:go=none:=by rw[bN];unfold aC;rw[Jk hs bw]
  subst e;intro b8 h3 g3;refine Ei zeroV (Ai g3.blk (Ai Dd (Ai Y (Ai (dB (jA (h:=h3))) ?_))));intro h4 p4;have g4:=g3.put p4;have dM:ag [] h1 h4:=c2.nil g4.ae;have vO:=B6.ae dM Yy;refine Ei zeroV (Ai vO (Ai Dd (Ai Y (Ai (dB (jA (h:=h4))) ?_))));intro h6 p6;have qn:ai h6 b6 zeroV:=p6.blk;exact Ei zeroV (Ai Y (Ai (akW qn)<|Ai (Ei zeroV (Ai Y jA)) ((c1.nil dM).fresh p6.ae Ys)))
def jy(now:Int)(S:aH):List BA:=(S.filter λp=>!iT p.2 now).map Prod.fst
def GJ{now:Int}{S:aH}{p:BA×aB}:jy now (S++[p])=jy now S++(if iT p.2 now=true then[]else[p.1]):=by
 unfold jy;rw[anz,alD];cases hg:iT p.2 now<;>simp[hg]
def Dw{now:Int}{S:aH}:(jy now S).length<=S.length:=by
 unfold jy;rw[alL];exact amR _ _
def Ih{h:af}{v:Value}{l:List RX}(now:Int)(hv:SL dv h v l)(g:GX h l)(rg:RG l):aj Tryz.prog 119 [v,.int .i64 now] h (ao λr h'=>OL encS 1 h' r (jy now (l.map RX.pr))∧(∀b∈aq r,h.size<=b)∧ag [] h h'):=by
 obtain⟨a,c,rfl,di⟩:=hv.form;have hl:=rg.len;obtain⟨S,hS⟩:∃S,S=l.map RX.pr:=⟨_,Y⟩
 rw[<-hS];have hSl:S.length=l.length:=by rw[hS];simp
 refine f119.c<|bA (λi:Nat×Option Addr×Nat×List BA=>[(0,.slice a l.length c),(1,.int .i64 now),(5,.slice i.2.1 i.2.2.2.length i.2.2.1),(6,.int .i64 i.1)])
  (λi h'=>i.1<=l.length∧ag [] h h'∧OL encS 1 h' (.slice i.2.1 i.2.2.2.length i.2.2.1) i.2.2.2∧(∀b∈bG i.2.1,h.size<=b)∧i.2.2.2=jy now (S.take i.1)) (λi=>l.length-i.1) (0,none,0,[])
  J4 ⟨ak8 _,ag.refl h,OL.nil,by simp[bG],by simp[jy]⟩ ?_
 rintro⟨k,a2,c2,acc⟩ h1 ⟨hk,c1,ho,bC,pK⟩;simp only at hk ho bC pK;have aw:acc.length<=k:=by
  have:=Dw (now:=now) (S:=S.take k);rw[<-pK,alA]at this;omega
 have bL:=hv.ext c1;refine Bi (λht=>?_) λht=>?_
 .have ah:k<l.length:=V
  obtain⟨b,o,rfl⟩:=bL.addr V;have aI:=bL.cells gT (i:=k) (x:=l[k]) (by simp[ah]);have dF:l[k]∈l:=ak9 ah;refine Ai V (Ai V (Ei _ (Ai (aI 0 _ Y) ?_)));have lF:iR l l[k].key now=if iT l[k].thing now=true then none else some l[k].thing:=by
   rw[PK rg.up];unfold aC;rw[FH rg.up ah Y]
  have acG:(iR l l[k].key now).isSome=!iT l[k].thing now:=by rw[lF];cases iT l[k].thing now<;>rfl
  refine akV (Ws l[k].key now bL (g.ext c1) V (rg.fit _ dF) rg.fit) ?_;rintro r2 h2 ⟨⟨us,cJ,tu⟩,d2⟩;rw[acG]at cJ;subst cJ;intro b7 h3 g3;refine Ei _ (Ai g3.blk (Ai Dd (Ai tu.len (Ai (dB tu) ?_))));intro h4 p4;have g4:=g3.put p4;have dM:ag [] h1 h4:=d2.nil g4.ae;have pF:=c1.nil dM;have ej:S.take (k+1)=S.take k++[(l[k].key,l[k].thing)]:=by
   rw[iL S k V];congr 2;subst hS;exact aaD _ ah
  cases hg:iT l[k].thing now with
  |true=>
   refine Az<|Ai Y (Ei (k+1,a2,c2,acc) (Ai ?_ (Ai ?_ ?_)))
   .exact J4
   .exact⟨by simp only;omega,pF,ho.ext dM,bC,by simp only;rw[ej,GJ,ak4 hg,amA];exact pK⟩
   .simp only;omega
  |false=>
   have abT:=(bL.ext dM).cells gT (i:=k) (x:=l[k]) (by simp[ah]);refine Ai V (Ai V (Ei _ (Ai (abT 0 _ Y) ?_)));intro b5 h5 g5;have one:SL encS h5 (.slice (some ⟨b5,0,none⟩) 1 1) [l[k].key]:=SL.one bj g5.blk;have sH:=pF.nil g5.ae;refine dZ bj fP Y ((ho.ext dM).ext g5.ae) one Ys ?_;intro v6 h6 ho6 iz mU;obtain⟨a6,c6,rfl,_⟩:=ho6.sl.form;have ab1:∀b∈bG a6,h.size<=b:=λb hb=>by
    rcases mU b hb with h'|h'
    .exact bC b h'
    .have:=sH.size;omega
   refine Az<|Ai Y (Ei (k+1,a6,c6,acc++[l[k].key]) (Ai ?_ (Ai ?_ ?_)))
   .exact J4
   .exact⟨by simp only;omega,sH.fresh iz bC,ho6,ab1,by simp only;rw[ej,GJ,akZ (by rw[hg];simp),<-pK]⟩
   .simp only;omega
 .have aZ:k=l.length:=V
  have e:S.take k=S:=amo V;rw[e]at pK;rw[<-pK];exact Ai ho (Ai bC c1)
def Vv{h h':af}{l:Nat}{r:Loop}{st:LoopState}{p:Option Go.Code}{HG:LoopState}{p':Option Go.Code}(L:jR h l r st p)(t:rG h h' l r HG p'):CH h h':=by
 refine⟨λb l' hb=>?_,λb o v' hc=>?_⟩
 .have:b≠l:=by
   rintro rfl;obtain⟨e,he⟩:=hb;have:=L.at_;rw[he]at this;cases this
  obtain⟨e,he⟩:=hb;exact⟨e,by rw[t.old b this];exact he⟩
 .have:b≠l:=by
   rintro rfl;have:=L.at_;unfold Sx.cell at hc;rw[this]at hc;cases hc
  unfold Sx.cell at hc⊢;rw[t.old b this];exact hc
def NL{h:af}{kb sb mb c:Nat}{m:List KI}{S:aH}(now:Int)(kr:KR h kb sb mb c m)(hW:bT m S):aj Tryz.prog 252 [ptr kb,.int .i64 now] h (ao λr h'=>SL encS h' r (jy now S)∧ag [] h h'):=by
 have ko:=kr.len;have hSl:=HE kr.nodup hW;refine f252.c ?_;intro b3 h1 g1;intro b5 h2 g2;refine akV (AV (h:=h2)) ?_;rintro _ h3 ⟨b1,rfl,g3⟩;have c1:=g1.ae;have c12:ag [] h1 h3:=g2.ae.nil g3.ae;have c3:ag [] h h3:=c1.nil c12;have i3:=g1.id;have i5:=g2.id;have i1:=g3.id;have z1:=g1.size;have z2:=g2.size;have z3:=g3.size;have VT:ai h3 b3 [.int .i64 now]:=(show ai h1 b3 [.int .i64 now]from g1.blk).ae c12 Yy;have VX:ai h3 b5 [.slice none 0 0]:=(show ai h2 b5 [.slice none 0 0]from g2.blk).ae g3.ae Yy;intro l D r h7 hD CK aS hold wT wQ hy;have kK:ag [] h3 h7:=⟨V,λk hk _=>hold k hk⟩
 have zf:=c3.nil kK;have Np:ai h7 b1 [ptr kb]:=(show ai h3 b1 [ptr kb]from g3.blk).ae kK Yy;refine(Gz hW (λp k h'=>A8 h l D b1 kb r p h'∧ai h' b3 [.int .i64 now]∧∃a cc out,ai h' b5 [.slice a out.length cc]∧OL encS 1 h' (.slice a out.length cc) out∧(∀q∈bG a,p<q)∧out=jy now (S.take k)) (λ_=>False) Np (kr.ext zf)
  (λp h' hC eg hc=>?_) (λp k h' j=>⟨j.1.b1,kr.ext j.1.ae⟩) (λp k h' bq j hc=>?_) (λp k h' us hk j tu=>?_)).mono ?_
 .exact⟨⟨tO wQ hc Yy,oI wT hc Yy,Np.ae hc Yy,zf.nil hc,V,eg⟩,(VT.ae kK Yy).ae hc Yy,none,0,[],(VX.ae kK Yy).ae hc Yy,OL.nil,by simp[bG],by simp[jy]⟩
 .obtain⟨j,j3,a,cc,out,j5,jo,jq,je⟩:=j;exact⟨j.ext hc,j3.ae hc Yy,a,cc,out,j5.ae hc Yy,jo.ext hc,jq,je⟩
 .obtain⟨j,j3,a,cc,out,j5,jo,jq,je⟩:=j;have fQ:=j.lt;have C0:=j.pn;have oR:l<h'.size:=lA j.loop.at_;have dD:=zf.size;refine hy h' _ _ j.loop Y ?_;intro b7 h8 g8;refine Ei _ (Ai g8.blk (Ai Dd (Ai tu.len (Ai (dB tu) ?_))));intro h9 p9;have g9:=g8.put p9;have c9:=g9.ae;have B7:ai h9 b7 us:=by
   have h8:ai h9 b7 (splice zeroV 0 us):=p9.blk;rw[seven Y tu.len]at h8;exact h8
  have L9:=tO j.loop c9 Yy;refine Ai L9 (λbp t10=>?_);have i7:=g9.id;have z9:=g9.size;have l9:ag [l] h' bp:=(c9.mono Yy).trans t10.ae (λ_ hk=>hk) (λ_ hk _=>hk);have C3:=j3.ae l9 Ys;have C5:=j5.ae l9 Ys;have C7:ai bp b7 us:=B7.ae t10.ae Ys;have al0:TH bp us S[k].2:=(tu.ext c9).ch (Vv L9 t10);have ac5:=jo.ae l9 (λb hb=>by have:=jq b hb;simp;omega);have jlt:=jo.lt;refine Ei us (Ai al0.len (Ai (akW C7)<|Ei _ (Ai (an C3 Y)<|akV (Ju al0 now) ?_)));rintro _ dO ⟨rfl,iO⟩;have z10:=l9.size;have z11:=iO.size;have D3:=C3.ae iO Yy;have D5:=C5.ae iO Yy;have yk:jR dO l r .busy none:=tO t10.alM iO Yy;have ej:S.take (k+1)=S.take k++[S[k]]:=iL S k hk;have aw:out.length<=k:=by
   have:=Dw (now:=now) (S:=S.take k);rw[<-je,alA]at this;omega
  cases hg:(S[k].2.cP&&decide (S[k].2.bQ<=now))with
  |true=>
   refine Ai yk (λdn AM=>?_);have cU:ag [l] h' dn:=((l9.step iO Yy).step AM.ae (λ_ h _=>h))
   have z13:=cU.size;refine .inl ⟨Y,⟨⟨AM.alM,oI j.mark cU Ys,j.b1.ae cU Ys,j.ae.fresh cU Ys,fQ,V⟩,j3.ae cU Ys,a,cc,out,j5.ae cU Ys,jo.ae cU (λb hb=>by have:=jq b hb;simp;omega),jq,?_⟩,cU.old p C0 Ys⟩;rw[ej,GJ,ak4 (show iT S[k].2 now=true from hg),amA];exact je
  |false=>
   refine Ei _ (Ai (an D5 Y) ?_);intro b18 cO g12;have one:SL encS cO (.slice (some ⟨b18,0,none⟩) 1 1) [S[k].1]:=SL.one bj g12.blk;have z12:=g12.size;have ac6:=(ac5.ext iO).ext g12.ae;refine dZ bj fP Y ac6 one Ys ?_;intro v6 dn QH wG abH;obtain⟨a6,c6,rfl,_⟩:=QH.sl.form;have z13:=wG.size;have Kx:∀q∈bG a6,p<q∧q≠b5∧q≠b3:=λq hq=>by
    rcases abH q hq with h'|h'
    .have:=jq q h';omega
    .omega
   have Ow:ag (l::bG a) h' dn:=(((l9.mono Yy).step iO Yy).step g12.ae Yy).step wG (λk hk _=>alr _ hk);have E5:ai dn b5 [.slice a out.length cc]:=j5.ae Ow (by
    intro hx;rcases ak3.1 hx with h'|h'
    .omega
    .have:=jq _ h';omega)
   refine Ei _ (Ai E5 (Ai Yy (Ai Y (Ai (cM Y) ?_))));intro dJ rl;have z14:=rl.ae.size;have dM:ag (l::b5::bG a) h' dJ:=(Ow.mono (λx hx=>by rcases ak3.1 hx with h'|h'<;>simp[h'])).step rl.ae (λk hk _=>by simp at hk;simp[hk]);have LG:∀x,x<p->x≠l->x≠b5->x∉l::b5::bG a:=λx hx h1 h2 hm=>by
    rcases ak3.1 hm with h'|h'
    .exact h1 h'
    .rcases ak3.1 h' with h'|h'
     .exact h2 h'
     .have:=jq _ h';omega
   have Wf:jR dJ l r .busy none:=by
    have Xu:ag (b5::bG a) dO dJ:=((g12.ae.mono Yy).step wG (λk hk _=>alr _ hk)).step rl.ae (λk hk _=>by simp at hk;simp[hk]);refine tO yk Xu (λhx=>?_);rcases ak3.1 hx with h'|h'
    .omega
    .have:=jq _ h';omega
   refine Ai Wf (λjW HK=>?_);have me:ag (l::b5::bG a) h' jW:=dM.step HK.ae (λk hk _=>by simp at hk;simp[hk]);have z15:=me.size;have pn:p∉l::b5::bG a:=λhm=>by
    rcases ak3.1 hm with h'|h'
    .omega
    .rcases ak3.1 h' with h'|h'
     .omega
     .have:=jq _ h';omega
   refine .inl ⟨Y,⟨⟨HK.alM,oI j.mark me (LG _ V V V),j.b1.ae me (LG _ V V V),j.ae.fresh me (λx hx=>?_),fQ,V⟩,j3.ae me (LG _ V V V),a6,c6,out++[S[k].1],(show ai dJ b5 _ from rl.blk).ae HK.ae Ys,?_,λq hq=>(Kx q hq).1,?_⟩,me.old p C0 pn⟩
   .rcases ak3.1 hx with h'|h'
    .omega
    .rcases ak3.1 h' with h'|h'
     .omega
     .have:=jq _ h';omega
   .exact(QH.ae rl.ae (λq hq=>by have:=Kx q hq;simp;omega)).ae HK.ae (λq hq=>by have:=Kx q hq;simp;omega)
   .rw[ej,GJ,akZ (by unfold iT;rw[hg];simp),<-je]
 .intro e h8 he;cases e with
  |panicked ch=>exact he.elim
  |outgrown=>exact he.elim
  |returned u=>
   obtain⟨p,j,j3,a,cc,out,j5,jo,jq,je⟩|hF:=he;rotate_left
   .exact hF.elim
   have fQ:=j.lt;have C0:=j.pn;have oR:l<h8.size:=lA j.loop.at_;rw[amo (ali _)]at je;refine⟨.ready,none,j.loop,Yy,λh9 t9=>?_⟩;have E5:=j5.ae t9.ae Ys;refine Ei _ (Ai (an E5 Y)<|Ai (oI j.mark t9.ae Ys) (λdO p11=>?_));have OA:ag [l,D] h8 dO:=t9.ae.trans p11.ae (λx hx=>by simp at hx;simp[hx]) (λx hx _=>by simp at hx;simp[hx]);have F6:=jo.ae OA (λb hb=>by have:=jq b hb;simp;omega);rw[je]at F6;rw[je];exact Ai F6.sl (j.ae.fresh OA Ys)
def Wx{h:af}{kb sb mb c:Nat}{m:List KI}{S:aH}(now:Int)(kr:KR h kb sb mb c m)(hW:bT m S):aj Tryz.prog 253 [ptr kb,.int .i64 now] h (ao λr h'=>r=.int .i64 (jy now S).length∧ag [] h h'):=by
 refine f253.c<|akV (NL now kr hW) ?_;rintro r1 h1 ⟨hs,c1⟩;obtain⟨a,cc,rfl,_⟩:=hs.form;exact Ai Y c1
end Go.Proofs.YtocgmipngoiieaaGreatDoor
set_option maxRecDepth 100000
namespace Go.Proofs.YtocgmipngoiieaaGreatDoor.C
open Go Go.Sx Go.Sx.S
noncomputable section
def f250:=ay Tryz.func250
end
end Go.Proofs.YtocgmipngoiieaaGreatDoor.C
namespace Go.Proofs.YtocgmipngoiieaaGreatDoor
open Go Go.Sx C
structure EG (d:List BA):Prop where
 len:d.length<4611686018427387904
 each:∀e∈d,e.size<4611686018427387904
structure Ii (d:List BA):Prop where
 len:d.length<=20
 each:∀e∈d,e.size<=300
def iS(key:BA):aA:=⟨1,key,au,au,0⟩
def cV(S:aH)(key:BA)(now:Int):List aA:=if(eu S key).isSome=true∧(aC S key now).isSome=false then[iS key]else[]
def adz{h:af}{kb sb mb c:Nat}{m:List KI}{S:aH}(key:BA)(x:KR h kb sb mb c m)(hs:bT m S):aj Tryz.prog 29 [ptr kb,.string key] h (ao λr h'=>(∃us,us.length=7∧(∀u∈us,u.oneCell'=true)∧r=.tuple #[.agg ⟨us⟩,.bool (eu S key).isSome])∧ag [] h h'):=by
 refine(EB key x).mono λe h' he=>?_;cases e with
 |panicked ch=>exact he.elim
 |outgrown=>exact he.elim
 |returned v=>
  obtain⟨hr,hc⟩:=he;refine⟨?_,hc⟩;rcases hr with⟨i,hi,hk,pv,lv,rv,rfl,ht,_⟩|⟨bw,rfl⟩
  .have tx:TH h' (bg i.thing pv lv rv) i.thing:=ht.th;refine⟨_,tx.len,dB tx,?_⟩;rw[<-hk,Ji hs hi];rfl
  .refine⟨zeroV,Y,Dd,?_⟩;rw[Jk hs bw];rfl
def H4{h:af}{kb sb mb c:Nat}{m:List KI}{S:aH}(key:BA)(now:Int)(x:KR h kb sb mb c m)(hs:bT m S):aj Tryz.prog 250 [ptr kb,.int .i64 now,.string key] h (ao λr h'=>OL cf 5 h' r (cV S key now)∧(∀b∈aq r,h.size<=b)∧ag [] h h'):=by
 obtain⟨fs,pN⟩:∃b,b=(eu S key).isSome:=⟨_,Y⟩
 refine f250.c<|akV (adz key x hs) ?_;rintro _ h1 ⟨⟨us,hl,h1c,rfl⟩,c1⟩;rw[<-pN];intro b7 h2 g2;refine Ei _ (Ai g2.blk (Ai Dd (Ai hl (Ai h1c ?_))));intro h3 p3;have g3:=g2.put p3;have c3:=c1.nil g3.ae;obtain⟨go,bN⟩:∃go,go=aC S key now:=⟨_,Y⟩
 refine akV (NK key now (x.ext c3) hs) ?_;rintro _ h4 ⟨⟨vs,rfl,tv⟩,c4⟩;rw[<-bN]at tv⊢;intro b9 h5 g5;refine Ei _ (Ai g5.blk (Ai Dd (Ai tv.len (Ai (dB tv) ?_))));intro h6 p6;have g6:=g5.put p6;have c6:=(c3.nil c4).nil g6.ae;unfold cV;rw[<-pN,<-bN];cases fs with
 |false=>
  rw[akZ Yy];exact⟨OL.nil,λb hb=>(nomatch (show b∈([]:List Nat)from hb)),c6⟩
 |true=>
  cases go with
  |some t=>
   rw[akZ Yy];exact⟨OL.nil,λb hb=>(nomatch (show b∈([]:List Nat)from hb)),c6⟩
  |none=>
   rw[ak4 ⟨Y,Y⟩];intro b h7 g7;have z:=c6.size;have i7:=g7.id;refine⟨⟨_,1,Y,Y,ali _,[],?_,Y⟩,?_,c6.nil g7.ae⟩
   .exact g7.blk
   .intro b' bh;have bh:b'∈[b]:=bh;have bh:=alE.1 bh;omega
end Go.Proofs.YtocgmipngoiieaaGreatDoor
set_option maxRecDepth 100000
namespace Go.Proofs.YtocgmipngoiieaaGreatDoor.C
open Go Go.Sx Go.Sx.S
noncomputable section
def f65:=ay Tryz.func65
def Y4:LS:=[o 6 (.new [(.int .i64 0),(.int .i64 0),(.string ⟨#[]⟩),(.slice none 0 0)]),o 7 (.new [(.slice none 0 0)]),o 8 (.mv (b false))]
def Y5:LS:=[M 11 2,o 12 (.len (t 11)),E 13 12 0,M 14 13,
 n 15 14 (.mv (t 0)),
 n 16 14 (.call 64 [(t 15),(.const (.pointer none))]),o 17 (.pick (t 14) (b true) (t 16))]
def Y6:LS:=[o 18 (.build [(.int .i64 0),(.int .i64 0),(.string ⟨#[]⟩),(.slice none 0 0)] [] []),q (.st 4 (t 6) (t 18)),q (.st 1 (t 7) (.const (.slice none 0 0))),o 8 (.mv (b false))]
def Y7:LS:=[M 21 2,o 22 (.ixs 1 (t 21) (i 0)),L 23 22,o 20 (.eR 130 []),o 24 (.eR 131 [(t 23)]),o 25 (.look .str .nilFunc true (t 20) (t 24)),M 19 25,X 26 19 0,X 27 19 1,M 9 26,M 8 27]
def Y8:LS:=[M 28 8,o 29 (.un .not (t 28))]
def Y9:LS:=[o 30 (.build [(.int .i64 0),(.int .i64 0),(.string ⟨#[]⟩),(.slice none 0 0)] [] []),q (.st 4 (t 6) (t 30)),q (.st 1 (t 7) (.const (.slice none 0 0))),o 8 (.mv (b false))]
def Y':LS:=[o 31 (.fn 132 [] [(t 6),(t 7)])]
def Za:LS:=[M 32 0,M 33 1,M 34 2,o 35 (.slc 1 (t 34) (some (i 1)) none),o 36 (.build [(.pointer none),(.int .i64 0),(.slice none 0 0),(.slice none 0 0)] [(0,1),(1,1),(2,1)] [(t 32),(t 33),(t 35)]),o 37 (.box (t 36)),M 10 37]
def Zb:LS:=[M 38 9,M 39 10,o 40 (.aV (t 38) [(t 39)]),q (.st 4 (t 6) (t 40))]
def Y3:LS:=[o 41 (.ny 4 (t 6)),M 42 10,K 43 42,A 44 3 43]
def Zc:LS:=[L 45 44,q (.st 4 (t 6) (t 41)),q (.st 1 (t 7) (t 45)),o 8 (.mv (b true))]
def Zd:LS:=[q (.st 4 (t 6) (t 41)),L 45 44,q (.st 1 (t 7) (t 45)),o 8 (.mv (b true))]
def f111:akX:=(.j Y4 (.seq (.j Y5 (.k 17 Y6)) (.j Y7 (.seq (.j Y8 (.k 29 Y9)) (.seq (.wq Y' none (t 31) []) (.j Za (.j Zb (.seq (.two Y3 Zc Zd) .ret))))))))
def Zq:LS:=[o 7 (.eqn 4 false (t 5))]
def Zr:LS:=[M 2 5]
def Zs:LS:=[o 8 (.vH 196 (.agg #[(.string ⟨#[]⟩)]) true (t 5)),X 9 8 1,X 10 8 0]
def Zt:LS:=[o 3 (.new [(.string ⟨#[]⟩)]),q (.st 1 (t 3) (t 10))]
def Zu:LS:=[A 11 0 3,L 12 11,o 13 (.call 65 [(t 12)]),q (.st 4 (t 0) (t 13)),q (.st 1 (t 1) (.const (.slice none 0 0)))]
def Zv:LS:=[M 4 5]
def Zw:LS:=[M 6 4,q (.vu (t 6))]
def f132:akX:=(.seq (.rcv (some 5)) (.block 0 (.j Zq (.cond (t 7) (.ops Zr) (.j Zs (.cond (t 9) (.j Zt (.ops Zu)) (.j Zv (.ops Zw))))))))
def ajI:LS:=[M 94 0,K 95 94,A 96 0 95,L 97 96,M 98 3,M 99 0,K 100 99,A 101 1 100,L 102 101]
def ajJ:LS:=[o 9 (.new [(.int .i64 0),(.string ⟨#[]⟩),(.slice none 0 0),(.slice none 0 0),(.slice none 0 0),(.bool false),(.int .i64 0)]),o 103 (.eR 15 [(t 97),(t 98),(t 102)]),M 93 103,X 104 93 0,X 105 93 1,q (.st 7 (t 9) (t 104)),M 10 105]
def f167:=ay Tryz.func167
def f168:=ay Tryz.func168
def ajK:LS:=[M 30 0,K 31 30,A 32 0 31,L 33 32,M 34 6,M 35 0,K 36 35,A 37 1 36,L 38 37]
def ajL:LS:=[o 7 (.new [(.int .i64 0),(.string ⟨#[]⟩),(.slice none 0 0),(.slice none 0 0),(.slice none 0 0),(.bool false),(.int .i64 0)]),o 39 (.eR 15 [(t 33),(t 34),(t 38)]),M 29 39,X 40 29 0,X 41 29 1,q (.st 7 (t 7) (t 40)),M 8 41]
def f169:=ay Tryz.func169
def ajM:LS:=[M 20 0,K 21 20,A 22 0 21,L 23 22,M 24 5,M 25 0,K 26 25,A 27 1 26,L 28 27]
def ajN:LS:=[o 6 (.new [(.int .i64 0),(.string ⟨#[]⟩),(.slice none 0 0),(.slice none 0 0),(.slice none 0 0),(.bool false),(.int .i64 0)]),o 29 (.eR 15 [(t 23),(t 24),(t 28)]),M 19 29,X 30 19 0,X 31 19 1,q (.st 7 (t 6) (t 30)),M 7 31]
def f170:=ay Tryz.func170
def ajO:LS:=[M 8 0,K 9 8,A 10 0 9,L 11 10,M 12 0,K 13 12,A 14 2 13,L 15 14,o 16 (.ixs 1 (t 15) (i 0)),L 17 16,M 18 0,K 19 18,A 20 1 19,L 21 20]
def ajP:LS:=[o 3 (.new [(.int .i64 0),(.string ⟨#[]⟩),(.slice none 0 0),(.slice none 0 0),(.slice none 0 0),(.bool false),(.int .i64 0)]),o 22 (.eR 15 [(t 11),(t 17),(t 21)]),M 7 22,X 23 7 0,X 24 7 1,q (.st 7 (t 3) (t 23)),M 4 24]
def f171:=ay Tryz.func171
def f173:=ay Tryz.func173
def f174:=ay Tryz.func174
def f175:=ay Tryz.func175
def f176:=ay Tryz.func176
def f177:=ay Tryz.func177
def f178:=ay Tryz.func178
def ajQ:LS:=[M 20 0,K 21 20,A 22 0 21,L 23 22,M 24 5,M 25 0,K 26 25,A 27 1 26,L 28 27]
def ajR:LS:=[o 6 (.new [(.int .i64 0),(.string ⟨#[]⟩),(.slice none 0 0),(.slice none 0 0),(.slice none 0 0),(.bool false),(.int .i64 0)]),o 29 (.eR 15 [(t 23),(t 24),(t 28)]),M 19 29,X 30 19 0,X 31 19 1,q (.st 7 (t 6) (t 30)),M 7 31]
def f179:=ay Tryz.func179
def f180:=ay Tryz.func180
def ajS:LS:=[M 11 0,K 12 11,A 13 0 12,L 14 13,M 15 0,K 16 15,A 17 2 16,L 18 17,o 19 (.ixs 1 (t 18) (i 0)),L 20 19,M 21 0,K 22 21,A 23 1 22,L 24 23]
def ajT:LS:=[o 4 (.new [(.int .i64 0),(.string ⟨#[]⟩),(.slice none 0 0),(.slice none 0 0),(.slice none 0 0),(.bool false),(.int .i64 0)]),o 25 (.eR 15 [(t 14),(t 20),(t 24)]),M 10 25,X 26 10 0,X 27 10 1,q (.st 7 (t 4) (t 26)),M 5 27]
def f181:=ay Tryz.func181
def ajU:LS:=[M 8 0,K 9 8,A 10 0 9,L 11 10,M 12 0,K 13 12,A 14 2 13,L 15 14,o 16 (.ixs 1 (t 15) (i 0)),L 17 16,M 18 0,K 19 18,A 20 1 19,L 21 20]
def ajV:LS:=[o 3 (.new [(.int .i64 0),(.string ⟨#[]⟩),(.slice none 0 0),(.slice none 0 0),(.slice none 0 0),(.bool false),(.int .i64 0)]),o 22 (.eR 15 [(t 11),(t 17),(t 21)]),M 7 22,X 23 7 0,X 24 7 1,q (.st 7 (t 3) (t 23)),M 4 24]
def f182:=ay Tryz.func182
def ajW:LS:=[M 8 0,K 9 8,A 10 0 9,L 11 10,M 12 0,K 13 12,A 14 2 13,L 15 14,o 16 (.ixs 1 (t 15) (i 0)),L 17 16,M 18 0,K 19 18,A 20 1 19,L 21 20]
def ajX:LS:=[o 3 (.new [(.int .i64 0),(.string ⟨#[]⟩),(.slice none 0 0),(.slice none 0 0),(.slice none 0 0),(.bool false),(.int .i64 0)]),o 22 (.eR 15 [(t 11),(t 17),(t 21)]),M 7 22,X 23 7 0,X 24 7 1,q (.st 7 (t 3) (t 23)),M 4 24]
def f183:=ay Tryz.func183
def f184:=ay Tryz.func184
def f185:=ay Tryz.func185
def f186:=ay Tryz.func186
def f239:=ay Tryz.func239
def f240:=ay Tryz.func240
def aj2:LS:=[M 20 0,K 21 20,A 22 0 21,L 23 22,M 24 1,M 25 0,K 26 25,A 27 1 26,L 28 27]
def aj3:LS:=[o 8 (.new [(.int .i64 0),(.string ⟨#[]⟩),(.slice none 0 0),(.slice none 0 0),(.slice none 0 0),(.bool false),(.int .i64 0)]),o 29 (.eR 15 [(t 23),(t 24),(t 28)]),M 19 29,X 30 19 0,X 31 19 1,q (.st 7 (t 8) (t 30)),M 9 31]
def f241:=ay Tryz.func241
def f242:=ay Tryz.func242
def f243:=ay Tryz.func243
def aj4:LS:=[M 9 0,K 10 9,A 11 0 10,L 12 11,M 13 1,M 14 0,K 15 14,A 16 1 15,L 17 16]
def aj5:LS:=[o 6 (.new [(.int .i64 0),(.string ⟨#[]⟩),(.slice none 0 0),(.slice none 0 0),(.slice none 0 0),(.bool false),(.int .i64 0)]),o 18 (.eR 15 [(t 12),(t 13),(t 17)]),M 8 18,X 19 8 0,X 20 8 1,q (.st 7 (t 6) (t 19)),M 7 20]
def f244:=ay Tryz.func244
def f245:=ay Tryz.func245
def f246:=ay Tryz.func246
def f247:=ay Tryz.func247
def f249:=ay Tryz.func249
def f251:=ay Tryz.func251
end
end Go.Proofs.YtocgmipngoiieaaGreatDoor.C
namespace Go.Proofs.YtocgmipngoiieaaGreatDoor
open Go Go.Sx C
variable{P:Program}{ab:Nat}{av:Value}{h h' h0:af}{kb:Nat}{lv:Value}{now:Int}
def Sg{F:List PanicEntry->af->Prop}{x:Operand}{d:Nat}{c:akX}{Q:de}{σ:Env}{ds:List Deferred}{v:Value}(he:ev σ x=some v)(hs:swp P c Q (upd σ (some d) v) ds h):cD P F (λσ' h'=>fc (swp P c Q) Q .normal σ' ds h') [⟨some d,none,.mv x⟩] σ h:=by
 simp only[cD,cW,aE,he];exact hs
def nG(why:BA):List PanicEntry:=[{v:=.iface 196 (.agg #[.string why]),recovered:=false}]
def Out(R:Value->af->Prop)(E:BA->af->Prop):Ending->af->Prop
 |.returned v,h=>R v h
 |.panicked ch,h=>∃why,ch=nG why∧E why h
 |.outgrown,_=>False
def iP{f:Nat}{vs:List Value}{Q:Value->af->Prop}{E:BA->af->Prop}{K:Value->af->Prop}{Qp:List PanicEntry->af->Prop}(hc:aj P f vs h (Out Q E))(hk:∀v h',Q v h'->K v h')(he:∀why h',E why h'->Qp (nG why) h'):aj P f vs h (after K Qp):=
 hc.mono λe h' hr=>by
  cases e with
  |returned v=>exact hk _ _ hr
  |panicked ch=>obtain⟨why,rfl,hw⟩:=hr;exact he _ _ hw
  |outgrown=>exact hr.elim
def mz{b:Bool}{s:BA}:aj Tryz.prog 239 [.bool b,.string s] h (Out (λ_ h'=>b=true∧h'=h) (λwhy h'=>b=false∧why=s∧h'=h)):=by
 refine f239.c ?_;cases b with
 |true=>exact⟨Y,Y⟩
 |false=>exact⟨s,Y,Y,Y,Y⟩
structure AS (h0 h:af) (ab kb:Nat) (now:Int) (av:Value) (A:List BA) (lv:Value) (L:List aA):Prop where
 ae:ag [] h0 h
 fresh:h0.size<=ab
 args:∀h',ag [] h0 h'->SL encS h' av A
 blk:ai h ab [ptr kb,.int .i64 now,av,lv]
 wv:OL cf 5 h lv L
 own:∀b∈aq lv,h0.size<=b∧b≠ab
def AS.ext{h0 h h':af}{ab kb:Nat}{now:Int}{av lv:Value}{A:List BA}{L:List aA}(x:AS h0 h ab kb now av A lv L)(hc:ag [] h h'):AS h0 h' ab kb now av A lv L:=
 ⟨x.ae.nil hc,x.fresh,x.args,x.blk.ae hc Yy,x.wv.ext hc,x.own⟩
def OL.lt{α:Type}{enc:α->List Value}{size:Nat}{h:af}{v:Value}{l:List α}(o:OL enc size h v l):∀b∈aq v,b<h.size:=by
 obtain⟨a,c,rfl,h1⟩:=o;intro b hb;cases a with
 |none=>simp[aq,bG]at hb
 |some a=>
  obtain⟨b',o',sp⟩:=a;cases sp with
  |some q=>exact h1.elim
  |none=>
   obtain⟨_,_,rest,hB,_⟩:=h1;have hb:b∈[b']:=hb;rw[alE.1 hb];exact hB.lt
def Aside(h h':af)(ab:Nat)(lv aY:Value):Prop:=(∀b∈aq aY,b∈aq lv∨h.size<=b)∧ag (ab::aq lv) h h'∧∀b l,ai h b l->b≠ab->b∉aq lv->ai h' b l
def Aside.mk{aY:Value}(h1:∀b∈aq aY,b∈aq lv∨h.size<=b)(hc:ag (ab::aq lv) h h'):Aside h h' ab lv aY:=⟨h1,hc,λ_ _ hb h1 h2=>hb.ae hc (by simp[h1,h2])⟩
def Aside.of(hc:ag [] h h'):Aside h h' ab lv lv:=.mk (λ_ hb=>.inl hb) (hc.mono Yy)
def Aside.trans{h h1 h2:af}{ab:Nat}{lv GL dG:Value}(x:Aside h h1 ab lv GL)(y:Aside h1 h2 ab GL dG):Aside h h2 ab lv dG:=by
 obtain⟨x1,xc,x2⟩:=x;obtain⟨y1,yc,y2⟩:=y;have xs:=xc.size;refine .mk (λb hb=>?_) (xc.trans yc (λ_ hk=>hk) λk hk ah=>?_)
 .rcases y1 b hb with h3|h3
  .exact x1 b h3
  .exact .inr V
 .rcases ak3.1 hk with h3|h3
  .simp[h3]
  .rcases x1 k h3 with h4|h4
   .simp[h4]
   .omega
def EN{A:List BA}{L M:List aA}{v:Value}(x:AS h0 h ab kb now av A lv L)(hv:SL cf h v M)(hb:((L.length+M.length)*2+768)*64<=281474976710656):aj Tryz.prog 242 [ptr ab,v] h (ao λ_ h'=>∃aY,AS h0 h' ab kb now av A aY (L++M)∧Aside h h' ab lv aY):=by
 have hB:=x.blk;have hO:=x.wv;have hF:=x.own;have hc0:=x.ae;have hz:=x.fresh;have tK:=hc0.size;have ah:=hB.lt;refine f242.c<|Ei _ (Ai (an hB Y) ?_);obtain⟨a,n,c,rfl⟩:∃a n c,lv=.slice a n c:=let⟨a,c,e,_⟩:=hO;⟨a,_,c,e⟩;obtain⟨a',c',rfl,ie⟩:=hv.form;refine dZ (l:=L) (l2:=M) yO FA Y hO hv hb λv' h1 ho hc sQ=>?_;have JA:∀b∈bG a,h0.size<=b∧b≠ab:=hF;have Cj:ai h1 ab [ptr kb,.int .i64 now,av,.slice a n c]:=hB.ae hc λhm=>(JA ab hm).2 Y;obtain⟨a2,n2,c2,rfl⟩:∃a n c,v'=.slice a n c:=let⟨a,c,e,_⟩:=ho;⟨a,_,c,e⟩;refine Ei _ (Ai Cj (Ai Yy (Ai Y (Ai (cM Y) ?_))));intro h2 p2;have FX:ai h2 ab [ptr kb,.int .i64 now,av,.slice a2 n2 c2]:=p2.blk;have sf:∀b∈aq (.slice a2 n2 c2),h0.size<=b∧b≠ab:=λb hb=>by
  rcases sQ b hb with h3|h3
  .exact JA b h3
  .exact⟨V,V⟩
 have E1:ag [] h0 h1:=hc0.fresh hc λb hb=>by have:=JA b hb;omega
 have c02:ag [] h0 h2:=E1.fresh p2.ae Ys;refine⟨.slice a2 n2 c2,⟨c02,hz,x.args,FX,ho.ae p2.ae (λb hb=>by simpa using(sf b hb).2),sf⟩,.mk sQ (hc.trans p2.ae (λk hk=>alr _ hk) λk hk _=>by simp at hk;simp[hk])⟩
def adJ{lo hi:Int}{A:List BA}{L:List aA}(x:AS h0 h ab kb now av A lv L):aj Tryz.prog 174 [ptr ab,.int .i64 lo,.int .i64 hi] h (Out (λ_ h'=>(lo<=A.length∧A.length<=hi)∧h'=h) (λwhy h'=>¬(lo<=A.length∧A.length<=hi)∧why=⟨#[69,82,82,32,97,114,103,115]⟩∧h'=h)):=by
 have hB:=x.blk;obtain⟨a,c,rfl,ie⟩:=(x.args h x.ae).form;refine f174.c<|Ei _ (Ai (an hB Y)<|Bi (λh1=>?_) λh1=>?_)
 .refine Ei _ (Ai (an hB Y)<|Bi (λh2=>?_) λh2=>?_)
  .refine iP mz ?_ ?_
   .rintro _ h' ⟨_,rfl⟩;exact⟨⟨V,V⟩,Y⟩
   .rintro _ h' ⟨hb,_⟩;cases hb
  .refine iP mz ?_ ?_
   .rintro _ h' ⟨hb,_⟩;cases hb
   .rintro _ h' ⟨_,rfl,rfl⟩;exact⟨_,Y,λh3=>V,Y,Y⟩
 .refine iP mz ?_ ?_
  .rintro _ h' ⟨hb,_⟩;cases hb
  .rintro _ h' ⟨_,rfl,rfl⟩;exact⟨_,Y,λh3=>V,Y,Y⟩
end Go.Proofs.YtocgmipngoiieaaGreatDoor
namespace Go.Proofs.YtocgmipngoiieaaGreatDoor
open Go Go.Sx C
def gI:BA:=⟨#[87,82,79,78,71,84,89,80,69]⟩
def lX:BA:=⟨#[69,82,82,32,108,111,110,103]⟩
def uj{S:List Nat}{h h':af}{t:aB}{pv lv rv:Value}(x:TH h (bg t pv lv rv) t)(hc:ag S h h')(hn:∀b∈bk pv lv rv,b∉S):TH h' (bg t pv lv rv) t:=by
 obtain⟨p,l,r,e,h1,h2,h3⟩:=x;simp only[bg,anm,aoG,aos]at e;obtain⟨rfl,rfl,rfl⟩:=e;exact⟨_,_,_,Y,h1.ae hc (λb hb=>hn b (by simp[bk,hb])),h2.ae hc (λb hb=>hn b (by simp[bk,hb])),h3.ae hc (λb hb=>hn b (by simp[bk,hb]))⟩
def TO.lt{h:af}{pv lv rv:Value}{t:aB}(o:TO h pv lv rv t):∀b∈bk pv lv rv,b<h.size:=λb hb=>by
 simp only[bk,alf]at hb;rcases hb with hb|hb|hb
 .exact OL.lt o.p b hb
 .exact OL.lt o.l b hb
 .exact OL.lt o.r b hb
def A4(h h':af)(go:Option aB)(r:Value):Prop:=∃pv lv rv,r=.tuple #[.agg ⟨bg (go.getD aL) pv lv rv⟩,.bool go.isSome]∧TH h' (bg (go.getD aL) pv lv rv) (go.getD aL)∧∀b∈bk pv lv rv,h.size<=b∧b<h'.size
def get_none(h h':af):A4 h h' none (.tuple #[.agg ⟨zeroV⟩,.bool false]):=
 ⟨.slice none 0 0,.slice none 0 0,.slice none 0 0,Y,jA,λb hb=>by simp[bk,aq,bG]at hb⟩
def Ex{h:af}{kb sb mb c:Nat}{m:List KI}{S:aH}(key:BA)(now:Int)(x:KR h kb sb mb c m)(hs:bT m S):aj Tryz.prog 15 [ptr kb,.string key,.int .i64 now] h (ao λr h'=>A4 h h' (aC S key now) r∧ag [] h h'):=by
 obtain⟨go,bN⟩:∃go,go=aC S key now:=⟨_,Y⟩
 rw[<-bN];refine f15.c ?_;intro b6 h1 g1;have c1:=g1.ae;have i6:=g1.id;have z1:=g1.size;have B6:ai h1 b6 zeroV:=g1.blk;refine akV (EB key (x.ext c1)) ?_;rintro _ h2 ⟨CO,c2⟩;have z2:=c2.size;rcases CO with⟨i,hi,iV,pv,lv,rv,rfl,o2,fr⟩|⟨bw,rfl⟩
 .have pN:eu S key=some i.thing:=by rw[<-iV];exact Ji hs hi
  intro b8 h3 g3;refine Ei zeroV (Ai g3.blk (Ai Dd (Ai Y (Ai (dB o2.th) ?_))));intro h4 p4;have g4:=g3.put p4;have B8:ai h4 b8 (bg i.thing pv lv rv):=p4.blk;have o4:=o2.ext g4.ae;have dM:ag [] h1 h4:=c2.nil g4.ae;refine Ei _ (Ai Y (Ai (akW B8)<|akV (Ju o4.th now) ?_));rintro _ h5 ⟨rfl,c5⟩;have me:=dM.nil c5;have o5:=o4.ext c5;have B65:=B6.ae me Yy;have H3:=B8.ae c5 Yy;cases hg:(i.thing.cP&&decide (i.thing.bQ<=now))with
  |true=>
   have e:go=none:=by rw[bN];unfold aC;rw[pN];simp only;rw[ak4 (show iT i.thing now=true from hg)]
   subst e;refine Ei zeroV (Ai B65 (Ai Dd (Ai Y (Ai (dB (jA (h:=h5))) ?_))));intro h6 p6;have qn:ai h6 b6 zeroV:=p6.blk;exact Ei zeroV (Ai Y (Ai (akW qn)<|Ai (get_none _ _) ((c1.nil me).fresh p6.ae Ys)))
  |false=>
   have e:go=some i.thing:=by rw[bN];unfold aC;rw[pN];simp only;rw[akZ (by unfold iT;rw[hg];simp)]
   subst e;refine Ei _ (Ai Y (Ai (akW H3)<|Ei zeroV (Ai B65 (Ai Dd (Ai Y (Ai (dB o5.th) ?_))))));intro h6 p6;have qn:ai h6 b6 (bg i.thing pv lv rv):=p6.blk;have o6:=o5.ae p6.ae (λb hb=>by have:=fr b hb;simp;omega);exact Ei _ (Ai Y (Ai (akW qn)<|Ai ⟨pv,lv,rv,Y,o6.th,λb hb=>⟨by have:=fr b hb;omega,o6.lt b hb⟩⟩ ((c1.nil me).fresh p6.ae Ys)))
 .have e:go=none:=by rw[bN];unfold aC;rw[Jk hs bw]
  subst e;intro b8 h3 g3;refine Ei zeroV (Ai g3.blk (Ai Dd (Ai Y (Ai (dB (jA (h:=h3))) ?_))));intro h4 p4;have g4:=g3.put p4;have dM:ag [] h1 h4:=c2.nil g4.ae;have vO:=B6.ae dM Yy;refine Ei zeroV (Ai vO (Ai Dd (Ai Y (Ai (dB (jA (h:=h4))) ?_))));intro h6 p6;have qn:ai h6 b6 zeroV:=p6.blk;exact Ei zeroV (Ai Y (Ai (akW qn)<|Ai (get_none _ _) ((c1.nil dM).fresh p6.ae Ys)))
def ahC{h0 h:af}{ab kb sb mb c:Nat}{now:Int}{av lv:Value}{A:List BA}{L:List aA}{m:List KI}{S:aH}(key:BA)(x:AS h0 h ab kb now av A lv L)(bW:KR h0 kb sb mb c m)(hs:bT m S):aj Tryz.prog 244 [ptr ab,.string key] h (Out (λr h'=>(∀t,aC S key now=some t->t.kind=1)∧r=.tuple #[.string ((aC S key now).getD aL).text,.bool (aC S key now).isSome]∧ag [] h h')
   (λwhy h'=>(∃t,aC S key now=some t∧t.kind≠1)∧why=gI∧ag [] h h')):=by
 have hB:=x.blk;have kr:=bW.ext x.ae;obtain⟨go,bN⟩:∃go,go=aC S key now:=⟨_,Y⟩
 have get:∀{h1},ag [] h h1->aj Tryz.prog 15 [ptr kb,.string key,.int .i64 now] h1 (ao λr h'=>A4 h1 h' go r∧ag [] h1 h'):=λhc=>by
  rw[bN];exact Ex key now (kr.ext hc) hs
 rw[<-bN];have rest:∀{h2:af}{b6:Nat}{us:List Value},ag [] h h2->ai h2 b6 us->TH h2 us (go.getD aL)->
   swp Tryz.prog f244.sc.r.r (cC [.t 4,.t 5] (Out (λr h'=>(∀t,go=some t->t.kind=1)∧r=.tuple #[.string (go.getD aL).text,.bool go.isSome]∧ag [] h h')
   (λwhy h'=>(∃t,go=some t∧t.kind≠1)∧why=gI∧ag [] h h'))) (mk [(6,ptr b6),(7,.bool go.isSome)]) [] h2:=by
  intro h2 b6 us hc B tu;obtain⟨pv,lv,rv,rfl,_⟩:=tu;clear bN get;cases go with
  |none=>
   refine iP mz ?_ ?_
   .rintro _ h3 ⟨_,rfl⟩;refine Ei _ (Ai (an B Y) ?_);exact⟨λt ht=>(by cases ht),Y,hc⟩
   .rintro _ h3 ⟨hb,_⟩;cases hb
  |some t=>
   refine Ei _ (Ai (an B Y)<|Bi (λh1=>?_) λh1=>?_)
   .refine iP mz ?_ ?_
    .rintro _ h3 ⟨_,rfl⟩;refine Ei _ (Ai (an B Y) ?_);exact⟨λt' ht=>(by cases ht;exact h1),Y,hc⟩
    .rintro _ h3 ⟨hb,_⟩;cases hb
   .refine iP mz ?_ ?_
    .rintro _ h3 ⟨hb,_⟩;cases hb
    .rintro _ h3 ⟨_,rfl,rfl⟩;exact⟨_,Y,⟨t,Y,h1⟩,Y,hc⟩
 refine f244.c<|Ei _ (Ai (an hB Y) (Ei _ (Ai (an hB Y)<|Ai ?_ ?_)))
 .refine iw (get (ag.refl h)) ?_;rintro _ h1 ⟨⟨pv,lw,rv,rfl,tu,fr⟩,c1⟩;refine Ai c1.ext ?_;intro b6 h2 g2;refine Ei _ (Ai g2.blk (Ai Dd (Ai tu.len (Ai (dB tu) ?_))));intro h3 p3;have g3:=g2.put p3;have B3:ai h3 b6 (bg (go.getD aL) pv lw rv):=by
   have h9:ai h3 b6 (splice zeroV 0 (bg (go.getD aL) pv lw rv)):=p3.blk;rw[seven Y tu.len]at h9;exact h9
  exact aW [(6,ptr b6),(7,.bool go.isSome)] J2 (rest (c1.nil g3.ae) B3 (tu.ext g3.ae))
 .intro b6 h1 g1;refine iw (get g1.ae) ?_;rintro _ h2 ⟨⟨pv,lw,rv,rfl,tu,fr⟩,c2⟩;refine Ai c2.ext ?_;have B2:ai h2 b6 zeroV:=(show ai h1 b6 zeroV from g1.blk).ae c2 Yy;refine Ei _ (Ai B2 (Ai Dd (Ai tu.len (Ai (dB tu) ?_))));intro h3 p3;have B3:ai h3 b6 (bg (go.getD aL) pv lw rv):=by
   have h9:ai h3 b6 (splice zeroV 0 (bg (go.getD aL) pv lw rv)):=p3.blk;rw[seven Y tu.len]at h9;exact h9
  have i1:=g1.id;have c3:ag [] h h3:=(g1.ae.nil c2).fresh p3.ae Ys;have z1:=g1.size;have t3:=uj tu p3.ae (λb hb=>by have:=fr b hb;simp;omega);exact aW [(6,ptr b6),(7,.bool go.isSome)] J2 (rest c3 B3 t3)
end Go.Proofs.YtocgmipngoiieaaGreatDoor
namespace Go.Proofs
open Go.RowKit Go.Shelf
def Tryz.laysC174_ren:Go.Shelf.Ren:=⟨fun|174=>301|247=>323|245=>324|287=>329|279=>330|280=>331|281=>332|282=>333|321=>334|322=>335|316=>336|171=>338|205=>337|243=>339|246=>120|283=>152|284=>153|285=>154|286=>155|129=>166|317=>229|318=>230|319=>231|320=>232|337=>298|338=>299|n=>n,fun|9=>9|3=>3|2=>2|75=>289|85=>290|4=>4|167=>323|5=>5|53=>212|175=>324|46=>187|168=>326|37=>134|0=>0|210=>331|21=>21|127=>333|145=>336|143=>334|171=>211|173=>215|212=>243|51=>225|20=>20|213=>244|232=>315|233=>316|80=>337|n=>n,fun|15=>4|16=>5|17=>1|18=>2|19=>3|n=>n⟩
def Tryz.laysC174:Go.Proofs.LaysC.n174 Tryz.prog Tryz.laysC174_ren:={
 mixed:=Kr
 f129:=Tryz.func166.trans (alC some Kr)
 f171:=Tryz.func338.trans (alC some Kr)
 f174:=Tryz.func301.trans (alC some Kr)
 f205:=Tryz.func337.trans (alC some Kr)
 f243:=Tryz.func339.trans (alC some Kr)
 f245:=Tryz.func324.trans (alC some Kr)
 f246:=Tryz.func120.trans (alC some Kr)
 f247:=Tryz.func323.trans (alC some Kr)
 f279:=Tryz.func330.trans (alC some Kr)
 f280:=Tryz.func331.trans (alC some Kr)
 f281:=Tryz.func332.trans (alC some Kr)
 f282:=Tryz.func333.trans (alC some Kr)
 f283:=Tryz.func152.trans (alC some Kr)
 f284:=Tryz.func153.trans (alC some Kr)
 f285:=Tryz.func154.trans (alC some Kr)
 f286:=Tryz.func155.trans (alC some Kr)
 f287:=Tryz.func329.trans (alC some Kr)
 f316:=Tryz.func336.trans (alC some Kr)
 f317:=Tryz.func229.trans (alC some Kr)
 f318:=Tryz.func230.trans (alC some Kr)
 f319:=Tryz.func231.trans (alC some Kr)
 f320:=Tryz.func232.trans (alC some Kr)
 f321:=Tryz.func334.trans (alC some Kr)
 f322:=Tryz.func335.trans (alC some Kr)
 f337:=Tryz.func298.trans (alC some Kr)
 f338:=Tryz.func299.trans (alC some Kr)
 t0:=Tryz.underlying0
 a0:=Tryz.isAgg0
 z0:=Tryz.sizeOf0
 v0:=Tryz.zeroValue0
 t2:=Tryz.underlying2
 a2:=Tryz.isAgg2
 z2:=Tryz.sizeOf2
 v2:=Tryz.zeroValue2
 t3:=Tryz.underlying3
 a3:=Tryz.isAgg3
 z3:=Tryz.sizeOf3
 v3:=Tryz.zeroValue3
 t4:=Tryz.underlying4
 a4:=Tryz.isAgg4
 z4:=Tryz.sizeOf4
 v4:=Tryz.zeroValue4
 t5:=Tryz.underlying5
 a5:=Tryz.isAgg5
 z5:=Tryz.sizeOf5
 v5:=Tryz.zeroValue5
 t9:=Tryz.underlying9
 a9:=Tryz.isAgg9
 z9:=Tryz.sizeOf9
 v9:=Tryz.zeroValue9
 t20:=Tryz.underlying20
 a20:=Tryz.isAgg20
 z20:=Tryz.sizeOf20
 v20:=Tryz.zeroValue20
 t21:=Tryz.underlying21
 a21:=Tryz.isAgg21
 z21:=Tryz.sizeOf21
 v21:=Tryz.zeroValue21
 t37:=Tryz.underlying134
 a37:=Tryz.isAgg134
 z37:=Tryz.sizeOf134
 v37:=Tryz.zeroValue134
 t46:=Tryz.underlying187
 a46:=Tryz.isAgg187
 z46:=Tryz.sizeOf187
 v46:=Tryz.zeroValue187
 t51:=Tryz.underlying225
 a51:=Tryz.isAgg225
 z51:=Tryz.sizeOf225
 v51:=Tryz.zeroValue225
 t53:=Tryz.underlying212
 a53:=Tryz.isAgg212
 z53:=Tryz.sizeOf212
 v53:=Tryz.zeroValue212
 t75:=Tryz.underlying289
 a75:=Tryz.isAgg289
 z75:=Tryz.sizeOf289
 v75:=Tryz.zeroValue289
 t85:=Tryz.underlying290
 a85:=Tryz.isAgg290
 z85:=Tryz.sizeOf290
 v85:=Tryz.zeroValue290
 t127:=Tryz.underlying333
 a127:=Tryz.isAgg333
 z127:=Tryz.sizeOf333
 v127:=Tryz.zeroValue333
 t143:=Tryz.underlying334
 a143:=Tryz.isAgg334
 z143:=Tryz.sizeOf334
 v143:=Tryz.zeroValue334
 t145:=Tryz.underlying336
 a145:=Tryz.isAgg336
 z145:=Tryz.sizeOf336
 v145:=Tryz.zeroValue336
 t167:=Tryz.underlying323
 a167:=Tryz.isAgg323
 z167:=Tryz.sizeOf323
 v167:=Tryz.zeroValue323
 t168:=Tryz.underlying326
 a168:=Tryz.isAgg326
 z168:=Tryz.sizeOf326
 v168:=Tryz.zeroValue326
 t171:=Tryz.underlying211
 a171:=Tryz.isAgg211
 z171:=Tryz.sizeOf211
 v171:=Tryz.zeroValue211
 t173:=Tryz.underlying215
 a173:=Tryz.isAgg215
 z173:=Tryz.sizeOf215
 v173:=Tryz.zeroValue215
 t175:=Tryz.underlying324
 a175:=Tryz.isAgg324
 z175:=Tryz.sizeOf324
 v175:=Tryz.zeroValue324
 t210:=Tryz.underlying331
 a210:=Tryz.isAgg331
 z210:=Tryz.sizeOf331
 v210:=Tryz.zeroValue331
 t212:=Tryz.underlying243
 a212:=Tryz.isAgg243
 z212:=Tryz.sizeOf243
 v212:=Tryz.zeroValue243
 t213:=Tryz.underlying244
 a213:=Tryz.isAgg244
 z213:=Tryz.sizeOf244
 t232:=Tryz.underlying315
 a232:=Tryz.isAgg315
 z232:=Tryz.sizeOf315
 v232:=Tryz.zeroValue315
 t233:=Tryz.underlying316
 a233:=Tryz.isAgg316
 z233:=Tryz.sizeOf316
 v233:=Tryz.zeroValue316
 g15:=Kr
 g16:=Kr
 g17:=Kr
 g18:=Kr
 g19:=Kr
 t80:=Tryz.underlying337
 a80:=Tryz.isAgg337
 z80:=Tryz.sizeOf337
 v80:=Tryz.zeroValue337
 i0:=Kr
 i2:=Kr
 i3:=Kr
 i4:=Kr
 i5:=Kr
 i9:=Kr
 i20:=Kr
 i21:=Kr
 i37:=Kr
 i46:=Kr
 i51:=Kr
 i53:=Kr
 i75:=Kr
 i80:=Kr
 i85:=Kr
 i127:=Kr
 i143:=Kr
 i145:=Kr
 i167:=Kr
 i168:=Kr
 i171:=Kr
 i173:=Kr
 i175:=Kr
 i210:=Kr
 i212:=Kr
 i232:=Kr
 i233:=Kr
 m15:=Kr
 m16:=Kr
 m17:=Kr
 m18:=Kr
 m19:=Kr
 c0:=Kr
 c2:=Kr
 c3:=Kr
 c4:=Kr
 c5:=Kr
 c9:=Kr
 c20:=Kr
 c21:=Kr
 c37:=Kr
 c46:=Kr
 c51:=Kr
 c53:=Kr
 c75:=Kr
 c80:=Kr
 c85:=Kr
 c127:=Kr
 c143:=Kr
 c145:=Kr
 c167:=Kr
 c168:=Kr
 c171:=Kr
 c173:=Kr
 c175:=Kr
 c210:=Kr
 c212:=Kr
 c213:=Kr
 c232:=Kr
 c233:=by kernel_rfl}
def Tryz.laysM173_ren:Go.Shelf.Ren:=⟨fun|173=>94|246=>120|283=>152|284=>153|285=>154|286=>155|129=>166|317=>229|318=>230|319=>231|320=>232|337=>298|338=>299|n=>n,fun|2=>2|3=>3|9=>9|4=>4|171=>211|0=>0|53=>212|37=>134|5=>5|173=>215|212=>243|51=>225|20=>20|213=>244|46=>187|232=>315|233=>316|n=>n,fun|17=>1|18=>2|19=>3|n=>n⟩
def Tryz.laysM173:Go.Proofs.LaysM.n173 Tryz.prog Tryz.laysM173_ren:={
 mixed:=Kr
 f129:=Tryz.func166.trans (alC some Kr)
 f173:=Tryz.func94.trans (alC some Kr)
 f246:=Tryz.func120.trans (alC some Kr)
 f283:=Tryz.func152.trans (alC some Kr)
 f284:=Tryz.func153.trans (alC some Kr)
 f285:=Tryz.func154.trans (alC some Kr)
 f286:=Tryz.func155.trans (alC some Kr)
 f317:=Tryz.func229.trans (alC some Kr)
 f318:=Tryz.func230.trans (alC some Kr)
 f319:=Tryz.func231.trans (alC some Kr)
 f320:=Tryz.func232.trans (alC some Kr)
 f337:=Tryz.func298.trans (alC some Kr)
 f338:=Tryz.func299.trans (alC some Kr)
 t0:=Tryz.underlying0
 a0:=Tryz.isAgg0
 z0:=Tryz.sizeOf0
 v0:=Tryz.zeroValue0
 t2:=Tryz.underlying2
 a2:=Tryz.isAgg2
 z2:=Tryz.sizeOf2
 v2:=Tryz.zeroValue2
 t3:=Tryz.underlying3
 a3:=Tryz.isAgg3
 z3:=Tryz.sizeOf3
 v3:=Tryz.zeroValue3
 t4:=Tryz.underlying4
 a4:=Tryz.isAgg4
 z4:=Tryz.sizeOf4
 v4:=Tryz.zeroValue4
 t5:=Tryz.underlying5
 a5:=Tryz.isAgg5
 z5:=Tryz.sizeOf5
 v5:=Tryz.zeroValue5
 t9:=Tryz.underlying9
 a9:=Tryz.isAgg9
 z9:=Tryz.sizeOf9
 v9:=Tryz.zeroValue9
 t20:=Tryz.underlying20
 a20:=Tryz.isAgg20
 z20:=Tryz.sizeOf20
 v20:=Tryz.zeroValue20
 t37:=Tryz.underlying134
 a37:=Tryz.isAgg134
 z37:=Tryz.sizeOf134
 v37:=Tryz.zeroValue134
 t46:=Tryz.underlying187
 a46:=Tryz.isAgg187
 z46:=Tryz.sizeOf187
 v46:=Tryz.zeroValue187
 t51:=Tryz.underlying225
 a51:=Tryz.isAgg225
 z51:=Tryz.sizeOf225
 v51:=Tryz.zeroValue225
 t53:=Tryz.underlying212
 a53:=Tryz.isAgg212
 z53:=Tryz.sizeOf212
 v53:=Tryz.zeroValue212
 t171:=Tryz.underlying211
 a171:=Tryz.isAgg211
 z171:=Tryz.sizeOf211
 v171:=Tryz.zeroValue211
 t173:=Tryz.underlying215
 a173:=Tryz.isAgg215
 z173:=Tryz.sizeOf215
 v173:=Tryz.zeroValue215
 t212:=Tryz.underlying243
 a212:=Tryz.isAgg243
 z212:=Tryz.sizeOf243
 v212:=Tryz.zeroValue243
 t213:=Tryz.underlying244
 a213:=Tryz.isAgg244
 z213:=Tryz.sizeOf244
 t232:=Tryz.underlying315
 a232:=Tryz.isAgg315
 z232:=Tryz.sizeOf315
 v232:=Tryz.zeroValue315
 t233:=Tryz.underlying316
 a233:=Tryz.isAgg316
 z233:=Tryz.sizeOf316
 v233:=Tryz.zeroValue316
 g17:=Kr
 g18:=Kr
 g19:=Kr
 i0:=Kr
 i2:=Kr
 i3:=Kr
 i4:=Kr
 i5:=Kr
 i9:=Kr
 i20:=Kr
 i37:=Kr
 i46:=Kr
 i51:=Kr
 i53:=Kr
 i171:=Kr
 i173:=Kr
 i212:=Kr
 i232:=Kr
 i233:=Kr
 m17:=Kr
 m18:=Kr
 m19:=by kernel_rfl}
end Go.Proofs
namespace Go.Num
open Go Go.Lib
def vh(c:UInt8):Prop:=48<=c.toNat∧c.toNat<=57
def EP(d:List UInt8):Prop:=∀c∈d,vh c
@[irreducible] def gD (m:Nat) (c:UInt8):Nat:=m*10+(c.toNat-48)
def Am(m:Nat)(c:UInt8):gD m c=m*10+(c.toNat-48):=by unfold gD;rfl
def lW(m:Nat):List UInt8->Nat
 |[]=>m
 |c::r=>lW (gD m c) r
abbrev val(d:List UInt8):Nat:=lW 0 d
def Na(m:Nat):lW m []=m:=rfl
def HT(m:Nat)(c:UInt8)(r:List UInt8):lW m (c::r)=lW (gD m c) r:=rfl
def MO(T m:Nat)(c:UInt8):Option Nat:=if 48<=c.toNat∧c.toNat<=57 then(if T<gD m c then none else some (gD m c))else none
def qg(T m:Nat):List UInt8->Option Nat
 |[]=>some m
 |c::r=>match MO T m c with
  |some k=>qg T k r
  |none=>none
def vB(T:Nat)(neg:Bool)(d:List UInt8):Option Int:=
 match qg T 0 d with
 |none=>none
 |some m=>if neg then some (-(m:Int))else if m=T then none else some m
def ot(T:Nat)(neg:Bool)(d:List UInt8):Option Int:=
 if d=[]∨(1<d.length∧d.head? =some 48)∨(neg=true∧d=[48])then none else vB T neg d
def rp(T:Nat)(l:List UInt8):Option Int:=
 if l=[]∨20<l.length then none else if l.head? =some 45 then ot T true l.tail else ot T false l
def num(l:List UInt8):Option Int:=
 match parseIntB 64 l with
 |.ok v=>if itoa v=l then some v else none
 |_=>none
def UB(T m:Nat):qg T m []=some m:=rfl
def UA(T m:Nat)(c:UInt8)(r:List UInt8):qg T m (c::r)=if 48<=c.toNat∧c.toNat<=57 then(if T<gD m c then none else qg T (gD m c) r)else none:=by
 show(match MO T m c with|some k=>qg T k r|none=>none)=_;unfold MO;by_cases h1:48<=c.toNat∧c.toNat<=57
 .rw[ak4 h1,ak4 h1];by_cases h2:T<gD m c
  .rw[ak4 h2,ak4 h2]
  .rw[akZ h2,akZ h2]
 .rw[akZ h1,akZ h1]
def HU(m:Nat):∀d:List UInt8,m<=lW m d
 |[]=>ali _
 |c::r=>al6 (by rw[Am];omega) (HU (gD m c) r)
def Nb(c:UInt8):∀(m:Nat)(d:List UInt8),lW m (d++[c])=lW m d*10+(c.toNat-48)
 |m,[]=>Am m c
 |m,x::r=>Nb c (gD m x) r
def Mt{T:Nat}:∀(d:List UInt8)(m k:Nat),m<=T->(qg T m d=some k↔EP d∧lW m d=k∧k<=T)
 |[],m,k,hm=>by
  rw[UB,Na];simp only[anO];exact⟨λh=>⟨(by intro c hc;cases hc),h,V⟩,λh=>h.2.1⟩
 |c::r,m,k,hm=>by
  rw[UA,HT];by_cases hd:48<=c.toNat∧c.toNat<=57
  .rw[ak4 hd];by_cases hb:T<gD m c
   .rw[ak4 hb];refine⟨λh=>(by cases h),λ⟨_,h2,h3⟩=>?_⟩;have:=HU (gD m c) r;omega
   .rw[akZ hb,Mt r _ k V];refine⟨λ⟨h1,h2⟩=>⟨λx hx=>?_,h2⟩,λ⟨h1,h2⟩=>⟨λx hx=>h1 x (by simp[hx]),h2⟩⟩;rcases ak3.1 hx with rfl|hx
    .exact hd
    .exact h1 x hx
  .rw[akZ hd];exact⟨λh=>(by cases h),λ⟨h1,_⟩=>absurd (h1 c Yy) hd⟩
def L6:∀(d:List UInt8)(m:Nat),EP d->lW m d<=18446744073709551615->parseUintM 18446744073709551615 m d=.ok (lW m d)
 |[],m,_,_=>by rw[Na];unfold parseUintM;rfl
 |c::r,m,hd,hv=>by
  have h1:vh c:=hd c Yy;have cp:=HU (gD m c) r;have hn:=Am m c;rw[HT]at hv⊢;unfold parseUintM;rw[ak4 (show 48<=c.toNat∧c.toNat<=57 from h1),akZ V,akZ V,<-hn];exact L6 r _ (λx hx=>hd x (by simp[hx])) hv
def Ov{c:UInt8}(h:vh c):UInt8.ofNat (48+(c.toNat-48))=c:=by
 have:48+(c.toNat-48)=c.toNat:=by have:=h.1;omega
 rw[this];exact UInt8.ofNat_toNat
def wu(x:Nat):UInt8:=UInt8.ofNat (48+x)
def Ou{x:Nat}(h:x<10):vh (wu x)∧(wu x).toNat=48+x:=by
 unfold wu;have:(UInt8.ofNat (48+x)).toNat=48+x:=by rw[UInt8.toNat_ofNat'];omega
 exact⟨⟨V,V⟩,this⟩
def canon:∀(n:Nat)(d:List UInt8),d.length=n->EP d->d≠[]->(d.length=1∨d.head? ≠some 48)->decDigits (val d)=d
 |0,d,hl,_,ax,_=>absurd (amz.1 hl) ax
 |n+1,d,hl,hd,ax,hc=>by
  obtain⟨e,c,rfl⟩:∃e c,d=e++[c]:=⟨d.dropLast,d.getLast ax,(List.dropLast_concat_getLast ax).symm⟩
  have JU:vh c:=hd c Yy;have hs:val (e++[c])=val e*10+(c.toNat-48):=Nb c 0 e;have hx:c.toNat-48<10:=by have:=JU.2;omega
  by_cases he:e=[]
  .subst he;have:val ([]++[c])=c.toNat-48:=by rw[hs,show val []=0 from Y];omega
   rw[this,decDigits,dif_pos hx,Ov JU];rfl
  .obtain⟨x,r,rfl⟩:∃x r,e=x::r:=am2 he;have Ra:x≠48:=by
    rcases hc with hc|hc
    .simp at hc
    .intro e;subst e;simp at hc
   have sg:vh x:=hd x Yy;have ih:=canon n (x::r) (by simp at hl⊢;omega) (λy hy=>hd y (by simp at hy⊢;rcases hy with h|h<;>simp[h])) Yy (.inr (by simpa using Ra));have iC:1<=val (x::r):=by
    have h2:x.toNat≠48:=λh=>Ra (ann.1 h);have:=HU (gD 0 x) r;have h3:=sg.1;have hn:=Am 0 x;show 1<=lW 0 (x::r);rw[HT];omega
   have bp:¬val (x::r++[c])<10:=by rw[hs];omega
   rw[decDigits,dif_neg bp,hs];have e1:(val (x::r)*10+(c.toNat-48))/10=val (x::r):=V
   have e2:(val (x::r)*10+(c.toNat-48))%10=c.toNat-48:=V
   rw[e1,e2,ih,Ov JU]
def BS:∀(n u:Nat),u<n->EP (decDigits u)∧decDigits u≠[]∧val (decDigits u)=u∧((decDigits u).length=1∨(decDigits u).head? ≠some 48)∧(u≠0->(decDigits u).head? ≠some 48)
 |0,u,h=>absurd h V
 |n+1,u,h=>by
  by_cases bp:u<10
  .obtain⟨h1,h2⟩:=Ou bp;have e:decDigits u=[wu u]:=by rw[decDigits,dif_pos bp];rfl
   rw[e];refine⟨by intro c hc;simp at hc;subst hc;exact h1,Yy,?_,.inl Y,λh0=>?_⟩
   .show lW 0 [wu u]=u;rw[HT,Na,Am,h2];omega
   .simp only[List.head?_cons,ne_eq,anO];intro e;have:=alC UInt8.toNat e;rw[h2]at this;simp at this;omega
  .obtain⟨i1,i2,i3,i4,i5⟩:=BS n (u/10) V;obtain⟨h1,h2⟩:=Ou (x:=u%10) V;have e:decDigits u=decDigits (u/10)++[wu (u%10)]:=by rw[decDigits,dif_neg bp];rfl
   have hh:(decDigits u).head? ≠some 48:=by
    obtain⟨x,r,hx⟩:=am2 i2;have:=i5 V;rw[e,hx];rw[hx]at this;simpa using this
   refine⟨?_,by rw[e];simp,?_,.inr hh,λ_=>hh⟩
   .rw[e];intro c hc;rcases alf.1 hc with hc|hc
    .exact i1 c hc
    .simp at hc;subst hc;exact h1
   .rw[e];have:=Nb (wu (u%10)) 0 (decDigits (u/10));rw[h2]at this;have xn:lW 0 (decDigits (u/10))=u/10:=i3;rw[xn]at this;show lW 0 _=u;rw[this];omega
def alX:∀(k u:Nat),u<10 ^ (k+1)->(decDigits u).length<=k+1
 |0,u,h=>by rw[decDigits,dif_pos (by simpa using h)];simp
 |k+1,u,h=>by
  rw[decDigits];split
  .simp
  .have:=alX k (u/10) (by rw[Nat.pow_succ]at h;omega);simp;omega
def aeI{T:Nat}(hT:T=9223372036854775808){l:List UInt8}{v:Int}(hx:parseIntB 64 l=.ok v): -(T:Int)<=v∧v<T:=by
 unfold parseIntB at hx;split at hx
 .cases hx
 .rename_i c r;simp only at hx;split at hx
  .cases hx
  .cases hx
  .rename_i u hu;have e:2 ^ (64-1)=T:=by rw[hT]
   rw[e]at hx;split at hx
   .cases hx
   .rename_i h1;split at hx
    .cases hx
    .rename_i h2;simp at hx;subst hx;split<;>rename_i gz
     .have:u<=T:=by
       rcases amQ T u with h|h
       .exact absurd ⟨gz,h⟩ h2
       .exact h
      omega
     .have:u<T:=by
       rcases amQ u T with h|h
       .exact h
       .exact absurd ⟨gz,h⟩ h1
      omega
def LM{T:Nat}(hT:T=9223372036854775808)(l:List UInt8)(v:Int):num l=some v↔(-(T:Int)<=v∧v<T)∧itoa v=l:=by
 unfold num;constructor
 .intro h;split at h
  .rename_i x hx;split at h
   .rename_i hi;simp at h;subst h;refine⟨?_,hi⟩;unfold parseIntB at hx;split at hx
    .cases hx
    .rename_i c r;simp only at hx;split at hx
     .cases hx
     .cases hx
     .rename_i u hu;have e:2 ^ (64-1)=T:=by rw[hT]
      rw[e]at hx;split at hx
      .cases hx
      .rename_i h1;split at hx
       .cases hx
       .rename_i h2;simp at hx;subst hx;split<;>rename_i gz
        .have:u<=T:=by
          rcases amQ T u with h|h
          .exact absurd ⟨gz,h⟩ h2
          .exact h
         omega
        .have:u<T:=by
          rcases amQ u T with h|h
          .exact h
          .exact absurd ⟨gz,h⟩ h1
         omega
   .cases h
  .cases h
 .rintro⟨⟨h0,h1⟩,rfl⟩;have key:parseIntB 64 (itoa v)=.ok v:=by
   have e:2 ^ (64-1)=T:=by rw[hT]
   have eM:2 ^ 64-1=18446744073709551615:=Dd
   unfold itoa;split
   .rename_i gz;obtain⟨i1,i2,i3,i4,i5⟩:=BS (v.natAbs+1) v.natAbs V;have xn:lW 0 (decDigits v.natAbs)=v.natAbs:=i3;have c45:(45:UInt8).toNat=45:=rfl;have hp:parseUintB 64 (decDigits v.natAbs)=.ok v.natAbs:=by
     unfold parseUintB;rw[akZ i2,eM,L6 _ 0 i1 (by rw[xn];omega),xn]
    unfold parseIntB;simp only[c45,anB,or_true,hp,e];rw[akZ Yy,akZ V];congr 1;omega
   .rename_i gz;obtain⟨i1,i2,i3,i4,i5⟩:=BS (v.toNat+1) v.toNat V;have xn:lW 0 (decDigits v.toNat)=v.toNat:=i3;obtain⟨x,r,hx⟩:=am2 i2;have sg:vh x:=i1 x (by rw[hx];simp);have vd:48<=x.toNat:=sg.1;have hp:parseUintB 64 (x::r)=.ok v.toNat:=by
     rw[<-hx];unfold parseUintB;rw[akZ i2,eM,L6 _ 0 i1 (by rw[xn];omega),xn]
    rw[hx];have n1:¬x.toNat=45:=V
    unfold parseIntB;have n3:¬x.toNat=43:=V
    simp only[n1,n3,or_self,ana,hp,e,false_and,not_false_eq_true,aos];rw[akZ V];congr 1;omega
  rw[key];simp
def Vm{T:Nat}(d:List UInt8)(neg:Bool)(v:Int):vB T neg d=some v↔∃m,qg T 0 d=some m∧(neg=true->v= -(m:Int))∧(neg=false->m≠T∧v=m):=by
 unfold vB;cases hr:qg T 0 d with
 |none=>exact⟨λh=>(by cases h),λ⟨m,h,_⟩=>(by cases h)⟩
 |some m=>
  cases neg with
  |true=>
   show some (-(m:Int))=some v↔_;exact⟨λh=>⟨m,Y,λ_=>(amu h).symm,λh=>(by cases h)⟩,λ⟨k,h1,h2,_⟩=>by rw[h2 Y,amu h1]⟩
  |false=>
   show(if m=T then none else some (m:Int))=some v↔_;by_cases he:m=T
   .rw[ak4 he];exact⟨λh=>(by cases h),λ⟨k,h1,_,h3⟩=>absurd ((amu h1).symm.trans he) (h3 Y).1⟩
   .rw[akZ he];exact⟨λh=>⟨m,Y,λh=>(by cases h),λ_=>⟨he,(amu h).symm⟩⟩,λ⟨k,h1,_,h3⟩=>by rw[(h3 Y).2,amu h1]⟩
def EY{T:Nat}(d:List UInt8)(neg:Bool)(v:Int):ot T neg d=some v↔∃m,d=decDigits m∧m<=T∧(neg=true->m≠0∧v= -(m:Int))∧(neg=false->m≠T∧v=m):=by
 unfold ot;constructor
 .intro h;by_cases hb:d=[]∨(1<d.length∧d.head? =some 48)∨(neg=true∧d=[48])
  .rw[ak4 hb]at h;cases h
  .rw[akZ hb]at h;obtain⟨m,hm,h1,h2⟩:=(Vm d neg v).1 h;obtain⟨k1,k2,k3⟩:=(Mt d 0 m (ak8 _)).1 hm;have ax:d≠[]:=λe=>hb (.inl e);have hc:=canon d.length d Y k1 ax (by
    rcases amQ 1 d.length with h|h
    .exact .inr λe=>hb (.inr (.inl ⟨h,e⟩))
    .have:=am8.2 ax;exact .inl V)
   have hv:val d=m:=k2;rw[hv]at hc;refine⟨m,hc.symm,k3,λhn=>⟨?_,h1 hn⟩,h2⟩;rintro rfl;refine hb (.inr (.inr ⟨hn,?_⟩));rw[<-hc,decDigits,dif_pos V];rfl
 .rintro⟨m,rfl,hT,h1,h2⟩;obtain⟨i1,i2,i3,i4,i5⟩:=BS (m+1) m V;rw[akZ]
  .exact(Vm _ neg v).2 ⟨m,(Mt _ 0 _ (ak8 _)).2 ⟨i1,i3,hT⟩,λhn=>(h1 hn).2,h2⟩
  .rintro(h|⟨h,h3⟩|⟨h,h3⟩)
   .exact i2 h
   .rcases i4 with i4|i4
    .omega
    .exact i4 h3
   .have:=i5 (h1 h).1;rw[h3]at this;simp at this
def T'{T:Nat}(hT:T=9223372036854775808)(l:List UInt8)(v:Int):rp T l=some v↔(-(T:Int)<=v∧v<T)∧itoa v=l:=by
 unfold rp;constructor
 .intro h;by_cases lB:l=[]∨20<l.length
  .rw[ak4 lB]at h;cases h
  .rw[akZ lB]at h;by_cases hh:l.head? =some 45
   .rw[ak4 hh]at h;obtain⟨r,rfl⟩:∃r,l=45::r:=by
     cases l with
     |nil=>simp at hh
     |cons x r=>simp at hh;subst hh;exact⟨r,Y⟩
    obtain⟨m,hd,hm,h1,_⟩:=(EY _ true v).1 h;have hd:r=decDigits m:=hd;obtain⟨h0,rfl⟩:=h1 Y;refine⟨V,?_⟩;unfold itoa;rw[ak4 V,show(-(m:Int)).natAbs=m by omega,hd]
   .rw[akZ hh]at h;obtain⟨m,hd,hm,_,h2⟩:=(EY _ false v).1 h;obtain⟨h0,rfl⟩:=h2 Y;refine⟨V,?_⟩;unfold itoa;rw[akZ V,show((m:Int)).toNat=m by omega,hd]
 .rintro⟨⟨h0,h1⟩,rfl⟩;by_cases gz:v<0
  .have e:itoa v=45::decDigits v.natAbs:=by unfold itoa;rw[ak4 gz]
   have hl:=alX 18 v.natAbs V;rw[e,akZ Ys,ak4 (show(45::decDigits v.natAbs).head? =some 45 from Y)];exact(EY _ true v).2 ⟨v.natAbs,Y,V,λ_=>⟨V,V⟩,λh=>by cases h⟩
  .obtain⟨i1,i2,i3,i4,i5⟩:=BS (v.toNat+1) v.toNat V;have e:itoa v=decDigits v.toNat:=by unfold itoa;rw[akZ gz]
   have hl:=alX 18 v.toNat V;have yY:¬(decDigits v.toNat).head? =some 45:=by
    obtain⟨x,r,hx⟩:=am2 i2;have sg:vh x:=i1 x (by rw[hx];simp);rw[hx];simp;intro e;subst e;exact absurd sg.1 Dd
   rw[e,akZ (by
    rintro(h|h)
    .exact i2 h
    .omega),akZ yY]
   exact(EY _ false v).2 ⟨v.toNat,Y,V,λh=>(by cases h),λ_=>⟨V,V⟩⟩
def ad5{T:Nat}(hT:T=9223372036854775808)(l:List UInt8):num l=rp T l:=by
 cases h:rp T l with
 |some v=>exact(LM hT l v).2 ((T' hT l v).1 h)
 |none=>
  cases h2:num l with
  |none=>rfl
  |some v=>rw[(T' hT l v).2 ((LM hT l v).1 h2)]at h;cases h
end Go.Num
namespace Go.Proofs.YtocgmipngoiieaaGreatDoor
open Go Go.Sx C
def Ew(v:Value):Prop:=v=.nilIface∨∃te pe,v=.iface te pe
def dr(h:af):Prop:=(∃t fr,h[1]? =some (.cells (Lib.pow10Tab.map λz=>Value.int .u64 z).toArray t fr))∧(∃v,cell h 4 0=some v∧Ew v)∧(∃v,cell h 5 0=some v∧Ew v)
def dr.ext{h h':af}(hl:dr h)(hc:ag [] h h'):dr h':=by
 obtain⟨⟨t,fr,h1⟩,⟨v,h2,h3⟩,⟨u,h4,h5⟩⟩:=hl;exact⟨⟨t,fr,Js hc.ext h1⟩,⟨v,sI h2 hc Yy,h3⟩,⟨u,sI h4 hc Yy,h5⟩⟩
def IT{w w':World}{h:af}(hw:w.heap=h)(hb:RowKit.Below w.heap.size w w'):ag [] h w'.heap:=by
 subst hw;exact⟨hb.size,λk hk _=>hb.block k hk⟩
def VK{w:World}{h:af}{b:Nat}{v:Value}(hw:w.heap=h)(hc:cell h b 0=some v):w.cell? ⟨b,0,none⟩=some v:=by
 subst hw;unfold cell at hc;unfold World.cell?;split at hc
 .rename_i c t k hx;rw[hx];simpa using hc
 .cases hc
def Wj(l:List UInt8)(r:Value):Prop:=
 (∃v,Lib.parseIntB 64 l=.ok v∧r=.tuple #[.int .i64 v,.nilIface])∨((∀v,Lib.parseIntB 64 l≠.ok v)∧∃n t p,r=.tuple #[.int .i64 n,.iface t p])
def aeH{h:af}{l:List UInt8}(hl:dr h)(hs:l.length<281474976710656):aj Tryz.prog 301 [.string ⟨⟨l⟩⟩,.int .i64 10,.int .i64 64] h (ao λr h'=>Wj l r∧ag [] h h'):=by
 refine⟨Kr,λw hw=>?_⟩;obtain⟨_,⟨v1,c1,i1⟩,⟨v2,c2,i2⟩⟩:=hl;have aS:(⟨⟨l⟩⟩:BA).size=l.length:=rfl;rcases hp:Lib.parseIntB 64 l with v|_|_
 .refine(Go.Proofs.Any.strconv_ParseInt_10_at64_ok Go.Proofs.Tryz.laysC174 ⟨⟨l⟩⟩ V v hp w).mono ?_;rintro e w' ⟨rfl,hW⟩;have hb:RowKit.Below w.heap.size w w':=by
   rcases hW with rfl|⟨t,rfl⟩
   .exact RowKit.Below.refl _ _
   .exact Lib.bytesWorld_below _ _ _
  exact⟨⟨.inl ⟨v,hp,Y⟩,IT hw hb⟩,Yy,hb.os,hb.output,hb.tape⟩
 .refine(Go.Proofs.Any.strconv_ParseInt_10_at64_syntax Go.Proofs.Tryz.laysC174 ⟨⟨l⟩⟩ V hp v1 w (VK hw c1) i1).mono ?_;rintro e w' ⟨N,rfl,_,_,hb⟩;exact⟨⟨.inr ⟨λv hv=>(by rw[hp]at hv;cases hv),_,_,_,Y⟩,IT hw hb⟩,Yy,hb.os,hb.output,hb.tape⟩
 .refine(Go.Proofs.Any.strconv_ParseInt_10_at64_range Go.Proofs.Tryz.laysC174 ⟨⟨l⟩⟩ V hp v2 w (VK hw c2) i2).mono ?_;rintro e w' ⟨N,rfl,_,_,hb⟩;exact⟨⟨.inr ⟨λv hv=>(by rw[hp]at hv;cases hv),_,_,_,Y⟩,IT hw hb⟩,Yy,hb.os,hb.output,hb.tape⟩
def ahv{w:World}{h:af}(hw:w.heap=h)(hl:dr h):Lib.TabIs Tryz.prog w "internal/strconv.uint64pow10" .u64 Lib.pow10Tab:=by
 obtain⟨⟨t,fr,h1⟩,_⟩:=hl;have hg:Tryz.prog.globalNamed "internal/strconv.uint64pow10" =some 1:=Kr
 unfold Lib.TabIs World.var?;rw[hg];show(match w.heap[1]? with|some (.cells cs _ _)=>some cs|_=>none)=_;rw[hw,h1]
def rO{h:af}{n:Int}(hl:dr h)(h0: -9223372036854775808<=n)(h1:n<=9223372036854775807):aj Tryz.prog 94 [.int .i64 n,.int .i64 10] h (ao λr h'=>r=.string ⟨⟨Lib.itoa n⟩⟩∧ag [] h h'):=by
 refine⟨Kr,λw hw=>?_⟩;refine(Go.Proofs.Any.strconv_FormatInt_10 Go.Proofs.Tryz.laysM173 n h0 h1 w (ahv hw hl)).mono ?_;rintro e w' ⟨rfl,k,os,rfl⟩;refine⟨⟨Y,?_⟩,Yy,Y,Y,Y⟩;subst hw;refine⟨by simp[Go.Sort.grow,World.drewN],λj hj _=>?_⟩;simp[Go.Sort.grow,World.drewN,aoh,hj]
def alP{h:af}{l:List UInt8}(hl:dr h)(hs:l.length<281474976710656):aj Tryz.prog 248 [.string ⟨⟨l⟩⟩] h (ao λr h'=>r=.tuple #[.int .i64 ((Num.num l).getD 0),.bool (Num.num l).isSome]∧ag [] h h'):=by
 refine f248.c<|akV (aeH hl hs) ?_;rintro r h1 ⟨hp,c1⟩;rcases hp with⟨v,hv,rfl⟩|⟨bw,n,t,p,rfl⟩
 .obtain⟨r0,r1⟩:=Num.aeI Y hv;refine akV (rO (hl.ext c1) V V) ?_;rintro _ h2 ⟨rfl,c2⟩;have c:=c1.nil c2;refine Ai (λax=>?_) (λheq=>?_)
  .have e:Num.num l=none:=by
    unfold Num.num;rw[hv];simp only;rw[akZ];intro e;exact ax (by rw[e])
   rw[e];exact Ai Y c
  .have e:Num.num l=some v:=by
    unfold Num.num;rw[hv];simp only;rw[ak4];have:=anP.1 heq;injection this with this
    injection this
   rw[e];exact Ai Y c
 .have e:Num.num l=none:=by
   unfold Num.num;split
   .rename_i v hv;exact absurd hv (bw v)
   .rfl
  rw[e];exact Ai Y c1
def jN:BA:=⟨#[69,82,82,32,110,117,109,98,101,114]⟩
def ia:BA:=⟨#[69,82,82,32,111,118,101,114]⟩
def kX(key s:BA):aA:=⟨2,key,au,s,0⟩
def nH(key:BA)(n:Int):aA:=⟨3,key,au,au,n⟩
def kz(go:Option aB)(key:BA)(stays:Bool):List aA:=match go with
 |some t=>if stays=true∧t.cP=true then[nH key t.bQ]else[]
 |none=>[]
def nC(S:aH)(key s:BA)(now:Int)(stays:Bool):List aA:=cV S key now++([kX key s]++kz (aC S key now) key stays)
def mS(S:aH)(key:BA)(now:Int):(cV S key now).length<=1:=by
 unfold cV;split<;>simp
def iI{h:af}{b:Nat}{e:aA}(hB:ai h b (cf e)):SL cf h (.slice (some ⟨b,0,none⟩) 1 1) [e]:=by
 refine⟨_,1,Y,ali _,?_⟩;have:=akW hB;simpa[Src]using this
def Ts{h0 h:af}{ab kb sb mb c:Nat}{now:Int}{av lv:Value}{A:List BA}{L:List aA}{m:List KI}{S:aH}(key s:BA)(stays:Bool)(go:Option aB)(x:AS h0 h ab kb now av A lv L)(bW:KR h0 kb sb mb c m)(hs:bT m S)(hL:L.length<=1000000)(ok:s.size<=1048576∧key.size<=1048576):∀{h2:af}{b8:Nat}{pv lw rv:Value},ag [] h h2->h.size<=b8->ai h2 b8 (bg (go.getD aL) pv lw rv)->
   swp Tryz.prog f241.sc.r.r (cC [] (Out (λ_ h'=>(s.size<=1048576∧key.size<=1048576)∧∃aY,AS h0 h' ab kb now av A aY (L++(cV S key now++([kX key s]++kz go key stays)))∧Aside h h' ab lv aY)
   (λwhy h'=>¬(s.size<=1048576∧key.size<=1048576)∧why=lX∧h'=h))) (mk [(0,ptr ab),(1,.string key),(2,.string s),(3,.bool stays),(8,ptr b8),(9,.bool go.isSome)]) [] h2:=by
 have hB:=x.blk;have dl:=mS S key now;intro h2 b8 pv lw rv hc P' B8;have x2:=x.ext hc;have FX:=x2.blk;have cY:=hB.lt;have Sj:b8≠ab:=V
 have Sk:b8∉aq lv:=λhm=>by have:=OL.lt x.wv b8 hm;omega
 refine Ei _ (Ai (an FX Y) (Ei _ (Ai (an FX Y)<|akV (H4 key now (bW.ext x2.ae) hs) ?_)));rintro rd h3 ⟨od,oK,c3⟩;have x3:=x2.ext c3;refine akV (EN x3 od.sl V) ?_;rintro _ h4 ⟨RZ,x4,a4⟩;have l8:=(B8.ae c3 Yy).lt;have V0:=a4.2.2 b8 _ (B8.ae c3 Yy) Sj Sk;have n84:b8∉aq RZ:=λhm=>by
  rcases a4.1 b8 hm with h5|h5
  .exact Sk h5
  .omega
 have WA:Aside h h4 ab lv RZ:=(Aside.of (hc.nil c3)).trans a4;intro b9 h5 g5;have x5:=x4.ext g5.ae;refine akV (EN x5 (iI (e:=kX key s) g5.blk) Ys) ?_;rintro _ h6 ⟨q6,x6,a6⟩;have Nt:=a6.2.2 b8 _ (V0.ae g5.ae Yy) Sj n84;have EK:Aside h h6 ab lv q6:=WA.trans ((Aside.of g5.ae).trans a6);have e6:L++cV S key now++[kX key s]=L++(cV S key now++[kX key s]):=alG _ _ _;cases stays with
 |false=>
  refine⟨ok,q6,?_,EK⟩;have:kz go key false=[]:=by unfold kz;split<;>simp
  rw[this,amA,<-e6];exact x6
 |true=>
  cases go with
  |none=>
   refine⟨ok,q6,?_,EK⟩;rw[show kz none key true=[]from Y,amA,<-e6];exact x6
  |some t=>
   obtain⟨kd,tx,ps,ls,rs,hu,un⟩:=t;refine Ei _ (Ai (an Nt Y) ?_);cases hu with
   |false=>
    refine⟨ok,q6,?_,EK⟩;rw[show kz (some ⟨kd,tx,ps,ls,rs,false,un⟩) key true=[]by unfold kz;simp,amA,<-e6];exact x6
   |true=>
    refine Ei _ (Ai (an Nt Y) ?_);intro vV h7 g7;have x7:=x6.ext g7.ae;refine akV (EN x7 (iI (e:=nH key un) g7.blk) Ys) ?_;rintro _ h8 ⟨tP,x8,a8⟩;refine⟨ok,tP,?_,EK.trans ((Aside.of g7.ae).trans a8)⟩;rw[show kz (some ⟨kd,tx,ps,ls,rs,true,un⟩) key true=[nH key un]by unfold kz;simp,<-alG (cV S key now),<-alG L,<-e6];exact x8
def G7{h0 h:af}{ab kb sb mb c:Nat}{now:Int}{av lv:Value}{A:List BA}{L:List aA}{m:List KI}{S:aH}(key s:BA)(stays:Bool)(x:AS h0 h ab kb now av A lv L)(bW:KR h0 kb sb mb c m)(hs:bT m S)(hL:L.length<=1000000)(hk:key.size<4611686018427387904)(hz:s.size<4611686018427387904):aj Tryz.prog 241 [ptr ab,.string key,.string s,.bool stays] h (Out (λ_ h'=>(s.size<=1048576∧key.size<=1048576)∧∃aY,AS h0 h' ab kb now av A aY (L++nC S key s now stays)∧Aside h h' ab lv aY)
   (λwhy h'=>¬(s.size<=1048576∧key.size<=1048576)∧why=lX∧h'=h)):=by
 have hB:=x.blk;obtain⟨go,bN⟩:∃go,go=aC S key now:=⟨_,Y⟩
 have get:∀{h1},ag [] h h1->aj Tryz.prog 15 [ptr kb,.string key,.int .i64 now] h1 (ao λr h'=>A4 h1 h' go r∧ag [] h1 h'):=λhc=>by
  rw[bN];exact Ex key now (bW.ext (x.ae.nil hc)) hs
 unfold nC;rw[<-bN];clear bN;refine f241.c<|Bi (λh1=>?_) λh1=>?_;rotate_left
 .refine iP mz ?_ ?_
  .rintro _ h' ⟨hb,_⟩;cases hb
  .rintro _ h' ⟨_,rfl,rfl⟩;exact⟨_,Y,λh3=>V,Y,Y⟩
 refine Bi (λh2=>?_) λh2=>?_;rotate_left
 .refine iP mz ?_ ?_
  .rintro _ h' ⟨hb,_⟩;cases hb
  .rintro _ h' ⟨_,rfl,rfl⟩;exact⟨_,Y,λh3=>V,Y,Y⟩
 refine iP mz ?_ ?_;rotate_left
 .rintro _ h' ⟨hb,_⟩;cases hb
 rintro _ h' ⟨_,e⟩;have e:=e.symm;subst e;have ok:s.size<=1048576∧key.size<=1048576:=⟨V,V⟩
 refine Ei _ (Ai (an hB Y) (Ei _ (Ai (an hB Y)<|Ai ?_ ?_)))
 .refine iw (get (ag.refl h)) ?_;rintro _ h1 ⟨⟨pv,lw,rv,rfl,tu,fr⟩,c1⟩;refine Ai c1.ext ?_;intro b6 h2 g2;refine Ei _ (Ai g2.blk (Ai Dd (Ai tu.len (Ai (dB tu) ?_))));intro h3 p3;have g3:=g2.put p3;have B3:ai h3 b6 (bg (go.getD aL) pv lw rv):=by
   have h9:ai h3 b6 (splice zeroV 0 (bg (go.getD aL) pv lw rv)):=p3.blk;rw[seven Y tu.len]at h9;exact h9
  refine Sg (v:=.bool go.isSome) ?_ ?_
  .exact Y
  exact aW [(0,ptr ab),(1,.string key),(2,.string s),(3,.bool stays),(8,ptr b6),(9,.bool go.isSome)] J6 (Ts key s stays go x bW hs hL ok (c1.nil g3.ae) (by have:=g3.id;have:=c1.size;omega) B3)
 .intro b6 h1 g1;refine iw (get g1.ae) ?_;rintro _ h2 ⟨⟨pv,lw,rv,rfl,tu,fr⟩,c2⟩;refine Ai c2.ext ?_;have B2:ai h2 b6 zeroV:=(show ai h1 b6 zeroV from g1.blk).ae c2 Yy;refine Ei _ (Ai B2 (Ai Dd (Ai tu.len (Ai (dB tu) ?_))));intro h3 p3;have B3:ai h3 b6 (bg (go.getD aL) pv lw rv):=by
   have h9:ai h3 b6 (splice zeroV 0 (bg (go.getD aL) pv lw rv)):=p3.blk;rw[seven Y tu.len]at h9;exact h9
  have i1:=g1.id;have c3:ag [] h h3:=(g1.ae.nil c2).fresh p3.ae Ys;refine Sg (v:=.bool go.isSome) ?_ ?_
  .exact Y
  exact aW [(0,ptr ab),(1,.string key),(2,.string s),(3,.bool stays),(8,ptr b6),(9,.bool go.isSome)] J6 (Ts key s stays go x bW hs hL ok c3 V B3)
def lT(k i:Int)(s:BA):Value:=.agg ⟨[.int .i64 k,.int .i64 i,.string s,.slice none 0 0]⟩
def ou(k i:Int)(s:BA):∀u∈(lT k i s).cells.toList,u.oneCell'=true:=by
 intro u hu;have hu:u∈[Value.int .i64 k,.int .i64 i,.string s,.slice none 0 0]:=hu;simp at hu;rcases hu with rfl|rfl|rfl|rfl<;>rfl
def AZ{h:af}:aj Tryz.prog 243 [] h (ao λr h'=>r=lT 1 0 ⟨#[79,75]⟩∧ag [] h h'):=by
 refine f243.c ?_;intro b h1 g1;refine Ei _ (Ai g1.blk (Ai Dd (Ai Y (Ai (ou 1 0 _) ?_))));intro h2 p2;have g2:=g1.put p2;exact⟨_,Y,akW g2.blk,Y,g2.ae⟩
def mK{h:af}{n:Int}:aj Tryz.prog 246 [.int .i64 n] h (ao λr h'=>r=lT 3 n au∧ag [] h h'):=by
 refine f246.c ?_;intro b h1 g1;refine Ei _ (Ai g1.blk (Ai Dd (Ai Y (Ai (ou 3 n au) ?_))));intro h2 p2;have g2:=g1.put p2;exact⟨_,Y,akW g2.blk,Y,g2.ae⟩
def H7{h:af}{s:BA}:aj Tryz.prog 245 [.string s] h (ao λr h'=>r=lT 4 0 s∧ag [] h h'):=by
 refine f245.c ?_;intro b h1 g1;refine Ei _ (Ai g1.blk (Ai Dd (Ai Y (Ai (ou 4 0 s) ?_))));intro h2 p2;have g2:=g1.put p2;exact⟨_,Y,akW g2.blk,Y,g2.ae⟩
def eP(a b:Int):Prop:= -9223372036854775808<=a+b∧a+b<=9223372036854775807
def cy(a:Int):Prop:= -9223372036854775808<=a∧a<=9223372036854775807
def Te{h:af}{a b:Int}(ha:cy a)(hb:cy b):aj Tryz.prog 240 [.int .i64 a,.int .i64 b] h (Out (λr h'=>eP a b∧r=.int .i64 (a+b)∧h'=h) (λwhy h'=>¬eP a b∧why=ia∧h'=h)):=by
 obtain⟨a0,a1⟩:=ha;obtain⟨b0,b1⟩:=hb;unfold eP;have good:eP a b->swp Tryz.prog f240.sc.r.r (cC [.t 4] (Out (λr h'=>eP a b∧r=.int .i64 (a+b)∧h'=h) (λwhy h'=>¬eP a b∧why=ia∧h'=h))) (mk [(0,.int .i64 a),(1,.int .i64 b)]) [] h:=by
  intro hk;obtain⟨k0,k1⟩:=id hk;refine Ai Y (λz hz=>?_);have hz:z=a+b:=hz.trans (cx V V);subst hz;exact⟨hk,Y,Y⟩
 refine f240.c<|Bi (λh1=>?_) λh1=>?_
 .refine Ai Y (λz hz=>?_);have hz:z=9223372036854775807-b:=hz.trans (cx V V);subst hz;refine Bi (λh2=>?_) λh2=>?_
  .refine iP mz ?_ ?_
   .rintro _ h' ⟨_,rfl⟩;exact aW [(0,.int .i64 a),(1,.int .i64 b)] J2 (good ⟨V,V⟩)
   .rintro _ h' ⟨hb,_⟩;cases hb
  .refine Ai Y (Ai (λh3=>absurd h3 V) (λh3=>iP mz ?_ ?_))
   .rintro _ h' ⟨hb,_⟩;cases hb
   .rintro _ h' ⟨_,rfl,rfl⟩;exact⟨_,Y,λhk=>by have:=hk.2;omega,Y,Y⟩
 .refine Ai Y (Ai (λh3=>Ai Y (λz hz=>?_)) (λh3=>absurd (show b<0 by omega) h3));have hz:z= -9223372036854775808-b:=hz.trans (cx V V);subst hz;refine Bi (λh2=>?_) λh2=>?_
  .refine iP mz ?_ ?_
   .rintro _ h' ⟨_,rfl⟩;exact aW [(0,.int .i64 a),(1,.int .i64 b)] J2 (good ⟨V,V⟩)
   .rintro _ h' ⟨hb,_⟩;cases hb
  .refine iP mz ?_ ?_
   .rintro _ h' ⟨hb,_⟩;cases hb
   .rintro _ h' ⟨_,rfl,rfl⟩;exact⟨_,Y,λhk=>by have:=hk.1;omega,Y,Y⟩
def numOf(s:BA):Option Int:=Num.num s.data.toList
def ad4{h0 h:af}{ab kb:Nat}{now:Int}{av lv:Value}{A:List BA}{L:List aA}{i:Nat}(x:AS h0 h ab kb now av A lv L)(hl:dr h0)(hi:i<A.length)(hz:A[i].size<281474976710656):aj Tryz.prog 176 [ptr ab,.int .i64 i] h (Out (λr h'=>∃n,numOf A[i]=some n∧r=.int .i64 n∧ag [] h h') (λwhy h'=>numOf A[i]=none∧why=jN∧ag [] h h')):=by
 have hB:=x.blk;have hs:=x.args h x.ae;obtain⟨a,c,rfl,ie⟩:=hs.form;obtain⟨b,o,rfl⟩:=hs.addr V;have aI:=hs.cells bj (i:=i) (x:=A[i]) (by simp[hi]);obtain⟨⟨⟨l⟩⟩,tm⟩:∃s,s=A[i]:=⟨_,Y⟩
 rw[<-tm]at aI hz⊢;rw[show numOf ⟨⟨l⟩⟩=Num.num l from Y];obtain⟨w,hw⟩:∃w,w=Num.num l:=⟨_,Y⟩
 rw[<-hw];refine f176.c<|Ei _ (Ai (an hB Y)<|Ai V (Ai V (Ei _ (Ai (aI 0 _ Y)<|akV (alP (hl.ext x.ae) hz) ?_))));rintro _ h1 ⟨rfl,c1⟩;rw[<-hw];cases w with
 |none=>
  refine iP mz ?_ ?_
  .rintro _ h' ⟨hb,_⟩;cases hb
  .rintro _ h' ⟨_,rfl,rfl⟩;exact⟨_,Y,Y,Y,c1⟩
 |some n=>
  refine iP mz ?_ ?_
  .rintro _ h' ⟨_,rfl⟩;exact⟨n,Y,Y,c1⟩
  .rintro _ h' ⟨hb,_⟩;cases hb
end Go.Proofs.YtocgmipngoiieaaGreatDoor
namespace Go.Sx
open Go
variable{es:List MapEntry}{l' us ys:List Value}
inductive En:Type 1 where
 |b (k:Nat) (l:List Value)
 |w (k:Nat) (l:List Value)
 |m (k:Nat) (es:List MapEntry) (c:Nat)
 |o {α:Type} (enc:α->List Value) (size:Nat) (v:Value) (l:List α)
 |x (f:List Nat) (p:af->Prop) (st:∀S h h',ag S h h'->(∀b∈f,b∉S)->p h->p h') (lt:∀h,p h->∀b∈f,b<h.size)
def En.fp:En->List Nat
 |.b k _=>[k]
 |.w k _=>[k]
 |.m k _ _=>[k]
 |.o _ _ v _=>aq v
 |.x f _ _ _=>f
def En.at(h:af):En->Prop
 |.b k l=>ai h k l
 |.w k l=>gP h k l
 |.m k es c=>cN h k es c
 |.o enc size v l=>OL enc size h v l
 |.x _ p _ _=>p h
def gP.XI{S:List Nat}{h h':af}{b:Nat}{l:List Value}(hb:gP h b l)(hc:ag S h h')(hn:b∉S):gP h' b l:=let⟨e,k,x,y⟩:=hb;⟨e,k,oI x hc hn,y⟩
def gP.lt'{h:af}{b:Nat}{l:List Value}(hb:gP h b l):b<h.size:=let⟨_,_,x,_⟩:=hb;lA x
def En.ae{S:List Nat}{h h':af}:∀{e:En},e.at h->ag S h h'->(∀b∈e.fp,b∉S)->e.at h'
 |.b _ _,he,hc,hn=>ai.ae he hc (hn _ (alE.2 Y))
 |.w _ _,he,hc,hn=>gP.XI he hc (hn _ (alE.2 Y))
 |.m _ _ _,he,hc,hn=>cN.ae he hc (hn _ (alE.2 Y))
 |.o _ _ _ _,he,hc,hn=>OL.ae he hc hn
 |.x _ _ st _,he,hc,hn=>st _ _ _ hc hn he
def En.lt{h:af}:∀{e:En},e.at h->∀q∈e.fp,q<h.size
 |.b _ _,he,q,hq=>by rw[alE.1 hq];exact ai.lt he
 |.w _ _,he,q,hq=>by rw[alE.1 hq];exact gP.lt' he
 |.m _ _ _,he,q,hq=>by rw[alE.1 hq];exact cN.lt he
 |.o _ _ _ _,he,q,hq=>OL.lt he q hq
 |.x _ _ _ lt,he,q,hq=>lt _ he q hq
structure St (T:List Nat) (h0 h:af) (L:List En):Prop where
 ae:ag T h0 h
 ents:∀(i:Nat)(e:En),L[i]? =some e->e.at h∧∀b∈e.fp,b∈T∨h0.size<=b
 apart:∀(i j:Nat)(e f:En),L[i]? =some e->L[j]? =some f->i≠j->∀b∈e.fp,b∉f.fp
variable {T:List Nat}{h0 h h':af}{L:List En}{e e':En}
def St.start(h:af):St [] h h []:=⟨ag.refl h,λi e hi=>by simp at hi,λi j e f hi=>by simp at hi⟩
def St.get(w:St T h0 h L)(i:Nat)(hi:L[i]? =some e):e.at h:=(w.ents i e hi).1
def St.size(w:St T h0 h L):h0.size<=h.size:=w.ae.size
def St.ext(w:St T h0 h L)(hc:ag [] h h'):St T h0 h' L:=
 ⟨w.ae.trans hc (λ_ hk=>hk) Yy,λi e hi=>⟨En.ae (w.ents i e hi).1 hc Yy,(w.ents i e hi).2⟩,w.apart⟩
def St.add(w:St T h0 h L)(hc:ag [] h h')(he:e.at h')(hf:∀b∈e.fp,h.size<=b):St T h0 h' (e::L):=by
 have w':=w.ext hc;have hz:=w.size;refine⟨w'.ae,λi e' hi=>?_,λi j e1 e2 hi hj hn b h1 h2=>?_⟩
 .cases i with
  |zero=>cases hi;exact⟨he,λb hb=>.inr (by have:=hf b hb;omega)⟩
  |succ i=>exact w'.ents i e' hi
 .cases i with
  |zero=>
   cases hi;cases j with
   |zero=>exact hn Y
   |succ j=>
    have:=En.lt (w.get j hj) b h2;have:=hf b h1;omega
  |succ i=>
   cases j with
   |zero=>
    cases hj;have:=En.lt (w.get i hi) b h1;have:=hf b h2;omega
   |succ j=>exact w.apart i j e1 e2 hi hj V b h1 h2
def St.new(w:St T h0 h L){b:Nat}{z:List Value}(g:jr h h' b z):St T h0 h' (.b b z::L):=
 w.add g.ae (show ai h' b z from g.blk) λk hk=>by rw[alE.1 hk,g.id];exact ali _
def St.Ag(w:St T h0 h L){b:Nat}{c:Nat}(g:sD h h' b (.map ⟨es⟩ c)):St T h0 h' (.m b es c::L):=
 w.add g.ae (show cN h' b es c from g.blk) λk hk=>by rw[alE.1 hk,g.id];exact ali _
def St.set(w:St T h0 h L){S:List Nat}(i:Nat)(hi:L[i]? =some e)(hc:ag S h h')(hS:∀b∈S,b∈e.fp∨h.size<=b)(he:e'.at h')(hf:∀b∈e'.fp,b∈e.fp∨h.size<=b):St T h0 h' (L.set i e'):=by
 have hz:=w.size;have fY:i<L.length:=(ak7.1 hi).1;refine⟨w.ae.trans hc (λ_ hk=>hk) (λk hk ah=>?_),λj f hj=>?_,λj k f g hj hk hn b h1 h2=>?_⟩
 .rcases hS k hk with h1|h1
  .rcases(w.ents i e hi).2 k h1 with h2|h2
   .exact h2
   .omega
  .omega
 .by_cases jh:i=j
  .subst jh;rw[anf fY]at hj;cases hj;refine⟨he,λb hb=>?_⟩;rcases hf b hb with h1|h1
   .exact(w.ents i e hi).2 b h1
   .exact .inr V
  .rw[anc jh]at hj;refine⟨En.ae (w.get j hj) hc λb hb hbS=>?_,(w.ents j f hj).2⟩;rcases hS b hbS with h1|h1
   .exact w.apart i j e f hi hj jh b h1 hb
   .have:=En.lt (w.get j hj) b hb;omega
 .by_cases jh:i=j
  .subst jh;rw[anf fY]at hj;rw[anc hn]at hk;cases hj;rcases hf b h1 with h3|h3
   .exact w.apart i k e g hi hk hn b h3 h2
   .have:=En.lt (w.get k hk) b h2;omega
  .rw[anc jh]at hj;by_cases iV:i=k
   .subst iV;rw[anf fY]at hk;cases hk;rcases hf b h2 with h3|h3
    .exact w.apart i j e f hi hj jh b h3 h1
    .have:=En.lt (w.get j hj) b h1;omega
   .rw[anc iV]at hk;exact w.apart j k f g hj hk hn b h1 h2
def alp(L:List En):List Nat->List En
 |[]=>[]
 |i::l=>match L[i]? with
  |some e=>e::alp L l
  |none=>alp L l
def DR:∀{is:List Nat}{k:Nat}{e:En},(alp L is)[k]? =some e->∃j i:Nat,is[j]? =some i∧L[i]? =some e∧k<=j∧True
 |[],_,_,hk=>by simp[alp]at hk
 |i::is,k,e,hk=>by
  simp only[alp]at hk;split at hk
  .rename_i e1 wK;cases k with
   |zero=>cases hk;exact⟨0,i,Y,wK,ali _,trivial⟩
   |succ k=>
    obtain⟨j,i',h1,h2,h3,_⟩:=DR (is:=is) hk;exact⟨j+1,i',h1,h2,V,trivial⟩
  .obtain⟨j,i',h1,h2,h3,_⟩:=DR (is:=is) hk;exact⟨j+1,i',h1,h2,V,trivial⟩
def L8:∀{is:List Nat}{k l:Nat}{e f:En},is.Nodup->(alp L is)[k]? =some e->(alp L is)[l]? =some f->k≠l->∃i j:Nat,L[i]? =some e∧L[j]? =some f∧i≠j∧i∈is∧j∈is
 |[],_,_,_,_,_,hk,_,_=>by simp[alp]at hk
 |i::is,k,l,e,f,hd,hk,hl,hn=>by
  obtain⟨hi,hd⟩:=amc.1 hd;simp only[alp]at hk hl;split at hk
  .rename_i e1 wK;rw[wK]at hl;cases k with
   |zero=>
    cases hk;cases l with
    |zero=>exact absurd Y hn
    |succ l=>
     obtain⟨j,i',h1,h2,_⟩:=DR (is:=is) hl;have hm:i'∈is:=al9 h1;exact⟨i,i',wK,h2,λe=>hi (e▸hm),Yy,by simp[hm]⟩
   |succ k=>
    cases l with
    |zero=>
     cases hl;obtain⟨j,i',h1,h2,_⟩:=DR (is:=is) hk;have hm:i'∈is:=al9 h1;exact⟨i',i,h2,wK,λe=>hi (e▸hm),by simp[hm],Yy⟩
    |succ l=>
     obtain⟨a,b,h1,h2,h3,h4,h5⟩:=L8 (is:=is) hd hk hl V;exact⟨a,b,h1,h2,h3,by simp[h4],by simp[h5]⟩
  .rename_i bw;have hl:(match L[i]? with|some e=>e::alp L is|none=>alp L is)[l]? =some f:=hl;rw[bw]at hl;obtain⟨a,b,h1,h2,h3,h4,h5⟩:=L8 (is:=is) hd hk hl hn;exact⟨a,b,h1,h2,h3,by simp[h4],by simp[h5]⟩
def St.pick(w:St T h0 h L)(is:List Nat)(hd:is.Nodup):St T h0 h (alp L is):=by
 refine⟨w.ae,λk e hk=>?_,λk l e f hk hl hn=>?_⟩
 .obtain⟨_,i,_,hi,_⟩:=DR hk;exact w.ents i e hi
 .obtain⟨i,j,h1,h2,h3,_⟩:=L8 hd hk hl hn;exact w.apart i j e f h1 h2 h3
def St.swap{e f:En}(w:St T h0 h (e::f::L)):St T h0 h (f::e::L):=by
 have key:∀i:Nat,∃j:Nat,(f::e::L)[i]? =(e::f::L)[j]? ∧j=(if i=0 then 1 else if i=1 then 0 else i):=λi=>⟨_,by
  match i with
  |0=>rfl
  |1=>rfl
  |i+2=>simp,Y⟩
 refine⟨w.ae,λi x hi=>?_,λi j x y hi hj hn=>?_⟩
 .obtain⟨k,hk,_⟩:=key i;exact w.ents k x (hk▸hi)
 .obtain⟨k,hk,ek⟩:=key i;obtain⟨l,hl,el⟩:=key j;refine w.apart k l x y (hk▸hi) (hl▸hj) ?_;rw[ek,el];split<;>split<;>(try split)<;>(try split)<;>omega
def St.ld{b o:Nat}{v:Value}(w:St T h0 h L)(i:Nat)(hi:L[i]? =some (.b b us))(hv:us[o]? =some v):cell h b o=some v:=an (w.get i hi) hv
def St.ld1{b o:Nat}{v:Value}{K:Value->Prop}(w:St T h0 h L)(i:Nat)(hi:L[i]? =some (.b b us))(hv:us[o]? =some v)(k:K v):∃v,cell h b o=some v∧K v:=⟨v,w.ld i hi hv,k⟩
def St.fS{b n:Nat}{K:List Value->Prop}(w:St T h0 h L)(i:Nat)(hi:L[i]? =some (.b b us))(hn:us.length=n)(k:K us):∃vs,vs.length=n∧fF h b 0 vs∧K vs:=⟨us,hn,akW (w.get i hi),k⟩
def St.put{b:Nat}(w:St T h0 h L)(i:Nat)(hi:L[i]? =some (.b b us))(p:dL h h' b l'):St T h0 h' (L.set i (.b b l')):=
 w.set i hi p.ae (λ_ hk=>.inl hk) (show ai h' b l' from p.blk) (λ_ hk=>.inl hk)
def St.st1{b o n:Nat}{l:List Value}{K:af->Prop}(w:St T h0 h L)(i:Nat)(hi:L[i]? =some (.b b l))(h1:Nat.ble (o+n) l.length=true)(h2:ys.length=n)(h3:ys.all Value.oneCell'=true)(k:∀h',St T h0 h' (L.set i (.b b (splice l o ys)))->K h'):∃l,ai h b l∧o+n<=l.length∧ys.length=n∧(∀u∈ys,u.oneCell'=true)∧∀h',dL h h' b (splice l o ys)->K h':=
 ⟨l,w.get i hi,amP h1,h2,λu hu=>amV.1 h3 u hu,λh' p=>k h' (w.put i hi p)⟩
def St.st2{b o n:Nat}{l:List Value}{K:af->Prop}(w:St T h0 h L)(i:Nat)(hi:L[i]? =some (.b b l))(h1:Nat.ble (o+n) l.length=true)(h2:ys.length=n)(h3:ys.all Value.oneCell'=true)(k:∀h',St T h0 h' (L.set i (.b b (splice l o ys)))->ag [b] h h'->K h'):∃l,ai h b l∧o+n<=l.length∧ys.length=n∧(∀u∈ys,u.oneCell'=true)∧∀h',dL h h' b (splice l o ys)->K h':=
 ⟨l,w.get i hi,amP h1,h2,λu hu=>amV.1 h3 u hu,λh' p=>k h' (w.put i hi p) p.ae⟩
def St.pj{b o n:Nat}{l:List Value}{K:af->Prop}(w:St T h0 h L)(i:Nat)(hi:L[i]? =some (.b b l))(h1:Nat.ble (o+n) l.length=true)(h2:ys.length=n)(h3:∀u∈ys,u.oneCell'=true)(k:∀h',St T h0 h' (L.set i (.b b (splice l o ys)))->K h'):∃l,ai h b l∧o+n<=l.length∧ys.length=n∧(∀u∈ys,u.oneCell'=true)∧∀h',dL h h' b (splice l o ys)->K h':=
 ⟨l,w.get i hi,amP h1,h2,h3,λh' p=>k h' (w.put i hi p)⟩
def En.nil:En:=.x [] (λ_=>True) (λ_ _ _ _ _ _=>trivial) (λ_ _ b hb=>(nomatch hb))
def St.gone(w:St T h0 h L){S:List Nat}(i:Nat)(hi:L[i]? =some e)(hc:ag S h h')(hS:∀b∈S,b∈e.fp∨h.size<=b):St T h0 h' (L.set i En.nil):=w.set i hi hc hS trivial λb hb=>(nomatch (show b∈([]:List Nat)from hb))
def St.ne{b b':Nat}{l:List Value}(w:St T h0 h L)(i j:Nat)(hi:L[i]? =some (.b b l))(hj:L[j]? =some (.b b' l'))(hn:i≠j):b≠b':=λe=>w.apart i j _ _ hi hj hn b (alE.2 Y) (alE.2 e)
def St.app{α:Type}{enc:α->List Value}{size bytes:Nat}{z:List Value}{a a':Option Addr}{n c m c2:Nat}{l l2:List α}{K:Value->af->Prop}(w:St T h0 h L)(i:Nat)(hi:L[i]? =some (.o enc size (.slice a n c) l))(aS:∀x,(enc x).length=size)(h1:∀x,∀u∈enc x,u.oneCell'=true)(hz:z.length=size)(jj:SL enc h (.slice a' m c2) l2)(hbound:((l.length+l2.length)*2+768)*bytes<=281474976710656)(k:∀v' h',St T h0 h' (L.set i (.o enc size v' (l++l2)))->K v' h'):ux h K size bytes z a n c a' m:=
 dZ aS h1 hz (w.get i hi) jj hbound λv' h' ho hc hb=>k v' h' (w.set i hi hc (λ_ hk=>.inl hk) ho hb)
def St.iG{b:Nat}{oG:List MapEntry}{c c':Nat}(w:St T h0 h L)(i:Nat)(hi:L[i]? =some (.m b es c))(p:kG h h' b (.map ⟨oG⟩ c')):St T h0 h' (L.set i (.m b oG c')):=
 w.set i hi p.ae (λ_ hk=>.inl hk) (show cN h' b oG c' from p.blk) (λ_ hk=>.inl hk)
structure As (h0 h:af) (e:En):Prop where
 ae:ag [] h0 h
 at_:e.at h
 fresh:∀b∈e.fp,h0.size<=b
structure Own (e:En) (h:af) (e':En) (h':af):Prop where
 at_:e'.at h'
 ae:ag e.fp h h'
 fresh:∀b∈e'.fp,b∈e.fp∨h.size<=b
def As.st(x:As h0 h e):St e.fp h h [e]:=by
 refine⟨(ag.refl h).mono Yy,λi e1 hi=>?_,λi j e1 f hi hj hn=>?_⟩
 .match i,hi with
  |0,hi=>cases hi;exact⟨x.at_,λb hb=>.inl hb⟩
 .match i,j,hi,hj,hn with
  |0,0,_,_,hn=>exact absurd Y hn
def As.base{M:List En}(x:As h0 h e)(w:St e.fp h h' M):ag [] h0 h':=x.ae.fresh w.ae x.fresh
def As.ext(x:As h0 h e)(hc:ag [] h h'):As h0 h' e:=⟨x.ae.nil hc,En.ae x.at_ hc Yy,x.fresh⟩
def As.out{M:List En}(x:As h0 h e)(w:St e.fp h h' M)(i:Nat)(hi:M[i]? =some e'):As h0 h' e'∧Own e h e' h':=by
 have hz:=x.ae.size;obtain⟨h1,h2⟩:=w.ents i e' hi;refine⟨⟨x.base w,h1,λb hb=>?_⟩,h1,w.ae,h2⟩;rcases h2 b hb with h3|h3
 .exact x.fresh b h3
 .omega
def St.own{M:List En}(w:St T h0 h M)(i:Nat)(hi:M[i]? =some e)(o:Own e h e' h'):St T h0 h' (M.set i e'):=w.set i hi o.ae (λ_ hk=>.inl hk) o.at_ o.fresh
def Own.refl(he:e.at h)(hc:ag [] h h'):Own e h e h':=⟨En.ae he hc Yy,hc.mono Yy,λ_ hb=>.inl hb⟩
def St.as{M:List En}(w:St [] h0 h M)(i:Nat)(hi:M[i]? =some e):As h0 h e:=⟨w.ae,w.get i hi,λb hb=>by
 rcases(w.ents i e hi).2 b hb with h1|h1
 .cases h1
 .exact h1⟩
section
variable {P:Program}{f:Nat}{vs:List Value}{K:Value->af->Prop}{Qp:List PanicEntry->af->Prop}{v:Value}
def St.call{R:Value->af->Prop}(w:St T h0 h L)(hc:aj P f vs h (ao λr h'=>R r h'∧ag [] h h'))(k:∀r h',R r h'->St T h0 h' L->K r h'):aj P f vs h (after K Qp):=
 akV hc λr h' hr=>k r h' hr.1 (w.ext hr.2)
def St.aV(w:St T h0 h L)(hc:aj P f vs h (ao λr h'=>r=v∧ag [] h h'))(k:∀h',St T h0 h' L->K v h'):aj P f vs h (after K Qp):=
 akV hc λr h' hr=>by obtain⟨rfl,iA⟩:=hr;exact k h' (w.ext iA)
def dN(hc:aj P f vs h (ao λr h'=>r=v∧h'=h))(k:K v h):aj P f vs h (after K Qp):=
 akV hc λr h' hr=>by obtain⟨rfl,e⟩:=hr;have e:=e.symm;subst e;exact k
def St.qx(w:St T h0 h L)(hc:aj P f vs h (ao λr h'=>r=v∧ag [] h h'))(k:∀h',St T h0 h' L->K v h'):aj P f vs h (λe h'=>Ext h h'∧after K Qp e h'):=
 iw hc λr h' hr=>by obtain⟨rfl,iA⟩:=hr;exact⟨iA.ext,k h' (w.ext iA)⟩
end
end Go.Sx
namespace Go.Proofs.YtocgmipngoiieaaGreatDoor
open Go Go.Sx C
def iN(ab kb:Nat)(now:Int)(av lv:Value)(L:List aA):En:=
 .x (ab::aq lv) (λh=>ai h ab [ptr kb,.int .i64 now,av,lv]∧OL cf 5 h lv L∧ab∉aq lv)
  (λS h h' hc hn ⟨h1,h2,h3⟩=>⟨h1.ae hc (hn _ Yy),h2.ae hc (λb hb=>hn _ (by simp[hb])),h3⟩)
  (λh ⟨h1,h2,_⟩ b hb=>by
   rcases ak3.1 hb with rfl|hb
   .exact h1.lt
   .exact OL.lt h2 b hb)
section
variable {h0 h h1 h':af}{ab kb:Nat}{now:Int}{av lv aY:Value}{A:List BA}{L E:List aA}{M:List En}{T:List Nat}
def AS.st(x:AS h0 h ab kb now av A lv L):St (ab::aq lv) h h [iN ab kb now av lv L]:=by
 refine⟨(ag.refl h).mono Yy,λi e hi=>?_,λi j e f hi hj hn=>?_⟩
 .match i,hi with
  |0,hi=>cases hi;exact⟨⟨x.blk,x.wv,λhm=>(x.own ab hm).2 Y⟩,λb hb=>.inl hb⟩
 .match i,j,hi,hj,hn with
  |0,0,_,_,hn=>exact absurd Y hn
def AS.out(x:AS h0 h ab kb now av A lv L)(w:St (ab::aq lv) h h' M)(i:Nat)(hi:M[i]? =some (iN ab kb now av aY E)):AS h0 h' ab kb now av A aY E∧Aside h h' ab lv aY:=by
 obtain⟨⟨hB,ho,hn⟩,hf⟩:=w.ents i _ hi;have hz:=x.ae.size;have hT:∀b∈ab::aq lv,h0.size<=b:=λb hb=>by
  rcases ak3.1 hb with rfl|hb
  .exact x.fresh
  .exact(x.own b hb).1
 have hv:∀b∈aq aY,b∈aq lv∨h.size<=b:=λb hb=>by
  rcases hf b (alr _ hb)with h1|h1
  .rcases ak3.1 h1 with rfl|h1
   .exact absurd hb hn
   .exact .inl h1
  .exact .inr h1
 refine⟨⟨x.ae.fresh w.ae hT,x.fresh,x.args,hB,ho,λb hb=>⟨?_,λe=>hn (e▸hb)⟩⟩,.mk hv w.ae⟩;rcases hv b hb with h1|h1
 .exact(x.own b h1).1
 .omega
def _root_.Go.Sx.St.aside(w:St T h1 h M)(i:Nat)(hi:M[i]? =some (iN ab kb now av lv L))(x:AS h0 h' ab kb now av A aY E)(a:Aside h h' ab lv aY):St T h1 h' (M.set i (iN ab kb now av aY E)):=by
 refine w.set i hi a.2.1 (λ_ hk=>.inl hk) ⟨x.blk,x.wv,λhm=>(x.own ab hm).2 Y⟩ λb hb=>?_;rcases ak3.1 hb with rfl|hb
 .exact .inl (amY ..)
 .rcases a.1 b hb with h3|h3
  .exact .inl (alr _ h3)
  .exact .inr h3
def _root_.Go.Sx.St.cw{o:Nat}{v:Value}{K:Value->Prop}(w:St T h1 h M)(i:Nat)(hi:M[i]? =some (iN ab kb now av lv L))(hv:[ptr kb,.int .i64 now,av,lv][o]? =some v)(k:K v):∃v,cell h ab o=some v∧K v:=⟨v,an (w.get i hi).1 hv,k⟩
end
def vJ(t:aB)(pv lv rv:Value):En:=
 .x (bk pv lv rv) (λh=>TH h (bg t pv lv rv) t∧∀b∈bk pv lv rv,b<h.size) (λS h h' hc hn ⟨h1,h2⟩=>⟨uj h1 hc hn,λb hb=>amX (h2 b hb) hc.size⟩) (λh ⟨_,h2⟩ b hb=>h2 b hb)
def NG(h:af)(kb:Nat)(key:BA)(now:Int)(go:Option aB):Prop:=
 ∀{h1},ag [] h h1->aj Tryz.prog 15 [ptr kb,.string key,.int .i64 now] h1 (ao λr h'=>A4 h1 h' go r∧ag [] h1 h')
def ES(c d e0 e1 b v a1 a2 a3:Nat)(E:List (Nat×Value)):Bool:=
 !Nat.beq d e0&&!Nat.beq e0 b&&!Nat.beq e0 e1&&!Nat.beq e1 b&&!Nat.beq b v&&!Nat.beq b c&&!Nat.beq b d&&!Nat.beq b e1&&!Nat.beq a1 b&&!Nat.beq a2 b&&!Nat.beq a3 b&&
  E.all λp=>!Nat.beq p.1 c&&!Nat.beq p.1 d&&!Nat.beq p.1 e0&&!Nat.beq p.1 e1&&!Nat.beq p.1 b&&!Nat.beq p.1 v
def uA{a b:Nat}(h:Nat.beq a b=false):a≠b:=λe=>by subst e;rw[anI]at h;cases h
def ic{a b:Nat}(h:a≠b):Nat.beq a b=false:=by
 cases hb:Nat.beq a b with
 |false=>rfl
 |true=>exact absurd (amT hb) h
def MQ{σ τ:Env}{c d e0 e1 b v:Nat}:∀{E:List (Nat×Value)},fN σ E->(E.all λp=>!Nat.beq p.1 c&&!Nat.beq p.1 d&&!Nat.beq p.1 e0&&!Nat.beq p.1 e1&&!Nat.beq p.1 b&&!Nat.beq p.1 v)=true->
  (∀t,t≠c->t≠d->t≠e0->t≠e1->t≠b->t≠v->τ t=σ t)->fN τ E
 |[],_,_,_=>trivial
 |(n,u)::E,⟨h1,h2⟩,ha,ht=>by
  simp only[List.all_cons,alO,am0]at ha;obtain⟨⟨⟨⟨⟨⟨n1,n2⟩,n3⟩,n4⟩,n5⟩,n6⟩,ha⟩:=ha;exact⟨by rw[ht n (uA n1) (uA n2) (uA n3) (uA n4) (uA n5) (uA n6)];exact h1,MQ h2 ha ht⟩
def uN{σ:Env}{Qp:List PanicEntry->af->Prop}{K:Env->af->Prop}{T:List Nat}{h0 h:af}{L:List En}{kb:Nat}{key:BA}{now:Int}{go:Option aB}{c d e0 e1 b v a1 a2 a3:Nat}(w:St T h0 h L)(get:NG h kb key now go)(E:List (Nat×Value))(h1:σ a1=some (ptr kb))(h2:σ a2=some (.string key))(h3:σ a3=some (.int .i64 now))(hE:fN σ E)(ha:ES c d e0 e1 b v a1 a2 a3 E=true)(hm:Ib K)(k:∀h' b6 pv lv rv,St T h0 h' (.b b6 (bg (go.getD aL) pv lv rv)::vJ (go.getD aL) pv lv rv::L)->K (mk ((b,ptr b6)::(v,.bool go.isSome)::E)) h'):cD Tryz.prog Qp K [⟨some c,none,.eR 15 [.tmp a1,.tmp a2,.tmp a3]⟩,⟨some d,none,.mv (.tmp c)⟩,⟨some e0,none,.ext (.tmp d) 0⟩,⟨some e1,none,.ext (.tmp d) 1⟩,⟨some b,none,.new [(.int .i64 0),(.string ⟨#[]⟩),(.slice none 0 0),(.slice none 0 0),(.slice none 0 0),(.bool false),(.int .i64 0)]⟩,
   ⟨none,none,.st 7 (.tmp b) (.tmp e0)⟩,⟨some v,none,.mv (.tmp e1)⟩] σ h∧
  cD Tryz.prog Qp K [⟨some b,none,.new [(.int .i64 0),(.string ⟨#[]⟩),(.slice none 0 0),(.slice none 0 0),(.slice none 0 0),(.bool false),(.int .i64 0)]⟩,⟨some c,none,.eR 15 [.tmp a1,.tmp a2,.tmp a3]⟩,⟨some d,none,.mv (.tmp c)⟩,⟨some e0,none,.ext (.tmp d) 0⟩,⟨some e1,none,.ext (.tmp d) 1⟩,
   ⟨none,none,.st 7 (.tmp b) (.tmp e0)⟩,⟨some v,none,.mv (.tmp e1)⟩] σ h:=by
 simp only[ES,alO,am0]at ha;obtain⟨⟨⟨⟨⟨⟨⟨⟨⟨⟨⟨n1,n2⟩,n3⟩,n4⟩,n5⟩,n6⟩,n7⟩,n8⟩,n9⟩,n10⟩,n11⟩,ha⟩:=ha;have tW:Nat.beq b e0=false:=ic (aoX (uA n2));have fin:∀{τ:Env}{h':af}{b6:Nat}{pv lv rv:Value},τ b=some (ptr b6)->τ v=some (.bool go.isSome)->(∀t,t≠c->t≠d->t≠e0->t≠e1->t≠b->t≠v->τ t=σ t)->
   St T h0 h' (.b b6 (bg (go.getD aL) pv lv rv)::vJ (go.getD aL) pv lv rv::L)->K τ h':=λhb hv ho w=>hm _ _ _ (uh (l:=(b,ptr _)::(v,.bool go.isSome)::E) ⟨hb,hv,MQ hE ha ho⟩) (k _ _ _ _ _ w)
 have akS:∀{t:aB}{pv lv rv:Value},splice [(.int .i64 0),(.string ⟨#[]⟩),(.slice none 0 0),(.slice none 0 0),(.slice none 0 0),(.bool false),(.int .i64 0)] 0 (bg t pv lv rv)=bg t pv lv rv:=λ{t pv lv rv}=>rfl;refine⟨?_,?_⟩
 .simp only[cD,cW,aE,fI,ev,h1,h2,h3];refine iw (get (ag.refl h)) ?_;rintro _ h4 ⟨⟨pv,lv,rv,rfl,tu,fr⟩,c4⟩;refine⟨c4.ext,?_⟩;have w4:=w.add (e:=vJ (go.getD aL) pv lv rv) c4 ⟨tu,λb hb=>(fr b hb).2⟩ λb hb=>(fr b hb).1;simp only[upd,anI,aoz,aoo,n1,n2,n3,n4,n5,n6,n7,n8];intro b6 h5 g5;have w5:=w4.new g5;refine w5.pj 0 Y Y Y (dB tu) λh6 w6=>fin ?_ ?_ ?_ w6
  .simp[upd,n5];rfl
  .simp[upd]
  .intro t t1 t2 t3 t4 t5 t6;simp[upd,ic t1,ic t2,ic t3,ic t4,ic t5,ic t6]
 .simp only[cD,cW,aE,fI,ev];intro b6 h4 g4;have w4:=w.new g4;simp only[upd,anI,aoz,aoo,n9,n10,n11,h1,h2,h3];refine iw (get g4.ae) ?_;rintro _ h5 ⟨⟨pv,lv,rv,rfl,tu,fr⟩,c5⟩;refine⟨c5.ext,?_⟩;have w5:=w4.add (e:=vJ (go.getD aL) pv lv rv) c5 ⟨tu,λb hb=>(fr b hb).2⟩ λb hb=>(fr b hb).1;simp only[upd,anI,aoz,aoo,n1,n2,tW,n3,n4,n5,n6,n7,n8];refine w5.pj 1 Y Y Y (dB tu) λh6 w6=>fin ?_ ?_ ?_ (w6.swap)
  .simp[upd,n5,n6,n7,n8,tW];rfl
  .simp[upd]
  .intro t t1 t2 t3 t4 t5 t6;simp[upd,ic t1,ic t2,ic t3,ic t4,ic t5,ic t6]
structure cR where
 k:Int
 i:Int
 s:BA
 l:List (Int×Int×BA)
abbrev gF(k i:Int)(s:BA):cR:=⟨k,i,s,[]⟩
def bR(x:Int×Int×BA):List Value:=[.int .i64 x.1,.int .i64 x.2.1,.string x.2.2,.slice none 0 0]
def jb(x:Int×Int×BA):(bR x).length=4:=rfl
def pI(x:Int×Int×BA):∀u∈bR x,u.oneCell'=true:=ou x.1 x.2.1 x.2.2
def qp(z:Nat)(h:af)(v:Value)(q:cR):Prop:=∃a n c,v=.agg ⟨[.int .i64 q.k,.int .i64 q.i,.string q.s,.slice a n c]⟩∧SL bR h (.slice a n c) q.l∧∀b∈bG a,z<=b
def four{ws vs:List Value}(hw:ws.length=4)(hv:vs.length=4):splice ws 0 vs=vs:=by
 match ws,hw,vs,hv with
 |[_,_,_,_],_,[_,_,_,_],_=>rfl
def fq(h0 h:af)(ab kb:Nat)(now:Int)(av:Value)(A:List BA)(lv:Value)(res:Except BA (cR×List aA)):Ending->af->Prop:=
 Out (λr h'=>∃q E,res=.ok (q,E)∧qp h.size h' r q∧∃aY,AS h0 h' ab kb now av A aY E∧Aside h h' ab lv aY) (λwhy h'=>res=.error why∧ag (ab::aq lv) h h')
section
variable {h0 h h1 h':af}{ab kb sb mb c b2:Nat}{now lo hi k n:Int}{av lv aY:Value}{A:List BA}{L E:List aA}{M:List En}{T:List Nat}{s key why:BA}{m:List KI}{S:aH}{res:Except BA (cR×List aA)}{K:Value->af->Prop}{Qp:List PanicEntry->af->Prop}
def AS.bad(_:AS h0 h ab kb now av A lv L)(w:St (ab::aq lv) h h' M)(he:res=.error why):fq h0 h ab kb now av A lv res (.panicked (nG why)) h':=⟨why,Y,he,w.ae⟩
def AS.ends(x:AS h0 h ab kb now av A lv L)(w:St (ab::aq lv) h h' M){v:Value}{q:cR}(j:Nat)(hj:M[j]? =some (iN ab kb now av aY E))(hq:qp h.size h' v q)(he:res=.ok (q,E)):fq h0 h ab kb now av A lv res (.returned v) h':=⟨q,E,he,hq,aY,x.out w j hj⟩
def AS.fin(x:AS h0 h ab kb now av A lv L)(w:St (ab::aq lv) h h' M)(i j:Nat)(hi:M[i]? =some (.b b2 [.int .i64 k,.int .i64 n,.string s,.slice none 0 0]))(hj:M[j]? =some (iN ab kb now av aY E))(he:res=.ok (gF k n s,E)):∃vs,vs.length=4∧fF h' b2 0 vs∧fq h0 h ab kb now av A lv res (.returned (.agg ⟨vs⟩)) h':=
 ⟨_,Y,akW (w.get i hi),x.ends w j hj ⟨none,0,0,Y,SL.nil,λb hb=>(nomatch (show b∈([]:List Nat)from hb))⟩ he⟩
def cX:BA:=⟨#[69,82,82,32,97,114,103,115]⟩
def AS.many(x:AS h0 h ab kb now av A lv L)(w:St (ab::aq lv) h h1 M)(i:Nat)(gL:M[i]? =some (iN ab kb now av aY E))(aN:lo<=A.length∧A.length<=hi->∀v,K v h1)(gW:¬(lo<=A.length∧A.length<=hi)->Qp (nG cX) h1):aj Tryz.prog 174 [ptr ab,.int .i64 lo,.int .i64 hi] h1 (after K Qp):=
 iP (adJ (x.out w i gL).1) (λv h' hr=>by obtain⟨h2,e⟩:=hr;have e:=e.symm;subst e;exact aN h2 v) (λv h' hr=>by obtain⟨h2,rfl,e⟩:=hr;have e:=e.symm;subst e;exact gW h2)
def Se{b:Bool}(aN:b=true->∀v,K v h)(gW:b=false->Qp (nG s) h):aj Tryz.prog 239 [.bool b,.string s] h (after K Qp):=
 iP mz (λv h' hr=>by obtain⟨h2,e⟩:=hr;have e:=e.symm;subst e;exact aN h2 v) (λv h' hr=>by obtain⟨h2,rfl,e⟩:=hr;have e:=e.symm;subst e;exact gW h2)
def tU(aN:∀v,K v h):aj Tryz.prog 239 [.bool true,.string s] h (after K Qp):=Se (λ_=>aN) (λe=>by cases e)
def tT(gW:Qp (nG s) h):aj Tryz.prog 239 [.bool false,.string s] h (after K Qp):=Se (λe=>by cases e) (λ_=>gW)
def AS.cz(x:AS h0 h ab kb now av A lv L)(hi:0<A.length):∃b o c,av=.slice (some ⟨b,o,none⟩) A.length c:=by
 have hs:=x.args h x.ae;obtain⟨a,c,rfl,ie⟩:=hs.form;obtain⟨b,o,rfl⟩:=hs.addr hi;exact⟨b,o,c,Y⟩
def AS.ix{i:Int}{b o n cc:Nat}{K:Value->Prop}(x:AS h0 h ab kb now (.slice (some ⟨b,o,none⟩) n cc) A lv L)(c:ag [] h0 h1)(j:Nat)(e:i=j)(hs:A[j]? =some s)(k:K (.string s)):0<=i∧i<(n:Int)∧∃v,cell h1 b (o+i.toNat*1)=some v∧K v:=by
 subst e;have hj:=(ak7.1 hs).1;have aI:=(x.args h1 c).cells bj hs;have hn:=(x.args h1 c).len.1;refine⟨V,V,_,?_,k⟩;have:=aI 0 _ Y;simpa using this
def AS.base(x:AS h0 h ab kb now av A lv L)(w:St (ab::aq lv) h h' M):ag [] h0 h':=x.ae.fresh w.ae λb hb=>by
 rcases ak3.1 hb with rfl|hb
 .exact x.fresh
 .exact(x.own b hb).1
def AS.text(x:AS h0 h ab kb now av A lv L)(bW:KR h0 kb sb mb c m)(hs:bT m S)(w:St (ab::aq lv) h h1 M)(i:Nat)(gL:M[i]? =some (iN ab kb now av aY E))(aN:∀h',(∀t,aC S key now=some t->t.kind=1)->St (ab::aq lv) h h' M->K (.tuple #[.string ((aC S key now).getD aL).text,.bool (aC S key now).isSome]) h')(gW:∀h' t,aC S key now=some t->t.kind≠1->St (ab::aq lv) h h' M->Qp (nG gI) h'):aj Tryz.prog 244 [ptr ab,.string key] h1 (after K Qp):=
 iP (ahC key (x.out w i gL).1 bW hs) (λv h' hr=>by obtain⟨h2,rfl,c⟩:=hr;exact aN h' h2 (w.ext c)) (λv h' hr=>by obtain⟨⟨t,h2,h3⟩,rfl,c⟩:=hr;exact gW h' t h2 h3 (w.ext c))
def AS.put(x:AS h0 h ab kb now av A lv L){stays:Bool}(bW:KR h0 kb sb mb c m)(hs:bT m S)(w:St (ab::aq lv) h h1 M)(i:Nat)(gL:M[i]? =some (iN ab kb now av aY E))(hL:E.length<=1000000)(hk:key.size<4611686018427387904)(hz:s.size<4611686018427387904)(aN:∀v h' dG,(s.size<=1048576∧key.size<=1048576)->St (ab::aq lv) h h' (M.set i (iN ab kb now av dG (E++nC S key s now stays)))->K v h')(gW:¬(s.size<=1048576∧key.size<=1048576)->Qp (nG lX) h1):aj Tryz.prog 241 [ptr ab,.string key,.string s,.bool stays] h1 (after K Qp):=
 iP (G7 key s stays (x.out w i gL).1 bW hs hL hk hz) (λv h' hr=>by obtain⟨h2,dG,x2,a2⟩:=hr;exact aN v h' dG h2 (w.aside i gL x2 a2)) (λv h' hr=>by obtain⟨h2,rfl,e⟩:=hr;have e:=e.symm;subst e;exact gW h2)
def AS.add(x:AS h0 h ab kb now av A lv L){F:List aA}{v:Value}(w:St (ab::aq lv) h h1 M)(i:Nat)(gL:M[i]? =some (iN ab kb now av aY E))(hv:SL cf h1 v F)(hb:((E.length+F.length)*2+768)*64<=281474976710656)(aN:∀v h' dG,St (ab::aq lv) h h' (M.set i (iN ab kb now av dG (E++F)))->K v h'):aj Tryz.prog 242 [ptr ab,v] h1 (after K Qp):=
 akV (EN (x.out w i gL).1 hv hb) λv h' hr=>by obtain⟨dG,x2,a2⟩:=hr;exact aN v h' dG (w.aside i gL x2 a2)
def AS.num(x:AS h0 h ab kb now av A lv L){j:Nat}(hl:dr h0)(hj:j<A.length)(hz:A[j].size<281474976710656)(w:St (ab::aq lv) h h1 M)(i:Nat)(gL:M[i]? =some (iN ab kb now av aY E))(aN:∀h' n,numOf A[j]=some n->St (ab::aq lv) h h' M->K (.int .i64 n) h')(gW:∀h',numOf A[j]=none->St (ab::aq lv) h h' M->Qp (nG jN) h'):aj Tryz.prog 176 [ptr ab,.int .i64 j] h1 (after K Qp):=
 iP (ad4 (x.out w i gL).1 hl hj hz) (λv h' hr=>by obtain⟨n,h2,rfl,c⟩:=hr;exact aN h' n h2 (w.ext c)) (λv h' hr=>by obtain⟨h2,rfl,c⟩:=hr;exact gW h' h2 (w.ext c))
def Tf(ha:cy k)(hb:cy n)(aN:eP k n->K (.int .i64 (k+n)) h)(gW:¬eP k n->Qp (nG ia) h):aj Tryz.prog 240 [.int .i64 k,.int .i64 n] h (after K Qp):=
 iP (Te ha hb) (λv h' hr=>by obtain⟨h2,rfl,e⟩:=hr;have e:=e.symm;subst e;exact aN h2) (λv h' hr=>by obtain⟨h2,rfl,e⟩:=hr;have e:=e.symm;subst e;exact gW h2)
end
def kA{c:akX}{Q:de}{ds:List Deferred}(hq:kF Q):Ib (λσ h=>swp Tryz.prog c Q σ ds h):=λσ σ' h hs hh=>ql c Q σ σ' ds h hq hs hh
def nz{c:akX}{Q:de}(hq:kF Q):kF (fc (swp Tryz.prog c Q) Q):=pZ (λσ σ' ds h hs hh=>ql c Q σ σ' ds h hq hs hh) hq
def z8{ι:Type}{ds:List Deferred}{E:ι->List (Nat×Value)}{I:ι->af->Prop}{p:ι->Prop}{Q:de}(hq:kF Q):kF (fc (λσ' eX h'=>eX=ds∧∃i',fN σ' (E i')∧I i' h'∧p i') Q):=
 pZ (λ_ _ _ _ hs hh=>adP _ _ _ _ hs hh) hq
def AS.uO{h0 h h1:af}{ab kb sb mb c:Nat}{now:Int}{av lv:Value}{A:List BA}{L:List aA}{m:List KI}{S:aH}{M:List En}(x:AS h0 h ab kb now av A lv L)(bW:KR h0 kb sb mb c m)(hs:bT m S)(w:St (ab::aq lv) h h1 M)(key:BA):NG h1 kb key now (aC S key now):=λhc=>Ex key now (bW.ext ((x.base w).nil hc)) hs
def jK{α:Type}{A:List α}(h:(1:Int)<=A.length∧(A.length:Int)<=1):∃x,A=[x]:=by
 match A,h with
 |[],h=>simp at h
 |[x],_=>exact⟨x,Y⟩
 |x::y::l,h=>simp at h;omega
def qm{α:Type}{A:List α}(h:(2:Int)<=A.length∧(A.length:Int)<=2):∃x y,A=[x,y]:=by
 match A,h with
 |[],h=>simp at h
 |[x],h=>simp at h
 |[x,y],_=>exact⟨x,y,Y⟩
 |x::y::z::l,h=>simp at h;omega
def jS(f:BA->Except BA (cR×List aA)):List BA->Except BA (cR×List aA)
 |[x]=>f x
 |_=>.error cX
def alb(f:BA->BA->Except BA (cR×List aA)):List BA->Except BA (cR×List aA)
 |[x,y]=>f x y
 |_=>.error cX
def nN{f:BA->Except BA (cR×List aA)}{A:List BA}(h:¬((1:Int)<=A.length∧(A.length:Int)<=1)):jS f A=.error cX:=by
 match A,h with
 |[],_=>rfl
 |[x],h=>exact absurd ⟨Yy,Yy⟩ h
 |x::y::l,_=>rfl
def uz{f:BA->BA->Except BA (cR×List aA)}{A:List BA}(h:¬((2:Int)<=A.length∧(A.length:Int)<=2)):alb f A=.error cX:=by
 match A,h with
 |[],_=>rfl
 |[x],_=>rfl
 |[x,y],h=>exact absurd ⟨Yy,Yy⟩ h
 |x::y::z::l,_=>rfl
end Go.Proofs.YtocgmipngoiieaaGreatDoor
namespace Go.Proofs.YtocgmipngoiieaaGreatDoor
open Go Go.Sx C Go.Num
def Wz:Nat:=9223372036854775808
noncomputable def Uc:akX:=f92.sc.r.r.r.r.r
def sk(o:Option Int):Value:=.tuple #[.int .i64 (o.getD 0),.bool o.isSome]
def ah7{x:Int}(h0:0<=x)(h1:x<256):IntKind.u8.wrap x=x:=by
 have e:IntKind.u8.wrap x=x%256:=by simp[IntKind.wrap,IntKind.bits,IntKind.signed]
 rw[e];omega
def Ir{d:List UInt8}{q:Nat}(hq:q<d.length):(⟨⟨d⟩⟩:BA)[q]? =some d[q]:=by
 show(⟨d⟩:Array UInt8)[q]? =_;simp[hq]
def YD{d:List UInt8}{q:Nat}(hq:q<d.length):d.drop q=d[q]::d.drop (q+1):=alx hq
def aeU{T x:Nat}(h:x<=T):(-(T:Int)+x).tdiv 10= -(((T-x)/10:Nat):Int):=by
 have e:(-(T:Int)+x)= -((T-x:Nat):Int):=V
 rw[e,Int.neg_tdiv];rfl
def Qd{d:List UInt8}(h:1<d.length)(c:UInt8):d.head? =some c↔d[0]' V=c:=by
 cases d with
 |nil=>simp at h
 |cons x r=>simp
def HI{d:List UInt8}:((⟨⟨d⟩⟩:BA)=⟨#[]⟩)↔d=[]:=by
 constructor
 .intro h;injection h with h;injection h
 .rintro rfl;rfl
def Ud{T:Nat}(hT:T=9223372036854775808){h:af}{neg:Bool}{d:List UInt8}(hd:d.length<=20):swp Tryz.prog Uc (cC [.t 2,.t 3] (ao λr h'=>r=sk (ot T neg d)∧h'=h)) (mk [(4,.bool neg),(5,.string ⟨⟨d⟩⟩)]) [] h:=by
 have akN:∀{r:Option Int},r=none->sk r=.tuple #[.int .i64 0,.bool false]:=by rintro _ rfl;rfl
 have main:¬(d=[]∨(1<d.length∧d.head? =some 48)∨(neg=true∧d=[48]))->
   swp Tryz.prog f92.sc.r.r.r.r.r.r
    (cC [.t 2,.t 3] (ao λr h'=>r=sk (ot T neg d)∧h'=h)) (mk [(4,.bool neg),(5,.string ⟨⟨d⟩⟩)]) [] h:=by
  intro hb;have eb:ot T neg d=vB T neg d:=by unfold ot;rw[akZ hb]
  rw[eb];have nn:∀{r:Option Nat},qg T 0 d=r->r=none->sk (vB T neg d)=.tuple #[.int .i64 0,.bool false]:=by
   rintro _ h1 rfl;unfold vB;rw[h1];rfl
  refine bA (λp:Nat×Nat=>[(4,.bool neg),(5,.string ⟨⟨d⟩⟩),(6,.int .i64 (-(p.2:Int))),(7,.int .i64 p.1)]) (λp h'=>p.1<=d.length∧h'=h∧p.2<=T∧qg T 0 d=qg T p.2 (d.drop p.1)) (λp=>d.length-p.1) (0,0)
   J4 ⟨ak8 _,Y,ak8 _,Y⟩ ?_
  rintro⟨q,m⟩ h1 ⟨hq,rfl,hm,kL⟩;simp only at hq hm kL;have aS:((⟨⟨d⟩⟩:BA).size:Int)=d.length:=rfl;refine Bi (λah=>?_) λcp=>?_
  .have ah:q<d.length:=by simp only at ah;omega
   have hc:=Ir ah;have fX:=YD ah;obtain⟨c,ie⟩:∃c,c=d[q]:=⟨_,Y⟩
   rw[<-ie]at hc fX;rw[fX,UA]at kL;refine Ei c (Ai Yo (Ai (by simpa using hc) ?_));refine Bi (λyZ=>?_) λyZ=>?_
   .rw[akZ V]at kL;rw[nn kL Y];exact Ai Y Y
   .refine Ei c (Ai Yo (Ai (by simpa using hc) ?_));refine Bi (λh57=>?_) λh57=>?_
    .rw[akZ V]at kL;rw[nn kL Y];exact Ai Y Y
    .rw[ak4 ⟨V,V⟩]at kL;refine Ei c (Ai Yo (Ai (by simpa using hc) ?_));refine Ai Y (λz hz=>?_);have hz:z=((c.toNat-48:Nat):Int):=by
      have e:z=IntKind.u8.wrap ((c.toNat:Int)-48):=hz;rw[e,ah7 V V];omega
     subst hz;refineλz2 si=>?_;have si:z2=((c.toNat-48:Nat):Int):=by rw[si];exact cx V V
     subst si;have hx:c.toNat-48<=9:=V
     obtain⟨x,Dj⟩:∃x,x=c.toNat-48:=⟨_,Y⟩
     have hnx:gD m c=m*10+x:=by rw[Am,Dj]
     rw[hnx]at kL;rw[<-Dj]at hx⊢;refine Ai Y (λz3 Dl=>?_);have Dl:z3= -(T:Int)+x:=by
      have:=cd Dl V V;rw[this];omega
     subst Dl;refine Ai Y (Ai Dd (λz4 KX=>?_));have KX:z4= -(((T-x)/10:Nat):Int):=by
      rw[KX,aeU V];exact cx V V
     subst KX;refine Bi (λack=>?_) λaN=>?_
     .simp only at ack;rw[ak4 V]at kL;rw[nn kL Y];exact Ai Y Y
     .simp only at aN;rw[akZ V]at kL;refine Ai Y (λz5 KY=>?_);have KY:z5= -((m*10:Nat):Int):=by
       have e:z5=IntKind.i64.wrap (-(m:Int)*10):=KY;rw[e,cx V V];omega
      subst KY;refine Ai Y (λz6 KZ=>?_);have KZ:z6= -((m*10+x:Nat):Int):=by
       have:=mG KZ V V;rw[this];omega
      subst KZ;refine Ai Y (λz7 K0=>?_);have K0:=cd K0 Yo Yo;subst K0;exact Ai Y (Ei (q+1,m*10+x) (Ai J4 (Ai ⟨ah,Y,by simp only;omega,kL⟩ Yo)))
  .have cp:q=d.length:=by simp only at cp;omega
   subst cp;rw[amE,UB]at kL;have et:vB T neg d=if neg then some (-(m:Int))else if m=T then none else some m:=by unfold vB;rw[kL]
   cases neg with
   |true=>
    rw[et];exact Ai Y Y
   |false=>
    refine Bi (λhe=>?_) λax=>?_
    .have:m=T:=by simp only at he;omega
     rw[et];simp only[amH,ana,ak4 this];exact Ai Y Y
    .have acf:m≠T:=by simp only at ax;omega
     refineλz hz=>?_;have hz:z=(m:Int):=by
      rw[hz,cx Yo Yo];simp only;omega
     subst hz;rw[et];simp only[amH,ana,akZ acf];exact Ai Y Y
 have dead:(d=[]∨(1<d.length∧d.head? =some 48)∨(neg=true∧d=[48]))->sk (ot T neg d)=.tuple #[.int .i64 0,.bool false]:=λhb=>by
  unfold ot;rw[ak4 hb];rfl
 have cut:∀{σ:Env},¬(d=[]∨(1<d.length∧d.head? =some 48)∨(neg=true∧d=[48]))->σ 4=some (.bool neg)->σ 5=some (.string ⟨⟨d⟩⟩)->_:=λ{σ}hb h4 h5=>aW (σ:=σ) [(4,.bool neg),(5,.string ⟨⟨d⟩⟩)] ⟨h4,h5,trivial⟩ (main hb);refine Ai (λhe=>?_) (λax=>?_)
 .rw[dead (.inl (HI.1 he))];exact Ai Y Y
 .have ax:d≠[]:=λe=>ax (HI.2 e);have iC:=am8.2 ax;refine Bi (λh1=>?_) λh1=>?_
  .have h1:1<d.length:=by
    have e:((⟨⟨d⟩⟩:BA).size:Int)=d.length:=rfl;rw[e]at h1;omega
   refine Ei d[0] (Ai Dd (Ai (Ir V)<|Bi (λyZ=>?_) λyZ=>?_))
   .have:d.head? =some 48:=(Qd h1 48).2 (ann.1 (by have yZ:(d[0].toNat:Int)=48:=yZ;show d[0].toNat=48;omega));rw[dead (.inr (.inl ⟨h1,this⟩))];exact Ai Y Y
   .have hh:¬d.head? =some 48:=λe=>yZ (by rw[(Qd h1 48).1 e];rfl);cases neg with
    |true=>
     refine Ai (λhe=>?_) (λQA=>?_)
     .have:d=[48]:=by injection he with he;injection he
      rw[dead (.inr (.inr ⟨Y,this⟩))];exact Ai Y Y
     .refine cut ?_ Y Y;rintro(h|⟨_,h⟩|⟨_,h⟩)
      .exact ax h
      .exact hh h
      .rw[h]at h1;simp at h1
    |false=>
     refine cut ?_ Y Y;rintro(h|⟨_,h⟩|⟨h,_⟩)
     .exact ax h
     .exact hh h
     .cases h
  .have h1:¬1<d.length:=by
    have e:((⟨⟨d⟩⟩:BA).size:Int)=d.length:=rfl;rw[e]at h1;omega
   cases neg with
   |true=>
    refine Ai (λhe=>?_) (λQA=>?_)
    .have:d=[48]:=by injection he with he;injection he
     rw[dead (.inr (.inr ⟨Y,this⟩))];exact Ai Y Y
    .refine cut ?_ Y Y;rintro(h|⟨h,_⟩|⟨_,h⟩)
     .exact ax h
     .exact h1 h
     .subst h;exact QA Y
   |false=>
    refine cut ?_ Y Y;rintro(h|⟨h,_⟩|⟨h,_⟩)
    .exact ax h
    .exact h1 h
    .cases h
variable{P:Program}{Q:de}{T:Nat}{ds:List Deferred}{h:af}{σ:Env}
def SU{x:Operand}{d:Nat}{c:akX}{v:Value}(he:ev σ x=some v)(hs:swp P c Q (upd σ (some d) v) ds h):swp P (.seq (.ops [⟨some d,none,.mv x⟩]) c) Q σ ds h:=by
 simp only[swp,cD,cW,aE,he];exact hs
def SV{x y:Operand}{d e:Nat}{c:akX}{v w:Value}(he:ev σ x=some v)(hf:ev (upd σ (some d) v) y=some w)(hs:swp P c Q (upd (upd σ (some d) v) (some e) w) ds h):swp P (.seq (.ops [⟨some d,none,.mv x⟩,⟨some e,none,.mv y⟩]) c) Q σ ds h:=by
 simp only[swp,cD,cW,aE,he,hf];exact hs
def Sf{F:List PanicEntry->af->Prop}{x:Operand}{d:Nat}{c:akX}{v:Value}(he:ev σ x=some v)(hs:swp P c Q (upd σ (some d) v) ds h):cD P F (λσ' h'=>fc (swp P c Q) Q .normal σ' ds h') [⟨some d,none,.mv x⟩] σ h:=by
 simp only[cD,cW,aE,he];exact hs
def OU{x:Operand}{a b c:akX}{t:Bool}(he:ev σ x=some (.bool t))(hs:swp P (.seq (bif t then a else b) c) Q σ ds h):swp P (.seq (.cond x a b) c) Q σ ds h:=by
 cases t with
 |true=>simp only[swp,he];exact hs
 |false=>simp only[swp,he];exact hs
def Of{a b c:akX}(hs:swp P (.seq a (.seq b c)) Q σ ds h):swp P (.seq (.seq a b) c) Q σ ds h:=by
 have e:fc (swp P b (fc (swp P c Q) Q)) (fc (swp P c Q) Q)=fc (swp P b (fc (swp P c Q) Q)) Q:=by
  funext x;cases x<;>rfl
 simp only[swp]at hs⊢;rw[e];exact hs
def ag8{c:akX}(hs:swp P c Q σ ds h):swp P (.seq .skip c) Q σ ds h:=hs
noncomputable def D9:akX:=.seq (.ops Z5) (.seq f92.sc.r.r.r.r.l Uc)
def sign_neg(hT:T=9223372036854775808){r:List UInt8}(lB:(45::r:List UInt8).length<=20):swp Tryz.prog D9 (cC [.t 2,.t 3] (ao λr' h'=>r'=sk (ot T true r)∧h'=h)) (mk [(0,.string ⟨⟨45::r⟩⟩),(4,.bool true)]) [] h:=by
 unfold D9;have aS:(⟨⟨45::r⟩⟩:BA).size=r.length+1:=rfl;refine SV Y Y<|Of<|SU Y<|OU (t:=true) Y<|Ai Dd (Ai (by rw[aS];omega) (Ai (by rw[aS];omega) ?_));have ex:(⟨⟨45::r⟩⟩:BA).extract (Int.toNat 1) (Int.toNat ((⟨⟨45::r⟩⟩:BA).size:Nat))=⟨⟨r⟩⟩:=by
  apply ByteArray.ext;rw[ByteArray.data_extract];apply amI;rw[Array.toList_extract,aS];simp
 exact aW [(4,.bool true),(5,.string ⟨⟨r⟩⟩)] ⟨Y,by rw[<-ex];rfl,trivial⟩ (Ud hT (by simp at lB;omega))
def ag3(hT:T=9223372036854775808){d:List UInt8}(lB:d.length<=20):swp Tryz.prog D9 (cC [.t 2,.t 3] (ao λr' h'=>r'=sk (ot T false d)∧h'=h)) (mk [(0,.string ⟨⟨d⟩⟩),(4,.bool false)]) [] h:=by
 unfold D9;exact SV Y Y<|Of<|SU Y<|OU (t:=false) Y<|ag8<|aW [(4,.bool false),(5,.string ⟨⟨d⟩⟩)] J2 (Ud hT lB)
def ae8{c:UInt8}{r:List UInt8}(lB:(c::r).length<=20):rp T (c::r)=(if c=45 then ot T true r else ot T false (c::r)):=by
 have wX:¬(c::r=[]∨20<(c::r).length):=by
  rintro(h|h)
  .cases h
  .omega
 unfold rp;rw[akZ wX];by_cases hc:c=45
 .subst hc;rw[ak4 (show(45::r:List UInt8).head? =some 45 from Y),ak4 Y];rfl
 .rw[akZ hc,akZ (by simpa using hc)]
def aeW(hT:T=9223372036854775808){c:UInt8}{r:List UInt8}(lB:(c::r).length<=20):swp Tryz.prog (.seq (.ops Z4) D9) (cC [.t 2,.t 3] (ao λr' h'=>r'=sk (rp T (c::r))∧h'=h)) (mk [(0,.string ⟨⟨c::r⟩⟩)]) [] h:=by
 rw[ae8 lB];refine Ei c (Ai Dd (Ai (Ir (d:=c::r) (q:=0) Yy)<|Bi (λyY=>?_) λyY=>?_))
 .have hc:c=45:=ann.1 (by have yY:(c.toNat:Int)=45:=yY;show c.toNat=45;omega);subst hc;rw[ak4 Y];refine Sf (v:=.bool true) ?_ ?_
  .exact Y
  exact aW [(0,.string ⟨⟨45::r⟩⟩),(4,.bool true)] J2 (sign_neg hT lB)
 .have hc:¬c=45:=by
   intro e;subst e;exact yY Y
  rw[akZ hc];refine Sf (v:=.bool false) ?_ ?_
  .exact Y
  exact aW [(0,.string ⟨⟨c::r⟩⟩),(4,.bool false)] J2 (ag3 hT lB)
def aeX(hT:T=9223372036854775808){l:List UInt8}(hs:l.length<4611686018427387904):aj Tryz.prog 92 [.string ⟨⟨l⟩⟩] h (ao λr h'=>r=sk (rp T l)∧h'=h):=by
 refine f92.c ?_;have aS:((⟨⟨l⟩⟩:BA).size:Int)=l.length:=rfl;have dead:(l=[]∨20<l.length)->sk (rp T l)=.tuple #[.int .i64 0,.bool false]:=λhb=>by
  unfold rp;rw[ak4 hb];rfl
 refine Ai (λhe=>?_) (λax=>?_)
 .rw[dead (.inl (HI.1 he))];exact Ai Y Y
 .have ax:l≠[]:=λe=>ax (HI.2 e);refine Bi (λlB=>?_) λlB=>?_
  .rw[dead (.inr (by rw[aS]at lB;omega))];exact Ai Y Y
  .have lB:l.length<=20:=by rw[aS]at lB;omega
   obtain⟨c,r,rfl⟩:=am2 ax;exact aW [(0,.string ⟨⟨c::r⟩⟩)] ⟨Y,trivial⟩ (aeW hT lB)
end Go.Proofs.YtocgmipngoiieaaGreatDoor
set_option maxRecDepth 100000
namespace Go.Proofs.YtocgmipngoiieaaGreatDoor.C
open Go Go.Sx Go.Sx.S
noncomputable section
def f131:=ay Tryz.func131
end
end Go.Proofs.YtocgmipngoiieaaGreatDoor.C
set_option maxRecDepth 100000
namespace Go.Proofs.YtocgmipngoiieaaGreatDoor.C
open Go Go.Sx Go.Sx.S
noncomputable section
def f10:=ay Tryz.func10
def f21:=ay Tryz.func21
def ajY:LS:=[o 61 (.ny 4 (t 14)),M 62 13,K 63 62,A 64 3 63]
def ajZ:LS:=[q (.st 4 (t 6) (t 61)),L 65 64,M 7 65,o 8 (.mv (b true))]
def f22:=ay Tryz.func22
def f46:=ay Tryz.func46
def f47:=ay Tryz.func47
def f48:=ay Tryz.func48
def aj6:LS:=[M 31 0,K 32 31,A 33 0 32,L 34 33,M 35 0,K 36 35,A 37 2 36,L 38 37,o 39 (.ixs 1 (t 38) (i 0)),L 40 39,M 41 0,K 42 41,A 43 1 42,L 44 43]
def aj7:LS:=[o 5 (.new [(.int .i64 0),(.string ⟨#[]⟩),(.slice none 0 0),(.slice none 0 0),(.slice none 0 0),(.bool false),(.int .i64 0)]),o 45 (.eR 75 [(t 34),(t 40),(t 44)]),M 30 45,X 46 30 0,X 47 30 1,q (.st 7 (t 5) (t 46)),M 6 47]
def f49:=ay Tryz.func49
def aj':LS:=[M 96 0,K 97 96,A 98 0 97,L 99 98,M 100 5,M 101 0,K 102 101,A 103 1 102,L 104 103]
def aka:LS:=[o 9 (.new [(.int .i64 0),(.string ⟨#[]⟩),(.slice none 0 0),(.slice none 0 0),(.slice none 0 0),(.bool false),(.int .i64 0)]),o 105 (.eR 75 [(t 99),(t 100),(t 104)]),M 95 105,X 106 95 0,X 107 95 1,q (.st 7 (t 9) (t 106)),M 10 107]
def f72:=ay Tryz.func72
def f73:=ay Tryz.func73
def akb:LS:=[M 19 0,K 20 19,A 21 0 20,L 22 21,M 23 0,K 24 23,A 25 2 24,L 26 25,M 27 6,G 28 1 26 27,L 29 28,M 30 0,K 31 30,A 32 1 31,L 33 32]
def akc:LS:=[o 7 (.new [(.int .i64 0),(.string ⟨#[]⟩),(.slice none 0 0),(.slice none 0 0),(.slice none 0 0),(.bool false),(.int .i64 0)]),o 34 (.eR 75 [(t 22),(t 29),(t 33)]),M 18 34,X 35 18 0,X 36 18 1,q (.st 7 (t 7) (t 35)),M 8 36]
def f74:=ay Tryz.func74
def f76:=ay Tryz.func76
def f77:=ay Tryz.func77
def f78:=ay Tryz.func78
def akd:LS:=[M 37 0,K 38 37,A 39 0 38,L 40 39,M 41 0,K 42 41,A 43 2 42,L 44 43,M 45 6,G 46 1 44 45,L 47 46,M 48 0,K 49 48,A 50 1 49,L 51 50]
def ake:LS:=[o 7 (.new [(.int .i64 0),(.string ⟨#[]⟩),(.slice none 0 0),(.slice none 0 0),(.slice none 0 0),(.bool false),(.int .i64 0)]),o 52 (.eR 75 [(t 40),(t 47),(t 51)]),M 36 52,X 53 36 0,X 54 36 1,q (.st 7 (t 7) (t 53)),M 8 54]
def f79:=ay Tryz.func79
def akf:LS:=[M 29 0,K 30 29,A 31 0 30,L 32 31,M 33 5,M 34 0,K 35 34,A 36 1 35,L 37 36]
def akg:LS:=[o 8 (.new [(.int .i64 0),(.string ⟨#[]⟩),(.slice none 0 0),(.slice none 0 0),(.slice none 0 0),(.bool false),(.int .i64 0)]),o 38 (.eR 75 [(t 32),(t 33),(t 37)]),M 28 38,X 39 28 0,X 40 28 1,q (.st 7 (t 8) (t 39)),M 9 40]
def f80:=ay Tryz.func80
def f81:=ay Tryz.func81
def akh:LS:=[M 12 0,K 13 12,A 14 0 13,L 15 14,M 16 1,M 17 0,K 18 17,A 19 1 18,L 20 19]
def aki:LS:=[o 9 (.new [(.int .i64 0),(.string ⟨#[]⟩),(.slice none 0 0),(.slice none 0 0),(.slice none 0 0),(.bool false),(.int .i64 0)]),o 21 (.eR 75 [(t 15),(t 16),(t 20)]),M 11 21,X 22 11 0,X 23 11 1,q (.st 7 (t 9) (t 22)),M 10 23]
def f84:=ay Tryz.func84
def f88:=ay Tryz.func88
def f90:=ay Tryz.func90
def f93:=ay Tryz.func93
def ajC:LS:=[M 23 0,K 24 23,A 25 0 24,L 26 25,M 27 1,M 28 0,K 29 28,A 30 1 29,L 31 30]
def ajD:LS:=[o 9 (.new [(.int .i64 0),(.string ⟨#[]⟩),(.slice none 0 0),(.slice none 0 0),(.slice none 0 0),(.bool false),(.int .i64 0)]),o 32 (.eR 75 [(t 26),(t 27),(t 31)]),M 22 32,X 33 22 0,X 34 22 1,q (.st 7 (t 9) (t 33)),M 10 34]
def f116:=ay Tryz.func116
def f117:=ay Tryz.func117
def ajE:LS:=[M 18 0,K 19 18,A 20 0 19,L 21 20,M 22 1,M 23 0,K 24 23,A 25 1 24,L 26 25]
def ajF:LS:=[o 6 (.new [(.int .i64 0),(.string ⟨#[]⟩),(.slice none 0 0),(.slice none 0 0),(.slice none 0 0),(.bool false),(.int .i64 0)]),o 27 (.eR 75 [(t 21),(t 22),(t 26)]),M 17 27,X 28 17 0,X 29 17 1,q (.st 7 (t 6) (t 28)),M 7 29]
def f118:=ay Tryz.func118
end
end Go.Proofs.YtocgmipngoiieaaGreatDoor.C
namespace Go.Proofs.YtocgmipngoiieaaGreatDoor
open Go Go.Sx C
section
variable {h0 h:af}{ab kb sb mb c:Nat}{now n:Int}{av lv:Value}{A:List BA}{m:List KI}{S:aH}{key s a:BA}{t:aB}{go:Option aB}
def yV:Option aB->Except BA (cR×List aA)
 |none=>.ok (gF 0 0 au,[])
 |some t=>if t.kind=1 then .ok (gF 4 0 t.text,[])else .error gI
def PH(h:t.kind≠1):yV (some t)=.error gI:=akZ h
def PJ(h:t.kind=1):yV (some t)=.ok (gF 4 0 t.text,[]):=ak4 h
def Br(S:aH)(now:Int):List BA->Except BA (cR×List aA):=jS λkey=>yV (aC S key now)
def aaF(x:AS h0 h ab kb now av A lv [])(bW:KR h0 kb sb mb c m)(hs:bT m S):aj Tryz.prog 168 [ptr ab] h (fq h0 h ab kb now av A lv (Br S now A)):=by
 refine f168.c ?_;intro b2 h1 g1;have w:=x.st.new g1;refine x.many w 1 Y (λaN _=>?_) (λhb=>x.bad w (nN hb));obtain⟨key,rfl⟩:=jK aN;obtain⟨b,o,cc,rfl⟩:=x.cz Yy;rw[show Br S now [key]=yV (aC S key now)from Y];refine w.cw 1 Y Y<|x.ix (x.base w) 0 Y Y<|x.text bW hs w 1 Y (λh2 hk w=>?_) (λh2 t ht hk w=>x.bad w (by rw[ht];exact PH hk));generalize aC S key now=go at hk⊢;cases go with
 |none=>
  exact w.st1 0 Y Y Y Y λh3 w=>x.fin w 0 1 Y Y Y
 |some t=>
  exact w.aV H7 λh3 w=>w.st1 0 Y Y Y Y λh4 w=>x.fin w 0 1 Y Y (PJ (hk t Y))
def nB(go:Option aB):Bool:=match go with
 |none=>true
 |some t=>decide (t.kind=1)
def LV(h:∀t,go=some t->t.kind=1):nB go=true:=by
 cases go with
 |none=>rfl
 |some t=>exact ale (h t Y)
def FQ(go:Option aB):Except BA (cR×List aA):=if nB go=true then .ok (gF 3 (go.getD aL).text.size au,[])else .error gI
def aaB(h:t.kind≠1):FQ (some t)=.error gI:=akZ (by simp[nB,h])
def Bw(S:aH)(now:Int):List BA->Except BA (cR×List aA):=jS λkey=>FQ (aC S key now)
def adx(x:AS h0 h ab kb now av A lv [])(bW:KR h0 kb sb mb c m)(hs:bT m S):aj Tryz.prog 178 [ptr ab] h (fq h0 h ab kb now av A lv (Bw S now A)):=by
 refine f178.c ?_;intro b2 h1 g1;have w:=x.st.new g1;refine x.many w 1 Y (λaN _=>?_) (λhb=>x.bad w (nN hb));obtain⟨key,rfl⟩:=jK aN;obtain⟨b,o,cc,rfl⟩:=x.cz Yy;rw[show Bw S now [key]=FQ (aC S key now)from Y];exact w.cw 1 Y Y<|x.ix (x.base w) 0 Y Y<|x.text bW hs w 1 Y (λh2 hk w=>w.aV mK λh3 w=>w.st1 0 Y Y Y Y λh4 w=>x.fin w 0 1 Y Y (ak4 (LV hk))) (λh2 t ht hk w=>x.bad w (by rw[ht];exact aaB hk))
instance (a b:Int):Decidable (eP a b):=by unfold eP;infer_instance
def nD(S:aH)(key s:BA)(now:Int)(stays:Bool)(r:cR):Except BA (cR×List aA):=
 if s.size<=1048576∧key.size<=1048576 then .ok (r,nC S key s now stays)else .error lX
def oD(S:aH)(key:BA)(now n:Int)(s:BA):Except BA (cR×List aA):=match numOf s with
 |none=>.error jN
 |some m=>if eP m n then nD S key ⟨⟨Lib.itoa (m+n)⟩⟩ now true (gF 3 (m+n) au)else .error ia
def Iv(h:numOf s=none):oD S key now n s=.error jN:=by unfold oD;rw[h]
def Ix{m:Int}(h:numOf s=some m)(ho:¬eP m n):oD S key now n s=.error ia:=by unfold oD;rw[h];exact akZ ho
def Iw{m:Int}(h:numOf s=some m)(ho:eP m n):oD S key now n s=nD S key ⟨⟨Lib.itoa (m+n)⟩⟩ now true (gF 3 (m+n) au):=by unfold oD;rw[h];exact ak4 ho
def mI:BA:=⟨#[48]⟩
def Bm:Option aB->BA
 |none=>mI
 |some t=>t.text
def nT(S:aH)(key:BA)(now n:Int)(go:Option aB):Except BA (cR×List aA):=if nB go=true then oD S key now n (Bm go)else .error gI
def aaz(h:t.kind≠1):nT S key now n (some t)=.error gI:=akZ (by simp[nB,h])
def gC{v:Int}(h:numOf s=some v):cy v:=by
 obtain⟨⟨a,b⟩,_⟩:=(Num.LM Y s.data.toList v).1 h;exact⟨V,V⟩
def K7{k n:Int}(h:eP k n):(Lib.itoa (k+n)).length<=20:=by
 obtain⟨h0,h1⟩:=h;unfold Lib.itoa;split
 .have:=Num.alX 18 (k+n).natAbs V;simp;omega
 .have:=Num.alX 18 (k+n).toNat V;omega
def Oo{h1:af}{b4:Nat}(x:AS h0 h ab kb now av A lv [])(bW:KR h0 kb sb mb c m)(hs:bT m S)(hl:dr h0)(hA:A[0]? =some key)(hn:cy n)(hz:s.size<281474976710656)(hk:key.size<281474976710656)(w:St (ab::aq lv) h h1 [.b b4 zR,iN ab kb now av lv []]):swp Tryz.prog f175.sc.r.r.r (cC [.cn 4 4] (fq h0 h ab kb now av A lv (oD S key now n s)))
   (mk [(0,ptr ab),(1,.int .i64 n),(4,ptr b4),(5,.string s)]) [] h1:=by
 obtain⟨⟨⟨l⟩⟩,tm⟩:∃s',s'=s:=⟨_,Y⟩
 subst tm;obtain⟨u,hu⟩:∃u,u=Num.num l:=⟨_,Y⟩
 have iD:numOf ⟨⟨l⟩⟩=u:=hu.symm;refine w.call (alP (hl.ext (x.base w)) hz) ?_;rintro _ h2 rfl w;rw[<-hu];cases u with
 |none=>exact tT (x.bad w (Iv iD))
 |some k=>
  refine tU λ_=>Tf (gC iD) hn (λaN=>?_) (λhb=>x.bad w (Ix iD hb));rw[Iw iD aN];obtain⟨b,o,cc,rfl⟩:=x.cz (ak7.1 hA).1;refine w.cw 1 Y Y<|x.ix (x.base w) 0 Y hA<|w.qx (rO (hl.ext (x.base w)) aN.1 aN.2) λh3 w=>?_;have hlen:(⟨⟨Lib.itoa (k+n)⟩⟩:BA).size<4611686018427387904:=by
   have h9:(Lib.itoa (k+n)).length<=20:=K7 aN;show(Lib.itoa (k+n)).length<_;omega
  exact x.put bW hs w 1 Y Yy V hlen (λ_ h4 dG bK w=>w.aV mK λh5 w=>w.st1 0 Y Y Y Y λh6 w=>x.fin w 0 1 Y Y (ak4 bK)) (λhb=>x.bad w (akZ hb))
def tV{P:Program}{x:Operand}{d:Nat}{c:akX}{Q:de}{σ:Env}{ds:List Deferred}{h:af}{v:Value}(he:ev σ x=some v)(hs:swp P c Q (upd σ (some d) v) ds h):swp P (.seq (.ops [⟨some d,none,.mv x⟩]) c) Q σ ds h:=by
 simp only[swp,cD,cW,aE,he];exact hs
def vq{P:Program}{x y:Operand}{d e:Nat}{c:akX}{Q:de}{σ:Env}{ds:List Deferred}{h:af}{v:Bool}(he:ev σ x=some (.bool v))(hf:ev (upd σ (some d) (.bool v)) y=some (.bool v))(hs:swp P c Q (upd (upd σ (some d) (.bool v)) (some e) (.bool !v)) ds h):swp P (.seq (.ops [⟨some d,none,.mv x⟩,⟨some e,none,.un .not y⟩]) c) Q σ ds h:=by
 simp only[swp,cD,cW,aE,he,hf];exact hs
def oE{P:Program}{x:Operand}{a b c:akX}{Q:de}{σ:Env}{ds:List Deferred}{h:af}{t:Bool}(he:ev σ x=some (.bool t))(hs:swp P (.seq (bif t then a else b) c) Q σ ds h):swp P (.seq (.cond x a b) c) Q σ ds h:=by
 cases t with
 |true=>simp only[swp,he];exact hs
 |false=>simp only[swp,he];exact hs
def mM{P:Program}{a b c:akX}{Q:de}{σ:Env}{ds:List Deferred}{h:af}(hs:swp P (.seq a (.seq b c)) Q σ ds h):swp P (.seq (.seq a b) c) Q σ ds h:=by
 have e:fc (swp P b (fc (swp P c Q) Q)) (fc (swp P c Q) Q)=fc (swp P b (fc (swp P c Q) Q)) Q:=by
  funext x;cases x<;>rfl
 simp only[swp]at hs⊢;rw[e];exact hs
def pg{P:Program}{c:akX}{Q:de}{σ:Env}{ds:List Deferred}{h:af}(hs:swp P c Q σ ds h):swp P (.seq .skip c) Q σ ds h:=hs
def pA(S:aH):Prop:=∀p∈S,p.2.text.size<281474976710656
def Jr(hT:pA S)(h:aC S key now=some t):t.text.size<281474976710656:=by
 unfold aC at h;split at h
 .rename_i t' hf;split at h
  .cases h
  .cases h;exact hT _ (uL hf)
 .cases h
def PR(hT:pA S)(h:go=aC S key now):(go.getD aL).text.size<281474976710656:=by
 cases go with
 |none=>decide
 |some t=>exact Jr hT h.symm
def Xs(x:AS h0 h ab kb now av A lv [])(bW:KR h0 kb sb mb c m)(hs:bT m S)(hl:dr h0)(hA:A[0]? =some key)(hn:cy n)(hk:key.size<281474976710656)(hT:pA S):aj Tryz.prog 175 [ptr ab,.int .i64 n] h (fq h0 h ab kb now av A lv (nT S key now n (aC S key now))):=by
 refine f175.c ?_;intro b4 h1 g1;have w:=x.st.new g1;obtain⟨b,o,cc,rfl⟩:=x.cz (ak7.1 hA).1;refine w.cw 1 Y Y<|x.ix (x.base w) 0 Y hA<|x.text bW hs w 1 Y (λh2 aN w=>?_) (λh2 t ht hb w=>x.bad w (by rw[ht];exact aaz hb));obtain⟨go,bN⟩:∃go,go=aC S key now:=⟨_,Y⟩
 rw[<-bN]at aN⊢;refine aW [(0,ptr ab),(1,.int .i64 n),(4,ptr b4),(5,.string (go.getD aL).text),(6,.bool go.isSome)] J5<|mM<|vq (v:=go.isSome) Y Y<|oE (t:=!go.isSome) Y ?_;rw[show nT S key now n go=oD S key now n (Bm go)from ak4 (LV aN)];cases go with
 |none=>
  exact tV (v:=.string mI) Y<|aW [(0,ptr ab),(1,.int .i64 n),(4,ptr b4),(5,.string mI)] J4 (Oo (s:=mI) x bW hs hl hA hn Dd hk w)
 |some t=>
  exact pg<|aW [(0,ptr ab),(1,.int .i64 n),(4,ptr b4),(5,.string t.text)] J4 (Oo x bW hs hl hA hn (Jr hT bN.symm) hk w)
end
end Go.Proofs.YtocgmipngoiieaaGreatDoor
namespace Go.Proofs.YtocgmipngoiieaaGreatDoor
open Go Go.Sx C
section
variable {h0 h:af}{ab kb sb mb c:Nat}{now n:Int}{av lv:Value}{A:List BA}{m:List KI}{S:aH}{key s a:BA}{t:aB}{go:Option aB}{q:cR}{E:List aA}
def aeP{stays:Bool}{r:cR}(h:nD S key s now stays r=.ok (q,E)):q=r:=by
 unfold nD at h;split at h
 .simp at h;exact h.1.symm
 .cases h
def Xr(h:oD S key now n s=.ok (q,E)):q.l=[]:=by
 cases hn:numOf s with
 |none=>rw[Iv hn]at h;cases h
 |some m=>
  by_cases ho:eP m n
  .rw[Iw hn ho]at h;rw[aeP h]
  .rw[Ix hn ho]at h;cases h
def aaA(h:nT S key now n go=.ok (q,E)):q.l=[]:=by
 unfold nT at h;split at h
 .exact Xr h
 .cases h
def qp.any{h':af}{z:Nat}{a:Option Addr}{n c:Nat}(hq:q.l=[])(x:SL bR h (.slice a n c) q.l)(hz:∀b∈bG a,z<=b):qp z h' (.agg ⟨[.int .i64 q.k,.int .i64 q.i,.string q.s,.slice a n c]⟩) q:=by
 refine⟨a,n,c,Y,?_,hz⟩;rw[hq]at x⊢;obtain⟨a',c',e,h1,h2⟩:=x;cases e;refine⟨_,_,Y,h1,?_⟩;cases a with
 |none=>exact h2
 |some a'=>
  obtain⟨b,o,sp⟩:=a';cases sp with
  |none=>intro i v hv;simp at hv
  |some z=>exact h2
def AS.by{h1:af}{b2:Nat}{res:Except BA (cR×List aA)}{K:Value->af->Prop}{Qp:List PanicEntry->af->Prop}(x:AS h0 h ab kb now av A lv [])(bW:KR h0 kb sb mb c m)(hs:bT m S)(hl:dr h0)(w:St (ab::aq lv) h h1 [.b b2 zR,iN ab kb now av lv []])(hA:A[0]? =some key)(hn:cy n)(hk:key.size<281474976710656)(hT:pA S)(iW:res=nT S key now n (aC S key now))(aN:∀v h',v.cells.toList.length=4->(∀u∈v.cells.toList,u.oneCell'=true)->ai h' b2 zR->
   (∀h2,dL h' h2 b2 v.cells.toList->∃vs,vs.length=4∧fF h2 b2 0 vs∧fq h0 h ab kb now av A lv res (.returned (.agg ⟨vs⟩)) h2)->K v h')(gW:∀why h',fq h0 h ab kb now av A lv res (.panicked (nG why)) h'->Qp (nG why) h'):aj Tryz.prog 175 [ptr ab,.int .i64 n] h1 (after K Qp):=by
 have x1:=(x.out w 1 Y).1;refine iP (Xs x1 bW hs hl hA hn hk hT) ?_ ?_
 .rintro v h2 ⟨q,E,he,⟨a,n',c',rfl,sl,fr⟩,dG,x2,a2⟩;have w2:=w.aside 1 Y x2 a2;refine aN _ h2 Y ?_ (w2.get 0 Y) λh3 p=>?_
  .intro u hu;have hu:u∈[Value.int .i64 q.k,.int .i64 q.i,.string q.s,.slice a n' c']:=hu;simp at hu;rcases hu with rfl|rfl|rfl|rfl<;>rfl
  .have w3:=w2.put 0 Y p;exact⟨_,Y,akW (w3.get 0 Y),x.ends w3 1 Y (qp.any (aaA he) sl λb hb=>by have:=fr b hb;have:=w.size;omega) (iW.trans he)⟩
 .rintro why h2 ⟨he,c2⟩;exact gW why h2 ⟨why,Y,iW.trans he,w.ae.trans c2 (λ_ hk=>hk) (λ_ hk _=>hk)⟩
def uE(S:aH)(now n:Int):List BA->Except BA (cR×List aA):=jS λkey=>nT S key now n (aC S key now)
def ahn{bn on:Nat}(x:AS h0 h ab kb now av A lv [])(bW:KR h0 kb sb mb c m)(hs:bT m S)(hl:dr h0)(Bn:cell h bn on=some (.int .i64 n))(hn:cy n)(hA:∀s∈A,s.size<281474976710656)(hT:pA S):aj Tryz.prog 247 [ptr ab,.pointer (some ⟨bn,on,none⟩)] h (fq h0 h ab kb now av A lv (uE S now n A)):=by
 refine f247.c ?_;intro b2 h1 g1;have w:=x.st.new g1;refine x.many w 1 Y (λaN _=>?_) (λhb=>x.bad w (nN hb));obtain⟨key,rfl⟩:=jK aN;refine Ei _ (Ai (sI Bn g1.ae Yy)<|x.by bW hs hl w Y hn (hA key Yy) hT Y (λv h2 l4 h1 B Cy=>?_) λwhy h2 hb=>hb)
 refine Ei _ (Ai B (Ai Yy (Ai l4 (Ai h1 ?_))));intro h3 p3;rw[four Y l4]at p3;exact Cy h3 p3
def Cc(S:aH)(key:BA)(now:Int):Option Int->Except BA (cR×List aA)
 |none=>.error jN
 |some n=>nT S key now n (aC S key now)
def Bt(S:aH)(now:Int):List BA->Except BA (cR×List aA):=alb λkey s=>Cc S key now (numOf s)
def acS(x:AS h0 h ab kb now av A lv [])(bW:KR h0 kb sb mb c m)(hs:bT m S)(hl:dr h0)(hA:∀s∈A,s.size<281474976710656)(hT:pA S):aj Tryz.prog 173 [ptr ab] h (fq h0 h ab kb now av A lv (Bt S now A)):=by
 refine f173.c ?_;intro b2 h1 g1;have w:=x.st.new g1;refine x.many w 1 Y (λaN _=>?_) (λhb=>x.bad w (uz hb));obtain⟨key,s,rfl⟩:=qm aN;rw[show Bt S now [key,s]=Cc S key now (numOf s)from Y];refine x.num (j:=1) hl Yy (hA _ Yy) w 1 Y (λh2 n hn w=>?_) (λh2 hn w=>x.bad w (by rw[show numOf s=none from hn];rfl));have hn:numOf s=some n:=hn;refine x.by bW hs hl w Y (gC hn) (hA key Yy) hT (by rw[hn];rfl) (λv h2 l4 h1 B Cy=>?_) λwhy h2 hb=>hb
 refine Ei _ (Ai B (Ai Yy (Ai l4 (Ai h1 ?_))));intro h3 p3;rw[four Y l4]at p3;exact Cy h3 p3
def yW(S:aH)(key a:BA)(now:Int)(go:Option aB):Except BA (cR×List aA):=
 if nB go=true then nD S key ((go.getD aL).text++a) now true (gF 3 ((go.getD aL).text.size+a.size) au)else .error gI
def aaC(h:t.kind≠1):yW S key a now (some t)=.error gI:=akZ (by simp[nB,h])
def By(S:aH)(now:Int):List BA->Except BA (cR×List aA):=alb λkey a=>yW S key a now (aC S key now)
def adR(x:AS h0 h ab kb now av A lv [])(bW:KR h0 kb sb mb c m)(hs:bT m S)(hA:∀s∈A,s.size<281474976710656)(hT:pA S):aj Tryz.prog 177 [ptr ab] h (fq h0 h ab kb now av A lv (By S now A)):=by
 refine f177.c ?_;intro b2 h1 g1;have w:=x.st.new g1;refine x.many w 1 Y (λaN _=>?_) (λhb=>x.bad w (uz hb));obtain⟨key,a,rfl⟩:=qm aN;obtain⟨b,o,cc,rfl⟩:=x.cz Yy;rw[show By S now [key,a]=yW S key a now (aC S key now)from Y];refine w.cw 1 Y Y<|x.ix (x.base w) 0 Y Y<|x.text bW hs w 1 Y (λh2 hk w=>?_) (λh2 t ht hk w=>x.bad w (by rw[ht];exact aaC hk));obtain⟨go,bN⟩:∃go,go=aC S key now:=⟨_,Y⟩
 rw[<-bN]at hk⊢;have hz:=PR hT bN;have hza:=hA a Yy;have hzk:=hA key Yy;rw[show yW S key a now go=nD S key ((go.getD aL).text++a) now true (gF 3 ((go.getD aL).text.size+a.size) au)from ak4 (LV hk)];refine w.cw 1 Y Y<|x.ix (x.base w) 0 Y Y<|w.cw 1 Y Y<|x.ix (x.base w) 1 Y Y<|Ai V ?_;have abQ:((go.getD aL).text++a).size<4611686018427387904:=by rw[ByteArray.size_append];omega
 exact x.put bW hs w 1 Y Yy V abQ (λ_ h4 dG bK w=>w.cw 1 Y Y (x.ix (x.base w) 1 Y Y (Az (w.aV mK λh5 w=>w.st1 0 Y Y Y Y λh6 w=>x.fin w 0 1 Y Y (ak4 bK))))) (λhb=>x.bad w (akZ hb))
end
end Go.Proofs.YtocgmipngoiieaaGreatDoor
namespace Go.Proofs.YtocgmipngoiieaaGreatDoor
open Go Go.Sx C
abbrev aM:=Except BA (cR×List aA)
def lS:cR:=gF 1 0 ⟨#[79,75]⟩
def jJ:cR:=gF 0 0 au
def bO(n:Int):cR:=gF 3 n au
def vK:BA:=⟨#[69,82,82,32,114,97,110,103,101]⟩
def Le(key:BA):aA:=⟨4,key,au,au,0⟩
def AH:BA:=⟨#[78,88]⟩
def Hs:BA:=⟨#[80,88]⟩
instance akM (k:BA) (l:List BA):Decidable (k∈l):=@List.instDecidableMemOfLawfulBEq _ instBEqOfDecidableEq _ k l
def jU(k:BA)(l:List BA):Nat:=l.countP λx=>decide (x=k)
def Fm{k:BA}{l:List BA}(h:k∉l):jU k l=0:=List.countP_eq_zero.2 λx hx he=>h (amy he▸hx)
def IY{k:BA}{l:List BA}(h:k∈l):0<jU k l:=List.countP_pos_iff.2 ⟨k,h,ale Y⟩
def IX{k:BA}{l:List BA}:jU k l<=l.length:=aoj
def IZ{pre:List BA}{k k':BA}:jU k' (pre++[k])=jU k' pre+(if k'=k then 1 else 0):=by
 unfold jU;rw[List.countP_append,ao2];by_cases h:k'=k
 .rw[ak4 (ale h.symm),ak4 h]
 .rw[akZ (by simp;exactλe=>h e.symm),akZ h]
section
variable (S:aH)(now:Int)
def here(key:BA):Bool:=(aC S key now).isSome
def D7(key s:BA):Option Int->aM
 |none=>.error jN
 |some k=>if k<1 then .error vK else if eP now k then(if s.size<=1048576∧key.size<=1048576 then .ok (lS,nC S key s now false++[nH key (now+k)])else .error lX)else .error ia
def vD(key s:BA):aM:=if here S now key=true then .ok (jJ,[])else nD S key s now false lS
def mf(up:BA->BA):List BA->aM
 |[key,s]=>nD S key s now false lS
 |[key,s,w]=>if up w=AH then vD S now key s else .error cX
 |[key,s,w,n]=>if up w=Hs then D7 S now key s (numOf n)else .error cX
 |_=>.error cX
def gq:List BA->List BA->List aA
 |_,[]=>[]
 |pre,k::ks=>(if here S now k=true∧k∉pre then[iS k]else[])++gq (pre++[k]) ks
def zK(lo hi:Int)(A:List BA)(r:aM):aM:=if lo<=A.length∧A.length<=hi then r else .error cX
def E4(A:List BA):aM:=zK 1 65536 A (.ok (bO (gq S now [] A).length,gq S now [] A))
def al2(A:List BA):aM:=zK 1 65536 A (.ok (bO (A.countP (here S now)),[]))
def kindName:Int->BA
 |1=>⟨#[115,116,114,105,110,103]⟩
 |2=>⟨#[104,97,115,104]⟩
 |3=>⟨#[108,105,115,116]⟩
 |4=>⟨#[115,101,116]⟩
 |5=>⟨#[122,115,101,116]⟩
 |_=>⟨#[110,111,110,101]⟩
def Bu:List BA->aM:=jS λkey=>.ok (gF 1 0 (kindName ((aC S key now).getD aL).kind),[])
def jI(key:BA):Int×Int×BA:=match aC S key now with
 |some t=>if t.kind=1 then(4,0,t.text)else(0,0,au)
 |none=>(0,0,au)
def E'(A:List BA):aM:=zK 1 65536 A (.ok (⟨5,0,au,A.map (jI S now)⟩,[]))
def aln:List BA->List BA->List aA->aM
 |pre,k::s::r,E=>if s.size<=1048576∧k.size<=1048576 then aln (pre++[k]) r (E++((if k∈pre then[]else cV S k now)++[kX k s]))else .error lX
 |_,_,E=>.ok (lS,E)
def Fa(A:List BA):aM:=zK 2 65536 A (if A.length%2=0 then aln S now [] A []else .error cX)
def yU(key:BA):Option Int->aM
 |none=>.error jN
 |some n=>if here S now key=true then(if n<1 then .ok (bO 1,[iS key])else if eP now n then .ok (bO 1,[nH key (now+n)])else .error ia)else .ok (bO 0,[])
def Bq:List BA->aM:=alb λkey s=>yU S now key (numOf s)
def FR(key:BA):Option aB->aM
 |none=>.ok (bO 0,[])
 |some t=>if t.cP=true then .ok (bO 1,[Le key])else .ok (bO 0,[])
def alS:List BA->aM:=jS λkey=>FR key (aC S key now)
def rh(a b:Int):Prop:= -9223372036854775808<=a-b∧a-b<=9223372036854775807
instance (a b:Int):Decidable (rh a b):=by unfold rh;infer_instance
def FP:Option aB->aM
 |none=>.ok (bO (-2),[])
 |some t=>if t.cP=true then(if rh t.bQ now then .ok (bO (t.bQ-now),[])else .error ia)else .ok (bO (-1),[])
def Bv:List BA->aM:=jS λkey=>FP now (aC S key now)
def yz(r:aM):List BA->aM
 |[]=>r
 |_=>.error cX
def IF:List BA->aM:=yz (.ok (⟨5,0,au,(jy now S).map λs=>(4,0,s)⟩,[]))
def OB:List BA->aM:=yz (.ok (bO (jy now S).length,[]))
def IB:List BA->aM:=yz (.ok (lS,S.map λp=>iS p.1))
end
def yA{r:aM}{A:List BA}(h:¬((0:Int)<=A.length∧(A.length:Int)<=0)):yz r A=.error cX:=by
 match A,h with
 |[],h=>exact absurd ⟨Yy,Yy⟩ h
 |x::l,_=>rfl
def Aj{α:Type}{A:List α}(h:(0:Int)<=A.length∧(A.length:Int)<=0):A=[]:=by
 match A,h with
 |[],_=>rfl
 |x::l,h=>simp at h;omega
def vf{lo hi:Int}{A:List BA}{r:aM}(h:lo<=A.length∧A.length<=hi):zK lo hi A r=r:=ak4 h
def ve{lo hi:Int}{A:List BA}{r:aM}(h:¬(lo<=A.length∧A.length<=hi)):zK lo hi A r=.error cX:=akZ h
end Go.Proofs.YtocgmipngoiieaaGreatDoor
namespace Go.Proofs.YtocgmipngoiieaaGreatDoor
open Go Go.Sx C
def Wr{h0 h:af}{v:Value}{l:List RX}(key:BA)(now:Int)(hv:SL dv h0 v l)(g:GX h0 l)(hl:l.length<4611686018427387904)(hk:key.size<4611686018427387904)(hf:oB l)(hc:ag [] h0 h):aj Tryz.prog 75 [v,.string key,.int .i64 now] h (ao λr h'=>(∃us,r=.tuple #[.agg ⟨us⟩,.bool (iR l key now).isSome]∧∀h2,ag [] h0 h2->TH h2 us ((iR l key now).getD aL))∧ag [] h h'):=by
 obtain⟨a,c,rfl,di⟩:=hv.form;refine f75.c ?_;intro b6 h1 g1;have B1:ai h1 b6 zeroV:=g1.blk;have bL:=hv.ext (hc.nil g1.ae);refine akV (vP key bL hl hk hf) ?_;rintro _ h9 ⟨rfl,e9⟩;have e9:=e9.symm;subst e9;have z1:=g1.size;have i1:=g1.id;cases hb:(br key l).2 with
 |false=>
  have hn:iR l key now=none:=by unfold iR tN;rw[akZ (by rw[hb];simp)]
  refine Ei _ (Ai B1 (Ai Dd (Ai Y (Ai (dB (t:=aL) (h:=h1) jA) ?_))));intro h2 p2;have B2:ai h2 b6 zeroV:=p2.blk;refine Ei zeroV (Ai Y (Ai (akW B2) ?_));rw[hn];exact Ai (Ei zeroV (Ai Y (λ_ _=>jA))) (g1.ae.fresh p2.ae Ys)
 |true=>
  obtain⟨ah,_⟩:=alq key l hb;have gM:tN l key=some l[(br key l).1].thing:=by unfold tN;rw[ak4 hb];simp[ah]
  obtain⟨b,o,rfl⟩:=bL.addr V;generalize (br key l).1=i at*;have aI:=bL.cells gT (i:=i) (x:=l[i]) (by simp[ah]);have hx:=(g.ext (hc.nil g1.ae)) l[i] (ak9 ah);have yes:iT l[i].thing now=false->
    swp Tryz.prog f75.sc.r.r.r (cC [.cn 6 7,.t 7] (ao λr h'=>(∃us,r=.tuple #[.agg ⟨us⟩,.bool (iR l key now).isSome]∧∀h2,ag [] h0 h2->TH h2 us ((iR l key now).getD aL))∧ag [] h h')) (mk [(6,.pointer (some ⟨b6,0,none⟩)),(0,.slice (some ⟨b,o,none⟩) l.length c),(8,.int .i64 i)]) [] h1:=by
   intro hg;have hn:iR l key now=some l[i].thing:=by unfold iR;rw[gM];simp[hg]
   refine Ai V (Ai V (Ei l[i].vs (Ai l[i].len (Ai (pG aI)<|Ei _ (Ai B1 (Ai Dd (Ai l[i].len (Ai l[i].one ?_))))))));intro h2 p2;have B2:ai h2 b6 l[i].vs:=by
    have h8:ai h2 b6 (splice zeroV 0 l[i].vs):=p2.blk;rw[seven Y l[i].len]at h8;exact h8
   refine Ei l[i].vs (Ai l[i].len (Ai (akW B2) ?_));rw[hn];exact Ai (Ei l[i].vs (Ai Y (λ_ hc=>(g l[i] (ak9 ah)).ext hc))) (g1.ae.fresh p2.ae Ys)
  refine Ai V (Ai V (Ei _ (Ai (pG aI 5 _ hx.cP) ?_)));cases hU:l[i].thing.cP with
  |false=>
   exact aW [(6,.pointer (some ⟨b6,0,none⟩)),(0,.slice (some ⟨b,o,none⟩) l.length c),(8,.int .i64 i)] J3 (yes (by unfold iT;rw[hU];rfl))
  |true=>
   refine Ai V (Ai V (Ei _ (Ai (pG aI 6 _ hx.bQ)<|Bi (λhle=>?_) λhle=>?_)))
   .have hn:iR l key now=none:=by unfold iR;rw[gM];simp[iT,hU,hle]
    refine Ei _ (Ai B1 (Ai Dd (Ai Y (Ai (dB (t:=aL) (h:=h1) jA) ?_))));intro h2 p2;have B2:ai h2 b6 zeroV:=p2.blk;refine Ei zeroV (Ai Y (Ai (akW B2) ?_));rw[hn];exact Ai (Ei zeroV (Ai Y (λ_ _=>jA))) (g1.ae.fresh p2.ae Ys)
   .exact aW [(6,.pointer (some ⟨b6,0,none⟩)),(0,.slice (some ⟨b,o,none⟩) l.length c),(8,.int .i64 i)] J3 (yes (by unfold iT;rw[hU];simpa using hle))
def akY(xb:Nat)(rest:List Value)(kv:Value)(now:Int)(av lv:Value)(L:List aA)(why:BA):En:=
 .x (xb::aq lv) (λh=>ai h xb (kv::.int .i64 now::av::lv::.string why::rest)∧OL cf 5 h lv L∧xb∉aq lv)
  (λS h h' hc hn ⟨h1,h2,h3⟩=>⟨h1.ae hc (hn _ Yy),h2.ae hc (λb hb=>hn _ (by simp[hb])),h3⟩)
  (λh ⟨h1,h2,_⟩ b hb=>by
   rcases ak3.1 hb with rfl|hb
   .exact h1.lt
   .exact OL.lt h2 b hb)
structure dT (h0:af) (kv:Value) (k:List RX) (av:Value) (A:List BA):Prop where
 sl:SL dv h0 kv k
 gx:GX h0 k
 up:gR k
 len:k.length<4611686018427387904
 fit:oB k
 args:∀h',ag [] h0 h'->SL encS h' av A
def gJ(h0 h:af)(e:En)(h':af)(e':En):Prop:=As h0 h' e'∧Sx.Own e h e' h'
section
variable {rest:List Value}{h0 h h1 h':af}{xb i:Nat}{now n:Int}{kv av lv:Value}{k:List RX}{A:List BA}{L:List aA}{why:BA}{M:List En}{T:List Nat}{e e':En}
def gJ.refl(x:As h0 h e)(hc:ag [] h h'):gJ h0 h e h' e:=⟨x.ext hc,Sx.Own.refl x.at_ hc⟩
def _root_.Go.Sx.St.aG{o:Nat}{v:Value}{K:Value->Prop}(w:St T h1 h M)(i:Nat)(hi:M[i]? =some (akY xb rest kv now av lv L why))(hv:(kv::.int .i64 now::av::lv::.string why::rest)[o]? =some v)(k:K v):∃v,cell h xb o=some v∧K v:=⟨v,an (w.get i hi).1 hv,k⟩
def _root_.Go.Sx.St.kW{K:af->Prop}{HV:BA}(w:St T h1 h M)(i:Nat)(hi:M[i]? =some (akY xb rest kv now av lv L why))(k:∀h',St T h1 h' (M.set i (akY xb rest kv now av lv L HV))->K h'):∃l,ai h xb l∧4+1<=l.length∧[Value.string HV].length=1∧(∀u∈[Value.string HV],u.oneCell'=true)∧∀h',dL h h' xb (splice l 4 [.string HV])->K h':=by
 obtain⟨hB,hO,hn⟩:=w.get i hi;refine⟨_,hB,Yy,Y,cM Y,λh' p=>k h' ?_⟩;have Cm:=hO.ae p.ae (λb hb=>by simp;rintro rfl;exact hn hb);exact w.set i hi p.ae (λb hb=>.inl (by simp at hb;simp[akY,En.fp,hb])) ⟨by have e:=p.blk;simpa[splice]using e,Cm,hn⟩ (λb hb=>.inl hb)
def _root_.Go.Sx.St.pd{a a':Option Addr}{n c m c2:Nat}{F:List aA}{z:List Value}{K:Value->af->Prop}(w:St T h1 h M)(i:Nat)(hi:M[i]? =some (akY xb rest kv now av (.slice a n c) L why))(hz:z.length=5)(jj:SL cf h (.slice a' m c2) F)(hb:((L.length+F.length)*2+768)*64<=281474976710656)(k:∀a3 c3 h',(∀{K':af->Prop},(∀bq,St T h1 bq (M.set i (akY xb rest kv now av (.slice a3 (L++F).length c3) (L++F) why))->K' bq)->
   ∃l,ai h' xb l∧3+1<=l.length∧[Value.slice a3 (L++F).length c3].length=1∧(∀u∈[Value.slice a3 (L++F).length c3],u.oneCell'=true)∧∀bq,dL h' bq xb (splice l 3 [.slice a3 (L++F).length c3])->K' bq)->K (.slice a3 (L++F).length c3) h'):ux h K 5 64 z a n c a' m:=by
 obtain⟨hB,hO,hn⟩:=w.get i hi;have ah:=hB.lt;refine dZ yO FA hz hO jj hb λv' h' ho hc sQ=>?_;have xj:xb∉aq v':=λhm=>by
  rcases sQ xb hm with h3|h3
  .exact hn h3
  .omega
 have Cj:=hB.ae hc hn;obtain⟨a3,c3,rfl,_⟩:=ho.sl.form;refine k a3 c3 h' λ{K'}hK=>?_;refine⟨_,Cj,Yy,Y,cM Y,λbq p=>hK bq ?_⟩;have ct:ag (xb::bG a) h bq:=(hc.mono (λb hb=>alr _ hb)).trans p.ae (λ_ hk=>hk) (λb hb _=>by simp at hb;simp[hb]);refine w.set i hi ct (λb hb=>.inl hb) ⟨by have e:=p.blk;simpa[splice]using e,ho.ae p.ae (λb hb=>by simp;rintro rfl;exact xj hb),xj⟩ (λb hb=>?_);rcases ak3.1 hb with rfl|hb
 .exact .inl (amY ..)
 .rcases sQ b hb with h3|h3
  .exact .inl (alr _ h3)
  .exact .inr h3
def _root_.Go.Sx.St.mB(w:St T h1 h M)(i:Nat)(hi:M[i]? =some (akY xb rest kv now av lv L why)):∃a c,lv=.slice a L.length c:=by
 obtain⟨a,c,e,_⟩:=(show OL cf 5 h lv L from(w.get i hi).2.1).sl.form;exact⟨a,c,e⟩
def dT.cz(c:dT h0 kv k av A)(hi:0<A.length):∃b o cc,av=.slice (some ⟨b,o,none⟩) A.length cc:=by
 have hs:=c.args h0 (ag.refl _);obtain⟨a,cc,rfl,ie⟩:=hs.form;obtain⟨b,o,rfl⟩:=hs.addr hi;exact⟨b,o,cc,Y⟩
def dT.argN(c:dT h0 kv k av A):∃a cc,av=.slice a A.length cc:=by
 obtain⟨a,cc,rfl,ie⟩:=(c.args h0 (ag.refl _)).form;exact⟨a,cc,Y⟩
def dT.ix{i:Int}{b o n cc:Nat}{s:BA}{K:Value->Prop}(c:dT h0 kv k (.slice (some ⟨b,o,none⟩) n cc) A)(hc:ag [] h0 h1)(j:Nat)(e:i=j)(hs:A[j]? =some s)(hk:K (.string s)):0<=i∧i<(n:Int)∧∃v,cell h1 b (o+i.toNat*1)=some v∧K v:=by
 subst e;have hj:=(ak7.1 hs).1;have aI:=(c.args h1 hc).cells bj hs;have hn:=(c.args h1 hc).len.1;refine⟨V,V,_,?_,hk⟩;have:=aI 0 _ Y;simpa using this
def NH(h0 h:af)(f:Nat)(vs:List Value)(go:Option aB):Prop:=
 ∀{h1},ag [] h h1->aj Tryz.prog f vs h1 (ao λr h'=>(∃pv lv rv,r=.tuple #[.agg ⟨bg (go.getD aL) pv lv rv⟩,.bool go.isSome]∧(∀u∈bg (go.getD aL) pv lv rv,u.oneCell'=true)∧∀h2,ag [] h0 h2->TH h2 (bg (go.getD aL) pv lv rv) (go.getD aL))∧ag [] h1 h')
def dT.aC(c:dT h0 kv k av A)(hc:ag [] h0 h)(key:BA)(hk:key.size<4611686018427387904):NH h0 h 75 [kv,.string key,.int .i64 now] (aC (k.map RX.pr) key now):=by
 intro h1 c1;refine(Wr key now c.sl c.gx c.len hk c.fit (hc.nil c1)).mono ?_;intro e h' he;cases e with
 |returned r=>
  obtain⟨⟨us,rfl,tu⟩,c2⟩:=he;rw[PK c.up key now]at tu⊢;have ho:=dB (tu h0 (ag.refl _));obtain⟨pv,lv,rv,rfl,_⟩:=id (tu h0 (ag.refl _));exact⟨⟨pv,lv,rv,Y,ho,tu⟩,c2⟩
 |panicked ch=>exact he
 |outgrown=>exact he
def qB{hh:af}{σ:Env}{Qp:List PanicEntry->af->Prop}{K:Env->af->Prop}{f:Nat}{v1 v2 v3:Value}{go:Option aB}{c d e0 e1 b v a1 a2 a3:Nat}(w:St T h0 h M)(get:NH hh h f [v1,v2,v3] go)(E:List (Nat×Value))(h1:σ a1=some v1)(h2:σ a2=some v2)(h3:σ a3=some v3)(hE:fN σ E)(ha:ES c d e0 e1 b v a1 a2 a3 E=true)(hm:Ib K)(k:∀h' b6 pv lv rv,St T h0 h' (.b b6 (bg (go.getD aL) pv lv rv)::M)->(∀u∈bg (go.getD aL) pv lv rv,u.oneCell'=true)->(∀h2,ag [] hh h2->TH h2 (bg (go.getD aL) pv lv rv) (go.getD aL))->K (mk ((b,ptr b6)::(v,.bool go.isSome)::E)) h'):cD Tryz.prog Qp K [⟨some c,none,.eR f [.tmp a1,.tmp a2,.tmp a3]⟩,⟨some d,none,.mv (.tmp c)⟩,⟨some e0,none,.ext (.tmp d) 0⟩,⟨some e1,none,.ext (.tmp d) 1⟩,⟨some b,none,.new [(.int .i64 0),(.string ⟨#[]⟩),(.slice none 0 0),(.slice none 0 0),(.slice none 0 0),(.bool false),(.int .i64 0)]⟩,
   ⟨none,none,.st 7 (.tmp b) (.tmp e0)⟩,⟨some v,none,.mv (.tmp e1)⟩] σ h∧
  cD Tryz.prog Qp K [⟨some b,none,.new [(.int .i64 0),(.string ⟨#[]⟩),(.slice none 0 0),(.slice none 0 0),(.slice none 0 0),(.bool false),(.int .i64 0)]⟩,⟨some c,none,.eR f [.tmp a1,.tmp a2,.tmp a3]⟩,⟨some d,none,.mv (.tmp c)⟩,⟨some e0,none,.ext (.tmp d) 0⟩,⟨some e1,none,.ext (.tmp d) 1⟩,
   ⟨none,none,.st 7 (.tmp b) (.tmp e0)⟩,⟨some v,none,.mv (.tmp e1)⟩] σ h:=by
 simp only[ES,alO,am0]at ha;obtain⟨⟨⟨⟨⟨⟨⟨⟨⟨⟨⟨n1,n2⟩,n3⟩,n4⟩,n5⟩,n6⟩,n7⟩,n8⟩,n9⟩,n10⟩,n11⟩,ha⟩:=ha;have tW:Nat.beq b e0=false:=ic (aoX (uA n2));have fin:∀{τ:Env}{h':af}{b6:Nat}{pv lv rv:Value},(∀u∈bg (go.getD aL) pv lv rv,u.oneCell'=true)->(∀h2,ag [] hh h2->TH h2 (bg (go.getD aL) pv lv rv) (go.getD aL))->τ b=some (ptr b6)->τ v=some (.bool go.isSome)->(∀t,t≠c->t≠d->t≠e0->t≠e1->t≠b->t≠v->τ t=σ t)->
   St T h0 h' (.b b6 (bg (go.getD aL) pv lv rv)::M)->K τ h':=λh1 ht hb hv ho w=>hm _ _ _ (uh (l:=(b,ptr _)::(v,.bool go.isSome)::E) ⟨hb,hv,MQ hE ha ho⟩) (k _ _ _ _ _ w h1 ht)
 refine⟨?_,?_⟩
 .simp only[cD,cW,aE,fI,ev,h1,h2,h3];refine iw (get (ag.refl h)) ?_;rintro _ h4 ⟨⟨pv,lv,rv,rfl,eB,gf⟩,c4⟩;refine⟨c4.ext,?_⟩;have w4:=w.ext c4;simp only[upd,anI,aoz,aoo,n1,n2,tW,n3,n4,n5,n6,n7,n8];intro b6 h5 g5;have w5:=w4.new g5;refine w5.pj 0 Y Y Y eB λh6 w6=>fin eB gf ?_ ?_ ?_ w6
  .simp[upd,n5];rfl
  .simp[upd]
  .intro t t1 t2 t3 t4 t5 t6;simp[upd,ic t1,ic t2,ic t3,ic t4,ic t5,ic t6]
 .simp only[cD,cW,aE,fI,ev];intro b6 h4 g4;have w4:=w.new g4;simp only[upd,anI,aoz,aoo,n9,n10,n11,h1,h2,h3];refine iw (get g4.ae) ?_;rintro _ h5 ⟨⟨pv,lv,rv,rfl,eB,gf⟩,c5⟩;refine⟨c5.ext,?_⟩;have w5:=w4.ext c5;simp only[upd,anI,aoz,aoo,n1,n2,tW,n3,n4,n5,n6,n7,n8];refine w5.pj 0 Y Y Y eB λh6 w6=>fin eB gf ?_ ?_ ?_ w6
  .simp[upd,n5,n6,n7,n8,tW];rfl
  .simp[upd]
  .intro t t1 t2 t3 t4 t5 t6;simp[upd,ic t1,ic t2,ic t3,ic t4,ic t5,ic t6]
def eZ{h:af}{n:Int}:aj Tryz.prog 88 [.int .i64 n] h (ao λr h'=>r=lT 3 n au∧ag [] h h'):=by
 refine f88.c ?_;intro b h1 g1;refine Ei _ (Ai g1.blk (Ai Dd (Ai Y (Ai (ou 3 n au) ?_))));intro h2 p2;have g2:=g1.put p2;exact⟨_,Y,akW g2.blk,Y,g2.ae⟩
def rm{h:af}{s:BA}:aj Tryz.prog 90 [.string s] h (ao λr h'=>r=lT 4 0 s∧ag [] h h'):=by
 refine f90.c ?_;intro b h1 g1;refine Ei _ (Ai g1.blk (Ai Dd (Ai Y (Ai (ou 4 0 s) ?_))));intro h2 p2;have g2:=g1.put p2;exact⟨_,Y,akW g2.blk,Y,g2.ae⟩
def xN{h:af}{s:BA}:aj Tryz.prog 76 [.string s] h (ao λr h'=>r=lT 1 0 s∧ag [] h h'):=by
 refine f76.c ?_;intro b h1 g1;refine Ei _ (Ai g1.blk (Ai Dd (Ai Y (Ai (ou 1 0 s) ?_))));intro h2 p2;have g2:=g1.put p2;exact⟨_,Y,akW g2.blk,Y,g2.ae⟩
def vA{h:af}{s:BA}:aj Tryz.prog 21 [.string s] h (ao λr h'=>r=lT 2 0 s∧ag [] h h'):=by
 refine f21.c ?_;intro b h1 g1;refine Ei _ (Ai g1.blk (Ai Dd (Ai Y (Ai (ou 2 0 s) ?_))));intro h2 p2;have g2:=g1.put p2;exact⟨_,Y,akW g2.blk,Y,g2.ae⟩
def Hi{h:af}{s:BA}(hs:s.size<4611686018427387904):aj Tryz.prog 92 [.string s] h (ao λr h'=>r=.tuple #[.int .i64 ((numOf s).getD 0),.bool (numOf s).isSome]∧h'=h):=by
 obtain⟨⟨l⟩⟩:=s;have e:numOf ⟨⟨l⟩⟩=Num.rp Wz l:=Num.ad5 Y l;rw[e];exact aeX Y hs
def Uk{lo hi:Int}(c:dT h0 kv k av A)(x:As h0 h (akY xb rest kv now av lv L why)):aj Tryz.prog 48 [ptr xb,.int .i64 lo,.int .i64 hi] h
  (ao λr h'=>(lo<=A.length∧A.length<=hi∧r=.bool true∧gJ h0 h (akY xb rest kv now av lv L why) h' (akY xb rest kv now av lv L why))∨(¬(lo<=A.length∧A.length<=hi)∧r=.bool false∧gJ h0 h (akY xb rest kv now av lv L why) h' (akY xb rest kv now av lv L cX))):=by
 obtain⟨a,cc,rfl⟩:=c.argN;refine f48.c ?_;have w:=x.st;refine w.aG 0 Y Y<|Bi (λh1=>?_) λh1=>?_
 .exact w.kW 0 Y λh2 w=>.inr ⟨λhh=>V,Y,x.out w 0 Y⟩
 .refine w.aG 0 Y Y<|Bi (λh2=>?_) λh2=>?_
  .exact w.kW 0 Y λh2 w=>.inr ⟨λhh=>V,Y,x.out w 0 Y⟩
  .exact .inl ⟨V,V,Y,x.out w 0 Y⟩
def AB{j:Nat}{s:BA}(c:dT h0 kv k av A)(x:As h0 h (akY xb rest kv now av lv L why))(hj:A[j]? =some s)(hs:s.size<4611686018427387904):aj Tryz.prog 77 [ptr xb,.int .i64 j] h
  (ao λr h'=>r=.tuple #[.int .i64 ((numOf s).getD 0),.bool (numOf s).isSome]∧gJ h0 h (akY xb rest kv now av lv L why) h' (akY xb rest kv now av lv L (if(numOf s).isSome=true then why else jN))):=by
 obtain⟨b,o,cc,rfl⟩:=c.cz (by have:=(ak7.1 hj).1;omega);refine f77.c ?_;have w:=x.st;refine w.aG 0 Y Y<|c.ix (x.base w) j Y hj<|dN (Hi hs) ?_;cases numOf s with
 |some m=>exact⟨Y,x.out w 0 Y⟩
 |none=>
  refine w.kW 0 Y λh2 w=>?_;exact⟨Y,x.out w 0 Y⟩
def DY{a b:Int}(ha:cy a)(hb:cy b)(x:As h0 h (akY xb rest kv now av lv L why)):aj Tryz.prog 93 [ptr xb,.int .i64 a,.int .i64 b] h
  (ao λr h'=>(eP a b∧r=.tuple #[.int .i64 (a+b),.bool true]∧gJ h0 h (akY xb rest kv now av lv L why) h' (akY xb rest kv now av lv L why))∨(¬eP a b∧r=.tuple #[.int .i64 0,.bool false]∧gJ h0 h (akY xb rest kv now av lv L why) h' (akY xb rest kv now av lv L ia))):=by
 obtain⟨a0,a1⟩:=ha;obtain⟨b0,b1⟩:=hb;have w:=x.st;refine f93.c ?_;have no:¬eP a b->∀{K:af->Prop},(∀h',gJ h0 h (akY xb rest kv now av lv L why) h' (akY xb rest kv now av lv L ia)->K h')->∃l,ai h xb l∧4+1<=l.length∧[Value.string ia].length=1∧(∀u∈[Value.string ia],u.oneCell'=true)∧∀h',dL h h' xb (splice l 4 [.string ia])->K h':=
  λ_{K}hK=>w.kW 0 Y λh2 w=>hK h2 (x.out w 0 Y)
 have yes:∀z:Int,z=IntKind.i64.wrap (a+b)->eP a b->z=a+b:=λz hz hk=>by
  obtain⟨k0,k1⟩:=hk;exact hz.trans (cx V V)
 unfold eP at*;refine Bi (λh1=>?_) λh1=>?_
 .refine Ai Y (λz hz=>?_);have hz:z=9223372036854775807-b:=hz.trans (cx V V);subst hz;refine Bi (λh2=>?_) λh2=>?_
  .exact no V λh' hr=>.inr ⟨V,Y,hr⟩
  .refine Ai Y (Ai (λh3=>absurd h3 V) (λh3=>Ai Y (λz hz=>?_)));have hz:=yes z hz ⟨V,V⟩;subst hz;exact .inl ⟨⟨V,V⟩,Y,x.out w 0 Y⟩
 .refine Bi (λh3=>?_) λh3=>?_
  .refine Ai Y (λz hz=>?_);have hz:z= -9223372036854775808-b:=hz.trans (cx V V);subst hz;refine Bi (λh2=>?_) λh2=>?_
   .exact no V λh' hr=>.inr ⟨V,Y,hr⟩
   .refine Ai Y (λz hz=>?_);have hz:=yes z hz ⟨V,V⟩;subst hz;exact .inl ⟨⟨V,V⟩,Y,x.out w 0 Y⟩
  .refine Ai Y (λz hz=>?_);have hz:=yes z hz ⟨V,V⟩;subst hz;exact .inl ⟨⟨V,V⟩,Y,x.out w 0 Y⟩
end
end Go.Proofs.YtocgmipngoiieaaGreatDoor
namespace Go.Proofs.YtocgmipngoiieaaGreatDoor
open Go Go.Sx C
def pL(key n t:BA):aA:=⟨5,key,n,t,0⟩
def M0(key n:BA):aA:=⟨6,key,n,au,0⟩
def sS(key t:BA):aA:=⟨7,key,au,t,0⟩
def ui(key t:BA):aA:=⟨8,key,au,t,0⟩
def HO(key:BA):aA:=⟨9,key,au,au,0⟩
def HP(key:BA):aA:=⟨10,key,au,au,0⟩
def ET(key:BA)(i:Int)(t:BA):aA:=⟨11,key,au,t,i⟩
def pD(key n:BA):aA:=⟨12,key,n,au,0⟩
def Mj(key n:BA):aA:=⟨13,key,n,au,0⟩
def alj(key n:BA)(s:Int):aA:=⟨14,key,n,au,s⟩
def M1(key n:BA):aA:=⟨15,key,n,au,0⟩
def fC(l:List BA):cR:=⟨5,0,au,l.map λs=>(4,0,s)⟩
def iu(s:BA):cR:=gF 4 0 s
def small(s:BA):Bool:=decide (s.size<=1048576)
def jm(kd:Int):Option aB->Bool
 |none=>true
 |some t=>decide (t.kind=kd)
def dP(n:Nat)(at_:Int):Option Nat:=
 if at_<0 then(if 0<=at_+n then some (at_+n).toNat else none)else if at_<n then some at_.toNat else none
def er(n:Nat)(a:Int):Int:=if a<0 then max 0 (a+n)else a
def ir(n:Nat)(b:Int):Int:=min (if b<0 then b+n else b) ((n:Int)-1)
def eD(n:Nat)(a b:Int):Nat×Nat:=if n<1∨ir n b<er n a then(0,0)else((er n a).toNat,(ir n b).toNat+1)
def DS{n i:Nat}{a:Int}(h:dP n a=some i):i<n:=by
 unfold dP at h;split at h
 .split at h
  .cases h;omega
  .cases h
 .split at h
  .cases h;omega
  .cases h
def Ea(n:Nat)(a b:Int):(eD n a b).1<=(eD n a b).2∧(eD n a b).2<=n:=by
 unfold eD;split
 .exact⟨ali _,ak8 _⟩
 .rename_i h;have hb:ir n b<=(n:Int)-1:=by unfold ir;exact Int.min_le_right _ _
  have ha:0<=er n a:=by unfold er;split<;>omega
  show(er n a).toNat<=(ir n b).toNat+1∧(ir n b).toNat+1<=n;omega
section
variable (S:aH)(now:Int)
def bX(k:Int)(key:BA)(f:aB->aM):aM:=match aC S key now with
 |none=>f aL
 |some t=>if t.kind=k then f t else .error gI
def makes(key:BA)(items:Int)(ok:Bool)(r:cR)(E:List aA):aM:=
 if items<=65536∧key.size<=1048576∧ok=true then .ok (r,cV S key now++E)else .error lX
def bf(there:BA->Bool):List BA->List BA->List BA
 |_,[]=>[]
 |pre,n::ns=>(if there n=false∧n∉pre then[n]else[])++bf there (pre++[n]) ns
def gX(there:BA->Bool)(ns:List BA):List BA:=bf (λn=>!there n) [] ns
def dj:List BA->List (BA×BA)
 |a::b::l=>(a,b)::dj l
 |_=>[]
def gu(l:List bM)(n:BA):Option BA:=(l.find? λp=>decide (p.name=n)).map bM.text
def dK(l:List bM)(n:BA):Bool:=(gu l n).isSome
def wg:List BA->aM
 |key::l=>if 2<=l.length∧l.length<65536∧l.length%2=0 then bX S now 2 key λt=>
   let n:=(bf (dK t.pairs) [] ((dj l).map Prod.fst)).length
   makes S now key (t.pairs.length+n) (l.all small) (bO n) ((dj l).map λp=>pL key p.1 p.2)else .error cX
 |[]=>.error cX
def E7:List BA->aM:=alb λkey n=>bX S now 2 key λt=>match gu t.pairs n with
 |some s=>.ok (iu s,[])
 |none=>.ok (jJ,[])
def IA(k:Int)(there:aB->BA->Bool)(e:BA->BA->aA):List BA->aM
 |key::l=>if 1<=l.length∧l.length<65536 then bX S now k key λt=>.ok (bO (gX (there t) l).length,(gX (there t) l).map (e key))else .error cX
 |[]=>.error cX
def Bs:List BA->aM:=IA S now 2 (λt=>dK t.pairs) M0
def E8:List BA->aM:=jS λkey=>bX S now 2 key λt=>.ok (bO t.pairs.length,[])
def E6:List BA->aM:=jS λkey=>bX S now 2 key λt=>.ok (fC (t.pairs.flatMap λp=>[p.name,p.text]),[])
def nO(f:BA->BA->BA->aM):List BA->aM
 |[a,b,c]=>f a b c
 |_=>.error cX
def bY(s:BA)(f:Int->aM):aM:=match numOf s with
 |some n=>f n
 |none=>.error jN
def lf(n jt:Int)(f:Int->aM):aM:=if eP n jt then f (n+jt)else .error ia
def yF:List BA->aM:=nO λkey n s=>bY s λjt=>bX S now 2 key λt=>
 bY ((gu t.pairs n).getD mI) λm=>lf m jt λz=>
  makes S now key (t.pairs.length+(if dK t.pairs n=true then 0 else 1)) (small n&&small ⟨⟨Lib.itoa z⟩⟩) (bO z) [pL key n ⟨⟨Lib.itoa z⟩⟩]
def uC(e:BA->BA->aA):List BA->aM
 |key::l=>if 1<=l.length∧l.length<65536 then bX S now 3 key λt=>makes S now key (t.list.length+l.length) (l.all small) (bO (t.list.length+l.length)) (l.map (e key))else .error cX
 |[]=>.error cX
def alw(e:BA->aA)(at_:Int):List BA->aM:=jS λkey=>bX S now 3 key λt=>match dP t.list.length at_ with
 |some i=>.ok (iu (t.list[i]?.getD au),[e key])
 |none=>.ok (jJ,[])
def E9:List BA->aM:=jS λkey=>bX S now 3 key λt=>.ok (bO t.list.length,[])
def IC:List BA->aM:=alb λkey s=>bY s λn=>bX S now 3 key λt=>match dP t.list.length n with
 |some i=>.ok (iu (t.list[i]?.getD au),[])
 |none=>.ok (jJ,[])
def ru{α:Type}(l:List α)(a b:Int):List α:=(l.drop (eD l.length a b).1).take ((eD l.length a b).2-(eD l.length a b).1)
def ID:List BA->aM:=nO λkey s u=>bY s λa=>bY u λb=>bX S now 3 key λt=>.ok (fC (ru t.list a b),[])
def IE:List BA->aM:=nO λkey s u=>bY s λn=>bX S now 3 key λt=>match dP t.list.length n with
 |some i=>makes S now key t.list.length (small u) lS [ET key i u]
 |none=>.error vK
def bF(l:List BA)(n:BA):Bool:=decide (n∈l)
def alT:List BA->aM
 |key::l=>if 1<=l.length∧l.length<65536 then bX S now 4 key λt=>
   let ns:=bf (bF t.list) [] l
   if ns=[]then .ok (bO 0,[])else makes S now key (t.list.length+ns.length) (ns.all small) (bO ns.length) (ns.map (pD key))else .error cX
 |[]=>.error cX
def BB:List BA->aM:=IA S now 4 (λt=>bF t.list) Mj
def Fc:List BA->aM:=alb λkey n=>bX S now 4 key λt=>.ok (bO (if bF t.list n=true then 1 else 0),[])
def Fb:List BA->aM:=jS λkey=>bX S now 4 key λt=>.ok (bO t.list.length,[])
def Fe:List BA->aM:=jS λkey=>bX S now 4 key λt=>.ok (fC t.list,[])
def tL:List BA->List BA->(List BA->aM)->aM
 |acc,[],f=>f acc
 |acc,key::ks,f=>bX S now 4 key λt=>tL (acc.filter (bF t.list)) ks f
def uD:List BA->aM
 |key::ks=>if ks.length<65536 then bX S now 4 key λt=>tL S now t.list ks λl=>.ok (fC l,[])else .error cX
 |[]=>.error cX
def fM(l:List aF)(n:BA):Option Int:=(l.find? λr=>decide (r.name=n)).map aF.score
def dA(l:List aF)(n:BA):Bool:=(fM l n).isSome
def j8:List (BA×BA)->Option (List (Int×BA))
 |[]=>some []
 |(s,n)::l=>match numOf s,j8 l with
  |some z,some r=>some ((z,n)::r)
  |_,_=>none
def uF:List BA->aM
 |key::l=>if 2<=l.length∧l.length<65536∧l.length%2=0 then match j8 (dj l)with
   |none=>.error jN
   |some r=>bX S now 5 key λt=>
    let n:=(bf (dA t.ranks) [] (r.map Prod.snd)).length
    makes S now key (t.ranks.length+n) ((r.map Prod.snd).all small) (bO n) (r.map λp=>alj key p.2 p.1)
   else .error cX
 |[]=>.error cX
def BC:List BA->aM:=IA S now 5 (λt=>dA t.ranks) M1
def Fi:List BA->aM:=alb λkey n=>bX S now 5 key λt=>match fM t.ranks n with
 |some z=>.ok (iu ⟨⟨Lib.itoa z⟩⟩,[])
 |none=>.ok (jJ,[])
def Fg:List BA->aM:=nO λkey s n=>bY s λjt=>bX S now 5 key λt=>lf ((fM t.ranks n).getD 0) jt λz=>
 makes S now key (t.ranks.length+(if dA t.ranks n=true then 0 else 1)) (small n) (iu ⟨⟨Lib.itoa z⟩⟩) [alj key n z]
def Ff:List BA->aM:=jS λkey=>bX S now 5 key λt=>.ok (bO t.ranks.length,[])
def Fh:List BA->aM:=alb λkey n=>bX S now 5 key λt=>match t.ranks.findIdx? λr=>decide (r.name=n)with
 |some i=>.ok (bO i,[])
 |none=>.ok (jJ,[])
def II:List BA->aM:=nO λkey s u=>bY s λa=>bY u λb=>bX S now 5 key λt=>.ok (fC ((ru t.ranks a b).map aF.name),[])
def IG:List BA->aM:=nO λkey s u=>bY s λa=>bY u λb=>bX S now 5 key λt=>
 .ok (fC ((t.ranks.filter λr=>decide (a<=r.score)&&decide (r.score<=b)).map aF.name),[])
end
end Go.Proofs.YtocgmipngoiieaaGreatDoor
namespace Go.Proofs.YtocgmipngoiieaaGreatDoor
open Go Go.Sx C
def aaq{l:List RX}(hu:gR l)(key:BA):(br key l).2=(eu (l.map RX.pr) key).isSome:=by
 cases hb:(br key l).2 with
 |true=>
  obtain⟨ah,hk⟩:=alq key l hb;rw[FH hu ah hk];rfl
 |false=>rw[Jj hu hb];rfl
section
variable {rest:List Value}{h0 h h1 h':af}{xb i:Nat}{now n kd:Int}{kv av lv:Value}{k:List RX}{A:List BA}{L:List aA}{why key s:BA}{M:List En}{T:List Nat}{e e':En}
def Mo(c:dT h0 kv k av A)(x:As h0 h (akY xb rest kv now av lv L why))(hk:key.size<4611686018427387904)(hL:L.length<=1000000):aj Tryz.prog 118 [ptr xb,.string key] h
  (ao λ_ h'=>∃aY,gJ h0 h (akY xb rest kv now av lv L why) h' (akY xb rest kv now av aY (L++cV (k.map RX.pr) key now) why)):=by
 obtain⟨a,cc,rfl⟩:=x.st.mB 0 Y;refine f118.c ?_;have w:=x.st;refine w.aG 0 Y Y<|dN (vP key (c.sl.ext (x.base w)) c.len hk c.fit) ?_;rw[aaq c.up key];refine w.aG 0 Y Y<|w.aG 0 Y Y<|qB w (c.aC (x.base w) key hk) [(0,ptr xb),(1,.string key),(5,.bool (eu (k.map RX.pr) key).isSome)] Y Y Y J3 Y (kA eV) λh2 b6 pv lw rv w _ _=>?_;unfold cV;generalize (eu (k.map RX.pr) key).isSome=fs;generalize (aC (k.map RX.pr) key now).getD aL=t at w;generalize (aC (k.map RX.pr) key now).isSome=gs;cases fs with
 |false=>
  refine⟨.slice a L.length cc,?_⟩;rw[akZ Yy,amA];exact x.out w 1 Y
 |true=>
  cases gs with
  |true=>
   refine⟨.slice a L.length cc,?_⟩;rw[akZ Yy,amA];exact x.out w 1 Y
  |false=>
   refine w.aG 1 Y Y ?_;intro b7 h3 g3;have w:=w.new g3;refine w.pd 2 Y Y (iI (e:=iS key) (w.get 0 Y)) (by simp only[al1];omega) λa4 n4 h4 eU=>?_;refine eU λh5 w=>?_;refine⟨.slice a4 (L++[iS key]).length n4,?_⟩;rw[ak4 ⟨Y,Y⟩];exact x.out w 2 Y
def Ms(c:dT h0 kv k av A)(x:As h0 h (akY xb rest kv now av lv L why))(hk:key.size<4611686018427387904):aj Tryz.prog 84 [ptr xb,.string key,.int .i64 kd] h
  (ao λr h'=>(∃pv lw rv,r=.tuple #[.agg ⟨bg ((aC (k.map RX.pr) key now).getD aL) pv lw rv⟩,.bool (aC (k.map RX.pr) key now).isSome,.bool (jm kd (aC (k.map RX.pr) key now))]∧(∀u∈bg ((aC (k.map RX.pr) key now).getD aL) pv lw rv,u.oneCell'=true)∧
    ∀h2,ag [] h0 h2->TH h2 (bg ((aC (k.map RX.pr) key now).getD aL) pv lw rv) ((aC (k.map RX.pr) key now).getD aL))∧
   gJ h0 h (akY xb rest kv now av lv L why) h' (akY xb rest kv now av lv L (if jm kd (aC (k.map RX.pr) key now)=true then why else gI))):=by
 refine f84.c ?_;intro b6 h1 g1;have w:=x.st.new g1;refine w.aG 1 Y Y<|w.aG 1 Y Y<|qB w (c.aC (x.base w) key hk) [(0,ptr xb),(1,.string key),(2,.int .i64 kd),(6,ptr b6)] Y Y Y J4 Y (kA eV) λh2 b9 pv lw rv w eB gf=>?_;generalize aC (k.map RX.pr) key now=go at w eB gf⊢;cases go with
 |none=>
  refine w.fS 0 Y Y<|w.pj 1 Y Y Y eB λh3 w=>?_;exact⟨_,Y,akW (w.get 1 Y),⟨_,_,_,Y,eB,gf⟩,x.out w 2 Y⟩
 |some t=>
  refine w.ld1 0 Y Y<|Bi (λh1=>?_) λh1=>?_
  .have hn:jm kd (some t)=false:=alg h1;rw[hn];refine w.kW 2 Y λh3 w=>w.fS 0 Y Y<|w.pj 1 Y Y Y eB λh4 w=>?_;exact⟨_,Y,akW (w.get 1 Y),⟨_,_,_,Y,eB,gf⟩,x.out w 2 Y⟩
  .have hn:jm kd (some t)=true:=ale (anP.1 h1);rw[hn];refine w.fS 0 Y Y<|w.pj 1 Y Y Y eB λh4 w=>?_;exact⟨_,Y,akW (w.get 1 Y),⟨_,_,_,Y,eB,gf⟩,x.out w 2 Y⟩
end
end Go.Proofs.YtocgmipngoiieaaGreatDoor
namespace Go.Proofs.YtocgmipngoiieaaGreatDoor
open Go Go.Sx C
def aeb{go:Option aB}:jm 1 go=nB go:=by cases go<;>rfl
section
variable {h0 h h1 h':af}{xb i:Nat}{now n:Int}{kv av lv:Value}{k:List RX}{A:List BA}{L:List aA}{why key s:BA}{M:List En}{T:List Nat}{e e':En}
def Hl(c:dT h0 kv k av A)(x:As h0 h (akY xb [] kv now av lv L why))(hk:key.size<4611686018427387904):aj Tryz.prog 84 [ptr xb,.string key,.int .i64 1] h
  (ao λr h'=>(∃pv lw rv,r=.tuple #[.agg ⟨bg ((aC (k.map RX.pr) key now).getD aL) pv lw rv⟩,.bool (aC (k.map RX.pr) key now).isSome,.bool (nB (aC (k.map RX.pr) key now))]∧(∀u∈bg ((aC (k.map RX.pr) key now).getD aL) pv lw rv,u.oneCell'=true)∧
    ∀h2,ag [] h0 h2->TH h2 (bg ((aC (k.map RX.pr) key now).getD aL) pv lw rv) ((aC (k.map RX.pr) key now).getD aL))∧
   gJ h0 h (akY xb [] kv now av lv L why) h' (akY xb [] kv now av lv L (if nB (aC (k.map RX.pr) key now)=true then why else gI))):=by
 have hh:=Ms (kd:=1) c x hk;rw[aeb]at hh;exact hh
def Mp{stays:Bool}(c:dT h0 kv k av A)(x:As h0 h (akY xb [] kv now av lv L why))(hk:key.size<4611686018427387904)(hL:L.length<=1000):aj Tryz.prog 116 [ptr xb,.string key,.string s,.bool stays] h
  (ao λr h'=>((s.size<=1048576∧key.size<=1048576)∧r=.bool true∧∃aY,gJ h0 h (akY xb [] kv now av lv L why) h' (akY xb [] kv now av aY (L++nC (k.map RX.pr) key s now stays) why))∨
   (¬(s.size<=1048576∧key.size<=1048576)∧r=.bool false∧gJ h0 h (akY xb [] kv now av lv L why) h' (akY xb [] kv now av lv L lX))):=by
 refine f116.c ?_;have w:=x.st;refine Bi (λh1=>?_) λh1=>?_
 .exact w.kW 0 Y λh2 w=>.inr ⟨λhh=>V,Y,x.out w 0 Y⟩
 refine Bi (λh2=>?_) λh2=>?_
 .exact w.kW 0 Y λh2 w=>.inr ⟨λhh=>V,Y,x.out w 0 Y⟩
 have fit:s.size<=1048576∧key.size<=1048576:=⟨V,V⟩
 refine w.aG 0 Y Y<|w.aG 0 Y Y<|qB w (c.aC (x.base w) key hk) [(0,ptr xb),(1,.string key),(2,.string s),(3,.bool stays)] Y Y Y J4 Y (kA eV) λh2 b6 pv lw rv w _ _=>?_;have dl:=mS (k.map RX.pr) key now;refine akV (Mo c (x.out w 1 Y).1 hk V) ?_;rintro _ h3 ⟨dG,_,o3⟩;have w:=w.own 1 Y o3;obtain⟨a,cc,rfl⟩:=w.mB 1 Y;refine w.aG 1 Y Y ?_;intro b7 h4 g4;have w:=w.new g4;refine w.pd 2 Y Y (iI (e:=kX key s) (w.get 0 Y)) (by simp only[al1,ak1];omega) λa5 n5 h5 eU=>?_;refine eU λh6 w=>?_;unfold nC;generalize aC (k.map RX.pr) key now=go at w⊢;have fin:kz go key stays=[]->∀{h7:af}{M:List En}{j:Nat},St (xb::aq lv) h h7 M->M[j]? =some (akY xb [] kv now av (.slice a5 (L++cV (k.map RX.pr) key now++[kX key s]).length n5) (L++cV (k.map RX.pr) key now++[kX key s]) why)->∃aY,gJ h0 h (akY xb [] kv now av lv L why) h7 (akY xb [] kv now av aY (L++(cV (k.map RX.pr) key now++([kX key s]++kz go key stays))) why):=λhe h7 M j w hj=>by
  refine⟨.slice a5 (L++cV (k.map RX.pr) key now++[kX key s]).length n5,?_⟩;rw[he,amA,<-alG];exact x.out w j hj
 cases stays with
 |false=>exact .inl ⟨fit,Y,fin (by unfold kz;split<;>simp) (j:=2) w Y⟩
 |true=>
  cases go with
  |none=>exact .inl ⟨fit,Y,fin Y (j:=2) w Y⟩
  |some t=>
   obtain⟨kd,tx,ps,ls,rs,hu,un⟩:=t;refine w.ld1 1 Y Y ?_;cases hu with
   |false=>exact .inl ⟨fit,Y,fin (by unfold kz;simp) (j:=2) w Y⟩
   |true=>
    refine w.aG 2 Y Y<|w.ld1 1 Y Y ?_;intro b8 h7 g7;have w:=w.new g7;refine w.pd 3 Y Y (iI (e:=nH key un) (w.get 0 Y)) (by simp only[al1,ak1];omega) λa8 n8 h8 eU=>?_;refine eU λh9 w=>.inl ⟨fit,Y,.slice a8 (L++cV (k.map RX.pr) key now++[kX key s]++[nH key un]).length n8,?_⟩;rw[show kz (some ⟨kd,tx,ps,ls,rs,true,un⟩) key true=[nH key un]by unfold kz;simp,<-alG,<-alG];exact x.out w 3 Y
end
end Go.Proofs.YtocgmipngoiieaaGreatDoor
namespace Go.Proofs.YtocgmipngoiieaaGreatDoor
open Go Go.Sx C
def adT{P:Program}{F:List PanicEntry->af->Prop}{x y:Operand}{d e:Nat}{c:akX}{Q:de}{σ:Env}{ds:List Deferred}{h:af}{v u:Value}(he:ev σ x=some v)(hf:ev (upd σ (some d) v) y=some u)(hs:swp P c Q (upd (upd σ (some d) v) (some e) u) ds h):cD P F (λσ' h'=>fc (swp P c Q) Q .normal σ' ds h') [⟨some d,none,.mv x⟩,⟨some e,none,.mv y⟩] σ h:=by
 simp only[cD,cW,aE,he,hf];exact hs
def Jd(res:aM)(q:cR)(E:List aA)(why:BA):Prop:=(why=au∧res=.ok (q,E))∨(why≠au∧res=.error why)
section
variable {h0 h h1 h':af}{xb i:Nat}{now n:Int}{kv av lv:Value}{k:List RX}{A:List BA}{L:List aA}{why key s:BA}{M:List En}{T:List Nat}{e e':En}{res:aM}
def bZ(h0 h:af)(xb:Nat)(kv:Value)(now:Int)(av lv:Value)(res:aM)(r:Value)(h':af):Prop:=
 ∃q aY E why,qp h.size h' r q∧gJ h0 h (akY xb [] kv now av lv [] au) h' (akY xb [] kv now av aY E why)∧Jd res q E why
def afc{z a i:Int}{s:BA}{zz:Nat}:qp zz h (.agg ⟨[.int .i64 a,.int .i64 i,.string s,.slice none 0 0]⟩) (gF a i s):=⟨none,0,0,Y,SL.nil,λb hb=>(nomatch (show b∈([]:List Nat)from hb))⟩
def bZ.fin{b4 j:Nat}{a m:Int}{aY:Value}{E:List aA}(x:As h0 h (akY xb [] kv now av lv [] au))(w:St (xb::aq lv) h h' M)(i j:Nat)(hi:M[i]? =some (.b b4 [.int .i64 a,.int .i64 m,.string s,.slice none 0 0]))(hj:M[j]? =some (akY xb [] kv now av aY E why))(hd:Jd res (gF a m s) E why):∃vs,vs.length=4∧fF h' b4 0 vs∧bZ h0 h xb kv now av lv res (.agg ⟨vs⟩) h':=
 ⟨_,Y,akW (w.get i hi),gF a m s,aY,E,why,afc (z:=0),x.out w j hj,hd⟩
def Jd.ok{q:cR}{E:List aA}(h:res=.ok (q,E)):Jd res q E au:=.inl ⟨Y,h⟩
def Jd.no{q:cR}{E:List aA}(hw:why≠au)(h:res=.error why):Jd res q E why:=.inr ⟨hw,h⟩
set_option maxHeartbeats 1000000 in
def Mh(c:dT h0 kv k av A)(x:As h0 h (akY xb [] kv now av lv [] au))(hA:A[0]? =some key)(hk:key.size<281474976710656)(hn:cy n)(hl:dr h0)(hT:pA (k.map RX.pr)):aj Tryz.prog 78 [ptr xb,.int .i64 n] h
  (ao (bZ h0 h xb kv now av lv (nT (k.map RX.pr) key now n (aC (k.map RX.pr) key now)))):=by
 obtain⟨b,o,cc,rfl⟩:=c.cz (ak7.1 hA).1;refine f78.c ?_;intro b4 h1 g1;have w:=x.st.new g1;refine w.aG 1 Y Y<|c.ix (x.base w) 0 Y hA<|akV (Hl c (x.out w 1 Y).1 V) ?_;rintro _ h2 ⟨⟨pv,lw,rv,rfl,eB,_⟩,_,o2⟩;have w:=w.own 1 Y o2;obtain⟨go,bN⟩:∃go,go=aC (k.map RX.pr) key now:=⟨_,Y⟩
 rw[<-bN]at eB w⊢;intro b5 h3 g3;have w:=w.new g3;refine w.pj 0 Y Y Y eB λh4 w=>?_;have aS:(Bm go).size<281474976710656:=by
  cases go with
  |none=>decide
  |some t=>exact Jr hT bN.symm
 -- what stands behind the number
 have rest:∀{h5:af}{m:Int},numOf (Bm go)=some m->nB go=true->St (xb::aq lv) h h5 [.b b5 (bg (go.getD aL) pv lw rv),.b b4 zR,akY xb [] kv now (.slice (some ⟨b,o,none⟩) A.length cc) lv [] au]->
   swp Tryz.prog f78.sc.r.r.r.r.r (cC [.cn 4 4] (ao (bZ h0 h xb kv now (.slice (some ⟨b,o,none⟩) A.length cc) lv (nT (k.map RX.pr) key now n go)))) (mk [(0,ptr xb),(1,.int .i64 n),(4,ptr b4),(8,.int .i64 m)]) [] h5:=by
  intro h5 m hm aN w;rw[show nT (k.map RX.pr) key now n go=oD (k.map RX.pr) key now n (Bm go)from ak4 aN];refine akV (DY (gC hm) hn (x.out w 2 Y).1) ?_;rintro _ h6 (⟨ho,rfl,_,o6⟩|⟨ho,rfl,_,o6⟩)
  .have w:=w.own 2 Y o6;rw[Iw hm ho];refine w.aG 2 Y Y<|c.ix (x.base w) 0 Y hA<|w.qx (rO (hl.ext (x.base w)) ho.1 ho.2) λh7 w=>akV (Mp c (x.out w 2 Y).1 V Yy) ?_;rintro _ h8 (⟨fit,rfl,dG,_,o8⟩|⟨fit,rfl,_,o8⟩)
   .have w:=w.own 2 Y o8;exact w.aV eZ λh9 w=>w.st1 1 Y Y Y Y λbp w=>bZ.fin (j:=0) x w 1 2 Y Y (Jd.ok (ak4 fit))
   .have w:=w.own 2 Y o8;exact w.aV eZ λh9 w=>w.st1 1 Y Y Y Y λbp w=>bZ.fin (j:=0) x w 1 2 Y Y (Jd.no Dd (akZ fit))
  .have w:=w.own 2 Y o6;rw[Ix hm ho];exact w.aV eZ λh9 w=>w.st1 1 Y Y Y Y λbp w=>bZ.fin (j:=0) x w 1 2 Y Y (Jd.no Dd Y)
 cases aN:nB go with
 |false=>
  rw[aN]at w;exact w.st1 1 Y Y Y Y λh5 w=>bZ.fin (j:=0) x w 1 2 Y Y (Jd.no (why:=gI) Dd (akZ (by rw[aN];decide)))
 |true=>
  rw[aN]at w;refine adT (v:=.bool go.isSome) (u:=.bool true) ?_ ?_ ?_
  .exact Y
  .exact Y
  refine aW [(0,ptr xb),(1,.int .i64 n),(4,ptr b4),(5,ptr b5),(6,.bool go.isSome),(7,.bool true)] J6<|mM<|vq (v:=true) Y Y<|oE (t:=false) Y<|pg<|tV (v:=.int .i64 0) Y<|mM<|tV (v:=.bool go.isSome) Y<|oE (t:=go.isSome) Y ?_;cases go with
  |none=>
   exact pg<|aW [(0,ptr xb),(1,.int .i64 n),(4,ptr b4),(8,.int .i64 0)] J4 (rest (m:=0) Kr aN w)
  |some t=>
   refine mM<|w.ld1 0 Y Y<|dN (Hi (s:=t.text) (by have:t.text.size<281474976710656:=aS;omega)) ?_;obtain⟨u,hu⟩:∃u,u=numOf t.text:=⟨_,Y⟩
   rw[<-hu];refine aW [(0,ptr xb),(1,.int .i64 n),(4,ptr b4),(7,.bool u.isSome),(8,.int .i64 (u.getD 0))] J5<|mM<|vq (v:=u.isSome) Y Y<|oE (t:=!u.isSome) Y ?_;cases u with
   |none=>
    refine w.kW 2 Y λh5 w=>w.st1 1 Y Y Y Y λh6 w=>bZ.fin (j:=0) x w 1 2 Y Y (Jd.no (why:=jN) Dd ?_);rw[show nT (k.map RX.pr) key now n (some t)=oD (k.map RX.pr) key now n t.text from ak4 aN];exact Iv hu.symm
   |some m=>
    exact pg<|aW [(0,ptr xb),(1,.int .i64 n),(4,ptr b4),(8,.int .i64 m)] J4 (rest (m:=m) hu.symm aN w)
def Ad:BA:=⟨#[71,69,84]⟩
def Af:BA:=⟨#[83,84,82,76,69,78]⟩
def Aa:BA:=⟨#[65,80,80,69,78,68]⟩
def afl(c:dT h0 kv k av A)(x:As h0 h (akY xb [] kv now av lv [] au))(hA:A=[key])(hk:key.size<281474976710656):aj Tryz.prog 73 [ptr xb,.string Ad] h
  (ao (bZ h0 h xb kv now av lv (Br (k.map RX.pr) now A))):=by
 subst hA;obtain⟨b,o,cc,rfl⟩:=c.cz Yy;refine f73.c ?_;intro b4 h1 g1;have w:=x.st.new g1;refine w.aG 1 Y Y<|c.ix (x.base w) 0 Y Y<|akV (Hl c (x.out w 1 Y).1 V) ?_;rintro _ h2 ⟨⟨pv,lw,rv,rfl,eB,_⟩,_,o2⟩;have w:=w.own 1 Y o2;rw[show Br (k.map RX.pr) now [key]=yV (aC (k.map RX.pr) key now)from Y];generalize aC (k.map RX.pr) key now=go at eB w⊢;intro b5 h3 g3;have w:=w.new g3;refine w.pj 0 Y Y Y eB λh4 w=>?_;cases go with
 |none=>
  exact Bn<|Bn<|w.st1 1 Y Y Y Y λh5 w=>bZ.fin (j:=0) x w 1 2 Y Y (Jd.ok Y)
 |some t=>
  cases aN:nB (some t)with
  |false=>
   rw[aN]at w;exact w.st1 1 Y Y Y Y λh5 w=>bZ.fin (j:=0) x w 1 2 Y Y (Jd.no (why:=gI) Dd (PH (an9 aN)))
  |true=>
   rw[aN]at w;exact Bn<|Bn<|w.ld1 0 Y Y<|w.aV rm λh5 w=>w.st1 1 Y Y Y Y λh6 w=>bZ.fin (j:=0) x w 1 2 Y Y (Jd.ok (PJ (amy aN)))
def afw(c:dT h0 kv k av A)(x:As h0 h (akY xb [] kv now av lv [] au))(hA:A=[key])(hk:key.size<281474976710656):aj Tryz.prog 73 [ptr xb,.string Af] h
  (ao (bZ h0 h xb kv now av lv (Bw (k.map RX.pr) now A))):=by
 subst hA;obtain⟨b,o,cc,rfl⟩:=c.cz Yy;refine f73.c ?_;intro b4 h1 g1;have w:=x.st.new g1;refine w.aG 1 Y Y<|c.ix (x.base w) 0 Y Y<|akV (Hl c (x.out w 1 Y).1 V) ?_;rintro _ h2 ⟨⟨pv,lw,rv,rfl,eB,_⟩,_,o2⟩;have w:=w.own 1 Y o2;rw[show Bw (k.map RX.pr) now [key]=FQ (aC (k.map RX.pr) key now)from Y];generalize aC (k.map RX.pr) key now=go at eB w⊢;intro b5 h3 g3;have w:=w.new g3;refine w.pj 0 Y Y Y eB λh4 w=>?_;cases aN:nB go with
 |false=>
  rw[aN]at w;exact w.st1 1 Y Y Y Y λh5 w=>bZ.fin (j:=0) x w 1 2 Y Y (Jd.no (why:=gI) Dd (akZ (by rw[aN];decide)))
 |true=>
  rw[aN]at w;exact Ai (λ_=>w.ld1 0 Y Y (w.aV eZ λh5 w=>w.st1 1 Y Y Y Y λh6 w=>bZ.fin (j:=0) x w 1 2 Y Y (Jd.ok (ak4 aN)))) (λh9=>absurd Y h9)
def ae0{a:BA}(c:dT h0 kv k av A)(x:As h0 h (akY xb [] kv now av lv [] au))(hA:A=[key,a])(hk:key.size<281474976710656)(ha:a.size<281474976710656)(hT:pA (k.map RX.pr)):aj Tryz.prog 73 [ptr xb,.string Aa] h
  (ao (bZ h0 h xb kv now av lv (By (k.map RX.pr) now A))):=by
 subst hA;obtain⟨b,o,cc,rfl⟩:=c.cz Yy;refine f73.c ?_;intro b4 h1 g1;have w:=x.st.new g1;refine w.aG 1 Y Y<|c.ix (x.base w) 0 Y Y<|akV (Hl c (x.out w 1 Y).1 V) ?_;rintro _ h2 ⟨⟨pv,lw,rv,rfl,eB,_⟩,_,o2⟩;have w:=w.own 1 Y o2;rw[show By (k.map RX.pr) now [key,a]=yW (k.map RX.pr) key a now (aC (k.map RX.pr) key now)from Y];obtain⟨go,bN⟩:∃go,go=aC (k.map RX.pr) key now:=⟨_,Y⟩
 rw[<-bN]at eB w⊢;have hz:=PR hT bN;intro b5 h3 g3;have w:=w.new g3;refine w.pj 0 Y Y Y eB λh4 w=>?_;cases aN:nB go with
 |false=>
  rw[aN]at w;exact w.st1 1 Y Y Y Y λh5 w=>bZ.fin (j:=0) x w 1 2 Y Y (Jd.no (why:=gI) Dd (akZ (by rw[aN];decide)))
 |true=>
  rw[aN]at w;rw[show yW (k.map RX.pr) key a now go=nD (k.map RX.pr) key ((go.getD aL).text++a) now true (gF 3 ((go.getD aL).text.size+a.size) au)from ak4 aN];refine Bn<|Ai (λ_=>w.aG 2 Y Y (c.ix (x.base w) 0 Y Y (w.ld1 0 Y Y (w.aG 2 Y Y (c.ix (x.base w) 1 Y Y (Ai (by show(go.getD aL).text.size+a.size<_;omega) (akV (Mp c (x.out w 2 Y).1 V Yy) ?_))))))) (λh9=>absurd Y h9);rintro _ h8 (⟨fit,rfl,dG,_,o8⟩|⟨fit,rfl,_,o8⟩)
  .have w:=w.own 2 Y o8;exact w.ld1 0 Y Y<|w.aG 2 Y Y<|c.ix (x.base w) 1 Y Y<|Az<|w.aV eZ λh9 w=>w.st1 1 Y Y Y Y λbp w=>bZ.fin (j:=0) x w 1 2 Y Y (Jd.ok (ak4 fit))
  .have w:=w.own 2 Y o8;exact w.ld1 0 Y Y<|w.aG 2 Y Y<|c.ix (x.base w) 1 Y Y<|Az<|w.aV eZ λh9 w=>w.st1 1 Y Y Y Y λbp w=>bZ.fin (j:=0) x w 1 2 Y Y (Jd.no Dd (akZ fit))
end
end Go.Proofs.YtocgmipngoiieaaGreatDoor
namespace Go.Proofs.YtocgmipngoiieaaGreatDoor
open Go Go.Sx C
section
variable {h0 h:af}{ab kb sb mb c:Nat}{now n:Int}{av lv:Value}{A:List BA}{m:List KI}{S:aH}{key s a:BA}{t:aB}{go:Option aB}{q:cR}{E:List aA}
def Ez(S:aH):Prop:=∀p∈S,1<=p.2.kind∧p.2.kind<=5
def Rt(hk:Ez S):0<=((aC S key now).getD aL).kind∧((aC S key now).getD aL).kind<=5:=by
 cases hg:aC S key now with
 |none=>exact⟨Dd,Dd⟩
 |some t=>
  have:eu S key=some t:=by
   unfold aC at hg;split at hg
   .rename_i u hu;split at hg
    .cases hg
    .rw[hu];exact hg
   .cases hg
  have:=hk _ (uL this);have k1:1<=t.kind:=this.1;exact⟨by show 0<=t.kind;omega,this.2⟩
def Xg(x:AS h0 h ab kb now av A lv [])(bW:KR h0 kb sb mb c m)(hs:bT m S)(hk:Ez S):aj Tryz.prog 171 [ptr ab] h (fq h0 h ab kb now av A lv (Bu S now A)):=by
 refine f171.c ?_;intro b2 h1 g1;have w:=x.st.new g1;refine x.many w 1 Y (λaN _=>?_) (λhb=>x.bad w (nN hb));obtain⟨key,rfl⟩:=jK aN;obtain⟨b,o,cc,rfl⟩:=x.cz Yy;have dk:=Rt (key:=key) (now:=now) hk;refine w.cw 1 Y Y<|w.cw 1 Y Y<|x.ix (x.base w) 0 Y Y<|w.cw 1 Y Y<|uN w (x.uO bW hs w key) [(0,ptr ab),(2,ptr b2)] Y Y Y J2 Y (kA eV) λh2 b3 pv lw rv w=>?_;rw[show Bu S now [key]=.ok (gF 1 0 (kindName ((aC S key now).getD aL).kind),[])from Y];generalize (aC S key now).getD aL=t at dk w⊢;refine w.ld1 0 Y Y ?_;have MG:∀{K:Value->Prop}{h:af},K (.string (kindName t.kind))->∃v,0<=t.kind∧t.kind<6∧([Value.string ⟨#[110,111,110,101]⟩,.string ⟨#[115,116,114,105,110,103]⟩,.string ⟨#[104,97,115,104]⟩,.string ⟨#[108,105,115,116]⟩,.string ⟨#[115,101,116]⟩,.string ⟨#[122,115,101,116]⟩])[t.kind.toNat*1]? =some v∧K v:=λ{K h}hK=>by
  obtain⟨k0,k5⟩:=dk;refine⟨_,k0,V,?_,hK⟩;have:t.kind=0∨t.kind=1∨t.kind=2∨t.kind=3∨t.kind=4∨t.kind=5:=V
  rcases this with e|e|e|e|e|e<;>rw[e]<;>rfl
 exact MG (h:=h)<|w.st1 2 Y Y Y Y λh3 w=>x.fin w 2 3 Y Y Y
def aeJ(x:AS h0 h ab kb now av A lv [])(bW:KR h0 kb sb mb c m)(hs:bT m S):aj Tryz.prog 182 [ptr ab] h (fq h0 h ab kb now av A lv (alS S now A)):=by
 refine f182.c ?_;intro b2 h1 g1;have w:=x.st.new g1;refine x.many w 1 Y (λaN _=>?_) (λhb=>x.bad w (nN hb));obtain⟨key,rfl⟩:=jK aN;obtain⟨b,o,cc,rfl⟩:=x.cz Yy;refine w.cw 1 Y Y<|w.cw 1 Y Y<|x.ix (x.base w) 0 Y Y<|w.cw 1 Y Y<|uN w (x.uO bW hs w key) [(0,ptr ab),(2,ptr b2)] Y Y Y J2 Y (kA eV) λh2 b3 pv lw rv w=>?_;rw[show alS S now [key]=FR key (aC S key now)from Y];generalize aC S key now=go at w⊢;cases go with
 |none=>
  exact w.aV mK λh3 w=>w.st1 2 Y Y Y Y λh4 w=>x.fin w 2 3 Y Y Y
 |some t=>
  refine w.ld1 0 Y Y ?_;obtain⟨kd,tx,ps,ls,rs,hu,un⟩:=t;cases hu with
  |false=>
   exact w.aV mK λh3 w=>w.st1 2 Y Y Y Y λh4 w=>x.fin w 2 3 Y Y Y
  |true=>
   refine w.cw 3 Y Y<|x.ix (x.base w) 0 Y Y ?_;intro b5 h3 g3;have w:=w.new g3;exact x.add w 4 Y (iI (e:=Le key) (w.get 0 Y)) Yy λ_ h4 dG w=>w.aV mK λh5 w=>w.st1 3 Y Y Y Y λh6 w=>x.fin w 3 4 Y Y Y
def adM{k n:Int}{h:af}{K:Value->af->Prop}{Qp:List PanicEntry->af->Prop}(ha:cy k)(hb:cy n)(aN:rh k n->K (.int .i64 (k-n)) h)(gW:¬rh k n->Qp (nG ia) h):aj Tryz.prog 251 [.int .i64 k,.int .i64 n] h (after K Qp):=by
 obtain⟨a0,a1⟩:=ha;obtain⟨b0,b1⟩:=hb;have key:aj Tryz.prog 251 [.int .i64 k,.int .i64 n] h (Out (λr h'=>rh k n∧r=.int .i64 (k-n)∧h'=h) (λwhy h'=>¬rh k n∧why=ia∧h'=h)):=by
  unfold rh;have good:rh k n->swp Tryz.prog f251.sc.r.r (cC [.t 4] (Out (λr h'=>(-9223372036854775808<=k-n∧k-n<=9223372036854775807)∧r=.int .i64 (k-n)∧h'=h) (λwhy h'=>¬(-9223372036854775808<=k-n∧k-n<=9223372036854775807)∧why=ia∧h'=h))) (mk [(0,.int .i64 k),(1,.int .i64 n)]) [] h:=by
   intro hk;obtain⟨k0,k1⟩:=id hk;refine Ai Y (λz hz=>?_);have hz:z=k-n:=hz.trans (cx V V);subst hz;exact⟨hk,Y,Y⟩
  refine f251.c<|Bi (λh1=>?_) λh1=>?_
  .refine Ai Y (λz hz=>?_);have hz:z= -9223372036854775808+n:=hz.trans (cx V V);subst hz;refine Bi (λh2=>?_) λh2=>?_
   .exact tU λ_=>aW [(0,.int .i64 k),(1,.int .i64 n)] J2 (good ⟨V,V⟩)
   .exact Ai Y (Ai (λh3=>absurd h3 V) (λh3=>tT ⟨_,Y,λhk=>by have:=hk.1;omega,Y,Y⟩))
  .refine Ai Y (Ai (λh3=>Ai Y (λz hz=>?_)) (λh3=>absurd (show n<0 by omega) h3));have hz:z=9223372036854775807+n:=hz.trans (cx V V);subst hz;refine Bi (λh2=>?_) λh2=>?_
   .exact tU λ_=>aW [(0,.int .i64 k),(1,.int .i64 n)] J2 (good ⟨V,V⟩)
   .exact tT ⟨_,Y,λhk=>by have:=hk.2;omega,Y,Y⟩
 exact iP key (λv h' hr=>by obtain⟨h2,rfl,e⟩:=hr;have e:=e.symm;subst e;exact aN h2) (λv h' hr=>by obtain⟨h2,rfl,e⟩:=hr;have e:=e.symm;subst e;exact gW h2)
def aeK{k n:Int}{h:af}{K:Value->af->Prop}{Qp:List PanicEntry->af->Prop}(ha:cy k)(hb:cy n)(aN:eP k n->K (.int .i64 (k+n)) h)(gW:¬eP k n->Qp (nG ia) h):aj Tryz.prog 240 [.int .i64 k,.int .i64 n] h (λe h'=>Ext h h'∧after K Qp e h'):=
 (Te ha hb).mono λe h' hr=>by
  cases e with
  |returned v=>obtain⟨h2,rfl,e⟩:=hr;have e:=e.symm;subst e;exact⟨λ_ _=>rfl,aN h2⟩
  |panicked ch=>obtain⟨why,rfl,h2,rfl,e⟩:=hr;have e:=e.symm;subst e;exact⟨λ_ _=>rfl,gW h2⟩
  |outgrown=>exact hr.elim
def Ba(S:aH):Prop:=∀p∈S,cy p.2.bQ
def M3(hu:Ba S)(hg:aC S key now=some t):cy t.bQ:=by
 have:eu S key=some t:=by
  unfold aC at hg;split at hg
  .rename_i u hu;split at hg
   .cases hg
   .rw[hu];exact hg
  .cases hg
 exact hu _ (uL this)
def ado(x:AS h0 h ab kb now av A lv [])(bW:KR h0 kb sb mb c m)(hs:bT m S)(hn:cy now)(hu:∀k∈A,∀t,aC S k now=some t->cy t.bQ):aj Tryz.prog 183 [ptr ab] h (fq h0 h ab kb now av A lv (Bv S now A)):=by
 refine f183.c ?_;intro b2 h1 g1;have w:=x.st.new g1;refine x.many w 1 Y (λaN _=>?_) (λhb=>x.bad w (nN hb));obtain⟨key,rfl⟩:=jK aN;obtain⟨b,o,cc,rfl⟩:=x.cz Yy;refine w.cw 1 Y Y<|w.cw 1 Y Y<|x.ix (x.base w) 0 Y Y<|w.cw 1 Y Y<|uN w (x.uO bW hs w key) [(0,ptr ab),(2,ptr b2)] Y Y Y J2 Y (kA eV) λh2 b3 pv lw rv w=>?_;rw[show Bv S now [key]=FP now (aC S key now)from Y];have u7:∀t,aC S key now=some t->cy t.bQ:=λt ht=>hu key Yy t ht;generalize aC S key now=go at w u7⊢;cases go with
 |none=>
  exact w.aV mK λh3 w=>w.st1 2 Y Y Y Y λh4 w=>x.fin w 2 3 Y Y Y
 |some t=>
  have u7:=u7 t Y;refine w.ld1 0 Y Y ?_;obtain⟨kd,tx,ps,ls,rs,hu,un⟩:=t;cases hu with
  |false=>
   exact w.aV mK λh3 w=>w.st1 2 Y Y Y Y λh4 w=>x.fin w 2 3 Y Y Y
  |true=>
   exact w.ld1 0 Y Y<|w.cw 3 Y Y<|adM u7 hn (λaN=>w.aV mK λh3 w=>w.st1 2 Y Y Y Y λh4 w=>x.fin w 2 3 Y Y (ak4 aN)) (λhb=>x.bad w (akZ hb))
def Y2(x:AS h0 h ab kb now av A lv [])(bW:KR h0 kb sb mb c m)(hs:bT m S)(hl:dr h0)(hn:cy now)(hA:∀s∈A,s.size<281474976710656):aj Tryz.prog 181 [ptr ab] h (fq h0 h ab kb now av A lv (Bq S now A)):=by
 refine f181.c ?_;intro b2 h1 g1;have w:=x.st.new g1;refine x.many w 1 Y (λaN _=>?_) (λhb=>x.bad w (uz hb));obtain⟨key,s,rfl⟩:=qm aN;obtain⟨b,o,cc,rfl⟩:=x.cz Yy;rw[show Bq S now [key,s]=yU S now key (numOf s)from Y];refine x.num (j:=1) hl Yy (hA _ Yy) w 1 Y (λh2 n ng w=>?_) (λh2 ng w=>x.bad w (by rw[show numOf s=none from ng];rfl));have ng:numOf s=some n:=ng;rw[ng];have nf:=gC ng;refine aW [(0,ptr ab),(2,ptr b2),(3,.int .i64 n)] J3<|mM<|w.cw 1 Y Y<|w.cw 1 Y Y<|x.ix (x.base w) 0 Y Y<|w.cw 1 Y Y<|uN w (x.uO bW hs w key) [(0,ptr ab),(2,ptr b2),(3,.int .i64 n)] Y Y Y J3 Y (kA eV) λh3 b3 pv lw rv w=>?_;have hh:here S now key=(aC S key now).isSome:=rfl;show swp _ _ _ _ _ _;unfold yU;simp only[hh];generalize aC S key now=go at w⊢;cases go with
 |none=>
  exact w.aV mK λh4 w=>w.st1 2 Y Y Y Y λh5 w=>x.fin w 2 3 Y Y Y
 |some t=>
  refine Bi (λh1=>?_) λh1=>?_
  .refine w.cw 3 Y Y<|x.ix (x.base w) 0 Y Y ?_;intro b5 h4 g4;have w:=w.new g4;exact x.add w 4 Y (iI (e:=iS key) (w.get 0 Y)) Yy λ_ h5 dG w=>w.aV mK λh6 w=>w.st1 3 Y Y Y Y λh7 w=>x.fin w 3 4 Y Y (by rw[ak4 (show(some t).isSome=true from Y),ak4 h1];rfl)
  .refine w.cw 3 Y Y<|x.ix (x.base w) 0 Y Y<|w.cw 3 Y Y<|aeK hn nf (λaN=>?_) (λhb=>x.bad w (by rw[ak4 (show(some t).isSome=true from Y),akZ h1,akZ hb]));intro b5 h4 g4;have w:=w.new g4;exact x.add w 4 Y (iI (e:=nH key (now+n)) (w.get 0 Y)) Yy λ_ h5 dG w=>w.aV mK λh6 w=>w.st1 3 Y Y Y Y λh7 w=>x.fin w 3 4 Y Y (by rw[ak4 (show(some t).isSome=true from Y),akZ h1,ak4 aN];rfl)
end
end Go.Proofs.YtocgmipngoiieaaGreatDoor
namespace Go.Proofs.YtocgmipngoiieaaGreatDoor
open Go Go.Sx C
section
variable {h0 h:af}{ab kb sb mb c:Nat}{now n:Int}{av lv:Value}{A:List BA}{m:List KI}{S:aH}
def ag7(x:AS h0 h ab kb now av A lv [])(bW:KR h0 kb sb mb c m)(hs:bT m S):aj Tryz.prog 185 [ptr ab] h (fq h0 h ab kb now av A lv (OB S now A)):=by
 refine f185.c ?_;intro b2 h1 g1;have w:=x.st.new g1;refine x.many w 1 Y (λaN _=>?_) (λhb=>x.bad w (yA hb));obtain rfl:=Aj aN;exact w.cw 1 Y Y<|w.cw 1 Y Y<|w.aV (Wx now (bW.ext (x.base w)) hs) λh3 w=>w.aV mK λh4 w=>w.st1 0 Y Y Y Y λh5 w=>x.fin w 0 1 Y Y Y
def Vo{α:Type}(p:α->Bool)(l:List α)(q:Nat)(hq:q<l.length):(l.take (q+1)).countP p=(l.take q).countP p+(if p l[q]=true then 1 else 0):=by
 rw[alI hq,List.countP_append,ao2]
def Y1(x:AS h0 h ab kb now av A lv [])(bW:KR h0 kb sb mb c m)(hs:bT m S):aj Tryz.prog 170 [ptr ab] h (fq h0 h ab kb now av A lv (al2 S now A)):=by
 refine f170.c ?_;intro b2 h1 g1;have w:=x.st.new g1;refine x.many w 1 Y (λaN _=>?_) (λhb=>x.bad w (ve hb));obtain⟨b,o,cc,rfl⟩:=x.cz V;rw[show al2 S now A=.ok (bO (A.countP (here S now)),[])from vf aN];refine w.cw 1 Y Y<|bA (λq:Nat=>[(0,ptr ab),(2,ptr b2),(3,.int .i64 ((A.take q).countP (here S now))),(13,.slice (some ⟨b,o,none⟩) A.length cc),(14,.int .i64 A.length),(15,.int .i64 q)])
  (λq h'=>q<=A.length∧St (ab::aq lv) h h' [.b b2 zR,iN ab kb now (.slice (some ⟨b,o,none⟩) A.length cc) lv []]) (λq=>A.length-q) 0 J6 ⟨ak8 _,w⟩ ?_
 rintro q h2 ⟨hq,w⟩;refine Bi (λah=>?_) λcp=>?_
 .have ah:q<A.length:=V
  have oL:=Vo (here S now) A q ah;have hle:(A.take q).countP (here S now)<=q:=al6 aoj Ys;refine x.ix (x.base w) q Y (akU ah)<|w.cw 1 Y Y<|w.cw 1 Y Y<|uN w (x.uO bW hs w A[q]) [(0,ptr ab),(2,ptr b2),(3,.int .i64 ((A.take q).countP (here S now))),(13,.slice (some ⟨b,o,none⟩) A.length cc),(14,.int .i64 A.length),(15,.int .i64 q)] Y Y Y J6 Y
   (kA (kB (nz (z8 (kB (nz eV)))))) λh3 b3 pv lw rv w=>?_
  rw[show here S now A[q]=(aC S A[q] now).isSome from Y]at oL;generalize (aC S A[q] now).isSome=bo at oL⊢;generalize aC S A[q] now=go at w;have w':=w.pick [2,3] Dd;cases bo with
  |false=>
   refine Az<|Ai Y (Ei (q+1) (Ai ⟨Y,Y,?_,Y,Y,Y,trivial⟩ (Ai ⟨V,w'⟩ V)));rw[oL];rfl
  |true=>
   refine Az<|Az<|Ai Y (Ei (q+1) (Ai ⟨Y,Y,?_,Y,Y,Y,trivial⟩ (Ai ⟨V,w'⟩ V)));rw[oL];rfl
 .have aZ:q=A.length:=V
  subst aZ;rw[alm];exact w.aV mK λh4 w=>w.st1 0 Y Y Y Y λh5 w=>x.fin w 0 1 Y Y Y
end
structure CM (es:List MapEntry) (pre:List BA):Prop where
 fits:∀e∈es,fits .str e.key=true
 cnt:∀k,(bH (.string k) es 0=none∧k∉pre)∨(∃i,bH (.string k) es 0=some (i,.int .i64 (jU k pre))∧k∈pre)
def CM.nil:CM [] []:=⟨Yy,λk=>.inl ⟨Y,Yy⟩⟩
def Rs{e:MapEntry}{k:BA}(hf:fits .str e.key=true):Instr.sameBits 10000 (.string k) e.key=true↔e.key=.string k:=by
 constructor
 .intro hs;exact(xR (k:=.str) (by rfl) hf hs).symm
 .intro e;rw[e];exact xS (k:=.str) Y
def Lq{k k':BA}{v:Value}{c:Nat}:∀{es:List MapEntry}{i:Nat},(∀e∈es,fits .str e.key=true)->bH (.string k) es i=none->
  bH (.string k') (es++[{key:=.string k,val:=v,born:=c}]) i=(if k'=k then some (i+es.length,v)else bH (.string k') es i)
 |[],i,_,_=>by
  simp only[anD,bH];by_cases h:k'=k
  .rw[ak4 h,ak4 (by rw[h];exact xS (k:=.str) Y)];rfl
  .rw[akZ h,akZ];intro hs;have:=xR (k:=.str) (by rfl) (by rfl) hs;simp at this;exact h this
 |e::es,i,hf,hn=>by
  have J1:=hf e Yy;simp only[bH]at hn;split at hn
  .cases hn
  .rename_i ax;have ih:=Lq (k:=k) (k':=k') (v:=v) (c:=c) (es:=es) (i:=i+1) (λe he=>hf e (by simp[he])) hn;simp only[amK,bH];rw[ih];by_cases h:k'=k
   .rw[ak4 h,ak4 h,h,akZ ax];simp only[ak0];congr 2;omega
   .rw[akZ h,akZ h]
def Lr{k k':BA}{v u:Value}:∀{es:List MapEntry}{i j:Nat},(∀e∈es,fits .str e.key=true)->bH (.string k) es i=some (i+j,u)->
  (k'=k->bH (.string k') (es.modify j λe=>{e with val:=v}) i=some (i+j,v))∧(k'≠k->bH (.string k') (es.modify j λe=>{e with val:=v}) i=bH (.string k') es i)
 |[],i,j,_,h=>by simp[bH]at h
 |e::es,i,j,hf,h=>by
  have J1:=hf e Yy;simp only[bH]at h;split at h
  .rename_i hs;simp at h;have hj:j=0:=V
   subst hj;have hk:=(Rs J1).1 hs;simp only[List.modify_zero_cons,bH];refine⟨λe1=>?_,λax=>?_⟩
   .rw[e1,ak4 hs];rfl
   .have:¬(Instr.sameBits 10000 (.string k') e.key=true):=λh2=>by
     have:=(Rs J1).1 h2;rw[hk]at this;simp at this;exact ax this.symm
    rw[akZ this,akZ this]
  .rename_i hs;cases j with
   |zero=>
    exfalso;have:∀{es:List MapEntry}{i p:Nat}{u:Value},bH (.string k) es i=some (p,u)->i<=p:=by
     intro es;induction es with
     |nil=>intro i p u h;simp[bH]at h
     |cons e es ih=>
      intro i p u h;simp only[bH]at h;split at h
      .simp at h;omega
      .have:=ih h;omega
    have:=this h;omega
   |succ j=>
    have h:bH (.string k) es (i+1)=some (i+1+j,u):=by rw[h];congr 2;omega
    obtain⟨m1,m2⟩:=Lr (k:=k) (k':=k') (v:=v) (λe he=>hf e (by simp[he])) h;simp only[ao1,bH];refine⟨λe1=>?_,λax=>?_⟩
    .rw[m1 e1,e1,akZ hs];congr 2;omega
    .rw[m2 ax]
def CM.DT{es:List MapEntry}{pre:List BA}(x:CM es pre){k:BA}{c:Nat}{n:Int}(h1:bH (.string k) es 0=none)(h2:k∉pre)(hn:n=1):CM (es++[{key:=.string k,val:=.int .i64 n,born:=c}]) (pre++[k]):=by
 have h0:jU k pre=0:=Fm h2;refine⟨λe he=>?_,λk'=>?_⟩
 .rcases alf.1 he with he|he
  .exact x.fits e he
  .rw[alE.1 he];rfl
 .rw[Lq x.fits h1,IZ];by_cases hk:k'=k
  .rw[ak4 hk,ak4 hk];refine .inr ⟨0+es.length,?_,by simp[hk]⟩;rw[hk,h0,hn];rfl
  .rw[akZ hk,akZ hk];rcases x.cnt k' with⟨h3,h4⟩|⟨j,h3,h4⟩
   .exact .inl ⟨h3,by simp[h4,hk]⟩
   .exact .inr ⟨j,by simpa using h3,by simp[h4]⟩
def CM.DU{es:List MapEntry}{pre:List BA}(x:CM es pre){k:BA}{i:Nat}{n:Int}(h1:bH (.string k) es 0=some (i,.int .i64 (jU k pre)))(hn:n=jU k pre+1):CM (es.modify i λe=>{e with val:=.int .i64 n}) (pre++[k]):=by
 have jV:bH (.string k) es 0=some (0+i,.int .i64 (jU k pre)):=by rw[h1];simp
 refine⟨λe he=>?_,λk'=>?_⟩
 .obtain⟨j,hj⟩:=List.getElem?_of_mem he;rw[anV]at hj;obtain⟨e0,Cx,rfl⟩:=alN.1 hj;have:=x.fits e0 (al9 Cx);split<;>exact this
 .obtain⟨m1,m2⟩:=Lr (k':=k') (v:=.int .i64 n) x.fits jV;rw[IZ];by_cases hk:k'=k
  .rw[ak4 hk];refine .inr ⟨0+i,?_,by simp[hk]⟩;rw[m1 hk,hk,hn];rfl
  .rw[akZ hk];rw[m2 hk];rcases x.cnt k' with⟨h3,h4⟩|⟨j,h3,h4⟩
   .exact .inl ⟨h3,by simp[h4,hk]⟩
   .exact .inr ⟨j,by simpa using h3,by simp[h4]⟩
def CM.hit{es:List MapEntry}{pre:List BA}{k:BA}(x:CM es (pre++[k])):∃i,bH (.string k) es 0=some (i,.int .i64 (jU k pre+1:Nat)):=by
 rcases x.cnt k with⟨_,h2⟩|⟨i,h1,_⟩
 .exact absurd Yy h2
 .rw[IZ,ak4 Y]at h1;exact⟨i,h1⟩
end Go.Proofs.YtocgmipngoiieaaGreatDoor
namespace Go.Proofs.YtocgmipngoiieaaGreatDoor
open Go Go.Sx C
def RM(a:Option Addr)(n c:Nat):Value:=.agg ⟨[.int .i64 5,.int .i64 0,.string au,.slice a n c]⟩
def adt(a:Option Addr)(n c:Nat):∀u∈(RM a n c).cells.toList,u.oneCell'=true:=by
 intro u hu;have hu:u∈[Value.int .i64 5,.int .i64 0,.string au,.slice a n c]:=hu;simp at hu;rcases hu with rfl|rfl|rfl|rfl<;>rfl
def Nv{h:af}{a:Option Addr}{n c:Nat}:aj Tryz.prog 249 [.slice a n c] h (ao λr h'=>r=RM a n c∧ag [] h h'):=by
 refine f249.c ?_;intro b h1 g1;refine Ei _ (Ai g1.blk (Ai Dd (Ai Y (Ai (adt a n c) ?_))));intro h2 p2;have g2:=g1.put p2;exact⟨_,Y,akW g2.blk,Y,g2.ae⟩
section
variable {h0 h h':af}{ab kb sb mb c b2:Nat}{now n:Int}{av lv v:Value}{A:List BA}{m:List KI}{S:aH}{M:List En}{E:List aA}{res:Except BA (cR×List aA)}{ls:List (Int×Int×BA)}
def AS.gv{a:Option Addr}{n c:Nat}{L0:List aA}(x:AS h0 h ab kb now av A lv L0)(w:St (ab::aq lv) h h' M)(i j l:Nat)(hi:M[i]? =some (.b b2 [.int .i64 5,.int .i64 0,.string au,.slice a n c]))(hj:M[j]? =some (iN ab kb now av lv E))(hl:M[l]? =some (.o bR 4 (.slice a n c) ls))(eA:l≠j)(he:res=.ok (⟨5,0,au,ls⟩,E)):∃vs,vs.length=4∧fF h' b2 0 vs∧fq h0 h ab kb now av A lv res (.returned (.agg ⟨vs⟩)) h':=by
 refine⟨_,Y,akW (w.get i hi),x.ends w j hj ⟨a,n,c,Y,(show OL bR 4 h' (.slice a n c) ls from w.get l hl).sl,λb hb=>?_⟩ he⟩;rcases(w.ents l _ hl).2 b hb with h1|h1
 .exact absurd h1 (w.apart l j _ _ hl hj eA b hb)
 .exact h1
def _root_.Go.Sx.St.empty{T:List Nat}{α:Type}{enc:α->List Value}{size:Nat}(w:St T h0 h M):St T h0 h (.o enc size (.slice none 0 0) ([]:List α)::M):=
 w.add (e:=.o enc size (.slice none 0 0) ([]:List α)) (ag.refl _) OL.nil (λb hb=>(nomatch (show b∈([]:List Nat)from hb)))
def uM:Option aB->Int×Int×BA
 |some t=>if t.kind=1 then(4,0,t.text)else(0,0,au)
 |none=>(0,0,au)
def amq(key:BA):jI S now key=uM (aC S key now):=by
 unfold jI uM;cases aC S key now<;>rfl
def AO{α β:Type}(f:α->β)(l:List α)(q:Nat)(hq:q<l.length):(l.take (q+1)).map f=(l.take q).map f++[f l[q]]:=by
 rw[alI hq,alD];rfl
def adL(x:AS h0 h ab kb now av A lv [])(bW:KR h0 kb sb mb c m)(hs:bT m S):aj Tryz.prog 179 [ptr ab] h (fq h0 h ab kb now av A lv (E' S now A)):=by
 refine f179.c ?_;intro b2 h1 g1;have w:=x.st.new g1;refine x.many w 1 Y (λaN _=>?_) (λhb=>x.bad w (ve hb));obtain⟨b,o,cc,rfl⟩:=x.cz V;rw[show E' S now A=.ok (⟨5,0,au,A.map (jI S now)⟩,[])from vf aN];refine w.cw 1 Y Y ?_;have w:=w.empty (enc:=bR) (size:=4);refine bA (λq:Nat×Value=>[(0,ptr ab),(2,ptr b2),(3,q.2),(13,.slice (some ⟨b,o,none⟩) A.length cc),(14,.int .i64 A.length),(15,.int .i64 q.1)])
  (λq h'=>q.1<=A.length∧St (ab::aq lv) h h' [.o bR 4 q.2 ((A.take q.1).map (jI S now)),.b b2 zR,iN ab kb now (.slice (some ⟨b,o,none⟩) A.length cc) lv []])
  (λq=>A.length-q.1) (0,.slice none 0 0) J6 ⟨ak8 _,w⟩ ?_
 rintro⟨q,v⟩ h2 ⟨hq,w⟩;obtain⟨a,c3,rfl,_⟩:=(show OL bR 4 h2 v ((A.take q).map (jI S now))from w.get 0 Y).sl.form;have hq:q<=A.length:=hq;refine Bi (λah=>?_) λcp=>?_
 .have ah:q<A.length:=V
  have iB:=AO (jI S now) A q ah;rw[amq (key:=A[q])]at iB;have fK:((A.take q).map (jI S now)).length<=65536:=by simp;omega
  refine x.ix (x.base w) q Y (akU ah)<|w.cw 2 Y Y<|w.cw 2 Y Y<|uN w (x.uO bW hs w A[q]) [(0,ptr ab),(2,ptr b2),(3,.slice a ((A.take q).map (jI S now)).length c3),(13,.slice (some ⟨b,o,none⟩) A.length cc),(14,.int .i64 A.length),(15,.int .i64 q)] Y Y Y J6 Y
   (kA (kB (nz (z8 (kB (nz eV)))))) λh3 b3 pv lw rv w=>?_
  generalize aC S A[q] now=go at w iB;have Su:∀{h4:af}{b4:Nat}{L:List En},uM go=(0,0,au)->St (ab::aq lv) h h4 (.b b4 zR::.b b3 (bg (go.getD aL) pv lw rv)::vJ (go.getD aL) pv lw rv::.o bR 4 (.slice a ((A.take q).map (jI S now)).length c3) ((A.take q).map (jI S now))::L)->
    SL bR h4 (.slice (some ⟨b4,0,none⟩) 1 1) [uM go]:=λhg w=>by
   rw[hg];exact SL.one jb (x:=(0,0,au)) (w.get 0 Y)
  cases go with
  |none=>
   intro b4 h4 g4;have w:=w.new g4;refine w.app 3 Y jb pI Y (Su Y w) (by simp only[al1];omega) λv' h5 w=>?_;rw[<-iB]at w;have w:=w.pick [3,4,5] Dd;exact Az<|Ai Y (Ei (q+1,v') (Ai J6 (Ai ⟨ah,w⟩ Yo)))
  |some t=>
   refine w.ld1 0 Y Y<|Bi (λh1=>?_) λh1=>?_
   .have Qj:uM (some t)=(4,0,t.text):=ak4 h1;refine w.ld1 0 Y Y<|w.aV H7 λh4 w=>?_;intro b4 h5 g5;have w:=w.new g5;refine w.app 3 Y jb pI Y (by rw[Qj]at iB;exact SL.one jb (x:=(4,0,t.text)) (w.get 0 Y)) (by simp only[al1];omega) λv' h6 w=>?_;rw[<-Qj,<-iB]at w;have w:=w.pick [3,4,5] Dd;exact Az<|Ai Y (Ei (q+1,v') (Ai J6 (Ai ⟨ah,w⟩ Yo)))
   .intro b4 h4 g4;have w:=w.new g4;refine w.app 3 Y jb pI Y (Su (akZ h1) w) (by simp only[al1];omega) λv' h5 w=>?_;rw[<-iB]at w;have w:=w.pick [3,4,5] Dd;exact Az<|Ai Y (Ei (q+1,v') (Ai J6 (Ai ⟨ah,w⟩ Yo)))
 .have aZ:q=A.length:=V
  subst aZ;exact w.aV Nv λh4 w=>w.st1 1 Y Y Y Y λh5 w=>x.gv w 1 2 0 Y Y Y Dd (by rw[alm])
def adW(x:AS h0 h ab kb now av A lv [])(bW:KR h0 kb sb mb c m)(hs:bT m S)(hn:S.length<65537):aj Tryz.prog 184 [ptr ab] h (fq h0 h ab kb now av A lv (IF S now A)):=by
 refine f184.c ?_;intro b2 h1 g1;have w:=x.st.new g1;refine x.many w 1 Y (λaN _=>?_) (λhb=>x.bad w (yA hb));obtain rfl:=Aj aN;rw[show IF S now []=.ok (⟨5,0,au,(jy now S).map λs=>(4,0,s)⟩,[])from Y];refine w.cw 1 Y Y<|w.cw 1 Y Y<|w.call (NL now (bW.ext (x.base w)) hs) λr h2 hr w=>?_;have oR:(jy now S).length<=65536:=by
  have:=Dw (now:=now) (S:=S);omega
 generalize hL:jy now S=L at hr oR⊢;obtain⟨a,cc,rfl,_⟩:=hr.form;have u:=(St.start h2).empty (enc:=bR) (size:=4);refine bA (λq:Nat×Value=>[(0,ptr ab),(2,ptr b2),(3,q.2),(16,.slice a L.length cc),(17,.int .i64 L.length),(18,.int .i64 q.1)])
  (λq h'=>q.1<=L.length∧St [] h2 h' [.o bR 4 q.2 ((L.take q.1).map λs=>(4,0,s))])
  (λq=>L.length-q.1) (0,.slice none 0 0) J6 ⟨ak8 _,u⟩ ?_
 rintro⟨q,v⟩ h3 ⟨hq,u⟩;obtain⟨a3,c3,rfl,_⟩:=(show OL bR 4 h3 v ((L.take q).map λs=>(4,0,s))from u.get 0 Y).sl.form;have hq:q<=L.length:=hq;refine Bi (λah=>?_) λcp=>?_
 .have ah:q<L.length:=V
  have iB:=AO (λs:BA=>((4:Int),(0:Int),s)) L q ah;have fK:((L.take q).map λs:BA=>((4:Int),(0:Int),s)).length<=65536:=by simp;omega
  obtain⟨b,o,rfl⟩:=hr.addr V;have aI:=(hr.ext u.ae).cells bj (akU ah);refine Ai V (Ai V (Ei _ (Ai (by simpa using aI 0 _ Y) ?_)));refine u.aV H7 λh4 u=>?_;intro b4 h5 g5;have u:=u.new g5;refine u.app 1 Y jb pI Y (SL.one jb (x:=(4,0,L[q])) (u.get 0 Y)) (by simp only[al1];omega) λv' h6 u=>?_;rw[<-iB]at u;have u:=u.pick [1] Dd;exact Az<|Ai Y (Ei (q+1,v') (Ai J6 (Ai ⟨ah,u⟩ Yo)))
 .have aZ:q=L.length:=V
  subst aZ;have w:=w.add u.ae (u.get 0 Y) (λb hb=>by
   rcases(u.ents 0 _ rfl).2 b hb with h1|h1
   .cases h1
   .exact h1)
  exact w.aV Nv λh4 w=>w.st1 1 Y Y Y Y λh5 w=>x.gv w 1 2 0 Y Y Y Dd (by rw[alm])
end
end Go.Proofs.YtocgmipngoiieaaGreatDoor
namespace Go.Proofs.YtocgmipngoiieaaGreatDoor
open Go Go.Sx C
section
variable {h0 h:af}{ab kb sb mb c:Nat}{now n:Int}{av lv:Value}{A:List BA}{m:List KI}{S:aH}
def O1{k:BA}:∀{L pre:List BA},gq S now pre (L++[k])=gq S now pre L++(if here S now k=true∧k∉pre++L then[iS k]else[])
 |[],pre=>by simp[gq]
 |x::L,pre=>by
  simp only[amK,gq];rw[O1 (L:=L) (pre:=pre++[x])];simp[alG]
def O3{q:Nat}(hq:q<A.length):gq S now [] (A.take (q+1))=gq S now [] (A.take q)++(if here S now A[q]=true∧A[q]∉A.take q then[iS A[q]]else[]):=by
 rw[alI hq,O1];rfl
def Fx:∀{L pre:List BA},(gq S now pre L).length<=L.length
 |[],pre=>ali _
 |x::L,pre=>by
  have:=Fx (L:=L) (pre:=pre++[x]);simp only[gq,ak1,ak0];split<;>simp<;>omega
def Yk(x:AS h0 h ab kb now av A lv [])(bW:KR h0 kb sb mb c m)(hs:bT m S):aj Tryz.prog 169 [ptr ab] h (fq h0 h ab kb now av A lv (E4 S now A)):=by
 refine f169.c ?_;intro b2 h1 g1;have w:=x.st.new g1;refine x.many w 1 Y (λaN _=>?_) (λhb=>x.bad w (ve hb));obtain⟨b,o,cc,rfl⟩:=x.cz V;rw[show E4 S now A=.ok (bO (gq S now [] A).length,gq S now [] A)from vf aN];intro zY h2 g2;have w:=w.Ag g2;refine w.cw 2 Y Y<|bA (λq:Nat=>[(0,ptr ab),(2,ptr b2),(3,.map (some zY)),(4,.int .i64 (gq S now [] (A.take q)).length),(15,.slice (some ⟨b,o,none⟩) A.length cc),(16,.int .i64 A.length),(17,.int .i64 q)])
  (λq h'=>q<=A.length∧∃es c' aY,CM es (A.take q)∧St (ab::aq lv) h h' [.m zY es c',.b b2 zR,iN ab kb now (.slice (some ⟨b,o,none⟩) A.length cc) aY (gq S now [] (A.take q))])
  (λq=>A.length-q) 0 J7 ⟨ak8 _,[],0,lv,CM.nil,w⟩ ?_
 rintro q h3 ⟨hq,es,c',aY,cm,w⟩;refine Bi (λah=>?_) λcp=>?_
 .have ah:q<A.length:=V
  have kh:=O3 (S:=S) (now:=now) ah;have wI:=Fx (S:=S) (now:=now) (L:=A.take q) (pre:=[]);have wI:(gq S now [] (A.take q)).length<=q:=al6 wI Ys;have ej:A.take (q+1)=A.take q++[A[q]]:=alI ah;have dE:jU A[q] (A.take q)<=q:=al6 IX Ys;refine x.ix (x.base w) q Y (akU ah) ?_;rcases cm.cnt A[q]with⟨e1,hn⟩|⟨j,e1,hm⟩
  .have Jw:jU A[q] (A.take q)=0:=Fm hn;refine Ai Y (Ei es (Ei c' (Ai (w.get 0 Y) (Ai cm.fits ?_))));rw[e1];refine Ai Y (λz hz=>?_);have hz:z=1:=by have:=cd hz V V;omega
   subst hz;refine Ai Y (Ei es (Ei c' (Ai (w.get 0 Y) (Ai cm.fits ?_))));rw[e1];intro h4 p4;have w:=w.iG 0 Y p4;have cm:=cm.DT (c:=c') e1 hn Y;obtain⟨j2,e2⟩:=cm.hit;rw[<-ej]at cm;refine Ai Y (Ei _ (Ei _ (Ai (w.get 0 Y) (Ai cm.fits ?_))));rw[e2];refine Ai Y (Ai (λh9=>absurd h9 (by rw[Jw];decide)) (λ_=>w.cw 2 Y Y<|w.cw 2 Y Y ?_));refine uN w (x.uO bW hs w A[q]) [(0,ptr ab),(2,ptr b2),(3,.map (some zY)),(4,.int .i64 (gq S now [] (A.take q)).length),(6,.string A[q]),(15,.slice (some ⟨b,o,none⟩) A.length cc),(16,.int .i64 A.length),(17,.int .i64 q)] Y Y Y
    J8 Y (kA (kB (nz (z8 (kB (nz eV)))))) λh5 b3 pv lw rv w=>?_
   rw[show here S now A[q]=(aC S A[q] now).isSome from Y]at kh;generalize aC S A[q] now=go at w kh⊢;cases go with
   |none=>
    have w:=w.pick [2,3,4] Dd;rw[akZ Yy,amA]at kh;rw[<-kh]at w;refine Az<|Ai Y (Ei (q+1) (Ai ⟨Y,Y,Y,?_,Y,Y,Y,trivial⟩ (Ai ⟨ah,_,_,_,cm,w⟩ V)));rw[kh];rfl
   |some t=>
    rw[ak4 ⟨Y,hn⟩]at kh;refine Az ?_;intro b5 h6 g6;have w:=w.new g6;refine x.add w 5 Y (iI (e:=iS A[q]) (w.get 0 Y)) (by simp only[al1];omega) λ_ h7 dG w=>?_;have w:=w.pick [3,4,5] Dd;rw[<-kh]at w;refine Az<|Ai Y (Ei (q+1) (Ai ⟨Y,Y,Y,?_,Y,Y,Y,trivial⟩ (Ai ⟨ah,_,_,_,cm,w⟩ V)));rw[kh,ak1];rfl
  .have iC:0<jU A[q] (A.take q):=IY hm;rw[akZ (λh=>h.2 hm),amA]at kh;refine Ai Y (Ei es (Ei c' (Ai (w.get 0 Y) (Ai cm.fits ?_))));rw[e1];refine Az<|Ai Y (Ei es (Ei c' (Ai (w.get 0 Y) (Ai cm.fits ?_))));rw[e1];intro h4 p4;have w:=w.iG 0 Y p4;have cm:=cm.DU e1 Y;obtain⟨j2,e2⟩:=cm.hit;rw[<-ej]at cm;refine Ai Y (Ei _ (Ei _ (Ai (w.get 0 Y) (Ai cm.fits ?_))));rw[e2];refine Ai Y (Ai (λ_=>?_) (λh9=>absurd h9 Ys));rw[<-kh]at w;refine Az<|Ai Y (Ei (q+1) (Ai ⟨Y,Y,Y,?_,Y,Y,Y,trivial⟩ (Ai ⟨ah,_,_,_,cm,w⟩ V)));rw[kh];rfl
 .have aZ:q=A.length:=V
  subst aZ;rw[alm]at w⊢;exact w.aV mK λh4 w=>w.st1 1 Y Y Y Y λh5 w=>x.fin w 1 2 Y Y Y
def Lu{k s:BA}{r pre:List BA}{E:List aA}:aln S now pre (k::s::r) E=(if s.size<=1048576∧k.size<=1048576 then aln S now (pre++[k]) r (E++((if k∈pre then[]else cV S k now)++[kX k s]))else .error lX):=rfl
def Pg{q:Nat}(h:q+1<A.length):A.drop q=A[q]::A[q+1]::A.drop (q+2):=by
 rw[alx V,alx h]
def adS(x:AS h0 h ab kb now av A lv [])(bW:KR h0 kb sb mb c m)(hs:bT m S)(hA:∀s∈A,s.size<281474976710656):aj Tryz.prog 180 [ptr ab] h (fq h0 h ab kb now av A lv (Fa S now A)):=by
 refine f180.c ?_;intro b2 h1 g1;have w:=x.st.new g1;refine x.many w 1 Y (λaN _=>?_) (λhb=>x.bad w (ve hb));obtain⟨b,o,cc,rfl⟩:=x.cz V;rw[show Fa S now A=(if A.length%2=0 then aln S now [] A []else .error cX)from vf aN];refine w.cw 1 Y Y<|Ai Y (Ai Dd (λz hz=>?_));have hz:z=((A.length%2:Nat):Int):=by rw[hz];exact(anT A.length 2).symm
 subst hz;refine Ai Y (Ai (λjw=>tU λ_=>?_) (λgZ=>tT (x.bad w (akZ V))));have jw:A.length%2=0:=V
 rw[ak4 jw];intro zY h2 g2;have w:=w.Ag g2;refine bA (λq:Nat=>[(0,ptr ab),(2,ptr b2),(3,.map (some zY)),(4,.int .i64 (2*q:Nat))])
  (λq h'=>2*q<=A.length∧∃es c' aY pre E,CM es pre∧pre.length=q∧E.length<=2*q∧aln S now [] A []=aln S now pre (A.drop (2*q)) E∧
   St (ab::aq lv) h h' [.m zY es c',.b b2 zR,iN ab kb now (.slice (some ⟨b,o,none⟩) A.length cc) aY E])
  (λq=>A.length-2*q) 0 J4 ⟨ak8 _,[],0,lv,[],[],CM.nil,Y,ali _,Y,w⟩ ?_
 rintro q h3 ⟨hq,es,c',aY,pre,E,cm,pS,Jz,heq,w⟩;rw[heq];refine w.cw 2 Y Y<|Bi (λah=>?_) λcp=>?_
 .have ah:2*q<A.length:=V
  have qP:2*q+1<A.length:=V
  have fX:=Pg qP;have akq:A.drop (2*(q+1))=A.drop (2*q+2):=rfl;rw[fX,Lu]at heq⊢;have pO:=hA A[2*q] (ak9 _);have dd:=hA A[2*q+1] (ak9 _);generalize hk:A[2*q]=k at heq pO⊢;generalize oe:A[2*q+1]=s at heq dd⊢;have dE:jU k pre<=q:=al6 IX V;refine w.cw 2 Y Y<|x.ix (x.base w) (2*q) Y (by rw[akU ah,hk]) ?_;refine w.cw 2 Y Y<|Az<|x.ix (x.base w) (2*q+1) Yy (by rw[akU qP,oe]) ?_;refine Ai Y (Ai (λh9=>Ai Y (Ai (λh8=>tU λ_=>?_) (λh8=>tT (x.bad w (akZ (λhh=>h8 V)))))) (λh9=>tT (x.bad w (akZ (λhh=>h9 V)))));rw[ak4 ⟨V,V⟩]at heq⊢;rcases cm.cnt k with⟨e1,hn⟩|⟨j,e1,hm⟩
  .have Jw:jU k pre=0:=Fm hn;rw[akZ hn]at heq⊢;refine Ai Y (Ei es (Ei c' (Ai (w.get 0 Y) (Ai cm.fits ?_))));rw[e1];refine Ai Y (λz hz=>?_);have hz:z=1:=by have:=cd hz V V;omega
   subst hz;refine Ai Y (Ei es (Ei c' (Ai (w.get 0 Y) (Ai cm.fits ?_))));rw[e1];intro h4 p4;have w:=w.iG 0 Y p4;have cm:=cm.DT (c:=c') e1 hn Y;obtain⟨j2,e2⟩:=cm.hit;refine Ai Y (Ei _ (Ei _ (Ai (w.get 0 Y) (Ai cm.fits ?_))));rw[e2];refine Ai Y (Ai (λ_=>w.cw 2 Y Y (w.cw 2 Y Y ?_)) (λh7=>absurd (by rw[Jw];rfl) h7));have dl:=mS S k now;refine akV (H4 k now (bW.ext (x.base w)) hs) ?_;rintro rd h5 ⟨od,oK,c5⟩;have w:=w.ext c5;refine x.add w 2 Y od.sl V λ_ h6 dG w=>?_;intro b5 h7 g7;have w:=w.new g7;refine x.add w 3 Y (iI (e:=kX k s) (w.get 0 Y)) (by simp only[al1,ak1];omega) λ_ h8 Ln w=>?_;have w:=w.pick [1,2,3] Dd;rw[alG]at w;exact Az<|Ai Y (Ei (q+1) (Ai J4 (Ai ⟨V,_,_,_,_,_,cm,by simp[pS],by simp only[ak1,al1];omega,Y,w⟩ V)))
  .have iC:0<jU k pre:=IY hm;rw[ak4 hm,anD]at heq⊢;refine Ai Y (Ei es (Ei c' (Ai (w.get 0 Y) (Ai cm.fits ?_))));rw[e1];refine Az<|Ai Y (Ei es (Ei c' (Ai (w.get 0 Y) (Ai cm.fits ?_))));rw[e1];intro h4 p4;have w:=w.iG 0 Y p4;have cm:=cm.DU e1 Y;obtain⟨j2,e2⟩:=cm.hit;refine Ai Y (Ei _ (Ei _ (Ai (w.get 0 Y) (Ai cm.fits ?_))));rw[e2];refine Ai Y (Ai (λh7=>absurd h7 Ys) (λ_=>?_));intro b5 h7 g7;have w:=w.new g7;refine x.add w 3 Y (iI (e:=kX k s) (w.get 0 Y)) (by simp only[al1];omega) λ_ h8 Ln w=>?_;have w:=w.pick [1,2,3] Dd;exact Az<|Ai Y (Ei (q+1) (Ai J4 (Ai ⟨V,_,_,_,_,_,cm,by simp[pS],by simp only[ak1,al1];omega,Y,w⟩ V)))
 .have aZ:A.drop (2*q)=[]:=am4 V;rw[aZ];exact w.aV AZ λh4 w=>w.st1 1 Y Y Y Y λh5 w=>x.fin w 1 2 Y Y Y
end
end Go.Proofs.YtocgmipngoiieaaGreatDoor
namespace Go.Proofs.YtocgmipngoiieaaGreatDoor
open Go Go.Sx C
section
variable {h0 h h1 h':af}{xb i:Nat}{now n:Int}{kv av lv:Value}{k:List RX}{A B:List BA}{L:List aA}{why key s:BA}{M:List En}{T:List Nat}{res:aM}
def Ul{st u:Nat}(c:dT h0 kv k av A)(x:As h0 h (akY xb [] kv now av lv L why))(hB:∀j(hj:j<B.length),A[st*j]? =some B[j])(hu:u=st*B.length)(eU:st=1∨st=2)(hl:B.length<=65536):aj Tryz.prog 117 [ptr xb,.string key,.int .i64 u,.int .i64 st] h (ao λr h'=>r=.bool (decide (key∈B))∧h'=h):=by
 refine f117.c ?_;have w:=x.st;refine bA (λq:Nat=>[(0,ptr xb),(1,.string key),(2,.int .i64 u),(3,.int .i64 st),(9,.int .i64 (st*q:Nat))]) (λq h'=>q<=B.length∧h'=h∧key∉B.take q) (λq=>B.length-q) 0 J5 ⟨ak8 _,Y,Yy⟩ ?_;rintro q h' ⟨hq,e,bw⟩;have e:=e.symm;subst e;have acH:st*(q+1)=st*q+st:=by rw[Nat.mul_succ]
 refine Bi (λah=>?_) λcp=>?_
 .have ah:q<B.length:=by rcases eU with rfl|rfl<;>omega
  have hA:=hB q ah;have hqa:=(ak7.1 hA).1;obtain⟨b,o,cc,rfl⟩:=c.cz V;have ej:B.take (q+1)=B.take q++[B[q]]:=alI ah;refine w.aG 0 Y Y<|c.ix (x.base w) (st*q) Y hA<|Ai (λhe=>?_) (λax=>?_)
  .have he:B[q]=key:=he;have hm:key∈B:=he▸ak9 ah;exact Ai (by rw[ale hm];rfl) Y
  .have ax:¬B[q]=key:=ax;refine Ai Y (λz hz=>?_);have hz:=cd hz V (by rcases eU with rfl|rfl<;>omega);subst hz;refine Ai Y (Ei (q+1) (Ai ⟨Y,Y,Y,Y,?_,trivial⟩ (Ai ⟨ah,Y,?_⟩ V)))
   .show some (Value.int .i64 ((st*q:Nat)+(st:Int)))=some (.int .i64 ((st*(q+1):Nat):Int));rw[acH];rfl
   .rw[ej];intro hm;rcases alf.1 hm with hm|hm
    .exact bw hm
    .exact ax (alE.1 hm).symm
 .have aZ:q=B.length:=by rcases eU with rfl|rfl<;>omega
  subst aZ;rw[alm]at bw;exact Ai (by rw[alg bw];rfl) Y
def aff(c:dT h0 kv k av A)(x:As h0 h (akY xb [] kv now av lv [] au))(hA:∀a∈A,a.size<281474976710656)(hl:A.length<=65536):aj Tryz.prog 74 [ptr xb,.bool false] h
  (ao (bZ h0 h xb kv now av lv (.ok (bO (A.countP (here (k.map RX.pr) now)),[])))):=by
 refine f74.c ?_;intro b4 h1 g1;have w:=x.st.new g1;refine bA (λq:Nat=>[(0,ptr xb),(1,.bool false),(4,ptr b4),(5,.int .i64 ((A.take q).countP (here (k.map RX.pr) now))),(6,.int .i64 q)])
  (λq h'=>q<=A.length∧St (xb::aq lv) h h' [.b b4 zR,akY xb [] kv now av lv [] au]) (λq=>A.length-q) 0 J5 ⟨ak8 _,w⟩ ?_
 rintro q h2 ⟨hq,w⟩;obtain⟨a0,mP,rfl⟩:=c.argN;refine w.aG 1 Y Y<|Bi (λah=>?_) λcp=>?_
 .have ah:q<A.length:=V
  obtain⟨b,o,cc,e⟩:=c.cz V;obtain⟨rfl,rfl⟩:a0=some ⟨b,o,none⟩∧mP=cc:=by cases e;exact⟨Y,Y⟩
  have oL:=Vo (here (k.map RX.pr) now) A q ah;have hle:(A.take q).countP (here (k.map RX.pr) now)<=q:=al6 aoj Ys;have aS:=hA A[q] (ak9 ah);refine w.aG 1 Y Y<|w.aG 1 Y Y<|c.ix (x.base w) q Y (akU ah)<|w.aG 1 Y Y<|qB w (c.aC (x.base w) A[q] V) [(0,ptr xb),(1,.bool false),(4,ptr b4),(5,.int .i64 ((A.take q).countP (here (k.map RX.pr) now))),(6,.int .i64 q)] Y Y Y J5 Y
   (kA (kB (nz (z8 (kB (nz eV)))))) λh3 b7 pv lw rv w _ _=>?_
  rw[show here (k.map RX.pr) now A[q]=(aC (k.map RX.pr) A[q] now).isSome from Y]at oL;generalize (aC (k.map RX.pr) A[q] now).isSome=bo at oL⊢;generalize (aC (k.map RX.pr) A[q] now).getD aL=t at w;have w':=w.pick [1,2] Dd;cases bo with
  |false=>
   refine Az<|Ai Y (Ei (q+1) (Ai ⟨Y,Y,Y,?_,Y,trivial⟩ (Ai ⟨ah,w'⟩ V)));rw[oL];rfl
  |true=>
   refine Az<|Az<|Ai Y (Ei (q+1) (Ai ⟨Y,Y,Y,?_,Y,trivial⟩ (Ai ⟨ah,w'⟩ V)));rw[oL];rfl
 .have aZ:q=A.length:=V
  subst aZ;rw[alm];exact w.aV eZ λh4 w=>w.st1 0 Y Y Y Y λh5 w=>bZ.fin (j:=0) x w 0 1 Y Y (Jd.ok Y)
def ae3(c:dT h0 kv k av A)(x:As h0 h (akY xb [] kv now av lv [] au))(hA:∀a∈A,a.size<281474976710656)(hl:A.length<=65536):aj Tryz.prog 74 [ptr xb,.bool true] h
  (ao (bZ h0 h xb kv now av lv (.ok (bO (gq (k.map RX.pr) now [] A).length,gq (k.map RX.pr) now [] A)))):=by
 refine f74.c ?_;intro b4 h1 g1;have w:=x.st.new g1;refine bA (λq:Nat=>[(0,ptr xb),(1,.bool true),(4,ptr b4),(5,.int .i64 (gq (k.map RX.pr) now [] (A.take q)).length),(6,.int .i64 q)])
  (λq h'=>q<=A.length∧∃aY,St (xb::aq lv) h h' [.b b4 zR,akY xb [] kv now av aY (gq (k.map RX.pr) now [] (A.take q)) au]) (λq=>A.length-q) 0 J5 ⟨ak8 _,lv,w⟩ ?_
 rintro q h2 ⟨hq,aY,w⟩;obtain⟨a0,mP,rfl⟩:=c.argN;refine w.aG 1 Y Y<|Bi (λah=>?_) λcp=>?_
 .have ah:q<A.length:=V
  obtain⟨b,o,cc,e⟩:=c.cz V;obtain⟨rfl,rfl⟩:a0=some ⟨b,o,none⟩∧mP=cc:=by cases e;exact⟨Y,Y⟩
  have kh:=O3 (S:=k.map RX.pr) (now:=now) ah;have wI:=Fx (S:=k.map RX.pr) (now:=now) (L:=A.take q) (pre:=[]);have wI:(gq (k.map RX.pr) now [] (A.take q)).length<=q:=al6 wI Ys;have aS:=hA A[q] (ak9 ah);refine w.aG 1 Y Y<|w.aG 1 Y Y<|c.ix (x.base w) q Y (akU ah)<|w.aG 1 Y Y<|qB w (c.aC (x.base w) A[q] V) [(0,ptr xb),(1,.bool true),(4,ptr b4),(5,.int .i64 (gq (k.map RX.pr) now [] (A.take q)).length),(6,.int .i64 q)] Y Y Y J5 Y
   (kA (kB (nz (z8 (kB (nz eV)))))) λh3 b7 pv lw rv w _ _=>?_
  rw[show here (k.map RX.pr) now A[q]=(aC (k.map RX.pr) A[q] now).isSome from Y]at kh;generalize (aC (k.map RX.pr) A[q] now).isSome=bo at kh⊢;generalize (aC (k.map RX.pr) A[q] now).getD aL=t at w;have skip:(¬(bo=true∧A[q]∉A.take q))->∀{h4:af},St (xb::aq lv) h h4 [.b b4 zR,akY xb [] kv now (.slice (some ⟨b,o,none⟩) A.length mP) aY (gq (k.map RX.pr) now [] (A.take q)) au]->
    gq (k.map RX.pr) now [] (A.take (q+1))=gq (k.map RX.pr) now [] (A.take q)∧∃aY,St (xb::aq lv) h h4 [.b b4 zR,akY xb [] kv now (.slice (some ⟨b,o,none⟩) A.length mP) aY (gq (k.map RX.pr) now [] (A.take (q+1))) au]:=λhn{h4}w=>by
   rw[akZ hn,amA]at kh;rw[kh];exact⟨Y,_,w⟩
  cases bo with
  |false=>
   obtain⟨e1,w'⟩:=skip Yy (w.pick [1,2] Dd);refine Az<|Ai Y (Ei (q+1) (Ai ⟨Y,Y,Y,?_,Y,trivial⟩ (Ai ⟨ah,w'⟩ V)));rw[e1];rfl
  |true=>
   refine w.aG 2 Y Y<|c.ix (x.base w) q Y (akU ah) ?_;refine dN (Ul (st:=1) (u:=q) (B:=A.take q) c (x.out w 2 Y).1 (λj hj=>by
    have hj':j<q:=by simp at hj;omega
    rw[Nat.one_mul,anl,akU V]) Ys (.inl Y) Ys) ?_
   by_cases hm:A[q]∈A.take q
   .rw[ale hm];obtain⟨e1,w'⟩:=skip (λhh=>hh.2 hm) (w.pick [1,2] Dd);refine Az<|Ai Y (Ei (q+1) (Ai ⟨Y,Y,Y,?_,Y,trivial⟩ (Ai ⟨ah,w'⟩ V)));rw[e1];rfl
   .rw[alg hm];rw[ak4 ⟨Y,hm⟩]at kh;obtain⟨la,lc,rfl⟩:=w.mB 2 Y;refine Az<|w.aG 2 Y Y<|w.aG 2 Y Y<|c.ix (x.base w) q Y (akU ah) ?_;intro b8 h4 g4;have w:=w.new g4;refine w.pd 3 Y Y (iI (e:=iS A[q]) (w.get 0 Y)) (by simp only[ak0,aly];omega) λa5 c5 h5 eU=>?_;refine eU λh6 w=>?_;have w:=w.pick [2,3] Dd;rw[<-kh]at w;refine Az<|Ai Y (Ei (q+1) (Ai ⟨Y,Y,Y,?_,Y,trivial⟩ (Ai ⟨ah,_,w⟩ V)));rw[kh,ak1];rfl
 .have aZ:q=A.length:=V
  subst aZ;rw[alm]at w⊢;exact w.aV eZ λh4 w=>w.st1 0 Y Y Y Y λh5 w=>bZ.fin (j:=0) x w 0 1 Y Y (Jd.ok Y)
end
end Go.Proofs.YtocgmipngoiieaaGreatDoor
