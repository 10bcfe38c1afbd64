/-
  Part 5 of the proof of CommandsRun.
-/
import Derived.Test.YtocgmipngoiieaaGreatDoorProg
import Derived.Test.YtocgmipngoiieaaGreatDoorZXD
set_option linter.defProp false
set_option linter.unusedVariables false
set_option linter.unusedSimpArgs false
namespace Go.Proofs.YtocgmipngoiieaaGreatDoor.K5
open Go Go.Sx Go.Proofs.YtocgmipngoiieaaGreatDoor C
def pv:Option Nd->Value
 |some b=>ptr b.mb
 |none=>.pointer none
def Ll{h:af}:∀{N:List Nd}{k i:Nat}{a:Nd},(∀a∈N,1<=a.ht)->ke h 0 (cB 0 k N)->N[i]? =some a->∃w,link h a 0 (pv N[i+1]?) w
 |[],k,i,a,_,_,h=>by simp at h
 |x::N,k,i,a,hp,hL,h=>by
  have hx:=hp x Yy;have KQ:0<x.ht:=V
  simp only[cB,KQ,anB]at hL;cases i with
  |zero=>
   simp at h;subst h;cases N with
   |nil=>exact hL.1
   |cons y N=>
    have hy:=hp y Yy;have hy0:0<y.ht:=V
    simp only[cB,hy0,anB]at hL;exact⟨_,hL.1⟩
  |succ i=>
   have:=Ll (k:=k+1) (i:=i) (a:=a) (λb hb=>hp b (by simp[hb])) hL.2 (by simpa using h);simpa using this
def VP(gi gc:Array Value)(g:Nat)(h:af)(S:List aF)(E:Nat):Prop:=
 ∀h' k a,ag [] h h'->S[k]? =some a->aj Tryz.prog g (gi.toList++[.agg ⟨aK a⟩,.int .i64 k]++gc.toList) h' (ao λu bq=>u=.bool (decide (k<E))∧ag [] h' bq)
def PF{h:af}{rb bE f g:Nat}{fi cap gi gc:Array Value}{N:List Nd}{S:List aF}(rk:RK h rb bE N S){K E:Nat}(hK:K<=S.length)(hP:Er fi cap f h N (K+1))(hW:VP gi gc g h S E):aj Tryz.prog 315 [ptr rb,.func (.func f) fi cap,.func (.func g) gi gc] h (ao λu h'=>OL aK 2 h' u ((S.drop K).take (E-K))∧ag [] h h'∧∀b∈aq u,h.size<=b):=by
 obtain⟨qH,Dz,sO,CD,jZ⟩:=rk.rd.r;have FZ:=rk.len;have akn:=rk.rd.len;obtain⟨hN,y',⟨hd,A',wC,Jy⟩,FY⟩:=uf rk hK;have FV:N.take (K+1)≠[]:=by rw[wC];simp
 have lF:∀k,N[k+1]?.map Nd.r=S[k]? :=by
  intro k;rw[<-rk.isS,sO];simp[pf]
 refine f315.c<|akV (q9 jZ) ?_;rintro _ h1 ⟨rfl,rfl⟩;refine akV (I9 rk.rd hN FV (by rw[y'];exact hP)) ?_;rintro _ h2 ⟨pb,rfl,hpb,⟨pl,Bp,zC⟩,aO⟩;have qe:=rk.ext aO;obtain⟨p0,i0,zr,acm,CY⟩:=zC 0 V;have F9:i0=K:=by
  have:=Lh (λa ha=>(rk.rd.ok a (aom ha)).pos) zr;omega
 subst F9;have QM:N[i0]? =some p0:=by
  have h1:=zr.get.2;rw[aox]at h1;split at h1
  .exact h1
  .simp at h1
 have SE:=qe.rd.ok p0 (al9 QM);obtain⟨w0,tj⟩:=Ll (λa ha=>(qe.rd.ok a ha).pos) (qe.rd.lv 0 V) QM;have iC:=SE.pos;refine Ai Dd (Ai Dd (Ei (.int .i64 i0) (Ai (an Bp CY)<|Ai Dd (Ai Dd (Ei (ptr p0.mb) (Ai (an Bp acm)<|Ei _ (Ai (an SE.m Y)<|Ai Dd (Ai V (Ei _ (Ai tj.1 ?_))))))))));refine bA (λx:Nat×Value×Option Nd=>[(2,.func (.func g) gi gc),(7,x.2.1),(9,.int .i64 x.1),(10,pv x.2.2)])
  (λx h'=>i0<=x.1∧x.1<=S.length∧x.1<=max E i0∧ag [] h1 h'∧OL aK 2 h' x.2.1 ((S.drop i0).take (x.1-i0))∧(∀b∈aq x.2.1,h1.size<=b)∧x.2.2=N[x.1+1]?) (λx=>S.length-x.1) (i0,.slice none 0 0,N[i0+1]?)
  J4 ⟨ali _,hK,by simp only;omega,aO,by simp only[apa,List.take_zero];exact OL.nil,by simp[aq,bG],Y⟩ ?_
 rintro⟨k,ov,q⟩ h3 ⟨bP,hk,hkE,bB,ho,hb,hq⟩;simp only at bP hk hkE ho hb hq;have rk3:=rk.ext bB;have fin:∀h4,ag [] h3 h4->(k=S.length∨¬k<E)->OL aK 2 h4 ov ((S.drop i0).take (E-i0))∧ag [] h1 h4∧∀b∈aq ov,h1.size<=b:=by
  intro h4 dw jY;refine⟨?_,bB.nil dw,hb⟩;have e:(S.drop i0).take (E-i0)=(S.drop i0).take (k-i0):=by
   rcases jY with h|h
   .by_cases hE:E<=k
    .have:E-i0=k-i0:=V
     rw[this]
    .rw[amo Ys,amo Ys]
   .have:E-i0=k-i0:=V
    rw[this]
  rw[e];exact ho.ext dw
 cases q with
 |none=>
  have Qr:k=S.length:=by
   have:=List.getElem?_eq_none_iff.1 hq.symm;omega
  exact fin h3 (ag.refl h3) (Or.inl Qr)
 |some b=>
  have ze:=hq.symm;have SH:=rk3.rd.ok b (al9 ze);have JF:S[k]? =some b.r:=by rw[<-lF k,ze];rfl
  have Qr:k<S.length:=(ak7.1 JF).1;refine Ei (aK b.r) (Ai Y (Ai (BF (l:=b.row) SH.m ?_) ?_))
  .intro j v hj;rw[amJ];unfold Nd.row;rw[amM (ak7.1 hj).1];exact hj
  refine akV (hW h3 k b.r bB JF) ?_;rintro _ h4 ⟨rfl,dw⟩;by_cases Kf:k<E
  .rw[ale Kf];have aec:=SH.ext dw;refine Ei (aK b.r) (Ai Y (Ai (BF (l:=b.row) aec.m ?_) ?_))
   .intro j v hj;rw[amJ];unfold Nd.row;rw[amM (ak7.1 hj).1];exact hj
   intro b5 h5 g5;have dS:=(ho.ext dw).ext g5.ae;have akD:((S.drop i0).take (k-i0)).length=k-i0:=by simp;omega
   obtain⟨a5,c5,rfl,hoc⟩:=dS.sl.form;refine dZ dm ly Y dS (SL.one dm g5.blk) Ys ?_;intro v' h6 ho6 iz dD;have Qb:ag [] h1 h6:=((bB.nil dw).nil g5.ae).fresh iz λk' fZ=>hb k' fZ;refine Az ?_;have jL:=rk.ext Qb;have ams:=jL.rd.ok b (al9 ze);obtain⟨wb,Kg⟩:=Ll (λa ha=>(jL.rd.ok a ha).pos) (jL.rd.lv 0 V) ze;have akF:=ams.pos;refine Ei _ (Ai (an ams.m Y)<|Ai Dd (Ai V (Ei _ (Ai Kg.1<|Ai Y (Ei (k+1,v',N[k+1+1]?) (Ai ?_ (Ai ?_ ?_)))))))
   .exact J4
   .refine⟨by simp only;omega,by simp only;omega,by simp only;omega,Qb,?_,λb' bh=>?_,Y⟩
    .have e:(S.drop i0).take (k+1-i0)=(S.drop i0).take (k-i0)++[b.r]:=by
      have h1:k+1-i0=(k-i0)+1:=V
      have h2:(S.drop i0)[k-i0]? =some b.r:=by
       rw[List.getElem?_drop];have:i0+(k-i0)=k:=V
       rw[this];exact JF
      rw[h1,List.take_add_one,h2];rfl
     rw[e];exact ho6
    .rcases dD b' bh with h|h
     .exact hb b' h
     .have:=bB.size;have:=dw.size;have:=g5.size;omega
   .simp only;omega
  .rw[alg Kf];exact fin h4 dw (Or.inr Kf)
def U2(F U:Nat):∀(l:List aF)(j:Nat),mE (λ_ i=>decide (F<=i)&&decide (i<U)) l j=(l.drop (F-j)).take (U-max j F)
 |[],j=>by simp[mE]
 |x::l,j=>by
  have ih:=U2 F U l (j+1);simp only[mE,ih];by_cases h1:j<F
  .rw[akZ Ys];have e1:F-j=(F-(j+1))+1:=V
   have e2:max (j+1) F=max j F:=V
   rw[e1,List.drop_succ_cons,e2]
  .have e0:F-j=0:=V
   have e1:F-(j+1)=0:=V
   rw[e0,e1,anj,anj];by_cases h2:j<U
   .rw[ak4 Ys];have e3:U-max j F=(U-max (j+1) F)+1:=V
    rw[e3,List.take_succ_cons]
   .rw[akZ Ys];have e3:U-max j F=0:=V
    have e4:U-max (j+1) F=0:=V
    rw[e3,e4];simp
def U0{p q:aF->Nat->Bool}:∀(l:List aF)(j:Nat),(∀k(hk:k<l.length),p l[k] (j+k)=q l[k] (j+k))->mE p l j=mE q l j
 |[],j,_=>rfl
 |x::l,j,h=>by
  have h0:=h 0 Yy;simp only[an6,anv]at h0;have ih:=U0 (p:=p) (q:=q) l (j+1) λk hk=>by
   have h1:=h (k+1) (by simpa using hk);have e:j+(k+1)=j+1+k:=V
   rw[e]at h1;exact h1
  simp only[mE,h0,ih]
def MC{p:aF->Nat->Bool}{l:List aF}{K E:Nat}(h:∀k(hk:k<l.length),p l[k] k=true↔K<=k∧k<E):mE p l 0=(l.drop K).take (E-K):=by
 rw[U0 (q:=λ_ i=>decide (K<=i)&&decide (i<E)) l 0 λk hk=>by
  rw[amJ,aoT,h k hk];simp,U2]
 simp
def pre(q:aF->Bool):List aF->Nat
 |[]=>0
 |x::l=>if q x then pre q l+1 else 0
def Ti(q:aF->Bool):∀l,pre q l<=l.length
 |[]=>by simp[pre]
 |y::l=>by
  have:=Ti q l;simp only[pre];split<;>simp;omega
def Mb{q:aF->Bool}(hq:∀x y,ahead x y=true->q y=true->q x=true):∀{l:List aF},bT l->∀(k:Nat)(hk:k<l.length),q l[k]=true↔k<pre q l
 |[],_,k,hk=>by simp at hk
 |y::l,hs,0,hk=>by
  simp only[anv,pre];split<;>simp_all
 |y::l,hs,k+1,hk=>by
  have⟨h1,h2⟩:=amd.1 hs;have ih:=Mb hq h2 k (by simpa using hk);simp only[aoc,pre];split
  .rw[ih];omega
  .rename_i hy;constructor
   .intro h;exact absurd (hq _ _ (h1 _ (ak9 _)) h) hy
   .intro h;omega
def Sq{N:List Nd}{S:List aF}(hS:pf N=S){k:Nat}{a:Nd}(h:N[k+1]? =some a):S[k]? =some a.r:=by
 cases N with
 |nil=>simp at h
 |cons y N=>rw[<-hS];simp at h;simp[pf,h]
def W3{h:af}{v:Value}{S:List aF}{fp:List Nat}(rs:RS h v S fp)(f u:Int):aj Tryz.prog 286 [v,.int .i64 f,.int .i64 u] h (ao λr h'=>OL aK 2 h' r (atR f u S)∧ag [] h h'∧∀b∈aq r,h.size<=b):=by
 obtain⟨rb,bE,N,rfl,rk,rfl⟩:=rs;refine f286.c ?_;intro b1 h1 g1;intro b2 h2 g2;have hc:=g1.ae.nil g2.ae;have qe:=rk.ext hc;have B1:ai h2 b1 [.int .i64 f]:=(show ai h1 b1 [.int .i64 f]from g1.blk).ae g2.ae Yy;have B2:ai h2 b2 [.int .i64 u]:=g2.blk;have e:atR f u S=(S.drop (min f.toNat S.length)).take (u.toNat-min f.toNat S.length):=by
  unfold atR;refine MC λk hk=>?_;simp;omega
 refine akV (PF (K:=min f.toNat S.length) (E:=u.toNat) (f:=316) (g:=317) (fi:= #[]) (gi:= #[]) (cap:= #[ptr b1]) (gc:= #[ptr b2]) qe V ?_ ?_) ?_
 .intro h' k a pM hk iC;obtain⟨j,rfl⟩:∃j,k=j+1:=⟨k-1,V⟩
  have hj:=(ak7.1 (Sq rk.isS hk)).1;refine f316.c ?_;intro b3 h3 g3;refine Ei _ (Ai (an ((B1.ae pM Yy).ae g3.ae Yy) Y)<|Bi (λht=>?_) λht=>?_)
  .refine Ai ?_ g3.ae;rw[ale V];rfl
  .refine Ai ?_ g3.ae;rw[alg V];rfl
 .intro h' k a pM hk;refine f317.c ?_;intro b3 h3 g3;refine Ei _ (Ai (an ((B2.ae pM Yy).ae g3.ae Yy) Y)<|Bi (λht=>?_) λht=>?_)
  .refine Ai ?_ g3.ae;rw[ale V];rfl
  .refine Ai ?_ g3.ae;rw[alg V];rfl
 .rintro r h3 ⟨ho,bB,hb⟩;rw[e];exact Ai ho (Ai (hc.nil bB) λb bh=>by have:=hb b bh;have:=hc.size;omega)
def Xf{h:af}{v:Value}{S:List aF}{fp:List Nat}(rs:RS h v S fp)(f u:Int):aj Tryz.prog 288 [v,.int .i64 f,.int .i64 u] h (ao λr h'=>OL aK 2 h' r (EV f u S)∧ag [] h h'∧∀b∈aq r,h.size<=b):=by
 obtain⟨rb,bE,N,rfl,rk,rfl⟩:=rs;refine f288.c ?_;intro b1 h1 g1;intro b2 h2 g2;have hc:=g1.ae.nil g2.ae;have qe:=rk.ext hc;have B1:ai h2 b1 [.int .i64 f]:=(show ai h1 b1 [.int .i64 f]from g1.blk).ae g2.ae Yy;have B2:ai h2 b2 [.int .i64 u]:=g2.blk;have q1:=λk hk=>Mb (q:=λy=>decide (y.score<f)) (λx y KU hy=>by rw[Bb]at KU;simp at hy⊢;omega) rk.sorted k hk;have q2:=λk hk=>Mb (q:=λy=>decide (y.score<=u)) (λx y KU hy=>by rw[Bb]at KU;simp at hy⊢;omega) rk.sorted k hk;have l1:=Ti (λy=>decide (y.score<f)) S;have e:EV f u S=(S.drop (pre (λy=>decide (y.score<f)) S)).take (pre (λy=>decide (y.score<=u)) S-pre (λy=>decide (y.score<f)) S):=by
  unfold EV;refine MC λk hk=>?_;have h1:=q1 k hk;have h2:=q2 k hk;simp only[amm]at h1 h2;simp only[alO,amm];omega
 refine akV (PF (K:=pre (λy=>decide (y.score<f)) S) (E:=pre (λy=>decide (y.score<=u)) S) (f:=318) (g:=319) (fi:= #[]) (gi:= #[]) (cap:= #[ptr b1]) (gc:= #[ptr b2]) qe l1 ?_ ?_) ?_
 .intro h' k a pM hk iC;obtain⟨j,rfl⟩:∃j,k=j+1:=⟨k-1,V⟩
  obtain⟨hj,sY⟩:=ak7.1 (Sq rk.isS hk);have h1:=q1 j hj;rw[sY]at h1;simp only[amm]at h1;refine f318.c ?_;intro b3 h3 g3;refine Ei _ (Ai (an g3.blk Y)<|Ei _ (Ai (an ((B1.ae pM Yy).ae g3.ae Yy) Y)<|Bi (λht=>?_) λht=>?_))
  .refine Ai ?_ g3.ae;rw[ale V];rfl
  .refine Ai ?_ g3.ae;rw[alg V];rfl
 .intro h' k a pM hk;obtain⟨hj,sY⟩:=ak7.1 hk;have h2:=q2 k hj;rw[sY]at h2;simp only[amm]at h2;refine f319.c ?_;intro b3 h3 g3;refine Ei _ (Ai (an g3.blk Y)<|Ei _ (Ai (an ((B2.ae pM Yy).ae g3.ae Yy) Y)<|Bi (λht=>?_) λht=>?_))
  .refine Ai ?_ g3.ae;rw[ale V];rfl
  .refine Ai ?_ g3.ae;rw[alg V];rfl
 .rintro r h3 ⟨ho,bB,hb⟩;rw[e];exact Ai ho (Ai (hc.nil bB) λb bh=>by have:=hb b bh;have:=hc.size;omega)
end Go.Proofs.YtocgmipngoiieaaGreatDoor.K5
namespace Go.Proofs.YtocgmipngoiieaaGreatDoor
open Go Go.Sx C
namespace K5
def VF{x:aF}:∀{l:List aF},(∀y∈l,ahead y x=true)->gH x l=l.length
 |[],_=>rfl
 |y::l,h=>by
  have ih:=VF (x:=x) (l:=l) λz hz=>h z (by simp[hz]);simp only[gH];rw[ak4 (h y Yy),ih];rfl
def SB:∀{l out:List aF},(out++l).Pairwise (λa b=>cS a b=true)->((out++l).map aF.name).Nodup->(out++l).length<=65536->(∀x∈l,x.name.size<=1048576)->o9 out l=some (out++l)
 |[],out,_,_,_,_=>by simp[o9]
 |x::l,out,hs,hn,hl,hz=>by
  have e:out++x::l=(out++[x])++l:=Yy
  have bw:∀y∈out,y.name≠x.name:=λy hy he=>by
   rw[alD,amN]at hn;exact hn.2.2 y.name (als hy) x.name Yy he
  have hf:qA x.name out 0= -1:=Jg bw;have hlen:out.length<65536:=by simp at hl;omega
  have hxz:=hz x Yy;have KE:D6 out x=false:=by
   unfold D6;rw[alg V,hf,ale Dd,alg V];rfl
  have gg:gH x out=out.length:=VF λy hy=>(anb.1 hs).2.2 y hy x Yy;have tE:D8 out x=out++[x]:=by
   unfold D8 alh;rw[Pd bw,gg,alm,amE]
  unfold o9;rw[akZ (by rw[hf];decide),KE,akZ Dd,tE,SB (l:=l) (out:=out++[x]) (by rw[<-e];exact hs) (by rw[<-e];exact hn) (by rw[<-e];exact hl) (λy hy=>hz y (by simp[hy])),<-e]
def ad9{l:List aF}(hs:l.Pairwise (λa b=>cS a b=true))(hn:(l.map aF.name).Nodup)(hl:l.length<=65536)(hz:∀x∈l,x.name.size<=1048576):qb l=0∧DJ l=l:=by
 have hg:o9 [] l=some l:=SB (l:=l) (out:=[]) hs hn hl hz;have he:qb l=0:=by
  unfold qb;rw[akZ V,akZ,hg]
  .rfl
  .intro h;obtain⟨x,hx,h⟩:=aog.1 h;have:=hz x hx;have:=amy h;omega
 refine⟨he,?_⟩;unfold DJ;rw[ak4 he,hg];rfl
def U1{p:aF->Bool}:∀{l:List aF}{i:Nat},mE (λx _=>p x) l i=l.filter p
 |[],_=>rfl
 |x::l,i=>by
  have ih:=U1 (p:=p) (l:=l) (i:=i+1);simp only[mE,ih,anW]
def W2{l:List aF}{f u:Nat}(h1:f<=u)(h2:u<=l.length):atR f u l=(l.drop f).take (u-f):=by
 have e:atR f u l=(l.drop f).take (u-f):=by
  unfold atR;refine MC λk hk=>?_;simp
 exact e
end K5
structure A7 (l:List aF):Prop where
 up:l.Pairwise λa b=>cS a b=true
 once:(l.map aF.name).Nodup
 len:l.length<=2000
 sz:∀x∈l,x.name.size<=1048576
 ri:∀x∈l,cy x.score
def Ui{l a b:List aF}{y:aF}{n:BA}(hn:(l.map aF.name).Nodup)(e:l=a++y::b)(hy:y.name=n):fM l n=some y.score∧(l.findIdx? λr=>decide (r.name=n))=some a.length:=by
 subst e;have bw:∀x∈a,x.name≠n:=λx hx he=>by
  rw[alD,amN]at hn;exact hn.2.2 x.name (als hx) y.name Yy (by rw[he,hy])
 constructor
 .unfold fM;rw[show(a++y::b).find? (λr=>decide (r.name=n))=some y by
   rw[anM];exact⟨ale hy,a,b,Y,λx hx=>by rw[alg (bw x hx)];rfl⟩]
  rfl
 .rw[List.findIdx?_append,an4.2 λx hx=>alg (bw x hx),List.findIdx?_cons,ak4 (ale hy)];simp
def Uj{l:List aF}{n:BA}(h:∀y∈l,y.name≠n):fM l n=none∧(l.findIdx? λr=>decide (r.name=n))=none:=by
 constructor
 .unfold fM;rw[anA.2 λx hx=>by rw[alg (h x hx)];simp];rfl
 .exact an4.2 λx hx=>alg (h x hx)
section
variable {h0 h h1 h2 h':af}{ab kb sb mb c b1 b2 bs bt dH:Nat}{now op kd:Int}{av lv pv lw rv fv v:Value}{key why n s:BA}{t:aB}{is:Bool}{A l pre:List BA}{L:List aA}{m:List KI}{S:aH}{M:List En}{T:List Nat}{res:aM}{th:BA->Bool}{Z:af->Prop}
def po(ht:K5.fw h)(hc:ag [] h h'):K5.fw h':=ht.ae hc Yy
def xQ(dd:S9 S)(hi:gQ S):A7 ((aC S key now).getD aL).ranks:=by
 have g:=abw (key:=key) (now:=now) hi;have t:=dd.get key now;exact⟨g.rs,g.once,t.rs,t.rz,t.ri⟩
def Hj{l:List aF}(hv:SL aK h rv l)(hr:A7 l)(ht:K5.fw h):aj Tryz.prog 283 [rv,.slice none 0 0] h (ao λr h'=>(∃v fp,r=.tuple #[v,.int .i64 0]∧K5.RS h' v l fp)∧ag [] h h'):=by
 have hl:=hr.len;obtain⟨e1,e2⟩:=K5.ad9 hr.up hr.once V (λx hx=>by have:=hr.sz x hx;omega);refine(K5.ad' (cs:=[]) hv SL.nil V Yy ht).mono λe h' he=>?_;cases e with
 |panicked ch=>exact he.elim
 |outgrown=>exact he.elim
 |returned u=>
  obtain⟨c,he⟩:=he;rw[ak4 e1]at he;obtain⟨v,fp,rfl,rs,_⟩:=he;rw[e2]at rs;exact⟨⟨v,fp,Y,rs⟩,c⟩
def Hv(hE:(cE ab kb now av key t is pv lw rv lv L).at h)(hr:A7 t.ranks)(ht:K5.fw h):aj Tryz.prog 281 [ptr ab,.string n] h (ao λr h'=>r=.tuple #[.int .i64 ((fM t.ranks n).getD 0),.bool (fM t.ranks n).isSome]∧ag [] h h'):=by
 have sp:=(MU hE).2.2;refine f281.c<|Ei _ (Ai (an hE.1 Y)<|akV (Hj sp hr ht) ?_);rintro _ h2 ⟨⟨v,fp,rfl,rs⟩,c2⟩;refine akV (K5.agT rs n) ?_;rintro u h3 ⟨e3,hu⟩;have e3:=e3.symm;subst e3;rcases hu with⟨bw,rfl⟩|⟨a,y,b,e,hy,rfl⟩
 .rw[(Uj bw).1];exact⟨Y,c2⟩
 .rw[(Ui hr.once e hy).1];exact⟨Y,c2⟩
def ahA(hr:A7 t.ranks):TC ab kb now av t is pv lw rv (λh=>ai h b1 [ptr ab]∧K5.fw h) (.func (.func 280) #[] #[ptr b1]) (dA t.ranks):=
 ⟨_,_,_,Y,λ{h s key lv L}hE hZ=>by
  refine f280.c<|Ei _ (Ai (an hZ.1 Y)<|akV (Hv hE hr hZ.2) ?_);rintro _ h2 ⟨rfl,c2⟩;exact⟨Y,c2⟩⟩
def ahB(hr:A7 t.ranks):TC ab kb now av t is pv lw rv (λh=>ai h b1 [ptr ab]∧K5.fw h) (.func (.func 282) #[] #[ptr b1]) (dA t.ranks):=
 ⟨_,_,_,Y,λ{h s key lv L}hE hZ=>by
  refine f282.c<|Ei _ (Ai (an hZ.1 Y)<|akV (Hv hE hr hZ.2) ?_);rintro _ h2 ⟨rfl,c2⟩;exact⟨Y,c2⟩⟩
def SA{j:Nat}(p:P9 h0 kb sb mb c m S av A)(hE:(cE ab kb now av key t is pv lw rv lv L).at h)(hc:ag [] h0 h)(hl:dr h0)(hj:A[j]? =some s)(hs:s.size<281474976710656){z:Int}(hz:numOf s=some z):aj Tryz.prog 268 [ptr ab,.int .i64 j] h (ao λr h'=>r=.int .i64 z∧ag [] h h'):=by
 obtain⟨b,o,cc,rfl⟩:=p.cz (by have:=(ak7.1 hj).1;omega);refine f268.c<|Ei _ (Ai (an hE.1 Y)<|p.ix hc j Y hj ?_);obtain⟨⟨l⟩⟩:=s;refine akV (alP (hl.ext hc) hs) ?_;rintro _ h1 ⟨rfl,c1⟩;rw[show Num.num l=some z from hz];exact alo λ_=>⟨Y,c1⟩
def MA:∀{l:List (BA×BA)},(∀p∈l,(numOf p.1).isSome=true)->∃r,j8 l=some r
 |[],_=>⟨[],Y⟩
 |(s,n)::l,h=>by
  obtain⟨z,hz⟩:=Option.isSome_iff_exists.1 (h (s,n) Yy);obtain⟨r,hr⟩:=MA (l:=l) λp hp=>h p (by simp[hp]);refine⟨(z,n)::r,?_⟩;simp only[j8];have hz:numOf s=some z:=hz;rw[hz,hr]
def alZ:∀{l:List (BA×BA)}{r:List (Int×BA)},j8 l=some r->r.length=l.length
 |[],r,h=>by cases h;rfl
 |(s,n)::l,r,h=>by
  simp only[j8]at h;split at h
  .rename_i z r' hz hr;cases h;show r'.length+1=l.length+1;rw[alZ hr]
  .cases h
def Mz:∀{l:List (BA×BA)}{p:BA×BA},p∈l->numOf p.1=none->j8 l=none
 |(s,n)::l,p,hp,h=>by
  simp only[j8];rcases ak3.1 hp with rfl|hp
  .have h:numOf s=none:=h;rw[h]
  .rw[Mz hp h];cases numOf s<;>rfl
def My:∀{l:List (BA×BA)}{r:List (Int×BA)}{q:Nat}{s n:BA},j8 l=some r->l[q]? =some (s,n)->∃z,numOf s=some z∧r[q]? =some (z,n)
 |(s,n)::l,r,q,s',n',h,hq=>by
  simp only[j8]at h;split at h
  .rename_i z r' hz hr;cases h;cases q with
   |zero=>
    simp at hq;obtain⟨rfl,rfl⟩:=hq;exact⟨z,hz,Y⟩
   |succ q=>
    obtain⟨z',h1,h2⟩:=My (q:=q) hr (by simpa using hq);exact⟨z',h1,by simpa using h2⟩
  .cases h
def ad6{k0:BA}(p:P9 h0 kb sb mb c m S av (k0::l))(hl:dr h0)(jw:l.length%2=0)(hlen:l.length<65536)(hA:∀a∈k0::l,a.size<281474976710656)(x:As h0 h (cE ab kb now av key t is pv lw rv lv L)):aj Tryz.prog 279 [ptr ab,.int .i64 1] h (sF h0 h (cE ab kb now av key t is pv lw rv lv L) (λ_ e'=>(∃r,j8 (dj l)=some r)∧e'=cE ab kb now av key t is pv lw rv lv L) (λwhy=>j8 (dj l)=none∧why=jN)):=by
 obtain⟨ba,oa,ac,rfl⟩:=p.cz Yy;have di:(k0::l).length=l.length+1:=rfl;have F8:=rB (ali l.length);refine f279.c ?_;have w:=x.st;refine bA (λq:Nat=>[(0,ptr ab),(4,.int .i64 (2*q+1:Nat))])
  (λq h'=>(2*q<=l.length∧∀p∈(dj l).take q,(numOf p.1).isSome=true)∧St (cE ab kb now (.slice (some ⟨ba,oa,none⟩) (k0::l).length ac) key t is pv lw rv lv L).fp h h' [cE ab kb now (.slice (some ⟨ba,oa,none⟩) (k0::l).length ac) key t is pv lw rv lv L])
  (λq=>l.length-2*q) 0 J2 ⟨⟨ak8 _,Yy⟩,w⟩ ?_
 rintro q h1 ⟨⟨hq,dU⟩,w⟩;refine w.bV 0 Y Y<|Bi (λah=>?_) λcp=>?_
 .have qP:2*q+1<l.length:=V
  have qS:=um qP;have eC:q<(dj l).length:=V
  obtain⟨nm,f'⟩:∃nm,nm=l[2*q]:=⟨_,Y⟩
  obtain⟨tx,htx⟩:∃tx,tx=l[2*q+1]:=⟨_,Y⟩
  rw[<-f',<-htx]at qS;have lK:nm∈l:=by rw[f'];exact ak9 _
  have hn:(k0::l)[2*q+1]? =some nm:=by rw[f'];simp
  have ej:(dj l).take (q+1)=(dj l).take q++[(nm,tx)]:=by
   rw[alI eC];have:=(ak7.1 qS).2;rw[this]
  refine cT (i:=0) x w Y (λx=>re (j:=2*q+1) p x hl hn (hA nm (by simp[lK]))) ?_ ?_;rotate_left
  .rintro why h3 ⟨hB,rfl⟩ c3;exact⟨_,Y,⟨Mz (al9 qS) hB,Y⟩,c3⟩
  rintro _ h3 _ ⟨z9,Gu,rfl,rfl⟩ w;refine Az<|Ai Y (Ei (q+1) (Ai J2 (Ai ⟨⟨V,λpr eF=>?_⟩,w⟩ V)));rw[ej,alf]at eF;rcases eF with eF|eF
  .exact dU pr eF
  .rw[alE.1 eF];show(numOf nm).isSome=true;rw[Gu];rfl
 .have zD:q=(dj l).length:=V
  rw[zD,alm]at dU;exact⟨_,⟨MA dU,Y⟩,x.out w 0 Y⟩
set_option maxHeartbeats 2000000 in
def aja(p:P9 h0 kb sb mb c m S av A)(dd:S9 S)(hi:gQ S)(hl:dr h0)(zG:K5.fw h0)(hA:∀a∈A,a.size<281474976710656)(x:As h0 h (c0 ab kb now av)):aj Tryz.prog 207 [ptr ab] h (eE h0 h ab kb now av (uF S now A)):=by
 refine f207.c ?_;intro b1 h1 g1;have w:=x.st.new g1;intro b2 h2 g2;have w:=w.new g2;refine w.ld1 1 Y Y<|cT (i:=2) x w Y (λx=>q7 p Dd x) ?_ ?_;rotate_left
 .rintro why h3 ⟨hB,rfl⟩ c3;refine cF ?_ c3;cases A with
  |nil=>rfl
  |cons k0 l=>exact akZ λhh=>hB ⟨by simp;omega,by simp;omega⟩
 rintro _ h3 _ ⟨hb,k0,bP,rfl⟩ w;obtain⟨k9,l,rfl⟩:=yJ Dd hb.1;cases bP;obtain⟨ba,oa,ac,rfl⟩:=p.cz Yy;refine w.ld1 1 Y Y<|w.bV 2 Y Y<|Ai Y (Ai Dd (λz hz=>?_));have hz:z=(((k0::l).length%2:Nat):Int):=by rw[hz];exact(anT (k0::l).length 2).symm
 subst hz;have di:(k0::l).length=l.length+1:=rfl;refine Ai Y (Ai (λgZ=>alo λ_=>?_) (λjw=>oi (cF (akZ λhh=>jw V) w.ae)));have jC:2<=l.length∧l.length<65536∧l.length%2=0:=⟨V,V,V⟩
 refine w.ld1 1 Y Y<|cT (i:=2) x w Y (λx=>ad6 p hl jC.2.2 jC.2.1 hA x) ?_ ?_;rotate_left
 .rintro why h4 ⟨hB,rfl⟩ c4;refine cF ((ak4 jC).trans ?_) c4;rw[hB]
 rintro _ h4 _ ⟨⟨rr,uZ⟩,rfl⟩ w;have fB:uF S now (k0::l)=bX S now 5 k0 (λt=>makes S now k0 (t.ranks.length+(bf (dA t.ranks) [] (rr.map Prod.snd)).length) ((rr.map Prod.snd).all small) (bO (bf (dA t.ranks) [] (rr.map Prod.snd)).length) (rr.map λp=>alj k0 p.2 p.1)):=
  (show uF S now (k0::l)=if 2<=l.length∧l.length<65536∧l.length%2=0 then _ else _ from Y).trans ((ak4 jC).trans (by rw[uZ]))
 refine w.ld1 1 Y Y<|cT (i:=2) x w Y (λx=>rf p x) ?_ ?_;rotate_left
 .rintro why h4 ⟨hB,rfl⟩ c4;exact cF (fB.trans (nw hB)) c4
 rintro _ h4 _ ⟨hk,p2,w2,r2,rfl⟩ w;have j0:=xQ (key:=k0) (now:=now) dd hi;have htl:=j0.len;have pO:=hA k0 Yy;have he:=fB.trans (hX hk);clear fB;generalize (aC S k0 now).getD aL=t at*;obtain⟨pa,pc,rfl,_⟩:=(w.gG 2 Y).2.2.form;obtain⟨names,wW⟩:∃names,names=rr.map Prod.snd:=⟨_,Y⟩
 obtain⟨D,qE⟩:∃D,D=rr.map λp=>alj k0 p.2 p.1:=⟨_,Y⟩
 have qR:rr.length=(dj l).length:=alZ uZ;have he:uF S now (k0::l)=makes S now k0 (t.ranks.length+(bf (dA t.ranks) [] names).length) (names.all small) (bO (bf (dA t.ranks) [] names).length) D:=by rw[he,wW,qE]
 have F8:=rB (ali l.length);have lL:names.length=(dj l).length:=by rw[wW,alL];exact qR
 have mT:D.length=(dj l).length:=by rw[qE,alL];exact qR
 have qD:D≠[]:=λe=>by rw[e]at mT;simp at mT;omega
 have Kp:=λq=>Sr (th:=dA t.ranks) (l:=names) q;refine akV FO ?_;rintro _ h5 ⟨⟨bs,dH,bt,rfl,hf,qK⟩,c5⟩;have w:=w.add (e:=iQ bs dH bt (.func (.func 280) #[] #[ptr b1]) []) c5 hf (λb hb=>qK b (by simpa[iQ,En.fp]using hb));refine bA (λq:Nat×Nat×Value=>[(1,ptr b1),(2,ptr b2),(3,.int .i64 q.2.1),(4,.func (.func 302) #[] #[ptr bs,ptr bt]),(5,.int .i64 (2*q.1+1:Nat))])
  (λq h'=>(2*q.1<=l.length∧q.2.1=(bf (dA t.ranks) [] (names.take q.1)).length∧(0<q.1->((t.ranks.length:Int)+q.2.1<=65536∧k0.size<=1048576))∧(names.take q.1).all small=true)∧
   St (c0 ab kb now (.slice (some ⟨ba,oa,none⟩) (k0::l).length ac)).fp h h' [iQ bs dH bt (.func (.func 280) #[] #[ptr b1]) (names.take q.1),.b b2 zR,.b b1 [ptr ab],
    cE ab kb now (.slice (some ⟨ba,oa,none⟩) (k0::l).length ac) k0 t (aC S k0 now).isSome p2 w2 (.slice pa t.ranks.length pc) q.2.2 (kZ S k0 now D q.1)])
  (λq=>l.length-2*q.1) (0,0,iH) J5 ⟨⟨ak8 _,Y,λh9=>absurd h9 Yy,Y⟩,w⟩ ?_
 rintro⟨q,n,lv⟩ h6 ⟨⟨hq,fh,ff,dU⟩,w⟩;replace hq:2*q<=l.length:=hq;replace fh:n=(bf (dA t.ranks) [] (names.take q)).length:=fh;replace ff:0<q->((t.ranks.length:Int)+n<=65536∧k0.size<=1048576):=ff;replace dU:(names.take q).all small=true:=dU;have QE:n<=q:=by
  have h1:=oj (th:=dA t.ranks) (l:=names.take q) (pre:=[]);rw[alA]at h1;omega
 refine w.ld1 2 Y Y<|w.bV 3 Y Y<|Bi (λah=>?_) λcp=>?_
 .have qP:2*q+1<l.length:=V
  have qS:=um qP;have eC:q<(dj l).length:=V
  obtain⟨nm,f'⟩:∃nm,nm=l[2*q]:=⟨_,Y⟩
  obtain⟨tx,htx⟩:∃tx,tx=l[2*q+1]:=⟨_,Y⟩
  rw[<-f',<-htx]at qS;have lK:nm∈l:=by rw[f'];exact ak9 _
  have rZ:tx∈l:=by rw[htx];exact ak9 _
  have hn:(k0::l)[2*q+1]? =some nm:=by rw[f'];simp
  have ht:(k0::l)[2*q+2]? =some tx:=by rw[htx];simp
  clear f' htx;have qU:=hA nm (by simp[lK]);have si:=hA tx (by simp[rZ]);obtain⟨sc,QZ,QV⟩:=My uZ qS;have hD:D[q]? =some {(⟨14,au,tx,au,sc⟩:aA)with key:=k0}:=by rw[qE,amB,QV];rfl
  have aw:=EM (S:=S) (key:=k0) (now:=now) D q V;have qQ:q<names.length:=V
  have QF:names[q]? =some tx:=by rw[wW,amB,QV];rfl
  have CU:names[q]=tx:=(ak7.1 QF).2;have QB:tx∈names:=al9 QF;have xg:names.take (q+1)=names.take q++[tx]:=by rw[alI qQ,CU]
  refine w.ld1 2 Y Y<|w.bV 3 Y Y<|Ai Y (λz hz=>?_);have hz:=cd hz Yo Yo;subst hz;refine p.ix (x.base w) (2*q+2) Y ht<|w.fresh 0 3 Y Y Dd (ahA j0) (λh9 c9=>⟨Jm w 0 2 Y Y Dd h9 c9,po zG (x.base (w.set (e':=En.nil) 0 Y c9 (λb hb=>.inl (by simp at hb;simp[iQ,En.fp,hb])) trivial (λb hb=>(nomatch (show b∈([]:List Nat)from hb)))))⟩) (by rw[alA];omega) λh7 w=>?_;obtain⟨bb,eO⟩:∃bb,bb=(!dA t.ranks tx&&decide (tx∉names.take q)):=⟨_,Y⟩
  have ig:=GS (th:=dA t.ranks) qQ (b:=bb) (by rw[CU];exact eO);have dE:=Kp (q+1);rw[<-eO];cases bb with
  |true=>
   have ig:(bf (dA t.ranks) [] (names.take (q+1))).length=n+1:=by rw[ig,fh];rfl
   refine Ai Y (λz hz=>?_);have hz:=cd hz Yo Yo;subst hz;refine w.ld1 2 Y Y<|w.ld1 2 Y Y<|w.bV 3 Y Y<|Ai Y (λz hz=>?_);have hz:=cd hz Yo Yo;subst hz;refine p.ix (x.base w) (2*q+2) Y ht<|w.ld1 2 Y Y<|w.ld1 2 Y Y<|w.bV 3 Y Y<|Ai Y (λz hz=>?_);have hz:z=(t.ranks.length:Int)+(n+1:Nat):=hz.trans (cx Yo Yo);subst hz;refine w.qx (SA p (w.get 3 Y) (x.base w) hl hn qU QZ) λh7 w=>cT (i:=3) x w Y (λx=>tX p ⟨14,au,tx,au,sc⟩ x Yo V (by show tx.size<_;omega) (by show au.size<_;decide)) ?_ ?_;rotate_left
   .rintro why h5 ⟨hB,rfl⟩ c5;refine cF (he.trans (tQ ?_)) c5;rintro⟨m1,m2,m3⟩;exact hB ⟨V,m2,xX m3 QB,by show au.size<=_;decide⟩
   rintro _ h5 _ ⟨bK,lP,rfl⟩ w;rw[yu hD]at w;refine Ai Y (λz hz=>?_);have hz:=cd hz Yo Yo;subst hz;refine Ai Y (Ei (q+1,n+1,lP) (Ai J5 (Ai ⟨⟨V,by rw[ig],λ_=>⟨?_,bK.2.1⟩,?_⟩,?_⟩ Yo)))
   .have:=bK.1
    push_cast at this⊢
    omega
   .rw[xg,aop,dU];simp[small];exact bK.2.2.1
   .rw[xg];exact w
  |false=>
   have ig:(bf (dA t.ranks) [] (names.take (q+1))).length=n:=by rw[ig,fh];rfl
   refine w.ld1 2 Y Y<|w.ld1 2 Y Y<|w.bV 3 Y Y<|Ai Y (λz hz=>?_);have hz:=cd hz Yo Yo;subst hz;refine p.ix (x.base w) (2*q+2) Y ht<|w.ld1 2 Y Y<|w.ld1 2 Y Y<|w.bV 3 Y Y<|Ai Y (λz hz=>?_);have hz:z=(t.ranks.length:Int)+(n:Nat):=hz.trans (cx Yo Yo);subst hz;refine w.qx (SA p (w.get 3 Y) (x.base w) hl hn qU QZ) λh7 w=>cT (i:=3) x w Y (λx=>tX p ⟨14,au,tx,au,sc⟩ x Yo V (by show tx.size<_;omega) (by show au.size<_;decide)) ?_ ?_;rotate_left
   .rintro why h5 ⟨hB,rfl⟩ c5;refine cF (he.trans (tQ ?_)) c5;rintro⟨m1,m2,m3⟩;exact hB ⟨V,m2,xX m3 QB,by show au.size<=_;decide⟩
   rintro _ h5 _ ⟨bK,lP,rfl⟩ w;rw[yu hD]at w;refine Ai Y (λz hz=>?_);have hz:=cd hz Yo Yo;subst hz;refine Ai Y (Ei (q+1,n,lP) (Ai J5 (Ai ⟨⟨V,by rw[ig],λ_=>⟨?_,bK.2.1⟩,?_⟩,?_⟩ Yo)))
   .have:=bK.1
    push_cast at this⊢
    omega
   .rw[xg,aop,dU];simp[small];exact bK.2.2.1
   .rw[xg];exact w
 .have lN:2*q=l.length:=V
  have zD:q=(dj l).length:=V
  have Ko:n=(bf (dA t.ranks) [] names).length:=by rw[fh,amo V]
  refine w.aV alk λh7 w=>w.st1 1 Y Y Y Y λh8 w=>iy x w 1 3 Y Y ?_;rw[he,xC ⟨by have:=(ff V).1;omega,(ff V).2,by rw[<-amo (l:=names) (i:=q) V];exact dU⟩,zD,<-mT,EL qD,Ko];rfl
def ajh(p:P9 h0 kb sb mb c m S av A)(dd:S9 S)(hi:gQ S)(ht:K5.fw h0)(x:As h0 h (c0 ab kb now av)):aj Tryz.prog 208 [ptr ab] h (eE h0 h ab kb now av (BC S now A)):=by
 refine f208.c ?_;intro b1 h1 g1;have w:=x.st.new g1;intro b2 h2 g2;have w:=w.new g2;refine w.ld1 1 Y Y<|cT (i:=2) x w Y (λx=>alc p Dd x) ?_ ?_;rotate_left
 .rintro why h2 hB c2;exact cF (GY (f:=λkey l t=>.ok (bO (gX (dA t.ranks) l).length,(gX (dA t.ranks) l).map (M1 key))) hB (λ_ _=>rfl) Y) c2
 rintro _ h3 _ ⟨hb,k0,bP,hk,p2,w2,r2,rfl⟩ w;obtain⟨k9,l,rfl⟩:=yJ Dd hb.1;cases bP;have di:(k0::l).length=l.length+1:=rfl;have jC:1<=l.length∧l.length<65536:=⟨V,V⟩
 have j0:=xQ (key:=k0) (now:=now) dd hi;have he:BC S now (k0::l)=_:=(show BC S now (k0::l)=if 1<=l.length∧l.length<65536 then bX S now 5 k0 (λt=>.ok (bO (gX (dA t.ranks) l).length,(gX (dA t.ranks) l).map (M1 k0)))else .error cX from Y).trans ((ak4 jC).trans (hX hk));generalize (aC S k0 now).getD aL=t at*;refine w.ld1 1 Y Y ?_;have C3:=x.base w;have x3:=(x.out w 2 Y).1;refine akV (Is p jC x3 (ahB (b1:=b1) j0) (λh9 c9=>⟨ai.ae (w.get 1 Y) c9 (λhm=>w.apart 1 2 _ _ Y Y Dd b1 (by simp[En.fp]) hm),po ht (C3.fresh c9 x3.fresh)⟩)) ?_;rintro _ h5 ⟨rfl,lP,_,o5⟩;have w:=w.own 2 Y o5;exact w.st1 0 Y Y Y Y λh6 w=>iy x w 0 2 Y Y he
def ajc(p:P9 h0 kb sb mb c m S av A)(x:As h0 h (c0 ab kb now av)):aj Tryz.prog 211 [ptr ab] h (eE h0 h ab kb now av (Ff S now A)):=by
 refine f211.c ?_;intro b2 h1 g1;have w:=x.st.new g1;refine cT (i:=1) x w Y (λx=>alc p Dd x) ?_ ?_;rotate_left
 .rintro why h2 hB c2;exact cF (js.a1 (f:=λ_ t=>.ok (bO t.ranks.length,[])) hB) c2
 rintro _ h2 _ ⟨hb,k0,bP,hk,p2,w2,r2,rfl⟩ w;obtain⟨k9,rfl⟩:=jK hb;cases bP;obtain⟨la,lc,rfl,_⟩:=(w.gG 1 Y).2.2.form;refine w.bV 1 Y Y<|w.aV alk λh3 w=>w.st1 0 Y Y Y Y λh4 w=>?_;have he:Ff S now [k0]=_:=(show Ff S now [k0]=bX S now 5 k0 (λt=>.ok (bO t.ranks.length,[]))from Y).trans (hX hk);exact iy x w 0 1 Y Y he
def aji(p:P9 h0 kb sb mb c m S av A)(dd:S9 S)(hi:gQ S)(hl:dr h0)(ht:K5.fw h0)(x:As h0 h (c0 ab kb now av)):aj Tryz.prog 209 [ptr ab] h (eE h0 h ab kb now av (Fi S now A)):=by
 refine f209.c ?_;intro b2 h1 g1;have w:=x.st.new g1;refine cT (i:=1) x w Y (λx=>alc p Dd x) ?_ ?_;rotate_left
 .rintro why h2 hB c2;exact cF (js.a2 (f:=λ_ n t=>match fM t.ranks n with
   |some z=>.ok (iu ⟨⟨Lib.itoa z⟩⟩,[])
   |none=>.ok (jJ,[])) hB) c2
 rintro _ h2 _ ⟨hb,k0,bP,hk,p2,w2,r2,rfl⟩ w;obtain⟨k9,n,rfl⟩:=qm hb;cases bP;have he:Fi S now [k0,n]=_:=(show Fi S now [k0,n]=bX S now 5 k0 (λt=>match fM t.ranks n with
   |some z=>.ok (iu ⟨⟨Lib.itoa z⟩⟩,[])
   |none=>.ok (jJ,[]))from Y).trans (hX hk)
 have j0:=xQ (key:=k0) (now:=now) dd hi;generalize (aC S k0 now).getD aL=t at*;obtain⟨b,o,cc,rfl⟩:=p.cz Yy;refine w.bV 1 Y Y<|p.ix (x.base w) 1 Y Y<|w.aV (Hv (w.get 1 Y) j0 (po ht (x.base w))) λh3 w=>?_;have hin:∀z,fM t.ranks n=some z->cy z:=λz hz=>by
  unfold fM at hz;obtain⟨r,hr,rfl⟩:=alN.1 hz;exact j0.ri r (am6 hr)
 generalize fM t.ranks n=fo at he hin⊢;cases fo with
 |none=>
  exact w.st1 0 Y Y Y Y λh4 w=>iy x w 0 1 Y Y he
 |some z=>
  have hz:=hin z Y;exact w.aV (rO (n:=z) (hl.ext (x.base w)) hz.1 hz.2) λh4 w=>w.aV vI λh4 w=>w.st1 0 Y Y Y Y λh5 w=>iy x w 0 1 Y Y he
def ajg(p:P9 h0 kb sb mb c m S av A)(dd:S9 S)(hi:gQ S)(ht:K5.fw h0)(x:As h0 h (c0 ab kb now av)):aj Tryz.prog 212 [ptr ab] h (eE h0 h ab kb now av (Fh S now A)):=by
 refine f212.c ?_;intro b2 h1 g1;have w:=x.st.new g1;refine cT (i:=1) x w Y (λx=>alc p Dd x) ?_ ?_;rotate_left
 .rintro why h2 hB c2;exact cF (js.a2 (f:=λ_ n t=>match t.ranks.findIdx? λr=>decide (r.name=n)with
   |some i=>.ok (bO i,[])
   |none=>.ok (jJ,[])) hB) c2
 rintro _ h2 _ ⟨hb,k0,bP,hk,p2,w2,r2,rfl⟩ w;obtain⟨k9,n,rfl⟩:=qm hb;cases bP;have he:Fh S now [k0,n]=_:=(show Fh S now [k0,n]=bX S now 5 k0 (λt=>match t.ranks.findIdx? λr=>decide (r.name=n)with
   |some i=>.ok (bO i,[])
   |none=>.ok (jJ,[]))from Y).trans (hX hk)
 have j0:=xQ (key:=k0) (now:=now) dd hi;generalize (aC S k0 now).getD aL=t at*;obtain⟨b,o,cc,rfl⟩:=p.cz Yy;refine w.bV 1 Y Y<|akV (Hj (w.gG 1 Y).2.2 j0 (po ht (x.base w))) ?_;rintro _ h3 ⟨⟨v,fp,rfl,rs⟩,c3⟩;have w:=w.ext c3;refine w.bV 1 Y Y<|p.ix (x.base w) 1 Y Y<|akV (K5.aeY rs n) ?_;rintro u h4 ⟨c4,hu⟩;have w:=w.ext c4;rcases hu with⟨bw,rfl⟩|⟨a,y,b,e,hy,rfl⟩
 .rw[(Uj bw).2]at he;exact w.st1 0 Y Y Y Y λh4 w=>iy x w 0 1 Y Y he
 .rw[(Ui j0.once e hy).2]at he;exact w.aV alk λh4 w=>w.st1 0 Y Y Y Y λh5 w=>iy x w 0 1 Y Y he
def Sp(l:List aF):qs (l.flatMap λr=>[r.name])=(l.map aF.name).map toQ:=by
 induction l with
 |nil=>rfl
 |cons r l ih=>
  unfold qs at ih⊢;rw[am9,alD,ih];rfl
def ajf(p:P9 h0 kb sb mb c m S av A)(dd:S9 S)(hi:gQ S)(hl:dr h0)(ht:K5.fw h0)(hA:∀a∈A,a.size<281474976710656)(x:As h0 h (c0 ab kb now av)):aj Tryz.prog 213 [ptr ab] h (eE h0 h ab kb now av (II S now A)):=by
 refine f213.c ?_;intro b2 h1 g1;have w:=x.st.new g1;refine cT (i:=1) x w Y (λx=>q7 p Dd x) ?_ ?_;rotate_left
 .rintro why h2 ⟨hB,rfl⟩ c2;exact cF (yB hB) c2
 rintro _ h2 _ ⟨hb,k0,bP,rfl⟩ w;obtain⟨k9,s,u,rfl⟩:=AP hb;cases bP;refine cT (i:=1) x w Y (λx=>re (j:=1) p x hl Y (hA s Yy)) ?_ ?_;rotate_left
 .rintro why h3 ⟨hB,rfl⟩ c3;refine cF ?_ c3;show bY s _=_;unfold bY;rw[hB]
 rintro _ h3 _ ⟨n,hn,rfl,rfl⟩ w;have fB:∀f,bY s f=f n:=λf=>by unfold bY;rw[hn]
 refine cT (i:=1) x w Y (λx=>re (j:=2) p x hl Y (hA u Yy)) ?_ ?_;rotate_left
 .rintro why h3 ⟨hB,rfl⟩ c3;refine cF ((fB _).trans ?_) c3;show bY u _=_;unfold bY;rw[hB]
 rintro _ h3 _ ⟨n2,nf,rfl,rfl⟩ w;have uY:∀f,bY u f=f n2:=λf=>by unfold bY;rw[nf]
 refine cT (i:=1) x w Y (λx=>rf p x) ?_ ?_;rotate_left
 .rintro why h4 ⟨hB,rfl⟩ c4;exact cF ((fB _).trans ((uY _).trans (nw hB))) c4
 rintro _ h4 _ ⟨hk,p2,w2,r2,rfl⟩ w;have j0:=xQ (key:=k0) (now:=now) dd hi;have qR:=j0.len;have he:II S now [k0,s,u]=_:=(fB _).trans ((uY _).trans (hX hk));generalize (aC S k0 now).getD aL=t at*;have oe:=(w.gG 1 Y).2.2;obtain⟨la,lc,rfl,_⟩:=oe.form;refine w.bV 1 Y Y<|dN (Vf V (gC hn) (gC nf)) ?_;have eh:=Ea t.ranks.length n n2;refine w.bV 1 Y Y<|akV (Hj (w.gG 1 Y).2.2 j0 (po ht (x.base w))) ?_;rintro _ h3 ⟨⟨v,fp,rfl,rs⟩,c3⟩;have w:=w.ext c3;refine akV (K5.W3 rs _ _) ?_;rintro r h4 ⟨Ap,c4,_⟩;have w:=w.ext c4;rw[K5.W2 eh.1 eh.2]at Ap;refine akV (RL Ap.sl (by rw[alA,amL];omega)) ?_;rintro _ h5 ⟨⟨ra,rn,rc,rfl,ol,fr⟩,c5⟩;have hz:=w.size;have w:=w.add (e:=.o bR 4 (.slice ra rn rc) _) c5 ol fr;refine w.st1 1 Y Y Y Y λh6 w=>yS x w 1 2 0 Y Y Y (λb hb=>by have:=fr b hb;omega) ?_;rw[he,Sp];rfl
def ajb(p:P9 h0 kb sb mb c m S av A)(dd:S9 S)(hi:gQ S)(hl:dr h0)(ht:K5.fw h0)(hA:∀a∈A,a.size<281474976710656)(x:As h0 h (c0 ab kb now av)):aj Tryz.prog 214 [ptr ab] h (eE h0 h ab kb now av (IG S now A)):=by
 refine f214.c ?_;intro b2 h1 g1;have w:=x.st.new g1;refine cT (i:=1) x w Y (λx=>q7 p Dd x) ?_ ?_;rotate_left
 .rintro why h2 ⟨hB,rfl⟩ c2;exact cF (yB hB) c2
 rintro _ h2 _ ⟨hb,k0,bP,rfl⟩ w;obtain⟨k9,s,u,rfl⟩:=AP hb;cases bP;refine cT (i:=1) x w Y (λx=>re (j:=1) p x hl Y (hA s Yy)) ?_ ?_;rotate_left
 .rintro why h3 ⟨hB,rfl⟩ c3;refine cF ?_ c3;show bY s _=_;unfold bY;rw[hB]
 rintro _ h3 _ ⟨n,hn,rfl,rfl⟩ w;have fB:∀f,bY s f=f n:=λf=>by unfold bY;rw[hn]
 refine cT (i:=1) x w Y (λx=>re (j:=2) p x hl Y (hA u Yy)) ?_ ?_;rotate_left
 .rintro why h3 ⟨hB,rfl⟩ c3;refine cF ((fB _).trans ?_) c3;show bY u _=_;unfold bY;rw[hB]
 rintro _ h3 _ ⟨n2,nf,rfl,rfl⟩ w;have uY:∀f,bY u f=f n2:=λf=>by unfold bY;rw[nf]
 refine cT (i:=1) x w Y (λx=>rf p x) ?_ ?_;rotate_left
 .rintro why h4 ⟨hB,rfl⟩ c4;exact cF ((fB _).trans ((uY _).trans (nw hB))) c4
 rintro _ h4 _ ⟨hk,p2,w2,r2,rfl⟩ w;have j0:=xQ (key:=k0) (now:=now) dd hi;have qR:=j0.len;have he:IG S now [k0,s,u]=_:=(fB _).trans ((uY _).trans (hX hk));generalize (aC S k0 now).getD aL=t at*;refine w.bV 1 Y Y<|akV (Hj (w.gG 1 Y).2.2 j0 (po ht (x.base w))) ?_;rintro _ h3 ⟨⟨v,fp,rfl,rs⟩,c3⟩;have w:=w.ext c3;refine akV (K5.Xf rs _ _) ?_;rintro r h4 ⟨Ap,c4,_⟩;have w:=w.ext c4;unfold K5.EV at Ap;rw[K5.U1]at Ap;have hfl:=amR (λr:aF=>decide (n<=r.score)&&decide (r.score<=n2)) t.ranks;refine akV (RL Ap.sl V) ?_;rintro _ h5 ⟨⟨ra,rn,rc,rfl,ol,fr⟩,c5⟩;have hz:=w.size;have w:=w.add (e:=.o bR 4 (.slice ra rn rc) _) c5 ol fr;refine w.st1 1 Y Y Y Y λh6 w=>yS x w 1 2 0 Y Y Y (λb hb=>by have:=fr b hb;omega) ?_;rw[he,Sp];rfl
def aje(p:P9 h0 kb sb mb c m S av A)(dd:S9 S)(hi:gQ S)(hl:dr h0)(ht:K5.fw h0)(hA:∀a∈A,a.size<281474976710656)(x:As h0 h (c0 ab kb now av)):aj Tryz.prog 210 [ptr ab] h (eE h0 h ab kb now av (Fg S now A)):=by
 refine f210.c ?_;intro b2 h1 g1;have w:=x.st.new g1;refine cT (i:=1) x w Y (λx=>q7 p Dd x) ?_ ?_;rotate_left
 .rintro why h2 ⟨hB,rfl⟩ c2;exact cF (yB hB) c2
 rintro _ h2 _ ⟨hb,k0,bP,rfl⟩ w;obtain⟨k9,u,n,rfl⟩:=AP hb;cases bP;refine cT (i:=1) x w Y (λx=>re (j:=1) p x hl Y (hA u Yy)) ?_ ?_;rotate_left
 .rintro why h3 ⟨hB,rfl⟩ c3;refine cF ?_ c3;show bY u _=_;unfold bY;rw[hB]
 rintro _ h3 _ ⟨jt,mi,rfl,rfl⟩ w;have fB:∀f,bY u f=f jt:=λf=>by unfold bY;rw[mi]
 refine cT (i:=1) x w Y (λx=>rf p x) ?_ ?_;rotate_left
 .rintro why h4 ⟨hB,rfl⟩ c4;exact cF ((fB _).trans (nw hB)) c4
 rintro _ h4 _ ⟨hk,p2,w2,r2,rfl⟩ w;have j0:=xQ (key:=k0) (now:=now) dd hi;have qR:=j0.len;have pO:=hA k0 Yy;have hn9:=hA n Yy;have he:Fg S now [k0,u,n]=_:=(fB _).trans (hX hk);generalize (aC S k0 now).getD aL=t at*;obtain⟨b,o,cc,rfl⟩:=p.cz Yy;refine w.bV 1 Y Y<|p.ix (x.base w) 2 Y Y<|w.aV (Hv (w.get 1 Y) j0 (po ht (x.base w))) λh5 w=>?_;have hin:cy ((fM t.ranks n).getD 0):=by
  unfold fM;cases hf:t.ranks.find? λr=>decide (r.name=n)with
  |none=>exact⟨Dd,Dd⟩
  |some r=>exact j0.ri r (am6 hf)
 have gf:dA t.ranks n=(fM t.ranks n).isSome:=rfl;rw[gf]at he;generalize fM t.ranks n=fo at he hin⊢;obtain⟨pa,pc,rfl,_⟩:=(w.gG 1 Y).2.2.form;refine rJ (Td hin (gC mi)) ?_ ?_;rotate_left
 .rintro why h8 ⟨bw,rfl,e⟩;have e:=e.symm;subst e;exact cF (he.trans (akZ bw)) w.ae
 rintro _ h8 ⟨aN,rfl,e⟩;have e:=e.symm;subst e;have he:=he.trans (ak4 aN);obtain⟨z,Gu⟩:∃z,z=fo.getD 0+jt:=⟨_,Y⟩
 have aN:cy z:=by rw[Gu];exact aN
 rw[<-Gu]at he⊢;have fin:∀{h9:af}{items:Nat}{M:List En},items=t.ranks.length+(if fo.isSome=true then 0 else 1)->St (c0 ab kb now (.slice (some ⟨b,o,none⟩) 3 cc)).fp h h9 (.b b2 zR::cE ab kb now (.slice (some ⟨b,o,none⟩) 3 cc) k0 t (aC S k0 now).isSome p2 w2 (.slice pa t.ranks.length pc) iH []::M)->
   swp Tryz.prog f210.sc.r.r.r.r.r.r.r.r
    (cC [.cn 2 4] (eE h0 h ab kb now (.slice (some ⟨b,o,none⟩) 3 cc) (Fg S now [k0,u,n]))) (mk [(0,ptr ab),(2,ptr b2),(4,.int .i64 z),(6,.int .i64 items)]) [] h9:=by
  intro h9 items M hit w;refine w.bV 1 Y Y<|p.ix (x.base w) 2 Y Y<|cT (i:=1) x w Y (λx=>tX p ⟨14,au,n,au,z⟩ x Yy V (by show n.size<_;omega) (by show au.size<_;decide)) ?_ ?_;rotate_left
  .rintro why dO ⟨hB,rfl⟩ iO;refine cF (he.trans (tQ λhh=>hB ⟨?_,hh.2.1,amy hh.2.2,by show au.size<=_;decide⟩)) iO;have:=hh.1;rw[hit]
   push_cast
   split at this<;>simp_all
  rintro _ dO _ ⟨bK,adF,rfl⟩ w;refine w.aV (rO (hl.ext (x.base w)) aN.1 aN.2) λcO w=>w.aV vI λcO w=>w.st1 0 Y Y Y Y λdn w=>iy x w 0 1 Y Y (he.trans (xC ⟨?_,bK.2.1,ale bK.2.2.1⟩));have:=bK.1;rw[hit]at this
  push_cast at this
  split<;>simp_all
 refine w.bV 1 Y Y<|aW [(0,ptr ab),(2,ptr b2),(4,.int .i64 z),(5,.bool fo.isSome),(6,.int .i64 t.ranks.length)] J5<|mM<|vq (v:=fo.isSome) Y Y<|oE (t:=!fo.isSome) Y ?_;cases fo with
 |none=>
  exact Az<|aW [(0,ptr ab),(2,ptr b2),(4,.int .i64 z),(6,.int .i64 (t.ranks.length+1:Nat))] J4 (fin Y w)
 |some s=>
  exact pg<|aW [(0,ptr ab),(2,ptr b2),(4,.int .i64 z),(6,.int .i64 t.ranks.length)] J4 (fin Y w)
end
end Go.Proofs.YtocgmipngoiieaaGreatDoor
namespace Go.Proofs.YtocgmipngoiieaaGreatDoor
open Go Go.Sx C
inductive RT where
 |mk (k i:Int) (s:BA) (v:Value) (l:List RT)
def wx:RT->List Value
 |.mk k i s v _=>[.int .i64 k,.int .i64 i,.string s,v]
mutual
def RT.ok(h:af):RT->Prop
 |.mk _ _ _ v l=>SL wx h v l∧l.length<4611686018427387904∧RT.oks h l
def RT.oks(h:af):List RT->Prop
 |[]=>True
 |t::l=>t.ok h∧RT.oks h l
end
mutual
def RT.same:RT->RT->Bool
 |.mk k i s _ l,.mk k' i' s' _ m=>decide (k=k')&&decide (i=i')&&decide (s=s')&&RT.mD l m
def RT.mD:List RT->List RT->Bool
 |[],[]=>true
 |x::l,y::m=>x.same y&&RT.mD l m
 |_,_=>false
end
mutual
def RT.ok.ext{h h':af}(hc:ag [] h h'):∀{t:RT},t.ok h->t.ok h'
 |.mk _ _ _ _ _,⟨h1,h2,h3⟩=>⟨h1.ext hc,h2,RT.oks.ext hc h3⟩
def RT.oks.ext{h h':af}(hc:ag [] h h'):∀{l:List RT},RT.oks h l->RT.oks h' l
 |[],_=>trivial
 |_::_,⟨h1,h2⟩=>⟨h1.ext hc,RT.oks.ext hc h2⟩
end
def RT.oks.mem{h:af}:∀{l:List RT},RT.oks h l->∀t∈l,t.ok h
 |_::_,⟨h1,h2⟩,t,ht=>by
  rcases ak3.1 ht with rfl|ht
  .exact h1
  .exact RT.oks.mem h2 t ht
def FB:∀t,(wx t).length=4
 |.mk _ _ _ _ _=>rfl
def US:∀{l m:List RT},l.length≠m.length->RT.mD l m=false
 |[],[],h=>absurd Y h
 |[],_::_,_=>by simp[RT.mD]
 |_::_,[],_=>by simp[RT.mD]
 |x::l,y::m,h=>by
  simp only[RT.mD,aoZ];exact .inr (US (by simpa using h))
mutual
def RT.agM:∀t:RT,t.same t=true
 |.mk _ _ _ _ l=>by simp[RT.same,RT.Mx l]
def RT.Mx:∀l:List RT,RT.mD l l=true
 |[]=>by simp[RT.mD]
 |t::l=>by simp[RT.mD,RT.agM t,RT.Mx l]
end
def agN{l m:List RT}{q:Nat}(hl:q<l.length)(hm:q<m.length):RT.mD (l.drop q) (m.drop q)=(l[q].same m[q]&&RT.mD (l.drop (q+1)) (m.drop (q+1))):=by
 rw[alx hl,alx hm,RT.mD]
def ag6{k i:Int}{s:BA}{v:Value}{l:List RT}{q:Nat}(hq:q<l.length):SizeOf.sizeOf l[q]<SizeOf.sizeOf (RT.mk k i s v l):=by
 have h1:=List.sizeOf_lt_of_mem (ak9 hq);rw[RT.mk.sizeOf_spec];omega
def Ut:∀(n:Nat)(a b:RT)(h:af),SizeOf.sizeOf a<n->a.ok h->b.ok h->aj Tryz.prog 10 [.agg ⟨wx a⟩,.agg ⟨wx b⟩] h (ao λr h'=>r=.bool (a.same b)∧ag [] h h')
 |0,_,_,_,hn,_,_=>absurd hn V
 |n+1,.mk k i s v l,.mk k' i' s' v' m,h,hn,⟨hv,hl,jx⟩,⟨hu,hm,wV⟩=>by
  obtain⟨x,c,rfl,di⟩:=hv.form;obtain⟨x',c',rfl,hmc⟩:=hu.form;have hs:RT.same (.mk k i s (.slice x l.length c) l) (.mk k' i' s' (.slice x' m.length c') m)=(decide (k=k')&&decide (i=i')&&decide (s=s')&&RT.mD l m):=by rw[RT.same]
  rw[hs];refine f10.c ?_;intro b1 h1 g1 b2 h2 g2;have B1:ai h2 b1 [.int .i64 k,.int .i64 i,.string s,.slice x l.length c]:=ai.ae g1.blk g2.ae Yy;have B2:ai h2 b2 [.int .i64 k',.int .i64 i',.string s',.slice x' m.length c']:=g2.blk;have ch:ag [] h h2:=g1.ae.nil g2.ae;refine Ei _ (Ai (an B1 Y) (Ei _ (Ai (an B2 Y) (Ai Y (Ai (λax=>?_) (λhe=>?_))))))
  .exact Ai (by rw[alg ax];rfl) ch
  have he:k=k':=anP.1 he;refine Ei _ (Ai (an B1 Y) (Ei _ (Ai (an B2 Y) (Ai Y (Ai (λax=>?_) (λhe2=>?_))))))
  .exact Ai (by rw[alg ax,anu];rfl) ch
  have he2:i=i':=anP.1 he2;refine Ei _ (Ai (an B1 Y) (Ei _ (Ai (an B2 Y) (Ai (λax=>?_) (λzj=>?_)))))
  .exact Ai (by rw[alg ax,anu];rfl) ch
  have zj:s=s':=anP.1 zj;rw[ale he,ale he2,ale zj,amD,amD,amD];refine Ei _ (Ai (an B1 Y) (Ei _ (Ai (an B2 Y) (Ai Y (Ai (λax=>?_) (λF3=>?_))))))
  .exact Ai (by rw[US V];rfl) ch
  have F3:l.length=m.length:=V
  clear hs he he2 zj g1 g2;refine bA (λq:Nat=>[(2,.pointer (some ⟨b1,0,none⟩)),(3,.pointer (some ⟨b2,0,none⟩)),(5,.int .i64 q)]) (λq h'=>q<=l.length∧ag [] h2 h'∧RT.mD l m=RT.mD (l.drop q) (m.drop q)) (λq=>l.length-q) 0 J3 ⟨ak8 _,ag.refl _,Y⟩ ?_;rintro q h3 ⟨hq,bB,hr⟩;have C1:=B1.ae bB Yy;have C2:=B2.ae bB Yy;refine Ei _ (Ai (an C1 Y) (Ai Y (Ai (λah=>?_) (λcp=>?_))))
  .have ah:q<l.length:=V
   have pP:q<m.length:=V
   have iA:=ch.nil bB;obtain⟨b,o,rfl⟩:=hv.addr V;obtain⟨b',o',rfl⟩:=hu.addr V;have aI:=(hv.ext iA).cells FB (i:=q) (x:=l[q]) (by simp[ah]);have iU:=(hu.ext iA).cells FB (i:=q) (x:=m[q]) (by simp[pP]);refine Ei _ (Ai (an C1 Y)<|Ai V (Ai V (Ei (wx l[q]) (Ai (FB _) (Ai aI<|Ei _ (Ai (an C2 Y)<|Ai V (Ai V (Ei (wx m[q]) (Ai (FB _) (Ai iU<|akV (Ut n l[q] m[q] h3 (by have:=ag6 (k:=k) (i:=i) (s:=s) (v:=.slice (some ⟨b,o,none⟩) l.length c) ah;omega) ((jx.mem _ (ak9 ah)).ext iA) ((wV.mem _ (ak9 pP)).ext iA)) ?_))))))))));rintro r h4 ⟨uZ,dw⟩;rw[agN ah pP]at hr;cases dU:l[q].same m[q]with
   |false=>
    rw[dU]at uZ hr;subst uZ;exact Ai (by rw[hr];rfl) (iA.nil dw)
   |true=>
    rw[dU]at uZ hr;subst uZ;refine Az<|Ai Y (Ei (q+1) (Ai J3 (Ai ⟨V,bB.nil dw,by rw[hr,amD]⟩ V)))
  .have aZ:q=l.length:=V
   subst aZ;rw[amE,F3,amE,RT.mD]at hr;exact Ai (by rw[hr];rfl) (ch.nil bB)
def EC(wh:Int)(A:List BA):Prop:=∀j,1<=j->j<A.length->kC wh j->∃m,(A[j]?.bind numOf)=some m
def zL(x:Int×Int×BA):RT:=.mk x.1 x.2.1 x.2.2 (.slice none 0 0) []
def U5{h:af}{v:Value}{l:List (Int×Int×BA)}(hs:SL bR h v l):SL wx h v (l.map zL):=by
 obtain⟨a,c,rfl,h1,h2⟩:=hs;refine⟨a,c,by rw[alL],by rw[alL];exact h1,?_⟩;rw[alL,List.flatMap_map];exact h2
def LW{h:af}:∀{l:List (Int×Int×BA)},RT.oks h (l.map zL)
 |[]=>trivial
 |x::l=>⟨⟨SL.nil,Yy,trivial⟩,LW⟩
def afP{h:af}{q:cR}{v u:Value}(hv:SL bR h v q.l)(hu:SL bR h u q.l)(hl:q.l.length<=200000):aj Tryz.prog 10 [.agg ⟨[.int .i64 q.k,.int .i64 q.i,.string q.s,v]⟩,.agg ⟨[.int .i64 q.k,.int .i64 q.i,.string q.s,u]⟩] h (ao λr h'=>r=.bool true∧ag [] h h'):=by
 have hc:=Ut _ (.mk q.k q.i q.s v (q.l.map zL)) (.mk q.k q.i q.s u (q.l.map zL)) h (aoK _) ⟨U5 hv,by simp;omega,LW⟩ ⟨U5 hu,by simp;omega,LW⟩;have e:RT.same (.mk q.k q.i q.s v (q.l.map zL)) (.mk q.k q.i q.s u (q.l.map zL))=true:=by simp[RT.same,RT.Mx]
 rw[e]at hc;exact hc
def aaE{w:List RX}{k:Nat}(hk:k<(w.map RX.pr).length)(fZ:k<w.length):(w.map RX.pr)[k]=(w[k].key,w[k].thing):=by
 rw[aoJ];rfl
def iJ:aM->cR×List aA
 |.ok p=>p
 |.error why=>(gF 2 0 why,[])
def nL(E:List aA):Prop:=∀e∈E,cy e.num
def qW:cy 0:=⟨Dd,Dd⟩
def sj:nL []:=λe he=>(nomatch he)
def pX{e:aA}(h:cy e.num):nL [e]:=λx hx=>by rw[alE.1 hx];exact h
def Gw{α:Type}{f:α->aA}{l:List α}(h:∀x∈l,cy (f x).num):nL (l.map f):=λe he=>by
 obtain⟨x,hx,rfl⟩:=alF.1 he;exact h x hx
def vg{E F:List aA}(h1:nL E)(h2:nL F):nL (E++F):=λe he=>(alf.1 he).elim (h1 e) (h2 e)
def eQ(res:aM):Prop:=(iJ res).1.l.length<=200000∧((iJ res).2.length<=45∨(iJ res).2.length<=100000∧∀e∈(iJ res).2,e.op=1)∧nL (iJ res).2
def A0(g:Nat)(now:Int)(AA:List BA)(res:aH->aM):Prop:=∀{h:af}{kb sb mb c:Nat}{m:List KI}{S:aH}{av:Value},KR h kb sb mb c m->bT m S->S8 S->S9 S->dr h->K5.fw h->SL encS h av AA->aj Tryz.prog g [ptr kb,.int .i64 now,av] h (ao (j9 h (res S)))
abbrev Ny:=A0 112
def Nz(g:Nat)(now:Int)(AA:List BA)(res:aH->aM):Prop:=∀{h:af}{kv av:Value}{k:List RX},SL dv h kv k->GX h k->gR k->k.length<=65536->oB k->S8 (k.map RX.pr)->S9 (k.map RX.pr)->dr h->SL encS h av AA->aj Tryz.prog g [kv,.int .i64 now,av] h (ao (j9 h (res (k.map RX.pr))))
abbrev V5:=Nz 23
def Lx:BA:=⟨#[68,69,76]⟩
def Ly:BA:=⟨#[69,88,73,83,84,83]⟩
def LB:BA:=⟨#[77,71,69,84]⟩
def LC:BA:=⟨#[77,83,69,84]⟩
def Ae:BA:=⟨#[75,69,89,83]⟩
def Ab:BA:=⟨#[68,66,83,73,90,69]⟩
def Ac:BA:=⟨#[70,76,85,83,72,65,76,76]⟩
section
variable {h0 h h1 h':af}{xb i b4:Nat}{now n:Int}{kv av lv:Value}{k:List RX}{A B:List BA}{L E:List aA}{why key s:BA}{M:List En}{T:List Nat}{res:aM}{ls:List (Int×Int×BA)}
def afT(c:dT h0 kv k av A)(rg:RG k)(x:As h0 h (akY xb [] kv now av lv [] au)):aj Tryz.prog 81 [ptr xb,.string Ab] h
  (ao (bZ h0 h xb kv now av lv (.ok (bO (jy now (k.map RX.pr)).length,[])))):=by
 refine f81.c ?_;intro b4 h1 g1;have w:=x.st.new g1;refine w.aG 1 Y Y<|w.aG 1 Y Y<|akV (Ih now (c.sl.ext (x.base w)) (c.gx.ext (x.base w)) rg) ?_;rintro r h2 ⟨ho,hf,c2⟩;obtain⟨a,cc,rfl,_⟩:=ho.form;have w:=w.ext c2;exact Ai (λ_=>w.aV eZ λh3 w=>w.st1 0 Y Y Y Y λh4 w=>bZ.fin (j:=0) x w 0 1 Y Y (Jd.ok Y)) (λh9=>absurd Y h9)
def afh(c:dT h0 kv k av A)(rg:RG k)(x:As h0 h (akY xb [] kv now av lv [] au)):aj Tryz.prog 81 [ptr xb,.string Ac] h
  (ao (bZ h0 h xb kv now av lv (.ok (lS,(k.map RX.pr).map λp=>iS p.1)))):=by
 have aZ:=rg.len;obtain⟨ka,kc,rfl,_⟩:=c.sl.form;refine f81.c ?_;intro b4 h1 g1;have w:=x.st.new g1;refine w.aG 1 Y Y<|w.aG 1 Y Y<|akV (Ih now (c.sl.ext (x.base w)) (c.gx.ext (x.base w)) rg) ?_;rintro r h2 ⟨ho,hf,c2⟩;have w:=w.ext c2;refine Bn<|Ai (λ_=>?_) (λh9=>absurd Y h9);refine bA (λq:Nat=>[(0,ptr xb),(4,ptr b4),(6,.int .i64 q)])
  (λq h'=>q<=k.length∧∃aY,St (xb::aq lv) h h' [.b b4 zR,akY xb [] (.slice ka k.length kc) now av aY ((k.take q).map λy=>iS y.key) au]) (λq=>k.length-q) 0 J3 ⟨ak8 _,lv,w⟩ ?_
 rintro q h3 ⟨hq,aY,w⟩;refine w.aG 1 Y Y<|Bi (λah=>?_) λcp=>?_
 .have ah:q<k.length:=V
  have iB:=AO (λy:RX=>iS y.key) k q ah;have fK:((k.take q).map λy:RX=>iS y.key).length<=65536:=by simp;omega
  obtain⟨b,o,rfl⟩:=c.sl.addr V;have aI:=(c.sl.ext (x.base w)).cells gT (i:=q) (x:=k[q]) (by simp[ah]);obtain⟨la,lc,rfl⟩:=w.mB 1 Y;refine w.aG 1 Y Y<|w.aG 1 Y Y<|Ai V (Ai V (Ei _ (Ai (aI 0 _ Y) ?_)));intro b8 h4 g4;have w:=w.new g4;refine w.pd 2 Y Y (iI (e:=iS k[q].key) (w.get 0 Y)) (by simp only[ak0,aly];omega) λa5 c5 h5 eU=>?_;refine eU λh6 w=>?_;have w:=w.pick [1,2] Dd;rw[<-iB]at w;exact Az<|Ai Y (Ei (q+1) (Ai J3 (Ai ⟨ah,_,w⟩ V)))
 .have aZ:q=k.length:=V
  subst aZ;exact w.aV xN λh5 w=>w.st1 0 Y Y Y Y λh6 w=>bZ.fin (j:=0) x w 0 1 Y Y (Jd.ok (by rw[alm,am'];rfl))
def afF(c:dT h0 kv k av A)(rg:RG k)(x:As h0 h (akY xb [] kv now av lv [] au)):aj Tryz.prog 81 [ptr xb,.string Ae] h
  (ao (bZ h0 h xb kv now av lv (.ok (⟨5,0,au,(jy now (k.map RX.pr)).map λs=>(4,0,s)⟩,[])))):=by
 have aZ:=rg.len;refine f81.c ?_;intro b4 h1 g1;have w:=x.st.new g1;refine w.aG 1 Y Y<|w.aG 1 Y Y<|akV (Ih now (c.sl.ext (x.base w)) (c.gx.ext (x.base w)) rg) ?_;rintro r h2 ⟨ho,hf,c2⟩;have oR:(jy now (k.map RX.pr)).length<=65536:=by
  have:=Dw (now:=now) (S:=k.map RX.pr);simp at this;omega
 obtain⟨nl,lL⟩:∃nl,nl=jy now (k.map RX.pr):=⟨_,Y⟩
 rw[<-lL]at ho oR⊢;have w:=w.add (e:=.o encS 1 r nl) c2 ho hf;obtain⟨a,cc,rfl,_⟩:=ho.form;refine Bn<|Bn ?_;intro b7 h3 g3;have w:=w.new g3;refine w.st1 0 Y Y Y Y λh4 w=>?_;have w:=w.empty (enc:=bR) (size:=4);refine bA (λq:Nat=>[(0,ptr xb),(4,ptr b4),(5,.slice a nl.length cc),(7,ptr b7),(8,.int .i64 q)])
  (λq h'=>q<=nl.length∧∃v,St (xb::aq lv) h h' [.o bR 4 v ((nl.take q).map λs=>(4,0,s)),.b b7 [.int .i64 5,.int .i64 0,.string ⟨#[]⟩,v],.o encS 1 (.slice a nl.length cc) nl,.b b4 zR,akY xb [] kv now av lv [] au])
  (λq=>nl.length-q) 0 J5 ⟨ak8 _,.slice none 0 0,w⟩ ?_
 rintro q h5 ⟨hq,v,w⟩;obtain⟨a3,c3,rfl,_⟩:=(show OL bR 4 h5 v ((nl.take q).map λs=>(4,0,s))from w.get 0 Y).sl.form;have aQ:SL encS h5 (.slice a nl.length cc) nl:=(show OL encS 1 h5 (.slice a nl.length cc) nl from w.get 2 Y).sl;refine Bi (λah=>?_) λcp=>?_
 .have ah:q<nl.length:=V
  have iB:=AO (λs:BA=>((4:Int),(0:Int),s)) nl q ah;have fK:((nl.take q).map λs:BA=>((4:Int),(0:Int),s)).length<=65536:=by simp;omega
  obtain⟨b,o,rfl⟩:=aQ.addr V;have aI:=aQ.cells bj (akU ah);refine w.ld1 1 Y Y<|Ai V (Ai V (Ei _ (Ai (by simpa using aI 0 _ Y) ?_)));refine w.qx rm λh6 w=>?_;intro vV h7 g7;have w:=w.new g7;refine w.app 1 Y jb pI Y (SL.one jb (x:=(4,0,nl[q])) (w.get 0 Y)) (by simp only[ak0,aly];omega) λv' h8 w=>?_;rw[<-iB]at w;obtain⟨a6,c6,rfl,_⟩:=(show OL bR 4 h8 v' ((nl.take (q+1)).map λs=>(4,0,s))from w.get 1 Y).sl.form;refine w.st1 2 Y Y Y Y λh9 w=>?_;have w:=w.pick [1,2,3,4,5] Dd;exact Az<|Ai Y (Ei (q+1) (Ai J5 (Ai ⟨ah,_,w⟩ V)))
 .have aZ:q=nl.length:=V
  subst aZ;exact w.fS 1 Y Y<|w.st1 3 Y Y Y Y λh4 w=>bZ.gv x w 3 4 0 Y Y Y (SX (aY:=lv) w 0 4 Y Y Dd) (Jd.ok (by rw[alm]))
end
end Go.Proofs.YtocgmipngoiieaaGreatDoor
namespace Go.Proofs.YtocgmipngoiieaaGreatDoor
open Go Go.Sx C
def GQ:BA:=⟨#[84,89,80,69]⟩
def Lz:BA:=⟨#[73,78,67,82,66,89]⟩
def LA:BA:=⟨#[73,78,67,82]⟩
def Lw:BA:=⟨#[68,69,67,82]⟩
def Nw(N:BA)(lo hi:Int):Prop:=∀h,aj Tryz.prog 47 [.string N] h (ao λr h'=>r=.tuple #[.int .i64 lo,.int .i64 hi,.bool true]∧h'=h)
def jB:List (BA×Int×Int):=[(LD,2,4),(Ad,1,1),(GQ,1,1),(LA,1,1),(Lw,1,1),(Af,1,1),(xE,1,1),(xF,1,1),(Lx,1,65536),(Ly,1,65536),(LB,1,65536),(LC,2,65536),(Lz,2,2),(Aa,2,2),(xD,2,2),(Ae,0,0),(Ab,0,0),(Ac,0,0)]
def rb8{N:BA}{lo hi:Int}(hm:(N,lo,hi)∈jB):Nw N lo hi:=by
 intro h;simp only[jB,ak3,aof,amU,anF]at hm;rcases hm with⟨rfl,rfl,rfl⟩|⟨rfl,rfl,rfl⟩|⟨rfl,rfl,rfl⟩|⟨rfl,rfl,rfl⟩|⟨rfl,rfl,rfl⟩|⟨rfl,rfl,rfl⟩|⟨rfl,rfl,rfl⟩|⟨rfl,rfl,rfl⟩|⟨rfl,rfl,rfl⟩|⟨rfl,rfl,rfl⟩|⟨rfl,rfl,rfl⟩|⟨rfl,rfl,rfl⟩|⟨rfl,rfl,rfl⟩|⟨rfl,rfl,rfl⟩|⟨rfl,rfl,rfl⟩|⟨rfl,rfl,rfl⟩|⟨rfl,rfl,rfl⟩|⟨rfl,rfl,rfl⟩
 all_goals
  refine f47.c ?_
  repeat refine Bn ?_
  refine Ai (λ_=>?_) (λhe=>absurd Y he);exact⟨Y,Y⟩
section
variable {h0 h h1 h':af}{xb i fn:Nat}{now n:Int}{kv av lv:Value}{k:List RX}{A B:List BA}{args:List Value}{L:List aA}{why key s N:BA}{M:List En}{T:List Nat}{res:aM}
def kV:List (BA×Nat×List Value):=[(LD,72,[]),(Ad,73,[.string Ad]),(Af,73,[.string Af]),(Aa,73,[.string Aa]),(Lx,74,[.bool true]),(Ly,74,[.bool false]),(LA,78,[.int .i64 1]),(Lw,78,[.int .i64 (-1)]),
 (LB,79,[.bool false]),(LC,79,[.bool true]),(xD,80,[.string xD]),(xE,80,[.string xE]),(xF,80,[.string xF]),(Ae,81,[.string Ae]),(Ab,81,[.string Ab]),(Ac,81,[.string Ac])]
set_option maxHeartbeats 2000000 in
def mC(hs:(N,fn,args)∈kV)(x:As h0 h (akY xb [] kv now av lv [] au))(hc:∀{h1},As h0 h1 (akY xb [] kv now av lv [] au)->aj Tryz.prog fn (ptr xb::args) h1 (ao (bZ h0 h1 xb kv now av lv res))):aj Tryz.prog 49 [ptr xb,.string N] h (ao (bZ h0 h xb kv now av lv res)):=by
 simp only[kV,ak3,aof,amU,anF]at hs;rcases hs with⟨rfl,rfl,rfl⟩|⟨rfl,rfl,rfl⟩|⟨rfl,rfl,rfl⟩|⟨rfl,rfl,rfl⟩|⟨rfl,rfl,rfl⟩|⟨rfl,rfl,rfl⟩|⟨rfl,rfl,rfl⟩|⟨rfl,rfl,rfl⟩|⟨rfl,rfl,rfl⟩|⟨rfl,rfl,rfl⟩|⟨rfl,rfl,rfl⟩|⟨rfl,rfl,rfl⟩|⟨rfl,rfl,rfl⟩|⟨rfl,rfl,rfl⟩|⟨rfl,rfl,rfl⟩|⟨rfl,rfl,rfl⟩
 all_goals
  refine f49.c ?_;intro b4 h1 g1;have i1:=g1.id;have z1:=g1.size;have w:=x.st.new g1
  repeat first|refine Bn ?_|refine Ai (λ_=>?_) (λhe=>absurd Y he)
  refine akV (hc (x.out w 1 Y).1) ?_;rintro _ h3 ⟨q,aY,E,why,⟨ra,rn,rc,rfl,sl,fr⟩,⟨_,o3⟩,hd⟩;have w:=w.own 1 Y o3;refine w.st2 0 Y Y Y Y λh4 w k4=>?_;exact⟨_,Y,akW (w.get 0 Y),q,aY,E,why,⟨ra,rn,rc,Y,sl.ae k4 (λb hb=>by have:=fr b hb;simp;omega),λb hb=>by have:=fr b hb;omega⟩,x.out w 1 Y,hd⟩
def afK(c:dT h0 kv k av A)(x:As h0 h (akY xb [] kv now av lv [] au))(hA:A=[key,s])(hk:key.size<281474976710656)(hs:s.size<281474976710656)(hl:dr h0)(hT:pA (k.map RX.pr)):aj Tryz.prog 49 [ptr xb,.string Lz] h (ao (bZ h0 h xb kv now av lv (Bt (k.map RX.pr) now A))):=by
 subst hA;rw[show Bt (k.map RX.pr) now [key,s]=Cc (k.map RX.pr) key now (numOf s)from Y];refine f49.c ?_;intro b4 h1 g1;have i1:=g1.id;have z1:=g1.size;have w:=x.st.new g1
 repeat refine Bn ?_
 refine Ai (λ_=>akV (AB (j:=1) (s:=s) c (x.out w 1 Y).1 Y V) ?_) (λh9=>absurd Y h9);rintro _ h2 ⟨rfl,_,o2⟩;have w:=w.own 1 Y o2;have z2:=w.size;obtain⟨u,hu⟩:∃u,u=numOf s:=⟨_,Y⟩
 rw[<-hu]at w⊢;cases u with
 |none=>
  exact w.st1 0 Y Y Y Y λh6 w=>bZ.fin (j:=0) x w 0 1 Y Y (Jd.no (why:=jN) Dd Y)
 |some n=>
  have z12:h1.size<=h2.size:=o2.ae.size;rw[show Cc (k.map RX.pr) key now (some n)=nT (k.map RX.pr) key now n (aC (k.map RX.pr) key now)from Y];refine akV (Mh c (x.out w 1 Y).1 Y hk (gC hu.symm) hl hT) ?_;rintro _ h3 ⟨q,aY,E,why,⟨ra,rn,rc,rfl,sl,fr⟩,⟨_,o3⟩,hd⟩;have w:=w.own 1 Y o3;refine w.st2 0 Y Y Y Y λh4 w k4=>?_;exact⟨_,Y,akW (w.get 0 Y),q,aY,E,why,⟨ra,rn,rc,Y,sl.ae k4 (λb hb=>by have:=fr b hb;simp;omega),λb hb=>by have:=fr b hb;omega⟩,x.out w 1 Y,hd⟩
def afL(c:dT h0 kv k av A)(x:As h0 h (akY xb [] kv now av lv [] au))(hA:A=[key])(hk:key.size<281474976710656)(uX:Ez (k.map RX.pr)):aj Tryz.prog 49 [ptr xb,.string GQ] h (ao (bZ h0 h xb kv now av lv (Bu (k.map RX.pr) now A))):=by
 subst hA;obtain⟨b,o,cc,rfl⟩:=c.cz Yy;have dk:=Rt (key:=key) (now:=now) uX;rw[show Bu (k.map RX.pr) now [key]=.ok (gF 1 0 (kindName ((aC (k.map RX.pr) key now).getD aL).kind),[])from Y];refine f49.c ?_;intro b4 h1 g1;have w:=x.st.new g1
 repeat refine Bn ?_
 refine Ai (λ_=>w.aG 1 Y Y (w.aG 1 Y Y (c.ix (x.base w) 0 Y Y (w.aG 1 Y Y (qB w (c.aC (x.base w) key V) [(0,ptr xb),(1,.string GQ),(4,ptr b4)] Y Y Y J3 Y (kA (kB (nz eV))) λh2 b5 pv lw rv w eB _=>?_))))) (λh9=>absurd Y h9);generalize (aC (k.map RX.pr) key now).getD aL=t at dk w⊢;intro b9 h3 g3;have w:=w.new g3;refine w.ld1 1 Y Y ?_;have MG:([Value.string ⟨#[110,111,110,101]⟩,.string ⟨#[115,116,114,105,110,103]⟩,.string ⟨#[104,97,115,104]⟩,.string ⟨#[108,105,115,116]⟩,.string ⟨#[115,101,116]⟩,.string ⟨#[122,115,101,116]⟩])[0+t.kind.toNat*1]? =some (.string (kindName t.kind)):=by
  obtain⟨k0,k5⟩:=dk;have:t.kind=0∨t.kind=1∨t.kind=2∨t.kind=3∨t.kind=4∨t.kind=5:=V
  rcases this with e|e|e|e|e|e<;>rw[e]<;>rfl
 exact Ai dk.1 (Ai (by have:=dk.2;simp;omega) (Ei _ (Ai (an (w.get 0 Y) MG)<|w.aV xN λh4 w=>w.st1 2 Y Y Y Y λh5 w=>bZ.fin (j:=0) x w 2 3 Y Y (Jd.ok Y))))
end
def ae6{h:af}{kv av:Value}{k:List RX}{now lo hi:Int}{w N:BA}{A:List BA}{res:aM}(aQ:SL dv h kv k)(lG:GX h k)(gg:gR k)(hlen:k.length<4611686018427387904)(bK:oB k)(hA:SL encS h av (w::A))(hl:(w::A).length<4611686018427387904)(hz:w.size<4611686018427387904)(hN:up w=N)(hb:Nw N lo hi)(pR:¬(lo<=A.length∧(A.length:Int)<=hi)->res=.error cX)(hf:∀h1 xb fO,lo<=A.length∧(A.length:Int)<=hi->dT h kv k fO A->As h h1 (akY xb [] kv now fO (.slice none 0 0) [] au)->aj Tryz.prog 49 [ptr xb,.string N] h1 (ao (bZ h h1 xb kv now fO (.slice none 0 0) res))):aj Tryz.prog 22 [kv,.int .i64 now,av] h (ao (j9 h res)):=by
 obtain⟨ka,kc,rfl,_⟩:=aQ.form;obtain⟨a,cc,rfl,ie⟩:=hA.form;obtain⟨b0,o0,rfl⟩:=hA.addr Yy;refine f22.c ?_;intro b6 h1 g1;have w1:=(St.start h).new g1;refine Ai Y (Ai (λh0=>absurd h0 Ys) (λ_=>?_));have hc0:=(hA.ext w1.ae).cells bj (i:=0) (x:=w) Yy;refine Ai Dd (Ai Yy (Ei _ (Ai (by simpa using hc0 0 _ Y) ?_)));refine w1.aV (AG hz) λh2 w2=>?_;rw[hN];refine dN (hb h2)<|Ai Dd (Ai (by simp only[ak0];omega) (Ai V<|ub (lo:=1) (hi:=(w::A).length) bj (hA.ext w2.ae) Yy (ali _) λv1 bL=>?_));have e1:((w::A).drop 1).take ((w::A).length-1)=A:=Yy
 rw[e1]at bL;obtain⟨a1,lh,rfl,JT⟩:=(bL h hA).form;intro xb h5 g5;have w5:St [] h h5 [.b xb (.slice ka k.length kc::.int .i64 now::.slice a1 A.length lh::.slice none 0 0::.string au::[]),.b b6 zR]:=w2.new g5;have z2:=w2.ae.size;have i5:=g5.id;have c:dT h (.slice ka k.length kc) k (.slice a1 A.length lh) A:=⟨aQ,lG,gg,hlen,bK,λh' hc=>bL h' (hA.ext hc)⟩
 have LK:xb∉aq (.slice none 0 0):=λhm=>(nomatch (show xb∈([]:List Nat)from hm))
 have w:St [] h h5 [akY xb [] (.slice ka k.length kc) now (.slice a1 A.length lh) (.slice none 0 0) [] au,.b b6 zR]:=
  w5.set 0 Y (ag.refl _) Yy ⟨w5.get 0 Y,OL.nil,LK⟩ (λb hb=>by
   rcases ak3.1 hb with rfl|hb
   .exact .inl (by simp[En.fp])
   .exact(nomatch (show b∈([]:List Nat)from hb)))
 refine akV (Uk c (w.as 0 Y)) ?_;rintro _ h6 (⟨m1,m2,rfl,_,o6⟩|⟨mn,rfl,_,o6⟩);rotate_left
 .have w:=w.own 0 Y o6;refine w.aG 0 Y Y<|w.aV vA λh7 w=>w.st1 1 Y Y Y Y λh8 w=>?_;rw[pR mn];exact⟨_,Y,akW (w.get 1 Y),w.ae,Y⟩
 have w:=w.own 0 Y o6;refine akV (hf h6 xb _ ⟨m1,m2⟩ c (w.as 0 Y)) ?_;rintro _ h7 ⟨q,aY,E,why,⟨ra,rn,rc,rfl,sl,fr⟩,⟨_,o7⟩,hd⟩;have w:=w.own 0 Y o7;have i6:=g1.id;have z6:h.size<h6.size:=by have:=g1.size;have:=w2.ae.size;have:=(w1.ext (ag.refl _)).ae.size;have:=o6.ae.size;have:=g5.size;omega
 intro fH h8 g8;have w:=w.new g8;have Rh:=g8.id;have z7:h6.size<=h7.size:=o7.ae.size;refine w.st2 0 Y Y Y Y λh9 w k9=>?_;have sl9:SL bR h9 (.slice ra rn rc) q.l:=sl.ext (g8.ae.fresh k9 Ys);refine w.aG 1 Y Y ?_;rcases hd with⟨rfl,hd⟩|⟨ax,hd⟩
 .refine Ai (λh9=>absurd Y h9) (λ_=>?_);obtain⟨la,lc,rfl⟩:=w.mB 1 Y;have fin:∀{h':af},St [] h h' [.b fH [.int .i64 q.k,.int .i64 q.i,.string q.s,.slice ra rn rc],akY xb [] (.slice ka k.length kc) now (.slice a1 A.length lh) (.slice la E.length lc) E au,.b b6 [.int .i64 q.k,.int .i64 q.i,.string q.s,.slice ra rn rc]]->ag [b6] h9 h'->
    ∃vs,vs.length=4∧fF h' b6 0 vs∧j9 h res (.tuple ⟨[.agg ⟨vs⟩,.slice la E.length lc,.bool true]⟩) h':=λw k=>by
   rw[hd];refine⟨_,Y,akW (w.get 2 Y),w.ae,_,_,Y,⟨ra,rn,rc,Y,sl9.ae k (λb hb=>by have:=fr b hb;simp;omega),λb hb=>by have:=fr b hb;omega⟩,(w.get 1 Y).2.1.sl,λb hb=>?_⟩;rcases(w.ents 1 _ rfl).2 b (alr _ hb)with h1|h1
   .cases h1
   .exact h1
  refine w.fS 0 Y Y<|Ai ?_ ?_
  .exact w.aG 1 Y Y<|w.st2 2 Y Y Y Y λbp w La=>fin w La
  .exact w.st2 2 Y Y Y Y λbp w La=>w.aG 1 Y Y<|fin w La
 .refine Ai (λ_=>w.aG 1 Y Y (w.aV vA λbp w=>w.st1 2 Y Y Y Y λdO w=>?_)) (λh9=>absurd (λe=>ax e) h9);rw[hd];exact⟨_,Y,akW (w.get 2 Y),w.ae,Y⟩
end Go.Proofs.YtocgmipngoiieaaGreatDoor
namespace Go.Proofs.YtocgmipngoiieaaGreatDoor
open Go Go.Sx C
variable{av:Value}{h:af}{kb mb:Nat}{now:Int}{sb:Nat}
def kR:Value:=.tuple ⟨[lT 0 0 au,.slice none 0 0,.bool false]⟩
def Yp{kv nv:Value}{a:Option Addr}{cc:Nat}:aj Tryz.prog 111 [kv,nv,.slice a 0 cc] h (ao λr h'=>r=kR∧ag [] h h'):=by
 refine I6 Yy ?_;intro b6 h1 g1;have w:=(St.start h).new g1;intro b7 h2 g2;have w:=w.new g2;refine Ai Y (Ai (λ_=>w.st1 1 Y Y Y Y λh5 w=>w.st1 0 Y Y Y Y λh6 w=>?_) (λh0=>absurd Y h0));exact⟨_,Y,akW (w.get 1 Y),_,an (w.get 0 Y) Y,Y,w.ae⟩
def Yq{c:Nat}{w W:BA}{A:List BA}{m:List KI}(kr:KR h kb sb mb c m)(hA:SL encS h av (w::A))(hl:(w::A).length<4611686018427387904)(hz:w.size<4611686018427387904)(bw:jz lu (up w)=none):aj Tryz.prog 111 [ptr kb,.int .i64 now,av] h (ao λr h'=>r=kR∧ag [] h h'):=by
 obtain⟨a,cc,rfl,ie⟩:=hA.form;obtain⟨b0,o0,rfl⟩:=hA.addr Yy;refine I6 Yy ?_;intro b6 h1 g1;have w1:=(St.start h).new g1;intro b7 h2 g2;have w2:=w1.new g2;have c2:ag [] h h2:=w2.ae;refine Ai Y (Ai (λh0=>absurd h0 Ys) (λ_=>dN (Ht (kr.ext c2).ks) ?_));have mh:=hA.ext c2;have hc0:=mh.cells bj (i:=0) (x:=w) Yy;refine Ai Dd (Ai Yy (Ei _ (Ai (by simpa using hc0 0 _ Y) ?_)));refine iw OP ?_;rintro _ h3 ⟨c3,b,es,c',rfl,hm,bK,wN⟩;refine Ai c3.ext<|iw (EZ hz) ?_;rintro _ h4 ⟨rfl,c4⟩;refine Ai c4.ext<|Ai Y (Ei es (Ei c' (Ai (hm.ae c4 Yy) (Ai bK ?_))));have jD:=wN (up w);rw[bw]at jD;have jD:bH (.string (up w)) es 0=none:=jD;rw[jD];have w4:=(w2.ext c3).ext c4;refine w4.st1 1 Y Y Y Y λh5 w5=>w5.st1 0 Y Y Y Y λh6 w6=>?_;exact⟨_,Y,akW (w6.get 1 Y),_,an (w6.get 0 Y) Y,Y,w6.ae⟩
def Yr{c g:Nat}{w : BA}{A : List BA}{m : List KI}{res : aM}(kr : KR h kb sb mb c m)(hA : SL encS h av (w :: A))(hl : (w :: A).length < 4611686018427387904)(hz : w.size < 4611686018427387904)(bw : jz lu (up w) = some (g, none))(hf : ∀h1 ab fO, AS h h1 ab kb now fO A (.slice none 0 0) [] -> aj Tryz.prog g [ptr ab] h1 (fq h h1 ab kb now fO A (.slice none 0 0) res)):aj Tryz.prog 111 [ptr kb, .int .i64 now, av] h (ao (j9 h res)) :=
  O8 kr hA hl hz bw λh1 ab fO cap hc x => by
    have hc : cap = [] := hc;subst hc;exact hf h1 ab fO x
def Yt{c:Nat}{n:Int}{w : BA}{A : List BA}{m : List KI}{S : aH}(kr : KR h kb sb mb c m)(hs : bT m S)(aU : dr h)(hT : pA S)(hA : SL encS h av (w :: A))(hl : (w :: A).length < 4611686018427387904)(hz : ∀s ∈ w :: A, s.size < 281474976710656)(hn : cy n)(bw : jz lu (up w) = some (247, some n)):aj Tryz.prog 111 [ptr kb, .int .i64 now, av] h (ao (j9 h (uE S now n A))) :=
  O8 kr hA hl (by have := hz w Yy; omega) bw λh1 ab fO cap hc x => by
    obtain ⟨b, o, rfl, hc⟩ := hc;exact ahn x kr hs aU hc hn (λs hs => hz s (by simp [hs])) hT

end Go.Proofs.YtocgmipngoiieaaGreatDoor
namespace Go.Proofs.YtocgmipngoiieaaGreatDoor
open Go Go.Sx C
def amk{h:af}{kv nv:Value}{a:Option Addr}{cc:Nat}:aj Tryz.prog 112 [kv,nv,.slice a 0 cc] h (ao λr h'=>r=kR∧ag [] h h'):=by
 refine I5 Yy ?_;intro b6 h1 g1;have w:=(St.start h).new g1;intro b7 h2 g2;have w:=w.new g2;refine Ai Y (Ai (λ_=>w.st1 1 Y Y Y Y λh5 w=>w.st1 0 Y Y Y Y λh6 w=>?_) (λh0=>absurd Y h0));exact⟨_,Y,akW (w.get 1 Y),_,an (w.get 0 Y) Y,Y,w.ae⟩
def aml{h:af}{kb sb mb c:Nat}{now:Int}{av:Value}{w:BA}{A:List BA}{m:List KI}(kr:KR h kb sb mb c m)(hA:SL encS h av (w::A))(_hl:(w::A).length<4611686018427387904)(hz:w.size<4611686018427387904)(bw:kP ala (up w)=none):aj Tryz.prog 112 [ptr kb,.int .i64 now,av] h (ao λr h'=>r=kR∧ag [] h h'):=by
 obtain⟨a,cc,rfl,ie⟩:=hA.form;obtain⟨b0,o0,rfl⟩:=hA.addr Yy;refine I5 Yy ?_;intro b6 h1 g1;have w1:=(St.start h).new g1;intro b7 h2 g2;have w2:=w1.new g2;have c2:ag [] h h2:=w2.ae;refine Ai Y (Ai (λh0=>absurd h0 Ys) (λ_=>dN (Ht (kr.ext c2).ks) ?_));have mh:=hA.ext c2;have hc0:=mh.cells bj (i:=0) (x:=w) Yy;refine Ai Dd (Ai Yy (Ei _ (Ai (by simpa using hc0 0 _ Y) ?_)));refine iw OO ?_;rintro _ h3 ⟨c3,b,es,c',rfl,hm,bK,wN⟩;refine Ai c3.ext<|iw (R3 hz) ?_;rintro _ h4 ⟨rfl,c4⟩;refine Ai c4.ext<|Ai Y (Ei es (Ei c' (Ai (hm.ae c4 Yy) (Ai bK ?_))));have jD:=wN (up w);rw[bw]at jD;have jD:bH (.string (up w)) es 0=none:=jD;rw[jD];have w4:=(w2.ext c3).ext c4;refine w4.st1 1 Y Y Y Y λh5 w5=>w5.st1 0 Y Y Y Y λh6 w6=>?_;exact⟨_,Y,akW (w6.get 1 Y),_,an (w6.get 0 Y) Y,Y,w6.ae⟩
section
variable {S:aH}{now kd:Int}{key s u:BA}{names:List BA}{f:aB->aM}{res:aM}{r:cR}{E:List aA}{a b:aM}
def Dt(h:jm kd (aC S key now)=true):bX S now kd key f=f ((aC S key now).getD aL):=by
 unfold bX;cases hg:aC S key now with
 |none=>rfl
 |some t=>
  rw[hg]at h;exact ak4 (amy h)
def Ds(h:jm kd (aC S key now)=false):bX S now kd key f=.error gI:=by
 unfold bX;cases hg:aC S key now with
 |none=>rw[hg]at h;cases h
 |some t=>
  rw[hg]at h;exact akZ (an9 h)
def xy{items:Int}{ok:Bool}(h1:items<=65536)(h2:key.size<=300)(h3:ok=true):makes S now key items ok r E=.ok (r,cV S key now++E):=ak4 ⟨h1,V,h3⟩
def ER{l:List BA}(h:∀s∈l,s.size<=300):l.all small=true:=amV.2 λs hs=>ale (by have:=h s hs;omega)
end
def Rm{z:Int}(hz:cy z):(⟨⟨Lib.itoa z⟩⟩:BA).size<=300:=by
 have h9:(Lib.itoa (0+z)).length<=20:=K7 (k:=0) (n:=z) ⟨by have:=hz.1;omega,by have:=hz.2;omega⟩;rw[Int.zero_add]at h9;show(Lib.itoa z).length<=_;omega
end Go.Proofs.YtocgmipngoiieaaGreatDoor
namespace Go.Proofs.YtocgmipngoiieaaGreatDoor
open Go Go.Sx C
section
variable {h0 h h1 h':af}{xb i:Nat}{now n m:Int}{kv av lv pv lw rv:Value}{k:List RX}{A:List BA}{L E:List aA}{why key s u nm:BA}{t:aB}{M:List En}{T:List Nat}{res:aM}
def Rn{α:Type}{l:List α}{p:α->Bool}{k:Nat}(hk:k<l.length)(hp:p l[k]=true)(hn:∀j(hj:j<l.length),j<k->p l[j]=false):l.find? p=some l[k]:=by
 rw[anM];refine⟨hp,l.take k,l.drop (k+1),?_,λx hx=>?_⟩
 .rw[List.getElem_cons_drop,ama]
 .obtain⟨j,hj,rfl⟩:=ane.1 hx;rw[alA]at hj;rw[anl,hn j V V];rfl
def Ml(x:As h0 h (aT xb t pv lw rv key kv now av lv L why))(g:eJ h0 kv k av A key t pv lw rv):aj Tryz.prog 89 [ptr xb,.string nm] h
  (ao λr h'=>((gu t.pairs nm=none∧r=.tuple #[.string au,.bool false])∨∃s,gu t.pairs nm=some s∧r=.tuple #[.string s,.bool true])∧h'=h):=by
 have w:=x.st;have aQ:=(fT (g.th h (x.base w))).1;obtain⟨la,lc,rfl,_⟩:=aQ.form;have ln:t.pairs.length<=2000:=g.t9.ps;refine f89.c<|bA (λi:Nat=>[(0,ptr xb),(1,.string nm),(6,.int .i64 i)]) (λi h'=>i<=t.pairs.length∧(∀j(hj:j<t.pairs.length),j<i->t.pairs[j].name≠nm)∧h'=h) (λi=>t.pairs.length-i) 0
  J3 ⟨ak8 _,λj _ h=>absurd h V,Y⟩ ?_
 rintro i h4 ⟨hi,bD,e⟩;have e:=e.symm;subst e;refine w.aG 0 Y Y<|Bi (λah=>?_) λcp=>?_
 .have ah:i<t.pairs.length:=V
  obtain⟨b,o,rfl⟩:=aQ.addr V;have aI:=aQ.cells du (akU ah);refine w.aG 0 Y Y<|Ai V (Ai V (Ei _ (Ai (by simpa using aI 0 _ Y) ?_)));refine Ai (λhe=>?_) (λax=>?_)
  .refine w.aG 0 Y Y<|Ai V (Ai V (Ei _ (Ai (by simpa using aI 1 _ Y) ?_)));have hf:t.pairs.find? (λp=>decide (p.name=nm))=some t.pairs[i]:=Rn ah (ale he) λj hj h=>alg (bD j hj h);exact⟨.inr ⟨t.pairs[i].text,by unfold gu;rw[hf];rfl,Y⟩,Y⟩
  .refine Az<|Ai Y (Ei (i+1) (Ai J3 (Ai ⟨ah,λj hj h=>?_,Y⟩ V)));rcases amQ j i with h3|h3
   .exact bD j hj h3
   .obtain rfl:j=i:=V
    exact ax
 .have hf:gu t.pairs nm=none:=by
   unfold gu;rw[anA.2 λx hx=>by
    obtain⟨j,hj,rfl⟩:=ane.1 hx;rw[alg (bD j hj V)];simp]
   rfl
  exact⟨.inl ⟨hf,Y⟩,Y⟩
def Hh(x:As h0 h (aT xb t pv lw rv key kv now av lv L why))(g:eJ h0 kv k av A key t pv lw rv):aj Tryz.prog 82 [ptr xb,.string nm] h
  (ao λr h'=>((nm∉t.list∧r=.bool false)∨(nm∈t.list∧r=.bool true))∧h'=h):=by
 have w:=x.st;have aQ:=(fT (g.th h (x.base w))).2.1;obtain⟨la,lc,rfl,_⟩:=aQ.form;have ln:t.list.length<=2000:=g.t9.ls;refine f82.c<|bA (λi:Nat=>[(0,ptr xb),(1,.string nm),(5,.int .i64 i)]) (λi h'=>i<=t.list.length∧(∀j(hj:j<t.list.length),j<i->t.list[j]≠nm)∧h'=h) (λi=>t.list.length-i) 0
  J3 ⟨ak8 _,λj _ h=>absurd h V,Y⟩ ?_
 rintro i h4 ⟨hi,bD,e⟩;have e:=e.symm;subst e;refine w.aG 0 Y Y<|Bi (λah=>?_) λcp=>?_
 .have ah:i<t.list.length:=V
  obtain⟨b,o,rfl⟩:=aQ.addr V;have aI:=aQ.cells bj (akU ah);refine w.aG 0 Y Y<|Ai V (Ai V (Ei _ (Ai (by simpa using aI 0 _ Y) ?_)));refine Ai (λhe=>?_) (λax=>?_)
  .exact⟨.inr ⟨by rw[<-he];exact ak9 ah,Y⟩,Y⟩
  .refine Az<|Ai Y (Ei (i+1) (Ai J3 (Ai ⟨ah,λj hj h=>?_,Y⟩ V)));rcases amQ j i with h3|h3
   .exact bD j hj h3
   .obtain rfl:j=i:=V
    exact ax
 .refine⟨.inl ⟨λhm=>?_,Y⟩,Y⟩;obtain⟨j,hj,he⟩:=ane.1 hm;exact bD j hj V he
def Hk(x:As h0 h (aT xb t pv lw rv key kv now av lv L why))(g:eJ h0 kv k av A key t pv lw rv):aj Tryz.prog 98 [ptr xb,.string nm] h
  (ao λr h'=>((fM t.ranks nm=none∧t.ranks.findIdx? (λr=>decide (r.name=nm))=none∧r=.tuple #[.int .i64 0,.int .i64 0,.bool false])∨
   ∃(i:Nat)(z:Int),fM t.ranks nm=some z∧t.ranks.findIdx? (λr=>decide (r.name=nm))=some i∧r=.tuple #[.int .i64 i,.int .i64 z,.bool true])∧h'=h):=by
 have w:=x.st;have aQ:=(fT (g.th h (x.base w))).2.2;obtain⟨la,lc,rfl,_⟩:=aQ.form;have ln:t.ranks.length<=2000:=g.t9.rs;refine Z6.c<|bA (λi:Nat=>[(0,ptr xb),(1,.string nm),(7,.int .i64 i)]) (λi h'=>i<=t.ranks.length∧(∀j(hj:j<t.ranks.length),j<i->t.ranks[j].name≠nm)∧h'=h) (λi=>t.ranks.length-i) 0
  J3 ⟨ak8 _,λj _ h=>absurd h V,Y⟩ ?_
 rintro i h4 ⟨hi,bD,e⟩;have e:=e.symm;subst e;refine w.aG 0 Y Y<|Bi (λah=>?_) λcp=>?_
 .have ah:i<t.ranks.length:=V
  obtain⟨b,o,rfl⟩:=aQ.addr V;have aI:=aQ.cells dm (akU ah);refine w.aG 0 Y Y<|Ai V (Ai V (Ei _ (Ai (by simpa using aI 0 _ Y) ?_)));refine Ai (λhe=>?_) (λax=>?_)
  .refine w.aG 0 Y Y<|Ai V (Ai V (Ei _ (Ai (by simpa using aI 1 _ Y) ?_)));have hf:t.ranks.find? (λp=>decide (p.name=nm))=some t.ranks[i]:=Rn ah (ale he) λj hj h=>alg (bD j hj h);refine⟨.inr ⟨i,t.ranks[i].score,by unfold fM;rw[hf];rfl,?_,Y⟩,Y⟩;rw[List.findIdx?_eq_some_iff_getElem];exact⟨ah,ale he,λj hj=>by simpa using bD j V hj⟩
  .refine Az<|Ai Y (Ei (i+1) (Ai J3 (Ai ⟨ah,λj hj h=>?_,Y⟩ V)));rcases amQ j i with h3|h3
   .exact bD j hj h3
   .obtain rfl:j=i:=V
    exact ax
 .have bw:∀x∈t.ranks,decide (x.name=nm)=false:=λx hx=>by
   obtain⟨j,hj,rfl⟩:=ane.1 hx;exact alg (bD j hj V)
  refine⟨.inl ⟨?_,?_,Y⟩,Y⟩
  .unfold fM;rw[anA.2 λx hx=>by rw[bw x hx];simp];rfl
  .rw[an4];exact bw
def Uu(x:As h0 h (aT xb t pv lw rv key kv now av lv L why))(g:eJ h0 kv k av A key t pv lw rv):aj Tryz.prog 85 [ptr xb,.int .i64 2,.string nm] h
  (ao λr h'=>((dK t.pairs nm=false∧r=.bool false)∨(dK t.pairs nm=true∧r=.bool true))∧h'=h):=by
 refine f85.c<|Ai Y (Ai (λ_=>akV (Ml x g) ?_) (λax=>absurd Y ax));rintro _ h2 ⟨hr,e⟩;have e:=e.symm;subst e;rcases hr with⟨hf,rfl⟩|⟨s,hf,rfl⟩
 .exact⟨.inl ⟨by unfold dK;rw[hf];rfl,Y⟩,Y⟩
 .exact⟨.inr ⟨by unfold dK;rw[hf];rfl,Y⟩,Y⟩
def afW(x:As h0 h (aT xb t pv lw rv key kv now av lv L why))(g:eJ h0 kv k av A key t pv lw rv):aj Tryz.prog 85 [ptr xb,.int .i64 4,.string nm] h
  (ao λr h'=>((bF t.list nm=false∧r=.bool false)∨(bF t.list nm=true∧r=.bool true))∧h'=h):=by
 refine f85.c<|Ai Y (Ai (λhe=>absurd he Dd) (λ_=>Ai Y (Ai (λ_=>akV (Hh x g) ?_) (λax=>absurd Y ax))));rintro _ h2 ⟨hr,e⟩;have e:=e.symm;subst e;rcases hr with⟨hf,rfl⟩|⟨hf,rfl⟩
 .exact⟨.inl ⟨alg hf,Y⟩,Y⟩
 .exact⟨.inr ⟨ale hf,Y⟩,Y⟩
def Uv(x:As h0 h (aT xb t pv lw rv key kv now av lv L why))(g:eJ h0 kv k av A key t pv lw rv):aj Tryz.prog 85 [ptr xb,.int .i64 5,.string nm] h
  (ao λr h'=>((dA t.ranks nm=false∧r=.bool false)∨(dA t.ranks nm=true∧r=.bool true))∧h'=h):=by
 refine f85.c<|Ai Y (Ai (λhe=>absurd he Dd) (λ_=>Ai Y (Ai (λhe=>absurd he Dd) (λ_=>akV (Hk x g) ?_))));rintro _ h2 ⟨hr,e⟩;have e:=e.symm;subst e;rcases hr with⟨hf,_,rfl⟩|⟨i,z,hf,_,rfl⟩
 .exact⟨.inl ⟨by unfold dA;rw[hf];rfl,Y⟩,Y⟩
 .exact⟨.inr ⟨by unfold dA;rw[hf];rfl,Y⟩,Y⟩
def G'{p f0 st:Nat}(x:As h0 h (aT xb t pv lw rv key kv now av lv L why))(c:dT h0 kv k av A)(hA:A.length<=20)(hp:p<A.length)(eU:1<=st)(eT:st<=2):aj Tryz.prog 86 [ptr xb,.int .i64 p,.int .i64 f0,.int .i64 st] h
  (ao λr h'=>(((∀q,f0+q*st<p->A[f0+q*st]? ≠A[p]?)∧r=.bool false)∨((∃q,f0+q*st<p∧A[f0+q*st]? =A[p]?)∧r=.bool true))∧h'=h):=by
 have w:=x.st;obtain⟨b,o,cc,rfl⟩:=c.cz V;refine f86.c<|bA (λq:Nat=>[(0,ptr xb),(1,.int .i64 p),(3,.int .i64 st),(9,.int .i64 ((f0+q*st:Nat):Int))]) (λq h'=>(∀j,j<q->f0+j*st<p->A[f0+j*st]? ≠A[p]?)∧h'=h) (λq=>p+st-(f0+q*st)) 0
  ⟨Y,Y,Y,by show _=some (Value.int .i64 ((f0+0*st:Nat):Int));rw[ao9];rfl,trivial⟩ ⟨λj h=>absurd h V,Y⟩ ?_
 rintro q h4 ⟨bD,e⟩;have e:=e.symm;subst e;refine Bi (λah=>?_) λcp=>?_
 .have ah:f0+q*st<p:=V
  refine w.aG 0 Y Y<|c.ix (x.base w) (f0+q*st) Y (akU V)<|w.aG 0 Y Y<|c.ix (x.base w) p Y (akU hp)<|Ai (λhe=>?_) (λax=>?_)
  .exact⟨.inr ⟨⟨q,ah,by rw[akU V,akU hp,he]⟩,Y⟩,Y⟩
  .refine Ai Y (λz hz=>?_);have hm:(q+1)*st=q*st+st:=Nat.succ_mul q st;have hz:z=((f0+(q+1)*st:Nat):Int):=(hz.trans (cx V V)).trans V;subst hz;refine Ai Y (Ei (q+1) (Ai J4 (Ai ⟨λj hj h=>?_,Y⟩ V)));rcases amQ j q with h3|h3
   .exact bD j h3 h
   .obtain rfl:j=q:=V
    rw[akU V,akU hp];exactλhe=>ax (amu he)
 .refine⟨.inl ⟨λj hj=>bD j ?_ hj,Y⟩,Y⟩;rcases amQ j q with h3|h3
  .exact h3
  .have:=am3 st h3;omega
end
end Go.Proofs.YtocgmipngoiieaaGreatDoor
namespace Go.Proofs.YtocgmipngoiieaaGreatDoor
open Go Go.Sx C
section
variable {h0 h h1 h':af}{xb i:Nat}{now n m:Int}{kv av lv pv lw rv:Value}{k:List RX}{A l:List BA}{L E:List aA}{why key s u nm:BA}{t:aB}{M:List En}{T:List Nat}{res:aM}
def N1{q:Nat}(hq:q<l.length)(h:∃j,1+j*1<q+1∧(key::l)[1+j*1]? =(key::l)[q+1]?):l[q]∈l.take q:=by
 obtain⟨j,h1,h2⟩:=h;have e:1+j*1=j+1:=V
 rw[e,alQ,alQ,akU V,akU hq]at h2;rw[<-amu h2];exact ane.2 ⟨j,by rw[alA];omega,by rw[anl]⟩
def N2{q:Nat}(hq:q<l.length)(h:∀j,1+j*1<q+1->(key::l)[1+j*1]? ≠(key::l)[q+1]?):l[q]∉l.take q:=by
 intro hm;obtain⟨j,hj,he⟩:=ane.1 hm;rw[alA]at hj;rw[anl]at he;refine h j V ?_;have e:1+j*1=j+1:=V
 rw[e,alQ,alQ,akU V,akU hq,he]
set_option maxHeartbeats 1000000 in
def Mg{kd op:Int}{th:BA->Bool}(gf:∀{h1:af}{lv:Value}{L:List aA}{nm:BA},As h0 h1 (aT xb t pv lw rv key kv now av lv L au)->aj Tryz.prog 85 [ptr xb,.int .i64 kd,.string nm] h1 (ao λr h'=>((th nm=false∧r=.bool false)∨(th nm=true∧r=.bool true))∧h'=h1))(x:As h0 h (aT xb t pv lw rv key kv now av lv [] au))(g:eJ h0 kv k av (key::l) key t pv lw rv):aj Tryz.prog 91 [ptr xb,.int .i64 kd,.int .i64 op] h
  (ao (cj h0 h xb t pv lw rv key kv now av lv (.ok (bO (gX th l).length,(gX th l).map λn=>⟨op,key,n,au,0⟩)))):=by
 have al:=g.al;simp only[ak0]at al;obtain⟨b,o,cc,rfl⟩:=g.c.cz Yy;refine f91.c ?_;intro b6 h1 g1;have w:=x.st.new g1;have hlen:∀q,(bf (λn=>!th n) [] (l.take q)).length<=20:=λq=>by
  have:=oj (th:=λn=>!th n) (l:=l.take q) (pre:=[]);rw[alA]at this;omega
 obtain⟨mk',lJ⟩:∃mk':BA->aA,mk'=λn=>⟨op,key,n,au,0⟩:=⟨_,Y⟩
 refine bA (λq:Nat×Value=>[(0,ptr xb),(1,.int .i64 kd),(2,.int .i64 op),(6,ptr b6),(7,.int .i64 ((bf (λn=>!th n) [] (l.take q.1)).length:Nat)),(8,.int .i64 ((q.1+1:Nat):Int))])
  (λq h'=>q.1<=l.length∧St (xb::aq lv) h h' [.b b6 zR,aT xb t pv lw rv key kv now (.slice (some ⟨b,o,none⟩) (key::l).length cc) q.2 ((bf (λn=>!th n) [] (l.take q.1)).map mk') au])
  (λq=>l.length-q.1) (0,lv) J6 ⟨ak8 _,w⟩ ?_
 rintro⟨q,lq⟩ h4 ⟨hq,w⟩;have hq:q<=l.length:=hq;have CJ:=hlen q;have oQ:(bf (λn=>!th n) [] (l.take (q,lq).1)).length<=20:=CJ;have w:St (xb::aq lv) h h4 [.b b6 zR,aT xb t pv lw rv key kv now (.slice (some ⟨b,o,none⟩) (key::l).length cc) lq ((bf (λn=>!th n) [] (l.take q)).map mk') au]:=w;refine w.aG 1 Y Y<|Bi (λah=>?_) λcp=>?_
 .have ah:q<l.length:=by simp only[ak0]at ah;omega
  have ik:=alu (th:=λn=>!th n) ah;have next:∀{h5:af}{dG:Value}{c:Bool},(!(!th l[q])&&decide (l[q]∉l.take q))=c->St (xb::aq lv) h h5 [.b b6 zR,aT xb t pv lw rv key kv now (.slice (some ⟨b,o,none⟩) (key::l).length cc) dG ((bf (λn=>!th n) [] (l.take q)).map mk'++(if c=true then[mk' l[q]]else[])) au]->
    St (xb::aq lv) h h5 [.b b6 zR,aT xb t pv lw rv key kv now (.slice (some ⟨b,o,none⟩) (key::l).length cc) dG ((bf (λn=>!th n) [] (l.take (q+1))).map mk') au]:=λ{h5 dG c}hc w=>by
   rw[ik,hc];cases c with
   |true=>rw[ak4 Y]at w⊢;rw[alD];exact w
   |false=>rw[akZ Dd]at w⊢;rw[alD];exact w
  refine w.aG 1 Y Y<|g.c.ix (x.base w) (q+1) Y (s:=l[q]) (by simp[ah]) ?_;refine akV (gf (x.out w 1 Y).1) ?_;rintro _ h5 ⟨hr,e5⟩;have e5:=e5.symm;subst e5;have no:(!(!th l[q])&&decide (l[q]∉l.take q))=false->St (xb::aq lv) h h4 [.b b6 zR,aT xb t pv lw rv key kv now (.slice (some ⟨b,o,none⟩) (key::l).length cc) lq ((bf (λn=>!th n) [] (l.take (q+1))).map mk') au]∧(bf (λn=>!th n) [] (l.take (q+1))).length=(bf (λn=>!th n) [] (l.take q)).length:=λhc=>
   ⟨next hc (by rw[akZ Dd,amA];exact w),by rw[ik,hc,akZ Dd,amA]⟩
  rcases hr with⟨hf,rfl⟩|⟨hf,rfl⟩
  .obtain⟨w,fK⟩:=no (by rw[hf];rfl);exact Az<|Ai Y (Ei (q+1,_) (Ai ⟨Y,Y,Y,Y,by rw[fK];rfl,Y,trivial⟩ (Ai ⟨ah,w⟩ Yo)))
  .refine akV (G' (p:=q+1) (f0:=1) (st:=1) (x.out w 1 Y).1 g.c (by simp only[ak0];omega) (by simp only[ak0];omega) (ali _) V) ?_;rintro _ h6 ⟨hr,e6⟩;have e6:=e6.symm;subst e6;rcases hr with⟨ha,rfl⟩|⟨ha,rfl⟩
   .have hc:(!(!th l[q])&&decide (l[q]∉l.take q))=true:=by rw[hf,ale (N2 ah ha)];rfl
    refine Az<|w.aG 1 Y Y<|g.c.ix (x.base w) (q+1) Y (s:=l[q]) (by simp[ah]) ?_;refine akV (Mr (x.out w 1 Y).1 (by simp only[alL];omega)) ?_;rintro _ h7 ⟨dG,_,o7⟩;have w:=w.own 1 Y o7;have w:=next hc (by rw[ak4 Y,lJ];rw[lJ]at w;exact w);have fK:(bf (λn=>!th n) [] (l.take (q+1))).length=(bf (λn=>!th n) [] (l.take q)).length+1:=by rw[ik,hc,ak4 Y];simp
    exact Az<|Ai Y (Ei (q+1,_) (Ai ⟨Y,Y,Y,Y,by rw[fK];rfl,Y,trivial⟩ (Ai ⟨ah,w⟩ Yo)))
   .obtain⟨w,fK⟩:=no (by rw[alg (λhn=>hn (N1 ah ha)),anu]);exact Az<|Ai Y (Ei (q+1,_) (Ai ⟨Y,Y,Y,Y,by rw[fK];rfl,Y,trivial⟩ (Ai ⟨ah,w⟩ Yo)))
 .have aZ:q=l.length:=by simp only[ak0]at cp;omega
  subst aZ;refine w.aV eZ λh6 w=>w.st1 0 Y Y Y Y λh7 w=>?_;rw[alm]at w;exact cj.fin x w 0 1 Y Y (dI.ok (by rw[lJ];unfold gX;rfl))
end
end Go.Proofs.YtocgmipngoiieaaGreatDoor
namespace Go.Proofs.YtocgmipngoiieaaGreatDoor
open Go Go.Sx C
section
variable {h0 h h1 h':af}{xb i:Nat}{now n m:Int}{kv av lv pv lw rv:Value}{k:List RX}{A l:List BA}{L E:List aA}{why key s u nm:BA}{t:aB}{M:List En}{T:List Nat}{res:aM}
def afq(x:As h0 h (aT xb t pv lw rv key kv now av lv [] au))(g:eJ h0 kv k av A key t pv lw rv):aj Tryz.prog 54 [ptr xb,.string ⟨#[72,76,69,78]⟩] h
  (ao (cj h0 h xb t pv lw rv key kv now av lv (.ok (bO t.pairs.length,[])))):=by
 refine f54.c ?_;intro b4 h1 g1;have w:=x.st.new g1;have aQ:=λh2 hc=>(fT (g.th h2 hc)).1;obtain⟨la,lc,rfl,_⟩:=(aQ h0 (ag.refl _)).form;have ln:t.pairs.length<=2000:=g.t9.ps;exact Bn<|Bn<|Bn<|Ai (λ_=>w.aG 1 Y Y (w.aV eZ λh2 w=>w.st1 0 Y Y Y Y λh3 w=>cj.fin x w 0 1 Y Y (dI.ok Y))) (λhe=>absurd Y he)
def afo(x:As h0 h (aT xb t pv lw rv key kv now av lv [] au))(g:eJ h0 kv k av [key,s] key t pv lw rv):aj Tryz.prog 54 [ptr xb,.string ⟨#[72,71,69,84]⟩] h
  (ao (cj h0 h xb t pv lw rv key kv now av lv (match gu t.pairs s with
   |some u=>.ok (iu u,[])
   |none=>.ok (jJ,[])))):=by
 refine f54.c ?_;intro b4 h1 g1;have w:=x.st.new g1;have aQ:=λh2 hc=>(fT (g.th h2 hc)).1;obtain⟨la,lc,rfl,_⟩:=(aQ h0 (ag.refl _)).form;have ln:t.pairs.length<=2000:=g.t9.ps;obtain⟨b,o,cc,rfl⟩:=g.c.cz Yy;refine Bn<|Ai (λ_=>w.aG 1 Y Y (g.c.ix (x.base w) 1 Y Y (akV (Ml (x.out w 1 Y).1 g) ?_))) (λhe=>absurd Y he);rintro _ h2 ⟨hr,e⟩;have e:=e.symm;subst e;rcases hr with⟨hf,rfl⟩|⟨v,hf,rfl⟩
 .exact w.st1 0 Y Y Y Y λh3 w=>cj.fin (a:=0) (m:=0) (s:=au) x w 0 1 Y Y (dI.ok (by rw[hf];rfl))
 .exact w.aV rm λh4 w=>w.st1 0 Y Y Y Y λh5 w=>cj.fin x w 0 1 Y Y (dI.ok (by rw[hf];rfl))
def afm(x:As h0 h (aT xb t pv lw rv key kv now av lv [] au))(g:eJ h0 kv k av A key t pv lw rv):aj Tryz.prog 54 [ptr xb,.string ⟨#[72,71,69,84,65,76,76]⟩] h
  (ao (cj h0 h xb t pv lw rv key kv now av lv (.ok (fC (t.pairs.flatMap λp=>[p.name,p.text]),[])))):=by
 refine f54.c ?_;intro b4 h1 g1;have w:=x.st.new g1;have aQ:=λh2 hc=>(fT (g.th h2 hc)).1;obtain⟨la,lc,rfl,_⟩:=(aQ h0 (ag.refl _)).form;have ln:t.pairs.length<=2000:=g.t9.ps;refine Bn<|Bn<|Bn<|Bn<|Ai (λ_=>?_) (λhe=>absurd Y he);have two:∀p:bM,((λp:bM=>[p.name,p.text]) p).length<=2:=λp=>ali _;have w:=w.empty (enc:=encS) (size:=1);refine bA (λq:Nat×Value=>[(0,ptr xb),(4,ptr b4),(9,q.2),(10,.int .i64 q.1)])
  (λq h'=>q.1<=t.pairs.length∧St (xb::aq lv) h h' [.o encS 1 q.2 ((t.pairs.take q.1).flatMap λp=>[p.name,p.text]),.b b4 zR,aT xb t (.slice la t.pairs.length lc) lw rv key kv now av lv [] au])
  (λq=>t.pairs.length-q.1) (0,.slice none 0 0) J4 ⟨ak8 _,w⟩ ?_
 rintro⟨q,v⟩ h4 ⟨hq,w⟩;have hq:q<=t.pairs.length:=hq;have w:St (xb::aq lv) h h4 [.o encS 1 v ((t.pairs.take q).flatMap λp=>[p.name,p.text]),.b b4 zR,aT xb t (.slice la t.pairs.length lc) lw rv key kv now av lv [] au]:=w;have fK:=yT two (t.pairs.take q);rw[alA]at fK;obtain⟨a4,c4,rfl,_⟩:=(show OL encS 1 h4 v _ from w.get 0 Y).sl.form;refine w.aG 2 Y Y<|Bi (λah=>?_) λcp=>?_
 .have ah:q<t.pairs.length:=V
  obtain⟨b,o,rfl⟩:=(aQ h0 (ag.refl _)).addr V;have aI:=(aQ _ (x.base w)).cells du (akU ah);refine w.aG 2 Y Y<|Ai V (Ai V (Ei _ (Ai (by simpa using aI 0 _ Y) ?_)));refine w.aG 2 Y Y<|Ai V (Ai V (Ei _ (Ai (by simpa using aI 1 _ Y) ?_)));intro b9 h8 g8;have w:=w.new g8;have s2:SL encS h8 (.slice (some ⟨b9,0,none⟩) 2 2) [t.pairs[q].name,t.pairs[q].text]:=⟨_,2,Y,ali _,by exact akW g8.blk⟩
  refine w.app 1 Y bj fP Y s2 (by simp only[ak0,aly];omega) λv' h9 w=>?_;rw[<-FM (f:=λp:bM=>[p.name,p.text]) ah]at w;have w:=w.pick [1,2,3] Dd;exact Az<|Ai Y (Ei (q+1,_) (Ai J4 (Ai ⟨ah,w⟩ Yo)))
 .have aZ:q=t.pairs.length:=V
  subst aZ;have se:=(show OL encS 1 h4 _ ((t.pairs.take t.pairs.length).flatMap λp=>[p.name,p.text])from w.get 0 Y).sl;have hle:=Nat.min_le_left t.pairs.length t.pairs.length;refine akV (AD se V) ?_;rintro _ h5 ⟨⟨ra,rn,rc,rfl,sl,fr⟩,c5⟩;have zz:=w.ae.size;have l4:b4<h4.size:=(show ai h4 b4 _ from w.get 1 Y).lt;have w:=w.ext c5;refine w.st2 1 Y Y Y Y λh6 w k6=>?_;exact⟨_,Y,akW (w.get 1 Y),fC ((t.pairs.take t.pairs.length).flatMap λp=>[p.name,p.text]),lv,[],au,⟨ra,rn,rc,Y,sl.ae k6 (λb hb=>by have:=fr b hb;simp;omega),λb hb=>by have:=fr b hb;omega⟩,⟨t,_,_,_,key,x.out w 2 Y⟩,dI.ok (by rw[alm])⟩
def afn(x:As h0 h (aT xb t pv lw rv key kv now av lv [] au))(g:eJ h0 kv k av (key::l) key t pv lw rv):aj Tryz.prog 54 [ptr xb,.string ⟨#[72,68,69,76]⟩] h
  (ao (cj h0 h xb t pv lw rv key kv now av lv (.ok (bO (gX (dK t.pairs) l).length,(gX (dK t.pairs) l).map λn=>⟨6,key,n,au,0⟩)))):=by
 refine f54.c ?_;intro b4 h1 g1;have w:=x.st.new g1;have aQ:=λh2 hc=>(fT (g.th h2 hc)).1;obtain⟨la,lc,rfl,_⟩:=(aQ h0 (ag.refl _)).form;have ln:t.pairs.length<=2000:=g.t9.ps;refine Bn<|Bn<|Ai (λ_=>akV (Mg (th:=dK t.pairs) (λx=>Uu x g) (x.out w 1 Y).1 g) ?_) (λhe=>absurd Y he);rintro _ h2 ⟨q,aY,E,why,⟨ra,rn,rc,rfl,sl,fr⟩,⟨t',dQ,gO,dV,gh,_,o2⟩,hd⟩;have l4:b4<h1.size:=(show ai h1 b4 _ from w.get 0 Y).lt;have z1:=w.ae.size;have w:=w.own 1 Y o2;refine w.st2 0 Y Y Y Y λh3 w k3=>?_;exact⟨_,Y,akW (w.get 0 Y),q,aY,E,why,⟨ra,rn,rc,Y,sl.ae k3 (λb hb=>by have:=fr b hb;simp;omega),λb hb=>by have:=fr b hb;omega⟩,⟨t',dQ,gO,dV,gh,x.out w 1 Y⟩,hd⟩
set_option maxHeartbeats 1000000 in
def afp(hn:numOf s=some n)(aU:dr h0)(x:As h0 h (aT xb t pv lw rv key kv now av lv [] au))(g:eJ h0 kv k av [key,nm,s] key t pv lw rv):aj Tryz.prog 54 [ptr xb,.string ⟨#[72,73,78,67,82,66,89]⟩] h
  (ao (cj h0 h xb t pv lw rv key kv now av lv (bY ((gu t.pairs nm).getD mI) λm=>lf m n λz=>.ok (bO z,cV (k.map RX.pr) key now++[pL key nm ⟨⟨Lib.itoa z⟩⟩])))):=by
 refine f54.c ?_;intro b4 h1 g1;have w:=x.st.new g1;have aQ:=λh2 hc=>(fT (g.th h2 hc)).1;obtain⟨la,lc,rfl,_⟩:=(aQ h0 (ag.refl _)).form;have ln:t.pairs.length<=2000:=g.t9.ps;obtain⟨b,o,cc,rfl⟩:=g.c.cz Yy;refine Bn<|Bn<|Bn<|Bn<|Bn ?_;have zk:=g.ks;have zn:=g.az nm Yy;have zs:=g.az s Yy;have nA:=gC hn;have tail:∀{h2:af}{m items:Int},numOf ((gu t.pairs nm).getD mI)=some m->items<=65536->St (xb::aq lv) h h2 [.b b4 zR,aT xb t (.slice la t.pairs.length lc) lw rv key kv now (.slice (some ⟨b,o,none⟩) [key,nm,s].length cc) lv [] au]->
   swp Tryz.prog f54.sc.r.r.r.r.r.r.r.r
    (cC [.cn 4 4] (ao (cj h0 h xb t (.slice la t.pairs.length lc) lw rv key kv now (.slice (some ⟨b,o,none⟩) [key,nm,s].length cc) lv (bY ((gu t.pairs nm).getD mI) λm=>lf m n λz=>.ok (bO z,cV (k.map RX.pr) key now++[pL key nm ⟨⟨Lib.itoa z⟩⟩])))))
    (mk [(0,ptr xb),(4,ptr b4),(11,.int .i64 n),(15,.int .i64 m),(17,.int .i64 items)]) [] h2:=by
  intro h2 m items hm hi w;unfold bY;rw[hm];refine akV (DY (gC hm) nA (x.out w 1 Y).1) ?_;rintro _ h6 (⟨ho,rfl,_,o6⟩|⟨ho,rfl,_,o6⟩)
  .have w:=w.own 1 Y o6;have ai':=Rm (z:=m+n) ho;refine w.aG 1 Y Y<|g.c.ix (x.base w) 1 Y Y<|w.qx (rO (aU.ext (x.base w)) ho.1 ho.2) λh7 w=>akV (qf g.c (x.out w 1 Y).1 Yy hi V V V) ?_;rintro _ h8 ⟨rfl,dG,_,o8⟩;have w:=w.own 1 Y o8;exact w.aV eZ λh9 w=>w.st1 0 Y Y Y Y λbp w=>cj.fin x w 0 1 Y Y (dI.ok (ak4 ho))
  .have w:=w.own 1 Y o6;exact w.aV eZ λh9 w=>w.st1 0 Y Y Y Y λbp w=>cj.fin x w 0 1 Y Y (dI.no (why:=ia) Dd (akZ ho))
 refine w.aG 1 Y Y<|g.c.ix (x.base w) 2 Y Y<|dN (ow V hn)<|w.aG 1 Y Y<|g.c.ix (x.base w) 1 Y Y<|akV (Ml (x.out w 1 Y).1 g) ?_;rintro _ h2 ⟨hr,e⟩;have e:=e.symm;subst e;rcases hr with⟨hf,rfl⟩|⟨v,hf,rfl⟩
 .exact w.aG 1 Y Y<|Az<|aW [(0,ptr xb),(4,ptr b4),(11,.int .i64 n),(14,.bool false),(15,.int .i64 0),(16,.bool true),(17,.int .i64 ((t.pairs.length+1:Nat):Int))] J7<|mM<|tV (v:=.bool false) Y<|oE (t:=false) Y<|pg<|mM<|vq (v:=true) Y Y<|oE (t:=false) Y<|pg<|aW [(0,ptr xb),(4,ptr b4),(11,.int .i64 n),(15,.int .i64 0),(17,.int .i64 ((t.pairs.length+1:Nat):Int))] J5 (tail (by rw[hf];kernel_rfl) V w)
 .refine w.aG 1 Y Y<|Az<|Ai Y (λz hz=>?_);have hz:z=(t.pairs.length:Int):=hz.trans ((cx V V).trans V);subst hz;have hv:v.size<4611686018427387904:=by
   unfold gu at hf;cases hp:t.pairs.find? (λp=>decide (p.name=nm))with
   |none=>rw[hp]at hf;cases hf
   |some p=>
    rw[hp]at hf;have:=g.t9.pt p (am6 hp);rw[<-amu hf];omega
  cases hm:numOf v with
  |none=>
   refine dN (show aj _ _ _ _ (ao λr h'=>r=.tuple #[.int .i64 0,.bool false]∧h'=h1)by have:=Hi (h:=h1) hv;rwa [hm]at this)<|w.kW 1 Y λh3 w=>w.st1 0 Y Y Y Y λh4 w=>cj.fin (a:=0) (m:=0) (s:=au) x w 0 1 Y Y (dI.no (why:=jN) Dd ?_);unfold bY;rw[hf,show(some v).getD mI=v from Y,hm]
  |some mm=>
   exact dN (ow hv hm)<|aW [(0,ptr xb),(4,ptr b4),(11,.int .i64 n),(15,.int .i64 mm),(16,.bool true),(17,.int .i64 (t.pairs.length:Int))] J6<|mM<|vq (v:=true) Y Y<|oE (t:=false) Y<|pg<|aW [(0,ptr xb),(4,ptr b4),(11,.int .i64 n),(15,.int .i64 mm),(17,.int .i64 (t.pairs.length:Int))] J5 (tail (by rw[hf];exact hm) V w)
end
end Go.Proofs.YtocgmipngoiieaaGreatDoor
namespace Go.Proofs.YtocgmipngoiieaaGreatDoor
open Go Go.Sx C
def qt(S:aH)(key:BA)(now:Int)(Es:List aA)(j:Nat):List aA:=if j=0 then[]else cV S key now++Es.take j
def alB{S:aH}{key:BA}{now:Int}{Es:List aA}{e:aA}{j:Nat}(hj:Es[j]? =some e):qd S key now (qt S key now Es j)++[e]=qt S key now Es (j+1):=by
 obtain⟨ah,he⟩:=ak7.1 hj;unfold qt qd;rw[akZ (by omega:¬j+1=0),alI ah,he];cases j with
 |zero=>simp
 |succ j=>
  have h1:¬(j+1=0):=V
  have h2:¬((cV S key now++Es.take (j+1)).length=0):=by rw[ak1,alA];omega
  rw[akZ h1,akZ h2,alG]
def NY{S:aH}{key:BA}{now:Int}{Es:List aA}{j:Nat}(hl:Es.length<=20):(qt S key now Es j).length<=100:=by
 unfold qt;have:=mS S key now;split
 .simp
 .simp only[ak1,alA];omega
section
variable {h0 h h1 h':af}{xb i:Nat}{now n m:Int}{kv av lv pv lw rv:Value}{k:List RX}{A l:List BA}{L E:List aA}{why key s u nm:BA}{t:aB}{M:List En}{T:List Nat}{res:aM}
def MX{q:Nat}(h:2*q+1<l.length):((dj l).map Prod.fst)[q]? =some l[2*q]:=by
 rw[amB,um h];rfl
def WH{q:Nat}(hq:2*q+1<l.length)(h:∃j,1+j*2<1+q*2∧(key::l)[1+j*2]? =(key::l)[1+q*2]?):l[2*q]∈((dj l).map Prod.fst).take q:=by
 obtain⟨j,h1,h2⟩:=h;have e:1+j*2=2*j+1:=V
 have e':1+q*2=2*q+1:=V
 rw[e,e',alQ,alQ,akU V,akU V]at h2;rw[<-amu h2];refine anU.2 ⟨j,?_⟩;rw[anJ V,MX V]
def WI{q:Nat}(hq:2*q+1<l.length)(h:∀j,1+j*2<1+q*2->(key::l)[1+j*2]? ≠(key::l)[1+q*2]?):l[2*q]∉((dj l).map Prod.fst).take q:=by
 intro hm;obtain⟨j,he⟩:=anU.1 hm;have hj:j<q:=by
  obtain⟨ah,_⟩:=ak7.1 he;rw[alA]at ah;omega
 rw[anJ hj,MX V]at he;refine h j V ?_;have e:1+j*2=2*j+1:=V
 have e':1+q*2=2*q+1:=V
 rw[e,e',alQ,alQ,akU V,akU V,amu he]
set_option maxHeartbeats 2000000 in
def afr(x:As h0 h (aT xb t pv lw rv key kv now av lv [] au))(g:eJ h0 kv k av (key::l) key t pv lw rv)(h2:2<=l.length)(jw:l.length%2=0):aj Tryz.prog 54 [ptr xb,.string ⟨#[72,83,69,84]⟩] h
  (ao (cj h0 h xb t pv lw rv key kv now av lv (.ok (bO (bf (dK t.pairs) [] ((dj l).map Prod.fst)).length,cV (k.map RX.pr) key now++(dj l).map λp=>pL key p.1 p.2)))):=by
 have al:=g.al;simp only[ak0]at al;obtain⟨b,o,cc,rfl⟩:=g.c.cz Yy;refine f54.c ?_;intro b4 h1 g1;have w:=x.st.new g1;have aQ:=λh2 hc=>(fT (g.th h2 hc)).1;obtain⟨la,lc,rfl,_⟩:=(aQ h0 (ag.refl _)).form;have ln:t.pairs.length<=2000:=g.t9.ps;have zk:=g.ks;obtain⟨N,hN⟩:∃N,N=(dj l).map Prod.fst:=⟨_,Y⟩
 obtain⟨Es,wE⟩:∃Es,Es=(dj l).map λp=>pL key p.1 p.2:=⟨_,Y⟩
 have F8:=rB (ali l.length);have FZ:N.length=(dj l).length:=by rw[hN];exact alL _
 have Jz:Es.length=(dj l).length:=by rw[wE];exact alL _
 have lL:∀q,(bf (dK t.pairs) [] (N.take q)).length<=20:=λq=>by
  have:=oj (th:=dK t.pairs) (l:=N.take q) (pre:=[]);rw[alA]at this;omega
 rw[<-hN,<-wE];refine Ai (λ_=>?_) (λhe=>absurd Y he);refine bA (λq:Nat×Value=>[(0,ptr xb),(4,ptr b4),(5,.int .i64 ((bf (dK t.pairs) [] (N.take q.1)).length:Nat)),(6,.int .i64 ((1+q.1*2:Nat):Int))])
  (λq h'=>2*q.1<=l.length∧St (xb::aq lv) h h' [.b b4 zR,aT xb t (.slice la t.pairs.length lc) lw rv key kv now (.slice (some ⟨b,o,none⟩) (key::l).length cc) q.2 (qt (k.map RX.pr) key now Es q.1) au])
  (λq=>l.length-2*q.1) (0,lv) J4 ⟨ak8 _,w⟩ ?_
 rintro⟨q,lq⟩ h4 ⟨hq,w⟩;have hq:2*q<=l.length:=hq;have zA:=lL q;have Qz:(bf (dK t.pairs) [] (N.take (q,lq).1)).length<=20:=zA;have my:=NY (S:=k.map RX.pr) (key:=key) (now:=now) (Es:=Es) (j:=q) V;have w:St (xb::aq lv) h h4 [.b b4 zR,aT xb t (.slice la t.pairs.length lc) lw rv key kv now (.slice (some ⟨b,o,none⟩) (key::l).length cc) lq (qt (k.map RX.pr) key now Es q) au]:=w;refine w.aG 1 Y Y<|Bi (λah=>?_) λcp=>?_
 .have ah:2*q+1<l.length:=by simp only[ak0]at ah;omega
  have Cl:N[q]? =some l[2*q]:=by have e:=MX ah;rw[<-hN]at e;exact e
  have JE:q<N.length:=(ak7.1 Cl).1;have Ck:N[q]=l[2*q]:=(ak7.1 Cl).2;have wD:Es[q]? =some ⟨5,key,l[2*q],l[2*q+1],0⟩:=by
   have e:((dj l).map λp=>pL key p.1 p.2)[q]? =some (pL key l[2*q] l[2*q+1]):=by rw[amB,um ah];rfl
   rw[<-wE]at e;exact e
  have uP:(key::l)[1+q*2]? =some l[2*q]:=by rw[show 1+q*2=2*q+1 by omega,alQ,akU V]
  have mh:(key::l)[1+q*2+1]? =some l[2*q+1]:=by rw[show 1+q*2+1=(2*q+1)+1 by omega,alQ,akU ah]
  have zn:=g.az l[2*q] (alr _ (ak9 _));have zt:=g.az l[2*q+1] (alr _ (ak9 _));have Bd:=WH (key:=key) ah;have Bg:=WI (key:=key) ah;rw[<-hN]at Bd Bg;have ik:=alu (th:=dK t.pairs) JE;rw[Ck]at ik;refine w.aG 1 Y Y<|g.c.ix (x.base w) (1+q*2) Y uP<|akV (Uu (x.out w 1 Y).1 g) ?_;rintro _ h5 ⟨hr,e5⟩;have e5:=e5.symm;subst e5;have same:(!dK t.pairs l[2*q]&&decide (l[2*q]∉N.take q))=false->(bf (dK t.pairs) [] (N.take (q+1))).length=(bf (dK t.pairs) [] (N.take q)).length:=λhc=>by rw[ik,hc,akZ Dd,amA]
  rcases hr with⟨hf,rfl⟩|⟨hf,rfl⟩
  .refine akV (G' (p:=1+q*2) (f0:=1) (st:=2) (x.out w 1 Y).1 g.c (by simp only[ak0];omega) (by simp only[ak0];omega) V (ali _)) ?_;rintro _ h6 ⟨hr,e6⟩;have e6:=e6.symm;subst e6;rcases hr with⟨ha,rfl⟩|⟨ha,rfl⟩
   .have hc:(!dK t.pairs l[2*q]&&decide (l[2*q]∉N.take q))=true:=by rw[hf,ale (Bg ha)];rfl
    have fK:(bf (dK t.pairs) [] (N.take (q+1))).length=(bf (dK t.pairs) [] (N.take q)).length+1:=by rw[ik,hc,ak4 Y];simp
    refine Az<|w.aG 1 Y Y<|g.c.ix (x.base w) (1+q*2) Y uP<|w.aG 1 Y Y<|Az<|g.c.ix (x.base w) (1+q*2+1) Y mh<|w.aG 1 Y Y<|Ai Y (λz hz=>?_);have hz:z=(t.pairs.length:Int)+(((bf (dK t.pairs) [] (N.take q)).length+1:Nat):Int):=hz.trans (cx V V);subst hz;refine akV (qf g.c (x.out w 1 Y).1 (al6 my V) V V V V) ?_;rintro _ h6 ⟨rfl,dG,_,o6⟩;have w:=w.own 1 Y o6;rw[alB wD]at w;refine Ai Y (λz hz=>?_);have hz:z=((1+(q+1)*2:Nat):Int):=(hz.trans (cx V V)).trans V;subst hz;exact Ai Y (Ei (q+1,_) (Ai ⟨Y,Y,by rw[fK];rfl,Y,trivial⟩ (Ai ⟨by show 2*(q+1)<=_;omega,w⟩ Yo)))
   .have fK:=same (by rw[alg (λhn=>hn (Bd ha)),anu]);refine w.aG 1 Y Y<|g.c.ix (x.base w) (1+q*2) Y uP<|w.aG 1 Y Y<|Az<|g.c.ix (x.base w) (1+q*2+1) Y mh<|w.aG 1 Y Y<|Ai Y (λz hz=>?_);have hz:z=(t.pairs.length:Int)+(((bf (dK t.pairs) [] (N.take q)).length:Nat):Int):=hz.trans (cx V V);subst hz;refine akV (qf g.c (x.out w 1 Y).1 (al6 my V) V V V V) ?_;rintro _ h6 ⟨rfl,dG,_,o6⟩;have w:=w.own 1 Y o6;rw[alB wD]at w;refine Ai Y (λz hz=>?_);have hz:z=((1+(q+1)*2:Nat):Int):=(hz.trans (cx V V)).trans V;subst hz;exact Ai Y (Ei (q+1,_) (Ai ⟨Y,Y,by rw[fK];rfl,Y,trivial⟩ (Ai ⟨by show 2*(q+1)<=_;omega,w⟩ Yo)))
  .have fK:=same (by rw[hf];rfl);refine w.aG 1 Y Y<|g.c.ix (x.base w) (1+q*2) Y uP<|w.aG 1 Y Y<|Az<|g.c.ix (x.base w) (1+q*2+1) Y mh<|w.aG 1 Y Y<|Ai Y (λz hz=>?_);have hz:z=(t.pairs.length:Int)+(((bf (dK t.pairs) [] (N.take q)).length:Nat):Int):=hz.trans (cx V V);subst hz;refine akV (qf g.c (x.out w 1 Y).1 (al6 my V) V V V V) ?_;rintro _ h6 ⟨rfl,dG,_,o6⟩;have w:=w.own 1 Y o6;rw[alB wD]at w;refine Ai Y (λz hz=>?_);have hz:z=((1+(q+1)*2:Nat):Int):=(hz.trans (cx V V)).trans V;subst hz;exact Ai Y (Ei (q+1,_) (Ai ⟨Y,Y,by rw[fK];rfl,Y,trivial⟩ (Ai ⟨by show 2*(q+1)<=_;omega,w⟩ Yo)))
 .have aZ:2*q=l.length:=by simp only[ak0]at cp;omega
  have Kz:N.length<=q:=V
  have Ky:Es.length<=q:=V
  exact w.aV eZ λh6 w=>w.st1 0 Y Y Y Y λh7 w=>cj.fin x w 0 1 Y Y (dI.ok (by unfold qt;rw[akZ V,amo Kz,amo Ky];rfl))
end
end Go.Proofs.YtocgmipngoiieaaGreatDoor
namespace Go.Proofs.YtocgmipngoiieaaGreatDoor
open Go Go.Sx C
def pC(S:aH)(key:BA)(now:Int)(e:BA->aA)(ns:List BA):List aA:=if ns=[]then[]else cV S key now++ns.map e
def WE{S:aH}{key:BA}{now:Int}{e:BA->aA}{ns:List BA}{n:BA}:qd S key now (pC S key now e ns)++[e n]=pC S key now e (ns++[n]):=by
 unfold pC qd;rw[akZ (by simp:¬ns++[n]=[]),alD];cases ns with
 |nil=>simp
 |cons a ns=>
  have h1:¬(a::ns=[]):=Yy
  have h2:¬((cV S key now++(a::ns).map e).length=0):=by simp only[ak1,alR,ak0];omega
  rw[akZ h1,akZ h2,alG];rfl
def WD{S:aH}{key:BA}{now:Int}{e:BA->aA}{ns:List BA}(hl:ns.length<=20):(pC S key now e ns).length<=100:=by
 unfold pC;have:=mS S key now;split
 .simp
 .simp only[ak1,alL];omega
section
variable {h0 h h1 h':af}{xb i:Nat}{now n m:Int}{kv av lv pv lw rv:Value}{k:List RX}{A l:List BA}{L E:List aA}{why key s u nm:BA}{t:aB}{M:List En}{T:List Nat}{res:aM}
def afQ(x:As h0 h (aT xb t pv lw rv key kv now av lv [] au))(g:eJ h0 kv k av A key t pv lw rv):aj Tryz.prog 56 [ptr xb,.string ⟨#[83,67,65,82,68]⟩] h
  (ao (cj h0 h xb t pv lw rv key kv now av lv (.ok (bO t.list.length,[])))):=by
 refine f56.c ?_;intro b4 h1 g1;have w:=x.st.new g1;have aQ:=λh2 hc=>(fT (g.th h2 hc)).2.1;obtain⟨la,lc,rfl,_⟩:=(aQ h0 (ag.refl _)).form;have ln:t.list.length<=2000:=g.t9.ls;exact Bn<|Bn<|Bn<|Ai (λ_=>w.aG 1 Y Y (w.aV eZ λh2 w=>w.st1 0 Y Y Y Y λh3 w=>cj.fin x w 0 1 Y Y (dI.ok Y))) (λhe=>absurd Y he)
def afU(x:As h0 h (aT xb t pv lw rv key kv now av lv [] au))(g:eJ h0 kv k av A key t pv lw rv):aj Tryz.prog 56 [ptr xb,.string ⟨#[83,77,69,77,66,69,82,83]⟩] h
  (ao (cj h0 h xb t pv lw rv key kv now av lv (.ok (fC t.list,[])))):=by
 refine f56.c ?_;intro b4 h1 g1;have w:=x.st.new g1;have aQ:=λh2 hc=>(fT (g.th h2 hc)).2.1;obtain⟨la,lc,rfl,_⟩:=(aQ h0 (ag.refl _)).form;have ln:t.list.length<=2000:=g.t9.ls;refine Bn<|Bn<|Bn<|Bn<|w.aG 1 Y Y ?_;have l4:b4<h1.size:=(show ai h1 b4 _ from w.get 0 Y).lt;have z1:=w.ae.size;refine akV (AD (aQ _ (x.base w)) V) ?_;rintro _ h5 ⟨⟨ra,rn,rc,rfl,sl,fr⟩,c5⟩;have w:=w.ext c5;refine w.st2 0 Y Y Y Y λh6 w k6=>?_;exact⟨_,Y,akW (w.get 0 Y),fC t.list,lv,[],au,⟨ra,rn,rc,Y,sl.ae k6 (λb hb=>by have:=fr b hb;simp;omega),λb hb=>by have:=fr b hb;omega⟩,⟨t,_,_,_,key,x.out w 1 Y⟩,dI.ok Y⟩
def afS(x:As h0 h (aT xb t pv lw rv key kv now av lv [] au))(g:eJ h0 kv k av [key,s] key t pv lw rv):aj Tryz.prog 56 [ptr xb,.string ⟨#[83,73,83,77,69,77,66,69,82]⟩] h
  (ao (cj h0 h xb t pv lw rv key kv now av lv (.ok (bO (if bF t.list s=true then 1 else 0),[])))):=by
 refine f56.c ?_;intro b4 h1 g1;have w:=x.st.new g1;have aQ:=λh2 hc=>(fT (g.th h2 hc)).2.1;obtain⟨la,lc,rfl,_⟩:=(aQ h0 (ag.refl _)).form;have ln:t.list.length<=2000:=g.t9.ls;obtain⟨b,o,cc,rfl⟩:=g.c.cz Yy;refine Bn<|Bn<|Ai (λ_=>w.aG 1 Y Y (g.c.ix (x.base w) 1 Y Y (akV (Hh (x.out w 1 Y).1 g) ?_))) (λhe=>absurd Y he);rintro _ h2 ⟨hr,e⟩;have e:=e.symm;subst e;rcases hr with⟨hf,rfl⟩|⟨hf,rfl⟩
 .exact w.aV eZ λh4 w=>w.st1 0 Y Y Y Y λh5 w=>cj.fin x w 0 1 Y Y (dI.ok (by rw[akZ (by simpa[bF]using hf)];rfl))
 .exact w.aV eZ λh4 w=>w.st1 0 Y Y Y Y λh5 w=>cj.fin x w 0 1 Y Y (dI.ok (by rw[ak4 (by simpa[bF]using hf)];rfl))
def afV(x:As h0 h (aT xb t pv lw rv key kv now av lv [] au))(g:eJ h0 kv k av (key::l) key t pv lw rv):aj Tryz.prog 56 [ptr xb,.string ⟨#[83,82,69,77]⟩] h
  (ao (cj h0 h xb t pv lw rv key kv now av lv (.ok (bO (gX (bF t.list) l).length,(gX (bF t.list) l).map λn=>⟨13,key,n,au,0⟩)))):=by
 refine f56.c ?_;intro b4 h1 g1;have w:=x.st.new g1;have aQ:=λh2 hc=>(fT (g.th h2 hc)).2.1;obtain⟨la,lc,rfl,_⟩:=(aQ h0 (ag.refl _)).form;have ln:t.list.length<=2000:=g.t9.ls;refine Bn<|Ai (λ_=>akV (Mg (th:=bF t.list) (λx=>afW x g) (x.out w 1 Y).1 g) ?_) (λhe=>absurd Y he);rintro _ h2 ⟨q,aY,E,why,⟨ra,rn,rc,rfl,sl,fr⟩,⟨t',dQ,gO,dV,gh,_,o2⟩,hd⟩;have l4:b4<h1.size:=(show ai h1 b4 _ from w.get 0 Y).lt;have z1:=w.ae.size;have w:=w.own 1 Y o2;refine w.st2 0 Y Y Y Y λh3 w k3=>?_;exact⟨_,Y,akW (w.get 0 Y),q,aY,E,why,⟨ra,rn,rc,Y,sl.ae k3 (λb hb=>by have:=fr b hb;simp;omega),λb hb=>by have:=fr b hb;omega⟩,⟨t',dQ,gO,dV,gh,x.out w 1 Y⟩,hd⟩
set_option maxHeartbeats 1000000 in
def afO(x:As h0 h (aT xb t pv lw rv key kv now av lv [] au))(g:eJ h0 kv k av (key::l) key t pv lw rv):aj Tryz.prog 56 [ptr xb,.string ⟨#[83,65,68,68]⟩] h
  (ao (cj h0 h xb t pv lw rv key kv now av lv (.ok (bO (bf (bF t.list) [] l).length,pC (k.map RX.pr) key now (pD key) (bf (bF t.list) [] l))))):=by
 have al:=g.al;simp only[ak0]at al;obtain⟨b,o,cc,rfl⟩:=g.c.cz Yy;refine f56.c ?_;intro b4 h1 g1;have w:=x.st.new g1;have aQ:=λh2 hc=>(fT (g.th h2 hc)).2.1;obtain⟨la,lc,rfl,_⟩:=(aQ h0 (ag.refl _)).form;have ln:t.list.length<=2000:=g.t9.ls;have zk:=g.ks;have lL:∀q,(bf (bF t.list) [] (l.take q)).length<=20:=λq=>by
  have:=oj (th:=bF t.list) (l:=l.take q) (pre:=[]);rw[alA]at this;omega
 refine Ai (λ_=>?_) (λhe=>absurd Y he);refine bA (λq:Nat×Value=>[(0,ptr xb),(4,ptr b4),(5,.int .i64 ((bf (bF t.list) [] (l.take q.1)).length:Nat)),(6,.int .i64 ((q.1+1:Nat):Int))])
  (λq h'=>q.1<=l.length∧St (xb::aq lv) h h' [.b b4 zR,aT xb t pv (.slice la t.list.length lc) rv key kv now (.slice (some ⟨b,o,none⟩) (key::l).length cc) q.2 (pC (k.map RX.pr) key now (pD key) (bf (bF t.list) [] (l.take q.1))) au])
  (λq=>l.length-q.1) (0,lv) J4 ⟨ak8 _,w⟩ ?_
 rintro⟨q,lq⟩ h4 ⟨hq,w⟩;have hq:q<=l.length:=hq;have zA:=lL q;have Qz:(bf (bF t.list) [] (l.take (q,lq).1)).length<=20:=zA;have my:=WD (S:=k.map RX.pr) (key:=key) (now:=now) (e:=pD key) zA;have w:St (xb::aq lv) h h4 [.b b4 zR,aT xb t pv (.slice la t.list.length lc) rv key kv now (.slice (some ⟨b,o,none⟩) (key::l).length cc) lq (pC (k.map RX.pr) key now (pD key) (bf (bF t.list) [] (l.take q))) au]:=w;refine w.aG 1 Y Y<|Bi (λah=>?_) λcp=>?_
 .have ah:q<l.length:=by simp only[ak0]at ah;omega
  have ik:=alu (th:=bF t.list) ah;have zn:=g.az l[q] (alr _ (ak9 _));have Mw:(!bF t.list l[q]&&decide (l[q]∉l.take q))=false->bf (bF t.list) [] (l.take (q+1))=bf (bF t.list) [] (l.take q):=λhc=>by rw[ik,hc,akZ Dd,amA]
  have same:(!bF t.list l[q]&&decide (l[q]∉l.take q))=false->(bf (bF t.list) [] (l.take (q+1))).length=(bf (bF t.list) [] (l.take q)).length:=λhc=>by rw[Mw hc]
  refine w.aG 1 Y Y<|g.c.ix (x.base w) (q+1) Y (s:=l[q]) (by simp[ah]) ?_;refine akV (Hh (x.out w 1 Y).1 g) ?_;rintro _ h5 ⟨hr,e5⟩;have e5:=e5.symm;subst e5;rcases hr with⟨hf,rfl⟩|⟨hf,rfl⟩
  .have hf:bF t.list l[q]=false:=alg hf;refine akV (G' (p:=q+1) (f0:=1) (st:=1) (x.out w 1 Y).1 g.c (by simp only[ak0];omega) (by simp only[ak0];omega) (ali _) V) ?_;rintro _ h6 ⟨hr,e6⟩;have e6:=e6.symm;subst e6;rcases hr with⟨ha,rfl⟩|⟨ha,rfl⟩
   .have hc:(!bF t.list l[q]&&decide (l[q]∉l.take q))=true:=by rw[hf,ale (N2 ah ha)];rfl
    have oS:bf (bF t.list) [] (l.take (q+1))=bf (bF t.list) [] (l.take q)++[l[q]]:=by rw[ik,hc,ak4 Y]
    have fK:(bf (bF t.list) [] (l.take (q+1))).length=(bf (bF t.list) [] (l.take q)).length+1:=by rw[oS];simp
    refine Az<|w.aG 1 Y Y<|g.c.ix (x.base w) (q+1) Y (s:=l[q]) (by simp[ah]) ?_;refine w.aG 1 Y Y<|Ai Y (λz hz=>?_);have hz:z=(t.list.length:Int)+(((bf (bF t.list) [] (l.take q)).length+1:Nat):Int):=hz.trans (cx V V);subst hz;refine akV (qf g.c (x.out w 1 Y).1 (al6 my V) V V V Dd) ?_;rintro _ h7 ⟨rfl,dG,_,o7⟩;have w:=w.own 1 Y o7;rw[show qd (k.map RX.pr) key now (pC (k.map RX.pr) key now (pD key) (bf (bF t.list) [] (l.take q)))++[⟨12,key,l[q],⟨#[]⟩,0⟩]=pC (k.map RX.pr) key now (pD key) (bf (bF t.list) [] (l.take (q+1)))by rw[oS];exact WE (e:=pD key)]at w;exact Az<|Ai Y (Ei (q+1,_) (Ai ⟨Y,Y,by rw[fK];rfl,Y,trivial⟩ (Ai ⟨ah,w⟩ Yo)))
   .have hc:(!bF t.list l[q]&&decide (l[q]∉l.take q))=false:=by rw[alg (λhn=>hn (N1 ah ha)),anu]
    have fK:=same hc;have oS:=Mw hc;rw[<-oS]at w;exact Az<|Ai Y (Ei (q+1,_) (Ai ⟨Y,Y,by rw[fK];rfl,Y,trivial⟩ (Ai ⟨ah,w⟩ Yo)))
  .have hc:(!bF t.list l[q]&&decide (l[q]∉l.take q))=false:=by rw[show bF t.list l[q]=true from ale hf];rfl
   have fK:=same hc;have oS:=Mw hc;rw[<-oS]at w;exact Az<|Ai Y (Ei (q+1,_) (Ai ⟨Y,Y,by rw[fK];rfl,Y,trivial⟩ (Ai ⟨ah,w⟩ Yo)))
 .have aZ:q=l.length:=by simp only[ak0]at cp;omega
  subst aZ;refine w.aV eZ λh6 w=>w.st1 0 Y Y Y Y λh7 w=>?_;rw[alm]at w;exact cj.fin x w 0 1 Y Y (dI.ok Y)
end
end Go.Proofs.YtocgmipngoiieaaGreatDoor
namespace Go.Proofs.YtocgmipngoiieaaGreatDoor
open Go Go.Sx C
namespace SI
variable{h:af}{ks:List BA}{mb:Nat}{ms:List MapEntry}
def kO(h:af)(mb:Nat):af:=h.push (.cells #[.map (some mb)] 133)
def Lf(h:af)(mb:Nat):ag [] h (kO h mb):=by
 refine⟨by simp[kO],λk hk _=>?_⟩;unfold kO;rw[am7,akZ V]
def Lp:aj Tryz.prog 278 [.map (some mb)] h (ao λr h'=>r=.func (.func 308) #[] #[ptr h.size]∧h'=kO h mb):=by
 refine⟨Kr,λw hw=>?_⟩;refine((callsIn_wide (n:=5)).1 (Tryz.maps_Keys_278 (some mb) w)).mono ?_;rintro e w' ⟨rfl,rfl⟩;refine⟨?_,Yy,Y,Y,Y⟩;subst hw;exact⟨Y,Y⟩
structure MK (h:af) (mb c:Nat) (ms:List MapEntry) (ks:List BA):Prop where
 map:cN h mb ms c
 keys:ms.map (·.key)=ks.map Value.string
 small:∀k∈ks,k.size<=1048576
 len:ms.length<=65536
 born:∀e∈ms,e.born<c
 nR:(ms.map (·.born)).Nodup
 nodup:ks.Nodup
def MK.key{h:af}{mb c:Nat}{ms:List MapEntry}{ks:List BA}(x:MK h mb c ms ks):∀e∈ms,∃k∈ks,e.key=.string k∧k.size<=1048576:=by
 intro e he
 have:e.key∈ms.map (·.key):=alF.2 ⟨e,he,Y⟩
 rw[x.keys]at this;obtain⟨k,hk,e2⟩:=alF.1 this;exact⟨k,hk,e2.symm,x.small k hk⟩
def L3{w:World}{c:Nat}(x:MK w.heap mb c ms ks):w.ownsMap Tryz.prog 9 RN mb ms.length (.map ((((⟨ms⟩:Array MapEntry)).toList.map (Go.WideElems.rg Tryz.prog 9 RN)).foldr DataW.insert []):DataW Unit):=by
 have hl:=x.len;refine⟨⟨ms⟩,c,x.map,⟨?_,⟨?_,?_,?_⟩,?_⟩,Yy,Y⟩
 .have:(65536:Nat)<=maxLen:=Dd
  simp;omega
 .exact x.born
 .exact x.nR
 ·show(ms.map (·.key)).Nodup
  rw[x.keys];exact ang Value.string (λa b(cY:a≠b)=>λhe=>cY (by simpa using he)) x.nodup
 .intro e he;obtain⟨k,_,hk,hs⟩:=x.key e he;refine⟨(.string (ju k),.nil),?_⟩;unfold Go.WideElems.rd;rw[hk,GC _ hs];rfl
def strKeys_perm{c:Nat}(x:MK h mb c ms ks):(strKeys (.map ((((⟨ms⟩:Array MapEntry)).toList.map (Go.WideElems.rg Tryz.prog 9 RN)).foldr DataW.insert []):DataW Unit)).Perm (ks.map ju):=by
 unfold strKeys;have h1:=Go.WideShapes.sorted_perm (((⟨ms⟩:Array MapEntry)).toList.map (Go.WideElems.rg Tryz.prog 9 RN));refine(h1.map _).trans ?_;rw[am'];refine List.Perm.of_eq ?_;have e:ks.map ju=(ks.map Value.string).map (λv=>match v with|.string s=>ju s|_=>[]):=by rw[am'];rfl
 rw[e,<-x.keys,am'];refine aoq λi hi=>?_;obtain⟨k,_,hk,hs⟩:=x.key i hi;simp only[Function.comp];unfold Go.WideElems.rg Go.WideElems.rd;rw[hk,GC _ hs];rfl
def L1{w:World}{c:Nat}(x:MK w.heap mb c ms ks):∃D:DataW Unit,w.ownsMap Tryz.prog 9 RN mb ms.length D∧(strKeys D).Perm (ks.map ju)∧Go.Maps.size D=ms.length:=
 ⟨_,L3 x,strKeys_perm x,by rw[Go.Maps.size_eq,Go.length_sorted];simp⟩
def Mv{c:Nat}(x:MK h mb c ms ks):aj Tryz.prog 61 [.func (.func 308) #[] #[ptr h.size]] (kO h mb) (ao λr h'=>∃L:List BA,SL encS h' r L∧L.Perm ks∧L.Pairwise (λa b=>aP a b=true)∧(∀b∈aq r,h.size<b)∧ag [] (kO h mb) h'):=by
 refine⟨Kr,λw hw=>?_⟩;let w0:World:={w with heap:=h}
 have ew:w0.alloc (.cells #[.map (some mb)] 133)=w:=by
  show({w with heap:=h.push _}:World)=w;rw[show h.push (.cells #[.map (some mb)] 133)=w.heap from hw.symm]
 have x0:MK w0.heap mb c ms ks:=x;have hl:=x.len;obtain⟨D,oT,KG,aS⟩:=L1 x0;have h65:(65536:Nat)<=maxLen:=Dd
 have key:=Tryz.slices_Sorted_keys_61_278 (H:=Unit) mb ms.length D RN w0 oT V V;rw[ew]at key;refine((callsIn_wide (n:=5)).1 key).mono ?_;rintro e w' ⟨v,ss,rfl,hp,De,pQ,hb⟩;refine⟨?_,Yy,hb.os,hb.output,hb.tape⟩;have oU:ss.Perm (ks.map ju):=hp.trans KG;have wV:(ss.mergeSort leB).Perm (ks.map ju):=(anY ss leB).trans oU;have tr:∀a b c:List UInt8,leB a b=true->leB b c=true->leB a c=true:=λa b c h1 h2=>by simp only[leB,amm]at*;exact List.le_trans h1 h2
 have to:∀a b:List UInt8,(leB a b||leB b a)=true:=λa b=>by simp only[leB,amZ,amm];exact List.le_total a b
 have nZ:(ss.mergeSort leB).Pairwise (λa b=>leB a b=true):=aoS tr to ss;have dt:(ss.mergeSort leB).Nodup:=by
  exact wV.symm.nodup<|ang ju (λa b(cY:a≠b)=>λhe=>cY (by cases a;cases b;simp_all [ju])) x.nodup
 have Df:w.heap.size=h.size+1:=by rw[hw];simp[kO]
 refine⟨(ss.mergeSort leB).map sn,?_,?_,?_,?_,?_⟩
 ·-- the slice
  obtain⟨hlen,hr⟩:=De;have aQ:(ss.mergeSort leB).length=ss.length:=(anY ss leB).length_eq;rcases hr with⟨rfl,hn⟩|⟨g,cap,cur,rfl,hg,JW,qG,CS,aI,ej⟩
  .have:(ss.mergeSort leB).map sn=[]:=by rw[List.map_eq_nil_iff];exact amz.1 (aQ.trans hn)
   rw[this];exact SL.nil
  .refine⟨some ⟨g,0,none⟩,cap,by rw[alL,aQ],by rw[alL,aQ];exact qG,?_⟩;intro i v hv;have hfm:∀l:List (List UInt8),(l.map sn).flatMap encS=l.map encStr:=by
    intro l;induction l with
    |nil=>rfl
    |cons a l ih=>rw[alR,am9,ih];rfl
   rw[hfm]at hv;have KJ:cur.toList.take (ss.length*1)=(ss.mergeSort leB).map encStr:=ej;rw[<-KJ]at hv;rw[amJ];unfold Sx.cell;rw[JW];simp only;rw[aox]at hv;split at hv
   .simpa using hv
   .cases hv
 .have:ks=(ks.map ju).map sn:=by rw[am'];exact(List.map_id' ks).symm
  rw[this];exact wV.map _
 .refine ang sn (λa b(cY:leB a b=true∧a≠b)=>?_) (nZ.and dt);rw[MI,vW];show a<b;obtain⟨h1,h2⟩:=cY;simp only[leB,amm]at h1;have hb:Op.bytesLess b a≠true:=λh=>h1 ((vW b a).1 h);rcases EX h2 with h|h
  .exact(vW a b).1 h
  .exact absurd h hb
 .intro b bh;obtain⟨_,hr⟩:=De;rcases hr with⟨rfl,_⟩|⟨g,cap,cur,rfl,hg,_⟩
  .simp[aq,bG]at bh
  .simp[aq,bG]at bh;subst bh;omega
 .refine⟨by rw[<-hw];exact hb.size,λk hk _=>?_⟩;rw[<-hw]at hk⊢;exact hb.block k hk
end SI
structure IM (ms:List MapEntry) (c:Nat) (ks:List BA) (f:BA->Nat):Prop where
 keys:ms.map (·.key)=ks.map Value.string
 small:∀k∈ks,k.size<=1048576
 born:∀e∈ms,e.born<c
 nR:(ms.map (·.born)).Nodup
 nodup:ks.Nodup
 val:∀k,(k∉ks∧bH (.string k) ms 0=none∧f k=0)∨(k∈ks∧∃i,bH (.string k) ms 0=some (i,.int .i64 (f k)))
section
variable {ms:List MapEntry}{c:Nat}{ks:List BA}{f:BA->Nat}{k:BA}
def IM.nil:IM [] 0 [] λ_=>0:=⟨Y,Yy,Yy,ank,ank,λk=>.inl ⟨Yy,Y,Y⟩⟩
def IM.fits(x:IM ms c ks f):∀e∈ms,fits .str e.key=true:=λe he=>by
 have:e.key∈ms.map (·.key):=als he
 rw[x.keys]at this;obtain⟨k,_,e2⟩:=alF.1 this;rw[<-e2];rfl
def IM.adg(x:IM ms c ks f):ks.length=ms.length:=by
 have:=alC List.length x.keys;simpa using this.symm
def bump(f:BA->Nat)(k:BA):BA->Nat:=λs=>if s=k then f k+1 else f s
def IM.DT(x:IM ms c ks f)(hn:k∉ks)(h1:bH (.string k) ms 0=none)(h0:f k=0)(hk:k.size<=1048576){n:Int}(e:n=1):IM (ms++[{key:=.string k,val:=.int .i64 n,born:=c}]) (c+1) (ks++[k]) (bump f k):=by
 subst e;refine⟨by rw[alD,alD,x.keys];rfl,λk' fZ=>?_,λe he=>?_,?_,?_,λk'=>?_⟩
 .rcases alf.1 fZ with h|h
  .exact x.small k' h
  .rw[alE.1 h];exact hk
 .rcases alf.1 he with h|h
  .have:=x.born e h;omega
  .rw[alE.1 h];exact aoK _
 .rw[alD,amN];refine⟨x.nR,Yy,λa ha b hb=>?_⟩;obtain⟨e,he,rfl⟩:=alF.1 ha;have:=x.born e he;simp at hb;omega
 .rw[amN];exact⟨x.nodup,Yy,λa ha b hb e=>hn (by simp at hb;rw[<-hb,<-e];exact ha)⟩
 .rw[Lq x.fits h1];unfold bump;by_cases h:k'=k
  .rw[ak4 h,ak4 h];exact .inr ⟨by simp[h],0+ms.length,by rw[h0];rfl⟩
  .rw[akZ h,akZ h];rcases x.val k' with⟨a,b,c⟩|⟨a,i,b⟩
   .exact .inl ⟨by simp[a,h],b,c⟩
   .exact .inr ⟨by simp[a],i,b⟩
def Lt{α:Type}{g:MapEntry->α}{v:Value}(hg:∀e:MapEntry,g {e with val:=v}=g e):∀(ms:List MapEntry)(i:Nat),(ms.modify i λe=>{e with val:=v}).map g=ms.map g:=λms i=>by
 refine aoB λj=>?_;rw[amB,amB,anV];cases ms[j]? with
 |none=>rfl
 |some e=>
  show some (g (if i=j then _ else e))=some (g e);split
  .rw[hg]
  .rfl
def IM.DU(x:IM ms c ks f){i:Nat}(hm:k∈ks)(h1:bH (.string k) ms 0=some (i,.int .i64 (f k))){n:Int}(e:n=f k+1):IM (ms.modify i λe=>{e with val:=.int .i64 n}) c ks (bump f k):=by
 subst e;refine⟨by rw[Lt (g:=MapEntry.key) λ_=>rfl];exact x.keys,x.small,λe he=>?_,by rw[Lt (g:=MapEntry.born) λ_=>rfl];exact x.nR,x.nodup,λk'=>?_⟩
 ·have hb:e.born∈(ms.modify i λe=>{e with val:=.int .i64 (f k+1)}).map (·.born):=als he
  rw[Lt (g:=MapEntry.born) λ_=>rfl]at hb;obtain⟨e2,he2,e3⟩:=alF.1 hb;rw[<-e3];exact x.born e2 he2
 .have jV:bH (.string k) ms 0=some (0+i,.int .i64 (f k)):=by rw[h1];simp
  obtain⟨m1,m2⟩:=Lr (k':=k') (v:=.int .i64 ((f k:Int)+1)) x.fits jV;unfold bump;by_cases h:k'=k
  .rw[ak4 h];exact .inr ⟨by rw[h];exact hm,0+i,m1 h⟩
  .rw[akZ h,m2 h];exact x.val k'
end
def lV(f:BA->Nat)(i:Nat)(l:List BA):BA->Nat:=λs=>if s∈l∧f s=i then i+1 else f s
def ahm{f:BA->Nat}{i:Nat}:lV f i []=f:=by
 funext s;simp[lV]
def Vj{f:BA->Nat}{i:Nat}{l:List BA}{x:BA}(hx:x∉l)(hf:f x=i):bump (lV f i l) x=lV f i (l++[x]):=by
 funext s;unfold bump lV;by_cases h:s=x
 .subst h;rw[ak4 Y,akZ (λhh=>hx hh.1),ak4 ⟨Yy,hf⟩,hf]
 .rw[akZ h];by_cases h2:s∈l∧f s=i
  .rw[ak4 h2,ak4 ⟨by simp[h2.1],h2.2⟩]
  .rw[akZ h2,akZ];rintro⟨h3,h4⟩;simp[h]at h3;exact h2 ⟨h3,h4⟩
def Vi{f:BA->Nat}{i:Nat}{l:List BA}{x:BA}(hf:f x≠i):lV f i l=lV f i (l++[x]):=by
 funext s;unfold lV;by_cases h2:s∈l∧f s=i
 .rw[ak4 h2,ak4 ⟨by simp[h2.1],h2.2⟩]
 .rw[akZ h2,akZ];rintro⟨h3,h4⟩;simp at h3;rcases h3 with h3|rfl
  .exact h2 ⟨h3,h4⟩
  .exact hf h4
def ahl{f:BA->Nat}{i:Nat}{l:List BA}{x:BA}(hx:x∉l):lV f i l x=f x:=akZ λh=>hx h.1
def ahj{a b:List BA}(ha:a.Pairwise λx y=>aP x y=true)(hb:b.Pairwise λx y=>aP x y=true)(h:∀s,s∈a↔s∈b):a=b:=by
 have na:a.Nodup:=ha.imp λh=>sq h;have nb:b.Nodup:=hb.imp λh=>sq h;exact List.Perm.eq_of_pairwise (le:=λx y=>aP x y=true) (λx y _ _ h1 h2=>absurd h2 (by rw[U6 h1];decide)) ha hb ((aoA na nb).2 h)
def ag'{h:af}{r:Value}{l:List BA}(hs:SL encS h r l)(ax:l≠[]):∀b∈aq r,b<h.size:=by
 obtain⟨a,c,rfl,di⟩:=hs.form;have hp:0<l.length:=am8.2 ax;obtain⟨b,o,rfl⟩:=hs.addr hp;intro b' bh;have bh:b'=b:=by simpa[aq,bG]using bh
 subst bh;have aI:=hs.cells bj (akU hp);exact wi (aI 0 _ Y)
def aha{h h':af}{r:Value}(hs:SL encS h r []):SL encS h' r []:=by
 obtain⟨a,c,rfl,di,jj⟩:=hs;refine⟨a,c,Y,di,?_⟩;cases a with
 |none=>exact jj
 |some ad=>
  obtain⟨b,o,n⟩:=ad;cases n with
  |none=>exactλi v hv=>by simp at hv
  |some n=>exact jj
def MH(r:Value)(l:List BA):En:=.x (if l=[]then[]else aq r) (λh=>SL encS h r l)
 (λS h h' hc hn hs=>by
  by_cases hl:l=[]
  .subst hl;exact aha hs
  .rw[akZ hl]at hn;exact hs.ae hc hn)
 (λh hs b hb=>by
  by_cases hl:l=[]
  .rw[ak4 hl]at hb;exact(nomatch hb)
  .rw[akZ hl]at hb;exact ag' hs hl b hb)
def ag9{r:Value}{l:List BA}{b:Nat}(hb:b∈(MH r l).fp):b∈aq r:=by
 have hb:b∈(if l=[]then[]else aq r):=hb;split at hb
 .exact(nomatch hb)
 .exact hb
section
variable {h0 h h1 h2 h':af}{ab kb sb mb c b1 b2:Nat}{now:Int}{av:Value}{A l:List BA}{m:List KI}{S:aH}
def Ev(S:aH)(now:Int)(A:List BA)(i:Nat)(f:BA->Nat)(acc:List BA):Prop:=
 (∀s,f s<=i)∧(0<i->acc.Pairwise (λx y=>aP x y=true)∧(∀s,f s=i↔s∈acc)∧uD S now A=tL S now acc (A.drop i) λl=>.ok (fC l,[]))
def abv{i:Nat}{f:BA->Nat}{acc:List BA}{key:BA}(g:Ev S now A i f acc)(hl:A.length<65536)(hk:A[i]? =some key)(aN:jm 4 (aC S key now)=true)(rY:((aC S key now).getD aL).list.Pairwise λa b=>aP a b=true):∃WB,Ev S now A (i+1) (lV f i ((aC S key now).getD aL).list) WB:=by
 obtain⟨g1,g2⟩:=g;have fY:i<A.length:=(ak7.1 hk).1;have qN:A[i]=key:=(ak7.1 hk).2;have hle:∀s,lV f i ((aC S key now).getD aL).list s<=i+1:=λs=>by
  have:=g1 s;unfold lV;split<;>omega
 have fX:A.drop i=key::A.drop (i+1):=by rw[alx fY,qN]
 by_cases hi:i=0
 .subst hi;refine⟨((aC S key now).getD aL).list,hle,λ_=>⟨rY,λs=>?_,?_⟩⟩
  .have:=g1 s;unfold lV;constructor
   .intro h;split at h
    .rename_i h2;exact h2.1
    .omega
   .intro h;rw[ak4 ⟨h,V⟩]
  .obtain⟨ks,rfl⟩:∃ks,A=key::ks:=⟨A.drop 1,by simpa using fX⟩
   have hl:ks.length+1<65536:=hl;show(if ks.length<65536 then bX S now 4 key λt=>tL S now t.list ks λl=>.ok (fC l,[])else .error cX)=_;rw[ak4 V,hX aN];rfl
 .obtain⟨g3,g4,g5⟩:=g2 V;refine⟨acc.filter (bF ((aC S key now).getD aL).list),hle,λ_=>⟨g3.filter _,λs=>?_,?_⟩⟩
  .rw[amb];unfold lV bF;have h4:=g4 s;have:=g1 s;constructor
   .intro h;split at h
    .rename_i h2;exact⟨h4.1 h2.2,ale h2.1⟩
    .omega
   .rintro⟨h5,h6⟩;rw[ak4 ⟨amy h6,h4.2 h5⟩]
  .rw[g5,fX];show bX S now 4 key (λt=>tL S now (acc.filter (bF t.list)) (A.drop (i+1)) λl=>.ok (fC l,[]))=_;rw[hX aN]
def abu{i:Nat}{f:BA->Nat}{acc:List BA}{key:BA}(g:Ev S now A i f acc)(hl:A.length<65536)(hk:A[i]? =some key)(aN:jm 4 (aC S key now)=false):uD S now A=.error gI:=by
 have fY:i<A.length:=(ak7.1 hk).1;have qN:A[i]=key:=(ak7.1 hk).2;have fX:A.drop i=key::A.drop (i+1):=by rw[alx fY,qN]
 by_cases hi:i=0
 .subst hi;obtain⟨ks,rfl⟩:∃ks,A=key::ks:=⟨A.drop 1,by simpa using fX⟩
  have hl:ks.length+1<65536:=hl;show(if ks.length<65536 then bX S now 4 key λt=>tL S now t.list ks λl=>.ok (fC l,[])else .error cX)=_;rw[ak4 V,nw aN]
 .rw[(g.2 V).2.2,fX];exact nw aN
set_option maxHeartbeats 2000000 in
def ag4(p:P9 h0 kb sb mb c m S av A)(dd:S9 S)(hi:gQ S)(hA:A.length<=30)(x:As h0 h (c0 ab kb now av)):aj Tryz.prog 206 [ptr ab] h (eE h0 h ab kb now av (uD S now A)):=by
 refine f206.c ?_;intro b2 h1 g1;have w:=x.st.new g1;refine cT (i:=1) x w Y (λx=>q7 p Dd x) ?_ ?_;rotate_left
 .rintro why h2 ⟨hB,rfl⟩ c2;refine cF ?_ c2;cases A with
  |nil=>rfl
  |cons k0 l=>exact absurd ⟨by simp;omega,by simp at hA⊢;omega⟩ hB
 rintro _ h2 _ ⟨hb,k0,bP,rfl⟩ w;obtain⟨ba,oa,ac,rfl⟩:=p.cz V;intro dH h3 g3;have w:=w.Ag g3;refine w.bV 2 Y Y<|bA (λi:Nat=>[(0,ptr ab),(2,ptr b2),(3,.map (some dH)),(17,.slice (some ⟨ba,oa,none⟩) A.length ac),(18,.int .i64 A.length),(19,.int .i64 i)])
  (λi h'=>i<=A.length∧∃ms cc ks f acc key t is pv lw rv,IM ms cc ks f∧ms.length<=2000*i∧Ev S now A i f acc∧
   St (c0 ab kb now (.slice (some ⟨ba,oa,none⟩) A.length ac)).fp h h' [.m dH ms cc,.b b2 zR,cE ab kb now (.slice (some ⟨ba,oa,none⟩) A.length ac) key t is pv lw rv iH []])
  (λi=>A.length-i) 0 J6 ⟨ak8 _,[],0,[],λ_=>0,[],_,_,_,_,_,_,IM.nil,ak8 _,⟨λ_=>ali _,λh9=>absurd h9 Dd⟩,w⟩ ?_
 rintro i h4 ⟨fY,ms,cc,ks,f,acc,key,t,is,pv,lw,rv,im,ko,gn,w⟩;refine Bi (λah=>?_) λcp=>?_
 .have ah:i<A.length:=V
  obtain⟨s,hs⟩:∃s,A[i]? =some s:=⟨_,akU ah⟩
  refine p.ix (x.base w) i Y hs<|w.ckey 2 Y λh5 w=>cT (i:=2) x w Y (λx=>rf p x) ?_ ?_;rotate_left
  .rintro why h6 ⟨hB,rfl⟩ c6;exact cF (abu gn V hs hB) c6
  rintro _ h6 _ ⟨hk,p2,w2,r2,rfl⟩ w;have htl:=(dd.get s now).ls;have htz:=(dd.get s now).lz;have rY:=Hx hi hk;obtain⟨WC,gn2⟩:=abv gn V hs hk rY;generalize (aC S s now).getD aL=t at*;obtain⟨la,lc,rfl,_⟩:=(w.gG 2 Y).2.1.form;have dt:t.list.Nodup:=rY.imp λh=>sq h;refine w.bV 2 Y Y<|bA (λj:Nat=>[(0,ptr ab),(2,ptr b2),(3,.map (some dH)),(4,.int .i64 i),(17,.slice (some ⟨ba,oa,none⟩) A.length ac),(18,.int .i64 A.length),(19,.int .i64 i),(34,.slice la t.list.length lc),(35,.int .i64 t.list.length),(36,.int .i64 j)])
   (λj h'=>j<=t.list.length∧∃ms cc ks,IM ms cc ks (lV f i (t.list.take j))∧ms.length<=2000*i+j∧
    St (c0 ab kb now (.slice (some ⟨ba,oa,none⟩) A.length ac)).fp h h' [.m dH ms cc,.b b2 zR,cE ab kb now (.slice (some ⟨ba,oa,none⟩) A.length ac) s t (aC S s now).isSome p2 (.slice la t.list.length lc) r2 iH []])
   (λj=>t.list.length-j) 0 lY ⟨ak8 _,ms,cc,ks,by rw[List.take_zero,ahm];exact im,V,w⟩ ?_
  clear im w ko;rintro j h7 ⟨eA,ms,cc,ks,im,ko,w⟩;refine Bi (λgY=>?_) λF7=>?_
  .have gY:j<t.list.length:=V
   obtain⟨b,o,rfl⟩:=(w.gG 2 Y).2.1.addr V;obtain⟨y,hy⟩:∃y,y=t.list[j]:=⟨_,Y⟩
   have hyz:=htz y (by rw[hy];exact ak9 gY);have ej:t.list.take (j+1)=t.list.take j++[y]:=by rw[alI gY,hy]
   have tI:y∉t.list.take j:=λhm=>by
    have h9:t.list.take (j+1)=t.list.take j++[y]:=ej;have h8:=dt.sublist (List.take_sublist (j+1) t.list);rw[h9,amN]at h8;exact h8.2.2 y hm y Yy Y
   have qL:=ahl (f:=f) (i:=i) tI;refine qi (s:=y) (w.gG 2 Y).2.1 j Y (by rw[hy];exact akU gY) ?_;have gfy:f y<=i:=gn.1 y;have next:∀{h8:af}{ms:List MapEntry}{cc:Nat}{ks:List BA},IM ms cc ks (lV f i (t.list.take (j+1)))->ms.length<=2000*i+(j+1)->
     St (c0 ab kb now (.slice (some ⟨ba,oa,none⟩) A.length ac)).fp h h8 [.m dH ms cc,.b b2 zR,cE ab kb now (.slice (some ⟨ba,oa,none⟩) A.length ac) s t (aC S s now).isSome p2 (.slice (some ⟨b,o,none⟩) t.list.length lc) r2 iH []]->
     j+1<=t.list.length∧∃ms cc ks,IM ms cc ks (lV f i (t.list.take (j+1)))∧ms.length<=2000*i+(j+1)∧St (c0 ab kb now (.slice (some ⟨ba,oa,none⟩) A.length ac)).fp h h8 [.m dH ms cc,.b b2 zR,cE ab kb now (.slice (some ⟨ba,oa,none⟩) A.length ac) s t (aC S s now).isSome p2 (.slice (some ⟨b,o,none⟩) t.list.length lc) r2 iH []]:=
    λa b c=>⟨gY,_,_,_,a,b,c⟩
   rcases im.val y with⟨hn,e1,JY⟩|⟨hm,q,e1⟩
   .have JY:f y=0:=qL.symm.trans JY;refine Ai Y (Ei ms (Ei cc (Ai (w.get 0 Y) (Ai im.fits ?_))));rw[e1];refine Bi (λheq=>?_) λax=>?_
    .have F9:i=0:=V
     refine Ai Y (Ei ms (Ei cc (Ai (w.get 0 Y) (Ai im.fits ?_))));rw[e1];refine Ai Y (λz hz=>?_);have hz:z=1:=by have:=cd hz V V;omega
     subst hz;refine Ai Y (Ei ms (Ei cc (Ai (w.get 0 Y) (Ai im.fits ?_))));rw[e1];intro h8 p8;have w:=w.iG 0 Y p8;have Dm:=im.DT hn e1 (qL.trans JY) V Y;rw[Vj tI V,<-ej]at Dm;exact Az<|Ai Y (Ei (j+1) (Ai lY (Ai (next Dm Ys w) V)))
    .rw[Vi (x:=y) V,<-ej]at im;exact Az<|Ai Y (Ei (j+1) (Ai lY (Ai (next im V w) V)))
   .refine Ai Y (Ei ms (Ei cc (Ai (w.get 0 Y) (Ai im.fits ?_))));rw[e1];refine Bi (λheq=>?_) λax=>?_
    .have sT:f y=i:=by rw[qL]at heq;omega
     refine Ai Y (Ei ms (Ei cc (Ai (w.get 0 Y) (Ai im.fits ?_))));rw[e1];refine Az<|Ai Y (Ei ms (Ei cc (Ai (w.get 0 Y) (Ai im.fits ?_))));rw[e1];intro h8 p8;have w:=w.iG 0 Y p8;have Dm:=im.DU hm e1 Y;rw[Vj tI sT,<-ej]at Dm;exact Az<|Ai Y (Ei (j+1) (Ai lY (Ai (next Dm (by rw[List.length_modify];omega) w) V)))
    .have sT:f y≠i:=λe=>ax (by rw[qL];omega);rw[Vi sT,<-ej]at im;exact Az<|Ai Y (Ei (j+1) (Ai lY (Ai (next im V w) V)))
  .have hj:j=t.list.length:=V
   subst hj;rw[alm]at im;exact Az<|Ai Y (Ei (i+1) (Ai J6 (Ai ⟨ah,ms,cc,ks,_,WC,_,_,_,_,_,_,im,V,gn2,w⟩ V)))
 .have hin:i=A.length:=V
  subst hin;obtain⟨g1,g2⟩:=gn;obtain⟨g3,g4,g5⟩:=g2 V;rw[amE]at g5;have he:uD S now A=.ok (fC acc,[]):=g5;have hM:cN h4 dH ms cc:=w.get 0 Y;refine akV SI.Lp ?_;rintro _ h5 ⟨rfl,rfl⟩;have w5:=w.ext (SI.Lf h4 dH);refine akV (SI.Mv (mb:=dH) (c:=cc) (ms:=ms) (ks:=ks) ⟨hM,im.keys,im.small,V,im.born,im.nR,im.nodup⟩) ?_;rintro r h6 ⟨Lk,PY,JD,hLo,qK,c6⟩;have w:=w5.add (e:=MH r Lk) c6 PY (λb hb=>by
   have:=qK b (ag9 hb);show(SI.kO h4 dH).size<=b;unfold SI.kO;simp;omega)
  have aZ:=im.adg;have JC:Lk.length<=60000:=by rw[JD.length_eq,aZ];omega
  obtain⟨ra,rc,rfl,_⟩:=PY.form;have F6:Lk.filter (λs=>decide (f s=A.length))=acc:=ahj (hLo.filter _) g3 λs=>by
   rw[amb,JD.mem_iff,<-g4 s];constructor
   .rintro⟨_,h9⟩;exact amy h9
   .intro h9;refine⟨?_,ale h9⟩;rcases im.val s with⟨_,_,h0⟩|⟨hm,_⟩
    .omega
    .exact hm
  have w:=w.empty (enc:=encS) (size:=1);refine bA (λq:Nat×Value=>[(0,ptr ab),(2,ptr b2),(3,.map (some dH)),(8,q.2),(53,.slice ra Lk.length rc),(54,.int .i64 Lk.length),(55,.int .i64 q.1)])
   (λq h'=>q.1<=Lk.length∧St (c0 ab kb now (.slice (some ⟨ba,oa,none⟩) A.length ac)).fp h h' [.o encS 1 q.2 ((Lk.take q.1).filter λs=>decide (f s=A.length)),MH (.slice ra Lk.length rc) Lk,.m dH ms cc,.b b2 zR,
    cE ab kb now (.slice (some ⟨ba,oa,none⟩) A.length ac) key t is pv lw rv iH []])
   (λq=>Lk.length-q.1) (0,.slice none 0 0) J7 ⟨ak8 _,w⟩ ?_
  rintro⟨q,v⟩ h7 ⟨hq,w⟩;replace hq:q<=Lk.length:=hq;have hfl:=amR (λs=>decide (f s=A.length)) (Lk.take q);rw[alA]at hfl;obtain⟨a7,c7,rfl,_⟩:=(show OL encS 1 h7 v ((Lk.take q).filter λs=>decide (f s=A.length))from w.get 0 Y).sl.form;refine Bi (λah=>?_) λF7=>?_
  .have ah:q<Lk.length:=V
   have PZ:SL encS h7 (.slice ra Lk.length rc) Lk:=w.get 1 Y;obtain⟨b,o,rfl⟩:=PZ.addr V;obtain⟨y,hy⟩:∃y,y=Lk[q]:=⟨_,Y⟩
   have hym:y∈ks:=JD.mem_iff.1 (by rw[hy];exact ak9 ah);have ej:Lk.take (q+1)=Lk.take q++[y]:=by rw[alI ah,hy]
   refine qi (s:=y) PZ q Y (by rw[hy];exact akU ah) ?_;rcases im.val y with⟨hn,_⟩|⟨_,p1,e1⟩
   .exact absurd hym hn
   refine Ai Y (Ei ms (Ei cc (Ai (w.get 2 Y) (Ai im.fits ?_))));rw[e1];refine w.bV 4 Y Y<|Bi (λheq=>?_) λax=>?_
   .have qL:decide (f y=A.length)=true:=ale V;intro b8 h8 g8;have w:=w.new g8;refine w.app 1 Y bj fP Y (SL.one bj (x:=y) (w.get 0 Y)) (by simp only[al1];omega) λv' h9 w=>?_;have ik:(Lk.take q).filter (λs=>decide (f s=A.length))++[y]=(Lk.take (q+1)).filter λs=>decide (f s=A.length):=by
     rw[ej,anz,anW,qL];rfl
    rw[ik]at w;have w:=w.pick [1,2,3,4,5] Dd;exact Az<|Ai Y (Ei (q+1,v') (Ai J7 (Ai ⟨ah,w⟩ Yo)))
   .have qL:decide (f y=A.length)=false:=alg V;have ik:(Lk.take q).filter (λs=>decide (f s=A.length))=(Lk.take (q+1)).filter λs=>decide (f s=A.length):=by
     rw[ej,anz,anW,qL];simp
    have ew:(En.o encS 1 (.slice a7 ((Lk.take q).filter λs=>decide (f s=A.length)).length c7) ((Lk.take q).filter λs=>decide (f s=A.length)))=.o encS 1 (.slice a7 ((Lk.take q).filter λs=>decide (f s=A.length)).length c7) ((Lk.take (q+1)).filter λs=>decide (f s=A.length)):=by rw[<-ik]
    rw[ew]at w;exact Az<|Ai Y (Ei (q+1,_) (Ai J7 (Ai ⟨ah,w⟩ Yo)))
  .have lN:q=Lk.length:=V
   subst lN;have hO:OL encS 1 h7 (.slice a7 ((Lk.take Lk.length).filter λs=>decide (f s=A.length)).length c7) ((Lk.take Lk.length).filter λs=>decide (f s=A.length)):=w.get 0 Y;refine akV (Li hO.sl V) ?_;rintro _ h8 ⟨⟨ra8,rn8,rc8,rfl,ol,fr⟩,c8⟩;have hz:=w.size;have w:=w.add (e:=.o bR 4 (.slice ra8 rn8 rc8) _) c8 ol fr;refine w.st1 4 Y Y Y Y λh9 w=>yS x w 4 5 0 Y Y Y (λb hb=>by have:=fr b hb;omega) ?_;rw[he,alm,F6];simp[fC,qs,toQ]
end
end Go.Proofs.YtocgmipngoiieaaGreatDoor
namespace Go.Proofs.YtocgmipngoiieaaGreatDoor
open Go Go.Sx C
section
variable {h0 h h1 h':af}{xb i:Nat}{now n m:Int}{kv av lv pv lw rv:Value}{k:List RX}{A l:List BA}{L E:List aA}{why key s u nm:BA}{t:aB}{M:List En}{T:List Nat}{res:aM}
set_option maxHeartbeats 2000000 in
def afs(c:dT h0 kv k av A)(x:As h0 h (aT xb t pv lw rv key kv now av lv [] au))(s9:S9 (k.map RX.pr))(hz:∀a∈A,a.size<=300)(aw:A.length<=20)(iC:0<A.length):aj Tryz.prog 52 [ptr xb] h
  (ao (cj h0 h xb t pv lw rv key kv now av lv (uD (k.map RX.pr) now A))):=by
 obtain⟨b,o,cc,rfl⟩:=c.cz iC;obtain⟨S,hS⟩:∃S,S=k.map RX.pr:=⟨_,Y⟩
 obtain⟨rs,df⟩:∃rs,rs=uD S now A:=⟨_,Y⟩
 rw[<-hS]at s9;rw[<-hS,<-df];refine f52.c ?_;intro b2 h1 g1;have w:=x.st.new g1;have w:=w.add (e:=En.nil) (ag.refl _) trivial (λb hb=>(nomatch (show b∈([]:List Nat)from hb)));refine bA (λq:Nat×Value=>[(0,ptr xb),(2,ptr b2),(3,q.2),(4,.int .i64 q.1)])
  (λq h'=>q.1<=A.length∧∃(e0:En)(acc:List BA)(t':aB)(dQ gO dV aY:Value)(gh:BA),
   St (xb::aq lv) h h' [e0,.b b2 zR,aT xb t' dQ gO dV gh kv now (.slice (some ⟨b,o,none⟩) A.length cc) aY [] au]∧
   (∀h2,e0.at h2->ag [] h0 h2->SL encS h2 q.2 acc)∧acc.length<=2000∧(0<q.1->rs=tL S now acc (A.drop q.1) λl=>.ok (fC l,[])))
  (λq=>A.length-q.1) (0,.slice none 0 0) J4 ⟨ak8 _,En.nil,[],t,pv,lw,rv,lv,key,w,λ_ _ _=>SL.nil,Yy,λh=>absurd h Yy⟩ ?_
 rintro⟨q,v⟩ h4 ⟨hq,e0,acc,t1,pv1,lw1,rv1,GL,akK,w,hv,pK,iW⟩;have hq:q<=A.length:=hq;have hv:∀h2,e0.at h2->ag [] h0 h2->SL encS h2 v acc:=hv;have iW:0<q->rs=tL S now acc (A.drop q) λl=>.ok (fC l,[]):=iW;have Q6:=hv _ (w.get 0 Y) (x.base w);obtain⟨va,vc,rfl,_⟩:=Q6.form;refine w.aG 2 Y Y<|Bi (λah=>?_) λcp=>?_
 .have ah:q<A.length:=V
  have zk:A[q].size<=300:=hz _ (ak9 ah);refine w.aG 2 Y Y<|c.ix (x.base w) q Y (akU ah)<|w.Vg 2 Y λh5 w=>akV (Un (kd:=4) c (x.out w 2 Y).1 V) ?_;rintro _ h6 ⟨G8,lw2,AF,rfl,gf,_,o6⟩;have w:=w.own 2 Y o6;rw[<-hS]at gf w⊢;have t9:=s9.get A[q] now;have fX:A.drop q=A[q]::A.drop (q+1):=alx ah;cases aN:jm 4 (aC S A[q] now)with
  |false=>
   rw[aN]at w;refine w.st1 1 Y Y Y Y λh7 w=>?_;refine⟨_,Y,akW (w.get 1 Y),gF 0 0 au,_,[],gI,⟨none,0,0,Y,SL.nil,λb hb=>(nomatch (show b∈([]:List Nat)from hb))⟩,⟨_,_,_,_,_,x.out w 2 Y⟩,dI.no Dd ?_⟩;cases q with
   |zero=>
    rw[df];cases A with
    |nil=>simp at iC
    |cons a A'=>
     show(if A'.length<65536 then bX S now 4 a _ else _)=_;rw[ak4 (by simp only[ak0]at aw;omega)];exact Ds aN
   |succ q=>
    rw[iW V,fX];exact Ds aN
  |true=>
   rw[aN]at w;have jx:=λh2 hc=>(fT (gf h2 hc)).2.1;have tl:=t9.ls;obtain⟨la,lc,rfl,_⟩:=(jx h0 (ag.refl _)).form;refine Bi (λhq0=>?_) λhq0=>?_
   .obtain rfl:q=0:=V
    refine w.aG 2 Y Y<|Az ?_;have w:=w.gone 0 Y (ag.refl _|>.mono (λk hk=>hk)) (S:=[]) (λb hb=>(nomatch hb));refine Ai Y (Ei (1,_) (Ai J4 (Ai ⟨ah,En.nil,((aC S A[0] now).getD aL).list,_,_,_,_,_,_,w,λh2 _ hc=>jx h2 hc,tl,λ_=>?_⟩ Yo)));rw[df];cases A with
    |nil=>simp at iC
    |cons a A'=>
     show(if A'.length<65536 then bX S now 4 a _ else _)=_;rw[ak4 (by simp only[ak0]at aw;omega)];exact Dt aN
   .have oV:0<q:=V
    have g:eJ h0 kv k (.slice (some ⟨b,o,none⟩) A.length cc) A A[q] ((aC S A[q] now).getD aL) G8 (.slice la ((aC S A[q] now).getD aL).list.length lc) AF:=⟨c,gf,t9,zk,hz,aw⟩
    obtain⟨tt,Q4⟩:∃tt,tt=(aC S A[q] now).getD aL:=⟨_,Y⟩
    rw[<-Q4]at w g jx tl;have w:=w.empty (enc:=encS) (size:=1);refine bA (λj:Nat×Value=>[(0,ptr xb),(2,ptr b2),(3,.slice va acc.length vc),(4,.int .i64 q),(5,j.2),(6,.int .i64 j.1)])
     (λj h'=>j.1<=acc.length∧∃aY:Value,St (xb::aq lv) h h' [.o encS 1 j.2 ((acc.take j.1).filter (bF tt.list)),e0,.b b2 zR,aT xb tt G8 (.slice la tt.list.length lc) AF A[q] kv now (.slice (some ⟨b,o,none⟩) A.length cc) aY [] au])
     (λj=>acc.length-j.1) (0,.slice none 0 0) J6 ⟨ak8 _,_,w⟩ ?_
    rintro⟨j,vb⟩ h8 ⟨hj,tP,w⟩;have hj:j<=acc.length:=hj;have w:St (xb::aq lv) h h8 [.o encS 1 vb ((acc.take j).filter (bF tt.list)),e0,.b b2 zR,aT xb tt G8 (.slice la tt.list.length lc) AF A[q] kv now (.slice (some ⟨b,o,none⟩) A.length cc) tP [] au]:=w;have hfl:((acc.take j).filter (bF tt.list)).length<=2000:=al6 (amR _ _) (by rw[alA];omega);obtain⟨ba,bc,rfl,_⟩:=(show OL encS 1 h8 vb _ from w.get 0 Y).sl.form;refine Bi (λeA=>?_) λhjg=>?_
    .have eA:j<acc.length:=V
     have KO:=hv _ (w.get 1 Y) (x.base w);obtain⟨vb',vo,rfl⟩:=KO.addr V;have gD:(acc.take (j+1)).filter (bF tt.list)=(acc.take j).filter (bF tt.list)++(if bF tt.list acc[j]=true then[acc[j]]else[]):=by
      rw[alI eA,anz];congr 1;cases hp:bF tt.list acc[j]with
      |true=>rw[ak4 Y];simp[hp]
      |false=>rw[akZ Dd];simp[hp]
     refine qi KO j Y (akU eA)<|akV (Hh (x.out w 3 Y).1 g) ?_;rintro _ h9 ⟨hr,e9⟩;have e9:=e9.symm;subst e9;rcases hr with⟨hf,rfl⟩|⟨hf,rfl⟩
     .have w:St (xb::aq lv) h h8 [.o encS 1 (.slice ba ((acc.take j).filter (bF tt.list)).length bc) ((acc.take (j+1)).filter (bF tt.list)),e0,.b b2 zR,aT xb tt G8 (.slice la tt.list.length lc) AF A[q] kv now (.slice (some ⟨b,o,none⟩) A.length cc) tP [] au]:=by
       rw[gD,akZ (by simpa[bF]using hf),amA];exact w
      exact Az<|Ai Y (Ei (j+1,_) (Ai J6 (Ai ⟨eA,_,w⟩ Yo)))
     .refine qi KO j Y (akU eA) ?_;intro b9 bp g10;have w:=w.new g10;refine w.app 1 Y bj fP Y (SL.one bj (x:=acc[j]) (w.get 0 Y)) (by simp only[al1];omega) λv' dO w=>?_;rw[show(acc.take j).filter (bF tt.list)++[acc[j]]=(acc.take (j+1)).filter (bF tt.list)by rw[gD,ak4 (by simpa[bF]using hf)]]at w;have w:=w.pick [1,2,3,4] Dd;exact Az<|Ai Y (Ei (j+1,_) (Ai J6 (Ai ⟨eA,_,w⟩ Yo)))
    .have qM:j=acc.length:=V
     have w:=w.pick [0,2,3] Dd;refine Az<|Ai Y (Ei (q+1,_) (Ai J4 (Ai ⟨ah,_,(acc.take j).filter (bF tt.list),_,_,_,_,_,_,w,λh2 he _=>(show OL encS 1 h2 _ _ from he).sl,hfl,λ_=>?_⟩ Yo)));show rs=_;rw[iW oV,fX,qM,alm];show bX S now 4 A[q] _=_;rw[Dt aN,Q4]
 .have qQ:q=A.length:=V
  have l4:b2<h4.size:=(show ai h4 b2 _ from w.get 1 Y).lt;have z1:=w.ae.size;refine akV (AD Q6 V) ?_;rintro _ h5 ⟨⟨ra,rn,rc,rfl,sl,fr⟩,c5⟩;have w:=w.ext c5;refine w.st2 1 Y Y Y Y λh6 w k6=>?_;refine⟨_,Y,akW (w.get 1 Y),fC acc,GL,[],au,⟨ra,rn,rc,Y,sl.ae k6 (λb hb=>by have:=fr b hb;simp;omega),λb hb=>by have:=fr b hb;omega⟩,⟨_,_,_,_,_,x.out w 2 Y⟩,dI.ok ?_⟩;rw[iW V,qQ,amE];rfl
end
end Go.Proofs.YtocgmipngoiieaaGreatDoor
namespace Go.Proofs.YtocgmipngoiieaaGreatDoor
open Go Go.Sx C
def mJ(N:BA)(lo hi:Int)(A:List BA):Prop:=lo<=A.length∧(A.length:Int)<=hi∧((N=vx∨N=vy)->A.length%2=1)
set_option maxHeartbeats 2000000 in
def Ax{h:af}{kv av:Value}{k:List RX}{now lo hi kd wh:Int}{fn:Nat}{w N:BA}{A:List BA}{res:aM}(aQ:SL dv h kv k)(lG:GX h k)(gg:gR k)(hlen:k.length<4611686018427387904)(bK:oB k)(hA:SL encS h av (w::A))(aw:A.length+1<=20)(pW:w.size<=300)(hz:∀s∈A,s.size<=300)(hN:up w=N)(hb:eH N lo hi kd wh)(jE:1<=lo)(fz:(kd=2∧fn=54)∨(kd=3∧fn=55)∨(kd=4∧fn=56)∨(kd=5∧fn=57))(pR:¬mJ N lo hi A->res=.error cX)(ng:mJ N lo hi A->(∃j,1<=j∧j<A.length∧kC wh j∧(A[j]?.bind numOf)=none)->res=.error jN)(uX:N≠tY->mJ N lo hi A->EC wh A->∀key,A[0]? =some key->jm kd (aC (k.map RX.pr) key now)=false->res=.error gI)(zG:∀key,T9 ((aC (k.map RX.pr) key now).getD aL))(hf:N≠tY->∀{h1:af}{xb:Nat}{fO pv lw rv:Value}{key:BA},A[0]? =some key->mJ N lo hi A->EC wh A->jm kd (aC (k.map RX.pr) key now)=true->eJ h kv k fO A key ((aC (k.map RX.pr) key now).getD aL) pv lw rv->
   As h h1 (aT xb ((aC (k.map RX.pr) key now).getD aL) pv lw rv key kv now fO (.slice none 0 0) [] au)->
   aj Tryz.prog fn [ptr xb,.string N] h1 (ao (cj h h1 xb ((aC (k.map RX.pr) key now).getD aL) pv lw rv key kv now fO (.slice none 0 0) res)))(hin:N=tY->mJ N lo hi A->∀{h1:af}{xb:Nat}{fO:Value}{key:BA},dT h kv k fO A->As h h1 (aT xb aL (.slice none 0 0) (.slice none 0 0) (.slice none 0 0) key kv now fO (.slice none 0 0) [] au)->
   aj Tryz.prog 52 [ptr xb] h1 (ao (cj h h1 xb aL (.slice none 0 0) (.slice none 0 0) (.slice none 0 0) key kv now fO (.slice none 0 0) res))):
  aj Tryz.prog 23 [kv,.int .i64 now,av] h (ao (j9 h res)):=by
 obtain⟨ka,kc,rfl,_⟩:=aQ.form;obtain⟨a,cc,rfl,ie⟩:=hA.form;obtain⟨b0,o0,rfl⟩:=hA.addr Yy;have hl:(w::A).length<=20:=aw;refine f23.c ?_;intro b6 h1 g1;have w1:=(St.start h).new g1;refine Ai Y (Ai (λh0=>absurd h0 Ys) (λ_=>?_));have hc0:=(hA.ext w1.ae).cells bj (i:=0) (x:=w) Yy;refine Ai Dd (Ai Yy (Ei _ (Ai (by simpa using hc0 0 _ Y) ?_)));refine w1.aV (AG V) λh2 w2=>?_;rw[hN];refine dN (hb h2)<|Ai Dd (Ai (by simp only[ak0];omega) (Ai V<|ub (lo:=1) (hi:=(w::A).length) bj (hA.ext w2.ae) Yy (ali _) λv1 bL=>?_));have e1:((w::A).drop 1).take ((w::A).length-1)=A:=Yy
 rw[e1]at bL;obtain⟨a1,lh,rfl,JT⟩:=(bL h hA).form;intro xb h5 g5;have w5:=w2.new g5;have z2:=w2.ae.size;have i5:=g5.id;have c:dT h (.slice ka k.length kc) k (.slice a1 A.length lh) A:=⟨aQ,lG,gg,hlen,bK,λh' hc=>bL h' (hA.ext hc)⟩
 have LK:xb∉aq (.slice none 0 0):=λhm=>(nomatch (show xb∈([]:List Nat)from hm))
 have w:St [] h h5 [aT xb aL (.slice none 0 0) (.slice none 0 0) (.slice none 0 0) au (.slice ka k.length kc) now (.slice a1 A.length lh) (.slice none 0 0) [] au,.b b6 zR]:=
  w5.set 0 Y (ag.refl _) Yy ⟨w5.get 0 Y,OL.nil,LK⟩ (λb hb=>by
   rcases ak3.1 hb with rfl|hb
   .exact .inl (by simp[En.fp])
   .exact(nomatch (show b∈([]:List Nat)from hb)))
 have tail:∀{h':af}{qu:Nat}{why:BA}{q:cR}{ra:Option Addr}{rn rc:Nat}{t':aB}{dQ gO dV aY:Value}{gh:BA}{E:List aA},dI res q E why->SL bR h' (.slice ra rn rc) q.l->(∀b∈bG ra,b6<b)->
   St [] h h' [.b qu [.int .i64 q.k,.int .i64 q.i,.string q.s,.slice ra rn rc],aT xb t' dQ gO dV gh (.slice ka k.length kc) now (.slice a1 A.length lh) aY E why,.b b6 zR]->
   swp Tryz.prog f23.sc.r.r.r.r.r.r.r.r.r.r.r.r (cC [.cn 6 4,.t 7,.t 8] (ao (j9 h res))) (mk [(6,ptr b6),(15,ptr xb),(17,ptr qu)]) [] h':=by
  intro h' qu why q ra rn rc t' dQ gO dV aY gh E hd sl wX w;refine w.aG 1 Y Y ?_;rcases hd with⟨rfl,hd⟩|⟨ax,hr⟩
  .refine Ai (λh9=>absurd Y h9) (λ_=>?_);obtain⟨la,lc,rfl⟩:=w.mB 1 Y;have fin:∀{h2:af},St [] h h2 [.b qu [.int .i64 q.k,.int .i64 q.i,.string q.s,.slice ra rn rc],aT xb t' dQ gO dV gh (.slice ka k.length kc) now (.slice a1 A.length lh) (.slice la E.length lc) E au,.b b6 [.int .i64 q.k,.int .i64 q.i,.string q.s,.slice ra rn rc]]->ag [b6] h' h2->
     ∃vs,vs.length=4∧fF h2 b6 0 vs∧j9 h res (.tuple ⟨[.agg ⟨vs⟩,.slice la E.length lc,.bool true]⟩) h2:=λw k=>by
    rw[hd];refine⟨_,Y,akW (w.get 2 Y),w.ae,_,_,Y,⟨ra,rn,rc,Y,sl.ae k (λb hb=>by simp;rintro rfl;exact absurd (wX _ hb) (Nat.lt_irrefl _)),λb hb=>by have:=wX b hb;have:=g1.id;omega⟩,(w.get 1 Y).2.1.sl,λb hb=>?_⟩;rcases(w.ents 1 _ rfl).2 b (alr _ hb)with h1|h1
    .cases h1
    .exact h1
   refine w.fS 0 Y Y<|Ai ?_ ?_
   .exact w.aG 1 Y Y<|w.st2 2 Y Y Y Y λdn w Lc=>fin w Lc
   .exact w.st2 2 Y Y Y Y λdn w Lc=>w.aG 1 Y Y<|fin w Lc
  .refine Ai (λ_=>w.aG 1 Y Y (w.aV vA λbp w=>w.st1 2 Y Y Y Y λdO w=>?_)) (λh9=>absurd (λe=>ax e) h9);rw[hr];exact⟨_,Y,akW (w.get 2 Y),w.ae,Y⟩
 have mid:∀{h6:af},mJ N lo hi A->St [] h h6 [aT xb aL (.slice none 0 0) (.slice none 0 0) (.slice none 0 0) au (.slice ka k.length kc) now (.slice a1 A.length lh) (.slice none 0 0) [] au,.b b6 zR]->
   swp Tryz.prog f23.sc.r.r.r.r.r.r.r.r
    (cC [.cn 6 4,.t 7,.t 8] (ao (j9 h res))) (mk [(6,ptr b6),(9,.string N),(12,.int .i64 kd),(13,.int .i64 wh),(15,ptr xb),(16,.bool true)]) [] h6:=by
  intro h6 ar w;refine akV (afG c (w.as 0 Y) V hz) ?_;rintro _ h7 (⟨bD,rfl,_,o7⟩|⟨gW,rfl,_,o7⟩);rotate_left
  .have w:=w.own 0 Y o7;refine w.aG 0 Y Y<|w.aV vA λh8 w=>w.st1 1 Y Y Y Y λh9 w=>?_;rw[ng ar gW];exact⟨_,Y,akW (w.get 1 Y),w.ae,Y⟩
  have w:=w.own 0 Y o7;have iC:0<A.length:=by have:=ar.1;omega
  obtain⟨key,mj⟩:∃key,A[0]? =some key:=⟨_,akU iC⟩
  have tf:key.size<=300:=hz key (al9 mj);obtain⟨b1,o1,OH,wK⟩:=c.cz iC;obtain⟨rfl,_,rfl⟩:=Value.slice.inj wK;refine w.aG 0 Y Y<|c.ix (w.ae) 0 Y mj<|w.Vg 0 Y λh8 w=>?_;intro qu h9 g9;have w:=w.new g9;have l6:b6<h9.size:=(show ai h9 b6 _ from w.get 2 Y).lt;refine Ai (λhe=>?_) (λax=>?_)
  .refine akV (hin he ar c (w.as 1 Y)) ?_;rintro _ dO ⟨q,aY,E,why,⟨ra,rn,rc,rfl,sl,fr⟩,⟨t',dQ,gO,dV,gh,_,LO⟩,hd⟩;have w:=w.own 1 Y LO;have l17:qu<h9.size:=g9.blk.lt;exact w.st2 0 Y Y Y Y λcO w Lb=>aW [(6,ptr b6),(15,ptr xb),(17,ptr qu)] J3 (tail hd (sl.ae Lb (λb hb=>by have:=fr b hb;simp;omega)) (λb hb=>by have:=fr b hb;omega) w)
  refine akV (Un (kd:=kd) c (w.as 1 Y) V) ?_;rintro _ bp ⟨pv,lw,rv,rfl,gf,_,o10⟩;have w:=w.own 1 Y o10;have l6:b6<bp.size:=(show ai bp b6 _ from w.get 2 Y).lt;have l17:qu<bp.size:=(show ai bp qu _ from w.get 0 Y).lt;cases aN:jm kd (aC (k.map RX.pr) key now)with
  |false=>
   rw[aN]at w;exact aW [(6,ptr b6),(15,ptr xb),(17,ptr qu)] J3 (tail (q:=⟨0,0,⟨#[]⟩,[]⟩) (dI.no Dd (uX ax ar bD key mj aN)) SL.nil (λb hb=>(nomatch (show b∈([]:List Nat)from hb))) w)
  |true=>
   rw[aN]at w;have hc:=hf ax mj ar bD aN ⟨c,gf,zG key,tf,hz,V⟩ (w.as 1 Y);rcases fz with⟨rfl,rfl⟩|⟨rfl,rfl⟩|⟨rfl,rfl⟩|⟨rfl,rfl⟩
   all_goals
    repeat refine Ai Y (Ai (λhe=>absurd he Dd) (λ_=>?_))
    refine Ai Y (Ai (λ_=>akV hc ?_) (λhe=>absurd Y he));rintro _ dO ⟨q,aY,E,why,⟨ra,rn,rc,rfl,sl,fr⟩,⟨t',dQ,gO,dV,gh,_,LO⟩,hd⟩;have w:=w.own 1 Y LO;exact w.st2 0 Y Y Y Y λcO w Lb=>aW [(6,ptr b6),(15,ptr xb),(17,ptr qu)] J3 (tail hd (sl.ae Lb (λb hb=>by have:=fr b hb;simp;omega)) (λb hb=>by have:=fr b hb;omega) w)
 refine akV (Uk c (w.as 0 Y)) ?_;rintro _ h6 (⟨m1,m2,rfl,_,o6⟩|⟨mn,rfl,_,o6⟩);rotate_left
 .have w:=w.own 0 Y o6;refine w.aG 0 Y Y<|w.aV vA λh7 w=>w.st1 1 Y Y Y Y λh8 w=>?_;rw[pR (λar=>mn ⟨ar.1,ar.2.1⟩)];exact⟨_,Y,akW (w.get 1 Y),w.ae,Y⟩
 have w:=w.own 0 Y o6;refine Ai (λhe=>?_) (λlK=>?_);rotate_left;refine Ai (λhe=>?_) (λnf=>?_);rotate_left
 .exact aW [(6,ptr b6),(9,.string N),(12,.int .i64 kd),(13,.int .i64 wh),(15,ptr xb),(16,.bool true)] J6 (mid ⟨m1,m2,λhp=>absurd hp (by rintro(h|h);exact lK h;exact nf h)⟩ w)
 all_goals
  have hp:N=vx∨N=vy:=by first|exact .inl he|exact .inr he
  refine w.aG 0 Y Y<|Ai Y (Ai Dd (λz jk=>?_));have jk:z=((A.length%2:Nat):Int):=by rw[jk];exact(anT A.length 2).symm
  subst jk;refine Bi (λjw=>?_) λgZ=>?_
  .refine w.kW 0 Y λh7 w=>w.aG 0 Y Y<|w.aV vA λh8 w=>w.st1 1 Y Y Y Y λh9 w=>?_;rw[pR (λar=>by have:=ar.2.2 hp;omega)];exact⟨_,Y,akW (w.get 1 Y),w.ae,Y⟩
  .exact aW [(6,ptr b6),(9,.string N),(12,.int .i64 kd),(13,.int .i64 wh),(15,ptr xb),(16,.bool true)] J6 (mid ⟨m1,m2,λ_=>V⟩ w)
end Go.Proofs.YtocgmipngoiieaaGreatDoor
namespace Go.Proofs.YtocgmipngoiieaaGreatDoor
open Go Go.Sx C
section
variable {h0 h h1 h':af}{xb i:Nat}{now n m:Int}{kv av lv pv lw rv:Value}{k:List RX}{A l:List BA}{L E:List aA}{why key s u nm:BA}{t:aB}{M:List En}{T:List Nat}{res:aM}
def UU(t9:T9 t){z:Int}(h:fM t.ranks nm=some z):cy z:=by
 unfold fM at h;cases hp:t.ranks.find? (λr=>decide (r.name=nm))with
 |none=>rw[hp]at h;cases h
 |some p=>
  rw[hp]at h;rw[<-amu h];exact t9.ri p (am6 hp)
def agA(x:As h0 h (aT xb t pv lw rv key kv now av lv [] au))(g:eJ h0 kv k av A key t pv lw rv):aj Tryz.prog 57 [ptr xb,.string ⟨#[90,67,65,82,68]⟩] h
  (ao (cj h0 h xb t pv lw rv key kv now av lv (.ok (bO t.ranks.length,[])))):=by
 refine f57.c ?_;intro b4 h1 g1;have w:=x.st.new g1;have aQ:=λh2 hc=>(fT (g.th h2 hc)).2.2;obtain⟨la,lc,rfl,_⟩:=(aQ h0 (ag.refl _)).form;have ln:t.ranks.length<=2000:=g.t9.rs;exact w.aG 1 Y Y<|Bn<|Bn<|Ai (λ_=>w.aV eZ λh2 w=>w.st1 0 Y Y Y Y λh3 w=>cj.fin x w 0 1 Y Y (dI.ok Y)) (λhe=>absurd Y he)
def agE(x:As h0 h (aT xb t pv lw rv key kv now av lv [] au))(g:eJ h0 kv k av (key::l) key t pv lw rv):aj Tryz.prog 57 [ptr xb,.string ⟨#[90,82,69,77]⟩] h
  (ao (cj h0 h xb t pv lw rv key kv now av lv (.ok (bO (gX (dA t.ranks) l).length,(gX (dA t.ranks) l).map λn=>⟨15,key,n,au,0⟩)))):=by
 refine f57.c ?_;intro b4 h1 g1;have w:=x.st.new g1;have aQ:=λh2 hc=>(fT (g.th h2 hc)).2.2;obtain⟨la,lc,rfl,_⟩:=(aQ h0 (ag.refl _)).form;have ln:t.ranks.length<=2000:=g.t9.rs;refine w.aG 1 Y Y<|Bn<|Ai (λ_=>akV (Mg (th:=dA t.ranks) (λx=>Uv x g) (x.out w 1 Y).1 g) ?_) (λhe=>absurd Y he);rintro _ h2 ⟨q,aY,E,why,⟨ra,rn,rc,rfl,sl,fr⟩,⟨t',dQ,gO,dV,gh,_,o2⟩,hd⟩;have l4:b4<h1.size:=(show ai h1 b4 _ from w.get 0 Y).lt;have z1:=w.ae.size;have w:=w.own 1 Y o2;refine w.st2 0 Y Y Y Y λh3 w k3=>?_;exact⟨_,Y,akW (w.get 0 Y),q,aY,E,why,⟨ra,rn,rc,Y,sl.ae k3 (λb hb=>by have:=fr b hb;simp;omega),λb hb=>by have:=fr b hb;omega⟩,⟨t',dQ,gO,dV,gh,x.out w 1 Y⟩,hd⟩
def agF(aU:dr h0)(x:As h0 h (aT xb t pv lw rv key kv now av lv [] au))(g:eJ h0 kv k av [key,s] key t pv lw rv):aj Tryz.prog 57 [ptr xb,.string ⟨#[90,83,67,79,82,69]⟩] h
  (ao (cj h0 h xb t pv lw rv key kv now av lv (match fM t.ranks s with
   |some z=>.ok (iu ⟨⟨Lib.itoa z⟩⟩,[])
   |none=>.ok (jJ,[])))):=by
 refine f57.c ?_;intro b4 h1 g1;have w:=x.st.new g1;have aQ:=λh2 hc=>(fT (g.th h2 hc)).2.2;obtain⟨la,lc,rfl,_⟩:=(aQ h0 (ag.refl _)).form;have ln:t.ranks.length<=2000:=g.t9.rs;refine w.aG 1 Y Y ?_;obtain⟨b,o,cc,rfl⟩:=g.c.cz Yy;refine Bn<|Bn<|Bn<|Ai (λ_=>w.aG 1 Y Y (g.c.ix (x.base w) 1 Y Y (akV (Hk (x.out w 1 Y).1 g) ?_))) (λhe=>absurd Y he);rintro _ h2 ⟨hr,e⟩;have e:=e.symm;subst e;rcases hr with⟨hf,hi,rfl⟩|⟨i,z,hf,hi,rfl⟩
 .exact w.st1 0 Y Y Y Y λh3 w=>cj.fin (a:=0) (m:=0) (s:=au) x w 0 1 Y Y (dI.ok (by rw[hf];rfl))
 .refine Bn ?_;have z64:=UU g.t9 hf;exact w.aV (rO (aU.ext (x.base w)) z64.1 z64.2) λh3 w=>w.aV rm λh4 w=>w.st1 0 Y Y Y Y λh5 w=>cj.fin x w 0 1 Y Y (dI.ok (by rw[hf];rfl))
def agD(aU:dr h0)(x:As h0 h (aT xb t pv lw rv key kv now av lv [] au))(g:eJ h0 kv k av [key,s] key t pv lw rv):aj Tryz.prog 57 [ptr xb,.string ⟨#[90,82,65,78,75]⟩] h
  (ao (cj h0 h xb t pv lw rv key kv now av lv (match t.ranks.findIdx? λr=>decide (r.name=s)with
   |some i=>.ok (bO i,[])
   |none=>.ok (jJ,[])))):=by
 refine f57.c ?_;intro b4 h1 g1;have w:=x.st.new g1;have aQ:=λh2 hc=>(fT (g.th h2 hc)).2.2;obtain⟨la,lc,rfl,_⟩:=(aQ h0 (ag.refl _)).form;have ln:t.ranks.length<=2000:=g.t9.rs;refine w.aG 1 Y Y ?_;obtain⟨b,o,cc,rfl⟩:=g.c.cz Yy;refine Bn<|Bn<|Bn<|Bn<|Ai (λ_=>w.aG 1 Y Y (g.c.ix (x.base w) 1 Y Y (akV (Hk (x.out w 1 Y).1 g) ?_))) (λhe=>absurd Y he);rintro _ h2 ⟨hr,e⟩;have e:=e.symm;subst e;rcases hr with⟨hf,hi,rfl⟩|⟨i,z,hf,hi,rfl⟩
 .exact w.st1 0 Y Y Y Y λh3 w=>cj.fin (a:=0) (m:=0) (s:=au) x w 0 1 Y Y (dI.ok (by rw[hi];rfl))
 .exact Ai (λ_=>w.aV eZ λh4 w=>w.st1 0 Y Y Y Y λh5 w=>cj.fin x w 0 1 Y Y (dI.ok (by rw[hi];rfl))) (λhe=>absurd Y he)
set_option maxHeartbeats 1000000 in
def agB(hn:numOf s=some n)(aU:dr h0)(x:As h0 h (aT xb t pv lw rv key kv now av lv [] au))(g:eJ h0 kv k av [key,s,nm] key t pv lw rv):aj Tryz.prog 57 [ptr xb,.string ⟨#[90,73,78,67,82,66,89]⟩] h
  (ao (cj h0 h xb t pv lw rv key kv now av lv (lf ((fM t.ranks nm).getD 0) n λz=>.ok (iu ⟨⟨Lib.itoa z⟩⟩,cV (k.map RX.pr) key now++[alj key nm z])))):=by
 refine f57.c ?_;intro b4 h1 g1;have w:=x.st.new g1;have aQ:=λh2 hc=>(fT (g.th h2 hc)).2.2;obtain⟨la,lc,rfl,_⟩:=(aQ h0 (ag.refl _)).form;have ln:t.ranks.length<=2000:=g.t9.rs;refine w.aG 1 Y Y ?_;obtain⟨b,o,cc,rfl⟩:=g.c.cz Yy;refine Bn<|Bn<|Bn<|Bn<|Bn ?_;have zk:=g.ks;have zn:=g.az nm Yy;have zs:=g.az s Yy;have nA:=gC hn;have tail:∀{cr:akX}{h2:af}{m items:Int},(fM t.ranks nm).getD 0=m->cy m->items<=65536->St (xb::aq lv) h h2 [.b b4 zR,aT xb t pv lw (.slice la t.ranks.length lc) key kv now (.slice (some ⟨b,o,none⟩) [key,s,nm].length cc) lv [] au]->
   swp Tryz.prog f57.sc.r.r.r.r.l.r.l.r.r.r
    (fc (swp Tryz.prog cr (cC [.cn 4 4] (ao (cj h0 h xb t pv lw (.slice la t.ranks.length lc) key kv now (.slice (some ⟨b,o,none⟩) [key,s,nm].length cc) lv (lf ((fM t.ranks nm).getD 0) n λz=>.ok (iu ⟨⟨Lib.itoa z⟩⟩,cV (k.map RX.pr) key now++[alj key nm z])))))) (cC [.cn 4 4] (ao (cj h0 h xb t pv lw (.slice la t.ranks.length lc) key kv now (.slice (some ⟨b,o,none⟩) [key,s,nm].length cc) lv (lf ((fM t.ranks nm).getD 0) n λz=>.ok (iu ⟨⟨Lib.itoa z⟩⟩,cV (k.map RX.pr) key now++[alj key nm z]))))))
    (mk [(0,ptr xb),(4,ptr b4),(13,.int .i64 n),(16,.int .i64 m),(18,.int .i64 items)]) [] h2:=by
  intro cr h2 m items hm m64 hi w;rw[hm];refine akV (DY m64 nA (x.out w 1 Y).1) ?_;rintro _ h6 (⟨ho,rfl,_,o6⟩|⟨ho,rfl,_,o6⟩)
  .have w:=w.own 1 Y o6;refine w.aG 1 Y Y<|g.c.ix (x.base w) 2 Y Y<|akV (qf g.c (x.out w 1 Y).1 Yy hi V V Dd) ?_;rintro _ h8 ⟨rfl,dG,_,o8⟩;have w:=w.own 1 Y o8;exact w.aV (rO (aU.ext (x.base w)) ho.1 ho.2) λh7 w=>w.aV rm λh9 w=>w.st1 0 Y Y Y Y λbp w=>cj.fin x w 0 1 Y Y (dI.ok (ak4 ho))
  .have w:=w.own 1 Y o6;exact w.aV (rO (aU.ext (x.base w)) Dd Dd) λh7 w=>w.aV rm λh9 w=>w.st1 0 Y Y Y Y λbp w=>cj.fin x w 0 1 Y Y (dI.no (why:=ia) Dd (akZ ho))
 refine w.aG 1 Y Y<|g.c.ix (x.base w) 1 Y Y<|dN (ow V hn)<|Ai (λ_=>w.aG 1 Y Y (g.c.ix (x.base w) 2 Y Y (akV (Hk (x.out w 1 Y).1 g) ?_))) (λhe=>absurd Y he);rintro _ h2 ⟨hr,e⟩;have e:=e.symm;subst e;rcases hr with⟨hf,_,rfl⟩|⟨i,z0,hf,_,rfl⟩
 .exact Az<|uJ [(0,ptr xb),(4,ptr b4),(13,.int .i64 n),(16,.int .i64 0),(17,.bool false),(18,.int .i64 ((t.ranks.length+1:Nat):Int))] (pZ (λσ σ' ds h hs hh=>ql _ _ σ σ' ds h eV hs hh) eV) J6<|mM<|tV (v:=.bool false) Y<|oE (t:=false) Y<|pg<|uJ [(0,ptr xb),(4,ptr b4),(13,.int .i64 n),(16,.int .i64 0),(18,.int .i64 ((t.ranks.length+1:Nat):Int))] (pZ (λσ σ' ds h hs hh=>ql _ _ σ σ' ds h eV hs hh) eV) J5 (tail (by rw[hf];rfl) ⟨Dd,Dd⟩ V w)
 .have z64:=UU g.t9 hf;refine Az<|Ai Y (λz hz=>?_);have hz:z=(t.ranks.length:Int):=hz.trans ((cx V V).trans V);subst hz;exact uJ [(0,ptr xb),(4,ptr b4),(13,.int .i64 n),(16,.int .i64 z0),(18,.int .i64 (t.ranks.length:Int))] (pZ (λσ σ' ds h hs hh=>ql _ _ σ σ' ds h eV hs hh) eV) J5 (tail (by rw[hf];rfl) z64 V w)
end
end Go.Proofs.YtocgmipngoiieaaGreatDoor
namespace Go.Proofs.YtocgmipngoiieaaGreatDoor
open Go Go.Sx C
section
variable {h0 h h1 h':af}{xb i:Nat}{now n m:Int}{kv av lv pv lw rv:Value}{k:List RX}{A l:List BA}{L E:List aA}{why key s u nm:BA}{t:aB}{M:List En}{T:List Nat}{res:aM}{r:List (Int×BA)}
def UW(hr:j8 (dj l)=some r){q:Nat}(h:2*q+1<l.length):∃z,numOf l[2*q]=some z∧r[q]? =some (z,l[2*q+1]):=My hr (um h)
def Hw(hr:j8 (dj l)=some r){q:Nat}(h:2*q+1<l.length):(r.map Prod.snd)[q]? =some l[2*q+1]:=by
 obtain⟨z,_,h2⟩:=UW hr h;rw[amB,h2];rfl
def WJ(hr:j8 (dj l)=some r){q:Nat}(hq:2*q+1<l.length)(h:∃j,2+j*2<2+q*2∧(key::l)[2+j*2]? =(key::l)[2+q*2]?):l[2*q+1]∈(r.map Prod.snd).take q:=by
 obtain⟨j,h1,h2⟩:=h;have e:2+j*2=(2*j+1)+1:=V
 have e':2+q*2=(2*q+1)+1:=V
 rw[e,e',alQ,alQ,akU V,akU V]at h2;rw[<-amu h2];refine anU.2 ⟨j,?_⟩;rw[anJ V,Hw hr V]
def WK(hr:j8 (dj l)=some r){q:Nat}(hq:2*q+1<l.length)(h:∀j,2+j*2<2+q*2->(key::l)[2+j*2]? ≠(key::l)[2+q*2]?):l[2*q+1]∉(r.map Prod.snd).take q:=by
 intro hm;obtain⟨j,he⟩:=anU.1 hm;have hj:j<q:=by
  obtain⟨ah,_⟩:=ak7.1 he;rw[alA]at ah;omega
 rw[anJ hj,Hw hr V]at he;refine h j V ?_;have e:2+j*2=(2*j+1)+1:=V
 have e':2+q*2=(2*q+1)+1:=V
 rw[e,e',alQ,alQ,akU V,akU V,amu he]
set_option maxHeartbeats 2000000 in
def agy(hr:j8 (dj l)=some r)(x:As h0 h (aT xb t pv lw rv key kv now av lv [] au))(g:eJ h0 kv k av (key::l) key t pv lw rv)(h2:2<=l.length)(jw:l.length%2=0):aj Tryz.prog 57 [ptr xb,.string ⟨#[90,65,68,68]⟩] h
  (ao (cj h0 h xb t pv lw rv key kv now av lv (.ok (bO (bf (dA t.ranks) [] (r.map Prod.snd)).length,cV (k.map RX.pr) key now++r.map λp=>alj key p.2 p.1)))):=by
 have al:=g.al;simp only[ak0]at al;obtain⟨b,o,cc,rfl⟩:=g.c.cz Yy;refine f57.c ?_;intro b4 h1 g1;have w:=x.st.new g1;have aQ:=λh2 hc=>(fT (g.th h2 hc)).2.2;obtain⟨la,lc,rfl,_⟩:=(aQ h0 (ag.refl _)).form;have ln:t.ranks.length<=2000:=g.t9.rs;have zk:=g.ks;obtain⟨N,hN⟩:∃N,N=r.map Prod.snd:=⟨_,Y⟩
 obtain⟨Es,wE⟩:∃Es,Es=r.map λp=>alj key p.2 p.1:=⟨_,Y⟩
 have F8:=rB (ali l.length);have qR:=alZ hr;have FZ:N.length=(dj l).length:=by rw[hN,alL,qR]
 have Jz:Es.length=(dj l).length:=by rw[wE,alL,qR]
 have lL:∀q,(bf (dA t.ranks) [] (N.take q)).length<=20:=λq=>by
  have:=oj (th:=dA t.ranks) (l:=N.take q) (pre:=[]);rw[alA]at this;omega
 rw[<-hN,<-wE];refine w.aG 1 Y Y<|Ai (λ_=>?_) (λhe=>absurd Y he);refine bA (λq:Nat×Value=>[(0,ptr xb),(4,ptr b4),(5,.slice la t.ranks.length lc),(6,.int .i64 ((bf (dA t.ranks) [] (N.take q.1)).length:Nat)),(7,.int .i64 ((1+q.1*2:Nat):Int))])
  (λq h'=>2*q.1<=l.length∧St (xb::aq lv) h h' [.b b4 zR,aT xb t pv lw (.slice la t.ranks.length lc) key kv now (.slice (some ⟨b,o,none⟩) (key::l).length cc) q.2 (qt (k.map RX.pr) key now Es q.1) au])
  (λq=>l.length-2*q.1) (0,lv) J5 ⟨ak8 _,w⟩ ?_
 rintro⟨q,lq⟩ h4 ⟨hq,w⟩;have hq:2*q<=l.length:=hq;have zA:=lL q;have Qz:(bf (dA t.ranks) [] (N.take (q,lq).1)).length<=20:=zA;have my:=NY (S:=k.map RX.pr) (key:=key) (now:=now) (Es:=Es) (j:=q) V;have w:St (xb::aq lv) h h4 [.b b4 zR,aT xb t pv lw (.slice la t.ranks.length lc) key kv now (.slice (some ⟨b,o,none⟩) (key::l).length cc) lq (qt (k.map RX.pr) key now Es q) au]:=w;refine w.aG 1 Y Y<|Bi (λah=>?_) λcp=>?_
 .have ah:2*q+1<l.length:=by simp only[ak0]at ah;omega
  obtain⟨zq,K1,hrq⟩:=UW hr ah;have Cl:N[q]? =some l[2*q+1]:=by have e:=Hw hr ah;rw[<-hN]at e;exact e
  have JE:q<N.length:=(ak7.1 Cl).1;have Ck:N[q]=l[2*q+1]:=(ak7.1 Cl).2;have wD:Es[q]? =some ⟨14,key,l[2*q+1],⟨#[]⟩,zq⟩:=by
   have e:(r.map λp=>alj key p.2 p.1)[q]? =some (alj key l[2*q+1] zq):=by rw[amB,hrq];rfl
   rw[<-wE]at e;exact e
  have uP:(key::l)[1+q*2]? =some l[2*q]:=by rw[show 1+q*2=2*q+1 by omega,alQ,akU V]
  have mh:(key::l)[1+q*2+1]? =some l[2*q+1]:=by rw[show 1+q*2+1=(2*q+1)+1 by omega,alQ,akU ah]
  have zn:=g.az l[2*q] (alr _ (ak9 _));have zt:=g.az l[2*q+1] (alr _ (ak9 _));have Bd:=WJ (key:=key) hr ah;have Bg:=WK (key:=key) hr ah;rw[<-hN]at Bd Bg;have ik:=alu (th:=dA t.ranks) JE;rw[Ck]at ik;refine w.aG 1 Y Y<|Az<|g.c.ix (x.base w) (1+q*2+1) Y mh<|akV (Uv (x.out w 1 Y).1 g) ?_;rintro _ h5 ⟨hr,e5⟩;have e5:=e5.symm;subst e5;have same:(!dA t.ranks l[2*q+1]&&decide (l[2*q+1]∉N.take q))=false->(bf (dA t.ranks) [] (N.take (q+1))).length=(bf (dA t.ranks) [] (N.take q)).length:=λhc=>by rw[ik,hc,akZ Dd,amA]
  rcases hr with⟨hf,rfl⟩|⟨hf,rfl⟩
  .refine Az<|akV (G' (p:=1+q*2+1) (f0:=2) (st:=2) (x.out w 1 Y).1 g.c (by simp only[ak0];omega) (by simp only[ak0];omega) V (ali _)) ?_;rintro _ h6 ⟨hr,e6⟩;have e6:=e6.symm;subst e6;rcases hr with⟨ha,rfl⟩|⟨ha,rfl⟩
   .have hc:(!dA t.ranks l[2*q+1]&&decide (l[2*q+1]∉N.take q))=true:=by rw[hf,ale (Bg (by simpa only[show 1+q*2+1=2+q*2 by omega]using ha))];rfl
    have fK:(bf (dA t.ranks) [] (N.take (q+1))).length=(bf (dA t.ranks) [] (N.take q)).length+1:=by rw[ik,hc,ak4 Y];simp
    refine Az<|w.aG 1 Y Y<|g.c.ix (x.base w) (1+q*2) Y uP<|dN (ow V K1)<|w.aG 1 Y Y<|Az<|g.c.ix (x.base w) (1+q*2+1) Y mh<|Ai Y (λz hz=>?_);have hz:z=(t.ranks.length:Int)+(((bf (dA t.ranks) [] (N.take q)).length+1:Nat):Int):=hz.trans (cx V V);subst hz;refine akV (qf g.c (x.out w 1 Y).1 (al6 my V) V V V Dd) ?_;rintro _ h6 ⟨rfl,dG,_,o6⟩;have w:=w.own 1 Y o6;rw[alB wD]at w;refine Ai Y (λz hz=>?_);have hz:z=((1+(q+1)*2:Nat):Int):=(hz.trans (cx V V)).trans V;subst hz;exact Ai Y (Ei (q+1,_) (Ai ⟨Y,Y,Y,by rw[fK];rfl,Y,trivial⟩ (Ai ⟨by show 2*(q+1)<=_;omega,w⟩ Yo)))
   .have fK:=same (by rw[alg (λhn=>hn (Bd (by simpa only[show 1+q*2+1=2+q*2 by omega]using ha))),anu]);refine w.aG 1 Y Y<|g.c.ix (x.base w) (1+q*2) Y uP<|dN (ow V K1)<|w.aG 1 Y Y<|Az<|g.c.ix (x.base w) (1+q*2+1) Y mh<|Ai Y (λz hz=>?_);have hz:z=(t.ranks.length:Int)+(((bf (dA t.ranks) [] (N.take q)).length:Nat):Int):=hz.trans (cx V V);subst hz;refine akV (qf g.c (x.out w 1 Y).1 (al6 my V) V V V Dd) ?_;rintro _ h6 ⟨rfl,dG,_,o6⟩;have w:=w.own 1 Y o6;rw[alB wD]at w;refine Ai Y (λz hz=>?_);have hz:z=((1+(q+1)*2:Nat):Int):=(hz.trans (cx V V)).trans V;subst hz;exact Ai Y (Ei (q+1,_) (Ai ⟨Y,Y,Y,by rw[fK];rfl,Y,trivial⟩ (Ai ⟨by show 2*(q+1)<=_;omega,w⟩ Yo)))
  .have fK:=same (by rw[hf];rfl);refine w.aG 1 Y Y<|g.c.ix (x.base w) (1+q*2) Y uP<|dN (ow V K1)<|w.aG 1 Y Y<|Az<|g.c.ix (x.base w) (1+q*2+1) Y mh<|Ai Y (λz hz=>?_);have hz:z=(t.ranks.length:Int)+(((bf (dA t.ranks) [] (N.take q)).length:Nat):Int):=hz.trans (cx V V);subst hz;refine akV (qf g.c (x.out w 1 Y).1 (al6 my V) V V V Dd) ?_;rintro _ h6 ⟨rfl,dG,_,o6⟩;have w:=w.own 1 Y o6;rw[alB wD]at w;refine Ai Y (λz hz=>?_);have hz:z=((1+(q+1)*2:Nat):Int):=(hz.trans (cx V V)).trans V;subst hz;exact Ai Y (Ei (q+1,_) (Ai ⟨Y,Y,Y,by rw[fK];rfl,Y,trivial⟩ (Ai ⟨by show 2*(q+1)<=_;omega,w⟩ Yo)))
 .have aZ:2*q=l.length:=by simp only[ak0]at cp;omega
  have Kz:N.length<=q:=V
  have Ky:Es.length<=q:=V
  exact w.aV eZ λh6 w=>w.st1 0 Y Y Y Y λh7 w=>cj.fin x w 0 1 Y Y (dI.ok (by unfold qt;rw[akZ V,amo Kz,amo Ky];rfl))
end
end Go.Proofs.YtocgmipngoiieaaGreatDoor
namespace Go.Proofs.YtocgmipngoiieaaGreatDoor
open Go Go.Sx C
section
variable {h0 h h1 h':af}{xb i:Nat}{now n m:Int}{kv av lv pv lw rv:Value}{k:List RX}{A l:List BA}{L E:List aA}{why key s u nm:BA}{t:aB}{M:List En}{T:List Nat}{res:aM}
def Um{α:Type}{l:List α}{i p q:Nat}(hi:i<l.length):(l.take (min (i+1) q)).drop p=(l.take (min i q)).drop p++(if p<=i∧i<q then[l[i]]else[]):=by
 by_cases hq:i<q
 .rw[anZ (by omega:i+1<=q),anZ (by omega:i<=q),alI hi];by_cases hp:p<=i
  .rw[ak4 ⟨hp,hq⟩,List.drop_append_of_le_length (by rw[alA];omega)]
  .rw[akZ (λh=>hp h.1),amA,am4 (by rw[ak1,alA,al1];omega),am4 (by rw[alA];omega)]
 .rw[akZ (λh=>hq h.2),amA,aoO (by omega:q<=i+1),aoO (by omega:q<=i)]
def PB{l:List aF}{P:aF->Bool}{i:Nat}(hi:i<l.length):(l.take (i+1)).filter P=(l.take i).filter P++(if P l[i]=true then[l[i]]else[]):=by
 rw[alI hi,anz];congr 1;cases hp:P l[i]with
 |true=>rw[ak4 Y];simp[hp]
 |false=>rw[akZ Dd];simp[hp]
set_option maxHeartbeats 1000000 in
def agC(hn:numOf s=some n)(hm:numOf u=some m)(x:As h0 h (aT xb t pv lw rv key kv now av lv [] au))(g:eJ h0 kv k av [key,s,u] key t pv lw rv):aj Tryz.prog 57 [ptr xb,.string ⟨#[90,82,65,78,71,69]⟩] h
  (ao (cj h0 h xb t pv lw rv key kv now av lv (.ok (fC ((ru t.ranks n m).map aF.name),[])))):=by
 refine f57.c ?_;intro b4 h1 g1;have w:=x.st.new g1;have aQ:=λh2 hc=>(fT (g.th h2 hc)).2.2;obtain⟨la,lc,rfl,_⟩:=(aQ h0 (ag.refl _)).form;have ln:t.ranks.length<=2000:=g.t9.rs;obtain⟨b,o,cc,rfl⟩:=g.c.cz Yy;have zs:=g.az s Yy;have zu:=g.az u Yy;have nA:=gC hn;have m64:=gC hm;refine w.aG 1 Y Y<|Bn<|Bn<|Bn<|Bn<|Bn<|w.aG 1 Y Y<|g.c.ix (x.base w) 1 Y Y<|dN (ow V hn)<|Bn<|w.aG 1 Y Y<|g.c.ix (x.base w) 2 Y Y<|dN (ow V hm)<|dN (Mq V nA m64) ?_;have eh:=Ea t.ranks.length n m;obtain⟨p1,hC⟩:∃p1,p1=(eD t.ranks.length n m).1:=⟨_,Y⟩
 obtain⟨p2,eg⟩:∃p2,p2=(eD t.ranks.length n m).2:=⟨_,Y⟩
 rw[<-hC,<-eg];rw[<-hC,<-eg]at eh;have w:=w.empty (enc:=encS) (size:=1);refine bA (λq:Nat×Value=>[(0,ptr xb),(1,.string ⟨#[90,82,65,78,71,69]⟩),(4,ptr b4),(5,.slice la t.ranks.length lc),(13,.int .i64 n),(20,.int .i64 m),(22,q.2),(23,.int .i64 p1),(24,.int .i64 p2),(25,.int .i64 q.1)])
  (λq h'=>q.1<=t.ranks.length∧St (xb::aq lv) h h' [.o encS 1 q.2 (((t.ranks.take (min q.1 p2)).drop p1).map aF.name),.b b4 zR,aT xb t pv lw (.slice la t.ranks.length lc) key kv now (.slice (some ⟨b,o,none⟩) [key,s,u].length cc) lv [] au])
  (λq=>t.ranks.length-q.1) (0,.slice none 0 0) lY ⟨ak8 _,by show St _ h h1 [.o encS 1 (.slice none 0 0) (((t.ranks.take (min 0 p2)).drop p1).map aF.name),_,_];rw[show(((t.ranks.take (min 0 p2)).drop p1).map aF.name)=([]:List BA)by simp];exact w⟩ ?_
 rintro⟨i,v⟩ h4 ⟨hi,w⟩;have hi:i<=t.ranks.length:=hi;have w:St (xb::aq lv) h h4 [.o encS 1 v (((t.ranks.take (min i p2)).drop p1).map aF.name),.b b4 zR,aT xb t pv lw (.slice la t.ranks.length lc) key kv now (.slice (some ⟨b,o,none⟩) [key,s,u].length cc) lv [] au]:=w;obtain⟨ac,nV⟩:∃ac,ac=(((t.ranks.take (min i p2)).drop p1).map aF.name):=⟨_,Y⟩
 have aw:ac.length<=2000:=by rw[nV];simp only[alL,amL,alA];omega
 rw[<-nV]at w;obtain⟨a4,c4,rfl,_⟩:=(show OL encS 1 h4 v ac from w.get 0 Y).sl.form;refine Bi (λah=>?_) λcp=>?_
 .have ah:i<t.ranks.length:=V
  obtain⟨rb,ro,rfl⟩:=(aQ h0 (ag.refl _)).addr V;have aI:=(aQ _ (x.base w)).cells dm (akU ah);have LN:(p1<=i∧i<p2)->(((t.ranks.take (min (i+1) p2)).drop p1).map aF.name)=ac++[t.ranks[i].name]:=λhc=>by rw[Um ah,ak4 hc,alD,nV];rfl
  have DI:¬(p1<=i∧i<p2)->(((t.ranks.take (min (i+1) p2)).drop p1).map aF.name)=ac:=λhc=>by rw[Um ah,akZ hc,amA,nV]
  refine Ai (λ_=>Bi (λq1=>?_) λq1=>?_) (λhe=>absurd Y he)
  .refine Bi (λq2=>?_) λq2=>?_
   .refine Ai V (Ai V (Ei _ (Ai (by simpa using aI 0 _ Y) ?_)));intro b9 h8 g8;have w:=w.new g8;refine w.app 1 Y bj fP Y (SL.one bj (x:=t.ranks[i].name) (w.get 0 Y)) (by simp only[al1];omega) λv' h9 w=>?_;rw[<-LN ⟨V,V⟩]at w;have w:=w.pick [1,2,3] Dd;exact Az<|Ai Y (Ei (i+1,_) (Ai lY (Ai ⟨ah,w⟩ Yo)))
   .refine Ai (λax=>absurd Y ax) (λ_=>?_);have w:St (xb::aq lv) h h4 [.o encS 1 (.slice a4 ac.length c4) (((t.ranks.take (min (i+1) p2)).drop p1).map aF.name),.b b4 zR,aT xb t pv lw (.slice (some ⟨rb,ro,none⟩) t.ranks.length lc) key kv now (.slice (some ⟨b,o,none⟩) [key,s,u].length cc) lv [] au]:=by rw[DI (λh=>q2 V)];exact w
    exact Az<|Ai Y (Ei (i+1,_) (Ai lY (Ai ⟨ah,w⟩ Yo)))
  .refine Ai (λax=>absurd Y ax) (λ_=>?_);have w:St (xb::aq lv) h h4 [.o encS 1 (.slice a4 ac.length c4) (((t.ranks.take (min (i+1) p2)).drop p1).map aF.name),.b b4 zR,aT xb t pv lw (.slice (some ⟨rb,ro,none⟩) t.ranks.length lc) key kv now (.slice (some ⟨b,o,none⟩) [key,s,u].length cc) lv [] au]:=by rw[DI (λh=>q1 V)];exact w
   exact Az<|Ai Y (Ei (i+1,_) (Ai lY (Ai ⟨ah,w⟩ Yo)))
 .have fY:i=t.ranks.length:=V
  have se:=(show OL encS 1 h4 _ ac from w.get 0 Y).sl;have l4:b4<h4.size:=(show ai h4 b4 _ from w.get 1 Y).lt;have z1:=w.ae.size;refine akV (AD se V) ?_;rintro _ h5 ⟨⟨ra,rn,rc,rfl,sl,fr⟩,c5⟩;have w:=w.ext c5;refine w.st2 1 Y Y Y Y λh6 w k6=>?_;exact⟨_,Y,akW (w.get 1 Y),fC ac,lv,[],au,⟨ra,rn,rc,Y,sl.ae k6 (λb hb=>by have:=fr b hb;simp;omega),λb hb=>by have:=fr b hb;omega⟩,⟨t,_,_,_,key,x.out w 2 Y⟩,dI.ok (by rw[nV,fY];rw[aoO eh.2];unfold ru;rw[<-hC,<-eg,List.drop_take])⟩
set_option maxHeartbeats 1000000 in
def agz(hn:numOf s=some n)(hm:numOf u=some m)(x:As h0 h (aT xb t pv lw rv key kv now av lv [] au))(g:eJ h0 kv k av [key,s,u] key t pv lw rv):aj Tryz.prog 57 [ptr xb,.string ⟨#[90,82,65,78,71,69,66,89,83,67,79,82,69]⟩] h
  (ao (cj h0 h xb t pv lw rv key kv now av lv (.ok (fC ((t.ranks.filter λr=>decide (n<=r.score)&&decide (r.score<=m)).map aF.name),[])))):=by
 refine f57.c ?_;intro b4 h1 g1;have w:=x.st.new g1;have aQ:=λh2 hc=>(fT (g.th h2 hc)).2.2;obtain⟨la,lc,rfl,_⟩:=(aQ h0 (ag.refl _)).form;have ln:t.ranks.length<=2000:=g.t9.rs;obtain⟨b,o,cc,rfl⟩:=g.c.cz Yy;have zs:=g.az s Yy;have zu:=g.az u Yy;have nA:=gC hn;have m64:=gC hm;refine w.aG 1 Y Y<|Bn<|Bn<|Bn<|Bn<|Bn<|w.aG 1 Y Y<|g.c.ix (x.base w) 1 Y Y<|dN (ow V hn)<|Bn<|w.aG 1 Y Y<|g.c.ix (x.base w) 2 Y Y<|dN (ow V hm)<|dN (Mq V nA m64) ?_;have eh:=Ea t.ranks.length n m;obtain⟨p1,hC⟩:∃p1,p1=(eD t.ranks.length n m).1:=⟨_,Y⟩
 obtain⟨p2,eg⟩:∃p2,p2=(eD t.ranks.length n m).2:=⟨_,Y⟩
 rw[<-hC,<-eg];rw[<-hC,<-eg]at eh;have w:=w.empty (enc:=encS) (size:=1);refine bA (λq:Nat×Value=>[(0,ptr xb),(1,.string ⟨#[90,82,65,78,71,69,66,89,83,67,79,82,69]⟩),(4,ptr b4),(5,.slice la t.ranks.length lc),(13,.int .i64 n),(20,.int .i64 m),(22,q.2),(23,.int .i64 p1),(24,.int .i64 p2),(25,.int .i64 q.1)])
  (λq h'=>q.1<=t.ranks.length∧St (xb::aq lv) h h' [.o encS 1 q.2 (((t.ranks.take q.1).filter λr=>decide (n<=r.score)&&decide (r.score<=m)).map aF.name),.b b4 zR,aT xb t pv lw (.slice la t.ranks.length lc) key kv now (.slice (some ⟨b,o,none⟩) [key,s,u].length cc) lv [] au])
  (λq=>t.ranks.length-q.1) (0,.slice none 0 0) lY ⟨ak8 _,by show St _ h h1 [.o encS 1 (.slice none 0 0) (((t.ranks.take 0).filter λr=>decide (n<=r.score)&&decide (r.score<=m)).map aF.name),_,_];rw[show(((t.ranks.take 0).filter λr=>decide (n<=r.score)&&decide (r.score<=m)).map aF.name)=([]:List BA)by simp];exact w⟩ ?_
 rintro⟨i,v⟩ h4 ⟨hi,w⟩;have hi:i<=t.ranks.length:=hi;have w:St (xb::aq lv) h h4 [.o encS 1 v (((t.ranks.take i).filter λr=>decide (n<=r.score)&&decide (r.score<=m)).map aF.name),.b b4 zR,aT xb t pv lw (.slice la t.ranks.length lc) key kv now (.slice (some ⟨b,o,none⟩) [key,s,u].length cc) lv [] au]:=w;obtain⟨ac,nV⟩:∃ac,ac=(((t.ranks.take i).filter λr=>decide (n<=r.score)&&decide (r.score<=m)).map aF.name):=⟨_,Y⟩
 have aw:ac.length<=2000:=by rw[nV];refine al6 (by rw[alL];exact amR _ _) ?_;rw[alA];omega
 rw[<-nV]at w;obtain⟨a4,c4,rfl,_⟩:=(show OL encS 1 h4 v ac from w.get 0 Y).sl.form;refine Bi (λah=>?_) λcp=>?_
 .have ah:i<t.ranks.length:=V
  obtain⟨rb,ro,rfl⟩:=(aQ h0 (ag.refl _)).addr V;have aI:=(aQ _ (x.base w)).cells dm (akU ah);have LN:(n<=t.ranks[i].score∧t.ranks[i].score<=m)->(((t.ranks.take (i+1)).filter λr=>decide (n<=r.score)&&decide (r.score<=m)).map aF.name)=ac++[t.ranks[i].name]:=λhc=>by rw[PB ah,ak4 (by rw[ale hc.1,ale hc.2];rfl),alD,nV];rfl
  have DI:¬(n<=t.ranks[i].score∧t.ranks[i].score<=m)->(((t.ranks.take (i+1)).filter λr=>decide (n<=r.score)&&decide (r.score<=m)).map aF.name)=ac:=λhc=>by rw[PB ah,akZ (by simpa using hc),amA,nV]
  refine Bn<|Ai (λ_=>Ai V (Ai V (Ei _ (Ai (by simpa using aI 1 _ Y) ?_)))) (λhe=>absurd Dd he);refine Bi (λq1=>?_) λq1=>?_
  .refine Ai V (Ai V (Ei _ (Ai (by simpa using aI 1 _ Y) ?_)));refine Bi (λq2=>?_) λq2=>?_
   .refine Ai V (Ai V (Ei _ (Ai (by simpa using aI 0 _ Y) ?_)));intro b9 h8 g8;have w:=w.new g8;refine w.app 1 Y bj fP Y (SL.one bj (x:=t.ranks[i].name) (w.get 0 Y)) (by simp only[al1];omega) λv' h9 w=>?_;rw[<-LN ⟨V,V⟩]at w;have w:=w.pick [1,2,3] Dd;exact Az<|Ai Y (Ei (i+1,_) (Ai lY (Ai ⟨ah,w⟩ Yo)))
   .have w:St (xb::aq lv) h h4 [.o encS 1 (.slice a4 ac.length c4) (((t.ranks.take (i+1)).filter λr=>decide (n<=r.score)&&decide (r.score<=m)).map aF.name),.b b4 zR,aT xb t pv lw (.slice (some ⟨rb,ro,none⟩) t.ranks.length lc) key kv now (.slice (some ⟨b,o,none⟩) [key,s,u].length cc) lv [] au]:=by rw[DI (λh=>q2 V)];exact w
    exact Az<|Ai Y (Ei (i+1,_) (Ai lY (Ai ⟨ah,w⟩ Yo)))
  .have w:St (xb::aq lv) h h4 [.o encS 1 (.slice a4 ac.length c4) (((t.ranks.take (i+1)).filter λr=>decide (n<=r.score)&&decide (r.score<=m)).map aF.name),.b b4 zR,aT xb t pv lw (.slice (some ⟨rb,ro,none⟩) t.ranks.length lc) key kv now (.slice (some ⟨b,o,none⟩) [key,s,u].length cc) lv [] au]:=by rw[DI (λh=>q1 V)];exact w
   exact Az<|Ai Y (Ei (i+1,_) (Ai lY (Ai ⟨ah,w⟩ Yo)))
 .have fY:i=t.ranks.length:=V
  have se:=(show OL encS 1 h4 _ ac from w.get 0 Y).sl;have l4:b4<h4.size:=(show ai h4 b4 _ from w.get 1 Y).lt;have z1:=w.ae.size;refine akV (AD se V) ?_;rintro _ h5 ⟨⟨ra,rn,rc,rfl,sl,fr⟩,c5⟩;have w:=w.ext c5;refine w.st2 1 Y Y Y Y λh6 w k6=>?_;exact⟨_,Y,akW (w.get 1 Y),fC ac,lv,[],au,⟨ra,rn,rc,Y,sl.ae k6 (λb hb=>by have:=fr b hb;simp;omega),λb hb=>by have:=fr b hb;omega⟩,⟨t,_,_,_,key,x.out w 2 Y⟩,dI.ok (by rw[nV,fY];rw[alm])⟩
end
end Go.Proofs.YtocgmipngoiieaaGreatDoor
namespace Go.Proofs.YtocgmipngoiieaaGreatDoor
open Go Go.Sx C
def UQ:eH vx 3 65536 2 0:=λh=>by
 refine f50.c ?_
 repeat refine Bn ?_
 exact Ai (λ_=>⟨Y,Y⟩) (λhe=>absurd Y he)
def af9:eH Tv 2 2 2 0:=λh=>by
 refine f50.c ?_
 repeat refine Bn ?_
 exact Ai (λ_=>⟨Y,Y⟩) (λhe=>absurd Y he)
def af8:eH Tu 2 65536 2 0:=λh=>by
 refine f50.c ?_
 repeat refine Bn ?_
 exact Ai (λ_=>⟨Y,Y⟩) (λhe=>absurd Y he)
def agb:eH Ty 1 1 2 0:=λh=>by
 refine f50.c ?_
 repeat refine Bn ?_
 exact Ai (λ_=>⟨Y,Y⟩) (λhe=>absurd Y he)
def af':eH Tw 1 1 2 0:=λh=>by
 refine f50.c ?_
 repeat refine Bn ?_
 exact Ai (λ_=>⟨Y,Y⟩) (λhe=>absurd Y he)
def aga:eH Tx 3 3 2 2:=λh=>by
 refine f50.c ?_
 repeat refine Bn ?_
 exact Ai (λ_=>⟨Y,Y⟩) (λhe=>absurd Y he)
def agf:eH TD 2 65536 3 0:=λh=>by
 refine f50.c ?_
 repeat refine Bn ?_
 exact Ai (λ_=>⟨Y,Y⟩) (λhe=>absurd Y he)
def agk:eH TJ 2 65536 3 0:=λh=>by
 refine f50.c ?_
 repeat refine Bn ?_
 exact Ai (λ_=>⟨Y,Y⟩) (λhe=>absurd Y he)
def age:eH TB 1 1 3 0:=λh=>by
 refine f50.c ?_
 repeat refine Bn ?_
 exact Ai (λ_=>⟨Y,Y⟩) (λhe=>absurd Y he)
def agj:eH TG 1 1 3 0:=λh=>by
 refine f50.c ?_
 repeat refine Bn ?_
 exact Ai (λ_=>⟨Y,Y⟩) (λhe=>absurd Y he)
def agd:eH TA 1 1 3 0:=λh=>by
 refine f50.c ?_
 repeat refine Bn ?_
 exact Ai (λ_=>⟨Y,Y⟩) (λhe=>absurd Y he)
def agc:eH Tz 2 2 3 1:=λh=>by
 refine f50.c ?_
 repeat refine Bn ?_
 exact Ai (λ_=>⟨Y,Y⟩) (λhe=>absurd Y he)
def agh:eH TE 3 3 3 3:=λh=>by
 refine f50.c ?_
 repeat refine Bn ?_
 exact Ai (λ_=>⟨Y,Y⟩) (λhe=>absurd Y he)
def agi:eH TF 3 3 3 1:=λh=>by
 refine f50.c ?_
 repeat refine Bn ?_
 exact Ai (λ_=>⟨Y,Y⟩) (λhe=>absurd Y he)
def agl:eH TK 2 65536 4 0:=λh=>by
 refine f50.c ?_
 repeat refine Bn ?_
 exact Ai (λ_=>⟨Y,Y⟩) (λhe=>absurd Y he)
def agq:eH TP 2 65536 4 0:=λh=>by
 refine f50.c ?_
 repeat refine Bn ?_
 exact Ai (λ_=>⟨Y,Y⟩) (λhe=>absurd Y he)
def ago:eH TM 2 2 4 0:=λh=>by
 refine f50.c ?_
 repeat refine Bn ?_
 exact Ai (λ_=>⟨Y,Y⟩) (λhe=>absurd Y he)
def agm:eH TL 1 1 4 0:=λh=>by
 refine f50.c ?_
 repeat refine Bn ?_
 exact Ai (λ_=>⟨Y,Y⟩) (λhe=>absurd Y he)
def agp:eH amt 1 1 4 0:=λh=>by
 refine f50.c ?_
 repeat refine Bn ?_
 exact Ai (λ_=>⟨Y,Y⟩) (λhe=>absurd Y he)
def agn:eH tY 1 65536 4 0:=λh=>by
 refine f50.c ?_
 repeat refine Bn ?_
 exact Ai (λ_=>⟨Y,Y⟩) (λhe=>absurd Y he)
def UR:eH vy 3 65536 5 4:=λh=>by
 refine f50.c ?_
 repeat refine Bn ?_
 exact Ai (λ_=>⟨Y,Y⟩) (λhe=>absurd Y he)
def agw:eH TV 2 65536 5 0:=λh=>by
 refine f50.c ?_
 repeat refine Bn ?_
 exact Ai (λ_=>⟨Y,Y⟩) (λhe=>absurd Y he)
def agx:eH TW 2 2 5 0:=λh=>by
 refine f50.c ?_
 repeat refine Bn ?_
 exact Ai (λ_=>⟨Y,Y⟩) (λhe=>absurd Y he)
def agv:eH TU 2 2 5 0:=λh=>by
 refine f50.c ?_
 repeat refine Bn ?_
 exact Ai (λ_=>⟨Y,Y⟩) (λhe=>absurd Y he)
def ags:eH TR 3 3 5 1:=λh=>by
 refine f50.c ?_
 repeat refine Bn ?_
 exact Ai (λ_=>⟨Y,Y⟩) (λhe=>absurd Y he)
def agr:eH TQ 1 1 5 0:=λh=>by
 refine f50.c ?_
 repeat refine Bn ?_
 exact Ai (λ_=>⟨Y,Y⟩) (λhe=>absurd Y he)
def agt:eH TS 3 3 5 3:=λh=>by
 refine f50.c ?_
 repeat refine Bn ?_
 exact Ai (λ_=>⟨Y,Y⟩) (λhe=>absurd Y he)
def agu:eH TT 3 3 5 3:=λh=>by
 refine f50.c ?_
 repeat refine Bn ?_
 exact Ai (λ_=>⟨Y,Y⟩) (λhe=>absurd Y he)
section
variable {S:aH}{now kd lo hi wh:Int}{fn g:Nat}{key s u nm w N:BA}{l A:List BA}{res:aH->aM}{r:cR}{E:List aA}{a b:aM}
def p9(hN:up w=N)(aJ:w.size<=300)(aw:A.length<=19)(hz:∀a∈A,a.size<=300)(hg:kP ala N=some g)(hc:∀{h0 h:af}{kb sb mb c ab:Nat}{m:List KI}{S:aH}{av:Value},P9 h0 kb sb mb c m S av A->S9 S->gQ S->dr h0->K5.fw h0->(∀a∈A,a.size<281474976710656)->As h0 h (c0 ab kb now av)->aj Tryz.prog g [ptr ab] h (eE h0 h ab kb now av (res S))):Ny now (w::A) res:=by
 intro h kb sb mb c m S av kr hs s8 s9 aU ht fJ;exact amv kr fJ (by simp only[ak0];omega) V (by rw[hN];exact hg) (λh2 ab fO hx x=>hc ⟨kr,hs,hx⟩ s9 s8.few.ins aU ht (λa ha=>by have:=hz a ha;omega) x)
def UX:∀{l:List (BA×BA)}{r:List (Int×BA)},j8 l=some r->∀p∈r,cy p.1
 |[],r,h,p,hp=>by cases h;exact(nomatch hp)
 |(s,n)::l,r,h,p,hp=>by
  simp only[j8]at h;split at h
  .rename_i z r' hz hr;cases h;rcases ak3.1 hp with rfl|hp
   .exact gC hz
   .exact UX hr p hp
  .cases h
def Sh.bad{e:BA}:eQ (.error e):=⟨ak8 _,.inl (ak8 _),sj⟩
def Sh.one(h:r.l.length<=100000)(hE:E.length<=44)(hI:nL E:=by first|exact sj|exact pX qW|exact Gw λ_ _=>qW):eQ (.ok (r,E)):=⟨al6 h Dd,.inl (al6 hE Dd),hI⟩
def Sh.nil(h:r.l.length<=100000):eQ (.ok (r,[])):=Sh.one h (ak8 _)
def Sh.ite{c:Prop}[Decidable c](ha:eQ a)(hb:eQ b):eQ (if c then a else b):=by split<;>assumption
def Sh.kind{f:aB->aM}(hs:S9 S)(h:∀t,T9 t->eQ (f t)):eQ (bX S now kd key f):=by
 unfold bX;have h9:=hs.get key now;cases hg:aC S key now with
 |none=>rw[hg]at h9;exact h _ h9
 |some t=>rw[hg]at h9;exact Sh.ite (h _ h9) Sh.bad
def YG:(cV S key now).length<=1:=by unfold cV;split<;>simp
def JX{th:BA->Bool}:(gX th l).length<=l.length:=oj
def Sh.make{items:Int}{ok:Bool}(h:r.l.length<=100000)(hE:E.length<=40)(hI:nL E:=by first|exact sj|exact pX qW|exact Gw λ_ _=>qW):eQ (makes S now key items ok r E):=
 Sh.ite (Sh.one h (by have:=YG (S:=S) (key:=key) (now:=now);rw[ak1];omega) (vg (by unfold cV;split;exact pX qW;exact sj) hI)) Sh.bad
def Sh.num{f:Int->aM}(h:∀n,eQ (f n)):eQ (bY s f):=by
 unfold bY;split
 .exact h _
 .exact Sh.bad
def Sh.add{n m:Int}{f:Int->aM}(h:∀z,cy z->eQ (f z)):eQ (lf n m f):=by
 unfold lf;split
 .exact h _ (by assumption)
 .exact Sh.bad
def Sh.a1{f:BA->aM}(h:∀k,eQ (f k)):eQ (jS f A):=by
 unfold jS;split
 .exact h _
 .exact Sh.bad
def Sh.a2{f:BA->BA->aM}(h:∀k n,eQ (f k n)):eQ (alb f A):=by
 unfold alb;split
 .exact h _ _
 .exact Sh.bad
def Sh.a3{f:BA->BA->BA->aM}(h:∀k n m,eQ (f k n m)):eQ (nO f A):=by
 unfold nO;split
 .exact h _ _ _
 .exact Sh.bad
def Sh.many{c:List BA->aM}(h0:c []=.error cX)(h:∀key l,A=key::l->eQ (c A)):eQ (c A):=by
 cases A with
 |nil=>rw[h0];exact Sh.bad
 |cons key l=>exact h key l Y
def Sh.inter(hs:S9 S):∀{ks acc:List BA},acc.length<=2000->eQ (tL S now acc ks λl=>.ok (fC l,[]))
 |[],acc,ha=>Sh.nil (by show(acc.map _).length<=_;rw[alL];omega)
 |key::ks,acc,ha=>Sh.kind hs (λt ht=>Sh.inter hs (al6 (amR _ _) ha))
def dW:(0:Nat)<=100000:=ak8 _
def ur(kd:Int)(fn:Nat):Prop:=(kd=2∧fn=54)∨(kd=3∧fn=55)∨(kd=4∧fn=56)∨(kd=5∧fn=57)
abbrev uw(now:Int)(fn:Nat)(N:BA)(A:List BA)(key:BA)(f:aH->aB->aM):Prop:=∀{h0 h:af}{xb:Nat}{kv av pv lw rv:Value}{k:List RX}{t:aB},dr h0->eJ h0 kv k av A key t pv lw rv->As h0 h (aT xb t pv lw rv key kv now av (.slice none 0 0) [] au)->
 aj Tryz.prog fn [ptr xb,.string N] h (ao (cj h0 h xb t pv lw rv key kv now av (.slice none 0 0) (f (k.map RX.pr) t)))
structure R9 (now:Int) (AA:List BA) (res:aH->aM):Prop where
 get:V5 now AA res
def r9(hb:eH N lo hi kd wh)(jE:1<=lo)(fz:ur kd fn)(oS:N≠tY)(hN:up w=N)(aJ:w.size<=300)(aw:A.length<=19)(hz:∀a∈A,a.size<=300)(h1:∀S,¬mJ N lo hi A->res S=.error cX)(h2:∀S,mJ N lo hi A->(∃j,1<=j∧j<A.length∧kC wh j∧(A[j]?.bind numOf)=none)->res S=.error jN)(h3:mJ N lo hi A->EC wh A->∀key,A[0]? =some key->∃f:aH->aB->aM,(∀S,res S=bX S now kd key (f S))∧uw now fn N A key f):R9 now (w::A) res:=⟨by
 intro h kv av k aQ lG gg hlen bK s8 s9 aU fJ;refine Ax aQ lG gg V bK fJ V aJ hz hN hb jE fz (h1 _) (h2 _) (λ_ ar nm key hk aN=>?_) (λkey=>s9.get key now) (λ_=>?_) (λe=>absurd e oS)
 .obtain⟨f,e,_⟩:=h3 ar nm key hk;rw[e];exact Ds aN
 .intro h1 xb fO pv lw rv key hk ar nm aN g x;obtain⟨f,e,c⟩:=h3 ar nm key hk;have hh:=c aU g x;rw[e,Dt aN];exact hh⟩
def fu(N:BA):Prop:=N≠vx∧N≠vy∧N≠tY
def vU(hp:fu N)(h1:lo<=A.length)(h2:(A.length:Int)<=hi):mJ N lo hi A:=⟨h1,h2,λh=>absurd h (by rintro(h|h);exact hp.1 h;exact hp.2.1 h)⟩
def GV{P:Prop}(h:∃j,1<=j∧j<A.length∧kC 0 j∧(A[j]?.bind numOf)=none):P:=by
 obtain⟨j,h1,_,h3,_⟩:=h;unfold kC at h3;omega
def WT(h:mJ N 1 1 A)(hk:A[0]? =some key):A=[key]:=by
 match A,h.1,h.2.1,hk with
 |[_],_,_,hk=>cases hk;rfl
 |_::_::_,_,h2,_=>simp only[ak0]at h2;omega
def Il(h:mJ N 2 2 A)(hk:A[0]? =some key):∃s,A=[key,s]:=by
 match A,h.1,h.2.1,hk with
 |[_],h1,_,_=>simp at h1
 |[_,s],_,_,hk=>cases hk;exact⟨s,Y⟩
 |_::_::_::_,_,h2,_=>simp only[ak0]at h2;omega
def yw(h:mJ N 3 3 A)(hk:A[0]? =some key):∃s u,A=[key,s,u]:=by
 match A,h.1,h.2.1,hk with
 |[_],h1,_,_=>simp at h1
 |[_,_],h1,_,_=>simp at h1
 |[_,s,u],_,_,hk=>cases hk;exact⟨s,u,Y⟩
 |_::_::_::_::_,_,h2,_=>simp only[ak0]at h2;omega
def GB(h:mJ N lo hi A)(jE:1<=lo):∃key,A[0]? =some key:=⟨_,akU (by have:=h.1;omega)⟩
def no1{f:BA->aM}(h:A.length≠1):jS f A=.error cX:=by
 unfold jS;split
 .exact absurd Y h
 .rfl
def Sv{f:BA->BA->aM}(h:A.length≠2):alb f A=.error cX:=by
 unfold alb;split
 .exact absurd Y h
 .rfl
def LH{f:BA->BA->BA->aM}(h:A.length≠3):nO f A=.error cX:=by
 unfold nO;split
 .exact absurd Y h
 .rfl
def Al{f:Int->aM}{n:Int}(h:numOf s=some n):bY s f=f n:=by unfold bY;rw[h]
def Ak{f:Int->aM}(h:numOf s=none):bY s f=.error jN:=by unfold bY;rw[h]
def r1{f:aH->BA->aB->aM}(hb:eH N 1 1 kd 0)(fz:ur kd fn)(hp:fu N)(hc:∀key,uw now fn N [key] key λS=>f S key)(hN:up w=N)(aJ:w.size<=300)(aw:A.length<=19)(hz:∀a∈A,a.size<=300):R9 now (w::A) (λS=>jS (λkey=>bX S now kd key (f S key)) A):=by
 refine r9 hb Dd fz hp.2.2 hN aJ aw hz (λS ha=>no1 λe=>ha (vU hp V V)) (λS _ h=>GV h) (λar _ key hk=>?_);obtain rfl:=WT ar hk;exact⟨λS=>f S key,λS=>rfl,hc key⟩
def r2{f:aH->BA->BA->aB->aM}(hb:eH N 2 2 kd 0)(fz:ur kd fn)(hp:fu N)(hc:∀key s,uw now fn N [key,s] key λS=>f S key s)(hN:up w=N)(aJ:w.size<=300)(aw:A.length<=19)(hz:∀a∈A,a.size<=300):R9 now (w::A) (λS=>alb (λkey s=>bX S now kd key (f S key s)) A):=by
 refine r9 hb Dd fz hp.2.2 hN aJ aw hz (λS ha=>Sv λe=>ha (vU hp V V)) (λS _ h=>GV h) (λar _ key hk=>?_);obtain⟨s,rfl⟩:=Il ar hk;exact⟨λS=>f S key s,λS=>rfl,hc key s⟩
def r2n{f:aH->BA->Int->aB->aM}(hb:eH N 2 2 kd 1)(fz:ur kd fn)(hp:fu N)(hc:∀key s n,numOf s=some n->uw now fn N [key,s] key λS=>f S key n)(hN:up w=N)(aJ:w.size<=300)(aw:A.length<=19)(hz:∀a∈A,a.size<=300):R9 now (w::A) (λS=>alb (λkey s=>bY s λn=>bX S now kd key (f S key n)) A):=by
 refine r9 hb Dd fz hp.2.2 hN aJ aw hz (λS ha=>Sv λe=>ha (vU hp V V)) (λS ar h=>?_) (λar nm key hk=>?_)
 .obtain⟨key,hk⟩:=GB ar Dd;obtain⟨s,rfl⟩:=Il ar hk;obtain⟨j,h1,h2,h3,h4⟩:=h;obtain rfl:j=1:=by simp at h2;omega
  exact Ak h4
 .obtain⟨s,rfl⟩:=Il ar hk;obtain⟨n,hn⟩:=nm 1 Dd Yy (.inr (.inr ⟨Y,Dd⟩));exact⟨λS=>f S key n,λS=>Al hn,hc key s n hn⟩
def r3{f:aH->BA->Int->Int->aB->aM}(hb:eH N 3 3 kd 3)(fz:ur kd fn)(hp:fu N)(hc:∀key s u n m,numOf s=some n->numOf u=some m->uw now fn N [key,s,u] key λS=>f S key n m)(hN:up w=N)(aJ:w.size<=300)(aw:A.length<=19)(hz:∀a∈A,a.size<=300):R9 now (w::A) (λS=>nO (λkey s u=>bY s λn=>bY u λm=>bX S now kd key (f S key n m)) A):=by
 refine r9 hb Dd fz hp.2.2 hN aJ aw hz (λS ha=>LH λe=>ha (vU hp V V)) (λS ar h=>?_) (λar nm key hk=>?_)
 .obtain⟨key,hk⟩:=GB ar Dd;obtain⟨s,u,rfl⟩:=yw ar hk;obtain⟨j,h1,h2,h3,h4⟩:=h;have h2:j<3:=h2;show bY s _=_;rcases(show j=1∨j=2 by omega)with rfl|rfl
  .exact Ak h4
  .cases hs:numOf s with
   |none=>exact Ak hs
   |some n=>rw[Al hs];exact Ak h4
 .obtain⟨s,u,rfl⟩:=yw ar hk;obtain⟨n,hn⟩:=nm 1 Dd Yy (.inr (.inl Y));obtain⟨m,hm⟩:=nm 2 Dd Yy (.inr (.inl Y));exact⟨λS=>f S key n m,λS=>(Al hn).trans (Al hm),hc key s u n m hn hm⟩
def TX{f:aH->BA->Int->BA->aB->aM}(hb:eH N 3 3 kd 1)(fz:ur kd fn)(hp:fu N)(hc:∀key s u n,numOf s=some n->uw now fn N [key,s,u] key λS=>f S key n u)(hN:up w=N)(aJ:w.size<=300)(aw:A.length<=19)(hz:∀a∈A,a.size<=300):R9 now (w::A) (λS=>nO (λkey s u=>bY s λn=>bX S now kd key (f S key n u)) A):=by
 refine r9 hb Dd fz hp.2.2 hN aJ aw hz (λS ha=>LH λe=>ha (vU hp V V)) (λS ar h=>?_) (λar nm key hk=>?_)
 .obtain⟨key,hk⟩:=GB ar Dd;obtain⟨s,u,rfl⟩:=yw ar hk;obtain⟨j,h1,h2,h3,h4⟩:=h;obtain rfl:j=1:=by unfold kC at h3;omega
  exact Ak h4
 .obtain⟨s,u,rfl⟩:=yw ar hk;obtain⟨n,hn⟩:=nm 1 Dd Yy (.inr (.inr ⟨Y,Dd⟩));exact⟨λS=>f S key n u,λS=>Al hn,hc key s u n hn⟩
def r3b{f:aH->BA->BA->Int->aB->aM}(hb:eH N 3 3 kd 2)(fz:ur kd fn)(hp:fu N)(hc:∀key s u n,numOf u=some n->uw now fn N [key,s,u] key λS=>f S key s n)(hN:up w=N)(aJ:w.size<=300)(aw:A.length<=19)(hz:∀a∈A,a.size<=300):R9 now (w::A) (λS=>nO (λkey s u=>bY u λn=>bX S now kd key (f S key s n)) A):=by
 refine r9 hb Dd fz hp.2.2 hN aJ aw hz (λS ha=>LH λe=>ha (vU hp V V)) (λS ar h=>?_) (λar nm key hk=>?_)
 .obtain⟨key,hk⟩:=GB ar Dd;obtain⟨s,u,rfl⟩:=yw ar hk;obtain⟨j,h1,h2,h3,h4⟩:=h;obtain rfl:j=2:=by unfold kC at h3;omega
  exact Ak h4
 .obtain⟨s,u,rfl⟩:=yw ar hk;obtain⟨n,hn⟩:=nm 2 Dd Yy (.inr (.inr ⟨Y,Dd⟩));exact⟨λS=>f S key s n,λS=>Al hn,hc key s u n hn⟩
def rM{c:aH->List BA->aM}{f:aH->BA->List BA->aB->aM}(e0:∀S,c S []=.error cX)(e1:∀S key l,c S (key::l)=if 1<=l.length∧l.length<65536 then bX S now kd key (f S key l)else .error cX)(hb:eH N 2 65536 kd 0)(fz:ur kd fn)(hp:fu N)(hc:∀key l,1<=l.length->uw now fn N (key::l) key λS=>f S key l)(hN:up w=N)(aJ:w.size<=300)(aw:A.length<=19)(hz:∀a∈A,a.size<=300):R9 now (w::A) (λS=>c S A):=by
 refine r9 hb Dd fz hp.2.2 hN aJ aw hz (λS ha=>?_) (λS _ h=>GV h) (λar _ key hk=>?_)
 .cases A with
  |nil=>exact e0 S
  |cons key l=>
   have aw:l.length+1<=19:=aw;exact(e1 S key l).trans (akZ λh=>ha (vU hp (by simp only[ak0];omega) (by simp only[ak0];omega)))
 .cases A with
  |nil=>cases hk
  |cons gh l=>
   cases hk;have hl:1<=l.length:=by have:=ar.1;simp only[ak0]at this;omega
   have aw:l.length+1<=19:=aw;exact⟨λS=>f S key l,λS=>(e1 S key l).trans (ak4 ⟨hl,V⟩),hc key l hl⟩
def said{h0 h:af}{xb:Nat}{kv av lv pv lw rv:Value}{t:aB}{ar:List Value}{a b:aM}(e:b=a)(hh:aj Tryz.prog fn ar h (ao (cj h0 h xb t pv lw rv key kv now av lv a))):aj Tryz.prog fn ar h (ao (cj h0 h xb t pv lw rv key kv now av lv b)):=by rw[e];exact hh
def agO{t:aB}{n:Int}(hz:∀s∈[key,nm,u],s.size<=300)(hp:t.pairs.length<=2000)(hk:key.size<=300):(bY ((gu t.pairs nm).getD mI) λm=>lf m n λz=>makes S now key (t.pairs.length+(if dK t.pairs nm=true then 0 else 1)) (small nm&&small ⟨⟨Lib.itoa z⟩⟩) (bO z) [pL key nm ⟨⟨Lib.itoa z⟩⟩])=
  bY ((gu t.pairs nm).getD mI) λm=>lf m n λz=>.ok (bO z,cV S key now++[pL key nm ⟨⟨Lib.itoa z⟩⟩]):=by
 have zn:=hz nm Yy;unfold bY;cases hm:numOf ((gu t.pairs nm).getD mI)with
 |none=>rfl
 |some mm=>
  show lf mm n _=lf mm n _;unfold lf;by_cases ho:eP mm n
  .rw[ak4 ho,ak4 ho];have ai':=Rm (z:=mm+n) ho;refine xy ?_ hk ?_
   .split<;>omega
   .unfold small;rw[ale (by omega:nm.size<=1048576),ale (by omega:(⟨⟨Lib.itoa (mm+n)⟩⟩:BA).size<=1048576)];rfl
  .rw[akZ ho,akZ ho]
def agR{t:aB}{n:Int}(hz:∀x∈[key,s,u],x.size<=300)(hp:t.ranks.length<=2000)(hk:key.size<=300):(lf ((fM t.ranks u).getD 0) n λz=>makes S now key (t.ranks.length+(if dA t.ranks u=true then 0 else 1)) (small u) (iu ⟨⟨Lib.itoa z⟩⟩) [alj key u z])=
  lf ((fM t.ranks u).getD 0) n λz=>.ok (iu ⟨⟨Lib.itoa z⟩⟩,cV S key now++[alj key u z]):=by
 have zn:=hz u Yy;unfold lf;by_cases ho:eP ((fM t.ranks u).getD 0) n
 .rw[ak4 ho,ak4 ho];refine xy ?_ hk (ale V);split<;>omega
 .rw[akZ ho,akZ ho]
def UT{t:aB}{e:BA->aA}(hz:∀x∈(key::l),x.size<=300)(hp:t.list.length<=2000)(hk:key.size<=300)(hl:(key::l).length<=20):makes S now key (t.list.length+l.length) (l.all small) r (l.map e)=.ok (r,cV S key now++l.map e):=
 xy (by simp only[ak0]at hl;omega) hk (ER λs hs=>hz s (alr _ hs))
def agP{t:aB}{n:Int}(hz:u.size<=300)(hp:t.list.length<=2000)(hk:key.size<=300):(match dP t.list.length n with
  |some i=>makes S now key t.list.length (small u) lS [ET key i u]
  |none=>.error vK)=match dP t.list.length n with
  |some i=>.ok (lS,cV S key now++[ET key i u])
  |none=>.error vK:=by
 cases dP t.list.length n with
 |none=>rfl
 |some i=>exact xy V hk (ale V)
def Ss{th:BA->Bool}:∀{l pre:List BA},∀x∈bf th pre l,x∈l
 |[],_,x,h=>(nomatch h)
 |n::ns,pre,x,h=>by
  simp only[bf]at h;rcases alf.1 h with h|h
  .split at h
   .rw[alE.1 h];exact amY ..
   .cases h
  .exact alr _ (Ss x h)
def agQ{t:aB}(hz:∀x∈(key::l),x.size<=300)(hp:t.list.length<=2000)(hk:key.size<=300)(hl:(key::l).length<=20):(if bf (bF t.list) [] l=[]then Except.ok (bO 0,[])else makes S now key (t.list.length+(bf (bF t.list) [] l).length) ((bf (bF t.list) [] l).all small) (bO (bf (bF t.list) [] l).length) ((bf (bF t.list) [] l).map (pD key)))=
  .ok (bO (bf (bF t.list) [] l).length,pC S key now (pD key) (bf (bF t.list) [] l)):=by
 have h3:=oj (th:=bF t.list) (l:=l) (pre:=[]);have nj:=Ss (th:=bF t.list) (l:=l) (pre:=[]);simp only[ak0]at hl;generalize bf (bF t.list) [] l=ns at*;unfold pC;cases ns with
 |nil=>rfl
 |cons a ns=>
  rw[akZ Yy,akZ Yy];exact xy (by simp only[ak0]at h3⊢;omega) hk (ER λs hs=>hz s (alr _ (nj s hs)))
def aby(hN:up w=vx)(aJ:w.size<=300)(fK:l.length+1<=19)(hz:∀a∈(key::l),a.size<=300):R9 now (w::(key::l)) (λS=>wg S now (key::l)):=⟨by
 have Kk:(key::l).length+1<=20:=by simp only[ak0];omega
 intro h kv av k aQ lG gg hlen bK s8 s9 aU fJ;refine Ax (N:=vx) (A:=(key::l)) aQ lG gg V bK fJ Kk aJ hz hN UQ Dd (.inl ⟨Y,Y⟩) ?_ (λar=>?_) (λ_ ar=>?_) (λkey=>s9.get key now) (λ_=>?_) (λe=>absurd e Dd)
 .intro hh;show(if 2<=l.length∧l.length<65536∧l.length%2=0 then _ else _)=_;rw[akZ (λhc=>hh ⟨by simp only[ak0];omega,by simp only[ak0];omega,λ_=>by simp only[ak0];omega⟩)]
 .rintro⟨j,h1,h2,h3,_⟩;unfold kC at h3;omega
 .obtain⟨m1,m2,gZ⟩:=ar;have gZ:=gZ (by first|exact .inl Y|exact .inr Y);intro bD gh fZ aN;obtain rfl:key=gh:=amu fZ;have hp:2<=l.length∧l.length<65536∧l.length%2=0:=by simp only[ak0]at m1 gZ;omega
  show(if 2<=l.length∧l.length<65536∧l.length%2=0 then bX _ _ _ _ _ else _)=_;rw[ak4 hp,Ds aN]
 .intro h1 xb fO pv lw rv gh fZ ar bD aN g x;obtain⟨m1,m2,gZ⟩:=ar;have gZ:=gZ (by first|exact .inl Y|exact .inr Y);obtain rfl:key=gh:=amu fZ;have hp:2<=l.length∧l.length<65536∧l.length%2=0:=by simp only[ak0]at m1 gZ;omega
  have hl9:=g.t9.ps;have e:wg (k.map RX.pr) now (key::l)=.ok (bO (bf (dK ((aC (k.map RX.pr) key now).getD aL).pairs) [] ((dj l).map Prod.fst)).length,cV (k.map RX.pr) key now++(dj l).map λp=>pL key p.1 p.2):=by
   show(if 2<=l.length∧l.length<65536∧l.length%2=0 then bX _ _ _ _ _ else _)=_;rw[ak4 hp,Dt aN];have h3:=oj (th:=dK ((aC (k.map RX.pr) key now).getD aL).pairs) (l:=(dj l).map Prod.fst) (pre:=[]);have h4:=rB (ali l.length);rw[alL]at h3;exact xy V g.ks (ER λs hs=>hz s (alr _ hs))
  have hh:=afr x g hp.1 hp.2.2;rw[<-e]at hh;exact hh⟩
def abz(hN:up w=vy)(aJ:w.size<=300)(fK:l.length+1<=19)(hz:∀a∈(key::l),a.size<=300):R9 now (w::(key::l)) (λS=>uF S now (key::l)):=⟨by
 have Kk:(key::l).length+1<=20:=by simp only[ak0];omega
 intro h kv av k aQ lG gg hlen bK s8 s9 aU fJ;have two:∀p∈dj l,∃q,∃h:2*q+1<l.length,p=(l[2*q],l[2*q+1]):=λp hp=>by
  obtain⟨q,hq,rfl⟩:=ane.1 hp;have hh:=rB (ali l.length);have h1:2*q+1<l.length:=V
  have h2:=um h1;rw[akU hq]at h2;exact⟨q,h1,amu h2⟩
 have sc:(key::l).length%2=1->EC 4 (key::l)->∃r,j8 (dj l)=some r:=λgZ bD=>MA λp hp=>by
  obtain⟨q,hq,rfl⟩:=two p hp;obtain⟨m,hm⟩:=bD (2*q+1) V (by simp only[ak0];omega) (.inl ⟨Y,V⟩);rw[alQ,akU V]at hm;have hm:numOf l[2*q]=some m:=hm;show(numOf l[2*q]).isSome=true;rw[hm];rfl
 refine Ax (N:=vy) (A:=(key::l)) aQ lG gg V bK fJ Kk aJ hz hN UR Dd (.inr (.inr (.inr ⟨Y,Y⟩))) ?_ (λar=>?_) (λ_ ar=>?_) (λkey=>s9.get key now) (λ_=>?_) (λe=>absurd e Dd)
 .intro hh;show(if 2<=l.length∧l.length<65536∧l.length%2=0 then _ else _)=_;rw[akZ (λhc=>hh ⟨by simp only[ak0];omega,by simp only[ak0];omega,λ_=>by simp only[ak0];omega⟩)]
 .obtain⟨m1,m2,gZ⟩:=ar;have gZ:=gZ (by first|exact .inl Y|exact .inr Y);rintro⟨j,h1,h2,h3,h4⟩;have hp:2<=l.length∧l.length<65536∧l.length%2=0:=by simp only[ak0]at m1 gZ;omega
  have hj:j%2=1:=by unfold kC at h3;omega
  obtain⟨q,rfl⟩:∃q,j=2*q+1:=⟨j/2,V⟩
  have h2:2*q<l.length:=by simp only[ak0]at h2;omega
  rw[alQ,akU h2]at h4;have hm:=al9 (um (show 2*q+1<l.length by omega));have hn:=Mz hm h4;show(if 2<=l.length∧l.length<65536∧l.length%2=0 then _ else _)=_;rw[ak4 hp,hn]
 .obtain⟨m1,m2,gZ⟩:=ar;have gZ:=gZ (by first|exact .inl Y|exact .inr Y);intro bD gh fZ aN;obtain rfl:key=gh:=amu fZ;have hp:2<=l.length∧l.length<65536∧l.length%2=0:=by simp only[ak0]at m1 gZ;omega
  obtain⟨r,hr⟩:=sc gZ bD;show(if 2<=l.length∧l.length<65536∧l.length%2=0 then _ else _)=_;rw[ak4 hp,hr];exact Ds aN
 .intro h1 xb fO pv lw rv gh fZ ar bD aN g x;obtain⟨m1,m2,gZ⟩:=ar;have gZ:=gZ (by first|exact .inl Y|exact .inr Y);obtain rfl:key=gh:=amu fZ;have hp:2<=l.length∧l.length<65536∧l.length%2=0:=by simp only[ak0]at m1 gZ;omega
  obtain⟨r,hr⟩:=sc gZ bD;have hl9:=g.t9.rs;have e:uF (k.map RX.pr) now (key::l)=.ok (bO (bf (dA ((aC (k.map RX.pr) key now).getD aL).ranks) [] (r.map Prod.snd)).length,cV (k.map RX.pr) key now++r.map λp=>alj key p.2 p.1):=by
   show(if 2<=l.length∧l.length<65536∧l.length%2=0 then _ else _)=_;rw[ak4 hp,hr];show bX _ _ _ _ _=_;rw[Dt aN];have h3:=oj (th:=dA ((aC (k.map RX.pr) key now).getD aL).ranks) (l:=r.map Prod.snd) (pre:=[]);have h4:=rB (ali l.length);have h5:=alZ hr;rw[alL]at h3;refine xy V g.ks (ER λs hs=>?_);obtain⟨p,eg,rfl⟩:=alF.1 hs;obtain⟨q,hq,rfl⟩:=ane.1 eg;have h6:2*q+1<l.length:=V
   have h7:=Hw hr h6;rw[amB,akU hq]at h7;have h7:r[q].2=l[2*q+1]:=amu h7;rw[h7];exact hz _ (alr _ (ak9 _))
  have hh:=agy hr x g hp.1 hp.2.2;rw[<-e]at hh;exact hh⟩
def W4(hN:up w=vx)(aJ:w.size<=300)(aw:A.length<=19)(hz:∀a∈A,a.size<=300):R9 now (w::A) (λS=>wg S now A):=by
 cases A with
 |cons key l=>exact aby hN aJ aw hz
 |nil=>
  refine⟨?_⟩;intro h kv av k aQ lG gg hlen bK s8 s9 aU fJ;exact Ax aQ lG gg V bK fJ Dd aJ hz hN UQ Dd (.inl ⟨Y,Y⟩) (λ_=>rfl) (λar=>absurd ar.1 Dd) (λ_ ar=>absurd ar.1 Dd) (λkey=>s9.get key now) (λ_ _ _ _ _ _ _ _ _ ar=>absurd ar.1 Dd) (λe=>absurd e Dd)
def W7(hN:up w=vy)(aJ:w.size<=300)(aw:A.length<=19)(hz:∀a∈A,a.size<=300):R9 now (w::A) (λS=>uF S now A):=by
 cases A with
 |cons key l=>exact abz hN aJ aw hz
 |nil=>
  refine⟨?_⟩;intro h kv av k aQ lG gg hlen bK s8 s9 aU fJ;exact Ax aQ lG gg V bK fJ Dd aJ hz hN UR Dd (.inr (.inr (.inr ⟨Y,Y⟩))) (λ_=>rfl) (λar=>absurd ar.1 Dd) (λ_ ar=>absurd ar.1 Dd) (λkey=>s9.get key now) (λ_ _ _ _ _ _ _ _ _ ar=>absurd ar.1 Dd) (λe=>absurd e Dd)
def W5(hN:up w=tY)(aJ:w.size<=300)(aw:A.length<=19)(hz:∀a∈A,a.size<=300):R9 now (w::A) (λS=>uD S now A):=⟨by
 intro h kv av k aQ lG gg hlen bK s8 s9 aU fJ;have hp:¬mJ tY 1 65536 A->A=[]:=λha=>by
  cases A with
  |nil=>rfl
  |cons key l=>exact absurd ⟨by simp only[ak0];omega,by simp only[ak0]at aw⊢;omega,λh=>absurd h Dd⟩ ha
 refine Ax aQ lG gg V bK fJ V aJ hz hN agn Dd (.inr (.inr (.inl ⟨Y,Y⟩))) (λha=>by rw[hp ha];rfl) (λ_ h=>GV h) (λe=>absurd Y e) (λkey=>s9.get key now) (λe=>absurd Y e) (λ_ ar=>?_);intro h1 xb fO gh c x;cases A with
 |cons key l=>exact afs c x s9 hz V Yy
 |nil=>exact absurd ar.1 Dd⟩
def fU(now:Int)(AA:List BA)(res:aH->aM):Prop:=Ny now AA res∧R9 now AA res∧∀S,S8 S->S9 S->eQ (res S)
def aic(hN:up w=vx)(aJ:w.size<=300)(aw:A.length<=19)(hz:∀a∈A,a.size<=300):fU now (w::A) (λS=>wg S now A):=
 ⟨p9 hN aJ aw hz Y λp s9 hi aU ht cL x=>acD p s9 cL x,W4 hN aJ aw hz,λS _ s9=>Sh.many Y λkey l e=>by subst e;exact Sh.ite (Sh.kind s9 λt _=>Sh.make dW (by have h4:=rB (ali l.length);rw[alL];simp only[ak0]at aw;omega)) Sh.bad⟩
def ah9(hN:up w=Tv)(aJ:w.size<=300)(aw:A.length<=19)(hz:∀a∈A,a.size<=300):fU now (w::A) (λS=>E7 S now A):=
 ⟨p9 hN aJ aw hz Y λp s9 hi aU ht cL x=>ab3 p s9 x,r2 af9 (.inl ⟨Y,Y⟩) (by unfold fu;decide) (λ_ _=>λ_ g x=>afo x g) hN aJ aw hz,λS _ s9=>Sh.a2 λ_ _=>Sh.kind s9 λt _=>by split<;>exact Sh.nil dW⟩
def ah8(hN:up w=Tu)(aJ:w.size<=300)(aw:A.length<=19)(hz:∀a∈A,a.size<=300):fU now (w::A) (λS=>Bs S now A):=
 ⟨p9 hN aJ aw hz Y λp s9 hi aU ht cL x=>abU p s9 x,rM (c:=λS=>Bs S now) (λ_=>rfl) (λ_ _ _=>rfl) af8 (.inl ⟨Y,Y⟩) (by unfold fu;decide) (λ_ _ _=>λ_ g x=>afn x g) hN aJ aw hz,λS _ s9=>Sh.many Y λkey l e=>by subst e;exact Sh.ite (Sh.kind s9 λt _=>Sh.one dW (by rw[alL];refine al6 JX ?_;simp only[ak0]at aw;omega)) Sh.bad⟩
def aib(hN:up w=Ty)(aJ:w.size<=300)(aw:A.length<=19)(hz:∀a∈A,a.size<=300):fU now (w::A) (λS=>E8 S now A):=
 ⟨p9 hN aJ aw hz Y λp s9 hi aU ht cL x=>aca p x,r1 agb (.inl ⟨Y,Y⟩) (by unfold fu;decide) (λ_=>λ_ g x=>afq x g) hN aJ aw hz,λS _ s9=>Sh.a1 λ_=>Sh.kind s9 λt _=>Sh.nil dW⟩
def ah'(hN:up w=Tw)(aJ:w.size<=300)(aw:A.length<=19)(hz:∀a∈A,a.size<=300):fU now (w::A) (λS=>E6 S now A):=
 ⟨p9 hN aJ aw hz Y λp s9 hi aU ht cL x=>abD p s9 x,r1 af' (.inl ⟨Y,Y⟩) (by unfold fu;decide) (λ_=>λ_ g x=>afm x g) hN aJ aw hz,λS _ s9=>Sh.a1 λ_=>Sh.kind s9 λt ht=>Sh.nil (by show((t.pairs.flatMap _).map _).length<=_;have:=ht.ps;have h2:=yT (f:=λp:bM=>[p.name,p.text]) (λ_=>ali 2) t.pairs;rw[alL];omega)⟩
def aia(hN:up w=Tx)(aJ:w.size<=300)(aw:A.length<=19)(hz:∀a∈A,a.size<=300):fU now (w::A) (λS=>yF S now A):=
 ⟨p9 hN aJ aw hz Y λp s9 hi aU ht cL x=>ab6 p s9 aU cL x,r3b aga (.inl ⟨Y,Y⟩) (by unfold fu;decide) (λ_ _ _ _ hn=>λaU g x=>said (agO (hz:=g.az) (hp:=g.t9.ps) (hk:=g.ks)) (afp hn aU x g)) hN aJ aw hz,λS _ s9=>Sh.a3 λ_ _ _=>Sh.num λ_=>Sh.kind s9 λt _=>Sh.num λ_=>Sh.add λ_ _=>Sh.make dW Yy⟩
def aih(hN:up w=TD)(aJ:w.size<=300)(aw:A.length<=19)(hz:∀a∈A,a.size<=300):fU now (w::A) (λS=>uC S now sS A):=
 ⟨p9 hN aJ aw hz Y λp s9 hi aU ht cL x=>adC p s9 cL x,rM (c:=λS=>uC S now sS) (λ_=>rfl) (λ_ _ _=>rfl) agf (.inr (.inl ⟨Y,Y⟩)) (by unfold fu;decide) (λ_ l hl=>λ_ g x=>said (UT (hz:=g.az) (hp:=g.t9.ls) (hk:=g.ks) (hl:=g.al)) (afA hl x g)) hN aJ aw hz,λS _ s9=>Sh.many Y λkey l e=>by subst e;exact Sh.ite (Sh.kind s9 λt _=>Sh.make dW (by rw[alL];simp only[ak0]at aw;omega)) Sh.bad⟩
def ail(hN:up w=TJ)(aJ:w.size<=300)(aw:A.length<=19)(hz:∀a∈A,a.size<=300):fU now (w::A) (λS=>uC S now ui A):=
 ⟨p9 hN aJ aw hz Y λp s9 hi aU ht cL x=>afJ p s9 cL x,rM (c:=λS=>uC S now ui) (λ_=>rfl) (λ_ _ _=>rfl) agk (.inr (.inl ⟨Y,Y⟩)) (by unfold fu;decide) (λ_ l hl=>λ_ g x=>said (UT (hz:=g.az) (hp:=g.t9.ls) (hk:=g.ks) (hl:=g.al)) (afN hl x g)) hN aJ aw hz,λS _ s9=>Sh.many Y λkey l e=>by subst e;exact Sh.ite (Sh.kind s9 λt _=>Sh.make dW (by rw[alL];simp only[ak0]at aw;omega)) Sh.bad⟩
def aif(hN:up w=TB)(aJ:w.size<=300)(aw:A.length<=19)(hz:∀a∈A,a.size<=300):fU now (w::A) (λS=>alw S now HO 0 A):=
 ⟨p9 hN aJ aw hz Y λp s9 hi aU ht cL x=>adA p s9 x,r1 age (.inr (.inl ⟨Y,Y⟩)) (by unfold fu;decide) (λ_=>λ_ g x=>afz x g) hN aJ aw hz,λS _ s9=>Sh.a1 λ_=>Sh.kind s9 λt _=>by split;exact Sh.one dW Yy;exact Sh.nil dW⟩
def aik(hN:up w=TG)(aJ:w.size<=300)(aw:A.length<=19)(hz:∀a∈A,a.size<=300):fU now (w::A) (λS=>alw S now HP (-1) A):=
 ⟨p9 hN aJ aw hz Y λp s9 hi aU ht cL x=>afI p s9 x,r1 agj (.inr (.inl ⟨Y,Y⟩)) (by unfold fu;decide) (λ_=>λ_ g x=>afM x g) hN aJ aw hz,λS _ s9=>Sh.a1 λ_=>Sh.kind s9 λt _=>by split;exact Sh.one dW Yy;exact Sh.nil dW⟩
def aie(hN:up w=TA)(aJ:w.size<=300)(aw:A.length<=19)(hz:∀a∈A,a.size<=300):fU now (w::A) (λS=>E9 S now A):=
 ⟨p9 hN aJ aw hz Y λp s9 hi aU ht cL x=>adv p x,r1 agd (.inr (.inl ⟨Y,Y⟩)) (by unfold fu;decide) (λ_=>λ_ g x=>afy x g) hN aJ aw hz,λS _ s9=>Sh.a1 λ_=>Sh.kind s9 λt _=>Sh.nil dW⟩
def aid(hN:up w=Tz)(aJ:w.size<=300)(aw:A.length<=19)(hz:∀a∈A,a.size<=300):fU now (w::A) (λS=>IC S now A):=
 ⟨p9 hN aJ aw hz Y λp s9 hi aU ht cL x=>adr p s9 aU cL x,r2n agc (.inr (.inl ⟨Y,Y⟩)) (by unfold fu;decide) (λ_ _ _ hn=>λ_ g x=>afx hn x g) hN aJ aw hz,λS _ s9=>Sh.a2 λ_ _=>Sh.num λ_=>Sh.kind s9 λt _=>by split<;>exact Sh.nil dW⟩
def aii(hN:up w=TE)(aJ:w.size<=300)(aw:A.length<=19)(hz:∀a∈A,a.size<=300):fU now (w::A) (λS=>ID S now A):=
 ⟨p9 hN aJ aw hz Y λp s9 hi aU ht cL x=>adD p s9 aU cL x,r3 agh (.inr (.inl ⟨Y,Y⟩)) (by unfold fu;decide) (λ_ _ _ _ _ hn hm=>λ_ g x=>afB hn hm x g) hN aJ aw hz,λS _ s9=>Sh.a3 λ_ _ _=>Sh.num λn=>Sh.num λm=>Sh.kind s9 λt ht=>Sh.nil (by show((ru t.list n m).map _).length<=_;have:=ht.ls;unfold ru;simp only[alL,alA,amL];omega)⟩
def aij(hN:up w=TF)(aJ:w.size<=300)(aw:A.length<=19)(hz:∀a∈A,a.size<=300):fU now (w::A) (λS=>IE S now A):=
 ⟨p9 hN aJ aw hz Y λp s9 hi aU ht cL x=>adE p s9 aU cL x,TX agi (.inr (.inl ⟨Y,Y⟩)) (by unfold fu;decide) (λkey _ u _ hn=>λ_ g x=>said (agP (hz:=g.az u Yy) (hp:=g.t9.ls) (hk:=g.ks)) (afC hn x g)) hN aJ aw hz,λS _ s9=>Sh.a3 λ_ _ _=>Sh.num λ_=>Sh.kind s9 λt ht=>by split;(rename_i hi;exact Sh.make dW Yy (pX (by have:=DS hi;have:=ht.ls;exact⟨by show(-9223372036854775808:Int)<=(_:Nat);omega,by show((_:Nat):Int)<=_;omega⟩)));exact Sh.bad⟩
def aim(hN:up w=TK)(aJ:w.size<=300)(aw:A.length<=19)(hz:∀a∈A,a.size<=300):fU now (w::A) (λS=>alT S now A):=
 ⟨p9 hN aJ aw hz Y λp s9 hi aU ht cL x=>agI p s9 hi cL x,rM (c:=λS=>alT S now) (λ_=>rfl) (λ_ _ _=>rfl) agl (.inr (.inr (.inl ⟨Y,Y⟩))) (by unfold fu;decide) (λ_ l _=>λ_ g x=>said (agQ (hz:=g.az) (hp:=g.t9.ls) (hk:=g.ks) (hl:=g.al)) (afO x g)) hN aJ aw hz,λS _ s9=>Sh.many Y λkey l e=>by subst e;exact Sh.ite (Sh.kind s9 λt _=>Sh.ite (Sh.nil dW) (Sh.make dW (by have h3:=oj (th:=bF t.list) (l:=l) (pre:=[]);rw[alL];simp only[ak0]at aw;omega))) Sh.bad⟩
def air(hN:up w=TP)(aJ:w.size<=300)(aw:A.length<=19)(hz:∀a∈A,a.size<=300):fU now (w::A) (λS=>BB S now A):=
 ⟨p9 hN aJ aw hz Y λp s9 hi aU ht cL x=>ahk p s9 hi x,rM (c:=λS=>BB S now) (λ_=>rfl) (λ_ _ _=>rfl) agq (.inr (.inr (.inl ⟨Y,Y⟩))) (by unfold fu;decide) (λ_ _ _=>λ_ g x=>afV x g) hN aJ aw hz,λS _ s9=>Sh.many Y λkey l e=>by subst e;exact Sh.ite (Sh.kind s9 λt _=>Sh.one dW (by rw[alL];refine al6 JX ?_;simp only[ak0]at aw;omega)) Sh.bad⟩
def aip(hN:up w=TM)(aJ:w.size<=300)(aw:A.length<=19)(hz:∀a∈A,a.size<=300):fU now (w::A) (λS=>Fc S now A):=
 ⟨p9 hN aJ aw hz Y λp s9 hi aU ht cL x=>ag5 p s9 hi x,r2 ago (.inr (.inr (.inl ⟨Y,Y⟩))) (by unfold fu;decide) (λ_ _=>λ_ g x=>afS x g) hN aJ aw hz,λS _ s9=>Sh.a2 λ_ _=>Sh.kind s9 λt _=>Sh.nil dW⟩
def ain(hN:up w=TL)(aJ:w.size<=300)(aw:A.length<=19)(hz:∀a∈A,a.size<=300):fU now (w::A) (λS=>Fb S now A):=
 ⟨p9 hN aJ aw hz Y λp s9 hi aU ht cL x=>agS p x,r1 agm (.inr (.inr (.inl ⟨Y,Y⟩))) (by unfold fu;decide) (λ_=>λ_ g x=>afQ x g) hN aJ aw hz,λS _ s9=>Sh.a1 λ_=>Sh.kind s9 λt _=>Sh.nil dW⟩
def aiq(hN:up w=amt)(aJ:w.size<=300)(aw:A.length<=19)(hz:∀a∈A,a.size<=300):fU now (w::A) (λS=>Fe S now A):=
 ⟨p9 hN aJ aw hz Y λp s9 hi aU ht cL x=>ahb p s9 x,r1 agp (.inr (.inr (.inl ⟨Y,Y⟩))) (by unfold fu;decide) (λ_=>λ_ g x=>afU x g) hN aJ aw hz,λS _ s9=>Sh.a1 λ_=>Sh.kind s9 λt ht=>Sh.nil (by show(t.list.map _).length<=_;have:=ht.ls;rw[alL];omega)⟩
def aio(hN:up w=tY)(aJ:w.size<=300)(aw:A.length<=19)(hz:∀a∈A,a.size<=300):fU now (w::A) (λS=>uD S now A):=
 ⟨p9 hN aJ aw hz Y λp s9 hi aU ht cL x=>ag4 p s9 hi V x,W5 hN aJ aw hz,λS _ s9=>Sh.many Y λkey l e=>by subst e;exact Sh.ite (Sh.kind s9 λt ht=>Sh.inter s9 (by have:=ht.ls;omega)) Sh.bad⟩
def ais(hN:up w=vy)(aJ:w.size<=300)(aw:A.length<=19)(hz:∀a∈A,a.size<=300):fU now (w::A) (λS=>uF S now A):=
 ⟨p9 hN aJ aw hz Y λp s9 hi aU ht cL x=>aja p s9 hi aU ht cL x,W7 hN aJ aw hz,λS _ s9=>Sh.many Y λkey l e=>by
   subst e;refine Sh.ite ?_ Sh.bad;split
   .exact Sh.bad
   .rename_i r hr;have h4:=rB (ali l.length);have h5:=alZ hr;exact Sh.kind s9 λt _=>Sh.make dW (by rw[alL];simp only[ak0]at aw;omega) (Gw λp hp=>UX hr p hp)⟩
def aiy(hN:up w=TV)(aJ:w.size<=300)(aw:A.length<=19)(hz:∀a∈A,a.size<=300):fU now (w::A) (λS=>BC S now A):=
 ⟨p9 hN aJ aw hz Y λp s9 hi aU ht cL x=>ajh p s9 hi ht x,rM (c:=λS=>BC S now) (λ_=>rfl) (λ_ _ _=>rfl) agw (.inr (.inr (.inr ⟨Y,Y⟩))) (by unfold fu;decide) (λ_ _ _=>λ_ g x=>agE x g) hN aJ aw hz,λS _ s9=>Sh.many Y λkey l e=>by subst e;exact Sh.ite (Sh.kind s9 λt _=>Sh.one dW (by rw[alL];refine al6 JX ?_;simp only[ak0]at aw;omega)) Sh.bad⟩
def aiz(hN:up w=TW)(aJ:w.size<=300)(aw:A.length<=19)(hz:∀a∈A,a.size<=300):fU now (w::A) (λS=>Fi S now A):=
 ⟨p9 hN aJ aw hz Y λp s9 hi aU ht cL x=>aji p s9 hi aU ht x,r2 agx (.inr (.inr (.inr ⟨Y,Y⟩))) (by unfold fu;decide) (λ_ _=>λaU g x=>agF aU x g) hN aJ aw hz,λS _ s9=>Sh.a2 λ_ _=>Sh.kind s9 λt _=>by split<;>exact Sh.nil dW⟩
def aiu(hN:up w=TR)(aJ:w.size<=300)(aw:A.length<=19)(hz:∀a∈A,a.size<=300):fU now (w::A) (λS=>Fg S now A):=
 ⟨p9 hN aJ aw hz Y λp s9 hi aU ht cL x=>aje p s9 hi aU ht cL x,TX ags (.inr (.inr (.inr ⟨Y,Y⟩))) (by unfold fu;decide) (λ_ _ _ _ hn=>λaU g x=>said (agR (hz:=g.az) (hp:=g.t9.rs) (hk:=g.ks)) (agB hn aU x g)) hN aJ aw hz,λS _ s9=>Sh.a3 λ_ _ _=>Sh.num λ_=>Sh.kind s9 λt _=>Sh.add λ_ hz=>Sh.make dW Yy (pX hz)⟩
def ait(hN:up w=TQ)(aJ:w.size<=300)(aw:A.length<=19)(hz:∀a∈A,a.size<=300):fU now (w::A) (λS=>Ff S now A):=
 ⟨p9 hN aJ aw hz Y λp s9 hi aU ht cL x=>ajc p x,r1 agr (.inr (.inr (.inr ⟨Y,Y⟩))) (by unfold fu;decide) (λ_=>λ_ g x=>agA x g) hN aJ aw hz,λS _ s9=>Sh.a1 λ_=>Sh.kind s9 λt _=>Sh.nil dW⟩
def aix(hN:up w=TU)(aJ:w.size<=300)(aw:A.length<=19)(hz:∀a∈A,a.size<=300):fU now (w::A) (λS=>Fh S now A):=
 ⟨p9 hN aJ aw hz Y λp s9 hi aU ht cL x=>ajg p s9 hi ht x,r2 agv (.inr (.inr (.inr ⟨Y,Y⟩))) (by unfold fu;decide) (λ_ _=>λaU g x=>agD aU x g) hN aJ aw hz,λS _ s9=>Sh.a2 λ_ _=>Sh.kind s9 λt _=>by split<;>exact Sh.nil dW⟩
def aiv(hN:up w=TS)(aJ:w.size<=300)(aw:A.length<=19)(hz:∀a∈A,a.size<=300):fU now (w::A) (λS=>II S now A):=
 ⟨p9 hN aJ aw hz Y λp s9 hi aU ht cL x=>ajf p s9 hi aU ht cL x,r3 agt (.inr (.inr (.inr ⟨Y,Y⟩))) (by unfold fu;decide) (λ_ _ _ _ _ hn hm=>λ_ g x=>agC hn hm x g) hN aJ aw hz,λS _ s9=>Sh.a3 λ_ _ _=>Sh.num λn=>Sh.num λm=>Sh.kind s9 λt ht=>Sh.nil (by show(((ru t.ranks n m).map _).map _).length<=_;have:=ht.rs;unfold ru;simp only[alL,alA,amL];omega)⟩
def aiw(hN:up w=TT)(aJ:w.size<=300)(aw:A.length<=19)(hz:∀a∈A,a.size<=300):fU now (w::A) (λS=>IG S now A):=
 ⟨p9 hN aJ aw hz Y λp s9 hi aU ht cL x=>ajb p s9 hi aU ht cL x,r3 agu (.inr (.inr (.inr ⟨Y,Y⟩))) (by unfold fu;decide) (λ_ _ _ _ _ hn hm=>λ_ g x=>agz hn hm x g) hN aJ aw hz,λS _ s9=>Sh.a3 λ_ _ _=>Sh.num λn=>Sh.num λm=>Sh.kind s9 λt ht=>Sh.nil (by have:=ht.rs;refine al6 (by show(((t.ranks.filter _).map _).map _).length<=t.ranks.length;rw[alL,alL];exact amR _ _) V)⟩
end
end Go.Proofs.YtocgmipngoiieaaGreatDoor
namespace Go.Proofs.YtocgmipngoiieaaGreatDoor
open Go Go.Sx C
section
variable {S:aH}{now lo hi n:Int}{g fn:Nat}{key s w N:BA}{A:List BA}{args:List Value}{res:aH->aM}{r:cR}{E:List aA}{a b:aM}{go:Option aB}
def K4:nL (cV S key now):=by unfold cV;split;exact pX qW;exact sj
def Sh.put{stays:Bool}(hu:Ba S)(hr:r.l=[]):eQ (nD S key s now stays r):=by
 have d1:=mS S key now;refine Sh.ite (Sh.one (by rw[hr];exact ak8 _) ?_ ?_) Sh.bad
 .unfold nC kz;split
  .split<;>simp<;>omega
  .simp;omega
 .unfold nC kz;refine vg K4 (vg (pX qW) ?_);split
  .rename_i t ht;split
   .exact pX (M3 hu ht)
   .exact sj
  .exact sj
def Sh.by(hu:Ba S):eQ (nT S key now n go):=by
 refine Sh.ite ?_ Sh.bad;unfold oD;split
 .exact Sh.bad
 .exact Sh.ite (Sh.put hu Y) Sh.bad
def Sh.a0(h:eQ a):eQ (yz a A):=by
 unfold yz;split
 .exact h
 .exact Sh.bad
def ami:∀{L pre:List BA},∀e∈gq S now pre L,∃k,e=iS k
 |[],_,e,he=>(nomatch he)
 |k::L,pre,e,he=>by
  simp only[gq]at he;rcases alf.1 he with he|he
  .split at he
   .exact⟨k,alE.1 he⟩
   .cases he
  .exact ami e he
def Sb:∀(m:Nat)(L pre:List BA)(E0:List aA){q:cR},L.length<=m->nL E0->aln S now pre L E0=.ok (q,E)->q.l=[]∧E.length<=E0.length+2*L.length∧nL E
 |0,[],pre,E0,q,_,hi,h=>by cases h;exact⟨Y,ali _,hi⟩
 |m+1,[],pre,E0,q,_,hi,h=>by cases h;exact⟨Y,ali _,hi⟩
 |m+1,[x],pre,E0,q,_,hi,h=>by cases h;exact⟨Y,Yy,hi⟩
 |m+1,k::s::L,pre,E0,q,hn,hi,h=>by
  rw[Lu]at h;split at h
  .have d1:=mS S k now;obtain⟨h1,h2,h3⟩:=Sb m L (pre++[k]) _ (by simp at hn;omega) (vg hi (vg (by split;exact sj;exact K4) (pX qW))) h;refine⟨h1,al6 h2 ?_,h3⟩;simp only[ak1,ak0,aly];split<;>simp<;>omega
  .cases h
structure R8 (now:Int) (AA:List BA) (res:aH->aM):Prop where
 get:Nz 22 now AA res
def VO(now:Int)(AA:List BA)(res:aH->aM):Prop:=A0 111 now AA res∧R8 now AA res∧∀S,S8 S->S9 S->eQ (res S)
def p8(hf:jz lu (up w)=some (g,none))(aJ:w.size<=300)(aw:A.length<=19)(hc:∀{h0 h:af}{ab kb sb mb c:Nat}{m:List KI}{S:aH}{av:Value},KR h0 kb sb mb c m->bT m S->S8 S->dr h0->AS h0 h ab kb now av A (.slice none 0 0) []->aj Tryz.prog g [ptr ab] h (fq h0 h ab kb now av A (.slice none 0 0) (res S))):A0 111 now (w::A) res:=by
 intro h kb sb mb c m S av kr hs s8 s9 aU ht fJ;exact Yr kr fJ (by simp only[ak0];omega) V hf λh1 ab fO x=>hc kr hs s8 aU x
def L4(hf:jz lu (up w)=some (247,some n))(hn:cy n)(aJ:w.size<=300)(aw:A.length<=19)(hz:∀a∈A,a.size<=300):A0 111 now (w::A) (λS=>uE S now n A):=by
 intro h kb sb mb c m S av kr hs s8 s9 aU ht fJ;exact Yt kr hs aU s8.text fJ (by simp only[ak0];omega) (λs hs=>by rcases ak3.1 hs with rfl|hs;omega;have:=hz s hs;omega) hn hf
def r8(hb:(N,lo,hi)∈jB)(hN:up w=N)(aJ:w.size<=300)(aw:A.length<=19)(pR:∀S,¬(lo<=A.length∧(A.length:Int)<=hi)->res S=.error cX)(hf:∀{h0 h:af}{xb:Nat}{kv av:Value}{k:List RX},lo<=A.length∧(A.length:Int)<=hi->dT h0 kv k av A->S8 (k.map RX.pr)->RG k->dr h0->As h0 h (akY xb [] kv now av (.slice none 0 0) [] au)->
   aj Tryz.prog 49 [ptr xb,.string N] h (ao (bZ h0 h xb kv now av (.slice none 0 0) (res (k.map RX.pr))))):R8 now (w::A) res:=⟨by
 intro h kv av k aQ lG gg hlen bK s8 s9 aU fJ;exact ae6 aQ lG gg V bK fJ (by simp only[ak0];omega) V hN (rb8 hb) (pR _) λh1 xb fO ar c x=>hf ar c s8 (afk gg hlen bK s8) aU x⟩
def Lj:∀{L:List (List UInt8×Nat×Option Int)}{w:BA}{p:Nat×Option Int},jz L w=some p->∃n,(n,p)∈L∧w=kD n
 |[],w,p,h=>by cases h
 |(n,g,z)::L,w,p,h=>by
  simp only[jz]at h;split at h
  .rename_i hw;cases h;exact⟨n,Yy,hw⟩
  .obtain⟨n',h1,h2⟩:=Lj h;exact⟨n',alr _ h1,h2⟩
def WW{p:Nat×Option Int}(hn:cy now)(aJ:w.size<=300)(aw:A.length<=19)(hz:∀a∈A,a.size<=300)(hf:jz lu (up w)=some p):∃res:aH->aM,VO now (w::A) res:=by
 have cL:∀s∈A,s.size<281474976710656:=λs hs=>by have:=hz s hs;omega
 obtain⟨n,hm,hN⟩:=Lj hf;simp only[lu,ak3,aof,amU,anF]at hm;rcases hm with⟨rfl,rfl⟩|⟨rfl,rfl⟩|⟨rfl,rfl⟩|⟨rfl,rfl⟩|⟨rfl,rfl⟩|⟨rfl,rfl⟩|⟨rfl,rfl⟩|⟨rfl,rfl⟩|⟨rfl,rfl⟩|⟨rfl,rfl⟩|⟨rfl,rfl⟩|⟨rfl,rfl⟩|⟨rfl,rfl⟩|⟨rfl,rfl⟩|⟨rfl,rfl⟩|⟨rfl,rfl⟩|⟨rfl,rfl⟩|⟨rfl,rfl⟩
 -- SET
 .refine⟨λS=>mf S now up A,p8 hf aJ aw λkr hs s8 aU x=>agZ x kr hs aU hn cL,r8 (N:=LD) (lo:=2) (hi:=4) (by simp[jB]) hN aJ aw (λS h=>?_) λar c s8 rg aU x=>mC (fn:=72) (args:=[]) (by simp[kV]) x λx=>afR c x V V cL hn,λS s8 _=>?_⟩
  .unfold mf;split<;>first|rfl|simp at h
  .show eQ (mf S now up A);unfold mf;split
   .exact Sh.put s8.bQ Y
   .exact Sh.ite (Sh.ite (Sh.nil dW) (Sh.put s8.bQ Y)) Sh.bad
   .refine Sh.ite ?_ Sh.bad;unfold D7;split
    .exact Sh.bad
    .refine Sh.ite Sh.bad ?_;split
     .rename_i k s _ _ _ _ _ ho;have d1:=mS S k now;exact Sh.ite (Sh.one dW (by simp only[nC,al3,ak1,al1,aly];omega) (vg (vg K4 (vg (pX qW) (by rw[al3];exact sj))) (pX ho))) Sh.bad
     .exact Sh.bad
   .exact Sh.bad
 -- GET
 .refine⟨λS=>Br S now A,p8 hf aJ aw λkr hs s8 aU x=>aaF x kr hs,r8 (N:=Ad) (lo:=1) (hi:=1) (by simp[jB]) hN aJ aw (λS h=>nN h) λar c s8 rg aU x=>?_,λS s8 _=>Sh.a1 λk=>?_⟩
  .obtain⟨key,rfl⟩:=jK ar;exact mC (fn:=73) (args:=[.string Ad]) (by simp[kV]) x λx=>afl c x Y (cL key Yy)
  .unfold yV;split
   .exact Sh.nil dW
   .exact Sh.ite (Sh.nil dW) Sh.bad
 -- DEL
 .refine⟨λS=>E4 S now A,p8 hf aJ aw λkr hs s8 aU x=>Yk x kr hs,r8 (N:=Lx) (lo:=1) (hi:=65536) (by simp[jB]) hN aJ aw (λS h=>ve h) λar c s8 rg aU x=>?_,λS s8 _=>Sh.ite (Sh.one dW (al6 Fx V) λe he=>?_) Sh.bad⟩
  .unfold E4;rw[vf ar];exact mC (fn:=74) (args:=[.bool true]) (by simp[kV]) x λx=>ae3 c x cL V
  .obtain⟨k,rfl⟩:=ami e he;exact qW
 -- ajm
 .refine⟨λS=>al2 S now A,p8 hf aJ aw λkr hs s8 aU x=>Y1 x kr hs,r8 (N:=Ly) (lo:=1) (hi:=65536) (by simp[jB]) hN aJ aw (λS h=>ve h) λar c s8 rg aU x=>?_,λS s8 _=>Sh.ite (Sh.nil dW) Sh.bad⟩;unfold al2;rw[vf ar];exact mC (fn:=74) (args:=[.bool false]) (by simp[kV]) x λx=>aff c x cL V
 -- TYPE
 .refine⟨λS=>Bu S now A,p8 hf aJ aw λkr hs s8 aU x=>Xg x kr hs s8.kind,r8 (N:=GQ) (lo:=1) (hi:=1) (by simp[jB]) hN aJ aw (λS h=>nN h) λar c s8 rg aU x=>?_,λS s8 _=>Sh.a1 λk=>Sh.nil dW⟩;obtain⟨key,rfl⟩:=jK ar;exact afL c x Y (cL key Yy) s8.kind
 -- ajo
 .refine⟨λS=>uE S now 1 A,L4 hf ⟨Dd,Dd⟩ aJ aw hz,r8 (N:=LA) (lo:=1) (hi:=1) (by simp[jB]) hN aJ aw (λS h=>nN h) λar c s8 rg aU x=>?_,λS s8 _=>Sh.a1 λk=>Sh.by s8.bQ⟩;obtain⟨key,rfl⟩:=jK ar;exact mC (fn:=78) (args:=[.int .i64 1]) (by simp[kV]) x λx=>Mh c x Y (cL key Yy) ⟨Dd,Dd⟩ aU s8.text
 -- ajl
 .refine⟨λS=>uE S now (-1) A,L4 hf ⟨Dd,Dd⟩ aJ aw hz,r8 (N:=Lw) (lo:=1) (hi:=1) (by simp[jB]) hN aJ aw (λS h=>nN h) λar c s8 rg aU x=>?_,λS s8 _=>Sh.a1 λk=>Sh.by s8.bQ⟩;obtain⟨key,rfl⟩:=jK ar;exact mC (fn:=78) (args:=[.int .i64 (-1)]) (by simp[kV]) x λx=>Mh c x Y (cL key Yy) ⟨Dd,Dd⟩ aU s8.text
 -- ajp
 .refine⟨λS=>Bt S now A,p8 hf aJ aw λkr hs s8 aU x=>acS x kr hs aU cL s8.text,r8 (N:=Lz) (lo:=2) (hi:=2) (by simp[jB]) hN aJ aw (λS h=>uz h) λar c s8 rg aU x=>?_,λS s8 _=>Sh.a2 λk s=>?_⟩
  .obtain⟨key,s,rfl⟩:=qm ar;exact afK c x Y (cL key Yy) (cL s Yy) aU s8.text
  .unfold Cc;split
   .exact Sh.bad
   .exact Sh.by s8.bQ
 -- ajj
 .refine⟨λS=>By S now A,p8 hf aJ aw λkr hs s8 aU x=>adR x kr hs cL s8.text,r8 (N:=Aa) (lo:=2) (hi:=2) (by simp[jB]) hN aJ aw (λS h=>uz h) λar c s8 rg aU x=>?_,λS s8 _=>Sh.a2 λk s=>Sh.ite (Sh.put s8.bQ Y) Sh.bad⟩;obtain⟨key,s,rfl⟩:=qm ar;exact mC (fn:=73) (args:=[.string Aa]) (by simp[kV]) x λx=>ae0 c x Y (cL key Yy) (cL s Yy) s8.text
 -- ajw
 .refine⟨λS=>Bw S now A,p8 hf aJ aw λkr hs s8 aU x=>adx x kr hs,r8 (N:=Af) (lo:=1) (hi:=1) (by simp[jB]) hN aJ aw (λS h=>nN h) λar c s8 rg aU x=>?_,λS s8 _=>Sh.a1 λk=>Sh.ite (Sh.nil dW) Sh.bad⟩;obtain⟨key,rfl⟩:=jK ar;exact mC (fn:=73) (args:=[.string Af]) (by simp[kV]) x λx=>afw c x Y (cL key Yy)
 -- ajr
 .refine⟨λS=>E' S now A,p8 hf aJ aw λkr hs s8 aU x=>adL x kr hs,r8 (N:=LB) (lo:=1) (hi:=65536) (by simp[jB]) hN aJ aw (λS h=>ve h) λar c s8 rg aU x=>?_,λS s8 _=>Sh.ite (Sh.nil (by show(A.map _).length<=_;rw[alL];omega)) Sh.bad⟩;unfold E';rw[vf ar];exact mC (fn:=79) (args:=[.bool false]) (by simp[kV]) x λx=>afD c x cL V
 -- ajs
 .refine⟨λS=>Fa S now A,p8 hf aJ aw λkr hs s8 aU x=>adS x kr hs cL,r8 (N:=LC) (lo:=2) (hi:=65536) (by simp[jB]) hN aJ aw (λS h=>ve h) λar c s8 rg aU x=>?_,λS s8 _=>Sh.ite (Sh.ite ?_ Sh.bad) Sh.bad⟩
  .unfold Fa;rw[vf ar];exact mC (fn:=79) (args:=[.bool true]) (by simp[kV]) x λx=>afE c x cL V
  .cases hm:aln S now [] A []with
   |error e=>exact Sh.bad
   |ok p=>
    obtain⟨h1,h2,h3⟩:=Sb (E:=p.2) (q:=p.1) A.length A [] [] (ali _) sj hm;exact Sh.one (r:=p.1) (E:=p.2) (by rw[h1];exact ak8 _) (by simp only[aly]at h2;omega) h3
 -- aju
 .refine⟨λS=>Bq S now A,p8 hf aJ aw λkr hs s8 aU x=>Y2 x kr hs aU hn cL,r8 (N:=xD) (lo:=2) (hi:=2) (by simp[jB]) hN aJ aw (λS h=>uz h) λar c s8 rg aU x=>?_,λS s8 _=>Sh.a2 λk s=>?_⟩
  .obtain⟨key,s,rfl⟩:=qm ar;exact mC (fn:=80) (args:=[.string xD]) (by simp[kV]) x λx=>afg c x Y (cL key Yy) (cL s Yy) hn
  .unfold yU;split
   .exact Sh.bad
   .refine Sh.ite (Sh.ite (Sh.one dW Yy) ?_) (Sh.nil dW);split
    .rename_i ho;exact Sh.one dW Yy (pX ho)
    .exact Sh.bad
 -- ajt
 .refine⟨λS=>alS S now A,p8 hf aJ aw λkr hs s8 aU x=>aeJ x kr hs,r8 (N:=xE) (lo:=1) (hi:=1) (by simp[jB]) hN aJ aw (λS h=>nN h) λar c s8 rg aU x=>?_,λS s8 _=>Sh.a1 λk=>?_⟩
  .obtain⟨key,rfl⟩:=jK ar;exact mC (fn:=80) (args:=[.string xE]) (by simp[kV]) x λx=>afH c x Y (cL key Yy)
  .unfold FR;split
   .exact Sh.nil dW
   .exact Sh.ite (Sh.one dW Yy) (Sh.nil dW)
 -- ajv
 .refine⟨λS=>Bv S now A,p8 hf aJ aw λkr hs s8 aU x=>ado x kr hs hn λk _ t ht=>M3 s8.bQ ht,r8 (N:=xF) (lo:=1) (hi:=1) (by simp[jB]) hN aJ aw (λS h=>nN h) λar c s8 rg aU x=>?_,λS s8 _=>Sh.a1 λk=>?_⟩
  .obtain⟨key,rfl⟩:=jK ar;exact mC (fn:=80) (args:=[.string xF]) (by simp[kV]) x λx=>afX c x Y (cL key Yy) s8.bQ hn
  .unfold FP;split
   .exact Sh.nil dW
   .exact Sh.ite (Sh.ite (Sh.nil dW) Sh.bad) (Sh.nil dW)
 -- ajq
 .refine⟨λS=>IF S now A,p8 hf aJ aw λkr hs s8 aU x=>adW x kr hs (by have:=s8.few.len;omega),r8 (N:=Ae) (lo:=0) (hi:=0) (by simp[jB]) hN aJ aw (λS h=>yA h) λar c s8 rg aU x=>?_,λS s8 _=>Sh.a0 (Sh.nil ?_)⟩
  .obtain rfl:=Aj ar;exact mC (fn:=81) (args:=[.string Ae]) (by simp[kV]) x λx=>afF c rg x
  .show((jy now S).map _).length<=_;have:=s8.few.len;have:=Dw (now:=now) (S:=S);rw[alL];omega
 -- ajk
 .refine⟨λS=>OB S now A,p8 hf aJ aw λkr hs s8 aU x=>ag7 x kr hs,r8 (N:=Ab) (lo:=0) (hi:=0) (by simp[jB]) hN aJ aw (λS h=>yA h) λar c s8 rg aU x=>?_,λS s8 _=>Sh.a0 (Sh.nil dW)⟩;obtain rfl:=Aj ar;exact mC (fn:=81) (args:=[.string Ab]) (by simp[kV]) x λx=>afT c rg x
 -- ajn
 .refine⟨λS=>IB S A,p8 hf aJ aw λkr hs s8 aU x=>aat x kr hs (by have:=s8.few.len;omega),r8 (N:=Ac) (lo:=0) (hi:=0) (by simp[jB]) hN aJ aw (λS h=>yA h) λar c s8 rg aU x=>?_,λS s8 _=>Sh.a0 ⟨ak8 _,.inr ⟨by show(S.map _).length<=_;have:=s8.few.len;rw[alL];omega,λe he=>?_⟩,Gw λ_ _=>qW⟩⟩
  .obtain rfl:=Aj ar;exact mC (fn:=81) (args:=[.string Ac]) (by simp[kV]) x λx=>afh c rg x
  .obtain⟨p,_,rfl⟩:=alF.1 he;rfl
end
end Go.Proofs.YtocgmipngoiieaaGreatDoor
namespace Go.Proofs.YtocgmipngoiieaaGreatDoor
open Go Go.Sx C
def RU:∀{L:List (List UInt8×Nat)}{w:BA}{g:Nat},kP L w=some g->∃n,(n,g)∈L∧w=kD n
 |[],w,g,h=>by cases h
 |(n,g')::L,w,g,h=>by
  simp only[kP]at h;split at h
  .rename_i hw;cases h;exact⟨n,Yy,hw⟩
  .obtain⟨n',h1,h2⟩:=RU h;exact⟨n',alr _ h1,h2⟩
def RR:∀{L:List (List UInt8×Nat)}{w:BA},kP L w=none->∀n∈L.map Prod.fst,w≠kD n
 |[],w,h,n,hn=>(nomatch hn)
 |(n',g')::L,w,h,n,hn=>by
  simp only[kP]at h;split at h
  .cases h
  .rename_i hw;rcases ak3.1 hn with rfl|hn
   .exact hw
   .exact RR h n hn
section
variable {S:aH}{now:Int}{w N:BA}{A:List BA}
def WX{g:Nat}(aJ:w.size<=300)(aw:A.length<=19)(hz:∀a∈A,a.size<=300)(hf:kP ala (up w)=some g):∃res:aH->aM,fU now (w::A) res:=by
 obtain⟨n,hm,hN⟩:=RU hf;clear hf;simp only[ala,ak3,aof,amU,anF]at hm;rcases hm with⟨rfl,_⟩|⟨rfl,_⟩|⟨rfl,_⟩|⟨rfl,_⟩|⟨rfl,_⟩|⟨rfl,_⟩|⟨rfl,_⟩|⟨rfl,_⟩|⟨rfl,_⟩|⟨rfl,_⟩|⟨rfl,_⟩|⟨rfl,_⟩|⟨rfl,_⟩|⟨rfl,_⟩|⟨rfl,_⟩|⟨rfl,_⟩|⟨rfl,_⟩|⟨rfl,_⟩|⟨rfl,_⟩|⟨rfl,_⟩|⟨rfl,_⟩|⟨rfl,_⟩|⟨rfl,_⟩|⟨rfl,_⟩|⟨rfl,_⟩|⟨rfl,_⟩|⟨rfl,_⟩|⟨rfl,_⟩
 .exact⟨_,aic hN aJ aw hz⟩
 .exact⟨_,ah9 hN aJ aw hz⟩
 .exact⟨_,ah8 hN aJ aw hz⟩
 .exact⟨_,aib hN aJ aw hz⟩
 .exact⟨_,ah' hN aJ aw hz⟩
 .exact⟨_,aia hN aJ aw hz⟩
 .exact⟨_,aih hN aJ aw hz⟩
 .exact⟨_,ail hN aJ aw hz⟩
 .exact⟨_,aif hN aJ aw hz⟩
 .exact⟨_,aik hN aJ aw hz⟩
 .exact⟨_,aie hN aJ aw hz⟩
 .exact⟨_,aid hN aJ aw hz⟩
 .exact⟨_,aii hN aJ aw hz⟩
 .exact⟨_,aij hN aJ aw hz⟩
 .exact⟨_,aim hN aJ aw hz⟩
 .exact⟨_,air hN aJ aw hz⟩
 .exact⟨_,aip hN aJ aw hz⟩
 .exact⟨_,ain hN aJ aw hz⟩
 .exact⟨_,aiq hN aJ aw hz⟩
 .exact⟨_,aio hN aJ aw hz⟩
 .exact⟨_,ais hN aJ aw hz⟩
 .exact⟨_,aiy hN aJ aw hz⟩
 .exact⟨_,aiz hN aJ aw hz⟩
 .exact⟨_,aiu hN aJ aw hz⟩
 .exact⟨_,ait hN aJ aw hz⟩
 .exact⟨_,aix hN aJ aw hz⟩
 .exact⟨_,aiv hN aJ aw hz⟩
 .exact⟨_,aiw hN aJ aw hz⟩
def ae2(bw:kP ala N=none)(h:af):aj Tryz.prog 50 [.string N] h (ao λr h'=>r=.tuple #[.int .i64 0,.int .i64 0,.int .i64 0,.int .i64 0,.bool false]∧h'=h):=by
 have ne:∀n∈ala.map Prod.fst,N≠kD n:=RR bw;refine f50.c ?_
 repeat refine Ai (λhe=>absurd he (ne _ Dd)) (λ_=>?_)
 exact⟨Y,Y⟩
def TZ{h:af}{kv nv:Value}{a:Option Addr}{cc:Nat}:aj Tryz.prog 23 [kv,nv,.slice a 0 cc] h (ao λr h'=>r=kR∧ag [] h h'):=by
 refine f23.c ?_;intro b6 h1 g1;have w1:=(St.start h).new g1;refine Ai Y (Ai (λ_=>w1.st1 0 Y Y Y Y λh2 w=>?_) (λh0=>absurd Y h0));exact⟨_,Y,akW (w.get 0 Y),Y,w.ae⟩
def T8{h:af}{kv av:Value}(hA:SL encS h av (w::A))(aw:A.length+1<=20)(pW:w.size<=300)(bw:kP ala (up w)=none):aj Tryz.prog 23 [kv,.int .i64 now,av] h (ao λr h'=>r=kR∧ag [] h h'):=by
 obtain⟨a,cc,rfl,ie⟩:=hA.form;obtain⟨b0,o0,rfl⟩:=hA.addr Yy;have hl:(w::A).length<=20:=aw;refine f23.c ?_;intro b6 h1 g1;have w1:=(St.start h).new g1;refine Ai Y (Ai (λh0=>absurd h0 Ys) (λ_=>?_));have hc0:=(hA.ext w1.ae).cells bj (i:=0) (x:=w) Yy;refine Ai Dd (Ai Yy (Ei _ (Ai (by simpa using hc0 0 _ Y) ?_)));refine w1.aV (AG V) λh2 w2=>dN (ae2 bw h2)<|w2.st1 0 Y Y Y Y λh3 w=>?_;exact⟨_,Y,akW (w.get 0 Y),Y,w.ae⟩
def NN(now:Int)(AA:List BA):Prop:=∀{h:af}{kb sb mb c:Nat}{m:List KI}{av:Value},KR h kb sb mb c m->SL encS h av AA->aj Tryz.prog 112 [ptr kb,.int .i64 now,av] h (ao λr h'=>r=kR∧ag [] h h')
def NO(now:Int)(AA:List BA):Prop:=∀{h:af}{kv av:Value},SL encS h av AA->aj Tryz.prog 23 [kv,.int .i64 now,av] h (ao λr h'=>r=kR∧ag [] h h')
def WR{AA:List BA}(aw:AA.length<=20)(hz:∀a∈AA,a.size<=300):(NN now AA∧NO now AA)∨∃res:aH->aM,fU now AA res:=by
 match AA,aw,hz with
 |[],_,_=>
  refine .inl ⟨λ{h kb sb mb c m av}kr hA=>?_,λ{h kv av}hA=>?_⟩
  .obtain⟨a,cc,rfl,_⟩:=hA.form;exact amk
  .obtain⟨a,cc,rfl,_⟩:=hA.form;exact TZ
 |w::A,aw,hz=>
  have aw:A.length+1<=20:=aw;have pW:=hz w Yy;cases hf:kP ala (up w)with
  |none=>exact .inl ⟨λ{h kb sb mb c m av}kr hA=>aml kr hA (by simp only[ak0];omega) V hf,λ{h kv av}hA=>T8 hA aw pW hf⟩
  |some g=>exact .inr (WX pW V (λa ha=>hz a (alr _ ha)) hf)
end
end Go.Proofs.YtocgmipngoiieaaGreatDoor
namespace Go.Proofs.YtocgmipngoiieaaGreatDoor
open Go Go.Sx C
structure TN (t:aB):Prop where
 tx:t.text.size<=1048576
 un:cy t.bQ
 ps:∀p∈t.pairs,p.name.size<=1048576∧p.text.size<=1048576
 ls:∀x∈t.list,x.size<=1048576
 rs:∀r∈t.ranks,r.name.size<=1048576∧cy r.score
def A5(S:aH):Prop:=∀p∈S,TN p.2∧1<=p.2.kind∧p.2.kind<=5
def TN.zero{k:Int}:TN {aL with kind:=k}:=⟨ak8 _,⟨by show(-9223372036854775808:Int)<=0;decide,by show(0:Int)<=_;decide⟩,λp hp=>(nomatch hp),λp hp=>(nomatch hp),λp hp=>(nomatch hp)⟩
def Yz{t:aB}{e:aA}(f:TN t)(h1:e.name.size<=1048576)(h2:e.text.size<=1048576)(hn:cy e.num):TN (bm t e).1:=by
 refine BT (P:=λr=>TN r.1) TN.zero ⟨h2,⟨by show(-9223372036854775808:Int)<=0;decide,by show(0:Int)<=_;decide⟩,λp hp=>(nomatch hp),λp hp=>(nomatch hp),λp hp=>(nomatch hp)⟩ ⟨f.tx,hn,f.ps,f.ls,f.rs⟩ ⟨f.tx,⟨by show(-9223372036854775808:Int)<=0;decide,by show(0:Int)<=_;decide⟩,f.ps,f.ls,f.rs⟩
  (λ_=>⟨f.tx,f.un,λp hp=>?_,f.ls,f.rs⟩) (λ_=>⟨f.tx,f.un,λp hp=>f.ps p (amb.1 hp).1,f.ls,f.rs⟩)
  (λ_=>⟨f.tx,f.un,f.ps,λx hx=>?_,f.rs⟩) (λ_=>⟨f.tx,f.un,f.ps,λx hx=>?_,f.rs⟩)
  ⟨f.tx,f.un,f.ps,λx hx=>f.ls x (List.mem_of_mem_tail hx),f.rs⟩ ⟨f.tx,f.un,f.ps,λx hx=>f.ls x ((aoi _).subset hx),f.rs⟩
  (λ_=>⟨f.tx,f.un,f.ps,λx hx=>?_,f.rs⟩) f ⟨f.tx,f.un,f.ps,λx hx=>?_,f.rs⟩ ⟨f.tx,f.un,f.ps,λx hx=>f.ls x (amb.1 hx).1,f.rs⟩
  (λ_=>⟨f.tx,f.un,f.ps,f.ls,λx hx=>?_⟩) (λ_=>⟨f.tx,f.un,f.ps,f.ls,λx hx=>f.rs x (amb.1 hx).1⟩) f
 .rcases q8 hp with rfl|h
  .exact⟨h1,h2⟩
  .exact f.ps p h.1
 .rcases ak3.1 hx with rfl|h
  .exact h2
  .exact f.ls x h
 .rcases alf.1 hx with h|h
  .exact f.ls x h
  .rw[alE.1 h];exact h2
 .rcases an3 hx with h|rfl
  .exact f.ls x h
  .exact h2
 .rcases q8 hx with rfl|h
  .exact h1
  .exact f.ls x h.1
 .rcases q8 hx with rfl|h
  .exact⟨h1,hn⟩
  .exact f.rs x h.1
def Yx{t:aB}{e:aA}:(bm t e).1.kind=t.kind∨(bm t e).1.kind=1∨(bm t e).1=aL:=by
 refine BT (P:=λr=>r.1.kind=t.kind∨r.1.kind=1∨r.1=aL) (.inr (.inr Y)) (.inr (.inl Y)) ?_ ?_ (λ_=>?_) (λ_=>?_) (λ_=>?_) (λ_=>?_) ?_ ?_ (λ_=>?_) ?_ ?_ ?_ (λ_=>?_) (λ_=>?_) ?_
 all_goals exact .inl Y
def ac1{c:Prop}[Decidable c]{a r:ib}{b:Option ib}{P:Prop}(h:(if c then some a else b)=some r)(h1:c->a=r->P)(h2:b=some r->P):P:=by
 split at h
 .exact h1 (by assumption) (amu h)
 .exact h2 h
def afY{op:Int}{r:ib}(h:fD op=some r)(hm:r.makes≠false):(1<=r.kind∧r.kind<=5)∨op=2:=by
 unfold fD at h
 iterate 15 refine ac1 h (λhc he=>by subst he;first|exact .inr hc|exact absurd Y hm|exact .inl ⟨Dd,Dd⟩) (λh=>?_)
 cases h
def Po{t t':aB}{e:aA}{there full:Bool}(f:TN t)(h1:e.name.size<=1048576)(h2:e.text.size<=1048576)(hn:cy e.num)(hk:(1<=t.kind∧t.kind<=5)∨e.op=2)(h:d' (bm t e) there full=.put t'):TN t'∧1<=t'.kind∧t'.kind<=5:=by
 obtain⟨rfl,_,_,h4,_⟩:=FC h;refine⟨Yz f h1 h2 hn,?_⟩;have h7:e.op=2->(bm t e).1.kind=1:=λh=>by unfold bm;rw[akZ V,ak4 h];rfl
 rcases hk with hk|hk
 .rcases Yx (t:=t) (e:=e)with h5|h5|h5
  .rw[h5];exact hk
  .rw[h5];exact⟨Dd,Dd⟩
  .rw[h5]at h4;rcases h4 with h4|h4
   .exact absurd h4 Dd
   .exact absurd Y h4
 .rw[h7 hk];exact⟨Dd,Dd⟩
def G1{S:aH}{e:aA}{full:Bool}{t:aB}(h:iq (eu S e.key) e full=.put t):(e.name.size<=1048576∧e.text.size<=1048576∧e.key.size<=1048576)∧∃t0 there,d' (bm t0 e) there full=.put t∧((∃r,fD e.op=some r∧r.makes≠false∧t0={aL with kind:=r.kind})∨(e.key,t0)∈S):=by
 unfold iq at h;cases hr:fD e.op with
 |none=>rw[hr]at h;cases h
 |some r=>
  rw[hr]at h;simp only at h;split at h
  .cases h
  split at h
  .cases h
  refine⟨⟨V,V,V⟩,?_⟩;cases ho:eu S e.key with
  |none=>
   rw[ho]at h;simp only at h;split at h
   .cases h
   .rename_i hm;exact⟨_,_,h,.inl ⟨r,Y,hm,Y⟩⟩
  |some t0=>
   rw[ho]at h;simp only at h;split at h
   .cases h
   .exact⟨_,_,h,.inr (uL ho)⟩
def aae{S:aH}{e:aA}(hi:A5 S)(hn:cy e.num):A5 ((dy S e).space S e.key):=by
 unfold dy;cases hf:iq (eu S e.key) e (decide (65536<=S.length))with
 |no n=>exact hi
 |drop=>exactλp hp=>hi p (xA.1 hp).1
 |put t=>
  intro p hp;rcases zZ.1 hp with rfl|⟨hp,_⟩
  rotate_left
  .exact hi p hp
  obtain⟨⟨h1,h2,_⟩,t0,there,h3,⟨r,hr,hm,rfl⟩|h4⟩:=G1 hf
  .exact Po TN.zero h1 h2 hn (afY hr hm) h3
  .exact Po (hi _ h4).1 h1 h2 hn (.inl (hi _ h4).2) h3
def sC(C:Nat)(S:aH):Prop:=∀p∈S,dX p.2<=C
def Z7{C:Nat}{S:aH}{e:aA}(hi:sC C S):sC (C+1) ((dy S e).space S e.key):=by
 unfold dy;cases hf:iq (eu S e.key) e (decide (65536<=S.length))with
 |no n=>exactλp hp=>aoD (hi p hp)
 |drop=>exactλp hp=>aoD (hi p (xA.1 hp).1)
 |put t=>
  intro p hp;rcases zZ.1 hp with rfl|⟨hp,_⟩
  rotate_left
  .exact aoD (hi p hp)
  obtain⟨_,t0,there,h3,h4⟩:=G1 hf;obtain⟨rfl,_⟩:=FC h3;refine al6 I8 (Nat.succ_le_succ ?_);rcases h4 with⟨r,_,_,rfl⟩|h4
  .exact ak8 _
  .exact hi _ h4
def Z'{C:Nat}{S:aH}{e:aA}(hi:sC C S)(he:e.op=1):sC C ((dy S e).space S e.key):=by
 unfold dy;cases hf:iq (eu S e.key) e (decide (65536<=S.length))with
 |no n=>exact hi
 |drop=>exactλp hp=>hi p (xA.1 hp).1
 |put t=>
  obtain⟨_,t0,there,h3,_⟩:=G1 hf;obtain⟨rfl,_,_,h4,_⟩:=FC h3;rw[show(bm t0 e).1=aL by unfold bm;rw[ak4 he]]at h4;rcases h4 with h4|h4
  .exact absurd h4 Dd
  .exact absurd Y h4
def Ob:∀{E:List aA}{C:Nat}{S:aH},sC C S->sC (C+E.length) (eK S E).1
 |[],C,S,hi=>hi
 |e::E,C,S,hi=>by
  by_cases hz:(dy S e).num=0
  .rw[yy hz];have h9:=Ob (E:=E) (Z7 (e:=e) hi);exactλp hp=>al6 (h9 p hp) (by simp only[ak0];omega)
  .rw[yx hz];exactλp hp=>al6 (hi p hp) (Nat.le_add_right _ _)
def Oc:∀{E:List aA}{C:Nat}{S:aH},sC C S->(∀e∈E,e.op=1)->sC C (eK S E).1
 |[],C,S,hi,_=>hi
 |e::E,C,S,hi,he=>by
  by_cases hz:(dy S e).num=0
  .rw[yy hz];exact Oc (Z' hi (he e Yy)) λx hx=>he x (by simp[hx])
  .rw[yx hz];exact hi
def Oe:∀{E:List aA}{S:aH},A5 S->nL E->A5 (eK S E).1
 |[],S,hi,_=>hi
 |e::E,S,hi,hn=>by
  by_cases hz:(dy S e).num=0
  .rw[yy hz];exact Oe (aae hi (hn e Yy)) λx hx=>hn x (by simp[hx])
  .rw[yx hz];exact hi
structure Inv (n:Nat) (S:aH):Prop where
 few:yj S
 nice:A5 S
 cnt:sC (120+45*n) S
def Inv.s8{n:Nat}{S:aH}(i:Inv n S):S8 S:=
 ⟨i.few,λp hp=>(i.nice p hp).2,λp hp=>by have:=(i.nice p hp).1.tx;omega,λp hp=>(i.nice p hp).1.un,λp hp=>⟨λx hx=>by have:=((i.nice p hp).1.ps x hx).1;omega,λx hx=>by have:=(i.nice p hp).1.ls x hx;omega,λx hx=>by have:=((i.nice p hp).1.rs x hx).1;omega⟩⟩
def Inv.s9{n:Nat}{S:aH}(i:Inv n S)(hn:n<=30):S9 S:=λp hp=>by
 have h1:=i.cnt p hp;have h2:=(i.nice p hp).1;unfold dX at h1;exact⟨V,V,V,λx hx=>(h2.ps x hx).2,λx hx=>(h2.rs x hx).2,λx hx=>(h2.rs x hx).1,h2.ls⟩
def Inv.step{n:Nat}{S:aH}{E:List aA}(i:Inv n S)(hE:E.length<=45∨E.length<=100000∧∀e∈E,e.op=1)(hi:nL E)(f:yj (eK S E).1):Inv (n+1) (eK S E).1:=by
 refine⟨f,Oe i.nice hi,?_⟩;rcases hE with hE|⟨_,hE⟩
 .exactλp hp=>al6 (Ob i.cnt p hp) V
 .exactλp hp=>al6 (Oc i.cnt hE p hp) V
def Inv.more{n:Nat}{S:aH}(i:Inv n S):Inv (n+1) S:=⟨i.few,i.nice,λp hp=>al6 (i.cnt p hp) V⟩
def Fl{h h':af}{l:Nat}{r:Loop}{st:LoopState}{q:Option Go.Code}(hl:jR h l r st q)(hc:ag [l] h h'):CH h h':=by
 have ha:=hl.at_;refine⟨λb k hb=>hb.ae hc ?_,λb o v hv=>sI hv hc ?_⟩
 .simp;rintro rfl;obtain⟨e,he⟩:=hb;rw[he]at ha;cases ha
 .simp;rintro rfl;unfold Sx.cell at hv;rw[ha]at hv;cases hv
def KR.ch{h h':af}{kb sb mb c:Nat}{m:List KI}(x:KR h kb sb mb c m)(hc:CH h h')(hm:h'[mb]? =h[mb]?):KR h' kb sb mb c m:=by
 refine⟨x.ks.ch hc,?_,λi hi=>?_,x.nodup,x.born,x.nR,x.keys,x.len⟩
 .show h'[mb]? =_;rw[hm];exact x.map
 .obtain⟨h1,h2,h3⟩:=x.here i hi;exact⟨hc.blk _ _ h1,h2.ch hc,h3⟩
def KR.MW{h h':af}{kb sb mb c l:Nat}{m:List KI}{r:Loop}{st:LoopState}{q:Option Go.Code}(x:KR h kb sb mb c m)(hl:jR h l r st q)(hc:ag [l] h h'):KR h' kb sb mb c m:=by
 refine x.ch (Fl hl hc) (hc.old mb (lA x.map) ?_);simp;rintro rfl;have h1:h[mb]? =_:=x.map;rw[hl.at_]at h1;cases h1
def aeM{m:List KI}{W:List (BA×aB)}{k:Nat}(h:m.map KI.pr=W.take k)(hu:W.Pairwise λa b=>aP a.1 b.1=true)(hk:k<W.length):∀i∈m,i.key≠W[k].1:=by
 intro i hi e;have:i.pr∈W.take k:=by rw[<-h];exact als hi
 obtain⟨j,hj,sY⟩:=amS this;rw[alA]at hj;rw[anl]at sY;have ah:=am5.1 hu j k V hk V;rw[sY]at ah;rw[show i.pr.1=i.key from Y,e,qj]at ah;cases ah
def Wa{h:af}{kb sb mb c:Nat}{m:List KI}{W:List (BA×aB)}(kr:KR h kb sb mb c m)(hW:bT m W):aj Tryz.prog 67 [ptr kb] h (ao λr h'=>∃oX xT dH c2 m2,r=ptr oX∧KR h' oX xT dH c2 m2∧bT m2 W∧h.size<=dH∧ag [] h h'):=by
 have hWl:W.length<=65536:=by
  have:=HE kr.nodup hW;have:=kr.len;omega
 refine f67.c<|akV (q9 kr.ks) ?_;rintro _ h9 ⟨rfl,e9⟩;have e9:=e9.symm;subst e9;refine akV Ic ?_;rintro _ h1 ⟨oX,xT,dH,rfl,ks2,nc,YJ,esb,ekb,bd⟩;intro b3 h2 g2;refine Ei _ (Ai g2.blk (Ai Dd (Ai Y (Ai (cM Y) ?_))));intro h3 p3;have g3:=g2.put p3;have B3:ai h3 b3 [ptr oX]:=p3.blk;have bB:ag [] h h3:=bd.nil g3.ae;have Rv:KR h3 oX xT dH 0 []:=KR.ext ⟨ks2,nc,Yy,Yy,Yy,Yy,Yy,Yy⟩ g3.ae;refine akV (AV (h:=h3)) ?_;rintro _ h4 ⟨b1,rfl,g4⟩;have dw:ag [] h h4:=bB.nil g4.ae;have jO:ai h4 b1 [ptr kb]:=g4.blk;have ye:=B3.ae g4.ae Yy;have mw:=Rv.ext g4.ae;have z1:=bd.size;have l3:=ye.lt;have z0:=dw.size;have i4:=g4.id;have z4:=g4.size;have hm3:dH<h3.size:=lA Rv.map;have rS:dH<h4.size:=lA mw.map;intro l2 D1 r h7 hD CK aS hold wT wQ hy;have kK:ag [] h4 h7:=⟨V,λk hk _=>hold k hk⟩
 have zf:=dw.nil kK;refine(Gz hW (λp k h'=>A8 h l2 D1 b1 kb r p h'∧ai h' b3 [ptr oX]∧∃c2 m2,KR h' oX xT dH c2 m2∧m2.map KI.pr=W.take k) (λ_=>False) (jO.ae kK Yy) (kr.ext zf) (λp h' hC eg hc=>?_) (λp k h' j=>⟨j.1.b1,kr.ext j.1.ae⟩)
  (λp k h' bq j hc=>⟨j.1.ext hc,j.2.1.ae hc Yy,let⟨c2,m2,k2,e2⟩:=j.2.2;⟨c2,m2,k2.ext hc,e2⟩⟩) (λp k h' us hk j tu=>?_)).mono ?_
 .exact⟨⟨tO wQ hc Yy,oI wT hc Yy,(jO.ae kK Yy).ae hc Yy,zf.nil hc,V,eg⟩,(ye.ae kK Yy).ae hc Yy,0,[],(mw.ext kK).ext hc,Y⟩
 .obtain⟨j,j3,c2,m2,k2,e2⟩:=j;have fQ:=j.lt;have C0:=j.pn;have Ct:=j.ae;have oR:l2<h'.size:=lA j.loop.at_;have Qy:dH<h'.size:=lA k2.map;have ko:m2.length=k:=by
   have:=alC List.length e2;simp at this;omega
  have hWk:W[k]∈m.map KI.pr:=(hW.mem _).1 (ak9 hk);obtain⟨i,hi,sX⟩:=alF.1 hWk;have rQ:j' W[k].2:=by
   have:=(kr.here i hi).2.2;rw[<-sX];exact this
  have mj:W[k].1.size<=1048576:=by
   have:=kr.keys i hi;rw[<-sX];exact this
  refine hy h' _ _ j.loop Y ?_;intro b5 h8 g8;refine Ei _ (Ai g8.blk (Ai Dd (Ai tu.len (Ai (dB tu) ?_))));intro h9 p9;have g9:=g8.put p9;have B9:ai h9 b5 us:=by
   have h9:ai h9 b5 (splice zeroV 0 us):=p9.blk;rw[seven Y tu.len]at h9;exact h9
  have L9:jR h9 l2 r .ready none:=tO j.loop g9.ae Yy;refine Ai L9 (λbp t10=>?_);have IV:ag [l2] h9 bp:=t10.ae;have IS:=Fl L9 IV;have VR:=IS.blk _ _ B9;have Nr:ai bp b3 [ptr oX]:=IS.blk _ _ (j3.ae g9.ae Yy);have Dq:=(k2.ext g9.ae).MW L9 IV;refine Ei _ (Ai (an Nr Y) (Ei _ (Ai (an Dq.ks.k Y) (Ei _ (Ai (an Dq.ks.s Y) ?_)))));have bw:=aeM e2 hW.up hk;have eS:bH (.string W[k].1) (m2.map KI.ent) 0=none:=by
   rcases xB W[k].1 m2 0 with⟨h1,_⟩|⟨q,i',_,hq,QR⟩
   .exact h1
   .exact absurd QR (bw i' (al9 hq))
  refine Ai Y (Ei (m2.map KI.ent) (Ei c2 (Ai Dq.map (Ai (sK m2) ?_))));rw[eS];intro dO p11;have ac7:=Dq.put p11 bw mj VR ((tu.ext g9.ae).ch IS) rQ V;have yk:jR dO l2 r .busy none:=tO t10.alM p11.ae Ys;have VS:ai dO b3 [ptr oX]:=(BG Dq.map p11).blk _ _ Nr;refine Ai yk (λcO t12=>?_);have iO:ag [l2,dH] h' dO:=by
   have c9:ag [l2,dH] h' h9:=g9.ae.mono Yy;have c8:ag [l2,dH] h' bp:=c9.trans IV (λ_ hx=>hx) (λx hx _=>by simp at hx;simp[hx]);exact c8.trans p11.ae (λx hx=>hx) (λx hx _=>by simp at hx;simp[hx])
  have c12:ag [l2,dH] h' cO:=iO.trans t12.ae (λ_ hx=>hx) (λx hx _=>by simp at hx;simp[hx]);refine .inl ⟨Y,⟨⟨t12.alM,oI j.mark c12 Ys,(j.b1).ae c12 Ys,Ct.fresh c12 Ys,fQ,by have:=c12.size;omega⟩,(Fl yk t12.ae).blk _ _ VS,_,_,ac7.MW yk t12.ae,?_⟩,?_⟩
  .rw[alD,e2,iL W k hk];rfl
  .exact c12.old p C0 Ys
 .intro e h8 he;cases e with
  |panicked ch=>exact he.elim
  |outgrown=>exact he.elim
  |returned u=>
   rcases he with⟨p,j,j3,c2,m2,k2,e2⟩|hF
   rotate_left
   .exact hF.elim
   rw[alm]at e2;have Ct:=j.ae;refine⟨.ready,none,j.loop,Yy,λh9 t9=>?_⟩;have XG:=Fl j.loop t9.ae;have jC:ag [] h h9:=Ct.fresh t9.ae Ys;have Ro:=k2.MW j.loop t9.ae;have HZ:=XG.blk _ _ j3;have qD:h9[D1]? =some (.deferred (some [])):=oI j.mark t9.ae Ys;refine Ei _ (Ai (an HZ Y)<|Ai qD (λbp jn=>?_));have hd:D1<h9.size:=lA qD;have XH:CH h9 bp:=by
    have pc:ag [D1] h9 bp:=jn.ae;refine⟨λb l hb=>hb.ae pc ?_,λb o v hv=>sI hv pc ?_⟩
    .simp;rintro rfl;obtain⟨e,he⟩:=hb;rw[he]at qD;cases qD
    .simp;rintro rfl;unfold Sx.cell at hv;rw[qD]at hv;cases hv
   have kE:KR bp oX xT dH c2 m2:=Ro.ch XH (jn.ae.old dH (lA Ro.map) Ys);exact⟨oX,xT,dH,c2,m2,Y,kE,⟨hW.up,λq=>by rw[e2]⟩,V,jC.fresh jn.ae Ys⟩
variable{b3 b5:Nat}{h h0:af}{kb mb sb:Nat}
def qo(z:Nat)(i:KI):Prop:=z<=i.tb∧∀v∈i.vs,∀b∈aq v,z<=b
def qo.mono{z z':Nat}{i:KI}(h:qo z i)(hz:z'<=z):qo z' i:=⟨al6 hz h.1,λv hv b hb=>al6 hz (h.2 v hv b hb)⟩
def mL(h0:af)(kb sb mb:Nat)(key:BA)(m:List KI)(f:oz)(r:Value)(h':af):Prop:=
 r=.int .i64 f.num∧∃c' m',(KR h' kb sb mb c' m'∧∀i∈m',i∈m∨qo h0.size i)∧yi key m m' f∧ag [mb] h0 h'
def vt{h':af}{c:Nat}{key:BA}{m:List KI}{n:Int}(kr:KR h0 kb sb mb c m)(c0:ag [] h0 h'):mL h0 kb sb mb key m (.no n) (.int .i64 n) h':=
 ⟨Y,c,m,⟨kr.ext c0,λi hi=>.inl hi⟩,Y,c0.mono Yy⟩
def SN{c b7:Nat}{m:List KI}{e:aA}{r:ib}{t:aB}{there:Bool}{pv lv rv:Value}(kr:KR h0 kb sb mb c m)(c0:ag [] h0 h)(B3:ai h b3 (cf e))(B5:ai h b5 (DZ r))(T7:ai h b7 (bg t pv lv rv))(o7:TO h pv lv rv t)(h7:b7∉bk pv lv rv)(f7:h0.size<=b7)(fb:∀b∈bk pv lv rv,h0.size<=b)(h3:b3∉b7::bk pv lv rv)(gd:fG t)(hd:kY r.f t e)(mj:e.key.size<=1048576)(ht:if there=true then∃i∈m,i.key=e.key else∀i∈m,i.key≠e.key):swp Tryz.prog f68.sc.r.r.r.r.r.r
   (cC [.t 4] (ao (mL h0 kb sb mb e.key m (d' (bm t e) there (decide (65536<=m.length)))))) (mk [(0,ptr kb),(3,ptr b3),(5,ptr b5),(7,ptr b7),(8,.bool there)]) [] h:=by
 have hle:=c0.size;have XR:=I8 (t:=t) (e:=e);have XE:=gd.few;refine Ei _ (Ai (an B5 Y)<|Ei (cf e) (Ai Y (Ai (akW B3)<|akV (hd h b7 pv lv rv T7 o7 h7) ?_)));rintro _ h6 ⟨rfl,aN,c6⟩;have c06:ag [] h0 h6:=c0.fresh c6 (λk hk=>by
  rcases ak3.1 hk with rfl|hk
  .exact f7
  .exact fb k hk)
 generalize iW:bm t e=res at*;refine Bi (λax=>?_) λax=>?_
 .have ef:d' res there (decide (65536<=m.length))=.no res.2:=by unfold d';rw[ak4 ax]
  rw[ef];exact vt kr c06
 have hz:res.2=0:=amx.1 ax;obtain⟨ws,W6,x6,hws⟩:=aN hz;have bC:∀{k:BA}{t':aB}{c:Nat},qo h0.size ⟨k,b7,ws,t',c⟩:=⟨f7,λv hv b hb=>by
  rcases hws v hv b hb with h|h
  .exact fb b h
  .omega⟩
 have Rw:=kr.ext c06;have Ns:=B3.ae c6 h3;obtain⟨dQ,aY,dV,Q9,sp,sl,sr⟩:=x6;have x6:TH h6 ws res.1:=⟨dQ,aY,dV,Q9,sp,sl,sr⟩
 have rQ:j' res.1:=by
  unfold dX at XR XE;exact⟨V,V,V⟩
 have K6:cell h6 b7 0=some (.int .i64 res.1.kind):=by
  refine an W6 ?_;rw[Q9];rfl
 have YC:res.1.kind≠1∧dX res.1=0->∀(h8:af),ag [] h6 h8->
   swp Tryz.prog f68.sc.r.r.r.r.r.r.r.l.l.r (qw 1 (fc (swp Tryz.prog f68.sc.r.r.r.r.r.r.r.r (cC [.t 4] (ao (mL h0 kb sb mb e.key m (d' res there (decide (65536<=m.length))))))) (cC [.t 4] (ao (mL h0 kb sb mb e.key m (d' res there (decide (65536<=m.length)))))))) (mk [(0,ptr kb),(3,ptr b3),(7,ptr b7),(8,.bool there),(106,.bool true)]) [] h8:=by
  intro uT h8 c8;have ef:d' res there (decide (65536<=m.length))=.drop:=by unfold d';rw[akZ ax,ak4 uT]
  rw[ef];have kr8:=Rw.ext c8;have HY:=Ns.ae c8 Yy;refine Ei _ (Ai (an kr8.ks.k Y) (Ei _ (Ai (an kr8.ks.s Y)<|Ei _ (Ai (an HY Y)<|Ai Y (Ei (m.map KI.ent) (Ei c (Ai kr8.map (Ai (sK m) ?_))))))));rcases xB e.key m 0 with⟨eS,bw⟩|⟨j,i,eS,hj,iV⟩
  .rw[eS];intro h9 p9;refine Ai Y (Ei c (Ei m (Ai ?_ (Ai (aaf bw) (((c06.nil c8).mono Yy).step p9.ae Yy)))));have ch:=BG kr8.map p9;exact⟨⟨kr8.ks.ch ch,p9.blk,λy hy=>let⟨a1,a2,a3⟩:=kr8.here y hy;⟨ch.blk _ _ a1,a2.ch ch,a3⟩,kr8.nodup,kr8.born,kr8.nR,kr8.keys,kr8.len⟩,λi hi=>.inl hi⟩
  .rw[eS,amJ];intro h9 p9;refine Ai Y (Ei c (Ei (m.eraseIdx j) (Ai ⟨kr8.erase p9,λi hi=>.inl (List.mem_of_mem_eraseIdx hi)⟩ (Ai ?_ (((c06.nil c8).mono Yy).step p9.ae Yy)))));rw[<-iV];exact Z8 kr8.nodup hj
 have Ue:¬(res.1.kind≠1∧dX res.1=0)->∀(h8:af),ag [] h6 h8->
   swp Tryz.prog f68.sc.r.r.r.r.r.r.r.l.l.r (qw 1 (fc (swp Tryz.prog f68.sc.r.r.r.r.r.r.r.r (cC [.t 4] (ao (mL h0 kb sb mb e.key m (d' res there (decide (65536<=m.length))))))) (cC [.t 4] (ao (mL h0 kb sb mb e.key m (d' res there (decide (65536<=m.length)))))))) (mk [(0,ptr kb),(3,ptr b3),(7,ptr b7),(8,.bool there),(106,.bool false)]) [] h8:=by
  intro uT h8 c8;have kr8:=Rw.ext c8;have HY:=Ns.ae c8 Yy;have W8:=W6.ae c8 Yy;have x8:=x6.ext c8;refine Ei ws (Ai x8.len (Ai (akW W8)<|akV (Fp x8 rQ) ?_));rintro _ h9 ⟨rfl,c9⟩;have qX:=kr8.ext c9;have HZ:=HY.ae c9 Yy;have W9:=W8.ae c9 Yy;have x9:=x8.ext c9;have E2:=(c06.nil c8).nil c9;have last:¬(65536<dX res.1∨(there=false∧decide (65536<=m.length)=true))->
    swp Tryz.prog f68.sc.r.r.r.r.r.r.r.l.l.r.r.r (qw 1 (fc (swp Tryz.prog f68.sc.r.r.r.r.r.r.r.r (cC [.t 4] (ao (mL h0 kb sb mb e.key m (d' res there (decide (65536<=m.length))))))) (cC [.t 4] (ao (mL h0 kb sb mb e.key m (d' res there (decide (65536<=m.length)))))))) (mk [(0,ptr kb),(3,ptr b3),(7,ptr b7),(8,.bool there),(124,.bool false)]) [] h9:=by
   intro uR;have ef:d' res there (decide (65536<=m.length))=.put res.1:=by unfold d';rw[akZ ax,akZ uT,akZ uR]
   rw[ef];refine Ei _ (Ai (an qX.ks.k Y) (Ei _ (Ai (an qX.ks.s Y)<|Ei _ (Ai (an HZ Y)<|Ai Y (Ei (m.map KI.ent) (Ei c (Ai qX.map (Ai (sK m) ?_))))))));rcases xB e.key m 0 with⟨eS,bw⟩|⟨j,i,eS,hj,iV⟩
   .rw[eS];intro bp jn;have gf:there=false:=by
     cases hb:there with
     |false=>rfl
     |true=>
      rw[hb,ak4 Y]at ht;obtain⟨i,hi,hk⟩:=ht;exact absurd hk (bw i hi)
    have ko:m.length<65536:=by
     rcases amQ m.length 65536 with h|h
     .exact h
     .exact absurd (.inr ⟨gf,ale h⟩) uR
    exact Ai Y (Ei _ (Ei _ (Ai ⟨qX.put jn bw mj W9 x9 rQ ko,λi hi=>by
     rcases alf.1 hi with h|h
     .exact .inl h
     .rw[alE.1 h];exact .inr bC⟩ (Ai (aad bw) ((E2.mono Yy).step jn.ae Yy)))))
   .rw[eS,amJ];intro bp jn;refine Ai Y (Ei _ (Ei _ (Ai ⟨qX.turn hj jn W9 x9 rQ,λy hy=>by
     rcases an3 hy with h|h
     .exact .inl h
     .rw[h];exact .inr bC⟩ (Ai ?_ ((E2.mono Yy).step jn.ae Yy)))))
    rw[<-iV];exact aai qX.nodup hj
  refine Bi (λhb=>?_) λhb=>?_
  .have hb:65536<dX res.1:=V
   have ef:d' res there (decide (65536<=m.length))=.no 3:=by unfold d';rw[akZ ax,akZ uT,ak4 (.inl hb)]
   rw[ef];exact vt kr E2
  have hb:¬65536<dX res.1:=V
  cases there with
  |true=>
   refine uJ [(0,ptr kb),(3,ptr b3),(7,ptr b7),(8,.bool true),(124,.bool false)] (kB (pZ (λσ σ' ds h hs hh=>ql _ _ σ σ' ds h eV hs hh) eV)) J5 (last ?_);rintro(h|⟨h,_⟩)
   .exact hb h
   .cases h
  |false=>
   refine Ei _ (Ai (an qX.ks.k Y) (Ei _ (Ai (an qX.ks.s Y)<|Ei (m.map KI.ent) (Ei c (Ai qX.map ?_)))));rw[alL];refine Bi (λal8=>?_) λal8=>?_
   .have ef:d' res false (decide (65536<=m.length))=.no 3:=by unfold d';rw[akZ ax,akZ uT,ak4 (.inr ⟨Y,ale V⟩)]
    rw[ef];exact vt kr E2
   .refine uJ [(0,ptr kb),(3,ptr b3),(7,ptr b7),(8,.bool false),(124,.bool false)] (kB (pZ (λσ σ' ds h hs hh=>ql _ _ σ σ' ds h eV hs hh) eV)) J5 (last ?_);rintro(h|⟨_,h⟩)
    .exact hb h
    .have:=amy h;omega
 refine Ei _ (Ai K6<|Bi (λdR=>?_) λdR=>?_)
 .refine Ei ws (Ai x6.len (Ai (akW W6)<|akV (Fp x6 rQ) ?_));rintro _ h8 ⟨rfl,c8⟩;refine Bi (λhc0=>?_) λhc0=>?_
  .exact uJ [(0,ptr kb),(3,ptr b3),(7,ptr b7),(8,.bool there),(106,.bool true)] (kB (pZ (λσ σ' ds h hs hh=>ql _ _ σ σ' ds h eV hs hh) eV)) J5 (YC ⟨dR,V⟩ h8 c8)
  .exact uJ [(0,ptr kb),(3,ptr b3),(7,ptr b7),(8,.bool there),(106,.bool false)] (kB (pZ (λσ σ' ds h hs hh=>ql _ _ σ σ' ds h eV hs hh) eV)) J5 (Ue (λh=>hc0 V) h8 c8)
 .exact uJ [(0,ptr kb),(3,ptr b3),(7,ptr b7),(8,.bool there),(106,.bool false)] (kB (pZ (λσ σ' ds h hs hh=>ql _ _ σ σ' ds h eV hs hh) eV)) J5 (Ue (λh=>h.1 (amx.1 dR)) h6 (ag.refl h6))
def aei{c:Nat}{m:List KI}{e:aA}{r:ib}{old:Option aB}(kr:KR h0 kb sb mb c m)(c0:ag [] h0 h)(B3:ai h b3 (cf e))(B5:ai h b5 (DZ r))(hr:fD e.op=some r)(hin:∀i∈m,rF i.thing)(hold:EE m e.key old)(mj:e.key.size<=1048576):swp Tryz.prog f68.sc.r.r.r.r
   (cC [.t 4] (ao (mL h0 kb sb mb e.key m (wj r old e (decide (65536<=m.length)))))) (mk [(0,ptr kb),(3,ptr b3),(5,ptr b5)]) [] h:=by
 have tM:=kr.ext c0;have l3:=B3.lt;have l5:=B5.lt;have KD:=c0.size;refine Ei _ (Ai (an B3 Y)<|akV (EB e.key tM) ?_);rintro _ h2 ⟨CO,c2⟩;have s2:=c2.size;rcases CO with⟨i,hi,iV,pv,lv,rv,rfl,o2,fr⟩|⟨bw,rfl⟩
 ·-- there
  cases Gh:old with
  |none=>rw[Gh]at hold;exact absurd iV (hold i hi)
  |some t=>
  rw[Gh]at hold;obtain⟨i',gL,F',Qn⟩:=hold;have:i'=i:=adb kr.nodup gL hi (F'.trans iV.symm);subst this;rw[Qn]at o2⊢;have uk:=hin i' gL;rw[Qn]at uk;intro b7 h3 g3;refine Ei _ (Ai g3.blk (Ai Dd (Ai Y (Ai (dB o2.th) ?_))));intro h4 p4;have g4:=g3.put p4;have B7:ai h4 b7 (bg t pv lv rv):=p4.blk;have c4:=g4.ae;have i7:=g4.id;have ye:=(B3.ae c2 Yy).ae c4 Yy;have vN:=(B5.ae c2 Yy).ae c4 Yy;have o4:=o2.ae c4 Yy;have pF:=(c0.nil c2).nil c4;have lo2:=o2;have n7:b7∉bk pv lv rv:=λhb=>by
   simp only[bk,alf]at hb;rcases hb with hb|hb|hb
   .have:=o2.p.lt b7 hb;omega
   .have:=o2.l.lt b7 hb;omega
   .have:=o2.r.lt b7 hb;omega
  have go:(r.kind≠0->t.kind=r.kind)->
    swp Tryz.prog f68.sc.r.r.r.r.r.r
     (cC [.t 4] (ao (mL h0 kb sb mb e.key m (wj r (some t) e (decide (65536<=m.length)))))) (mk [(0,ptr kb),(3,ptr b3),(5,ptr b5),(7,ptr b7),(8,.bool true)]) [] h4:=by
   intro hk;have ef:wj r (some t) e (decide (65536<=m.length))=d' (bm t e) true (decide (65536<=m.length)):=by
    show(if r.kind≠0∧t.kind≠r.kind then oz.no 170 else d' (bm t e) true (decide (65536<=m.length)))=_;rw[akZ λh=>h.2 (hk h.1)]
   rw[ef];have ok:ED t e:=λr' h1 h2=>by
    rw[hr]at h1;injection h1 with h1
    subst h1;exact hk h2
   refine SN kr pF ye vN B7 o4 n7 V (λb hb=>by have:=fr b hb;omega) ?_ uk.good (Uw hr uk.good ok λh9=>uk.some ?_) mj (by rw[ak4 Y];exact⟨i',gL,F'⟩)
   .rw[ak3,anH];exact⟨V,λhb=>by have:=fr b3 hb;omega⟩
   .have cG:=hr;rcases h9 with h9|h9
    .rw[h9]at cG;exact ok r hr (by injection cG with e';rw[<-e'];decide)|>.trans (by injection cG with e';rw[<-e'])
    .rw[h9]at cG;exact ok r hr (by injection cG with e';rw[<-e'];decide)|>.trans (by injection cG with e';rw[<-e'])
  refine Ei _ (Ai (an vN Y)<|Bi (λbP=>?_) λbP=>?_)
  .refine Ei _ (Ai (an B7 Y) (Ei _ (Ai (an vN Y)<|Bi (λax=>?_) λax=>?_)))
   .have ef:wj r (some t) e (decide (65536<=m.length))=.no 170:=ak4 ⟨bP,ax⟩;rw[ef];exact vt kr pF
   .exact aW [(0,ptr kb),(3,ptr b3),(5,ptr b5),(7,ptr b7),(8,.bool true)] J5 (go λ_=>amx.1 ax)
  .exact aW [(0,ptr kb),(3,ptr b3),(5,ptr b5),(7,ptr b7),(8,.bool true)] J5 (go λh=>absurd h bP)
 ·-- not there
  cases Gh:old with
  |some t=>
   rw[Gh]at hold;obtain⟨i,hi,iV,_⟩:=hold;exact absurd iV (bw i hi)
  |none=>
  intro b7 h3 g3;refine Ei _ (Ai g3.blk (Ai Dd (Ai Y (Ai (dB (t:=aL) (h:=h3) jA) ?_))));intro h4 p4;have g4:=g3.put p4;have B7:ai h4 b7 zeroV:=p4.blk;have c4:=g4.ae;have i7:=g4.id;have ye:=(B3.ae c2 Yy).ae c4 Yy;have vN:=(B5.ae c2 Yy).ae c4 Yy;have pF:=(c0.nil c2).nil c4;refine Ei _ (Ai (an vN Y) ?_);cases lJ:r.makes with
  |false=>
   have ef:wj r none e (decide (65536<=m.length))=.no 5:=ak4 lJ;rw[ef];exact vt kr pF
  |true=>
   have ef:wj r none e (decide (65536<=m.length))=d' (bm {aL with kind:=r.kind} e) false (decide (65536<=m.length)):=akZ (by rw[lJ];simp);rw[ef];refine Ei _ (Ai (an vN Y)<|Ei _ (Ai B7 (Ai Dd (Ai Y (Ai (cM Y) ?_)))));intro h5 p5;have c5:=p5.ae;have AY:ai h5 b7 (bg {aL with kind:=r.kind} (.slice none 0 0) (.slice none 0 0) (.slice none 0 0)):=p5.blk;have sH:ag [] h0 h5:=pF.fresh c5 Ys;refine aW [(0,ptr kb),(3,ptr b3),(5,ptr b5),(7,ptr b7),(8,.bool false)] J5 (SN kr sH (ye.ae c5 Ys) (vN.ae c5 Ys) AY (TO.nil Y Y Y) (by simp[bk,aq,bG]) V (by simp[bk,aq,bG]) (by simp[bk,aq,bG];omega)
    (fG.zero _) (Uw hr (fG.zero _) (λr' h1 _=>by rw[hr]at h1;injection h1 with h1;rw[h1]) λh9=>?_) mj (by rw[akZ Yy];exact bw))
   exfalso;rcases h9 with h9|h9
   .rw[h9]at hr;injection hr with e'
    rw[<-e']at lJ;cases lJ
   .rw[h9]at hr;injection hr with e'
    rw[<-e']at lJ;cases lJ
def SM{c:Nat}{m:List KI}{e:aA}{r:ib}{old:Option aB}(kr:KR h0 kb sb mb c m)(c0:ag [] h0 h)(B3:ai h b3 (cf e))(B5:ai h b5 (DZ r))(hr:fD e.op=some r)(hin:∀i∈m,rF i.thing)(hold:EE m e.key old):swp Tryz.prog f68.sc.r.r
   (cC [.t 4] (ao (mL h0 kb sb mb e.key m (iq old e (decide (65536<=m.length)))))) (mk [(0,ptr kb),(3,ptr b3),(5,ptr b5),(6,.bool true)]) [] h:=by
 have ef:∀full,iq old e full=if(r.name=false∧e.name≠au)∨(r.text=false∧e.text≠au)∨(r.number=false∧e.num≠0)then .no 2 else
   if 1048576<e.key.size∨1048576<e.name.size∨1048576<e.text.size then .no 3 else wj r old e full:=by
  intro full;unfold iq;rw[hr];cases old<;>rfl
 obtain⟨F,hF⟩:∃F,F=iq old e (decide (65536<=m.length)):=⟨_,Y⟩
 rw[<-hF];have bad:((r.name=false∧e.name≠au)∨(r.text=false∧e.text≠au)∨(r.number=false∧e.num≠0))->ao (mL h0 kb sb mb e.key m F) (.returned (j7 [.int .i64 2])) h:=by
  intro hb;rw[hF,ef,ak4 hb];exact vt kr c0
 have go:¬((r.name=false∧e.name≠au)∨(r.text=false∧e.text≠au)∨(r.number=false∧e.num≠0))->
   swp Tryz.prog f68.sc.r.r.r
    (cC [.t 4] (ao (mL h0 kb sb mb e.key m F))) (mk [(0,ptr kb),(3,ptr b3),(5,ptr b5)]) [] h:=by
  intro mW;rw[hF,ef,akZ mW];clear hF bad;refine Ei _ (Ai (an B3 Y) (Ei _ (Ai (an B3 Y) (Ei _ (Ai (an B3 Y) ?_)))));intro b6 h1 g1;have s6:SL encS h1 (.slice (some ⟨b6,0,none⟩) 3 3) [e.key,e.name,e.text]:=⟨_,_,Y,ali _,akW g1.blk⟩
  refine akV (xV s6 Yy) ?_;rintro r2 h9 ⟨cJ,e9⟩;have e9:=e9.symm;subst e9;have E1:=c0.nil g1.ae;by_cases Qt:1048576<e.key.size∨1048576<e.name.size∨1048576<e.text.size
  .rw[ak4 Qt];have rX:ox [e.key,e.name,e.text]=false:=by
    cases hb:ox [e.key,e.name,e.text]with
    |false=>rfl
    |true=>
     rw[xU]at hb;have h1:=hb e.key Yy;have h2:=hb e.name Yy;have h3:=hb e.text Yy;omega
   rw[rX]at cJ;subst cJ;exact vt kr E1
  .rw[akZ Qt];have rX:ox [e.key,e.name,e.text]=true:=by
    rw[xU];intro s hs;simp at hs;rcases hs with rfl|rfl|rfl<;>omega
   rw[rX]at cJ;subst cJ;exact Ef<|aW [(0,ptr kb),(3,ptr b3),(5,ptr b5)] J3 (aei kr E1 (B3.ae g1.ae Yy) (B5.ae g1.ae Yy) hr hin hold V)
 refine Ei _ (Ai (an B5 Y) ?_);cases q0:r.name with
 |true=>
  refine Ei _ (Ai (an B5 Y) ?_);cases q1:r.text with
  |true=>
   refine Ei _ (Ai (an B5 Y) ?_);cases q2:r.number with
   |true=>
    exact aW [(0,ptr kb),(3,ptr b3),(5,ptr b5)] J3 (go (by simp[au,q0,q1,q2]))
   |false=>
    refine Ei _ (Ai (an B3 Y)<|Ai Y (Ai (λw2=>bad (.inr (.inr ⟨q2,w2⟩))) (λw2=>?_)));have w2:=amx.1 w2;exact aW [(0,ptr kb),(3,ptr b3),(5,ptr b5)] J3 (go (by simp[au,q0,q1,q2,w2]))
  |false=>
   refine Ei _ (Ai (an B3 Y)<|Ai (λw1=>bad (.inr (.inl ⟨q1,w1⟩))) (λw1=>?_));have w1:=amx.1 w1;refine Ei _ (Ai (an B5 Y) ?_);cases q2:r.number with
   |true=>
    exact aW [(0,ptr kb),(3,ptr b3),(5,ptr b5)] J3 (go (by simp[au,q0,q1,w1,q2]))
   |false=>
    refine Ei _ (Ai (an B3 Y)<|Ai Y (Ai (λw2=>bad (.inr (.inr ⟨q2,w2⟩))) (λw2=>?_)));have w2:=amx.1 w2;exact aW [(0,ptr kb),(3,ptr b3),(5,ptr b5)] J3 (go (by simp[au,q0,q1,w1,q2,w2]))
 |false=>
  refine Ei _ (Ai (an B3 Y)<|Ai (λw0=>bad (.inl ⟨q0,w0⟩)) (λw0=>?_));have w0:=amx.1 w0;refine Ei _ (Ai (an B5 Y) ?_);cases q1:r.text with
  |true=>
   refine Ei _ (Ai (an B5 Y) ?_);cases q2:r.number with
   |true=>
    exact aW [(0,ptr kb),(3,ptr b3),(5,ptr b5)] J3 (go (by simp[au,q0,w0,q1,q2]))
   |false=>
    refine Ei _ (Ai (an B3 Y)<|Ai Y (Ai (λw2=>bad (.inr (.inr ⟨q2,w2⟩))) (λw2=>?_)));have w2:=amx.1 w2;exact aW [(0,ptr kb),(3,ptr b3),(5,ptr b5)] J3 (go (by simp[au,q0,w0,q1,q2,w2]))
  |false=>
   refine Ei _ (Ai (an B3 Y)<|Ai (λw1=>bad (.inr (.inl ⟨q1,w1⟩))) (λw1=>?_));have w1:=amx.1 w1;refine Ei _ (Ai (an B5 Y) ?_);cases q2:r.number with
   |true=>
    exact aW [(0,ptr kb),(3,ptr b3),(5,ptr b5)] J3 (go (by simp[au,q0,w0,q1,w1,q2]))
   |false=>
    refine Ei _ (Ai (an B3 Y)<|Ai Y (Ai (λw2=>bad (.inr (.inr ⟨q2,w2⟩))) (λw2=>?_)));have w2:=amx.1 w2;exact aW [(0,ptr kb),(3,ptr b3),(5,ptr b5)] J3 (go (by simp[au,q0,w0,q1,w1,q2,w2]))
def SK{c:Nat}{m:List KI}{e:aA}{old:Option aB}(kr:KR h0 kb sb mb c m)(c0:ag [] h0 h)(hr:fD e.op=none):swp Tryz.prog f68.sc.r.r
   (cC [.t 4] (ao (mL h0 kb sb mb e.key m (iq old e (decide (65536<=m.length)))))) (mk [(0,ptr kb),(3,ptr b3),(5,ptr b5),(6,.bool false)]) [] h:=by
 have ef:iq old e (decide (65536<=m.length))=.no 2:=by unfold iq;rw[hr]
 rw[ef];exact vt kr c0
def aeh{c:Nat}{m:List KI}{e:aA}{old:Option aB}(kr:KR h kb sb mb c m)(hin:∀i∈m,rF i.thing)(hold:EE m e.key old):aj Tryz.prog 68 [ptr kb,.agg ⟨cf e⟩] h (ao (mL h kb sb mb e.key m (iq old e (decide (65536<=m.length))))):=by
 refine f68.c ?_;intro b3 h1 g1;have B3:ai h1 b3 (cf e):=g1.blk;refine Ei _ (Ai (an B3 Y)<|Ai ?_ ?_)
 .refine iw Uz ?_;rintro _ h2 ⟨rb,rfl,mr,jZ,aO⟩;refine Ai aO.ext<|Ai Y (Ei (ec dq 0) (Ei 15 (Ai mr (Ai (kI _ _) ?_))));rcases Ux e.op with⟨hr,eS⟩|⟨r,j,hr,eS⟩
  .rw[eS];intro b5 h3 g3;refine Ei _ (Ai g3.blk (Ai Dd (Ai Y (Ai Dd ?_))));intro h4 p4;have g4:=g3.put p4;exact aW [(0,ptr kb),(3,ptr b3),(5,ptr b5),(6,.bool false)] J4 (SK kr ((g1.ae.nil aO).nil g4.ae) hr)
  .rw[eS];intro b5 h3 g3;refine Ei _ (Ai g3.blk (Ai Dd (Ai Y (Ai (Uy r) ?_))));intro h4 p4;have g4:=g3.put p4;have fW:=aO.nil g4.ae;exact aW [(0,ptr kb),(3,ptr b3),(5,ptr b5),(6,.bool true)] J4 (SM kr (g1.ae.nil fW) (B3.ae fW Yy) (show ai h4 b5 (DZ r)from p4.blk) hr hin hold)
 .intro b5 h2 g2;refine iw Uz ?_;rintro _ h3 ⟨rb,rfl,mr,jZ,bB⟩;refine Ai bB.ext<|Ai Y (Ei (ec dq 0) (Ei 15 (Ai mr (Ai (kI _ _) ?_))));have B5:ai h3 b5 [.bool false,.bool false,.bool false,.int .i64 0,.bool false,.nilFunc]:=(show ai h2 b5 _ from g2.blk).ae bB Yy;have i5:=g2.id;have l3:=B3.lt;have z1:=g1.size;have wG:=g2.ae.nil bB;rcases Ux e.op with⟨hr,eS⟩|⟨r,j,hr,eS⟩
  .rw[eS];refine Ei _ (Ai B5 (Ai Dd (Ai Y (Ai Dd ?_))));intro h4 p4;have fW:ag [] h h4:=(g1.ae.nil wG).fresh p4.ae Ys;exact aW [(0,ptr kb),(3,ptr b3),(5,ptr b5),(6,.bool false)] J4 (SK kr fW hr)
  .rw[eS];refine Ei _ (Ai B5 (Ai Dd (Ai Y (Ai (Uy r) ?_))));intro h4 p4;have fW:ag [] h h4:=(g1.ae.nil wG).fresh p4.ae Ys;exact aW [(0,ptr kb),(3,ptr b3),(5,ptr b5),(6,.bool true)] J4 (SM kr fW ((B3.ae wG Yy).ae p4.ae Ys) (show ai h4 b5 (DZ r)from p4.blk) hr hin hold)
def aen{c:Nat}{m:List KI}{S:aH}{e:aA}(kr:KR h kb sb mb c m)(hs:bT m S)(hi:gQ S):aj Tryz.prog 68 [ptr kb,.agg ⟨cf e⟩] h (ao λr h'=>r=.int .i64 (dy S e).num∧∃c' m',(KR h' kb sb mb c' m'∧∀i∈m',i∈m∨qo h.size i)∧bT m' ((dy S e).space S e.key)∧ag [mb] h h'):=by
 refine(aeh kr (acR hs hi) (aee hs e.key)).mono λen h' he=>?_;cases en with
 |returned v=>
  obtain⟨h1,c',m',h2,h3,h4⟩:=he;have e1:m.length=S.length:=(HE kr.nodup hs).symm;rw[e1]at h1 h3;exact⟨h1,c',m',h2,aaj hs h3,h4⟩
 |panicked ch=>exact he.elim
 |outgrown=>exact he.elim
def Nl{c:Nat}{m:List KI}{S:aH}{v:Value}{d:List aA}(kr:KR h kb sb mb c m)(hs:bT m S)(hi:gQ S)(hv:∀h',ag [mb] h h'->SL cf h' v d)(hd:d.length<4611686018427387904):aj Tryz.prog 28 [ptr kb,v] h (ao λr h'=>r=.tuple #[.int .i64 (eK S d).2.1,.int .i64 (eK S d).2.2]∧∃c' m',(KR h' kb sb mb c' m'∧∀i∈m',i∈m∨qo h.size i)∧bT m' (eK S d).1∧gQ (eK S d).1∧ag [mb] h h'):=by
 have c0:ag [mb] h h:=(ag.refl h).mono Yy;obtain⟨a,cc,rfl,di⟩:=(hv h c0).form;refine f28.c<|akV (q9 kr.ks) ?_;rintro _ h9 ⟨rfl,e9⟩;have e9:=e9.symm;subst e9;refine bA (λk:Nat=>[(0,ptr kb),(6,.int .i64 k),(7,.int .i64 0),(12,.slice a d.length cc),(13,.int .i64 d.length),(14,.int .i64 k)])
  (λk h'=>k<=d.length∧ag [mb] h h'∧∃c' m' S',(KR h' kb sb mb c' m'∧∀i∈m',i∈m∨qo h.size i)∧bT m' S'∧gQ S'∧eK S d=((eK S' (d.drop k)).1,(eK S' (d.drop k)).2.1+k,(eK S' (d.drop k)).2.2)) (λk=>d.length-k) 0
  J6 ⟨ak8 _,c0,c,m,S,⟨kr,λi hi=>.inl hi⟩,hs,hi,Y⟩ ?_
 rintro k h1 ⟨hk,c1,c',m',S',⟨tM,PD⟩,gB,jX,fe⟩;refine Bi (λah=>?_) λah=>?_
 .have ah:k<d.length:=V
  have bL:=hv h1 c1;obtain⟨b,o,rfl⟩:=bL.addr V;have aI:=bL.cells yO (i:=k) (x:=d[k]) (by simp[ah]);rw[alx ah]at fe;refine Ai V (Ai V (Ei (cf d[k]) (Ai Y (Ai aI ?_))));intro b9 h2 g2;refine Ei _ (Ai g2.blk (Ai Dd (Ai Y (Ai (FA _) ?_))));intro h3 p3;have g3:=g2.put p3;have B9:ai h3 b9 (cf d[k]):=p3.blk;refine Ei (cf d[k]) (Ai Y (Ai (akW B9)<|akV (aen (tM.ext g3.ae) gB jX) ?_));rintro _ h4 ⟨rfl,c4,m4,⟨mw,FN⟩,mq,XF⟩;have FN:∀i∈m4,i∈m∨qo h.size i:=λi hi=>by
   have z1:=c1.size;have z3:=g3.ae.size;rcases FN i hi with h|h
   .exact PD i h
   .exact .inr (h.mono V)
  have dM:ag [mb] h h4:=(c1.step g3.ae Yy).step XF Yy;refine Bi (λax=>?_) λax=>?_
  .rw[yx ax]at fe;rw[ad2 ax]at mq;rw[fe];refine Ai ?_ (Ei c4 (Ei m4 (Ai ⟨mw,FN⟩ (Ai mq (Ai jX dM)))));show Value.tuple _=Value.tuple #[.int .i64 ((0+k:Nat):Int),_];rw[amJ]
  .have hz:=amx.1 ax;rw[yy hz]at fe;refine Ai Y (λz jk=>?_);have jk:=cd jk V V;subst jk;refine Az ?_;rw[hz];refine Ai Y (Ei (k+1) (Ai ?_ (Ai ?_ ?_)))
   .exact J6
   .exact⟨V,dM,c4,m4,_,⟨mw,FN⟩,mq,acQ jX,by rw[fe];simp only[anL,aoH 1 k]⟩
   .omega
 .have aZ:k=d.length:=V
  subst aZ;rw[amE,eK]at fe;rw[fe];refine Ai ?_ (Ei c' (Ei m' (Ai ⟨tM,PD⟩ (Ai gB (Ai jX c1)))));show Value.tuple _=Value.tuple #[.int .i64 ((0+d.length:Nat):Int),_];rw[amJ]
end Go.Proofs.YtocgmipngoiieaaGreatDoor
set_option maxRecDepth 100000
namespace Go.Proofs.YtocgmipngoiieaaGreatDoor.C
open Go Go.Sx Go.Sx.S
noncomputable section
def f3:=ay Tryz.func3
def f4:=ay Tryz.func4
def f5:=ay Tryz.func5
def f8:=ay Tryz.func8
def f9:=ay Tryz.func9
def f11:=ay Tryz.func11
def f12:=ay Tryz.func12
def f14:=ay Tryz.func14
def f27:=ay Tryz.func27
def f63:=ay Tryz.func63
def f66:=ay Tryz.func66
def f107:=ay Tryz.func107
end
end Go.Proofs.YtocgmipngoiieaaGreatDoor.C
namespace Go.Proofs.YtocgmipngoiieaaGreatDoor
open Go Go.Sx C
def adw(s:BA)(h:af):aj Tryz.prog 107 [.string s] h (ao λr h'=>r=.bool (decide (1048576<s.size))∧h'=h):=by
 refine f107.c<|Bi (λhl=>?_) λhl=>?_
 .exact Ai (by rw[ale V];rfl) Y
 .exact Ai (by rw[alg V];rfl) Y
def XT{h:af}{v:Value}{l:List BA}(hv:SL encS h v l)(hl:l.length<=20)(hz:∀s∈l,s.size<=300):aj Tryz.prog 63 [v] h (ao λr h'=>r=.bool false∧h'=h):=by
 obtain⟨a,c,rfl,_⟩:=hv.form;refine f63.c<|Ai Y (Ai (λh9=>absurd h9 V) (λ_=>dN (OT adw hv V) ?_));have:ox l=true:=xU.2 λs hs=>by have:=hz s hs;omega
 rw[this];exact Ai Y Y
def adj{h:af}:aj Tryz.prog 66 [] h (ao λr h'=>∃b,r=.slice (some ⟨b,0,none⟩) 2 2∧jr h h' b [.func (.func 111) #[] #[],.func (.func 112) #[] #[]]):=by
 refine f66.c ?_;intro b h1 g1;exact⟨b,Y,g1⟩
def VJ:BA:=⟨#[69,82,82,32,102,117,108,108]⟩
def yb:BA:=⟨#[69,82,82,32,117,110,107,110,111,119,110]⟩
def iK(S:aH)(res:aM):cR×List aA×aH:=
 if(eK S (iJ res).2).2.2=0 then((iJ res).1,(iJ res).2,(eK S (iJ res).2).1)else(gF 2 0 VJ,[],S)
def uv(now:Int)(AA:List BA)(g:Nat)(kn:Bool)(res:aH->aM):Prop:=∀{h:af}{kb sb mb c:Nat}{m:List KI}{S:aH}{av:Value},KR h kb sb mb c m->bT m S->S8 S->S9 S->dr h->K5.fw h->SL encS h av AA->
 aj Tryz.prog g [ptr kb,.int .i64 now,av] h (ao λr h'=>if kn=true then j9 h (res S) r h' else r=kR∧ag [] h h')
def j9.some{h h':af}{r:Value}{res:aM}(x:j9 h res r h'):ag [] h h'∧∃ra rn rc la lc,r=.tuple ⟨[.agg ⟨[.int .i64 (iJ res).1.k,.int .i64 (iJ res).1.i,.string (iJ res).1.s,.slice ra rn rc]⟩,.slice la (iJ res).2.length lc,.bool true]⟩∧
  (SL bR h' (.slice ra rn rc) (iJ res).1.l∧∀b∈bG ra,h.size<=b)∧SL cf h' (.slice la (iJ res).2.length lc) (iJ res).2∧∀b∈bG la,h.size<=b:=by
 obtain⟨c,x⟩:=x;cases res with
 |error why=>
  have x:r=.tuple ⟨[lT 2 0 why,.slice none 0 0,.bool true]⟩:=x;subst x;exact⟨c,none,0,0,none,0,Y,⟨SL.nil,λb hb=>(nomatch hb)⟩,SL.nil,λb hb=>(nomatch hb)⟩
 |ok p=>
  obtain⟨q,E⟩:=p;obtain⟨v,lv,rfl,⟨ra,rn,rc,rfl,hq,fr⟩,hs,fl⟩:=x;obtain⟨la,lc,rfl,_⟩:=hs.form;exact⟨c,ra,rn,rc,la,lc,Y,⟨hq,fr⟩,hs,fl⟩
def No(h:af)(q:cR)(E:List aA)(r:Value)(h':af):Prop:=
 ∃ra rn rc la lc,r=.tuple ⟨[.agg ⟨[.int .i64 q.k,.int .i64 q.i,.string q.s,.slice ra rn rc]⟩,.slice la E.length lc]⟩∧(SL bR h' (.slice ra rn rc) q.l∧∀b∈bG ra,h.size<=b)∧SL cf h' (.slice la E.length lc) E∧∀b∈bG la,h.size<=b
set_option maxHeartbeats 1000000 in
def VQ{h:af}{kb sb mb c:Nat}{m:List KI}{S:aH}{av:Value}{now:Int}{AA:List BA}{k8 k9:Bool}{res:aH->aM}(p8:uv now AA 111 k8 res)(p9:uv now AA 112 k9 res)(hu:k8=false->k9=false->∀S,res S=.error yb)(rX:∀S,S8 S->S9 S->eQ (res S))(aw:AA.length<=20)(hz:∀a∈AA,a.size<=300)(kr:KR h kb sb mb c m)(hs:bT m S)(s8:S8 S)(s9:S9 S)(aU:dr h)(ht:K5.fw h)(hA:SL encS h av AA):aj Tryz.prog 27 [ptr kb,.int .i64 now,av] h (ao λr h'=>ag [] h h'∧No h (iK S (res S)).1 (iK S (res S)).2.1 r h'):=by
 obtain⟨a,cc,rfl,ie⟩:=hA.form;have xd:=(rX S s8 s9).2.1;obtain⟨rs,df⟩:∃rs,rs=res S:=⟨_,Y⟩
 rw[<-df]at xd⊢;refine f27.c ?_;intro b6 h1 g1;have i1:=g1.id;have w:=(St.start h).new g1;refine dN (XT (hA.ext w.ae) aw hz) ?_;intro b8 h2 g2;have w:=w.new g2;refine w.st1 0 Y Y Y Y λh3 w=>akV adj ?_;rintro _ h4 ⟨bl,rfl,g4⟩;have w:=w.new g4;refine bA (λi:Nat=>[(0,ptr kb),(1,.int .i64 now),(2,.slice a AA.length cc),(6,ptr b6),(8,ptr b8),(9,.slice none 0 0),(10,.bool false),(24,.slice (some ⟨bl,0,none⟩) 2 2),(25,.int .i64 2),(26,.int .i64 i)])
  (λi h'=>i<=2∧(1<=i->k8=false)∧(2<=i->k9=false)∧St [] h h' [.b bl [.func (.func 111) #[] #[],.func (.func 112) #[] #[]],.b b8 zR,.b b6 zR])
  (λi=>2-i) 0 lY ⟨ak8 _,λh9=>absurd h9 Dd,λh9=>absurd h9 Dd,w⟩ ?_
 rintro i h5 ⟨hi,jX,sV,w⟩;have nb:∀{P:Prop},(∃b,b∈bG (none:Option Addr))->P:=λ⟨b,hb⟩=>(nomatch (show b∈([]:List Nat)from hb))
 refine Bi (λah=>?_) λcp=>?_;rotate_left
 .have hr:=hu (jX V) (sV V) S;rw[<-df]at hr;subst hr;refine w.aV H5 λh6 w=>w.st1 2 Y Y Y Y λh7 w=>?_;exact⟨_,Y,akW (w.get 2 Y),w.ae,none,0,0,none,0,Y,⟨SL.nil,λb hb=>nb ⟨b,hb⟩⟩,SL.nil,λb hb=>nb ⟨b,hb⟩⟩
 have zw:=w.ae.size;have l6:b6<h5.size:=(show ai h5 b6 _ from w.get 2 Y).lt;have l8:b8<h5.size:=(show ai h5 b8 _ from w.get 1 Y).lt;rcases(show i=0∨i=1 by omega)with rfl|rfl
 all_goals refine Ai Dd (Ai Dd (Ei _ (Ai (an (w.get 0 Y) Y) ?_)))
 refine akV (p8 (kr.ext w.ae) hs s8 s9 (aU.ext w.ae) (po ht w.ae) (hA.ext w.ae)) ?_;rintro r h6 hr;cases k8 with
 |true=>?_
 |false=>
  obtain⟨rfl,c6⟩:r=kR∧ag [] h5 h6:=hr;have w:=w.ext c6;exact w.st1 1 Y Y Y Y λh7 w=>Az<|Ai Y (Ei 1 (Ai lY (Ai ⟨V,λ_=>rfl,λh9=>absurd h9 Dd,w⟩ V)))
 rotate_left;refine akV (p9 (kr.ext w.ae) hs s8 s9 (aU.ext w.ae) (po ht w.ae) (hA.ext w.ae)) ?_;rintro r h6 hr;cases k9 with
 |true=>?_
 |false=>
  obtain⟨rfl,c6⟩:r=kR∧ag [] h5 h6:=hr;have w:=w.ext c6;exact w.st1 1 Y Y Y Y λh7 w=>Az<|Ai Y (Ei 2 (Ai lY (Ai ⟨V,λ_=>jX Dd,λ_=>rfl,w⟩ V)))
 all_goals
  have hr:j9 h5 (res S) r h6:=hr;rw[<-df]at hr;obtain⟨c6,ra,rn,rc,la,lc,rfl,⟨sl,fr⟩,sE,fE⟩:=hr.some;have w:=w.ext c6;refine w.st2 1 Y Y Y Y λh7 w k7=>?_;have sl:=sl.ae k7 (λb hb=>by have:=fr b hb;simp;omega);have sE:=sE.ae k7 (λb hb=>by have:=fE b hb;simp;omega);refine Bi (λiC=>?_) λh0=>?_;rotate_left;have h0:(iJ rs).2=[]:=amW V;have E3:ag [] h7 h7:=ag.refl _;have hz:(eK S (iJ rs).2).2.2=0:=by rw[h0];rfl
  rotate_left;have hlE:0<(iJ rs).2.length:=V
  have lE:∀b∈bG la,b<h7.size:=by
   obtain⟨b,o,e⟩:=sE.addr hlE;subst e;intro b' bh;rw[alE.1 (show b'∈[b]from bh)];exact wi (sE.cells yO (i:=0) (x:=(iJ rs).2[0]) Yy 0 _ Y)
  have hlen:(iJ rs).2.length<4611686018427387904:=by
   rcases xd with h9|⟨h9,_⟩<;>omega
  refine akV (Wa (kr.ext w.ae) hs) ?_;rintro _ h8 ⟨oX,xT,dH,c2,m2,rfl,vi,eT,si,c8⟩;refine akV (Nl vi eT s8.few.ins (λh' hc=>(sE.ext c8).ae hc λb hb=>by have:=lE b hb;simp;omega) hlen) ?_;rintro _ h9 ⟨rfl,c',m',⟨zS,_⟩,eG,K3,c9⟩;have E3:ag [] h7 h9:=c8.fresh c9 Ys;have w:=w.ext E3;refine Bi (λax=>?_) λhz=>?_
  .refine w.aV H5 λbp w=>w.st1 2 Y Y Y Y λdO w=>?_;rw[show iK S rs=_ from akZ ax];exact⟨_,Y,akW (w.get 2 Y),w.ae,none,0,0,none,0,Y,⟨SL.nil,λb hb=>nb ⟨b,hb⟩⟩,SL.nil,λb hb=>nb ⟨b,hb⟩⟩
  have hz:=amx.1 hz
  all_goals
   refine w.fS 1 Y Y<|w.st2 2 Y Y Y Y λh9 w k9=>?_;rw[show iK S rs=_ from ak4 hz];exact⟨_,Y,akW (w.get 2 Y),w.ae,ra,rn,rc,la,lc,Y,⟨(sl.ext E3).ae k9 (λb hb=>by have:=fr b hb;simp;omega),λb hb=>by have:=fr b hb;omega⟩,(sE.ext E3).ae k9 (λb hb=>by have:=fE b hb;simp;omega),λb hb=>by have:=fE b hb;omega⟩
end Go.Proofs.YtocgmipngoiieaaGreatDoor
namespace Go.Proofs.YtocgmipngoiieaaGreatDoor
open Go Go.Sx C
variable{T:List Nat}{h h':af}{kb mb sb:Nat}
def SL.free{α:Type}{enc:α->List Value}{h0:af}{v:Value}{l:List α}(x:SL enc h0 v l)(hT:∀b∈T,h0.size<=b)(hc:ag T h h')(hs:SL enc h v l):SL enc h' v l:=by
 obtain⟨a,c,rfl,_,h2⟩:=x;obtain⟨a',c',he,h3,h4⟩:=hs;cases he;refine⟨a,c,Y,h3,?_⟩;cases a with
 |none=>exact h4
 |some a=>
  obtain⟨b,o,sp⟩:=a;cases sp with
  |some s=>exact h4
  |none=>exactλi v hv=>sI (h4 i v hv) hc λhm=>by have:=wi (h2 i v hv);have:=hT b hm;omega
def TH.free{T:List Nat}{h0 h h':af}{vs:List Value}{t:aB}(x:TH h0 vs t)(hT:∀b∈T,h0.size<=b)(hc:ag T h h')(hs:TH h vs t):TH h' vs t:=by
 obtain⟨pv,lv,rv,e,h1,h2,h3⟩:=x;obtain⟨dQ,aY,dV,e',h4,h5,h6⟩:=hs;rw[e]at e';simp only[anm,aoG,aos]at e';obtain⟨rfl,rfl,rfl⟩:=e';exact⟨pv,lv,rv,e,SL.free h1 hT hc h4,SL.free h2 hT hc h5,SL.free h3 hT hc h6⟩
def oA(T:List Nat)(i:KI):Prop:=i.tb∉T∧∀{h h':af},ag T h h'->TH h i.vs i.thing->TH h' i.vs i.thing
def oA.old{c:Nat}{m:List KI}{i:KI}(x:KR h kb sb mb c m)(hi:i∈m)(hT:∀b∈T,h.size<=b):oA T i:=
 ⟨λhm=>by have:=(x.here i hi).1.lt;have:=hT _ hm;omega,λhc hs=>TH.free (x.here i hi).2.1 hT hc hs⟩
def oA.new{z:Nat}{i:KI}(x:qo z i)(hT:∀b∈T,b<z):oA T i:=
 ⟨λhm=>by have:=x.1;have:=hT _ hm;omega,λhc hs=>hs.ae hc λv hv b hb hm=>by have:=x.2 v hv b hb;have:=hT _ hm;omega⟩
def KR.keep{c:Nat}{m:List KI}(x:KR h kb sb mb c m)(hc:ag T h h')(h1:kb∉T)(h2:sb∉T)(h3:mb∉T)(hf:∀i∈m,oA T i):KR h' kb sb mb c m:=
 ⟨x.ks.ae hc h1 h2,x.map.ae hc h3,λi hi=>⟨(x.here i hi).1.ae hc (hf i hi).1,(hf i hi).2 hc (x.here i hi).2.1,(x.here i hi).2.2⟩,x.nodup,x.born,x.nR,x.keys,x.len⟩
def KR.Lm{c:Nat}{m:List KI}(x:KR h kb sb mb c m):kb<h.size∧sb<h.size∧mb<h.size:=⟨x.ks.k.lt,x.ks.s.lt,lA x.map⟩
def Wb(h:af)(kb sb mb:Nat)(m:List KI)(o:cR×List aA×aH)(r:Value)(h':af):Prop:=
 No h o.1 o.2.1 r h'∧∃c' m',(KR h' kb sb mb c' m'∧∀i∈m',i∈m∨qo h.size i)∧bT m' o.2.2∧gQ o.2.2∧ag [mb] h h'
def aez{S:aH}{res:aM}:(eK S (iK S res).2.1).1=(iK S res).2.2:=by
 unfold iK;split<;>rfl
def NC{c:Nat}{m:List KI}{S:aH}{av:Value}{now:Int}{AA:List BA}{k8 k9:Bool}{res:aH->aM}(p8:uv now AA 111 k8 res)(p9:uv now AA 112 k9 res)(hu:k8=false->k9=false->∀S,res S=.error yb)(rX:∀S,S8 S->S9 S->eQ (res S))(aw:AA.length<=20)(hz:∀a∈AA,a.size<=300)(kr:KR h kb sb mb c m)(hs:bT m S)(s8:S8 S)(s9:S9 S)(aU:dr h)(ht:K5.fw h)(hA:SL encS h av AA):aj Tryz.prog 14 [ptr kb,.int .i64 now,av] h (ao (Wb h kb sb mb m (iK S (res S)))):=by
 obtain⟨a,cc,rfl,ie⟩:=hA.form;have xd:=(rX S s8 s9).2.1;have fe:=aez (S:=S) (res:=res S);have hlen:(iK S (res S)).2.1.length<4611686018427387904:=by
  unfold iK;split
  .show(iJ (res S)).2.length<_;rcases xd with h9|⟨h9,_⟩<;>omega
  .show(0:Nat)<_;omega
 have P4:=λ(h1:af)(c1:ag [] h h1)=>VQ p8 p9 hu rX aw hz (kr.ext c1) hs s8 s9 (aU.ext c1) (po ht c1) (hA.ext c1);generalize iK S (res S)=o at fe hlen P4⊢;refine f14.c ?_;intro b6 h1 g1;have i1:=g1.id;have z1:=g1.size;have w:=(St.start h).new g1;obtain⟨lk,ls,lm⟩:=kr.Lm;refine akV (P4 h1 w.ae) ?_;rintro _ h2 ⟨c2,ra,rn,rc,la,lc,rfl,⟨sl,fr⟩,sE,fE⟩;have w:=w.ext c2;have z2:=c2.size;intro b8 h3 g3;have i3:=g3.id;have w:=w.new g3;refine w.st2 0 Y Y Y Y λh4 w k4=>?_;have c24:ag [] h2 h4:=g3.ae.fresh k4 Ys;have z4:=c24.size;have sl:=sl.ext c24;have sE:=sE.ext c24;refine akV (Nl (kr.ext w.ae) hs s8.few.ins (λh' hc=>sE.ae hc λb hb=>by have:=fE b hb;simp;omega) hlen) ?_;rintro _ h5 ⟨rfl,c',m',⟨zS,fk⟩,eG,K3,c5⟩;rw[fe]at eG K3;have B8:=ai.ae (w.get 0 Y) c5 Ys;have B6:=ai.ae (w.get 1 Y) c5 Ys;refine Ei _ (Ai Y (Ai (akW B8)<|Ei _ (Ai B6 (Ai Dd (Ai Y (Ai (λu hu=>amV.1 (show List.all _ Value.oneCell'=true from Y) u hu) ?_))))));intro h6 p6;have c6:ag [b6] h5 h6:=p6.ae;exact⟨_,Y,akW p6.blk,⟨ra,rn,rc,la,lc,Y,⟨(sl.ae c5 (λb hb=>by have:=fr b hb;simp;omega)).ae c6 (λb hb=>by have:=fr b hb;simp;omega),λb hb=>by have:=fr b hb;omega⟩,(sE.ae c5 (λb hb=>by have:=fE b hb;simp;omega)).ae c6 (λb hb=>by have:=fE b hb;simp;omega),λb hb=>by have:=fE b hb;omega⟩,
  c',m',⟨zS.keep c6 Ys Ys Ys (λi hi=>(fk i hi).elim (λh9=>oA.old kr h9 Ys) (λh9=>oA.new h9 Ys)),λi hi=>(fk i hi).imp id (λh9=>h9.mono V)⟩,eG,K3,((w.ae.mono Yy).step c5 Yy).step c6 Ys⟩
end Go.Proofs.YtocgmipngoiieaaGreatDoor
namespace Go.Proofs.YtocgmipngoiieaaGreatDoor
open Go Go.Sx C
structure AX where
 v:Value
 A:List BA
def BW(x:AX):List Value:=[x.v]
def Fz(x:AX):(BW x).length=1:=rfl
def GA(h:af)(l:List AX):Prop:=∀x∈l,SL encS h x.v x.A
structure RP where
 q:cR
 a:Option Addr
 n:Nat
 c:Nat
def RP.sv(x:RP):Value:=.slice x.a x.n x.c
def uK(x:RP):List Value:=[.int .i64 x.q.k,.int .i64 x.q.i,.string x.q.s,x.sv]
def al5(x:RP):(uK x).length=4:=rfl
def YN(x:RP):∀u∈uK x,u.oneCell'=true:=λu hu=>amV.1 (show(uK x).all Value.oneCell'=true from Y) u hu
structure NB (now:Int) (AA:List BA) (res:aH->aM):Prop where
 p:∃k8 k9,uv now AA 111 k8 res∧uv now AA 112 k9 res∧(k8=false->k9=false->∀S,res S=.error yb)
 sh:∀S,S8 S->S9 S->eQ (res S)
 al:AA.length<=20
 az:∀a∈AA,a.size<=300
def ph(rs:Nat->aH->aM)(S:aH):Nat->aH
 |0=>S
 |i+1=>(iK (ph rs S i) (rs i (ph rs S i))).2.2
def Ay(rs:Nat->aH->aM)(S:aH)(i:Nat):cR:=(iK (ph rs S i) (rs i (ph rs S i))).1
def aal{h:af}{kb sb mb c:Nat}{m:List KI}{S:aH}(kr:KR h kb sb mb c m)(hs:bT m S)(hi:gQ S):yj S:=
 ⟨hs.up,λp hp=>by
  obtain⟨i,hi,h1,h2⟩:=pY.1 ((hs.mem _).1 hp);have:=kr.keys i hi;rw[<-h1];exact this,by have:=HE kr.nodup hs;have:=kr.len;omega,hi⟩
def Inv.out{n:Nat}{S:aH}{res:aM}(i:Inv n S)(hn:eQ res)(f:yj (iK S res).2.2):Inv (n+1) (iK S res).2.2:=by
 unfold iK at f⊢;split
 .rename_i hz;rw[ak4 hz]at f;exact i.step hn.2.1 hn.2.2 f
 .exact i.more
def Eu(T:List Nat)(x:RP):Prop:=∀{h h':af},ag T h h'->SL bR h x.sv x.q.l->SL bR h' x.sv x.q.l
def Jn{P:List Nat->Prop}{v v':Value}{z:Nat}(bC:∀b∈aq v',b∈aq v∨z<=b)(h1:P (aq v))(h2:(∀b∈aq v',z<=b)->P (aq v')):P (aq v'):=by
 have one:∀v:Value,aq v=[]∨∃b,aq v=[b]:=λv=>by
  cases v with
  |slice a n c=>cases a with
   |none=>exact .inl Y
   |some a=>exact .inr ⟨_,Y⟩
  |_=>exact .inl Y
 rcases one v' with e|⟨b,e⟩
 .exact h2 (by rw[e];intro b hb;cases hb)
 .rcases bC b (by rw[e];simp)with h3|h3
  .rcases one v with e'|⟨b',e'⟩
   .rw[e']at h3;cases h3
   .rw[e']at h3;rw[e,alE.1 h3,<-e'];exact h1
  .exact h2 (by rw[e];intro b' hb;rw[alE.1 hb];exact h3)
set_option maxHeartbeats 1000000 in
def Ww{h0 h:af}{kb sb mb c:Nat}{m:List KI}{S:aH}{av:Value}{now:Int}{all:List AX}{rs:Nat->aH->aM}(c0:ag [] h0 h)(rR:h0.size<=mb)(aU:dr h0)(ht:K5.fw h0)(fJ:SL BW h0 av all)(ga:GA h0 all)(hl:all.length<=30)(hc:∀i(hi:i<all.length),NB now all[i].A (rs i))(kr:KR h kb sb mb c m)(hs:bT m S)(inv:Inv 0 S):aj Tryz.prog 8 [ptr kb,.int .i64 now,av] h (ao λr h'=>∃l:List RP,SL uK h' r l∧(∀x∈l,SL bR h' x.sv x.q.l)∧l.map RP.q=(List.range all.length).map (Ay rs S)∧
   ∃c' m',KR h' kb sb mb c' m'∧bT m' (ph rs S all.length)∧ag [mb] h h'):=by
 obtain⟨a,cc,rfl,ie⟩:=fJ.form;obtain⟨lk,ls,lm⟩:=kr.Lm;have base:∀{h'},ag [mb] h h'->ag [] h0 h':=λc=>c0.fresh c Ys;refine f8.c<|bA (λi:Nat×Value=>[(0,ptr kb),(1,.int .i64 now),(7,i.2),(12,.slice a all.length cc),(13,.int .i64 all.length),(14,.int .i64 i.1)])
  (λi h'=>i.1<=all.length∧ag [mb] h h'∧Inv i.1 (ph rs S i.1)∧(∃c' m',KR h' kb sb mb c' m'∧bT m' (ph rs S i.1)∧∀k∈m',oA (aq i.2) k)∧
   ∃l:List RP,(OL uK 4 h' i.2 l∧∀b∈aq i.2,h.size<=b)∧(∀x∈l,SL bR h' x.sv x.q.l∧(∀b∈aq x.sv,h.size<=b)∧Eu (aq i.2) x)∧l.map RP.q=(List.range i.1).map (Ay rs S))
  (λi=>all.length-i.1) (0,.slice none 0 0) J6 ⟨ak8 _,(ag.refl h).mono Yy,inv,⟨c,m,kr,hs,λk hk=>oA.old kr hk λb hb=>(nomatch (show b∈([]:List Nat)from hb))⟩,[],⟨OL.nil,λb hb=>(nomatch (show b∈([]:List Nat)from hb))⟩,λx hx=>(nomatch hx),Y⟩ ?_
 rintro⟨i,v⟩ h1 ⟨hi,c1,inv1,⟨c',m',tM,gB,PA⟩,l,⟨ho,kq⟩,wR,iB⟩;simp only at hi inv1 gB PA ho kq wR iB;refine Bi (λah=>?_) λcp=>?_;rotate_left
 .obtain rfl:i=all.length:=V
  exact⟨l,ho.sl,λx hx=>(wR x hx).1,iB,c',m',tM,gB,c1⟩
 have Kb:i<all.length:=V
 have b1:=base c1;obtain⟨ba,oa,rfl⟩:=fJ.addr V;have aI:=(fJ.ext b1).cells Fz (i:=i) (x:=all[i]) (by simp[Kb]);have oR:l.length=i:=by have:=alC List.length iB;simpa using this
 obtain⟨va,vc,rfl,_⟩:=ho.sl.form;refine Ai V (Ai V (Ei _ (Ai (by simpa using aI 0 _ Y) ?_)));have hc:=hc i Kb;obtain⟨k8,k9,p8,p9,hu⟩:=hc.p;refine akV (NC p8 p9 hu hc.sh hc.al hc.az tM gB inv1.s8 (inv1.s9 V) (aU.ext b1) (po ht b1) ((ga all[i] (ak9 Kb)).ext b1)) ?_;rintro _ h2 ⟨⟨ra,rn,rc,la,lc,rfl,⟨sl,fr⟩,sE,fE⟩,c2,m2,⟨vi,fk2⟩,eT,in2,Fk⟩;have z1:=c1.size;have z2:=Fk.size;have c12:ag [mb] h h2:=c1.step Fk Yy;have jF:=ho.ae Fk (λb hb=>by have:=kq b hb;simp;omega);have x2:As h0 h2 (.o uK 4 (.slice va l.length vc) l):=⟨base c12,jF,λb hb=>by have:=kq b hb;have:=c0.size;omega⟩
 have w:=x2.st;intro vV h3 g3;have w:=w.new g3;refine w.st2 0 Y Y Y Y λh4 w k4=>w.fS 0 Y Y ?_;intro EU h5 g5;have w:=w.new g5;refine w.app 2 Y al5 YN Y (SL.one al5 (x:=RP.mk (Ay rs S i) ra rn rc) (w.get 0 Y)) (by simp only[ak0,aly];omega) λv' h6 w=>?_;have iA:ag (aq (.slice va l.length vc)) h2 h6:=w.ae;have bC:∀b∈aq v',b∈aq (.slice va l.length vc)∨h2.size<=b:=(w.ents 2 _ Y).2;have hO:OL uK 4 h6 v' (l++[RP.mk (Ay rs S i) ra rn rc]):=w.get 2 Y;refine Az ?_;have fk:∀k∈m2,oA (aq (.slice va l.length vc)) k:=λk hk=>(fk2 k hk).elim (λh9=>PA k h9) (λh9=>oA.new h9 λb hb=>ho.lt b hb);have nk:∀k,k<h.size->k∉aq (.slice va l.length vc):=λk hk hm=>by have:=kq k hm;omega
 have s2:∀x∈l,SL bR h2 x.sv x.q.l:=λx hx=>(wR x hx).1.ae Fk λb hb=>by have:=(wR x hx).2.1 b hb;simp;omega
 refine Ai Y (Ei (i+1,v') (Ai J6 (Ai ⟨by simp only;omega,c12.step iA (λb hb ah=>absurd (kq b hb) V),inv1.out (hc.sh _ inv1.s8 (inv1.s9 V)) (aal vi eT in2),⟨c2,m2,vi.keep iA (nk _ lk) (nk _ ls) (nk _ lm) fk,eT,λk hk=>?_⟩,_,⟨hO,λb hb=>?_⟩,λx hx=>?_,?_⟩ Yo)))
 .exact Jn (P:=λT=>oA T k) bC (fk k hk) λh9=>oA.old vi hk h9
 .rcases bC b hb with h9|h9
  .exact kq b h9
  .omega
 .rcases alf.1 hx with hx|hx
  .exact⟨(wR x hx).2.2 iA (s2 x hx),(wR x hx).2.1,Jn (P:=λT=>Eu T x) bC (wR x hx).2.2 λh9=>λhc hs=>SL.free (s2 x hx) h9 hc hs⟩
  .obtain rfl:=alE.1 hx;have f0:Eu (aq (.slice va l.length vc)) (RP.mk (Ay rs S i) ra rn rc):=λhc hs=>hs.ae hc λb hb hm=>by have:=fr b hb;have:=ho.lt b hm;omega
   exact⟨f0 iA sl,λb hb=>by have:=fr b hb;omega,Jn (P:=λT=>Eu T _) bC f0 λh9=>λhc hs=>SL.free sl h9 hc hs⟩
 .rw[alD,iB,List.range_succ,alD];rfl
end Go.Proofs.YtocgmipngoiieaaGreatDoor
namespace Go.Proofs.YtocgmipngoiieaaGreatDoor
open Go Go.Sx C
def Ey(h:af)(v:Value)(l:List RX)(h':af)(v':Value)(l':List RX):Prop:=
 ∀S bq,(∀b∈S,b<h.size)->ag S h' bq->SL dv bq v l->GX bq l->SL dv bq v' l'∧GX bq l'
def Wq{h:af}{v:Value}{l:List RX}(key:BA)(hv:SL dv h v l)(hl:l.length<=100000)(hk:key.size<4611686018427387904)(hf:oB l):aj Tryz.prog 103 [v,.string key] h (ao λr h'=>(∀S bq,(∀b∈S,b<h.size)->ag S h' bq->SL dv bq v l->SL dv bq r (mR l key))∧ag [] h h'):=by
 obtain⟨a,c,rfl,di⟩:=hv.form;refine f103.c<|akV (vP key hv V hk hf) ?_;rintro _ h9 ⟨rfl,e9⟩;have e9:=e9.symm;subst e9;obtain⟨d,hd⟩:∃d,d=mR l key:=⟨_,Y⟩
 rw[<-hd];have hi:=B' key l;cases hb:(br key l).2 with
 |false=>
  have e:d=l:=by rw[hd];unfold mR;rw[akZ (by rw[hb];simp)]
  rw[e];exact Ai (λ_ _ _ _ x=>x) (ag.refl h)
 |true=>
  obtain⟨ah,_⟩:=alq key l hb;have e:d=l.take (br key l).1++l.drop ((br key l).1+1):=by rw[hd];unfold mR;rw[ak4 hb]
  rw[e];generalize (br key l).1=i at*;refine SL.slc (lo:=0) gT hv (ak8 _) hi ?_;intro a1 _ gB;simp only[anw,anj]at gB⊢;refine Az<|SL.slc (lo:=i+1) gT hv ah (ali _) ?_;intro a2 _ eT;have e2:(l.drop (i+1)).take (l.length-(i+1))=l.drop (i+1):=by rw[amo];simp
  rw[e2]at eT;refine vT gT yP Y gB Ys ?_;intro w4 h4 fj dw kg;obtain⟨a4,c4,rfl,akA⟩:=fj.sl.form;have z4:=dw.size;refine dZ gT yP Y fj (eT.ext dw) Ys ?_;intro w6 h6 ho6 iz mU;exact Ai (λS bq hS c _=>ho6.sl.ae c λb hb hm=>by
   have:=hS b hm;rcases mU b hb with h9|h9
   .have:=kg b h9;omega
   .omega) (dw.fresh iz kg)
def pz(h:af)(v:Value)(l:List RX)(e:aA)(r:Value)(h':af):Prop:=
 (∃v' l',r=.tuple #[v',.int .i64 (dy (l.map RX.pr) e).num]∧Ey h v l h' v' l'∧RG l'∧l'.map RX.pr=(dy (l.map RX.pr) e).space (l.map RX.pr) e.key)∧ag [] h h'
def mA{h h':af}{l:List RX}{e:aA}{v:Value}{n:Int}(hf:dy (l.map RX.pr) e=.no n)(rg:RG l)(c:ag [] h h'):ao (pz h v l e) (.returned (j7 [v,.int .i64 n])) h':=
 ⟨⟨v,l,by rw[hf];rfl,λ_ _ _ _ x y=>⟨x,y⟩,rg,by rw[hf];rfl⟩,c⟩
def aej{h h':af}{l:List RX}{e:aA}{v w:Value}(hf:dy (l.map RX.pr) e=.drop)(hv:∀S bq,(∀b∈S,b<h.size)->ag S h' bq->SL dv bq v l->SL dv bq w (mR l e.key))(rg:RG l)(c:ag [] h h'):ao (pz h v l e) (.returned (j7 [w,.int .i64 0])) h':=
 ⟨⟨w,_,by rw[hf];rfl,λS bq hS c x g=>⟨hv S bq hS c x,λy hy=>g y ((vm rg.up).1 hy).1⟩,rg.drop _,by rw[hf];exact YF rg.up _⟩,c⟩
def aek{h h':af}{l:List RX}{e:aA}{v w:Value}{x:RX}(hf:dy (l.map RX.pr) e=.put x.thing)(hk:x.key=e.key)(hv:∀S bq,(∀b∈S,b<h.size)->ag S h' bq->SL dv bq w (iX l x))(rg:RG l)(hl:(br x.key l).2=true∨l.length<65536)(hz:e.key.size<4611686018427387904)(hn:py x.thing)(tx:∀S bq,(∀b∈S,b<h.size)->ag S h' bq->GX bq l->TH bq x.vs x.thing)(c:ag [] h h'):ao (pz h v l e) (.returned (j7 [w,.int .i64 0])) h':=by
 refine⟨⟨w,_,by rw[hf];rfl,λS bq hS c _ g=>⟨hv S bq hS c,λy hy=>?_⟩,rg.put hl (by rw[hk];exact hz) (SJ rg.ins hf) hn,by rw[hf,aeS rg.up,hk];rfl⟩,c⟩;rcases(oh rg.up).1 hy with rfl|⟨hy,_⟩
 .exact tx S bq hS c g
 .exact g y hy
def YQ{r:aB×Int}{there full:Bool}(h:r.2≠0):d' r there full=.no r.2:=by unfold d';rw[ak4 h]
def YP{r:aB×Int}{there full:Bool}(h:r.2=0)(h2:r.1.kind≠1∧dX r.1=0):d' r there full=.drop:=by unfold d';rw[akZ (by simp[h]),ak4 h2]
def Pm{r:aB×Int}{there full:Bool}(h:r.2=0)(h2:¬(r.1.kind≠1∧dX r.1=0))(h3:65536<dX r.1∨(there=false∧full=true)):d' r there full=.no 3:=by unfold d';rw[akZ (by simp[h]),akZ h2,ak4 h3]
def YR{r:aB×Int}{there full:Bool}(h:r.2=0)(h2:¬(r.1.kind≠1∧dX r.1=0))(h3:¬(65536<dX r.1∨(there=false∧full=true))):d' r there full=.put r.1:=by unfold d';rw[akZ (by simp[h]),akZ h2,akZ h3]
variable{b3 fH:Nat}{h:af}{us:List Value}
def ael{h5:af}{v:Value}{l:List RX}{e:aA}{r:aB×Int}{there:Bool}(hv:SL dv h v l)(g:GX h l)(rg:RG l)(c5:ag [] h h5)(B3:ai h5 b3 (cf e))(jO:ai h5 fH us)(tx:TH h5 us r.1)(txk:∀S bq,(∀b∈S,b<h.size)->ag S h5 bq->GX bq l->TH bq us r.1)(h0:r.2=0)(hf:dy (l.map RX.pr) e=d' r there (decide (65536<=l.length)))(gf:(br e.key l).2=there)(hz:e.key.size<4611686018427387904)(hlen:j' r.1)(f':py r.1):swp Tryz.prog f58.sc.r.r.r.r.r.r.r.r.r.r.r.r.r (cC [.t 4,.t 5] (ao (pz h v l e))) (mk [(0,v),(3,ptr b3),(12,.bool there),(14,ptr fH)]) [] h5:=by
 obtain⟨a,cc,rfl,di⟩:=hv.form;have z5:=c5.size;have hl:=rg.len;have yes:∀h6,ag [] h h6->ag [] h5 h6->¬(r.1.kind≠1∧dX r.1=0)->
   swp Tryz.prog f58.sc.r.r.r.r.r.r.r.r.r.r.r.r.r.r (cC [.t 4,.t 5] (ao (pz h (.slice a l.length cc) l e))) (mk [(0,.slice a l.length cc),(3,ptr b3),(12,.bool there),(14,ptr fH)]) [] h6:=by
  intro h6 c6 d6 dt;have C3:=B3.ae d6 Yy;have yf:=jO.ae d6 Yy;have MZ:=tx.ext d6;refine Ei us (Ai MZ.len (Ai (akW yf)<|akV (NV MZ hlen) ?_));rintro _ h7 ⟨rfl,c7⟩;have Bo:=c6.nil c7;have put:¬(65536<dX r.1∨(there=false∧decide (65536<=l.length)=true))->
    swp Tryz.prog f58.sc.r.r.r.r.r.r.r.r.r.r.r.r.r.r.r (cC [.t 4,.t 5] (ao (pz h (.slice a l.length cc) l e))) (mk [(0,.slice a l.length cc),(3,ptr b3),(14,ptr fH)]) [] h7:=by
   intro wX;rw[YR h0 dt wX]at hf;have Ek:=MZ.ext c7;refine Ei _ (Ai (an (C3.ae c7 Yy) Y)<|Ei us (Ai Ek.len (Ai (akW (yf.ae c7 Yy))<|akV (NU ⟨e.key,r.1,us,Ek.len,dB Ek⟩ (hv.ext Bo) V hz rg.fit) ?_)));rintro w h8 ⟨ho,fr,c8⟩;have z7:=Bo.size;refine aek (x:=⟨e.key,r.1,us,Ek.len,dB Ek⟩) hf Y (λS bq hS c=>ho.sl.ae c λb hb hm=>by have:=fr b hb;have:=hS b hm;omega) rg ?_ hz f' (λS bq hS c gx=>txk S bq hS ((((d6.nil c7).nil c8).mono Yy).step c λk hk _=>hk) gx) (Bo.nil c8);show(br e.key l).2=true∨_;rw[gf];cases there with
   |true=>exact .inl Y
   |false=>
    refine .inr ?_;rcases amQ l.length 65536 with h|h
    .exact h
    .exact absurd (.inr ⟨Y,ale h⟩) wX
  refine Bi (λuR=>?_) λuR=>?_
  .rw[Pm h0 dt (.inl V)]at hf;exact mA hf rg Bo
  .cases Q3:there with
   |true=>
    subst Q3;exact aW [(0,.slice a l.length cc),(3,ptr b3),(14,ptr fH)] J3 (put (λh=>h.elim (λh=>V) (λh=>Bool.noConfusion h.1)))
   |false=>
    subst Q3;refine Bi (λal8=>?_) λal8=>?_
    .rw[Pm h0 dt (.inr ⟨Y,ale V⟩)]at hf;exact mA hf rg Bo
    .exact aW [(0,.slice a l.length cc),(3,ptr b3),(14,ptr fH)] J3 (put (λh=>h.elim (λh=>V) (λh=>by have:=amy h.2;omega)))
 refine Ei _ (Ai (an jO tx.kind)<|Bi (λhk=>?_) λhk=>?_)
 .refine Ei us (Ai tx.len (Ai (akW jO)<|akV (NV tx hlen) ?_));rintro _ h6 ⟨rfl,c6⟩;refine Bi (λhc=>?_) λhc=>?_
  .rw[YP h0 ⟨hk,V⟩]at hf;refine Ei _ (Ai (an (B3.ae c6 Yy) Y)<|akV (Wq e.key (hv.ext (c5.nil c6)) V hz rg.fit) ?_);rintro w h7 ⟨hs,c7⟩;exact aej hf (λS bq hS c x=>hs S bq (λb hb=>by have:=hS b hb;have:=(c5.nil c6).size;omega) c x) rg ((c5.nil c6).nil c7)
  .exact aW [(0,.slice a l.length cc),(3,ptr b3),(12,.bool there),(14,ptr fH)] J4 (yes h6 (c5.nil c6) c6 (λh=>hc V))
 .exact aW [(0,.slice a l.length cc),(3,ptr b3),(12,.bool there),(14,ptr fH)] J4 (yes h5 c5 (ag.refl h5) (λh=>h.1 (amx.1 hk)))
def SO{h3:af}{v:Value}{l:List RX}{e:aA}{t:aB}{there:Bool}{kd:Int}(hv:SL dv h v l)(g:GX h l)(rg:RG l)(c3:ag [] h h3)(B3:ai h3 b3 (cf e))(jO:ai h3 fH us)(rP:b3≠fH)(hb:h.size<=fH)(tx:∀S h',(∀b∈S,b<h.size)->ag S h h'->GX h' l->TH h' us t)(uX:zQ e.op=kd)(gW:kd≠0∧t.kind≠kd->dy (l.map RX.pr) e=.no 170)(mW:¬(kd≠0∧t.kind≠kd)->dy (l.map RX.pr) e=d' (bm t e) there (decide (65536<=l.length)))(gf:(br e.key l).2=there)(hz:e.key.size<4611686018427387904)(si:e.name.size<4611686018427387904)(Dl:e.text.size<4611686018427387904)(ig:dX t<=65536)(f':py t)(ax:¬(kd≠0∧t.kind≠kd)->e.op=9∨e.op=10->t.list≠[]):swp Tryz.prog f58.sc.r.r.r.r.r.r.r.r.r.r (cC [.t 4,.t 5] (ao (pz h v l e))) (mk [(0,v),(3,ptr b3),(6,.int .i64 e.op),(12,.bool there),(14,ptr fH)]) [] h3:=by
 have sw:=tx [] h3 Yy c3 (g.ext c3);have z3:=c3.size;have rQ:j' t:=by unfold dX at ig;exact⟨V,V,V⟩
 have rest:¬(kd≠0∧t.kind≠kd)->swp Tryz.prog f58.sc.r.r.r.r.r.r.r.r.r.r.r (cC [.t 4,.t 5] (ao (pz h v l e))) (mk [(0,v),(3,ptr b3),(12,.bool there),(14,ptr fH)]) [] h3:=by
  intro hg;have hf:=mW hg;refine Ei us (Ai sw.len (Ai (akW jO)<|Ei (cf e) (Ai Y (Ai (akW B3)<|akV (YA sw rQ f' si (ax hg)) ?_))));rintro _ h4 ⟨⟨VH,t',rfl,kp,mu⟩,c4⟩;have MY:=kp [] h4 Yy (ag.refl h4) (sw.ext c4);refine Ei _ (Ai (jO.ae c4 Yy) (Ai (by rw[sw.len];decide) (Ai MY.len (Ai (dB MY) ?_))));intro h5 p5;have yf:ai h5 fH VH:=by
   have h8:ai h5 fH (splice us 0 VH):=p5.blk;rw[seven sw.len MY.len]at h8;exact h8
  have c5:ag [] h h5:=(c3.nil c4).fresh p5.ae (by simp;exact hb);have C3:ai h5 b3 (cf e):=(B3.ae c4 Yy).ae p5.ae (by simp;exact rP);refine Bi (λhe=>?_) λhe=>?_
  .rw[YQ he]at hf;exact mA hf rg c5
  .have h0:=amx.1 he;have e':=mu h0;subst e';have wI:=I8 (t:=t) (e:=e);have oQ:j' (bm t e).1:=by unfold dX at wI ig;exact⟨V,V,V⟩
   have akx:fH<h4.size:=(jO.ae c4 Yy).lt;refine aW [(0,v),(3,ptr b3),(12,.bool there),(14,ptr fH)] J4 (ael (r:=bm t e) hv g rg c5 C3 yf (kp [fH] h5 (by simp;exact jO.lt) p5.ae (tx [] h5 Yy c5 (g.ext c5))) (λS bq hS c gx=>kp (fH::S) bq (λb hb=>(ak3.1 hb).elim (λe=>by rw[e];exact jO.lt) (λhb=>by have:=hS b hb;omega)) ((p5.ae.mono Yy).step c (λk hk _=>alr _ hk)) (tx S bq hS ((c5.mono Yy).step c λk hk _=>hk) gx)) h0 hf gf hz oQ (amw f' si Dl))
 refine iw (GD e.op) ?_;rintro _ h9 ⟨rfl,e9⟩;have e9:=e9.symm;subst e9;refine Ai (ag.refl _).ext ?_;rw[uX];refine Bi (λbP=>?_) λbP=>?_
 .refine Ei _ (Ai (an jO sw.kind)<|iw (GD e.op) ?_);rintro _ h9 ⟨rfl,e9⟩;have e9:=e9.symm;subst e9;refine Ai (ag.refl _).ext ?_;rw[uX];refine Bi (λdR=>?_) λdR=>?_
  .exact mA (gW ⟨bP,dR⟩) rg c3
  .exact aW [(0,v),(3,ptr b3),(12,.bool there),(14,ptr fH)] J4 (rest (λh=>dR h.2))
 .exact aW [(0,v),(3,ptr b3),(12,.bool there),(14,ptr fH)] J4 (rest (λh=>bP h.1))
def aem{h1:af}{v:Value}{l:List RX}{e:aA}{r:ib}(hv:SL dv h v l)(g:GX h l)(rg:RG l)(g1:jr h h1 b3 (cf e))(hr:fD e.op=some r)(ha:¬nP r e)(CL:¬oY e):swp Tryz.prog f58.sc.r.r.r.r.r (cC [.t 4,.t 5] (ao (pz h v l e))) (mk [(0,v),(3,ptr b3),(6,.int .i64 e.op)]) [] h1:=by
 obtain⟨hzk,kN,hzt⟩:e.key.size<=1048576∧e.name.size<=1048576∧e.text.size<=1048576:=by
  unfold oY at CL;omega
 have B3:ai h1 b3 (cf e):=g1.blk;have i3:=g1.id;have z1:=g1.size;have c1:=g1.ae;have bL:=hv.ext c1;obtain⟨a,cc,rfl,di⟩:=hv.form;have hl:=rg.len;have Q1:(l.map RX.pr).length=l.length:=Yy
 have Ga:zQ e.op=r.kind:=by unfold zQ;rw[hr]
 refine Ei _ (Ai (an B3 Y)<|akV (vP e.key bL V V rg.fit) ?_);rintro _ h9 ⟨rfl,e9⟩;have e9:=e9.symm;subst e9;obtain⟨i,hi⟩:∃i,i=(br e.key l).1:=⟨_,Y⟩
 obtain⟨fo,uU⟩:∃fo,fo=(br e.key l).2:=⟨_,Y⟩
 rw[<-hi,<-uU];have rest:∀GP:Bool,GP=r.makes->swp Tryz.prog f58.sc.r.r.r.r.r.r.r (cC [.t 4,.t 5] (ao (pz h (.slice a l.length cc) l e))) (mk [(0,.slice a l.length cc),(3,ptr b3),(6,.int .i64 e.op),(11,.int .i64 i),(12,.bool fo),(13,.bool GP)]) [] h1:=by
  intro GP lJ;cases Qh:fo with
  |false=>
   subst Qh;have fz:=Jj rg.up uU.symm;cases Qx:GP with
   |false=>
    subst Qx;exact mA (aac hr ha CL fz lJ.symm) rg c1
   |true=>
    subst Qx;have Qf:=Z9 hr ha CL fz lJ.symm;rw[Q1]at Qf;refine akV (GD e.op) ?_;rintro _ h9 ⟨rfl,e9⟩;have e9:=e9.symm;subst e9;rw[Ga];intro fH h2 g2;have tz:∀h',TH h' [.int .i64 r.kind,.string ⟨#[]⟩,.slice none 0 0,.slice none 0 0,.slice none 0 0,.bool false,.int .i64 0] ({aL with kind:=r.kind}:aB):=λh'=>⟨_,_,_,Y,SL.nil,SL.nil,SL.nil⟩
    refine Ei _ (Ai g2.blk (Ai Dd (Ai Y (Ai (dB (tz h2)) ?_))));intro h3 p3;have g3:=g2.put p3;have jO:ai h3 fH [.int .i64 r.kind,.string ⟨#[]⟩,.slice none 0 0,.slice none 0 0,.slice none 0 0,.bool false,.int .i64 0]:=p3.blk;have Rh:=g3.id;refine Ef<|aW [(0,.slice a l.length cc),(3,ptr b3),(6,.int .i64 e.op),(12,.bool false),(14,ptr fH)] J5
     (SO hv g rg (c1.nil g3.ae) (B3.ae g3.ae Yy) jO V V (λ_ h' _ _ _=>tz h') Ga (λh=>absurd Y h.2) (λ_=>Qf) uU.symm V V V ?_ ⟨?_,?_,?_⟩ (λ_ ho=>?_))
    .show dX aL<=_;decide
    .intro x hx;exact absurd hx (by simp[aL])
    .intro x hx;exact absurd hx (by simp[aL])
    .intro x hx;exact absurd hx (by simp[aL])
    .rw[(Ru hr ho).2]at lJ;cases lJ
  |true=>
   subst Qh;obtain⟨ah,mj⟩:=alq e.key l uU.symm;have hit:∃ah:i<l.length,l[i].key=e.key:=by subst hi;exact⟨ah,mj⟩
   clear ah mj;obtain⟨ah,mj⟩:=hit;have qL:=FH rg.up ah mj;have dF:l[i]∈l:=ak9 ah;refine akV (GD e.op) ?_;rintro _ h9 ⟨rfl,e9⟩;have e9:=e9.symm;subst e9;rw[Ga];intro fH h2 g2;have tz:∀h',TH h' [.int .i64 r.kind,.string ⟨#[]⟩,.slice none 0 0,.slice none 0 0,.slice none 0 0,.bool false,.int .i64 0] ({aL with kind:=r.kind}:aB):=λh'=>⟨_,_,_,Y,SL.nil,SL.nil,SL.nil⟩
   refine Ei _ (Ai g2.blk (Ai Dd (Ai Y (Ai (dB (tz h2)) ?_))));intro h3 p3;have g3:=g2.put p3;have jO:ai h3 fH [.int .i64 r.kind,.string ⟨#[]⟩,.slice none 0 0,.slice none 0 0,.slice none 0 0,.bool false,.int .i64 0]:=p3.blk;have Rh:=g3.id;have z3:=g3.size;have c3:=c1.nil g3.ae;have Gn:=hv.ext c3;obtain⟨b,o,rfl⟩:=Gn.addr V;have aI:=Gn.cells gT (i:=i) (x:=l[i]) (by simp[ah]);refine Ai V (Ai V (Ei l[i].vs (Ai l[i].len (Ai (pG aI)<|Ei _ (Ai jO (Ai (by simp[l[i].len]) (Ai l[i].len (Ai l[i].one ?_))))))));intro h4 p4;have yf:ai h4 fH l[i].vs:=by
    have h8:ai h4 fH (splice _ 0 l[i].vs):=p4.blk;rw[seven Y l[i].len]at h8;exact h8
   have c4:ag [] h h4:=c3.fresh p4.ae Ys;have ti:=rg.uk _ dF;refine aW [(0,.slice (some ⟨b,o,none⟩) l.length cc),(3,ptr b3),(6,.int .i64 e.op),(12,.bool true),(14,ptr fH)] J5
    (SO hv g rg c4 ((B3.ae g3.ae Yy).ae p4.ae Ys) yf V V (λ_ h' _ _ gx=>gx _ dF) Ga (λh=>aab hr ha CL qL h) (λh=>?_) uU.symm V V V ti.good.few (rg.nm _ dF) (λh ho=>?_))
   .rw[aag hr ha CL qL h,Q1]
   .obtain⟨k3,_⟩:=Ru hr ho;exact ti.some (by rw[<-k3];exact amx.1 (λax=>h ⟨by rw[k3];decide,ax⟩))
 refine Bi (λh2=>?_) λn2=>?_
 .exact aW [(0,.slice a l.length cc),(3,ptr b3),(6,.int .i64 e.op),(11,.int .i64 i),(12,.bool fo),(13,.bool true)] J6 (rest true (zX hr (.inl h2)).symm)
 refine Bi (λh5=>?_) λn5=>?_
 .exact aW [(0,.slice a l.length cc),(3,ptr b3),(6,.int .i64 e.op),(11,.int .i64 i),(12,.bool fo),(13,.bool true)] J6 (rest true (zX hr (.inr (.inl h5))).symm)
 refine Bi (λh7=>?_) λn7=>?_
 .exact aW [(0,.slice a l.length cc),(3,ptr b3),(6,.int .i64 e.op),(11,.int .i64 i),(12,.bool fo),(13,.bool true)] J6 (rest true (zX hr (.inr (.inr (.inl h7)))).symm)
 refine Bi (λh8=>?_) λn8=>?_
 .exact aW [(0,.slice a l.length cc),(3,ptr b3),(6,.int .i64 e.op),(11,.int .i64 i),(12,.bool fo),(13,.bool true)] J6 (rest true (zX hr (.inr (.inr (.inr (.inl h8))))).symm)
 refine Bi (λcO=>?_) λn12=>?_
 .exact aW [(0,.slice a l.length cc),(3,ptr b3),(6,.int .i64 e.op),(11,.int .i64 i),(12,.bool fo),(13,.bool true)] J6 (rest true (zX hr (.inr (.inr (.inr (.inr (.inl cO)))))).symm)
 refine Bi (λdJ=>?_) λn14=>?_
 .exact aW [(0,.slice a l.length cc),(3,ptr b3),(6,.int .i64 e.op),(11,.int .i64 i),(12,.bool fo),(13,.bool true)] J6 (rest true (zX hr (.inr (.inr (.inr (.inr (.inr dJ)))))).symm)
 exact aW [(0,.slice a l.length cc),(3,ptr b3),(6,.int .i64 e.op),(11,.int .i64 i),(12,.bool fo),(13,.bool false)] J6 (rest false (adI hr n2 n5 n7 n8 n12 n14).symm)
def Wt{v:Value}{l:List RX}{e:aA}(hv:SL dv h v l)(g:GX h l)(rg:RG l):aj Tryz.prog 58 [v,.agg ⟨cf e⟩] h (ao (pz h v l e)):=by
 refine f58.c ?_;intro b3 h1 g1;have B3:ai h1 b3 (cf e):=g1.blk;have c1:=g1.ae;refine Ei _ (Ai (an B3 Y)<|akV (ahZ e.op) ?_);rintro r0 h9 ⟨zE,e9⟩;have e9:=e9.symm;subst e9;cases hr:fD e.op with
 |none=>
  have:AR e.op=.tuple #[.bool false,.bool false,.bool false,.bool false]:=by unfold AR;rw[hr]
  rw[this]at zE;subst zE;exact mA (aah hr) rg c1
 |some r=>
  have:AR e.op=.tuple #[.bool r.name,.bool r.text,.bool r.number,.bool true]:=by unfold AR;rw[hr]
  rw[this]at zE;subst zE;have vk:¬nP r e->swp Tryz.prog f58.sc.r.r.r.r (cC [.t 4,.t 5] (ao (pz h v l e))) (mk [(0,v),(3,ptr b3),(6,.int .i64 e.op)]) [] h1:=by
   intro ha;refine Ei _ (Ai (an B3 Y)<|Bi (λw0=>?_) λw0=>?_)
   .exact mA (Jf hr ha (.inl V)) rg c1
   refine Ei _ (Ai (an B3 Y)<|Bi (λw1=>?_) λw1=>?_)
   .exact mA (Jf hr ha (.inr (.inl V))) rg c1
   refine Ei _ (Ai (an B3 Y)<|Bi (λw2=>?_) λw2=>?_)
   .exact mA (Jf hr ha (.inr (.inr V))) rg c1
   exact aW [(0,v),(3,ptr b3),(6,.int .i64 e.op)] J3 (aem hv g rg g1 hr ha (by unfold oY;omega))
  obtain⟨nm,f'⟩:∃x,x=r.name:=⟨_,Y⟩
  obtain⟨tx,htx⟩:∃x,x=r.text:=⟨_,Y⟩
  obtain⟨nu,nX⟩:∃x,x=r.number:=⟨_,Y⟩
  rw[<-f',<-htx,<-nX];cases h0:nm with
  |true=>
   subst h0;cases h1:tx with
   |true=>
    subst h1;cases h2:nu with
    |true=>
     subst h2;exact Ef<|aW [(0,v),(3,ptr b3),(6,.int .i64 e.op)] J3 (vk (λh=>h.elim (λh=>Bool.noConfusion (f'.trans h.1)) (λh=>h.elim (λh=>Bool.noConfusion (htx.trans h.1)) (λh=>Bool.noConfusion (nX.trans h.1)))))
    |false=>
     subst h2;refine Ei _ (Ai (an B3 Y)<|Bi (λax=>?_) λheq=>?_)
     .exact mA (wy hr (.inr (.inr ⟨nX.symm,ax⟩))) rg c1
     .have wM:=heq;exact aW [(0,v),(3,ptr b3),(6,.int .i64 e.op)] J3 (vk (λh=>h.elim (λh=>Bool.noConfusion (f'.trans h.1)) (λh=>h.elim (λh=>Bool.noConfusion (htx.trans h.1)) (λh=>wM h.2))))
   |false=>
    subst h1;refine Ei _ (Ai (an B3 Y)<|Ai (λax=>?_) (λheq=>?_))
    .exact mA (wy hr (.inr (.inl ⟨htx.symm,ax⟩))) rg c1
    .have Cz:=heq;cases h2:nu with
     |true=>
      subst h2;exact aW [(0,v),(3,ptr b3),(6,.int .i64 e.op)] J3 (vk (λh=>h.elim (λh=>Bool.noConfusion (f'.trans h.1)) (λh=>h.elim (λh=>Cz h.2) (λh=>Bool.noConfusion (nX.trans h.1)))))
     |false=>
      subst h2;refine Ei _ (Ai (an B3 Y)<|Bi (λax=>?_) λheq=>?_)
      .exact mA (wy hr (.inr (.inr ⟨nX.symm,ax⟩))) rg c1
      .have wM:=heq;exact aW [(0,v),(3,ptr b3),(6,.int .i64 e.op)] J3 (vk (λh=>h.elim (λh=>Bool.noConfusion (f'.trans h.1)) (λh=>h.elim (λh=>Cz h.2) (λh=>wM h.2))))
  |false=>
   subst h0;refine Ei _ (Ai (an B3 Y)<|Ai (λax=>?_) (λheq=>?_))
   .exact mA (wy hr (.inl ⟨f'.symm,ax⟩)) rg c1
   .have F5:=heq;cases h1:tx with
    |true=>
     subst h1;cases h2:nu with
     |true=>
      subst h2;exact aW [(0,v),(3,ptr b3),(6,.int .i64 e.op)] J3 (vk (λh=>h.elim (λh=>F5 h.2) (λh=>h.elim (λh=>Bool.noConfusion (htx.trans h.1)) (λh=>Bool.noConfusion (nX.trans h.1)))))
     |false=>
      subst h2;refine Ei _ (Ai (an B3 Y)<|Bi (λax=>?_) λheq=>?_)
      .exact mA (wy hr (.inr (.inr ⟨nX.symm,ax⟩))) rg c1
      .have wM:=heq;exact aW [(0,v),(3,ptr b3),(6,.int .i64 e.op)] J3 (vk (λh=>h.elim (λh=>F5 h.2) (λh=>h.elim (λh=>Bool.noConfusion (htx.trans h.1)) (λh=>wM h.2))))
    |false=>
     subst h1;refine Ei _ (Ai (an B3 Y)<|Ai (λax=>?_) (λheq=>?_))
     .exact mA (wy hr (.inr (.inl ⟨htx.symm,ax⟩))) rg c1
     .have Cz:=heq;cases h2:nu with
      |true=>
       subst h2;exact aW [(0,v),(3,ptr b3),(6,.int .i64 e.op)] J3 (vk (λh=>h.elim (λh=>F5 h.2) (λh=>h.elim (λh=>Cz h.2) (λh=>Bool.noConfusion (nX.trans h.1)))))
      |false=>
       subst h2;refine Ei _ (Ai (an B3 Y)<|Bi (λax=>?_) λheq=>?_)
       .exact mA (wy hr (.inr (.inr ⟨nX.symm,ax⟩))) rg c1
       .have wM:=heq;exact aW [(0,v),(3,ptr b3),(6,.int .i64 e.op)] J3 (vk (λh=>h.elim (λh=>F5 h.2) (λh=>h.elim (λh=>Cz h.2) (λh=>wM h.2))))
end Go.Proofs.YtocgmipngoiieaaGreatDoor
