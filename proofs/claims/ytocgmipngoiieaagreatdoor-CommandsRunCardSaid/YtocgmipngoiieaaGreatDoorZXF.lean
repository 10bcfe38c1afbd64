/-
  Part 6 of the proof of CommandsRun.
-/
import Derived.Test.YtocgmipngoiieaaGreatDoorCards
import Derived.Test.YtocgmipngoiieaaGreatDoorTie
import Derived.Deep.DeepHandedRow
import Derived.ProofKit
import Derived.Test.YtocgmipngoiieaaGreatDoorZXE
set_option linter.defProp false
set_option linter.unusedVariables false
set_option linter.unusedSimpArgs false
namespace Go.Proofs.YtocgmipngoiieaaGreatDoor
open Go Go.Sx C
def Nn(h:af)(v:Value)(l:List RX)(d:List aA)(r:Value)(h':af):Prop:=
 (∃v' l',r=.tuple #[v',.int .i64 (eK (l.map RX.pr) d).2.1,.int .i64 (eK (l.map RX.pr) d).2.2]∧Ey h v l h' v' l'∧RG l'∧l'.map RX.pr=(eK (l.map RX.pr) d).1)∧ag [] h h'
def Oa{h h':af}{l l':List RX}{d:List aA}{v v':Value}{k:Nat}{n:Int}(fe:eK (l.map RX.pr) d=(l'.map RX.pr,k,n))(hk:Ey h v l h' v' l')(rg:RG l')(c:ag [] h h'):ao (Nn h v l d) (.returned (j7 [v',.int .i64 k,.int .i64 n])) h':=
 ⟨⟨v',l',by rw[fe];rfl,hk,rg,by rw[fe]⟩,c⟩
def Wm{h:af}{v u:Value}{l:List RX}{d:List aA}(hv:SL dv h v l)(g:GX h l)(rg:RG l)(hu:SL cf h u d)(hd:d.length<4611686018427387904):aj Tryz.prog 24 [v,u] h (ao (Nn h v l d)):=by
 obtain⟨a,cc,rfl,di⟩:=hu.form;refine f24.c<|bA (λi:Nat×Value=>[(0,i.2),(1,.slice a d.length cc),(7,.int .i64 i.1)])
  (λi h'=>i.1<=d.length∧ag [] h h'∧∃l',Ey h v l h' i.2 l'∧RG l'∧eK (l.map RX.pr) d=((eK (l'.map RX.pr) (d.drop i.1)).1,(eK (l'.map RX.pr) (d.drop i.1)).2.1+i.1,(eK (l'.map RX.pr) (d.drop i.1)).2.2)) (λi=>d.length-i.1) (0,v)
  J3 ⟨ak8 _,ag.refl h,l,λ_ _ _ _ x y=>⟨x,y⟩,rg,Y⟩ ?_
 rintro⟨k,w⟩ h1 ⟨hk,c1,l',kx,Mu,fe⟩;simp only at hk kx fe;have z1:=c1.size;obtain⟨hw,gw⟩:=kx [] h1 Yy (ag.refl h1) (hv.ext c1) (g.ext c1);refine Bi (λah=>?_) λah=>?_
 .have ah:k<d.length:=V
  have kM:=hu.ext c1;obtain⟨b,o,rfl⟩:=kM.addr V;have aI:=kM.cells yO (i:=k) (x:=d[k]) (by simp[ah]);rw[alx ah]at fe;refine Ai V (Ai V (Ei (cf d[k]) (Ai Y (Ai aI<|akV (Wt hw gw Mu) ?_))));rintro _ h2 ⟨⟨w',l2,rfl,kx2,rw2,eF⟩,c2⟩;have c02:=c1.nil c2;refine Bi (λax=>?_) λax=>?_
  .rw[yx ax]at fe;refine Oa (l':=l') (k:=k) ?_ (λS bq hS c x y=>kx S bq hS ((c2.mono Yy).step c λk hk _=>hk) x y) Mu c02;rw[fe];simp
  .have hz:=amx.1 ax;rw[yy hz,<-eF]at fe;refine Ai Y (λz jk=>?_);have jk:=cd jk V V;subst jk;refine Ai Y (Ei (k+1,w') (Ai ?_ (Ai ?_ ?_)))
   .exact J3
   .exact⟨by simp only;omega,c02,l2,(λS bq hS c x y=>(kx S bq hS ((c2.mono Yy).step c λk hk _=>hk) x y).elim λx y=>kx2 S bq (λb hb=>by have:=hS b hb;omega) c x y),rw2,by rw[fe];simp only[anL,aoH 1 k]⟩
   .simp only;omega
 .have aZ:k=d.length:=V
  subst aZ;rw[amE,eK]at fe;refine Oa (l':=l') (k:=d.length) ?_ kx Mu c1;rw[fe];simp
def EA(now:Int)(AA:List BA)(g:Nat)(kn:Bool)(res:aH->aM):Prop:=∀{h:af}{kv av:Value}{k:List RX},SL dv h kv k->GX h k->RG k->S8 (k.map RX.pr)->S9 (k.map RX.pr)->dr h->SL encS h av AA->
 aj Tryz.prog g [kv,.int .i64 now,av] h (ao λr h'=>if kn=true then j9 h (res (k.map RX.pr)) r h' else r=kR∧ag [] h h')
def Wv(h:af)(o:cR×List aA×aH)(r:Value)(h':af):Prop:=
 ∃v' k' ra rn rc lv,r=.tuple ⟨[v',.agg ⟨[.int .i64 o.1.k,.int .i64 o.1.i,.string o.1.s,.slice ra rn rc]⟩,lv]⟩∧SL dv h' v' k'∧GX h' k'∧RG k'∧k'.map RX.pr=o.2.2∧SL bR h' (.slice ra rn rc) o.1.l∧ag [] h h'
set_option maxHeartbeats 1000000 in
def V9{h:af}{kv av:Value}{k:List RX}{now:Int}{AA:List BA}{k8 k9:Bool}{res:aH->aM}(p8:EA now AA 22 k8 res)(p9:EA now AA 23 k9 res)(hu:k8=false->k9=false->∀S,res S=.error yb)(rX:∀S,S8 S->S9 S->eQ (res S))(aw:AA.length<=20)(hz:∀a∈AA,a.size<=300)(aQ:SL dv h kv k)(gx:GX h k)(rg:RG k)(s8:S8 (k.map RX.pr))(s9:S9 (k.map RX.pr))(aU:dr h)(hA:SL encS h av AA):aj Tryz.prog 9 [kv,.int .i64 now,av] h (ao (Wv h (iK (k.map RX.pr) (res (k.map RX.pr))))):=by
 obtain⟨ka,kc,rfl,_⟩:=aQ.form;obtain⟨a,cc,rfl,ie⟩:=hA.form;have xd:=(rX _ s8 s9).2.1;obtain⟨S,hS⟩:∃S,S=k.map RX.pr:=⟨_,Y⟩
 obtain⟨rs,df⟩:∃rs,rs=res S:=⟨_,Y⟩
 rw[<-hS,<-df]at xd;rw[<-hS,<-df];refine f9.c ?_;intro b7 h1 g1;have i7:=g1.id;have z1:=g1.size;have w:=(St.start h).new g1;refine Ai Y (Ai (λh9=>absurd h9 V) (λ_=>bA (λi:Nat=>[(0,.slice ka k.length kc),(1,.int .i64 now),(2,.slice a AA.length cc),(7,ptr b7),(9,.bool false),(10,.int .i64 i)]) (λi h'=>i<=AA.length∧h'=h1) (λi=>AA.length-i) 0 J6 ⟨ak8 _,Y⟩ ?_));rintro i h' ⟨hi,e⟩;have e:=e.symm;subst e;refine Bi (λah=>?_) λcp=>?_
 .have ah:i<AA.length:=V
  obtain⟨b,o,rfl⟩:=hA.addr V;have aI:=(hA.ext w.ae).cells bj (i:=i) (x:=AA[i]) (by simp[ah]);have Rg:=hz AA[i] (ak9 ah);refine Ai V (Ai V (Ei _ (Ai (by simpa using aI 0 _ Y) ?_)));exact Ai Y (Ai (λh9=>absurd h9 V) (λ_=>Az<|Ai Y (Ei (i+1) (Ai J6 (Ai ⟨ah,Y⟩ V)))))
 refine akV (p8 (aQ.ext w.ae) (gx.ext w.ae) rg s8 s9 (aU.ext w.ae) (hA.ext w.ae)) ?_;rintro r h2 hr;cases k8 with
 |true=>?_
 |false=>?_
 rotate_left;obtain⟨rfl,c2⟩:r=kR∧ag [] _ h2:=hr;have z2:=c2.size;have w:=w.ext c2;intro EU h3 g3;have i3:=g3.id;have z3:=g3.size;have w:=w.new g3;refine w.st1 0 Y Y Y Y λh4 w=>?_;have z4:=w.ae.size;have l4:EU<h4.size:=(show ai h4 EU _ from w.get 0 Y).lt;refine akV (p9 (aQ.ext w.ae) (gx.ext w.ae) rg s8 s9 (aU.ext w.ae) (hA.ext w.ae)) ?_;rintro r h5 hr;cases k9 with
 |true=>?_
 |false=>?_
 rotate_left
 .obtain⟨rfl,c5⟩:r=kR∧ag [] _ h5:=hr;have w:=w.ext c5;refine w.st1 0 Y Y Y Y λh6 w=>?_;have hr:=hu Y Y S;rw[<-df]at hr;subst hr;refine w.aV vA λh7 w=>w.st1 1 Y Y Y Y λh8 w=>?_;exact⟨_,Y,akW (w.get 1 Y),_,k,none,0,0,.slice none 0 0,Y,aQ.ext w.ae,gx.ext w.ae,rg,hS.symm,SL.nil,w.ae⟩
 have hr:j9 h1 rs r h2:=by rw[df,hS];exact hr
 obtain⟨c2,ra,rn,rc,la,lc,rfl,⟨sl,fr⟩,sE,fE⟩:=hr.some;have w:=w.ext c2;have z2:=c2.size;intro EU h3 g3;have i3:=g3.id;have w:=w.new g3;refine w.st2 0 Y Y Y Y λh6 w k6=>?_;have Ox:ag [] h2 h6:=g3.ae.fresh k6 Ys;have sl:=sl.ext Ox;have sE:=sE.ext Ox;rotate_left;have hr:j9 h4 rs r h5:=by rw[df,hS];exact hr
 obtain⟨c5,ra,rn,rc,la,lc,rfl,⟨sl,fr⟩,sE,fE⟩:=hr.some;have w:=w.ext c5;refine w.st2 0 Y Y Y Y λh6 w k6=>?_;have sl:=sl.ae k6 (λb hb=>by have:=fr b hb;simp;omega);have sE:=sE.ae k6 (λb hb=>by have:=fE b hb;simp;omega)
 all_goals
  have l6:b7<h6.size:=(show ai h6 b7 _ from w.get 1 Y).lt;refine akV (Wm (aQ.ext w.ae) (gx.ext w.ae) rg sE (by rcases xd with h9|⟨h9,_⟩<;>omega)) ?_;rintro _ h7 ⟨⟨v',k',e,kx,rg',eF⟩,c7⟩;rw[<-hS]at e eF;subst e;have w:=w.ext c7;have sl:=sl.ext c7;refine Bi (λax=>?_) λax=>?_
  .rw[show iK S rs=(gF 2 0 VJ,[],S)from akZ ax];refine w.aV vA λh8 w=>w.st1 1 Y Y Y Y λh9 w=>?_;exact⟨_,Y,akW (w.get 1 Y),_,k,none,0,0,_,Y,aQ.ext w.ae,gx.ext w.ae,rg,hS.symm,SL.nil,w.ae⟩
  .rw[show iK S rs=((iJ rs).1,(iJ rs).2,(eK S (iJ rs).2).1)from ak4 (amx.1 ax)];refine w.fS 0 Y Y<|w.st2 1 Y Y Y Y λh8 w k8=>?_;have zw:=w.ae.size;obtain⟨Dh,gx'⟩:=kx [b7] h8 (λb hb=>by rw[alE.1 hb];omega) k8 (aQ.ext w.ae) (gx.ext w.ae);exact⟨_,Y,akW (w.get 1 Y),v',k',ra,rn,rc,_,Y,Dh,gx',rg',eF,sl.ae k8 (λb hb hm=>by have:=fr b hb;have:=alE.1 hm;omega),w.ae⟩
end Go.Proofs.YtocgmipngoiieaaGreatDoor
namespace Go.Proofs.YtocgmipngoiieaaGreatDoor
open Go Go.Sx C
def RV:∀{L:List (List UInt8×Nat×Option Int)}{w:BA},jz L w=none->∀n∈L.map Prod.fst,w≠kD n
 |[],w,h,n,hn=>(nomatch hn)
 |(n',g',z)::L,w,h,n,hn=>by
  simp only[jz]at h;split at h
  .cases h
  .rename_i hw;rcases ak3.1 hn with rfl|hn
   .exact hw
   .exact RV h n hn
section
variable {now:Int}{w N:BA}{A AA:List BA}
def ae1(bw:jz lu N=none)(h:af):aj Tryz.prog 47 [.string N] h (ao λr h'=>r=.tuple #[.int .i64 0,.int .i64 0,.bool false]∧h'=h):=by
 have ne:∀n∈lu.map Prod.fst,N≠kD n:=RV bw;refine f47.c ?_
 repeat refine Ai (λhe=>absurd he (ne _ Dd)) (λ_=>?_)
 exact⟨Y,Y⟩
def ae4{h:af}{kv nv:Value}{a:Option Addr}{cc:Nat}:aj Tryz.prog 22 [kv,nv,.slice a 0 cc] h (ao λr h'=>r=kR∧ag [] h h'):=by
 refine f22.c ?_;intro b6 h1 g1;have w1:=(St.start h).new g1;refine Ai Y (Ai (λ_=>w1.st1 0 Y Y Y Y λh2 w=>?_) (λh0=>absurd Y h0));exact⟨_,Y,akW (w.get 0 Y),Y,w.ae⟩
def ae5{h:af}{kv av:Value}(hA:SL encS h av (w::A))(aw:A.length+1<=20)(pW:w.size<=300)(bw:jz lu (up w)=none):aj Tryz.prog 22 [kv,.int .i64 now,av] h (ao λr h'=>r=kR∧ag [] h h'):=by
 obtain⟨a,cc,rfl,ie⟩:=hA.form;obtain⟨b0,o0,rfl⟩:=hA.addr Yy;have hl:(w::A).length<=20:=aw;refine f22.c ?_;intro b6 h1 g1;have w1:=(St.start h).new g1;refine Ai Y (Ai (λh0=>absurd h0 Ys) (λ_=>?_));have hc0:=(hA.ext w1.ae).cells bj (i:=0) (x:=w) Yy;refine Ai Dd (Ai Yy (Ei _ (Ai (by simpa using hc0 0 _ Y) ?_)));refine w1.aV (AG V) λh2 w2=>dN (ae1 bw h2)<|w2.st1 0 Y Y Y Y λh3 w=>?_;exact⟨_,Y,akW (w.get 0 Y),Y,w.ae⟩
def Wh(now:Int)(AA:List BA):Prop:=∀{h:af}{kb sb mb c:Nat}{m:List KI}{av:Value},KR h kb sb mb c m->SL encS h av AA->aj Tryz.prog 111 [ptr kb,.int .i64 now,av] h (ao λr h'=>r=kR∧ag [] h h')
def Wi(now:Int)(AA:List BA):Prop:=∀{h:af}{kv av:Value},SL encS h av AA->aj Tryz.prog 22 [kv,.int .i64 now,av] h (ao λr h'=>r=kR∧ag [] h h')
structure NA (now:Int) (AA:List BA) (k8 k9:Bool) (res:aH->aM):Prop where
 p8:uv now AA 111 k8 res
 p9:uv now AA 112 k9 res
 r8:EA now AA 22 k8 res
 r9:EA now AA 23 k9 res
 no:k8=false->k9=false->∀S,res S=.error yb
 sh:∀S,S8 S->S9 S->eQ (res S)
def WZ:∀p∈lu,kP ala (kD p.1)=none:=Dd
def Sw(aw:AA.length<=20)(hz:∀a∈AA,a.size<=300)(bw:∀w A,AA=w::A->kP ala (up w)=none):NN now AA∧NO now AA:=by
 cases AA with
 |nil=>
  refine⟨λ{h kb sb mb c m av}kr hA=>?_,λ{h kv av}hA=>?_⟩
  .obtain⟨a,cc,rfl,_⟩:=hA.form;exact amk
  .obtain⟨a,cc,rfl,_⟩:=hA.form;exact TZ
 |cons w A=>
  have pW:=hz w Yy;exact⟨λ{h kb sb mb c m av}kr hA=>aml kr hA V V (bw _ _ Y),λ{h kv av}hA=>T8 hA aw pW (bw _ _ Y)⟩
def ad1(aw:AA.length<=20)(hz:∀a∈AA,a.size<=300)(bw:∀w A,AA=w::A->jz lu (up w)=none):Wh now AA∧Wi now AA:=by
 cases AA with
 |nil=>
  refine⟨λ{h kb sb mb c m av}kr hA=>?_,λ{h kv av}hA=>?_⟩
  .obtain⟨a,cc,rfl,_⟩:=hA.form;exact Yp
  .obtain⟨a,cc,rfl,_⟩:=hA.form;exact ae4
 |cons w A=>
  have pW:=hz w Yy;exact⟨λ{h kb sb mb c m av}kr hA=>Yq (W:=w) kr hA V V (bw _ _ Y),λ{h kv av}hA=>ae5 hA aw pW (bw _ _ Y)⟩
def WQ(hn:cy now)(aw:AA.length<=20)(hz:∀a∈AA,a.size<=300):∃k8 k9 res,NA now AA k8 k9 res:=by
 by_cases e8:∃w A p,AA=w::A∧jz lu (up w)=some p
 .obtain⟨w,A,p,rfl,hp⟩:=e8;have ako:A.length+1<=20:=aw;obtain⟨res,x1,x2,x3⟩:=WW hn (hz w Yy) V (λa ha=>hz a (alr _ ha)) hp;obtain⟨n,hm,hN⟩:=Lj hp;have QC:=WZ _ hm;rw[<-hN]at QC;obtain⟨y1,y2⟩:=Sw (now:=now) aw hz λw' A' e=>by cases e;exact QC
  exact⟨true,false,res,λkr hs s8 s9 aU ht hA=>x1 kr hs s8 s9 aU ht hA,λkr _ _ _ _ _ hA=>y1 kr hA,
   λaQ gx rg s8 s9 aU hA=>x2.get aQ gx rg.up rg.len rg.fit s8 s9 aU hA,λ_ _ _ _ _ _ hA=>y2 hA,λh9=>Bool.noConfusion h9,x3⟩
 .obtain⟨z1,z2⟩:=ad1 (now:=now) aw hz λw A e=>by
   cases hl:jz lu (up w)with
   |none=>rfl
   |some p=>exact absurd ⟨w,A,p,e,hl⟩ e8
  rcases WR (now:=now) aw hz with⟨y1,y2⟩|⟨res,x1,x2,x3⟩
  .exact⟨false,false,λ_=>.error yb,λkr _ _ _ _ _ hA=>z1 kr hA,λkr _ _ _ _ _ hA=>y1 kr hA,λ_ _ _ _ _ _ hA=>z2 hA,λ_ _ _ _ _ _ hA=>y2 hA,λ_ _ _=>rfl,λ_ _ _=>Sh.bad⟩
  .exact⟨false,true,res,λkr _ _ _ _ _ hA=>z1 kr hA,λkr hs s8 s9 aU ht hA=>x1 kr hs s8 s9 aU ht hA,λ_ _ _ _ _ _ hA=>z2 hA,
    λaQ gx rg s8 s9 aU hA=>x2.get aQ gx rg.up rg.len rg.fit s8 s9 aU hA,λ_ h9=>Bool.noConfusion h9,x3⟩
end
end Go.Proofs.YtocgmipngoiieaaGreatDoor
namespace Go.Proofs.YtocgmipngoiieaaGreatDoor
open Go Go.Sx C
def wA:BA:=⟨#[97]⟩
def Em:BA:=⟨#[105,110,99,114]⟩
def HL:aB:={aL with kind:=1,text:=⟨#[49]⟩}
def adh{h:af}(aU:dr h)(ht:K5.fw h):aj Tryz.prog 5 [] h (ao λr h'=>r=.bool true∧ag [] h h'):=by
 have hz:∀a∈[Em,wA],a.size<=300:=λa ha=>by simp at ha;rcases ha with rfl|rfl<;>decide
 have s8:S8 []:=⟨⟨List.Pairwise.nil,λp hp=>(nomatch hp),Dd,λp hp=>(nomatch hp)⟩,λp hp=>(nomatch hp),λp hp=>(nomatch hp),λp hp=>(nomatch hp),λp hp=>(nomatch hp)⟩
 have s9:S9 []:=λp hp=>(nomatch hp)
 have hf:jz lu (up Em)=some (247,some 1):=Kr
 have x1:A0 111 0 [Em,wA] (λS=>uE S 0 1 [wA]):=L4 hf ⟨Dd,Dd⟩ Dd Dd (λa ha=>hz a (alr _ ha));obtain⟨y1,_⟩:=Sw (now:=0) (AA:=[Em,wA]) Dd hz λw A e=>by cases e;kernel_rfl
 have e:iK [] (uE [] 0 1 [wA])=(gF 3 1 au,[kX wA ⟨#[49]⟩],[(wA,HL)]):=Kr
 refine f5.c<|akV Ic ?_;rintro _ h1 ⟨kb,sb,mb,rfl,ks,hm,f1,f2,f3,c1⟩;have kr:KR h1 kb sb mb 0 []:=⟨ks,hm,Yy,Yy,Yy,Yy,Yy,Yy⟩
 have hs:bT [] []:=⟨List.Pairwise.nil,Yy⟩
 intro b2 h2 g2;have sa:SL encS h2 (.slice (some ⟨b2,0,none⟩) 2 2) [Em,wA]:=⟨_,2,Y,ali _,akW g2.blk⟩
 have c2:=c1.nil g2.ae;refine akV (NC (k8:=true) (k9:=false) (res:=λS=>uE S 0 1 [wA]) (λkr hs s8 s9 aU ht hA=>x1 kr hs s8 s9 aU ht hA) (λkr _ _ _ _ _ hA=>y1 kr hA) (λh9=>Bool.noConfusion h9) (λS s8 _=>Sh.a1 λk=>Sh.by s8.bQ) Dd hz (kr.ext g2.ae) hs s8 s9 (aU.ext c2) (po ht c2) sa) ?_;rw[e];rintro _ h3 ⟨⟨ra,rn,rc,la,lc,rfl,⟨sl,fr⟩,sE,fE⟩,c',m',⟨zS,_⟩,eG,_,c3⟩;have mN:ag [] h h3:=c2.fresh c3 Ys;intro b9 h4 g4;have w:=(St.start h).ext mN;have w:=w.new g4;refine w.st2 0 Y Y Y Y λh5 w k5=>?_;have rI:ag [] h3 h5:=g4.ae.fresh k5 (by simp[g4.id]);have e2:aC [(wA,HL)] wA 0=some HL:=Kr
 have hg:=NK wA 0 (zS.ext rI) (S:=[(wA,HL)]) eG;rw[e2]at hg;refine akV hg ?_;rintro _ h6 ⟨⟨us,rfl,tu⟩,c6⟩;obtain⟨pv,lv,rv,rfl,hp,hl,hr⟩:=tu;obtain⟨pa,pc,rfl,_⟩:=hp.form;obtain⟨la1,lc1,rfl,_⟩:=hl.form;obtain⟨ra1,rc1,rfl,_⟩:=hr.form;have w:=w.ext c6;intro vV h7 g7;have w:=w.new g7;refine w.st1 0 Y Y Y Y λh8 w=>w.ld1 1 Y Y<|Ai Y (Ai (λ_=>w.ld1 1 Y Y (Ai Y (Ai (λ_=>Ai Y (Ai (λ_=>w.ld1 0 Y Y (Ai (λ_=>?_) (λax=>absurd Y ax))) (λax=>absurd Y ax))) (λax=>absurd Y ax)))) (λax=>absurd Y ax));exact⟨Y,w.ae⟩
def alJ{h h2:af}{K:Value->af->Prop}{Qp:List PanicEntry->af->Prop}(aU:dr h)(ht:K5.fw h)(c2:ag [] h h2)(hK:∀h',ag [] h h'->K (.bool true) h'):aj Tryz.prog 5 [] h2 (after K Qp):=
 akV (adh (aU.ext c2) (po ht c2)) λv h' hv=>by rw[hv.1];exact hK h' (c2.nil hv.2)
def ah0{h:af}{kb sb mb c:Nat}{m:List KI}{v:Value}{w0:List RX}(kr:KR h kb sb mb c m)(hv:SL dv h v w0)(g:GX h w0)(hW:bT m (w0.map RX.pr))(hl:w0.length<=65536):aj Tryz.prog 12 [ptr kb,v] h (ao λr h'=>r=.bool true∧ag [] h h'):=by
 have rQ:∀x∈w0,j' x.thing:=by
  intro x hx;obtain⟨i,hi,sX⟩:=alF.1 ((hW.mem x.pr).1 (als hx));have:i.thing=x.thing:=alC Prod.snd sX;rw[<-this];exact(kr.here i hi).2.2
 obtain⟨a,cc,rfl,ie⟩:=hv.form;refine f12.c ?_;intro b3 h1 g1;have w:=(St.start h).new g1;intro b4 h2 g2;have w:=w.new g2;intro b5 h3 g3;have w:=w.new g3;refine w.st1 0 Y Y Y Y λh4 w=>akV (AV (kb:=kb)) ?_;rintro _ h6 ⟨bJ,rfl,g6⟩;have w:=w.ext g6.ae;refine akV (AV (kb:=kb)) ?_;rintro _ h5 ⟨bI,rfl,g5⟩;have w:St [] h h5 [.b bI [ptr kb],.b b5 [.int .i64 0],.b b4 [.bool false],.b b3 [.slice a w0.length cc]]:=w.new g5;intro l D r h7 hD CK aS hold wT wQ hy;have kK:ag [] h5 h7:=⟨V,λk hk _=>hold k hk⟩
 have ax:D≠l:=V
 have w:=w.add (e:=qY l D r .ready) kK ⟨wQ,wT⟩ (λb hb=>by simp[qY,En.fp]at hb;omega);refine(Gz hW (λp k h'=>St [] h h' [vl p,qY l D r .ready,.b bI [ptr kb],.b b5 [.int .i64 k],.b b4 [.bool false],.b b3 [.slice a w0.length cc]]) (λ_=>False) (w.get 1 Y) (kr.ext w.ae)
  (λp h' hC eg hc=>w.add (e:=vl p) hc eg (λb hb=>by simp[vl,En.fp]at hb;omega)) (λp k h' w=>⟨w.get 2 Y,kr.ext w.ae⟩) (λp k h' bq w hc=>w.ext hc) (λp k h' us hk w tu=>?_)).mono ?_
 .have Gb:k<w0.length:=by simpa using hk
  rw[aaE hk Gb]at tu⊢;have zx:=w.get 0 Y;have w:=w.set (e':=Pz p h'[p]?) 0 Y (ag.refl _) Yy ⟨zx,Y⟩ (λb hb=>.inl hb);refine hy h' _ _ (w.get 1 Y).1 Y ?_;intro b8 h8 g8;refine Ei _ (Ai g8.blk (Ai Dd (Ai tu.len (Ai (dB tu) ?_))));intro h9 p9;have g9:jr h' h9 b8 (splice zeroV 0 us):=g8.put p9;rw[seven Y tu.len]at g9;have w:=w.new g9;have tu9:TH h9 us w0[k].thing:=tu.ext g9.ae;have L9:=(w.get 2 Y).1;refine Ai L9 (λbp t10=>?_);have w:=w.turn 2 Y ax t10;have al0:TH bp us w0[k].thing:=tu9.ch (Vv L9 t10);have Q5:=hv.ext w.ae;have acN:=(g.ext w.ae) w0[k] (ak9 Gb);obtain⟨b,o,rfl⟩:=Q5.addr V;have aI:=Q5.cells gT (i:=k) (x:=w0[k]) (by simp[Gb]);refine w.ld1 4 Y Y<|w.ld1 6 Y Y<|Ai Y (Ai (λcp=>absurd cp V) (λ_=>w.ld1 6 Y Y<|w.ld1 4 Y Y<|Ai V (Ai V (Ei _ (Ai (aI 0 _ Y)<|Ai (λax=>absurd Y ax) (λ_=>Ei us (Ai al0.len (Ai (akW (w.get 0 Y))<|w.ld1 6 Y Y<|w.ld1 4 Y Y<|Ai V (Ai V (Ei w0[k].vs (Ai w0[k].len (Ai (pG aI) ?_))))))))))));have Qg:=(rQ w0[k] (ak9 Gb)).fits;refine akV (Wu al0 acN Qg Qg) ?_;rintro r11 dO ⟨QS,iO⟩;rw[ale Y]at QS;subst QS;have w:=w.ext iO;refine w.ld1 4 Y Y<|Az<|w.st1 4 Y Y Y Y λcO w=>Ai (w.get 2 Y).1 (λdn AM=>?_);have w:=w.turn 2 Y ax AM;have oM:=w.get 1 Y;have w:=(w.pick [1,2,3,4,5,6] Dd)
  have w:=w.set (e':=vl p) 0 Y (ag.refl _) Yy oM.1 (λb hb=>.inl hb);exact .inl ⟨Y,w,oM.2⟩
 .intro e h8 he;cases e with
  |panicked ch=>exact he.elim
  |outgrown=>exact he.elim
  |returned u=>
   obtain⟨p,w⟩|hF:=he;rotate_left
   .exact hF.elim
   refine⟨.ready,none,(w.get 1 Y).1,Yy,λh9 t9=>?_⟩;have w:=w.turn 1 Y ax t9;refine w.ld1 3 Y Y<|w.ld1 5 Y Y<|Ai Y (Ai (λ_=>w.st1 4 Y Y Y Y λbp w=>Ai (w.get 1 Y).2 (λdO p11=>?_)) (λax=>absurd Yy ax));have w:=w.gone 1 Y p11.ae (λb hb=>.inl (by simp at hb;simp[qY,En.fp,hb]));exact Ei _ (Ai (an (w.get 4 Y) Y)<|Ai Y w.ae)
def Rx{h:af}{vs:List Value}{t:aB}(x:TH h vs t)(f:Fits t)(s:A9 t):aj Tryz.prog 11 [.agg ⟨vs⟩] h (ao λr h'=>(∃b,r=.bool b∧(b=false->Small t))∧ag [] h h'):=by
 have fp:=f.p;have fl:=f.l;have fr:=f.r;refine f11.c ?_;intro b1 h1 g1;have B1:ai h1 b1 vs:=g1.blk;have hc:=g1.ae;obtain⟨pv,lv,rv,rfl,hp,hl,hr⟩:=x.ext hc;obtain⟨pa,pc,rfl,_⟩:=hp.form;obtain⟨la,lc,rfl,_⟩:=hl.form;obtain⟨ra,rc,rfl,_⟩:=hr.form;have yes:ao (λr h'=>(∃b,r=.bool b∧(b=false->Small t))∧ag [] h h') (.returned (j7 [Value.bool true])) h1:=⟨⟨true,Y,λh=>by cases h⟩,hc⟩
 refine Ei _ (Ai (an B1 Y)<|Ei _ (Ai (an B1 Y)<|Ai Y (Ai (λ_=>yes) (λn1=>Ei _ (Ai (an B1 Y)<|Ai Y (Ai (λ_=>yes) (λn2=>Ei _ (Ai (an B1 Y)<|Ai Y (Ai (λ_=>yes) (λn3=>Ai Y (Ai (λ_=>yes) (λn4=>?_))))))))))));have ht:=s.text
 -- the pairs
 refine bA (λi:Nat×Int=>[(1,.pointer (some ⟨b1,0,none⟩)),(3,.int .i64 i.2),(4,.int .i64 i.1)]) (λi h'=>i.1<=t.pairs.length∧h'=h1∧0<=i.2∧i.2<=2000∧∀x∈t.pairs.take i.1,x.name.size<=2000∧x.text.size<=2000) (λi=>t.pairs.length-i.1) (0,t.text.size)
  J3 ⟨ak8 _,Y,by simp only;omega,by simp only;omega,Yy⟩ ?_
 rintro⟨k,n⟩ h3 ⟨hk,gU,fh,lK,fQ⟩;have gU:=gU.symm;subst gU;simp only at hk fh lK fQ;refine Ei _ (Ai (an B1 Y)<|Bi (λah=>?_) λah=>?_)
 .have dk:k<t.pairs.length:=V
  obtain⟨b3,o,rfl⟩:=hp.addr V;have aI:=hp.cells du (i:=k) (x:=t.pairs[k]) (by simp[dk]);obtain⟨z1,z2⟩:=s.ps t.pairs[k] (ak9 dk);refine Ei _ (Ai (an B1 Y)<|Ai V (Ai V (Ei _ (Ai (aI 0 _ Y)<|Ai Y (λy hy=>?_)))));have hy:=cd hy V V;refine Ei _ (Ai (an B1 Y)<|Ai V (Ai V (Ei _ (Ai (aI 1 _ Y)<|Ai Y (λw hw=>?_)))));have hw:=cd hw V V;refine Ai Y (Ai (λ_=>yes) (λn5=>Az<|Ai Y (Ei (k+1,w) (Ai ?_ (Ai ?_ ?_)))))
  .exact J3
  .refine⟨by simp only;omega,Y,by simp only;omega,by simp only;omega,λq hq=>?_⟩;simp only at hq;rw[iL t.pairs k dk]at hq;rcases alf.1 hq with hq|hq
   .exact fQ q hq
   .have:q=t.pairs[k]:=by simpa using hq
    rw[this];omega
  .simp only;omega
 have aZ:k=t.pairs.length:=V
 rw[aZ,alm]at fQ;clear ah aZ hk
 -- the list
 refine bA (λi:Nat×Int=>[(1,.pointer (some ⟨b1,0,none⟩)),(3,.int .i64 i.2),(5,.int .i64 i.1)]) (λi h'=>i.1<=t.list.length∧h'=h1∧0<=i.2∧i.2<=2000∧∀x∈t.list.take i.1,x.size<=2000) (λi=>t.list.length-i.1) (0,n)
  J3 ⟨ak8 _,Y,by simp only;omega,by simp only;omega,Yy⟩ ?_
 clear fh lK;rintro⟨k,n⟩ h3 ⟨hk,gU,fh,lK,jx⟩;have gU:=gU.symm;subst gU;simp only at hk fh lK jx;refine Ei _ (Ai (an B1 Y)<|Bi (λah=>?_) λah=>?_)
 .have dk:k<t.list.length:=V
  obtain⟨b3,o,rfl⟩:=hl.addr V;have aI:=hl.cells bj (i:=k) (x:=t.list[k]) (by simp[dk]);have z1:=s.ls t.list[k] (ak9 dk);refine Ei _ (Ai (an B1 Y)<|Ai V (Ai V (Ei _ (Ai (aI 0 _ Y)<|Ai Y (λw hw=>?_)))));have hw:=cd hw V V;refine Ai Y (Ai (λ_=>yes) (λn5=>Az<|Ai Y (Ei (k+1,w) (Ai ?_ (Ai ?_ ?_)))))
  .exact J3
  .refine⟨by simp only;omega,Y,by simp only;omega,by simp only;omega,λq hq=>?_⟩;simp only at hq;rw[iL t.list k dk]at hq;rcases alf.1 hq with hq|hq
   .exact jx q hq
   .have:q=t.list[k]:=by simpa using hq
    rw[this];omega
  .simp only;omega
 have aZ:k=t.list.length:=V
 rw[aZ,alm]at jx;clear ah aZ hk
 -- the ranks
 refine bA (λi:Nat×Int=>[(1,.pointer (some ⟨b1,0,none⟩)),(3,.int .i64 i.2),(6,.int .i64 i.1)]) (λi h'=>i.1<=t.ranks.length∧h'=h1∧0<=i.2∧i.2<=2000∧∀x∈t.ranks.take i.1,x.name.size<=2000) (λi=>t.ranks.length-i.1) (0,n)
  J3 ⟨ak8 _,Y,by simp only;omega,by simp only;omega,Yy⟩ ?_
 clear fh lK;rintro⟨k,n⟩ h3 ⟨hk,gU,fh,lK,df⟩;have gU:=gU.symm;subst gU;simp only at hk fh lK df;refine Ei _ (Ai (an B1 Y)<|Bi (λah=>?_) λah=>?_)
 .have dk:k<t.ranks.length:=V
  obtain⟨b3,o,rfl⟩:=hr.addr V;have aI:=hr.cells dm (i:=k) (x:=t.ranks[k]) (by simp[dk]);have z1:=s.rs t.ranks[k] (ak9 dk);refine Ei _ (Ai (an B1 Y)<|Ai V (Ai V (Ei _ (Ai (aI 0 _ Y)<|Ai Y (λw hw=>?_)))));have hw:=cd hw V V;refine Ai Y (Ai (λ_=>yes) (λn5=>Az<|Ai Y (Ei (k+1,w) (Ai ?_ (Ai ?_ ?_)))))
  .exact J3
  .refine⟨by simp only;omega,Y,by simp only;omega,by simp only;omega,λq hq=>?_⟩;simp only at hq;rw[iL t.ranks k dk]at hq;rcases alf.1 hq with hq|hq
   .exact df q hq
   .have:q=t.ranks[k]:=by simpa using hq
    rw[this];omega
  .simp only;omega
 have aZ:k=t.ranks.length:=V
 rw[aZ,alm]at df;exact⟨⟨false,Y,λ_=>⟨V,V,V,V,fQ,jx,df⟩⟩,hc⟩
def VI{h:af}{v u:Value}{l:List RX}{d:List BA}(hv:SL dv h v l)(hu:SL encS h u d)(g:GX h l)(f:Ik l)(fd:EG d):aj Tryz.prog 4 [v,u] h (ao λr h'=>(∃b,r=.bool b∧(b=false->rE l∧Ii d))∧ag [] h h'):=by
 have fl:=f.len;have fdl:=fd.len;obtain⟨a,c,rfl,di⟩:=hv.form;obtain⟨a',c',rfl,aku⟩:=hu.form;have yes:∀h',ag [] h h'->ao (λr h'=>(∃b,r=.bool b∧(b=false->rE l∧Ii d))∧ag [] h h') (.returned (j7 [Value.bool true])) h':=λh' hc=>⟨⟨true,Y,λh=>by cases h⟩,hc⟩
 refine f4.c<|Ai Y (Ai (λ_=>yes h (ag.refl h)) (λn1=>Ai Y (Ai (λ_=>yes h (ag.refl h)) (λn2=>?_))));refine bA (λk:Nat=>[(0,.slice a l.length c),(1,.slice a' d.length c'),(5,.int .i64 k)]) (λk h'=>k<=l.length∧ag [] h h'∧∀x∈l.take k,x.key.size<=300∧Small x.thing) (λk=>l.length-k) 0
  J3 ⟨ak8 _,ag.refl h,Yy⟩ ?_
 rintro k h1 ⟨hk,bd,bD⟩;have bL:=hv.ext bd;refine Bi (λht=>?_) λht=>?_
 .have ah:k<l.length:=V
  obtain⟨b,o,rfl⟩:=bL.addr V;have aI:=bL.cells gT (i:=k) (x:=l[k]) (by simp[ah]);have dF:l[k]∈l:=ak9 ah;have Qs:=f.keys _ dF;refine Ai V (Ai V (Ei _ (Ai (aI 0 _ Y)<|Ai Y (Ai (λ_=>yes h1 bd) (λn3=>Ai V (Ai V (Ei l[k].vs (Ai l[k].len (Ai (pG aI)<|akV (Rx ((g.ext bd) _ dF) (f.fits _ dF) (f.sized _ dF)) ?_)))))))));rintro _ h2 ⟨⟨b2,rfl,dU⟩,aO⟩;cases b2 with
  |true=>exact yes h2 (bd.nil aO)
  |false=>
   refine Az<|Ai Y (Ei (k+1) (Ai ?_ (Ai ?_ ?_)))
   .exact J3
   .refine⟨V,bd.nil aO,λx hx=>?_⟩;rw[iL l k ah,alf,alE]at hx;rcases hx with hx|rfl
    .exact bD x hx
    .exact⟨V,dU Y⟩
   .omega
 have aZ:k=l.length:=V
 rw[aZ,alm]at bD;clear aZ ht hk bL;have nv:rE l:=⟨V,λx hx=>(bD x hx).1,λx hx=>(bD x hx).2⟩
 refine bA (λk:Nat=>[(1,.slice a' d.length c'),(6,.int .i64 k)]) (λk h'=>k<=d.length∧ag [] h h'∧∀e∈d.take k,e.size<=300) (λk=>d.length-k) 0
  J2 ⟨ak8 _,bd,Yy⟩ ?_
 clear k bd;rintro k h1 ⟨hk,bd,bD⟩;have kM:=hu.ext bd;refine Bi (λht=>?_) λht=>?_
 .have ah:k<d.length:=V
  obtain⟨b,o,rfl⟩:=kM.addr V;have aI:=kM.cells bj (i:=k) (x:=d[k]) (by simp[ah]);have z1:=fd.each _ (ak9 ah);refine Ai V (Ai V (Ei _ (Ai (aI 0 _ Y)<|Ai Y (Ai (λ_=>yes h1 bd) (λn3=>Az<|Ai Y (Ei (k+1) (Ai ?_ (Ai ?_ ?_))))))))
  .exact J2
  .refine⟨V,bd,λx hx=>?_⟩;rw[iL d k ah,alf,alE]at hx;rcases hx with hx|rfl
   .exact bD x hx
   .omega
  .omega
 have aZ:k=d.length:=V
 rw[aZ,alm]at bD;exact⟨⟨false,Y,λ_=>⟨nv,⟨V,bD⟩⟩⟩,bd⟩
def aaa{S:aH}{e:aA}(hi:uu S):uu ((dy S e).space S e.key):=by
 unfold dy;cases hf:iq (eu S e.key) e (decide (65536<=S.length))with
 |no n=>exact hi
 |drop=>exactλp hp=>hi p (xA.1 hp).1
 |put t=>
  intro p hp;rcases zZ.1 hp with rfl|⟨hp,_⟩
  .exact(G1 hf).1.2.2
  .exact hi p hp
def Od:∀{E:List aA}{S:aH},uu S->uu (eK S E).1
 |[],S,hi=>hi
 |e::E,S,hi=>by
  by_cases hz:(dy S e).num=0
  .rw[yy hz];exact Od (aaa hi)
  .rw[yx hz];exact hi
def aeA{S:aH}{res:aM}(hi:uu S):uu (iK S res).2.2:=by
 unfold iK;split
 .exact Od hi
 .exact hi
def afj{k:List RX}(g:RG k)(hk:uu (k.map RX.pr)):yj (k.map RX.pr):=⟨xK g.up,hk,by rw[alL];exact g.len,g.ins⟩
def inv_zero{l k:List RX}(nv:rE l)(hk:gE [] l=some k)(hu:∀x∈l,cy x.thing.bQ)(hr:∀x∈l,∀r∈x.thing.ranks,cy r.score):Inv 0 (k.map RX.pr):=by
 have s8:=agG nv hk hu;obtain⟨_,h2,_⟩:=Ao List.Pairwise.nil hk;have of:∀p∈k.map RX.pr,∃x∈l,RX.pr x=p:=λp hp=>by
  obtain⟨x,hx,rfl⟩:=alF.1 hp;exact⟨x,by simpa using(h2 x).1 hx,Y⟩
 refine⟨s8.few,λp hp=>⟨?_,s8.kind p hp⟩,λp hp=>?_⟩
 .obtain⟨x,hx,rfl⟩:=of p hp;have s:=nv.small x hx;exact⟨al6 s.text Dd,hu x hx,λp hp=>⟨al6 (s.ps p hp).1 Dd,al6 (s.ps p hp).2 Dd⟩,λy hy=>al6 (s.ls y hy) Dd,λr cG=>⟨al6 (s.rs r cG) Dd,hr x hx r cG⟩⟩
 .obtain⟨x,hx,rfl⟩:=of p hp;have s:=nv.small x hx;have a:=s.p;have b:=s.l;have c:=s.r;show dX x.thing<=_;unfold dX;omega
def TN.sized{t:aB}(n:TN t):A9 t:=⟨by have:=n.tx;omega,λp hp=>by have:=n.ps p hp;omega,λp hp=>by have:=n.ls p hp;omega,λp hp=>by have:=(n.rs p hp).1;omega⟩
section
variable {h h':af}{v av kv:Value}{l k:List RX}{all:List AX}{now:Int}
def V2(h:af)(i:Nat)(kv:Value)(T:aH):Prop:=∃k,SL dv h kv k∧GX h k∧RG k∧k.map RX.pr=T∧Inv i T
def aeB{S:aH}{res:aM}(hs:eQ res):(iK S res).1.l.length<=200000:=by
 unfold iK;split
 .exact hs.1
 .exact ak8 _
set_option maxHeartbeats 1000000 in
def V'(hv:SL dv h v l)(fJ:SL BW h av all)(g:GX h l)(ga:GA h all)(f:Ik l)(aw:all.length<4611686018427387904)(fa:∀x∈all,EG x.A)(hn:cy now)(u7:∀x∈l,cy x.thing.bQ)(gA:∀x∈l,∀r∈x.thing.ranks,cy r.score)(aU:dr h)(ht:K5.fw h):aj Tryz.prog 3 [v,.int .i64 now,av] h (ao λr h'=>r=.bool true∧ag [] h h'):=by
 obtain⟨va,vc,rfl,_⟩:=hv.form;obtain⟨aa,ac,rfl,_⟩:=fJ.form;refine f3.c<|akV (VI hv SL.nil g f ⟨Dd,λe he=>(nomatch he)⟩) ?_;rintro _ h1 ⟨⟨b,rfl,hb⟩,c1⟩;cases b with
 |true=>exact alJ aU ht c1 λh2 c2=>Ai Y c2
 |false=>?_
 obtain⟨nv,_⟩:=hb Y;refine Ai Y (Ai (λ_=>alJ aU ht c1 λh2 c2=>Ai Y c2) (λPV=>?_));have PV:all.length<=30:=V
 refine bA (λi:Nat=>[(0,.slice va l.length vc),(1,.int .i64 now),(2,.slice aa all.length ac),(7,.int .i64 i)]) (λi h'=>i<=all.length∧ag [] h h'∧∀x∈all.take i,Ii x.A) (λi=>all.length-i) 0
  J4 ⟨ak8 _,c1,Yy⟩ ?_
 clear c1;rintro i h1 ⟨hi,c1,dU⟩;refine Bi (λah=>?_) λcp=>?_
 .have ah:i<all.length:=V
  obtain⟨ba,oa,rfl⟩:=fJ.addr V;have aI:=(fJ.ext c1).cells Fz (i:=i) (x:=all[i]) (by simp[ah]);have dF:all[i]∈all:=ak9 ah;refine Ai V (Ai V (Ei _ (Ai (by simpa using aI 0 _ Y) ?_)));refine akV (VI (l:=[]) SL.nil ((ga _ dF).ext c1) (λx hx=>(nomatch hx)) ⟨Dd,λx hx=>(nomatch hx),λx hx=>(nomatch hx),λx hx=>(nomatch hx)⟩ (fa _ dF)) ?_;rintro _ h2 ⟨⟨b,rfl,hb⟩,c2⟩;cases b with
  |true=>exact alJ aU ht (c1.nil c2) λh2 c2=>Ai Y c2
  |false=>?_
  refine Az<|Ai Y (Ei (i+1) (Ai J4 (Ai ⟨ah,c1.nil c2,λx hx=>?_⟩ V)));rw[iL all i ah]at hx;rcases alf.1 hx with hx|hx
  .exact dU x hx
  .rw[alE.1 hx];exact(hb Y).2
 have fY:i=all.length:=V
 rw[fY,alm]at dU;clear cp hi;have H:∀i,∃res:aH->aM,∀hi:i<all.length,∃k8 k9,NA now all[i].A k8 k9 res:=λi=>by
  by_cases hi:i<all.length
  .have sm:=dU all[i] (ak9 hi);obtain⟨k8,k9,res,c⟩:=WQ hn sm.len sm.each;exact⟨res,λ_=>⟨k8,k9,c⟩⟩
  .exact⟨λ_=>.error yb,λh9=>absurd h9 hi⟩
 obtain⟨rs,df⟩:=Classical.skolem.1 H;refine akV (We (hv.ext c1) (g.ext c1) nv) ?_;rintro r1 h2 ⟨c2,ho⟩;have c02:=c1.nil c2;cases kj:gE [] l with
 |none=>
  rw[kj]at ho;subst ho;refine akV (NW (hv.ext c02) (g.ext c02) nv) ?_;rintro r2 h3 ⟨c3,cJ⟩;have mN:=c02.nil c3;rw[kj]at cJ;subst cJ;exact Ai Y (Ai (λ_=>Ai Y (Ai (λ_=>alJ aU ht mN λh4 c4=>Ai Y c4) (λax=>absurd Y ax))) (λax=>absurd Dd ax))
 |some k=>
  rw[kj]at ho;obtain⟨kb,sb,mb,c,m,rfl,kr,eF,rS⟩:=ho;have z1:=c1.size;refine akV (NW (hv.ext c02) (g.ext c02) nv) ?_;rintro r2 h3 ⟨c3,cJ⟩;have mN:=c02.nil c3;rw[kj]at cJ;obtain⟨w,rfl,hw,hwb⟩:=cJ;have hW:=ahi eF kj;obtain⟨gg,dF,aZ⟩:=Ao List.Pairwise.nil kj;have gk:GX h3 k:=λx hx=>(g.ext mN) x (by simpa using(dF x).1 hx);have rgk:=Uh nv kj;have ame:=inv_zero nv kj u7 gA;generalize hS:k.map RX.pr=S at hW ame;refine Ai Y (Ai (λax=>absurd Y ax) (λ_=>Ai Y (Ai (λax=>absurd Y ax) (λ_=>?_))));have hcm:∀i(hi:i<all.length),NB now all[i].A (rs i):=λi hi=>by
   obtain⟨k8,k9,x⟩:=df i hi;exact⟨⟨k8,k9,x.p8,x.p9,x.no⟩,x.sh,(dU _ (ak9 hi)).len,(dU _ (ak9 hi)).each⟩
  refine akV (Ww mN V aU ht fJ ga PV hcm (kr.ext c3) hW ame) ?_;rintro _ h4 ⟨L,hL,hLq,PX,c',m',zS,eG,c4⟩;obtain⟨la,lc,rfl,_⟩:=hL.form;have JC:L.length=all.length:=by have:=alC List.length PX;simpa using this
  rw[JC]at hL⊢;have pF:ag [] h h4:=mN.fresh c4 Ys;refine Ai Y (Ai (λax=>absurd Y ax) (λ_=>?_));have z3:=c3.size;have akw:=kr.Lm;refine bA (λx:Nat×Value=>[(1,.int .i64 now),(2,.slice aa all.length ac),(8,ptr kb),(10,x.2),(12,.slice la all.length lc),(13,.int .i64 x.1)])
   (λx h'=>x.1<=all.length∧ag [] h4 h'∧V2 h' x.1 x.2 (ph rs S x.1)) (λx=>all.length-x.1) (0,w) J6
   ⟨ak8 _,ag.refl _,k,hw.sl.ae c4 (λb hb=>by have:=hwb b hb;simp;omega),λx hx=>(g.ext pF) x (by simpa using(dF x).1 hx),rgk,hS,ame⟩ ?_
  rintro⟨i,kv⟩ h5 ⟨hi,c5,k1,dR,g1,Ug,hC,xq⟩;simp only at hi dR hC xq;have sH:=pF.nil c5;refine Bi (λah=>?_) λcp=>?_;rotate_left
  .obtain rfl:i=all.length:=V
   refine akV (ah0 (zS.ext c5) dR g1 (by rw[hC];exact eG) Ug.len) ?_;rintro _ h6 ⟨rfl,c6⟩;exact alJ aU ht (sH.nil c6) λh7 c7=>Ai Y c7
  have ah:i<all.length:=V
  obtain⟨ba,oa,rfl⟩:=fJ.addr V;have aI:=(fJ.ext sH).cells Fz (i:=i) (x:=all[i]) (by simp[ah]);have Ge:all[i]∈all:=ak9 ah;obtain⟨k8,k9,x⟩:=df i ah;have sm:=dU _ Ge;have U4:=x.sh _ xq.s8 (xq.s9 V);obtain⟨o,ho⟩:∃o,o=iK (ph rs S i) (rs i (ph rs S i)):=⟨_,Y⟩
  have hT:ph rs S (i+1)=o.2.2:=by rw[ho];rfl
  have tB:=aeB (S:=ph rs S i) U4;have hc:=V9 x.r8 x.r9 x.no x.sh sm.len sm.each dR g1 Ug (by rw[hC];exact xq.s8) (by rw[hC];exact xq.s9 V) (aU.ext sH) ((ga _ Ge).ext sH);rw[hC,<-ho]at hc;rw[<-ho]at tB;have Dn:∀k,RG k->k.map RX.pr=o.2.2->Inv (i+1) o.2.2:=λk hk e=>by
   have hf:=aeA (res:=rs i (ph rs S i)) xq.few.keys;rw[<-ho,<-e]at hf;have hf:=afj hk hf;rw[e,ho]at hf;rw[ho];exact xq.out U4 hf
  refine Ai V (Ai V (Ei _ (Ai (by simpa using aI 0 _ Y) ?_)));refine akV hc ?_;rintro _ h6 ⟨v',k2,ra,rn,rc,lv,rfl,Qq,g2,Mn,eg,eC,c6⟩;obtain⟨Rp,Rq,rfl,_⟩:=Qq.form;have Dn:=Dn k2 Mn eg;intro b15 h7 g7;have u:=(St.start h6).new g7;refine u.st1 0 Y Y Y Y λh8 u=>?_;have Iz:=(c5.nil c6).nil u.ae;have Kc:i<L.length:=V
  have hq:L[i].q=o.1:=by
   have h9:(L.map RP.q)[i]? =((List.range all.length).map (Ay rs S))[i]? :=by rw[PX]
   rw[amB,amB,akU Kc,List.getElem?_range ah]at h9;rw[ho];exact amu h9
  obtain⟨lb,l0,rfl⟩:=hL.addr V;have iU:=(hL.ext Iz).cells al5 (i:=i) (x:=L[i]) (by simp[Kc]);have oe:=(hLq L[i] (ak9 Kc)).ext Iz;generalize L[i]=y at hq iU oe;obtain⟨q,ya,yn,yc⟩:=y;have hq:q=o.1:=hq;subst hq;refine Ai V (Ai V (Ei (uK ⟨o.1,ya,yn,yc⟩) (Ai Y (Ai iU<|u.fS 0 Y Y<|akV (afP (q:=o.1) (v:=.slice ya yn yc) (u:=.slice ra rn rc) oe (eC.ext u.ae) tB) ?_))));rintro _ h9 ⟨rfl,c9⟩;have Oz:ag [] h6 h9:=u.ae.nil c9;have c49:=Iz.nil c9;have g9:=g2.ext Oz;have pO:=Qq.ext Oz;have l2:=Mn.len;refine bA (λj:Nat=>[(1,.int .i64 now),(2,.slice (some ⟨ba,oa,none⟩) all.length ac),(8,ptr kb),(10,.slice Rp k2.length Rq),(12,.slice (some ⟨lb,l0,none⟩) all.length lc),(13,.int .i64 i),(17,.int .i64 j)])
   (λj h'=>j<=k2.length∧ag [] h9 h') (λj=>k2.length-j) 0 J7 ⟨ak8 _,ag.refl _⟩ ?_
  rintro j bp ⟨hj,l9⟩;have cA:=c49.nil l9;refine Bi (λeA=>?_) λhjg=>?_
  .have eA:j<k2.length:=V
   obtain⟨oX,ko2,rfl⟩:=(pO.ext l9).addr V;have qJ:=(pO.ext l9).cells gT (i:=j) (x:=k2[j]) (by simp[eA]);have zy:k2[j]∈k2:=ak9 eA;have QO:RX.pr k2[j]∈o.2.2:=by rw[<-eg];exact als zy
   have t9:T9 k2[j].thing:=Dn.s9 V _ QO;have tn:TN k2[j].thing:=(Dn.nice _ QO).1;have q1:=t9.ps;have q2:=t9.ls;have q3:=t9.rs;refine Ai V (Ai V (Ei k2[j].vs (Ai k2[j].len (Ai (pG qJ)<|akV (Rx ((g9.ext l9) _ zy) ⟨V,V,V⟩ tn.sized) ?_))));rintro _ dO ⟨⟨b2,rfl,_⟩,iO⟩;cases b2 with
   |true=>exact alJ aU ht ((pF.nil cA).nil iO) λh2 c2=>Ai Y c2
   |false=>?_
   exact Az<|Ai Y (Ei (j+1) (Ai J7 (Ai ⟨eA,l9.nil iO⟩ V)))
  refine Az<|Ai Y (Ei (i+1,.slice Rp k2.length Rq) (Ai J6 (Ai ⟨ah,cA,k2,pO.ext l9,g9.ext l9,Mn,?_,?_⟩ Yo)))
  .rw[hT];exact eg
  .rw[hT];exact Dn
end
end Go.Proofs.YtocgmipngoiieaaGreatDoor
namespace Go.Proofs.YtocgmipngoiieaaGreatDoor
open Go Go.Sx Go.ChangeShapes Go.WideShapes Go.ChangeAt Go.RowKit
def own:ownKnob Tryz.prog.godebug=none:=Kr
def laidOut:laidOutB Tryz.prog=true:=Kr
def ahs:List Int:=[0,1,28,2,29,14,24,3,30,22,20,15,25,17,4,8,31,27,13,23,21,19,16,7,26,12,18,6,11,5,10,9]
def AN:List Int:=[0,1,56,2,57,49,28,3,61,58,42,50,38,29,17,4,62,47,59,36,45,43,51,22,53,39,33,30,24,18,12,5,63,55,48,27,60,41,37,16,46,35,44,21,52,32,23,11,54,26,40,15,34,20,31,10,25,14,19,9,13,8,7,6]
def aeL:List Int:=[1,10,100,1000,10000,100000,1000000,10000000,100000000,1000000000,10000000000,100000000000,1000000000000,10000000000000,100000000000000,1000000000000000,10000000000000000,100000000000000000,1000000000000000000,10000000000000000000]
def ah2:BA:=⟨#[118,97,108,117,101,32,111,117,116,32,111,102,32,114,97,110,103,101]⟩
def ah3:BA:=⟨#[105,110,118,97,108,105,100,32,115,121,110,116,97,120]⟩
def alK:List (String×DataW Unit):=[("math/bits.deBruijn32tab",Rows.laid_math_bits_deBruijn32tab),("math/bits.deBruijn64tab",Rows.laid_math_bits_deBruijn64tab),("internal/strconv.uint64pow10",Rows.laid_internal_strconv_uint64pow10),("strconv.ErrRange",Rows.laid_strconv_ErrRange),("strconv.ErrSyntax",Rows.laid_strconv_ErrSyntax)]
def DW(vs:Array Value):Obj->Obj
 |.cells _ t frozen=>.cells vs t frozen
 |o=>o
noncomputable def bare(os:Os):World:=World.holding Tryz.prog os ⟨#[], #[],[]⟩
noncomputable def Lg(os:Os):World:=
 {bare os with heap:=((((((bare os).heap.modify 2 (DW (ahs.map λz=>Value.int .u8 z).toArray)).modify 3 (DW (AN.map λz=>Value.int .u8 z).toArray)).modify 1 (DW (aeL.map λz=>Value.int .u64 z).toArray)).modify 5
  (DW #[.iface 334 (.pointer (some ⟨(bare os).heap.size,0,none⟩))])).modify 4 (DW #[.iface 334 (.pointer (some ⟨(bare os).heap.size+1,0,none⟩))]))++
  #[.cells #[.string ah2] 336 (0,0),.cells #[.string ah3] 336 (0,0)]}
def laid_met(os:Os)(args:Array Value):laidMet Tryz.prog alK ((Lg os).forCall (λ_ _=>0) ⟨#[],args,[]⟩).memory:=
 laidMet_of_run' 8 Kr Kr
def acZ{P:Program}{W:World}{b0:Nat}{r:Reach}{t:TypeId}{v:Value}(ht:P.underlying t=some (.int .i64))(ak6:Value.okWide P W r b0 t v):∃n,v=.int .i64 n:=by
 simp only[Value.okWide,Cell.okWide,Cell.ok,ht]at ak6;split at ak6<;>simp_all
def Dv{α:Type}{l:List α}(h:l.length=2):∃a b,l=[a,b]:=by
 match l,h with
 |[a,b],_=>exact⟨a,b,Y⟩
def RF{α:Type}{l:List α}(h:l.length=7):∃a0 a1 a2 a3 a4 a5 a6,l=[a0,a1,a2,a3,a4,a5,a6]:=by
 match l,h with
 |[a0,a1,a2,a3,a4,a5,a6],_=>exact⟨a0,a1,a2,a3,a4,a5,a6,Y⟩
def len8{α:Type}{l:List α}(h:l.length=8):∃a0 a1 a2 a3 a4 a5 a6 a7,l=[a0,a1,a2,a3,a4,a5,a6,a7]:=by
 match l,h with
 |[a0,a1,a2,a3,a4,a5,a6,a7],_=>exact⟨a0,a1,a2,a3,a4,a5,a6,a7,Y⟩
section
variable {H:Type}{enc:TypeId×Value->H}{W:World}{base n:Nat}{sp:Nat->Bool}{held:Bool}{cs:List Value}{x:DataW H×List MemPlace}
def aev(h:DataW.trod enc Tryz.prog W base sp held n 77 cs=some x)(hw:kf Tryz.prog 77 x.1):∃a:aF,cs=aK a∧a.name.size<1000000000000000000∧(-9223372036854775808<=a.score∧a.score<=9223372036854775807):=by
 obtain⟨xs,m,rfl,hx,hl,jx,hi⟩:=DataW.trod_struct Tryz.underlying77 h;have c9:Tryz.prog.cellsOf 9=1:=Kr
 have c2:Tryz.prog.cellsOf 2=1:=Kr
 have cc:Tryz.prog.cellsOf 77=2:=Kr
 rw[cc]at hl;obtain⟨u,v,rfl⟩:=Dv hl;obtain⟨y,z,rfl⟩:=Dv (l:=xs) jx;have h0:=oH hi 0 9 0 1 Y Y Y c9 Y Y;have h1:=oH hi 1 2 1 1 Y Y Y c2 Y Y;have KP:kf Tryz.prog 9 y.1:=by
  intro k hk;refine hw k ?_;rw[hx];simp only[DataW.weights,Tryz.underlying77,alR,aol,DataW.weightsEach,alf];exact .inl hk
 obtain⟨nm,e0,hs⟩:=AL Tryz.underlying9 h0 KP;obtain⟨k,e1,_,Nc⟩:=DataW.trod_int Tryz.underlying2 h1;have un1: -9223372036854775808<=k∧k<=9223372036854775807:=by
  unfold Lit.wf at Nc;simp only[alO,amm]at Nc;exact Nc
 obtain⟨rfl⟩:=e0;obtain⟨rfl⟩:=e1;have:=reachBytes_lt;exact⟨⟨nm,k⟩,Y,by show nm.size<_;omega,un1⟩
def open_pair(h:DataW.trod enc Tryz.prog W base sp held n 75 cs=some x)(hw:kf Tryz.prog 75 x.1):∃a:bM,cs=aX a∧a.name.size<1000000000000000000∧a.text.size<1000000000000000000:=by
 obtain⟨xs,m,rfl,hx,hl,jx,hi⟩:=DataW.trod_struct Tryz.underlying75 h;have c9:Tryz.prog.cellsOf 9=1:=Kr
 have cc:Tryz.prog.cellsOf 75=2:=Kr
 rw[cc]at hl;obtain⟨u,v,rfl⟩:=Dv hl;obtain⟨y,z,rfl⟩:=Dv (l:=xs) jx;have h0:=oH hi 0 9 0 1 Y Y Y c9 Y Y;have h1:=oH hi 1 9 1 1 Y Y Y c9 Y Y;have KP:kf Tryz.prog 9 y.1:=by
  intro k hk;refine hw k ?_;rw[hx];simp only[DataW.weights,Tryz.underlying75,alR,aol,DataW.weightsEach,alf];exact .inl hk
 have hG:kf Tryz.prog 9 z.1:=by
  intro k hk;refine hw k ?_;rw[hx];simp only[DataW.weights,Tryz.underlying75,alR,aol,DataW.weightsEach,alf];exact .inr (.inl hk)
 obtain⟨nm,e0,hs⟩:=AL Tryz.underlying9 h0 KP;obtain⟨tx,e1,gB⟩:=AL Tryz.underlying9 h1 hG;obtain⟨rfl⟩:=e0;obtain⟨rfl⟩:=e1;have:=reachBytes_lt;exact⟨⟨nm,tx⟩,Y,by show nm.size<_;omega,by show tx.size<_;omega⟩
def SS(h:DataW.trod enc Tryz.prog W base sp held n 9 cs=some x)(hw:kf Tryz.prog 9 x.1):∃a:BA,cs=encS a∧a.size<1000000000000000000:=by
 obtain⟨nm,e0,hs⟩:=AL Tryz.underlying9 h hw;have:=reachBytes_lt;exact⟨nm,e0,V⟩
set_option maxRecDepth 100000 in
def aew(h:DataW.trod enc Tryz.prog W base sp held n 47 cs=some x)(hw:kf Tryz.prog 47 x.1):∃t:aB,TH W.heap cs t∧Fits t∧A9 t∧cs.length=7∧(-9223372036854775808<=t.bQ∧t.bQ<=9223372036854775807)∧∀r∈t.ranks,-9223372036854775808<=r.score∧r.score<=9223372036854775807:=by
 obtain⟨xs,m,rfl,hx,hl,jx,hi⟩:=DataW.trod_struct Tryz.underlying47 h
 have hd:x.1=.agg (xs.map (·.1)):=alC Prod.fst hx
 have c9:Tryz.prog.cellsOf 9=1:=Kr
 have c2:Tryz.prog.cellsOf 2=1:=Kr
 have c4:Tryz.prog.cellsOf 4=1:=Kr
 have Xw:Tryz.prog.cellsOf 43=1:=Kr
 have Xx:Tryz.prog.cellsOf 44=1:=Kr
 have c24:Tryz.prog.cellsOf 26=1:=Kr
 have Xy:Tryz.prog.cellsOf 45=1:=Kr
 have Oy:Tryz.prog.cellsOf 47=7:=Kr
 rw[Oy]at hl;obtain⟨a0,a1,a2,a3,a4,a5,a6,rfl⟩:=RF hl;obtain⟨y0,y1,y2,y3,y4,y5,y6,rfl⟩:=RF (l:=xs) jx;have h0:=oH hi 0 43 0 1 Y Y Y Xw Y Y;have h1:=oH hi 1 9 1 1 Y Y Y c9 Y Y;have h2:=oH hi 2 44 2 1 Y Y Y Xx Y Y;have h3:=oH hi 3 26 3 1 Y Y Y c24 Y Y;have h4:=oH hi 4 45 4 1 Y Y Y Xy Y Y;have h5:=oH hi 5 4 5 1 Y Y Y c4 Y Y;have h6:=oH hi 6 2 6 1 Y Y Y c2 Y Y;have xi:∀(i t:Nat)(y:DataW H×List MemPlace),[43,9,44,26,45,4,2][i]? =some t->[y0,y1,y2,y3,y4,y5,y6][i]? =some y->kf Tryz.prog t y.1:=by
  intro i t y ht hy k hk;refine hw k ?_;rw[hd];simp only[DataW.weights,Tryz.underlying47];refine DataW.weights_mem_each (j:=i) (t:=t) (d:=y.1) ?_ ?_ k hk
  .exact ht
  .rw[amB,hy];rfl
 obtain⟨kd,e0,_,_⟩:=DataW.trod_int Tryz.underlying43 h0;obtain⟨tx,e1,gB⟩:=AL Tryz.underlying9 h1 (xi 1 9 y1 Y Y);obtain⟨lp,sp,gp,np⟩:=Ar (k:=2) (en:=aX) Tryz.underlying44 Kr Dd du (λn cs x h hw=>open_pair h hw) h2 (xi 2 44 y2 Y Y);obtain⟨ll,sl,gl,nl⟩:=Ar (k:=1) (en:=encS) Tryz.underlying26 Kr Dd bj (λn cs x h hw=>SS h hw) h3 (xi 3 26 y3 Y Y);obtain⟨lr,sr,gr,nr⟩:=Ar (k:=2) (en:=aK) Tryz.underlying45 Kr Dd dm (λn cs x h hw=>aev h hw) h4 (xi 4 45 y4 Y Y);obtain⟨bu,e5,_⟩:=DataW.trod_bool Tryz.underlying4 h5;obtain⟨un,e6,_,Nf⟩:=DataW.trod_int Tryz.underlying2 h6;have un6: -9223372036854775808<=un∧un<=9223372036854775807:=by
  unfold Lit.wf at Nf;simp only[alO,amm]at Nf;exact Nf
 obtain⟨rfl⟩:=e0;obtain⟨rfl⟩:=e1;obtain⟨rfl⟩:=e5;obtain⟨rfl⟩:=e6;have Xa:Tryz.prog.bytesOf 75=32:=Kr
 have b9:Tryz.prog.bytesOf 9=16:=Kr
 have Xb:Tryz.prog.bytesOf 77=24:=Kr
 rw[Xa]at np;rw[b9]at nl;rw[Xb]at nr;have:=reachBytes_lt;refine⟨⟨kd,tx,lp,ll,lr,bu,un⟩,⟨_,_,_,Y,sp,sl,sr⟩,⟨?_,?_,?_⟩,⟨?_,gp,gl,λr hr=>(gr r hr).1⟩,Y,un6,λr hr=>(gr r hr).2⟩
 .show lp.length<_;omega
 .show ll.length<_;omega
 .show lr.length<_;omega
 .show tx.size<_;omega
structure Wc (h:af) (x:RX):Prop where
 th:TH h x.vs x.thing
 fits:Fits x.thing
 sized:A9 x.thing
 key:x.key.size<1000000000000000000
 bQ: -9223372036854775808<=x.thing.bQ∧x.thing.bQ<=9223372036854775807
 ri:∀r∈x.thing.ranks,-9223372036854775808<=r.score∧r.score<=9223372036854775807
set_option maxRecDepth 100000 in
def aeu(h:DataW.trod enc Tryz.prog W base sp held n 49 cs=some x)(hw:kf Tryz.prog 49 x.1):∃a:RX,cs=dv a∧Wc W.heap a:=by
 obtain⟨xs,m,rfl,hx,hl,jx,hi⟩:=DataW.trod_struct Tryz.underlying49 h
 have hd:x.1=.agg (xs.map (·.1)):=alC Prod.fst hx
 have c9:Tryz.prog.cellsOf 9=1:=Kr
 have c7:Tryz.prog.cellsOf 47=7:=Kr
 have cc:Tryz.prog.cellsOf 49=8:=Kr
 rw[cc]at hl;obtain⟨k0,a0,a1,a2,a3,a4,a5,a6,rfl⟩:=len8 hl;obtain⟨y,z,rfl⟩:=Dv (l:=xs) jx;have h0:=oH hi 0 9 0 1 Y Y Y c9 Y Y;have h1:=oH hi 1 47 1 7 Y Y Y c7 Y Y;have xi:∀(i t:Nat)(w:DataW H×List MemPlace),[9,47][i]? =some t->[y,z][i]? =some w->kf Tryz.prog t w.1:=by
  intro i t y ht hy k hk;refine hw k ?_;rw[hd];simp only[DataW.weights,Tryz.underlying49];refine DataW.weights_mem_each (j:=i) (t:=t) (d:=y.1) ?_ ?_ k hk
  .exact ht
  .rw[amB,hy];rfl
 obtain⟨key,e0,hz⟩:=AL Tryz.underlying9 h0 (xi 0 9 y Y Y);obtain⟨t,th,ft,st,CK,un,ri⟩:=aew h1 (xi 1 47 z Y Y);obtain⟨rfl⟩:=e0;have:=reachBytes_lt;exact⟨⟨key,t,_,CK,dB th⟩,Y,th,ft,st,by show key.size<_;omega,un,ri⟩
set_option maxRecDepth 100000 in
def aet{v:Value}{d:DataW H}{ps:List MemPlace}{r:Reach}{b0:Nat}(ak6:Value.okWide Tryz.prog W r b0 22 v)(h:DataW.Trod enc Tryz.prog W base sp held 22 v d ps)(hw:kf Tryz.prog 22 d):∃l:List RX,SL dv W.heap v l∧GX W.heap l∧Ik l∧(∀x∈l,-9223372036854775808<=x.thing.bQ∧x.thing.bQ<=9223372036854775807)∧∀x∈l,∀r∈x.thing.ranks,-9223372036854775808<=r.score∧r.score<=9223372036854775807:=by
 obtain⟨n,hn⟩:=OJ Tryz.underlying22 ak6 h;obtain⟨l,sl,g,nl⟩:=Ar (k:=8) (en:=dv) Tryz.underlying22 Kr Dd gT (λn cs x h hw=>aeu h hw) hn hw;have b:Tryz.prog.bytesOf 49=128:=Kr
 rw[b]at nl;have:=reachBytes_lt;exact⟨l,sl,λx hx=>(g x hx).th,⟨V,λx hx=>by have:=(g x hx).key;omega,λx hx=>(g x hx).fits,λx hx=>(g x hx).sized⟩,λx hx=>(g x hx).bQ,λx hx=>(g x hx).ri⟩
end
end Go.Proofs.YtocgmipngoiieaaGreatDoor
namespace Go.Proofs.YtocgmipngoiieaaGreatDoor
open Go Go.Sx Go.ChangeShapes Go.WideShapes Go.ChangeAt Go.RowKit
def ahH{H:Type}{enc:TypeId×Value->H}{P:Program}{w:World}{base n:Nat}{sp:Nat->Bool}{held:Bool}{t:TypeId}{cs:List Value}{x:DataW H×List MemPlace}(ht:(match P.underlying t with|some (.interface _)=>true|_=>false)=true)(h:DataW.trod enc P w base sp held n t cs=some x):∃v,cs=[v]∧Ew v:=by
 obtain⟨ms,ht⟩:∃ms,P.underlying t=some (.interface ms):=by
  split at ht
  .rename_i ms h1;exact⟨ms,h1⟩
  .cases ht
 cases n with
 |zero=>simp[DataW.trod]at h
 |succ n=>
  simp only[DataW.trod,ht]at h;split at h<;>first|exact⟨_,Y,.inl Y⟩|exact⟨_,Y,.inr ⟨_,_,Y⟩⟩|(exfalso;simp_all;done)
def Pq{W:World}{n:String}{gi:Nat}{g:Nat}{t:TypeId}{cs:Array Value}{fuel:Nat}{d:DataW Unit}{p:List MemPlace}(CC:Tryz.prog.globalNamed n=some gi)(Dg:(Tryz.prog.globals[gi]?).map (·.type)=some 289)(hg:Tryz.prog.globalNamed n=some g)(ht:(Tryz.prog.globals[g]?).map (·.type)=some t)(hv:W.var? Tryz.prog n=some cs)(h:DataW.trod (λ_=>()) Tryz.prog W 0 (λ_=>true) false fuel t cs.toList=some (d,p)):∃v,cell W.heap gi 0=some v∧Ew v:=by
 obtain rfl:=amu (CC.symm.trans hg);obtain rfl:=amu (Dg.symm.trans ht);obtain⟨v,e,hi⟩:=ahH Kr h;refine⟨v,?_,hi⟩;unfold World.var? at hv;rw[CC]at hv;have hv:(match W.heap[gi]? with|some (.cells cs _ _)=>some cs|_=>none)=some cs:=hv;unfold cell;split at hv
 .rename_i h1;injection hv with hv
  subst hv;rw[h1];show(_:Array Value)[0]? =_;rw[<-aoV,e];rfl
 .cases hv
def adi{W:World}(h:laidMetH Tryz.prog alK W):dr W.heap:=by
 have h:laidMet Tryz.prog alK W:=h;obtain⟨ps,⟨_,_,_,_,_,_,_,_,_,_,⟨_,_,_,_,_,_,_,_,_,_,⟨g,t,cs,fuel,p,q,hg,ht,hv,tG,⟨g2,t2,Ya,akk,p2,q2,CB,zF,hv2,acK,⟨g3,t3,cs3,akl,p3,q3,hg3,ht3,Gn,acL,_,_⟩,_⟩,_⟩,_⟩,_⟩,_⟩:=h;refine⟨?_,Pq Kr Kr hg3 ht3 Gn acL,Pq Kr Kr CB zF hv2 acK⟩;have CC:Tryz.prog.globalNamed "internal/strconv.uint64pow10" =some 1:=Kr
 have Dg:(Tryz.prog.globals[1]?).map (·.type)=some 243:=Kr
 obtain rfl:=amu (CC.symm.trans hg);obtain rfl:=amu (Dg.symm.trans ht);have hc:=Lib.cells_of_tab (k:=.u64) (zs:=Lib.pow10Tab) (n:=20) (e:=212) Kr Kr Kr Kr tG;unfold World.var? at hv;rw[CC]at hv;have hv:(match W.heap[(1:Nat)]? with|some (.cells cs _ _)=>some cs|_=>none)=some cs:=hv;split at hv
 .rename_i h1;injection hv with hv
  subst hv;exact⟨_,_,by rw[h1,<-hc]⟩
 .cases hv
def ac0{P:Program}{W:World}{b0:Nat}{r:Reach}{t:TypeId}{v:Value}(ht:P.underlying t=some (.int .i64))(ak6:Value.okWide P W r b0 t v):∃n,v=.int .i64 n∧cy n:=by
 obtain⟨n,rfl⟩:=acZ ht ak6;refine⟨n,Y,?_⟩;simp only[Value.okWide,Cell.okWide,Cell.ok,ht]at ak6;exact ak6.2
def PG:Tryz.prog.globalNamed "math/bits.deBruijn64tab" =some 3:=Kr
def aht:∀i<64,0<=AN.getD i 0∧AN.getD i 0<=255:=Dd
def laid_tail{P:Program}{W:World}{x:String×DataW Unit}{l:List (String×DataW Unit)}(h:laidMet P (x::l) W):∃ps,DataW.LaidVars P W l ps:=by
 obtain⟨ps,⟨g',t',cs,fuel,p,q,hg',mu,Q7,hd,hr,_⟩,_⟩:=h;exact⟨q,hr⟩
def ahu{W:World}(h:laidMetH Tryz.prog alK W):K5.fw W.heap:=by
 have h':laidMet Tryz.prog alK W:=h;obtain⟨ps,g',t',cs,fuel,p,q,hg',mu,Q7,hd,_,_⟩:=laid_tail h';obtain rfl:=amu (PG.symm.trans hg')
 have Dg:(Tryz.prog.globals[3]?).map (·.type)=some 316:=Kr
 obtain rfl:=amu (Dg.symm.trans mu);have aI:=Lib.cells_of_tab (k:=.u8) (zs:=AN) (n:=64) (e:=5) Kr Kr Kr Kr hd;intro i hi;have hc:=World.var?_cell PG Q7 i;have h1:=aht i hi;refine⟨AN.getD i 0,h1.1,h1.2,?_⟩;rw[<-HW,hc];have e1:cs[i]? =cs.toList[i]? :=Yy
 rw[e1,aI];have gL:i<AN.length:=hi;simp[List.getD,gL]
end Go.Proofs.YtocgmipngoiieaaGreatDoor
