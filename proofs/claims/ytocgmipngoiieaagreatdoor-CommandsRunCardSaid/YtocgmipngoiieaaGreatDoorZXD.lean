/-
  Part 4 of the proof of CommandsRun.
-/
import Derived.Test.YtocgmipngoiieaaGreatDoorProg
import Derived.Test.YtocgmipngoiieaaGreatDoorZXC
set_option linter.defProp false
set_option linter.unusedVariables false
set_option linter.unusedSimpArgs false
namespace Go.Proofs.YtocgmipngoiieaaGreatDoor
open Go Go.Sx C
variable{bs:List UInt8}{h:af}{tail:List Value}
def OI{b o:Nat}{l:List Value}{v:Value}(hb:gP h b l)(hv:l[o]? =some v):cell h b o=some v:=by
 obtain⟨e,k,x,_⟩:=hb;simp[cell,x,hv]
def upB(c:UInt8):UInt8:=if 97<=c.toNat∧c.toNat<=122 then UInt8.ofNat (c.toNat-32)else c
def up(s:BA):BA:=⟨⟨s.data.toList.map upB⟩⟩
def gm(l:List UInt8):List Value:=l.map λb=>.int .u8 b.toNat
def iv(bs:List UInt8)(q:Nat):List UInt8:=(bs.take q).map upB++bs.drop q
def IK(l:List UInt8):(gm l).length=l.length:=by simp[gm]
def M6(bs:List UInt8)(q:Nat):(iv bs q).length=bs.length:=by simp[iv];omega
def M5(bs:List UInt8):iv bs bs.length=bs.map upB:=by simp[iv]
def M7(bs:List UInt8):iv bs 0=bs:=by simp[iv]
def Vz{q:Nat}(hq:q<bs.length):iv bs q=(bs.take q).map upB++(bs[q]::bs.drop (q+1)):=by
 rw[iv,alx hq]
def VA{q:Nat}(hq:q<bs.length):iv bs (q+1)=(bs.take q).map upB++(upB bs[q]::bs.drop (q+1)):=by
 rw[iv,alI hq,alD,alG];rfl
def pq{q:Nat}(hq:q<bs.length):(gm ((bs.take q).map upB)).length=q:=by simp[gm];omega
def On{q:Nat}(hq:q<bs.length)(tail:List Value):gm (iv bs q)++tail=gm ((bs.take q).map upB)++([.int .u8 bs[q].toNat]++(gm (bs.drop (q+1))++tail)):=by
 rw[Vz hq];simp only[gm,alD,alR,alG,amK,anD]
def Xm{q:Nat}(hq:q<bs.length)(tail:List Value):gm (iv bs (q+1))++tail=gm ((bs.take q).map upB)++([.int .u8 (upB bs[q]).toNat]++(gm (bs.drop (q+1))++tail)):=by
 rw[VA hq];simp only[gm,alD,alR,alG,amK,anD]
def IN{b q:Nat}(hb:gP h b (gm (iv bs q)++tail))(hq:q<bs.length):cell h b (0+q*1)=some (.int .u8 bs[q].toNat):=by
 rw[amJ,Nat.mul_one];refine OI hb ?_;rw[On hq,am1 (by rw[pq hq];exact ali _),pq hq];simp
def Me{h':af}{b q:Nat}{z:Int}(hq:q<bs.length)(hz:z=(upB bs[q]).toNat)(hp:Ig h h' b (splice (gm (iv bs q)++tail) (0+q*1) [.int .u8 z])):gP h' b (gm (iv bs (q+1))++tail):=by
 have:=hp.blk;rw[amJ,Nat.mul_one,On hq]at this;rw[Xm hq,<-hz];have e:=vG (gm ((bs.take q).map upB)) [.int .u8 bs[q].toNat] (gm (bs.drop (q+1))++tail) [.int .u8 z] Y;rw[pq hq]at e
 rwa [e]at this
def AI{q:Nat}(hq:q<bs.length)(hu:upB bs[q]=bs[q]):iv bs (q+1)=iv bs q:=by
 rw[VA hq,Vz hq,hu]
def amh{c:UInt8}(h1:97<=(c.toNat:Int))(h2:(c.toNat:Int)<=122):((upB c).toNat:Int)=c.toNat-32:=by
 unfold upB;rw[ak4 ⟨V,V⟩];have:(UInt8.ofNat (c.toNat-32)).toNat=c.toNat-32:=by
  rw[UInt8.toNat_ofNat'];omega
 rw[this];omega
def AQ{c:UInt8}(h:¬(97<=(c.toNat:Int)∧(c.toNat:Int)<=122)):upB c=c:=by
 unfold upB;rw[akZ (λ⟨a,b⟩=>h ⟨V,V⟩)]
def Eo{x:Int}(h0:0<=x)(h1:x<256):IntKind.u8.wrap x=x:=by
 have e:IntKind.u8.wrap x=x%256:=by simp[IntKind.wrap,IntKind.bits,IntKind.signed]
 rw[e];omega
def IP{b:Nat}{l:List Value}(hb:gP h b (l++tail)):fF h b 0 l:=by
 intro i v hv;refine OI hb ?_;rw[amJ,amM (ak7.1 hv).1];exact hv
def AG{s:BA}(hs:s.size<4611686018427387904):aj Tryz.prog 46 [.string s] h (ao λr h'=>r=.string (up s)∧ag [] h h'):=by
 obtain⟨⟨bs⟩⟩:=s;have hs:bs.length<4611686018427387904:=hs;refine f46.c ?_;intro c b h1 hc g;have hc:bs.length<=c:=hc;obtain⟨tail,ht⟩:∃tail,tail=List.replicate (c-bs.length) (Value.int .u8 0):=⟨_,Y⟩
 have gb:gP h1 b (gm bs++tail):=by rw[ht];exact g.blk
 refine bA (λq:Nat=>[(3,.slice (some ⟨b,0,none⟩) bs.length c),(4,.int .i64 q)]) (λq h'=>q<=bs.length∧gP h' b (gm (iv bs q)++tail)∧h'.size=h1.size∧∀k,k≠b->h'[k]? =h1[k]?) (λq=>bs.length-q) 0 J2 ⟨ak8 _,by rw[M7];exact gb,Y,λ_ _=>rfl⟩ ?_;rintro q h2 ⟨hq,hb,aS,hold⟩;have next:∀{h3:af},q<bs.length->gP h3 b (gm (iv bs (q+1))++tail)->h3.size=h1.size->(∀k,k≠b->h3[k]? =h1[k]?)->q+1<=bs.length∧gP h3 b (gm (iv bs (q+1))++tail)∧h3.size=h1.size∧∀k,k≠b->h3[k]? =h1[k]? :=λa b c d=>⟨a,b,c,d⟩
 refine Bi (λah=>?_) λcp=>?_
 .have ah:q<bs.length:=V
  have cq:=IN hb ah;refine Ai V (Ai V (Ei _ (Ai cq (Ai Y (Ai (λCi=>?_) (λhn=>?_))))))
  .refine Ai V (Ai V (Ei _ (Ai cq (Ai Y (Ai (λCh=>?_) (λhn=>?_))))))
   .refine Ai V (Ai V (Ei _ (Ai cq (Ai Y (λz hz=>?_)))));have hz:z=(upB bs[q]).toNat:=by
     rw[amh Ci Ch,hz];exact Eo V V
    refine Ai V (Ai V (Ei _ (Ai hb (Ai ?_ (Ai Y (Ai (Go.Sx.cM Y) λh3 p=>?_))))))
    .show 0+q*1+1<=_;rw[ak1,IK,M6];omega
    .exact Az<|Ai Y (Ei (q+1) (Ai J2 (Ai (next ah (Me ah hz p) (p.size.trans aS) λk hk=>(p.old k hk).trans (hold k hk)) V)))
   .exact Az<|Ai Y (Ei (q+1) (Ai J2 (Ai (next ah (by rw[AI ah (AQ λhh=>hn hh.2)];exact hb) aS hold) V)))
  .exact Az<|Ai Y (Ei (q+1) (Ai J2 (Ai (next ah (by rw[AI ah (AQ λhh=>hn hh.1)];exact hb) aS hold) V)))
 .have aZ:q=bs.length:=V
  subst aZ;rw[M5]at hb;refine Ei (bs.map upB) (Ai Yy (Ai (IP hb) (Ai Y ?_)));refine⟨by rw[aS,g.size];omega,λk hk _=>?_⟩;have:=g.id;rw[hold k V,g.old k hk]
def EZ{s:BA}(hs:s.size<4611686018427387904):aj Tryz.prog 131 [.string s] h (ao λr h'=>r=.string (up s)∧ag [] h h'):=by
 obtain⟨⟨bs⟩⟩:=s;have hs:bs.length<4611686018427387904:=hs;refine f131.c ?_;intro c b h1 hc g;have hc:bs.length<=c:=hc;obtain⟨tail,ht⟩:∃tail,tail=List.replicate (c-bs.length) (Value.int .u8 0):=⟨_,Y⟩
 have gb:gP h1 b (gm bs++tail):=by rw[ht];exact g.blk
 refine bA (λq:Nat=>[(3,.slice (some ⟨b,0,none⟩) bs.length c),(8,.slice (some ⟨b,0,none⟩) bs.length c),(9,.int .i64 bs.length),(10,.int .i64 q)]) (λq h'=>q<=bs.length∧gP h' b (gm (iv bs q)++tail)∧h'.size=h1.size∧∀k,k≠b->h'[k]? =h1[k]?) (λq=>bs.length-q) 0 J4 ⟨ak8 _,by rw[M7];exact gb,Y,λ_ _=>rfl⟩ ?_;rintro q h2 ⟨hq,hb,aS,hold⟩;have next:∀{h3:af},q<bs.length->gP h3 b (gm (iv bs (q+1))++tail)->h3.size=h1.size->(∀k,k≠b->h3[k]? =h1[k]?)->q+1<=bs.length∧gP h3 b (gm (iv bs (q+1))++tail)∧h3.size=h1.size∧∀k,k≠b->h3[k]? =h1[k]? :=λa b c d=>⟨a,b,c,d⟩
 refine Bi (λah=>?_) λcp=>?_
 .have ah:q<bs.length:=V
  have cq:=IN hb ah;refine Ai V (Ai V (Ei _ (Ai cq (Ai Y (Ai (λCi=>?_) (λhn=>?_))))))
  .refine Bi (λCh=>?_) λhn=>?_
   .refine Ai Y (λz hz=>Ai Y (λz1 qU=>?_));have hz:z=(bs[q].toNat:Int)-97:=by rw[hz];exact Eo V V
    have qU:z1=(upB bs[q]).toNat:=by
     rw[amh Ci Ch,qU,hz];have:=Eo (x:=(bs[q].toNat:Int)-97+65) V V;exact this.trans V
    refine Ai V (Ai V (Ei _ (Ai hb (Ai ?_ (Ai Y (Ai (Go.Sx.cM Y) λh3 p=>?_))))))
    .show 0+q*1+1<=_;rw[ak1,IK,M6];omega
    .exact Az<|Ai Y (Ei (q+1) (Ai J4 (Ai (next ah (Me ah qU p) (p.size.trans aS) λk hk=>(p.old k hk).trans (hold k hk)) V)))
   .exact Az<|Ai Y (Ei (q+1) (Ai J4 (Ai (next ah (by rw[AI ah (AQ λhh=>hn hh.2)];exact hb) aS hold) V)))
  .exact Az<|Ai Y (Ei (q+1) (Ai J4 (Ai (next ah (by rw[AI ah (AQ λhh=>hn hh.1)];exact hb) aS hold) V)))
 .have aZ:q=bs.length:=V
  subst aZ;rw[M5]at hb;refine Ei (bs.map upB) (Ai Yy (Ai (IP hb) (Ai Y ?_)));refine⟨by rw[aS,g.size];omega,λk hk _=>?_⟩;have:=g.id;rw[hold k V,g.old k hk]
end Go.Proofs.YtocgmipngoiieaaGreatDoor
namespace Go.Proofs.YtocgmipngoiieaaGreatDoor
open Go Go.Sx C
section
variable {h0 h h':af}{ab kb sb mb c l D b2:Nat}{now n:Int}{av lv:Value}{A:List BA}{m:List KI}{S:aH}{T:List Nat}{M:List En}{r:Loop}{st HG:LoopState}{key s W N:BA}{res:aM}
def qY(l D:Nat)(r:Loop)(st:LoopState):En:=
 .x [l,D] (λh=>jR h l r st none∧h[D]? =some (.deferred (some []))) (λS h h' hc hn ⟨h1,h2⟩=>⟨tO h1 hc (hn _ Yy),oI h2 hc (hn _ Yy)⟩)
  (λh ⟨h1,h2⟩ b hb=>by
   rcases ak3.1 hb with rfl|hb
   .exact lA h1.at_
   .rw[alE.1 hb];exact lA h2)
def _root_.Go.Sx.St.turn(w:St T h0 h M)(i:Nat)(hi:M[i]? =some (qY l D r st))(ax:D≠l)(t:rG h h' l r HG none):St T h0 h' (M.set i (qY l D r HG)):=by
 refine w.set i hi t.ae (λb hb=>.inl (by simp at hb;simp[qY,En.fp,hb])) ⟨t.alM,?_⟩ (λb hb=>.inl hb);rw[t.old D ax];exact(w.get i hi).2
def vl(p:Nat):En:=.x [p] (λh=>p<h.size) (λ_ _ _ hc _ h1=>amX h1 hc.size) (λh h1 b hb=>by rw[alE.1 hb];exact h1)
def Pz(p:Nat)(o:Option Obj):En:=.x [p] (λh=>p<h.size∧h[p]? =o) (λ_ _ _ hc hn ⟨h1,h2⟩=>⟨amX h1 hc.size,by rw[hc.old p h1 (hn _ Yy)];exact h2⟩) (λh h1 b hb=>by rw[alE.1 hb];exact h1.1)
def aat(x:AS h0 h ab kb now av A lv [])(bW:KR h0 kb sb mb c m)(hs:bT m S)(hn:S.length<65537):aj Tryz.prog 186 [ptr ab] h (fq h0 h ab kb now av A lv (IB S A)):=by
 refine f186.c ?_;intro b1 h1 g1;have w:=x.st.new g1;intro b2 h2 g2;have w:=w.new g2;refine w.ld1 1 Y Y<|x.many w 2 Y (λaN _=>?_) (λhb=>x.bad w (yA hb));obtain rfl:=Aj aN;rw[show IB S []=.ok (lS,S.map λp=>iS p.1)from Y];refine w.ld1 1 Y Y<|w.cw 2 Y Y<|akV (AV (kb:=kb)) ?_;rintro _ h3 ⟨bI,rfl,g3⟩;have w:=w.new g3;intro l D r h7 hD CK aS hold wT wQ hy;have kK:ag [] h3 h7:=⟨V,λk hk _=>hold k hk⟩
 have ax:D≠l:=V
 have w:=w.add (e:=qY l D r .ready) kK ⟨wQ,wT⟩ (λb hb=>by simp[qY,En.fp]at hb;omega);refine(Gz hs (λp k h'=>∃aY,St (ab::aq lv) h h' [vl p,qY l D r .ready,.b bI [ptr kb],.b b2 zR,.b b1 [ptr ab],iN ab kb now av aY ((S.take k).map λp=>iS p.1)]) (λ_=>False) (w.get 1 Y) (bW.ext (x.base w))
  (λp h' hC eg hc=>⟨lv,w.add (e:=vl p) hc eg (λb hb=>by simp[vl,En.fp]at hb;omega)⟩) (λp k h' ⟨aY,w⟩=>⟨w.get 2 Y,bW.ext (x.base w)⟩) (λp k h' bq ⟨aY,w⟩ hc=>⟨aY,w.ext hc⟩) (λp k h' us hk ⟨aY,w⟩ tu=>?_)).mono ?_
 .have zx:=w.get 0 Y;have w:=w.set (e':=Pz p h'[p]?) 0 Y (ag.refl _) Yy ⟨zx,Y⟩ (λb hb=>.inl hb);have aZ:((S.take k).map λp=>iS p.1).length<=65536:=by simp;omega
  have iB:=AO (λp:BA×aB=>iS p.1) S k hk;refine hy h' _ _ (w.get 1 Y).1 Y<|Ai (w.get 1 Y).1 (λbp t10=>?_);have w:=w.turn 1 Y ax t10;refine w.ld1 4 Y Y ?_;intro b5 h6 g6;have w:=w.new g6;refine x.add w 6 Y (iI (e:=iS S[k].1) (w.get 0 Y)) (by simp only[al1];omega) λ_ h8 dG w=>?_;have w:=w.pick [1,2,3,4,5,6] Dd;rw[<-iB]at w;refine Ai (w.get 1 Y).1 (λdn AM=>?_);have w:=w.turn 1 Y ax AM;have oM:=w.get 0 Y;have w:=w.set (e':=vl p) 0 Y (ag.refl _) Yy oM.1 (λb hb=>.inl hb);exact .inl ⟨Y,⟨dG,w⟩,oM.2⟩
 .intro e h8 he;cases e with
  |panicked ch=>exact he.elim
  |outgrown=>exact he.elim
  |returned u=>
   obtain⟨p,aY,w⟩|hF:=he;rotate_left
   .exact hF.elim
   rw[amo (ali _)]at w;refine⟨.ready,none,(w.get 1 Y).1,Yy,λh9 t9=>?_⟩;have w:=w.turn 1 Y ax t9;refine w.aV AZ λbp w=>w.st1 3 Y Y Y Y λdO w=>?_;refine⟨(w.get 1 Y).2,λcO xJ=>?_⟩;have w:=w.gone 1 Y xJ.ae (λb hb=>.inl (by simp at hb;simp[qY,En.fp,hb]));refine⟨_,Y,akW (w.get 3 Y),?_⟩;exact x.ends w 5 Y ⟨none,0,0,Y,SL.nil,λb hb=>(nomatch (show b∈([]:List Nat)from hb))⟩ Y
def al3{go:Option aB}:kz go key false=[]:=by unfold kz;split<;>simp
def set_tail{h1:af}{b o cc:Nat}{nx:Bool}(x:AS h0 h ab kb now av A lv [])(bW:KR h0 kb sb mb c m)(hs:bT m S)(hk:key.size<4611686018427387904)(hz:s.size<4611686018427387904)(w:St (ab::aq lv) h h1 [.b b2 zR,iN ab kb now av lv []]):swp Tryz.prog f167.sc.r.r.r.r.r.r.r (cC [.cn 2 4] (fq h0 h ab kb now av A lv (if nx=true then vD S now key s else nD S key s now false lS)))
   (mk [(0,ptr ab),(2,ptr b2),(3,.string key),(4,.string s),(6,.bool nx)]) [] h1:=by
 refine w.cw 1 Y Y<|w.cw 1 Y Y<|uN w (x.uO bW hs w key) [(0,ptr ab),(2,ptr b2),(3,.string key),(4,.string s),(6,.bool nx)] Y Y Y J5 Y (kA (nz eV)) λh2 b3 pv lw rv w=>?_;unfold vD;rw[show here S now key=(aC S key now).isSome from Y];generalize (aC S key now).isSome=bo;generalize (aC S key now).getD aL=t at w;cases nx with
 |false=>
  exact x.put bW hs w 3 Y Yy hk hz (λ_ h4 dG bK w=>w.aV AZ λh5 w=>w.st1 2 Y Y Y Y λh6 w=>x.fin w 2 3 Y Y (ak4 bK)) (λhb=>x.bad w (akZ hb))
 |true=>
  cases bo with
  |false=>
   exact x.put bW hs w 3 Y Yy hk hz (λ_ h4 dG bK w=>w.aV AZ λh5 w=>w.st1 2 Y Y Y Y λh6 w=>x.fin w 2 3 Y Y (ak4 bK)) (λhb=>x.bad w (akZ hb))
  |true=>
   exact w.st1 2 Y Y Y Y λh6 w=>x.fin w 2 3 Y Y Y
def agV(x:AS h0 h ab kb now av [key,s] lv [])(bW:KR h0 kb sb mb c m)(hs:bT m S)(hk:key.size<4611686018427387904)(hz:s.size<4611686018427387904):aj Tryz.prog 167 [ptr ab] h (fq h0 h ab kb now av [key,s] lv (mf S now up [key,s])):=by
 refine f167.c ?_;intro b2 h1 g1;have w:=x.st.new g1;refine x.many w 1 Y (λ_ _=>?_) (λhb=>absurd ⟨Yy,Yy⟩ hb);obtain⟨b,o,cc,rfl⟩:=x.cz Yy;rw[show mf S now up [key,s]=(if false=true then vD S now key s else nD S key s now false lS)from Y];exact w.cw 1 Y Y<|x.ix (x.base w) 0 Y Y<|w.cw 1 Y Y<|x.ix (x.base w) 1 Y Y<|w.cw 1 Y Y<|Ai Y (Ai (λh9=>absurd h9 Yy) (λ_=>w.cw 1 Y Y<|Ai Y (Ai (λh9=>absurd h9 Yy) (λ_=>w.cw 1 Y Y<|Ai Y (Ai (λ_=>tU λ_=>aW [(0,ptr ab),(2,ptr b2),(3,.string key),(4,.string s),(5,.bool false),(6,.bool false)] J6 (mM (tV (v:=.bool false) Y (oE (t:=false) Y (pg (aW [(0,ptr ab),(2,ptr b2),(3,.string key),(4,.string s),(6,.bool false)] J5 (set_tail (b:=b) (o:=o) (cc:=cc) x bW hs hk hz w))))))) (λh9=>absurd Yy h9))))))
def agW(x:AS h0 h ab kb now av [key,s,W] lv [])(bW:KR h0 kb sb mb c m)(hs:bT m S)(hk:key.size<4611686018427387904)(hz:s.size<4611686018427387904)(hw:W.size<4611686018427387904):aj Tryz.prog 167 [ptr ab] h (fq h0 h ab kb now av [key,s,W] lv (mf S now up [key,s,W])):=by
 refine f167.c ?_;intro b2 h1 g1;have w:=x.st.new g1;refine x.many w 1 Y (λ_ _=>?_) (λhb=>absurd ⟨Yy,Yy⟩ hb);obtain⟨b,o,cc,rfl⟩:=x.cz Yy;rw[show mf S now up [key,s,W]=(if up W=AH then vD S now key s else .error cX)from Y];refine w.cw 1 Y Y<|x.ix (x.base w) 0 Y Y<|w.cw 1 Y Y<|x.ix (x.base w) 1 Y Y<|w.cw 1 Y Y<|Ai Y (Ai (λh9=>absurd h9 Yy) (λ_=>w.cw 1 Y Y<|Ai Y (Ai (λ_=>w.cw 1 Y Y (x.ix (x.base w) 2 Y Y (w.aV (EZ hw) λh2 w=>Ai (λh9=>?_) (λh9=>?_)))) (λh9=>absurd Yy h9))))
 .rw[ak4 (show up W=AH from h9)];rw[show vD S now key s=(if true=true then vD S now key s else nD S key s now false lS)from Y];exact w.cw 1 Y Y<|Ai Y (Ai (λh9=>absurd h9 Yy) (λ_=>tU λ_=>aW [(0,ptr ab),(2,ptr b2),(3,.string key),(4,.string s),(5,.bool false),(6,.bool true)] J6<|mM<|tV (v:=.bool false) Y<|oE (t:=false) Y<|pg<|aW [(0,ptr ab),(2,ptr b2),(3,.string key),(4,.string s),(6,.bool true)] J5 (set_tail (b:=b) (o:=o) (cc:=cc) x bW hs hk hz w)))
 .rw[akZ (show¬up W=AH from h9)];exact w.cw 1 Y Y<|Ai Y (Ai (λh9=>absurd h9 Yy) (λ_=>tT (x.bad w Y)))
def U3:D7 S now key s (some n)=(if n<1 then .error vK else if eP now n then(if s.size<=1048576∧key.size<=1048576 then .ok (lS,nC S key s now false++[nH key (now+n)])else .error lX)else .error ia):=rfl
def agX(x:AS h0 h ab kb now av [key,s,W,N] lv [])(bW:KR h0 kb sb mb c m)(hs:bT m S)(hl:dr h0)(hn:cy now)(hA:∀a∈[key,s,W,N],a.size<281474976710656):aj Tryz.prog 167 [ptr ab] h (fq h0 h ab kb now av [key,s,W,N] lv (mf S now up [key,s,W,N])):=by
 have hk:=hA key Yy;have hz:=hA s Yy;have hw:=hA W Yy;refine f167.c ?_;intro b2 h1 g1;have w:=x.st.new g1;refine x.many w 1 Y (λ_ _=>?_) (λhb=>absurd ⟨Yy,Yy⟩ hb);obtain⟨b,o,cc,rfl⟩:=x.cz Yy;rw[show mf S now up [key,s,W,N]=(if up W=Hs then D7 S now key s (numOf N)else .error cX)from Y];refine w.cw 1 Y Y<|x.ix (x.base w) 0 Y Y<|w.cw 1 Y Y<|x.ix (x.base w) 1 Y Y<|w.cw 1 Y Y<|Ai Y (Ai (λ_=>w.cw 1 Y Y (x.ix (x.base w) 2 Y Y (w.aV (EZ V) λh2 w=>Ai (λh9=>?_) (λh9=>?_)))) (λh9=>absurd Yy h9))
 .rw[ak4 (show up W=Hs from h9)];refine w.cw 1 Y Y<|Ai Y (Ai (λh9=>absurd h9 Yy) (λ_=>w.cw 1 Y Y<|Ai Y (Ai (λh9=>absurd h9 Yy) (λ_=>tU λ_=>x.num (j:=3) hl Yy (hA _ Yy) w 1 Y (λh3 n ng w=>?_) (λh3 ng w=>x.bad w (by rw[show numOf N=none from ng];rfl))))));have ng:numOf N=some n:=ng;have nf:=gC ng;rw[ng];rw[U3];refine Ai Y (Ai (λh1=>tU λ_=>?_) (λh1=>tT (x.bad w (ak4 V))));rw[akZ (show¬n<1 by omega)];refine w.cw 1 Y Y<|Tf hn nf (λaN=>?_) (λhb=>x.bad w (akZ hb));rw[ak4 aN];refine x.put bW hs w 1 Y Yy V V (λ_ h4 dG bK w=>?_) (λhb=>x.bad w (akZ hb));have dl:=mS S key now;intro b5 h5 g5;have w:=w.new g5;refine x.add w 2 Y (iI (e:=nH key (now+n)) (w.get 0 Y)) (by simp only[nC,al3,ak1,al1,aly];omega) λ_ h6 Ln w=>?_;exact w.aV AZ λh7 w=>w.st1 1 Y Y Y Y λh8 w=>x.fin w 1 2 Y Y (ak4 bK)
 .rw[akZ (show¬up W=Hs from h9)];exact w.cw 1 Y Y<|Ai Y (Ai (λh9=>absurd h9 Yy) (λ_=>w.cw 1 Y Y<|Ai Y (Ai (λh9=>absurd h9 Yy) (λ_=>tT (x.bad w Y)))))
def agZ(x:AS h0 h ab kb now av A lv [])(bW:KR h0 kb sb mb c m)(hs:bT m S)(hl:dr h0)(hn:cy now)(hA:∀a∈A,a.size<281474976710656):aj Tryz.prog 167 [ptr ab] h (fq h0 h ab kb now av A lv (mf S now up A)):=by
 have bad:mf S now up A=.error cX->¬(2<=A.length∧A.length<=4)->aj Tryz.prog 167 [ptr ab] h (fq h0 h ab kb now av A lv (mf S now up A)):=λhe ax=>by
  refine f167.c ?_;intro b2 h1 g1;have w:=x.st.new g1;exact x.many w 1 Y (λhh _=>absurd ⟨V,V⟩ ax) (λ_=>x.bad w he)
 match A,x,hA,bad with
 |[],_,_,bad=>exact bad Y Yy
 |[_],_,_,bad=>exact bad Y Yy
 |[key,s],x,hA,_=>exact agV x bW hs (by have:=hA key Yy;omega) (by have:=hA s Yy;omega)
 |[key,s,W],x,hA,_=>exact agW x bW hs (by have:=hA key Yy;omega) (by have:=hA s Yy;omega) (by have:=hA W Yy;omega)
 |[key,s,W,N],x,hA,_=>exact agX x bW hs hl hn hA
 |_::_::_::_::_::_,_,_,bad=>exact bad Y Yy
end
end Go.Proofs.YtocgmipngoiieaaGreatDoor
namespace Go.Proofs.YtocgmipngoiieaaGreatDoor
open Go Go.Sx C
def xF:BA:=⟨#[80,84,84,76]⟩
def xE:BA:=⟨#[80,69,82,83,73,83,84]⟩
def xD:BA:=⟨#[80,69,88,80,73,82,69]⟩
def LD:BA:=⟨#[83,69,84]⟩
section
variable {h0 h h1 h':af}{xb i:Nat}{now n:Int}{kv av lv:Value}{k:List RX}{A B:List BA}{L:List aA}{why key s:BA}{M:List En}{T:List Nat}{res:aM}{S:aH}{t:aB}
def aeN{k s:BA}:(nC S k s now false).length<=3:=by
 have:=mS S k now;simp only[nC,ak1,al1,al3,aly];omega
def adu(h:aC S key now=some t)(hu:t.cP=true):now<t.bQ:=by
 unfold aC at h;split at h
 .split at h
  .cases h
  .rename_i hn;cases h;exact Int.not_le.1 λhle=>hn (by unfold iT;rw[hu];simpa using hle)
 .cases h
def afX(c:dT h0 kv k av A)(x:As h0 h (akY xb [] kv now av lv [] au))(hA:A=[key])(hk:key.size<281474976710656)(hu:Ba (k.map RX.pr))(hn:cy now):aj Tryz.prog 80 [ptr xb,.string xF] h
  (ao (bZ h0 h xb kv now av lv (Bv (k.map RX.pr) now A))):=by
 subst hA;obtain⟨b,o,cc,rfl⟩:=c.cz Yy;refine f80.c ?_;intro b4 h1 g1;have w:=x.st.new g1;refine w.aG 1 Y Y<|c.ix (x.base w) 0 Y Y<|Bn<|w.aG 1 Y Y<|w.aG 1 Y Y ?_;rw[show Bv (k.map RX.pr) now [key]=FP now (aC (k.map RX.pr) key now)from Y];refine qB w (c.aC (x.base w) key V) [(0,ptr xb),(1,.string xF),(4,ptr b4),(5,.string key),(6,.int .i64 0),(7,.bool true)] Y Y Y J6 Y (kA eV) λh2 b8 pv lw rv w eB _=>?_;have ah:∀t,aC (k.map RX.pr) key now=some t->cy t.bQ∧(t.cP=true->now<t.bQ):=λt ht=>⟨M3 hu ht,adu ht⟩
 generalize aC (k.map RX.pr) key now=go at w ah⊢;refine Ai (λ_=>?_) (λh9=>absurd Y h9);cases go with
 |none=>
  exact w.aV eZ λh5 w=>w.st1 1 Y Y Y Y λh6 w=>bZ.fin (j:=0) x w 1 2 Y Y (Jd.ok Y)
 |some t=>
  obtain⟨⟨u0,u1⟩,ah⟩:=ah t Y;obtain⟨kd,tx,ps,ls,rs,hu,un⟩:=t;refine w.ld1 0 Y Y ?_;cases hu with
  |false=>
   exact w.aV eZ λh5 w=>w.st1 1 Y Y Y Y λh6 w=>bZ.fin (j:=0) x w 1 2 Y Y (Jd.ok Y)
  |true=>
   obtain⟨n0,n1⟩:=hn;have ah:now<un:=ah Y;have u0: -9223372036854775808<=un:=u0;have u1:un<=9223372036854775807:=u1;have e9: -9223372036854775808<=un-now->un-now<=9223372036854775807->IntKind.i64.wrap (un-now)=un-now:=λh1 h2=>cx h1 V;refine w.aG 2 Y Y<|Bi (λgz=>?_) λcp=>?_
   .refine w.ld1 0 Y Y<|w.aG 2 Y Y<|Ai Y (λz hz=>?_);have hz:z=9223372036854775807+now:=hz.trans (cx V V);subst hz;refine Bi (λh1=>?_) λh1=>?_
    .have h1:9223372036854775807+now<un:=h1;exact w.kW 2 Y λh3 w=>w.st1 1 Y Y Y Y λh6 w=>bZ.fin (j:=0) x w 1 2 Y Y (Jd.no (why:=ia) Dd (akZ λh=>by have h2:un-now<=9223372036854775807:=h.2;omega))
    .have h1:¬(9223372036854775807+now<un):=h1;refine w.ld1 0 Y Y<|w.aG 2 Y Y<|Ai Y (λz hz=>?_);have hz:z=un-now:=hz.trans (e9 V V);subst hz;exact w.aV eZ λh5 w=>w.st1 1 Y Y Y Y λh6 w=>bZ.fin (j:=0) x w 1 2 Y Y (Jd.ok (ak4 (show rh un now from⟨V,V⟩)))
   .refine w.ld1 0 Y Y<|w.aG 2 Y Y<|Ai Y (λz hz=>?_);have hz:z=un-now:=hz.trans (e9 V V);subst hz;exact w.aV eZ λh5 w=>w.st1 1 Y Y Y Y λh6 w=>bZ.fin (j:=0) x w 1 2 Y Y (Jd.ok (ak4 (show rh un now from⟨V,V⟩)))
def afH(c:dT h0 kv k av A)(x:As h0 h (akY xb [] kv now av lv [] au))(hA:A=[key])(hk:key.size<281474976710656):aj Tryz.prog 80 [ptr xb,.string xE] h
  (ao (bZ h0 h xb kv now av lv (alS (k.map RX.pr) now A))):=by
 subst hA;obtain⟨b,o,cc,rfl⟩:=c.cz Yy;refine f80.c ?_;intro b4 h1 g1;have w:=x.st.new g1;refine w.aG 1 Y Y<|c.ix (x.base w) 0 Y Y<|Bn<|w.aG 1 Y Y<|w.aG 1 Y Y ?_;rw[show alS (k.map RX.pr) now [key]=FR key (aC (k.map RX.pr) key now)from Y];refine qB w (c.aC (x.base w) key V) [(0,ptr xb),(1,.string xE),(4,ptr b4),(5,.string key),(6,.int .i64 0),(7,.bool true)] Y Y Y J6 Y (kA eV) λh2 b8 pv lw rv w eB _=>?_;generalize aC (k.map RX.pr) key now=go at w⊢;refine Bn ?_;cases go with
 |none=>
  exact w.aV eZ λh5 w=>w.st1 1 Y Y Y Y λh6 w=>bZ.fin (j:=0) x w 1 2 Y Y (Jd.ok Y)
 |some t=>
  obtain⟨kd,tx,ps,ls,rs,hu,un⟩:=t;refine Ai (λ_=>w.ld1 0 Y Y ?_) (λh9=>absurd Y h9);cases hu with
  |false=>
   exact w.aV eZ λh5 w=>w.st1 1 Y Y Y Y λh6 w=>bZ.fin (j:=0) x w 1 2 Y Y (Jd.ok Y)
  |true=>
   refine Ai (λ_=>?_) (λh9=>absurd Y h9);obtain⟨la,lc,rfl⟩:=w.mB 2 Y;refine w.aG 2 Y Y ?_;intro b9 h6 g6;have w:=w.new g6;exact w.pd 3 Y Y (iI (e:=Le key) (w.get 0 Y)) Yy λa5 c5 h7 eU=>eU λh8 w=>w.aV eZ λh5 w=>w.st1 2 Y Y Y Y λh6 w=>bZ.fin (j:=0) x w 2 3 Y Y (Jd.ok Y)
def afg(c:dT h0 kv k av A)(x:As h0 h (akY xb [] kv now av lv [] au))(hA:A=[key,s])(hk:key.size<281474976710656)(hs:s.size<281474976710656)(hn:cy now):aj Tryz.prog 80 [ptr xb,.string xD] h
  (ao (bZ h0 h xb kv now av lv (Bq (k.map RX.pr) now A))):=by
 subst hA;obtain⟨b,o,cc,rfl⟩:=c.cz Yy;refine f80.c ?_;intro b4 h1 g1;have w:=x.st.new g1;refine w.aG 1 Y Y<|c.ix (x.base w) 0 Y Y<|Ai (λ_=>akV (AB (j:=1) (s:=s) c (x.out w 1 Y).1 Y V) ?_) (λh9=>absurd Y h9);rintro _ h2 ⟨rfl,_,o2⟩;have w:=w.own 1 Y o2;rw[show Bq (k.map RX.pr) now [key,s]=yU (k.map RX.pr) now key (numOf s)from Y];obtain⟨u,hu⟩:∃u,u=numOf s:=⟨_,Y⟩
 rw[<-hu]at w⊢;cases u with
 |none=>
  exact w.st1 0 Y Y Y Y λh6 w=>bZ.fin (j:=0) x w 0 1 Y Y (Jd.no (why:=jN) Dd Y)
 |some n=>
  have nf:=gC hu.symm;refine w.aG 1 Y Y<|w.aG 1 Y Y<|qB w (c.aC (x.base w) key V) [(0,ptr xb),(1,.string xD),(4,ptr b4),(5,.string key),(6,.int .i64 n),(7,.bool true)] Y Y Y J6 Y (kA eV) λh2 b8 pv lw rv w eB _=>?_;rw[show yU (k.map RX.pr) now key (some n)=(if(aC (k.map RX.pr) key now).isSome=true then(if n<1 then .ok (bO 1,[iS key])else if eP now n then .ok (bO 1,[nH key (now+n)])else .error ia)else .ok (bO 0,[]))from Y];generalize aC (k.map RX.pr) key now=go at w⊢;refine Bn ?_;cases go with
  |none=>
   exact w.aV eZ λh5 w=>w.st1 1 Y Y Y Y λh6 w=>bZ.fin (j:=0) x w 1 2 Y Y (Jd.ok Y)
  |some t=>
   have ys:(some t).isSome=true:=rfl;refine Bn<|Bn<|Bi (λh1=>?_) λh1=>?_
   .obtain⟨la,lc,rfl⟩:=w.mB 2 Y;refine w.aG 2 Y Y ?_;intro b9 h6 g6;have w:=w.new g6;exact w.pd 3 Y Y (iI (e:=iS key) (w.get 0 Y)) Yy λa5 c5 h7 eU=>eU λh8 w=>w.aV eZ λh5 w=>w.st1 2 Y Y Y Y λh6 w=>bZ.fin (j:=0) x w 2 3 Y Y (Jd.ok ((ak4 ys).trans (ak4 h1)))
   .refine w.aG 2 Y Y<|akV (DY hn nf (x.out w 2 Y).1) ?_;rintro _ h6 (⟨ho,rfl,_,o6⟩|⟨ho,rfl,_,o6⟩)
    .have w:=w.own 2 Y o6;obtain⟨la,lc,rfl⟩:=w.mB 2 Y;refine w.aG 2 Y Y ?_;intro b9 h6 g6;have w:=w.new g6;exact w.pd 3 Y Y (iI (e:=nH key (now+n)) (w.get 0 Y)) Yy λa5 c5 h7 eU=>eU λh8 w=>w.aV eZ λh5 w=>w.st1 2 Y Y Y Y λh6 w=>bZ.fin (j:=0) x w 2 3 Y Y (Jd.ok ((ak4 ys).trans ((akZ h1).trans (ak4 ho))))
    .have w:=w.own 2 Y o6;exact w.aV eZ λh5 w=>w.st1 1 Y Y Y Y λh6 w=>bZ.fin (j:=0) x w 1 2 Y Y (Jd.no (why:=ia) Dd ((ak4 ys).trans ((akZ h1).trans (akZ ho))))
def AK(S:aH)(now:Int)(key s:BA)(nx:Bool)(F:List aA)(gs:Bool):aM:=if nx=true∧gs=true then .ok (jJ,[])else if s.size<=1048576∧key.size<=1048576 then .ok (lS,nC S key s now false++F)else .error lX
set_option maxHeartbeats 2000000 in
theorem afR (c:dT h0 kv k av A) (x:As h0 h (akY xb [] kv now av lv [] au)) (h2:2≤A.length) (h4:A.length≤4) (hz:∀a∈A,a.size<281474976710656) (hn:cy now):aj Tryz.prog 72 [ptr xb] h
  (ao (bZ h0 h xb kv now av lv (mf (k.map RX.pr) now up A))):=by
 obtain⟨key,s,r,rfl⟩:∃key s r,A=key::s::r:=match A,h2 with|key::s::r,_=>⟨key,s,r,rfl⟩
 obtain⟨b,o,cc,rfl⟩:=c.cz (by simp)
 have hk:=hz key (by simp)
 obtain⟨rs,df⟩:∃rs,rs=mf (k.map RX.pr) now up (key::s::r):=⟨_,rfl⟩
 rw[←df]
 refine f72.c ?_
 intro b2 h1 g1
 have w:=x.st.new g1
 refine w.aG 1 rfl rfl ?_
 rcases r with _|⟨v,_|⟨u,_|⟨_,_⟩⟩⟩
 rotate_right
 ·simp at h4
 -- two arguments
 refine Ai rfl (Ai (fun h9=>absurd (show((2:Nat):Int)=4 from h9) (by decide)) (fun _=>?_))
 refine w.aG 1 rfl rfl ?_
 refine Ai rfl (Ai (fun h9=>absurd (show((2:Nat):Int)=3 from h9) (by decide)) (fun _=>?_))
 refine w.aG 1 rfl rfl ?_
 refine Ai rfl (Ai (fun h9=>absurd rfl h9) (fun _=>?_))
 refine w.aG 1 rfl rfl ?_
 refine c.ix (x.base w) 0 rfl rfl ?_
 have iW:rs=AK (k.map RX.pr) now key s false [] (aC (k.map RX.pr) key now).isSome:=by rw[df];simp[mf,AK,nD]
 rotate_left
 -- three
 refine Ai rfl (Ai (fun h9=>absurd (show((3:Nat):Int)=4 from h9) (by decide)) (fun _=>?_))
 refine w.aG 1 rfl rfl ?_
 refine Ai rfl (Ai (fun _=>?_) (fun h9=>absurd rfl h9))
 refine w.aG 1 rfl rfl ?_
 refine c.ix (x.base w) 2 rfl rfl ?_
 have hv:=hz v (by simp)
 refine w.aV (AG (by omega)) fun h3 w=>?_
 refine Ai (fun he=>?_) (fun he=>?_)
 rotate_left
 ·refine w.aG 1 rfl rfl ?_
  refine Ai rfl (Ai (fun _=>?_) (fun h9=>absurd (show¬((3:Nat):Int)=2 by decide) h9))
  refine w.kW 1 rfl fun h5 w=>?_
  refine w.st1 0 rfl rfl rfl rfl fun h6 w=>?_
  exact bZ.fin (j:=0) x w 0 1 rfl rfl (Jd.no (why:=cX) (by decide) (by rw[df];exact if_neg he))
 rotate_right
 refine w.aG 1 rfl rfl ?_
 refine Ai rfl (Ai (fun _=>?_) (fun h9=>absurd (show¬((3:Nat):Int)=2 by decide) h9))
 refine w.aG 1 rfl rfl ?_
 refine c.ix (x.base w) 0 rfl rfl ?_
 have iW:rs=AK (k.map RX.pr) now key s true [] (aC (k.map RX.pr) key now).isSome:=by rw[df];show(if up v=AH then _ else _)=_;rw[if_pos (show up v=AH from he)];cases hq:(aC (k.map RX.pr) key now).isSome<;>simp[vD,here,AK,nD,hq]
 rotate_left
 -- four
 refine Ai rfl (Ai (fun _=>?_) (fun h9=>absurd rfl h9))
 refine w.aG 1 rfl rfl ?_
 refine c.ix (x.base w) 2 rfl rfl ?_
 have hv:=hz v (by simp)
 have hu:=hz u (by simp)
 refine w.aV (AG (by omega)) fun h3 w=>?_
 refine Ai (fun he=>?_) (fun he=>?_)
 rotate_left
 ·refine w.aG 1 rfl rfl ?_
  refine Ai rfl (Ai (fun h9=>absurd (show((4:Nat):Int)=3 from h9) (by decide)) (fun _=>?_))
  refine w.aG 1 rfl rfl ?_
  refine Ai rfl (Ai (fun _=>?_) (fun h9=>absurd (show¬((4:Nat):Int)=2 by decide) h9))
  refine w.kW 1 rfl fun h5 w=>?_
  refine w.st1 0 rfl rfl rfl rfl fun h6 w=>?_
  exact bZ.fin (j:=0) x w 0 1 rfl rfl (Jd.no (why:=cX) (by decide) (by rw[df];exact if_neg he))
 rotate_right
 refine w.aG 1 rfl rfl ?_
 refine Ai rfl (Ai (fun h9=>absurd (show((4:Nat):Int)=3 from h9) (by decide)) (fun _=>?_))
 refine w.aG 1 rfl rfl ?_
 refine Ai rfl (Ai (fun _=>?_) (fun h9=>absurd (show¬((4:Nat):Int)=2 by decide) h9))
 refine w.aG 1 rfl rfl ?_
 refine c.ix (x.base w) 0 rfl rfl ?_
 refine akV (AB (j:=3) (s:=u) c (x.out w 1 rfl).1 rfl (by omega)) ?_
 rintro _ h2 ⟨rfl,_,o2⟩
 have w:=w.own 1 rfl o2
 have df:rs=D7 (k.map RX.pr) now key s (numOf u):=by rw[df];exact if_pos he
 obtain⟨z,hu⟩:∃z,z=numOf u:=⟨_,rfl⟩
 rw[←hu]at w df⊢
 cases z with
 |none=>
  refine w.st1 0 rfl rfl rfl rfl fun h6 w=>?_
  exact bZ.fin (j:=0) x w 0 1 rfl rfl (Jd.no (why:=jN) (by decide) df)
 |some n=>?_
 rw[U3]at df
 refine Ai rfl (Ai (fun h1=>?_) (fun h1=>?_))
 ·rw[if_pos (show n<1 from h1)]at df
  refine w.kW 1 rfl fun h5 w=>?_
  refine w.st1 0 rfl rfl rfl rfl fun h6 w=>?_
  exact bZ.fin (j:=0) x w 0 1 rfl rfl (Jd.no (why:=vK) (by decide) df)
 rw[if_neg (show¬n<1 from h1)]at df
 refine w.aG 1 rfl rfl ?_
 refine akV (DY hn (gC hu.symm) (x.out w 1 rfl).1) ?_
 rintro _ h6 (⟨ho,rfl,_,o6⟩|⟨ho,rfl,_,o6⟩)
 rotate_left
 ·have w:=w.own 1 rfl o6
  rw[if_neg (show¬eP now n from ho)]at df
  refine w.st1 0 rfl rfl rfl rfl fun h7 w=>?_
  exact bZ.fin (j:=0) x w 0 1 rfl rfl (Jd.no (why:=ia) (by decide) df)
 rotate_right
 have w:=w.own 1 rfl o6
 have iW:rs=AK (k.map RX.pr) now key s false [nH key (now+n)] (aC (k.map RX.pr) key now).isSome:=by rw[df,if_pos (show eP now n from ho)];simp[AK]
 -- what stands behind the arguments
 all_goals
  refine w.aG 1 rfl rfl ?_
  refine w.aG 1 rfl rfl ?_
  refine qB w (c.aC (x.base w) key (by omega)) [(0,ptr xb),(2,ptr b2),(3,.bool _),(4,.bool _),(5,.string key),(6,.int .i64 _)] rfl rfl rfl ⟨rfl,rfl,rfl,rfl,rfl,rfl,trivial⟩ rfl (kA eV) fun h4 b9 pv lw rv w eB _=>?_
  have dl:=aeN (S:=k.map RX.pr) (k:=key) (s:=s) (now:=now)
  obtain⟨gs,hgs⟩:∃gs,gs=(aC (k.map RX.pr) key now).isSome:=⟨_,rfl⟩
  rw[←hgs]at iW⊢
  cases gs
 -- NX,and it is there
 case' cons.nil.refine_1.true=>
  refine w.st1 1 rfl rfl rfl rfl fun h6 w=>?_
  exact bZ.fin (j:=0) x w 1 2 rfl rfl (Jd.ok iW)
 all_goals
  refine w.aG 2 rfl rfl ?_
  refine c.ix (x.base w) 1 rfl rfl ?_
  refine akV (Mp c (x.out w 2 rfl).1 (by omega) (by simp)) ?_
  rintro _ h8 (⟨fit,rfl,dG,_,o8⟩|⟨fit,rfl,_,o8⟩)
  rotate_left
  ·have w:=w.own 2 rfl o8
   refine w.aV xN fun h5 w=>?_
   refine w.st1 1 rfl rfl rfl rfl fun h6 w=>?_
   exact bZ.fin (j:=0) x w 1 2 rfl rfl (Jd.no (why:=lX) (by decide) (iW.trans (if_neg fit)))
  have w:=w.own 2 rfl o8
  have iW:=iW.trans (if_pos fit)
  try
   obtain⟨la,lc,rfl⟩:=w.mB 2 rfl
   refine w.aG 2 rfl rfl ?_
   intro vV h6 g6
   have w:=w.new g6
   refine w.pd 3 rfl rfl (iI (e:=nH key _) (w.get 0 rfl)) (by simp only[List.length_singleton,List.nil_append];omega) fun a5 c5 h7 eU=>?_
   refine eU fun h8 w=>?_
   refine w.aV xN fun h5 w=>?_
   refine w.st1 2 rfl rfl rfl rfl fun h6 w=>?_
   exact bZ.fin (j:=0) x w 2 3 rfl rfl (Jd.ok iW)
  try
   refine w.aV xN fun h5 w=>?_
   refine w.st1 1 rfl rfl rfl rfl fun h6 w=>?_
   exact bZ.fin (j:=0) x w 1 2 rfl rfl (Jd.ok (iW.trans (by simp[lS])))
end
end Go.Proofs.YtocgmipngoiieaaGreatDoor
namespace Go.Proofs.YtocgmipngoiieaaGreatDoor
open Go Go.Sx C
section
variable {h0 h h1 h':af}{xb i b4:Nat}{now n:Int}{kv av lv:Value}{k:List RX}{A B:List BA}{L E:List aA}{why key s:BA}{M:List En}{T:List Nat}{res:aM}{ls:List (Int×Int×BA)}
def bZ.gv{a:Option Addr}{m c:Nat}{aY:Value}(x:As h0 h (akY xb [] kv now av lv [] au))(w:St (xb::aq lv) h h' M)(i j l:Nat)(hi:M[i]? =some (.b b4 [.int .i64 5,.int .i64 0,.string au,.slice a m c]))(hj:M[j]? =some (akY xb [] kv now av aY E why))(hl:M[l]? =some (.o bR 4 (.slice a m c) ls))(hf:∀b∈bG a,h.size<=b)(hd:Jd res ⟨5,0,au,ls⟩ E why):∃vs,vs.length=4∧fF h' b4 0 vs∧bZ h0 h xb kv now av lv res (.agg ⟨vs⟩) h':=
 ⟨_,Y,akW (w.get i hi),⟨5,0,au,ls⟩,aY,E,why,⟨a,m,c,Y,(show OL bR 4 h' (.slice a m c) ls from w.get l hl).sl,hf⟩,x.out w j hj,hd⟩
def SX{v:Value}{aY:Value}{L':List aA}(w:St (xb::aq lv) h h' M)(l j:Nat)(hl:M[l]? =some (.o bR 4 v ls))(hj:M[j]? =some (akY xb [] kv now av lv L' why))(Kj:l≠j):∀b∈aq v,h.size<=b:=λb hb=>by
 rcases(w.ents l _ hl).2 b hb with h1|h1
 .exact absurd h1 (w.apart l j _ _ hl hj Kj b hb)
 .exact h1
def afD(c:dT h0 kv k av A)(x:As h0 h (akY xb [] kv now av lv [] au))(hA:∀a∈A,a.size<281474976710656)(hl:A.length<=65536):aj Tryz.prog 79 [ptr xb,.bool false] h
  (ao (bZ h0 h xb kv now av lv (.ok (⟨5,0,au,A.map (jI (k.map RX.pr) now)⟩,[])))):=by
 refine f79.c ?_;intro b4 h1 g1;have w:=x.st.new g1;intro b5 h2 g2;have w:=w.new g2;refine w.st1 0 Y Y Y Y λh3 w=>?_;have w:=w.empty (enc:=bR) (size:=4);refine bA (λq:Nat=>[(0,ptr xb),(1,.bool false),(4,ptr b4),(5,ptr b5),(6,.int .i64 q)])
  (λq h'=>q<=A.length∧∃v,St (xb::aq lv) h h' [.o bR 4 v ((A.take q).map (jI (k.map RX.pr) now)),.b b5 [.int .i64 5,.int .i64 0,.string ⟨#[]⟩,v],.b b4 zR,akY xb [] kv now av lv [] au])
  (λq=>A.length-q) 0 J5 ⟨ak8 _,.slice none 0 0,w⟩ ?_
 rintro q h2 ⟨hq,v,w⟩;obtain⟨a3,c3,rfl,_⟩:=(show OL bR 4 h2 v ((A.take q).map (jI (k.map RX.pr) now))from w.get 0 Y).sl.form;obtain⟨a0,mP,rfl⟩:=c.argN;refine w.aG 3 Y Y<|Bi (λah=>?_) λcp=>?_
 .have ah:q<A.length:=V
  obtain⟨b,o,cc,e⟩:=c.cz V;obtain⟨rfl,rfl⟩:a0=some ⟨b,o,none⟩∧mP=cc:=by cases e;exact⟨Y,Y⟩
  have iB:=AO (jI (k.map RX.pr) now) A q ah;rw[amq (key:=A[q])]at iB;have fK:((A.take q).map (jI (k.map RX.pr) now)).length<=65536:=by simp;omega
  have aS:=hA A[q] (ak9 ah);refine w.aG 3 Y Y<|w.aG 3 Y Y<|c.ix (x.base w) q Y (akU ah)<|w.aG 3 Y Y<|qB w (c.aC (x.base w) A[q] V) [(0,ptr xb),(1,.bool false),(4,ptr b4),(5,ptr b5),(6,.int .i64 q)] Y Y Y J5 Y
   (kA (nz (kB (nz (z8 (kB (nz eV))))))) λh3 b7 pv lw rv w _ _=>?_
  generalize aC (k.map RX.pr) A[q] now=go at w iB;have gD:∀{v:Value}{h':af},St (xb::aq lv) h h' [.o bR 4 v ((A.take (q+1)).map (jI (k.map RX.pr) now)),.b b5 [.int .i64 5,.int .i64 0,.string ⟨#[]⟩,v],.b b4 zR,akY xb [] kv now (.slice (some ⟨b,o,none⟩) A.length mP) lv [] au]->
   ∃v,St (xb::aq lv) h h' [.o bR 4 v ((A.take (q+1)).map (jI (k.map RX.pr) now)),.b b5 [.int .i64 5,.int .i64 0,.string ⟨#[]⟩,v],.b b4 zR,akY xb [] kv now (.slice (some ⟨b,o,none⟩) A.length mP) lv [] au]:=λw=>⟨_,w⟩
  intro b9 h4 g4;have w:=w.new g4;refine w.st1 0 Y Y Y Y λh5 w=>?_;cases go with
  |none=>
   refine w.ld1 3 Y Y<|w.fS 0 Y Y ?_;intro vV h8 g8;have w:=w.new g8;refine w.app 3 Y jb pI Y (SL.one jb (x:=(0,0,au)) (w.get 0 Y)) (by simp only[ak0,aly];omega) λv' h9 w=>?_;rw[show((0,0,au):Int×Int×BA)=uM none from Y,<-iB]at w;obtain⟨a6,c6,rfl,_⟩:=(show OL bR 4 h9 v' ((A.take (q+1)).map (jI (k.map RX.pr) now))from w.get 3 Y).sl.form;refine w.st1 4 Y Y Y Y λbp w=>?_;have w:=w.pick [3,4,5,6] Dd;exact Az<|Ai Y (Ei (q+1) (Ai J5 (Ai ⟨ah,gD w⟩ V)))
  |some t=>
   refine w.ld1 1 Y Y<|Bi (λh1=>?_) λh1=>?_
   .refine w.ld1 1 Y Y<|w.aV rm λh6 w=>w.st1 0 Y Y Y Y λh7 w=>w.ld1 3 Y Y<|w.fS 0 Y Y ?_;intro vV h8 g8;have w:=w.new g8;refine w.app 3 Y jb pI Y (SL.one jb (x:=(4,0,t.text)) (w.get 0 Y)) (by simp only[ak0,aly];omega) λv' h9 w=>?_;rw[show((4,0,t.text):Int×Int×BA)=uM (some t)from(ak4 h1).symm,<-iB]at w;obtain⟨a6,c6,rfl,_⟩:=(show OL bR 4 h9 v' ((A.take (q+1)).map (jI (k.map RX.pr) now))from w.get 3 Y).sl.form;refine w.st1 4 Y Y Y Y λbp w=>?_;have w:=w.pick [3,4,5,6] Dd;exact Az<|Ai Y (Ei (q+1) (Ai J5 (Ai ⟨ah,gD w⟩ V)))
   .refine w.ld1 3 Y Y<|w.fS 0 Y Y ?_;intro vV h8 g8;have w:=w.new g8;refine w.app 3 Y jb pI Y (SL.one jb (x:=(0,0,au)) (w.get 0 Y)) (by simp only[ak0,aly];omega) λv' h9 w=>?_;rw[show((0,0,au):Int×Int×BA)=uM (some t)from(akZ h1).symm,<-iB]at w;obtain⟨a6,c6,rfl,_⟩:=(show OL bR 4 h9 v' ((A.take (q+1)).map (jI (k.map RX.pr) now))from w.get 3 Y).sl.form;refine w.st1 4 Y Y Y Y λbp w=>?_;have w:=w.pick [3,4,5,6] Dd;exact Az<|Ai Y (Ei (q+1) (Ai J5 (Ai ⟨ah,gD w⟩ V)))
 .have aZ:q=A.length:=V
  subst aZ;refine w.fS 1 Y Y<|w.st1 2 Y Y Y Y λh4 w=>bZ.gv x w 2 3 0 Y Y Y (SX (aY:=lv) w 0 3 Y Y Dd) (Jd.ok (by rw[alm]))
def afE(c:dT h0 kv k av A)(x:As h0 h (akY xb [] kv now av lv [] au))(hA:∀a∈A,a.size<281474976710656)(hl:A.length<=1000):aj Tryz.prog 79 [ptr xb,.bool true] h
  (ao (bZ h0 h xb kv now av lv (if A.length%2=0 then aln (k.map RX.pr) now [] A []else .error cX))):=by
 refine f79.c ?_;intro b4 h1 g1;have w:=x.st.new g1;intro b5 h2 g2;have w:=w.new g2;refine w.st1 0 Y Y Y Y λh3 w=>?_;obtain⟨a0,mP,rfl⟩:=c.argN;refine w.aG 2 Y Y<|Ai Y (Ai Dd (λz hz=>?_));have hz:z=((A.length%2:Nat):Int):=by rw[hz];exact(anT A.length 2).symm
 subst hz;have bad:∀{h4:af}{E:List aA}{aY:Value}{why:BA}{res:aM},res=.error why->why≠au->St (xb::aq lv) h h4 [.b b5 [.int .i64 5,.int .i64 0,.string ⟨#[]⟩,.slice none 0 0],.b b4 [.int .i64 5,.int .i64 0,.string ⟨#[]⟩,.slice none 0 0],akY xb [] kv now (.slice a0 A.length mP) aY E why]->
   ∃vs,vs.length=4∧fF h4 b4 0 vs∧bZ h0 h xb kv now (.slice a0 A.length mP) lv res (.agg ⟨vs⟩) h4:=λhr hw w=>bZ.fin (j:=0) x w 1 2 Y Y (Jd.no hw hr)
 refine Bi (λgZ=>?_) λjw=>?_
 .rw[akZ V];exact w.kW 2 Y λh4 w=>w.fS 0 Y Y<|w.st1 1 Y Y Y Y λh5 w=>bad Y Dd w
 have jw:A.length%2=0:=V
 rw[ak4 jw];refine bA (λq:Nat=>[(0,ptr xb),(1,.bool true),(4,ptr b4),(5,ptr b5),(6,.int .i64 (2*q:Nat))])
  (λq h'=>2*q<=A.length∧∃aY pre E,pre.length=q∧(∀j(hj:j<pre.length),A[2*j]? =some pre[j])∧E.length<=2*q∧aln (k.map RX.pr) now [] A []=aln (k.map RX.pr) now pre (A.drop (2*q)) E∧
   St (xb::aq lv) h h' [.b b5 [.int .i64 5,.int .i64 0,.string ⟨#[]⟩,.slice none 0 0],.b b4 zR,akY xb [] kv now (.slice a0 A.length mP) aY E au])
  (λq=>A.length-2*q) 0 J5 ⟨ak8 _,lv,[],[],Y,λj hj=>(nomatch hj),ali _,Y,w⟩ ?_
 rintro q h4 ⟨hq,aY,pre,E,pS,QN,Jz,heq,w⟩;rw[heq];refine w.aG 2 Y Y<|Bi (λah=>?_) λcp=>?_
 .have ah:2*q<A.length:=V
  have qP:2*q+1<A.length:=V
  obtain⟨b,o,cc,e⟩:=c.cz V;obtain⟨rfl,rfl⟩:a0=some ⟨b,o,none⟩∧mP=cc:=by cases e;exact⟨Y,Y⟩
  have fX:=Pg qP;rw[fX,Lu]at heq⊢;have pO:=hA A[2*q] (ak9 _);have dd:=hA A[2*q+1] (ak9 _);have g0:A[2*q]? =some A[2*q]:=akU ah;have g1:A[2*q+1]? =some A[2*q+1]:=akU qP;generalize A[2*q]=ky at heq pO g0⊢;generalize A[2*q+1]=s at heq dd g1⊢;refine w.aG 2 Y Y<|c.ix (x.base w) (2*q) Y g0<|Bi (λh9=>?_) λh9=>?_
  .rw[akZ (λhh=>absurd hh.2 V)];exact w.kW 2 Y λh5 w=>w.fS 0 Y Y<|w.st1 1 Y Y Y Y λh6 w=>bad Y Dd w
  refine w.aG 2 Y Y<|Az<|c.ix (x.base w) (2*q+1) Yy g1<|Bi (λh8=>?_) λh8=>?_
  .rw[akZ (λhh=>absurd hh.1 V)];exact w.kW 2 Y λh5 w=>w.fS 0 Y Y<|w.st1 1 Y Y Y Y λh6 w=>bad Y Dd w
  rw[ak4 ⟨V,V⟩]at heq⊢;refine w.aG 2 Y Y<|c.ix (x.base w) (2*q) Y g0<|dN (Ul (st:=2) (u:=2*q) (B:=pre) c (x.out w 2 Y).1 QN (by rw[pS]) (.inr Y) V) ?_;have Th:∀j(hj:j<(pre++[ky]).length),A[2*j]? =some (pre++[ky])[j]:=λj hj=>by
   by_cases hjp:j<pre.length
   .rw[aoM hjp];exact QN j hjp
   .have:j=pre.length:=by simp at hj;omega
    subst this;rw[an2 (ali _)];simp only[apa,anv];rw[pS];exact g0
  have put:∀{h5:af}{lP:Value}{E5:List aA}{K:af->Prop},E5.length<=2*q+1->St (xb::aq lv) h h5 [.b b5 [.int .i64 5,.int .i64 0,.string ⟨#[]⟩,.slice none 0 0],.b b4 zR,akY xb [] kv now (.slice (some ⟨b,o,none⟩) A.length mP) lP E5 au]->
    ∃la lc,lP=.slice la E5.length lc:=λ_ w=>w.mB 2 Y
  by_cases hm:ky∈pre
  .rw[ale hm];rw[ak4 hm,anD]at heq⊢;obtain⟨la,lc,rfl⟩:=w.mB 2 Y;refine w.aG 2 Y Y<|w.aG 2 Y Y<|c.ix (x.base w) (2*q) Y g0<|w.aG 2 Y Y<|Az<|c.ix (x.base w) (2*q+1) Yy g1 ?_;intro b8 h6 g6;have w:=w.new g6;refine w.pd 3 Y Y (iI (e:=kX ky s) (w.get 0 Y)) (by simp only[ak0,aly];omega) λa5 c5 h7 eU=>?_;refine eU λh8 w=>?_;have w:=w.pick [1,2,3] Dd;exact Az<|Az<|Ai Y (Ei (q+1) (Ai J5 (Ai ⟨V,_,_,_,by simp[pS],Th,by simp only[ak1,ak0,aly];omega,Y,w⟩ V)))
  .rw[alg hm];rw[akZ hm]at heq⊢;have dl:=mS (k.map RX.pr) ky now;refine w.aG 2 Y Y<|c.ix (x.base w) (2*q) Y g0<|akV (Mo c (x.out w 2 Y).1 V V) ?_;rintro _ h5 ⟨lP,_,o5⟩;have w:=w.own 2 Y o5;obtain⟨la,lc,rfl⟩:=w.mB 2 Y;refine w.aG 2 Y Y<|w.aG 2 Y Y<|c.ix (x.base w) (2*q) Y g0<|w.aG 2 Y Y<|Az<|c.ix (x.base w) (2*q+1) Yy g1 ?_;intro b8 h6 g6;have w:=w.new g6;refine w.pd 3 Y Y (iI (e:=kX ky s) (w.get 0 Y)) (by simp only[ak0,aly,ak1];omega) λa5 c5 h7 eU=>?_;refine eU λh8 w=>?_;have w:=w.pick [1,2,3] Dd;rw[alG]at w;exact Az<|Az<|Ai Y (Ei (q+1) (Ai J5 (Ai ⟨V,_,_,_,by simp[pS],Th,by simp only[ak1,ak0,aly];omega,Y,w⟩ V)))
 .have aZ:A.drop (2*q)=[]:=am4 V;rw[aZ];exact w.aV xN λh5 w=>w.st1 1 Y Y Y Y λh6 w=>bZ.fin (j:=0) x w 1 2 Y Y (Jd.ok Y)
end
end Go.Proofs.YtocgmipngoiieaaGreatDoor
set_option maxRecDepth 100000
namespace Go.Proofs.YtocgmipngoiieaaGreatDoor.C
open Go Go.Sx Go.Sx.S
noncomputable section
def f130:=ay Tryz.func130
def f172:=ay Tryz.func172
end
end Go.Proofs.YtocgmipngoiieaaGreatDoor.C
set_option maxRecDepth 100000
namespace Go.Proofs.YtocgmipngoiieaaGreatDoor.C
open Go Go.Sx Go.Sx.S
noncomputable section
def Zz:LS:=[o 7 (.eqn 4 false (t 5))]
def ZA:LS:=[M 2 5]
def ZB:LS:=[o 8 (.vH 205 (.agg #[(.string ⟨#[]⟩)]) true (t 5)),X 9 8 1,X 10 8 0]
def ZC:LS:=[o 3 (.new [(.string ⟨#[]⟩)]),q (.st 1 (t 3) (t 10))]
def ZD:LS:=[A 11 0 3,L 12 11,o 13 (.call 65 [(t 12)]),q (.st 4 (t 0) (t 13)),q (.st 1 (t 1) (.const (.slice none 0 0)))]
def ZE:LS:=[M 4 5]
def ZF:LS:=[M 6 4,q (.vu (t 6))]
def f135:akX:=(.seq (.rcv (some 5)) (.block 0 (.j Zz (.cond (t 7) (.ops ZA) (.j ZB (.cond (t 9) (.j ZC (.ops ZD)) (.j ZE (.ops ZF))))))))
def f187:=ay Tryz.func187
def f188:=ay Tryz.func188
def f189:=ay Tryz.func189
def f190:=ay Tryz.func190
def f191:=ay Tryz.func191
def f192:=ay Tryz.func192
def f193:=ay Tryz.func193
def f194:=ay Tryz.func194
def f195:=ay Tryz.func195
def f196:=ay Tryz.func196
def f197:=ay Tryz.func197
def f198:=ay Tryz.func198
def f199:=ay Tryz.func199
def f200:=ay Tryz.func200
def f201:=ay Tryz.func201
def f202:=ay Tryz.func202
def f203:=ay Tryz.func203
def f204:=ay Tryz.func204
def f205:=ay Tryz.func205
def f206:=ay Tryz.func206
def f207:=ay Tryz.func207
def f208:=ay Tryz.func208
def f209:=ay Tryz.func209
def f210:=ay Tryz.func210
def f211:=ay Tryz.func211
def f212:=ay Tryz.func212
def f213:=ay Tryz.func213
def f214:=ay Tryz.func214
def f254:=ay Tryz.func254
def f255:=ay Tryz.func255
def f256:=ay Tryz.func256
def f257:=ay Tryz.func257
def f258:=ay Tryz.func258
def f259:=ay Tryz.func259
def f260:=ay Tryz.func260
def f261:=ay Tryz.func261
def f262:=ay Tryz.func262
def f263:=ay Tryz.func263
def f264:=ay Tryz.func264
def f265:=ay Tryz.func265
def f266:=ay Tryz.func266
def f267:=ay Tryz.func267
def f268:=ay Tryz.func268
def f269:=ay Tryz.func269
def f270:=ay Tryz.func270
def f271:=ay Tryz.func271
def f272:=ay Tryz.func272
def f273:=ay Tryz.func273
def f274:=ay Tryz.func274
def f275:=ay Tryz.func275
def f276:=ay Tryz.func276
def f277:=ay Tryz.func277
def f279:=ay Tryz.func279
def f280:=ay Tryz.func280
def f281:=ay Tryz.func281
def f282:=ay Tryz.func282
def f285:=ay Tryz.func285
def f287:=ay Tryz.func287
def f302:=ay Tryz.func302
def f304:=ay Tryz.func304
def f305:=ay Tryz.func305
def f306:=ay Tryz.func306
end
end Go.Proofs.YtocgmipngoiieaaGreatDoor.C
set_option maxRecDepth 100000
namespace Go.Proofs.YtocgmipngoiieaaGreatDoor.C
open Go Go.Sx Go.Sx.S
noncomputable section
def Zf:LS:=[o 6 (.new [(.int .i64 0),(.int .i64 0),(.string ⟨#[]⟩),(.slice none 0 0)]),o 7 (.new [(.slice none 0 0)]),o 8 (.mv (b false))]
def Zg:LS:=[M 11 2,o 12 (.len (t 11)),E 13 12 0,M 14 13,
 n 15 14 (.mv (t 0)),
 n 16 14 (.call 64 [(t 15),(.const (.pointer none))]),o 17 (.pick (t 14) (b true) (t 16))]
def Zh:LS:=[o 18 (.build [(.int .i64 0),(.int .i64 0),(.string ⟨#[]⟩),(.slice none 0 0)] [] []),q (.st 4 (t 6) (t 18)),q (.st 1 (t 7) (.const (.slice none 0 0))),o 8 (.mv (b false))]
def Zi:LS:=[M 21 2,o 22 (.ixs 1 (t 21) (i 0)),L 23 22,o 20 (.eR 133 []),o 24 (.eR 134 [(t 23)]),o 25 (.look .str .nilFunc true (t 20) (t 24)),M 19 25,X 26 19 0,X 27 19 1,M 9 26,M 8 27]
def Zj:LS:=[M 28 8,o 29 (.un .not (t 28))]
def Zk:LS:=[o 30 (.build [(.int .i64 0),(.int .i64 0),(.string ⟨#[]⟩),(.slice none 0 0)] [] []),q (.st 4 (t 6) (t 30)),q (.st 1 (t 7) (.const (.slice none 0 0))),o 8 (.mv (b false))]
def Zl:LS:=[o 31 (.fn 135 [] [(t 6),(t 7)])]
def Zm:LS:=[M 32 0,M 33 1,M 34 2,o 35 (.slc 1 (t 34) (some (i 1)) none),o 36 (.build [(.int .i64 0),(.string ⟨#[]⟩),(.slice none 0 0),(.slice none 0 0),(.slice none 0 0),(.bool false),(.int .i64 0),(.bool false),(.pointer none),(.int .i64 0),(.string ⟨#[]⟩),(.slice none 0 0),(.slice none 0 0)] [(8,1),(9,1),(11,1)] [(t 32),(t 33),(t 35)]),o 37 (.box (t 36)),M 10 37]
def Zn:LS:=[M 38 9,M 39 10,o 40 (.aV (t 38) [(t 39)]),q (.st 4 (t 6) (t 40))]
def Ze:LS:=[o 41 (.ny 4 (t 6)),M 42 10,K 43 42,A 44 12 43]
def Zo:LS:=[L 45 44,q (.st 4 (t 6) (t 41)),q (.st 1 (t 7) (t 45)),o 8 (.mv (b true))]
def Zp:LS:=[q (.st 4 (t 6) (t 41)),L 45 44,q (.st 1 (t 7) (t 45)),o 8 (.mv (b true))]
def f112:akX:=(.j Zf (.seq (.j Zg (.k 17 Zh)) (.j Zi (.seq (.j Zj (.k 29 Zk)) (.seq (.wq Zl none (t 31) []) (.j Zm (.j Zn (.seq (.two Ze Zo Zp) .ret))))))))
def Zy:LS:=[o 0 (.mv (.const (.map none)))]
def Pt:LS:=[o 1 (.vn),q (.fm .str (t 1) (.const (.string ⟨#[72,83,69,84]⟩)) (u 187)),q (.fm .str (t 1) (.const (.string ⟨#[72,71,69,84]⟩)) (u 188)),q (.fm .str (t 1) (.const (.string ⟨#[72,68,69,76]⟩)) (u 189)),q (.fm .str (t 1) (.const (.string ⟨#[72,76,69,78]⟩)) (u 190)),q (.fm .str (t 1) (.const (.string ⟨#[72,71,69,84,65,76,76]⟩)) (u 191)),q (.fm .str (t 1) (.const (.string ⟨#[72,73,78,67,82,66,89]⟩)) (u 192)),q (.fm .str (t 1) (.const (.string ⟨#[76,80,85,83,72]⟩)) (u 193)),q (.fm .str (t 1) (.const (.string ⟨#[82,80,85,83,72]⟩)) (u 194)),q (.fm .str (t 1) (.const (.string ⟨#[76,80,79,80]⟩)) (u 195)),q (.fm .str (t 1) (.const (.string ⟨#[82,80,79,80]⟩)) (u 196)),q (.fm .str (t 1) (.const (.string ⟨#[76,76,69,78]⟩)) (u 197)),q (.fm .str (t 1) (.const (.string ⟨#[76,73,78,68,69,88]⟩)) (u 198)),q (.fm .str (t 1) (.const (.string ⟨#[76,82,65,78,71,69]⟩)) (u 199)),q (.fm .str (t 1) (.const (.string ⟨#[76,83,69,84]⟩)) (u 200)),q (.fm .str (t 1) (.const (.string ⟨#[83,65,68,68]⟩)) (u 201)),q (.fm .str (t 1) (.const (.string ⟨#[83,82,69,77]⟩)) (u 202)),q (.fm .str (t 1) (.const (.string ⟨#[83,73,83,77,69,77,66,69,82]⟩)) (u 203)),q (.fm .str (t 1) (.const (.string ⟨#[83,67,65,82,68]⟩)) (u 204)),q (.fm .str (t 1) (.const (.string ⟨#[83,77,69,77,66,69,82,83]⟩)) (u 205)),q (.fm .str (t 1) (.const (.string ⟨#[83,73,78,84,69,82]⟩)) (u 206)),q (.fm .str (t 1) (.const (.string ⟨#[90,65,68,68]⟩)) (u 207)),q (.fm .str (t 1) (.const (.string ⟨#[90,82,69,77]⟩)) (u 208)),q (.fm .str (t 1) (.const (.string ⟨#[90,83,67,79,82,69]⟩)) (u 209)),q (.fm .str (t 1) (.const (.string ⟨#[90,73,78,67,82,66,89]⟩)) (u 210)),q (.fm .str (t 1) (.const (.string ⟨#[90,67,65,82,68]⟩)) (u 211)),q (.fm .str (t 1) (.const (.string ⟨#[90,82,65,78,75]⟩)) (u 212)),q (.fm .str (t 1) (.const (.string ⟨#[90,82,65,78,71,69]⟩)) (u 213)),q (.fm .str (t 1) (.const (.string ⟨#[90,82,65,78,71,69,66,89,83,67,79,82,69]⟩)) (u 214)),M 2 1,M 0 2]
def f133:akX:=(.j Zy (.j Pt .ret))
def Zx:yp Tryz.prog 133 3 f133 [.t 0]:=UY Tryz.func133 Y Kr
def f134:=ay Tryz.func134
end
end Go.Proofs.YtocgmipngoiieaaGreatDoor.C
set_option maxRecDepth 100000
namespace Go.Proofs.YtocgmipngoiieaaGreatDoor.C
open Go Go.Sx Go.Sx.S
noncomputable section
def f232:=ay Tryz.func232
def f283:=ay Tryz.func283
def f284:=ay Tryz.func284
def f286:=ay Tryz.func286
def f288:=ay Tryz.func288
def f299:=ay Tryz.func299
def f309:=ay Tryz.func309
def f310:=ay Tryz.func310
def f311:=ay Tryz.func311
def f312:=ay Tryz.func312
def f313:=ay Tryz.func313
abbrev Z3:=f313.sc.r.r.r.l.r.l.l.r.r.p
def f314:=ay Tryz.func314
def f315:=ay Tryz.func315
def f316:=ay Tryz.func316
def f317:=ay Tryz.func317
def f318:=ay Tryz.func318
def f319:=ay Tryz.func319
def f326:=ay Tryz.func326
end
end Go.Proofs.YtocgmipngoiieaaGreatDoor.C
set_option maxRecDepth 100000
namespace Go.Proofs.YtocgmipngoiieaaGreatDoor.C
open Go Go.Sx Go.Sx.S
noncomputable section
def aj0:LS:=[o 137 (.ny 4 (t 17)),M 138 15,K 139 138,A 140 0 139,A 141 3 140]
def aj1:LS:=[q (.st 4 (t 6) (t 137)),L 142 141,M 7 142,o 8 (.mv (b true))]
def f23:=ay Tryz.func23
def f50:=ay Tryz.func50
def f51:=ay Tryz.func51
def f52:=ay Tryz.func52
def f54:=ay Tryz.func54
def f55:=ay Tryz.func55
def f56:=ay Tryz.func56
def f57:=ay Tryz.func57
def f82:=ay Tryz.func82
def f83:=ay Tryz.func83
def f85:=ay Tryz.func85
def f86:=ay Tryz.func86
def f87:=ay Tryz.func87
def f89:=ay Tryz.func89
def f91:=ay Tryz.func91
def f95:=ay Tryz.func95
def f96:=ay Tryz.func96
def f97:=ay Tryz.func97
def Z6:=ay Tryz.func98
end
end Go.Proofs.YtocgmipngoiieaaGreatDoor.C
set_option maxRecDepth 100000
namespace Go.Proofs.YtocgmipngoiieaaGreatDoor.C
open Go Go.Sx Go.Sx.S
noncomputable section
def f162:=ay Tryz.func162
def f238:=ay Tryz.func238
def f303:=ay Tryz.func303
def f307:=ay Tryz.func307
def f325:=ay Tryz.func325
end
end Go.Proofs.YtocgmipngoiieaaGreatDoor.C
set_option maxRecDepth 100000
namespace Go.Proofs.YtocgmipngoiieaaGreatDoor.C
open Go Go.Sx Go.Sx.S
def aav:LS:=[o 4 (.mv (b false))]
def aay:lZ:=(.one (M 9 0)
 (.one (K 10 9)
 (.one (A 11 0 10)
 (.one (M 12 0)
 (.one (K 13 12)
 (.one (A 14 12 13)
 (.one (L 15 14)
 (.one (M 16 1)
 (.both (.one (o 17 (.call 84 [(t 11),(t 15),(t 16)]))
 (.one (M 8 17)
 (.one (X 18 8 0)
 (.one (X 19 8 1)
 (.one (X 20 8 2)
 (.one (o 5 (.new [(.int .i64 0),(.string ⟨#[]⟩),(.slice none 0 0),(.slice none 0 0),(.slice none 0 0),(.bool false),(.int .i64 0)]))
 (.one (q (.st 7 (t 5) (t 18)))
 (.one (M 6 19)
 (.one (M 7 20)
 .done))))))))) (.one (o 5 (.new [(.int .i64 0),(.string ⟨#[]⟩),(.slice none 0 0),(.slice none 0 0),(.slice none 0 0),(.bool false),(.int .i64 0)]))
 (.one (o 17 (.call 84 [(t 11),(t 15),(t 16)]))
 (.one (M 8 17)
 (.one (X 18 8 0)
 (.one (X 19 8 1)
 (.one (X 20 8 2)
 (.one (q (.st 7 (t 5) (t 18)))
 (.one (M 6 19)
 (.one (M 7 20)
 .done))))))))))))))))))
def aaw:LS:=[M 21 0,o 22 (.ny 7 (t 5)),K 23 21,A 24 5 23,q (.st 7 (t 24) (t 22))]
def aax:LS:=[M 25 7,M 4 25]
def g53:akX:=(.j aav (.seq (.tree [9,10,11,12,13,14,15,16,17,8,18,19,20,5,6,7] aay) (.j aaw (.j aax .ret))))
def aau:EH Tryz.prog 53 26 g53 [.t 4]:=MM (fl:=false) mixed Tryz.func53 Y Kr Kr Kr
end Go.Proofs.YtocgmipngoiieaaGreatDoor.C
namespace Go.Proofs.YtocgmipngoiieaaGreatDoor
open Go Go.Sx C
def uu(S:aH):Prop:=∀p∈S,p.1.size<=1048576
structure yj (S:aH):Prop where
 up:pB S
 keys:uu S
 len:S.length<=65536
 ins:gQ S
def ahF{t:aB}(hk:fR t=true)(s:Small t):rF t:=by
 have few:dX t<=65536:=(U7 s).2.2.2;unfold fR at hk;split at hk
 .cases hk
 split at hk
 .rename_i h1;have hk:=amy hk;have p:t.pairs=[]:=amz.1 V;have l:t.list=[]:=amz.1 V;have r:t.ranks=[]:=amz.1 V;exact⟨⟨by rw[p];exact .nil,λ_=>by rw[l];exact .nil,by rw[r];exact .nil,by rw[r];exact ank,λh=>V,few⟩,λh=>V⟩
 split at hk
 .rename_i h1;simp only[alO,amm]at hk;obtain⟨h2,h3,h4,h5⟩:=hk;have r:t.ranks=[]:=amz.1 V;exact⟨⟨Hg (lt:=λx y:bM=>aP x.name y.name) (λa b c=>mF) h5,λh=>V,by rw[r];exact .nil,by rw[r];exact ank,λh=>V,few⟩,λh=>V⟩
 split at hk
 .rename_i h1;simp only[alO,amm]at hk;obtain⟨h2,h3,h4⟩:=hk;have p:t.pairs=[]:=amz.1 V;have r:t.ranks=[]:=amz.1 V;exact⟨⟨by rw[p];exact .nil,λh=>V,by rw[r];exact .nil,by rw[r];exact ank,λ_=>⟨p,r⟩,few⟩,λ_=>am8.1 h2⟩
 split at hk
 .rename_i h1;simp only[alO,amm]at hk;obtain⟨h2,h3,h4,h5⟩:=hk;have p:t.pairs=[]:=amz.1 V;have r:t.ranks=[]:=amz.1 V;exact⟨⟨by rw[p];exact .nil,λ_=>Hg (lt:=aP) (λa b c=>mF) h5,by rw[r];exact .nil,by rw[r];exact ank,λh=>V,few⟩,λh=>V⟩
 split at hk
 .rename_i h1;simp only[alO,amm]at hk;obtain⟨h2,h3,h4,h5,h6⟩:=hk;have p:t.pairs=[]:=amz.1 V;exact⟨⟨by rw[p];exact .nil,λh=>V,Hg EO h5,amy h6,λh=>V,few⟩,λh=>V⟩
 .cases hk
def Sl{t:aB}(s:Small t):py t:=⟨λx hx=>by have:=s.ps x hx;omega,λx hx=>by have:=s.ls x hx;omega,λx hx=>by have:=s.rs x hx;omega⟩
def Uh{l k:List RX}(nv:rE l)(hk:gE [] l=some k):RG k:=by
 obtain⟨h1,h2,h3⟩:=Ao List.Pairwise.nil hk;have hn:=(LU List.Pairwise.nil hk).2;have hm:∀x∈k,x∈l:=λx hx=>by simpa using(h2 x).1 hx
 have hl:=nv.len;have gM:k.length=l.length:=by simpa using h3
 exact⟨h1,V,λx hx=>nv.fit x (hm x hx),λx hx=>ahF (hn x (hm x hx)) (nv.small x (hm x hx)),λx hx=>Sl (nv.small x (hm x hx))⟩
def adf{t:aB}(hk:fR t=true):1<=t.kind∧t.kind<=5:=by
 unfold fR at hk;split at hk
 .cases hk
 split at hk
 .omega
 split at hk
 .omega
 split at hk
 .omega
 split at hk
 .omega
 split at hk
 .omega
 .cases hk
structure S8 (S:aH):Prop where
 few:yj S
 kind:Ez S
 text:pA S
 bQ:Ba S
 nm:∀p∈S,py p.2
def agG{l k:List RX}(nv:rE l)(hk:gE [] l=some k)(hu:∀x∈l,cy x.thing.bQ):S8 (k.map RX.pr):=by
 obtain⟨h1,h2,h3⟩:=Ao List.Pairwise.nil hk;have hn:=(LU List.Pairwise.nil hk).2;have hm:∀x∈k,x∈l:=λx hx=>by simpa using(h2 x).1 hx
 have hl:=nv.len;have gM:k.length=l.length:=by simpa using h3
 have rg:=Uh nv hk;have of:∀p∈k.map RX.pr,∃x∈l,RX.pr x=p:=λp hp=>by
  obtain⟨x,hx,rfl⟩:=alF.1 hp;exact⟨x,hm x hx,Y⟩
 refine⟨⟨xK h1,λp hp=>?_,by simp;omega,rg.ins⟩,λp hp=>?_,λp hp=>?_,λp hp=>?_,λp hp=>?_⟩
 .obtain⟨x,hx,rfl⟩:=of p hp;have:=nv.keys x hx;show x.key.size<=1048576;omega
 .obtain⟨x,hx,rfl⟩:=of p hp;exact adf (hn x hx)
 .obtain⟨x,hx,rfl⟩:=of p hp;have:=(nv.small x hx).text;show x.thing.text.size<281474976710656;omega
 .obtain⟨x,hx,rfl⟩:=of p hp;exact hu x hx
 .obtain⟨x,hx,rfl⟩:=of p hp;exact Sl (nv.small x hx)
def afk{k:List RX}(gg:gR k)(hl:k.length<=65536)(bK:oB k)(s8:S8 (k.map RX.pr)):RG k:=
 ⟨gg,V,bK,λx hx=>s8.few.ins x.pr (als hx),λx hx=>s8.nm x.pr (als hx)⟩
abbrev aT(xb:Nat)(t:aB)(pv lw rv:Value)(key:BA)(kv:Value)(now:Int)(av lv:Value)(L:List aA)(why:BA):En:=akY xb (bg t pv lw rv++[.string key]) kv now av lv L why
section
variable {h0 h h1 h':af}{xb i:Nat}{now n kd:Int}{kv av lv pv lw rv dQ gO dV:Value}{k:List RX}{A:List BA}{L:List aA}{why key gh s:BA}{t t':aB}{M:List En}{T:List Nat}{e e':En}
def _root_.Go.Sx.St.Vh{K:af->Prop}(w:St T h1 h M)(i:Nat)(hi:M[i]? =some (aT xb t pv lw rv key kv now av lv L why))(eB:∀u∈bg t' dQ gO dV,u.oneCell'=true)(k:∀h',St T h1 h' (M.set i (aT xb t' dQ gO dV key kv now av lv L why))->K h'):∃l,ai h xb l∧5+7<=l.length∧(bg t' dQ gO dV).length=7∧(∀u∈bg t' dQ gO dV,u.oneCell'=true)∧∀h',dL h h' xb (splice l 5 (bg t' dQ gO dV))->K h':=by
 obtain⟨hB,hO,hn⟩:=w.get i hi;refine⟨_,hB,by simp[bg],Y,eB,λh' p=>k h' ?_⟩;have Cm:=hO.ae p.ae (λb hb=>by simp;rintro rfl;exact hn hb);exact w.set i hi p.ae (λb hb=>.inl (by simp at hb;simp[akY,En.fp,hb])) ⟨by have e:=p.blk;simpa[splice,bg]using e,Cm,hn⟩ (λb hb=>.inl hb)
def _root_.Go.Sx.St.Vg{K:af->Prop}(w:St T h1 h M)(i:Nat)(hi:M[i]? =some (aT xb t pv lw rv key kv now av lv L why))(k:∀h',St T h1 h' (M.set i (aT xb t pv lw rv gh kv now av lv L why))->K h'):∃l,ai h xb l∧12+1<=l.length∧[Value.string gh].length=1∧(∀u∈[Value.string gh],u.oneCell'=true)∧∀h',dL h h' xb (splice l 12 [.string gh])->K h':=by
 obtain⟨hB,hO,hn⟩:=w.get i hi;refine⟨_,hB,by simp[bg],Y,cM Y,λh' p=>k h' ?_⟩;have Cm:=hO.ae p.ae (λb hb=>by simp;rintro rfl;exact hn hb);exact w.set i hi p.ae (λb hb=>.inl (by simp at hb;simp[akY,En.fp,hb])) ⟨by have e:=p.blk;simpa[splice,bg]using e,Cm,hn⟩ (λb hb=>.inl hb)
def Un(c:dT h0 kv k av A)(x:As h0 h (aT xb t pv lw rv key kv now av lv L why))(hk:key.size<4611686018427387904):aj Tryz.prog 53 [ptr xb,.int .i64 kd] h
  (ao λr h'=>∃dQ gO dV,r=.bool (jm kd (aC (k.map RX.pr) key now))∧(∀h2,ag [] h0 h2->TH h2 (bg ((aC (k.map RX.pr) key now).getD aL) dQ gO dV) ((aC (k.map RX.pr) key now).getD aL))∧
   gJ h0 h (aT xb t pv lw rv key kv now av lv L why) h' (aT xb ((aC (k.map RX.pr) key now).getD aL) dQ gO dV key kv now av lv L (if jm kd (aC (k.map RX.pr) key now)=true then why else gI))):=by
 refine aau Yy ?_;have w:=x.st;refine w.aG 0 Y Y<|Ai ?_ ?_
 .refine akV (Ms c (x.out w 0 Y).1 hk) ?_;rintro _ h2 ⟨⟨dQ,gO,dV,rfl,eB,gf⟩,_,o2⟩;have w:=w.own 0 Y o2;intro b5 h3 g3;have w:=w.new g3;refine w.pj 0 Y Y Y eB λh4 w=>w.fS 0 Y Y<|w.Vh 1 Y eB λh5 w=>?_;exact⟨dQ,gO,dV,Y,gf,x.out w 1 Y⟩
 .intro b5 h3 g3;have w:=w.new g3;refine akV (Ms c (x.out w 1 Y).1 hk) ?_;rintro _ h2 ⟨⟨dQ,gO,dV,rfl,eB,gf⟩,_,o2⟩;have w:=w.own 1 Y o2;refine w.pj 0 Y Y Y eB λh4 w=>w.fS 0 Y Y<|w.Vh 1 Y eB λh5 w=>?_;exact⟨dQ,gO,dV,Y,gf,x.out w 1 Y⟩
def qd(S:aH)(key:BA)(now:Int)(L:List aA):List aA:=if L.length=0 then L++cV S key now else L
def qf{items op num:Int}{k0 nm tx:BA}(c:dT h0 kv k av A)(x:As h0 h (aT xb t pv lw rv key kv now av lv L why))(hL:L.length<=1000)(hi:items<=65536)(hk:key.size<=1048576)(hn:nm.size<=1048576)(ht:tx.size<=1048576):aj Tryz.prog 87 [ptr xb,.agg ⟨[.int .i64 op,.string k0,.string nm,.string tx,.int .i64 num]⟩,.int .i64 items] h
  (ao λr h'=>r=.bool true∧∃aY,gJ h0 h (aT xb t pv lw rv key kv now av lv L why) h' (aT xb t pv lw rv key kv now av aY (qd (k.map RX.pr) key now L++[⟨op,key,nm,tx,num⟩]) why)):=by
 obtain⟨a,cc,rfl⟩:=x.st.mB 0 Y;refine f87.c ?_;intro b4 h1 g1;have w:=x.st.new g1;refine Ai Y (Ai (λh1=>absurd h1 V) (λ_=>w.aG 1 Y Y<|Ai Y (Ai (λh1=>absurd h1 V) (λ_=>w.ld1 0 Y Y<|Ai Y (Ai (λh1=>absurd h1 V) (λ_=>w.ld1 0 Y Y<|Ai Y (Ai (λh1=>absurd h1 V) (λ_=>?_))))))));have fin:∀{h2:af}{a2:Option Addr}{c2:Nat}{L2:List aA},qd (k.map RX.pr) key now L=L2->L2.length<=2000->St (xb::aq (.slice a L.length cc)) h h2 [.b b4 [.int .i64 op,.string k0,.string nm,.string tx,.int .i64 num],aT xb t pv lw rv key kv now av (.slice a2 L2.length c2) L2 why]->
   swp Tryz.prog f87.sc.r.r.r (cC [.t 6] (ao λr h'=>r=.bool true∧∃aY,gJ h0 h (aT xb t pv lw rv key kv now av (.slice a L.length cc) L why) h' (aT xb t pv lw rv key kv now av aY (qd (k.map RX.pr) key now L++[⟨op,key,nm,tx,num⟩]) why)))
    (mk [(0,ptr xb),(4,ptr b4)]) [] h2:=by
  intro h2 a2 c2 L2 he tm w;rw[he];refine w.aG 1 Y Y<|w.st1 0 Y Y Y Y λh3 w=>w.aG 1 Y Y<|w.fS 0 Y Y ?_;intro b7 h4 g4;have w:=w.new g4;refine w.pd 2 Y Y (iI (e:=⟨op,key,nm,tx,num⟩) (w.get 0 Y)) (by simp only[al1];omega) λa5 n5 h5 eU=>?_;refine eU λh6 w=>?_;exact⟨Y,_,x.out w 2 Y⟩
 refine w.aG 1 Y Y<|Bi (λhz=>?_) λhz=>?_
 .have hz:L.length=0:=V
  refine w.aG 1 Y Y<|akV (Mo c (x.out w 1 Y).1 V V) ?_;rintro _ h3 ⟨dG,_,o3⟩;have w:=w.own 1 Y o3;obtain⟨a3,c3,rfl⟩:=w.mB 1 Y;have dl:=mS (k.map RX.pr) key now;exact aW [(0,ptr xb),(4,ptr b4)] J2 (fin (ak4 hz) (by simp only[ak1];omega) w)
 .exact aW [(0,ptr xb),(4,ptr b4)] J2 (fin (akZ V) V w)
def Mr{op num:Int}{k0 nm tx:BA}(x:As h0 h (aT xb t pv lw rv key kv now av lv L why))(hL:L.length<=1000):aj Tryz.prog 95 [ptr xb,.agg ⟨[.int .i64 op,.string k0,.string nm,.string tx,.int .i64 num]⟩] h
  (ao λ_ h'=>∃aY,gJ h0 h (aT xb t pv lw rv key kv now av lv L why) h' (aT xb t pv lw rv key kv now av aY (L++[⟨op,key,nm,tx,num⟩]) why)):=by
 obtain⟨a,cc,rfl⟩:=x.st.mB 0 Y;refine f95.c ?_;intro b4 h1 g1;have w:=x.st.new g1;refine w.aG 1 Y Y<|w.st1 0 Y Y Y Y λh3 w=>w.aG 1 Y Y<|w.fS 0 Y Y ?_;intro b7 h4 g4;have w:=w.new g4;refine w.pd 2 Y Y (iI (e:=⟨op,key,nm,tx,num⟩) (w.get 0 Y)) (by simp only[al1];omega) λa5 n5 h5 eU=>?_;refine eU λh6 w=>?_;exact⟨_,x.out w 2 Y⟩
def Up{n:Nat}{a:Int}(hn:n<=100000)(ha:cy a):aj Tryz.prog 97 [.int .i64 n,.int .i64 a] h (ao λr h'=>r=.tuple #[.int .i64 ((dP n a).getD 0),.bool (dP n a).isSome]∧h'=h):=by
 obtain⟨a0,a1⟩:=ha;refine f97.c<|Bi (λh1=>?_) λh1=>?_
 .rw[show dP n a=none by unfold dP;rw[akZ V,akZ V]];exact⟨Y,Y⟩
 intro z hz;have hz:z= -(n:Int):=hz.trans ((cx V V).trans V);subst hz;refine Bi (λh2=>?_) λh2=>?_
 .rw[show dP n a=none by unfold dP;rw[ak4 V,akZ V]];exact⟨Y,Y⟩
 refine Bi (λh3=>?_) λh3=>?_
 .refine Ai Y (λz hz=>?_);have hz:z=n+a:=hz.trans (cx V V);subst hz;rw[show dP n a=some (a+n).toNat by unfold dP;rw[ak4 h3,ak4 V]];refine⟨?_,Y⟩;show j7 [.int .i64 ((n:Int)+a),.bool true]=.tuple #[.int .i64 (((a+n).toNat:Nat):Int),.bool true];rw[show(((a+n).toNat:Nat):Int)=(n:Int)+a by omega];rfl
 .rw[show dP n a=some a.toNat by unfold dP;rw[akZ h3,ak4 V]];refine⟨?_,Y⟩;show j7 [.int .i64 a,.bool true]=.tuple #[.int .i64 ((a.toNat:Nat):Int),.bool true];rw[show((a.toNat:Nat):Int)=a by omega];rfl
end
end Go.Proofs.YtocgmipngoiieaaGreatDoor
namespace Go.Proofs.YtocgmipngoiieaaGreatDoor
open Go Go.Sx C
def uH(t:aB)(pv lw rv:Value)(is:Bool)(kb:Nat)(now:Int)(key:BA)(av lv:Value):List Value:=
 [.int .i64 t.kind,.string t.text,pv,lw,rv,.bool t.cP,.int .i64 t.bQ,.bool is,ptr kb,.int .i64 now,.string key,av,lv]
def cE(ab kb:Nat)(now:Int)(av:Value)(key:BA)(t:aB)(is:Bool)(pv lw rv lv:Value)(L:List aA):En:=
 .x (ab::(aq lv++bk pv lw rv)) (λh=>ai h ab (uH t pv lw rv is kb now key av lv)∧OL cf 5 h lv L∧TH h (bg t pv lw rv) t∧(∀b∈bk pv lw rv,b<h.size)∧ab∉aq lv∧ab∉bk pv lw rv∧∀b∈aq lv,b∉bk pv lw rv)
  (λ_ _ _ hc hn ⟨h1,h2,h3,h4,h5,h6,h7⟩=>⟨h1.ae hc (hn _ Yy),h2.ae hc (λb hb=>hn _ (by simp[hb])),uj h3 hc (λb hb=>hn _ (by simp[hb])),λb hb=>amX (h4 b hb) hc.size,h5,h6,h7⟩)
  (λ_ ⟨h1,h2,_,h4,_⟩ b hb=>by
   rcases ak3.1 hb with rfl|hb
   .exact h1.lt
   .rcases alf.1 hb with hb|hb
    .exact OL.lt h2 b hb
    .exact h4 b hb)
section
variable {h h1 h':af}{ab kb i:Nat}{now:Int}{av lv pv lw rv:Value}{key zP:BA}{t:aB}{is:Bool}{L F:List aA}{M:List En}{T:List Nat}
def _root_.Go.Sx.St.bV{o:Nat}{v:Value}{K:Value->Prop}(w:St T h1 h M)(i:Nat)(hi:M[i]? =some (cE ab kb now av key t is pv lw rv lv L))(hv:(uH t pv lw rv is kb now key av lv)[o]? =some v)(k:K v):∃v,cell h ab o=some v∧K v:=⟨v,an (w.get i hi).1 hv,k⟩
def _root_.Go.Sx.St.IQ(w:St T h1 h M)(i:Nat)(hi:M[i]? =some (cE ab kb now av key t is pv lw rv lv L)):∃a c,lv=.slice a L.length c:=by
 obtain⟨a,c,e,_⟩:=(show OL cf 5 h lv L from(w.get i hi).2.1).sl.form;exact⟨a,c,e⟩
def _root_.Go.Sx.St.ckey{K:af->Prop}(w:St T h1 h M)(i:Nat)(hi:M[i]? =some (cE ab kb now av key t is pv lw rv lv L))(k:∀h',St T h1 h' (M.set i (cE ab kb now av zP t is pv lw rv lv L))->K h'):∃l,ai h ab l∧10+1<=l.length∧[Value.string zP].length=1∧(∀u∈[Value.string zP],u.oneCell'=true)∧∀h',dL h h' ab (splice l 10 [.string zP])->K h':=by
 obtain⟨hB,hO,hT,hb,n1,n2,n3⟩:=w.get i hi;refine⟨_,hB,by simp[uH],Y,cM Y,λh' p=>k h' ?_⟩;refine w.set i hi p.ae (λb hb=>.inl (by simp at hb;simp[cE,En.fp,hb])) ⟨p.blk,hO.ae p.ae (λb hb=>by simp;rintro rfl;exact n1 hb),uj hT p.ae (λb hb=>by simp;rintro rfl;exact n2 hb),λb h9=>amX (hb b h9) p.ae.size,n1,n2,n3⟩ (λb hb=>.inl hb)
def _root_.Go.Sx.St.OG{a a':Option Addr}{n c m c2:Nat}{z:List Value}{K:Value->af->Prop}(w:St T h1 h M)(i:Nat)(hi:M[i]? =some (cE ab kb now av key t is pv lw rv (.slice a n c) L))(hz:z.length=5)(jj:SL cf h (.slice a' m c2) F)(hb:((L.length+F.length)*2+768)*64<=281474976710656)(k:∀a3 c3 h',(∀{K':af->Prop},(∀bq,St T h1 bq (M.set i (cE ab kb now av key t is pv lw rv (.slice a3 (L++F).length c3) (L++F)))->K' bq)->
   ∃l,ai h' ab l∧12+1<=l.length∧[Value.slice a3 (L++F).length c3].length=1∧(∀u∈[Value.slice a3 (L++F).length c3],u.oneCell'=true)∧∀bq,dL h' bq ab (splice l 12 [.slice a3 (L++F).length c3])->K' bq)->K (.slice a3 (L++F).length c3) h'):ux h K 5 64 z a n c a' m:=by
 obtain⟨hB,hO,hT,CQ,n1,n2,n3⟩:=w.get i hi;have ah:=hB.lt;refine dZ yO FA hz hO jj hb λv' h' ho hc sQ=>?_;have xj:ab∉aq v':=λhm=>by
  rcases sQ ab hm with h3|h3
  .exact n1 h3
  .omega
 have tI:∀b∈aq v',b∉bk pv lw rv:=λb hb hm=>by
  rcases sQ b hb with h3|h3
  .exact n3 b h3 hm
  .have:=CQ b hm;omega
 have Cj:=hB.ae hc n1;have hT1:=uj hT hc (λb hb hm=>n3 b hm hb);obtain⟨a3,c3,rfl,_⟩:=ho.sl.form;refine k a3 c3 h' λ{K'}hK=>?_;refine⟨_,Cj,by simp[uH],Y,cM Y,λbq p=>hK bq ?_⟩;have ct:ag (ab::bG a) h bq:=(hc.mono (λb hb=>alr _ hb)).trans p.ae (λ_ hk=>hk) (λb hb _=>by simp at hb;simp[hb]);refine w.set i hi ct (λb hb=>.inl ?_) ⟨p.blk,ho.ae p.ae (λb hb=>by simp;rintro rfl;exact xj hb),uj hT1 p.ae (λb hb=>by simp;rintro rfl;exact n2 hb),λb h9=>amX (CQ b h9) ct.size,xj,n2,tI⟩ (λb hb=>?_)
 .rcases ak3.1 hb with rfl|hb
  .exact amY ..
  .exact alr _ (amC _ hb)
 .rcases ak3.1 hb with rfl|hb
  .exact .inl (amY ..)
  .rcases alf.1 hb with hb|hb
   .rcases sQ b hb with h3|h3
    .exact .inl (alr _ (amC _ h3))
    .exact .inr h3
   .exact .inl (alr _ (anS _ hb))
def _root_.Go.Sx.St.Yd{t2:aB}{p2 w2 r2:Value}{K:af->Prop}{j:Nat}(w:St T h1 h M)(i:Nat)(hi:M[i]? =some (cE ab kb now av key t is pv lw rv lv L))(hj:M[j]? =some (vJ t2 p2 w2 r2))(jh:j≠i)(k:∀h',St T h1 h' ((M.set j En.nil).set i (cE ab kb now av key t2 is p2 w2 r2 lv L))->K h'):∃l,ai h ab l∧0+7<=l.length∧(bg t2 p2 w2 r2).length=7∧(∀u∈bg t2 p2 w2 r2,u.oneCell'=true)∧∀h',dL h h' ab (splice l 0 (bg t2 p2 w2 r2))->K h':=by
 obtain⟨hB,hO,hT,CQ,n1,n2,n3⟩:=w.get i hi;obtain⟨P0,gY⟩:=w.get j hj;refine⟨_,hB,by simp[uH],Y,dB P0,λh' p=>k h' ?_⟩;have m1:∀b∈bk p2 w2 r2,b∉(cE ab kb now av key t is pv lw rv lv L).fp:=λb hb=>w.apart j i _ _ hj hi jh b hb;have tW:ab∉bk p2 w2 r2:=λhm=>m1 ab hm (by simp[cE,En.fp]);have Lv:∀b∈aq lv,b∉bk p2 w2 r2:=λb hb hm=>m1 b hm (by simp[cE,En.fp,hb]);have hz:=w.size;have fY:i<M.length:=(ak7.1 hi).1;have eA:j<M.length:=(ak7.1 hj).1;have sT:=(w.ents i _ hi).2;have hfj:=(w.ents j _ hj).2;have he:(cE ab kb now av key t2 is p2 w2 r2 lv L).at h':=⟨p.blk,hO.ae p.ae (λb hb=>by simp;rintro rfl;exact n1 hb),uj P0 p.ae (λb hb=>by simp;rintro rfl;exact tW hb),λb h9=>amX (gY b h9) p.ae.size,n1,tW,Lv⟩
 have nj:∀b∈(cE ab kb now av key t2 is p2 w2 r2 lv L).fp,b∈(cE ab kb now av key t is pv lw rv lv L).fp∨b∈(vJ t2 p2 w2 r2).fp:=λb hb=>by
  rcases ak3.1 hb with rfl|hb
  .exact .inl (amY ..)
  .rcases alf.1 hb with hb|hb
   .exact .inl (alr _ (amC _ hb))
   .exact .inr hb
 have cY:ab∈(cE ab kb now av key t is pv lw rv lv L).fp:=amY ..;have sN:∀{x:Nat}{e:En},((M.set j En.nil).set i (cE ab kb now av key t2 is p2 w2 r2 lv L))[x]? =some e->(x=i∧e=cE ab kb now av key t2 is p2 w2 r2 lv L)∨(x=j∧x≠i∧e=En.nil)∨(x≠i∧x≠j∧M[x]? =some e):=λ{x e}hx=>by
  by_cases h1:i=x
  .subst h1;rw[anf (by rw[anE];exact fY)]at hx;cases hx;exact .inl ⟨Y,Y⟩
  .rw[anc h1]at hx;by_cases h2:j=x
   .subst h2;rw[anf eA]at hx;cases hx;exact .inr (.inl ⟨Y,λe=>h1 e.symm,Y⟩)
   .rw[anc h2]at hx;exact .inr (.inr ⟨λe=>h1 e.symm,λe=>h2 e.symm,hx⟩)
 refine⟨w.ae.trans p.ae (λ_ hk=>hk) (λb hb ah=>?_),λx e hx=>?_,λx y e f hx hy hn b h1 h2=>?_⟩
 .simp at hb;subst hb;rcases sT b cY with h9|h9
  .exact h9
  .omega
 .rcases sN hx with⟨rfl,rfl⟩|⟨rfl,_,rfl⟩|⟨h1,h2,hm⟩
  .refine⟨he,λb hb=>?_⟩;rcases nj b hb with h9|h9
   .exact sT b h9
   .exact hfj b h9
  .exact⟨trivial,λb hb=>(nomatch (show b∈([]:List Nat)from hb))⟩
  .refine⟨En.ae (w.get x hm) p.ae (λb hb=>?_),(w.ents x e hm).2⟩;simp;rintro rfl;exact w.apart i x _ e hi hm (λe=>h1 e.symm) b cY hb
 .rcases sN hx with⟨rfl,rfl⟩|⟨rfl,_,rfl⟩|⟨x1,x2,hm⟩
  .rcases sN hy with⟨rfl,rfl⟩|⟨rfl,_,rfl⟩|⟨y1,y2,nc⟩
   .exact hn Y
   .exact(nomatch (show b∈([]:List Nat)from h2))
   .rcases nj b h1 with h9|h9
    .exact w.apart x y _ f hi nc hn b h9 h2
    .exact w.apart j y _ f hj nc (λe=>y2 e.symm) b h9 h2
  .exact(nomatch (show b∈([]:List Nat)from h1))
  .rcases sN hy with⟨rfl,rfl⟩|⟨rfl,_,rfl⟩|⟨y1,y2,nc⟩
   .rcases nj b h2 with h9|h9
    .exact w.apart x y e _ hm hi hn b h1 h9
    .exact w.apart x j e _ hm hj x2 b h1 h9
   .exact(nomatch (show b∈([]:List Nat)from h2))
   .exact w.apart x y e f hm nc hn b h1 h2
end
end Go.Proofs.YtocgmipngoiieaaGreatDoor
namespace Go.Proofs.YtocgmipngoiieaaGreatDoor
open Go Go.Sx C
variable{Qp:List PanicEntry->af->Prop}{h:af}{s:BA}
def ug(why:BA):List PanicEntry:=[{v:=.iface 205 (.agg #[.string why]),recovered:=false}]
def ym(R:Value->af->Prop)(E:BA->af->Prop):Ending->af->Prop
 |.returned v,h=>R v h
 |.panicked ch,h=>∃why,ch=ug why∧E why h
 |.outgrown,_=>False
def rJ{P:Program}{f:Nat}{vs:List Value}{Q:Value->af->Prop}{E:BA->af->Prop}{K:Value->af->Prop}(hc:aj P f vs h (ym Q E))(hk:∀v h',Q v h'->K v h')(he:∀why h',E why h'->Qp (ug why) h'):aj P f vs h (after K Qp):=
 hc.mono λe h' hr=>by
  cases e with
  |returned v=>exact hk _ _ hr
  |panicked ch=>obtain⟨why,rfl,hw⟩:=hr;exact he _ _ hw
  |outgrown=>exact hr.elim
def Sd{b:Bool}:aj Tryz.prog 255 [.bool b,.string s] h (ym (λ_ h'=>b=true∧h'=h) (λwhy h'=>b=false∧why=s∧h'=h)):=by
 refine f255.c ?_;cases b with
 |true=>exact⟨Y,Y⟩
 |false=>exact⟨s,Y,Y,Y,Y⟩
def alo{K:Value->af->Prop}(aN:∀v,K v h):aj Tryz.prog 255 [.bool true,.string s] h (after K Qp):=
 rJ Sd (λv h' hr=>by obtain⟨_,e⟩:=hr;have e:=e.symm;subst e;exact aN v) (λv h' hr=>by obtain⟨h2,_⟩:=hr;cases h2)
def oi{K:Value->af->Prop}(gW:Qp (ug s) h):aj Tryz.prog 255 [.bool false,.string s] h (after K Qp):=
 rJ Sd (λv h' hr=>by obtain⟨h2,_⟩:=hr;cases h2) (λv h' hr=>by obtain⟨_,rfl,e⟩:=hr;have e:=e.symm;subst e;exact gW)
structure P9 (h0:af) (kb sb mb c:Nat) (m:List KI) (S:aH) (av:Value) (A:List BA):Prop where
 kr:KR h0 kb sb mb c m
 so:bT m S
 args:∀h',ag [] h0 h'->SL encS h' av A
def Tn(h0 h:af)(e:En)(h':af)(e':En):Prop:=As h0 h' e'∧Sx.Own e h e' h'
section
variable {h0 h h1 h':af}{ab kb sb mb c:Nat}{now lo hi kd items:Int}{av lv pv lw rv:Value}{key zP s:BA}{t:aB}{is:Bool}{A:List BA}{L F:List aA}{m:List KI}{S:aH}{M:List En}{T:List Nat}{e e':En}
def P9.cz(p:P9 h0 kb sb mb c m S av A)(hi:0<A.length):∃b o cc,av=.slice (some ⟨b,o,none⟩) A.length cc:=by
 have hs:=p.args h0 (ag.refl _);obtain⟨a,cc,rfl,ie⟩:=hs.form;obtain⟨b,o,rfl⟩:=hs.addr hi;exact⟨b,o,cc,Y⟩
def P9.argN(p:P9 h0 kb sb mb c m S av A):∃a cc,av=.slice a A.length cc:=by
 obtain⟨a,cc,rfl,ie⟩:=(p.args h0 (ag.refl _)).form;exact⟨a,cc,Y⟩
def P9.ix{i:Int}{b o n cc:Nat}{s:BA}{K:Value->Prop}(p:P9 h0 kb sb mb c m S (.slice (some ⟨b,o,none⟩) n cc) A)(hc:ag [] h0 h1)(j:Nat)(e:i=j)(hs:A[j]? =some s)(hk:K (.string s)):0<=i∧i<(n:Int)∧∃v,cell h1 b (o+i.toNat*1)=some v∧K v:=by
 subst e;have hj:=(ak7.1 hs).1;have aI:=(p.args h1 hc).cells bj hs;have hn:=(p.args h1 hc).len.1;refine⟨V,V,_,?_,hk⟩;have:=aI 0 _ Y;simpa using this
def sF(h0 h:af)(e:En)(R:Value->En->Prop)(B:BA->Prop):Ending->af->Prop:=
 ym (λv h'=>∃e',R v e'∧Tn h0 h e h' e') (λwhy h'=>B why∧ag e.fp h h')
def cT{P:Program}{f i:Nat}{vs:List Value}{e0:En}{R:Value->En->Prop}{B:BA->Prop}{K:Value->af->Prop}{Qp:List PanicEntry->af->Prop}(x:As h0 h e0)(w:St e0.fp h h1 M)(hi:M[i]? =some e)(hc:As h0 h1 e->aj P f vs h1 (sF h0 h1 e R B))(aN:∀v h' e',R v e'->St e0.fp h h' (M.set i e')->K v h')(gW:∀why h',B why->ag e0.fp h h'->Qp (ug why) h'):aj P f vs h1 (after K Qp):=
 rJ (hc (x.out w i hi).1) (λv h' ⟨e',hR,_,o⟩=>aN v h' e' hR (w.own i hi o)) (λwhy h' ⟨hB,c⟩=>gW why h' hB (w.gone i hi c (λ_ hb=>.inl hb)).ae)
def Tn.refl(x:As h0 h e)(hc:ag [] h h'):Tn h0 h e h' e:=⟨x.ext hc,Sx.Own.refl x.at_ hc⟩
def q7(p:P9 h0 kb sb mb c m S av A)(jE:1<=lo)(x:As h0 h (cE ab kb now av key t is pv lw rv lv L)):aj Tryz.prog 254 [ptr ab,.int .i64 lo,.int .i64 hi] h
  (sF h0 h (cE ab kb now av key t is pv lw rv lv L) (λ_ e'=>(lo<=A.length∧(A.length:Int)<=hi)∧∃k0,A[0]? =some k0∧e'=cE ab kb now av k0 t is pv lw rv lv L)
   (λwhy=>¬(lo<=A.length∧(A.length:Int)<=hi)∧why=cX)):=by
 obtain⟨a,cc,rfl⟩:=p.argN;refine f254.c ?_;have w:=x.st;refine w.bV 0 Y Y<|Bi (λh1=>?_) λh1=>?_
 .refine w.bV 0 Y Y<|Bi (λh2=>?_) λh2=>?_
  .refine alo λ_=>?_;obtain⟨b,o,OH,e⟩:=p.cz V;obtain⟨rfl,rfl⟩:a=some ⟨b,o,none⟩∧cc=OH:=by cases e;exact⟨Y,Y⟩
   have FU:A[0]? =some A[0]:=akU V;refine w.bV 0 Y Y<|p.ix (x.base w) 0 Y FU<|w.ckey 0 Y λh2 w=>?_;exact⟨_,⟨⟨V,V⟩,A[0],FU,Y⟩,x.out w 0 Y⟩
  .exact oi ⟨_,Y,⟨λhh=>V,Y⟩,w.ae⟩
 .exact oi ⟨_,Y,⟨λhh=>V,Y⟩,w.ae⟩
def re{j:Nat}(p:P9 h0 kb sb mb c m S av A)(x:As h0 h (cE ab kb now av key t is pv lw rv lv L))(hl:dr h0)(hj:A[j]? =some s)(hs:s.size<281474976710656):aj Tryz.prog 268 [ptr ab,.int .i64 j] h
  (sF h0 h (cE ab kb now av key t is pv lw rv lv L) (λr e'=>∃n,numOf s=some n∧r=.int .i64 n∧e'=cE ab kb now av key t is pv lw rv lv L) (λwhy=>numOf s=none∧why=jN)):=by
 obtain⟨b,o,cc,rfl⟩:=p.cz (by have:=(ak7.1 hj).1;omega);refine f268.c ?_;have w:=x.st;refine w.bV 0 Y Y<|p.ix (x.base w) j Y hj ?_;obtain⟨⟨l⟩⟩:=s;rw[show numOf ⟨⟨l⟩⟩=Num.num l from Y];obtain⟨u,hu⟩:∃u,u=Num.num l:=⟨_,Y⟩
 refine akV (alP (hl.ext x.ae) hs) ?_;rintro _ h1 ⟨rfl,c1⟩;rw[<-hu];cases u with
 |none=>exact oi ⟨_,Y,⟨Y,Y⟩,c1.mono Yy⟩
 |some n=>exact alo λ_=>⟨_,⟨n,Y,Y,Y⟩,Tn.refl x c1⟩
end
end Go.Proofs.YtocgmipngoiieaaGreatDoor
namespace Go.Proofs.YtocgmipngoiieaaGreatDoor
open Go Go.Sx C
section
variable {h0 h h1 h':af}{ab kb sb mb c:Nat}{now lo hi kd items:Int}{av lv pv lw rv:Value}{key zP s:BA}{t:aB}{is Gx:Bool}{A:List BA}{L F:List aA}{m:List KI}{S:aH}{M:List En}{T:List Nat}{e e':En}
def _root_.Go.Sx.St.XN{K:af->Prop}(w:St T h1 h M)(i:Nat)(hi:M[i]? =some (cE ab kb now av key t is pv lw rv lv L))(k:∀h',St T h1 h' (M.set i (cE ab kb now av key t Gx pv lw rv lv L))->K h'):∃l,ai h ab l∧7+1<=l.length∧[Value.bool Gx].length=1∧(∀u∈[Value.bool Gx],u.oneCell'=true)∧∀h',dL h h' ab (splice l 7 [.bool Gx])->K h':=by
 obtain⟨hB,hO,hT,hb,n1,n2,n3⟩:=w.get i hi;refine⟨_,hB,by simp[uH],Y,cM Y,λh' p=>k h' ?_⟩;refine w.set i hi p.ae (λb hb=>.inl (by simp at hb;simp[cE,En.fp,hb])) ⟨p.blk,hO.ae p.ae (λb hb=>by simp;rintro rfl;exact n1 hb),uj hT p.ae (λb hb=>by simp;rintro rfl;exact n2 hb),λb h9=>amX (hb b h9) p.ae.size,n1,n2,n3⟩ (λb hb=>.inl hb)
def _root_.Go.Sx.St.XS{a:Option Addr}{n c:Nat}{K:af->Prop}(w:St T h1 h M)(i j:Nat)(hi:M[i]? =some (cE ab kb now av key t is pv lw rv lv L))(hj:M[j]? =some (.o cf 5 (.slice a n c) F))(jh:j≠i)(k:∀h',St T h1 h' ((M.set j En.nil).set i (cE ab kb now av key t is pv lw rv (.slice a n c) F))->K h'):∃l,ai h ab l∧12+1<=l.length∧[Value.slice a n c].length=1∧(∀u∈[Value.slice a n c],u.oneCell'=true)∧∀h',dL h h' ab (splice l 12 [.slice a n c])->K h':=by
 obtain⟨hB,hO,hT,CQ,n1,n2,n3⟩:=w.get i hi;have hF:OL cf 5 h (.slice a n c) F:=w.get j hj;refine⟨_,hB,by simp[uH],Y,cM Y,λh' p=>k h' ?_⟩;have m1:∀b∈aq (.slice a n c),b∉(cE ab kb now av key t is pv lw rv lv L).fp:=λb hb=>w.apart j i _ _ hj hi jh b hb;have Si:ab∉aq (.slice a n c):=λhm=>m1 ab hm (by simp[cE,En.fp]);have Lv:∀b∈aq (.slice a n c),b∉bk pv lw rv:=λb hb hm=>m1 b hb (by simp[cE,En.fp,hm]);have hz:=w.size;have fY:i<M.length:=(ak7.1 hi).1;have eA:j<M.length:=(ak7.1 hj).1;have sT:=(w.ents i _ hi).2;have hfj:=(w.ents j _ hj).2;have he:(cE ab kb now av key t is pv lw rv (.slice a n c) F).at h':=⟨p.blk,hF.ae p.ae (λb hb=>by simp;rintro rfl;exact Si hb),uj hT p.ae (λb hb=>by simp;rintro rfl;exact n2 hb),λb h9=>amX (CQ b h9) p.ae.size,Si,n2,Lv⟩
 have nj:∀b∈(cE ab kb now av key t is pv lw rv (.slice a n c) F).fp,b∈(cE ab kb now av key t is pv lw rv lv L).fp∨b∈(En.o cf 5 (.slice a n c) F).fp:=λb hb=>by
  rcases ak3.1 hb with rfl|hb
  .exact .inl (amY ..)
  .rcases alf.1 hb with hb|hb
   .exact .inr hb
   .exact .inl (alr _ (anS _ hb))
 have cY:ab∈(cE ab kb now av key t is pv lw rv lv L).fp:=amY ..;have sN:∀{x:Nat}{e:En},((M.set j En.nil).set i (cE ab kb now av key t is pv lw rv (.slice a n c) F))[x]? =some e->(x=i∧e=cE ab kb now av key t is pv lw rv (.slice a n c) F)∨(x=j∧x≠i∧e=En.nil)∨(x≠i∧x≠j∧M[x]? =some e):=λ{x e}hx=>by
  by_cases h1:i=x
  .subst h1;rw[anf (by rw[anE];exact fY)]at hx;cases hx;exact .inl ⟨Y,Y⟩
  .rw[anc h1]at hx;by_cases h2:j=x
   .subst h2;rw[anf eA]at hx;cases hx;exact .inr (.inl ⟨Y,λe=>h1 e.symm,Y⟩)
   .rw[anc h2]at hx;exact .inr (.inr ⟨λe=>h1 e.symm,λe=>h2 e.symm,hx⟩)
 refine⟨w.ae.trans p.ae (λ_ hk=>hk) (λb hb ah=>?_),λx e hx=>?_,λx y e f hx hy hn b h1 h2=>?_⟩
 .simp at hb;subst hb;rcases sT b cY with h9|h9
  .exact h9
  .omega
 .rcases sN hx with⟨rfl,rfl⟩|⟨rfl,_,rfl⟩|⟨h1,h2,hm⟩
  .refine⟨he,λb hb=>?_⟩;rcases nj b hb with h9|h9
   .exact sT b h9
   .exact hfj b h9
  .exact⟨trivial,λb hb=>(nomatch (show b∈([]:List Nat)from hb))⟩
  .refine⟨En.ae (w.get x hm) p.ae (λb hb=>?_),(w.ents x e hm).2⟩;simp;rintro rfl;exact w.apart i x _ e hi hm (λe=>h1 e.symm) b cY hb
 .rcases sN hx with⟨rfl,rfl⟩|⟨rfl,_,rfl⟩|⟨x1,x2,hm⟩
  .rcases sN hy with⟨rfl,rfl⟩|⟨rfl,_,rfl⟩|⟨y1,y2,nc⟩
   .exact hn Y
   .exact(nomatch (show b∈([]:List Nat)from h2))
   .rcases nj b h1 with h9|h9
    .exact w.apart x y _ f hi nc hn b h9 h2
    .exact w.apart j y _ f hj nc (λe=>y2 e.symm) b h9 h2
  .exact(nomatch (show b∈([]:List Nat)from h1))
  .rcases sN hy with⟨rfl,rfl⟩|⟨rfl,_,rfl⟩|⟨y1,y2,nc⟩
   .rcases nj b h2 with h9|h9
    .exact w.apart x y e _ hm hi hn b h1 h9
    .exact w.apart x j e _ hm hj x2 b h1 h9
   .exact(nomatch (show b∈([]:List Nat)from h2))
   .exact w.apart x y e f hm nc hn b h1 h2
def rf(p:P9 h0 kb sb mb c m S av A)(x:As h0 h (cE ab kb now av key t is pv lw rv lv L)):aj Tryz.prog 256 [ptr ab,.int .i64 kd] h
  (sF h0 h (cE ab kb now av key t is pv lw rv lv L) (λ_ e'=>jm kd (aC S key now)=true∧∃p2 w2 r2,e'=cE ab kb now av key ((aC S key now).getD aL) (aC S key now).isSome p2 w2 r2 lv L)
   (λwhy=>jm kd (aC S key now)=false∧why=gI)):=by
 refine f256.c ?_;have w:=x.st;refine w.bV 0 Y Y<|w.bV 0 Y Y<|w.bV 0 Y Y<|akV (Ex key now (p.kr.ext (x.base w)) p.so) ?_;rintro _ h2 ⟨⟨p2,w2,r2,rfl,tu,fr⟩,c2⟩;generalize aC S key now=go at tu fr⊢;have w:=w.add (e:=vJ (go.getD aL) p2 w2 r2) c2 ⟨tu,λb hb=>(fr b hb).2⟩ (λb hb=>(fr b hb).1);refine w.Yd 1 (j:=0) Y Y Dd λh3 w=>w.XN 1 Y λh4 w=>?_;have fin:∀{h':af}{M':List En}{j:Nat},St (cE ab kb now av key t is pv lw rv lv L).fp h h' M'->M'[j]? =some (cE ab kb now av key (go.getD aL) go.isSome p2 w2 r2 lv L)->
   Tn h0 h (cE ab kb now av key t is pv lw rv lv L) h' (cE ab kb now av key (go.getD aL) go.isSome p2 w2 r2 lv L):=λw hj=>x.out w _ hj
 refine w.bV 1 Y Y ?_;cases go with
 |none=>
  refine alo λ_=>?_;exact⟨_,⟨Y,p2,w2,r2,Y⟩,fin (j:=1) w Y⟩
 |some u=>
  refine w.bV 1 Y Y<|Bi (λh1=>?_) λh1=>?_
  .refine alo λ_=>?_;exact⟨_,⟨ale h1,p2,w2,r2,Y⟩,fin (j:=1) w Y⟩
  .exact oi ⟨_,Y,⟨alg h1,Y⟩,w.ae⟩
def alc(p:P9 h0 kb sb mb c m S av A)(jE:1<=lo)(x:As h0 h (cE ab kb now av key t is pv lw rv lv L)):aj Tryz.prog 262 [ptr ab,.int .i64 kd,.int .i64 lo,.int .i64 hi] h
  (sF h0 h (cE ab kb now av key t is pv lw rv lv L) (λ_ e'=>(lo<=A.length∧(A.length:Int)<=hi)∧∃k0,A[0]? =some k0∧jm kd (aC S k0 now)=true∧∃p2 w2 r2,e'=cE ab kb now av k0 ((aC S k0 now).getD aL) (aC S k0 now).isSome p2 w2 r2 lv L)
   (λwhy=>(¬(lo<=A.length∧(A.length:Int)<=hi)∧why=cX)∨(lo<=A.length∧(A.length:Int)<=hi)∧∃k0,A[0]? =some k0∧jm kd (aC S k0 now)=false∧why=gI)):=by
 refine f262.c ?_;have w:=x.st;refine cT (i:=0) x w Y (λx=>q7 p jE x) ?_ ?_
 .rintro _ h1 _ ⟨hb,k0,bP,rfl⟩ w;refine cT (i:=0) x w Y (λx=>rf p x) ?_ ?_
  .rintro _ h2 _ ⟨hk,p2,w2,r2,rfl⟩ w;exact⟨_,⟨hb,k0,bP,hk,p2,w2,r2,Y⟩,x.out w 0 Y⟩
  .rintro why h2 ⟨hk,rfl⟩ c2;exact⟨_,Y,.inr ⟨hb,k0,bP,hk,Y⟩,c2⟩
 .rintro why h1 ⟨hb,rfl⟩ c1;exact⟨_,Y,.inl ⟨hb,Y⟩,c1⟩
def wB(key:BA)(items:Int)(d:aA):Prop:=items<=65536∧key.size<=1048576∧d.name.size<=1048576∧d.text.size<=1048576
def xL(S:aH)(key:BA)(now:Int)(L:List aA)(d:aA):List aA:=(if L=[]then cV S key now else L)++[{d with key:=key}]
def Vn(d:aA)(x:As h0 h (cE ab kb now av key t is pv lw rv lv L))(hL:L.length<=1000000):aj Tryz.prog 306 [ptr ab,.agg ⟨cf d⟩] h
  (sF h0 h (cE ab kb now av key t is pv lw rv lv L) (λ_ e'=>∃aY,e'=cE ab kb now av key t is pv lw rv aY (L++[{d with key:=key}])) (λ_=>False)):=by
 obtain⟨la,lc,rfl⟩:=x.st.IQ 0 Y;obtain⟨op,k0,nm,tx,nn⟩:=d;refine f306.c ?_;intro b4 h1 g1;have w:St (cE ab kb now av key t is pv lw rv (.slice la L.length lc) L).fp h h1 [.b b4 [.int .i64 op,.string k0,.string nm,.string tx,.int .i64 nn],cE ab kb now av key t is pv lw rv (.slice la L.length lc) L]:=x.st.new g1;refine w.bV 1 Y Y<|w.st1 0 Y Y Y Y λh2 w=>w.bV 1 Y Y<|w.fS 0 Y Y ?_;intro b5 h3 g3;have w:=w.new g3;refine w.OG 2 Y Y (iI (e:=⟨op,key,nm,tx,nn⟩) (w.get 0 Y)) Ys λa3 c3 h4 eU=>eU λh5 w=>?_;exact⟨_,⟨_,Y⟩,x.out w 2 Y⟩
def tX(p:P9 h0 kb sb mb c m S av A)(d:aA)(x:As h0 h (cE ab kb now av key t is pv lw rv lv L))(hL:L.length<=1000000)(hk:key.size<4611686018427387904)(hn:d.name.size<4611686018427387904)(ht:d.text.size<4611686018427387904):aj Tryz.prog 260 [ptr ab,.agg ⟨cf d⟩,.int .i64 items] h
  (sF h0 h (cE ab kb now av key t is pv lw rv lv L) (λ_ e'=>wB key items d∧∃aY,e'=cE ab kb now av key t is pv lw rv aY (xL S key now L d)) (λwhy=>¬wB key items d∧why=lX)):=by
 obtain⟨la,lc,rfl⟩:=x.st.IQ 0 Y;obtain⟨op,k0,nm,tx,nn⟩:=d;have hn:nm.size<4611686018427387904:=hn;have ht:tx.size<4611686018427387904:=ht;refine f260.c ?_;intro b4 h1 g1;have w:St (cE ab kb now av key t is pv lw rv (.slice la L.length lc) L).fp h h1 [.b b4 [.int .i64 op,.string k0,.string nm,.string tx,.int .i64 nn],cE ab kb now av key t is pv lw rv (.slice la L.length lc) L]:=x.st.new g1;have bad:∀{h':af},¬wB key items ⟨op,k0,nm,tx,nn⟩->ag (cE ab kb now av key t is pv lw rv (.slice la L.length lc) L).fp h h'->∃why,ug lX=ug why∧(¬wB key items ⟨op,k0,nm,tx,nn⟩∧why=lX)∧ag (cE ab kb now av key t is pv lw rv (.slice la L.length lc) L).fp h h':=
  λhh hc=>⟨_,Y,⟨hh,Y⟩,hc⟩
 refine Bi (λq1=>?_) λq1=>?_;rotate_left
 .exact oi (bad (λhh=>q1 hh.1) w.ae)
 refine w.bV 1 Y Y<|Bi (λq2=>?_) λq2=>?_;rotate_left
 .exact oi (bad (λhh=>by have:=hh.2.1;omega) w.ae)
 refine w.ld1 0 Y Y<|Bi (λq3=>?_) λq3=>?_;rotate_left
 .exact oi (bad (λhh=>by have:nm.size<=1048576:=hh.2.2.1;omega) w.ae)
 refine w.ld1 0 Y Y<|Bi (λq4=>?_) λq4=>?_;rotate_left
 .exact oi (bad (λhh=>by have:tx.size<=1048576:=hh.2.2.2;omega) w.ae)
 have fit:wB key items ⟨op,k0,nm,tx,nn⟩:=⟨q1,V,by show nm.size<=_;omega,by show tx.size<=_;omega⟩
 refine alo λ_=>?_;have rest:∀{h':af}{my:Option Addr}{RB:Nat}{L2:List aA}{M':List En},L2++[⟨op,key,nm,tx,nn⟩]=xL S key now L ⟨op,k0,nm,tx,nn⟩->L2.length<=1000001->
   St (cE ab kb now av key t is pv lw rv (.slice la L.length lc) L).fp h h' (.b b4 [.int .i64 op,.string k0,.string nm,.string tx,.int .i64 nn]::cE ab kb now av key t is pv lw rv (.slice my L2.length RB) L2::M')->
   swp Tryz.prog f260.sc.r.r.r (cC [] (sF h0 h (cE ab kb now av key t is pv lw rv (.slice la L.length lc) L) (λ_ e'=>wB key items ⟨op,k0,nm,tx,nn⟩∧∃aY,e'=cE ab kb now av key t is pv lw rv aY (xL S key now L ⟨op,k0,nm,tx,nn⟩)) (λwhy=>¬wB key items ⟨op,k0,nm,tx,nn⟩∧why=lX)))
    (mk [(0,ptr ab),(4,ptr b4)]) [] h':=by
  intro h' my RB L2 M' he tm w;refine w.bV 1 Y Y<|w.st1 0 Y Y Y Y λh2 w=>w.bV 1 Y Y<|w.fS 0 Y Y ?_;intro b5 h3 g3;have w:=w.new g3;refine w.OG 2 Y Y (iI (e:=⟨op,key,nm,tx,nn⟩) (w.get 0 Y)) Ys λa3 c3 h4 eU=>eU λh5 w=>?_;exact⟨_,⟨fit,_,by rw[<-he]⟩,x.out w 2 Y⟩
 refine w.bV 1 Y Y<|Bi (λq5=>?_) λq5=>?_
 .have q5:L=[]:=amW V;refine w.bV 1 Y Y<|w.bV 1 Y Y<|w.bV 1 Y Y<|akV (H4 key now (p.kr.ext (x.base w)) p.so) ?_;rintro _ h2 ⟨od,oK,c2⟩;obtain⟨da,dc,rfl,_⟩:=od.sl.form;have w:=w.add (e:=.o cf 5 (.slice da (cV S key now).length dc) (cV S key now)) c2 od oK;refine w.XS 2 0 Y Y Dd λh3 w=>?_;have w:=w.pick [1,2] Dd;exact aW [(0,ptr ab),(4,ptr b4)] J2 (rest (M':=[]) (by unfold xL;rw[ak4 q5]) (by have:=mS S key now;omega) w)
 .have q5:L≠[]:=λe=>q5 (by rw[e];rfl);exact aW [(0,ptr ab),(4,ptr b4)] J2 (rest (M':=[]) (by unfold xL;rw[akZ q5]) V w)
end
end Go.Proofs.YtocgmipngoiieaaGreatDoor
namespace Go.Proofs.YtocgmipngoiieaaGreatDoor
open Go Go.Sx C
variable{h:af}
def toQ(s:BA):Int×Int×BA:=(4,0,s)
def qs(l:List BA):List (Int×Int×BA):=l.map toQ
def vI{s:BA}:aj Tryz.prog 263 [.string s] h (ao λr h'=>r=lT 4 0 s∧ag [] h h'):=by
 refine f263.c ?_;intro b h1 g1;refine Ei _ (Ai g1.blk (Ai Dd (Ai Y (Ai (ou 4 0 s) ?_))));intro h2 p2;have g2:=g1.put p2;exact⟨_,Y,akW g2.blk,Y,g2.ae⟩
def alk{n:Int}:aj Tryz.prog 261 [.int .i64 n] h (ao λr h'=>r=lT 3 n au∧ag [] h h'):=by
 refine f261.c ?_;intro b h1 g1;refine Ei _ (Ai g1.blk (Ai Dd (Ai Y (Ai (ou 3 n au) ?_))));intro h2 p2;have g2:=g1.put p2;exact⟨_,Y,akW g2.blk,Y,g2.ae⟩
def Ia(z:Nat)(h:af)(v:Value)(l:List (Int×Int×BA)):Prop:=∃a n c,v=.agg ⟨[.int .i64 5,.int .i64 0,.string au,.slice a n c]⟩∧OL bR 4 h (.slice a n c) l∧∀b∈bG a,z<=b
def yh(h:af)(ss:List BA)(r:Value)(h':af):Prop:=∃b,r=.slice (some ⟨b,0,none⟩) ss.length ss.length∧ai h' b (ss.map .string)∧h.size<=b∧ag [] h h'
def aeg{s:BA}:aj Tryz.prog 275 [.string s] h (ao (yh h [s])):=by
 refine f275.c ?_;intro b h1 g1;exact⟨b,Y,g1.blk,by have:=g1.id;omega,g1.ae⟩
def ahJ{p:bM}:aj Tryz.prog 267 [.agg ⟨aX p⟩] h (ao (yh h [p.name,p.text])):=by
 refine f267.c ?_;intro b1 h1 g1;refine Ei _ (Ai (an g1.blk Y) (Ei _ (Ai (an g1.blk Y) ?_)));intro b h2 g2;exact⟨b,Y,g2.blk,by have:=g2.id;have:=g1.size;omega,g1.ae.nil g2.ae⟩
def adV{r:aF}:aj Tryz.prog 287 [.agg ⟨aK r⟩] h (ao (yh h [r.name])):=by
 refine f287.c ?_;intro b1 h1 g1;refine Ei _ (Ai (an g1.blk Y) ?_);intro b h2 g2;exact⟨b,Y,g2.blk,by have:=g2.id;have:=g1.size;omega,g1.ae.nil g2.ae⟩
def K8{b n j:Nat}{i:Int}{us:List Value}{v:Value}{K:Value->Prop}(hB:ai h b us)(e:i=j)(hn:j<n)(hs:us[j]? =some v)(k:K v):0<=i∧i<(n:Int)∧∃v,cell h b (0+i.toNat*1)=some v∧K v:=by
 subst e;refine⟨V,V,v,?_,k⟩;have:=an hB hs;simpa using this
def yT{α:Type}{f:α->List BA}(hf:∀x,(f x).length<=2):∀l:List α,(l.flatMap f).length<=2*l.length
 |[]=>Yy
 |x::l=>by
  have h1:=hf x;have h2:=yT hf l;rw[am9,ak1,ak0];omega
def FM{α:Type}{f:α->List BA}{l:List α}{q:Nat}(hq:q<l.length):(l.take (q+1)).flatMap f=(l.take q).flatMap f++f l[q]:=by
 rw[alI hq,anh];simp
def G9{pre ss:List BA}{j:Nat}(hj:j<ss.length):qs (pre++ss.take (j+1))=qs (pre++ss.take j)++[(4,0,ss[j])]:=by
 rw[alI hj,<-alG];unfold qs;rw[alD (l₁:=pre++ss.take j)];rfl
def Li{v:Value}{l:List BA}(hs:SL encS h v l)(hl:l.length<=100000):aj Tryz.prog 274 [v,.func (.func 275) #[] #[]] h (ao λr h'=>Ia h.size h' r (qs (l.flatMap (λs:BA=>[s])))∧ag [] h h'):=by
 obtain⟨a,cc,rfl,_⟩:=hs.form;have two:∀x:BA,((λs:BA=>[s]) x).length<=2:=λx=>Yy
 refine f274.c ?_;intro b4 h1 g1;have w:=(St.start h).new g1;intro b5 h2 g2;have w:=w.new g2;refine w.st1 0 Y Y Y Y λh3 w=>?_;have w:=w.empty (enc:=bR) (size:=4);refine bA (λq:Nat×Value=>[(1,.func (.func 275) #[] #[]),(4,ptr b4),(5,ptr b5),(11,.slice a l.length cc),(12,.int .i64 l.length),(13,.int .i64 q.1)])
  (λq h'=>q.1<=l.length∧St [] h h' [.o bR 4 q.2 (qs ((l.take q.1).flatMap (λs:BA=>[s]))),.b b5 [.int .i64 5,.int .i64 0,.string au,q.2],.b b4 zR])
  (λq=>l.length-q.1) (0,.slice none 0 0) J6 ⟨ak8 _,w⟩ ?_
 rintro⟨q,v⟩ h4 ⟨hq,w⟩;have hq:q<=l.length:=hq;obtain⟨a4,c4,rfl,_⟩:=(show OL bR 4 h4 v (qs ((l.take q).flatMap (λs:BA=>[s])))from w.get 0 Y).sl.form;refine Bi (λah=>?_) λcp=>?_
 .have ah:q<l.length:=V
  obtain⟨b,o,rfl⟩:=hs.addr V;have aI:=(hs.ext w.ae).cells bj (akU ah);obtain⟨ss,gN⟩:∃ss,ss=(λs:BA=>[s]) l[q]:=⟨_,Y⟩
  obtain⟨pre,nY⟩:∃pre,pre=(l.take q).flatMap (λs:BA=>[s]):=⟨_,Y⟩
  have aQ:ss.length<=2:=by rw[gN];exact two _
  have rV:pre.length<=200000:=by rw[nY];have:=yT two (l.take q);rw[alA]at this;omega
  have e9:qs ((l.take (q+1)).flatMap (λs:BA=>[s]))=qs (pre++ss.take ss.length):=by rw[FM ah,alm,nY,gN]
  have ln:(qs ((l.take q).flatMap (λs:BA=>[s]))).length=pre.length:=by rw[nY];exact alL _
  have e0:qs ((l.take q).flatMap (λs:BA=>[s]))=qs (pre++ss.take 0):=by rw[nY];simp
  rw[ln,e0]at w;refine Ai V (Ai V (Ei _ (Ai (aI 0 _ Y)<|akV (show aj _ _ _ _ (ao (yh _ ss))by rw[gN];exact aeg) ?_)));rintro _ h5 ⟨bx,rfl,Bx,F0,c5⟩;have w:=w.add (e:=.b bx (ss.map .string)) c5 Bx (λk hk=>by simp[En.fp]at hk;omega);have w:=w;refine bA (λp:Nat×Value=>[(1,.func (.func 275) #[] #[]),(4,ptr b4),(5,ptr b5),(11,.slice (some ⟨b,o,none⟩) l.length cc),(12,.int .i64 l.length),(13,.int .i64 q),(19,.slice (some ⟨bx,0,none⟩) ss.length ss.length),(20,.int .i64 ss.length),(21,.int .i64 p.1)])
   (λp h'=>p.1<=ss.length∧St [] h h' [.b bx (ss.map .string),.o bR 4 p.2 (qs (pre++ss.take p.1)),.b b5 [.int .i64 5,.int .i64 0,.string au,p.2],.b b4 zR])
   (λp=>ss.length-p.1) (0,.slice a4 pre.length c4) J9 ⟨ak8 _,w⟩ ?_
  rintro⟨j,v⟩ h6 ⟨hj,w⟩;have hj:j<=ss.length:=hj;obtain⟨a6,c6,rfl,_⟩:=(show OL bR 4 h6 v (qs (pre++ss.take j))from w.get 1 Y).sl.form;refine Bi (λgY=>?_) λF7=>?_
  .have gY:j<ss.length:=V
   have qQ:(qs (pre++ss.take j)).length<=200002:=by unfold qs;simp;omega
   refine K8 (w.get 0 Y) Y gY (v:=.string ss[j]) (by simp[gY]) ?_;refine w.ld1 2 Y Y<|w.qx vI λh7 w=>?_;intro b9 h8 g8;have w:=w.new g8;refine w.app 2 Y jb pI Y (SL.one jb (x:=(4,0,ss[j])) (w.get 0 Y)) (by simp only[al1];omega) λv' h9 w=>?_;rw[<-G9 gY]at w;obtain⟨a9,c9,rfl,_⟩:=(show OL bR 4 h9 v' (qs (pre++ss.take (j+1)))from w.get 2 Y).sl.form;refine w.st1 3 Y Y Y Y λbp w=>?_;have w:=w.pick [1,2,3,4] Dd;exact Az<|Ai Y (Ei (j+1,_) (Ai J9 (Ai ⟨gY,w⟩ Yo)))
  .have qM:j=ss.length:=V
   subst qM;rw[<-e9]at w;have w:=w.pick [1,2,3] Dd;exact Az<|Ai Y (Ei (q+1,_) (Ai J6 (Ai ⟨ah,w⟩ Yo)))
 .have aZ:q=l.length:=V
  subst aZ;rw[alm]at w;refine w.fS 1 Y Y<|w.st1 2 Y Y Y Y λh7 w=>?_;refine⟨_,Y,akW (w.get 2 Y),⟨_,_,_,Y,(show OL bR 4 h7 _ (qs (l.flatMap (λs:BA=>[s])))from w.get 0 Y),λb hb=>?_⟩,w.ae⟩;rcases(w.ents 0 _ rfl).2 b hb with h9|h9
  .exact(nomatch h9)
  .exact h9
def ads{v:Value}{l:List bM}(hs:SL aX h v l)(hl:l.length<=100000):aj Tryz.prog 266 [v,.func (.func 267) #[] #[]] h (ao λr h'=>Ia h.size h' r (qs (l.flatMap (λp:bM=>[p.name,p.text])))∧ag [] h h'):=by
 obtain⟨a,cc,rfl,_⟩:=hs.form;have two:∀x:bM,((λp:bM=>[p.name,p.text]) x).length<=2:=λx=>Yy
 refine f266.c ?_;intro b4 h1 g1;have w:=(St.start h).new g1;intro b5 h2 g2;have w:=w.new g2;refine w.st1 0 Y Y Y Y λh3 w=>?_;have w:=w.empty (enc:=bR) (size:=4);refine bA (λq:Nat×Value=>[(1,.func (.func 267) #[] #[]),(4,ptr b4),(5,ptr b5),(11,.slice a l.length cc),(12,.int .i64 l.length),(13,.int .i64 q.1)])
  (λq h'=>q.1<=l.length∧St [] h h' [.o bR 4 q.2 (qs ((l.take q.1).flatMap (λp:bM=>[p.name,p.text]))),.b b5 [.int .i64 5,.int .i64 0,.string au,q.2],.b b4 zR])
  (λq=>l.length-q.1) (0,.slice none 0 0) J6 ⟨ak8 _,w⟩ ?_
 rintro⟨q,v⟩ h4 ⟨hq,w⟩;have hq:q<=l.length:=hq;obtain⟨a4,c4,rfl,_⟩:=(show OL bR 4 h4 v (qs ((l.take q).flatMap (λp:bM=>[p.name,p.text])))from w.get 0 Y).sl.form;refine Bi (λah=>?_) λcp=>?_
 .have ah:q<l.length:=V
  obtain⟨b,o,rfl⟩:=hs.addr V;have aI:=(hs.ext w.ae).cells du (akU ah);obtain⟨ss,gN⟩:∃ss,ss=(λp:bM=>[p.name,p.text]) l[q]:=⟨_,Y⟩
  obtain⟨pre,nY⟩:∃pre,pre=(l.take q).flatMap (λp:bM=>[p.name,p.text]):=⟨_,Y⟩
  have aQ:ss.length<=2:=by rw[gN];exact two _
  have rV:pre.length<=200000:=by rw[nY];have:=yT two (l.take q);rw[alA]at this;omega
  have e9:qs ((l.take (q+1)).flatMap (λp:bM=>[p.name,p.text]))=qs (pre++ss.take ss.length):=by rw[FM ah,alm,nY,gN]
  have ln:(qs ((l.take q).flatMap (λp:bM=>[p.name,p.text]))).length=pre.length:=by rw[nY];exact alL _
  have e0:qs ((l.take q).flatMap (λp:bM=>[p.name,p.text]))=qs (pre++ss.take 0):=by rw[nY];simp
  rw[ln,e0]at w;refine Ai V (Ai V (Ei (aX l[q]) (Ai Y (Ai aI ?_))));intro b7 h40 Jp;have w:=w.new Jp;refine w.st1 0 Y Y Y Y λh41 w=>w.fS 0 Y Y<|akV (show aj _ _ _ _ (ao (yh _ ss))by rw[gN];exact ahJ) ?_;rintro _ h5 ⟨bx,rfl,Bx,F0,c5⟩;have w:=w.add (e:=.b bx (ss.map .string)) c5 Bx (λk hk=>by simp[En.fp]at hk;omega);have w:=w.pick [0,2,3,4] Dd;refine bA (λp:Nat×Value=>[(1,.func (.func 267) #[] #[]),(4,ptr b4),(5,ptr b5),(11,.slice (some ⟨b,o,none⟩) l.length cc),(12,.int .i64 l.length),(13,.int .i64 q),(19,.slice (some ⟨bx,0,none⟩) ss.length ss.length),(20,.int .i64 ss.length),(21,.int .i64 p.1)])
   (λp h'=>p.1<=ss.length∧St [] h h' [.b bx (ss.map .string),.o bR 4 p.2 (qs (pre++ss.take p.1)),.b b5 [.int .i64 5,.int .i64 0,.string au,p.2],.b b4 zR])
   (λp=>ss.length-p.1) (0,.slice a4 pre.length c4) J9 ⟨ak8 _,w⟩ ?_
  rintro⟨j,v⟩ h6 ⟨hj,w⟩;have hj:j<=ss.length:=hj;obtain⟨a6,c6,rfl,_⟩:=(show OL bR 4 h6 v (qs (pre++ss.take j))from w.get 1 Y).sl.form;refine Bi (λgY=>?_) λF7=>?_
  .have gY:j<ss.length:=V
   have qQ:(qs (pre++ss.take j)).length<=200002:=by unfold qs;simp;omega
   refine K8 (w.get 0 Y) Y gY (v:=.string ss[j]) (by simp[gY]) ?_;refine w.ld1 2 Y Y<|w.qx vI λh7 w=>?_;intro b9 h8 g8;have w:=w.new g8;refine w.app 2 Y jb pI Y (SL.one jb (x:=(4,0,ss[j])) (w.get 0 Y)) (by simp only[al1];omega) λv' h9 w=>?_;rw[<-G9 gY]at w;obtain⟨a9,c9,rfl,_⟩:=(show OL bR 4 h9 v' (qs (pre++ss.take (j+1)))from w.get 2 Y).sl.form;refine w.st1 3 Y Y Y Y λbp w=>?_;have w:=w.pick [1,2,3,4] Dd;exact Az<|Ai Y (Ei (j+1,_) (Ai J9 (Ai ⟨gY,w⟩ Yo)))
  .have qM:j=ss.length:=V
   subst qM;rw[<-e9]at w;have w:=w.pick [1,2,3] Dd;exact Az<|Ai Y (Ei (q+1,_) (Ai J6 (Ai ⟨ah,w⟩ Yo)))
 .have aZ:q=l.length:=V
  subst aZ;rw[alm]at w;refine w.fS 1 Y Y<|w.st1 2 Y Y Y Y λh7 w=>?_;refine⟨_,Y,akW (w.get 2 Y),⟨_,_,_,Y,(show OL bR 4 h7 _ (qs (l.flatMap (λp:bM=>[p.name,p.text])))from w.get 0 Y),λb hb=>?_⟩,w.ae⟩;rcases(w.ents 0 _ rfl).2 b hb with h9|h9
  .exact(nomatch h9)
  .exact h9
def RL{v:Value}{l:List aF}(hs:SL aK h v l)(hl:l.length<=100000):aj Tryz.prog 285 [v,.func (.func 287) #[] #[]] h (ao λr h'=>Ia h.size h' r (qs (l.flatMap (λr:aF=>[r.name])))∧ag [] h h'):=by
 obtain⟨a,cc,rfl,_⟩:=hs.form;have two:∀x:aF,((λr:aF=>[r.name]) x).length<=2:=λx=>Yy
 refine f285.c ?_;intro b4 h1 g1;have w:=(St.start h).new g1;intro b5 h2 g2;have w:=w.new g2;refine w.st1 0 Y Y Y Y λh3 w=>?_;have w:=w.empty (enc:=bR) (size:=4);refine bA (λq:Nat×Value=>[(1,.func (.func 287) #[] #[]),(4,ptr b4),(5,ptr b5),(11,.slice a l.length cc),(12,.int .i64 l.length),(13,.int .i64 q.1)])
  (λq h'=>q.1<=l.length∧St [] h h' [.o bR 4 q.2 (qs ((l.take q.1).flatMap (λr:aF=>[r.name]))),.b b5 [.int .i64 5,.int .i64 0,.string au,q.2],.b b4 zR])
  (λq=>l.length-q.1) (0,.slice none 0 0) J6 ⟨ak8 _,w⟩ ?_
 rintro⟨q,v⟩ h4 ⟨hq,w⟩;have hq:q<=l.length:=hq;obtain⟨a4,c4,rfl,_⟩:=(show OL bR 4 h4 v (qs ((l.take q).flatMap (λr:aF=>[r.name])))from w.get 0 Y).sl.form;refine Bi (λah=>?_) λcp=>?_
 .have ah:q<l.length:=V
  obtain⟨b,o,rfl⟩:=hs.addr V;have aI:=(hs.ext w.ae).cells dm (akU ah);obtain⟨ss,gN⟩:∃ss,ss=(λr:aF=>[r.name]) l[q]:=⟨_,Y⟩
  obtain⟨pre,nY⟩:∃pre,pre=(l.take q).flatMap (λr:aF=>[r.name]):=⟨_,Y⟩
  have aQ:ss.length<=2:=by rw[gN];exact two _
  have rV:pre.length<=200000:=by rw[nY];have:=yT two (l.take q);rw[alA]at this;omega
  have e9:qs ((l.take (q+1)).flatMap (λr:aF=>[r.name]))=qs (pre++ss.take ss.length):=by rw[FM ah,alm,nY,gN]
  have ln:(qs ((l.take q).flatMap (λr:aF=>[r.name]))).length=pre.length:=by rw[nY];exact alL _
  have e0:qs ((l.take q).flatMap (λr:aF=>[r.name]))=qs (pre++ss.take 0):=by rw[nY];simp
  rw[ln,e0]at w;refine Ai V (Ai V (Ei (aK l[q]) (Ai Y (Ai aI ?_))));intro b7 h40 Jp;have w:=w.new Jp;refine w.st1 0 Y Y Y Y λh41 w=>w.fS 0 Y Y<|akV (show aj _ _ _ _ (ao (yh _ ss))by rw[gN];exact adV) ?_;rintro _ h5 ⟨bx,rfl,Bx,F0,c5⟩;have w:=w.add (e:=.b bx (ss.map .string)) c5 Bx (λk hk=>by simp[En.fp]at hk;omega);have w:=w.pick [0,2,3,4] Dd;refine bA (λp:Nat×Value=>[(1,.func (.func 287) #[] #[]),(4,ptr b4),(5,ptr b5),(11,.slice (some ⟨b,o,none⟩) l.length cc),(12,.int .i64 l.length),(13,.int .i64 q),(19,.slice (some ⟨bx,0,none⟩) ss.length ss.length),(20,.int .i64 ss.length),(21,.int .i64 p.1)])
   (λp h'=>p.1<=ss.length∧St [] h h' [.b bx (ss.map .string),.o bR 4 p.2 (qs (pre++ss.take p.1)),.b b5 [.int .i64 5,.int .i64 0,.string au,p.2],.b b4 zR])
   (λp=>ss.length-p.1) (0,.slice a4 pre.length c4) J9 ⟨ak8 _,w⟩ ?_
  rintro⟨j,v⟩ h6 ⟨hj,w⟩;have hj:j<=ss.length:=hj;obtain⟨a6,c6,rfl,_⟩:=(show OL bR 4 h6 v (qs (pre++ss.take j))from w.get 1 Y).sl.form;refine Bi (λgY=>?_) λF7=>?_
  .have gY:j<ss.length:=V
   have qQ:(qs (pre++ss.take j)).length<=200002:=by unfold qs;simp;omega
   refine K8 (w.get 0 Y) Y gY (v:=.string ss[j]) (by simp[gY]) ?_;refine w.ld1 2 Y Y<|w.qx vI λh7 w=>?_;intro b9 h8 g8;have w:=w.new g8;refine w.app 2 Y jb pI Y (SL.one jb (x:=(4,0,ss[j])) (w.get 0 Y)) (by simp only[al1];omega) λv' h9 w=>?_;rw[<-G9 gY]at w;obtain⟨a9,c9,rfl,_⟩:=(show OL bR 4 h9 v' (qs (pre++ss.take (j+1)))from w.get 2 Y).sl.form;refine w.st1 3 Y Y Y Y λbp w=>?_;have w:=w.pick [1,2,3,4] Dd;exact Az<|Ai Y (Ei (j+1,_) (Ai J9 (Ai ⟨gY,w⟩ Yo)))
  .have qM:j=ss.length:=V
   subst qM;rw[<-e9]at w;have w:=w.pick [1,2,3] Dd;exact Az<|Ai Y (Ei (q+1,_) (Ai J6 (Ai ⟨ah,w⟩ Yo)))
 .have aZ:q=l.length:=V
  subst aZ;rw[alm]at w;refine w.fS 1 Y Y<|w.st1 2 Y Y Y Y λh7 w=>?_;refine⟨_,Y,akW (w.get 2 Y),⟨_,_,_,Y,(show OL bR 4 h7 _ (qs (l.flatMap (λr:aF=>[r.name])))from w.get 0 Y),λb hb=>?_⟩,w.ae⟩;rcases(w.ents 0 _ rfl).2 b hb with h9|h9
  .exact(nomatch h9)
  .exact h9
def amf{n:Nat}{a:Int}(hn:n<4611686018427387904)(ha:cy a):aj Tryz.prog 272 [.int .i64 n,.int .i64 a] h (ao λr h'=>r=.tuple #[.int .i64 ((dP n a).getD 0:Nat),.bool (dP n a).isSome]∧h'=h):=by
 obtain⟨a0,a1⟩:=ha;refine f272.c<|Bi (λq1=>?_) λq1=>?_
 .refine Ai Y ?_;have mx:max ((n:Int)) 0=n:=V
  rw[mx];refine Az<|Bi (λq2=>?_) λq2=>?_
  .have e:dP n a=none:=by unfold dP;rw[ak4 q1,akZ V]
   rw[e];exact⟨Y,Y⟩
  .have e:dP n a=some (a+n).toNat:=by unfold dP;rw[ak4 q1,ak4 V]
   rw[e];refine Ai Y (Ai (λq3=>absurd q3 V) (λq3=>?_));refine⟨?_,Y⟩;have:(((a+n).toNat:Nat):Int)=a+n:=V
   show Value.tuple #[.int .i64 (a+n),.bool true]=.tuple #[.int .i64 (((a+n).toNat:Nat):Int),.bool true];rw[this]
 .refine Ai Y (Ai (λq2=>absurd q2 q1) (λ_=>Bi (λq3=>?_) λq3=>?_))
  .have e:dP n a=none:=by unfold dP;rw[akZ q1,akZ V]
   rw[e];exact⟨Y,Y⟩
  .have e:dP n a=some a.toNat:=by unfold dP;rw[akZ q1,ak4 V]
   rw[e];refine⟨?_,Y⟩;have:((a.toNat:Nat):Int)=a:=V
   show Value.tuple #[.int .i64 a,.bool true]=.tuple #[.int .i64 ((a.toNat:Nat):Int),.bool true];rw[this]
def Vf{n:Nat}{a b:Int}(hn:n<4611686018427387904)(ha:cy a)(hb:cy b):aj Tryz.prog 273 [.int .i64 n,.int .i64 a,.int .i64 b] h (ao λr h'=>r=.tuple #[.int .i64 ((eD n a b).1:Nat),.int .i64 ((eD n a b).2:Nat)]∧h'=h):=by
 obtain⟨a0,a1⟩:=ha;obtain⟨b0,b1⟩:=hb;refine f273.c<|Bi (λq1=>?_) λq1=>?_
 .have e:eD n a b=(0,0):=by unfold eD;rw[ak4 (.inl V)]
  rw[e];exact⟨Y,Y⟩
 have last:∀{b2:Int},b2=(if b<0 then b+n else b)-> -9223372036854775808<=b2->b2<=9223372036854775807->swp Tryz.prog f273.sc.r.r.r.r.r
   (cC [.t 6,.t 7] (ao λr h'=>r=.tuple #[.int .i64 ((eD n a b).1:Nat),.int .i64 ((eD n a b).2:Nat)]∧h'=h)) (mk [(0,.int .i64 n),(1,.int .i64 (er n a)),(2,.int .i64 b2),(8,.int .i64 n)]) [] h:=by
  intro b2 eL r0 r1;have hA:0<=er n a∧er n a<=9223372036854775807:=by unfold er;split<;>omega
  refine Ai Y (λz hz=>?_);have hz:z=(n:Int)-1:=hz.trans (cx V V);subst hz;refine Ai Y ?_;have hB:min b2 ((n:Int)-1)=ir n b:=by unfold ir;rw[<-eL]
  rw[hB];have FY:ir n b<=(n:Int)-1:=by unfold ir;exact Int.min_le_right _ _
  refine Bi (λq2=>?_) λq2=>?_
  .have e:eD n a b=(0,0):=by unfold eD;rw[ak4 (.inr q2)]
   rw[e];exact⟨Y,Y⟩
  .have e:eD n a b=((er n a).toNat,(ir n b).toNat+1):=by unfold eD;rw[akZ (λhh=>by rcases hh with hh|hh;exact q1 V;exact q2 hh)]
   rw[e];refine Ai Y (λz hz=>?_);have hz:z=ir n b+1:=hz.trans (cx V V);subst hz;refine⟨?_,Y⟩;have e1:(((er n a).toNat:Nat):Int)=er n a:=V
   have e2:((((ir n b).toNat+1:Nat)):Int)=ir n b+1:=V
   show Value.tuple #[.int .i64 (er n a),.int .i64 (ir n b+1)]=.tuple #[.int .i64 (((er n a).toNat:Nat):Int),.int .i64 (((ir n b).toNat+1:Nat):Int)];rw[e1,e2]
 have mid:swp Tryz.prog f273.sc.r.r.r.r
   (cC [.t 6,.t 7] (ao λr h'=>r=.tuple #[.int .i64 ((eD n a b).1:Nat),.int .i64 ((eD n a b).2:Nat)]∧h'=h)) (mk [(0,.int .i64 n),(1,.int .i64 (er n a)),(2,.int .i64 b),(8,.int .i64 n)]) [] h:=by
  refine Bi (λq2=>?_) λq2=>?_
  .refine Ai Y (λz hz=>?_);have hz:z=b+n:=hz.trans (cx V V);subst hz;exact aW [(0,.int .i64 n),(1,.int .i64 (er n a)),(2,.int .i64 (b+n)),(8,.int .i64 n)] J4 (last (by rw[ak4 q2]) V V)
  .exact aW [(0,.int .i64 n),(1,.int .i64 (er n a)),(2,.int .i64 b),(8,.int .i64 n)] J4 (last (by rw[akZ q2]) V V)
 refine Bi (λq2=>?_) λq2=>?_
 .refine Ai Y (λz hz=>?_);have hz:z=a+n:=hz.trans (cx V V);subst hz;refine Ai Y ?_;have hA:max 0 (a+(n:Int))=er n a:=by unfold er;rw[ak4 q2]
  rw[hA];exact aW [(0,.int .i64 n),(1,.int .i64 (er n a)),(2,.int .i64 b),(8,.int .i64 n)] J4 mid
 .have hA:a=er n a:=by unfold er;rw[akZ q2]
  have e1:(mk [(0,Value.int .i64 n),(1,.int .i64 (er n a)),(2,.int .i64 b),(8,.int .i64 n)])=mk [(0,.int .i64 n),(1,.int .i64 a),(2,.int .i64 b),(8,.int .i64 n)]:=by rw[<-hA]
  exact aW [(0,.int .i64 n),(1,.int .i64 a),(2,.int .i64 b),(8,.int .i64 n)] J4 (by rw[<-e1];exact mid)
end Go.Proofs.YtocgmipngoiieaaGreatDoor
namespace Go.Proofs.YtocgmipngoiieaaGreatDoor
open Go Go.Sx C
set_option maxHeartbeats 1000000 in
def Mq{h:af}{n:Nat}{a b:Int}(hn:n<=100000)(ha:cy a)(hb:cy b):aj Tryz.prog 96 [.int .i64 n,.int .i64 a,.int .i64 b] h (ao λr h'=>r=.tuple #[.int .i64 ((eD n a b).1:Nat),.int .i64 ((eD n a b).2:Nat)]∧h'=h):=by
 obtain⟨a0,a1⟩:=ha;obtain⟨b0,b1⟩:=hb;refine f96.c ?_;have Jy:0<=er n a∧er n a<=9223372036854775807:=by unfold er;split<;>omega
 have last:∀{b2:Int},b2=(if b<0 then b+n else b)-> -9223372036854775808<=b2->b2<=9223372036854775807->0<=b2->
   swp Tryz.prog f96.sc.r.r.r.r
    (cC [.t 6,.t 7] (ao λr h'=>r=.tuple #[.int .i64 ((eD n a b).1:Nat),.int .i64 ((eD n a b).2:Nat)]∧h'=h)) (mk [(1,.int .i64 (er n a)),(2,.int .i64 b2),(6,.int .i64 0),(7,.int .i64 0),(8,.int .i64 n)]) [] h:=by
  intro b2 eL l0 l1 l2;have hB:min b2 ((n:Int)-1)=ir n b:=by unfold ir;rw[<-eL]
  refine Bi (λq1=>?_) λq1=>?_
  .have e:eD n a b=(0,0):=by unfold eD;rw[ak4 (.inr V)]
   rw[e];exact⟨Y,Y⟩
  refine Bi (λq2=>?_) λq2=>?_
  .have e:eD n a b=(0,0):=by unfold eD;rw[ak4 (.inr V)]
   rw[e];exact⟨Y,Y⟩
  have e:eD n a b=((er n a).toNat,(ir n b).toNat+1):=by unfold eD;rw[akZ (λhh=>by rcases hh with hh|hh<;>omega)]
  rw[e];refine Ai Y (λz hz=>?_);have hz:z=(n:Int)-1:=hz.trans (cx V V);subst hz;refine Ai Y ?_;rw[hB];refine Ai Y (λz hz=>?_);have hz:z=ir n b+1:=hz.trans (cx V V);subst hz;refine⟨?_,Y⟩;show Value.tuple #[.int .i64 (er n a),.int .i64 (ir n b+1)]=.tuple #[.int .i64 (((er n a).toNat:Nat):Int),.int .i64 (((ir n b).toNat+1:Nat):Int)];rw[show(((er n a).toNat:Nat):Int)=er n a by omega,show((((ir n b).toNat+1:Nat)):Int)=ir n b+1 by omega]
 have mid:swp Tryz.prog f96.sc.r.r.r
    (cC [.t 6,.t 7] (ao λr h'=>r=.tuple #[.int .i64 ((eD n a b).1:Nat),.int .i64 ((eD n a b).2:Nat)]∧h'=h)) (mk [(1,.int .i64 (er n a)),(2,.int .i64 b),(6,.int .i64 0),(7,.int .i64 0),(8,.int .i64 n)]) [] h:=by
  refine Bi (λq2=>?_) λq2=>?_
  .intro z hz;have hz:z= -(n:Int):=hz.trans ((cx V V).trans V);subst hz;refine Bi (λq3=>?_) λq3=>?_
   .have e:eD n a b=(0,0):=by
     have hB:ir n b<=b+n:=by unfold ir;rw[ak4 q2];exact Int.min_le_left _ _
     unfold eD;rw[ak4 (.inr V)]
    rw[e];exact⟨Y,Y⟩
   refine Ai Y (λz hz=>?_);have hz:z=b+n:=hz.trans ((cx V V).trans V);subst hz;exact aW [(1,.int .i64 (er n a)),(2,.int .i64 (b+n)),(6,.int .i64 0),(7,.int .i64 0),(8,.int .i64 n)] J5 (last (by rw[ak4 q2]) V V V)
  .exact aW [(1,.int .i64 (er n a)),(2,.int .i64 b),(6,.int .i64 0),(7,.int .i64 0),(8,.int .i64 n)] J5 (last (by rw[akZ q2]) V V V)
 refine Bi (λq1=>?_) λq1=>?_
 .intro z hz;have hz:z= -(n:Int):=hz.trans ((cx V V).trans V);subst hz;refine Ai Y<|Ai Y (λz hz=>?_);have hz:z=(n:Int)+max a (-(n:Int)):=hz.trans (cx V V);subst hz;refine Ai Y ?_;have hA:max 0 ((n:Int)+max a (-(n:Int)))=er n a:=by unfold er;rw[ak4 q1];omega
  rw[hA];exact aW [(1,.int .i64 (er n a)),(2,.int .i64 b),(6,.int .i64 0),(7,.int .i64 0),(8,.int .i64 n)] J5 mid
 .have hA:a=er n a:=by unfold er;rw[akZ q1]
  generalize hg:er n a=g at hA mid;subst hA;exact aW [(1,.int .i64 a),(2,.int .i64 b),(6,.int .i64 0),(7,.int .i64 0),(8,.int .i64 n)] J5 mid
def AD{h:af}{v:Value}{l:List BA}(hs:SL encS h v l)(hl:l.length<=100000):aj Tryz.prog 83 [v] h (ao λr h'=>qp h.size h' r (fC l)∧ag [] h h'):=by
 obtain⟨a,cc,rfl,_⟩:=hs.form;refine f83.c ?_;intro b2 h1 g1;have w:=(St.start h).new g1;intro b3 h2 g2;have w:=w.new g2;refine w.st1 0 Y Y Y Y λh3 w=>?_;have w:=w.empty (enc:=bR) (size:=4);refine bA (λq:Nat×Value=>[(0,.slice a l.length cc),(2,ptr b2),(3,ptr b3),(4,.int .i64 q.1)])
  (λq h'=>q.1<=l.length∧St [] h h' [.o bR 4 q.2 (qs (l.take q.1)),.b b3 [.int .i64 5,.int .i64 0,.string au,q.2],.b b2 zR])
  (λq=>l.length-q.1) (0,.slice none 0 0) J4 ⟨ak8 _,w⟩ ?_
 rintro⟨q,v⟩ h4 ⟨hq,w⟩;have hq:q<=l.length:=hq;obtain⟨a4,c4,rfl,_⟩:=(show OL bR 4 h4 v (qs (l.take q))from w.get 0 Y).sl.form;refine Bi (λah=>?_) λcp=>?_
 .have ah:q<l.length:=V
  obtain⟨b,o,rfl⟩:=hs.addr V;have aI:=(hs.ext w.ae).cells bj (akU ah);have qQ:(qs (l.take q)).length<=100000:=by unfold qs;simp;omega
  have e1:qs (l.take (q+1))=qs (l.take q)++[(4,0,l[q])]:=G9 (pre:=[]) ah;refine w.ld1 1 Y Y<|Ai V (Ai V (Ei _ (Ai (aI 0 _ Y)<|w.qx rm λh7 w=>?_)));intro b9 h8 g8;have w:=w.new g8;refine w.app 1 Y jb pI Y (SL.one jb (x:=(4,0,l[q])) (w.get 0 Y)) (by simp only[al1];omega) λv' h9 w=>?_;rw[<-e1]at w;obtain⟨a9,c9,rfl,_⟩:=(show OL bR 4 h9 v' (qs (l.take (q+1)))from w.get 1 Y).sl.form;refine w.st1 2 Y Y Y Y λbp w=>?_;have w:=w.pick [1,2,3] Dd;exact Az<|Ai Y (Ei (q+1,_) (Ai J4 (Ai ⟨ah,w⟩ Yo)))
 .have aZ:q=l.length:=V
  subst aZ;rw[alm]at w;refine w.fS 1 Y Y<|w.st1 2 Y Y Y Y λh5 w=>?_;have eo:=w.ents 0 _ Y;exact⟨_,Y,akW (w.get 2 Y),⟨_,_,_,Y,(show OL bR 4 h5 _ (qs l)from w.get 0 Y).sl,λb hb=>by
   rcases eo.2 b hb with h1|h1
   .cases h1
   .exact h1⟩,w.ae⟩
end Go.Proofs.YtocgmipngoiieaaGreatDoor
namespace Go.Proofs.YtocgmipngoiieaaGreatDoor
open Go Go.Sx C
def I6:EH Tryz.prog 111 46 f111 [.cn 6 4,.c1 7,.t 8]:=MM (fl:=true) mixed Tryz.func111 Y Kr Kr Kr
def Pa:Ij Tryz.prog 132 14 f132 []:=Vb (fl:=true) mixed Tryz.func132 Y Kr Kr Kr
def Pb{h:af}{b6 b7:Nat}:rD Tryz.prog 132 [ptr b6,ptr b7] .returning h λe u' h'=>(∃v,e=.returned v)∧u'=.returning∧h'=h:=by
 refine Pa Yy ?_;exact⟨Y,⟨_,Y⟩,Y,Y⟩
def H5{h:af}{s:BA}:aj Tryz.prog 65 [.string s] h (ao λr h'=>r=lT 2 0 s∧ag [] h h'):=by
 refine f65.c ?_;intro b h1 g1;refine Ei _ (Ai g1.blk (Ai Dd (Ai Y (Ai (ou 2 0 s) ?_))));intro h2 p2;have g2:=g1.put p2;exact⟨_,Y,akW g2.blk,Y,g2.ae⟩
def Yv{h:af}{b6 b7:Nat}{why:BA}{r4:List Value}{lv:Value}(B6:ai h b6 r4)(hr:r4.length=4)(B7:ai h b7 [lv])(ax:b6≠b7):rD Tryz.prog 132 [ptr b6,ptr b7] (.panicking (nG why)) h λe u' h'=>(∃v,e=.returned v)∧u'=.panicking [{v:=.iface 196 (.agg #[.string why]),recovered:=true}]∧
   ai h' b6 [.int .i64 2,.int .i64 0,.string why,.slice none 0 0]∧ai h' b7 [.slice none 0 0]∧ag [b6,b7] h h':=by
 refine Pa Yy ?_;have l6:=B6.lt;have l7:=B7.lt;refine Ai (λ_=>?_) (λax=>absurd Y ax);intro b3 h1 g1;refine Ei _ (Ai g1.blk (Ai Dd (Ai Y (Ai (cM Y) ?_))));intro h2 p2;have g2:=g1.put p2;have B3:ai h2 b3 [.string why]:=p2.blk;refine Ei _ (Ai (an B3 Y)<|akV H5 ?_);rintro _ h3 ⟨rfl,c3⟩;have mN:=g2.ae.nil c3;refine Ei _ (Ai (B6.ae mN Yy) (Ai (by rw[hr];decide) (Ai Y (Ai (ou 2 0 why) ?_))));intro h4 p4;have vO:ai h4 b6 [.int .i64 2,.int .i64 0,.string why,.slice none 0 0]:=by
  have h9:ai h4 b6 (splice r4 0 [.int .i64 2,.int .i64 0,.string why,.slice none 0 0]):=p4.blk;rw[four hr Y]at h9;exact h9
 refine Ei _ (Ai ((B7.ae mN Yy).ae p4.ae Ys) (Ai Yy (Ai Y (Ai (cM Y) ?_))));intro h5 p5;have AY:ai h5 b7 [.slice none 0 0]:=p5.blk;have c5:ag [b6,b7] h h5:=((mN.mono Yy).trans p4.ae (λ_ hx=>hx) (λx hx _=>by simp at hx;simp[hx])).trans p5.ae (λ_ hx=>hx) (λx hx _=>by simp at hx;simp[hx]);exact⟨Y,⟨_,Y⟩,Y,vO.ae p5.ae Ys,AY,c5⟩
variable{es:List MapEntry}{h:af}{ks:List (List UInt8)}
def kD(l:List UInt8):BA:=⟨⟨l⟩⟩
def lu:List (List UInt8×Nat×Option Int):=[([83,69,84],167,none),([71,69,84],168,none),([68,69,76],169,none),([69,88,73,83,84,83],170,none),([84,89,80,69],171,none),
 ([73,78,67,82],247,some 1),([68,69,67,82],247,some (-1)),([73,78,67,82,66,89],173,none),([65,80,80,69,78,68],177,none),([83,84,82,76,69,78],178,none),([77,71,69,84],179,none),
 ([77,83,69,84],180,none),([80,69,88,80,73,82,69],181,none),([80,69,82,83,73,83,84],182,none),([80,84,84,76],183,none),([75,69,89,83],184,none),([68,66,83,73,90,69],185,none),
 ([70,76,85,83,72,65,76,76],186,none)]
def Et(h:af)(v:Value)(g:Nat):Option Int->Prop
 |none=>v=.func (.func g) #[] #[]
 |some z=>∃b o,v=.func (.func g) #[] #[.pointer (some ⟨b,o,none⟩)]∧cell h b o=some (.int .i64 z)
def jz:List (List UInt8×Nat×Option Int)->BA->Option (Nat×Option Int)
 |[],_=>none
 |(n,g,z)::l,w=>if w=kD n then some (g,z)else jz l w
def NF(h:af)(W:BA)(ms:List MapEntry)(i:Nat):Option (Nat×Option Int)->Prop
 |some (g,z)=>∃j v,bH (.string W) ms i=some (j,v)∧Et h v g z
 |none=>bH (.string W) ms i=none
def A2(h:af):List MapEntry->List (List UInt8×Nat×Option Int)->Prop
 |[],[]=>True
 |e::es,(n,g,z)::ns=>e.key=.string (kD n)∧Et h e.val g z∧A2 h es ns
 |_,_=>False
def A2.found{h:af}(W:BA):∀{es:List MapEntry}{ns:List (List UInt8×Nat×Option Int)}{i:Nat},A2 h es ns->(∀e∈es,fits .str e.key=true)∧NF h W es i (jz ns W)
 |[],[],i,_=>⟨Yy,Y⟩
 |e::es,(n,g,z)::ns,i,⟨hk,hf,hm⟩=>by
  obtain⟨h5,h6⟩:=A2.found W (i:=i+1) hm;refine⟨λe' zh=>?_,?_⟩
  .rcases ak3.1 zh with rfl|zh
   .rw[hk];rfl
   .exact h5 e' zh
  .unfold jz;by_cases hw:W=kD n
   .rw[ak4 hw];refine⟨i,e.val,?_,hf⟩;unfold bH;rw[hk,hw,ak4 (xS (k:=.str) Y)]
   .rw[akZ hw];have hn:¬(Instr.sameBits 10000 (.string W) e.key=true):=λhs=>by
     have:=xR (k:=.str) (by rfl) (by rw[hk];rfl) hs;rw[hk]at this;simp at this;exact hw this
    cases hl:jz ns W with
    |none=>
     rw[hl]at h6;show bH _ (e::es) i=none;unfold bH;rw[akZ hn];exact h6
    |some p=>
     rw[hl]at h6;obtain⟨j,v,h7,h8⟩:=h6;refine⟨j,v,?_,h8⟩;unfold bH;rw[akZ hn];exact h7
 |[],_::_,_,hm=>hm.elim
 |_::_,[],_,hm=>hm.elim
def FD:List UInt8->List UInt8->Bool
 |[],[]=>true
 |a::l,b::m=>Nat.beq a.toNat b.toNat&&FD l m
 |_,_=>false
def Pp:∀a:List UInt8,FD a a=true
 |[]=>rfl
 |a::l=>by simp[FD,Pp l]
def kS{k:List UInt8}(h:(ks.all λn=>!FD n k)=true):k∉ks:=λhm=>by
 have:=amV.1 h k hm;rw[Pp]at this;cases this
def nM(es:List MapEntry)(ks:List (List UInt8)):Prop:=es.map (·.key)=ks.map λn=>.string (kD n)
def nM.fits(hk:nM es ks):∀e∈es,fits .str e.key=true:=λe he=>by
 have:e.key∈es.map (·.key):=als he
 rw[hk]at this;obtain⟨n,_,e1⟩:=alF.1 this;rw[<-e1];rfl
def nM.miss{k:List UInt8}:∀{es:List MapEntry}{ks:List (List UInt8)}{i:Nat},nM es ks->k∉ks->bH (.string (kD k)) es i=none
 |[],ks,i,_,_=>rfl
 |e::es,[],i,hk,_=>by simp[nM]at hk
 |e::es,n::ks,i,hk,hn=>by
  simp only[nM,alR,anm]at hk;unfold bH;rw[akZ,nM.miss (es:=es) (ks:=ks) hk.2 (λh=>hn (by simp[h]))];intro hs;have:=xR (k:=.str) (by rfl) (by rw[hk.1];rfl) hs;rw[hk.1]at this;simp[kD]at this;exact hn (by simp[this])
def nM.kT{h':af}{r c:Nat}{e:MapEntry}(hk:nM es ks)(_:kG h h' r (.map ⟨es++[e]⟩ c))(n:List UInt8)(he:e.key=.string (kD n)):nM (es++[e]) (ks++[n]):=by
 unfold nM at hk⊢;rw[alD,alD,hk];simp[he]
def Vk{n:Int}:aj Tryz.prog 172 [.int .i64 n] h (ao λr h'=>∃b,r=.func (.func 247) #[] #[ptr b]∧jr h h' b [.int .i64 n]):=by
 refine f172.c ?_;intro b h1 g1;exact⟨_,Y,g1⟩
set_option maxHeartbeats 1000000 in
def OP:aj Tryz.prog 130 [] h (ao λr h'=>ag [] h h'∧∃mb es c,r=.map (some mb)∧cN h' mb es c∧(∀e∈es,fits .str e.key=true)∧∀W,NF h' W es 0 (jz lu W)):=by
 refine f130.c ?_;intro mb h0 g0;have w:=(St.start h).Ag g0;have ky:nM [] []:=rfl;refine Ai Y (Ei _ (Ei _ (Ai (w.get 0 Y) (Ai ky.fits ?_))));rw[show bH (.string ⟨#[83,69,84]⟩) _ 0=none from ky.miss (k:=[83,69,84]) (kS Kr)];intro h1 p1;have ky:=ky.kT p1 [83,69,84] Y;have w:St [] h _ [.m mb _ _]:=w.iG 0 Y p1;refine Ai Y (Ei _ (Ei _ (Ai (w.get 0 Y) (Ai ky.fits ?_))));rw[show bH (.string ⟨#[71,69,84]⟩) _ 0=none from ky.miss (k:=[71,69,84]) (kS Kr)];intro h2 p2;have ky:=ky.kT p2 [71,69,84] Y;have w:St [] h _ [.m mb _ _]:=w.iG 0 Y p2;refine Ai Y (Ei _ (Ei _ (Ai (w.get 0 Y) (Ai ky.fits ?_))));rw[show bH (.string ⟨#[68,69,76]⟩) _ 0=none from ky.miss (k:=[68,69,76]) (kS Kr)];intro h3 p3;have ky:=ky.kT p3 [68,69,76] Y;have w:St [] h _ [.m mb _ _]:=w.iG 0 Y p3;refine Ai Y (Ei _ (Ei _ (Ai (w.get 0 Y) (Ai ky.fits ?_))));rw[show bH (.string ⟨#[69,88,73,83,84,83]⟩) _ 0=none from ky.miss (k:=[69,88,73,83,84,83]) (kS Kr)];intro h4 p4;have ky:=ky.kT p4 [69,88,73,83,84,83] Y;have w:St [] h _ [.m mb _ _]:=w.iG 0 Y p4;refine Ai Y (Ei _ (Ei _ (Ai (w.get 0 Y) (Ai ky.fits ?_))));rw[show bH (.string ⟨#[84,89,80,69]⟩) _ 0=none from ky.miss (k:=[84,89,80,69]) (kS Kr)];intro h5 p5;have ky:=ky.kT p5 [84,89,80,69] Y;have w:St [] h _ [.m mb _ _]:=w.iG 0 Y p5;refine akV Vk ?_;rintro _ h5a ⟨b5,rfl,gb5⟩;have w:=w.new gb5;refine Ai Y (Ei _ (Ei _ (Ai (w.get 1 Y) (Ai ky.fits ?_))));rw[show bH (.string ⟨#[73,78,67,82]⟩) _ 0=none from ky.miss (k:=[73,78,67,82]) (kS Kr)];intro h6 p6;have ky:=ky.kT p6 [73,78,67,82] Y;have w:St [] h _ [.b b5 [.int .i64 1],.m mb _ _]:=w.iG 1 Y p6;refine akV Vk ?_;rintro _ h6a ⟨b6,rfl,gb6⟩;have w:=w.new gb6;refine Ai Y (Ei _ (Ei _ (Ai (w.get 2 Y) (Ai ky.fits ?_))));rw[show bH (.string ⟨#[68,69,67,82]⟩) _ 0=none from ky.miss (k:=[68,69,67,82]) (kS Kr)];intro h7 p7;have ky:=ky.kT p7 [68,69,67,82] Y;have w:St [] h _ [.b b6 [.int .i64 (-1)],.b b5 [.int .i64 1],.m mb _ _]:=w.iG 2 Y p7;refine Ai Y (Ei _ (Ei _ (Ai (w.get 2 Y) (Ai ky.fits ?_))));rw[show bH (.string ⟨#[73,78,67,82,66,89]⟩) _ 0=none from ky.miss (k:=[73,78,67,82,66,89]) (kS Kr)];intro h8 p8;have ky:=ky.kT p8 [73,78,67,82,66,89] Y;have w:St [] h _ [.b b6 [.int .i64 (-1)],.b b5 [.int .i64 1],.m mb _ _]:=w.iG 2 Y p8;refine Ai Y (Ei _ (Ei _ (Ai (w.get 2 Y) (Ai ky.fits ?_))));rw[show bH (.string ⟨#[65,80,80,69,78,68]⟩) _ 0=none from ky.miss (k:=[65,80,80,69,78,68]) (kS Kr)];intro h9 p9;have ky:=ky.kT p9 [65,80,80,69,78,68] Y;have w:St [] h _ [.b b6 [.int .i64 (-1)],.b b5 [.int .i64 1],.m mb _ _]:=w.iG 2 Y p9;refine Ai Y (Ei _ (Ei _ (Ai (w.get 2 Y) (Ai ky.fits ?_))));rw[show bH (.string ⟨#[83,84,82,76,69,78]⟩) _ 0=none from ky.miss (k:=[83,84,82,76,69,78]) (kS Kr)];intro bp jn;have ky:=ky.kT jn [83,84,82,76,69,78] Y;have w:St [] h _ [.b b6 [.int .i64 (-1)],.b b5 [.int .i64 1],.m mb _ _]:=w.iG 2 Y jn;refine Ai Y (Ei _ (Ei _ (Ai (w.get 2 Y) (Ai ky.fits ?_))));rw[show bH (.string ⟨#[77,71,69,84]⟩) _ 0=none from ky.miss (k:=[77,71,69,84]) (kS Kr)];intro dO p11;have ky:=ky.kT p11 [77,71,69,84] Y;have w:St [] h _ [.b b6 [.int .i64 (-1)],.b b5 [.int .i64 1],.m mb _ _]:=w.iG 2 Y p11;refine Ai Y (Ei _ (Ei _ (Ai (w.get 2 Y) (Ai ky.fits ?_))));rw[show bH (.string ⟨#[77,83,69,84]⟩) _ 0=none from ky.miss (k:=[77,83,69,84]) (kS Kr)];intro cO xJ;have ky:=ky.kT xJ [77,83,69,84] Y;have w:St [] h _ [.b b6 [.int .i64 (-1)],.b b5 [.int .i64 1],.m mb _ _]:=w.iG 2 Y xJ;refine Ai Y (Ei _ (Ei _ (Ai (w.get 2 Y) (Ai ky.fits ?_))));rw[show bH (.string ⟨#[80,69,88,80,73,82,69]⟩) _ 0=none from ky.miss (k:=[80,69,88,80,73,82,69]) (kS Kr)];intro dn DL;have ky:=ky.kT DL [80,69,88,80,73,82,69] Y;have w:St [] h _ [.b b6 [.int .i64 (-1)],.b b5 [.int .i64 1],.m mb _ _]:=w.iG 2 Y DL;refine Ai Y (Ei _ (Ei _ (Ai (w.get 2 Y) (Ai ky.fits ?_))));rw[show bH (.string ⟨#[80,69,82,83,73,83,84]⟩) _ 0=none from ky.miss (k:=[80,69,82,83,73,83,84]) (kS Kr)];intro dJ rl;have ky:=ky.kT rl [80,69,82,83,73,83,84] Y;have w:St [] h _ [.b b6 [.int .i64 (-1)],.b b5 [.int .i64 1],.m mb _ _]:=w.iG 2 Y rl;refine Ai Y (Ei _ (Ei _ (Ai (w.get 2 Y) (Ai ky.fits ?_))));rw[show bH (.string ⟨#[80,84,84,76]⟩) _ 0=none from ky.miss (k:=[80,84,84,76]) (kS Kr)];intro jW DM;have ky:=ky.kT DM [80,84,84,76] Y;have w:St [] h _ [.b b6 [.int .i64 (-1)],.b b5 [.int .i64 1],.m mb _ _]:=w.iG 2 Y DM;refine Ai Y (Ei _ (Ei _ (Ai (w.get 2 Y) (Ai ky.fits ?_))));rw[show bH (.string ⟨#[75,69,89,83]⟩) _ 0=none from ky.miss (k:=[75,69,89,83]) (kS Kr)];intro PU SY;have ky:=ky.kT SY [75,69,89,83] Y;have w:St [] h _ [.b b6 [.int .i64 (-1)],.b b5 [.int .i64 1],.m mb _ _]:=w.iG 2 Y SY;refine Ai Y (Ei _ (Ei _ (Ai (w.get 2 Y) (Ai ky.fits ?_))));rw[show bH (.string ⟨#[68,66,83,73,90,69]⟩) _ 0=none from ky.miss (k:=[68,66,83,73,90,69]) (kS Kr)];intro h17 SZ;have ky:=ky.kT SZ [68,66,83,73,90,69] Y;have w:St [] h _ [.b b6 [.int .i64 (-1)],.b b5 [.int .i64 1],.m mb _ _]:=w.iG 2 Y SZ;refine Ai Y (Ei _ (Ei _ (Ai (w.get 2 Y) (Ai ky.fits ?_))));rw[show bH (.string ⟨#[70,76,85,83,72,65,76,76]⟩) _ 0=none from ky.miss (k:=[70,76,85,83,72,65,76,76]) (kS Kr)];intro h18 S0;have ky:=ky.kT S0 [70,76,85,83,72,65,76,76] Y;have w:St [] h _ [.b b6 [.int .i64 (-1)],.b b5 [.int .i64 1],.m mb _ _]:=w.iG 2 Y S0;refine⟨w.ae,mb,_,_,Y,w.get 2 Y,ky.fits,λW=>(A2.found W ?_).2⟩;exact⟨Y,Y,Y,Y,Y,Y,Y,Y,Y,Y,Y,⟨b5,0,Y,an (w.get 1 Y) Y⟩,Y,⟨b6,0,Y,an (w.get 0 Y) Y⟩,Y,Y,Y,Y,Y,Y,Y,Y,Y,Y,Y,Y,Y,Y,Y,Y,Y,Y,Y,Y,Y,Y,trivial⟩
end Go.Proofs.YtocgmipngoiieaaGreatDoor
namespace Go.Proofs.YtocgmipngoiieaaGreatDoor
open Go Go.Sx C
def ad3{h:af}:aj Tryz.prog 60 [.pointer none] h (ao λr h'=>r=.bool true∧h'=h):=by
 exact f60.c<|Ai Y Y
def Ht{h:af}{kb sb mb:Nat}(x:KS h kb sb mb):aj Tryz.prog 64 [ptr kb,.pointer none] h (ao λr h'=>r=.bool false∧h'=h):=by
 refine f64.c<|akV (q9 x) ?_;rintro _ h1 ⟨rfl,e⟩;have e:=e.symm;subst e;refine akV ad3 ?_;rintro _ h1 ⟨rfl,e⟩;have e:=e.symm;subst e;refine akV (q9 x) ?_;rintro _ h1 ⟨rfl,e⟩;have e:=e.symm;subst e;exact Ai Y Y
def ub{α:Type}{enc:α->List Value}{size:Nat}{K:Value->af->Prop}{h:af}{a:Option Addr}{c:Nat}{l:List α}(aS:∀x,(enc x).length=size)(hs:SL enc h (.slice a l.length c) l){lo hi:Nat}(h0:lo<=hi)(h1:hi<=l.length)(hK:∀v,(∀h',SL enc h' (.slice a l.length c) l->SL enc h' v ((l.drop lo).take (hi-lo)))->K v h):ud K h size a c (lo:Int) (hi:Int):=by
 have e1:((hi:Int)-(lo:Int)).toNat=hi-lo:=V
 have e2:((c:Int)-(lo:Int)).toNat=c-lo:=V
 have di:=hs.len.2;have hlen:((l.drop lo).take (hi-lo)).length=hi-lo:=by simp;omega
 obtain⟨a',c',he,pM,h2⟩:=id hs;cases he;cases a with
 |none=>
  have hz:l.length=0:=h2;unfold ud;rw[e1,e2];refine hK _ λh' _=>⟨none,c-lo,by rw[hlen],by rw[hlen];omega,?_⟩
  show((l.drop lo).take (hi-lo)).length=0;omega
 |some a=>
  obtain⟨b,o,sp⟩:=a;cases sp with
  |none=>
   intro o' nh jF;rw[e1,e2];refine hK _ λh' eG=>(SL.cut aS eG h0 h1 (λah=>?_) (λhce=>?_))
   .rw[nh V];simp
   .exact jF V
  |some q=>
   have hz:l.length=0:=h2;unfold ud;rw[e1,e2];refine Ai V (hK _ λh' _=>⟨_,c-lo,by rw[hlen],by rw[hlen];omega,?_⟩);show((l.drop lo).take (hi-lo)).length=0;omega
def j9(h:af)(res:Except BA (cR×List aA))(r:Value)(h':af):Prop:=ag [] h h'∧match res with
 |.ok (q,E)=>∃v lv,r=.tuple ⟨[v,lv,.bool true]⟩∧qp h.size h' v q∧SL cf h' lv E∧∀b∈aq lv,h.size<=b
 |.error why=>r=.tuple ⟨[lT 2 0 why,.slice none 0 0,.bool true]⟩
def A1(h:af):Option Int->List Value->Prop
 |none,cap=>cap=[]
 |some n,cap=>∃b o,cap=[.pointer (some ⟨b,o,none⟩)]∧cell h b o=some (.int .i64 n)
def Et.cap{h:af}{v:Value}{g:Nat}{z:Option Int}(hf:Et h v g z):∃cap,v=.func (.func g) #[] ⟨cap⟩∧A1 h z cap:=by
 cases z with
 |none=>exact⟨[],hf,Y⟩
 |some n=>obtain⟨b,o,rfl,hc⟩:=hf;exact⟨_,Y,b,o,Y,hc⟩
def A1.ext{h h':af}{z:Option Int}{cap:List Value}(x:A1 h z cap)(hc:ag [] h h'):A1 h' z cap:=by
 cases z with
 |none=>exact x
 |some n=>obtain⟨b,o,rfl,h1⟩:=x;exact⟨b,o,Y,sI h1 hc Yy⟩
def O8{h:af}{kb sb mb c g:Nat}{now:Int}{av:Value}{w:BA}{A:List BA}{m:List KI}{z:Option Int}{res:Except BA (cR×List aA)}(kr:KR h kb sb mb c m)(hA:SL encS h av (w::A))(hl:(w::A).length<4611686018427387904)(hz:w.size<4611686018427387904)(bw:jz lu (up w)=some (g,z))(hf:∀h1 ab fO cap,A1 h1 z cap->AS h h1 ab kb now fO A (.slice none 0 0) []->aj Tryz.prog g ([ptr ab]++cap) h1 (fq h h1 ab kb now fO A (.slice none 0 0) res)):aj Tryz.prog 111 [ptr kb,.int .i64 now,av] h (ao (j9 h res)):=by
 obtain⟨a,cc,rfl,ie⟩:=hA.form;obtain⟨b0,o0,rfl⟩:=hA.addr Yy;refine I6 Yy ?_;intro b6 h1 g1;have w1:=(St.start h).new g1;intro b7 h2 g2;have w2:=w1.new g2;have c2:ag [] h h2:=w2.ae;refine Ai Y (Ai (λh0=>absurd h0 Ys) (λ_=>dN (Ht (kr.ext c2).ks) ?_));have mh:=hA.ext c2;have hc0:=mh.cells bj (i:=0) (x:=w) Yy;refine Ai Dd (Ai Yy (Ei _ (Ai (by simpa using hc0 0 _ Y) ?_)));refine iw OP ?_;rintro _ h3 ⟨c3,b,es,c',rfl,hm,bK,wN⟩;refine Ai c3.ext<|iw (EZ hz) ?_;rintro _ h4 ⟨rfl,c4⟩;refine Ai c4.ext<|Ai Y (Ei es (Ei c' (Ai (hm.ae c4 Yy) (Ai bK ?_))));have jD:=wN (up w);rw[bw]at jD;obtain⟨i,v,jD,fz⟩:=jD;obtain⟨cap,rfl,qG⟩:=fz.cap;rw[jD];have w4:=(w2.ext c3).ext c4;refine Ai Dd (Ai (by simp only[ak0];omega) (Ai V<|ub (lo:=1) (hi:=(w::A).length) bj (hA.ext w4.ae) Yy (ali _) λv1 bL=>?_));have e1:((w::A).drop 1).take ((w::A).length-1)=A:=Yy
 rw[e1]at bL;obtain⟨a1,lh,rfl,JT⟩:=(bL h hA).form;intro ab h5 g5;have w5:=w4.new g5;have z4:=w4.ae.size;have i5:=g5.id;have x5:AS h h5 ab kb now (.slice a1 A.length lh) A (.slice none 0 0) []:=
  ⟨w5.ae,V,λh' hc=>bL h' (hA.ext hc),g5.blk,OL.nil,λb hb=>(nomatch (show b∈([]:List Nat)from hb))⟩
 have ahG:∀{h6 q6 E},AS h h6 ab kb now (.slice a1 A.length lh) A q6 E->Aside h5 h6 ab (.slice none 0 0) q6->St [] h h6 [iN ab kb now (.slice a1 A.length lh) q6 E,.b b7 [.slice none 0 0],.b b6 zR]:=by
  intro h6 q6 E x6 a6;refine w5.set 0 Y a6.2.1 (λk hk=>.inl hk) ⟨x6.blk,x6.wv,λhm=>(x6.own ab hm).2 Y⟩ λk hk=>?_;rcases ak3.1 hk with rfl|hk
  .exact .inl (by simp[En.fp])
  .rcases a6.1 k hk with h9|h9
   .exact nomatch (show k∈([]:List Nat)from h9)
   .exact .inr h9
 refine iP (hf h5 ab _ cap ((qG.ext c4).ext g5.ae) x5) ?_ ?_
 .rintro v h6 ⟨q,E,he,⟨ra,rn,rc,rfl,sl,fr⟩,q6,x6,a6⟩;subst he;obtain⟨la,ln,lc,rfl⟩:∃a n c,q6=.slice a n c:=let⟨a,c,e,_⟩:=x6.wv;⟨a,_,c,e⟩;have w6:=ahG x6 a6;have J':=g1.id;have Ka:=g2.id;have z1:=g1.size;have z2:=g2.size;have z3:=(c3.nil c4).size;have z5:=g5.size;have keep:∀{h7 h8:af}{k:Nat},k<h5.size->SL bR h7 (.slice ra rn rc) q.l->ag [k] h7 h8->SL bR h8 (.slice ra rn rc) q.l:=λhk sl hc=>sl.ae hc λb hb=>by have:=fr b hb;simp;omega
  have l6:b6<h5.size:=V
  have l7:b7<h5.size:=V
  refine w6.st2 2 Y Y Y Y λh7 w7 k7=>?_;have sl:=keep l6 sl k7;refine w7.fS 2 Y Y<|Ai ?_ ?_
  .refine w7.cw 0 Y Y<|w7.st2 2 Y Y Y Y λh8 w8 k8=>w8.st2 1 Y Y Y Y λh9 w9 k9=>?_;have sl:=keep l7 (keep l6 sl k8) k9;refine Ai Yy (Pb.mono ?_);rintro e u' h' ⟨⟨v,rfl⟩,rfl,rfl⟩;exact⟨_,Y,akW (w9.get 2 Y),_,an (w9.get 1 Y) Y,w9.ae,_,_,Y,⟨ra,rn,rc,Y,sl,λb hb=>by have:=fr b hb;have:=w5.ae.size;omega⟩,(w9.get 0 Y).2.1.sl,λb hb=>by
    rcases(w9.ents 0 _ rfl).2 b (alr _ hb)with h1|h1
    .cases h1
    .exact h1⟩
  .refine w7.st2 2 Y Y Y Y λh8 w8 k8=>w8.cw 0 Y Y<|w8.st2 1 Y Y Y Y λh9 w9 k9=>?_;have sl:=keep l7 (keep l6 sl k8) k9;refine Ai Yy (Pb.mono ?_);rintro e u' h' ⟨⟨v,rfl⟩,rfl,rfl⟩;exact⟨_,Y,akW (w9.get 2 Y),_,an (w9.get 1 Y) Y,w9.ae,_,_,Y,⟨ra,rn,rc,Y,sl,λb hb=>by have:=fr b hb;have:=w5.ae.size;omega⟩,(w9.get 0 Y).2.1.sl,λb hb=>by
    rcases(w9.ents 0 _ rfl).2 b (alr _ hb)with h1|h1
    .cases h1
    .exact h1⟩
 .rintro why h6 ⟨he,c6⟩;subst he;have w6:=w5.gone 0 Y c6 (λk hk=>by
   rcases ak3.1 hk with rfl|hk
   .exact .inl (by simp[En.fp])
   .exact nomatch (show k∈([]:List Nat)from hk))
  have J':=g1.id;have Ka:=g2.id;have z1:=g1.size;refine Ai Yy ((Yv (w6.get 2 Y) Y (w6.get 1 Y) (w6.ne 2 1 Y Y Dd)).mono ?_);rintro e u' h' ⟨⟨v,rfl⟩,rfl,H0,H2,c7⟩;exact⟨_,Y,akW H0,_,an H2 Y,w6.ae.fresh c7 Ys,Y⟩
abbrev iH:Value:=.slice none 0 0
abbrev c0(ab kb:Nat)(now:Int)(av:Value):En:=cE ab kb now av au aL false iH iH iH iH []
def eE(h0 h:af)(ab kb:Nat)(now:Int)(av:Value)(res:aM):Ending->af->Prop:=
 ym (λr h'=>∃q E key t is pv lw rv lv,res=.ok (q,E)∧qp h.size h' r q∧Tn h0 h (c0 ab kb now av) h' (cE ab kb now av key t is pv lw rv lv E)) (λwhy h'=>res=.error why∧ag (c0 ab kb now av).fp h h')
structure T9 (t:aB):Prop where
 ps:t.pairs.length<=2000
 ls:t.list.length<=2000
 rs:t.ranks.length<=2000
 pt:∀p∈t.pairs,p.text.size<=1048576
 ri:∀r∈t.ranks,cy r.score
 rz:∀r∈t.ranks,r.name.size<=1048576
 lz:∀x∈t.list,x.size<=1048576
def S9(S:aH):Prop:=∀p∈S,T9 p.2
def Jq{S:aH}{key:BA}{now:Int}{t:aB}(h:aC S key now=some t):(key,t)∈S:=by
 unfold aC at h;split at h
 .rename_i u hu;split at h
  .cases h
  .cases h;exact uL hu
 .cases h
def S9.get{S:aH}(s:S9 S)(key:BA)(now:Int):T9 ((aC S key now).getD aL):=by
 cases hg:aC S key now with
 |none=>exact⟨ak8 _,ak8 _,ak8 _,λp hp=>(nomatch hp),λr hr=>(nomatch hr),λr hr=>(nomatch hr),λx hx=>(nomatch hx)⟩
 |some t=>exact s _ (Jq hg)
section
variable {h0 h h1 h2 h':af}{ab kb sb mb c b2:Nat}{now lo hi kd items k n:Int}{av lv pv lw rv:Value}{key s why:BA}{t:aB}{is:Bool}{A:List BA}{L E:List aA}{m:List KI}{S:aH}{M:List En}{T:List Nat}{e e':En}{res:aM}{q:cR}{ls:List (Int×Int×BA)}
def cF(he:res=.error why)(hc:ag (c0 ab kb now av).fp h h'):∃w,ug why=ug w∧res=.error w∧ag (c0 ab kb now av).fp h h':=⟨why,Y,he,hc⟩
def iy(x:As h0 h (c0 ab kb now av))(w:St (c0 ab kb now av).fp h h' M)(i j:Nat)(hi:M[i]? =some (.b b2 [.int .i64 k,.int .i64 n,.string s,.slice none 0 0]))(hj:M[j]? =some (cE ab kb now av key t is pv lw rv lv E))(he:res=.ok (gF k n s,E)):∃vs,vs.length=4∧fF h' b2 0 vs∧eE h0 h ab kb now av res (.returned (.agg ⟨vs⟩)) h':=
 ⟨_,Y,akW (w.get i hi),gF k n s,E,key,t,is,pv,lw,rv,lv,he,⟨none,0,0,Y,SL.nil,λb hb=>(nomatch (show b∈([]:List Nat)from hb))⟩,x.out w j hj⟩
def yS{a:Option Addr}{n c:Nat}(x:As h0 h (c0 ab kb now av))(w:St (c0 ab kb now av).fp h h' M)(i j l:Nat)(hi:M[i]? =some (.b b2 [.int .i64 5,.int .i64 0,.string au,.slice a n c]))(hj:M[j]? =some (cE ab kb now av key t is pv lw rv lv E))(hl:M[l]? =some (.o bR 4 (.slice a n c) ls))(Kg:∀b∈bG a,h.size<=b)(he:res=.ok (⟨5,0,au,ls⟩,E)):∃vs,vs.length=4∧fF h' b2 0 vs∧eE h0 h ab kb now av res (.returned (.agg ⟨vs⟩)) h':=
 ⟨_,Y,akW (w.get i hi),⟨5,0,au,ls⟩,E,key,t,is,pv,lw,rv,lv,he,⟨a,n,c,Y,(show OL bR 4 h' (.slice a n c) ls from w.get l hl).sl,Kg⟩,x.out w j hj⟩
def _root_.Go.Sx.St.gG(w:St T h1 h M)(i:Nat)(hi:M[i]? =some (cE ab kb now av key t is pv lw rv lv L)):SL aX h pv t.pairs∧SL encS h lw t.list∧SL aK h rv t.ranks:=by
 obtain⟨_,_,hT,_⟩:=w.get i hi;obtain⟨p,l,r,e,h1,h2,h3⟩:=hT;simp only[bg,anm,aoG,aos]at e;obtain⟨rfl,rfl,rfl⟩:=e;exact⟨h1,h2,h3⟩
def qi{i:Int}{b o n cc:Nat}{l:List BA}{K:Value->Prop}(hs:SL encS h (.slice (some ⟨b,o,none⟩) n cc) l)(j:Nat)(e:i=j)(hj:l[j]? =some s)(hk:K (.string s)):0<=i∧i<(n:Int)∧∃v,cell h b (o+i.toNat*1)=some v∧K v:=by
 subst e;have h1:=(ak7.1 hj).1;have aI:=hs.cells bj hj;have hn:=hs.len.1;refine⟨V,V,_,?_,hk⟩;have:=aI 0 _ Y;simpa using this
def hX{kd:Int}{f:aB->aM}(hk:jm kd (aC S key now)=true):bX S now kd key f=f ((aC S key now).getD aL):=by
 unfold bX;cases hg:aC S key now with
 |none=>rfl
 |some t=>rw[hg]at hk;exact ak4 (amy hk)
def nw{kd:Int}{f:aB->aM}(hk:jm kd (aC S key now)=false):bX S now kd key f=.error gI:=by
 unfold bX;cases hg:aC S key now with
 |none=>rw[hg]at hk;cases hk
 |some t=>rw[hg]at hk;exact akZ (an9 hk)
def js(S:aH)(now:Int)(A:List BA)(lo hi kd:Int)(why:BA):Prop:=
 (¬(lo<=A.length∧(A.length:Int)<=hi)∧why=cX)∨(lo<=A.length∧(A.length:Int)<=hi)∧∃k0,A[0]? =some k0∧jm kd (aC S k0 now)=false∧why=gI
def js.a1{f:BA->aB->aM}(h:js S now A 1 1 kd why):jS (λkey=>bX S now kd key (f key)) A=.error why:=by
 rcases h with⟨hb,rfl⟩|⟨hb,k0,bP,hk,rfl⟩
 .exact nN hb
 .obtain⟨k1,rfl⟩:=jK hb;cases bP;exact nw hk
def js.a2{f:BA->BA->aB->aM}(h:js S now A 2 2 kd why):alb (λkey n=>bX S now kd key (f key n)) A=.error why:=by
 rcases h with⟨hb,rfl⟩|⟨hb,k0,bP,hk,rfl⟩
 .exact uz hb
 .obtain⟨k1,k2,rfl⟩:=qm hb;cases bP;exact nw hk
def AP{α:Type}{A:List α}(h:(3:Int)<=A.length∧(A.length:Int)<=3):∃x y z,A=[x,y,z]:=by
 match A,h with
 |[],h=>simp at h
 |[x],h=>simp at h
 |[x,y],h=>simp at h
 |[x,y,z],_=>exact⟨x,y,z,Y⟩
 |x::y::z::u::l,h=>simp at h;omega
def yB{f:BA->BA->BA->aM}{A:List BA}(h:¬((3:Int)<=A.length∧(A.length:Int)<=3)):nO f A=.error cX:=by
 match A,h with
 |[],_=>rfl
 |[x],_=>rfl
 |[x,y],_=>rfl
 |[x,y,z],h=>exact absurd ⟨Yy,Yy⟩ h
 |x::y::z::u::l,_=>rfl
def xC{ok:Bool}{r:cR}(h:items<=65536∧key.size<=1048576∧ok=true):makes S now key items ok r E=.ok (r,cV S key now++E):=ak4 h
def tQ{ok:Bool}{r:cR}(h:¬(items<=65536∧key.size<=1048576∧ok=true)):makes S now key items ok r E=.error lX:=akZ h
def kZ(S:aH)(key:BA)(now:Int)(D:List aA)(q:Nat):List aA:=if q=0 then[]else cV S key now++D.take q
def yu{D:List aA}{q:Nat}{d:aA}(hq:D[q]? =some {d with key:=key}):xL S key now (kZ S key now D q) d=kZ S key now D (q+1):=by
 have hl:=(ak7.1 hq).1;have hd:=(ak7.1 hq).2;unfold xL;have e1:kZ S key now D (q+1)=cV S key now++(D.take q++[{d with key:=key}]):=by
  unfold kZ;rw[akZ V,alI hl,hd]
 rw[e1];by_cases h0:q=0
 .subst h0;rw[show kZ S key now D 0=[]from ak4 Y,ak4 Y];simp
 .have e2:kZ S key now D q=cV S key now++D.take q:=by unfold kZ;rw[akZ h0]
  have ax:cV S key now++D.take q≠[]:=by
   intro he;have:(cV S key now++D.take q).length=0:=by rw[he];rfl
   rw[ak1,alA]at this;omega
  rw[e2,akZ ax,alG]
def EM(D:List aA)(q:Nat)(hq:q<=D.length):(kZ S key now D q).length<=q+1:=by
 unfold kZ;split
 .simp
 .have:=mS S key now;simp;omega
def EL{D:List aA}(hD:D≠[]):kZ S key now D D.length=cV S key now++D:=by
 unfold kZ;rw[akZ (λh=>hD (amW h)),alm]
end
end Go.Proofs.YtocgmipngoiieaaGreatDoor
namespace Go.Proofs.YtocgmipngoiieaaGreatDoor
open Go Go.Sx C
def dI(res:aM)(q:cR)(E:List aA)(why:BA):Prop:=(why=au∧res=.ok (q,E))∨(why≠au∧res=.error why)
section
variable {h0 h h1 h':af}{xb i:Nat}{now n m:Int}{kv av lv pv lw rv:Value}{k:List RX}{A:List BA}{L E:List aA}{why key s u:BA}{t:aB}{M:List En}{T:List Nat}{res:aM}
def dI.ok{q:cR}{E:List aA}(h:res=.ok (q,E)):dI res q E au:=.inl ⟨Y,h⟩
def dI.no{q:cR}{E:List aA}(hw:why≠au)(h:res=.error why):dI res q E why:=.inr ⟨hw,h⟩
def cj(h0 h:af)(xb:Nat)(t:aB)(pv lw rv:Value)(key:BA)(kv:Value)(now:Int)(av lv:Value)(res:aM)(r:Value)(h':af):Prop:=
 ∃q aY E why,qp h.size h' r q∧(∃t' dQ gO dV gh,gJ h0 h (aT xb t pv lw rv key kv now av lv [] au) h' (aT xb t' dQ gO dV gh kv now av aY E why))∧dI res q E why
def cj.fin{b4:Nat}{a m:Int}{aY:Value}{E:List aA}(x:As h0 h (aT xb t pv lw rv key kv now av lv [] au))(w:St (xb::aq lv) h h' M)(i j:Nat)(hi:M[i]? =some (.b b4 [.int .i64 a,.int .i64 m,.string s,.slice none 0 0]))(hj:M[j]? =some (aT xb t pv lw rv key kv now av aY E why))(hd:dI res (gF a m s) E why):∃vs,vs.length=4∧fF h' b4 0 vs∧cj h0 h xb t pv lw rv key kv now av lv res (.agg ⟨vs⟩) h':=
 ⟨_,Y,akW (w.get i hi),gF a m s,aY,E,why,⟨none,0,0,Y,SL.nil,λb hb=>(nomatch (show b∈([]:List Nat)from hb))⟩,⟨t,pv,lw,rv,key,x.out w j hj⟩,hd⟩
def fT(x:TH h (bg t pv lw rv) t):SL aX h pv t.pairs∧SL encS h lw t.list∧SL aK h rv t.ranks:=by
 obtain⟨p,l,r,e,h1,h2,h3⟩:=x;simp only[bg,anm,aoG,aos]at e;obtain⟨rfl,rfl,rfl⟩:=e;exact⟨h1,h2,h3⟩
def Uq{n:Nat}{a:Int}(hn:n<=100000)(ha:cy a)(hp:dP n a=none):aj Tryz.prog 97 [.int .i64 n,.int .i64 a] h (ao λr h'=>r=.tuple #[.int .i64 0,.bool false]∧h'=h):=by
 have:=Up (h:=h) hn ha
 rwa [hp]at this
def Ur{n:Nat}{a:Int}(hn:n<=100000)(ha:cy a)(hp:dP n a=some i):aj Tryz.prog 97 [.int .i64 n,.int .i64 a] h (ao λr h'=>r=.tuple #[.int .i64 i,.bool true]∧h'=h):=by
 have:=Up (h:=h) hn ha
 rwa [hp]at this
def ow{s:BA}(hs:s.size<4611686018427387904)(hn:numOf s=some n):aj Tryz.prog 92 [.string s] h (ao λr h'=>r=.tuple #[.int .i64 n,.bool true]∧h'=h):=by
 have:=Hi (h:=h) hs
 rwa [hn]at this
structure eJ (h0:af) (kv:Value) (k:List RX) (av:Value) (A:List BA) (key:BA) (t:aB) (pv lw rv:Value):Prop where
 c:dT h0 kv k av A
 th:∀h2,ag [] h0 h2->TH h2 (bg t pv lw rv) t
 t9:T9 t
 ks:key.size<=300
 az:∀s∈A,s.size<=300
 al:A.length<=20
def afy(x:As h0 h (aT xb t pv lw rv key kv now av lv [] au))(g:eJ h0 kv k av A key t pv lw rv):aj Tryz.prog 55 [ptr xb,.string ⟨#[76,76,69,78]⟩] h
  (ao (cj h0 h xb t pv lw rv key kv now av lv (.ok (bO t.list.length,[])))):=by
 refine f55.c ?_;intro b4 h1 g1;have w:=x.st.new g1;have aQ:=λh2 hc=>(fT (g.th h2 hc)).2.1;obtain⟨la,lc,rfl,_⟩:=(aQ h0 (ag.refl _)).form;have t9:=g.t9;have ln:t.list.length<=2000:=t9.ls;exact w.aG 1 Y Y<|Bn<|Bn<|Bn<|Bn<|Ai (λ_=>w.aV eZ λh2 w=>w.st1 0 Y Y Y Y λh3 w=>cj.fin x w 0 1 Y Y (dI.ok Y)) (λhe=>absurd Y he)
def afz(x:As h0 h (aT xb t pv lw rv key kv now av lv [] au))(g:eJ h0 kv k av A key t pv lw rv):aj Tryz.prog 55 [ptr xb,.string ⟨#[76,80,79,80]⟩] h
  (ao (cj h0 h xb t pv lw rv key kv now av lv (match dP t.list.length 0 with
   |some i=>.ok (iu (t.list[i]?.getD au),[HO key])
   |none=>.ok (jJ,[])))):=by
 refine f55.c ?_;intro b4 h1 g1;have w:=x.st.new g1;have aQ:=λh2 hc=>(fT (g.th h2 hc)).2.1;obtain⟨la,lc,rfl,_⟩:=(aQ h0 (ag.refl _)).form;have t9:=g.t9;have ln:t.list.length<=2000:=t9.ls;refine w.aG 1 Y Y<|Bn<|Bn<|Ai (λ_=>Bi (λhz=>?_) λhz=>?_) (λhe=>absurd Y he)
 .have hz:t.list.length=0:=V
  exact w.st1 0 Y Y Y Y λh3 w=>cj.fin (a:=0) (m:=0) (s:=au) x w 0 1 Y Y (dI.ok (by rw[hz];rfl))
 .have hz:0<t.list.length:=V
  have hp:dP t.list.length 0=some 0:=by unfold dP;rw[akZ V,ak4 V];rfl
  rw[hp];refine Ai (λ_=>akV (Mr (x.out w 1 Y).1 Yy) ?_) (λhe=>absurd Y he);rintro _ h3 ⟨dG,_,o3⟩;have w:=w.own 1 Y o3;obtain⟨b,o,rfl⟩:=(aQ h0 (ag.refl _)).addr hz;obtain⟨s,hs⟩:∃s,t.list[0]? =some s:=⟨_,akU V⟩
  have aI:=(aQ _ (x.base w)).cells bj hs;exact qi (aQ _ (x.base w)) (0) V hs<|w.aV rm λh4 w=>w.st1 0 Y Y Y Y λh5 w=>cj.fin x w 0 1 Y Y (dI.ok (by show Except.ok (iu (t.list[0]?.getD au),[HO key])=_;rw[hs];rfl))
def afM(x:As h0 h (aT xb t pv lw rv key kv now av lv [] au))(g:eJ h0 kv k av A key t pv lw rv):aj Tryz.prog 55 [ptr xb,.string ⟨#[82,80,79,80]⟩] h
  (ao (cj h0 h xb t pv lw rv key kv now av lv (match dP t.list.length (-1)with
   |some i=>.ok (iu (t.list[i]?.getD au),[HP key])
   |none=>.ok (jJ,[])))):=by
 refine f55.c ?_;intro b4 h1 g1;have w:=x.st.new g1;have aQ:=λh2 hc=>(fT (g.th h2 hc)).2.1;obtain⟨la,lc,rfl,_⟩:=(aQ h0 (ag.refl _)).form;have t9:=g.t9;have ln:t.list.length<=2000:=t9.ls;refine w.aG 1 Y Y<|Bn<|Bn<|Bn<|Ai (λ_=>Bi (λhz=>?_) λhz=>?_) (λhe=>absurd Y he)
 .have hz:t.list.length=0:=V
  exact w.st1 0 Y Y Y Y λh3 w=>cj.fin (a:=0) (m:=0) (s:=au) x w 0 1 Y Y (dI.ok (by rw[hz];rfl))
 .have hz:0<t.list.length:=V
  have hp:dP t.list.length (-1)=some (t.list.length-1):=by unfold dP;rw[ak4 V,ak4 V];congr 1;omega
  rw[hp];refine Bn<|akV (Mr (x.out w 1 Y).1 Yy) ?_;rintro _ h3 ⟨dG,_,o3⟩;have w:=w.own 1 Y o3;obtain⟨b,o,rfl⟩:=(aQ h0 (ag.refl _)).addr hz;refine Ai Y (λz jk=>?_);have jk:z=(t.list.length:Int)-1:=jk.trans (cx V V);subst jk;obtain⟨s,hs⟩:∃s,t.list[t.list.length-1]? =some s:=⟨_,akU V⟩
  have aI:=(aQ _ (x.base w)).cells bj hs;exact qi (aQ _ (x.base w)) (t.list.length-1) V hs<|w.aV rm λh4 w=>w.st1 0 Y Y Y Y λh5 w=>cj.fin x w 0 1 Y Y (dI.ok (by show Except.ok (iu (t.list[t.list.length-1]?.getD au),[HP key])=_;rw[hs];rfl))
def afx(hn:numOf s=some n)(x:As h0 h (aT xb t pv lw rv key kv now av lv [] au))(g:eJ h0 kv k av [key,s] key t pv lw rv):aj Tryz.prog 55 [ptr xb,.string ⟨#[76,73,78,68,69,88]⟩] h
  (ao (cj h0 h xb t pv lw rv key kv now av lv (match dP t.list.length n with
   |some i=>.ok (iu (t.list[i]?.getD au),[])
   |none=>.ok (jJ,[])))):=by
 refine f55.c ?_;intro b4 h1 g1;have w:=x.st.new g1;have aQ:=λh2 hc=>(fT (g.th h2 hc)).2.1;obtain⟨la,lc,rfl,_⟩:=(aQ h0 (ag.refl _)).form;have t9:=g.t9;have ln:t.list.length<=2000:=t9.ls;refine w.aG 1 Y Y<|Bn<|Bn<|Bn<|Bn<|Bn ?_;obtain⟨b,o,cc,rfl⟩:=g.c.cz Yy;refine w.aG 1 Y Y<|g.c.ix (x.base w) 1 Y Y ?_;have zs:=g.az s Yy;refine dN (ow V hn) ?_;have nA:=gC hn;refine Bn ?_;cases hp:dP t.list.length n with
 |none=>
  exact dN (Uq V nA hp)<|Ai (λ_=>w.st1 0 Y Y Y Y λh3 w=>cj.fin (a:=0) (m:=0) (s:=au) x w 0 1 Y Y (dI.ok Y)) (λhe=>absurd Y he)
 |some i=>
  have hi:=DS hp;refine dN (Ur V nA hp)<|Ai (λ_=>?_) (λhe=>absurd Y he);obtain⟨b,o,rfl⟩:=(aQ h0 (ag.refl _)).addr V;obtain⟨s',hs⟩:∃s,t.list[i]? =some s:=⟨_,akU hi⟩
  exact qi (aQ _ (x.base w)) i Y hs<|w.aV rm λh4 w=>w.st1 0 Y Y Y Y λh5 w=>cj.fin x w 0 1 Y Y (dI.ok (by show Except.ok (iu (t.list[i]?.getD au),[])=_;rw[hs];rfl))
def afC(hn:numOf s=some n)(x:As h0 h (aT xb t pv lw rv key kv now av lv [] au))(g:eJ h0 kv k av [key,s,u] key t pv lw rv):aj Tryz.prog 55 [ptr xb,.string ⟨#[76,83,69,84]⟩] h
  (ao (cj h0 h xb t pv lw rv key kv now av lv (match dP t.list.length n with
   |some i=>.ok (lS,cV (k.map RX.pr) key now++[ET key i u])
   |none=>.error vK))):=by
 refine f55.c ?_;intro b4 h1 g1;have w:=x.st.new g1;have aQ:=λh2 hc=>(fT (g.th h2 hc)).2.1;obtain⟨la,lc,rfl,_⟩:=(aQ h0 (ag.refl _)).form;have t9:=g.t9;have ln:t.list.length<=2000:=t9.ls;refine w.aG 1 Y Y<|Bn<|Bn<|Bn<|Bn<|Bn ?_;obtain⟨b,o,cc,rfl⟩:=g.c.cz Yy;refine w.aG 1 Y Y<|g.c.ix (x.base w) 1 Y Y ?_;have zs:=g.az s Yy;refine dN (ow V hn) ?_;have nA:=gC hn;refine Bn ?_;cases hp:dP t.list.length n with
 |none=>
  exact dN (Uq V nA hp)<|Bn<|w.kW 1 Y λh2 w=>w.st1 0 Y Y Y Y λh3 w=>cj.fin (a:=0) (m:=0) (s:=au) x w 0 1 Y Y (dI.no (why:=vK) Dd Y)
 |some i=>
  refine dN (Ur V nA hp)<|Bn ?_;have zu:=g.az u Yy;have zk:=g.ks;refine w.aG 1 Y Y<|g.c.ix (x.base w) 2 Y Y<|akV (qf g.c (x.out w 1 Y).1 Yy V V Dd V) ?_;rintro _ h8 ⟨rfl,dG,_,o8⟩;have w:=w.own 1 Y o8;exact w.aV xN λh9 w=>w.st1 0 Y Y Y Y λbp w=>cj.fin x w 0 1 Y Y (dI.ok Y)
def afB(hn:numOf s=some n)(hm:numOf u=some m)(x:As h0 h (aT xb t pv lw rv key kv now av lv [] au))(g:eJ h0 kv k av [key,s,u] key t pv lw rv):aj Tryz.prog 55 [ptr xb,.string ⟨#[76,82,65,78,71,69]⟩] h
  (ao (cj h0 h xb t pv lw rv key kv now av lv (.ok (fC (ru t.list n m),[])))):=by
 refine f55.c ?_;intro b4 h1 g1;have w:=x.st.new g1;have aQ:=λh2 hc=>(fT (g.th h2 hc)).2.1;obtain⟨la,lc,rfl,_⟩:=(aQ h0 (ag.refl _)).form;have t9:=g.t9;have ln:t.list.length<=2000:=t9.ls;refine w.aG 1 Y Y<|Bn<|Bn<|Bn<|Bn<|Bn ?_;obtain⟨b,o,cc,rfl⟩:=g.c.cz Yy;refine w.aG 1 Y Y<|g.c.ix (x.base w) 1 Y Y ?_;have zs:=g.az s Yy;refine dN (ow V hn) ?_;have nA:=gC hn;refine Ai (λ_=>w.aG 1 Y Y (g.c.ix (x.base w) 2 Y Y ?_)) (λhe=>absurd Y he);have zu:=g.az u Yy;refine dN (ow V hm) ?_;have m64:=gC hm;refine dN (Mq V nA m64) ?_;have eh:=Ea t.list.length n m;unfold ru;generalize (eD t.list.length n m).1=p at*;generalize (eD t.list.length n m).2=q at*;refine Ai V (Ai V (Ai V<|ub (lo:=p) (hi:=q) bj (aQ _ (x.base w)) eh.1 eh.2 λv1 bL=>akV (AD (bL _ (aQ _ (x.base w))) (by simp only[alA,amL];omega)) ?_));rintro _ h5 ⟨⟨ra,rn,rc,rfl,sl,fr⟩,c5⟩;have w:=w.ext c5;have zz:=w.ae.size;have i4:=g1.id;have z1:=g1.size;refine w.st2 0 Y Y Y Y λh6 w k6=>?_;exact⟨_,Y,akW (w.get 0 Y),fC (((t.list.drop p).take (q-p))),lv,[],au,⟨ra,rn,rc,Y,sl.ae k6 (λb hb=>by have:=fr b hb;simp;omega),λb hb=>by have:=fr b hb;omega⟩,⟨t,_,_,_,key,x.out w 1 Y⟩,dI.ok Y⟩
def oC(S:aH)(key:BA)(now:Int)(e:BA->aA)(l:List BA)(j:Nat):List aA:=if j=0 then[]else cV S key now++(l.take j).map e
def N0{S:aH}{key:BA}{now:Int}{e:BA->aA}{l:List BA}{j:Nat}(hj:j<l.length):qd S key now (oC S key now e l j)++[e l[j]]=oC S key now e l (j+1):=by
 unfold oC qd;rw[akZ (by omega:¬j+1=0),alI hj,alD];cases j with
 |zero=>simp
 |succ j=>
  have h1:¬(j+1=0):=V
  have h2:¬((cV S key now++(l.take (j+1)).map e).length=0):=by rw[ak1,alL,alA];omega
  rw[akZ h1,akZ h2,alG];rfl
def NZ{S:aH}{key:BA}{now:Int}{e:BA->aA}{l:List BA}{j:Nat}(hl:l.length<=20):(oC S key now e l j).length<=100:=by
 unfold oC;have:=mS S key now;split
 .simp
 .simp only[ak1,alL,alA];omega
set_option maxHeartbeats 1000000 in
def afA{l:List BA}(hl:0<l.length)(x:As h0 h (aT xb t pv lw rv key kv now av lv [] au))(g:eJ h0 kv k av (key::l) key t pv lw rv):aj Tryz.prog 55 [ptr xb,.string ⟨#[76,80,85,83,72]⟩] h
  (ao (cj h0 h xb t pv lw rv key kv now av lv (.ok (bO (t.list.length+l.length),cV (k.map RX.pr) key now++l.map (sS key))))):=by
 refine f55.c ?_;intro b4 h1 g1;have w:=x.st.new g1;have aQ:=λh2 hc=>(fT (g.th h2 hc)).2.1;obtain⟨la,lc,rfl,_⟩:=(aQ h0 (ag.refl _)).form;have t9:=g.t9;have ln:t.list.length<=2000:=t9.ls;refine w.aG 1 Y Y ?_;have zk:=g.ks;have Nh:(key::l).length<=20:=g.al;simp only[ak0]at Nh;obtain⟨b,o,cc,rfl⟩:=g.c.cz Yy;refine Ai (λ_=>Bn ?_) (λhe=>absurd Y he);refine bA (λq:Nat×Value=>[(0,ptr xb),(4,ptr b4),(5,.slice la t.list.length lc),(6,.int .i64 7),(7,.int .i64 ((q.1+1:Nat):Int))])
  (λq h'=>q.1<=l.length∧St (xb::aq lv) h h' [.b b4 zR,aT xb t pv (.slice la t.list.length lc) rv key kv now (.slice (some ⟨b,o,none⟩) (key::l).length cc) q.2 (oC (k.map RX.pr) key now (sS key) l q.1) au])
  (λq=>l.length-q.1) (0,lv) J5 ⟨ak8 _,w⟩ ?_
 rintro⟨q,lq⟩ h4 ⟨hq,w⟩;have hq:q<=l.length:=hq;have my:=NZ (S:=k.map RX.pr) (key:=key) (now:=now) (e:=sS key) (l:=l) (j:=q) V;refine w.aG 1 Y Y<|Bi (λah=>?_) λcp=>?_
 .have ah:q<l.length:=by simp only[ak0]at ah;omega
  refine w.aG 1 Y Y<|g.c.ix (x.base w) (q+1) Y (s:=l[q]) (by simp[ah]) ?_;refine Ai Y (λz hz=>?_);have hz:z=(t.list.length:Int)+((q+1:Nat):Int):=hz.trans (cx V V);subst hz;have zl:=g.az l[q] (alr _ (ak9 ah));refine akV (qf g.c (x.out w 1 Y).1 (al6 my V) V V Dd V) ?_;rintro _ h5 ⟨rfl,dG,_,o5⟩;have w:=w.own 1 Y o5;rw[show qd (k.map RX.pr) key now (oC (k.map RX.pr) key now (sS key) l q)++[⟨7,key,⟨#[]⟩,l[q],0⟩]=oC (k.map RX.pr) key now (sS key) l (q+1)from N0 (e:=sS key) ah]at w;exact Az<|Ai Y (Ei (q+1,_) (Ai J5 (Ai ⟨ah,w⟩ Yo)))
 .have aZ:q=l.length:=by simp only[ak0]at cp;omega
  subst aZ;refine w.aG 1 Y Y<|Ai Y (λz hz=>?_);have hz:z=(t.list.length:Int)+((key::l).length:Int):=hz.trans (cx (by simp only[ak0];omega) (by simp only[ak0];omega));subst hz;refine Ai Y (λz hz=>?_);have hz:z=(t.list.length:Int)+(l.length:Int):=hz.trans ((cx (by simp only[ak0];omega) (by simp only[ak0];omega)).trans (by simp only[ak0];omega));subst hz;exact w.aV eZ λh6 w=>w.st1 0 Y Y Y Y λh7 w=>cj.fin x w 0 1 Y Y (dI.ok (by unfold oC;rw[akZ V,alm];rfl))
set_option maxHeartbeats 1000000 in
def afN{l:List BA}(hl:0<l.length)(x:As h0 h (aT xb t pv lw rv key kv now av lv [] au))(g:eJ h0 kv k av (key::l) key t pv lw rv):aj Tryz.prog 55 [ptr xb,.string ⟨#[82,80,85,83,72]⟩] h
  (ao (cj h0 h xb t pv lw rv key kv now av lv (.ok (bO (t.list.length+l.length),cV (k.map RX.pr) key now++l.map (ui key))))):=by
 refine f55.c ?_;intro b4 h1 g1;have w:=x.st.new g1;have aQ:=λh2 hc=>(fT (g.th h2 hc)).2.1;obtain⟨la,lc,rfl,_⟩:=(aQ h0 (ag.refl _)).form;have t9:=g.t9;have ln:t.list.length<=2000:=t9.ls;refine w.aG 1 Y Y ?_;have zk:=g.ks;have Nh:(key::l).length<=20:=g.al;simp only[ak0]at Nh;obtain⟨b,o,cc,rfl⟩:=g.c.cz Yy;refine Bn<|Ai (λ_=>Ai (λ_=>?_) (λhe=>absurd Y he)) (λhe=>absurd Y he);refine bA (λq:Nat×Value=>[(0,ptr xb),(4,ptr b4),(5,.slice la t.list.length lc),(6,.int .i64 8),(7,.int .i64 ((q.1+1:Nat):Int))])
  (λq h'=>q.1<=l.length∧St (xb::aq lv) h h' [.b b4 zR,aT xb t pv (.slice la t.list.length lc) rv key kv now (.slice (some ⟨b,o,none⟩) (key::l).length cc) q.2 (oC (k.map RX.pr) key now (ui key) l q.1) au])
  (λq=>l.length-q.1) (0,lv) J5 ⟨ak8 _,w⟩ ?_
 rintro⟨q,lq⟩ h4 ⟨hq,w⟩;have hq:q<=l.length:=hq;have my:=NZ (S:=k.map RX.pr) (key:=key) (now:=now) (e:=ui key) (l:=l) (j:=q) V;refine w.aG 1 Y Y<|Bi (λah=>?_) λcp=>?_
 .have ah:q<l.length:=by simp only[ak0]at ah;omega
  refine w.aG 1 Y Y<|g.c.ix (x.base w) (q+1) Y (s:=l[q]) (by simp[ah]) ?_;refine Ai Y (λz hz=>?_);have hz:z=(t.list.length:Int)+((q+1:Nat):Int):=hz.trans (cx V V);subst hz;have zl:=g.az l[q] (alr _ (ak9 ah));refine akV (qf g.c (x.out w 1 Y).1 (al6 my V) V V Dd V) ?_;rintro _ h5 ⟨rfl,dG,_,o5⟩;have w:=w.own 1 Y o5;rw[show qd (k.map RX.pr) key now (oC (k.map RX.pr) key now (ui key) l q)++[⟨8,key,⟨#[]⟩,l[q],0⟩]=oC (k.map RX.pr) key now (ui key) l (q+1)from N0 (e:=ui key) ah]at w;exact Az<|Ai Y (Ei (q+1,_) (Ai J5 (Ai ⟨ah,w⟩ Yo)))
 .have aZ:q=l.length:=by simp only[ak0]at cp;omega
  subst aZ;refine w.aG 1 Y Y<|Ai Y (λz hz=>?_);have hz:z=(t.list.length:Int)+((key::l).length:Int):=hz.trans (cx (by simp only[ak0];omega) (by simp only[ak0];omega));subst hz;refine Ai Y (λz hz=>?_);have hz:z=(t.list.length:Int)+(l.length:Int):=hz.trans ((cx (by simp only[ak0];omega) (by simp only[ak0];omega)).trans (by simp only[ak0];omega));subst hz;exact w.aV eZ λh6 w=>w.st1 0 Y Y Y Y λh7 w=>cj.fin x w 0 1 Y Y (dI.ok (by unfold oC;rw[akZ V,alm];rfl))
end
end Go.Proofs.YtocgmipngoiieaaGreatDoor
namespace Go.Proofs.YtocgmipngoiieaaGreatDoor
open Go Go.Sx C
def R3{h:af}{s:BA}(hs:s.size<4611686018427387904):aj Tryz.prog 134 [.string s] h (ao λr h'=>r=.string (up s)∧ag [] h h'):=by
 obtain⟨⟨bs⟩⟩:=s;have hs:bs.length<4611686018427387904:=hs;refine f134.c ?_;intro c b h1 hc g;have hc:bs.length<=c:=hc;obtain⟨tail,ht⟩:∃tail,tail=List.replicate (c-bs.length) (Value.int .u8 0):=⟨_,Y⟩
 have gb:gP h1 b (gm bs++tail):=by rw[ht];exact g.blk
 refine bA (λq:Nat=>[(3,.slice (some ⟨b,0,none⟩) bs.length c),(8,.slice (some ⟨b,0,none⟩) bs.length c),(9,.int .i64 bs.length),(10,.int .i64 q)]) (λq h'=>q<=bs.length∧gP h' b (gm (iv bs q)++tail)∧h'.size=h1.size∧∀k,k≠b->h'[k]? =h1[k]?) (λq=>bs.length-q) 0 J4 ⟨ak8 _,by rw[M7];exact gb,Y,λ_ _=>rfl⟩ ?_;rintro q h2 ⟨hq,hb,aS,hold⟩;have next:∀{h3:af},q<bs.length->gP h3 b (gm (iv bs (q+1))++tail)->h3.size=h1.size->(∀k,k≠b->h3[k]? =h1[k]?)->q+1<=bs.length∧gP h3 b (gm (iv bs (q+1))++tail)∧h3.size=h1.size∧∀k,k≠b->h3[k]? =h1[k]? :=λa b c d=>⟨a,b,c,d⟩
 refine Bi (λah=>?_) λcp=>?_
 .have ah:q<bs.length:=V
  have cq:=IN hb ah;refine Ai V (Ai V (Ei _ (Ai cq (Ai Y (Ai (λCi=>?_) (λhn=>?_))))))
  .refine Bi (λCh=>?_) λhn=>?_
   .refine Ai Y (λz hz=>Ai Y (λz1 qU=>?_));have hz:z=(bs[q].toNat:Int)-97:=by rw[hz];exact Eo V V
    have qU:z1=(upB bs[q]).toNat:=by
     rw[amh Ci Ch,qU,hz];have:=Eo (x:=(bs[q].toNat:Int)-97+65) V V;exact this.trans V
    refine Ai V (Ai V (Ei _ (Ai hb (Ai ?_ (Ai Y (Ai (Go.Sx.cM Y) λh3 p=>?_))))))
    .show 0+q*1+1<=_;rw[ak1,IK,M6];omega
    .exact Az<|Ai Y (Ei (q+1) (Ai J4 (Ai (next ah (Me ah qU p) (p.size.trans aS) λk hk=>(p.old k hk).trans (hold k hk)) V)))
   .exact Az<|Ai Y (Ei (q+1) (Ai J4 (Ai (next ah (by rw[AI ah (AQ λhh=>hn hh.2)];exact hb) aS hold) V)))
  .exact Az<|Ai Y (Ei (q+1) (Ai J4 (Ai (next ah (by rw[AI ah (AQ λhh=>hn hh.1)];exact hb) aS hold) V)))
 .have aZ:q=bs.length:=V
  subst aZ;rw[M5]at hb;refine Ei (bs.map upB) (Ai Yy (Ai (IP hb) (Ai Y ?_)));refine⟨by rw[aS,g.size];omega,λk hk _=>?_⟩;have:=g.id;rw[hold k V,g.old k hk]
variable{b6 b7:Nat}{h:af}
def ala:List (List UInt8×Nat):=[
 ([72,83,69,84],187),
 ([72,71,69,84],188),
 ([72,68,69,76],189),
 ([72,76,69,78],190),
 ([72,71,69,84,65,76,76],191),
 ([72,73,78,67,82,66,89],192),
 ([76,80,85,83,72],193),
 ([82,80,85,83,72],194),
 ([76,80,79,80],195),
 ([82,80,79,80],196),
 ([76,76,69,78],197),
 ([76,73,78,68,69,88],198),
 ([76,82,65,78,71,69],199),
 ([76,83,69,84],200),
 ([83,65,68,68],201),
 ([83,82,69,77],202),
 ([83,73,83,77,69,77,66,69,82],203),
 ([83,67,65,82,68],204),
 ([83,77,69,77,66,69,82,83],205),
 ([83,73,78,84,69,82],206),
 ([90,65,68,68],207),
 ([90,82,69,77],208),
 ([90,83,67,79,82,69],209),
 ([90,73,78,67,82,66,89],210),
 ([90,67,65,82,68],211),
 ([90,82,65,78,75],212),
 ([90,82,65,78,71,69],213),
 ([90,82,65,78,71,69,66,89,83,67,79,82,69],214)]
def kP:List (List UInt8×Nat)->BA->Option Nat
 |[],_=>none
 |(n,g)::l,w=>if w=kD n then some g else kP l w
def ND(W:BA)(ms:List MapEntry):Option Nat->Prop
 |some g=>∃j,bH (.string W) ms 0=some (j,.func (.func g) #[] #[])
 |none=>bH (.string W) ms 0=none
def nK:List MapEntry->List (List UInt8×Nat)->Prop
 |[],[]=>True
 |e::es,(n,g)::ns=>e.key=.string (kD n)∧e.val=.func (.func g) #[] #[]∧nK es ns
 |_,_=>False
def nK.snoc:∀{es:List MapEntry}{ns:List (List UInt8×Nat)}{n:List UInt8}{g c:Nat},nK es ns->nK (es++[{key:=.string (kD n),val:=.func (.func g) #[] #[],born:=c}]) (ns++[(n,g)])
 |[],[],_,_,_,_=>J2
 |_::_,(_,_)::_,_,_,_,⟨h1,h2,h3⟩=>⟨h1,h2,nK.snoc h3⟩
 |[],_::_,_,_,_,h=>h.elim
 |_::_,[],_,_,_,h=>h.elim
def nK.keys:∀{es:List MapEntry}{ns:List (List UInt8×Nat)},nK es ns->nM es (ns.map Prod.fst)
 |[],[],_=>rfl
 |e::es,(n,g)::ns,⟨h1,_,h3⟩=>by
  have:=nK.keys h3;unfold nM at this⊢;simp[h1,this]
 |[],_::_,h=>h.elim
 |_::_,[],h=>h.elim
def nK.found(W:BA):∀{es:List MapEntry}{ns:List (List UInt8×Nat)}(i:Nat),nK es ns->(match kP ns W with|some g=>∃j,bH (.string W) es i=some (j,.func (.func g) #[] #[])|none=>bH (.string W) es i=none)
 |[],[],_,_=>rfl
 |e::es,(n,g)::ns,i,⟨h1,h2,h3⟩=>by
  have ih:=nK.found W (i+1) h3;unfold kP;by_cases hw:W=kD n
  .rw[ak4 hw];refine⟨i,?_⟩;unfold bH;rw[h1,hw,ak4 (xS (k:=.str) Y),h2]
  .rw[akZ hw];have hn:¬(Instr.sameBits 10000 (.string W) e.key=true):=λhs=>by
    have:=xR (k:=.str) (by rfl) (by rw[h1];rfl) hs;rw[h1]at this;simp at this;exact hw this
   cases hl:kP ns W with
   |none=>
    rw[hl]at ih;show bH _ (e::es) i=none;unfold bH;rw[akZ hn];exact ih
   |some g2=>
    rw[hl]at ih;obtain⟨j,h7⟩:=ih;refine⟨j,?_⟩;unfold bH;rw[akZ hn];exact h7
 |[],_::_,_,h=>h.elim
 |_::_,[],_,h=>h.elim
def DE(p:List UInt8×Nat):aD:=⟨none,none,.fm .str (.tmp 1) (.const (.string (kD p.1))) (.func p.2)⟩
def Sc{Qp:List PanicEntry->af->Prop}{K:Env->af->Prop}{h0:af}{mb:Nat}{σ:Env}{rest:List aD}(hσ:σ 1=some (.map (some mb)))(k:∀h' es c,St [] h0 h' [.m mb es c]->nK es ala->cD Tryz.prog Qp K rest σ h'):∀(ns pre:List (List UInt8×Nat)){h:af}{es:List MapEntry}{c:Nat},pre++ns=ala->St [] h0 h [.m mb es c]->nK es pre->((pre++ns).map Prod.fst).Nodup->cD Tryz.prog Qp K (ns.map DE++rest) σ h
 |[],pre,h,es,c,e,w,cm,_=>by
  simp only[amA]at e;subst e;exact k h es c w cm
 |(n,g)::ns,pre,h,es,c,e,w,cm,hd=>by
  have ky:=cm.keys;have zB:n∉pre.map Prod.fst:=by
   rw[alD]at hd;have:=(amN.1 hd).2.2;intro hm;exact this n hm n Yy Y
  show cW Tryz.prog σ h (DE (n,g)) (cD Tryz.prog Qp K (ns.map DE++rest)) Qp;simp only[DE,cW,aE,ev,hσ];refine Ai Y (Ei es (Ei c (Ai (w.get 0 Y) (Ai ky.fits ?_))));rw[ky.miss zB];intro h' p;have w:St [] h0 h' [.m mb _ _]:=w.iG 0 Y p;exact Sc hσ k ns (pre++[(n,g)]) (by rw[alG];exact e) w cm.snoc (by rw[alG];exact hd)
def XU:(ala.map Prod.fst).Nodup:=by decide+kernel
def aeV:Pt=⟨some 1,none,.vn⟩::((ala.map DE)++[⟨some 2,none,.mv (.tmp 1)⟩,⟨some 0,none,.mv (.tmp 2)⟩]):=Kr
def aex{P:Program}{l:List aD}{c:akX}{Q:de}{σ:Env}{ds:List Deferred}(hs:cD P (λch h'=>fc (swp P c Q) Q (.panic ch) (hide l σ) ds h') (λσ' h'=>fc (swp P c Q) Q .normal σ' ds h') l σ h):swp P (.seq (.ops l) c) Q σ ds h:=hs
def OO:aj Tryz.prog 133 [] h (ao λr h'=>ag [] h h'∧∃mb es c,r=.map (some mb)∧cN h' mb es c∧(∀e∈es,fits .str e.key=true)∧∀W,ND W es (kP ala W)):=by
 refine Zx Yy<|tV (v:=.map none) Y<|aex ?_;rw[aeV];intro mb h1 g1;have w:=(St.start h).Ag g1;refine Sc Y (λh' es c w cm=>?_) ala [] Y w trivial XU;refine⟨w.ae,mb,es,c,Y,w.get 0 Y,cm.keys.fits,λW=>?_⟩;have:=nK.found W 0 cm;unfold ND;exact this
def I5:EH Tryz.prog 112 46 f112 [.cn 6 4,.c1 7,.t 8]:=MM (fl:=true) mixed Tryz.func112 Y Kr Kr Kr
def O9:Ij Tryz.prog 135 14 f135 []:=Vb (fl:=true) mixed Tryz.func135 Y Kr Kr Kr
def O':rD Tryz.prog 135 [ptr b6,ptr b7] .returning h λe u' h'=>(∃v,e=.returned v)∧u'=.returning∧h'=h:=by
 refine O9 Yy ?_;exact⟨Y,⟨_,Y⟩,Y,Y⟩
def V1{s:BA}:aj Tryz.prog 65 [.string s] h (ao λr h'=>r=lT 2 0 s∧ag [] h h'):=by
 refine f65.c ?_;intro b h1 g1;refine Ei _ (Ai g1.blk (Ai Dd (Ai Y (Ai (ou 2 0 s) ?_))));intro h2 p2;have g2:=g1.put p2;exact⟨_,Y,akW g2.blk,Y,g2.ae⟩
def Yu{why:BA}{r4:List Value}{lv:Value}(B6:ai h b6 r4)(hr:r4.length=4)(B7:ai h b7 [lv])(ax:b6≠b7):rD Tryz.prog 135 [ptr b6,ptr b7] (.panicking (ug why)) h λe u' h'=>(∃v,e=.returned v)∧u'=.panicking [{v:=.iface 205 (.agg #[.string why]),recovered:=true}]∧
   ai h' b6 [.int .i64 2,.int .i64 0,.string why,.slice none 0 0]∧ai h' b7 [.slice none 0 0]∧ag [b6,b7] h h':=by
 refine O9 Yy ?_;have l6:=B6.lt;have l7:=B7.lt;refine Ai (λ_=>?_) (λax=>absurd Y ax);intro b3 h1 g1;refine Ei _ (Ai g1.blk (Ai Dd (Ai Y (Ai (cM Y) ?_))));intro h2 p2;have g2:=g1.put p2;have B3:ai h2 b3 [.string why]:=p2.blk;refine Ei _ (Ai (an B3 Y)<|akV V1 ?_);rintro _ h3 ⟨rfl,c3⟩;have mN:=g2.ae.nil c3;refine Ei _ (Ai (B6.ae mN Yy) (Ai (by rw[hr];decide) (Ai Y (Ai (ou 2 0 why) ?_))));intro h4 p4;have vO:ai h4 b6 [.int .i64 2,.int .i64 0,.string why,.slice none 0 0]:=by
  have h9:ai h4 b6 (splice r4 0 [.int .i64 2,.int .i64 0,.string why,.slice none 0 0]):=p4.blk;rw[four hr Y]at h9;exact h9
 refine Ei _ (Ai ((B7.ae mN Yy).ae p4.ae Ys) (Ai Yy (Ai Y (Ai (cM Y) ?_))));intro h5 p5;have AY:ai h5 b7 [.slice none 0 0]:=p5.blk;have c5:ag [b6,b7] h h5:=((mN.mono Yy).trans p4.ae (λ_ hx=>hx) (λx hx _=>by simp at hx;simp[hx])).trans p5.ae (λ_ hx=>hx) (λx hx _=>by simp at hx;simp[hx]);exact⟨Y,⟨_,Y⟩,Y,vO.ae p5.ae Ys,AY,c5⟩
def amv{kb sb mb c g:Nat}{now:Int}{av:Value}{w:BA}{A:List BA}{m:List KI}{res:aM}(kr:KR h kb sb mb c m)(hA:SL encS h av (w::A))(hl:(w::A).length<4611686018427387904)(hz:w.size<4611686018427387904)(bw:kP ala (up w)=some g)(hf:∀h1 ab fO,(∀h',ag [] h h'->SL encS h' fO A)->As h h1 (c0 ab kb now fO)->aj Tryz.prog g [ptr ab] h1 (eE h h1 ab kb now fO res)):aj Tryz.prog 112 [ptr kb,.int .i64 now,av] h (ao (j9 h res)):=by
 obtain⟨a,cc,rfl,ie⟩:=hA.form;obtain⟨bb,oo,rfl⟩:=hA.addr Yy;refine I5 Yy ?_;intro b6 h1 g1;have w1:=(St.start h).new g1;intro b7 h2 g2;have w2:=w1.new g2;have c2:ag [] h h2:=w2.ae;refine Ai Y (Ai (λh0=>absurd h0 Ys) (λ_=>dN (Ht (kr.ext c2).ks) ?_));have mh:=hA.ext c2;have hc0:=mh.cells bj (i:=0) (x:=w) Yy;refine Ai Dd (Ai Yy (Ei _ (Ai (by simpa using hc0 0 _ Y) ?_)));refine iw OO ?_;rintro _ h3 ⟨c3,b,es,c',rfl,hm,bK,wN⟩;refine Ai c3.ext<|iw (R3 hz) ?_;rintro _ h4 ⟨rfl,c4⟩;refine Ai c4.ext<|Ai Y (Ei es (Ei c' (Ai (hm.ae c4 Yy) (Ai bK ?_))));have jD:=wN (up w);rw[bw]at jD;obtain⟨i,jD⟩:=jD;rw[jD];have w4:=(w2.ext c3).ext c4;refine Ai Dd (Ai (by simp only[ak0];omega) (Ai V<|ub (lo:=1) (hi:=(w::A).length) bj (hA.ext w4.ae) Yy (ali _) λv1 bL=>?_));have e1:((w::A).drop 1).take ((w::A).length-1)=A:=Yy
 rw[e1]at bL;obtain⟨a1,lh,rfl,JT⟩:=(bL h hA).form;intro ab h5 g5;have w5:St [] h h5 [.b ab (uH aL iH iH iH false kb now au (.slice a1 A.length lh) iH),.b b7 [.slice none 0 0],.b b6 zR]:=w4.new g5;have z4:=w4.ae.size;have i5:=g5.id;have w6:St [] h h5 [c0 ab kb now (.slice a1 A.length lh),.b b7 [.slice none 0 0],.b b6 zR]:=
  w5.set 0 Y (ag.refl _) Yy ⟨w5.get 0 Y,OL.nil,⟨_,_,_,Y,SL.nil,SL.nil,SL.nil⟩,by simp[bk,aq,bG],by simp[aq,bG],by simp[bk,aq,bG],by simp[aq,bG]⟩ (λb hb=>by
   simp[cE,En.fp,bk,aq,bG]at hb;exact .inl (by simp[En.fp,hb]))
 refine rJ (hf h5 ab _ (λh' hc=>bL h' (hA.ext hc)) (w6.as 0 Y)) ?_ ?_
 .rintro v h6 ⟨q,E,key,t,is,pv,lw,rv,lv,he,⟨ra,rn,rc,rfl,sl,fr⟩,_,o6⟩;subst he;have w:=w6.own 0 Y o6;obtain⟨la,lc,rfl⟩:=w.IQ 0 Y;have J':=g1.id;have Ka:=g2.id;have z1:=g1.size;have z2:=g2.size;have z3:=(c3.nil c4).size;have z5:=g5.size;have keep:∀{h7 h8:af}{k:Nat},k<h5.size->SL bR h7 (.slice ra rn rc) q.l->ag [k] h7 h8->SL bR h8 (.slice ra rn rc) q.l:=λhk sl hc=>sl.ae hc λb hb=>by have:=fr b hb;simp;omega
  have l6:b6<h5.size:=V
  have l7:b7<h5.size:=V
  refine w.st2 2 Y Y Y Y λh7 w7 k7=>?_;have sl:=keep l6 sl k7;refine w7.fS 2 Y Y<|Ai ?_ ?_
  .refine w7.bV 0 Y Y<|w7.st2 2 Y Y Y Y λh8 w8 k8=>w8.st2 1 Y Y Y Y λh9 w9 k9=>?_;have sl:=keep l7 (keep l6 sl k8) k9;refine Ai Yy (O'.mono ?_);rintro e u' h' ⟨⟨v,rfl⟩,rfl,rfl⟩;exact⟨_,Y,akW (w9.get 2 Y),_,an (w9.get 1 Y) Y,w9.ae,_,_,Y,⟨ra,rn,rc,Y,sl,λb hb=>by have:=fr b hb;have:=w5.ae.size;omega⟩,(w9.get 0 Y).2.1.sl,λb hb=>by
    rcases(w9.ents 0 _ rfl).2 b (alr _ (amC _ hb))with h1|h1
    .cases h1
    .exact h1⟩
  .refine w7.st2 2 Y Y Y Y λh8 w8 k8=>w8.bV 0 Y Y<|w8.st2 1 Y Y Y Y λh9 w9 k9=>?_;have sl:=keep l7 (keep l6 sl k8) k9;refine Ai Yy (O'.mono ?_);rintro e u' h' ⟨⟨v,rfl⟩,rfl,rfl⟩;exact⟨_,Y,akW (w9.get 2 Y),_,an (w9.get 1 Y) Y,w9.ae,_,_,Y,⟨ra,rn,rc,Y,sl,λb hb=>by have:=fr b hb;have:=w5.ae.size;omega⟩,(w9.get 0 Y).2.1.sl,λb hb=>by
    rcases(w9.ents 0 _ rfl).2 b (alr _ (amC _ hb))with h1|h1
    .cases h1
    .exact h1⟩
 .rintro why h6 ⟨he,c6⟩;subst he;have w:=w6.gone 0 Y c6 (λk hk=>.inl hk);have J':=g1.id;have Ka:=g2.id;have z1:=g1.size;refine Ai Yy ((Yu (w.get 2 Y) Y (w.get 1 Y) (w.ne 2 1 Y Y Dd)).mono ?_);rintro e u' h' ⟨⟨v,rfl⟩,rfl,H0,H2,c7⟩;exact⟨_,Y,akW H0,_,an H2 Y,w.ae.fresh c7 Ys,Y⟩
end Go.Proofs.YtocgmipngoiieaaGreatDoor
namespace Go.Proofs.YtocgmipngoiieaaGreatDoor
open Go Go.Sx C
def eH(N:BA)(lo hi kd wh:Int):Prop:=∀h,aj Tryz.prog 50 [.string N] h (ao λr h'=>r=.tuple #[.int .i64 lo,.int .i64 hi,.int .i64 kd,.int .i64 wh,.bool true]∧h'=h)
def vx:BA:=⟨#[72,83,69,84]⟩
def Tv:BA:=⟨#[72,71,69,84]⟩
def Tu:BA:=⟨#[72,68,69,76]⟩
def Ty:BA:=⟨#[72,76,69,78]⟩
def Tw:BA:=⟨#[72,71,69,84,65,76,76]⟩
def Tx:BA:=⟨#[72,73,78,67,82,66,89]⟩
def TD:BA:=⟨#[76,80,85,83,72]⟩
def TJ:BA:=⟨#[82,80,85,83,72]⟩
def TB:BA:=⟨#[76,80,79,80]⟩
def TG:BA:=⟨#[82,80,79,80]⟩
def TA:BA:=⟨#[76,76,69,78]⟩
def Tz:BA:=⟨#[76,73,78,68,69,88]⟩
def TE:BA:=⟨#[76,82,65,78,71,69]⟩
def TF:BA:=⟨#[76,83,69,84]⟩
def TK:BA:=⟨#[83,65,68,68]⟩
def TP:BA:=⟨#[83,82,69,77]⟩
def TM:BA:=⟨#[83,73,83,77,69,77,66,69,82]⟩
def TL:BA:=⟨#[83,67,65,82,68]⟩
def amt:BA:=⟨#[83,77,69,77,66,69,82,83]⟩
def tY:BA:=⟨#[83,73,78,84,69,82]⟩
def vy:BA:=⟨#[90,65,68,68]⟩
def TV:BA:=⟨#[90,82,69,77]⟩
def TW:BA:=⟨#[90,83,67,79,82,69]⟩
def TU:BA:=⟨#[90,82,65,78,75]⟩
def TR:BA:=⟨#[90,73,78,67,82,66,89]⟩
def TQ:BA:=⟨#[90,67,65,82,68]⟩
def TS:BA:=⟨#[90,82,65,78,71,69]⟩
def TT:BA:=⟨#[90,82,65,78,71,69,66,89,83,67,79,82,69]⟩
def kC(wh:Int)(i:Nat):Prop:=(wh=4∧i%2=1)∨wh=3∨(wh=i∧wh<3)
section
variable {rest:List Value}{h0 h h1 h':af}{xb i:Nat}{now n wh kd lo hi:Int}{kv av lv:Value}{k:List RX}{A l:List BA}{L:List aA}{why key N:BA}{M:List En}{T:List Nat}{e e1 e2:En}{res:aM}
def gJ.trans{h2:af}(a:gJ h0 h e h1 e1)(b:gJ h0 h1 e1 h2 e2):gJ h0 h e h2 e2:=by
 obtain⟨a1,a2⟩:=a;obtain⟨b1,b2⟩:=b;have hz:=a2.ae.size;refine⟨b1,b2.at_,a2.ae.trans b2.ae (λb hb=>hb) (λb hb ah=>?_),λb hb=>?_⟩
 .rcases a2.fresh b hb with h|h
  .exact h
  .omega
 .rcases b2.fresh b hb with h|h
  .exact a2.fresh b h
  .exact .inr V
set_option maxHeartbeats 1000000 in
def afG(c:dT h0 kv k av A)(x:As h0 h (akY xb rest kv now av lv L au))(hA:A.length<=20)(hz:∀s∈A,s.size<=300):aj Tryz.prog 51 [ptr xb,.int .i64 wh] h
  (ao λr h'=>((∀j,1<=j->j<A.length->kC wh j->∃m,(A[j]?.bind numOf)=some m)∧r=.bool true∧gJ h0 h (akY xb rest kv now av lv L au) h' (akY xb rest kv now av lv L au))∨
   ((∃j,1<=j∧j<A.length∧kC wh j∧(A[j]?.bind numOf)=none)∧r=.bool false∧gJ h0 h (akY xb rest kv now av lv L au) h' (akY xb rest kv now av lv L jN))):=by
 obtain⟨a,cc,rfl⟩:=c.argN;refine f51.c<|bA (λi:Nat=>[(0,ptr xb),(1,.int .i64 wh),(4,.bool false),(5,.int .i64 i)])
  (λi h'=>1<=i∧(i<=A.length∨i=1)∧(∀j,1<=j->j<i->kC wh j->∃m,(A[j]?.bind numOf)=some m)∧gJ h0 h (akY xb rest kv now (.slice a A.length cc) lv L au) h' (akY xb rest kv now (.slice a A.length cc) lv L au))
  (λi=>A.length+1-i) 1 J4 ⟨ali _,.inr Y,λj h1 h2=>absurd h2 V,gJ.refl x (ag.refl _)⟩ ?_
 rintro i h4 ⟨jX,fY,bD,rx⟩;have w:=rx.1.st;refine w.aG 0 Y Y<|Bi (λah=>?_) λcp=>?_
 .have ah:i<A.length:=V
  refine Bi (λq1=>?_) λq1=>?_
  .refine Ai Y (Ai Dd (λz jk=>?_));have jk:z=((i%2:Nat):Int):=by rw[jk];exact(anT i 2).symm
   subst jk;refine Bi (λq2=>?_) λq2=>?_
   .have wY:kC wh i:=.inl ⟨q1,V⟩;refine akV (AB c rx.1 (akU ah) (by have:=hz _ (ak9 ah);omega)) ?_;rintro _ h5 ⟨rfl,r5⟩;cases hn:numOf A[i]with
    |none=>
     rw[hn]at r5;exact .inr ⟨⟨i,V,ah,wY,by rw[akU ah];exact hn⟩,Y,rx.trans r5⟩
    |some m=>
     rw[hn]at r5;have rx:=rx.trans r5;refine Az<|Ai Y (Ei (i+1) (Ai J4 (Ai ⟨V,.inl ah,λj h1 h2=>?_,rx⟩ V)));rcases amQ j i with h3|h3
     .exact bD j h1 h3
     .obtain rfl:j=i:=V
      exactλ_=>by rw[akU ah];exact⟨m,hn⟩
   .refine Ai Y (Ai (λq3=>absurd q3 V) (λq3=>Bi (λq4=>?_) λq4=>?_))
    .refine Ai Y (Ai (λq5=>absurd q5 V) (λq5=>Az<|Ai Y (Ei (i+1) (Ai J4 (Ai ⟨V,.inl ah,λj h1 h2=>?_,rx⟩ V)))));rcases amQ j i with h3|h3
     .exact bD j h1 h3
     .obtain rfl:j=i:=V
      exactλhn=>by unfold kC at hn;omega
    .refine Az<|Ai Y (Ei (i+1) (Ai J4 (Ai ⟨V,.inl ah,λj h1 h2=>?_,rx⟩ V)));rcases amQ j i with h3|h3
     .exact bD j h1 h3
     .obtain rfl:j=i:=V
      exactλhn=>by unfold kC at hn;omega
  .refine Bi (λq3=>?_) λq3=>?_
   .have wY:kC wh i:=.inr (.inl q3);refine akV (AB c rx.1 (akU ah) (by have:=hz _ (ak9 ah);omega)) ?_;rintro _ h5 ⟨rfl,r5⟩;cases hn:numOf A[i]with
    |none=>
     rw[hn]at r5;exact .inr ⟨⟨i,V,ah,wY,by rw[akU ah];exact hn⟩,Y,rx.trans r5⟩
    |some m=>
     rw[hn]at r5;have rx:=rx.trans r5;refine Az<|Ai Y (Ei (i+1) (Ai J4 (Ai ⟨V,.inl ah,λj h1 h2=>?_,rx⟩ V)));rcases amQ j i with h3|h3
     .exact bD j h1 h3
     .obtain rfl:j=i:=V
      exactλ_=>by rw[akU ah];exact⟨m,hn⟩
   .refine Bi (λq4=>?_) λq4=>?_
    .refine Bi (λq5=>?_) λq5=>?_
     .have wY:kC wh i:=.inr (.inr ⟨q4,q5⟩);refine akV (AB c rx.1 (akU ah) (by have:=hz _ (ak9 ah);omega)) ?_;rintro _ h5 ⟨rfl,r5⟩;cases hn:numOf A[i]with
      |none=>
       rw[hn]at r5;exact .inr ⟨⟨i,V,ah,wY,by rw[akU ah];exact hn⟩,Y,rx.trans r5⟩
      |some m=>
       rw[hn]at r5;have rx:=rx.trans r5;refine Az<|Ai Y (Ei (i+1) (Ai J4 (Ai ⟨V,.inl ah,λj h1 h2=>?_,rx⟩ V)));rcases amQ j i with h3|h3
       .exact bD j h1 h3
       .obtain rfl:j=i:=V
        exactλ_=>by rw[akU ah];exact⟨m,hn⟩
     .refine Az<|Ai Y (Ei (i+1) (Ai J4 (Ai ⟨V,.inl ah,λj h1 h2=>?_,rx⟩ V)));rcases amQ j i with h3|h3
      .exact bD j h1 h3
      .obtain rfl:j=i:=V
       exactλhn=>by unfold kC at hn;omega
    .refine Az<|Ai Y (Ei (i+1) (Ai J4 (Ai ⟨V,.inl ah,λj h1 h2=>?_,rx⟩ V)));rcases amQ j i with h3|h3
     .exact bD j h1 h3
     .obtain rfl:j=i:=V
      exactλhn=>by unfold kC at hn;omega
 .exact .inl ⟨λj h1 h2=>bD j h1 V,Y,rx⟩
end
end Go.Proofs.YtocgmipngoiieaaGreatDoor
namespace Go.Proofs.YtocgmipngoiieaaGreatDoor
open Go Go.Sx C
def ac3{h:af}{v:Value}{l:List bM}{g:Nat}{cap:List Value}{p:bM->Bool}(hv:SL aX h v l)(hl:l.length<4611686018427387904)(hg:∀h' x,ag [] h h'->aj Tryz.prog g (.agg ⟨aX x⟩::cap) h' (ao λu bq=>u=.bool (p x)∧ag [] h' bq)):aj Tryz.prog 303 [v,.func (.func g) #[] ⟨cap⟩] h
   (ao λr h'=>((∃(k:Nat)(hk:k<l.length),r=.int .i64 k∧p l[k]=true∧∀x∈l.take k,p x=false)∨(r=.int .i64 (-1)∧∀x∈l,p x=false))∧ag [] h h'):=by
 obtain⟨a,c,rfl,di⟩:=hv.form;refine f303.c<|bA (λk:Nat=>[(0,.slice a l.length c),(1,.func (.func g) #[] ⟨cap⟩),(7,.int .i64 l.length),(8,.int .i64 k)]) (λk h'=>k<=l.length∧ag [] h h'∧∀x∈l.take k,p x=false) (λk=>l.length-k) 0
  J4 ⟨ak8 _,ag.refl h,Yy⟩ ?_
 rintro k h1 ⟨hk,hc,bD⟩;refine Bi (λah=>?_) λah=>?_
 .have ah:k<l.length:=V
  have bL:=hv.ext hc;obtain⟨b,o,rfl⟩:=bL.addr V;have aI:=bL.cells du (i:=k) (x:=l[k]) (by simp[ah]);refine Ai V (Ai V (Ei (aX l[k]) (Ai Y (Ai aI<|akV (hg h1 l[k] hc) ?_))));rintro _ h2 ⟨rfl,aO⟩;cases hp:p l[k]with
  |true=>exact Ai (.inl ⟨k,ah,Y,hp,bD⟩) (hc.nil aO)
  |false=>
   refine Az<|Ai Y (Ei (k+1) (Ai ?_ (Ai ?_ ?_)))
   .exact J4
   .refine⟨V,hc.nil aO,λx hx=>?_⟩;rw[iL l k ah]at hx;rcases alf.1 hx with hx|hx
    .exact bD x hx
    .simp at hx;rw[hx];exact hp
   .omega
 .have aZ:k=l.length:=V
  subst aZ;rw[alm]at bD;exact Ai (.inr ⟨Y,bD⟩) hc
def XB{h:af}{s:BA}:aj Tryz.prog 238 [.string s] h (ao λr h'=>r=.bool false∧h'=h):=by
 exact f238.c<|Ai (λh1=>absurd Y h1) (λ_=>⟨Y,Y⟩)
def agH{h:af}{s:BA}:aj Tryz.prog 325 [.string s] h (ao λr h'=>r=.bool false∧h'=h):=by
 exact f325.c<|Ai (λh1=>absurd Y h1) (λ_=>⟨Y,Y⟩)
def XA{h:af}{x y:BA}:aj Tryz.prog 162 [.string x,.string y] h (ao λr h'=>r=.bool (aP x y)∧h'=h):=by
 refine f162.c<|dN XB<|Ai (λhl=>?_) (λhl=>?_)
 .have e:aP x y=true:=hl;exact⟨by rw[e];rfl,Y⟩
 .have e:aP x y=false:=by
   cases hb:aP x y with
   |false=>rfl
   |true=>exact absurd hb hl
  exact⟨by rw[e];rfl,Y⟩
def Xn{h:af}{v:Value}{l:List BA}{tgt:BA}(hv:SL encS h v l)(hl:l.length<4611686018427387904)(hs:l.Pairwise λa b=>aP a b=true):aj Tryz.prog 307 [v,.string tgt] h (ao λr h'=>(∃k:Nat,r=.tuple #[.int .i64 k,.bool (bF l tgt)])∧h'=h):=by
 obtain⟨a,c,rfl,di⟩:=hv.form;have hm:∀i j(hj:j<l.length)(hi:i<=j),aP l[j] tgt=true->aP (l[i]' V) tgt=true:=λi j hj hi hb=>by
  by_cases e:i=j
  .subst e;exact hb
  .exact mF (am5.1 hs i j V hj V) hb
 refine f307.c<|bA (λp:Nat×Nat=>[(0,.slice a l.length c),(1,.string tgt),(6,.int .i64 l.length),(7,.int .i64 p.1),(8,.int .i64 p.2)])
  (λp h'=>p.1<=p.2∧p.2<=l.length∧h'=h∧(∀i(_:i<p.1)(h:i<l.length),aP l[i] tgt=true)∧(∀i(_:p.2<=i)(h:i<l.length),aP l[i] tgt=false)) (λp=>p.2-p.1) (0,l.length)
  J5 ⟨ak8 _,ali _,Y,by intro i hi;omega,by intro i hi hh;omega⟩ ?_
 rintro⟨i,j⟩ h1 ⟨jh,eA,hc,lI,mY⟩;have hc:=hc.symm;subst hc;simp only at jh eA lI mY;refine Bi (λah=>?_) λah=>?_
 .have ah:i<j:=V
  refine Az ?_;intro z hz;rw[HX V V]at hz;subst hz;refine Ai Y (λz hz=>?_);have hz:z=((i:Int)+j)/2:=by
   have:z=((i:Int)+j).fdiv (2 ^ 1):=hz;rw[this,anp _ Dd];rfl
  subst hz;intro z hz;rw[cx V V]at hz;obtain⟨m,hm1⟩:∃m:Nat,m=(i+j)/2:=⟨_,Y⟩
  have hz:z=(m:Int):=V
  subst hz;have sW:i<=m:=V
  have zy:m<j:=V
  have ko:m<l.length:=V
  obtain⟨b,o,rfl⟩:=hv.addr V;have aI:=hv.cells bj (i:=m) (x:=l[m]) (by simp[ko]);refine Ai V (Ai V (Ei _ (Ai (aI 0 _ Y)<|dN XA ?_)));cases hb:aP l[m] tgt with
  |true=>
   refine Ai Y (λy hy=>?_);have hy:=cd hy V V;have hy:y=((m+1:Nat):Int):=V
   subst hy;refine Ai Y (Ei (m+1,j) (Ai ?_ (Ai ?_ ?_)))
   .exact J5
   .refine⟨by simp only;omega,eA,Y,λq hq lN=>?_,mY⟩;exact hm q m ko (by simp only at hq;omega) hb
   .simp only;omega
  |false=>
   refine Ai Y (Ei (i,m) (Ai ?_ (Ai ?_ ?_)))
   .exact J5
   .refine⟨sW,by simp only;omega,Y,lI,λq hq lN=>?_⟩;cases eO:aP l[q] tgt with
    |false=>rfl
    |true=>rw[hm m q lN (by simp only at hq;omega) eO]at hb;cases hb
   .simp only;omega
 .have ab5:i=j:=V
  subst ab5;have bw:(∀(hi:i<l.length),l[i]≠tgt)->bF l tgt=false:=λax=>alg λhm9=>by
   obtain⟨q,hq,e⟩:=amS hm9;by_cases h1:q<i
   .have:=lI q h1 hq;rw[e,qj]at this;cases this
   .by_cases h2:q=i
    .subst h2;exact ax hq e
    .have h3:=am5.1 hs i q V hq V;rw[e]at h3;have h4:=mY i (ali _) V;rw[h3]at h4;cases h4
  refine Bi (λhin=>?_) λhin=>?_
  .have hin:i<l.length:=V
   obtain⟨b,o,rfl⟩:=hv.addr V;have aI:=hv.cells bj (i:=i) (x:=l[i]) (by simp[hin]);refine Ai V (Ai V (Ei _ (Ai (aI 0 _ Y)<|Ai (λhe=>?_) (λax=>?_))))
   .have e:bF l tgt=true:=ale (by rw[<-show l[i]=tgt from he];exact ak9 hin);exact⟨⟨i,by rw[e];rfl⟩,Y⟩
   .refine Ai V (Ai V (Ei _ (Ai (aI 0 _ Y)<|dN agH ?_)));exact⟨⟨i,by rw[bw λ_=>ax];rfl⟩,Y⟩
  .exact⟨⟨i,by rw[bw λh9=>V];rfl⟩,Y⟩
def Td{h:af}{a b:Int}(ha:cy a)(hb:cy b):aj Tryz.prog 269 [.int .i64 a,.int .i64 b] h (ym (λr h'=>eP a b∧r=.int .i64 (a+b)∧h'=h) (λwhy h'=>¬eP a b∧why=ia∧h'=h)):=by
 obtain⟨a0,a1⟩:=ha;obtain⟨b0,b1⟩:=hb;unfold eP;have good:eP a b->swp Tryz.prog f269.sc.r.r (cC [.t 4] (ym (λr h'=>eP a b∧r=.int .i64 (a+b)∧h'=h) (λwhy h'=>¬eP a b∧why=ia∧h'=h))) (mk [(0,.int .i64 a),(1,.int .i64 b)]) [] h:=by
  intro hk;obtain⟨k0,k1⟩:=id hk;refine Ai Y (λz hz=>?_);have hz:z=a+b:=hz.trans (cx V V);subst hz;exact⟨hk,Y,Y⟩
 refine f269.c<|Bi (λh1=>?_) λh1=>?_
 .refine Ai Y (λz hz=>?_);have hz:z=9223372036854775807-b:=hz.trans (cx V V);subst hz;refine Bi (λh2=>?_) λh2=>?_
  .exact alo λ_=>aW [(0,.int .i64 a),(1,.int .i64 b)] J2 (good ⟨V,V⟩)
  .exact Ai Y (Ai (λh3=>absurd h3 V) (λh3=>oi ⟨_,Y,λhk=>by have:=hk.2;omega,Y,Y⟩))
 .refine Ai Y (Ai (λh3=>Ai Y (λz hz=>?_)) (λh3=>absurd (show b<0 by omega) h3));have hz:z= -9223372036854775808-b:=hz.trans (cx V V);subst hz;refine Bi (λh2=>?_) λh2=>?_
  .exact alo λ_=>aW [(0,.int .i64 a),(1,.int .i64 b)] J2 (good ⟨V,V⟩)
  .exact oi ⟨_,Y,λhk=>by have:=hk.1;omega,Y,Y⟩
section
variable {h0 h h1 h':af}{ab kb sb mb c bs bt b1 b2:Nat}{now:Int}{av lv pv lw rv fv:Value}{key s n:BA}{t:aB}{is:Bool}{A pre:List BA}{L:List aA}{M:List En}{T:List Nat}{p:BA->Bool}{Z:af->Prop}
def MU(hE:(cE ab kb now av key t is pv lw rv lv L).at h):SL aX h pv t.pairs∧SL encS h lw t.list∧SL aK h rv t.ranks:=by
 obtain⟨_,_,hT,_⟩:=hE;obtain⟨p,l,r,e,h1,h2,h3⟩:=hT;simp only[bg,anm,aoG,aos]at e;obtain⟨rfl,rfl,rfl⟩:=e;exact⟨h1,h2,h3⟩
def aam{b:Nat}(B:ai h b [.string n])(x:bM):aj Tryz.prog 304 [.agg ⟨aX x⟩,ptr b] h (ao λu h'=>u=.bool (decide (x.name=n))∧ag [] h h'):=by
 refine f304.c ?_;intro b2 h1 g1;refine Ei _ (Ai (an g1.blk Y) (Ei _ (Ai (an (B.ae g1.ae Yy) Y)<|Ai (λhe=>?_) (λax=>?_))))
 .exact⟨by rw[ale (show x.name=n from he)];rfl,g1.ae⟩
 .exact⟨by rw[alg (show¬x.name=n from ax)];rfl,g1.ae⟩
def aap{l:List bM}{k:Nat}(hk:k<l.length)(hp:decide (l[k].name=n)=true)(hn:∀x∈l.take k,decide (x.name=n)=false):gu l n=some l[k].text:=by
 unfold gu;have e:l=l.take k++l[k]::l.drop (k+1):=by rw[<-alx hk,ama]
 have hf:l.find? (λp=>decide (p.name=n))=some l[k]:=by
  rw[anM];exact⟨hp,l.take k,l.drop (k+1),e,λx hx=>by rw[hn x hx];rfl⟩
 rw[hf];rfl
def aar{l:List bM}(hn:∀x∈l,decide (x.name=n)=false):gu l n=none:=by
 unfold gu;rw[anA.2 λx hx=>by rw[hn x hx];simp];rfl
def FG(hE:(cE ab kb now av key t is pv lw rv lv L).at h)(hl:t.pairs.length<4611686018427387904):aj Tryz.prog 259 [ptr ab,.string n] h (ao λr h'=>r=.tuple #[.string ((gu t.pairs n).getD au),.bool (gu t.pairs n).isSome]∧ag [] h h'):=by
 have sp:=(MU hE).1;obtain⟨pa,pc,rfl,_⟩:=sp.form;refine f259.c ?_;intro b3 h1 g1;refine Ei _ (Ai (an (hE.1.ae g1.ae Yy) Y)<|akV (ac3 (g:=304) (cap:=[ptr b3]) (p:=λx=>decide (x.name=n)) (sp.ext g1.ae) hl λh' x hc=>aam (g1.blk.ae hc Yy) x) ?_);rintro r h2 ⟨hr,c2⟩;have c02:=g1.ae.nil c2;rcases hr with⟨k,hk,rfl,hp,hn⟩|⟨rfl,hn⟩
 .rw[aap hk hp hn];refine Ai Y (Ai (λh9=>absurd h9 V) (λ_=>Ei _ (Ai (an (hE.1.ae c02 Yy) Y) ?_)));have Ve:=sp.ext c02;obtain⟨b,o,rfl⟩:=Ve.addr V;have aI:=Ve.cells du (i:=k) (x:=t.pairs[k]) (by simp[hk]);refine Ai V (Ai V (Ei _ (Ai (aI 1 _ Y) ?_)));exact⟨Y,c02⟩
 .rw[aar hn];refine Ai Y (Ai (λ_=>?_) (λh9=>absurd Dd h9));exact⟨Y,c02⟩
def R6(hE:(cE ab kb now av key t is pv lw rv lv L).at h)(hl:t.list.length<4611686018427387904)(hs:t.list.Pairwise λa b=>aP a b=true):aj Tryz.prog 276 [ptr ab,.string n] h (ao λr h'=>r=.bool (bF t.list n)∧ag [] h h'):=by
 have sp:=(MU hE).2.1;obtain⟨pa,pc,rfl,_⟩:=sp.form;refine f276.c<|Ei _ (Ai (an hE.1 Y)<|akV (Xn sp hl hs) ?_);rintro r h2 ⟨⟨k,rfl⟩,e⟩;have e:=e.symm;subst e;exact⟨Y,ag.refl _⟩
def TC(ab kb:Nat)(now:Int)(av:Value)(t:aB)(is:Bool)(pv lw rv:Value)(Z:af->Prop)(fv:Value)(p:BA->Bool):Prop:=
 ∃g fi cap,fv=.func (.func g) fi cap∧∀{h:af}{s key:BA}{lv:Value}{L:List aA},(cE ab kb now av key t is pv lw rv lv L).at h->Z h->aj Tryz.prog g (fi.toList++[.string s]++cap.toList) h (ao λu h'=>u=.bool (p s)∧ag [] h h')
def ahz(hl:t.pairs.length<4611686018427387904):TC ab kb now av t is pv lw rv (λh=>ai h b1 [ptr ab]) (.func (.func 258) #[] #[ptr b1]) (dK t.pairs):=
 ⟨_,_,_,Y,λ{h s key lv L}hE hZ=>by
  refine f258.c<|Ei _ (Ai (an hZ Y)<|akV (FG hE hl) ?_);rintro _ h2 ⟨rfl,c2⟩;exact⟨Y,c2⟩⟩
def ahy(hl:t.pairs.length<4611686018427387904):TC ab kb now av t is pv lw rv (λh=>ai h b1 [ptr ab]) (.func (.func 265) #[] #[ptr b1]) (dK t.pairs):=
 ⟨_,_,_,Y,λ{h s key lv L}hE hZ=>by
  refine f265.c<|Ei _ (Ai (an hZ Y)<|akV (FG hE hl) ?_);rintro _ h2 ⟨rfl,c2⟩;exact⟨Y,c2⟩⟩
def Vr(hl:t.list.length<4611686018427387904)(hs:t.list.Pairwise λa b=>aP a b=true):TC ab kb now av t is pv lw rv (λ_=>True) (.func (.func 276) #[ptr ab] #[]) (bF t.list):=
 ⟨_,_,_,Y,λ{h s key lv L}hE _=>R6 hE hl hs⟩
def iQ(bs mb bt:Nat)(fv:Value)(pre:List BA):En:=
 .x [bs,mb,bt] (λh=>ai h bs [.map (some mb)]∧(∃es c,cN h mb es c∧CM es pre)∧ai h bt [fv]∧bs≠mb∧bt≠mb)
  (λ_ _ _ hc hn ⟨h1,⟨es,c,h2,h3⟩,h4,h5,h6⟩=>⟨h1.ae hc (hn _ Yy),⟨es,c,h2.ae hc (hn _ Yy),h3⟩,h4.ae hc (hn _ Yy),h5,h6⟩)
  (λ_ ⟨h1,⟨_,_,h2,_⟩,h4,_⟩ b hb=>by
   simp at hb;rcases hb with rfl|rfl|rfl
   .exact h1.lt
   .exact h2.lt
   .exact h4.lt)
def FO{f:Fn}{fi cap:Array Value}:aj Tryz.prog 257 [.func f fi cap] h (ao λr h'=>(∃bs mb bt,r=.func (.func 302) #[] #[ptr bs,ptr bt]∧(iQ bs mb bt (.func f fi cap) []).at h'∧∀b∈[bs,mb,bt],h.size<=b)∧ag [] h h'):=by
 refine f257.c ?_;intro bt h1 g1;have w:=(St.start h).new g1;intro mb h2 g2;have w:=w.Ag g2;intro bs h3 g3;have w:=w.new g3;refine w.st1 0 Y Y Y Y λh4 w=>?_;have n1:=g1.id;have n2:=g2.id;have n3:=g3.id;have z1:=g1.size;have z2:=g2.size;have z3:=g3.size;refine⟨⟨bs,mb,bt,Y,⟨w.get 0 Y,⟨[],0,w.get 1 Y,CM.nil⟩,w.get 2 Y,V,V⟩,λb hb=>?_⟩,w.ae⟩;simp at hb;rcases hb with rfl|rfl|rfl<;>omega
def _root_.Go.Sx.St.fresh{K:Value->af->Prop}{Qp:List PanicEntry->af->Prop}(w:St T h0 h M)(i j:Nat)(hi:M[i]? =some (iQ bs mb bt fv pre))(hj:M[j]? =some (cE ab kb now av key t is pv lw rv lv L))(jh:i≠j)(tc:TC ab kb now av t is pv lw rv Z fv p)(hZ:∀h',ag [mb] h h'->Z h')(rV:pre.length<4611686018427387904)(k:∀h',St T h0 h' (M.set i (iQ bs mb bt fv (pre++[s])))->K (.bool (!p s&&decide (s∉pre))) h'):aj Tryz.prog 302 [.string s,ptr bs,ptr bt] h (after K Qp):=by
 obtain⟨B1,⟨es,c,hM,cm⟩,B2,n1,n2⟩:=w.get i hi;have hE:=w.get j hj;have fe:mb∉(cE ab kb now av key t is pv lw rv lv L).fp:=w.apart i j _ _ hi hj jh mb (by simp[iQ,En.fp]);have dE:jU s pre<=pre.length:=IX;have main:aj Tryz.prog 302 [.string s,ptr bs,ptr bt] h (ao λu h'=>u=.bool (!p s&&decide (s∉pre))∧(iQ bs mb bt fv (pre++[s])).at h'∧ag [mb] h h'):=by
  obtain⟨g,fi,cap,rfl,hg⟩:=tc;refine f302.c<|Ei _ (Ai (an B1 Y) ?_)
  -- behind the akL turn
  have rest:∀{h4:af}{oG:List MapEntry}{c':Nat},kG h h4 mb (.map ⟨oG⟩ c')->CM oG (pre++[s])->
    swp Tryz.prog f302.sc.r.r (cC [.t 4] (ao λu h'=>u=.bool (!p s&&decide (s∉pre))∧(iQ bs mb bt (.func (.func g) fi cap) (pre++[s])).at h'∧ag [mb] h h')) (mk [(0,.string s),(1,ptr bs),(2,ptr bt)]) [] h4:=λ{h4 oG c'}p4 IW=>by
   have c4:ag [mb] h h4:=p4.ae;have M4:cN h4 mb oG c':=p4.blk;have jO:=B1.ae c4 (by simp[n1]);have Nq:=B2.ae c4 (by simp[n2]);have bC:∀{h5},ag [] h4 h5->(iQ bs mb bt (.func (.func g) fi cap) (pre++[s])).at h5:=λc5=>⟨jO.ae c5 Yy,⟨oG,c',M4.ae c5 Yy,IW⟩,Nq.ae c5 Yy,n1,n2⟩
   obtain⟨j2,e2⟩:=IW.hit;refine Ei _ (Ai (an jO Y)<|Ai Y (Ei oG (Ei c' (Ai M4 (Ai IW.fits ?_)))));rw[e2];refine Bi (λh1=>?_) λh1=>?_
   .have hc0:jU s pre=0:=V
    have bw:s∉pre:=λhm=>by have:=IY hm;omega
    refine Ei _ (Ai (an Nq Y) ?_);have hE4:(cE ab kb now av key t is pv lw rv lv L).at h4:=En.ae hE c4 (λb hb hm=>by simp at hm;subst hm;exact fe hb);refine akV (hg hE4 (hZ h4 c4)) ?_;rintro _ h5 ⟨rfl,c5⟩;refine⟨?_,bC c5,c4.trans c5 Yy Yy⟩;rw[ale bw,Bool.and_true];rfl
   .have hin:s∈pre:=by
     rcases Decidable.em (s∈pre)with h9|h9
     .exact h9
     .exact absurd (by rw[Fm h9];rfl) h1
    refine⟨?_,bC (ag.refl _),c4⟩;rw[alg (λh9=>h9 hin),anu];rfl
  rcases cm.cnt s with⟨e1,hn⟩|⟨j1,e1,hm⟩
  .refine Ai Y (Ei es (Ei c (Ai hM (Ai cm.fits ?_))));rw[e1];refine Ai Y (λz hz=>?_);have hz:z=1:=by have:=cd hz V V;omega
   subst hz;refine Ai Y (Ei es (Ei c (Ai hM (Ai cm.fits ?_))));rw[e1];intro h4 p4;exact aW [(0,.string s),(1,ptr bs),(2,ptr bt)] J3 (rest p4 (cm.DT (c:=c) e1 hn Y))
  .refine Ai Y (Ei es (Ei c (Ai hM (Ai cm.fits ?_))));rw[e1];refine Az<|Ai Y (Ei es (Ei c (Ai hM (Ai cm.fits ?_))));rw[e1];intro h4 p4;exact aW [(0,.string s),(1,ptr bs),(2,ptr bt)] J3 (rest p4 (cm.DU e1 Y))
 refine akV main ?_;rintro _ h2 ⟨rfl,hf,c2⟩;exact k h2 (w.set i hi c2 (λb hb=>.inl (by simp at hb;simp[iQ,En.fp,hb])) hf (λb hb=>.inl hb))
end
end Go.Proofs.YtocgmipngoiieaaGreatDoor
namespace Go.Proofs.YtocgmipngoiieaaGreatDoor
open Go Go.Sx C
variable{F:List PanicEntry->af->Prop}{P:Program}{h:af}{σ:Env}
def GR{th:BA->Bool}:∀{a b pre:List BA},bf th pre (a++b)=bf th pre a++bf th (pre++a) b
 |[],b,pre=>by simp[bf]
 |x::a,b,pre=>by
  have ih:=GR (th:=th) (a:=a) (b:=b) (pre:=pre++[x]);have e:pre++[x]++a=pre++x::a:=Yy
  rw[e]at ih;simp only[amK,bf,ih,alG]
def alu{th:BA->Bool}{l:List BA}{q:Nat}(hq:q<l.length):bf th [] (l.take (q+1))=bf th [] (l.take q)++(if(!th l[q]&&decide (l[q]∉l.take q))=true then[l[q]]else[]):=by
 rw[alI hq,GR];simp[bf]
def Sr{th:BA->Bool}{l:List BA}(q:Nat):(bf th [] (l.take q)).length<=(bf th [] l).length:=by
 have:=GR (th:=th) (a:=l.take q) (b:=l.drop q) (pre:=[]);rw[ama]at this;rw[this,ak1];omega
def oj{th:BA->Bool}:∀{l pre:List BA},(bf th pre l).length<=l.length
 |[],_=>ali _
 |x::l,pre=>by
  have:=oj (th:=th) (l:=l) (pre:=pre++[x]);simp only[bf];split<;>simp<;>omega
def GS{th:BA->Bool}{l:List BA}{q:Nat}{b:Bool}(hq:q<l.length)(hb:b=(!th l[q]&&decide (l[q]∉l.take q))):(bf th [] (l.take (q+1))).length=(bf th [] (l.take q)).length+(if b=true then 1 else 0):=by
 rw[alu hq,<-hb];cases b<;>simp
def um:∀{q:Nat}{l:List BA}(h:2*q+1<l.length),(dj l)[q]? =some (l[2*q],l[2*q+1])
 |q,[],h=>by simp at h
 |q,[a],h=>by simp at h
 |0,a::b::l,_=>rfl
 |q+1,a::b::l,h=>by
  have:=um (q:=q) (l:=l) (by simp at h;omega);show(dj l)[q]? =_;rw[this];rfl
def rB:∀{m:Nat}{l:List BA},l.length<=m->2*(dj l).length=2*(l.length/2)
 |_,[],_=>rfl
 |_,[a],_=>by simp[dj]
 |0,a::b::l,hm=>by simp at hm
 |m+1,a::b::l,hm=>by
  have:=rB (m:=m) (l:=l) (by simp at hm;omega);show 2*((dj l).length+1)=2*((l.length+2)/2);omega
def Vx:∀{m:Nat}{l:List BA},l.length<=m->l.length%2=0->(∀p∈dj l,small p.1=true∧small p.2=true)->l.all small=true
 |_,[],_,_,_=>rfl
 |_,[a],_,h,_=>by simp at h
 |0,a::b::l,hm,_,_=>by simp at hm
 |m+1,a::b::l,hm,h2,h=>by
  have:=Vx (m:=m) (l:=l) (by simp at hm;omega) (by simp at h2;omega) λp hp=>h p (alr _ hp);obtain⟨h3,h4⟩:=h (a,b) (amY ..);simp only[List.all_cons,this,h3,h4,Bool.and_self]
def xX{l:List BA}{x:BA}(h:l.all small=true)(hx:x∈l):x.size<=1048576:=amy (amV.1 h x hx)
def mv1{K:Env->af->Prop}{x:Operand}{d:Nat}{l:List aD}{v:Value}(he:ev σ x=some v)(hs:cD P F K l (upd σ (some d) v) h):cD P F K (⟨some d,none,.mv x⟩::l) σ h:=by
 simp only[cD,cW,aE,he];exact hs
def ext1{K:Env->af->Prop}{x:Operand}{d i:Nat}{l:List aD}{vs:Array Value}{v:Value}(he:ev σ x=some (.tuple vs))(hi:vs.toList[i]? =some v)(hs:cD P F K l (upd σ (some d) v) h):cD P F K (⟨some d,none,.ext x i⟩::l) σ h:=by
 simp only[cD,cW,aE,he,hi];exact hs
def adU{x y:Operand}{d e:Nat}{c:akX}{Q:de}{ds:List Deferred}{v u:Value}(he:ev σ x=some v)(hf:ev (upd σ (some d) v) y=some u)(hs:swp P c Q (upd (upd σ (some d) v) (some e) u) ds h):cD P F (λσ' h'=>fc (swp P c Q) Q .normal σ' ds h') [⟨some d,none,.mv x⟩,⟨some e,none,.mv y⟩] σ h:=by
 simp only[cD,cW,aE,he,hf];exact hs
section
variable {h0 h h1 h2 h':af}{ab kb sb mb c b1 b2 bs bt dH:Nat}{now op kd:Int}{av lv pv lw rv fv v:Value}{key why:BA}{t:aB}{is:Bool}{A l pre:List BA}{L:List aA}{m:List KI}{S:aH}{M:List En}{T:List Nat}{res:aM}{th:BA->Bool}{Z:af->Prop}
def yJ{n:Int}(hn:1<=n)(hb:n<=A.length):∃k0 l,A=k0::l:=by
 cases A with
 |nil=>simp at hb;omega
 |cons k0 l=>exact⟨k0,l,Y⟩
def Jm(w:St T h0 h M)(i j:Nat)(hi:M[i]? =some (iQ bs dH bt fv pre))(hj:M[j]? =some (.b b1 [v]))(jh:i≠j):∀h',ag [dH] h h'->ai h' b1 [v]:=λh' c=>
 ai.ae (w.get j hj) c λhm=>w.apart i j _ _ hi hj jh dH (by simp[iQ,En.fp]) (by simp at hm;simp[En.fp,hm])
set_option maxHeartbeats 2000000 in
def acD(p:P9 h0 kb sb mb c m S av A)(dd:S9 S)(hA:∀a∈A,a.size<281474976710656)(x:As h0 h (c0 ab kb now av)):aj Tryz.prog 187 [ptr ab] h (eE h0 h ab kb now av (wg S now A)):=by
 refine f187.c ?_;intro b1 h1 g1;have w:=x.st.new g1;intro b2 h2 g2;have w:=w.new g2;refine w.ld1 1 Y Y<|cT (i:=2) x w Y (λx=>q7 p Dd x) ?_ ?_;rotate_left
 .rintro why h3 ⟨hB,rfl⟩ c3;refine cF ?_ c3;cases A with
  |nil=>rfl
  |cons k0 l=>exact akZ λhh=>hB ⟨by simp;omega,by simp;omega⟩
 rintro _ h3 _ ⟨hb,k0,bP,rfl⟩ w;obtain⟨k9,l,rfl⟩:=yJ Dd hb.1;cases bP;obtain⟨ba,oa,ac,rfl⟩:=p.cz Yy;refine w.ld1 1 Y Y<|w.bV 2 Y Y<|Ai Y (Ai Dd (λz hz=>?_));have hz:z=(((k0::l).length%2:Nat):Int):=by rw[hz];exact(anT (k0::l).length 2).symm
 subst hz;have di:(k0::l).length=l.length+1:=rfl;refine Ai Y (Ai (λgZ=>alo λ_=>?_) (λjw=>oi (cF (akZ λhh=>jw V) w.ae)));have jC:2<=l.length∧l.length<65536∧l.length%2=0:=⟨V,V,V⟩
 have hc0:∀(f:aB->aM),bX S now 2 k0 f=.error gI->(if 2<=l.length∧l.length<65536∧l.length%2=0 then bX S now 2 k0 f else .error cX)=.error gI:=λf hf=>(ak4 jC).trans hf;refine w.ld1 1 Y Y<|cT (i:=2) x w Y (λx=>rf p x) ?_ ?_;rotate_left
 .rintro why h4 ⟨hB,rfl⟩ c4;exact cF (hc0 _ (nw hB)) c4
 rintro _ h4 _ ⟨hk,p2,w2,r2,rfl⟩ w;have htl:=(dd.get k0 now).ps;have pO:=hA k0 Yy;have he:wg S now (k0::l)=_:=(ak4 jC).trans (hX hk);generalize (aC S k0 now).getD aL=t at*;obtain⟨pa,pc,rfl,_⟩:=(w.gG 2 Y).1.form;obtain⟨names,wW⟩:∃names,names=(dj l).map Prod.fst:=⟨_,Y⟩
 obtain⟨D,qE⟩:∃D,D=(dj l).map λp=>pL k0 p.1 p.2:=⟨_,Y⟩
 have he:wg S now (k0::l)=makes S now k0 (t.pairs.length+(bf (dK t.pairs) [] names).length) (l.all small) (bO (bf (dK t.pairs) [] names).length) D:=by rw[he,wW,qE]
 have F8:=rB (ali l.length);have lL:names.length=(dj l).length:=by rw[wW];exact alL _
 have mT:D.length=(dj l).length:=by rw[qE];exact alL _
 have qD:D≠[]:=λe=>by rw[e]at mT;simp at mT;omega
 have Kp:=λq=>Sr (th:=dK t.pairs) (l:=names) q;refine akV FO ?_;rintro _ h5 ⟨⟨bs,dH,bt,rfl,hf,qK⟩,c5⟩;have w:=w.add (e:=iQ bs dH bt (.func (.func 258) #[] #[ptr b1]) []) c5 hf (λb hb=>qK b (by simpa[iQ,En.fp]using hb));refine bA (λq:Nat×Nat×Value=>[(1,ptr b1),(2,ptr b2),(3,.int .i64 q.2.1),(4,.func (.func 302) #[] #[ptr bs,ptr bt]),(5,.int .i64 (2*q.1+1:Nat))])
  (λq h'=>(2*q.1<=l.length∧q.2.1=(bf (dK t.pairs) [] (names.take q.1)).length∧(0<q.1->((t.pairs.length:Int)+q.2.1<=65536∧k0.size<=1048576))∧∀p∈(dj l).take q.1,small p.1=true∧small p.2=true)∧
   St (c0 ab kb now (.slice (some ⟨ba,oa,none⟩) (k0::l).length ac)).fp h h' [iQ bs dH bt (.func (.func 258) #[] #[ptr b1]) (names.take q.1),.b b2 zR,.b b1 [ptr ab],
    cE ab kb now (.slice (some ⟨ba,oa,none⟩) (k0::l).length ac) k0 t (aC S k0 now).isSome (.slice pa t.pairs.length pc) w2 r2 q.2.2 (kZ S k0 now D q.1)])
  (λq=>l.length-2*q.1) (0,0,iH) J5 ⟨⟨ak8 _,Y,λh9=>absurd h9 Yy,Yy⟩,w⟩ ?_
 rintro⟨q,n,lv⟩ h6 ⟨⟨hq,fh,ff,dU⟩,w⟩;replace hq:2*q<=l.length:=hq;replace fh:n=(bf (dK t.pairs) [] (names.take q)).length:=fh;replace ff:0<q->((t.pairs.length:Int)+n<=65536∧k0.size<=1048576):=ff;replace dU:∀p∈(dj l).take q,small p.1=true∧small p.2=true:=dU;have QE:n<=q:=by
  have h1:=oj (th:=dK t.pairs) (l:=names.take q) (pre:=[]);rw[alA]at h1;omega
 refine w.ld1 2 Y Y<|w.bV 3 Y Y<|Bi (λah=>?_) λcp=>?_
 .have qP:2*q+1<l.length:=V
  have qS:=um qP;have eC:q<(dj l).length:=V
  obtain⟨nm,f'⟩:∃nm,nm=l[2*q]:=⟨_,Y⟩
  obtain⟨tx,htx⟩:∃tx,tx=l[2*q+1]:=⟨_,Y⟩
  rw[<-f',<-htx]at qS;have lK:nm∈l:=by rw[f'];exact ak9 _
  have rZ:tx∈l:=by rw[htx];exact ak9 _
  have hn:(k0::l)[2*q+1]? =some nm:=by rw[f'];simp
  have ht:(k0::l)[2*q+2]? =some tx:=by rw[htx];simp
  clear f' htx;have qU:=hA nm (by simp[lK]);have si:=hA tx (by simp[rZ]);have hD:∀q'(_:q'<(dj l).length),q'=q->D[q']? =some {(⟨5,au,nm,tx,0⟩:aA)with key:=k0}:=λq' _ e=>by subst e;rw[qE,amB,qS];rfl
  have hD:∀q'(_:q'<(dj l).length),D[q]? =some {(⟨5,au,nm,tx,0⟩:aA)with key:=k0}:=λ_ _=>hD q eC Y;have aw:=EM (S:=S) (key:=k0) (now:=now) D q V;have ej:(dj l).take (q+1)=(dj l).take q++[(nm,tx)]:=by
   rw[alI eC];have:=(ak7.1 qS).2;rw[this]
  have qQ:q<names.length:=V
  have CU:names[q]=nm:=by
   have:names[q]? =some nm:=by rw[wW,amB,qS];rfl
   exact(ak7.1 this).2
  have xg:names.take (q+1)=names.take q++[nm]:=by rw[alI qQ,CU]
  refine w.ld1 2 Y Y<|w.bV 3 Y Y<|p.ix (x.base w) (2*q+1) Y hn<|w.fresh 0 3 Y Y Dd (ahz V) (Jm w 0 2 Y Y Dd) (by rw[alA];omega) λh7 w=>?_;obtain⟨bb,eO⟩:∃bb,bb=(!dK t.pairs nm&&decide (nm∉names.take q)):=⟨_,Y⟩
  have ig:=GS (th:=dK t.pairs) qQ (b:=bb) (by rw[CU];exact eO);have dE:=Kp (q+1);rw[<-eO];cases bb with
  |true=>
   have ig:(bf (dK t.pairs) [] (names.take (q+1))).length=n+1:=by rw[ig,fh];rfl
   refine Ai Y (λz hz=>?_);have hz:=cd hz Yo Yo;subst hz;refine w.ld1 2 Y Y<|w.ld1 2 Y Y<|w.bV 3 Y Y<|p.ix (x.base w) (2*q+1) Y hn<|w.ld1 2 Y Y<|w.bV 3 Y Y<|Ai Y (λz hz=>?_);have hz:=cd hz Yo Yo;subst hz;refine p.ix (x.base w) (2*q+2) Y ht<|w.ld1 2 Y Y<|w.bV 3 Y Y<|Ai Y (λz hz=>?_);have hz:z=(t.pairs.length:Int)+(n+1:Nat):=hz.trans (cx Yo Yo);subst hz;refine cT (i:=3) x w Y (λx=>tX p ⟨5,au,nm,tx,0⟩ x Yo V (by show nm.size<_;omega) (by show tx.size<_;omega)) ?_ ?_;rotate_left
   .rintro why h5 ⟨hB,rfl⟩ c5;refine cF (he.trans (tQ ?_)) c5;rintro⟨m1,m2,m3⟩;exact hB ⟨V,m2,xX m3 lK,xX m3 rZ⟩
   rintro _ h5 _ ⟨bK,lP,rfl⟩ w;rw[yu (hD q eC)]at w;refine Ai Y (λz hz=>?_);have hz:=cd hz Yo Yo;subst hz;refine Ai Y (Ei (q+1,n+1,lP) (Ai J5 (Ai ⟨⟨V,by rw[ig],λ_=>⟨?_,bK.2.1⟩,?_⟩,?_⟩ Yo)))
   .have:=bK.1
    push_cast at this⊢
    omega
   .intro pr eF;rw[ej,alf]at eF;rcases eF with eF|eF
    .exact dU pr eF
    .rw[alE.1 eF];exact⟨ale bK.2.2.1,ale bK.2.2.2⟩
   .rw[xg];exact w
  |false=>
   have ig:(bf (dK t.pairs) [] (names.take (q+1))).length=n:=by rw[ig,fh];rfl
   refine w.ld1 2 Y Y<|w.ld1 2 Y Y<|w.bV 3 Y Y<|p.ix (x.base w) (2*q+1) Y hn<|w.ld1 2 Y Y<|w.bV 3 Y Y<|Ai Y (λz hz=>?_);have hz:=cd hz Yo Yo;subst hz;refine p.ix (x.base w) (2*q+2) Y ht<|w.ld1 2 Y Y<|w.bV 3 Y Y<|Ai Y (λz hz=>?_);have hz:z=(t.pairs.length:Int)+(n:Nat):=hz.trans (cx Yo Yo);subst hz;refine cT (i:=3) x w Y (λx=>tX p ⟨5,au,nm,tx,0⟩ x Yo V (by show nm.size<_;omega) (by show tx.size<_;omega)) ?_ ?_;rotate_left
   .rintro why h5 ⟨hB,rfl⟩ c5;refine cF (he.trans (tQ ?_)) c5;rintro⟨m1,m2,m3⟩;exact hB ⟨V,m2,xX m3 lK,xX m3 rZ⟩
   rintro _ h5 _ ⟨bK,lP,rfl⟩ w;rw[yu (hD q eC)]at w;refine Ai Y (λz hz=>?_);have hz:=cd hz Yo Yo;subst hz;refine Ai Y (Ei (q+1,n,lP) (Ai J5 (Ai ⟨⟨V,by rw[ig],λ_=>⟨?_,bK.2.1⟩,?_⟩,?_⟩ Yo)))
   .have:=bK.1
    push_cast at this⊢
    omega
   .intro pr eF;rw[ej,alf]at eF;rcases eF with eF|eF
    .exact dU pr eF
    .rw[alE.1 eF];exact⟨ale bK.2.2.1,ale bK.2.2.2⟩
   .rw[xg];exact w
 .have lN:2*q=l.length:=V
  have zD:q=(dj l).length:=V
  have Ko:n=(bf (dK t.pairs) [] names).length:=by rw[fh,amo V]
  refine w.aV alk λh7 w=>w.st1 1 Y Y Y Y λh8 w=>iy x w 1 3 Y Y ?_;rw[he,xC ⟨by have:=(ff V).1;omega,(ff V).2,Vx (ali _) jC.2.2 λpr eF=>dU pr (by rw[zD,alm];exact eF)⟩,zD,<-mT,EL qD,Ko];rfl
def ab3(p:P9 h0 kb sb mb c m S av A)(dd:S9 S)(x:As h0 h (c0 ab kb now av)):aj Tryz.prog 188 [ptr ab] h (eE h0 h ab kb now av (E7 S now A)):=by
 refine f188.c ?_;intro b2 h1 g1;have w:=x.st.new g1;refine cT (i:=1) x w Y (λx=>alc p Dd x) ?_ ?_;rotate_left
 .rintro why h2 hB c2;exact cF (js.a2 (f:=λ_ n t=>match gu t.pairs n with
   |some s=>.ok (iu s,[])
   |none=>.ok (jJ,[])) hB) c2
 rintro _ h2 _ ⟨hb,k0,bP,hk,p2,w2,r2,rfl⟩ w;obtain⟨k9,n,rfl⟩:=qm hb;cases bP;have he:E7 S now [k0,n]=_:=(show E7 S now [k0,n]=bX S now 2 k0 (λt=>match gu t.pairs n with
   |some s=>.ok (iu s,[])
   |none=>.ok (jJ,[]))from Y).trans (hX hk)
 have htl:=(dd.get k0 now).ps;generalize (aC S k0 now).getD aL=t at*;obtain⟨b,o,cc,rfl⟩:=p.cz Yy;refine w.bV 1 Y Y<|p.ix (x.base w) 1 Y Y<|w.aV (FG (w.get 1 Y) V) λh3 w=>?_;generalize gu t.pairs n=fo at he⊢;cases fo with
 |none=>
  exact w.st1 0 Y Y Y Y λh4 w=>iy x w 0 1 Y Y he
 |some s=>
  exact w.aV vI λh4 w=>w.st1 0 Y Y Y Y λh5 w=>iy x w 0 1 Y Y he
def aca(p:P9 h0 kb sb mb c m S av A)(x:As h0 h (c0 ab kb now av)):aj Tryz.prog 190 [ptr ab] h (eE h0 h ab kb now av (E8 S now A)):=by
 refine f190.c ?_;intro b2 h1 g1;have w:=x.st.new g1;refine cT (i:=1) x w Y (λx=>alc p Dd x) ?_ ?_;rotate_left
 .rintro why h2 hB c2;exact cF (js.a1 (f:=λ_ t=>.ok (bO t.pairs.length,[])) hB) c2
 rintro _ h2 _ ⟨hb,k0,bP,hk,p2,w2,r2,rfl⟩ w;obtain⟨k9,rfl⟩:=jK hb;cases bP;obtain⟨la,lc,rfl,_⟩:=(w.gG 1 Y).1.form;refine w.bV 1 Y Y<|w.aV alk λh3 w=>w.st1 0 Y Y Y Y λh4 w=>?_;have he:E8 S now [k0]=_:=(show E8 S now [k0]=bX S now 2 k0 (λt=>.ok (bO t.pairs.length,[]))from Y).trans (hX hk);exact iy x w 0 1 Y Y he
def abD(p:P9 h0 kb sb mb c m S av A)(dd:S9 S)(x:As h0 h (c0 ab kb now av)):aj Tryz.prog 191 [ptr ab] h (eE h0 h ab kb now av (E6 S now A)):=by
 refine f191.c ?_;intro b2 h1 g1;have w:=x.st.new g1;refine cT (i:=1) x w Y (λx=>alc p Dd x) ?_ ?_;rotate_left
 .rintro why h2 hB c2;exact cF (js.a1 (f:=λ_ t=>.ok (fC (t.pairs.flatMap λp:bM=>[p.name,p.text]),[])) hB) c2
 rintro _ h2 _ ⟨hb,k0,bP,hk,p2,w2,r2,rfl⟩ w;obtain⟨k9,rfl⟩:=jK hb;cases bP;have htl:=(dd.get k0 now).ps;have he:E6 S now [k0]=_:=(show E6 S now [k0]=bX S now 2 k0 (λt=>.ok (fC (t.pairs.flatMap λp=>[p.name,p.text]),[]))from Y).trans (hX hk);generalize (aC S k0 now).getD aL=t at*;have oe:=(w.gG 1 Y).1;obtain⟨la,lc,rfl,_⟩:=oe.form;refine w.bV 1 Y Y<|akV (ads oe V) ?_;rintro _ h5 ⟨⟨ra,rn,rc,rfl,ol,fr⟩,c5⟩;have hz:=w.size;have w:=w.add (e:=.o bR 4 (.slice ra rn rc) _) c5 ol fr;exact w.st1 1 Y Y Y Y λh6 w=>yS x w 1 2 0 Y Y Y (λb hb=>by have:=fr b hb;omega) he
def ahx(tc:TC ab kb now av t is pv lw rv Z fv th):TC ab kb now av t is pv lw rv (λh=>ai h b1 [fv]∧Z h) (.func (.func 305) #[] #[ptr b1]) (λs=>!th s):=by
 obtain⟨g,fi,cap,rfl,hg⟩:=tc;refine⟨_,_,_,Y,λ{h s key lv L}hE hZ=>?_⟩;refine f305.c<|Ei _ (Ai (an hZ.1 Y)<|akV (hg hE hZ.2) ?_);rintro _ h2 ⟨rfl,c2⟩;exact⟨Y,c2⟩
set_option maxHeartbeats 1000000 in
def Is{k0:BA}(p:P9 h0 kb sb mb c m S av (k0::l))(hl:1<=l.length∧l.length<65536)(x:As h0 h (cE ab kb now av key t is pv lw rv iH []))(tc:TC ab kb now av t is pv lw rv Z fv th)(hZ:∀h',ag (cE ab kb now av key t is pv lw rv iH []).fp h h'->Z h'):aj Tryz.prog 264 [ptr ab,.int .i64 op,fv] h (ao λr h'=>r=lT 3 (gX th l).length au∧∃aY,Tn h0 h (cE ab kb now av key t is pv lw rv iH []) h' (cE ab kb now av key t is pv lw rv aY ((gX th l).map λn=>⟨op,key,n,au,0⟩))):=by
 obtain⟨ba,oa,ac,rfl⟩:=p.cz Yy;obtain⟨fg,ffi,aak,rfl⟩:∃g fi cap,fv=.func (.func g) fi cap:=by
  obtain⟨g,fi,cap,e,_⟩:=tc;exact⟨g,fi,cap,e⟩
 refine f264.c ?_;intro b5 h1 g1;have w:=x.st.new g1;intro b6 h2 g2;have w:=w.new g2;have di:(k0::l).length=l.length+1:=rfl;refine akV FO ?_;rintro _ h5 ⟨⟨bs,dH,bt,rfl,hf,qK⟩,c5⟩;have w:=w.add (e:=iQ bs dH bt (.func (.func 305) #[] #[ptr b5]) []) c5 hf (λb hb=>qK b (by simpa[iQ,En.fp]using hb));refine w.bV 3 Y Y ?_;have nV:=(p.args _ (x.base w)).len.2;refine Ai Dd (Ai (by simp only[ak0];omega) (Ai V<|ub (lo:=1) (hi:=(k0::l).length) bj (p.args _ (x.base w)) Yy (ali _) λv1 bL=>?_));have e1:((k0::l).drop 1).take ((k0::l).length-1)=l:=Yy
 rw[e1]at bL;have aQ:∀{h'},ag [] h0 h'->SL encS h' v1 l:=λhc=>bL _ (p.args _ hc);clear bL;obtain⟨va,vc,rfl,_⟩:=(aQ (ag.refl _)).form;obtain⟨vb,vo,rfl⟩:=(aQ (ag.refl _)).addr V;obtain⟨mH,Q2⟩:∃mH:BA->Bool,mH=λs=>!th s:=⟨_,Y⟩
 have Vq:=ahx (b1:=b5) tc;rw[show gX th l=bf mH [] l by rw[Q2];rfl];rw[<-Q2]at Vq;refine bA (λq:Nat×Nat×Value=>[(0,ptr ab),(1,.int .i64 op),(6,ptr b6),(7,.int .i64 q.2.1),(8,.func (.func 302) #[] #[ptr bs,ptr bt]),(17,.slice (some ⟨vb,vo,none⟩) l.length vc),(18,.int .i64 l.length),(19,.int .i64 q.1)])
  (λq h'=>(q.1<=l.length∧q.2.1=(bf mH [] (l.take q.1)).length)∧St (cE ab kb now (.slice (some ⟨ba,oa,none⟩) (k0::l).length ac) key t is pv lw rv iH []).fp h h' [iQ bs dH bt (.func (.func 305) #[] #[ptr b5]) (l.take q.1),.b b6 zR,.b b5 [.func (.func fg) ffi aak],
   cE ab kb now (.slice (some ⟨ba,oa,none⟩) (k0::l).length ac) key t is pv lw rv q.2.2 ((bf mH [] (l.take q.1)).map λn=>⟨op,key,n,au,0⟩)])
  (λq=>l.length-q.1) (0,0,iH) J8 ⟨⟨ak8 _,Y⟩,w⟩ ?_
 rintro⟨q,n,lv⟩ h6 ⟨⟨hq,fh⟩,w⟩;replace hq:q<=l.length:=hq;replace fh:n=(bf mH [] (l.take q)).length:=fh;have QE:n<=q:=by
  have h1:=oj (th:=mH) (l:=l.take q) (pre:=[]);rw[alA]at h1;omega
 refine Bi (λah=>?_) λcp=>?_
 .have ah:q<l.length:=V
  have ej:=alI ah;obtain⟨s,hs⟩:∃s,s=l[q]:=⟨_,Y⟩
  rw[<-hs]at ej;refine qi (s:=s) (aQ (x.base w)) q Y (by rw[hs];exact akU ah) ?_;refine w.fresh 0 3 Y Y Dd Vq (λh9 c9=>⟨Jm w 0 2 Y Y Dd h9 c9,hZ h9 (w.set (e':=En.nil) 0 Y c9 (λb hb=>.inl (by simp at hb;simp[iQ,En.fp,hb])) trivial (λb hb=>(nomatch (show b∈([]:List Nat)from hb)))).ae⟩) (by rw[alA];omega) λh7 w=>?_;rw[<-ej]at w;obtain⟨bb,eO⟩:∃bb,bb=(!mH s&&decide (s∉l.take q)):=⟨_,Y⟩
  have ik:=alu (th:=mH) ah;rw[<-hs,<-eO]at ik;have ig:=GS (th:=mH) ah (b:=bb) (by rw[<-hs];exact eO);rw[<-eO];cases bb with
  |true=>
   refine Ai Y (λz hz=>?_);have hz:=cd hz Yo Yo;subst hz;refine cT (i:=3) x w Y (λx=>Vn ⟨op,au,s,au,0⟩ x (by rw[alL];simp only;omega)) ?_ ?_;rotate_left
   .rintro why h8 hB;exact hB.elim
   rintro _ h8 _ ⟨tP,rfl⟩ w;have hm:(bf mH [] (l.take q)).map (λn=>(⟨op,key,n,au,0⟩:aA))++[⟨op,key,s,au,0⟩]=(bf mH [] (l.take (q+1))).map λn=>⟨op,key,n,au,0⟩:=by
    rw[ik,ak4 Y,alD];rfl
   have w:=(show St _ _ _ [_,_,_,cE ab kb now (.slice (some ⟨ba,oa,none⟩) (k0::l).length ac) key t is pv lw rv tP ((bf mH [] (l.take q)).map (λn=>(⟨op,key,n,au,0⟩:aA))++[⟨op,key,s,au,0⟩])]from w)
   rw[hm]at w;refine Ai Y (λz hz=>?_);have hz:=cd hz Yo Yo;subst hz;exact Ai Y (Ei (q+1,n+1,tP) (Ai J8 (Ai ⟨⟨ah,by rw[ig,fh];rfl⟩,w⟩ Yo)))
  |false=>
   have hm:bf mH [] (l.take q)=bf mH [] (l.take (q+1)):=by rw[ik,akZ Dd,amA]
   have w:=(show St _ _ _ [_,_,_,cE ab kb now (.slice (some ⟨ba,oa,none⟩) (k0::l).length ac) key t is pv lw rv lv ((bf mH [] (l.take q)).map (λn=>(⟨op,key,n,au,0⟩:aA)))]from w)
   rw[hm]at w;refine Ai Y (λz hz=>?_);have hz:=cd hz Yo Yo;subst hz;exact Ai Y (Ei (q+1,n,lv) (Ai J8 (Ai ⟨⟨ah,by rw[ig,fh];rfl⟩,w⟩ Yo)))
 .have aZ:q=l.length:=V
  subst aZ;rw[alm]at w fh;refine w.aV alk λh7 w=>w.st1 1 Y Y Y Y λh8 w=>?_;exact⟨_,Y,akW (w.get 1 Y),by rw[fh];rfl,lv,x.out w 3 Y⟩
def GY{f:BA->List BA->aB->aM}{g:List BA->aM}(h:js S now A 2 65536 kd why)(hg:∀key l,g (key::l)=if 1<=l.length∧l.length<65536 then bX S now kd key (f key l)else .error cX)(hn:g []=.error cX):g A=.error why:=by
 match A,h with
 |[],.inl ⟨_,e⟩=>rw[hn,e]
 |[],.inr ⟨hb,_⟩=>simp at hb
 |key::l,.inl ⟨hb,e⟩=>
  rw[hg,e,akZ];intro hh;exact hb ⟨by simp;omega,by simp;omega⟩
 |key::l,.inr ⟨hb,k0,bP,hk,e⟩=>
  cases bP;simp at hb;rw[hg,e,ak4 ⟨V,V⟩,nw hk]
def abU(p:P9 h0 kb sb mb c m S av A)(dd:S9 S)(x:As h0 h (c0 ab kb now av)):aj Tryz.prog 189 [ptr ab] h (eE h0 h ab kb now av (Bs S now A)):=by
 refine f189.c ?_;intro b1 h1 g1;have w:=x.st.new g1;intro b2 h2 g2;have w:=w.new g2;refine w.ld1 1 Y Y<|cT (i:=2) x w Y (λx=>alc p Dd x) ?_ ?_;rotate_left
 .rintro why h2 hB c2;exact cF (GY (f:=λkey l t=>.ok (bO (gX (dK t.pairs) l).length,(gX (dK t.pairs) l).map (M0 key))) hB (λ_ _=>rfl) Y) c2
 rintro _ h3 _ ⟨hb,k0,bP,hk,p2,w2,r2,rfl⟩ w;obtain⟨k9,l,rfl⟩:=yJ Dd hb.1;cases bP;have di:(k0::l).length=l.length+1:=rfl;have jC:1<=l.length∧l.length<65536:=⟨V,V⟩
 have htl:=(dd.get k0 now).ps;have he:Bs S now (k0::l)=_:=(show Bs S now (k0::l)=if 1<=l.length∧l.length<65536 then bX S now 2 k0 (λt=>.ok (bO (gX (dK t.pairs) l).length,(gX (dK t.pairs) l).map (M0 k0)))else .error cX from Y).trans ((ak4 jC).trans (hX hk));generalize (aC S k0 now).getD aL=t at*;refine w.ld1 1 Y Y<|akV (Is p jC (x.out w 2 Y).1 (ahy (b1:=b1) V) (λh9 c9=>ai.ae (w.get 1 Y) c9 (λhm=>w.apart 1 2 _ _ Y Y Dd b1 (by simp[En.fp]) hm))) ?_;rintro _ h5 ⟨rfl,lP,_,o5⟩;have w:=w.own 2 Y o5;exact w.st1 0 Y Y Y Y λh6 w=>iy x w 0 2 Y Y he
def ab6(p:P9 h0 kb sb mb c m S av A)(dd:S9 S)(hl:dr h0)(hA:∀a∈A,a.size<281474976710656)(x:As h0 h (c0 ab kb now av)):aj Tryz.prog 192 [ptr ab] h (eE h0 h ab kb now av (yF S now A)):=by
 refine f192.c ?_;intro b2 h1 g1;have w:=x.st.new g1;refine cT (i:=1) x w Y (λx=>q7 p Dd x) ?_ ?_;rotate_left
 .rintro why h2 ⟨hB,rfl⟩ c2;exact cF (yB hB) c2
 rintro _ h2 _ ⟨hb,k0,bP,rfl⟩ w;obtain⟨k9,n,u,rfl⟩:=AP hb;cases bP;refine cT (i:=1) x w Y (λx=>re (j:=2) p x hl Y (hA u Yy)) ?_ ?_;rotate_left
 .rintro why h3 ⟨hB,rfl⟩ c3;refine cF ?_ c3;show bY u _=_;unfold bY;rw[hB]
 rintro _ h3 _ ⟨jt,mi,rfl,rfl⟩ w;have fB:∀f,bY u f=f jt:=λf=>by unfold bY;rw[mi]
 refine cT (i:=1) x w Y (λx=>rf p x) ?_ ?_;rotate_left
 .rintro why h4 ⟨hB,rfl⟩ c4;exact cF ((fB _).trans (nw hB)) c4
 rintro _ h4 _ ⟨hk,p2,w2,r2,rfl⟩ w;have zG:=dd.get k0 now;have pO:=hA k0 Yy;have hn9:=hA n Yy;have he:yF S now [k0,n,u]=_:=(fB _).trans (hX hk);generalize (aC S k0 now).getD aL=t at*;have htl:=zG.ps;obtain⟨b,o,cc,rfl⟩:=p.cz Yy;refine w.bV 1 Y Y<|p.ix (x.base w) 1 Y Y<|w.aV (FG (w.get 1 Y) V) λh5 w=>?_;have pN:((gu t.pairs n).getD mI).size<281474976710656:=by
  unfold gu;cases hf:t.pairs.find? λp=>decide (p.name=n)with
  |none=>decide
  |some pr=>
   have:=zG.pt pr (am6 hf);show pr.text.size<_;omega
 have gf:dK t.pairs n=(gu t.pairs n).isSome:=rfl;rw[gf]at he;generalize gu t.pairs n=fo at he pN⊢
 -- what stands behind the akj text
 have rest:∀{h6:af}{s:BA}{M:List En},s=fo.getD mI->St (c0 ab kb now (.slice (some ⟨b,o,none⟩) 3 cc)).fp h h6 (.b b2 zR::cE ab kb now (.slice (some ⟨b,o,none⟩) 3 cc) k0 t (aC S k0 now).isSome p2 w2 r2 iH []::M)->
   swp Tryz.prog f192.sc.r.r.r.r.r.r
    (cC [.cn 2 4] (eE h0 h ab kb now (.slice (some ⟨b,o,none⟩) 3 cc) (yF S now [k0,n,u]))) (mk [(0,ptr ab),(2,ptr b2),(3,.int .i64 jt),(4,.string s),(5,.bool fo.isSome)]) [] h6:=by
  intro h6 s M hs w;rw[<-hs]at pN he;obtain⟨⟨sl⟩⟩:=s;refine akV (alP (hl.ext (x.base w)) pN) ?_;rintro _ h7 ⟨rfl,c7⟩;have w:=w.ext c7;have nX:numOf ⟨⟨sl⟩⟩=Num.num sl:=rfl;obtain⟨nu,hnv⟩:∃nu,nu=Num.num sl:=⟨_,Y⟩
  rw[<-hnv]at nX⊢;cases nu with
  |none=>exact oi (cF (by rw[he];unfold bY;rw[nX];rfl) w.ae)
  |some z=>
   have he:yF S now [k0,n,u]=_:=he.trans (show bY _ _=_ by unfold bY;rw[nX]);refine alo λ_=>rJ (Td (gC nX) (gC mi)) ?_ ?_;rotate_left
   .rintro why h8 ⟨bw,rfl,e⟩;have e:=e.symm;subst e;exact cF (he.trans (akZ bw)) w.ae
   rintro _ h8 ⟨aN,rfl,e⟩;have e:=e.symm;subst e;have he:=he.trans (ak4 aN);obtain⟨pa,pc,rfl,_⟩:=(w.gG 1 Y).1.form;have fY:=K7 aN;have akt:(⟨⟨Lib.itoa (z+jt)⟩⟩:BA).size<=20:=fY;have fin:∀{h9:af}{items:Nat}{M:List En},items=t.pairs.length+(if fo.isSome=true then 0 else 1)->St (c0 ab kb now (.slice (some ⟨b,o,none⟩) 3 cc)).fp h h9 (.b b2 zR::cE ab kb now (.slice (some ⟨b,o,none⟩) 3 cc) k0 t (aC S k0 now).isSome (.slice pa t.pairs.length pc) w2 r2 iH []::M)->
     swp Tryz.prog f192.sc.r.r.r.r.r.r.r.r.r.r.r
      (cC [.cn 2 4] (eE h0 h ab kb now (.slice (some ⟨b,o,none⟩) 3 cc) (yF S now [k0,n,u]))) (mk [(0,ptr ab),(2,ptr b2),(6,.int .i64 (z+jt)),(8,.int .i64 items)]) [] h9:=by
    intro h9 items M hit w;refine w.bV 1 Y Y<|p.ix (x.base w) 1 Y Y<|w.qx (rO (hl.ext (x.base w)) aN.1 aN.2) λbp w=>cT (i:=1) x w Y (λx=>tX p ⟨5,au,n,⟨⟨Lib.itoa (z+jt)⟩⟩,0⟩ x Yy V (by show n.size<_;omega) (by show(⟨⟨Lib.itoa (z+jt)⟩⟩:BA).size<_;omega)) ?_ ?_;rotate_left
    .rintro why dO ⟨hB,rfl⟩ iO;refine cF (he.trans (tQ λhh=>hB ⟨?_,hh.2.1,?_⟩)) iO
     .have:=hh.1;rw[hit]
      push_cast
      split at this<;>simp_all
     .have:=hh.2.2;rw[alO]at this;exact⟨amy this.1,amy this.2⟩
    rintro _ dO _ ⟨bK,adF,rfl⟩ w;refine w.aV alk λcO w=>w.st1 0 Y Y Y Y λdn w=>iy x w 0 1 Y Y (he.trans (xC ⟨?_,bK.2.1,?_⟩))
    .have:=bK.1;rw[hit]at this
     push_cast at this
     split<;>simp_all
    .rw[alO];exact⟨ale bK.2.2.1,ale bK.2.2.2⟩
   refine w.bV 1 Y Y<|aW [(0,ptr ab),(2,ptr b2),(5,.bool fo.isSome),(6,.int .i64 (z+jt)),(8,.int .i64 t.pairs.length)] J5<|mM<|vq (v:=fo.isSome) Y Y<|oE (t:=!fo.isSome) Y ?_;cases fo with
   |none=>
    exact Az<|aW [(0,ptr ab),(2,ptr b2),(6,.int .i64 (z+jt)),(8,.int .i64 (t.pairs.length+1:Nat))] J4 (fin Y w)
   |some s=>
    exact pg<|aW [(0,ptr ab),(2,ptr b2),(6,.int .i64 (z+jt)),(8,.int .i64 t.pairs.length)] J4 (fin Y w)
 refine mv1 Y<|ext1 Y Y<|ext1 Y Y<|adU Y Y<|aW [(0,ptr ab),(2,ptr b2),(3,.int .i64 jt),(4,.string (fo.getD au)),(5,.bool fo.isSome)] J5<|mM<|vq (v:=fo.isSome) Y Y<|oE (t:=!fo.isSome) Y ?_;cases fo with
 |none=>
  exact tV (v:=.string mI) Y<|aW [(0,ptr ab),(2,ptr b2),(3,.int .i64 jt),(4,.string mI),(5,.bool false)] J5 (rest Y w)
 |some s=>
  exact pg<|aW [(0,ptr ab),(2,ptr b2),(3,.int .i64 jt),(4,.string s),(5,.bool true)] J5 (rest Y w)
end
end Go.Proofs.YtocgmipngoiieaaGreatDoor
namespace Go.Proofs.YtocgmipngoiieaaGreatDoor
open Go Go.Sx C
section
variable {h0 h h1 h2 h':af}{ab kb sb mb c b2:Nat}{now op at_:Int}{av:Value}{A:List BA}{m:List KI}{S:aH}{res:aM}
def G3{M:List En}{key:BA}{t:aB}{is:Bool}{pv lw rv lv:Value}{E:List aA}{q:cR}{ra:Option Addr}{rn rc:Nat}(x:As h0 h (c0 ab kb now av))(w:St (c0 ab kb now av).fp h h' M)(i j:Nat)(hi:M[i]? =some (.b b2 [.int .i64 q.k,.int .i64 q.i,.string q.s,.slice ra rn rc]))(hj:M[j]? =some (cE ab kb now av key t is pv lw rv lv E))(sl:SL bR h2 (.slice ra rn rc) q.l)(fr:∀b∈bG ra,h1.size<=b)(kc:ag [b2] h2 h')(hb:b2<h1.size)(hz:h.size<=h1.size)(he:res=.ok (q,E)):∃vs,vs.length=4∧fF h' b2 0 vs∧eE h0 h ab kb now av res (.returned (.agg ⟨vs⟩)) h':=
 ⟨_,Y,akW (w.get i hi),q,E,key,t,is,pv,lw,rv,lv,he,⟨ra,rn,rc,Y,sl.ae kc (λb eL=>by have:=fr b eL;simp;omega),λb eL=>by have:=fr b eL;omega⟩,x.out w j hj⟩
def adv(p:P9 h0 kb sb mb c m S av A)(x:As h0 h (c0 ab kb now av)):aj Tryz.prog 197 [ptr ab] h (eE h0 h ab kb now av (E9 S now A)):=by
 refine f197.c ?_;intro b2 h1 g1;have w:=x.st.new g1;refine cT (i:=1) x w Y (λx=>alc p Dd x) ?_ ?_;rotate_left
 .rintro why h2 hB c2;exact cF (js.a1 (f:=λ_ t=>.ok (bO t.list.length,[])) hB) c2
 rintro _ h2 _ ⟨hb,k0,bP,hk,p2,w2,r2,rfl⟩ w;obtain⟨k9,rfl⟩:=jK hb;cases bP;obtain⟨la,lc,rfl,_⟩:=(w.gG 1 Y).2.1.form;refine w.bV 1 Y Y<|w.aV alk λh3 w=>w.st1 0 Y Y Y Y λh4 w=>?_;have he:E9 S now [k0]=_:=(show E9 S now [k0]=bX S now 3 k0 (λt=>.ok (bO t.list.length,[]))from Y).trans (hX hk);exact iy x w 0 1 Y Y he
def Tg(p:P9 h0 kb sb mb c m S av A)(dd:S9 S)(zc:cy at_)(x:As h0 h (c0 ab kb now av)):aj Tryz.prog 271 [ptr ab,.int .i64 op,.int .i64 at_] h (eE h0 h ab kb now av (alw S now (λkey=>⟨op,key,au,au,0⟩) at_ A)):=by
 refine f271.c ?_;intro b6 h1 g1;have w:=x.st.new g1;refine cT (i:=1) x w Y (λx=>alc p Dd x) ?_ ?_;rotate_left
 .rintro why h2 hB c2;exact cF (js.a1 (f:=λkey t=>match dP t.list.length at_ with
   |some i=>.ok (iu (t.list[i]?.getD au),[⟨op,key,au,au,0⟩])
   |none=>.ok (jJ,[])) hB) c2
 rintro _ h2 _ ⟨hb,k0,bP,hk,p2,w2,r2,rfl⟩ w;obtain⟨k9,rfl⟩:=jK hb;cases bP;have ht:=(dd.get k0 now).ls;have he:alw S now (λkey=>⟨op,key,au,au,0⟩) at_ [k0]=_:=(show alw S now (λkey=>⟨op,key,au,au,0⟩) at_ [k0]=bX S now 3 k0 (λt=>match dP t.list.length at_ with
  |some i=>.ok (iu (t.list[i]?.getD au),[⟨op,k0,au,au,0⟩])
  |none=>.ok (jJ,[]))from Y).trans (hX hk)
 generalize (aC S k0 now).getD aL=t at*;obtain⟨la,lc,rfl,_⟩:=(w.gG 1 Y).2.1.form;refine w.bV 1 Y Y<|dN (amf V zc) ?_;cases hp:dP t.list.length at_ with
 |none=>
  rw[hp]at he;exact w.st1 0 Y Y Y Y λh3 w=>iy x w 0 1 Y Y he
 |some i=>
  have fY:=DS hp;rw[hp]at he;refine cT (i:=1) x w Y (λx=>Vn ⟨op,au,au,au,0⟩ x Yy) ?_ ?_;rotate_left
  .rintro why h3 hB;exact hB.elim
  rintro _ h3 _ ⟨Ln,rfl⟩ w;obtain⟨b,o,rfl⟩:=(w.gG 1 Y).2.1.addr V;refine w.bV 1 Y Y<|qi (w.gG 1 Y).2.1 i Y (akU fY)<|w.aV vI λh4 w=>w.st1 0 Y Y Y Y λh5 w=>iy x w 0 1 Y Y ?_;rw[he];simp[fY,iu]
def adA(p:P9 h0 kb sb mb c m S av A)(dd:S9 S)(x:As h0 h (c0 ab kb now av)):aj Tryz.prog 195 [ptr ab] h (eE h0 h ab kb now av (alw S now HO 0 A)):=by
 refine f195.c ?_;intro b2 h1 g1;have w:=x.st.new g1;refine rJ (Tg p dd ⟨Dd,Dd⟩ (x.out w 1 Y).1) ?_ (λwhy h2 ⟨he,c2⟩=>cF he (w.gone 1 Y c2 (λ_ hb=>.inl hb)).ae);rintro _ h2 ⟨q,E,key,t,is,pv,lw,rv,lv,he,⟨ra,rn,rc,rfl,sl,fr⟩,_,o2⟩;have w:=w.own 1 Y o2;exact w.st2 0 Y Y Y Y λh3 w k3=>G3 x w 0 1 Y Y sl fr k3 (by have:=g1.id;have:=g1.size;omega) g1.ae.size he
def afI(p:P9 h0 kb sb mb c m S av A)(dd:S9 S)(x:As h0 h (c0 ab kb now av)):aj Tryz.prog 196 [ptr ab] h (eE h0 h ab kb now av (alw S now HP (-1) A)):=by
 refine f196.c ?_;intro b2 h1 g1;have w:=x.st.new g1;refine rJ (Tg p dd ⟨Dd,Dd⟩ (x.out w 1 Y).1) ?_ (λwhy h2 ⟨he,c2⟩=>cF he (w.gone 1 Y c2 (λ_ hb=>.inl hb)).ae);rintro _ h2 ⟨q,E,key,t,is,pv,lw,rv,lv,he,⟨ra,rn,rc,rfl,sl,fr⟩,_,o2⟩;have w:=w.own 1 Y o2;exact w.st2 0 Y Y Y Y λh3 w k3=>G3 x w 0 1 Y Y sl fr k3 (by have:=g1.id;have:=g1.size;omega) g1.ae.size he
def adr(p:P9 h0 kb sb mb c m S av A)(dd:S9 S)(hl:dr h0)(hA:∀a∈A,a.size<281474976710656)(x:As h0 h (c0 ab kb now av)):aj Tryz.prog 198 [ptr ab] h (eE h0 h ab kb now av (IC S now A)):=by
 refine f198.c ?_;intro b2 h1 g1;have w:=x.st.new g1;refine cT (i:=1) x w Y (λx=>q7 p Dd x) ?_ ?_;rotate_left
 .rintro why h2 ⟨hB,rfl⟩ c2;exact cF (uz hB) c2
 rintro _ h2 _ ⟨hb,k0,bP,rfl⟩ w;obtain⟨k9,s,rfl⟩:=qm hb;cases bP;refine cT (i:=1) x w Y (λx=>re (j:=1) p x hl Y (hA s Yy)) ?_ ?_;rotate_left
 .rintro why h3 ⟨hB,rfl⟩ c3;refine cF ?_ c3;show bY s _=_;unfold bY;rw[hB]
 rintro _ h3 _ ⟨n,hn,rfl,rfl⟩ w;have fB:∀f,bY s f=f n:=λf=>by unfold bY;rw[hn]
 refine cT (i:=1) x w Y (λx=>rf p x) ?_ ?_;rotate_left
 .rintro why h4 ⟨hB,rfl⟩ c4;exact cF ((fB _).trans (nw hB)) c4
 rintro _ h4 _ ⟨hk,p2,w2,r2,rfl⟩ w;have ht:=(dd.get k0 now).ls;have he:IC S now [k0,s]=_:=(fB _).trans (hX hk);generalize (aC S k0 now).getD aL=t at*;obtain⟨la,lc,rfl,_⟩:=(w.gG 1 Y).2.1.form;refine w.bV 1 Y Y<|dN (amf V (gC hn)) ?_;cases hp:dP t.list.length n with
 |none=>
  rw[hp]at he;exact w.st1 0 Y Y Y Y λh3 w=>iy x w 0 1 Y Y he
 |some i=>
  have fY:=DS hp;rw[hp]at he;obtain⟨b,o,rfl⟩:=(w.gG 1 Y).2.1.addr V;refine w.bV 1 Y Y<|qi (w.gG 1 Y).2.1 i Y (akU fY)<|w.aV vI λh4 w=>w.st1 0 Y Y Y Y λh5 w=>iy x w 0 1 Y Y ?_;rw[he];simp[fY,iu]
def adD(p:P9 h0 kb sb mb c m S av A)(dd:S9 S)(hl:dr h0)(hA:∀a∈A,a.size<281474976710656)(x:As h0 h (c0 ab kb now av)):aj Tryz.prog 199 [ptr ab] h (eE h0 h ab kb now av (ID S now A)):=by
 refine f199.c ?_;intro b2 h1 g1;have w:=x.st.new g1;refine cT (i:=1) x w Y (λx=>q7 p Dd x) ?_ ?_;rotate_left
 .rintro why h2 ⟨hB,rfl⟩ c2;exact cF (yB hB) c2
 rintro _ h2 _ ⟨hb,k0,bP,rfl⟩ w;obtain⟨k9,s,u,rfl⟩:=AP hb;cases bP;refine cT (i:=1) x w Y (λx=>re (j:=1) p x hl Y (hA s Yy)) ?_ ?_;rotate_left
 .rintro why h3 ⟨hB,rfl⟩ c3;refine cF ?_ c3;show bY s _=_;unfold bY;rw[hB]
 rintro _ h3 _ ⟨n,hn,rfl,rfl⟩ w;have fB:∀f,bY s f=f n:=λf=>by unfold bY;rw[hn]
 refine cT (i:=1) x w Y (λx=>re (j:=2) p x hl Y (hA u Yy)) ?_ ?_;rotate_left
 .rintro why h3 ⟨hB,rfl⟩ c3;refine cF ((fB _).trans ?_) c3;show bY u _=_;unfold bY;rw[hB]
 rintro _ h3 _ ⟨n2,nf,rfl,rfl⟩ w;have uY:∀f,bY u f=f n2:=λf=>by unfold bY;rw[nf]
 refine cT (i:=1) x w Y (λx=>rf p x) ?_ ?_;rotate_left
 .rintro why h4 ⟨hB,rfl⟩ c4;exact cF ((fB _).trans ((uY _).trans (nw hB))) c4
 rintro _ h4 _ ⟨hk,p2,w2,r2,rfl⟩ w;have ht:=(dd.get k0 now).ls;have he:ID S now [k0,s,u]=_:=(fB _).trans ((uY _).trans (hX hk));generalize (aC S k0 now).getD aL=t at*;obtain⟨la,lc,rfl,di⟩:=(w.gG 1 Y).2.1.form;refine w.bV 1 Y Y<|dN (Vf V (gC hn) (gC nf)) ?_;have eh:=Ea t.list.length n n2;refine w.bV 1 Y Y<|Ai V (Ai V (Ai V<|ub bj (w.gG 1 Y).2.1 eh.1 eh.2 λv1 bL=>?_));have oe:=bL _ (w.gG 1 Y).2.1;refine akV (Li oe Ys) ?_;rintro _ h5 ⟨⟨ra,rn,rc,rfl,ol,fr⟩,c5⟩;have hz:=w.size;have w:=w.add (e:=.o bR 4 (.slice ra rn rc) _) c5 ol fr;refine w.st1 1 Y Y Y Y λh6 w=>yS x w 1 2 0 Y Y Y (λb hb=>by have:=fr b hb;omega) ?_;rw[he];simp[fC,qs,toQ,ru];rfl
def adE(p:P9 h0 kb sb mb c m S av A)(dd:S9 S)(hl:dr h0)(hA:∀a∈A,a.size<281474976710656)(x:As h0 h (c0 ab kb now av)):aj Tryz.prog 200 [ptr ab] h (eE h0 h ab kb now av (IE S now A)):=by
 refine f200.c ?_;intro b2 h1 g1;have w:=x.st.new g1;refine cT (i:=1) x w Y (λx=>q7 p Dd x) ?_ ?_;rotate_left
 .rintro why h2 ⟨hB,rfl⟩ c2;exact cF (yB hB) c2
 rintro _ h2 _ ⟨hb,k0,bP,rfl⟩ w;obtain⟨k9,s,u,rfl⟩:=AP hb;cases bP;refine cT (i:=1) x w Y (λx=>re (j:=1) p x hl Y (hA s Yy)) ?_ ?_;rotate_left
 .rintro why h3 ⟨hB,rfl⟩ c3;refine cF ?_ c3;show bY s _=_;unfold bY;rw[hB]
 rintro _ h3 _ ⟨n,hn,rfl,rfl⟩ w;have fB:∀f,bY s f=f n:=λf=>by unfold bY;rw[hn]
 refine cT (i:=1) x w Y (λx=>rf p x) ?_ ?_;rotate_left
 .rintro why h4 ⟨hB,rfl⟩ c4;exact cF ((fB _).trans (nw hB)) c4
 rintro _ h4 _ ⟨hk,p2,w2,r2,rfl⟩ w;have ht:=(dd.get k0 now).ls;have he:IE S now [k0,s,u]=_:=(fB _).trans (hX hk);generalize (aC S k0 now).getD aL=t at*;obtain⟨la,lc,rfl,_⟩:=(w.gG 1 Y).2.1.form;refine w.bV 1 Y Y<|dN (amf V (gC hn)) ?_;cases hp:dP t.list.length n with
 |none=>
  rw[hp]at he;exact oi (cF he w.ae)
 |some i=>
  have fY:=DS hp;rw[hp]at he;refine alo λ_=>?_;obtain⟨b,o,cc,rfl⟩:=p.cz Yy;refine w.bV 1 Y Y<|p.ix (x.base w) 2 Y Y<|w.bV 1 Y Y<|cT (i:=1) x w Y (λx=>tX p ⟨11,au,au,u,i⟩ x Yy (by have:=hA k0 Yy;omega) (by show au.size<_;decide) (by have:=hA u Yy;show u.size<_;omega)) ?_ ?_;rotate_left
  .rintro why h5 ⟨hB,rfl⟩ c5;exact cF (he.trans (tQ (λhh=>hB ⟨hh.1,hh.2.1,by show au.size<=_;decide,amy hh.2.2⟩))) c5
  rintro _ h5 _ ⟨bK,lP,rfl⟩ w;exact w.st1 0 Y Y Y Y λh6 w=>iy x w 0 1 Y Y (he.trans (xC ⟨bK.1,bK.2.1,ale bK.2.2.2⟩))
def js.ak{kd:Int}{why:BA}{f:BA->List BA->aB->aM}{g:List BA->aM}(h:js S now A 2 65536 kd why)(hg:∀key l,g (key::l)=if 1<=l.length∧l.length<65536 then bX S now kd key (f key l)else .error cX)(hn:g []=.error cX):g A=.error why:=by
 match A,h with
 |[],.inl ⟨_,e⟩=>rw[hn,e]
 |[],.inr ⟨hb,_⟩=>simp at hb
 |key::l,.inl ⟨hb,e⟩=>
  rw[hg,e,akZ];intro hh;exact hb ⟨by simp;omega,by simp;omega⟩
 |key::l,.inr ⟨hb,k0,bP,hk,e⟩=>
  cases bP;simp at hb;rw[hg,e,ak4 ⟨V,V⟩,nw hk]
set_option maxHeartbeats 1000000 in
def Tj(p:P9 h0 kb sb mb c m S av A)(dd:S9 S)(hA:∀a∈A,a.size<281474976710656)(x:As h0 h (c0 ab kb now av)):aj Tryz.prog 270 [ptr ab,.int .i64 op] h (eE h0 h ab kb now av (uC S now (λkey s=>⟨op,key,au,s,0⟩) A)):=by
 refine f270.c ?_;intro b4 h1 g1;have w:=x.st.new g1;refine cT (i:=1) x w Y (λx=>alc p Dd x) ?_ ?_;rotate_left
 .rintro why h2 hB c2;exact cF (js.ak (f:=λkey l t=>makes S now key (t.list.length+l.length) (l.all small) (bO (t.list.length+l.length)) (l.map λs=>⟨op,key,au,s,0⟩)) hB (λ_ _=>rfl) Y) c2
 rintro _ h2 _ ⟨hb,k0,bP,hk,p2,w2,r2,rfl⟩ w;obtain⟨k9,l,rfl⟩:∃k0 l,A=k0::l:=by
  cases A with
  |nil=>simp at hb
  |cons k0 l=>exact⟨k0,l,Y⟩
 cases bP;have oR:1<=l.length∧l.length<65536:=by simp at hb;exact⟨V,V⟩
 have ht:=(dd.get k0 now).ls;have bP:=hA k0 Yy;have he:uC S now (λkey s=>⟨op,key,au,s,0⟩) (k0::l)=makes S now k0 (((aC S k0 now).getD aL).list.length+l.length) (l.all small) (bO (((aC S k0 now).getD aL).list.length+l.length)) (l.map λs=>⟨op,k0,au,s,0⟩):=
  (ak4 oR).trans (hX hk)
 generalize (aC S k0 now).getD aL=t at*;obtain⟨aa,ac,rfl⟩:=p.argN;obtain⟨la,lc,rfl,_⟩:=(w.gG 1 Y).2.1.form;refine w.bV 1 Y Y ?_;have nV:=(p.args _ (x.base w)).len.2;refine Ai Dd (Ai (by simp only[ak0];omega) (Ai V<|ub (lo:=1) (hi:=(k0::l).length) bj (p.args _ (x.base w)) Yy (ali _) λv1 bL=>?_));have e1:((k0::l).drop 1).take ((k0::l).length-1)=l:=Yy
 rw[e1]at bL;have aQ:∀{h'},ag [] h0 h'->SL encS h' v1 l:=λhc=>bL _ (p.args _ hc);clear bL;obtain⟨va,vc,rfl,_⟩:=(aQ (ag.refl _)).form;obtain⟨vb,vo,rfl⟩:=(aQ (ag.refl _)).addr V;have hD:∀q(hq:q<l.length),(l.map λs=>(⟨op,k0,au,s,0⟩:aA))[q]? =some {(⟨op,au,au,l[q],0⟩:aA)with key:=k0}:=λq hq=>by simp[hq]
 have mT:(l.map λs=>(⟨op,k0,au,s,0⟩:aA)).length=l.length:=alL _;have hDn:(l.map λs=>(⟨op,k0,au,s,0⟩:aA))≠[]:=λe=>by rw[e]at mT;simp at mT;omega
 generalize hDg:(l.map λs=>(⟨op,k0,au,s,0⟩:aA))=D at*;refine bA (λq:Nat×Value=>[(0,ptr ab),(1,.int .i64 op),(4,ptr b4),(13,.slice (some ⟨vb,vo,none⟩) l.length vc),(14,.int .i64 l.length),(15,.int .i64 q.1)])
  (λq h'=>(q.1<=l.length∧(0<q.1->(t.list.length+q.1:Int)<=65536∧k0.size<=1048576)∧(l.take q.1).all small=true)∧St (c0 ab kb now (.slice aa (k0::l).length ac)).fp h h' [.b b4 zR,cE ab kb now (.slice aa (k0::l).length ac) k0 t (aC S k0 now).isSome p2 (.slice la t.list.length lc) r2 q.2 (kZ S k0 now D q.1)])
  (λq=>l.length-q.1) (0,iH) J6 ⟨⟨ak8 _,λh9=>absurd h9 Yy,Y⟩,w⟩ ?_
 rintro⟨q,lv⟩ h3 ⟨⟨hq,oV,eC⟩,w⟩;have hq:q<=l.length:=hq;refine Bi (λah=>?_) λcp=>?_
 .have ah:q<l.length:=V
  obtain⟨s,hs⟩:∃s,s=l[q]:=⟨_,Y⟩
  have dU:s∈l:=by rw[hs];exact ak9 ah
  have aS:=hA s (by simp[dU]);have hD:=hD q ah;rw[<-hs]at hD;refine qi (s:=s) (aQ (x.base w)) q Y (by rw[hs];exact akU ah) ?_;refine w.bV 1 Y Y<|Ai Y (λz hz=>?_);have hz:z=(t.list.length:Int)+q:=hz.trans (cx V V);subst hz;refine Ai Y (λz hz=>?_);have hz:z=(t.list.length:Int)+q+1:=hz.trans (cx V V);subst hz;have aw:=EM (S:=S) (key:=k0) (now:=now) D q V;refine cT (i:=1) x w Y (λx=>tX (items:=(t.list.length:Int)+q+1) p ⟨op,au,au,s,0⟩ x Yo V (by show au.size<_;decide) (by show s.size<_;omega)) ?_ ?_;rotate_left
  .rintro why h5 ⟨hB,rfl⟩ c5;refine cF (he.trans (tQ ?_)) c5;rintro⟨m1,m2,m3⟩;exact hB ⟨V,m2,by show au.size<=_;decide,amy (amV.1 m3 s dU)⟩
  rintro _ h5 _ ⟨bK,lP,rfl⟩ w;rw[yu hD]at w;refine Az<|Ai Y (Ei (q+1,lP) (Ai J6 (Ai ⟨⟨ah,λ_=>⟨?_,bK.2.1⟩,?_⟩,w⟩ Yo)))
  .have:=bK.1
   push_cast
   omega
  .rw[alI ah,<-hs,aop,eC];simp[small];exact bK.2.2.2
 .have aZ:q=l.length:=V
  subst aZ;refine w.bV 1 Y Y<|w.bV 1 Y Y<|Ai Y (λz hz=>?_);have hz:z=(t.list.length:Int)+((k0::l).length:Nat):=hz.trans (cx Ys Ys);subst hz;refine Ai Y (λz hz=>?_);have hz:z=(t.list.length:Int)+l.length:=hz.trans ((cx Ys Ys).trans Ys);subst hz;refine w.aV alk λh4 w=>w.st1 0 Y Y Y Y λh5 w=>?_;have e9:kZ S k0 now D l.length=cV S k0 now++D:=by rw[<-mT];exact EL hDn
  rw[e9]at w;obtain⟨m1,m2⟩:=oV (by show 0<l.length;omega);have eC:(l.take l.length).all small=true:=eC;rw[alm]at eC;exact iy x w 0 1 Y Y (he.trans (xC ⟨m1,m2,eC⟩))
def adC(p:P9 h0 kb sb mb c m S av A)(dd:S9 S)(hA:∀a∈A,a.size<281474976710656)(x:As h0 h (c0 ab kb now av)):aj Tryz.prog 193 [ptr ab] h (eE h0 h ab kb now av (uC S now sS A)):=by
 refine f193.c ?_;intro b2 h1 g1;have w:=x.st.new g1;refine rJ (Tj p dd hA (x.out w 1 Y).1) ?_ (λwhy h2 ⟨he,c2⟩=>cF he (w.gone 1 Y c2 (λ_ hb=>.inl hb)).ae);rintro _ h2 ⟨q,E,key,t,is,pv,lw,rv,lv,he,⟨ra,rn,rc,rfl,sl,fr⟩,_,o2⟩;have w:=w.own 1 Y o2;exact w.st2 0 Y Y Y Y λh3 w k3=>G3 x w 0 1 Y Y sl fr k3 (by have:=g1.id;have:=g1.size;omega) g1.ae.size he
def afJ(p:P9 h0 kb sb mb c m S av A)(dd:S9 S)(hA:∀a∈A,a.size<281474976710656)(x:As h0 h (c0 ab kb now av)):aj Tryz.prog 194 [ptr ab] h (eE h0 h ab kb now av (uC S now ui A)):=by
 refine f194.c ?_;intro b2 h1 g1;have w:=x.st.new g1;refine rJ (Tj p dd hA (x.out w 1 Y).1) ?_ (λwhy h2 ⟨he,c2⟩=>cF he (w.gone 1 Y c2 (λ_ hb=>.inl hb)).ae);rintro _ h2 ⟨q,E,key,t,is,pv,lw,rv,lv,he,⟨ra,rn,rc,rfl,sl,fr⟩,_,o2⟩;have w:=w.own 1 Y o2;exact w.st2 0 Y Y Y Y λh3 w k3=>G3 x w 0 1 Y Y sl fr k3 (by have:=g1.id;have:=g1.size;omega) g1.ae.size he
end
end Go.Proofs.YtocgmipngoiieaaGreatDoor
namespace Go.Proofs.YtocgmipngoiieaaGreatDoor
open Go Go.Sx C
def adY{th:BA->Bool}{l:List BA}{q:Nat}(hq:q<l.length)(hb:(!th l[q]&&decide (l[q]∉l.take q))=true):(bf th [] l)[(bf th [] (l.take q)).length]? =some l[q]:=by
 have e1:=GR (th:=th) (a:=l.take (q+1)) (b:=l.drop (q+1)) (pre:=[]);rw[ama,alu hq,ak4 hb]at e1;rw[e1,alG,am1 (ali _),apa];rfl
section
variable {h0 h h1 h2 h':af}{ab kb sb mb c b1 b2 bs bt dH:Nat}{now op kd:Int}{av lv pv lw rv fv v:Value}{key why:BA}{t:aB}{is:Bool}{A l pre:List BA}{L:List aA}{m:List KI}{S:aH}{M:List En}{T:List Nat}{res:aM}{th:BA->Bool}{Z:af->Prop}
def abw(hi:gQ S):fG ((aC S key now).getD aL):=by
 cases hg:aC S key now with
 |none=>exact fG.zero 0
 |some t=>exact(hi _ (Jq hg)).good
def Hx(hi:gQ S)(hk:jm 4 (aC S key now)=true):((aC S key now).getD aL).list.Pairwise λa b=>aP a b=true:=by
 cases hg:aC S key now with
 |none=>exact List.Pairwise.nil
 |some t=>
  rw[hg]at hk;exact(hi _ (Jq hg)).good.ls (amy hk)
def js.as{f:BA->List BA->aB->aM}{g:List BA->aM}(h:js S now A 2 65536 kd why)(hg:∀key l,g (key::l)=if 1<=l.length∧l.length<65536 then bX S now kd key (f key l)else .error cX)(hn:g []=.error cX):g A=.error why:=GY h hg hn
set_option maxHeartbeats 1000000 in
def agI(p:P9 h0 kb sb mb c m S av A)(dd:S9 S)(hi:gQ S)(hA:∀a∈A,a.size<281474976710656)(x:As h0 h (c0 ab kb now av)):aj Tryz.prog 201 [ptr ab] h (eE h0 h ab kb now av (alT S now A)):=by
 refine f201.c ?_;intro b2 h1 g1;have w:=x.st.new g1;refine cT (i:=1) x w Y (λx=>alc p Dd x) ?_ ?_;rotate_left
 .rintro why h2 hB c2;exact cF (js.as (f:=λkey l t=>if bf (bF t.list) [] l=[]then .ok (bO 0,[])else makes S now key (t.list.length+(bf (bF t.list) [] l).length) ((bf (bF t.list) [] l).all small) (bO (bf (bF t.list) [] l).length) ((bf (bF t.list) [] l).map (pD key))) hB (λ_ _=>rfl) Y) c2
 rintro _ h2 _ ⟨hb,k0,bP,hk,p2,w2,r2,rfl⟩ w;obtain⟨k9,l,rfl⟩:=yJ Dd hb.1;cases bP;obtain⟨ba,oa,ac,rfl⟩:=p.cz Yy;have di:(k0::l).length=l.length+1:=rfl;have jC:1<=l.length∧l.length<65536:=⟨V,V⟩
 have htl:=(dd.get k0 now).ls;have rY:=Hx hi hk;have pO:=hA k0 Yy;have he:alT S now (k0::l)=_:=(ak4 jC).trans (hX hk);generalize (aC S k0 now).getD aL=t at*;obtain⟨la,lc,rfl,_⟩:=(w.gG 1 Y).2.1.form;obtain⟨ns,oS⟩:∃ns,ns=bf (bF t.list) [] l:=⟨_,Y⟩
 obtain⟨D,qE⟩:∃D,D=ns.map (pD k0):=⟨_,Y⟩
 have he:alT S now (k0::l)=if ns=[]then .ok (bO 0,[])else makes S now k0 (t.list.length+ns.length) (ns.all small) (bO ns.length) D:=by rw[he,qE,oS]
 have mT:D.length=ns.length:=by rw[qE];exact alL _
 have akz:ns.length<=l.length:=by rw[oS];exact oj
 refine akV FO ?_;rintro _ h5 ⟨⟨bs,dH,bt,rfl,hf,qK⟩,c5⟩;have w:=w.add (e:=iQ bs dH bt (.func (.func 276) #[ptr ab] #[]) []) c5 hf (λb hb=>qK b (by simpa[iQ,En.fp]using hb));refine w.bV 2 Y Y ?_;have nV:=(p.args _ (x.base w)).len.2;refine Ai Dd (Ai (by simp only[ak0];omega) (Ai V<|ub (lo:=1) (hi:=(k0::l).length) bj (p.args _ (x.base w)) Yy (ali _) λv1 bL=>?_));have e1:((k0::l).drop 1).take ((k0::l).length-1)=l:=Yy
 rw[e1]at bL;have aQ:∀{h'},ag [] h0 h'->SL encS h' v1 l:=λhc=>bL _ (p.args _ hc);clear bL;obtain⟨va,vc,rfl,_⟩:=(aQ (ag.refl _)).form;obtain⟨vb,vo,rfl⟩:=(aQ (ag.refl _)).addr V;refine bA (λq:Nat×Nat×Value=>[(0,ptr ab),(2,ptr b2),(3,.int .i64 q.2.1),(4,.func (.func 302) #[] #[ptr bs,ptr bt]),(16,.slice (some ⟨vb,vo,none⟩) l.length vc),(17,.int .i64 l.length),(18,.int .i64 q.1)])
  (λq h'=>(q.1<=l.length∧q.2.1=(bf (bF t.list) [] (l.take q.1)).length∧q.2.1<=ns.length∧(0<q.2.1->((t.list.length:Int)+q.2.1<=65536∧k0.size<=1048576))∧(bf (bF t.list) [] (l.take q.1)).all small=true)∧
   St (c0 ab kb now (.slice (some ⟨ba,oa,none⟩) (k0::l).length ac)).fp h h' [iQ bs dH bt (.func (.func 276) #[ptr ab] #[]) (l.take q.1),.b b2 zR,
    cE ab kb now (.slice (some ⟨ba,oa,none⟩) (k0::l).length ac) k0 t (aC S k0 now).isSome p2 (.slice la t.list.length lc) r2 q.2.2 (kZ S k0 now D q.2.1)])
  (λq=>l.length-q.1) (0,0,iH) J7 ⟨⟨ak8 _,Y,ak8 _,λh9=>absurd h9 Yy,Y⟩,w⟩ ?_
 rintro⟨q,n,lv⟩ h6 ⟨⟨hq,fh,fB,ff,dU⟩,w⟩;replace hq:q<=l.length:=hq;replace fh:n=(bf (bF t.list) [] (l.take q)).length:=fh;replace fB:n<=ns.length:=fB;replace ff:0<n->((t.list.length:Int)+n<=65536∧k0.size<=1048576):=ff;replace dU:(bf (bF t.list) [] (l.take q)).all small=true:=dU;refine Bi (λah=>?_) λcp=>?_
 .have ah:q<l.length:=V
  have ej:=alI ah;obtain⟨s,hs⟩:∃s,s=l[q]:=⟨_,Y⟩
  rw[<-hs]at ej;have acE:s∈l:=by rw[hs];exact ak9 ah
  have aS:=hA s (by simp[acE]);refine qi (s:=s) (aQ (x.base w)) q Y (by rw[hs];exact akU ah) ?_;refine w.fresh 0 2 Y Y Dd (Vr V rY) (λ_ _=>trivial) (by rw[alA];omega) λh7 w=>?_;rw[<-ej]at w;obtain⟨bb,eO⟩:∃bb,bb=(!bF t.list s&&decide (s∉l.take q)):=⟨_,Y⟩
  have ik:=alu (th:=bF t.list) ah;rw[<-hs,<-eO]at ik;have ig:=GS (th:=bF t.list) ah (b:=bb) (by rw[<-hs];exact eO);rw[<-eO];cases bb with
  |true=>
   have zc:=adY (th:=bF t.list) ah (by rw[<-hs];exact eO.symm);rw[<-hs,<-oS,<-fh]at zc;have Kq:n<ns.length:=(ak7.1 zc).1;have acF:s∈ns:=al9 zc;have hD:D[n]? =some {(⟨12,au,s,au,0⟩:aA)with key:=k0}:=by rw[qE,amB,zc];rfl
   have ig:(bf (bF t.list) [] (l.take (q+1))).length=n+1:=by rw[ig,fh];rfl
   have aw:=EM (S:=S) (key:=k0) (now:=now) D n V;have ax:ns≠[]:=λe=>by rw[e]at Kq;simp at Kq
   refine Ai Y (λz hz=>?_);have hz:=cd hz Yo Yo;subst hz;refine w.bV 2 Y Y<|Ai Y (λz hz=>?_);have hz:z=(t.list.length:Int)+(n+1:Nat):=hz.trans (cx Yo Yo);subst hz;refine cT (i:=2) x w Y (λx=>tX p ⟨12,au,s,au,0⟩ x Yo V (by show s.size<_;omega) (by show au.size<_;decide)) ?_ ?_;rotate_left
   .rintro why h8 ⟨hB,rfl⟩ c8;refine cF (he.trans ((akZ ax).trans (tQ ?_))) c8;rintro⟨m1,m2,m3⟩;exact hB ⟨V,m2,xX m3 acF,by show au.size<=_;decide⟩
   rintro _ h8 _ ⟨bK,tP,rfl⟩ w;rw[yu hD]at w;refine Ai Y (λz hz=>?_);have hz:=cd hz Yo Yo;subst hz;refine Ai Y (Ei (q+1,n+1,tP) (Ai J7 (Ai ⟨⟨ah,by rw[ig],Kq,λ_=>⟨?_,bK.2.1⟩,?_⟩,w⟩ Yo)))
   .have:=bK.1
    push_cast at this⊢
    omega
   .rw[ik,ak4 Y,aop,dU];simp[small];exact bK.2.2.1
  |false=>
   have ig:(bf (bF t.list) [] (l.take (q+1))).length=n:=by rw[ig,fh];rfl
   refine Ai Y (λz hz=>?_);have hz:=cd hz Yo Yo;subst hz;exact Ai Y (Ei (q+1,n,lv) (Ai J7 (Ai ⟨⟨ah,by rw[ig],fB,ff,by rw[ik,akZ Dd,amA];exact dU⟩,w⟩ Yo)))
 .have aZ:q=l.length:=V
  subst aZ;rw[alm,<-oS]at fh dU;refine w.aV alk λh7 w=>w.st1 1 Y Y Y Y λh8 w=>?_;subst fh;refine iy x w 1 2 Y Y ?_;by_cases ax:ns=[]
  .rw[he,ak4 ax];have hD0:D=[]:=amW (by rw[mT,ax];rfl);rw[hD0,ax];rfl
  .have qD:D≠[]:=λe=>ax (amW (by rw[<-mT,e];rfl));have iC:0<ns.length:=am8.2 ax;rw[he,akZ ax,xC ⟨(ff iC).1,(ff iC).2,dU⟩];have:=EL (S:=S) (key:=k0) (now:=now) qD;rw[mT]at this;rw[show kZ S k0 now D (l.length,ns.length,lv).2.1=cV S k0 now++D from this];rfl
def ahk(p:P9 h0 kb sb mb c m S av A)(dd:S9 S)(hi:gQ S)(x:As h0 h (c0 ab kb now av)):aj Tryz.prog 202 [ptr ab] h (eE h0 h ab kb now av (BB S now A)):=by
 refine f202.c ?_;intro b2 h2 g2;have w:=x.st.new g2;refine cT (i:=1) x w Y (λx=>alc p Dd x) ?_ ?_;rotate_left
 .rintro why h2 hB c2;exact cF (GY (f:=λkey l t=>.ok (bO (gX (bF t.list) l).length,(gX (bF t.list) l).map (Mj key))) hB (λ_ _=>rfl) Y) c2
 rintro _ h3 _ ⟨hb,k0,bP,hk,p2,w2,r2,rfl⟩ w;obtain⟨k9,l,rfl⟩:=yJ Dd hb.1;cases bP;have di:(k0::l).length=l.length+1:=rfl;have jC:1<=l.length∧l.length<65536:=⟨V,V⟩
 have htl:=(dd.get k0 now).ls;have rY:=Hx hi hk;have he:BB S now (k0::l)=_:=(show BB S now (k0::l)=if 1<=l.length∧l.length<65536 then bX S now 4 k0 (λt=>.ok (bO (gX (bF t.list) l).length,(gX (bF t.list) l).map (Mj k0)))else .error cX from Y).trans ((ak4 jC).trans (hX hk));generalize (aC S k0 now).getD aL=t at*;refine akV (Is p jC (x.out w 1 Y).1 (Vr V rY) (λ_ _=>trivial)) ?_;rintro _ h5 ⟨rfl,lP,_,o5⟩;have w:=w.own 1 Y o5;exact w.st1 0 Y Y Y Y λh6 w=>iy x w 0 1 Y Y he
def ahI{b:Bool}:aj Tryz.prog 277 [.bool b] h (ao λr h'=>r=lT 3 (if b=true then 1 else 0) au∧ag [] h h'):=by
 refine f277.c ?_;intro b1 h1 g1;have w:=(St.start h).new g1;cases b with
 |true=>
  refine w.aV alk λh2 w=>w.st1 0 Y Y Y Y λh3 w=>?_;exact⟨_,Y,akW (w.get 0 Y),Y,w.ae⟩
 |false=>
  refine w.aV alk λh2 w=>w.st1 0 Y Y Y Y λh3 w=>?_;exact⟨_,Y,akW (w.get 0 Y),Y,w.ae⟩
def ag5(p:P9 h0 kb sb mb c m S av A)(dd:S9 S)(hi:gQ S)(x:As h0 h (c0 ab kb now av)):aj Tryz.prog 203 [ptr ab] h (eE h0 h ab kb now av (Fc S now A)):=by
 refine f203.c ?_;intro b2 h1 g1;have w:=x.st.new g1;refine cT (i:=1) x w Y (λx=>alc p Dd x) ?_ ?_;rotate_left
 .rintro why h2 hB c2;exact cF (js.a2 (f:=λ_ n t=>.ok (bO (if bF t.list n=true then 1 else 0),[])) hB) c2
 rintro _ h2 _ ⟨hb,k0,bP,hk,p2,w2,r2,rfl⟩ w;obtain⟨k9,n,rfl⟩:=qm hb;cases bP;have he:Fc S now [k0,n]=_:=(show Fc S now [k0,n]=bX S now 4 k0 (λt=>.ok (bO (if bF t.list n=true then 1 else 0),[]))from Y).trans (hX hk);have htl:=(dd.get k0 now).ls;have rY:=Hx hi hk;generalize (aC S k0 now).getD aL=t at*;obtain⟨b,o,cc,rfl⟩:=p.cz Yy;exact w.bV 1 Y Y<|p.ix (x.base w) 1 Y Y<|w.aV (R6 (w.get 1 Y) V rY) λh3 w=>w.aV ahI λh4 w=>w.st1 0 Y Y Y Y λh5 w=>iy x w 0 1 Y Y he
def agS(p:P9 h0 kb sb mb c m S av A)(x:As h0 h (c0 ab kb now av)):aj Tryz.prog 204 [ptr ab] h (eE h0 h ab kb now av (Fb S now A)):=by
 refine f204.c ?_;intro b2 h1 g1;have w:=x.st.new g1;refine cT (i:=1) x w Y (λx=>alc p Dd x) ?_ ?_;rotate_left
 .rintro why h2 hB c2;exact cF (js.a1 (f:=λ_ t=>.ok (bO t.list.length,[])) hB) c2
 rintro _ h2 _ ⟨hb,k0,bP,hk,p2,w2,r2,rfl⟩ w;obtain⟨k9,rfl⟩:=jK hb;cases bP;obtain⟨la,lc,rfl,_⟩:=(w.gG 1 Y).2.1.form;refine w.bV 1 Y Y<|w.aV alk λh3 w=>w.st1 0 Y Y Y Y λh4 w=>?_;have he:Fb S now [k0]=_:=(show Fb S now [k0]=bX S now 4 k0 (λt=>.ok (bO t.list.length,[]))from Y).trans (hX hk);exact iy x w 0 1 Y Y he
def ahb(p:P9 h0 kb sb mb c m S av A)(dd:S9 S)(x:As h0 h (c0 ab kb now av)):aj Tryz.prog 205 [ptr ab] h (eE h0 h ab kb now av (Fe S now A)):=by
 refine f205.c ?_;intro b2 h1 g1;have w:=x.st.new g1;refine cT (i:=1) x w Y (λx=>alc p Dd x) ?_ ?_;rotate_left
 .rintro why h2 hB c2;exact cF (js.a1 (f:=λ_ t=>.ok (fC t.list,[])) hB) c2
 rintro _ h2 _ ⟨hb,k0,bP,hk,p2,w2,r2,rfl⟩ w;obtain⟨k9,rfl⟩:=jK hb;cases bP;have htl:=(dd.get k0 now).ls;have he:Fe S now [k0]=_:=(show Fe S now [k0]=bX S now 4 k0 (λt=>.ok (fC t.list,[]))from Y).trans (hX hk);generalize (aC S k0 now).getD aL=t at*;have oe:=(w.gG 1 Y).2.1;obtain⟨la,lc,rfl,_⟩:=oe.form;refine w.bV 1 Y Y<|akV (Li oe V) ?_;rintro _ h5 ⟨⟨ra,rn,rc,rfl,ol,fr⟩,c5⟩;have hz:=w.size;have w:=w.add (e:=.o bR 4 (.slice ra rn rc) _) c5 ol fr;refine w.st1 1 Y Y Y Y λh6 w=>yS x w 1 2 0 Y Y Y (λb hb=>by have:=fr b hb;omega) ?_;rw[he];simp[fC,qs,toQ]
end
end Go.Proofs.YtocgmipngoiieaaGreatDoor
namespace Go.Proofs.YtocgmipngoiieaaGreatDoor.K5
open Go Go.Sx Go.Proofs.YtocgmipngoiieaaGreatDoor C
def ahead(a b:aF):Bool:=decide (a.score<b.score)||(decide (a.score=b.score)&&aP a.name b.name)
def qA(n:BA):List aF->Nat->Int
 |[],_=> -1
 |r::l,i=>if r.name=n then i else qA n l (i+1)
def mE(p:aF->Nat->Bool):List aF->Nat->List aF
 |[],_=>[]
 |x::l,i=>if p x i then x::mE p l (i+1)else mE p l (i+1)
def Pc(n:BA)(l:List aF):List aF:=mE (λx _=>decide (x.name≠n)) l 0
def atR(f u:Int)(l:List aF):List aF:=mE (λ_ i=>decide (f<=i)&&decide ((i:Int)<u)) l 0
def EV(a b:Int)(l:List aF):List aF:=mE (λx _=>decide (a<=x.score)&&decide (x.score<=b)) l 0
def gH(x:aF):List aF->Nat
 |[]=>0
 |y::l=>if ahead y x then gH x l+1 else 0
def M9(x:aF):∀l,gH x l<=l.length
 |[]=>by simp[gH]
 |y::l=>by
  have:=M9 x l;simp only[gH];split<;>simp;omega
def alh(x:aF)(l:List aF):List aF:=l.take (gH x l)++x::l.drop (gH x l)
def D8(l:List aF)(x:aF):List aF:=alh x (Pc x.name l)
def D6(l:List aF)(x:aF):Bool:=decide (1048576<x.name.size)||(decide (qA x.name l 0<0)&&decide (65536<=l.length))
def o9:List aF->List aF->Option (List aF)
 |out,[]=>some out
 |out,x::l=>if 0<=qA x.name out 0 then none else o9 (if D6 out x then out else D8 out x) l
def qb(l:List aF):Int:=
 if 65536<l.length then 3 else if l.any (λx=>decide (1048576<x.name.size))then 3 else if(o9 [] l).isNone then 2 else 0
def DJ(l:List aF):List aF:=if qb l=0 then(o9 [] l).getD []else[]
def acW(x:aF)(l:List aF):(alh x l).length=l.length+1:=by
 have:=M9 x l;simp[alh];omega
def VG(x:aF):∀(l:List aF)(k:Nat),(∀j(hj:j<l.length),j<k->ahead l[j] x=true)->k<=l.length->(∀hk:k<l.length,ahead l[k] x=false)->gH x l=k
 |[],k,_,hk,_=>by simp at hk;simp[gH,hk]
 |y::l,0,_,_,h=>by
  have:=h Yy;simp at this;simp[gH,this]
 |y::l,k+1,h1,hk,h2=>by
  have hy:=h1 0 Yy V;simp at hy;simp only[gH,hy,anB];rw[VG x l k (λj hj sZ=>by have:=h1 (j+1) (by simpa using hj) V;simpa using this) (by simpa using hk) (λfZ=>by have:=h2 (by simpa using fZ);simpa using this)]
end Go.Proofs.YtocgmipngoiieaaGreatDoor.K5
set_option linter.defProp false
namespace Go.Proofs.YtocgmipngoiieaaGreatDoor.K5
open Go Go.Sx Go.Proofs.YtocgmipngoiieaaGreatDoor C
def WY{p:aF->Bool}{l:List aF}{k:Nat}(h:k<l.length)(hp:p l[k]=true):l.any p=true:=
 aog.2 ⟨l[k],ak9 h,hp⟩
def Bb(a b:aF):ahead a b=true↔a.score<b.score∨(a.score=b.score∧aP a.name b.name=true):=by simp[ahead]
def WL(a:aF):ahead a a=false:=by
 have:=qj a.name;simp[ahead,this]
def WO{a b c:aF}(h1:ahead a b=true)(h2:ahead b c=true):ahead a c=true:=by
 rw[Bb]at*;rcases h1 with h1|⟨h1,jV⟩<;>rcases h2 with h2|⟨h2,pJ⟩
 .left;omega
 .left;omega
 .left;omega
 .right;exact⟨V,mF jV pJ⟩
def WN{a b:aF}(h:a.name≠b.name):ahead a b=true∨ahead b a=true:=by
 rw[Bb,Bb];by_cases e:a.score=b.score
 .rcases Hz h with h|h
  .left;right;exact⟨e,h⟩
  .right;right;exact⟨e.symm,h⟩
 .rcases Int.lt_or_gt_of_ne e with h|h
  .left;left;exact h
  .right;left;exact h
def bT(l:List aF):Prop:=l.Pairwise λa b=>ahead a b=true
def HS{x:aF}:∀{l:List aF},bT l->∀(k:Nat)(hk:k<l.length),ahead l[k] x=true↔k<gH x l
 |[],_,k,hk=>by simp at hk
 |y::l,hs,0,hk=>by
  simp only[anv,gH];split<;>simp_all
 |y::l,hs,k+1,hk=>by
  have⟨h1,h2⟩:=amd.1 hs;have ih:=HS (x:=x) h2 k (by simpa using hk);simp only[aoc,gH];split
  .rw[ih];omega
  .rename_i hy;constructor
   .intro h;exact absurd (WO (h1 _ (ak9 _)) h) hy
   .intro h;omega
def ML{a b:List aF}:bT (a++b)↔bT a∧bT b∧∀x∈a,∀y∈b,ahead x y=true:=anb
def acY{x:aF}{l:List aF}(hs:bT l)(hn:∀y∈l,y.name≠x.name):bT (alh x l):=by
 have hl:l.take (gH x l)++l.drop (gH x l)=l:=ama ..;have eT:=hs;rw[<-hl,ML]at eT;obtain⟨h1,h2,h3⟩:=eT;have ha:∀y∈l.take (gH x l),ahead y x=true:=by
  intro y hy;obtain⟨k,hk,rfl⟩:=amS hy;have kj:k<gH x l∧k<l.length:=by simp at hk;omega
  rw[anl];exact(HS hs k kj.2).2 kj.1
 have hb:∀y∈l.drop (gH x l),ahead x y=true:=by
  intro y hy;obtain⟨k,hk,rfl⟩:=amS hy;have kj:gH x l+k<l.length:=by simp at hk;omega
  rw[List.getElem_drop];rcases WN (hn _ (ak9 kj))with h|h
  .have:=(HS hs _ kj).1 h;omega
  .exact h
 unfold alh;rw[ML];refine⟨h1,amd.2 ⟨hb,h2⟩,λy hy z hz=>?_⟩;rcases ak3.1 hz with rfl|hz
 .exact ha y hy
 .exact h3 y hy z hz
def ahY{a b:List aF}{x:aF}(hs:bT (a++x::b)):gH x (a++x::b)=a.length:=by
 refine VG x _ _ ?_ Yy ?_
 .intro j hj Qo;rw[aoM Qo];exact(ML.1 hs).2.2 _ (ak9 Qo) x Yy
 .intro hk;rw[an2 (ali _)];simp[WL]
def Names(l:List aF):Prop:=(l.map aF.name).Nodup
def UZ{p:aF->Nat->Bool}:∀{l:List aF}{i:Nat},(∀x∈l,∀j,p x j=true)->mE p l i=l
 |[],_,_=>rfl
 |x::l,i,h=>by
  simp only[mE,h x Yy i,anB];rw[UZ λy hy=>h y (by simp[hy])]
def Pd{n:BA}{l:List aF}(h:∀y∈l,y.name≠n):Pc n l=l:=
 UZ λx hx _=>by simpa using h x hx
def Jg{n:BA}:∀{l:List aF}{i:Nat},(∀y∈l,y.name≠n)->qA n l i= -1
 |[],_,_=>rfl
 |x::l,i,h=>by
  simp only[qA];rw[akZ (h x Yy),Jg λy hy=>h y (by simp[hy])]
def Pw{x:aF}:∀{a b:List aF}{i:Nat},Names (a++x::b)->qA x.name (a++x::b) i=i+a.length
 |[],b,i,_=>by simp[qA]
 |y::a,b,i,h=>by
  have h':Names (a++x::b):=(amc.1 h).2;have hy:y.name≠x.name:=λe=>(amc.1 h).1 (by rw[e];simp);simp only[amK,qA];rw[akZ hy,Pw h'];simp;omega
def acX{x:aF}{l:List aF}(hs:Names l)(hn:∀y∈l,y.name≠x.name):Names (alh x l):=by
 have hp:(alh x l).Perm (x::l):=by
  unfold alh;refine List.perm_middle.trans ?_;rw[ama]
 have:=hp.map aF.name;unfold Names;rw[this.nodup_iff];simp only[alR,amc];refine⟨λh=>?_,hs⟩;obtain⟨y,hy,e⟩:=alF.1 h;exact hn y hy e
variable{h h':af}{hh:Nat}
structure Nd where
 mb:Nat
 lb:Nat
 ht:Nat
 r:aF
def Nd.row(a:Nd):List Value:=aK a.r++[.slice (some ⟨a.lb,0,none⟩) a.ht a.ht]
structure A6 (h:af) (a:Nd):Prop where
 m:ai h a.mb a.row
 l:∃lk,ai h a.lb lk∧lk.length=2*a.ht
 pos:1<=a.ht
 top:a.ht<=16
def link(h:af)(a:Nd)(hh:Nat)(to:Value)(w:Int):Prop:=
 cell h a.lb (2*hh)=some to∧cell h a.lb (2*hh+1)=some (.int .i64 w)
def lead(h:af)(hh:Nat)(a:Nd)(i:Nat):List (Nd×Nat)->Prop
 |[]=>∃w,link h a hh (.pointer none) w
 |(b,k)::_=>link h a hh (ptr b.mb) ((k:Int)-i)
def ke(h:af)(hh:Nat):List (Nd×Nat)->Prop
 |[]=>True
 |(a,i)::l=>lead h hh a i l∧ke h hh l
def cB(hh:Nat):Nat->List Nd->List (Nd×Nat)
 |_,[]=>[]
 |k,a::l=>if hh<a.ht then(a,k)::cB hh (k+1) l else cB hh (k+1) l
def G2(hh:Nat):∀(k:Nat)(a b:List Nd),cB hh k (a++b)=cB hh k a++cB hh (k+a.length) b
 |k,[],b=>by simp[cB]
 |k,x::a,b=>by
  have ih:=G2 hh (k+1) a b;have e:k+(x::a).length=k+1+a.length:=by simp;omega
  simp only[amK,cB,ih,e];split<;>simp
def rj{hh:Nat}:∀{k:Nat}{l:List Nd}{a:Nd}{i:Nat},(a,i)∈cB hh k l->hh<a.ht∧k<=i∧l[i-k]? =some a
 |k,[],a,i,h=>by simp[cB]at h
 |k,x::l,a,i,h=>by
  simp only[cB]at h;have key:(a,i)∈cB hh (k+1) l->hh<a.ht∧k<=i∧(x::l)[i-k]? =some a:=by
   intro h;obtain⟨h1,h2,h3⟩:=rj h;refine⟨h1,V,?_⟩;have e:i-k=(i-(k+1))+1:=V
   rw[e];simpa using h3
  split at h
  .rename_i hx;rcases ak3.1 h with h|h
   .cases h;simp[hx]
   .exact key h
  .exact key h
def GN{hh:Nat}:∀{k:Nat}{l:List Nd}{a:Nd}{i:Nat},hh<a.ht->l[i]? =some a->(a,k+i)∈cB hh k l
 |k,[],a,i,_,h=>by simp at h
 |k,x::l,a,0,ki,h=>by
  simp at h;subst h;simp[cB,ki]
 |k,x::l,a,i+1,ki,h=>by
  have ih:=GN (k:=k+1) ki (show l[i]? =some a by simpa using h);have e:k+(i+1)=k+1+i:=V
  simp only[cB,e];split
  .exact alr _ ih
  .exact ih
def aep{ki:Nat}(hl:ki<=hh){k:Nat}{l:List Nd}{a:Nd}{i:Nat}(h:(a,i)∈cB hh k l):(a,i)∈cB ki k l:=by
 obtain⟨h1,h2,h3⟩:=rj h;have:=GN (hh:=ki) (k:=k) V h3;have e:k+(i-k)=i:=V
 rw[e]at this;exact this
def LX{hh:Nat}:∀{k:Nat}{l:List Nd},(cB hh k l).Pairwise λx y=>x.2<y.2
 |k,[]=>by simp[cB]
 |k,x::l=>by
  have ih:=@LX hh (k+1) l;simp only[cB];split
  .refine amd.2 ⟨λy hy=>?_,ih⟩;have:=(rj (a:=y.1) (i:=y.2) hy).2.1;simp only;omega
  .exact ih
def yo(h:af)(hh:Nat):List (Nd×Nat)->(Nd×Nat)->Prop
 |[],_=>True
 |(a,i)::l,y=>lead h hh a i (l++[y])∧yo h hh l y
def adl{a:Nd}{i:Nat}{l:List (Nd×Nat)}{y:Nd×Nat}{r:List (Nd×Nat)}:lead h hh a i (l++y::r)↔lead h hh a i (l++[y]):=by
 cases l<;>obtain⟨b,k⟩:=y<;>simp[lead]
def xx{h:af}{hh:Nat}{y:Nd×Nat}{r:List (Nd×Nat)}:∀{l:List (Nd×Nat)},ke h hh (l++y::r)↔yo h hh l y∧ke h hh (y::r)
 |[]=>by simp[yo]
 |(a,i)::l=>by
  have ih:=@xx h hh y r l;simp only[amK,ke,yo,ih,adl,and_assoc]
def RJ{a:Nd}(e:∀o,o=2*hh∨o=2*hh+1->cell h' a.lb o=cell h a.lb o){to:Value}{w:Int}(hl:link h a hh to w):link h' a hh to w:=
 ⟨by rw[e _ (Or.inl Y)];exact hl.1,by rw[e _ (Or.inr Y)];exact hl.2⟩
def RC{a:Nd}{i:Nat}{l:List (Nd×Nat)}(e:∀o,o=2*hh∨o=2*hh+1->cell h' a.lb o=cell h a.lb o)(hl:lead h hh a i l):lead h' hh a i l:=by
 cases l with
 |nil=>obtain⟨w,hw⟩:=hl;exact⟨w,RJ e hw⟩
 |cons y l=>obtain⟨b,k⟩:=y;exact RJ e hl
def zW{h h':af}{hh:Nat}:∀{l:List (Nd×Nat)},(∀x∈l,∀o,o=2*hh∨o=2*hh+1->cell h' x.1.lb o=cell h x.1.lb o)->ke h hh l->ke h' hh l
 |[],_,_=>trivial
 |(a,i)::l,e,hl=>⟨RC (e (a,i) Yy) hl.1,zW (λx hx=>e x (by simp[hx])) hl.2⟩
def MB{h h':af}{hh:Nat}{y:Nd×Nat}:∀{l:List (Nd×Nat)},(∀x∈l,∀o,o=2*hh∨o=2*hh+1->cell h' x.1.lb o=cell h x.1.lb o)->yo h hh l y->yo h' hh l y
 |[],_,_=>trivial
 |(a,i)::l,e,hl=>⟨RC (e (a,i) Yy) hl.1,MB (λx hx=>e x (by simp[hx])) hl.2⟩
def nI(l:List (Nd×Nat)):List (Nd×Nat):=l.map λx=>(x.1,x.2+1)
def SR(hh:Nat):∀(k:Nat)(l:List Nd),cB hh (k+1) l=nI (cB hh k l)
 |k,[]=>rfl
 |k,x::l=>by
  have ih:=SR hh (k+1) l;simp only[cB,ih];split<;>simp[nI]
def adn{h:af}{hh:Nat}{a:Nd}{i:Nat}{l:List (Nd×Nat)}:lead h hh a (i+1) (nI l)↔lead h hh a i l:=by
 cases l with
 |nil=>simp[nI,lead]
 |cons y l=>
  obtain⟨b,k⟩:=y;have e:((k+1:Nat):Int)-((i+1:Nat):Int)=k-i:=V
  simp only[nI,alR,lead,e]
def Lo{h:af}{hh:Nat}:∀{l:List (Nd×Nat)},ke h hh (nI l)↔ke h hh l
 |[]=>by simp[nI]
 |(a,i)::l=>by
  have ih:=@Lo h hh l;have h1:=@adn h hh a i l;have e:nI ((a,i)::l)=(a,i+1)::nI l:=rfl;rw[e];simp only[ke,ih,h1]
def jP(hh:Nat)(A:List Nd)(p:Nd)(i:Nat):Prop:=∃l,cB hh 0 A=l++[(p,i)]
def jP.mem{A:List Nd}{p:Nd}{i:Nat}(hl:jP hh A p i):(p,i)∈cB hh 0 A:=by
 obtain⟨l,e⟩:=hl;rw[e];simp
def jP.get{A:List Nd}{p:Nd}{i:Nat}(hl:jP hh A p i):hh<p.ht∧A[i]? =some p:=by
 obtain⟨h1,_,h3⟩:=rj hl.mem;exact⟨h1,by simpa using h3⟩
def adZ{A B:List Nd}(hL:ke h hh (cB hh 0 (A++B))){a:Nd}{i:Nat}(ha:(a,i)∈cB hh 0 A):((∃w,link h a hh (.pointer none) w)∧jP hh A a i)∨
  (∃(b:Nd)(k:Nat),link h a hh (ptr b.mb) ((k:Int)-i)∧i<k∧k<A.length∧(b,k)∈cB hh 0 A)∨
  (∃(b:Nd)(k:Nat),link h a hh (ptr b.mb) ((k:Int)-i)∧A.length<=k∧(A++B)[k]? =some b∧jP hh A a i):=by
 obtain⟨l,r,e⟩:=an7 ha;have QX:=@LX hh 0 A;rw[G2,e,alG,amK,xx]at hL;have hl:=hL.2.1;cases r with
 |cons y r=>
  obtain⟨b,k⟩:=y;right;left;have hm:(b,k)∈cB hh 0 A:=by rw[e];simp
  obtain⟨h1,_,h3⟩:=rj hm;refine⟨b,k,hl,?_,?_,hm⟩
  .rw[e,anb]at QX;exact(amd.1 QX.2.1).1 (b,k) Yy
  .have:=(ak7.1 h3).1;omega
 |nil=>
  have ee:jP hh A a i:=⟨l,e⟩
  cases hB:cB hh (0+A.length) B with
  |nil=>rw[hB]at hl;exact Or.inl ⟨hl,ee⟩
  |cons y r=>
   obtain⟨b,k⟩:=y;rw[hB]at hl;right;right;obtain⟨h1,h2,h3⟩:=rj (show(b,k)∈cB hh (0+A.length) B by rw[hB];simp);refine⟨b,k,hl,V,?_,ee⟩;rw[am1 V];simpa using h3
end Go.Proofs.YtocgmipngoiieaaGreatDoor.K5
namespace Go.Proofs.YtocgmipngoiieaaGreatDoor.K5
open Go Go.Sx Go.Proofs.YtocgmipngoiieaaGreatDoor C
def A6.ext{h h':af}{a:Nd}(hn:A6 h a)(hc:ag [] h h'):A6 h' a:=
 ⟨hn.m.ae hc Yy,let⟨lk,h1,h2⟩:=hn.l;⟨lk,h1.ae hc Yy,h2⟩,hn.pos,hn.top⟩
structure RD (h:af) (rb bE:Nat) (N:List Nd):Prop where
 r:∃hd mem,N=hd::mem∧hd.ht=16∧ai h rb [ptr hd.mb,.map (some bE)]
 ok:∀a∈N,A6 h a
 lv:∀hh<16,ke h hh (cB hh 0 N)
 len:N.length<=65537
def GM{hh k i:Nat}{N:List Nd}{a:Nd}(h:(a,i)∈cB hh k N):a∈N:=
 al9 (rj h).2.2
def adk{h h':af}{a:Nd}(hn:A6 h a)(hc:ag [] h h')(o:Nat):cell h' a.lb o=cell h a.lb o:=by
 obtain⟨lk,h1,_⟩:=hn.l;unfold cell;rw[hc.old a.lb h1.lt Yy]
def RD.ext{h h':af}{rb bE:Nat}{N:List Nd}(rd:RD h rb bE N)(hc:ag [] h h'):RD h' rb bE N where
 r:=let⟨hd,mem,h1,h2,h3⟩:=rd.r;⟨hd,mem,h1,h2,h3.ae hc Yy⟩
 ok a ha:=(rd.ok a ha).ext hc
 lv hh h1:=zW (λx hx o _=>adk (rd.ok x.1 (GM (i:=x.2) hx)) hc o) (rd.lv hh h1)
 len:=rd.len
def Wk(h:af)(pb:Nat)(A:List Nd):Prop:=
 ∃pl,ai h pb pl∧∀hh<16,∃p i,jP hh A p i∧pl[hh]? =some (ptr p.mb)∧pl[16+hh]? =some (.int .i64 i)
def Er(fi cap:Array Value)(f:Nat)(h:af)(N:List Nd)(K:Nat):Prop:=
 ∀h' k a,ag [] h h'->N[k]? =some a->1<=k->aj Tryz.prog f (fi.toList++[.agg ⟨aK a.r⟩,.int .i64 ((k:Int)-1)]++cap.toList) h' (ao λu bq=>u=.bool (decide (k<K))∧ag [] h' bq)
def YB{Q:de}{h h1:af}{rb bE f:Nat}{fi cap:Array Value}{N A B:List Nd}(rd:RD h rb bE N)(hN:N=A++B)(hP:Er fi cap f h N A.length)(bd:ag [] h h1){hh:Nat}(ab4:hh<16){pb:Nat}{pl:List Value}(hpb:ai h1 pb pl)(pS:pl.length=32)(CT:h.size<=pb){σ:Env}{a:Nd}{i:Nat}(hσ:fN σ [(1,.func (.func f) fi cap),(5,ptr pb),(6,ptr a.mb),(7,.int .i64 i),(8,.int .i64 hh)])(ha:(a,i)∈cB hh 0 A)(hQ:∀(σ':Env)(a':Nd)(i':Nat)(h':af),fN σ' [(1,.func (.func f) fi cap),(5,ptr pb),(6,ptr a'.mb),(7,.int .i64 i'),(8,.int .i64 hh)]->jP hh A a' i'->ag [] h h'->
   ai h' pb (splice (splice pl hh [ptr a'.mb]) (16+hh) [.int .i64 i'])->Q .normal σ' [] h'):
  swp Tryz.prog f313.sc.r.r.r.l.r.l.l.r.l.l Q σ [] h1:=by
 have hlen:=rd.len;refine bA (λx:Nd×Nat=>[(1,.func (.func f) fi cap),(5,ptr pb),(6,ptr x.1.mb),(7,.int .i64 x.2),(8,.int .i64 hh)])
  (λx h'=>x∈cB hh 0 A∧ag [] h h'∧ai h' pb pl) (λx=>A.length-x.2) (a,i) hσ ⟨ha,bd,hpb⟩ ?_
 rintro⟨b,k⟩ h2 ⟨hb,aO,Ku⟩;have Mi:=rd.ext aO;have hbA:=rj hb;have ze:b∈N:=by rw[hN];exact amC _ (GM hb)
 have ok:=Mi.ok b ze;have hk:k<A.length:=by have:=(ak7.1 hbA.2.2).1;omega
 have akm:A.length<=N.length:=by rw[hN];simp
 have CR:=Mi.lv hh ab4;rw[hN]at CR;have Kn:=adZ CR hb
 -- leaving
 have fin:∀(σ':Env)(h3:af),jP hh A b k->ag [] h2 h3->fN σ' [(1,.func (.func f) fi cap),(5,ptr pb),(6,ptr b.mb),(7,.int .i64 k),(8,.int .i64 hh)]->
   ∀h4 h5,dL h3 h4 pb (splice pl (0+0+hh*1) [ptr b.mb])->dL h4 h5 pb (splice (splice pl (0+0+hh*1) [ptr b.mb]) (0+16+hh*1) [.int .i64 k])->Q .normal σ' [] h5:=by
  intro σ' h3 ee bB hs h4 h5 p4 p5;have e1:0+0+hh*1=hh:=V
  have e2:0+16+hh*1=16+hh:=V
  rw[e1]at p4 p5;rw[e2]at p5;have hc0:ag [] h h3:=aO.nil bB;refine hQ σ' b k h5 hs ee ?_ p5.blk;exact(hc0.fresh p4.ae (by simp;exact CT)).fresh p5.ae (by simp;exact CT)
 refine Ei _ (Ai (an ok.m Y)<|Ai V (Ai V ?_));have go:∀(to:Value)(w:Int),link h2 b hh to w->cell h2 b.lb (0+hh*2)=some to∧cell h2 b.lb (0+hh*2+1)=some (.int .i64 w):=by
  intro to w hl;have e:0+hh*2=2*hh:=V
  rw[e];exact hl
 have cs:∀(to:Value)(w:Int),link h2 b hh to w->fF h2 b.lb (0+hh*2) [to,.int .i64 w]:=by
  intro to w hl j v hj;obtain⟨h1,h2⟩:=go to w hl
  match j,hj with
  |0,hj=>simp at hj;subst hj;exact h1
  |1,hj=>simp at hj;subst hj;exact h2
 obtain⟨to,w,hl,eB,JS⟩:∃to w,link h2 b hh to w∧to.oneCell'=true∧((to=.pointer none∧jP hh A b k)∨(∃(c:Nd)(k':Nat),to=ptr c.mb∧w=(k':Int)-k∧k<k'∧N[k']? =some c∧
   ((k'<A.length∧(c,k')∈cB hh 0 A)∨(A.length<=k'∧jP hh A b k)))):=by
  rcases Kn with⟨⟨w,hw⟩,ee⟩|⟨c,k',hw,dk,wO,hc⟩|⟨c,k',hw,wO,Cq,ee⟩
  .exact⟨_,w,hw,Y,Or.inl ⟨Y,ee⟩⟩
  .refine⟨_,_,hw,Y,Or.inr ⟨c,k',Y,Y,dk,?_,Or.inl ⟨wO,hc⟩⟩⟩;have:=(rj hc).2.2;rw[hN,amM wO];simpa using this
  .exact⟨_,_,hw,Y,Or.inr ⟨c,k',Y,Y,V,by rw[hN];exact Cq,Or.inr ⟨wO,ee⟩⟩⟩
 refine Ei [to,.int .i64 w] (Ai Y (Ai (cs _ _ hl) ?_));intro b9 h3 g3;refine Ei _ (Ai g3.blk (Ai Dd (Ai Y (Ai (DK eB Y) ?_))));intro h4 p4;have g4:=g3.put p4;have B4:ai h4 b9 [to,.int .i64 w]:=p4.blk;have aco:=Ku.ae g4.ae Yy;refine Ei _ (Ai (an B4 Y) ?_);rcases JS with⟨rfl,ee⟩|⟨c,k',rfl,rfl,dk,Cq,JS⟩
 ·-- nobody behind
  refine Ai V (Ai V<|Ei _ (Ai aco (Ai V (Ai Y (Ai (cM Y) ?_)))));intro h5 p5;refine Ai V (Ai V<|Ei _ (Ai p5.blk (Ai (by rw[ry];omega) (Ai Y (Ai (cM Y) ?_)))));intro h6 p6;exact fin _ h4 ee g4.ae ⟨Y,Y,Y,Y,Y,trivial⟩ h5 h6 p5 p6
 .refine Ei _ (Ai (an B4 Y) ?_);have rd4:=Mi.ext g4.ae;have okc:=rd4.ok c (al9 Cq);refine Ei (aK c.r) (Ai Y (Ai (BF (l:=c.row) okc.m ?_) ?_))
  .intro j v hj;rw[amJ];unfold Nd.row;rw[amM (ak7.1 hj).1];exact hj
  refine Ei _ (Ai (an B4 Y) ?_);have hkN:k'<N.length:=(ak7.1 Cq).1;refine Ai Y (λz hz=>?_);have hz:=cd hz V V;have hz:z=k':=V
  subst hz;refine Ai Y (λz hz=>?_);have hz:=mG hz V V;subst hz;refine akV (hP h4 k' c (aO.nil g4.ae) Cq V) ?_;rintro _ h5 ⟨rfl,dY⟩;have F1:ag [] h2 h5:=g4.ae.nil dY;rcases JS with⟨wO,hcA⟩|⟨wO,ee⟩
  .rw[ale wO];have B5:=B4.ae dY Yy;refine Ei _ (Ai (an B5 Y)<|Ei _ (Ai (an B5 Y)<|Ai Y (λz hz=>?_)));have hz:=cd hz V V;have hz:z=k':=V
   subst hz;refine Ai Y (Ei (c,k') (Ai ?_ (Ai ?_ ?_)))
   .exact⟨Y,Y,Y,Y,Y,trivial⟩
   .exact⟨hcA,aO.nil F1,Ku.ae F1 Yy⟩
   .simp only;omega
  .rw[alg V];have acp:=Ku.ae F1 Yy;refine Ai V (Ai V<|Ei _ (Ai acp (Ai V (Ai Y (Ai (cM Y) ?_)))));intro h6 p6;refine Ai V (Ai V<|Ei _ (Ai p6.blk (Ai (by rw[ry];omega) (Ai Y (Ai (cM Y) ?_)))));intro h7 p7;exact fin _ h5 ee F1 ⟨Y,Y,Y,Y,Y,trivial⟩ h6 h7 p6 p7
theorem I9 {h:af} {rb bE f:Nat} {fi cap:Array Value} {N A B:List Nd} (rd:RD h rb bE N) (hN:N=A++B) (hA:A≠[]) (hP:Er fi cap f h N A.length):
  aj Tryz.prog 313 [ptr rb,.func (.func f) fi cap] h (ao fun u h'=>∃pb,u=ptr pb∧h.size≤pb∧Wk h' pb A∧ag [] h h'):=by
 obtain⟨hd,mem,Ck,hht,jZ⟩:=rd.r
 have FU:A[0]? =some hd:=by
  cases A with
  |nil=>exact absurd rfl hA
  |cons x A=>rw[Ck]at hN;simp at hN;simp[hN.1]
 refine f313.c ?_
 intro pb h1 g1
 have acw:=jZ.ae g1.ae (by simp)
 refine Ei _ (Ai (an acw rfl) ?_)
 refine bA (fun x:Nat×Nd×Nat=>[(1,.func (.func f) fi cap),(5,ptr pb),(6,ptr x.2.1.mb),(7,.int .i64 x.2.2),(8,.int .i64 ((x.1:Int)-1))])
  (fun x h'=>x.1≤16∧ag [] h h'∧(∀hh<x.1,(x.2.1,x.2.2)∈cB hh 0 A)∧∃pl,ai h' pb pl∧pl.length=32∧∀hh,x.1≤hh→hh<16→∃p i,jP hh A p i∧pl[hh]? =some (ptr p.mb)∧pl[16+hh]? =some (.int .i64 i))
  (fun x=>x.1) (16,hd,0) ⟨rfl,rfl,rfl,rfl,rfl,trivial⟩ ⟨Nat.le_refl _,g1.ae,?_,_,g1.blk,rfl,fun hh h1 h2=>by omega⟩ ?_
 ·intro hh ah
  have:=GN (hh:=hh) (k:=0) (a:=hd) (by simp only at ah;omega) FU
  simpa using this
 rintro⟨n,a,i⟩ h2 ⟨hn,aO,dF,pl,hpb,pS,Cw⟩
 simp only at hn dF Cw
 refine Ai rfl (Ai (fun ht=>?_) (fun ht=>?_))
 ·obtain⟨hh,rfl⟩:∃hh,n=hh+1:=⟨n-1,by omega⟩
  have e:(((hh+1:Nat):Int)-1)=hh:=by omega
  refine YB rd hN hP aO (hh:=hh) (by omega) hpb pS (by rw[g1.id];exact Nat.le_refl _) (a:=a) (i:=i) ?_ (dF hh (by omega)) ?_
  ·refine⟨rfl,rfl,rfl,rfl,?_,trivial⟩
   show some (Value.int .i64 (((hh+1:Nat):Int)-1))=_
   rw[e]
  intro σ' a' i' h3 hσ ee bB acn
  obtain⟨s1,s5,s6,s7,s8,_⟩:=hσ
  have nj:Sub (mk [(1,.func (.func f) fi cap),(5,ptr pb),(6,ptr a'.mb),(7,.int .i64 i'),(8,.int .i64 hh)]) σ':=uh ⟨s1,s5,s6,s7,s8,trivial⟩
  refine vF (P:=Tryz.prog) (Qp:=fun _ _=>False) (fun ch h hf=>hf.elim)
   (K:=fun σ1 h4=>fN σ1 [(1,.func (.func f) fi cap),(5,ptr pb),(6,ptr a'.mb),(7,.int .i64 i'),(8,.int .i64 ((hh:Int)-1))]∧h4=h3) ?_ Z3 _ _ _ nj ?_
  ·rintro σ1 σ2 h4 cO ⟨gB,rfl⟩
   have eT:=gB.sub cO
   refine Ai rfl (Ei (hh,a',i') (Ai eT (Ai ?_ ?_)))
   ·refine⟨by simp only;omega,bB,fun ki ah=>aep (by simp only at ah;omega) ee.mem,_,acn,by simp only[ry];exact pS,fun ki h1 h2=>?_⟩
    simp only at h1
    by_cases e:ki=hh
    ·subst e
     refine⟨a',i',ee,?_,?_⟩
     ·rw[su _ _ _ (by rw[ry];simp;omega),if_neg (by simp;omega),su _ _ _ (by simp;omega),if_pos (by simp)];simp
     ·rw[su _ _ _ (by rw[ry];simp;omega),if_pos (by simp)];simp
    ·obtain⟨p,j,h3,h4,h5⟩:=Cw ki (by omega) h2
     refine⟨p,j,h3,?_,?_⟩
     ·rw[su _ _ _ (by rw[ry];simp;omega),if_neg (by simp;omega),su _ _ _ (by simp;omega),if_neg (by simp;omega)];exact h4
     ·rw[su _ _ _ (by rw[ry];simp;omega),if_neg (by simp;omega),su _ _ _ (by simp;omega),if_neg (by simp;omega)];exact h5
   ·simp only;omega
  ·refine Ai rfl (fun z hz=>?_)
   have hz:=mG hz (by omega) (by omega)
   subst hz
   exact⟨⟨rfl,rfl,rfl,rfl,rfl,trivial⟩,rfl⟩
 ·have h0:n=0:=by omega
  subst h0
  refine⟨pb,rfl,by rw[g1.id];exact Nat.le_refl _,⟨pl,hpb,fun hh ah=>Cw hh (by omega) ah⟩,aO⟩
def RI{h:af}(x:aF):aj Tryz.prog 314 [.agg ⟨aK x⟩] h (ao λu h'=>∃b,u=.func (.func 326) #[] #[ptr b]∧h.size<=b∧ai h' b (aK x)∧ag [] h h'):=by
 refine f314.c ?_;intro b h1 g1;exact⟨b,Y,by rw[g1.id];exact ali _,g1.blk,g1.ae⟩
def adp{h:af}{b:Nat}{x:aF}(B:ai h b (aK x))(y:aF)(v:Value):aj Tryz.prog 326 [.agg ⟨aK y⟩,v,ptr b] h (ao λu h'=>u=.bool (ahead y x)∧ag [] h h'):=by
 refine f326.c ?_;intro b1 h1 g1;have B1:ai h1 b1 (aK y):=g1.blk;have B2:ai h1 b (aK x):=B.ae g1.ae Yy;have hc:=g1.ae;refine Ei _ (Ai (an B1 Y) (Ei _ (Ai (an B2 Y)<|Bi (λht=>?_) λht=>?_)))
 .have e:ahead y x=true:=by simp[ahead,ht]
  refine Ai ?_ hc;rw[e];rfl
 .refine Ei _ (Ai (an B1 Y) (Ei _ (Ai (an B2 Y)<|Bi (λhe=>?_) λhe=>?_)))
  .refine Ei _ (Ai (an B1 Y) (Ei _ (Ai (an B2 Y)<|Ai (λhl=>?_) (λhl=>?_))))
   .have e:ahead y x=true:=by simp[ahead,he,hl]
    exact Ai (by rw[e];rfl) hc
   .have e:ahead y x=false:=by simp[ahead,he,hl]
    exact Ai (by rw[e];rfl) hc
  .have e:ahead y x=false:=by simp[ahead,ht,he]
   exact Ai (by rw[e];rfl) hc
def pf(N:List Nd):List aF:=N.tail.map Nd.r
def RH{h:af}{b:Nat}{x:aF}(B:ai h b (aK x)){N:List Nd}(hs:bT (pf N)):Er #[] #[ptr b] 326 h N (gH x (pf N)+1):=by
 intro h' k a hc hk iC;obtain⟨j,rfl⟩:∃j,k=j+1:=⟨k-1,V⟩
 have hj:(pf N)[j]? =some a.r:=by
  cases N with
  |nil=>simp at hk
  |cons y N=>simp at hk;simp[pf,hk]
 obtain⟨ah,he⟩:=ak7.1 hj;have Ql:=HS (x:=x) hs j ah;rw[he]at Ql;refine ao.mono (adp (B.ae hc Yy) a.r _) ?_;rintro _ bq ⟨rfl,pM⟩;refine⟨?_,pM⟩;congr 1;rw[aoT,Ql];simp
def fw(h:af):Prop:=∀i<64,∃v:Int,0<=v∧v<=255∧cell h 3 i=some (.int .u8 v)
def wrap_u64(x:Int):0<=IntKind.u64.wrap x∧IntKind.u64.wrap x<18446744073709551616:=by
 have e:IntKind.u64.wrap x=x%18446744073709551616:=by
  simp[IntKind.wrap,IntKind.bits,IntKind.signed]
 rw[e];omega
def WV{a z:Int}(hz:z=Bj .and .i64 a 1):0<=z∧z<=1:=by
 have hb:((BitVec.ofInt IntKind.i64.bits a)&&&(BitVec.ofInt IntKind.i64.bits 1)).toNat<=1:=by
  rw[BitVec.toNat_and];exact al6 Nat.and_le_right Dd
 have:z=IntKind.i64.wrap (((BitVec.ofInt IntKind.i64.bits a)&&&(BitVec.ofInt IntKind.i64.bits 1)).toNat:Nat):=hz;rw[cx V V]at this;omega
def ahL{h:af}(ht:fw h)(v:Int):aj Tryz.prog 299 [.int .u64 v] h (ao λu h'=>(∃z:Int,u=.int .i64 z∧0<=z∧z<=255)∧h'=h):=by
 refine f299.c<|Bi (λhe=>?_) λhe=>?_
 .exact⟨⟨64,Y,Dd,Dd⟩,Y⟩
 .intro n hn;refine Ai Y (λb hb=>Ai Y (λm hm=>Ai Y (λs hs=>?_)));have nc:0<=m∧m<18446744073709551616:=by rw[hm];exact wrap_u64 _
  have eT:s=m/288230376151711744:=by
   have:s=m.fdiv (2 ^ 58):=hs;rw[this,anp _ Dd];rfl
  have h0:0<=s:=V
  have h1:s<64:=V
  obtain⟨v,v0,v1,hv⟩:=ht s.toNat V;have e:0+s.toNat*1=s.toNat:=V
  refine Ai h0 (Ai h1 (Ei _ (Ai (by rw[e];exact hv) ?_)));intro z hz;rw[cx V V]at hz;exact⟨⟨z,Y,V,V⟩,Y⟩
def ahM{h:af}(ht:fw h)(v:Int):aj Tryz.prog 232 [.int .u64 v] h (ao λu h'=>(∃z:Int,u=.int .i64 z∧0<=z∧z<=255)∧h'=h):=by
 refine f232.c<|akV (ahL ht v) ?_;rintro _ h' ⟨⟨z,rfl,h0,h1⟩,rfl⟩;exact⟨⟨z,Y,h0,h1⟩,Y⟩
def q9{h:af}{rb hb:Nat}{m:Value}(hr:ai h rb [ptr hb,m]):aj Tryz.prog 312 [ptr rb] h (ao λu h'=>u=.bool false∧h'=h):=by
 refine f312.c<|Ei _ (Ai (an hr Y) ?_);exact⟨Y,Y⟩
def IL{h h':af}{b o:Nat}{l vs:List Value}(hl:o+vs.length<=l.length)(B:ai h b l)(p:dL h h' b (splice l o vs))(b' o':Nat):cell h' b' o'=if b'=b∧o<=o'∧o'<o+vs.length then vs[o'-o]? else cell h b' o':=by
 by_cases hb:b'=b
 .subst hb;obtain⟨e,he⟩:=p.blk;obtain⟨e0,Cx⟩:=B;have h1:cell h' b' o'=(splice l o vs)[o']? :=by simp[cell,he]
  have h2:cell h b' o'=l[o']? :=by simp[cell,Cx]
  rw[h1,h2,su l o vs hl o'];simp
 .rw[akZ (by intro h;exact hb h.1)];unfold cell;rw[p.old b' hb]
def NI(h h':af)(b b' o:Nat)(d:Int):Prop:=
 ∃w w',cell h b o=some (.int .i64 w)∧cell h' b' o=some (.int .i64 w')∧(-70000<=w->w<=70000->w'=w+d)
def xv(L:List (Nd×Nat)):List Nat:=L.map λx=>x.1.lb
def RA{l r:List (Nd×Nat)}{y:Nd×Nat}(nd:(xv (l++y::r)).Nodup):(∀x∈l,x.1.lb≠y.1.lb)∧∀x∈r,x.1.lb≠y.1.lb:=by
 simp only[xv,alD,alR,amN,amc]at nd;obtain⟨_,⟨h1,_⟩,h2⟩:=nd;refine⟨λx hx=>?_,λx hx e=>?_⟩
 .exact h2 x.1.lb (als (f:=λx:Nd×Nat=>x.1.lb) hx) y.1.lb Yy
 .exact h1 (by rw[<-e];exact als (f:=λx:Nd×Nat=>x.1.lb) hx)
variable {h h':af}{hh:Nat}{l r:List (Nd×Nat)}{p x:Nd}{i K:Nat}
def adH(hL:ke h hh (l++(p,i)::r))(nd:(xv (l++(p,i)::r)).Nodup)(hk:∀y∈l++(p,i)::r,y.2<=65537)(keep:∀b o,b≠p.lb->cell h' b o=cell h b o)(k0:cell h' p.lb (2*hh)=cell h p.lb (2*hh))(k1:NI h h' p.lb p.lb (2*hh+1) 1):ke h' hh (l++(p,i)::nI r):=by
 obtain⟨n1,n2⟩:=RA nd;obtain⟨hs,hl,hr⟩:=xx.1 hL;rw[xx];refine⟨MB (λy hy o _=>keep _ _ (n1 y hy)) hs,?_,Lo.2 (zW (λy hy o _=>keep _ _ (n2 y hy)) hr)⟩;obtain⟨w,w',e1,e2,e3⟩:=k1;cases r with
 |nil=>
  obtain⟨w0,hw⟩:=hl;exact⟨w',by rw[k0];exact hw.1,e2⟩
 |cons y r=>
  obtain⟨b,k⟩:=y;refine⟨by rw[k0];exact hl.1,?_⟩;have hw:=hl.2;rw[e1]at hw;simp at hw;have h1:=hk (b,k) Yy;have h2:=hk (p,i) Yy;simp only at h1 h2;rw[e2,e3 V V,hw];congr 2
  push_cast
  omega
def adG(hL:ke h hh (l++(p,i)::r))(nd:(xv (l++(p,i)::r)).Nodup)(hx:x.lb∉xv (l++(p,i)::r))(hk:∀y∈l++(p,i)::r,y.2<=65537)(keep:∀b o,b≠p.lb->b≠x.lb->cell h' b o=cell h b o)(p0:cell h' p.lb (2*hh)=some (ptr x.mb))(p1:cell h' p.lb (2*hh+1)=some (.int .i64 ((K:Int)-i)))(x0:cell h' x.lb (2*hh)=cell h p.lb (2*hh))(x1:NI h h' p.lb x.lb (2*hh+1) (i+1-(K:Int))):ke h' hh (l++(p,i)::(x,K)::nI r):=by
 obtain⟨n1,n2⟩:=RA nd;obtain⟨hs,hl,hr⟩:=xx.1 hL;have m1:∀y∈l,y.1.lb≠x.lb:=λy hy e=>hx (by rw[<-e];exact als (f:=λx:Nd×Nat=>x.1.lb) (by simp[hy]));have m2:∀y∈r,y.1.lb≠x.lb:=λy hy e=>hx (by rw[<-e];exact als (f:=λx:Nd×Nat=>x.1.lb) (by simp[hy]));rw[xx];refine⟨MB (λy hy o _=>keep _ _ (n1 y hy) (m1 y hy)) hs,⟨p0,p1⟩,?_,Lo.2 (zW (λy hy o _=>keep _ _ (n2 y hy) (m2 y hy)) hr)⟩;obtain⟨w,w',e1,e2,e3⟩:=x1;cases r with
 |nil=>
  obtain⟨w0,hw⟩:=hl;exact⟨w',by rw[x0];exact hw.1,e2⟩
 |cons y r=>
  obtain⟨b,k⟩:=y;refine⟨by rw[x0];exact hl.1,?_⟩;have hw:=hl.2;rw[e1]at hw;simp at hw;have h1:=hk (b,k) Yy;have h2:=hk (p,i) Yy;simp only at h1 h2;rw[e2,e3 V V,hw];congr 2
  push_cast
  omega
end Go.Proofs.YtocgmipngoiieaaGreatDoor.K5
namespace Go.Proofs.YtocgmipngoiieaaGreatDoor.K5
open Go Go.Sx Go.Proofs.YtocgmipngoiieaaGreatDoor C
def iF(N:List Nd):List Nat:=N.map Nd.lb
def GG(hh:Nat):∀(k:Nat)(N:List Nd),(xv (cB hh k N)).Sublist (iF N)
 |k,[]=>by simp[xv,cB,iF]
 |k,a::N=>by
  have ih:=GG hh (k+1) N;simp only[cB];split
  .exact ih.cons_cons _
  .exact ih.cons _
def aeq(hh:Nat)(A B:List Nd)(x:Nd):cB hh 0 (A++x::B)=cB hh 0 A++(if hh<x.ht then(x,A.length)::nI (cB hh A.length B)else nI (cB hh A.length B)):=by
 rw[G2,amJ];simp only[cB,SR]
def aeo(hh:Nat)(A B:List Nd):cB hh 0 (A++B)=cB hh 0 A++cB hh A.length B:=by
 rw[G2,amJ]
structure PI (h2 h':af) (A B:List Nd) (x:Nd) (n:Nat):Prop where
 ae:ag (x.lb::iF (A++B)) h2 h'
 blk:∀a∈A++x::B,∃lk,ai h' a.lb lk∧lk.length=2*a.ht
 lv:∀hh<16,ke h' hh (if hh<n then cB hh 0 (A++x::B)else cB hh 0 (A++B))
def It{h h':af}{b o m:Nat}{l vs:List Value}(p:dL h h' b (splice l o vs)){b':Nat}(hb:∃lk,ai h b' lk∧lk.length=m)(e:b'=b->l.length=m):∃lk,ai h' b' lk∧lk.length=m:=by
 by_cases eO:b'=b
 .exact⟨_,by rw[eO];exact p.blk,by rw[ry];exact e eO⟩
 .obtain⟨lk,⟨e,he⟩,h2⟩:=hb;exact⟨lk,⟨e,by rw[p.old b' eO];exact he⟩,h2⟩
def yD{h:af}{b:Nat}{l l':List Value}(h1:ai h b l)(h2:ai h b l'):l=l':=by
 obtain⟨e,h1⟩:=h1;obtain⟨e',h2⟩:=h2;rw[h1]at h2;simp at h2;exact h2.1
def R0{h h':af}{n hh:Nat}{L:List (Nd×Nat)}(ax:hh≠n)(keep:∀b o,o≠2*n->o≠2*n+1->cell h' b o=cell h b o)(hL:ke h hh L):ke h' hh L:=
 zW (λ_ _ o ho=>keep _ _ V V) hL
variable {h2 h h' bq:af}{A B:List Nd}{x p:Nd}{n i:Nat}
def PI.mid(ee:jP n A p i):∃l,cB n 0 A=l++[(p,i)]∧cB n 0 (A++B)=l++(p,i)::cB n A.length B∧
  cB n 0 (A++x::B)=l++(p,i)::(if n<x.ht then(x,A.length)::nI (cB n A.length B)else nI (cB n A.length B)):=by
 obtain⟨l,e⟩:=ee;exact⟨l,e,by rw[aeo,e];simp,by rw[aeq,e];simp⟩
def jP.DA(ee:jP n A p i):p∈A:=GM ee.mem
def SQ{N:List Nd}(hlen:N.length<=65537){k:Nat}:∀y∈cB k 0 N,y.2<=65537:=by
 intro y hy;have:=(ak7.1 (rj (a:=y.1) (i:=y.2) hy).2.2).1;omega
def PI.skip(pi:PI h2 h A B x n)(hn:n<16)(nd:(x.lb::iF (A++B)).Nodup)(hlen:(A++B).length<=65537)(ee:jP n A p i)(hx:¬n<x.ht){lk:List Value}{w w':Int}(hb:ai h p.lb lk)(hw:cell h p.lb (2*n+1)=some (.int .i64 w))(tH: -70000<=w->w<=70000->w'=w+1)(hp:dL h h' p.lb (splice lk (2*n+1) [.int .i64 w'])):PI h2 h' A B x (n+1):=by
 obtain⟨l,e,e1,e2⟩:=PI.mid (B:=B) (x:=x) ee;rw[akZ hx]at e2;have Gi:p∈A++B:=amC _ ee.DA;obtain⟨lk0,JH,gM⟩:=pi.blk p (by simp[ee.DA]);have:=yD hb JH;subst this;have QP:=ee.get.1;have hc:=λb' o'=>IL Ys hb hp b' o';simp only[ak0,aly]at hc;refine⟨pi.ae.trans hp.ae (λk hk=>hk) (λk hk _=>?_),λa ha=>It hp (pi.blk a ha) λcY=>?_,λhh ah=>?_⟩
 .simp at hk;subst hk;exact alr _ (als Gi)
 .obtain⟨RQ,bS,CN⟩:=pi.blk a ha;rw[cY]at bS;rw[yD hb bS];exact CN
 .by_cases ax:hh=n
  .subst ax;have hL:=pi.lv hh ah;rw[akZ V,e1]at hL;rw[ak4 V,e2];refine adH hL ?_ (by rw[<-e1];exact SQ hlen) (λb o hb=>?_) ?_ ⟨w,w',hw,?_,tH⟩
   .rw[<-e1];exact(amc.1 nd).2.sublist (GG ..)
   .rw[hc,akZ (by intro h;exact hb h.1)]
   .rw[hc,akZ V]
   .rw[hc,ak4 V];simp
  .have hL:=pi.lv hh ah;have hb:(if hh<n+1 then cB hh 0 (A++x::B)else cB hh 0 (A++B))=(if hh<n then cB hh 0 (A++x::B)else cB hh 0 (A++B)):=by
    by_cases h1:hh<n
    .rw[ak4 h1,ak4 V]
    .rw[akZ h1,akZ V]
   rw[hb];exact R0 ax (λb o _ h2=>by rw[hc,akZ V]) hL
def PI.put(pi:PI h2 h A B x n)(hn:n<16)(nd:(x.lb::iF (A++B)).Nodup)(hlen:(A++B).length<=65537)(ee:jP n A p i)(hx:n<x.ht){lk xk:List Value}{to:Value}{w w1 w2:Int}(hb:ai h p.lb lk)(KT:ai h x.lb xk)(hto:cell h p.lb (2*n)=some to)(hw:cell h p.lb (2*n+1)=some (.int .i64 w))(hG: -70000<=w->w<=70000->w1=w-((A.length:Int)-1-i))(zH:w2=(A.length:Int)-i)(hp:dL h h' x.lb (splice xk (2*n) [to,.int .i64 w1]))(eg:dL h' bq p.lb (splice lk (2*n) [ptr x.mb,.int .i64 w2])):PI h2 bq A B x (n+1):=by
 obtain⟨l,e,e1,e2⟩:=PI.mid (B:=B) (x:=x) ee;rw[ak4 hx]at e2;have Gi:p∈A++B:=amC _ ee.DA;have C6:p.lb≠x.lb:=λh=>(amc.1 nd).1 (by rw[<-h];exact als Gi);obtain⟨lk0,JH,gM⟩:=pi.blk p (by simp[ee.DA]);have:=yD hb JH;subst this;obtain⟨xk0,KQ,hxk⟩:=pi.blk x Yy;have:=yD KT KQ;subst this;have QP:=ee.get.1;have bh:ai h' p.lb lk:=by obtain⟨e,he⟩:=hb;exact⟨e,by rw[hp.old _ C6];exact he⟩
 have bd:=λb' o'=>IL Ys KT hp b' o';have aO:=λb' o'=>IL Ys bh eg b' o';simp only[ak0,aly]at bd aO;refine⟨(pi.ae.trans hp.ae (λk hk=>hk) (λk hk _=>?_)).trans eg.ae (λk hk=>hk) (λk hk _=>?_),λa ha=>It eg (It hp (pi.blk a ha) λcY=>?_) λcY=>?_,λhh ah=>?_⟩
 .simp at hk;subst hk;simp
 .simp at hk;subst hk;exact alr _ (als Gi)
 .obtain⟨RQ,bS,CN⟩:=pi.blk a ha;rw[cY]at bS;rw[yD KT bS];exact CN
 .obtain⟨RQ,bS,CN⟩:=pi.blk a ha;rw[cY]at bS;rw[yD hb bS];exact CN
 .by_cases ax:hh=n
  .subst ax;have hL:=pi.lv hh ah;rw[akZ V,e1]at hL;rw[ak4 V,e2];refine adG (x:=x) (K:=A.length) hL ?_ ?_ (by rw[<-e1];exact SQ hlen) (λb o hb F0=>?_) ?_ ?_ ?_ ⟨w,w1,hw,?_,λh1 h2=>by rw[hG h1 h2];omega⟩
   .rw[<-e1];exact(amc.1 nd).2.sublist (GG ..)
   .rw[<-e1];exactλh=>(amc.1 nd).1 ((GG ..).subset h)
   .rw[aO,akZ (by intro h;exact hb h.1),bd,akZ (by intro h;exact F0 h.1)]
   .rw[aO,ak4 V];simp
   .rw[aO,ak4 V,zH];simp
   .rw[aO,akZ (by intro h;exact C6 h.1.symm),bd,ak4 V,hto];simp
   .rw[aO,akZ (by intro h;exact C6 h.1.symm),bd,ak4 V];simp
  .have hL:=pi.lv hh ah;have hb:(if hh<n+1 then cB hh 0 (A++x::B)else cB hh 0 (A++B))=(if hh<n then cB hh 0 (A++x::B)else cB hh 0 (A++B)):=by
    by_cases h1:hh<n
    .rw[ak4 h1,ak4 V]
    .rw[akZ h1,akZ V]
   rw[hb];exact R0 ax (λb o _ h2=>by rw[aO,akZ V,bd,akZ V]) hL
end Go.Proofs.YtocgmipngoiieaaGreatDoor.K5
namespace Go.Proofs.YtocgmipngoiieaaGreatDoor.K5
open Go Go.Sx Go.Proofs.YtocgmipngoiieaaGreatDoor C
variable{B N:List Nd}{bE:Nat}{h h':af}{rb:Nat}
def fV(rb bE:Nat)(N:List Nd):List Nat:=rb::bE::(N.map Nd.mb++iF N)
def mapOf(N:List Nd):List (Value×Value):=N.tail.map λa=>(.string a.r.name,ptr a.mb)
structure RK (h:af) (rb bE:Nat) (N:List Nd) (S:List aF):Prop where
 rd:RD h rb bE N
 Fy:(fV rb bE N).Nodup
 isS:pf N=S
 map:∃es c,cN h bE es c∧(es.map λe=>(e.key,e.val)).Perm (mapOf N)
 sorted:bT S
 names:Names S
 tab:fw h
 no1:3∉fV rb bE N
def fw.ae{S:List Nat}(ht:fw h)(hc:ag S h h')(hn:3∉S):fw h':=λi hi=>
 let⟨v,h0,h1,h2⟩:=ht i hi
 ⟨v,h0,h1,sI h2 hc hn⟩
def RK.ext{h h':af}{rb bE:Nat}{N:List Nd}{S:List aF}(rk:RK h rb bE N S)(hc:ag [] h h'):RK h' rb bE N S:=
 ⟨rk.rd.ext hc,rk.Fy,rk.isS,let⟨es,c,h1,h2⟩:=rk.map;⟨es,c,h1.ae hc Yy,h2⟩,rk.sorted,rk.names,rk.tab.ae hc Yy,rk.no1⟩
def RK.len{S:List aF}(rk:RK h rb bE N S):N.length=S.length+1:=by
 obtain⟨hd,mem,rfl,_,_⟩:=rk.rd.r;rw[<-rk.isS];simp[pf]
def RK.lt{h:af}{rb bE:Nat}{N:List Nd}{S:List aF}(rk:RK h rb bE N S):∀b∈fV rb bE N,b<h.size:=by
 intro b hb;obtain⟨hd,mem,hN,_,jZ⟩:=rk.rd.r;obtain⟨es,c,hm,_⟩:=rk.map;simp only[fV,ak3,alf,iF,alF]at hb;rcases hb with rfl|rfl|⟨a,ha,rfl⟩|⟨a,ha,rfl⟩
 .exact jZ.lt
 .exact hm.lt
 .exact(rk.rd.ok a ha).m.lt
 .obtain⟨lk,hl,_⟩:=(rk.rd.ok a ha).l;exact hl.lt
def Yn(hd:(fV rb bE N).Nodup):rb∉iF N∧bE∉iF N∧(∀a∈N,a.mb∉iF N)∧(iF N).Nodup∧(∀a∈N,a.mb≠bE)∧rb≠bE∧∀a∈N,a.mb≠rb:=by
 simp only[fV,amc,ak3,alf,amN,anH]at hd;obtain⟨⟨h0,h1,h2⟩,⟨h3,h4⟩,h5,h6,h7⟩:=hd;refine⟨h2,h4,λa ha h=>?_,h6,λa ha e=>h3 (by rw[<-e];exact als ha),h0,λa ha e=>h1 (by rw[<-e];exact als ha)⟩;exact h7 a.mb (als ha) a.mb h Y
def Rz:∀b∈iF N,b∈fV rb bE N:=λb hb=>by simp[fV,hb]
def Iu{A:List Nd}{x:Nd}:(fV rb bE (A++x::B)).Perm (x.mb::x.lb::fV rb bE (A++B)):=by
 have h1:((A++x::B).map Nd.mb++iF (A++x::B)).Perm (x.mb::x.lb::((A++B).map Nd.mb++iF (A++B))):=by
  have e1:((A++x::B).map Nd.mb).Perm (x.mb::(A++B).map Nd.mb):=by simp[aoN]
  have e2:(iF (A++x::B)).Perm (x.lb::iF (A++B)):=by simp[iF,aoN]
  refine(e1.append e2).trans ?_;rw[amK];exact List.perm_middle.cons _
 unfold fV;refine((h1.cons bE).cons rb).trans ?_;have e3:∀(a b c d:Nat)(l:List Nat),(a::b::c::d::l).Perm (c::d::a::b::l):=by
  intro a b c d l;have:=(ao3 (l₁:=[a,b]) (l₂:=[c,d])).append_right l;simpa using this
 exact e3 ..
def uf{S:List aF}(rk:RK h rb bE N S){K:Nat}(hK:K<=S.length):N=N.take (K+1)++N.drop (K+1)∧(N.take (K+1)).length=K+1∧(∃hd A',N.take (K+1)=hd::A'∧A'.map Nd.r=S.take K)∧(N.drop (K+1)).map Nd.r=S.drop K:=by
 have hl:=rk.len;obtain⟨hd,mem,rfl,_,_⟩:=rk.rd.r;have hr:mem.map Nd.r=S:=rk.isS;simp at hl;refine⟨(ama ..).symm,by simp;omega,⟨hd,mem.take K,Y,?_⟩,?_⟩
 .rw[List.map_take,hr]
 .rw[List.drop_succ_cons,List.map_drop,hr]
def RK.put{A:List Nd}{S:List aF}{x:Nd}(rk:RK h rb bE (A++B) S)(hA:A≠[]){es:List MapEntry}{c c':Nat}(mo:(es.map λe=>(e.key,e.val)).Perm (mapOf (A++B)))(KB:RD h' rb bE (A++x::B))(hm:cN h' bE (es++[{key:=.string x.r.name,val:=ptr x.mb,born:=c}]) c')(Dc:pf (A++x::B)=alh x.r S)(hn:∀y∈S,y.name≠x.r.name)(hf:x.mb∉fV rb bE (A++B)∧x.lb∉fV rb bE (A++B)∧x.mb≠x.lb)(ht:fw h')(h1:x.mb≠3∧x.lb≠3):RK h' rb bE (A++x::B) (alh x.r S) where
 rd:=KB
 Fy:=by
  rw[Iu.nodup_iff,amc,amc];exact⟨by simp[hf.2.2,hf.1],hf.2.1,rk.Fy⟩
 isS:=Dc
 map:=by
  refine⟨_,_,hm,?_⟩;obtain⟨hd,A',rfl⟩:=am2 hA;simp only[alD,alR,aol];have e:(mapOf (hd::A'++x::B)).Perm ((.string x.r.name,ptr x.mb)::mapOf (hd::A'++B)):=by
   simp only[mapOf,amK,List.tail_cons,alD,alR];exact aoN
  refine(mo.append_right _).trans (List.Perm.trans ?_ e.symm);exact ao3
 sorted:=acY rk.sorted hn
 names:=acX rk.names hn
 tab:=ht
 no1:=by
  rw[Iu.mem_iff];simp only[ak3,anH];exact⟨h1.1.symm,h1.2.symm,rk.no1⟩
end Go.Proofs.YtocgmipngoiieaaGreatDoor.K5
namespace Go.Proofs.YtocgmipngoiieaaGreatDoor.K5
open Go Go.Sx Go.Proofs.YtocgmipngoiieaaGreatDoor C
def adm{h:af}{hh:Nat}{a:Nd}{i:Nat}{L:List (Nd×Nat)}(hl:lead h hh a i L):∃q w,link h a hh (.pointer q) w:=by
 cases L with
 |nil=>obtain⟨w,hw⟩:=hl;exact⟨none,w,hw⟩
 |cons y r=>obtain⟨b,k⟩:=y;exact⟨_,_,hl⟩
def PI.link{h2 h:af}{A B:List Nd}{x p:Nd}{n i:Nat}(pi:PI h2 h A B x n)(hn:n<16)(ee:jP n A p i):∃q w,link h p n (.pointer q) w:=by
 obtain⟨l,e,e1,e2⟩:=PI.mid (B:=B) (x:=x) ee;have hL:=pi.lv n hn;rw[akZ V,e1]at hL;exact adm (xx.1 hL).2.1
def Lh{A:List Nd}(hA:∀a∈A,1<=a.ht){p:Nd}{i:Nat}(hl:jP 0 A p i):i=A.length-1:=by
 obtain⟨l,e⟩:=hl;have dF:(p,i)∈cB 0 0 A:=by rw[e];simp
 have h1:=(rj dF).2.2;have hi:=(ak7.1 h1).1;have ee:A[A.length-1]? =some (A[A.length-1]' V):=akU V;have nc:=GN (hh:=0) (k:=0) (hA _ (al9 ee)) ee;have hr:=@LX 0 0 A;rw[e]at hr nc;rw[anb]at hr;rcases alf.1 nc with h|h
 .have:=hr.2.2 _ h (p,i) Yy;simp only at this;omega
 .simp at h;omega
def G7{h:af}{rb bE:Nat}{N:List Nd}{S:List aF}(rk:RK h rb bE N S)(x:aF)(XX:Int)(hn:∀y∈S,y.name≠x.name)(hlen:S.length<65536):aj Tryz.prog 311 [ptr rb,.agg ⟨aK x⟩,.int .i64 XX] h (ao λ_ h'=>∃N',RK h' rb bE N' (alh x S)∧ag (fV rb bE N) h h'∧∀b∈fV rb bE N',b∈fV rb bE N∨h.size<=b):=by
 have hK:gH x S<=S.length:=M9 x S;have FZ:=rk.len;obtain⟨hN,y',⟨hd,A',wC,Jy⟩,FY⟩:=uf rk hK;generalize N.take (gH x S+1)=A at hN y' wC;generalize N.drop (gH x S+1)=B at hN FY;subst hN;have FV:A≠[]:=by rw[wC];simp
 refine f311.c ?_;intro b4 h1 g1;refine Ei (aK x) (Ai Y (Ai (akW g1.blk)<|akV (RI x) ?_));rintro _ h2 ⟨bl,rfl,dD,Bl,aO⟩;have JL:ag [] h h2:=g1.ae.nil aO;have qe:=rk.ext JL;have ask:=RH Bl (N:=A++B) (by rw[rk.isS];exact rk.sorted);rw[rk.isS,<-y']at ask;refine akV (I9 qe.rd Y FV ask) ?_;rintro _ h3 ⟨pb,rfl,hpb,⟨pl,Bp,zC⟩,bB⟩;have rk3:=qe.ext bB;have AW:ai h3 b4 (aK x):=(g1.blk.ae aO Yy).ae bB Yy;refine Ei (aK x) (Ai Y (Ai (akW AW) ?_));obtain⟨qH,Dz,sO,CD,jZ⟩:=rk3.rd.r;refine Ei _ (Ai (an jZ Y) ?_);obtain⟨es,cl,mo,oU⟩:=rk3.map;refine Ei es (Ei cl (Ai mo<|Ai Y (λz hz=>?_)));intro u hu;refine Ai Y (λc hc=>?_);have hc:=WV hc;refine iw (ahM rk3.tab u) ?_;rintro _ h4 ⟨⟨t,rfl,t0,t1⟩,rfl⟩;refine Ai (Ext.refl _)<|Ai Y (λs hs=>?_);have hs:=cd hs V V;refine Ai Y<|Ai Y (λm hm=>?_);have hm:=cd hm V V;have hm1:1<=m∧m<=16:=V
 refine Ai V (Ai (Int.le_refl _) (Ai V (Ai V ?_)));intro xl h5 g5;intro xb h6 g6;let x':Nd:=⟨xb,xl,m.toNat,x⟩
 have hxh:x'.ht=m.toNat:=rfl;have Gq:x'.lb=xl:=rfl;have zg:ag [] h4 h6:=g5.ae.nil g6.ae;have abN:ag [] h h6:=(JL.nil bB).nil zg;have jL:=rk3.ext zg;have BX:ai h6 xb x'.row:=g6.blk;have BL:ai h6 xl ((List.replicate m.toNat [.pointer none,.int .i64 0]).flatten):=g5.blk.ae g6.ae Yy;have VV:=AW.ae zg Yy;have V4:=Bp.ae zg Yy;have acx:=jZ.ae zg Yy;have acd:=mo.ae zg Yy
 -- which blocks are which
 have s1:=g1.id;have s1':=g1.size;have s5:=g5.id;have s5':=g5.size;have s6:=g6.id;have s6':=g6.size;have z1:=JL.size;have z2:=aO.size;have z3:=bB.size;have old:∀b∈fV rb bE (A++B),b<h.size:=rk.lt;obtain⟨d1,d2,d3,d4,d5,d6,d7⟩:=Yn rk.Fy;have GK:∀b∈iF (A++B),b<h.size:=λb hb=>old b (Rz b hb);have nd:(x'.lb::iF (A++B)).Nodup:=amc.2 ⟨λhb=>by have:=GK _ hb;simp only[x']at this;omega,d4⟩;have mZ:(A++B).length<=65537:=rk.rd.len;have acy:rb∉x'.lb::iF (A++B):=by
  simp only[ak3,anH];exact⟨by have:=old rb (by simp[fV]);simp only[x'];omega,d1⟩
 have Jo:∀b,h.size<=b->b≠xl->b∉x'.lb::iF (A++B):=by
  intro b hb ax;simp only[ak3,anH];exact⟨ax,λbh=>by have:=GK _ bh;omega⟩
 have aks:(qH::Dz).map Nd.r=(A++B).map Nd.r:=by rw[sO]
 refine bA (λn:Nat=>[(0,ptr rb),(4,ptr b4),(6,ptr pb),(7,ptr xb),(32,.int .i64 n)]) (λn h'=>n<=16∧PI h6 h' A B x' n) (λn=>16-n) 0 J5
  ⟨ak8 _,⟨(ag.refl h6).mono Yy,λa ha=>?_,λhh ah=>?_⟩⟩ ?_
 .rcases alf.1 ha with ha|ha
  .exact(jL.rd.ok a (by simp[ha])).l
  .rcases ak3.1 ha with rfl|ha
   .exact⟨_,BL,by simp[x'];omega⟩
   .exact(jL.rd.ok a (by simp[ha])).l
 .rw[akZ V];exact jL.rd.lv hh ah
 rintro n h7 ⟨aky,pi⟩;have Nu:ai h7 xb x'.row:=BX.ae pi.ae (Jo xb V V);have H6:=V4.ae pi.ae (Jo pb V (by have:=Bp.lt;omega));have VW:=VV.ae pi.ae (Jo b4 V (by have:=AW.lt;omega));refine Bi (λht=>?_) λht=>?_
 .have hn:n<16:=V
  obtain⟨p,i,ee,hC,eg⟩:=zC n hn;obtain⟨p0,i0,zr,_,CY⟩:=zC 0 V;obtain⟨q,w,gM⟩:=pi.link hn ee;have CZ:=ee.DA;have aed:=jL.rd.ok p (amC _ CZ);have Wl:ai h7 p.mb p.row:=aed.m.ae pi.ae (by
   simp only[ak3,anH];have:=old p.mb (by simp only[fV,ak3,alf];exact Or.inr (Or.inr (Or.inl (als (amC _ CZ)))));exact⟨by simp only[x'];omega,d3 p (amC _ CZ)⟩)
  obtain⟨lk,Bl7,akv⟩:=pi.blk p (amC _ CZ);obtain⟨xk,Nx,akH⟩:=pi.blk x' Yy;have QP:=ee.get.1;have hi:i<A.length:=(ak7.1 ee.get.2).1;have F9:i0=A.length-1:=Lh (λa ha=>(jL.rd.ok a (amC _ ha)).pos) zr;have en:0+0+n*1=n:=V
  have YK:0+16+n*1=16+n:=V
  have em:0+n*2=2*n:=V
  refine Ai V (Ai V (Ei (ptr p.mb) (Ai ?_ ?_)))
  .exact an H6 (by rw[<-hC];exact alC (λo=>pl[o]?) en)
  refine Ei _ (Ai (an Wl Y)<|Ai V (Ai V<|Ei _ (Ai (an Nu Y)<|Bi (λcp=>?_) λcp=>?_)))
  .refine Ei (.int .i64 w) (Ai ?_ ?_)
   .exact Eq.trans (alC (λo=>cell h7 p.lb (o+1)) em) gM.2
   refine Ai Y (λw' tH=>Ei lk (Ai Bl7 (Ai V (Ai Y (Ai (cM Y) ?_)))));intro h8 p8;have p8:dL h7 h8 p.lb (splice lk (0+n*2+1) [.int .i64 w']):=p8;rw[em]at p8;refine Az<|Ai Y (Ei (n+1) (Ai ?_ (Ai ?_ ?_)))
   .exact J5
   .exact⟨V,pi.skip hn nd mZ ee V Bl7 gM.2 (λa b=>cd tH V V) p8⟩
   .omega
  .refine Ai Dd (Ai Dd (Ei (.int .i64 i0) (Ai (an H6 CY)<|Ai V (Ai V (Ei (.int .i64 i) (Ai ?_ ?_))))))
   .exact an H6 (by rw[<-eg];exact alC (λo=>pl[o]?) YK)
   refine Ai Y (λov QL=>?_);have QL:=mG QL V V;refine Ei _ (Ai (an Nu Y)<|Ei (.pointer q) (Ai ?_ ?_))
   .exact Eq.trans (alC (λo=>cell h7 p.lb (o+0)) em) gM.1
   refine Ei (.int .i64 w) (Ai ?_ ?_)
   .exact Eq.trans (alC (λo=>cell h7 p.lb (o+1)) em) gM.2
   refine Ai Y (λw1 hG=>Ai V (Ai V<|Ei xk (Ai Nx (Ai V (Ai Y (Ai (DK Y Y) ?_))))));intro h8 p8;have p8:dL h7 h8 xl (splice xk (0+n*2) [.pointer q,.int .i64 w1]):=p8;refine Ai Y (λw2 zH=>?_);have zH:=cd zH V V;have C6:p.lb≠xl:=by
    intro e;have:=GK p.lb (als (amC _ CZ));omega
   have V3:ai h8 p.lb lk:=by
    obtain⟨e,he⟩:=Bl7;exact⟨e,by rw[p8.old _ C6];exact he⟩
   refine Ei lk (Ai V3 (Ai V (Ai Y (Ai (DK Y Y) ?_))));intro h9 p9;have p9:dL h8 h9 p.lb (splice lk (0+n*2) [ptr x'.mb,.int .i64 w2]):=p9;rw[em]at p8 p9;refine Az<|Ai Y (Ei (n+1) (Ai ?_ (Ai ?_ ?_)))
   .exact J5
   .refine⟨V,pi.put hn nd mZ ee V Bl7 Nx gM.1 gM.2 (w1:=w1) (w2:=w2) (λa b=>?_) V p8 p9⟩;rw[mG hG V V];omega
   .omega
 .have hn:n=16:=V
  subst hn;have QU:ai h7 rb [ptr qH.mb,.map (some bE)]:=acx.ae pi.ae acy;have wU:bE∉x'.lb::iF (A++B):=by
   simp only[ak3,anH];exact⟨by have:=old bE (by simp[fV]);omega,d2⟩
  have ace:cN h7 bE es cl:=acd.ae pi.ae wU;have oN:∀e∈es,∃a∈(A++B).tail,e.key=.string a.r.name:=by
   intro e he;have h1:(e.key,e.val)∈mapOf (A++B):=oU.mem_iff.1 (als (f:=λe:MapEntry=>(e.key,e.val)) he);obtain⟨a,ha,za⟩:=alF.1 h1;exact⟨a,ha,(alC Prod.fst za).symm⟩
  have ff:∀e∈es,fits .str e.key=true:=λe he=>by
   obtain⟨a,_,h2⟩:=oN e he;rw[h2];rfl
  have eS:bH (.string x.name) es 0=none:=by
   cases hm:bH (.string x.name) es 0 with
   |none=>rfl
   |some jv=>
    obtain⟨j,v⟩:=jv;obtain⟨_,e,he,qI,_⟩:=DB (k:=.str) Y es 0 j v ff hm;obtain⟨a,ha,za⟩:=oN e (al9 he);rw[za]at qI;have:a.r.name=x.name:=by simpa using qI
    exact absurd this (hn a.r (by rw[<-rk.isS];exact als ha))
  refine Ei _ (Ai (an QU Y)<|Ei _ (Ai (an VW Y)<|Ai Y (Ei es (Ei cl (Ai ace (Ai ff ?_))))));rw[eS];intro h8 p8;have JP:ag (bE::x'.lb::iF (A++B)) h6 h8:=pi.ae.trans p8.ae (λk hk=>by simp[hk]) (λk hk _=>by simp at hk;simp[hk]);have acz:pf (A++x'::B)=alh x S:=by
   rw[wC];simp only[pf,amK,List.tail_cons,alD,alR,Jy,FY];rfl
  have KB:RD h8 rb bE (A++x'::B):=by
   refine⟨?_,λa ha=>?_,λhh ah=>?_,?_⟩
   .have he:qH=hd:=by rw[wC]at sO;simp at sO;exact sO.1.symm
    refine⟨qH,A'++x'::B,by rw[wC,he];rfl,CD,QU.ae p8.ae (by simp;exact d6)⟩
   .have rS:a.mb∉bE::x'.lb::iF (A++B)∧ai h6 a.mb a.row∧a.lb≠bE:=by
     by_cases hax:a=x'
     .subst hax;simp only[ak3,anH];have rR:=old bE (by simp[fV]);refine⟨⟨by show xb≠bE;omega,by show xb≠xl;omega,λhb=>by have:=GK _ hb;have:xb<h.size:=this;omega⟩,BX,by show xl≠bE;omega⟩
     .have Co:a∈A++B:=by
       rcases alf.1 ha with ha|ha
       .simp[ha]
       .rcases ak3.1 ha with h|h
        .exact absurd h hax
        .simp[h]
      have rR:a.mb<h.size:=old a.mb (by simp only[fV,ak3,alf];exact Or.inr (Or.inr (Or.inl (als Co))));simp only[ak3,anH];exact⟨⟨d5 a Co,V,d3 a Co⟩,(jL.rd.ok a Co).m,λe=>d2 (by rw[<-e];exact als Co)⟩
    obtain⟨lk,h1,h2⟩:=pi.blk a ha;have hht:1<=a.ht∧a.ht<=16:=by
     rcases alf.1 ha with ha|ha
     .exact⟨(jL.rd.ok a (by simp[ha])).pos,(jL.rd.ok a (by simp[ha])).top⟩
     .rcases ak3.1 ha with h|h
      .subst h;omega
      .exact⟨(jL.rd.ok a (by simp[h])).pos,(jL.rd.ok a (by simp[h])).top⟩
    exact⟨rS.2.1.ae JP rS.1,⟨lk,h1.ae p8.ae (by simp;exact rS.2.2),h2⟩,hht.1,hht.2⟩
   .have hL:=pi.lv hh ah;rw[ak4 ah]at hL;refine zW (λy hy o _=>?_) hL;have hyN:=GM (a:=y.1) (i:=y.2) hy;have ax:y.1.lb≠bE:=by
     rcases alf.1 hyN with ha|ha
     .exactλe=>d2 (by rw[<-e];exact als (amC _ ha))
     .rcases ak3.1 ha with h|h
      .rw[h];have:=old bE (by simp[fV]);omega
      .exactλe=>d2 (by rw[<-e];exact als (anS _ h))
    unfold cell;rw[p8.old _ ax]
   .simp at FZ⊢;omega
  have abB:3<h.size:=by
   obtain⟨v,_,_,hv⟩:=rk.tab 0 V;exact wi hv
  have aci:3∉bE::x'.lb::iF (A++B):=by
   have:=rk.no1;simp only[fV,ak3,alf,anH]at this;simp only[ak3,anH];exact⟨this.2.1,V,this.2.2.2⟩
  refine Ei (A++x'::B) (Ai ?_ (Ai ?_ ?_))
  .refine rk.put FV oU KB p8.blk acz hn ⟨λhb=>?_,λhb=>?_,?_⟩ ((jL.tab).ae JP aci) ⟨?_,?_⟩
   .have:xb<h.size:=old _ hb;omega
   .have:xl<h.size:=old _ hb;omega
   .show xb≠xl;omega
   .show xb≠3;omega
   .show xl≠3;omega
  .refine abN.trans JP Yy (λk hk ah=>?_);simp only[ak3]at hk;rcases hk with rfl|rfl|hk
   .simp[fV]
   .omega
   .exact Rz k hk
  .intro b hb;rw[Iu.mem_iff]at hb;simp only[ak3]at hb;have e1:x'.mb=xb:=rfl;rcases hb with hb|hb|hb
   .right;omega
   .right;omega
   .left;simpa using hb
end Go.Proofs.YtocgmipngoiieaaGreatDoor.K5
set_option linter.defProp false
set_option linter.defProp false
namespace Go.Proofs.YtocgmipngoiieaaGreatDoor.K5
open Go Go.Sx Go.Proofs.YtocgmipngoiieaaGreatDoor C
def RK.look{h:af}{rb bE:Nat}{N:List Nd}{S:List aF}(rk:RK h rb bE N S)(nm:BA):∃es c,cN h bE es c∧(∀e∈es,fits .str e.key=true)∧es.length=S.length∧
   (((∀y∈S,y.name≠nm)∧bH (.string nm) es 0=none)∨∃A m B j,N=A++m::B∧A≠[]∧m.r.name=nm∧bH (.string nm) es 0=some (j,ptr m.mb)):=by
 obtain⟨es,cl,mo,oU⟩:=rk.map;obtain⟨hd,mem,hN,_,_⟩:=rk.rd.r;have hS:S=mem.map Nd.r:=by rw[<-rk.isS,hN];rfl
 have hlen:=oU.length_eq;have oN:∀e∈es,∃a∈mem,e.key=.string a.r.name∧e.val=ptr a.mb:=by
  intro e he;have h1:(e.key,e.val)∈mapOf N:=oU.mem_iff.1 (als (f:=λe:MapEntry=>(e.key,e.val)) he);rw[hN]at h1;obtain⟨a,ha,za⟩:=alF.1 h1;exact⟨a,ha,(alC Prod.fst za).symm,(alC Prod.snd za).symm⟩
 have ff:∀e∈es,fits .str e.key=true:=λe he=>by
  obtain⟨a,_,h2,_⟩:=oN e he;rw[h2];rfl
 refine⟨es,cl,mo,ff,by rw[hS];simpa[mapOf,hN]using hlen,?_⟩;cases hm:bH (.string nm) es 0 with
 |none=>
  refine Or.inl ⟨λy hy e=>?_,Y⟩;have bw:=Ls (k:=.str) Y es 0 ff hm;rw[hS]at hy;obtain⟨a,ha,rfl⟩:=alF.1 hy;have hin:((.string a.r.name,ptr a.mb):Value×Value)∈es.map λe=>(e.key,e.val):=by
   rw[oU.mem_iff,hN];exact als (f:=λa:Nd=>((.string a.r.name,ptr a.mb):Value×Value)) ha
  obtain⟨x,hx,Dj⟩:=alF.1 hin;exact bw x hx (by rw[<-e];exact alC Prod.fst Dj)
 |some jv=>
  obtain⟨j,v⟩:=jv;obtain⟨_,e,F4,qI,jw⟩:=DB (k:=.str) Y es 0 j v ff hm;obtain⟨a,ha,P1,fJ⟩:=oN e (al9 F4);obtain⟨A,B,rfl⟩:=an7 ha;rw[qI]at P1;refine Or.inr ⟨hd::A,a,B,j,hN,Yy,(by simpa using P1.symm),?_⟩;rw[<-jw,fJ]
def RS(h:af)(v:Value)(S:List aF)(fp:List Nat):Prop:=∃rb bE N,v=ptr rb∧RK h rb bE N S∧fp=fV rb bE N
def RS.ext{h h':af}{v:Value}{S:List aF}{fp:List Nat}(rs:RS h v S fp)(hc:ag [] h h'):RS h' v S fp:=by
 obtain⟨rb,bE,N,h1,h2,h3⟩:=rs;exact⟨rb,bE,N,h1,h2.ext hc,h3⟩
def RK.there{h:af}{rb bE:Nat}{A B:List Nd}{m:Nd}{S:List aF}(rk:RK h rb bE (A++m::B) S)(hA:A≠[]):S=(A.tail.map Nd.r)++m.r::B.map Nd.r:=by
 obtain⟨hd,A',rfl⟩:=am2 hA;rw[<-rk.isS];simp[pf]
def agT{h:af}{v:Value}{S:List aF}{fp:List Nat}(rs:RS h v S fp)(nm:BA):aj Tryz.prog 309 [v,.string nm] h (ao λu h'=>h'=h∧(((∀y∈S,y.name≠nm)∧u=.tuple #[.int .i64 0,.bool false])∨∃a y b,S=a++y::b∧y.name=nm∧u=.tuple #[.int .i64 y.score,.bool true])):=by
 obtain⟨rb,bE,N,rfl,rk,rfl⟩:=rs;obtain⟨qH,Dz,sO,CD,jZ⟩:=rk.rd.r;obtain⟨es,cl,mo,ff,wL,hl⟩:=rk.look nm;refine f309.c<|akV (q9 jZ) ?_;rintro _ h1 ⟨rfl,rfl⟩;refine Ei _ (Ai (an jZ Y)<|Ai Y (Ei es (Ei cl (Ai mo (Ai ff ?_)))));rcases hl with⟨bw,hm⟩|⟨A,m,B,j,rfl,hA,wU,hm⟩
 .rw[hm];exact Ai Y (Or.inl ⟨bw,Y⟩)
 .rw[hm];have Mm:=(rk.rd.ok m Yy).m;exact Ei _ (Ai (an Mm Y)<|Ai Y (Or.inr ⟨_,_,_,rk.there hA,wU,Y⟩))
def aeY{h:af}{v:Value}{S:List aF}{fp:List Nat}(rs:RS h v S fp)(nm:BA):aj Tryz.prog 284 [v,.string nm] h (ao λu h'=>ag [] h h'∧(((∀y∈S,y.name≠nm)∧u=.tuple #[.int .i64 0,.bool false])∨∃a y b,S=a++y::b∧y.name=nm∧u=.tuple #[.int .i64 a.length,.bool true])):=by
 obtain⟨rb,bE,N,rfl,rk,rfl⟩:=rs;obtain⟨qH,Dz,sO,CD,jZ⟩:=rk.rd.r;obtain⟨es,cl,mo,ff,wL,hl⟩:=rk.look nm;refine f284.c<|akV (q9 jZ) ?_;rintro _ h1 ⟨rfl,rfl⟩;refine Ei _ (Ai (an jZ Y)<|Ai Y (Ei es (Ei cl (Ai mo (Ai ff ?_)))));rcases hl with⟨bw,hm⟩|⟨A,m,B,j,rfl,hA,wU,hm⟩
 .rw[hm];exact Ai (ag.refl h1) (Or.inl ⟨bw,Y⟩)
 .rw[hm];have okm:=rk.rd.ok m Yy;have hS:=rk.there hA;refine Ei (aK m.r) (Ai Y (Ai (BF (l:=m.row) okm.m ?_) ?_))
  .intro j v hj;rw[amJ];unfold Nd.row;rw[amM (ak7.1 hj).1];exact hj
  refine akV (RI m.r) ?_;rintro _ h2 ⟨bl,rfl,dD,Bl,aO⟩;have qe:=rk.ext aO;have gg:gH m.r S=A.tail.length:=by
   have hs:=rk.sorted;rw[hS]at hs⊢;rw[ahY hs];simp
  have y':A.length=gH m.r S+1:=by
   rw[gg];cases A with
   |nil=>exact absurd Y hA
   |cons a A=>simp
  have ask:=RH Bl (N:=A++m::B) (by rw[rk.isS];exact rk.sorted);rw[rk.isS,<-y']at ask;refine akV (I9 qe.rd Y hA ask) ?_;rintro _ h3 ⟨pb,rfl,hpb,⟨pl,Bp,zC⟩,bB⟩;obtain⟨p0,i0,zr,_,CY⟩:=zC 0 V;have F9:i0=A.length-1:=Lh (λa ha=>(rk.rd.ok a (amC _ ha)).pos) zr;refine Ai Dd (Ai Dd (Ei (.int .i64 i0) (Ai (an Bp CY)<|Ai (aO.nil bB) (Or.inr ⟨_,_,_,hS,wU,?_⟩))));have:i0=(A.tail.map Nd.r).length:=by simp;omega
  rw[<-this];rfl
def Ub{a b:Value}:∀(n i:Nat),i<n->((List.replicate n [a,b]).flatten)[2*i]? =some a∧((List.replicate n [a,b]).flatten)[2*i+1]? =some b
 |0,i,h=>V
 |n+1,0,_=>by simp[anK]
 |n+1,i+1,h=>by
  have ih:=Ub (a:=a) (b:=b) n i V;have e:2*(i+1)=2*i+1+1:=V
  rw[anK,anG,e];simpa using ih
def Xe{h:af}(ht:fw h):aj Tryz.prog 310 [] h (ao λu h'=>ag [] h h'∧∃fp,RS h' u [] fp∧∀b∈fp,h.size<=b):=by
 have abB:3<h.size:=by
  obtain⟨v,_,_,hv⟩:=ht 0 V;exact wi hv
 refine f310.c<|Ai Dd (Ai Dd (Ai Dd (Ai Dd ?_)));intro lb h1 g1;intro mb h2 g2;intro bE h3 g3;intro rb h4 g4;have s1:=g1.id;have s1':=g1.size;have s2:=g2.id;have s2':=g2.size;have s3:=g3.id;have s3':=g3.size;have s4:=g4.id;have s4':=g4.size;have JN:ag [] h2 h4:=g3.ae.nil g4.ae;have hc:ag [] h h4:=(g1.ae.nil g2.ae).nil JN;have BL:ai h4 lb ((List.replicate 16 [.pointer none,.int .i64 0]).flatten):=(g1.blk.ae g2.ae Yy).ae JN Yy;have BM:ai h4 mb (Nd.row ⟨mb,lb,16,⟨⟨#[]⟩,0⟩⟩):=(show ai h2 mb (Nd.row ⟨mb,lb,16,⟨⟨#[]⟩,0⟩⟩)from g2.blk).ae JN Yy;have BP:cN h4 bE [] 0:=(show cN h3 bE [] 0 from g3.blk).ae g4.ae Yy;have BR:ai h4 rb [ptr mb,.map (some bE)]:=g4.blk;have hfp:fV rb bE [⟨mb,lb,16,⟨⟨#[]⟩,0⟩⟩]=[rb,bE,mb,lb]:=rfl;refine Ai hc (Ei [rb,bE,mb,lb] (Ai ⟨rb,bE,[⟨mb,lb,16,⟨⟨#[]⟩,0⟩⟩],Y,?_,Y⟩ ?_))
 .refine⟨⟨⟨_,[],Y,Y,BR⟩,λa ha=>?_,λhh ah=>?_,Yy⟩,?_,Y,⟨[],0,BP,by simp[mapOf]⟩,List.Pairwise.nil,ank,ht.ae hc Yy,?_⟩
  .simp at ha;subst ha;exact⟨BM,⟨_,BL,Yy⟩,Yy,Yy⟩
  .have hg:=Ub (a:=.pointer none) (b:=.int .i64 0) 16 hh ah;simp only[cB,ah,anB];exact⟨⟨0,an BL hg.1,an BL hg.2⟩,trivial⟩
  .rw[hfp];simp;omega
  .rw[hfp];simp;omega
 .intro b hb;simp at hb;omega
def encI(i:Int):List Value:=[.int .i64 i]
def YL(i:Int):(encI i).length=1:=rfl
def Ie(h:af)(l:List aF)(u:Value)(h':af):Prop:=
 ag [] h h'∧if qb l=0 then∃v fp,u=.tuple #[v,.int .i64 0]∧RS h' v (DJ l) fp∧∀b∈fp,h.size<=b else u=.tuple #[.pointer none,.int .i64 (qb l)]
def LR{h h':af}{l:List aF}(hc:ag [] h h'){e:Int}(he:qb l=e)(hn:e≠0):Ie h l (.tuple #[.pointer none,.int .i64 e]) h':=by
 refine⟨hc,?_⟩;rw[he,akZ hn]
def aea{h h1:af}{a:Option Addr}{c:Nat}{l:List aF}{cv:Value}{cs:List Int}(hv:SL aK h1 (.slice a l.length c) l)(Cu:SL encI h1 cv cs)(dE:cs.length<4611686018427387904)(bd:ag [] h h1)(ht:fw h1)(hlen:l.length<=65536)(aS:l.any (λx=>decide (1048576<x.name.size))=false):swp Tryz.prog f283.sc.r.r.r (cC [.t 4,.t 5] (ao (Ie h l))) (mk [(0,.slice a l.length c),(1,cv)]) [] h1:=by
 have dU:∀x∈l,¬1048576<x.name.size:=by
  intro x hx;have:=aoC.1 aS x hx;simpa using this
 obtain⟨ca,cc,rfl,ie⟩:=Cu.form;refine akV (Xe ht) ?_;rintro rv h2 ⟨aO,fp0,rs0,ab0⟩;refine bA (λk:Nat=>[(1,.slice ca cs.length cc),(8,rv),(29,.slice a l.length c),(30,.int .i64 l.length),(31,.int .i64 k)])
  (λk h'=>k<=l.length∧ag [] h1 h'∧∃out fp,RS h' rv out fp∧(∀b∈fp,h1.size<=b)∧out.length<=k∧o9 out (l.drop k)=o9 [] l) (λk=>l.length-k) 0
  J5 ⟨ak8 _,aO,[],fp0,rs0,ab0,ali _,Y⟩ ?_
 rintro k h3 ⟨hk,bB,out,fp,rs,hfp,tB,bN⟩;refine Bi (λah=>?_) λah=>?_
 .have ah:k<l.length:=V
  obtain⟨b,o,rfl⟩:=hv.addr V;have aI:=(hv.ext bB).cells dm (i:=k) (x:=l[k]) (by simp[ah]);rw[alx ah,o9]at bN;refine Ai V (Ai V (Ei (aK l[k]) (Ai Y (Ai aI ?_))));intro b4 h4 g4;refine Ei _ (Ai g4.blk (Ai Dd (Ai Y (Ai (DK Y Y) ?_))));intro h5 p5;have g5:=g4.put p5;have B5:ai h5 b4 (aK l[k]):=p5.blk;have dY:=g5.ae;have Us:=rs.ext dY;have akR:=Us;obtain⟨rb,bE,N,rfl,rk,rfl⟩:=Us;obtain⟨qH,Dz,sO,CD,jZ⟩:=rk.rd.r;obtain⟨es,cl,mo,ff,wL,hl⟩:=rk.look l[k].name;refine Ei _ (Ai (an jZ Y)<|Ei _ (Ai (an B5 Y)<|Ai Y (Ei es (Ei cl (Ai mo (Ai ff ?_))))));have uS:ag [] h1 h5:=bB.nil dY;rcases hl with⟨bw,hm⟩|⟨A,m,B,j,rfl,hA,wU,hm⟩
  .rw[hm];have fz:qA l[k].name out 0= -1:=Jg bw;rw[fz,akZ Dd]at bN;have KE:D6 out l[k]=false:=by
    have:=dU l[k] (ak9 ah);simp[D6];omega
   rw[KE,akZ Yy]at bN;have tE:D8 out l[k]=alh l[k] out:=by unfold D8;rw[Pd bw]
   rw[tE]at bN;have done:∀N' h6,RK h6 rb bE N' (alh l[k] out)->ag (fV rb bE N) h5 h6->(∀b∈fV rb bE N',b∈fV rb bE N∨h5.size<=b)->
     k+1<=l.length∧ag [] h1 h6∧∃out fp,RS h6 (ptr rb) out fp∧(∀b∈fp,h1.size<=b)∧out.length<=k+1∧o9 out (l.drop (k+1))=o9 [] l:=by
    intro N' h6 jL iz mU;refine⟨V,uS.fresh iz hfp,_,_,⟨rb,bE,N',Y,jL,Y⟩,λb hb=>?_,by rw[acW];omega,bN⟩;rcases mU b hb with h|h
    .exact hfp b h
    .have:=uS.size;omega
   refine Bi (λoL=>?_) λoL=>?_
   .have oL:k<cs.length:=V
    obtain⟨cb,co,rfl⟩:=Cu.addr V;have abR:=(Cu.ext uS).cells YL (i:=k) (x:=cs[k]) (by simp[oL]);refine Ai V (Ai V (Ei _ (Ai (abR 0 _ Y)<|Ei (aK l[k]) (Ai Y (Ai (akW B5)<|akV (G7 rk l[k] cs[k] bw V) ?_)))));rintro _ h6 ⟨N',jL,iz,mU⟩;refine Az<|Ai Y (Ei (k+1) (Ai ?_ (Ai (done N' h6 jL iz mU) ?_)))
    .exact J5
    .omega
   .refine Ei (aK l[k]) (Ai Y (Ai (akW B5)<|akV (G7 rk l[k] 0 bw V) ?_));rintro _ h6 ⟨N',jL,iz,mU⟩;refine Az<|Ai Y (Ei (k+1) (Ai ?_ (Ai (done N' h6 jL iz mU) ?_)))
    .exact J5
    .omega
  .rw[hm];refine LR (bd.nil uS) ?_ Dd;have hS:=rk.there hA;have hf:0<=qA l[k].name out 0:=by
    have f':=rk.names;rw[hS]at f'⊢;rw[<-wU,Pw f'];omega
   rw[ak4 hf]at bN;unfold qb;rw[akZ V,aS,akZ Yy,<-bN];rfl
 .have ah:k=l.length:=V
  subst ah;rw[amE,o9]at bN;have e0:qb l=0:=by
   unfold qb;rw[akZ V,aS,akZ Yy,<-bN];rfl
  refine Ai (bd.nil bB) ?_;rw[ak4 e0];have:DJ l=out:=by
   unfold DJ;rw[ak4 e0,<-bN];rfl
  rw[this];exact⟨rv,fp,Y,rs,λb hb=>by have:=hfp b hb;have:=bd.size;omega⟩
def ad'{h:af}{v cv:Value}{l:List aF}{cs:List Int}(hv:SL aK h v l)(Cu:SL encI h cv cs)(hl:l.length<4611686018427387904)(dE:cs.length<4611686018427387904)(ht:fw h):aj Tryz.prog 283 [v,cv] h (ao (Ie h l)):=by
 obtain⟨a,c,rfl,di⟩:=hv.form;refine f283.c<|Bi (λhn=>?_) λhn=>?_
 .exact LR (ag.refl h) (e:=3) (by unfold qb;rw[ak4 V]) Dd
 .refine bA (λk:Nat=>[(0,.slice a l.length c),(1,cv),(17,.slice a l.length c),(18,.int .i64 l.length),(19,.int .i64 k)]) (λk h'=>k<=l.length∧ag [] h h'∧(l.take k).any (λx=>decide (1048576<x.name.size))=false) (λk=>l.length-k) 0 J5 ⟨ak8 _,ag.refl h,Y⟩ ?_;rintro k h1 ⟨hk,bd,bD⟩;refine Bi (λah=>?_) λah=>?_
  .have ah:k<l.length:=V
   obtain⟨b,o,rfl⟩:=hv.addr V;have aI:=(hv.ext bd).cells dm (i:=k) (x:=l[k]) (by simp[ah]);refine Ai V (Ai V (Ei (aK l[k]) (Ai Y (Ai aI ?_))));intro b4 h4 g4;refine Ei _ (Ai g4.blk (Ai Dd (Ai Y (Ai (DK Y Y) ?_))));intro h5 p5;have g5:=g4.put p5;have B5:ai h5 b4 (aK l[k]):=p5.blk;have dY:=bd.nil g5.ae;refine Ei _ (Ai (an B5 Y)<|Bi (λhs=>?_) λhs=>?_)
   .refine LR dY (e:=3) ?_ Dd;unfold qb;rw[akZ V,WY ah Ys,ak4 Y]
   .refine Az<|Ai Y (Ei (k+1) (Ai ?_ (Ai ?_ ?_)))
    .exact J5
    .refine⟨V,dY,?_⟩;rw[iL l k ah,List.any_append,bD];simp;omega
    .omega
  .have ah:k=l.length:=V
   subst ah;rw[alm]at bD;exact aW [(0,.slice a l.length c),(1,cv)] J2 (aea (hv.ext bd) (Cu.ext bd) dE bd (ht.ae bd Yy) V bD)
end Go.Proofs.YtocgmipngoiieaaGreatDoor.K5
