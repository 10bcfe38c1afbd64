/-
  Runs of simplified code: each operation that calls nothing, soundly (3).
  Runs of simplified code: what goes along with a run; frames; calls; rounds.
  Runs of simplified code: operations, and each form of code.
  Runs of simplified code: each form of code; THE RUN IS SOUND.
  Runs of simplified code: functions without a body, as entries of a table.
  strings.asciiSpace as it is laid; what is handed on unseen.
-/
import Derived.Laws.Externs
import Derived.Lib.Bytealg
import Derived.Lib.MakeNoZero
import Derived.ProofKit
import Derived.WideShapes
import Derived.Test.YtikcimlokhmleaaGreatDoorRXB
set_option linter.unusedSimpArgs false
set_option linter.unusedVariables false
namespace Go.Sx
open Go
section
variable {P:Program} {ρ:Rho} {F:Nat→Prop} {h0 h h':Heap} {H H':AH} {E:AE} {σ:Env} {id:Nat} {v:AV} {K:Value→Heap→Prop} {Qp:List PanicEntry→Heap→Prop}
theorem countA_zero {l:List AV} {vs:List Value} (hc:concs ρ l=some vs):countA l=0↔vs=[]:=by
 have:=concs_len hc
 rw[countA_eq]
 constructor
 ·intro h;exact List.eq_nil_of_length_eq_zero (by omega)
 ·rintro rfl;simp at this;omega
theorem copies_conc {z:List AV} {zs:List Value} (hz:concs ρ z=some zs) (n:Nat):concs ρ (copies n z)=some ((List.replicate n zs).flatten):=by
 rw[copies_eq];exact concs_rep hz n
theorem wr_sound (hR:Rep F h0 ρ H h) {_x:AV} {_xv:Value} {a o:Nat} {ys:List AV} {yv:List Value} {KK:Heap→Prop} {g:Nat} {l:List AV} {addr:Option Addr} (hx:∃b ba cp,ρ.pl a=some (b,ba,cp)∧addr=some ⟨b,ba+o,none⟩)
  (hg:getB H a=some (false,g,l)) (hy:concs ρ ys=some yv) (h1:onesA ys=true) (hne:countA ys≠0) (hs:setB H a false g l o ys=some H') (hK:∀h',Rep F h0 ρ H' h'→KK h'):wrP h KK addr yv:=by
 obtain⟨b,ba,cp,hp,rfl⟩:=hx
 obtain⟨vs,pre,tail,hc⟩:=hR.cells hg hp
 obtain⟨w1,w2⟩:=hR.wrote hg hp hc hy hs
 exact⟨fun e=>absurd ((countA_zero hy).2 e) hne,fun _=>⟨_,hc.strict rfl,w1,concs_ones hy h1,fun h' hP=>hK h' (w2 h' (fun _=>hP) hP.w)⟩⟩
theorem wrb_sound (hR:Rep F h0 ρ H h) {a o:Nat} {ys:List AV} {yv:List Value} {KK:Heap→Prop} {g:Nat} {w:Bool} {l:List AV} {addr:Option Addr} (hx:∃b ba cp,ρ.pl a=some (b,ba,cp)∧addr=some ⟨b,ba+o,none⟩)
  (hg:getB H a=some (w,g,l)) (hy:concs ρ ys=some yv) (h1:onesA ys=true) (hne:countA ys≠0) (hs:setB H a true g l o ys=some H') (hK:∀h',Rep F h0 ρ H' h'→KK h'):wrB h KK addr yv:=by
 obtain⟨b,ba,cp,hp,rfl⟩:=hx
 obtain⟨vs,pre,tail,hc⟩:=hR.cells hg hp
 obtain⟨w1,w2⟩:=hR.wrote hg hp hc hy hs
 exact⟨fun e=>absurd ((countA_zero hy).2 e) hne,fun _=>⟨_,hc.wide,w1,concs_ones hy h1,fun h' hP=>hK h' (w2 h' (fun e=>by simp at e) hP)⟩⟩
theorem decode_ascii {l:List UInt8} {pos:Nat} {c:UInt8} (hc:l[pos]? =some c) (h:c.toNat<128):Utf8.decode ⟨⟨l⟩⟩ pos=(c.toNat,1):=by
 have hg:(ByteArray.mk ⟨l⟩).get! pos=c:=by
  have:=(List.getElem?_eq_some_iff.1 hc)
  obtain⟨hlt,he⟩:=this
  simp[ByteArray.get!,hlt,he]
 unfold Utf8.decode
 simp only[Nat.add_zero,hg]
 rw[if_pos h]
theorem aop_mem (hR:Rep F h0 ρ H h) (hE:RE ρ E σ):∀(op:SOp),cls op≠0→aop P E H id op=some (v,H')→Fine F h0 ρ H' v K→sop P σ h K Qp op:=by
 intro op hcls ho hK
 cases op<;>simp only[cls,ne_eq,not_true_eq_false]at hcls<;>try (simp only[aop]at ho;cases ho;done)
 case new z=>
  simp only[aop]at ho
  split at ho
  ·rename_i l hl
   split at ho
   ·rename_i H1 hg
    simp at ho;obtain⟨rfl,rfl⟩:=ho
    simp only[sop]
    intro b h' hG
    obtain⟨ρ',h1,h2,h3⟩:=hR.newCells (cp:=0) hg (avals_conc hl) (show Grow h h' b (z++[])by rw[List.append_nil];exact hG) (by simp)
    exact hK ρ' h' _ h1 h3 (by simp only[conc,h2])
   ·simp at ho
  ·simp at ho
 case newT t z=>
  simp only[aop]at ho
  split at ho
  ·rename_i l hl
   split at ho
   ·rename_i H1 hg
    simp at ho;obtain⟨rfl,rfl⟩:=ho
    simp only[sop]
    intro b h' hG hT
    obtain⟨ρ',h1,h2,h3⟩:=hR.newCellsT (sz:=0) (ty:=t) (cp:=0) gM_pos (by rw[Nat.zero_add];exact hg) (avals_conc hl) (show Grow h h' b (z++[])by rw[List.append_nil];exact hG) (by simp) (fun _=>⟨hT,fun _=>rfl⟩)
    exact hK ρ' h' _ h1 h3 (by simp only[conc,h2])
   ·simp at ho
  ·simp at ho
 case p2u x=>
  simp only[aop]at ho
  split at ho
  ·rename_i a o hx
   split at ho
   ·rename_i w g l hg
    simp only[cond_eq_ite,Nat.blt_eq]at ho
    split at ho
    ·rename_i hlt
     simp at ho;obtain⟨rfl,rfl⟩:=ho
     rw[countA_eq]at hlt
     obtain⟨b,ba,cp,hp,he⟩:=ev_p hR hE hx
     obtain⟨vs,pre,tail,hc⟩:=hR.cells hg hp
     have hvl:=concs_len hc.cs
     simp only[sop,he]
     exact⟨_,hc.wide,by simp[hc.pl];omega,Fine.now hR hK (by simp only[conc,hp])⟩
    ·simp at ho
   ·simp at ho
  ·simp at ho
 case u2p t n x=>
  simp only[aop]at ho
  split at ho
  ·rename_i a hx
   split at ho
   ·rename_i w g l hg
    simp only[cond_eq_ite,Bool.and_eq_true,Nat.beq_eq,Nat.blt_eq]at ho
    split at ho
    ·rename_i hcond
     obtain⟨⟨rfl,ht0⟩,hln⟩:=hcond
     simp at ho;obtain⟨rfl,rfl⟩:=ho
     rw[countA_eq]at hln
     obtain⟨b,ba,cp,hp,he⟩:=ev_p hR hE hx
     obtain⟨vs,pre,tail,hc⟩:=hR.cells hg hp
     have hvl:=concs_len hc.cs
     have hd:gM*t/gM=t:=Nat.mul_div_cancel_left t gM_pos
     have hm:gM*t%gM=0:=Nat.mul_mod_right gM t
     obtain⟨rfl,h2,h3⟩:=hc.tag (by rw[hd];omega)
     rw[hd]at h2
     have hpl:=hc.pl
     simp only[sop,he,Nat.add_zero]
     refine⟨_,hc.wide,?_,h2,Fine.now hR hK (by simp only[conc,hp])⟩
     rw[h3 hm];simp;omega
    ·simp at ho
   ·simp at ho
  ·simp at ho
 case ust e x n=>
  simp only[aop]at ho
  split at ho
  ·rename_i hx hn
   simp at ho;obtain⟨rfl,rfl⟩:=ho
   simp only[sop,ev_np hR hE hx,ev_i hR hE hn]
   exact⟨fun _=>Fine.now hR hK rfl,fun h=>absurd rfl h⟩
  ·rename_i a o m hx hn
   obtain⟨b,ba,cp,hp,he⟩:=ev_p hR hE hx
   simp only[sop,he,ev_i hR hE hn]
   simp only[cond_eq_ite,Bool.and_eq_true,Nat.beq_eq,Nat.blt_eq]at ho
   split at ho
   ·rename_i hm
    subst hm
    simp at ho;obtain⟨rfl,rfl⟩:=ho
    exact⟨fun _=>Fine.now hR hK rfl,fun h=>absurd rfl h⟩
   ·rename_i hm
    split at ho
    ·rename_i w g l hg
     split at ho
     ·rename_i hcond
      obtain⟨⟨⟨rfl,rfl⟩,he0⟩,h63⟩:=hcond
      split at ho
      ·rename_i vs hvs
       split at ho
       ·rename_i bs hbs
        split at ho
        ·rename_i H1 hput
         simp at ho;obtain⟨rfl,rfl⟩:=ho
         refine⟨fun h=>absurd h (by simp only[Int.ofNat_eq_natCast];omega),fun _=>?_⟩
         obtain⟨ws,pre,tail,hc⟩:=hR.cells hg hp
         obtain⟨rfl,h2,_⟩:=hc.tag (by omega)
         have hvl:=concs_len hc.cs
         have hpl:=hc.pl
         obtain⟨us,h3,h4,h5⟩:=hc.part (o:=0) (n:=m) (r:=vs) (by rw[dropped_eq,List.drop_zero];exact hvs)
         obtain⟨_,hle⟩:=taken_eq hvs
         obtain⟨e1,e2⟩:=abytes_sound (ρ:=ρ) hbs
         rw[h3]at e1
         simp at e1
         subst e1
         have hlen:bs.length=m:=by rw[←h4];simp
         have hml:=(taken_eq hvs).1
         refine⟨b,bs,pre++(ws++tail),rfl,by rw[hlen];rfl,by omega,hc.wide,h2,by simp;omega,fun j x hx=>?_,fun h' hsz hold=>?_⟩
         ·have:=h5 j (.int .u8 x.toNat) (by simp[hx])
          simpa using this
         ·exact hK ρ h' _ (Le.refl ρ) (hR.set (getB_get hg) (by simp) hp hput hsz (fun k hk=>hold k hk) fun h=>absurd rfl h) rfl
        ·simp at ho
       ·simp at ho
      ·simp at ho
     ·simp at ho
    ·simp at ho
  ·simp at ho
 case rngs x=>
  simp only[aop]at ho
  split at ho
  ·rename_i l hx
   split at ho
   ·rename_i H1 hg
    simp at ho;obtain⟨rfl,rfl⟩:=ho
    simp only[sop,ev_s hR hE hx]
    intro b h' hG
    obtain⟨ρ',h1,h2,h3⟩:=hR.new (cp:=0) hg hG.id hG.size hG.old fun ρ' hl _=>⟨hG.blk,rfl⟩
    exact hK ρ' h' _ h1 h3 (by simp only[conc,h2])
   ·simp at ho
  ·simp at ho
 case nxts x=>
  simp only[aop]at ho
  split at ho
  ·rename_i r hx
   obtain⟨b,ba,cp,hp,he⟩:=ev_p hR hE hx
   split at ho
   ·rename_i l pos hr
    obtain⟨q,hq,_,_,i1,i2⟩:=hR.obj r _ hr (by simp)
    rw[hp]at hq;simp at hq;subst hq
    simp at i1 i2
    subst i2
    simp only[sop,he,Nat.add_zero]
    refine⟨_,_,i1,fun hge=>?_,fun hlt=>?_⟩
    ·have hge:l.length≤pos:=hge
     split at ho
     ·rename_i c hc
      rw[nth_eq]at hc
      have:=(List.getElem?_eq_some_iff.1 hc).1
      omega
     ·simp only[cond_eq_ite,Nat.ble_eq]at ho
      split at ho
      ·simp at ho;obtain⟨rfl,rfl⟩:=ho
       exact Fine.now hR hK rfl
      ·simp at ho
    ·have hlt:pos<l.length:=hlt
     split at ho
     ·rename_i c hc
      rw[nth_eq]at hc
      simp only[cond_eq_ite,Nat.blt_eq]at ho
      split at ho
      ·rename_i h128
       split at ho
       ·rename_i H1 hput
        simp at ho;obtain⟨rfl,rfl⟩:=ho
        have hdec:=decode_ascii hc h128
        intro h' hP
        rw[hdec]at hP⊢
        refine hK ρ h' _ (Le.refl ρ) (hR.set hr (by simp) hp hput hP.size (fun k hk=>hP.old k hk) fun _=>⟨hP.blk,rfl⟩) ?_
        simp[mkI_eq,conc,concs]
       ·simp at ho
      ·simp at ho
     ·rename_i hc
      rw[nth_eq]at hc
      have:=List.getElem?_eq_none_iff.1 hc
      omega
   ·simp at ho
  ·simp at ho
 case box x=>
  simp only[aop]at ho
  split at ho
  ·rename_i a hx
   split at ho
   ·rename_i l hl
    split at ho
    ·rename_i H1 hg
     simp at ho;obtain⟨rfl,rfl⟩:=ho
     obtain⟨u,h1,h2⟩:=aev_sound hR hE hx
     simp only[sop,h2]
     intro b h' hG
     obtain⟨ρ',h3,h4,h5⟩:=hR.newCells (cp:=0) hg (conc_cells h1 hl) (show Grow h h' b (u.cells.toList++[])by rw[List.append_nil];exact hG) (by simp)
     exact hK ρ' h' _ h3 h5 (by simp only[conc,h4])
    ·simp at ho
   ·simp at ho
  ·simp at ho
 case bslice z n ps xs=>
  simp only[aop]at ho
  split at ho
  ·rename_i zl vs hz hx
   split at ho
   ·rename_i l hl
    split at ho
    ·rename_i H1 hg
     simp at ho;obtain⟨rfl,rfl⟩:=ho
     obtain⟨us,h1,h2⟩:=aevs_sound hR hE hx
     obtain⟨ls,h3,h4⟩:=fillA_sound hl (avals_conc hz) h1
     simp only[sop,h2,h3]
     intro b h' hG
     obtain⟨ρ',h5,h6,h7⟩:=hR.newCells (cp:=0) hg h4 (show Grow h h' b (ls++[])by rw[List.append_nil];exact hG) (by simp)
     exact hK ρ' h' _ h5 h7 (by simp only[conc,h6,Nat.add_zero])
    ·simp at ho
   ·simp at ho
  ·simp at ho
 case ld1 x=>
  simp only[aop]at ho
  split at ho
  ·rename_i a o hx
   split at ho
   ·rename_i w g l hg
    split at ho
    ·rename_i y hy
     simp at ho;obtain⟨rfl,rfl⟩:=ho
     obtain⟨b,ba,cp,hp,he⟩:=ev_p hR hE hx
     obtain⟨vs,pre,tail,hc⟩:=hR.cells hg hp
     obtain⟨u,h1,h2⟩:=hc.at hy
     simp only[sop,he]
     exact⟨u,h2,Fine.now hR hK h1⟩
    ·simp at ho
   ·simp at ho
  ·simp at ho
 case ldn n x=>
  simp only[aop]at ho
  split at ho
  ·rename_i a o hx
   split at ho
   ·rename_i w g l hg
    split at ho
    ·rename_i r hr
     simp at ho;obtain⟨rfl,rfl⟩:=ho
     obtain⟨b,ba,cp,hp,he⟩:=ev_p hR hE hx
     obtain⟨vs,pre,tail,hc⟩:=hR.cells hg hp
     obtain⟨us,h1,h2,h3⟩:=hc.part hr
     simp only[sop,he]
     exact⟨us,h2,h3,Fine.now hR hK (by simp only[conc,h1])⟩
    ·simp at ho
   ·simp at ho
  ·simp at ho
 case st n x y=>
  simp only[aop]at ho
  split at ho
  ·rename_i a o yv hx hy
   split at ho
   ·rename_i g l vs hg hc
    simp only[cond_eq_ite,Bool.and_eq_true,Nat.beq_eq]at ho
    split at ho
    ·rename_i hcond
     split at ho
     ·rename_i H1 hs
      simp at ho;obtain⟨rfl,rfl⟩:=ho
      obtain⟨b,ba,cp,hp,he⟩:=ev_p hR hE hx
      obtain⟨u,h1,h2⟩:=aev_sound hR hE hy
      have hcc:=conc_cells h1 hc
      obtain⟨ws,pre,tail,hca⟩:=hR.cells hg hp
      obtain⟨w1,w2⟩:=hR.wrote hg hp hca hcc hs
      have hlen:=concs_len hcc
      rw[countA_eq]at hcond
      simp only[sop,he,h2]
      exact⟨_,hca.strict rfl,by omega,by omega,concs_ones hcc hcond.2,fun h' hP=>hK ρ h' _ (Le.refl ρ) (w2 h' (fun _=>hP) hP.w) rfl⟩
     ·simp at ho
    ·simp at ho
   ·simp at ho
  ·simp at ho
 case stb x y=>
  simp only[aop]at ho
  split at ho
  ·rename_i a o yv hx hy
   split at ho
   ·rename_i w g l vs hg hc
    simp only[cond_eq_ite,Bool.and_eq_true,Nat.beq_eq]at ho
    split at ho
    ·rename_i hcond
     split at ho
     ·rename_i H1 hs
      simp at ho;obtain⟨rfl,rfl⟩:=ho
      obtain⟨b,ba,cp,hp,he⟩:=ev_p hR hE hx
      obtain⟨u,h1,h2⟩:=aev_sound hR hE hy
      have hcc:=conc_cells h1 hc
      obtain⟨ws,pre,tail,hca⟩:=hR.cells hg hp
      obtain⟨w1,w2⟩:=hR.wrote hg hp hca hcc hs
      have hlen:=concs_len hcc
      rw[countA_eq]at hcond
      simp only[sop,he,h2]
      exact⟨_,hca.wide,by omega,by omega,concs_ones hcc hcond.2,fun h' hP=>hK ρ h' _ (Le.refl ρ) (w2 h' (fun e=>by simp at e) hP) rfl⟩
     ·simp at ho
    ·simp at ho
   ·simp at ho
  ·simp at ho
 case eqp neg x y=>
  simp only[aop]at ho
  split at ho
  ·rename_i hx hy
   simp at ho;obtain⟨rfl,rfl⟩:=ho
   simp only[sop,ev_np hR hE hx,ev_np hR hE hy];exact Fine.now hR hK rfl
  ·rename_i a o hx hy
   simp at ho;obtain⟨rfl,rfl⟩:=ho
   obtain⟨b,ba,cp,hp,he⟩:=ev_p hR hE hy
   simp only[sop,ev_np hR hE hx,he];exact Fine.now hR hK rfl
  ·rename_i a o hx hy
   simp at ho;obtain⟨rfl,rfl⟩:=ho
   obtain⟨b,ba,cp,hp,he⟩:=ev_p hR hE hx
   simp only[sop,ev_np hR hE hy,he];exact Fine.now hR hK rfl
  ·rename_i a o a' o' hx hy
   split at ho
   ·rename_i g l1 l g' l1' l' hg hg'
    simp at ho;obtain⟨rfl,rfl⟩:=ho
    obtain⟨b,ba,cp,hp,he⟩:=ev_p hR hE hx
    obtain⟨b',ba',cp',hp',he'⟩:=ev_p hR hE hy
    obtain⟨ws,pre,tail,hca⟩:=hR.cells hg hp
    obtain⟨ws',pre',tail',hca'⟩:=hR.cells hg' hp'
    have n1:pre++(ws++tail)≠[]:=by
     have:=concs_len hca.cs
     intro e;have:=congrArg List.length e;simp at this;simp_all
    have n2:pre'++(ws'++tail')≠[]:=by
     have:=concs_len hca'.cs
     intro e;have:=congrArg List.length e;simp at this;simp_all
    simp only[sop,he,he']
    refine⟨⟨_,hca.strict rfl,n1⟩,⟨_,hca'.strict rfl,n2⟩,fun e1 e2=>?_,fun hn=>?_⟩
    ·have haa:a=a':=by
      by_cases h:a=a'
      ·exact h
      ·exact absurd e1 (hR.inj a a' _ _ _ _ (getB_get hg) (by simp) (getB_get hg') (by simp) hp hp' h)
     subst haa
     rw[hp]at hp';simp at hp'
     have hoo:o=o':=by omega
     have:=Fine.now hR hK (eqResI_conc neg (Nat.beq a a&&Nat.beq o o'))
     rw[hoo]at this
     simpa using this
    ·have hf:(Nat.beq a a'&&Nat.beq o o')=false:=by
      cases hb:(Nat.beq a a'&&Nat.beq o o')with
      |false=>rfl
      |true=>
       exfalso
       simp only[Bool.and_eq_true,Nat.beq_eq]at hb
       obtain⟨rfl,rfl⟩:=hb
       rw[hp]at hp';simp at hp'
       exact hn ⟨hp'.1,by omega⟩
     have:=Fine.now hR hK (eqResI_conc neg (Nat.beq a a'&&Nat.beq o o'))
     rwa [hf]at this
   ·simp at ho
  ·simp at ho
 case bstr x=>
  simp only[aop]at ho
  split at ho
  ·rename_i a hx
   split at ho
   ·rename_i n hn
    split at ho
    ·rename_i vs hvs
     split at ho
     ·rename_i bs hbs
      simp at ho;obtain⟨rfl,rfl⟩:=ho
      obtain⟨u,h1,h2⟩:=aev_sound hR hE hx
      obtain⟨p,m,c,us,rfl,h3,h4,h5,h6⟩:=readS_sound hR h1 hvs
      obtain⟨p',c',he⟩:=alen_sound h1 hn
      simp at he
      obtain⟨rfl,rfl,rfl⟩:=he
      obtain⟨h7,h8⟩:=abytes_sound (ρ:=ρ) hbs
      rw[h3]at h7;simp at h7;subst h7
      simp only[sop,h2]
      have hl:=concs_len h3
      refine⟨bs,by omega,?_,Fine.now hR hK rfl⟩
      unfold Src at h5
      unfold Src0
      split at h5
      ·exact h5
      ·exact h5
      ·rename_i b o s
       have:=h6 b o (some s) rfl
       simp at this
     ·simp at ho
    ·simp at ho
   ·simp at ho
  ·simp at ho
 case lenm x=>
  simp only[aop]at ho
  split at ho
  ·rename_i hx
   simp at ho;obtain⟨rfl,rfl⟩:=ho
   simp only[sop,ev_nm hR hE hx];exact Fine.now hR hK rfl
  ·rename_i a hx
   split at ho
   ·rename_i es c hg
    simp at ho;obtain⟨rfl,rfl⟩:=ho
    obtain⟨b,ba,cp,hp,he⟩:=ev_m hR hE hx
    obtain⟨ms,h1,h2⟩:=hR.mapOf hg hp
    simp only[sop,he]
    exact⟨ms,c,h1,Fine.now hR hK (by simp only[conc,countA_eq,h2.len])⟩
   ·simp at ho
  ·simp at ho
 case mks bytes z x y=>
  simp only[aop]at ho
  split at ho
  ·rename_i zl n c hz hx hy
   simp only[cond_eq_ite,Bool.and_eq_true,Nat.ble_eq,Nat.blt_eq]at ho
   split at ho
   ·rename_i hcond
    split at ho
    ·rename_i H1 hg
     simp at ho;obtain⟨rfl,rfl⟩:=ho
     simp only[sop,ev_i hR hE hx,ev_i hR hE hy]
     refine⟨by simp only[Int.ofNat_eq_natCast];omega,by simp only[Int.ofNat_eq_natCast];omega,?_,by simp only[Int.ofNat_eq_natCast];omega,fun b h' hG=>?_⟩
     ·have:=hcond.1.2
      simp only[Int.ofNat_eq_natCast]
      rw[←Int.natCast_mul];omega
     ·obtain⟨ρ',h5,h6,h7⟩:=hR.newCells (cp:=0) hg (copies_conc (avals_conc hz) c) (show Grow h h' b ((List.replicate c z).flatten++[])by rw[List.append_nil];exact hG) (by simp)
      exact hK ρ' h' _ h5 h7 (by simp[conc,h6])
    ·simp at ho
   ·simp at ho
  ·simp at ho
 case mkm=>
  simp only[aop]at ho
  split at ho
  ·rename_i H1 hg
   simp at ho;obtain⟨rfl,rfl⟩:=ho
   simp only[sop]
   intro b h' hG
   obtain⟨ρ',h1,h2,h3⟩:=hR.new (cp:=0) hg hG.id hG.size hG.old fun ρ' hl _=>⟨[],hG.blk,trivial⟩
   exact hK ρ' h' _ h1 h3 (by simp only[conc,h2])
  ·simp at ho
 case look kd zero ok m k=>
  simp only[aop]at ho
  split at ho
  ·rename_i z a hz hm hk
   simp only[cond_eq_ite]at ho
   split at ho
   ·rename_i hf
    simp at ho;obtain⟨rfl,rfl⟩:=ho
    obtain⟨kv,h1,h2⟩:=aev_sound hR hE hk
    simp only[sop,ev_nm hR hE hm,h2]
    refine⟨afits_fits hf h1,Fine.now hR hK ?_⟩
    cases ok<;>simp[conc,concs,avalg_conc hz]
   ·simp at ho
  ·rename_i z ma a hz hm hk
   split at ho
   ·rename_i es c hg
    simp only[cond_eq_ite,Bool.and_eq_true]at ho
    split at ho
    ·rename_i hf
     obtain⟨kv,h1,h2⟩:=aev_sound hR hE hk
     obtain⟨b,ba,cp,hp,he⟩:=ev_m hR hE hm
     obtain⟨ms,h3,h4⟩:=hR.mapOf hg hp
     obtain⟨f1,f2⟩:=h4.find hf.1 h1 0 hf.2
     simp only[sop,he,h2]
     refine⟨afits_fits hf.1 h1,ms,c,h3,h4.fits hf.2,?_⟩
     split at ho
     ·rename_i j x hfind
      simp at ho;obtain⟨rfl,rfl⟩:=ho
      obtain⟨u,h5,h6⟩:=f1 j x hfind
      simp only[h5]
      refine Fine.now hR hK ?_
      cases ok<;>simp[conc,concs,h6]
     ·rename_i hfind
      simp at ho;obtain⟨rfl,rfl⟩:=ho
      simp only[f2 hfind]
      refine Fine.now hR hK ?_
      cases ok<;>simp[conc,concs,avalg_conc hz]
    ·simp at ho
   ·simp at ho
  ·simp at ho
 case mup kd m k x=>
  simp only[aop]at ho
  split at ho
  ·rename_i ma ka xa hm hk hx
   split at ho
   ·rename_i es c hg
    simp only[cond_eq_ite,Bool.and_eq_true]at ho
    split at ho
    ·rename_i hf
     obtain⟨kv,h1,h2⟩:=aev_sound hR hE hk
     obtain⟨xv,h1',h2'⟩:=aev_sound hR hE hx
     obtain⟨b,ba,cp,hp,he⟩:=ev_m hR hE hm
     obtain⟨ms,h3,h4⟩:=hR.mapOf hg hp
     obtain⟨f1,f2⟩:=h4.find hf.1 h1 0 hf.2
     simp only[sop,he,h2,h2']
     refine⟨afits_fits hf.1 h1,ms,c,h3,h4.fits hf.2,?_⟩
     split at ho
     ·rename_i j y hfind
      split at ho
      ·rename_i H1 hput
       simp at ho;obtain⟨rfl,rfl⟩:=ho
       obtain⟨u,h5,h6⟩:=f1 j y hfind
       simp only[h5]
       exact fun h' hP=>hK ρ h' _ (Le.refl ρ) (hR.setMap hg hp hput hP (h4.set h1' j)) rfl
      ·simp at ho
     ·rename_i hfind
      split at ho
      ·rename_i H1 hput
       simp at ho;obtain⟨rfl,rfl⟩:=ho
       simp only[f2 hfind]
       exact fun h' hP=>hK ρ h' _ (Le.refl ρ) (hR.setMap hg hp hput hP (by rw[joined_eq];exact h4.app h1 h1')) rfl
      ·simp at ho
    ·simp at ho
   ·simp at ho
  ·simp at ho
 case mdel kd m k=>
  simp only[aop]at ho
  split at ho
  ·rename_i ka hm hk
   simp only[cond_eq_ite]at ho
   split at ho
   ·rename_i hf
    simp at ho;obtain⟨rfl,rfl⟩:=ho
    obtain⟨kv,h1,h2⟩:=aev_sound hR hE hk
    simp only[sop,ev_nm hR hE hm,h2]
    exact⟨afits_fits hf h1,Fine.now hR hK rfl⟩
   ·simp at ho
  ·rename_i ma ka hm hk
   split at ho
   ·rename_i es c hg
    simp only[cond_eq_ite,Bool.and_eq_true]at ho
    split at ho
    ·rename_i hf
     obtain⟨kv,h1,h2⟩:=aev_sound hR hE hk
     obtain⟨b,ba,cp,hp,he⟩:=ev_m hR hE hm
     obtain⟨ms,h3,h4⟩:=hR.mapOf hg hp
     obtain⟨f1,f2⟩:=h4.find hf.1 h1 0 hf.2
     simp only[sop,he,h2]
     refine⟨afits_fits hf.1 h1,ms,c,h3,h4.fits hf.2,?_⟩
     split at ho
     ·rename_i j y hfind
      split at ho
      ·rename_i H1 hput
       simp at ho;obtain⟨rfl,rfl⟩:=ho
       obtain⟨u,h5,h6⟩:=f1 j y hfind
       simp only[h5]
       exact fun h' hP=>hK ρ h' _ (Le.refl ρ) (hR.setMap hg hp hput hP (h4.del j)) rfl
      ·simp at ho
     ·rename_i hfind
      split at ho
      ·rename_i H1 hput
       simp at ho;obtain⟨rfl,rfl⟩:=ho
       simp only[f2 hfind]
       exact fun h' hP=>hK ρ h' _ (Le.refl ρ) (hR.setMap hg hp hput hP h4) rfl
      ·simp at ho
    ·simp at ho
   ·simp at ho
  ·simp at ho
 case clrm x=>
  simp only[aop]at ho
  split at ho
  ·rename_i hx
   simp at ho;obtain⟨rfl,rfl⟩:=ho
   simp only[sop,ev_nm hR hE hx];exact Fine.now hR hK rfl
  ·rename_i a hx
   split at ho
   ·rename_i es c hg
    split at ho
    ·rename_i H1 hput
     simp at ho;obtain⟨rfl,rfl⟩:=ho
     obtain⟨b,ba,cp,hp,he⟩:=ev_m hR hE hx
     obtain⟨ms,h3,h4⟩:=hR.mapOf hg hp
     simp only[sop,he]
     exact⟨ms,c,h3,fun h' hP=>hK ρ h' _ (Le.refl ρ) (hR.setMap hg hp hput hP trivial) rfl⟩
    ·simp at ho
   ·simp at ho
  ·simp at ho
 case byts x=>
  simp only[aop]at ho
  split at ho
  ·rename_i l hx
   split at ho
   ·rename_i H1 hg
    simp at ho;obtain⟨rfl,rfl⟩:=ho
    simp only[sop,ev_s hR hE hx]
    intro c b h' hc hG
    have hsz:(⟨⟨l⟩⟩:ByteArray).size=l.length:=rfl
    obtain⟨ρ',h5,h6,h7⟩:=hR.newCellsW (cp:=c) hg (byteCells_conc l) hG (fun _=>by have hc':l.length≤c:=hc;simp[abyteCells,hsz];omega)
    refine hK ρ' h' _ h5 h7 ?_
    simp only[conc,h6,countA_eq]
    rw[hsz]at hc
    rw[if_pos (by omega)]
    simp[hsz]
   ·simp at ho
  ·simp at ho
 case app size bytes z x y=>
  simp only[aop]at ho
  split at ho
  ·rename_i xa ya hx hy
   split at ho
   ·rename_i m hm
    split at ho
    ·rename_i ys hys
     simp only[cond_eq_ite,Bool.and_eq_true,Nat.beq_eq]at ho
     split at ho
     ·rename_i h1
      obtain⟨xv,hxc,hxe⟩:=aev_sound hR hE hx
      obtain⟨yv,hyc,hye⟩:=aev_sound hR hE hy
      obtain⟨p,m',c,us,rfl,h3,h4,h5,h6⟩:=readS_sound hR hyc hys
      obtain⟨p',c',he⟩:=alen_sound hyc hm
      simp at he
      obtain⟨rfl,rfl,rfl⟩:=he
      rw[countA_eq]at h1
      obtain⟨a,n,c,rfl,hap⟩:=appA_sound (z:=z) hR hxc h1.2 h3 h4 h5 h1.1 ho hK
      simp only[sop,hxe,hye]
      exact hap
     ·simp at ho
    ·simp at ho
   ·simp at ho
  ·simp at ho
 case appn size bytes z y=>
  simp only[aop]at ho
  split at ho
  ·rename_i ya hy
   split at ho
   ·rename_i m hm
    split at ho
    ·rename_i ys hys
     simp only[cond_eq_ite,Bool.and_eq_true,Nat.beq_eq]at ho
     split at ho
     ·rename_i h1
      obtain⟨yv,hyc,hye⟩:=aev_sound hR hE hy
      obtain⟨p,m',c,us,rfl,h3,h4,h5,h6⟩:=readS_sound hR hyc hys
      obtain⟨p',c',he⟩:=alen_sound hyc hm
      simp at he
      obtain⟨rfl,rfl,rfl⟩:=he
      rw[countA_eq]at h1
      obtain⟨a,n,c,hs,hap⟩:=appA_sound (x:=.ns) (xv:=.slice none 0 0) (z:=z) hR rfl h1.2 h3 h4 h5 h1.1 ho hK
      simp at hs
      obtain⟨rfl,rfl,rfl⟩:=hs
      simp only[sop,hye]
      exact hap
     ·simp at ho
    ·simp at ho
   ·simp at ho
  ·simp at ho
 case appb e x y=>
  simp only[aop]at ho
  split at ho
  ·rename_i xa ya hx hy
   split at ho
   ·rename_i m hm
    split at ho
    ·rename_i ys hys
     simp only[cond_eq_ite]at ho
     split at ho
     ·rename_i h1
      obtain⟨xv,hxc,hxe⟩:=aev_sound hR hE hx
      obtain⟨yv,hyc,hye⟩:=aev_sound hR hE hy
      obtain⟨us,h3,h4,h5⟩:=readB_sound hR hyc hys
      have hl:=alenB_sound hyc hm
      obtain⟨a,n,c,rfl,hap⟩:=appB_sound hR hxc h3 h4 h5 h1 ho hK
      simp only[sop,hxe,hye,hl]
      exact hap
     ·simp at ho
    ·simp at ho
   ·simp at ho
  ·simp at ho
 case appz size bytes z x y=>
  simp only[aop]at ho
  split at ho
  ·rename_i zl m hz hx hy
   simp only[cond_eq_ite,Bool.and_eq_true,Nat.beq_eq,Nat.ble_eq,Nat.blt_eq]at ho
   split at ho
   ·rename_i hcond
    split at ho
    ·rename_i H1 hg
     simp at ho;obtain⟨rfl,rfl⟩:=ho
     simp only[sop,ev_ns hR hE hx,ev_i hR hE hy]
     have hzl:=concs_len (avals_conc (ρ:=ρ) hz)
     rw[countA_eq]at hcond
     refine⟨by simp only[Int.ofNat_eq_natCast];omega,by simp only[Int.ofNat_eq_natCast];omega,[],by simp,rfl,by simp only[Int.ofNat_eq_natCast];omega,by simp only[Int.ofNat_eq_natCast,Int.toNat_natCast,Nat.zero_add];omega,fun c' b h' hc hG=>?_⟩
     rw[List.nil_append]at hG
     simp only[Int.ofNat_eq_natCast,Int.toNat_natCast,Nat.zero_add]at hc hG⊢
     have hcc:=copies_conc (avals_conc (ρ:=ρ) hz) m
     have hlen:=concs_len hcc
     obtain⟨ρ',h5,h6,h7⟩:=hR.newCells (cp:=c') hg hcc hG (fun _=>by
      rw[←hlen,List.length_flatten,List.map_replicate,List.sum_replicate_nat,List.length_flatten,List.map_replicate,List.sum_replicate_nat]
      have e:z.length=size:=by omega
      rw[e]
      refine⟨Nat.mul_le_mul_right _ hc,?_⟩
      rw[←Nat.add_mul];exact Nat.mul_le_mul_right _ (by omega)) (by omega)
     refine hK ρ' h' _ h5 h7 ?_
     simp only[conc,h6]
     rw[if_pos (by omega)]
     simp
    ·simp at ho
   ·simp at ho
  ·rename_i zl a o n c m hz hx hy
   simp only[cond_eq_ite,Bool.and_eq_true,Nat.beq_eq,Nat.ble_eq,Nat.blt_eq]at ho
   split at ho
   ·rename_i hcond
    split at ho
    ·rename_i w g l hgb
     split at ho
     ·rename_i xs hxs
      split at ho
      ·rename_i H1 hg
       simp at ho;obtain⟨rfl,rfl⟩:=ho
       obtain⟨b0,ba,cp,hp,he⟩:=ev_sl hR hE hx
       simp only[sop,he,ev_i hR hE hy]
       obtain⟨ws,pre,tail,hca⟩:=hR.cells hgb hp
       obtain⟨us,h2,h3,h4⟩:=hca.part hxs
       have hzl:=concs_len (avals_conc (ρ:=ρ) hz)
       rw[countA_eq]at hcond
       refine⟨by simp only[Int.ofNat_eq_natCast];omega,by simp only[Int.ofNat_eq_natCast];omega,us,h3,h4,by simp only[Int.ofNat_eq_natCast];omega,by simp only[Int.ofNat_eq_natCast,Int.toNat_natCast];omega,fun c' b h' hc hG=>?_⟩
       simp only[Int.ofNat_eq_natCast,Int.toNat_natCast]at hc hG⊢
       have hcc:concs ρ (joined xs (copies m zl))=some (us++(List.replicate m z).flatten):=by rw[joined_eq];exact concs_app h2 (copies_conc (avals_conc (ρ:=ρ) hz) m)
       have hlen:=concs_len hcc
       obtain⟨ρ',h5,h6,h7⟩:=hR.newCells (cp:=c') hg hcc hG (fun _=>by
        rw[←hlen,List.length_append,h3,List.length_flatten,List.map_replicate,List.sum_replicate_nat,List.length_flatten,List.map_replicate,List.sum_replicate_nat]
        have e:z.length=size:=by omega
        rw[e,←Nat.add_mul]
        refine⟨Nat.mul_le_mul_right _ hc,?_⟩
        rw[←Nat.add_mul];exact Nat.mul_le_mul_right _ (by omega)) (by omega)
       refine hK ρ' h' _ h5 h7 ?_
       simp only[conc,h6]
       rw[if_pos (by omega)]
       simp
      ·simp at ho
     ·simp at ho
    ·simp at ho
   ·simp at ho
  ·simp at ho
 case cpy size x y=>
  simp only[aop]at ho
  split at ho
  ·rename_i xa ya hx hy
   split at ho
   ·rename_i n m hn hm
    split at ho
    ·rename_i ys hys
     obtain⟨xv,hxc,hxe⟩:=aev_sound hR hE hx
     obtain⟨yv,hyc,hye⟩:=aev_sound hR hE hy
     obtain⟨p,m',c,us,rfl,h3,h4,h5,h6⟩:=readS_sound hR hyc hys
     obtain⟨p',c',he⟩:=alen_sound hyc hm
     simp at he
     obtain⟨rfl,rfl,rfl⟩:=he
     obtain⟨q,cc,rfl⟩:=alen_sound hxc hn
     simp only[sop,hxe,hye]
     simp only[cond_eq_ite,Nat.beq_eq]at ho
     split at ho
     ·rename_i hz
      simp at ho;obtain⟨rfl,rfl⟩:=ho
      have he:=(countA_zero h3).1 hz
      exact⟨us,h4,h5,fun _=>Fine.now hR hK rfl,fun hne=>absurd he hne⟩
     ·rename_i hz
      split at ho
      ·rename_i a o n' c''
       split at ho
       ·rename_i g l hg
        split at ho
        ·rename_i h1
         split at ho
         ·rename_i H1 hs
          simp at ho;obtain⟨rfl,rfl⟩:=ho
          refine⟨us,h4,h5,wr_sound (_xv:=.nilFunc) (_x:=.nf) hR ?_ hg h3 h1 hz hs fun h' hR'=>hK ρ h' _ (Le.refl ρ) hR' rfl⟩
          simp only[conc]at hxc
          split at hxc
          ·rename_i b ba cp hp
           simp at hxc
           exact⟨b,ba,cp,hp,hxc.1.symm⟩
          ·simp at hxc
         ·simp at ho
        ·simp at ho
       ·simp at ho
      ·rename_i a o n' c''
       split at ho
       ·rename_i g l hg
        split at ho
        ·rename_i h1
         split at ho
         ·rename_i H1 hs
          simp at ho;obtain⟨rfl,rfl⟩:=ho
          refine⟨us,h4,h5,wr_sound (_xv:=.nilFunc) (_x:=.nf) hR ?_ hg h3 h1 hz hs fun h' hR'=>hK ρ h' _ (Le.refl ρ) hR' rfl⟩
          simp only[conc]at hxc
          split at hxc
          ·rename_i b ba cp hp
           split at hxc
           ·simp at hxc
            exact⟨b,ba,cp,hp,hxc.1.symm⟩
           ·simp at hxc
          ·simp at hxc
         ·simp at ho
        ·simp at ho
       ·simp at ho
      ·simp at ho
    ·simp at ho
   ·simp at ho
  ·simp at ho
 case cpyb x y=>
  simp only[aop]at ho
  split at ho
  ·rename_i xa ya hx hy
   split at ho
   ·rename_i n m hn hm
    split at ho
    ·rename_i ys hys
     obtain⟨xv,hxc,hxe⟩:=aev_sound hR hE hx
     obtain⟨yv,hyc,hye⟩:=aev_sound hR hE hy
     obtain⟨us,h3,h4,h5⟩:=readB_sound hR hyc hys
     have hl:=alenB_sound hyc hm
     obtain⟨q,cc,rfl⟩:=alen_sound hxc hn
     simp only[sop,hxe,hye,hl]
     simp only[cond_eq_ite,Nat.beq_eq]at ho
     split at ho
     ·rename_i hz
      simp at ho;obtain⟨rfl,rfl⟩:=ho
      have he:=(countA_zero h3).1 hz
      exact⟨us,h4,h5,fun _=>Fine.now hR hK rfl,fun hne=>absurd he hne⟩
     ·rename_i hz
      split at ho
      ·rename_i a o n' c''
       split at ho
       ·rename_i w g l hg
        split at ho
        ·rename_i h1
         split at ho
         ·rename_i H1 hs
          simp at ho;obtain⟨rfl,rfl⟩:=ho
          refine⟨us,h4,h5,wrb_sound hR ?_ hg h3 h1 hz hs fun h' hR'=>hK ρ h' _ (Le.refl ρ) hR' rfl⟩
          simp only[conc]at hxc
          split at hxc
          ·rename_i b ba cp hp
           simp at hxc
           exact⟨b,ba,cp,hp,hxc.1.symm⟩
          ·simp at hxc
         ·simp at ho
        ·simp at ho
       ·simp at ho
      ·rename_i a o n' c''
       split at ho
       ·rename_i w g l hg
        split at ho
        ·rename_i h1
         split at ho
         ·rename_i H1 hs
          simp at ho;obtain⟨rfl,rfl⟩:=ho
          refine⟨us,h4,h5,wrb_sound hR ?_ hg h3 h1 hz hs fun h' hR'=>hK ρ h' _ (Le.refl ρ) hR' rfl⟩
          simp only[conc]at hxc
          split at hxc
          ·rename_i b ba cp hp
           split at hxc
           ·simp at hxc
            exact⟨b,ba,cp,hp,hxc.1.symm⟩
           ·simp at hxc
          ·simp at hxc
         ·simp at ho
        ·simp at ho
       ·simp at ho
      ·simp at ho
    ·simp at ho
   ·simp at ho
  ·simp at ho
 case clr z x=>
  simp only[aop]at ho
  split at ho
  ·rename_i zl xa hz hx
   split at ho
   ·rename_i n hn
    obtain⟨xv,hxc,hxe⟩:=aev_sound hR hE hx
    obtain⟨q,cc,rfl⟩:=alen_sound hxc hn
    have hcc:=copies_conc (avals_conc (ρ:=ρ) hz) n
    simp only[sop,hxe]
    simp only[cond_eq_ite,Nat.beq_eq]at ho
    split at ho
    ·rename_i h0'
     simp at ho;obtain⟨rfl,rfl⟩:=ho
     have he:=(countA_zero hcc).1 h0'
     exact⟨fun _=>Fine.now hR hK rfl,fun hne=>absurd he hne⟩
    ·rename_i h0'
     split at ho
     ·rename_i a o n' c''
      split at ho
      ·rename_i g l hg
       split at ho
       ·rename_i h1
        split at ho
        ·rename_i H1 hs
         simp at ho;obtain⟨rfl,rfl⟩:=ho
         refine wr_sound (_xv:=.nilFunc) (_x:=.nf) hR ?_ hg hcc h1 h0' hs fun h' hR'=>hK ρ h' _ (Le.refl ρ) hR' rfl
         simp only[conc]at hxc
         split at hxc
         ·rename_i b ba cp hp
          simp at hxc
          exact⟨b,ba,cp,hp,hxc.1.symm⟩
         ·simp at hxc
        ·simp at ho
       ·simp at ho
      ·simp at ho
     ·rename_i a o n' c''
      split at ho
      ·rename_i g l hg
       split at ho
       ·rename_i h1
        split at ho
        ·rename_i H1 hs
         simp at ho;obtain⟨rfl,rfl⟩:=ho
         refine wr_sound (_xv:=.nilFunc) (_x:=.nf) hR ?_ hg hcc h1 h0' hs fun h' hR'=>hK ρ h' _ (Le.refl ρ) hR' rfl
         simp only[conc]at hxc
         split at hxc
         ·rename_i b ba cp hp
          split at hxc
          ·simp at hxc
           exact⟨b,ba,cp,hp,hxc.1.symm⟩
          ·simp at hxc
         ·simp at hxc
        ·simp at ho
       ·simp at ho
      ·simp at ho
     ·simp at ho
   ·simp at ho
  ·simp at ho
 case cvm x=>
  have key:∀{a b ba cp w g} {l:List AV} {H1:AH},getB H a=some (w,g,l)→ρ.pl a=some (b,ba,cp)→T.wput H a (some (.cells true g l))=some H1→∃tot,BlkW h b tot∧∀h',PutW h h' b tot→Rep F h0 ρ H1 h':=by
   intro a b ba cp w g l H1 hg hp hput
   obtain⟨ws,pre,tail,hca⟩:=hR.cells hg hp
   exact⟨_,hca.wide,fun h' hP=>hR.set (getB_get hg) (by simp) hp hput hP.size (fun k hk=>hP.old k hk) fun _=>⟨ws,pre,tail,hca.cs,hca.pl,hca.gz,hP.blk,fun hz=>⟨(hca.tag hz).1,hP.ty _ (hca.tag hz).2.1,(hca.tag hz).2.2⟩⟩⟩
  simp only[aop]at ho
  split at ho
  ·rename_i a o n c hx
   split at ho
   ·rename_i w g l hg
    split at ho
    ·rename_i H1 hput
     simp at ho;obtain⟨rfl,rfl⟩:=ho
     obtain⟨b,ba,cp,hp,he⟩:=ev_sl hR hE hx
     obtain⟨tot,h1,h2⟩:=key hg hp hput
     simp only[sop,he]
     exact⟨tot,h1,fun h' hP=>hK ρ h' _ (Le.refl ρ) (h2 h' hP) (by simp only[conc,hp])⟩
    ·simp at ho
   ·simp at ho
  ·rename_i a o n k hx
   split at ho
   ·rename_i w g l hg
    split at ho
    ·rename_i H1 hput
     simp at ho;obtain⟨rfl,rfl⟩:=ho
     obtain⟨b,ba,cp,hp,hnk,he⟩:=ev_su hR hE hx
     obtain⟨tot,h1,h2⟩:=key hg hp hput
     simp only[sop,he]
     exact⟨tot,h1,fun h' hP=>hK ρ h' _ (Le.refl ρ) (h2 h' hP) (by simp only[conc,hp];rw[if_pos hnk])⟩
    ·simp at ho
   ·simp at ho
  ·simp at ho
 case rng x=>
  simp only[aop]at ho
  split at ho
  ·rename_i hx
   split at ho
   ·rename_i H1 hg
    simp at ho;obtain⟨rfl,rfl⟩:=ho
    simp only[sop,ev_nm hR hE hx]
    intro b h' hG
    obtain⟨ρ',h1,h2,h3⟩:=hR.new (cp:=0) hg hG.id hG.size hG.old fun ρ' hl _=>⟨hG.blk,fun x hx=>by simp at hx,rfl⟩
    exact hK ρ' h' _ h1 h3 (by simp only[conc,h2])
   ·simp at ho
  ·rename_i a hx
   split at ho
   ·rename_i es c hm
    split at ho
    ·rename_i H1 hg
     simp at ho;obtain⟨rfl,rfl⟩:=ho
     obtain⟨mb,ba,cp,hp,he⟩:=ev_m hR hE hx
     obtain⟨ms,h4,h5⟩:=hR.mapOf hm hp
     simp only[sop,he]
     refine⟨ms,c,h4,fun b h' hG=>?_⟩
     obtain⟨ρ',h1,h2,h3⟩:=hR.new (cp:=0) hg hG.id hG.size hG.old fun ρ' hl _=>⟨by simp only[hl.pl a _ hp];exact hG.blk,fun x hx=>by simp at hx;subst hx;exact⟨_,hl.pl a _ hp⟩,rfl⟩
     exact hK ρ' h' _ h1 h3 (by simp only[conc,h2])
    ·simp at ho
   ·simp at ho
  ·simp at ho
 case nxt x=>
  simp only[aop]at ho
  split at ho
  ·rename_i r hx
   obtain⟨b,ba,cp,hp,he⟩:=ev_p hR hE hx
   split at ho
   ·rename_i since seen last hr
    simp at ho;obtain⟨rfl,rfl⟩:=ho
    obtain⟨q,hq,_,_,i1,i2,i3⟩:=hR.obj r _ hr (by simp)
    rw[hp]at hq;simp at hq;subst hq
    simp only at i3
    subst i3
    simp only[sop,he,Nat.add_zero]
    exact .inl ⟨since,⟨seen⟩,last,i1,Fine.now hR hK rfl⟩
   ·rename_i a since seen last hr
    obtain⟨q,hq,_,_,i1,i2,i3⟩:=hR.obj r _ hr (by simp)
    rw[hp]at hq;simp at hq;subst hq
    simp only at i3
    subst i3
    obtain⟨qa,hqa⟩:=i2 a rfl
    obtain⟨mb,mba,mcp⟩:=qa
    simp only[hqa]at i1
    split at ho
    ·rename_i es c hm
     obtain⟨ms,h4,h5⟩:=hR.mapOf hm hqa
     simp only[sop,he,Nat.add_zero]
     split at ho
     ·rename_i hl
      obtain⟨l1,l2⟩:=h5.left hl
      simp only[cond_eq_ite,Nat.ble_eq]at ho
      split at ho
      ·rename_i hsl
       simp at ho;obtain⟨rfl,rfl⟩:=ho
       refine .inr ⟨mb,since,⟨seen⟩,last,ms,c,i1,h4,l1,.inr (.inr hsl),fun _=>Fine.now hR hK rfl,fun e he hs=>?_⟩
       obtain⟨x,hx,_⟩:=l2 e he (by simpa using hs)
       simp at hx
      ·simp at ho
     ·rename_i e0 hl
      obtain⟨l1,l2⟩:=h5.left hl
      simp only[cond_eq_ite,Nat.ble_eq]at ho
      split at ho
      ·rename_i hsl
       split at ho
       ·rename_i H1 hput
        simp at ho;obtain⟨rfl,rfl⟩:=ho
        refine .inr ⟨mb,since,⟨seen⟩,last,ms,c,i1,h4,l1,.inr (.inr hsl),fun hall=>?_,fun e he hs h' hP=>?_⟩
        ·exact(left_seen hl h5 hall).elim
        ·obtain⟨x,hx,k1,k2,k3⟩:=l2 e he (by simpa using hs)
         simp at hx;subst hx
         refine hK ρ h' _ (Le.refl ρ) (hR.set hr (by simp) hp hput hP.size (fun k hk=>hP.old k hk) fun _=>⟨?_,fun x hx=>by simp at hx;subst hx;exact⟨_,hqa⟩,rfl⟩) (by simp only[conc,concs,k1,k2])
         simp only[hqa]
         rw[hP.blk,joined_eq,←k3]
         simp
       ·simp at ho
      ·simp at ho
     ·simp at ho
    ·simp at ho
   ·simp at ho
  ·simp at ho
 case ent x=>
  simp only[aop]at ho
  split at ho
  ·rename_i r hx
   obtain⟨b,ba,cp,hp,he⟩:=ev_p hR hE hx
   split at ho
   ·rename_i a since bb last hr
    obtain⟨q,hq,_,_,i1,i2,i3⟩:=hR.obj r _ hr (by simp)
    rw[hp]at hq;simp at hq;subst hq
    simp only at i3
    subst i3
    obtain⟨qa,hqa⟩:=i2 a rfl
    obtain⟨mb,mba,mcp⟩:=qa
    simp only[hqa]at i1
    split at ho
    ·rename_i es c hm
     obtain⟨ms,h4,h5⟩:=hR.mapOf hm hqa
     simp only[cond_eq_ite,Nat.beq_eq]at ho
     split at ho
     ·rename_i hc
      subst hc
      split at ho
      ·rename_i e hb
       simp at ho;obtain⟨rfl,rfl⟩:=ho
       obtain⟨e',k1,k2,k3⟩:=h5.born hb
       simp only[sop,he,Nat.add_zero]
       exact⟨mb,since,⟨[bb]⟩,c,ms,bb,e',i1,h4,by simp,k1,Fine.now hR hK (by simp only[conc,concs,k2,k3])⟩
      ·simp at ho
     ·simp at ho
    ·simp at ho
   ·simp at ho
  ·simp at ho
theorem aop_sound (hR:Rep F h0 ρ H h) (hE:RE ρ E σ) {op:SOp} (ho:aop P E H id op=some (v,H')) (hK:Fine F h0 ρ H' v K):sop P σ h K Qp op:=by
 by_cases hc:cls op=0
 ·exact aop_pure hR hE op hc ho hK
 ·exact aop_mem hR hE op hc ho hK
end
end Go.Sx
namespace Go.Sx
open Go
def RP (ρ:Rho):List (AV×Bool)→List PanicEntry→Prop
 |[],ps=>ps=[]
 |(v,t)::l,ps=>∃u ps',conc ρ v=some u∧ps={v:=u,recovered:=t}::ps'∧RP ρ l ps'
def RD (ρ:Rho):List AD→List Deferred→Prop
 |[],ds=>ds=[]
 |.mk a::D,ds=>∃r ds',ρ.pl a=some r∧ds={target:=.collected r.1,args:= #[]}::ds'∧RD ρ D ds'
 |.fn f cap args::D,ds=>∃xs ys ds',concs ρ cap=some xs∧concs ρ args=some ys∧ds={target:=.fn (.func f) ⟨xs⟩,args:=⟨ys⟩}::ds'∧RD ρ D ds'
def RX (ρ:Rho):AX→Exit→Prop
 |.nrm,e=>e=.normal
 |.ex id,e=>e=.exit id
 |.ret,e=>e=.ret
 |.gt l,e=>e=.goto l
 |.pan ch,e=>∃ps,e=.panic ps∧RP ρ ch ps
def RN (ρ:Rho):AEnd→Ending→Prop
 |.ret v,e=>∃u,e=.returned u∧conc ρ v=some u
 |.pan ch,e=>∃ps,e=.panicked ps∧RP ρ ch ps
def RU (ρ:Rho):AMode→FrameMode→Prop
 |.returning,u=>u=.returning
 |.panicking ch,u=>∃ps,u=.panicking ps∧RP ρ ch ps
section
variable {ρ ρ':Rho}
theorem RP.mono (hl:Le ρ ρ'):∀{l:List (AV×Bool)} {ps:List PanicEntry},RP ρ l ps→RP ρ' l ps
 |[],_,h=>h
 |(_,_)::_,_,⟨u,ps',h1,h2,h3⟩=>⟨u,ps',conc_mono hl _ _ h1,h2,RP.mono hl h3⟩
theorem RP.app:∀{l m:List (AV×Bool)} {ps qs:List PanicEntry},RP ρ l ps→RP ρ m qs→RP ρ (l++m) (ps++qs)
 |[],_,_,_,h,k=>by cases h;exact k
 |(_,_)::_,_,_,_,⟨u,ps',h1,h2,h3⟩,k=>by subst h2;exact⟨u,_,h1,rfl,RP.app h3 k⟩
theorem RP.noexit:∀{l:List (AV×Bool)} {ps:List PanicEntry},RP ρ l ps→ps.dropWhile (!·.goexit)=[]
 |[],_,h=>by cases h;rfl
 |(_,_)::_,_,⟨u,ps',h1,h2,h3⟩=>by subst h2;simp[List.dropWhile,RP.noexit h3]
theorem RD.mono (hl:Le ρ ρ'):∀{D:List AD} {ds:List Deferred},RD ρ D ds→RD ρ' D ds
 |[],_,h=>h
 |.mk _::_,_,⟨r,ds',h1,h2,h3⟩=>⟨r,ds',hl.pl _ _ h1,h2,RD.mono hl h3⟩
 |.fn _ _ _::_,_,⟨xs,ys,ds',h1,h2,h3,h4⟩=>⟨xs,ys,ds',concs_mono hl _ _ h1,concs_mono hl _ _ h2,h3,RD.mono hl h4⟩
theorem RD.one:∀{D:List AD} {ds ds':List Deferred},RD ρ D ds→RD ρ D ds'→ds=ds'
 |[],_,_,h,k=>by cases h;cases k;rfl
 |.mk _::_,_,_,⟨r,ds',h1,h2,h3⟩,⟨r',ds'',k1,k2,k3⟩=>by
  rw[h1]at k1;simp at k1;subst k1
  rw[h2,k2,RD.one h3 k3]
 |.fn _ _ _::_,_,_,⟨xs,ys,ds',h1,h2,h3,h4⟩,⟨xs',ys',ds'',k1,k2,k3,k4⟩=>by
  rw[h1]at k1;simp at k1;subst k1
  rw[h2]at k2;simp at k2;subst k2
  rw[h3,k3,RD.one h4 k4]
theorem RU.mono (hl:Le ρ ρ') {u:AMode} {um:FrameMode} (h:RU ρ u um):RU ρ' u um:=by
 cases u with
 |returning=>exact h
 |panicking ch=>obtain⟨ps,h1,h2⟩:=h;exact⟨ps,h1,h2.mono hl⟩
theorem RU.settle {u:AMode} {um:FrameMode} (h:RU ρ u um):RU ρ (settleA u) (Go.settle um):=by
 cases u with
 |returning=>cases h;rfl
 |panicking ch=>
  obtain⟨ps,rfl,h2⟩:=h
  cases ch with
  |nil=>cases h2;exact⟨[],rfl,rfl⟩
  |cons x ch=>
   obtain⟨v,t⟩:=x
   obtain⟨u,ps',h1,rfl,h3⟩:=h2
   cases t with
   |false=>exact⟨_,rfl,u,ps',h1,rfl,h3⟩
   |true=>
    show RU ρ .returning _
    simp only[Go.settle,h3.noexit]
    rfl
theorem RU.raised {u:AMode} {um:FrameMode} {ch:List (AV×Bool)} {ps:List PanicEntry} (h:RU ρ u um) (hp:RP ρ ch ps):RU ρ (raisedA u ch) (Go.raised um ps):=by
 cases u with
 |returning=>cases h;exact⟨ps,rfl,hp⟩
 |panicking old=>
  obtain⟨qs,rfl,h2⟩:=h
  refine⟨ps++qs,rfl,?_⟩
  rw[joined_eq];exact hp.app h2
theorem RU.rec {u:AMode} {um:FrameMode} (h:RU ρ u um):conc ρ (recVA u)=some (recV um)∧RU ρ (recMA u) (recM um):=by
 cases u with
 |returning=>cases h;exact⟨rfl,rfl⟩
 |panicking ch=>
  obtain⟨ps,rfl,h2⟩:=h
  cases ch with
  |nil=>cases h2;exact⟨rfl,[],rfl,rfl⟩
  |cons x ch=>
   obtain⟨v,t⟩:=x
   obtain⟨u,ps',h1,rfl,h3⟩:=h2
   cases t with
   |false=>exact⟨h1,_,rfl,u,ps',h1,rfl,h3⟩
   |true=>exact⟨rfl,_,rfl,u,ps',h1,rfl,h3⟩
end
def RY (P:Program) (oq:Nat→Value) (ρ:Rho) (Y:AY):Prop:=ρ.op=oq∧∀l E ps a b,yfind Y l=some (E,ps,a,b)→∃r σ,ρ.pl l=some r∧RE ρ E σ∧
 ∀(h2:Heap) (args:List Value) (R:Ending→Heap→Prop),LoopB h2 r.1 (ρ.lr l) .ready none→args.length=ps.length→
  swp P a (thenQ (fun σ' ds' h3=>LoopB h3 r.1 (ρ.lr l) .ready none∧∀h4,Turn h3 h4 r.1 (ρ.lr l) .busy none→swp P b (roundQ r.1 (ρ.lr l) R) σ' ds' h4) (fun _ _ _ _=>False)) (updL σ ps args) [] h2→YieldH P r.1 args h2 R
def EntOK (P:Program) (oq:Nat→Value) (F:Nat→Prop) (h0:Heap) (f:Nat):Ent→Prop
 |.code nt sc rs=>SoundD P f nt sc rs∧SoundF P f nt sc rs
 |.prim g=>∀(ρ:Rho) (h:Heap) (args:List AV) (vs:List Value) (S S':AS) (v:AV) (R:Ending→Heap→Prop),ρ.op=oq→g args S=some (v,S')→Rep F h0 ρ S.H h→concs ρ args=some vs→
  (∀ρ' h' u,Le ρ ρ'→Rep F h0 ρ' S'.H h'→conc ρ' v=some u→R (.returned u) h')→CallsH P f vs h R
 |.ext g=>∀(ρ:Rho) (h:Heap) (args:List AV) (vs:List Value) (S S':AS) (v:AV) (R:Value→Heap→Prop),ρ.op=oq→g args S=some (v,S')→Rep F h0 ρ S.H h→concs ρ args=some vs→
  (∀ρ' h' u,Le ρ ρ'→Rep F h0 ρ' S'.H h'→conc ρ' v=some u→R u h')→ExtH P f vs h R
def TOK (P:Program) (oq:Nat→Value) (F:Nat→Prop) (h0:Heap):Tbl→Prop
 |.nil=>True
 |.node l k e r=>TOK P oq F h0 l∧EntOK P oq F h0 k e∧TOK P oq F h0 r
theorem TOK.find {P:Program} {oq:Nat→Value} {F:Nat→Prop} {h0:Heap}:∀{tb:Tbl},TOK P oq F h0 tb→∀{f:Nat} {e:Ent},tb.find f=some e→EntOK P oq F h0 f e
 |.nil,_,f,e,h=>by simp[Tbl.find]at h
 |.node l k e' r,⟨h1,h2,h3⟩,f,e,h=>by
  simp only[Tbl.find,cond_eq_ite,Nat.beq_eq]at h
  split at h
  ·rename_i hk;subst hk;simp at h;subst h;exact h2
  ·split at h
   ·exact h1.find h
   ·exact h3.find h
def XOK (P:Program) (oq:Nat→Value) (F:Nat→Prop) (h0:Heap) (rc:Rec):Prop:=∀{Y:AY} {c:SCode} {E:AE} {D:List AD} {S:AS} {x:AX} {E':AE} {D':List AD} {S':AS},rc Y c E D S=some (x,E',D',S')→
 ∀{ρ:Rho} {h:Heap} {σ:Env} {ds:List Deferred} {Q:Post},Rep F h0 ρ S.H h→RE ρ E σ→RD ρ D ds→RY P oq ρ Y→
 (∀ρ' h' σ' ds' xx,Le ρ ρ'→Rep F h0 ρ' S'.H h'→RE ρ' E' σ'→RD ρ' D' ds'→RX ρ' x xx→Q xx σ' ds' h')→swp P c Q σ ds h
section
variable {P:Program} {oq:Nat→Value} {tb:Tbl} {rc:Rec} {ρ ρ':Rho} {F:Nat→Prop} {h0 h h':Heap} {H H':AH} {E E':AE} {σ:Env} {Y:AY} {S S':AS}
theorem RY.mono (hl:Le ρ ρ') (h:RY P oq ρ Y):RY P oq ρ' Y:=by
 refine⟨hl.op.trans h.1,fun l E ps a b hy=>?_⟩
 obtain⟨r,σ,h1,h2,h3⟩:=h.2 l E ps a b hy
 refine⟨r,σ,hl.pl _ _ h1,h2.mono hl,?_⟩
 rw[hl.lr _ _ h1];exact h3
theorem RE.args:∀{vs:List AV} {us:List Value} {n:Nat} {E:AE},argsA n vs=some E→concs ρ vs=some us→RE ρ E (argEnv n us)
 |[],us,n,E,h,hc=>by
  simp[argsA]at h;subst h
  intro t a ht;simp[T.get_e]at ht
 |v::vs,us,n,E,h,hc=>by
  obtain⟨u,ws,rfl,h1,h2⟩:=concs_cons hc
  simp only[argsA]at h
  split at h
  ·rename_i E1 h3
   exact(RE.args h3 h2).upd (d:=some n) h1 h
  ·simp at h
theorem RE.updL:∀{ps:List Nat} {vs:List AV} {us:List Value} {E E':AE} {σ:Env},aupdL E ps vs=some E'→RE ρ E σ→concs ρ vs=some us→RE ρ E' (Sx.updL σ ps us)
 |[],[],us,E,E',σ,h,hE,hc=>by
  simp[aupdL]at h;subst h
  simp[concs]at hc;subst hc
  exact hE
 |p::ps,v::vs,us,E,E',σ,h,hE,hc=>by
  obtain⟨u,ws,rfl,h1,h2⟩:=concs_cons hc
  simp only[aupdL]at h
  split at h
  ·rename_i E1 h3
   show RE ρ E' (Sx.updL (Sx.upd σ (some p) u) ps ws)
   exact RE.updL h (hE.upd (d:=some p) h1 h3) h2
  ·simp at h
 |[],_::_,us,E,E',σ,h,hE,hc=>by simp[aupdL]at h
 |_::_,[],us,E,E',σ,h,hE,hc=>by simp[aupdL]at h
theorem delA_get:∀{l:List Nat} {E E':AE},delA E l=some E'→∀{t:Nat} {a:AV},E'.get t=some a→E.get t=some a∧t∉l
 |[],E,E',h,t,a,ht=>by simp[delA]at h;subst h;exact⟨ht,by simp⟩
 |d::l,E,E',h,t,a,ht=>by
  simp only[delA]at h
  split at h
  ·rename_i E1 h1
   obtain⟨h2,h3⟩:=delA_get h ht
   rw[T.put_get h1 t]at h2
   split at h2
   ·simp at h2
   ·rename_i hne
    exact⟨h2,by simp;exact⟨hne,h3⟩⟩
  ·simp at h
theorem RE.del (hE:RE ρ E σ) {l:List Nat} (h:delA E l=some E'):RE ρ E' (hideN l σ):=by
 intro t a ht
 obtain⟨h1,h2⟩:=delA_get h ht
 obtain⟨v,h3,h4⟩:=hE t a h1
 refine⟨v,h3,?_⟩
 unfold hideN
 cases hn:hasN t l with
 |true=>exact absurd ((hasN_iff t l).1 hn) h2
 |false=>exact h4
theorem RE.delh (hE:RE ρ E σ) {l:List SOper} (h:delA E (dstsOf l)=some E'):RE ρ E' (hide l σ):=hE.del h
theorem ares_sound (hR:Rep F h0 ρ H h) (hE:RE ρ E σ):∀{rs:List SRes} {vs:List AV} {K:List Value→Prop},ares E H rs=some vs→(∀us,concs ρ vs=some us→K us)→resQ σ h rs K
 |[],vs,K,ho,hK=>by simp[ares]at ho;subst ho;exact hK [] rfl
 |.t n::r,vs,K,ho,hK=>by
  simp only[ares]at ho
  split at ho
  ·rename_i v ws h1 h2
   simp at ho;subst ho
   obtain⟨u,h3,h4⟩:=hE n v h1
   simp only[resQ,h4]
   exact ares_sound hR hE h2 fun us hus=>hK _ (by simp[concs,h3,hus])
  ·simp at ho
 |.c1 a::r,vs,K,ho,hK=>by
  simp only[ares]at ho
  split at ho
  ·rename_i x o hx
   split at ho
   ·rename_i w g l hg
    split at ho
    ·rename_i v ws h1 h2
     simp at ho;subst ho
     obtain⟨pv,h3,h4⟩:=hE a _ hx
     simp only[conc]at h3
     split at h3
     ·rename_i b ba cp hp
      simp at h3;subst h3
      obtain⟨vs',pre,tail,hc⟩:=hR.cells hg hp
      obtain⟨u,h5,h6⟩:=hc.at h1
      simp only[resQ,h4]
      exact⟨u,h6,ares_sound hR hE h2 fun us hus=>hK _ (by simp[concs,h5,hus])⟩
     ·simp at h3
    ·simp at ho
   ·simp at ho
  ·simp at ho
 |.cn a n::r,vs,K,ho,hK=>by
  simp only[ares]at ho
  split at ho
  ·rename_i x o hx
   split at ho
   ·rename_i w g l hg
    split at ho
    ·rename_i v ws h1 h2
     simp at ho;subst ho
     obtain⟨pv,h3,h4⟩:=hE a _ hx
     simp only[conc]at h3
     split at h3
     ·rename_i b ba cp hp
      simp at h3;subst h3
      obtain⟨vs',pre,tail,hc⟩:=hR.cells hg hp
      obtain⟨u,h5,h6,h7⟩:=hc.part h1
      simp only[resQ,h4]
      exact⟨u,h6,h7,ares_sound hR hE h2 fun us hus=>hK _ (by simp[concs,conc,h5,hus])⟩
     ·simp at h3
    ·simp at ho
   ·simp at ho
  ·simp at ho
theorem retA_conc {vs:List AV} {us:List Value} (h:concs ρ vs=some us):conc ρ (retA vs)=some (retV us):=by
 cases vs with
 |nil=>simp[concs]at h;subst h;rfl
 |cons v vs=>
  obtain⟨u,ws,rfl,h1,h2⟩:=concs_cons h
  cases vs with
  |nil=>simp[concs]at h2;subst h2;exact h1
  |cons w vs=>
   obtain⟨u',ws',rfl,h3,h4⟩:=concs_cons h2
   show conc ρ (.t _)=some (.tuple _)
   simp only[conc,h]
theorem arcv_sound (hX:XOK P oq F h0 rc):∀{c:SCode} {u u':AMode} {E E':AE} {D D':List AD} {S S':AS} {x:AX},arcv rc Y c u E D S=some (x,E',D',S',u')→
  ∀{ρ:Rho} {h:Heap} {σ:Env} {ds:List Deferred} {um:FrameMode} {Q:FrameMode→Post},Rep F h0 ρ S.H h→RE ρ E σ→RD ρ D ds→RY P oq ρ Y→RU ρ u um→
  (∀ρ' h' σ' ds' xx um',Le ρ ρ'→Rep F h0 ρ' S'.H h'→RE ρ' E' σ'→RD ρ' D' ds'→RX ρ' x xx→RU ρ' u' um'→Q um' xx σ' ds' h')→swpS P c Q um σ ds h:=by
 intro c
 induction c with
 |rcv d=>
  intro u u' E E' D D' S S' x ho ρ h σ ds um Q hR hE hD hY hU hK
  simp only[arcv]at ho
  split at ho
  ·rename_i E1 h1
   simp at ho;obtain⟨rfl,rfl,rfl,rfl,rfl⟩:=ho
   obtain⟨h2,h3⟩:=hU.rec
   exact hK ρ h _ ds _ _ (Le.refl ρ) hR (hE.upd h2 h1) hD rfl h3
  ·simp at ho
 |seq a b iha ihb=>
  intro u u' E E' D D' S S' x ho ρ h σ ds um Q hR hE hD hY hU hK
  simp only[arcv]at ho
  simp only[swpS]
  cases ha:arcv rc Y a u E D S with
  |none=>rw[ha]at ho;simp at ho
  |some o=>
   obtain⟨x1,E1,D1,S1,u1⟩:=o
   rw[ha]at ho
   refine iha ha hR hE hD hY hU ?_
   intro ρ1 h1 σ1 ds1 xx um1 hl1 hR1 hE1 hD1 hX1 hU1
   cases x1 with
   |nrm=>
    cases hX1
    exact ihb ho hR1 hE1 hD1 (hY.mono hl1) hU1 fun ρ2 h2 σ2 ds2 xx2 um2 hl2=>hK ρ2 h2 σ2 ds2 xx2 um2 (hl1.trans hl2)
   |ex id=>simp at ho;obtain⟨rfl,rfl,rfl,rfl,rfl⟩:=ho;cases hX1;exact hK _ _ _ _ _ _ hl1 hR1 hE1 hD1 rfl hU1
   |ret=>simp at ho;obtain⟨rfl,rfl,rfl,rfl,rfl⟩:=ho;cases hX1;exact hK _ _ _ _ _ _ hl1 hR1 hE1 hD1 rfl hU1
   |gt l=>simp at ho;obtain⟨rfl,rfl,rfl,rfl,rfl⟩:=ho;cases hX1;exact hK _ _ _ _ _ _ hl1 hR1 hE1 hD1 rfl hU1
   |pan ch=>simp at ho;obtain⟨rfl,rfl,rfl,rfl,rfl⟩:=ho;obtain⟨ps,rfl,hp⟩:=hX1;exact hK _ _ _ _ _ _ hl1 hR1 hE1 hD1 ⟨ps,rfl,hp⟩ hU1
 |_=>
  intro u u' E E' D D' S S' x ho ρ h σ ds um Q hR hE hD hY hU hK
  simp only[arcv]at ho
  split at ho
  ·rename_i x1 E1 D1 S1 h1
   simp at ho;obtain⟨rfl,rfl,rfl,rfl,rfl⟩:=ho
   simp only[swpS]
   exact hX h1 hR hE hD hY fun ρ' h' σ' ds' xx hl hR' hE' hD' hX'=>hK ρ' h' σ' ds' xx um hl hR' hE' hD' hX' (hU.mono hl)
  ·simp at ho
theorem leave_sound (hX:XOK P oq F h0 rc) (hT:TOK P oq F h0 tb) {rs:List SRes} {E:AE} {e:AEnd} {R:Ending→Heap→Prop}:∀{D:List AD} {u:AMode} {S S':AS},aleave tb rc Y rs E D u S=some (e,S')→
  ∀{ρ:Rho} {h:Heap} {σ:Env} {ds:List Deferred} {um:FrameMode},Rep F h0 ρ S.H h→RE ρ E σ→RD ρ D ds→RY P oq ρ Y→RU ρ u um→
  (∀ρ' h' ee,Le ρ ρ'→Rep F h0 ρ' S'.H h'→RN ρ' e ee→R ee h')→leaveQD P rs R σ ds um h:=by
 intro D
 induction D with
 |nil=>
  intro u S S' ho ρ h σ ds um hR hE hD hY hU hK
  cases hD
  cases u with
  |returning=>
   cases hU
   simp only[aleave]at ho
   split at ho
   ·rename_i vs h1
    simp at ho;obtain⟨rfl,rfl⟩:=ho
    exact ares_sound hR hE h1 fun us hus=>hK ρ h _ (Le.refl ρ) hR ⟨_,rfl,retA_conc hus⟩
   ·simp at ho
  |panicking ch=>
   obtain⟨ps,rfl,hp⟩:=hU
   simp[aleave]at ho;obtain⟨rfl,rfl⟩:=ho
   exact hK ρ h _ (Le.refl ρ) hR ⟨_,rfl,hp⟩
 |cons d D ih=>
  intro u S S' ho ρ h σ ds um hR hE hD hY hU hK
  have hrun:um≠.run:=by
   cases u with
   |returning=>cases hU;simp
   |panicking ch=>obtain⟨ps,rfl,_⟩:=hU;simp
  cases d with
  |mk a=>
   obtain⟨r,ds',hr,rfl,hD'⟩:=hD
   simp only[aleave]at ho
   split at ho
   ·rename_i hg
    split at ho
    ·rename_i H1 hp
     obtain⟨r',hr',hF,hlt,hb⟩:=hR.obj a _ hg (by simp)
     rw[hr]at hr';simp at hr';subst hr'
     simp only[leaveQD]
     refine⟨hrun,hb,fun h' hP=>?_⟩
     refine ih ho (hR.set hg (by simp) hr hp hP.size hP.old (fun _=>hP.blk)) hE hD' hY hU hK
    ·simp at ho
   ·simp at ho
  |fn f cap args=>
   obtain⟨xs,ys,ds',h1,h2,rfl,hD'⟩:=hD
   simp only[aleave]at ho
   split at ho
   ·rename_i nt sc rs' hf
    simp only[cond_eq_ite,Nat.ble_eq]at ho
    split at ho
    ·rename_i hle
     split at ho
     ·rename_i E1 hE1
      simp only[leaveQD]
      refine⟨hrun,(hT.find hf).2 ?_ ?_⟩
      ·rw[countA_eq,joined_eq]at hle
       have l1:=concs_len h1;have l2:=concs_len h2
       simp at hle⊢;omega
      ·have hargs:concs ρ (joined args cap)=some (ys++xs):=by rw[joined_eq];exact concs_app h2 h1
       cases hrc:arcv rc Y sc u E1 [] S with
       |none=>rw[hrc]at ho;simp at ho
       |some o=>
        obtain⟨x2,E2,D2,S2,u2⟩:=o
        rw[hrc]at ho
        refine arcv_sound (rc:=rc) hX hrc hR (RE.args hE1 (by rw[joined_eq];exact concs_app h2 h1)) rfl hY hU ?_
        intro ρ1 h1' σ1 ds1 xx um1 hl1 hR1 hE1' hD1 hX1 hU1
        cases D2 with
        |cons d2 D2=>cases x2<;>simp at ho
        |nil=>
         cases hD1
         cases x2 with
         |nrm=>
          cases hX1
          simp only at ho
          split at ho
          ·rename_i vs hvs
           refine⟨rfl,ares_sound hR1 hE1' hvs fun us hus=>?_⟩
           exact ih ho hR1 (hE.mono hl1) (hD'.mono hl1) (hY.mono hl1) hU1.settle fun ρ2 h2 ee hl2=>hK ρ2 h2 ee (hl1.trans hl2)
          ·simp at ho
         |ret=>
          cases hX1
          simp only at ho
          split at ho
          ·rename_i vs hvs
           refine⟨rfl,ares_sound hR1 hE1' hvs fun us hus=>?_⟩
           exact ih ho hR1 (hE.mono hl1) (hD'.mono hl1) (hY.mono hl1) hU1.settle fun ρ2 h2 ee hl2=>hK ρ2 h2 ee (hl1.trans hl2)
          ·simp at ho
         |pan ch=>
          obtain⟨ps,rfl,hp⟩:=hX1
          simp only at ho
          exact⟨rfl,ih ho hR1 (hE.mono hl1) (hD'.mono hl1) (hY.mono hl1) (hU1.raised hp) fun ρ2 h2 ee hl2=>hK ρ2 h2 ee (hl1.trans hl2)⟩
         |ex id=>simp at ho
         |gt l=>simp at ho
     ·simp at ho
    ·simp at ho
   ·simp at ho
theorem call_sound (hX:XOK P oq F h0 rc) (hT:TOK P oq F h0 tb) {f:Nat} {args:List AV} {vs:List Value} {e:AEnd} {R:Ending→Heap→Prop} (ho:acall tb rc Y f args S=some (e,S'))
  (hR:Rep F h0 ρ S.H h) (hc:concs ρ args=some vs) (hY:RY P oq ρ Y) (hK:∀ρ' h' ee,Le ρ ρ'→Rep F h0 ρ' S'.H h'→RN ρ' e ee→R ee h'):CallsH P f vs h R:=by
 unfold acall at ho
 split at ho
 ·rename_i nt sc rs hf
  simp only[cond_eq_ite,Nat.ble_eq]at ho
  split at ho
  ·rename_i hle
   split at ho
   ·rename_i E1 hE1
    refine(hT.find hf).1 (by rw[countA_eq]at hle;rw[concs_len hc];exact hle) ?_
    cases hrc:rc Y sc E1 [] S with
    |none=>rw[hrc]at ho;simp at ho
    |some o=>
     obtain⟨x2,E2,D2,S2⟩:=o
     rw[hrc]at ho
     refine hX hrc hR (RE.args hE1 hc) rfl hY ?_
     intro ρ1 h1 σ1 ds1 xx hl1 hR1 hE1' hD1 hX1
     have fin:∀{u um},RU ρ1 u um→aleave tb rc Y rs E2 D2 u S2=some (e,S')→leaveQD P rs R σ1 ds1 um h1:=fun hU hlv=>
      leave_sound hX hT hlv hR1 hE1' hD1 (hY.mono hl1) hU fun ρ2 h2 ee hl2=>hK ρ2 h2 ee (hl1.trans hl2)
     cases x2 with
     |nrm=>cases hX1;exact fin (u:=.returning) rfl ho
     |ret=>cases hX1;exact fin (u:=.returning) rfl ho
     |pan ch=>obtain⟨ps,rfl,hp⟩:=hX1;exact fin (u:=.panicking ch) ⟨ps,rfl,hp⟩ ho
     |ex id=>simp at ho
     |gt l=>simp at ho
   ·simp at ho
  ·simp at ho
 ·rename_i g hf
  split at ho
  ·rename_i v S1 hg
   simp at ho;obtain⟨rfl,rfl⟩:=ho
   exact(hT.find hf) ρ h args vs S S1 v R hY.1 hg hR hc fun ρ' h' u hl hR' hu=>hK ρ' h' _ hl hR' ⟨u,rfl,hu⟩
  ·simp at ho
 ·simp at ho
 ·simp at ho
theorem Rep.turn (hR:Rep F h0 ρ H h) {l:Nat} {st st':LoopState} {p p':APend} {r:Nat×Nat×Nat} (hg:H.get l=some (.loop st p)) (hr:ρ.pl l=some r) (hp:T.wput H l (some (.loop st' p'))=some H')
  (ht:Turn h h' r.1 (ρ.lr l) st' (pcode p')):Rep F h0 ρ H' h':=
 hR.set hg (by simp) hr hp ht.size ht.old fun _=>ht.rec_
theorem isLoop_get {l:Nat} {st:LoopState} (h:isLoop S l st=true):S.H.get l=some (.loop st none):=by
 unfold isLoop at h
 split at h
 ·rename_i st' hg;rw[hg,steq_eq h]
 ·simp at h
theorem setL_put {l:Nat} {st:LoopState} {p:APend} (h:setL S l st p=some S'):T.wput S.H l (some (.loop st p))=some S'.H:=by
 unfold setL at h
 split at h
 ·rename_i H1 h1;simp at h;subst h;exact h1
 ·simp at h
theorem yield_sound (hX:XOK P oq F h0 rc) {l:Nat} {args:List AV} {vs:List Value} {e:AEnd} {R:Ending→Heap→Prop} {r:Nat×Nat×Nat} (ho:ayield rc Y l args S=some (e,S')) (hr:ρ.pl l=some r)
  (hR:Rep F h0 ρ S.H h) (hc:concs ρ args=some vs) (hY:RY P oq ρ Y) (hK:∀ρ' h' ee,Le ρ ρ'→Rep F h0 ρ' S'.H h'→RN ρ' e ee→R ee h'):YieldH P r.1 vs h R:=by
 unfold ayield at ho
 split at ho
 ·rename_i E ps a b hy
  simp only[cond_eq_ite,Bool.and_eq_true,Nat.beq_eq]at ho
  split at ho
  ·rename_i hcond
   split at ho
   ·rename_i E0 hE0
    obtain⟨r',σl,hr',hEl,hyl⟩:=hY.2 l E ps a b hy
    rw[hr]at hr';simp at hr';subst hr'
    have hg:=isLoop_get hcond.1
    obtain⟨r',hr',_,_,hb⟩:=hR.obj l _ hg (by simp)
    rw[hr]at hr';simp at hr';subst hr'
    refine hyl h vs R hb (by rw[concs_len hc];have:=hcond.2;rw[countA_eq,countA_eq]at this;exact this) ?_
    cases hrc:rc Y a E0 [] S with
    |none=>rw[hrc]at ho;simp at ho
    |some o=>
     obtain⟨x1,E1,D1,S1⟩:=o
     rw[hrc]at ho
     refine hX hrc hR (hEl.updL hE0 hc) rfl hY ?_
     intro ρ1 h1 σ1 ds1 xx hl1 hR1 hE1 hD1 hX1
     cases x1 with
     |nrm=>
      cases hX1
      simp only at ho
      split at ho
      ·rename_i hl
       have hg1:=isLoop_get hl
       have hr1:=hl1.pl _ _ hr
       have hlr:=hl1.lr _ _ hr
       obtain⟨r',hr',_,_,hb1⟩:=hR1.obj l _ hg1 (by simp)
       rw[hr1]at hr';simp at hr';subst hr'
       split at ho
       ·rename_i S2 hS2
        refine⟨by rw[←hlr];exact hb1,fun h4 ht=>?_⟩
        have hR2:Rep F h0 ρ1 S2.H h4:=hR1.turn hg1 hr1 (setL_put hS2) (by rw[hlr];exact ht)
        cases hrc2:rc Y b E1 D1 S2 with
        |none=>rw[hrc2]at ho;simp at ho
        |some o=>
         obtain⟨x3,E3,D3,S3⟩:=o
         rw[hrc2]at ho
         refine hX hrc2 hR2 hE1 hD1 (hY.mono hl1) ?_
         intro ρ3 h3 σ3 ds3 xx3 hl3 hR3 hE3 hD3 hX3
         have hr3:=hl3.pl _ _ hr1
         have hlr3:=(hl3.lr _ _ hr1).trans hlr
         have fin:∀{st':LoopState} {p':APend} {t:Bool},isLoop S3 l .busy=true→(∃S4,setL S3 l st' p'=some S4∧e=.ret (.b t)∧S'=S4)→
           LoopB h3 r.1 (ρ.lr l) .busy none∧∀h',Turn h3 h' r.1 (ρ.lr l) st' (pcode p')→R (.returned (.bool t)) h':=by
          rintro st' p' t hl3' ⟨S4,hS4,rfl,rfl⟩
          have hg3:=isLoop_get hl3'
          obtain⟨r',hr',_,_,hb3⟩:=hR3.obj l _ hg3 (by simp)
          rw[hr3]at hr';simp at hr';subst hr'
          refine⟨by rw[←hlr3];exact hb3,fun h' ht'=>?_⟩
          exact hK ρ3 h' _ (hl1.trans hl3) (hR3.turn hg3 hr3 (setL_put hS4) (by rw[hlr3];exact ht')) ⟨_,rfl,rfl⟩
         cases x3 with
         |nrm=>
          cases hX3
          simp only at ho
          split at ho
          ·rename_i hb3
           split at ho
           ·rename_i S4 hS4
            simp at ho;obtain⟨rfl,rfl⟩:=ho
            exact fin (p':=none) hb3 ⟨_,hS4,rfl,rfl⟩
           ·simp at ho
          ·simp at ho
         |ret=>
          cases hX3
          simp only at ho
          split at ho
          ·rename_i hb3
           split at ho
           ·rename_i S4 hS4
            simp at ho;obtain⟨rfl,rfl⟩:=ho
            exact fin (p':=some none) hb3 ⟨_,hS4,rfl,rfl⟩
           ·simp at ho
          ·simp at ho
         |ex id=>
          cases hX3
          simp only at ho
          split at ho
          ·rename_i hb3
           split at ho
           ·rename_i S4 hS4
            simp at ho;obtain⟨rfl,rfl⟩:=ho
            exact fin (p':=some (some id)) hb3 ⟨_,hS4,rfl,rfl⟩
           ·simp at ho
          ·simp at ho
         |pan ch=>simp at ho
         |gt l=>simp at ho
       ·simp at ho
      ·simp at ho
     |ret=>simp at ho
     |ex id=>simp at ho
     |pan ch=>simp at ho
     |gt l=>simp at ho
   ·simp at ho
  ·simp at ho
 ·simp at ho
end
end Go.Sx
namespace Go.Sx
open Go
def RO (F:Nat→Prop) (h0:Heap) (ρ:Rho) (K:Env→Heap→Prop) (Qp:List PanicEntry→Heap→Prop):OR→Prop
 |.ok E' S'=>∀ρ' h' σ',Le ρ ρ'→Rep F h0 ρ' S'.H h'→RE ρ' E' σ'→K σ' h'
 |.pan ch S'=>∀ρ' h' ps,Le ρ ρ'→Rep F h0 ρ' S'.H h'→RP ρ' ch ps→Qp ps h'
section
variable {P:Program} {oq:Nat→Value} {tb:Tbl} {rc:Rec} {ρ ρ':Rho} {F:Nat→Prop} {h0 h h':Heap} {H H':AH} {E E':AE} {σ:Env} {Y:AY} {S S':AS}
 {K:Env→Heap→Prop} {Qp:List PanicEntry→Heap→Prop}
theorem RO.mono {r:OR} (hl:Le ρ ρ') (h:RO F h0 ρ K Qp r):RO F h0 ρ' K Qp r:=by
 cases r with
 |ok E' S'=>exact fun ρ2 h2 σ2 hl2=>h ρ2 h2 σ2 (hl.trans hl2)
 |pan ch S'=>exact fun ρ2 h2 σ2 hl2=>h ρ2 h2 σ2 (hl.trans hl2)
theorem after_sound {d:Option Nat} {e:AEnd} {r:OR} (ho:putR d E (some (e,S'))=some r) (hE:RE ρ E σ) (hK:RO F h0 ρ K Qp r):
  ∀ρ' h' ee,Le ρ ρ'→Rep F h0 ρ' S'.H h'→RN ρ' e ee→after (fun v h'=>K (upd σ d v) h') Qp ee h':=by
 intro ρ' h' ee hl hR hN
 cases e with
 |ret v=>
  obtain⟨u,rfl,hu⟩:=hN
  simp only[putR]at ho
  split at ho
  ·rename_i E1 h1
   simp at ho;subst ho
   exact hK ρ' h' _ hl hR ((hE.mono hl).upd hu h1)
  ·simp at ho
 |pan ch=>
  obtain⟨ps,rfl,hp⟩:=hN
  simp[putR]at ho;subst ho
  exact hK ρ' h' ps hl hR hp
theorem plain_sound {id N':Nat} {d:Option Nat} {op:SOp} {r:OR} (ho:(match aop P E S.H id op with
  |some (v,H')=>match aupd E d v with
   |some E'=>some (OR.ok E' ⟨H',N'⟩)
   |none=>none
  |none=>none)=some r) (hR:Rep F h0 ρ S.H h) (hE:RE ρ E σ) (hK:RO F h0 ρ K Qp r):sop P σ h (fun v h'=>K (upd σ d v) h') Qp op:=by
 split at ho
 ·rename_i v H1 h1
  split at ho
  ·rename_i E1 h2
   simp at ho;subst ho
   exact aop_sound hR hE h1 fun ρ' h' u hl hR' hu=>hK ρ' h' _ hl hR' ((hE.mono hl).upd hu h2)
  ·simp at ho
 ·simp at ho
theorem putR_some {d:Option Nat} {o:Option (AEnd×AS)} {r:OR} (ho:putR d E o=some r):∃e S',o=some (e,S'):=by
 cases o with
 |none=>simp[putR]at ho
 |some x=>exact⟨x.1,x.2,rfl⟩
theorem arun_sound (hX:XOK P oq F h0 rc) (hT:TOK P oq F h0 tb) {id N':Nat} {d:Option Nat} {op:SOp} {r:OR} (ho:arun P tb rc Y E S id N' d op=some r) (hR:Rep F h0 ρ S.H h) (hE:RE ρ E σ) (hY:RY P oq ρ Y)
  (hK:RO F h0 ρ K Qp r):sop P σ h (fun v h'=>K (upd σ d v) h') Qp op:=by
 cases op
 case call f xs=>
  simp only[arun]at ho
  split at ho
  ·rename_i vs hvs
   obtain⟨us,h1,h2⟩:=aevs_sound hR hE hvs
   obtain⟨e,S1,hc⟩:=putR_some ho
   rw[hc]at ho
   simp only[sop,h2]
   exact call_sound hX hT hc hR h1 hY (after_sound ho hE hK)
  ·simp at ho
 case callv x xs=>
  simp only[arun]at ho
  split at ho
  ·rename_i f fi cap vs hx hvs
   obtain⟨us,h1,h2⟩:=aevs_sound hR hE hvs
   obtain⟨fv,h3,h4⟩:=aev_sound hR hE hx
   obtain⟨e,S1,hc⟩:=putR_some ho
   rw[hc]at ho
   simp only[conc]at h3
   split at h3
   ·rename_i xf yc hxf hyc
    simp at h3;subst h3
    simp only[sop,h4,h2]
    refine call_sound hX hT hc hR ?_ hY (after_sound ho hE hK)
    rw[joined_eq,joined_eq]
    have:=concs_app hxf (concs_app h1 hyc)
    simpa using this
   ·simp at h3
  ·rename_i l vs hx hvs
   obtain⟨us,h1,h2⟩:=aevs_sound hR hE hvs
   obtain⟨fv,h3,h4⟩:=aev_sound hR hE hx
   obtain⟨e,S1,hc⟩:=putR_some ho
   rw[hc]at ho
   simp only[conc]at h3
   split at h3
   ·rename_i b ba cp hp
    simp at h3;subst h3
    simp only[sop,h4,h2]
    exact yield_sound hX hc hp hR h1 hY (after_sound ho hE hK)
   ·simp at h3
  ·simp at ho
 case callx f xs=>
  simp only[arun]at ho
  split at ho
  ·rename_i vs hvs
   split at ho
   ·rename_i g hf
    split at ho
    ·rename_i v S1 hg
     obtain⟨us,h1,h2⟩:=aevs_sound hR hE hvs
     simp only[sop,h2]
     exact(hT.find hf) ρ h vs us S S1 v _ hY.1 hg hR h1 fun ρ' h' u hl hR' hu=>after_sound ho hE hK ρ' h' (.returned u) hl hR' ⟨u,rfl,hu⟩
    ·simp at ho
   ·simp at ho
  ·simp at ho
 case pan x=>
  simp only[arun]at ho
  split at ho
  ·rename_i t v hx
   simp at ho;subst ho
   obtain⟨u,h1,h2⟩:=aev_sound hR hE hx
   simp only[conc]at h1
   split at h1
   ·rename_i w hw
    simp at h1;subst h1
    simp only[sop,h2]
    exact hK ρ h _ (Le.refl ρ) hR ⟨.iface t w,[],by simp[conc,hw],rfl,rfl⟩
   ·simp at h1
  ·simp at ho
 all_goals exact plain_sound (id:=id) (N':=N') ho hR hE hK
theorem aopr_sound (hX:XOK P oq F h0 rc) (hT:TOK P oq F h0 tb) {id N':Nat} {o:SOper} {r:OR} (ho:aopr P tb rc Y E S id N' o=some r) (hR:Rep F h0 ρ S.H h) (hE:RE ρ E σ) (hY:RY P oq ρ Y)
  (hK:RO F h0 ρ K Qp r):sopr P σ h o K Qp:=by
 unfold aopr at ho
 unfold sopr
 split at ho
 ·rename_i hg
  rw[hg]
  exact arun_sound hX hT ho hR hE hY hK
 ·rename_i g want hg
  rw[hg]
  simp only
  split at ho
  ·rename_i t ht
   obtain⟨v,h1,h2⟩:=hE g _ ht
   simp[conc]at h1;subst h1
   rw[h2]
   simp only[cond_eq_ite,beqB_eq]at ho
   split at ho
   ·rename_i htw;subst htw
    have:takes (.bool t) t=true:=by cases t<;>rfl
    simp only[this]
    exact arun_sound hX hT ho hR hE hY hK
   ·rename_i htw
    have:takes (.bool t) want=false:=by cases t<;>cases want<;>first|rfl|exact absurd rfl htw
    simp only[this]
    split at ho
    ·rename_i E1 h3
     simp at ho;subst ho
     exact hK ρ h _ (Le.refl ρ) hR (hE.upd (v:=undef) rfl h3)
    ·simp at ho
  ·rename_i l ht
   obtain⟨v,h1,h2⟩:=hE g _ ht
   rw[h2]
   have:takes v want=false:=by
    simp only[conc]at h1
    split at h1
    ·simp at h1;subst h1;cases want<;>rfl
    ·simp at h1
   simp only[this]
   split at ho
   ·rename_i E1 h3
    simp at ho;subst ho
    exact hK ρ h _ (Le.refl ρ) hR (hE.upd (v:=undef) rfl h3)
   ·simp at ho
  ·simp at ho
theorem aops_sound (hX:XOK P oq F h0 rc) (hT:TOK P oq F h0 tb):∀{l:List SOper} {E:AE} {S:AS} {r:OR} {ρ:Rho} {h:Heap} {σ:Env},aops P tb rc Y l E S=some r→Rep F h0 ρ S.H h→RE ρ E σ→RY P oq ρ Y→
  RO F h0 ρ K Qp r→sops P Qp K l σ h
 |[],E,S,r,ρ,h,σ,ho,hR,hE,hY,hK=>by
  simp[aops]at ho;subst ho
  exact hK ρ h σ (Le.refl ρ) hR hE
 |o::l,E,S,r,ρ,h,σ,ho,hR,hE,hY,hK=>by
  simp only[aops]at ho
  simp only[sops]
  split at ho
  ·rename_i E1 S1 h1
   exact aopr_sound hX hT h1 hR hE hY fun ρ' h' σ' hl hR' hE'=>aops_sound hX hT ho hR' hE' (hY.mono hl) (hK.mono hl)
  ·rename_i hne
   refine aopr_sound hX hT ho hR hE hY ?_
   cases r with
   |ok E1 S1=>exact absurd ho (hne E1 S1)
   |pan ch S1=>exact hK
theorem again_sound {op:SOp} {d:Nat} {v u:AV} {H1:AH} (hR:Rep F h0 ρ H h) (hE:RE ρ E σ) (hq:cls op≤1) (ho:aop P E H 0 op=some (v,H1)) (hu:E.get d=some u) (he:aeq v u=true):
  sop P σ h (fun w h'=>h'=h∧upd σ (some d) w=σ) Qp op:=by
 have h1:sop P σ h (fun w _=>∃ρ',Le ρ ρ'∧conc ρ' v=some w) Qp op:=aop_sound hR hE ho fun ρ' h' w hl _ hw=>⟨ρ',hl,hw⟩
 obtain⟨w,⟨ρ',hl,hw⟩,hall⟩:=quiet op hq h1
 refine hall h (.inr (Ext.refl h)) _ _ ⟨rfl,?_⟩
 obtain⟨w',h2,h3⟩:=hE d u hu
 rw[←aeq_eq _ _ he]at h2
 have:=conc_mono hl _ _ h2
 rw[hw]at this;simp at this;subst this
 funext t
 by_cases ht:t=d
 ·subst ht;simp[upd,h3]
 ·exact upd_ne (by intro e;exact ht (by simpa using e.symm))
theorem achk_sound (hR:Rep F h0 ρ H h) (hE:RE ρ E σ) {o:SOper} (hq:cls o.op≤1) (ho:achk P E H o=true):chkOp P σ h o:=by
 unfold achk at ho
 unfold chkOp sopr
 have skip:∀{d:Nat} {u:AV},E.get d=some u→aeq (.t []) u=true→upd σ (some d) undef=σ:=by
  intro d u hu he
  obtain⟨w,h1,h2⟩:=hE d u hu
  rw[←aeq_eq _ _ he]at h1
  simp[conc,concs]at h1
  funext t
  by_cases ht:t=d
  ·subst ht;simp[upd,h2,←h1,undef]
  ·exact upd_ne (by intro e;exact ht (by simpa using e.symm))
 split at ho
 ·rename_i d hg hd
  rw[hg,hd]
  split at ho
  ·rename_i v H1 u h1 h2
   exact again_sound hR hE hq h1 h2 ho
  ·simp at ho
 ·rename_i g want d hg hd
  rw[hg,hd]
  simp only
  split at ho
  ·rename_i t ht
   obtain⟨v,h1,h2⟩:=hE g _ ht
   simp[conc]at h1;subst h1
   rw[h2]
   simp only[cond_eq_ite,beqB_eq]at ho
   split at ho
   ·rename_i htw;subst htw
    have:takes (.bool t) t=true:=by cases t<;>rfl
    simp only[this]
    split at ho
    ·rename_i v H1 u h1 h2
     exact again_sound hR hE hq h1 h2 ho
    ·simp at ho
   ·rename_i htw
    have:takes (.bool t) want=false:=by cases t<;>cases want<;>first|rfl|exact absurd rfl htw
    simp only[this]
    split at ho
    ·rename_i u hu
     exact⟨trivial,skip hu ho⟩
    ·simp at ho
  ·rename_i l ht
   obtain⟨v,h1,h2⟩:=hE g _ ht
   rw[h2]
   have:takes v want=false:=by
    simp only[conc]at h1
    split at h1
    ·simp at h1;subst h1;cases want<;>rfl
    ·simp at h1
   simp only[this]
   split at ho
   ·rename_i u hu
    exact⟨trivial,skip hu ho⟩
   ·simp at ho
  ·simp at ho
 ·simp at ho
theorem achks_sound (hR:Rep F h0 ρ H h) (hE:RE ρ E σ):∀{l:List SOper},achks P E H l=true→∀x∈l,cls x.op≤1∧chkOp P σ h x
 |[],_,x,hx=>by simp at hx
 |o::l,ho,x,hx=>by
  simp only[achks,Bool.and_eq_true,Nat.ble_eq]at ho
  rcases List.mem_cons.1 hx with rfl|hx
  ·exact⟨ho.1.1,achk_sound hR hE ho.1.1 ho.1.2⟩
  ·exact achks_sound hR hE ho.2 x hx
theorem beqS_eq {S S':AS} (h:beqS S S'=true):S=S':=by
 unfold beqS at h
 simp only[Bool.and_eq_true,Nat.beq_eq]at h
 cases S;cases S'
 simp only at h
 rw[h.1,beqT_eq (fun _ _=>beqAB_eq) _ _ h.2]
theorem atree_sound (hX:XOK P oq F h0 rc) (hT:TOK P oq F h0 tb) {base:Nat}:∀{t:OTree} {E:AE} {S:AS} {r:OR} {ρ:Rho} {h:Heap} {σ:Env},atree P tb rc Y base t E S=some r→Rep F h0 ρ S.H h→RE ρ E σ→RY P oq ρ Y→
  RO F h0 ρ K Qp r→stree P Qp K t σ h:=by
 intro t
 induction t with
 |done=>
  intro E S r ρ h σ ho hR hE hY hK
  simp[atree]at ho;subst ho
  exact hK ρ h σ (Le.refl ρ) hR hE
 |one o t ih=>
  intro E S r ρ h σ ho hR hE hY hK
  simp only[atree]at ho
  simp only[stree]
  split at ho
  ·rename_i E1 S1 h1
   exact aopr_sound hX hT h1 hR hE hY fun ρ' h' σ' hl hR' hE'=>ih ho hR' hE' (hY.mono hl) (hK.mono hl)
  ·rename_i hne
   refine aopr_sound hX hT ho hR hE hY ?_
   cases r with
   |ok E1 S1=>exact absurd ho (hne E1 S1)
   |pan ch S1=>exact hK
 |both a b iha ihb=>
  intro E S r ρ h σ ho hR hE hY hK
  simp only[atree]at ho
  simp only[stree]
  split at ho
  ·rename_i E1 S1 E2 S2 h1 h2
   simp only[cond_eq_ite,Bool.and_eq_true]at ho
   split at ho
   ·rename_i heq
    simp at ho;subst ho
    have e1:=beqT_eq aeq_eq _ _ heq.1
    have e2:=beqS_eq heq.2
    subst e1;subst e2
    exact⟨iha h1 hR hE hY hK,ihb h2 hR hE hY hK⟩
   ·simp at ho
  ·simp at ho
 |chk l t ih=>
  intro E S r ρ h σ ho hR hE hY hK
  simp only[atree,cond_eq_ite]at ho
  simp only[stree]
  split at ho
  ·rename_i hc
   exact⟨achks_sound hR hE hc,ih ho hR hE hY hK⟩
  ·simp at ho
end
end Go.Sx
namespace Go.Sx
open Go
theorem T.bound {α:Type}:∀t:T α,∃n,∀k,n≤k→t.get k=none
 |.e=>⟨0,fun k _=>T.get_e k⟩
 |.n l v r=>by
  obtain⟨a,ha⟩:=T.bound l
  obtain⟨b,hb⟩:=T.bound r
  refine⟨2*(a+b)+3,fun k hk=>?_⟩
  rw[T.get_n]
  rw[if_neg (by omega)]
  split
  ·exact ha _ (by omega)
  ·exact hb _ (by omega)
section
variable {P:Program} {oq:Nat→Value} {tb:Tbl} {rc:Rec} {ρ ρ':Rho} {F:Nat→Prop} {h0 h h':Heap} {H H':AH} {E E':AE} {σ:Env} {Y:AY} {S S':AS}
theorem RE.listed_upto (hE:RE ρ E σ):∀n,∃L,SubL σ L∧∀t a,t<n→E.get t=some a→∃v,conc ρ a=some v∧mk L t=some v
 |0=>⟨[],trivial,fun t a ht=>by omega⟩
 |n+1=>by
  obtain⟨L,h1,h2⟩:=hE.listed_upto n
  cases hn:E.get n with
  |none=>
   refine⟨L,h1,fun t a ht hg=>?_⟩
   by_cases htn:t=n
   ·subst htn;rw[hn]at hg;simp at hg
   ·exact h2 t a (by omega) hg
  |some x=>
   obtain⟨u,h3,h4⟩:=hE n x hn
   refine⟨(n,u)::L,⟨h4,h1⟩,fun t a ht hg=>?_⟩
   by_cases htn:t=n
   ·subst htn;rw[hn]at hg;simp at hg;subst hg
    exact⟨u,h3,by simp[mk,Sx.upd]⟩
   ·obtain⟨v,h5,h6⟩:=h2 t a (by omega) hg
    refine⟨v,h5,?_⟩
    rw[←h6]
    exact upd_ne (by intro e;exact htn (by simpa using e.symm))
theorem RE.listed (hE:RE ρ E σ):∃L,SubL σ L∧RE ρ E (mk L):=by
 obtain⟨n,hn⟩:=T.bound E
 obtain⟨L,h1,h2⟩:=hE.listed_upto n
 refine⟨L,h1,fun t a hg=>?_⟩
 by_cases ht:t<n
 ·exact h2 t a ht hg
 ·rw[hn t (by omega)]at hg;simp at hg
inductive Rounds (rc:Rec) (Y:AY) (c:SCode) (D:List AD) (o:AOut):Nat→AE→AS→Prop
 |out {E:AE} {S:AS}:rc Y c E D S=some o→o.1≠.nrm→Rounds rc Y c D o 0 E S
 |more {n:Nat} {E E':AE} {S S':AS}:rc Y c E D S=some (.nrm,E',D,S')→Rounds rc Y c D o n E' S'→Rounds rc Y c D o (n+1) E S
theorem aloop_spec {c:SCode} {D:List AD}:∀(k:Nat) (E:AE) (S:AS),
  (∀o,aloop rc Y c D k E S=.out o→∃n,Rounds rc Y c D o n E S)∧(∀E' S',aloop rc Y c D k E S=.more E' S'→∀o n,Rounds rc Y c D o n E' S'→∃m,Rounds rc Y c D o m E S)
 |0,E,S=>by
  constructor
  ·intro o ho
   simp only[aloop]at ho
   split at ho
   ·simp only[cond_eq_ite]at ho;split at ho<;>simp at ho
   ·rename_i o' hne hrc
    simp at ho;subst ho
    refine⟨0,.out hrc fun e=>?_⟩
    obtain⟨x,E1,D1,S1⟩:=o'
    simp only at e;subst e
    exact hne E1 D1 S1 rfl
   ·simp at ho
  ·intro E' S' ho o n hr
   simp only[aloop]at ho
   split at ho
   ·rename_i E1 D1 S1 hrc
    simp only[cond_eq_ite]at ho
    split at ho
    ·rename_i hD
     simp at ho;obtain⟨rfl,rfl⟩:=ho
     rw[aeqD_eq _ _ hD]at hrc
     exact⟨n+1,.more hrc hr⟩
    ·simp at ho
   ·simp at ho
   ·simp at ho
 |k+1,E,S=>by
  obtain⟨h1,h2⟩:=aloop_spec (c:=c) (D:=D) k E S
  cases hk:aloop rc Y c D k E S with
  |more E1 S1=>
   obtain⟨h3,h4⟩:=aloop_spec (c:=c) (D:=D) k E1 S1
   constructor
   ·intro o ho
    simp only[aloop,hk]at ho
    obtain⟨n,hn⟩:=h3 o ho
    exact h2 E1 S1 hk o n hn
   ·intro E' S' ho o n hr
    simp only[aloop,hk]at ho
    obtain⟨m,hm⟩:=h4 E' S' ho o n hr
    exact h2 E1 S1 hk o m hm
  |out o'=>
   constructor
   ·intro o ho
    simp only[aloop,hk]at ho
    simp at ho;subst ho
    exact h1 o' hk
   ·intro E' S' ho
    simp only[aloop,hk]at ho
    simp at ho
  |fail=>
   constructor
   ·intro o ho
    simp only[aloop,hk]at ho
    simp at ho
   ·intro E' S' ho
    simp only[aloop,hk]at ho
    simp at ho
theorem loop_sound (hX:XOK P oq F h0 rc) {c:SCode} {D D':List AD} {x:AX} {n:Nat} {ds:List Deferred} {Q:Post} (hr:Rounds rc Y c D (x,E',D',S') n E S) (hR:Rep F h0 ρ S.H h) (hE:RE ρ E σ) (hD:RD ρ D ds) (hY:RY P oq ρ Y)
  (hK:∀ρ' h' σ' ds' xx,Le ρ ρ'→Rep F h0 ρ' S'.H h'→RE ρ' E' σ'→RD ρ' D' ds'→RX ρ' x xx→Q xx σ' ds' h'):swp P (.loop c) Q σ ds h:=by
 simp only[swp]
 obtain⟨L,hL,hEL⟩:=hE.listed
 refine⟨Nat×AE×AS×List (Nat×Value),fun i=>i.2.2.2,fun i h=>∃ρ',Le ρ ρ'∧Rounds rc Y c D (x,E',D',S') i.1 i.2.1 i.2.2.1∧RE ρ' i.2.1 (mk i.2.2.2)∧Rep F h0 ρ' i.2.2.1.H h,fun i=>i.1,(n,E,S,L),hL,⟨ρ,Le.refl ρ,hr,hEL,hR⟩,?_⟩
 rintro⟨m,E1,S1,L1⟩ h1 ⟨ρ1,hl1,hr1,hE1,hR1⟩
 simp only at hr1 hE1 hR1⊢
 cases hr1 with
 |out hrc hne=>
  refine hX hrc hR1 hE1 (hD.mono hl1) (hY.mono hl1) ?_
  intro ρ2 h2 σ2 ds2 xx hl2 hR2 hE2 hD2 hX2
  have:=hK ρ2 h2 σ2 ds2 xx (hl1.trans hl2) hR2 hE2 hD2 hX2
  cases x with
  |nrm=>exact absurd rfl hne
  |ex id=>cases hX2;exact this
  |ret=>cases hX2;exact this
  |gt l=>cases hX2;exact this
  |pan ch=>obtain⟨ps,rfl,_⟩:=hX2;exact this
 |more hrc hr2=>
  rename_i n' E2 S2
  refine hX hrc hR1 hE1 (hD.mono hl1) (hY.mono hl1) ?_
  intro ρ2 h2 σ2 ds2 xx hl2 hR2 hE2 hD2 hX2
  cases hX2
  obtain⟨L2,hL2,hEL2⟩:=hE2.listed
  exact⟨RD.one hD2 (hD.mono (hl1.trans hl2)),(n',E2,S2,L2),hL2,⟨ρ2,hl1.trans hl2,hr2,hEL2,hR2⟩,Nat.lt_succ_self _⟩
theorem range_sound (hX:XOK P oq F h0 rc) (hT:TOK P oq F h0 tb) {g:Operand} {ps:List Nat} {a b:SCode} {f:Nat} {fi cap:List AV} {D:List AD} {v:AV} {H1 H2:AH} {S3 S4:AS} {st:LoopState} {p:APend} {ds:List Deferred} {Q:Post}
  (hg:aev S.H E g=some (.f f fi cap)) (h1:grow S.H S.N (.dfd true)=some H1) (h2:grow H1 (S.N+1) (.loop .ready none)=some H2)
  (h3:acall tb rc ((S.N+1,E,ps,a,b)::Y) f (joined fi (joined [.y (S.N+1)] cap)) ⟨H2,S.N+2⟩=some (.ret v,S3)) (h4:S3.H.get (S.N+1)=some (.loop st p)) (h5:st≠.busy) (h6:setL S3 (S.N+1) .exhausted p=some S4)
  (hR:Rep F h0 ρ S.H h) (hE:RE ρ E σ) (hD:RD ρ D ds) (hY:RY P oq ρ Y)
  (hK:∀ρ' h' σ' ds' xx,Le ρ ρ'→Rep F h0 ρ' S4.H h'→RE ρ' E σ'→RD ρ' (.mk S.N::D) ds'→RX ρ' (match p with|none=>.nrm|some none=>.ret|some (some id)=>.ex id) xx→Q xx σ' ds' h'):swp P (.rangeF g ps a b) Q σ ds h:=by
 obtain⟨fv,hc,he⟩:=aev_sound hR hE hg
 simp only[conc]at hc
 split at hc
 ·rename_i xf yc hxf hyc
  simp at hc;subst hc
  simp only[swp,he]
  intro l DD r hh hDD hl hsz hold hdat hLB hyl
  obtain⟨g1,g2,g3⟩:=grow_spec h1
  obtain⟨g4,g5,g6⟩:=grow_spec h2
  have hlt:∀{a' B' r'},S.H.get a'=some B'→B'≠.dead→ρ.pl a'=some r'→r'.1<h.size:=by
   intro a' B' r' k1 k2 k3
   obtain⟨r'',k4,_,k5,_⟩:=hR.obj a' B' k1 k2
   rw[k3]at k4;simp at k4;subst k4;exact k5
  obtain⟨ρ1,hl1,hp1,_,hR1⟩:=hR.add (b:=DD) (ba:=0) (cp:=0) (h':=hh) default h1 (fun a' B' r' k1 k2 k3=>by have:=hlt k1 k2 k3;omega)
   (fun hF=>by have:=(hR.fr _ hF).1;omega) (by omega) (by omega) (fun k _ hk=>hold k hk) (fun ρ' _ _ _=>hdat)
  obtain⟨ρ2,hl2,hp2,hlr2,hR2⟩:=hR1.add (b:=l) (ba:=0) (cp:=0) (h':=hh) r h2 (fun a' B' r' k1 k2 k3=>by
    rw[g3 a']at k1
    split at k1
    ·rename_i e;subst e
     rw[hp1]at k3;simp at k3;subst k3;simp only;omega
    ·obtain⟨r'',k4,_⟩:=hR.obj a' B' k1 k2
     have:=hl1.pl _ _ k4
     rw[k3]at this;simp at this;subst this
     have:=hlt k1 k2 k4;omega)
   (fun hF=>by have:=(hR.fr _ hF).1;omega) (by omega) (Nat.le_refl _) (fun k _ _=>rfl) (fun ρ' _ _ hlr=>by simp only[RB,hlr];exact hLB)
  have hl12:=hl1.trans hl2
  have hY2:RY P oq ρ2 ((S.N+1,E,ps,a,b)::Y):=by
   refine⟨hl12.op.trans hY.1,fun k E1 ps1 a1 b1 hy=>?_⟩
   simp only[yfind,cond_eq_ite,Nat.beq_eq]at hy
   split at hy
   ·rename_i hk;subst hk
    simp at hy;obtain⟨rfl,rfl,rfl,rfl⟩:=hy
    refine⟨_,σ,hp2,hE.mono hl12,?_⟩
    rw[hlr2];exact hyl
   ·exact(hY.mono hl12).2 k E1 ps1 a1 b1 hy
  have hargs:concs ρ2 (joined fi (joined [.y (S.N+1)] cap))=some (xf++([.func (.yield l) #[] #[]]++yc)):=by
   rw[joined_eq,joined_eq]
   refine concs_app (concs_mono hl12 _ _ hxf) (concs_app ?_ (concs_mono hl12 _ _ hyc))
   simp only[concs,conc,hp2]
  have hcall:=call_sound (R:=endQ l DD r Q σ ds) hX hT h3 hR2 hargs hY2 ?_
  ·simpa using hcall
  ·intro ρ3 h3' ee hl3 hR3 hN
   obtain⟨u,rfl,hu⟩:=hN
   have hp3:=hl3.pl _ _ hp2
   have hlr3:=(hl3.lr _ _ hp2).trans hlr2
   obtain⟨r',hr',_,_,hb⟩:=hR3.obj _ _ h4 (by simp)
   rw[hp3]at hr';simp at hr';subst hr'
   simp only[RB,hlr3]at hb
   refine⟨st,pcode p,hb,h5,fun h' ht=>?_⟩
   have hR4:Rep F h0 ρ3 S4.H h':=hR3.turn h4 hp3 (setL_put h6) (by rw[hlr3];exact ht)
   have hl:=hl12.trans hl3
   have hD4:RD ρ3 (.mk S.N::D) ({target:=.collected DD,args:= #[]}::ds):=⟨_,ds,hl3.pl _ _ (hl2.pl _ _ hp1),rfl,hD.mono hl⟩
   cases p with
   |none=>exact hK ρ3 h' σ _ _ hl hR4 (hE.mono hl) hD4 rfl
   |some p=>cases p with
    |none=>exact hK ρ3 h' σ _ _ hl hR4 (hE.mono hl) hD4 rfl
    |some id=>exact hK ρ3 h' σ _ _ hl hR4 (hE.mono hl) hD4 rfl
 ·simp at hc
section
variable {D:List AD}
theorem as_skip:astep P tb rc Y .skip E D S=some (.nrm,E,D,S):=rfl
theorem as_label {l:Nat}:astep P tb rc Y (.label l) E D S=some (.nrm,E,D,S):=rfl
theorem as_exit {id:Nat}:astep P tb rc Y (.exit id) E D S=some (.ex id,E,D,S):=rfl
theorem as_ret:astep P tb rc Y .ret E D S=some (.ret,E,D,S):=rfl
theorem as_goto {l:Nat}:astep P tb rc Y (.goto l) E D S=some (.gt l,E,D,S):=rfl
theorem as_rcv {d:Option Nat}:astep P tb rc Y (.rcv d) E D S=none:=rfl
theorem as_two {p l1 l2:List SOper}:astep P tb rc Y (.two p l1 l2) E D S=none:=rfl
theorem as_ops {l:List SOper}:astep P tb rc Y (.ops l) E D S=(match aops P tb rc Y l E S with
  |some (.ok E' S')=>some (.nrm,E',D,S')
  |some (.pan ch S')=>match delA E (dstsOf l)with
   |some E'=>some (.pan ch,E',D,S')
   |none=>none
  |none=>none):=rfl
theorem as_tree {l:List Nat} {t:OTree}:astep P tb rc Y (.tree l t) E D S=(match atree P tb rc Y S.N t E ⟨S.H,S.N+maxL l+1⟩with
  |some (.ok E' S')=>some (.nrm,E',D,S')
  |some (.pan ch S')=>match delA E l with
   |some E'=>some (.pan ch,E',D,S')
   |none=>none
  |none=>none):=rfl
theorem as_seq {a b:SCode}:astep P tb rc Y (.seq a b) E D S=(match rc Y a E D S with
  |some (.nrm,E',D',S')=>rc Y b E' D' S'
  |r=>r):=rfl
theorem as_cond {c:Operand} {a b:SCode}:astep P tb rc Y (.cond c a b) E D S=(match aev S.H E c with
  |some (.b t)=>bif t then rc Y a E D S else rc Y b E D S
  |_=>none):=rfl
theorem as_block {id:Nat} {c:SCode}:astep P tb rc Y (.block id c) E D S=(match rc Y c E D S with
  |some (.ex id',E',D',S')=>bif Nat.beq id' id then some (.nrm,E',D',S')else some (.ex id',E',D',S')
  |r=>r):=rfl
attribute [local irreducible] aloop in
theorem as_loop {c:SCode}:astep P tb rc Y (.loop c) E D S=(match aloop rc Y c D 17 E S with
  |.out o=>some o
  |_=>none):=rfl
theorem as_scope {c:SCode}:astep P tb rc Y (.scope c) E D S=(match rc Y c E D S with
  |some (.gt _,_,_,_)=>none
  |r=>r):=rfl
theorem as_scopeG {c r:SCode} {l:Nat}:astep P tb rc Y (.scopeG c l r) E D S=(match rc Y c E D S with
  |some (.gt l',E',D',S')=>bif Nat.beq l' l then match rc Y r E' D' S' with
    |some (.gt _,_,_,_)=>none
    |r=>r
   else none
  |r=>r):=rfl
theorem as_dfr {l:List SOper} {d:Option Nat} {x:Operand} {args:List Operand}:astep P tb rc Y (.dfr l d x args) E D S=(match aops P tb rc Y l E S with
  |some (.ok E' S')=>match aev S'.H E' x,aevs S'.H E' args with
   |some (.f f fi cap),some vs=>match aupd E' d (.t [])with
    |some E2=>some (.nrm,E2,.fn f cap (joined fi vs)::D,S')
    |none=>none
   |_,_=>none
  |some (.pan ch S')=>match delA E (dstsOf l)with
   |some E'=>some (.pan ch,E',D,S')
   |none=>none
  |none=>none):=rfl
theorem as_rangeF {g:Operand} {ps:List Nat} {a b:SCode}:astep P tb rc Y (.rangeF g ps a b) E D S=(match aev S.H E g with
  |some (.f f fi cap)=>match grow S.H S.N (.dfd true)with
   |some H1=>match grow H1 (S.N+1) (.loop .ready none)with
    |some H2=>match acall tb rc ((S.N+1,E,ps,a,b)::Y) f (joined fi (joined [.y (S.N+1)] cap)) ⟨H2,S.N+2⟩with
     |some (.ret _,S3)=>match S3.H.get (S.N+1)with
      |some (.loop st p)=>bif steq st .busy then none else
       match setL S3 (S.N+1) .exhausted p with
       |some S4=>match p with
        |none=>some (.nrm,E,.mk S.N::D,S4)
        |some none=>some (.ret,E,.mk S.N::D,S4)
        |some (some id)=>some (.ex id,E,.mk S.N::D,S4)
       |none=>none
      |_=>none
     |_=>none
    |none=>none
   |none=>none
  |_=>none):=rfl
end
theorem astep_sound (hX:XOK P oq F h0 rc) (hT:TOK P oq F h0 tb):XOK P oq F h0 (astep P tb rc):=by
 intro Y c E D S x E' D' S' ho ρ h σ ds Q hR hE hD hY hK
 cases c with
 |skip=>
  simp[as_skip]at ho;obtain⟨rfl,rfl,rfl,rfl⟩:=ho
  exact hK ρ h σ ds _ (Le.refl ρ) hR hE hD rfl
 |label l=>
  simp[as_label]at ho;obtain⟨rfl,rfl,rfl,rfl⟩:=ho
  exact hK ρ h σ ds _ (Le.refl ρ) hR hE hD rfl
 |exit id=>
  simp[as_exit]at ho;obtain⟨rfl,rfl,rfl,rfl⟩:=ho
  exact hK ρ h σ ds _ (Le.refl ρ) hR hE hD rfl
 |ret=>
  simp[as_ret]at ho;obtain⟨rfl,rfl,rfl,rfl⟩:=ho
  exact hK ρ h σ ds _ (Le.refl ρ) hR hE hD rfl
 |goto l=>
  simp[as_goto]at ho;obtain⟨rfl,rfl,rfl,rfl⟩:=ho
  exact hK ρ h σ ds _ (Le.refl ρ) hR hE hD rfl
 |rcv d=>simp[as_rcv]at ho
 |two pre l1 l2=>simp[as_two]at ho
 |ops l=>
  rw[as_ops]at ho
  simp only[swp]
  split at ho
  ·rename_i E1 S1 h1
   simp at ho;obtain⟨rfl,rfl,rfl,rfl⟩:=ho
   exact aops_sound hX hT h1 hR hE hY fun ρ' h' σ' hl hR' hE'=>hK ρ' h' σ' ds _ hl hR' hE' (hD.mono hl) rfl
  ·rename_i ch S1 h1
   split at ho
   ·rename_i E1 h2
    simp at ho;obtain⟨rfl,rfl,rfl,rfl⟩:=ho
    exact aops_sound hX hT h1 hR hE hY fun ρ' h' pp hl hR' hp=>hK ρ' h' _ ds _ hl hR' ((hE.mono hl).delh h2) (hD.mono hl) ⟨pp,rfl,hp⟩
   ·simp at ho
  ·simp at ho
 |tree l t=>
  rw[as_tree]at ho
  simp only[swp]
  split at ho
  ·rename_i E1 S1 h1
   simp at ho;obtain⟨rfl,rfl,rfl,rfl⟩:=ho
   exact atree_sound hX hT h1 hR hE hY fun ρ' h' σ' hl hR' hE'=>hK ρ' h' σ' ds _ hl hR' hE' (hD.mono hl) rfl
  ·rename_i ch S1 h1
   split at ho
   ·rename_i E1 h2
    simp at ho;obtain⟨rfl,rfl,rfl,rfl⟩:=ho
    exact atree_sound hX hT h1 hR hE hY fun ρ' h' pp hl hR' hp=>hK ρ' h' _ ds _ hl hR' ((hE.mono hl).del h2) (hD.mono hl) ⟨pp,rfl,hp⟩
   ·simp at ho
  ·simp at ho
 |dfr l d y args=>
  rw[as_dfr]at ho
  simp only[swp]
  split at ho
  ·rename_i E1 S1 h1
   split at ho
   ·rename_i f fi cap vs hx hvs
    split at ho
    ·rename_i E2 h2
     simp at ho;obtain⟨rfl,rfl,rfl,rfl⟩:=ho
     refine aops_sound hX hT h1 hR hE hY fun ρ' h' σ' hl hR' hE'=>?_
     obtain⟨fv,h3,h4⟩:=aev_sound hR' hE' hx
     obtain⟨us,h5,h6⟩:=aevs_sound hR' hE' hvs
     simp only[conc]at h3
     split at h3
     ·rename_i xf yc hxf hyc
      simp at h3;subst h3
      simp only[h4,h6]
      exact hK ρ' h' _ _ _ hl hR' (hE'.upd (v:=undef) rfl h2) ⟨yc,xf++us,ds,hyc,by rw[joined_eq];exact concs_app hxf h5,rfl,hD.mono hl⟩ rfl
     ·simp at h3
    ·simp at ho
   ·simp at ho
  ·rename_i ch S1 h1
   split at ho
   ·rename_i E1 h2
    simp at ho;obtain⟨rfl,rfl,rfl,rfl⟩:=ho
    exact aops_sound hX hT h1 hR hE hY fun ρ' h' pp hl hR' hp=>hK ρ' h' _ ds _ hl hR' ((hE.mono hl).delh h2) (hD.mono hl) ⟨pp,rfl,hp⟩
   ·simp at ho
  ·simp at ho
 |seq a b=>
  rw[as_seq]at ho
  simp only[swp]
  cases ha:rc Y a E D S with
  |none=>rw[ha]at ho;simp at ho
  |some o=>
   obtain⟨x1,E1,D1,S1⟩:=o
   rw[ha]at ho
   refine hX ha hR hE hD hY ?_
   intro ρ1 h1 σ1 ds1 xx hl1 hR1 hE1 hD1 hX1
   cases x1 with
   |nrm=>
    cases hX1
    exact hX ho hR1 hE1 hD1 (hY.mono hl1) fun ρ2 h2 σ2 ds2 xx2 hl2=>hK ρ2 h2 σ2 ds2 xx2 (hl1.trans hl2)
   |ex id=>simp at ho;obtain⟨rfl,rfl,rfl,rfl⟩:=ho;cases hX1;exact hK _ _ _ _ _ hl1 hR1 hE1 hD1 rfl
   |ret=>simp at ho;obtain⟨rfl,rfl,rfl,rfl⟩:=ho;cases hX1;exact hK _ _ _ _ _ hl1 hR1 hE1 hD1 rfl
   |gt l=>simp at ho;obtain⟨rfl,rfl,rfl,rfl⟩:=ho;cases hX1;exact hK _ _ _ _ _ hl1 hR1 hE1 hD1 rfl
   |pan ch=>simp at ho;obtain⟨rfl,rfl,rfl,rfl⟩:=ho;obtain⟨pp,rfl,hp⟩:=hX1;exact hK _ _ _ _ _ hl1 hR1 hE1 hD1 ⟨pp,rfl,hp⟩
 |cond y a b=>
  rw[as_cond]at ho
  simp only[swp]
  split at ho
  ·rename_i t ht
   rw[ev_b hR hE ht]
   cases t with
   |true=>exact hX ho hR hE hD hY hK
   |false=>exact hX ho hR hE hD hY hK
  ·simp at ho
 |block id c=>
  rw[as_block]at ho
  simp only[swp]
  cases ha:rc Y c E D S with
  |none=>rw[ha]at ho;simp at ho
  |some o=>
   obtain⟨x1,E1,D1,S1⟩:=o
   rw[ha]at ho
   refine hX ha hR hE hD hY ?_
   intro ρ1 h1 σ1 ds1 xx hl1 hR1 hE1 hD1 hX1
   cases x1 with
   |ex id'=>
    cases hX1
    simp only[cond_eq_ite,Nat.beq_eq]at ho
    simp only[blockQ]
    split at ho
    ·rename_i hi
     simp at ho;obtain⟨rfl,rfl,rfl,rfl⟩:=ho
     rw[if_pos hi]
     exact hK _ _ _ _ _ hl1 hR1 hE1 hD1 rfl
    ·rename_i hi
     simp at ho;obtain⟨rfl,rfl,rfl,rfl⟩:=ho
     rw[if_neg hi]
     exact hK _ _ _ _ _ hl1 hR1 hE1 hD1 rfl
   |nrm=>simp at ho;obtain⟨rfl,rfl,rfl,rfl⟩:=ho;cases hX1;exact hK _ _ _ _ _ hl1 hR1 hE1 hD1 rfl
   |ret=>simp at ho;obtain⟨rfl,rfl,rfl,rfl⟩:=ho;cases hX1;exact hK _ _ _ _ _ hl1 hR1 hE1 hD1 rfl
   |gt l=>simp at ho;obtain⟨rfl,rfl,rfl,rfl⟩:=ho;cases hX1;exact hK _ _ _ _ _ hl1 hR1 hE1 hD1 rfl
   |pan ch=>simp at ho;obtain⟨rfl,rfl,rfl,rfl⟩:=ho;obtain⟨pp,rfl,hp⟩:=hX1;exact hK _ _ _ _ _ hl1 hR1 hE1 hD1 ⟨pp,rfl,hp⟩
 |loop c=>
  rw[as_loop]at ho
  split at ho
  ·rename_i o hl
   simp at ho;subst ho
   obtain⟨n,hn⟩:=(aloop_spec 17 E S).1 _ hl
   exact loop_sound hX hn hR hE hD hY hK
  ·simp at ho
 |scope c=>
  rw[as_scope]at ho
  simp only[swp]
  cases ha:rc Y c E D S with
  |none=>rw[ha]at ho;simp at ho
  |some o=>
   obtain⟨x1,E1,D1,S1⟩:=o
   rw[ha]at ho
   refine hX ha hR hE hD hY ?_
   intro ρ1 h1 σ1 ds1 xx hl1 hR1 hE1 hD1 hX1
   cases x1 with
   |gt l=>simp at ho
   |nrm=>simp at ho;obtain⟨rfl,rfl,rfl,rfl⟩:=ho;cases hX1;exact hK _ _ _ _ _ hl1 hR1 hE1 hD1 rfl
   |ret=>simp at ho;obtain⟨rfl,rfl,rfl,rfl⟩:=ho;cases hX1;exact hK _ _ _ _ _ hl1 hR1 hE1 hD1 rfl
   |ex l=>simp at ho;obtain⟨rfl,rfl,rfl,rfl⟩:=ho;cases hX1;exact hK _ _ _ _ _ hl1 hR1 hE1 hD1 rfl
   |pan ch=>simp at ho;obtain⟨rfl,rfl,rfl,rfl⟩:=ho;obtain⟨pp,rfl,hp⟩:=hX1;exact hK _ _ _ _ _ hl1 hR1 hE1 hD1 ⟨pp,rfl,hp⟩
 |scopeG c l r=>
  rw[as_scopeG]at ho
  simp only[swp]
  cases ha:rc Y c E D S with
  |none=>rw[ha]at ho;simp at ho
  |some o=>
   obtain⟨x1,E1,D1,S1⟩:=o
   rw[ha]at ho
   refine hX ha hR hE hD hY ?_
   intro ρ1 h1 σ1 ds1 xx hl1 hR1 hE1 hD1 hX1
   cases x1 with
   |gt l'=>
    cases hX1
    simp only[cond_eq_ite,Nat.beq_eq]at ho
    split at ho
    ·rename_i hl'
     refine⟨hl',?_⟩
     cases hb:rc Y r E1 D1 S1 with
     |none=>rw[hb]at ho;simp at ho
     |some o=>
      obtain⟨x2,E2,D2,S2⟩:=o
      rw[hb]at ho
      refine hX hb hR1 hE1 hD1 (hY.mono hl1) ?_
      intro ρ2 h2 σ2 ds2 xx2 hl2 hR2 hE2 hD2 hX2
      cases x2 with
      |gt l=>simp at ho
      |nrm=>simp at ho;obtain⟨rfl,rfl,rfl,rfl⟩:=ho;cases hX2;exact hK _ _ _ _ _ (hl1.trans hl2) hR2 hE2 hD2 rfl
      |ret=>simp at ho;obtain⟨rfl,rfl,rfl,rfl⟩:=ho;cases hX2;exact hK _ _ _ _ _ (hl1.trans hl2) hR2 hE2 hD2 rfl
      |ex l=>simp at ho;obtain⟨rfl,rfl,rfl,rfl⟩:=ho;cases hX2;exact hK _ _ _ _ _ (hl1.trans hl2) hR2 hE2 hD2 rfl
      |pan ch=>simp at ho;obtain⟨rfl,rfl,rfl,rfl⟩:=ho;obtain⟨pp,rfl,hp⟩:=hX2;exact hK _ _ _ _ _ (hl1.trans hl2) hR2 hE2 hD2 ⟨pp,rfl,hp⟩
    ·simp at ho
   |nrm=>simp at ho;obtain⟨rfl,rfl,rfl,rfl⟩:=ho;cases hX1;exact hK _ _ _ _ _ hl1 hR1 hE1 hD1 rfl
   |ret=>simp at ho;obtain⟨rfl,rfl,rfl,rfl⟩:=ho;cases hX1;exact hK _ _ _ _ _ hl1 hR1 hE1 hD1 rfl
   |ex l=>simp at ho;obtain⟨rfl,rfl,rfl,rfl⟩:=ho;cases hX1;exact hK _ _ _ _ _ hl1 hR1 hE1 hD1 rfl
   |pan ch=>simp at ho;obtain⟨rfl,rfl,rfl,rfl⟩:=ho;obtain⟨pp,rfl,hp⟩:=hX1;exact hK _ _ _ _ _ hl1 hR1 hE1 hD1 ⟨pp,rfl,hp⟩
 |rangeF g ps a b=>
  rw[as_rangeF]at ho
  split at ho
  ·rename_i f fi cap hg
   split at ho
   ·rename_i H1 h1
    split at ho
    ·rename_i H2 h2
     split at ho
     ·rename_i v S3 h3
      split at ho
      ·rename_i st p h4
       simp only[cond_eq_ite]at ho
       split at ho
       ·simp at ho
       ·rename_i hst
        have h5:st≠.busy:=by rintro rfl;exact hst rfl
        split at ho
        ·rename_i S4 h6
         refine range_sound (D:=D) hX hT hg h1 h2 h3 h4 h5 h6 hR hE hD hY ?_
         cases p with
         |none=>simp at ho;obtain⟨rfl,rfl,rfl,rfl⟩:=ho;exact hK
         |some p=>cases p with
          |none=>simp at ho;obtain⟨rfl,rfl,rfl,rfl⟩:=ho;exact hK
          |some id=>simp at ho;obtain⟨rfl,rfl,rfl,rfl⟩:=ho;exact hK
        ·simp at ho
      ·simp at ho
     ·simp at ho
    ·simp at ho
   ·simp at ho
  ·simp at ho
theorem arec_sound (hT:TOK P oq F h0 tb):∀n,XOK P oq F h0 (arec P tb n)
 |0=>fun ho=>by simp[arec]at ho
 |n+1=>by
  have ih:XOK P oq F h0 (arec P tb n):=arec_sound hT n
  have:XOK P oq F h0 (astep P tb (arec P tb n)):=@astep_sound P oq tb (arec P tb n) F h0 ih hT
  exact this
def gRho (oq:Nat→Value) (h1:∀j,(oq j).oneCell'=true) (gs:List (Nat×List AV)):Rho:=⟨fun a=>if a∈gs.map (·.1)then some (a,0,0)else none,oq,fun _=>default,h1⟩
def gH:List (Nat×List AV)→AH
 |[]=>.e
 |p::r=>T.set 40 (gH r) p.1 (some (.cells false 0 p.2))
theorem gH_get:∀{gs:List (Nat×List AV)},(∀p∈gs,p.1<gtop)→∀{a:Nat},(∀{B:AB},(gH gs).get a=some B→∃p∈gs,p.1=a∧B=.cells false 0 p.2)∧(a∈gs.map (·.1)→(gH gs).get a≠none)
 |[],_,a=>⟨fun h=>by simp[gH,T.get_e]at h,fun h=>by simp at h⟩
 |p::r,hg,a=>by
  have hp:p.1<2 ^ 40:=Nat.lt_trans (hg p (by simp)) (by decide)
  obtain⟨i1,i2⟩:=gH_get (gs:=r) (fun q hq=>hg q (by simp[hq])) (a:=a)
  refine⟨fun h=>?_,fun h=>?_⟩
  ·simp only[gH]at h
   rw[T.get_set 40 _ _ _ _ hp]at h
   split at h
   ·rename_i e
    simp at h
    exact⟨p,by simp,e.symm,h.symm⟩
   ·obtain⟨q,h1,h2⟩:=i1 h
    exact⟨q,by simp[h1],h2⟩
  ·simp only[gH]
   rw[T.get_set 40 _ _ _ _ hp]
   split
   ·simp
   ·rename_i hne
    refine i2 ?_
    simp only[List.map_cons,List.mem_cons]at h
    rcases h with h|h
    ·exact absurd h hne
    ·exact h
theorem rep_globals {h1 : ∀ j, (oq j).oneCell' = true} {gs : List (Nat × List AV)} {h : Heap} (hg : ∀ p ∈ gs, p.1 < gtop ∧ ∃ vs, concs (gRho oq h1 gs) p.2 = some vs ∧ Blk h p.1 vs) : Rep (fun k => k < h.size) h (gRho oq h1 gs) (gH gs) h where
  fr := fun k hk => ⟨hk, rfl⟩
  dom := fun a r hr => by
    simp only [gRho] at hr
    split at hr
    · rename_i hm; exact (gH_get (fun p hp => (hg p hp).1)).2 hm
    · cases hr
  obj := fun a B hB hd => by
    obtain ⟨p, hp, e, rfl⟩ := (gH_get (fun p hp => (hg p hp).1)).1 hB
    subst e
    obtain ⟨k1, vs, k2, k3⟩ := hg p hp
    have hlt : p.1 < h.size := by
      obtain ⟨e, hx⟩ := k3
      exact (Array.getElem?_eq_some_iff.1 hx).1
    refine ⟨(p.1, 0, 0), ?_, fun h => absurd h (by omega), hlt, vs, [], [], k2, rfl, fun h => absurd rfl h, ?_, fun h => absurd rfl h⟩
    · simp only [gRho]
      rw [if_pos (List.mem_map.2 ⟨p, hp, rfl⟩)]
    · simpa using k3
  inj := fun a a' B B' r r' _ _ _ _ hr hr' hne => by
    simp only [gRho] at hr hr'
    split at hr <;> split at hr' <;> simp at hr hr'
    subst hr; subst hr'
    exact hne
  gl := fun g r _ hr => by
    simp only [gRho] at hr
    split at hr
    · simp at hr; subst hr; exact ⟨rfl, rfl⟩
    · cases hr

theorem run_callsG {h1:∀j,(oq j).oneCell'=true} {gs:List (Nat×List AV)} {h:Heap} (hT:TOK P oq (fun k=>k<h.size) h tb) (hg:∀p∈gs,p.1<gtop∧∃vs,concs (gRho oq h1 gs) p.2=some vs∧Blk h p.1 vs)
  {n f:Nat} {args:List AV} {vs:List Value} {e:AEnd} {S':AS} (ho:acall tb (arec P tb n) [] f args ⟨gH gs,gtop⟩=some (e,S')) (hc:concs (gRho oq h1 gs) args=some vs):
  CallsH P f vs h fun ee h'=>∃ρ',Le (gRho oq h1 gs) ρ'∧Rep (fun k=>k<h.size) h ρ' S'.H h'∧RN ρ' e ee:=
 call_sound (F:=fun k=>k<h.size) (h0:=h) (ρ:=gRho oq h1 gs) (arec_sound hT n) hT ho (rep_globals hg) hc ⟨rfl,fun l E ps a b hy=>by simp[yfind]at hy⟩ fun ρ' h' ee hl hR hN=>⟨ρ',hl,hR,hN⟩
theorem RB.same {a:Nat} {r:Nat×Nat×Nat} {B:AB} (hb:RB ρ h a r B) (hs:h'[r.1]? =h[r.1]?):RB ρ h' a r B:=by
 cases B with
 |cells w g l=>
  obtain⟨vs,pre,tail,h1,h2,h3,h4,h5⟩:=hb
  refine⟨vs,pre,tail,h1,h2,h3,?_,fun hz=>?_⟩
  ·cases w with
   |true=>obtain⟨e,x⟩:=h4;exact⟨e,by rw[hs];exact x⟩
   |false=>obtain⟨e,x⟩:=h4;exact⟨e,by rw[hs];exact x⟩
  ·obtain⟨h6,⟨c,k,h7⟩,h8⟩:=h5 hz
   exact⟨h6,⟨c,k,by rw[hs];exact h7⟩,h8⟩
 |map es c=>
  obtain⟨ms,h1,h2⟩:=hb
  exact⟨ms,by unfold MapB at h1⊢;rw[hs];exact h1,h2⟩
 |iter m s l t=>
  obtain⟨h1,h2⟩:=hb
  exact⟨by rw[hs];exact h1,h2⟩
 |dfd t=>simp only[RB]at hb⊢;rw[hs];exact hb
 |siter l pos=>simp only[RB]at hb⊢;rw[hs];exact hb
 |loop st p=>
  obtain⟨h1⟩:=hb
  exact⟨by rw[hs];exact h1⟩
 |dead=>trivial
theorem Rep.grown {H:AH} (hR:Rep F h0 ρ H h) (hsz:h.size≤h'.size) (hold:∀k,k<h.size→h'[k]? =h[k]?):Rep F h0 ρ H h' where
 fr:=fun k hk=>⟨Nat.lt_of_lt_of_le (hR.fr k hk).1 hsz,by rw[hold k (hR.fr k hk).1];exact(hR.fr k hk).2⟩
 dom:=hR.dom
 obj:=fun a B hB hd=>by
  obtain⟨r,h1,h2,h3,h4⟩:=hR.obj a B hB hd
  exact⟨r,h1,h2,Nat.lt_of_lt_of_le h3 hsz,h4.same (hold _ h3)⟩
 inj:=hR.inj
 gl:=hR.gl
theorem Rep.ext {H:AH} (hR:Rep (fun k=>k<h.size) h ρ H h'):Ext h h':=fun k hk=>(hR.fr k hk).2
def saysTrue:Option (AEnd×AS)→Bool
 |some (.ret (.b true),_)=>true
 |_=>false
theorem run_okG {gs:List (Nat×List AV)} {h:Heap} (hT:TOK P (fun _=>.bool true) (fun k=>k<h.size) h tb) (hg:∀p∈gs,p.1<gtop∧∃vs,concs (gRho (fun _=>.bool true) (fun _=>rfl) gs) p.2=some vs∧Blk h p.1 vs)
  {n f:Nat} (ho:saysTrue (acall tb (arec P tb n) [] f [] ⟨gH gs,gtop⟩)=true):CallsH P f [] h fun e h'=>e=.returned (.bool true)∧Ext h h':=by
 unfold saysTrue at ho
 split at ho
 ·rename_i S' hs
  refine(run_callsG (h1:=fun _=>rfl) hT hg hs (by simp[concs])).mono ?_
  rintro ee h' ⟨ρ',hl,hR,u,rfl,hu⟩
  simp[conc]at hu;subst hu
  exact⟨rfl,hR.ext⟩
 ·simp at ho
end
end Go.Sx
namespace Go.Sx
open Go
def xSame (args:List AV) (S:AS):Option (AV×AS):=
 match args with
 |[v]=>some (v,S)
 |_=>none
def idxB (c:Nat):List UInt8→Nat→Option Nat
 |[],_=>none
 |b::l,i=>bif Nat.beq b.toNat c then some i else idxB c l (i+1)
def xIdx (args:List AV) (S:AS):Option (AV×AS):=
 match args with
 |[.s l,.i .u8 (.ofNat c)]=>bif Nat.blt c 256 then match idxB c l 0 with
   |some i=>some (.i .i64 (.ofNat i),S)
   |none=>some (.i .i64 (.negSucc 0),S)
  else none
 |_=>none
def xClone (args:List AV) (S:AS):Option (AV×AS):=
 match args with
 |[.e t (.m a)]=>match S.H.get a with
  |some (.map es c)=>match grow S.H S.N (.map es c)with
   |some H'=>some (.e t (.m S.N),⟨H',S.N+1⟩)
   |none=>none
  |_=>none
 |_=>none
theorem idxB_eq (c:Nat) (hc:c<256):∀(l:List UInt8) (i:Nat),(match idxB c l i with|some j=>(j:Int)|none=> -1)=(if Go.Lib.indexByte l c.toUInt8= -1 then -1 else Go.Lib.indexByte l c.toUInt8+i)
 |[],i=>by simp[idxB,Go.Lib.indexByte]
 |b::l,i=>by
  have hb:(b==c.toUInt8)=Nat.beq b.toNat c:=by
   rw[Bool.eq_iff_iff,Nat.beq_eq,beq_iff_eq,←UInt8.toNat_inj]
   simp[Nat.toUInt8,UInt8.toNat_ofNat',Nat.mod_eq_of_lt hc]
  have ih:=idxB_eq c hc l (i+1)
  have hge:=Go.Lib.indexByte_ge l c.toUInt8
  simp only[idxB,Go.Lib.indexByte,hb]
  cases hx:Nat.beq b.toNat c with
  |true=>simp
  |false=>
   simp only[cond_false,Bool.false_eq_true,if_false]
   rw[ih]
   by_cases h1:Go.Lib.indexByte l c.toUInt8= -1
   ·simp[h1]
   ·have h2:¬(Go.Lib.indexByte l c.toUInt8== -1)=true:=by simpa using h1
    rw[if_neg h1,if_neg h2,if_neg (by omega)]
    omega
section
variable {P:Program} {oq:Nat→Value} {F:Nat→Prop} {h0:Heap} {f:Nat} {fn:Func}
theorem xSame_ok (hf:P.funcs[f]? =some fn) (hname:(fn.name== "runtime.NumGoroutine")=false) (hb:fn.body.isNone=true) (hn:Extern.findNext fn=none) (he:Extern.find fn=some Extern.AbiNoEscape.same):EntOK P oq F h0 f (.ext xSame):=by
 intro ρ h args vs S S' v R hop hg hR hcs hK w hw
 unfold xSame at hg
 split at hg
 ·simp at hg;obtain⟨rfl,rfl⟩:=hg
  obtain⟨u,ws,rfl,h1,h2⟩:=concs_cons hcs
  simp[concs]at h2;subst h2
  refine⟨u,w,?_,?_,rfl,rfl,rfl⟩
  ·rw[run_callFunc_extern hf hname hb hn he]
   rfl
  ·rw[hw];exact hK ρ h u (Le.refl ρ) hR h1
 ·simp at hg
theorem xIdx_ok (hf:P.funcs[f]? =some fn) (hname:(fn.name== "runtime.NumGoroutine")=false) (hb:fn.body.isNone=true) (hn:Extern.findNext fn=none) (he:Extern.find fn=some Extern.BytealgIndexByte.indexByte):EntOK P oq F h0 f (.ext xIdx):=by
 intro ρ h args vs S S' v R hop hg hR hcs hK w hw
 unfold xIdx at hg
 split at hg
 ·rename_i l c
  simp only[cond_eq_ite,Nat.blt_eq]at hg
  split at hg
  ·rename_i hlt
   simp[concs,conc]at hcs
   subst hcs
   have key:=idxB_eq c hlt l 0
   have hrun:(callFunc f ⟨[.string ⟨⟨l⟩⟩,.int .u8 c]⟩).run P w=.ok (.value (.int .i64 (Go.Lib.indexByte l c.toUInt8))) w:=by
    rw[run_callFunc_extern hf hname hb hn he]
    show((Extern.BytealgIndexByte.indexByte #[.string ⟨⟨l⟩⟩,.int .u8 c]).run P w).andThen _=_
    rw[Go.Lib.run_indexByteString]
    rfl
   refine⟨_,w,hrun,?_,rfl,rfl,rfl⟩
   rw[hw]
   have hz:(match idxB c l 0 with|some j=>(j:Int)|none=> -1)=Go.Lib.indexByte l c.toUInt8:=by
    rw[key]
    split
    ·rename_i h1;exact h1.symm
    ·simp
   split at hg
   ·rename_i i hi
    simp at hg;obtain⟨rfl,rfl⟩:=hg
    rw[hi]at hz
    exact hK ρ h _ (Le.refl ρ) hR (by simp only[conc];rw[←hz])
   ·rename_i hi
    simp at hg;obtain⟨rfl,rfl⟩:=hg
    rw[hi]at hz
    exact hK ρ h _ (Le.refl ρ) hR (by simp only[conc];rw[←hz])
  ·simp at hg
 ·simp at hg
theorem xClone_ok (hf:P.funcs[f]? =some fn) (hname:(fn.name== "runtime.NumGoroutine")=false) (hb:fn.body.isNone=true) (hn:Extern.findNext fn=none) (he:Extern.find fn=some Extern.MapsClone.clone):EntOK P oq F h0 f (.ext xClone):=by
 intro ρ h args vs S S' v R hop hg hR hcs hK w hw
 unfold xClone at hg
 split at hg
 ·rename_i t a
  split at hg
  ·rename_i es c hga
   split at hg
   ·rename_i H' hgr
    simp at hg;obtain⟨rfl,rfl⟩:=hg
    obtain⟨u,ws,rfl,h1,h2⟩:=concs_cons hcs
    simp[concs]at h2;subst h2
    simp only[conc]at h1
    split at h1
    ·rename_i y hy
     simp at h1;subst h1
     split at hy
     ·rename_i b ba cp hp
      simp at hy;subst hy
      obtain⟨ms,hm,hrm⟩:=hR.mapOf hga hp
      have hm':w.heap[b]? =some (.map ⟨ms⟩ c):=by rw[hw];exact hm
      obtain⟨ρ',k1,k2,k3⟩:=hR.new (cp:=0) hgr (b:=h.size) (h':=h.push (.map ⟨ms⟩ c)) rfl (by simp) (fun k hk=>by rw[Array.getElem?_push,if_neg (by omega)]) (fun ρ' hl _=>⟨ms,Array.getElem?_push_size,hrm.mono hl⟩)
      refine⟨.iface t (.map (some w.heap.size)),w.alloc (.map ⟨ms⟩ c),?_,hK ρ' _ _ k1 ?_ ?_,rfl,rfl,rfl⟩
      ·rw[run_callFunc_extern hf hname hb hn he]
       show((Extern.MapsClone.clone #[.iface t (.map (some b))]).run P w).andThen _=_
       have hdef:Extern.MapsClone.clone #[.iface t (.map (some b))]=(do
        let .map entries clock←getObj b|stuck "maps.clone: a map expected"
        pure (.iface t (.map (some (←newObj (.map entries clock)))))):=rfl
       rw[hdef]
       have hg':(getObj b).run P w=.ok (.map ⟨ms⟩ c) w:=run_getMap (h:=w.heap) hm' w rfl
       simp only[Sem.run_bind,hg',Result.andThen_ok]
       rfl
      ·subst hw;exact k3
      ·simp only[conc,k2,hw]
     ·simp at hy
    ·simp at h1
   ·simp at hg
  ·simp at hg
 ·simp at hg
end
end Go.Sx
namespace Go.Proofs.YtikcimlokhmleaaGreatDoor
open Go Go.Sx Go.WideShapes
def zeros (n:Nat) (z:Int):List Int:=List.replicate n z
def spaceZ:List Int:=zeros 9 0++(zeros 5 1++(zeros 18 0++(1::zeros 223 0)))
def spaceA:List AV:=spaceZ.map fun z=>AV.i .u8 z
def gsS:List (Nat×List AV):=[(6,spaceA)]
def LaidS (h:Heap):Prop:=Blk h 6 (spaceZ.map fun z=>Value.int .u8 z)
theorem LaidS.ext {h h':Heap} (hl:LaidS h) (hc:Chg [] h h'):LaidS h':=Blk.chg hl hc (by simp)
theorem concs_ints (ρ:Rho):∀zs:List Int,concs ρ (zs.map fun z=>AV.i .u8 z)=some (zs.map fun z=>Value.int .u8 z)
 |[]=>by simp[concs]
 |z::zs=>by simp[concs,conc,concs_ints ρ zs]
theorem spaces {h:Heap} (hl:LaidS h) {oq:Nat→Value} {h1:∀j,(oq j).oneCell'=true}:∀p∈gsS,p.1<gtop∧∃vs,concs (gRho oq h1 gsS) p.2=some vs∧Blk h p.1 vs:=by
 intro p hp
 have hp:=List.mem_singleton.1 hp
 subst hp
 exact⟨by decide,_,concs_ints _ _,hl⟩
theorem chg_of_ext {h h':Heap} (he:Ext h h'):Chg [] h h':=by
 refine⟨?_,fun k hk _=>he k hk⟩
 rcases Nat.lt_or_ge h'.size h.size with hlt|hge
 ·have:=he h'.size hlt
  rw[Array.getElem?_eq_none (Nat.le_refl _),Array.getElem?_eq_getElem hlt]at this
  cases this
 ·exact hge
def told (l:List Value) (j:Nat):Value:=(l[j]?).getD (.bool true)
theorem told_one {l:List Value} (hl:∀u∈l,u.oneCell'=true) (j:Nat):(told l j).oneCell'=true:=by
 unfold told
 cases hj:l[j]? with
 |none=>rfl
 |some u=>exact hl u (List.mem_of_getElem? hj)
end Go.Proofs.YtikcimlokhmleaaGreatDoor
