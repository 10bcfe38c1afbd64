/-
  Regions in whichever order, as trees: soundly.
  The predicate transformer is sound for all of a function's code.
  A function's contract out of its simplified code.
  Small words for the walks: contracts that return, the heap's changes, numbers in range.
  Slices that read as lists; slices of the call's own, appended to.
  A walk that knows less serves where more is known: the slots may be cut down on the way.
  Runs of simplified code, by a program of its own: values and a heap by names, whose places in memory are left open. Definitions.
  Runs of simplified code: the run itself. Definitions.
  Runs of simplified code: tries, equality, lists; what a heap of names says of the heap.
  Which functions a function leads to: computed with a trie for those that were met.
  Cuts of slices within a walk; more small words.
  From a function's contract to its row: arguments opened, the post shut.
  Runs of simplified code: what is read and written, soundly.
  Runs of simplified code: each operation that calls nothing, soundly (1).
  Runs of simplified code: each operation that calls nothing, soundly (2): memory.
-/
import Derived.RangeFuncRecord
import Derived.RecoverIn
import GoSem.Claim
import Derived.OpenShut
import Derived.Carry
import Derived.SizedLaws
import Derived.WideKeyArgs
import Derived.Lib.LaidTab
import Derived.Test.YtikcimlokhmleaaGreatDoorRXA
set_option linter.unusedSimpArgs false
set_option linter.unusedVariables false
namespace Go.Sx
open Go
variable {P:Program} {σ:Env} {ops:Array Oper} {nt:Nat} {ds:List Deferred} {Qp:List PanicEntry→Heap→Prop}
def anyT (P:Program) (Qp:List PanicEntry→Heap→Prop) (K:Env→Heap→Prop) (ss:List SOper) (ops:Array Oper):Nat→Array Bool→Env→Heap→Prop
 |0,listed,σ,h=>Region.ready .any ops listed=[]∧K σ h
 |f+1,listed,σ,h=>(Region.ready .any ops listed=[]→K σ h)∧∀i∈Region.ready .any ops listed,∃s,ss[i]? =some s∧sopr P σ h s (anyT P Qp K ss ops f (listed.setIfInBounds i true)) Qp
theorem anyT_sound {K:Env→Heap→Prop} {τ:Env} {ro:Option Nat} {n:Nat} {Q:Exit→Act→World→Prop} {w0:World} {ss:List SOper} (hgood:∀(i:Nat) (s:SOper),ss[i]? =some s→Good P ops nt i s) (hd:∀(i:Nat) (s:SOper),ss[i]? =some s→∀d,s.dst=some d→τ d=none)
  (hN:∀σ' a' w',Rel σ' nt ds a'→SameB w0 w'→K σ' w'.heap→Q .normal a' w') (hQ:∀ch a' w',Rel τ nt ds a'→SameB w0 w'→Qp ch w'.heap→Q (.panic ch) a' w'):
  ∀(f:Nat) (listed:Array Bool) (σ:Env) (a:Act) (w:World),Rel σ nt ds a→Rel τ nt ds a→SameB w0 w→anyT P Qp K ss ops f listed σ w.heap→wpAnyIn (FW ro) n P .any ops Q f listed a w
 |0,listed,σ,a,w,hr,_,hb,h=>⟨h.1,hN σ a w hr hb h.2⟩
 |f+1,listed,σ,a,w,hr,hτ,hb,h=>by
  refine⟨fun he=>hN σ a w hr hb (h.1 he),fun i hi=>?_⟩
  obtain⟨s,hs,hk⟩:=h.2 i hi
  refine opr_sound (hgood i s hs) hr hτ (hd i s hs) hk (fun σ' a' w' hr' hτ' hb' hk'=>?_) (fun ch w' hb' hk'=>hQ ch a w' hτ (hb.trans hb') hk')
  exact anyT_sound hgood hd hN hQ f _ σ' a' w' hr' hτ' (hb.trans hb') hk'
theorem set_comm (l:Array Bool) (i j:Nat):(l.setIfInBounds i true).setIfInBounds j true=(l.setIfInBounds j true).setIfInBounds i true:=by
 apply Array.ext_getElem?
 intro k
 simp only[Array.getElem?_setIfInBounds,Array.size_setIfInBounds]
 by_cases h1:j=k<;>by_cases h2:i=k<;>simp[h1,h2]
theorem ready_stays {i x:Nat} {listed:Array Bool} (hne:i≠x) (hi:i∈Region.ready .any ops listed) (_hsz:listed.size=ops.size):i∈Region.ready .any ops (listed.setIfInBounds x true):=by
 obtain⟨h1,o,ho,h2⟩:=mem_ready.1 hi
 refine mem_ready.2 ⟨by rw[getD_set_ne true (fun e=>hne e.symm)];exact h1,o,ho,fun e he hb=>getD_set_true (h2 e he hb)⟩
theorem ahead_of_ready {i:Nat} {listed:Array Bool} (hi:i∈Region.ready .any ops listed):∀k∈aheadOf ops i,listed.getD k false=true:=by
 obtain⟨h1,o,ho,h2⟩:=mem_ready.1 hi
 intro k hk
 simp only[aheadOf,ho,List.mem_map,List.mem_filter]at hk
 obtain⟨e,⟨he,hbd⟩,rfl⟩:=hk
 exact h2 e (by simpa using he) hbd
def FuelOK (n f:Nat) (listed:Array Bool):Prop:=∀S:List Nat,S.Nodup→(∀y∈S,y<n∧listed.getD y true=false)→S.length≤f
theorem FuelOK.step {n f x:Nat} {listed:Array Bool} (hf:FuelOK n (f+1) listed) (hx:x<n) (hl:listed.getD x true=false):FuelOK n f (listed.setIfInBounds x true):=by
 intro S hnd hS
 have hxs:x∉S:=by
  intro hm
  have:=(hS x hm).2
  rw[Array.getD_eq_getD_getElem?]at this hl
  by_cases hs':x<listed.size
  ·simp[hs']at this
  ·simp[hs']at hl
 have:=hf (x::S) (List.nodup_cons.2 ⟨hxs,hnd⟩) (fun y hy=>by
  rcases List.mem_cons.1 hy with rfl|hy
  ·exact⟨hx,hl⟩
  ·obtain⟨h1,h2⟩:=hS y hy
   refine⟨h1,?_⟩
   have hne:y≠x:=fun e=>hxs (by rw[←e];exact hy)
   rwa [getD_set_ne true (fun e=>hne e.symm)]at h2)
 simp at this
 exact this
theorem ready_lt {i:Nat} {listed:Array Bool} (hi:i∈Region.ready .any ops listed):i<ops.size:=by
 obtain⟨_,o,ho,_⟩:=mem_ready.1 hi
 exact(Array.getElem?_eq_some_iff.1 ho).1
theorem upd_upd (σ:Env) (d:Option Nat) (v u:Value):upd (upd σ d v) d u=upd σ d u:=by
 funext t
 by_cases h1:d=some t
 ·subst h1;rw[upd_same,upd_same]
 ·rw[upd_ne h1,upd_ne h1,upd_ne h1]
def Apart (s p:SOper):Prop:=∀d,s.dst=some d→d∉p.slots∧p.dst≠some d
theorem chk_unset {p s:SOper} {h:Heap} {v:Value} (hq:cls p.op≤1) (ha:Apart s p) (hc:chkOp P (upd σ s.dst v) h p):chkOp P σ h p:=by
 obtain⟨u,⟨_,hu⟩,redo⟩:=quietr hq hc
 refine redo σ h (fun t ht=>(upd_ne fun e=>(ha t e).1 ht).symm) (.inr (Ext.refl h)) _ ⟨rfl,?_⟩
 funext t
 by_cases hd:p.dst=some t
 ·have h1:=congrFun hu t
  have hne:s.dst≠some t:=fun e=>(ha t e).2 hd
  rw[upd_ne hne]at h1
  rw[←h1,hd,upd_same,upd_same]
 ·rw[upd_ne hd]
theorem chk_set {p s:SOper} {h:Heap} {v:Value} (hq:cls p.op≤1) (ha:Apart s p) (hc:chkOp P σ h p):chkOp P (upd σ s.dst v) h p:=by
 obtain⟨u,⟨_,hu⟩,redo⟩:=quietr hq hc
 refine redo _ h (fun t ht=>upd_ne fun e=>(ha t e).1 ht) (.inr (Ext.refl h)) _ ⟨rfl,?_⟩
 show upd (upd σ s.dst v) p.dst u=upd σ s.dst v
 rw[upd_comm (fun t h1 h2=>(ha t h1).2 h2),hu]
theorem sopr_qp {Qp':List PanicEntry→Heap→Prop} {s:SOper} {h:Heap} {K:Env→Heap→Prop} (hs:sopr P σ h s K Qp) (hq:∀ch h,Qp ch h→Qp' ch h):sopr P σ h s K Qp':=by
 unfold sopr at hs⊢
 split at hs
 ·exact sop_qp s.op hs hq
 ·split at hs
  ·split at hs
   ·exact sop_qp s.op hs hq
   ·exact hs
  ·exact hs.elim
theorem sopr_quiet {Qp':List PanicEntry→Heap→Prop} {s:SOper} {h:Heap} {K:Env→Heap→Prop} (hq:cls s.op≤1) (hs:sopr P σ h s K Qp):sopr P σ h s K Qp':=by
 unfold sopr at hs⊢
 split at hs
 ·obtain⟨v,hv,hall⟩:=quiet s.op hq hs
  exact hall h (.inr (Ext.refl h)) _ _ hv
 ·split at hs
  ·split at hs
   ·obtain⟨v,hv,hall⟩:=quiet s.op hq hs
    exact hall h (.inr (Ext.refl h)) _ _ hv
   ·exact hs
  ·exact hs.elim
theorem chk_use {s:SOper} {h:Heap} {v:Value} {K:Env→Heap→Prop} (hq:cls s.op≤1) (hd:∀d,s.dst=some d→d∉s.slots) (hc:chkOp P (upd σ s.dst v) h s) (hk:K (upd σ s.dst v) h):sopr P σ h s K Qp:=by
 obtain⟨u,⟨_,hu⟩,redo⟩:=quietr hq hc
 have hr:sopr P σ h s K (fun _ _=>False):=redo σ h (fun t ht=>(upd_ne fun e=>hd t e ht).symm) (.inr (Ext.refl h)) K (by
  rw[upd_upd]at hu
  rw[hu];exact hk)
 obtain⟨u',hk',redo'⟩:=quietr hq hr
 exact sopr_qp hr fun _ _ hf=>hf.elim
def anyW (P:Program) (Qp:List PanicEntry→Heap→Prop) (K:Env→Heap→Prop) (ss:List SOper) (cl:List (List Nat)) (ops:Array Oper):Nat→List (Nat×SOper)→Array Bool→Env→Heap→Prop
 |0,W,listed,σ,h=>(∀p∈W,chkOp P σ h p.2)∧Region.ready .any ops listed=[]∧K σ h
 |f+1,W,listed,σ,h=>(∀p∈W,chkOp P σ h p.2)∧(Region.ready .any ops listed=[]→K σ h)∧
  ∀i∈Region.ready .any ops listed,∃s,ss[i]? =some s∧sopr P σ h s (anyW P Qp K ss cl ops f (keepW cl i s W) (listed.setIfInBounds i true)) Qp
theorem anyW_chk {K:Env→Heap→Prop} {ss:List SOper} {cl:List (List Nat)} {f:Nat} {W:List (Nat×SOper)} {listed:Array Bool} {h:Heap} (ha:anyW P Qp K ss cl ops f W listed σ h):∀p∈W,chkOp P σ h p.2:=by
 cases f<;>exact ha.1
theorem keepW_sub {cl:List (List Nat)} {y:Nat} {s:SOper} {W:List (Nat×SOper)}:∀p∈keepW cl y s W,p∈W:=by
 intro p hp
 unfold keepW at hp
 split at hp
 ·exact hp
 ·exact(List.mem_filter.1 hp).1
theorem keepW_mono {cl:List (List Nat)} {y:Nat} {s:SOper} {W W':List (Nat×SOper)} (hs:∀p∈W',p∈W):∀p∈keepW cl y s W',p∈keepW cl y s W:=by
 intro p hp
 unfold keepW at hp⊢
 split at hp
 ·rename_i h;rw[if_pos h];exact hs p hp
 ·rename_i h;rw[if_neg h]
  exact List.mem_filter.2 ⟨hs p (List.mem_filter.1 hp).1,(List.mem_filter.1 hp).2⟩
theorem anyW_less {K:Env→Heap→Prop} {ss:List SOper} {cl:List (List Nat)}:∀(f:Nat) (W W':List (Nat×SOper)) (listed:Array Bool) (σ:Env) (h:Heap),(∀p∈W',p∈W)→anyW P Qp K ss cl ops f W listed σ h→anyW P Qp K ss cl ops f W' listed σ h
 |0,W,W',listed,σ,h,hs,ha=>⟨fun p hp=>ha.1 p (hs p hp),ha.2⟩
 |f+1,W,W',listed,σ,h,hs,ha=>⟨fun p hp=>ha.1 p (hs p hp),ha.2.1,fun i hi=>by
  obtain⟨s,h1,h2⟩:=ha.2.2 i hi
  exact⟨s,h1,sopr_mono h2 fun σ1 h1 hh=>anyW_less f _ _ _ σ1 h1 (keepW_mono hs) hh⟩⟩
theorem anyW_anyT {K:Env→Heap→Prop} {ss:List SOper} {cl:List (List Nat)}:∀(f:Nat) (W:List (Nat×SOper)) (listed:Array Bool) (σ:Env) (h:Heap),anyW P Qp K ss cl ops f W listed σ h→anyT P Qp K ss ops f listed σ h
 |0,W,listed,σ,h,ha=>ha.2
 |f+1,W,listed,σ,h,ha=>⟨ha.2.1,fun i hi=>by
  obtain⟨s,h1,h2⟩:=ha.2.2 i hi
  exact⟨s,h1,sopr_mono h2 fun σ1 h1 hh=>anyW_anyT f _ _ σ1 h1 hh⟩⟩
abbrev clOf (ops:Array Oper):List (List Nat):=(List.range ops.size).map fun i=>closure (aheads ops) (ops.size*ops.size+ops.size) ((aheads ops).getD i []) []
theorem not_waits {x i:Nat} {listed:Array Bool} (hcl:Closed ops (fun k=>listed.getD k false=true)) (hx:x∈Region.ready .any ops listed) (hi:i∈Region.ready .any ops listed) (hsz:listed.size=ops.size):¬Waits ops x i:=by
 intro hw
 have h1:=hw _ hcl (ahead_of_ready hi)
 have h2:=(mem_ready.1 hx).1
 have hlt:=ready_lt hx
 rw[Array.getD_eq_getD_getElem?]at h1 h2
 have hs':x<listed.size:=by omega
 simp[hs']at h1 h2
 rw[h1]at h2;simp at h2
theorem two_left {x i f:Nat} {listed:Array Bool} (hfu:FuelOK ops.size (f+1) listed) (hix:i≠x) (hx:x∈Region.ready .any ops listed) (hi:i∈Region.ready .any ops listed):f≠0:=by
 rintro rfl
 have:=hfu [x,i] (by simp[Ne.symm hix]) (fun y hy=>by
  simp only[List.mem_cons,List.not_mem_nil,or_false]at hy
  rcases hy with rfl|rfl
  ·exact⟨ready_lt hx,(mem_ready.1 hx).1⟩
  ·exact⟨ready_lt hi,(mem_ready.1 hi).1⟩)
 simp at this
theorem still_unlisted {y i:Nat} {listed:Array Bool} (hi:listed.getD i true=false) (hy:(listed.setIfInBounds i true).getD y true=false):listed.getD y true=false:=by
 by_cases hyi:y=i
 ·subst hyi;exact hi
 ·rwa [getD_set_ne true (fun e=>hyi e.symm)]at hy
theorem selfChk {s:SOper} {h:Heap} {v:Value} (hq:cls s.op≤1) (hself:∀d,s.dst=some d→d∉s.slots)
  (redo:∀(σ':Env) (h':Heap),(∀(t:Nat),t∈s.slots→σ' t=σ t)→cls s.op=0∨Ext h h'→∀(K':Env→Heap→Prop),K' (upd σ' s.dst v) h'→sopr P σ' h' s K' Qp):chkOp P (upd σ s.dst v) h s:=by
 have h1:=redo (upd σ s.dst v) h (fun q hq'=>upd_ne fun e=>hself q e hq') (.inr (Ext.refl h)) (fun σ' h'=>h'=h∧σ'=upd σ s.dst v) ⟨rfl,upd_upd _ _ _ _⟩
 exact sopr_quiet hq h1
theorem easy_first {K:Env→Heap→Prop} {ss:List SOper} {x:Nat} {s:SOper} (hs:ss[x]? =some s):∀(f:Nat) (W:List (Nat×SOper)) (listed:Array Bool) (σ:Env) (h:Heap),listed.size=ops.size→FuelOK ops.size (f+1) listed→Closed ops (fun k=>listed.getD k false=true)→x∈Region.ready .any ops listed→
  (∀y,listed.getD y true=false→y≠x→Waits ops x y∨∃t,ss[y]? =some t∧loose s t=true)→(∀p∈W,cls p.2.op≤1∧Apart s p.2)→(∀p∈W,chkOp P σ h p.2)→
  sopr P σ h s (anyW P Qp K ss (clOf ops) ops f (keepW (clOf ops) x s W) (listed.setIfInBounds x true)) Qp→anyW P Qp K ss (clOf ops) ops (f+1) W listed σ h:=by
 intro f
 induction f with
 |zero=>
  intro W listed σ h hsz hfu hcl hx hy hW hchk hk
  refine⟨hchk,fun he=>(by rw[he]at hx;simp at hx),fun i hi=>?_⟩
  by_cases hix:i=x
  ·subst hix;exact⟨s,hs,hk⟩
  ·exact absurd rfl (two_left hfu hix hx hi)
 |succ f ih=>
  intro W listed σ h hsz hfu hcl hx hy hW hchk hk
  refine⟨hchk,fun he=>(by rw[he]at hx;simp at hx),fun i hi=>?_⟩
  by_cases hix:i=x
  ·subst hix;exact⟨s,hs,hk⟩
  ·have hi2:=ready_stays hix hi hsz
   have hi1:=(mem_ready.1 hi).1
   rcases hy i hi1 hix with hw|⟨t,ht,hl⟩
   ·exact absurd hw (not_waits hcl hx hi hsz)
   ·refine⟨t,ht,?_⟩
    obtain⟨l1,l2,l3,l4⟩:=loose_spec hl
    have hq:cls s.op≤1:=by omega
    have hkeep:keepW (clOf ops) x s W=W:=by unfold keepW;rw[if_pos (Nat.ble_eq_true_of_le hq)]
    rw[hkeep]at hk
    obtain⟨v,hv,redo⟩:=quietr hq hk
    obtain⟨t',ht',hh⟩:=hv.2.2 i hi2
    rw[ht]at ht';simp at ht';subst ht'
    refine sopr_agree (σ:=upd σ s.dst v) (fun q hq'=>(upd_ne fun e=>l1 q e hq').symm) hh fun u h' he hh'=>?_
    rw[upd_comm l2]at hh'
    have hW':∀p∈keepW (clOf ops) i t W,cls p.2.op≤1∧Apart s p.2:=fun p hp=>hW p (keepW_sub p hp)
    refine ih (keepW (clOf ops) i t W) (listed.setIfInBounds i true) _ h' (by simp[hsz]) (hfu.step (ready_lt hi) hi1) (closed_step hcl (ahead_of_ready hi)) (ready_stays (fun e=>hix e.symm) hx hsz)
     (fun y hy1 hyx=>hy y (still_unlisted hi1 hy1) hyx) hW' (fun p hp=>chk_unset (hW' p hp).1 (hW' p hp).2 (anyW_chk hh' p hp)) ?_
    have hkeep2:keepW (clOf ops) x s (keepW (clOf ops) i t W)=keepW (clOf ops) i t W:=by
     show(if _ then _ else _)=_
     rw[if_pos (Nat.ble_eq_true_of_le hq)]
    rw[hkeep2]
    refine redo _ h' (fun q hq'=>upd_ne fun e=>l3 q e hq') ?_ _ ?_
    ·rcases l4 with h0|⟨_,h2⟩
     ·exact .inl h0
     ·exact .inr (he h2)
    ·rw[set_comm];exact hh'
theorem envL_spec {x y:SOper} (hl:envL x y=true):(∀d,x.dst=some d→d∉y.slots)∧(∀t,x.dst=some t→y.dst≠some t)∧(∀e,y.dst=some e→e∉x.slots):=by
 unfold envL at hl
 simp only[Bool.and_eq_true]at hl
 obtain⟨h1,h2⟩:=hl
 refine⟨fun d hd=>?_,fun t ht hy=>?_,fun e he=>?_⟩
 ·rw[hd]at h1;simp only[Bool.and_eq_true,Bool.not_eq_true']at h1
  intro hm;rw[(hasN_iff d y.slots).2 hm]at h1;simp at h1
 ·rw[ht]at h1;simp only[hy,Bool.and_eq_true,Bool.not_eq_true']at h1
  simp at h1
 ·rw[he]at h2;simp only[Bool.not_eq_true']at h2
  intro hm;rw[(hasN_iff e x.slots).2 hm]at h2;simp at h2
theorem watch_first {K:Env→Heap→Prop} {ss:List SOper} {x:Nat} {s:SOper} (hs:ss[x]? =some s) (hq:cls s.op≤1) (hself:∀d,s.dst=some d→d∉s.slots):∀(f:Nat) (W:List (Nat×SOper)) (listed:Array Bool) (σ:Env) (h:Heap),listed.size=ops.size→FuelOK ops.size (f+1) listed→Closed ops (fun k=>listed.getD k false=true)→x∈Region.ready .any ops listed→
  (∀y,listed.getD y true=false→y≠x→Waits ops x y∨∃t,ss[y]? =some t∧envL s t=true)→(∀p∈W,cls p.2.op≤1∧Apart s p.2)→(∀p∈W,chkOp P σ h p.2)→
  sopr P σ h s (anyW P Qp K ss (clOf ops) ops f ((x,s)::W) (listed.setIfInBounds x true)) Qp→anyW P Qp K ss (clOf ops) ops (f+1) W listed σ h:=by
 intro f
 induction f with
 |zero=>
  intro W listed σ h hsz hfu hcl hx hy hW hchk hk
  refine⟨hchk,fun he=>(by rw[he]at hx;simp at hx),fun i hi=>?_⟩
  by_cases hix:i=x
  ·subst hix
   exact⟨s,hs,sopr_mono hk fun σ1 h1 hh=>anyW_less 0 _ _ _ σ1 h1 (fun p hp=>by simp[keepW_sub p hp]) hh⟩
  ·exact absurd rfl (two_left hfu hix hx hi)
 |succ f ih=>
  intro W listed σ h hsz hfu hcl hx hy hW hchk hk
  refine⟨hchk,fun he=>(by rw[he]at hx;simp at hx),fun i hi=>?_⟩
  by_cases hix:i=x
  ·subst hix
   exact⟨s,hs,sopr_mono hk fun σ1 h1 hh=>anyW_less (f+1) _ _ _ σ1 h1 (fun p hp=>by simp[keepW_sub p hp]) hh⟩
  ·have hi2:=ready_stays hix hi hsz
   have hi1:=(mem_ready.1 hi).1
   rcases hy i hi1 hix with hw|⟨t,ht,hl⟩
   ·exact absurd hw (not_waits hcl hx hi hsz)
   ·refine⟨t,ht,?_⟩
    obtain⟨l1,l2,l3⟩:=envL_spec hl
    obtain⟨v,hv,redo⟩:=quietr hq hk
    obtain⟨t',ht',hh⟩:=hv.2.2 i hi2
    rw[ht]at ht';simp at ht';subst ht'
    have hcons:keepW (clOf ops) i t ((x,s)::W)=(x,s)::keepW (clOf ops) i t W:=by
     unfold keepW
     split
     ·rfl
     ·have hn:hasN x ((clOf ops).getD i [])=false:=by
       cases hb:hasN x ((clOf ops).getD i [])with
       |false=>rfl
       |true=>exact absurd (waits_of (ready_lt hi) hb) (not_waits hcl hx hi hsz)
      rw[List.filter_cons,if_pos (by show(!hasN x ((clOf ops).getD i []))=true;rw[hn];rfl)]
    rw[hcons]at hh
    refine sopr_agree (σ:=upd σ s.dst v) (fun q hq'=>(upd_ne fun e=>l1 q e hq').symm) hh fun u h' _ hh'=>?_
    rw[upd_comm l2]at hh'
    have hW':∀p∈keepW (clOf ops) i t W,cls p.2.op≤1∧Apart s p.2:=fun p hp=>hW p (keepW_sub p hp)
    have hall:=anyW_chk hh'
    refine ih (keepW (clOf ops) i t W) (listed.setIfInBounds i true) _ h' (by simp[hsz]) (hfu.step (ready_lt hi) hi1) (closed_step hcl (ahead_of_ready hi)) (ready_stays (fun e=>hix e.symm) hx hsz)
     (fun y hy1 hyx=>hy y (still_unlisted hi1 hy1) hyx) hW' (fun p hp=>chk_unset (hW' p hp).1 (hW' p hp).2 (hall p (by simp[hp]))) ?_
    exact chk_use hq hself (hall (x,s) (by simp)) (by rw[set_comm];exact hh')
theorem easyT_spec {ss:List SOper} {cl:List (List Nat)} {listed:Array Bool} {x:Nat} {s:SOper}:∀(n:Nat),easyT ss cl listed x s n=true→∀y,y<n→listed.getD y true=false→y≠x→hasN x (cl.getD y [])=true∨∃t,ss[y]? =some t∧loose s t=true
 |0,_,y,hy,_,_=>by omega
 |n+1,h,y,hy,hl,hyx=>by
  simp only[easyT,Bool.and_eq_true,Bool.or_eq_true]at h
  by_cases hyn:y=n
  ·subst hyn
   rcases h.1 with((h1|h1)|h1)|h1
   ·exact absurd (Nat.eq_of_beq_eq_true h1) hyx
   ·rw[hl]at h1;simp at h1
   ·exact .inl h1
   ·split at h1
    ·rename_i t ht;exact .inr ⟨t,ht,h1⟩
    ·simp at h1
  ·exact easyT_spec n h.2 y (by omega) hl hyx
theorem freeT_spec {ss:List SOper} {cl:List (List Nat)} {listed:Array Bool} {x:Nat} {s:SOper}:∀(n:Nat),freeT ss cl listed x s n=true→∀y,y<n→listed.getD y true=false→y≠x→hasN x (cl.getD y [])=true∨∃t,ss[y]? =some t∧envL s t=true
 |0,_,y,hy,_,_=>by omega
 |n+1,h,y,hy,hl,hyx=>by
  simp only[freeT,Bool.and_eq_true,Bool.or_eq_true]at h
  by_cases hyn:y=n
  ·subst hyn
   rcases h.1 with((h1|h1)|h1)|h1
   ·exact absurd (Nat.eq_of_beq_eq_true h1) hyx
   ·rw[hl]at h1;simp at h1
   ·exact .inl h1
   ·split at h1
    ·rename_i t ht;exact .inr ⟨t,ht,h1⟩
    ·simp at h1
  ·exact freeT_spec n h.2 y (by omega) hl hyx
theorem noClash_spec {s:SOper}:∀{W:List (Nat×SOper)},noClash s W=true→∀p∈W,Apart s p.2
 |[],_,p,hp=>by simp at hp
 |q::W,h,p,hp=>by
  simp only[noClash,Bool.and_eq_true]at h
  rcases List.mem_cons.1 hp with rfl|hp
  ·intro d hd
   have h1:=h.1
   rw[hd]at h1
   simp only[Bool.and_eq_true,Bool.not_eq_true']at h1
   refine⟨fun hm=>?_,fun he=>?_⟩
   ·rw[(hasN_iff d p.2.slots).2 hm]at h1;simp at h1
   ·rw[he]at h1;simp at h1
  ·exact noClash_spec h.2 p hp
theorem pickT_spec {ss:List SOper} {cl:List (List Nat)} {W:List (Nat×SOper)} {listed:Array Bool} {n:Nat} {y:Nat} {s:SOper}:∀{r:List Nat},pickT ss cl W listed n r=some (y,s)→y∈r∧ss[y]? =some s∧easyT ss cl listed y s n=true∧noClash s W=true
 |[],h=>by simp[pickT]at h
 |x::r,h=>by
  simp only[pickT]at h
  split at h
  ·rename_i s' hs'
   split at h
   ·rename_i he
    simp at h
    obtain⟨rfl,rfl⟩:=h
    exact⟨by simp,hs',he⟩
   ·obtain⟨h1,h2⟩:=pickT_spec h
    exact⟨by simp[h1],h2⟩
  ·simp at h
theorem pickW_spec {ss:List SOper} {cl:List (List Nat)} {W:List (Nat×SOper)} {listed:Array Bool} {n:Nat} {y:Nat} {s:SOper}:∀{r:List Nat},pickW ss cl W listed n r=some (y,s)→y∈r∧ss[y]? =some s∧(cls s.op≤1∧selfOK s=true)∧freeT ss cl listed y s n=true∧noClash s W=true
 |[],h=>by simp[pickW]at h
 |x::r,h=>by
  simp only[pickW]at h
  split at h
  ·rename_i s' hs'
   split at h
   ·rename_i he
    simp at h
    obtain⟨rfl,rfl⟩:=h
    exact⟨by simp,hs',⟨Nat.le_of_ble_eq_true he.1,he.2.1⟩,he.2.2.1,he.2.2.2⟩
   ·obtain⟨h1,h2⟩:=pickW_spec h
    exact⟨by simp[h1],h2⟩
  ·simp at h
theorem mkChk_spec {K:Env→Heap→Prop} {W:List (Nat×SOper)} {t:OTree} {h:Heap} (hs:stree P Qp K (mkChk W t) σ h):(∀p∈W,chkOp P σ h p.2)∧stree P Qp K t σ h:=by
 unfold mkChk at hs
 split at hs
 ·exact⟨fun p hp=>by simp at hp,hs⟩
 ·exact⟨fun p hp=>(hs.1 p.2 (List.mem_map.2 ⟨p,hp,rfl⟩)).2,hs.2⟩
theorem altT_spec {h:Heap} {K:Env→Heap→Prop} {f:Nat→SOper→Option OTree} {ss:List SOper}:∀{r:List Nat} {t:OTree},altT f ss r=some t→stree P Qp K t σ h→∀i∈r,∃s u,ss[i]? =some s∧f i s=some u∧sopr P σ h s (stree P Qp K u) Qp
 |[],t,ha,_,i,hi=>by simp at hi
 |[x],t,ha,hs,i,hi=>by
  simp only[altT]at ha
  split at ha
  ·rename_i s h1
   simp only[Option.map_eq_some_iff]at ha
   obtain⟨u,h2,rfl⟩:=ha
   simp at hi;subst hi
   exact⟨s,u,h1,h2,hs⟩
  ·simp at ha
 |x::y::r,t,ha,hs,i,hi=>by
  simp only[altT]at ha
  split at ha
  ·rename_i s h1
   split at ha
   ·rename_i u v h2 h3
    simp at ha;subst ha
    rcases List.mem_cons.1 hi with rfl|hi
    ·exact⟨s,u,h1,h2,hs.1⟩
    ·exact altT_spec h3 hs.2 i hi
   ·simp at ha
  ·simp at ha
theorem treeOf_sound {K:Env→Heap→Prop} {ss:List SOper}:∀(f k:Nat) (W:List (Nat×SOper)) (listed:Array Bool) (t:OTree) (σ:Env) (h:Heap),listed.size=ops.size→FuelOK ops.size f listed→Closed ops (fun k=>listed.getD k false=true)→
  (∀p∈W,cls p.2.op≤1)→(∀p∈W,chkOp P σ h p.2)→
  treeOf ss (clOf ops) ops f k W listed=some t→stree P Qp K t σ h→anyW P Qp K ss (clOf ops) ops f W listed σ h
 |0,k,W,listed,t,σ,h,hsz,hfu,hcl,hW,hchk,ht,hs=>by
  simp only[treeOf]at ht
  split at ht
  ·rename_i he
   simp at ht;subst ht
   exact⟨hchk,List.isEmpty_iff.1 he,hs⟩
  ·simp at ht
 |f+1,k,W,listed,t,σ,h,hsz,hfu,hcl,hW,hchk,ht,hs=>by
  have hltz:∀z,listed.getD z true=false→z<ops.size:=by
   intro z hz
   rcases Nat.lt_or_ge z ops.size with hlt|hge
   ·exact hlt
   ·rw[Array.getD_eq_getD_getElem?,Array.getElem?_eq_none (by omega)]at hz;simp at hz
  simp only[treeOf]at ht
  split at ht
  ·rename_i he
   simp at ht;subst ht
   exact⟨hchk,fun _=>hs,fun i hi=>by rw[he]at hi;simp at hi⟩
  ·rename_i x r hready
   split at ht
   ·rename_i y s hp
    simp only[Option.map_eq_some_iff]at ht
    obtain⟨u,hu,rfl⟩:=ht
    obtain⟨h1,h2,h3,h4⟩:=pickT_spec hp
    rw[←hready]at h1
    refine easy_first h2 f W listed σ h hsz hfu hcl h1 ?_ (fun p hp=>⟨hW p hp,noClash_spec h4 p hp⟩) hchk ?_
    ·intro z hz hzy
     rcases easyT_spec _ h3 z (hltz z hz) hz hzy with hw|hl
     ·exact .inl (waits_of (hltz z hz) hw)
     ·exact .inr hl
    ·refine sopr_mono hs fun σ1 h1' hh=>?_
     obtain⟨hc2,hh2⟩:=mkChk_spec hh
     exact treeOf_sound f k _ _ u σ1 h1' (by simp[hsz]) (hfu.step (ready_lt h1) (mem_ready.1 h1).1) (closed_step hcl (ahead_of_ready h1)) (fun p hp=>hW p (keepW_sub p hp)) hc2 hu hh2
   ·split at ht
    ·rename_i y s hp
     simp only[Option.map_eq_some_iff]at ht
     obtain⟨u,hu,rfl⟩:=ht
     obtain⟨h1,h2,⟨hq,hself⟩,h3,h4⟩:=pickW_spec hp
     rw[←hready]at h1
     have hself':∀d,s.dst=some d→d∉s.slots:=by
      intro d hd hm
      unfold selfOK at hself
      have hmm:=(hasN_iff d s.slots).2 hm
      simp only[hd,hmm]at hself
      simp at hself
     refine watch_first h2 hq hself' f W listed σ h hsz hfu hcl h1 ?_ (fun p hp=>⟨hW p hp,noClash_spec h4 p hp⟩) hchk ?_
     ·intro z hz hzy
      rcases freeT_spec _ h3 z (hltz z hz) hz hzy with hw|hl
      ·exact .inl (waits_of (hltz z hz) hw)
      ·exact .inr hl
     ·obtain⟨v,hv,redo⟩:=quietr hq hs
      have self:chkOp P (upd σ s.dst v) h s:=selfChk hq hself' redo
      have hnext:=treeOf_sound f k ((y,s)::W) _ u (upd σ s.dst v) h (by simp[hsz]) (hfu.step (ready_lt h1) (mem_ready.1 h1).1) (closed_step hcl (ahead_of_ready h1))
       (fun p hp=>by
        rcases List.mem_cons.1 hp with rfl|hp
        ·exact hq
        ·exact hW p hp)
       (fun p hp=>by
        rcases List.mem_cons.1 hp with rfl|hp
        ·exact self
        ·exact chk_set (hW p hp) (noClash_spec h4 p hp) (hchk p hp)) hu hv
      exact redo σ h (fun _ _=>rfl) (.inr (Ext.refl h)) _ hnext
    ·split at ht
     ·simp at ht
     ·rename_i k'
      refine⟨hchk,fun he=>by rw[he]at hready;simp at hready,fun i hi=>?_⟩
      have hi':=hi
      rw[hready]at hi
      obtain⟨s,u,h1,h2,h3⟩:=altT_spec ht hs i hi
      simp only[Option.map_eq_some_iff]at h2
      obtain⟨u',hu',rfl⟩:=h2
      refine⟨s,h1,sopr_mono h3 fun σ1 h1' hh=>?_⟩
      obtain⟨hc2,hh2⟩:=mkChk_spec hh
      exact treeOf_sound f k' _ _ u' σ1 h1' (by simp[hsz]) (hfu.step (ready_lt hi') (mem_ready.1 hi').1) (closed_step hcl (ahead_of_ready hi')) (fun p hp=>hW p (keepW_sub p hp)) hc2 hu' hh2
theorem ctree_sound {s:SCode} (hm:P.follows .mixedOrders=true) (hc:ctree P nt ops=some s)
  {ro:Option Nat} {n id:Nat} {Q:Post} {a:Act} {w:World} (hr:Rel σ nt ds a) (h:swp P s Q σ ds w.heap):
  (Code.region id ops true).wpIn (FW ro) n P (Lift nt w Q) a w:=by
 unfold ctree at hc
 split at hc
 ·simp at hc
 ·rename_i ss hss
  simp only[Option.map_eq_some_iff]at hc
  obtain⟨t,ht,rfl⟩:=hc
  obtain⟨hlen,hget⟩:=coperAll_get ops.toList ss hss
  have hlen':ss.length=ops.size:=by simpa using hlen
  have good:∀(i:Nat) (s:SOper),ss[i]? =some s→Good P ops nt i s:=by
   intro i s hi
   have hlt:i<ops.size:=by rw[←hlen'];exact(List.getElem?_eq_some_iff.1 hi).1
   obtain⟨s2,h2,h3⟩:=hget i ops[i] (by simp[hlt])
   rw[hi]at h2;simp at h2;subst h2
   exact⟨ops[i],s,by simp[hlt],h3,.inl rfl⟩
  refine wpIn_region_any hm ?_
  have hsub:Sub (hide ss σ) σ:=hide_sub ss
  refine anyT_sound (ss:=ss) (Q:=Lift nt w Q) (Qp:=fun ch h'=>Q (.panic ch) (hide ss σ) ds h') (K:=fun σ' h'=>Q .normal σ' ds h') (τ:=hide ss σ) (ds:=ds) (nt:=nt) (w0:=w) good
   (fun i s hs d hd=>hide_dst (List.mem_of_getElem? hs) hd) (fun σ' a' w' hr' hb hk=>⟨σ',ds,hr',hb,hk⟩) (fun ch a' w' hτ hb hk=>⟨_,ds,hτ,hb,hk⟩) ops.size (Array.replicate ops.size false) σ a _ hr (hr.sub hsub) ⟨rfl,rfl,rfl⟩ ?_
  refine anyW_anyT ops.size [] _ σ w.heap (treeOf_sound ops.size 6 [] _ t σ w.heap (by simp) ?_ ?_ (fun p hp=>by simp at hp) (fun p hp=>by simp at hp) ht h)
  ·intro S hnd hS
   exact len_le ops.size S hnd fun x hx=>(hS x hx).1
  ·intro j hj
   simp only[Array.getD_eq_getD_getElem?,Array.getElem?_replicate]at hj
   split at hj<;>simp at hj
end Go.Sx
namespace Go.Sx
open Go
variable {P:Program} {σ σ':Env} {nt:Nat} {ds:List Deferred} {fl:Bool}
theorem Lift.trans {w w1:World} {Q:Post} (hb:SameB w w1) {e:Exit} {a:Act} {w2:World} (h:Lift nt w1 Q e a w2):Lift nt w Q e a w2:=by
 obtain⟨σ,ds,h1,h2,h3⟩:=h
 exact⟨σ,ds,h1,hb.trans h2,h3⟩
theorem calmL_len {cl:List (List Nat)} {n:Nat}:∀{ss:List SOper} {i:Nat},(calmL cl n i ss).length=ss.length
 |[],_=>rfl
 |_::r,i=>by simp[calmL,calmL_len (ss:=r)]
theorem calmL_get {cl:List (List Nat)} {n:Nat}:∀{ss:List SOper} {b i:Nat} {s:SOper},(calmL cl n b ss)[i]? =some s→∃s2,ss[i]? =some s2∧(s=s2∨s=calm1 s2)
 |[],_,_,_,h=>by simp[calmL]at h
 |x::r,b,0,s,h=>by
  simp only[calmL,List.getElem?_cons_zero,Option.some.injEq]at h
  refine⟨x,rfl,?_⟩
  cases hc:covers cl n b with
  |true=>rw[hc]at h;exact .inl h.symm
  |false=>rw[hc]at h;exact .inr h.symm
 |x::r,b,i+1,s,h=>by
  simp only[calmL,List.getElem?_cons_succ]at h
  simpa using calmL_get h
theorem region_sound {ops:Array Oper} {l:List SOper} {draw:Bool} (hm:P.follows .mixedOrders=true) (hc:cregion P nt ops draw=some l)
  {ro:Option Nat} {n id:Nat} {Q:Post} {a:Act} {w:World} (hr:Rel σ nt ds a)
  (h:sops P (fun ch h'=>Q (.panic ch) (hide l σ) ds h') (fun σ' h'=>Q .normal σ' ds h') l σ w.heap):
  (Code.region id ops draw).wpIn (FW ro) n P (Lift nt w Q) a w:=by
 unfold cregion at hc
 split at hc
 ·simp at hc
 ·rename_i ss hss
  obtain⟨hlen,hget⟩:=coperAll_get ops.toList ss hss
  have hlen':ss.length=ops.size:=by simpa using hlen
  have good:∀(i:Nat) (s:SOper),ss[i]? =some s→Good P ops nt i s:=by
   intro i s hi
   have hlt:i<ops.size:=by rw[←hlen'];exact(List.getElem?_eq_some_iff.1 hi).1
   obtain⟨s2,h2,h3⟩:=hget i ops[i] (by simp[hlt])
   rw[hi]at h2;simp at h2;subst h2
   exact⟨ops[i],s,by simp[hlt],h3,.inl rfl⟩
  split at hc
  ·simp at hc;subst hc
   refine wpIn_region ?_
   have e:(List.range ops.size).zip ss=(List.range ops.size).zip ss:=rfl
   have e1:((List.range ops.size).zip ss).map (·.1)=List.range ops.size:=map_zip_fst _ _ (by simp[hlen'])
   have e2:((List.range ops.size).zip ss).map (·.2)=ss:=map_zip_snd _ _ (by simp[hlen'])
   have:=list_sound (P:=P) (ops:=ops) (nt:=nt) (ds:=ds) (Qp:=fun ch h'=>Q (.panic ch) (hide ss σ) ds h') (K:=fun σ' h'=>Q .normal σ' ds h') (τ:=hide ss σ) (ro:=ro) (n:=n) (Q:=Lift nt w Q) (w0:=w)
    (fun σ' a' w' hr' hb hk=>⟨σ',ds,hr',hb,hk⟩) (fun ch a' w' hτ hb hk=>⟨_,ds,hτ,hb,hk⟩) ((List.range ops.size).zip ss) σ a w ?_ ?_ hr (hr.sub (hide_sub ss)) (SameB.refl w) (by rw[e2];exact h)
   ·rw[e1]at this;exact this
   ·rintro⟨i,s⟩ hp
    obtain⟨k,hk,hkq⟩:=List.getElem_of_mem hp
    rw[List.getElem_zip]at hkq
    simp at hkq
    have hks:k<ss.length:=by simp at hk;omega
    exact good i s (by rw[←hkq.1,List.getElem?_eq_getElem hks,hkq.2])
   ·rintro⟨i,s⟩ hp d hd
    exact hide_dst (List.of_mem_zip hp).2 hd
  ·split at hc
   ·rename_i l' hl
    simp at hc;subst hc
    exact ordered_sound hm hlen' good hl hr h
   ·rename_i hnone
    refine ordered_sound (ss:=calmed ss (aheads ops) ops.size) hm (by unfold calmed;rw[calmL_len,hlen']) ?_ hc hr h
    intro i s hi
    obtain⟨s2,hs,hs2⟩:=calmL_get hi
    obtain⟨o,s0,h1,h2,h3⟩:=good i s2 (by simpa using hs)
    rcases hs2 with rfl|rfl
    ·exact⟨o,s0,h1,h2,h3⟩
    ·rcases h3 with rfl|rfl
     ·exact⟨o,s2,h1,h2,.inr rfl⟩
     ·refine⟨o,s0,h1,h2,.inr ?_⟩
      cases hop:s0.op<;>simp[calm1,hop]
theorem list_then {Qp:List PanicEntry→Heap→Prop} {ops:Array Oper} {K:Env→Heap→Prop} {τ:Env} {ro:Option Nat} {n:Nat} {Q:Exit→Act→World→Prop} {w0:World} {rest:List Nat}
  (hN:∀σ' a' w',Rel σ' nt ds a'→SameB w0 w'→K σ' w'.heap→wpOpsIn (FW ro) n P ops Q rest a' w') (hQ:∀ch a' w',Rel τ nt ds a'→SameB w0 w'→Qp ch w'.heap→Q (.panic ch) a' w'):
  ∀(l:List (Nat×SOper)) (σ:Env) (a:Act) (w:World),(∀p∈l,Good P ops nt p.1 p.2)→(∀p∈l,∀d,p.2.dst=some d→τ d=none)→Rel σ nt ds a→Rel τ nt ds a→SameB w0 w→
   sops P Qp K (l.map (·.2)) σ w.heap→wpOpsIn (FW ro) n P ops Q (l.map (·.1)++rest) a w
 |[],σ,a,w,_,_,hr,_,hb,hs=>hN σ a w hr hb hs
 |(i,s)::l,σ,a,w,hg,hd,hr,hτ,hb,hs=>by
  simp only[List.map_cons,sops,List.cons_append]at hs⊢
  rw[wpOpsIn_cons]
  refine opr_sound (hg (i,s) (by simp)) hr hτ (hd (i,s) (by simp)) hs (fun σ' a' w' hr' hτ' hb' hk=>?_) (fun ch w' hb' hk=>hQ ch a w' hτ (hb.trans hb') hk)
  exact list_then hN hQ l σ' a' w' (fun p hp=>hg p (by simp[hp])) (fun p hp=>hd p (by simp[hp])) hr' hτ' (hb.trans hb') hk
theorem crecover_rcv {ops:Array Oper} {s:SCode} (h:crecover nt ops=some s):∃d,s=.rcv d:=by
 unfold crecover at h
 split at h
 ·rename_i o ho
  split at h
  ·split at h
   ·split at h
    ·simp at h;exact⟨_,h.symm⟩
    ·simp at h
   ·simp at h
  ·simp at h
 ·simp at h
theorem cdefer_spec {ops:Array Oper} {s:SCode} (h:cdefer P nt ops=some s):∃o c x l,ops.toList.getLast? =some o∧o.op=.defer c∧o.guard=none∧c.callee=.value x∧coperAll P ops nt ops.toList.dropLast=some l∧
  (∀d,o.dst=some d→d<nt)∧s=.dfr l o.dst x c.args.toList:=by
 unfold cdefer at h
 split at h
 ·rename_i o ho
  split at h
  ·rename_i c hop hg
   split at h
   ·rename_i x l hc hl
    split at h
    ·rename_i hd
     simp at h
     refine⟨o,c,x,l,ho,hop,hg,hc,hl,fun d hd'=>?_,h.symm⟩
     rw[hd']at hd
     exact Nat.le_of_ble_eq_true hd
    ·simp at h
   ·simp at h
  ·simp at h
 ·simp at h
theorem defer_sound {ops:Array Oper} {s:SCode} (hc:cdefer P nt ops=some s)
  {n id:Nat} {Q:Post} {a:Act} {w:World} (hr:Rel σ nt ds a) (h:swp P s Q σ ds w.heap):
  (Code.region id ops false).wpIn (FW none) n P (Lift nt w Q) a w:=by
 obtain⟨o,c,x,l,ho,hop,hg,hcal,hl,hdst,rfl⟩:=cdefer_spec hc
 obtain⟨hlen,hget⟩:=coperAll_get _ l hl
 have hne:ops.toList≠[]:=by intro e;rw[e]at ho;simp at ho
 have hpos:0<ops.size:=by
  rcases Nat.eq_zero_or_pos ops.size with h0|h0
  ·exact absurd (by apply List.eq_nil_of_length_eq_zero;simpa using h0) hne
  ·exact h0
 obtain⟨m,hm⟩:∃m,ops.size=m+1:=⟨ops.size-1,by omega⟩
 have hlm:l.length=m:=by rw[hlen];simp[hm]
 have holast:ops[m]? =some o:=by
  rw[List.getLast?_eq_getElem?]at ho
  simpa[hm]using ho
 refine wpIn_region ?_
 rw[hm,List.range_succ]
 have e1:((List.range m).zip l).map (·.1)=List.range m:=map_zip_fst _ _ (by simp[hlm])
 have e2:((List.range m).zip l).map (·.2)=l:=map_zip_snd _ _ (by simp[hlm])
 simp only[swp]at h
 have:=list_then (P:=P) (ops:=ops) (nt:=nt) (ds:=ds) (ro:=none) (n:=n) (Q:=Lift nt w Q) (w0:=w) (rest:=[m]) (τ:=hide l σ)
  (Qp:=fun ch h'=>Q (.panic ch) (hide l σ) ds h') (K:=fun σ' h'=>match ev σ' x,evs σ' c.args.toList with
   |some (.func (.func f) fi cap),some vs=>Q .normal (upd σ' o.dst undef) ({target:=.fn (.func f) cap,args:=⟨fi.toList++vs⟩}::ds) h'
   |_,_=>False) ?_ (fun ch a' w' hτ hb hk=>⟨_,ds,hτ,hb,hk⟩) ((List.range m).zip l) σ a w ?_ ?_ hr (hr.sub (hide_sub l)) (SameB.refl w) (by rw[e2];exact h)
 ·rw[e1]at this;exact this
 ·intro σ' a' w' hr' hb' hk
  split at hk
  ·rename_i f fi cap vs hx hv
   rw[wpOpsIn_cons]
   simp only[wpOpIn,holast]
   have hw:Region.wanted o (yielded ops a'.tmps)=true:=by simp[Region.wanted,hg]
   rw[if_pos hw]
   refine⟨fun _ _=>trivial,?_⟩
   have ha:c.args.map a'.eval=⟨vs⟩:=by apply Array.ext';simp[hr'.knows.list _ _ hv]
   have hf:=hr'.knows x _ hx
   have hap:fi++(⟨vs⟩:Array Value)=⟨fi.toList++vs⟩:=by apply Array.ext';simp
   have hrun:(o.semAt (FW none).round a'.eval).run P w'=.ok (.defer {target:=.fn (.func f) cap,args:=⟨fi.toList++vs⟩}) w':=by
    show(Oper.semAt none a'.eval o).run P w'=_
    rw[Oper.semAt_none]
    simp[execOp,hop,resolve,hcal,ha,hf,Deferred.ofValue,hap]
   rw[hrun]
   show wpOpsIn (FW none) n P ops (Lift nt w Q) [] _ w'
   refine⟨_,_,?_,hb',hk⟩
   have hd':Rel σ' nt ({target:=.fn (.func f) cap,args:=⟨fi.toList++vs⟩}::ds) {a' with defers:={target:=.fn (.func f) cap,args:=⟨fi.toList++vs⟩}::a'.defers}:=
    ⟨hr'.size,by simp[hr'.defers],fun y v hy=>by have:=hr'.knows y v hy;simpa[Act.eval]using this⟩
   exact hd'.put hdst undef
  ·exact hk.elim
 ·rintro⟨i,s⟩ hp
  obtain⟨k,hk,hkq⟩:=List.getElem_of_mem hp
  rw[List.getElem_zip]at hkq
  simp at hkq
  have hks:k<l.length:=by simp at hk;omega
  obtain⟨s2,h2,h3⟩:=hget k (ops.toList.dropLast[k]'(by simp[hm];omega)) (List.getElem?_eq_getElem _)
  have hol:ops[k]? =some (ops.toList.dropLast[k]'(by simp[hm];omega)):=by
   rw[List.getElem_dropLast];simp
  rw[List.getElem?_eq_getElem hks]at h2
  simp[hkq.2]at h2
  subst h2
  obtain⟨rfl,_⟩:=hkq
  exact⟨_,s,hol,h3,.inl rfl⟩
 ·rintro⟨i,s⟩ hp d hd
  exact hide_dst (List.of_mem_zip hp).2 hd
theorem region2_sound {ops:Array Oper} {sp s1 s2:List SOper} (hm:P.follows .mixedOrders=true) (hc:cregion2 P nt ops=some (sp,s1,s2))
  {ro:Option Nat} {n id:Nat} {Q:Post} {a:Act} {w:World} (hr:Rel σ nt ds a)
  (h:swp P (.two sp s1 s2) Q σ ds w.heap):
  (Code.region id ops true).wpIn (FW ro) n P (Lift nt w Q) a w:=by
 unfold cregion2 at hc
 split at hc
 ·simp at hc
 ·rename_i ss hss
  obtain⟨hlen,hget⟩:=coperAll_get ops.toList ss hss
  have hlen':ss.length=ops.size:=by simpa using hlen
  have good:∀(i:Nat) (s:SOper),ss[i]? =some s→Good P ops nt i s:=by
   intro i s hi
   have hlt:i<ops.size:=by rw[←hlen'];exact(List.getElem?_eq_some_iff.1 hi).1
   obtain⟨s2,h2,h3⟩:=hget i ops[i] (by simp[hlt])
   rw[hi]at h2;simp at h2;subst h2
   exact⟨ops[i],s,by simp[hlt],h3,.inl rfl⟩
  refine ordered2_sound (ss:=ss.map calm1) hm (by simp[hlen']) ?_ hc hr h
  intro i s hi
  rw[List.getElem?_map]at hi
  cases hs:ss[i]? with
  |none=>rw[hs]at hi;simp at hi
  |some s2=>
   rw[hs]at hi;simp at hi;subst hi
   obtain⟨o,s0,h1,h2,h3⟩:=good i s2 hs
   rcases h3 with rfl|rfl
   ·exact⟨o,s2,h1,h2,.inr rfl⟩
   ·refine⟨o,s0,h1,h2,.inr ?_⟩
    cases hop:s0.op<;>simp[calm1,hop]
theorem wpIn_loopN {F:Fence} {n:Nat} {Q:Exit→Act→World→Prop} {c:Code} (I:Nat→Act→World→Prop) {m:Nat} {a:Act} {w:World} (h₀:I m a w)
  (round:∀m a w,I m a w→c.wpIn F n P (Exit.then (fun a' w'=>∃m',m'<m∧I m' a' w') Q) a w):(Code.loop c).wpIn F n P Q a w:=by
 intro b k cs hro hb hr
 have key:∀j a w,I j a w→
   ∃e a' w',Q e a' w'∧ArrivesIn (Machine.fenced P F) P (lone (b.atR a (.code c::.inLoop c::k)) cs w) b k cs e a' w':=by
  intro j
  induction j using Nat.strongRecOn with
  |_ j ih=>
   intro a w hI
   obtain⟨e,a₁,w₁,hq,harr⟩:=round j a w hI b (.inLoop c::k) cs hro hb hr
   cases e with
   |normal=>
    obtain⟨m',hlt,hI₁⟩:=hq
    obtain⟨e₂,a₂,w₂,hq₂,harr₂⟩:=ih m' hlt a₁ w₁ hI₁
    exact⟨e₂,a₂,w₂,hq₂,.of_steps (StepsIn.trans harr (.one (fenced_calm hb hr rfl) stepR_inLoop)) harr₂⟩
   |exit id=>exact⟨_,a₁,w₁,hq,.pass (x:=.inLoop c) rfl (fun _ _=>.inl (by simp)) harr⟩
   |goto l=>exact⟨_,a₁,w₁,hq,.pass (x:=.inLoop c) rfl (fun _ _=>.inl (by simp)) harr⟩
   |ret=>exact⟨_,a₁,w₁,hq,.pass (x:=.inLoop c) rfl (fun _ _=>.inl (by simp)) harr⟩
   |panic ch=>exact⟨_,a₁,w₁,hq,.pass (x:=.inLoop c) rfl (fun _ _=>.inl (by simp)) harr⟩
   |outgrown=>exact⟨_,a₁,w₁,hq,.pass (x:=.inLoop c) rfl (fun _ _=>.inl (by simp)) harr⟩
 obtain⟨e,a',w',hq,harr⟩:=key m a w h₀
 exact⟨e,a',w',hq,.of_steps (.one (fenced_calm hb hr rfl) stepR_loop) harr⟩
section
variable {b:Frame} {a:Act} {k:List Item} {cs:List Frame} {w:World}
theorem stepR_scope {c:Code}:step P (lone (b.atR a (.code (.scope c)::k)) cs w)=.next (lone (b.atR a (.code c::.inScope c::k)) cs w):=
 step_lone_go (by simp[stepG,stepG.exec,Frame.atR])
theorem stepR_inScope {c:Code}:step P (lone (b.atR a (.inScope c::k)) cs w)=.next (lone (b.atR a k) cs w):=
 step_lone_go (by simp[stepG,stepG.exec,Frame.atR])
end
def noGo (Q:Exit→Act→World→Prop):Exit→Act→World→Prop
 |.goto _,_,_=>False
 |e,a,w=>Q e a w
theorem wpIn_scopeS {F:Fence} {n:Nat} {Q:Exit→Act→World→Prop} {c:Code} {a:Act} {w:World} (h:c.wpIn F n P (noGo Q) a w):(Code.scope c).wpIn F n P Q a w:=by
 intro b k cs hro hb hr
 obtain⟨e,a₁,w₁,hq,harr⟩:=h b (.inScope c::k) cs hro hb hr
 have h0:(lone (b.atR a (.code (.scope c)::k)) cs w).fenced P F:=fenced_calm hb hr rfl
 cases e with
 |normal=>exact⟨.normal,a₁,w₁,hq,.head h0 stepR_scope (StepsIn.trans harr (.one (fenced_calm hb hr rfl) stepR_inScope))⟩
 |exit id=>
  have hx:exitTo id (.inScope c::k)=exitTo id k:=by simp[exitTo]
  exact⟨.exit id,a₁,w₁,hq,fun k' hk=>.head h0 stepR_scope (harr.1 k' (by rw[hx];exact hk)),
   fun hr' hk=>let⟨k₁,h1,h2⟩:=harr.2 hr' (by rw[hx];exact hk);⟨k₁,h1,.head h0 stepR_scope h2⟩⟩
 |goto l=>exact hq.elim
 |ret=>exact⟨_,a₁,w₁,hq,.of_steps (.one h0 stepR_scope) harr⟩
 |panic ch=>exact⟨_,a₁,w₁,hq,.of_steps (.one h0 stepR_scope) harr⟩
 |outgrown=>exact⟨_,a₁,w₁,hq,.of_steps (.one h0 stepR_scope) harr⟩
def csize:Code→Nat
 |.seq a b|.cond _ a b|.rangeFunc _ _ a b=>csize a+csize b+1
 |.block _ c|.loop c|.scope c=>csize c+1
 |_=>1
theorem csize_pos (c:Code):1≤csize c:=by cases c<;>simp[csize]
theorem csize_find:∀(c:Code) (l:Nat) (rest:Code),findLabel c l=some rest→csize rest≤csize c:=by
 intro c
 induction c with
 |seq x y ihx ihy=>
  intro l rest h
  simp only[findLabel]at h
  split at h
  ·rename_i r hr
   simp at h;subst h
   have:=ihx l r hr
   simp only[csize];omega
  ·have:=ihy l rest h
   simp only[csize];omega
 |label l'=>
  intro l rest h
  simp only[findLabel]at h
  split at h
  ·simp at h;subst h;simp[csize]
  ·simp at h
 |_=>intro l rest h;simp[findLabel]at h
theorem cregionC_cases {ops:Array Oper} {draw:Bool} {sc:SCode} (hc:cregionC fl P nt ops draw=some sc):
  (∃l,sc=.ops l∧cregion P nt ops draw=some l)∨(draw=true∧∃x:List SOper×List SOper×List SOper,sc=.two x.1 x.2.1 x.2.2∧cregion2 P nt ops=some x)∨(draw=true∧ctree P nt ops=some sc)∨
  (draw=false∧cdefer P nt ops=some sc)∨(draw=false∧crecover nt ops=some sc):=by
 have hd:cregionD P nt ops=some sc→cdefer P nt ops=some sc∨crecover nt ops=some sc:=by
  intro h
  unfold cregionD at h
  split at h
  ·rename_i s hs
   exact .inl (by rw[hs];exact h)
  ·exact .inr h
 unfold cregionC at hc
 split at hc
 ·split at hc
  ·rename_i l hl
   simp at hc
   exact .inl ⟨l,hc.symm,hl⟩
  ·split at hc
   ·split at hc
    ·rename_i x hx
     simp at hc
     exact .inr (.inl ⟨rfl,x,hc.symm,hx⟩)
    ·exact .inr (.inr (.inl ⟨rfl,hc⟩))
   ·exact .inr (.inr (.inr ((hd hc).imp (fun h=>⟨rfl,h⟩) fun h=>⟨rfl,h⟩)))
 ·split at hc
  ·rename_i l hl
   simp at hc
   refine .inl ⟨l,hc.symm,?_⟩
   unfold cregionN at hl
   unfold cregion
   split at hl
   ·simp at hl
   ·rename_i ss hss
    split at hl
    ·simp[hl]
    ·simp[hl]
  ·split at hc
   ·exact .inr (.inr (.inl ⟨rfl,hc⟩))
   ·exact .inr (.inr (.inr ((hd hc).imp (fun h=>⟨rfl,h⟩) fun h=>⟨rfl,h⟩)))
theorem region_find {id:Nat} {ops:Array Oper} {draw:Bool} {sc:SCode} (hc:compC fl P nt (.region id ops draw)=some sc) (l:Nat):sfind sc l=none:=by
 simp only[compC]at hc
 rcases cregionC_cases hc with⟨l,rfl,_⟩|⟨_,x,rfl,_⟩|⟨_,h⟩|⟨_,h⟩|⟨_,h⟩
 ·rfl
 ·rfl
 ·unfold ctree at h
  split at h
  ·simp at h
  ·simp only[Option.map_eq_some_iff]at h
   obtain⟨x,_,rfl⟩:=h
   rfl
 ·obtain⟨o,c,x,l,_,_,_,_,_,_,rfl⟩:=cdefer_spec h
  rfl
 ·obtain⟨d,rfl⟩:=crecover_rcv h
  rfl
theorem find_none:∀(c:Code) (sc:SCode) (l:Nat),compC fl P nt c=some sc→sfind sc l=none→findLabel c l=none:=by
 intro c
 induction c with
 |seq x y ihx ihy=>
  intro sc l hc hf
  simp only[compC]at hc
  split at hc
  ·rename_i sx sy hx hy
   simp at hc;subst hc
   simp only[sfind]at hf
   split at hf
   ·simp at hf
   ·rename_i hn
    simp[findLabel,ihx sx l hx hn,ihy sy l hy hf]
  ·simp at hc
 |label l'=>
  intro sc l hc hf
  simp[compC]at hc;subst hc
  simp only[sfind]at hf
  split at hf
  ·simp at hf
  ·rename_i he;simp[findLabel,he]
 |_=>intro sc l hc hf;rfl
theorem sfind_comp:∀(c:Code) (sc:SCode) (l:Nat) (r:SCode),compC fl P nt c=some sc→sfind sc l=some r→∃rest,findLabel c l=some rest∧compC fl P nt rest=some r:=by
 intro c
 induction c with
 |seq x y ihx ihy=>
  intro sc l r hc hf
  simp only[compC]at hc
  split at hc
  ·rename_i sx sy hx hy
   simp at hc;subst hc
   simp only[sfind]at hf
   split at hf
   ·rename_i r' hr'
    simp at hf;subst hf
    obtain⟨rest,h1,h2⟩:=ihx sx l r' hx hr'
    exact⟨.seq rest y,by simp[findLabel,h1],by simp[compC,h2,hy]⟩
   ·rename_i hn
    obtain⟨rest,h1,h2⟩:=ihy sy l r hy hf
    have hxn:findLabel x l=none:=by
     cases hfx:findLabel x l with
     |none=>rfl
     |some rest'=>
      exfalso
      have:=find_none x sx l hx hn
      rw[hfx]at this;simp at this
    exact⟨rest,by simp[findLabel,hxn,h1],h2⟩
  ·simp at hc
 |label l'=>
  intro sc l r hc hf
  simp[compC]at hc;subst hc
  simp only[sfind]at hf
  split at hf
  ·rename_i he
   simp at hf;subst hf
   exact⟨.skip,by simp[findLabel,he],rfl⟩
  ·simp at hf
 |skip=>intro sc l r hc hf;simp[compC]at hc;subst hc;simp[sfind]at hf
 |region id ops draw=>
  intro sc l r hc hf
  rw[region_find hc l]at hf;simp at hf
 |cond o x y ihx ihy=>
  intro sc l r hc hf
  simp only[compC]at hc
  split at hc
  ·simp at hc;subst hc;simp[sfind]at hf
  ·simp at hc
 |block id c ih=>intro sc l r hc hf;simp only[compC,Option.map_eq_some_iff]at hc;obtain⟨_,_,rfl⟩:=hc;simp[sfind]at hf
 |loop c ih=>intro sc l r hc hf;simp only[compC,Option.map_eq_some_iff]at hc;obtain⟨_,_,rfl⟩:=hc;simp[sfind]at hf
 |scope c ih=>
  intro sc l r hc hf
  simp only[compC]at hc
  split at hc
  ·split at hc
   ·simp at hc;subst hc;simp[sfind]at hf
   ·split at hc
    ·simp at hc;subst hc;simp[sfind]at hf
    ·simp at hc
  ·simp at hc
 |exit id=>intro sc l r hc hf;simp[compC]at hc;subst hc;simp[sfind]at hf
 |ret=>intro sc l r hc hf;simp[compC]at hc;subst hc;simp[sfind]at hf
 |goto l=>intro sc l r hc hf;simp[compC]at hc;subst hc;simp[sfind]at hf
 |refuse s=>intro sc l r hc hf;simp[compC]at hc;subst hc;simp[sfind,stuckS]at hf
 |rangeFunc g ps x y ihx ihy=>
  intro sc l r hc hf
  simp only[compC]at hc
  split at hc
  ·split at hc
   ·simp at hc;subst hc;simp[sfind]at hf
   ·simp at hc
  ·simp at hc
theorem wpIn_scopeG {F:Fence} {n:Nat} {Q:Exit→Act→World→Prop} {c rest:Code} {l:Nat} {a:Act} {w:World} (hl:findLabel c l=some rest)
  (h:c.wpIn F n P (fun e a' w'=>match e with|.goto l'=>l'=l∧rest.wpIn F n P (noGo Q) a' w'|e=>Q e a' w') a w):(Code.scope c).wpIn F n P Q a w:=by
 intro b k cs hro hb hr
 obtain⟨e,a₁,w₁,hq,harr⟩:=h b (.inScope c::k) cs hro hb hr
 have h0:(lone (b.atR a (.code (.scope c)::k)) cs w).fenced P F:=fenced_calm hb hr rfl
 cases e with
 |normal=>exact⟨.normal,a₁,w₁,hq,.head h0 stepR_scope (StepsIn.trans harr (.one (fenced_calm hb hr rfl) stepR_inScope))⟩
 |exit id=>
  have hx:exitTo id (.inScope c::k)=exitTo id k:=by simp[exitTo]
  exact⟨.exit id,a₁,w₁,hq,fun k' hk=>.head h0 stepR_scope (harr.1 k' (by rw[hx];exact hk)),
   fun hr' hk=>let⟨k₁,h1,h2⟩:=harr.2 hr' (by rw[hx];exact hk);⟨k₁,h1,.head h0 stepR_scope h2⟩⟩
 |goto l'=>
  obtain⟨rfl,hrest⟩:=hq
  have hg:gotoIn l' (.inScope c::k)=some (.code rest::.inScope c::k):=by simp[gotoIn,hl]
  have hsteps:=harr.1 _ hg
  obtain⟨e2,a2,w2,hq2,harr2⟩:=hrest b (.inScope c::k) cs hro hb hr
  have hpre:=StepsIn.head h0 stepR_scope hsteps
  cases e2 with
  |normal=>exact⟨.normal,a2,w2,hq2,StepsIn.trans hpre (StepsIn.trans harr2 (.one (fenced_calm hb hr rfl) stepR_inScope))⟩
  |exit id=>
   have hx:exitTo id (.inScope c::k)=exitTo id k:=by simp[exitTo]
   exact⟨.exit id,a2,w2,hq2,fun k' hk=>StepsIn.trans hpre (harr2.1 k' (by rw[hx];exact hk)),
    fun hr' hk=>let⟨k₁,h1,h2⟩:=harr2.2 hr' (by rw[hx];exact hk);⟨k₁,h1,StepsIn.trans hpre h2⟩⟩
  |goto l=>exact hq2.elim
  |ret=>exact⟨_,a2,w2,hq2,.of_steps hpre harr2⟩
  |panic ch=>exact⟨_,a2,w2,hq2,.of_steps hpre harr2⟩
  |outgrown=>exact⟨_,a2,w2,hq2,.of_steps hpre harr2⟩
 |ret=>exact⟨_,a₁,w₁,hq,.of_steps (.one h0 stepR_scope) harr⟩
 |panic ch=>exact⟨_,a₁,w₁,hq,.of_steps (.one h0 stepR_scope) harr⟩
 |outgrown=>exact⟨_,a₁,w₁,hq,.of_steps (.one h0 stepR_scope) harr⟩
theorem Rel.put_list:∀(ps:List Nat) (vs:List Value) (σ:Env) (a:Act),Rel σ nt ds a→(∀p∈ps,p<nt)→vs.length=ps.length→
  Rel (updL σ ps vs) nt ds {a with tmps:=(ps.zip vs).foldl (fun t (x:Nat×Value)=>t.setIfInBounds x.1 x.2) a.tmps}
 |[],vs,σ,a,hr,_,_=>by
  have:updL σ [] vs=σ:=by cases vs<;>rfl
  rw[this];exact hr
 |p::ps,[],σ,a,hr,_,hl=>by simp at hl
 |p::ps,v::vs,σ,a,hr,hp,hl=>by
  have h1:Rel (upd σ (some p) v) nt ds (a.put (some p) v):=hr.put (fun t ht=>by simp at ht;subst ht;exact hp _ (by simp)) v
  exact Rel.put_list ps vs _ _ h1 (fun q hq=>hp q (by simp[hq])) (by simpa using hl)
theorem turn_of_put {h:Heap} {l:Nat} {r:Loop} {x:Obj} (hx:h[l]? =some x) (st:LoopState) (p:Option Code):Turn h (h.setIfInBounds l (.loop {r with state:=st,pending:=p})) l r st p:=by
 have hlt:=(Array.getElem?_eq_some_iff.1 hx).1
 refine⟨⟨by simp[hlt]⟩,by simp,fun k hk=>?_⟩
 rw[Array.getElem?_setIfInBounds,if_neg (fun e=>hk e.symm)]
theorem stuck_false {P:Program} {Q:Post} {σ:Env} {ds:List Deferred} {h:Heap} (hs:swp P stuckS Q σ ds h):False:=by
 simp[stuckS,swp,sops,sopr,sop,ev]at hs
theorem comp_soundN (hm:P.follows .mixedOrders=true):∀(N:Nat) (c:Code),csize c≤N→∀(sc:SCode),compC fl P nt c=some sc→∀(ro:Option Nat),(ro=none∨flat sc=true)→∀(n:Nat) (Q:Post) (σ:Env) (ds:List Deferred) (a:Act) (w:World),
  Rel σ nt ds a→swp P sc Q σ ds w.heap→c.wpIn (FW ro) n P (Lift nt w Q) a w:=by
 intro N
 induction N with
 |zero=>intro c hN;exact absurd hN (by have:=csize_pos c;omega)
 |succ N IH=>
 intro c hN
 cases c with
 |skip=>
  intro sc hc ro hf n Q σ ds a w hr h
  simp[compC]at hc;subst hc
  exact wpIn_skip ⟨σ,ds,hr,SameB.refl w,h⟩
 |label l=>
  intro sc hc ro hf n Q σ ds a w hr h
  simp[compC]at hc;subst hc
  exact wpIn_label ⟨σ,ds,hr,SameB.refl w,h⟩
 |region id ops draw=>
  intro sc hc ro hf n Q σ ds a w hr h
  simp only[compC]at hc
  rcases cregionC_cases hc with⟨l,rfl,hl⟩|⟨rfl,⟨sp,s1,s2⟩,rfl,hl⟩|⟨rfl,hl⟩|⟨rfl,hl⟩|⟨rfl,hl⟩
  ·exact region_sound hm hl hr h
  ·exact region2_sound hm hl hr h
  ·exact ctree_sound hm hl hr h
  ·have hro:ro=none:=by
    rcases hf with hf|hf
    ·exact hf
    ·obtain⟨o,c,x,l,_,_,_,_,_,_,rfl⟩:=cdefer_spec hl
     simp[flat]at hf
   subst hro
   exact defer_sound hl hr h
  ·obtain⟨d,rfl⟩:=crecover_rcv hl
   exact h.elim
 |seq x y=>
  have ihx:=IH x (by simp only[csize]at hN;omega)
  have ihy:=IH y (by simp only[csize]at hN;omega)
  intro sc hc ro hf n Q σ ds a w hr h
  simp only[compC]at hc
  split at hc
  ·rename_i sx sy hx hy
   simp at hc;subst hc
   have hf1:ro=none∨flat sx=true:=hf.imp id fun h=>by simp[flat]at h;exact h.1
   have hf2:ro=none∨flat sy=true:=hf.imp id fun h=>by simp[flat]at h;exact h.2
   refine wpIn_seq (wpIn_mono (ihx sx hx ro hf1 n (thenQ (swp P sy Q) Q) σ ds a w hr h) ?_)
   rintro e a1 w1 ⟨σ1,ds1,hr1,hb1,hq⟩
   cases e with
   |normal=>exact wpIn_mono (ihy sy hy ro hf2 n Q σ1 ds1 a1 w1 hr1 hq) fun e a w h=>Lift.trans hb1 h
   |exit id=>exact⟨σ1,ds1,hr1,hb1,hq⟩
   |goto l=>exact⟨σ1,ds1,hr1,hb1,hq⟩
   |ret=>exact⟨σ1,ds1,hr1,hb1,hq⟩
   |panic ch=>exact⟨σ1,ds1,hr1,hb1,hq⟩
   |outgrown=>exact⟨σ1,ds1,hr1,hb1,hq⟩
  ·simp at hc
 |cond o x y=>
  have ihx:=IH x (by simp only[csize]at hN;omega)
  have ihy:=IH y (by simp only[csize]at hN;omega)
  intro sc hc ro hf n Q σ ds a w hr h
  simp only[compC]at hc
  split at hc
  ·rename_i sx sy hx hy
   simp at hc;subst hc
   have hf1:ro=none∨flat sx=true:=hf.imp id fun h=>by simp[flat]at h;exact h.1
   have hf2:ro=none∨flat sy=true:=hf.imp id fun h=>by simp[flat]at h;exact h.2
   simp only[swp]at h
   split at h
   ·rename_i he
    exact wpIn_cond_true (hr.knows _ _ he) (ihx sx hx ro hf1 n Q σ ds a w hr h)
   ·rename_i he
    exact wpIn_cond_false (hr.knows _ _ he) (ihy sy hy ro hf2 n Q σ ds a w hr h)
   ·exact h.elim
  ·simp at hc
 |block id c=>
  have ih:=IH c (by simp only[csize]at hN;omega)
  intro sc hc ro hf n Q σ ds a w hr h
  simp only[compC,Option.map_eq_some_iff]at hc
  obtain⟨s,hs,rfl⟩:=hc
  refine wpIn_block (wpIn_mono (ih s hs ro (hf.imp (fun x=>x) fun h=>by simpa[flat]using h) n (blockQ id Q) σ ds a w hr h) ?_)
  rintro e a1 w1 ⟨σ1,ds1,hr1,hb1,hq⟩
  cases e with
  |exit id'=>
   simp only[blockQ]at hq
   simp only[Exit.inBlock]
   split
   ·rename_i he;rw[if_pos he]at hq;exact⟨σ1,ds1,hr1,hb1,hq⟩
   ·rename_i he;rw[if_neg he]at hq;exact⟨σ1,ds1,hr1,hb1,hq⟩
  |normal=>exact⟨σ1,ds1,hr1,hb1,hq⟩
  |goto l=>exact⟨σ1,ds1,hr1,hb1,hq⟩
  |ret=>exact⟨σ1,ds1,hr1,hb1,hq⟩
  |panic ch=>exact⟨σ1,ds1,hr1,hb1,hq⟩
  |outgrown=>exact⟨σ1,ds1,hr1,hb1,hq⟩
 |loop c=>
  have ih:=IH c (by simp only[csize]at hN;omega)
  intro sc hc ro hf n Q σ ds a w hr h
  simp only[compC,Option.map_eq_some_iff]at hc
  obtain⟨s,hs,rfl⟩:=hc
  simp only[swp]at h
  obtain⟨ι,E,I,μ,i,hsub,hI,hround⟩:=h
  refine wpIn_loopN (fun m a' w'=>∃i,μ i=m∧Rel (mk (E i)) nt ds a'∧SameB w w'∧I i w'.heap) (m:=μ i) ⟨i,rfl,hr.sub (sub_mk hsub),SameB.refl w,hI⟩ ?_
  rintro m a1 w1 ⟨i1,hm1,hr1,hb1,hI1⟩
  refine wpIn_mono (ih s hs ro (hf.imp (fun x=>x) fun h=>by simpa[flat]using h) n _ (mk (E i1)) ds a1 w1 hr1 (hround i1 w1.heap hI1)) ?_
  rintro e a2 w2 ⟨σ2,ds2,hr2,hb2,hq⟩
  cases e with
  |normal=>
   obtain⟨rfl,i2,hsub2,hI2,hlt⟩:=hq
   exact⟨μ i2,by omega,i2,rfl,hr2.sub (sub_mk hsub2),hb1.trans hb2,hI2⟩
  |exit id=>exact⟨σ2,ds2,hr2,hb1.trans hb2,hq⟩
  |goto l=>exact⟨σ2,ds2,hr2,hb1.trans hb2,hq⟩
  |ret=>exact⟨σ2,ds2,hr2,hb1.trans hb2,hq⟩
  |panic ch=>exact⟨σ2,ds2,hr2,hb1.trans hb2,hq⟩
  |outgrown=>exact⟨σ2,ds2,hr2,hb1.trans hb2,hq⟩
 |scope c=>
  have ih:=IH c (by simp only[csize]at hN;omega)
  intro sc hc ro hf n Q σ ds a w hr h
  simp only[compC]at hc
  split at hc
  ·rename_i s hs
   split at hc
   ·simp at hc;subst hc
    refine wpIn_scopeS (wpIn_mono (ih s hs ro (hf.imp (fun x=>x) fun h=>by simpa[flat]using h) n (scopeQ Q) σ ds a w hr h) ?_)
    rintro e a1 w1 ⟨σ1,ds1,hr1,hb1,hq⟩
    cases e with
    |goto l=>exact hq.elim
    |exit id=>exact⟨σ1,ds1,hr1,hb1,hq⟩
    |normal=>exact⟨σ1,ds1,hr1,hb1,hq⟩
    |ret=>exact⟨σ1,ds1,hr1,hb1,hq⟩
    |panic ch=>exact⟨σ1,ds1,hr1,hb1,hq⟩
    |outgrown=>exact⟨σ1,ds1,hr1,hb1,hq⟩
   ·rename_i l hl
    split at hc
    ·rename_i r hfind
     simp at hc;subst hc
     have hro:ro=none:=by rcases hf with hf|hf;exact hf;simp[flat]at hf
     subst hro
     obtain⟨rest,h1,h2⟩:=sfind_comp c s l r hs hfind
     refine wpIn_scopeG h1 (wpIn_mono (ih s hs none (.inl rfl) n (jumpQ l (swp P r (scopeQ Q)) Q) σ ds a w hr h) ?_)
     rintro e a1 w1 ⟨σ1,ds1,hr1,hb1,hq⟩
     cases e with
     |goto l'=>
      obtain⟨rfl,hq⟩:=hq
      refine⟨rfl,?_⟩
      have hsz:=csize_find c l' rest h1
      refine wpIn_mono (IH rest (by simp only[csize]at hN;omega) r h2 none (.inl rfl) n (scopeQ Q) σ1 ds1 a1 w1 hr1 hq) ?_
      rintro e a2 w2 ⟨σ2,ds2,hr2,hb2,hq2⟩
      cases e with
      |goto l=>exact hq2.elim
      |exit id=>exact⟨σ2,ds2,hr2,hb1.trans hb2,hq2⟩
      |normal=>exact⟨σ2,ds2,hr2,hb1.trans hb2,hq2⟩
      |ret=>exact⟨σ2,ds2,hr2,hb1.trans hb2,hq2⟩
      |panic ch=>exact⟨σ2,ds2,hr2,hb1.trans hb2,hq2⟩
      |outgrown=>exact⟨σ2,ds2,hr2,hb1.trans hb2,hq2⟩
     |exit id=>exact⟨σ1,ds1,hr1,hb1,hq⟩
     |normal=>exact⟨σ1,ds1,hr1,hb1,hq⟩
     |ret=>exact⟨σ1,ds1,hr1,hb1,hq⟩
     |panic ch=>exact⟨σ1,ds1,hr1,hb1,hq⟩
     |outgrown=>exact⟨σ1,ds1,hr1,hb1,hq⟩
    ·simp at hc
  ·simp at hc
 |exit id=>
  intro sc hc ro hf n Q σ ds a w hr h
  simp[compC]at hc;subst hc
  exact wpIn_exit ⟨σ,ds,hr,SameB.refl w,h⟩
 |ret=>
  intro sc hc ro hf n Q σ ds a w hr h
  simp[compC]at hc;subst hc
  exact wpIn_ret ⟨σ,ds,hr,SameB.refl w,h⟩
 |goto l=>
  intro sc hc ro hf n Q σ ds a w hr h
  simp[compC]at hc;subst hc
  exact wpIn_goto ⟨σ,ds,hr,SameB.refl w,h⟩
 |refuse s=>
  intro sc hc ro hf n Q σ ds a w hr h
  simp[compC]at hc;subst hc
  exact(stuck_false h).elim
 |rangeFunc g ps ca cb=>
  have iha:=IH ca (by simp only[csize]at hN;omega)
  have ihb:=IH cb (by simp only[csize]at hN;omega)
  intro sc hc ro hf n Q σ ds a w hr h
  simp only[compC]at hc
  split at hc
  ·rename_i sa sb ha hb
   split at hc
   ·rename_i hall
    obtain⟨hps,hfa,hfb⟩:=hall
    simp at hc;subst hc
    have hro:ro=none:=by rcases hf with hf|hf;exact hf;simp[flat]at hf
    subst hro
    have hps':∀p∈ps.toList,p<nt:=fun p hp=>Nat.le_of_ble_eq_true (List.all_eq_true.1 hps p hp)
    simp only[swp]at h
    split at h
    ·rename_i f fi cap hg
     have hgv:=hr.knows _ _ hg
     refine wpIn_rangeFunc fun fn _=>?_
     obtain⟨r,hrdef⟩:∃r:Loop,r={state:=.ready,pending:=none,fn,tmps:=a.tmps,params:=ps,assign:=ca,body:=cb,defers:=w.heap.size}:=⟨_,rfl⟩
     obtain⟨w1,hw1⟩:∃w1,w1=(w.alloc (.deferred (some []))).alloc (.loop r):=⟨_,rfl⟩
     have hh1:w1.heap=(w.heap.push (.deferred (some []))).push (.loop r):=by rw[hw1];rfl
     have hL:LoopB w1.heap (w.heap.size+1) r .ready none:=⟨by
      rw[hh1,hrdef,Array.getElem?_push,if_pos (by simp)]⟩
     have hcalls:=h (w.heap.size+1) w.heap.size r w1.heap rfl rfl (by rw[hh1];simp) (fun k hk=>by
       rw[hh1,Array.getElem?_push,if_neg (by simp;omega),Array.getElem?_push,if_neg (by omega)]) (by
       rw[hh1,Array.getElem?_push,if_neg (by simp),Array.getElem?_push,if_pos rfl]) hL ?_
     ·refine⟨w.heap.size+1,[{target:=.collected w.heap.size,args:= #[]}],w1,{target:=.fn (.func f) cap,args:=fi++ #[.func (.yield (w.heap.size+1)) #[] #[]]},w1,f,
       ⟨fi.toList++[.func (.yield (w.heap.size+1)) #[] #[]]++cap.toList⟩,w1,?_,?_,fun _ _=>trivial,?_,fun hd=>by simp[FW,Fence.wide]at hd,?_⟩
      ·have:=run_enterLoop_outer (P:=P) (w:=w) fn a.tmps ps ca cb
       rw[hw1,hrdef];exact this
      ·have hc:a.eval (.const (.func (.yield (w.heap.size+1)) #[] #[]))=.func (.yield (w.heap.size+1)) #[] #[]:=rfl
       simp[resolve,hgv,Deferred.ofValue,hc]
      ·have e:fi++ #[Value.func (.yield (w.heap.size+1)) #[] #[]]++cap=⟨fi.toList++[.func (.yield (w.heap.size+1)) #[] #[]]++cap.toList⟩:=by apply Array.ext';simp
       simp only[invoke]
       rw[e]
       exact okFn_call hcalls.1 _ _
      ·refine callsIn_FW.2 ((hcalls.2 w1 rfl).mono ?_)
       rintro e w2 ⟨he,hne,h1,h2,h3⟩
       have hb1:SameB w w2:=⟨h1.trans (by rw[hw1];rfl),h2.trans (by rw[hw1];rfl),h3.trans (by rw[hw1];rfl)⟩
       cases e with
       |panicked ch=>exact he.elim
       |outgrown=>exact he.elim
       |returned v=>
        obtain⟨st,p,hlp,hbusy,hend⟩:=he
        have hre:=run_endLoop (P:=P) (w:=w2) hlp.at_ hbusy
        have hr2:Rel σ nt ({target:=.collected w.heap.size,args:= #[]}::ds) {a with defers:=[{target:=.collected w.heap.size,args:= #[]}]++a.defers}:=
         ⟨hr.size,by simp[hr.defers],hr.knows⟩
        have hq:=hend _ (turn_of_put (r:=r) hlp.at_ .exhausted p)
        refine⟨p,_,hre,?_⟩
        cases p with
        |none=>exact⟨σ,_,hr2,hb1,hq⟩
        |some c=>
         cases c with
         |ret=>exact wpIn_ret ⟨σ,_,hr2,hb1,hq⟩
         |exit id=>exact wpIn_exit ⟨σ,_,hr2,hb1,hq⟩
         |_=>exact hq.elim
     ·-- a round
      intro h2 args R hl2 hlen hsw w2 hw2
      subst hw2
      have hlen':(⟨args⟩:Array Value).size=r.params.size:=by rw[hrdef];simpa using hlen
      have hy:=run_yield (P:=P) (w:=w2) (args:=⟨args⟩) hl2.at_ hlen'
      refine⟨_,_,_,_,hy,?_⟩
      have hrel:Rel (updL σ ps.toList args) nt [] {tmps:=(ps.toList.zip args).foldl (fun t (x:Nat×Value)=>t.setIfInBounds x.1 x.2) a.tmps,defers:=[]}:=by
       have:=Rel.put_list (nt:=nt) (ds:=[]) ps.toList args σ {a with defers:=[]} ⟨hr.size,rfl,hr.knows⟩ hps' hlen
       exact this
      have htmps:(r.params.zip (⟨args⟩:Array Value)).foldl (fun tmps (x:Tmp×Value)=>tmps.setIfInBounds x.1 x.2) r.tmps=(ps.toList.zip args).foldl (fun t (x:Nat×Value)=>t.setIfInBounds x.1 x.2) a.tmps:=by
       rw[hrdef,←Array.foldl_toList,Array.toList_zip]
      refine roundIn_of_wpIn (F:=Fence.wide) trivial ?_
      have key:ca.wpIn (FW (some (w.heap.size+1))) 0 P (Exit.then (fun a₁ w₁=>∃w₂,(Instr.beginRound (w.heap.size+1)).run P w₁=.ok () w₂∧
        cb.wpIn (FW (some (w.heap.size+1))) 0 P (roundPost P (w.heap.size+1) fun e w'=>R e w'.heap∧e≠.outgrown∧w'.os=w2.os∧w'.output=w2.output∧w'.tape=w2.tape) a₁ w₂) (fun _ _ _=>False))
        {tmps:=(ps.toList.zip args).foldl (fun t (x:Nat×Value)=>t.setIfInBounds x.1 x.2) a.tmps,defers:=[]} w2:=by
       refine wpIn_mono (iha sa ha (some (w.heap.size+1)) (.inr hfa) 0 _ _ [] _ w2 hrel hsw) ?_
       rintro e a3 w3 ⟨σ3,ds3,hr3,hb3,hq⟩
       cases e with
       |normal=>
        obtain⟨hl3,hbody⟩:=hq
        have hbr:=run_beginRound (P:=P) (w:=w3) hl3.at_ rfl
        have hturn:=turn_of_put (r:=r) hl3.at_ .busy none
        have hsw4:=hbody _ hturn
        refine⟨_,hbr,wpIn_mono (ihb sb hb (some (w.heap.size+1)) (.inr hfb) 0 _ σ3 ds3 a3 _ hr3 hsw4) ?_⟩
        rintro e a5 w5 ⟨σ5,ds5,hr5,hb5,hq⟩
        have hb35:SameB w2 w5:=hb3.trans (SameB.trans ⟨rfl,rfl,rfl⟩ hb5)
        cases e with
        |normal=>
         obtain⟨hl5,hR⟩:=hq
         have hre:=run_endRound (P:=P) (w:=w5) none hl5.at_
         exact⟨_,_,hre,hR _ (turn_of_put (r:=r) hl5.at_ .ready none),by simp,hb35⟩
        |ret=>
         obtain⟨hl5,hR⟩:=hq
         have hre:=run_endRound (P:=P) (w:=w5) (some .ret) hl5.at_
         exact⟨_,_,hre,hR _ (turn_of_put (r:=r) hl5.at_ .done (some .ret)),by simp,hb35⟩
        |exit id=>
         obtain⟨hl5,hR⟩:=hq
         have hre:=run_endRound (P:=P) (w:=w5) (some (.exit id)) hl5.at_
         exact⟨_,_,hre,hR _ (turn_of_put (r:=r) hl5.at_ .done (some (.exit id))),by simp,hb35⟩
        |goto l=>exact hq.elim
        |panic ch=>exact hq.elim
        |outgrown=>exact hq.elim
       |_=>exact hq.elim
      rw[hrdef]at htmps⊢
      simp only at htmps⊢
      rw[htmps]
      exact key
    ·exact h.elim
   ·simp at hc
  ·simp at hc
theorem comp_sound (hm:P.follows .mixedOrders=true) (c:Code) (sc:SCode) (hc:compC fl P nt c=some sc) (ro:Option Nat) (hf:ro=none∨flat sc=true) (n:Nat) (Q:Post) (σ:Env) (ds:List Deferred) (a:Act) (w:World)
  (hr:Rel σ nt ds a) (h:swp P sc Q σ ds w.heap):c.wpIn (FW ro) n P (Lift nt w Q) a w:=
 comp_soundN hm (csize c) c (Nat.le_refl _) sc hc ro hf n Q σ ds a w hr h
end Go.Sx
namespace Go.Sx
open Go
variable {P:Program} {σ:Env} {nt:Nat} {ds:List Deferred} {fl:Bool}
def resQ (σ:Env) (h:Heap):List SRes→(List Value→Prop)→Prop
 |[],K=>K []
 |.t n::r,K=>match σ n with
  |some v=>resQ σ h r fun vs=>K (v::vs)
  |none=>False
 |.c1 a::r,K=>match σ a with
  |some (.pointer (some ⟨b,o,none⟩))=>∃v,cell h b o=some v∧resQ σ h r fun vs=>K (v::vs)
  |_=>False
 |.cn a n::r,K=>match σ a with
  |some (.pointer (some ⟨b,o,none⟩))=>∃vs,vs.length=n∧Cells h b o vs∧resQ σ h r fun us=>K (.agg ⟨vs⟩::us)
  |_=>False
def retV:List Value→Value
 |[v]=>v
 |vs=>.tuple ⟨vs⟩
def leaveQ (rs:List SRes) (R:Ending→Heap→Prop) (σ:Env):List Deferred→FrameMode→Heap→Prop
 |[],.returning,h=>resQ σ h rs fun vs=>R (.returned (retV vs)) h
 |[],.panicking ch,h=>R (.panicked ch) h
 |[],.run,_=>False
 |d::ds,u,h=>match d.target with
  |.collected D=>h[D]? =some (.deferred (some []))∧∀h',PutO h h' D (.deferred none)→leaveQ rs R σ ds u h'
  |_=>False
def retQ (rs:List SRes) (R:Ending→Heap→Prop):Post
 |.normal,σ,ds,h|.ret,σ,ds,h=>leaveQ rs R σ ds .returning h
 |.panic ch,σ,ds,h=>leaveQ rs R σ ds (.panicking ch) h
 |_,_,_,_=>False
def argEnv:Nat→List Value→Env
 |_,[]=>fun _=>none
 |n,v::vs=>upd (argEnv (n+1) vs) (some n) v
def resSem (tmps:Array Value):ResultVar→Sem Value
 |.tmp t=>pure (tmps.getD t undef)
 |.cell a t=>do loadVar t (←asAddr (tmps.getD a undef))
theorem results_eq (fn:Func) (tmps:Array Value):results fn tmps=(do let vs←fn.results.mapM (resSem tmps);pure (if h:vs.size=1 then vs[0]else .tuple vs)):=by
 have e:(fun x=>match x with
  |ResultVar.tmp t=>(pure (tmps.getD t undef):Sem Value)
  |ResultVar.cell a t=>do loadVar t (←asAddr (tmps.getD a undef)))=resSem tmps:=by
  funext x;cases x<;>rfl
 unfold results
 rw[←e]
 rfl
theorem run_asAddr (a:Addr) (w:World):(asAddr (.pointer (some a))).run P w=.ok a w:=rfl
theorem resQ_run {ro:Unit}:∀(rv:List ResultVar) (rs:List SRes) (K:List Value→Prop) (a:Act) (w:World),cres P rv=some rs→Rel σ nt ds a→resQ σ w.heap rs K→
  ∃vs,(rv.mapM (resSem a.tmps)).run P w=.ok vs w∧vs.length=rv.length∧K vs
 |[],rs,K,a,w,hc,hr,h=>by
  simp[cres]at hc;subst hc
  exact⟨[],by simp,rfl,h⟩
 |.tmp n::rv,rs,K,a,w,hc,hr,h=>by
  simp only[cres,Option.map_eq_some_iff]at hc
  obtain⟨r,hr0,rfl⟩:=hc
  simp only[resQ]at h
  split at h
  ·rename_i v hv
   obtain⟨vs,h1,h2,h3⟩:=resQ_run (ro:=ro) rv r _ a w hr0 hr h
   have hk:=hr.knows (.tmp n) v hv
   simp only[Act.eval]at hk
   refine⟨v::vs,?_,by simp[h2],h3⟩
   simp only[List.mapM_cons,resSem,Sem.run_bind,Sem.run_pure,Result.andThen_ok,h1,hk]
  ·exact h.elim
 |.cell x t::rv,rs,K,a,w,hc,hr,h=>by
  simp only[cres]at hc
  split at hc
  ·rename_i n l hg hs hl
   simp at hc;subst hc
   simp only[resQ]at h
   split at h
   ·rename_i b o hx
    obtain⟨us,hn,hcs,h⟩:=h
    obtain⟨vs,h1,h2,h3⟩:=resQ_run (ro:=ro) rv l _ a w hl hr h
    have hk:=hr.knows (.tmp x) _ hx
    simp only[Act.eval]at hk
    have hld:=run_loadAtN (P:=P) hg hs hn w rfl hcs
    have hld':(loadVar t ⟨b,o,none⟩).run P w=.ok (.agg ⟨us⟩) w:=by simpa[Instr.loadAt,Instr.sureAddr]using hld
    refine⟨.agg ⟨us⟩::vs,?_,by simp[h2],h3⟩
    simp only[List.mapM_cons,resSem,Sem.run_bind,Sem.run_pure,Result.andThen_ok,h1,hk,run_asAddr,hld']
   ·exact h.elim
  ·rename_i n l hg hs hl
   simp at hc;subst hc
   simp only[resQ]at h
   split at h
   ·rename_i b o hx
    obtain⟨u,hcs,h⟩:=h
    obtain⟨vs,h1,h2,h3⟩:=resQ_run (ro:=ro) rv l _ a w hl hr h
    have hk:=hr.knows (.tmp x) _ hx
    simp only[Act.eval]at hk
    have hld:=run_loadAt1 (P:=P) hg w rfl hcs
    have hld':(loadVar t ⟨b,o,none⟩).run P w=.ok u w:=by simpa[Instr.loadAt,Instr.sureAddr]using hld
    refine⟨u::vs,?_,by simp[h2],h3⟩
    simp only[List.mapM_cons,resSem,Sem.run_bind,Sem.run_pure,Result.andThen_ok,h1,hk,run_asAddr,hld']
   ·exact h.elim
  ·simp at hc
theorem run_results {fn:Func} {rs:List SRes} {K:List Value→Prop} {a:Act} {w:World} (hc:cres P fn.results.toList=some rs) (hr:Rel σ nt ds a) (h:resQ σ w.heap rs K):
  ∃vs,(results fn a.tmps).run P w=.ok (retV vs) w∧K vs:=by
 obtain⟨vs,h1,h2,h3⟩:=resQ_run (P:=P) (ro:=()) fn.results.toList rs K a w hc hr h
 refine⟨vs,?_,h3⟩
 have e:=Array.mapM_eq_mapM_toList (m:=Sem) (f:=resSem a.tmps) (xs:=fn.results)
 rw[results_eq,Sem.run_bind,e,Sem.run_map,h1]
 simp only[Result.andThen_ok,Sem.run_pure]
 cases vs with
 |nil=>rfl
 |cons v vs=>cases vs<;>rfl
theorem leaves_of {fn:Func} {rs:List SRes} {R:Ending→Heap→Prop} {w0:World} (hc:cres P fn.results.toList=some rs) {n:Nat}:∀(ds ds':List Deferred) (u:FrameMode) (a:Act) (w:World),Rel σ nt ds' a→SameB w0 w→
  leaveQ rs R σ ds u w.heap→LeavesInM Fence.wide n P fn a.tmps (fun e w'=>R e w'.heap∧e≠.outgrown∧w'.os=w0.os∧w'.output=w0.output∧w'.tape=w0.tape) ds u w
 |[],ds',.returning,a,w,hr,hb,h=>by
  obtain⟨vs,h1,h2⟩:=run_results hc hr h
  exact⟨_,h1,h2,by simp,hb⟩
 |[],ds',.panicking ch,a,w,hr,hb,h=>⟨h,by simp,hb⟩
 |[],ds',.run,a,w,hr,hb,h=>h.elim
 |d::ds,ds',u,a,w,hr,hb,h=>by
  simp only[leaveQ]at h
  split at h
  ·rename_i D hd
   obtain⟨h1,h2⟩:=h
   have ht:=run_takeDeferred (P:=P) (w:=w) h1
   have:=leaves_of (n:=n) hc ds ds' u a (w.putObj D (.deferred none)) hr (hb.trans ⟨rfl,rfl,rfl⟩) (h2 _ (putO_of_set h1))
   have hu:u≠.run:=by
    rintro rfl
    clear ht h2 h1
    induction ds generalizing w with
    |nil=>simp[LeavesInM,LeavesIn]at this
    |cons d ds ih=>exact absurd rfl this.1
   exact⟨hu,.inl ⟨D,_,hd,ht,this⟩⟩
  ·exact h.elim
theorem argEnv_spec:∀(args:List Value) (n t:Nat) (v:Value),argEnv n args t=some v→n≤t∧args[t-n]? =some v
 |[],n,t,v,h=>by simp[argEnv]at h
 |x::args,n,t,v,h=>by
  by_cases ht:t=n
  ·subst ht
   simp[argEnv,upd]at h
   simp[h]
  ·have:argEnv (n+1) args t=some v:=by
    rw[←h];exact(upd_ne (by intro e;exact ht (by simpa using e.symm))).symm
   obtain⟨h1,h2⟩:=argEnv_spec args (n+1) t v this
   refine⟨by omega,?_⟩
   have e:t-n=(t-(n+1))+1:=by omega
   rw[e,List.getElem?_cons_succ];exact h2
theorem rel_enter (nt:Nat) (args:List Value) (ha:args.length≤nt):Rel (argEnv 0 args) nt [] {tmps:=(⟨args⟩:Array Value)++Array.replicate (nt-(⟨args⟩:Array Value).size) undef,defers:=[]}:=by
 refine⟨by simp;omega,rfl,fun x v hx=>?_⟩
 cases x with
 |tmp t=>
  obtain⟨_,h2⟩:=argEnv_spec args 0 t v hx
  have hlt:=(List.getElem?_eq_some_iff.1 h2).1
  simp at h2 hlt
  rw[List.getElem?_eq_getElem hlt]at h2
  simp at h2
  simp[Act.eval,Array.getElem?_append,hlt,h2]
 |const c=>simpa[ev,Act.eval]using hx
 |global g=>simpa[ev,Act.eval]using hx
 |func f=>simpa[ev,Act.eval]using hx
theorem calls_of_swp (hm:P.follows .mixedOrders=true) {f:Nat} {fn:Func} {c:Code} {sc:SCode} {rs:List SRes} {args:List Value} {h:Heap} {R:Ending→Heap→Prop}
  (hf:P.funcs[f]? =some fn) (hb:fn.body=some c) (hok:okFn P f=true) (hc:comp P fn.ntmps c=some sc) (hrs:cres P fn.results.toList=some rs) (ha:args.length≤fn.ntmps)
  (hs:swp P sc (retQ rs R) (argEnv 0 args) [] h):CallsH P f args h R:=by
 refine⟨hok,fun w hw=>?_⟩
 subst hw
 refine(callsIn_wide (n:=0)).1 (callsIn_of_wp_marks hf hb trivial ?_)
 have hrel:Rel (argEnv 0 args) fn.ntmps [] {tmps:=(⟨args⟩:Array Value)++Array.replicate (fn.ntmps-(⟨args⟩:Array Value).size) undef,defers:=[]}:=by
  refine⟨by simp;omega,rfl,fun x v hx=>?_⟩
  cases x with
  |tmp t=>
   obtain⟨_,h2⟩:=argEnv_spec args 0 t v hx
   have hlt:=(List.getElem?_eq_some_iff.1 h2).1
   simp at h2 hlt
   rw[List.getElem?_eq_getElem hlt]at h2
   simp at h2
   simp[Act.eval,Array.getElem?_append,hlt,h2]
  |const c=>simpa[ev,Act.eval]using hx
  |global g=>simpa[ev,Act.eval]using hx
  |func f=>simpa[ev,Act.eval]using hx
 refine wpIn_mono (comp_sound hm c sc hc none (.inl rfl) 0 _ _ [] _ w hrel hs) ?_
 rintro e a1 w1 ⟨σ1,ds1,hr1,hb1,hq⟩
 cases e with
 |normal=>
  have:=leaves_of (n:=0) (w0:=w) hrs ds1 ds1 .returning a1 w1 hr1 hb1 hq
  rw[←hr1.defers]at this;exact this
 |ret=>
  have:=leaves_of (n:=0) (w0:=w) hrs ds1 ds1 .returning a1 w1 hr1 hb1 hq
  rw[←hr1.defers]at this;exact this
 |panic ch=>
  have:=leaves_of (n:=0) (w0:=w) hrs ds1 ds1 (.panicking ch) a1 w1 hr1 hb1 hq
  rw[←hr1.defers]at this;exact this
 |exit id=>exact hq.elim
 |goto l=>exact hq.elim
 |outgrown=>exact hq.elim
def Sound (P:Program) (f nt:Nat) (sc:SCode) (rs:List SRes):Prop:=
 ∀{args:List Value} {h:Heap} {R:Ending→Heap→Prop},args.length≤nt→swp P sc (retQ rs R) (argEnv 0 args) [] h→CallsH P f args h R
theorem sound_of (hm:P.follows .mixedOrders=true) {f:Nat} {fn:Func} {c:Code} {sc:SCode} {rs:List SRes}
  (hf:P.funcs[f]? =some fn) (hb:fn.body=some c) (hok:okFn P f=true) (hc:comp P fn.ntmps c=some sc) (hrs:cres P fn.results.toList=some rs):Sound P f fn.ntmps sc rs:=
 fun ha hs=>calls_of_swp hm hf hb hok hc hrs ha hs
def DefH (P:Program) (f:Nat) (args:List Value) (u:FrameMode) (h:Heap) (R:Ending→FrameMode→Heap→Prop):Prop:=
 okFn P f=true∧∀w:World,w.heap=h→CallsDIn Fence.wide 0 P f ⟨args⟩ u w fun e u' w'=>R e u' w'.heap∧e≠.outgrown∧w'.os=w.os∧w'.output=w.output∧w'.tape=w.tape
theorem DefH.mono {f:Nat} {args:List Value} {u:FrameMode} {h:Heap} {R R':Ending→FrameMode→Heap→Prop} (hd:DefH P f args u h R) (hr:∀e u' h',R e u' h'→R' e u' h'):DefH P f args u h R':=
 ⟨hd.1,fun w hw=>(hd.2 w hw).mono fun _ _ _ ⟨a,b⟩=>⟨hr _ _ _ a,b⟩⟩
def leaveQD (P:Program) (rs:List SRes) (R:Ending→Heap→Prop) (σ:Env):List Deferred→FrameMode→Heap→Prop
 |[],.returning,h=>resQ σ h rs fun vs=>R (.returned (retV vs)) h
 |[],.panicking ch,h=>R (.panicked ch) h
 |[],.run,_=>False
 |d::ds,u,h=>u≠.run∧match d.target with
  |.collected D=>h[D]? =some (.deferred (some []))∧∀h',PutO h h' D (.deferred none)→leaveQD P rs R σ ds u h'
  |.fn (.func f) cap=>DefH P f (d.args.toList++cap.toList) u h fun e u' h'=>match e with
   |.returned _=>leaveQD P rs R σ ds (settle u') h'
   |.panicked ch=>leaveQD P rs R σ ds (raised u' ch) h'
   |.outgrown=>False
  |_=>False
def retQD (P:Program) (rs:List SRes) (R:Ending→Heap→Prop):Post
 |.normal,σ,ds,h|.ret,σ,ds,h=>leaveQD P rs R σ ds .returning h
 |.panic ch,σ,ds,h=>leaveQD P rs R σ ds (.panicking ch) h
 |_,_,_,_=>False
theorem leavesD_of {fn:Func} {rs:List SRes} {R:Ending→Heap→Prop} {w0:World} (hc:cres P fn.results.toList=some rs):∀(ds ds':List Deferred) (u:FrameMode) (a:Act) (w:World),Rel σ nt ds' a→SameB w0 w→
  leaveQD P rs R σ ds u w.heap→LeavesInM Fence.wide 0 P fn a.tmps (fun e w'=>R e w'.heap∧e≠.outgrown∧w'.os=w0.os∧w'.output=w0.output∧w'.tape=w0.tape) ds u w
 |[],ds',.returning,a,w,hr,hb,h=>by
  obtain⟨vs,h1,h2⟩:=run_results hc hr h
  exact⟨_,h1,h2,by simp,hb⟩
 |[],ds',.panicking ch,a,w,hr,hb,h=>⟨h,by simp,hb⟩
 |[],ds',.run,a,w,hr,hb,h=>h.elim
 |d::ds,ds',u,a,w,hr,hb,h=>by
  simp only[leaveQD]at h
  obtain⟨hu,h⟩:=h
  split at h
  ·rename_i D hd
   obtain⟨h1,h2⟩:=h
   have ht:=run_takeDeferred (P:=P) (w:=w) h1
   have:=leavesD_of hc ds ds' u a (w.putObj D (.deferred none)) hr (hb.trans ⟨rfl,rfl,rfl⟩) (h2 _ (putO_of_set h1))
   exact⟨hu,.inl ⟨D,_,hd,ht,this⟩⟩
  ·rename_i f cap hd
   refine⟨hu,.inr ⟨fun h=>by simp[Fence.wide]at h,.func f,cap,f,⟨d.args.toList++cap.toList⟩,hd,?_,fun _ _=>trivial,(h.2 w rfl).mono ?_⟩⟩
   ·have hap:d.args++cap=⟨d.args.toList++cap.toList⟩:=by apply Array.ext';simp
    rw[hd]
    show(callFunc f (d.args++cap)).run P w=_
    rw[hap];exact okFn_call h.1 _ w
   ·rintro e u' w' ⟨he,hne,h3⟩
    cases e with
    |returned v=>exact leavesD_of hc ds ds' _ a w' hr (hb.trans h3) he
    |panicked ch=>exact leavesD_of hc ds ds' _ a w' hr (hb.trans h3) he
    |outgrown=>exact absurd rfl hne
  ·exact h.elim
theorem callsD_of_swp (hm:P.follows .mixedOrders=true) {f:Nat} {fn:Func} {c:Code} {sc:SCode} {rs:List SRes} {args:List Value} {h:Heap} {R:Ending→Heap→Prop}
  (hf:P.funcs[f]? =some fn) (hb:fn.body=some c) (hok:okFn P f=true) (hc:compC fl P fn.ntmps c=some sc) (hrs:cres P fn.results.toList=some rs) (ha:args.length≤fn.ntmps)
  (hs:swp P sc (retQD P rs R) (argEnv 0 args) [] h):CallsH P f args h R:=by
 refine⟨hok,fun w hw=>?_⟩
 subst hw
 refine(callsIn_wide (n:=0)).1 (callsIn_of_wp_marks hf hb trivial ?_)
 have hrel:=rel_enter fn.ntmps args ha
 refine wpIn_mono (comp_sound hm c sc hc none (.inl rfl) 0 _ _ [] _ w hrel hs) ?_
 rintro e a1 w1 ⟨σ1,ds1,hr1,hb1,hq⟩
 cases e with
 |normal=>
  have:=leavesD_of (w0:=w) hrs ds1 ds1 .returning a1 w1 hr1 hb1 hq
  rw[←hr1.defers]at this;exact this
 |ret=>
  have:=leavesD_of (w0:=w) hrs ds1 ds1 .returning a1 w1 hr1 hb1 hq
  rw[←hr1.defers]at this;exact this
 |panic ch=>
  have:=leavesD_of (w0:=w) hrs ds1 ds1 (.panicking ch) a1 w1 hr1 hb1 hq
  rw[←hr1.defers]at this;exact this
 |exit id=>exact hq.elim
 |goto l=>exact hq.elim
 |outgrown=>exact hq.elim
def SoundD (P:Program) (f nt:Nat) (sc:SCode) (rs:List SRes):Prop:=
 ∀{args:List Value} {h:Heap} {R:Ending→Heap→Prop},args.length≤nt→swp P sc (retQD P rs R) (argEnv 0 args) [] h→CallsH P f args h R
theorem soundD_of (hm:P.follows .mixedOrders=true) {f:Nat} {fn:Func} {c:Code} {sc:SCode} {rs:List SRes}
  (hf:P.funcs[f]? =some fn) (hb:fn.body=some c) (hok:okFn P f=true) (hc:compC fl P fn.ntmps c=some sc) (hrs:cres P fn.results.toList=some rs):SoundD P f fn.ntmps sc rs:=
 fun ha hs=>callsD_of_swp hm hf hb hok hc hrs ha hs
def recV:FrameMode→Value
 |.panicking ({v,recovered:=false,goexit:=false}::_)=>v
 |_=>.nilIface
def recM:FrameMode→FrameMode
 |.panicking ({v,recovered:=false,goexit:=false}::older)=>.panicking ({v,recovered:=true}::older)
 |u=>u
def swpS (P:Program):SCode→(FrameMode→Post)→FrameMode→Env→List Deferred→Heap→Prop
 |.rcv d,Q,u,σ,ds,h=>Q (recM u) .normal (upd σ d (recV u)) ds h
 |.seq a b,Q,u,σ,ds,h=>swpS P a (fun u' e σ' ds' h'=>match e with
  |.normal=>swpS P b Q u' σ' ds' h'
  |e=>Q u' e σ' ds' h') u σ ds h
 |c,Q,u,σ,ds,h=>swp P c (Q u) σ ds h
def retF (rs:List SRes) (u:FrameMode) (R:Ending→FrameMode→Heap→Prop):Post
 |.normal,σ,ds,h|.ret,σ,ds,h=>ds=[]∧resQ σ h rs fun vs=>R (.returned (retV vs)) u h
 |.panic ch,_,ds,h=>ds=[]∧R (.panicked ch) u h
 |_,_,_,_=>False
theorem wpSIn_mono {F:Fence} {n:Nat} {Q Q':Exit→Act→List Frame→World→Prop} {c:Code} {a:Act} {cs:List Frame} {w:World} (h:c.wpSIn F n P Q a cs w) (hq:∀e a' cs' w',Q e a' cs' w'→Q' e a' cs' w'):
  c.wpSIn F n P Q' a cs w:=
 fun b k hb hr hF hroom=>let⟨e,a',cs',w',l,q,r⟩:=h b k hb hr hF hroom;⟨e,a',cs',w',l,hq _ _ _ _ q,r⟩
theorem crecover_spec {ops:Array Oper} {s:SCode} (h:crecover nt ops=some s):∃o c,ops= #[o]∧o.op=.call c∧o.guard=none∧c.callee=.builtin .recover∧c.args= #[]∧(∀d,o.dst=some d→d<nt)∧s=.rcv o.dst:=by
 unfold crecover at h
 split at h
 ·rename_i o ho
  split at h
  ·rename_i c hop hg
   split at h
   ·rename_i hcal hargs
    split at h
    ·rename_i hd
     simp at h
     refine⟨o,c,by apply Array.ext';simpa using ho,hop,hg,hcal,by apply Array.ext';simpa using hargs,fun d hd'=>?_,h.symm⟩
     rw[hd']at hd
     exact Nat.le_of_ble_eq_true hd
    ·simp at h
   ·simp at h
  ·simp at h
 ·simp at h
theorem recoverD_modes (c₀:Frame) (cs:List Frame):(recoverD (c₀::cs)=some (recV c₀.mode,{c₀ with mode:=recM c₀.mode}::cs))∨(recoverD (c₀::cs)=none∧recV c₀.mode=.nilIface∧({c₀ with mode:=recM c₀.mode}:Frame)=c₀):=by
 simp only[recoverD]
 split
 ·rename_i v older hm
  left
  rw[hm];rfl
 ·rename_i hm
  right
  refine⟨rfl,?_,?_⟩
  ·unfold recV
   split
   ·rename_i v older hm';exact absurd hm' (hm v older)
   ·rfl
  ·have:recM c₀.mode=c₀.mode:=by
    unfold recM
    split
    ·rename_i v older hm';exact absurd hm' (hm v older)
    ·rfl
   rw[this]
theorem swpS_sound (hm:P.follows .mixedOrders=true) (cs:List Frame):∀(c:Code) (sc:SCode),compC fl P nt c=some sc→
  ∀(c₀:Frame) (Q:FrameMode→Post) (σ:Env) (ds:List Deferred) (a:Act) (w:World),Rel σ nt ds a→swpS P sc Q c₀.mode σ ds w.heap→
  c.wpSIn (FW none) 0 P (fun e a' cs' w'=>∃u',cs'={c₀ with mode:=u'}::cs∧Lift nt w (Q u') e a' w') a (c₀::cs) w:=by
 intro c
 have plain:∀(sc:SCode),compC fl P nt c=some sc→∀(c₀:Frame) (Q:FrameMode→Post) (σ:Env) (ds:List Deferred) (a:Act) (w:World),Rel σ nt ds a→swp P sc (Q c₀.mode) σ ds w.heap→
   c.wpSIn (FW none) 0 P (fun e a' cs' w'=>∃u',cs'={c₀ with mode:=u'}::cs∧Lift nt w (Q u') e a' w') a (c₀::cs) w:=fun sc hc c₀ Q σ ds a w hr h=>
  wpSIn_of_wpIn rfl (wpIn_mono (comp_sound hm c sc hc none (.inl rfl) 0 (Q c₀.mode) σ ds a w hr h) fun e a2 w2 hl=>⟨c₀.mode,rfl,hl⟩)
 induction c with
 |region id ops draw=>
  intro sc hc c₀ Q σ ds a w hr h
  have hc0:=hc
  simp only[compC]at hc
  rcases cregionC_cases hc with⟨l,rfl,hl⟩|⟨rfl,x,rfl,hl⟩|⟨rfl,hl⟩|⟨rfl,hl⟩|⟨rfl,hl⟩
  ·exact plain _ hc0 c₀ Q σ ds a w hr h
  ·exact plain _ hc0 c₀ Q σ ds a w hr h
  ·unfold ctree at hl
   split at hl
   ·simp at hl
   ·simp only[Option.map_eq_some_iff]at hl
    obtain⟨x,_,rfl⟩:=hl
    exact plain _ hc0 c₀ Q σ ds a w hr h
  ·obtain⟨o,c,x,l,_,_,_,_,_,_,rfl⟩:=cdefer_spec hl
   exact plain _ hc0 c₀ Q σ ds a w hr h
  ·obtain⟨o,c,rfl,hop,hg,hcal,hargs,hdst,rfl⟩:=crecover_spec hl
   refine wpSIn_region ?_
   have hlist:List.range (#[o]:Array Oper).size=[0]:=rfl
   rw[hlist]
   simp only[wpOpsSIn]
   have ho:(#[o]:Array Oper)[0]? =some o:=rfl
   simp only[ho]
   refine⟨fun _ _=>trivial,?_⟩
   have hw:Region.wanted o (yielded #[o] a.tmps)=true:=by simp[Region.wanted,hg]
   have hrun:(execOp a.eval o).run P w=.ok .recover w:=by
    simp[execOp,hop,resolve,hcal,hargs,invoke,builtin]
   simp only[hw,if_true,hrun]
   simp only[swpS]at h
   rcases recoverD_modes c₀ cs with hrec|⟨hrec,hv,hcc⟩
   ·simp only[hrec]
    exact⟨recM c₀.mode,rfl,_,ds,hr.put hdst _,SameB.refl w,h⟩
   ·simp only[hrec]
    rw[hv]at h
    exact⟨recM c₀.mode,by rw[hcc],_,ds,hr.put hdst _,SameB.refl w,h⟩
 |seq x y ihx ihy=>
  intro sc hc c₀ Q σ ds a w hr h
  simp only[compC]at hc
  split at hc
  ·rename_i sx sy hx hy
   simp at hc;subst hc
   simp only[swpS]at h
   refine wpSIn_seq (wpSIn_mono (ihx (fun sc hc c₀ Q σ ds a w hr h=>wpSIn_of_wpIn rfl (wpIn_mono (comp_sound hm x sc hc none (.inl rfl) 0 (Q c₀.mode) σ ds a w hr h) fun e a2 w2 hl=>⟨c₀.mode,rfl,hl⟩)) sx hx c₀ _ σ ds a w hr h) ?_)
   rintro e a1 cs1 w1 ⟨u',rfl,σ1,ds1,hr1,hb1,hq⟩
   cases e with
   |normal=>
    refine wpSIn_mono (ihy (fun sc hc c₀ Q σ ds a w hr h=>wpSIn_of_wpIn rfl (wpIn_mono (comp_sound hm y sc hc none (.inl rfl) 0 (Q c₀.mode) σ ds a w hr h) fun e a2 w2 hl=>⟨c₀.mode,rfl,hl⟩)) sy hy {c₀ with mode:=u'} Q σ1 ds1 a1 w1 hr1 hq) ?_
    rintro e a2 cs2 w2 ⟨u2,rfl,hl⟩
    exact⟨u2,rfl,Lift.trans hb1 hl⟩
   |exit id=>exact⟨u',rfl,σ1,ds1,hr1,hb1,hq⟩
   |goto l=>exact⟨u',rfl,σ1,ds1,hr1,hb1,hq⟩
   |ret=>exact⟨u',rfl,σ1,ds1,hr1,hb1,hq⟩
   |panic ch=>exact⟨u',rfl,σ1,ds1,hr1,hb1,hq⟩
   |outgrown=>exact⟨u',rfl,σ1,ds1,hr1,hb1,hq⟩
  ·simp at hc
 |skip=>intro sc hc;have hc0:=hc;simp[compC]at hc;subst hc;exact fun c₀ Q σ ds a w hr h=>plain _ hc0 c₀ Q σ ds a w hr h
 |label l=>intro sc hc;have hc0:=hc;simp[compC]at hc;subst hc;exact fun c₀ Q σ ds a w hr h=>plain _ hc0 c₀ Q σ ds a w hr h
 |exit l=>intro sc hc;have hc0:=hc;simp[compC]at hc;subst hc;exact fun c₀ Q σ ds a w hr h=>plain _ hc0 c₀ Q σ ds a w hr h
 |ret=>intro sc hc;have hc0:=hc;simp[compC]at hc;subst hc;exact fun c₀ Q σ ds a w hr h=>plain _ hc0 c₀ Q σ ds a w hr h
 |goto l=>intro sc hc;have hc0:=hc;simp[compC]at hc;subst hc;exact fun c₀ Q σ ds a w hr h=>plain _ hc0 c₀ Q σ ds a w hr h
 |refuse l=>intro sc hc;have hc0:=hc;simp[compC]at hc;subst hc;exact fun c₀ Q σ ds a w hr h=>plain _ hc0 c₀ Q σ ds a w hr h
 |cond o x y ihx ihy=>
  intro sc hc
  have hc0:=hc
  simp only[compC]at hc
  split at hc
  ·simp at hc;subst hc;exact fun c₀ Q σ ds a w hr h=>plain _ hc0 c₀ Q σ ds a w hr h
  ·simp at hc
 |block id c ih=>intro sc hc;have hc0:=hc;simp only[compC,Option.map_eq_some_iff]at hc;obtain⟨_,_,rfl⟩:=hc;exact fun c₀ Q σ ds a w hr h=>plain _ hc0 c₀ Q σ ds a w hr h
 |loop c ih=>intro sc hc;have hc0:=hc;simp only[compC,Option.map_eq_some_iff]at hc;obtain⟨_,_,rfl⟩:=hc;exact fun c₀ Q σ ds a w hr h=>plain _ hc0 c₀ Q σ ds a w hr h
 |scope c ih=>
  intro sc hc
  have hc0:=hc
  simp only[compC]at hc
  split at hc
  ·split at hc
   ·simp at hc;subst hc;exact fun c₀ Q σ ds a w hr h=>plain _ hc0 c₀ Q σ ds a w hr h
   ·split at hc
    ·simp at hc;subst hc;exact fun c₀ Q σ ds a w hr h=>plain _ hc0 c₀ Q σ ds a w hr h
    ·simp at hc
  ·simp at hc
 |rangeFunc g ps x y ihx ihy=>
  intro sc hc
  have hc0:=hc
  simp only[compC]at hc
  split at hc
  ·split at hc
   ·simp at hc;subst hc;exact fun c₀ Q σ ds a w hr h=>plain _ hc0 c₀ Q σ ds a w hr h
   ·simp at hc
  ·simp at hc
theorem retF_post {fn:Func} {rs:List SRes} {u':FrameMode} {R:Ending→FrameMode→Heap→Prop} {c₀:Frame} {cs:List Frame} {w:World} (hrs:cres P fn.results.toList=some rs) {e:Exit} {a:Act} {cs':List Frame} {w':World}
  (hcs:cs'={c₀ with mode:=u'}::cs) (h:Lift nt w (retF rs u' R) e a w'):
  bodyPostS P fn c₀ cs (fun e u' w'=>R e u' w'.heap∧e≠.outgrown∧w'.os=w.os∧w'.output=w.output∧w'.tape=w.tape) e a cs' w':=by
 obtain⟨σ1,ds1,hr1,hb1,hq⟩:=h
 cases e with
 |normal=>
  obtain⟨rfl,hq⟩:=hq
  obtain⟨vs,h1,h2⟩:=run_results hrs hr1 hq
  exact⟨hr1.defers,u',hcs,_,h1,h2,by simp,hb1⟩
 |ret=>
  obtain⟨rfl,hq⟩:=hq
  obtain⟨vs,h1,h2⟩:=run_results hrs hr1 hq
  exact⟨hr1.defers,u',hcs,_,h1,h2,by simp,hb1⟩
 |panic ch=>
  obtain⟨rfl,hq⟩:=hq
  exact⟨hr1.defers,u',hcs,hq,by simp,hb1⟩
 |exit id=>exact hq.elim
 |goto l=>exact hq.elim
 |outgrown=>exact hq.elim
theorem defH_of_swpS (hm:P.follows .mixedOrders=true) {f:Nat} {fn:Func} {c:Code} {sc:SCode} {rs:List SRes} {args:List Value} {u:FrameMode} {h:Heap} {R:Ending→FrameMode→Heap→Prop}
  (hf:P.funcs[f]? =some fn) (hb:fn.body=some c) (hok:okFn P f=true) (hc:compC fl P fn.ntmps c=some sc) (hrs:cres P fn.results.toList=some rs) (ha:args.length≤fn.ntmps)
  (hs:swpS P sc (fun u'=>retF rs u' R) u (argEnv 0 args) [] h):DefH P f args u h R:=by
 refine⟨hok,fun w hw=>?_⟩
 subst hw
 refine callsDIn_of_wpSIn hf hb trivial ?_
 intro c₀ cs hu
 subst hu
 have hrel:=rel_enter fn.ntmps args ha
 refine wpSIn_mono (swpS_sound hm cs c sc hc c₀ _ _ [] _ w hrel hs) ?_
 rintro e a' cs' w' ⟨u',h1,h2⟩
 exact retF_post hrs h1 h2
def SoundF (P:Program) (f nt:Nat) (sc:SCode) (rs:List SRes):Prop:=
 ∀{args:List Value} {u:FrameMode} {h:Heap} {R:Ending→FrameMode→Heap→Prop},args.length≤nt→swpS P sc (fun u'=>retF rs u' R) u (argEnv 0 args) [] h→DefH P f args u h R
theorem soundF_of (hm:P.follows .mixedOrders=true) {f:Nat} {fn:Func} {c:Code} {sc:SCode} {rs:List SRes}
  (hf:P.funcs[f]? =some fn) (hb:fn.body=some c) (hok:okFn P f=true) (hc:compC fl P fn.ntmps c=some sc) (hrs:cres P fn.results.toList=some rs):SoundF P f fn.ntmps sc rs:=
 fun ha hs=>defH_of_swpS hm hf hb hok hc hrs ha hs
namespace S
abbrev o (d:Nat) (s:SOp):SOper:=⟨some d,none,s⟩
abbrev q (s:SOp):SOper:=⟨none,none,s⟩
abbrev g (d j:Nat) (s:SOp):SOper:=⟨some d,some (j,true),s⟩
abbrev n (d j:Nat) (s:SOp):SOper:=⟨some d,some (j,false),s⟩
abbrev t (x:Nat):Operand:=.tmp x
abbrev i (x:Int):Operand:=.const (.int .i64 x)
abbrev b (x:Bool):Operand:=.const (.bool x)
abbrev e:Operand:=.const (.string ⟨#[]⟩)
abbrev u (x:Nat):Operand:=.func x
end S
#print axioms calls_of_swp
end Go.Sx
namespace Go.Sx
open Go
theorem loop_intro {P:Program} {c:SCode} {Q:Post} {σ:Env} {ds:List Deferred} {h:Heap} {ι:Type} (E:ι→List (Nat×Value)) (I:ι→Heap→Prop) (μ:ι→Nat) (i:ι) (h0:SubL σ (E i)) (hI:I i h)
  (hr:∀i h,I i h→swp P c (thenQ (fun σ' ds' h'=>ds'=ds∧∃i',SubL σ' (E i')∧I i' h'∧μ i'<μ i) Q) (mk (E i)) ds h):
  ∃(ι:Type) (E:ι→List (Nat×Value)) (I:ι→Heap→Prop) (μ:ι→Nat) (i:ι),SubL σ (E i)∧I i h∧
   ∀i h,I i h→swp P c (thenQ (fun σ' ds' h'=>ds'=ds∧∃i',SubL σ' (E i')∧I i' h'∧μ i'<μ i) Q) (mk (E i)) ds h:=
 ⟨ι,E,I,μ,i,h0,hI,hr⟩
def Ret (Q:Value→Heap→Prop):Ending→Heap→Prop
 |.returned v,h=>Q v h
 |_,_=>False
theorem call_ret {P:Program} {f:Nat} {vs:List Value} {h:Heap} {Q K:Value→Heap→Prop} {Qp:List PanicEntry→Heap→Prop} (hc:CallsH P f vs h (Ret Q)) (hk:∀v h',Q v h'→K v h'):
  CallsH P f vs h (after K Qp):=
 hc.mono fun e h' he=>by cases e<;>first|exact hk _ _ he|exact he.elim
theorem wrap_in {x:Int} (h0: -9223372036854775808≤x) (h1:x<9223372036854775808):IntKind.i64.wrap x=x:=by
 have e:IntKind.i64.wrap x=if x%18446744073709551616≥9223372036854775808 then x%18446744073709551616-18446744073709551616 else x%18446744073709551616:=by
  simp[IntKind.wrap,IntKind.bits,IntKind.signed]
 rw[e]
 split<;>omega
theorem add_in {a b z:Int} (hz:z=arith .add .i64 a b) (h0: -9223372036854775808≤a+b) (h1:a+b<9223372036854775808):z=a+b:=by
 rw[hz];exact wrap_in h0 h1
theorem sub_in {a b z:Int} (hz:z=arith .sub .i64 a b) (h0: -9223372036854775808≤a-b) (h1:a-b<9223372036854775808):z=a-b:=by
 rw[hz];exact wrap_in h0 h1
theorem Chg.refl (h:Heap):Chg [] h h:=⟨Nat.le_refl _,fun _ _ _=>rfl⟩
theorem Chg.trans {S T U:List Nat} {a b c:Heap} (h1:Chg S a b) (h2:Chg T b c) (hS:∀k,k∈S→k∈U) (hT:∀k,k∈T→k<a.size→k∈U):Chg U a c:=
 ⟨Nat.le_trans h1.size h2.size,fun k hk hn=>by
  rw[h2.old k (Nat.lt_of_lt_of_le hk h1.size) (fun ht=>hn (hT k ht hk)),h1.old k hk (fun hs=>hn (hS k hs))]⟩
theorem Chg.nil {a b c:Heap} (h1:Chg [] a b) (h2:Chg [] b c):Chg [] a c:=h1.trans h2 (by simp) (by simp)
theorem Chg.ext {a b:Heap} (h:Chg [] a b):Ext a b:=fun k hk=>h.old k hk (by simp)
theorem Chg.mono {S T:List Nat} {a b:Heap} (h:Chg S a b) (hs:∀k,k∈S→k∈T):Chg T a b:=⟨h.size,fun k hk hn=>h.old k hk fun e=>hn (hs k e)⟩
theorem Chg.fresh {S:List Nat} {a b c:Heap} (h1:Chg [] a b) (h2:Chg S b c) (hS:∀k,k∈S→a.size≤k):Chg [] a c:=
 h1.trans h2 (by simp) fun k hk hlt=>absurd (hS k hk) (by omega)
theorem Grow.chg {h h':Heap} {b:Nat} {l:List Value} (g:Grow h h' b l):Chg [] h h':=⟨by rw[g.size];omega,fun k hk _=>g.old k hk⟩
theorem Put.chg {h h':Heap} {b:Nat} {l:List Value} (g:Put h h' b l):Chg [b] h h':=⟨by rw[g.size];exact Nat.le_refl _,fun k _ hn=>g.old k (by simpa using hn)⟩
theorem get_lt {h:Heap} {b:Nat} {x:Obj} (hb:h[b]? =some x):b<h.size:=(Array.getElem?_eq_some_iff.1 hb).1
theorem Blk.lt {h:Heap} {b:Nat} {l:List Value} (hb:Blk h b l):b<h.size:=let⟨_,x⟩:=hb;get_lt x
theorem get_chg {S:List Nat} {h h':Heap} {b:Nat} {x:Obj} (hb:h[b]? =some x) (hc:Chg S h h') (hn:b∉S):h'[b]? =some x:=by
 rw[hc.old b (get_lt hb) hn,hb]
theorem Blk.chg {S:List Nat} {h h':Heap} {b:Nat} {l:List Value} (hb:Blk h b l) (hc:Chg S h h') (hn:b∉S):Blk h' b l:=let⟨e,x⟩:=hb;⟨e,get_chg x hc hn⟩
theorem cell_blk {h:Heap} {b o:Nat} {l:List Value} {v:Value} (hb:Blk h b l) (hv:l[o]? =some v):cell h b o=some v:=by
 obtain⟨e,x⟩:=hb
 simp[cell,x,hv]
theorem cells_blk {h:Heap} {b:Nat} {l:List Value} (hb:Blk h b l):Cells h b 0 l:=fun i v hv=>by rw[Nat.zero_add];exact cell_blk hb hv
theorem cell_lt {h:Heap} {b o:Nat} {v:Value} (hc:cell h b o=some v):b<h.size:=by
 unfold cell at hc
 cases hb:h[b]? with
 |none=>rw[hb]at hc;cases hc
 |some x=>exact get_lt hb
theorem cell_chg {S:List Nat} {h h':Heap} {b o:Nat} {v:Value} (hc:cell h b o=some v) (hg:Chg S h h') (hn:b∉S):cell h' b o=some v:=by
 have:=hg.old b (cell_lt hc) hn
 unfold cell at hc⊢
 rw[this];exact hc
variable {α:Type} {enc:α→List Value} {size:Nat}
theorem flatMap_len (hsz:∀x,(enc x).length=size):∀l:List α,(l.flatMap enc).length=l.length*size
 |[]=>by simp
 |x::l=>by simp[flatMap_len hsz l,hsz x,Nat.add_mul,Nat.add_comm]
theorem flatMap_get (hsz:∀x,(enc x).length=size):∀(l:List α) (i:Nat) (x:α),l[i]? =some x→∀(j:Nat) (v:Value),(enc x)[j]? =some v→(l.flatMap enc)[i*size+j]? =some v
 |[],i,x,h,_,_,_=>by simp at h
 |y::l,0,x,h,j,v,hj=>by
  simp at h;subst h
  have hlt:=(List.getElem?_eq_some_iff.1 hj).1
  simp only[List.flatMap_cons,Nat.zero_mul,Nat.zero_add]
  rw[List.getElem?_append_left hlt];exact hj
 |y::l,i+1,x,h,j,v,hj=>by
  have ih:=flatMap_get hsz l i x (by simpa using h) j v hj
  simp only[List.flatMap_cons]
  rw[List.getElem?_append_right (by rw[hsz y,Nat.add_mul];omega)]
  have e:(i+1)*size+j-(enc y).length=i*size+j:=by rw[hsz y,Nat.add_mul];omega
  rw[e];exact ih
def SL (enc:α→List Value) (h:Heap) (v:Value) (l:List α):Prop:=∃a c,v=.slice a l.length c∧l.length≤c∧Src h a l.length (l.flatMap enc)
def ablk:Option Addr→List Nat
 |none=>[]
 |some a=>[a.block]
def vblk:Value→List Nat
 |.slice a _ _=>ablk a
 |_=>[]
theorem Src.chg {S:List Nat} {h h':Heap} {a:Option Addr} {n:Nat} {xs:List Value} (hs:Src h a n xs) (hc:Chg S h h') (hn:∀b∈ablk a,b∉S):Src h' a n xs:=by
 cases a with
 |none=>exact hs
 |some a=>
  obtain⟨b,o,sp⟩:=a
  cases sp with
  |some s=>exact hs
  |none=>exact fun i v hv=>cell_chg (hs i v hv) hc (hn b (by simp[ablk]))
theorem SL.chg {S:List Nat} {h h':Heap} {v:Value} {l:List α} (hs:SL enc h v l) (hc:Chg S h h') (hn:∀b∈vblk v,b∉S):SL enc h' v l:=by
 obtain⟨a,c,rfl,h1,h2⟩:=hs
 exact⟨a,c,rfl,h1,h2.chg hc hn⟩
theorem SL.ext {h h':Heap} {v:Value} {l:List α} (hs:SL enc h v l) (hc:Chg [] h h'):SL enc h' v l:=hs.chg hc (by simp)
theorem SL.addr {h:Heap} {a:Option Addr} {n c:Nat} {l:List α} (hs:SL enc h (.slice a n c) l) (hpos:0<l.length):∃b o,a=some ⟨b,o,none⟩:=by
 obtain⟨a',c',he,_,h2⟩:=hs
 cases he
 cases a with
 |none=>have:l.length=0:=h2;omega
 |some a=>
  obtain⟨b,o,sp⟩:=a
  cases sp with
  |some s=>have:l.length=0:=h2;omega
  |none=>exact⟨b,o,rfl⟩
theorem SL.cells {h:Heap} {b o n c:Nat} {l:List α} (hsz:∀x,(enc x).length=size) (hs:SL enc h (.slice (some ⟨b,o,none⟩) n c) l) {i:Nat} {x:α} (hi:l[i]? =some x):Cells h b (o+i*size) (enc x):=by
 obtain⟨a',c',he,_,h2⟩:=hs
 cases he
 intro j v hj
 have:=h2 (i*size+j) v (flatMap_get hsz l i x hi j v hj)
 rw[Nat.add_assoc];exact this
theorem SL.len {h:Heap} {a:Option Addr} {n c:Nat} {l:List α} (hs:SL enc h (.slice a n c) l):n=l.length∧l.length≤c:=by
 obtain⟨a',c',he,h1,_⟩:=hs
 cases he
 exact⟨rfl,h1⟩
theorem SL.form {h:Heap} {v:Value} {l:List α} (hs:SL enc h v l):∃a c,v=.slice a l.length c∧l.length≤c:=by
 obtain⟨a',c',he,h1,_⟩:=hs
 exact⟨a',c',he,h1⟩
theorem SL.nil {h:Heap}:SL enc h (.slice none 0 0) []:=⟨none,0,rfl,Nat.le_refl _,rfl⟩
def OL (enc:α→List Value) (size:Nat) (h:Heap) (v:Value) (l:List α):Prop:=
 ∃a c,v=.slice a l.length c∧match a with
  |none=>l=[]∧c=0
  |some ⟨b,o,none⟩=>o=0∧l.length≤c∧∃rest,Blk h b (l.flatMap enc++rest)∧(l.flatMap enc++rest).length=c*size
  |_=>False
theorem OL.nil {h:Heap}:OL enc size h (.slice none 0 0) []:=⟨none,0,rfl,rfl,rfl⟩
theorem OL.sl {h:Heap} {v:Value} {l:List α} (ho:OL enc size h v l):SL enc h v l:=by
 obtain⟨a,c,rfl,h1⟩:=ho
 split at h1
 ·obtain⟨rfl,rfl⟩:=h1;exact SL.nil
 ·rename_i b o
  obtain⟨rfl,h2,rest,hb,h3⟩:=h1
  refine⟨_,c,rfl,h2,fun i v hv=>?_⟩
  rw[Nat.zero_add]
  refine cell_blk hb ?_
  rw[List.getElem?_append_left (List.getElem?_eq_some_iff.1 hv).1];exact hv
 ·exact h1.elim
theorem OL.chg {S:List Nat} {h h':Heap} {v:Value} {l:List α} (ho:OL enc size h v l) (hc:Chg S h h') (hn:∀b∈vblk v,b∉S):OL enc size h' v l:=by
 obtain⟨a,c,rfl,h1⟩:=ho
 refine⟨a,c,rfl,?_⟩
 split at h1
 ·exact h1
 ·rename_i b o
  obtain⟨h0,h2,rest,hb,h3⟩:=h1
  exact⟨h0,h2,rest,hb.chg hc (hn b (by simp[vblk,ablk])),h3⟩
 ·exact h1.elim
theorem OL.ext {h h':Heap} {v:Value} {l:List α} (hs:OL enc size h v l) (hc:Chg [] h h'):OL enc size h' v l:=hs.chg hc (by simp)
theorem OL.lt {h:Heap} {v:Value} {l:List α} (ho:OL enc size h v l):∀b∈vblk v,b<h.size:=by
 obtain⟨a,c,rfl,h1⟩:=ho
 split at h1
 ·simp[vblk,ablk]
 ·obtain⟨_,_,rest,hb,_⟩:=h1
  simp[vblk,ablk];exact hb.lt
 ·exact h1.elim
theorem splice_mid:∀(xs l ys:List Value),ys.length≤l.length→splice (xs++l) xs.length ys=xs++(ys++l.drop ys.length)
 |[],l,[],_=>by simp[splice_nil]
 |[],[],y::ys,h=>by simp at h
 |[],x::l,y::ys,h=>by
  have ih:=splice_mid [] l ys (by simpa using h)
  simp at ih
  simp[splice,ih]
 |x::xs,l,[],h=>by simp[splice_nil]
 |x::xs,l,y::ys,h=>by
  have ih:=splice_mid xs l (y::ys) h
  simp only[List.cons_append,List.length_cons,splice]
  rw[ih];simp
theorem app_own {h:Heap} {bytes:Nat} {z:List Value} (hsz:∀x,(enc x).length=size) (h1:∀x,∀u∈enc x,u.oneCell'=true) (hz:z.length=size)
  {a:Option Addr} {n c:Nat} {a':Option Addr} {m c2:Nat} {l l2:List α} (hown:OL enc size h (.slice a n c) l) (hsrc:SL enc h (.slice a' m c2) l2)
  (hbound:((l.length+l2.length)*2+768)*bytes≤281474976710656) {K:Value→Heap→Prop}
  (hk:∀v' h',OL enc size h' v' (l++l2)→Chg (ablk a) h h'→(∀b∈vblk v',b∈ablk a∨h.size≤b)→K v' h'):appP h K size bytes z a n c a' m:=by
 obtain⟨hn,_⟩:=hown.sl.len
 obtain⟨hm,_⟩:=hsrc.len
 have hsl:=hown.sl
 obtain⟨a1,c1,he,hrep⟩:=hown
 cases he
 obtain⟨a3,c3,he3,_,hs3⟩:=hsrc
 cases he3
 obtain⟨a4,c4,he4,_,hs4⟩:=hsl
 cases he4
 refine⟨l.flatMap enc,l2.flatMap enc,flatMap_len hsz l,flatMap_len hsz l2,hs4,hs3,?_,fun hroom=>?_,fun hfull=>⟨hbound,fun c' b h' hc' hg=>?_⟩⟩
 ·intro u hu
  obtain⟨x,_,hx⟩:=List.mem_flatMap.1 hu
  exact h1 x u hx
 ·cases a with
  |none=>
   obtain⟨rfl,rfl⟩:=hrep
   have hl2:l2=[]:=by simpa using hroom
   subst hl2
   exact hk _ _ (by simpa using OL.nil) ⟨Nat.le_refl _,fun _ _ _=>rfl⟩ (by simp[vblk,ablk])
  |some a=>
   obtain⟨b,o,sp⟩:=a
   cases sp with
   |some s=>exact hrep.elim
   |none=>
    obtain⟨rfl,h2,rest,hb,h3⟩:=hrep
    have hlen1:=flatMap_len hsz l
    have hlen2:=flatMap_len hsz l2
    have hmul:(l.length+l2.length)*size=l.length*size+l2.length*size:=Nat.add_mul _ _ _
    have hcs:(l.length+l2.length)*size≤c*size:=Nat.mul_le_mul_right _ hroom
    refine⟨_,hb,by rw[h3];omega,fun h' hp=>?_⟩
    have hrl:(l2.flatMap enc).length≤rest.length:=by
     rw[List.length_append]at h3;omega
    have hsp:splice (l.flatMap enc++rest) (0+l.length*size) (l2.flatMap enc)=(l++l2).flatMap enc++rest.drop (l2.flatMap enc).length:=by
     rw[Nat.zero_add,←hlen1,splice_mid _ _ _ hrl];simp
    rw[hsp]at hp
    have hol:OL enc size h' (.slice (some ⟨b,0,none⟩) (l.length+l2.length) c) (l++l2):=by
     refine⟨some ⟨b,0,none⟩,c,by rw[List.length_append],rfl,by rw[List.length_append];exact hroom,_,hp.blk,?_⟩
     rw[←h3];simp only[List.length_append,List.length_drop,List.flatMap_append]at h3 hrl⊢;omega
    exact hk _ _ hol hp.chg (by simp[vblk,ablk])
 ·have hol:OL enc size h' (.slice (some ⟨b,0,none⟩) (l.length+l2.length) c') (l++l2):=by
   refine⟨some ⟨b,0,none⟩,c',by rw[List.length_append],rfl,by rw[List.length_append];exact hc',(List.replicate (c'-(l.length+l2.length)) z).flatten,?_,?_⟩
   ·have:=hg.blk
    simpa using this
   ·have hlen1:=flatMap_len hsz (l++l2)
    rw[List.length_append,hlen1,List.length_append]
    have:((List.replicate (c'-(l.length+l2.length)) z).flatten).length=(c'-(l.length+l2.length))*size:=by simp[hz]
    rw[this,←Nat.add_mul]
    congr 1;omega
  refine hk _ _ hol (hg.chg.mono (by simp)) ?_
  intro b' hb'
  simp[vblk,ablk]at hb'
  right;rw[hb',hg.id];exact Nat.le_refl _
theorem SL.one {h:Heap} {b:Nat} {x:α} (_:∀x,(enc x).length=size) (hb:Blk h b (enc x)):SL enc h (.slice (some ⟨b,0,none⟩) 1 1) [x]:=by
 refine⟨_,1,rfl,Nat.le_refl _,?_⟩
 have:=cells_blk hb
 simpa[Src]using this
end Go.Sx
namespace Go.Sx
open Go
variable {P:Program} {σ σ':Env} {h:Heap}
theorem Sub.upd (hs:Sub σ σ') (d:Option Nat) (v:Value):Sub (Sx.upd σ d v) (Sx.upd σ' d v):=by
 intro t u ht
 by_cases hd:d=some t
 ·subst hd;rw[upd_same]at ht⊢;exact ht
 ·rw[upd_ne hd]at ht⊢;exact hs t u ht
theorem Sub.ev (hs:Sub σ σ') {x:Operand} {v:Value} (hx:Sx.ev σ x=some v):Sx.ev σ' x=some v:=by
 cases x with
 |tmp t=>exact hs t v hx
 |_=>exact hx
theorem Sub.evsL (hs:Sub σ σ'):∀(xs:List Operand) (vs:List Value),evs σ xs=some vs→evs σ' xs=some vs
 |[],vs,h=>h
 |x::xs,vs,h=>by
  simp only[evs]at h⊢
  split at h
  ·rename_i v us hv hus
   rw[hs.ev hv,hs.evsL xs us hus]
   exact h
  ·simp at h
theorem Sub.hide (hs:Sub σ σ') (l:List SOper):Sub (Sx.hide l σ) (Sx.hide l σ'):=by
 intro t u ht
 unfold Sx.hide at ht⊢
 cases hn:hasN t (dstsOf l)<;>simp[hn]at ht⊢
 exact hs t u ht
theorem Sub.hideN (hs:Sub σ σ') (l:List Nat):Sub (Sx.hideN l σ) (Sx.hideN l σ'):=by
 intro t u ht
 unfold Sx.hideN at ht⊢
 cases hn:hasN t l<;>simp[hn]at ht⊢
 exact hs t u ht
theorem evs_known:∀(xs:List Operand) (vs:List Value),evs σ xs=some vs→∀x∈xs,∃v,ev σ x=some v
 |[],_,_,x,hx=>by simp at hx
 |y::xs,vs,h,x,hx=>by
  simp only[evs]at h
  split at h
  ·rename_i v us hv hus
   rcases List.mem_cons.1 hx with rfl|hx
   ·exact⟨v,hv⟩
   ·exact evs_known xs us hus x hx
  ·simp at h
theorem bndOf_known {x:Option Operand} {d:Nat} {n:Int} (hb:bndOf σ x d=some n):∀y∈opt x,∃v,ev σ y=some v:=by
 intro y hy
 cases x with
 |none=>simp[opt]at hy
 |some z=>
  simp[opt]at hy;subst hy
  simp only[bndOf]at hb
  split at hb
  ·rename_i k m hv;exact⟨_,hv⟩
  ·simp at hb
theorem sop_known {K:Value→Heap→Prop} {Qp:List PanicEntry→Heap→Prop} (s:SOp) (hs:sop P σ h K Qp s):∀x∈s.reads,∃v,ev σ x=some v:=by
 intro x hx
 cases s
 case build z ps xs=>simp only[sop]at hs;split at hs;rename_i vs hv;exact evs_known _ _ hv x hx;exact hs.elim
 case bslice z n ps xs=>simp only[sop]at hs;split at hs;rename_i vs hv;exact evs_known _ _ hv x hx;exact hs.elim
 case call f xs=>simp only[sop]at hs;split at hs;rename_i vs hv;exact evs_known _ _ hv x hx;exact hs.elim
 case callq f xs=>simp only[sop]at hs;split at hs;rename_i vs hv;exact evs_known _ _ hv x hx;exact hs.elim
 case callx f xs=>simp only[sop]at hs;split at hs;rename_i vs hv;exact evs_known _ _ hv x hx;exact hs.elim
 case callv y xs=>
  simp only[sop]at hs
  split at hs
  ·rename_i hy hv
   rcases List.mem_cons.1 hx with rfl|hx
   ·exact⟨_,hy⟩
   ·exact evs_known _ _ hv x hx
  ·rename_i hy hv
   rcases List.mem_cons.1 hx with rfl|hx
   ·exact⟨_,hy⟩
   ·exact evs_known _ _ hv x hx
  ·exact hs.elim
 case callvq y xs=>
  simp only[sop]at hs
  split at hs
  ·rename_i hy hv
   rcases List.mem_cons.1 hx with rfl|hx
   ·exact⟨_,hy⟩
   ·exact evs_known _ _ hv x hx
  ·exact hs.elim
 case fn f a c=>
  simp only[sop]at hs
  split at hs
  ·rename_i ha hc
   rcases List.mem_append.1 hx with hx|hx
   ·exact evs_known _ _ ha x hx
   ·exact evs_known _ _ hc x hx
  ·exact hs.elim
 case slc n y lo hi=>
  simp only[sop]at hs
  split at hs
  ·rename_i hy
   split at hs
   ·rename_i hl hm
    simp only[SOp.reads,List.mem_cons,List.mem_append]at hx
    rcases hx with rfl|hx|hx
    ·exact⟨_,hy⟩
    ·exact bndOf_known hl x hx
    ·exact bndOf_known hm x hx
   ·exact hs.elim
  ·exact hs.elim
 case slc3 n y lo hi mx=>
  simp only[sop]at hs
  split at hs
  ·rename_i hy
   split at hs
   ·rename_i hl hm hk
    simp only[SOp.reads,List.mem_cons,List.mem_append,List.not_mem_nil,or_false]at hx
    rcases hx with rfl|hx|rfl|rfl
    ·exact⟨_,hy⟩
    ·exact bndOf_known hl x hx
    ·exact bndOf_known hm x (by simp[opt])
    ·exact bndOf_known hk x (by simp[opt])
   ·exact hs.elim
  ·exact hs.elim
 case slp tn n y lo hi=>
  simp only[sop]at hs
  split at hs
  ·rename_i hy
   split at hs
   ·rename_i hl hm
    simp only[SOp.reads,List.mem_cons,List.mem_append]at hx
    rcases hx with rfl|hx|hx
    ·exact⟨_,hy⟩
    ·exact bndOf_known hl x hx
    ·exact bndOf_known hm x hx
   ·exact hs.elim
  ·exact hs.elim
 case sls y lo hi=>
  simp only[sop]at hs
  split at hs
  ·rename_i hy
   split at hs
   ·rename_i hl hm
    simp only[SOp.reads,List.mem_cons,List.mem_append]at hx
    rcases hx with rfl|hx|hx
    ·exact⟨_,hy⟩
    ·exact bndOf_known hl x hx
    ·exact bndOf_known hm x hx
   ·exact hs.elim
  ·exact hs.elim
 case new z=>simp[SOp.reads]at hx
 case mkm=>simp[SOp.reads]at hx
 case newT t z=>simp[SOp.reads]at hx
 all_goals
  simp only[SOp.reads,List.mem_cons,List.not_mem_nil,or_false]at hx
  simp only[sop]at hs
  first
   |exact hx.elim
   |((repeat' split at hs)<;>first|exact hs.elim|(rcases hx with rfl|rfl|rfl<;>exact⟨_,by assumption⟩)|(rcases hx with rfl|rfl<;>exact⟨_,by assumption⟩)|(subst hx;exact⟨_,by assumption⟩))
theorem sop_sub {K:Value→Heap→Prop} {Qp:List PanicEntry→Heap→Prop} {s:SOp} (hss:Sub σ σ') (hs:sop P σ h K Qp s):sop P σ' h K Qp s:=by
 rw[←sop_congr s fun x hx=>by
  obtain⟨v,hv⟩:=sop_known s hs x hx
  rw[hv,hss.ev hv]]
 exact hs
def Mono (Q:Post):Prop:=∀e σ σ' ds h,Sub σ σ'→Q e σ ds h→Q e σ' ds h
theorem sopr_sub {K K':Env→Heap→Prop} {Qp Qp':List PanicEntry→Heap→Prop} {s:SOper} (hss:Sub σ σ') (hq:∀ch h,Qp ch h→Qp' ch h) (hk:∀σ σ' h,Sub σ σ'→K σ h→K' σ' h) (hs:sopr P σ h s K Qp):sopr P σ' h s K' Qp':=by
 have main:sop P σ h (fun v h'=>K (upd σ s.dst v) h') Qp s.op→sop P σ' h (fun v h'=>K' (upd σ' s.dst v) h') Qp' s.op:=by
  intro hs
  have h1:=sop_sub (P:=P) hss (sop_mono (K':=fun v h'=>K' (upd σ' s.dst v) h') s.op hs fun v h' hv=>hk _ _ h' (hss.upd s.dst v) hv)
  exact sop_qp s.op h1 hq
 unfold sopr at hs⊢
 split at hs
 ·exact main hs
 ·rename_i g want hg
  split at hs
  ·rename_i t ht
   have ht':=hss g t ht
   simp only[ht']
   split at hs
   ·exact main hs
   ·exact hk _ _ h (hss.upd s.dst undef) hs
  ·exact hs.elim
theorem sops_sub {Qp Qp':List PanicEntry→Heap→Prop} {K K':Env→Heap→Prop} (hq:∀ch h,Qp ch h→Qp' ch h) (hk:∀σ σ' h,Sub σ σ'→K σ h→K' σ' h):∀(l:List SOper) (σ σ':Env) (h:Heap),Sub σ σ'→sops P Qp K l σ h→sops P Qp' K' l σ' h
 |[],σ,σ',h,hs,hh=>hk σ σ' h hs hh
 |_::l,_,_,_,hs,hh=>sopr_sub hs hq (fun σ1 σ2 h1 h12 hk1=>sops_sub hq hk l σ1 σ2 h1 h12 hk1) hh
theorem sopr_sub' {K K':Env→Heap→Prop} {Qp:List PanicEntry→Heap→Prop} {s:SOper} (hss:Sub σ σ') (hs:sopr P σ h s K Qp) (hk:∀v h',K (upd σ s.dst v) h'→K' (upd σ' s.dst v) h'):sopr P σ' h s K' Qp:=by
 have main:sop P σ h (fun v h'=>K (upd σ s.dst v) h') Qp s.op→sop P σ' h (fun v h'=>K' (upd σ' s.dst v) h') Qp s.op:=fun hs=>
  sop_sub (P:=P) hss (sop_mono (K':=fun v h'=>K' (upd σ' s.dst v) h') s.op hs fun v h' hv=>hk v h' hv)
 unfold sopr at hs⊢
 split at hs
 ·exact main hs
 ·rename_i g want hg
  split at hs
  ·rename_i t ht
   have ht':=hss g t ht
   simp only[ht']
   split at hs
   ·exact main hs
   ·exact hk undef h hs
  ·exact hs.elim
theorem chk_sub {x:SOper} (_hq:cls x.op≤1) (hs:Sub σ σ') (hc:chkOp P σ h x):chkOp P σ' h x:=by
 refine sopr_sub' hs hc fun u h1 hk=>?_
 obtain⟨h2,h3⟩:=hk
 refine⟨h2,?_⟩
 funext t
 by_cases hd:x.dst=some t
 ·have h4:=congrFun h3 t
  rw[hd,upd_same]at h4
  rw[hd,upd_same,hs t u h4.symm]
 ·rw[upd_ne hd]
theorem stree_sub {Qp Qp':List PanicEntry→Heap→Prop} {K K':Env→Heap→Prop} (hq:∀ch h,Qp ch h→Qp' ch h) (hk:∀σ σ' h,Sub σ σ'→K σ h→K' σ' h):∀(t:OTree) (σ σ':Env) (h:Heap),Sub σ σ'→stree P Qp K t σ h→stree P Qp' K' t σ' h
 |.done,σ,σ',h,hs,hh=>hk σ σ' h hs hh
 |.one _ t,_,_,_,hs,hh=>sopr_sub hs hq (fun σ1 σ2 h1 h12 hk1=>stree_sub hq hk t σ1 σ2 h1 h12 hk1) hh
 |.both a b,_,_,_,hs,hh=>⟨stree_sub hq hk a _ _ _ hs hh.1,stree_sub hq hk b _ _ _ hs hh.2⟩
 |.chk _l t,σ,σ',h,hs,hh=>⟨fun x hx=>⟨(hh.1 x hx).1,chk_sub (hh.1 x hx).1 hs (hh.1 x hx).2⟩,stree_sub hq hk t σ σ' h hs hh.2⟩
theorem SubL.sub:∀{l:List (Nat×Value)},Sub σ σ'→SubL σ l→SubL σ' l
 |[],_,_=>trivial
 |(n,v)::_,hs,⟨h1,h2⟩=>⟨hs n v h1,SubL.sub hs h2⟩
theorem Sub.updL:∀(ps:List Nat) (vs:List Value) {σ σ':Env},Sub σ σ'→Sub (Sx.updL σ ps vs) (Sx.updL σ' ps vs)
 |[],vs,σ,σ',hs=>by
  cases vs<;>exact hs
 |p::ps,[],σ,σ',hs=>hs
 |p::ps,v::vs,σ,σ',hs=>Sub.updL ps vs (hs.upd (some p) v)
theorem mono_thenQ {next:Env→List Deferred→Heap→Prop} {Q:Post} (hn:∀σ σ' ds h,Sub σ σ'→next σ ds h→next σ' ds h) (hq:Mono Q):Mono (thenQ next Q):=by
 intro e σ σ' ds h hs hh
 cases e<;>first|exact hn σ σ' ds h hs hh|exact hq _ σ σ' ds h hs hh
theorem mono_jumpQ {l:Nat} {next:Env→List Deferred→Heap→Prop} {Q:Post} (hn:∀σ σ' ds h,Sub σ σ'→next σ ds h→next σ' ds h) (hq:Mono Q):Mono (jumpQ l next Q):=by
 intro e σ σ' ds h hs hh
 cases e<;>first|exact⟨hh.1,hn σ σ' ds h hs hh.2⟩|exact hq _ σ σ' ds h hs hh
theorem mono_blockQ {id:Nat} {Q:Post} (hq:Mono Q):Mono (blockQ id Q):=by
 intro e σ σ' ds h hs hh
 cases e with
 |exit id'=>
  simp only[blockQ]at hh⊢
  split
  ·rename_i he;rw[if_pos he]at hh;exact hq _ σ σ' ds h hs hh
  ·rename_i he;rw[if_neg he]at hh;exact hq _ σ σ' ds h hs hh
 |_=>exact hq _ σ σ' ds h hs hh
theorem mono_scopeQ {Q:Post} (hq:Mono Q):Mono (scopeQ Q):=by
 intro e σ σ' ds h hs hh
 cases e<;>first|exact hh.elim|exact hq _ σ σ' ds h hs hh
theorem mono_roundQ {l:Nat} {r:Loop} {R:Ending→Heap→Prop}:Mono (roundQ l r R):=by
 intro e σ σ' ds h hs hh
 cases e<;>exact hh
theorem mono_False:Mono fun _ _ _ _=>False:=fun _ _ _ _ _ _ h=>h
theorem swp_sub:∀(c:SCode) (Q:Post) (σ σ':Env) (ds:List Deferred) (h:Heap),Mono Q→Sub σ σ'→swp P c Q σ ds h→swp P c Q σ' ds h:=by
 intro c
 induction c with
 |skip=>exact fun Q σ σ' ds h hq hs hh=>hq _ σ σ' ds h hs hh
 |exit id=>exact fun Q σ σ' ds h hq hs hh=>hq _ σ σ' ds h hs hh
 |ret=>exact fun Q σ σ' ds h hq hs hh=>hq _ σ σ' ds h hs hh
 |ops l=>
  intro Q σ σ' ds h hq hs hh
  exact sops_sub (fun ch h' hk=>hq _ _ _ ds h' (hs.hide l) hk) (fun σ1 σ2 h1 h12 hk=>hq _ σ1 σ2 ds h1 h12 hk) l σ σ' h hs hh
 |two pre l1 l2=>
  intro Q σ σ' ds h hq hs hh
  have hp:∀ch h',Q (.panic ch) (hide (pre++(l1++l2)) σ) ds h'→Q (.panic ch) (hide (pre++(l1++l2)) σ') ds h':=fun ch h' hk=>hq _ _ _ ds h' (hs.hide _) hk
  exact sops_sub hp (fun σ1 σ2 h1 h12 hk=>⟨sops_sub hp (fun σ3 σ4 h3 h34 hk=>hq _ σ3 σ4 ds h3 h34 hk) l1 σ1 σ2 h1 h12 hk.1,sops_sub hp (fun σ3 σ4 h3 h34 hk=>hq _ σ3 σ4 ds h3 h34 hk) l2 σ1 σ2 h1 h12 hk.2⟩) pre σ σ' h hs hh
 |seq a b iha ihb=>
  intro Q σ σ' ds h hq hs hh
  exact iha _ σ σ' ds h (mono_thenQ (fun σ1 σ2 ds1 h1 h12 hk=>ihb Q σ1 σ2 ds1 h1 hq h12 hk) hq) hs hh
 |cond c a b iha ihb=>
  intro Q σ σ' ds h hq hs hh
  simp only[swp]at hh⊢
  split at hh
  ·rename_i he;rw[hs.ev he];exact iha Q σ σ' ds h hq hs hh
  ·rename_i he;rw[hs.ev he];exact ihb Q σ σ' ds h hq hs hh
  ·exact hh.elim
 |block id c ih=>exact fun Q σ σ' ds h hq hs hh=>ih _ σ σ' ds h (mono_blockQ hq) hs hh
 |scope c ih=>exact fun Q σ σ' ds h hq hs hh=>ih _ σ σ' ds h (mono_scopeQ hq) hs hh
 |loop c ih=>
  intro Q σ σ' ds h hq hs hh
  obtain⟨ι,E,I,μ,i,h1,h2,h3⟩:=hh
  exact⟨ι,E,I,μ,i,h1.sub hs,h2,h3⟩
 |rcv d=>exact fun Q σ σ' ds h hq hs hh=>hh.elim
 |label l=>exact fun Q σ σ' ds h hq hs hh=>hq _ σ σ' ds h hs hh
 |goto l=>exact fun Q σ σ' ds h hq hs hh=>hq _ σ σ' ds h hs hh
 |scopeG c l r ihc ihr=>exact fun Q σ σ' ds h hq hs hh=>ihc _ σ σ' ds h (mono_jumpQ (fun σ1 σ2 ds1 h1 h12 hk=>ihr _ σ1 σ2 ds1 h1 (mono_scopeQ hq) h12 hk) hq) hs hh
 |tree l t=>
  intro Q σ σ' ds h hq hs hh
  exact stree_sub (fun ch h' hk=>hq _ _ _ ds h' (hs.hideN l) hk) (fun σ1 σ2 h1 h12 hk=>hq _ σ1 σ2 ds h1 h12 hk) t σ σ' h hs hh
 |dfr l d x args=>
  intro Q σ σ' ds h hq hs hh
  refine sops_sub (fun ch h' hk=>hq _ _ _ ds h' (hs.hide l) hk) (fun σ1 σ2 h1 h12 hk=>?_) l σ σ' h hs hh
  split at hk
  ·rename_i f fi cap vs hx hv
   rw[h12.ev hx,h12.evsL _ _ hv]
   exact hq _ _ _ _ h1 (h12.upd d undef) hk
  ·exact hk.elim
 |rangeF g ps a b iha ihb=>
  intro Q σ σ' ds h hq hs hh
  simp only[swp]at hh⊢
  split at hh
  ·rename_i f fi cap hg
   rw[hs.ev hg]
   intro l D r h1 e1 e2 e3 e4 e5 e6 hy
   refine(hh l D r h1 e1 e2 e3 e4 e5 e6 fun h2 args R hl hlen hsw=>hy h2 args R hl hlen ?_).mono ?_
   ·refine iha _ _ _ [] h2 (mono_thenQ (fun σ1 σ2 ds1 h3 h12 hk=>⟨hk.1,fun h4 ht=>ihb _ σ1 σ2 ds1 h4 mono_roundQ h12 (hk.2 h4 ht)⟩) mono_False) (Sub.updL ps args hs) hsw
   ·intro e h2 he
    cases e with
    |returned v=>
     obtain⟨st,p,h3,h4,h5⟩:=he
     refine⟨st,p,h3,h4,fun h' ht=>?_⟩
     have:=h5 h' ht
     cases p with
     |none=>exact hq _ σ σ' _ h' hs this
     |some c=>cases c<;>first|exact hq _ σ σ' _ h' hs this|exact this.elim
    |panicked ch=>exact he.elim
    |outgrown=>exact he.elim
  ·exact hh.elim
theorem resQ_sub:∀(rs:List SRes) {σ σ':Env} {h:Heap} {K:List Value→Prop},Sub σ σ'→resQ σ h rs K→resQ σ' h rs K
 |[],_,_,_,_,_,hh=>hh
 |.t n::rs,σ,σ',h,K,hs,hh=>by
  simp only[resQ]at hh⊢
  split at hh
  ·rename_i v hv;rw[hs n v hv];exact resQ_sub rs hs hh
  ·exact hh.elim
 |.c1 n::rs,σ,σ',h,K,hs,hh=>by
  simp only[resQ]at hh⊢
  split at hh
  ·rename_i b o hv
   rw[hs n _ hv]
   obtain⟨v,h1,h2⟩:=hh
   exact⟨v,h1,resQ_sub rs hs h2⟩
  ·exact hh.elim
 |.cn n m::rs,σ,σ',h,K,hs,hh=>by
  simp only[resQ]at hh⊢
  split at hh
  ·rename_i b o hv
   rw[hs n _ hv]
   obtain⟨v,h0,h1,h2⟩:=hh
   exact⟨v,h0,h1,resQ_sub rs hs h2⟩
  ·exact hh.elim
theorem leaveQ_sub {rs:List SRes} {R:Ending→Heap→Prop}:∀(ds:List Deferred) {σ σ':Env} (u:FrameMode) (h:Heap),Sub σ σ'→leaveQ rs R σ ds u h→leaveQ rs R σ' ds u h
 |[],_,_,.returning,_,hs,hh=>resQ_sub rs hs hh
 |[],_,_,.panicking _,_,_,hh=>hh
 |[],_,_,.run,_,_,hh=>hh
 |d::ds,_,_,u,h,hs,hh=>by
  simp only[leaveQ]at hh⊢
  split at hh
  ·exact⟨hh.1,fun h' hp=>leaveQ_sub ds u h' hs (hh.2 h' hp)⟩
  ·exact hh.elim
theorem mono_retQ {rs:List SRes} {R:Ending→Heap→Prop}:Mono (retQ rs R):=by
 intro e σ σ' ds h hs hh
 cases e<;>first|exact leaveQ_sub ds _ h hs hh|exact hh
theorem cut_at {c:SCode} {rs:List SRes} {R:Ending→Heap→Prop} {ds:List Deferred} (E:List (Nat×Value)) (hE:SubL σ E) (hh:swp P c (retQ rs R) (mk E) ds h):swp P c (retQ rs R) σ ds h:=
 swp_sub c _ _ _ ds h mono_retQ (sub_mk hE) hh
theorem cut_in {c:SCode} {Q:Post} {ds:List Deferred} (E:List (Nat×Value)) (hq:Mono Q) (hE:SubL σ E) (hh:swp P c Q (mk E) ds h):swp P c Q σ ds h:=
 swp_sub c _ _ _ ds h hq (sub_mk hE) hh
end Go.Sx
namespace Go.Sx
open Go
inductive T (α:Type) where
 |e
 |n (l:T α) (v:Option α) (r:T α)
def T.get {α:Type}:T α→Nat→Option α
 |.e,_=>none
 |.n l v r,k=>bif Nat.beq k 0 then v else bif Nat.beq (k%2) 1 then l.get ((k-1)/2)else r.get ((k-1)/2)
def T.set {α:Type}:Nat→T α→Nat→Option α→T α
 |0,.e,_,v=>.n .e v .e
 |0,.n l _ r,_,v=>.n l v r
 |f+1,.e,k,v=>bif Nat.beq k 0 then .n .e v .e else bif Nat.beq (k%2) 1 then .n (T.set f .e ((k-1)/2) v) none .e else .n .e none (T.set f .e ((k-1)/2) v)
 |f+1,.n l u r,k,v=>bif Nat.beq k 0 then .n l v r else bif Nat.beq (k%2) 1 then .n (T.set f l ((k-1)/2) v) u r else .n l u (T.set f r ((k-1)/2) v)
def big:Nat:=1099511627776
def T.put {α:Type} (t:T α) (k:Nat) (v:Option α):Option (T α):=bif Nat.blt k big then some (T.set 40 t k v)else none
inductive AV where
 |i (k:IntKind) (n:Int)
 |b (t:Bool)
 |s (l:List UInt8)
 |p (a o:Nat)
 |np
 |sl (a o n c:Nat)
 |su (a o n k:Nat)
 |ns
 |m (a:Nat)
 |nm
 |f (f:Nat) (fi cap:List AV)
 |nf
 |y (l:Nat)
 |ni
 |e (t:Nat) (v:AV)
 |g (l:List AV)
 |t (l:List AV)
 |q (j:Nat)
structure Rho where
 pl:Nat→Option (Nat×Nat×Nat)
 op:Nat→Value
 lr:Nat→Loop
 op1:∀j,(op j).oneCell'=true
mutual
def conc (ρ:Rho):AV→Option Value
 |.i k n=>some (.int k n)
 |.b t=>some (.bool t)
 |.s l=>some (.string ⟨⟨l⟩⟩)
 |.p a o=>match ρ.pl a with
  |some (b,ba,_)=>some (.pointer (some ⟨b,ba+o,none⟩))
  |none=>none
 |.np=>some (.pointer none)
 |.sl a o n c=>match ρ.pl a with
  |some (b,ba,_)=>some (.slice (some ⟨b,ba+o,none⟩) n c)
  |none=>none
 |.su a o n k=>match ρ.pl a with
  |some (b,ba,cp)=>if n+k≤cp then some (.slice (some ⟨b,ba+o,none⟩) n (cp-k))else none
  |none=>none
 |.ns=>some (.slice none 0 0)
 |.m a=>match ρ.pl a with
  |some (b,_,_)=>some (.map (some b))
  |none=>none
 |.nm=>some (.map none)
 |.f f fi cap=>match concs ρ fi,concs ρ cap with
  |some x,some y=>some (.func (.func f) ⟨x⟩ ⟨y⟩)
  |_,_=>none
 |.nf=>some .nilFunc
 |.y l=>match ρ.pl l with
  |some (b,_,_)=>some (.func (.yield b) #[] #[])
  |none=>none
 |.ni=>some .nilIface
 |.e t v=>match conc ρ v with
  |some x=>some (.iface t x)
  |none=>none
 |.g l=>match concs ρ l with
  |some x=>some (.agg ⟨x⟩)
  |none=>none
 |.t l=>match concs ρ l with
  |some x=>some (.tuple ⟨x⟩)
  |none=>none
 |.q j=>some (ρ.op j)
def concs (ρ:Rho):List AV→Option (List Value)
 |[]=>some []
 |x::l=>match conc ρ x,concs ρ l with
  |some v,some vs=>some (v::vs)
  |_,_=>none
end
def ieq:Int→Int→Bool
 |.ofNat a,.ofNat b=>Nat.beq a b
 |.negSucc a,.negSucc b=>Nat.beq a b
 |_,_=>false
def ilt:Int→Int→Bool
 |.ofNat a,.ofNat b=>Nat.blt a b
 |.negSucc a,.negSucc b=>Nat.blt b a
 |.ofNat _,.negSucc _=>false
 |.negSucc _,.ofNat _=>true
def keq (a b:IntKind):Bool:=
 match a,b with
 |.i8,.i8|.i16,.i16|.i32,.i32|.i64,.i64|.u8,.u8|.u16,.u16|.u32,.u32|.u64,.u64=>true
 |_,_=>false
def beqB (a b:Bool):Bool:=bif a then b else !b
def ueq (a b:UInt8):Bool:=Nat.beq a.toNat b.toNat
def seq8:List UInt8→List UInt8→Bool
 |[],[]=>true
 |a::l,b::m=>bif ueq a b then seq8 l m else false
 |_,_=>false
def slt8:List UInt8→List UInt8→Bool
 |_,[]=>false
 |[],_::_=>true
 |a::l,b::m=>bif Nat.blt a.toNat b.toNat then true else bif ueq a b then slt8 l m else false
mutual
def aeq:AV→AV→Bool
 |.i k n,.i k' n'=>keq k k'&&ieq n n'
 |.b t,.b t'=>beqB t t'
 |.s l,.s l'=>seq8 l l'
 |.p a o,.p a' o'=>Nat.beq a a'&&Nat.beq o o'
 |.np,.np=>true
 |.sl a o n c,.sl a' o' n' c'=>Nat.beq a a'&&Nat.beq o o'&&Nat.beq n n'&&Nat.beq c c'
 |.su a o n c,.su a' o' n' c'=>Nat.beq a a'&&Nat.beq o o'&&Nat.beq n n'&&Nat.beq c c'
 |.ns,.ns=>true
 |.m a,.m a'=>Nat.beq a a'
 |.nm,.nm=>true
 |.f f x y,.f f' x' y'=>Nat.beq f f'&&aeqs x x'&&aeqs y y'
 |.nf,.nf=>true
 |.y l,.y l'=>Nat.beq l l'
 |.ni,.ni=>true
 |.e t v,.e t' v'=>Nat.beq t t'&&aeq v v'
 |.g l,.g l'=>aeqs l l'
 |.t l,.t l'=>aeqs l l'
 |.q j,.q j'=>Nat.beq j j'
 |_,_=>false
def aeqs:List AV→List AV→Bool
 |[],[]=>true
 |x::l,y::m=>aeq x y&&aeqs l m
 |_,_=>false
end
abbrev APend:=Option (Option Nat)
inductive AB where
 |cells (w:Bool) (gz:Nat) (l:List AV)
 |map (es:List (AV×AV×Nat)) (clock:Nat)
 |iter (m:Option Nat) (since:Nat) (seen:List Nat) (last:Nat)
 |dfd (open_:Bool)
 |siter (l:List UInt8) (pos:Nat)
 |loop (st:LoopState) (p:APend)
 |dead
def aeqp:APend→APend→Bool
 |none,none=>true
 |some none,some none=>true
 |some (some a),some (some b)=>Nat.beq a b
 |_,_=>false
def steq:LoopState→LoopState→Bool
 |.ready,.ready|.busy,.busy|.done,.done|.exhausted,.exhausted=>true
 |_,_=>false
def aeqm:List (AV×AV×Nat)→List (AV×AV×Nat)→Bool
 |[],[]=>true
 |(k,v,b)::l,(k',v',b')::m=>aeq k k'&&aeq v v'&&Nat.beq b b'&&aeqm l m
 |_,_=>false
def neqs:List Nat→List Nat→Bool
 |[],[]=>true
 |a::l,b::m=>Nat.beq a b&&neqs l m
 |_,_=>false
def oeq:Option Nat→Option Nat→Bool
 |none,none=>true
 |some a,some b=>Nat.beq a b
 |_,_=>false
def beqAB:AB→AB→Bool
 |.cells w g l,.cells w' g' l'=>beqB w w'&&Nat.beq g g'&&aeqs l l'
 |.map es c,.map es' c'=>aeqm es es'&&Nat.beq c c'
 |.iter m s l t,.iter m' s' l' t'=>oeq m m'&&Nat.beq s s'&&neqs l l'&&Nat.beq t t'
 |.dfd t,.dfd t'=>beqB t t'
 |.siter l p,.siter l' p'=>seq8 l l'&&Nat.beq p p'
 |.loop st p,.loop st' p'=>steq st st'&&aeqp p p'
 |.dead,.dead=>true
 |_,_=>false
def beqO {α:Type} (f:α→α→Bool):Option α→Option α→Bool
 |none,none=>true
 |some a,some b=>f a b
 |_,_=>false
def beqT {α:Type} (f:α→α→Bool):T α→T α→Bool
 |.e,.e=>true
 |.n l v r,.n l' v' r'=>beqO f v v'&&beqT f l l'&&beqT f r r'
 |_,_=>false
def nth {α:Type}:List α→Nat→Option α
 |[],_=>none
 |x::_,0=>some x
 |_::l,n+1=>nth l n
def taken {α:Type}:List α→Nat→Option (List α)
 |_,0=>some []
 |[],_+1=>none
 |x::l,n+1=>match taken l n with
  |some r=>some (x::r)
  |none=>none
def dropped {α:Type}:List α→Nat→List α
 |l,0=>l
 |[],_+1=>[]
 |_::l,n+1=>dropped l n
def joined {α:Type}:List α→List α→List α
 |[],m=>m
 |x::l,m=>x::joined l m
def spliceA:List AV→Nat→List AV→List AV
 |l,_,[]=>l
 |[],_,_::_=>[]
 |_::l,0,v::vs=>v::spliceA l 0 vs
 |x::l,n+1,v::vs=>x::spliceA l n (v::vs)
def copies {α:Type}:Nat→List α→List α
 |0,_=>[]
 |n+1,z=>joined z (copies n z)
def countA {α:Type}:List α→Nat
 |[]=>0
 |_::l=>countA l+1
def aval:Value→Option AV
 |.int k n=>some (.i k n)
 |.bool t=>some (.b t)
 |.string s=>some (.s s.data.toList)
 |.pointer none=>some .np
 |.slice none 0 0=>some .ns
 |.map none=>some .nm
 |.nilFunc=>some .nf
 |.nilIface=>some .ni
 |.tuple ⟨[]⟩=>some (.t [])
 |_=>none
def avals:List Value→Option (List AV)
 |[]=>some []
 |x::l=>match aval x,avals l with
  |some v,some vs=>some (v::vs)
  |_,_=>none
def avalg:Value→Option AV
 |.agg ⟨l⟩=>match avals l with
  |some x=>some (.g x)
  |none=>none
 |v=>aval v
abbrev AE:=T AV
abbrev AH:=T AB
def gtop:Nat:=1000
def T.wput (H:AH) (a:Nat) (B:Option AB):Option AH:=bif Nat.blt a gtop then none else H.put a B
def aev (H:AH) (E:AE):Operand→Option AV
 |.tmp t=>E.get t
 |.const v=>aval v
 |.global g=>match H.get g with
  |some (.cells _ _ _)=>bif Nat.blt g gtop then some (.p g 0)else none
  |_=>none
 |.func f=>some (.f f [] [])
def aevs (H:AH) (E:AE):List Operand→Option (List AV)
 |[]=>some []
 |x::xs=>match aev H E x,aevs H E xs with
  |some v,some vs=>some (v::vs)
  |_,_=>none
def aupd (E:AE) (d:Option Nat) (v:AV):Option AE:=
 match d with
 |none=>some E
 |some d=>E.put d (some v)
def abnd (H:AH) (E:AE) (x:Option Operand) (dflt:Nat):Option Int:=
 match x with
 |none=>some dflt
 |some x=>match aev H E x with
  |some (.i _ n)=>some n
  |_=>none
def acells:AV→Option (List AV)
 |.g l=>some l
 |v=>some [v]
def one1:AV→Bool
 |.g _|.t _=>false
 |_=>true
def onesA:List AV→Bool
 |[]=>true
 |x::l=>one1 x&&onesA l
def getB (H:AH) (a:Nat):Option (Bool×Nat×List AV):=
 match H.get a with
 |some (.cells w g l)=>some (w,g,l)
 |_=>none
def grow (H:AH) (id:Nat) (B:AB):Option AH:=
 bif Nat.blt id gtop then none else
 match H.get id with
 |none=>H.put id (some B)
 |some _=>none
def setB (H:AH) (a:Nat) (w:Bool) (g:Nat) (l:List AV) (o:Nat) (vs:List AV):Option AH:=
 bif Nat.ble (o+countA vs) (countA l)then T.wput H a (some (.cells w g (spliceA l o vs)))else none
def fillA (z:List AV):List (Nat×Nat)→List AV→Option (List AV)
 |(off,n)::ps,v::vs=>match acells v with
  |some l=>bif Nat.beq (countA l) n&&Nat.ble (off+n) (countA z)then fillA (spliceA z off l) ps vs else none
  |none=>none
 |[],[]=>some z
 |_,_=>none
def readS (H:AH) (v:AV) (n size:Nat):Option (List AV):=
 match v with
 |.ns=>bif Nat.beq n 0 then some []else none
 |.sl a o _ _|.su a o _ _=>match getB H a with
  |some (_,_,l)=>taken (dropped l o) (n*size)
  |none=>none
 |_=>none
def anil:Nat→AV→Option Bool
 |0,.np=>some true
 |0,.p _ _=>some false
 |1,.ns=>some true
 |1,.sl .. =>some false
 |1,.su .. =>some false
 |2,.nm=>some true
 |2,.m _=>some false
 |3,.nf=>some true
 |3,.f .. =>some false
 |3,.y _=>some false
 |4,.ni=>some true
 |4,.e .. =>some false
 |_,_=>none
def afits:Kd→AV→Bool
 |.int k,.i k' _=>keq k k'
 |.str,.s _=>true
 |.bool,.b _=>true
 |_,_=>false
def afitsAll:List Kd→List AV→Bool
 |[],[]=>true
 |k::ks,v::vs=>afits k v&&afitsAll ks vs
 |_,_=>false
def afitsM (kd:Kd):List (AV×AV×Nat)→Bool
 |[]=>true
 |(k,_)::es=>afits kd k&&afitsM kd es
def afind (k:AV):List (AV×AV×Nat)→Nat→Option (Nat×AV)
 |[],_=>none
 |(k',v,_)::es,i=>bif aeq k k' then some (i,v)else afind k es (i+1)
def asetM (v:AV):List (AV×AV×Nat)→Nat→List (AV×AV×Nat)
 |[],_=>[]
 |(k,_,b)::es,0=>(k,v,b)::es
 |e::es,i+1=>e::asetM v es i
def aleft (since:Nat) (seen:List Nat):List (AV×AV×Nat)→Option (List (AV×AV×Nat))
 |[]=>some []
 |e::es=>match aleft since seen es with
  |some l=>bif Nat.blt e.2.2 since then(bif hasN e.2.2 seen then some l else some (e::l))else none
  |none=>none
def abyBorn (b:Nat):List (AV×AV×Nat)→Option (AV×AV×Nat)
 |[]=>none
 |e::es=>bif Nat.beq e.2.2 b then some e else abyBorn b es
def adelM:List (AV×AV×Nat)→Nat→List (AV×AV×Nat)
 |[],_=>[]
 |_::es,0=>es
 |e::es,i+1=>e::adelM es i
def wrapF (k:IntKind) (z:Int):Int:=
 match k,z with
 |.i64,.ofNat n=>bif Nat.blt n 9223372036854775808 then .ofNat n else k.wrap z
 |_,_=>k.wrap z
def arithF (op:BinOp) (k:IntKind) (a b:Int):Int:=
 match op with
 |.add=>wrapF k (a+b)
 |.sub=>wrapF k (a-b)
 |_=>wrapF k (a*b)
def mkI (k:IntKind) (z:Int):AV:=
 match z with
 |.ofNat n=>bif Nat.beq n n then .i k (.ofNat n)else .i k (.ofNat n)
 |.negSucc n=>bif Nat.beq n n then .i k (.negSucc n)else .i k (.negSucc n)
def acmpI (op:BinOp) (a b:Int):Option Bool:=
 match op with
 |.eql=>some (ieq a b)
 |.neq=>some (!ieq a b)
 |.lss=>some (ilt a b)
 |.leq=>some (!ilt b a)
 |.gtr=>some (ilt b a)
 |.geq=>some (!ilt a b)
 |_=>none
def acmpS (op:BinOp) (a b:List UInt8):Option Bool:=
 match op with
 |.eql=>some (seq8 a b)
 |.neq=>some (!seq8 a b)
 |.lss=>some (slt8 a b)
 |.leq=>some (slt8 a b||seq8 a b)
 |.gtr=>some (!(slt8 a b||seq8 a b))
 |.geq=>some (!slt8 a b)
 |_=>none
def abytes:List AV→Option (List UInt8)
 |[]=>some []
 |.i .u8 (.ofNat n)::l=>match abytes l with
  |some r=>bif Nat.beq (UInt8.ofNat n).toNat n then some (UInt8.ofNat n::r)else none
  |none=>none
 |_=>none
def abyteCells (l:List UInt8):List AV:=l.map fun b=>.i .u8 (.ofNat b.toNat)
def alen:AV→Option Nat
 |.ns=>some 0
 |.sl _ _ n _=>some n
 |.su _ _ n _=>some n
 |_=>none
def readB (H:AH) (v:AV) (n:Nat):Option (List AV):=
 match v with
 |.s l=>taken (abyteCells l) n
 |v=>readS H v n 1
def alenB:AV→Option Nat
 |.s l=>some (countA l)
 |v=>alen v
def acut (size:Nat) (v:AV) (l m:Nat):Option AV:=
 match v with
 |.ns=>bif Nat.beq l 0&&Nat.beq m 0 then some .ns else none
 |.sl a o _ c=>bif Nat.ble l m&&Nat.ble m c then some (.sl a (bif Nat.blt l c then o+l*size else o) (m-l) (c-l))else none
 |.su a o n k=>bif Nat.ble l m&&Nat.ble m n&&Nat.blt l n then some (.su a (o+l*size) (m-l) (k+l))else(bif Nat.beq l 0&&Nat.beq m 0 then some (.su a o 0 k)else none)
 |_=>none
def gM:Nat:=65536
def appA (H:AH) (id size bytes ty:Nat) (w:Bool) (v:AV) (ys:List AV) (m:Nat):Option (AV×AH):=
 match v with
 |.ns=>bif Nat.beq m 0 then some (.ns,H)else
  bif Nat.ble ((m*2+768)*bytes) 281474976710656 then
   bif Nat.blt size gM then match grow H id (.cells w (size+gM*ty) ys)with
    |some H'=>some (.su id 0 m 0,H')
    |none=>none
   else none
  else none
 |.sl a o n c=>match getB H a with
  |some (w',g,l)=>bif beqB w' false||w then
    bif Nat.ble (n+m) c then
     match setB H a w g l (o+n*size) ys with
     |some H'=>bif Nat.ble (o+(n+m)*size) (countA l)then some (.sl a o (n+m) c,H')else none
     |none=>none
    else bif Nat.ble (((n+m)*2+768)*bytes) 281474976710656 then
     match taken (dropped l o) (n*size)with
     |some xs=>bif Nat.blt size gM then match grow H id (.cells w (size+gM*ty) (joined xs ys))with
       |some H'=>some (.su id 0 (n+m) 0,H')
       |none=>none
      else none
     |none=>none
    else none
   else none
  |none=>none
 |.su a o n k=>match getB H a with
  |some (w',g,l)=>bif Nat.beq (g%gM) size&&Nat.blt 0 size&&Nat.ble (o+n*size) (countA l)&&Nat.beq o (k*size)&&(beqB w' false||w)&&Nat.ble (((n+m)*2+768)*bytes) 281474976710656 then
    bif Nat.ble (o+(n+m)*size) (countA l)then
     match setB H a w g l (o+n*size) ys with
     |some H'=>some (.su a o (n+m) k,H')
     |none=>none
    else match taken (dropped l o) (n*size)with
     |some xs=>match T.wput H a (some .dead)with
      |some H1=>match grow H1 id (.cells w (size+gM*(bif Nat.beq (g/gM) ty&&Nat.beq o 0 then ty else 0)) (joined xs ys))with
       |some H'=>some (.su id 0 (n+m) 0,H')
       |none=>none
      |none=>none
     |none=>none
   else none
  |none=>none
 |_=>none
def eqResI (neg t:Bool):AV:=.b (bif t then !neg else neg)
def aop (P:Program) (E:AE) (H:AH) (id:Nat):SOp→Option (AV×AH)
 |.mv x=>match aev H E x with
  |some v=>some (v,H)
  |none=>none
 |.pick c a b=>match aev H E c,aev H E a,aev H E b with
  |some (.b t),some x,some y=>some (bif t then x else y,H)
  |_,_,_=>none
 |.new z=>match avals z with
  |some l=>match grow H id (.cells false 0 l)with
   |some H'=>some (.p id 0,H')
   |none=>none
  |none=>none
 |.box x=>match aev H E x with
  |some v=>match acells v with
   |some l=>match grow H id (.cells false 0 l)with
    |some H'=>some (.p id 0,H')
    |none=>none
   |none=>none
  |none=>none
 |.build z ps xs=>match avals z,aevs H E xs with
  |some z,some vs=>match fillA z ps vs with
   |some l=>some (.g l,H)
   |none=>none
  |_,_=>none
 |.bslice z n ps xs=>match avals z,aevs H E xs with
  |some z,some vs=>match fillA z ps vs with
   |some l=>match grow H id (.cells false 0 l)with
    |some H'=>some (.sl id 0 n n,H')
    |none=>none
   |none=>none
  |_,_=>none
 |.ld1 x=>match aev H E x with
  |some (.p a o)=>match getB H a with
   |some (_,_,l)=>match nth l o with
    |some v=>some (v,H)
    |none=>none
   |none=>none
  |_=>none
 |.ldn n x=>match aev H E x with
  |some (.p a o)=>match getB H a with
   |some (_,_,l)=>match taken (dropped l o) n with
    |some vs=>some (.g vs,H)
    |none=>none
   |none=>none
  |_=>none
 |.st n x v=>match aev H E x,aev H E v with
  |some (.p a o),some v=>match getB H a,acells v with
   |some (false,g,l),some vs=>bif Nat.beq (countA vs) n&&onesA vs then
     match setB H a false g l o vs with
     |some H'=>some (.t [],H')
     |none=>none
    else none
   |_,_=>none
  |_,_=>none
 |.stb x v=>match aev H E x,aev H E v with
  |some (.p a o),some v=>match getB H a,acells v with
   |some (_w,g,l),some vs=>bif Nat.beq (countA vs) 1&&onesA vs then
     match setB H a true g l o vs with
     |some H'=>some (.t [],H')
     |none=>none
    else none
   |_,_=>none
  |_,_=>none
 |.nilck x=>match aev H E x with
  |some (.p a o)=>some (.p a o,H)
  |some (.f f fi c)=>some (.f f fi c,H)
  |some (.y l)=>some (.y l,H)
  |_=>none
 |.ar op x y=>match aev H E x,aev H E y with
  |some (.i k a),some (.i k' b)=>bif keq k k' then some (mkI k (arithF op k a b),H)else none
  |_,_=>none
 |.bit op x y=>match aev H E x,aev H E y with
  |some (.i k a),some (.i k' b)=>bif keq k k' then some (mkI k (bitw op k a b),H)else none
  |_,_=>none
 |.cmp op x y=>match aev H E x,aev H E y with
  |some (.i k a),some (.i k' b)=>bif keq k k' then match acmpI op a b with
    |some t=>some (.b t,H)
    |none=>none
   else none
  |some (.s a),some (.s b)=>match acmpS op a b with
   |some t=>some (.b t,H)
   |none=>none
  |_,_=>none
 |.cmpb neg x y=>match aev H E x,aev H E y with
  |some (.b a),some (.b b)=>some (eqResI neg (beqB a b),H)
  |_,_=>none
 |.cat x y=>match aev H E x,aev H E y with
  |some (.s a),some (.s b)=>bif Nat.blt (countA a+countA b) 9223372036854775808 then some (.s (joined a b),H)else none
  |_,_=>none
 |.eqp neg x y=>match aev H E x,aev H E y with
  |some .np,some .np=>some (.b (!neg),H)
  |some .np,some (.p _ _)=>some (.b neg,H)
  |some (.p _ _),some .np=>some (.b neg,H)
  |some (.p a o),some (.p a' o')=>match getB H a,getB H a' with
   |some (false,_,_::_),some (false,_,_::_)=>some (eqResI neg (Nat.beq a a'&&Nat.beq o o'),H)
   |_,_=>none
  |_,_=>none
 |.eqn kd neg x=>match aev H E x with
  |some v=>match anil kd v with
   |some r=>some (eqResI neg r,H)
   |none=>none
  |none=>none
 |.eqa neg ks x y=>match aev H E x,aev H E y with
  |some (.g a),some (.g b)=>bif afitsAll ks a&&afitsAll ks b then some (eqResI neg (aeqs a b),H)else none
  |_,_=>none
 |.un op x=>match op,aev H E x with
  |.not,some (.b t)=>some (.b (!t),H)
  |.neg,some (.i k a)=>some (mkI k (wrapF k (0-a)),H)
  |.xor,some (.i k a)=>some (mkI k (bitw .xor k (ones k) a),H)
  |_,_=>none
 |.fa off x=>match aev H E x with
  |some (.p a o)=>some (.p a (o+off),H)
  |_=>none
 |.fl1 off x=>match aev H E x with
  |some (.g l)=>match nth l off with
   |some v=>some (v,H)
   |none=>none
  |_=>none
 |.fln off n x=>match aev H E x with
  |some (.g l)=>bif Nat.ble (off+n) (countA l)then match taken (dropped l off) n with
    |some vs=>some (.g vs,H)
    |none=>none
   else none
  |_=>none
 |.ixa len size x i=>match aev H E x,aev H E i with
  |some (.p a o),some (.i _ (.ofNat j))=>bif Nat.blt j len then some (.p a (o+j*size),H)else none
  |_,_=>none
 |.ixs size x i=>match aev H E x,aev H E i with
  |some (.sl a o n _),some (.i _ (.ofNat j))=>bif Nat.blt j n then some (.p a (o+j*size),H)else none
  |some (.su a o n _),some (.i _ (.ofNat j))=>bif Nat.blt j n then some (.p a (o+j*size),H)else none
  |_,_=>none
 |.ixc x i=>match aev H E x,aev H E i with
  |some (.s l),some (.i _ (.ofNat j))=>match nth l j with
   |some c=>some (mkI .u8 (.ofNat c.toNat),H)
   |none=>none
  |_,_=>none
 |.ixv n size x i=>match aev H E x,aev H E i with
  |some (.g l),some (.i _ (.ofNat j))=>bif Nat.blt j n then match nth l (j*size)with
    |some v=>some (v,H)
    |none=>none
   else none
  |_,_=>none
 |.ixw n size x i=>match aev H E x,aev H E i with
  |some (.g l),some (.i _ (.ofNat j))=>bif Nat.blt j n&&Nat.ble (j*size+size) (countA l)then match taken (dropped l (j*size)) size with
    |some vs=>some (.g vs,H)
    |none=>none
   else none
  |_,_=>none
 |.slc size x lo hi=>match aev H E x with
  |some v=>match alen v with
   |some n=>match abnd H E lo 0,abnd H E hi n with
    |some (.ofNat l),some (.ofNat m)=>match acut size v l m with
     |some u=>some (u,H)
     |none=>none
    |_,_=>none
   |none=>none
  |none=>none
 |.slc3 size x lo hi mx=>match aev H E x with
  |some (.sl a o _ c)=>match abnd H E lo 0,abnd H E (some hi) 0,abnd H E (some mx) 0 with
   |some (.ofNat l),some (.ofNat m),some (.ofNat k)=>bif Nat.ble l m&&Nat.ble m k&&Nat.ble k c then some (.sl a (bif Nat.blt l k then o+l*size else o) (m-l) (k-l),H)else none
   |_,_,_=>none
  |some (.su a o n _)=>match abnd H E lo 0,abnd H E (some hi) 0,abnd H E (some mx) 0 with
   |some (.ofNat l),some (.ofNat m),some (.ofNat k)=>bif Nat.ble l m&&Nat.ble m k&&Nat.ble k n then some (.sl a (bif Nat.blt l k then o+l*size else o) (m-l) (k-l),H)else none
   |_,_,_=>none
  |_=>none
 |.slp n size x lo hi=>match aev H E x with
  |some (.p a o)=>match abnd H E lo 0,abnd H E hi n with
   |some (.ofNat l),some (.ofNat m)=>bif Nat.ble l m&&Nat.ble m n then some (.sl a (bif Nat.blt l n then o+l*size else o) (m-l) (n-l),H)else none
   |_,_=>none
  |_=>none
 |.sls x lo hi=>match aev H E x with
  |some (.s s)=>match abnd H E lo 0,abnd H E hi (countA s)with
   |some (.ofNat l),some (.ofNat m)=>bif Nat.ble l m&&Nat.ble m (countA s)then match taken (dropped s l) (m-l)with
     |some r=>some (.s r,H)
     |none=>none
    else none
   |_,_=>none
  |_=>none
 |.len x=>match aev H E x with
  |some v=>match alen v with
   |some n=>some (.i .i64 (.ofNat n),H)
   |none=>none
  |none=>none
 |.lens x=>match aev H E x with
  |some (.s l)=>some (.i .i64 (.ofNat (countA l)),H)
  |_=>none
 |.lenm x=>match aev H E x with
  |some .nm=>some (.i .i64 0,H)
  |some (.m a)=>match H.get a with
   |some (.map es _)=>some (.i .i64 (.ofNat (countA es)),H)
   |_=>none
  |_=>none
 |.capc x=>match aev H E x with
  |some .ns=>some (.i .i64 0,H)
  |some (.sl _ _ _ c)=>some (.i .i64 (.ofNat c),H)
  |_=>none
 |.mks bytes z x y=>match avals z,aev H E x,aev H E y with
  |some z,some (.i .i64 (.ofNat n)),some (.i .i64 (.ofNat c))=>bif Nat.ble n c&&Nat.ble (bytes*c) 281474976710656&&Nat.blt c 9223372036854775808 then
    match grow H id (.cells false 0 (copies c z))with
    |some H'=>some (.sl id 0 n c,H')
    |none=>none
   else none
  |_,_,_=>none
 |.mkm=>match grow H id (.map [] 0)with
  |some H'=>some (.m id,H')
  |none=>none
 |.look kd zero ok m k=>match avalg zero,aev H E m,aev H E k with
  |some z,some .nm,some k=>bif afits kd k then some (bif ok then .t [z,.b false]else z,H)else none
  |some z,some (.m a),some k=>match H.get a with
   |some (.map es _)=>bif afits kd k&&afitsM kd es then
     match afind k es 0 with
     |some (_,v)=>some (bif ok then .t [v,.b true]else v,H)
     |none=>some (bif ok then .t [z,.b false]else z,H)
    else none
   |_=>none
  |_,_,_=>none
 |.mup kd m k v=>match aev H E m,aev H E k,aev H E v with
  |some (.m a),some k,some v=>match H.get a with
   |some (.map es c)=>bif afits kd k&&afitsM kd es then
     match afind k es 0 with
     |some (i,_)=>match T.wput H a (some (.map (asetM v es i) c))with
      |some H'=>some (.t [],H')
      |none=>none
     |none=>match T.wput H a (some (.map (joined es [(k,v,c)]) (c+1)))with
      |some H'=>some (.t [],H')
      |none=>none
    else none
   |_=>none
  |_,_,_=>none
 |.mdel kd m k=>match aev H E m,aev H E k with
  |some .nm,some k=>bif afits kd k then some (.t [],H)else none
  |some (.m a),some k=>match H.get a with
   |some (.map es c)=>bif afits kd k&&afitsM kd es then
     match afind k es 0 with
     |some (i,_)=>match T.wput H a (some (.map (adelM es i) c))with
      |some H'=>some (.t [],H')
      |none=>none
     |none=>match T.wput H a (some (.map es c))with
      |some H'=>some (.t [],H')
      |none=>none
    else none
   |_=>none
  |_,_=>none
 |.clrm x=>match aev H E x with
  |some .nm=>some (.t [],H)
  |some (.m a)=>match H.get a with
   |some (.map _ c)=>match T.wput H a (some (.map [] c))with
    |some H'=>some (.t [],H')
    |none=>none
   |_=>none
  |_=>none
 |.sh k left n x=>match aev H E x with
  |some (.i k' a)=>bif keq k' k then some (mkI k (bif left then wrapF k (a*2 ^ n)else a.fdiv (2 ^ n)),H)else none
  |_=>none
 |.shv k left x y=>match aev H E x,aev H E y with
  |some (.i k' a),some (.i _ (.ofNat n))=>bif keq k' k then some (mkI k (bif left then wrapF k (a*2 ^ (min n k.bits))else a.fdiv (2 ^ (min n k.bits))),H)else none
  |_,_=>none
 |.quo x y=>match aev H E x,aev H E y with
  |some (.i k a),some (.i k' b)=>bif keq k k'&&!ieq b 0 then some (mkI k (wrapF k (a.tdiv b)),H)else none
  |_,_=>none
 |.rem x y=>match aev H E x,aev H E y with
  |some (.i k a),some (.i k' b)=>bif keq k k'&&!ieq b 0 then some (mkI k (a.tmod b),H)else none
  |_,_=>none
 |.cvs x=>match aev H E x with
  |some (.s l)=>some (.s l,H)
  |_=>none
 |.cvt k x=>match aev H E x with
  |some (.i _ a)=>some (mkI k (wrapF k a),H)
  |_=>none
 |.bstr x=>match aev H E x with
  |some v=>match alen v with
   |some n=>match readS H v n 1 with
    |some vs=>match abytes vs with
     |some bs=>some (.s bs,H)
     |none=>none
    |none=>none
   |none=>none
  |none=>none
 |.byts x=>match aev H E x with
  |some (.s l)=>match grow H id (.cells true 1 (abyteCells l))with
   |some H'=>some (.su id 0 (countA l) 0,H')
   |none=>none
  |_=>none
 |.app size bytes z x y=>match aev H E x,aev H E y with
  |some v,some u=>match alen u with
   |some m=>match readS H u m size with
    |some ys=>bif onesA ys&&Nat.beq (countA z) size then appA H id size bytes 0 false v ys m else none
    |none=>none
   |none=>none
  |_,_=>none
 |.appn size bytes z y=>match aev H E y with
  |some u=>match alen u with
   |some m=>match readS H u m size with
    |some ys=>bif onesA ys&&Nat.beq (countA z) size then appA H id size bytes 0 false .ns ys m else none
    |none=>none
   |none=>none
  |none=>none
 |.appz size bytes z x y=>match avals z,aev H E x,aev H E y with
  |some z,some .ns,some (.i .i64 (.ofNat m))=>bif Nat.beq (countA z) size&&Nat.blt size gM&&Nat.blt m 9223372036854775808&&Nat.blt 0 m&&Nat.ble ((m*2+768)*bytes) 281474976710656 then
    match grow H id (.cells false size (copies m z))with
    |some H'=>some (.su id 0 m 0,H')
    |none=>none
   else none
  |some z,some (.sl a o n c),some (.i .i64 (.ofNat m))=>bif Nat.beq (countA z) size&&Nat.blt size gM&&Nat.blt m 9223372036854775808&&Nat.blt c (n+m)&&Nat.ble (((n+m)*2+768)*bytes) 281474976710656 then
    match getB H a with
    |some (_,_,l)=>match taken (dropped l o) (n*size)with
     |some xs=>match grow H id (.cells false size (joined xs (copies m z)))with
      |some H'=>some (.su id 0 (n+m) 0,H')
      |none=>none
     |none=>none
    |none=>none
   else none
  |_,_,_=>none
 |.appb e x y=>match aev H E x,aev H E y with
  |some v,some u=>match alenB u with
   |some m=>match readB H u m with
    |some ys=>bif onesA ys then appA H id 1 1 e true v ys m else none
    |none=>none
   |none=>none
  |_,_=>none
 |.cpy size x y=>match aev H E x,aev H E y with
  |some v,some u=>match alen v,alen u with
   |some n,some m=>match readS H u (min m n) size with
    |some ys=>bif Nat.beq (countA ys) 0 then some (.i .i64 (.ofNat (min m n)),H)else
     match v with
     |.sl a o _ _|.su a o _ _=>match getB H a with
      |some (false,g,l)=>bif onesA ys then match setB H a false g l o ys with
        |some H'=>some (.i .i64 (.ofNat (min m n)),H')
        |none=>none
       else none
      |_=>none
     |_=>none
    |none=>none
   |_,_=>none
  |_,_=>none
 |.cpyb x y=>match aev H E x,aev H E y with
  |some v,some u=>match alen v,alenB u with
   |some n,some m=>match readB H u (min m n)with
    |some ys=>bif Nat.beq (countA ys) 0 then some (.i .i64 (.ofNat (min m n)),H)else
     match v with
     |.sl a o _ _|.su a o _ _=>match getB H a with
      |some (_w,g,l)=>bif onesA ys then match setB H a true g l o ys with
        |some H'=>some (.i .i64 (.ofNat (min m n)),H')
        |none=>none
       else none
      |_=>none
     |_=>none
    |none=>none
   |_,_=>none
  |_,_=>none
 |.clr z x=>match avals z,aev H E x with
  |some z,some v=>match alen v with
   |some n=>bif Nat.beq (countA (copies n z)) 0 then some (.t [],H)else
    match v with
    |.sl a o _ _|.su a o _ _=>match getB H a with
     |some (false,g,l)=>bif onesA (copies n z)then match setB H a false g l o (copies n z)with
       |some H'=>some (.t [],H')
       |none=>none
      else none
     |_=>none
    |_=>none
   |none=>none
  |_,_=>none
 |.ext x i=>match aev H E x with
  |some (.t l)=>match nth l i with
   |some v=>some (v,H)
   |none=>none
  |_=>none
 |.fn f a c=>match aevs H E a,aevs H E c with
  |some x,some y=>some (.f f x y,H)
  |_,_=>none
 |.mn x y=>match aev H E x,aev H E y with
  |some (.i k a),some (.i k' b)=>bif keq k k' then some (.i k (bif ilt b a then b else a),H)else none
  |_,_=>none
 |.mx x y=>match aev H E x,aev H E y with
  |some (.i k a),some (.i k' b)=>bif keq k k' then some (.i k (bif ilt a b then b else a),H)else none
  |_,_=>none
 |.mki t x=>match aev H E x with
  |some v=>some (.e t v,H)
  |none=>none
 |.tas t zero ok x=>match avalg zero,aev H E x with
  |some z,some .ni=>bif ok then some (.t [z,.b false],H)else none
  |some z,some (.e u v)=>bif Nat.beq u t then some (bif ok then .t [v,.b true]else v,H)else bif ok then some (.t [z,.b false],H)else none
  |none,some (.e u v)=>bif Nat.beq u t&&!ok then some (v,H)else none
  |_,_=>none
 |.eqi neg x y=>match aev H E x,aev H E y with
  |some .ni,some (.e _ _)=>some (.b neg,H)
  |some (.e _ _),some .ni=>some (.b neg,H)
  |some (.e t v),some (.e u w)=>bif Nat.beq t u then match kdE P t with
    |some kd=>bif afits kd v&&afits kd w then some (eqResI neg (aeq v w),H)else none
    |none=>none
   else some (.b neg,H)
  |_,_=>none
 |.cvm x=>match aev H E x with
  |some (.sl a o n c)=>match getB H a with
   |some (_,g,l)=>match T.wput H a (some (.cells true g l))with
    |some H'=>some (.sl a o n c,H')
    |none=>none
   |none=>none
  |some (.su a o n k)=>match getB H a with
   |some (_,g,l)=>match T.wput H a (some (.cells true g l))with
    |some H'=>some (.su a o n k,H')
    |none=>none
   |none=>none
  |_=>none
 |.newT t z=>match avals z with
  |some l=>match grow H id (.cells false (gM*t) l)with
   |some H'=>some (.p id 0,H')
   |none=>none
  |none=>none
 |.p2u x=>match aev H E x with
  |some (.p a o)=>match getB H a with
   |some (_,_,l)=>bif Nat.blt o (countA l)then some (.p a o,H)else none
   |none=>none
  |_=>none
 |.u2p t n x=>match aev H E x with
  |some (.p a 0)=>match getB H a with
   |some (_,g,l)=>bif Nat.beq g (gM*t)&&Nat.blt 0 t&&Nat.beq (countA l) n then some (.p a 0,H)else none
   |none=>none
  |_=>none
 |.sld x=>match aev H E x with
  |some .ns=>some (.np,H)
  |some (.sl a o _ c)=>bif Nat.blt 0 c then some (.p a o,H)else none
  |some (.su a o n _)=>bif Nat.blt 0 n then some (.p a o,H)else none
  |_=>none
 |.ust e x n=>match aev H E x,aev H E n with
  |some .np,some (.i .i64 (.ofNat 0))=>some (.s [],H)
  |some (.p a o),some (.i .i64 (.ofNat m))=>bif Nat.beq m 0 then some (.s [],H)else
   match getB H a with
   |some (_,g,l)=>bif Nat.beq o 0&&Nat.beq (g/gM) e&&Nat.blt 0 e&&Nat.blt m 9223372036854775808 then
     match taken l m with
     |some vs=>match abytes vs with
      |some bs=>match T.wput H a (some .dead)with
       |some H'=>some (.s bs,H')
       |none=>none
      |none=>none
     |none=>none
    else none
   |none=>none
  |_,_=>none
 |.rng x=>match aev H E x with
  |some .nm=>match grow H id (.iter none 0 [] 0)with
   |some H'=>some (.p id 0,H')
   |none=>none
  |some (.m a)=>match H.get a with
   |some (.map _ c)=>match grow H id (.iter (some a) c [] c)with
    |some H'=>some (.p id 0,H')
    |none=>none
   |_=>none
  |_=>none
 |.nxt x=>match aev H E x with
  |some (.p r 0)=>match H.get r with
   |some (.iter none _ _ _)=>some (.t [.b false],H)
   |some (.iter (some a) since seen last)=>match H.get a with
    |some (.map es c)=>match aleft since seen es with
     |some []=>bif Nat.ble since last then some (.t [.b false],H)else none
     |some [e]=>bif Nat.ble since last then match T.wput H r (some (.iter (some a) since (joined seen [e.2.2]) c))with
       |some H'=>some (.t [.b true,e.1,e.2.1],H')
       |none=>none
      else none
     |_=>none
    |_=>none
   |_=>none
  |_=>none
 |.rngs x=>match aev H E x with
  |some (.s l)=>match grow H id (.siter l 0)with
   |some H'=>some (.p id 0,H')
   |none=>none
  |_=>none
 |.nxts x=>match aev H E x with
  |some (.p r 0)=>match H.get r with
   |some (.siter l pos)=>match nth l pos with
    |some c=>bif Nat.blt c.toNat 128 then match T.wput H r (some (.siter l (pos+1)))with
      |some H'=>some (.t [.b true,mkI .i64 (.ofNat pos),mkI .i32 (.ofNat c.toNat)],H')
      |none=>none
     else none
    |none=>bif Nat.ble (countA l) pos then some (.t [.b false],H)else none
   |_=>none
  |_=>none
 |.ent x=>match aev H E x with
  |some (.p r 0)=>match H.get r with
   |some (.iter (some a) _ [b] last)=>match H.get a with
    |some (.map es c)=>bif Nat.beq c last then match abyBorn b es with
      |some e=>some (.t [e.1,e.2.1],H)
      |none=>none
     else none
    |_=>none
   |_=>none
  |_=>none
 |_=>none
structure AS where
 H:AH
 N:Nat
inductive AX where
 |nrm
 |ex (id:Nat)
 |ret
 |gt (l:Nat)
 |pan (ch:List (AV×Bool))
inductive AD where
 |mk (a:Nat)
 |fn (f:Nat) (cap args:List AV)
inductive AMode where
 |returning
 |panicking (ch:List (AV×Bool))
inductive AEnd where
 |ret (v:AV)
 |pan (ch:List (AV×Bool))
abbrev AOut:=AX×AE×List AD×AS
inductive Ent where
 |code (nt:Nat) (sc:SCode) (rs:List SRes)
 |prim (g:List AV→AS→Option (AV×AS))
 |ext (g:List AV→AS→Option (AV×AS))
inductive Tbl where
 |nil
 |node (l:Tbl) (k:Nat) (e:Ent) (r:Tbl)
def Tbl.find:Tbl→Nat→Option Ent
 |.nil,_=>none
 |.node l k e r,f=>bif Nat.beq f k then some e else bif Nat.blt f k then l.find f else r.find f
abbrev AY:=List (Nat×AE×List Nat×SCode×SCode)
def yfind:AY→Nat→Option (AE×List Nat×SCode×SCode)
 |[],_=>none
 |(l,x)::Y,k=>bif Nat.beq k l then some x else yfind Y k
abbrev Rec:=AY→SCode→AE→List AD→AS→Option AOut
def aupdL (E:AE):List Nat→List AV→Option AE
 |[],[]=>some E
 |p::ps,v::vs=>match E.put p (some v)with
  |some E'=>aupdL E' ps vs
  |none=>none
 |_,_=>none
def argsA:Nat→List AV→Option AE
 |_,[]=>some .e
 |n,v::vs=>match argsA (n+1) vs with
  |some E=>E.put n (some v)
  |none=>none
def delA (E:AE):List Nat→Option AE
 |[]=>some E
 |d::l=>match E.put d none with
  |some E'=>delA E' l
  |none=>none
def ares (E:AE) (H:AH):List SRes→Option (List AV)
 |[]=>some []
 |.t n::r=>match E.get n,ares E H r with
  |some v,some vs=>some (v::vs)
  |_,_=>none
 |.c1 a::r=>match E.get a with
  |some (.p x o)=>match getB H x with
   |some (_,_,l)=>match nth l o,ares E H r with
    |some v,some vs=>some (v::vs)
    |_,_=>none
   |none=>none
  |_=>none
 |.cn a n::r=>match E.get a with
  |some (.p x o)=>match getB H x with
   |some (_,_,l)=>match taken (dropped l o) n,ares E H r with
    |some v,some vs=>some (.g v::vs)
    |_,_=>none
   |none=>none
  |_=>none
def retA:List AV→AV
 |[v]=>v
 |vs=>.t vs
def recVA:AMode→AV
 |.panicking ((v,false)::_)=>v
 |_=>.ni
def recMA:AMode→AMode
 |.panicking ((v,false)::ch)=>.panicking ((v,true)::ch)
 |u=>u
def settleA:AMode→AMode
 |.panicking ((_,true)::_)=>.returning
 |u=>u
def raisedA:AMode→List (AV×Bool)→AMode
 |.panicking old,ch=>.panicking (joined ch old)
 |.returning,ch=>.panicking ch
section
variable (P:Program) (tb:Tbl) (rc:Rec)
def arcv (Y:AY):SCode→AMode→AE→List AD→AS→Option (AX×AE×List AD×AS×AMode)
 |.rcv d,u,E,D,S=>match aupd E d (recVA u)with
  |some E'=>some (.nrm,E',D,S,recMA u)
  |none=>none
 |.seq a b,u,E,D,S=>match arcv Y a u E D S with
  |some (.nrm,E',D',S',u')=>arcv Y b u' E' D' S'
  |r=>r
 |c,u,E,D,S=>match rc Y c E D S with
  |some (x,E',D',S')=>some (x,E',D',S',u)
  |none=>none
def aleave (Y:AY) (rs:List SRes) (E:AE):List AD→AMode→AS→Option (AEnd×AS)
 |[],.returning,S=>match ares E S.H rs with
  |some vs=>some (.ret (retA vs),S)
  |none=>none
 |[],.panicking ch,S=>some (.pan ch,S)
 |.mk a::D,u,S=>match S.H.get a with
  |some (.dfd true)=>match T.wput S.H a (some (.dfd false))with
   |some H'=>aleave Y rs E D u ⟨H',S.N⟩
   |none=>none
  |_=>none
 |.fn f cap args::D,u,S=>match tb.find f with
  |some (.code nt sc rs')=>bif Nat.ble (countA (joined args cap)) nt then
    match argsA 0 (joined args cap)with
    |some E'=>match arcv rc Y sc u E' [] S with
     |some (.nrm,E2,[],S2,u')=>match ares E2 S2.H rs' with
      |some _=>aleave Y rs E D (settleA u') S2
      |none=>none
     |some (.ret,E2,[],S2,u')=>match ares E2 S2.H rs' with
      |some _=>aleave Y rs E D (settleA u') S2
      |none=>none
     |some (.pan ch,_,[],S2,u')=>aleave Y rs E D (raisedA u' ch) S2
     |_=>none
    |none=>none
   else none
  |_=>none
def acall (Y:AY) (f:Nat) (args:List AV) (S:AS):Option (AEnd×AS):=
 match tb.find f with
 |some (.code nt sc rs)=>bif Nat.ble (countA args) nt then
   match argsA 0 args with
   |some E=>match rc Y sc E [] S with
    |some (.nrm,E',D,S')=>aleave tb rc Y rs E' D .returning S'
    |some (.ret,E',D,S')=>aleave tb rc Y rs E' D .returning S'
    |some (.pan ch,E',D,S')=>aleave tb rc Y rs E' D (.panicking ch) S'
    |_=>none
   |none=>none
  else none
 |some (.prim g)=>match g args S with
  |some (v,S')=>some (.ret v,S')
  |none=>none
 |some (.ext _)=>none
 |none=>none
def setL (S:AS) (l:Nat) (st:LoopState) (p:APend):Option AS:=
 match T.wput S.H l (some (.loop st p))with
 |some H'=>some ⟨H',S.N⟩
 |none=>none
def isLoop (S:AS) (l:Nat) (st:LoopState):Bool:=
 match S.H.get l with
 |some (.loop st' none)=>steq st st'
 |_=>false
def ayield (Y:AY) (l:Nat) (args:List AV) (S:AS):Option (AEnd×AS):=
 match yfind Y l with
 |some (E,ps,a,b)=>bif isLoop S l .ready&&Nat.beq (countA args) (countA ps)then
   match aupdL E ps args with
   |some E0=>match rc Y a E0 [] S with
    |some (.nrm,E1,D1,S1)=>bif isLoop S1 l .ready then
      match setL S1 l .busy none with
      |some S2=>match rc Y b E1 D1 S2 with
       |some (.nrm,_,_,S3)=>bif isLoop S3 l .busy then match setL S3 l .ready none with
         |some S4=>some (.ret (.b true),S4)
         |none=>none
        else none
       |some (.ret,_,_,S3)=>bif isLoop S3 l .busy then match setL S3 l .done (some none)with
         |some S4=>some (.ret (.b false),S4)
         |none=>none
        else none
       |some (.ex id,_,_,S3)=>bif isLoop S3 l .busy then match setL S3 l .done (some (some id))with
         |some S4=>some (.ret (.b false),S4)
         |none=>none
        else none
       |_=>none
      |none=>none
     else none
    |_=>none
   |none=>none
  else none
 |none=>none
inductive OR where
 |ok (E:AE) (S:AS)
 |pan (ch:List (AV×Bool)) (S:AS)
def anew:SOp→Bool
 |.new _|.newT .. |.box _|.bslice .. |.mks .. |.mkm|.byts _|.app .. |.appn .. |.appb .. |.appz .. |.rng _|.rngs _=>true
 |_=>false
def putR (d:Option Nat) (E:AE):Option (AEnd×AS)→Option OR
 |some (.ret v,S)=>match aupd E d v with
  |some E'=>some (.ok E' S)
  |none=>none
 |some (.pan ch,S)=>some (.pan ch S)
 |none=>none
def arun (Y:AY) (E:AE) (S:AS) (id N':Nat) (d:Option Nat) (op:SOp):Option OR:=
 match op with
 |.call f xs=>match aevs S.H E xs with
  |some vs=>putR d E (acall tb rc Y f vs S)
  |none=>none
 |.callv x xs=>match aev S.H E x,aevs S.H E xs with
  |some (.f f fi cap),some vs=>putR d E (acall tb rc Y f (joined fi (joined vs cap)) S)
  |some (.y l),some vs=>putR d E (ayield rc Y l vs S)
  |_,_=>none
 |.callx f xs=>match aevs S.H E xs with
  |some vs=>match tb.find f with
   |some (.ext g)=>match g vs S with
    |some (v,S')=>putR d E (some (.ret v,S'))
    |none=>none
   |_=>none
  |none=>none
 |.pan x=>match aev S.H E x with
  |some (.e t v)=>some (.pan [(.e t v,false)] S)
  |_=>none
 |op=>match aop P E S.H id op with
  |some (v,H')=>match aupd E d v with
   |some E'=>some (.ok E' ⟨H',N'⟩)
   |none=>none
  |none=>none
def aopr (Y:AY) (E:AE) (S:AS) (id N':Nat) (o:SOper):Option OR:=
 match o.guard with
 |none=>arun P tb rc Y E S id N' o.dst o.op
 |some (g,want)=>match E.get g with
  |some (.b t)=>bif beqB t want then arun P tb rc Y E S id N' o.dst o.op else
   match aupd E o.dst (.t [])with
   |some E'=>some (.ok E' S)
   |none=>none
  |some (.t _)=>match aupd E o.dst (.t [])with
   |some E'=>some (.ok E' S)
   |none=>none
  |_=>none
def aops (Y:AY):List SOper→AE→AS→Option OR
 |[],E,S=>some (.ok E S)
 |o::l,E,S=>match aopr P tb rc Y E S S.N (bif anew o.op then S.N+1 else S.N) o with
  |some (.ok E' S')=>aops Y l E' S'
  |r=>r
def achk (E:AE) (H:AH) (o:SOper):Bool:=
 match o.guard,o.dst with
 |none,some d=>match aop P E H 0 o.op,E.get d with
  |some (v,_),some u=>aeq v u
  |_,_=>false
 |some (g,want),some d=>match E.get g with
  |some (.b t)=>bif beqB t want then match aop P E H 0 o.op,E.get d with
    |some (v,_),some u=>aeq v u
    |_,_=>false
   else match E.get d with
    |some u=>aeq (.t []) u
    |none=>false
  |some (.t _)=>match E.get d with
   |some u=>aeq (.t []) u
   |none=>false
  |_=>false
 |_,none=>false
def achks (E:AE) (H:AH):List SOper→Bool
 |[]=>true
 |o::l=>Nat.ble (cls o.op) 1&&achk P E H o&&achks E H l
def beqS (S S':AS):Bool:=Nat.beq S.N S'.N&&beqT beqAB S.H S'.H
def atree (Y:AY) (base:Nat):OTree→AE→AS→Option OR
 |.done,E,S=>some (.ok E S)
 |.one o t,E,S=>match aopr P tb rc Y E S (base+o.dst.getD 0) S.N o with
  |some (.ok E' S')=>atree Y base t E' S'
  |r=>r
 |.both a b,E,S=>match atree Y base a E S,atree Y base b E S with
  |some (.ok E1 S1),some (.ok E2 S2)=>bif beqT aeq E1 E2&&beqS S1 S2 then some (.ok E1 S1)else none
  |_,_=>none
 |.chk l t,E,S=>bif achks P E S.H l then atree Y base t E S else none
def aeqD:List AD→List AD→Bool
 |[],[]=>true
 |.mk a::D,.mk a'::D'=>Nat.beq a a'&&aeqD D D'
 |.fn f c x::D,.fn f' c' x'::D'=>Nat.beq f f'&&aeqs c c'&&aeqs x x'&&aeqD D D'
 |_,_=>false
inductive LR where
 |more (E:AE) (S:AS)
 |out (o:AOut)
 |fail
def aloop (Y:AY) (c:SCode) (D:List AD):Nat→AE→AS→LR
 |0,E,S=>match rc Y c E D S with
  |some (.nrm,E',D',S')=>bif aeqD D' D then .more E' S' else .fail
  |some o=>.out o
  |none=>.fail
 |k+1,E,S=>match aloop Y c D k E S with
  |.more E' S'=>aloop Y c D k E' S'
  |r=>r
def maxL:List Nat→Nat
 |[]=>0
 |x::l=>bif Nat.blt (maxL l) x then x else maxL l
def astep (Y:AY):SCode→AE→List AD→AS→Option AOut
 |.skip,E,D,S=>some (.nrm,E,D,S)
 |.label _,E,D,S=>some (.nrm,E,D,S)
 |.ops l,E,D,S=>match aops P tb rc Y l E S with
  |some (.ok E' S')=>some (.nrm,E',D,S')
  |some (.pan ch S')=>match delA E (dstsOf l)with
   |some E'=>some (.pan ch,E',D,S')
   |none=>none
  |none=>none
 |.tree l t,E,D,S=>match atree P tb rc Y S.N t E ⟨S.H,S.N+maxL l+1⟩with
  |some (.ok E' S')=>some (.nrm,E',D,S')
  |some (.pan ch S')=>match delA E l with
   |some E'=>some (.pan ch,E',D,S')
   |none=>none
  |none=>none
 |.two ..,_,_,_=>none
 |.rcv _,_,_,_=>none
 |.seq a b,E,D,S=>match rc Y a E D S with
  |some (.nrm,E',D',S')=>rc Y b E' D' S'
  |r=>r
 |.cond c a b,E,D,S=>match aev S.H E c with
  |some (.b t)=>bif t then rc Y a E D S else rc Y b E D S
  |_=>none
 |.block id c,E,D,S=>match rc Y c E D S with
  |some (.ex id',E',D',S')=>bif Nat.beq id' id then some (.nrm,E',D',S')else some (.ex id',E',D',S')
  |r=>r
 |.loop c,E,D,S=>match aloop rc Y c D 17 E S with
  |.out o=>some o
  |_=>none
 |.scope c,E,D,S=>match rc Y c E D S with
  |some (.gt _,_,_,_)=>none
  |r=>r
 |.exit id,E,D,S=>some (.ex id,E,D,S)
 |.ret,E,D,S=>some (.ret,E,D,S)
 |.goto l,E,D,S=>some (.gt l,E,D,S)
 |.scopeG c l r,E,D,S=>match rc Y c E D S with
  |some (.gt l',E',D',S')=>bif Nat.beq l' l then match rc Y r E' D' S' with
    |some (.gt _,_,_,_)=>none
    |r=>r
   else none
  |r=>r
 |.dfr l d x args,E,D,S=>match aops P tb rc Y l E S with
  |some (.ok E' S')=>match aev S'.H E' x,aevs S'.H E' args with
   |some (.f f fi cap),some vs=>match aupd E' d (.t [])with
    |some E2=>some (.nrm,E2,.fn f cap (joined fi vs)::D,S')
    |none=>none
   |_,_=>none
  |some (.pan ch S')=>match delA E (dstsOf l)with
   |some E'=>some (.pan ch,E',D,S')
   |none=>none
  |none=>none
 |.rangeF g ps a b,E,D,S=>match aev S.H E g with
  |some (.f f fi cap)=>match grow S.H S.N (.dfd true)with
   |some H1=>match grow H1 (S.N+1) (.loop .ready none)with
    |some H2=>match acall tb rc ((S.N+1,E,ps,a,b)::Y) f (joined fi (joined [.y (S.N+1)] cap)) ⟨H2,S.N+2⟩with
     |some (.ret _,S3)=>match S3.H.get (S.N+1)with
      |some (.loop st p)=>bif steq st .busy then none else
       match setL S3 (S.N+1) .exhausted p with
       |some S4=>match p with
        |none=>some (.nrm,E,.mk S.N::D,S4)
        |some none=>some (.ret,E,.mk S.N::D,S4)
        |some (some id)=>some (.ex id,E,.mk S.N::D,S4)
       |none=>none
      |_=>none
     |_=>none
    |none=>none
   |none=>none
  |_=>none
end
def arec (P:Program) (tb:Tbl) (n:Nat):Rec:=Nat.rec (fun _ _ _ _ _=>none) (fun _ ih=>fun Y c E D S=>astep P tb ih Y c E D S) n
end Go.Sx
namespace Go.Sx
open Go
theorem T.get_e {α:Type} (k:Nat):(T.e:T α).get k=none:=rfl
theorem T.get_n {α:Type} (l r:T α) (v:Option α) (k:Nat):(T.n l v r).get k=if k=0 then v else if k%2=1 then l.get ((k-1)/2)else r.get ((k-1)/2):=by
 simp only[T.get,cond_eq_ite,Nat.beq_eq]
theorem T.get_set {α:Type}:∀(f:Nat) (t:T α) (k j:Nat) (v:Option α),k<2 ^ f→(T.set f t k v).get j=if j=k then v else t.get j
 |0,.e,k,j,v,hk=>by
  have:k=0:=by simpa using hk
  subst this
  simp only[T.set,T.get_n,T.get_e]
  split<;>simp
 |0,.n l u r,k,j,v,hk=>by
  have:k=0:=by simpa using hk
  subst this
  simp only[T.set,T.get_n]
  split<;>simp
 |f+1,t,k,j,v,hk=>by
  have hk':(k-1)/2<2 ^ f:=by
   have:2 ^ (f+1)=2*2 ^ f:=by rw[Nat.pow_succ];omega
   omega
  cases t with
  |e=>
   simp only[T.set,cond_eq_ite,Nat.beq_eq]
   split
   ·rename_i h0;subst h0
    simp only[T.get_n,T.get_e]
    split<;>simp
   ·split
    ·simp only[T.get_n,T.get_e]
     by_cases hj:j=0
     ·subst hj;rw[if_pos rfl,if_neg (by omega)]
     ·rw[if_neg hj]
      by_cases hp:j%2=1
      ·rw[if_pos hp,T.get_set f .e _ _ v hk',T.get_e]
       have:(j-1)/2=(k-1)/2↔j=k:=by omega
       simp only[this]
      ·rw[if_neg hp,if_neg (by omega)]
    ·simp only[T.get_n,T.get_e]
     by_cases hj:j=0
     ·subst hj;rw[if_pos rfl,if_neg (by omega)]
     ·rw[if_neg hj]
      by_cases hp:j%2=1
      ·rw[if_pos hp,if_neg (by omega)]
      ·rw[if_neg hp,T.get_set f .e _ _ v hk',T.get_e]
       have:(j-1)/2=(k-1)/2↔j=k:=by omega
       simp only[this]
  |n l u r=>
   simp only[T.set,cond_eq_ite,Nat.beq_eq]
   split
   ·rename_i h0;subst h0
    simp only[T.get_n]
    split<;>simp
   ·split
    ·simp only[T.get_n]
     by_cases hj:j=0
     ·subst hj;rw[if_pos rfl,if_neg (by omega)];simp
     ·rw[if_neg hj,if_neg hj]
      by_cases hp:j%2=1
      ·rw[if_pos hp,if_pos hp,T.get_set f l _ _ v hk']
       have:(j-1)/2=(k-1)/2↔j=k:=by omega
       simp only[this]
      ·rw[if_neg hp,if_neg hp,if_neg (by omega)]
    ·simp only[T.get_n]
     by_cases hj:j=0
     ·subst hj;rw[if_pos rfl,if_neg (by omega)];simp
     ·rw[if_neg hj,if_neg hj]
      by_cases hp:j%2=1
      ·rw[if_pos hp,if_pos hp,if_neg (by omega)]
      ·rw[if_neg hp,if_neg hp,T.get_set f r _ _ v hk']
       have:(j-1)/2=(k-1)/2↔j=k:=by omega
       simp only[this]
theorem T.put_get {α:Type} {t t':T α} {k:Nat} {v:Option α} (h:t.put k v=some t') (j:Nat):t'.get j=if j=k then v else t.get j:=by
 unfold T.put at h
 cases hb:Nat.blt k big with
 |false=>rw[hb]at h;simp at h
 |true=>
  rw[hb]at h
  simp at h
  subst h
  have hlt:k<2 ^ 40:=by
   have:=Nat.le_of_ble_eq_true hb
   unfold big at this
   omega
  exact T.get_set 40 t k j v hlt
theorem ieq_iff:∀a b:Int,ieq a b=true↔a=b
 |.ofNat a,.ofNat b=>by simp only[ieq,Nat.beq_eq,Int.ofNat.injEq]
 |.negSucc a,.negSucc b=>by simp only[ieq,Nat.beq_eq,Int.negSucc.injEq]
 |.ofNat a,.negSucc b=>by simp[ieq]
 |.negSucc a,.ofNat b=>by simp[ieq]
theorem ilt_iff:∀a b:Int,ilt a b=true↔a<b
 |.ofNat a,.ofNat b=>by simp only[ilt,Nat.blt_eq];exact⟨fun h=>Int.ofNat_lt.2 h,fun h=>Int.ofNat_lt.1 h⟩
 |.negSucc a,.negSucc b=>by simp only[ilt,Nat.blt_eq];constructor<;>intro h<;>omega
 |.ofNat a,.negSucc b=>by simp only[ilt];constructor<;>intro h<;>first|cases h|(have:=Int.negSucc_lt_zero b;have:=Int.natCast_nonneg a;exact absurd h (by simp only[Int.ofNat_eq_natCast];omega))
 |.negSucc a,.ofNat b=>by simp only[ilt,true_iff];have:=Int.negSucc_lt_zero a;simp only[Int.ofNat_eq_natCast];omega
theorem keq_eq {a b:IntKind} (h:keq a b=true):a=b:=by cases a<;>cases b<;>first|rfl|simp[keq]at h
theorem beqB_eq {a b:Bool}:beqB a b=true↔a=b:=by cases a<;>cases b<;>simp[beqB]
theorem ueq_iff (a b:UInt8):ueq a b=true↔a=b:=by
 unfold ueq
 rw[Nat.beq_eq]
 exact⟨fun h=>UInt8.toNat_inj.1 h,fun h=>by rw[h]⟩
theorem seq8_iff:∀a b:List UInt8,seq8 a b=true↔a=b
 |[],[]=>by simp[seq8]
 |[],b::m=>by simp[seq8]
 |a::l,[]=>by simp[seq8]
 |a::l,b::m=>by
  have h1:=ueq_iff a b
  have h2:=seq8_iff l m
  simp only[seq8,List.cons.injEq]
  cases hu:ueq a b with
  |true=>rw[hu]at h1;simp at h1;simp[h1,h2]
  |false=>rw[hu]at h1;simp at h1;simp[h1]
theorem slt8_eq:∀a b:List UInt8,slt8 a b=Op.bytesLess a b
 |a,[]=>by cases a<;>rfl
 |[],b::m=>rfl
 |a::l,b::m=>by
  have ih:=slt8_eq l m
  have h1:=ueq_iff a b
  simp only[slt8,Op.bytesLess,ih]
  have hlt:Nat.blt a.toNat b.toNat=decide (a<b):=by
   rw[Bool.eq_iff_iff,Nat.blt_eq]
   simp[UInt8.lt_iff_toNat_lt]
  rw[hlt]
  cases hd:decide (a<b)with
  |true=>rfl
  |false=>
   cases hu:ueq a b with
   |true=>rw[hu]at h1;simp at h1;subst h1;simp
   |false=>rw[hu]at h1;simp at h1;simp[h1]
mutual
theorem aeq_eq:∀(a b:AV),aeq a b=true→a=b
 |.i k n,b,h=>by
  cases b<;>simp[aeq]at h
  rw[keq_eq h.1,(ieq_iff _ _).1 h.2]
 |.b t,b,h=>by
  cases b<;>simp[aeq]at h
  rw[beqB_eq.1 h]
 |.s l,b,h=>by
  cases b<;>simp[aeq]at h
  rw[(seq8_iff _ _).1 h]
 |.p a o,b,h=>by
  cases b<;>simp[aeq]at h
  obtain⟨rfl,rfl⟩:=h;rfl
 |.np,b,h=>by cases b<;>simp[aeq]at h;rfl
 |.sl a o n c,b,h=>by
  cases b<;>simp[aeq]at h
  obtain⟨⟨⟨rfl,rfl⟩,rfl⟩,rfl⟩:=h;rfl
 |.su a o n c,b,h=>by
  cases b<;>simp[aeq]at h
  obtain⟨⟨⟨rfl,rfl⟩,rfl⟩,rfl⟩:=h;rfl
 |.ns,b,h=>by cases b<;>simp[aeq]at h;rfl
 |.m a,b,h=>by
  cases b<;>simp[aeq]at h
  rw[h]
 |.nm,b,h=>by cases b<;>simp[aeq]at h;rfl
 |.f f x y,b,h=>by
  cases b<;>simp[aeq]at h
  rename_i f' x' y'
  rw[h.1.1,aeqs_eq x x' h.1.2,aeqs_eq y y' h.2]
 |.nf,b,h=>by cases b<;>simp[aeq]at h;rfl
 |.y l,b,h=>by
  cases b<;>simp[aeq]at h
  rw[h]
 |.ni,b,h=>by cases b<;>simp[aeq]at h;rfl
 |.e t v,b,h=>by
  cases b<;>simp[aeq]at h
  rename_i t' v'
  rw[h.1,aeq_eq v v' h.2]
 |.g l,b,h=>by
  cases b<;>simp[aeq]at h
  rename_i l'
  rw[aeqs_eq l l' h]
 |.t l,b,h=>by
  cases b<;>simp[aeq]at h
  rename_i l'
  rw[aeqs_eq l l' h]
 |.q j,b,h=>by
  cases b<;>simp[aeq]at h
  rw[h]
theorem aeqs_eq:∀(a b:List AV),aeqs a b=true→a=b
 |[],[],_=>rfl
 |[],_::_,h=>by simp[aeqs]at h
 |_::_,[],h=>by simp[aeqs]at h
 |x::l,y::m,h=>by
  simp[aeqs]at h
  rw[aeq_eq x y h.1,aeqs_eq l m h.2]
end
theorem neqs_eq:∀(a b:List Nat),neqs a b=true→a=b
 |[],[],_=>rfl
 |[],_::_,h=>by simp[neqs]at h
 |_::_,[],h=>by simp[neqs]at h
 |x::l,y::m,h=>by
  simp[neqs]at h
  rw[h.1,neqs_eq l m h.2]
theorem oeq_eq:∀(a b:Option Nat),oeq a b=true→a=b
 |none,none,_=>rfl
 |none,some _,h=>by simp[oeq]at h
 |some _,none,h=>by simp[oeq]at h
 |some a,some b,h=>by simp[oeq]at h;rw[h]
theorem aeqp_eq:∀(a b:APend),aeqp a b=true→a=b
 |none,none,_=>rfl
 |some none,some none,_=>rfl
 |some (some a),some (some b),h=>by simp[aeqp]at h;rw[h]
 |none,some _,h=>by simp[aeqp]at h
 |some _,none,h=>by simp[aeqp]at h
 |some none,some (some _),h=>by simp[aeqp]at h
 |some (some _),some none,h=>by simp[aeqp]at h
theorem steq_eq {a b:LoopState} (h:steq a b=true):a=b:=by cases a<;>cases b<;>first|rfl|simp[steq]at h
theorem aeqm_eq:∀(a b:List (AV×AV×Nat)),aeqm a b=true→a=b
 |[],[],_=>rfl
 |[],_::_,h=>by simp[aeqm]at h
 |_::_,[],h=>by simp[aeqm]at h
 |(k,v,b)::l,(k',v',b')::m,h=>by
  simp[aeqm]at h
  obtain⟨⟨⟨h1,h2⟩,h3⟩,h4⟩:=h
  rw[aeq_eq _ _ h1,aeq_eq _ _ h2,h3,aeqm_eq l m h4]
theorem beqAB_eq {a b:AB} (h:beqAB a b=true):a=b:=by
 cases a<;>cases b<;>simp[beqAB]at h<;>try rfl
 ·obtain⟨⟨h1,h2⟩,h3⟩:=h;rw[beqB_eq.1 h1,h2,aeqs_eq _ _ h3]
 ·rw[aeqm_eq _ _ h.1,h.2]
 ·obtain⟨⟨⟨h1,h2⟩,h3⟩,h4⟩:=h;rw[oeq_eq _ _ h1,h2,neqs_eq _ _ h3,h4]
 ·rw[beqB_eq.1 h]
 ·rw[(seq8_iff _ _).1 h.1,h.2]
 ·rw[steq_eq h.1,aeqp_eq _ _ h.2]
theorem beqT_eq {α:Type} {f:α→α→Bool} (hf:∀a b,f a b=true→a=b):∀(a b:T α),beqT f a b=true→a=b
 |.e,.e,_=>rfl
 |.e,.n ..,h=>by simp[beqT]at h
 |.n ..,.e,h=>by simp[beqT]at h
 |.n l v r,.n l' v' r',h=>by
  simp only[beqT,Bool.and_eq_true]at h
  obtain⟨⟨h1,h2⟩,h3⟩:=h
  have hv:v=v':=by
   cases v<;>cases v'<;>simp[beqO]at h1<;>first|rfl|(rw[hf _ _ h1])
  rw[hv,beqT_eq hf l l' h2,beqT_eq hf r r' h3]
theorem aeqD_eq:∀(a b:List AD),aeqD a b=true→a=b
 |[],[],_=>rfl
 |[],_::_,h=>by simp[aeqD]at h
 |.mk _::_,[],h=>by simp[aeqD]at h
 |.fn .. ::_,[],h=>by simp[aeqD]at h
 |.mk a::l,.mk b::m,h=>by
  simp[aeqD]at h
  rw[h.1,aeqD_eq l m h.2]
 |.mk a::l,.fn .. ::m,h=>by simp[aeqD]at h
 |.fn .. ::l,.mk b::m,h=>by simp[aeqD]at h
 |.fn f c x::l,.fn f' c' x'::m,h=>by
  simp[aeqD]at h
  obtain⟨⟨⟨h1,h2⟩,h3⟩,h4⟩:=h
  rw[h1,aeqs_eq _ _ h2,aeqs_eq _ _ h3,aeqD_eq l m h4]
theorem countA_eq {α:Type}:∀l:List α,countA l=l.length
 |[]=>rfl
 |_::l=>by simp[countA,countA_eq l]
theorem nth_eq {α:Type}:∀(l:List α) (n:Nat),nth l n=l[n]?
 |[],n=>by simp[nth]
 |_::_,0=>rfl
 |_::l,n+1=>by simp[nth,nth_eq l n]
theorem dropped_eq {α:Type}:∀(l:List α) (n:Nat),dropped l n=l.drop n
 |l,0=>by cases l<;>rfl
 |[],n+1=>rfl
 |_::l,n+1=>by simp[dropped,dropped_eq l n]
theorem joined_eq {α:Type}:∀(l m:List α),joined l m=l++m
 |[],_=>rfl
 |_::l,m=>by simp[joined,joined_eq l m]
theorem copies_eq {α:Type} (z:List α):∀n,copies n z=(List.replicate n z).flatten
 |0=>rfl
 |n+1=>by simp[copies,joined_eq,copies_eq z n,List.replicate_succ]
theorem taken_eq {α:Type}:∀{l:List α} {n:Nat} {r:List α},taken l n=some r→n≤l.length∧r=l.take n
 |l,0,r,h=>by cases l<;>simp[taken]at h<;>simp[←h]
 |[],n+1,r,h=>by simp[taken]at h
 |x::l,n+1,r,h=>by
  simp only[taken]at h
  split at h
  ·rename_i q hq
   simp at h;subst h
   obtain⟨h1,h2⟩:=taken_eq hq
   subst h2
   simp;omega
  ·simp at h
structure Le (ρ ρ':Rho):Prop where
 pl:∀a r,ρ.pl a=some r→ρ'.pl a=some r
 op:ρ'.op=ρ.op
 lr:∀a r,ρ.pl a=some r→ρ'.lr a=ρ.lr a
theorem Le.refl (ρ:Rho):Le ρ ρ:=⟨fun _ _ h=>h,rfl,fun _ _ _=>rfl⟩
theorem Le.trans {a b c:Rho} (h:Le a b) (k:Le b c):Le a c:=
 ⟨fun x r hx=>k.pl x r (h.pl x r hx),k.op.trans h.op,fun x r hx=>(k.lr x r (h.pl x r hx)).trans (h.lr x r hx)⟩
section
variable {ρ ρ':Rho}
mutual
theorem conc_mono (hl:Le ρ ρ'):∀(x:AV) (v:Value),conc ρ x=some v→conc ρ' x=some v
 |.i k n,v,h=>h
 |.b t,v,h=>h
 |.s l,v,h=>h
 |.p a o,v,h=>by
  simp only[conc]at h⊢
  cases hp:ρ.pl a with
  |none=>rw[hp]at h;simp at h
  |some r=>rw[hp]at h;rw[hl.pl a r hp];exact h
 |.np,v,h=>h
 |.sl a o n c,v,h=>by
  simp only[conc]at h⊢
  cases hp:ρ.pl a with
  |none=>rw[hp]at h;simp at h
  |some r=>rw[hp]at h;rw[hl.pl a r hp];exact h
 |.su a o n c,v,h=>by
  simp only[conc]at h⊢
  cases hp:ρ.pl a with
  |none=>rw[hp]at h;simp at h
  |some r=>rw[hp]at h;rw[hl.pl a r hp];exact h
 |.ns,v,h=>h
 |.m a,v,h=>by
  simp only[conc]at h⊢
  cases hp:ρ.pl a with
  |none=>rw[hp]at h;simp at h
  |some r=>rw[hp]at h;rw[hl.pl a r hp];exact h
 |.nm,v,h=>h
 |.f f x y,v,h=>by
  simp only[conc]at h⊢
  split at h
  ·rename_i a b ha hb
   rw[concs_mono hl x a ha,concs_mono hl y b hb];exact h
  ·simp at h
 |.nf,v,h=>h
 |.y a,v,h=>by
  simp only[conc]at h⊢
  cases hp:ρ.pl a with
  |none=>rw[hp]at h;simp at h
  |some r=>rw[hp]at h;rw[hl.pl a r hp];exact h
 |.ni,v,h=>h
 |.e t x,v,h=>by
  simp only[conc]at h⊢
  split at h
  ·rename_i a ha
   rw[conc_mono hl x a ha];exact h
  ·simp at h
 |.g l,v,h=>by
  simp only[conc]at h⊢
  split at h
  ·rename_i a ha
   rw[concs_mono hl l a ha];exact h
  ·simp at h
 |.t l,v,h=>by
  simp only[conc]at h⊢
  split at h
  ·rename_i a ha
   rw[concs_mono hl l a ha];exact h
  ·simp at h
 |.q j,v,h=>by simp only[conc]at h⊢;rw[hl.op];exact h
theorem concs_mono (hl:Le ρ ρ'):∀(l:List AV) (vs:List Value),concs ρ l=some vs→concs ρ' l=some vs
 |[],vs,h=>h
 |x::l,vs,h=>by
  simp only[concs]at h⊢
  split at h
  ·rename_i a b ha hb
   rw[conc_mono hl x a ha,concs_mono hl l b hb];exact h
  ·simp at h
end
theorem concs_cons {x:AV} {l:List AV} {vs:List Value} (h:concs ρ (x::l)=some vs):∃v us,vs=v::us∧conc ρ x=some v∧concs ρ l=some us:=by
 simp only[concs]at h
 split at h
 ·rename_i a b ha hb
  simp at h
  exact⟨a,b,h.symm,ha,hb⟩
 ·simp at h
theorem concs_len:∀{l:List AV} {vs:List Value},concs ρ l=some vs→vs.length=l.length
 |[],vs,h=>by simp[concs]at h;simp[←h]
 |x::l,vs,h=>by
  obtain⟨v,us,rfl,_,h2⟩:=concs_cons h
  simp[concs_len h2]
theorem concs_get:∀{l:List AV} {vs:List Value} {i:Nat} {a:AV},concs ρ l=some vs→l[i]? =some a→∃v,vs[i]? =some v∧conc ρ a=some v
 |[],vs,i,a,h,hi=>by simp at hi
 |x::l,vs,i,a,h,hi=>by
  obtain⟨v,us,rfl,h1,h2⟩:=concs_cons h
  cases i with
  |zero=>simp at hi;subst hi;exact⟨v,rfl,h1⟩
  |succ i=>simpa using concs_get h2 (by simpa using hi)
theorem concs_app:∀{l m:List AV} {vs us:List Value},concs ρ l=some vs→concs ρ m=some us→concs ρ (l++m)=some (vs++us)
 |[],m,vs,us,h,hm=>by simp[concs]at h;subst h;simpa using hm
 |x::l,m,vs,us,h,hm=>by
  obtain⟨v,ws,rfl,h1,h2⟩:=concs_cons h
  simp only[List.cons_append,concs,h1,concs_app h2 hm]
theorem concs_take:∀{l:List AV} {vs:List Value} (n:Nat),concs ρ l=some vs→concs ρ (l.take n)=some (vs.take n)
 |l,vs,0,h=>by simp[concs]
 |[],vs,n+1,h=>by simp[concs]at h;subst h;rfl
 |x::l,vs,n+1,h=>by
  obtain⟨v,ws,rfl,h1,h2⟩:=concs_cons h
  simp only[List.take_succ_cons,concs,h1,concs_take n h2]
theorem concs_drop:∀{l:List AV} {vs:List Value} (n:Nat),concs ρ l=some vs→concs ρ (l.drop n)=some (vs.drop n)
 |l,vs,0,h=>by simpa using h
 |[],vs,n+1,h=>by simp[concs]at h;subst h;rfl
 |x::l,vs,n+1,h=>by
  obtain⟨v,ws,rfl,h1,h2⟩:=concs_cons h
  simpa using concs_drop n h2
theorem concs_splice:∀{l:List AV} {vs:List Value} (o:Nat) {m:List AV} {us:List Value},concs ρ l=some vs→concs ρ m=some us→concs ρ (spliceA l o m)=some (splice vs o us)
 |l,vs,o,[],us,h,hm=>by
  simp[concs]at hm;subst hm
  rw[splice_nil]
  have:spliceA l o []=l:=by cases l<;>rfl
  rw[this];exact h
 |[],vs,o,y::m,us,h,hm=>by
  obtain⟨u,ws,rfl,h1,h2⟩:=concs_cons hm
  simp[concs]at h;subst h
  rfl
 |x::l,vs,0,y::m,us,h,hm=>by
  obtain⟨v,ws,rfl,h1,h2⟩:=concs_cons h
  obtain⟨u,ws',rfl,h3,h4⟩:=concs_cons hm
  simp only[spliceA,splice,concs,h3,concs_splice 0 h2 h4]
 |x::l,vs,o+1,y::m,us,h,hm=>by
  obtain⟨v,ws,rfl,h1,h2⟩:=concs_cons h
  obtain⟨u,ws',rfl,h3,h4⟩:=concs_cons hm
  simp only[spliceA,splice,concs,h1,concs_splice o h2 (show concs ρ (y::m)=some (u::ws')by simp only[concs,h3,h4])]
theorem concs_rep {z:List AV} {zs:List Value} (h:concs ρ z=some zs):∀n,concs ρ ((List.replicate n z).flatten)=some ((List.replicate n zs).flatten)
 |0=>rfl
 |n+1=>by
  rw[List.replicate_succ,List.replicate_succ,List.flatten_cons,List.flatten_cons]
  exact concs_app h (concs_rep h n)
theorem splice_len:∀(l:List AV) (o:Nat) (vs:List AV),(spliceA l o vs).length=l.length
 |l,o,[]=>by cases l<;>rfl
 |[],_,_::_=>rfl
 |x::l,0,v::vs=>by simp[spliceA,splice_len l 0 vs]
 |x::l,o+1,v::vs=>by simp[spliceA,splice_len l o (v::vs)]
theorem one_cells {v:Value} (h:v.oneCell'=true):v.cells.toList=[v]:=by
 cases v<;>first|rfl|simp[Value.oneCell']at h
theorem conc_cells {x:AV} {v:Value} {l:List AV} (hx:conc ρ x=some v) (hc:acells x=some l):concs ρ l=some v.cells.toList:=by
 have one:∀{v:Value},conc ρ x=some v→v.cells.toList=[v]→l=[x]→concs ρ l=some v.cells.toList:=by
  intro v h1 h2 h3
  rw[h2,h3]
  simp[concs,h1]
 cases x<;>simp only[acells,Option.some.injEq]at hc<;>try (cases hc;done)
 case g m=>
  subst hc
  simp only[conc]at hx
  split at hx
  ·rename_i a ha
   simp at hx;subst hx
   simpa[Value.cells]using ha
  ·simp at hx
 all_goals
  refine one hx ?_ hc.symm
  simp only[conc]at hx
  (repeat' split at hx)<;>first|(simp at hx;done)|(simp at hx;subst hx;first|rfl|exact one_cells (ρ.op1 _))
theorem conc_one {x:AV} {v:Value} (hx:conc ρ x=some v) (h1:one1 x=true):v.oneCell'=true:=by
 cases x<;>simp[one1]at h1<;>simp only[conc]at hx<;>(repeat' split at hx)<;>first|(simp at hx;done)|(simp at hx;subst hx;first|rfl|exact ρ.op1 _)
theorem concs_ones:∀{l:List AV} {vs:List Value},concs ρ l=some vs→onesA l=true→∀u∈vs,u.oneCell'=true
 |[],vs,h,_,u,hu=>by simp[concs]at h;subst h;simp at hu
 |x::l,vs,h,h1,u,hu=>by
  obtain⟨v,ws,rfl,h2,h3⟩:=concs_cons h
  simp[onesA]at h1
  rcases List.mem_cons.1 hu with rfl|hu
  ·exact conc_one h2 h1.1
  ·exact concs_ones h3 h1.2 u hu
theorem aval_conc {v:Value} {x:AV} (h:aval v=some x):conc ρ x=some v:=by
 unfold aval at h
 split at h<;>simp at h<;>subst h<;>rfl
theorem avals_conc:∀{vs:List Value} {l:List AV},avals vs=some l→concs ρ l=some vs
 |[],l,h=>by simp[avals]at h;subst h;rfl
 |v::vs,l,h=>by
  simp only[avals]at h
  split at h
  ·rename_i a b ha hb
   simp at h;subst h
   simp only[concs,aval_conc ha,avals_conc hb]
  ·simp at h
theorem avalg_conc {v:Value} {x:AV} (h:avalg v=some x):conc ρ x=some v:=by
 unfold avalg at h
 split at h
 ·split at h
  ·rename_i l y hy
   simp at h;subst h
   simp only[conc,avals_conc hy]
  ·simp at h
 ·exact aval_conc h
def pcode:APend→Option Code
 |none=>none
 |some none=>some .ret
 |some (some id)=>some (.exit id)
def RM (ρ:Rho):List (AV×AV×Nat)→List MapEntry→Prop
 |[],[]=>True
 |(k,v,b)::es,e::ms=>conc ρ k=some e.key∧conc ρ v=some e.val∧e.born=b∧RM ρ es ms
 |_,_=>False
def RB (ρ:Rho) (h:Heap) (a:Nat) (r:Nat×Nat×Nat):AB→Prop
 |.cells w gz l=>∃vs pre tail,concs ρ l=some vs∧pre.length=r.2.1∧(gz%gM≠0→l.length≤r.2.2*(gz%gM)∧r.2.2*(gz%gM)≤l.length+tail.length)∧
  (match w with
   |true=>BlkW h r.1 (pre++(vs++tail))
   |false=>Blk h r.1 (pre++(vs++tail)))∧
  (gz/gM≠0→r.2.1=0∧TyB h r.1 (gz/gM)∧(gz%gM=0→tail=[]))
 |.map es c=>∃ms,MapB h r.1 ms c∧RM ρ es ms
 |.iter m since seen last=>h[r.1]? =some (.mapIter (match m with|none=>none|some x=>match ρ.pl x with|some q=>some q.1|none=>none) since ⟨seen⟩ last)∧(∀x,m=some x→∃q,ρ.pl x=some q)∧r.2.1=0
 |.siter l pos=>h[r.1]? =some (.stringIter ⟨⟨l⟩⟩ pos)∧r.2.1=0
 |.dfd t=>h[r.1]? =some (.deferred (bif t then some []else none))
 |.loop st p=>LoopB h r.1 (ρ.lr a) st (pcode p)
 |.dead=>True
structure Rep (F:Nat→Prop) (h0:Heap) (ρ:Rho) (H:AH) (h:Heap):Prop where
 fr:∀k,F k→k<h.size∧h[k]? =h0[k]?
 dom:∀a r,ρ.pl a=some r→H.get a≠none
 obj:∀a B,H.get a=some B→B≠.dead→∃r,ρ.pl a=some r∧(gtop≤a→¬F r.1)∧r.1<h.size∧RB ρ h a r B
 inj:∀a a' B B' r r',H.get a=some B→B≠.dead→H.get a'=some B'→B'≠.dead→ρ.pl a=some r→ρ.pl a'=some r'→a≠a'→r.1≠r'.1
 gl:∀g r,g<gtop→ρ.pl g=some r→r.1=g∧r.2.1=0
def RE (ρ:Rho) (E:AE) (σ:Env):Prop:=∀t a,E.get t=some a→∃v,conc ρ a=some v∧σ t=some v
theorem RE.mono {E:AE} {σ:Env} (hl:Le ρ ρ') (h:RE ρ E σ):RE ρ' E σ:=fun t a ht=>let⟨v,h1,h2⟩:=h t a ht;⟨v,conc_mono hl a v h1,h2⟩
theorem RM.mono (hl:Le ρ ρ'):∀{es:List (AV×AV×Nat)} {ms:List MapEntry},RM ρ es ms→RM ρ' es ms
 |[],[],_=>trivial
 |[],_::_,h=>h.elim
 |_::_,[],h=>by simp[RM]at h
 |(k,v,b)::es,e::ms,⟨h1,h2,h3,h4⟩=>⟨conc_mono hl _ _ h1,conc_mono hl _ _ h2,h3,h4.mono hl⟩
theorem RB.mono {h:Heap} {a:Nat} {r:Nat×Nat×Nat} {B:AB} (hl:Le ρ ρ') (ha:ρ.pl a=some r) (hb:RB ρ h a r B):RB ρ' h a r B:=by
 cases B with
 |cells w gz l=>
  obtain⟨vs,pre,tail,h1,h2⟩:=hb
  exact⟨vs,pre,tail,concs_mono hl _ _ h1,h2⟩
 |map es c=>
  obtain⟨ms,h1,h2⟩:=hb
  exact⟨ms,h1,h2.mono hl⟩
 |iter m since seen last=>
  obtain⟨h1,h2,h3⟩:=hb
  refine⟨?_,fun x hx=>?_,h3⟩
  ·rw[h1]
   cases m with
   |none=>rfl
   |some x=>
    obtain⟨q,hq⟩:=h2 x rfl
    simp only[hq,hl.pl x q hq]
  ·obtain⟨q,hq⟩:=h2 x hx
   exact⟨q,hl.pl x q hq⟩
 |dfd t=>exact hb
 |siter l pos=>exact hb
 |loop st p=>
  simp only[RB]at hb⊢
  rw[hl.lr a r ha];exact hb
 |dead=>trivial
theorem RB.congr {h h':Heap} {a:Nat} {r:Nat×Nat×Nat} {B:AB} (he:h'[r.1]? =h[r.1]?) (hb:RB ρ h a r B):RB ρ h' a r B:=by
 cases B with
 |cells w gz l=>
  obtain⟨vs,pre,tail,h1,h2,h3,h4,h7⟩:=hb
  refine⟨vs,pre,tail,h1,h2,h3,?_,fun hz=>?_⟩
  ·cases w with
   |true=>obtain⟨e,k,h5,h6⟩:=h4;exact⟨e,k,by rw[he];exact h5,h6⟩
   |false=>obtain⟨e,h5⟩:=h4;exact⟨e,by rw[he];exact h5⟩
  ·obtain⟨h8,⟨c,k,h9⟩,h10⟩:=h7 hz
   exact⟨h8,⟨c,k,by rw[he];exact h9⟩,h10⟩
 |map es c=>
  obtain⟨ms,h1,h2⟩:=hb
  exact⟨ms,by unfold MapB;rw[he];exact h1,h2⟩
 |iter m since seen last=>obtain⟨h1,h2⟩:=hb;exact⟨by rw[he];exact h1,h2⟩
 |dfd t=>simp only[RB]at hb⊢;rw[he];exact hb
 |siter l pos=>simp only[RB]at hb⊢;rw[he];exact hb
 |loop st p=>exact⟨by rw[he];exact hb.at_⟩
 |dead=>trivial
variable {F:Nat→Prop} {h0 h h':Heap} {H H':AH} {E:AE} {σ:Env}
theorem wput_spec {a:Nat} {B:Option AB} (h:T.wput H a B=some H'):gtop≤a∧H.put a B=some H':=by
 unfold T.wput at h
 cases hb:Nat.blt a gtop with
 |true=>rw[hb]at h;simp at h
 |false=>
  rw[hb]at h
  refine⟨?_,h⟩
  rcases Nat.lt_or_ge a gtop with hlt|hge
  ·exact absurd (Nat.ble_eq_true_of_le hlt) (by rw[show Nat.ble (a+1) gtop=Nat.blt a gtop from rfl,hb];simp)
  ·exact hge
theorem Rep.set (hR:Rep F h0 ρ H h) {a:Nat} {B B':AB} {r:Nat×Nat×Nat} (hB:H.get a=some B) (hd:B≠.dead) (hr:ρ.pl a=some r) (hp:T.wput H a (some B')=some H')
  (hsz:h'.size=h.size) (hold:∀k,k≠r.1→h'[k]? =h[k]?) (hb:B'≠.dead→RB ρ h' a r B'):Rep F h0 ρ H' h':=by
 obtain⟨r',hr',hF',hlt,_⟩:=hR.obj a B hB hd
 rw[hr]at hr';simp at hr';subst hr'
 obtain⟨hga,hp⟩:=wput_spec hp
 have hF:=hF' hga
 have get:∀j,H'.get j=if j=a then some B' else H.get j:=T.put_get hp
 refine⟨fun k hk=>?_,fun x q hx=>?_,fun x C hC hCd=>?_,fun x y C D q q' hC hCd hD hDd hq hq' hne=>?_,hR.gl⟩
 ·obtain⟨h1,h2⟩:=hR.fr k hk
  have:k≠r.1:=fun e=>hF (by rw[←e];exact hk)
  exact⟨by omega,by rw[hold k this];exact h2⟩
 ·rw[get x]
  split
  ·simp
  ·exact hR.dom x q hx
 ·rw[get x]at hC
  split at hC
  ·rename_i hx;subst hx
   simp at hC;subst hC
   exact⟨r,hr,hF',by omega,hb hCd⟩
  ·rename_i hx
   obtain⟨q,h1,h2,h3,h4⟩:=hR.obj x C hC hCd
   have hne:q.1≠r.1:=hR.inj x a C B q r hC hCd hB hd h1 hr hx
   exact⟨q,h1,h2,by omega,h4.congr (hold q.1 hne)⟩
 ·rw[get x]at hC
  rw[get y]at hD
  split at hC<;>split at hD
  ·rename_i h1 h2;exact absurd (h1.trans h2.symm) hne
  ·rename_i h1 h2;subst h1
   exact hR.inj x y B D q q' hB hd hD hDd hq hq' hne
  ·rename_i h1 h2;subst h2
   exact hR.inj x y C B q q' hC hCd hB hd hq hq' hne
  ·exact hR.inj x y C D q q' hC hCd hD hDd hq hq' hne
theorem Rep.kill (hR:Rep F h0 ρ H h) {a:Nat} {B:AB} (hB:H.get a=some B) (hd:B≠.dead) (hp:T.wput H a (some .dead)=some H'):Rep F h0 ρ H' h:=by
 obtain⟨r,hr,_⟩:=hR.obj a B hB hd
 exact hR.set hB hd hr hp rfl (fun _ _=>rfl) (fun h=>absurd rfl h)
theorem grow_spec {id:Nat} {B:AB} (hg:grow H id B=some H'):gtop≤id∧H.get id=none∧∀j,H'.get j=if j=id then some B else H.get j:=by
 unfold grow at hg
 cases hb:Nat.blt id gtop with
 |true=>rw[hb]at hg;simp at hg
 |false=>
  rw[hb]at hg
  simp only[cond_false]at hg
  split at hg
  ·rename_i hn
   refine⟨?_,hn,T.put_get hg⟩
   rcases Nat.lt_or_ge id gtop with hlt|hge
   ·exact absurd (Nat.ble_eq_true_of_le hlt) (by rw[show Nat.ble (id+1) gtop=Nat.blt id gtop from rfl,hb];simp)
   ·exact hge
  ·simp at hg
theorem Rep.add (hR:Rep F h0 ρ H h) {id b ba cp:Nat} {B:AB} (lr:Loop) (hg:grow H id B=some H') (hb:∀a' B' r',H.get a'=some B'→B'≠.dead→ρ.pl a'=some r'→r'.1≠b) (hF:¬F b) (hlt:b<h'.size)
  (hsz:h.size≤h'.size) (hold:∀k,k≠b→k<h.size→h'[k]? =h[k]?)
  (hB:∀ρ',Le ρ ρ'→ρ'.pl id=some (b,ba,cp)→ρ'.lr id=lr→RB ρ' h' id (b,ba,cp) B):∃ρ',Le ρ ρ'∧ρ'.pl id=some (b,ba,cp)∧ρ'.lr id=lr∧Rep F h0 ρ' H' h':=by
 obtain⟨hid,hnone,get⟩:=grow_spec hg
 have hnp:ρ.pl id=none:=by
  cases hp:ρ.pl id with
  |none=>rfl
  |some r=>exact absurd hnone (hR.dom id r hp)
 let ρ':Rho:=⟨fun a=>if a=id then some (b,ba,cp)else ρ.pl a,ρ.op,fun a=>if a=id then lr else ρ.lr a,ρ.op1⟩
 have hle:Le ρ ρ':=by
  refine⟨fun a r ha=>?_,rfl,fun a r ha=>?_⟩
  ·show(if a=id then _ else _)=_
   rw[if_neg]
   ·exact ha
   ·rintro rfl;rw[hnp]at ha;simp at ha
  ·show(if a=id then _ else _)=_
   rw[if_neg]
   rintro rfl;rw[hnp]at ha;simp at ha
 have hpl:∀a,ρ'.pl a=if a=id then some (b,ba,cp)else ρ.pl a:=fun a=>rfl
 have hnew:ρ'.pl id=some (b,ba,cp):=by rw[hpl,if_pos rfl]
 have hlr:ρ'.lr id=lr:=if_pos rfl
 refine⟨ρ',hle,hnew,hlr,⟨fun k hk=>?_,fun x q hx=>?_,fun x C hC hCd=>?_,fun x y C D q q' hC hCd hD hDd hq hq' hne=>?_,fun g q hgl hq=>?_⟩⟩
 ·obtain⟨h1,h2⟩:=hR.fr k hk
  have:k≠b:=fun e=>hF (by rw[←e];exact hk)
  exact⟨by omega,by rw[hold k this h1];exact h2⟩
 ·rw[hpl]at hx
  rw[get x]
  split at hx
  ·rename_i h1;rw[if_pos h1];simp
  ·rename_i h1;rw[if_neg h1];exact hR.dom x q hx
 ·rw[get x]at hC
  split at hC
  ·rename_i hx;subst hx
   simp at hC;subst hC
   exact⟨(b,ba,cp),hnew,fun _=>hF,hlt,hB ρ' hle hnew hlr⟩
  ·rename_i hx
   obtain⟨q,h1,h2,h3,h4⟩:=hR.obj x C hC hCd
   have hne:q.1≠b:=hb x C q hC hCd h1
   exact⟨q,hle.pl x q h1,h2,by omega,(h4.mono hle h1).congr (hold q.1 hne h3)⟩
 ·rw[get x]at hC
  rw[get y]at hD
  rw[hpl]at hq hq'
  split at hC<;>split at hD
  ·rename_i h1 h2;exact absurd (h1.trans h2.symm) hne
  ·rename_i h1 h2
   rw[if_pos h1]at hq;rw[if_neg h2]at hq'
   simp at hq;subst hq
   exact fun e=>hb y D q' hD hDd hq' e.symm
  ·rename_i h1 h2
   rw[if_neg h1]at hq;rw[if_pos h2]at hq'
   simp at hq';subst hq'
   exact hb x C q hC hCd hq
  ·rename_i h1 h2
   rw[if_neg h1]at hq;rw[if_neg h2]at hq'
   exact hR.inj x y C D q q' hC hCd hD hDd hq hq' hne
 ·rw[hpl]at hq
  split at hq
  ·rename_i h1;omega
  ·exact hR.gl g q hgl hq
theorem Rep.new (hR:Rep F h0 ρ H h) {id b cp:Nat} {B:AB} (hg:grow H id B=some H') (hid:b=h.size) (hsz:h'.size=h.size+1) (hold:∀k,k<h.size→h'[k]? =h[k]?)
  (hB:∀ρ',Le ρ ρ'→ρ'.pl id=some (b,0,cp)→RB ρ' h' id (b,0,cp) B):∃ρ',Le ρ ρ'∧ρ'.pl id=some (b,0,cp)∧Rep F h0 ρ' H' h':=by
 subst hid
 obtain⟨ρ',h1,h2,_,h3⟩:=hR.add (ba:=0) (cp:=cp) default hg (fun a' B' r' h1 h2 h3=>by
   obtain⟨q,hq,_,hlt,_⟩:=hR.obj a' B' h1 h2
   rw[h3]at hq;simp at hq;subst hq
   omega) (fun hF=>by have:=(hR.fr _ hF).1;omega) (by omega) (by omega) (fun k _ hk=>hold k hk) (fun ρ' hl hp _=>hB ρ' hl hp)
 exact⟨ρ',h1,h2,h3⟩
theorem aev_sound (hR:Rep F h0 ρ H h) (hE:RE ρ E σ) {x:Operand} {a:AV} (hx:aev H E x=some a):∃v,conc ρ a=some v∧ev σ x=some v:=by
 cases x with
 |tmp t=>exact hE t a hx
 |const c=>exact⟨c,aval_conc hx,rfl⟩
 |func f=>simp[aev]at hx;subst hx;exact⟨_,rfl,rfl⟩
 |global g=>
  simp only[aev]at hx
  split at hx
  ·rename_i w gz l hg
   cases hb:Nat.blt g gtop with
   |false=>rw[hb]at hx;simp at hx
   |true=>
    rw[hb]at hx
    simp at hx;subst hx
    obtain⟨r,hr,_⟩:=hR.obj g _ hg (by simp)
    obtain⟨h1,h2⟩:=hR.gl g r (Nat.le_of_ble_eq_true hb) hr
    refine⟨.pointer (some ⟨g,0,none⟩),?_,rfl⟩
    obtain⟨b,ba,cp⟩:=r
    simp at h1 h2
    simp[conc,hr,h1,h2]
  ·simp at hx
theorem aevs_sound (hR:Rep F h0 ρ H h) (hE:RE ρ E σ):∀{xs:List Operand} {l:List AV},aevs H E xs=some l→∃vs,concs ρ l=some vs∧evs σ xs=some vs
 |[],l,h=>by simp[aevs]at h;subst h;exact⟨[],rfl,rfl⟩
 |x::xs,l,h=>by
  simp only[aevs]at h
  split at h
  ·rename_i a b ha hb
   simp at h;subst h
   obtain⟨v,h1,h2⟩:=aev_sound hR hE ha
   obtain⟨vs,h3,h4⟩:=aevs_sound hR hE hb
   exact⟨v::vs,by simp only[concs,h1,h3],by simp only[evs,h2,h4]⟩
  ·simp at h
theorem RE.upd (hE:RE ρ E σ) {d:Option Nat} {a:AV} {v:Value} (hv:conc ρ a=some v) {E':AE} (hu:aupd E d a=some E'):RE ρ E' (upd σ d v):=by
 cases d with
 |none=>simp[aupd]at hu;subst hu;exact hE
 |some d=>
  have get:=T.put_get (t:=E) (k:=d) (v:=some a) hu
  intro t x ht
  rw[get t]at ht
  split at ht
  ·rename_i h1;subst h1
   simp at ht;subst ht
   exact⟨v,hv,by simp[Sx.upd]⟩
  ·rename_i h1
   obtain⟨u,h2,h3⟩:=hE t x ht
   exact⟨u,h2,by rw[upd_ne (by intro e;exact h1 (by simpa using e.symm))];exact h3⟩
end
end Go.Sx
namespace Go.Sx
open Go
noncomputable def closO (P:Program):Nat→List Nat→List Nat→T Unit→Option (List Nat)
 |0,_,_,_=>none
 |_+1,[],seen,_=>some seen
 |n+1,f::todo,seen,t=>match t.get f with
  |some _=>closO P n todo seen t
  |none=>match t.put f (some ())with
   |some t'=>closO P n ((P.funcs[f]?).elim [] P.leadsTo++todo) (f::seen) t'
   |none=>none
theorem closO_eq {P:Program}:∀(n:Nat) (todo seen:List Nat) (t:T Unit) (L:List Nat),(∀f,seen.contains f=(t.get f).isSome)→closO P n todo seen t=some L→∀m,n≤m→P.closureVia m todo seen=L.reverse
 |0,_,_,_,_,_,h,_,_=>by simp[closO]at h
 |n+1,[],seen,t,L,_,h,m,hm=>by
  simp[closO]at h;subst h
  match m,hm with
  |m+1,_=>rfl
 |n+1,f::todo,seen,t,L,hI,h,m,hm=>by
  match m,hm with
  |m+1,hm=>
   have hm:n≤m:=by omega
   simp only[closO]at h
   simp only[Program.closureVia]
   cases hg:t.get f with
   |some u=>
    rw[hg]at h
    rw[if_pos (by rw[hI f,hg];rfl)]
    exact closO_eq n todo seen t L hI h m hm
   |none=>
    rw[hg]at h
    rw[if_neg (by rw[hI f,hg];simp)]
    cases hp:t.put f (some ())with
    |none=>rw[hp]at h;simp at h
    |some t'=>
     rw[hp]at h
     refine closO_eq n _ (f::seen) t' L ?_ h m hm
     intro k
     unfold T.put at hp
     rw[cond_eq_ite]at hp
     split at hp
     ·rename_i hb
      simp at hp;subst hp
      rw[T.get_set 40 t f k (some ()) (by simp only[Nat.blt_eq,big]at hb;omega),List.contains_cons,hI k]
      by_cases hk:k=f
      ·simp[hk]
      ·simp[hk]
     ·simp at hp
theorem closure_of {P:Program} {f n:Nat} {R L:List Nat} (h:closO P n [f] [] .e=some R) (hn:Nat.ble n (1+(P.funcs.toList.map fun g=>(P.leadsTo g).length+1).sum)=true) (hr:R.reverse=L):P.closure f=L:=by
 subst hr
 exact closO_eq n [f] [] .e R (fun _=>rfl) h _ (Nat.le_of_ble_eq_true hn)
variable {α:Type} {enc:α→List Value} {size:Nat}
theorem Grow.put {h h1 h2:Heap} {b:Nat} {l l':List Value} (g:Grow h h1 b l) (p:Put h1 h2 b l'):Grow h h2 b l':=
 ⟨g.id,p.blk,by rw[p.size,g.size],fun k hk=>by rw[p.old k (by rw[g.id];omega),g.old k hk]⟩
theorem ones1 {a:Value} (ha:a.oneCell'=true):∀u∈[a],u.oneCell'=true:=by
 intro u hu
 simp at hu
 rw[hu];exact ha
end Go.Sx
namespace Go.Sx
open Go Go.ChangeShapes
section
variable {H:Type} {enc:TypeId×Value→H} {P:Program}
theorem world_cell {W:World} (b o:Nat):W.cell? ⟨b,o,none⟩=cell W.heap b o:=by
 unfold World.cell? cell
 cases W.heap[b]? with
 |none=>rfl
 |some x=>cases x<;>rfl
theorem sameAt_of {W W':World} (h:∀k,k<W.heap.size→W'.heap[k]? =W.heap[k]?) {p:MemPlace} (hp:p.block<W.heap.size):W.sameAt W' p:=by
 cases p with
 |cell b o=>
  show W'.cell? _=W.cell? _
  rw[world_cell,world_cell]
  unfold cell
  rw[h b hp]
 |map b=>exact h b hp
theorem trodAll_stays {W W':World} {sp':Nat→Bool} (hl:laidOutB P=true) (h:∀k,k<W.heap.size→W'.heap[k]? =W.heap[k]?):∀{ts:List TypeId} {vs:List Value} {ds:List (DataW H)} {ps:List MemPlace},
  (∀t∈ts,P.readableRec t=true∧t<P.types.size)→DataW.TrodAll enc P W 0 (fun _=>true) true ts vs ds ps→(∀p∈ps,p.block<W.heap.size)→(∀p∈ps,sp' p.block=true)→
  DataW.TrodAll enc P W' 0 sp' true ts vs ds ps
 |[],_,_,_,_,hT,_,_=>by
  obtain⟨rfl,rfl,rfl⟩:=trodAll_nil hT
  rfl
 |t::ts,_,_,_,hts,hT,hlt,hs=>by
  obtain⟨v,vs,d,ds,p,q,rfl,rfl,rfl,h1,h2⟩:=trodAll_cons hT
  have ht:=hts t (by simp)
  exact⟨p,q,WideElems.Trod_stays hl ht.1 ht.2 h1 (fun x hx=>sameAt_of h (hlt x (by simp[hx]))) (fun x hx=>hs x (by simp[hx])),
   trodAll_stays hl h (fun t ht=>hts t (by simp[ht])) h2 (fun x hx=>hlt x (by simp[hx])) (fun x hx=>hs x (by simp[hx])),rfl⟩
theorem trodAll_len:∀{W:World} {base:Nat} {sp:Nat→Bool} {hd:Bool} {ts:List TypeId} {vs:List Value} {ds:List (DataW H)} {ps:List MemPlace},DataW.TrodAll enc P W base sp hd ts vs ds ps→ds.length=ts.length
 |_,_,_,_,[],_,_,_,h=>by obtain⟨rfl,rfl,rfl⟩:=trodAll_nil h;rfl
 |_,_,_,_,_::_,_,_,_,h=>by
  obtain⟨v,vs,d,ds,p,q,rfl,rfl,rfl,_,h2⟩:=trodAll_cons h
  simp[trodAll_len h2]
theorem kept_of {W W':World} (hos:W'.os=W.os) (hout:W'.output=W.output) (h:∀k,k<W.heap.size→W'.heap[k]? =W.heap[k]?) (may:MemPlace→Prop):W.keptBut W' may:=by
 refine⟨hos,hout,fun i hi=>?_⟩
 rw[h i hi]
 exact(World.keptBut_refl W may).2.2 i hi
theorem lift_law {f:Nat} {fn:Func} {s:ChangeSpec} {tb:TypeId} {apart fresh handsOn again:Bool} {W:World} {args:Array Value} {ds gs:List (DataW H)} {before:List MemPlace}
  (hlo:laidOutB P=true) (hts:∀t∈fn.params.toList,P.readableRec t=true∧t<P.types.size) (hres:fn.resultTypes= #[tb]) (hb:P.underlying tb=some .bool) (hvars:s.vars=[])
  (hs:∀l:List (DataW H),l.length=fn.params.size→s.fn H l={results:=[.lit (.bool true)],args:=l})
  (hW:DataW.Whole enc P fn.params.toList s.vars apart W args.toList ds gs before)
  (hc:CallsH P f args.toList W.heap (Ret fun r h'=>r=.bool true∧Chg [] W.heap h')):
  Calls P f args W fun e W'=>∃v,e=.returned v∧s.post enc P fn apart fresh handsOn again W args v W':=by
 refine(hc.2 W rfl).mono ?_
 rintro e W' ⟨hR,hno,hos,hout,_⟩
 cases e with
 |panicked ch=>exact hR.elim
 |outgrown=>exact hR.elim
 |returned v=>
 obtain⟨rfl,hch⟩:=hR
 refine⟨_,rfl,?_⟩
 have hsame:∀k,k<W.heap.size→W'.heap[k]? =W.heap[k]? :=fun k hk=>hch.old k hk (by simp)
 have hlt:=fun p hp=>hW.lt p hp
 have hW':=hW
 obtain⟨p,q,hA,hV,rfl,hz,hn⟩:=hW
 have hlen:ds.length=fn.params.size:=by rw[trodAll_len hA];simp
 rw[hvars]at hV
 obtain⟨rfl,rfl⟩:=trodVars_none hV
 have hfn:s.fn H (ds++[])={results:=[.lit (.bool true)],args:=ds}:=by rw[List.append_nil];exact hs ds hlen
 have hold:∀x∈p++[],(fun b=>decide (b<W.heap.size)) x.block=true:=fun x hx=>by simpa using hlt x hx
 have hargs:∀sp:Nat→Bool,(∀x∈p++[],sp x.block=true)→DataW.TrodAll enc P W' 0 sp true fn.params.toList args.toList (s.fn H (ds++[])).args p:=fun sp hsp=>by
  rw[hfn]
  exact trodAll_stays hlo hsame hts hA (fun x hx=>hlt x (by simp[hx])) (fun x hx=>hsp x (by simp[hx]))
 have hr:∀(b:Nat) (sp:Nat→Bool) (hd:Bool),DataW.TrodAll enc P W' b sp hd fn.resultTypes.toList ((Value.bool true).resultList fn.resultTypes.size) (s.fn H (ds++[])).results []:=fun b sp hd=>by
  rw[hfn,hres]
  exact trodAll_mk1 (Go.RowKit.shut_bool hb true)
 have hvs:∀sp:Nat→Bool,DataW.TrodVars enc P W' sp s.vars (s.fn H (ds++[])).vars []:=fun sp=>by
  rw[hfn,hvars];rfl
 refine⟨ds,[],p++[],[],p,[],hW',hr _ _ _,hargs _ hold,hvs _,World.keptBut_mono (fun x hx=>⟨hx,?_⟩) (kept_of hos hout hsame _),fun _=>?_⟩
 ·simpa using hx
 ·refine⟨Go.RowKit.ok_one hres rfl (Go.RowKit.okWide_bool_mk hb true),_,_,([]++p)++[],⟨[]++p,[],trodAll_append (hargs _ (fun _ _=>rfl)) (hr _ _ _),hvs _,rfl,?_,?_⟩,?_⟩
  ·intro b off hp
   have hb':b<W.heap.size:=hlt (.cell b off) (by simpa using hp)
   have:=hz b off (by simpa using hp)
   unfold World.frozen? at this⊢
   simp only[hsame b hb']
   exact this
  ·intro ha
   simpa using hn ha
  ·intro x hx _
   simpa using hx
def Wts (P:Program) (t:TypeId) (d:DataW H):Prop:=∀n∈d.weights P t,n≤reachBytes
theorem weightsAll_mem' {e:TypeId}:∀{l:List (DataW H)} {d:DataW H},d∈l→∀n∈d.weights P e,n∈DataW.weightsAll P e l
 |x::l,d,hd,n,hn=>by
  simp only[DataW.weightsAll,List.mem_append]
  rcases List.mem_cons.1 hd with rfl|hd
  ·exact .inl hn
  ·exact .inr (weightsAll_mem' hd n hn)
theorem wts_each {ts:List TypeId} {ds:List (DataW H)} (h:(DataW.weightsEach P ts ds).all (· ≤reachBytes)=true) {j:Nat} {t:TypeId} {d:DataW H} (ht:ts[j]? =some t) (hd:ds[j]? =some d):Wts P t d:=by
 intro n hn
 have:=List.all_eq_true.1 h n (DataW.weights_mem_each ht hd n hn)
 simpa using this
theorem exists_list {α:Type} {p:Nat→α→Prop}:∀n,(∀i<n,∃a,p i a)→∃l:List α,l.length=n∧∀i a,l[i]? =some a→p i a
 |0,_=>⟨[],rfl,by simp⟩
 |n+1,h=>by
  obtain⟨l,hl,hp⟩:=exists_list n (fun i hi=>h i (by omega))
  obtain⟨a,ha⟩:=h n (by omega)
  refine⟨l++[a],by simp[hl],fun i x hx=>?_⟩
  by_cases hi:i<l.length
  ·rw[List.getElem?_append_left hi]at hx;exact hp i x hx
  ·rw[List.getElem?_append_right (by omega)]at hx
   have:i-l.length=0:=by
    rcases Nat.lt_or_ge (i-l.length) 1 with h|h
    ·omega
    ·rw[List.getElem?_eq_none (by simpa using h)]at hx;cases hx
   rw[this]at hx
   simp at hx;subst hx
   have:i=n:=by omega
   rw[this];exact ha
theorem fld {W:World} {base n:Nat} {sp:Nat→Bool} {held:Bool} {cs:List Value} {fs:Array Field} {xs:List (DataW H×List MemPlace)}
  (hi:∀(i:Nat) (f:Field),fs[i]? =some f→DataW.trod enc P W base sp held n f.type (List.take (P.cellsOf f.type) (List.drop f.offset cs))=xs[i]?) (i ty off k:Nat) {f:Field} {cs':List Value} {x:DataW H×List MemPlace}
  (hf:fs[i]? =some f) (ht:f.type=ty) (ho:f.offset=off) (hc:P.cellsOf ty=k) (hcs:(cs.drop off).take k=cs') (hx:xs[i]? =some x):DataW.trod enc P W base sp held n ty cs'=some x:=by
 subst ht ho hc hcs
 rw[←hx];exact hi i f hf
theorem str_of_trod {t:TypeId} {W:World} {base n:Nat} {sp:Nat→Bool} {held:Bool} {cs:List Value} {x:DataW H×List MemPlace} (ht:P.underlying t=some .string) (h:DataW.trod enc P W base sp held n t cs=some x) (hw:Wts P t x.1):
  ∃s:ByteArray,cs=[.string s]∧s.size≤reachBytes:=by
 obtain⟨s,rfl,rfl,_⟩:=DataW.trod_string ht h
 refine⟨s,rfl,?_⟩
 have:=hw s.data.toList.length (by simp[DataW.weights])
 simpa using this
end
end Go.Sx
namespace Go.Sx
open Go
section
variable {P:Program} {ρ ρ':Rho} {F:Nat→Prop} {h0 h h':Heap} {H H':AH} {E:AE} {σ:Env}
theorem mkI_eq (k:IntKind) (z:Int):mkI k z=.i k z:=by
 cases z<;>simp[mkI]
theorem wrapF_eq (k:IntKind) (z:Int):wrapF k z=k.wrap z:=by
 unfold wrapF
 split
 ·rename_i n
  cases hb:Nat.blt n 9223372036854775808 with
  |false=>rfl
  |true=>
   have hlt:n<9223372036854775808:=Nat.le_of_ble_eq_true hb
   exact(wrap_in (x:=Int.ofNat n) (by simp only[Int.ofNat_eq_natCast];omega) (by simp only[Int.ofNat_eq_natCast];omega)).symm
 ·rfl
theorem arithF_eq (op:BinOp) (k:IntKind) (a b:Int):arithF op k a b=arith op k a b:=by
 unfold arithF arith
 cases op<;>simp only[wrapF_eq]
theorem ev_i (hR:Rep F h0 ρ H h) (hE:RE ρ E σ) {x:Operand} {k:IntKind} {n:Int} (hx:aev H E x=some (.i k n)):ev σ x=some (.int k n):=by
 obtain⟨v,h1,h2⟩:=aev_sound hR hE hx
 simp[conc]at h1;rw[h2,←h1]
theorem ev_b (hR:Rep F h0 ρ H h) (hE:RE ρ E σ) {x:Operand} {t:Bool} (hx:aev H E x=some (.b t)):ev σ x=some (.bool t):=by
 obtain⟨v,h1,h2⟩:=aev_sound hR hE hx
 simp[conc]at h1;rw[h2,←h1]
theorem ev_s (hR:Rep F h0 ρ H h) (hE:RE ρ E σ) {x:Operand} {l:List UInt8} (hx:aev H E x=some (.s l)):ev σ x=some (.string ⟨⟨l⟩⟩):=by
 obtain⟨v,h1,h2⟩:=aev_sound hR hE hx
 simp[conc]at h1;rw[h2,←h1]
theorem ev_np (hR:Rep F h0 ρ H h) (hE:RE ρ E σ) {x:Operand} (hx:aev H E x=some .np):ev σ x=some (.pointer none):=by
 obtain⟨v,h1,h2⟩:=aev_sound hR hE hx
 simp[conc]at h1;rw[h2,←h1]
theorem ev_ni (hR:Rep F h0 ρ H h) (hE:RE ρ E σ) {x:Operand} (hx:aev H E x=some .ni):ev σ x=some .nilIface:=by
 obtain⟨v,h1,h2⟩:=aev_sound hR hE hx
 simp[conc]at h1;rw[h2,←h1]
theorem ev_ns (hR:Rep F h0 ρ H h) (hE:RE ρ E σ) {x:Operand} (hx:aev H E x=some .ns):ev σ x=some (.slice none 0 0):=by
 obtain⟨v,h1,h2⟩:=aev_sound hR hE hx
 simp[conc]at h1;rw[h2,←h1]
theorem ev_nm (hR:Rep F h0 ρ H h) (hE:RE ρ E σ) {x:Operand} (hx:aev H E x=some .nm):ev σ x=some (.map none):=by
 obtain⟨v,h1,h2⟩:=aev_sound hR hE hx
 simp[conc]at h1;rw[h2,←h1]
theorem ev_p (hR:Rep F h0 ρ H h) (hE:RE ρ E σ) {x:Operand} {a o:Nat} (hx:aev H E x=some (.p a o)):∃b ba cp,ρ.pl a=some (b,ba,cp)∧ev σ x=some (.pointer (some ⟨b,ba+o,none⟩)):=by
 obtain⟨v,h1,h2⟩:=aev_sound hR hE hx
 simp only[conc]at h1
 split at h1
 ·rename_i b ba cp hp
  simp at h1;exact⟨b,ba,cp,hp,by rw[h2,←h1]⟩
 ·simp at h1
theorem ev_sl (hR:Rep F h0 ρ H h) (hE:RE ρ E σ) {x:Operand} {a o n c:Nat} (hx:aev H E x=some (.sl a o n c)):∃b ba cp,ρ.pl a=some (b,ba,cp)∧ev σ x=some (.slice (some ⟨b,ba+o,none⟩) n c):=by
 obtain⟨v,h1,h2⟩:=aev_sound hR hE hx
 simp only[conc]at h1
 split at h1
 ·rename_i b ba cp hp
  simp at h1;exact⟨b,ba,cp,hp,by rw[h2,←h1]⟩
 ·simp at h1
theorem ev_su (hR:Rep F h0 ρ H h) (hE:RE ρ E σ) {x:Operand} {a o n k:Nat} (hx:aev H E x=some (.su a o n k)):∃b ba cp,ρ.pl a=some (b,ba,cp)∧n+k≤cp∧ev σ x=some (.slice (some ⟨b,ba+o,none⟩) n (cp-k)):=by
 obtain⟨v,h1,h2⟩:=aev_sound hR hE hx
 simp only[conc]at h1
 split at h1
 ·rename_i b ba cp hp
  split at h1
  ·rename_i hle
   simp at h1;exact⟨b,ba,cp,hp,hle,by rw[h2,←h1]⟩
  ·simp at h1
 ·simp at h1
theorem ev_m (hR:Rep F h0 ρ H h) (hE:RE ρ E σ) {x:Operand} {a:Nat} (hx:aev H E x=some (.m a)):∃b ba cp,ρ.pl a=some (b,ba,cp)∧ev σ x=some (.map (some b)):=by
 obtain⟨v,h1,h2⟩:=aev_sound hR hE hx
 simp only[conc]at h1
 split at h1
 ·rename_i b ba cp hp
  simp at h1;exact⟨b,ba,cp,hp,by rw[h2,←h1]⟩
 ·simp at h1
theorem ev_g (hR:Rep F h0 ρ H h) (hE:RE ρ E σ) {x:Operand} {l:List AV} (hx:aev H E x=some (.g l)):∃vs,concs ρ l=some vs∧ev σ x=some (.agg ⟨vs⟩):=by
 obtain⟨v,h1,h2⟩:=aev_sound hR hE hx
 simp only[conc]at h1
 split at h1
 ·rename_i vs hp
  simp at h1;exact⟨vs,hp,by rw[h2,←h1]⟩
 ·simp at h1
theorem ev_t (hR:Rep F h0 ρ H h) (hE:RE ρ E σ) {x:Operand} {l:List AV} (hx:aev H E x=some (.t l)):∃vs,concs ρ l=some vs∧ev σ x=some (.tuple ⟨vs⟩):=by
 obtain⟨v,h1,h2⟩:=aev_sound hR hE hx
 simp only[conc]at h1
 split at h1
 ·rename_i vs hp
  simp at h1;exact⟨vs,hp,by rw[h2,←h1]⟩
 ·simp at h1
theorem ev_e (hR:Rep F h0 ρ H h) (hE:RE ρ E σ) {x:Operand} {t:Nat} {a:AV} (hx:aev H E x=some (.e t a)):∃v,conc ρ a=some v∧ev σ x=some (.iface t v):=by
 obtain⟨v,h1,h2⟩:=aev_sound hR hE hx
 simp only[conc]at h1
 split at h1
 ·rename_i u hp
  simp at h1;exact⟨u,hp,by rw[h2,←h1]⟩
 ·simp at h1
theorem ev_f (hR:Rep F h0 ρ H h) (hE:RE ρ E σ) {x:Operand} {f:Nat} {fi cap:List AV} (hx:aev H E x=some (.f f fi cap)):∃vs us,concs ρ fi=some vs∧concs ρ cap=some us∧ev σ x=some (.func (.func f) ⟨vs⟩ ⟨us⟩):=by
 obtain⟨v,h1,h2⟩:=aev_sound hR hE hx
 simp only[conc]at h1
 split at h1
 ·rename_i a b ha hb
  simp at h1;exact⟨a,b,ha,hb,by rw[h2,←h1]⟩
 ·simp at h1
theorem ev_y (hR:Rep F h0 ρ H h) (hE:RE ρ E σ) {x:Operand} {l:Nat} (hx:aev H E x=some (.y l)):∃b ba cp,ρ.pl l=some (b,ba,cp)∧ev σ x=some (.func (.yield b) #[] #[]):=by
 obtain⟨v,h1,h2⟩:=aev_sound hR hE hx
 simp only[conc]at h1
 split at h1
 ·rename_i b ba cp hp
  simp at h1;exact⟨b,ba,cp,hp,by rw[h2,←h1]⟩
 ·simp at h1
theorem ev_bnd (hR:Rep F h0 ρ H h) (hE:RE ρ E σ) {x:Option Operand} {d:Nat} {n:Int} (hx:abnd H E x d=some n):bndOf σ x d=some n:=by
 cases x with
 |none=>simpa[abnd,bndOf]using hx
 |some y=>
  simp only[abnd]at hx
  split at hx
  ·rename_i k m hy
   simp at hx;subst hx
   simp only[bndOf,ev_i hR hE hy]
  ·simp at hx
theorem getB_get {a:Nat} {w:Bool} {g:Nat} {l:List AV} (hg:getB H a=some (w,g,l)):H.get a=some (.cells w g l):=by
 unfold getB at hg
 split at hg
 ·rename_i w' g' l' hx
  simp at hg
  obtain⟨rfl,rfl,rfl⟩:=hg
  exact hx
 ·simp at hg
structure CellsAt (ρ:Rho) (h:Heap) (b ba cp:Nat) (w:Bool) (g:Nat) (l:List AV) (vs pre tail:List Value):Prop where
 cs:concs ρ l=some vs
 pl:pre.length=ba
 gz:g%gM≠0→l.length≤cp*(g%gM)∧cp*(g%gM)≤l.length+tail.length
 wide:BlkW h b (pre++(vs++tail))
 strict:w=false→Blk h b (pre++(vs++tail))
 tag:g/gM≠0→ba=0∧TyB h b (g/gM)∧(g%gM=0→tail=[])
theorem Blk.w {b:Nat} {l:List Value} (hb:Blk h b l):BlkW h b l:=let⟨e,x⟩:=hb;⟨e,(0,0),x,.inl rfl⟩
theorem Rep.cells (hR:Rep F h0 ρ H h) {a b ba cp:Nat} {w:Bool} {g:Nat} {l:List AV} (hg:getB H a=some (w,g,l)) (hp:ρ.pl a=some (b,ba,cp)):∃vs pre tail,CellsAt ρ h b ba cp w g l vs pre tail:=by
 obtain⟨r,hr,_,_,vs,pre,tail,h1,h2,h3,h4,h5⟩:=hR.obj a _ (getB_get hg) (by simp)
 rw[hp]at hr;simp at hr;subst hr
 refine⟨vs,pre,tail,h1,h2,h3,?_,fun hw=>?_,h5⟩
 ·cases w with
  |true=>exact h4
  |false=>exact Blk.w h4
 ·subst hw;exact h4
theorem cellW {b o:Nat} {l:List Value} {v:Value} (hb:BlkW h b l) (hv:l[o]? =some v):cell h b o=some v:=by
 obtain⟨e,k,x,_⟩:=hb
 simp[cell,x,hv]
theorem CellsAt.cell {b ba cp g:Nat} {w:Bool} {l:List AV} {vs pre tail:List Value} (c:CellsAt ρ h b ba cp w g l vs pre tail) {i:Nat} {v:Value} (hv:vs[i]? =some v):Sx.cell h b (ba+i)=some v:=by
 refine cellW c.wide ?_
 have hi:=(List.getElem?_eq_some_iff.1 hv).1
 rw[←c.pl,List.getElem?_append_right (by omega)]
 have:pre.length+i-pre.length=i:=by omega
 rw[this,List.getElem?_append_left hi]
 exact hv
theorem CellsAt.part {b ba cp g:Nat} {w:Bool} {l:List AV} {vs pre tail:List Value} (c:CellsAt ρ h b ba cp w g l vs pre tail) {o n:Nat} {r:List AV} (hr:taken (dropped l o) n=some r):
  ∃us,concs ρ r=some us∧us.length=n∧Cells h b (ba+o) us:=by
 rw[dropped_eq]at hr
 obtain⟨h1,h2⟩:=taken_eq hr
 subst h2
 have hlen:=concs_len c.cs
 refine⟨(vs.drop o).take n,concs_take n (concs_drop o c.cs),by simp at h1⊢;omega,fun i v hv=>?_⟩
 have hi:=(List.getElem?_eq_some_iff.1 hv).1
 simp at hi
 rw[List.getElem?_take_of_lt (by omega),List.getElem?_drop]at hv
 have:=c.cell hv
 rw[Nat.add_assoc];exact this
theorem CellsAt.at {b ba cp g:Nat} {w:Bool} {l:List AV} {vs pre tail:List Value} (c:CellsAt ρ h b ba cp w g l vs pre tail) {o:Nat} {x:AV} (hx:nth l o=some x):∃v,conc ρ x=some v∧Sx.cell h b (ba+o)=some v:=by
 rw[nth_eq]at hx
 obtain⟨v,h1,h2⟩:=concs_get c.cs hx
 exact⟨v,h2,c.cell h1⟩
theorem splice_pre (pre:List Value) (l:List Value) (o:Nat) (us:List Value):splice (pre++l) (pre.length+o) us=pre++splice l o us:=by
 induction pre with
 |nil=>simp
 |cons x pre ih=>
  cases us with
  |nil=>rw[splice_nil,splice_nil]
  |cons u us=>
   have:(x::pre).length+o=(pre.length+o)+1:=by simp;omega
   rw[this,List.cons_append,List.cons_append,splice,ih]
theorem splice_tail:∀(l tail:List Value) (o:Nat) (us:List Value),o+us.length≤l.length→splice (l++tail) o us=splice l o us++tail
 |l,tail,o,[],_=>by rw[splice_nil,splice_nil]
 |[],tail,o,u::us,h=>by simp at h
 |x::l,tail,0,u::us,h=>by
  simp only[List.cons_append,splice]
  rw[splice_tail l tail 0 us (by simp at h⊢;omega)]
 |x::l,tail,o+1,u::us,h=>by
  simp only[List.cons_append,splice]
  rw[splice_tail l tail o (u::us) (by simp at h⊢;omega)]
theorem Rep.wrote (hR:Rep F h0 ρ H h) {a b ba cp g o:Nat} {w:Bool} {l us:List AV} {vs pre tail uvs:List Value} (hg:getB H a=some (w,g,l)) (hp:ρ.pl a=some (b,ba,cp)) (c:CellsAt ρ h b ba cp w g l vs pre tail)
  (hu:concs ρ us=some uvs) {w2:Bool} (hs:setB H a w2 g l o us=some H'):
  ba+o+uvs.length≤(pre++(vs++tail)).length∧(∀h',(w2=false→Put h h' b (splice (pre++(vs++tail)) (ba+o) uvs))→PutW h h' b (splice (pre++(vs++tail)) (ba+o) uvs)→Rep F h0 ρ H' h'):=by
 unfold setB at hs
 cases hb:Nat.ble (o+countA us) (countA l)with
 |false=>rw[hb]at hs;simp at hs
 |true=>
  rw[hb]at hs
  simp only[cond_true]at hs
  have hle:=Nat.le_of_ble_eq_true hb
  rw[countA_eq,countA_eq]at hle
  have hlu:=concs_len hu
  have hlv:=concs_len c.cs
  have hsp:splice (pre++(vs++tail)) (ba+o) uvs=pre++(splice vs o uvs++tail):=by
   rw[←c.pl,splice_pre,splice_tail vs tail o uvs (by omega)]
  refine⟨by simp[c.pl];omega,fun h' hP hPW=>?_⟩
  refine hR.set (getB_get hg) (by simp) hp hs hPW.size (fun k hk=>hPW.old k hk) fun _=>?_
  refine⟨splice vs o uvs,pre,tail,concs_splice o c.cs hu,c.pl,?_,?_,fun hz=>⟨(c.tag hz).1,hPW.ty _ (c.tag hz).2.1,(c.tag hz).2.2⟩⟩
  ·rw[splice_len];exact c.gz
  ·cases w2 with
   |true=>
    show BlkW h' b _
    rw[←hsp];exact hPW.blk
   |false=>
    show Blk h' b _
    rw[←hsp];exact(hP rfl).blk
theorem Put.w {b:Nat} {l:List Value} (hP:Put h h' b l):PutW h h' b l:=⟨Blk.w hP.blk,hP.size,hP.old,hP.ty⟩
theorem readS_sound (hR:Rep F h0 ρ H h) {v:AV} {u:Value} {n size:Nat} {r:List AV} (hv:conc ρ v=some u) (hr:readS H v n size=some r):
  ∃a m c us,u=.slice a m c∧concs ρ r=some us∧us.length=n*size∧Src h a n us∧(∀b o s,a=some ⟨b,o,s⟩→s=none):=by
 unfold readS at hr
 split at hr
 ·simp[conc]at hv;subst hv
  cases hb:Nat.beq n 0 with
  |false=>rw[hb]at hr;simp at hr
  |true=>
   rw[hb]at hr
   simp at hr;subst hr
   have h0:=Nat.eq_of_beq_eq_true hb
   exact⟨none,0,0,[],rfl,rfl,by simp[h0],h0,by simp⟩
 ·rename_i a o m c
  split at hr
  ·rename_i w g l hg
   simp only[conc]at hv
   split at hv
   ·rename_i b ba cp hp
    simp at hv;subst hv
    obtain⟨vs,pre,tail,hc⟩:=hR.cells hg hp
    obtain⟨us,h1,h2,h3⟩:=hc.part hr
    exact⟨_,m,c,us,rfl,h1,h2,h3,by simp⟩
   ·simp at hv
  ·simp at hr
 ·rename_i a o m k
  split at hr
  ·rename_i w g l hg
   simp only[conc]at hv
   split at hv
   ·rename_i b ba cp hp
    split at hv
    ·simp at hv;subst hv
     obtain⟨vs,pre,tail,hc⟩:=hR.cells hg hp
     obtain⟨us,h1,h2,h3⟩:=hc.part hr
     exact⟨_,m,_,us,rfl,h1,h2,h3,by simp⟩
    ·simp at hv
   ·simp at hv
  ·simp at hr
 ·simp at hr
theorem alen_sound {v:AV} {u:Value} {n:Nat} (hv:conc ρ v=some u) (hn:alen v=some n):∃a c,u=.slice a n c:=by
 unfold alen at hn
 split at hn
 ·simp[conc]at hv;simp at hn;subst hn;subst hv;exact⟨_,_,rfl⟩
 ·simp at hn;subst hn
  simp only[conc]at hv
  split at hv
  ·simp at hv;exact⟨_,_,hv.symm⟩
  ·simp at hv
 ·simp at hn;subst hn
  simp only[conc]at hv
  split at hv
  ·split at hv
   ·simp at hv;exact⟨_,_,hv.symm⟩
   ·simp at hv
  ·simp at hv
 ·simp at hn
theorem byteCells_conc (l:List UInt8):concs ρ (abyteCells l)=some (byteCells ⟨⟨l⟩⟩):=by
 unfold abyteCells byteCells
 induction l with
 |nil=>rfl
 |cons b l ih=>
  simp only[List.map_cons,concs,conc]
  simp only at ih
  rw[ih]
  rfl
theorem readB_sound (hR:Rep F h0 ρ H h) {v:AV} {u:Value} {n:Nat} {r:List AV} (hv:conc ρ v=some u) (hr:readB H v n=some r):∃us,concs ρ r=some us∧us.length=n∧SrcB h u n us:=by
 unfold readB at hr
 split at hr
 ·rename_i l
  simp[conc]at hv;subst hv
  obtain⟨h1,h2⟩:=taken_eq hr
  subst h2
  have hl:(abyteCells l).length=l.length:=by simp[abyteCells]
  have hl2:(byteCells ⟨⟨l⟩⟩).length=l.length:=by simp[byteCells]
  refine⟨(byteCells ⟨⟨l⟩⟩).take n,concs_take n (byteCells_conc l),by simp[hl2];omega,rfl,?_⟩
  show n≤l.length
  omega
 ·obtain⟨a,m,c,us,rfl,h1,h2,h3,_⟩:=readS_sound hR hv hr
  exact⟨us,h1,by omega,by omega,h3⟩
theorem alenB_sound {v:AV} {u:Value} {n:Nat} (hv:conc ρ v=some u) (hn:alenB v=some n):lenB u=some n:=by
 unfold alenB at hn
 split at hn
 ·rename_i l
  simp[conc]at hv;subst hv
  simp[countA_eq]at hn;subst hn
  rfl
 ·obtain⟨a,c,rfl⟩:=alen_sound hv hn
  rfl
end
end Go.Sx
namespace Go.Sx
open Go
section
variable {P:Program} {ρ:Rho} {F:Nat→Prop} {h0 h:Heap} {H H':AH} {E:AE} {σ:Env} {id:Nat} {v:AV} {K:Value→Heap→Prop} {Qp:List PanicEntry→Heap→Prop}
abbrev Fine (F:Nat→Prop) (h0:Heap) (ρ:Rho) (H':AH) (v:AV) (K:Value→Heap→Prop):Prop:=
 ∀ρ' h' u,Le ρ ρ'→Rep F h0 ρ' H' h'→conc ρ' v=some u→K u h'
theorem Fine.now (hR:Rep F h0 ρ H h) (hK:Fine F h0 ρ H v K) {u:Value} (hu:conc ρ v=some u):K u h:=hK ρ h u (Le.refl ρ) hR hu
theorem eqResI_conc (neg t:Bool):conc ρ (eqResI neg t)=some (.bool (bif t then !neg else neg)):=rfl
theorem acmpI_sound {op:BinOp} {k:IntKind} {a b:Int} {t:Bool} (hc:acmpI op a b=some t) (hk:K (.bool t) h) {σ:Env} {x y:Operand} (hx:ev σ x=some (.int k a)) (hy:ev σ y=some (.int k b)):sop P σ h K Qp (.cmp op x y):=by
 have e1:=ieq_iff a b
 have e2:=ilt_iff a b
 have e3:=ilt_iff b a
 have mk:∀(p:Prop) (t':Bool),(t'=true↔p)→K (.bool t') h→either p K h:=by
  intro p t' hp hk'
  cases t' with
  |true=>exact⟨fun _=>hk',fun hn=>absurd (hp.1 rfl) hn⟩
  |false=>exact⟨fun hp'=>by simp[hp']at hp,fun _=>hk'⟩
 simp only[sop,hx,hy]
 cases op<;>simp only[acmpI,Option.some.injEq]at hc<;>first|(cases hc;done)|subst hc
 ·exact⟨rfl,mk _ _ e1 hk⟩
 ·exact⟨rfl,mk _ _ (by rw[ne_eq,←e1];cases ieq a b<;>simp) hk⟩
 ·exact⟨rfl,mk _ _ e2 hk⟩
 ·refine⟨rfl,mk _ _ ?_ hk⟩
  constructor
  ·intro h;have:¬ilt b a=true:=by simpa using h
   rw[e3]at this;omega
  ·intro h;have:¬ilt b a=true:=by rw[e3];omega
   simpa using this
 ·exact⟨rfl,mk _ _ e3 hk⟩
 ·refine⟨rfl,mk _ _ ?_ hk⟩
  constructor
  ·intro h;have:¬ilt a b=true:=by simpa using h
   rw[e2]at this;omega
  ·intro h;have:¬ilt a b=true:=by rw[e2];omega
   simpa using this
theorem sless_slt8 (a b:List UInt8):sless ⟨⟨a⟩⟩ ⟨⟨b⟩⟩=slt8 a b:=by
 unfold sless
 rw[slt8_eq,ByteArray.toList_eq,ByteArray.toList_eq]
theorem str_eq_iff (a b:List UInt8):(⟨⟨a⟩⟩:ByteArray)=⟨⟨b⟩⟩↔a=b:=by
 constructor
 ·intro h;simpa using h
 ·intro h;rw[h]
theorem acmpS_sound {op:BinOp} {a b:List UInt8} {t:Bool} (hc:acmpS op a b=some t) (hk:K (.bool t) h) {σ:Env} {x y:Operand} (hx:ev σ x=some (.string ⟨⟨a⟩⟩)) (hy:ev σ y=some (.string ⟨⟨b⟩⟩)):sop P σ h K Qp (.cmp op x y):=by
 have e1:=seq8_iff a b
 have e2:=str_eq_iff a b
 have e3:=sless_slt8 a b
 have mk:∀(p:Prop) (t':Bool),(t'=true↔p)→K (.bool t') h→either p K h:=by
  intro p t' hp hk'
  cases t' with
  |true=>exact⟨fun _=>hk',fun hn=>absurd (hp.1 rfl) hn⟩
  |false=>exact⟨fun hp'=>by simp[hp']at hp,fun _=>hk'⟩
 simp only[sop,hx,hy]
 cases op<;>simp only[acmpS,Option.some.injEq]at hc<;>first|(cases hc;done)|subst hc
 ·exact mk _ _ (by rw[e1,e2]) hk
 ·exact mk _ _ (by rw[ne_eq,e2,←e1];cases seq8 a b<;>simp) hk
 ·exact mk _ _ (by rw[e3]) hk
 ·exact mk _ _ (by rw[e3,e2,←e1];cases slt8 a b<;>cases seq8 a b<;>simp) hk
 ·exact mk _ _ (by rw[e3,e2,←e1];cases slt8 a b<;>cases seq8 a b<;>simp) hk
 ·exact mk _ _ (by rw[e3];cases slt8 a b<;>simp) hk
theorem afits_fits {kd:Kd} {x:AV} {u:Value} (hf:afits kd x=true) (hu:conc ρ x=some u):fits kd u=true:=by
 cases kd<;>cases x<;>simp[afits]at hf<;>simp[conc]at hu<;>subst hu<;>simp[fits]
 exact keq_eq hf
theorem afits_inj {kd:Kd} {x y:AV} {u w:Value} (hx:afits kd x=true) (hy:afits kd y=true) (hu:conc ρ x=some u) (hw:conc ρ y=some w):aeq x y=true↔u=w:=by
 constructor
 ·intro h
  have:=aeq_eq x y h
  subst this
  rw[hu]at hw;simpa using hw
 ·intro h
  subst h
  cases kd<;>cases x<;>simp[afits]at hx<;>cases y<;>simp[afits]at hy<;>simp[conc]at hu hw<;>subst hu<;>simp at hw
  ·obtain⟨rfl,rfl⟩:=hw
   have hk:∀k:IntKind,keq k k=true:=by intro k;cases k<;>rfl
   simp[aeq,hk,ieq_iff]
  ·subst hw;simp[aeq,seq8_iff]
  ·subst hw;simp[aeq,beqB_eq]
theorem afitsAll_fits:∀{ks:List Kd} {l:List AV} {vs:List Value},afitsAll ks l=true→concs ρ l=some vs→fitsAll ks vs=true
 |[],[],vs,_,h=>by simp[concs]at h;subst h;rfl
 |[],_::_,vs,hf,_=>by simp[afitsAll]at hf
 |_::_,[],vs,hf,_=>by simp[afitsAll]at hf
 |k::ks,x::l,vs,hf,h=>by
  obtain⟨v,us,rfl,h1,h2⟩:=concs_cons h
  simp[afitsAll]at hf
  simp[fitsAll,afits_fits hf.1 h1,afitsAll_fits hf.2 h2]
theorem afitsAll_inj:∀{ks:List Kd} {l m:List AV} {vs us:List Value},afitsAll ks l=true→afitsAll ks m=true→concs ρ l=some vs→concs ρ m=some us→(aeqs l m=true↔vs=us)
 |[],[],[],vs,us,_,_,h,h'=>by simp[concs]at h h';subst h;subst h';simp[aeqs]
 |[],_::_,_,vs,us,hf,_,_,_=>by simp[afitsAll]at hf
 |[],[],_::_,vs,us,_,hf,_,_=>by simp[afitsAll]at hf
 |_::_,[],_,vs,us,hf,_,_,_=>by simp[afitsAll]at hf
 |_::_,_::_,[],vs,us,_,hf,_,_=>by simp[afitsAll]at hf
 |k::ks,x::l,y::m,vs,us,hf,hf',h,h'=>by
  obtain⟨v,ws,rfl,h1,h2⟩:=concs_cons h
  obtain⟨v',ws',rfl,h1',h2'⟩:=concs_cons h'
  simp[afitsAll]at hf hf'
  simp only[aeqs,Bool.and_eq_true,List.cons.injEq,afits_inj hf.1 hf'.1 h1 h1',afitsAll_inj hf.2 hf'.2 h2 h2']
theorem anil_sound {kd:Nat} {x:AV} {u:Value} {r:Bool} (ha:anil kd x=some r) (hu:conc ρ x=some u):nilTest kd u=some r:=by
 unfold anil at ha
 split at ha<;>simp at ha<;>subst ha<;>simp only[conc]at hu<;>(repeat' split at hu)<;>first|(simp at hu;done)|(simp at hu;subst hu;rfl)
theorem fillA_sound:∀{ps:List (Nat×Nat)} {z vs l:List AV} {zs us:List Value},fillA z ps vs=some l→concs ρ z=some zs→concs ρ vs=some us→∃ls,fillL zs ps us=some ls∧concs ρ l=some ls
 |[],z,[],l,zs,us,hf,hz,hu=>by
  simp[fillA]at hf;subst hf
  simp[concs]at hu;subst hu
  exact⟨zs,rfl,hz⟩
 |[],z,_::_,l,zs,us,hf,hz,hu=>by simp[fillA]at hf
 |_::_,z,[],l,zs,us,hf,hz,hu=>by simp[fillA]at hf
 |(off,n)::ps,z,x::vs,l,zs,us,hf,hz,hu=>by
  obtain⟨u,us,rfl,h1,h2⟩:=concs_cons hu
  simp only[fillA]at hf
  split at hf
  ·rename_i cl hcl
   simp only[cond_eq_ite,Bool.and_eq_true,Nat.beq_eq,Nat.ble_eq]at hf
   split at hf
   ·rename_i hc
    have hcc:=conc_cells h1 hcl
    have hlen:=concs_len hcc
    have hlz:=concs_len hz
    rw[countA_eq,countA_eq]at hc
    obtain⟨ls,h3,h4⟩:=fillA_sound hf (concs_splice off hz hcc) h2
    refine⟨ls,?_,h4⟩
    simp only[fillL]
    rw[if_pos ⟨by omega,by omega⟩]
    exact h3
   ·simp at hf
  ·simp at hf
theorem aop_pure (hR:Rep F h0 ρ H h) (hE:RE ρ E σ):∀(op:SOp),cls op=0→aop P E H id op=some (v,H')→Fine F h0 ρ H' v K→sop P σ h K Qp op:=by
 intro op hcls ho hK
 cases op<;>simp only[cls]at hcls<;>first|(exfalso;omega)|skip
 case mv x=>
  simp only[aop]at ho
  split at ho
  ·rename_i a hx
   simp at ho;obtain⟨rfl,rfl⟩:=ho
   obtain⟨u,h1,h2⟩:=aev_sound hR hE hx
   simp only[sop,h2];exact Fine.now hR hK h1
  ·simp at ho
 case pick c x y=>
  simp only[aop]at ho
  split at ho
  ·rename_i t a b hc hx hy
   simp at ho;obtain⟨rfl,rfl⟩:=ho
   obtain⟨u,h1,h2⟩:=aev_sound hR hE hx
   obtain⟨w,h3,h4⟩:=aev_sound hR hE hy
   simp only[sop,ev_b hR hE hc,h2,h4]
   cases t
   ·exact Fine.now hR hK h3
   ·exact Fine.now hR hK h1
  ·simp at ho
 case build z ps xs=>
  simp only[aop]at ho
  split at ho
  ·rename_i zl vs hz hx
   split at ho
   ·rename_i l hl
    simp at ho;obtain⟨rfl,rfl⟩:=ho
    obtain⟨us,h1,h2⟩:=aevs_sound hR hE hx
    obtain⟨ls,h3,h4⟩:=fillA_sound hl (avals_conc hz) h1
    simp only[sop,h2,h3]
    exact Fine.now hR hK (by simp only[conc,h4])
   ·simp at ho
  ·simp at ho
 case nilck x=>
  simp only[aop]at ho
  split at ho
  ·rename_i a o hx
   simp at ho;obtain⟨rfl,rfl⟩:=ho
   obtain⟨b,ba,cp,hp,he⟩:=ev_p hR hE hx
   simp only[sop,he];exact Fine.now hR hK (by simp only[conc,hp])
  ·rename_i f fi c hx
   simp at ho;obtain⟨rfl,rfl⟩:=ho
   obtain⟨vs,us,h1,h2,he⟩:=ev_f hR hE hx
   simp only[sop,he];exact Fine.now hR hK (by simp only[conc,h1,h2])
  ·rename_i l hx
   simp at ho;obtain⟨rfl,rfl⟩:=ho
   obtain⟨b,ba,cp,hp,he⟩:=ev_y hR hE hx
   simp only[sop,he];exact Fine.now hR hK (by simp only[conc,hp])
  ·simp at ho
 case ar op x y=>
  simp only[aop]at ho
  split at ho
  ·rename_i k a k' b hx hy
   cases hk:keq k k'<;>rw[hk]at ho<;>simp at ho
   obtain⟨rfl,rfl⟩:=ho
   simp only[sop,ev_i hR hE hx,ev_i hR hE hy]
   refine⟨keq_eq hk,fun z hz=>Fine.now hR hK ?_⟩
   rw[mkI_eq,arithF_eq,←hz];rfl
  ·simp at ho
 case bit op x y=>
  simp only[aop]at ho
  split at ho
  ·rename_i k a k' b hx hy
   cases hk:keq k k'<;>rw[hk]at ho<;>simp at ho
   obtain⟨rfl,rfl⟩:=ho
   simp only[sop,ev_i hR hE hx,ev_i hR hE hy]
   refine⟨keq_eq hk,fun z hz=>Fine.now hR hK ?_⟩
   rw[mkI_eq,←hz];rfl
  ·simp at ho
 case cmp op x y=>
  simp only[aop]at ho
  split at ho
  ·rename_i k a k' b hx hy
   cases hk:keq k k'<;>rw[hk]at ho<;>simp only[cond_true,cond_false]at ho
   ·simp at ho
   ·split at ho
    ·rename_i t ht
     simp at ho;obtain⟨rfl,rfl⟩:=ho
     have:=keq_eq hk;subst this
     exact acmpI_sound ht (Fine.now hR hK rfl) (ev_i hR hE hx) (ev_i hR hE hy)
    ·simp at ho
  ·rename_i a b hx hy
   split at ho
   ·rename_i t ht
    simp at ho;obtain⟨rfl,rfl⟩:=ho
    exact acmpS_sound ht (Fine.now hR hK rfl) (ev_s hR hE hx) (ev_s hR hE hy)
   ·simp at ho
  ·simp at ho
 case cmpb neg x y=>
  simp only[aop]at ho
  split at ho
  ·rename_i a b hx hy
   simp at ho;obtain⟨rfl,rfl⟩:=ho
   simp only[sop,ev_b hR hE hx,ev_b hR hE hy]
   refine⟨fun he=>?_,fun he=>?_⟩
   ·have:beqB a b=true:=beqB_eq.2 he
    have:=Fine.now hR hK (eqResI_conc neg (beqB a b))
    rwa [beqB_eq.2 he]at this
   ·have hf:beqB a b=false:=by cases hb:beqB a b;rfl;exact absurd (beqB_eq.1 hb) he
    have:=Fine.now hR hK (eqResI_conc neg (beqB a b))
    rwa [hf]at this
  ·simp at ho
 case cat x y=>
  simp only[aop]at ho
  split at ho
  ·rename_i a b hx hy
   simp only[cond_eq_ite,Nat.blt_eq]at ho
   split at ho
   ·rename_i hlt
    simp at ho;obtain⟨rfl,rfl⟩:=ho
    simp only[sop,ev_s hR hE hx,ev_s hR hE hy]
    rw[countA_eq,countA_eq]at hlt
    refine⟨hlt,Fine.now hR hK ?_⟩
    simp only[conc,joined_eq]
    congr 2
   ·simp at ho
  ·simp at ho
 case eqn kd neg x=>
  simp only[aop]at ho
  split at ho
  ·rename_i a hx
   split at ho
   ·rename_i r hr
    simp at ho;obtain⟨rfl,rfl⟩:=ho
    obtain⟨u,h1,h2⟩:=aev_sound hR hE hx
    simp only[sop,h2,anil_sound hr h1]
    exact Fine.now hR hK (eqResI_conc neg r)
   ·simp at ho
  ·simp at ho
 case eqa neg ks x y=>
  simp only[aop]at ho
  split at ho
  ·rename_i a b hx hy
   simp only[cond_eq_ite,Bool.and_eq_true]at ho
   split at ho
   ·rename_i hf
    simp at ho;obtain⟨rfl,rfl⟩:=ho
    obtain⟨vs,h1,h2⟩:=ev_g hR hE hx
    obtain⟨us,h3,h4⟩:=ev_g hR hE hy
    simp only[sop,h2,h4]
    have hi:=afitsAll_inj hf.1 hf.2 h1 h3
    refine⟨afitsAll_fits hf.1 h1,afitsAll_fits hf.2 h3,fun he=>?_,fun he=>?_⟩
    ·have:=Fine.now hR hK (eqResI_conc neg (aeqs a b))
     rwa [hi.2 he]at this
    ·have hn:aeqs a b=false:=by cases hb:aeqs a b;rfl;exact absurd (hi.1 hb) he
     have:=Fine.now hR hK (eqResI_conc neg (aeqs a b))
     rwa [hn]at this
   ·simp at ho
  ·simp at ho
 case un op x=>
  simp only[aop]at ho
  split at ho
  ·rename_i t hx
   simp at ho;obtain⟨rfl,rfl⟩:=ho
   simp only[sop,ev_b hR hE hx];exact Fine.now hR hK rfl
  ·rename_i k a hx
   simp at ho;obtain⟨rfl,rfl⟩:=ho
   simp only[sop,ev_i hR hE hx]
   intro z hz
   refine Fine.now hR hK ?_
   rw[mkI_eq,wrapF_eq,hz];simp[conc]
  ·rename_i k a hx
   simp at ho;obtain⟨rfl,rfl⟩:=ho
   simp only[sop,ev_i hR hE hx]
   intro z hz
   refine Fine.now hR hK ?_
   rw[mkI_eq,←hz];rfl
  ·simp at ho
 case fa off x=>
  simp only[aop]at ho
  split at ho
  ·rename_i a o hx
   simp at ho;obtain⟨rfl,rfl⟩:=ho
   obtain⟨b,ba,cp,hp,he⟩:=ev_p hR hE hx
   simp only[sop,he];exact Fine.now hR hK (by simp only[conc,hp,Nat.add_assoc])
  ·simp at ho
 case fl1 off x=>
  simp only[aop]at ho
  split at ho
  ·rename_i l hx
   split at ho
   ·rename_i a ha
    simp at ho;obtain⟨rfl,rfl⟩:=ho
    obtain⟨vs,h1,h2⟩:=ev_g hR hE hx
    rw[nth_eq]at ha
    obtain⟨u,h3,h4⟩:=concs_get h1 ha
    simp only[sop,h2,h3];exact Fine.now hR hK h4
   ·simp at ho
  ·simp at ho
 case fln off n x=>
  simp only[aop]at ho
  split at ho
  ·rename_i l hx
   simp only[cond_eq_ite,Nat.ble_eq]at ho
   split at ho
   ·rename_i hle
    split at ho
    ·rename_i r hr
     simp at ho;obtain⟨rfl,rfl⟩:=ho
     obtain⟨vs,h1,h2⟩:=ev_g hR hE hx
     rw[dropped_eq]at hr
     obtain⟨h3,h4⟩:=taken_eq hr
     subst h4
     have hl:=concs_len h1
     rw[countA_eq]at hle
     simp only[sop,h2]
     exact⟨by show off+n≤vs.length;omega,Fine.now hR hK (by simp only[conc,concs_take _ (concs_drop off h1)])⟩
    ·simp at ho
   ·simp at ho
  ·simp at ho
 case ixa len size x i=>
  simp only[aop]at ho
  split at ho
  ·rename_i a o k j hx hi
   simp only[cond_eq_ite,Nat.blt_eq]at ho
   split at ho
   ·rename_i hlt
    simp at ho;obtain⟨rfl,rfl⟩:=ho
    obtain⟨b,ba,cp,hp,he⟩:=ev_p hR hE hx
    simp only[sop,he,ev_i hR hE hi]
    exact⟨by simp only[Int.ofNat_eq_natCast];omega,by simp only[Int.ofNat_eq_natCast];omega,Fine.now hR hK (by simp[conc,hp,Nat.add_assoc])⟩
   ·simp at ho
  ·simp at ho
 case ixs size x i=>
  simp only[aop]at ho
  split at ho
  ·rename_i a o n c k j hx hi
   simp only[cond_eq_ite,Nat.blt_eq]at ho
   split at ho
   ·rename_i hlt
    simp at ho;obtain⟨rfl,rfl⟩:=ho
    obtain⟨b,ba,cp,hp,he⟩:=ev_sl hR hE hx
    simp only[sop,he,ev_i hR hE hi]
    exact⟨by simp only[Int.ofNat_eq_natCast];omega,by simp only[Int.ofNat_eq_natCast];omega,Fine.now hR hK (by simp[conc,hp,Nat.add_assoc])⟩
   ·simp at ho
  ·rename_i a o n kk k j hx hi
   simp only[cond_eq_ite,Nat.blt_eq]at ho
   split at ho
   ·rename_i hlt
    simp at ho;obtain⟨rfl,rfl⟩:=ho
    obtain⟨b,ba,cp,hp,hle,he⟩:=ev_su hR hE hx
    simp only[sop,he,ev_i hR hE hi]
    exact⟨by simp only[Int.ofNat_eq_natCast];omega,by simp only[Int.ofNat_eq_natCast];omega,Fine.now hR hK (by simp[conc,hp,Nat.add_assoc])⟩
   ·simp at ho
  ·simp at ho
 case ixc x i=>
  simp only[aop]at ho
  split at ho
  ·rename_i l k j hx hi
   split at ho
   ·rename_i c hc
    simp at ho;obtain⟨rfl,rfl⟩:=ho
    simp only[sop,ev_s hR hE hx,ev_i hR hE hi]
    rw[nth_eq]at hc
    refine⟨c,by simp only[Int.ofNat_eq_natCast];omega,?_,Fine.now hR hK (by rw[mkI_eq];rfl)⟩
    have hlt:=(List.getElem?_eq_some_iff.1 hc).1
    have hcv:=(List.getElem?_eq_some_iff.1 hc).2
    have:(⟨⟨l⟩⟩:ByteArray).size=l.length:=rfl
    rw[getElem?_pos (⟨⟨l⟩⟩:ByteArray) _ (by rw[this];exact hlt)]
    simp only[Option.some.injEq]
    exact hcv
   ·simp at ho
  ·simp at ho
 case ixv n size x i=>
  simp only[aop]at ho
  split at ho
  ·rename_i l k j hx hi
   simp only[cond_eq_ite,Nat.blt_eq]at ho
   split at ho
   ·rename_i hlt
    split at ho
    ·rename_i a ha
     simp at ho;obtain⟨rfl,rfl⟩:=ho
     obtain⟨vs,h1,h2⟩:=ev_g hR hE hx
     rw[nth_eq]at ha
     obtain⟨u,h3,h4⟩:=concs_get h1 ha
     simp only[sop,h2,ev_i hR hE hi]
     exact⟨u,by simp only[Int.ofNat_eq_natCast];omega,by simp only[Int.ofNat_eq_natCast];omega,h3,Fine.now hR hK h4⟩
    ·simp at ho
   ·simp at ho
  ·simp at ho
 case ixw n size x i=>
  simp only[aop]at ho
  split at ho
  ·rename_i l k j hx hi
   simp only[cond_eq_ite,Nat.blt_eq,Bool.and_eq_true,Nat.ble_eq]at ho
   split at ho
   ·rename_i hlt
    split at ho
    ·rename_i r hr
     simp at ho;obtain⟨rfl,rfl⟩:=ho
     obtain⟨vs,h1,h2⟩:=ev_g hR hE hx
     rw[dropped_eq]at hr
     obtain⟨h3,h4⟩:=taken_eq hr
     subst h4
     have hl:=concs_len h1
     rw[countA_eq]at hlt
     simp only[sop,h2,ev_i hR hE hi]
     refine⟨by simp only[Int.ofNat_eq_natCast];omega,by simp only[Int.ofNat_eq_natCast];omega,?_,Fine.now hR hK (by simp only[conc];rw[show(Int.ofNat j).toNat=j from rfl,concs_take _ (concs_drop _ h1)])⟩
     show j*size+size≤vs.length
     omega
    ·simp at ho
   ·simp at ho
  ·simp at ho
 case slc size x lo hi=>
  simp only[aop]at ho
  split at ho
  ·rename_i a hx
   split at ho
   ·rename_i n hn
    split at ho
    ·rename_i l m hl hm
     split at ho
     ·rename_i u hu
      simp at ho;obtain⟨rfl,rfl⟩:=ho
      unfold acut at hu
      split at hu
      ·simp only[cond_eq_ite,Bool.and_eq_true,Nat.beq_eq]at hu
       split at hu
       ·rename_i hz
        obtain⟨rfl,rfl⟩:=hz
        simp at hu;subst hu
        simp[alen]at hn;subst hn
        simp only[sop,ev_ns hR hE hx,ev_bnd hR hE hl,ev_bnd hR hE hm]
        exact⟨by simp,by simp,by simp,Fine.now hR hK rfl⟩
       ·simp at hu
      ·rename_i a o n' c
       simp only[cond_eq_ite,Bool.and_eq_true,Nat.ble_eq]at hu
       split at hu
       ·rename_i hle
        simp at hu;subst hu
        simp[alen]at hn;subst hn
        obtain⟨b,ba,cp,hp,he⟩:=ev_sl hR hE hx
        simp only[sop,he,ev_bnd hR hE hl,ev_bnd hR hE hm]
        refine⟨by simp only[Int.ofNat_eq_natCast];omega,by simp only[Int.ofNat_eq_natCast];omega,by simp only[Int.ofNat_eq_natCast];omega,?_⟩
        show∀o',_→_→_
        intro o' h1 h2
        refine Fine.now hR hK ?_
        have e1:((Int.ofNat m)-(Int.ofNat l)).toNat=m-l:=by simp only[Int.ofNat_eq_natCast];omega
        have e2:((c:Int)-(Int.ofNat l)).toNat=c-l:=by simp only[Int.ofNat_eq_natCast];omega
        rw[e1,e2]
        simp only[conc,hp]
        by_cases hlc:l<c
        ·rw[if_pos hlc,h1 (by simp only[Int.ofNat_eq_natCast];omega)]
         simp[Nat.add_assoc]
        ·rw[if_neg hlc,h2 (by simp only[Int.ofNat_eq_natCast];omega)]
       ·simp at hu
      ·rename_i a o n' k
       simp[alen]at hn;subst hn
       obtain⟨b,ba,cp,hp,hnk,he⟩:=ev_su hR hE hx
       simp only[cond_eq_ite,Bool.and_eq_true,Nat.ble_eq,Nat.blt_eq,Nat.beq_eq]at hu
       split at hu
       ·rename_i hle
        simp at hu;subst hu
        simp only[sop,he,ev_bnd hR hE hl,ev_bnd hR hE hm]
        refine⟨by simp only[Int.ofNat_eq_natCast];omega,by simp only[Int.ofNat_eq_natCast];omega,by simp only[Int.ofNat_eq_natCast];omega,?_⟩
        show∀o',_→_→_
        intro o' h1 h2
        refine Fine.now hR hK ?_
        have e1:((Int.ofNat m)-(Int.ofNat l)).toNat=m-l:=by simp only[Int.ofNat_eq_natCast];omega
        have e2:(((cp-k:Nat):Int)-(Int.ofNat l)).toNat=cp-(k+l):=by simp only[Int.ofNat_eq_natCast];omega
        rw[e1,e2,h1 (by simp only[Int.ofNat_eq_natCast];omega)]
        simp only[conc,hp]
        rw[if_pos (by omega)]
        simp[Nat.add_assoc]
       ·split at hu
        ·rename_i hz
         obtain⟨rfl,rfl⟩:=hz
         simp at hu;subst hu
         simp only[sop,he,ev_bnd hR hE hl,ev_bnd hR hE hm]
         refine⟨by simp,by simp,by simp,?_⟩
         show∀o',_→_→_
         intro o' h1 h2
         refine Fine.now hR hK ?_
         have e0:o'=ba+o:=by
          rcases Nat.eq_zero_or_pos (cp-k)with hz|hz
          ·exact h2 (by rw[hz];rfl)
          ·have:=h1 (by simp only[Int.ofNat_eq_natCast];omega)
           simpa using this
         have e2:(((cp-k:Nat):Int)-(Int.ofNat 0)).toNat=cp-k:=by simp
         rw[e2,e0]
         simp only[conc,hp]
         rw[if_pos (by omega)]
         simp
        ·simp at hu
      ·simp at hu
     ·simp at ho
    ·simp at ho
   ·simp at ho
  ·simp at ho
 case slc3 size x lo hi mx=>
  simp only[aop]at ho
  split at ho
  ·rename_i a o n c hx
   split at ho
   ·rename_i l m k hl hm hk
    simp only[cond_eq_ite,Bool.and_eq_true,Nat.ble_eq]at ho
    split at ho
    ·rename_i hle
     simp at ho;obtain⟨rfl,rfl⟩:=ho
     obtain⟨b,ba,cp,hp,he⟩:=ev_sl hR hE hx
     simp only[sop,he,ev_bnd hR hE hl,ev_bnd hR hE hm,ev_bnd hR hE hk]
     refine⟨by simp only[Int.ofNat_eq_natCast];omega,by simp only[Int.ofNat_eq_natCast];omega,by simp only[Int.ofNat_eq_natCast];omega,by simp only[Int.ofNat_eq_natCast];omega,?_⟩
     show∀o',_→_→_
     intro o' h1 h2
     refine Fine.now hR hK ?_
     have e1:((Int.ofNat m)-(Int.ofNat l)).toNat=m-l:=by simp only[Int.ofNat_eq_natCast];omega
     have e2:((((Int.ofNat k).toNat:Nat):Int)-(Int.ofNat l)).toNat=k-l:=by simp only[Int.ofNat_eq_natCast];omega
     rw[e1,e2]
     simp only[conc,hp]
     by_cases hlc:l<k
     ·rw[if_pos hlc,h1 (by simp only[Int.ofNat_eq_natCast];omega)]
      simp[Nat.add_assoc]
     ·rw[if_neg hlc,h2 (by simp only[Int.ofNat_eq_natCast];omega)]
    ·simp at ho
   ·simp at ho
  ·rename_i a o n kk hx
   split at ho
   ·rename_i l m k hl hm hk
    simp only[cond_eq_ite,Bool.and_eq_true,Nat.ble_eq]at ho
    split at ho
    ·rename_i hle
     simp at ho;obtain⟨rfl,rfl⟩:=ho
     obtain⟨b,ba,cp,hp,hcap,he⟩:=ev_su hR hE hx
     simp only[sop,he,ev_bnd hR hE hl,ev_bnd hR hE hm,ev_bnd hR hE hk]
     refine⟨by simp only[Int.ofNat_eq_natCast];omega,by simp only[Int.ofNat_eq_natCast];omega,by simp only[Int.ofNat_eq_natCast];omega,by simp only[Int.ofNat_eq_natCast];omega,?_⟩
     show∀o',_→_→_
     intro o' h1 h2
     refine Fine.now hR hK ?_
     have e1:((Int.ofNat m)-(Int.ofNat l)).toNat=m-l:=by simp only[Int.ofNat_eq_natCast];omega
     have e2:((((Int.ofNat k).toNat:Nat):Int)-(Int.ofNat l)).toNat=k-l:=by simp only[Int.ofNat_eq_natCast];omega
     rw[e1,e2]
     simp only[conc,hp]
     by_cases hlc:l<k
     ·rw[if_pos hlc,h1 (by simp only[Int.ofNat_eq_natCast];omega)]
      simp[Nat.add_assoc]
     ·rw[if_neg hlc,h2 (by simp only[Int.ofNat_eq_natCast];omega)]
    ·simp at ho
   ·simp at ho
  ·simp at ho
 case slp n size x lo hi=>
  simp only[aop]at ho
  split at ho
  ·rename_i a o hx
   split at ho
   ·rename_i l m hl hm
    simp only[cond_eq_ite,Bool.and_eq_true,Nat.ble_eq]at ho
    split at ho
    ·rename_i hle
     simp at ho;obtain⟨rfl,rfl⟩:=ho
     obtain⟨b,ba,cp,hp,he⟩:=ev_p hR hE hx
     simp only[sop,he,ev_bnd hR hE hl,ev_bnd hR hE hm]
     refine⟨by simp only[Int.ofNat_eq_natCast];omega,by simp only[Int.ofNat_eq_natCast];omega,by simp only[Int.ofNat_eq_natCast];omega,?_⟩
     show∀o',_→_→_
     intro o' h1 h2
     refine Fine.now hR hK ?_
     have e1:((Int.ofNat m)-(Int.ofNat l)).toNat=m-l:=by simp only[Int.ofNat_eq_natCast];omega
     have e2:((n:Int)-(Int.ofNat l)).toNat=n-l:=by simp only[Int.ofNat_eq_natCast];omega
     rw[e1,e2]
     simp only[conc,hp]
     by_cases hlc:l<n
     ·rw[if_pos hlc,h1 (by simp only[Int.ofNat_eq_natCast];omega)]
      simp[Nat.add_assoc]
     ·rw[if_neg hlc,h2 (by simp only[Int.ofNat_eq_natCast];omega)]
    ·simp at ho
   ·simp at ho
  ·simp at ho
 case sls x lo hi=>
  simp only[aop]at ho
  split at ho
  ·rename_i s hx
   split at ho
   ·rename_i l m hl hm
    simp only[cond_eq_ite,Bool.and_eq_true,Nat.ble_eq]at ho
    split at ho
    ·rename_i hle
     split at ho
     ·rename_i r hr
      simp at ho;obtain⟨rfl,rfl⟩:=ho
      rw[dropped_eq]at hr
      obtain⟨h1,h2⟩:=taken_eq hr
      subst h2
      rw[countA_eq]at hm
      have hsz:(⟨⟨s⟩⟩:ByteArray).size=s.length:=rfl
      simp only[sop,ev_s hR hE hx,ev_bnd hR hE hl,hsz,ev_bnd hR hE hm]
      simp at h1
      have hms:m≤s.length:=by rw[countA_eq]at hle;exact hle.2
      refine⟨by simp only[Int.ofNat_eq_natCast];omega,by simp only[Int.ofNat_eq_natCast];omega,by simp only[Int.ofNat_eq_natCast];omega,Fine.now hR hK ?_⟩
      simp only[conc]
      congr 2
      apply ByteArray.ext
      rw[ByteArray.data_extract]
      apply Array.ext'
      simp[List.extract_eq_take_drop]
     ·simp at ho
    ·simp at ho
   ·simp at ho
  ·simp at ho
 case len x=>
  simp only[aop]at ho
  split at ho
  ·rename_i a hx
   split at ho
   ·rename_i n hn
    simp at ho;obtain⟨rfl,rfl⟩:=ho
    obtain⟨u,h1,h2⟩:=aev_sound hR hE hx
    obtain⟨p,c,rfl⟩:=alen_sound h1 hn
    simp only[sop,h2];exact Fine.now hR hK rfl
   ·simp at ho
  ·simp at ho
 case lens x=>
  simp only[aop]at ho
  split at ho
  ·rename_i l hx
   simp at ho;obtain⟨rfl,rfl⟩:=ho
   simp only[sop,ev_s hR hE hx]
   exact Fine.now hR hK (by simp only[conc,countA_eq];rfl)
  ·simp at ho
 case sld x=>
  simp only[aop]at ho
  split at ho
  ·rename_i hx
   simp at ho;obtain⟨rfl,rfl⟩:=ho
   simp only[sop,ev_ns hR hE hx]
   exact Fine.now hR hK rfl
  ·rename_i a o n c hx
   simp only[cond_eq_ite,Nat.blt_eq]at ho
   split at ho
   ·rename_i hc
    simp at ho;obtain⟨rfl,rfl⟩:=ho
    obtain⟨b,ba,cp,hp,he⟩:=ev_sl hR hE hx
    simp only[sop,he]
    exact⟨by omega,Fine.now hR hK (by simp only[conc,hp])⟩
   ·simp at ho
  ·rename_i a o n k hx
   simp only[cond_eq_ite,Nat.blt_eq]at ho
   split at ho
   ·rename_i hc
    simp at ho;obtain⟨rfl,rfl⟩:=ho
    obtain⟨b,ba,cp,hp,hle,he⟩:=ev_su hR hE hx
    simp only[sop,he]
    exact⟨by omega,Fine.now hR hK (by simp only[conc,hp])⟩
   ·simp at ho
  ·simp at ho
 case capc x=>
  simp only[aop]at ho
  split at ho
  ·rename_i hx
   simp at ho;obtain⟨rfl,rfl⟩:=ho
   simp only[sop,ev_ns hR hE hx];exact Fine.now hR hK rfl
  ·rename_i a o n c hx
   simp at ho;obtain⟨rfl,rfl⟩:=ho
   obtain⟨b,ba,cp,hp,he⟩:=ev_sl hR hE hx
   simp only[sop,he];exact Fine.now hR hK rfl
  ·simp at ho
 case sh k left n x=>
  simp only[aop]at ho
  split at ho
  ·rename_i k' a hx
   cases hk:keq k' k<;>rw[hk]at ho<;>simp at ho
   obtain⟨rfl,rfl⟩:=ho
   simp only[sop,ev_i hR hE hx]
   refine⟨keq_eq hk,fun z hz=>Fine.now hR hK ?_⟩
   rw[mkI_eq,hz]
   cases left<;>simp[conc,wrapF_eq]
  ·simp at ho
 case shv k left x y=>
  simp only[aop]at ho
  split at ho
  ·rename_i k' a k2 n hx hy
   cases hk:keq k' k<;>rw[hk]at ho<;>simp at ho
   obtain⟨rfl,rfl⟩:=ho
   simp only[sop,ev_i hR hE hx,ev_i hR hE hy]
   refine⟨keq_eq hk,by simp only[Int.ofNat_eq_natCast];omega,fun z hz=>Fine.now hR hK ?_⟩
   rw[mkI_eq,hz]
   cases left<;>simp[conc,wrapF_eq]
  ·simp at ho
 case quo x y=>
  simp only[aop]at ho
  split at ho
  ·rename_i k a k' b hx hy
   simp only[cond_eq_ite,Bool.and_eq_true,Bool.not_eq_true']at ho
   split at ho
   ·rename_i hc
    simp at ho;obtain⟨rfl,rfl⟩:=ho
    simp only[sop,ev_i hR hE hx,ev_i hR hE hy]
    refine⟨keq_eq hc.1,fun e=>?_,fun z hz=>Fine.now hR hK (by rw[mkI_eq,wrapF_eq,hz];rfl)⟩
    have:=(ieq_iff b 0).2 e
    rw[this]at hc;simp at hc
   ·simp at ho
  ·simp at ho
 case rem x y=>
  simp only[aop]at ho
  split at ho
  ·rename_i k a k' b hx hy
   simp only[cond_eq_ite,Bool.and_eq_true,Bool.not_eq_true']at ho
   split at ho
   ·rename_i hc
    simp at ho;obtain⟨rfl,rfl⟩:=ho
    simp only[sop,ev_i hR hE hx,ev_i hR hE hy]
    refine⟨keq_eq hc.1,fun e=>?_,fun z hz=>Fine.now hR hK (by rw[mkI_eq,hz];rfl)⟩
    have:=(ieq_iff b 0).2 e
    rw[this]at hc;simp at hc
   ·simp at ho
  ·simp at ho
 case cvs x=>
  simp only[aop]at ho
  split at ho
  ·rename_i l hx
   simp at ho;obtain⟨rfl,rfl⟩:=ho
   simp only[sop,ev_s hR hE hx];exact Fine.now hR hK rfl
  ·simp at ho
 case cvt k x=>
  simp only[aop]at ho
  split at ho
  ·rename_i k' a hx
   simp at ho;obtain⟨rfl,rfl⟩:=ho
   simp only[sop,ev_i hR hE hx]
   exact fun z hz=>Fine.now hR hK (by rw[mkI_eq,wrapF_eq,hz];rfl)
  ·simp at ho
 case ext x i=>
  simp only[aop]at ho
  split at ho
  ·rename_i l hx
   split at ho
   ·rename_i a ha
    simp at ho;obtain⟨rfl,rfl⟩:=ho
    obtain⟨vs,h1,h2⟩:=ev_t hR hE hx
    rw[nth_eq]at ha
    obtain⟨u,h3,h4⟩:=concs_get h1 ha
    simp only[sop,h2,h3];exact Fine.now hR hK h4
   ·simp at ho
  ·simp at ho
 case fn f a c=>
  simp only[aop]at ho
  split at ho
  ·rename_i x y hx hy
   simp at ho;obtain⟨rfl,rfl⟩:=ho
   obtain⟨vs,h1,h2⟩:=aevs_sound hR hE hx
   obtain⟨us,h3,h4⟩:=aevs_sound hR hE hy
   simp only[sop,h2,h4];exact Fine.now hR hK (by simp only[conc,h1,h3])
  ·simp at ho
 case mn x y=>
  simp only[aop]at ho
  split at ho
  ·rename_i k a k' b hx hy
   cases hk:keq k k'<;>rw[hk]at ho<;>simp at ho
   obtain⟨rfl,rfl⟩:=ho
   simp only[sop,ev_i hR hE hx,ev_i hR hE hy]
   refine⟨keq_eq hk,Fine.now hR hK ?_⟩
   have:=ilt_iff b a
   simp only[conc,Int.min_def]
   cases hb:ilt b a<;>rw[hb]at this<;>simp at this<;>simp<;>omega
  ·simp at ho
 case mx x y=>
  simp only[aop]at ho
  split at ho
  ·rename_i k a k' b hx hy
   cases hk:keq k k'<;>rw[hk]at ho<;>simp at ho
   obtain⟨rfl,rfl⟩:=ho
   simp only[sop,ev_i hR hE hx,ev_i hR hE hy]
   refine⟨keq_eq hk,Fine.now hR hK ?_⟩
   have:=ilt_iff a b
   simp only[conc,Int.max_def]
   cases hb:ilt a b<;>rw[hb]at this<;>simp at this<;>simp<;>omega
  ·simp at ho
 case mki t x=>
  simp only[aop]at ho
  split at ho
  ·rename_i a hx
   simp at ho;obtain⟨rfl,rfl⟩:=ho
   obtain⟨u,h1,h2⟩:=aev_sound hR hE hx
   simp only[sop,h2];exact Fine.now hR hK (by simp only[conc,h1])
  ·simp at ho
 case tas t zero ok x=>
  simp only[aop]at ho
  split at ho
  ·rename_i z hz hx
   cases ok<;>simp at ho
   obtain⟨rfl,rfl⟩:=ho
   simp only[sop,ev_ni hR hE hx]
   exact⟨by simp,Fine.now hR hK (by simp only[conc,concs,avalg_conc hz])⟩
  ·rename_i z u a hz hx
   obtain⟨w,h1,h2⟩:=ev_e hR hE hx
   simp only[sop,h2]
   simp only[cond_eq_ite,Nat.beq_eq]at ho
   split at ho
   ·rename_i hut
    simp at ho;obtain⟨rfl,rfl⟩:=ho
    refine⟨fun _=>Fine.now hR hK ?_,fun hn=>absurd hut hn⟩
    cases ok<;>simp[conc,concs,h1]
   ·rename_i hut
    split at ho
    ·rename_i hok
     simp at ho;obtain⟨rfl,rfl⟩:=ho
     exact⟨fun he=>absurd he hut,fun _=>⟨hok,Fine.now hR hK (by simp only[conc,concs,avalg_conc hz])⟩⟩
    ·simp at ho
  ·rename_i u a hz hx
   obtain⟨w,h1,h2⟩:=ev_e hR hE hx
   simp only[sop,h2]
   simp only[cond_eq_ite,Bool.and_eq_true,Nat.beq_eq,Bool.not_eq_true']at ho
   split at ho
   ·rename_i hut
    obtain⟨hut,rfl⟩:=hut
    simp at ho;obtain⟨rfl,rfl⟩:=ho
    exact⟨fun _=>Fine.now hR hK h1,fun hn=>absurd hut hn⟩
   ·simp at ho
  ·simp at ho
 case eqi neg x y=>
  simp only[aop]at ho
  split at ho
  ·rename_i t a hx hy
   simp at ho;obtain⟨rfl,rfl⟩:=ho
   obtain⟨w,h1,h2⟩:=ev_e hR hE hy
   simp only[sop,ev_ni hR hE hx,h2];exact Fine.now hR hK rfl
  ·rename_i t a hx hy
   simp at ho;obtain⟨rfl,rfl⟩:=ho
   obtain⟨w,h1,h2⟩:=ev_e hR hE hx
   simp only[sop,ev_ni hR hE hy,h2];exact Fine.now hR hK rfl
  ·rename_i t a u b hx hy
   obtain⟨w,h1,h2⟩:=ev_e hR hE hx
   obtain⟨w',h3,h4⟩:=ev_e hR hE hy
   simp only[sop,h2,h4]
   simp only[cond_eq_ite,Nat.beq_eq]at ho
   split at ho
   ·rename_i htu
    split at ho
    ·rename_i kd hkd
     simp only[Bool.and_eq_true]at ho
     split at ho
     ·rename_i hf
      simp at ho;obtain⟨rfl,rfl⟩:=ho
      have hi:=afits_inj hf.1 hf.2 h1 h3
      refine⟨fun hn=>absurd htu hn,fun _=>⟨kd,hkd,afits_fits hf.1 h1,afits_fits hf.2 h3,fun he=>?_,fun he=>?_⟩⟩
      ·have:=Fine.now hR hK (eqResI_conc neg (aeq a b))
       rwa [hi.2 he]at this
      ·have hn:aeq a b=false:=by cases hb:aeq a b;rfl;exact absurd (hi.1 hb) he
       have:=Fine.now hR hK (eqResI_conc neg (aeq a b))
       rwa [hn]at this
     ·simp at ho
    ·simp at ho
   ·rename_i htu
    simp at ho;obtain⟨rfl,rfl⟩:=ho
    exact⟨fun _=>Fine.now hR hK rfl,fun he=>absurd he htu⟩
  ·simp at ho
end
end Go.Sx
namespace Go.Sx
open Go
section
variable {P:Program} {ρ:Rho} {F:Nat→Prop} {h0 h h':Heap} {H H':AH} {E:AE} {σ:Env} {id:Nat} {v:AV} {K:Value→Heap→Prop} {Qp:List PanicEntry→Heap→Prop}
theorem gM_pos:0<gM:=by decide
theorem gM_mod {s t:Nat} (h:s<gM):(s+gM*t)%gM=s:=by rw[Nat.add_mul_mod_self_left,Nat.mod_eq_of_lt h]
theorem gM_div {s t:Nat} (h:s<gM):(s+gM*t)/gM=t:=by rw[Nat.add_mul_div_left _ _ gM_pos,Nat.div_eq_of_lt h,Nat.zero_add]
theorem Rep.newCellsT (hR:Rep F h0 ρ H h) {w:Bool} {sz ty b cp:Nat} {l:List AV} {vs tail:List Value} (hlt:sz<gM) (hg:grow H id (.cells w (sz+gM*ty) l)=some H') (hc:concs ρ l=some vs) (g:Grow h h' b (vs++tail))
  (hgz:sz≠0→l.length≤cp*sz∧cp*sz≤l.length+tail.length) (ht:ty≠0→TyB h' b ty∧(sz=0→tail=[])):∃ρ',Le ρ ρ'∧ρ'.pl id=some (b,0,cp)∧Rep F h0 ρ' H' h':=
 hR.new hg g.id g.size g.old fun ρ' hl _=>⟨vs,[],tail,concs_mono hl _ _ hc,rfl,by rw[gM_mod hlt];exact hgz,by cases w;exact g.blk;exact Blk.w g.blk,by rw[gM_mod hlt,gM_div hlt];exact fun hz=>⟨rfl,(ht hz).1,(ht hz).2⟩⟩
theorem Rep.newCells (hR:Rep F h0 ρ H h) {w:Bool} {gz b cp:Nat} {l:List AV} {vs tail:List Value} (hg:grow H id (.cells w gz l)=some H') (hc:concs ρ l=some vs) (g:Grow h h' b (vs++tail))
  (hgz:gz≠0→l.length≤cp*gz∧cp*gz≤l.length+tail.length) (hlt:gz<gM:=by decide):∃ρ',Le ρ ρ'∧ρ'.pl id=some (b,0,cp)∧Rep F h0 ρ' H' h':=
 hR.newCellsT (ty:=0) hlt hg hc g hgz fun hz=>absurd rfl hz
theorem Rep.newCellsW (hR:Rep F h0 ρ H h) {gz b cp:Nat} {l:List AV} {vs tail:List Value} (hg:grow H id (.cells true gz l)=some H') (hc:concs ρ l=some vs) (g:GrowW h h' b (vs++tail))
  (hgz:gz≠0→l.length≤cp*gz∧cp*gz≤l.length+tail.length) (hlt:gz<gM:=by decide):∃ρ',Le ρ ρ'∧ρ'.pl id=some (b,0,cp)∧Rep F h0 ρ' H' h':=
 hR.new hg g.id g.size g.old fun ρ' hl _=>⟨vs,[],tail,concs_mono hl _ _ hc,rfl,by rw[Nat.mod_eq_of_lt hlt];exact hgz,g.blk,by rw[Nat.div_eq_of_lt hlt];exact fun hz=>absurd rfl hz⟩
theorem abytes_sound:∀{vs:List AV} {bs:List UInt8},abytes vs=some bs→concs ρ vs=some (bs.map fun b=>.int .u8 b.toNat)∧bs.length=vs.length
 |[],bs,h=>by simp[abytes]at h;subst h;exact⟨rfl,rfl⟩
 |x::vs,bs,h=>by
  unfold abytes at h
  split at h
  ·rename_i heq;simp at heq
  ·rename_i n l heq
   simp at heq
   obtain⟨rfl,rfl⟩:=heq
   split at h
   ·rename_i r hr
    simp only[cond_eq_ite,Nat.beq_eq]at h
    split at h
    ·rename_i hn
     simp at h;subst h
     obtain⟨h1,h2⟩:=abytes_sound hr
     refine⟨?_,by simp[h2]⟩
     simp only[concs,conc,h1,List.map_cons,hn]
    ·simp at h
   ·simp at h
  ·simp at h
theorem RM.len:∀{es:List (AV×AV×Nat)} {ms:List MapEntry},RM ρ es ms→ms.length=es.length
 |[],[],_=>rfl
 |[],_::_,h=>h.elim
 |_::_,[],h=>by simp[RM]at h
 |(k,v,b)::es,e::ms,⟨_,_,_,h4⟩=>by simp[h4.len]
theorem RM.fits {kd:Kd}:∀{es:List (AV×AV×Nat)} {ms:List MapEntry},RM ρ es ms→afitsM kd es=true→∀e∈ms,Sx.fits kd e.key=true
 |[],[],_,_,e,he=>by simp at he
 |[],_::_,h,_,_,_=>h.elim
 |_::_,[],h,_,_,_=>by simp[RM]at h
 |(k,v,b)::es,e::ms,⟨h1,_,_,h4⟩,hf,e',he=>by
  simp[afitsM]at hf
  rcases List.mem_cons.1 he with rfl|he
  ·exact afits_fits hf.1 h1
  ·exact RM.fits h4 hf.2 e' he
theorem same_iff {kd:Kd} {x y:AV} {u w:Value} (hx:afits kd x=true) (hy:afits kd y=true) (hu:conc ρ x=some u) (hw:conc ρ y=some w):Instr.sameBits 10000 u w=aeq x y:=by
 have hi:=afits_inj hx hy hu hw
 have f1:=afits_fits hx hu
 have f2:=afits_fits hy hw
 cases ha:aeq x y with
 |true=>have:=hi.1 ha;subst this;exact sameBits_refl f1
 |false=>
  cases hs:Instr.sameBits 10000 u w with
  |false=>rfl
  |true=>have:=hi.2 (sameBits_eq f1 f2 hs);rw[ha]at this;simp at this
theorem RM.find {kd:Kd} {k:AV} {kv:Value} (hk:afits kd k=true) (hkv:conc ρ k=some kv):∀{es:List (AV×AV×Nat)} {ms:List MapEntry} (i:Nat),RM ρ es ms→afitsM kd es=true→
  (∀j x,afind k es i=some (j,x)→∃u,mfind kv ms i=some (j,u)∧conc ρ x=some u)∧(afind k es i=none→mfind kv ms i=none)
 |[],[],i,_,_=>⟨fun j x h=>by simp[afind]at h,fun _=>rfl⟩
 |[],_::_,_,h,_=>h.elim
 |_::_,[],_,h,_=>by simp[RM]at h
 |(k',v,b)::es,e::ms,i,⟨h1,h2,_,h4⟩,hf=>by
  simp[afitsM]at hf
  have hs:=same_iff hk hf.1 hkv h1
  have ih:=RM.find hk hkv (i+1) h4 hf.2
  simp only[afind,mfind,hs]
  cases ha:aeq k k' with
  |true=>exact⟨fun j x h=>by simp at h;obtain⟨rfl,rfl⟩:=h;exact⟨e.val,by simp,h2⟩,fun h=>by simp at h⟩
  |false=>exact⟨fun j x h=>by simp at h;simpa using ih.1 j x h,fun h=>by simp at h;simpa using ih.2 h⟩
theorem RM.set {x:AV} {u:Value} (hx:conc ρ x=some u):∀{es:List (AV×AV×Nat)} {ms:List MapEntry} (i:Nat),RM ρ es ms→RM ρ (asetM x es i) (ms.modify i fun e=>{e with val:=u})
 |[],[],i,_=>by cases i<;>exact trivial
 |[],_::_,_,h=>h.elim
 |_::_,[],_,h=>by simp[RM]at h
 |(k',v,b)::es,e::ms,0,⟨h1,_,h3,h4⟩=>⟨h1,hx,h3,h4⟩
 |(k',v,b)::es,e::ms,i+1,⟨h1,h2,h3,h4⟩=>by
  rw[List.modify_succ_cons]
  exact⟨h1,h2,h3,RM.set hx i h4⟩
theorem RM.del:∀{es:List (AV×AV×Nat)} {ms:List MapEntry} (i:Nat),RM ρ es ms→RM ρ (adelM es i) (ms.eraseIdx i)
 |[],[],i,_=>by cases i<;>exact trivial
 |[],_::_,_,h=>h.elim
 |_::_,[],_,h=>by simp[RM]at h
 |(k',v,b)::es,e::ms,0,⟨_,_,_,h4⟩=>h4
 |(k',v,b)::es,e::ms,i+1,⟨h1,h2,h3,h4⟩=>⟨h1,h2,h3,RM.del i h4⟩
theorem RM.app {k x:AV} {kv u:Value} {c:Nat} (hk:conc ρ k=some kv) (hx:conc ρ x=some u):∀{es:List (AV×AV×Nat)} {ms:List MapEntry},RM ρ es ms→RM ρ (es++[(k,x,c)]) (ms++[{key:=kv,val:=u,born:=c}])
 |[],[],_=>⟨hk,hx,rfl,trivial⟩
 |[],_::_,h=>h.elim
 |_::_,[],h=>by simp[RM]at h
 |(k',v,b)::es,e::ms,⟨h1,h2,h3,h4⟩=>⟨h1,h2,h3,RM.app hk hx h4⟩
theorem RM.left {since:Nat} {seen:List Nat}:∀{es:List (AV×AV×Nat)} {ms:List MapEntry} {l:List (AV×AV×Nat)},RM ρ es ms→aleft since seen es=some l→
  (∀e∈ms,e.born<since)∧(∀e∈ms,seen.contains e.born=false→∃x∈l,conc ρ x.1=some e.key∧conc ρ x.2.1=some e.val∧e.born=x.2.2)
 |[],[],l,_,h=>⟨fun e he=>by simp at he,fun e he=>by simp at he⟩
 |[],_::_,_,h,_=>h.elim
 |_::_,[],_,h,_=>by simp[RM]at h
 |(k',v,b)::es,e::ms,l,⟨h1,h2,h3,h4⟩,h=>by
  simp only[aleft]at h
  split at h
  ·rename_i r hr
   obtain⟨i1,i2⟩:=RM.left h4 hr
   simp only[cond_eq_ite,Nat.blt_eq]at h
   split at h
   ·rename_i hlt
    refine⟨fun e' he=>?_,fun e' he hs=>?_⟩
    ·rcases List.mem_cons.1 he with rfl|he
     ·rw[h3];exact hlt
     ·exact i1 e' he
    ·split at h
     ·rename_i hsn
      simp at h;subst h
      rcases List.mem_cons.1 he with rfl|he
      ·rw[h3]at hs
       have:b∈seen:=(hasN_iff _ _).1 hsn
       simp[this]at hs
      ·exact i2 e' he hs
     ·simp at h;subst h
      rcases List.mem_cons.1 he with rfl|he
      ·exact⟨(k',v,b),by simp,h1,h2,h3⟩
      ·obtain⟨x,hx,hh⟩:=i2 e' he hs
       exact⟨x,by simp[hx],hh⟩
   ·simp at h
  ·simp at h
theorem left_seen {since:Nat} {seen:List Nat}:∀{es:List (AV×AV×Nat)} {ms:List MapEntry} {l:List (AV×AV×Nat)} {x:AV×AV×Nat},aleft since seen es=some (x::l)→RM ρ es ms→(∀e∈ms,(⟨seen⟩:Array Nat).contains e.born=true)→False
 |[],_,l,x,h,_,_=>by simp[aleft]at h
 |_::_,[],_,_,_,h,_=>by simp[RM]at h
 |(k',v,b)::es,e::ms,l,x,h,⟨h1,h2,h3,h4⟩,hall=>by
  simp only[aleft]at h
  split at h
  ·rename_i r hr
   simp only[cond_eq_ite,Nat.blt_eq]at h
   split at h
   ·split at h
    ·rename_i hsn
     simp at h;subst h
     exact left_seen hr h4 fun e' he'=>hall e' (by simp[he'])
    ·rename_i hsn
     have:=hall e (by simp)
     rw[h3]at this
     apply hsn
     rw[hasN_iff]
     simpa using this
   ·simp at h
  ·simp at h
theorem RM.born {b:Nat}:∀{es:List (AV×AV×Nat)} {ms:List MapEntry} {x:AV×AV×Nat},RM ρ es ms→abyBorn b es=some x→∃e,ms.find? (fun e=>e.born==b)=some e∧conc ρ x.1=some e.key∧conc ρ x.2.1=some e.val
 |[],[],x,_,h=>by simp[abyBorn]at h
 |[],_::_,_,h,_=>h.elim
 |_::_,[],_,h,_=>by simp[RM]at h
 |(k',v,b')::es,e::ms,x,⟨h1,h2,h3,h4⟩,h=>by
  simp only[abyBorn,cond_eq_ite,Nat.beq_eq]at h
  split at h
  ·rename_i hb
   simp at h;subst h
   exact⟨e,by simp[List.find?,h3,hb],h1,h2⟩
  ·rename_i hb
   obtain⟨e',h5,h6⟩:=RM.born h4 h
   refine⟨e',?_,h6⟩
   rw[List.find?_cons_of_neg (by simp[h3,hb])];exact h5
theorem Rep.mapOf (hR:Rep F h0 ρ H h) {a b ba cp c:Nat} {es:List (AV×AV×Nat)} (hg:H.get a=some (.map es c)) (hp:ρ.pl a=some (b,ba,cp)):∃ms,MapB h b ms c∧RM ρ es ms:=by
 obtain⟨r,hr,_,_,ms,h1,h2⟩:=hR.obj a _ hg (by simp)
 rw[hp]at hr;simp at hr;subst hr
 exact⟨ms,h1,h2⟩
theorem Rep.setMap (hR:Rep F h0 ρ H h) {a b ba cp c c':Nat} {es es':List (AV×AV×Nat)} {ms':List MapEntry} (hg:H.get a=some (.map es c)) (hp:ρ.pl a=some (b,ba,cp)) (hput:T.wput H a (some (.map es' c'))=some H')
  (hP:PutO h h' b (.map ⟨ms'⟩ c')) (hm:RM ρ es' ms'):Rep F h0 ρ H' h':=
 hR.set hg (by simp) hp hput hP.size (fun k hk=>hP.old k hk) fun _=>⟨ms',hP.blk,hm⟩
theorem Src.cells {b o n:Nat} {us:List Value} (h:Cells h' b o us):Src h' (some ⟨b,o,none⟩) n us:=h
theorem splice_whole:∀(l us:List Value),l.length=us.length→splice l 0 us=us
 |[],[],_=>rfl
 |[],_::_,h=>by simp at h
 |_::_,[],h=>by simp at h
 |x::l,u::us,h=>by
  simp only[splice]
  rw[splice_whole l us (by simpa using h)]
theorem inplace_eq (vs tail us yv:List Value) (o n1:Nat) (hus:us=(vs.drop o).take n1) (hdl:o+n1≤vs.length) (hfit:o+n1+yv.length≤vs.length+tail.length):
  splice (vs++tail) (o+n1) yv=vs.take o++(us++yv++(vs++tail).drop (o+n1+yv.length)):=by
 obtain⟨L,hL⟩:∃L,L=vs++tail:=⟨_,rfl⟩
 rw[←hL]
 have hLl:L.length=vs.length+tail.length:=by rw[hL];simp
 have hA:vs.take o++us=L.take (o+n1):=by
  rw[hus,hL,List.take_append_of_le_length hdl,List.take_add]
 have hAl:(L.take (o+n1)).length=o+n1:=by rw[List.length_take];omega
 have e1:L=L.take (o+n1)++((L.drop (o+n1)).take yv.length++L.drop (o+n1+yv.length)):=by
  have d:L.drop (o+n1+yv.length)=(L.drop (o+n1)).drop yv.length:=by rw[List.drop_drop]
  rw[d,List.take_append_drop,List.take_append_drop]
 have hB:((L.drop (o+n1)).take yv.length).length=yv.length:=by simp;omega
 have e2:splice L (o+n1) yv=splice (L.take (o+n1)++((L.drop (o+n1)).take yv.length++L.drop (o+n1+yv.length))) ((L.take (o+n1)).length+0) yv:=by
  rw[←e1,hAl,Nat.add_zero]
 rw[e2,splice_pre,splice_tail _ _ _ _ (by omega),splice_whole _ _ hB,←hA]
 simp[List.append_assoc]
theorem app_core (hR:Rep F h0 ρ H h) {size bytes ty m:Nat} {w:Bool} {z:List Value} {x:AV} {xv:Value} {ys:List AV} {yv:List Value} (hx:conc ρ x=some xv) (hz:z.length=size)
  (hy:concs ρ ys=some yv) (hyl:yv.length=m*size) (ho:appA H id size bytes ty w x ys m=some (v,H')) (hK:Fine F h0 ρ H' v K):
  ∃a n c xs,xv=.slice a n c∧xs.length=n*size∧Src h a n xs∧
   (n+m≤c→(a=none∧K (.slice none (n+m) c) h)∨∃b o l,a=some ⟨b,o,none⟩∧(w=false→Blk h b l)∧BlkW h b l∧o+(n+m)*size≤l.length∧
    ∀h',(w=false→Put h h' b (splice l (o+n*size) yv))→PutW h h' b (splice l (o+n*size) yv)→K (.slice (some ⟨b,o,none⟩) (n+m) c) h')∧
   (c<n+m→((n+m)*2+768)*bytes≤281474976710656∧∀c' b h',n+m≤c'→Grow h h' b (xs++yv++(List.replicate (c'-(n+m)) z).flatten)→(ty≠0→TyB h' b ty)→K (.slice (some ⟨b,0,none⟩) (n+m) c') h'):=by
 unfold appA at ho
 split at ho
 ·simp[conc]at hx;subst hx
  simp only[cond_eq_ite,Nat.beq_eq,Nat.ble_eq,Nat.blt_eq]at ho
  split at ho
  ·rename_i hm
   simp at ho;obtain⟨rfl,rfl⟩:=ho
   subst hm
   exact⟨none,0,0,[],rfl,by simp,rfl,fun _=>.inl ⟨rfl,Fine.now hR hK rfl⟩,fun h=>by omega⟩
  ·rename_i hm
   split at ho
   ·rename_i hb
    split at ho
    ·rename_i hsz
     split at ho
     ·rename_i H1 hg
      simp at ho;obtain⟨rfl,rfl⟩:=ho
      refine⟨none,0,0,[],rfl,by simp,rfl,fun h=>by omega,fun _=>⟨by rw[Nat.zero_add];omega,fun c'' b h' hc hg' hty=>?_⟩⟩
      rw[List.nil_append]at hg'
      have hlen:=concs_len hy
      obtain⟨ρ',hl,hp,hR'⟩:=hR.newCellsT (cp:=c'') hsz hg hy hg' (fun hne=>by
       rw[List.length_flatten,List.map_replicate,List.sum_replicate_nat,hz,←hlen,hyl]
       refine⟨Nat.mul_le_mul_right _ (by omega),?_⟩
       rw[←Nat.add_mul];exact Nat.mul_le_mul_right _ (by omega)) (fun hne=>⟨hty hne,fun h0=>by rw[h0]at hz;rw[List.length_eq_zero_iff.1 hz];simp⟩)
      refine hK ρ' h' _ hl hR' ?_
      simp only[conc,hp]
      rw[if_pos (by omega)]
      simp
     ·simp at ho
    ·simp at ho
   ·simp at ho
 ·rename_i a o n c
  simp only[conc]at hx
  split at hx
  ·rename_i b ba cp hp
   simp at hx;subst hx
   split at ho
   ·rename_i w' g l hg
    obtain⟨vs,pre,tail,hc⟩:=hR.cells hg hp
    simp only[cond_eq_ite,beqB_eq,Bool.or_eq_true,Nat.ble_eq,Nat.blt_eq]at ho
    split at ho
    ·rename_i hw
     have hstr:w=false→Blk h b (pre++(vs++tail)):=fun hf=>hc.strict (by rcases hw with hw|hw;exact hw;rw[hf]at hw;simp at hw)
     split at ho
     ·rename_i hroom
      split at ho
      ·rename_i H1 hs
       split at ho
       ·rename_i hfit
        simp at ho;obtain⟨rfl,rfl⟩:=ho
        rw[countA_eq]at hfit
        obtain⟨w1,w2⟩:=hR.wrote hg hp hc hy hs
        have hvl:=concs_len hc.cs
        refine⟨_,n,c,(vs.drop o).take (n*size),rfl,?_,?_,fun _=>.inr ?_,fun h=>by omega⟩
        ·have:(n+m)*size=n*size+m*size:=Nat.add_mul _ _ _
         simp;omega
        ·intro i u hu
         have hi:=(List.getElem?_eq_some_iff.1 hu).1
         simp at hi
         rw[List.getElem?_take_of_lt (by omega),List.getElem?_drop]at hu
         have:=hc.cell hu
         rw[Nat.add_assoc];exact this
        ·have e:ba+o+n*size=ba+(o+n*size):=by omega
         refine⟨_,_,_,rfl,hstr,hc.wide,?_,fun h' hP hPW=>?_⟩
         ·simp[hc.pl];omega
         ·rw[e]at hP hPW
          exact hK ρ h' _ (Le.refl ρ) (w2 h' hP hPW) (by simp only[conc,hp])
       ·simp at ho
      ·simp at ho
     ·rename_i hroom
      split at ho
      ·rename_i hb
       split at ho
       ·rename_i xs hxs
        split at ho
        ·rename_i hsz
         split at ho
         ·rename_i H1 hgr
          simp at ho;obtain⟨rfl,rfl⟩:=ho
          obtain⟨us,h2,h3,h4⟩:=hc.part hxs
          refine⟨_,n,c,us,rfl,h3,h4,fun h=>absurd h hroom,fun _=>⟨by omega,fun c'' b' h' hcc hg' hty=>?_⟩⟩
          have hjo:concs ρ (joined xs ys)=some (us++yv):=by rw[joined_eq];exact concs_app h2 hy
          have hlen:=concs_len hjo
          obtain⟨ρ',hl,hp',hR'⟩:=hR.newCellsT (cp:=c'') hsz hgr hjo hg' (fun hne=>by
           rw[List.length_flatten,List.map_replicate,List.sum_replicate_nat,hz,←hlen,List.length_append,h3,hyl,←Nat.add_mul]
           refine⟨Nat.mul_le_mul_right _ hcc,?_⟩
           rw[←Nat.add_mul];exact Nat.mul_le_mul_right _ (by omega)) (fun hne=>⟨hty hne,fun h0=>by rw[h0]at hz;rw[List.length_eq_zero_iff.1 hz];simp⟩)
          refine hK ρ' h' _ hl hR' ?_
          simp only[conc,hp']
          rw[if_pos (by omega)]
          simp
         ·simp at ho
        ·simp at ho
       ·simp at ho
      ·simp at ho
    ·simp at ho
   ·simp at ho
  ·simp at hx
 ·rename_i a o n k
  simp only[conc]at hx
  split at hx
  ·rename_i b ba cp hp
   split at hx
   ·rename_i hnk
    simp at hx;subst hx
    split at ho
    ·rename_i w' g l hg
     obtain⟨vs,pre,tail,hc⟩:=hR.cells hg hp
     simp only[cond_eq_ite,Bool.or_eq_true,Bool.and_eq_true,beqB_eq,Nat.beq_eq,Nat.ble_eq,Nat.blt_eq]at ho
     split at ho
     ·rename_i hcond
      obtain⟨⟨⟨⟨⟨hgs,hpos⟩,hpl⟩,hok⟩,hw⟩,hb⟩:=hcond
      have hsz:size<gM:=by rw[←hgs];exact Nat.mod_lt _ gM_pos
      have hstr:w=false→Blk h b (pre++(vs++tail)):=fun hf=>hc.strict (by rcases hw with hw|hw;exact hw;rw[hf]at hw;simp at hw)
      obtain⟨hcap,hcap2⟩:=hc.gz (by omega)
      rw[hgs]at hcap hcap2
      have hvl:=concs_len hc.cs
      have hadd:(n+m)*size=n*size+m*size:=Nat.add_mul _ _ _
      split at ho
      ·rename_i hfit
       rw[countA_eq]at hfit
       split at ho
       ·rename_i H1 hs
        simp at ho;obtain⟨rfl,rfl⟩:=ho
        obtain⟨w1,w2⟩:=hR.wrote hg hp hc hy hs
        have hle:n+m≤cp-k:=by
         have h5:(k+(n+m))*size≤cp*size:=by rw[Nat.add_mul,←hok];omega
         have:=Nat.le_of_mul_le_mul_right h5 hpos
         omega
        refine⟨_,n,_,(vs.drop o).take (n*size),rfl,by simp;omega,?_,fun _=>.inr ?_,fun h=>by omega⟩
        ·intro i u hu
         have hi:=(List.getElem?_eq_some_iff.1 hu).1
         simp at hi
         rw[List.getElem?_take_of_lt (by omega),List.getElem?_drop]at hu
         have:=hc.cell hu
         rw[Nat.add_assoc];exact this
        ·have e:ba+o+n*size=ba+(o+n*size):=by omega
         refine⟨_,_,_,rfl,hstr,hc.wide,by simp[hc.pl];omega,fun h' hP hPW=>?_⟩
         rw[e]at hP hPW
         exact hK ρ h' _ (Le.refl ρ) (w2 h' hP hPW) (by simp only[conc,hp];rw[if_pos (by omega)])
       ·simp at ho
      ·rename_i hfit
       split at ho
       ·rename_i xs hxs
        split at ho
        ·rename_i H1 hkill
         split at ho
         ·rename_i H2 hgr
          simp at ho;obtain⟨rfl,rfl⟩:=ho
          obtain⟨us,h2,h3,h4⟩:=hc.part hxs
          have hjo:concs ρ (joined xs ys)=some (us++yv):=by rw[joined_eq];exact concs_app h2 hy
          have hlen:=concs_len hjo
          have hR1:Rep F h0 ρ H1 h:=hR.kill (getB_get hg) (by simp) hkill
          obtain⟨r0,hr0,hF0',hlt0,_⟩:=hR.obj a _ (getB_get hg) (by simp)
          have hF0:=hF0' (wput_spec hkill).1
          rw[hp]at hr0;simp at hr0;subst hr0
          refine⟨_,n,_,us,rfl,h3,h4,fun hle=>.inr ?_,fun _=>⟨by omega,fun c'' b' h' hcc hg' hty=>?_⟩⟩
          ·refine⟨_,_,_,rfl,hstr,hc.wide,?_,fun h' hPs hP=>?_⟩
           ·have h5:(k+(n+m))*size≤cp*size:=Nat.mul_le_mul_right _ (by omega)
            rw[Nat.add_mul,←hok]at h5
            simp[hc.pl];omega
           ·-- in place
            have hget:=T.put_get (wput_spec hkill).2
            have hobj:∀a' B' r',H1.get a'=some B'→B'≠.dead→ρ.pl a'=some r'→r'.1≠b:=by
             intro a' B' r' hB' hd' hp'
             rw[hget a']at hB'
             split at hB'
             ·simp at hB';exact absurd hB'.symm hd'
             ·rename_i hne
              exact hR.inj a' a B' _ r' _ hB' hd' (getB_get hg) (by simp) hp' hp hne
            have h5:(k+(n+m))*size≤cp*size:=Nat.mul_le_mul_right _ (by omega)
            rw[Nat.add_mul,←hok]at h5
            obtain⟨ρ',hl,hp',_,hR'⟩:=hR1.add (ba:=ba+o) (cp:=cp-k) default hgr hobj hF0 (by rw[hP.size];exact hlt0) (by rw[hP.size];exact Nat.le_refl _) (fun k' hk' _=>hP.old k' hk') (fun ρ' hl _ _=>by
             have hus:us=(vs.drop o).take (n*size):=by
              have:=hc.part hxs
              rw[dropped_eq]at hxs
              obtain⟨_,e2⟩:=taken_eq hxs
              subst e2
              have h6:=concs_take (n*size) (concs_drop o hc.cs)
              rw[h2]at h6;simpa using h6
             have hdl:o+n*size≤vs.length:=by rw[hvl,←countA_eq];exact hpl
             refine⟨us++yv,pre++vs.take o,(vs++tail).drop (o+(n+m)*size),concs_mono hl _ _ hjo,by simp[hc.pl];omega,fun _=>?_,?_,?_⟩
             ·rw[gM_mod hsz,←hlen,List.length_append,h3,hyl]
              have e3:(cp-k)*size=cp*size-o:=by rw[Nat.sub_mul,hok]
              simp
              omega
             ·have e4:pre++vs.take o++(us++yv++(vs++tail).drop (o+(n+m)*size))=splice (pre++(vs++tail)) (ba+o+n*size) yv:=by
               have e5:ba+o+n*size=pre.length+(o+n*size):=by rw[hc.pl];omega
               rw[e5,splice_pre,inplace_eq vs tail us yv o (n*size) hus hdl (by omega)]
               have e6:o+n*size+yv.length=o+(n+m)*size:=by omega
               rw[e6,List.append_assoc]
              cases w with
              |true=>show BlkW h' b _;rw[e4];exact hP.blk
              |false=>show Blk h' b _;rw[e4];exact(hPs rfl).blk
             ·rw[gM_mod hsz,gM_div hsz]
              intro hne
              by_cases ht:g/gM=ty∧o=0
              ·rw[if_pos ht]at hne⊢
               obtain⟨t1,t2,_⟩:=hc.tag (by rw[ht.1];exact hne)
               rw[ht.1]at t2
               exact⟨by show ba+o=0;omega,hP.ty _ t2,fun h0=>absurd h0 (by omega)⟩
              ·rw[if_neg ht]at hne;exact absurd rfl hne)
            refine hK ρ' h' _ hl hR' ?_
            simp only[conc,hp']
            rw[if_pos (by omega)]
            simp
          ·obtain⟨ρ',hl,hp',hR'⟩:=hR1.newCellsT (cp:=c'') hsz hgr hjo hg' (fun hne=>by
            rw[List.length_flatten,List.map_replicate,List.sum_replicate_nat,hz,←hlen,List.length_append,h3,hyl,←Nat.add_mul]
            refine⟨Nat.mul_le_mul_right _ hcc,?_⟩
            rw[←Nat.add_mul];exact Nat.mul_le_mul_right _ (by omega)) (fun hne=>by
            by_cases ht:g/gM=ty∧o=0
            ·rw[if_pos ht]at hne⊢
             exact⟨hty hne,fun h0=>absurd h0 (by omega)⟩
            ·rw[if_neg ht]at hne;exact absurd rfl hne)
           refine hK ρ' h' _ hl hR' ?_
           simp only[conc,hp']
           rw[if_pos (by omega)]
           simp
         ·simp at ho
        ·simp at ho
       ·simp at ho
     ·simp at ho
    ·simp at ho
   ·simp at hx
  ·simp at hx
 ·simp at ho
theorem appA_sound (hR:Rep F h0 ρ H h) {size bytes m:Nat} {z:List Value} {x:AV} {xv:Value} {ys:List AV} {yv:List Value} {a':Option Addr} (hx:conc ρ x=some xv) (hz:z.length=size)
  (hy:concs ρ ys=some yv) (hyl:yv.length=m*size) (hys:Src h a' m yv) (h1:onesA ys=true) (ho:appA H id size bytes 0 false x ys m=some (v,H')) (hK:Fine F h0 ρ H' v K):
  ∃a n c,xv=.slice a n c∧appP h K size bytes z a n c a' m:=by
 obtain⟨a,n,c,xs,h2,h3,h4,h5,h6⟩:=app_core hR hx hz hy hyl ho hK
 refine⟨a,n,c,h2,xs,yv,h3,hyl,h4,hys,concs_ones hy h1,fun hle=>?_,fun hlt=>⟨(h6 hlt).1,fun c' b h' x y=>(h6 hlt).2 c' b h' x y fun h0=>absurd rfl h0⟩⟩
 rcases h5 hle with⟨rfl,hk⟩|⟨b,o,l,rfl,hb,_,hfit,hk⟩
 ·exact hk
 ·exact⟨l,hb rfl,hfit,fun h' hP=>hk h' (fun _=>hP) hP.w⟩
theorem appB_sound (hR:Rep F h0 ρ H h) {m e:Nat} {x:AV} {xv yw:Value} {ys:List AV} {yv:List Value} (hx:conc ρ x=some xv)
  (hy:concs ρ ys=some yv) (hyl:yv.length=m) (hys:SrcB h yw m yv) (h1:onesA ys=true) (ho:appA H id 1 1 e true x ys m=some (v,H')) (hK:Fine F h0 ρ H' v K):
  ∃a n c,xv=.slice a n c∧appbP h K e a n c yw m:=by
 obtain⟨a,n,c,xs,h2,h3,h4,h5,h6⟩:=app_core (size:=1) (z:=[.int .u8 0]) hR hx rfl hy (by omega) ho hK
 rw[Nat.mul_one]at h3
 refine⟨a,n,c,h2,xs,yv,h3,hyl,h4,hys,concs_ones hy h1,fun hle=>?_,fun hlt=>?_⟩
 ·rcases h5 hle with⟨rfl,hk⟩|⟨b,o,l,rfl,_,hb,hfit,hk⟩
  ·exact hk
  ·refine⟨l,hb,by omega,fun h' hP=>hk h' (fun e=>by simp at e) (by rw[Nat.mul_one];exact hP)⟩
 ·obtain⟨h7,h8⟩:=h6 hlt
  rw[Nat.mul_one]at h7
  refine⟨h7,fun c' b h' hc hg ht=>h8 c' b h' hc ?_ fun _=>ht⟩
  have e:(List.replicate (c'-(n+m)) [Value.int .u8 0]).flatten=List.replicate (c'-(n+m)) (Value.int .u8 0):=List.flatten_replicate_singleton
  exact e.symm▸hg
end
end Go.Sx
