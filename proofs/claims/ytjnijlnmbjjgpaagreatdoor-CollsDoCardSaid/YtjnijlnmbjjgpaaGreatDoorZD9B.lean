/-
  Regions in whichever order, as trees: soundly.
  The predicate transformer is sound for all of a function's code.
  A function's contract out of its simplified code.
  Small words for the walks: contracts that return, the heap's changes, numbers in range.
  Slices that read as lists; slices of the call's own, appended to.
  A walk that knows less serves where more is known: the slots may be cut down on the way.
  Cuts of slices within a walk; more small words.
  From a function's contract to its row: arguments opened, the post shut.
  Texts in order; plain.
  The lift, more: slices within slices.
  Appends to nil; slices written; small words.
-/
import Derived.RangeFuncRecord
import Derived.RecoverIn
import Derived.OpenShut
import Derived.Carry
import Derived.SizedLaws
import Derived.WideKeyArgs
import Derived.Lib.LaidTab
import Derived.Lib.Bytealg
import Derived.Deep.DeepHandedRow
import Derived.Test.YtjnijlnmbjjgpaaGreatDoorZD9A
namespace Go.Sx
open Go
variable {P:Program} {σ:Env} {ops:Array Oper} {nt:Nat} {ds:List Deferred} {Qp:List PanicEntry→Heap→Prop}
def anyT (P:Program) (Qp:List PanicEntry→Heap→Prop) (K:Env→Heap→Prop) (ss:List SOper) (ops:Array Oper):Nat→Array Bool→Env→Heap→Prop
 |0,listed,σ,h=>Region.ready .any ops listed=[]∧K σ h
 |f+1,listed,σ,h=>(Region.ready .any ops listed=[]→K σ h)∧∀i∈Region.ready .any ops listed,∃s,ss[i]? =some s∧sopr P σ h s (anyT P Qp K ss ops f (listed.setIfInBounds i true)) Qp
theorem anyT_sound {K:Env→Heap→Prop} {τ:Env} {ro:Option Nat} {n:Nat} {Q:Exit→Act→World→Prop} {w0:World} {ss:List SOper} (hgood:∀(i:Nat) (s:SOper),ss[i]? =some s→Good P ops nt i s) (hd:∀(i:Nat) (s:SOper),ss[i]? =some s→∀d,s.dst=some d→τ d=none)
  (hN:∀σ' a' w',Rel σ' nt ds a'→SameB w0 w'→K σ' w'.heap→Q .normal a' w') (hQ:∀ch a' w',Rel τ nt ds a'→SameB w0 w'→Qp ch w'.heap→Q (.panic ch) a' w'):
  ∀(f:Nat) (listed:Array Bool) (σ:Env) (a:Act) (w:World),Rel σ nt ds a→Rel τ nt ds a→SameB w0 w→anyT P Qp K ss ops f listed σ w.heap→wpAnyIn (FW ro) n P .any ops Q f listed a w
 |0,listed,σ,a,w,hr,_,hb,h=>⟨h.1,hN σ a w hr hb h.2⟩
 |f+1,listed,σ,a,w,hr,hτ,hb,h=>by
  refine⟨fun he=>hN σ a w hr hb (h.1 he),fun i hi=>?_⟩
  obtain⟨s,hs,hk⟩:=h.2 i hi
  refine opr_sound (hgood i s hs) hr hτ (hd i s hs) hk (fun σ' a' w' hr' hτ' hb' hk'=>?_) (fun ch w' hb' hk'=>hQ ch a w' hτ (hb.trans hb') hk')
  exact anyT_sound hgood hd hN hQ f _ σ' a' w' hr' hτ' (hb.trans hb') hk'
theorem set_comm (l:Array Bool) (i j:Nat):(l.setIfInBounds i true).setIfInBounds j true=(l.setIfInBounds j true).setIfInBounds i true:=by
 apply Array.ext_getElem?
 intro k
 simp only[Array.getElem?_setIfInBounds,Array.size_setIfInBounds]
 by_cases h1:j=k<;>by_cases h2:i=k<;>simp[h1,h2]
theorem ready_stays {i x:Nat} {listed:Array Bool} (hne:i≠x) (hi:i∈Region.ready .any ops listed) (_hsz:listed.size=ops.size):i∈Region.ready .any ops (listed.setIfInBounds x true):=by
 obtain⟨h1,o,ho,h2⟩:=mem_ready.1 hi
 refine mem_ready.2 ⟨by rw[getD_set_ne true (fun e=>hne e.symm)];exact h1,o,ho,fun e he hb=>getD_set_true (h2 e he hb)⟩
theorem ahead_of_ready {i:Nat} {listed:Array Bool} (hi:i∈Region.ready .any ops listed):∀k∈aheadOf ops i,listed.getD k false=true:=by
 obtain⟨h1,o,ho,h2⟩:=mem_ready.1 hi
 intro k hk
 simp only[aheadOf,ho,List.mem_map,List.mem_filter]at hk
 obtain⟨e,⟨he,hbd⟩,rfl⟩:=hk
 exact h2 e (by simpa using he) hbd
def FuelOK (n f:Nat) (listed:Array Bool):Prop:=∀S:List Nat,S.Nodup→(∀y∈S,y<n∧listed.getD y true=false)→S.length≤f
theorem FuelOK.step {n f x:Nat} {listed:Array Bool} (hf:FuelOK n (f+1) listed) (hx:x<n) (hl:listed.getD x true=false):FuelOK n f (listed.setIfInBounds x true):=by
 intro S hnd hS
 have hxs:x∉S:=by
  intro hm
  have:=(hS x hm).2
  rw[Array.getD_eq_getD_getElem?]at this hl
  by_cases hs':x<listed.size
  ·simp[hs']at this
  ·simp[hs']at hl
 have:=hf (x::S) (List.nodup_cons.2 ⟨hxs,hnd⟩) (fun y hy=>by
  rcases List.mem_cons.1 hy with rfl|hy
  ·exact⟨hx,hl⟩
  ·obtain⟨h1,h2⟩:=hS y hy
   refine⟨h1,?_⟩
   have hne:y≠x:=fun e=>hxs (by rw[←e];exact hy)
   rwa [getD_set_ne true (fun e=>hne e.symm)]at h2)
 simp at this
 exact this
theorem ready_lt {i:Nat} {listed:Array Bool} (hi:i∈Region.ready .any ops listed):i<ops.size:=by
 obtain⟨_,o,ho,_⟩:=mem_ready.1 hi
 exact(Array.getElem?_eq_some_iff.1 ho).1
theorem upd_upd (σ:Env) (d:Option Nat) (v u:Value):upd (upd σ d v) d u=upd σ d u:=by
 funext t
 by_cases h1:d=some t
 ·subst h1;rw[upd_same,upd_same]
 ·rw[upd_ne h1,upd_ne h1,upd_ne h1]
def Apart (s p:SOper):Prop:=∀d,s.dst=some d→d∉p.slots∧p.dst≠some d
theorem chk_unset {p s:SOper} {h:Heap} {v:Value} (hq:cls p.op≤1) (ha:Apart s p) (hc:chkOp P (upd σ s.dst v) h p):chkOp P σ h p:=by
 obtain⟨u,⟨_,hu⟩,redo⟩:=quietr hq hc
 refine redo σ h (fun t ht=>(upd_ne fun e=>(ha t e).1 ht).symm) (.inr (Ext.refl h)) _ ⟨rfl,?_⟩
 funext t
 by_cases hd:p.dst=some t
 ·have h1:=congrFun hu t
  have hne:s.dst≠some t:=fun e=>(ha t e).2 hd
  rw[upd_ne hne]at h1
  rw[←h1,hd,upd_same,upd_same]
 ·rw[upd_ne hd]
theorem chk_set {p s:SOper} {h:Heap} {v:Value} (hq:cls p.op≤1) (ha:Apart s p) (hc:chkOp P σ h p):chkOp P (upd σ s.dst v) h p:=by
 obtain⟨u,⟨_,hu⟩,redo⟩:=quietr hq hc
 refine redo _ h (fun t ht=>upd_ne fun e=>(ha t e).1 ht) (.inr (Ext.refl h)) _ ⟨rfl,?_⟩
 show upd (upd σ s.dst v) p.dst u=upd σ s.dst v
 rw[upd_comm (fun t h1 h2=>(ha t h1).2 h2),hu]
theorem sopr_qp {Qp':List PanicEntry→Heap→Prop} {s:SOper} {h:Heap} {K:Env→Heap→Prop} (hs:sopr P σ h s K Qp) (hq:∀ch h,Qp ch h→Qp' ch h):sopr P σ h s K Qp':=by
 unfold sopr at hs⊢
 split at hs
 ·exact sop_qp s.op hs hq
 ·split at hs
  ·split at hs
   ·exact sop_qp s.op hs hq
   ·exact hs
  ·exact hs.elim
theorem sopr_quiet {Qp':List PanicEntry→Heap→Prop} {s:SOper} {h:Heap} {K:Env→Heap→Prop} (hq:cls s.op≤1) (hs:sopr P σ h s K Qp):sopr P σ h s K Qp':=by
 unfold sopr at hs⊢
 split at hs
 ·obtain⟨v,hv,hall⟩:=quiet s.op hq hs
  exact hall h (.inr (Ext.refl h)) _ _ hv
 ·split at hs
  ·split at hs
   ·obtain⟨v,hv,hall⟩:=quiet s.op hq hs
    exact hall h (.inr (Ext.refl h)) _ _ hv
   ·exact hs
  ·exact hs.elim
theorem chk_use {s:SOper} {h:Heap} {v:Value} {K:Env→Heap→Prop} (hq:cls s.op≤1) (hd:∀d,s.dst=some d→d∉s.slots) (hc:chkOp P (upd σ s.dst v) h s) (hk:K (upd σ s.dst v) h):sopr P σ h s K Qp:=by
 obtain⟨u,⟨_,hu⟩,redo⟩:=quietr hq hc
 have hr:sopr P σ h s K (fun _ _=>False):=redo σ h (fun t ht=>(upd_ne fun e=>hd t e ht).symm) (.inr (Ext.refl h)) K (by
  rw[upd_upd]at hu
  rw[hu];exact hk)
 obtain⟨u',hk',redo'⟩:=quietr hq hr
 exact sopr_qp hr fun _ _ hf=>hf.elim
def anyW (P:Program) (Qp:List PanicEntry→Heap→Prop) (K:Env→Heap→Prop) (ss:List SOper) (cl:List (List Nat)) (ops:Array Oper):Nat→List (Nat×SOper)→Array Bool→Env→Heap→Prop
 |0,W,listed,σ,h=>(∀p∈W,chkOp P σ h p.2)∧Region.ready .any ops listed=[]∧K σ h
 |f+1,W,listed,σ,h=>(∀p∈W,chkOp P σ h p.2)∧(Region.ready .any ops listed=[]→K σ h)∧
  ∀i∈Region.ready .any ops listed,∃s,ss[i]? =some s∧sopr P σ h s (anyW P Qp K ss cl ops f (keepW cl i s W) (listed.setIfInBounds i true)) Qp
theorem anyW_chk {K:Env→Heap→Prop} {ss:List SOper} {cl:List (List Nat)} {f:Nat} {W:List (Nat×SOper)} {listed:Array Bool} {h:Heap} (ha:anyW P Qp K ss cl ops f W listed σ h):∀p∈W,chkOp P σ h p.2:=by
 cases f<;>exact ha.1
theorem keepW_sub {cl:List (List Nat)} {y:Nat} {s:SOper} {W:List (Nat×SOper)}:∀p∈keepW cl y s W,p∈W:=by
 intro p hp
 unfold keepW at hp
 split at hp
 ·exact hp
 ·exact(List.mem_filter.1 hp).1
theorem keepW_mono {cl:List (List Nat)} {y:Nat} {s:SOper} {W W':List (Nat×SOper)} (hs:∀p∈W',p∈W):∀p∈keepW cl y s W',p∈keepW cl y s W:=by
 intro p hp
 unfold keepW at hp⊢
 split at hp
 ·rename_i h;rw[if_pos h];exact hs p hp
 ·rename_i h;rw[if_neg h]
  exact List.mem_filter.2 ⟨hs p (List.mem_filter.1 hp).1,(List.mem_filter.1 hp).2⟩
theorem anyW_less {K:Env→Heap→Prop} {ss:List SOper} {cl:List (List Nat)}:∀(f:Nat) (W W':List (Nat×SOper)) (listed:Array Bool) (σ:Env) (h:Heap),(∀p∈W',p∈W)→anyW P Qp K ss cl ops f W listed σ h→anyW P Qp K ss cl ops f W' listed σ h
 |0,W,W',listed,σ,h,hs,ha=>⟨fun p hp=>ha.1 p (hs p hp),ha.2⟩
 |f+1,W,W',listed,σ,h,hs,ha=>⟨fun p hp=>ha.1 p (hs p hp),ha.2.1,fun i hi=>by
  obtain⟨s,h1,h2⟩:=ha.2.2 i hi
  exact⟨s,h1,sopr_mono h2 fun σ1 h1 hh=>anyW_less f _ _ _ σ1 h1 (keepW_mono hs) hh⟩⟩
theorem anyW_anyT {K:Env→Heap→Prop} {ss:List SOper} {cl:List (List Nat)}:∀(f:Nat) (W:List (Nat×SOper)) (listed:Array Bool) (σ:Env) (h:Heap),anyW P Qp K ss cl ops f W listed σ h→anyT P Qp K ss ops f listed σ h
 |0,W,listed,σ,h,ha=>ha.2
 |f+1,W,listed,σ,h,ha=>⟨ha.2.1,fun i hi=>by
  obtain⟨s,h1,h2⟩:=ha.2.2 i hi
  exact⟨s,h1,sopr_mono h2 fun σ1 h1 hh=>anyW_anyT f _ _ σ1 h1 hh⟩⟩
abbrev clOf (ops:Array Oper):List (List Nat):=(List.range ops.size).map fun i=>closure (aheads ops) (ops.size*ops.size+ops.size) ((aheads ops).getD i []) []
theorem not_waits {x i:Nat} {listed:Array Bool} (hcl:Closed ops (fun k=>listed.getD k false=true)) (hx:x∈Region.ready .any ops listed) (hi:i∈Region.ready .any ops listed) (hsz:listed.size=ops.size):¬Waits ops x i:=by
 intro hw
 have h1:=hw _ hcl (ahead_of_ready hi)
 have h2:=(mem_ready.1 hx).1
 have hlt:=ready_lt hx
 rw[Array.getD_eq_getD_getElem?]at h1 h2
 have hs':x<listed.size:=by omega
 simp[hs']at h1 h2
 rw[h1]at h2;simp at h2
theorem two_left {x i f:Nat} {listed:Array Bool} (hfu:FuelOK ops.size (f+1) listed) (hix:i≠x) (hx:x∈Region.ready .any ops listed) (hi:i∈Region.ready .any ops listed):f≠0:=by
 rintro rfl
 have:=hfu [x,i] (by simp[Ne.symm hix]) (fun y hy=>by
  simp only[List.mem_cons,List.not_mem_nil,or_false]at hy
  rcases hy with rfl|rfl
  ·exact⟨ready_lt hx,(mem_ready.1 hx).1⟩
  ·exact⟨ready_lt hi,(mem_ready.1 hi).1⟩)
 simp at this
theorem still_unlisted {y i:Nat} {listed:Array Bool} (hi:listed.getD i true=false) (hy:(listed.setIfInBounds i true).getD y true=false):listed.getD y true=false:=by
 by_cases hyi:y=i
 ·subst hyi;exact hi
 ·rwa [getD_set_ne true (fun e=>hyi e.symm)]at hy
theorem selfChk {s:SOper} {h:Heap} {v:Value} (hq:cls s.op≤1) (hself:∀d,s.dst=some d→d∉s.slots)
  (redo:∀(σ':Env) (h':Heap),(∀(t:Nat),t∈s.slots→σ' t=σ t)→cls s.op=0∨Ext h h'→∀(K':Env→Heap→Prop),K' (upd σ' s.dst v) h'→sopr P σ' h' s K' Qp):chkOp P (upd σ s.dst v) h s:=by
 have h1:=redo (upd σ s.dst v) h (fun q hq'=>upd_ne fun e=>hself q e hq') (.inr (Ext.refl h)) (fun σ' h'=>h'=h∧σ'=upd σ s.dst v) ⟨rfl,upd_upd _ _ _ _⟩
 exact sopr_quiet hq h1
theorem easy_first {K:Env→Heap→Prop} {ss:List SOper} {x:Nat} {s:SOper} (hs:ss[x]? =some s):∀(f:Nat) (W:List (Nat×SOper)) (listed:Array Bool) (σ:Env) (h:Heap),listed.size=ops.size→FuelOK ops.size (f+1) listed→Closed ops (fun k=>listed.getD k false=true)→x∈Region.ready .any ops listed→
  (∀y,listed.getD y true=false→y≠x→Waits ops x y∨∃t,ss[y]? =some t∧loose s t=true)→(∀p∈W,cls p.2.op≤1∧Apart s p.2)→(∀p∈W,chkOp P σ h p.2)→
  sopr P σ h s (anyW P Qp K ss (clOf ops) ops f (keepW (clOf ops) x s W) (listed.setIfInBounds x true)) Qp→anyW P Qp K ss (clOf ops) ops (f+1) W listed σ h:=by
 intro f
 induction f with
 |zero=>
  intro W listed σ h hsz hfu hcl hx hy hW hchk hk
  refine⟨hchk,fun he=>(by rw[he]at hx;simp at hx),fun i hi=>?_⟩
  by_cases hix:i=x
  ·subst hix;exact⟨s,hs,hk⟩
  ·exact absurd rfl (two_left hfu hix hx hi)
 |succ f ih=>
  intro W listed σ h hsz hfu hcl hx hy hW hchk hk
  refine⟨hchk,fun he=>(by rw[he]at hx;simp at hx),fun i hi=>?_⟩
  by_cases hix:i=x
  ·subst hix;exact⟨s,hs,hk⟩
  ·have hi2:=ready_stays hix hi hsz
   have hi1:=(mem_ready.1 hi).1
   rcases hy i hi1 hix with hw|⟨t,ht,hl⟩
   ·exact absurd hw (not_waits hcl hx hi hsz)
   ·refine⟨t,ht,?_⟩
    obtain⟨l1,l2,l3,l4⟩:=loose_spec hl
    have hq:cls s.op≤1:=by omega
    have hkeep:keepW (clOf ops) x s W=W:=by unfold keepW;rw[if_pos (Nat.ble_eq_true_of_le hq)]
    rw[hkeep]at hk
    obtain⟨v,hv,redo⟩:=quietr hq hk
    obtain⟨t',ht',hh⟩:=hv.2.2 i hi2
    rw[ht]at ht';simp at ht';subst ht'
    refine sopr_agree (σ:=upd σ s.dst v) (fun q hq'=>(upd_ne fun e=>l1 q e hq').symm) hh fun u h' he hh'=>?_
    rw[upd_comm l2]at hh'
    have hW':∀p∈keepW (clOf ops) i t W,cls p.2.op≤1∧Apart s p.2:=fun p hp=>hW p (keepW_sub p hp)
    refine ih (keepW (clOf ops) i t W) (listed.setIfInBounds i true) _ h' (by simp[hsz]) (hfu.step (ready_lt hi) hi1) (closed_step hcl (ahead_of_ready hi)) (ready_stays (fun e=>hix e.symm) hx hsz)
     (fun y hy1 hyx=>hy y (still_unlisted hi1 hy1) hyx) hW' (fun p hp=>chk_unset (hW' p hp).1 (hW' p hp).2 (anyW_chk hh' p hp)) ?_
    have hkeep2:keepW (clOf ops) x s (keepW (clOf ops) i t W)=keepW (clOf ops) i t W:=by
     show(if _ then _ else _)=_
     rw[if_pos (Nat.ble_eq_true_of_le hq)]
    rw[hkeep2]
    refine redo _ h' (fun q hq'=>upd_ne fun e=>l3 q e hq') ?_ _ ?_
    ·rcases l4 with h0|⟨_,h2⟩
     ·exact .inl h0
     ·exact .inr (he h2)
    ·rw[set_comm];exact hh'
theorem envL_spec {x y:SOper} (hl:envL x y=true):(∀d,x.dst=some d→d∉y.slots)∧(∀t,x.dst=some t→y.dst≠some t)∧(∀e,y.dst=some e→e∉x.slots):=by
 unfold envL at hl
 simp only[Bool.and_eq_true]at hl
 obtain⟨h1,h2⟩:=hl
 refine⟨fun d hd=>?_,fun t ht hy=>?_,fun e he=>?_⟩
 ·rw[hd]at h1;simp only[Bool.and_eq_true,Bool.not_eq_true']at h1
  intro hm;rw[(hasN_iff d y.slots).2 hm]at h1;simp at h1
 ·rw[ht]at h1;simp only[hy,Bool.and_eq_true,Bool.not_eq_true']at h1
  simp at h1
 ·rw[he]at h2;simp only[Bool.not_eq_true']at h2
  intro hm;rw[(hasN_iff e x.slots).2 hm]at h2;simp at h2
theorem watch_first {K:Env→Heap→Prop} {ss:List SOper} {x:Nat} {s:SOper} (hs:ss[x]? =some s) (hq:cls s.op≤1) (hself:∀d,s.dst=some d→d∉s.slots):∀(f:Nat) (W:List (Nat×SOper)) (listed:Array Bool) (σ:Env) (h:Heap),listed.size=ops.size→FuelOK ops.size (f+1) listed→Closed ops (fun k=>listed.getD k false=true)→x∈Region.ready .any ops listed→
  (∀y,listed.getD y true=false→y≠x→Waits ops x y∨∃t,ss[y]? =some t∧envL s t=true)→(∀p∈W,cls p.2.op≤1∧Apart s p.2)→(∀p∈W,chkOp P σ h p.2)→
  sopr P σ h s (anyW P Qp K ss (clOf ops) ops f ((x,s)::W) (listed.setIfInBounds x true)) Qp→anyW P Qp K ss (clOf ops) ops (f+1) W listed σ h:=by
 intro f
 induction f with
 |zero=>
  intro W listed σ h hsz hfu hcl hx hy hW hchk hk
  refine⟨hchk,fun he=>(by rw[he]at hx;simp at hx),fun i hi=>?_⟩
  by_cases hix:i=x
  ·subst hix
   exact⟨s,hs,sopr_mono hk fun σ1 h1 hh=>anyW_less 0 _ _ _ σ1 h1 (fun p hp=>by simp[keepW_sub p hp]) hh⟩
  ·exact absurd rfl (two_left hfu hix hx hi)
 |succ f ih=>
  intro W listed σ h hsz hfu hcl hx hy hW hchk hk
  refine⟨hchk,fun he=>(by rw[he]at hx;simp at hx),fun i hi=>?_⟩
  by_cases hix:i=x
  ·subst hix
   exact⟨s,hs,sopr_mono hk fun σ1 h1 hh=>anyW_less (f+1) _ _ _ σ1 h1 (fun p hp=>by simp[keepW_sub p hp]) hh⟩
  ·have hi2:=ready_stays hix hi hsz
   have hi1:=(mem_ready.1 hi).1
   rcases hy i hi1 hix with hw|⟨t,ht,hl⟩
   ·exact absurd hw (not_waits hcl hx hi hsz)
   ·refine⟨t,ht,?_⟩
    obtain⟨l1,l2,l3⟩:=envL_spec hl
    obtain⟨v,hv,redo⟩:=quietr hq hk
    obtain⟨t',ht',hh⟩:=hv.2.2 i hi2
    rw[ht]at ht';simp at ht';subst ht'
    have hcons:keepW (clOf ops) i t ((x,s)::W)=(x,s)::keepW (clOf ops) i t W:=by
     unfold keepW
     split
     ·rfl
     ·have hn:hasN x ((clOf ops).getD i [])=false:=by
       cases hb:hasN x ((clOf ops).getD i [])with
       |false=>rfl
       |true=>exact absurd (waits_of (ready_lt hi) hb) (not_waits hcl hx hi hsz)
      rw[List.filter_cons,if_pos (by show(!hasN x ((clOf ops).getD i []))=true;rw[hn];rfl)]
    rw[hcons]at hh
    refine sopr_agree (σ:=upd σ s.dst v) (fun q hq'=>(upd_ne fun e=>l1 q e hq').symm) hh fun u h' _ hh'=>?_
    rw[upd_comm l2]at hh'
    have hW':∀p∈keepW (clOf ops) i t W,cls p.2.op≤1∧Apart s p.2:=fun p hp=>hW p (keepW_sub p hp)
    have hall:=anyW_chk hh'
    refine ih (keepW (clOf ops) i t W) (listed.setIfInBounds i true) _ h' (by simp[hsz]) (hfu.step (ready_lt hi) hi1) (closed_step hcl (ahead_of_ready hi)) (ready_stays (fun e=>hix e.symm) hx hsz)
     (fun y hy1 hyx=>hy y (still_unlisted hi1 hy1) hyx) hW' (fun p hp=>chk_unset (hW' p hp).1 (hW' p hp).2 (hall p (by simp[hp]))) ?_
    exact chk_use hq hself (hall (x,s) (by simp)) (by rw[set_comm];exact hh')
theorem easyT_spec {ss:List SOper} {cl:List (List Nat)} {listed:Array Bool} {x:Nat} {s:SOper}:∀(n:Nat),easyT ss cl listed x s n=true→∀y,y<n→listed.getD y true=false→y≠x→hasN x (cl.getD y [])=true∨∃t,ss[y]? =some t∧loose s t=true
 |0,_,y,hy,_,_=>by omega
 |n+1,h,y,hy,hl,hyx=>by
  simp only[easyT,Bool.and_eq_true,Bool.or_eq_true]at h
  by_cases hyn:y=n
  ·subst hyn
   rcases h.1 with((h1|h1)|h1)|h1
   ·exact absurd (Nat.eq_of_beq_eq_true h1) hyx
   ·rw[hl]at h1;simp at h1
   ·exact .inl h1
   ·split at h1
    ·rename_i t ht;exact .inr ⟨t,ht,h1⟩
    ·simp at h1
  ·exact easyT_spec n h.2 y (by omega) hl hyx
theorem freeT_spec {ss:List SOper} {cl:List (List Nat)} {listed:Array Bool} {x:Nat} {s:SOper}:∀(n:Nat),freeT ss cl listed x s n=true→∀y,y<n→listed.getD y true=false→y≠x→hasN x (cl.getD y [])=true∨∃t,ss[y]? =some t∧envL s t=true
 |0,_,y,hy,_,_=>by omega
 |n+1,h,y,hy,hl,hyx=>by
  simp only[freeT,Bool.and_eq_true,Bool.or_eq_true]at h
  by_cases hyn:y=n
  ·subst hyn
   rcases h.1 with((h1|h1)|h1)|h1
   ·exact absurd (Nat.eq_of_beq_eq_true h1) hyx
   ·rw[hl]at h1;simp at h1
   ·exact .inl h1
   ·split at h1
    ·rename_i t ht;exact .inr ⟨t,ht,h1⟩
    ·simp at h1
  ·exact freeT_spec n h.2 y (by omega) hl hyx
theorem noClash_spec {s:SOper}:∀{W:List (Nat×SOper)},noClash s W=true→∀p∈W,Apart s p.2
 |[],_,p,hp=>by simp at hp
 |q::W,h,p,hp=>by
  simp only[noClash,Bool.and_eq_true]at h
  rcases List.mem_cons.1 hp with rfl|hp
  ·intro d hd
   have h1:=h.1
   rw[hd]at h1
   simp only[Bool.and_eq_true,Bool.not_eq_true']at h1
   refine⟨fun hm=>?_,fun he=>?_⟩
   ·rw[(hasN_iff d p.2.slots).2 hm]at h1;simp at h1
   ·rw[he]at h1;simp at h1
  ·exact noClash_spec h.2 p hp
theorem pickT_spec {ss:List SOper} {cl:List (List Nat)} {W:List (Nat×SOper)} {listed:Array Bool} {n:Nat} {y:Nat} {s:SOper}:∀{r:List Nat},pickT ss cl W listed n r=some (y,s)→y∈r∧ss[y]? =some s∧easyT ss cl listed y s n=true∧noClash s W=true
 |[],h=>by simp[pickT]at h
 |x::r,h=>by
  simp only[pickT]at h
  split at h
  ·rename_i s' hs'
   split at h
   ·rename_i he
    simp at h
    obtain⟨rfl,rfl⟩:=h
    exact⟨by simp,hs',he⟩
   ·obtain⟨h1,h2⟩:=pickT_spec h
    exact⟨by simp[h1],h2⟩
  ·simp at h
theorem pickW_spec {ss:List SOper} {cl:List (List Nat)} {W:List (Nat×SOper)} {listed:Array Bool} {n:Nat} {y:Nat} {s:SOper}:∀{r:List Nat},pickW ss cl W listed n r=some (y,s)→y∈r∧ss[y]? =some s∧(cls s.op≤1∧selfOK s=true)∧freeT ss cl listed y s n=true∧noClash s W=true
 |[],h=>by simp[pickW]at h
 |x::r,h=>by
  simp only[pickW]at h
  split at h
  ·rename_i s' hs'
   split at h
   ·rename_i he
    simp at h
    obtain⟨rfl,rfl⟩:=h
    exact⟨by simp,hs',⟨Nat.le_of_ble_eq_true he.1,he.2.1⟩,he.2.2.1,he.2.2.2⟩
   ·obtain⟨h1,h2⟩:=pickW_spec h
    exact⟨by simp[h1],h2⟩
  ·simp at h
theorem mkChk_spec {K:Env→Heap→Prop} {W:List (Nat×SOper)} {t:OTree} {h:Heap} (hs:stree P Qp K (mkChk W t) σ h):(∀p∈W,chkOp P σ h p.2)∧stree P Qp K t σ h:=by
 unfold mkChk at hs
 split at hs
 ·exact⟨fun p hp=>by simp at hp,hs⟩
 ·exact⟨fun p hp=>(hs.1 p.2 (List.mem_map.2 ⟨p,hp,rfl⟩)).2,hs.2⟩
theorem altT_spec {h:Heap} {K:Env→Heap→Prop} {f:Nat→SOper→Option OTree} {ss:List SOper}:∀{r:List Nat} {t:OTree},altT f ss r=some t→stree P Qp K t σ h→∀i∈r,∃s u,ss[i]? =some s∧f i s=some u∧sopr P σ h s (stree P Qp K u) Qp
 |[],t,ha,_,i,hi=>by simp at hi
 |[x],t,ha,hs,i,hi=>by
  simp only[altT]at ha
  split at ha
  ·rename_i s h1
   simp only[Option.map_eq_some_iff]at ha
   obtain⟨u,h2,rfl⟩:=ha
   simp at hi;subst hi
   exact⟨s,u,h1,h2,hs⟩
  ·simp at ha
 |x::y::r,t,ha,hs,i,hi=>by
  simp only[altT]at ha
  split at ha
  ·rename_i s h1
   split at ha
   ·rename_i u v h2 h3
    simp at ha;subst ha
    rcases List.mem_cons.1 hi with rfl|hi
    ·exact⟨s,u,h1,h2,hs.1⟩
    ·exact altT_spec h3 hs.2 i hi
   ·simp at ha
  ·simp at ha
theorem treeOf_sound {K:Env→Heap→Prop} {ss:List SOper}:∀(f k:Nat) (W:List (Nat×SOper)) (listed:Array Bool) (t:OTree) (σ:Env) (h:Heap),listed.size=ops.size→FuelOK ops.size f listed→Closed ops (fun k=>listed.getD k false=true)→
  (∀p∈W,cls p.2.op≤1)→(∀p∈W,chkOp P σ h p.2)→
  treeOf ss (clOf ops) ops f k W listed=some t→stree P Qp K t σ h→anyW P Qp K ss (clOf ops) ops f W listed σ h
 |0,k,W,listed,t,σ,h,hsz,hfu,hcl,hW,hchk,ht,hs=>by
  simp only[treeOf]at ht
  split at ht
  ·rename_i he
   simp at ht;subst ht
   exact⟨hchk,List.isEmpty_iff.1 he,hs⟩
  ·simp at ht
 |f+1,k,W,listed,t,σ,h,hsz,hfu,hcl,hW,hchk,ht,hs=>by
  have hltz:∀z,listed.getD z true=false→z<ops.size:=by
   intro z hz
   rcases Nat.lt_or_ge z ops.size with hlt|hge
   ·exact hlt
   ·rw[Array.getD_eq_getD_getElem?,Array.getElem?_eq_none (by omega)]at hz;simp at hz
  simp only[treeOf]at ht
  split at ht
  ·rename_i he
   simp at ht;subst ht
   exact⟨hchk,fun _=>hs,fun i hi=>by rw[he]at hi;simp at hi⟩
  ·rename_i x r hready
   split at ht
   ·rename_i y s hp
    simp only[Option.map_eq_some_iff]at ht
    obtain⟨u,hu,rfl⟩:=ht
    obtain⟨h1,h2,h3,h4⟩:=pickT_spec hp
    rw[←hready]at h1
    refine easy_first h2 f W listed σ h hsz hfu hcl h1 ?_ (fun p hp=>⟨hW p hp,noClash_spec h4 p hp⟩) hchk ?_
    ·intro z hz hzy
     rcases easyT_spec _ h3 z (hltz z hz) hz hzy with hw|hl
     ·exact .inl (waits_of (hltz z hz) hw)
     ·exact .inr hl
    ·refine sopr_mono hs fun σ1 h1' hh=>?_
     obtain⟨hc2,hh2⟩:=mkChk_spec hh
     exact treeOf_sound f k _ _ u σ1 h1' (by simp[hsz]) (hfu.step (ready_lt h1) (mem_ready.1 h1).1) (closed_step hcl (ahead_of_ready h1)) (fun p hp=>hW p (keepW_sub p hp)) hc2 hu hh2
   ·split at ht
    ·rename_i y s hp
     simp only[Option.map_eq_some_iff]at ht
     obtain⟨u,hu,rfl⟩:=ht
     obtain⟨h1,h2,⟨hq,hself⟩,h3,h4⟩:=pickW_spec hp
     rw[←hready]at h1
     have hself':∀d,s.dst=some d→d∉s.slots:=by
      intro d hd hm
      unfold selfOK at hself
      have hmm:=(hasN_iff d s.slots).2 hm
      simp only[hd,hmm]at hself
      simp at hself
     refine watch_first h2 hq hself' f W listed σ h hsz hfu hcl h1 ?_ (fun p hp=>⟨hW p hp,noClash_spec h4 p hp⟩) hchk ?_
     ·intro z hz hzy
      rcases freeT_spec _ h3 z (hltz z hz) hz hzy with hw|hl
      ·exact .inl (waits_of (hltz z hz) hw)
      ·exact .inr hl
     ·obtain⟨v,hv,redo⟩:=quietr hq hs
      have self:chkOp P (upd σ s.dst v) h s:=selfChk hq hself' redo
      have hnext:=treeOf_sound f k ((y,s)::W) _ u (upd σ s.dst v) h (by simp[hsz]) (hfu.step (ready_lt h1) (mem_ready.1 h1).1) (closed_step hcl (ahead_of_ready h1))
       (fun p hp=>by
        rcases List.mem_cons.1 hp with rfl|hp
        ·exact hq
        ·exact hW p hp)
       (fun p hp=>by
        rcases List.mem_cons.1 hp with rfl|hp
        ·exact self
        ·exact chk_set (hW p hp) (noClash_spec h4 p hp) (hchk p hp)) hu hv
      exact redo σ h (fun _ _=>rfl) (.inr (Ext.refl h)) _ hnext
    ·split at ht
     ·simp at ht
     ·rename_i k'
      refine⟨hchk,fun he=>by rw[he]at hready;simp at hready,fun i hi=>?_⟩
      have hi':=hi
      rw[hready]at hi
      obtain⟨s,u,h1,h2,h3⟩:=altT_spec ht hs i hi
      simp only[Option.map_eq_some_iff]at h2
      obtain⟨u',hu',rfl⟩:=h2
      refine⟨s,h1,sopr_mono h3 fun σ1 h1' hh=>?_⟩
      obtain⟨hc2,hh2⟩:=mkChk_spec hh
      exact treeOf_sound f k' _ _ u' σ1 h1' (by simp[hsz]) (hfu.step (ready_lt hi') (mem_ready.1 hi').1) (closed_step hcl (ahead_of_ready hi')) (fun p hp=>hW p (keepW_sub p hp)) hc2 hu' hh2
theorem ctree_sound {s:SCode} (hm:P.follows .mixedOrders=true) (hc:ctree P nt ops=some s)
  {ro:Option Nat} {n id:Nat} {Q:Post} {a:Act} {w:World} (hr:Rel σ nt ds a) (h:swp P s Q σ ds w.heap):
  (Code.region id ops true).wpIn (FW ro) n P (Lift nt w Q) a w:=by
 unfold ctree at hc
 split at hc
 ·simp at hc
 ·rename_i ss hss
  simp only[Option.map_eq_some_iff]at hc
  obtain⟨t,ht,rfl⟩:=hc
  obtain⟨hlen,hget⟩:=coperAll_get ops.toList ss hss
  have hlen':ss.length=ops.size:=by simpa using hlen
  have good:∀(i:Nat) (s:SOper),ss[i]? =some s→Good P ops nt i s:=by
   intro i s hi
   have hlt:i<ops.size:=by rw[←hlen'];exact(List.getElem?_eq_some_iff.1 hi).1
   obtain⟨s2,h2,h3⟩:=hget i ops[i] (by simp[hlt])
   rw[hi]at h2;simp at h2;subst h2
   exact⟨ops[i],s,by simp[hlt],h3,.inl rfl⟩
  refine wpIn_region_any hm ?_
  have hsub:Sub (hide ss σ) σ:=hide_sub ss
  refine anyT_sound (ss:=ss) (Q:=Lift nt w Q) (Qp:=fun ch h'=>Q (.panic ch) (hide ss σ) ds h') (K:=fun σ' h'=>Q .normal σ' ds h') (τ:=hide ss σ) (ds:=ds) (nt:=nt) (w0:=w) good
   (fun i s hs d hd=>hide_dst (List.mem_of_getElem? hs) hd) (fun σ' a' w' hr' hb hk=>⟨σ',ds,hr',hb,hk⟩) (fun ch a' w' hτ hb hk=>⟨_,ds,hτ,hb,hk⟩) ops.size (Array.replicate ops.size false) σ a _ hr (hr.sub hsub) ⟨rfl,rfl,rfl⟩ ?_
  refine anyW_anyT ops.size [] _ σ w.heap (treeOf_sound ops.size 6 [] _ t σ w.heap (by simp) ?_ ?_ (fun p hp=>by simp at hp) (fun p hp=>by simp at hp) ht h)
  ·intro S hnd hS
   exact len_le ops.size S hnd fun x hx=>(hS x hx).1
  ·intro j hj
   simp only[Array.getD_eq_getD_getElem?,Array.getElem?_replicate]at hj
   split at hj<;>simp at hj
end Go.Sx
namespace Go.Sx
open Go
variable {P:Program} {σ σ':Env} {nt:Nat} {ds:List Deferred} {fl:Bool}
theorem Lift.trans {w w1:World} {Q:Post} (hb:SameB w w1) {e:Exit} {a:Act} {w2:World} (h:Lift nt w1 Q e a w2):Lift nt w Q e a w2:=by
 obtain⟨σ,ds,h1,h2,h3⟩:=h
 exact⟨σ,ds,h1,hb.trans h2,h3⟩
theorem calmL_len {cl:List (List Nat)} {n:Nat}:∀{ss:List SOper} {i:Nat},(calmL cl n i ss).length=ss.length
 |[],_=>rfl
 |_::r,i=>by simp[calmL,calmL_len (ss:=r)]
theorem calmL_get {cl:List (List Nat)} {n:Nat}:∀{ss:List SOper} {b i:Nat} {s:SOper},(calmL cl n b ss)[i]? =some s→∃s2,ss[i]? =some s2∧(s=s2∨s=calm1 s2)
 |[],_,_,_,h=>by simp[calmL]at h
 |x::r,b,0,s,h=>by
  simp only[calmL,List.getElem?_cons_zero,Option.some.injEq]at h
  refine⟨x,rfl,?_⟩
  cases hc:covers cl n b with
  |true=>rw[hc]at h;exact .inl h.symm
  |false=>rw[hc]at h;exact .inr h.symm
 |x::r,b,i+1,s,h=>by
  simp only[calmL,List.getElem?_cons_succ]at h
  simpa using calmL_get h
theorem region_sound {ops:Array Oper} {l:List SOper} {draw:Bool} (hm:P.follows .mixedOrders=true) (hc:cregion P nt ops draw=some l)
  {ro:Option Nat} {n id:Nat} {Q:Post} {a:Act} {w:World} (hr:Rel σ nt ds a)
  (h:sops P (fun ch h'=>Q (.panic ch) (hide l σ) ds h') (fun σ' h'=>Q .normal σ' ds h') l σ w.heap):
  (Code.region id ops draw).wpIn (FW ro) n P (Lift nt w Q) a w:=by
 unfold cregion at hc
 split at hc
 ·simp at hc
 ·rename_i ss hss
  obtain⟨hlen,hget⟩:=coperAll_get ops.toList ss hss
  have hlen':ss.length=ops.size:=by simpa using hlen
  have good:∀(i:Nat) (s:SOper),ss[i]? =some s→Good P ops nt i s:=by
   intro i s hi
   have hlt:i<ops.size:=by rw[←hlen'];exact(List.getElem?_eq_some_iff.1 hi).1
   obtain⟨s2,h2,h3⟩:=hget i ops[i] (by simp[hlt])
   rw[hi]at h2;simp at h2;subst h2
   exact⟨ops[i],s,by simp[hlt],h3,.inl rfl⟩
  split at hc
  ·simp at hc;subst hc
   refine wpIn_region ?_
   have e:(List.range ops.size).zip ss=(List.range ops.size).zip ss:=rfl
   have e1:((List.range ops.size).zip ss).map (·.1)=List.range ops.size:=map_zip_fst _ _ (by simp[hlen'])
   have e2:((List.range ops.size).zip ss).map (·.2)=ss:=map_zip_snd _ _ (by simp[hlen'])
   have:=list_sound (P:=P) (ops:=ops) (nt:=nt) (ds:=ds) (Qp:=fun ch h'=>Q (.panic ch) (hide ss σ) ds h') (K:=fun σ' h'=>Q .normal σ' ds h') (τ:=hide ss σ) (ro:=ro) (n:=n) (Q:=Lift nt w Q) (w0:=w)
    (fun σ' a' w' hr' hb hk=>⟨σ',ds,hr',hb,hk⟩) (fun ch a' w' hτ hb hk=>⟨_,ds,hτ,hb,hk⟩) ((List.range ops.size).zip ss) σ a w ?_ ?_ hr (hr.sub (hide_sub ss)) (SameB.refl w) (by rw[e2];exact h)
   ·rw[e1]at this;exact this
   ·rintro⟨i,s⟩ hp
    obtain⟨k,hk,hkq⟩:=List.getElem_of_mem hp
    rw[List.getElem_zip]at hkq
    simp at hkq
    have hks:k<ss.length:=by simp at hk;omega
    exact good i s (by rw[←hkq.1,List.getElem?_eq_getElem hks,hkq.2])
   ·rintro⟨i,s⟩ hp d hd
    exact hide_dst (List.of_mem_zip hp).2 hd
  ·split at hc
   ·rename_i l' hl
    simp at hc;subst hc
    exact ordered_sound hm hlen' good hl hr h
   ·rename_i hnone
    refine ordered_sound (ss:=calmed ss (aheads ops) ops.size) hm (by unfold calmed;rw[calmL_len,hlen']) ?_ hc hr h
    intro i s hi
    obtain⟨s2,hs,hs2⟩:=calmL_get hi
    obtain⟨o,s0,h1,h2,h3⟩:=good i s2 (by simpa using hs)
    rcases hs2 with rfl|rfl
    ·exact⟨o,s0,h1,h2,h3⟩
    ·rcases h3 with rfl|rfl
     ·exact⟨o,s2,h1,h2,.inr rfl⟩
     ·refine⟨o,s0,h1,h2,.inr ?_⟩
      cases hop:s0.op<;>simp[calm1,hop]
theorem list_then {Qp:List PanicEntry→Heap→Prop} {ops:Array Oper} {K:Env→Heap→Prop} {τ:Env} {ro:Option Nat} {n:Nat} {Q:Exit→Act→World→Prop} {w0:World} {rest:List Nat}
  (hN:∀σ' a' w',Rel σ' nt ds a'→SameB w0 w'→K σ' w'.heap→wpOpsIn (FW ro) n P ops Q rest a' w') (hQ:∀ch a' w',Rel τ nt ds a'→SameB w0 w'→Qp ch w'.heap→Q (.panic ch) a' w'):
  ∀(l:List (Nat×SOper)) (σ:Env) (a:Act) (w:World),(∀p∈l,Good P ops nt p.1 p.2)→(∀p∈l,∀d,p.2.dst=some d→τ d=none)→Rel σ nt ds a→Rel τ nt ds a→SameB w0 w→
   sops P Qp K (l.map (·.2)) σ w.heap→wpOpsIn (FW ro) n P ops Q (l.map (·.1)++rest) a w
 |[],σ,a,w,_,_,hr,_,hb,hs=>hN σ a w hr hb hs
 |(i,s)::l,σ,a,w,hg,hd,hr,hτ,hb,hs=>by
  simp only[List.map_cons,sops,List.cons_append]at hs⊢
  rw[wpOpsIn_cons]
  refine opr_sound (hg (i,s) (by simp)) hr hτ (hd (i,s) (by simp)) hs (fun σ' a' w' hr' hτ' hb' hk=>?_) (fun ch w' hb' hk=>hQ ch a w' hτ (hb.trans hb') hk)
  exact list_then hN hQ l σ' a' w' (fun p hp=>hg p (by simp[hp])) (fun p hp=>hd p (by simp[hp])) hr' hτ' (hb.trans hb') hk
theorem crecover_rcv {ops:Array Oper} {s:SCode} (h:crecover nt ops=some s):∃d,s=.rcv d:=by
 unfold crecover at h
 split at h
 ·rename_i o ho
  split at h
  ·split at h
   ·split at h
    ·simp at h;exact⟨_,h.symm⟩
    ·simp at h
   ·simp at h
  ·simp at h
 ·simp at h
theorem cdefer_spec {ops:Array Oper} {s:SCode} (h:cdefer P nt ops=some s):∃o c x l,ops.toList.getLast? =some o∧o.op=.defer c∧o.guard=none∧c.callee=.value x∧coperAll P ops nt ops.toList.dropLast=some l∧
  (∀d,o.dst=some d→d<nt)∧s=.dfr l o.dst x c.args.toList:=by
 unfold cdefer at h
 split at h
 ·rename_i o ho
  split at h
  ·rename_i c hop hg
   split at h
   ·rename_i x l hc hl
    split at h
    ·rename_i hd
     simp at h
     refine⟨o,c,x,l,ho,hop,hg,hc,hl,fun d hd'=>?_,h.symm⟩
     rw[hd']at hd
     exact Nat.le_of_ble_eq_true hd
    ·simp at h
   ·simp at h
  ·simp at h
 ·simp at h
theorem defer_sound {ops:Array Oper} {s:SCode} (hc:cdefer P nt ops=some s)
  {n id:Nat} {Q:Post} {a:Act} {w:World} (hr:Rel σ nt ds a) (h:swp P s Q σ ds w.heap):
  (Code.region id ops false).wpIn (FW none) n P (Lift nt w Q) a w:=by
 obtain⟨o,c,x,l,ho,hop,hg,hcal,hl,hdst,rfl⟩:=cdefer_spec hc
 obtain⟨hlen,hget⟩:=coperAll_get _ l hl
 have hne:ops.toList≠[]:=by intro e;rw[e]at ho;simp at ho
 have hpos:0<ops.size:=by
  rcases Nat.eq_zero_or_pos ops.size with h0|h0
  ·exact absurd (by apply List.eq_nil_of_length_eq_zero;simpa using h0) hne
  ·exact h0
 obtain⟨m,hm⟩:∃m,ops.size=m+1:=⟨ops.size-1,by omega⟩
 have hlm:l.length=m:=by rw[hlen];simp[hm]
 have holast:ops[m]? =some o:=by
  rw[List.getLast?_eq_getElem?]at ho
  simpa[hm]using ho
 refine wpIn_region ?_
 rw[hm,List.range_succ]
 have e1:((List.range m).zip l).map (·.1)=List.range m:=map_zip_fst _ _ (by simp[hlm])
 have e2:((List.range m).zip l).map (·.2)=l:=map_zip_snd _ _ (by simp[hlm])
 simp only[swp]at h
 have:=list_then (P:=P) (ops:=ops) (nt:=nt) (ds:=ds) (ro:=none) (n:=n) (Q:=Lift nt w Q) (w0:=w) (rest:=[m]) (τ:=hide l σ)
  (Qp:=fun ch h'=>Q (.panic ch) (hide l σ) ds h') (K:=fun σ' h'=>match ev σ' x,evs σ' c.args.toList with
   |some (.func (.func f) fi cap),some vs=>Q .normal (upd σ' o.dst undef) ({target:=.fn (.func f) cap,args:=⟨fi.toList++vs⟩}::ds) h'
   |_,_=>False) ?_ (fun ch a' w' hτ hb hk=>⟨_,ds,hτ,hb,hk⟩) ((List.range m).zip l) σ a w ?_ ?_ hr (hr.sub (hide_sub l)) (SameB.refl w) (by rw[e2];exact h)
 ·rw[e1]at this;exact this
 ·intro σ' a' w' hr' hb' hk
  split at hk
  ·rename_i f fi cap vs hx hv
   rw[wpOpsIn_cons]
   simp only[wpOpIn,holast]
   have hw:Region.wanted o (yielded ops a'.tmps)=true:=by simp[Region.wanted,hg]
   rw[if_pos hw]
   refine⟨fun _ _=>trivial,?_⟩
   have ha:c.args.map a'.eval=⟨vs⟩:=by apply Array.ext';simp[hr'.knows.list _ _ hv]
   have hf:=hr'.knows x _ hx
   have hap:fi++(⟨vs⟩:Array Value)=⟨fi.toList++vs⟩:=by apply Array.ext';simp
   have hrun:(o.semAt (FW none).round a'.eval).run P w'=.ok (.defer {target:=.fn (.func f) cap,args:=⟨fi.toList++vs⟩}) w':=by
    show(Oper.semAt none a'.eval o).run P w'=_
    rw[Oper.semAt_none]
    simp[execOp,hop,resolve,hcal,ha,hf,Deferred.ofValue,hap]
   rw[hrun]
   show wpOpsIn (FW none) n P ops (Lift nt w Q) [] _ w'
   refine⟨_,_,?_,hb',hk⟩
   have hd':Rel σ' nt ({target:=.fn (.func f) cap,args:=⟨fi.toList++vs⟩}::ds) {a' with defers:={target:=.fn (.func f) cap,args:=⟨fi.toList++vs⟩}::a'.defers}:=
    ⟨hr'.size,by simp[hr'.defers],fun y v hy=>by have:=hr'.knows y v hy;simpa[Act.eval]using this⟩
   exact hd'.put hdst undef
  ·exact hk.elim
 ·rintro⟨i,s⟩ hp
  obtain⟨k,hk,hkq⟩:=List.getElem_of_mem hp
  rw[List.getElem_zip]at hkq
  simp at hkq
  have hks:k<l.length:=by simp at hk;omega
  obtain⟨s2,h2,h3⟩:=hget k (ops.toList.dropLast[k]'(by simp[hm];omega)) (List.getElem?_eq_getElem _)
  have hol:ops[k]? =some (ops.toList.dropLast[k]'(by simp[hm];omega)):=by
   rw[List.getElem_dropLast];simp
  rw[List.getElem?_eq_getElem hks]at h2
  simp[hkq.2]at h2
  subst h2
  obtain⟨rfl,_⟩:=hkq
  exact⟨_,s,hol,h3,.inl rfl⟩
 ·rintro⟨i,s⟩ hp d hd
  exact hide_dst (List.of_mem_zip hp).2 hd
theorem region2_sound {ops:Array Oper} {sp s1 s2:List SOper} (hm:P.follows .mixedOrders=true) (hc:cregion2 P nt ops=some (sp,s1,s2))
  {ro:Option Nat} {n id:Nat} {Q:Post} {a:Act} {w:World} (hr:Rel σ nt ds a)
  (h:swp P (.two sp s1 s2) Q σ ds w.heap):
  (Code.region id ops true).wpIn (FW ro) n P (Lift nt w Q) a w:=by
 unfold cregion2 at hc
 split at hc
 ·simp at hc
 ·rename_i ss hss
  obtain⟨hlen,hget⟩:=coperAll_get ops.toList ss hss
  have hlen':ss.length=ops.size:=by simpa using hlen
  have good:∀(i:Nat) (s:SOper),ss[i]? =some s→Good P ops nt i s:=by
   intro i s hi
   have hlt:i<ops.size:=by rw[←hlen'];exact(List.getElem?_eq_some_iff.1 hi).1
   obtain⟨s2,h2,h3⟩:=hget i ops[i] (by simp[hlt])
   rw[hi]at h2;simp at h2;subst h2
   exact⟨ops[i],s,by simp[hlt],h3,.inl rfl⟩
  refine ordered2_sound (ss:=ss.map calm1) hm (by simp[hlen']) ?_ hc hr h
  intro i s hi
  rw[List.getElem?_map]at hi
  cases hs:ss[i]? with
  |none=>rw[hs]at hi;simp at hi
  |some s2=>
   rw[hs]at hi;simp at hi;subst hi
   obtain⟨o,s0,h1,h2,h3⟩:=good i s2 hs
   rcases h3 with rfl|rfl
   ·exact⟨o,s2,h1,h2,.inr rfl⟩
   ·refine⟨o,s0,h1,h2,.inr ?_⟩
    cases hop:s0.op<;>simp[calm1,hop]
theorem wpIn_loopN {F:Fence} {n:Nat} {Q:Exit→Act→World→Prop} {c:Code} (I:Nat→Act→World→Prop) {m:Nat} {a:Act} {w:World} (h₀:I m a w)
  (round:∀m a w,I m a w→c.wpIn F n P (Exit.then (fun a' w'=>∃m',m'<m∧I m' a' w') Q) a w):(Code.loop c).wpIn F n P Q a w:=by
 intro b k cs hro hb hr
 have key:∀j a w,I j a w→
   ∃e a' w',Q e a' w'∧ArrivesIn (Machine.fenced P F) P (lone (b.atR a (.code c::.inLoop c::k)) cs w) b k cs e a' w':=by
  intro j
  induction j using Nat.strongRecOn with
  |_ j ih=>
   intro a w hI
   obtain⟨e,a₁,w₁,hq,harr⟩:=round j a w hI b (.inLoop c::k) cs hro hb hr
   cases e with
   |normal=>
    obtain⟨m',hlt,hI₁⟩:=hq
    obtain⟨e₂,a₂,w₂,hq₂,harr₂⟩:=ih m' hlt a₁ w₁ hI₁
    exact⟨e₂,a₂,w₂,hq₂,.of_steps (StepsIn.trans harr (.one (fenced_calm hb hr rfl) stepR_inLoop)) harr₂⟩
   |exit id=>exact⟨_,a₁,w₁,hq,.pass (x:=.inLoop c) rfl (fun _ _=>.inl (by simp)) harr⟩
   |goto l=>exact⟨_,a₁,w₁,hq,.pass (x:=.inLoop c) rfl (fun _ _=>.inl (by simp)) harr⟩
   |ret=>exact⟨_,a₁,w₁,hq,.pass (x:=.inLoop c) rfl (fun _ _=>.inl (by simp)) harr⟩
   |panic ch=>exact⟨_,a₁,w₁,hq,.pass (x:=.inLoop c) rfl (fun _ _=>.inl (by simp)) harr⟩
   |outgrown=>exact⟨_,a₁,w₁,hq,.pass (x:=.inLoop c) rfl (fun _ _=>.inl (by simp)) harr⟩
 obtain⟨e,a',w',hq,harr⟩:=key m a w h₀
 exact⟨e,a',w',hq,.of_steps (.one (fenced_calm hb hr rfl) stepR_loop) harr⟩
section
variable {b:Frame} {a:Act} {k:List Item} {cs:List Frame} {w:World}
theorem stepR_scope {c:Code}:step P (lone (b.atR a (.code (.scope c)::k)) cs w)=.next (lone (b.atR a (.code c::.inScope c::k)) cs w):=
 step_lone_go (by simp[stepG,stepG.exec,Frame.atR])
theorem stepR_inScope {c:Code}:step P (lone (b.atR a (.inScope c::k)) cs w)=.next (lone (b.atR a k) cs w):=
 step_lone_go (by simp[stepG,stepG.exec,Frame.atR])
end
def noGo (Q:Exit→Act→World→Prop):Exit→Act→World→Prop
 |.goto _,_,_=>False
 |e,a,w=>Q e a w
theorem wpIn_scopeS {F:Fence} {n:Nat} {Q:Exit→Act→World→Prop} {c:Code} {a:Act} {w:World} (h:c.wpIn F n P (noGo Q) a w):(Code.scope c).wpIn F n P Q a w:=by
 intro b k cs hro hb hr
 obtain⟨e,a₁,w₁,hq,harr⟩:=h b (.inScope c::k) cs hro hb hr
 have h0:(lone (b.atR a (.code (.scope c)::k)) cs w).fenced P F:=fenced_calm hb hr rfl
 cases e with
 |normal=>exact⟨.normal,a₁,w₁,hq,.head h0 stepR_scope (StepsIn.trans harr (.one (fenced_calm hb hr rfl) stepR_inScope))⟩
 |exit id=>
  have hx:exitTo id (.inScope c::k)=exitTo id k:=by simp[exitTo]
  exact⟨.exit id,a₁,w₁,hq,fun k' hk=>.head h0 stepR_scope (harr.1 k' (by rw[hx];exact hk)),
   fun hr' hk=>let⟨k₁,h1,h2⟩:=harr.2 hr' (by rw[hx];exact hk);⟨k₁,h1,.head h0 stepR_scope h2⟩⟩
 |goto l=>exact hq.elim
 |ret=>exact⟨_,a₁,w₁,hq,.of_steps (.one h0 stepR_scope) harr⟩
 |panic ch=>exact⟨_,a₁,w₁,hq,.of_steps (.one h0 stepR_scope) harr⟩
 |outgrown=>exact⟨_,a₁,w₁,hq,.of_steps (.one h0 stepR_scope) harr⟩
def csize:Code→Nat
 |.seq a b|.cond _ a b|.rangeFunc _ _ a b=>csize a+csize b+1
 |.block _ c|.loop c|.scope c=>csize c+1
 |_=>1
theorem csize_pos (c:Code):1≤csize c:=by cases c<;>simp[csize]
theorem csize_find:∀(c:Code) (l:Nat) (rest:Code),findLabel c l=some rest→csize rest≤csize c:=by
 intro c
 induction c with
 |seq x y ihx ihy=>
  intro l rest h
  simp only[findLabel]at h
  split at h
  ·rename_i r hr
   simp at h;subst h
   have:=ihx l r hr
   simp only[csize];omega
  ·have:=ihy l rest h
   simp only[csize];omega
 |label l'=>
  intro l rest h
  simp only[findLabel]at h
  split at h
  ·simp at h;subst h;simp[csize]
  ·simp at h
 |_=>intro l rest h;simp[findLabel]at h
theorem cregionC_cases {ops:Array Oper} {draw:Bool} {sc:SCode} (hc:cregionC fl P nt ops draw=some sc):
  (∃l,sc=.ops l∧cregion P nt ops draw=some l)∨(draw=true∧∃x:List SOper×List SOper×List SOper,sc=.two x.1 x.2.1 x.2.2∧cregion2 P nt ops=some x)∨(draw=true∧ctree P nt ops=some sc)∨
  (draw=false∧cdefer P nt ops=some sc)∨(draw=false∧crecover nt ops=some sc):=by
 have hd:cregionD P nt ops=some sc→cdefer P nt ops=some sc∨crecover nt ops=some sc:=by
  intro h
  unfold cregionD at h
  split at h
  ·rename_i s hs
   exact .inl (by rw[hs];exact h)
  ·exact .inr h
 unfold cregionC at hc
 split at hc
 ·split at hc
  ·rename_i l hl
   simp at hc
   exact .inl ⟨l,hc.symm,hl⟩
  ·split at hc
   ·split at hc
    ·rename_i x hx
     simp at hc
     exact .inr (.inl ⟨rfl,x,hc.symm,hx⟩)
    ·exact .inr (.inr (.inl ⟨rfl,hc⟩))
   ·exact .inr (.inr (.inr ((hd hc).imp (fun h=>⟨rfl,h⟩) fun h=>⟨rfl,h⟩)))
 ·split at hc
  ·rename_i l hl
   simp at hc
   refine .inl ⟨l,hc.symm,?_⟩
   unfold cregionN at hl
   unfold cregion
   split at hl
   ·simp at hl
   ·rename_i ss hss
    split at hl
    ·simp[hl]
    ·simp[hl]
  ·split at hc
   ·exact .inr (.inr (.inl ⟨rfl,hc⟩))
   ·exact .inr (.inr (.inr ((hd hc).imp (fun h=>⟨rfl,h⟩) fun h=>⟨rfl,h⟩)))
theorem region_find {id:Nat} {ops:Array Oper} {draw:Bool} {sc:SCode} (hc:compC fl P nt (.region id ops draw)=some sc) (l:Nat):sfind sc l=none:=by
 simp only[compC]at hc
 rcases cregionC_cases hc with⟨l,rfl,_⟩|⟨_,x,rfl,_⟩|⟨_,h⟩|⟨_,h⟩|⟨_,h⟩
 ·rfl
 ·rfl
 ·unfold ctree at h
  split at h
  ·simp at h
  ·simp only[Option.map_eq_some_iff]at h
   obtain⟨x,_,rfl⟩:=h
   rfl
 ·obtain⟨o,c,x,l,_,_,_,_,_,_,rfl⟩:=cdefer_spec h
  rfl
 ·obtain⟨d,rfl⟩:=crecover_rcv h
  rfl
theorem find_none:∀(c:Code) (sc:SCode) (l:Nat),compC fl P nt c=some sc→sfind sc l=none→findLabel c l=none:=by
 intro c
 induction c with
 |seq x y ihx ihy=>
  intro sc l hc hf
  simp only[compC]at hc
  split at hc
  ·rename_i sx sy hx hy
   simp at hc;subst hc
   simp only[sfind]at hf
   split at hf
   ·simp at hf
   ·rename_i hn
    simp[findLabel,ihx sx l hx hn,ihy sy l hy hf]
  ·simp at hc
 |label l'=>
  intro sc l hc hf
  simp[compC]at hc;subst hc
  simp only[sfind]at hf
  split at hf
  ·simp at hf
  ·rename_i he;simp[findLabel,he]
 |_=>intro sc l hc hf;rfl
theorem sfind_comp:∀(c:Code) (sc:SCode) (l:Nat) (r:SCode),compC fl P nt c=some sc→sfind sc l=some r→∃rest,findLabel c l=some rest∧compC fl P nt rest=some r:=by
 intro c
 induction c with
 |seq x y ihx ihy=>
  intro sc l r hc hf
  simp only[compC]at hc
  split at hc
  ·rename_i sx sy hx hy
   simp at hc;subst hc
   simp only[sfind]at hf
   split at hf
   ·rename_i r' hr'
    simp at hf;subst hf
    obtain⟨rest,h1,h2⟩:=ihx sx l r' hx hr'
    exact⟨.seq rest y,by simp[findLabel,h1],by simp[compC,h2,hy]⟩
   ·rename_i hn
    obtain⟨rest,h1,h2⟩:=ihy sy l r hy hf
    have hxn:findLabel x l=none:=by
     cases hfx:findLabel x l with
     |none=>rfl
     |some rest'=>
      exfalso
      have:=find_none x sx l hx hn
      rw[hfx]at this;simp at this
    exact⟨rest,by simp[findLabel,hxn,h1],h2⟩
  ·simp at hc
 |label l'=>
  intro sc l r hc hf
  simp[compC]at hc;subst hc
  simp only[sfind]at hf
  split at hf
  ·rename_i he
   simp at hf;subst hf
   exact⟨.skip,by simp[findLabel,he],rfl⟩
  ·simp at hf
 |skip=>intro sc l r hc hf;simp[compC]at hc;subst hc;simp[sfind]at hf
 |region id ops draw=>
  intro sc l r hc hf
  rw[region_find hc l]at hf;simp at hf
 |cond o x y ihx ihy=>
  intro sc l r hc hf
  simp only[compC]at hc
  split at hc
  ·simp at hc;subst hc;simp[sfind]at hf
  ·simp at hc
 |block id c ih=>intro sc l r hc hf;simp only[compC,Option.map_eq_some_iff]at hc;obtain⟨_,_,rfl⟩:=hc;simp[sfind]at hf
 |loop c ih=>intro sc l r hc hf;simp only[compC,Option.map_eq_some_iff]at hc;obtain⟨_,_,rfl⟩:=hc;simp[sfind]at hf
 |scope c ih=>
  intro sc l r hc hf
  simp only[compC]at hc
  split at hc
  ·split at hc
   ·simp at hc;subst hc;simp[sfind]at hf
   ·split at hc
    ·simp at hc;subst hc;simp[sfind]at hf
    ·simp at hc
  ·simp at hc
 |exit id=>intro sc l r hc hf;simp[compC]at hc;subst hc;simp[sfind]at hf
 |ret=>intro sc l r hc hf;simp[compC]at hc;subst hc;simp[sfind]at hf
 |goto l=>intro sc l r hc hf;simp[compC]at hc;subst hc;simp[sfind]at hf
 |refuse s=>intro sc l r hc hf;simp[compC]at hc;subst hc;simp[sfind,stuckS]at hf
 |rangeFunc g ps x y ihx ihy=>
  intro sc l r hc hf
  simp only[compC]at hc
  split at hc
  ·split at hc
   ·simp at hc;subst hc;simp[sfind]at hf
   ·simp at hc
  ·simp at hc
theorem wpIn_scopeG {F:Fence} {n:Nat} {Q:Exit→Act→World→Prop} {c rest:Code} {l:Nat} {a:Act} {w:World} (hl:findLabel c l=some rest)
  (h:c.wpIn F n P (fun e a' w'=>match e with|.goto l'=>l'=l∧rest.wpIn F n P (noGo Q) a' w'|e=>Q e a' w') a w):(Code.scope c).wpIn F n P Q a w:=by
 intro b k cs hro hb hr
 obtain⟨e,a₁,w₁,hq,harr⟩:=h b (.inScope c::k) cs hro hb hr
 have h0:(lone (b.atR a (.code (.scope c)::k)) cs w).fenced P F:=fenced_calm hb hr rfl
 cases e with
 |normal=>exact⟨.normal,a₁,w₁,hq,.head h0 stepR_scope (StepsIn.trans harr (.one (fenced_calm hb hr rfl) stepR_inScope))⟩
 |exit id=>
  have hx:exitTo id (.inScope c::k)=exitTo id k:=by simp[exitTo]
  exact⟨.exit id,a₁,w₁,hq,fun k' hk=>.head h0 stepR_scope (harr.1 k' (by rw[hx];exact hk)),
   fun hr' hk=>let⟨k₁,h1,h2⟩:=harr.2 hr' (by rw[hx];exact hk);⟨k₁,h1,.head h0 stepR_scope h2⟩⟩
 |goto l'=>
  obtain⟨rfl,hrest⟩:=hq
  have hg:gotoIn l' (.inScope c::k)=some (.code rest::.inScope c::k):=by simp[gotoIn,hl]
  have hsteps:=harr.1 _ hg
  obtain⟨e2,a2,w2,hq2,harr2⟩:=hrest b (.inScope c::k) cs hro hb hr
  have hpre:=StepsIn.head h0 stepR_scope hsteps
  cases e2 with
  |normal=>exact⟨.normal,a2,w2,hq2,StepsIn.trans hpre (StepsIn.trans harr2 (.one (fenced_calm hb hr rfl) stepR_inScope))⟩
  |exit id=>
   have hx:exitTo id (.inScope c::k)=exitTo id k:=by simp[exitTo]
   exact⟨.exit id,a2,w2,hq2,fun k' hk=>StepsIn.trans hpre (harr2.1 k' (by rw[hx];exact hk)),
    fun hr' hk=>let⟨k₁,h1,h2⟩:=harr2.2 hr' (by rw[hx];exact hk);⟨k₁,h1,StepsIn.trans hpre h2⟩⟩
  |goto l=>exact hq2.elim
  |ret=>exact⟨_,a2,w2,hq2,.of_steps hpre harr2⟩
  |panic ch=>exact⟨_,a2,w2,hq2,.of_steps hpre harr2⟩
  |outgrown=>exact⟨_,a2,w2,hq2,.of_steps hpre harr2⟩
 |ret=>exact⟨_,a₁,w₁,hq,.of_steps (.one h0 stepR_scope) harr⟩
 |panic ch=>exact⟨_,a₁,w₁,hq,.of_steps (.one h0 stepR_scope) harr⟩
 |outgrown=>exact⟨_,a₁,w₁,hq,.of_steps (.one h0 stepR_scope) harr⟩
theorem Rel.put_list:∀(ps:List Nat) (vs:List Value) (σ:Env) (a:Act),Rel σ nt ds a→(∀p∈ps,p<nt)→vs.length=ps.length→
  Rel (updL σ ps vs) nt ds {a with tmps:=(ps.zip vs).foldl (fun t (x:Nat×Value)=>t.setIfInBounds x.1 x.2) a.tmps}
 |[],vs,σ,a,hr,_,_=>by
  have:updL σ [] vs=σ:=by cases vs<;>rfl
  rw[this];exact hr
 |p::ps,[],σ,a,hr,_,hl=>by simp at hl
 |p::ps,v::vs,σ,a,hr,hp,hl=>by
  have h1:Rel (upd σ (some p) v) nt ds (a.put (some p) v):=hr.put (fun t ht=>by simp at ht;subst ht;exact hp _ (by simp)) v
  exact Rel.put_list ps vs _ _ h1 (fun q hq=>hp q (by simp[hq])) (by simpa using hl)
theorem turn_of_put {h:Heap} {l:Nat} {r:Loop} {x:Obj} (hx:h[l]? =some x) (st:LoopState) (p:Option Code):Turn h (h.setIfInBounds l (.loop {r with state:=st,pending:=p})) l r st p:=by
 have hlt:=(Array.getElem?_eq_some_iff.1 hx).1
 refine⟨⟨by simp[hlt]⟩,by simp,fun k hk=>?_⟩
 rw[Array.getElem?_setIfInBounds,if_neg (fun e=>hk e.symm)]
theorem stuck_false {P:Program} {Q:Post} {σ:Env} {ds:List Deferred} {h:Heap} (hs:swp P stuckS Q σ ds h):False:=by
 simp[stuckS,swp,sops,sopr,sop,ev]at hs
theorem comp_soundN (hm:P.follows .mixedOrders=true):∀(N:Nat) (c:Code),csize c≤N→∀(sc:SCode),compC fl P nt c=some sc→∀(ro:Option Nat),(ro=none∨flat sc=true)→∀(n:Nat) (Q:Post) (σ:Env) (ds:List Deferred) (a:Act) (w:World),
  Rel σ nt ds a→swp P sc Q σ ds w.heap→c.wpIn (FW ro) n P (Lift nt w Q) a w:=by
 intro N
 induction N with
 |zero=>intro c hN;exact absurd hN (by have:=csize_pos c;omega)
 |succ N IH=>
 intro c hN
 cases c with
 |skip=>
  intro sc hc ro hf n Q σ ds a w hr h
  simp[compC]at hc;subst hc
  exact wpIn_skip ⟨σ,ds,hr,SameB.refl w,h⟩
 |label l=>
  intro sc hc ro hf n Q σ ds a w hr h
  simp[compC]at hc;subst hc
  exact wpIn_label ⟨σ,ds,hr,SameB.refl w,h⟩
 |region id ops draw=>
  intro sc hc ro hf n Q σ ds a w hr h
  simp only[compC]at hc
  rcases cregionC_cases hc with⟨l,rfl,hl⟩|⟨rfl,⟨sp,s1,s2⟩,rfl,hl⟩|⟨rfl,hl⟩|⟨rfl,hl⟩|⟨rfl,hl⟩
  ·exact region_sound hm hl hr h
  ·exact region2_sound hm hl hr h
  ·exact ctree_sound hm hl hr h
  ·have hro:ro=none:=by
    rcases hf with hf|hf
    ·exact hf
    ·obtain⟨o,c,x,l,_,_,_,_,_,_,rfl⟩:=cdefer_spec hl
     simp[flat]at hf
   subst hro
   exact defer_sound hl hr h
  ·obtain⟨d,rfl⟩:=crecover_rcv hl
   exact h.elim
 |seq x y=>
  have ihx:=IH x (by simp only[csize]at hN;omega)
  have ihy:=IH y (by simp only[csize]at hN;omega)
  intro sc hc ro hf n Q σ ds a w hr h
  simp only[compC]at hc
  split at hc
  ·rename_i sx sy hx hy
   simp at hc;subst hc
   have hf1:ro=none∨flat sx=true:=hf.imp id fun h=>by simp[flat]at h;exact h.1
   have hf2:ro=none∨flat sy=true:=hf.imp id fun h=>by simp[flat]at h;exact h.2
   refine wpIn_seq (wpIn_mono (ihx sx hx ro hf1 n (thenQ (swp P sy Q) Q) σ ds a w hr h) ?_)
   rintro e a1 w1 ⟨σ1,ds1,hr1,hb1,hq⟩
   cases e with
   |normal=>exact wpIn_mono (ihy sy hy ro hf2 n Q σ1 ds1 a1 w1 hr1 hq) fun e a w h=>Lift.trans hb1 h
   |exit id=>exact⟨σ1,ds1,hr1,hb1,hq⟩
   |goto l=>exact⟨σ1,ds1,hr1,hb1,hq⟩
   |ret=>exact⟨σ1,ds1,hr1,hb1,hq⟩
   |panic ch=>exact⟨σ1,ds1,hr1,hb1,hq⟩
   |outgrown=>exact⟨σ1,ds1,hr1,hb1,hq⟩
  ·simp at hc
 |cond o x y=>
  have ihx:=IH x (by simp only[csize]at hN;omega)
  have ihy:=IH y (by simp only[csize]at hN;omega)
  intro sc hc ro hf n Q σ ds a w hr h
  simp only[compC]at hc
  split at hc
  ·rename_i sx sy hx hy
   simp at hc;subst hc
   have hf1:ro=none∨flat sx=true:=hf.imp id fun h=>by simp[flat]at h;exact h.1
   have hf2:ro=none∨flat sy=true:=hf.imp id fun h=>by simp[flat]at h;exact h.2
   simp only[swp]at h
   split at h
   ·rename_i he
    exact wpIn_cond_true (hr.knows _ _ he) (ihx sx hx ro hf1 n Q σ ds a w hr h)
   ·rename_i he
    exact wpIn_cond_false (hr.knows _ _ he) (ihy sy hy ro hf2 n Q σ ds a w hr h)
   ·exact h.elim
  ·simp at hc
 |block id c=>
  have ih:=IH c (by simp only[csize]at hN;omega)
  intro sc hc ro hf n Q σ ds a w hr h
  simp only[compC,Option.map_eq_some_iff]at hc
  obtain⟨s,hs,rfl⟩:=hc
  refine wpIn_block (wpIn_mono (ih s hs ro (hf.imp (fun x=>x) fun h=>by simpa[flat]using h) n (blockQ id Q) σ ds a w hr h) ?_)
  rintro e a1 w1 ⟨σ1,ds1,hr1,hb1,hq⟩
  cases e with
  |exit id'=>
   simp only[blockQ]at hq
   simp only[Exit.inBlock]
   split
   ·rename_i he;rw[if_pos he]at hq;exact⟨σ1,ds1,hr1,hb1,hq⟩
   ·rename_i he;rw[if_neg he]at hq;exact⟨σ1,ds1,hr1,hb1,hq⟩
  |normal=>exact⟨σ1,ds1,hr1,hb1,hq⟩
  |goto l=>exact⟨σ1,ds1,hr1,hb1,hq⟩
  |ret=>exact⟨σ1,ds1,hr1,hb1,hq⟩
  |panic ch=>exact⟨σ1,ds1,hr1,hb1,hq⟩
  |outgrown=>exact⟨σ1,ds1,hr1,hb1,hq⟩
 |loop c=>
  have ih:=IH c (by simp only[csize]at hN;omega)
  intro sc hc ro hf n Q σ ds a w hr h
  simp only[compC,Option.map_eq_some_iff]at hc
  obtain⟨s,hs,rfl⟩:=hc
  simp only[swp]at h
  obtain⟨ι,E,I,μ,i,hsub,hI,hround⟩:=h
  refine wpIn_loopN (fun m a' w'=>∃i,μ i=m∧Rel (mk (E i)) nt ds a'∧SameB w w'∧I i w'.heap) (m:=μ i) ⟨i,rfl,hr.sub (sub_mk hsub),SameB.refl w,hI⟩ ?_
  rintro m a1 w1 ⟨i1,hm1,hr1,hb1,hI1⟩
  refine wpIn_mono (ih s hs ro (hf.imp (fun x=>x) fun h=>by simpa[flat]using h) n _ (mk (E i1)) ds a1 w1 hr1 (hround i1 w1.heap hI1)) ?_
  rintro e a2 w2 ⟨σ2,ds2,hr2,hb2,hq⟩
  cases e with
  |normal=>
   obtain⟨rfl,i2,hsub2,hI2,hlt⟩:=hq
   exact⟨μ i2,by omega,i2,rfl,hr2.sub (sub_mk hsub2),hb1.trans hb2,hI2⟩
  |exit id=>exact⟨σ2,ds2,hr2,hb1.trans hb2,hq⟩
  |goto l=>exact⟨σ2,ds2,hr2,hb1.trans hb2,hq⟩
  |ret=>exact⟨σ2,ds2,hr2,hb1.trans hb2,hq⟩
  |panic ch=>exact⟨σ2,ds2,hr2,hb1.trans hb2,hq⟩
  |outgrown=>exact⟨σ2,ds2,hr2,hb1.trans hb2,hq⟩
 |scope c=>
  have ih:=IH c (by simp only[csize]at hN;omega)
  intro sc hc ro hf n Q σ ds a w hr h
  simp only[compC]at hc
  split at hc
  ·rename_i s hs
   split at hc
   ·simp at hc;subst hc
    refine wpIn_scopeS (wpIn_mono (ih s hs ro (hf.imp (fun x=>x) fun h=>by simpa[flat]using h) n (scopeQ Q) σ ds a w hr h) ?_)
    rintro e a1 w1 ⟨σ1,ds1,hr1,hb1,hq⟩
    cases e with
    |goto l=>exact hq.elim
    |exit id=>exact⟨σ1,ds1,hr1,hb1,hq⟩
    |normal=>exact⟨σ1,ds1,hr1,hb1,hq⟩
    |ret=>exact⟨σ1,ds1,hr1,hb1,hq⟩
    |panic ch=>exact⟨σ1,ds1,hr1,hb1,hq⟩
    |outgrown=>exact⟨σ1,ds1,hr1,hb1,hq⟩
   ·rename_i l hl
    split at hc
    ·rename_i r hfind
     simp at hc;subst hc
     have hro:ro=none:=by rcases hf with hf|hf;exact hf;simp[flat]at hf
     subst hro
     obtain⟨rest,h1,h2⟩:=sfind_comp c s l r hs hfind
     refine wpIn_scopeG h1 (wpIn_mono (ih s hs none (.inl rfl) n (jumpQ l (swp P r (scopeQ Q)) Q) σ ds a w hr h) ?_)
     rintro e a1 w1 ⟨σ1,ds1,hr1,hb1,hq⟩
     cases e with
     |goto l'=>
      obtain⟨rfl,hq⟩:=hq
      refine⟨rfl,?_⟩
      have hsz:=csize_find c l' rest h1
      refine wpIn_mono (IH rest (by simp only[csize]at hN;omega) r h2 none (.inl rfl) n (scopeQ Q) σ1 ds1 a1 w1 hr1 hq) ?_
      rintro e a2 w2 ⟨σ2,ds2,hr2,hb2,hq2⟩
      cases e with
      |goto l=>exact hq2.elim
      |exit id=>exact⟨σ2,ds2,hr2,hb1.trans hb2,hq2⟩
      |normal=>exact⟨σ2,ds2,hr2,hb1.trans hb2,hq2⟩
      |ret=>exact⟨σ2,ds2,hr2,hb1.trans hb2,hq2⟩
      |panic ch=>exact⟨σ2,ds2,hr2,hb1.trans hb2,hq2⟩
      |outgrown=>exact⟨σ2,ds2,hr2,hb1.trans hb2,hq2⟩
     |exit id=>exact⟨σ1,ds1,hr1,hb1,hq⟩
     |normal=>exact⟨σ1,ds1,hr1,hb1,hq⟩
     |ret=>exact⟨σ1,ds1,hr1,hb1,hq⟩
     |panic ch=>exact⟨σ1,ds1,hr1,hb1,hq⟩
     |outgrown=>exact⟨σ1,ds1,hr1,hb1,hq⟩
    ·simp at hc
  ·simp at hc
 |exit id=>
  intro sc hc ro hf n Q σ ds a w hr h
  simp[compC]at hc;subst hc
  exact wpIn_exit ⟨σ,ds,hr,SameB.refl w,h⟩
 |ret=>
  intro sc hc ro hf n Q σ ds a w hr h
  simp[compC]at hc;subst hc
  exact wpIn_ret ⟨σ,ds,hr,SameB.refl w,h⟩
 |goto l=>
  intro sc hc ro hf n Q σ ds a w hr h
  simp[compC]at hc;subst hc
  exact wpIn_goto ⟨σ,ds,hr,SameB.refl w,h⟩
 |refuse s=>
  intro sc hc ro hf n Q σ ds a w hr h
  simp[compC]at hc;subst hc
  exact(stuck_false h).elim
 |rangeFunc g ps ca cb=>
  have iha:=IH ca (by simp only[csize]at hN;omega)
  have ihb:=IH cb (by simp only[csize]at hN;omega)
  intro sc hc ro hf n Q σ ds a w hr h
  simp only[compC]at hc
  split at hc
  ·rename_i sa sb ha hb
   split at hc
   ·rename_i hall
    obtain⟨hps,hfa,hfb⟩:=hall
    simp at hc;subst hc
    have hro:ro=none:=by rcases hf with hf|hf;exact hf;simp[flat]at hf
    subst hro
    have hps':∀p∈ps.toList,p<nt:=fun p hp=>Nat.le_of_ble_eq_true (List.all_eq_true.1 hps p hp)
    simp only[swp]at h
    split at h
    ·rename_i f fi cap hg
     have hgv:=hr.knows _ _ hg
     refine wpIn_rangeFunc fun fn _=>?_
     obtain⟨r,hrdef⟩:∃r:Loop,r={state:=.ready,pending:=none,fn,tmps:=a.tmps,params:=ps,assign:=ca,body:=cb,defers:=w.heap.size}:=⟨_,rfl⟩
     obtain⟨w1,hw1⟩:∃w1,w1=(w.alloc (.deferred (some []))).alloc (.loop r):=⟨_,rfl⟩
     have hh1:w1.heap=(w.heap.push (.deferred (some []))).push (.loop r):=by rw[hw1];rfl
     have hL:LoopB w1.heap (w.heap.size+1) r .ready none:=⟨by
      rw[hh1,hrdef,Array.getElem?_push,if_pos (by simp)]⟩
     have hcalls:=h (w.heap.size+1) w.heap.size r w1.heap rfl rfl (by rw[hh1];simp) (fun k hk=>by
       rw[hh1,Array.getElem?_push,if_neg (by simp;omega),Array.getElem?_push,if_neg (by omega)]) (by
       rw[hh1,Array.getElem?_push,if_neg (by simp),Array.getElem?_push,if_pos rfl]) hL ?_
     ·refine⟨w.heap.size+1,[{target:=.collected w.heap.size,args:= #[]}],w1,{target:=.fn (.func f) cap,args:=fi++ #[.func (.yield (w.heap.size+1)) #[] #[]]},w1,f,
       ⟨fi.toList++[.func (.yield (w.heap.size+1)) #[] #[]]++cap.toList⟩,w1,?_,?_,fun _ _=>trivial,?_,fun hd=>by simp[FW,Fence.wide]at hd,?_⟩
      ·have:=run_enterLoop_outer (P:=P) (w:=w) fn a.tmps ps ca cb
       rw[hw1,hrdef];exact this
      ·have hc:a.eval (.const (.func (.yield (w.heap.size+1)) #[] #[]))=.func (.yield (w.heap.size+1)) #[] #[]:=rfl
       simp[resolve,hgv,Deferred.ofValue,hc]
      ·have e:fi++ #[Value.func (.yield (w.heap.size+1)) #[] #[]]++cap=⟨fi.toList++[.func (.yield (w.heap.size+1)) #[] #[]]++cap.toList⟩:=by apply Array.ext';simp
       simp only[invoke]
       rw[e]
       exact okFn_call hcalls.1 _ _
      ·refine callsIn_FW.2 ((hcalls.2 w1 rfl).mono ?_)
       rintro e w2 ⟨he,hne,h1,h2,h3⟩
       have hb1:SameB w w2:=⟨h1.trans (by rw[hw1];rfl),h2.trans (by rw[hw1];rfl),h3.trans (by rw[hw1];rfl)⟩
       cases e with
       |panicked ch=>exact he.elim
       |outgrown=>exact he.elim
       |returned v=>
        obtain⟨st,p,hlp,hbusy,hend⟩:=he
        have hre:=run_endLoop (P:=P) (w:=w2) hlp.at_ hbusy
        have hr2:Rel σ nt ({target:=.collected w.heap.size,args:= #[]}::ds) {a with defers:=[{target:=.collected w.heap.size,args:= #[]}]++a.defers}:=
         ⟨hr.size,by simp[hr.defers],hr.knows⟩
        have hq:=hend _ (turn_of_put (r:=r) hlp.at_ .exhausted p)
        refine⟨p,_,hre,?_⟩
        cases p with
        |none=>exact⟨σ,_,hr2,hb1,hq⟩
        |some c=>
         cases c with
         |ret=>exact wpIn_ret ⟨σ,_,hr2,hb1,hq⟩
         |exit id=>exact wpIn_exit ⟨σ,_,hr2,hb1,hq⟩
         |_=>exact hq.elim
     ·-- a round
      intro h2 args R hl2 hlen hsw w2 hw2
      subst hw2
      have hlen':(⟨args⟩:Array Value).size=r.params.size:=by rw[hrdef];simpa using hlen
      have hy:=run_yield (P:=P) (w:=w2) (args:=⟨args⟩) hl2.at_ hlen'
      refine⟨_,_,_,_,hy,?_⟩
      have hrel:Rel (updL σ ps.toList args) nt [] {tmps:=(ps.toList.zip args).foldl (fun t (x:Nat×Value)=>t.setIfInBounds x.1 x.2) a.tmps,defers:=[]}:=by
       have:=Rel.put_list (nt:=nt) (ds:=[]) ps.toList args σ {a with defers:=[]} ⟨hr.size,rfl,hr.knows⟩ hps' hlen
       exact this
      have htmps:(r.params.zip (⟨args⟩:Array Value)).foldl (fun tmps (x:Tmp×Value)=>tmps.setIfInBounds x.1 x.2) r.tmps=(ps.toList.zip args).foldl (fun t (x:Nat×Value)=>t.setIfInBounds x.1 x.2) a.tmps:=by
       rw[hrdef,←Array.foldl_toList,Array.toList_zip]
      refine roundIn_of_wpIn (F:=Fence.wide) trivial ?_
      have key:ca.wpIn (FW (some (w.heap.size+1))) 0 P (Exit.then (fun a₁ w₁=>∃w₂,(Instr.beginRound (w.heap.size+1)).run P w₁=.ok () w₂∧
        cb.wpIn (FW (some (w.heap.size+1))) 0 P (roundPost P (w.heap.size+1) fun e w'=>R e w'.heap∧e≠.outgrown∧w'.os=w2.os∧w'.output=w2.output∧w'.tape=w2.tape) a₁ w₂) (fun _ _ _=>False))
        {tmps:=(ps.toList.zip args).foldl (fun t (x:Nat×Value)=>t.setIfInBounds x.1 x.2) a.tmps,defers:=[]} w2:=by
       refine wpIn_mono (iha sa ha (some (w.heap.size+1)) (.inr hfa) 0 _ _ [] _ w2 hrel hsw) ?_
       rintro e a3 w3 ⟨σ3,ds3,hr3,hb3,hq⟩
       cases e with
       |normal=>
        obtain⟨hl3,hbody⟩:=hq
        have hbr:=run_beginRound (P:=P) (w:=w3) hl3.at_ rfl
        have hturn:=turn_of_put (r:=r) hl3.at_ .busy none
        have hsw4:=hbody _ hturn
        refine⟨_,hbr,wpIn_mono (ihb sb hb (some (w.heap.size+1)) (.inr hfb) 0 _ σ3 ds3 a3 _ hr3 hsw4) ?_⟩
        rintro e a5 w5 ⟨σ5,ds5,hr5,hb5,hq⟩
        have hb35:SameB w2 w5:=hb3.trans (SameB.trans ⟨rfl,rfl,rfl⟩ hb5)
        cases e with
        |normal=>
         obtain⟨hl5,hR⟩:=hq
         have hre:=run_endRound (P:=P) (w:=w5) none hl5.at_
         exact⟨_,_,hre,hR _ (turn_of_put (r:=r) hl5.at_ .ready none),by simp,hb35⟩
        |ret=>
         obtain⟨hl5,hR⟩:=hq
         have hre:=run_endRound (P:=P) (w:=w5) (some .ret) hl5.at_
         exact⟨_,_,hre,hR _ (turn_of_put (r:=r) hl5.at_ .done (some .ret)),by simp,hb35⟩
        |exit id=>
         obtain⟨hl5,hR⟩:=hq
         have hre:=run_endRound (P:=P) (w:=w5) (some (.exit id)) hl5.at_
         exact⟨_,_,hre,hR _ (turn_of_put (r:=r) hl5.at_ .done (some (.exit id))),by simp,hb35⟩
        |goto l=>exact hq.elim
        |panic ch=>exact hq.elim
        |outgrown=>exact hq.elim
       |_=>exact hq.elim
      rw[hrdef]at htmps⊢
      simp only at htmps⊢
      rw[htmps]
      exact key
    ·exact h.elim
   ·simp at hc
  ·simp at hc
theorem comp_sound (hm:P.follows .mixedOrders=true) (c:Code) (sc:SCode) (hc:compC fl P nt c=some sc) (ro:Option Nat) (hf:ro=none∨flat sc=true) (n:Nat) (Q:Post) (σ:Env) (ds:List Deferred) (a:Act) (w:World)
  (hr:Rel σ nt ds a) (h:swp P sc Q σ ds w.heap):c.wpIn (FW ro) n P (Lift nt w Q) a w:=
 comp_soundN hm (csize c) c (Nat.le_refl _) sc hc ro hf n Q σ ds a w hr h
end Go.Sx
namespace Go.Sx
open Go
variable {P:Program} {σ:Env} {nt:Nat} {ds:List Deferred} {fl:Bool}
def resQ (σ:Env) (h:Heap):List SRes→(List Value→Prop)→Prop
 |[],K=>K []
 |.t n::r,K=>match σ n with
  |some v=>resQ σ h r fun vs=>K (v::vs)
  |none=>False
 |.c1 a::r,K=>match σ a with
  |some (.pointer (some ⟨b,o,none⟩))=>∃v,cell h b o=some v∧resQ σ h r fun vs=>K (v::vs)
  |_=>False
 |.cn a n::r,K=>match σ a with
  |some (.pointer (some ⟨b,o,none⟩))=>∃vs,vs.length=n∧Cells h b o vs∧resQ σ h r fun us=>K (.agg ⟨vs⟩::us)
  |_=>False
def retV:List Value→Value
 |[v]=>v
 |vs=>.tuple ⟨vs⟩
def leaveQ (rs:List SRes) (R:Ending→Heap→Prop) (σ:Env):List Deferred→FrameMode→Heap→Prop
 |[],.returning,h=>resQ σ h rs fun vs=>R (.returned (retV vs)) h
 |[],.panicking ch,h=>R (.panicked ch) h
 |[],.run,_=>False
 |d::ds,u,h=>match d.target with
  |.collected D=>h[D]? =some (.deferred (some []))∧∀h',PutO h h' D (.deferred none)→leaveQ rs R σ ds u h'
  |_=>False
def retQ (rs:List SRes) (R:Ending→Heap→Prop):Post
 |.normal,σ,ds,h|.ret,σ,ds,h=>leaveQ rs R σ ds .returning h
 |.panic ch,σ,ds,h=>leaveQ rs R σ ds (.panicking ch) h
 |_,_,_,_=>False
def argEnv:Nat→List Value→Env
 |_,[]=>fun _=>none
 |n,v::vs=>upd (argEnv (n+1) vs) (some n) v
def resSem (tmps:Array Value):ResultVar→Sem Value
 |.tmp t=>pure (tmps.getD t undef)
 |.cell a t=>do loadVar t (←asAddr (tmps.getD a undef))
theorem results_eq (fn:Func) (tmps:Array Value):results fn tmps=(do let vs←fn.results.mapM (resSem tmps);pure (if h:vs.size=1 then vs[0]else .tuple vs)):=by
 have e:(fun x=>match x with
  |ResultVar.tmp t=>(pure (tmps.getD t undef):Sem Value)
  |ResultVar.cell a t=>do loadVar t (←asAddr (tmps.getD a undef)))=resSem tmps:=by
  funext x;cases x<;>rfl
 unfold results
 rw[←e]
 rfl
theorem run_asAddr (a:Addr) (w:World):(asAddr (.pointer (some a))).run P w=.ok a w:=rfl
theorem resQ_run {ro:Unit}:∀(rv:List ResultVar) (rs:List SRes) (K:List Value→Prop) (a:Act) (w:World),cres P rv=some rs→Rel σ nt ds a→resQ σ w.heap rs K→
  ∃vs,(rv.mapM (resSem a.tmps)).run P w=.ok vs w∧vs.length=rv.length∧K vs
 |[],rs,K,a,w,hc,hr,h=>by
  simp[cres]at hc;subst hc
  exact⟨[],by simp,rfl,h⟩
 |.tmp n::rv,rs,K,a,w,hc,hr,h=>by
  simp only[cres,Option.map_eq_some_iff]at hc
  obtain⟨r,hr0,rfl⟩:=hc
  simp only[resQ]at h
  split at h
  ·rename_i v hv
   obtain⟨vs,h1,h2,h3⟩:=resQ_run (ro:=ro) rv r _ a w hr0 hr h
   have hk:=hr.knows (.tmp n) v hv
   simp only[Act.eval]at hk
   refine⟨v::vs,?_,by simp[h2],h3⟩
   simp only[List.mapM_cons,resSem,Sem.run_bind,Sem.run_pure,Result.andThen_ok,h1,hk]
  ·exact h.elim
 |.cell x t::rv,rs,K,a,w,hc,hr,h=>by
  simp only[cres]at hc
  split at hc
  ·rename_i n l hg hs hl
   simp at hc;subst hc
   simp only[resQ]at h
   split at h
   ·rename_i b o hx
    obtain⟨us,hn,hcs,h⟩:=h
    obtain⟨vs,h1,h2,h3⟩:=resQ_run (ro:=ro) rv l _ a w hl hr h
    have hk:=hr.knows (.tmp x) _ hx
    simp only[Act.eval]at hk
    have hld:=run_loadAtN (P:=P) hg hs hn w rfl hcs
    have hld':(loadVar t ⟨b,o,none⟩).run P w=.ok (.agg ⟨us⟩) w:=by simpa[Instr.loadAt,Instr.sureAddr]using hld
    refine⟨.agg ⟨us⟩::vs,?_,by simp[h2],h3⟩
    simp only[List.mapM_cons,resSem,Sem.run_bind,Sem.run_pure,Result.andThen_ok,h1,hk,run_asAddr,hld']
   ·exact h.elim
  ·rename_i n l hg hs hl
   simp at hc;subst hc
   simp only[resQ]at h
   split at h
   ·rename_i b o hx
    obtain⟨u,hcs,h⟩:=h
    obtain⟨vs,h1,h2,h3⟩:=resQ_run (ro:=ro) rv l _ a w hl hr h
    have hk:=hr.knows (.tmp x) _ hx
    simp only[Act.eval]at hk
    have hld:=run_loadAt1 (P:=P) hg w rfl hcs
    have hld':(loadVar t ⟨b,o,none⟩).run P w=.ok u w:=by simpa[Instr.loadAt,Instr.sureAddr]using hld
    refine⟨u::vs,?_,by simp[h2],h3⟩
    simp only[List.mapM_cons,resSem,Sem.run_bind,Sem.run_pure,Result.andThen_ok,h1,hk,run_asAddr,hld']
   ·exact h.elim
  ·simp at hc
theorem run_results {fn:Func} {rs:List SRes} {K:List Value→Prop} {a:Act} {w:World} (hc:cres P fn.results.toList=some rs) (hr:Rel σ nt ds a) (h:resQ σ w.heap rs K):
  ∃vs,(results fn a.tmps).run P w=.ok (retV vs) w∧K vs:=by
 obtain⟨vs,h1,h2,h3⟩:=resQ_run (P:=P) (ro:=()) fn.results.toList rs K a w hc hr h
 refine⟨vs,?_,h3⟩
 have e:=Array.mapM_eq_mapM_toList (m:=Sem) (f:=resSem a.tmps) (xs:=fn.results)
 rw[results_eq,Sem.run_bind,e,Sem.run_map,h1]
 simp only[Result.andThen_ok,Sem.run_pure]
 cases vs with
 |nil=>rfl
 |cons v vs=>cases vs<;>rfl
theorem leaves_of {fn:Func} {rs:List SRes} {R:Ending→Heap→Prop} {w0:World} (hc:cres P fn.results.toList=some rs) {n:Nat}:∀(ds ds':List Deferred) (u:FrameMode) (a:Act) (w:World),Rel σ nt ds' a→SameB w0 w→
  leaveQ rs R σ ds u w.heap→LeavesInM Fence.wide n P fn a.tmps (fun e w'=>R e w'.heap∧e≠.outgrown∧w'.os=w0.os∧w'.output=w0.output∧w'.tape=w0.tape) ds u w
 |[],ds',.returning,a,w,hr,hb,h=>by
  obtain⟨vs,h1,h2⟩:=run_results hc hr h
  exact⟨_,h1,h2,by simp,hb⟩
 |[],ds',.panicking ch,a,w,hr,hb,h=>⟨h,by simp,hb⟩
 |[],ds',.run,a,w,hr,hb,h=>h.elim
 |d::ds,ds',u,a,w,hr,hb,h=>by
  simp only[leaveQ]at h
  split at h
  ·rename_i D hd
   obtain⟨h1,h2⟩:=h
   have ht:=run_takeDeferred (P:=P) (w:=w) h1
   have:=leaves_of (n:=n) hc ds ds' u a (w.putObj D (.deferred none)) hr (hb.trans ⟨rfl,rfl,rfl⟩) (h2 _ (putO_of_set h1))
   have hu:u≠.run:=by
    rintro rfl
    clear ht h2 h1
    induction ds generalizing w with
    |nil=>simp[LeavesInM,LeavesIn]at this
    |cons d ds ih=>exact absurd rfl this.1
   exact⟨hu,.inl ⟨D,_,hd,ht,this⟩⟩
  ·exact h.elim
theorem argEnv_spec:∀(args:List Value) (n t:Nat) (v:Value),argEnv n args t=some v→n≤t∧args[t-n]? =some v
 |[],n,t,v,h=>by simp[argEnv]at h
 |x::args,n,t,v,h=>by
  by_cases ht:t=n
  ·subst ht
   simp[argEnv,upd]at h
   simp[h]
  ·have:argEnv (n+1) args t=some v:=by
    rw[←h];exact(upd_ne (by intro e;exact ht (by simpa using e.symm))).symm
   obtain⟨h1,h2⟩:=argEnv_spec args (n+1) t v this
   refine⟨by omega,?_⟩
   have e:t-n=(t-(n+1))+1:=by omega
   rw[e,List.getElem?_cons_succ];exact h2
theorem rel_enter (nt:Nat) (args:List Value) (ha:args.length≤nt):Rel (argEnv 0 args) nt [] {tmps:=(⟨args⟩:Array Value)++Array.replicate (nt-(⟨args⟩:Array Value).size) undef,defers:=[]}:=by
 refine⟨by simp;omega,rfl,fun x v hx=>?_⟩
 cases x with
 |tmp t=>
  obtain⟨_,h2⟩:=argEnv_spec args 0 t v hx
  have hlt:=(List.getElem?_eq_some_iff.1 h2).1
  simp at h2 hlt
  rw[List.getElem?_eq_getElem hlt]at h2
  simp at h2
  simp[Act.eval,Array.getElem?_append,hlt,h2]
 |const c=>simpa[ev,Act.eval]using hx
 |global g=>simpa[ev,Act.eval]using hx
 |func f=>simpa[ev,Act.eval]using hx
theorem calls_of_swp (hm:P.follows .mixedOrders=true) {f:Nat} {fn:Func} {c:Code} {sc:SCode} {rs:List SRes} {args:List Value} {h:Heap} {R:Ending→Heap→Prop}
  (hf:P.funcs[f]? =some fn) (hb:fn.body=some c) (hok:okFn P f=true) (hc:comp P fn.ntmps c=some sc) (hrs:cres P fn.results.toList=some rs) (ha:args.length≤fn.ntmps)
  (hs:swp P sc (retQ rs R) (argEnv 0 args) [] h):CallsH P f args h R:=by
 refine⟨hok,fun w hw=>?_⟩
 subst hw
 refine(callsIn_wide (n:=0)).1 (callsIn_of_wp_marks hf hb trivial ?_)
 have hrel:Rel (argEnv 0 args) fn.ntmps [] {tmps:=(⟨args⟩:Array Value)++Array.replicate (fn.ntmps-(⟨args⟩:Array Value).size) undef,defers:=[]}:=by
  refine⟨by simp;omega,rfl,fun x v hx=>?_⟩
  cases x with
  |tmp t=>
   obtain⟨_,h2⟩:=argEnv_spec args 0 t v hx
   have hlt:=(List.getElem?_eq_some_iff.1 h2).1
   simp at h2 hlt
   rw[List.getElem?_eq_getElem hlt]at h2
   simp at h2
   simp[Act.eval,Array.getElem?_append,hlt,h2]
  |const c=>simpa[ev,Act.eval]using hx
  |global g=>simpa[ev,Act.eval]using hx
  |func f=>simpa[ev,Act.eval]using hx
 refine wpIn_mono (comp_sound hm c sc hc none (.inl rfl) 0 _ _ [] _ w hrel hs) ?_
 rintro e a1 w1 ⟨σ1,ds1,hr1,hb1,hq⟩
 cases e with
 |normal=>
  have:=leaves_of (n:=0) (w0:=w) hrs ds1 ds1 .returning a1 w1 hr1 hb1 hq
  rw[←hr1.defers]at this;exact this
 |ret=>
  have:=leaves_of (n:=0) (w0:=w) hrs ds1 ds1 .returning a1 w1 hr1 hb1 hq
  rw[←hr1.defers]at this;exact this
 |panic ch=>
  have:=leaves_of (n:=0) (w0:=w) hrs ds1 ds1 (.panicking ch) a1 w1 hr1 hb1 hq
  rw[←hr1.defers]at this;exact this
 |exit id=>exact hq.elim
 |goto l=>exact hq.elim
 |outgrown=>exact hq.elim
def Sound (P:Program) (f nt:Nat) (sc:SCode) (rs:List SRes):Prop:=
 ∀{args:List Value} {h:Heap} {R:Ending→Heap→Prop},args.length≤nt→swp P sc (retQ rs R) (argEnv 0 args) [] h→CallsH P f args h R
theorem sound_of (hm:P.follows .mixedOrders=true) {f:Nat} {fn:Func} {c:Code} {sc:SCode} {rs:List SRes}
  (hf:P.funcs[f]? =some fn) (hb:fn.body=some c) (hok:okFn P f=true) (hc:comp P fn.ntmps c=some sc) (hrs:cres P fn.results.toList=some rs):Sound P f fn.ntmps sc rs:=
 fun ha hs=>calls_of_swp hm hf hb hok hc hrs ha hs
def DefH (P:Program) (f:Nat) (args:List Value) (u:FrameMode) (h:Heap) (R:Ending→FrameMode→Heap→Prop):Prop:=
 okFn P f=true∧∀w:World,w.heap=h→CallsDIn Fence.wide 0 P f ⟨args⟩ u w fun e u' w'=>R e u' w'.heap∧e≠.outgrown∧w'.os=w.os∧w'.output=w.output∧w'.tape=w.tape
theorem DefH.mono {f:Nat} {args:List Value} {u:FrameMode} {h:Heap} {R R':Ending→FrameMode→Heap→Prop} (hd:DefH P f args u h R) (hr:∀e u' h',R e u' h'→R' e u' h'):DefH P f args u h R':=
 ⟨hd.1,fun w hw=>(hd.2 w hw).mono fun _ _ _ ⟨a,b⟩=>⟨hr _ _ _ a,b⟩⟩
def leaveQD (P:Program) (rs:List SRes) (R:Ending→Heap→Prop) (σ:Env):List Deferred→FrameMode→Heap→Prop
 |[],.returning,h=>resQ σ h rs fun vs=>R (.returned (retV vs)) h
 |[],.panicking ch,h=>R (.panicked ch) h
 |[],.run,_=>False
 |d::ds,u,h=>u≠.run∧match d.target with
  |.collected D=>h[D]? =some (.deferred (some []))∧∀h',PutO h h' D (.deferred none)→leaveQD P rs R σ ds u h'
  |.fn (.func f) cap=>DefH P f (d.args.toList++cap.toList) u h fun e u' h'=>match e with
   |.returned _=>leaveQD P rs R σ ds (settle u') h'
   |.panicked ch=>leaveQD P rs R σ ds (raised u' ch) h'
   |.outgrown=>False
  |_=>False
def retQD (P:Program) (rs:List SRes) (R:Ending→Heap→Prop):Post
 |.normal,σ,ds,h|.ret,σ,ds,h=>leaveQD P rs R σ ds .returning h
 |.panic ch,σ,ds,h=>leaveQD P rs R σ ds (.panicking ch) h
 |_,_,_,_=>False
theorem leavesD_of {fn:Func} {rs:List SRes} {R:Ending→Heap→Prop} {w0:World} (hc:cres P fn.results.toList=some rs):∀(ds ds':List Deferred) (u:FrameMode) (a:Act) (w:World),Rel σ nt ds' a→SameB w0 w→
  leaveQD P rs R σ ds u w.heap→LeavesInM Fence.wide 0 P fn a.tmps (fun e w'=>R e w'.heap∧e≠.outgrown∧w'.os=w0.os∧w'.output=w0.output∧w'.tape=w0.tape) ds u w
 |[],ds',.returning,a,w,hr,hb,h=>by
  obtain⟨vs,h1,h2⟩:=run_results hc hr h
  exact⟨_,h1,h2,by simp,hb⟩
 |[],ds',.panicking ch,a,w,hr,hb,h=>⟨h,by simp,hb⟩
 |[],ds',.run,a,w,hr,hb,h=>h.elim
 |d::ds,ds',u,a,w,hr,hb,h=>by
  simp only[leaveQD]at h
  obtain⟨hu,h⟩:=h
  split at h
  ·rename_i D hd
   obtain⟨h1,h2⟩:=h
   have ht:=run_takeDeferred (P:=P) (w:=w) h1
   have:=leavesD_of hc ds ds' u a (w.putObj D (.deferred none)) hr (hb.trans ⟨rfl,rfl,rfl⟩) (h2 _ (putO_of_set h1))
   exact⟨hu,.inl ⟨D,_,hd,ht,this⟩⟩
  ·rename_i f cap hd
   refine⟨hu,.inr ⟨fun h=>by simp[Fence.wide]at h,.func f,cap,f,⟨d.args.toList++cap.toList⟩,hd,?_,fun _ _=>trivial,(h.2 w rfl).mono ?_⟩⟩
   ·have hap:d.args++cap=⟨d.args.toList++cap.toList⟩:=by apply Array.ext';simp
    rw[hd]
    show(callFunc f (d.args++cap)).run P w=_
    rw[hap];exact okFn_call h.1 _ w
   ·rintro e u' w' ⟨he,hne,h3⟩
    cases e with
    |returned v=>exact leavesD_of hc ds ds' _ a w' hr (hb.trans h3) he
    |panicked ch=>exact leavesD_of hc ds ds' _ a w' hr (hb.trans h3) he
    |outgrown=>exact absurd rfl hne
  ·exact h.elim
theorem callsD_of_swp (hm:P.follows .mixedOrders=true) {f:Nat} {fn:Func} {c:Code} {sc:SCode} {rs:List SRes} {args:List Value} {h:Heap} {R:Ending→Heap→Prop}
  (hf:P.funcs[f]? =some fn) (hb:fn.body=some c) (hok:okFn P f=true) (hc:compC fl P fn.ntmps c=some sc) (hrs:cres P fn.results.toList=some rs) (ha:args.length≤fn.ntmps)
  (hs:swp P sc (retQD P rs R) (argEnv 0 args) [] h):CallsH P f args h R:=by
 refine⟨hok,fun w hw=>?_⟩
 subst hw
 refine(callsIn_wide (n:=0)).1 (callsIn_of_wp_marks hf hb trivial ?_)
 have hrel:=rel_enter fn.ntmps args ha
 refine wpIn_mono (comp_sound hm c sc hc none (.inl rfl) 0 _ _ [] _ w hrel hs) ?_
 rintro e a1 w1 ⟨σ1,ds1,hr1,hb1,hq⟩
 cases e with
 |normal=>
  have:=leavesD_of (w0:=w) hrs ds1 ds1 .returning a1 w1 hr1 hb1 hq
  rw[←hr1.defers]at this;exact this
 |ret=>
  have:=leavesD_of (w0:=w) hrs ds1 ds1 .returning a1 w1 hr1 hb1 hq
  rw[←hr1.defers]at this;exact this
 |panic ch=>
  have:=leavesD_of (w0:=w) hrs ds1 ds1 (.panicking ch) a1 w1 hr1 hb1 hq
  rw[←hr1.defers]at this;exact this
 |exit id=>exact hq.elim
 |goto l=>exact hq.elim
 |outgrown=>exact hq.elim
def SoundD (P:Program) (f nt:Nat) (sc:SCode) (rs:List SRes):Prop:=
 ∀{args:List Value} {h:Heap} {R:Ending→Heap→Prop},args.length≤nt→swp P sc (retQD P rs R) (argEnv 0 args) [] h→CallsH P f args h R
theorem soundD_of (hm:P.follows .mixedOrders=true) {f:Nat} {fn:Func} {c:Code} {sc:SCode} {rs:List SRes}
  (hf:P.funcs[f]? =some fn) (hb:fn.body=some c) (hok:okFn P f=true) (hc:compC fl P fn.ntmps c=some sc) (hrs:cres P fn.results.toList=some rs):SoundD P f fn.ntmps sc rs:=
 fun ha hs=>callsD_of_swp hm hf hb hok hc hrs ha hs
def recV:FrameMode→Value
 |.panicking ({v,recovered:=false,goexit:=false}::_)=>v
 |_=>.nilIface
def recM:FrameMode→FrameMode
 |.panicking ({v,recovered:=false,goexit:=false}::older)=>.panicking ({v,recovered:=true}::older)
 |u=>u
def swpS (P:Program):SCode→(FrameMode→Post)→FrameMode→Env→List Deferred→Heap→Prop
 |.rcv d,Q,u,σ,ds,h=>Q (recM u) .normal (upd σ d (recV u)) ds h
 |.seq a b,Q,u,σ,ds,h=>swpS P a (fun u' e σ' ds' h'=>match e with
  |.normal=>swpS P b Q u' σ' ds' h'
  |e=>Q u' e σ' ds' h') u σ ds h
 |c,Q,u,σ,ds,h=>swp P c (Q u) σ ds h
def retF (rs:List SRes) (u:FrameMode) (R:Ending→FrameMode→Heap→Prop):Post
 |.normal,σ,ds,h|.ret,σ,ds,h=>ds=[]∧resQ σ h rs fun vs=>R (.returned (retV vs)) u h
 |.panic ch,_,ds,h=>ds=[]∧R (.panicked ch) u h
 |_,_,_,_=>False
theorem wpSIn_mono {F:Fence} {n:Nat} {Q Q':Exit→Act→List Frame→World→Prop} {c:Code} {a:Act} {cs:List Frame} {w:World} (h:c.wpSIn F n P Q a cs w) (hq:∀e a' cs' w',Q e a' cs' w'→Q' e a' cs' w'):
  c.wpSIn F n P Q' a cs w:=
 fun b k hb hr hF hroom=>let⟨e,a',cs',w',l,q,r⟩:=h b k hb hr hF hroom;⟨e,a',cs',w',l,hq _ _ _ _ q,r⟩
theorem crecover_spec {ops:Array Oper} {s:SCode} (h:crecover nt ops=some s):∃o c,ops= #[o]∧o.op=.call c∧o.guard=none∧c.callee=.builtin .recover∧c.args= #[]∧(∀d,o.dst=some d→d<nt)∧s=.rcv o.dst:=by
 unfold crecover at h
 split at h
 ·rename_i o ho
  split at h
  ·rename_i c hop hg
   split at h
   ·rename_i hcal hargs
    split at h
    ·rename_i hd
     simp at h
     refine⟨o,c,by apply Array.ext';simpa using ho,hop,hg,hcal,by apply Array.ext';simpa using hargs,fun d hd'=>?_,h.symm⟩
     rw[hd']at hd
     exact Nat.le_of_ble_eq_true hd
    ·simp at h
   ·simp at h
  ·simp at h
 ·simp at h
theorem recoverD_modes (c₀:Frame) (cs:List Frame):(recoverD (c₀::cs)=some (recV c₀.mode,{c₀ with mode:=recM c₀.mode}::cs))∨(recoverD (c₀::cs)=none∧recV c₀.mode=.nilIface∧({c₀ with mode:=recM c₀.mode}:Frame)=c₀):=by
 simp only[recoverD]
 split
 ·rename_i v older hm
  left
  rw[hm];rfl
 ·rename_i hm
  right
  refine⟨rfl,?_,?_⟩
  ·unfold recV
   split
   ·rename_i v older hm';exact absurd hm' (hm v older)
   ·rfl
  ·have:recM c₀.mode=c₀.mode:=by
    unfold recM
    split
    ·rename_i v older hm';exact absurd hm' (hm v older)
    ·rfl
   rw[this]
theorem swpS_sound (hm:P.follows .mixedOrders=true) (cs:List Frame):∀(c:Code) (sc:SCode),compC fl P nt c=some sc→
  ∀(c₀:Frame) (Q:FrameMode→Post) (σ:Env) (ds:List Deferred) (a:Act) (w:World),Rel σ nt ds a→swpS P sc Q c₀.mode σ ds w.heap→
  c.wpSIn (FW none) 0 P (fun e a' cs' w'=>∃u',cs'={c₀ with mode:=u'}::cs∧Lift nt w (Q u') e a' w') a (c₀::cs) w:=by
 intro c
 have plain:∀(sc:SCode),compC fl P nt c=some sc→∀(c₀:Frame) (Q:FrameMode→Post) (σ:Env) (ds:List Deferred) (a:Act) (w:World),Rel σ nt ds a→swp P sc (Q c₀.mode) σ ds w.heap→
   c.wpSIn (FW none) 0 P (fun e a' cs' w'=>∃u',cs'={c₀ with mode:=u'}::cs∧Lift nt w (Q u') e a' w') a (c₀::cs) w:=fun sc hc c₀ Q σ ds a w hr h=>
  wpSIn_of_wpIn rfl (wpIn_mono (comp_sound hm c sc hc none (.inl rfl) 0 (Q c₀.mode) σ ds a w hr h) fun e a2 w2 hl=>⟨c₀.mode,rfl,hl⟩)
 induction c with
 |region id ops draw=>
  intro sc hc c₀ Q σ ds a w hr h
  have hc0:=hc
  simp only[compC]at hc
  rcases cregionC_cases hc with⟨l,rfl,hl⟩|⟨rfl,x,rfl,hl⟩|⟨rfl,hl⟩|⟨rfl,hl⟩|⟨rfl,hl⟩
  ·exact plain _ hc0 c₀ Q σ ds a w hr h
  ·exact plain _ hc0 c₀ Q σ ds a w hr h
  ·unfold ctree at hl
   split at hl
   ·simp at hl
   ·simp only[Option.map_eq_some_iff]at hl
    obtain⟨x,_,rfl⟩:=hl
    exact plain _ hc0 c₀ Q σ ds a w hr h
  ·obtain⟨o,c,x,l,_,_,_,_,_,_,rfl⟩:=cdefer_spec hl
   exact plain _ hc0 c₀ Q σ ds a w hr h
  ·obtain⟨o,c,rfl,hop,hg,hcal,hargs,hdst,rfl⟩:=crecover_spec hl
   refine wpSIn_region ?_
   have hlist:List.range (#[o]:Array Oper).size=[0]:=rfl
   rw[hlist]
   simp only[wpOpsSIn]
   have ho:(#[o]:Array Oper)[0]? =some o:=rfl
   simp only[ho]
   refine⟨fun _ _=>trivial,?_⟩
   have hw:Region.wanted o (yielded #[o] a.tmps)=true:=by simp[Region.wanted,hg]
   have hrun:(execOp a.eval o).run P w=.ok .recover w:=by
    simp[execOp,hop,resolve,hcal,hargs,invoke,builtin]
   simp only[hw,if_true,hrun]
   simp only[swpS]at h
   rcases recoverD_modes c₀ cs with hrec|⟨hrec,hv,hcc⟩
   ·simp only[hrec]
    exact⟨recM c₀.mode,rfl,_,ds,hr.put hdst _,SameB.refl w,h⟩
   ·simp only[hrec]
    rw[hv]at h
    exact⟨recM c₀.mode,by rw[hcc],_,ds,hr.put hdst _,SameB.refl w,h⟩
 |seq x y ihx ihy=>
  intro sc hc c₀ Q σ ds a w hr h
  simp only[compC]at hc
  split at hc
  ·rename_i sx sy hx hy
   simp at hc;subst hc
   simp only[swpS]at h
   refine wpSIn_seq (wpSIn_mono (ihx (fun sc hc c₀ Q σ ds a w hr h=>wpSIn_of_wpIn rfl (wpIn_mono (comp_sound hm x sc hc none (.inl rfl) 0 (Q c₀.mode) σ ds a w hr h) fun e a2 w2 hl=>⟨c₀.mode,rfl,hl⟩)) sx hx c₀ _ σ ds a w hr h) ?_)
   rintro e a1 cs1 w1 ⟨u',rfl,σ1,ds1,hr1,hb1,hq⟩
   cases e with
   |normal=>
    refine wpSIn_mono (ihy (fun sc hc c₀ Q σ ds a w hr h=>wpSIn_of_wpIn rfl (wpIn_mono (comp_sound hm y sc hc none (.inl rfl) 0 (Q c₀.mode) σ ds a w hr h) fun e a2 w2 hl=>⟨c₀.mode,rfl,hl⟩)) sy hy {c₀ with mode:=u'} Q σ1 ds1 a1 w1 hr1 hq) ?_
    rintro e a2 cs2 w2 ⟨u2,rfl,hl⟩
    exact⟨u2,rfl,Lift.trans hb1 hl⟩
   |exit id=>exact⟨u',rfl,σ1,ds1,hr1,hb1,hq⟩
   |goto l=>exact⟨u',rfl,σ1,ds1,hr1,hb1,hq⟩
   |ret=>exact⟨u',rfl,σ1,ds1,hr1,hb1,hq⟩
   |panic ch=>exact⟨u',rfl,σ1,ds1,hr1,hb1,hq⟩
   |outgrown=>exact⟨u',rfl,σ1,ds1,hr1,hb1,hq⟩
  ·simp at hc
 |skip=>intro sc hc;have hc0:=hc;simp[compC]at hc;subst hc;exact fun c₀ Q σ ds a w hr h=>plain _ hc0 c₀ Q σ ds a w hr h
 |label l=>intro sc hc;have hc0:=hc;simp[compC]at hc;subst hc;exact fun c₀ Q σ ds a w hr h=>plain _ hc0 c₀ Q σ ds a w hr h
 |exit l=>intro sc hc;have hc0:=hc;simp[compC]at hc;subst hc;exact fun c₀ Q σ ds a w hr h=>plain _ hc0 c₀ Q σ ds a w hr h
 |ret=>intro sc hc;have hc0:=hc;simp[compC]at hc;subst hc;exact fun c₀ Q σ ds a w hr h=>plain _ hc0 c₀ Q σ ds a w hr h
 |goto l=>intro sc hc;have hc0:=hc;simp[compC]at hc;subst hc;exact fun c₀ Q σ ds a w hr h=>plain _ hc0 c₀ Q σ ds a w hr h
 |refuse l=>intro sc hc;have hc0:=hc;simp[compC]at hc;subst hc;exact fun c₀ Q σ ds a w hr h=>plain _ hc0 c₀ Q σ ds a w hr h
 |cond o x y ihx ihy=>
  intro sc hc
  have hc0:=hc
  simp only[compC]at hc
  split at hc
  ·simp at hc;subst hc;exact fun c₀ Q σ ds a w hr h=>plain _ hc0 c₀ Q σ ds a w hr h
  ·simp at hc
 |block id c ih=>intro sc hc;have hc0:=hc;simp only[compC,Option.map_eq_some_iff]at hc;obtain⟨_,_,rfl⟩:=hc;exact fun c₀ Q σ ds a w hr h=>plain _ hc0 c₀ Q σ ds a w hr h
 |loop c ih=>intro sc hc;have hc0:=hc;simp only[compC,Option.map_eq_some_iff]at hc;obtain⟨_,_,rfl⟩:=hc;exact fun c₀ Q σ ds a w hr h=>plain _ hc0 c₀ Q σ ds a w hr h
 |scope c ih=>
  intro sc hc
  have hc0:=hc
  simp only[compC]at hc
  split at hc
  ·split at hc
   ·simp at hc;subst hc;exact fun c₀ Q σ ds a w hr h=>plain _ hc0 c₀ Q σ ds a w hr h
   ·split at hc
    ·simp at hc;subst hc;exact fun c₀ Q σ ds a w hr h=>plain _ hc0 c₀ Q σ ds a w hr h
    ·simp at hc
  ·simp at hc
 |rangeFunc g ps x y ihx ihy=>
  intro sc hc
  have hc0:=hc
  simp only[compC]at hc
  split at hc
  ·split at hc
   ·simp at hc;subst hc;exact fun c₀ Q σ ds a w hr h=>plain _ hc0 c₀ Q σ ds a w hr h
   ·simp at hc
  ·simp at hc
theorem retF_post {fn:Func} {rs:List SRes} {u':FrameMode} {R:Ending→FrameMode→Heap→Prop} {c₀:Frame} {cs:List Frame} {w:World} (hrs:cres P fn.results.toList=some rs) {e:Exit} {a:Act} {cs':List Frame} {w':World}
  (hcs:cs'={c₀ with mode:=u'}::cs) (h:Lift nt w (retF rs u' R) e a w'):
  bodyPostS P fn c₀ cs (fun e u' w'=>R e u' w'.heap∧e≠.outgrown∧w'.os=w.os∧w'.output=w.output∧w'.tape=w.tape) e a cs' w':=by
 obtain⟨σ1,ds1,hr1,hb1,hq⟩:=h
 cases e with
 |normal=>
  obtain⟨rfl,hq⟩:=hq
  obtain⟨vs,h1,h2⟩:=run_results hrs hr1 hq
  exact⟨hr1.defers,u',hcs,_,h1,h2,by simp,hb1⟩
 |ret=>
  obtain⟨rfl,hq⟩:=hq
  obtain⟨vs,h1,h2⟩:=run_results hrs hr1 hq
  exact⟨hr1.defers,u',hcs,_,h1,h2,by simp,hb1⟩
 |panic ch=>
  obtain⟨rfl,hq⟩:=hq
  exact⟨hr1.defers,u',hcs,hq,by simp,hb1⟩
 |exit id=>exact hq.elim
 |goto l=>exact hq.elim
 |outgrown=>exact hq.elim
theorem defH_of_swpS (hm:P.follows .mixedOrders=true) {f:Nat} {fn:Func} {c:Code} {sc:SCode} {rs:List SRes} {args:List Value} {u:FrameMode} {h:Heap} {R:Ending→FrameMode→Heap→Prop}
  (hf:P.funcs[f]? =some fn) (hb:fn.body=some c) (hok:okFn P f=true) (hc:compC fl P fn.ntmps c=some sc) (hrs:cres P fn.results.toList=some rs) (ha:args.length≤fn.ntmps)
  (hs:swpS P sc (fun u'=>retF rs u' R) u (argEnv 0 args) [] h):DefH P f args u h R:=by
 refine⟨hok,fun w hw=>?_⟩
 subst hw
 refine callsDIn_of_wpSIn hf hb trivial ?_
 intro c₀ cs hu
 subst hu
 have hrel:=rel_enter fn.ntmps args ha
 refine wpSIn_mono (swpS_sound hm cs c sc hc c₀ _ _ [] _ w hrel hs) ?_
 rintro e a' cs' w' ⟨u',h1,h2⟩
 exact retF_post hrs h1 h2
def SoundF (P:Program) (f nt:Nat) (sc:SCode) (rs:List SRes):Prop:=
 ∀{args:List Value} {u:FrameMode} {h:Heap} {R:Ending→FrameMode→Heap→Prop},args.length≤nt→swpS P sc (fun u'=>retF rs u' R) u (argEnv 0 args) [] h→DefH P f args u h R
theorem soundF_of (hm:P.follows .mixedOrders=true) {f:Nat} {fn:Func} {c:Code} {sc:SCode} {rs:List SRes}
  (hf:P.funcs[f]? =some fn) (hb:fn.body=some c) (hok:okFn P f=true) (hc:compC fl P fn.ntmps c=some sc) (hrs:cres P fn.results.toList=some rs):SoundF P f fn.ntmps sc rs:=
 fun ha hs=>defH_of_swpS hm hf hb hok hc hrs ha hs
namespace S
abbrev o (d:Nat) (s:SOp):SOper:=⟨some d,none,s⟩
abbrev q (s:SOp):SOper:=⟨none,none,s⟩
abbrev g (d j:Nat) (s:SOp):SOper:=⟨some d,some (j,true),s⟩
abbrev n (d j:Nat) (s:SOp):SOper:=⟨some d,some (j,false),s⟩
abbrev t (x:Nat):Operand:=.tmp x
abbrev i (x:Int):Operand:=.const (.int .i64 x)
abbrev b (x:Bool):Operand:=.const (.bool x)
abbrev e:Operand:=.const (.string ⟨#[]⟩)
abbrev u (x:Nat):Operand:=.func x
end S
#print axioms calls_of_swp
end Go.Sx
namespace Go.Sx
open Go
theorem loop_intro {P:Program} {c:SCode} {Q:Post} {σ:Env} {ds:List Deferred} {h:Heap} {ι:Type} (E:ι→List (Nat×Value)) (I:ι→Heap→Prop) (μ:ι→Nat) (i:ι) (h0:SubL σ (E i)) (hI:I i h)
  (hr:∀i h,I i h→swp P c (thenQ (fun σ' ds' h'=>ds'=ds∧∃i',SubL σ' (E i')∧I i' h'∧μ i'<μ i) Q) (mk (E i)) ds h):
  ∃(ι:Type) (E:ι→List (Nat×Value)) (I:ι→Heap→Prop) (μ:ι→Nat) (i:ι),SubL σ (E i)∧I i h∧
   ∀i h,I i h→swp P c (thenQ (fun σ' ds' h'=>ds'=ds∧∃i',SubL σ' (E i')∧I i' h'∧μ i'<μ i) Q) (mk (E i)) ds h:=
 ⟨ι,E,I,μ,i,h0,hI,hr⟩
def Ret (Q:Value→Heap→Prop):Ending→Heap→Prop
 |.returned v,h=>Q v h
 |_,_=>False
theorem call_ret {P:Program} {f:Nat} {vs:List Value} {h:Heap} {Q K:Value→Heap→Prop} {Qp:List PanicEntry→Heap→Prop} (hc:CallsH P f vs h (Ret Q)) (hk:∀v h',Q v h'→K v h'):
  CallsH P f vs h (after K Qp):=
 hc.mono fun e h' he=>by cases e<;>first|exact hk _ _ he|exact he.elim
theorem callq_ret {P:Program} {f:Nat} {vs:List Value} {h:Heap} {Q K:Value→Heap→Prop} {Qp:List PanicEntry→Heap→Prop} (hc:CallsH P f vs h (Ret Q)) (hk:∀v h',Q v h'→Ext h h'∧K v h'):
  CallsH P f vs h (fun e h'=>Ext h h'∧after K Qp e h'):=
 hc.mono fun e h' he=>by cases e<;>first|exact hk _ _ he|exact he.elim
theorem Ret.mono {P:Program} {f:Nat} {vs:List Value} {h:Heap} {Q Q':Value→Heap→Prop} (hc:CallsH P f vs h (Ret Q)) (hk:∀v h',Q v h'→Q' v h'):CallsH P f vs h (Ret Q'):=
 hc.mono fun e h' he=>by cases e<;>first|exact hk _ _ he|exact he.elim
theorem wrap_in {x:Int} (h0: -9223372036854775808≤x) (h1:x<9223372036854775808):IntKind.i64.wrap x=x:=by
 have e:IntKind.i64.wrap x=if x%18446744073709551616≥9223372036854775808 then x%18446744073709551616-18446744073709551616 else x%18446744073709551616:=by
  simp[IntKind.wrap,IntKind.bits,IntKind.signed]
 rw[e]
 split<;>omega
theorem add_in {a b z:Int} (hz:z=arith .add .i64 a b) (h0: -9223372036854775808≤a+b) (h1:a+b<9223372036854775808):z=a+b:=by
 rw[hz];exact wrap_in h0 h1
theorem sub_in {a b z:Int} (hz:z=arith .sub .i64 a b) (h0: -9223372036854775808≤a-b) (h1:a-b<9223372036854775808):z=a-b:=by
 rw[hz];exact wrap_in h0 h1
theorem Chg.refl (h:Heap):Chg [] h h:=⟨Nat.le_refl _,fun _ _ _=>rfl⟩
theorem Chg.trans {S T U:List Nat} {a b c:Heap} (h1:Chg S a b) (h2:Chg T b c) (hS:∀k,k∈S→k∈U) (hT:∀k,k∈T→k<a.size→k∈U):Chg U a c:=
 ⟨Nat.le_trans h1.size h2.size,fun k hk hn=>by
  rw[h2.old k (Nat.lt_of_lt_of_le hk h1.size) (fun ht=>hn (hT k ht hk)),h1.old k hk (fun hs=>hn (hS k hs))]⟩
theorem Chg.nil {a b c:Heap} (h1:Chg [] a b) (h2:Chg [] b c):Chg [] a c:=h1.trans h2 (by simp) (by simp)
theorem Chg.ext {a b:Heap} (h:Chg [] a b):Ext a b:=fun k hk=>h.old k hk (by simp)
theorem Chg.mono {S T:List Nat} {a b:Heap} (h:Chg S a b) (hs:∀k,k∈S→k∈T):Chg T a b:=⟨h.size,fun k hk hn=>h.old k hk fun e=>hn (hs k e)⟩
theorem Chg.fresh {S:List Nat} {a b c:Heap} (h1:Chg [] a b) (h2:Chg S b c) (hS:∀k,k∈S→a.size≤k):Chg [] a c:=
 h1.trans h2 (by simp) fun k hk hlt=>absurd (hS k hk) (by omega)
theorem Grow.chg {h h':Heap} {b:Nat} {l:List Value} (g:Grow h h' b l):Chg [] h h':=⟨by rw[g.size];omega,fun k hk _=>g.old k hk⟩
theorem GrowO.chg {h h':Heap} {b:Nat} {o:Obj} (g:GrowO h h' b o):Chg [] h h':=⟨by rw[g.size];omega,fun k hk _=>g.old k hk⟩
theorem Put.chg {h h':Heap} {b:Nat} {l:List Value} (g:Put h h' b l):Chg [b] h h':=⟨by rw[g.size];exact Nat.le_refl _,fun k _ hn=>g.old k (by simpa using hn)⟩
theorem PutO.chg {h h':Heap} {b:Nat} {o:Obj} (g:PutO h h' b o):Chg [b] h h':=⟨by rw[g.size];exact Nat.le_refl _,fun k _ hn=>g.old k (by simpa using hn)⟩
theorem Turn.chg {h h':Heap} {l:Nat} {r:Loop} {st:LoopState} {p:Option Code} (g:Turn h h' l r st p):Chg [l] h h':=⟨by rw[g.size];exact Nat.le_refl _,fun k _ hn=>g.old k (by simpa using hn)⟩
theorem get_lt {h:Heap} {b:Nat} {x:Obj} (hb:h[b]? =some x):b<h.size:=(Array.getElem?_eq_some_iff.1 hb).1
theorem Blk.lt {h:Heap} {b:Nat} {l:List Value} (hb:Blk h b l):b<h.size:=let⟨_,x⟩:=hb;get_lt x
theorem MapB.lt {h:Heap} {b c:Nat} {es:List MapEntry} (hb:MapB h b es c):b<h.size:=get_lt hb
theorem get_chg {S:List Nat} {h h':Heap} {b:Nat} {x:Obj} (hb:h[b]? =some x) (hc:Chg S h h') (hn:b∉S):h'[b]? =some x:=by
 rw[hc.old b (get_lt hb) hn,hb]
theorem Blk.chg {S:List Nat} {h h':Heap} {b:Nat} {l:List Value} (hb:Blk h b l) (hc:Chg S h h') (hn:b∉S):Blk h' b l:=let⟨e,x⟩:=hb;⟨e,get_chg x hc hn⟩
theorem MapB.chg {S:List Nat} {h h':Heap} {b c:Nat} {es:List MapEntry} (hb:MapB h b es c) (hc:Chg S h h') (hn:b∉S):MapB h' b es c:=get_chg hb hc hn
theorem cell_blk {h:Heap} {b o:Nat} {l:List Value} {v:Value} (hb:Blk h b l) (hv:l[o]? =some v):cell h b o=some v:=by
 obtain⟨e,x⟩:=hb
 simp[cell,x,hv]
theorem cells_blk {h:Heap} {b:Nat} {l:List Value} (hb:Blk h b l):Cells h b 0 l:=fun i v hv=>by rw[Nat.zero_add];exact cell_blk hb hv
theorem cells_part {h:Heap} {b o:Nat} {l vs:List Value} (hb:Blk h b l) (hv:∀i v,vs[i]? =some v→l[o+i]? =some v):Cells h b o vs:=fun i v h1=>cell_blk hb (hv i v h1)
theorem cell_lt {h:Heap} {b o:Nat} {v:Value} (hc:cell h b o=some v):b<h.size:=by
 unfold cell at hc
 cases hb:h[b]? with
 |none=>rw[hb]at hc;cases hc
 |some x=>exact get_lt hb
theorem cell_chg {S:List Nat} {h h':Heap} {b o:Nat} {v:Value} (hc:cell h b o=some v) (hg:Chg S h h') (hn:b∉S):cell h' b o=some v:=by
 have:=hg.old b (cell_lt hc) hn
 unfold cell at hc⊢
 rw[this];exact hc
variable {α:Type} {enc:α→List Value} {size:Nat}
theorem flatMap_len (hsz:∀x,(enc x).length=size):∀l:List α,(l.flatMap enc).length=l.length*size
 |[]=>by simp
 |x::l=>by simp[flatMap_len hsz l,hsz x,Nat.add_mul,Nat.add_comm]
theorem flatMap_get (hsz:∀x,(enc x).length=size):∀(l:List α) (i:Nat) (x:α),l[i]? =some x→∀(j:Nat) (v:Value),(enc x)[j]? =some v→(l.flatMap enc)[i*size+j]? =some v
 |[],i,x,h,_,_,_=>by simp at h
 |y::l,0,x,h,j,v,hj=>by
  simp at h;subst h
  have hlt:=(List.getElem?_eq_some_iff.1 hj).1
  simp only[List.flatMap_cons,Nat.zero_mul,Nat.zero_add]
  rw[List.getElem?_append_left hlt];exact hj
 |y::l,i+1,x,h,j,v,hj=>by
  have ih:=flatMap_get hsz l i x (by simpa using h) j v hj
  simp only[List.flatMap_cons]
  rw[List.getElem?_append_right (by rw[hsz y,Nat.add_mul];omega)]
  have e:(i+1)*size+j-(enc y).length=i*size+j:=by rw[hsz y,Nat.add_mul];omega
  rw[e];exact ih
def SL (enc:α→List Value) (h:Heap) (v:Value) (l:List α):Prop:=∃a c,v=.slice a l.length c∧l.length≤c∧Src h a l.length (l.flatMap enc)
def ablk:Option Addr→List Nat
 |none=>[]
 |some a=>[a.block]
def vblk:Value→List Nat
 |.slice a _ _=>ablk a
 |_=>[]
theorem Src.chg {S:List Nat} {h h':Heap} {a:Option Addr} {n:Nat} {xs:List Value} (hs:Src h a n xs) (hc:Chg S h h') (hn:∀b∈ablk a,b∉S):Src h' a n xs:=by
 cases a with
 |none=>exact hs
 |some a=>
  obtain⟨b,o,sp⟩:=a
  cases sp with
  |some s=>exact hs
  |none=>exact fun i v hv=>cell_chg (hs i v hv) hc (hn b (by simp[ablk]))
theorem SL.chg {S:List Nat} {h h':Heap} {v:Value} {l:List α} (hs:SL enc h v l) (hc:Chg S h h') (hn:∀b∈vblk v,b∉S):SL enc h' v l:=by
 obtain⟨a,c,rfl,h1,h2⟩:=hs
 exact⟨a,c,rfl,h1,h2.chg hc hn⟩
theorem SL.ext {h h':Heap} {v:Value} {l:List α} (hs:SL enc h v l) (hc:Chg [] h h'):SL enc h' v l:=hs.chg hc (by simp)
theorem SL.addr {h:Heap} {a:Option Addr} {n c:Nat} {l:List α} (hs:SL enc h (.slice a n c) l) (hpos:0<l.length):∃b o,a=some ⟨b,o,none⟩:=by
 obtain⟨a',c',he,_,h2⟩:=hs
 cases he
 cases a with
 |none=>have:l.length=0:=h2;omega
 |some a=>
  obtain⟨b,o,sp⟩:=a
  cases sp with
  |some s=>have:l.length=0:=h2;omega
  |none=>exact⟨b,o,rfl⟩
theorem SL.cells {h:Heap} {b o n c:Nat} {l:List α} (hsz:∀x,(enc x).length=size) (hs:SL enc h (.slice (some ⟨b,o,none⟩) n c) l) {i:Nat} {x:α} (hi:l[i]? =some x):Cells h b (o+i*size) (enc x):=by
 obtain⟨a',c',he,_,h2⟩:=hs
 cases he
 intro j v hj
 have:=h2 (i*size+j) v (flatMap_get hsz l i x hi j v hj)
 rw[Nat.add_assoc];exact this
theorem SL.len {h:Heap} {a:Option Addr} {n c:Nat} {l:List α} (hs:SL enc h (.slice a n c) l):n=l.length∧l.length≤c:=by
 obtain⟨a',c',he,h1,_⟩:=hs
 cases he
 exact⟨rfl,h1⟩
theorem SL.form {h:Heap} {v:Value} {l:List α} (hs:SL enc h v l):∃a c,v=.slice a l.length c∧l.length≤c:=by
 obtain⟨a',c',he,h1,_⟩:=hs
 exact⟨a',c',he,h1⟩
theorem SL.nil {h:Heap}:SL enc h (.slice none 0 0) []:=⟨none,0,rfl,Nat.le_refl _,rfl⟩
theorem SL.cut {h:Heap} {b o o' n c:Nat} {l:List α} (hsz:∀x,(enc x).length=size) (hs:SL enc h (.slice (some ⟨b,o,none⟩) n c) l) {lo hi:Nat} (h0:lo≤hi) (h1:hi≤l.length)
  (ho1:lo<c→o'=o+lo*size) (_:c=lo→o'=o):SL enc h (.slice (some ⟨b,o',none⟩) (hi-lo) (c-lo)) ((l.drop lo).take (hi-lo)):=by
 obtain⟨hn,hc⟩:=hs.len
 have hlen:((l.drop lo).take (hi-lo)).length=hi-lo:=by simp;omega
 refine⟨some ⟨b,o',none⟩,c-lo,by rw[hlen],by rw[hlen];omega,?_⟩
 obtain⟨a',c',he,_,h2⟩:=hs
 cases he
 by_cases hlt:lo<c
 ·rw[ho1 hlt]
  intro j v hj
  -- the cells of a cut are cells of the whole
  have hlj:j<((l.drop lo).take (hi-lo)).length*size:=by rw[←flatMap_len hsz];exact(List.getElem?_eq_some_iff.1 hj).1
  have e1:l.flatMap enc=(l.take lo).flatMap enc++(((l.drop lo).take (hi-lo)).flatMap enc++((l.drop lo).drop (hi-lo)).flatMap enc):=by
   rw[←List.flatMap_append,List.take_append_drop,←List.flatMap_append,List.take_append_drop]
  have e2:((l.take lo).flatMap enc).length=lo*size:=by rw[flatMap_len hsz,List.length_take,Nat.min_eq_left (by omega)]
  have:(l.flatMap enc)[lo*size+j]? =some v:=by
   rw[e1,List.getElem?_append_right (by omega),e2]
   have:lo*size+j-lo*size=j:=by omega
   rw[this,List.getElem?_append_left (by rw[flatMap_len hsz];exact hlj)]
   exact hj
  have:=h2 _ _ this
  rw[Nat.add_assoc];exact this
 ·have:hi-lo=0:=by omega
  rw[this]
  intro j v hj
  simp at hj
def OL (enc:α→List Value) (size:Nat) (h:Heap) (v:Value) (l:List α):Prop:=
 ∃a c,v=.slice a l.length c∧match a with
  |none=>l=[]∧c=0
  |some ⟨b,o,none⟩=>o=0∧l.length≤c∧∃rest,Blk h b (l.flatMap enc++rest)∧(l.flatMap enc++rest).length=c*size
  |_=>False
theorem OL.nil {h:Heap}:OL enc size h (.slice none 0 0) []:=⟨none,0,rfl,rfl,rfl⟩
theorem OL.sl {h:Heap} {v:Value} {l:List α} (ho:OL enc size h v l):SL enc h v l:=by
 obtain⟨a,c,rfl,h1⟩:=ho
 split at h1
 ·obtain⟨rfl,rfl⟩:=h1;exact SL.nil
 ·rename_i b o
  obtain⟨rfl,h2,rest,hb,h3⟩:=h1
  refine⟨_,c,rfl,h2,fun i v hv=>?_⟩
  rw[Nat.zero_add]
  refine cell_blk hb ?_
  rw[List.getElem?_append_left (List.getElem?_eq_some_iff.1 hv).1];exact hv
 ·exact h1.elim
theorem OL.chg {S:List Nat} {h h':Heap} {v:Value} {l:List α} (ho:OL enc size h v l) (hc:Chg S h h') (hn:∀b∈vblk v,b∉S):OL enc size h' v l:=by
 obtain⟨a,c,rfl,h1⟩:=ho
 refine⟨a,c,rfl,?_⟩
 split at h1
 ·exact h1
 ·rename_i b o
  obtain⟨h0,h2,rest,hb,h3⟩:=h1
  exact⟨h0,h2,rest,hb.chg hc (hn b (by simp[vblk,ablk])),h3⟩
 ·exact h1.elim
theorem OL.ext {h h':Heap} {v:Value} {l:List α} (hs:OL enc size h v l) (hc:Chg [] h h'):OL enc size h' v l:=hs.chg hc (by simp)
theorem OL.lt {h:Heap} {v:Value} {l:List α} (ho:OL enc size h v l):∀b∈vblk v,b<h.size:=by
 obtain⟨a,c,rfl,h1⟩:=ho
 split at h1
 ·simp[vblk,ablk]
 ·obtain⟨_,_,rest,hb,_⟩:=h1
  simp[vblk,ablk];exact hb.lt
 ·exact h1.elim
theorem splice_mid:∀(xs l ys:List Value),ys.length≤l.length→splice (xs++l) xs.length ys=xs++(ys++l.drop ys.length)
 |[],l,[],_=>by simp[splice_nil]
 |[],[],y::ys,h=>by simp at h
 |[],x::l,y::ys,h=>by
  have ih:=splice_mid [] l ys (by simpa using h)
  simp at ih
  simp[splice,ih]
 |x::xs,l,[],h=>by simp[splice_nil]
 |x::xs,l,y::ys,h=>by
  have ih:=splice_mid xs l (y::ys) h
  simp only[List.cons_append,List.length_cons,splice]
  rw[ih];simp
theorem app_own {h:Heap} {bytes:Nat} {z:List Value} (hsz:∀x,(enc x).length=size) (h1:∀x,∀u∈enc x,u.oneCell'=true) (hz:z.length=size)
  {a:Option Addr} {n c:Nat} {a':Option Addr} {m c2:Nat} {l l2:List α} (hown:OL enc size h (.slice a n c) l) (hsrc:SL enc h (.slice a' m c2) l2)
  (hbound:((l.length+l2.length)*2+768)*bytes≤281474976710656) {K:Value→Heap→Prop}
  (hk:∀v' h',OL enc size h' v' (l++l2)→Chg (ablk a) h h'→(∀b∈vblk v',b∈ablk a∨h.size≤b)→K v' h'):appP h K size bytes z a n c a' m:=by
 obtain⟨hn,_⟩:=hown.sl.len
 obtain⟨hm,_⟩:=hsrc.len
 have hsl:=hown.sl
 obtain⟨a1,c1,he,hrep⟩:=hown
 cases he
 obtain⟨a3,c3,he3,_,hs3⟩:=hsrc
 cases he3
 obtain⟨a4,c4,he4,_,hs4⟩:=hsl
 cases he4
 refine⟨l.flatMap enc,l2.flatMap enc,flatMap_len hsz l,flatMap_len hsz l2,hs4,hs3,?_,fun hroom=>?_,fun hfull=>⟨hbound,fun c' b h' hc' hg=>?_⟩⟩
 ·intro u hu
  obtain⟨x,_,hx⟩:=List.mem_flatMap.1 hu
  exact h1 x u hx
 ·cases a with
  |none=>
   obtain⟨rfl,rfl⟩:=hrep
   have hl2:l2=[]:=by simpa using hroom
   subst hl2
   exact hk _ _ (by simpa using OL.nil) ⟨Nat.le_refl _,fun _ _ _=>rfl⟩ (by simp[vblk,ablk])
  |some a=>
   obtain⟨b,o,sp⟩:=a
   cases sp with
   |some s=>exact hrep.elim
   |none=>
    obtain⟨rfl,h2,rest,hb,h3⟩:=hrep
    have hlen1:=flatMap_len hsz l
    have hlen2:=flatMap_len hsz l2
    have hmul:(l.length+l2.length)*size=l.length*size+l2.length*size:=Nat.add_mul _ _ _
    have hcs:(l.length+l2.length)*size≤c*size:=Nat.mul_le_mul_right _ hroom
    refine⟨_,hb,by rw[h3];omega,fun h' hp=>?_⟩
    have hrl:(l2.flatMap enc).length≤rest.length:=by
     rw[List.length_append]at h3;omega
    have hsp:splice (l.flatMap enc++rest) (0+l.length*size) (l2.flatMap enc)=(l++l2).flatMap enc++rest.drop (l2.flatMap enc).length:=by
     rw[Nat.zero_add,←hlen1,splice_mid _ _ _ hrl];simp
    rw[hsp]at hp
    have hol:OL enc size h' (.slice (some ⟨b,0,none⟩) (l.length+l2.length) c) (l++l2):=by
     refine⟨some ⟨b,0,none⟩,c,by rw[List.length_append],rfl,by rw[List.length_append];exact hroom,_,hp.blk,?_⟩
     rw[←h3];simp only[List.length_append,List.length_drop,List.flatMap_append]at h3 hrl⊢;omega
    exact hk _ _ hol hp.chg (by simp[vblk,ablk])
 ·have hol:OL enc size h' (.slice (some ⟨b,0,none⟩) (l.length+l2.length) c') (l++l2):=by
   refine⟨some ⟨b,0,none⟩,c',by rw[List.length_append],rfl,by rw[List.length_append];exact hc',(List.replicate (c'-(l.length+l2.length)) z).flatten,?_,?_⟩
   ·have:=hg.blk
    simpa using this
   ·have hlen1:=flatMap_len hsz (l++l2)
    rw[List.length_append,hlen1,List.length_append]
    have:((List.replicate (c'-(l.length+l2.length)) z).flatten).length=(c'-(l.length+l2.length))*size:=by simp[hz]
    rw[this,←Nat.add_mul]
    congr 1;omega
  refine hk _ _ hol (hg.chg.mono (by simp)) ?_
  intro b' hb'
  simp[vblk,ablk]at hb'
  right;rw[hb',hg.id];exact Nat.le_refl _
theorem SL.one {h:Heap} {b:Nat} {x:α} (_:∀x,(enc x).length=size) (hb:Blk h b (enc x)):SL enc h (.slice (some ⟨b,0,none⟩) 1 1) [x]:=by
 refine⟨_,1,rfl,Nat.le_refl _,?_⟩
 have:=cells_blk hb
 simpa[Src]using this
end Go.Sx
namespace Go.Sx
open Go
variable {P:Program} {σ σ':Env} {h:Heap}
theorem Sub.upd (hs:Sub σ σ') (d:Option Nat) (v:Value):Sub (Sx.upd σ d v) (Sx.upd σ' d v):=by
 intro t u ht
 by_cases hd:d=some t
 ·subst hd;rw[upd_same]at ht⊢;exact ht
 ·rw[upd_ne hd]at ht⊢;exact hs t u ht
theorem Sub.ev (hs:Sub σ σ') {x:Operand} {v:Value} (hx:Sx.ev σ x=some v):Sx.ev σ' x=some v:=by
 cases x with
 |tmp t=>exact hs t v hx
 |_=>exact hx
theorem Sub.evsL (hs:Sub σ σ'):∀(xs:List Operand) (vs:List Value),evs σ xs=some vs→evs σ' xs=some vs
 |[],vs,h=>h
 |x::xs,vs,h=>by
  simp only[evs]at h⊢
  split at h
  ·rename_i v us hv hus
   rw[hs.ev hv,hs.evsL xs us hus]
   exact h
  ·simp at h
theorem Sub.hide (hs:Sub σ σ') (l:List SOper):Sub (Sx.hide l σ) (Sx.hide l σ'):=by
 intro t u ht
 unfold Sx.hide at ht⊢
 cases hn:hasN t (dstsOf l)<;>simp[hn]at ht⊢
 exact hs t u ht
theorem Sub.hideN (hs:Sub σ σ') (l:List Nat):Sub (Sx.hideN l σ) (Sx.hideN l σ'):=by
 intro t u ht
 unfold Sx.hideN at ht⊢
 cases hn:hasN t l<;>simp[hn]at ht⊢
 exact hs t u ht
theorem evs_known:∀(xs:List Operand) (vs:List Value),evs σ xs=some vs→∀x∈xs,∃v,ev σ x=some v
 |[],_,_,x,hx=>by simp at hx
 |y::xs,vs,h,x,hx=>by
  simp only[evs]at h
  split at h
  ·rename_i v us hv hus
   rcases List.mem_cons.1 hx with rfl|hx
   ·exact⟨v,hv⟩
   ·exact evs_known xs us hus x hx
  ·simp at h
theorem bndOf_known {x:Option Operand} {d:Nat} {n:Int} (hb:bndOf σ x d=some n):∀y∈opt x,∃v,ev σ y=some v:=by
 intro y hy
 cases x with
 |none=>simp[opt]at hy
 |some z=>
  simp[opt]at hy;subst hy
  simp only[bndOf]at hb
  split at hb
  ·rename_i k m hv;exact⟨_,hv⟩
  ·simp at hb
theorem sop_known {K:Value→Heap→Prop} {Qp:List PanicEntry→Heap→Prop} (s:SOp) (hs:sop P σ h K Qp s):∀x∈s.reads,∃v,ev σ x=some v:=by
 intro x hx
 cases s
 case build z ps xs=>simp only[sop]at hs;split at hs;rename_i vs hv;exact evs_known _ _ hv x hx;exact hs.elim
 case bslice z n ps xs=>simp only[sop]at hs;split at hs;rename_i vs hv;exact evs_known _ _ hv x hx;exact hs.elim
 case call f xs=>simp only[sop]at hs;split at hs;rename_i vs hv;exact evs_known _ _ hv x hx;exact hs.elim
 case callq f xs=>simp only[sop]at hs;split at hs;rename_i vs hv;exact evs_known _ _ hv x hx;exact hs.elim
 case callx f xs=>simp only[sop]at hs;split at hs;rename_i vs hv;exact evs_known _ _ hv x hx;exact hs.elim
 case callv y xs=>
  simp only[sop]at hs
  split at hs
  ·rename_i hy hv
   rcases List.mem_cons.1 hx with rfl|hx
   ·exact⟨_,hy⟩
   ·exact evs_known _ _ hv x hx
  ·rename_i hy hv
   rcases List.mem_cons.1 hx with rfl|hx
   ·exact⟨_,hy⟩
   ·exact evs_known _ _ hv x hx
  ·exact hs.elim
 case callvq y xs=>
  simp only[sop]at hs
  split at hs
  ·rename_i hy hv
   rcases List.mem_cons.1 hx with rfl|hx
   ·exact⟨_,hy⟩
   ·exact evs_known _ _ hv x hx
  ·exact hs.elim
 case fn f a c=>
  simp only[sop]at hs
  split at hs
  ·rename_i ha hc
   rcases List.mem_append.1 hx with hx|hx
   ·exact evs_known _ _ ha x hx
   ·exact evs_known _ _ hc x hx
  ·exact hs.elim
 case slc n y lo hi=>
  simp only[sop]at hs
  split at hs
  ·rename_i hy
   split at hs
   ·rename_i hl hm
    simp only[SOp.reads,List.mem_cons,List.mem_append]at hx
    rcases hx with rfl|hx|hx
    ·exact⟨_,hy⟩
    ·exact bndOf_known hl x hx
    ·exact bndOf_known hm x hx
   ·exact hs.elim
  ·exact hs.elim
 case slc3 n y lo hi mx=>
  simp only[sop]at hs
  split at hs
  ·rename_i hy
   split at hs
   ·rename_i hl hm hk
    simp only[SOp.reads,List.mem_cons,List.mem_append,List.not_mem_nil,or_false]at hx
    rcases hx with rfl|hx|rfl|rfl
    ·exact⟨_,hy⟩
    ·exact bndOf_known hl x hx
    ·exact bndOf_known hm x (by simp[opt])
    ·exact bndOf_known hk x (by simp[opt])
   ·exact hs.elim
  ·exact hs.elim
 case slp tn n y lo hi=>
  simp only[sop]at hs
  split at hs
  ·rename_i hy
   split at hs
   ·rename_i hl hm
    simp only[SOp.reads,List.mem_cons,List.mem_append]at hx
    rcases hx with rfl|hx|hx
    ·exact⟨_,hy⟩
    ·exact bndOf_known hl x hx
    ·exact bndOf_known hm x hx
   ·exact hs.elim
  ·exact hs.elim
 case sls y lo hi=>
  simp only[sop]at hs
  split at hs
  ·rename_i hy
   split at hs
   ·rename_i hl hm
    simp only[SOp.reads,List.mem_cons,List.mem_append]at hx
    rcases hx with rfl|hx|hx
    ·exact⟨_,hy⟩
    ·exact bndOf_known hl x hx
    ·exact bndOf_known hm x hx
   ·exact hs.elim
  ·exact hs.elim
 case new z=>simp[SOp.reads]at hx
 case mkm=>simp[SOp.reads]at hx
 case newT t z=>simp[SOp.reads]at hx
 all_goals
  simp only[SOp.reads,List.mem_cons,List.not_mem_nil,or_false]at hx
  simp only[sop]at hs
  first
   |exact hx.elim
   |((repeat' split at hs)<;>first|exact hs.elim|(rcases hx with rfl|rfl|rfl<;>exact⟨_,by assumption⟩)|(rcases hx with rfl|rfl<;>exact⟨_,by assumption⟩)|(subst hx;exact⟨_,by assumption⟩))
theorem sop_sub {K:Value→Heap→Prop} {Qp:List PanicEntry→Heap→Prop} {s:SOp} (hss:Sub σ σ') (hs:sop P σ h K Qp s):sop P σ' h K Qp s:=by
 rw[←sop_congr s fun x hx=>by
  obtain⟨v,hv⟩:=sop_known s hs x hx
  rw[hv,hss.ev hv]]
 exact hs
def MonoE (K:Env→Heap→Prop):Prop:=∀σ σ' h,Sub σ σ'→K σ h→K σ' h
def Mono (Q:Post):Prop:=∀e σ σ' ds h,Sub σ σ'→Q e σ ds h→Q e σ' ds h
theorem sopr_sub {K K':Env→Heap→Prop} {Qp Qp':List PanicEntry→Heap→Prop} {s:SOper} (hss:Sub σ σ') (hq:∀ch h,Qp ch h→Qp' ch h) (hk:∀σ σ' h,Sub σ σ'→K σ h→K' σ' h) (hs:sopr P σ h s K Qp):sopr P σ' h s K' Qp':=by
 have main:sop P σ h (fun v h'=>K (upd σ s.dst v) h') Qp s.op→sop P σ' h (fun v h'=>K' (upd σ' s.dst v) h') Qp' s.op:=by
  intro hs
  have h1:=sop_sub (P:=P) hss (sop_mono (K':=fun v h'=>K' (upd σ' s.dst v) h') s.op hs fun v h' hv=>hk _ _ h' (hss.upd s.dst v) hv)
  exact sop_qp s.op h1 hq
 unfold sopr at hs⊢
 split at hs
 ·exact main hs
 ·rename_i g want hg
  split at hs
  ·rename_i t ht
   have ht':=hss g t ht
   simp only[ht']
   split at hs
   ·exact main hs
   ·exact hk _ _ h (hss.upd s.dst undef) hs
  ·exact hs.elim
theorem sops_sub {Qp Qp':List PanicEntry→Heap→Prop} {K K':Env→Heap→Prop} (hq:∀ch h,Qp ch h→Qp' ch h) (hk:∀σ σ' h,Sub σ σ'→K σ h→K' σ' h):∀(l:List SOper) (σ σ':Env) (h:Heap),Sub σ σ'→sops P Qp K l σ h→sops P Qp' K' l σ' h
 |[],σ,σ',h,hs,hh=>hk σ σ' h hs hh
 |_::l,_,_,_,hs,hh=>sopr_sub hs hq (fun σ1 σ2 h1 h12 hk1=>sops_sub hq hk l σ1 σ2 h1 h12 hk1) hh
theorem sopr_sub' {K K':Env→Heap→Prop} {Qp:List PanicEntry→Heap→Prop} {s:SOper} (hss:Sub σ σ') (hs:sopr P σ h s K Qp) (hk:∀v h',K (upd σ s.dst v) h'→K' (upd σ' s.dst v) h'):sopr P σ' h s K' Qp:=by
 have main:sop P σ h (fun v h'=>K (upd σ s.dst v) h') Qp s.op→sop P σ' h (fun v h'=>K' (upd σ' s.dst v) h') Qp s.op:=fun hs=>
  sop_sub (P:=P) hss (sop_mono (K':=fun v h'=>K' (upd σ' s.dst v) h') s.op hs fun v h' hv=>hk v h' hv)
 unfold sopr at hs⊢
 split at hs
 ·exact main hs
 ·rename_i g want hg
  split at hs
  ·rename_i t ht
   have ht':=hss g t ht
   simp only[ht']
   split at hs
   ·exact main hs
   ·exact hk undef h hs
  ·exact hs.elim
theorem chk_sub {x:SOper} (_hq:cls x.op≤1) (hs:Sub σ σ') (hc:chkOp P σ h x):chkOp P σ' h x:=by
 refine sopr_sub' hs hc fun u h1 hk=>?_
 obtain⟨h2,h3⟩:=hk
 refine⟨h2,?_⟩
 funext t
 by_cases hd:x.dst=some t
 ·have h4:=congrFun h3 t
  rw[hd,upd_same]at h4
  rw[hd,upd_same,hs t u h4.symm]
 ·rw[upd_ne hd]
theorem stree_sub {Qp Qp':List PanicEntry→Heap→Prop} {K K':Env→Heap→Prop} (hq:∀ch h,Qp ch h→Qp' ch h) (hk:∀σ σ' h,Sub σ σ'→K σ h→K' σ' h):∀(t:OTree) (σ σ':Env) (h:Heap),Sub σ σ'→stree P Qp K t σ h→stree P Qp' K' t σ' h
 |.done,σ,σ',h,hs,hh=>hk σ σ' h hs hh
 |.one _ t,_,_,_,hs,hh=>sopr_sub hs hq (fun σ1 σ2 h1 h12 hk1=>stree_sub hq hk t σ1 σ2 h1 h12 hk1) hh
 |.both a b,_,_,_,hs,hh=>⟨stree_sub hq hk a _ _ _ hs hh.1,stree_sub hq hk b _ _ _ hs hh.2⟩
 |.chk _l t,σ,σ',h,hs,hh=>⟨fun x hx=>⟨(hh.1 x hx).1,chk_sub (hh.1 x hx).1 hs (hh.1 x hx).2⟩,stree_sub hq hk t σ σ' h hs hh.2⟩
theorem SubL.sub:∀{l:List (Nat×Value)},Sub σ σ'→SubL σ l→SubL σ' l
 |[],_,_=>trivial
 |(n,v)::_,hs,⟨h1,h2⟩=>⟨hs n v h1,SubL.sub hs h2⟩
theorem Sub.updL:∀(ps:List Nat) (vs:List Value) {σ σ':Env},Sub σ σ'→Sub (Sx.updL σ ps vs) (Sx.updL σ' ps vs)
 |[],vs,σ,σ',hs=>by
  cases vs<;>exact hs
 |p::ps,[],σ,σ',hs=>hs
 |p::ps,v::vs,σ,σ',hs=>Sub.updL ps vs (hs.upd (some p) v)
theorem mono_thenQ {next:Env→List Deferred→Heap→Prop} {Q:Post} (hn:∀σ σ' ds h,Sub σ σ'→next σ ds h→next σ' ds h) (hq:Mono Q):Mono (thenQ next Q):=by
 intro e σ σ' ds h hs hh
 cases e<;>first|exact hn σ σ' ds h hs hh|exact hq _ σ σ' ds h hs hh
theorem mono_jumpQ {l:Nat} {next:Env→List Deferred→Heap→Prop} {Q:Post} (hn:∀σ σ' ds h,Sub σ σ'→next σ ds h→next σ' ds h) (hq:Mono Q):Mono (jumpQ l next Q):=by
 intro e σ σ' ds h hs hh
 cases e<;>first|exact⟨hh.1,hn σ σ' ds h hs hh.2⟩|exact hq _ σ σ' ds h hs hh
theorem mono_blockQ {id:Nat} {Q:Post} (hq:Mono Q):Mono (blockQ id Q):=by
 intro e σ σ' ds h hs hh
 cases e with
 |exit id'=>
  simp only[blockQ]at hh⊢
  split
  ·rename_i he;rw[if_pos he]at hh;exact hq _ σ σ' ds h hs hh
  ·rename_i he;rw[if_neg he]at hh;exact hq _ σ σ' ds h hs hh
 |_=>exact hq _ σ σ' ds h hs hh
theorem mono_scopeQ {Q:Post} (hq:Mono Q):Mono (scopeQ Q):=by
 intro e σ σ' ds h hs hh
 cases e<;>first|exact hh.elim|exact hq _ σ σ' ds h hs hh
theorem mono_roundQ {l:Nat} {r:Loop} {R:Ending→Heap→Prop}:Mono (roundQ l r R):=by
 intro e σ σ' ds h hs hh
 cases e<;>exact hh
theorem mono_False:Mono fun _ _ _ _=>False:=fun _ _ _ _ _ _ h=>h
theorem swp_sub:∀(c:SCode) (Q:Post) (σ σ':Env) (ds:List Deferred) (h:Heap),Mono Q→Sub σ σ'→swp P c Q σ ds h→swp P c Q σ' ds h:=by
 intro c
 induction c with
 |skip=>exact fun Q σ σ' ds h hq hs hh=>hq _ σ σ' ds h hs hh
 |exit id=>exact fun Q σ σ' ds h hq hs hh=>hq _ σ σ' ds h hs hh
 |ret=>exact fun Q σ σ' ds h hq hs hh=>hq _ σ σ' ds h hs hh
 |ops l=>
  intro Q σ σ' ds h hq hs hh
  exact sops_sub (fun ch h' hk=>hq _ _ _ ds h' (hs.hide l) hk) (fun σ1 σ2 h1 h12 hk=>hq _ σ1 σ2 ds h1 h12 hk) l σ σ' h hs hh
 |two pre l1 l2=>
  intro Q σ σ' ds h hq hs hh
  have hp:∀ch h',Q (.panic ch) (hide (pre++(l1++l2)) σ) ds h'→Q (.panic ch) (hide (pre++(l1++l2)) σ') ds h':=fun ch h' hk=>hq _ _ _ ds h' (hs.hide _) hk
  exact sops_sub hp (fun σ1 σ2 h1 h12 hk=>⟨sops_sub hp (fun σ3 σ4 h3 h34 hk=>hq _ σ3 σ4 ds h3 h34 hk) l1 σ1 σ2 h1 h12 hk.1,sops_sub hp (fun σ3 σ4 h3 h34 hk=>hq _ σ3 σ4 ds h3 h34 hk) l2 σ1 σ2 h1 h12 hk.2⟩) pre σ σ' h hs hh
 |seq a b iha ihb=>
  intro Q σ σ' ds h hq hs hh
  exact iha _ σ σ' ds h (mono_thenQ (fun σ1 σ2 ds1 h1 h12 hk=>ihb Q σ1 σ2 ds1 h1 hq h12 hk) hq) hs hh
 |cond c a b iha ihb=>
  intro Q σ σ' ds h hq hs hh
  simp only[swp]at hh⊢
  split at hh
  ·rename_i he;rw[hs.ev he];exact iha Q σ σ' ds h hq hs hh
  ·rename_i he;rw[hs.ev he];exact ihb Q σ σ' ds h hq hs hh
  ·exact hh.elim
 |block id c ih=>exact fun Q σ σ' ds h hq hs hh=>ih _ σ σ' ds h (mono_blockQ hq) hs hh
 |scope c ih=>exact fun Q σ σ' ds h hq hs hh=>ih _ σ σ' ds h (mono_scopeQ hq) hs hh
 |loop c ih=>
  intro Q σ σ' ds h hq hs hh
  obtain⟨ι,E,I,μ,i,h1,h2,h3⟩:=hh
  exact⟨ι,E,I,μ,i,h1.sub hs,h2,h3⟩
 |rcv d=>exact fun Q σ σ' ds h hq hs hh=>hh.elim
 |label l=>exact fun Q σ σ' ds h hq hs hh=>hq _ σ σ' ds h hs hh
 |goto l=>exact fun Q σ σ' ds h hq hs hh=>hq _ σ σ' ds h hs hh
 |scopeG c l r ihc ihr=>exact fun Q σ σ' ds h hq hs hh=>ihc _ σ σ' ds h (mono_jumpQ (fun σ1 σ2 ds1 h1 h12 hk=>ihr _ σ1 σ2 ds1 h1 (mono_scopeQ hq) h12 hk) hq) hs hh
 |tree l t=>
  intro Q σ σ' ds h hq hs hh
  exact stree_sub (fun ch h' hk=>hq _ _ _ ds h' (hs.hideN l) hk) (fun σ1 σ2 h1 h12 hk=>hq _ σ1 σ2 ds h1 h12 hk) t σ σ' h hs hh
 |dfr l d x args=>
  intro Q σ σ' ds h hq hs hh
  refine sops_sub (fun ch h' hk=>hq _ _ _ ds h' (hs.hide l) hk) (fun σ1 σ2 h1 h12 hk=>?_) l σ σ' h hs hh
  split at hk
  ·rename_i f fi cap vs hx hv
   rw[h12.ev hx,h12.evsL _ _ hv]
   exact hq _ _ _ _ h1 (h12.upd d undef) hk
  ·exact hk.elim
 |rangeF g ps a b iha ihb=>
  intro Q σ σ' ds h hq hs hh
  simp only[swp]at hh⊢
  split at hh
  ·rename_i f fi cap hg
   rw[hs.ev hg]
   intro l D r h1 e1 e2 e3 e4 e5 e6 hy
   refine(hh l D r h1 e1 e2 e3 e4 e5 e6 fun h2 args R hl hlen hsw=>hy h2 args R hl hlen ?_).mono ?_
   ·refine iha _ _ _ [] h2 (mono_thenQ (fun σ1 σ2 ds1 h3 h12 hk=>⟨hk.1,fun h4 ht=>ihb _ σ1 σ2 ds1 h4 mono_roundQ h12 (hk.2 h4 ht)⟩) mono_False) (Sub.updL ps args hs) hsw
   ·intro e h2 he
    cases e with
    |returned v=>
     obtain⟨st,p,h3,h4,h5⟩:=he
     refine⟨st,p,h3,h4,fun h' ht=>?_⟩
     have:=h5 h' ht
     cases p with
     |none=>exact hq _ σ σ' _ h' hs this
     |some c=>cases c<;>first|exact hq _ σ σ' _ h' hs this|exact this.elim
    |panicked ch=>exact he.elim
    |outgrown=>exact he.elim
  ·exact hh.elim
theorem resQ_sub:∀(rs:List SRes) {σ σ':Env} {h:Heap} {K:List Value→Prop},Sub σ σ'→resQ σ h rs K→resQ σ' h rs K
 |[],_,_,_,_,_,hh=>hh
 |.t n::rs,σ,σ',h,K,hs,hh=>by
  simp only[resQ]at hh⊢
  split at hh
  ·rename_i v hv;rw[hs n v hv];exact resQ_sub rs hs hh
  ·exact hh.elim
 |.c1 n::rs,σ,σ',h,K,hs,hh=>by
  simp only[resQ]at hh⊢
  split at hh
  ·rename_i b o hv
   rw[hs n _ hv]
   obtain⟨v,h1,h2⟩:=hh
   exact⟨v,h1,resQ_sub rs hs h2⟩
  ·exact hh.elim
 |.cn n m::rs,σ,σ',h,K,hs,hh=>by
  simp only[resQ]at hh⊢
  split at hh
  ·rename_i b o hv
   rw[hs n _ hv]
   obtain⟨v,h0,h1,h2⟩:=hh
   exact⟨v,h0,h1,resQ_sub rs hs h2⟩
  ·exact hh.elim
theorem leaveQ_sub {rs:List SRes} {R:Ending→Heap→Prop}:∀(ds:List Deferred) {σ σ':Env} (u:FrameMode) (h:Heap),Sub σ σ'→leaveQ rs R σ ds u h→leaveQ rs R σ' ds u h
 |[],_,_,.returning,_,hs,hh=>resQ_sub rs hs hh
 |[],_,_,.panicking _,_,_,hh=>hh
 |[],_,_,.run,_,_,hh=>hh
 |d::ds,_,_,u,h,hs,hh=>by
  simp only[leaveQ]at hh⊢
  split at hh
  ·exact⟨hh.1,fun h' hp=>leaveQ_sub ds u h' hs (hh.2 h' hp)⟩
  ·exact hh.elim
theorem mono_retQ {rs:List SRes} {R:Ending→Heap→Prop}:Mono (retQ rs R):=by
 intro e σ σ' ds h hs hh
 cases e<;>first|exact leaveQ_sub ds _ h hs hh|exact hh
theorem cut_at {c:SCode} {rs:List SRes} {R:Ending→Heap→Prop} {ds:List Deferred} (E:List (Nat×Value)) (hE:SubL σ E) (hh:swp P c (retQ rs R) (mk E) ds h):swp P c (retQ rs R) σ ds h:=
 swp_sub c _ _ _ ds h mono_retQ (sub_mk hE) hh
theorem cut_in {c:SCode} {Q:Post} {ds:List Deferred} (E:List (Nat×Value)) (hq:Mono Q) (hE:SubL σ E) (hh:swp P c Q (mk E) ds h):swp P c Q σ ds h:=
 swp_sub c _ _ _ ds h hq (sub_mk hE) hh
end Go.Sx
namespace Go.Sx
open Go
variable {α:Type} {enc:α→List Value} {size:Nat}
theorem SL.slc {h:Heap} {a:Option Addr} {n c:Nat} {l:List α} (hsz:∀x,(enc x).length=size) (hs:SL enc h (.slice a n c) l) {lo hi:Nat} (h0:lo≤hi) (h1:hi≤l.length) {K:Value→Heap→Prop}
  (hk:∀a',ablk a'=ablk a→SL enc h (.slice a' (hi-lo) (c-lo)) ((l.drop lo).take (hi-lo))→K (.slice a' (hi-lo) (c-lo)) h):0≤(lo:Int)∧(lo:Int)≤hi∧(hi:Int)≤c∧slcR K h size a c lo hi:=by
 obtain⟨hn,hc⟩:=hs.len
 have e1:((hi:Int)-lo).toNat=hi-lo:=by omega
 have e2:((c:Int)-lo).toNat=c-lo:=by omega
 refine⟨by omega,by omega,by omega,?_⟩
 unfold slcR
 rw[e1,e2]
 cases a with
 |none=>
  obtain⟨a',c',he,_,h2⟩:=hs
  cases he
  have:l.length=0:=h2
  have hl:l=[]:=by simpa using this
  subst hl
  have hlo:lo=0:=by simp at h1;omega
  have hhi:hi=0:=by simpa using h1
  subst hlo;subst hhi
  exact hk none rfl ⟨none,c,rfl,by simp,rfl⟩
 |some a=>
  obtain⟨b,o,sp⟩:=a
  cases sp with
  |some s=>
   obtain⟨a',c',he,_,h2⟩:=hs
   cases he
   have h0:l.length=0:=h2
   have hl:l=[]:=by simpa using h0
   subst hl
   have hlo:lo=0:=by simp at h1;omega
   have hhi:hi=0:=by simpa using h1
   subst hlo;subst hhi
   exact⟨rfl,hk (some ⟨b,o,some s⟩) rfl ⟨some ⟨b,o,some s⟩,c,rfl,by simp,rfl⟩⟩
  |none=>
   intro o' ho1 ho2
   refine hk (some ⟨b,o',none⟩) rfl (hs.cut hsz h0 h1 (fun hlt=>?_) (fun he=>?_))
   ·have:=ho1 (by omega)
    simpa using this
   ·exact ho2 (by omega)
theorem Grow.put {h h1 h2:Heap} {b:Nat} {l l':List Value} (g:Grow h h1 b l) (p:Put h1 h2 b l'):Grow h h2 b l':=
 ⟨g.id,p.blk,by rw[p.size,g.size],fun k hk=>by rw[p.old k (by rw[g.id];omega),g.old k hk]⟩
theorem ones2 {a b:Value} (ha:a.oneCell'=true) (hb:b.oneCell'=true):∀u∈[a,b],u.oneCell'=true:=by
 intro u hu
 simp at hu
 rcases hu with rfl|rfl<;>assumption
theorem ones1 {a:Value} (ha:a.oneCell'=true):∀u∈[a],u.oneCell'=true:=by
 intro u hu
 simp at hu
 rw[hu];exact ha
end Go.Sx
namespace Go.Sx
open Go Go.ChangeShapes
section
variable {H:Type} {enc:TypeId×Value→H} {P:Program}
theorem world_cell {W:World} (b o:Nat):W.cell? ⟨b,o,none⟩=cell W.heap b o:=by
 unfold World.cell? cell
 cases W.heap[b]? with
 |none=>rfl
 |some x=>cases x<;>rfl
theorem sameAt_of {W W':World} (h:∀k,k<W.heap.size→W'.heap[k]? =W.heap[k]?) {p:MemPlace} (hp:p.block<W.heap.size):W.sameAt W' p:=by
 cases p with
 |cell b o=>
  show W'.cell? _=W.cell? _
  rw[world_cell,world_cell]
  unfold cell
  rw[h b hp]
 |map b=>exact h b hp
theorem trodAll_stays {W W':World} {sp':Nat→Bool} (hl:laidOutB P=true) (h:∀k,k<W.heap.size→W'.heap[k]? =W.heap[k]?):∀{ts:List TypeId} {vs:List Value} {ds:List (DataW H)} {ps:List MemPlace},
  (∀t∈ts,P.readableRec t=true∧t<P.types.size)→DataW.TrodAll enc P W 0 (fun _=>true) true ts vs ds ps→(∀p∈ps,p.block<W.heap.size)→(∀p∈ps,sp' p.block=true)→
  DataW.TrodAll enc P W' 0 sp' true ts vs ds ps
 |[],_,_,_,_,hT,_,_=>by
  obtain⟨rfl,rfl,rfl⟩:=trodAll_nil hT
  rfl
 |t::ts,_,_,_,hts,hT,hlt,hs=>by
  obtain⟨v,vs,d,ds,p,q,rfl,rfl,rfl,h1,h2⟩:=trodAll_cons hT
  have ht:=hts t (by simp)
  exact⟨p,q,WideElems.Trod_stays hl ht.1 ht.2 h1 (fun x hx=>sameAt_of h (hlt x (by simp[hx]))) (fun x hx=>hs x (by simp[hx])),
   trodAll_stays hl h (fun t ht=>hts t (by simp[ht])) h2 (fun x hx=>hlt x (by simp[hx])) (fun x hx=>hs x (by simp[hx])),rfl⟩
theorem trodAll_len:∀{W:World} {base:Nat} {sp:Nat→Bool} {hd:Bool} {ts:List TypeId} {vs:List Value} {ds:List (DataW H)} {ps:List MemPlace},DataW.TrodAll enc P W base sp hd ts vs ds ps→ds.length=ts.length
 |_,_,_,_,[],_,_,_,h=>by obtain⟨rfl,rfl,rfl⟩:=trodAll_nil h;rfl
 |_,_,_,_,_::_,_,_,_,h=>by
  obtain⟨v,vs,d,ds,p,q,rfl,rfl,rfl,_,h2⟩:=trodAll_cons h
  simp[trodAll_len h2]
theorem kept_of {W W':World} (hos:W'.os=W.os) (hout:W'.output=W.output) (h:∀k,k<W.heap.size→W'.heap[k]? =W.heap[k]?) (may:MemPlace→Prop):W.keptBut W' may:=by
 refine⟨hos,hout,fun i hi=>?_⟩
 rw[h i hi]
 exact(World.keptBut_refl W may).2.2 i hi
theorem lift_law {f:Nat} {fn:Func} {s:ChangeSpec} {tb:TypeId} {apart fresh handsOn again:Bool} {W:World} {args:Array Value} {ds gs:List (DataW H)} {before:List MemPlace}
  (hlo:laidOutB P=true) (hts:∀t∈fn.params.toList,P.readableRec t=true∧t<P.types.size) (hres:fn.resultTypes= #[tb]) (hb:P.underlying tb=some .bool) (hvars:s.vars=[])
  (hs:∀l:List (DataW H),l.length=fn.params.size→s.fn H l={results:=[.lit (.bool true)],args:=l})
  (hW:DataW.Whole enc P fn.params.toList s.vars apart W args.toList ds gs before)
  (hc:CallsH P f args.toList W.heap (Ret fun r h'=>r=.bool true∧Chg [] W.heap h')):
  Calls P f args W fun e W'=>∃v,e=.returned v∧s.post enc P fn apart fresh handsOn again W args v W':=by
 refine(hc.2 W rfl).mono ?_
 rintro e W' ⟨hR,hno,hos,hout,_⟩
 cases e with
 |panicked ch=>exact hR.elim
 |outgrown=>exact hR.elim
 |returned v=>
 obtain⟨rfl,hch⟩:=hR
 refine⟨_,rfl,?_⟩
 have hsame:∀k,k<W.heap.size→W'.heap[k]? =W.heap[k]? :=fun k hk=>hch.old k hk (by simp)
 have hlt:=fun p hp=>hW.lt p hp
 have hW':=hW
 obtain⟨p,q,hA,hV,rfl,hz,hn⟩:=hW
 have hlen:ds.length=fn.params.size:=by rw[trodAll_len hA];simp
 rw[hvars]at hV
 obtain⟨rfl,rfl⟩:=trodVars_none hV
 have hfn:s.fn H (ds++[])={results:=[.lit (.bool true)],args:=ds}:=by rw[List.append_nil];exact hs ds hlen
 have hold:∀x∈p++[],(fun b=>decide (b<W.heap.size)) x.block=true:=fun x hx=>by simpa using hlt x hx
 have hargs:∀sp:Nat→Bool,(∀x∈p++[],sp x.block=true)→DataW.TrodAll enc P W' 0 sp true fn.params.toList args.toList (s.fn H (ds++[])).args p:=fun sp hsp=>by
  rw[hfn]
  exact trodAll_stays hlo hsame hts hA (fun x hx=>hlt x (by simp[hx])) (fun x hx=>hsp x (by simp[hx]))
 have hr:∀(b:Nat) (sp:Nat→Bool) (hd:Bool),DataW.TrodAll enc P W' b sp hd fn.resultTypes.toList ((Value.bool true).resultList fn.resultTypes.size) (s.fn H (ds++[])).results []:=fun b sp hd=>by
  rw[hfn,hres]
  exact trodAll_mk1 (Go.RowKit.shut_bool hb true)
 have hvs:∀sp:Nat→Bool,DataW.TrodVars enc P W' sp s.vars (s.fn H (ds++[])).vars []:=fun sp=>by
  rw[hfn,hvars];rfl
 refine⟨ds,[],p++[],[],p,[],hW',hr _ _ _,hargs _ hold,hvs _,World.keptBut_mono (fun x hx=>⟨hx,?_⟩) (kept_of hos hout hsame _),fun _=>?_⟩
 ·simpa using hx
 ·refine⟨Go.RowKit.ok_one hres rfl (Go.RowKit.okWide_bool_mk hb true),_,_,([]++p)++[],⟨[]++p,[],trodAll_append (hargs _ (fun _ _=>rfl)) (hr _ _ _),hvs _,rfl,?_,?_⟩,?_⟩
  ·intro b off hp
   have hb':b<W.heap.size:=hlt (.cell b off) (by simpa using hp)
   have:=hz b off (by simpa using hp)
   unfold World.frozen? at this⊢
   simp only[hsame b hb']
   exact this
  ·intro ha
   simpa using hn ha
  ·intro x hx _
   simpa using hx
def Wts (P:Program) (t:TypeId) (d:DataW H):Prop:=∀n∈d.weights P t,n≤reachBytes
theorem weightsAll_mem' {e:TypeId}:∀{l:List (DataW H)} {d:DataW H},d∈l→∀n∈d.weights P e,n∈DataW.weightsAll P e l
 |x::l,d,hd,n,hn=>by
  simp only[DataW.weightsAll,List.mem_append]
  rcases List.mem_cons.1 hd with rfl|hd
  ·exact .inl hn
  ·exact .inr (weightsAll_mem' hd n hn)
theorem wts_each {ts:List TypeId} {ds:List (DataW H)} (h:(DataW.weightsEach P ts ds).all (· ≤reachBytes)=true) {j:Nat} {t:TypeId} {d:DataW H} (ht:ts[j]? =some t) (hd:ds[j]? =some d):Wts P t d:=by
 intro n hn
 have:=List.all_eq_true.1 h n (DataW.weights_mem_each ht hd n hn)
 simpa using this
theorem exists_list {α:Type} {p:Nat→α→Prop}:∀n,(∀i<n,∃a,p i a)→∃l:List α,l.length=n∧∀i a,l[i]? =some a→p i a
 |0,_=>⟨[],rfl,by simp⟩
 |n+1,h=>by
  obtain⟨l,hl,hp⟩:=exists_list n (fun i hi=>h i (by omega))
  obtain⟨a,ha⟩:=h n (by omega)
  refine⟨l++[a],by simp[hl],fun i x hx=>?_⟩
  by_cases hi:i<l.length
  ·rw[List.getElem?_append_left hi]at hx;exact hp i x hx
  ·rw[List.getElem?_append_right (by omega)]at hx
   have:i-l.length=0:=by
    rcases Nat.lt_or_ge (i-l.length) 1 with h|h
    ·omega
    ·rw[List.getElem?_eq_none (by simpa using h)]at hx;cases hx
   rw[this]at hx
   simp at hx;subst hx
   have:i=n:=by omega
   rw[this];exact ha
theorem fld {W:World} {base n:Nat} {sp:Nat→Bool} {held:Bool} {cs:List Value} {fs:Array Field} {xs:List (DataW H×List MemPlace)}
  (hi:∀(i:Nat) (f:Field),fs[i]? =some f→DataW.trod enc P W base sp held n f.type (List.take (P.cellsOf f.type) (List.drop f.offset cs))=xs[i]?) (i ty off k:Nat) {f:Field} {cs':List Value} {x:DataW H×List MemPlace}
  (hf:fs[i]? =some f) (ht:f.type=ty) (ho:f.offset=off) (hc:P.cellsOf ty=k) (hcs:(cs.drop off).take k=cs') (hx:xs[i]? =some x):DataW.trod enc P W base sp held n ty cs'=some x:=by
 subst ht ho hc hcs
 rw[←hx];exact hi i f hf
theorem str_of_trod {t:TypeId} {W:World} {base n:Nat} {sp:Nat→Bool} {held:Bool} {cs:List Value} {x:DataW H×List MemPlace} (ht:P.underlying t=some .string) (h:DataW.trod enc P W base sp held n t cs=some x) (hw:Wts P t x.1):
  ∃s:ByteArray,cs=[.string s]∧s.size≤reachBytes:=by
 obtain⟨s,rfl,rfl,_⟩:=DataW.trod_string ht h
 refine⟨s,rfl,?_⟩
 have:=hw s.data.toList.length (by simp[DataW.weights])
 simpa using this
end
end Go.Sx
namespace Go.Sx
open Go
theorem bl_irrefl:∀a:List UInt8,Op.bytesLess a a=false
 |[]=>rfl
 |x::a=>by simp[Op.bytesLess,bl_irrefl a]
theorem bl_trans:∀{a b c:List UInt8},Op.bytesLess a b=true→Op.bytesLess b c=true→Op.bytesLess a c=true
 |_,[],_,h,_=>by cases ‹List UInt8› <;>simp[Op.bytesLess]at h
 |_,_::_,[],_,h=>by simp[Op.bytesLess]at h
 |[],_::_,_::_,_,_=>by simp[Op.bytesLess]
 |x::a,y::b,z::c,h1,h2=>by
  have ih:=@bl_trans a b c
  simp only[Op.bytesLess,Bool.or_eq_true,decide_eq_true_eq,Bool.and_eq_true,beq_iff_eq,UInt8.lt_iff_toNat_lt,←UInt8.toNat_inj]at h1 h2⊢
  rcases h1 with h1|⟨h1,h1'⟩<;>rcases h2 with h2|⟨h2,h2'⟩
  ·left;omega
  ·left;omega
  ·left;omega
  ·right;exact⟨by omega,ih h1' h2'⟩
theorem bl_total:∀{a b:List UInt8},a≠b→Op.bytesLess a b=true∨Op.bytesLess b a=true
 |[],[],h=>absurd rfl h
 |[],_::_,_=>by simp[Op.bytesLess]
 |_::_,[],_=>by simp[Op.bytesLess]
 |x::a,y::b,h=>by
  have ih:=@bl_total a b
  simp only[Op.bytesLess,Bool.or_eq_true,decide_eq_true_eq,Bool.and_eq_true,beq_iff_eq,UInt8.lt_iff_toNat_lt,←UInt8.toNat_inj]
  by_cases e:x=y
  ·subst e
   rcases ih (by intro e;exact h (by rw[e]))with h|h
   ·left;right;exact⟨rfl,h⟩
   ·right;right;exact⟨rfl,h⟩
  ·have:x.toNat≠y.toNat:=fun h=>e (UInt8.toNat_inj.1 h)
   rcases Nat.lt_or_gt_of_ne this with h|h
   ·left;left;exact h
   ·right;left;exact h
theorem toList_inj {a b:ByteArray} (h:a.toList=b.toList):a=b:=by
 rw[Go.ByteArray.toList_eq,Go.ByteArray.toList_eq]at h
 cases a;cases b;simp_all
theorem sless_irrefl (a:ByteArray):sless a a=false:=bl_irrefl _
theorem sless_trans {a b c:ByteArray}:sless a b=true→sless b c=true→sless a c=true:=bl_trans
theorem sless_total {a b:ByteArray} (h:a≠b):sless a b=true∨sless b a=true:=bl_total fun e=>h (toList_inj e)
def cmpB (a b:ByteArray):Int:=Lib.compareBytes a.data.toList b.data.toList
theorem compareBytes_neg:∀a b:List UInt8,(Lib.compareBytes a b<0↔Op.bytesLess a b=true)
 |[],[]=>by simp[Lib.compareBytes,Op.bytesLess]
 |[],_::_=>by simp[Lib.compareBytes,Op.bytesLess]
 |_::_,[]=>by simp[Lib.compareBytes,Op.bytesLess]
 |x::a,y::b=>by
  have ih:=compareBytes_neg a b
  simp only[Lib.compareBytes,Op.bytesLess,Bool.or_eq_true,decide_eq_true_eq,Bool.and_eq_true,beq_iff_eq,UInt8.lt_iff_toNat_lt,←UInt8.toNat_inj]
  by_cases h1:x.toNat<y.toNat
  ·rw[if_pos h1];simp[h1]
  ·rw[if_neg h1]
   by_cases h2:y.toNat<x.toNat
   ·rw[if_pos h2]
    constructor
    ·intro h;omega
    ·rintro(h|⟨h,_⟩)<;>omega
   ·rw[if_neg h2,ih]
    constructor
    ·intro h;exact .inr ⟨by omega,h⟩
    ·rintro(h|⟨_,h⟩)
     ·exact absurd h h1
     ·exact h
theorem cmpB_neg (a b:ByteArray):cmpB a b<0↔sless a b=true:=by
 unfold cmpB sless
 rw[Go.ByteArray.toList_eq,Go.ByteArray.toList_eq]
 exact compareBytes_neg _ _
theorem bl_step {x y:UInt8} {a b:List UInt8} (h:x=y):Op.bytesLess (x::a) (y::b)=Op.bytesLess a b:=by
 subst h;simp[Op.bytesLess]
theorem bl_diff {x y:UInt8} {a b:List UInt8} (h:x≠y):Op.bytesLess (x::a) (y::b)=decide (x<y):=by
 simp[Op.bytesLess,h]
end Go.Sx
namespace Go.Sx
open Go Go.ChangeShapes Go.WideShapes Go.ChangeAt Go.RowKit
section
variable {H:Type} {enc:TypeId×Value→H} {P:Program}
theorem open_cellR {α:Type} {en:α→List Value} {Good:α→Prop} {t e:TypeId} {k:Nat} {W:World} {base:Nat} {sp:Nat→Bool} {held:Bool} (ht:P.underlying t=some (.slice e)) (hk:P.cellsOf e=k) (hpos:0<k) (hsz:∀a,(en a).length=k)
  {n:Nat} (hel:∀n',n'<n→∀cs x,DataW.trod enc P W base sp held n' e cs=some x→Wts P e x.1→∃a,cs=en a∧Good a)
  {v:Value} {x:DataW H×List MemPlace} (h:DataW.trod enc P W base sp held n t [v]=some x) (hw:Wts P t x.1):
  ∃l:List α,SL en W.heap v l∧(∀a∈l,Good a)∧l.length*P.bytesOf e≤reachBytes:=by
 rcases DataW.trod_slice ht h with⟨hcs,_⟩|⟨a,len,cap,elems,rest,n',hfu,hcs,hx,_,hlc,_,hlen,hels,_,_⟩
 ·have hv:v=.slice none 0 0:=by simpa using hcs
  subst hv
  exact⟨[],SL.nil,by simp,by simp⟩
 ·have hv:v=.slice (some a) len cap:=by simpa using hcs
  subst hv
  obtain⟨b,o,s⟩:=a
  cases s with
  |some q=>
   have h0:len=0:=by
    rcases Nat.eq_zero_or_pos len with h|h
    ·exact h
    ·exfalso
     have h1:=hels 0 h
     have hi':0<elems.length:=by omega
     rw[List.getElem?_eq_getElem hi']at h1
     obtain⟨cs,hcs',_⟩:=Option.bind_eq_some_iff.1 h1
     obtain⟨_,hlcs,hcell⟩:=World.cells?_some hcs'
     have:=hcell 0 (by rw[hk];exact hpos)
     rw[List.getElem?_eq_getElem (by omega)]at this
     simp only[Nat.zero_mul,Addr.add,if_true]at this
     unfold World.cell? at this
     split at this<;>simp at this
   subst h0
   exact⟨[],⟨_,cap,rfl,Nat.zero_le _,rfl⟩,by simp,by simp⟩
  |none=>
   have hwd:∀i (hi:i<elems.length),Wts P e (elems[i]).1:=by
    intro i hi m hm
    have hd:x.1=.slice (elems.map (·.1)) (rest.map (·.1)):=congrArg Prod.fst hx
    refine hw m ?_
    rw[hd]
    simp only[DataW.weights,ht,List.mem_cons,List.mem_append]
    exact .inr (.inl (weightsAll_mem' (d:=(elems[i]).1) (List.mem_map.2 ⟨_,List.getElem_mem hi,rfl⟩) m hm))
   obtain⟨l,hl,hp⟩:=exists_list (p:=fun i (a:α)=>(∀j v,(en a)[j]? =some v→cell W.heap b (o+i*k+j)=some v)∧Good a) len (by
    intro i hi
    have h1:=hels i hi
    have hi':i<elems.length:=by omega
    rw[List.getElem?_eq_getElem hi']at h1
    obtain⟨cs,hcs',htr⟩:=Option.bind_eq_some_iff.1 h1
    obtain⟨_,hlcs,hcell⟩:=World.cells?_some hcs'
    have hc2:∀j,j<k→cell W.heap b (o+i*k+j)=cs[j]? :=by
     intro j hjk
     have:=hcell j (by rw[hk];exact hjk)
     have e1:(Addr.add ⟨b,o,none⟩ (i*P.cellsOf e)).add j=⟨b,o+i*k+j,none⟩:=by
      rw[hk];unfold Addr.add;split<;>split<;>simp_all
     rw[e1,world_cell]at this
     exact this
    obtain⟨x,hx1,hx2⟩:=hel n' (by omega) _ _ htr (hwd i hi')
    subst hx1
    refine⟨x,fun j v hj=>?_,hx2⟩
    have hjk:j<k:=by have:=(List.getElem?_eq_some_iff.1 hj).1;rw[hsz]at this;exact this
    rw[hc2 j hjk,hj])
   subst hl
   refine⟨l,⟨_,cap,rfl,hlc,?_⟩,fun a ha=>?_,?_⟩
   ·intro q v hq
    have hq1:=(List.getElem?_eq_some_iff.1 hq).1
    rw[flatMap_len hsz]at hq1
    have hik:q/k<l.length:=Nat.div_lt_of_lt_mul (by rw[Nat.mul_comm];exact hq1)
    have hli:l[q/k]? =some l[q/k]:=List.getElem?_eq_getElem hik
    have hjk:q%k<(en l[q/k]).length:=by rw[hsz];exact Nat.mod_lt _ hpos
    have hej:=List.getElem?_eq_getElem hjk
    have h2:=flatMap_get hsz l (q/k) _ hli (q%k) _ hej
    have hq2:q/k*k+q%k=q:=by rw[Nat.mul_comm];exact Nat.div_add_mod q k
    rw[hq2,hq]at h2
    cases h2
    have:=(hp _ _ hli).1 _ _ hej
    rw[Nat.add_assoc,hq2]at this
    exact this
   ·obtain⟨i,hi⟩:=List.getElem?_of_mem ha
    exact(hp i a hi).2
   ·have hd:x.1=.slice (elems.map (·.1)) (rest.map (·.1)):=congrArg Prod.fst hx
    have:=hw ((elems.map (·.1)).length+(rest.map (·.1)).length|>(· *P.bytesOf e)) (by rw[hd];simp[DataW.weights,ht])
    simp only[List.length_map]at this
    refine Nat.le_trans (Nat.mul_le_mul_right _ ?_) this
    omega
theorem open_cell {α:Type} {en:α→List Value} {Good:α→Prop} {t e:TypeId} {k:Nat} {W:World} {base:Nat} {sp:Nat→Bool} {held:Bool} (ht:P.underlying t=some (.slice e)) (hk:P.cellsOf e=k) (hpos:0<k) (hsz:∀a,(en a).length=k)
  (hel:∀n cs x,DataW.trod enc P W base sp held n e cs=some x→Wts P e x.1→∃a,cs=en a∧Good a)
  {n:Nat} {v:Value} {x:DataW H×List MemPlace} (h:DataW.trod enc P W base sp held n t [v]=some x) (hw:Wts P t x.1):
  ∃l:List α,SL en W.heap v l∧(∀a∈l,Good a)∧l.length*P.bytesOf e≤reachBytes:=
 open_cellR ht hk hpos hsz (fun n' _ cs x=>hel n' cs x) h hw
theorem cell_arg {t e:TypeId} {W:World} {base b0:Nat} {r:Reach} {sp:Nat→Bool} {held:Bool} {v:Value} {d:DataW H} {ps:List MemPlace} (ht:P.underlying t=some (.slice e)) (hval:Value.okWide P W r b0 t v) (h:DataW.Trod enc P W base sp held t v d ps):
  ∃n,DataW.trod enc P W base sp held n t [v]=some (d,ps):=by
 have hv:Cell.okWide P W r b0 t v:=by
  simp only[Value.okWide,ht]at hval;exact hval
 obtain⟨n,h⟩:=h
 refine⟨n,?_⟩
 have:v.cells.toList=[v]:=by
  simp only[Cell.okWide,Cell.ok,ht]at hv
  split at hv<;>simp_all [Value.cells]
 rw[←this];exact h
end
end Go.Sx
namespace Go.Sx
open Go
variable {α:Type} {enc:α→List Value} {size:Nat}
theorem app_new {h:Heap} {bytes:Nat} {z:List Value} (hsz:∀x,(enc x).length=size) (h1:∀x,∀u∈enc x,u.oneCell'=true) (hz:z.length=size)
  {a':Option Addr} {m c2:Nat} {l2:List α} (hsrc:SL enc h (.slice a' m c2) l2) (hbound:(l2.length*2+768)*bytes≤281474976710656) {K:Value→Heap→Prop}
  (hk:∀v' h',OL enc size h' v' l2→Chg [] h h'→(∀b∈vblk v',h.size≤b)→K v' h'):appP h K size bytes z none 0 0 a' m:=by
 refine app_own (l:=[]) hsz h1 hz OL.nil hsrc (by simpa using hbound) fun v' h' ho hc hb=>hk v' h' (by simpa using ho) hc fun b hb'=>?_
 rcases hb b hb' with h|h
 ·simp[ablk]at h
 ·exact h
end Go.Sx
