/-
  Regions in whichever order, as trees: soundly.
-/
import Derived.Test.YtaeabfemedamhaaGreatDoorSxM
namespace Go.Sx
open Go

variable {P : Program} {σ : Env} {ops : Array Oper} {nt : Nat} {ds : List Deferred} {Qp : List PanicEntry → Heap → Prop}

/-- All that may come next is fine, and so on. -/
def anyT (P : Program) (Qp : List PanicEntry → Heap → Prop) (K : Env → Heap → Prop) (ss : List SOper) (ops : Array Oper) : Nat → Array Bool → Env → Heap → Prop
  | 0, listed, σ, h => Region.ready .any ops listed = [] ∧ K σ h
  | f + 1, listed, σ, h => (Region.ready .any ops listed = [] → K σ h) ∧ ∀ i ∈ Region.ready .any ops listed, ∃ s, ss[i]? = some s ∧ sopr P σ h s (anyT P Qp K ss ops f (listed.setIfInBounds i true)) Qp

theorem anyT_sound {K : Env → Heap → Prop} {τ : Env} {ro : Option Nat} {n : Nat} {Q : Exit → Act → World → Prop} {w0 : World} {ss : List SOper} (hgood : ∀ (i : Nat) (s : SOper), ss[i]? = some s → Good P ops nt i s) (hd : ∀ (i : Nat) (s : SOper), ss[i]? = some s → ∀ d, s.dst = some d → τ d = none)
    (hN : ∀ σ' a' w', Rel σ' nt ds a' → SameB w0 w' → K σ' w'.heap → Q .normal a' w') (hQ : ∀ ch a' w', Rel τ nt ds a' → SameB w0 w' → Qp ch w'.heap → Q (.panic ch) a' w') :
    ∀ (f : Nat) (listed : Array Bool) (σ : Env) (a : Act) (w : World), Rel σ nt ds a → Rel τ nt ds a → SameB w0 w → anyT P Qp K ss ops f listed σ w.heap → wpAnyIn (FW ro) n P .any ops Q f listed a w
  | 0, listed, σ, a, w, hr, _, hb, h => ⟨h.1, hN σ a w hr hb h.2⟩
  | f + 1, listed, σ, a, w, hr, hτ, hb, h => by
    refine ⟨fun he => hN σ a w hr hb (h.1 he), fun i hi => ?_⟩
    obtain ⟨s, hs, hk⟩ := h.2 i hi
    refine opr_sound (hgood i s hs) hr hτ (hd i s hs) hk (fun σ' a' w' hr' hτ' hb' hk' => ?_) (fun ch w' hb' hk' => hQ ch a w' hτ (hb.trans hb') hk')
    exact anyT_sound hgood hd hN hQ f _ σ' a' w' hr' hτ' (hb.trans hb') hk'

theorem set_comm (l : Array Bool) (i j : Nat) : (l.setIfInBounds i true).setIfInBounds j true = (l.setIfInBounds j true).setIfInBounds i true := by
  apply Array.ext_getElem?
  intro k
  simp only [Array.getElem?_setIfInBounds, Array.size_setIfInBounds]
  by_cases h1 : j = k <;> by_cases h2 : i = k <;> simp [h1, h2]

theorem ready_stays {i x : Nat} {listed : Array Bool} (hne : i ≠ x) (hi : i ∈ Region.ready .any ops listed) (_hsz : listed.size = ops.size) : i ∈ Region.ready .any ops (listed.setIfInBounds x true) := by
  obtain ⟨h1, o, ho, h2⟩ := mem_ready.1 hi
  refine mem_ready.2 ⟨by rw [getD_set_ne true (fun e => hne e.symm)]; exact h1, o, ho, fun e he hb => getD_set_true (h2 e he hb)⟩

theorem ahead_of_ready {i : Nat} {listed : Array Bool} (hi : i ∈ Region.ready .any ops listed) : ∀ k ∈ aheadOf ops i, listed.getD k false = true := by
  obtain ⟨h1, o, ho, h2⟩ := mem_ready.1 hi
  intro k hk
  simp only [aheadOf, ho, List.mem_map, List.mem_filter] at hk
  obtain ⟨e, ⟨he, hbd⟩, rfl⟩ := hk
  exact h2 e (by simpa using he) hbd

/-- No more than so many are not done. -/
def FuelOK (n f : Nat) (listed : Array Bool) : Prop := ∀ S : List Nat, S.Nodup → (∀ y ∈ S, y < n ∧ listed.getD y true = false) → S.length ≤ f

theorem FuelOK.step {n f x : Nat} {listed : Array Bool} (hf : FuelOK n (f + 1) listed) (hx : x < n) (hl : listed.getD x true = false) : FuelOK n f (listed.setIfInBounds x true) := by
  intro S hnd hS
  have hxs : x ∉ S := by
    intro hm
    have := (hS x hm).2
    rw [Array.getD_eq_getD_getElem?] at this hl
    by_cases hs' : x < listed.size
    · simp [hs'] at this
    · simp [hs'] at hl
  have := hf (x :: S) (List.nodup_cons.2 ⟨hxs, hnd⟩) (fun y hy => by
    rcases List.mem_cons.1 hy with rfl | hy
    · exact ⟨hx, hl⟩
    · obtain ⟨h1, h2⟩ := hS y hy
      refine ⟨h1, ?_⟩
      have hne : y ≠ x := fun e => hxs (by rw [← e]; exact hy)
      rwa [getD_set_ne true (fun e => hne e.symm)] at h2)
  simp at this
  exact this

theorem ready_lt {i : Nat} {listed : Array Bool} (hi : i ∈ Region.ready .any ops listed) : i < ops.size := by
  obtain ⟨_, o, ho, _⟩ := mem_ready.1 hi
  exact (Array.getElem?_eq_some_iff.1 ho).1

/-! ### Watched ones -/
theorem upd_upd (σ : Env) (d : Option Nat) (v u : Value) : upd (upd σ d v) d u = upd σ d u := by
  funext t
  by_cases h1 : d = some t
  · subst h1; rw [upd_same, upd_same]
  · rw [upd_ne h1, upd_ne h1, upd_ne h1]

def Apart (s p : SOper) : Prop := ∀ d, s.dst = some d → d ∉ p.slots ∧ p.dst ≠ some d

theorem chk_unset {p s : SOper} {h : Heap} {v : Value} (hq : cls p.op ≤ 1) (ha : Apart s p) (hc : chkOp P (upd σ s.dst v) h p) : chkOp P σ h p := by
  obtain ⟨u, ⟨_, hu⟩, redo⟩ := quietr hq hc
  refine redo σ h (fun t ht => (upd_ne fun e => (ha t e).1 ht).symm) (.inr (Ext.refl h)) _ ⟨rfl, ?_⟩
  funext t
  by_cases hd : p.dst = some t
  · have h1 := congrFun hu t
    have hne : s.dst ≠ some t := fun e => (ha t e).2 hd
    rw [upd_ne hne] at h1
    rw [← h1, hd, upd_same, upd_same]
  · rw [upd_ne hd]

theorem chk_set {p s : SOper} {h : Heap} {v : Value} (hq : cls p.op ≤ 1) (ha : Apart s p) (hc : chkOp P σ h p) : chkOp P (upd σ s.dst v) h p := by
  obtain ⟨u, ⟨_, hu⟩, redo⟩ := quietr hq hc
  refine redo _ h (fun t ht => upd_ne fun e => (ha t e).1 ht) (.inr (Ext.refl h)) _ ⟨rfl, ?_⟩
  show upd (upd σ s.dst v) p.dst u = upd σ s.dst v
  rw [upd_comm (fun t h1 h2 => (ha t h1).2 h2), hu]

theorem sopr_qp {Qp' : List PanicEntry → Heap → Prop} {s : SOper} {h : Heap} {K : Env → Heap → Prop} (hs : sopr P σ h s K Qp) (hq : ∀ ch h, Qp ch h → Qp' ch h) : sopr P σ h s K Qp' := by
  unfold sopr at hs ⊢
  split at hs
  · exact sop_qp s.op hs hq
  · split at hs
    · split at hs
      · exact sop_qp s.op hs hq
      · exact hs
    · exact hs.elim

/-- What is quiet does not panic. -/
theorem sopr_quiet {Qp' : List PanicEntry → Heap → Prop} {s : SOper} {h : Heap} {K : Env → Heap → Prop} (hq : cls s.op ≤ 1) (hs : sopr P σ h s K Qp) : sopr P σ h s K Qp' := by
  unfold sopr at hs ⊢
  split at hs
  · obtain ⟨v, hv, hall⟩ := quiet s.op hq hs
    exact hall h (.inr (Ext.refl h)) _ _ hv
  · split at hs
    · split at hs
      · obtain ⟨v, hv, hall⟩ := quiet s.op hq hs
        exact hall h (.inr (Ext.refl h)) _ _ hv
      · exact hs
    · exact hs.elim

theorem chk_use {s : SOper} {h : Heap} {v : Value} {K : Env → Heap → Prop} (hq : cls s.op ≤ 1) (hd : ∀ d, s.dst = some d → d ∉ s.slots) (hc : chkOp P (upd σ s.dst v) h s) (hk : K (upd σ s.dst v) h) : sopr P σ h s K Qp := by
  obtain ⟨u, ⟨_, hu⟩, redo⟩ := quietr hq hc
  have hr : sopr P σ h s K (fun _ _ => False) := redo σ h (fun t ht => (upd_ne fun e => hd t e ht).symm) (.inr (Ext.refl h)) K (by
    rw [upd_upd] at hu
    rw [hu]; exact hk)
  obtain ⟨u', hk', redo'⟩ := quietr hq hr
  exact sopr_qp hr fun _ _ hf => hf.elim

def anyW (P : Program) (Qp : List PanicEntry → Heap → Prop) (K : Env → Heap → Prop) (ss : List SOper) (cl : List (List Nat)) (ops : Array Oper) : Nat → List (Nat × SOper) → Array Bool → Env → Heap → Prop
  | 0, W, listed, σ, h => (∀ p ∈ W, chkOp P σ h p.2) ∧ Region.ready .any ops listed = [] ∧ K σ h
  | f + 1, W, listed, σ, h => (∀ p ∈ W, chkOp P σ h p.2) ∧ (Region.ready .any ops listed = [] → K σ h) ∧
    ∀ i ∈ Region.ready .any ops listed, ∃ s, ss[i]? = some s ∧ sopr P σ h s (anyW P Qp K ss cl ops f (keepW cl i s W) (listed.setIfInBounds i true)) Qp

theorem anyW_chk {K : Env → Heap → Prop} {ss : List SOper} {cl : List (List Nat)} {f : Nat} {W : List (Nat × SOper)} {listed : Array Bool} {h : Heap} (ha : anyW P Qp K ss cl ops f W listed σ h) : ∀ p ∈ W, chkOp P σ h p.2 := by
  cases f <;> exact ha.1

theorem keepW_sub {cl : List (List Nat)} {y : Nat} {s : SOper} {W : List (Nat × SOper)} : ∀ p ∈ keepW cl y s W, p ∈ W := by
  intro p hp
  unfold keepW at hp
  split at hp
  · exact hp
  · exact (List.mem_filter.1 hp).1
theorem keepW_mono {cl : List (List Nat)} {y : Nat} {s : SOper} {W W' : List (Nat × SOper)} (hs : ∀ p ∈ W', p ∈ W) : ∀ p ∈ keepW cl y s W', p ∈ keepW cl y s W := by
  intro p hp
  unfold keepW at hp ⊢
  split at hp
  · rename_i h; rw [if_pos h]; exact hs p hp
  · rename_i h; rw [if_neg h]
    exact List.mem_filter.2 ⟨hs p (List.mem_filter.1 hp).1, (List.mem_filter.1 hp).2⟩

theorem anyW_less {K : Env → Heap → Prop} {ss : List SOper} {cl : List (List Nat)} : ∀ (f : Nat) (W W' : List (Nat × SOper)) (listed : Array Bool) (σ : Env) (h : Heap), (∀ p ∈ W', p ∈ W) → anyW P Qp K ss cl ops f W listed σ h → anyW P Qp K ss cl ops f W' listed σ h
  | 0, W, W', listed, σ, h, hs, ha => ⟨fun p hp => ha.1 p (hs p hp), ha.2⟩
  | f + 1, W, W', listed, σ, h, hs, ha => ⟨fun p hp => ha.1 p (hs p hp), ha.2.1, fun i hi => by
    obtain ⟨s, h1, h2⟩ := ha.2.2 i hi
    exact ⟨s, h1, sopr_mono h2 fun σ1 h1 hh => anyW_less f _ _ _ σ1 h1 (keepW_mono hs) hh⟩⟩

theorem anyW_anyT {K : Env → Heap → Prop} {ss : List SOper} {cl : List (List Nat)} : ∀ (f : Nat) (W : List (Nat × SOper)) (listed : Array Bool) (σ : Env) (h : Heap), anyW P Qp K ss cl ops f W listed σ h → anyT P Qp K ss ops f listed σ h
  | 0, W, listed, σ, h, ha => ha.2
  | f + 1, W, listed, σ, h, ha => ⟨ha.2.1, fun i hi => by
    obtain ⟨s, h1, h2⟩ := ha.2.2 i hi
    exact ⟨s, h1, sopr_mono h2 fun σ1 h1 hh => anyW_anyT f _ _ σ1 h1 hh⟩⟩

abbrev clOf (ops : Array Oper) : List (List Nat) := (List.range ops.size).map fun i => closure (aheads ops) (ops.size * ops.size + ops.size) ((aheads ops).getD i []) []

theorem not_waits {x i : Nat} {listed : Array Bool} (hcl : Closed ops (fun k => listed.getD k false = true)) (hx : x ∈ Region.ready .any ops listed) (hi : i ∈ Region.ready .any ops listed) (hsz : listed.size = ops.size) : ¬ Waits ops x i := by
  intro hw
  have h1 := hw _ hcl (ahead_of_ready hi)
  have h2 := (mem_ready.1 hx).1
  have hlt := ready_lt hx
  rw [Array.getD_eq_getD_getElem?] at h1 h2
  have hs' : x < listed.size := by omega
  simp [hs'] at h1 h2
  rw [h1] at h2; simp at h2

theorem two_left {x i f : Nat} {listed : Array Bool} (hfu : FuelOK ops.size (f + 1) listed) (hix : i ≠ x) (hx : x ∈ Region.ready .any ops listed) (hi : i ∈ Region.ready .any ops listed) : f ≠ 0 := by
  rintro rfl
  have := hfu [x, i] (by simp [Ne.symm hix]) (fun y hy => by
    simp only [List.mem_cons, List.not_mem_nil, or_false] at hy
    rcases hy with rfl | rfl
    · exact ⟨ready_lt hx, (mem_ready.1 hx).1⟩
    · exact ⟨ready_lt hi, (mem_ready.1 hi).1⟩)
  simp at this

theorem still_unlisted {y i : Nat} {listed : Array Bool} (hi : listed.getD i true = false) (hy : (listed.setIfInBounds i true).getD y true = false) : listed.getD y true = false := by
  by_cases hyi : y = i
  · subst hyi; exact hi
  · rwa [getD_set_ne true (fun e => hyi e.symm)] at hy

theorem selfChk {s : SOper} {h : Heap} {v : Value} (hq : cls s.op ≤ 1) (hself : ∀ d, s.dst = some d → d ∉ s.slots)
    (redo : ∀ (σ' : Env) (h' : Heap), (∀ (t : Nat), t ∈ s.slots → σ' t = σ t) → cls s.op = 0 ∨ Ext h h' → ∀ (K' : Env → Heap → Prop), K' (upd σ' s.dst v) h' → sopr P σ' h' s K' Qp) : chkOp P (upd σ s.dst v) h s := by
  have h1 := redo (upd σ s.dst v) h (fun q hq' => upd_ne fun e => hself q e hq') (.inr (Ext.refl h)) (fun σ' h' => h' = h ∧ σ' = upd σ s.dst v) ⟨rfl, upd_upd _ _ _ _⟩
  exact sopr_quiet hq h1

/-- One that may as well come later comes first. -/
theorem easy_first {K : Env → Heap → Prop} {ss : List SOper} {x : Nat} {s : SOper} (hs : ss[x]? = some s) : ∀ (f : Nat) (W : List (Nat × SOper)) (listed : Array Bool) (σ : Env) (h : Heap), listed.size = ops.size → FuelOK ops.size (f + 1) listed → Closed ops (fun k => listed.getD k false = true) → x ∈ Region.ready .any ops listed →
    (∀ y, listed.getD y true = false → y ≠ x → Waits ops x y ∨ ∃ t, ss[y]? = some t ∧ loose s t = true) → (∀ p ∈ W, cls p.2.op ≤ 1 ∧ Apart s p.2) → (∀ p ∈ W, chkOp P σ h p.2) →
    sopr P σ h s (anyW P Qp K ss (clOf ops) ops f (keepW (clOf ops) x s W) (listed.setIfInBounds x true)) Qp → anyW P Qp K ss (clOf ops) ops (f + 1) W listed σ h := by
  intro f
  induction f with
  | zero =>
    intro W listed σ h hsz hfu hcl hx hy hW hchk hk
    refine ⟨hchk, fun he => (by rw [he] at hx; simp at hx), fun i hi => ?_⟩
    by_cases hix : i = x
    · subst hix; exact ⟨s, hs, hk⟩
    · exact absurd rfl (two_left hfu hix hx hi)
  | succ f ih =>
    intro W listed σ h hsz hfu hcl hx hy hW hchk hk
    refine ⟨hchk, fun he => (by rw [he] at hx; simp at hx), fun i hi => ?_⟩
    by_cases hix : i = x
    · subst hix; exact ⟨s, hs, hk⟩
    · have hi2 := ready_stays hix hi hsz
      have hi1 := (mem_ready.1 hi).1
      rcases hy i hi1 hix with hw | ⟨t, ht, hl⟩
      · exact absurd hw (not_waits hcl hx hi hsz)
      · refine ⟨t, ht, ?_⟩
        obtain ⟨l1, l2, l3, l4⟩ := loose_spec hl
        have hq : cls s.op ≤ 1 := by omega
        have hkeep : keepW (clOf ops) x s W = W := by unfold keepW; rw [if_pos (Nat.ble_eq_true_of_le hq)]
        rw [hkeep] at hk
        obtain ⟨v, hv, redo⟩ := quietr hq hk
        obtain ⟨t', ht', hh⟩ := hv.2.2 i hi2
        rw [ht] at ht'; simp at ht'; subst ht'
        refine sopr_agree (σ := upd σ s.dst v) (fun q hq' => (upd_ne fun e => l1 q e hq').symm) hh fun u h' he hh' => ?_
        rw [upd_comm l2] at hh'
        have hW' : ∀ p ∈ keepW (clOf ops) i t W, cls p.2.op ≤ 1 ∧ Apart s p.2 := fun p hp => hW p (keepW_sub p hp)
        refine ih (keepW (clOf ops) i t W) (listed.setIfInBounds i true) _ h' (by simp [hsz]) (hfu.step (ready_lt hi) hi1) (closed_step hcl (ahead_of_ready hi)) (ready_stays (fun e => hix e.symm) hx hsz)
          (fun y hy1 hyx => hy y (still_unlisted hi1 hy1) hyx) hW' (fun p hp => chk_unset (hW' p hp).1 (hW' p hp).2 (anyW_chk hh' p hp)) ?_
        have hkeep2 : keepW (clOf ops) x s (keepW (clOf ops) i t W) = keepW (clOf ops) i t W := by
          show (if _ then _ else _) = _
          rw [if_pos (Nat.ble_eq_true_of_le hq)]
        rw [hkeep2]
        refine redo _ h' (fun q hq' => upd_ne fun e => l3 q e hq') ?_ _ ?_
        · rcases l4 with h0 | ⟨_, h2⟩
          · exact .inl h0
          · exact .inr (he h2)
        · rw [set_comm]; exact hh'

theorem envL_spec {x y : SOper} (hl : envL x y = true) : (∀ d, x.dst = some d → d ∉ y.slots) ∧ (∀ t, x.dst = some t → y.dst ≠ some t) ∧ (∀ e, y.dst = some e → e ∉ x.slots) := by
  unfold envL at hl
  simp only [Bool.and_eq_true] at hl
  obtain ⟨h1, h2⟩ := hl
  refine ⟨fun d hd => ?_, fun t ht hy => ?_, fun e he => ?_⟩
  · rw [hd] at h1; simp only [Bool.and_eq_true, Bool.not_eq_true'] at h1
    intro hm; rw [(hasN_iff d y.slots).2 hm] at h1; simp at h1
  · rw [ht] at h1; simp only [hy, Bool.and_eq_true, Bool.not_eq_true'] at h1
    simp at h1
  · rw [he] at h2; simp only [Bool.not_eq_true'] at h2
    intro hm; rw [(hasN_iff e x.slots).2 hm] at h2; simp at h2

/-- One that is watched comes first. -/
theorem watch_first {K : Env → Heap → Prop} {ss : List SOper} {x : Nat} {s : SOper} (hs : ss[x]? = some s) (hq : cls s.op ≤ 1) (hself : ∀ d, s.dst = some d → d ∉ s.slots) : ∀ (f : Nat) (W : List (Nat × SOper)) (listed : Array Bool) (σ : Env) (h : Heap), listed.size = ops.size → FuelOK ops.size (f + 1) listed → Closed ops (fun k => listed.getD k false = true) → x ∈ Region.ready .any ops listed →
    (∀ y, listed.getD y true = false → y ≠ x → Waits ops x y ∨ ∃ t, ss[y]? = some t ∧ envL s t = true) → (∀ p ∈ W, cls p.2.op ≤ 1 ∧ Apart s p.2) → (∀ p ∈ W, chkOp P σ h p.2) →
    sopr P σ h s (anyW P Qp K ss (clOf ops) ops f ((x, s) :: W) (listed.setIfInBounds x true)) Qp → anyW P Qp K ss (clOf ops) ops (f + 1) W listed σ h := by
  intro f
  induction f with
  | zero =>
    intro W listed σ h hsz hfu hcl hx hy hW hchk hk
    refine ⟨hchk, fun he => (by rw [he] at hx; simp at hx), fun i hi => ?_⟩
    by_cases hix : i = x
    · subst hix
      exact ⟨s, hs, sopr_mono hk fun σ1 h1 hh => anyW_less 0 _ _ _ σ1 h1 (fun p hp => by simp [keepW_sub p hp]) hh⟩
    · exact absurd rfl (two_left hfu hix hx hi)
  | succ f ih =>
    intro W listed σ h hsz hfu hcl hx hy hW hchk hk
    refine ⟨hchk, fun he => (by rw [he] at hx; simp at hx), fun i hi => ?_⟩
    by_cases hix : i = x
    · subst hix
      exact ⟨s, hs, sopr_mono hk fun σ1 h1 hh => anyW_less (f + 1) _ _ _ σ1 h1 (fun p hp => by simp [keepW_sub p hp]) hh⟩
    · have hi2 := ready_stays hix hi hsz
      have hi1 := (mem_ready.1 hi).1
      rcases hy i hi1 hix with hw | ⟨t, ht, hl⟩
      · exact absurd hw (not_waits hcl hx hi hsz)
      · refine ⟨t, ht, ?_⟩
        obtain ⟨l1, l2, l3⟩ := envL_spec hl
        obtain ⟨v, hv, redo⟩ := quietr hq hk
        obtain ⟨t', ht', hh⟩ := hv.2.2 i hi2
        rw [ht] at ht'; simp at ht'; subst ht'
        have hcons : keepW (clOf ops) i t ((x, s) :: W) = (x, s) :: keepW (clOf ops) i t W := by
          unfold keepW
          split
          · rfl
          · have hn : hasN x ((clOf ops).getD i []) = false := by
              cases hb : hasN x ((clOf ops).getD i []) with
              | false => rfl
              | true => exact absurd (waits_of (ready_lt hi) hb) (not_waits hcl hx hi hsz)
            rw [List.filter_cons, if_pos (by show (!hasN x ((clOf ops).getD i [])) = true; rw [hn]; rfl)]
        rw [hcons] at hh
        refine sopr_agree (σ := upd σ s.dst v) (fun q hq' => (upd_ne fun e => l1 q e hq').symm) hh fun u h' _ hh' => ?_
        rw [upd_comm l2] at hh'
        have hW' : ∀ p ∈ keepW (clOf ops) i t W, cls p.2.op ≤ 1 ∧ Apart s p.2 := fun p hp => hW p (keepW_sub p hp)
        have hall := anyW_chk hh'
        refine ih (keepW (clOf ops) i t W) (listed.setIfInBounds i true) _ h' (by simp [hsz]) (hfu.step (ready_lt hi) hi1) (closed_step hcl (ahead_of_ready hi)) (ready_stays (fun e => hix e.symm) hx hsz)
          (fun y hy1 hyx => hy y (still_unlisted hi1 hy1) hyx) hW' (fun p hp => chk_unset (hW' p hp).1 (hW' p hp).2 (hall p (by simp [hp]))) ?_
        exact chk_use hq hself (hall (x, s) (by simp)) (by rw [set_comm]; exact hh')

theorem easyT_spec {ss : List SOper} {cl : List (List Nat)} {listed : Array Bool} {x : Nat} {s : SOper} : ∀ (n : Nat), easyT ss cl listed x s n = true → ∀ y, y < n → listed.getD y true = false → y ≠ x → hasN x (cl.getD y []) = true ∨ ∃ t, ss[y]? = some t ∧ loose s t = true
  | 0, _, y, hy, _, _ => by omega
  | n + 1, h, y, hy, hl, hyx => by
    simp only [easyT, Bool.and_eq_true, Bool.or_eq_true] at h
    by_cases hyn : y = n
    · subst hyn
      rcases h.1 with ((h1 | h1) | h1) | h1
      · exact absurd (Nat.eq_of_beq_eq_true h1) hyx
      · rw [hl] at h1; simp at h1
      · exact .inl h1
      · split at h1
        · rename_i t ht; exact .inr ⟨t, ht, h1⟩
        · simp at h1
    · exact easyT_spec n h.2 y (by omega) hl hyx
theorem freeT_spec {ss : List SOper} {cl : List (List Nat)} {listed : Array Bool} {x : Nat} {s : SOper} : ∀ (n : Nat), freeT ss cl listed x s n = true → ∀ y, y < n → listed.getD y true = false → y ≠ x → hasN x (cl.getD y []) = true ∨ ∃ t, ss[y]? = some t ∧ envL s t = true
  | 0, _, y, hy, _, _ => by omega
  | n + 1, h, y, hy, hl, hyx => by
    simp only [freeT, Bool.and_eq_true, Bool.or_eq_true] at h
    by_cases hyn : y = n
    · subst hyn
      rcases h.1 with ((h1 | h1) | h1) | h1
      · exact absurd (Nat.eq_of_beq_eq_true h1) hyx
      · rw [hl] at h1; simp at h1
      · exact .inl h1
      · split at h1
        · rename_i t ht; exact .inr ⟨t, ht, h1⟩
        · simp at h1
    · exact freeT_spec n h.2 y (by omega) hl hyx

theorem noClash_spec {s : SOper} : ∀ {W : List (Nat × SOper)}, noClash s W = true → ∀ p ∈ W, Apart s p.2
  | [], _, p, hp => by simp at hp
  | q :: W, h, p, hp => by
    simp only [noClash, Bool.and_eq_true] at h
    rcases List.mem_cons.1 hp with rfl | hp
    · intro d hd
      have h1 := h.1
      rw [hd] at h1
      simp only [Bool.and_eq_true, Bool.not_eq_true'] at h1
      refine ⟨fun hm => ?_, fun he => ?_⟩
      · rw [(hasN_iff d p.2.slots).2 hm] at h1; simp at h1
      · rw [he] at h1; simp at h1
    · exact noClash_spec h.2 p hp

theorem pickT_spec {ss : List SOper} {cl : List (List Nat)} {W : List (Nat × SOper)} {listed : Array Bool} {n : Nat} {y : Nat} {s : SOper} : ∀ {r : List Nat}, pickT ss cl W listed n r = some (y, s) → y ∈ r ∧ ss[y]? = some s ∧ easyT ss cl listed y s n = true ∧ noClash s W = true
  | [], h => by simp [pickT] at h
  | x :: r, h => by
    simp only [pickT] at h
    split at h
    · rename_i s' hs'
      split at h
      · rename_i he
        simp at h
        obtain ⟨rfl, rfl⟩ := h
        exact ⟨by simp, hs', he⟩
      · obtain ⟨h1, h2⟩ := pickT_spec h
        exact ⟨by simp [h1], h2⟩
    · simp at h
theorem pickW_spec {ss : List SOper} {cl : List (List Nat)} {W : List (Nat × SOper)} {listed : Array Bool} {n : Nat} {y : Nat} {s : SOper} : ∀ {r : List Nat}, pickW ss cl W listed n r = some (y, s) → y ∈ r ∧ ss[y]? = some s ∧ (cls s.op ≤ 1 ∧ selfOK s = true) ∧ freeT ss cl listed y s n = true ∧ noClash s W = true
  | [], h => by simp [pickW] at h
  | x :: r, h => by
    simp only [pickW] at h
    split at h
    · rename_i s' hs'
      split at h
      · rename_i he
        simp at h
        obtain ⟨rfl, rfl⟩ := h
        exact ⟨by simp, hs', ⟨Nat.le_of_ble_eq_true he.1, he.2.1⟩, he.2.2.1, he.2.2.2⟩
      · obtain ⟨h1, h2⟩ := pickW_spec h
        exact ⟨by simp [h1], h2⟩
    · simp at h

theorem mkChk_spec {K : Env → Heap → Prop} {W : List (Nat × SOper)} {t : OTree} {h : Heap} (hs : stree P Qp K (mkChk W t) σ h) : (∀ p ∈ W, chkOp P σ h p.2) ∧ stree P Qp K t σ h := by
  unfold mkChk at hs
  split at hs
  · exact ⟨fun p hp => by simp at hp, hs⟩
  · exact ⟨fun p hp => (hs.1 p.2 (List.mem_map.2 ⟨p, hp, rfl⟩)).2, hs.2⟩

theorem altT_spec {h : Heap} {K : Env → Heap → Prop} {f : Nat → SOper → Option OTree} {ss : List SOper} : ∀ {r : List Nat} {t : OTree}, altT f ss r = some t → stree P Qp K t σ h → ∀ i ∈ r, ∃ s u, ss[i]? = some s ∧ f i s = some u ∧ sopr P σ h s (stree P Qp K u) Qp
  | [], t, ha, _, i, hi => by simp at hi
  | [x], t, ha, hs, i, hi => by
    simp only [altT] at ha
    split at ha
    · rename_i s h1
      simp only [Option.map_eq_some_iff] at ha
      obtain ⟨u, h2, rfl⟩ := ha
      simp at hi; subst hi
      exact ⟨s, u, h1, h2, hs⟩
    · simp at ha
  | x :: y :: r, t, ha, hs, i, hi => by
    simp only [altT] at ha
    split at ha
    · rename_i s h1
      split at ha
      · rename_i u v h2 h3
        simp at ha; subst ha
        rcases List.mem_cons.1 hi with rfl | hi
        · exact ⟨s, u, h1, h2, hs.1⟩
        · exact altT_spec h3 hs.2 i hi
      · simp at ha
    · simp at ha

theorem treeOf_sound {K : Env → Heap → Prop} {ss : List SOper} : ∀ (f k : Nat) (W : List (Nat × SOper)) (listed : Array Bool) (t : OTree) (σ : Env) (h : Heap), listed.size = ops.size → FuelOK ops.size f listed → Closed ops (fun k => listed.getD k false = true) →
    (∀ p ∈ W, cls p.2.op ≤ 1) → (∀ p ∈ W, chkOp P σ h p.2) →
    treeOf ss (clOf ops) ops f k W listed = some t → stree P Qp K t σ h → anyW P Qp K ss (clOf ops) ops f W listed σ h
  | 0, k, W, listed, t, σ, h, hsz, hfu, hcl, hW, hchk, ht, hs => by
    simp only [treeOf] at ht
    split at ht
    · rename_i he
      simp at ht; subst ht
      exact ⟨hchk, List.isEmpty_iff.1 he, hs⟩
    · simp at ht
  | f + 1, k, W, listed, t, σ, h, hsz, hfu, hcl, hW, hchk, ht, hs => by
    have hltz : ∀ z, listed.getD z true = false → z < ops.size := by
      intro z hz
      rcases Nat.lt_or_ge z ops.size with hlt | hge
      · exact hlt
      · rw [Array.getD_eq_getD_getElem?, Array.getElem?_eq_none (by omega)] at hz; simp at hz
    simp only [treeOf] at ht
    split at ht
    · rename_i he
      simp at ht; subst ht
      exact ⟨hchk, fun _ => hs, fun i hi => by rw [he] at hi; simp at hi⟩
    · rename_i x r hready
      split at ht
      · rename_i y s hp
        simp only [Option.map_eq_some_iff] at ht
        obtain ⟨u, hu, rfl⟩ := ht
        obtain ⟨h1, h2, h3, h4⟩ := pickT_spec hp
        rw [← hready] at h1
        refine easy_first h2 f W listed σ h hsz hfu hcl h1 ?_ (fun p hp => ⟨hW p hp, noClash_spec h4 p hp⟩) hchk ?_
        · intro z hz hzy
          rcases easyT_spec _ h3 z (hltz z hz) hz hzy with hw | hl
          · exact .inl (waits_of (hltz z hz) hw)
          · exact .inr hl
        · refine sopr_mono hs fun σ1 h1' hh => ?_
          obtain ⟨hc2, hh2⟩ := mkChk_spec hh
          exact treeOf_sound f k _ _ u σ1 h1' (by simp [hsz]) (hfu.step (ready_lt h1) (mem_ready.1 h1).1) (closed_step hcl (ahead_of_ready h1)) (fun p hp => hW p (keepW_sub p hp)) hc2 hu hh2
      · split at ht
        · rename_i y s hp
          simp only [Option.map_eq_some_iff] at ht
          obtain ⟨u, hu, rfl⟩ := ht
          obtain ⟨h1, h2, ⟨hq, hself⟩, h3, h4⟩ := pickW_spec hp
          rw [← hready] at h1
          have hself' : ∀ d, s.dst = some d → d ∉ s.slots := by
            intro d hd hm
            unfold selfOK at hself
            have hmm := (hasN_iff d s.slots).2 hm
            simp only [hd, hmm] at hself
            simp at hself
          refine watch_first h2 hq hself' f W listed σ h hsz hfu hcl h1 ?_ (fun p hp => ⟨hW p hp, noClash_spec h4 p hp⟩) hchk ?_
          · intro z hz hzy
            rcases freeT_spec _ h3 z (hltz z hz) hz hzy with hw | hl
            · exact .inl (waits_of (hltz z hz) hw)
            · exact .inr hl
          · obtain ⟨v, hv, redo⟩ := quietr hq hs
            have self : chkOp P (upd σ s.dst v) h s := selfChk hq hself' redo
            have hnext := treeOf_sound f k ((y, s) :: W) _ u (upd σ s.dst v) h (by simp [hsz]) (hfu.step (ready_lt h1) (mem_ready.1 h1).1) (closed_step hcl (ahead_of_ready h1))
              (fun p hp => by
                rcases List.mem_cons.1 hp with rfl | hp
                · exact hq
                · exact hW p hp)
              (fun p hp => by
                rcases List.mem_cons.1 hp with rfl | hp
                · exact self
                · exact chk_set (hW p hp) (noClash_spec h4 p hp) (hchk p hp)) hu hv
            exact redo σ h (fun _ _ => rfl) (.inr (Ext.refl h)) _ hnext
        · split at ht
          · simp at ht
          · rename_i k'
            refine ⟨hchk, fun he => by rw [he] at hready; simp at hready, fun i hi => ?_⟩
            have hi' := hi
            rw [hready] at hi
            obtain ⟨s, u, h1, h2, h3⟩ := altT_spec ht hs i hi
            simp only [Option.map_eq_some_iff] at h2
            obtain ⟨u', hu', rfl⟩ := h2
            refine ⟨s, h1, sopr_mono h3 fun σ1 h1' hh => ?_⟩
            obtain ⟨hc2, hh2⟩ := mkChk_spec hh
            exact treeOf_sound f k' _ _ u' σ1 h1' (by simp [hsz]) (hfu.step (ready_lt hi') (mem_ready.1 hi').1) (closed_step hcl (ahead_of_ready hi')) (fun p hp => hW p (keepW_sub p hp)) hc2 hu' hh2

theorem ctree_sound {s : SCode} (hm : P.follows .mixedOrders = true) (hc : ctree P nt ops = some s)
    {ro : Option Nat} {n id : Nat} {Q : Post} {a : Act} {w : World} (hr : Rel σ nt ds a) (h : swp P s Q σ ds w.heap) :
    (Code.region id ops true).wpIn (FW ro) n P (Lift nt w Q) a w := by
  unfold ctree at hc
  split at hc
  · simp at hc
  · rename_i ss hss
    simp only [Option.map_eq_some_iff] at hc
    obtain ⟨t, ht, rfl⟩ := hc
    obtain ⟨hlen, hget⟩ := coperAll_get ops.toList ss hss
    have hlen' : ss.length = ops.size := by simpa using hlen
    have good : ∀ (i : Nat) (s : SOper), ss[i]? = some s → Good P ops nt i s := by
      intro i s hi
      have hlt : i < ops.size := by rw [← hlen']; exact (List.getElem?_eq_some_iff.1 hi).1
      obtain ⟨s2, h2, h3⟩ := hget i ops[i] (by simp [hlt])
      rw [hi] at h2; simp at h2; subst h2
      exact ⟨ops[i], s, by simp [hlt], h3, .inl rfl⟩
    refine wpIn_region_any hm ?_
    have hsub : Sub (hide ss σ) σ := hide_sub ss
    refine anyT_sound (ss := ss) (Q := Lift nt w Q) (Qp := fun ch h' => Q (.panic ch) (hide ss σ) ds h') (K := fun σ' h' => Q .normal σ' ds h') (τ := hide ss σ) (ds := ds) (nt := nt) (w0 := w) good
      (fun i s hs d hd => hide_dst (List.mem_of_getElem? hs) hd) (fun σ' a' w' hr' hb hk => ⟨σ', ds, hr', hb, hk⟩) (fun ch a' w' hτ hb hk => ⟨_, ds, hτ, hb, hk⟩) ops.size (Array.replicate ops.size false) σ a _ hr (hr.sub hsub) ⟨rfl, rfl, rfl⟩ ?_
    refine anyW_anyT ops.size [] _ σ w.heap (treeOf_sound ops.size 6 [] _ t σ w.heap (by simp) ?_ ?_ (fun p hp => by simp at hp) (fun p hp => by simp at hp) ht h)
    · intro S hnd hS
      exact len_le ops.size S hnd fun x hx => (hS x hx).1
    · intro j hj
      simp only [Array.getD_eq_getD_getElem?, Array.getElem?_replicate] at hj
      split at hj <;> simp at hj
end Go.Sx
