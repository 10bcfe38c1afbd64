/-
  Regions, soundly: the operations of a region that draws its order may be done in ours.
-/
import Derived.Test.YtaeabfemedamhaaGreatDoorSxK
namespace Go.Sx
open Go

variable {P : Program} {σ σ' : Env} {h : Heap} {Qp : List PanicEntry → Heap → Prop}

theorem hasN_iff (n : Nat) : ∀ l : List Nat, hasN n l = true ↔ n ∈ l
  | [] => by simp [hasN]
  | m :: l => by
    simp only [hasN, List.mem_cons, cond_eq_ite]
    split
    · rename_i e; simp [Nat.eq_of_beq_eq_true e]
    · rename_i e
      have hne : n ≠ m := by rintro rfl; exact e (Nat.beq_refl n)
      rw [hasN_iff n l]; simp [hne]

theorem upd_ne {d : Option Nat} {v : Value} {t : Nat} (ht : d ≠ some t) : upd σ d v t = σ t := by
  cases d with
  | none => rfl
  | some d =>
    have : Nat.beq t d = false := by
      cases hb : Nat.beq t d
      · rfl
      · exact absurd (by rw [Nat.eq_of_beq_eq_true hb]) ht
    simp [upd, this]

theorem upd_same {d : Nat} {v : Value} : upd σ (some d) v d = some v := by simp [upd]

theorem upd_comm {d e : Option Nat} {v u : Value} (hne : ∀ t, d = some t → e ≠ some t) : upd (upd σ d v) e u = upd (upd σ e u) d v := by
  funext t
  by_cases h1 : d = some t
  · subst h1
    rw [upd_ne (hne t rfl), upd_same, upd_same]
  · by_cases h2 : e = some t
    · subst h2
      rw [upd_same, upd_ne h1, upd_same]
    · rw [upd_ne h2, upd_ne h1, upd_ne h1, upd_ne h2]

theorem mem_slotsOf : ∀ (l : List Operand) (t : Nat), t ∈ slotsOf l ↔ .tmp t ∈ l
  | [], t => by simp [slotsOf]
  | x :: l, t => by
    cases x <;> simp [slotsOf, mem_slotsOf l t]

theorem ev_agree {l : List Operand} (ha : ∀ t ∈ slotsOf l, σ' t = σ t) : ∀ x ∈ l, ev σ x = ev σ' x := by
  intro x hx
  cases x with
  | tmp t => exact (ha t ((mem_slotsOf l t).2 hx)).symm
  | _ => rfl

theorem sop_agree {s : SOp} {K : Value → Heap → Prop} (ha : ∀ t ∈ slotsOf s.reads, σ' t = σ t) (hs : sop P σ h K Qp s) : sop P σ' h K Qp s := by
  rw [← sop_congr s (ev_agree ha)]; exact hs

theorem quietr {x : SOper} {K : Env → Heap → Prop} (hq : cls x.op ≤ 1) (hs : sopr P σ h x K Qp) :
    ∃ v, K (upd σ x.dst v) h ∧ ∀ σ' h', (∀ t ∈ x.slots, σ' t = σ t) → (cls x.op = 0 ∨ Ext h h') → ∀ K' : Env → Heap → Prop, K' (upd σ' x.dst v) h' → sopr P σ' h' x K' Qp := by
  unfold sopr at hs ⊢
  split at hs
  · rename_i hg
    obtain ⟨v, hv, hall⟩ := quiet x.op hq hs
    refine ⟨v, hv, fun σ' h' ha he K' hk => ?_⟩
    refine sop_agree (σ := σ) (fun t ht => ha t ?_) (hall h' he _ Qp hk)
    simpa [SOper.slots, hg] using ht
  · rename_i g want hg
    split at hs
    · rename_i t ht
      split at hs
      · rename_i hw
        obtain ⟨v, hv, hall⟩ := quiet x.op hq hs
        refine ⟨v, hv, fun σ' h' ha he K' hk => ?_⟩
        have hσ : σ' g = some t := by rw [ha g (by simp [SOper.slots, hg]), ht]
        simp only [hσ, hw]
        refine sop_agree (σ := σ) (fun t ht => ha t ?_) (hall h' he _ Qp hk)
        simp [SOper.slots, hg, ht]
      · rename_i hw
        refine ⟨undef, hs, fun σ' h' ha he K' hk => ?_⟩
        have hσ : σ' g = some t := by rw [ha g (by simp [SOper.slots, hg]), ht]
        simp only [hσ, hw]
        exact hk
    · exact hs.elim

theorem sopr_agree {y : SOper} {K K' : Env → Heap → Prop} (ha : ∀ t ∈ y.slots, σ' t = σ t) (hs : sopr P σ h y K Qp)
    (hk : ∀ v h', (cls y.op ≤ 2 → Ext h h') → K (upd σ y.dst v) h' → K' (upd σ' y.dst v) h') : sopr P σ' h y K' Qp := by
  have main : ∀ hs : sop P σ h (fun v h' => K (upd σ y.dst v) h') Qp y.op, sop P σ h (fun v h' => K' (upd σ' y.dst v) h') Qp y.op := by
    intro hs
    by_cases hc : cls y.op ≤ 2
    · exact sop_mono y.op (sop_ext y.op hc hs) fun v h' hv => hk v h' (fun _ => hv.2) hv.1
    · exact sop_mono y.op hs fun v h' hv => hk v h' (fun h => absurd h hc) hv
  unfold sopr at hs ⊢
  split at hs
  · rename_i hg
    refine sop_agree (σ := σ) (fun t ht => ha t ?_) (main hs)
    simpa [SOper.slots, hg] using ht
  · rename_i g want hg
    split at hs
    · rename_i t ht
      have hσ : σ' g = some t := by rw [ha g (by simp [SOper.slots, hg]), ht]
      simp only [hσ]
      split at hs
      · rename_i hw
        refine sop_agree (σ := σ) (fun t ht => ha t ?_) (main hs)
        simp [SOper.slots, hg, ht]
      · rename_i hw
        exact hk undef h (fun _ => Ext.refl h) hs
    · exact hs.elim

theorem sopr_mono {y : SOper} {K K' : Env → Heap → Prop} (hs : sopr P σ h y K Qp) (hk : ∀ σ' h', K σ' h' → K' σ' h') : sopr P σ h y K' Qp :=
  sopr_agree (fun _ _ => rfl) hs fun _ _ _ hv => hk _ _ hv

theorem loose_spec {x y : SOper} (hl : loose x y = true) :
    (∀ d, x.dst = some d → d ∉ y.slots) ∧ (∀ t, x.dst = some t → y.dst ≠ some t) ∧ (∀ e, y.dst = some e → e ∉ x.slots) ∧ (cls x.op = 0 ∨ (cls x.op = 1 ∧ cls y.op ≤ 2)) := by
  unfold loose at hl
  simp only [Bool.and_eq_true] at hl
  obtain ⟨⟨h1, h2⟩, h3⟩ := hl
  refine ⟨fun d hd => ?_, fun t ht hy => ?_, fun e he => ?_, ?_⟩
  · rw [hd] at h1; simp only [Bool.and_eq_true, Bool.not_eq_true'] at h1
    intro hm; rw [(hasN_iff d y.slots).2 hm] at h1; simp at h1
  · rw [ht] at h1; simp only [hy, Bool.and_eq_true, Bool.not_eq_true'] at h1
    simp at h1
  · rw [he] at h2; simp only [Bool.not_eq_true'] at h2
    intro hm; rw [(hasN_iff e x.slots).2 hm] at h2; simp at h2
  · split at h3
    · rename_i h; exact .inl h
    · rename_i h; exact .inr ⟨h, Nat.le_of_ble_eq_true h3⟩
    · simp at h3

theorem swap {x y : SOper} {K : Env → Heap → Prop} (hl : loose x y = true) (hs : sopr P σ h x (fun σ1 h1 => sopr P σ1 h1 y K Qp) Qp) :
    sopr P σ h y (fun σ1 h1 => sopr P σ1 h1 x K Qp) Qp := by
  obtain ⟨l1, l2, l3, l4⟩ := loose_spec hl
  obtain ⟨v, hy, redo⟩ := quietr (by omega) hs
  refine sopr_agree (σ := upd σ x.dst v) (fun t ht => (upd_ne fun e => l1 t e ht).symm) hy fun u h' he hk => ?_
  refine redo _ h' (fun t ht => upd_ne fun e => l3 t e ht) ?_ K ?_
  · rcases l4 with h0 | ⟨_, h2⟩
    · exact .inl h0
    · exact .inr (he h2)
  · rw [← upd_comm l2]; exact hk

theorem sops_front {K : Env → Heap → Prop} (y : SOper) (post : List SOper) : ∀ (pre : List SOper) (σ : Env) (h : Heap), (∀ x ∈ pre, loose x y = true) → sops P Qp K (pre ++ y :: post) σ h → sops P Qp K (y :: (pre ++ post)) σ h
  | [], σ, h, _, hs => hs
  | x :: pre, σ, h, hl, hs => by
    simp only [List.cons_append, sops] at hs ⊢
    exact swap (hl x (by simp)) (sopr_mono hs fun σ1 h1 h2 => sops_front y post pre σ1 h1 (fun z hz => hl z (by simp [hz])) h2)

/-! ### The frame -/
structure Rel (σ : Env) (nt : Nat) (ds : List Deferred) (a : Act) : Prop where
  size : a.tmps.size = nt
  defers : a.defers = ds
  knows : Knows σ a.eval

theorem Rel.put {nt : Nat} {ds : List Deferred} {a : Act} (hr : Rel σ nt ds a) {d : Option Nat} (hd : ∀ t, d = some t → t < nt) (v : Value) : Rel (upd σ d v) nt ds (a.put d v) := by
  cases d with
  | none => exact hr
  | some d =>
    have hlt := hd d rfl
    refine ⟨by simp [Act.put, hr.size], by simp [Act.put, hr.defers], fun x u hx => ?_⟩
    cases x with
    | tmp t =>
      by_cases ht : t = d
      · subst ht
        simp [ev, upd] at hx
        subst hx
        simp [Act.eval, Act.put, hr.size, hlt]
      · have hn : upd σ (some d) v t = σ t := upd_ne (by intro e; exact ht (by simpa using e.symm))
        have hx' : ev σ (.tmp t) = some u := by rw [← hx]; exact hn.symm
        have := hr.knows _ _ hx'
        simp only [Act.eval, Act.put] at this ⊢
        rw [← this]
        simp [Array.getElem?_setIfInBounds_ne (Ne.symm ht)]
    | const c => exact hr.knows (.const c) u hx
    | global g => exact hr.knows (.global g) u hx
    | func f => exact hr.knows (.func f) u hx

theorem Rel.put_hidden {nt : Nat} {ds : List Deferred} {a : Act} (hr : Rel σ nt ds a) {d : Option Nat} (hd : ∀ t, d = some t → σ t = none) (v : Value) : Rel σ nt ds (a.put d v) := by
  cases d with
  | none => exact hr
  | some d =>
    refine ⟨by simp [Act.put, hr.size], by simp [Act.put, hr.defers], fun x u hx => ?_⟩
    cases x with
    | tmp t =>
      have ht : t ≠ d := by
        rintro rfl
        have := hd t rfl
        simp [ev, this] at hx
      have := hr.knows _ _ hx
      simp only [Act.eval, Act.put] at this ⊢
      rw [← this]
      simp [Array.getElem?_setIfInBounds_ne (Ne.symm ht)]
    | _ => exact hr.knows _ _ hx

theorem Rel.sub {nt : Nat} {ds : List Deferred} {a : Act} (hr : Rel σ nt ds a) (hs : Sub σ' σ) : Rel σ' nt ds a :=
  ⟨hr.size, hr.defers, fun x u hx => by
    cases x with
    | tmp t => exact hr.knows (.tmp t) u (hs t u hx)
    | _ => exact hr.knows _ u hx⟩

/-! ### One operation of a region -/
variable {ops : Array Oper} {nt : Nat} {ds : List Deferred}

def Good (P : Program) (ops : Array Oper) (nt : Nat) (i : Nat) (s : SOper) : Prop :=
  ∃ o s0, ops[i]? = some o ∧ coper P ops nt o = some s0 ∧ (s = s0 ∨ s = calm1 s0)

theorem coper_spec {o : Oper} {s : SOper} (hs : coper P ops nt o = some s) :
    s.dst = o.dst ∧ cop P o = some s.op ∧ (∀ d, o.dst = some d → d < nt) ∧
    ((o.guard = none ∧ s.guard = none) ∨ ∃ j want g, o.guard = some (j, want) ∧ (ops[j]?).bind (·.dst) = some g ∧ g < nt ∧ s.guard = some (g, want)) := by
  unfold coper at hs
  split at hs
  · simp at hs
  · rename_i s1 hc
    split at hs
    · simp at hs
    · rename_i hlt
      have hlt' : ∀ d, o.dst = some d → d < nt := by
        intro d hd; rw [hd] at hlt; exact Nat.le_of_ble_eq_true hlt
      split at hs
      · rename_i hg
        simp at hs; subst hs
        exact ⟨rfl, hc, hlt', .inl ⟨hg, rfl⟩⟩
      · rename_i j want hg
        split at hs
        · rename_i g hj
          split at hs
          · rename_i hgn
            simp at hs; subst hs
            exact ⟨rfl, hc, hlt', .inr ⟨j, want, g, hg, hj, hgn, rfl⟩⟩
          · simp at hs
        · simp at hs

theorem calm_sound {s : SOper} {K : Env → Heap → Prop} (hs : sopr P σ h (calm1 s) K Qp) : sopr P σ h s K Qp := by
  have main : ∀ K : Value → Heap → Prop, sop P σ h K Qp (calm1 s).op → sop P σ h K Qp s.op := by
    intro K hs
    unfold calm1 at hs
    split at hs
    · rename_i f xs ho
      rw [ho]
      simp only [sop] at hs ⊢
      split at hs
      · exact hs.mono fun _ _ he => he.2
      · exact hs.elim
    · rename_i x xs ho
      rw [ho]
      simp only [sop] at hs ⊢
      split at hs
      · rename_i hx hv
        simp only [hx, hv]
        exact hs.mono fun _ _ he => he.2
      · exact hs.elim
    · exact hs
  have hg : (calm1 s).guard = s.guard := by unfold calm1; split <;> rfl
  have hd : (calm1 s).dst = s.dst := by unfold calm1; split <;> rfl
  unfold sopr at hs ⊢
  rw [hg, hd] at hs
  split at hs
  · rename_i h0; exact main _ hs
  · rename_i g want h0
    split at hs
    · rename_i t ht
      split at hs
      · exact main _ hs
      · exact hs
    · exact hs.elim

theorem opr_sound {i : Nat} {s : SOper} (hgood : Good P ops nt i s) {K : Env → Heap → Prop} {a : Act} {w : World} (hrel : Rel σ nt ds a) {τ : Env} (hτ : Rel τ nt ds a) (hdst : ∀ d, s.dst = some d → τ d = none)
    (hs : sopr P σ w.heap s K Qp) {ro : Option Nat} {n : Nat} {next : Act → World → Prop} {Q : Exit → Act → World → Prop}
    (hK : ∀ σ' a' w', Rel σ' nt ds a' → Rel τ nt ds a' → SameB w w' → K σ' w'.heap → next a' w') (hQ : ∀ ch w', SameB w w' → Qp ch w'.heap → Q (.panic ch) a w') :
    wpOpIn (FW ro) n P ops Q i next a w := by
  obtain ⟨o, s0, hi, hc, hs0⟩ := hgood
  have hs' : sopr P σ w.heap s0 K Qp := by
    rcases hs0 with rfl | rfl
    · exact hs
    · exact calm_sound hs
  have hd0 : s.dst = s0.dst := by
    rcases hs0 with rfl | rfl
    · rfl
    · unfold calm1; split <;> rfl
  obtain ⟨h1, h2, h3, h4⟩ := coper_spec hc
  have run : sop P σ w.heap (fun v h' => K (upd σ s0.dst v) h') Qp s0.op → o.wpIn (FW ro) n P a w next Q := fun hs =>
    cop_sound h2 hrel.knows hs (fun v w' hb hk => hK _ _ w' (by rw [h1]; exact hrel.put h3 v) (hτ.put_hidden (fun t ht => hdst t (by rw [hd0, h1]; exact ht)) v) hb hk) hQ
  simp only [wpOpIn, hi]
  rcases h4 with ⟨hg, hg'⟩ | ⟨j, want, g, hg, hj, hgn, hg'⟩
  · have hw : Region.wanted o (yielded ops a.tmps) = true := by simp [Region.wanted, hg]
    rw [if_pos hw]
    simp only [sopr, hg'] at hs'
    exact run hs'
  · simp only [sopr, hg'] at hs'
    split at hs'
    · rename_i t ht
      have hev := hrel.knows (.tmp g) _ ht
      have hgt : a.tmps[g]? = some t := by
        simp only [Act.eval] at hev
        have hlt : g < a.tmps.size := by rw [hrel.size]; exact hgn
        rw [Array.getElem?_eq_getElem hlt]
        simpa [Array.getD, hlt] using hev
      have hw : Region.wanted o (yielded ops a.tmps) = takes t want := by
        simp only [Region.wanted, hg, yielded, hj, Option.bind_some, hgt]
        unfold takes
        cases t <;> first | rfl | (rename_i b; cases b <;> cases want <;> rfl)
      split at hs'
      · rename_i htw
        rw [if_pos (by rw [hw]; exact htw)]
        exact run hs'
      · rename_i htw
        rw [if_neg (by rw [hw, htw]; simp)]
        exact ⟨fun _ _ => trivial, hK (upd σ s0.dst undef) (a.put o.dst undef) w (by rw [h1]; exact hrel.put h3 undef) (hτ.put_hidden (fun t ht => hdst t (by rw [hd0, h1]; exact ht)) undef) (SameB.refl w) hs'⟩
    · exact hs'.elim

/-- A list of operations, one behind the other. -/
theorem list_sound {K : Env → Heap → Prop} {τ : Env} {ro : Option Nat} {n : Nat} {Q : Exit → Act → World → Prop} {w0 : World}
    (hN : ∀ σ' a' w', Rel σ' nt ds a' → SameB w0 w' → K σ' w'.heap → Q .normal a' w') (hQ : ∀ ch a' w', Rel τ nt ds a' → SameB w0 w' → Qp ch w'.heap → Q (.panic ch) a' w') :
    ∀ (l : List (Nat × SOper)) (σ : Env) (a : Act) (w : World), (∀ p ∈ l, Good P ops nt p.1 p.2) → (∀ p ∈ l, ∀ d, p.2.dst = some d → τ d = none) → Rel σ nt ds a → Rel τ nt ds a → SameB w0 w →
      sops P Qp K (l.map (·.2)) σ w.heap → wpOpsIn (FW ro) n P ops Q (l.map (·.1)) a w
  | [], σ, a, w, _, _, hr, _, hb, hs => hN σ a w hr hb hs
  | (i, s) :: l, σ, a, w, hg, hd, hr, hτ, hb, hs => by
    simp only [List.map_cons, sops] at hs ⊢
    rw [wpOpsIn_cons]
    refine opr_sound (hg (i, s) (by simp)) hr hτ (hd (i, s) (by simp)) hs (fun σ' a' w' hr' hτ' hb' hk => ?_) (fun ch w' hb' hk => hQ ch a w' hτ (hb.trans hb') hk)
    exact list_sound hN hQ l σ' a' w' (fun p hp => hg p (by simp [hp])) (fun p hp => hd p (by simp [hp])) hr' hτ' (hb.trans hb') hk

/-! ### In whatever order -/
theorem aheads_getD (i : Nat) : (aheads ops).getD i [] = aheadOf ops i := by
  unfold aheads
  by_cases hi : i < ops.size
  · simp [List.getD, hi]
  · have : ops[i]? = none := by simp; omega
    simp [List.getD, aheadOf, hi]

/-- The done operations are closed under what is ahead. -/
def Closed (ops : Array Oper) (L : Nat → Prop) : Prop := ∀ j, L j → ∀ k ∈ aheadOf ops j, L k

theorem closure_sound {L : Nat → Prop} (hL : Closed ops L) : ∀ (n : Nat) (work acc : List Nat), (∀ k ∈ work, L k) → (∀ k ∈ acc, L k) → ∀ k ∈ closure (aheads ops) n work acc, L k
  | 0, work, acc, _, ha => by cases work <;> simpa [closure] using ha
  | n + 1, [], acc, _, ha => by simpa [closure] using ha
  | n + 1, x :: r, acc, hw, ha => by
    simp only [closure]
    split
    · exact closure_sound hL n r acc (fun k hk => hw k (by simp [hk])) ha
    · refine closure_sound hL n _ _ (fun k hk => ?_) (fun k hk => ?_)
      · rw [aheads_getD] at hk
        rcases List.mem_append.1 hk with hk | hk
        · exact hL x (hw x (by simp)) k hk
        · exact hw k (by simp [hk])
      · rcases List.mem_cons.1 hk with rfl | hk
        · exact hw k (by simp)
        · exact ha k hk

/-- Ours is an order. -/
def Topo (ops : Array Oper) : (Nat → Prop) → List Nat → Prop
  | _, [] => True
  | L, x :: r => (∀ k ∈ aheadOf ops x, L k) ∧ Topo ops (fun k => L k ∨ k = x) r

theorem Topo.mono {L L' : Nat → Prop} (hLL : ∀ k, L k → L' k) : ∀ {l : List Nat}, Topo ops L l → Topo ops L' l
  | [], _ => trivial
  | _ :: _, ⟨h1, h2⟩ => ⟨fun k hk => hLL k (h1 k hk), h2.mono fun k hk => hk.imp (hLL k) id⟩

theorem Topo.drop {y : Nat} {post : List Nat} : ∀ {pre : List Nat} {L : Nat → Prop}, Topo ops L (pre ++ y :: post) → Topo ops (fun k => L k ∨ k = y) (pre ++ post)
  | [], L, ht => ht.2
  | x :: pre, L, ⟨h1, h2⟩ => by
    refine ⟨fun k hk => .inl (h1 k hk), ?_⟩
    have := Topo.drop h2
    refine this.mono fun k hk => ?_
    rcases hk with (hk | hk) | hk
    · exact .inl (.inl hk)
    · exact .inr hk
    · exact .inl (.inr hk)

/-- y waits for x, or x may come behind y. -/
def After (ops : Array Oper) (x y : Nat × SOper) : Prop := (∀ L : Nat → Prop, Closed ops L → (∀ k ∈ aheadOf ops y.1, L k) → L x.1) ∨ loose x.2 y.2 = true

theorem any_sound {K : Env → Heap → Prop} {τ : Env} {ro : Option Nat} {n : Nat} {Q : Exit → Act → World → Prop} {w0 : World}
    (hN : ∀ σ' a' w', Rel σ' nt ds a' → SameB w0 w' → K σ' w'.heap → Q .normal a' w') (hQ : ∀ ch a' w', Rel τ nt ds a' → SameB w0 w' → Qp ch w'.heap → Q (.panic ch) a' w') :
    ∀ (fuel : Nat) (l : List (Nat × SOper)) (listed : Array Bool) (σ : Env) (a : Act) (w : World), l.length = fuel → (∀ p ∈ l, Good P ops nt p.1 p.2) → (∀ p ∈ l, ∀ d, p.2.dst = some d → τ d = none) →
      (l.map (·.1)).Nodup → (∀ i, i < ops.size → (listed.getD i true = false ↔ i ∈ l.map (·.1))) → listed.size = ops.size → Closed ops (fun k => listed.getD k false = true) →
      Topo ops (fun k => listed.getD k false = true) (l.map (·.1)) → l.Pairwise (After ops) → Rel σ nt ds a → Rel τ nt ds a → SameB w0 w → sops P Qp K (l.map (·.2)) σ w.heap →
      wpAnyIn (FW ro) n P .any ops Q fuel listed a w := by
  intro fuel
  induction fuel with
  | zero =>
    intro l listed σ a w hlen hg hd hnd hli hsz hcl htp hpw hr hτ hb hs
    have : l = [] := by simpa using hlen
    subst this
    refine ⟨?_, hN σ a w hr hb hs⟩
    rw [List.eq_nil_iff_forall_not_mem]
    intro j hj
    obtain ⟨h1, o, h2, _⟩ := mem_ready.1 hj
    have := (hli j (Array.getElem?_eq_some_iff.1 h2).1).1 h1
    simp at this
  | succ fuel ih =>
    intro l listed σ a w hlen hg hd hnd hli hsz hcl htp hpw hr hτ hb hs
    refine ⟨fun hnil => ?_, fun i hi => ?_⟩
    · -- the first of ours is ready
      exfalso
      cases l with
      | nil => simp at hlen
      | cons p l =>
        obtain ⟨o, s0, ho, _⟩ := hg p (by simp)
        have hlt := (Array.getElem?_eq_some_iff.1 ho).1
        have : p.1 ∈ Region.ready .any ops listed := by
          refine mem_ready.2 ⟨(hli p.1 hlt).2 (by simp), o, ho, fun e he hbd => ?_⟩
          refine htp.1 e.on ?_
          simp only [aheadOf, ho, List.mem_map, List.mem_filter]
          exact ⟨e, ⟨by simpa using he, hbd⟩, rfl⟩
        rw [hnil] at this
        simp at this
    · obtain ⟨hi1, o, hio, hi2⟩ := mem_ready.1 hi
      have hlt := (Array.getElem?_eq_some_iff.1 hio).1
      have hmem := (hli i hlt).1 hi1
      obtain ⟨p, hp, hpi⟩ := List.mem_map.1 hmem
      obtain ⟨pre, post, rfl⟩ := List.append_of_mem hp
      obtain ⟨j, s⟩ := p
      simp only at hpi
      subst hpi
      have hah : ∀ k ∈ aheadOf ops j, listed.getD k false = true := by
        intro k hk
        simp only [aheadOf, hio, List.mem_map, List.mem_filter] at hk
        obtain ⟨e, ⟨he, hbd⟩, rfl⟩ := hk
        exact hi2 e (by simpa using he) hbd
      have hloose : ∀ x ∈ pre.map (·.2), loose x s = true := by
        intro x hx
        obtain ⟨q, hq, rfl⟩ := List.mem_map.1 hx
        have hp2 := (List.pairwise_append.1 hpw).2.2 q hq (j, s) (by simp)
        rcases hp2 with hwait | hl
        · exfalso
          have hq1 := hwait _ hcl hah
          obtain ⟨oq, _, hoq, _⟩ := hg q (by simp [hq])
          have hqlt := (Array.getElem?_eq_some_iff.1 hoq).1
          have hq2 := (hli q.1 hqlt).2 (by simp only [List.map_append, List.mem_append, List.mem_map]; exact .inl ⟨q, hq, rfl⟩)
          rw [Array.getD_eq_getD_getElem?] at hq1 hq2
          have hs' : q.1 < listed.size := by omega
          simp [hs'] at hq1 hq2
          simp [hq1] at hq2
        · exact hl
      simp only [List.map_append, List.map_cons] at hs
      have hs2 := sops_front s (post.map (·.2)) (pre.map (·.2)) σ w.heap hloose hs
      simp only [sops] at hs2
      refine opr_sound (hg (j, s) (by simp)) hr hτ (hd (j, s) (by simp)) hs2 (fun σ' a' w' hr' hτ' hb' hk => ?_) (fun ch w' hb' hk => hQ ch a w' hτ (hb.trans hb') hk)
      have hjl : j < listed.size := by omega
      refine ih (pre ++ post) (listed.setIfInBounds j true) σ' a' w' ?_ ?_ ?_ ?_ ?_ (by simp [hsz]) ?_ ?_ ?_ hr' hτ' (hb.trans hb') (by simpa using hk)
      · simp at hlen ⊢; omega
      · exact fun p hp => hg p (by simp only [List.mem_append, List.mem_cons] at hp ⊢; rcases hp with h | h <;> simp [h])
      · exact fun p hp => hd p (by simp only [List.mem_append, List.mem_cons] at hp ⊢; rcases hp with h | h <;> simp [h])
      · simp only [List.map_append, List.map_cons] at hnd ⊢
        exact hnd.sublist (List.Sublist.append_left (List.sublist_cons_self _ _) _)
      · intro k hk
        have hkl : k < listed.size := by omega
        have hjn : j ∉ pre.map (·.1) ∧ j ∉ post.map (·.1) := by
          simp only [List.map_append, List.map_cons] at hnd
          have := List.nodup_append.1 hnd
          refine ⟨fun hm => this.2.2 j hm j (by simp) rfl, (List.nodup_cons.1 this.2.1).1⟩
        by_cases hkj : k = j
        · subst hkj
          simp only [Array.getD_eq_getD_getElem?, Array.getElem?_setIfInBounds_self, hkl, if_true, Option.getD_some, List.map_append, List.mem_append]
          simp [hjn]
        · have h1 : (listed.setIfInBounds j true).getD k true = listed.getD k true := getD_set_ne true (fun e => hkj e.symm)
          rw [h1, hli k hk]
          simp only [List.map_append, List.map_cons, List.mem_append, List.mem_cons]
          constructor
          · rintro (h | h | h)
            · exact .inl h
            · exact absurd h hkj
            · exact .inr h
          · rintro (h | h)
            · exact .inl h
            · exact .inr (.inr h)
      · intro k hk m hm
        by_cases hkj : k = j
        · subst hkj; exact getD_set_true (hah m hm)
        · rw [getD_set_ne false (fun e => hkj e.symm)] at hk
          exact getD_set_true (hcl k hk m hm)
      · simp only [List.map_append, List.map_cons] at htp ⊢
        refine htp.drop.mono fun k hk => ?_
        rcases hk with hk | rfl
        · exact getD_set_true hk
        · simp [hjl]
      · exact hpw.sublist (List.Sublist.append_left (List.sublist_cons_self _ _) _)

/-! ### Either of two first -/
/-- What is left of an order: l, of what is not done yet. -/
structure Inv (P : Program) (ops : Array Oper) (nt : Nat) (τ : Env) (l : List (Nat × SOper)) (listed : Array Bool) : Prop where
  good : ∀ p ∈ l, Good P ops nt p.1 p.2
  dst : ∀ p ∈ l, ∀ d, p.2.dst = some d → τ d = none
  nd : (l.map (·.1)).Nodup
  mem : ∀ i, i < ops.size → (listed.getD i true = false ↔ i ∈ l.map (·.1))
  topo : Topo ops (fun k => listed.getD k false = true) (l.map (·.1))

theorem Inv.step {τ : Env} {pre post : List (Nat × SOper)} {j : Nat} {s : SOper} {listed : Array Bool} (v : Inv P ops nt τ (pre ++ (j, s) :: post) listed) (hsz : listed.size = ops.size) (hj : j < ops.size) :
    Inv P ops nt τ (pre ++ post) (listed.setIfInBounds j true) where
  good p hp := v.good p (by simp only [List.mem_append, List.mem_cons] at hp ⊢; rcases hp with h | h <;> simp [h])
  dst p hp := v.dst p (by simp only [List.mem_append, List.mem_cons] at hp ⊢; rcases hp with h | h <;> simp [h])
  nd := by
    have hnd := v.nd
    simp only [List.map_append, List.map_cons] at hnd ⊢
    exact hnd.sublist (List.Sublist.append_left (List.sublist_cons_self _ _) _)
  mem k hk := by
    have hkl : k < listed.size := by omega
    have hnd := v.nd
    have hjn : j ∉ pre.map (·.1) ∧ j ∉ post.map (·.1) := by
      simp only [List.map_append, List.map_cons] at hnd
      have := List.nodup_append.1 hnd
      refine ⟨fun hm => this.2.2 j hm j (by simp) rfl, (List.nodup_cons.1 this.2.1).1⟩
    by_cases hkj : k = j
    · subst hkj
      simp only [Array.getD_eq_getD_getElem?, Array.getElem?_setIfInBounds_self, hkl, if_true, Option.getD_some, List.map_append, List.mem_append]
      simp [hjn]
    · have h1 : (listed.setIfInBounds j true).getD k true = listed.getD k true := getD_set_ne true (fun e => hkj e.symm)
      rw [h1, v.mem k hk]
      simp only [List.map_append, List.map_cons, List.mem_append, List.mem_cons]
      constructor
      · rintro (h | h | h)
        · exact .inl h
        · exact absurd h hkj
        · exact .inr h
      · rintro (h | h)
        · exact .inl h
        · exact .inr (.inr h)
  topo := by
    have htp := v.topo
    simp only [List.map_append, List.map_cons] at htp ⊢
    refine htp.drop.mono fun k hk => ?_
    rcases hk with hk | rfl
    · exact getD_set_true hk
    · have hjl : k < listed.size := by omega
      simp [hjl]

theorem closed_step {listed : Array Bool} {j : Nat} (hcl : Closed ops (fun k => listed.getD k false = true)) (hah : ∀ k ∈ aheadOf ops j, listed.getD k false = true) :
    Closed ops (fun k => (listed.setIfInBounds j true).getD k false = true) := by
  intro k hk m hm
  by_cases hkj : k = j
  · subst hkj; exact getD_set_true (hah m hm)
  · rw [getD_set_ne false (fun e => hkj e.symm)] at hk
    exact getD_set_true (hcl k hk m hm)

theorem Inv.first {τ : Env} {p : Nat × SOper} {l : List (Nat × SOper)} {listed : Array Bool} (v : Inv P ops nt τ (p :: l) listed) : p.1 ∈ Region.ready .any ops listed := by
  obtain ⟨o, s0, ho, _⟩ := v.good p (by simp)
  have hlt := (Array.getElem?_eq_some_iff.1 ho).1
  refine mem_ready.2 ⟨(v.mem p.1 hlt).2 (by simp), o, ho, fun e he hbd => ?_⟩
  refine v.topo.1 e.on ?_
  simp only [aheadOf, ho, List.mem_map, List.mem_filter]
  exact ⟨e, ⟨by simpa using he, hbd⟩, rfl⟩

/-- What is not done is not listed. -/
theorem Inv.undone {τ : Env} {l : List (Nat × SOper)} {listed : Array Bool} (v : Inv P ops nt τ l listed) (hsz : listed.size = ops.size) {q : Nat × SOper} (hq : q ∈ l) (h : listed.getD q.1 false = true) : False := by
  obtain ⟨oq, _, hoq, _⟩ := v.good q hq
  have hqlt := (Array.getElem?_eq_some_iff.1 hoq).1
  have hq2 := (v.mem q.1 hqlt).2 (List.mem_map.2 ⟨q, hq, rfl⟩)
  rw [Array.getD_eq_getD_getElem?] at h hq2
  have hs' : q.1 < listed.size := by omega
  simp [hs'] at h hq2
  simp [h] at hq2

def Waits (ops : Array Oper) (a y : Nat) : Prop := ∀ L : Nat → Prop, Closed ops L → (∀ k ∈ aheadOf ops y, L k) → L a

/-- The same, but that b may come ahead of a. -/
def AfterX (ops : Array Oper) (a b : Nat) (x y : Nat × SOper) : Prop := After ops x y ∨ (x.1 = a ∧ (y.1 = b ∨ Waits ops b y.1))

theorem sops_append {K : Env → Heap → Prop} : ∀ (l m : List SOper) (σ : Env) (h : Heap), sops P Qp (fun σ1 h1 => sops P Qp K m σ1 h1) l σ h → sops P Qp K (l ++ m) σ h
  | [], _, _, _, hs => hs
  | _ :: l, m, _, _, hs => sopr_mono hs fun σ1 h1 h2 => sops_append l m σ1 h1 h2

theorem sops_mono {K K' : Env → Heap → Prop} (hk : ∀ σ h, K σ h → K' σ h) : ∀ (l : List SOper) (σ : Env) (h : Heap), sops P Qp K l σ h → sops P Qp K' l σ h
  | [], σ, h, hs => hk σ h hs
  | _ :: l, _, _, hs => sopr_mono hs fun σ1 h1 h2 => sops_mono hk l σ1 h1 h2

/-- One more operation of ours, moved ahead of those that may wait. -/
theorem move {τ : Env} {K : Env → Heap → Prop} {pre post : List (Nat × SOper)} {j a b : Nat} {s : SOper} {listed : Array Bool} (v : Inv P ops nt τ (pre ++ (j, s) :: post) listed) (hsz : listed.size = ops.size)
    (hcl : Closed ops (fun k => listed.getD k false = true)) (hah : ∀ k ∈ aheadOf ops j, listed.getD k false = true) (hpw : (pre ++ (j, s) :: post).Pairwise (AfterX ops a b)) (hab : a ∉ pre.map (·.1))
    {σ : Env} {h : Heap} (hs : sops P Qp K ((pre ++ (j, s) :: post).map (·.2)) σ h) : sopr P σ h s (sops P Qp K ((pre ++ post).map (·.2))) Qp := by
  have hloose : ∀ x ∈ pre.map (·.2), loose x s = true := by
    intro x hx
    obtain ⟨q, hq, rfl⟩ := List.mem_map.1 hx
    have hp2 := (List.pairwise_append.1 hpw).2.2 q hq (j, s) (by simp)
    rcases hp2 with (hwait | hl) | ⟨h1, _⟩
    · exact (v.undone hsz (q := q) (by simp [hq]) (hwait _ hcl hah)).elim
    · exact hl
    · exact absurd (by rw [← h1]; exact List.mem_map.2 ⟨q, hq, rfl⟩) hab
  simp only [List.map_append, List.map_cons] at hs ⊢
  have := sops_front s (post.map (·.2)) (pre.map (·.2)) σ h hloose hs
  simpa only [sops] using this

theorem two_sound {K : Env → Heap → Prop} {τ : Env} {ro : Option Nat} {n : Nat} {Q : Exit → Act → World → Prop} {w0 : World} {a b : Nat} {sa sb : SOper} (hab : a ≠ b)
    (hN : ∀ σ' a' w', Rel σ' nt ds a' → SameB w0 w' → K σ' w'.heap → Q .normal a' w') (hQ : ∀ ch a' w', Rel τ nt ds a' → SameB w0 w' → Qp ch w'.heap → Q (.panic ch) a' w') {r1 r2 : List (Nat × SOper)}
    (hlate : ∀ p ∈ r1, p.1 = b ∨ Waits ops a p.1 ∨ Waits ops b p.1) :
    ∀ (fuel : Nat) (pre : List (Nat × SOper)) (listed : Array Bool) (σ : Env) (ac : Act) (w : World), (pre ++ (a, sa) :: r1).length = fuel → (pre ++ (b, sb) :: r2).length = fuel →
      Inv P ops nt τ (pre ++ (a, sa) :: r1) listed → Inv P ops nt τ (pre ++ (b, sb) :: r2) listed → listed.size = ops.size → Closed ops (fun k => listed.getD k false = true) →
      (pre ++ (a, sa) :: r1).Pairwise (AfterX ops a b) → (pre ++ (b, sb) :: r2).Pairwise (AfterX ops b a) → Rel σ nt ds ac → Rel τ nt ds ac → SameB w0 w →
      sops P Qp (fun σ1 h1 => sops P Qp K (sa :: r1.map (·.2)) σ1 h1 ∧ sops P Qp K (sb :: r2.map (·.2)) σ1 h1) (pre.map (·.2)) σ w.heap →
      wpAnyIn (FW ro) n P .any ops Q fuel listed ac w := by
  intro fuel
  induction fuel with
  | zero => intro pre listed σ ac w hlen; simp at hlen
  | succ fuel ih =>
    intro pre listed σ ac w hlen1 hlen2 v1 v2 hsz hcl hpw1 hpw2 hr hτ hb hs
    refine ⟨fun hnil => ?_, fun i hi => ?_⟩
    · exfalso
      cases pre with
      | nil => have := Inv.first v1; rw [hnil] at this; simp at this
      | cons p pre => have := Inv.first (l := pre ++ (a, sa) :: r1) v1; rw [hnil] at this; simp at this
    · obtain ⟨hi1, o, hio, hi2⟩ := mem_ready.1 hi
      have hlt := (Array.getElem?_eq_some_iff.1 hio).1
      have hah : ∀ k ∈ aheadOf ops i, listed.getD k false = true := by
        intro k hk
        simp only [aheadOf, hio, List.mem_map, List.mem_filter] at hk
        obtain ⟨e, ⟨he, hbd⟩, rfl⟩ := hk
        exact hi2 e (by simpa using he) hbd
      have one : ∀ {c d : Nat} {sc : SOper} {r : List (Nat × SOper)}, c ≠ d → (pre ++ (c, sc) :: r).length = fuel + 1 → Inv P ops nt τ (pre ++ (c, sc) :: r) listed → (pre ++ (c, sc) :: r).Pairwise (AfterX ops c d) →
          sops P Qp (fun σ1 h1 => sops P Qp K (sc :: r.map (·.2)) σ1 h1) (pre.map (·.2)) σ w.heap → i = c → wpOpIn (FW ro) n P ops Q i (wpAnyIn (FW ro) n P .any ops Q fuel (listed.setIfInBounds i true)) ac w := by
        rintro c d sc r _ hlen v hpw hs rfl
        have hin : i ∉ pre.map (·.1) := by
          have hnd := v.nd
          simp only [List.map_append, List.map_cons] at hnd
          exact fun hm => (List.nodup_append.1 hnd).2.2 i hm i (by simp) rfl
        have hs1 := sops_append (pre.map (·.2)) (sc :: r.map (·.2)) σ w.heap hs
        have hs2 := move (K := K) v hsz hcl hah hpw hin (by simpa using hs1)
        refine opr_sound (v.good (i, sc) (by simp)) hr hτ (v.dst (i, sc) (by simp)) hs2 (fun σ' a' w' hr' hτ' hb' hk => ?_) (fun ch w' hb' hk => hQ ch ac w' hτ (hb.trans hb') hk)
        have v' := v.step hsz hlt
        refine any_sound hN hQ fuel (pre ++ r) (listed.setIfInBounds i true) σ' a' w' (by simp at hlen ⊢; omega) v'.good v'.dst v'.nd v'.mem (by simp [hsz]) (closed_step hcl hah) v'.topo ?_ hr' hτ' (hb.trans hb') hk
        refine List.Pairwise.imp_of_mem ?_ (hpw.sublist (List.Sublist.append_left (List.sublist_cons_self _ _) _))
        rintro x y hx _ (h | ⟨h1, _⟩)
        · exact h
        · exfalso
          have hnd := v.nd
          simp only [List.map_append, List.map_cons] at hnd
          have hnd' := List.nodup_append.1 hnd
          rcases List.mem_append.1 hx with hx | hx
          · exact hnd'.2.2 x.1 (List.mem_map.2 ⟨x, hx, rfl⟩) i (by simp) h1
          · exact (List.nodup_cons.1 hnd'.2.1).1 (by rw [← h1]; exact List.mem_map.2 ⟨x, hx, rfl⟩)
      by_cases hia : i = a
      · exact one hab hlen1 v1 hpw1 (sops_mono (fun σ1 h1 h => h.1) _ _ _ hs) hia
      by_cases hib : i = b
      · exact one (Ne.symm hab) hlen2 v2 hpw2 (sops_mono (fun σ1 h1 h => h.2) _ _ _ hs) hib
      have hmem := (v1.mem i hlt).1 hi1
      simp only [List.map_append, List.map_cons, List.mem_append, List.mem_cons] at hmem
      rcases hmem with hmem | rfl | hmem
      · obtain ⟨p, hp, hpi⟩ := List.mem_map.1 hmem
        obtain ⟨p1, p2, rfl⟩ := List.append_of_mem hp
        obtain ⟨j, s⟩ := p
        simp only at hpi
        subst hpi
        have e1 : (p1 ++ (j, s) :: p2) ++ (a, sa) :: r1 = p1 ++ (j, s) :: (p2 ++ (a, sa) :: r1) := by simp
        have e2 : (p1 ++ (j, s) :: p2) ++ (b, sb) :: r2 = p1 ++ (j, s) :: (p2 ++ (b, sb) :: r2) := by simp
        rw [e1] at hlen1 v1 hpw1
        rw [e2] at hlen2 v2 hpw2
        have hloose : ∀ x ∈ p1.map (·.2), loose x s = true := by
          intro x hx
          obtain ⟨q, hq, rfl⟩ := List.mem_map.1 hx
          have hp2 := (List.pairwise_append.1 hpw1).2.2 q hq (j, s) (by simp)
          rcases hp2 with (hwait | hl) | ⟨h1, h2⟩
          · exact (v1.undone hsz (q := q) (by simp [hq]) (hwait _ hcl hah)).elim
          · exact hl
          · rcases h2 with h2 | h2
            · exact absurd h2 hib
            · exact (v2.undone hsz (q := (b, sb)) (by simp) (h2 _ hcl hah)).elim
        simp only [List.map_append, List.map_cons] at hs
        have hs2 := sops_front s (p2.map (·.2)) (p1.map (·.2)) σ w.heap hloose hs
        simp only [sops] at hs2
        refine opr_sound (v1.good (j, s) (by simp)) hr hτ (v1.dst (j, s) (by simp)) hs2 (fun σ' a' w' hr' hτ' hb' hk => ?_) (fun ch w' hb' hk => hQ ch ac w' hτ (hb.trans hb') hk)
        have f1 : p1 ++ (p2 ++ (a, sa) :: r1) = (p1 ++ p2) ++ (a, sa) :: r1 := by simp
        have f2 : p1 ++ (p2 ++ (b, sb) :: r2) = (p1 ++ p2) ++ (b, sb) :: r2 := by simp
        have u1 := v1.step hsz hlt
        have u2 := v2.step hsz hlt
        rw [f1] at u1
        rw [f2] at u2
        refine ih (p1 ++ p2) (listed.setIfInBounds j true) σ' a' w' (by simp at hlen1 ⊢; omega) (by simp at hlen2 ⊢; omega) u1 u2 (by simp [hsz]) (closed_step hcl hah) ?_ ?_ hr' hτ' (hb.trans hb') (by rw [List.map_append]; exact hk)
        · rw [← f1]; exact hpw1.sublist (List.Sublist.append_left (List.sublist_cons_self _ _) _)
        · rw [← f2]; exact hpw2.sublist (List.Sublist.append_left (List.sublist_cons_self _ _) _)
      · exact absurd rfl hia
      · exfalso
        obtain ⟨p, hp, hpi⟩ := List.mem_map.1 hmem
        rcases hlate p hp with h | h | h
        · exact hib (by rw [← hpi]; exact h)
        · exact v1.undone hsz (q := (a, sa)) (by simp) (h _ hcl (by rw [hpi]; exact hah))
        · exact v2.undone hsz (q := (b, sb)) (by simp) (h _ hcl (by rw [hpi]; exact hah))

end Go.Sx
