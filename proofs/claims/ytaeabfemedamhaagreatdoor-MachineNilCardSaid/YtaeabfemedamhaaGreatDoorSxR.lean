/-
  A walk that knows less serves where more is known: the slots may be cut down on the way.
-/
import Derived.Test.YtaeabfemedamhaaGreatDoorSxQ
namespace Go.Sx
open Go

variable {P : Program} {σ σ' : Env} {h : Heap}

theorem Sub.upd (hs : Sub σ σ') (d : Option Nat) (v : Value) : Sub (Sx.upd σ d v) (Sx.upd σ' d v) := by
  intro t u ht
  by_cases hd : d = some t
  · subst hd; rw [upd_same] at ht ⊢; exact ht
  · rw [upd_ne hd] at ht ⊢; exact hs t u ht

theorem Sub.ev (hs : Sub σ σ') {x : Operand} {v : Value} (hx : Sx.ev σ x = some v) : Sx.ev σ' x = some v := by
  cases x with
  | tmp t => exact hs t v hx
  | _ => exact hx

theorem Sub.evsL (hs : Sub σ σ') : ∀ (xs : List Operand) (vs : List Value), evs σ xs = some vs → evs σ' xs = some vs
  | [], vs, h => h
  | x :: xs, vs, h => by
    simp only [evs] at h ⊢
    split at h
    · rename_i v us hv hus
      rw [hs.ev hv, hs.evsL xs us hus]
      exact h
    · simp at h
theorem Sub.hide (hs : Sub σ σ') (l : List SOper) : Sub (Sx.hide l σ) (Sx.hide l σ') := by
  intro t u ht
  unfold Sx.hide at ht ⊢
  cases hn : hasN t (dstsOf l) <;> simp [hn] at ht ⊢
  exact hs t u ht

theorem Sub.hideN (hs : Sub σ σ') (l : List Nat) : Sub (Sx.hideN l σ) (Sx.hideN l σ') := by
  intro t u ht
  unfold Sx.hideN at ht ⊢
  cases hn : hasN t l <;> simp [hn] at ht ⊢
  exact hs t u ht

theorem evs_known : ∀ (xs : List Operand) (vs : List Value), evs σ xs = some vs → ∀ x ∈ xs, ∃ v, ev σ x = some v
  | [], _, _, x, hx => by simp at hx
  | y :: xs, vs, h, x, hx => by
    simp only [evs] at h
    split at h
    · rename_i v us hv hus
      rcases List.mem_cons.1 hx with rfl | hx
      · exact ⟨v, hv⟩
      · exact evs_known xs us hus x hx
    · simp at h

theorem bndOf_known {x : Option Operand} {d : Nat} {n : Int} (hb : bndOf σ x d = some n) : ∀ y ∈ opt x, ∃ v, ev σ y = some v := by
  intro y hy
  cases x with
  | none => simp [opt] at hy
  | some z =>
    simp [opt] at hy; subst hy
    simp only [bndOf] at hb
    split at hb
    · rename_i k m hv; exact ⟨_, hv⟩
    · simp at hb

theorem sop_known {K : Value → Heap → Prop} {Qp : List PanicEntry → Heap → Prop} (s : SOp) (hs : sop P σ h K Qp s) : ∀ x ∈ s.reads, ∃ v, ev σ x = some v := by
  intro x hx
  cases s
  case build z ps xs => simp only [sop] at hs; split at hs; rename_i vs hv; exact evs_known _ _ hv x hx; exact hs.elim
  case bslice z n ps xs => simp only [sop] at hs; split at hs; rename_i vs hv; exact evs_known _ _ hv x hx; exact hs.elim
  case call f xs => simp only [sop] at hs; split at hs; rename_i vs hv; exact evs_known _ _ hv x hx; exact hs.elim
  case callq f xs => simp only [sop] at hs; split at hs; rename_i vs hv; exact evs_known _ _ hv x hx; exact hs.elim
  case callx f xs => simp only [sop] at hs; split at hs; rename_i vs hv; exact evs_known _ _ hv x hx; exact hs.elim
  case callv y xs =>
    simp only [sop] at hs
    split at hs
    · rename_i hy hv
      rcases List.mem_cons.1 hx with rfl | hx
      · exact ⟨_, hy⟩
      · exact evs_known _ _ hv x hx
    · rename_i hy hv
      rcases List.mem_cons.1 hx with rfl | hx
      · exact ⟨_, hy⟩
      · exact evs_known _ _ hv x hx
    · exact hs.elim
  case callvq y xs =>
    simp only [sop] at hs
    split at hs
    · rename_i hy hv
      rcases List.mem_cons.1 hx with rfl | hx
      · exact ⟨_, hy⟩
      · exact evs_known _ _ hv x hx
    · exact hs.elim
  case fn f a c =>
    simp only [sop] at hs
    split at hs
    · rename_i ha hc
      rcases List.mem_append.1 hx with hx | hx
      · exact evs_known _ _ ha x hx
      · exact evs_known _ _ hc x hx
    · exact hs.elim
  case slc n y lo hi =>
    simp only [sop] at hs
    split at hs
    · rename_i hy
      split at hs
      · rename_i hl hm
        simp only [SOp.reads, List.mem_cons, List.mem_append] at hx
        rcases hx with rfl | hx | hx
        · exact ⟨_, hy⟩
        · exact bndOf_known hl x hx
        · exact bndOf_known hm x hx
      · exact hs.elim
    · exact hs.elim
  case slc3 n y lo hi mx =>
    simp only [sop] at hs
    split at hs
    · rename_i hy
      split at hs
      · rename_i hl hm hk
        simp only [SOp.reads, List.mem_cons, List.mem_append, List.not_mem_nil, or_false] at hx
        rcases hx with rfl | hx | rfl | rfl
        · exact ⟨_, hy⟩
        · exact bndOf_known hl x hx
        · exact bndOf_known hm x (by simp [opt])
        · exact bndOf_known hk x (by simp [opt])
      · exact hs.elim
    · exact hs.elim
  case slp tn n y lo hi =>
    simp only [sop] at hs
    split at hs
    · rename_i hy
      split at hs
      · rename_i hl hm
        simp only [SOp.reads, List.mem_cons, List.mem_append] at hx
        rcases hx with rfl | hx | hx
        · exact ⟨_, hy⟩
        · exact bndOf_known hl x hx
        · exact bndOf_known hm x hx
      · exact hs.elim
    · exact hs.elim
  case sls y lo hi =>
    simp only [sop] at hs
    split at hs
    · rename_i hy
      split at hs
      · rename_i hl hm
        simp only [SOp.reads, List.mem_cons, List.mem_append] at hx
        rcases hx with rfl | hx | hx
        · exact ⟨_, hy⟩
        · exact bndOf_known hl x hx
        · exact bndOf_known hm x hx
      · exact hs.elim
    · exact hs.elim
  case new z => simp [SOp.reads] at hx
  case mkm => simp [SOp.reads] at hx
  case newT t z => simp [SOp.reads] at hx
  all_goals
    simp only [SOp.reads, List.mem_cons, List.not_mem_nil, or_false] at hx
    simp only [sop] at hs
    first
      | exact hx.elim
      | ((repeat' split at hs) <;> first | exact hs.elim | (rcases hx with rfl | rfl | rfl <;> exact ⟨_, by assumption⟩) | (rcases hx with rfl | rfl <;> exact ⟨_, by assumption⟩) | (subst hx; exact ⟨_, by assumption⟩))

theorem sop_sub {K : Value → Heap → Prop} {Qp : List PanicEntry → Heap → Prop} {s : SOp} (hss : Sub σ σ') (hs : sop P σ h K Qp s) : sop P σ' h K Qp s := by
  rw [← sop_congr s fun x hx => by
    obtain ⟨v, hv⟩ := sop_known s hs x hx
    rw [hv, hss.ev hv]]
  exact hs

def MonoE (K : Env → Heap → Prop) : Prop := ∀ σ σ' h, Sub σ σ' → K σ h → K σ' h
def Mono (Q : Post) : Prop := ∀ e σ σ' ds h, Sub σ σ' → Q e σ ds h → Q e σ' ds h

theorem sopr_sub {K K' : Env → Heap → Prop} {Qp Qp' : List PanicEntry → Heap → Prop} {s : SOper} (hss : Sub σ σ') (hq : ∀ ch h, Qp ch h → Qp' ch h) (hk : ∀ σ σ' h, Sub σ σ' → K σ h → K' σ' h) (hs : sopr P σ h s K Qp) : sopr P σ' h s K' Qp' := by
  have main : sop P σ h (fun v h' => K (upd σ s.dst v) h') Qp s.op → sop P σ' h (fun v h' => K' (upd σ' s.dst v) h') Qp' s.op := by
    intro hs
    have h1 := sop_sub (P := P) hss (sop_mono (K' := fun v h' => K' (upd σ' s.dst v) h') s.op hs fun v h' hv => hk _ _ h' (hss.upd s.dst v) hv)
    exact sop_qp s.op h1 hq
  unfold sopr at hs ⊢
  split at hs
  · exact main hs
  · rename_i g want hg
    split at hs
    · rename_i t ht
      have ht' := hss g t ht
      simp only [ht']
      split at hs
      · exact main hs
      · exact hk _ _ h (hss.upd s.dst undef) hs
    · exact hs.elim

theorem sops_sub {Qp Qp' : List PanicEntry → Heap → Prop} {K K' : Env → Heap → Prop} (hq : ∀ ch h, Qp ch h → Qp' ch h) (hk : ∀ σ σ' h, Sub σ σ' → K σ h → K' σ' h) : ∀ (l : List SOper) (σ σ' : Env) (h : Heap), Sub σ σ' → sops P Qp K l σ h → sops P Qp' K' l σ' h
  | [], σ, σ', h, hs, hh => hk σ σ' h hs hh
  | _ :: l, _, _, _, hs, hh => sopr_sub hs hq (fun σ1 σ2 h1 h12 hk1 => sops_sub hq hk l σ1 σ2 h1 h12 hk1) hh

theorem sopr_sub' {K K' : Env → Heap → Prop} {Qp : List PanicEntry → Heap → Prop} {s : SOper} (hss : Sub σ σ') (hs : sopr P σ h s K Qp) (hk : ∀ v h', K (upd σ s.dst v) h' → K' (upd σ' s.dst v) h') : sopr P σ' h s K' Qp := by
  have main : sop P σ h (fun v h' => K (upd σ s.dst v) h') Qp s.op → sop P σ' h (fun v h' => K' (upd σ' s.dst v) h') Qp s.op := fun hs =>
    sop_sub (P := P) hss (sop_mono (K' := fun v h' => K' (upd σ' s.dst v) h') s.op hs fun v h' hv => hk v h' hv)
  unfold sopr at hs ⊢
  split at hs
  · exact main hs
  · rename_i g want hg
    split at hs
    · rename_i t ht
      have ht' := hss g t ht
      simp only [ht']
      split at hs
      · exact main hs
      · exact hk undef h hs
    · exact hs.elim

theorem chk_sub {x : SOper} (_hq : cls x.op ≤ 1) (hs : Sub σ σ') (hc : chkOp P σ h x) : chkOp P σ' h x := by
  refine sopr_sub' hs hc fun u h1 hk => ?_
  obtain ⟨h2, h3⟩ := hk
  refine ⟨h2, ?_⟩
  funext t
  by_cases hd : x.dst = some t
  · have h4 := congrFun h3 t
    rw [hd, upd_same] at h4
    rw [hd, upd_same, hs t u h4.symm]
  · rw [upd_ne hd]

theorem stree_sub {Qp Qp' : List PanicEntry → Heap → Prop} {K K' : Env → Heap → Prop} (hq : ∀ ch h, Qp ch h → Qp' ch h) (hk : ∀ σ σ' h, Sub σ σ' → K σ h → K' σ' h) : ∀ (t : OTree) (σ σ' : Env) (h : Heap), Sub σ σ' → stree P Qp K t σ h → stree P Qp' K' t σ' h
  | .done, σ, σ', h, hs, hh => hk σ σ' h hs hh
  | .one _ t, _, _, _, hs, hh => sopr_sub hs hq (fun σ1 σ2 h1 h12 hk1 => stree_sub hq hk t σ1 σ2 h1 h12 hk1) hh
  | .both a b, _, _, _, hs, hh => ⟨stree_sub hq hk a _ _ _ hs hh.1, stree_sub hq hk b _ _ _ hs hh.2⟩
  | .chk _l t, σ, σ', h, hs, hh => ⟨fun x hx => ⟨(hh.1 x hx).1, chk_sub (hh.1 x hx).1 hs (hh.1 x hx).2⟩, stree_sub hq hk t σ σ' h hs hh.2⟩

theorem SubL.sub : ∀ {l : List (Nat × Value)}, Sub σ σ' → SubL σ l → SubL σ' l
  | [], _, _ => trivial
  | (n, v) :: _, hs, ⟨h1, h2⟩ => ⟨hs n v h1, SubL.sub hs h2⟩

theorem Sub.updL : ∀ (ps : List Nat) (vs : List Value) {σ σ' : Env}, Sub σ σ' → Sub (Sx.updL σ ps vs) (Sx.updL σ' ps vs)
  | [], vs, σ, σ', hs => by
    cases vs <;> exact hs
  | p :: ps, [], σ, σ', hs => hs
  | p :: ps, v :: vs, σ, σ', hs => Sub.updL ps vs (hs.upd (some p) v)

theorem mono_thenQ {next : Env → List Deferred → Heap → Prop} {Q : Post} (hn : ∀ σ σ' ds h, Sub σ σ' → next σ ds h → next σ' ds h) (hq : Mono Q) : Mono (thenQ next Q) := by
  intro e σ σ' ds h hs hh
  cases e <;> first | exact hn σ σ' ds h hs hh | exact hq _ σ σ' ds h hs hh

theorem mono_jumpQ {l : Nat} {next : Env → List Deferred → Heap → Prop} {Q : Post} (hn : ∀ σ σ' ds h, Sub σ σ' → next σ ds h → next σ' ds h) (hq : Mono Q) : Mono (jumpQ l next Q) := by
  intro e σ σ' ds h hs hh
  cases e <;> first | exact ⟨hh.1, hn σ σ' ds h hs hh.2⟩ | exact hq _ σ σ' ds h hs hh

theorem mono_blockQ {id : Nat} {Q : Post} (hq : Mono Q) : Mono (blockQ id Q) := by
  intro e σ σ' ds h hs hh
  cases e with
  | exit id' =>
    simp only [blockQ] at hh ⊢
    split
    · rename_i he; rw [if_pos he] at hh; exact hq _ σ σ' ds h hs hh
    · rename_i he; rw [if_neg he] at hh; exact hq _ σ σ' ds h hs hh
  | _ => exact hq _ σ σ' ds h hs hh

theorem mono_scopeQ {Q : Post} (hq : Mono Q) : Mono (scopeQ Q) := by
  intro e σ σ' ds h hs hh
  cases e <;> first | exact hh.elim | exact hq _ σ σ' ds h hs hh

theorem mono_roundQ {l : Nat} {r : Loop} {R : Ending → Heap → Prop} : Mono (roundQ l r R) := by
  intro e σ σ' ds h hs hh
  cases e <;> exact hh

theorem mono_False : Mono fun _ _ _ _ => False := fun _ _ _ _ _ _ h => h

theorem mono_loop {ι : Type} {ds : List Deferred} {E : ι → List (Nat × Value)} {I : ι → Heap → Prop} {p : ι → Prop} : ∀ (σ σ' : Env) (ds' : List Deferred) (h : Heap), Sub σ σ' →
    (ds' = ds ∧ ∃ i', SubL σ (E i') ∧ I i' h ∧ p i') → (ds' = ds ∧ ∃ i', SubL σ' (E i') ∧ I i' h ∧ p i') :=
  fun _ _ _ _ hs ⟨h1, i, h2, h3⟩ => ⟨h1, i, h2.sub hs, h3⟩

theorem swp_sub : ∀ (c : SCode) (Q : Post) (σ σ' : Env) (ds : List Deferred) (h : Heap), Mono Q → Sub σ σ' → swp P c Q σ ds h → swp P c Q σ' ds h := by
  intro c
  induction c with
  | skip => exact fun Q σ σ' ds h hq hs hh => hq _ σ σ' ds h hs hh
  | exit id => exact fun Q σ σ' ds h hq hs hh => hq _ σ σ' ds h hs hh
  | ret => exact fun Q σ σ' ds h hq hs hh => hq _ σ σ' ds h hs hh
  | ops l =>
    intro Q σ σ' ds h hq hs hh
    exact sops_sub (fun ch h' hk => hq _ _ _ ds h' (hs.hide l) hk) (fun σ1 σ2 h1 h12 hk => hq _ σ1 σ2 ds h1 h12 hk) l σ σ' h hs hh
  | two pre l1 l2 =>
    intro Q σ σ' ds h hq hs hh
    have hp : ∀ ch h', Q (.panic ch) (hide (pre ++ (l1 ++ l2)) σ) ds h' → Q (.panic ch) (hide (pre ++ (l1 ++ l2)) σ') ds h' := fun ch h' hk => hq _ _ _ ds h' (hs.hide _) hk
    exact sops_sub hp (fun σ1 σ2 h1 h12 hk => ⟨sops_sub hp (fun σ3 σ4 h3 h34 hk => hq _ σ3 σ4 ds h3 h34 hk) l1 σ1 σ2 h1 h12 hk.1, sops_sub hp (fun σ3 σ4 h3 h34 hk => hq _ σ3 σ4 ds h3 h34 hk) l2 σ1 σ2 h1 h12 hk.2⟩) pre σ σ' h hs hh
  | seq a b iha ihb =>
    intro Q σ σ' ds h hq hs hh
    exact iha _ σ σ' ds h (mono_thenQ (fun σ1 σ2 ds1 h1 h12 hk => ihb Q σ1 σ2 ds1 h1 hq h12 hk) hq) hs hh
  | cond c a b iha ihb =>
    intro Q σ σ' ds h hq hs hh
    simp only [swp] at hh ⊢
    split at hh
    · rename_i he; rw [hs.ev he]; exact iha Q σ σ' ds h hq hs hh
    · rename_i he; rw [hs.ev he]; exact ihb Q σ σ' ds h hq hs hh
    · exact hh.elim
  | block id c ih => exact fun Q σ σ' ds h hq hs hh => ih _ σ σ' ds h (mono_blockQ hq) hs hh
  | scope c ih => exact fun Q σ σ' ds h hq hs hh => ih _ σ σ' ds h (mono_scopeQ hq) hs hh
  | loop c ih =>
    intro Q σ σ' ds h hq hs hh
    obtain ⟨ι, E, I, μ, i, h1, h2, h3⟩ := hh
    exact ⟨ι, E, I, μ, i, h1.sub hs, h2, h3⟩
  | rcv d => exact fun Q σ σ' ds h hq hs hh => hh.elim
  | label l => exact fun Q σ σ' ds h hq hs hh => hq _ σ σ' ds h hs hh
  | goto l => exact fun Q σ σ' ds h hq hs hh => hq _ σ σ' ds h hs hh
  | scopeG c l r ihc ihr => exact fun Q σ σ' ds h hq hs hh => ihc _ σ σ' ds h (mono_jumpQ (fun σ1 σ2 ds1 h1 h12 hk => ihr _ σ1 σ2 ds1 h1 (mono_scopeQ hq) h12 hk) hq) hs hh
  | tree l t =>
    intro Q σ σ' ds h hq hs hh
    exact stree_sub (fun ch h' hk => hq _ _ _ ds h' (hs.hideN l) hk) (fun σ1 σ2 h1 h12 hk => hq _ σ1 σ2 ds h1 h12 hk) t σ σ' h hs hh
  | dfr l d x args =>
    intro Q σ σ' ds h hq hs hh
    refine sops_sub (fun ch h' hk => hq _ _ _ ds h' (hs.hide l) hk) (fun σ1 σ2 h1 h12 hk => ?_) l σ σ' h hs hh
    split at hk
    · rename_i f fi cap vs hx hv
      rw [h12.ev hx, h12.evsL _ _ hv]
      exact hq _ _ _ _ h1 (h12.upd d undef) hk
    · exact hk.elim
  | rangeF g ps a b iha ihb =>
    intro Q σ σ' ds h hq hs hh
    simp only [swp] at hh ⊢
    split at hh
    · rename_i f fi cap hg
      rw [hs.ev hg]
      intro l D r h1 e1 e2 e3 e4 e5 e6 hy
      refine (hh l D r h1 e1 e2 e3 e4 e5 e6 fun h2 args R hl hlen hsw => hy h2 args R hl hlen ?_).mono ?_
      · refine iha _ _ _ [] h2 (mono_thenQ (fun σ1 σ2 ds1 h3 h12 hk => ⟨hk.1, fun h4 ht => ihb _ σ1 σ2 ds1 h4 mono_roundQ h12 (hk.2 h4 ht)⟩) mono_False) (Sub.updL ps args hs) hsw
      · intro e h2 he
        cases e with
        | returned v =>
          obtain ⟨st, p, h3, h4, h5⟩ := he
          refine ⟨st, p, h3, h4, fun h' ht => ?_⟩
          have := h5 h' ht
          cases p with
          | none => exact hq _ σ σ' _ h' hs this
          | some c => cases c <;> first | exact hq _ σ σ' _ h' hs this | exact this.elim
        | panicked ch => exact he.elim
        | outgrown => exact he.elim
    · exact hh.elim

theorem resQ_sub : ∀ (rs : List SRes) {σ σ' : Env} {h : Heap} {K : List Value → Prop}, Sub σ σ' → resQ σ h rs K → resQ σ' h rs K
  | [], _, _, _, _, _, hh => hh
  | .t n :: rs, σ, σ', h, K, hs, hh => by
    simp only [resQ] at hh ⊢
    split at hh
    · rename_i v hv; rw [hs n v hv]; exact resQ_sub rs hs hh
    · exact hh.elim
  | .c1 n :: rs, σ, σ', h, K, hs, hh => by
    simp only [resQ] at hh ⊢
    split at hh
    · rename_i b o hv
      rw [hs n _ hv]
      obtain ⟨v, h1, h2⟩ := hh
      exact ⟨v, h1, resQ_sub rs hs h2⟩
    · exact hh.elim
  | .cn n m :: rs, σ, σ', h, K, hs, hh => by
    simp only [resQ] at hh ⊢
    split at hh
    · rename_i b o hv
      rw [hs n _ hv]
      obtain ⟨v, h0, h1, h2⟩ := hh
      exact ⟨v, h0, h1, resQ_sub rs hs h2⟩
    · exact hh.elim

theorem leaveQ_sub {rs : List SRes} {R : Ending → Heap → Prop} : ∀ (ds : List Deferred) {σ σ' : Env} (u : FrameMode) (h : Heap), Sub σ σ' → leaveQ rs R σ ds u h → leaveQ rs R σ' ds u h
  | [], _, _, .returning, _, hs, hh => resQ_sub rs hs hh
  | [], _, _, .panicking _, _, _, hh => hh
  | [], _, _, .run, _, _, hh => hh
  | d :: ds, _, _, u, h, hs, hh => by
    simp only [leaveQ] at hh ⊢
    split at hh
    · exact ⟨hh.1, fun h' hp => leaveQ_sub ds u h' hs (hh.2 h' hp)⟩
    · exact hh.elim

theorem mono_retQ {rs : List SRes} {R : Ending → Heap → Prop} : Mono (retQ rs R) := by
  intro e σ σ' ds h hs hh
  cases e <;> first | exact leaveQ_sub ds _ h hs hh | exact hh

/-- The slots cut down, before the rest of a function. -/
theorem cut_at {c : SCode} {rs : List SRes} {R : Ending → Heap → Prop} {ds : List Deferred} (E : List (Nat × Value)) (hE : SubL σ E) (hh : swp P c (retQ rs R) (mk E) ds h) : swp P c (retQ rs R) σ ds h :=
  swp_sub c _ _ _ ds h mono_retQ (sub_mk hE) hh

/-- The same within a loop, or wherever. -/
theorem cut_in {c : SCode} {Q : Post} {ds : List Deferred} (E : List (Nat × Value)) (hq : Mono Q) (hE : SubL σ E) (hh : swp P c Q (mk E) ds h) : swp P c Q σ ds h :=
  swp_sub c _ _ _ ds h hq (sub_mk hE) hh

end Go.Sx
