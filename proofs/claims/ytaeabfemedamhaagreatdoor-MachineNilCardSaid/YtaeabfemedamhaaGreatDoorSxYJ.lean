/-
  Runs of simplified code: each form of code; THE RUN IS SOUND.
-/
import Derived.Test.YtaeabfemedamhaaGreatDoorSxYI
namespace Go.Sx
open Go

/-! ### Finitely many slots -/
theorem T.bound {α : Type} : ∀ t : T α, ∃ n, ∀ k, n ≤ k → t.get k = none
  | .e => ⟨0, fun k _ => T.get_e k⟩
  | .n l v r => by
    obtain ⟨a, ha⟩ := T.bound l
    obtain ⟨b, hb⟩ := T.bound r
    refine ⟨2 * (a + b) + 3, fun k hk => ?_⟩
    rw [T.get_n]
    rw [if_neg (by omega)]
    split
    · exact ha _ (by omega)
    · exact hb _ (by omega)

section
variable {P : Program} {oq : Nat → Value} {tb : Tbl} {rc : Rec} {ρ ρ' : Rho} {F : Nat → Prop} {h0 h h' : Heap} {H H' : AH} {E E' : AE} {σ : Env} {Y : AY} {S S' : AS}

theorem RE.listed_upto (hE : RE ρ E σ) : ∀ n, ∃ L, SubL σ L ∧ ∀ t a, t < n → E.get t = some a → ∃ v, conc ρ a = some v ∧ mk L t = some v
  | 0 => ⟨[], trivial, fun t a ht => by omega⟩
  | n + 1 => by
    obtain ⟨L, h1, h2⟩ := hE.listed_upto n
    cases hn : E.get n with
    | none =>
      refine ⟨L, h1, fun t a ht hg => ?_⟩
      by_cases htn : t = n
      · subst htn; rw [hn] at hg; simp at hg
      · exact h2 t a (by omega) hg
    | some x =>
      obtain ⟨u, h3, h4⟩ := hE n x hn
      refine ⟨(n, u) :: L, ⟨h4, h1⟩, fun t a ht hg => ?_⟩
      by_cases htn : t = n
      · subst htn; rw [hn] at hg; simp at hg; subst hg
        exact ⟨u, h3, by simp [mk, Sx.upd]⟩
      · obtain ⟨v, h5, h6⟩ := h2 t a (by omega) hg
        refine ⟨v, h5, ?_⟩
        rw [← h6]
        exact upd_ne (by intro e; exact htn (by simpa using e.symm))

theorem RE.listed (hE : RE ρ E σ) : ∃ L, SubL σ L ∧ RE ρ E (mk L) := by
  obtain ⟨n, hn⟩ := T.bound E
  obtain ⟨L, h1, h2⟩ := hE.listed_upto n
  refine ⟨L, h1, fun t a hg => ?_⟩
  by_cases ht : t < n
  · exact h2 t a ht hg
  · rw [hn t (by omega)] at hg; simp at hg

/-! ### Loops -/
inductive Rounds (rc : Rec) (Y : AY) (c : SCode) (D : List AD) (o : AOut) : Nat → AE → AS → Prop
  | out {E : AE} {S : AS} : rc Y c E D S = some o → o.1 ≠ .nrm → Rounds rc Y c D o 0 E S
  | more {n : Nat} {E E' : AE} {S S' : AS} : rc Y c E D S = some (.nrm, E', D, S') → Rounds rc Y c D o n E' S' → Rounds rc Y c D o (n + 1) E S

theorem aloop_spec {c : SCode} {D : List AD} : ∀ (k : Nat) (E : AE) (S : AS),
    (∀ o, aloop rc Y c D k E S = .out o → ∃ n, Rounds rc Y c D o n E S) ∧ (∀ E' S', aloop rc Y c D k E S = .more E' S' → ∀ o n, Rounds rc Y c D o n E' S' → ∃ m, Rounds rc Y c D o m E S)
  | 0, E, S => by
    constructor
    · intro o ho
      simp only [aloop] at ho
      split at ho
      · simp only [cond_eq_ite] at ho; split at ho <;> simp at ho
      · rename_i o' hne hrc
        simp at ho; subst ho
        refine ⟨0, .out hrc fun e => ?_⟩
        obtain ⟨x, E1, D1, S1⟩ := o'
        simp only at e; subst e
        exact hne E1 D1 S1 rfl
      · simp at ho
    · intro E' S' ho o n hr
      simp only [aloop] at ho
      split at ho
      · rename_i E1 D1 S1 hrc
        simp only [cond_eq_ite] at ho
        split at ho
        · rename_i hD
          simp at ho; obtain ⟨rfl, rfl⟩ := ho
          rw [aeqD_eq _ _ hD] at hrc
          exact ⟨n + 1, .more hrc hr⟩
        · simp at ho
      · simp at ho
      · simp at ho
  | k + 1, E, S => by
    obtain ⟨h1, h2⟩ := aloop_spec (c := c) (D := D) k E S
    cases hk : aloop rc Y c D k E S with
    | more E1 S1 =>
      obtain ⟨h3, h4⟩ := aloop_spec (c := c) (D := D) k E1 S1
      constructor
      · intro o ho
        simp only [aloop, hk] at ho
        obtain ⟨n, hn⟩ := h3 o ho
        exact h2 E1 S1 hk o n hn
      · intro E' S' ho o n hr
        simp only [aloop, hk] at ho
        obtain ⟨m, hm⟩ := h4 E' S' ho o n hr
        exact h2 E1 S1 hk o m hm
    | out o' =>
      constructor
      · intro o ho
        simp only [aloop, hk] at ho
        simp at ho; subst ho
        exact h1 o' hk
      · intro E' S' ho
        simp only [aloop, hk] at ho
        simp at ho
    | fail =>
      constructor
      · intro o ho
        simp only [aloop, hk] at ho
        simp at ho
      · intro E' S' ho
        simp only [aloop, hk] at ho
        simp at ho

theorem loop_sound (hX : XOK P oq F h0 rc) {c : SCode} {D D' : List AD} {x : AX} {n : Nat} {ds : List Deferred} {Q : Post} (hr : Rounds rc Y c D (x, E', D', S') n E S) (hR : Rep F h0 ρ S.H h) (hE : RE ρ E σ) (hD : RD ρ D ds) (hY : RY P oq ρ Y)
    (hK : ∀ ρ' h' σ' ds' xx, Le ρ ρ' → Rep F h0 ρ' S'.H h' → RE ρ' E' σ' → RD ρ' D' ds' → RX ρ' x xx → Q xx σ' ds' h') : swp P (.loop c) Q σ ds h := by
  simp only [swp]
  obtain ⟨L, hL, hEL⟩ := hE.listed
  refine ⟨Nat × AE × AS × List (Nat × Value), fun i => i.2.2.2, fun i h => ∃ ρ', Le ρ ρ' ∧ Rounds rc Y c D (x, E', D', S') i.1 i.2.1 i.2.2.1 ∧ RE ρ' i.2.1 (mk i.2.2.2) ∧ Rep F h0 ρ' i.2.2.1.H h, fun i => i.1, (n, E, S, L), hL, ⟨ρ, Le.refl ρ, hr, hEL, hR⟩, ?_⟩
  rintro ⟨m, E1, S1, L1⟩ h1 ⟨ρ1, hl1, hr1, hE1, hR1⟩
  simp only at hr1 hE1 hR1 ⊢
  cases hr1 with
  | out hrc hne =>
    refine hX hrc hR1 hE1 (hD.mono hl1) (hY.mono hl1) ?_
    intro ρ2 h2 σ2 ds2 xx hl2 hR2 hE2 hD2 hX2
    have := hK ρ2 h2 σ2 ds2 xx (hl1.trans hl2) hR2 hE2 hD2 hX2
    cases x with
    | nrm => exact absurd rfl hne
    | ex id => cases hX2; exact this
    | ret => cases hX2; exact this
    | gt l => cases hX2; exact this
    | pan ch => obtain ⟨ps, rfl, _⟩ := hX2; exact this
  | more hrc hr2 =>
    rename_i n' E2 S2
    refine hX hrc hR1 hE1 (hD.mono hl1) (hY.mono hl1) ?_
    intro ρ2 h2 σ2 ds2 xx hl2 hR2 hE2 hD2 hX2
    cases hX2
    obtain ⟨L2, hL2, hEL2⟩ := hE2.listed
    exact ⟨RD.one hD2 (hD.mono (hl1.trans hl2)), (n', E2, S2, L2), hL2, ⟨ρ2, hl1.trans hl2, hr2, hEL2, hR2⟩, Nat.lt_succ_self _⟩

/-! ### Ranges over functions -/
theorem range_sound (hX : XOK P oq F h0 rc) (hT : TOK P oq F h0 tb) {g : Operand} {ps : List Nat} {a b : SCode} {f : Nat} {fi cap : List AV} {D : List AD} {v : AV} {H1 H2 : AH} {S3 S4 : AS} {st : LoopState} {p : APend} {ds : List Deferred} {Q : Post}
    (hg : aev S.H E g = some (.f f fi cap)) (h1 : grow S.H S.N (.dfd true) = some H1) (h2 : grow H1 (S.N + 1) (.loop .ready none) = some H2)
    (h3 : acall tb rc ((S.N + 1, E, ps, a, b) :: Y) f (joined fi (joined [.y (S.N + 1)] cap)) ⟨H2, S.N + 2⟩ = some (.ret v, S3)) (h4 : S3.H.get (S.N + 1) = some (.loop st p)) (h5 : st ≠ .busy) (h6 : setL S3 (S.N + 1) .exhausted p = some S4)
    (hR : Rep F h0 ρ S.H h) (hE : RE ρ E σ) (hD : RD ρ D ds) (hY : RY P oq ρ Y)
    (hK : ∀ ρ' h' σ' ds' xx, Le ρ ρ' → Rep F h0 ρ' S4.H h' → RE ρ' E σ' → RD ρ' (.mk S.N :: D) ds' → RX ρ' (match p with | none => .nrm | some none => .ret | some (some id) => .ex id) xx → Q xx σ' ds' h') : swp P (.rangeF g ps a b) Q σ ds h := by
  obtain ⟨fv, hc, he⟩ := aev_sound hR hE hg
  simp only [conc] at hc
  split at hc
  · rename_i xf yc hxf hyc
    simp at hc; subst hc
    simp only [swp, he]
    intro l DD r hh hDD hl hsz hold hdat hLB hyl
    obtain ⟨g1, g2, g3⟩ := grow_spec h1
    obtain ⟨g4, g5, g6⟩ := grow_spec h2
    have hlt : ∀ {a' B' r'}, S.H.get a' = some B' → B' ≠ .dead → ρ.pl a' = some r' → r'.1 < h.size := by
      intro a' B' r' k1 k2 k3
      obtain ⟨r'', k4, _, k5, _⟩ := hR.obj a' B' k1 k2
      rw [k3] at k4; simp at k4; subst k4; exact k5
    obtain ⟨ρ1, hl1, hp1, _, hR1⟩ := hR.add (b := DD) (ba := 0) (cp := 0) (h' := hh) default h1 (fun a' B' r' k1 k2 k3 => by have := hlt k1 k2 k3; omega)
      (fun hF => by have := (hR.fr _ hF).1; omega) (by omega) (by omega) (fun k _ hk => hold k hk) (fun ρ' _ _ _ => hdat)
    obtain ⟨ρ2, hl2, hp2, hlr2, hR2⟩ := hR1.add (b := l) (ba := 0) (cp := 0) (h' := hh) r h2 (fun a' B' r' k1 k2 k3 => by
        rw [g3 a'] at k1
        split at k1
        · rename_i e; subst e
          rw [hp1] at k3; simp at k3; subst k3; simp only; omega
        · obtain ⟨r'', k4, _⟩ := hR.obj a' B' k1 k2
          have := hl1.pl _ _ k4
          rw [k3] at this; simp at this; subst this
          have := hlt k1 k2 k4; omega)
      (fun hF => by have := (hR.fr _ hF).1; omega) (by omega) (Nat.le_refl _) (fun k _ _ => rfl) (fun ρ' _ _ hlr => by simp only [RB, hlr]; exact hLB)
    have hl12 := hl1.trans hl2
    have hY2 : RY P oq ρ2 ((S.N + 1, E, ps, a, b) :: Y) := by
      refine ⟨hl12.op.trans hY.1, fun k E1 ps1 a1 b1 hy => ?_⟩
      simp only [yfind, cond_eq_ite, Nat.beq_eq] at hy
      split at hy
      · rename_i hk; subst hk
        simp at hy; obtain ⟨rfl, rfl, rfl, rfl⟩ := hy
        refine ⟨_, σ, hp2, hE.mono hl12, ?_⟩
        rw [hlr2]; exact hyl
      · exact (hY.mono hl12).2 k E1 ps1 a1 b1 hy
    have hargs : concs ρ2 (joined fi (joined [.y (S.N + 1)] cap)) = some (xf ++ ([.func (.yield l) #[] #[]] ++ yc)) := by
      rw [joined_eq, joined_eq]
      refine concs_app (concs_mono hl12 _ _ hxf) (concs_app ?_ (concs_mono hl12 _ _ hyc))
      simp only [concs, conc, hp2]
    have hcall := call_sound (R := endQ l DD r Q σ ds) hX hT h3 hR2 hargs hY2 ?_
    · simpa using hcall
    · intro ρ3 h3' ee hl3 hR3 hN
      obtain ⟨u, rfl, hu⟩ := hN
      have hp3 := hl3.pl _ _ hp2
      have hlr3 := (hl3.lr _ _ hp2).trans hlr2
      obtain ⟨r', hr', _, _, hb⟩ := hR3.obj _ _ h4 (by simp)
      rw [hp3] at hr'; simp at hr'; subst hr'
      simp only [RB, hlr3] at hb
      refine ⟨st, pcode p, hb, h5, fun h' ht => ?_⟩
      have hR4 : Rep F h0 ρ3 S4.H h' := hR3.turn h4 hp3 (setL_put h6) (by rw [hlr3]; exact ht)
      have hl := hl12.trans hl3
      have hD4 : RD ρ3 (.mk S.N :: D) ({ target := .collected DD, args := #[] } :: ds) := ⟨_, ds, hl3.pl _ _ (hl2.pl _ _ hp1), rfl, hD.mono hl⟩
      cases p with
      | none => exact hK ρ3 h' σ _ _ hl hR4 (hE.mono hl) hD4 rfl
      | some p => cases p with
        | none => exact hK ρ3 h' σ _ _ hl hR4 (hE.mono hl) hD4 rfl
        | some id => exact hK ρ3 h' σ _ _ hl hR4 (hE.mono hl) hD4 rfl
  · simp at hc

/-! The run's equations. -/
section
variable {D : List AD}
theorem as_skip : astep P tb rc Y .skip E D S = some (.nrm, E, D, S) := rfl
theorem as_label {l : Nat} : astep P tb rc Y (.label l) E D S = some (.nrm, E, D, S) := rfl
theorem as_exit {id : Nat} : astep P tb rc Y (.exit id) E D S = some (.ex id, E, D, S) := rfl
theorem as_ret : astep P tb rc Y .ret E D S = some (.ret, E, D, S) := rfl
theorem as_goto {l : Nat} : astep P tb rc Y (.goto l) E D S = some (.gt l, E, D, S) := rfl
theorem as_rcv {d : Option Nat} : astep P tb rc Y (.rcv d) E D S = none := rfl
theorem as_two {p l1 l2 : List SOper} : astep P tb rc Y (.two p l1 l2) E D S = none := rfl
theorem as_ops {l : List SOper} : astep P tb rc Y (.ops l) E D S = (match aops P tb rc Y l E S with
    | some (.ok E' S') => some (.nrm, E', D, S')
    | some (.pan ch S') => match delA E (dstsOf l) with
      | some E' => some (.pan ch, E', D, S')
      | none => none
    | none => none) := rfl
theorem as_tree {l : List Nat} {t : OTree} : astep P tb rc Y (.tree l t) E D S = (match atree P tb rc Y S.N t E ⟨S.H, S.N + maxL l + 1⟩ with
    | some (.ok E' S') => some (.nrm, E', D, S')
    | some (.pan ch S') => match delA E l with
      | some E' => some (.pan ch, E', D, S')
      | none => none
    | none => none) := rfl
theorem as_seq {a b : SCode} : astep P tb rc Y (.seq a b) E D S = (match rc Y a E D S with
    | some (.nrm, E', D', S') => rc Y b E' D' S'
    | r => r) := rfl
theorem as_cond {c : Operand} {a b : SCode} : astep P tb rc Y (.cond c a b) E D S = (match aev S.H E c with
    | some (.b t) => bif t then rc Y a E D S else rc Y b E D S
    | _ => none) := rfl
theorem as_block {id : Nat} {c : SCode} : astep P tb rc Y (.block id c) E D S = (match rc Y c E D S with
    | some (.ex id', E', D', S') => bif Nat.beq id' id then some (.nrm, E', D', S') else some (.ex id', E', D', S')
    | r => r) := rfl
attribute [local irreducible] aloop in
theorem as_loop {c : SCode} : astep P tb rc Y (.loop c) E D S = (match aloop rc Y c D 17 E S with
    | .out o => some o
    | _ => none) := rfl
theorem as_scope {c : SCode} : astep P tb rc Y (.scope c) E D S = (match rc Y c E D S with
    | some (.gt _, _, _, _) => none
    | r => r) := rfl
theorem as_scopeG {c r : SCode} {l : Nat} : astep P tb rc Y (.scopeG c l r) E D S = (match rc Y c E D S with
    | some (.gt l', E', D', S') => bif Nat.beq l' l then match rc Y r E' D' S' with
        | some (.gt _, _, _, _) => none
        | r => r
      else none
    | r => r) := rfl
theorem as_dfr {l : List SOper} {d : Option Nat} {x : Operand} {args : List Operand} : astep P tb rc Y (.dfr l d x args) E D S = (match aops P tb rc Y l E S with
    | some (.ok E' S') => match aev S'.H E' x, aevs S'.H E' args with
      | some (.f f fi cap), some vs => match aupd E' d (.t []) with
        | some E2 => some (.nrm, E2, .fn f cap (joined fi vs) :: D, S')
        | none => none
      | _, _ => none
    | some (.pan ch S') => match delA E (dstsOf l) with
      | some E' => some (.pan ch, E', D, S')
      | none => none
    | none => none) := rfl
theorem as_rangeF {g : Operand} {ps : List Nat} {a b : SCode} : astep P tb rc Y (.rangeF g ps a b) E D S = (match aev S.H E g with
    | some (.f f fi cap) => match grow S.H S.N (.dfd true) with
      | some H1 => match grow H1 (S.N + 1) (.loop .ready none) with
        | some H2 => match acall tb rc ((S.N + 1, E, ps, a, b) :: Y) f (joined fi (joined [.y (S.N + 1)] cap)) ⟨H2, S.N + 2⟩ with
          | some (.ret _, S3) => match S3.H.get (S.N + 1) with
            | some (.loop st p) => bif steq st .busy then none else
              match setL S3 (S.N + 1) .exhausted p with
              | some S4 => match p with
                | none => some (.nrm, E, .mk S.N :: D, S4)
                | some none => some (.ret, E, .mk S.N :: D, S4)
                | some (some id) => some (.ex id, E, .mk S.N :: D, S4)
              | none => none
            | _ => none
          | _ => none
        | none => none
      | none => none
    | _ => none) := rfl
end

/-- EACH FORM OF CODE. -/
theorem astep_sound (hX : XOK P oq F h0 rc) (hT : TOK P oq F h0 tb) : XOK P oq F h0 (astep P tb rc) := by
  intro Y c E D S x E' D' S' ho ρ h σ ds Q hR hE hD hY hK
  cases c with
  | skip =>
    simp [as_skip] at ho; obtain ⟨rfl, rfl, rfl, rfl⟩ := ho
    exact hK ρ h σ ds _ (Le.refl ρ) hR hE hD rfl
  | label l =>
    simp [as_label] at ho; obtain ⟨rfl, rfl, rfl, rfl⟩ := ho
    exact hK ρ h σ ds _ (Le.refl ρ) hR hE hD rfl
  | exit id =>
    simp [as_exit] at ho; obtain ⟨rfl, rfl, rfl, rfl⟩ := ho
    exact hK ρ h σ ds _ (Le.refl ρ) hR hE hD rfl
  | ret =>
    simp [as_ret] at ho; obtain ⟨rfl, rfl, rfl, rfl⟩ := ho
    exact hK ρ h σ ds _ (Le.refl ρ) hR hE hD rfl
  | goto l =>
    simp [as_goto] at ho; obtain ⟨rfl, rfl, rfl, rfl⟩ := ho
    exact hK ρ h σ ds _ (Le.refl ρ) hR hE hD rfl
  | rcv d => simp [as_rcv] at ho
  | two pre l1 l2 => simp [as_two] at ho
  | ops l =>
    rw [as_ops] at ho
    simp only [swp]
    split at ho
    · rename_i E1 S1 h1
      simp at ho; obtain ⟨rfl, rfl, rfl, rfl⟩ := ho
      exact aops_sound hX hT h1 hR hE hY fun ρ' h' σ' hl hR' hE' => hK ρ' h' σ' ds _ hl hR' hE' (hD.mono hl) rfl
    · rename_i ch S1 h1
      split at ho
      · rename_i E1 h2
        simp at ho; obtain ⟨rfl, rfl, rfl, rfl⟩ := ho
        exact aops_sound hX hT h1 hR hE hY fun ρ' h' pp hl hR' hp => hK ρ' h' _ ds _ hl hR' ((hE.mono hl).delh h2) (hD.mono hl) ⟨pp, rfl, hp⟩
      · simp at ho
    · simp at ho
  | tree l t =>
    rw [as_tree] at ho
    simp only [swp]
    split at ho
    · rename_i E1 S1 h1
      simp at ho; obtain ⟨rfl, rfl, rfl, rfl⟩ := ho
      exact atree_sound hX hT h1 hR hE hY fun ρ' h' σ' hl hR' hE' => hK ρ' h' σ' ds _ hl hR' hE' (hD.mono hl) rfl
    · rename_i ch S1 h1
      split at ho
      · rename_i E1 h2
        simp at ho; obtain ⟨rfl, rfl, rfl, rfl⟩ := ho
        exact atree_sound hX hT h1 hR hE hY fun ρ' h' pp hl hR' hp => hK ρ' h' _ ds _ hl hR' ((hE.mono hl).del h2) (hD.mono hl) ⟨pp, rfl, hp⟩
      · simp at ho
    · simp at ho
  | dfr l d y args =>
    rw [as_dfr] at ho
    simp only [swp]
    split at ho
    · rename_i E1 S1 h1
      split at ho
      · rename_i f fi cap vs hx hvs
        split at ho
        · rename_i E2 h2
          simp at ho; obtain ⟨rfl, rfl, rfl, rfl⟩ := ho
          refine aops_sound hX hT h1 hR hE hY fun ρ' h' σ' hl hR' hE' => ?_
          obtain ⟨fv, h3, h4⟩ := aev_sound hR' hE' hx
          obtain ⟨us, h5, h6⟩ := aevs_sound hR' hE' hvs
          simp only [conc] at h3
          split at h3
          · rename_i xf yc hxf hyc
            simp at h3; subst h3
            simp only [h4, h6]
            exact hK ρ' h' _ _ _ hl hR' (hE'.upd (v := undef) rfl h2) ⟨yc, xf ++ us, ds, hyc, by rw [joined_eq]; exact concs_app hxf h5, rfl, hD.mono hl⟩ rfl
          · simp at h3
        · simp at ho
      · simp at ho
    · rename_i ch S1 h1
      split at ho
      · rename_i E1 h2
        simp at ho; obtain ⟨rfl, rfl, rfl, rfl⟩ := ho
        exact aops_sound hX hT h1 hR hE hY fun ρ' h' pp hl hR' hp => hK ρ' h' _ ds _ hl hR' ((hE.mono hl).delh h2) (hD.mono hl) ⟨pp, rfl, hp⟩
      · simp at ho
    · simp at ho
  | seq a b =>
    rw [as_seq] at ho
    simp only [swp]
    cases ha : rc Y a E D S with
    | none => rw [ha] at ho; simp at ho
    | some o =>
      obtain ⟨x1, E1, D1, S1⟩ := o
      rw [ha] at ho
      refine hX ha hR hE hD hY ?_
      intro ρ1 h1 σ1 ds1 xx hl1 hR1 hE1 hD1 hX1
      cases x1 with
      | nrm =>
        cases hX1
        exact hX ho hR1 hE1 hD1 (hY.mono hl1) fun ρ2 h2 σ2 ds2 xx2 hl2 => hK ρ2 h2 σ2 ds2 xx2 (hl1.trans hl2)
      | ex id => simp at ho; obtain ⟨rfl, rfl, rfl, rfl⟩ := ho; cases hX1; exact hK _ _ _ _ _ hl1 hR1 hE1 hD1 rfl
      | ret => simp at ho; obtain ⟨rfl, rfl, rfl, rfl⟩ := ho; cases hX1; exact hK _ _ _ _ _ hl1 hR1 hE1 hD1 rfl
      | gt l => simp at ho; obtain ⟨rfl, rfl, rfl, rfl⟩ := ho; cases hX1; exact hK _ _ _ _ _ hl1 hR1 hE1 hD1 rfl
      | pan ch => simp at ho; obtain ⟨rfl, rfl, rfl, rfl⟩ := ho; obtain ⟨pp, rfl, hp⟩ := hX1; exact hK _ _ _ _ _ hl1 hR1 hE1 hD1 ⟨pp, rfl, hp⟩
  | cond y a b =>
    rw [as_cond] at ho
    simp only [swp]
    split at ho
    · rename_i t ht
      rw [ev_b hR hE ht]
      cases t with
      | true => exact hX ho hR hE hD hY hK
      | false => exact hX ho hR hE hD hY hK
    · simp at ho
  | block id c =>
    rw [as_block] at ho
    simp only [swp]
    cases ha : rc Y c E D S with
    | none => rw [ha] at ho; simp at ho
    | some o =>
      obtain ⟨x1, E1, D1, S1⟩ := o
      rw [ha] at ho
      refine hX ha hR hE hD hY ?_
      intro ρ1 h1 σ1 ds1 xx hl1 hR1 hE1 hD1 hX1
      cases x1 with
      | ex id' =>
        cases hX1
        simp only [cond_eq_ite, Nat.beq_eq] at ho
        simp only [blockQ]
        split at ho
        · rename_i hi
          simp at ho; obtain ⟨rfl, rfl, rfl, rfl⟩ := ho
          rw [if_pos hi]
          exact hK _ _ _ _ _ hl1 hR1 hE1 hD1 rfl
        · rename_i hi
          simp at ho; obtain ⟨rfl, rfl, rfl, rfl⟩ := ho
          rw [if_neg hi]
          exact hK _ _ _ _ _ hl1 hR1 hE1 hD1 rfl
      | nrm => simp at ho; obtain ⟨rfl, rfl, rfl, rfl⟩ := ho; cases hX1; exact hK _ _ _ _ _ hl1 hR1 hE1 hD1 rfl
      | ret => simp at ho; obtain ⟨rfl, rfl, rfl, rfl⟩ := ho; cases hX1; exact hK _ _ _ _ _ hl1 hR1 hE1 hD1 rfl
      | gt l => simp at ho; obtain ⟨rfl, rfl, rfl, rfl⟩ := ho; cases hX1; exact hK _ _ _ _ _ hl1 hR1 hE1 hD1 rfl
      | pan ch => simp at ho; obtain ⟨rfl, rfl, rfl, rfl⟩ := ho; obtain ⟨pp, rfl, hp⟩ := hX1; exact hK _ _ _ _ _ hl1 hR1 hE1 hD1 ⟨pp, rfl, hp⟩
  | loop c =>
    rw [as_loop] at ho
    split at ho
    · rename_i o hl
      simp at ho; subst ho
      obtain ⟨n, hn⟩ := (aloop_spec 17 E S).1 _ hl
      exact loop_sound hX hn hR hE hD hY hK
    · simp at ho
  | scope c =>
    rw [as_scope] at ho
    simp only [swp]
    cases ha : rc Y c E D S with
    | none => rw [ha] at ho; simp at ho
    | some o =>
      obtain ⟨x1, E1, D1, S1⟩ := o
      rw [ha] at ho
      refine hX ha hR hE hD hY ?_
      intro ρ1 h1 σ1 ds1 xx hl1 hR1 hE1 hD1 hX1
      cases x1 with
      | gt l => simp at ho
      | nrm => simp at ho; obtain ⟨rfl, rfl, rfl, rfl⟩ := ho; cases hX1; exact hK _ _ _ _ _ hl1 hR1 hE1 hD1 rfl
      | ret => simp at ho; obtain ⟨rfl, rfl, rfl, rfl⟩ := ho; cases hX1; exact hK _ _ _ _ _ hl1 hR1 hE1 hD1 rfl
      | ex l => simp at ho; obtain ⟨rfl, rfl, rfl, rfl⟩ := ho; cases hX1; exact hK _ _ _ _ _ hl1 hR1 hE1 hD1 rfl
      | pan ch => simp at ho; obtain ⟨rfl, rfl, rfl, rfl⟩ := ho; obtain ⟨pp, rfl, hp⟩ := hX1; exact hK _ _ _ _ _ hl1 hR1 hE1 hD1 ⟨pp, rfl, hp⟩
  | scopeG c l r =>
    rw [as_scopeG] at ho
    simp only [swp]
    cases ha : rc Y c E D S with
    | none => rw [ha] at ho; simp at ho
    | some o =>
      obtain ⟨x1, E1, D1, S1⟩ := o
      rw [ha] at ho
      refine hX ha hR hE hD hY ?_
      intro ρ1 h1 σ1 ds1 xx hl1 hR1 hE1 hD1 hX1
      cases x1 with
      | gt l' =>
        cases hX1
        simp only [cond_eq_ite, Nat.beq_eq] at ho
        split at ho
        · rename_i hl'
          refine ⟨hl', ?_⟩
          cases hb : rc Y r E1 D1 S1 with
          | none => rw [hb] at ho; simp at ho
          | some o =>
            obtain ⟨x2, E2, D2, S2⟩ := o
            rw [hb] at ho
            refine hX hb hR1 hE1 hD1 (hY.mono hl1) ?_
            intro ρ2 h2 σ2 ds2 xx2 hl2 hR2 hE2 hD2 hX2
            cases x2 with
            | gt l => simp at ho
            | nrm => simp at ho; obtain ⟨rfl, rfl, rfl, rfl⟩ := ho; cases hX2; exact hK _ _ _ _ _ (hl1.trans hl2) hR2 hE2 hD2 rfl
            | ret => simp at ho; obtain ⟨rfl, rfl, rfl, rfl⟩ := ho; cases hX2; exact hK _ _ _ _ _ (hl1.trans hl2) hR2 hE2 hD2 rfl
            | ex l => simp at ho; obtain ⟨rfl, rfl, rfl, rfl⟩ := ho; cases hX2; exact hK _ _ _ _ _ (hl1.trans hl2) hR2 hE2 hD2 rfl
            | pan ch => simp at ho; obtain ⟨rfl, rfl, rfl, rfl⟩ := ho; obtain ⟨pp, rfl, hp⟩ := hX2; exact hK _ _ _ _ _ (hl1.trans hl2) hR2 hE2 hD2 ⟨pp, rfl, hp⟩
        · simp at ho
      | nrm => simp at ho; obtain ⟨rfl, rfl, rfl, rfl⟩ := ho; cases hX1; exact hK _ _ _ _ _ hl1 hR1 hE1 hD1 rfl
      | ret => simp at ho; obtain ⟨rfl, rfl, rfl, rfl⟩ := ho; cases hX1; exact hK _ _ _ _ _ hl1 hR1 hE1 hD1 rfl
      | ex l => simp at ho; obtain ⟨rfl, rfl, rfl, rfl⟩ := ho; cases hX1; exact hK _ _ _ _ _ hl1 hR1 hE1 hD1 rfl
      | pan ch => simp at ho; obtain ⟨rfl, rfl, rfl, rfl⟩ := ho; obtain ⟨pp, rfl, hp⟩ := hX1; exact hK _ _ _ _ _ hl1 hR1 hE1 hD1 ⟨pp, rfl, hp⟩
  | rangeF g ps a b =>
    rw [as_rangeF] at ho
    split at ho
    · rename_i f fi cap hg
      split at ho
      · rename_i H1 h1
        split at ho
        · rename_i H2 h2
          split at ho
          · rename_i v S3 h3
            split at ho
            · rename_i st p h4
              simp only [cond_eq_ite] at ho
              split at ho
              · simp at ho
              · rename_i hst
                have h5 : st ≠ .busy := by rintro rfl; exact hst rfl
                split at ho
                · rename_i S4 h6
                  refine range_sound (D := D) hX hT hg h1 h2 h3 h4 h5 h6 hR hE hD hY ?_
                  cases p with
                  | none => simp at ho; obtain ⟨rfl, rfl, rfl, rfl⟩ := ho; exact hK
                  | some p => cases p with
                    | none => simp at ho; obtain ⟨rfl, rfl, rfl, rfl⟩ := ho; exact hK
                    | some id => simp at ho; obtain ⟨rfl, rfl, rfl, rfl⟩ := ho; exact hK
                · simp at ho
            · simp at ho
          · simp at ho
        · simp at ho
      · simp at ho
    · simp at ho

theorem arec_sound (hT : TOK P oq F h0 tb) : ∀ n, XOK P oq F h0 (arec P tb n)
  | 0 => fun ho => by simp [arec] at ho
  | n + 1 => by
    have ih : XOK P oq F h0 (arec P tb n) := arec_sound hT n
    have : XOK P oq F h0 (astep P tb (arec P tb n)) := @astep_sound P oq tb (arec P tb n) F h0 ih hT
    exact this

def rho0 (oq : Nat → Value) (h1 : ∀ j, (oq j).oneCell' = true) : Rho := ⟨fun _ => none, oq, fun _ => default, h1⟩

theorem rep_empty {h1 : ∀ j, (oq j).oneCell' = true} (h : Heap) : Rep (fun k => k < h.size) h (rho0 oq h1) .e h where
  fr := fun k hk => ⟨hk, rfl⟩
  dom := fun a r hr => by simp [rho0] at hr
  obj := fun a B hB => by rw [T.get_e] at hB; simp at hB
  inj := fun a a' B B' r r' hB => by rw [T.get_e] at hB; simp at hB
  gl := fun g r _ hr => by simp [rho0] at hr

/-- A RUN: what is handed on unseen stands open. -/
theorem run_calls {h1 : ∀ j, (oq j).oneCell' = true} {h : Heap} (hT : TOK P oq (fun k => k < h.size) h tb) {n f : Nat} {args : List AV} {vs : List Value} {e : AEnd} {S' : AS} (ho : acall0 P tb n f args = some (e, S')) (hc : concs (rho0 oq h1) args = some vs) :
    CallsH P f vs h fun ee h' => ∃ ρ', Le (rho0 oq h1) ρ' ∧ Rep (fun k => k < h.size) h ρ' S'.H h' ∧ RN ρ' e ee :=
  call_sound (F := fun k => k < h.size) (h0 := h) (ρ := rho0 oq h1) (arec_sound hT n) hT ho (rep_empty h) hc ⟨rfl, fun l E ps a b hy => by simp [yfind] at hy⟩ fun ρ' h' ee hl hR hN => ⟨ρ', hl, hR, hN⟩

/-- .. of a piece of code. -/
theorem run_code {h1 : ∀ j, (oq j).oneCell' = true} (hT : TOK P oq (fun k => k < h.size) h tb) {n : Nat} {c : SCode} {x : AX} {D' : List AD} {Q : Post} (ho : arec P tb n [] c E [] ⟨.e, gtop⟩ = some (x, E', D', S')) (hE : RE (rho0 oq h1) E σ)
    (hK : ∀ ρ' h' σ' ds' xx, Le (rho0 oq h1) ρ' → Rep (fun k => k < h.size) h ρ' S'.H h' → RE ρ' E' σ' → RD ρ' D' ds' → RX ρ' x xx → Q xx σ' ds' h') : swp P c Q σ [] h :=
  (arec_sound hT n : XOK P oq (fun k => k < h.size) h (arec P tb n)) ho (rep_empty h) hE rfl ⟨rfl, fun l E ps a b hy => by simp [yfind] at hy⟩ hK

/-! With package variables that are read. -/
def gRho (oq : Nat → Value) (h1 : ∀ j, (oq j).oneCell' = true) (gs : List (Nat × List AV)) : Rho := ⟨fun a => if a ∈ gs.map (·.1) then some (a, 0, 0) else none, oq, fun _ => default, h1⟩
def gH : List (Nat × List AV) → AH
  | [] => .e
  | p :: r => T.set 40 (gH r) p.1 (some (.cells false 0 p.2))
theorem gH_get : ∀ {gs : List (Nat × List AV)}, (∀ p ∈ gs, p.1 < gtop) → ∀ {a : Nat}, (∀ {B : AB}, (gH gs).get a = some B → ∃ p ∈ gs, p.1 = a ∧ B = .cells false 0 p.2) ∧ (a ∈ gs.map (·.1) → (gH gs).get a ≠ none)
  | [], _, a => ⟨fun h => by simp [gH, T.get_e] at h, fun h => by simp at h⟩
  | p :: r, hg, a => by
    have hp : p.1 < 2 ^ 40 := Nat.lt_trans (hg p (by simp)) (by decide)
    obtain ⟨i1, i2⟩ := gH_get (gs := r) (fun q hq => hg q (by simp [hq])) (a := a)
    refine ⟨fun h => ?_, fun h => ?_⟩
    · simp only [gH] at h
      rw [T.get_set 40 _ _ _ _ hp] at h
      split at h
      · rename_i e
        simp at h
        exact ⟨p, by simp, e.symm, h.symm⟩
      · obtain ⟨q, h1, h2⟩ := i1 h
        exact ⟨q, by simp [h1], h2⟩
    · simp only [gH]
      rw [T.get_set 40 _ _ _ _ hp]
      split
      · simp
      · rename_i hne
        refine i2 ?_
        simp only [List.map_cons, List.mem_cons] at h
        rcases h with h | h
        · exact absurd h hne
        · exact h

theorem rep_globals {h1 : ∀ j, (oq j).oneCell' = true} {gs : List (Nat × List AV)} {h : Heap} (hg : ∀ p ∈ gs, p.1 < gtop ∧ ∃ vs, concs (gRho oq h1 gs) p.2 = some vs ∧ Blk h p.1 vs) : Rep (fun k => k < h.size) h (gRho oq h1 gs) (gH gs) h where
  fr := fun k hk => ⟨hk, rfl⟩
  dom := fun a r hr => by
    simp only [gRho] at hr
    split at hr
    · rename_i hm; exact (gH_get (fun p hp => (hg p hp).1)).2 hm
    · cases hr
  obj := fun a B hB hd => by
    obtain ⟨p, hp, e, rfl⟩ := (gH_get (fun p hp => (hg p hp).1)).1 hB
    subst e
    obtain ⟨k1, vs, k2, k3⟩ := hg p hp
    have hlt : p.1 < h.size := by
      obtain ⟨e, hx⟩ := k3
      exact (Array.getElem?_eq_some_iff.1 hx).1
    refine ⟨(p.1, 0, 0), ?_, fun h => absurd h (by omega), hlt, vs, [], [], k2, rfl, fun h => absurd rfl h, ?_, fun h => absurd rfl h⟩
    · simp only [gRho]
      rw [if_pos (List.mem_map.2 ⟨p, hp, rfl⟩)]
    · simpa using k3
  inj := fun a a' B B' r r' _ _ _ _ hr hr' hne => by
    simp only [gRho] at hr hr'
    split at hr <;> split at hr' <;> simp at hr hr'
    subst hr; subst hr'
    exact hne
  gl := fun g r _ hr => by
    simp only [gRho] at hr
    split at hr
    · simp at hr; subst hr; exact ⟨rfl, rfl⟩
    · cases hr

theorem run_callsG {h1 : ∀ j, (oq j).oneCell' = true} {gs : List (Nat × List AV)} {h : Heap} (hT : TOK P oq (fun k => k < h.size) h tb) (hg : ∀ p ∈ gs, p.1 < gtop ∧ ∃ vs, concs (gRho oq h1 gs) p.2 = some vs ∧ Blk h p.1 vs)
    {n f : Nat} {args : List AV} {vs : List Value} {e : AEnd} {S' : AS} (ho : acall tb (arec P tb n) [] f args ⟨gH gs, gtop⟩ = some (e, S')) (hc : concs (gRho oq h1 gs) args = some vs) :
    CallsH P f vs h fun ee h' => ∃ ρ', Le (gRho oq h1 gs) ρ' ∧ Rep (fun k => k < h.size) h ρ' S'.H h' ∧ RN ρ' e ee :=
  call_sound (F := fun k => k < h.size) (h0 := h) (ρ := gRho oq h1 gs) (arec_sound hT n) hT ho (rep_globals hg) hc ⟨rfl, fun l E ps a b hy => by simp [yfind] at hy⟩ fun ρ' h' ee hl hR hN => ⟨ρ', hl, hR, hN⟩

theorem run_codeG {h1 : ∀ j, (oq j).oneCell' = true} {gs : List (Nat × List AV)} (hT : TOK P oq (fun k => k < h.size) h tb) (hg : ∀ p ∈ gs, p.1 < gtop ∧ ∃ vs, concs (gRho oq h1 gs) p.2 = some vs ∧ Blk h p.1 vs)
    {n : Nat} {c : SCode} {x : AX} {D' : List AD} {Q : Post} (ho : arec P tb n [] c E [] ⟨gH gs, gtop⟩ = some (x, E', D', S')) (hE : RE (gRho oq h1 gs) E σ)
    (hK : ∀ ρ' h' σ' ds' xx, Le (gRho oq h1 gs) ρ' → Rep (fun k => k < h.size) h ρ' S'.H h' → RE ρ' E' σ' → RD ρ' D' ds' → RX ρ' x xx → Q xx σ' ds' h') : swp P c Q σ [] h :=
  (arec_sound hT n : XOK P oq (fun k => k < h.size) h (arec P tb n)) ho (rep_globals hg) hE rfl ⟨rfl, fun l E ps a b hy => by simp [yfind] at hy⟩ hK

/-- What was there stands: what is said of it, too. -/
theorem RB.same {a : Nat} {r : Nat × Nat × Nat} {B : AB} (hb : RB ρ h a r B) (hs : h'[r.1]? = h[r.1]?) : RB ρ h' a r B := by
  cases B with
  | cells w g l =>
    obtain ⟨vs, pre, tail, h1, h2, h3, h4, h5⟩ := hb
    refine ⟨vs, pre, tail, h1, h2, h3, ?_, fun hz => ?_⟩
    · cases w with
      | true => obtain ⟨e, x⟩ := h4; exact ⟨e, by rw [hs]; exact x⟩
      | false => obtain ⟨e, x⟩ := h4; exact ⟨e, by rw [hs]; exact x⟩
    · obtain ⟨h6, ⟨c, k, h7⟩, h8⟩ := h5 hz
      exact ⟨h6, ⟨c, k, by rw [hs]; exact h7⟩, h8⟩
  | map es c =>
    obtain ⟨ms, h1, h2⟩ := hb
    exact ⟨ms, by unfold MapB at h1 ⊢; rw [hs]; exact h1, h2⟩
  | iter m s l t =>
    obtain ⟨h1, h2⟩ := hb
    exact ⟨by rw [hs]; exact h1, h2⟩
  | dfd t => simp only [RB] at hb ⊢; rw [hs]; exact hb
  | siter l pos => simp only [RB] at hb ⊢; rw [hs]; exact hb
  | loop st p =>
    obtain ⟨h1⟩ := hb
    exact ⟨by rw [hs]; exact h1⟩
  | dead => trivial
theorem Rep.grown {H : AH} (hR : Rep F h0 ρ H h) (hsz : h.size ≤ h'.size) (hold : ∀ k, k < h.size → h'[k]? = h[k]?) : Rep F h0 ρ H h' where
  fr := fun k hk => ⟨Nat.lt_of_lt_of_le (hR.fr k hk).1 hsz, by rw [hold k (hR.fr k hk).1]; exact (hR.fr k hk).2⟩
  dom := hR.dom
  obj := fun a B hB hd => by
    obtain ⟨r, h1, h2, h3, h4⟩ := hR.obj a B hB hd
    exact ⟨r, h1, h2, Nat.lt_of_lt_of_le h3 hsz, h4.same (hold _ h3)⟩
  inj := hR.inj
  gl := hR.gl

theorem Rep.ext {H : AH} (hR : Rep (fun k => k < h.size) h ρ H h') : Ext h h' := fun k hk => (hR.fr k hk).2

/-- A RUN THAT ANSWERS TRUE: the call answers so, and leaves all that was there as it was. -/
def saysTrue : Option (AEnd × AS) → Bool
  | some (.ret (.b true), _) => true
  | _ => false
theorem run_ok {h : Heap} (hT : TOK P (fun _ => .bool true) (fun k => k < h.size) h tb) {n f : Nat} (ho : saysTrue (acall0 P tb n f []) = true) : CallsH P f [] h fun e h' => e = .returned (.bool true) ∧ Ext h h' := by
  unfold saysTrue at ho
  split at ho
  · rename_i S' hs
    refine (run_calls (h1 := fun _ => rfl) hT hs (by simp [concs])).mono ?_
    rintro ee h' ⟨ρ', hl, hR, u, rfl, hu⟩
    simp [conc] at hu; subst hu
    exact ⟨rfl, hR.ext⟩
  · simp at ho

theorem run_okG {gs : List (Nat × List AV)} {h : Heap} (hT : TOK P (fun _ => .bool true) (fun k => k < h.size) h tb) (hg : ∀ p ∈ gs, p.1 < gtop ∧ ∃ vs, concs (gRho (fun _ => .bool true) (fun _ => rfl) gs) p.2 = some vs ∧ Blk h p.1 vs)
    {n f : Nat} (ho : saysTrue (acall tb (arec P tb n) [] f [] ⟨gH gs, gtop⟩) = true) : CallsH P f [] h fun e h' => e = .returned (.bool true) ∧ Ext h h' := by
  unfold saysTrue at ho
  split at ho
  · rename_i S' hs
    refine (run_callsG (h1 := fun _ => rfl) hT hg hs (by simp [concs])).mono ?_
    rintro ee h' ⟨ρ', hl, hR, u, rfl, hu⟩
    simp [conc] at hu; subst hu
    exact ⟨rfl, hR.ext⟩
  · simp at ho

end
end Go.Sx
