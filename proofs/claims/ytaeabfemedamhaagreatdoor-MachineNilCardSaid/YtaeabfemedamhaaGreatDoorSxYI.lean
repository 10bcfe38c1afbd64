/-
  Runs of simplified code: operations, and each form of code.
-/
import Derived.Test.YtaeabfemedamhaaGreatDoorSxYH
namespace Go.Sx
open Go

/-- What is asked of what operations come to. -/
def RO (F : Nat → Prop) (h0 : Heap) (ρ : Rho) (K : Env → Heap → Prop) (Qp : List PanicEntry → Heap → Prop) : OR → Prop
  | .ok E' S' => ∀ ρ' h' σ', Le ρ ρ' → Rep F h0 ρ' S'.H h' → RE ρ' E' σ' → K σ' h'
  | .pan ch S' => ∀ ρ' h' ps, Le ρ ρ' → Rep F h0 ρ' S'.H h' → RP ρ' ch ps → Qp ps h'

section
variable {P : Program} {oq : Nat → Value} {tb : Tbl} {rc : Rec} {ρ ρ' : Rho} {F : Nat → Prop} {h0 h h' : Heap} {H H' : AH} {E E' : AE} {σ : Env} {Y : AY} {S S' : AS}
  {K : Env → Heap → Prop} {Qp : List PanicEntry → Heap → Prop}

theorem RO.mono {r : OR} (hl : Le ρ ρ') (h : RO F h0 ρ K Qp r) : RO F h0 ρ' K Qp r := by
  cases r with
  | ok E' S' => exact fun ρ2 h2 σ2 hl2 => h ρ2 h2 σ2 (hl.trans hl2)
  | pan ch S' => exact fun ρ2 h2 σ2 hl2 => h ρ2 h2 σ2 (hl.trans hl2)

theorem after_sound {d : Option Nat} {e : AEnd} {r : OR} (ho : putR d E (some (e, S')) = some r) (hE : RE ρ E σ) (hK : RO F h0 ρ K Qp r) :
    ∀ ρ' h' ee, Le ρ ρ' → Rep F h0 ρ' S'.H h' → RN ρ' e ee → after (fun v h' => K (upd σ d v) h') Qp ee h' := by
  intro ρ' h' ee hl hR hN
  cases e with
  | ret v =>
    obtain ⟨u, rfl, hu⟩ := hN
    simp only [putR] at ho
    split at ho
    · rename_i E1 h1
      simp at ho; subst ho
      exact hK ρ' h' _ hl hR ((hE.mono hl).upd hu h1)
    · simp at ho
  | pan ch =>
    obtain ⟨ps, rfl, hp⟩ := hN
    simp [putR] at ho; subst ho
    exact hK ρ' h' ps hl hR hp

/-- One that calls nothing. -/
theorem plain_sound {id N' : Nat} {d : Option Nat} {op : SOp} {r : OR} (ho : (match aop P E S.H id op with
    | some (v, H') => match aupd E d v with
      | some E' => some (OR.ok E' ⟨H', N'⟩)
      | none => none
    | none => none) = some r) (hR : Rep F h0 ρ S.H h) (hE : RE ρ E σ) (hK : RO F h0 ρ K Qp r) : sop P σ h (fun v h' => K (upd σ d v) h') Qp op := by
  split at ho
  · rename_i v H1 h1
    split at ho
    · rename_i E1 h2
      simp at ho; subst ho
      exact aop_sound hR hE h1 fun ρ' h' u hl hR' hu => hK ρ' h' _ hl hR' ((hE.mono hl).upd hu h2)
    · simp at ho
  · simp at ho

theorem putR_some {d : Option Nat} {o : Option (AEnd × AS)} {r : OR} (ho : putR d E o = some r) : ∃ e S', o = some (e, S') := by
  cases o with
  | none => simp [putR] at ho
  | some x => exact ⟨x.1, x.2, rfl⟩

theorem arun_sound (hX : XOK P oq F h0 rc) (hT : TOK P oq F h0 tb) {id N' : Nat} {d : Option Nat} {op : SOp} {r : OR} (ho : arun P tb rc Y E S id N' d op = some r) (hR : Rep F h0 ρ S.H h) (hE : RE ρ E σ) (hY : RY P oq ρ Y)
    (hK : RO F h0 ρ K Qp r) : sop P σ h (fun v h' => K (upd σ d v) h') Qp op := by
  cases op
  case call f xs =>
    simp only [arun] at ho
    split at ho
    · rename_i vs hvs
      obtain ⟨us, h1, h2⟩ := aevs_sound hR hE hvs
      obtain ⟨e, S1, hc⟩ := putR_some ho
      rw [hc] at ho
      simp only [sop, h2]
      exact call_sound hX hT hc hR h1 hY (after_sound ho hE hK)
    · simp at ho
  case callv x xs =>
    simp only [arun] at ho
    split at ho
    · rename_i f fi cap vs hx hvs
      obtain ⟨us, h1, h2⟩ := aevs_sound hR hE hvs
      obtain ⟨fv, h3, h4⟩ := aev_sound hR hE hx
      obtain ⟨e, S1, hc⟩ := putR_some ho
      rw [hc] at ho
      simp only [conc] at h3
      split at h3
      · rename_i xf yc hxf hyc
        simp at h3; subst h3
        simp only [sop, h4, h2]
        refine call_sound hX hT hc hR ?_ hY (after_sound ho hE hK)
        rw [joined_eq, joined_eq]
        have := concs_app hxf (concs_app h1 hyc)
        simpa using this
      · simp at h3
    · rename_i l vs hx hvs
      obtain ⟨us, h1, h2⟩ := aevs_sound hR hE hvs
      obtain ⟨fv, h3, h4⟩ := aev_sound hR hE hx
      obtain ⟨e, S1, hc⟩ := putR_some ho
      rw [hc] at ho
      simp only [conc] at h3
      split at h3
      · rename_i b ba cp hp
        simp at h3; subst h3
        simp only [sop, h4, h2]
        exact yield_sound hX hc hp hR h1 hY (after_sound ho hE hK)
      · simp at h3
    · simp at ho
  case callx f xs =>
    simp only [arun] at ho
    split at ho
    · rename_i vs hvs
      split at ho
      · rename_i g hf
        split at ho
        · rename_i v S1 hg
          obtain ⟨us, h1, h2⟩ := aevs_sound hR hE hvs
          simp only [sop, h2]
          exact (hT.find hf) ρ h vs us S S1 v _ hY.1 hg hR h1 fun ρ' h' u hl hR' hu => after_sound ho hE hK ρ' h' (.returned u) hl hR' ⟨u, rfl, hu⟩
        · simp at ho
      · simp at ho
    · simp at ho
  case pan x =>
    simp only [arun] at ho
    split at ho
    · rename_i t v hx
      simp at ho; subst ho
      obtain ⟨u, h1, h2⟩ := aev_sound hR hE hx
      simp only [conc] at h1
      split at h1
      · rename_i w hw
        simp at h1; subst h1
        simp only [sop, h2]
        exact hK ρ h _ (Le.refl ρ) hR ⟨.iface t w, [], by simp [conc, hw], rfl, rfl⟩
      · simp at h1
    · simp at ho
  all_goals exact plain_sound (id := id) (N' := N') ho hR hE hK

theorem aopr_sound (hX : XOK P oq F h0 rc) (hT : TOK P oq F h0 tb) {id N' : Nat} {o : SOper} {r : OR} (ho : aopr P tb rc Y E S id N' o = some r) (hR : Rep F h0 ρ S.H h) (hE : RE ρ E σ) (hY : RY P oq ρ Y)
    (hK : RO F h0 ρ K Qp r) : sopr P σ h o K Qp := by
  unfold aopr at ho
  unfold sopr
  split at ho
  · rename_i hg
    rw [hg]
    exact arun_sound hX hT ho hR hE hY hK
  · rename_i g want hg
    rw [hg]
    simp only
    split at ho
    · rename_i t ht
      obtain ⟨v, h1, h2⟩ := hE g _ ht
      simp [conc] at h1; subst h1
      rw [h2]
      simp only [cond_eq_ite, beqB_eq] at ho
      split at ho
      · rename_i htw; subst htw
        have : takes (.bool t) t = true := by cases t <;> rfl
        simp only [this]
        exact arun_sound hX hT ho hR hE hY hK
      · rename_i htw
        have : takes (.bool t) want = false := by cases t <;> cases want <;> first | rfl | exact absurd rfl htw
        simp only [this]
        split at ho
        · rename_i E1 h3
          simp at ho; subst ho
          exact hK ρ h _ (Le.refl ρ) hR (hE.upd (v := undef) rfl h3)
        · simp at ho
    · rename_i l ht
      obtain ⟨v, h1, h2⟩ := hE g _ ht
      rw [h2]
      have : takes v want = false := by
        simp only [conc] at h1
        split at h1
        · simp at h1; subst h1; cases want <;> rfl
        · simp at h1
      simp only [this]
      split at ho
      · rename_i E1 h3
        simp at ho; subst ho
        exact hK ρ h _ (Le.refl ρ) hR (hE.upd (v := undef) rfl h3)
      · simp at ho
    · simp at ho

theorem aops_sound (hX : XOK P oq F h0 rc) (hT : TOK P oq F h0 tb) : ∀ {l : List SOper} {E : AE} {S : AS} {r : OR} {ρ : Rho} {h : Heap} {σ : Env}, aops P tb rc Y l E S = some r → Rep F h0 ρ S.H h → RE ρ E σ → RY P oq ρ Y →
    RO F h0 ρ K Qp r → sops P Qp K l σ h
  | [], E, S, r, ρ, h, σ, ho, hR, hE, hY, hK => by
    simp [aops] at ho; subst ho
    exact hK ρ h σ (Le.refl ρ) hR hE
  | o :: l, E, S, r, ρ, h, σ, ho, hR, hE, hY, hK => by
    simp only [aops] at ho
    simp only [sops]
    split at ho
    · rename_i E1 S1 h1
      exact aopr_sound hX hT h1 hR hE hY fun ρ' h' σ' hl hR' hE' => aops_sound hX hT ho hR' hE' (hY.mono hl) (hK.mono hl)
    · rename_i hne
      refine aopr_sound hX hT ho hR hE hY ?_
      cases r with
      | ok E1 S1 => exact absurd ho (hne E1 S1)
      | pan ch S1 => exact hK

theorem again_sound {op : SOp} {d : Nat} {v u : AV} {H1 : AH} (hR : Rep F h0 ρ H h) (hE : RE ρ E σ) (hq : cls op ≤ 1) (ho : aop P E H 0 op = some (v, H1)) (hu : E.get d = some u) (he : aeq v u = true) :
    sop P σ h (fun w h' => h' = h ∧ upd σ (some d) w = σ) Qp op := by
  have h1 : sop P σ h (fun w _ => ∃ ρ', Le ρ ρ' ∧ conc ρ' v = some w) Qp op := aop_sound hR hE ho fun ρ' h' w hl _ hw => ⟨ρ', hl, hw⟩
  obtain ⟨w, ⟨ρ', hl, hw⟩, hall⟩ := quiet op hq h1
  refine hall h (.inr (Ext.refl h)) _ _ ⟨rfl, ?_⟩
  obtain ⟨w', h2, h3⟩ := hE d u hu
  rw [← aeq_eq _ _ he] at h2
  have := conc_mono hl _ _ h2
  rw [hw] at this; simp at this; subst this
  funext t
  by_cases ht : t = d
  · subst ht; simp [upd, h3]
  · exact upd_ne (by intro e; exact ht (by simpa using e.symm))

theorem achk_sound (hR : Rep F h0 ρ H h) (hE : RE ρ E σ) {o : SOper} (hq : cls o.op ≤ 1) (ho : achk P E H o = true) : chkOp P σ h o := by
  unfold achk at ho
  unfold chkOp sopr
  have skip : ∀ {d : Nat} {u : AV}, E.get d = some u → aeq (.t []) u = true → upd σ (some d) undef = σ := by
    intro d u hu he
    obtain ⟨w, h1, h2⟩ := hE d u hu
    rw [← aeq_eq _ _ he] at h1
    simp [conc, concs] at h1
    funext t
    by_cases ht : t = d
    · subst ht; simp [upd, h2, ← h1, undef]
    · exact upd_ne (by intro e; exact ht (by simpa using e.symm))
  split at ho
  · rename_i d hg hd
    rw [hg, hd]
    split at ho
    · rename_i v H1 u h1 h2
      exact again_sound hR hE hq h1 h2 ho
    · simp at ho
  · rename_i g want d hg hd
    rw [hg, hd]
    simp only
    split at ho
    · rename_i t ht
      obtain ⟨v, h1, h2⟩ := hE g _ ht
      simp [conc] at h1; subst h1
      rw [h2]
      simp only [cond_eq_ite, beqB_eq] at ho
      split at ho
      · rename_i htw; subst htw
        have : takes (.bool t) t = true := by cases t <;> rfl
        simp only [this]
        split at ho
        · rename_i v H1 u h1 h2
          exact again_sound hR hE hq h1 h2 ho
        · simp at ho
      · rename_i htw
        have : takes (.bool t) want = false := by cases t <;> cases want <;> first | rfl | exact absurd rfl htw
        simp only [this]
        split at ho
        · rename_i u hu
          exact ⟨trivial, skip hu ho⟩
        · simp at ho
    · rename_i l ht
      obtain ⟨v, h1, h2⟩ := hE g _ ht
      rw [h2]
      have : takes v want = false := by
        simp only [conc] at h1
        split at h1
        · simp at h1; subst h1; cases want <;> rfl
        · simp at h1
      simp only [this]
      split at ho
      · rename_i u hu
        exact ⟨trivial, skip hu ho⟩
      · simp at ho
    · simp at ho
  · simp at ho

theorem achks_sound (hR : Rep F h0 ρ H h) (hE : RE ρ E σ) : ∀ {l : List SOper}, achks P E H l = true → ∀ x ∈ l, cls x.op ≤ 1 ∧ chkOp P σ h x
  | [], _, x, hx => by simp at hx
  | o :: l, ho, x, hx => by
    simp only [achks, Bool.and_eq_true, Nat.ble_eq] at ho
    rcases List.mem_cons.1 hx with rfl | hx
    · exact ⟨ho.1.1, achk_sound hR hE ho.1.1 ho.1.2⟩
    · exact achks_sound hR hE ho.2 x hx

theorem beqS_eq {S S' : AS} (h : beqS S S' = true) : S = S' := by
  unfold beqS at h
  simp only [Bool.and_eq_true, Nat.beq_eq] at h
  cases S; cases S'
  simp only at h
  rw [h.1, beqT_eq (fun _ _ => beqAB_eq) _ _ h.2]

theorem atree_sound (hX : XOK P oq F h0 rc) (hT : TOK P oq F h0 tb) {base : Nat} : ∀ {t : OTree} {E : AE} {S : AS} {r : OR} {ρ : Rho} {h : Heap} {σ : Env}, atree P tb rc Y base t E S = some r → Rep F h0 ρ S.H h → RE ρ E σ → RY P oq ρ Y →
    RO F h0 ρ K Qp r → stree P Qp K t σ h := by
  intro t
  induction t with
  | done =>
    intro E S r ρ h σ ho hR hE hY hK
    simp [atree] at ho; subst ho
    exact hK ρ h σ (Le.refl ρ) hR hE
  | one o t ih =>
    intro E S r ρ h σ ho hR hE hY hK
    simp only [atree] at ho
    simp only [stree]
    split at ho
    · rename_i E1 S1 h1
      exact aopr_sound hX hT h1 hR hE hY fun ρ' h' σ' hl hR' hE' => ih ho hR' hE' (hY.mono hl) (hK.mono hl)
    · rename_i hne
      refine aopr_sound hX hT ho hR hE hY ?_
      cases r with
      | ok E1 S1 => exact absurd ho (hne E1 S1)
      | pan ch S1 => exact hK
  | both a b iha ihb =>
    intro E S r ρ h σ ho hR hE hY hK
    simp only [atree] at ho
    simp only [stree]
    split at ho
    · rename_i E1 S1 E2 S2 h1 h2
      simp only [cond_eq_ite, Bool.and_eq_true] at ho
      split at ho
      · rename_i heq
        simp at ho; subst ho
        have e1 := beqT_eq aeq_eq _ _ heq.1
        have e2 := beqS_eq heq.2
        subst e1; subst e2
        exact ⟨iha h1 hR hE hY hK, ihb h2 hR hE hY hK⟩
      · simp at ho
    · simp at ho
  | chk l t ih =>
    intro E S r ρ h σ ho hR hE hY hK
    simp only [atree, cond_eq_ite] at ho
    simp only [stree]
    split at ho
    · rename_i hc
      exact ⟨achks_sound hR hE hc, ih ho hR hE hY hK⟩
    · simp at ho

end
end Go.Sx
