/-
  Runs of simplified code: what goes along with a run; frames; calls; rounds.
-/
import Derived.Test.YtaeabfemedamhaaGreatDoorSxYG
namespace Go.Sx
open Go

def RP (ρ : Rho) : List (AV × Bool) → List PanicEntry → Prop
  | [], ps => ps = []
  | (v, t) :: l, ps => ∃ u ps', conc ρ v = some u ∧ ps = { v := u, recovered := t } :: ps' ∧ RP ρ l ps'

def RD (ρ : Rho) : List AD → List Deferred → Prop
  | [], ds => ds = []
  | .mk a :: D, ds => ∃ r ds', ρ.pl a = some r ∧ ds = { target := .collected r.1, args := #[] } :: ds' ∧ RD ρ D ds'
  | .fn f cap args :: D, ds => ∃ xs ys ds', concs ρ cap = some xs ∧ concs ρ args = some ys ∧ ds = { target := .fn (.func f) ⟨xs⟩, args := ⟨ys⟩ } :: ds' ∧ RD ρ D ds'

def RX (ρ : Rho) : AX → Exit → Prop
  | .nrm, e => e = .normal
  | .ex id, e => e = .exit id
  | .ret, e => e = .ret
  | .gt l, e => e = .goto l
  | .pan ch, e => ∃ ps, e = .panic ps ∧ RP ρ ch ps

def RN (ρ : Rho) : AEnd → Ending → Prop
  | .ret v, e => ∃ u, e = .returned u ∧ conc ρ v = some u
  | .pan ch, e => ∃ ps, e = .panicked ps ∧ RP ρ ch ps

def RU (ρ : Rho) : AMode → FrameMode → Prop
  | .returning, u => u = .returning
  | .panicking ch, u => ∃ ps, u = .panicking ps ∧ RP ρ ch ps

section
variable {ρ ρ' : Rho}

theorem RP.mono (hl : Le ρ ρ') : ∀ {l : List (AV × Bool)} {ps : List PanicEntry}, RP ρ l ps → RP ρ' l ps
  | [], _, h => h
  | (_, _) :: _, _, ⟨u, ps', h1, h2, h3⟩ => ⟨u, ps', conc_mono hl _ _ h1, h2, RP.mono hl h3⟩

theorem RP.app : ∀ {l m : List (AV × Bool)} {ps qs : List PanicEntry}, RP ρ l ps → RP ρ m qs → RP ρ (l ++ m) (ps ++ qs)
  | [], _, _, _, h, k => by cases h; exact k
  | (_, _) :: _, _, _, _, ⟨u, ps', h1, h2, h3⟩, k => by subst h2; exact ⟨u, _, h1, rfl, RP.app h3 k⟩

theorem RP.noexit : ∀ {l : List (AV × Bool)} {ps : List PanicEntry}, RP ρ l ps → ps.dropWhile (!·.goexit) = []
  | [], _, h => by cases h; rfl
  | (_, _) :: _, _, ⟨u, ps', h1, h2, h3⟩ => by subst h2; simp [List.dropWhile, RP.noexit h3]

theorem RD.mono (hl : Le ρ ρ') : ∀ {D : List AD} {ds : List Deferred}, RD ρ D ds → RD ρ' D ds
  | [], _, h => h
  | .mk _ :: _, _, ⟨r, ds', h1, h2, h3⟩ => ⟨r, ds', hl.pl _ _ h1, h2, RD.mono hl h3⟩
  | .fn _ _ _ :: _, _, ⟨xs, ys, ds', h1, h2, h3, h4⟩ => ⟨xs, ys, ds', concs_mono hl _ _ h1, concs_mono hl _ _ h2, h3, RD.mono hl h4⟩

theorem RD.one : ∀ {D : List AD} {ds ds' : List Deferred}, RD ρ D ds → RD ρ D ds' → ds = ds'
  | [], _, _, h, k => by cases h; cases k; rfl
  | .mk _ :: _, _, _, ⟨r, ds', h1, h2, h3⟩, ⟨r', ds'', k1, k2, k3⟩ => by
    rw [h1] at k1; simp at k1; subst k1
    rw [h2, k2, RD.one h3 k3]
  | .fn _ _ _ :: _, _, _, ⟨xs, ys, ds', h1, h2, h3, h4⟩, ⟨xs', ys', ds'', k1, k2, k3, k4⟩ => by
    rw [h1] at k1; simp at k1; subst k1
    rw [h2] at k2; simp at k2; subst k2
    rw [h3, k3, RD.one h4 k4]

theorem RU.mono (hl : Le ρ ρ') {u : AMode} {um : FrameMode} (h : RU ρ u um) : RU ρ' u um := by
  cases u with
  | returning => exact h
  | panicking ch => obtain ⟨ps, h1, h2⟩ := h; exact ⟨ps, h1, h2.mono hl⟩

theorem RU.settle {u : AMode} {um : FrameMode} (h : RU ρ u um) : RU ρ (settleA u) (Go.settle um) := by
  cases u with
  | returning => cases h; rfl
  | panicking ch =>
    obtain ⟨ps, rfl, h2⟩ := h
    cases ch with
    | nil => cases h2; exact ⟨[], rfl, rfl⟩
    | cons x ch =>
      obtain ⟨v, t⟩ := x
      obtain ⟨u, ps', h1, rfl, h3⟩ := h2
      cases t with
      | false => exact ⟨_, rfl, u, ps', h1, rfl, h3⟩
      | true =>
        show RU ρ .returning _
        simp only [Go.settle, h3.noexit]
        rfl

theorem RU.raised {u : AMode} {um : FrameMode} {ch : List (AV × Bool)} {ps : List PanicEntry} (h : RU ρ u um) (hp : RP ρ ch ps) : RU ρ (raisedA u ch) (Go.raised um ps) := by
  cases u with
  | returning => cases h; exact ⟨ps, rfl, hp⟩
  | panicking old =>
    obtain ⟨qs, rfl, h2⟩ := h
    refine ⟨ps ++ qs, rfl, ?_⟩
    rw [joined_eq]; exact hp.app h2

theorem RU.rec {u : AMode} {um : FrameMode} (h : RU ρ u um) : conc ρ (recVA u) = some (recV um) ∧ RU ρ (recMA u) (recM um) := by
  cases u with
  | returning => cases h; exact ⟨rfl, rfl⟩
  | panicking ch =>
    obtain ⟨ps, rfl, h2⟩ := h
    cases ch with
    | nil => cases h2; exact ⟨rfl, [], rfl, rfl⟩
    | cons x ch =>
      obtain ⟨v, t⟩ := x
      obtain ⟨u, ps', h1, rfl, h3⟩ := h2
      cases t with
      | false => exact ⟨h1, _, rfl, u, ps', h1, rfl, h3⟩
      | true => exact ⟨rfl, _, rfl, u, ps', h1, rfl, h3⟩
end

/-! ### Tables, loops under way -/
def RY (P : Program) (oq : Nat → Value) (ρ : Rho) (Y : AY) : Prop := ρ.op = oq ∧ ∀ l E ps a b, yfind Y l = some (E, ps, a, b) → ∃ r σ, ρ.pl l = some r ∧ RE ρ E σ ∧
  ∀ (h2 : Heap) (args : List Value) (R : Ending → Heap → Prop), LoopB h2 r.1 (ρ.lr l) .ready none → args.length = ps.length →
    swp P a (thenQ (fun σ' ds' h3 => LoopB h3 r.1 (ρ.lr l) .ready none ∧ ∀ h4, Turn h3 h4 r.1 (ρ.lr l) .busy none → swp P b (roundQ r.1 (ρ.lr l) R) σ' ds' h4) (fun _ _ _ _ => False)) (updL σ ps args) [] h2 → YieldH P r.1 args h2 R

def EntOK (P : Program) (oq : Nat → Value) (F : Nat → Prop) (h0 : Heap) (f : Nat) : Ent → Prop
  | .code nt sc rs => SoundD P f nt sc rs ∧ SoundF P f nt sc rs
  | .prim g => ∀ (ρ : Rho) (h : Heap) (args : List AV) (vs : List Value) (S S' : AS) (v : AV) (R : Ending → Heap → Prop), ρ.op = oq → g args S = some (v, S') → Rep F h0 ρ S.H h → concs ρ args = some vs →
    (∀ ρ' h' u, Le ρ ρ' → Rep F h0 ρ' S'.H h' → conc ρ' v = some u → R (.returned u) h') → CallsH P f vs h R
  | .ext g => ∀ (ρ : Rho) (h : Heap) (args : List AV) (vs : List Value) (S S' : AS) (v : AV) (R : Value → Heap → Prop), ρ.op = oq → g args S = some (v, S') → Rep F h0 ρ S.H h → concs ρ args = some vs →
    (∀ ρ' h' u, Le ρ ρ' → Rep F h0 ρ' S'.H h' → conc ρ' v = some u → R u h') → ExtH P f vs h R

def TOK (P : Program) (oq : Nat → Value) (F : Nat → Prop) (h0 : Heap) : Tbl → Prop
  | .nil => True
  | .node l k e r => TOK P oq F h0 l ∧ EntOK P oq F h0 k e ∧ TOK P oq F h0 r

theorem TOK.find {P : Program} {oq : Nat → Value} {F : Nat → Prop} {h0 : Heap} : ∀ {tb : Tbl}, TOK P oq F h0 tb → ∀ {f : Nat} {e : Ent}, tb.find f = some e → EntOK P oq F h0 f e
  | .nil, _, f, e, h => by simp [Tbl.find] at h
  | .node l k e' r, ⟨h1, h2, h3⟩, f, e, h => by
    simp only [Tbl.find, cond_eq_ite, Nat.beq_eq] at h
    split at h
    · rename_i hk; subst hk; simp at h; subst h; exact h2
    · split at h
      · exact h1.find h
      · exact h3.find h

def XOK (P : Program) (oq : Nat → Value) (F : Nat → Prop) (h0 : Heap) (rc : Rec) : Prop := ∀ {Y : AY} {c : SCode} {E : AE} {D : List AD} {S : AS} {x : AX} {E' : AE} {D' : List AD} {S' : AS}, rc Y c E D S = some (x, E', D', S') →
  ∀ {ρ : Rho} {h : Heap} {σ : Env} {ds : List Deferred} {Q : Post}, Rep F h0 ρ S.H h → RE ρ E σ → RD ρ D ds → RY P oq ρ Y →
  (∀ ρ' h' σ' ds' xx, Le ρ ρ' → Rep F h0 ρ' S'.H h' → RE ρ' E' σ' → RD ρ' D' ds' → RX ρ' x xx → Q xx σ' ds' h') → swp P c Q σ ds h

section
variable {P : Program} {oq : Nat → Value} {tb : Tbl} {rc : Rec} {ρ ρ' : Rho} {F : Nat → Prop} {h0 h h' : Heap} {H H' : AH} {E E' : AE} {σ : Env} {Y : AY} {S S' : AS}

theorem RY.mono (hl : Le ρ ρ') (h : RY P oq ρ Y) : RY P oq ρ' Y := by
  refine ⟨hl.op.trans h.1, fun l E ps a b hy => ?_⟩
  obtain ⟨r, σ, h1, h2, h3⟩ := h.2 l E ps a b hy
  refine ⟨r, σ, hl.pl _ _ h1, h2.mono hl, ?_⟩
  rw [hl.lr _ _ h1]; exact h3

theorem RE.args : ∀ {vs : List AV} {us : List Value} {n : Nat} {E : AE}, argsA n vs = some E → concs ρ vs = some us → RE ρ E (argEnv n us)
  | [], us, n, E, h, hc => by
    simp [argsA] at h; subst h
    intro t a ht; simp [T.get_e] at ht
  | v :: vs, us, n, E, h, hc => by
    obtain ⟨u, ws, rfl, h1, h2⟩ := concs_cons hc
    simp only [argsA] at h
    split at h
    · rename_i E1 h3
      exact (RE.args h3 h2).upd (d := some n) h1 h
    · simp at h

theorem RE.updL : ∀ {ps : List Nat} {vs : List AV} {us : List Value} {E E' : AE} {σ : Env}, aupdL E ps vs = some E' → RE ρ E σ → concs ρ vs = some us → RE ρ E' (Sx.updL σ ps us)
  | [], [], us, E, E', σ, h, hE, hc => by
    simp [aupdL] at h; subst h
    simp [concs] at hc; subst hc
    exact hE
  | p :: ps, v :: vs, us, E, E', σ, h, hE, hc => by
    obtain ⟨u, ws, rfl, h1, h2⟩ := concs_cons hc
    simp only [aupdL] at h
    split at h
    · rename_i E1 h3
      show RE ρ E' (Sx.updL (Sx.upd σ (some p) u) ps ws)
      exact RE.updL h (hE.upd (d := some p) h1 h3) h2
    · simp at h
  | [], _ :: _, us, E, E', σ, h, hE, hc => by simp [aupdL] at h
  | _ :: _, [], us, E, E', σ, h, hE, hc => by simp [aupdL] at h

theorem delA_get : ∀ {l : List Nat} {E E' : AE}, delA E l = some E' → ∀ {t : Nat} {a : AV}, E'.get t = some a → E.get t = some a ∧ t ∉ l
  | [], E, E', h, t, a, ht => by simp [delA] at h; subst h; exact ⟨ht, by simp⟩
  | d :: l, E, E', h, t, a, ht => by
    simp only [delA] at h
    split at h
    · rename_i E1 h1
      obtain ⟨h2, h3⟩ := delA_get h ht
      rw [T.put_get h1 t] at h2
      split at h2
      · simp at h2
      · rename_i hne
        exact ⟨h2, by simp; exact ⟨hne, h3⟩⟩
    · simp at h

theorem RE.del (hE : RE ρ E σ) {l : List Nat} (h : delA E l = some E') : RE ρ E' (hideN l σ) := by
  intro t a ht
  obtain ⟨h1, h2⟩ := delA_get h ht
  obtain ⟨v, h3, h4⟩ := hE t a h1
  refine ⟨v, h3, ?_⟩
  unfold hideN
  cases hn : hasN t l with
  | true => exact absurd ((hasN_iff t l).1 hn) h2
  | false => exact h4

theorem RE.delh (hE : RE ρ E σ) {l : List SOper} (h : delA E (dstsOf l) = some E') : RE ρ E' (hide l σ) := hE.del h

/-- Results. -/
theorem ares_sound (hR : Rep F h0 ρ H h) (hE : RE ρ E σ) : ∀ {rs : List SRes} {vs : List AV} {K : List Value → Prop}, ares E H rs = some vs → (∀ us, concs ρ vs = some us → K us) → resQ σ h rs K
  | [], vs, K, ho, hK => by simp [ares] at ho; subst ho; exact hK [] rfl
  | .t n :: r, vs, K, ho, hK => by
    simp only [ares] at ho
    split at ho
    · rename_i v ws h1 h2
      simp at ho; subst ho
      obtain ⟨u, h3, h4⟩ := hE n v h1
      simp only [resQ, h4]
      exact ares_sound hR hE h2 fun us hus => hK _ (by simp [concs, h3, hus])
    · simp at ho
  | .c1 a :: r, vs, K, ho, hK => by
    simp only [ares] at ho
    split at ho
    · rename_i x o hx
      split at ho
      · rename_i w g l hg
        split at ho
        · rename_i v ws h1 h2
          simp at ho; subst ho
          obtain ⟨pv, h3, h4⟩ := hE a _ hx
          simp only [conc] at h3
          split at h3
          · rename_i b ba cp hp
            simp at h3; subst h3
            obtain ⟨vs', pre, tail, hc⟩ := hR.cells hg hp
            obtain ⟨u, h5, h6⟩ := hc.at h1
            simp only [resQ, h4]
            exact ⟨u, h6, ares_sound hR hE h2 fun us hus => hK _ (by simp [concs, h5, hus])⟩
          · simp at h3
        · simp at ho
      · simp at ho
    · simp at ho
  | .cn a n :: r, vs, K, ho, hK => by
    simp only [ares] at ho
    split at ho
    · rename_i x o hx
      split at ho
      · rename_i w g l hg
        split at ho
        · rename_i v ws h1 h2
          simp at ho; subst ho
          obtain ⟨pv, h3, h4⟩ := hE a _ hx
          simp only [conc] at h3
          split at h3
          · rename_i b ba cp hp
            simp at h3; subst h3
            obtain ⟨vs', pre, tail, hc⟩ := hR.cells hg hp
            obtain ⟨u, h5, h6, h7⟩ := hc.part h1
            simp only [resQ, h4]
            exact ⟨u, h6, h7, ares_sound hR hE h2 fun us hus => hK _ (by simp [concs, conc, h5, hus])⟩
          · simp at h3
        · simp at ho
      · simp at ho
    · simp at ho

theorem retA_conc {vs : List AV} {us : List Value} (h : concs ρ vs = some us) : conc ρ (retA vs) = some (retV us) := by
  cases vs with
  | nil => simp [concs] at h; subst h; rfl
  | cons v vs =>
    obtain ⟨u, ws, rfl, h1, h2⟩ := concs_cons h
    cases vs with
    | nil => simp [concs] at h2; subst h2; exact h1
    | cons w vs =>
      obtain ⟨u', ws', rfl, h3, h4⟩ := concs_cons h2
      show conc ρ (.t _) = some (.tuple _)
      simp only [conc, h]

/-- A deferred function's body. -/
theorem arcv_sound (hX : XOK P oq F h0 rc) : ∀ {c : SCode} {u u' : AMode} {E E' : AE} {D D' : List AD} {S S' : AS} {x : AX}, arcv rc Y c u E D S = some (x, E', D', S', u') →
    ∀ {ρ : Rho} {h : Heap} {σ : Env} {ds : List Deferred} {um : FrameMode} {Q : FrameMode → Post}, Rep F h0 ρ S.H h → RE ρ E σ → RD ρ D ds → RY P oq ρ Y → RU ρ u um →
    (∀ ρ' h' σ' ds' xx um', Le ρ ρ' → Rep F h0 ρ' S'.H h' → RE ρ' E' σ' → RD ρ' D' ds' → RX ρ' x xx → RU ρ' u' um' → Q um' xx σ' ds' h') → swpS P c Q um σ ds h := by
  intro c
  induction c with
  | rcv d =>
    intro u u' E E' D D' S S' x ho ρ h σ ds um Q hR hE hD hY hU hK
    simp only [arcv] at ho
    split at ho
    · rename_i E1 h1
      simp at ho; obtain ⟨rfl, rfl, rfl, rfl, rfl⟩ := ho
      obtain ⟨h2, h3⟩ := hU.rec
      exact hK ρ h _ ds _ _ (Le.refl ρ) hR (hE.upd h2 h1) hD rfl h3
    · simp at ho
  | seq a b iha ihb =>
    intro u u' E E' D D' S S' x ho ρ h σ ds um Q hR hE hD hY hU hK
    simp only [arcv] at ho
    simp only [swpS]
    cases ha : arcv rc Y a u E D S with
    | none => rw [ha] at ho; simp at ho
    | some o =>
      obtain ⟨x1, E1, D1, S1, u1⟩ := o
      rw [ha] at ho
      refine iha ha hR hE hD hY hU ?_
      intro ρ1 h1 σ1 ds1 xx um1 hl1 hR1 hE1 hD1 hX1 hU1
      cases x1 with
      | nrm =>
        cases hX1
        exact ihb ho hR1 hE1 hD1 (hY.mono hl1) hU1 fun ρ2 h2 σ2 ds2 xx2 um2 hl2 => hK ρ2 h2 σ2 ds2 xx2 um2 (hl1.trans hl2)
      | ex id => simp at ho; obtain ⟨rfl, rfl, rfl, rfl, rfl⟩ := ho; cases hX1; exact hK _ _ _ _ _ _ hl1 hR1 hE1 hD1 rfl hU1
      | ret => simp at ho; obtain ⟨rfl, rfl, rfl, rfl, rfl⟩ := ho; cases hX1; exact hK _ _ _ _ _ _ hl1 hR1 hE1 hD1 rfl hU1
      | gt l => simp at ho; obtain ⟨rfl, rfl, rfl, rfl, rfl⟩ := ho; cases hX1; exact hK _ _ _ _ _ _ hl1 hR1 hE1 hD1 rfl hU1
      | pan ch => simp at ho; obtain ⟨rfl, rfl, rfl, rfl, rfl⟩ := ho; obtain ⟨ps, rfl, hp⟩ := hX1; exact hK _ _ _ _ _ _ hl1 hR1 hE1 hD1 ⟨ps, rfl, hp⟩ hU1
  | _ =>
    intro u u' E E' D D' S S' x ho ρ h σ ds um Q hR hE hD hY hU hK
    simp only [arcv] at ho
    split at ho
    · rename_i x1 E1 D1 S1 h1
      simp at ho; obtain ⟨rfl, rfl, rfl, rfl, rfl⟩ := ho
      simp only [swpS]
      exact hX h1 hR hE hD hY fun ρ' h' σ' ds' xx hl hR' hE' hD' hX' => hK ρ' h' σ' ds' xx um hl hR' hE' hD' hX' (hU.mono hl)
    · simp at ho

/-- A frame is left. -/
theorem leave_sound (hX : XOK P oq F h0 rc) (hT : TOK P oq F h0 tb) {rs : List SRes} {E : AE} {e : AEnd} {R : Ending → Heap → Prop} : ∀ {D : List AD} {u : AMode} {S S' : AS}, aleave tb rc Y rs E D u S = some (e, S') →
    ∀ {ρ : Rho} {h : Heap} {σ : Env} {ds : List Deferred} {um : FrameMode}, Rep F h0 ρ S.H h → RE ρ E σ → RD ρ D ds → RY P oq ρ Y → RU ρ u um →
    (∀ ρ' h' ee, Le ρ ρ' → Rep F h0 ρ' S'.H h' → RN ρ' e ee → R ee h') → leaveQD P rs R σ ds um h := by
  intro D
  induction D with
  | nil =>
    intro u S S' ho ρ h σ ds um hR hE hD hY hU hK
    cases hD
    cases u with
    | returning =>
      cases hU
      simp only [aleave] at ho
      split at ho
      · rename_i vs h1
        simp at ho; obtain ⟨rfl, rfl⟩ := ho
        exact ares_sound hR hE h1 fun us hus => hK ρ h _ (Le.refl ρ) hR ⟨_, rfl, retA_conc hus⟩
      · simp at ho
    | panicking ch =>
      obtain ⟨ps, rfl, hp⟩ := hU
      simp [aleave] at ho; obtain ⟨rfl, rfl⟩ := ho
      exact hK ρ h _ (Le.refl ρ) hR ⟨_, rfl, hp⟩
  | cons d D ih =>
    intro u S S' ho ρ h σ ds um hR hE hD hY hU hK
    have hrun : um ≠ .run := by
      cases u with
      | returning => cases hU; simp
      | panicking ch => obtain ⟨ps, rfl, _⟩ := hU; simp
    cases d with
    | mk a =>
      obtain ⟨r, ds', hr, rfl, hD'⟩ := hD
      simp only [aleave] at ho
      split at ho
      · rename_i hg
        split at ho
        · rename_i H1 hp
          obtain ⟨r', hr', hF, hlt, hb⟩ := hR.obj a _ hg (by simp)
          rw [hr] at hr'; simp at hr'; subst hr'
          simp only [leaveQD]
          refine ⟨hrun, hb, fun h' hP => ?_⟩
          refine ih ho (hR.set hg (by simp) hr hp hP.size hP.old (fun _ => hP.blk)) hE hD' hY hU hK
        · simp at ho
      · simp at ho
    | fn f cap args =>
      obtain ⟨xs, ys, ds', h1, h2, rfl, hD'⟩ := hD
      simp only [aleave] at ho
      split at ho
      · rename_i nt sc rs' hf
        simp only [cond_eq_ite, Nat.ble_eq] at ho
        split at ho
        · rename_i hle
          split at ho
          · rename_i E1 hE1
            simp only [leaveQD]
            refine ⟨hrun, (hT.find hf).2 ?_ ?_⟩
            · rw [countA_eq, joined_eq] at hle
              have l1 := concs_len h1; have l2 := concs_len h2
              simp at hle ⊢; omega
            · have hargs : concs ρ (joined args cap) = some (ys ++ xs) := by rw [joined_eq]; exact concs_app h2 h1
              cases hrc : arcv rc Y sc u E1 [] S with
              | none => rw [hrc] at ho; simp at ho
              | some o =>
                obtain ⟨x2, E2, D2, S2, u2⟩ := o
                rw [hrc] at ho
                refine arcv_sound (rc := rc) hX hrc hR (RE.args hE1 (by rw [joined_eq]; exact concs_app h2 h1)) rfl hY hU ?_
                intro ρ1 h1' σ1 ds1 xx um1 hl1 hR1 hE1' hD1 hX1 hU1
                cases D2 with
                | cons d2 D2 => cases x2 <;> simp at ho
                | nil =>
                  cases hD1
                  cases x2 with
                  | nrm =>
                    cases hX1
                    simp only at ho
                    split at ho
                    · rename_i vs hvs
                      refine ⟨rfl, ares_sound hR1 hE1' hvs fun us hus => ?_⟩
                      exact ih ho hR1 (hE.mono hl1) (hD'.mono hl1) (hY.mono hl1) hU1.settle fun ρ2 h2 ee hl2 => hK ρ2 h2 ee (hl1.trans hl2)
                    · simp at ho
                  | ret =>
                    cases hX1
                    simp only at ho
                    split at ho
                    · rename_i vs hvs
                      refine ⟨rfl, ares_sound hR1 hE1' hvs fun us hus => ?_⟩
                      exact ih ho hR1 (hE.mono hl1) (hD'.mono hl1) (hY.mono hl1) hU1.settle fun ρ2 h2 ee hl2 => hK ρ2 h2 ee (hl1.trans hl2)
                    · simp at ho
                  | pan ch =>
                    obtain ⟨ps, rfl, hp⟩ := hX1
                    simp only at ho
                    exact ⟨rfl, ih ho hR1 (hE.mono hl1) (hD'.mono hl1) (hY.mono hl1) (hU1.raised hp) fun ρ2 h2 ee hl2 => hK ρ2 h2 ee (hl1.trans hl2)⟩
                  | ex id => simp at ho
                  | gt l => simp at ho
          · simp at ho
        · simp at ho
      · simp at ho

/-- A call. -/
theorem call_sound (hX : XOK P oq F h0 rc) (hT : TOK P oq F h0 tb) {f : Nat} {args : List AV} {vs : List Value} {e : AEnd} {R : Ending → Heap → Prop} (ho : acall tb rc Y f args S = some (e, S'))
    (hR : Rep F h0 ρ S.H h) (hc : concs ρ args = some vs) (hY : RY P oq ρ Y) (hK : ∀ ρ' h' ee, Le ρ ρ' → Rep F h0 ρ' S'.H h' → RN ρ' e ee → R ee h') : CallsH P f vs h R := by
  unfold acall at ho
  split at ho
  · rename_i nt sc rs hf
    simp only [cond_eq_ite, Nat.ble_eq] at ho
    split at ho
    · rename_i hle
      split at ho
      · rename_i E1 hE1
        refine (hT.find hf).1 (by rw [countA_eq] at hle; rw [concs_len hc]; exact hle) ?_
        cases hrc : rc Y sc E1 [] S with
        | none => rw [hrc] at ho; simp at ho
        | some o =>
          obtain ⟨x2, E2, D2, S2⟩ := o
          rw [hrc] at ho
          refine hX hrc hR (RE.args hE1 hc) rfl hY ?_
          intro ρ1 h1 σ1 ds1 xx hl1 hR1 hE1' hD1 hX1
          have fin : ∀ {u um}, RU ρ1 u um → aleave tb rc Y rs E2 D2 u S2 = some (e, S') → leaveQD P rs R σ1 ds1 um h1 := fun hU hlv =>
            leave_sound hX hT hlv hR1 hE1' hD1 (hY.mono hl1) hU fun ρ2 h2 ee hl2 => hK ρ2 h2 ee (hl1.trans hl2)
          cases x2 with
          | nrm => cases hX1; exact fin (u := .returning) rfl ho
          | ret => cases hX1; exact fin (u := .returning) rfl ho
          | pan ch => obtain ⟨ps, rfl, hp⟩ := hX1; exact fin (u := .panicking ch) ⟨ps, rfl, hp⟩ ho
          | ex id => simp at ho
          | gt l => simp at ho
      · simp at ho
    · simp at ho
  · rename_i g hf
    split at ho
    · rename_i v S1 hg
      simp at ho; obtain ⟨rfl, rfl⟩ := ho
      exact (hT.find hf) ρ h args vs S S1 v R hY.1 hg hR hc fun ρ' h' u hl hR' hu => hK ρ' h' _ hl hR' ⟨u, rfl, hu⟩
    · simp at ho
  · simp at ho
  · simp at ho

/-! Loops over functions. -/
theorem Rep.turn (hR : Rep F h0 ρ H h) {l : Nat} {st st' : LoopState} {p p' : APend} {r : Nat × Nat × Nat} (hg : H.get l = some (.loop st p)) (hr : ρ.pl l = some r) (hp : T.wput H l (some (.loop st' p')) = some H')
    (ht : Turn h h' r.1 (ρ.lr l) st' (pcode p')) : Rep F h0 ρ H' h' :=
  hR.set hg (by simp) hr hp ht.size ht.old fun _ => ht.rec_

theorem isLoop_get {l : Nat} {st : LoopState} (h : isLoop S l st = true) : S.H.get l = some (.loop st none) := by
  unfold isLoop at h
  split at h
  · rename_i st' hg; rw [hg, steq_eq h]
  · simp at h

theorem setL_put {l : Nat} {st : LoopState} {p : APend} (h : setL S l st p = some S') : T.wput S.H l (some (.loop st p)) = some S'.H := by
  unfold setL at h
  split at h
  · rename_i H1 h1; simp at h; subst h; exact h1
  · simp at h

theorem yield_sound (hX : XOK P oq F h0 rc) {l : Nat} {args : List AV} {vs : List Value} {e : AEnd} {R : Ending → Heap → Prop} {r : Nat × Nat × Nat} (ho : ayield rc Y l args S = some (e, S')) (hr : ρ.pl l = some r)
    (hR : Rep F h0 ρ S.H h) (hc : concs ρ args = some vs) (hY : RY P oq ρ Y) (hK : ∀ ρ' h' ee, Le ρ ρ' → Rep F h0 ρ' S'.H h' → RN ρ' e ee → R ee h') : YieldH P r.1 vs h R := by
  unfold ayield at ho
  split at ho
  · rename_i E ps a b hy
    simp only [cond_eq_ite, Bool.and_eq_true, Nat.beq_eq] at ho
    split at ho
    · rename_i hcond
      split at ho
      · rename_i E0 hE0
        obtain ⟨r', σl, hr', hEl, hyl⟩ := hY.2 l E ps a b hy
        rw [hr] at hr'; simp at hr'; subst hr'
        have hg := isLoop_get hcond.1
        obtain ⟨r', hr', _, _, hb⟩ := hR.obj l _ hg (by simp)
        rw [hr] at hr'; simp at hr'; subst hr'
        refine hyl h vs R hb (by rw [concs_len hc]; have := hcond.2; rw [countA_eq, countA_eq] at this; exact this) ?_
        cases hrc : rc Y a E0 [] S with
        | none => rw [hrc] at ho; simp at ho
        | some o =>
          obtain ⟨x1, E1, D1, S1⟩ := o
          rw [hrc] at ho
          refine hX hrc hR (hEl.updL hE0 hc) rfl hY ?_
          intro ρ1 h1 σ1 ds1 xx hl1 hR1 hE1 hD1 hX1
          cases x1 with
          | nrm =>
            cases hX1
            simp only at ho
            split at ho
            · rename_i hl
              have hg1 := isLoop_get hl
              have hr1 := hl1.pl _ _ hr
              have hlr := hl1.lr _ _ hr
              obtain ⟨r', hr', _, _, hb1⟩ := hR1.obj l _ hg1 (by simp)
              rw [hr1] at hr'; simp at hr'; subst hr'
              split at ho
              · rename_i S2 hS2
                refine ⟨by rw [← hlr]; exact hb1, fun h4 ht => ?_⟩
                have hR2 : Rep F h0 ρ1 S2.H h4 := hR1.turn hg1 hr1 (setL_put hS2) (by rw [hlr]; exact ht)
                cases hrc2 : rc Y b E1 D1 S2 with
                | none => rw [hrc2] at ho; simp at ho
                | some o =>
                  obtain ⟨x3, E3, D3, S3⟩ := o
                  rw [hrc2] at ho
                  refine hX hrc2 hR2 hE1 hD1 (hY.mono hl1) ?_
                  intro ρ3 h3 σ3 ds3 xx3 hl3 hR3 hE3 hD3 hX3
                  have hr3 := hl3.pl _ _ hr1
                  have hlr3 := (hl3.lr _ _ hr1).trans hlr
                  have fin : ∀ {st' : LoopState} {p' : APend} {t : Bool}, isLoop S3 l .busy = true → (∃ S4, setL S3 l st' p' = some S4 ∧ e = .ret (.b t) ∧ S' = S4) →
                      LoopB h3 r.1 (ρ.lr l) .busy none ∧ ∀ h', Turn h3 h' r.1 (ρ.lr l) st' (pcode p') → R (.returned (.bool t)) h' := by
                    rintro st' p' t hl3' ⟨S4, hS4, rfl, rfl⟩
                    have hg3 := isLoop_get hl3'
                    obtain ⟨r', hr', _, _, hb3⟩ := hR3.obj l _ hg3 (by simp)
                    rw [hr3] at hr'; simp at hr'; subst hr'
                    refine ⟨by rw [← hlr3]; exact hb3, fun h' ht' => ?_⟩
                    exact hK ρ3 h' _ (hl1.trans hl3) (hR3.turn hg3 hr3 (setL_put hS4) (by rw [hlr3]; exact ht')) ⟨_, rfl, rfl⟩
                  cases x3 with
                  | nrm =>
                    cases hX3
                    simp only at ho
                    split at ho
                    · rename_i hb3
                      split at ho
                      · rename_i S4 hS4
                        simp at ho; obtain ⟨rfl, rfl⟩ := ho
                        exact fin (p' := none) hb3 ⟨_, hS4, rfl, rfl⟩
                      · simp at ho
                    · simp at ho
                  | ret =>
                    cases hX3
                    simp only at ho
                    split at ho
                    · rename_i hb3
                      split at ho
                      · rename_i S4 hS4
                        simp at ho; obtain ⟨rfl, rfl⟩ := ho
                        exact fin (p' := some none) hb3 ⟨_, hS4, rfl, rfl⟩
                      · simp at ho
                    · simp at ho
                  | ex id =>
                    cases hX3
                    simp only at ho
                    split at ho
                    · rename_i hb3
                      split at ho
                      · rename_i S4 hS4
                        simp at ho; obtain ⟨rfl, rfl⟩ := ho
                        exact fin (p' := some (some id)) hb3 ⟨_, hS4, rfl, rfl⟩
                      · simp at ho
                    · simp at ho
                  | pan ch => simp at ho
                  | gt l => simp at ho
              · simp at ho
            · simp at ho
          | ret => simp at ho
          | ex id => simp at ho
          | pan ch => simp at ho
          | gt l => simp at ho
      · simp at ho
    · simp at ho
  · simp at ho

end
end Go.Sx
