/-
  Runs of simplified code: each operation that calls nothing, soundly (1).
-/
import Derived.Test.YtaeabfemedamhaaGreatDoorSxYD
namespace Go.Sx
open Go

section
variable {P : Program} {ρ : Rho} {F : Nat → Prop} {h0 h : Heap} {H H' : AH} {E : AE} {σ : Env} {id : Nat} {v : AV} {K : Value → Heap → Prop} {Qp : List PanicEntry → Heap → Prop}

/-- Whatever comes of it is fine. -/
abbrev Fine (F : Nat → Prop) (h0 : Heap) (ρ : Rho) (H' : AH) (v : AV) (K : Value → Heap → Prop) : Prop :=
  ∀ ρ' h' u, Le ρ ρ' → Rep F h0 ρ' H' h' → conc ρ' v = some u → K u h'

theorem Fine.now (hR : Rep F h0 ρ H h) (hK : Fine F h0 ρ H v K) {u : Value} (hu : conc ρ v = some u) : K u h := hK ρ h u (Le.refl ρ) hR hu

theorem eqResI_conc (neg t : Bool) : conc ρ (eqResI neg t) = some (.bool (bif t then !neg else neg)) := rfl

theorem acmpI_sound {op : BinOp} {k : IntKind} {a b : Int} {t : Bool} (hc : acmpI op a b = some t) (hk : K (.bool t) h) {σ : Env} {x y : Operand} (hx : ev σ x = some (.int k a)) (hy : ev σ y = some (.int k b)) : sop P σ h K Qp (.cmp op x y) := by
  have e1 := ieq_iff a b
  have e2 := ilt_iff a b
  have e3 := ilt_iff b a
  have mk : ∀ (p : Prop) (t' : Bool), (t' = true ↔ p) → K (.bool t') h → either p K h := by
    intro p t' hp hk'
    cases t' with
    | true => exact ⟨fun _ => hk', fun hn => absurd (hp.1 rfl) hn⟩
    | false => exact ⟨fun hp' => by simp [hp'] at hp, fun _ => hk'⟩
  simp only [sop, hx, hy]
  cases op <;> simp only [acmpI, Option.some.injEq] at hc <;> first | (cases hc; done) | subst hc
  · exact ⟨rfl, mk _ _ e1 hk⟩
  · exact ⟨rfl, mk _ _ (by rw [ne_eq, ← e1]; cases ieq a b <;> simp) hk⟩
  · exact ⟨rfl, mk _ _ e2 hk⟩
  · refine ⟨rfl, mk _ _ ?_ hk⟩
    constructor
    · intro h; have : ¬ ilt b a = true := by simpa using h
      rw [e3] at this; omega
    · intro h; have : ¬ ilt b a = true := by rw [e3]; omega
      simpa using this
  · exact ⟨rfl, mk _ _ e3 hk⟩
  · refine ⟨rfl, mk _ _ ?_ hk⟩
    constructor
    · intro h; have : ¬ ilt a b = true := by simpa using h
      rw [e2] at this; omega
    · intro h; have : ¬ ilt a b = true := by rw [e2]; omega
      simpa using this

theorem sless_slt8 (a b : List UInt8) : sless ⟨⟨a⟩⟩ ⟨⟨b⟩⟩ = slt8 a b := by
  unfold sless
  rw [slt8_eq, ByteArray.toList_eq, ByteArray.toList_eq]

theorem str_eq_iff (a b : List UInt8) : (⟨⟨a⟩⟩ : ByteArray) = ⟨⟨b⟩⟩ ↔ a = b := by
  constructor
  · intro h; simpa using h
  · intro h; rw [h]

theorem acmpS_sound {op : BinOp} {a b : List UInt8} {t : Bool} (hc : acmpS op a b = some t) (hk : K (.bool t) h) {σ : Env} {x y : Operand} (hx : ev σ x = some (.string ⟨⟨a⟩⟩)) (hy : ev σ y = some (.string ⟨⟨b⟩⟩)) : sop P σ h K Qp (.cmp op x y) := by
  have e1 := seq8_iff a b
  have e2 := str_eq_iff a b
  have e3 := sless_slt8 a b
  have mk : ∀ (p : Prop) (t' : Bool), (t' = true ↔ p) → K (.bool t') h → either p K h := by
    intro p t' hp hk'
    cases t' with
    | true => exact ⟨fun _ => hk', fun hn => absurd (hp.1 rfl) hn⟩
    | false => exact ⟨fun hp' => by simp [hp'] at hp, fun _ => hk'⟩
  simp only [sop, hx, hy]
  cases op <;> simp only [acmpS, Option.some.injEq] at hc <;> first | (cases hc; done) | subst hc
  · exact mk _ _ (by rw [e1, e2]) hk
  · exact mk _ _ (by rw [ne_eq, e2, ← e1]; cases seq8 a b <;> simp) hk
  · exact mk _ _ (by rw [e3]) hk
  · exact mk _ _ (by rw [e3, e2, ← e1]; cases slt8 a b <;> cases seq8 a b <;> simp) hk
  · exact mk _ _ (by rw [e3, e2, ← e1]; cases slt8 a b <;> cases seq8 a b <;> simp) hk
  · exact mk _ _ (by rw [e3]; cases slt8 a b <;> simp) hk

theorem afits_fits {kd : Kd} {x : AV} {u : Value} (hf : afits kd x = true) (hu : conc ρ x = some u) : fits kd u = true := by
  cases kd <;> cases x <;> simp [afits] at hf <;> simp [conc] at hu <;> subst hu <;> simp [fits]
  exact keq_eq hf
theorem afits_inj {kd : Kd} {x y : AV} {u w : Value} (hx : afits kd x = true) (hy : afits kd y = true) (hu : conc ρ x = some u) (hw : conc ρ y = some w) : aeq x y = true ↔ u = w := by
  constructor
  · intro h
    have := aeq_eq x y h
    subst this
    rw [hu] at hw; simpa using hw
  · intro h
    subst h
    cases kd <;> cases x <;> simp [afits] at hx <;> cases y <;> simp [afits] at hy <;> simp [conc] at hu hw <;> subst hu <;> simp at hw
    · obtain ⟨rfl, rfl⟩ := hw
      have hk : ∀ k : IntKind, keq k k = true := by intro k; cases k <;> rfl
      simp [aeq, hk, ieq_iff]
    · subst hw; simp [aeq, seq8_iff]
    · subst hw; simp [aeq, beqB_eq]
theorem afitsAll_fits : ∀ {ks : List Kd} {l : List AV} {vs : List Value}, afitsAll ks l = true → concs ρ l = some vs → fitsAll ks vs = true
  | [], [], vs, _, h => by simp [concs] at h; subst h; rfl
  | [], _ :: _, vs, hf, _ => by simp [afitsAll] at hf
  | _ :: _, [], vs, hf, _ => by simp [afitsAll] at hf
  | k :: ks, x :: l, vs, hf, h => by
    obtain ⟨v, us, rfl, h1, h2⟩ := concs_cons h
    simp [afitsAll] at hf
    simp [fitsAll, afits_fits hf.1 h1, afitsAll_fits hf.2 h2]
theorem afitsAll_inj : ∀ {ks : List Kd} {l m : List AV} {vs us : List Value}, afitsAll ks l = true → afitsAll ks m = true → concs ρ l = some vs → concs ρ m = some us → (aeqs l m = true ↔ vs = us)
  | [], [], [], vs, us, _, _, h, h' => by simp [concs] at h h'; subst h; subst h'; simp [aeqs]
  | [], _ :: _, _, vs, us, hf, _, _, _ => by simp [afitsAll] at hf
  | [], [], _ :: _, vs, us, _, hf, _, _ => by simp [afitsAll] at hf
  | _ :: _, [], _, vs, us, hf, _, _, _ => by simp [afitsAll] at hf
  | _ :: _, _ :: _, [], vs, us, _, hf, _, _ => by simp [afitsAll] at hf
  | k :: ks, x :: l, y :: m, vs, us, hf, hf', h, h' => by
    obtain ⟨v, ws, rfl, h1, h2⟩ := concs_cons h
    obtain ⟨v', ws', rfl, h1', h2'⟩ := concs_cons h'
    simp [afitsAll] at hf hf'
    simp only [aeqs, Bool.and_eq_true, List.cons.injEq, afits_inj hf.1 hf'.1 h1 h1', afitsAll_inj hf.2 hf'.2 h2 h2']

theorem anil_sound {kd : Nat} {x : AV} {u : Value} {r : Bool} (ha : anil kd x = some r) (hu : conc ρ x = some u) : nilTest kd u = some r := by
  unfold anil at ha
  split at ha <;> simp at ha <;> subst ha <;> simp only [conc] at hu <;> (repeat' split at hu) <;> first | (simp at hu; done) | (simp at hu; subst hu; rfl)

theorem fillA_sound : ∀ {ps : List (Nat × Nat)} {z vs l : List AV} {zs us : List Value}, fillA z ps vs = some l → concs ρ z = some zs → concs ρ vs = some us → ∃ ls, fillL zs ps us = some ls ∧ concs ρ l = some ls
  | [], z, [], l, zs, us, hf, hz, hu => by
    simp [fillA] at hf; subst hf
    simp [concs] at hu; subst hu
    exact ⟨zs, rfl, hz⟩
  | [], z, _ :: _, l, zs, us, hf, hz, hu => by simp [fillA] at hf
  | _ :: _, z, [], l, zs, us, hf, hz, hu => by simp [fillA] at hf
  | (off, n) :: ps, z, x :: vs, l, zs, us, hf, hz, hu => by
    obtain ⟨u, us, rfl, h1, h2⟩ := concs_cons hu
    simp only [fillA] at hf
    split at hf
    · rename_i cl hcl
      simp only [cond_eq_ite, Bool.and_eq_true, Nat.beq_eq, Nat.ble_eq] at hf
      split at hf
      · rename_i hc
        have hcc := conc_cells h1 hcl
        have hlen := concs_len hcc
        have hlz := concs_len hz
        rw [countA_eq, countA_eq] at hc
        obtain ⟨ls, h3, h4⟩ := fillA_sound hf (concs_splice off hz hcc) h2
        refine ⟨ls, ?_, h4⟩
        simp only [fillL]
        rw [if_pos ⟨by omega, by omega⟩]
        exact h3
      · simp at hf
    · simp at hf

/-- Those that look at their operands alone. -/
theorem aop_pure (hR : Rep F h0 ρ H h) (hE : RE ρ E σ) : ∀ (op : SOp), cls op = 0 → aop P E H id op = some (v, H') → Fine F h0 ρ H' v K → sop P σ h K Qp op := by
  intro op hcls ho hK
  cases op <;> simp only [cls] at hcls <;> first | (exfalso; omega) | skip
  case mv x =>
    simp only [aop] at ho
    split at ho
    · rename_i a hx
      simp at ho; obtain ⟨rfl, rfl⟩ := ho
      obtain ⟨u, h1, h2⟩ := aev_sound hR hE hx
      simp only [sop, h2]; exact Fine.now hR hK h1
    · simp at ho
  case pick c x y =>
    simp only [aop] at ho
    split at ho
    · rename_i t a b hc hx hy
      simp at ho; obtain ⟨rfl, rfl⟩ := ho
      obtain ⟨u, h1, h2⟩ := aev_sound hR hE hx
      obtain ⟨w, h3, h4⟩ := aev_sound hR hE hy
      simp only [sop, ev_b hR hE hc, h2, h4]
      cases t
      · exact Fine.now hR hK h3
      · exact Fine.now hR hK h1
    · simp at ho
  case build z ps xs =>
    simp only [aop] at ho
    split at ho
    · rename_i zl vs hz hx
      split at ho
      · rename_i l hl
        simp at ho; obtain ⟨rfl, rfl⟩ := ho
        obtain ⟨us, h1, h2⟩ := aevs_sound hR hE hx
        obtain ⟨ls, h3, h4⟩ := fillA_sound hl (avals_conc hz) h1
        simp only [sop, h2, h3]
        exact Fine.now hR hK (by simp only [conc, h4])
      · simp at ho
    · simp at ho
  case nilck x =>
    simp only [aop] at ho
    split at ho
    · rename_i a o hx
      simp at ho; obtain ⟨rfl, rfl⟩ := ho
      obtain ⟨b, ba, cp, hp, he⟩ := ev_p hR hE hx
      simp only [sop, he]; exact Fine.now hR hK (by simp only [conc, hp])
    · rename_i f fi c hx
      simp at ho; obtain ⟨rfl, rfl⟩ := ho
      obtain ⟨vs, us, h1, h2, he⟩ := ev_f hR hE hx
      simp only [sop, he]; exact Fine.now hR hK (by simp only [conc, h1, h2])
    · rename_i l hx
      simp at ho; obtain ⟨rfl, rfl⟩ := ho
      obtain ⟨b, ba, cp, hp, he⟩ := ev_y hR hE hx
      simp only [sop, he]; exact Fine.now hR hK (by simp only [conc, hp])
    · simp at ho
  case ar op x y =>
    simp only [aop] at ho
    split at ho
    · rename_i k a k' b hx hy
      cases hk : keq k k' <;> rw [hk] at ho <;> simp at ho
      obtain ⟨rfl, rfl⟩ := ho
      simp only [sop, ev_i hR hE hx, ev_i hR hE hy]
      refine ⟨keq_eq hk, fun z hz => Fine.now hR hK ?_⟩
      rw [mkI_eq, arithF_eq, ← hz]; rfl
    · simp at ho
  case bit op x y =>
    simp only [aop] at ho
    split at ho
    · rename_i k a k' b hx hy
      cases hk : keq k k' <;> rw [hk] at ho <;> simp at ho
      obtain ⟨rfl, rfl⟩ := ho
      simp only [sop, ev_i hR hE hx, ev_i hR hE hy]
      refine ⟨keq_eq hk, fun z hz => Fine.now hR hK ?_⟩
      rw [mkI_eq, ← hz]; rfl
    · simp at ho
  case cmp op x y =>
    simp only [aop] at ho
    split at ho
    · rename_i k a k' b hx hy
      cases hk : keq k k' <;> rw [hk] at ho <;> simp only [cond_true, cond_false] at ho
      · simp at ho
      · split at ho
        · rename_i t ht
          simp at ho; obtain ⟨rfl, rfl⟩ := ho
          have := keq_eq hk; subst this
          exact acmpI_sound ht (Fine.now hR hK rfl) (ev_i hR hE hx) (ev_i hR hE hy)
        · simp at ho
    · rename_i a b hx hy
      split at ho
      · rename_i t ht
        simp at ho; obtain ⟨rfl, rfl⟩ := ho
        exact acmpS_sound ht (Fine.now hR hK rfl) (ev_s hR hE hx) (ev_s hR hE hy)
      · simp at ho
    · simp at ho
  case cmpb neg x y =>
    simp only [aop] at ho
    split at ho
    · rename_i a b hx hy
      simp at ho; obtain ⟨rfl, rfl⟩ := ho
      simp only [sop, ev_b hR hE hx, ev_b hR hE hy]
      refine ⟨fun he => ?_, fun he => ?_⟩
      · have : beqB a b = true := beqB_eq.2 he
        have := Fine.now hR hK (eqResI_conc neg (beqB a b))
        rwa [beqB_eq.2 he] at this
      · have hf : beqB a b = false := by cases hb : beqB a b; rfl; exact absurd (beqB_eq.1 hb) he
        have := Fine.now hR hK (eqResI_conc neg (beqB a b))
        rwa [hf] at this
    · simp at ho
  case cat x y =>
    simp only [aop] at ho
    split at ho
    · rename_i a b hx hy
      simp only [cond_eq_ite, Nat.blt_eq] at ho
      split at ho
      · rename_i hlt
        simp at ho; obtain ⟨rfl, rfl⟩ := ho
        simp only [sop, ev_s hR hE hx, ev_s hR hE hy]
        rw [countA_eq, countA_eq] at hlt
        refine ⟨hlt, Fine.now hR hK ?_⟩
        simp only [conc, joined_eq]
        congr 2
      · simp at ho
    · simp at ho
  case eqn kd neg x =>
    simp only [aop] at ho
    split at ho
    · rename_i a hx
      split at ho
      · rename_i r hr
        simp at ho; obtain ⟨rfl, rfl⟩ := ho
        obtain ⟨u, h1, h2⟩ := aev_sound hR hE hx
        simp only [sop, h2, anil_sound hr h1]
        exact Fine.now hR hK (eqResI_conc neg r)
      · simp at ho
    · simp at ho
  case eqa neg ks x y =>
    simp only [aop] at ho
    split at ho
    · rename_i a b hx hy
      simp only [cond_eq_ite, Bool.and_eq_true] at ho
      split at ho
      · rename_i hf
        simp at ho; obtain ⟨rfl, rfl⟩ := ho
        obtain ⟨vs, h1, h2⟩ := ev_g hR hE hx
        obtain ⟨us, h3, h4⟩ := ev_g hR hE hy
        simp only [sop, h2, h4]
        have hi := afitsAll_inj hf.1 hf.2 h1 h3
        refine ⟨afitsAll_fits hf.1 h1, afitsAll_fits hf.2 h3, fun he => ?_, fun he => ?_⟩
        · have := Fine.now hR hK (eqResI_conc neg (aeqs a b))
          rwa [hi.2 he] at this
        · have hn : aeqs a b = false := by cases hb : aeqs a b; rfl; exact absurd (hi.1 hb) he
          have := Fine.now hR hK (eqResI_conc neg (aeqs a b))
          rwa [hn] at this
      · simp at ho
    · simp at ho
  case un op x =>
    simp only [aop] at ho
    split at ho
    · rename_i t hx
      simp at ho; obtain ⟨rfl, rfl⟩ := ho
      simp only [sop, ev_b hR hE hx]; exact Fine.now hR hK rfl
    · rename_i k a hx
      simp at ho; obtain ⟨rfl, rfl⟩ := ho
      simp only [sop, ev_i hR hE hx]
      intro z hz
      refine Fine.now hR hK ?_
      rw [mkI_eq, wrapF_eq, hz]; simp [conc]
    · rename_i k a hx
      simp at ho; obtain ⟨rfl, rfl⟩ := ho
      simp only [sop, ev_i hR hE hx]
      intro z hz
      refine Fine.now hR hK ?_
      rw [mkI_eq, ← hz]; rfl
    · simp at ho
  case fa off x =>
    simp only [aop] at ho
    split at ho
    · rename_i a o hx
      simp at ho; obtain ⟨rfl, rfl⟩ := ho
      obtain ⟨b, ba, cp, hp, he⟩ := ev_p hR hE hx
      simp only [sop, he]; exact Fine.now hR hK (by simp only [conc, hp, Nat.add_assoc])
    · simp at ho
  case fl1 off x =>
    simp only [aop] at ho
    split at ho
    · rename_i l hx
      split at ho
      · rename_i a ha
        simp at ho; obtain ⟨rfl, rfl⟩ := ho
        obtain ⟨vs, h1, h2⟩ := ev_g hR hE hx
        rw [nth_eq] at ha
        obtain ⟨u, h3, h4⟩ := concs_get h1 ha
        simp only [sop, h2, h3]; exact Fine.now hR hK h4
      · simp at ho
    · simp at ho
  case fln off n x =>
    simp only [aop] at ho
    split at ho
    · rename_i l hx
      simp only [cond_eq_ite, Nat.ble_eq] at ho
      split at ho
      · rename_i hle
        split at ho
        · rename_i r hr
          simp at ho; obtain ⟨rfl, rfl⟩ := ho
          obtain ⟨vs, h1, h2⟩ := ev_g hR hE hx
          rw [dropped_eq] at hr
          obtain ⟨h3, h4⟩ := taken_eq hr
          subst h4
          have hl := concs_len h1
          rw [countA_eq] at hle
          simp only [sop, h2]
          exact ⟨by show off + n ≤ vs.length; omega, Fine.now hR hK (by simp only [conc, concs_take _ (concs_drop off h1)])⟩
        · simp at ho
      · simp at ho
    · simp at ho
  case ixa len size x i =>
    simp only [aop] at ho
    split at ho
    · rename_i a o k j hx hi
      simp only [cond_eq_ite, Nat.blt_eq] at ho
      split at ho
      · rename_i hlt
        simp at ho; obtain ⟨rfl, rfl⟩ := ho
        obtain ⟨b, ba, cp, hp, he⟩ := ev_p hR hE hx
        simp only [sop, he, ev_i hR hE hi]
        exact ⟨by simp only [Int.ofNat_eq_natCast]; omega, by simp only [Int.ofNat_eq_natCast]; omega, Fine.now hR hK (by simp [conc, hp, Nat.add_assoc])⟩
      · simp at ho
    · simp at ho
  case ixs size x i =>
    simp only [aop] at ho
    split at ho
    · rename_i a o n c k j hx hi
      simp only [cond_eq_ite, Nat.blt_eq] at ho
      split at ho
      · rename_i hlt
        simp at ho; obtain ⟨rfl, rfl⟩ := ho
        obtain ⟨b, ba, cp, hp, he⟩ := ev_sl hR hE hx
        simp only [sop, he, ev_i hR hE hi]
        exact ⟨by simp only [Int.ofNat_eq_natCast]; omega, by simp only [Int.ofNat_eq_natCast]; omega, Fine.now hR hK (by simp [conc, hp, Nat.add_assoc])⟩
      · simp at ho
    · rename_i a o n kk k j hx hi
      simp only [cond_eq_ite, Nat.blt_eq] at ho
      split at ho
      · rename_i hlt
        simp at ho; obtain ⟨rfl, rfl⟩ := ho
        obtain ⟨b, ba, cp, hp, hle, he⟩ := ev_su hR hE hx
        simp only [sop, he, ev_i hR hE hi]
        exact ⟨by simp only [Int.ofNat_eq_natCast]; omega, by simp only [Int.ofNat_eq_natCast]; omega, Fine.now hR hK (by simp [conc, hp, Nat.add_assoc])⟩
      · simp at ho
    · simp at ho
  case ixc x i =>
    simp only [aop] at ho
    split at ho
    · rename_i l k j hx hi
      split at ho
      · rename_i c hc
        simp at ho; obtain ⟨rfl, rfl⟩ := ho
        simp only [sop, ev_s hR hE hx, ev_i hR hE hi]
        rw [nth_eq] at hc
        refine ⟨c, by simp only [Int.ofNat_eq_natCast]; omega, ?_, Fine.now hR hK (by rw [mkI_eq]; rfl)⟩
        have hlt := (List.getElem?_eq_some_iff.1 hc).1
        have hcv := (List.getElem?_eq_some_iff.1 hc).2
        have : (⟨⟨l⟩⟩ : ByteArray).size = l.length := rfl
        rw [getElem?_pos (⟨⟨l⟩⟩ : ByteArray) _ (by rw [this]; exact hlt)]
        simp only [Option.some.injEq]
        exact hcv
      · simp at ho
    · simp at ho
  case ixv n size x i =>
    simp only [aop] at ho
    split at ho
    · rename_i l k j hx hi
      simp only [cond_eq_ite, Nat.blt_eq] at ho
      split at ho
      · rename_i hlt
        split at ho
        · rename_i a ha
          simp at ho; obtain ⟨rfl, rfl⟩ := ho
          obtain ⟨vs, h1, h2⟩ := ev_g hR hE hx
          rw [nth_eq] at ha
          obtain ⟨u, h3, h4⟩ := concs_get h1 ha
          simp only [sop, h2, ev_i hR hE hi]
          exact ⟨u, by simp only [Int.ofNat_eq_natCast]; omega, by simp only [Int.ofNat_eq_natCast]; omega, h3, Fine.now hR hK h4⟩
        · simp at ho
      · simp at ho
    · simp at ho
  case ixw n size x i =>
    simp only [aop] at ho
    split at ho
    · rename_i l k j hx hi
      simp only [cond_eq_ite, Nat.blt_eq, Bool.and_eq_true, Nat.ble_eq] at ho
      split at ho
      · rename_i hlt
        split at ho
        · rename_i r hr
          simp at ho; obtain ⟨rfl, rfl⟩ := ho
          obtain ⟨vs, h1, h2⟩ := ev_g hR hE hx
          rw [dropped_eq] at hr
          obtain ⟨h3, h4⟩ := taken_eq hr
          subst h4
          have hl := concs_len h1
          rw [countA_eq] at hlt
          simp only [sop, h2, ev_i hR hE hi]
          refine ⟨by simp only [Int.ofNat_eq_natCast]; omega, by simp only [Int.ofNat_eq_natCast]; omega, ?_, Fine.now hR hK (by simp only [conc]; rw [show (Int.ofNat j).toNat = j from rfl, concs_take _ (concs_drop _ h1)])⟩
          show j * size + size ≤ vs.length
          omega
        · simp at ho
      · simp at ho
    · simp at ho
  case slc size x lo hi =>
    simp only [aop] at ho
    split at ho
    · rename_i a hx
      split at ho
      · rename_i n hn
        split at ho
        · rename_i l m hl hm
          split at ho
          · rename_i u hu
            simp at ho; obtain ⟨rfl, rfl⟩ := ho
            unfold acut at hu
            split at hu
            · simp only [cond_eq_ite, Bool.and_eq_true, Nat.beq_eq] at hu
              split at hu
              · rename_i hz
                obtain ⟨rfl, rfl⟩ := hz
                simp at hu; subst hu
                simp [alen] at hn; subst hn
                simp only [sop, ev_ns hR hE hx, ev_bnd hR hE hl, ev_bnd hR hE hm]
                exact ⟨by simp, by simp, by simp, Fine.now hR hK rfl⟩
              · simp at hu
            · rename_i a o n' c
              simp only [cond_eq_ite, Bool.and_eq_true, Nat.ble_eq] at hu
              split at hu
              · rename_i hle
                simp at hu; subst hu
                simp [alen] at hn; subst hn
                obtain ⟨b, ba, cp, hp, he⟩ := ev_sl hR hE hx
                simp only [sop, he, ev_bnd hR hE hl, ev_bnd hR hE hm]
                refine ⟨by simp only [Int.ofNat_eq_natCast]; omega, by simp only [Int.ofNat_eq_natCast]; omega, by simp only [Int.ofNat_eq_natCast]; omega, ?_⟩
                show ∀ o', _ → _ → _
                intro o' h1 h2
                refine Fine.now hR hK ?_
                have e1 : ((Int.ofNat m) - (Int.ofNat l)).toNat = m - l := by simp only [Int.ofNat_eq_natCast]; omega
                have e2 : ((c : Int) - (Int.ofNat l)).toNat = c - l := by simp only [Int.ofNat_eq_natCast]; omega
                rw [e1, e2]
                simp only [conc, hp]
                by_cases hlc : l < c
                · rw [if_pos hlc, h1 (by simp only [Int.ofNat_eq_natCast]; omega)]
                  simp [Nat.add_assoc]
                · rw [if_neg hlc, h2 (by simp only [Int.ofNat_eq_natCast]; omega)]
              · simp at hu
            · rename_i a o n' k
              simp [alen] at hn; subst hn
              obtain ⟨b, ba, cp, hp, hnk, he⟩ := ev_su hR hE hx
              simp only [cond_eq_ite, Bool.and_eq_true, Nat.ble_eq, Nat.blt_eq, Nat.beq_eq] at hu
              split at hu
              · rename_i hle
                simp at hu; subst hu
                simp only [sop, he, ev_bnd hR hE hl, ev_bnd hR hE hm]
                refine ⟨by simp only [Int.ofNat_eq_natCast]; omega, by simp only [Int.ofNat_eq_natCast]; omega, by simp only [Int.ofNat_eq_natCast]; omega, ?_⟩
                show ∀ o', _ → _ → _
                intro o' h1 h2
                refine Fine.now hR hK ?_
                have e1 : ((Int.ofNat m) - (Int.ofNat l)).toNat = m - l := by simp only [Int.ofNat_eq_natCast]; omega
                have e2 : (((cp - k : Nat) : Int) - (Int.ofNat l)).toNat = cp - (k + l) := by simp only [Int.ofNat_eq_natCast]; omega
                rw [e1, e2, h1 (by simp only [Int.ofNat_eq_natCast]; omega)]
                simp only [conc, hp]
                rw [if_pos (by omega)]
                simp [Nat.add_assoc]
              · split at hu
                · rename_i hz
                  obtain ⟨rfl, rfl⟩ := hz
                  simp at hu; subst hu
                  simp only [sop, he, ev_bnd hR hE hl, ev_bnd hR hE hm]
                  refine ⟨by simp, by simp, by simp, ?_⟩
                  show ∀ o', _ → _ → _
                  intro o' h1 h2
                  refine Fine.now hR hK ?_
                  have e0 : o' = ba + o := by
                    rcases Nat.eq_zero_or_pos (cp - k) with hz | hz
                    · exact h2 (by rw [hz]; rfl)
                    · have := h1 (by simp only [Int.ofNat_eq_natCast]; omega)
                      simpa using this
                  have e2 : (((cp - k : Nat) : Int) - (Int.ofNat 0)).toNat = cp - k := by simp
                  rw [e2, e0]
                  simp only [conc, hp]
                  rw [if_pos (by omega)]
                  simp
                · simp at hu
            · simp at hu
          · simp at ho
        · simp at ho
      · simp at ho
    · simp at ho
  case slc3 size x lo hi mx =>
    simp only [aop] at ho
    split at ho
    · rename_i a o n c hx
      split at ho
      · rename_i l m k hl hm hk
        simp only [cond_eq_ite, Bool.and_eq_true, Nat.ble_eq] at ho
        split at ho
        · rename_i hle
          simp at ho; obtain ⟨rfl, rfl⟩ := ho
          obtain ⟨b, ba, cp, hp, he⟩ := ev_sl hR hE hx
          simp only [sop, he, ev_bnd hR hE hl, ev_bnd hR hE hm, ev_bnd hR hE hk]
          refine ⟨by simp only [Int.ofNat_eq_natCast]; omega, by simp only [Int.ofNat_eq_natCast]; omega, by simp only [Int.ofNat_eq_natCast]; omega, by simp only [Int.ofNat_eq_natCast]; omega, ?_⟩
          show ∀ o', _ → _ → _
          intro o' h1 h2
          refine Fine.now hR hK ?_
          have e1 : ((Int.ofNat m) - (Int.ofNat l)).toNat = m - l := by simp only [Int.ofNat_eq_natCast]; omega
          have e2 : ((((Int.ofNat k).toNat : Nat) : Int) - (Int.ofNat l)).toNat = k - l := by simp only [Int.ofNat_eq_natCast]; omega
          rw [e1, e2]
          simp only [conc, hp]
          by_cases hlc : l < k
          · rw [if_pos hlc, h1 (by simp only [Int.ofNat_eq_natCast]; omega)]
            simp [Nat.add_assoc]
          · rw [if_neg hlc, h2 (by simp only [Int.ofNat_eq_natCast]; omega)]
        · simp at ho
      · simp at ho
    · rename_i a o n kk hx
      split at ho
      · rename_i l m k hl hm hk
        simp only [cond_eq_ite, Bool.and_eq_true, Nat.ble_eq] at ho
        split at ho
        · rename_i hle
          simp at ho; obtain ⟨rfl, rfl⟩ := ho
          obtain ⟨b, ba, cp, hp, hcap, he⟩ := ev_su hR hE hx
          simp only [sop, he, ev_bnd hR hE hl, ev_bnd hR hE hm, ev_bnd hR hE hk]
          refine ⟨by simp only [Int.ofNat_eq_natCast]; omega, by simp only [Int.ofNat_eq_natCast]; omega, by simp only [Int.ofNat_eq_natCast]; omega, by simp only [Int.ofNat_eq_natCast]; omega, ?_⟩
          show ∀ o', _ → _ → _
          intro o' h1 h2
          refine Fine.now hR hK ?_
          have e1 : ((Int.ofNat m) - (Int.ofNat l)).toNat = m - l := by simp only [Int.ofNat_eq_natCast]; omega
          have e2 : ((((Int.ofNat k).toNat : Nat) : Int) - (Int.ofNat l)).toNat = k - l := by simp only [Int.ofNat_eq_natCast]; omega
          rw [e1, e2]
          simp only [conc, hp]
          by_cases hlc : l < k
          · rw [if_pos hlc, h1 (by simp only [Int.ofNat_eq_natCast]; omega)]
            simp [Nat.add_assoc]
          · rw [if_neg hlc, h2 (by simp only [Int.ofNat_eq_natCast]; omega)]
        · simp at ho
      · simp at ho
    · simp at ho
  case slp n size x lo hi =>
    simp only [aop] at ho
    split at ho
    · rename_i a o hx
      split at ho
      · rename_i l m hl hm
        simp only [cond_eq_ite, Bool.and_eq_true, Nat.ble_eq] at ho
        split at ho
        · rename_i hle
          simp at ho; obtain ⟨rfl, rfl⟩ := ho
          obtain ⟨b, ba, cp, hp, he⟩ := ev_p hR hE hx
          simp only [sop, he, ev_bnd hR hE hl, ev_bnd hR hE hm]
          refine ⟨by simp only [Int.ofNat_eq_natCast]; omega, by simp only [Int.ofNat_eq_natCast]; omega, by simp only [Int.ofNat_eq_natCast]; omega, ?_⟩
          show ∀ o', _ → _ → _
          intro o' h1 h2
          refine Fine.now hR hK ?_
          have e1 : ((Int.ofNat m) - (Int.ofNat l)).toNat = m - l := by simp only [Int.ofNat_eq_natCast]; omega
          have e2 : ((n : Int) - (Int.ofNat l)).toNat = n - l := by simp only [Int.ofNat_eq_natCast]; omega
          rw [e1, e2]
          simp only [conc, hp]
          by_cases hlc : l < n
          · rw [if_pos hlc, h1 (by simp only [Int.ofNat_eq_natCast]; omega)]
            simp [Nat.add_assoc]
          · rw [if_neg hlc, h2 (by simp only [Int.ofNat_eq_natCast]; omega)]
        · simp at ho
      · simp at ho
    · simp at ho
  case sls x lo hi =>
    simp only [aop] at ho
    split at ho
    · rename_i s hx
      split at ho
      · rename_i l m hl hm
        simp only [cond_eq_ite, Bool.and_eq_true, Nat.ble_eq] at ho
        split at ho
        · rename_i hle
          split at ho
          · rename_i r hr
            simp at ho; obtain ⟨rfl, rfl⟩ := ho
            rw [dropped_eq] at hr
            obtain ⟨h1, h2⟩ := taken_eq hr
            subst h2
            rw [countA_eq] at hm
            have hsz : (⟨⟨s⟩⟩ : ByteArray).size = s.length := rfl
            simp only [sop, ev_s hR hE hx, ev_bnd hR hE hl, hsz, ev_bnd hR hE hm]
            simp at h1
            have hms : m ≤ s.length := by rw [countA_eq] at hle; exact hle.2
            refine ⟨by simp only [Int.ofNat_eq_natCast]; omega, by simp only [Int.ofNat_eq_natCast]; omega, by simp only [Int.ofNat_eq_natCast]; omega, Fine.now hR hK ?_⟩
            simp only [conc]
            congr 2
            apply ByteArray.ext
            rw [ByteArray.data_extract]
            apply Array.ext'
            simp [List.extract_eq_take_drop]
          · simp at ho
        · simp at ho
      · simp at ho
    · simp at ho
  case len x =>
    simp only [aop] at ho
    split at ho
    · rename_i a hx
      split at ho
      · rename_i n hn
        simp at ho; obtain ⟨rfl, rfl⟩ := ho
        obtain ⟨u, h1, h2⟩ := aev_sound hR hE hx
        obtain ⟨p, c, rfl⟩ := alen_sound h1 hn
        simp only [sop, h2]; exact Fine.now hR hK rfl
      · simp at ho
    · simp at ho
  case lens x =>
    simp only [aop] at ho
    split at ho
    · rename_i l hx
      simp at ho; obtain ⟨rfl, rfl⟩ := ho
      simp only [sop, ev_s hR hE hx]
      exact Fine.now hR hK (by simp only [conc, countA_eq]; rfl)
    · simp at ho
  case sld x =>
    simp only [aop] at ho
    split at ho
    · rename_i hx
      simp at ho; obtain ⟨rfl, rfl⟩ := ho
      simp only [sop, ev_ns hR hE hx]
      exact Fine.now hR hK rfl
    · rename_i a o n c hx
      simp only [cond_eq_ite, Nat.blt_eq] at ho
      split at ho
      · rename_i hc
        simp at ho; obtain ⟨rfl, rfl⟩ := ho
        obtain ⟨b, ba, cp, hp, he⟩ := ev_sl hR hE hx
        simp only [sop, he]
        exact ⟨by omega, Fine.now hR hK (by simp only [conc, hp])⟩
      · simp at ho
    · rename_i a o n k hx
      simp only [cond_eq_ite, Nat.blt_eq] at ho
      split at ho
      · rename_i hc
        simp at ho; obtain ⟨rfl, rfl⟩ := ho
        obtain ⟨b, ba, cp, hp, hle, he⟩ := ev_su hR hE hx
        simp only [sop, he]
        exact ⟨by omega, Fine.now hR hK (by simp only [conc, hp])⟩
      · simp at ho
    · simp at ho
  case capc x =>
    simp only [aop] at ho
    split at ho
    · rename_i hx
      simp at ho; obtain ⟨rfl, rfl⟩ := ho
      simp only [sop, ev_ns hR hE hx]; exact Fine.now hR hK rfl
    · rename_i a o n c hx
      simp at ho; obtain ⟨rfl, rfl⟩ := ho
      obtain ⟨b, ba, cp, hp, he⟩ := ev_sl hR hE hx
      simp only [sop, he]; exact Fine.now hR hK rfl
    · simp at ho
  case sh k left n x =>
    simp only [aop] at ho
    split at ho
    · rename_i k' a hx
      cases hk : keq k' k <;> rw [hk] at ho <;> simp at ho
      obtain ⟨rfl, rfl⟩ := ho
      simp only [sop, ev_i hR hE hx]
      refine ⟨keq_eq hk, fun z hz => Fine.now hR hK ?_⟩
      rw [mkI_eq, hz]
      cases left <;> simp [conc, wrapF_eq]
    · simp at ho
  case shv k left x y =>
    simp only [aop] at ho
    split at ho
    · rename_i k' a k2 n hx hy
      cases hk : keq k' k <;> rw [hk] at ho <;> simp at ho
      obtain ⟨rfl, rfl⟩ := ho
      simp only [sop, ev_i hR hE hx, ev_i hR hE hy]
      refine ⟨keq_eq hk, by simp only [Int.ofNat_eq_natCast]; omega, fun z hz => Fine.now hR hK ?_⟩
      rw [mkI_eq, hz]
      cases left <;> simp [conc, wrapF_eq]
    · simp at ho
  case quo x y =>
    simp only [aop] at ho
    split at ho
    · rename_i k a k' b hx hy
      simp only [cond_eq_ite, Bool.and_eq_true, Bool.not_eq_true'] at ho
      split at ho
      · rename_i hc
        simp at ho; obtain ⟨rfl, rfl⟩ := ho
        simp only [sop, ev_i hR hE hx, ev_i hR hE hy]
        refine ⟨keq_eq hc.1, fun e => ?_, fun z hz => Fine.now hR hK (by rw [mkI_eq, wrapF_eq, hz]; rfl)⟩
        have := (ieq_iff b 0).2 e
        rw [this] at hc; simp at hc
      · simp at ho
    · simp at ho
  case rem x y =>
    simp only [aop] at ho
    split at ho
    · rename_i k a k' b hx hy
      simp only [cond_eq_ite, Bool.and_eq_true, Bool.not_eq_true'] at ho
      split at ho
      · rename_i hc
        simp at ho; obtain ⟨rfl, rfl⟩ := ho
        simp only [sop, ev_i hR hE hx, ev_i hR hE hy]
        refine ⟨keq_eq hc.1, fun e => ?_, fun z hz => Fine.now hR hK (by rw [mkI_eq, hz]; rfl)⟩
        have := (ieq_iff b 0).2 e
        rw [this] at hc; simp at hc
      · simp at ho
    · simp at ho
  case cvs x =>
    simp only [aop] at ho
    split at ho
    · rename_i l hx
      simp at ho; obtain ⟨rfl, rfl⟩ := ho
      simp only [sop, ev_s hR hE hx]; exact Fine.now hR hK rfl
    · simp at ho
  case cvt k x =>
    simp only [aop] at ho
    split at ho
    · rename_i k' a hx
      simp at ho; obtain ⟨rfl, rfl⟩ := ho
      simp only [sop, ev_i hR hE hx]
      exact fun z hz => Fine.now hR hK (by rw [mkI_eq, wrapF_eq, hz]; rfl)
    · simp at ho
  case ext x i =>
    simp only [aop] at ho
    split at ho
    · rename_i l hx
      split at ho
      · rename_i a ha
        simp at ho; obtain ⟨rfl, rfl⟩ := ho
        obtain ⟨vs, h1, h2⟩ := ev_t hR hE hx
        rw [nth_eq] at ha
        obtain ⟨u, h3, h4⟩ := concs_get h1 ha
        simp only [sop, h2, h3]; exact Fine.now hR hK h4
      · simp at ho
    · simp at ho
  case fn f a c =>
    simp only [aop] at ho
    split at ho
    · rename_i x y hx hy
      simp at ho; obtain ⟨rfl, rfl⟩ := ho
      obtain ⟨vs, h1, h2⟩ := aevs_sound hR hE hx
      obtain ⟨us, h3, h4⟩ := aevs_sound hR hE hy
      simp only [sop, h2, h4]; exact Fine.now hR hK (by simp only [conc, h1, h3])
    · simp at ho
  case mn x y =>
    simp only [aop] at ho
    split at ho
    · rename_i k a k' b hx hy
      cases hk : keq k k' <;> rw [hk] at ho <;> simp at ho
      obtain ⟨rfl, rfl⟩ := ho
      simp only [sop, ev_i hR hE hx, ev_i hR hE hy]
      refine ⟨keq_eq hk, Fine.now hR hK ?_⟩
      have := ilt_iff b a
      simp only [conc, Int.min_def]
      cases hb : ilt b a <;> rw [hb] at this <;> simp at this <;> simp <;> omega
    · simp at ho
  case mx x y =>
    simp only [aop] at ho
    split at ho
    · rename_i k a k' b hx hy
      cases hk : keq k k' <;> rw [hk] at ho <;> simp at ho
      obtain ⟨rfl, rfl⟩ := ho
      simp only [sop, ev_i hR hE hx, ev_i hR hE hy]
      refine ⟨keq_eq hk, Fine.now hR hK ?_⟩
      have := ilt_iff a b
      simp only [conc, Int.max_def]
      cases hb : ilt a b <;> rw [hb] at this <;> simp at this <;> simp <;> omega
    · simp at ho
  case mki t x =>
    simp only [aop] at ho
    split at ho
    · rename_i a hx
      simp at ho; obtain ⟨rfl, rfl⟩ := ho
      obtain ⟨u, h1, h2⟩ := aev_sound hR hE hx
      simp only [sop, h2]; exact Fine.now hR hK (by simp only [conc, h1])
    · simp at ho
  case tas t zero ok x =>
    simp only [aop] at ho
    split at ho
    · rename_i z hz hx
      cases ok <;> simp at ho
      obtain ⟨rfl, rfl⟩ := ho
      simp only [sop, ev_ni hR hE hx]
      exact ⟨by simp, Fine.now hR hK (by simp only [conc, concs, avalg_conc hz])⟩
    · rename_i z u a hz hx
      obtain ⟨w, h1, h2⟩ := ev_e hR hE hx
      simp only [sop, h2]
      simp only [cond_eq_ite, Nat.beq_eq] at ho
      split at ho
      · rename_i hut
        simp at ho; obtain ⟨rfl, rfl⟩ := ho
        refine ⟨fun _ => Fine.now hR hK ?_, fun hn => absurd hut hn⟩
        cases ok <;> simp [conc, concs, h1]
      · rename_i hut
        split at ho
        · rename_i hok
          simp at ho; obtain ⟨rfl, rfl⟩ := ho
          exact ⟨fun he => absurd he hut, fun _ => ⟨hok, Fine.now hR hK (by simp only [conc, concs, avalg_conc hz])⟩⟩
        · simp at ho
    · rename_i u a hz hx
      obtain ⟨w, h1, h2⟩ := ev_e hR hE hx
      simp only [sop, h2]
      simp only [cond_eq_ite, Bool.and_eq_true, Nat.beq_eq, Bool.not_eq_true'] at ho
      split at ho
      · rename_i hut
        obtain ⟨hut, rfl⟩ := hut
        simp at ho; obtain ⟨rfl, rfl⟩ := ho
        exact ⟨fun _ => Fine.now hR hK h1, fun hn => absurd hut hn⟩
      · simp at ho
    · simp at ho
  case eqi neg x y =>
    simp only [aop] at ho
    split at ho
    · rename_i t a hx hy
      simp at ho; obtain ⟨rfl, rfl⟩ := ho
      obtain ⟨w, h1, h2⟩ := ev_e hR hE hy
      simp only [sop, ev_ni hR hE hx, h2]; exact Fine.now hR hK rfl
    · rename_i t a hx hy
      simp at ho; obtain ⟨rfl, rfl⟩ := ho
      obtain ⟨w, h1, h2⟩ := ev_e hR hE hx
      simp only [sop, ev_ni hR hE hy, h2]; exact Fine.now hR hK rfl
    · rename_i t a u b hx hy
      obtain ⟨w, h1, h2⟩ := ev_e hR hE hx
      obtain ⟨w', h3, h4⟩ := ev_e hR hE hy
      simp only [sop, h2, h4]
      simp only [cond_eq_ite, Nat.beq_eq] at ho
      split at ho
      · rename_i htu
        split at ho
        · rename_i kd hkd
          simp only [Bool.and_eq_true] at ho
          split at ho
          · rename_i hf
            simp at ho; obtain ⟨rfl, rfl⟩ := ho
            have hi := afits_inj hf.1 hf.2 h1 h3
            refine ⟨fun hn => absurd htu hn, fun _ => ⟨kd, hkd, afits_fits hf.1 h1, afits_fits hf.2 h3, fun he => ?_, fun he => ?_⟩⟩
            · have := Fine.now hR hK (eqResI_conc neg (aeq a b))
              rwa [hi.2 he] at this
            · have hn : aeq a b = false := by cases hb : aeq a b; rfl; exact absurd (hi.1 hb) he
              have := Fine.now hR hK (eqResI_conc neg (aeq a b))
              rwa [hn] at this
          · simp at ho
        · simp at ho
      · rename_i htu
        simp at ho; obtain ⟨rfl, rfl⟩ := ho
        exact ⟨fun _ => Fine.now hR hK rfl, fun he => absurd he htu⟩
    · simp at ho

end
end Go.Sx
