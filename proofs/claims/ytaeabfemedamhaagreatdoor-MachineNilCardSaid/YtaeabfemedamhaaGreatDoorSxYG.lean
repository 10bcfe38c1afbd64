/-
  Runs of simplified code: each operation that calls nothing, soundly (3).
-/
import Derived.Test.YtaeabfemedamhaaGreatDoorSxYF
namespace Go.Sx
open Go

section
variable {P : Program} {ρ : Rho} {F : Nat → Prop} {h0 h h' : Heap} {H H' : AH} {E : AE} {σ : Env} {id : Nat} {v : AV} {K : Value → Heap → Prop} {Qp : List PanicEntry → Heap → Prop}

theorem countA_zero {l : List AV} {vs : List Value} (hc : concs ρ l = some vs) : countA l = 0 ↔ vs = [] := by
  have := concs_len hc
  rw [countA_eq]
  constructor
  · intro h; exact List.eq_nil_of_length_eq_zero (by omega)
  · rintro rfl; simp at this; omega

theorem copies_conc {z : List AV} {zs : List Value} (hz : concs ρ z = some zs) (n : Nat) : concs ρ (copies n z) = some ((List.replicate n zs).flatten) := by
  rw [copies_eq]; exact concs_rep hz n

/-- What is written into a slice, of whole blocks. -/
theorem wr_sound (hR : Rep F h0 ρ H h) {_x : AV} {_xv : Value} {a o : Nat} {ys : List AV} {yv : List Value} {KK : Heap → Prop} {g : Nat} {l : List AV} {addr : Option Addr} (hx : ∃ b ba cp, ρ.pl a = some (b, ba, cp) ∧ addr = some ⟨b, ba + o, none⟩)
    (hg : getB H a = some (false, g, l)) (hy : concs ρ ys = some yv) (h1 : onesA ys = true) (hne : countA ys ≠ 0) (hs : setB H a false g l o ys = some H') (hK : ∀ h', Rep F h0 ρ H' h' → KK h') : wrP h KK addr yv := by
  obtain ⟨b, ba, cp, hp, rfl⟩ := hx
  obtain ⟨vs, pre, tail, hc⟩ := hR.cells hg hp
  obtain ⟨w1, w2⟩ := hR.wrote hg hp hc hy hs
  exact ⟨fun e => absurd ((countA_zero hy).2 e) hne, fun _ => ⟨_, hc.strict rfl, w1, concs_ones hy h1, fun h' hP => hK h' (w2 h' (fun _ => hP) hP.w)⟩⟩
theorem wrb_sound (hR : Rep F h0 ρ H h) {a o : Nat} {ys : List AV} {yv : List Value} {KK : Heap → Prop} {g : Nat} {w : Bool} {l : List AV} {addr : Option Addr} (hx : ∃ b ba cp, ρ.pl a = some (b, ba, cp) ∧ addr = some ⟨b, ba + o, none⟩)
    (hg : getB H a = some (w, g, l)) (hy : concs ρ ys = some yv) (h1 : onesA ys = true) (hne : countA ys ≠ 0) (hs : setB H a true g l o ys = some H') (hK : ∀ h', Rep F h0 ρ H' h' → KK h') : wrB h KK addr yv := by
  obtain ⟨b, ba, cp, hp, rfl⟩ := hx
  obtain ⟨vs, pre, tail, hc⟩ := hR.cells hg hp
  obtain ⟨w1, w2⟩ := hR.wrote hg hp hc hy hs
  exact ⟨fun e => absurd ((countA_zero hy).2 e) hne, fun _ => ⟨_, hc.wide, w1, concs_ones hy h1, fun h' hP => hK h' (w2 h' (fun e => by simp at e) hP)⟩⟩

theorem decode_ascii {l : List UInt8} {pos : Nat} {c : UInt8} (hc : l[pos]? = some c) (h : c.toNat < 128) : Utf8.decode ⟨⟨l⟩⟩ pos = (c.toNat, 1) := by
  have hg : (ByteArray.mk ⟨l⟩).get! pos = c := by
    have := (List.getElem?_eq_some_iff.1 hc)
    obtain ⟨hlt, he⟩ := this
    simp [ByteArray.get!, hlt, he]
  unfold Utf8.decode
  simp only [Nat.add_zero, hg]
  rw [if_pos h]

theorem aop_mem (hR : Rep F h0 ρ H h) (hE : RE ρ E σ) : ∀ (op : SOp), cls op ≠ 0 → aop P E H id op = some (v, H') → Fine F h0 ρ H' v K → sop P σ h K Qp op := by
  intro op hcls ho hK
  cases op <;> simp only [cls, ne_eq, not_true_eq_false] at hcls <;> try (simp only [aop] at ho; cases ho; done)
  case new z =>
    simp only [aop] at ho
    split at ho
    · rename_i l hl
      split at ho
      · rename_i H1 hg
        simp at ho; obtain ⟨rfl, rfl⟩ := ho
        simp only [sop]
        intro b h' hG
        obtain ⟨ρ', h1, h2, h3⟩ := hR.newCells (cp := 0) hg (avals_conc hl) (show Grow h h' b (z ++ []) by rw [List.append_nil]; exact hG) (by simp)
        exact hK ρ' h' _ h1 h3 (by simp only [conc, h2])
      · simp at ho
    · simp at ho
  case newT t z =>
    simp only [aop] at ho
    split at ho
    · rename_i l hl
      split at ho
      · rename_i H1 hg
        simp at ho; obtain ⟨rfl, rfl⟩ := ho
        simp only [sop]
        intro b h' hG hT
        obtain ⟨ρ', h1, h2, h3⟩ := hR.newCellsT (sz := 0) (ty := t) (cp := 0) gM_pos (by rw [Nat.zero_add]; exact hg) (avals_conc hl) (show Grow h h' b (z ++ []) by rw [List.append_nil]; exact hG) (by simp) (fun _ => ⟨hT, fun _ => rfl⟩)
        exact hK ρ' h' _ h1 h3 (by simp only [conc, h2])
      · simp at ho
    · simp at ho
  case p2u x =>
    simp only [aop] at ho
    split at ho
    · rename_i a o hx
      split at ho
      · rename_i w g l hg
        simp only [cond_eq_ite, Nat.blt_eq] at ho
        split at ho
        · rename_i hlt
          simp at ho; obtain ⟨rfl, rfl⟩ := ho
          rw [countA_eq] at hlt
          obtain ⟨b, ba, cp, hp, he⟩ := ev_p hR hE hx
          obtain ⟨vs, pre, tail, hc⟩ := hR.cells hg hp
          have hvl := concs_len hc.cs
          simp only [sop, he]
          exact ⟨_, hc.wide, by simp [hc.pl]; omega, Fine.now hR hK (by simp only [conc, hp])⟩
        · simp at ho
      · simp at ho
    · simp at ho
  case u2p t n x =>
    simp only [aop] at ho
    split at ho
    · rename_i a hx
      split at ho
      · rename_i w g l hg
        simp only [cond_eq_ite, Bool.and_eq_true, Nat.beq_eq, Nat.blt_eq] at ho
        split at ho
        · rename_i hcond
          obtain ⟨⟨rfl, ht0⟩, hln⟩ := hcond
          simp at ho; obtain ⟨rfl, rfl⟩ := ho
          rw [countA_eq] at hln
          obtain ⟨b, ba, cp, hp, he⟩ := ev_p hR hE hx
          obtain ⟨vs, pre, tail, hc⟩ := hR.cells hg hp
          have hvl := concs_len hc.cs
          have hd : gM * t / gM = t := Nat.mul_div_cancel_left t gM_pos
          have hm : gM * t % gM = 0 := Nat.mul_mod_right gM t
          obtain ⟨rfl, h2, h3⟩ := hc.tag (by rw [hd]; omega)
          rw [hd] at h2
          have hpl := hc.pl
          simp only [sop, he, Nat.add_zero]
          refine ⟨_, hc.wide, ?_, h2, Fine.now hR hK (by simp only [conc, hp])⟩
          rw [h3 hm]; simp; omega
        · simp at ho
      · simp at ho
    · simp at ho
  case ust e x n =>
    simp only [aop] at ho
    split at ho
    · rename_i hx hn
      simp at ho; obtain ⟨rfl, rfl⟩ := ho
      simp only [sop, ev_np hR hE hx, ev_i hR hE hn]
      exact ⟨fun _ => Fine.now hR hK rfl, fun h => absurd rfl h⟩
    · rename_i a o m hx hn
      obtain ⟨b, ba, cp, hp, he⟩ := ev_p hR hE hx
      simp only [sop, he, ev_i hR hE hn]
      simp only [cond_eq_ite, Bool.and_eq_true, Nat.beq_eq, Nat.blt_eq] at ho
      split at ho
      · rename_i hm
        subst hm
        simp at ho; obtain ⟨rfl, rfl⟩ := ho
        exact ⟨fun _ => Fine.now hR hK rfl, fun h => absurd rfl h⟩
      · rename_i hm
        split at ho
        · rename_i w g l hg
          split at ho
          · rename_i hcond
            obtain ⟨⟨⟨rfl, rfl⟩, he0⟩, h63⟩ := hcond
            split at ho
            · rename_i vs hvs
              split at ho
              · rename_i bs hbs
                split at ho
                · rename_i H1 hput
                  simp at ho; obtain ⟨rfl, rfl⟩ := ho
                  refine ⟨fun h => absurd h (by simp only [Int.ofNat_eq_natCast]; omega), fun _ => ?_⟩
                  obtain ⟨ws, pre, tail, hc⟩ := hR.cells hg hp
                  obtain ⟨rfl, h2, _⟩ := hc.tag (by omega)
                  have hvl := concs_len hc.cs
                  have hpl := hc.pl
                  obtain ⟨us, h3, h4, h5⟩ := hc.part (o := 0) (n := m) (r := vs) (by rw [dropped_eq, List.drop_zero]; exact hvs)
                  obtain ⟨_, hle⟩ := taken_eq hvs
                  obtain ⟨e1, e2⟩ := abytes_sound (ρ := ρ) hbs
                  rw [h3] at e1
                  simp at e1
                  subst e1
                  have hlen : bs.length = m := by rw [← h4]; simp
                  have hml := (taken_eq hvs).1
                  refine ⟨b, bs, pre ++ (ws ++ tail), rfl, by rw [hlen]; rfl, by omega, hc.wide, h2, by simp; omega, fun j x hx => ?_, fun h' hsz hold => ?_⟩
                  · have := h5 j (.int .u8 x.toNat) (by simp [hx])
                    simpa using this
                  · exact hK ρ h' _ (Le.refl ρ) (hR.set (getB_get hg) (by simp) hp hput hsz (fun k hk => hold k hk) fun h => absurd rfl h) rfl
                · simp at ho
              · simp at ho
            · simp at ho
          · simp at ho
        · simp at ho
    · simp at ho
  case rngs x =>
    simp only [aop] at ho
    split at ho
    · rename_i l hx
      split at ho
      · rename_i H1 hg
        simp at ho; obtain ⟨rfl, rfl⟩ := ho
        simp only [sop, ev_s hR hE hx]
        intro b h' hG
        obtain ⟨ρ', h1, h2, h3⟩ := hR.new (cp := 0) hg hG.id hG.size hG.old fun ρ' hl _ => ⟨hG.blk, rfl⟩
        exact hK ρ' h' _ h1 h3 (by simp only [conc, h2])
      · simp at ho
    · simp at ho
  case nxts x =>
    simp only [aop] at ho
    split at ho
    · rename_i r hx
      obtain ⟨b, ba, cp, hp, he⟩ := ev_p hR hE hx
      split at ho
      · rename_i l pos hr
        obtain ⟨q, hq, _, _, i1, i2⟩ := hR.obj r _ hr (by simp)
        rw [hp] at hq; simp at hq; subst hq
        simp at i1 i2
        subst i2
        simp only [sop, he, Nat.add_zero]
        refine ⟨_, _, i1, fun hge => ?_, fun hlt => ?_⟩
        · have hge : l.length ≤ pos := hge
          split at ho
          · rename_i c hc
            rw [nth_eq] at hc
            have := (List.getElem?_eq_some_iff.1 hc).1
            omega
          · simp only [cond_eq_ite, Nat.ble_eq] at ho
            split at ho
            · simp at ho; obtain ⟨rfl, rfl⟩ := ho
              exact Fine.now hR hK rfl
            · simp at ho
        · have hlt : pos < l.length := hlt
          split at ho
          · rename_i c hc
            rw [nth_eq] at hc
            simp only [cond_eq_ite, Nat.blt_eq] at ho
            split at ho
            · rename_i h128
              split at ho
              · rename_i H1 hput
                simp at ho; obtain ⟨rfl, rfl⟩ := ho
                have hdec := decode_ascii hc h128
                intro h' hP
                rw [hdec] at hP ⊢
                refine hK ρ h' _ (Le.refl ρ) (hR.set hr (by simp) hp hput hP.size (fun k hk => hP.old k hk) fun _ => ⟨hP.blk, rfl⟩) ?_
                simp [mkI_eq, conc, concs]
              · simp at ho
            · simp at ho
          · rename_i hc
            rw [nth_eq] at hc
            have := List.getElem?_eq_none_iff.1 hc
            omega
      · simp at ho
    · simp at ho
  case box x =>
    simp only [aop] at ho
    split at ho
    · rename_i a hx
      split at ho
      · rename_i l hl
        split at ho
        · rename_i H1 hg
          simp at ho; obtain ⟨rfl, rfl⟩ := ho
          obtain ⟨u, h1, h2⟩ := aev_sound hR hE hx
          simp only [sop, h2]
          intro b h' hG
          obtain ⟨ρ', h3, h4, h5⟩ := hR.newCells (cp := 0) hg (conc_cells h1 hl) (show Grow h h' b (u.cells.toList ++ []) by rw [List.append_nil]; exact hG) (by simp)
          exact hK ρ' h' _ h3 h5 (by simp only [conc, h4])
        · simp at ho
      · simp at ho
    · simp at ho
  case bslice z n ps xs =>
    simp only [aop] at ho
    split at ho
    · rename_i zl vs hz hx
      split at ho
      · rename_i l hl
        split at ho
        · rename_i H1 hg
          simp at ho; obtain ⟨rfl, rfl⟩ := ho
          obtain ⟨us, h1, h2⟩ := aevs_sound hR hE hx
          obtain ⟨ls, h3, h4⟩ := fillA_sound hl (avals_conc hz) h1
          simp only [sop, h2, h3]
          intro b h' hG
          obtain ⟨ρ', h5, h6, h7⟩ := hR.newCells (cp := 0) hg h4 (show Grow h h' b (ls ++ []) by rw [List.append_nil]; exact hG) (by simp)
          exact hK ρ' h' _ h5 h7 (by simp only [conc, h6, Nat.add_zero])
        · simp at ho
      · simp at ho
    · simp at ho
  case ld1 x =>
    simp only [aop] at ho
    split at ho
    · rename_i a o hx
      split at ho
      · rename_i w g l hg
        split at ho
        · rename_i y hy
          simp at ho; obtain ⟨rfl, rfl⟩ := ho
          obtain ⟨b, ba, cp, hp, he⟩ := ev_p hR hE hx
          obtain ⟨vs, pre, tail, hc⟩ := hR.cells hg hp
          obtain ⟨u, h1, h2⟩ := hc.at hy
          simp only [sop, he]
          exact ⟨u, h2, Fine.now hR hK h1⟩
        · simp at ho
      · simp at ho
    · simp at ho
  case ldn n x =>
    simp only [aop] at ho
    split at ho
    · rename_i a o hx
      split at ho
      · rename_i w g l hg
        split at ho
        · rename_i r hr
          simp at ho; obtain ⟨rfl, rfl⟩ := ho
          obtain ⟨b, ba, cp, hp, he⟩ := ev_p hR hE hx
          obtain ⟨vs, pre, tail, hc⟩ := hR.cells hg hp
          obtain ⟨us, h1, h2, h3⟩ := hc.part hr
          simp only [sop, he]
          exact ⟨us, h2, h3, Fine.now hR hK (by simp only [conc, h1])⟩
        · simp at ho
      · simp at ho
    · simp at ho
  case st n x y =>
    simp only [aop] at ho
    split at ho
    · rename_i a o yv hx hy
      split at ho
      · rename_i g l vs hg hc
        simp only [cond_eq_ite, Bool.and_eq_true, Nat.beq_eq] at ho
        split at ho
        · rename_i hcond
          split at ho
          · rename_i H1 hs
            simp at ho; obtain ⟨rfl, rfl⟩ := ho
            obtain ⟨b, ba, cp, hp, he⟩ := ev_p hR hE hx
            obtain ⟨u, h1, h2⟩ := aev_sound hR hE hy
            have hcc := conc_cells h1 hc
            obtain ⟨ws, pre, tail, hca⟩ := hR.cells hg hp
            obtain ⟨w1, w2⟩ := hR.wrote hg hp hca hcc hs
            have hlen := concs_len hcc
            rw [countA_eq] at hcond
            simp only [sop, he, h2]
            exact ⟨_, hca.strict rfl, by omega, by omega, concs_ones hcc hcond.2, fun h' hP => hK ρ h' _ (Le.refl ρ) (w2 h' (fun _ => hP) hP.w) rfl⟩
          · simp at ho
        · simp at ho
      · simp at ho
    · simp at ho
  case stb x y =>
    simp only [aop] at ho
    split at ho
    · rename_i a o yv hx hy
      split at ho
      · rename_i w g l vs hg hc
        simp only [cond_eq_ite, Bool.and_eq_true, Nat.beq_eq] at ho
        split at ho
        · rename_i hcond
          split at ho
          · rename_i H1 hs
            simp at ho; obtain ⟨rfl, rfl⟩ := ho
            obtain ⟨b, ba, cp, hp, he⟩ := ev_p hR hE hx
            obtain ⟨u, h1, h2⟩ := aev_sound hR hE hy
            have hcc := conc_cells h1 hc
            obtain ⟨ws, pre, tail, hca⟩ := hR.cells hg hp
            obtain ⟨w1, w2⟩ := hR.wrote hg hp hca hcc hs
            have hlen := concs_len hcc
            rw [countA_eq] at hcond
            simp only [sop, he, h2]
            exact ⟨_, hca.wide, by omega, by omega, concs_ones hcc hcond.2, fun h' hP => hK ρ h' _ (Le.refl ρ) (w2 h' (fun e => by simp at e) hP) rfl⟩
          · simp at ho
        · simp at ho
      · simp at ho
    · simp at ho
  case eqp neg x y =>
    simp only [aop] at ho
    split at ho
    · rename_i hx hy
      simp at ho; obtain ⟨rfl, rfl⟩ := ho
      simp only [sop, ev_np hR hE hx, ev_np hR hE hy]; exact Fine.now hR hK rfl
    · rename_i a o hx hy
      simp at ho; obtain ⟨rfl, rfl⟩ := ho
      obtain ⟨b, ba, cp, hp, he⟩ := ev_p hR hE hy
      simp only [sop, ev_np hR hE hx, he]; exact Fine.now hR hK rfl
    · rename_i a o hx hy
      simp at ho; obtain ⟨rfl, rfl⟩ := ho
      obtain ⟨b, ba, cp, hp, he⟩ := ev_p hR hE hx
      simp only [sop, ev_np hR hE hy, he]; exact Fine.now hR hK rfl
    · rename_i a o a' o' hx hy
      split at ho
      · rename_i g l1 l g' l1' l' hg hg'
        simp at ho; obtain ⟨rfl, rfl⟩ := ho
        obtain ⟨b, ba, cp, hp, he⟩ := ev_p hR hE hx
        obtain ⟨b', ba', cp', hp', he'⟩ := ev_p hR hE hy
        obtain ⟨ws, pre, tail, hca⟩ := hR.cells hg hp
        obtain ⟨ws', pre', tail', hca'⟩ := hR.cells hg' hp'
        have n1 : pre ++ (ws ++ tail) ≠ [] := by
          have := concs_len hca.cs
          intro e; have := congrArg List.length e; simp at this; simp_all
        have n2 : pre' ++ (ws' ++ tail') ≠ [] := by
          have := concs_len hca'.cs
          intro e; have := congrArg List.length e; simp at this; simp_all
        simp only [sop, he, he']
        refine ⟨⟨_, hca.strict rfl, n1⟩, ⟨_, hca'.strict rfl, n2⟩, fun e1 e2 => ?_, fun hn => ?_⟩
        · have haa : a = a' := by
            by_cases h : a = a'
            · exact h
            · exact absurd e1 (hR.inj a a' _ _ _ _ (getB_get hg) (by simp) (getB_get hg') (by simp) hp hp' h)
          subst haa
          rw [hp] at hp'; simp at hp'
          have hoo : o = o' := by omega
          have := Fine.now hR hK (eqResI_conc neg (Nat.beq a a && Nat.beq o o'))
          rw [hoo] at this
          simpa using this
        · have hf : (Nat.beq a a' && Nat.beq o o') = false := by
            cases hb : (Nat.beq a a' && Nat.beq o o') with
            | false => rfl
            | true =>
              exfalso
              simp only [Bool.and_eq_true, Nat.beq_eq] at hb
              obtain ⟨rfl, rfl⟩ := hb
              rw [hp] at hp'; simp at hp'
              exact hn ⟨hp'.1, by omega⟩
          have := Fine.now hR hK (eqResI_conc neg (Nat.beq a a' && Nat.beq o o'))
          rwa [hf] at this
      · simp at ho
    · simp at ho
  case bstr x =>
    simp only [aop] at ho
    split at ho
    · rename_i a hx
      split at ho
      · rename_i n hn
        split at ho
        · rename_i vs hvs
          split at ho
          · rename_i bs hbs
            simp at ho; obtain ⟨rfl, rfl⟩ := ho
            obtain ⟨u, h1, h2⟩ := aev_sound hR hE hx
            obtain ⟨p, m, c, us, rfl, h3, h4, h5, h6⟩ := readS_sound hR h1 hvs
            obtain ⟨p', c', he⟩ := alen_sound h1 hn
            simp at he
            obtain ⟨rfl, rfl, rfl⟩ := he
            obtain ⟨h7, h8⟩ := abytes_sound (ρ := ρ) hbs
            rw [h3] at h7; simp at h7; subst h7
            simp only [sop, h2]
            have hl := concs_len h3
            refine ⟨bs, by omega, ?_, Fine.now hR hK rfl⟩
            unfold Src at h5
            unfold Src0
            split at h5
            · exact h5
            · exact h5
            · rename_i b o s
              have := h6 b o (some s) rfl
              simp at this
          · simp at ho
        · simp at ho
      · simp at ho
    · simp at ho
  case lenm x =>
    simp only [aop] at ho
    split at ho
    · rename_i hx
      simp at ho; obtain ⟨rfl, rfl⟩ := ho
      simp only [sop, ev_nm hR hE hx]; exact Fine.now hR hK rfl
    · rename_i a hx
      split at ho
      · rename_i es c hg
        simp at ho; obtain ⟨rfl, rfl⟩ := ho
        obtain ⟨b, ba, cp, hp, he⟩ := ev_m hR hE hx
        obtain ⟨ms, h1, h2⟩ := hR.mapOf hg hp
        simp only [sop, he]
        exact ⟨ms, c, h1, Fine.now hR hK (by simp only [conc, countA_eq, h2.len])⟩
      · simp at ho
    · simp at ho
  case mks bytes z x y =>
    simp only [aop] at ho
    split at ho
    · rename_i zl n c hz hx hy
      simp only [cond_eq_ite, Bool.and_eq_true, Nat.ble_eq, Nat.blt_eq] at ho
      split at ho
      · rename_i hcond
        split at ho
        · rename_i H1 hg
          simp at ho; obtain ⟨rfl, rfl⟩ := ho
          simp only [sop, ev_i hR hE hx, ev_i hR hE hy]
          refine ⟨by simp only [Int.ofNat_eq_natCast]; omega, by simp only [Int.ofNat_eq_natCast]; omega, ?_, by simp only [Int.ofNat_eq_natCast]; omega, fun b h' hG => ?_⟩
          · have := hcond.1.2
            simp only [Int.ofNat_eq_natCast]
            rw [← Int.natCast_mul]; omega
          · obtain ⟨ρ', h5, h6, h7⟩ := hR.newCells (cp := 0) hg (copies_conc (avals_conc hz) c) (show Grow h h' b ((List.replicate c z).flatten ++ []) by rw [List.append_nil]; exact hG) (by simp)
            exact hK ρ' h' _ h5 h7 (by simp [conc, h6])
        · simp at ho
      · simp at ho
    · simp at ho
  case mkm =>
    simp only [aop] at ho
    split at ho
    · rename_i H1 hg
      simp at ho; obtain ⟨rfl, rfl⟩ := ho
      simp only [sop]
      intro b h' hG
      obtain ⟨ρ', h1, h2, h3⟩ := hR.new (cp := 0) hg hG.id hG.size hG.old fun ρ' hl _ => ⟨[], hG.blk, trivial⟩
      exact hK ρ' h' _ h1 h3 (by simp only [conc, h2])
    · simp at ho
  case look kd zero ok m k =>
    simp only [aop] at ho
    split at ho
    · rename_i z a hz hm hk
      simp only [cond_eq_ite] at ho
      split at ho
      · rename_i hf
        simp at ho; obtain ⟨rfl, rfl⟩ := ho
        obtain ⟨kv, h1, h2⟩ := aev_sound hR hE hk
        simp only [sop, ev_nm hR hE hm, h2]
        refine ⟨afits_fits hf h1, Fine.now hR hK ?_⟩
        cases ok <;> simp [conc, concs, avalg_conc hz]
      · simp at ho
    · rename_i z ma a hz hm hk
      split at ho
      · rename_i es c hg
        simp only [cond_eq_ite, Bool.and_eq_true] at ho
        split at ho
        · rename_i hf
          obtain ⟨kv, h1, h2⟩ := aev_sound hR hE hk
          obtain ⟨b, ba, cp, hp, he⟩ := ev_m hR hE hm
          obtain ⟨ms, h3, h4⟩ := hR.mapOf hg hp
          obtain ⟨f1, f2⟩ := h4.find hf.1 h1 0 hf.2
          simp only [sop, he, h2]
          refine ⟨afits_fits hf.1 h1, ms, c, h3, h4.fits hf.2, ?_⟩
          split at ho
          · rename_i j x hfind
            simp at ho; obtain ⟨rfl, rfl⟩ := ho
            obtain ⟨u, h5, h6⟩ := f1 j x hfind
            simp only [h5]
            refine Fine.now hR hK ?_
            cases ok <;> simp [conc, concs, h6]
          · rename_i hfind
            simp at ho; obtain ⟨rfl, rfl⟩ := ho
            simp only [f2 hfind]
            refine Fine.now hR hK ?_
            cases ok <;> simp [conc, concs, avalg_conc hz]
        · simp at ho
      · simp at ho
    · simp at ho
  case mup kd m k x =>
    simp only [aop] at ho
    split at ho
    · rename_i ma ka xa hm hk hx
      split at ho
      · rename_i es c hg
        simp only [cond_eq_ite, Bool.and_eq_true] at ho
        split at ho
        · rename_i hf
          obtain ⟨kv, h1, h2⟩ := aev_sound hR hE hk
          obtain ⟨xv, h1', h2'⟩ := aev_sound hR hE hx
          obtain ⟨b, ba, cp, hp, he⟩ := ev_m hR hE hm
          obtain ⟨ms, h3, h4⟩ := hR.mapOf hg hp
          obtain ⟨f1, f2⟩ := h4.find hf.1 h1 0 hf.2
          simp only [sop, he, h2, h2']
          refine ⟨afits_fits hf.1 h1, ms, c, h3, h4.fits hf.2, ?_⟩
          split at ho
          · rename_i j y hfind
            split at ho
            · rename_i H1 hput
              simp at ho; obtain ⟨rfl, rfl⟩ := ho
              obtain ⟨u, h5, h6⟩ := f1 j y hfind
              simp only [h5]
              exact fun h' hP => hK ρ h' _ (Le.refl ρ) (hR.setMap hg hp hput hP (h4.set h1' j)) rfl
            · simp at ho
          · rename_i hfind
            split at ho
            · rename_i H1 hput
              simp at ho; obtain ⟨rfl, rfl⟩ := ho
              simp only [f2 hfind]
              exact fun h' hP => hK ρ h' _ (Le.refl ρ) (hR.setMap hg hp hput hP (by rw [joined_eq]; exact h4.app h1 h1')) rfl
            · simp at ho
        · simp at ho
      · simp at ho
    · simp at ho
  case mdel kd m k =>
    simp only [aop] at ho
    split at ho
    · rename_i ka hm hk
      simp only [cond_eq_ite] at ho
      split at ho
      · rename_i hf
        simp at ho; obtain ⟨rfl, rfl⟩ := ho
        obtain ⟨kv, h1, h2⟩ := aev_sound hR hE hk
        simp only [sop, ev_nm hR hE hm, h2]
        exact ⟨afits_fits hf h1, Fine.now hR hK rfl⟩
      · simp at ho
    · rename_i ma ka hm hk
      split at ho
      · rename_i es c hg
        simp only [cond_eq_ite, Bool.and_eq_true] at ho
        split at ho
        · rename_i hf
          obtain ⟨kv, h1, h2⟩ := aev_sound hR hE hk
          obtain ⟨b, ba, cp, hp, he⟩ := ev_m hR hE hm
          obtain ⟨ms, h3, h4⟩ := hR.mapOf hg hp
          obtain ⟨f1, f2⟩ := h4.find hf.1 h1 0 hf.2
          simp only [sop, he, h2]
          refine ⟨afits_fits hf.1 h1, ms, c, h3, h4.fits hf.2, ?_⟩
          split at ho
          · rename_i j y hfind
            split at ho
            · rename_i H1 hput
              simp at ho; obtain ⟨rfl, rfl⟩ := ho
              obtain ⟨u, h5, h6⟩ := f1 j y hfind
              simp only [h5]
              exact fun h' hP => hK ρ h' _ (Le.refl ρ) (hR.setMap hg hp hput hP (h4.del j)) rfl
            · simp at ho
          · rename_i hfind
            split at ho
            · rename_i H1 hput
              simp at ho; obtain ⟨rfl, rfl⟩ := ho
              simp only [f2 hfind]
              exact fun h' hP => hK ρ h' _ (Le.refl ρ) (hR.setMap hg hp hput hP h4) rfl
            · simp at ho
        · simp at ho
      · simp at ho
    · simp at ho
  case clrm x =>
    simp only [aop] at ho
    split at ho
    · rename_i hx
      simp at ho; obtain ⟨rfl, rfl⟩ := ho
      simp only [sop, ev_nm hR hE hx]; exact Fine.now hR hK rfl
    · rename_i a hx
      split at ho
      · rename_i es c hg
        split at ho
        · rename_i H1 hput
          simp at ho; obtain ⟨rfl, rfl⟩ := ho
          obtain ⟨b, ba, cp, hp, he⟩ := ev_m hR hE hx
          obtain ⟨ms, h3, h4⟩ := hR.mapOf hg hp
          simp only [sop, he]
          exact ⟨ms, c, h3, fun h' hP => hK ρ h' _ (Le.refl ρ) (hR.setMap hg hp hput hP trivial) rfl⟩
        · simp at ho
      · simp at ho
    · simp at ho
  case byts x =>
    simp only [aop] at ho
    split at ho
    · rename_i l hx
      split at ho
      · rename_i H1 hg
        simp at ho; obtain ⟨rfl, rfl⟩ := ho
        simp only [sop, ev_s hR hE hx]
        intro c b h' hc hG
        have hsz : (⟨⟨l⟩⟩ : ByteArray).size = l.length := rfl
        obtain ⟨ρ', h5, h6, h7⟩ := hR.newCellsW (cp := c) hg (byteCells_conc l) hG (fun _ => by have hc' : l.length ≤ c := hc; simp [abyteCells, hsz]; omega)
        refine hK ρ' h' _ h5 h7 ?_
        simp only [conc, h6, countA_eq]
        rw [hsz] at hc
        rw [if_pos (by omega)]
        simp [hsz]
      · simp at ho
    · simp at ho
  case app size bytes z x y =>
    simp only [aop] at ho
    split at ho
    · rename_i xa ya hx hy
      split at ho
      · rename_i m hm
        split at ho
        · rename_i ys hys
          simp only [cond_eq_ite, Bool.and_eq_true, Nat.beq_eq] at ho
          split at ho
          · rename_i h1
            obtain ⟨xv, hxc, hxe⟩ := aev_sound hR hE hx
            obtain ⟨yv, hyc, hye⟩ := aev_sound hR hE hy
            obtain ⟨p, m', c, us, rfl, h3, h4, h5, h6⟩ := readS_sound hR hyc hys
            obtain ⟨p', c', he⟩ := alen_sound hyc hm
            simp at he
            obtain ⟨rfl, rfl, rfl⟩ := he
            rw [countA_eq] at h1
            obtain ⟨a, n, c, rfl, hap⟩ := appA_sound (z := z) hR hxc h1.2 h3 h4 h5 h1.1 ho hK
            simp only [sop, hxe, hye]
            exact hap
          · simp at ho
        · simp at ho
      · simp at ho
    · simp at ho
  case appn size bytes z y =>
    simp only [aop] at ho
    split at ho
    · rename_i ya hy
      split at ho
      · rename_i m hm
        split at ho
        · rename_i ys hys
          simp only [cond_eq_ite, Bool.and_eq_true, Nat.beq_eq] at ho
          split at ho
          · rename_i h1
            obtain ⟨yv, hyc, hye⟩ := aev_sound hR hE hy
            obtain ⟨p, m', c, us, rfl, h3, h4, h5, h6⟩ := readS_sound hR hyc hys
            obtain ⟨p', c', he⟩ := alen_sound hyc hm
            simp at he
            obtain ⟨rfl, rfl, rfl⟩ := he
            rw [countA_eq] at h1
            obtain ⟨a, n, c, hs, hap⟩ := appA_sound (x := .ns) (xv := .slice none 0 0) (z := z) hR rfl h1.2 h3 h4 h5 h1.1 ho hK
            simp at hs
            obtain ⟨rfl, rfl, rfl⟩ := hs
            simp only [sop, hye]
            exact hap
          · simp at ho
        · simp at ho
      · simp at ho
    · simp at ho
  case appb e x y =>
    simp only [aop] at ho
    split at ho
    · rename_i xa ya hx hy
      split at ho
      · rename_i m hm
        split at ho
        · rename_i ys hys
          simp only [cond_eq_ite] at ho
          split at ho
          · rename_i h1
            obtain ⟨xv, hxc, hxe⟩ := aev_sound hR hE hx
            obtain ⟨yv, hyc, hye⟩ := aev_sound hR hE hy
            obtain ⟨us, h3, h4, h5⟩ := readB_sound hR hyc hys
            have hl := alenB_sound hyc hm
            obtain ⟨a, n, c, rfl, hap⟩ := appB_sound hR hxc h3 h4 h5 h1 ho hK
            simp only [sop, hxe, hye, hl]
            exact hap
          · simp at ho
        · simp at ho
      · simp at ho
    · simp at ho
  case appz size bytes z x y =>
    simp only [aop] at ho
    split at ho
    · rename_i zl m hz hx hy
      simp only [cond_eq_ite, Bool.and_eq_true, Nat.beq_eq, Nat.ble_eq, Nat.blt_eq] at ho
      split at ho
      · rename_i hcond
        split at ho
        · rename_i H1 hg
          simp at ho; obtain ⟨rfl, rfl⟩ := ho
          simp only [sop, ev_ns hR hE hx, ev_i hR hE hy]
          have hzl := concs_len (avals_conc (ρ := ρ) hz)
          rw [countA_eq] at hcond
          refine ⟨by simp only [Int.ofNat_eq_natCast]; omega, by simp only [Int.ofNat_eq_natCast]; omega, [], by simp, rfl, by simp only [Int.ofNat_eq_natCast]; omega, by simp only [Int.ofNat_eq_natCast, Int.toNat_natCast, Nat.zero_add]; omega, fun c' b h' hc hG => ?_⟩
          rw [List.nil_append] at hG
          simp only [Int.ofNat_eq_natCast, Int.toNat_natCast, Nat.zero_add] at hc hG ⊢
          have hcc := copies_conc (avals_conc (ρ := ρ) hz) m
          have hlen := concs_len hcc
          obtain ⟨ρ', h5, h6, h7⟩ := hR.newCells (cp := c') hg hcc hG (fun _ => by
            rw [← hlen, List.length_flatten, List.map_replicate, List.sum_replicate_nat, List.length_flatten, List.map_replicate, List.sum_replicate_nat]
            have e : z.length = size := by omega
            rw [e]
            refine ⟨Nat.mul_le_mul_right _ hc, ?_⟩
            rw [← Nat.add_mul]; exact Nat.mul_le_mul_right _ (by omega)) (by omega)
          refine hK ρ' h' _ h5 h7 ?_
          simp only [conc, h6]
          rw [if_pos (by omega)]
          simp
        · simp at ho
      · simp at ho
    · rename_i zl a o n c m hz hx hy
      simp only [cond_eq_ite, Bool.and_eq_true, Nat.beq_eq, Nat.ble_eq, Nat.blt_eq] at ho
      split at ho
      · rename_i hcond
        split at ho
        · rename_i w g l hgb
          split at ho
          · rename_i xs hxs
            split at ho
            · rename_i H1 hg
              simp at ho; obtain ⟨rfl, rfl⟩ := ho
              obtain ⟨b0, ba, cp, hp, he⟩ := ev_sl hR hE hx
              simp only [sop, he, ev_i hR hE hy]
              obtain ⟨ws, pre, tail, hca⟩ := hR.cells hgb hp
              obtain ⟨us, h2, h3, h4⟩ := hca.part hxs
              have hzl := concs_len (avals_conc (ρ := ρ) hz)
              rw [countA_eq] at hcond
              refine ⟨by simp only [Int.ofNat_eq_natCast]; omega, by simp only [Int.ofNat_eq_natCast]; omega, us, h3, h4, by simp only [Int.ofNat_eq_natCast]; omega, by simp only [Int.ofNat_eq_natCast, Int.toNat_natCast]; omega, fun c' b h' hc hG => ?_⟩
              simp only [Int.ofNat_eq_natCast, Int.toNat_natCast] at hc hG ⊢
              have hcc : concs ρ (joined xs (copies m zl)) = some (us ++ (List.replicate m z).flatten) := by rw [joined_eq]; exact concs_app h2 (copies_conc (avals_conc (ρ := ρ) hz) m)
              have hlen := concs_len hcc
              obtain ⟨ρ', h5, h6, h7⟩ := hR.newCells (cp := c') hg hcc hG (fun _ => by
                rw [← hlen, List.length_append, h3, List.length_flatten, List.map_replicate, List.sum_replicate_nat, List.length_flatten, List.map_replicate, List.sum_replicate_nat]
                have e : z.length = size := by omega
                rw [e, ← Nat.add_mul]
                refine ⟨Nat.mul_le_mul_right _ hc, ?_⟩
                rw [← Nat.add_mul]; exact Nat.mul_le_mul_right _ (by omega)) (by omega)
              refine hK ρ' h' _ h5 h7 ?_
              simp only [conc, h6]
              rw [if_pos (by omega)]
              simp
            · simp at ho
          · simp at ho
        · simp at ho
      · simp at ho
    · simp at ho
  case cpy size x y =>
    simp only [aop] at ho
    split at ho
    · rename_i xa ya hx hy
      split at ho
      · rename_i n m hn hm
        split at ho
        · rename_i ys hys
          obtain ⟨xv, hxc, hxe⟩ := aev_sound hR hE hx
          obtain ⟨yv, hyc, hye⟩ := aev_sound hR hE hy
          obtain ⟨p, m', c, us, rfl, h3, h4, h5, h6⟩ := readS_sound hR hyc hys
          obtain ⟨p', c', he⟩ := alen_sound hyc hm
          simp at he
          obtain ⟨rfl, rfl, rfl⟩ := he
          obtain ⟨q, cc, rfl⟩ := alen_sound hxc hn
          simp only [sop, hxe, hye]
          simp only [cond_eq_ite, Nat.beq_eq] at ho
          split at ho
          · rename_i hz
            simp at ho; obtain ⟨rfl, rfl⟩ := ho
            have he := (countA_zero h3).1 hz
            exact ⟨us, h4, h5, fun _ => Fine.now hR hK rfl, fun hne => absurd he hne⟩
          · rename_i hz
            split at ho
            · rename_i a o n' c'' 
              split at ho
              · rename_i g l hg
                split at ho
                · rename_i h1
                  split at ho
                  · rename_i H1 hs
                    simp at ho; obtain ⟨rfl, rfl⟩ := ho
                    refine ⟨us, h4, h5, wr_sound (_xv := .nilFunc) (_x := .nf) hR ?_ hg h3 h1 hz hs fun h' hR' => hK ρ h' _ (Le.refl ρ) hR' rfl⟩
                    simp only [conc] at hxc
                    split at hxc
                    · rename_i b ba cp hp
                      simp at hxc
                      exact ⟨b, ba, cp, hp, hxc.1.symm⟩
                    · simp at hxc
                  · simp at ho
                · simp at ho
              · simp at ho
            · rename_i a o n' c''
              split at ho
              · rename_i g l hg
                split at ho
                · rename_i h1
                  split at ho
                  · rename_i H1 hs
                    simp at ho; obtain ⟨rfl, rfl⟩ := ho
                    refine ⟨us, h4, h5, wr_sound (_xv := .nilFunc) (_x := .nf) hR ?_ hg h3 h1 hz hs fun h' hR' => hK ρ h' _ (Le.refl ρ) hR' rfl⟩
                    simp only [conc] at hxc
                    split at hxc
                    · rename_i b ba cp hp
                      split at hxc
                      · simp at hxc
                        exact ⟨b, ba, cp, hp, hxc.1.symm⟩
                      · simp at hxc
                    · simp at hxc
                  · simp at ho
                · simp at ho
              · simp at ho
            · simp at ho
        · simp at ho
      · simp at ho
    · simp at ho
  case cpyb x y =>
    simp only [aop] at ho
    split at ho
    · rename_i xa ya hx hy
      split at ho
      · rename_i n m hn hm
        split at ho
        · rename_i ys hys
          obtain ⟨xv, hxc, hxe⟩ := aev_sound hR hE hx
          obtain ⟨yv, hyc, hye⟩ := aev_sound hR hE hy
          obtain ⟨us, h3, h4, h5⟩ := readB_sound hR hyc hys
          have hl := alenB_sound hyc hm
          obtain ⟨q, cc, rfl⟩ := alen_sound hxc hn
          simp only [sop, hxe, hye, hl]
          simp only [cond_eq_ite, Nat.beq_eq] at ho
          split at ho
          · rename_i hz
            simp at ho; obtain ⟨rfl, rfl⟩ := ho
            have he := (countA_zero h3).1 hz
            exact ⟨us, h4, h5, fun _ => Fine.now hR hK rfl, fun hne => absurd he hne⟩
          · rename_i hz
            split at ho
            · rename_i a o n' c''
              split at ho
              · rename_i w g l hg
                split at ho
                · rename_i h1
                  split at ho
                  · rename_i H1 hs
                    simp at ho; obtain ⟨rfl, rfl⟩ := ho
                    refine ⟨us, h4, h5, wrb_sound hR ?_ hg h3 h1 hz hs fun h' hR' => hK ρ h' _ (Le.refl ρ) hR' rfl⟩
                    simp only [conc] at hxc
                    split at hxc
                    · rename_i b ba cp hp
                      simp at hxc
                      exact ⟨b, ba, cp, hp, hxc.1.symm⟩
                    · simp at hxc
                  · simp at ho
                · simp at ho
              · simp at ho
            · rename_i a o n' c''
              split at ho
              · rename_i w g l hg
                split at ho
                · rename_i h1
                  split at ho
                  · rename_i H1 hs
                    simp at ho; obtain ⟨rfl, rfl⟩ := ho
                    refine ⟨us, h4, h5, wrb_sound hR ?_ hg h3 h1 hz hs fun h' hR' => hK ρ h' _ (Le.refl ρ) hR' rfl⟩
                    simp only [conc] at hxc
                    split at hxc
                    · rename_i b ba cp hp
                      split at hxc
                      · simp at hxc
                        exact ⟨b, ba, cp, hp, hxc.1.symm⟩
                      · simp at hxc
                    · simp at hxc
                  · simp at ho
                · simp at ho
              · simp at ho
            · simp at ho
        · simp at ho
      · simp at ho
    · simp at ho
  case clr z x =>
    simp only [aop] at ho
    split at ho
    · rename_i zl xa hz hx
      split at ho
      · rename_i n hn
        obtain ⟨xv, hxc, hxe⟩ := aev_sound hR hE hx
        obtain ⟨q, cc, rfl⟩ := alen_sound hxc hn
        have hcc := copies_conc (avals_conc (ρ := ρ) hz) n
        simp only [sop, hxe]
        simp only [cond_eq_ite, Nat.beq_eq] at ho
        split at ho
        · rename_i h0'
          simp at ho; obtain ⟨rfl, rfl⟩ := ho
          have he := (countA_zero hcc).1 h0'
          exact ⟨fun _ => Fine.now hR hK rfl, fun hne => absurd he hne⟩
        · rename_i h0'
          split at ho
          · rename_i a o n' c''
            split at ho
            · rename_i g l hg
              split at ho
              · rename_i h1
                split at ho
                · rename_i H1 hs
                  simp at ho; obtain ⟨rfl, rfl⟩ := ho
                  refine wr_sound (_xv := .nilFunc) (_x := .nf) hR ?_ hg hcc h1 h0' hs fun h' hR' => hK ρ h' _ (Le.refl ρ) hR' rfl
                  simp only [conc] at hxc
                  split at hxc
                  · rename_i b ba cp hp
                    simp at hxc
                    exact ⟨b, ba, cp, hp, hxc.1.symm⟩
                  · simp at hxc
                · simp at ho
              · simp at ho
            · simp at ho
          · rename_i a o n' c''
            split at ho
            · rename_i g l hg
              split at ho
              · rename_i h1
                split at ho
                · rename_i H1 hs
                  simp at ho; obtain ⟨rfl, rfl⟩ := ho
                  refine wr_sound (_xv := .nilFunc) (_x := .nf) hR ?_ hg hcc h1 h0' hs fun h' hR' => hK ρ h' _ (Le.refl ρ) hR' rfl
                  simp only [conc] at hxc
                  split at hxc
                  · rename_i b ba cp hp
                    split at hxc
                    · simp at hxc
                      exact ⟨b, ba, cp, hp, hxc.1.symm⟩
                    · simp at hxc
                  · simp at hxc
                · simp at ho
              · simp at ho
            · simp at ho
          · simp at ho
      · simp at ho
    · simp at ho
  case cvm x =>
    have key : ∀ {a b ba cp w g} {l : List AV} {H1 : AH}, getB H a = some (w, g, l) → ρ.pl a = some (b, ba, cp) → T.wput H a (some (.cells true g l)) = some H1 → ∃ tot, BlkW h b tot ∧ ∀ h', PutW h h' b tot → Rep F h0 ρ H1 h' := by
      intro a b ba cp w g l H1 hg hp hput
      obtain ⟨ws, pre, tail, hca⟩ := hR.cells hg hp
      exact ⟨_, hca.wide, fun h' hP => hR.set (getB_get hg) (by simp) hp hput hP.size (fun k hk => hP.old k hk) fun _ => ⟨ws, pre, tail, hca.cs, hca.pl, hca.gz, hP.blk, fun hz => ⟨(hca.tag hz).1, hP.ty _ (hca.tag hz).2.1, (hca.tag hz).2.2⟩⟩⟩
    simp only [aop] at ho
    split at ho
    · rename_i a o n c hx
      split at ho
      · rename_i w g l hg
        split at ho
        · rename_i H1 hput
          simp at ho; obtain ⟨rfl, rfl⟩ := ho
          obtain ⟨b, ba, cp, hp, he⟩ := ev_sl hR hE hx
          obtain ⟨tot, h1, h2⟩ := key hg hp hput
          simp only [sop, he]
          exact ⟨tot, h1, fun h' hP => hK ρ h' _ (Le.refl ρ) (h2 h' hP) (by simp only [conc, hp])⟩
        · simp at ho
      · simp at ho
    · rename_i a o n k hx
      split at ho
      · rename_i w g l hg
        split at ho
        · rename_i H1 hput
          simp at ho; obtain ⟨rfl, rfl⟩ := ho
          obtain ⟨b, ba, cp, hp, hnk, he⟩ := ev_su hR hE hx
          obtain ⟨tot, h1, h2⟩ := key hg hp hput
          simp only [sop, he]
          exact ⟨tot, h1, fun h' hP => hK ρ h' _ (Le.refl ρ) (h2 h' hP) (by simp only [conc, hp]; rw [if_pos hnk])⟩
        · simp at ho
      · simp at ho
    · simp at ho
  case rng x =>
    simp only [aop] at ho
    split at ho
    · rename_i hx
      split at ho
      · rename_i H1 hg
        simp at ho; obtain ⟨rfl, rfl⟩ := ho
        simp only [sop, ev_nm hR hE hx]
        intro b h' hG
        obtain ⟨ρ', h1, h2, h3⟩ := hR.new (cp := 0) hg hG.id hG.size hG.old fun ρ' hl _ => ⟨hG.blk, fun x hx => by simp at hx, rfl⟩
        exact hK ρ' h' _ h1 h3 (by simp only [conc, h2])
      · simp at ho
    · rename_i a hx
      split at ho
      · rename_i es c hm
        split at ho
        · rename_i H1 hg
          simp at ho; obtain ⟨rfl, rfl⟩ := ho
          obtain ⟨mb, ba, cp, hp, he⟩ := ev_m hR hE hx
          obtain ⟨ms, h4, h5⟩ := hR.mapOf hm hp
          simp only [sop, he]
          refine ⟨ms, c, h4, fun b h' hG => ?_⟩
          obtain ⟨ρ', h1, h2, h3⟩ := hR.new (cp := 0) hg hG.id hG.size hG.old fun ρ' hl _ => ⟨by simp only [hl.pl a _ hp]; exact hG.blk, fun x hx => by simp at hx; subst hx; exact ⟨_, hl.pl a _ hp⟩, rfl⟩
          exact hK ρ' h' _ h1 h3 (by simp only [conc, h2])
        · simp at ho
      · simp at ho
    · simp at ho
  case nxt x =>
    simp only [aop] at ho
    split at ho
    · rename_i r hx
      obtain ⟨b, ba, cp, hp, he⟩ := ev_p hR hE hx
      split at ho
      · rename_i since seen last hr
        simp at ho; obtain ⟨rfl, rfl⟩ := ho
        obtain ⟨q, hq, _, _, i1, i2, i3⟩ := hR.obj r _ hr (by simp)
        rw [hp] at hq; simp at hq; subst hq
        simp only at i3
        subst i3
        simp only [sop, he, Nat.add_zero]
        exact .inl ⟨since, ⟨seen⟩, last, i1, Fine.now hR hK rfl⟩
      · rename_i a since seen last hr
        obtain ⟨q, hq, _, _, i1, i2, i3⟩ := hR.obj r _ hr (by simp)
        rw [hp] at hq; simp at hq; subst hq
        simp only at i3
        subst i3
        obtain ⟨qa, hqa⟩ := i2 a rfl
        obtain ⟨mb, mba, mcp⟩ := qa
        simp only [hqa] at i1
        split at ho
        · rename_i es c hm
          obtain ⟨ms, h4, h5⟩ := hR.mapOf hm hqa
          simp only [sop, he, Nat.add_zero]
          split at ho
          · rename_i hl
            obtain ⟨l1, l2⟩ := h5.left hl
            simp only [cond_eq_ite, Nat.ble_eq] at ho
            split at ho
            · rename_i hsl
              simp at ho; obtain ⟨rfl, rfl⟩ := ho
              refine .inr ⟨mb, since, ⟨seen⟩, last, ms, c, i1, h4, l1, .inr (.inr hsl), fun _ => Fine.now hR hK rfl, fun e he hs => ?_⟩
              obtain ⟨x, hx, _⟩ := l2 e he (by simpa using hs)
              simp at hx
            · simp at ho
          · rename_i e0 hl
            obtain ⟨l1, l2⟩ := h5.left hl
            simp only [cond_eq_ite, Nat.ble_eq] at ho
            split at ho
            · rename_i hsl
              split at ho
              · rename_i H1 hput
                simp at ho; obtain ⟨rfl, rfl⟩ := ho
                refine .inr ⟨mb, since, ⟨seen⟩, last, ms, c, i1, h4, l1, .inr (.inr hsl), fun hall => ?_, fun e he hs h' hP => ?_⟩
                · exact (left_seen hl h5 hall).elim
                · obtain ⟨x, hx, k1, k2, k3⟩ := l2 e he (by simpa using hs)
                  simp at hx; subst hx
                  refine hK ρ h' _ (Le.refl ρ) (hR.set hr (by simp) hp hput hP.size (fun k hk => hP.old k hk) fun _ => ⟨?_, fun x hx => by simp at hx; subst hx; exact ⟨_, hqa⟩, rfl⟩) (by simp only [conc, concs, k1, k2])
                  simp only [hqa]
                  rw [hP.blk, joined_eq, ← k3]
                  simp
              · simp at ho
            · simp at ho
          · simp at ho
        · simp at ho
      · simp at ho
    · simp at ho
  case ent x =>
    simp only [aop] at ho
    split at ho
    · rename_i r hx
      obtain ⟨b, ba, cp, hp, he⟩ := ev_p hR hE hx
      split at ho
      · rename_i a since bb last hr
        obtain ⟨q, hq, _, _, i1, i2, i3⟩ := hR.obj r _ hr (by simp)
        rw [hp] at hq; simp at hq; subst hq
        simp only at i3
        subst i3
        obtain ⟨qa, hqa⟩ := i2 a rfl
        obtain ⟨mb, mba, mcp⟩ := qa
        simp only [hqa] at i1
        split at ho
        · rename_i es c hm
          obtain ⟨ms, h4, h5⟩ := hR.mapOf hm hqa
          simp only [cond_eq_ite, Nat.beq_eq] at ho
          split at ho
          · rename_i hc
            subst hc
            split at ho
            · rename_i e hb
              simp at ho; obtain ⟨rfl, rfl⟩ := ho
              obtain ⟨e', k1, k2, k3⟩ := h5.born hb
              simp only [sop, he, Nat.add_zero]
              exact ⟨mb, since, ⟨[bb]⟩, c, ms, bb, e', i1, h4, by simp, k1, Fine.now hR hK (by simp only [conc, concs, k2, k3])⟩
            · simp at ho
          · simp at ho
        · simp at ho
      · simp at ho
    · simp at ho

/-- EACH OPERATION that calls nothing. -/
theorem aop_sound (hR : Rep F h0 ρ H h) (hE : RE ρ E σ) {op : SOp} (ho : aop P E H id op = some (v, H')) (hK : Fine F h0 ρ H' v K) : sop P σ h K Qp op := by
  by_cases hc : cls op = 0
  · exact aop_pure hR hE op hc ho hK
  · exact aop_mem hR hE op hc ho hK

end
end Go.Sx
