/-
  The predicate transformer is sound for all of a function's code.
-/
import Derived.Test.YtaeabfemedamhaaGreatDoorSxMB
import Derived.RangeFuncRecord
namespace Go.Sx
open Go

variable {P : Program} {σ σ' : Env} {nt : Nat} {ds : List Deferred} {fl : Bool}

theorem Lift.trans {w w1 : World} {Q : Post} (hb : SameB w w1) {e : Exit} {a : Act} {w2 : World} (h : Lift nt w1 Q e a w2) : Lift nt w Q e a w2 := by
  obtain ⟨σ, ds, h1, h2, h3⟩ := h
  exact ⟨σ, ds, h1, hb.trans h2, h3⟩

theorem calmL_len {cl : List (List Nat)} {n : Nat} : ∀ {ss : List SOper} {i : Nat}, (calmL cl n i ss).length = ss.length
  | [], _ => rfl
  | _ :: r, i => by simp [calmL, calmL_len (ss := r)]
theorem calmL_get {cl : List (List Nat)} {n : Nat} : ∀ {ss : List SOper} {b i : Nat} {s : SOper}, (calmL cl n b ss)[i]? = some s → ∃ s2, ss[i]? = some s2 ∧ (s = s2 ∨ s = calm1 s2)
  | [], _, _, _, h => by simp [calmL] at h
  | x :: r, b, 0, s, h => by
    simp only [calmL, List.getElem?_cons_zero, Option.some.injEq] at h
    refine ⟨x, rfl, ?_⟩
    cases hc : covers cl n b with
    | true => rw [hc] at h; exact .inl h.symm
    | false => rw [hc] at h; exact .inr h.symm
  | x :: r, b, i + 1, s, h => by
    simp only [calmL, List.getElem?_cons_succ] at h
    simpa using calmL_get h

theorem region_sound {ops : Array Oper} {l : List SOper} {draw : Bool} (hm : P.follows .mixedOrders = true) (hc : cregion P nt ops draw = some l)
    {ro : Option Nat} {n id : Nat} {Q : Post} {a : Act} {w : World} (hr : Rel σ nt ds a)
    (h : sops P (fun ch h' => Q (.panic ch) (hide l σ) ds h') (fun σ' h' => Q .normal σ' ds h') l σ w.heap) :
    (Code.region id ops draw).wpIn (FW ro) n P (Lift nt w Q) a w := by
  unfold cregion at hc
  split at hc
  · simp at hc
  · rename_i ss hss
    obtain ⟨hlen, hget⟩ := coperAll_get ops.toList ss hss
    have hlen' : ss.length = ops.size := by simpa using hlen
    have good : ∀ (i : Nat) (s : SOper), ss[i]? = some s → Good P ops nt i s := by
      intro i s hi
      have hlt : i < ops.size := by rw [← hlen']; exact (List.getElem?_eq_some_iff.1 hi).1
      obtain ⟨s2, h2, h3⟩ := hget i ops[i] (by simp [hlt])
      rw [hi] at h2; simp at h2; subst h2
      exact ⟨ops[i], s, by simp [hlt], h3, .inl rfl⟩
    split at hc
    · simp at hc; subst hc
      refine wpIn_region ?_
      have e : (List.range ops.size).zip ss = (List.range ops.size).zip ss := rfl
      have e1 : ((List.range ops.size).zip ss).map (·.1) = List.range ops.size := map_zip_fst _ _ (by simp [hlen'])
      have e2 : ((List.range ops.size).zip ss).map (·.2) = ss := map_zip_snd _ _ (by simp [hlen'])
      have := list_sound (P := P) (ops := ops) (nt := nt) (ds := ds) (Qp := fun ch h' => Q (.panic ch) (hide ss σ) ds h') (K := fun σ' h' => Q .normal σ' ds h') (τ := hide ss σ) (ro := ro) (n := n) (Q := Lift nt w Q) (w0 := w)
        (fun σ' a' w' hr' hb hk => ⟨σ', ds, hr', hb, hk⟩) (fun ch a' w' hτ hb hk => ⟨_, ds, hτ, hb, hk⟩) ((List.range ops.size).zip ss) σ a w ?_ ?_ hr (hr.sub (hide_sub ss)) (SameB.refl w) (by rw [e2]; exact h)
      · rw [e1] at this; exact this
      · rintro ⟨i, s⟩ hp
        obtain ⟨k, hk, hkq⟩ := List.getElem_of_mem hp
        rw [List.getElem_zip] at hkq
        simp at hkq
        have hks : k < ss.length := by simp at hk; omega
        exact good i s (by rw [← hkq.1, List.getElem?_eq_getElem hks, hkq.2])
      · rintro ⟨i, s⟩ hp d hd
        exact hide_dst (List.of_mem_zip hp).2 hd
    · split at hc
      · rename_i l' hl
        simp at hc; subst hc
        exact ordered_sound hm hlen' good hl hr h
      · rename_i hnone
        refine ordered_sound (ss := calmed ss (aheads ops) ops.size) hm (by unfold calmed; rw [calmL_len, hlen']) ?_ hc hr h
        intro i s hi
        obtain ⟨s2, hs, hs2⟩ := calmL_get hi
        obtain ⟨o, s0, h1, h2, h3⟩ := good i s2 (by simpa using hs)
        rcases hs2 with rfl | rfl
        · exact ⟨o, s0, h1, h2, h3⟩
        · rcases h3 with rfl | rfl
          · exact ⟨o, s2, h1, h2, .inr rfl⟩
          · refine ⟨o, s0, h1, h2, .inr ?_⟩
            cases hop : s0.op <;> simp [calm1, hop]

/-- A list of operations, and on. -/
theorem list_then {Qp : List PanicEntry → Heap → Prop} {ops : Array Oper} {K : Env → Heap → Prop} {τ : Env} {ro : Option Nat} {n : Nat} {Q : Exit → Act → World → Prop} {w0 : World} {rest : List Nat}
    (hN : ∀ σ' a' w', Rel σ' nt ds a' → SameB w0 w' → K σ' w'.heap → wpOpsIn (FW ro) n P ops Q rest a' w') (hQ : ∀ ch a' w', Rel τ nt ds a' → SameB w0 w' → Qp ch w'.heap → Q (.panic ch) a' w') :
    ∀ (l : List (Nat × SOper)) (σ : Env) (a : Act) (w : World), (∀ p ∈ l, Good P ops nt p.1 p.2) → (∀ p ∈ l, ∀ d, p.2.dst = some d → τ d = none) → Rel σ nt ds a → Rel τ nt ds a → SameB w0 w →
      sops P Qp K (l.map (·.2)) σ w.heap → wpOpsIn (FW ro) n P ops Q (l.map (·.1) ++ rest) a w
  | [], σ, a, w, _, _, hr, _, hb, hs => hN σ a w hr hb hs
  | (i, s) :: l, σ, a, w, hg, hd, hr, hτ, hb, hs => by
    simp only [List.map_cons, sops, List.cons_append] at hs ⊢
    rw [wpOpsIn_cons]
    refine opr_sound (hg (i, s) (by simp)) hr hτ (hd (i, s) (by simp)) hs (fun σ' a' w' hr' hτ' hb' hk => ?_) (fun ch w' hb' hk => hQ ch a w' hτ (hb.trans hb') hk)
    exact list_then hN hQ l σ' a' w' (fun p hp => hg p (by simp [hp])) (fun p hp => hd p (by simp [hp])) hr' hτ' (hb.trans hb') hk

theorem crecover_rcv {ops : Array Oper} {s : SCode} (h : crecover nt ops = some s) : ∃ d, s = .rcv d := by
  unfold crecover at h
  split at h
  · rename_i o ho
    split at h
    · split at h
      · split at h
        · simp at h; exact ⟨_, h.symm⟩
        · simp at h
      · simp at h
    · simp at h
  · simp at h

theorem cdefer_spec {ops : Array Oper} {s : SCode} (h : cdefer P nt ops = some s) : ∃ o c x l, ops.toList.getLast? = some o ∧ o.op = .defer c ∧ o.guard = none ∧ c.callee = .value x ∧ coperAll P ops nt ops.toList.dropLast = some l ∧
    (∀ d, o.dst = some d → d < nt) ∧ s = .dfr l o.dst x c.args.toList := by
  unfold cdefer at h
  split at h
  · rename_i o ho
    split at h
    · rename_i c hop hg
      split at h
      · rename_i x l hc hl
        split at h
        · rename_i hd
          simp at h
          refine ⟨o, c, x, l, ho, hop, hg, hc, hl, fun d hd' => ?_, h.symm⟩
          rw [hd'] at hd
          exact Nat.le_of_ble_eq_true hd
        · simp at h
      · simp at h
    · simp at h
  · simp at h

theorem defer_sound {ops : Array Oper} {s : SCode} (hc : cdefer P nt ops = some s)
    {n id : Nat} {Q : Post} {a : Act} {w : World} (hr : Rel σ nt ds a) (h : swp P s Q σ ds w.heap) :
    (Code.region id ops false).wpIn (FW none) n P (Lift nt w Q) a w := by
  obtain ⟨o, c, x, l, ho, hop, hg, hcal, hl, hdst, rfl⟩ := cdefer_spec hc
  obtain ⟨hlen, hget⟩ := coperAll_get _ l hl
  have hne : ops.toList ≠ [] := by intro e; rw [e] at ho; simp at ho
  have hpos : 0 < ops.size := by
    rcases Nat.eq_zero_or_pos ops.size with h0 | h0
    · exact absurd (by apply List.eq_nil_of_length_eq_zero; simpa using h0) hne
    · exact h0
  obtain ⟨m, hm⟩ : ∃ m, ops.size = m + 1 := ⟨ops.size - 1, by omega⟩
  have hlm : l.length = m := by rw [hlen]; simp [hm]
  have holast : ops[m]? = some o := by
    rw [List.getLast?_eq_getElem?] at ho
    simpa [hm] using ho
  refine wpIn_region ?_
  rw [hm, List.range_succ]
  have e1 : ((List.range m).zip l).map (·.1) = List.range m := map_zip_fst _ _ (by simp [hlm])
  have e2 : ((List.range m).zip l).map (·.2) = l := map_zip_snd _ _ (by simp [hlm])
  simp only [swp] at h
  have := list_then (P := P) (ops := ops) (nt := nt) (ds := ds) (ro := none) (n := n) (Q := Lift nt w Q) (w0 := w) (rest := [m]) (τ := hide l σ)
    (Qp := fun ch h' => Q (.panic ch) (hide l σ) ds h') (K := fun σ' h' => match ev σ' x, evs σ' c.args.toList with
      | some (.func (.func f) fi cap), some vs => Q .normal (upd σ' o.dst undef) ({ target := .fn (.func f) cap, args := ⟨fi.toList ++ vs⟩ } :: ds) h'
      | _, _ => False) ?_ (fun ch a' w' hτ hb hk => ⟨_, ds, hτ, hb, hk⟩) ((List.range m).zip l) σ a w ?_ ?_ hr (hr.sub (hide_sub l)) (SameB.refl w) (by rw [e2]; exact h)
  · rw [e1] at this; exact this
  · intro σ' a' w' hr' hb' hk
    split at hk
    · rename_i f fi cap vs hx hv
      rw [wpOpsIn_cons]
      simp only [wpOpIn, holast]
      have hw : Region.wanted o (yielded ops a'.tmps) = true := by simp [Region.wanted, hg]
      rw [if_pos hw]
      refine ⟨fun _ _ => trivial, ?_⟩
      have ha : c.args.map a'.eval = ⟨vs⟩ := by apply Array.ext'; simp [hr'.knows.list _ _ hv]
      have hf := hr'.knows x _ hx
      have hap : fi ++ (⟨vs⟩ : Array Value) = ⟨fi.toList ++ vs⟩ := by apply Array.ext'; simp
      have hrun : (o.semAt (FW none).round a'.eval).run P w' = .ok (.defer { target := .fn (.func f) cap, args := ⟨fi.toList ++ vs⟩ }) w' := by
        show (Oper.semAt none a'.eval o).run P w' = _
        rw [Oper.semAt_none]
        simp [execOp, hop, resolve, hcal, ha, hf, Deferred.ofValue, hap]
      rw [hrun]
      show wpOpsIn (FW none) n P ops (Lift nt w Q) [] _ w'
      refine ⟨_, _, ?_, hb', hk⟩
      have hd' : Rel σ' nt ({ target := .fn (.func f) cap, args := ⟨fi.toList ++ vs⟩ } :: ds) { a' with defers := { target := .fn (.func f) cap, args := ⟨fi.toList ++ vs⟩ } :: a'.defers } :=
        ⟨hr'.size, by simp [hr'.defers], fun y v hy => by have := hr'.knows y v hy; simpa [Act.eval] using this⟩
      exact hd'.put hdst undef
    · exact hk.elim
  · rintro ⟨i, s⟩ hp
    obtain ⟨k, hk, hkq⟩ := List.getElem_of_mem hp
    rw [List.getElem_zip] at hkq
    simp at hkq
    have hks : k < l.length := by simp at hk; omega
    obtain ⟨s2, h2, h3⟩ := hget k (ops.toList.dropLast[k]'(by simp [hm]; omega)) (List.getElem?_eq_getElem _)
    have hol : ops[k]? = some (ops.toList.dropLast[k]'(by simp [hm]; omega)) := by
      rw [List.getElem_dropLast]; simp
    rw [List.getElem?_eq_getElem hks] at h2
    simp [hkq.2] at h2
    subst h2
    obtain ⟨rfl, _⟩ := hkq
    exact ⟨_, s, hol, h3, .inl rfl⟩
  · rintro ⟨i, s⟩ hp d hd
    exact hide_dst (List.of_mem_zip hp).2 hd

theorem region2_sound {ops : Array Oper} {sp s1 s2 : List SOper} (hm : P.follows .mixedOrders = true) (hc : cregion2 P nt ops = some (sp, s1, s2))
    {ro : Option Nat} {n id : Nat} {Q : Post} {a : Act} {w : World} (hr : Rel σ nt ds a)
    (h : swp P (.two sp s1 s2) Q σ ds w.heap) :
    (Code.region id ops true).wpIn (FW ro) n P (Lift nt w Q) a w := by
  unfold cregion2 at hc
  split at hc
  · simp at hc
  · rename_i ss hss
    obtain ⟨hlen, hget⟩ := coperAll_get ops.toList ss hss
    have hlen' : ss.length = ops.size := by simpa using hlen
    have good : ∀ (i : Nat) (s : SOper), ss[i]? = some s → Good P ops nt i s := by
      intro i s hi
      have hlt : i < ops.size := by rw [← hlen']; exact (List.getElem?_eq_some_iff.1 hi).1
      obtain ⟨s2, h2, h3⟩ := hget i ops[i] (by simp [hlt])
      rw [hi] at h2; simp at h2; subst h2
      exact ⟨ops[i], s, by simp [hlt], h3, .inl rfl⟩
    refine ordered2_sound (ss := ss.map calm1) hm (by simp [hlen']) ?_ hc hr h
    intro i s hi
    rw [List.getElem?_map] at hi
    cases hs : ss[i]? with
    | none => rw [hs] at hi; simp at hi
    | some s2 =>
      rw [hs] at hi; simp at hi; subst hi
      obtain ⟨o, s0, h1, h2, h3⟩ := good i s2 hs
      rcases h3 with rfl | rfl
      · exact ⟨o, s2, h1, h2, .inr rfl⟩
      · refine ⟨o, s0, h1, h2, .inr ?_⟩
        cases hop : s0.op <;> simp [calm1, hop]

theorem wpIn_loopN {F : Fence} {n : Nat} {Q : Exit → Act → World → Prop} {c : Code} (I : Nat → Act → World → Prop) {m : Nat} {a : Act} {w : World} (h₀ : I m a w)
    (round : ∀ m a w, I m a w → c.wpIn F n P (Exit.then (fun a' w' => ∃ m', m' < m ∧ I m' a' w') Q) a w) : (Code.loop c).wpIn F n P Q a w := by
  intro b k cs hro hb hr
  have key : ∀ j a w, I j a w →
      ∃ e a' w', Q e a' w' ∧ ArrivesIn (Machine.fenced P F) P (lone (b.atR a (.code c :: .inLoop c :: k)) cs w) b k cs e a' w' := by
    intro j
    induction j using Nat.strongRecOn with
    | _ j ih =>
      intro a w hI
      obtain ⟨e, a₁, w₁, hq, harr⟩ := round j a w hI b (.inLoop c :: k) cs hro hb hr
      cases e with
      | normal =>
        obtain ⟨m', hlt, hI₁⟩ := hq
        obtain ⟨e₂, a₂, w₂, hq₂, harr₂⟩ := ih m' hlt a₁ w₁ hI₁
        exact ⟨e₂, a₂, w₂, hq₂, .of_steps (StepsIn.trans harr (.one (fenced_calm hb hr rfl) stepR_inLoop)) harr₂⟩
      | exit id => exact ⟨_, a₁, w₁, hq, .pass (x := .inLoop c) rfl (fun _ _ => .inl (by simp)) harr⟩
      | goto l => exact ⟨_, a₁, w₁, hq, .pass (x := .inLoop c) rfl (fun _ _ => .inl (by simp)) harr⟩
      | ret => exact ⟨_, a₁, w₁, hq, .pass (x := .inLoop c) rfl (fun _ _ => .inl (by simp)) harr⟩
      | panic ch => exact ⟨_, a₁, w₁, hq, .pass (x := .inLoop c) rfl (fun _ _ => .inl (by simp)) harr⟩
      | outgrown => exact ⟨_, a₁, w₁, hq, .pass (x := .inLoop c) rfl (fun _ _ => .inl (by simp)) harr⟩
  obtain ⟨e, a', w', hq, harr⟩ := key m a w h₀
  exact ⟨e, a', w', hq, .of_steps (.one (fenced_calm hb hr rfl) stepR_loop) harr⟩

section
variable {b : Frame} {a : Act} {k : List Item} {cs : List Frame} {w : World}
theorem stepR_scope {c : Code} : step P (lone (b.atR a (.code (.scope c) :: k)) cs w) = .next (lone (b.atR a (.code c :: .inScope c :: k)) cs w) :=
  step_lone_go (by simp [stepG, stepG.exec, Frame.atR])
theorem stepR_inScope {c : Code} : step P (lone (b.atR a (.inScope c :: k)) cs w) = .next (lone (b.atR a k) cs w) :=
  step_lone_go (by simp [stepG, stepG.exec, Frame.atR])
end

def noGo (Q : Exit → Act → World → Prop) : Exit → Act → World → Prop
  | .goto _, _, _ => False
  | e, a, w => Q e a w

theorem wpIn_scopeS {F : Fence} {n : Nat} {Q : Exit → Act → World → Prop} {c : Code} {a : Act} {w : World} (h : c.wpIn F n P (noGo Q) a w) : (Code.scope c).wpIn F n P Q a w := by
  intro b k cs hro hb hr
  obtain ⟨e, a₁, w₁, hq, harr⟩ := h b (.inScope c :: k) cs hro hb hr
  have h0 : (lone (b.atR a (.code (.scope c) :: k)) cs w).fenced P F := fenced_calm hb hr rfl
  cases e with
  | normal => exact ⟨.normal, a₁, w₁, hq, .head h0 stepR_scope (StepsIn.trans harr (.one (fenced_calm hb hr rfl) stepR_inScope))⟩
  | exit id =>
    have hx : exitTo id (.inScope c :: k) = exitTo id k := by simp [exitTo]
    exact ⟨.exit id, a₁, w₁, hq, fun k' hk => .head h0 stepR_scope (harr.1 k' (by rw [hx]; exact hk)),
      fun hr' hk => let ⟨k₁, h1, h2⟩ := harr.2 hr' (by rw [hx]; exact hk); ⟨k₁, h1, .head h0 stepR_scope h2⟩⟩
  | goto l => exact hq.elim
  | ret => exact ⟨_, a₁, w₁, hq, .of_steps (.one h0 stepR_scope) harr⟩
  | panic ch => exact ⟨_, a₁, w₁, hq, .of_steps (.one h0 stepR_scope) harr⟩
  | outgrown => exact ⟨_, a₁, w₁, hq, .of_steps (.one h0 stepR_scope) harr⟩

def csize : Code → Nat
  | .seq a b | .cond _ a b | .rangeFunc _ _ a b => csize a + csize b + 1
  | .block _ c | .loop c | .scope c => csize c + 1
  | _ => 1
theorem csize_pos (c : Code) : 1 ≤ csize c := by cases c <;> simp [csize]
theorem csize_find : ∀ (c : Code) (l : Nat) (rest : Code), findLabel c l = some rest → csize rest ≤ csize c := by
  intro c
  induction c with
  | seq x y ihx ihy =>
    intro l rest h
    simp only [findLabel] at h
    split at h
    · rename_i r hr
      simp at h; subst h
      have := ihx l r hr
      simp only [csize]; omega
    · have := ihy l rest h
      simp only [csize]; omega
  | label l' =>
    intro l rest h
    simp only [findLabel] at h
    split at h
    · simp at h; subst h; simp [csize]
    · simp at h
  | _ => intro l rest h; simp [findLabel] at h

theorem cregionC_cases {ops : Array Oper} {draw : Bool} {sc : SCode} (hc : cregionC fl P nt ops draw = some sc) :
    (∃ l, sc = .ops l ∧ cregion P nt ops draw = some l) ∨ (draw = true ∧ ∃ x : List SOper × List SOper × List SOper, sc = .two x.1 x.2.1 x.2.2 ∧ cregion2 P nt ops = some x) ∨ (draw = true ∧ ctree P nt ops = some sc) ∨
    (draw = false ∧ cdefer P nt ops = some sc) ∨ (draw = false ∧ crecover nt ops = some sc) := by
  have hd : cregionD P nt ops = some sc → cdefer P nt ops = some sc ∨ crecover nt ops = some sc := by
    intro h
    unfold cregionD at h
    split at h
    · rename_i s hs
      exact .inl (by rw [hs]; exact h)
    · exact .inr h
  unfold cregionC at hc
  split at hc
  · split at hc
    · rename_i l hl
      simp at hc
      exact .inl ⟨l, hc.symm, hl⟩
    · split at hc
      · split at hc
        · rename_i x hx
          simp at hc
          exact .inr (.inl ⟨rfl, x, hc.symm, hx⟩)
        · exact .inr (.inr (.inl ⟨rfl, hc⟩))
      · exact .inr (.inr (.inr ((hd hc).imp (fun h => ⟨rfl, h⟩) fun h => ⟨rfl, h⟩)))
  · split at hc
    · rename_i l hl
      simp at hc
      refine .inl ⟨l, hc.symm, ?_⟩
      unfold cregionN at hl
      unfold cregion
      split at hl
      · simp at hl
      · rename_i ss hss
        split at hl
        · simp [hl]
        · simp [hl]
    · split at hc
      · exact .inr (.inr (.inl ⟨rfl, hc⟩))
      · exact .inr (.inr (.inr ((hd hc).imp (fun h => ⟨rfl, h⟩) fun h => ⟨rfl, h⟩)))

theorem region_find {id : Nat} {ops : Array Oper} {draw : Bool} {sc : SCode} (hc : compC fl P nt (.region id ops draw) = some sc) (l : Nat) : sfind sc l = none := by
  simp only [compC] at hc
  rcases cregionC_cases hc with ⟨l, rfl, _⟩ | ⟨_, x, rfl, _⟩ | ⟨_, h⟩ | ⟨_, h⟩ | ⟨_, h⟩
  · rfl
  · rfl
  · unfold ctree at h
    split at h
    · simp at h
    · simp only [Option.map_eq_some_iff] at h
      obtain ⟨x, _, rfl⟩ := h
      rfl
  · obtain ⟨o, c, x, l, _, _, _, _, _, _, rfl⟩ := cdefer_spec h
    rfl
  · obtain ⟨d, rfl⟩ := crecover_rcv h
    rfl

theorem find_none : ∀ (c : Code) (sc : SCode) (l : Nat), compC fl P nt c = some sc → sfind sc l = none → findLabel c l = none := by
  intro c
  induction c with
  | seq x y ihx ihy =>
    intro sc l hc hf
    simp only [compC] at hc
    split at hc
    · rename_i sx sy hx hy
      simp at hc; subst hc
      simp only [sfind] at hf
      split at hf
      · simp at hf
      · rename_i hn
        simp [findLabel, ihx sx l hx hn, ihy sy l hy hf]
    · simp at hc
  | label l' =>
    intro sc l hc hf
    simp [compC] at hc; subst hc
    simp only [sfind] at hf
    split at hf
    · simp at hf
    · rename_i he; simp [findLabel, he]
  | _ => intro sc l hc hf; rfl

theorem sfind_comp : ∀ (c : Code) (sc : SCode) (l : Nat) (r : SCode), compC fl P nt c = some sc → sfind sc l = some r → ∃ rest, findLabel c l = some rest ∧ compC fl P nt rest = some r := by
  intro c
  induction c with
  | seq x y ihx ihy =>
    intro sc l r hc hf
    simp only [compC] at hc
    split at hc
    · rename_i sx sy hx hy
      simp at hc; subst hc
      simp only [sfind] at hf
      split at hf
      · rename_i r' hr'
        simp at hf; subst hf
        obtain ⟨rest, h1, h2⟩ := ihx sx l r' hx hr'
        exact ⟨.seq rest y, by simp [findLabel, h1], by simp [compC, h2, hy]⟩
      · rename_i hn
        obtain ⟨rest, h1, h2⟩ := ihy sy l r hy hf
        have hxn : findLabel x l = none := by
          cases hfx : findLabel x l with
          | none => rfl
          | some rest' =>
            exfalso
            have := find_none x sx l hx hn
            rw [hfx] at this; simp at this
        exact ⟨rest, by simp [findLabel, hxn, h1], h2⟩
    · simp at hc
  | label l' =>
    intro sc l r hc hf
    simp [compC] at hc; subst hc
    simp only [sfind] at hf
    split at hf
    · rename_i he
      simp at hf; subst hf
      exact ⟨.skip, by simp [findLabel, he], rfl⟩
    · simp at hf
  | skip => intro sc l r hc hf; simp [compC] at hc; subst hc; simp [sfind] at hf
  | region id ops draw =>
    intro sc l r hc hf
    rw [region_find hc l] at hf; simp at hf
  | cond o x y ihx ihy =>
    intro sc l r hc hf
    simp only [compC] at hc
    split at hc
    · simp at hc; subst hc; simp [sfind] at hf
    · simp at hc
  | block id c ih => intro sc l r hc hf; simp only [compC, Option.map_eq_some_iff] at hc; obtain ⟨_, _, rfl⟩ := hc; simp [sfind] at hf
  | loop c ih => intro sc l r hc hf; simp only [compC, Option.map_eq_some_iff] at hc; obtain ⟨_, _, rfl⟩ := hc; simp [sfind] at hf
  | scope c ih =>
    intro sc l r hc hf
    simp only [compC] at hc
    split at hc
    · split at hc
      · simp at hc; subst hc; simp [sfind] at hf
      · split at hc
        · simp at hc; subst hc; simp [sfind] at hf
        · simp at hc
    · simp at hc
  | exit id => intro sc l r hc hf; simp [compC] at hc; subst hc; simp [sfind] at hf
  | ret => intro sc l r hc hf; simp [compC] at hc; subst hc; simp [sfind] at hf
  | goto l => intro sc l r hc hf; simp [compC] at hc; subst hc; simp [sfind] at hf
  | refuse s => intro sc l r hc hf; simp [compC] at hc; subst hc; simp [sfind, stuckS] at hf
  | rangeFunc g ps x y ihx ihy =>
    intro sc l r hc hf
    simp only [compC] at hc
    split at hc
    · split at hc
      · simp at hc; subst hc; simp [sfind] at hf
      · simp at hc
    · simp at hc

theorem wpIn_scopeG {F : Fence} {n : Nat} {Q : Exit → Act → World → Prop} {c rest : Code} {l : Nat} {a : Act} {w : World} (hl : findLabel c l = some rest)
    (h : c.wpIn F n P (fun e a' w' => match e with | .goto l' => l' = l ∧ rest.wpIn F n P (noGo Q) a' w' | e => Q e a' w') a w) : (Code.scope c).wpIn F n P Q a w := by
  intro b k cs hro hb hr
  obtain ⟨e, a₁, w₁, hq, harr⟩ := h b (.inScope c :: k) cs hro hb hr
  have h0 : (lone (b.atR a (.code (.scope c) :: k)) cs w).fenced P F := fenced_calm hb hr rfl
  cases e with
  | normal => exact ⟨.normal, a₁, w₁, hq, .head h0 stepR_scope (StepsIn.trans harr (.one (fenced_calm hb hr rfl) stepR_inScope))⟩
  | exit id =>
    have hx : exitTo id (.inScope c :: k) = exitTo id k := by simp [exitTo]
    exact ⟨.exit id, a₁, w₁, hq, fun k' hk => .head h0 stepR_scope (harr.1 k' (by rw [hx]; exact hk)),
      fun hr' hk => let ⟨k₁, h1, h2⟩ := harr.2 hr' (by rw [hx]; exact hk); ⟨k₁, h1, .head h0 stepR_scope h2⟩⟩
  | goto l' =>
    obtain ⟨rfl, hrest⟩ := hq
    have hg : gotoIn l' (.inScope c :: k) = some (.code rest :: .inScope c :: k) := by simp [gotoIn, hl]
    have hsteps := harr.1 _ hg
    obtain ⟨e2, a2, w2, hq2, harr2⟩ := hrest b (.inScope c :: k) cs hro hb hr
    have hpre := StepsIn.head h0 stepR_scope hsteps
    cases e2 with
    | normal => exact ⟨.normal, a2, w2, hq2, StepsIn.trans hpre (StepsIn.trans harr2 (.one (fenced_calm hb hr rfl) stepR_inScope))⟩
    | exit id =>
      have hx : exitTo id (.inScope c :: k) = exitTo id k := by simp [exitTo]
      exact ⟨.exit id, a2, w2, hq2, fun k' hk => StepsIn.trans hpre (harr2.1 k' (by rw [hx]; exact hk)),
        fun hr' hk => let ⟨k₁, h1, h2⟩ := harr2.2 hr' (by rw [hx]; exact hk); ⟨k₁, h1, StepsIn.trans hpre h2⟩⟩
    | goto l => exact hq2.elim
    | ret => exact ⟨_, a2, w2, hq2, .of_steps hpre harr2⟩
    | panic ch => exact ⟨_, a2, w2, hq2, .of_steps hpre harr2⟩
    | outgrown => exact ⟨_, a2, w2, hq2, .of_steps hpre harr2⟩
  | ret => exact ⟨_, a₁, w₁, hq, .of_steps (.one h0 stepR_scope) harr⟩
  | panic ch => exact ⟨_, a₁, w₁, hq, .of_steps (.one h0 stepR_scope) harr⟩
  | outgrown => exact ⟨_, a₁, w₁, hq, .of_steps (.one h0 stepR_scope) harr⟩

theorem Rel.put_list : ∀ (ps : List Nat) (vs : List Value) (σ : Env) (a : Act), Rel σ nt ds a → (∀ p ∈ ps, p < nt) → vs.length = ps.length →
    Rel (updL σ ps vs) nt ds { a with tmps := (ps.zip vs).foldl (fun t (x : Nat × Value) => t.setIfInBounds x.1 x.2) a.tmps }
  | [], vs, σ, a, hr, _, _ => by
    have : updL σ [] vs = σ := by cases vs <;> rfl
    rw [this]; exact hr
  | p :: ps, [], σ, a, hr, _, hl => by simp at hl
  | p :: ps, v :: vs, σ, a, hr, hp, hl => by
    have h1 : Rel (upd σ (some p) v) nt ds (a.put (some p) v) := hr.put (fun t ht => by simp at ht; subst ht; exact hp _ (by simp)) v
    exact Rel.put_list ps vs _ _ h1 (fun q hq => hp q (by simp [hq])) (by simpa using hl)

theorem turn_of_put {h : Heap} {l : Nat} {r : Loop} {x : Obj} (hx : h[l]? = some x) (st : LoopState) (p : Option Code) : Turn h (h.setIfInBounds l (.loop { r with state := st, pending := p })) l r st p := by
  have hlt := (Array.getElem?_eq_some_iff.1 hx).1
  refine ⟨⟨by simp [hlt]⟩, by simp, fun k hk => ?_⟩
  rw [Array.getElem?_setIfInBounds, if_neg (fun e => hk e.symm)]

theorem stuck_false {P : Program} {Q : Post} {σ : Env} {ds : List Deferred} {h : Heap} (hs : swp P stuckS Q σ ds h) : False := by
  simp [stuckS, swp, sops, sopr, sop, ev] at hs

theorem comp_soundN (hm : P.follows .mixedOrders = true) : ∀ (N : Nat) (c : Code), csize c ≤ N → ∀ (sc : SCode), compC fl P nt c = some sc → ∀ (ro : Option Nat), (ro = none ∨ flat sc = true) → ∀ (n : Nat) (Q : Post) (σ : Env) (ds : List Deferred) (a : Act) (w : World),
    Rel σ nt ds a → swp P sc Q σ ds w.heap → c.wpIn (FW ro) n P (Lift nt w Q) a w := by
  intro N
  induction N with
  | zero => intro c hN; exact absurd hN (by have := csize_pos c; omega)
  | succ N IH =>
  intro c hN
  cases c with
  | skip =>
    intro sc hc ro hf n Q σ ds a w hr h
    simp [compC] at hc; subst hc
    exact wpIn_skip ⟨σ, ds, hr, SameB.refl w, h⟩
  | label l =>
    intro sc hc ro hf n Q σ ds a w hr h
    simp [compC] at hc; subst hc
    exact wpIn_label ⟨σ, ds, hr, SameB.refl w, h⟩
  | region id ops draw =>
    intro sc hc ro hf n Q σ ds a w hr h
    simp only [compC] at hc
    rcases cregionC_cases hc with ⟨l, rfl, hl⟩ | ⟨rfl, ⟨sp, s1, s2⟩, rfl, hl⟩ | ⟨rfl, hl⟩ | ⟨rfl, hl⟩ | ⟨rfl, hl⟩
    · exact region_sound hm hl hr h
    · exact region2_sound hm hl hr h
    · exact ctree_sound hm hl hr h
    · have hro : ro = none := by
        rcases hf with hf | hf
        · exact hf
        · obtain ⟨o, c, x, l, _, _, _, _, _, _, rfl⟩ := cdefer_spec hl
          simp [flat] at hf
      subst hro
      exact defer_sound hl hr h
    · obtain ⟨d, rfl⟩ := crecover_rcv hl
      exact h.elim
  | seq x y =>
    have ihx := IH x (by simp only [csize] at hN; omega)
    have ihy := IH y (by simp only [csize] at hN; omega)
    intro sc hc ro hf n Q σ ds a w hr h
    simp only [compC] at hc
    split at hc
    · rename_i sx sy hx hy
      simp at hc; subst hc
      have hf1 : ro = none ∨ flat sx = true := hf.imp id fun h => by simp [flat] at h; exact h.1
      have hf2 : ro = none ∨ flat sy = true := hf.imp id fun h => by simp [flat] at h; exact h.2
      refine wpIn_seq (wpIn_mono (ihx sx hx ro hf1 n (thenQ (swp P sy Q) Q) σ ds a w hr h) ?_)
      rintro e a1 w1 ⟨σ1, ds1, hr1, hb1, hq⟩
      cases e with
      | normal => exact wpIn_mono (ihy sy hy ro hf2 n Q σ1 ds1 a1 w1 hr1 hq) fun e a w h => Lift.trans hb1 h
      | exit id => exact ⟨σ1, ds1, hr1, hb1, hq⟩
      | goto l => exact ⟨σ1, ds1, hr1, hb1, hq⟩
      | ret => exact ⟨σ1, ds1, hr1, hb1, hq⟩
      | panic ch => exact ⟨σ1, ds1, hr1, hb1, hq⟩
      | outgrown => exact ⟨σ1, ds1, hr1, hb1, hq⟩
    · simp at hc
  | cond o x y =>
    have ihx := IH x (by simp only [csize] at hN; omega)
    have ihy := IH y (by simp only [csize] at hN; omega)
    intro sc hc ro hf n Q σ ds a w hr h
    simp only [compC] at hc
    split at hc
    · rename_i sx sy hx hy
      simp at hc; subst hc
      have hf1 : ro = none ∨ flat sx = true := hf.imp id fun h => by simp [flat] at h; exact h.1
      have hf2 : ro = none ∨ flat sy = true := hf.imp id fun h => by simp [flat] at h; exact h.2
      simp only [swp] at h
      split at h
      · rename_i he
        exact wpIn_cond_true (hr.knows _ _ he) (ihx sx hx ro hf1 n Q σ ds a w hr h)
      · rename_i he
        exact wpIn_cond_false (hr.knows _ _ he) (ihy sy hy ro hf2 n Q σ ds a w hr h)
      · exact h.elim
    · simp at hc
  | block id c =>
    have ih := IH c (by simp only [csize] at hN; omega)
    intro sc hc ro hf n Q σ ds a w hr h
    simp only [compC, Option.map_eq_some_iff] at hc
    obtain ⟨s, hs, rfl⟩ := hc
    refine wpIn_block (wpIn_mono (ih s hs ro (hf.imp (fun x => x) fun h => by simpa [flat] using h) n (blockQ id Q) σ ds a w hr h) ?_)
    rintro e a1 w1 ⟨σ1, ds1, hr1, hb1, hq⟩
    cases e with
    | exit id' =>
      simp only [blockQ] at hq
      simp only [Exit.inBlock]
      split
      · rename_i he; rw [if_pos he] at hq; exact ⟨σ1, ds1, hr1, hb1, hq⟩
      · rename_i he; rw [if_neg he] at hq; exact ⟨σ1, ds1, hr1, hb1, hq⟩
    | normal => exact ⟨σ1, ds1, hr1, hb1, hq⟩
    | goto l => exact ⟨σ1, ds1, hr1, hb1, hq⟩
    | ret => exact ⟨σ1, ds1, hr1, hb1, hq⟩
    | panic ch => exact ⟨σ1, ds1, hr1, hb1, hq⟩
    | outgrown => exact ⟨σ1, ds1, hr1, hb1, hq⟩
  | loop c =>
    have ih := IH c (by simp only [csize] at hN; omega)
    intro sc hc ro hf n Q σ ds a w hr h
    simp only [compC, Option.map_eq_some_iff] at hc
    obtain ⟨s, hs, rfl⟩ := hc
    simp only [swp] at h
    obtain ⟨ι, E, I, μ, i, hsub, hI, hround⟩ := h
    refine wpIn_loopN (fun m a' w' => ∃ i, μ i = m ∧ Rel (mk (E i)) nt ds a' ∧ SameB w w' ∧ I i w'.heap) (m := μ i) ⟨i, rfl, hr.sub (sub_mk hsub), SameB.refl w, hI⟩ ?_
    rintro m a1 w1 ⟨i1, hm1, hr1, hb1, hI1⟩
    refine wpIn_mono (ih s hs ro (hf.imp (fun x => x) fun h => by simpa [flat] using h) n _ (mk (E i1)) ds a1 w1 hr1 (hround i1 w1.heap hI1)) ?_
    rintro e a2 w2 ⟨σ2, ds2, hr2, hb2, hq⟩
    cases e with
    | normal =>
      obtain ⟨rfl, i2, hsub2, hI2, hlt⟩ := hq
      exact ⟨μ i2, by omega, i2, rfl, hr2.sub (sub_mk hsub2), hb1.trans hb2, hI2⟩
    | exit id => exact ⟨σ2, ds2, hr2, hb1.trans hb2, hq⟩
    | goto l => exact ⟨σ2, ds2, hr2, hb1.trans hb2, hq⟩
    | ret => exact ⟨σ2, ds2, hr2, hb1.trans hb2, hq⟩
    | panic ch => exact ⟨σ2, ds2, hr2, hb1.trans hb2, hq⟩
    | outgrown => exact ⟨σ2, ds2, hr2, hb1.trans hb2, hq⟩
  | scope c =>
    have ih := IH c (by simp only [csize] at hN; omega)
    intro sc hc ro hf n Q σ ds a w hr h
    simp only [compC] at hc
    split at hc
    · rename_i s hs
      split at hc
      · simp at hc; subst hc
        refine wpIn_scopeS (wpIn_mono (ih s hs ro (hf.imp (fun x => x) fun h => by simpa [flat] using h) n (scopeQ Q) σ ds a w hr h) ?_)
        rintro e a1 w1 ⟨σ1, ds1, hr1, hb1, hq⟩
        cases e with
        | goto l => exact hq.elim
        | exit id => exact ⟨σ1, ds1, hr1, hb1, hq⟩
        | normal => exact ⟨σ1, ds1, hr1, hb1, hq⟩
        | ret => exact ⟨σ1, ds1, hr1, hb1, hq⟩
        | panic ch => exact ⟨σ1, ds1, hr1, hb1, hq⟩
        | outgrown => exact ⟨σ1, ds1, hr1, hb1, hq⟩
      · rename_i l hl
        split at hc
        · rename_i r hfind
          simp at hc; subst hc
          have hro : ro = none := by rcases hf with hf | hf; exact hf; simp [flat] at hf
          subst hro
          obtain ⟨rest, h1, h2⟩ := sfind_comp c s l r hs hfind
          refine wpIn_scopeG h1 (wpIn_mono (ih s hs none (.inl rfl) n (jumpQ l (swp P r (scopeQ Q)) Q) σ ds a w hr h) ?_)
          rintro e a1 w1 ⟨σ1, ds1, hr1, hb1, hq⟩
          cases e with
          | goto l' =>
            obtain ⟨rfl, hq⟩ := hq
            refine ⟨rfl, ?_⟩
            have hsz := csize_find c l' rest h1
            refine wpIn_mono (IH rest (by simp only [csize] at hN; omega) r h2 none (.inl rfl) n (scopeQ Q) σ1 ds1 a1 w1 hr1 hq) ?_
            rintro e a2 w2 ⟨σ2, ds2, hr2, hb2, hq2⟩
            cases e with
            | goto l => exact hq2.elim
            | exit id => exact ⟨σ2, ds2, hr2, hb1.trans hb2, hq2⟩
            | normal => exact ⟨σ2, ds2, hr2, hb1.trans hb2, hq2⟩
            | ret => exact ⟨σ2, ds2, hr2, hb1.trans hb2, hq2⟩
            | panic ch => exact ⟨σ2, ds2, hr2, hb1.trans hb2, hq2⟩
            | outgrown => exact ⟨σ2, ds2, hr2, hb1.trans hb2, hq2⟩
          | exit id => exact ⟨σ1, ds1, hr1, hb1, hq⟩
          | normal => exact ⟨σ1, ds1, hr1, hb1, hq⟩
          | ret => exact ⟨σ1, ds1, hr1, hb1, hq⟩
          | panic ch => exact ⟨σ1, ds1, hr1, hb1, hq⟩
          | outgrown => exact ⟨σ1, ds1, hr1, hb1, hq⟩
        · simp at hc
    · simp at hc
  | exit id =>
    intro sc hc ro hf n Q σ ds a w hr h
    simp [compC] at hc; subst hc
    exact wpIn_exit ⟨σ, ds, hr, SameB.refl w, h⟩
  | ret =>
    intro sc hc ro hf n Q σ ds a w hr h
    simp [compC] at hc; subst hc
    exact wpIn_ret ⟨σ, ds, hr, SameB.refl w, h⟩
  | goto l =>
    intro sc hc ro hf n Q σ ds a w hr h
    simp [compC] at hc; subst hc
    exact wpIn_goto ⟨σ, ds, hr, SameB.refl w, h⟩
  | refuse s =>
    intro sc hc ro hf n Q σ ds a w hr h
    simp [compC] at hc; subst hc
    exact (stuck_false h).elim
  | rangeFunc g ps ca cb =>
    have iha := IH ca (by simp only [csize] at hN; omega)
    have ihb := IH cb (by simp only [csize] at hN; omega)
    intro sc hc ro hf n Q σ ds a w hr h
    simp only [compC] at hc
    split at hc
    · rename_i sa sb ha hb
      split at hc
      · rename_i hall
        obtain ⟨hps, hfa, hfb⟩ := hall
        simp at hc; subst hc
        have hro : ro = none := by rcases hf with hf | hf; exact hf; simp [flat] at hf
        subst hro
        have hps' : ∀ p ∈ ps.toList, p < nt := fun p hp => Nat.le_of_ble_eq_true (List.all_eq_true.1 hps p hp)
        simp only [swp] at h
        split at h
        · rename_i f fi cap hg
          have hgv := hr.knows _ _ hg
          refine wpIn_rangeFunc fun fn _ => ?_
          obtain ⟨r, hrdef⟩ : ∃ r : Loop, r = { state := .ready, pending := none, fn, tmps := a.tmps, params := ps, assign := ca, body := cb, defers := w.heap.size } := ⟨_, rfl⟩
          obtain ⟨w1, hw1⟩ : ∃ w1, w1 = (w.alloc (.deferred (some []))).alloc (.loop r) := ⟨_, rfl⟩
          have hh1 : w1.heap = (w.heap.push (.deferred (some []))).push (.loop r) := by rw [hw1]; rfl
          have hL : LoopB w1.heap (w.heap.size + 1) r .ready none := ⟨by
            rw [hh1, hrdef, Array.getElem?_push, if_pos (by simp)]⟩
          have hcalls := h (w.heap.size + 1) w.heap.size r w1.heap rfl rfl (by rw [hh1]; simp) (fun k hk => by
              rw [hh1, Array.getElem?_push, if_neg (by simp; omega), Array.getElem?_push, if_neg (by omega)]) (by
              rw [hh1, Array.getElem?_push, if_neg (by simp), Array.getElem?_push, if_pos rfl]) hL ?_
          · refine ⟨w.heap.size + 1, [{ target := .collected w.heap.size, args := #[] }], w1, { target := .fn (.func f) cap, args := fi ++ #[.func (.yield (w.heap.size + 1)) #[] #[]] }, w1, f,
              ⟨fi.toList ++ [.func (.yield (w.heap.size + 1)) #[] #[]] ++ cap.toList⟩, w1, ?_, ?_, fun _ _ => trivial, ?_, fun hd => by simp [FW, Fence.wide] at hd, ?_⟩
            · have := run_enterLoop_outer (P := P) (w := w) fn a.tmps ps ca cb
              rw [hw1, hrdef]; exact this
            · have hc : a.eval (.const (.func (.yield (w.heap.size + 1)) #[] #[])) = .func (.yield (w.heap.size + 1)) #[] #[] := rfl
              simp [resolve, hgv, Deferred.ofValue, hc]
            · have e : fi ++ #[Value.func (.yield (w.heap.size + 1)) #[] #[]] ++ cap = ⟨fi.toList ++ [.func (.yield (w.heap.size + 1)) #[] #[]] ++ cap.toList⟩ := by apply Array.ext'; simp
              simp only [invoke]
              rw [e]
              exact okFn_call hcalls.1 _ _
            · refine callsIn_FW.2 ((hcalls.2 w1 rfl).mono ?_)
              rintro e w2 ⟨he, hne, h1, h2, h3⟩
              have hb1 : SameB w w2 := ⟨h1.trans (by rw [hw1]; rfl), h2.trans (by rw [hw1]; rfl), h3.trans (by rw [hw1]; rfl)⟩
              cases e with
              | panicked ch => exact he.elim
              | outgrown => exact he.elim
              | returned v =>
                obtain ⟨st, p, hlp, hbusy, hend⟩ := he
                have hre := run_endLoop (P := P) (w := w2) hlp.at_ hbusy
                have hr2 : Rel σ nt ({ target := .collected w.heap.size, args := #[] } :: ds) { a with defers := [{ target := .collected w.heap.size, args := #[] }] ++ a.defers } :=
                  ⟨hr.size, by simp [hr.defers], hr.knows⟩
                have hq := hend _ (turn_of_put (r := r) hlp.at_ .exhausted p)
                refine ⟨p, _, hre, ?_⟩
                cases p with
                | none => exact ⟨σ, _, hr2, hb1, hq⟩
                | some c =>
                  cases c with
                  | ret => exact wpIn_ret ⟨σ, _, hr2, hb1, hq⟩
                  | exit id => exact wpIn_exit ⟨σ, _, hr2, hb1, hq⟩
                  | _ => exact hq.elim
          · -- a round
            intro h2 args R hl2 hlen hsw w2 hw2
            subst hw2
            have hlen' : (⟨args⟩ : Array Value).size = r.params.size := by rw [hrdef]; simpa using hlen
            have hy := run_yield (P := P) (w := w2) (args := ⟨args⟩) hl2.at_ hlen'
            refine ⟨_, _, _, _, hy, ?_⟩
            have hrel : Rel (updL σ ps.toList args) nt [] { tmps := (ps.toList.zip args).foldl (fun t (x : Nat × Value) => t.setIfInBounds x.1 x.2) a.tmps, defers := [] } := by
              have := Rel.put_list (nt := nt) (ds := []) ps.toList args σ { a with defers := [] } ⟨hr.size, rfl, hr.knows⟩ hps' hlen
              exact this
            have htmps : (r.params.zip (⟨args⟩ : Array Value)).foldl (fun tmps (x : Tmp × Value) => tmps.setIfInBounds x.1 x.2) r.tmps = (ps.toList.zip args).foldl (fun t (x : Nat × Value) => t.setIfInBounds x.1 x.2) a.tmps := by
              rw [hrdef, ← Array.foldl_toList, Array.toList_zip]
            refine roundIn_of_wpIn (F := Fence.wide) trivial ?_
            have key : ca.wpIn (FW (some (w.heap.size + 1))) 0 P (Exit.then (fun a₁ w₁ => ∃ w₂, (Instr.beginRound (w.heap.size + 1)).run P w₁ = .ok () w₂ ∧
                cb.wpIn (FW (some (w.heap.size + 1))) 0 P (roundPost P (w.heap.size + 1) fun e w' => R e w'.heap ∧ e ≠ .outgrown ∧ w'.os = w2.os ∧ w'.output = w2.output ∧ w'.tape = w2.tape) a₁ w₂) (fun _ _ _ => False))
                { tmps := (ps.toList.zip args).foldl (fun t (x : Nat × Value) => t.setIfInBounds x.1 x.2) a.tmps, defers := [] } w2 := by
              refine wpIn_mono (iha sa ha (some (w.heap.size + 1)) (.inr hfa) 0 _ _ [] _ w2 hrel hsw) ?_
              rintro e a3 w3 ⟨σ3, ds3, hr3, hb3, hq⟩
              cases e with
              | normal =>
                obtain ⟨hl3, hbody⟩ := hq
                have hbr := run_beginRound (P := P) (w := w3) hl3.at_ rfl
                have hturn := turn_of_put (r := r) hl3.at_ .busy none
                have hsw4 := hbody _ hturn
                refine ⟨_, hbr, wpIn_mono (ihb sb hb (some (w.heap.size + 1)) (.inr hfb) 0 _ σ3 ds3 a3 _ hr3 hsw4) ?_⟩
                rintro e a5 w5 ⟨σ5, ds5, hr5, hb5, hq⟩
                have hb35 : SameB w2 w5 := hb3.trans (SameB.trans ⟨rfl, rfl, rfl⟩ hb5)
                cases e with
                | normal =>
                  obtain ⟨hl5, hR⟩ := hq
                  have hre := run_endRound (P := P) (w := w5) none hl5.at_
                  exact ⟨_, _, hre, hR _ (turn_of_put (r := r) hl5.at_ .ready none), by simp, hb35⟩
                | ret =>
                  obtain ⟨hl5, hR⟩ := hq
                  have hre := run_endRound (P := P) (w := w5) (some .ret) hl5.at_
                  exact ⟨_, _, hre, hR _ (turn_of_put (r := r) hl5.at_ .done (some .ret)), by simp, hb35⟩
                | exit id =>
                  obtain ⟨hl5, hR⟩ := hq
                  have hre := run_endRound (P := P) (w := w5) (some (.exit id)) hl5.at_
                  exact ⟨_, _, hre, hR _ (turn_of_put (r := r) hl5.at_ .done (some (.exit id))), by simp, hb35⟩
                | goto l => exact hq.elim
                | panic ch => exact hq.elim
                | outgrown => exact hq.elim
              | _ => exact hq.elim
            rw [hrdef] at htmps ⊢
            simp only at htmps ⊢
            rw [htmps]
            exact key
        · exact h.elim
      · simp at hc
    · simp at hc

theorem comp_sound (hm : P.follows .mixedOrders = true) (c : Code) (sc : SCode) (hc : compC fl P nt c = some sc) (ro : Option Nat) (hf : ro = none ∨ flat sc = true) (n : Nat) (Q : Post) (σ : Env) (ds : List Deferred) (a : Act) (w : World)
    (hr : Rel σ nt ds a) (h : swp P sc Q σ ds w.heap) : c.wpIn (FW ro) n P (Lift nt w Q) a w :=
  comp_soundN hm (csize c) c (Nat.le_refl _) sc hc ro hf n Q σ ds a w hr h

end Go.Sx
